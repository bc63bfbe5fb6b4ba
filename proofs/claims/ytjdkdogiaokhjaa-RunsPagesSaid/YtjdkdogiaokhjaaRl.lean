/- Runs: Map. -/
import Derived.Test.YtjdkdogiaokhjaaRk
import Derived.Laws.EntriesVeiled
import Derived.Shelf.Abstract
import Derived.Shelf.RegionOpen
import Derived.Test.YtjdkdogiaokhjaaRfa
namespace Go.Proofs.Ytjdkdogiaokhjaa
open Go.RowKit Go.Proofs
set_option linter.unusedSimpArgs false
set_option linter.unusedVariables false
attribute [local go_sem] Oper.semAt_some

theorem caught_idle_in (b : Nat) (w : World) :
    CallsDIn Fence.wide 0 Try.prog 49 #[.pointer (some ⟨b, 0, none⟩)] .returning w fun r u' w' => r = .returned (.tuple #[]) ∧ u' = .returning ∧ w' = w := by
  refine callsDIn_of_wpSIn Try.func49 rfl trivial fun c₀ cs hu => ?_
  simp only [Try.ntmps49, List.size_toArray, List.length_cons, List.length_nil, Nat.reduceAdd, Nat.reduceSub, Array.replicate_succ, Array.replicate_zero, List.push_toArray, List.append_toArray, List.nil_append, List.cons_append]
  apply wpSIn_seq
  apply wpSIn_region
  simp [wpOpsSIn, go_sem, recoverD, hu, fault, Exit.thenS]
  refine wpSIn_of_wpIn rfl ?_
  gi_wp2
  refine ⟨rfl, _, ?_, _, results_none rfl _ _ _, rfl, rfl, rfl⟩
  rw [← hu]
/-- the end of a function behind a range over a function: the mark, then 'caught' -/
theorem door_mark {fn : Func} {tmps : Array Value} {R : Ending → World → Prop} {b d : Nat} {w : World} {v : Value} (hD : w.heap[d]? = some (.deferred (some [])))
    (hr : (results fn tmps).run Try.prog (w.putObj d (.deferred none)) = .ok v (w.putObj d (.deferred none))) (h : R (.returned v) (w.putObj d (.deferred none))) :
    LeavesInM Fence.wide 0 Try.prog fn tmps R [{ target := .collected d, args := #[] }, { target := .fn (.func 49) #[], args := #[.pointer (some ⟨b, 0, none⟩)] }] .returning w := by
  refine ⟨by simp, .inl ⟨_, _, rfl, run_takeDeferred hD, ?_⟩⟩
  refine ⟨by simp, .inr ⟨by simp [Fence.wide], _, #[], 49, #[.pointer (some ⟨b, 0, none⟩)], rfl, by simp [go_sem], fun _ _ => trivial, ?_⟩⟩
  refine (caught_idle_in b _).mono ?_
  rintro e u' w'' ⟨rfl, rfl, rfl⟩
  exact ⟨v, hr, h⟩
theorem enters72' (args : Array Value) (w : World) : (callFunc 72 args).run Try.prog w = .ok (.enter 72 args) w := enters_of Try.func72 (by kernel_rfl) rfl args w
def mapAt (page : Int) : Int → List R → Int × Int
  | _, [] => (0, 0)
  | pos, r :: l => if page < pos + r.2 then (if r.1 = -1 then -1 else r.1 + (page - pos), pos + r.2 - page) else mapAt page (pos + r.2) l
theorem mapAt_drop (page : Int) (l : List R) (k : Nat) (h : k < l.length) (pos : Int) :
    mapAt page pos (l.drop k) = if page < pos + l[k].2 then (if l[k].1 = -1 then -1 else l[k].1 + (page - pos), pos + l[k].2 - page) else mapAt page (pos + l[k].2) (l.drop (k + 1)) := by
  rw [List.drop_eq_getElem_cons h]; rfl
theorem Mild.norm_ {l : List R} (h : Mild l) : Mild (norm l) := ⟨Nums.norm_ h.1, by rw [norm_sum]; exact h.2⟩
/-- 'joined' of one mapping, its slice just built -/
theorem joined_one (A : Option Addr) (l : List R) (c : Nat) (w : World) (hR : Rd w A l) (hn : l.length ≤ 1048576) (hm : Mild l) :
    Calls Try.prog 52 #[.slice (some ⟨w.heap.size, 0, none⟩) 1 1] (w.alloc (.cells #[.slice A l.length c] 22)) fun e w' => ∃ v, e = .returned v ∧ OwnR w' w.heap.size v (norm l) ∧ Below w.heap.size w w' := by
  have hRL := RdL.built w [(.slice A l.length c, l)] 22 (by intro p hp; simp only [List.mem_cons, List.mem_nil_iff, or_false] at hp; subst hp; exact ⟨A, c, rfl, hR⟩)
  have hcat : cat [(.slice A l.length c, l)] = l := by simp [cat]
  have hJ := joined_any (some ⟨w.heap.size, 0, none⟩) _ 1 _ hRL (by simp) (by rw [hcat]; omega) (by rw [hcat]; intro r hr; have := hm.1 r hr; omega) (by rw [hcat]; have := hm.2; omega)
  rw [hcat] at hJ
  refine hJ.mono ?_
  rintro e w1 ⟨v, rfl, ho, hB⟩
  exact ⟨v, rfl, own_weak ho (by simp), (below_alloc1 w _).trans (hB.mono (by simp))⟩
structure MI (n : Nat) (w : World) (page to many : Int) (W : World) : Prop where
  b0 : Boxed W n 3 (.int .i64 page)
  b1 : Boxed W (n + 1) 3 (.int .i64 to)
  b2 : Boxed W (n + 1 + 1) 3 (.int .i64 many)
  b3 : Boxed W (n + 1 + 1 + 1) 26 (.int .i64 0)
  below : Below n w W
  size : n + 4 ≤ W.heap.size
theorem MI.ext {n : Nat} {w : World} {page to many : Int} {W W' : World} {O : Nat → Prop} (h : MI n w page to many W) (he : Ext O W W') (ho : ∀ b, O b → n + 4 ≤ b) : MI n w page to many W' :=
  ⟨boxed_ext h.b0 he (fun h => by have := ho _ h; omega), boxed_ext h.b1 he (fun h => by have := ho _ h; omega), boxed_ext h.b2 he (fun h => by have := ho _ h; omega), boxed_ext h.b3 he (fun h => by have := ho _ h; omega), below_ext h.below he (by have := h.size; omega) (fun b hb => by have := ho b hb; omega), by have := he.size; have := h.size; omega⟩
theorem MI.setTo {n : Nat} {w : World} {page to many : Int} {W : World} (h : MI n w page to many W) (x : Int) : MI n w page x many (W.setCell ⟨n + 1, 0, none⟩ (.int .i64 x)) :=
  ⟨h.b0.other (by omega) _, h.b1.set _, h.b2.other (by omega) _, h.b3.other (by omega) _, h.below.setCell (by show n ≤ n + 1; omega) _, by have := (ext_set_at W (n + 1) 0 (.int .i64 x)).size; have := h.size; omega⟩
theorem MI.setMany {n : Nat} {w : World} {page to many : Int} {W : World} (h : MI n w page to many W) (x : Int) : MI n w page to x (W.setCell ⟨n + 1 + 1, 0, none⟩ (.int .i64 x)) :=
  ⟨h.b0.other (by omega) _, h.b1.other (by omega) _, h.b2.set _, h.b3.other (by omega) _, h.below.setCell (by show n ≤ n + 1 + 1; omega) _, by have := (ext_set_at W (n + 1 + 1) 0 (.int .i64 x)).size; have := h.size; omega⟩
theorem MI.setErr {n : Nat} {w : World} {page to many : Int} {W : World} (h : MI n w page to many W) : MI n w page to many (W.setCell ⟨n + 1 + 1 + 1, 0, none⟩ (.int .i64 0)) :=
  ⟨h.b0.other (by omega) _, h.b1.other (by omega) _, h.b2.other (by omega) _, h.b3.set _, h.below.setCell (by show n ≤ n + 1 + 1 + 1; omega) _, by have := (ext_set_at W (n + 1 + 1 + 1) 0 (.int .i64 0)).size; have := h.size; omega⟩
theorem wrap_id {n : Int} (h1 : -9223372036854775808 ≤ n) (h2 : n ≤ 9223372036854775807) : IntKind.i64.wrap n = n := by
  rw [IntKind.wrap_i64]; omega
set_option maxRecDepth 100000 in
set_option maxHeartbeats 2000000 in
theorem Map_ok (A : Option Addr) (l : List R) (c : Nat) (page : Int) (w : World) (hR : Rd w A l) (hn : l.length ≤ 1048576) (h0 : mustE l = 0) (hp0 : 0 ≤ page) (hp1 : page < sumR l) :
    Calls Try.prog 33 #[.slice A l.length c, .int .i64 page] w (ResN w (mapAt page 0 (norm l)).1 (mapAt page 0 (norm l)).2 0) := by
  have H0 := Lib.hid h0
  have hm := mild_of_must h0
  have HP := Lib.hid (fun W (hR : Rd W A l) => pages_any A l c W hR hn hm.fine.small)
  have hd0 : decide (0 ≤ page) = true := by simpa using hp0
  have hd1 : decide (page < sumR l) = true := by simpa using hp1
  refine calls_of_wp_marks Try.func33 rfl ?_
  simp only [Try.ntmps33, List.size_toArray, List.length_cons, List.length_nil, Nat.reduceAdd, Nat.reduceSub, Array.replicate_succ, Array.replicate_zero, List.push_toArray, List.append_toArray, List.nil_append, List.cons_append]
  go_wp2_with fail
  obtain ⟨wl, hwl⟩ : ∃ wl, (((w.alloc (.cells #[.int .i64 page] 3)).alloc (.cells #[.int .i64 0] 3)).alloc (.cells #[.int .i64 0] 3)).alloc (.cells #[.int .i64 0] 26) = wl := ⟨_, rfl⟩
  have hmi : MI w.heap.size w page 0 0 wl := by
    rw [← hwl]
    refine ⟨((((Boxed.new w _ _).alloc _).alloc _).alloc _), ?_, ?_, ?_, ?_, by simp⟩
    · have := Boxed.new (w.alloc (.cells #[.int .i64 page] 3)) 3 (.int .i64 0)
      rw [World.size_alloc] at this
      exact (this.alloc _).alloc _
    · have := Boxed.new ((w.alloc (.cells #[.int .i64 page] 3)).alloc (.cells #[.int .i64 0] 3)) 3 (.int .i64 0)
      rw [World.size_alloc, World.size_alloc] at this
      exact this.alloc _
    · have := Boxed.new (((w.alloc (.cells #[.int .i64 page] 3)).alloc (.cells #[.int .i64 0] 3)).alloc (.cells #[.int .i64 0] 3)) 26 (.int .i64 0)
      rw [World.size_alloc, World.size_alloc, World.size_alloc] at this
      exact this
    · exact ((((Below.refl _ w).alloc (Nat.le_refl _) _).alloc (by simp) _).alloc (by simp; omega) _).alloc (by simp; omega) _
  rw [hwl]
  have hRl := hR.below hmi.below
  clear hwl
  refine (must_ok H0 hRl hn).mono ?_
  rintro e w1 ⟨rfl, hB⟩
  replace hmi := hmi.ext (Ext.of_below (O := fun _ => False) hB) (fun _ h => h.elim)
  replace hRl := hRl.below hB
  have hc0 := hmi.b0.cell
  clear hB
  go_wp2_with fail
  have hmd : MI w.heap.size w page 0 0 w1.drew := hmi.ext (O := fun _ => False) ⟨rfl, rfl, rfl, Nat.le_refl _, fun _ _ _ => rfl⟩ (fun _ h => h.elim)
  have hRd : Rd w1.drew A l := hRl.below ⟨rfl, rfl, rfl, Nat.le_refl _, fun _ _ => rfl⟩
  have hcd := hmd.b0.cell
  refine wp_meets (fun w2 => MI w.heap.size w page 0 0 w2 ∧ Rd w2 A l) { tmps := #[.slice A l.length c, .int .i64 page, undef, .pointer (some ⟨w.heap.size, 0, none⟩), .pointer (some ⟨w.heap.size + 1, 0, none⟩), .pointer (some ⟨w.heap.size + 1 + 1, 0, none⟩), .pointer (some ⟨w.heap.size + 1 + 1 + 1, 0, none⟩), undef, undef, .slice A l.length c, .tuple #[], .int .i64 page, .bool true, .bool true, .int .i64 page, .slice A l.length c, .int .i64 (sumR l), .bool true, .bool true, .tuple #[], undef, undef, undef, undef, undef, undef, undef, undef, undef, undef, undef, undef, undef, undef, undef, undef, undef, undef, undef, undef, undef, undef, undef, undef, undef, undef, undef, undef, undef], defers := [{ target := .fn (.func 49) #[], args := #[.pointer (some ⟨w.heap.size + 1 + 1 + 1, 0, none⟩)] }] } ?_ ?_
  · go_region_with (first | (go_at_call 56; (with_reducible refine (HP.out _ hRd).mono ?_); rintro e w2 ⟨rfl, hB⟩; have hmi2 := hmd.ext (Ext.of_below (O := fun _ => False) hB) (fun _ h => h.elim); have hR2 := hRd.below hB; have hc2 := hmi2.b0.cell) | (go_at_call 55; (with_reducible refine need_rule _ _ ?_ ?_) <;> intro hq <;> (first | (cases hq; done) | skip) <;> (try simp only [decide_eq_true_eq, decide_eq_false_iff_not, Bool.or_eq_true, Bool.or_eq_false_iff, Bool.and_eq_true, Bool.and_eq_false_iff, beq_iff_eq, beq_eq_false_iff_ne, ne_eq, bne_iff_ne, Bool.not_eq_true, Int.not_le, Int.not_lt] at hq) <;> go_prune))
    all_goals exact ⟨rfl, hmi2, hR2⟩
  rintro w2 ⟨hmi2, hR2⟩
  have hsl := Lib.hid hmi2.size
  have hJ := joined_one A l c w2 hR2 hn hm
  have hpb : page ≤ 8589934592 := by have := hm.2; omega
  clear hmd hRd hcd hmi hRl hc0 HP hd0 hd1 hR hp1 h0 H0
  go_wp2_with fail
  refine hJ.mono ?_
  rintro e w3 ⟨v, rfl, ho, hB⟩
  obtain ⟨A1, c1, rfl, hc1, hcm1, hR1⟩ := own_form ho
  have hmi3 := hmi2.ext (Ext.of_below (O := fun _ => False) hB) (fun _ h => h.elim)
  have hmn := hm.norm_
  have hnl : (norm l).length ≤ 1048576 := Nat.le_trans (norm_len l) hn
  clear hJ hmi2 hR2 hm hn ho
  generalize norm l = l' at *
  clear hB
  have HS := Lib.hid (fun w => starts_any A1 l'.length c1 w)
  go_wp2_with (first | (go_at_call 65; (with_reducible refine (HS.out _).mono ?_); rintro e w4 ⟨rfl, rfl⟩))
  clear HS
  have hc4 : (w3.alloc (.cells #[.slice A1 l'.length c1] 22)).cell? ⟨w3.heap.size, 0, none⟩ = some (.slice A1 l'.length c1) := by simp [go_sem]
  have hG := starts_gives w3.heap.size A1 l' c1 _ hc4 (hR1.below (below_alloc1 _ _)) hnl hmn.fine.small
  have hmi4 := hmi3.ext (Ext.of_below (O := fun _ => False) (below_alloc1 w3 (.cells #[.slice A1 l'.length c1] 22))) (fun _ h => h.elim)
  obtain ⟨wl, hwl⟩ : ∃ wl, w3.alloc (.cells #[.slice A1 l'.length c1] 22) = wl := ⟨_, rfl⟩
  have hR4 : Rd wl A1 l' := by rw [← hwl]; exact hR1.below (below_alloc1 _ _)
  have hws : wl.heap.size = w3.heap.size + 1 := by rw [← hwl]; simp
  rw [hwl] at hG hmi4 ⊢
  clear hwl hc4 hmi3 hR1
  refine wp_rangeFunc_gives (gf := 72) (lb := #[.pointer (some ⟨w3.heap.size, 0, none⟩)]) rfl enters72' hG ?hps (fun b hb => hb.elim) ?hK
    (I := fun k W => MI w.heap.size w page 0 0 W ∧ mapAt page 0 l' = mapAt page (sumR (l'.take k)) (l'.drop k))
    (Ix := fun c k W => c = .exit 0 ∧ MI w.heap.size w page (mapAt page 0 l').1 (mapAt page 0 l').2 W) ?hI ?hIl ?hIx ?hIxl ?h0
    (Asg := fun k W1 a₁ W2 => W2 = W1.alloc (.cells #[.int .i64 (l'.getD k (0, 0)).1, .int .i64 (l'.getD k (0, 0)).2] 53) ∧ a₁ = { tmps := #[.slice A l.length c, .int .i64 page, undef, .pointer (some ⟨w.heap.size, 0, none⟩), .pointer (some ⟨w.heap.size + 1, 0, none⟩), .pointer (some ⟨w.heap.size + 1 + 1, 0, none⟩), .pointer (some ⟨w.heap.size + 1 + 1 + 1, 0, none⟩), .int .i64 (sumR (l'.take k)), .pointer (some ⟨W1.heap.size, 0, none⟩), .slice A l.length c, .tuple #[], .int .i64 page, .bool true, .bool true, .int .i64 page, .slice A l.length c, .int .i64 (sumR l), .bool true, .bool true, .tuple #[], .slice A l.length c, .slice (some ⟨w2.heap.size, 0, none⟩) 1 1, .slice A1 l'.length c1, .func (.func 72) #[] #[.pointer (some ⟨w3.heap.size, 0, none⟩)], .int .i64 (sumR (l'.take k)), .agg #[.int .i64 (l'.getD k (0, 0)).1, .int .i64 (l'.getD k (0, 0)).2], undef, undef, undef, undef, undef, undef, undef, undef, undef, undef, undef, undef, undef, undef, undef, undef, undef, undef, undef, undef, undef, undef, undef], defers := [] })
    ?hassign ?hbody ?hdone ?hstop
  case hps => intro k; rfl
  case hK => intro b hb; have := hR4.blk_lt b hb; omega
  case hI => exact fun k W1 W2 h he => ⟨h.1.ext he (fun b hb => hb.elim), h.2⟩
  case hIl =>
    rintro k W1 o o' ⟨h, h'⟩ hl
    exact ⟨h.ext (Ext.putObj (O := fun b => b = wl.heap.size + 1) _ rfl) (fun b hb => by have := hmi4.size; omega), h'⟩
  case hIx => exact fun c k W1 W2 h he => ⟨h.1, h.2.ext he (fun b hb => hb.elim)⟩
  case hIxl =>
    rintro c k W1 o o' ⟨h, h'⟩ hl
    exact ⟨h, h'.ext (Ext.putObj (O := fun b => b = wl.heap.size + 1) _ rfl) (fun b hb => by have := hmi4.size; omega)⟩
  case h0 => exact ⟨hmi4, rfl⟩
  case hassign =>
    intro k W1 Kc hK
    simp only [startArgs]
    gi_wp2
    exact hK _ _ ((Ext.refl _ _).alloc _) ⟨rfl, rfl⟩
  case hbody =>
    rintro k W0 W1 a₁ W2 W3 hk ⟨hI, hmap⟩ ⟨⟨o, hlo⟩, hdo⟩ he ⟨rfl, rfl⟩ hcells hs3 h01 h0s
    obtain ⟨r, hr⟩ : ∃ r, l'.getD k (0, 0) = r := ⟨_, rfl⟩
    rw [hr] at hcells hs3 ⊢
    have hI3 : MI w.heap.size w page 0 0 W3 := hI.ext he (fun b hb => by have := hmi4.size; rcases hb with h | h; exact h.elim; omega)
    have hlt3 : W1.heap.size ≠ wl.heap.size + 1 := by omega
    have c0 : W3.cell? ⟨W1.heap.size, 0, none⟩ = some (.int .i64 r.1) := by rw [(hcells ⟨W1.heap.size, 0, none⟩ hlt3).1]; simp [go_sem]
    have c1' : W3.cell? ⟨W1.heap.size, 1, none⟩ = some (.int .i64 r.2) := by rw [(hcells ⟨W1.heap.size, 1, none⟩ hlt3).1]; simp [go_sem]
    have hkl : l'.getD k (0, 0) = l'[k] := by simp [List.getD_eq_getElem?_getD, List.getElem?_eq_getElem hk]
    have hrk : l'[k] = r := hkl.symm.trans hr
    have hel := hmn.1 l'[k] (List.getElem_mem hk)
    have hmk := Mild.take hmn k
    have hsk := sumR_nonneg (l := l'.take k) (fun r hr => (hmk.1 r hr).2.2)
    have hsk2 := hmk.2
    have hek := sumR_mem (fun r hr => (hmn.1 r hr).2.2) l'[k] (List.getElem_mem hk)
    have hms := hmn.2
    have hdr := mapAt_drop page l' k hk (sumR (l'.take k))
    have hts := sumR_take_succ l' k hk
    rw [hrk] at hel hek hdr hts
    rw [hdr] at hmap
    have hsz := hI3.size
    rw [World.size_alloc] at hs3
    have hmix : Try.prog.follows .mixedOrders = true := by kernel_rfl
    clear hlo hdo he hcells hI hkl hrk hr hdr hmk
    obtain ⟨rt, rm⟩ := r
    simp only at c0 c1' hel hek hts hmap ⊢
    obtain ⟨e1, e2, e3⟩ := hel
    by_cases hpg : page < sumR (l'.take k) + rm
    · rw [if_pos hpg] at hmap
      have HM := Lib.hid hmap
      have b0 := hI3.b0.cell
      have b1 := hI3.b1.cell
      have b2 := hI3.b2.cell
      clear hmap hts
      gi_wp2_with fail
      refine wpIn_region_held_round 8 (fun W => W.cell? ⟨W1.heap.size, 0, none⟩ = some (.int .i64 rt) ∧ W.cell? ⟨W1.heap.size, 1, none⟩ = some (.int .i64 rm) ∧ W.cell? ⟨w.heap.size, 0, none⟩ = some (.int .i64 page))
        (by kernel_rfl) (fun ⟨_, _, h⟩ => h) (fun _ _ _ _ h => h) (by kernel_rfl) (by kernel_rfl) (fun wd hwd => ⟨hwd.cell c0 (fun h => h), hwd.cell c1' (fun h => h), hwd.cell b0 (fun h => h)⟩) fun wd hwd => ?_
      have hI4 := hI3.ext hwd (fun _ h => h.elim)
      have c0d := hwd.cell c0 (fun h => h)
      have c1d := hwd.cell c1' (fun h => h)
      simp only [List.take_succ_cons, List.take_zero, List.drop_succ_cons, List.drop_zero]
      repeat (refine wpHead_step ?_ (by rfl) (fun WW hWW => ?_) ?_; rotate_left; (· (obtain ⟨q0, q1, q2⟩ := hWW; go_simp; with_reducible rfl)); try simp only [Act.put, List.setIfInBounds_toArray, List.set_cons_zero, List.set_cons_succ])
      refine wpHead_nil ?_
      have hw1 : IntKind.i64.wrap (sumR (l'.take k) + rm) = sumR (l'.take k) + rm := wrap_id (by omega) (by omega)
      have hp2 : IntKind.i64.wrap (sumR (l'.take k) + rm - page) = sumR (l'.take k) + rm - page := wrap_id (by omega) (by omega)
      rw [hw1, hp2]
      have x1 : w.heap.size + 1 ≠ w.heap.size := by omega
      have x2 : w.heap.size + 1 + 1 ≠ w.heap.size := by omega
      have x3 : w.heap.size + 1 ≠ W1.heap.size := by omega
      have x4 : w.heap.size + 1 + 1 ≠ W1.heap.size := by omega
      have z1 := hI4.b1.frozen
      have z2 := hI4.b2.frozen
      have d1 := hI4.b1.cell
      have d2 := hI4.b2.cell
      refine wpTail_step (fun K' hK' => ?_)
      go_simp
      have hE5 : Ext (fun b => b = w.heap.size + 1) wd (wd.setCell ⟨w.heap.size + 1, 0, none⟩ (.int .i64 rt)) := ext_set_at _ _ _ _
      refine hK' _ _ ⟨hE5.cell c0d (Ne.symm x3), hE5.cell c1d (Ne.symm x3), hE5.cell hI4.b0.cell (Ne.symm x1)⟩ ?_
      clear hK' K'
      have hI5 := hI4.setTo rt
      obtain ⟨w5, hw5⟩ : ∃ w5, wd.setCell ⟨w.heap.size + 1, 0, none⟩ (.int .i64 rt) = w5 := ⟨_, rfl⟩
      have c05 := hE5.cell c0d (Ne.symm x3)
      have c15 := hE5.cell c1d (Ne.symm x3)
      rw [hw5] at hI5 hE5 c05 c15 ⊢
      have hX5 := (hwd.mono fun _ h => h.elim).trans hE5
      clear hw5 hI4 c0d c1d z1 d1 z2 d2 hE5
      have z2 := hI5.b2.frozen
      have d2 := hI5.b2.cell
      refine wpTail_step (fun K' hK' => ?_)
      go_simp
      have hE6 : Ext (fun b => b = w.heap.size + 1 + 1) w5 (w5.setCell ⟨w.heap.size + 1 + 1, 0, none⟩ (.int .i64 (sumR (l'.take k) + rm - page))) := ext_set_at _ _ _ _
      refine hK' _ _ ⟨hE6.cell c05 (Ne.symm x4), hE6.cell c15 (Ne.symm x4), hE6.cell hI5.b0.cell (Ne.symm x2)⟩ ?_
      clear hK' K'
      have hI6 := hI5.setMany (sumR (l'.take k) + rm - page)
      obtain ⟨w6, hw6⟩ : ∃ w6, w5.setCell ⟨w.heap.size + 1 + 1, 0, none⟩ (.int .i64 (sumR (l'.take k) + rm - page)) = w6 := ⟨_, rfl⟩
      rw [hw6] at hI6 hE6 ⊢
      have hX6 : Ext (fun b => b = w.heap.size + 1 ∨ b = w.heap.size + 1 + 1) W3 w6 := (hX5.mono fun _ h => .inl h).trans (hE6.mono fun _ h => .inr h)
      clear hw6 hI5 hE6 c05 c15 hX5 z2 d2 hI3 b0 b1 b2 hwd c0 c1'
      refine wpTail_nil ?_
      have b0 := hI6.b0.cell
      have b1 := hI6.b1.cell
      have z1 := hI6.b1.frozen
      have hfin : ∀ w7, Ext (fun b => b = w.heap.size + 1 ∨ b = w.heap.size + 1 + 1) W3 w7 → ∀ b, b = wl.heap.size ∨ b = wl.heap.size + 1 → w7.heap[b]? = W3.heap[b]? := fun w7 h7 b hb => h7.block b (by omega) (by have := hmi4.size; omega)
      have HF := Lib.hid hfin
      clear hfin
      by_cases hrt : rt = -1
      · subst hrt
        gi_wp2_with fail
        exact ⟨fun b hb => HF.out _ hX6 b (by omega), rfl, by rw [HM.out]; exact hI6⟩
      · have hd : (rt != -1) = true := by simpa using hrt
        gi_wp2_with fail
        exact ⟨fun b hb => HF.out _ (hX6.trans ((ext_set_at _ _ _ _).mono fun _ h => .inl h)) b (by omega), rfl, by rw [HM.out, if_neg hrt]; exact hI6.setTo _⟩
    · rw [if_neg hpg] at hmap
      have HM := Lib.hid hmap
      have HT := Lib.hid hts
      clear c0 hmap hts
      have b0 := hI3.b0.cell
      gi_wp2_with fail
      exact ⟨fun _ _ => rfl, ⟨hI3, by rw [HT.out]; exact HM.out⟩, by omega, fun _ _ _ => rfl⟩
  case hdone =>
    rintro W ⟨hI, hmap⟩ hD
    rw [List.drop_length] at hmap
    have HM := Lib.hid (show mapAt page 0 l' = (0, 0) from hmap)
    clear hmap hG
    go_wp2_with fail
    refine wp_normally (wp_region_heads 2 (fun V => V.cell? ⟨w.heap.size + 1, 0, none⟩ = some (.int .i64 (0)) ∧ V.cell? ⟨w.heap.size + 1 + 1, 0, none⟩ = some (.int .i64 (0)))
      (fun _ _ _ _ h => h) (by kernel_rfl) (by kernel_rfl) (fun wd hwd => ⟨hwd.cell hI.b1.cell (fun h => h), hwd.cell hI.b2.cell (fun h => h)⟩) fun wd hwd => ?_)
    have hI4 := hI.ext hwd (fun _ h => h.elim)
    simp only [List.take_succ_cons, List.take_zero, List.drop_succ_cons, List.drop_zero]
    repeat (refine wpHead_step ?_ (by rfl) (fun WW hWW => ?_) ?_; rotate_left; (· (obtain ⟨q0, q1⟩ := hWW; go_simp; with_reducible rfl)); try simp only [Act.put, List.setIfInBounds_toArray, List.set_cons_zero, List.set_cons_succ])
    refine wpHead_nil ?_
    have z1 := hI4.b1.frozen
    have d1 := hI4.b1.cell
    refine wpTail_step (fun K' hK' => ?_)
    go_simp
    have hI5 := hI4.setTo (0)
    refine hK' _ _ ⟨hI5.b1.cell, hI5.b2.cell⟩ ?_
    clear hK' K'
    have z2 := hI5.b2.frozen
    have d2 := hI5.b2.cell
    refine wpTail_step (fun K' hK' => ?_)
    go_simp
    have hI6 := hI5.setMany (0)
    refine hK' _ _ ⟨hI6.b1.cell, hI6.b2.cell⟩ ?_
    clear hK' K'
    have z3 := hI6.b3.frozen
    have d3 := hI6.b3.cell
    refine wpTail_step (fun K' hK' => ?_)
    go_simp
    have hI7 := hI6.setErr
    refine hK' _ _ ⟨hI7.b1.cell, hI7.b2.cell⟩ ?_
    clear hK' K'
    obtain ⟨w7, hw7⟩ : ∃ w7, (((wd.setCell ⟨w.heap.size + 1, 0, none⟩ (.int .i64 (0))).setCell ⟨w.heap.size + 1 + 1, 0, none⟩ (.int .i64 (0))).setCell ⟨w.heap.size + 1 + 1 + 1, 0, none⟩ (.int .i64 0)) = w7 := ⟨_, rfl⟩
    have hX : Ext (fun b => b = w.heap.size + 1 ∨ b = w.heap.size + 1 + 1 ∨ b = w.heap.size + 1 + 1 + 1) W w7 := by
      rw [← hw7]
      exact (((hwd.mono fun _ h => h.elim).trans ((ext_set_at _ _ _ _).mono fun _ h => .inl h)).trans ((ext_set_at _ _ _ _).mono fun _ h => .inr (.inl h))).trans ((ext_set_at _ _ _ _).mono fun _ h => .inr (.inr h))
    have hms := hmi4.size
    have hD7 : w7.heap[wl.heap.size]? = some (.deferred (some [])) := (hX.block _ (Array.getElem?_eq_some_iff.1 hD).1 (by omega)).trans hD
    rw [hw7] at hI7 ⊢
    have hI8 := hI7.ext (Ext.putObj (O := fun b => b = wl.heap.size) (.deferred none) rfl) (fun b hb => by omega)
    rw [hws] at hD7 hI8
    have e1 := hI8.b1.cell
    have e2 := hI8.b2.cell
    have e3 := hI8.b3.cell
    clear hw7 hI7 hI6 hI5 hI4 hX hI hD hmi4 hwd z1 z2 z3 d1 d2 d3
    refine wpTail_nil ?_
    dsimp only [normally, Exit.then]
    go_wp2_with fail
    refine door_mark (v := .tuple #[.int .i64 (0), .int .i64 (0), .int .i64 0]) hD7 ?_ ?_
    · simp [results, Try.results33, go_sem, e1, e2, e3]
    · exact ⟨by rw [HM.out], hI8.below⟩
  case hstop =>
    rintro cc k W hk ⟨rfl, hI⟩ hD
    clear hG
    go_wp2_with fail
    refine wp_normally (wp_region_heads 2 (fun V => V.cell? ⟨w.heap.size + 1, 0, none⟩ = some (.int .i64 (mapAt page 0 l').1) ∧ V.cell? ⟨w.heap.size + 1 + 1, 0, none⟩ = some (.int .i64 (mapAt page 0 l').2))
      (fun _ _ _ _ h => h) (by kernel_rfl) (by kernel_rfl) (fun wd hwd => ⟨hwd.cell hI.b1.cell (fun h => h), hwd.cell hI.b2.cell (fun h => h)⟩) fun wd hwd => ?_)
    have hI4 := hI.ext hwd (fun _ h => h.elim)
    simp only [List.take_succ_cons, List.take_zero, List.drop_succ_cons, List.drop_zero]
    repeat (refine wpHead_step ?_ (by rfl) (fun WW hWW => ?_) ?_; rotate_left; (· (obtain ⟨q0, q1⟩ := hWW; go_simp; with_reducible rfl)); try simp only [Act.put, List.setIfInBounds_toArray, List.set_cons_zero, List.set_cons_succ])
    refine wpHead_nil ?_
    have z1 := hI4.b1.frozen
    have d1 := hI4.b1.cell
    refine wpTail_step (fun K' hK' => ?_)
    go_simp
    have hI5 := hI4.setTo (mapAt page 0 l').1
    refine hK' _ _ ⟨hI5.b1.cell, hI5.b2.cell⟩ ?_
    clear hK' K'
    have z2 := hI5.b2.frozen
    have d2 := hI5.b2.cell
    refine wpTail_step (fun K' hK' => ?_)
    go_simp
    have hI6 := hI5.setMany (mapAt page 0 l').2
    refine hK' _ _ ⟨hI6.b1.cell, hI6.b2.cell⟩ ?_
    clear hK' K'
    have z3 := hI6.b3.frozen
    have d3 := hI6.b3.cell
    refine wpTail_step (fun K' hK' => ?_)
    go_simp
    have hI7 := hI6.setErr
    refine hK' _ _ ⟨hI7.b1.cell, hI7.b2.cell⟩ ?_
    clear hK' K'
    obtain ⟨w7, hw7⟩ : ∃ w7, (((wd.setCell ⟨w.heap.size + 1, 0, none⟩ (.int .i64 (mapAt page 0 l').1)).setCell ⟨w.heap.size + 1 + 1, 0, none⟩ (.int .i64 (mapAt page 0 l').2)).setCell ⟨w.heap.size + 1 + 1 + 1, 0, none⟩ (.int .i64 0)) = w7 := ⟨_, rfl⟩
    have hX : Ext (fun b => b = w.heap.size + 1 ∨ b = w.heap.size + 1 + 1 ∨ b = w.heap.size + 1 + 1 + 1) W w7 := by
      rw [← hw7]
      exact (((hwd.mono fun _ h => h.elim).trans ((ext_set_at _ _ _ _).mono fun _ h => .inl h)).trans ((ext_set_at _ _ _ _).mono fun _ h => .inr (.inl h))).trans ((ext_set_at _ _ _ _).mono fun _ h => .inr (.inr h))
    have hms := hmi4.size
    have hD7 : w7.heap[wl.heap.size]? = some (.deferred (some [])) := (hX.block _ (Array.getElem?_eq_some_iff.1 hD).1 (by omega)).trans hD
    rw [hw7] at hI7 ⊢
    have hI8 := hI7.ext (Ext.putObj (O := fun b => b = wl.heap.size) (.deferred none) rfl) (fun b hb => by omega)
    rw [hws] at hD7 hI8
    have e1 := hI8.b1.cell
    have e2 := hI8.b2.cell
    have e3 := hI8.b3.cell
    clear hw7 hI7 hI6 hI5 hI4 hX hI hD hmi4 hwd z1 z2 z3 d1 d2 d3
    refine wpTail_nil ?_
    dsimp only [normally, Exit.then]
    go_wp2_with fail
    refine door_mark (v := .tuple #[.int .i64 (mapAt page 0 l').1, .int .i64 (mapAt page 0 l').2, .int .i64 0]) hD7 ?_ ?_
    · simp [results, Try.results33, go_sem, e1, e2, e3]
    · exact ⟨rfl, hI8.below⟩
end Go.Proofs.Ytjdkdogiaokhjaa
