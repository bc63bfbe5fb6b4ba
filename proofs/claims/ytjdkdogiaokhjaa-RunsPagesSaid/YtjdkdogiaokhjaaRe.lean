/- Runs: the iterator 'starts', and 'part'. -/
import Derived.Test.YtjdkdogiaokhjaaRd
namespace Go.Proofs.Ytjdkdogiaokhjaa
open Go.RowKit Go.Proofs
set_option linter.unusedSimpArgs false
set_option linter.unusedVariables false
attribute [local go_sem] Oper.semAt_some

theorem starts_any (A : Option Addr) (n c : Nat) (w : World) : Calls Try.prog 65 #[.slice A n c] w fun e w' =>
    e = .returned (.func (.func 72) #[] #[.pointer (some ⟨w.heap.size, 0, none⟩)]) ∧ w' = w.alloc (.cells #[.slice A n c] 22) := by
  have hmf : ∀ (fn : Fn) (first cap : Array Value) (w : World), (Instr.makeFunc fn first cap).run Try.prog w = .ok (.func fn first cap) w := fun _ _ _ _ => rfl
  go_enter Try.func65, Try.ntmps65
  go_wp2
  go_ret
  exact ⟨rfl, rfl⟩
def blockOf (A : Option Addr) (l : List R) (b : Nat) : Prop := l ≠ [] ∧ ∃ a, A = some a ∧ a.block = b
def startArgs (l : List R) (k : Nat) : Array Value := #[.int .i64 (sumR (l.take k)), .agg #[.int .i64 (l.getD k (0, 0)).1, .int .i64 (l.getD k (0, 0)).2]]
theorem Rd.keep {w w' : World} {A : Option Addr} {l : List R} (h : Rd w A l) (hk : ∀ b, blockOf A l b → b < w.heap.size → w'.heap[b]? = w.heap[b]?) : Rd w' A l := fun hl => by
  obtain ⟨b, o, rfl, hc⟩ := h hl
  refine ⟨b, o, rfl, fun i hi => ?_⟩
  obtain ⟨h1, h2⟩ := hc i hi
  have hb := World.block_lt_of_cell? w _ h1
  have e := hk b ⟨hl, _, rfl, rfl⟩ hb
  exact ⟨(World.cell?_of_block e).trans h1, (World.cell?_of_block e).trans h2⟩
theorem Rd.ext {w w' : World} {A : Option Addr} {l : List R} (h : Rd w A l) {O : Nat → Prop} (he : Ext O w w') (ho : ∀ b, blockOf A l b → ¬ O b) : Rd w' A l := h.keep fun b hb hlt => he.block b hlt (ho b hb)

theorem Rd.blk_lt {w : World} {A : Option Addr} {l : List R} (h : Rd w A l) : ∀ b, blockOf A l b → b < w.heap.size := by
  rintro b ⟨hl, a, rfl, rfl⟩
  obtain ⟨b, o, e, hc⟩ := h hl
  cases e
  have h0 : 0 < l.length := by cases l; simp at hl; simp
  exact World.block_lt_of_cell? w _ (hc 0 h0).1
theorem boxed_ext {w w' : World} {B : Nat} {t : TypeId} {v : Value} {O : Nat → Prop} (h : Boxed w B t v) (he : Ext O w w') (ho : ¬ O B) : Boxed w' B t v := (he.block B h.lt ho).trans h
theorem JS.box_ne {W : World} {base B b : Nat} {v u : Value} {l : List R} {t : TypeId} (h : JS W base B v l) (hb : Boxed W b t u) (ht : t ≠ 53) (hne : b ≠ B) : ¬ touch B v b := by
  rintro (e | e)
  · exact hne e
  · exact hb.not_row ht h.2.2 e
theorem ext_set_at (w : World) (b o : Nat) (u : Value) : Ext (fun k => k = b) w (w.setCell ⟨b, o, none⟩ u) :=
  ⟨rfl, rfl, rfl, by show _ ≤ (Array.modify _ _ _).size; rw [Array.size_modify]; exact Nat.le_refl _, fun k hk hn => Below.heap_setCell _ _ _ k hn⟩
theorem ext_set (w : World) (p : Addr) (u : Value) : Ext (fun k => k = p.block) w (w.setCell p u) :=
  ⟨rfl, rfl, rfl, by show _ ≤ (Array.modify _ _ _).size; rw [Array.size_modify]; exact Nat.le_refl _, fun k hk hn => Below.heap_setCell _ _ _ k hn⟩
set_option maxRecDepth 100000 in
set_option maxHeartbeats 1000000 in
theorem starts_gives (bl : Nat) (A : Option Addr) (l : List R) (c : Nat) (w : World) (hbl : w.cell? ⟨bl, 0, none⟩ = some (.slice A l.length c)) (hR : Rd w A l) (hn : l.length ≤ 1048576) (hs : Smalls 1099511627776 l) :
    Gives Try.prog 72 #[.pointer (some ⟨bl, 0, none⟩)] l.length (startArgs l) (fun _ => False) (blockOf A l) w := by
  intro lp J Jx W hE hJ hJx hY h0
  have hb := hE.cell hbl (fun h => h)
  have hRW := hR.ext hE (fun _ _ h => h)
  have HY := Lib.hid hY
  have HJ := Lib.hid hJ
  have HJX := Lib.hid hJx
  clear hY hJ hJx hE hR hbl
  refine callsIn_of_wp Try.func72 rfl trivial ?_ rfl
  simp only [Try.ntmps72, List.size_toArray, List.length_cons, List.length_nil, Nat.reduceAdd, Nat.reduceSub, Array.replicate_succ, Array.replicate_zero, List.push_toArray, List.append_toArray, List.nil_append, List.cons_append]
  gi_wp2
  gi_loopw [3, 8] (fun a i wr => ∃ k : Nat, k ≤ l.length ∧ i = .int .i64 k ∧ a = .int .i64 (sumR (l.take k)) ∧ J k wr ∧ Rd wr A l) (fun _ i _ => l.length - (intOf i).toNat)
  case atStart => exact ⟨0, by omega, rfl, rfl, h0, hRW⟩
  case round =>
    obtain ⟨k, hk, rfl, rfl, hj, hRw⟩ := hrel
    clear h0 hRW
    by_cases hlt : k < l.length
    · obtain ⟨b, o, rfl, c1, c2⟩ := hRw.at_ k hlt
      have hbd := sumR_bd (smalls_take hs k)
      have hl : (l.take k).length ≤ k := List.length_take_le _ _
      have hx := hs l[k] (List.getElem_mem hlt)
      have hb2 : sumR (l.take k) ≤ 1099511627776 * 1048576 := by
        refine Int.le_trans hbd.2 ?_
        exact Int.mul_le_mul_of_nonneg_left (by omega) (by omega)
      have HT := Lib.hid (sumR_take_succ l k hlt)
      have hy := HY.out k wr (wr.alloc (.cells #[.int .i64 l[k].1, .int .i64 l[k].2] 53)) hlt hj ((Ext.refl _ _).alloc _)
      have hga : startArgs l k = #[.int .i64 (sumR (l.take k)), .agg #[.int .i64 l[k].1, .int .i64 l[k].2]] := by simp [startArgs, List.getD_eq_getElem?_getD, List.getElem?_eq_getElem hlt]
      rw [hga] at hy
      clear hga hs
      obtain ⟨fn, tmps, assign, body, hyr, hRd⟩ := hy
      have HRD := Lib.hid hRd
      clear hRd
      gi_wp2
      refine ⟨rfl, HRD.out.mono ?_⟩
      rintro e W2 (⟨rfl, hj2, hk1, hk2⟩ | ⟨rfl, hjx⟩)
      · have hsz : (wr.alloc (.cells #[.int .i64 l[k].1, .int .i64 l[k].2] 53)).heap.size = wr.heap.size + 1 := World.size_alloc _ _
        have hR2 : Rd W2 (some ⟨b, o, none⟩) l := (hRw.below ((Below.refl _ wr).alloc (Nat.le_refl _) (.cells #[.int .i64 l[k].1, .int .i64 l[k].2] 53))).keep (fun b' hb' hlt' => hk2 b' hlt' (.inl hb'))
        have hcell : W2.cell? ⟨wr.heap.size, 1, none⟩ = some (.int .i64 l[k].2) := by
          refine (World.cell?_of_block (hk2 wr.heap.size (by omega) (.inr (Nat.le_refl _)))).trans ?_
          simp [go_sem]
        clear hk2 hsz hRw hk1
        gi_wp2
        exact ⟨⟨k + 1, by omega, by go_num, by rw [HT.out], hj2, hR2⟩, by simp [intOf]; omega⟩
      · gi_wp2
        refine bodyPost_ret (results_none rfl _ _ _) rfl ?_
        exact ⟨⟨_, rfl⟩, .inr ⟨k, hlt, hjx⟩⟩
    · have e : k = l.length := by omega
      subst e
      gi_wp2
      go_end0
      exact ⟨⟨_, rfl⟩, .inl hj⟩
theorem JS.ext {W W' : World} {base B : Nat} {v : Value} {l : List R} {O : Nat → Prop} (h : JS W base B v l) (he : Ext O W W') (h1 : ¬ O B) (h2 : ∀ g, v.ownBlock = some g → ¬ O g) : JS W' base B v l := by
  refine ⟨h.1, (he.block _ h.2.1.lt h1).trans h.2.1, ?_⟩
  obtain ⟨hl, hh⟩ := h.2.2
  refine ⟨hl, ?_⟩
  rcases hh with hn | ⟨g, cap, cur, rfl, hb, hg, rest⟩
  · exact .inl hn
  · exact .inr ⟨g, cap, cur, rfl, hb, (he.block _ (Array.getElem?_eq_some_iff.1 hg).1 (h2 g rfl)).trans hg, rest⟩
theorem JS.ne_obj {W : World} {base B b : Nat} {v : Value} {l : List R} {o : Obj} (h : JS W base B v l) (hl : W.heap[b]? = some o) (ho : o.isCells = false) : ¬ touch B v b := by
  rintro (e | e)
  · subst e
    have := h.2.1.symm.trans hl
    cases this; cases ho
  · rcases h.2.2.2 with ⟨rfl, _⟩ | ⟨g', cap, cur, rfl, hb, hgg, rest⟩
    · simp [Value.ownBlock] at e
    · have : b = g' := by simpa [Value.ownBlock] using e
      subst this
      have := hgg.symm.trans hl
      cases this; cases ho
theorem JS.ext' {W W' : World} {base B : Nat} {v : Value} {l : List R} {O : Nat → Prop} (h : JS W base B v l) (he : Ext O W W') (h1 : ∀ b, touch B v b → ¬ O b) : JS W' base B v l :=
  h.ext he (h1 B (.inl rfl)) (fun g hg => h1 g (.inr hg.symm))
theorem JS.putLoop {W : World} {base B lp : Nat} {v : Value} {l : List R} {o o' : Loop} (h : JS W base B v l) (hl : W.heap[lp]? = some (.loop o)) : JS (W.putObj lp (.loop o')) base B v l :=
  h.ext' (Ext.putObj (O := fun b => b = lp) _ rfl) (fun b hb e => h.ne_obj hl rfl (e ▸ hb))
theorem JS.new' (w : World) (base : Nat) (h : base ≤ w.heap.size) : JS (w.alloc (.cells #[.slice none 0 0] 22)) base w.heap.size (.slice none 0 0) [] :=
  ⟨h, Boxed.new _ _ _, World.ownsRow_nil _ _ _ _⟩
theorem below_ext {w W W' : World} {n : Nat} {O : Nat → Prop} (h : Below n w W) (he : Ext O W W') (hn : n ≤ W.heap.size) (ho : ∀ b, O b → n ≤ b) : Below n w W' := h.trans (ext_below he n hn ho)
end Go.Proofs.Ytjdkdogiaokhjaa
