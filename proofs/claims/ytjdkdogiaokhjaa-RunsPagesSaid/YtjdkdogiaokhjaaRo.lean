/- Runs: packed. -/
import Derived.Test.YtjdkdogiaokhjaaRn
namespace Go.Proofs.Ytjdkdogiaokhjaa
open Go.RowKit Go.Proofs
set_option linter.unusedSimpArgs false
set_option linter.unusedVariables false

def packGo (most : Int) : List Int → Int → Int → List R → List Int × Int
  | bs, n, last, [] => (bs ++ [0], n)
  | bs, n, last, r :: l => if most < ((bs.length + (packR r last).length + 1 : Nat) : Int) then (bs ++ [0], n) else packGo most (bs ++ packR r last) (n + r.2) (if r.1 = -1 then last else r.1) l
theorem packGo_drop (most : Int) (bs : List Int) (n last : Int) (l : List R) (k : Nat) (h : k < l.length) :
    packGo most bs n last (l.drop k) = if most < ((bs.length + (packR l[k] last).length + 1 : Nat) : Int) then (bs ++ [0], n) else packGo most (bs ++ packR l[k] last) (n + l[k].2) (if l[k].1 = -1 then last else l[k].1) (l.drop (k + 1)) := by
  rw [List.drop_eq_getElem_cons h]; rfl
theorem packR_len {r : R} (last : Int) : (packR r last).length ≤ 15 := by
  simp only [packR, List.length_cons, List.length_append, lowB_len]
  have := uW_bd r.2
  have := hR_bd r last
  omega
theorem assert_full (v : Value) (W : World) : (Instr.typeAssert (.iface 105 v) 20 105 true).run Try.prog W = .ok (.tuple #[v, .bool true]) W := by
  simp [Instr.typeAssert, run_underlying Try.underlying105]
theorem packed1_idle (a b : Value) (w : World) :
    CallsD Try.prog 68 #[a, b] .returning w fun r u' w' => r = .returned (.tuple #[]) ∧ u' = .returning ∧ w' = w := by
  refine callsD_of_wpS Try.func68 rfl fun c₀ cs hu => ?_
  simp only [Try.ntmps68, List.size_toArray, List.length_cons, List.length_nil, Nat.reduceAdd, Nat.reduceSub, Array.replicate_succ, Array.replicate_zero, List.push_toArray, List.append_toArray, List.nil_append, List.cons_append]
  apply wpS_seq
  apply wpS_region
  simp [wpOpsS, go_sem, recoverD, hu, fault, Exit.thenS]
  refine wpS_of_wp ?_
  go_wp2
  refine ⟨rfl, _, ?_, _, results_none rfl _ _ _, rfl, rfl, rfl⟩
  rw [← hu]
theorem box_pushed {wB w1 : World} {base b4 : Nat} {v v1 u : Value} {bs xs : List Int} (h4 : Boxed wB b4 40 u) (ho : wB.ownsRow base 5 1 v bs.length (bv bs)) (hown : w1.ownsRow base 5 1 v1 (bs.length + xs.length) (bv bs ++ bv xs)) (hg : wB.grownBy w1 v.ownBlock)
    (hbw : base ≤ wB.heap.size) (hb4 : base ≤ b4) :
    w1.cell? ⟨b4, 0, none⟩ = some u ∧ w1.frozen? ⟨b4, 0, none⟩ = false ∧ Boxed (w1.setCell ⟨b4, 0, none⟩ v1) b4 40 v1 ∧ OwnB (w1.setCell ⟨b4, 0, none⟩ v1) base v1 (bs ++ xs) ∧ Below base wB (w1.setCell ⟨b4, 0, none⟩ v1) := by
  have h1 : Boxed w1 b4 40 u := h4.kept hg (h4.not_row (by decide) ho)
  refine ⟨h1.cell, h1.frozen, h1.set v1, ?_, (below_grown hg ho hbw).setCell hb4 _⟩
  have e1 : (bs ++ xs).length = bs.length + xs.length := by simp
  show (w1.setCell ⟨b4, 0, none⟩ v1).ownsRow base 5 1 v1 _ _
  rw [e1, bv_append]
  exact hown.kept (grownBy_setCell' w1 b4 v1) (.inr (h1.not_row (by decide) hown).symm)
set_option maxRecDepth 100000 in
set_option maxHeartbeats 2000000 in
theorem packed1_full (base P b6 b4 : Nat) (v u : Value) (bs : List Int) (room : Int) (w : World) (hP : PS w base P v bs room) (h6 : Boxed w b6 101 (.pointer (some ⟨P, 0, none⟩))) (h4 : Boxed w b4 40 u) (hl : bs.length ≤ 1048576) (hbase : base ≤ w.heap.size) (hb4 : base ≤ b4) :
    CallsD Try.prog 68 #[.pointer (some ⟨b6, 0, none⟩), .pointer (some ⟨b4, 0, none⟩)] (.panicking fullC) w fun r u' w' =>
      r = .returned (.tuple #[]) ∧ u' = .panicking [{ v := .iface 105 (.agg #[]), recovered := true }] ∧ ∃ v', Boxed w' b4 40 v' ∧ OwnB w' base v' (bs ++ [0]) ∧ Below base w w' := by
  obtain ⟨i0, hi, hz0, hz1, hz2⟩ := info_parts Try.info_u8
  obtain ⟨wA, hwA⟩ : ∃ wA, w.alloc (.cells #[] 105) = wA := ⟨_, rfl⟩
  have hBA : Below w.heap.size w wA := by rw [← hwA]; exact below_alloc1 _ _
  have hPA := hP.below hBA
  have hc6 : wA.cell? ⟨b6, 0, none⟩ = some (.pointer (some ⟨P, 0, none⟩)) := by rw [World.cell?_of_block (hBA.block _ h6.lt)]; exact h6.cell
  have p0 := hPA.c0
  have h4A : Boxed wA b4 40 u := (hBA.block _ h4.lt).trans h4
  have hsz := hBA.size
  have HW := Lib.hid (hPA.own.alloc (.cells #[.int .u8 0] 5))
  have HN := Lib.hid (cells_new wA [.int .u8 0] 5)
  have HO := Lib.hid (one_int .u8 [0])
  have hb2 : base ≤ (wA.alloc (.cells #[.int .u8 0] 5)).heap.size := by rw [World.size_alloc]; omega
  refine callsD_of_wpS Try.func68 rfl fun c₀ cs hu => ?_
  simp only [Try.ntmps68, List.size_toArray, List.length_cons, List.length_nil, Nat.reduceAdd, Nat.reduceSub, Array.replicate_succ, Array.replicate_zero, List.push_toArray, List.append_toArray, List.nil_append, List.cons_append]
  apply wpS_seq
  apply wpS_region
  simp [wpOpsS, go_sem, recoverD, hu, fullC, Exit.thenS]
  clear hu
  have hta := fun (v : Value) (W : World) => assert_full v W
  refine wpS_of_wp ?_
  go_wp2_with (at_builtin; refine wpList_append_own _ rfl _ _ 40 rfl base 5 i0 (.int .u8 0) 1 1 Try.underlying40 hi hz0 hz1 hz2 rfl (by decide) _ _ _ rfl HW.out ⟨wA.heap.size, 0, none⟩ 1 1 [.int .u8 0] rfl rfl HN.out HO.out (by unfold maxLen; omega) (by omega) hb2 ?_; intro v1 w1 hown1 hgrow _; obtain ⟨A1, cap1, rfl⟩ := row_form hown1; obtain ⟨q1, q2, q3, q4, q5⟩ := box_pushed (xs := [0]) (h4A.alloc _) HW.out hown1 hgrow hb2 hb4)
  refine ⟨rfl, _, rfl, _, results_none rfl _ _ _, rfl, rfl, _, q3, q4, ?_⟩
  exact (hBA.mono hbase).trans (((below_alloc1 wA _).mono (by omega)).trans q5)
theorem sumR_take_le {l : List R} (h : ∀ r ∈ l, 0 ≤ r.2) (k : Nat) : sumR (l.take k) ≤ sumR l := by
  have e : sumR l = sumR (l.take k) + sumR (l.drop k) := by rw [← sumR_append, List.take_append_drop]
  have := sumR_nonneg (l := l.drop k) (fun r hr => h r (List.mem_of_mem_drop hr))
  omega
def PackPost (w : World) (r : List Int × Int) (e : Ending) (w' : World) : Prop := ∃ v, e = .returned (.tuple #[v, .int .i64 r.2]) ∧ OwnB w' w.heap.size v r.1 ∧ Below w.heap.size w w'
/-- the state of 'packed' -/
structure KS (w : World) (W : World) (v : Value) (bs : List Int) (most : Int) : Prop where
  b4 : Boxed W w.heap.size 40 (.slice none 0 0)
  ps : PS W w.heap.size (w.heap.size + 1) v bs most
  b6 : Boxed W (w.heap.size + 1 + 1) 101 (.pointer (some ⟨w.heap.size + 1, 0, none⟩))
  below : Below w.heap.size w W
theorem KS.next {w W W' : World} {v : Value} {bs : List Int} {most : Int} (h : KS w W v bs most) (hb : Below W.heap.size W W') : KS w W' v bs most :=
  ⟨(hb.block _ h.b4.lt).trans h.b4, h.ps.below hb, (hb.block _ h.b6.lt).trans h.b6, h.below.trans (hb.mono h.below.size)⟩
theorem KS.ran {w W W' : World} {v v' : Value} {bs bs' : List Int} {most : Int} (h : KS w W v bs most) (hp : PS W' w.heap.size (w.heap.size + 1) v' bs' most) (he : Ext (fun b => b = w.heap.size + 1 ∨ some b = v.ownBlock) W W') : KS w W' v' bs' most := by
  refine ⟨boxed_ext h.b4 he fun hh => ?_, hp, boxed_ext h.b6 he fun hh => ?_, below_ext h.below he h.below.size fun b hb => ?_⟩
  · rcases hh with hh | hh
    · omega
    · exact h.b4.not_row (by decide) h.ps.own hh
  · rcases hh with hh | hh
    · omega
    · exact h.b6.not_row (by decide) h.ps.own hh
  · rcases hb with rfl | hb
    · omega
    · rcases h.ps.own.2 with ⟨rfl, _⟩ | ⟨g, cap, cur, rfl, hgb, _⟩
      · simp [Value.ownBlock] at hb
      · simp only [Value.ownBlock, Option.some.injEq] at hb; omega
set_option maxRecDepth 100000 in
set_option maxHeartbeats 2000000 in
theorem packed_any (A : Option Addr) (l : List R) (c : Nat) (most : Int) (w : World) (hR : Rd w A l) (hn : l.length ≤ 60000) (hl : ∀ r ∈ l, -1 ≤ r.1 ∧ r.1 ≤ 17179869184 ∧ 0 ≤ r.2 ∧ r.2 ≤ 17179869184) (hs : sumR l ≤ 1099511627776) :
    Calls Try.prog 60 #[.slice A l.length c, .int .i64 most] w (PackPost w (packGo most [] 0 0 l)) := by
  obtain ⟨i0, hi, hz0, hz1, hz2⟩ := info_parts Try.info_u8
  have hmf : ∀ (fn : Fn) (first cap : Array Value) (w : World), (Instr.makeFunc fn first cap).run Try.prog w = .ok (.func fn first cap) w := fun _ _ _ _ => rfl
  go_enter_defers Try.func60, Try.ntmps60
  go_wp2_with fail
  obtain ⟨wl, hwl⟩ : ∃ wl, ((w.alloc (.cells #[.slice none 0 0] 40)).alloc (.cells #[.slice none 0 0, .int .i64 most] 103)).alloc (.cells #[.pointer (some ⟨w.heap.size + 1, 0, none⟩)] 101) = wl := ⟨_, rfl⟩
  have hk0 : KS w wl (.slice none 0 0) [] most := by
    rw [← hwl]
    refine ⟨((Boxed.new w _ _).alloc _).alloc _, ⟨by omega, ?_, World.ownsRow_nil _ _ _ _⟩, ?_, (((Below.refl _ w).alloc (Nat.le_refl _) _).alloc (by simp) _).alloc (by simp; omega) _⟩
    · have := World.alloc_heap_new (w.alloc (.cells #[.slice none 0 0] 40)) (.cells #[.slice none 0 0, .int .i64 most] 103)
      rw [World.size_alloc] at this
      exact (Below.heap_alloc _ _ _ (by simp)).trans this
    · have := Boxed.new ((w.alloc (.cells #[.slice none 0 0] 40)).alloc (.cells #[.slice none 0 0, .int .i64 most] 103)) 101 (.pointer (some ⟨w.heap.size + 1, 0, none⟩))
      rw [World.size_alloc, World.size_alloc] at this
      exact this
  rw [hwl]
  clear hwl
  go_loopw [5, 7, 16] (fun n la i wr => ∃ (k : Nat) (v : Value) (bs : List Int) (last : Int), k ≤ l.length ∧ i = .int .i64 k ∧ n = .int .i64 (sumR (l.take k)) ∧ la = .int .i64 last ∧ (0 ≤ last ∧ last ≤ 17179869184) ∧ bs.length ≤ 15 * k ∧ KS w wr v bs most ∧ packGo most [] 0 0 l = packGo most bs (sumR (l.take k)) last (l.drop k)) (fun _ _ i _ => l.length - (intOf i).toNat)
  case atStart => exact ⟨0, _, [], 0, by omega, rfl, rfl, rfl, by omega, by simp, hk0, rfl⟩
  case round =>
    obtain ⟨k, v, bs, last, hk, rfl, rfl, rfl, hla, hbl, hK, hpg⟩ := hrel
    clear hk0
    by_cases hlt : k < l.length
    · obtain ⟨b, o, rfl, c1, c2⟩ := (hR.below hK.below).at_ k hlt
      rw [packGo_drop most bs _ last l k hlt] at hpg
      have hlk := hl l[k] (List.getElem_mem hlt)
      have hts := sumR_take_succ l k hlt
      have hsa := sumR_nonneg (l := l.take k) (fun r hr => (hl r (List.mem_of_mem_take hr)).2.2.1)
      have hsb := sumR_take_le (fun r hr => (hl r hr).2.2.1) k
      have hplen := packR_len (r := l[k]) last
      generalize l[k] = r at *
      have hK1 := hK.next (below_alloc1 wr (.cells #[.int .i64 r.1, .int .i64 r.2] 53))
      have hsz := hK1.below.size
      have hb6 := hK1.b6.cell
      have hbase : w.heap.size ≤ (wr.alloc (.cells #[.int .i64 r.1, .int .i64 r.2] 53)).heap.size := hK1.below.size
      by_cases hfit : most < ((bs.length + (packR r last).length + 1 : Nat) : Int)
      · rw [if_pos hfit] at hpg
        have HPG := Lib.hid hpg
        have HRUN := Lib.hid (run_full w.heap.size (w.heap.size + 1) v bs most r last _ hK1.ps hbase (by omega) hlk hla hfit)
        clear hpg hfit hR hts hl
        go_wp2_with fail
        refine HRUN.out.mono ?_
        rintro e w2 ⟨rfl, hB⟩
        have hK2 := hK1.next hB
        clear HRUN
        go_wp2_with fail
        refine leaves_cons (f := 68) (args := #[.pointer (some ⟨w.heap.size + 1 + 1, 0, none⟩), .pointer (some ⟨w.heap.size, 0, none⟩)]) (by simp) (by simp [go_sem]) ?_
        refine (packed1_full w.heap.size (w.heap.size + 1) _ _ v _ bs most w2 hK2.ps hK2.b6 hK2.b4 (by omega) hK2.below.size (Nat.le_refl _)).mono ?_
        rintro r' u' w3 ⟨rfl, rfl, v', hx4, hx5, hx6⟩
        refine ⟨.tuple #[v', .int .i64 (sumR (l.take k))], ?_, ?_⟩
        · simp [results, Try.results60, go_sem, hx4.cell]
        · rw [PackPost, HPG.out]
          exact ⟨v', rfl, hx5, hK2.below.trans hx6⟩
      · rw [if_neg hfit] at hpg
        have HPG := Lib.hid hpg
        have HTS := Lib.hid hts
        have HRUN := Lib.hid (run_fit w.heap.size (w.heap.size + 1) v bs most r last _ hK1.ps hbase (by omega) hlk hla (by omega))
        clear hpg hfit hR hts hl
        go_wp2_with fail
        refine HRUN.out.mono ?_
        rintro e w2 ⟨rfl, v2, hp2, hE⟩
        have hK2 := hK1.ran hp2 hE
        have hne : ¬ (wr.heap.size = w.heap.size + 1 ∨ some wr.heap.size = v.ownBlock) := by
          rintro (h | h)
          · have := hK.ps.lt; omega
          · rcases hK.ps.own.2 with ⟨rfl, _⟩ | ⟨g, cap, cur, rfl, _, hg, _⟩
            · simp [Value.ownBlock] at h
            · simp only [Value.ownBlock, Option.some.injEq] at h
              have := (Array.getElem?_eq_some_iff.1 hg).1
              omega
        have d1 : w2.cell? ⟨wr.heap.size, 0, none⟩ = some (.int .i64 r.1) := hE.cell (by simp [go_sem]) hne
        have d2 : w2.cell? ⟨wr.heap.size, 1, none⟩ = some (.int .i64 r.2) := hE.cell (by simp [go_sem]) hne
        have hbl2 : (bs ++ packR r last).length ≤ 15 * (k + 1) := by rw [List.length_append]; omega
        obtain ⟨r1, r2, r3, r4⟩ := hlk
        obtain ⟨l1, l2⟩ := hla
        clear HRUN hp2 hE hne hK1 hb6 hK
        by_cases ht : r.1 = -1
        · have hd : (r.1 != -1) = false := by simp [ht]
          rw [ht] at d1
          rw [if_pos ht] at HPG
          go_wp2_with fail
          refine ⟨⟨k + 1, v2, _, last, by omega, by go_num, by rw [HTS.out], rfl, ⟨l1, l2⟩, hbl2, hK2, by rw [HTS.out]; exact HPG.out⟩, by simp [intOf]; omega⟩
        · have hd : (r.1 != -1) = true := by simpa using ht
          rw [if_neg ht] at HPG
          go_wp2_with fail
          refine ⟨⟨k + 1, v2, _, r.1, by omega, by go_num, by rw [HTS.out], rfl, ⟨by omega, by omega⟩, hbl2, hK2, by rw [HTS.out]; exact HPG.out⟩, by simp [intOf]; omega⟩
    · have e : k = l.length := by omega
      subst e
      rw [List.drop_length, List.take_length] at hpg
      have HPG := Lib.hid (show packGo most [] 0 0 l = (bs ++ [0], sumR l) from hpg)
      rw [List.take_length]
      have h6 := hK.b6.cell
      have p0 := hK.ps.c0
      have hsz := hK.below.size
      have HW := Lib.hid (hK.ps.own.alloc (.cells #[.int .u8 0] 5))
      have HN := Lib.hid (cells_new wr [.int .u8 0] 5)
      have HO := Lib.hid (one_int .u8 [0])
      have hb2 : w.heap.size ≤ (wr.alloc (.cells #[.int .u8 0] 5)).heap.size := by rw [World.size_alloc]; omega
      have h4A := hK.b4.alloc (.cells #[.int .u8 0] 5)
      clear hpg hl hR
      go_wp2_with (at_builtin; refine wpList_append_own _ rfl _ _ 40 rfl w.heap.size 5 i0 (.int .u8 0) 1 1 Try.underlying40 hi hz0 hz1 hz2 rfl (by decide) _ _ _ rfl HW.out ⟨wr.heap.size, 0, none⟩ 1 1 [.int .u8 0] rfl rfl HN.out HO.out (by unfold maxLen; omega) (by omega) hb2 ?_; intro v1 w1 hown1 hgrow _; obtain ⟨A1, cap1, rfl⟩ := row_form hown1; obtain ⟨q1, q2, q3, q4, q5⟩ := box_pushed (xs := [0]) h4A HW.out hown1 hgrow hb2 (Nat.le_refl _))
      refine leaves_cons (f := 68) (args := #[.pointer (some ⟨w.heap.size + 1 + 1, 0, none⟩), .pointer (some ⟨w.heap.size, 0, none⟩)]) (by simp) (by simp [go_sem]) ?_
      refine (packed1_idle _ _ _).mono ?_
      rintro r' u' w3 ⟨rfl, rfl, rfl⟩
      refine ⟨.tuple #[.slice A1 (bs.length + 1) cap1, .int .i64 (sumR l)], ?_, ?_⟩
      · simp [results, Try.results60, go_sem, q3.cell]
      · rw [PackPost, HPG.out]
        exact ⟨_, rfl, q4, hK.below.trans ((below_alloc1 wr _).mono hsz |>.trans q5)⟩
end Go.Proofs.Ytjdkdogiaokhjaa
