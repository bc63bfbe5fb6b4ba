/- Runs: the specification's Pack. -/
import Derived.Test.YtjdkdogiaokhjaaTt
namespace Go.Proofs.Ytjdkdogiaokhjaa
open Go.RowKit Go.Proofs
set_option linter.unusedSimpArgs false
set_option linter.unusedVariables false

theorem ownB_base {W : World} {b b' : Nat} {v : Value} {l : List Int} (h : OwnB W b v l) (hb : b' ≤ b) : OwnB W b' v l := by
  obtain ⟨h0, h1⟩ := h
  refine ⟨h0, ?_⟩
  rcases h1 with h1 | ⟨g, cap, cur, rfl, hg, rest⟩
  · exact .inl h1
  · exact .inr ⟨g, cap, cur, rfl, Nat.le_trans hb hg, rest⟩
set_option maxRecDepth 100000 in
set_option maxHeartbeats 2000000 in
theorem refPack_any (A : Option Addr) (l : List R) (c : Nat) (most : Int) (w : World) (hR : Rd w A l) (h0 : mustE l = 0) :
    Calls Try.prog 26 #[.slice A l.length c, .int .i64 most] w (PackPost w (packGo most [] 0 0 (norm l))) := by
  have hN := fun W (hR : Rd W A l) => RNorm (A := A) (l := l) (n := l.length) (c := c) (w := W) hR rfl (Gd.of_must h0) (by omega)
  have hm := okL_of_must (must_norm h0)
  have hz := mustE_zero (must_norm h0)
  have HN := Lib.hid hN
  clear hN
  generalize norm l = m at *
  go_enter Try.func26, Try.ntmps26
  go_wp2_with fail
  refine (HN.out _ hR).mono ?_
  rintro e w1 ⟨A1, c1, rfl, hN1, hB1⟩
  obtain ⟨hz1, _, hz3⟩ := hz
  have hR1 := hN1.1
  have hB1s := hB1.size
  clear HN hN1 hR h0
  go_wp2_with fail
  go_loopw [6, 7, 8, 10] (fun v p la i wr => ∃ (k : Nat) (bs : List Int) (P la' : Int), k ≤ m.length ∧ i = .int .i64 k ∧ p = .int .i64 P ∧ la = .int .i64 la' ∧ w1.heap.size ≤ wr.heap.size ∧ OwnB wr w1.heap.size v bs ∧ bs.length ≤ 15 * k ∧ P = sumR (m.take k) ∧ 0 ≤ la' ∧ la' ≤ 1073741824 ∧ packGo most bs P la' (m.drop k) = packGo most [] 0 0 m ∧ Rd wr A1 m ∧ Below w.heap.size w wr) (fun _ _ _ i _ => m.length - (intOf i).toNat)
  case atStart => exact ⟨0, [], 0, 0, by omega, rfl, rfl, rfl, Nat.le_refl _, World.ownsRow_nil _ _ _ _, by simp, by simp [sumR], by omega, by omega, rfl, hR1, hB1⟩
  case round =>
    clear hB1
    obtain ⟨k, bs, P, la, hk, rfl, rfl, rfl, hw1, ho, hbl, hP, hla0, hla1, hgo, hR, hB⟩ := hrel
    obtain ⟨A6, c6, rfl⟩ := row_form ho
    by_cases hlt : k < m.length
    · obtain ⟨b, o, rfl, d1, d2⟩ := hR.at_ k hlt
      have hr := hm m[k] (List.getElem_mem hlt)
      have hok := (okR_iff _).1 hr
      have hdr := packGo_drop most bs P la m k hlt
      have hsk := sumR_nonneg (l := m.take k) (fun r hr => by have := (okR_iff _).1 (hm r (List.mem_of_mem_take hr)); omega)
      have hs1 := sumR_take_le (l := m) (fun r hr => by have := (okR_iff _).1 (hm r hr); omega) k
      have hts := sumR_take_succ m k hlt
      have HP := Lib.hid (fun W => refPacked_any m[k] la W hr ⟨hla0, hla1⟩)
      have hpl := packR_len (r := m[k]) la
      generalize m[k] = r at *
      have HD := Lib.hid hdr
      have HT := Lib.hid hts
      have HG := Lib.hid hgo
      have HPP := Lib.hid hP
      have HRR := Lib.hid hR
      have HBB := Lib.hid hB
      have hP0 : 0 ≤ P := by omega
      have hP1 : P ≤ 1073741824 := by omega
      obtain ⟨rt, rm⟩ := r
      simp only at *
      generalize hxs : packR (rt, rm) la = xs at *
      clear hdr hts hgo hP hsk hs1 hr hxs
      go_wp2_with fail
      refine (HP.out _).mono ?_
      rintro e w2 ⟨v2, rfl, ho2, hB2⟩
      obtain ⟨A2, c2, rfl⟩ := row_form ho2
      have hk2 : ∀ {bb : Nat} {vv : Value} {nn : Nat} {xx : List Value}, wr.ownsRow bb 5 1 vv nn xx → w2.ownsRow bb 5 1 vv nn xx := fun h => h.kept (row := none) ⟨hB2.os, hB2.tape, hB2.output, hB2.size, fun k hk _ => hB2.block k hk⟩ (by rename_i vv _ _; cases hv : vv.ownBlock <;> simp)
      have ho' : OwnB w2 w1.heap.size (.slice A6 bs.length c6) bs := hk2 ho
      have e1 := (hB2.cell (World.block_lt_of_cell? wr _ d1)).trans d1
      have e2 := (hB2.cell (World.block_lt_of_cell? wr _ d2)).trans d2
      have hR2 := hR.below hB2
      have hBw := hB.trans (hB2.mono hB.size)
      have hsz : w1.heap.size ≤ w2.heap.size := Nat.le_trans hw1 hB2.size
      have hblt : b < w1.heap.size := hR1.blk_lt b ⟨(by intro e; simp [e] at hlt), _, rfl, rfl⟩
      have hw01 := hB1s
      have HRW := Lib.hid hR2
      have HBW := Lib.hid hBw
      have HO2 := Lib.hid ho2
      clear hR hB hR2 hBw hk2 ho d1 d2 HRR HBB HP ho2
      obtain ⟨r1, r2, r3, r4⟩ := hok
      by_cases hq : most < (bs.length : Int) + (xs.length : Int) + 1
      · have hgo : packGo most [] 0 0 m = (bs ++ [0], P) := by rw [← HG.out, HD.out, if_pos (by omega)]
        have HGO := Lib.hid hgo
        have HL := Lib.hid (ho'.alloc (.cells #[.int .u8 0] 5))
        have HS := Lib.hid (ownB_lit w2 0 0 (Nat.zero_le _))
        have hb2 : w1.heap.size ≤ (w2.alloc (.cells #[.int .u8 0] 5)).heap.size := by rw [World.size_alloc]; omega
        clear hgo ho'
        go_wp2_with (at_builtin; refine wpList_append_B _ rfl _ _ rfl w1.heap.size _ _ _ _ _ rfl HL.out rfl HS.out (by simp; omega) hb2 ?_; intro v3 w3 ho3 hg3; obtain ⟨A3, c3, rfl⟩ := row_form ho3)
        go_ret2
        rw [HGO.out]
        rw [show (bs ++ [(0 : Int)]).length = bs.length + 1 by simp] at ho3
        exact ⟨_, rfl, ownB_base ho3 hB1s, HBW.out.trans ((((below_alloc1 w2 _).mono hsz).trans (below_grown hg3 HL.out hb2)).mono hB1s)⟩
      · have hgo : packGo most [] 0 0 m = packGo most (bs ++ xs) (P + rm) (if rt = -1 then la else rt) (m.drop (k + 1)) := by rw [← HG.out, HD.out, if_neg (by omega)]
        have HGO := Lib.hid hgo
        have HO' := Lib.hid ho'
        have hPT : P + rm = sumR (m.take (k + 1)) := by rw [HT.out, ← HPP.out]
        have HPT := Lib.hid hPT
        have hbo : some b ≠ (Value.slice A6 bs.length c6).ownBlock := fun e => by
          have := (World.ownsRow.lt ho' b e.symm).1
          omega
        have hbl' : (bs ++ xs).length ≤ 15 * (k + 1) := by simp; omega
        have hb2 : w1.heap.size ≤ w2.heap.size := hsz
        have hbw2 : b < w2.heap.size := by omega
        clear hgo ho' hPT hw1 hsz
        by_cases h1 : rt = -1
        · subst h1
          have HGO2 := Lib.hid (show packGo most [] 0 0 m = packGo most (bs ++ xs) (P + rm) la (m.drop (k + 1)) by rw [HGO.out, if_pos rfl])
          go_wp2_with (at_builtin; refine wpList_append_B _ rfl _ _ rfl w1.heap.size _ _ _ _ _ rfl HO'.out rfl HO2.out (by omega) hb2 ?_; intro v3 w3 ho3 hg3; obtain ⟨A3, c3, rfl⟩ := row_form ho3; have f1 := (hg3.cell_far _ hbw2 hbo).trans e1; have f2 := (hg3.cell_far _ hbw2 hbo).trans e2)
          rw [show (bs ++ xs).length = bs.length + xs.length by simp] at ho3
          refine ⟨⟨k + 1, bs ++ xs, P + rm, la, by omega, by go_num, rfl, rfl, by have := hg3.size; omega, ho3, hbl', HPT.out, by omega, by omega, HGO2.out.symm, HRW.out.keep (fun g hg hgl => hg3.block g hgl ?_), HBW.out.trans ((below_grown hg3 HO'.out hb2).mono hB1s)⟩, by simp [intOf]; omega⟩
          obtain ⟨_, a, ea, rfl⟩ := hg
          cases ea
          exact hbo
        · have h2 : 0 ≤ rt := by omega
          have HGO2 := Lib.hid (show packGo most [] 0 0 m = packGo most (bs ++ xs) (P + rm) rt (m.drop (k + 1)) by rw [HGO.out, if_neg h1])
          go_wp2_with (at_builtin; refine wpList_append_B _ rfl _ _ rfl w1.heap.size _ _ _ _ _ rfl HO'.out rfl HO2.out (by omega) hb2 ?_; intro v3 w3 ho3 hg3; obtain ⟨A3, c3, rfl⟩ := row_form ho3; have f1 := (hg3.cell_far _ hbw2 hbo).trans e1; have f2 := (hg3.cell_far _ hbw2 hbo).trans e2)
          rw [show (bs ++ xs).length = bs.length + xs.length by simp] at ho3
          refine ⟨⟨k + 1, bs ++ xs, P + rm, rt, by omega, by go_num, rfl, rfl, by have := hg3.size; omega, ho3, hbl', HPT.out, by omega, by omega, HGO2.out.symm, HRW.out.keep (fun g hg hgl => hg3.block g hgl ?_), HBW.out.trans ((below_grown hg3 HO'.out hb2).mono hB1s)⟩, by simp [intOf]; omega⟩
          obtain ⟨_, a, ea, rfl⟩ := hg
          cases ea
          exact hbo
    · have e : k = m.length := by omega
      subst e
      rw [List.drop_length] at hgo
      have hgo' : packGo most [] 0 0 m = (bs ++ [0], P) := by rw [← hgo]; rfl
      have HGO := Lib.hid hgo'
      have hsz := hw1
      have HBB := Lib.hid hB
      have HL := Lib.hid (ho.alloc (.cells #[.int .u8 0] 5))
      have HS := Lib.hid (ownB_lit wr 0 0 (Nat.zero_le _))
      have hb2 : w1.heap.size ≤ (wr.alloc (.cells #[.int .u8 0] 5)).heap.size := by rw [World.size_alloc]; omega
      clear hgo hgo' ho hB hR hP
      go_wp2_with (at_builtin; refine wpList_append_B _ rfl _ _ rfl w1.heap.size _ _ _ _ _ rfl HL.out rfl HS.out (by simp; omega) hb2 ?_; intro v3 w3 ho3 hg3; obtain ⟨A3, c3, rfl⟩ := row_form ho3)
      go_ret2
      rw [HGO.out]
      rw [show (bs ++ [(0 : Int)]).length = bs.length + 1 by simp] at ho3
      exact ⟨_, rfl, ownB_base ho3 hB1s, HBB.out.trans ((((below_alloc1 wr _).mono hsz).trans (below_grown hg3 HL.out hb2)).mono hB1s)⟩
end Go.Proofs.Ytjdkdogiaokhjaa
