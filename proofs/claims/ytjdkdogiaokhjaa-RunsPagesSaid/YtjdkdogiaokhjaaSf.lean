/- Runs: the law RunsNormal, walked. -/
import Derived.Test.YtjdkdogiaokhjaaSe
namespace Go.Proofs.Ytjdkdogiaokhjaa
open Go.RowKit Go.Proofs
set_option linter.unusedSimpArgs false
set_option linter.unusedVariables false

theorem norm_facts {l : List R} (h : mustE l = 0) : ∃ m, norm l = m ∧ mustE m = 0 ∧ norm m = m ∧ norm (singles l) = m ∧ m.length ≤ l.length :=
  ⟨_, rfl, must_norm h, norm_norm (okL_of_must h).pos, norm_singles (okL_of_must h), norm_len l⟩
def One1 (w0 : World) (a : List R) (r : Ending) (w' : World) : Prop :=
  ∃ A1 c1, r = .returned (.tuple #[.slice A1 a.length c1, .int .i64 0]) ∧ Rd w' A1 a ∧ Below w0.heap.size w0 w'
theorem one_of {w0 : World} {a : List R} {r : Ending} {w' : World} (h : Res1 w0 0 a r w') : One1 w0 a r w' := by
  obtain ⟨v1, rfl, h1, hB⟩ := h
  obtain ⟨A1, c1, rfl, _, _, r1⟩ := own_form h1
  exact ⟨A1, c1, rfl, r1, hB⟩
theorem Norm1 (A : Option Addr) (l m : List R) (c : Nat) (w : World) (hR : Rd w A l) (hn : l.length ≤ 1048576) (h0 : mustE l = 0) (hm : norm l = m) :
    Calls Try.prog 30 #[.slice A l.length c] w (One1 w m) := by
  have h := Norm_ok A l c w hR hn h0
  rw [hm] at h
  exact h.mono fun e w' h => one_of h
theorem worst0 {A : Option Addr} (l : List Int) {n c : Nat} {w : World} (hR : RdE w A l) (hl : n = l.length) (hn : l.length ≤ 1048576) (hw : worstR l = 0) :
    Calls Try.prog 16 #[.slice A n c] w fun e w' => e = .returned (.int .i64 0) ∧ w' = w := by
  subst hl
  have h := worst_any A l c w hR hn
  rw [hw] at h
  exact h
theorem smalls1 (v : Value) (l : List R) : smallsB [(v, l)] = smallB l := by simp [smallsB]
theorem ones_bd {l : List R} (h : mustE l = 0) (hs : sumR l ≤ 2000) (k : Nat) (hk : k < l.length) :
    1 ≤ l[k].2 ∧ l[k].2 ≤ 2000 ∧ -1 ≤ l[k].1 ∧ l[k].1 ≤ 1073741824 ∧ ((singles (l.take k)).length : Int) + l[k].2 ≤ 2000 := by
  have ho := okL_of_must h
  have hk1 := (okR_iff _).1 (ho l[k] (List.getElem_mem hk))
  have hp := ho.pos
  have h1 := singles_len (l := l.take k) (ho.take k).pos
  have h2 := singles_len (l := l.take (k + 1)) (ho.take (k + 1)).pos
  have h3 := sumR_take_succ l k hk
  have h4 : sumR (l.take (k + 1)) ≤ sumR l := sumR_take_le hp (k + 1)
  omega
theorem singles_take_succ (l : List R) (k : Nat) (hk : k < l.length) : singles (l.take (k + 1)) = singles (l.take k) ++ ones l[k] l[k].2.toNat := by
  rw [List.take_succ_eq_append_getElem hk, singles_snoc]
set_option maxRecDepth 100000 in
set_option maxHeartbeats 4000000 in
theorem RunsNormal_not (A : Option Addr) (l : List R) (c : Nat) (w : World) (hR : l.length ≤ 60 → Rd w A l) (hs : smallB l = false) :
    Calls Try.prog 5 #[.slice A l.length c] w fun e w' => e = .returned (.bool true) ∧ Below w.heap.size w w' := by
  have HS := small_any (some ⟨w.heap.size, 0, none⟩) [(.slice A l.length c, l)] 1 (w.alloc (.cells #[.slice A l.length c] 22)) (RdS.lit1 w A l c 22 hR) (by simp)
  rw [smalls1, hs] at HS
  have H := Lib.hid HS
  have hst := (St.start w).alloc (.cells #[.slice A l.length c] 22)
  clear HS hs hR
  go_enter Try.func5, Try.ntmps5
  go_wp2_with fail
  refine H.out.mono ?_; rintro e w1 ⟨rfl, hB⟩; replace hst := hst.next hB; clear hB
  go_wp2_with fail
  refine (sanity_any _).mono ?_; rintro e w2 ⟨rfl, hB⟩; replace hst := hst.next hB; clear hB
  go_wp2_with fail
  go_ret
  exact ⟨rfl, hst.below⟩
set_option maxRecDepth 100000 in
set_option maxHeartbeats 4000000 in
theorem RunsNormal_yes (A : Option Addr) (l : List R) (c : Nat) (w : World) (hR : Rd w A l) (hs : smallB l = true) :
    Calls Try.prog 5 #[.slice A l.length c] w fun e w' => e = .returned (.bool true) ∧ Below w.heap.size w w' := by
  obtain ⟨i0, hi, hz0, hz1, hz2⟩ := info_parts Try.info_run
  have HS := small_any (some ⟨w.heap.size, 0, none⟩) [(.slice A l.length c, l)] 1 (w.alloc (.cells #[.slice A l.length c] 22)) (RdS.lit1 w A l c 22 (fun _ => hR)) (by simp)
  rw [smalls1, hs] at HS
  have H := Lib.hid HS
  have hst := ((St.start w).push hR).alloc (.cells #[.slice A l.length c] 22)
  obtain ⟨s1, s2, s3⟩ := smallB_true hs
  obtain ⟨m, m1, m2, m3, m4, m5⟩ := norm_facts s2
  have S2 := Lib.hid s2
  have M1 := Lib.hid m1
  have M2 := Lib.hid m2
  have M3 := Lib.hid m3
  have M4 := Lib.hid m4
  have m6 : ¬ l.length < m.length := by omega
  have HOB := Lib.hid (fun k hk => ones_bd s2 s3 k hk)
  clear HS hs hR m1 m2 m3 m4 s2
  go_enter Try.func5, Try.ntmps5
  go_wp2_with fail
  refine H.out.mono ?_; rintro e w1 ⟨rfl, hB⟩; replace hst := hst.next hB; clear hB H
  go_wp2_with fail
  refine (Norm1 A l m c _ (hst.rd _ (List.mem_cons_self ..)) (by omega) S2.out M1.out).mono ?_; rintro e w2 ⟨A1, c1, rfl, r1, hB⟩; replace hst := (hst.next hB).push r1; clear hB r1
  go_wp2_with fail
  refine (Norm1 A1 m m c1 _ (hst.rd _ (List.mem_cons_self ..)) (by omega) M2.out M3.out).mono ?_; rintro e w3 ⟨A2, c2, rfl, r1, hB⟩; replace hst := (hst.next hB).push r1; clear hB r1
  go_wp2_with fail
  replace hst := hst.alloc (.cells #[.int .i64 0, .int .i64 0] 26)
  refine (worst0 [0, 0] (RdE.lit w3 [0, 0] 26) rfl (by decide) rfl).mono ?_; rintro e w4 ⟨rfl, rfl⟩
  go_wp2_with fail
  refine (Same0 m (hst.rd (A1, m) (by simp)) (hst.rd (A2, m) (by simp)) rfl rfl (by omega)).mono ?_; rintro e w5 ⟨rfl, hB⟩; replace hst := hst.next hB; clear hB
  go_wp2_with fail
  obtain ⟨W0, hW0⟩ : ∃ W0 : World, W0 = w5 := ⟨_, rfl⟩
  rw [← hW0] at hst ⊢
  clear hW0
  go_loopw [7, 8] (fun v i wr => ∃ k : Nat, k ≤ l.length ∧ i = .int .i64 k ∧ OwnR wr W0.heap.size v (singles (l.take k)) ∧ Below W0.heap.size W0 wr) (fun _ i _ => l.length - (intOf i).toNat)
  case atStart => exact ⟨0, by omega, rfl, own_nil' _ _, Below.refl _ _⟩
  case round =>
    obtain ⟨k, hk, rfl, ho, hB⟩ := hrel
    have hw := hst.next hB
    by_cases hlt : k < l.length
    · obtain ⟨wo, rfl⟩ : ∃ wo : World, wo = wr := ⟨_, rfl⟩
      obtain ⟨o1, o2, o3, o4, o5⟩ := HOB.out k hlt
      have HTS := Lib.hid (singles_take_succ l k hlt)
      go_wp2_with fail
      go_loopw [7, 9] (fun v i wr => ∃ j : Nat, (j : Int) ≤ l[k].2 ∧ i = .int .i64 j ∧ OwnR wr W0.heap.size v (singles (l.take k) ++ ones l[k] j) ∧ Below W0.heap.size W0 wr) (fun _ i _ => l[k].2.toNat - (intOf i).toNat)
      case atStart => exact ⟨0, by omega, rfl, by simpa [ones] using ho, hB⟩
      case round =>
        clear hw ho hB
        obtain ⟨j, hj, rfl, ho, hB⟩ := hrel
        have hw := hst.next hB
        obtain ⟨b, o, rfl, c1, c2⟩ := (hw.rd (A, l) (by simp)).at_ k hlt
        by_cases hjl : (j : Int) < l[k].2
        · have hlo := Lib.hid (ones_len l[k] j)
          have hlen : ((singles (l.take k) ++ ones l[k] j).length : Int) < 2000 := by rw [List.length_append, hlo.out]; omega
          have HOS := Lib.hid (ones_succ l[k] j)
          by_cases h0 : 0 ≤ l[k].1
          · have HO2 : Hid (singles (l.take k) ++ ones l[k] (j + 1) = (singles (l.take k) ++ ones l[k] j) ++ [(l[k].1 + j, 1)]) := Lib.hid (by rw [HOS.out, if_pos h0, List.append_assoc])
            generalize singles (l.take k) ++ ones l[k] j = out at *
            go_wp2_with fail
            refine (lawRun_any _ _ _).mono ?_; rintro e w6 ⟨rfl, hB6⟩
            have hB7 := hB.trans (hB6.mono hB.size)
            clear c1 c2 hw
            have hv := (own_below ho hB6).alloc (.cells #[.int .i64 (l[k].1 + j), .int .i64 1] 53)
            have HW : Hid (((w6.alloc (.cells #[.int .i64 (l[k].1 + j), .int .i64 1] 53)).alloc (.cells #[.int .i64 (l[k].1 + j), .int .i64 1] 53)).ownsRow W0.heap.size 53 2 u7 out.length (rv out)) := Lib.hid (hv.alloc _)
            have hnew := cells_new (w6.alloc (.cells #[.int .i64 (l[k].1 + j), .int .i64 1] 53)) [.int .i64 (l[k].1 + j), .int .i64 1] 53
            rw [World.size_alloc] at hnew
            have HN := Lib.hid hnew
            have HO := Lib.hid (one_int .i64 [l[k].1 + j, 1])
            have hB8 : Below W0.heap.size W0 ((w6.alloc (.cells #[.int .i64 (l[k].1 + j), .int .i64 1] 53)).alloc (.cells #[.int .i64 (l[k].1 + j), .int .i64 1] 53)) := (hB7.trans ((below_alloc1 w6 _).mono hB7.size)).alloc (by have := hB7.size; simp; omega) _
            have hbW : W0.heap.size ≤ ((w6.alloc (.cells #[.int .i64 (l[k].1 + j), .int .i64 1] 53)).alloc (.cells #[.int .i64 (l[k].1 + j), .int .i64 1] 53)).heap.size := hB8.size
            clear hv hnew
            go_wp2_with (at_builtin; refine wpList_append_own _ rfl _ _ 22 rfl W0.heap.size 53 i0 (.agg #[.int .i64 0, .int .i64 0]) 2 16 Try.underlying22 hi hz0 hz1 hz2 rfl (by decide) _ _ _ rfl HW.out ⟨w6.heap.size + 1, 0, none⟩ 1 1 [.int .i64 (l[k].1 + j), .int .i64 1] rfl rfl HN.out HO.out (by unfold maxLen; omega) (by omega) hbW ?_; intro v1 w9 hown9 hgrow _)
            have hgB := below_grown hgrow HW.out hbW
            exact ⟨⟨j + 1, by omega, by go_num, by rw [HO2.out]; exact ownR_snoc hown9, hB8.trans hgB⟩, by simp [intOf]; omega⟩
          · have HO2 : Hid (singles (l.take k) ++ ones l[k] (j + 1) = (singles (l.take k) ++ ones l[k] j) ++ [(l[k].1, 1)]) := Lib.hid (by rw [HOS.out, if_neg h0, List.append_assoc])
            generalize singles (l.take k) ++ ones l[k] j = out at *
            go_wp2_with fail
            refine (lawRun_any _ _ _).mono ?_; rintro e w6 ⟨rfl, hB6⟩
            have hB7 := hB.trans (hB6.mono hB.size)
            clear c1 c2 hw
            have hv := (own_below ho hB6).alloc (.cells #[.int .i64 (l[k].1), .int .i64 1] 53)
            have HW : Hid (((w6.alloc (.cells #[.int .i64 (l[k].1), .int .i64 1] 53)).alloc (.cells #[.int .i64 (l[k].1), .int .i64 1] 53)).ownsRow W0.heap.size 53 2 u7 out.length (rv out)) := Lib.hid (hv.alloc _)
            have hnew := cells_new (w6.alloc (.cells #[.int .i64 (l[k].1), .int .i64 1] 53)) [.int .i64 (l[k].1), .int .i64 1] 53
            rw [World.size_alloc] at hnew
            have HN := Lib.hid hnew
            have HO := Lib.hid (one_int .i64 [l[k].1, 1])
            have hB8 : Below W0.heap.size W0 ((w6.alloc (.cells #[.int .i64 (l[k].1), .int .i64 1] 53)).alloc (.cells #[.int .i64 (l[k].1), .int .i64 1] 53)) := (hB7.trans ((below_alloc1 w6 _).mono hB7.size)).alloc (by have := hB7.size; simp; omega) _
            have hbW : W0.heap.size ≤ ((w6.alloc (.cells #[.int .i64 (l[k].1), .int .i64 1] 53)).alloc (.cells #[.int .i64 (l[k].1), .int .i64 1] 53)).heap.size := hB8.size
            clear hv hnew
            go_wp2_with (at_builtin; refine wpList_append_own _ rfl _ _ 22 rfl W0.heap.size 53 i0 (.agg #[.int .i64 0, .int .i64 0]) 2 16 Try.underlying22 hi hz0 hz1 hz2 rfl (by decide) _ _ _ rfl HW.out ⟨w6.heap.size + 1, 0, none⟩ 1 1 [.int .i64 (l[k].1), .int .i64 1] rfl rfl HN.out HO.out (by unfold maxLen; omega) (by omega) hbW ?_; intro v1 w9 hown9 hgrow _)
            have hgB := below_grown hgrow HW.out hbW
            exact ⟨⟨j + 1, by omega, by go_num, by rw [HO2.out]; exact ownR_snoc hown9, hB8.trans hgB⟩, by simp [intOf]; omega⟩
        · have hjm : j = l[k].2.toNat := by omega
          have HOE : Hid (singles (l.take (k + 1)) = singles (l.take k) ++ ones l[k] j) := Lib.hid (by rw [HTS.out, hjm])
          clear hjm
          go_wp2_with fail
          exact ⟨⟨k + 1, by omega, by go_num, by rw [HOE.out]; exact ho, hB⟩, by simp [intOf]; omega⟩
    · have e : k = l.length := by omega
      subst e
      rw [List.take_length] at ho
      obtain ⟨AS, cS, rfl, hcS, hcm, hRS⟩ := own_form ho
      clear ho hB
      replace hst := hw.push hRS
      by_cases hbig : 2000 < (singles l).length
      · go_wp2_with fail
        refine (sanity_any _).mono ?_; rintro e w6 ⟨rfl, hB⟩; replace hst := hst.next hB; clear hB
        go_wp2_with fail
        go_ret
        exact ⟨rfl, hst.below⟩
      · have MS := Lib.hid (must_singles S2.out s3)
        go_wp2_with fail
        refine (Norm1 AS (singles l) m cS _ (hst.rd _ (List.mem_cons_self ..)) (by omega) MS.out M4.out).mono ?_; rintro e w6 ⟨A3, c3, rfl, r1, hB⟩; replace hst := (hst.next hB).push r1; clear hB r1
        go_wp2_with fail
        refine (sanity_any _).mono ?_; rintro e w7 ⟨rfl, hB⟩; replace hst := hst.next hB; clear hB
        go_wp2_with fail
        refine (Same0 m (hst.rd (A3, m) (by simp)) (hst.rd (A1, m) (by simp)) rfl rfl (by omega)).mono ?_; rintro e w8 ⟨rfl, hB⟩; replace hst := hst.next hB; clear hB
        go_wp2_with fail
        go_ret
        exact ⟨rfl, hst.below⟩
theorem RunsNormal_walk (A : Option Addr) (l : List R) (c : Nat) (w : World) (hR : Rd w A l) :
    Calls Try.prog 5 #[.slice A l.length c] w fun e w' => e = .returned (.bool true) ∧ Below w.heap.size w w' := by
  by_cases h : smallB l = true
  · exact RunsNormal_yes A l c w hR h
  · exact RunsNormal_not A l c w (fun _ => hR) (by simpa using h)
end Go.Proofs.Ytjdkdogiaokhjaa
