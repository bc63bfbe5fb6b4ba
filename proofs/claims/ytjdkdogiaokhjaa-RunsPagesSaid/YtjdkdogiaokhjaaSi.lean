/- Runs: Cut, Remove. -/
import Derived.Test.YtjdkdogiaokhjaaSc
namespace Go.Proofs.Ytjdkdogiaokhjaa
open Go.RowKit Go.Proofs
set_option linter.unusedSimpArgs false
set_option linter.unusedVariables false

def Res1P (w0 : World) (r : Int × List R) : Ending → World → Prop := Res1 w0 r.1 r.2
def cutOk (l : List R) (page : Int) : Int × List R × List R := if fitsE (partR l 0 page) ≠ 0 ∨ fitsE (partR l page (sumR l)) ≠ 0 then (2, [], []) else (0, partR l 0 page, partR l page (sumR l))
theorem part_fine {l : List R} (h : mustE l = 0) (fr to : Int) : Fine (partR l fr to) ∧ (partR l fr to).length ≤ 1048576 := by
  have hm := mild_of_must h
  obtain ⟨h1, _, _⟩ := mustE_zero h
  exact ⟨(Nums.part_ hm _ _).fine (by have := partR_sum hm fr to; have := hm.2; omega), by have := partR_len l fr to; omega⟩
set_option maxRecDepth 100000 in
set_option maxHeartbeats 4000000 in
theorem Cut_bad (A : Option Addr) (l : List R) (c : Nat) (page : Int) (w : World) (hR : Rd w A l) (hn : l.length ≤ 1048576) (h0 : mustE l ≠ 0) :
    Calls Try.prog 32 #[.slice A l.length c, .int .i64 page] w (Res2 w (mustE l) [] []) := by
  have H0 := Lib.hid h0
  have hs0 := ES.start w
  clear h0
  go_enter_defers Try.func32, Try.ntmps32
  go_wp2_with fail
  refine (must_no H0 (hs0.rd hR) hn).mono ?_
  rintro e w1 ⟨rfl, hB⟩
  have hs1 := hs0.next hB
  clear hB hs0
  go_wp2_with fail
  refine door_fault hs1.box.cell hs1.box.frozen (v := .tuple #[.slice none 0 0, .slice none 0 0, .int .i64 (mustE l)]) ?_ ⟨_, _, rfl, own_nil' _ _, own_nil' _ _, hs1.fin _⟩
  simp [results, Try.results32, go_sem, (hs1.box.set _).cell]
set_option maxRecDepth 100000 in
set_option maxHeartbeats 4000000 in
theorem Cut_range (A : Option Addr) (l : List R) (c : Nat) (page : Int) (w : World) (hR : Rd w A l) (hn : l.length ≤ 1048576) (h0 : mustE l = 0) (hp : ¬ (0 ≤ page ∧ page ≤ sumR l)) :
    Calls Try.prog 32 #[.slice A l.length c, .int .i64 page] w (Res2 w 24 [] []) := by
  have H0 := Lib.hid h0
  have hm := mild_of_must h0
  have HP := Lib.hid (fun W (hR : Rd W A l) => pages_any A l c W hR hn hm.fine.small)
  have hs0 := ES.start w
  clear hm h0
  go_enter_defers Try.func32, Try.ntmps32
  go_wp2_with fail
  refine (must_ok H0 (hs0.rd hR) hn).mono ?_
  rintro e w1 ⟨rfl, hB⟩
  have hs1 := hs0.next hB
  clear hB hs0
  go_wp2_with fail
  refine (HP.out _ (hs1.rd hR)).mono ?_
  rintro e w7 ⟨rfl, hB⟩
  have hs7 := hs1.next hB
  clear hB hs1
  by_cases hp0 : 0 ≤ page
  · have hp1 : ¬ page ≤ sumR l := by omega
    clear hp
    go_wp2_with (first | (go_at_call 55; (with_reducible refine need_rule _ _ ?_ ?_) <;> intro hq <;> (first | (cases hq; done) | skip) <;> (try simp only [decide_eq_true_eq, decide_eq_false_iff_not, Bool.or_eq_true, Bool.or_eq_false_iff, Bool.and_eq_true, Bool.and_eq_false_iff, beq_iff_eq, beq_eq_false_iff_ne, ne_eq, bne_iff_ne, Bool.not_eq_true, Int.not_le, Int.not_lt] at hq) <;> go_prune))
    refine door_fault hs7.box.cell hs7.box.frozen (v := .tuple #[.slice none 0 0, .slice none 0 0, .int .i64 24]) ?_ ⟨_, _, rfl, own_nil' _ _, own_nil' _ _, hs7.fin _⟩
    simp [results, Try.results32, go_sem, (hs7.box.set _).cell]
  · clear hp
    go_wp2_with (first | (go_at_call 55; (with_reducible refine need_rule _ _ ?_ ?_) <;> intro hq <;> (first | (cases hq; done) | skip) <;> (try simp only [decide_eq_true_eq, decide_eq_false_iff_not, Bool.or_eq_true, Bool.or_eq_false_iff, Bool.and_eq_true, Bool.and_eq_false_iff, beq_iff_eq, beq_eq_false_iff_ne, ne_eq, bne_iff_ne, Bool.not_eq_true, Int.not_le, Int.not_lt] at hq) <;> go_prune))
    refine door_fault hs7.box.cell hs7.box.frozen (v := .tuple #[.slice none 0 0, .slice none 0 0, .int .i64 24]) ?_ ⟨_, _, rfl, own_nil' _ _, own_nil' _ _, hs7.fin _⟩
    simp [results, Try.results32, go_sem, (hs7.box.set _).cell]
set_option maxRecDepth 100000 in
set_option maxHeartbeats 4000000 in
theorem Cut_ok (A : Option Addr) (l : List R) (c : Nat) (page : Int) (w : World) (hR : Rd w A l) (hn : l.length ≤ 1048576) (h0 : mustE l = 0) (hp0 : 0 ≤ page) (hp1 : page ≤ sumR l) :
    Calls Try.prog 32 #[.slice A l.length c, .int .i64 page] w (Res2P w (cutOk l page)) := by
  have H0 := Lib.hid h0
  have hs0 := ES.start w
  have hm := mild_of_must h0
  have hX := part_fine h0 0 page
  have hY := part_fine h0 page (sumR l)
  have hsum := hm.2
  have HP := Lib.hid (fun W (hR : Rd W A l) => pages_any A l c W hR hn hm.fine.small)
  clear h0
  go_enter_defers Try.func32, Try.ntmps32
  go_wp2_with fail
  refine (must_ok H0 (hs0.rd hR) hn).mono ?_
  rintro e w1 ⟨rfl, hB⟩
  have hs1 := hs0.next hB
  clear hB hs0
  go_wp2_with fail
  refine (HP.out _ (hs1.rd hR)).mono ?_
  rintro e w7 ⟨rfl, hB⟩
  have hs7 := hs1.next hB
  clear hB hs1
  go_wp2_with (first | (go_at_call 55; (with_reducible refine need_rule _ _ ?_ ?_) <;> intro hq <;> (first | (cases hq; done) | skip) <;> (try simp only [decide_eq_true_eq, decide_eq_false_iff_not, Bool.or_eq_true, Bool.or_eq_false_iff, Bool.and_eq_true, Bool.and_eq_false_iff, beq_iff_eq, beq_eq_false_iff_ne, ne_eq, bne_iff_ne, Bool.not_eq_true, Int.not_le, Int.not_lt] at hq) <;> go_prune))
  refine (part_any A l c 0 page _ (hs7.rd hR) hn hm ⟨by omega, by omega⟩ ⟨by omega, by omega⟩).mono ?_
  rintro e w10 ⟨vX, rfl, hoX, hB⟩
  obtain ⟨AX, cx, rfl, hcx, hcmX, hRX⟩ := own_form hoX
  have hs6 := hs7.next hB
  have hox' := own_weak hoX hs7.below.size
  clear hB hs7 hoX
  go_wp2_with fail
  refine (part_any A l c page (sumR l) _ (hs6.rd hR) hn hm ⟨by omega, by omega⟩ ⟨by omega, by omega⟩).mono ?_
  rintro e w11 ⟨vY, rfl, hoY, hB⟩
  obtain ⟨AY, cy, rfl, hcY, hcmY, hRY⟩ := own_form hoY
  replace hRX := hRX.below hB
  have hs8 := hs6.next hB
  replace hox' := own_below hox' hB
  have hoy' := own_weak hoY hs6.below.size
  clear hB hs6 hoY
  go_wp2_with fail
  have hx1 := hX.1.small
  have hy1 := hY.1.small
  by_cases hf1 : fitsE (partR l 0 page) = 0
  · have HF1 := Lib.hid hf1
    refine (fits_ok AX _ cx _ hRX hX.2 hx1 HF1).mono ?_
    rintro e w9 ⟨rfl, hB⟩
    have hs9 := hs8.next hB
    replace hRY := hRY.below hB
    replace hox' := own_below hox' hB
    replace hoy' := own_below hoy' hB
    clear hB hs8
    go_wp2_with fail
    by_cases hf2 : fitsE (partR l page (sumR l)) = 0
    · have HF2 := Lib.hid hf2
      refine (fits_ok AY _ cy _ hRY hY.2 hy1 HF2).mono ?_
      rintro e w10 ⟨rfl, hB⟩
      have hs10 := hs9.next hB
      replace hox' := own_below hox' hB
      replace hoy' := own_below hoy' hB
      have hc10 := hs10.box.cell
      have hz10 := hs10.box.frozen
      clear hB hs9
      go_wp2_with fail
      refine door_ok (v := .tuple #[.slice AX (partR l 0 page).length cx, .slice AY (partR l page (sumR l)).length cy, .int .i64 0]) ?_ ?_
      · simp [results, Try.results32, go_sem, (hs10.box.set _).cell]
      · rw [show cutOk l page = _ from if_neg (by rw [HF1.out, HF2.out]; simp)]
        exact ⟨_, _, rfl, own_setBox hox' hs10.box, own_setBox hoy' hs10.box, hs10.fin _⟩
    · have HF2 := Lib.hid hf2
      refine (fits_no AY _ cy _ hRY hY.2 hy1 HF2).mono ?_
      rintro e w10 ⟨rfl, hB⟩
      have hs10 := hs9.next hB
      clear hB hs9
      go_wp2_with fail
      refine door_fault hs10.box.cell hs10.box.frozen (v := .tuple #[.slice none 0 0, .slice none 0 0, .int .i64 2]) ?_ ?_
      · simp [results, Try.results32, go_sem, (hs10.box.set _).cell]
      · rw [show cutOk l page = _ from if_pos (.inr HF2.out)]
        exact ⟨_, _, rfl, own_nil' _ _, own_nil' _ _, hs10.fin _⟩
  · have HF1 := Lib.hid hf1
    refine (fits_no AX _ cx _ hRX hX.2 hx1 HF1).mono ?_
    rintro e w9 ⟨rfl, hB⟩
    have hs9 := hs8.next hB
    clear hB hs8
    go_wp2_with fail
    refine door_fault hs9.box.cell hs9.box.frozen (v := .tuple #[.slice none 0 0, .slice none 0 0, .int .i64 2]) ?_ ?_
    · simp [results, Try.results32, go_sem, (hs9.box.set _).cell]
    · rw [show cutOk l page = _ from if_pos (.inl HF1.out)]
      exact ⟨_, _, rfl, own_nil' _ _, own_nil' _ _, hs9.fin _⟩
def removeX (l : List R) (page many : Int) : List R := norm (partR l 0 page ++ partR l (page + many) (sumR l))
def removeOk (l : List R) (page many : Int) : Int × List R × List R := if fitsE (removeX l page many) ≠ 0 ∨ fitsE (partR l page (page + many)) ≠ 0 then (2, [], []) else (0, removeX l page many, partR l page (page + many))
theorem two_parts_bd {l : List R} (h : mustE l = 0) (a b c d : Int) : Nums 17179869184 (partR l a b ++ partR l c d) ∧ sumR (partR l a b ++ partR l c d) ≤ 8589934592 ∧ (partR l a b ++ partR l c d).length ≤ 5000 := by
  have hm := mild_of_must h
  obtain ⟨h1, h2, h3⟩ := mustE_zero h
  have p1 := partR_sum hm a b
  have p2 := partR_sum hm c d
  have q1 := partR_len l a b
  have q2 := partR_len l c d
  refine ⟨(Nums.part_ hm _ _).append (Nums.part_ hm _ _), ?_, ?_⟩
  · simp only [sumR_append]; omega
  · simp only [List.length_append]; omega
theorem norm_fine {l : List R} (h1 : Nums 17179869184 l) (h2 : sumR l ≤ 8589934592) (h3 : l.length ≤ 10000) : Fine (norm l) ∧ (norm l).length ≤ 1048576 :=
  ⟨(Nums.norm_ h1).fine (by rw [norm_sum]; omega), by have := norm_len l; omega⟩
set_option maxRecDepth 100000 in
set_option maxHeartbeats 4000000 in
theorem Remove_bad (A : Option Addr) (l : List R) (c : Nat) (page : Int) (many : Int) (w : World) (hR : Rd w A l) (hn : l.length ≤ 1048576) (h0 : mustE l ≠ 0) :
    Calls Try.prog 39 #[.slice A l.length c, .int .i64 page, .int .i64 many] w (Res2 w (mustE l) [] []) := by
  have H0 := Lib.hid h0
  have hs0 := ES.start w
  clear h0
  go_enter_defers Try.func39, Try.ntmps39
  go_wp2_with fail
  refine (must_no H0 (hs0.rd hR) hn).mono ?_
  rintro e w1 ⟨rfl, hB⟩
  have hs1 := hs0.next hB
  clear hB hs0
  go_wp2_with fail
  refine door_fault hs1.box.cell hs1.box.frozen (v := .tuple #[.slice none 0 0, .slice none 0 0, .int .i64 (mustE l)]) ?_ ⟨_, _, rfl, own_nil' _ _, own_nil' _ _, hs1.fin _⟩
  simp [results, Try.results39, go_sem, (hs1.box.set _).cell]
set_option maxRecDepth 100000 in
set_option maxHeartbeats 4000000 in
theorem Remove_range (A : Option Addr) (l : List R) (c : Nat) (page : Int) (many : Int) (w : World) (hR : Rd w A l) (hn : l.length ≤ 1048576) (h0 : mustE l = 0) (hi : ¬ inR l page many) :
    Calls Try.prog 39 #[.slice A l.length c, .int .i64 page, .int .i64 many] w (Res2 w 24 [] []) := by
  have H0 := Lib.hid h0
  have hs0 := ES.start w
  have hm := mild_of_must h0
  have hI := Lib.hid (fun W (hR : Rd W A l) => inside_no A l c page many W hR hn hm.fine.small hi hm.2 (pages_nonneg h0))
  clear h0 hi hm
  go_enter_defers Try.func39, Try.ntmps39
  go_wp2_with fail
  refine (must_ok H0 (hs0.rd hR) hn).mono ?_
  rintro e w1 ⟨rfl, hB⟩
  have hs1 := hs0.next hB
  clear hB hs0
  go_wp2_with fail
  refine (hI.out _ (hs1.rd hR)).mono ?_
  rintro e w2 ⟨rfl, hB⟩
  have hs2 := hs1.next hB
  clear hB
  go_wp2_with fail
  refine door_fault hs2.box.cell hs2.box.frozen (v := .tuple #[.slice none 0 0, .slice none 0 0, .int .i64 24]) ?_ ⟨_, _, rfl, own_nil' _ _, own_nil' _ _, hs2.fin _⟩
  simp [results, Try.results39, go_sem, (hs2.box.set _).cell]
set_option maxRecDepth 100000 in
set_option maxHeartbeats 4000000 in
theorem Remove_ok (A : Option Addr) (l : List R) (c : Nat) (page : Int) (many : Int) (w : World) (hR : Rd w A l) (hn : l.length ≤ 1048576) (h0 : mustE l = 0) (hi : inR l page many) :
    Calls Try.prog 39 #[.slice A l.length c, .int .i64 page, .int .i64 many] w (Res2P w (removeOk l page many)) := by
  have H0 := Lib.hid h0
  have hs0 := ES.start w
  have hm := mild_of_must h0
  have hbd := two_parts_bd h0 0 page (page + many) (sumR l)
  have hp0 := pages_nonneg h0
  obtain ⟨i1, i2, i3, i4⟩ := hi
  have hsum := hm.2
  have hX : Fine (removeX l page many) ∧ (removeX l page many).length ≤ 1048576 := norm_fine hbd.1 hbd.2.1 (by omega)
  have hY := part_fine h0 page (page + many)
  have hI := Lib.hid (fun W (hR : Rd W A l) => inside_ok A l c page many W hR hn hm.fine.small i1 i2 i3 i4 hm.2)
  clear h0
  go_enter_defers Try.func39, Try.ntmps39
  go_wp2_with fail
  refine (must_ok H0 (hs0.rd hR) hn).mono ?_
  rintro e w1 ⟨rfl, hB⟩
  have hs1 := hs0.next hB
  clear hB hs0
  go_wp2_with fail
  refine (hI.out _ (hs1.rd hR)).mono ?_
  rintro e w2 ⟨rfl, hB⟩
  have hs2 := hs1.next hB
  clear hB hs1
  go_wp2_with fail
  refine (part_any A l c 0 page _ (hs2.rd hR) hn hm ⟨by omega, by omega⟩ ⟨by omega, by omega⟩).mono ?_
  rintro e w3 ⟨v1, rfl, ho1, hB⟩
  obtain ⟨A1, c1, rfl, hc1, hcm1, hR1⟩ := own_form ho1
  have hs3 := hs2.next hB
  clear hB hs2 ho1
  go_wp2_with fail
  refine (part_any A l c (page + many) (sumR l) _ (hs3.rd hR) hn hm ⟨by omega, by omega⟩ ⟨by omega, by omega⟩).mono ?_
  rintro e w4 ⟨v3, rfl, ho3, hB⟩
  obtain ⟨A3, c3, rfl, hc3, hcm3, hR3⟩ := own_form ho3
  replace hR1 := hR1.below hB
  have hs4 := hs3.next hB
  clear hB hs3 ho3
  go_wp2_with fail
  have hRL := RdL.built w4 [(.slice A1 (partR l 0 page).length c1, partR l 0 page), (.slice A3 (partR l (page + many) (sumR l)).length c3, partR l (page + many) (sumR l))] 22
    (by intro p hp; simp only [List.mem_cons, List.mem_nil_iff, or_false] at hp; rcases hp with rfl | rfl; exact ⟨_, _, rfl, hR1⟩; exact ⟨_, _, rfl, hR3⟩)
  have hcat : cat [(.slice A1 (partR l 0 page).length c1, partR l 0 page), (.slice A3 (partR l (page + many) (sumR l)).length c3, partR l (page + many) (sumR l))] = partR l 0 page ++ partR l (page + many) (sumR l) := by simp [cat]
  have hJ := joined_any (some ⟨w4.heap.size, 0, none⟩) _ 2 _ hRL (by simp) (by rw [hcat]; omega) (by rw [hcat]; intro r hr; have := hbd.1 r hr; omega) (by rw [hcat]; omega)
  rw [hcat, show norm (partR l 0 page ++ partR l (page + many) (sumR l)) = removeX l page many from rfl] at hJ
  have hs61 := hs4.alloc (.cells #[.slice A1 (partR l 0 page).length c1, .slice A3 (partR l (page + many) (sumR l)).length c3] 22)
  clear hRL hcat hs4
  refine hJ.mono ?_
  rintro e w6 ⟨vx, rfl, hox, hB⟩
  obtain ⟨AX, cx, rfl, hcx, hcmx, hRX⟩ := own_form hox
  have hs71 := hs61.next hB
  have hox' := own_weak hox hs61.below.size
  clear hB hs61 hJ hox
  go_wp2_with fail
  refine (part_any A l c page (page + many) _ (hs71.rd hR) hn hm ⟨by omega, by omega⟩ ⟨by omega, by omega⟩).mono ?_
  rintro e w11 ⟨vY, rfl, hoY, hB⟩
  obtain ⟨AY, cy, rfl, hcY, hcmY, hRY⟩ := own_form hoY
  replace hRX := hRX.below hB
  have hs8 := hs71.next hB
  replace hox' := own_below hox' hB
  have hoy' := own_weak hoY hs71.below.size
  clear hB hs71 hoY
  go_wp2_with fail
  have hx1 := hX.1.small
  have hy1 := hY.1.small
  by_cases hf1 : fitsE (removeX l page many) = 0
  · have HF1 := Lib.hid hf1
    refine (fits_ok AX _ cx _ hRX hX.2 hx1 HF1).mono ?_
    rintro e w9 ⟨rfl, hB⟩
    have hs9 := hs8.next hB
    replace hRY := hRY.below hB
    replace hox' := own_below hox' hB
    replace hoy' := own_below hoy' hB
    clear hB hs8
    go_wp2_with fail
    by_cases hf2 : fitsE (partR l page (page + many)) = 0
    · have HF2 := Lib.hid hf2
      refine (fits_ok AY _ cy _ hRY hY.2 hy1 HF2).mono ?_
      rintro e w10 ⟨rfl, hB⟩
      have hs10 := hs9.next hB
      replace hox' := own_below hox' hB
      replace hoy' := own_below hoy' hB
      have hc10 := hs10.box.cell
      have hz10 := hs10.box.frozen
      clear hB hs9
      go_wp2_with fail
      refine door_ok (v := .tuple #[.slice AX (removeX l page many).length cx, .slice AY (partR l page (page + many)).length cy, .int .i64 0]) ?_ ?_
      · simp [results, Try.results39, go_sem, (hs10.box.set _).cell]
      · rw [show removeOk l page many = _ from if_neg (by rw [HF1.out, HF2.out]; simp)]
        exact ⟨_, _, rfl, own_setBox hox' hs10.box, own_setBox hoy' hs10.box, hs10.fin _⟩
    · have HF2 := Lib.hid hf2
      refine (fits_no AY _ cy _ hRY hY.2 hy1 HF2).mono ?_
      rintro e w10 ⟨rfl, hB⟩
      have hs10 := hs9.next hB
      clear hB hs9
      go_wp2_with fail
      refine door_fault hs10.box.cell hs10.box.frozen (v := .tuple #[.slice none 0 0, .slice none 0 0, .int .i64 2]) ?_ ?_
      · simp [results, Try.results39, go_sem, (hs10.box.set _).cell]
      · rw [show removeOk l page many = _ from if_pos (.inr HF2.out)]
        exact ⟨_, _, rfl, own_nil' _ _, own_nil' _ _, hs10.fin _⟩
  · have HF1 := Lib.hid hf1
    refine (fits_no AX _ cx _ hRX hX.2 hx1 HF1).mono ?_
    rintro e w9 ⟨rfl, hB⟩
    have hs9 := hs8.next hB
    clear hB hs8
    go_wp2_with fail
    refine door_fault hs9.box.cell hs9.box.frozen (v := .tuple #[.slice none 0 0, .slice none 0 0, .int .i64 2]) ?_ ?_
    · simp [results, Try.results39, go_sem, (hs9.box.set _).cell]
    · rw [show removeOk l page many = _ from if_pos (.inl HF1.out)]
      exact ⟨_, _, rfl, own_nil' _ _, own_nil' _ _, hs9.fin _⟩
end Go.Proofs.Ytjdkdogiaokhjaa
