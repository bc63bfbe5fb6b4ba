/- Runs: Put. -/
import Derived.Test.YtjdkdogiaokhjaaRi
namespace Go.Proofs.Ytjdkdogiaokhjaa
open Go.RowKit Go.Proofs
set_option linter.unusedSimpArgs false
set_option linter.unusedVariables false

def gapR (l : List R) (page : Int) (more : List R) : List R := if 0 < sumR more ∧ sumR l < page then [(-1, page - sumR l)] else []
def putX (l : List R) (page : Int) (more : List R) : List R := norm (partR l 0 page ++ gapR l page more ++ more ++ partR l (page + sumR more) (sumR l))
def putOk (l : List R) (page : Int) (more : List R) : Int × List R × List R := if fitsE (putX l page more) ≠ 0 ∨ fitsE (partR l page (page + sumR more)) ≠ 0 then (2, [], []) else (0, putX l page more, partR l page (page + sumR more))
theorem put_bd {l more : List R} {page : Int} (h : mustE l = 0) (h' : mustE more = 0) (hp : 0 ≤ page) (hp2 : page ≤ 1073741824) :
    Nums 17179869184 (partR l 0 page ++ gapR l page more ++ more ++ partR l (page + sumR more) (sumR l)) ∧ sumR (partR l 0 page ++ gapR l page more ++ more ++ partR l (page + sumR more) (sumR l)) ≤ 8589934592 ∧ (partR l 0 page ++ gapR l page more ++ more ++ partR l (page + sumR more) (sumR l)).length ≤ 7000 := by
  have hm := mild_of_must h
  have hm' := mild_of_must h'
  obtain ⟨h1, h2, h3⟩ := mustE_zero h
  obtain ⟨h1', h2', h3'⟩ := mustE_zero h'
  have p0 := pages_nonneg h
  have p1 := partR_sum hm 0 page
  have p2 := partR_sum hm (page + sumR more) (sumR l)
  have q1 := partR_len l 0 page
  have q2 := partR_len l (page + sumR more) (sumR l)
  have g : Nums 17179869184 (gapR l page more) ∧ sumR (gapR l page more) ≤ 1073741824 ∧ (gapR l page more).length ≤ 1 := by
    unfold gapR
    split
    · refine ⟨fun r hr => ?_, by simp only [sumR]; omega, by simp⟩
      simp at hr; subst hr; simp only; omega
    · exact ⟨fun r hr => by simp at hr, by simp [sumR], by simp⟩
  refine ⟨(((Nums.part_ hm _ _).append g.1).append (Nums.of_mild hm')).append (Nums.part_ hm _ _), ?_, ?_⟩
  · simp only [sumR_append]; omega
  · simp only [List.length_append]; omega
set_option maxRecDepth 100000 in
set_option maxHeartbeats 2000000 in
theorem Put_bad1 (A : Option Addr) (l : List R) (c : Nat) (page : Int) (A' : Option Addr) (more : List R) (c' : Nat) (w : World) (hR : Rd w A l) (hn : l.length ≤ 1048576) (hR' : Rd w A' more) (hn' : more.length ≤ 1048576) (h0 : mustE l ≠ 0) :
    Calls Try.prog 18 #[.slice A l.length c, .int .i64 page, .slice A' more.length c'] w (Res2 w (mustE l) [] []) := by
  have H0 := Lib.hid h0
  have hs0 := ES.start w
  clear h0
  go_enter_defers Try.func18, Try.ntmps18
  go_wp2_with fail
  refine (must_no H0 (hs0.rd hR) hn).mono ?_
  rintro e w1 ⟨rfl, hB⟩
  have hs1 := hs0.next hB
  go_wp2_with fail
  refine door_fault hs1.box.cell hs1.box.frozen (v := .tuple #[.slice none 0 0, .slice none 0 0, .int .i64 (mustE l)]) ?_ ⟨_, _, rfl, own_nil' _ _, own_nil' _ _, hs1.fin _⟩
  simp [results, Try.results18, go_sem, (hs1.box.set _).cell]
set_option maxRecDepth 100000 in
set_option maxHeartbeats 2000000 in
theorem Put_bad2 (A : Option Addr) (l : List R) (c : Nat) (page : Int) (A' : Option Addr) (more : List R) (c' : Nat) (w : World) (hR : Rd w A l) (hn : l.length ≤ 1048576) (hR' : Rd w A' more) (hn' : more.length ≤ 1048576) (h0 : mustE l = 0) (h1 : mustE more ≠ 0) :
    Calls Try.prog 18 #[.slice A l.length c, .int .i64 page, .slice A' more.length c'] w (Res2 w (mustE more) [] []) := by
  have H0 := Lib.hid h0
  have H1 := Lib.hid h1
  have hs0 := ES.start w
  clear h0 h1
  go_enter_defers Try.func18, Try.ntmps18
  go_wp2_with fail
  refine (must_ok H0 (hs0.rd hR) hn).mono ?_
  rintro e w1 ⟨rfl, hB⟩
  have hs1 := hs0.next hB
  clear hB hs0
  go_wp2_with fail
  refine (must_no H1 (hs1.rd hR') hn').mono ?_
  rintro e w2 ⟨rfl, hB⟩
  have hs2 := hs1.next hB
  go_wp2_with fail
  refine door_fault hs2.box.cell hs2.box.frozen (v := .tuple #[.slice none 0 0, .slice none 0 0, .int .i64 (mustE more)]) ?_ ⟨_, _, rfl, own_nil' _ _, own_nil' _ _, hs2.fin _⟩
  simp [results, Try.results18, go_sem, (hs2.box.set _).cell]
set_option maxRecDepth 100000 in
set_option maxHeartbeats 2000000 in
theorem Put_range (A : Option Addr) (l : List R) (c : Nat) (page : Int) (A' : Option Addr) (more : List R) (c' : Nat) (w : World) (hR : Rd w A l) (hn : l.length ≤ 1048576) (hR' : Rd w A' more) (hn' : more.length ≤ 1048576) (h0 : mustE l = 0) (h1 : mustE more = 0) (hp : ¬ (0 ≤ page ∧ page ≤ 1073741824)) :
    Calls Try.prog 18 #[.slice A l.length c, .int .i64 page, .slice A' more.length c'] w (Res2 w 24 [] []) := by
  have H0 := Lib.hid h0
  have H1 := Lib.hid h1
  have hs0 := ES.start w
  clear h0 h1
  go_enter_defers Try.func18, Try.ntmps18
  go_wp2_with fail
  refine (must_ok H0 (hs0.rd hR) hn).mono ?_
  rintro e w1 ⟨rfl, hB⟩
  have hs1 := hs0.next hB
  clear hB hs0
  go_wp2_with fail
  refine (must_ok H1 (hs1.rd hR') hn').mono ?_
  rintro e w2 ⟨rfl, hB⟩
  have hs2 := hs1.next hB
  clear hB hs1
  by_cases hp0 : 0 ≤ page
  · have hp1 : ¬ page ≤ 1073741824 := by omega
    clear hp
    go_wp2_with (first | (go_at_call 55; (with_reducible refine need_rule _ _ ?_ ?_) <;> intro hq <;> (first | (cases hq; done) | skip) <;> (try simp only [decide_eq_true_eq, decide_eq_false_iff_not, Bool.or_eq_true, Bool.or_eq_false_iff, Bool.and_eq_true, Bool.and_eq_false_iff, beq_iff_eq, beq_eq_false_iff_ne, ne_eq, bne_iff_ne, Bool.not_eq_true, Int.not_le, Int.not_lt] at hq) <;> go_prune))
    refine door_fault hs2.box.cell hs2.box.frozen (v := .tuple #[.slice none 0 0, .slice none 0 0, .int .i64 24]) ?_ ⟨_, _, rfl, own_nil' _ _, own_nil' _ _, hs2.fin _⟩
    simp [results, Try.results18, go_sem, (hs2.box.set _).cell]
  · clear hp
    go_wp2_with (first | (go_at_call 55; (with_reducible refine need_rule _ _ ?_ ?_) <;> intro hq <;> (first | (cases hq; done) | skip) <;> (try simp only [decide_eq_true_eq, decide_eq_false_iff_not, Bool.or_eq_true, Bool.or_eq_false_iff, Bool.and_eq_true, Bool.and_eq_false_iff, beq_iff_eq, beq_eq_false_iff_ne, ne_eq, bne_iff_ne, Bool.not_eq_true, Int.not_le, Int.not_lt] at hq) <;> go_prune))
    refine door_fault hs2.box.cell hs2.box.frozen (v := .tuple #[.slice none 0 0, .slice none 0 0, .int .i64 24]) ?_ ⟨_, _, rfl, own_nil' _ _, own_nil' _ _, hs2.fin _⟩
    simp [results, Try.results18, go_sem, (hs2.box.set _).cell]
set_option maxRecDepth 100000 in
set_option maxHeartbeats 4000000 in
theorem Put_ok (A : Option Addr) (l : List R) (c : Nat) (page : Int) (A' : Option Addr) (more : List R) (c' : Nat) (w : World) (hR : Rd w A l) (hn : l.length ≤ 1048576) (hR' : Rd w A' more) (hn' : more.length ≤ 1048576) (h0 : mustE l = 0) (h1 : mustE more = 0) (hp0 : 0 ≤ page) (hp1 : page ≤ 1073741824) :
    Calls Try.prog 18 #[.slice A l.length c, .int .i64 page, .slice A' more.length c'] w (Res2P w (putOk l page more)) := by
  have H0 := Lib.hid h0
  have H1 := Lib.hid h1
  have hs0 := ES.start w
  have hm := mild_of_must h0
  have hm' := mild_of_must h1
  have hbd := put_bd h0 h1 hp0 hp1
  have hz := mustE_zero h0
  have hz' := mustE_zero h1
  have hl0 := pages_nonneg h0
  have hl0' := pages_nonneg h1
  have hsum := hm.2
  have hX : Fine (putX l page more) ∧ (putX l page more).length ≤ 1048576 := ⟨(Nums.norm_ hbd.1).fine (by rw [norm_sum]; omega), by have := norm_len (partR l 0 page ++ gapR l page more ++ more ++ partR l (page + sumR more) (sumR l)); unfold putX; omega⟩
  have hY : Fine (partR l page (page + sumR more)) ∧ (partR l page (page + sumR more)).length ≤ 1048576 := ⟨(Nums.part_ hm _ _).fine (by have := partR_sum hm page (page + sumR more); omega), by have := partR_len l page (page + sumR more); omega⟩
  have HP := Lib.hid (fun W (hR : Rd W A l) => pages_any A l c W hR hn hm.fine.small)
  have HP' := Lib.hid (fun W (hR : Rd W A' more) => pages_any A' more c' W hR hn' hm'.fine.small)
  clear h0 h1
  go_enter_defers Try.func18, Try.ntmps18
  go_wp2_with fail
  refine (must_ok H0 (hs0.rd hR) hn).mono ?_
  rintro e w1 ⟨rfl, hB⟩
  have hs1 := hs0.next hB
  clear hB hs0
  go_wp2_with fail
  refine (must_ok H1 (hs1.rd hR') hn').mono ?_
  rintro e w2 ⟨rfl, hB⟩
  have hs2 := hs1.next hB
  clear hB hs1
  go_wp2_with (first | (go_at_call 55; (with_reducible refine need_rule _ _ ?_ ?_) <;> intro hq <;> (first | (cases hq; done) | skip) <;> (try simp only [decide_eq_true_eq, decide_eq_false_iff_not, Bool.or_eq_true, Bool.or_eq_false_iff, Bool.and_eq_true, Bool.and_eq_false_iff, beq_iff_eq, beq_eq_false_iff_ne, ne_eq, bne_iff_ne, Bool.not_eq_true, Int.not_le, Int.not_lt] at hq) <;> go_prune))
  refine (HP.out _ (hs2.rd hR)).mono ?_
  rintro e w21 ⟨rfl, hB⟩
  have hs21 := hs2.next hB
  clear hB hs2
  go_wp2_with fail
  refine (HP'.out _ (hs21.rd hR')).mono ?_
  rintro e w2 ⟨rfl, hB⟩
  have hs2 := hs21.next hB
  clear hB hs21
  by_cases hg : 0 < sumR more ∧ sumR l < page
  · have hgap : gapR l page more = [(-1, page - sumR l)] := if_pos hg
    obtain ⟨hg1, hg2⟩ := hg
    go_wp2_with fail
    have hs3 := hs2.alloc (.cells #[.int .i64 (-1), .int .i64 (page - sumR l)] 53)
    have hRh : Rd (w2.alloc (.cells #[.int .i64 (-1), .int .i64 (page - sumR l)] 53)) (some ⟨w2.heap.size, 0, none⟩) (gapR l page more) := by rw [hgap]; exact Rd.lit1 w2 (-1) (page - sumR l) 53
    refine (part_any A l c 0 page _ (hs3.rd hR) hn hm ⟨by omega, by omega⟩ ⟨by omega, by omega⟩).mono ?_
    rintro e w4 ⟨v1, rfl, ho1, hB⟩
    obtain ⟨A1, c1, rfl, hc1, hcm1, hR1⟩ := own_form ho1
    have hs4 := hs3.next hB
    replace hRh := hRh.below hB
    clear hB hs3 ho1
    go_wp2_with fail
    refine (part_any A l c (page + sumR more) (sumR l) _ (hs4.rd hR) hn hm ⟨by omega, by omega⟩ ⟨by omega, by omega⟩).mono ?_
    rintro e w5 ⟨v3, rfl, ho3, hB⟩
    obtain ⟨A3, c3, rfl, hc3, hcm3, hR3⟩ := own_form ho3
    have hs5 := hs4.next hB
    replace hRh := hRh.below hB
    replace hR1 := hR1.below hB
    clear hB hs4 ho3
    go_wp2_with fail
    have hRL := RdL.built w5 [(.slice A1 (partR l 0 page).length c1, partR l 0 page), (.slice (some ⟨w2.heap.size, 0, none⟩) 1 1, gapR l page more), (.slice A' more.length c', more), (.slice A3 (partR l (page + sumR more) (sumR l)).length c3, partR l (page + sumR more) (sumR l))] 22
      (by intro p hp; simp only [List.mem_cons, List.mem_nil_iff, or_false] at hp; rcases hp with rfl | rfl | rfl | rfl; exact ⟨A1, c1, rfl, hR1⟩; exact ⟨_, _, by rw [hgap]; rfl, hRh⟩; exact ⟨A', c', rfl, hs5.rd hR'⟩; exact ⟨A3, c3, rfl, hR3⟩)
    have hcat : cat [(.slice A1 (partR l 0 page).length c1, partR l 0 page), (.slice (some ⟨w2.heap.size, 0, none⟩) 1 1, gapR l page more), (.slice A' more.length c', more), (.slice A3 (partR l (page + sumR more) (sumR l)).length c3, partR l (page + sumR more) (sumR l))] = partR l 0 page ++ gapR l page more ++ more ++ partR l (page + sumR more) (sumR l) := by simp [cat]
    have hJ := joined_any (some ⟨w5.heap.size, 0, none⟩) _ 4 _ hRL (by simp) (by rw [hcat]; omega) (by rw [hcat]; intro r hr; have := hbd.1 r hr; omega) (by rw [hcat]; omega)
    rw [hcat, show norm (partR l 0 page ++ gapR l page more ++ more ++ partR l (page + sumR more) (sumR l)) = putX l page more from rfl] at hJ
    have hs6 := hs5.alloc (.cells #[.slice A1 (partR l 0 page).length c1, .slice (some ⟨w2.heap.size, 0, none⟩) 1 1, .slice A' more.length c', .slice A3 (partR l (page + sumR more) (sumR l)).length c3] 22)
    clear hRL hcat hR1 hR3 hRh hs5
    refine hJ.mono ?_
    rintro e w6 ⟨vx, rfl, hox, hB⟩
    obtain ⟨AX, cx, rfl, hcx, hcmx, hRX⟩ := own_form hox
    have hs7 := hs6.next hB
    have hox' := own_weak hox hs6.below.size
    clear hB hs6 hJ
    go_wp2_with fail
    refine (part_any A l c page (page + sumR more) _ (hs7.rd hR) hn hm ⟨by omega, by omega⟩ ⟨by omega, by omega⟩).mono ?_
    rintro e w8 ⟨vy, rfl, hoy, hB⟩
    obtain ⟨AY, cy, rfl, hcy, hcmy, hRY⟩ := own_form hoy
    have hs8 := hs7.next hB
    replace hRX := hRX.below hB
    replace hox' := own_below hox' hB
    have hoy' := own_weak hoy hs7.below.size
    clear hB hs7 hox hoy
    go_wp2_with fail
    have hx1 := hX.1.small
    have hy1 := hY.1.small
    by_cases hf1 : fitsE (putX l page more) = 0
    · have HF1 := Lib.hid hf1
      refine (fits_ok AX _ cx _ hRX hX.2 hx1 HF1).mono ?_
      rintro e w9 ⟨rfl, hB⟩
      have hs9 := hs8.next hB
      replace hRY := hRY.below hB
      replace hox' := own_below hox' hB
      replace hoy' := own_below hoy' hB
      clear hB hs8
      go_wp2_with fail
      by_cases hf2 : fitsE (partR l page (page + sumR more)) = 0
      · have HF2 := Lib.hid hf2
        refine (fits_ok AY _ cy _ hRY hY.2 hy1 HF2).mono ?_
        rintro e w10 ⟨rfl, hB⟩
        have hs10 := hs9.next hB
        replace hox' := own_below hox' hB
        replace hoy' := own_below hoy' hB
        have hc10 := hs10.box.cell
        have hz10 := hs10.box.frozen
        clear hB hs9
        go_wp2_with fail
        refine door_ok (v := .tuple #[.slice AX (putX l page more).length cx, .slice AY (partR l page (page + sumR more)).length cy, .int .i64 0]) ?_ ?_
        · simp [results, Try.results18, go_sem, (hs10.box.set _).cell]
        · rw [show putOk l page more = _ from if_neg (by rw [HF1.out, HF2.out]; simp)]
          exact ⟨_, _, rfl, own_setBox hox' hs10.box, own_setBox hoy' hs10.box, hs10.fin _⟩
      · have HF2 := Lib.hid hf2
        refine (fits_no AY _ cy _ hRY hY.2 hy1 HF2).mono ?_
        rintro e w10 ⟨rfl, hB⟩
        have hs10 := hs9.next hB
        clear hB hs9
        go_wp2_with fail
        refine door_fault hs10.box.cell hs10.box.frozen (v := .tuple #[.slice none 0 0, .slice none 0 0, .int .i64 2]) ?_ ?_
        · simp [results, Try.results18, go_sem, (hs10.box.set _).cell]
        · rw [show putOk l page more = _ from if_pos (.inr HF2.out)]
          exact ⟨_, _, rfl, own_nil' _ _, own_nil' _ _, hs10.fin _⟩
    · have HF1 := Lib.hid hf1
      refine (fits_no AX _ cx _ hRX hX.2 hx1 HF1).mono ?_
      rintro e w9 ⟨rfl, hB⟩
      have hs9 := hs8.next hB
      clear hB hs8
      go_wp2_with fail
      refine door_fault hs9.box.cell hs9.box.frozen (v := .tuple #[.slice none 0 0, .slice none 0 0, .int .i64 2]) ?_ ?_
      · simp [results, Try.results18, go_sem, (hs9.box.set _).cell]
      · rw [show putOk l page more = _ from if_pos (.inl HF1.out)]
        exact ⟨_, _, rfl, own_nil' _ _, own_nil' _ _, hs9.fin _⟩
  · have hgap : gapR l page more = [] := if_neg hg
    have hs3 := hs2
    have hRh : Rd w2 none (gapR l page more) := by rw [hgap]; exact Rd.nil _ _
    by_cases hg1 : 0 < sumR more
    · have hg2 : ¬ sumR l < page := fun h => hg ⟨hg1, h⟩
      clear hg
      go_wp2_with fail
      refine (part_any A l c 0 page _ (hs3.rd hR) hn hm ⟨by omega, by omega⟩ ⟨by omega, by omega⟩).mono ?_
      rintro e w4 ⟨v1, rfl, ho1, hB⟩
      obtain ⟨A1, c1, rfl, hc1, hcm1, hR1⟩ := own_form ho1
      have hs4 := hs3.next hB
      replace hRh := hRh.below hB
      clear hB hs3 ho1
      go_wp2_with fail
      refine (part_any A l c (page + sumR more) (sumR l) _ (hs4.rd hR) hn hm ⟨by omega, by omega⟩ ⟨by omega, by omega⟩).mono ?_
      rintro e w5 ⟨v3, rfl, ho3, hB⟩
      obtain ⟨A3, c3, rfl, hc3, hcm3, hR3⟩ := own_form ho3
      have hs5 := hs4.next hB
      replace hRh := hRh.below hB
      replace hR1 := hR1.below hB
      clear hB hs4 ho3
      go_wp2_with fail
      have hRL := RdL.built w5 [(.slice A1 (partR l 0 page).length c1, partR l 0 page), (.slice none 0 0, gapR l page more), (.slice A' more.length c', more), (.slice A3 (partR l (page + sumR more) (sumR l)).length c3, partR l (page + sumR more) (sumR l))] 22
        (by intro p hp; simp only [List.mem_cons, List.mem_nil_iff, or_false] at hp; rcases hp with rfl | rfl | rfl | rfl; exact ⟨A1, c1, rfl, hR1⟩; exact ⟨_, _, by rw [hgap]; rfl, hRh⟩; exact ⟨A', c', rfl, hs5.rd hR'⟩; exact ⟨A3, c3, rfl, hR3⟩)
      have hcat : cat [(.slice A1 (partR l 0 page).length c1, partR l 0 page), (.slice none 0 0, gapR l page more), (.slice A' more.length c', more), (.slice A3 (partR l (page + sumR more) (sumR l)).length c3, partR l (page + sumR more) (sumR l))] = partR l 0 page ++ gapR l page more ++ more ++ partR l (page + sumR more) (sumR l) := by simp [cat]
      have hJ := joined_any (some ⟨w5.heap.size, 0, none⟩) _ 4 _ hRL (by simp) (by rw [hcat]; omega) (by rw [hcat]; intro r hr; have := hbd.1 r hr; omega) (by rw [hcat]; omega)
      rw [hcat, show norm (partR l 0 page ++ gapR l page more ++ more ++ partR l (page + sumR more) (sumR l)) = putX l page more from rfl] at hJ
      have hs6 := hs5.alloc (.cells #[.slice A1 (partR l 0 page).length c1, .slice none 0 0, .slice A' more.length c', .slice A3 (partR l (page + sumR more) (sumR l)).length c3] 22)
      clear hRL hcat hR1 hR3 hRh hs5
      refine hJ.mono ?_
      rintro e w6 ⟨vx, rfl, hox, hB⟩
      obtain ⟨AX, cx, rfl, hcx, hcmx, hRX⟩ := own_form hox
      have hs7 := hs6.next hB
      have hox' := own_weak hox hs6.below.size
      clear hB hs6 hJ
      go_wp2_with fail
      refine (part_any A l c page (page + sumR more) _ (hs7.rd hR) hn hm ⟨by omega, by omega⟩ ⟨by omega, by omega⟩).mono ?_
      rintro e w8 ⟨vy, rfl, hoy, hB⟩
      obtain ⟨AY, cy, rfl, hcy, hcmy, hRY⟩ := own_form hoy
      have hs8 := hs7.next hB
      replace hRX := hRX.below hB
      replace hox' := own_below hox' hB
      have hoy' := own_weak hoy hs7.below.size
      clear hB hs7 hox hoy
      go_wp2_with fail
      have hx1 := hX.1.small
      have hy1 := hY.1.small
      by_cases hf1 : fitsE (putX l page more) = 0
      · have HF1 := Lib.hid hf1
        refine (fits_ok AX _ cx _ hRX hX.2 hx1 HF1).mono ?_
        rintro e w9 ⟨rfl, hB⟩
        have hs9 := hs8.next hB
        replace hRY := hRY.below hB
        replace hox' := own_below hox' hB
        replace hoy' := own_below hoy' hB
        clear hB hs8
        go_wp2_with fail
        by_cases hf2 : fitsE (partR l page (page + sumR more)) = 0
        · have HF2 := Lib.hid hf2
          refine (fits_ok AY _ cy _ hRY hY.2 hy1 HF2).mono ?_
          rintro e w10 ⟨rfl, hB⟩
          have hs10 := hs9.next hB
          replace hox' := own_below hox' hB
          replace hoy' := own_below hoy' hB
          have hc10 := hs10.box.cell
          have hz10 := hs10.box.frozen
          clear hB hs9
          go_wp2_with fail
          refine door_ok (v := .tuple #[.slice AX (putX l page more).length cx, .slice AY (partR l page (page + sumR more)).length cy, .int .i64 0]) ?_ ?_
          · simp [results, Try.results18, go_sem, (hs10.box.set _).cell]
          · rw [show putOk l page more = _ from if_neg (by rw [HF1.out, HF2.out]; simp)]
            exact ⟨_, _, rfl, own_setBox hox' hs10.box, own_setBox hoy' hs10.box, hs10.fin _⟩
        · have HF2 := Lib.hid hf2
          refine (fits_no AY _ cy _ hRY hY.2 hy1 HF2).mono ?_
          rintro e w10 ⟨rfl, hB⟩
          have hs10 := hs9.next hB
          clear hB hs9
          go_wp2_with fail
          refine door_fault hs10.box.cell hs10.box.frozen (v := .tuple #[.slice none 0 0, .slice none 0 0, .int .i64 2]) ?_ ?_
          · simp [results, Try.results18, go_sem, (hs10.box.set _).cell]
          · rw [show putOk l page more = _ from if_pos (.inr HF2.out)]
            exact ⟨_, _, rfl, own_nil' _ _, own_nil' _ _, hs10.fin _⟩
      · have HF1 := Lib.hid hf1
        refine (fits_no AX _ cx _ hRX hX.2 hx1 HF1).mono ?_
        rintro e w9 ⟨rfl, hB⟩
        have hs9 := hs8.next hB
        clear hB hs8
        go_wp2_with fail
        refine door_fault hs9.box.cell hs9.box.frozen (v := .tuple #[.slice none 0 0, .slice none 0 0, .int .i64 2]) ?_ ?_
        · simp [results, Try.results18, go_sem, (hs9.box.set _).cell]
        · rw [show putOk l page more = _ from if_pos (.inl HF1.out)]
          exact ⟨_, _, rfl, own_nil' _ _, own_nil' _ _, hs9.fin _⟩
    · clear hg
      go_wp2_with fail
      refine (part_any A l c 0 page _ (hs3.rd hR) hn hm ⟨by omega, by omega⟩ ⟨by omega, by omega⟩).mono ?_
      rintro e w4 ⟨v1, rfl, ho1, hB⟩
      obtain ⟨A1, c1, rfl, hc1, hcm1, hR1⟩ := own_form ho1
      have hs4 := hs3.next hB
      replace hRh := hRh.below hB
      clear hB hs3 ho1
      go_wp2_with fail
      refine (part_any A l c (page + sumR more) (sumR l) _ (hs4.rd hR) hn hm ⟨by omega, by omega⟩ ⟨by omega, by omega⟩).mono ?_
      rintro e w5 ⟨v3, rfl, ho3, hB⟩
      obtain ⟨A3, c3, rfl, hc3, hcm3, hR3⟩ := own_form ho3
      have hs5 := hs4.next hB
      replace hRh := hRh.below hB
      replace hR1 := hR1.below hB
      clear hB hs4 ho3
      go_wp2_with fail
      have hRL := RdL.built w5 [(.slice A1 (partR l 0 page).length c1, partR l 0 page), (.slice none 0 0, gapR l page more), (.slice A' more.length c', more), (.slice A3 (partR l (page + sumR more) (sumR l)).length c3, partR l (page + sumR more) (sumR l))] 22
        (by intro p hp; simp only [List.mem_cons, List.mem_nil_iff, or_false] at hp; rcases hp with rfl | rfl | rfl | rfl; exact ⟨A1, c1, rfl, hR1⟩; exact ⟨_, _, by rw [hgap]; rfl, hRh⟩; exact ⟨A', c', rfl, hs5.rd hR'⟩; exact ⟨A3, c3, rfl, hR3⟩)
      have hcat : cat [(.slice A1 (partR l 0 page).length c1, partR l 0 page), (.slice none 0 0, gapR l page more), (.slice A' more.length c', more), (.slice A3 (partR l (page + sumR more) (sumR l)).length c3, partR l (page + sumR more) (sumR l))] = partR l 0 page ++ gapR l page more ++ more ++ partR l (page + sumR more) (sumR l) := by simp [cat]
      have hJ := joined_any (some ⟨w5.heap.size, 0, none⟩) _ 4 _ hRL (by simp) (by rw [hcat]; omega) (by rw [hcat]; intro r hr; have := hbd.1 r hr; omega) (by rw [hcat]; omega)
      rw [hcat, show norm (partR l 0 page ++ gapR l page more ++ more ++ partR l (page + sumR more) (sumR l)) = putX l page more from rfl] at hJ
      have hs6 := hs5.alloc (.cells #[.slice A1 (partR l 0 page).length c1, .slice none 0 0, .slice A' more.length c', .slice A3 (partR l (page + sumR more) (sumR l)).length c3] 22)
      clear hRL hcat hR1 hR3 hRh hs5
      refine hJ.mono ?_
      rintro e w6 ⟨vx, rfl, hox, hB⟩
      obtain ⟨AX, cx, rfl, hcx, hcmx, hRX⟩ := own_form hox
      have hs7 := hs6.next hB
      have hox' := own_weak hox hs6.below.size
      clear hB hs6 hJ
      go_wp2_with fail
      refine (part_any A l c page (page + sumR more) _ (hs7.rd hR) hn hm ⟨by omega, by omega⟩ ⟨by omega, by omega⟩).mono ?_
      rintro e w8 ⟨vy, rfl, hoy, hB⟩
      obtain ⟨AY, cy, rfl, hcy, hcmy, hRY⟩ := own_form hoy
      have hs8 := hs7.next hB
      replace hRX := hRX.below hB
      replace hox' := own_below hox' hB
      have hoy' := own_weak hoy hs7.below.size
      clear hB hs7 hox hoy
      go_wp2_with fail
      have hx1 := hX.1.small
      have hy1 := hY.1.small
      by_cases hf1 : fitsE (putX l page more) = 0
      · have HF1 := Lib.hid hf1
        refine (fits_ok AX _ cx _ hRX hX.2 hx1 HF1).mono ?_
        rintro e w9 ⟨rfl, hB⟩
        have hs9 := hs8.next hB
        replace hRY := hRY.below hB
        replace hox' := own_below hox' hB
        replace hoy' := own_below hoy' hB
        clear hB hs8
        go_wp2_with fail
        by_cases hf2 : fitsE (partR l page (page + sumR more)) = 0
        · have HF2 := Lib.hid hf2
          refine (fits_ok AY _ cy _ hRY hY.2 hy1 HF2).mono ?_
          rintro e w10 ⟨rfl, hB⟩
          have hs10 := hs9.next hB
          replace hox' := own_below hox' hB
          replace hoy' := own_below hoy' hB
          have hc10 := hs10.box.cell
          have hz10 := hs10.box.frozen
          clear hB hs9
          go_wp2_with fail
          refine door_ok (v := .tuple #[.slice AX (putX l page more).length cx, .slice AY (partR l page (page + sumR more)).length cy, .int .i64 0]) ?_ ?_
          · simp [results, Try.results18, go_sem, (hs10.box.set _).cell]
          · rw [show putOk l page more = _ from if_neg (by rw [HF1.out, HF2.out]; simp)]
            exact ⟨_, _, rfl, own_setBox hox' hs10.box, own_setBox hoy' hs10.box, hs10.fin _⟩
        · have HF2 := Lib.hid hf2
          refine (fits_no AY _ cy _ hRY hY.2 hy1 HF2).mono ?_
          rintro e w10 ⟨rfl, hB⟩
          have hs10 := hs9.next hB
          clear hB hs9
          go_wp2_with fail
          refine door_fault hs10.box.cell hs10.box.frozen (v := .tuple #[.slice none 0 0, .slice none 0 0, .int .i64 2]) ?_ ?_
          · simp [results, Try.results18, go_sem, (hs10.box.set _).cell]
          · rw [show putOk l page more = _ from if_pos (.inr HF2.out)]
            exact ⟨_, _, rfl, own_nil' _ _, own_nil' _ _, hs10.fin _⟩
      · have HF1 := Lib.hid hf1
        refine (fits_no AX _ cx _ hRX hX.2 hx1 HF1).mono ?_
        rintro e w9 ⟨rfl, hB⟩
        have hs9 := hs8.next hB
        clear hB hs8
        go_wp2_with fail
        refine door_fault hs9.box.cell hs9.box.frozen (v := .tuple #[.slice none 0 0, .slice none 0 0, .int .i64 2]) ?_ ?_
        · simp [results, Try.results18, go_sem, (hs9.box.set _).cell]
        · rw [show putOk l page more = _ from if_pos (.inl HF1.out)]
          exact ⟨_, _, rfl, own_nil' _ _, own_nil' _ _, hs9.fin _⟩
end Go.Proofs.Ytjdkdogiaokhjaa
