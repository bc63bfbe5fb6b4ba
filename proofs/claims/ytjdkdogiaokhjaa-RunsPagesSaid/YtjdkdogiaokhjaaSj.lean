/- Runs: Join, Insert, Same. -/
import Derived.Test.YtjdkdogiaokhjaaSi
namespace Go.Proofs.Ytjdkdogiaokhjaa
open Go.RowKit Go.Proofs
set_option linter.unusedSimpArgs false
set_option linter.unusedVariables false

def joinX (a b : List R) : List R := norm (a ++ b)
def joinOk (a b : List R) : Int × List R := if fitsE (joinX a b) ≠ 0 then (2, []) else (0, joinX a b)
theorem join_bd {a b : List R} (h : mustE a = 0) (h' : mustE b = 0) : Nums 17179869184 (a ++ b) ∧ sumR (a ++ b) ≤ 8589934592 ∧ (a ++ b).length ≤ 5000 := by
  obtain ⟨h1, h2, h3⟩ := mustE_zero h
  obtain ⟨h1', h2', h3'⟩ := mustE_zero h'
  refine ⟨(Nums.of_mild (mild_of_must h)).append (Nums.of_mild (mild_of_must h')), ?_, ?_⟩
  · simp only [sumR_append]; omega
  · simp only [List.length_append]; omega
set_option maxRecDepth 100000 in
set_option maxHeartbeats 4000000 in
theorem Join_bad1 (A : Option Addr) (a : List R) (c : Nat) (A' : Option Addr) (b : List R) (c' : Nat) (w : World) (hR : Rd w A a) (hn : a.length ≤ 1048576) (hR' : Rd w A' b) (hn' : b.length ≤ 1048576) (h0 : mustE a ≠ 0) :
    Calls Try.prog 37 #[.slice A a.length c, .slice A' b.length c'] w (Res1 w (mustE a) []) := by
  have H0 := Lib.hid h0
  have hs0 := ES.start w
  clear h0
  go_enter_defers Try.func37, Try.ntmps37
  go_wp2_with fail
  refine (must_no H0 (hs0.rd hR) hn).mono ?_
  rintro e w1 ⟨rfl, hB⟩
  have hs1 := hs0.next hB
  clear hB hs0
  go_wp2_with fail
  refine door_fault hs1.box.cell hs1.box.frozen (v := .tuple #[.slice none 0 0, .int .i64 (mustE a)]) ?_ ⟨_, rfl, own_nil' _ _, hs1.fin _⟩
  simp [results, Try.results37, go_sem, (hs1.box.set _).cell]
set_option maxRecDepth 100000 in
set_option maxHeartbeats 4000000 in
theorem Join_bad2 (A : Option Addr) (a : List R) (c : Nat) (A' : Option Addr) (b : List R) (c' : Nat) (w : World) (hR : Rd w A a) (hn : a.length ≤ 1048576) (hR' : Rd w A' b) (hn' : b.length ≤ 1048576) (h0 : mustE a = 0) (h1 : mustE b ≠ 0) :
    Calls Try.prog 37 #[.slice A a.length c, .slice A' b.length c'] w (Res1 w (mustE b) []) := by
  have H0 := Lib.hid h0
  have H1 := Lib.hid h1
  have hs0 := ES.start w
  clear h0 h1
  go_enter_defers Try.func37, Try.ntmps37
  go_wp2_with fail
  refine (must_ok H0 (hs0.rd hR) hn).mono ?_
  rintro e w1 ⟨rfl, hB⟩
  have hs1 := hs0.next hB
  clear hB hs0
  go_wp2_with fail
  refine (must_no H1 (hs1.rd hR') hn').mono ?_
  rintro e w2 ⟨rfl, hB⟩
  have hs2 := hs1.next hB
  clear hB hs1
  go_wp2_with fail
  refine door_fault hs2.box.cell hs2.box.frozen (v := .tuple #[.slice none 0 0, .int .i64 (mustE b)]) ?_ ⟨_, rfl, own_nil' _ _, hs2.fin _⟩
  simp [results, Try.results37, go_sem, (hs2.box.set _).cell]
set_option maxRecDepth 100000 in
set_option maxHeartbeats 4000000 in
theorem Join_ok (A : Option Addr) (a : List R) (c : Nat) (A' : Option Addr) (b : List R) (c' : Nat) (w : World) (hR : Rd w A a) (hn : a.length ≤ 1048576) (hR' : Rd w A' b) (hn' : b.length ≤ 1048576) (h0 : mustE a = 0) (h1 : mustE b = 0) :
    Calls Try.prog 37 #[.slice A a.length c, .slice A' b.length c'] w (Res1P w (joinOk a b)) := by
  have H0 := Lib.hid h0
  have H1 := Lib.hid h1
  have hs0 := ES.start w
  have hbd := join_bd h0 h1
  have hX : Fine (joinX a b) ∧ (joinX a b).length ≤ 1048576 := norm_fine hbd.1 hbd.2.1 (by omega)
  clear h0 h1
  go_enter_defers Try.func37, Try.ntmps37
  go_wp2_with fail
  refine (must_ok H0 (hs0.rd hR) hn).mono ?_
  rintro e w1 ⟨rfl, hB⟩
  have hs1 := hs0.next hB
  clear hB hs0
  go_wp2_with fail
  refine (must_ok H1 (hs1.rd hR') hn').mono ?_
  rintro e w2 ⟨rfl, hB⟩
  have hs2 := hs1.next hB
  clear hB hs1
  have hRa := hs2.rd hR
  have hRb := hs2.rd hR'
  go_wp2_with fail
  have hRL := RdL.built w2 [(.slice A a.length c, a), (.slice A' b.length c', b)] 22
    (by intro p hp; simp only [List.mem_cons, List.mem_nil_iff, or_false] at hp; rcases hp with rfl | rfl; exact ⟨_, _, rfl, hRa⟩; exact ⟨_, _, rfl, hRb⟩)
  have hcat : cat [(.slice A a.length c, a), (.slice A' b.length c', b)] = a ++ b := by simp [cat]
  have hJ := joined_any (some ⟨w2.heap.size, 0, none⟩) _ 2 _ hRL (by simp) (by rw [hcat]; omega) (by rw [hcat]; intro r hr; have := hbd.1 r hr; omega) (by rw [hcat]; omega)
  rw [hcat, show norm (a ++ b) = joinX a b from rfl] at hJ
  have hs61 := hs2.alloc (.cells #[.slice A a.length c, .slice A' b.length c'] 22)
  clear hRL hcat hs2
  refine hJ.mono ?_
  rintro e w6 ⟨vx, rfl, hox, hB⟩
  obtain ⟨AX, cx, rfl, hcx, hcmx, hRX⟩ := own_form hox
  have hs8 := hs61.next hB
  have hox' := own_weak hox hs61.below.size
  clear hB hs61 hJ hox
  go_wp2_with fail
  have hx1 := hX.1.small
  by_cases hf1 : fitsE (joinX a b) = 0
  · have HF1 := Lib.hid hf1
    refine (fits_ok AX _ cx _ hRX hX.2 hx1 HF1).mono ?_
    rintro e w9 ⟨rfl, hB⟩
    have hs9 := hs8.next hB
    replace hox' := own_below hox' hB
    have hc9 := hs9.box.cell
    have hz9 := hs9.box.frozen
    clear hB hs8
    go_wp2_with fail
    refine door_ok (v := .tuple #[.slice AX (joinX a b).length cx, .int .i64 0]) ?_ ?_
    · simp [results, Try.results37, go_sem, (hs9.box.set _).cell]
    · rw [show joinOk a b = _ from if_neg (by rw [HF1.out]; simp)]
      exact ⟨_, rfl, own_setBox hox' hs9.box, hs9.fin _⟩
  · have HF1 := Lib.hid hf1
    refine (fits_no AX _ cx _ hRX hX.2 hx1 HF1).mono ?_
    rintro e w9 ⟨rfl, hB⟩
    have hs9 := hs8.next hB
    clear hB hs8
    go_wp2_with fail
    refine door_fault hs9.box.cell hs9.box.frozen (v := .tuple #[.slice none 0 0, .int .i64 2]) ?_ ?_
    · simp [results, Try.results37, go_sem, (hs9.box.set _).cell]
    · rw [show joinOk a b = _ from if_pos HF1.out]
      exact ⟨_, rfl, own_nil' _ _, hs9.fin _⟩
def insertX (l : List R) (page : Int) (more : List R) : List R := norm (partR l 0 page ++ more ++ partR l page (sumR l))
def insertOk (l : List R) (page : Int) (more : List R) : Int × List R := if fitsE (insertX l page more) ≠ 0 then (2, []) else (0, insertX l page more)
theorem insert_bd {l more : List R} (h : mustE l = 0) (h' : mustE more = 0) (p a b : Int) : Nums 17179869184 (partR l p a ++ more ++ partR l a b) ∧ sumR (partR l p a ++ more ++ partR l a b) ≤ 8589934592 ∧ (partR l p a ++ more ++ partR l a b).length ≤ 7000 := by
  have hm := mild_of_must h
  obtain ⟨h1, h2, h3⟩ := mustE_zero h
  obtain ⟨h1', h2', h3'⟩ := mustE_zero h'
  have p1 := partR_sum hm p a
  have p2 := partR_sum hm a b
  have q1 := partR_len l p a
  have q2 := partR_len l a b
  refine ⟨((Nums.part_ hm _ _).append (Nums.of_mild (mild_of_must h'))).append (Nums.part_ hm _ _), ?_, ?_⟩
  · simp only [sumR_append]; omega
  · simp only [List.length_append]; omega
set_option maxRecDepth 100000 in
set_option maxHeartbeats 4000000 in
theorem Insert_bad1 (A : Option Addr) (l : List R) (c : Nat) (page : Int) (A' : Option Addr) (more : List R) (c' : Nat) (w : World) (hR : Rd w A l) (hn : l.length ≤ 1048576) (hR' : Rd w A' more) (hn' : more.length ≤ 1048576) (h0 : mustE l ≠ 0) :
    Calls Try.prog 38 #[.slice A l.length c, .int .i64 page, .slice A' more.length c'] w (Res1 w (mustE l) []) := by
  have H0 := Lib.hid h0
  have hs0 := ES.start w
  clear h0
  go_enter_defers Try.func38, Try.ntmps38
  go_wp2_with fail
  refine (must_no H0 (hs0.rd hR) hn).mono ?_
  rintro e w1 ⟨rfl, hB⟩
  have hs1 := hs0.next hB
  clear hB hs0
  go_wp2_with fail
  refine door_fault hs1.box.cell hs1.box.frozen (v := .tuple #[.slice none 0 0, .int .i64 (mustE l)]) ?_ ⟨_, rfl, own_nil' _ _, hs1.fin _⟩
  simp [results, Try.results38, go_sem, (hs1.box.set _).cell]
set_option maxRecDepth 100000 in
set_option maxHeartbeats 4000000 in
theorem Insert_bad2 (A : Option Addr) (l : List R) (c : Nat) (page : Int) (A' : Option Addr) (more : List R) (c' : Nat) (w : World) (hR : Rd w A l) (hn : l.length ≤ 1048576) (hR' : Rd w A' more) (hn' : more.length ≤ 1048576) (h0 : mustE l = 0) (h1 : mustE more ≠ 0) :
    Calls Try.prog 38 #[.slice A l.length c, .int .i64 page, .slice A' more.length c'] w (Res1 w (mustE more) []) := by
  have H0 := Lib.hid h0
  have H1 := Lib.hid h1
  have hs0 := ES.start w
  clear h0 h1
  go_enter_defers Try.func38, Try.ntmps38
  go_wp2_with fail
  refine (must_ok H0 (hs0.rd hR) hn).mono ?_
  rintro e w1 ⟨rfl, hB⟩
  have hs1 := hs0.next hB
  clear hB hs0
  go_wp2_with fail
  refine (must_no H1 (hs1.rd hR') hn').mono ?_
  rintro e w2 ⟨rfl, hB⟩
  have hs2 := hs1.next hB
  clear hB hs1
  go_wp2_with fail
  refine door_fault hs2.box.cell hs2.box.frozen (v := .tuple #[.slice none 0 0, .int .i64 (mustE more)]) ?_ ⟨_, rfl, own_nil' _ _, hs2.fin _⟩
  simp [results, Try.results38, go_sem, (hs2.box.set _).cell]
set_option maxRecDepth 100000 in
set_option maxHeartbeats 4000000 in
theorem Insert_range (A : Option Addr) (l : List R) (c : Nat) (page : Int) (A' : Option Addr) (more : List R) (c' : Nat) (w : World) (hR : Rd w A l) (hn : l.length ≤ 1048576) (hR' : Rd w A' more) (hn' : more.length ≤ 1048576) (h0 : mustE l = 0) (h1 : mustE more = 0) (hp : ¬ (0 ≤ page ∧ page ≤ sumR l)) :
    Calls Try.prog 38 #[.slice A l.length c, .int .i64 page, .slice A' more.length c'] w (Res1 w 24 []) := by
  have H0 := Lib.hid h0
  have H1 := Lib.hid h1
  have hm := mild_of_must h0
  have HP := Lib.hid (fun W (hR : Rd W A l) => pages_any A l c W hR hn hm.fine.small)
  have hs0 := ES.start w
  clear hm h0 h1
  go_enter_defers Try.func38, Try.ntmps38
  go_wp2_with fail
  refine (must_ok H0 (hs0.rd hR) hn).mono ?_
  rintro e w1 ⟨rfl, hB⟩
  have hs1 := hs0.next hB
  clear hB hs0
  go_wp2_with fail
  refine (must_ok H1 (hs1.rd hR') hn').mono ?_
  rintro e w2 ⟨rfl, hB⟩
  have hs2 := hs1.next hB
  clear hB hs1
  go_wp2_with fail
  refine (HP.out _ (hs2.rd hR)).mono ?_
  rintro e w7 ⟨rfl, hB⟩
  have hs7 := hs2.next hB
  clear hB hs2
  by_cases hp0 : 0 ≤ page
  · have hp1 : ¬ page ≤ sumR l := by omega
    clear hp
    go_wp2_with (first | (go_at_call 55; (with_reducible refine need_rule _ _ ?_ ?_) <;> intro hq <;> (first | (cases hq; done) | skip) <;> (try simp only [decide_eq_true_eq, decide_eq_false_iff_not, Bool.or_eq_true, Bool.or_eq_false_iff, Bool.and_eq_true, Bool.and_eq_false_iff, beq_iff_eq, beq_eq_false_iff_ne, ne_eq, bne_iff_ne, Bool.not_eq_true, Int.not_le, Int.not_lt] at hq) <;> go_prune))
    refine door_fault hs7.box.cell hs7.box.frozen (v := .tuple #[.slice none 0 0, .int .i64 24]) ?_ ⟨_, rfl, own_nil' _ _, hs7.fin _⟩
    simp [results, Try.results38, go_sem, (hs7.box.set _).cell]
  · clear hp
    go_wp2_with (first | (go_at_call 55; (with_reducible refine need_rule _ _ ?_ ?_) <;> intro hq <;> (first | (cases hq; done) | skip) <;> (try simp only [decide_eq_true_eq, decide_eq_false_iff_not, Bool.or_eq_true, Bool.or_eq_false_iff, Bool.and_eq_true, Bool.and_eq_false_iff, beq_iff_eq, beq_eq_false_iff_ne, ne_eq, bne_iff_ne, Bool.not_eq_true, Int.not_le, Int.not_lt] at hq) <;> go_prune))
    refine door_fault hs7.box.cell hs7.box.frozen (v := .tuple #[.slice none 0 0, .int .i64 24]) ?_ ⟨_, rfl, own_nil' _ _, hs7.fin _⟩
    simp [results, Try.results38, go_sem, (hs7.box.set _).cell]
set_option maxRecDepth 100000 in
set_option maxHeartbeats 4000000 in
theorem Insert_ok (A : Option Addr) (l : List R) (c : Nat) (page : Int) (A' : Option Addr) (more : List R) (c' : Nat) (w : World) (hR : Rd w A l) (hn : l.length ≤ 1048576) (hR' : Rd w A' more) (hn' : more.length ≤ 1048576) (h0 : mustE l = 0) (h1 : mustE more = 0) (hp0 : 0 ≤ page) (hp1 : page ≤ sumR l) :
    Calls Try.prog 38 #[.slice A l.length c, .int .i64 page, .slice A' more.length c'] w (Res1P w (insertOk l page more)) := by
  have H0 := Lib.hid h0
  have H1 := Lib.hid h1
  have hs0 := ES.start w
  have hm := mild_of_must h0
  have hbd := insert_bd h0 h1 0 page (sumR l)
  have hX : Fine (insertX l page more) ∧ (insertX l page more).length ≤ 1048576 := norm_fine hbd.1 hbd.2.1 (by omega)
  have hsum := hm.2
  have HP := Lib.hid (fun W (hR : Rd W A l) => pages_any A l c W hR hn hm.fine.small)
  clear h0 h1
  go_enter_defers Try.func38, Try.ntmps38
  go_wp2_with fail
  refine (must_ok H0 (hs0.rd hR) hn).mono ?_
  rintro e w1 ⟨rfl, hB⟩
  have hs1 := hs0.next hB
  clear hB hs0
  go_wp2_with fail
  refine (must_ok H1 (hs1.rd hR') hn').mono ?_
  rintro e w2 ⟨rfl, hB⟩
  have hs2 := hs1.next hB
  clear hB hs1
  go_wp2_with fail
  refine (HP.out _ (hs2.rd hR)).mono ?_
  rintro e w7 ⟨rfl, hB⟩
  have hs7 := hs2.next hB
  clear hB hs2
  go_wp2_with (first | (go_at_call 55; (with_reducible refine need_rule _ _ ?_ ?_) <;> intro hq <;> (first | (cases hq; done) | skip) <;> (try simp only [decide_eq_true_eq, decide_eq_false_iff_not, Bool.or_eq_true, Bool.or_eq_false_iff, Bool.and_eq_true, Bool.and_eq_false_iff, beq_iff_eq, beq_eq_false_iff_ne, ne_eq, bne_iff_ne, Bool.not_eq_true, Int.not_le, Int.not_lt] at hq) <;> go_prune))
  refine (part_any A l c 0 page _ (hs7.rd hR) hn hm ⟨by omega, by omega⟩ ⟨by omega, by omega⟩).mono ?_
  rintro e w3 ⟨v1, rfl, ho1, hB⟩
  obtain ⟨A1, c1, rfl, hc1, hcm1, hR1⟩ := own_form ho1
  have hs3 := hs7.next hB
  clear hB hs7 ho1
  go_wp2_with fail
  refine (part_any A l c page (sumR l) _ (hs3.rd hR) hn hm ⟨by omega, by omega⟩ ⟨by omega, by omega⟩).mono ?_
  rintro e w4 ⟨v3, rfl, ho3, hB⟩
  obtain ⟨A3, c3, rfl, hc3, hcm3, hR3⟩ := own_form ho3
  replace hR1 := hR1.below hB
  have hs4 := hs3.next hB
  have hRm := hs4.rd hR'
  clear hB hs3 ho3
  go_wp2_with fail
  have hRL := RdL.built w4 [(.slice A1 (partR l 0 page).length c1, partR l 0 page), (.slice A' more.length c', more), (.slice A3 (partR l page (sumR l)).length c3, partR l page (sumR l))] 22
    (by intro p hp; simp only [List.mem_cons, List.mem_nil_iff, or_false] at hp; rcases hp with rfl | rfl | rfl; exact ⟨_, _, rfl, hR1⟩; exact ⟨_, _, rfl, hRm⟩; exact ⟨_, _, rfl, hR3⟩)
  have hcat : cat [(.slice A1 (partR l 0 page).length c1, partR l 0 page), (.slice A' more.length c', more), (.slice A3 (partR l page (sumR l)).length c3, partR l page (sumR l))] = partR l 0 page ++ more ++ partR l page (sumR l) := by simp [cat]
  have hJ := joined_any (some ⟨w4.heap.size, 0, none⟩) _ 3 _ hRL (by simp) (by rw [hcat]; omega) (by rw [hcat]; intro r hr; have := hbd.1 r hr; omega) (by rw [hcat]; omega)
  rw [hcat, show norm (partR l 0 page ++ more ++ partR l page (sumR l)) = insertX l page more from rfl] at hJ
  have hs61 := hs4.alloc (.cells #[.slice A1 (partR l 0 page).length c1, .slice A' more.length c', .slice A3 (partR l page (sumR l)).length c3] 22)
  clear hRL hcat hs4
  refine hJ.mono ?_
  rintro e w6 ⟨vx, rfl, hox, hB⟩
  obtain ⟨AX, cx, rfl, hcx, hcmx, hRX⟩ := own_form hox
  have hs8 := hs61.next hB
  have hox' := own_weak hox hs61.below.size
  clear hB hs61 hJ hox
  go_wp2_with fail
  have hx1 := hX.1.small
  by_cases hf1 : fitsE (insertX l page more) = 0
  · have HF1 := Lib.hid hf1
    refine (fits_ok AX _ cx _ hRX hX.2 hx1 HF1).mono ?_
    rintro e w9 ⟨rfl, hB⟩
    have hs9 := hs8.next hB
    replace hox' := own_below hox' hB
    have hc9 := hs9.box.cell
    have hz9 := hs9.box.frozen
    clear hB hs8
    go_wp2_with fail
    refine door_ok (v := .tuple #[.slice AX (insertX l page more).length cx, .int .i64 0]) ?_ ?_
    · simp [results, Try.results38, go_sem, (hs9.box.set _).cell]
    · rw [show insertOk l page more = _ from if_neg (by rw [HF1.out]; simp)]
      exact ⟨_, rfl, own_setBox hox' hs9.box, hs9.fin _⟩
  · have HF1 := Lib.hid hf1
    refine (fits_no AX _ cx _ hRX hX.2 hx1 HF1).mono ?_
    rintro e w9 ⟨rfl, hB⟩
    have hs9 := hs8.next hB
    clear hB hs8
    go_wp2_with fail
    refine door_fault hs9.box.cell hs9.box.frozen (v := .tuple #[.slice none 0 0, .int .i64 2]) ?_ ?_
    · simp [results, Try.results38, go_sem, (hs9.box.set _).cell]
    · rw [show insertOk l page more = _ from if_pos HF1.out]
      exact ⟨_, rfl, own_nil' _ _, hs9.fin _⟩
def ResB (w0 : World) (e : Int) (b : Bool) (r : Ending) (w' : World) : Prop := r = .returned (.tuple #[.bool b, .int .i64 e]) ∧ Below w0.heap.size w0 w'
set_option maxRecDepth 100000 in
set_option maxHeartbeats 4000000 in
theorem Same_bad1 (A : Option Addr) (a : List R) (c : Nat) (A' : Option Addr) (b : List R) (c' : Nat) (w : World) (hR : Rd w A a) (hn : a.length ≤ 1048576) (hR' : Rd w A' b) (hn' : b.length ≤ 1048576) (h0 : mustE a ≠ 0) :
    Calls Try.prog 43 #[.slice A a.length c, .slice A' b.length c'] w (ResB w (mustE a) false) := by
  have H0 := Lib.hid h0
  have hs0 := ES.start w
  clear h0
  go_enter_defers Try.func43, Try.ntmps43
  go_wp2_with fail
  refine (must_no H0 (hs0.rd hR) hn).mono ?_
  rintro e w1 ⟨rfl, hB⟩
  have hs1 := hs0.next hB
  clear hB hs0
  go_wp2_with fail
  refine door_fault hs1.box.cell hs1.box.frozen (v := .tuple #[.bool false, .int .i64 (mustE a)]) ?_ ⟨rfl, hs1.fin _⟩
  simp [results, Try.results43, go_sem, (hs1.box.set _).cell]
set_option maxRecDepth 100000 in
set_option maxHeartbeats 4000000 in
theorem Same_bad2 (A : Option Addr) (a : List R) (c : Nat) (A' : Option Addr) (b : List R) (c' : Nat) (w : World) (hR : Rd w A a) (hn : a.length ≤ 1048576) (hR' : Rd w A' b) (hn' : b.length ≤ 1048576) (h0 : mustE a = 0) (h1 : mustE b ≠ 0) :
    Calls Try.prog 43 #[.slice A a.length c, .slice A' b.length c'] w (ResB w (mustE b) false) := by
  have H0 := Lib.hid h0
  have H1 := Lib.hid h1
  have hs0 := ES.start w
  clear h0 h1
  go_enter_defers Try.func43, Try.ntmps43
  go_wp2_with fail
  refine (must_ok H0 (hs0.rd hR) hn).mono ?_
  rintro e w1 ⟨rfl, hB⟩
  have hs1 := hs0.next hB
  clear hB hs0
  go_wp2_with fail
  refine (must_no H1 (hs1.rd hR') hn').mono ?_
  rintro e w2 ⟨rfl, hB⟩
  have hs2 := hs1.next hB
  clear hB hs1
  go_wp2_with fail
  refine door_fault hs2.box.cell hs2.box.frozen (v := .tuple #[.bool false, .int .i64 (mustE b)]) ?_ ⟨rfl, hs2.fin _⟩
  simp [results, Try.results43, go_sem, (hs2.box.set _).cell]
set_option maxRecDepth 100000 in
set_option maxHeartbeats 4000000 in
theorem Same_ok (A : Option Addr) (a : List R) (c : Nat) (A' : Option Addr) (b : List R) (c' : Nat) (w : World) (hR : Rd w A a) (hn : a.length ≤ 1048576) (hR' : Rd w A' b) (hn' : b.length ≤ 1048576) (h0 : mustE a = 0) (h1 : mustE b = 0) :
    Calls Try.prog 43 #[.slice A a.length c, .slice A' b.length c'] w (ResB w 0 (decide (norm a = norm b))) := by
  have H0 := Lib.hid h0
  have H1 := Lib.hid h1
  have hs0 := ES.start w
  have hm := mild_of_must h0
  have hm' := mild_of_must h1
  have hla := norm_len a
  have hlb := norm_len b
  clear h0 h1
  go_enter_defers Try.func43, Try.ntmps43
  go_wp2_with fail
  refine (must_ok H0 (hs0.rd hR) hn).mono ?_
  rintro e w1 ⟨rfl, hB⟩
  have hs1 := hs0.next hB
  clear hB hs0
  go_wp2_with fail
  refine (must_ok H1 (hs1.rd hR') hn').mono ?_
  rintro e w2 ⟨rfl, hB⟩
  have hs2 := hs1.next hB
  clear hB hs1
  have hJ := joined_one A a c w2 (hs2.rd hR) hn hm
  go_wp2_with fail
  refine hJ.mono ?_
  rintro e w3 ⟨v1, rfl, ho1, hB⟩
  obtain ⟨A1, c1, rfl, _, _, hR1⟩ := own_form ho1
  have hs3 := hs2.next hB
  clear hB hs2 hJ ho1
  have hJ := joined_one A' b c' w3 (hs3.rd hR') hn' hm'
  go_wp2_with fail
  refine hJ.mono ?_
  rintro e w4 ⟨v2, rfl, ho2, hB⟩
  obtain ⟨A2, c2, rfl, _, _, hR2⟩ := own_form ho2
  have hs4 := hs3.next hB
  replace hR1 := hR1.below hB
  clear hB hs3 hJ ho2
  have hE := equalR_any A1 A2 (norm a) (norm b) c1 c2 w4 hR1 hR2 (by omega) (by omega)
  go_wp2_with fail
  refine hE.mono ?_
  rintro e w5 ⟨rfl, hB⟩
  have hs5 := hs4.next hB
  have hc5 := hs5.box.cell
  have hz5 := hs5.box.frozen
  clear hB hs4 hE
  go_wp2_with fail
  refine door_ok (v := .tuple #[.bool (decide (norm a = norm b)), .int .i64 0]) ?_ ⟨rfl, hs5.fin _⟩
  simp [results, Try.results43, go_sem, (hs5.box.set _).cell]
end Go.Proofs.Ytjdkdogiaokhjaa
