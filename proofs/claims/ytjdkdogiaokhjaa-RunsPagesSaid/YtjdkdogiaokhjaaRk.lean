/- Runs: Size, Norm, Join, Same's parts: the exported functions that read. -/
import Derived.Test.YtjdkdogiaokhjaaRj
namespace Go.Proofs.Ytjdkdogiaokhjaa
open Go.RowKit Go.Proofs
set_option linter.unusedSimpArgs false
set_option linter.unusedVariables false

def tkn1 (r : R) : Int := if r.1 = -1 then 0 else r.2
def tkn : List R → Int
  | [] => 0
  | r :: l => tkn1 r + tkn l
theorem tkn_append (a b : List R) : tkn (a ++ b) = tkn a + tkn b := by
  induction a with
  | nil => simp [tkn]
  | cons x xs ih => simp [tkn, ih]; omega
theorem tkn_take_succ (l : List R) (k : Nat) (h : k < l.length) : tkn (l.take (k + 1)) = tkn (l.take k) + tkn1 l[k] := by
  rw [List.take_add_one, List.getElem?_eq_getElem h, tkn_append]; simp [tkn]
theorem tkn_bd {l : List R} (h : ∀ r ∈ l, 0 ≤ r.2) : 0 ≤ tkn l ∧ tkn l ≤ sumR l := by
  induction l with
  | nil => simp [tkn, sumR]
  | cons x xs ih =>
    have h1 := h x (by simp)
    have h2 := ih fun r hr => h r (by simp [hr])
    simp only [tkn, tkn1, sumR]
    split <;> omega
/-- two numbers and an error -/
def ResN (w0 : World) (a b e : Int) (r : Ending) (w' : World) : Prop := r = .returned (.tuple #[.int .i64 a, .int .i64 b, .int .i64 e]) ∧ Below w0.heap.size w0 w'
set_option maxRecDepth 100000 in
set_option maxHeartbeats 2000000 in
theorem Size_bad (A : Option Addr) (l : List R) (c : Nat) (w : World) (hR : Rd w A l) (hn : l.length ≤ 1048576) (h0 : mustE l ≠ 0) :
    Calls Try.prog 41 #[.slice A l.length c] w (ResN w 0 0 (mustE l)) := by
  have H0 := Lib.hid h0
  have hs0 := ES.start w
  clear h0
  go_enter_defers Try.func41, Try.ntmps41
  go_wp2_with fail
  refine (must_no H0 (hs0.rd hR) hn).mono ?_
  rintro e w1 ⟨rfl, hB⟩
  have hs1 := hs0.next hB
  go_wp2_with fail
  refine door_fault hs1.box.cell hs1.box.frozen (v := .tuple #[.int .i64 0, .int .i64 0, .int .i64 (mustE l)]) ?_ ⟨rfl, hs1.fin _⟩
  simp [results, Try.results41, go_sem, (hs1.box.set _).cell]
set_option maxRecDepth 100000 in
set_option maxHeartbeats 2000000 in
theorem Size_ok (A : Option Addr) (l : List R) (c : Nat) (w : World) (hR : Rd w A l) (hn : l.length ≤ 1048576) (h0 : mustE l = 0) :
    Calls Try.prog 41 #[.slice A l.length c] w (ResN w (sumR l) (tkn l) 0) := by
  have H0 := Lib.hid h0
  have hs0 := ES.start w
  have hm := mild_of_must h0
  have HP := Lib.hid (fun W (hR : Rd W A l) => pages_any A l c W hR hn hm.fine.small)
  clear h0
  go_enter_defers Try.func41, Try.ntmps41
  go_wp2_with fail
  refine (must_ok H0 (hs0.rd hR) hn).mono ?_
  rintro e w1 ⟨rfl, hB⟩
  have hs1 := hs0.next hB
  clear hB hs0
  go_wp2_with fail
  go_loopw [3, 11] (fun s i wr => ∃ k : Nat, k ≤ l.length ∧ i = .int .i64 k ∧ s = .int .i64 (tkn (l.take k)) ∧ ES w wr) (fun _ i _ => l.length - (intOf i).toNat)
  case atStart => exact ⟨0, by omega, rfl, rfl, hs1⟩
  case round =>
    obtain ⟨k, hk, rfl, rfl, hs⟩ := hrel
    by_cases hlt : k < l.length
    · obtain ⟨b, o, rfl, c1, c2⟩ := (hs.rd hR).at_ k hlt
      have hmk := Mild.take hm k
      obtain ⟨hbA, hbB⟩ := tkn_bd (l := l.take k) (fun r hr => (hmk.1 r hr).2.2)
      have hb2 := hmk.2
      have hb3 := sumR_mem (fun r hr => (hm.1 r hr).2.2) l[k] (List.getElem_mem hlt)
      have hb4 := hm.2
      have hb5 : l[k].2 ≤ 8589934592 := by omega
      obtain ⟨hx1, hx2, hx3⟩ := hm.1 l[k] (List.getElem_mem hlt)
      have hst := Lib.hid (tkn_take_succ l k hlt)
      clear hR hm hmk
      by_cases h1 : l[k].1 = -1
      · have hs2 := Lib.hid (hs.alloc (.cells #[.int .i64 (-1), .int .i64 l[k].2] 53))
        have e1 : tkn1 l[k] = 0 := if_pos h1
        have hd : (l[k].1 != -1) = false := by simp [h1]
        go_wp2
        go_roundw
        case rel => exact ⟨k + 1, by omega, by go_num, by rw [hst.out, e1, Int.add_zero], hs2.out⟩
        case measure => simp [intOf]; omega
      · have hs2 := Lib.hid (hs.alloc (.cells #[.int .i64 l[k].1, .int .i64 l[k].2] 53))
        have e1 : tkn1 l[k] = l[k].2 := if_neg h1
        have hd : (l[k].1 != -1) = true := by simpa using h1
        go_wp2
        go_roundw
        case rel => exact ⟨k + 1, by omega, by go_num, by rw [hst.out, e1], hs2.out⟩
        case measure => simp [intOf]; omega
    · have e : k = l.length := by omega
      subst e
      go_wp2_with fail
      refine (HP.out _ (hs.rd hR)).mono ?_
      rintro e w2 ⟨rfl, hB⟩
      have hs2 := hs.next hB
      have hc := hs2.box.cell
      have hz := hs2.box.frozen
      clear hB hs
      go_wp2_with fail
      refine door_ok (v := .tuple #[.int .i64 (sumR l), .int .i64 (tkn l), .int .i64 0]) ?_ ⟨rfl, hs2.fin _⟩
      simp [results, Try.results41, go_sem, (hs2.box.set _).cell]
end Go.Proofs.Ytjdkdogiaokhjaa
