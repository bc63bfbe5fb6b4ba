/- Runs: Norm; the law's small functions. -/
import Derived.Test.YtjdkdogiaokhjaaRu
import Derived.Test.YtjdkdogiaokhjaaSa
namespace Go.Proofs.Ytjdkdogiaokhjaa
open Go.RowKit Go.Proofs
set_option linter.unusedSimpArgs false
set_option linter.unusedVariables false

set_option maxRecDepth 100000 in
set_option maxHeartbeats 2000000 in
theorem Norm_bad (A : Option Addr) (l : List R) (c : Nat) (w : World) (hR : Rd w A l) (hn : l.length ≤ 1048576) (h0 : mustE l ≠ 0) :
    Calls Try.prog 30 #[.slice A l.length c] w (Res1 w (mustE l) []) := by
  have H0 := Lib.hid h0
  have hs0 := ES.start w
  clear h0
  go_enter_defers Try.func30, Try.ntmps30
  go_wp2_with fail
  refine (must_no H0 (hs0.rd hR) hn).mono ?_
  rintro e w1 ⟨rfl, hB⟩
  have hs1 := hs0.next hB
  go_wp2_with fail
  refine door_fault hs1.box.cell hs1.box.frozen (v := .tuple #[.slice none 0 0, .int .i64 (mustE l)]) ?_ ⟨_, rfl, own_nil' _ _, hs1.fin _⟩
  simp [results, Try.results30, go_sem, (hs1.box.set _).cell]
set_option maxRecDepth 100000 in
set_option maxHeartbeats 2000000 in
theorem Norm_ok (A : Option Addr) (l : List R) (c : Nat) (w : World) (hR : Rd w A l) (hn : l.length ≤ 1048576) (h0 : mustE l = 0) :
    Calls Try.prog 30 #[.slice A l.length c] w (Res1 w 0 (norm l)) := by
  have H0 := Lib.hid h0
  have hs0 := ES.start w
  have hm := mild_of_must h0
  clear h0
  go_enter_defers Try.func30, Try.ntmps30
  go_wp2_with fail
  refine (must_ok H0 (hs0.rd hR) hn).mono ?_
  rintro e w1 ⟨rfl, hB⟩
  have hs1 := hs0.next hB
  clear hB hs0
  have hJ := joined_one A l c w1 (hs1.rd hR) hn hm
  go_wp2_with fail
  refine hJ.mono ?_
  rintro e w2 ⟨v, rfl, ho, hB⟩
  obtain ⟨A1, c1, rfl, hc1, hcm1, hR1⟩ := own_form ho
  have hs2 := hs1.next hB
  have hc2 := hs2.box.cell
  have hz2 := hs2.box.frozen
  have hsz := hs1.below.size
  clear hJ hB hs1
  go_wp2_with fail
  refine door_ok (v := .tuple #[.slice A1 (norm l).length c1, .int .i64 0]) ?_ ?_
  · simp [results, Try.results30, go_sem, (hs2.box.set _).cell]
  · exact ⟨_, rfl, own_setBox (own_weak ho hsz) hs2.box, hs2.fin _⟩

theorem lawRun_any (a b : Int) (w : World) : Calls Try.prog 31 #[.int .i64 a, .int .i64 b] w fun e w' => e = .returned (.agg #[.int .i64 a, .int .i64 b]) ∧ Below w.heap.size w w' := by
  go_enter Try.func31, Try.ntmps31
  go_wp2
  refine bodyPost_ret (v := .agg #[.int .i64 a, .int .i64 b]) (by simp [results, Try.results31, go_sem]) rfl ⟨rfl, ?_⟩
  exact (Below.refl _ w).alloc (Nat.le_refl _) _
set_option maxHeartbeats 400000 in
theorem lawSame_any (A A' : Option Addr) (l l' : List R) (c c' : Nat) (w : World) (hR : Rd w A l) (hR' : Rd w A' l') (hn : l.length ≤ 1048576) (hn' : l'.length ≤ 1048576) :
    Calls Try.prog 24 #[.slice A l.length c, .slice A' l'.length c'] w fun e w' => e = .returned (.bool (decide (l = l'))) ∧ Below w.heap.size w w' := by
  have H := Lib.hid (refSame_any A A' l l' c c' w hR hR' hn hn')
  clear hR hR'
  go_enter Try.func24, Try.ntmps24
  go_wp2_with fail
  refine H.out.mono ?_
  rintro e w1 ⟨rfl, hB⟩
  go_wp2_with fail
  go_ret
  exact ⟨rfl, hB⟩
/-- a slice of errors -/
def RdE (w : World) (A : Option Addr) (l : List Int) : Prop := l ≠ [] → ∃ b o, A = some ⟨b, o, none⟩ ∧ ∀ i (h : i < l.length), w.cell? ⟨b, o + i, none⟩ = some (.int .i64 l[i])
theorem RdE.at_ {w : World} {A : Option Addr} {l : List Int} (h : RdE w A l) (k : Nat) (hk : k < l.length) : ∃ b o, A = some ⟨b, o, none⟩ ∧ w.cell? ⟨b, o + k, none⟩ = some (.int .i64 l[k]) := by
  obtain ⟨b, o, e, hc⟩ := h (by intro e; subst e; simp at hk)
  exact ⟨b, o, e, hc k hk⟩
def worstR : List Int → Int
  | [] => 0
  | e :: l => if e = 0 then worstR l else e
theorem worstR_drop (l : List Int) (k : Nat) (hk : k < l.length) : worstR (l.drop k) = if l[k] = 0 then worstR (l.drop (k + 1)) else l[k] := by
  rw [List.drop_eq_getElem_cons hk]; rfl
set_option maxHeartbeats 400000 in
theorem worst_any (A : Option Addr) (l : List Int) (c : Nat) (w : World) (hR : RdE w A l) (hn : l.length ≤ 1048576) :
    Calls Try.prog 16 #[.slice A l.length c] w fun e w' => e = .returned (.int .i64 (worstR l)) ∧ w' = w := by
  go_enter Try.func16, Try.ntmps16
  go_wp2
  go_loop [3] (fun i => ∃ k : Nat, k ≤ l.length ∧ i = .int .i64 k ∧ worstR l = worstR (l.drop k)) (fun i => l.length - (intOf i).toNat)
  case atStart => exact ⟨0, by omega, rfl, rfl⟩
  case round =>
    obtain ⟨k, hk, rfl, hw⟩ := hrel
    by_cases hlt : k < l.length
    · obtain ⟨b, o, rfl, c1⟩ := hR.at_ k hlt
      have hd := worstR_drop l k hlt
      clear hR
      by_cases h0 : l[k] = 0
      · rw [if_pos h0] at hd
        have HW := Lib.hid (hw.trans hd)
        have hq : (l[k] != 0) = false := by simp [h0]
        clear hw hd h0
        go_wp2
        go_round
        case rel => exact ⟨k + 1, by omega, by go_num, HW.out⟩
        case measure => simp [intOf]; omega
      · rw [if_neg h0] at hd
        have HW := Lib.hid (hw.trans hd)
        have hq : (l[k] != 0) = true := by simp [h0]
        clear hw hd h0
        go_wp2
        go_ret
        exact ⟨by rw [HW.out]; rfl, rfl⟩
    · have e : k = l.length := by omega
      subst e
      rw [List.drop_length] at hw
      have HW := Lib.hid hw
      clear hw
      go_wp2
      go_ret
      exact ⟨by rw [HW.out]; rfl, rfl⟩
/-- what 'small' asks of one mapping -/
def smallB (l : List R) : Bool := decide (l.length ≤ 60) && decide (mustE l = 0) && decide (sumR l ≤ 2000)
def smallsB (ls : List (Value × List R)) : Bool := ls.all fun p => smallB p.2
end Go.Proofs.Ytjdkdogiaokhjaa
