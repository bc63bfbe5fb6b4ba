/- Runs: the specification's small functions: Valid, Size. -/
import Derived.Test.YtjdkdogiaokhjaaRs
namespace Go.Proofs.Ytjdkdogiaokhjaa
open Go.RowKit Go.Proofs
set_option linter.unusedSimpArgs false
set_option linter.unusedVariables false

def tkn2 : List R → Int
  | [] => 0
  | r :: l => (if 0 ≤ r.1 then r.2 else 0) + tkn2 l
theorem tkn2_append (a b : List R) : tkn2 (a ++ b) = tkn2 a + tkn2 b := by
  induction a with
  | nil => simp [tkn2]
  | cons x xs ih => simp [tkn2, ih]; omega
theorem tkn2_take_succ (l : List R) (k : Nat) (h : k < l.length) : tkn2 (l.take (k + 1)) = tkn2 (l.take k) + if 0 ≤ l[k].1 then l[k].2 else 0 := by
  rw [List.take_add_one, List.getElem?_eq_getElem h, tkn2_append]; simp [tkn2]
theorem tkn2_bd {l : List R} (h : ∀ r ∈ l, 0 ≤ r.2) : 0 ≤ tkn2 l ∧ tkn2 l ≤ sumR l := by
  induction l with
  | nil => simp [tkn2, sumR]
  | cons x xs ih =>
    have h1 := h x (by simp)
    have h2 := ih fun r hr => h r (by simp [hr])
    simp only [tkn2, sumR]
    split <;> omega
def RefSizePost (l : List R) (w : World) (e : Ending) (w' : World) : Prop := e = .returned (.tuple #[.int .i64 (sumR l), .int .i64 (tkn2 l)]) ∧ Below w.heap.size w w'
set_option maxRecDepth 100000 in
theorem refSize_any (A : Option Addr) (l : List R) (c : Nat) (w : World) (hR : Rd w A l) (hn : l.length ≤ 1048576) (hf : ∀ r ∈ l, 0 ≤ r.2) (hs : sumR l ≤ 1099511627776) :
    Calls Try.prog 19 #[.slice A l.length c] w (RefSizePost l w) := by
  go_enter Try.func19, Try.ntmps19
  go_wp2
  go_loopw [4, 5, 6] (fun s m i wr => ∃ k : Nat, k ≤ l.length ∧ i = .int .i64 k ∧ s = .int .i64 (sumR (l.take k)) ∧ m = .int .i64 (tkn2 (l.take k)) ∧ Below w.heap.size w wr) (fun _ _ i _ => l.length - (intOf i).toNat)
  case atStart => exact ⟨0, by omega, rfl, rfl, rfl, Below.refl _ _⟩
  case round =>
    obtain ⟨k, hk, rfl, rfl, rfl, hB⟩ := hrel
    by_cases hlt : k < l.length
    · obtain ⟨b, o, rfl, c1, c2⟩ := (hR.below hB).at_ k hlt
      have hfk : ∀ r ∈ l.take k, 0 ≤ r.2 := fun r hr => hf r (List.mem_of_mem_take hr)
      obtain ⟨t1, t2⟩ := tkn2_bd hfk
      have s1 := sumR_nonneg hfk
      have s2 := sumR_take_le hf (k + 1)
      have hst := sumR_take_succ l k hlt
      have hx := hf l[k] (List.getElem_mem hlt)
      have hx2 : l[k].2 ≤ 1099511627776 := by omega
      have hx3 : sumR (l.take k) ≤ 1099511627776 := by omega
      have HS := Lib.hid hst
      have HT := Lib.hid (tkn2_take_succ l k hlt)
      clear hfk s2 hst hR hf
      by_cases h1 : 0 ≤ l[k].1
      · have HT2 := Lib.hid (show tkn2 (l.take (k + 1)) = tkn2 (l.take k) + l[k].2 by rw [HT.out, if_pos h1])
        go_wp2
        exact ⟨⟨k + 1, by omega, by go_num, by rw [HS.out], by rw [HT2.out], hB⟩, by simp [intOf]; omega⟩
      · have HT2 := Lib.hid (show tkn2 (l.take (k + 1)) = tkn2 (l.take k) by rw [HT.out, if_neg h1, Int.add_zero])
        go_wp2
        exact ⟨⟨k + 1, by omega, by go_num, by rw [HS.out], by rw [HT2.out], hB⟩, by simp [intOf]; omega⟩
    · have e : k = l.length := by omega
      subst e
      rw [List.take_length]
      go_wp2
      go_ret2
      exact ⟨rfl, hB⟩
set_option maxRecDepth 100000 in
set_option maxHeartbeats 2000000 in
theorem refValid_any (A : Option Addr) (l : List R) (c : Nat) (w : World) (hR : Rd w A l) (hn : l.length ≤ 1048576) :
    Calls Try.prog 15 #[.slice A l.length c] w fun e w' => e = .returned (.int .i64 (mustE l)) ∧ Below w.heap.size w w' := by
  by_cases h1 : 2000 < l.length
  · have hE := Lib.hid (mustE_len h1)
    go_enter Try.func15, Try.ntmps15
    go_wp2
    go_ret
    exact ⟨by rw [hE.out]; rfl, Below.refl _ _⟩
  · go_enter Try.func15, Try.ntmps15
    go_wp2
    go_loopw [3, 4] (fun s i wr => ∃ k : Nat, k ≤ l.length ∧ i = .int .i64 k ∧ s = .int .i64 (sumR (l.take k)) ∧ (l.take k).all okR = true ∧ Below w.heap.size w wr) (fun _ i _ => l.length - (intOf i).toNat)
    case atStart => exact ⟨0, by omega, rfl, rfl, rfl, Below.refl _ _⟩
    case round =>
      obtain ⟨k, hk, rfl, rfl, hall, hB⟩ := hrel
      by_cases hlt : k < l.length
      · obtain ⟨b, o, rfl, c1, c2⟩ := (hR.below hB).at_ k hlt
        have hss : Smalls 1073741824 (l.take k) := smalls_of_ok hall
        have hsb := sumR_bd hss
        have hl : (l.take k).length ≤ k := List.length_take_le _ _
        have hs1 : sumR (l.take k) ≤ 1073741824 * 2000 := Int.le_trans hsb.2 (Int.mul_le_mul_of_nonneg_left (by omega) (by omega))
        have hs0 := hsb.1
        have HS := Lib.hid (sumR_take_succ l k hlt)
        have HA := Lib.hid (all_take_succ l k hlt)
        have HF := Lib.hid (all_false_of l k hlt)
        have HALL := Lib.hid hall
        have HB : Hid (∀ o : Obj, Below w.heap.size w (wr.alloc o)) := Lib.hid (fun o => hB.alloc hB.size o)
        clear hss hsb hl hall hR hB
        generalize l[k] = r at *
        obtain ⟨to, many⟩ := r
        simp only at c1 c2
        by_cases hok : okR (to, many) = true
        · have HO := Lib.hid hok
          obtain ⟨a1, a2, a3, a4⟩ := (okR_iff _).1 hok
          simp only at a1 a2 a3 a4
          clear hok
          go_wp2
          all_goals exact ⟨⟨k + 1, by omega, by go_num, by rw [HS.out], by rw [HA.out, HALL.out, HO.out]; rfl, HB.out _⟩, by simp [intOf]; omega⟩
        · have HE := Lib.hid (mustE_bad h1 (HF.out (by simpa using hok)))
          have HN := Lib.hid (fun h => hok ((okR_iff (to, many)).2 h))
          clear hok
          go_wp2
          all_goals first
            | (go_ret; exact ⟨by rw [HE.out]; rfl, HB.out _⟩)
            | (exfalso; exact HN.out ⟨by omega, by omega, by omega, by omega⟩)
      · have e : k = l.length := by omega
        subst e
        rw [List.take_length] at hall ⊢
        by_cases hsm : 1073741824 < sumR l
        · have HE := Lib.hid (mustE_sum h1 hall hsm)
          go_wp2
          go_ret
          exact ⟨by rw [HE.out]; rfl, hB⟩
        · have HE := Lib.hid (mustE_ok h1 hall hsm)
          go_wp2
          go_ret
          exact ⟨by rw [HE.out]; rfl, hB⟩
end Go.Proofs.Ytjdkdogiaokhjaa
