/- Runs: the specification's Norm, Join, hole. -/
import Derived.Test.YtjdkdogiaokhjaaRx
namespace Go.Proofs.Ytjdkdogiaokhjaa
open Go.RowKit Go.Proofs
set_option linter.unusedSimpArgs false
set_option linter.unusedVariables false

/-- numbers with which the specification's sums do not overflow -/
def Fn (l : List R) : Prop := (∀ r ∈ l, -1 ≤ r.1 ∧ r.1 ≤ 1099511627776 ∧ 0 ≤ r.2) ∧ sumR l ≤ 1099511627776
theorem Fn.fine {l : List R} (h : Fn l) : Fine l := h
theorem Fn.each {l : List R} (h : Fn l) : ∀ x ∈ l, -1 ≤ x.1 ∧ x.1 ≤ 1099511627776 ∧ 0 ≤ x.2 ∧ x.2 ≤ 1099511627776 := fun x hx => by
  have h1 := h.1 x hx
  have h2 := Fine.small h x hx
  omega
theorem Fn.take {l : List R} (h : Fn l) (k : Nat) : Fn (l.take k) := by
  have h0 : ∀ r ∈ l, 0 ≤ r.2 := fun r hr => (h.1 r hr).2.2
  refine ⟨fun r hr => h.1 r (List.mem_of_mem_take hr), ?_⟩
  have := sumR_take_le h0 k
  have := h.2
  omega
theorem Fn.addAll_ {out l : List R} (h : Fn out) (hl : Fn l) (hs : sumR out + sumR l ≤ 1099511627776) : Fn (addAll out l) := addAll_fine l out h hl.1 hs
theorem Fn.nil : Fn [] := ⟨by simp, by simp [sumR]⟩
theorem Fn.norm_ {l : List R} (h : Fn l) : Fn (norm l) := Fn.addAll_ Fn.nil h (by simpa [sumR] using h.2)
theorem Fn.of_mild {l : List R} (h : Mild l) : Fn l := h.fine
theorem addAll_take_succ (out l : List R) (k : Nat) (hk : k < l.length) : addAll out (l.take (k + 1)) = addR (addAll out (l.take k)) l[k] := by
  rw [List.take_succ_eq_append_getElem hk, addAll_snoc]
set_option maxRecDepth 100000 in
set_option maxHeartbeats 1000000 in
theorem refNorm_any (A : Option Addr) (l : List R) (c : Nat) (w : World) (hR : Rd w A l) (hn : l.length ≤ 1048570) (hf : Fn l) :
    Calls Try.prog 48 #[.slice A l.length c] w (AddN w (norm l)) := by
  go_enter Try.func48, Try.ntmps48
  go_wp2
  go_loopw [3, 4] (fun v i wr => ∃ (k : Nat) (A' : Option Addr) (c' : Nat), k ≤ l.length ∧ i = .int .i64 k ∧ v = .slice A' (norm (l.take k)).length c' ∧ RdN wr A' c' (norm (l.take k)) ∧ Below w.heap.size w wr) (fun _ i _ => l.length - (intOf i).toNat)
  case atStart => exact ⟨0, none, 0, by omega, rfl, rfl, RdN.nil _, Below.refl _ _⟩
  case round =>
    obtain ⟨k, A', c', hk, rfl, rfl, hN, hB⟩ := hrel
    by_cases hlt : k < l.length
    · obtain ⟨b, o, rfl, c1, c2⟩ := (hR.below hB).at_ k hlt
      have hx := hf.each l[k] (List.getElem_mem hlt)
      have hfk := (hf.take k).norm_.each
      have hle := norm_len (l.take k)
      have hlt' := List.length_take_le k l
      have HA := refAdd_any A' (norm (l.take k)) c' l[k] (wr) hN (by omega) hfk hx
      have HH := Lib.hid HA
      have HS := Lib.hid (show norm (l.take (k + 1)) = addR (norm (l.take k)) l[k] from addAll_take_succ [] l k hlt)
      clear HA hN hfk hR hx
      go_wp2_with fail
      refine HH.out.mono ?_
      rintro e w1 ⟨A1, c1', rfl, hN1, hB1⟩
      have hB2 := hB.trans (hB1.mono hB.size)
      clear hB1 HH
      go_wp2_with fail
      exact ⟨⟨k + 1, A1, c1', by omega, by go_num, by rw [HS.out], by rw [HS.out]; exact hN1, hB2⟩, by simp [intOf]; omega⟩
    · have e : k = l.length := by omega
      subst e
      rw [List.take_length] at hN ⊢
      go_wp2
      go_ret
      exact ⟨A', c', rfl, hN, hB⟩
set_option maxRecDepth 100000 in
set_option maxHeartbeats 1000000 in
theorem refJoin_any (A : Option Addr) (l : List R) (c : Nat) (A' : Option Addr) (m : List R) (c' : Nat) (w : World) (hR : Rd w A l) (hR' : Rd w A' m) (hn : l.length + m.length ≤ 1048570) (hf : Fn l) (hf' : Fn m) (hs : sumR l + sumR m ≤ 1099511627776) :
    Calls Try.prog 40 #[.slice A l.length c, .slice A' m.length c'] w (AddN w (norm (l ++ m))) := by
  have HNm := Lib.hid (fun w hR => refNorm_any A l c w hR (by omega) hf)
  have hln := norm_len l
  rw [norm, addAll_append, ← norm]
  go_enter Try.func40, Try.ntmps40
  go_wp2_with fail
  refine (HNm.out _ hR).mono ?_
  rintro e w1 ⟨A1, c1, rfl, hN1, hB1⟩
  clear HNm
  go_wp2_with fail
  go_loopw [5, 6] (fun v i wr => ∃ (k : Nat) (A1 : Option Addr) (c1 : Nat), k ≤ m.length ∧ i = .int .i64 k ∧ v = .slice A1 (addAll (norm l) (m.take k)).length c1 ∧ RdN wr A1 c1 (addAll (norm l) (m.take k)) ∧ Below w.heap.size w wr) (fun _ i _ => m.length - (intOf i).toNat)
  case atStart => exact ⟨0, A1, c1, by omega, rfl, rfl, hN1, hB1⟩
  case round =>
    clear hN1 hB1
    obtain ⟨k, A2, c2, hk, rfl, rfl, hN, hB⟩ := hrel
    by_cases hlt : k < m.length
    · obtain ⟨b, o, rfl, d1, d2⟩ := (hR'.below hB).at_ k hlt
      have hx := hf'.each m[k] (List.getElem_mem hlt)
      have hst := sumR_take_le (fun r hr => (hf'.1 r hr).2.2) (l := m) k
      have hns := norm_sum l
      have hfk := (Fn.addAll_ hf.norm_ (hf'.take k) (by omega)).each
      have hle := addAll_len (m.take k) (norm l)
      have hlt' := List.length_take_le k m
      have HA := refAdd_any A2 (addAll (norm l) (m.take k)) c2 m[k] (wr) hN (by omega) hfk hx
      have HH := Lib.hid HA
      have HS := Lib.hid (addAll_take_succ (norm l) m k hlt)
      clear HA hN hfk hR hR' hx hns hst
      go_wp2_with fail
      refine HH.out.mono ?_
      rintro e w2 ⟨A3, c3, rfl, hN1, hB1⟩
      have hB2 := hB.trans (hB1.mono hB.size)
      clear hB1 HH
      go_wp2_with fail
      exact ⟨⟨k + 1, A3, c3, by omega, by go_num, by rw [HS.out], by rw [HS.out]; exact hN1, hB2⟩, by simp [intOf]; omega⟩
    · have e : k = m.length := by omega
      subst e
      rw [List.take_length] at hN ⊢
      go_wp2
      go_ret
      exact ⟨A2, c2, rfl, hN, hB⟩
theorem refHole_any (many : Int) (w : World) (h0 : 0 ≤ many) (h1 : many ≤ 1099511627776) :
    Calls Try.prog 57 #[.int .i64 many] w (AddN w (norm [(-1, many)])) := by
  have hf : Fn [(-1, many)] := ⟨fun r hr => by simp at hr; subst hr; simp only; omega, by simp [sumR]; omega⟩
  have HN := Lib.hid (refNorm_any (some ⟨w.heap.size, 0, none⟩) [(-1, many)] 1 (w.alloc (.cells #[.int .i64 (-1), .int .i64 many] 53)) (Rd.lit1 w (-1) many 53) (by simp) hf)
  have hb0 := below_alloc1 w (.cells #[.int .i64 (-1), .int .i64 many] 53)
  clear hf
  go_enter Try.func57, Try.ntmps57
  go_wp2_with fail
  refine HN.out.mono ?_
  rintro e w1 ⟨A1, c1, rfl, hN1, hB1⟩
  go_wp2_with fail
  go_ret
  exact ⟨A1, c1, rfl, hN1, hb0.trans (hB1.mono hb0.size)⟩
end Go.Proofs.Ytjdkdogiaokhjaa
