/- Runs: the specification's Part. -/
import Derived.Test.YtjdkdogiaokhjaaRy
namespace Go.Proofs.Ytjdkdogiaokhjaa
open Go.RowKit Go.Proofs
set_option linter.unusedSimpArgs false
set_option linter.unusedVariables false

theorem clip1_none {fr to pos : Int} {r : R} (h : min to (pos + r.2) ≤ max fr pos) : clip1 fr to pos r = [] := if_pos h
theorem clip1_hole {fr to pos : Int} {r : R} (h : ¬ min to (pos + r.2) ≤ max fr pos) (h1 : r.1 = -1) : clip1 fr to pos r = [(r.1, min to (pos + r.2) - max fr pos)] := by
  unfold clip1; rw [if_neg h, if_pos h1]
theorem clip1_some {fr to pos : Int} {r : R} (h : ¬ min to (pos + r.2) ≤ max fr pos) (h1 : r.1 ≠ -1) : clip1 fr to pos r = [(r.1 + (max fr pos - pos), min to (pos + r.2) - max fr pos)] := by
  unfold clip1; rw [if_neg h, if_neg h1]
theorem clip1_is {page to S rt rm x y : Int} (h : max page S < min to (S + rm)) (hx : (rt = -1 ∧ x = rt) ∨ (rt ≠ -1 ∧ x = rt + (max page S - S))) (hy : y = min to (S + rm) - max page S) : clip1 page to S (rt, rm) = [(x, y)] := by
  have h' : ¬ min to (S + rm) ≤ max page S := by omega
  rcases hx with ⟨h1, rfl⟩ | ⟨h1, rfl⟩
  · rw [clip1_hole (r := (x, rm)) h' h1, hy]
  · rw [clip1_some (r := (rt, rm)) h' h1, hy]
theorem clip1_skip {page to S rt rm : Int} (h : min to (S + rm) ≤ max page S) : clip1 page to S (rt, rm) = [] := clip1_none (r := (rt, rm)) h
set_option maxRecDepth 100000 in
set_option maxHeartbeats 2000000 in
theorem refPart_any (A : Option Addr) (l : List R) (c : Nat) (page many : Int) (w : World) (hR : Rd w A l) (hn : l.length ≤ 1048570) (hm : Mild l) (hp : 0 ≤ page ∧ page ≤ 8589934592) (hq : 0 ≤ many ∧ many ≤ 8589934592) :
    Calls Try.prog 21 #[.slice A l.length c, .int .i64 page, .int .i64 many] w (AddN w (partR l page (page + many))) := by
  go_enter Try.func21, Try.ntmps21
  go_wp2
  go_loopw [7, 8, 9] (fun v s i wr => ∃ (k : Nat) (A' : Option Addr) (c' : Nat), k ≤ l.length ∧ i = .int .i64 k ∧ s = .int .i64 (sumR (l.take k)) ∧ v = .slice A' (norm (clips page (page + many) 0 (l.take k))).length c' ∧ RdN wr A' c' (norm (clips page (page + many) 0 (l.take k))) ∧ Below w.heap.size w wr) (fun _ _ i _ => l.length - (intOf i).toNat)
  case atStart => exact ⟨0, none, 0, by omega, rfl, rfl, rfl, RdN.nil _, Below.refl _ _⟩
  case round =>
    obtain ⟨k, A', c', hk, rfl, rfl, rfl, hN, hB⟩ := hrel
    by_cases hlt : k < l.length
    · have hRk := hR.below hB
      obtain ⟨b, o, rfl, c1, c2⟩ := hRk.at_ k hlt
      have hmk := Mild.take hm k
      have hlk := List.length_take_le k l
      have hsk := sumR_nonneg (l := l.take k) (fun r hr => (hmk.1 r hr).2.2)
      have hsk2 := hmk.2
      have hel := hm.1 l[k] (List.getElem_mem hlt)
      have hek := sumR_mem (fun r hr => (hm.1 r hr).2.2) l[k] (List.getElem_mem hlt)
      have hms := hm.2
      have hfn : Fn (norm (clips page (page + many) 0 (l.take k))) := (hmk.norm_clips page (page + many) 0 (by omega)).1
      have hlen := (hmk.norm_clips page (page + many) 0 (by omega)).2
      have hln2 : (norm (clips page (page + many) 0 (l.take k))).length ≤ l.length := by
        have h1 := norm_len (clips page (page + many) 0 (l.take k))
        have h2 := clips_len page (page + many) (l.take k) 0
        omega
      have HADD := Lib.hid (fun (r : R) W (hW : Below wr.heap.size wr W) hr => (refAdd_any A' (norm (clips page (page + many) 0 (l.take k))) c' r W (hN.below hW) (by omega) hfn.each hr).mono (R' := AddN wr (addR (norm (clips page (page + many) 0 (l.take k))) r)) fun e w' ⟨A2, c2, h1, h2, h3⟩ => ⟨A2, c2, h1, h2, hW.trans (h3.mono hW.size)⟩)
      have HC : Hid (∀ W, Below wr.heap.size wr W → W.cell? ⟨b, o + k * 2 + 1, none⟩ = some (.int .i64 l[k].2)) := Lib.hid fun W hW => (hW.cell (World.block_lt_of_cell? wr _ c2)).trans c2
      have hct0 := clips_take_succ page (page + many) l k hlt
      have HCT := Lib.hid hct0
      have HST := Lib.hid (sumR_take_succ l k hlt)
      have HSN := Lib.hid (fun r => addAll_snoc (clips page (page + many) 0 (l.take k)) r [])
      have HNN := Lib.hid hN
      generalize hrk : l[k] = r at *
      clear hct0 hrk hfn hlen hR hRk hm hmk hN
      obtain ⟨rt, rm⟩ := r
      simp only at c1 c2 hel hek
      obtain ⟨e1, e2, e3⟩ := hel
      have hrm : rm ≤ 8589934592 := by omega
      clear hek
      have hend : ∀ (x y : Int) (e : Ending) (w1 : World), AddN wr (addR (norm (clips page (page + many) 0 (l.take k))) (x, y)) e w1 → clip1 page (page + many) (sumR (l.take k)) (rt, rm) = [(x, y)] →
          ∃ (A2 : Option Addr) (c2 : Nat), e = .returned (.slice A2 (norm (clips page (page + many) 0 (l.take (k + 1)))).length c2) ∧ RdN w1 A2 c2 (norm (clips page (page + many) 0 (l.take (k + 1)))) ∧ Below wr.heap.size wr w1 := by
        intro x y e w1 h hc
        have hq : norm (clips page (page + many) 0 (l.take (k + 1))) = addR (norm (clips page (page + many) 0 (l.take k))) (x, y) := by
          rw [HCT.out, hc, norm, HSN.out]; rfl
        rw [hq]
        exact h
      have hskip : clip1 page (page + many) (sumR (l.take k)) (rt, rm) = [] → norm (clips page (page + many) 0 (l.take (k + 1))) = norm (clips page (page + many) 0 (l.take k)) := by
        intro hc; rw [HCT.out, hc, List.append_nil]
      have HEND := Lib.hid hend
      have HSKIP := Lib.hid hskip
      clear hend hskip
      generalize hSd : sumR (l.take k) = S at *
      have HSd := Lib.hid hSd
      clear hSd
      rcases Classical.em (page < S) with hA | hA <;> rcases Classical.em (S + rm < page + many) with hB' | hB' <;> rcases Classical.em (rt = -1) with ht | ht
      all_goals (try subst ht)
      all_goals (try have ht0 : 0 ≤ rt := by omega)
      all_goals go_wp2_with fail
      all_goals first
        | (refine (HADD.out (_, _) _ ?_ ?_).mono ?_
           · first | exact below_alloc1 wr _ | exact (below_alloc1 wr _).setCell (Nat.le_refl _) _
           · simp only; omega
           rintro e w1 h
           obtain ⟨A2, c2', rfl, hN2, hB2⟩ := HEND.out _ _ _ _ h (clip1_is (by omega) (by omega) (by omega))
           have d2 := HC.out w1 hB2
           clear c1 c2 h
           have hB3 := hB.trans (hB2.mono hB.size)
           clear hB2
           go_wp2_with fail
           exact ⟨⟨k + 1, A2, c2', by omega, by go_num, by rw [HST.out], rfl, hN2, hB3⟩, by simp [intOf]; omega⟩)
        | (have hq := HSKIP.out (clip1_skip (by omega))
           exact ⟨⟨k + 1, A', c', by omega, by go_num, by rw [HST.out], by rw [hq], by rw [hq]; exact HNN.out, hB⟩, by simp [intOf]; omega⟩)
    · have e : k = l.length := by omega
      subst e
      rw [List.take_length] at hN ⊢
      go_wp2
      go_ret
      exact ⟨A', c', rfl, hN, hB⟩
end Go.Proofs.Ytjdkdogiaokhjaa
