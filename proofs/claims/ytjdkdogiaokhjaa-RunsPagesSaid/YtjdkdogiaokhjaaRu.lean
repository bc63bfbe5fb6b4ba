/- Runs: the specification's Same. -/
import Derived.Test.YtjdkdogiaokhjaaRt
namespace Go.Proofs.Ytjdkdogiaokhjaa
open Go.RowKit Go.Proofs
set_option linter.unusedSimpArgs false
set_option linter.unusedVariables false

set_option maxRecDepth 100000 in
set_option maxHeartbeats 2000000 in
theorem refSame_any (A A' : Option Addr) (l l' : List R) (c c' : Nat) (w : World) (hR : Rd w A l) (hR' : Rd w A' l') (hn : l.length ≤ 1048576) (hn' : l'.length ≤ 1048576) :
    Calls Try.prog 59 #[.slice A l.length c, .slice A' l'.length c'] w fun e w' => e = .returned (.bool (decide (l = l'))) ∧ Below w.heap.size w w' := by
  by_cases hll : l.length = l'.length
  · have hd : ((l.length : Int) != (l'.length : Int)) = false := by simp; omega
    go_enter Try.func59, Try.ntmps59
    go_wp2
    go_loopw [5] (fun i wr => ∃ j : Nat, j ≤ l.length ∧ i = .int .i64 j ∧ l.take j = l'.take j ∧ Below w.heap.size w wr) (fun i _ => l.length - (intOf i).toNat)
    case atStart => exact ⟨0, by omega, rfl, rfl, Below.refl _ _⟩
    case round =>
      obtain ⟨j, hj, rfl, ht, hB⟩ := hrel
      by_cases hlt : j < l.length
      · obtain ⟨b, o, rfl, c1, c2⟩ := (hR.below hB).at_ j hlt
        have hlt2 : j < l'.length := by omega
        obtain ⟨b', o', rfl, c1', c2'⟩ := (hR'.below hB).at_ j hlt2
        have HLL := Lib.hid hll
        clear hll hd hR hR'
        have hgd : Try.prog.eqGuardType Try.prog.depth 53 = false := by kernel_rfl
        have htn : l.take (j + 1) = l.take j ++ [l[j]] := by rw [List.take_add_one, List.getElem?_eq_getElem hlt]; rfl
        have htn' : l'.take (j + 1) = l'.take j ++ [l'[j]] := by rw [List.take_add_one, List.getElem?_eq_getElem hlt2]; rfl
        have HT := Lib.hid (show l.take (j + 1) = l'.take (j + 1) ↔ l[j] = l'[j] by rw [htn, htn', ht]; exact ⟨fun h => by have := List.append_cancel_left h; simpa using this, fun h => by rw [h]⟩)
        have hB2 := hB.trans ((below_quiet0 wr 0).mono hB.size)
        have HB : Hid (∀ nq, Below w.heap.size w (wr.drewN nq)) := Lib.hid (fun nq => hB.trans ((below_quiet0 wr nq).mono hB.size))
        have HN : Hid (l[j] ≠ l'[j] → decide (l = l') = false) := Lib.hid (fun hn => by simp; rintro rfl; exact hn rfl)
        clear htn htn' ht hB hB2
        by_cases he : l[j] = l'[j]
        · have hne : ∀ (w : World), (Op.equalIn 10000 53 (.agg #[.int .i64 l[j].1, .int .i64 l[j].2]) (.agg #[.int .i64 l'[j].1, .int .i64 l'[j].2])).run Try.prog w = .ok true w := fun w => by rw [eq_runs, he]; simp
          have HE := Lib.hid he
          clear he
          go_wp2
          go_quiet (fail)
          go_wp2
          exact ⟨⟨j + 1, by omega, by go_num, HT.out.2 HE.out, HB.out _⟩, by simp [intOf]; omega⟩
        · have hne : ∀ (w : World), (Op.equalIn 10000 53 (.agg #[.int .i64 l[j].1, .int .i64 l[j].2]) (.agg #[.int .i64 l'[j].1, .int .i64 l'[j].2])).run Try.prog w = .ok false w := fun w => by
            rw [eq_runs]
            by_cases h1 : l[j].1 = l'[j].1
            · by_cases h2 : l[j].2 = l'[j].2
              · exact absurd (Prod.ext h1 h2) he
              · simp [h1, h2]
            · simp [h1]
          have HE := Lib.hid he
          clear he
          go_wp2
          go_quiet (fail)
          go_wp2
          go_ret
          exact ⟨by rw [HN.out HE.out]; rfl, HB.out _⟩
      · have e : j = l.length := by omega
        subst e
        rw [List.take_length, hll, List.take_length] at ht
        have HT := Lib.hid ht
        have hlt' : ¬ (l.length < l'.length) := by omega
        clear ht hll hd
        go_wp2
        go_ret
        exact ⟨by rw [HT.out, decide_eq_true rfl]; rfl, hB⟩
  · have hd : ((l.length : Int) != (l'.length : Int)) = true := by simp; omega
    have he : decide (l = l') = false := by simp; rintro rfl; exact hll rfl
    have HE := Lib.hid he
    clear he
    go_enter Try.func59, Try.ntmps59
    go_wp2
    go_ret
    exact ⟨by rw [HE.out]; rfl, Below.refl _ _⟩
end Go.Proofs.Ytjdkdogiaokhjaa
