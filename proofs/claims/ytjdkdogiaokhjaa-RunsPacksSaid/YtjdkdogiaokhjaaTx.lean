/- Runs: the specification's Unpack: its numbers. -/
import Derived.Test.YtjdkdogiaokhjaaTv
import Derived.Test.YtjdkdogiaokhjaaTu
namespace Go.Proofs.Ytjdkdogiaokhjaa
open Go.RowKit Go.Proofs
set_option linter.unusedSimpArgs false
set_option linter.unusedVariables false

theorem le256_drop (hs : List Int) (i : Nat) (h : i < hs.length) : le256 (hs.drop i) = 256 * le256 (hs.drop (i + 1)) + hs[i] := by
  rw [List.drop_eq_getElem_cons h]; simp only [le256]; omega
theorem le256_end (hs : List Int) : le256 (hs.drop hs.length) = 0 := by rw [List.drop_length]; rfl
/-- the bytes from i on as two's complement -/
def sd (hs : List Int) (i : Nat) : Int := le256 (hs.drop i) - (if 128 ≤ hs.getLastD 0 then 256 ^ (hs.length - i) else 0)
theorem sd_step (hs : List Int) (i : Nat) (h : i < hs.length) : sd hs i = 256 * sd hs (i + 1) + hs[i] := by
  unfold sd
  rw [le256_drop hs i h]
  split
  · rw [show hs.length - i = (hs.length - (i + 1)) + 1 by omega, Int.pow_succ]; omega
  · omega
theorem sgn_of {h : Nat} {d K : Int} (hK : (2 : Int) ^ (8 * h - 1) = K) (hK2 : (2 : Int) ^ (8 * h) = 2 * K) : sgn h d = if K ≤ d then d - 2 * K else d := by unfold sgn; rw [hK, hK2]
theorem sd_zero {hs : List Int} (h1 : 1 ≤ hs.length) (h2 : hs.length ≤ 4) (hb : ∀ x ∈ hs, 0 ≤ x ∧ x < 256) : sd hs 0 = sgn hs.length (le256 hs) := by
  match hs, h1, h2, hb with
  | [a], _, _, hb =>
    have := hb a (by simp)
    rw [show ([a] : List Int).length = 1 from rfl]
    simp only [sd, le256, List.drop_zero, List.getLastD_cons, List.getLastD_nil]
    rw [show ([a] : List Int).length - 0 = 1 from rfl, sgn_of (h := 1) (K := 128) (by decide) (by decide)]
    split <;> split <;> omega
  | [a, b], _, _, hb =>
    have := hb a (by simp); have := hb b (by simp)
    rw [show ([a, b] : List Int).length = 2 from rfl]
    simp only [sd, le256, List.drop_zero, List.getLastD_cons, List.getLastD_nil]
    rw [show ([a, b] : List Int).length - 0 = 2 from rfl, sgn_of (h := 2) (K := 32768) (by decide) (by decide)]
    split <;> split <;> omega
  | [a, b, c], _, _, hb =>
    have := hb a (by simp); have := hb b (by simp); have := hb c (by simp)
    rw [show ([a, b, c] : List Int).length = 3 from rfl]
    simp only [sd, le256, List.drop_zero, List.getLastD_cons, List.getLastD_nil]
    rw [show ([a, b, c] : List Int).length - 0 = 3 from rfl, sgn_of (h := 3) (K := 8388608) (by decide) (by decide)]
    split <;> split <;> omega
  | [a, b, c, d], _, _, hb =>
    have := hb a (by simp); have := hb b (by simp); have := hb c (by simp); have := hb d (by simp)
    rw [show ([a, b, c, d] : List Int).length = 4 from rfl]
    simp only [sd, le256, List.drop_zero, List.getLastD_cons, List.getLastD_nil]
    rw [show ([a, b, c, d] : List Int).length - 0 = 4 from rfl, sgn_of (h := 4) (K := 2147483648) (by decide) (by decide)]
    split <;> split <;> omega
theorem sd_top {hs : List Int} (h : 1 ≤ hs.length) (hb : ∀ x ∈ hs, 0 ≤ x ∧ x < 256) : sd hs (hs.length - 1) = (if 128 ≤ hs[hs.length - 1] then hs[hs.length - 1] - 256 else hs[hs.length - 1]) := by
  have e : hs.getLastD 0 = hs[hs.length - 1] := by
    rw [List.getLastD_eq_getLast?, List.getLast?_eq_getElem?, List.getElem?_eq_getElem (by omega)]; rfl
  have h2 := le256_drop hs (hs.length - 1) (by omega)
  rw [show hs.length - 1 + 1 = hs.length by omega, le256_end] at h2
  unfold sd
  rw [h2, e, show hs.length - (hs.length - 1) = 1 by omega]
  split <;> simp <;> omega
end Go.Proofs.Ytjdkdogiaokhjaa
