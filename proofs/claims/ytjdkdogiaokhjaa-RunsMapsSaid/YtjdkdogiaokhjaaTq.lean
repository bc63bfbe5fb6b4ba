/- Runs: Map and Where as a whole. -/
import Derived.Test.YtjdkdogiaokhjaaTp
import Derived.Test.YtjdkdogiaokhjaaTe
namespace Go.Proofs.Ytjdkdogiaokhjaa
open Go.RowKit Go.Proofs
set_option linter.unusedSimpArgs false
set_option linter.unusedVariables false

def mapR (l : List R) (page : Int) : Int × Int × Int := if mustE l ≠ 0 then (mustE l, 0, 0) else if 0 ≤ page ∧ page < sumR l then (0, (mapAt page 0 (norm l)).1, (mapAt page 0 (norm l)).2) else (24, 0, 0)
theorem Map_any (A : Option Addr) (l : List R) (c : Nat) (page : Int) (w : World) (hR : Rd w A l) (hn : l.length ≤ 1048576) :
    Calls Try.prog 33 #[.slice A l.length c, .int .i64 page] w (ResN w (mapR l page).2.1 (mapR l page).2.2 (mapR l page).1) := by
  unfold mapR
  split
  · exact Map_bad A l c page w hR hn (by assumption)
  · rename_i h0
    split
    · rename_i hp
      exact Map_ok A l c page w hR hn (by simpa using h0) hp.1 hp.2
    · exact Map_range A l c page w hR hn (by simpa using h0) (by assumption)
theorem mapR_bad {l : List R} {page : Int} (h : mustE l ≠ 0) : mapR l page = (mustE l, 0, 0) := if_pos h
theorem mapR_range {l : List R} {page : Int} (h : mustE l = 0) (hi : ¬ (0 ≤ page ∧ page < sumR l)) : mapR l page = (24, 0, 0) := by unfold mapR; rw [if_neg (by simp [h]), if_neg hi]
theorem mapR_ok {l : List R} {page : Int} (h : mustE l = 0) (hi : 0 ≤ page ∧ page < sumR l) : mapR l page = (0, (mapAt page 0 (norm l)).1, (mapAt page 0 (norm l)).2) := by unfold mapR; rw [if_neg (by simp [h]), if_pos hi]
def whereR (l : List R) (tv : Int) : Int × List Int := if mustE l ≠ 0 then (mustE l, []) else if 0 ≤ tv then (0, whereG tv 0 l) else (1, [])
theorem Where_any (A : Option Addr) (l : List R) (c : Nat) (tv : Int) (w : World) (hR : Rd w A l) (hn : l.length ≤ 1048576) :
    Calls Try.prog 34 #[.slice A l.length c, .int .i64 tv] w (ResI w (whereR l tv).1 (whereR l tv).2) := by
  unfold whereR
  split
  · exact Where_bad A l c tv w hR hn (by assumption)
  · rename_i h0
    split
    · rename_i hp
      exact Where_ok A l c tv w hR (by simpa using h0) hp
    · exact Where_arg A l c tv w hR hn (by simpa using h0) (by omega)
theorem whereR_bad {l : List R} {tv : Int} (h : mustE l ≠ 0) : whereR l tv = (mustE l, []) := if_pos h
theorem whereR_arg {l : List R} {tv : Int} (h : mustE l = 0) (hi : tv < 0) : whereR l tv = (1, []) := by unfold whereR; rw [if_neg (by simp [h]), if_neg (by omega)]
theorem whereR_ok {l : List R} {tv : Int} (h : mustE l = 0) (hi : 0 ≤ tv) : whereR l tv = (0, whereG tv 0 l) := by unfold whereR; rw [if_neg (by simp [h]), if_pos hi]
theorem part_rest {l : List R} (h : mustE l = 0) {page : Int} (hp : 0 ≤ page) : partR l page (page + 1073741824) = partR l page (sumR l) := by
  have hw := (okL_of_must h).wk
  have hs := (mustE_zero h).2.2
  have hp2 := pg_len hw
  rw [part_pg hw, part_pg hw, List.take_of_length_le (by omega), List.take_of_length_le (by omega)]
theorem RdI.at2 {w : World} {A A' : Option Addr} {l : List Int} (h : RdI w A l) (h' : RdI w A' l) (k : Nat) (hk : k < l.length) : ∃ b o b' o' x, A = some ⟨b, o, none⟩ ∧ A' = some ⟨b', o', none⟩ ∧ w.cell? ⟨b, o + k, none⟩ = some (.int .i64 x) ∧ w.cell? ⟨b', o' + k, none⟩ = some (.int .i64 x) := by
  obtain ⟨b, o, e, hc⟩ := h.at_ k hk
  obtain ⟨b', o', e', hc'⟩ := h'.at_ k hk
  exact ⟨b, o, b', o', _, e, e', hc, hc'⟩
end Go.Proofs.Ytjdkdogiaokhjaa
