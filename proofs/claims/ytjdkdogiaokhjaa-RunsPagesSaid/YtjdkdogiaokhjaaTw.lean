/- Runs: the law RunsPages, whole. -/
import Derived.Test.YtjdkdogiaokhjaaTl
import Derived.Test.YtjdkdogiaokhjaaTm
import Derived.Test.YtjdkdogiaokhjaaTc
namespace Go.Proofs.Ytjdkdogiaokhjaa
open Go.RowKit Go.Proofs
set_option linter.unusedSimpArgs false
set_option linter.unusedVariables false

set_option maxRecDepth 100000 in
set_option maxHeartbeats 4000000 in
theorem RunsPages_not (A : Option Addr) (l : List R) (c : Nat) (A' : Option Addr) (more : List R) (c' : Nat) (page many : Int) (w : World) (hR : Rd w A l) (hR' : Rd w A' more) (hs : (smallB l && smallB more) = false) :
    Calls Try.prog 10 #[.slice A l.length c, .slice A' more.length c', .int .i64 page, .int .i64 many] w fun e w' => e = .returned (.bool true) ∧ Below w.heap.size w w' := by
  have HS := small_any (some ⟨w.heap.size, 0, none⟩) [(.slice A l.length c, l), (.slice A' more.length c', more)] 2 (w.alloc (.cells #[.slice A l.length c, .slice A' more.length c'] 22)) (RdS.lit2 w A l c A' more c' 22 (fun _ => hR) (fun _ => hR')) (by simp)
  rw [smalls2, hs] at HS
  have H := Lib.hid HS
  have hst := (St.start w).alloc (.cells #[.slice A l.length c, .slice A' more.length c'] 22)
  clear HS hs hR hR'
  go_enter Try.func10, Try.ntmps10
  go_wp2_with fail
  refine H.out.mono ?_; rintro e w1 ⟨rfl, hB⟩; replace hst := hst.next hB; clear hB
  go_wp2_with fail
  refine (sanity_any _).mono ?_; rintro e w2 ⟨rfl, hB⟩; replace hst := hst.next hB; clear hB
  go_wp2_with fail
  go_ret
  exact ⟨rfl, hst.below⟩
theorem RunsPages_walk (A : Option Addr) (l : List R) (c : Nat) (A' : Option Addr) (more : List R) (c' : Nat) (page many : Int) (w : World) (hR : Rd w A l) (hR' : Rd w A' more) (hp : (Lit.int .i64 page).wf = true) (hm : (Lit.int .i64 many).wf = true) :
    Calls Try.prog 10 #[.slice A l.length c, .slice A' more.length c', .int .i64 page, .int .i64 many] w fun e w' => e = .returned (.bool true) ∧ Below w.heap.size w w' := by
  by_cases h : smallB l = true
  · by_cases k : smallB more = true
    · by_cases hi : inR l page many
      · have h2 := hi
        obtain ⟨i1, i2, i3, i4⟩ := h2
        have hlen := pg_len (okL_of_must (smallB_true h).2.1).wk
        have e1 : ((page.toNat : Nat) : Int) = page := by omega
        have e2 : ((many.toNat : Nat) : Int) = many := by omega
        have := RunsPages_in A l c A' more c' page.toNat many.toNat w hR hR' h k (by omega)
        rwa [e1, e2] at this
      · exact RunsPages_out A l c A' more c' page many w hR hR' h k hi (wf_bd hp) (wf_bd hm)
    · exact RunsPages_not A l c A' more c' page many w hR hR' (by simp [k])
  · exact RunsPages_not A l c A' more c' page many w hR hR' (by simp [h])
end Go.Proofs.Ytjdkdogiaokhjaa
