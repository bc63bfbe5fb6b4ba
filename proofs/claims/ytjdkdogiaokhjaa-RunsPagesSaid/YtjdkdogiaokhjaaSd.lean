/- Runs: the law's 'sanity'. -/
import Derived.Test.YtjdkdogiaokhjaaSc
import Derived.Laws.BytesString
namespace Go.Proofs.Ytjdkdogiaokhjaa
open Go.RowKit Go.Proofs
set_option linter.unusedSimpArgs false
set_option linter.unusedVariables false

def sl0 : List R := [(5, 2), (-1, 1), (7, 3)]
def slB : List Int := [33, 1, 44, 1, 33, 1, 214, 254, 0]
theorem sz0 : sumR sl0 = 6 ∧ tkn sl0 = 5 := by decide +kernel
theorem mu0 : mustE sl0 = 0 := by decide +kernel
theorem map0 : mapAt 4 0 (norm sl0) = (8, 2) := by decide +kernel
theorem pu0 : punchOk sl0 0 2 = (0, [(-1, 3), (7, 3)], [(5, 2)]) := by decide +kernel
theorem pa0 : packGo 100 [] 0 0 (norm sl0) = ([17, 2, 5, 1, 1, 17, 3, 2, 0], 6) := by decide +kernel
theorem pt0 : putOk sl0 5 [(1, 2)] = (0, [(5, 2), (-1, 1), (7, 2), (1, 2)], [(9, 1)]) := by decide +kernel
theorem up0 : unpackR slB = (0, [(300, 1), (2, 1)], 9) := by decide +kernel
theorem slB_bytes : ∀ x ∈ slB, 0 ≤ x ∧ x < 256 := by decide +kernel
theorem Size0 (A : Option Addr) (w : World) (hR : Rd w A sl0) : Calls Try.prog 41 #[.slice A 3 3] w (ResN w 6 5 0) := by
  have h := Size_ok A sl0 3 w hR (by decide) mu0
  rw [sz0.1, sz0.2] at h
  exact h
theorem Map0 (A : Option Addr) (w : World) (hR : Rd w A sl0) : Calls Try.prog 33 #[.slice A 3 3, .int .i64 4] w (ResN w 8 2 0) := by
  have h := Map_ok A sl0 3 4 w hR (by decide) mu0 (by decide) (by rw [sz0.1]; decide)
  rw [map0] at h
  exact h
/-- two mappings and no error, as they read -/
def Two (w0 : World) (a b : List R) (r : Ending) (w' : World) : Prop :=
  ∃ A1 c1 A2 c2, r = .returned (.tuple #[.slice A1 a.length c1, .slice A2 b.length c2, .int .i64 0]) ∧ Rd w' A1 a ∧ Rd w' A2 b ∧ Below w0.heap.size w0 w'
theorem two_of {w0 : World} {a b : List R} {r : Ending} {w' : World} (h : Res2 w0 0 a b r w') : Two w0 a b r w' := by
  obtain ⟨v1, v2, rfl, h1, h2, hB⟩ := h
  obtain ⟨A1, c1, rfl, _, _, r1⟩ := own_form h1
  obtain ⟨A2, c2, rfl, _, _, r2⟩ := own_form h2
  exact ⟨A1, c1, A2, c2, rfl, r1, r2, hB⟩
theorem Punch0 (A : Option Addr) (w : World) (hR : Rd w A sl0) : Calls Try.prog 17 #[.slice A 3 3, .int .i64 0, .int .i64 2] w (Two w [(-1, 3), (7, 3)] [(5, 2)]) := by
  have h := Punch_ok A sl0 3 0 2 w hR (by decide) mu0 ⟨by decide, by decide, by rw [sz0.1]; decide, by rw [sz0.1]; decide⟩
  rw [pu0] at h
  exact h.mono fun e w' h => two_of h
theorem Put0 (A A' : Option Addr) (w : World) (hR : Rd w A sl0) (hR' : Rd w A' [(1, 2)]) : Calls Try.prog 18 #[.slice A 3 3, .int .i64 5, .slice A' 1 1] w (Two w [(5, 2), (-1, 1), (7, 2), (1, 2)] [(9, 1)]) := by
  have h := Put_ok A sl0 3 5 A' [(1, 2)] 1 w hR (by decide) hR' (by decide) mu0 (by decide +kernel) (by decide) (by decide)
  rw [pt0] at h
  exact h.mono fun e w' h => two_of h
/-- a row of bytes, as it reads -/
theorem rdB_of_own {w : World} {base : Nat} {v : Value} {bs : List Int} (h : OwnB w base v bs) (hb : ∀ x ∈ bs, 0 ≤ x ∧ x < 256) : ∃ A c, v = .slice A bs.length c ∧ bs.length ≤ c ∧ RdB w A bs := by
  have h2 := RdB.of_own h hb
  have h3 := h.2
  rcases h3 with ⟨rfl, h4⟩ | ⟨g, cap, cur, rfl, hg, hh, hc, rest⟩
  · exact ⟨none, 0, by rw [h4], by omega, h2⟩
  · exact ⟨_, _, rfl, by omega, h2⟩
def OneB (w0 : World) (bs : List Int) (n : Int) (r : Ending) (w' : World) : Prop :=
  ∃ A1 c1, r = .returned (.tuple #[.slice A1 bs.length c1, .int .i64 n, .int .i64 0]) ∧ bs.length ≤ c1 ∧ RdB w' A1 bs ∧ Below w0.heap.size w0 w'
theorem Pack0 (A : Option Addr) (w : World) (hR : Rd w A sl0) : Calls Try.prog 25 #[.slice A 3 3, .int .i64 100] w (OneB w [17, 2, 5, 1, 1, 17, 3, 2, 0] 6) := by
  have h := Pack_ok A sl0 3 100 w hR (by decide) (by decide) mu0
  rw [pa0] at h
  refine h.mono ?_
  rintro e w' ⟨v, rfl, ho, hB⟩
  obtain ⟨A1, c1, rfl, hc, hr⟩ := rdB_of_own ho (by decide +kernel)
  exact ⟨A1, c1, rfl, hc, hr, hB⟩
def OneR (w0 : World) (l : List R) (n : Int) (r : Ending) (w' : World) : Prop :=
  ∃ A1 c1, r = .returned (.tuple #[.slice A1 l.length c1, .int .i64 n, .int .i64 0]) ∧ Rd w' A1 l ∧ Below w0.heap.size w0 w'
theorem Unpack0 (A : Option Addr) (w : World) (hR : RdB w A slB) : Calls Try.prog 27 #[.slice A 9 9] w (OneR w [(300, 1), (2, 1)] 9) := by
  have h := Unpack_any A slB 9 w hR (by decide) (by decide)
  rw [up0] at h
  refine h.mono ?_
  rintro e w' ⟨v, rfl, ho, hB⟩
  obtain ⟨A1, c1, rfl, _, _, hr⟩ := own_form ho
  exact ⟨A1, c1, rfl, hr, hB⟩
theorem conv_bytes {w : World} {A : Option Addr} {bs : List Int} {c : Nat} (hR : RdB w A bs) (hn : bs ≠ []) :
    (convert 40 9 (.slice A bs.length c)).run Try.prog w = .ok (.string (strOfNums bs)) w := by
  obtain ⟨b, o, rfl, h⟩ := hR hn
  exact run_convert_bytes_arg w 40 5 Try.underlying40 Try.underlying5 b o bs.length c bs rfl (fun i hi => by rw [(h i hi).1, List.getD_eq_getElem?_getD, List.getElem?_eq_getElem hi]; rfl) 9 Try.underlying9
/-- 'same' of two lists that are one -/
theorem Same0 {A A' : Option Addr} (l : List R) {n n' c c' : Nat} {w : World} (hR : Rd w A l) (hR' : Rd w A' l) (hn : n = l.length) (hn' : n' = l.length) (hl : l.length ≤ 1048576) :
    Calls Try.prog 24 #[.slice A n c, .slice A' n' c'] w fun e w' => e = .returned (.bool true) ∧ Below w.heap.size w w' := by
  subst hn hn'
  have h := lawSame_any A A' l l c c' w hR hR' hl hl
  rw [decide_eq_true rfl] at h
  exact h
end Go.Proofs.Ytjdkdogiaokhjaa
