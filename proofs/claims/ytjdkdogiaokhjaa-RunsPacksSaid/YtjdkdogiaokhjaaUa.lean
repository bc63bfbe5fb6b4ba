/- Runs: the law RunsPacks, walked. -/
import Derived.Test.YtjdkdogiaokhjaaTy
import Derived.Test.YtjdkdogiaokhjaaTc
namespace Go.Proofs.Ytjdkdogiaokhjaa
open Go.RowKit Go.Proofs
set_option linter.unusedSimpArgs false
set_option linter.unusedVariables false

theorem convAny {w : World} {A : Option Addr} {bs : List Int} {c : Nat} (hR : RdB w A bs) : (convert 40 9 (.slice A bs.length c)).run Try.prog w = .ok (.string (strOfNums bs)) w := by
  by_cases h : bs = []
  · subst h
    cases A with
    | none =>
      rw [List.length_nil, run_convert_bytes_string w 40 9 5 none 0 c Try.underlying40 Try.underlying5 Try.underlying9]
      rfl
    | some a =>
      have := run_bytesToString (P := Try.prog) w a 0 c [] (by rfl)
      rw [List.length_nil, run_convert_bytes_string w 40 9 5 (some a) 0 c Try.underlying40 Try.underlying5 Try.underlying9, this]
      rfl
  · exact conv_bytes hR h
/-- what 'runs.Pack' gives -/
def packR3 (l : List R) (most : Int) : Int × List Int × Int := if most < 1 then (1, [], 0) else if mustE l ≠ 0 then (mustE l, [], 0) else (0, (packGo most [] 0 0 (norm l)).1, (packGo most [] 0 0 (norm l)).2)
def PackE (w0 : World) (r : Int × List Int × Int) (e : Ending) (w' : World) : Prop := ∃ A1 c1, e = .returned (.tuple #[.slice A1 r.2.1.length c1, .int .i64 r.2.2, .int .i64 r.1]) ∧ RdB w' A1 r.2.1 ∧ Below w0.heap.size w0 w'
theorem packE_of {w0 : World} {e : Int} {r : List Int × Int} {x : Ending} {w' : World} (h : PackRes w0 e r x w') (hb : ∀ y ∈ r.1, 0 ≤ y ∧ y < 256) : PackE w0 (e, r.1, r.2) x w' := by
  obtain ⟨v, rfl, ho, hB⟩ := h
  obtain ⟨A1, c1, rfl, hc, hr⟩ := rdB_of_own ho hb
  exact ⟨A1, c1, rfl, hr, hB⟩
theorem Pack_all (A : Option Addr) (l : List R) (c : Nat) (most : Int) (w : World) (hR : Rd w A l) (hn : l.length ≤ 1048576) :
    Calls Try.prog 25 #[.slice A l.length c, .int .i64 most] w (PackE w (packR3 l most)) := by
  unfold packR3
  by_cases h1 : most < 1
  · rw [if_pos h1]
    exact (Pack_most A l c most w hR hn h1).mono fun x w' h => packE_of h (by simp)
  · rw [if_neg h1]
    by_cases h2 : mustE l = 0
    · rw [if_neg (not_not_intro h2)]
      exact (Pack_ok A l c most w hR hn (by omega) h2).mono fun x w' h => packE_of h (packGo_bytes most [] 0 0 (norm l) (by simp))
    · rw [if_pos h2]
      exact (Pack_bad A l c most w hR hn (by omega) h2).mono fun x w' h => packE_of h (by simp)
set_option maxRecDepth 100000 in
set_option maxHeartbeats 8000000 in
theorem RunsPacks_len (A : Option Addr) (l : List R) (c : Nat) (most : Int) (A' : Option Addr) (bs : List Int) (c' : Nat) (w : World) (hR : Rd w A l) (h : fewB l = false ∨ 300 < bs.length) :
    Calls Try.prog 4 #[.slice A l.length c, .int .i64 most, .slice A' bs.length c'] w fun e w' => e = .returned (.bool true) ∧ Below w.heap.size w w' := by
  have HS := few_any (some ⟨w.heap.size, 0, none⟩) [(.slice A l.length c, l)] 1 (w.alloc (.cells #[.slice A l.length c] 22)) (RdS.lit1 w A l c 22 (fun _ => hR)) (by simp)
  rw [fews1] at HS
  have hst := (St.start w).alloc (.cells #[.slice A l.length c] 22)
  by_cases h1 : fewB l = false
  · rw [h1] at HS
    have H := Lib.hid HS
    clear HS h1 hR h
    go_enter Try.func4, Try.ntmps4
    go_wp2_with fail
    refine H.out.mono ?_; rintro e w1 ⟨rfl, rfl⟩
    go_wp2_with fail
    refine (sanity_any _).mono ?_; rintro e w2 ⟨rfl, hB⟩; replace hst := hst.next hB; clear hB
    go_wp2_with fail
    go_ret
    exact ⟨rfl, hst.below⟩
  · have h2 : 300 < bs.length := h.resolve_left h1
    rw [show fewB l = true by simpa using h1] at HS
    have H := Lib.hid HS
    clear HS h1 hR h
    go_enter Try.func4, Try.ntmps4
    go_wp2_with fail
    refine H.out.mono ?_; rintro e w1 ⟨rfl, rfl⟩
    go_wp2_with fail
    refine (sanity_any _).mono ?_; rintro e w2 ⟨rfl, hB⟩; replace hst := hst.next hB; clear hB
    go_wp2_with fail
    go_ret
    exact ⟨rfl, hst.below⟩
set_option maxRecDepth 100000 in
set_option maxHeartbeats 8000000 in
theorem RunsPacks_yes (A : Option Addr) (l : List R) (c : Nat) (most : Int) (A' : Option Addr) (bs : List Int) (c' : Nat) (w : World) (hR : Rd w A l) (hmo : -9223372036854775808 ≤ most ∧ most ≤ 9223372036854775807) (hc' : bs.length ≤ c') (hB' : RdB w A' bs) (h1 : fewB l = true) (h2 : bs.length ≤ 300) :
    Calls Try.prog 4 #[.slice A l.length c, .int .i64 most, .slice A' bs.length c'] w fun e w' => e = .returned (.bool true) ∧ Below w.heap.size w w' := by
  have HS := few_any (some ⟨w.heap.size, 0, none⟩) [(.slice A l.length c, l)] 1 (w.alloc (.cells #[.slice A l.length c] 22)) (RdS.lit1 w A l c 22 (fun _ => hR)) (by simp)
  rw [fews1, h1] at HS
  have H := Lib.hid HS
  have hl := few_len h1
  have hst := (((St.start w).push hR).pushB hB').alloc (.cells #[.slice A l.length c] 22)
  have hbb := hB'.bytes
  have HV := Lib.hid (fun W (hR : Rd W A l) => refValid_any A l c W hR (by omega))
  have HP := Lib.hid (fun W (hR : Rd W A l) => Pack_all A l c most W hR (by omega))
  have HQ := Lib.hid (fun W (hR : Rd W A l) h0 => refPack_any A l c most W hR h0)
  have HU := Lib.hid (fun W (hR : RdB W A' bs) => UnpB (n := bs.length) (c := c') hR rfl (by omega) hc' (unpack_ref (fun x hx => (hbb x hx).1)))
  have HW := Lib.hid (fun W (hR : RdB W A' bs) => refUnpack_any A' bs c' W hR (by omega) hc')
  obtain ⟨u, hu⟩ : ∃ u, refUnpackR bs = u := ⟨_, rfl⟩
  obtain ⟨r, hr⟩ : ∃ r, packR3 l most = r := ⟨_, rfl⟩
  rw [hu] at HU HW
  rw [hr] at HP
  have hul : u.1.length ≤ 1048576 := by
    subst hu
    unfold refUnpackR
    split
    · simp
    · split
      · simp
      · split
        · simp
        · rename_i out rest _ hm _
          have h0 : mustE out = 0 := Classical.byContradiction fun hn => hm (.inl hn)
          have := (mustE_zero h0).1
          show out.length ≤ _
          omega
  have HR := Lib.hid hr
  have d300 : ¬ 300 < bs.length := by omega
  obtain ⟨we, xs, pg⟩ := r
  clear HS hu hr hR hB' h1 hbb
  go_enter Try.func4, Try.ntmps4
  go_wp2_with fail
  refine H.out.mono ?_; rintro e w1 ⟨rfl, rfl⟩; clear H
  go_wp2_with fail
  refine (HV.out _ (hst.get (A := A) (l := l) (by simp))).mono ?_; rintro e w2 ⟨rfl, hB⟩; replace hst := hst.next hB; clear hB HV
  go_upto_if 32 with fail
  go_cut [7] (fun s7 wc => s7 = .int .i64 we ∧ St w wc [(A, l)] [(A', bs)])
  case first =>
    have hr := HR.out
    unfold packR3 at hr
    by_cases hm : most < 1
    · rw [if_pos hm] at hr
      simp only [Prod.mk.injEq] at hr
      obtain ⟨rfl, _⟩ := hr
      go_wp2_with fail
      go_meet
      exact ⟨rfl, hst⟩
    · rw [if_neg hm] at hr
      have hwe : we = mustE l := by
        split at hr
        · simp only [Prod.mk.injEq] at hr; exact hr.1.symm
        · rename_i h0
          simp only [Prod.mk.injEq] at hr
          rw [← hr.1]; exact (Classical.byContradiction fun hn => h0 (fun e => hn e.symm))
      subst hwe
      clear hr
      go_wp2_with fail
      go_meet
      exact ⟨rfl, hst⟩
  case rest =>
    clear hst
    obtain ⟨rfl, hst⟩ := hcut
    go_wp2_with fail
    refine (HP.out _ (hst.get (A := A) (l := l) (by simp))).mono ?_; rintro e w3 ⟨AX, cX, rfl, rX, hB⟩; replace hst := (hst.next hB).pushB rX; clear hB rX HP
    simp only at hst
    go_upto_if 41 with fail
    go_cut [11, 12] (fun s11 s12 wc => ∃ AY cY, s11 = .slice AY xs.length cY ∧ s12 = .int .i64 pg ∧ St w wc [(A, l)] [(AY, xs), (AX, xs), (A', bs)])
    case first =>
      have hr := HR.out
      unfold packR3 at hr
      by_cases h0 : we = 0
      · subst h0
        have hh : ¬ most < 1 ∧ mustE l = 0 := by
          by_cases hm : most < 1
          · rw [if_pos hm] at hr; simp at hr
          · refine ⟨hm, Classical.byContradiction fun hn => ?_⟩
            rw [if_neg hm, if_pos hn] at hr
            simp only [Prod.mk.injEq] at hr
            exact hn hr.1
        rw [if_neg hh.1, if_neg (not_not_intro hh.2)] at hr
        simp only [Prod.mk.injEq, true_and] at hr
        have HQ2 := HQ.out
        have hbp := packGo_bytes most [] 0 0 (norm l) (by simp)
        generalize packGo most [] 0 0 (norm l) = pq at *
        obtain ⟨p1, p2⟩ := pq
        simp only at hr hbp
        obtain ⟨rfl, rfl⟩ := hr
        have HBP := Lib.hid hbp
        have HM := Lib.hid hh.2
        have HQ3 := Lib.hid HQ2
        clear HQ2 hbp hh
        go_wp2_with fail
        refine (HQ3.out _ (hst.get (A := A) (l := l) (by simp)) HM.out).mono ?_; rintro e w4 ⟨v, rfl, ho, hB⟩
        obtain ⟨AY, cY, rfl, hcY, rY⟩ := rdB_of_own ho HBP.out
        replace hst := (hst.next hB).pushB rY
        clear hB ho rY
        go_wp2_with fail
        go_meet
        exact ⟨AY, cY, rfl, rfl, hst⟩
      · have hz : xs = [] ∧ pg = 0 := by
          by_cases hm : most < 1
          · rw [if_pos hm] at hr; simp only [Prod.mk.injEq] at hr; exact ⟨hr.2.1.symm, hr.2.2.symm⟩
          · rw [if_neg hm] at hr
            split at hr
            · simp only [Prod.mk.injEq] at hr; exact ⟨hr.2.1.symm, hr.2.2.symm⟩
            · simp only [Prod.mk.injEq] at hr; exact absurd hr.1.symm h0
        obtain ⟨rfl, rfl⟩ := hz
        have hd : (we == 0) = false := by simp [h0]
        clear hr h0
        go_wp2_with fail
        go_meet
        exact ⟨none, 0, rfl, rfl, hst.pushB (fun h => absurd rfl h)⟩
    case rest =>
      clear hst
      obtain ⟨AY, cY, rfl, rfl, hst⟩ := hcut
      have k1 : (convert 40 9 (.slice AX xs.length cX)).run Try.prog wc = .ok (.string (strOfNums xs)) wc := convAny (hst.getB (A := AX) (l := xs) (by simp))
      have k2 : (convert 40 9 (.slice AY xs.length cY)).run Try.prog wc = .ok (.string (strOfNums xs)) wc := convAny (hst.getB (A := AY) (l := xs) (by simp))
      go_wp2_with fail
      clear k1 k2
      refine (HU.out _ (hst.getB (A := A') (l := bs) (by simp))).mono ?_; rintro e w5 ⟨AM, cM, rfl, rM, hB⟩; replace hst := (hst.next hB).push rM; clear hB rM HU
      go_wp2_with fail
      refine (HW.out _ (hst.getB (A := A') (l := bs) (by simp))).mono ?_; rintro e w6 ⟨AN, cN, rfl, rN, hB⟩; replace hst := (hst.next hB).push rN; clear hB rN HW
      obtain ⟨m, used, ok⟩ := u
      simp only [liftU] at hst hul
      cases ok with
      | true =>
        go_wp2_with fail
        refine (sanity_any _).mono ?_; rintro e w7 ⟨rfl, hB⟩; replace hst := hst.next hB; clear hB
        go_wp2_with fail
        refine (Same0 m (hst.get (A := AM) (l := m) (by simp)) (hst.get (A := AN) (l := m) (by simp)) rfl rfl hul).mono ?_; rintro e w8 ⟨rfl, hB⟩; replace hst := hst.next hB; clear hB
        go_wp2_with fail
        go_ret
        refine ⟨?_, hst.below⟩
        show Ending.returned (Value.bool (used == used)) = _
        simp
      | false =>
        go_wp2_with fail
        refine (sanity_any _).mono ?_; rintro e w7 ⟨rfl, hB⟩; replace hst := hst.next hB; clear hB
        go_wp2_with fail
        refine (Same0 m (hst.get (A := AM) (l := m) (by simp)) (hst.get (A := AN) (l := m) (by simp)) rfl rfl hul).mono ?_; rintro e w8 ⟨rfl, hB⟩; replace hst := hst.next hB; clear hB
        go_wp2_with fail
        go_ret
        refine ⟨?_, hst.below⟩
        show Ending.returned (Value.bool (used == used)) = _
        simp
theorem RunsPacks_walk (A : Option Addr) (l : List R) (c : Nat) (most : Int) (A' : Option Addr) (bs : List Int) (c' : Nat) (w : World) (hR : Rd w A l) (hm : (Lit.int .i64 most).wf = true) (hc' : bs.length ≤ c') (hB' : RdB w A' bs) :
    Calls Try.prog 4 #[.slice A l.length c, .int .i64 most, .slice A' bs.length c'] w fun e w' => e = .returned (.bool true) ∧ Below w.heap.size w w' := by
  by_cases h : fewB l = true
  · by_cases h2 : bs.length ≤ 300
    · exact RunsPacks_yes A l c most A' bs c' w hR (wf_bd hm) hc' hB' h h2
    · exact RunsPacks_len A l c most A' bs c' w hR (.inr (by omega))
  · exact RunsPacks_len A l c most A' bs c' w hR (.inl (by simpa using h))
end Go.Proofs.Ytjdkdogiaokhjaa
