/- Runs: the law RunsBytes, walked. -/
import Derived.Test.YtjdkdogiaokhjaaTh
import Derived.Test.YtjdkdogiaokhjaaSn
namespace Go.Proofs.Ytjdkdogiaokhjaa
open Go.RowKit Go.Proofs
set_option linter.unusedSimpArgs false
set_option linter.unusedVariables false

theorem St.getB {w W : World} {fs : List (Option Addr × List R)} {gs : List (Option Addr × List Int)} (h : St w W fs gs) {A : Option Addr} {l : List Int} (hm : (A, l) ∈ gs) : RdB W A l := h.rb _ hm
theorem PackB {A : Option Addr} {l : List R} {n c : Nat} {most p : Int} {x : List Int} {w : World} (hR : Rd w A l) (hn : n = l.length) (hl : l.length ≤ 1048576) (h0 : mustE l = 0) (hm : 1 ≤ most) (hp : packGo most [] 0 0 (norm l) = (x, p)) :
    Calls Try.prog 25 #[.slice A n c, .int .i64 most] w (OneB w x p) := by
  subst hn
  have h := Pack_ok A l c most w hR hl hm h0
  have hb := packGo_bytes most [] 0 0 (norm l) (fun x hx => by simp at hx)
  rw [hp] at h hb
  refine h.mono ?_
  rintro e w' ⟨v, rfl, ho, hB⟩
  obtain ⟨A1, c1, rfl, hc, hr⟩ := rdB_of_own ho hb
  exact ⟨A1, c1, rfl, hc, hr, hB⟩
def UnpE (w0 : World) (r : Int × List R × Int) (x : Ending) (w' : World) : Prop := ∃ A1 c1, x = .returned (.tuple #[.slice A1 r.2.1.length c1, .int .i64 r.2.2, .int .i64 r.1]) ∧ Rd w' A1 r.2.1 ∧ Below w0.heap.size w0 w'
theorem UnpB {A : Option Addr} {bs : List Int} {n c : Nat} {r : Int × List R × Int} {w : World} (hR : RdB w A bs) (hn : n = bs.length) (hl : bs.length ≤ 100000) (hc : bs.length ≤ c) (hu : unpackR bs = r) :
    Calls Try.prog 27 #[.slice A n c] w (UnpE w r) := by
  subst hn
  have h := Unpack_any A bs c w hR hl hc
  rw [hu] at h
  refine h.mono ?_
  rintro e w' ⟨v, rfl, ho, hB⟩
  obtain ⟨A1, c1, rfl, _, _, hr⟩ := own_form ho
  exact ⟨A1, c1, rfl, hr, hB⟩
theorem conv_take {w : World} {A : Option Addr} {bs : List Int} {c k : Nat} (hR : RdB w A bs) (hk : k ≤ bs.length) (h0 : 0 < k) :
    (convert 40 9 (.slice A k c)).run Try.prog w = .ok (.string (strOfNums (bs.take k))) w := by
  have h := conv_bytes (c := c) (hR.take k) (by intro e; have := congrArg List.length e; rw [List.length_take] at this; simp only [List.length_nil] at this; omega)
  rw [show (bs.take k).length = k by simp; omega] at h
  exact h
set_option maxRecDepth 100000 in
set_option maxHeartbeats 8000000 in
theorem RunsBytes_len (A : Option Addr) (l : List R) (c : Nat) (most : Int) (A' : Option Addr) (bs : List Int) (c' : Nat) (w : World) (hR : Rd w A l) (hc' : bs.length ≤ c') (hB' : RdB w A' bs) (h : 60 < l.length ∨ 300 < bs.length) :
    Calls Try.prog 6 #[.slice A l.length c, .int .i64 most, .slice A' bs.length c'] w fun e w' => e = .returned (.bool true) ∧ Below w.heap.size w w' := by
  have hst := St.start w
  by_cases h1 : 60 < l.length
  · go_enter Try.func6, Try.ntmps6
    go_wp2_with fail
    refine (sanity_any _).mono ?_; rintro e wq ⟨rfl, hB⟩; replace hst := hst.next hB; clear hB
    go_wp2_with fail
    go_ret
    exact ⟨rfl, hst.below⟩
  · have h2 : 300 < bs.length := by omega
    go_enter Try.func6, Try.ntmps6
    go_wp2_with fail
    refine (sanity_any _).mono ?_; rintro e wq ⟨rfl, hB⟩; replace hst := hst.next hB; clear hB
    go_wp2_with fail
    go_ret
    exact ⟨rfl, hst.below⟩
set_option maxRecDepth 100000 in
set_option maxHeartbeats 8000000 in
theorem RunsBytes_bad (A : Option Addr) (l : List R) (c : Nat) (most : Int) (A' : Option Addr) (bs : List Int) (c' : Nat) (w : World) (hR : Rd w A l) (hc' : bs.length ≤ c') (hB' : RdB w A' bs) (h1 : l.length ≤ 60) (h2 : bs.length ≤ 300) (h3 : mustE l ≠ 0) :
    Calls Try.prog 6 #[.slice A l.length c, .int .i64 most, .slice A' bs.length c'] w fun e w' => e = .returned (.bool true) ∧ Below w.heap.size w w' := by
  have hst := (St.start w).push hR
  have HV := Lib.hid (refValid_any A l c w hR (by omega))
  have hd : (mustE l != 0) = true := by simp [h3]
  have g1 : ¬ 60 < l.length := by omega
  have g2 : ¬ 300 < bs.length := by omega
  clear h3
  go_enter Try.func6, Try.ntmps6
  go_wp2_with fail
  refine (HV.out).mono ?_; rintro e wq ⟨rfl, hB⟩; replace hst := hst.next hB; clear hB
  go_wp2_with fail
  refine (sanity_any _).mono ?_; rintro e wq ⟨rfl, hB⟩; replace hst := hst.next hB; clear hB
  go_wp2_with fail
  go_ret
  exact ⟨rfl, hst.below⟩
set_option maxRecDepth 100000 in
set_option maxHeartbeats 8000000 in
theorem RunsBytes_ok (A : Option Addr) (l : List R) (c : Nat) (most : Int) (A' : Option Addr) (bs : List Int) (c' : Nat) (w : World) (hR : Rd w A l) (hc' : bs.length ≤ c') (hB' : RdB w A' bs) (h1 : l.length ≤ 60) (h2 : bs.length ≤ 300) (h3 : mustE l = 0) :
    Calls Try.prog 6 #[.slice A l.length c, .int .i64 most, .slice A' bs.length c'] w fun e w' => e = .returned (.bool true) ∧ Below w.heap.size w w' := by
  have hst := ((St.start w).push hR).pushB hB'
  have HM0 := Lib.hid h3
  have HV := refValid_any A l c w hR (by omega)
  rw [h3] at HV
  have HVV := Lib.hid HV
  have g1 : ¬ 60 < l.length := by omega
  have g2 : ¬ 300 < bs.length := by omega
  obtain ⟨r, hr⟩ : ∃ r, unpackR bs = r := ⟨_, rfl⟩
  have HU := Lib.hid hr
  obtain ⟨eu, m, used⟩ := r
  clear h3 HV hr hR hB'
  go_enter Try.func6, Try.ntmps6
  go_wp2_with fail
  refine (HVV.out).mono ?_; rintro e wq ⟨rfl, hB⟩; replace hst := hst.next hB; clear hB
  go_wp2_with fail
  refine (UnpB (hst.getB (A := A') (l := bs) (by simp)) rfl (by omega) hc' HU.out).mono ?_; rintro e wu ⟨AM, cM, rfl, rM, hB⟩; replace hst := (hst.next hB).push rM; clear hB rM
  simp only at hst
  by_cases he : eu = 0
  · have hde : (eu == 0) = true := by simp [he]
    obtain ⟨f1, f2, f3, f4, n0, f5, f6⟩ := unpack_fact (by rw [HU.out, he]) h2
    obtain ⟨u, rfl⟩ : ∃ u : Nat, used = u := ⟨used.toNat, by omega⟩
    rw [Int.toNat_natCast] at f5 f6
    rw [← f2] at f5
    have F1 := Lib.hid f1
    have F5 := Lib.hid f5
    have hml := (mustE_zero f1).1
    have htl : (bs.take u).length = u := by omega
    have HTL := Lib.hid htl
    clear f1 f2 f5 f6 htl he
    go_wp2_with fail
    refine (PackB (hst.get (A := AM) (l := m) (by simp)) rfl (by omega) F1.out f3 F5.out).mono ?_; rintro e wp ⟨AG, cG, rfl, hcG, rG, hB⟩; replace hst := (hst.next hB).pushB rG; clear hB rG
    rw [HTL.out]
    have k1 : ∀ n, (convert 40 9 (.slice AG u cG)).run Try.prog (wp.drewN n) = .ok (.string (strOfNums (bs.take u))) (wp.drewN n) := fun n => by
      have h := conv_bytes (c := cG) (RdB.below (hst.getB (A := AG) (l := bs.take u) (by simp)) (below_quiet0 wp n)) (by intro e; have := congrArg List.length e; rw [HTL.out] at this; simp at this; omega)
      rw [HTL.out] at h
      exact h
    have k2 : ∀ n, (convert 40 9 (.slice A' u c')).run Try.prog (wp.drewN n) = .ok (.string (strOfNums (bs.take u))) (wp.drewN n) := fun n => conv_take (RdB.below (hst.getB (A := A') (l := bs) (by simp)) (below_quiet0 wp n)) (by omega) (by omega)
    obtain ⟨b', o', rfl, _⟩ := (hst.getB (A := A') (l := bs) (by simp)).at_ 0 (by omega)
    have d1 : decide ((u : Int) < 1) = false := by simp; omega
    have d2 : decide ((bs.length : Int) < (u : Int)) = false := by simp; omega
    have d2' : decide (bs.length < u) = false := by simp; omega
    have d2'' : ¬ bs.length < u := by omega
    have d3 : (0 : Int) ≤ (u : Int) := by omega
    have d4 : (u : Int) ≤ (c' : Int) := by omega
    go_wp2_with fail
    go_quiet (fail)
    rename_i nq
    replace hst := hst.next (below_quiet0 wp nq)
    clear k1 k2
    by_cases hmo : most < 1
    · go_wp2_with fail
      refine (Pack_most A l c most _ (hst.get (A := A) (l := l) (by simp)) (by omega) hmo).mono ?_; rintro e wq ⟨v, rfl, ho, hB⟩
      obtain ⟨A9, c9, rfl⟩ := row_form ho
      replace hst := hst.next hB; clear hB ho
      go_wp2_with fail
      refine (sanity_any _).mono ?_; rintro e wq ⟨rfl, hB⟩; replace hst := hst.next hB; clear hB
      go_wp2_with fail
      go_ret
      exact ⟨rfl, hst.below⟩
    · obtain ⟨x, pages, t, p1, p2, p3, p4, p5, ⟨p6, p7⟩, p8, p9, p10, p11, p12⟩ := (bytes_fact HM0.out h1 (by omega : 1 ≤ most)).go
      have P1 := Lib.hid p1
      have P5 := Lib.hid p5
      have P10 := Lib.hid p10
      have P11 := Lib.hid p11
      have P12 := Lib.hid p12
      have CE := Lib.hid ((cutOk_eq (part_fits HM0.out 0 pages) (part_fits HM0.out pages (sumR l))))
      rw [p8] at CE
      have hz1 := (mustE_zero HM0.out).2.2
      clear p1 p5 p8 p10 p11 p12
      go_wp2_with fail
      refine (PackB (hst.get (A := A) (l := l) (by simp)) rfl (by omega) HM0.out (by omega) P1.out).mono ?_; rintro e wq ⟨AX, cX, rfl, hcX, rX, hB⟩; replace hst := (hst.next hB).pushB rX; clear hB rX
      go_wp2_with fail
      refine (UnpB (hst.getB (A := AX) (l := x) (by simp)) rfl (by omega) hcX P5.out).mono ?_; rintro e wq ⟨AT, cT, rfl, rT, hB⟩; replace hst := hst.next hB; clear hB
      replace hst := hst.push rT; clear rT
      go_wp2_with fail
      refine (Cut1 (hst.get (A := A) (l := l) (by simp)) rfl (by omega) HM0.out p6 p7 CE.out).mono ?_; rintro e wq ⟨AH, cH, AI, cI, rfl, rH, rI, hB⟩; replace hst := hst.next hB; clear hB
      replace hst := hst.push rH; clear rH
      replace hst := hst.push rI; clear rI
      go_wp2_with fail
      refine (PackB (hst.get (A := A) (l := l) (by simp)) rfl (by omega) HM0.out (by omega) P10.out).mono ?_; rintro e wy ⟨AY, cY, rfl, hcY, rY, hB⟩; replace hst := (hst.next hB).pushB rY; clear hB rY
      go_wp2_with fail
      replace hst := hst.alloc (.cells #[.int .i64 0, .int .i64 0, .int .i64 0, .int .i64 0] 26)
      refine (worst0 [0, 0, 0, 0] (RdE.lit wy [0, 0, 0, 0] 26) rfl (by decide) rfl).mono ?_
      rintro e ww ⟨rfl, rfl⟩
      go_wp2_with fail
      refine (Same0 t (hst.get (A := AT) (l := t) (by simp)) (hst.get (A := AH) (l := t) (by simp)) rfl rfl (by omega)).mono ?_; rintro e ws ⟨rfl, hB⟩; replace hst := hst.next hB; clear hB
      have k1 : (convert 40 9 (.slice AX x.length cX)).run Try.prog ws = .ok (.string (strOfNums x)) ws := conv_bytes (hst.getB (A := AX) (l := x) (by simp)) (by intro e; subst e; simp at p3)
      have k2 : (convert 40 9 (.slice AY x.length cY)).run Try.prog ws = .ok (.string (strOfNums x)) ws := conv_bytes (hst.getB (A := AY) (l := x) (by simp)) (by intro e; subst e; simp at p3)
      by_cases hx1 : x.length = 1
      · have hpz := P11.out hx1
        have hxd : ((x.length : Int) == 1) = true := by simp [hx1]
        have HX1 := Lib.hid hx1
        clear hx1
        have hpd : (pages == 0) = true := by simp [hpz]
        clear hpz
        go_wp2_with fail
        refine (sanity_any _).mono ?_; rintro e wq ⟨rfl, hB⟩; replace hst := hst.next hB; clear hB
        go_wp2_with fail
        go_ret
        exact ⟨rfl, hst.below⟩
      · have hxd : ((x.length : Int) == 1) = false := by simp; omega
        obtain ⟨y2, less, q1, q2, q3⟩ := P12.out (by omega)
        have Q1 := Lib.hid q1
        clear q1
        go_wp2_with fail
        refine (PackB (hst.get (A := A) (l := l) (by simp)) rfl (by omega) HM0.out (by omega) Q1.out).mono ?_; rintro e wz ⟨AZ, cZ, rfl, hcZ, rZ, hB⟩; replace hst := hst.next hB; clear hB rZ k1 k2
        go_wp2_with fail
        refine (sanity_any _).mono ?_; rintro e wq ⟨rfl, hB⟩; replace hst := hst.next hB; clear hB
        go_wp2_with fail
        go_ret
        exact ⟨rfl, hst.below⟩
  · have hde : (eu == 0) = false := by simp [he]
    clear he
    by_cases hmo : most < 1
    · go_wp2_with fail
      refine (Pack_most A l c most _ (hst.get (A := A) (l := l) (by simp)) (by omega) hmo).mono ?_; rintro e wq ⟨v, rfl, ho, hB⟩
      obtain ⟨A9, c9, rfl⟩ := row_form ho
      replace hst := hst.next hB; clear hB ho
      go_wp2_with fail
      refine (sanity_any _).mono ?_; rintro e wq ⟨rfl, hB⟩; replace hst := hst.next hB; clear hB
      go_wp2_with fail
      go_ret
      exact ⟨rfl, hst.below⟩
    · obtain ⟨x, pages, t, p1, p2, p3, p4, p5, ⟨p6, p7⟩, p8, p9, p10, p11, p12⟩ := (bytes_fact HM0.out h1 (by omega : 1 ≤ most)).go
      have P1 := Lib.hid p1
      have P5 := Lib.hid p5
      have P10 := Lib.hid p10
      have P11 := Lib.hid p11
      have P12 := Lib.hid p12
      have CE := Lib.hid ((cutOk_eq (part_fits HM0.out 0 pages) (part_fits HM0.out pages (sumR l))))
      rw [p8] at CE
      have hz1 := (mustE_zero HM0.out).2.2
      clear p1 p5 p8 p10 p11 p12
      go_wp2_with fail
      refine (PackB (hst.get (A := A) (l := l) (by simp)) rfl (by omega) HM0.out (by omega) P1.out).mono ?_; rintro e wq ⟨AX, cX, rfl, hcX, rX, hB⟩; replace hst := (hst.next hB).pushB rX; clear hB rX
      go_wp2_with fail
      refine (UnpB (hst.getB (A := AX) (l := x) (by simp)) rfl (by omega) hcX P5.out).mono ?_; rintro e wq ⟨AT, cT, rfl, rT, hB⟩; replace hst := hst.next hB; clear hB
      replace hst := hst.push rT; clear rT
      go_wp2_with fail
      refine (Cut1 (hst.get (A := A) (l := l) (by simp)) rfl (by omega) HM0.out p6 p7 CE.out).mono ?_; rintro e wq ⟨AH, cH, AI, cI, rfl, rH, rI, hB⟩; replace hst := hst.next hB; clear hB
      replace hst := hst.push rH; clear rH
      replace hst := hst.push rI; clear rI
      go_wp2_with fail
      refine (PackB (hst.get (A := A) (l := l) (by simp)) rfl (by omega) HM0.out (by omega) P10.out).mono ?_; rintro e wy ⟨AY, cY, rfl, hcY, rY, hB⟩; replace hst := (hst.next hB).pushB rY; clear hB rY
      go_wp2_with fail
      replace hst := hst.alloc (.cells #[.int .i64 0, .int .i64 0, .int .i64 0, .int .i64 0] 26)
      refine (worst0 [0, 0, 0, 0] (RdE.lit wy [0, 0, 0, 0] 26) rfl (by decide) rfl).mono ?_
      rintro e ww ⟨rfl, rfl⟩
      go_wp2_with fail
      refine (Same0 t (hst.get (A := AT) (l := t) (by simp)) (hst.get (A := AH) (l := t) (by simp)) rfl rfl (by omega)).mono ?_; rintro e ws ⟨rfl, hB⟩; replace hst := hst.next hB; clear hB
      have k1 : (convert 40 9 (.slice AX x.length cX)).run Try.prog ws = .ok (.string (strOfNums x)) ws := conv_bytes (hst.getB (A := AX) (l := x) (by simp)) (by intro e; subst e; simp at p3)
      have k2 : (convert 40 9 (.slice AY x.length cY)).run Try.prog ws = .ok (.string (strOfNums x)) ws := conv_bytes (hst.getB (A := AY) (l := x) (by simp)) (by intro e; subst e; simp at p3)
      by_cases hx1 : x.length = 1
      · have hpz := P11.out hx1
        have hxd : ((x.length : Int) == 1) = true := by simp [hx1]
        have HX1 := Lib.hid hx1
        clear hx1
        have hpd : (pages == 0) = true := by simp [hpz]
        clear hpz
        go_wp2_with fail
        refine (sanity_any _).mono ?_; rintro e wq ⟨rfl, hB⟩; replace hst := hst.next hB; clear hB
        go_wp2_with fail
        go_ret
        exact ⟨rfl, hst.below⟩
      · have hxd : ((x.length : Int) == 1) = false := by simp; omega
        obtain ⟨y2, less, q1, q2, q3⟩ := P12.out (by omega)
        have Q1 := Lib.hid q1
        clear q1
        go_wp2_with fail
        refine (PackB (hst.get (A := A) (l := l) (by simp)) rfl (by omega) HM0.out (by omega) Q1.out).mono ?_; rintro e wz ⟨AZ, cZ, rfl, hcZ, rZ, hB⟩; replace hst := hst.next hB; clear hB rZ k1 k2
        go_wp2_with fail
        refine (sanity_any _).mono ?_; rintro e wq ⟨rfl, hB⟩; replace hst := hst.next hB; clear hB
        go_wp2_with fail
        go_ret
        exact ⟨rfl, hst.below⟩

theorem RunsBytes_walk (A : Option Addr) (l : List R) (c : Nat) (most : Int) (A' : Option Addr) (bs : List Int) (c' : Nat) (w : World) (hR : Rd w A l) (_ : (Lit.int .i64 most).wf = true) (hc' : bs.length ≤ c') (hB' : RdB w A' bs) :
    Calls Try.prog 6 #[.slice A l.length c, .int .i64 most, .slice A' bs.length c'] w fun e w' => e = .returned (.bool true) ∧ Below w.heap.size w w' := by
  by_cases h1 : 60 < l.length
  · exact RunsBytes_len A l c most A' bs c' w hR hc' hB' (.inl h1)
  · by_cases h2 : 300 < bs.length
    · exact RunsBytes_len A l c most A' bs c' w hR hc' hB' (.inr h2)
    · by_cases h3 : mustE l = 0
      · exact RunsBytes_ok A l c most A' bs c' w hR hc' hB' (by omega) (by omega) h3
      · exact RunsBytes_bad A l c most A' bs c' w hR hc' hB' (by omega) (by omega) h3
end Go.Proofs.Ytjdkdogiaokhjaa
