/- Runs: the law RunsPuts, walked. -/
import Derived.Test.YtjdkdogiaokhjaaTb
namespace Go.Proofs.Ytjdkdogiaokhjaa
open Go.RowKit Go.Proofs
set_option linter.unusedSimpArgs false
set_option linter.unusedVariables false

theorem punchR_bad {l : List R} {page many : Int} (h : mustE l ≠ 0) : punchR l page many = (mustE l, [], []) := if_pos h
theorem punchR_range {l : List R} {page many : Int} (h : mustE l = 0) (hi : ¬ inR l page many) : punchR l page many = (24, [], []) := by unfold punchR; rw [if_neg (by simp [h]), if_neg hi]
theorem punchR_ok {l : List R} {page many : Int} (h : mustE l = 0) (hi : inR l page many) (hf : fitsE (punchX l page many) = 0) : punchR l page many = (0, punchX l page many, partR l page (page + many)) := by
  unfold punchR; rw [if_neg (by simp [h]), if_pos hi, punchOk_eq hf (part_fits h _ _)]
theorem punchR_no {l : List R} {page many : Int} (h : mustE l = 0) (hi : inR l page many) (hf : fitsE (punchX l page many) ≠ 0) : punchR l page many = (2, [], []) := by
  unfold punchR; rw [if_neg (by simp [h]), if_pos hi, punchOk, if_pos (.inl hf)]
theorem putR_bad1 {l more : List R} {page : Int} (h : mustE l ≠ 0) : putR l page more = (mustE l, [], []) := if_pos h
theorem putR_bad2 {l more : List R} {page : Int} (h : mustE l = 0) (k : mustE more ≠ 0) : putR l page more = (mustE more, [], []) := by unfold putR; rw [if_neg (by simp [h]), if_pos k]
theorem putR_range {l more : List R} {page : Int} (h : mustE l = 0) (k : mustE more = 0) (hp : ¬ (0 ≤ page ∧ page ≤ 1073741824)) : putR l page more = (24, [], []) := by unfold putR; rw [if_neg (by simp [h]), if_neg (by simp [k]), if_neg hp]
theorem putR_ok {l more : List R} {page : Int} (h : mustE l = 0) (k : mustE more = 0) (hp : 0 ≤ page ∧ page ≤ 1073741824) (hf : fitsE (putX l page more) = 0) : putR l page more = (0, putX l page more, partR l page (page + sumR more)) := by
  unfold putR; rw [if_neg (by simp [h]), if_neg (by simp [k]), if_pos hp, putOk_eq hf (part_fits h _ _)]
theorem putR_no {l more : List R} {page : Int} (h : mustE l = 0) (k : mustE more = 0) (hp : 0 ≤ page ∧ page ≤ 1073741824) (hf : fitsE (putX l page more) ≠ 0) : putR l page more = (2, [], []) := by
  unfold putR; rw [if_neg (by simp [h]), if_neg (by simp [k]), if_pos hp, putOk, if_pos (.inl hf)]
theorem punchX_gd {l : List R} {page many : Int} (h : mustE l = 0) (hi : inR l page many) : Gd (punchX l page many) 4001 8589934592 := by
  have hbd := punch_bd h hi
  have hX := norm_fine hbd.1 hbd.2.1 (by omega)
  obtain ⟨i1, i2, i3, i4⟩ := hi
  have hs := (mustE_zero h).2.2
  have p1 := partR_len l 0 page
  have p2 := partR_len l (page + many) (sumR l)
  have hz := (mustE_zero h).1
  have hl := norm_len (partR l 0 page ++ [(-1, many)] ++ partR l (page + many) (sumR l))
  refine ⟨hX.1, ?_, ?_⟩
  · simp only [List.length_append, List.length_cons, List.length_nil] at hl; unfold punchX; omega
  · unfold punchX; rw [norm_sum]; exact hbd.2.1
theorem putX_gd {l more : List R} {page : Int} (h : mustE l = 0) (k : mustE more = 0) (hp : 0 ≤ page ∧ page ≤ 1073741824) : Gd (putX l page more) 6001 8589934592 := by
  have hbd := put_bd h k hp.1 hp.2
  have hX := norm_fine hbd.1 hbd.2.1 (by omega)
  have p1 := partR_len l 0 page
  have p2 := partR_len l (page + sumR more) (sumR l)
  have p3 := gap_len l page more
  have hz := (mustE_zero h).1
  have kz := (mustE_zero k).1
  have hl := norm_len (partR l 0 page ++ gapR l page more ++ more ++ partR l (page + sumR more) (sumR l))
  refine ⟨hX.1, ?_, ?_⟩
  · simp only [List.length_append] at hl; unfold putX; omega
  · unfold putX; rw [norm_sum]; exact hbd.2.1
/-- what the middle of the law knows: the wanted error, and the wanted lists if there is none -/
def Wants (r : Int × List R × List R) (x y : List R) : Prop := (r.1 = 0 → x = r.2.1 ∧ y = r.2.2) ∧ (r.1 ≠ 0 → r.2.1 = [] ∧ r.2.2 = []) ∧ x.length ≤ 1048576 ∧ y.length ≤ 1048576
def PB (l more : List R) (page : Int) : Bool := decide (mustE l = 0 ∧ mustE more = 0 ∧ (page < 0 ∨ 1073741824 < page))
set_option maxRecDepth 100000 in
set_option maxHeartbeats 8000000 in
theorem RunsPuts_yes (A : Option Addr) (l : List R) (c : Nat) (A' : Option Addr) (more : List R) (c' : Nat) (page many : Int) (w : World) (hR : Rd w A l) (hR' : Rd w A' more) (hs : fewB l = true) (ks : fewB more = true) (hpg : -9223372036854775808 ≤ page ∧ page ≤ 9223372036854775807) (hmn : -9223372036854775808 ≤ many ∧ many ≤ 9223372036854775807) :
    Calls Try.prog 3 #[.slice A l.length c, .slice A' more.length c', .int .i64 page, .int .i64 many] w fun e w' => e = .returned (.bool true) ∧ Below w.heap.size w w' := by
  have HS := few_any (some ⟨w.heap.size, 0, none⟩) [(.slice A l.length c, l), (.slice A' more.length c', more)] 2 (w.alloc (.cells #[.slice A l.length c, .slice A' more.length c'] 22)) (RdS.lit2 w A l c A' more c' 22 (fun _ => hR) (fun _ => hR')) (by simp)
  rw [fews2, hs, ks] at HS
  have H := Lib.hid HS
  have hst := (((St.start w).push hR').push hR).alloc (.cells #[.slice A l.length c, .slice A' more.length c'] 22)
  have hl := few_len hs
  have kl := few_len ks
  obtain ⟨bad, hbad⟩ : ∃ x, mustE l = x := ⟨_, rfl⟩
  obtain ⟨badm, hbadm⟩ : ∃ x, mustE more = x := ⟨_, rfl⟩
  obtain ⟨pa, hpa⟩ : ∃ x, punchR l page many = x := ⟨_, rfl⟩
  obtain ⟨pb, hpb⟩ : ∃ x, putR l page more = x := ⟨_, rfl⟩
  have HB := Lib.hid hbad
  have HBM := Lib.hid hbadm
  have HPA := Lib.hid hpa
  have HPB := Lib.hid hpb
  have HV := Lib.hid (fun W (hR : Rd W A l) => refValid_any A l c W hR (by omega))
  have HVM := Lib.hid (fun W (hR : Rd W A' more) => refValid_any A' more c' W hR (by omega))
  rw [hbad] at HV
  rw [hbadm] at HVM
  have HPU := Lib.hid (fun W (hR : Rd W A l) => Punch_any A l c page many W hR (by omega))
  have HPT := Lib.hid (fun W (hR : Rd W A l) (hR' : Rd W A' more) => Put_any A l c page A' more c' W hR (by omega) hR' (by omega))
  rw [hpa] at HPU
  rw [hpb] at HPT
  obtain ⟨eA, a, o⟩ := pa
  obtain ⟨eB, b, old⟩ := pb
  clear HS hs ks hR hR' hbad hbadm hpa hpb
  go_enter Try.func3, Try.ntmps3
  go_wp2_with fail
  refine H.out.mono ?_; rintro e w1 ⟨rfl, rfl⟩; clear H
  go_wp2_with fail
  refine (HV.out _ (hst.get (A := A) (l := l) (by simp))).mono ?_; rintro e w2 ⟨rfl, hB⟩; replace hst := hst.next hB; clear hB
  go_wp2_with fail
  refine (HVM.out _ (hst.get (A := A') (l := more) (by simp))).mono ?_; rintro e w3 ⟨rfl, hB⟩; replace hst := hst.next hB; clear hB
  go_wp2_with fail
  replace hst := hst.alloc (.cells #[.int .i64 bad, .int .i64 badm] 26)
  refine (worst_two bad badm (RdE.lit w3 [bad, badm] 26) rfl).mono ?_; rintro e w4 ⟨rfl, rfl⟩
  generalize hboth : (if bad = 0 then badm else bad) = both
  have HBO := Lib.hid hboth
  clear hboth
  go_wp2_with fail
  refine (HPU.out _ (hst.get (A := A) (l := l) (by simp))).mono ?_; rintro e w5 ⟨Aa, ca, Ao, co, rfl, ra, ro, hB⟩; replace hst := ((hst.next hB).push ra).push ro; clear hB ra ro
  go_wp2_with fail
  refine (HPT.out _ (hst.get (A := A) (l := l) (by simp)) (hst.get (A := A') (l := more) (by simp))).mono ?_; rintro e w6 ⟨Ab, cb, Ad, cd, rfl, rb, rd_, hB⟩; replace hst := ((hst.next hB).push rb).push rd_; clear hB rb rd_
  simp only at hst
  go_upto_if 54 with fail
  go_cut [17] (fun s17 wc => ∃ n : Int, s17 = .int .i64 n ∧ Hid (bad = 0 → n = sumR l) ∧ St w wc [(Ad, old), (Ab, b), (Ao, o), (Aa, a), (A, l), (A', more)] [])
  case first =>
    by_cases h0 : bad = 0
    · have hd : (bad == 0) = true := by simp [h0]
      have G := Gd.of_must (HB.out.trans h0)
      clear h0
      go_wp2_with fail
      refine (RSize (hst.get (A := A) (l := l) (by simp)) rfl G (by omega)).mono ?_
      rintro e w7 ⟨rfl, hB⟩
      replace hst := hst.next hB
      clear hB
      go_wp2_with fail
      go_meet
      exact ⟨sumR l, rfl, Lib.hid fun _ => rfl, hst⟩
    · have hd : (bad == 0) = false := by simp [h0]
      have H0 := Lib.hid h0
      clear h0
      go_wp2_with fail
      go_meet
      exact ⟨0, rfl, Lib.hid (fun h => absurd h H0.out), hst⟩
  case rest =>
    clear hst
    obtain ⟨n, rfl, HN, hst⟩ := hcut
    go_upto_region 12 with fail
    go_cut [83] (fun s83 wx => ∃ B : Bool, s83 = .bool B ∧ Hid ((B = true → bad = 0 ∧ ¬ inR l page many) ∧ (B = false → bad ≠ 0 ∨ inR l page many)) ∧ St w wx [(Ad, old), (Ab, b), (Ao, o), (Aa, a), (A, l), (A', more)] [])
    case first =>
      by_cases h0 : bad = 0
      · have hd : (bad == 0) = true := by simp [h0]
        have hn := HN.out h0
        have hl0 := pages_nonneg (HB.out.trans h0)
        have hl1 := (mustE_zero (HB.out.trans h0)).2.2
        have hn0 : 0 ≤ n := by omega
        have hn1 : n ≤ 1073741824 := by omega
        have HNN := Lib.hid hn
        have H0 := Lib.hid h0
        clear h0 hn
        obtain ⟨p1, p2⟩ := hpg
        obtain ⟨m1, m2⟩ := hmn
        by_cases q1 : page < 0
        · go_wp2_with fail
          go_meet
          exact ⟨true, rfl, Lib.hid ⟨fun _ => ⟨H0.out, fun hi => by unfold inR at hi; omega⟩, fun h => by cases h⟩, hst⟩
        · by_cases q2 : many < 0
          · go_wp2_with fail
            go_meet
            exact ⟨true, rfl, Lib.hid ⟨fun _ => ⟨H0.out, fun hi => by unfold inR at hi; omega⟩, fun h => by cases h⟩, hst⟩
          · by_cases q3 : n < page
            · go_wp2_with fail
              go_meet
              exact ⟨true, rfl, Lib.hid ⟨fun _ => ⟨H0.out, fun hi => by unfold inR at hi; have := HNN.out; omega⟩, fun h => by cases h⟩, hst⟩
            · by_cases q4 : n - page < many
              · go_wp2_with fail
                go_meet
                exact ⟨true, rfl, Lib.hid ⟨fun _ => ⟨H0.out, fun hi => by unfold inR at hi; have := HNN.out; omega⟩, fun h => by cases h⟩, hst⟩
              · go_wp2_with fail
                go_meet
                exact ⟨false, rfl, Lib.hid ⟨fun h => (by cases h), fun _ => .inr (by unfold inR; have := HNN.out; omega)⟩, hst⟩
      · have hd : (bad == 0) = false := by simp [h0]
        have H0 := Lib.hid h0
        clear h0
        go_wp2_with fail
        go_meet
        exact ⟨false, rfl, Lib.hid ⟨fun h => (by cases h), fun _ => .inl H0.out⟩, hst⟩
    case rest =>
      clear hst
      obtain ⟨B, rfl, HBR, hst⟩ := hcut
      go_upto_if 83 with fail
      go_cut [22] (fun s22 wy => ∃ eW : Int, s22 = .int .i64 eW ∧ Hid ((eW = 0 ↔ bad = 0 ∧ inR l page many) ∧ (eW ≠ 0 → eW = eA ∧ a = [] ∧ o = [])) ∧ St w wy [(Ad, old), (Ab, b), (Ao, o), (Aa, a), (A, l), (A', more)] [])
      case first =>
        cases B with
        | true =>
          go_wp2_with fail
          go_meet
          exact ⟨24, rfl, Lib.hid ⟨⟨fun h => by simp at h, fun h => absurd h.2 (HBR.out.1 (by simp)).2⟩, fun _ => by
            have h1 := HPA.out
            rw [punchR_range (HB.out.trans (HBR.out.1 (by simp)).1) (HBR.out.1 (by simp)).2] at h1
            simp only [Prod.mk.injEq] at h1
            exact ⟨h1.1, h1.2.1.symm, h1.2.2.symm⟩⟩, hst⟩
        | false =>
          go_wp2_with fail
          go_meet
          exact ⟨bad, rfl, Lib.hid ⟨⟨fun h => ⟨h, (HBR.out.2 (by simp)).resolve_left (fun hn => hn h)⟩, fun h => h.1⟩, fun hne => by
            have h1 := HPA.out
            rw [punchR_bad (by rw [HB.out]; exact hne), HB.out] at h1
            simp only [Prod.mk.injEq] at h1
            exact ⟨h1.1, h1.2.1.symm, h1.2.2.symm⟩⟩, hst⟩
      case rest =>
        clear hst
        obtain ⟨eW, rfl, HW, hst⟩ := hcut
        go_upto_if 85 with fail
        go_cut [18, 19, 22] (fun s18 s19 s22 wz => ∃ (AX AY : Option Addr) (cX cY : Nat) (x y : List R), s18 = .slice AX x.length cX ∧ s19 = .slice AY y.length cY ∧ s22 = .int .i64 eA ∧ Hid (Wants (eA, a, o) x y) ∧ St w wz ((AY, y) :: (AX, x) :: [(Ad, old), (Ab, b), (Ao, o), (Aa, a), (A, l), (A', more)]) [])
        case first =>
          by_cases h0 : eW = 0
          · have hd : (eW == 0) = true := by simp [h0]
            obtain ⟨hb0, hin⟩ := HW.out.1.1 h0
            have hm0 := HB.out.trans hb0
            have HM0 := Lib.hid hm0
            have HI := Lib.hid hin
            have hX := refPunch_eq hm0 hin
            have hgd := punchX_gd hm0 hin
            have hPU := Lib.hid (fun W (hR : Rd W A l) => refPunch_any A l c page many W hR hm0 hin)
            rw [hX] at hPU
            have HP1 := Lib.hid (fun hf => (punchR_ok hm0 hin hf).symm.trans HPA.out)
            have HP2 := Lib.hid (fun hf => (punchR_no hm0 hin hf).symm.trans HPA.out)
            have hpl := partR_len l page (page + many)
            have hns := pages_nonneg hm0
            have hl1 := (mustE_zero hm0).2.2
            obtain ⟨i1, i2, i3, i4⟩ := hin
            clear h0 hb0 hm0 hX
            go_wp2_with fail
            refine (hPU.out _ (hst.get (A := A) (l := l) (by simp))).mono ?_
            rintro e w7 ⟨AX, cX, rfl, hN, hB⟩
            replace hst := (hst.next hB).push hN.1
            clear hN hB
            go_wp2_with fail
            refine (RPart A l c page many _ rfl (hst.get (A := A) (l := l) (by simp)) HM0.out (by omega) (by omega)).mono ?_
            rintro e w8 ⟨AY, cY, rfl, hN, hB⟩
            have hst2 := ((St.next hst hB).push hN.1)
            go_wp2_with fail
            refine (lawFits_any (hst2.get (A := AX) (l := punchX l page many) (by simp)) rfl hgd (by omega)).mono ?_
            rintro e w9 ⟨rfl, hB9⟩
            have hst3 := hst2.next hB9
            clear hst hst2 hN hB hB9
            have hxl := hgd.len
            by_cases hf : fitsE (punchX l page many) = 0
            · have h1 := HP1.out hf
              simp only [Prod.mk.injEq] at h1
              obtain ⟨rfl, rfl, rfl⟩ := h1
              rw [hf]
              go_wp2_with fail
              go_meet
              exact ⟨AX, AY, cX, cY, _, _, rfl, rfl, rfl, Lib.hid ⟨fun _ => ⟨rfl, rfl⟩, fun h => absurd rfl h, by omega, by omega⟩, hst3⟩
            · have h1 := HP2.out hf
              simp only [Prod.mk.injEq] at h1
              obtain ⟨rfl, rfl, rfl⟩ := h1
              rw [fitsE_two hf]
              go_wp2_with fail
              go_meet
              exact ⟨AX, AY, cX, cY, _, _, rfl, rfl, rfl, Lib.hid ⟨fun h => by simp at h, fun _ => ⟨rfl, rfl⟩, by omega, by omega⟩, hst3⟩
          · have hd : (eW == 0) = false := by simp [h0]
            obtain ⟨rfl, rfl, rfl⟩ := HW.out.2 h0
            have H0 := Lib.hid h0
            clear h0
            go_wp2_with fail
            go_meet
            exact ⟨none, none, 0, 0, [], [], rfl, rfl, rfl, Lib.hid ⟨fun h => absurd h H0.out, fun _ => ⟨rfl, rfl⟩, by simp, by simp⟩, (hst.push (Rd.nil _ _)).push (Rd.nil _ _)⟩
        case rest =>
          clear hst
          obtain ⟨AX, AY, cX, cY, x, y, rfl, rfl, rfl, HWA, hst⟩ := hcut
          clear HW HBR HN
          go_upto_region 18 with fail
          go_cut [105] (fun s105 wz => ∃ B : Bool, s105 = .bool B ∧ Hid ((B = true → both = 0 ∧ ¬ (0 ≤ page ∧ page ≤ 1073741824)) ∧ (B = false → both ≠ 0 ∨ (0 ≤ page ∧ page ≤ 1073741824))) ∧ St w wz ((AY, y) :: (AX, x) :: [(Ad, old), (Ab, b), (Ao, o), (Aa, a), (A, l), (A', more)]) [])
          case first =>
            by_cases h0 : both = 0
            · have hd : (both == 0) = true := by simp [h0]
              have H0 := Lib.hid h0
              clear h0
              by_cases q1 : page < 0
              · go_wp2_with fail
                go_meet
                exact ⟨true, rfl, Lib.hid ⟨fun _ => ⟨H0.out, by omega⟩, fun h => by cases h⟩, hst⟩
              · by_cases q2 : 1073741824 < page
                · go_wp2_with fail
                  go_meet
                  exact ⟨true, rfl, Lib.hid ⟨fun _ => ⟨H0.out, by omega⟩, fun h => by cases h⟩, hst⟩
                · go_wp2_with fail
                  go_meet
                  exact ⟨false, rfl, Lib.hid ⟨fun h => (by cases h), fun _ => .inr (by omega)⟩, hst⟩
            · have hd : (both == 0) = false := by simp [h0]
              have H0 := Lib.hid h0
              clear h0
              go_wp2_with fail
              go_meet
              exact ⟨false, rfl, Lib.hid ⟨fun h => (by cases h), fun _ => .inl H0.out⟩, hst⟩
          case rest =>
            clear hst
            obtain ⟨B, rfl, HBR, hst⟩ := hcut
            go_upto_if 105 with fail
            go_cut [23] (fun s23 wz => ∃ eV : Int, s23 = .int .i64 eV ∧ Hid ((eV = 0 → (mustE l = 0 ∧ mustE more = 0) ∧ (0 ≤ page ∧ page ≤ 1073741824)) ∧ (eV ≠ 0 → eV = eB ∧ b = [] ∧ old = [])) ∧ St w wz ((AY, y) :: (AX, x) :: [(Ad, old), (Ab, b), (Ao, o), (Aa, a), (A, l), (A', more)]) [])
            case first =>
              have hbz : both = 0 → mustE l = 0 ∧ mustE more = 0 := fun h => by
                have h1 := HBO.out
                rw [HB.out, HBM.out]
                split at h1
                · exact ⟨by assumption, by omega⟩
                · omega
              have HBZ := Lib.hid hbz
              have hbn : both ≠ 0 → both = eB ∧ b = [] ∧ old = [] := fun h => by
                have h1 := HBO.out
                have h2 := HPB.out
                by_cases hb : bad = 0
                · rw [if_pos hb] at h1
                  rw [putR_bad2 (HB.out.trans hb) (by rw [HBM.out, h1]; exact h), HBM.out, h1] at h2
                  simp only [Prod.mk.injEq] at h2
                  exact ⟨h2.1, h2.2.1.symm, h2.2.2.symm⟩
                · rw [if_neg hb] at h1
                  rw [putR_bad1 (by rw [HB.out]; exact hb), HB.out, h1] at h2
                  simp only [Prod.mk.injEq] at h2
                  exact ⟨h2.1, h2.2.1.symm, h2.2.2.symm⟩
              have HBN := Lib.hid hbn
              clear hbz hbn
              cases B with
              | true =>
                go_wp2_with fail
                go_meet
                exact ⟨24, rfl, Lib.hid ⟨fun h => (by simp at h), fun _ => by
                  have h1 := HPB.out
                  have h2 := HBR.out.1 (by simp)
                  have h3 := HBZ.out h2.1
                  rw [putR_range h3.1 h3.2 h2.2] at h1
                  simp only [Prod.mk.injEq] at h1
                  exact ⟨h1.1, h1.2.1.symm, h1.2.2.symm⟩⟩, hst⟩
              | false =>
                go_wp2_with fail
                go_meet
                exact ⟨both, rfl, Lib.hid ⟨fun h => ⟨HBZ.out h, (HBR.out.2 (by simp)).resolve_left (fun hn => hn h)⟩, HBN.out⟩, hst⟩
            case rest =>
              clear hst HBR
              obtain ⟨eV, rfl, HV2, hst⟩ := hcut
              go_upto_if 107 with fail
              go_cut [20, 21, 23] (fun s20 s21 s23 wz => ∃ (AZ AW : Option Addr) (cZ cW : Nat) (z v : List R), s20 = .slice AZ z.length cZ ∧ s21 = .slice AW v.length cW ∧ s23 = .int .i64 eB ∧ Hid (Wants (eB, b, old) z v) ∧ St w wz ((AW, v) :: (AZ, z) :: ((AY, y) :: (AX, x) :: [(Ad, old), (Ab, b), (Ao, o), (Aa, a), (A, l), (A', more)])) [])
              case first =>
                by_cases h0 : eV = 0
                · have hd : (eV == 0) = true := by simp [h0]
                  obtain ⟨⟨hm0, hm1⟩, hp⟩ := HV2.out.1 h0
                  have HP1 := Lib.hid (fun hf => (putR_ok hm0 hm1 hp hf).symm.trans HPB.out)
                  have HP2 := Lib.hid (fun hf => (putR_no hm0 hm1 hp hf).symm.trans HPB.out)
                  have hgd := putX_gd hm0 hm1 hp
                  have hpl := partR_len l page (page + sumR more)
                  by_cases hz : sumR more = 0
                  · obtain ⟨hx1, hx2⟩ := refPut_eq0 (page := page) hm0 hm1 hz hp.1
                    have hPU := Lib.hid (fun W (hR : Rd W A l) (hR' : Rd W A' more) => refPut_zero A l c page A' more c' W hR hR' hm0 hm1 hz)
                    rw [← hx1, ← hx2] at hPU
                    clear h0 hx1 hx2 hz hm0 hm1
                    go_wp2_with fail
                    refine (hPU.out _ (hst.get (A := A) (l := l) (by simp)) (hst.get (A := A') (l := more) (by simp))).mono ?_
                    rintro e w7 ⟨AZ, cZ, AW, cW, rfl, hN1, hN2, hB⟩
                    have hst2 := ((St.next hst hB).push hN1.1).push hN2.1
                    go_wp2_with fail
                    refine (lawFits_any (hst2.get (A := AZ) (l := putX l page more) (by simp)) rfl hgd (by omega)).mono ?_
                    rintro e w9 ⟨rfl, hB9⟩
                    have hst3 := hst2.next hB9
                    clear hst hst2 hN1 hN2 hB hB9
                    have hxl := hgd.len
                    by_cases hf : fitsE (putX l page more) = 0
                    · have h1 := HP1.out hf
                      simp only [Prod.mk.injEq] at h1
                      obtain ⟨rfl, rfl, rfl⟩ := h1
                      rw [hf]
                      go_wp2_with fail
                      go_meet
                      exact ⟨AZ, AW, cZ, cW, _, _, rfl, rfl, rfl, Lib.hid ⟨fun _ => ⟨rfl, rfl⟩, fun h => absurd rfl h, by omega, by omega⟩, hst3⟩
                    · have h1 := HP2.out hf
                      simp only [Prod.mk.injEq] at h1
                      obtain ⟨rfl, rfl, rfl⟩ := h1
                      rw [fitsE_two hf]
                      go_wp2_with fail
                      go_meet
                      exact ⟨AZ, AW, cZ, cW, _, _, rfl, rfl, rfl, Lib.hid ⟨fun h => by simp at h, fun _ => ⟨rfl, rfl⟩, by omega, by omega⟩, hst3⟩
                  · have hx1 := refPut_eq hm0 hm1 hz hp.1
                    have hPU := Lib.hid (fun W (hR : Rd W A l) (hR' : Rd W A' more) => refPut_some A l c page A' more c' W hR hR' hm0 hm1 hz hp.1 hp.2)
                    rw [hx1] at hPU
                    clear h0 hx1 hz hm0 hm1
                    go_wp2_with fail
                    refine (hPU.out _ (hst.get (A := A) (l := l) (by simp)) (hst.get (A := A') (l := more) (by simp))).mono ?_
                    rintro e w7 ⟨AZ, cZ, AW, cW, rfl, hN1, hN2, hB⟩
                    have hst2 := ((St.next hst hB).push hN1.1).push hN2.1
                    go_wp2_with fail
                    refine (lawFits_any (hst2.get (A := AZ) (l := putX l page more) (by simp)) rfl hgd (by omega)).mono ?_
                    rintro e w9 ⟨rfl, hB9⟩
                    have hst3 := hst2.next hB9
                    clear hst hst2 hN1 hN2 hB hB9
                    have hxl := hgd.len
                    by_cases hf : fitsE (putX l page more) = 0
                    · have h1 := HP1.out hf
                      simp only [Prod.mk.injEq] at h1
                      obtain ⟨rfl, rfl, rfl⟩ := h1
                      rw [hf]
                      go_wp2_with fail
                      go_meet
                      exact ⟨AZ, AW, cZ, cW, _, _, rfl, rfl, rfl, Lib.hid ⟨fun _ => ⟨rfl, rfl⟩, fun h => absurd rfl h, by omega, by omega⟩, hst3⟩
                    · have h1 := HP2.out hf
                      simp only [Prod.mk.injEq] at h1
                      obtain ⟨rfl, rfl, rfl⟩ := h1
                      rw [fitsE_two hf]
                      go_wp2_with fail
                      go_meet
                      exact ⟨AZ, AW, cZ, cW, _, _, rfl, rfl, rfl, Lib.hid ⟨fun h => by simp at h, fun _ => ⟨rfl, rfl⟩, by omega, by omega⟩, hst3⟩
                · have hd : (eV == 0) = false := by simp [h0]
                  obtain ⟨rfl, rfl, rfl⟩ := HV2.out.2 h0
                  have H0 := Lib.hid h0
                  clear h0
                  go_wp2_with fail
                  go_meet
                  exact ⟨none, none, 0, 0, [], [], rfl, rfl, rfl, Lib.hid ⟨fun h => absurd h H0.out, fun _ => ⟨rfl, rfl⟩, by simp, by simp⟩, (hst.push (Rd.nil _ _)).push (Rd.nil _ _)⟩
              case rest =>
                clear hst HV2
                obtain ⟨AZ, AW, cZ, cW, z, v, rfl, rfl, rfl, HWB, hst⟩ := hcut
                clear HB HBM HPA HPB HV HVM HPU HPT HBO
                have la := HWA.out.2.2
                have lb := HWB.out.2.2
                by_cases ha : eA = 0
                · have hda : (eA != 0) = false := by simp [ha]
                  obtain ⟨rfl, rfl⟩ := HWA.out.1 ha
                  clear ha HWA
                  by_cases hb : eB = 0
                  · have hdb : (eB != 0) = false := by simp [hb]
                    obtain ⟨rfl, rfl⟩ := HWB.out.1 hb
                    clear hb HWB
                    go_wp2_with fail
                    refine (sanity_any _).mono ?_; rintro e w10 ⟨rfl, hB⟩; replace hst := hst.next hB; clear hB
                    go_wp2_with fail
                    refine (Same0 x (hst.get (A := Aa) (l := x) (by simp)) (hst.get (A := AX) (l := x) (by simp)) rfl rfl (by omega)).mono ?_; rintro e w11 ⟨rfl, hB⟩; replace hst := hst.next hB; clear hB
                    go_wp2_with fail
                    refine (Same0 y (hst.get (A := Ao) (l := y) (by simp)) (hst.get (A := AY) (l := y) (by simp)) rfl rfl (by omega)).mono ?_; rintro e w12 ⟨rfl, hB⟩; replace hst := hst.next hB; clear hB
                    go_wp2_with fail
                    refine (Same0 z (hst.get (A := Ab) (l := z) (by simp)) (hst.get (A := AZ) (l := z) (by simp)) rfl rfl (by omega)).mono ?_; rintro e w13 ⟨rfl, hB⟩; replace hst := hst.next hB; clear hB
                    go_wp2_with fail
                    refine (Same0 v (hst.get (A := Ad) (l := v) (by simp)) (hst.get (A := AW) (l := v) (by simp)) rfl rfl (by omega)).mono ?_; rintro e w14 ⟨rfl, hB⟩; replace hst := hst.next hB; clear hB
                    go_wp2_with fail
                    go_ret
                    exact ⟨rfl, hst.below⟩
                  · have hdb : (eB != 0) = true := by simp [hb]
                    obtain ⟨rfl, rfl⟩ := HWB.out.2.1 hb
                    clear hb HWB
                    replace hst := hst.push (Rd.nil _ none)
                    go_wp2_with fail
                    refine (sanity_any _).mono ?_; rintro e w10 ⟨rfl, hB⟩; replace hst := hst.next hB; clear hB
                    go_wp2_with fail
                    refine (Same0 x (hst.get (A := Aa) (l := x) (by simp)) (hst.get (A := AX) (l := x) (by simp)) rfl rfl (by omega)).mono ?_; rintro e w11 ⟨rfl, hB⟩; replace hst := hst.next hB; clear hB
                    go_wp2_with fail
                    refine (Same0 y (hst.get (A := Ao) (l := y) (by simp)) (hst.get (A := AY) (l := y) (by simp)) rfl rfl (by omega)).mono ?_; rintro e w12 ⟨rfl, hB⟩; replace hst := hst.next hB; clear hB
                    go_wp2_with fail
                    refine (Same0 [] (hst.get (A := Ab) (l := []) (by simp)) (hst.get (A := none) (l := []) (by simp)) rfl rfl (by simp)).mono ?_; rintro e w13 ⟨rfl, hB⟩; replace hst := hst.next hB; clear hB
                    go_wp2_with fail
                    refine (Same0 [] (hst.get (A := Ad) (l := []) (by simp)) (hst.get (A := none) (l := []) (by simp)) rfl rfl (by simp)).mono ?_; rintro e w14 ⟨rfl, hB⟩; replace hst := hst.next hB; clear hB
                    go_wp2_with fail
                    go_ret
                    exact ⟨rfl, hst.below⟩
                · have hda : (eA != 0) = true := by simp [ha]
                  obtain ⟨rfl, rfl⟩ := HWA.out.2.1 ha
                  clear ha HWA
                  replace hst := hst.push (Rd.nil _ none)
                  by_cases hb : eB = 0
                  · have hdb : (eB != 0) = false := by simp [hb]
                    obtain ⟨rfl, rfl⟩ := HWB.out.1 hb
                    clear hb HWB
                    go_wp2_with fail
                    refine (sanity_any _).mono ?_; rintro e w10 ⟨rfl, hB⟩; replace hst := hst.next hB; clear hB
                    go_wp2_with fail
                    refine (Same0 [] (hst.get (A := Aa) (l := []) (by simp)) (hst.get (A := none) (l := []) (by simp)) rfl rfl (by simp)).mono ?_; rintro e w11 ⟨rfl, hB⟩; replace hst := hst.next hB; clear hB
                    go_wp2_with fail
                    refine (Same0 [] (hst.get (A := Ao) (l := []) (by simp)) (hst.get (A := none) (l := []) (by simp)) rfl rfl (by simp)).mono ?_; rintro e w12 ⟨rfl, hB⟩; replace hst := hst.next hB; clear hB
                    go_wp2_with fail
                    refine (Same0 z (hst.get (A := Ab) (l := z) (by simp)) (hst.get (A := AZ) (l := z) (by simp)) rfl rfl (by omega)).mono ?_; rintro e w13 ⟨rfl, hB⟩; replace hst := hst.next hB; clear hB
                    go_wp2_with fail
                    refine (Same0 v (hst.get (A := Ad) (l := v) (by simp)) (hst.get (A := AW) (l := v) (by simp)) rfl rfl (by omega)).mono ?_; rintro e w14 ⟨rfl, hB⟩; replace hst := hst.next hB; clear hB
                    go_wp2_with fail
                    go_ret
                    exact ⟨rfl, hst.below⟩
                  · have hdb : (eB != 0) = true := by simp [hb]
                    obtain ⟨rfl, rfl⟩ := HWB.out.2.1 hb
                    clear hb HWB
                    go_wp2_with fail
                    refine (sanity_any _).mono ?_; rintro e w10 ⟨rfl, hB⟩; replace hst := hst.next hB; clear hB
                    go_wp2_with fail
                    refine (Same0 [] (hst.get (A := Aa) (l := []) (by simp)) (hst.get (A := none) (l := []) (by simp)) rfl rfl (by simp)).mono ?_; rintro e w11 ⟨rfl, hB⟩; replace hst := hst.next hB; clear hB
                    go_wp2_with fail
                    refine (Same0 [] (hst.get (A := Ao) (l := []) (by simp)) (hst.get (A := none) (l := []) (by simp)) rfl rfl (by simp)).mono ?_; rintro e w12 ⟨rfl, hB⟩; replace hst := hst.next hB; clear hB
                    go_wp2_with fail
                    refine (Same0 [] (hst.get (A := Ab) (l := []) (by simp)) (hst.get (A := none) (l := []) (by simp)) rfl rfl (by simp)).mono ?_; rintro e w13 ⟨rfl, hB⟩; replace hst := hst.next hB; clear hB
                    go_wp2_with fail
                    refine (Same0 [] (hst.get (A := Ad) (l := []) (by simp)) (hst.get (A := none) (l := []) (by simp)) rfl rfl (by simp)).mono ?_; rintro e w14 ⟨rfl, hB⟩; replace hst := hst.next hB; clear hB
                    go_wp2_with fail
                    go_ret
                    exact ⟨rfl, hst.below⟩
set_option maxRecDepth 100000 in
set_option maxHeartbeats 4000000 in
theorem RunsPuts_not (A : Option Addr) (l : List R) (c : Nat) (A' : Option Addr) (more : List R) (c' : Nat) (page many : Int) (w : World) (hR : Rd w A l) (hR' : Rd w A' more) (hs : (fewB l && fewB more) = false) :
    Calls Try.prog 3 #[.slice A l.length c, .slice A' more.length c', .int .i64 page, .int .i64 many] w fun e w' => e = .returned (.bool true) ∧ Below w.heap.size w w' := by
  have HS := few_any (some ⟨w.heap.size, 0, none⟩) [(.slice A l.length c, l), (.slice A' more.length c', more)] 2 (w.alloc (.cells #[.slice A l.length c, .slice A' more.length c'] 22)) (RdS.lit2 w A l c A' more c' 22 (fun _ => hR) (fun _ => hR')) (by simp)
  rw [fews2, hs] at HS
  have H := Lib.hid HS
  have hst := (St.start w).alloc (.cells #[.slice A l.length c, .slice A' more.length c'] 22)
  clear HS hs hR hR'
  go_enter Try.func3, Try.ntmps3
  go_wp2_with fail
  refine H.out.mono ?_; rintro e w1 ⟨rfl, rfl⟩
  go_wp2_with fail
  refine (sanity_any _).mono ?_; rintro e w2 ⟨rfl, hB⟩; replace hst := hst.next hB; clear hB
  go_wp2_with fail
  go_ret
  exact ⟨rfl, hst.below⟩
theorem wf_bd {n : Int} (h : (Lit.int .i64 n).wf = true) : -9223372036854775808 ≤ n ∧ n ≤ 9223372036854775807 := by
  have hmin : IntKind.i64.min = -9223372036854775808 := rfl
  have hmax : IntKind.i64.max = 9223372036854775807 := rfl
  simp [Lit.wf, hmin, hmax] at h
  exact h
theorem RunsPuts_walk (A : Option Addr) (l : List R) (c : Nat) (A' : Option Addr) (more : List R) (c' : Nat) (page many : Int) (w : World) (hR : Rd w A l) (hR' : Rd w A' more) (hp : (Lit.int .i64 page).wf = true) (hm : (Lit.int .i64 many).wf = true) :
    Calls Try.prog 3 #[.slice A l.length c, .slice A' more.length c', .int .i64 page, .int .i64 many] w fun e w' => e = .returned (.bool true) ∧ Below w.heap.size w w' := by
  by_cases h : fewB l = true
  · by_cases k : fewB more = true
    · exact RunsPuts_yes A l c A' more c' page many w hR hR' h k (wf_bd hp) (wf_bd hm)
    · exact RunsPuts_not A l c A' more c' page many w hR hR' (by simp [k])
  · exact RunsPuts_not A l c A' more c' page many w hR hR' (by simp [h])
end Go.Proofs.Ytjdkdogiaokhjaa
