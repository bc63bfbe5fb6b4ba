/- Runs: the law RunsEdits, walked. -/
import Derived.Test.YtjdkdogiaokhjaaTd
namespace Go.Proofs.Ytjdkdogiaokhjaa
open Go.RowKit Go.Proofs
set_option linter.unusedSimpArgs false
set_option linter.unusedVariables false

set_option maxRecDepth 100000 in
set_option maxHeartbeats 16000000 in
theorem RunsEdits_yes (A : Option Addr) (l : List R) (c : Nat) (A' : Option Addr) (more : List R) (c' : Nat) (page many : Int) (w : World) (hR : Rd w A l) (hR' : Rd w A' more) (hs : fewB l = true) (ks : fewB more = true) (hpg : -9223372036854775808 ≤ page ∧ page ≤ 9223372036854775807) (hmn : -9223372036854775808 ≤ many ∧ many ≤ 9223372036854775807) :
    Calls Try.prog 8 #[.slice A l.length c, .slice A' more.length c', .int .i64 page, .int .i64 many] w fun e w' => e = .returned (.bool true) ∧ Below w.heap.size w w' := by
  have HS := few_any (some ⟨w.heap.size, 0, none⟩) [(.slice A l.length c, l), (.slice A' more.length c', more)] 2 (w.alloc (.cells #[.slice A l.length c, .slice A' more.length c'] 22)) (RdS.lit2 w A l c A' more c' 22 (fun _ => hR) (fun _ => hR')) (by simp)
  rw [fews2, hs, ks] at HS
  have H := Lib.hid HS
  have hst := (((St.start w).push hR').push hR).alloc (.cells #[.slice A l.length c, .slice A' more.length c'] 22)
  have hl := few_len hs
  have kl := few_len ks
  have HFM := Lib.hid (fun h => few_must hs h)
  obtain ⟨bad, hbad⟩ : ∃ x, mustE l = x := ⟨_, rfl⟩
  obtain ⟨badm, hbadm⟩ : ∃ x, mustE more = x := ⟨_, rfl⟩
  obtain ⟨both, hboth⟩ : ∃ x, (if bad = 0 then badm else bad) = x := ⟨_, rfl⟩
  obtain ⟨pa, hpa⟩ : ∃ x, joinR l more = x := ⟨_, rfl⟩
  obtain ⟨pb, hpb⟩ : ∃ x, insertR l page more = x := ⟨_, rfl⟩
  obtain ⟨pc, hpc⟩ : ∃ x, removeR l page many = x := ⟨_, rfl⟩
  have HB := Lib.hid hbad
  have HBM := Lib.hid hbadm
  have hbz : both = 0 → mustE l = 0 ∧ mustE more = 0 := fun h => by
    have h1 := hboth
    rw [hbad, hbadm]
    split at h1
    · exact ⟨by assumption, by omega⟩
    · omega
  have hja : both ≠ 0 → pa = (both, []) := fun h => by
    rw [← hpa, joinR_bad (by rw [hbad, hbadm, hboth]; exact h), hbad, hbadm, hboth]
  have hjb : both ≠ 0 → pb = (both, []) := fun h => by
    rw [← hpb, insertR_bad (by rw [hbad, hbadm, hboth]; exact h), hbad, hbadm, hboth]
  have hjc : bad ≠ 0 → pc = (bad, [], []) := fun h => by
    rw [← hpc, removeR_bad (by rw [hbad]; exact h), hbad]
  have HPA := Lib.hid hpa
  have HPB := Lib.hid hpb
  have HPC := Lib.hid hpc
  have HV := Lib.hid (fun W (hR : Rd W A l) => refValid_any A l c W hR (by omega))
  have HVM := Lib.hid (fun W (hR : Rd W A' more) => refValid_any A' more c' W hR (by omega))
  rw [hbad] at HV
  rw [hbadm] at HVM
  have HC1 := Lib.hid (fun W (hR : Rd W A l) (hR' : Rd W A' more) => Join_any A l c A' more c' W hR (by omega) hR' (by omega))
  have HC2 := Lib.hid (fun W (hR : Rd W A l) (hR' : Rd W A' more) => Insert_any A l c page A' more c' W hR (by omega) hR' (by omega))
  have HC3 := Lib.hid (fun W (hR : Rd W A l) => Remove_any A l c page many W hR (by omega))
  have HWO := Lib.hid (fun W n (hR : RdE W (some ⟨n, 0, none⟩) [bad, badm]) => worst_two (c := 2) bad badm hR rfl)
  rw [hpa] at HC1
  rw [hpb] at HC2
  rw [hpc] at HC3
  rw [hboth] at HWO
  obtain ⟨eA, a⟩ := pa
  obtain ⟨eB, b⟩ := pb
  obtain ⟨eC, cc, out⟩ := pc
  simp only [Prod.mk.injEq] at hja hjb hjc
  have HBZ := Lib.hid hbz
  have HJA := Lib.hid hja
  have HJB := Lib.hid hjb
  have HJC := Lib.hid hjc
  clear HS hs ks hR hR' hbad hbadm hpa hpb hpc hboth hbz hja hjb hjc
  go_enter Try.func8, Try.ntmps8
  go_wp2_with fail
  refine H.out.mono ?_; rintro e w1 ⟨rfl, rfl⟩; clear H
  go_wp2_with fail
  refine (HV.out _ (hst.get (A := A) (l := l) (by simp))).mono ?_; rintro e w2 ⟨rfl, hB⟩; replace hst := hst.next hB; clear hB
  go_wp2_with fail
  refine (HVM.out _ (hst.get (A := A') (l := more) (by simp))).mono ?_; rintro e w3 ⟨rfl, hB⟩; replace hst := hst.next hB; clear hB
  go_wp2_with fail
  replace hst := hst.alloc (.cells #[.int .i64 bad, .int .i64 badm] 26)
  refine (HWO.out _ _ (RdE.lit w3 [bad, badm] 26)).mono ?_; rintro e w4 ⟨rfl, rfl⟩
  go_wp2_with fail
  refine (HC1.out _ (hst.get (A := A) (l := l) (by simp)) (hst.get (A := A') (l := more) (by simp))).mono ?_; rintro e w5 ⟨Aa, ca, rfl, ra, hB⟩; replace hst := (hst.next hB).push ra; clear hB ra
  go_wp2_with fail
  refine (HC2.out _ (hst.get (A := A) (l := l) (by simp)) (hst.get (A := A') (l := more) (by simp))).mono ?_; rintro e w6 ⟨Ab, cb, rfl, rb, hB⟩; replace hst := (hst.next hB).push rb; clear hB rb
  go_wp2_with fail
  refine (HC3.out _ (hst.get (A := A) (l := l) (by simp))).mono ?_; rintro e w7 ⟨Ac, c3, Aw, c4, rfl, rc, ro, hB⟩; replace hst := ((hst.next hB).push rc).push ro; clear hB rc ro
  simp only at hst
  clear HV HVM HC1 HC2 HC3 HWO
  go_upto_if 61 with fail
  go_cut [18] (fun s18 wc => ∃ n : Int, s18 = .int .i64 n ∧ Hid (bad = 0 → n = sumR l) ∧ St w wc [(Aw, out), (Ac, cc), (Ab, b), (Aa, a), (A, l), (A', more)] [])
  case first =>
    as_aux_lemma =>
      by_cases h0 : bad = 0
      · have hd : (bad == 0) = true := by simp [h0]
        have Gl := Gd.of_must (HB.out.trans h0)
        clear h0
        go_wp2_with fail
        refine (RSize (hst.get (A := A) (l := l) (by simp)) rfl Gl (by omega)).mono ?_
        rintro e w8 ⟨rfl, hB⟩
        replace hst := hst.next hB
        clear hB
        go_wp2_with fail
        go_meet
        exact ⟨sumR l, rfl, Lib.hid fun _ => rfl, hst⟩
      · have hd : (bad == 0) = false := by simp [h0]
        have H0 := Lib.hid h0
        clear h0
        go_wp2_with fail
        go_meet
        exact ⟨0, rfl, Lib.hid (fun h => absurd h H0.out), hst⟩
  case rest =>
    clear hst
    obtain ⟨n, rfl, HN, hst⟩ := hcut
    go_upto_if 71 with fail
    go_cut [19, 23] (fun s19 s23 wz => ∃ (AX : Option Addr) (cX : Nat) (x : List R), s19 = .slice AX x.length cX ∧ s23 = .int .i64 eA ∧ Hid (Want1 (eA, a) x) ∧ St w wz ((AX, x) :: [(Aw, out), (Ac, cc), (Ab, b), (Aa, a), (A, l), (A', more)]) [])
    case first =>
      as_aux_lemma =>
        by_cases h0 : both = 0
        · have hd : (both == 0) = true := by simp [h0]
          obtain ⟨hm0, hm1⟩ := HBZ.out h0
          have hgd := joinX_gd hm0 hm1
          have Gl := Gd.of_must hm0
          have Gm := Gd.of_must hm1
          have HP1 := Lib.hid (fun hf => (joinR_ok hm0 hm1 hf).symm.trans HPA.out)
          have HP2 := Lib.hid (fun hf => (joinR_no hm0 hm1 hf).symm.trans HPA.out)
          clear h0 hm0 hm1
          go_wp2_with fail
          refine (RJoin (hst.get (A := A) (l := l) (by simp)) (hst.get (A := A') (l := more) (by simp)) rfl rfl Gl Gm (by omega) (by omega)).mono ?_
          rw [show norm (l ++ more) = joinX l more from rfl]
          rintro e w8 ⟨AX, cX, rfl, hN, hB⟩
          have hst2 := (St.next hst hB).push hN.1
          go_wp2_with fail
          refine (lawFits_any (hst2.get (A := AX) (l := joinX l more) (by simp)) rfl hgd (by omega)).mono ?_
          rintro e w9 ⟨rfl, hB9⟩
          have hst3 := hst2.next hB9
          clear hst hst2 hN hB hB9
          have hxl := hgd.len
          by_cases hf : fitsE (joinX l more) = 0
          · have h1 := HP1.out hf
            simp only [Prod.mk.injEq] at h1
            obtain ⟨rfl, rfl⟩ := h1
            rw [hf]
            go_wp2_with fail
            go_meet
            exact ⟨AX, cX, _, rfl, rfl, Lib.hid ⟨fun _ => rfl, fun h => absurd rfl h, by omega⟩, hst3⟩
          · have h1 := HP2.out hf
            simp only [Prod.mk.injEq] at h1
            obtain ⟨rfl, rfl⟩ := h1
            rw [fitsE_two hf]
            go_wp2_with fail
            go_meet
            exact ⟨AX, cX, _, rfl, rfl, Lib.hid ⟨fun h => by simp at h, fun _ => rfl, by omega⟩, hst3⟩
        · have hd : (both == 0) = false := by simp [h0]
          obtain ⟨e1, e2⟩ := HJA.out h0
          subst e2
          have H0 := Lib.hid h0
          have E1 := Lib.hid e1
          clear h0 e1
          go_wp2_with fail
          go_meet
          exact ⟨none, 0, [], rfl, by rw [E1.out], Lib.hid ⟨fun _ => rfl, fun _ => rfl, by simp⟩, hst.push (Rd.nil _ _)⟩
    case rest =>
      clear hst
      obtain ⟨AX, cX, x, rfl, rfl, HWA, hst⟩ := hcut
      go_upto_region 16 with fail
      go_cut [87] (fun s87 wz => ∃ B : Bool, s87 = .bool B ∧ Hid ((B = true → both = 0 ∧ ¬ (0 ≤ page ∧ page ≤ sumR l)) ∧ (B = false → both ≠ 0 ∨ (0 ≤ page ∧ page ≤ sumR l))) ∧ St w wz ((AX, x) :: [(Aw, out), (Ac, cc), (Ab, b), (Aa, a), (A, l), (A', more)]) [])
      case first =>
        as_aux_lemma =>
          by_cases h0 : both = 0
          · have hd : (both == 0) = true := by simp [h0]
            have hm0 := (HBZ.out h0).1
            have hn := HN.out (HB.out.symm.trans hm0)
            have hl0 := pages_nonneg hm0
            have hl1 := (mustE_zero hm0).2.2
            have hn0 : 0 ≤ n := by omega
            have hn1 : n ≤ 1073741824 := by omega
            have HNN := Lib.hid hn
            clear hn hm0
            have H0 := Lib.hid h0
            clear h0
            by_cases q1 : page < 0
            · go_wp2_with fail
              go_meet
              exact ⟨true, rfl, Lib.hid ⟨fun _ => ⟨H0.out, by have := HNN.out; omega⟩, fun h => by cases h⟩, hst⟩
            · by_cases q2 : n < page
              · go_wp2_with fail
                go_meet
                exact ⟨true, rfl, Lib.hid ⟨fun _ => ⟨H0.out, by have := HNN.out; omega⟩, fun h => by cases h⟩, hst⟩
              · go_wp2_with fail
                go_meet
                exact ⟨false, rfl, Lib.hid ⟨fun h => (by cases h), fun _ => .inr (by have := HNN.out; omega)⟩, hst⟩
          · have hd : (both == 0) = false := by simp [h0]
            have H0 := Lib.hid h0
            clear h0
            go_wp2_with fail
            go_meet
            exact ⟨false, rfl, Lib.hid ⟨fun h => (by cases h), fun _ => .inl H0.out⟩, hst⟩
      case rest =>
        clear hst
        obtain ⟨B, rfl, HBR, hst⟩ := hcut
        go_upto_if 87 with fail
        go_cut [24] (fun s24 wz => ∃ eV : Int, s24 = .int .i64 eV ∧ Hid ((eV = 0 → (mustE l = 0 ∧ mustE more = 0) ∧ (0 ≤ page ∧ page ≤ sumR l)) ∧ (eV ≠ 0 → eV = eB ∧ b = [])) ∧ St w wz ((AX, x) :: [(Aw, out), (Ac, cc), (Ab, b), (Aa, a), (A, l), (A', more)]) [])
        case first =>
          as_aux_lemma =>
            cases B with
            | true =>
              go_wp2_with fail
              go_meet
              exact ⟨24, rfl, Lib.hid ⟨fun h => (by simp at h), fun _ => by
                have h1 := HPB.out
                have h2 := HBR.out.1 (by simp)
                have h3 := HBZ.out h2.1
                rw [insertR_range h3.1 h3.2 h2.2] at h1
                simp only [Prod.mk.injEq] at h1
                exact ⟨h1.1, h1.2.symm⟩⟩, hst⟩
            | false =>
              go_wp2_with fail
              go_meet
              exact ⟨both, rfl, Lib.hid ⟨fun h => ⟨HBZ.out h, (HBR.out.2 (by simp)).resolve_left (fun hn => hn h)⟩, fun h => ⟨(HJB.out h).1.symm, (HJB.out h).2⟩⟩, hst⟩
        case rest =>
          clear hst
          clear HBR
          obtain ⟨eV, rfl, HV2, hst⟩ := hcut
          go_upto_if 89 with fail
          go_cut [20, 24] (fun s20 s24 wz => ∃ (AY : Option Addr) (cY : Nat) (y : List R), s20 = .slice AY y.length cY ∧ s24 = .int .i64 eB ∧ Hid (Want1 (eB, b) y) ∧ St w wz ((AY, y) :: (AX, x) :: [(Aw, out), (Ac, cc), (Ab, b), (Aa, a), (A, l), (A', more)]) [])
          case first =>
            as_aux_lemma =>
              by_cases h0 : eV = 0
              · have hd : (eV == 0) = true := by simp [h0]
                obtain ⟨⟨hm0, hm1⟩, hp⟩ := HV2.out.1 h0
                have hgd := insertX_gd (page := page) hm0 hm1
                have hX := refInsert_eq (page := page) hm0 hm1 hp.1
                have HX := Lib.hid hX
                have G0 := Gd.part hm0 0 page
                have G2 := Gd.part hm0 page (page + 1073741824)
                have Gm := Gd.of_must hm1
                have GI := (Gm.append G2 (by omega)).norm_
                have HM0 := Lib.hid hm0
                have hl1 := (mustE_zero hm0).2.2
                have HP1 := Lib.hid (fun hf => (insertR_ok hm0 hm1 hp hf).symm.trans HPB.out)
                have HP2 := Lib.hid (fun hf => (insertR_no hm0 hm1 hp hf).symm.trans HPB.out)
                obtain ⟨hp1, hp2⟩ := hp
                clear h0 hm0 hm1 hX
                go_wp2_with fail
                refine (RPart A l c 0 page _ rfl (hst.get (A := A) (l := l) (by simp)) HM0.out (by omega) (by omega)).mono ?_
                rw [Int.zero_add]
                rintro e w8 ⟨A1, c1, rfl, hN, hB⟩
                have hst1 := (St.next hst hB).push hN.1
                clear hN hB hst
                go_wp2_with fail
                refine (RPart A l c page 1073741824 _ rfl (hst1.get (A := A) (l := l) (by simp)) HM0.out (by omega) (by omega)).mono ?_
                rintro e w9 ⟨A2, c2, rfl, hN, hB⟩
                have hst2 := (St.next hst1 hB).push hN.1
                clear hN hB hst1
                go_wp2_with fail
                refine (RJoin (hst2.get (A := A') (l := more) (by simp)) (hst2.get (A := A2) (l := partR l page (page + 1073741824)) (by simp)) rfl rfl Gm G2 (by omega) (by omega)).mono ?_
                rintro e w10 ⟨A3, c3', rfl, hN, hB⟩
                have hst3 := (St.next hst2 hB).push hN.1
                clear hN hB hst2
                go_wp2_with fail
                refine (RJoin (hst3.get (A := A1) (l := partR l 0 page) (by simp)) (hst3.get (A := A3) (l := norm (more ++ partR l page (page + 1073741824))) (by simp)) rfl rfl G0 GI (by omega) (by omega)).mono ?_
                rw [HX.out]
                rintro e w11 ⟨AY, cY, rfl, hN, hB⟩
                have hst4 := (St.next hst3 hB).push hN.1
                clear hN hB
                go_wp2_with fail
                refine (lawFits_any (hst4.get (A := AY) (l := insertX l page more) (by simp)) rfl hgd (by omega)).mono ?_
                rintro e w12 ⟨rfl, hB9⟩
                have hst5 := hst4.next hB9
                clear hst3 hst4 hB9
                have hxl := hgd.len
                replace hst5 := ((hst5.skip).skip).skip
                by_cases hf : fitsE (insertX l page more) = 0
                · have h1 := HP1.out hf
                  simp only [Prod.mk.injEq] at h1
                  obtain ⟨rfl, rfl⟩ := h1
                  rw [hf]
                  go_wp2_with fail
                  go_meet
                  exact ⟨AY, cY, _, rfl, rfl, Lib.hid ⟨fun _ => rfl, fun h => absurd rfl h, by omega⟩, hst5⟩
                · have h1 := HP2.out hf
                  simp only [Prod.mk.injEq] at h1
                  obtain ⟨rfl, rfl⟩ := h1
                  rw [fitsE_two hf]
                  go_wp2_with fail
                  go_meet
                  exact ⟨AY, cY, _, rfl, rfl, Lib.hid ⟨fun h => by simp at h, fun _ => rfl, by omega⟩, hst5⟩
              · have hd : (eV == 0) = false := by simp [h0]
                obtain ⟨rfl, rfl⟩ := HV2.out.2 h0
                have H0 := Lib.hid h0
                clear h0
                go_wp2_with fail
                go_meet
                exact ⟨none, 0, [], rfl, rfl, Lib.hid ⟨fun _ => rfl, fun _ => rfl, by simp⟩, hst.push (Rd.nil _ _)⟩
          case rest =>
            clear hst
            clear HV2
            obtain ⟨AY, cY, y, rfl, rfl, HWB, hst⟩ := hcut
            go_upto_region 21 with fail
            go_cut [122] (fun s122 wz => ∃ B : Bool, s122 = .bool B ∧ Hid ((B = true → bad = 0 ∧ ¬ inR l page many) ∧ (B = false → bad ≠ 0 ∨ inR l page many)) ∧ St w wz ((AY, y) :: (AX, x) :: [(Aw, out), (Ac, cc), (Ab, b), (Aa, a), (A, l), (A', more)]) [])
            case first =>
              as_aux_lemma =>
                by_cases h0 : bad = 0
                · have hd : (bad == 0) = true := by simp [h0]
                  have hm0 := HB.out.trans h0
                  have hn := HN.out h0
                  have hl0 := pages_nonneg hm0
                  have hl1 := (mustE_zero hm0).2.2
                  have hn0 : 0 ≤ n := by omega
                  have hn1 : n ≤ 1073741824 := by omega
                  have HNN := Lib.hid hn
                  obtain ⟨pp1, pp2⟩ := hpg
                  obtain ⟨mm1, mm2⟩ := hmn
                  clear hn hm0
                  have H0 := Lib.hid h0
                  clear h0
                  by_cases q1 : page < 0
                  · go_wp2_with fail
                    go_meet
                    exact ⟨true, rfl, Lib.hid ⟨fun _ => ⟨H0.out, by have := HNN.out; unfold inR; omega⟩, fun h => by cases h⟩, hst⟩
                  · by_cases q2 : many < 0
                    · go_wp2_with fail
                      go_meet
                      exact ⟨true, rfl, Lib.hid ⟨fun _ => ⟨H0.out, by have := HNN.out; unfold inR; omega⟩, fun h => by cases h⟩, hst⟩
                    · by_cases q3 : n < page
                      · go_wp2_with fail
                        go_meet
                        exact ⟨true, rfl, Lib.hid ⟨fun _ => ⟨H0.out, by have := HNN.out; unfold inR; omega⟩, fun h => by cases h⟩, hst⟩
                      · by_cases q4 : n - page < many
                        · go_wp2_with fail
                          go_meet
                          exact ⟨true, rfl, Lib.hid ⟨fun _ => ⟨H0.out, by have := HNN.out; unfold inR; omega⟩, fun h => by cases h⟩, hst⟩
                        · go_wp2_with fail
                          go_meet
                          exact ⟨false, rfl, Lib.hid ⟨fun h => (by cases h), fun _ => .inr (by have := HNN.out; unfold inR; omega)⟩, hst⟩
                · have hd : (bad == 0) = false := by simp [h0]
                  have H0 := Lib.hid h0
                  clear h0
                  go_wp2_with fail
                  go_meet
                  exact ⟨false, rfl, Lib.hid ⟨fun h => (by cases h), fun _ => .inl H0.out⟩, hst⟩
            case rest =>
              clear hst
              obtain ⟨B, rfl, HBR, hst⟩ := hcut
              go_upto_if 122 with fail
              go_cut [25] (fun s25 wz => ∃ eU : Int, s25 = .int .i64 eU ∧ Hid ((eU = 0 → mustE l = 0 ∧ inR l page many) ∧ (eU ≠ 0 → eU = eC ∧ cc = [] ∧ out = [])) ∧ St w wz ((AY, y) :: (AX, x) :: [(Aw, out), (Ac, cc), (Ab, b), (Aa, a), (A, l), (A', more)]) [])
              case first =>
                as_aux_lemma =>
                  cases B with
                  | true =>
                    go_wp2_with fail
                    go_meet
                    exact ⟨24, rfl, Lib.hid ⟨fun h => (by simp at h), fun _ => by
                      have h1 := HPC.out
                      have h2 := HBR.out.1 (by simp)
                      rw [removeR_range (HB.out.trans h2.1) h2.2] at h1
                      simp only [Prod.mk.injEq] at h1
                      exact ⟨h1.1, h1.2.1.symm, h1.2.2.symm⟩⟩, hst⟩
                  | false =>
                    go_wp2_with fail
                    go_meet
                    exact ⟨bad, rfl, Lib.hid ⟨fun h => ⟨HB.out.trans h, (HBR.out.2 (by simp)).resolve_left (fun hn => hn h)⟩, fun h => ⟨(HJC.out h).1.symm, (HJC.out h).2.1, (HJC.out h).2.2⟩⟩, hst⟩
              case rest =>
                clear hst
                clear HBR
                obtain ⟨eU, rfl, HV3, hst⟩ := hcut
                go_upto_if 124 with fail
                go_cut [21, 22, 25] (fun s21 s22 s25 wz => ∃ (AZ AW : Option Addr) (cZ cW : Nat), s21 = .slice AZ cc.length cZ ∧ s22 = .slice AW out.length cW ∧ s25 = .int .i64 eC ∧ (cc.length ≤ 1048576 ∧ out.length ≤ 1048576) ∧ St w wz ((AW, out) :: (AZ, cc) :: (AY, y) :: (AX, x) :: [(Aw, out), (Ac, cc), (Ab, b), (Aa, a), (A, l), (A', more)]) [])
                case first =>
                  as_aux_lemma =>
                    by_cases h0 : eU = 0
                    · have hd : (eU == 0) = true := by simp [h0]
                      obtain ⟨hm0, hin⟩ := HV3.out.1 h0
                      have hgd := removeX_gd (page := page) (many := many) hm0
                      have hX := refRemove_eq (page := page) (many := many) hm0 (by obtain ⟨i1, i2, i3, i4⟩ := hin; omega)
                      have HX := Lib.hid hX
                      have G0 := Gd.part hm0 0 page
                      have G2 := Gd.part hm0 (page + many) (page + many + 1073741824)
                      have HM0 := Lib.hid hm0
                      have hl1 := (mustE_zero hm0).2.2
                      have hpl := partR_len l page (page + many)
                      have h1 := (removeR_ok hm0 (by have := HFM.out hm0; omega) hin).symm.trans HPC.out
                      simp only [Prod.mk.injEq] at h1
                      obtain ⟨e1, e2, e3⟩ := h1
                      subst e1 e2 e3
                      have H0 := Lib.hid h0
                      obtain ⟨i1, i2, i3, i4⟩ := hin
                      clear h0 hm0 hX
                      go_wp2_with fail
                      refine (RPart A l c 0 page _ rfl (hst.get (A := A) (l := l) (by simp)) HM0.out (by omega) (by omega)).mono ?_
                      rw [Int.zero_add]
                      rintro e w8 ⟨A1, c1, rfl, hN, hB⟩
                      have hst1 := (St.next hst hB).push hN.1
                      clear hN hB hst
                      go_wp2_with fail
                      refine (RPart A l c (page + many) 1073741824 _ rfl (hst1.get (A := A) (l := l) (by simp)) HM0.out (by omega) (by omega)).mono ?_
                      rintro e w9 ⟨A2, c2, rfl, hN, hB⟩
                      have hst2 := (St.next hst1 hB).push hN.1
                      clear hN hB hst1
                      go_wp2_with fail
                      refine (RJoin (hst2.get (A := A1) (l := partR l 0 page) (by simp)) (hst2.get (A := A2) (l := partR l (page + many) (page + many + 1073741824)) (by simp)) rfl rfl G0 G2 (by omega) (by omega)).mono ?_
                      rw [HX.out]
                      rintro e w10 ⟨AZ, cZ, rfl, hN, hB⟩
                      have hst3 := (St.next hst2 hB).push hN.1
                      clear hN hB hst2
                      go_wp2_with fail
                      refine (RPart A l c page many _ rfl (hst3.get (A := A) (l := l) (by simp)) HM0.out (by omega) (by omega)).mono ?_
                      rintro e w11 ⟨AW, cW, rfl, hN, hB⟩
                      have hst5 := (St.next hst3 hB).push hN.1
                      clear hN hB hst3
                      have hxl := hgd.len
                      replace hst5 := (hst5.skip2).skip2
                      rw [H0.out]
                      go_wp2_with fail
                      go_meet
                      exact ⟨AZ, AW, cZ, cW, rfl, rfl, rfl, ⟨by omega, by omega⟩, hst5⟩
                    · have hd : (eU == 0) = false := by simp [h0]
                      obtain ⟨e1, e2, e3⟩ := HV3.out.2 h0
                      subst e1 e2 e3
                      have H0 := Lib.hid h0
                      clear h0
                      go_wp2_with fail
                      go_meet
                      exact ⟨none, none, 0, 0, rfl, rfl, rfl, ⟨by simp, by simp⟩, (hst.push (Rd.nil _ _)).push (Rd.nil _ _)⟩
                case rest =>
                  clear hst
                  clear HV3
                  obtain ⟨AZ, AW, cZ, cW, rfl, rfl, rfl, hlz, hst⟩ := hcut
                  obtain ⟨l1, l2⟩ := hlz
                  have la := HWA.out.2.2
                  have lb := HWB.out.2.2
                  clear HB HBM HPA HPB HPC HBZ HJA HJB HJC HN HFM
                  by_cases ha : eA = 0
                  · have hda : (eA != 0) = false := by simp [ha]
                    obtain rfl := HWA.out.1 ha
                    clear ha HWA
                    by_cases hb : eB = 0
                    · have hdb : (eB != 0) = false := by simp [hb]
                      obtain rfl := HWB.out.1 hb
                      clear hb HWB
                      as_aux_lemma =>
                        go_wp2_with fail
                        refine (sanity_any _).mono ?_; rintro e wq ⟨rfl, hB⟩; replace hst := hst.next hB; clear hB
                        go_wp2_with fail
                        refine (Same0 x (hst.get (A := Aa) (l := x) (by simp)) (hst.get (A := AX) (l := x) (by simp)) rfl rfl (by omega)).mono ?_; rintro e wq ⟨rfl, hB⟩; replace hst := hst.next hB; clear hB
                        go_wp2_with fail
                        refine (Same0 y (hst.get (A := Ab) (l := y) (by simp)) (hst.get (A := AY) (l := y) (by simp)) rfl rfl (by omega)).mono ?_; rintro e wq ⟨rfl, hB⟩; replace hst := hst.next hB; clear hB
                        go_wp2_with fail
                        refine (Same0 cc (hst.get (A := Ac) (l := cc) (by simp)) (hst.get (A := AZ) (l := cc) (by simp)) rfl rfl (by omega)).mono ?_; rintro e wq ⟨rfl, hB⟩; replace hst := hst.next hB; clear hB
                        go_wp2_with fail
                        refine (Same0 out (hst.get (A := Aw) (l := out) (by simp)) (hst.get (A := AW) (l := out) (by simp)) rfl rfl (by omega)).mono ?_; rintro e wq ⟨rfl, hB⟩; replace hst := hst.next hB; clear hB
                        go_wp2_with fail
                        go_ret
                        exact ⟨rfl, hst.below⟩
                    · have hdb : (eB != 0) = true := by simp [hb]
                      obtain rfl := HWB.out.2.1 hb
                      clear hb HWB
                      replace hst := hst.push (Rd.nil _ none)
                      as_aux_lemma =>
                        go_wp2_with fail
                        refine (sanity_any _).mono ?_; rintro e wq ⟨rfl, hB⟩; replace hst := hst.next hB; clear hB
                        go_wp2_with fail
                        refine (Same0 x (hst.get (A := Aa) (l := x) (by simp)) (hst.get (A := AX) (l := x) (by simp)) rfl rfl (by omega)).mono ?_; rintro e wq ⟨rfl, hB⟩; replace hst := hst.next hB; clear hB
                        go_wp2_with fail
                        refine (Same0 [] (hst.get (A := Ab) (l := []) (by simp)) (hst.get (A := none) (l := []) (by simp)) rfl rfl (by simp)).mono ?_; rintro e wq ⟨rfl, hB⟩; replace hst := hst.next hB; clear hB
                        go_wp2_with fail
                        refine (Same0 cc (hst.get (A := Ac) (l := cc) (by simp)) (hst.get (A := AZ) (l := cc) (by simp)) rfl rfl (by omega)).mono ?_; rintro e wq ⟨rfl, hB⟩; replace hst := hst.next hB; clear hB
                        go_wp2_with fail
                        refine (Same0 out (hst.get (A := Aw) (l := out) (by simp)) (hst.get (A := AW) (l := out) (by simp)) rfl rfl (by omega)).mono ?_; rintro e wq ⟨rfl, hB⟩; replace hst := hst.next hB; clear hB
                        go_wp2_with fail
                        go_ret
                        exact ⟨rfl, hst.below⟩
                  · have hda : (eA != 0) = true := by simp [ha]
                    obtain rfl := HWA.out.2.1 ha
                    clear ha HWA
                    replace hst := hst.push (Rd.nil _ none)
                    by_cases hb : eB = 0
                    · have hdb : (eB != 0) = false := by simp [hb]
                      obtain rfl := HWB.out.1 hb
                      clear hb HWB
                      as_aux_lemma =>
                        go_wp2_with fail
                        refine (sanity_any _).mono ?_; rintro e wq ⟨rfl, hB⟩; replace hst := hst.next hB; clear hB
                        go_wp2_with fail
                        refine (Same0 [] (hst.get (A := Aa) (l := []) (by simp)) (hst.get (A := none) (l := []) (by simp)) rfl rfl (by simp)).mono ?_; rintro e wq ⟨rfl, hB⟩; replace hst := hst.next hB; clear hB
                        go_wp2_with fail
                        refine (Same0 y (hst.get (A := Ab) (l := y) (by simp)) (hst.get (A := AY) (l := y) (by simp)) rfl rfl (by omega)).mono ?_; rintro e wq ⟨rfl, hB⟩; replace hst := hst.next hB; clear hB
                        go_wp2_with fail
                        refine (Same0 cc (hst.get (A := Ac) (l := cc) (by simp)) (hst.get (A := AZ) (l := cc) (by simp)) rfl rfl (by omega)).mono ?_; rintro e wq ⟨rfl, hB⟩; replace hst := hst.next hB; clear hB
                        go_wp2_with fail
                        refine (Same0 out (hst.get (A := Aw) (l := out) (by simp)) (hst.get (A := AW) (l := out) (by simp)) rfl rfl (by omega)).mono ?_; rintro e wq ⟨rfl, hB⟩; replace hst := hst.next hB; clear hB
                        go_wp2_with fail
                        go_ret
                        exact ⟨rfl, hst.below⟩
                    · have hdb : (eB != 0) = true := by simp [hb]
                      obtain rfl := HWB.out.2.1 hb
                      clear hb HWB
                      replace hst := hst.push (Rd.nil _ none)
                      as_aux_lemma =>
                        go_wp2_with fail
                        refine (sanity_any _).mono ?_; rintro e wq ⟨rfl, hB⟩; replace hst := hst.next hB; clear hB
                        go_wp2_with fail
                        refine (Same0 [] (hst.get (A := Aa) (l := []) (by simp)) (hst.get (A := none) (l := []) (by simp)) rfl rfl (by simp)).mono ?_; rintro e wq ⟨rfl, hB⟩; replace hst := hst.next hB; clear hB
                        go_wp2_with fail
                        refine (Same0 [] (hst.get (A := Ab) (l := []) (by simp)) (hst.get (A := none) (l := []) (by simp)) rfl rfl (by simp)).mono ?_; rintro e wq ⟨rfl, hB⟩; replace hst := hst.next hB; clear hB
                        go_wp2_with fail
                        refine (Same0 cc (hst.get (A := Ac) (l := cc) (by simp)) (hst.get (A := AZ) (l := cc) (by simp)) rfl rfl (by omega)).mono ?_; rintro e wq ⟨rfl, hB⟩; replace hst := hst.next hB; clear hB
                        go_wp2_with fail
                        refine (Same0 out (hst.get (A := Aw) (l := out) (by simp)) (hst.get (A := AW) (l := out) (by simp)) rfl rfl (by omega)).mono ?_; rintro e wq ⟨rfl, hB⟩; replace hst := hst.next hB; clear hB
                        go_wp2_with fail
                        go_ret
                        exact ⟨rfl, hst.below⟩
set_option maxRecDepth 100000 in
set_option maxHeartbeats 16000000 in
theorem RunsEdits_not (A : Option Addr) (l : List R) (c : Nat) (A' : Option Addr) (more : List R) (c' : Nat) (page many : Int) (w : World) (hR : Rd w A l) (hR' : Rd w A' more) (hs : (fewB l && fewB more) = false) :
    Calls Try.prog 8 #[.slice A l.length c, .slice A' more.length c', .int .i64 page, .int .i64 many] w fun e w' => e = .returned (.bool true) ∧ Below w.heap.size w w' := by
  have HS := few_any (some ⟨w.heap.size, 0, none⟩) [(.slice A l.length c, l), (.slice A' more.length c', more)] 2 (w.alloc (.cells #[.slice A l.length c, .slice A' more.length c'] 22)) (RdS.lit2 w A l c A' more c' 22 (fun _ => hR) (fun _ => hR')) (by simp)
  rw [fews2, hs] at HS
  have H := Lib.hid HS
  have hst := (St.start w).alloc (.cells #[.slice A l.length c, .slice A' more.length c'] 22)
  clear HS hs hR hR'
  go_enter Try.func8, Try.ntmps8
  go_wp2_with fail
  refine H.out.mono ?_; rintro e w1 ⟨rfl, rfl⟩
  go_wp2_with fail
  refine (sanity_any _).mono ?_; rintro e w2 ⟨rfl, hB⟩; replace hst := hst.next hB; clear hB
  go_wp2_with fail
  go_ret
  exact ⟨rfl, hst.below⟩
theorem RunsEdits_walk (A : Option Addr) (l : List R) (c : Nat) (A' : Option Addr) (more : List R) (c' : Nat) (page many : Int) (w : World) (hR : Rd w A l) (hR' : Rd w A' more) (hp : (Lit.int .i64 page).wf = true) (hm : (Lit.int .i64 many).wf = true) :
    Calls Try.prog 8 #[.slice A l.length c, .slice A' more.length c', .int .i64 page, .int .i64 many] w fun e w' => e = .returned (.bool true) ∧ Below w.heap.size w w' := by
  by_cases h : fewB l = true
  · by_cases k : fewB more = true
    · exact RunsEdits_yes A l c A' more c' page many w hR hR' h k (wf_bd hp) (wf_bd hm)
    · exact RunsEdits_not A l c A' more c' page many w hR hR' (by simp [k])
  · exact RunsEdits_not A l c A' more c' page many w hR hR' (by simp [h])
end Go.Proofs.Ytjdkdogiaokhjaa
