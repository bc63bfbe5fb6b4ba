/- Runs: the law RunsMaps, walked. -/
import Derived.Test.YtjdkdogiaokhjaaTq
namespace Go.Proofs.Ytjdkdogiaokhjaa
open Go.RowKit Go.Proofs
set_option linter.unusedSimpArgs false
set_option linter.unusedVariables false

set_option maxRecDepth 100000 in
set_option maxHeartbeats 8000000 in
theorem RunsMaps_yes (A : Option Addr) (l : List R) (c : Nat) (page tv : Int) (w : World) (hR : Rd w A l) (hs : fewB l = true) (hpg : -9223372036854775808 ≤ page ∧ page ≤ 9223372036854775807) (htv : -9223372036854775808 ≤ tv ∧ tv ≤ 9223372036854775807) :
    Calls Try.prog 7 #[.slice A l.length c, .int .i64 page, .int .i64 tv] w fun e w' => e = .returned (.bool true) ∧ Below w.heap.size w w' := by
  have HS := few_any (some ⟨w.heap.size, 0, none⟩) [(.slice A l.length c, l)] 1 (w.alloc (.cells #[.slice A l.length c] 22)) (RdS.lit1 w A l c 22 (fun _ => hR)) (by simp)
  rw [fews1, hs] at HS
  have H := Lib.hid HS
  have hst := ((St.start w).push hR).alloc (.cells #[.slice A l.length c] 22)
  have hl := few_len hs
  obtain ⟨bad, hbad⟩ : ∃ x, mustE l = x := ⟨_, rfl⟩
  obtain ⟨pa, hpa⟩ : ∃ x, mapR l page = x := ⟨_, rfl⟩
  obtain ⟨pb, hpb⟩ : ∃ x, whereR l tv = x := ⟨_, rfl⟩
  obtain ⟨pc, hpc⟩ : ∃ x, cutR l page = x := ⟨_, rfl⟩
  have HB := Lib.hid hbad
  have HPA := Lib.hid hpa
  have HPB := Lib.hid hpb
  have HPC := Lib.hid hpc
  have HV := Lib.hid (fun W (hR : Rd W A l) => refValid_any A l c W hR (by omega))
  rw [hbad] at HV
  have HC1 := Lib.hid (fun W (hR : Rd W A l) => Map_any A l c page W hR (by omega))
  have HC2 := Lib.hid (fun W (hR : Rd W A l) => Where_any A l c tv W hR (by omega))
  have HC3 := Lib.hid (fun W (hR : Rd W A l) => Cut_any A l c page W hR (by omega))
  rw [hpa] at HC1
  rw [hpb] at HC2
  rw [hpc] at HC3
  obtain ⟨eA, at_, many⟩ := pa
  obtain ⟨eB, ws⟩ := pb
  obtain ⟨eC, a, b⟩ := pc
  have hwl : ws.length ≤ 2005 := by
    rw [whereR] at hpb
    split at hpb
    · cases hpb; simp
    · split at hpb
      · cases hpb; have := whereG_len tv l 0; omega
      · cases hpb; simp
  clear HS hs hR hbad hpa hpb hpc
  go_enter Try.func7, Try.ntmps7
  go_wp2_with fail
  refine H.out.mono ?_; rintro e w1 ⟨rfl, rfl⟩; clear H
  go_wp2_with fail
  refine (HV.out _ (hst.get (A := A) (l := l) (by simp))).mono ?_; rintro e w2 ⟨rfl, hB⟩; replace hst := hst.next hB; clear hB
  go_wp2_with fail
  refine (HC1.out _ (hst.get (A := A) (l := l) (by simp))).mono ?_; rintro e w3 ⟨rfl, hB⟩; replace hst := hst.next hB; clear hB
  go_wp2_with fail
  refine (HC2.out _ (hst.get (A := A) (l := l) (by simp))).mono ?_; rintro e w4 ⟨Aw, cw, rfl, hI, hB⟩; replace hst := hst.next hB; clear hB
  go_wp2_with fail
  refine (HC3.out _ (hst.get (A := A) (l := l) (by simp))).mono ?_; rintro e w5 ⟨Aa, ca, Ab, cb, rfl, ra, rb, hB⟩; replace hst := ((hst.next hB).push ra).push rb; replace hI := hI.below hB; clear hB ra rb
  simp only at hst hI
  clear HV HC1 HC2 HC3
  go_upto_if 52 with fail
  go_cut [16] (fun s16 wc => ∃ n : Int, s16 = .int .i64 n ∧ Hid (bad = 0 → n = sumR l) ∧ St w wc [(Ab, b), (Aa, a), (A, l)] [] ∧ RdI wc Aw ws)
  case first =>
    as_aux_lemma =>
      by_cases h0 : bad = 0
      · have hd : (bad == 0) = true := by simp [h0]
        have Gl := Gd.of_must (HB.out.trans h0)
        clear h0
        go_wp2_with fail
        refine (RSize (hst.get (A := A) (l := l) (by simp)) rfl Gl (by omega)).mono ?_
        rintro e w8 ⟨rfl, hB⟩
        replace hst := hst.next hB
        replace hI := hI.below hB
        clear hB
        go_wp2_with fail
        go_meet
        exact ⟨sumR l, rfl, Lib.hid fun _ => rfl, hst, hI⟩
      · have hd : (bad == 0) = false := by simp [h0]
        have H0 := Lib.hid h0
        clear h0
        go_wp2_with fail
        go_meet
        exact ⟨0, rfl, Lib.hid (fun h => absurd h H0.out), hst, hI⟩
  case rest =>
    clear hst hI
    obtain ⟨n, rfl, HN, hst, hI⟩ := hcut
    go_upto_region 11 with fail
    go_cut [69] (fun s69 wx => ∃ B : Bool, s69 = .bool B ∧ Hid ((B = true → bad = 0 ∧ ¬ (0 ≤ page ∧ page < sumR l)) ∧ (B = false → bad ≠ 0 ∨ (0 ≤ page ∧ page < sumR l))) ∧ St w wx [(Ab, b), (Aa, a), (A, l)] [] ∧ RdI wx Aw ws)
    case first =>
      as_aux_lemma =>
        by_cases h0 : bad = 0
        · have hd : (bad == 0) = true := by simp [h0]
          have hn := HN.out h0
          have hl0 := pages_nonneg (HB.out.trans h0)
          have hl1 := (mustE_zero (HB.out.trans h0)).2.2
          have hn0 : 0 ≤ n := by omega
          have hn1 : n ≤ 1073741824 := by omega
          have HNN := Lib.hid hn
          have H0 := Lib.hid h0
          clear h0 hn
          obtain ⟨p1, p2⟩ := hpg
          by_cases q1 : page < 0
          · go_wp2_with fail
            go_meet
            exact ⟨true, rfl, Lib.hid ⟨fun _ => ⟨H0.out, fun hi => by omega⟩, fun h => by cases h⟩, hst, hI⟩
          · by_cases q2 : n ≤ page
            · go_wp2_with fail
              go_meet
              exact ⟨true, rfl, Lib.hid ⟨fun _ => ⟨H0.out, fun hi => by have := HNN.out; omega⟩, fun h => by cases h⟩, hst, hI⟩
            · go_wp2_with fail
              go_meet
              exact ⟨false, rfl, Lib.hid ⟨fun h => (by cases h), fun _ => .inr (by have := HNN.out; omega)⟩, hst, hI⟩
        · have hd : (bad == 0) = false := by simp [h0]
          have H0 := Lib.hid h0
          clear h0
          go_wp2_with fail
          go_meet
          exact ⟨false, rfl, Lib.hid ⟨fun h => (by cases h), fun _ => .inl H0.out⟩, hst, hI⟩
    case rest =>
      clear hst hI
      obtain ⟨B, rfl, HBR, hst, hI⟩ := hcut
      go_upto_if 69 with fail
      go_cut [17] (fun s17 wy => ∃ eW : Int, s17 = .int .i64 eW ∧ Hid ((eW = 0 → bad = 0 ∧ 0 ≤ page ∧ page < sumR l) ∧ (eW ≠ 0 → eW = eA ∧ at_ = 0 ∧ many = 0)) ∧ St w wy [(Ab, b), (Aa, a), (A, l)] [] ∧ RdI wy Aw ws)
      case first =>
        as_aux_lemma =>
          cases B with
          | true =>
            go_wp2_with fail
            go_meet
            exact ⟨24, rfl, Lib.hid ⟨fun h => by simp at h, fun _ => by
              have h1 := HPA.out
              rw [mapR_range (HB.out.trans (HBR.out.1 (by simp)).1) (HBR.out.1 (by simp)).2] at h1
              simp only [Prod.mk.injEq] at h1
              exact ⟨h1.1, h1.2.1.symm, h1.2.2.symm⟩⟩, hst, hI⟩
          | false =>
            go_wp2_with fail
            go_meet
            exact ⟨bad, rfl, Lib.hid ⟨fun h => ⟨h, (HBR.out.2 (by simp)).resolve_left (fun hn => hn h)⟩, fun hne => by
              have h1 := HPA.out
              rw [mapR_bad (by rw [HB.out]; exact hne), HB.out] at h1
              simp only [Prod.mk.injEq] at h1
              exact ⟨h1.1, h1.2.1.symm, h1.2.2.symm⟩⟩, hst, hI⟩
      case rest =>
        clear hst hI
        obtain ⟨eW, rfl, HW, hst, hI⟩ := hcut
        go_upto_if 71 with fail
        go_cut [17, 18, 19] (fun s17 s18 s19 wz => s17 = .int .i64 eA ∧ s18 = .int .i64 at_ ∧ s19 = .int .i64 many ∧ St w wz [(Ab, b), (Aa, a), (A, l)] [] ∧ RdI wz Aw ws)
        case first =>
          as_aux_lemma =>
            by_cases h0 : eW = 0
            · subst h0
              obtain ⟨hb0, hp⟩ := HW.out.1 rfl
              have hm0 := HB.out.trans hb0
              have h1 := (mapR_ok hm0 hp).symm.trans HPA.out
              simp only [Prod.mk.injEq] at h1
              obtain ⟨rfl, hx1, hx2⟩ := h1
              have HM := Lib.hid (fun W (hR : Rd W A l) => refMap_any A l c page W hR hm0 hp.1 hp.2)
              rw [hx1, hx2] at HM
              clear hb0 hm0 hp hx1 hx2
              go_wp2_with fail
              refine (HM.out _ (hst.get (A := A) (l := l) (by simp))).mono ?_; rintro e w6 ⟨rfl, hB⟩; replace hst := hst.next hB; replace hI := hI.below hB; clear hB
              go_wp2_with fail
              go_meet
              exact ⟨rfl, rfl, rfl, hst, hI⟩
            · have hd : (eW == 0) = false := by simp [h0]
              obtain ⟨rfl, rfl, rfl⟩ := HW.out.2 h0
              clear h0
              go_wp2_with fail
              go_meet
              exact ⟨rfl, rfl, rfl, hst, hI⟩
        case rest =>
          clear hst hI HW HBR HPA
          obtain ⟨rfl, rfl, rfl, hst, hI⟩ := hcut
          go_upto_region 19 with fail
          go_cut [97] (fun s97 wx => ∃ B : Bool, s97 = .bool B ∧ Hid ((B = true → bad = 0 ∧ tv < 0) ∧ (B = false → bad ≠ 0 ∨ 0 ≤ tv)) ∧ St w wx [(Ab, b), (Aa, a), (A, l)] [] ∧ RdI wx Aw ws)
          case first =>
            as_aux_lemma =>
              by_cases h0 : bad = 0
              · have hd : (bad == 0) = true := by simp [h0]
                have H0 := Lib.hid h0
                clear h0
                by_cases q1 : tv < 0
                · go_wp2_with fail
                  go_meet
                  exact ⟨true, rfl, Lib.hid ⟨fun _ => ⟨H0.out, q1⟩, fun h => by cases h⟩, hst, hI⟩
                · go_wp2_with fail
                  go_meet
                  exact ⟨false, rfl, Lib.hid ⟨fun h => (by cases h), fun _ => .inr (by omega)⟩, hst, hI⟩
              · have hd : (bad == 0) = false := by simp [h0]
                have H0 := Lib.hid h0
                clear h0
                go_wp2_with fail
                go_meet
                exact ⟨false, rfl, Lib.hid ⟨fun h => (by cases h), fun _ => .inl H0.out⟩, hst, hI⟩
          case rest =>
            clear hst hI
            obtain ⟨B2, rfl, HBR, hst, hI⟩ := hcut
            go_upto_if 97 with fail
            go_cut [17] (fun s17 wy => ∃ eW : Int, s17 = .int .i64 eW ∧ Hid ((eW = 0 → bad = 0 ∧ 0 ≤ tv) ∧ (eW ≠ 0 → eW = eB ∧ ws = [])) ∧ St w wy [(Ab, b), (Aa, a), (A, l)] [] ∧ RdI wy Aw ws)
            case first =>
              as_aux_lemma =>
                cases B2 with
                | true =>
                  go_wp2_with fail
                  go_meet
                  exact ⟨1, rfl, Lib.hid ⟨fun h => by simp at h, fun _ => by
                    have h1 := HPB.out
                    rw [whereR_arg (HB.out.trans (HBR.out.1 (by simp)).1) (HBR.out.1 (by simp)).2] at h1
                    simp only [Prod.mk.injEq] at h1
                    exact ⟨h1.1, h1.2.symm⟩⟩, hst, hI⟩
                | false =>
                  go_wp2_with fail
                  go_meet
                  exact ⟨bad, rfl, Lib.hid ⟨fun h => ⟨h, (HBR.out.2 (by simp)).resolve_left (fun hn => hn h)⟩, fun hne => by
                    have h1 := HPB.out
                    rw [whereR_bad (by rw [HB.out]; exact hne), HB.out] at h1
                    simp only [Prod.mk.injEq] at h1
                    exact ⟨h1.1, h1.2.symm⟩⟩, hst, hI⟩
            case rest =>
              clear hst hI
              obtain ⟨eV, rfl, HW, hst, hI⟩ := hcut
              go_upto_if 99 with fail
              go_cut [17, 20] (fun s17 s20 wz => ∃ (AX : Option Addr) (cX : Nat), s17 = .int .i64 eB ∧ s20 = .slice AX ws.length cX ∧ RdI wz AX ws ∧ St w wz [(Ab, b), (Aa, a), (A, l)] [] ∧ RdI wz Aw ws)
              case first =>
                as_aux_lemma =>
                  by_cases h0 : eV = 0
                  · subst h0
                    obtain ⟨hb0, hp⟩ := HW.out.1 rfl
                    have hm0 := HB.out.trans hb0
                    have h1 := (whereR_ok hm0 hp).symm.trans HPB.out
                    simp only [Prod.mk.injEq] at h1
                    obtain ⟨rfl, hx1⟩ := h1
                    have HM := Lib.hid (fun W (hR : Rd W A l) => refWhere_any A l c tv W hR hm0 ⟨hp, htv.2⟩)
                    rw [hx1] at HM
                    clear hb0 hm0 hp hx1
                    go_wp2_with fail
                    refine (HM.out _ (hst.get (A := A) (l := l) (by simp))).mono ?_; rintro e w6 ⟨AX, cX, rfl, hX, hB⟩; replace hst := hst.next hB; replace hI := hI.below hB; clear hB
                    go_wp2_with fail
                    go_meet
                    exact ⟨AX, cX, rfl, rfl, hX, hst, hI⟩
                  · have hd : (eV == 0) = false := by simp [h0]
                    obtain ⟨rfl, rfl⟩ := HW.out.2 h0
                    clear h0
                    go_wp2_with fail
                    go_meet
                    exact ⟨none, 0, rfl, rfl, RdI.nil _ _, hst, hI⟩
              case rest =>
                clear hst hI HW HBR HPB
                obtain ⟨AX, cX, rfl, rfl, hX, hst, hI⟩ := hcut
                go_wp2_with fail
                go_loopw [21] (fun i wr => ∃ k : Nat, k ≤ ws.length ∧ i = .int .i64 k ∧ RdI wr AX ws ∧ RdI wr Aw ws ∧ St w wr [(Ab, b), (Aa, a), (A, l)] []) (fun i _ => ws.length - (intOf i).toNat)
                case atStart => exact ⟨0, by omega, rfl, hX, hI, hst⟩
                case round =>
                  clear hst hI hX
                  obtain ⟨k, hk, rfl, hX, hI, hst⟩ := hrel
                  by_cases hlt : k < ws.length
                  · obtain ⟨bb, oo, b', o', x, rfl, rfl, c1, c2⟩ := hI.at2 hX k hlt
                    go_wp2_with fail
                    go_quiet (fail)
                    rename_i nq
                    have hBQ : Below wr.heap.size wr (wr.drewN nq) := below_quiet0 wr nq
                    go_wp2_with fail
                    exact ⟨⟨k + 1, by omega, by go_num, hX.below hBQ, hI.below hBQ, hst.next hBQ⟩, by simp [intOf]; omega⟩
                  · have e : k = ws.length := by omega
                    subst e
                    clear hX hI
                    go_upto_region 32 with fail
                    go_cut [139] (fun s139 wx => ∃ B : Bool, s139 = .bool B ∧ Hid ((B = true → bad = 0 ∧ ¬ (0 ≤ page ∧ page ≤ sumR l)) ∧ (B = false → bad ≠ 0 ∨ (0 ≤ page ∧ page ≤ sumR l))) ∧ St w wx [(Ab, b), (Aa, a), (A, l)] [])
                    case first =>
                      as_aux_lemma =>
                        by_cases h0 : bad = 0
                        · have hd : (bad == 0) = true := by simp [h0]
                          have hn := HN.out h0
                          have hl0 := pages_nonneg (HB.out.trans h0)
                          have hl1 := (mustE_zero (HB.out.trans h0)).2.2
                          have hn0 : 0 ≤ n := by omega
                          have hn1 : n ≤ 1073741824 := by omega
                          have HNN := Lib.hid hn
                          have H0 := Lib.hid h0
                          clear h0 hn
                          obtain ⟨p1, p2⟩ := hpg
                          by_cases q1 : page < 0
                          · go_wp2_with fail
                            go_meet
                            exact ⟨true, rfl, Lib.hid ⟨fun _ => ⟨H0.out, fun hi => by omega⟩, fun h => by cases h⟩, hst⟩
                          · by_cases q2 : n < page
                            · go_wp2_with fail
                              go_meet
                              exact ⟨true, rfl, Lib.hid ⟨fun _ => ⟨H0.out, fun hi => by have := HNN.out; omega⟩, fun h => by cases h⟩, hst⟩
                            · go_wp2_with fail
                              go_meet
                              exact ⟨false, rfl, Lib.hid ⟨fun h => (by cases h), fun _ => .inr (by have := HNN.out; omega)⟩, hst⟩
                        · have hd : (bad == 0) = false := by simp [h0]
                          have H0 := Lib.hid h0
                          clear h0
                          go_wp2_with fail
                          go_meet
                          exact ⟨false, rfl, Lib.hid ⟨fun h => (by cases h), fun _ => .inl H0.out⟩, hst⟩
                    case rest =>
                      clear hst
                      obtain ⟨B, rfl, HBR, hst⟩ := hcut
                      go_upto_if 139 with fail
                      go_cut [17] (fun s17 wy => ∃ eW : Int, s17 = .int .i64 eW ∧ Hid ((eW = 0 → bad = 0 ∧ 0 ≤ page ∧ page ≤ sumR l) ∧ (eW ≠ 0 → eW = eC ∧ a = [] ∧ b = [])) ∧ St w wy [(Ab, b), (Aa, a), (A, l)] [])
                      case first =>
                        as_aux_lemma =>
                          cases B with
                          | true =>
                            go_wp2_with fail
                            go_meet
                            exact ⟨24, rfl, Lib.hid ⟨fun h => by simp at h, fun _ => by
                              have h1 := HPC.out
                              rw [cutR_range (HB.out.trans (HBR.out.1 (by simp)).1) (HBR.out.1 (by simp)).2] at h1
                              simp only [Prod.mk.injEq] at h1
                              exact ⟨h1.1, h1.2.1.symm, h1.2.2.symm⟩⟩, hst⟩
                          | false =>
                            go_wp2_with fail
                            go_meet
                            exact ⟨bad, rfl, Lib.hid ⟨fun h => ⟨h, (HBR.out.2 (by simp)).resolve_left (fun hn => hn h)⟩, fun hne => by
                              have h1 := HPC.out
                              rw [cutR_bad (by rw [HB.out]; exact hne), HB.out] at h1
                              simp only [Prod.mk.injEq] at h1
                              exact ⟨h1.1, h1.2.1.symm, h1.2.2.symm⟩⟩, hst⟩
                      case rest =>
                        clear hst
                        obtain ⟨eW, rfl, HW, hst⟩ := hcut
                        go_upto_if 141 with fail
                        go_cut [17, 22, 23] (fun s17 s22 s23 wz => ∃ (AX AY : Option Addr) (cX cY : Nat), s17 = .int .i64 eC ∧ s22 = .slice AX a.length cX ∧ s23 = .slice AY b.length cY ∧ Hid (a.length ≤ 1048576 ∧ b.length ≤ 1048576) ∧ St w wz ((AY, b) :: (AX, a) :: [(Ab, b), (Aa, a), (A, l)]) [])
                        case first =>
                          as_aux_lemma =>
                            by_cases h0 : eW = 0
                            · subst h0
                              obtain ⟨hb0, hp⟩ := HW.out.1 rfl
                              have hm0 := HB.out.trans hb0
                              have hp1 : page ≤ 1073741824 := by have := (mustE_zero hm0).2.2; omega
                              have h1 := (cutR_ok hm0 hp).symm.trans HPC.out
                              simp only [Prod.mk.injEq] at h1
                              obtain ⟨rfl, hx1, hx2⟩ := h1
                              have hl1 := partR_len l 0 page
                              have hl2 := partR_len l page (sumR l)
                              have HM1 := Lib.hid (fun W (hR : Rd W A l) => RPart A l c 0 page W rfl hR hm0 (by omega) (by omega))
                              have HM2 := Lib.hid (fun W (hR : Rd W A l) => RPart A l c page 1073741824 W rfl hR hm0 (by omega) (by omega))
                              rw [Int.zero_add, hx1] at HM1
                              rw [part_rest hm0 hp.1, hx2] at HM2
                              rw [hx1] at hl1
                              rw [hx2] at hl2
                              clear hb0 hm0 hx1 hx2
                              go_wp2_with fail
                              refine (HM1.out _ (hst.get (A := A) (l := l) (by simp))).mono ?_; rintro e w6 ⟨AX, cX, rfl, hN, hB⟩; replace hst := (hst.next hB).push hN.1; clear hN hB
                              go_wp2_with fail
                              refine (HM2.out _ (hst.get (A := A) (l := l) (by simp))).mono ?_; rintro e w7 ⟨AY, cY, rfl, hN, hB⟩; replace hst := (hst.next hB).push hN.1; clear hN hB
                              go_wp2_with fail
                              go_meet
                              exact ⟨AX, AY, cX, cY, rfl, rfl, rfl, Lib.hid ⟨by omega, by omega⟩, hst⟩
                            · have hd : (eW == 0) = false := by simp [h0]
                              obtain ⟨rfl, rfl, rfl⟩ := HW.out.2 h0
                              clear h0
                              go_wp2_with fail
                              go_meet
                              exact ⟨none, none, 0, 0, rfl, rfl, rfl, Lib.hid ⟨by simp, by simp⟩, (hst.push (Rd.nil _ _)).push (Rd.nil _ _)⟩
                        case rest =>
                          clear hst HW HBR HPC
                          obtain ⟨AX, AY, cX, cY, rfl, rfl, rfl, HL, hst⟩ := hcut
                          have la := HL.out
                          go_wp2_with fail
                          refine (sanity_any _).mono ?_; rintro e w10 ⟨rfl, hB⟩; replace hst := hst.next hB; clear hB
                          go_wp2_with fail
                          refine (Same0 a (hst.get (A := Aa) (l := a) (by simp)) (hst.get (A := AX) (l := a) (by simp)) rfl rfl (by omega)).mono ?_; rintro e w11 ⟨rfl, hB⟩; replace hst := hst.next hB; clear hB
                          go_wp2_with fail
                          refine (Same0 b (hst.get (A := Ab) (l := b) (by simp)) (hst.get (A := AY) (l := b) (by simp)) rfl rfl (by omega)).mono ?_; rintro e w12 ⟨rfl, hB⟩; replace hst := hst.next hB; clear hB
                          go_wp2_with fail
                          go_ret
                          exact ⟨rfl, hst.below⟩
set_option maxRecDepth 100000 in
set_option maxHeartbeats 4000000 in
theorem RunsMaps_not (A : Option Addr) (l : List R) (c : Nat) (page tv : Int) (w : World) (hR : Rd w A l) (hs : fewB l = false) :
    Calls Try.prog 7 #[.slice A l.length c, .int .i64 page, .int .i64 tv] w fun e w' => e = .returned (.bool true) ∧ Below w.heap.size w w' := by
  have HS := few_any (some ⟨w.heap.size, 0, none⟩) [(.slice A l.length c, l)] 1 (w.alloc (.cells #[.slice A l.length c] 22)) (RdS.lit1 w A l c 22 (fun _ => hR)) (by simp)
  rw [fews1, hs] at HS
  have H := Lib.hid HS
  have hst := (St.start w).alloc (.cells #[.slice A l.length c] 22)
  clear HS hs hR
  go_enter Try.func7, Try.ntmps7
  go_wp2_with fail
  refine H.out.mono ?_; rintro e w1 ⟨rfl, rfl⟩
  go_wp2_with fail
  refine (sanity_any _).mono ?_; rintro e w2 ⟨rfl, hB⟩; replace hst := hst.next hB; clear hB
  go_wp2_with fail
  go_ret
  exact ⟨rfl, hst.below⟩
theorem RunsMaps_walk (A : Option Addr) (l : List R) (c : Nat) (page tv : Int) (w : World) (hR : Rd w A l) (hp : (Lit.int .i64 page).wf = true) (hm : (Lit.int .i64 tv).wf = true) :
    Calls Try.prog 7 #[.slice A l.length c, .int .i64 page, .int .i64 tv] w fun e w' => e = .returned (.bool true) ∧ Below w.heap.size w w' := by
  by_cases h : fewB l = true
  · exact RunsMaps_yes A l c page tv w hR h (wf_bd hp) (wf_bd hm)
  · exact RunsMaps_not A l c page tv w hR (by simpa using h)
end Go.Proofs.Ytjdkdogiaokhjaa
