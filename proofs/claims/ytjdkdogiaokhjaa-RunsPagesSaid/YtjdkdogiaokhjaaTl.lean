/- Runs: the law RunsPages, walked. -/
import Derived.Test.YtjdkdogiaokhjaaTk
import Derived.Deep.DeepCutAuto
import Derived.Deep.LoopGhost
import Derived.Deep.CutBlock
namespace Go.Proofs.Ytjdkdogiaokhjaa
open Go.RowKit Go.Proofs
set_option linter.unusedSimpArgs false
set_option linter.unusedVariables false

theorem Size2 {A : Option Addr} {l F : List R} {c : Nat} {w : World} (hR : Rd w A l) (hl : l.length ≤ 1048576) (h0 : mustE l = 0) (hF : pg l = F) :
    Calls Try.prog 41 #[.slice A l.length c] w (ResN w F.length (tkn l) 0) := by
  have h := Size_ok A l c w hR hl h0
  have hp := pg_len (okL_of_must h0).wk
  rw [hF] at hp
  rw [← hp] at h
  exact h
theorem SameW {A A' : Option Addr} {a b : List R} {c c' : Nat} {r : Bool} {w : World} (hR : Rd w A a) (hR' : Rd w A' b) (hn : a.length ≤ 1048576) (hn' : b.length ≤ 1048576) (h0 : mustE a = 0) (h1 : mustE b = 0) (hr : decide (norm a = norm b) = r) :
    Calls Try.prog 43 #[.slice A a.length c, .slice A' b.length c'] w (ResB w 0 r) := by
  have h := Same_ok A a c A' b c' w hR hn hR' hn' h0 h1
  rw [hr] at h
  exact h
set_option maxRecDepth 100000 in
set_option maxHeartbeats 16000000 in
theorem RunsPages_out (A : Option Addr) (l : List R) (c : Nat) (A' : Option Addr) (more : List R) (c' : Nat) (at_ many : Int) (w : World) (hR : Rd w A l) (hR' : Rd w A' more) (hs : smallB l = true) (ks : smallB more = true) (hi : ¬ inR l at_ many) (hpg : -9223372036854775808 ≤ at_ ∧ at_ ≤ 9223372036854775807) (hmn : -9223372036854775808 ≤ many ∧ many ≤ 9223372036854775807) :
    Calls Try.prog 10 #[.slice A l.length c, .slice A' more.length c', .int .i64 at_, .int .i64 many] w fun e w' => e = .returned (.bool true) ∧ Below w.heap.size w w' := by
  have HS := small_any (some ⟨w.heap.size, 0, none⟩) [(.slice A l.length c, l), (.slice A' more.length c', more)] 2 (w.alloc (.cells #[.slice A l.length c, .slice A' more.length c'] 22)) (RdS.lit2 w A l c A' more c' 22 (fun _ => hR) (fun _ => hR')) (by simp)
  rw [smalls2, hs, ks] at HS
  have H := Lib.hid HS
  have hst := (((St.start w).push hR').push hR).alloc (.cells #[.slice A l.length c, .slice A' more.length c'] 22)
  obtain ⟨s1, s2, s3⟩ := smallB_true hs
  obtain ⟨t1, t2, t3⟩ := smallB_true ks
  obtain ⟨F, hF⟩ : ∃ F, pg l = F := ⟨_, rfl⟩
  obtain ⟨M, hM⟩ : ∃ M, pg more = M := ⟨_, rfl⟩
  have lF := pg_len (okL_of_must s2).wk
  have lM := pg_len (okL_of_must t2).wk
  rw [hF] at lF
  rw [hM] at lM
  have gl : Good l F := ⟨s2, hF, by omega⟩
  have gm : Good more M := ⟨t2, hM, by omega⟩
  have nF : F.length ≤ 2000 := by omega
  have nM : M.length ≤ 2000 := by omega
  have LF := Lib.hid lF
  have LM := Lib.hid lM
  clear lF lM
  have HSP := Lib.hid (same_pages (okL_of_must s2).wk (okL_of_must t2).wk hF hM)
  have S2 := Lib.hid s2
  have T2 := Lib.hid t2
  have HF := Lib.hid hF
  have HM := Lib.hid hM
  have HI := Lib.hid hi
  clear HS hs ks hR hR' s2 t2 hF hM hi
  go_enter Try.func10, Try.ntmps10
  go_wp2_with fail
  refine (H.out).mono ?_; rintro e wq ⟨rfl, hB⟩; replace hst := hst.next hB; clear hB
  go_wp2_with fail
  clear H
  refine (Size2 (hst.get (A := A) (l := l) (by simp)) (by omega) S2.out HF.out).mono ?_; rintro e wq ⟨rfl, hB⟩; replace hst := hst.next hB; clear hB
  go_wp2_with fail
  refine (Size2 (hst.get (A := A') (l := more) (by simp)) (by omega) T2.out HM.out).mono ?_; rintro e wq ⟨rfl, hB⟩; replace hst := hst.next hB; clear hB
  go_upto_block 0 with fail
  go_cut [15, 16] (fun s15 s16 wz => ∃ B1 : Bool, s15 = .bool B1 ∧ Hid (oneB F M (max F.length M.length) = B1) ∧ St w wz [(A, l), (A', more)] [])
  case first =>
    as_aux_lemma =>
      go_wp2_with fail
      go_loopw [15, 16] (fun o i wr => ∃ k : Nat, k ≤ max F.length M.length ∧ i = .int .i64 k ∧ o = .bool (oneB F M k) ∧ St w wr [(A, l), (A', more)] []) (fun _ i _ => max F.length M.length - (intOf i).toNat)
      case atStart => exact ⟨0, by omega, rfl, rfl, hst⟩
      case round =>
        clear hst
        obtain ⟨k, hk, rfl, rfl, hst⟩ := hrel
        by_cases hlt : k < max F.length M.length
        · have hfin : ∀ b, (oneB F M k && (pgv F k == pgv M k)) = b → oneB F M (k + 1) = b := fun b h => by rw [oneB_succ, h]
          have HFN := Lib.hid hfin
          clear hfin
          generalize oneB F M k = B1 at *
          generalize hu : pgv F k = u at *
          generalize hv : pgv M k = v at *
          have HU := Lib.hid hu
          have HV := Lib.hid hv
          clear hu hv
          have hkF : k < F.length ∨ (¬ k < F.length ∧ k < M.length) := by omega
          rcases hkF with hk1 | ⟨hk1, hk2⟩
          · cases B1 with
            | true =>
              go_wp2_with fail
              refine (pageG gl k (hst.get (A := A) (l := l) (by simp)) rfl rfl HU.out).mono ?_; rintro e wq ⟨rfl, hB⟩; replace hst := hst.next hB; clear hB
              go_wp2_with fail
              refine (pageG gm k (hst.get (A := A') (l := more) (by simp)) rfl rfl HV.out).mono ?_; rintro e wq ⟨rfl, hB⟩; replace hst := hst.next hB; clear hB
              go_wp2_with fail
              exact ⟨⟨k + 1, by omega, by go_num, by rw [HFN.out _ (Bool.true_and _)], hst⟩, by simp [intOf]; omega⟩
            | false =>
              go_wp2_with fail
              exact ⟨⟨k + 1, by omega, by go_num, by rw [HFN.out _ (Bool.false_and _)], hst⟩, by simp [intOf]; omega⟩
          · cases B1 with
            | true =>
              go_wp2_with fail
              refine (pageG gl k (hst.get (A := A) (l := l) (by simp)) rfl rfl HU.out).mono ?_; rintro e wq ⟨rfl, hB⟩; replace hst := hst.next hB; clear hB
              go_wp2_with fail
              refine (pageG gm k (hst.get (A := A') (l := more) (by simp)) rfl rfl HV.out).mono ?_; rintro e wq ⟨rfl, hB⟩; replace hst := hst.next hB; clear hB
              go_wp2_with fail
              exact ⟨⟨k + 1, by omega, by go_num, by rw [HFN.out _ (Bool.true_and _)], hst⟩, by simp [intOf]; omega⟩
            | false =>
              go_wp2_with fail
              exact ⟨⟨k + 1, by omega, by go_num, by rw [HFN.out _ (Bool.false_and _)], hst⟩, by simp [intOf]; omega⟩
        · have hkm : k = max F.length M.length := by omega
          have hk1 : ¬ k < F.length := by omega
          have hk2 : ¬ k < M.length := by omega
          have hB1 : Hid (oneB F M (max F.length M.length) = oneB F M k) := Lib.hid (by rw [hkm])
          clear hkm
          generalize oneB F M k = B1 at *
          go_wp2_with fail
          go_meet
          exact ⟨B1, rfl, hB1, hst⟩
  case rest =>
    clear hst
    obtain ⟨B1, rfl, HB1, hst⟩ := hcut
    obtain ⟨r, hr⟩ : ∃ r, decide (norm l = norm more) = r := ⟨_, rfl⟩
    have HR : Hid (r = (B1 && decide (F.length = M.length))) := Lib.hid (by rw [← hr, HSP.out, HB1.out])
    have HRR := Lib.hid hr
    clear hr HSP HB1
    go_wp2_with fail
    refine (SameW (hst.get (A := A) (l := l) (by simp)) (hst.get (A := A') (l := more) (by simp)) (by omega) (by omega) S2.out T2.out HRR.out).mono ?_; rintro e wq ⟨rfl, hB⟩; replace hst := hst.next hB; clear hB HRR
    go_upto_region 13 with fail
    go_cut [95] (fun s95 wz => s95 = .bool false ∧ St w wz [(A, l), (A', more)] [])
    case first =>
      as_aux_lemma =>
        by_cases hne : F.length = M.length
        · have hd : ((F.length : Int) == (M.length : Int)) = true := by simp; omega
          have hr : r = B1 := by rw [HR.out]; simp [hne]
          subst hr
          have HNE := Lib.hid hne
          clear hne
          cases r with
          | true => go_wp2_with fail; go_meet; exact ⟨rfl, hst⟩
          | false => go_wp2_with fail; go_meet; exact ⟨rfl, hst⟩
        · have hd : ((F.length : Int) == (M.length : Int)) = false := by simp; omega
          have hr : r = false := by rw [HR.out]; simp [hne]
          subst hr
          cases B1 with
          | true => go_wp2_with fail; go_meet; exact ⟨rfl, hst⟩
          | false => go_wp2_with fail; go_meet; exact ⟨rfl, hst⟩
    case rest =>
      clear hst HR
      obtain ⟨rfl, hst⟩ := hcut
      obtain ⟨p1, p2⟩ := hpg
      obtain ⟨m1, m2⟩ := hmn
      go_wp2_with fail
      all_goals first
        | (refine (sanity_any _).mono ?_; rintro e wq ⟨rfl, hB⟩; replace hst := hst.next hB; clear hB; go_wp2_with fail; go_ret; exact ⟨rfl, hst.below⟩)
        | (exfalso; have h := HI.out; have h2 := LF.out; unfold inR at h; omega)

end Go.Proofs.Ytjdkdogiaokhjaa
