/- Runs: the law RunsPages, in range. -/
import Derived.Test.YtjdkdogiaokhjaaTma
import Derived.Deep.DeepCutAuto
import Derived.Deep.LoopGhost
import Derived.Deep.CutBlock
namespace Go.Proofs.Ytjdkdogiaokhjaa
open Go.RowKit Go.Proofs
set_option linter.unusedSimpArgs false
set_option linter.unusedVariables false

set_option maxRecDepth 100000 in
set_option maxHeartbeats 16000000 in
theorem RunsPages_in (A : Option Addr) (l : List R) (c : Nat) (A' : Option Addr) (more : List R) (c' : Nat) (a q : Nat) (w : World) (hR : Rd w A l) (hR' : Rd w A' more) (hs : smallB l = true) (ks : smallB more = true) (hi : a + q ≤ (pg l).length) :
    Calls Try.prog 10 #[.slice A l.length c, .slice A' more.length c', .int .i64 (a : Int), .int .i64 (q : Int)] w fun e w' => e = .returned (.bool true) ∧ Below w.heap.size w w' := by
  have HS := small_any (some ⟨w.heap.size, 0, none⟩) [(.slice A l.length c, l), (.slice A' more.length c', more)] 2 (w.alloc (.cells #[.slice A l.length c, .slice A' more.length c'] 22)) (RdS.lit2 w A l c A' more c' 22 (fun _ => hR) (fun _ => hR')) (by simp)
  rw [smalls2, hs, ks] at HS
  have H := Lib.hid HS
  have hst := (((St.start w).push hR').push hR).alloc (.cells #[.slice A l.length c, .slice A' more.length c'] 22)
  obtain ⟨s1, s2, s3⟩ := smallB_true hs
  obtain ⟨t1, t2, t3⟩ := smallB_true ks
  obtain ⟨F, hF⟩ : ∃ F, pg l = F := ⟨_, rfl⟩
  obtain ⟨M, hM⟩ : ∃ M, pg more = M := ⟨_, rfl⟩
  have lF := pg_len (okL_of_must s2).wk
  have lM := pg_len (okL_of_must t2).wk
  rw [hF] at lF
  rw [hM] at lM
  have gl : Good l F := ⟨s2, hF, by omega⟩
  have gm : Good more M := ⟨t2, hM, by omega⟩
  have nF : F.length ≤ 2000 := by omega
  have nM : M.length ≤ 2000 := by omega
  have LF := Lib.hid lF
  have LM := Lib.hid lM
  clear lF lM
  have HSP := Lib.hid (same_pages (okL_of_must s2).wk (okL_of_must t2).wk hF hM)
  have S2 := Lib.hid s2
  have T2 := Lib.hid t2
  have HF := Lib.hid hF
  have HM := Lib.hid hM
  have hi' := hi
  rw [hF] at hi'
  have hin : inR l (a : Int) (q : Int) := by unfold inR; have := LF.out; omega
  have HI := Lib.hid hin
  obtain ⟨xa, xb, xj, xi, xr, xo, xp, xq, xl, e1, e2, e3, e4, e5, e6, ga, gb, gj, gi, gr, go_, gp, gq, gol⟩ := (pages_facts s2 t2 s1 t1 hF hM nF nM (by rw [← hF]; exact hi)).go
  have E1 := Lib.hid e1
  have E2 := Lib.hid e2
  have E3 := Lib.hid e3
  have E4 := Lib.hid e4
  have E5 := Lib.hid e5
  have E6 := Lib.hid e6
  rw [hF] at hi
  have ha : a ≤ F.length := by omega
  have n1 : ¬ F.length < a := by omega
  have n2 : ¬ ((F.length : Int) - (a : Int) < (q : Int)) := by omega
  clear HS hs ks hR hR' s2 t2 hF hM e1 e2 e3 e4 e5 e6 hin
  go_enter Try.func10, Try.ntmps10
  go_wp2_with fail
  refine (H.out).mono ?_; rintro e wq ⟨rfl, hB⟩; replace hst := hst.next hB; clear hB
  go_wp2_with fail
  clear H
  refine (Size2 (hst.get (A := A) (l := l) (by simp)) (by omega) S2.out HF.out).mono ?_; rintro e wq ⟨rfl, hB⟩; replace hst := hst.next hB; clear hB
  go_wp2_with fail
  refine (Size2 (hst.get (A := A') (l := more) (by simp)) (by omega) T2.out HM.out).mono ?_; rintro e wq ⟨rfl, hB⟩; replace hst := hst.next hB; clear hB
  go_upto_block 0 with fail
  go_cut [15, 16] (fun s15 s16 wz => ∃ B1 : Bool, s15 = .bool B1 ∧ Hid (oneB F M (max F.length M.length) = B1) ∧ St w wz [(A, l), (A', more)] [])
  case first =>
    as_aux_lemma =>
      go_wp2_with fail
      go_loopw [15, 16] (fun o i wr => ∃ k : Nat, k ≤ max F.length M.length ∧ i = .int .i64 k ∧ o = .bool (oneB F M k) ∧ St w wr [(A, l), (A', more)] []) (fun _ i _ => max F.length M.length - (intOf i).toNat)
      case atStart => exact ⟨0, by omega, rfl, rfl, hst⟩
      case round =>
        clear hst
        obtain ⟨k, hk, rfl, rfl, hst⟩ := hrel
        by_cases hlt : k < max F.length M.length
        · have hfin : ∀ b, (oneB F M k && (pgv F k == pgv M k)) = b → oneB F M (k + 1) = b := fun b h => by rw [oneB_succ, h]
          have HFN := Lib.hid hfin
          clear hfin
          generalize oneB F M k = B1 at *
          generalize hu : pgv F k = u at *
          generalize hv : pgv M k = v at *
          have HU := Lib.hid hu
          have HV := Lib.hid hv
          clear hu hv
          have hkF : k < F.length ∨ (¬ k < F.length ∧ k < M.length) := by omega
          rcases hkF with hk1 | ⟨hk1, hk2⟩
          · cases B1 with
            | true =>
              go_wp2_with fail
              refine (pageG gl k (hst.get (A := A) (l := l) (by simp)) rfl rfl HU.out).mono ?_; rintro e wq ⟨rfl, hB⟩; replace hst := hst.next hB; clear hB
              go_wp2_with fail
              refine (pageG gm k (hst.get (A := A') (l := more) (by simp)) rfl rfl HV.out).mono ?_; rintro e wq ⟨rfl, hB⟩; replace hst := hst.next hB; clear hB
              go_wp2_with fail
              exact ⟨⟨k + 1, by omega, by go_num, by rw [HFN.out _ (Bool.true_and _)], hst⟩, by simp [intOf]; omega⟩
            | false =>
              go_wp2_with fail
              exact ⟨⟨k + 1, by omega, by go_num, by rw [HFN.out _ (Bool.false_and _)], hst⟩, by simp [intOf]; omega⟩
          · cases B1 with
            | true =>
              go_wp2_with fail
              refine (pageG gl k (hst.get (A := A) (l := l) (by simp)) rfl rfl HU.out).mono ?_; rintro e wq ⟨rfl, hB⟩; replace hst := hst.next hB; clear hB
              go_wp2_with fail
              refine (pageG gm k (hst.get (A := A') (l := more) (by simp)) rfl rfl HV.out).mono ?_; rintro e wq ⟨rfl, hB⟩; replace hst := hst.next hB; clear hB
              go_wp2_with fail
              exact ⟨⟨k + 1, by omega, by go_num, by rw [HFN.out _ (Bool.true_and _)], hst⟩, by simp [intOf]; omega⟩
            | false =>
              go_wp2_with fail
              exact ⟨⟨k + 1, by omega, by go_num, by rw [HFN.out _ (Bool.false_and _)], hst⟩, by simp [intOf]; omega⟩
        · have hkm : k = max F.length M.length := by omega
          have hk1 : ¬ k < F.length := by omega
          have hk2 : ¬ k < M.length := by omega
          have hB1 : Hid (oneB F M (max F.length M.length) = oneB F M k) := Lib.hid (by rw [hkm])
          clear hkm
          generalize oneB F M k = B1 at *
          go_wp2_with fail
          go_meet
          exact ⟨B1, rfl, hB1, hst⟩
  case rest =>
    clear hst
    obtain ⟨B1, rfl, HB1, hst⟩ := hcut
    obtain ⟨r, hr⟩ : ∃ r, decide (norm l = norm more) = r := ⟨_, rfl⟩
    have HR : Hid (r = (B1 && decide (F.length = M.length))) := Lib.hid (by rw [← hr, HSP.out, HB1.out])
    have HRR := Lib.hid hr
    clear hr HSP HB1
    go_wp2_with fail
    refine (SameW (hst.get (A := A) (l := l) (by simp)) (hst.get (A := A') (l := more) (by simp)) (by omega) (by omega) S2.out T2.out HRR.out).mono ?_; rintro e wq ⟨rfl, hB⟩; replace hst := hst.next hB; clear hB HRR
    go_upto_region 13 with fail
    go_cut [95] (fun s95 wz => s95 = .bool false ∧ St w wz [(A, l), (A', more)] [])
    case first =>
      as_aux_lemma =>
        by_cases hne : F.length = M.length
        · have hd : ((F.length : Int) == (M.length : Int)) = true := by simp; omega
          have hr : r = B1 := by rw [HR.out]; simp [hne]
          subst hr
          have HNE := Lib.hid hne
          clear hne
          cases r with
          | true => go_wp2_with fail; go_meet; exact ⟨rfl, hst⟩
          | false => go_wp2_with fail; go_meet; exact ⟨rfl, hst⟩
        · have hd : ((F.length : Int) == (M.length : Int)) = false := by simp; omega
          have hr : r = false := by rw [HR.out]; simp [hne]
          subst hr
          cases B1 with
          | true => go_wp2_with fail; go_meet; exact ⟨rfl, hst⟩
          | false => go_wp2_with fail; go_meet; exact ⟨rfl, hst⟩
    case rest =>
      clear hst HR
      obtain ⟨rfl, hst⟩ := hcut
      rename_i K1 h1 K2 h2
      refine h2 _ _ ?_
      go_step
      refine wp_skip ?_
      show K1 _ _
      exact h1 _ _ (RP_rest A l c A' more c' a q F M xa xb xj xi xr xo xp xq xl w _ hst hi s1 t1 gl gm nF nM LF LM S2 T2 HI ga gb gj gi gr go_ gp gq gol E1 E2 E3 E4 E5 E6 ha B1 r u16 u34 u35 u36 u37 u38 u39 u40 u41 u42 u43 u44 u45 u46 u47 u48 u49 u50 u51 u52 u53 u54 u55 u56 u57 u58 u59 u60 u61 u62 u63 u64 u65 u66 u67 u68 u69 u70 u71 u72 u73 u74 u75 u76 u77 u78 u79 u80 u81 u82 u83 u84 u85 u86 u87 u88 u89 u90 u91 u92 u93 u94 u96 u97 u98 u99 u100 u101 u102 u103 u104 u105 u106 u107 u108 u109 u110 u111 u112 u113 u114 u115 u116 u117 u118 u119 u120 u121 u122 u123 u124 u125 u126 u127 u128 u129 u130 u131 u132 u133 u134 u135 u136 u137 u138 u139 u140 u141 u142 u143 u144 u145 u146 u147 u148 u149 u150 u151 u152 u153 u154 u155 u156 u157 u158 u159 u160 u161 u162 u163 u164 u165 u166 u167 u168 u169 u170 u171 u172 u173 u174 u175 u176 u177 u178 u179 u180 u181 u182 u183 u184 u185 u186 u187 u188 u189 u190 u191 u192 u193 u194 u195 u196 u197 u198 u199 u200 u201 u202 u203 u204 u205 u206 u207 u208 u209 u210 u211 u212 u213 u214 u215 u216 u217 u218 u219 u220 u221 u222 u223 u224 u225 u226 u227 u228 u229 u230 u231 u232 u233 u234 u235 u236 u237 u238 u239 u240 u241 u242 u244 u245 u246 u247 u248 u249 u250 u251 u252 u253 u254 u255 u256 u257 u258 u259 u260 u261 u262 u263 u264 u265 u266 u267 u268 u269 u270 u271 u272 u274 u275 u276 u277 u278 u279 u280 u281 u282 u283 u284 u285 u286 u287 u288 u289 u290 u291 u292 u293 u294 u295 u296 u297 u298 u299 u300 u301 u302 u303 u304 u305 u306 u307 u308 u309 u310 u311 u312 u313 u314 u315 u316 u317 u318 u319 u320 u321 u322 u323 u324 u325 u326 u327 u328 u329 u330 u331 u332 u333 u334 u335 u336 u337 u338 u339 u340 u341 u342 u343 u344 u345 u346 u347 u348 u349 u350 u351 u352 u353 u354 u355 u356 u357 u358 u359 u360 u361 u362 u363 u364 u365 u366 u367 u368 u369 u370 u371 u372 u373 u374 u375 u376 u377 u378 u379 u380 u381 u382 u383 u384 u385 u386 u387 u388 u389 u390 u391 u392 u393 u394 u395 u396 u397 u398 u399)
end Go.Proofs.Ytjdkdogiaokhjaa
