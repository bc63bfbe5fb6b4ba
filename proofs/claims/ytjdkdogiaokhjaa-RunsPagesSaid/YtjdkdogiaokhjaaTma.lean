/- Runs: the law RunsPages, in range: behind the tests. -/
import Derived.Test.YtjdkdogiaokhjaaTl
import Derived.Deep.DeepCutAuto
import Derived.Deep.LoopGhost
import Derived.Deep.CutBlock
namespace Go.Proofs.Ytjdkdogiaokhjaa
open Go.RowKit Go.Proofs
set_option linter.unusedSimpArgs false
set_option linter.unusedVariables false

/-- the code behind a statement, and the statement -/
def cR : Code → Code
  | .seq _ b => b
  | c => c
def cL : Code → Code
  | .seq a _ => a
  | c => c
noncomputable def rpRest : Code := cR (cR (cR (cR (cR (cR (cR (cR (cR (Try.f10.body.getD .skip)))))))))
set_option maxRecDepth 100000 in
set_option maxHeartbeats 16000000 in
theorem RP_rest (A : Option Addr) (l : List R) (c : Nat) (A' : Option Addr) (more : List R) (c' : Nat) (a q : Nat) (F M xa xb xj xi xr xo xp xq xl : List R) (w wz : World) (hst : St w wz [(A, l), (A', more)] []) (hi : a + q ≤ F.length) (s1 : l.length ≤ 60) (t1 : more.length ≤ 60) (gl : Good l F) (gm : Good more M) (nF : F.length ≤ 2000) (nM : M.length ≤ 2000) (LF : Hid ((F.length : Int) = sumR l)) (LM : Hid ((M.length : Int) = sumR more)) (S2 : Hid (mustE l = 0)) (T2 : Hid (mustE more = 0)) (HI : Hid (inR l (a : Int) (q : Int)))
    (ga : Good xa (F.take a)) (gb : Good xb (F.drop a)) (gj : Good xj (F ++ M)) (gi : Good xi (F.take a ++ M ++ F.drop a)) (gr : Good xr (F.take a ++ F.drop (a + q))) (go_ : Good xo ((F.take (a + q)).drop a)) (gp : Good xp (F.take a ++ List.replicate q (-1, 1) ++ F.drop (a + q))) (gq : Good xq (F.take a ++ M ++ F.drop (a + M.length))) (gol : Good xl ((F.take (a + M.length)).drop a))
    (E1 : Hid (cutOk l (a : Int) = (0, xa, xb))) (E2 : Hid (joinOk l more = (0, xj))) (E3 : Hid (insertOk l (a : Int) more = (0, xi))) (E4 : Hid (removeOk l (a : Int) (q : Int) = (0, xr, xo))) (E5 : Hid (punchOk l (a : Int) (q : Int) = (0, xp, xo))) (E6 : Hid (putOk l (a : Int) more = (0, xq, xl))) (ha : a ≤ F.length)
    (B1 r : Bool) (u16 u34 u35 u36 u37 u38 u39 u40 u41 u42 u43 u44 u45 u46 u47 u48 u49 u50 u51 u52 u53 u54 u55 u56 u57 u58 u59 u60 u61 u62 u63 u64 u65 u66 u67 u68 u69 u70 u71 u72 u73 u74 u75 u76 u77 u78 u79 u80 u81 u82 u83 u84 u85 u86 u87 u88 u89 u90 u91 u92 u93 u94 u96 u97 u98 u99 u100 u101 u102 u103 u104 u105 u106 u107 u108 u109 u110 u111 u112 u113 u114 u115 u116 u117 u118 u119 u120 u121 u122 u123 u124 u125 u126 u127 u128 u129 u130 u131 u132 u133 u134 u135 u136 u137 u138 u139 u140 u141 u142 u143 u144 u145 u146 u147 u148 u149 u150 u151 u152 u153 u154 u155 u156 u157 u158 u159 u160 u161 u162 u163 u164 u165 u166 u167 u168 u169 u170 u171 u172 u173 u174 u175 u176 u177 u178 u179 u180 u181 u182 u183 u184 u185 u186 u187 u188 u189 u190 u191 u192 u193 u194 u195 u196 u197 u198 u199 u200 u201 u202 u203 u204 u205 u206 u207 u208 u209 u210 u211 u212 u213 u214 u215 u216 u217 u218 u219 u220 u221 u222 u223 u224 u225 u226 u227 u228 u229 u230 u231 u232 u233 u234 u235 u236 u237 u238 u239 u240 u241 u242 u244 u245 u246 u247 u248 u249 u250 u251 u252 u253 u254 u255 u256 u257 u258 u259 u260 u261 u262 u263 u264 u265 u266 u267 u268 u269 u270 u271 u272 u274 u275 u276 u277 u278 u279 u280 u281 u282 u283 u284 u285 u286 u287 u288 u289 u290 u291 u292 u293 u294 u295 u296 u297 u298 u299 u300 u301 u302 u303 u304 u305 u306 u307 u308 u309 u310 u311 u312 u313 u314 u315 u316 u317 u318 u319 u320 u321 u322 u323 u324 u325 u326 u327 u328 u329 u330 u331 u332 u333 u334 u335 u336 u337 u338 u339 u340 u341 u342 u343 u344 u345 u346 u347 u348 u349 u350 u351 u352 u353 u354 u355 u356 u357 u358 u359 u360 u361 u362 u363 u364 u365 u366 u367 u368 u369 u370 u371 u372 u373 u374 u375 u376 u377 u378 u379 u380 u381 u382 u383 u384 u385 u386 u387 u388 u389 u390 u391 u392 u393 u394 u395 u396 u397 u398 u399 : Value) :
    Code.wp Try.prog rpRest (bodyPost Try.prog Try.f10 fun e w' => e = .returned (.bool true) ∧ Below w.heap.size w w') ⟨#[Value.slice A l.length c, Value.slice A' more.length c', Value.int .i64 (a : Int), Value.int .i64 (q : Int), undef, undef, undef, undef, Value.bool false, Value.int .i64 (F.length : Int), Value.int .i64 (tkn l), Value.int .i64 0, Value.int .i64 (M.length : Int), Value.int .i64 (tkn more), Value.int .i64 0, Value.bool B1, u16, Value.bool r, undef, undef, undef, undef, undef, undef, undef, undef, undef, undef, undef, undef, undef, undef, undef, undef, u34, u35, u36, u37, u38, u39, u40, u41, u42, u43, u44, u45, u46, u47, u48, u49, u50, u51, u52, u53, u54, u55, u56, u57, u58, u59, u60, u61, u62, u63, u64, u65, u66, u67, u68, u69, u70, u71, u72, u73, u74, u75, u76, u77, u78, u79, u80, u81, u82, u83, u84, u85, u86, u87, u88, u89, u90, u91, u92, u93, u94, Value.bool false, u96, u97, u98, u99, u100, u101, u102, u103, u104, u105, u106, u107, u108, u109, u110, u111, u112, u113, u114, u115, u116, u117, u118, u119, u120, u121, u122, u123, u124, u125, u126, u127, u128, u129, u130, u131, u132, u133, u134, u135, u136, u137, u138, u139, u140, u141, u142, u143, u144, u145, u146, u147, u148, u149, u150, u151, u152, u153, u154, u155, u156, u157, u158, u159, u160, u161, u162, u163, u164, u165, u166, u167, u168, u169, u170, u171, u172, u173, u174, u175, u176, u177, u178, u179, u180, u181, u182, u183, u184, u185, u186, u187, u188, u189, u190, u191, u192, u193, u194, u195, u196, u197, u198, u199, u200, u201, u202, u203, u204, u205, u206, u207, u208, u209, u210, u211, u212, u213, u214, u215, u216, u217, u218, u219, u220, u221, u222, u223, u224, u225, u226, u227, u228, u229, u230, u231, u232, u233, u234, u235, u236, u237, u238, u239, u240, u241, u242, undef, u244, u245, u246, u247, u248, u249, u250, u251, u252, u253, u254, u255, u256, u257, u258, u259, u260, u261, u262, u263, u264, u265, u266, u267, u268, u269, u270, u271, u272, undef, u274, u275, u276, u277, u278, u279, u280, u281, u282, u283, u284, u285, u286, u287, u288, u289, u290, u291, u292, u293, u294, u295, u296, u297, u298, u299, u300, u301, u302, u303, u304, u305, u306, u307, u308, u309, u310, u311, u312, u313, u314, u315, u316, u317, u318, u319, u320, u321, u322, u323, u324, u325, u326, u327, u328, u329, u330, u331, u332, u333, u334, u335, u336, u337, u338, u339, u340, u341, u342, u343, u344, u345, u346, u347, u348, u349, u350, u351, u352, u353, u354, u355, u356, u357, u358, u359, u360, u361, u362, u363, u364, u365, u366, u367, u368, u369, u370, u371, u372, u373, u374, u375, u376, u377, u378, u379, u380, u381, u382, u383, u384, u385, u386, u387, u388, u389, u390, u391, u392, u393, u394, u395, u396, u397, u398, u399], []⟩ wz := by
  have n1 : ¬ F.length < a := by omega
  have n2 : (q : Int) ≤ (F.length : Int) - (a : Int) := by omega
  obtain ⟨Q, hQ⟩ : ∃ Q, bodyPost Try.prog Try.f10 (fun e w' => e = .returned (.bool true) ∧ Below w.heap.size w w') = Q := ⟨_, rfl⟩
  subst hQ
  conv => arg 2; whnf
  go_wp2_with fail
  refine (Cut1 (hst.get (A := A) (l := l) (by simp)) rfl (by omega) S2.out (by omega) (by have := LF.out; omega) E1.out).mono ?_; rintro e wq ⟨AA, cA, AB, cB, rfl, ra, rb, hB⟩; replace hst := ((hst.next hB).push ra).push rb; clear hB ra rb
  go_wp2_with fail
  refine (Join1 (hst.get (A := A) (l := l) (by simp)) (hst.get (A := A') (l := more) (by simp)) rfl rfl (by omega) (by omega) S2.out T2.out E2.out).mono ?_; rintro e wq ⟨AJ, cJ, rfl, ra, hB⟩; replace hst := (hst.next hB).push ra; clear hB ra
  go_wp2_with fail
  refine (Insert1 (hst.get (A := A) (l := l) (by simp)) (hst.get (A := A') (l := more) (by simp)) rfl rfl (by omega) (by omega) S2.out T2.out (by omega) (by have := LF.out; omega) E3.out).mono ?_; rintro e wq ⟨AI, cI, rfl, ra, hB⟩; replace hst := (hst.next hB).push ra; clear hB ra
  go_wp2_with fail
  refine (Remove1 (hst.get (A := A) (l := l) (by simp)) rfl (by omega) S2.out HI.out E4.out).mono ?_; rintro e wq ⟨AR, cR, AO, cO, rfl, ra, rb, hB⟩; replace hst := ((hst.next hB).push ra).push rb; clear hB ra rb
  go_wp2_with fail
  refine (Punch1 (hst.get (A := A) (l := l) (by simp)) rfl (by omega) S2.out HI.out E5.out).mono ?_; rintro e wq ⟨AP, cP, AG, cG, rfl, ra, rb, hB⟩; replace hst := ((hst.next hB).push ra).push rb; clear hB ra rb
  go_wp2_with fail
  refine (Put1 (hst.get (A := A) (l := l) (by simp)) (hst.get (A := A') (l := more) (by simp)) rfl rfl (by omega) (by omega) S2.out T2.out (by omega) (by omega) E6.out).mono ?_; rintro e wy ⟨AQ, cQ, AL, cL, rfl, ra, rb, hB⟩; replace hst := ((hst.next hB).push ra).push rb; clear hB ra rb
  go_wp2_with fail
  replace hst := hst.alloc (.cells #[.int .i64 0, .int .i64 0, .int .i64 0, .int .i64 0, .int .i64 0, .int .i64 0] 26)
  refine (worst0 [0, 0, 0, 0, 0, 0] (RdE.lit wy [0, 0, 0, 0, 0, 0] 26) rfl (by decide) rfl).mono ?_
  rintro e ww ⟨rfl, rfl⟩
  go_wp2_with fail
  go_loopg [32] (F.length + M.length + 1) (fun gh v wr => ∃ x : Nat, x ≤ F.length + M.length + 1 ∧ gh = F.length + M.length + 1 - x ∧ v = .int .i64 x ∧ St w wr [(AL, xl), (AQ, xq), (AG, xo), (AP, xp), (AO, xo), (AR, xr), (AI, xi), (AJ, xj), (AB, xb), (AA, xa), (A, l), (A', more)] [])
  case atStart => exact ⟨0, by omega, by omega, rfl, hst⟩
  case round =>
    clear hst
    as_aux_lemma =>
    obtain ⟨x, hx, hgh, rfl, hst⟩ := hrel
    by_cases hlt : x ≤ F.length + M.length
    · have hxd : (x : Int) ≤ (F.length : Int) + (M.length : Int) := by omega
      have HGH := Lib.hid hgh
      clear hgh
      obtain ⟨u, hu⟩ : ∃ u, pgv F x = u := ⟨_, rfl⟩
      have HU := Lib.hid hu
      clear hu
      go_wp2_with fail
      refine (pageG gl (x) (hst.get (A := A) (l := l) (by simp)) rfl (rfl) (HU.out)).mono ?_; rintro e wq ⟨rfl, hB⟩; replace hst := hst.next hB; clear hB
      go_upto_region 29 with fail
      go_cut [226] (fun s wz => s = .bool false ∧ St w wz [(AL, xl), (AQ, xq), (AG, xo), (AP, xp), (AO, xo), (AR, xr), (AI, xi), (AJ, xj), (AB, xb), (AA, xa), (A, l), (A', more)] [])
      case first =>
        as_aux_lemma =>
          obtain ⟨v, hv⟩ : ∃ v, pgv F (a + x) = v := ⟨_, rfl⟩
          have Kv := Lib.hid hv
          clear hv
          by_cases hx1 : x < a
          · have hn : x < F.length := by omega
            have hn' : ¬ F.length ≤ x := by omega
            go_wp2_with fail
            refine (pageG ga (x) (hst.get (A := AA) (l := xa) (by simp)) rfl (rfl) ((pA hx1).trans HU.out)).mono ?_; rintro e wq ⟨rfl, hB⟩; replace hst := hst.next hB; clear hB
            go_wp2_with fail
            refine (pageG gb (x) (hst.get (A := AB) (l := xb) (by simp)) rfl (rfl) (pB.trans Kv.out)).mono ?_; rintro e wq ⟨rfl, hB⟩; replace hst := hst.next hB; clear hB
            go_wp2_with fail
            refine (pageG gl (a + x) (hst.get (A := A) (l := l) (by simp)) rfl (by omega) (Kv.out)).mono ?_; rintro e wq ⟨rfl, hB⟩; replace hst := hst.next hB; clear hB
            go_wp2_with fail
            refine (pageG gj (x) (hst.get (A := AJ) (l := xj) (by simp)) rfl (rfl) ((pJ1 hn).trans HU.out)).mono ?_; rintro e wq ⟨rfl, hB⟩; replace hst := hst.next hB; clear hB
            go_wp2_with fail
            go_meet
            exact ⟨rfl, hst⟩
          · by_cases hn : x < F.length
            · have hn' : ¬ F.length ≤ x := by omega
              go_wp2_with fail
              refine (pageG gb (x) (hst.get (A := AB) (l := xb) (by simp)) rfl (rfl) (pB.trans Kv.out)).mono ?_; rintro e wq ⟨rfl, hB⟩; replace hst := hst.next hB; clear hB
              go_wp2_with fail
              refine (pageG gl (a + x) (hst.get (A := A) (l := l) (by simp)) rfl (by omega) (Kv.out)).mono ?_; rintro e wq ⟨rfl, hB⟩; replace hst := hst.next hB; clear hB
              go_wp2_with fail
              refine (pageG gj (x) (hst.get (A := AJ) (l := xj) (by simp)) rfl (rfl) ((pJ1 hn).trans HU.out)).mono ?_; rintro e wq ⟨rfl, hB⟩; replace hst := hst.next hB; clear hB
              go_wp2_with fail
              go_meet
              exact ⟨rfl, hst⟩
            · have hn' : F.length ≤ x := by omega
              obtain ⟨z, hz⟩ : ∃ z, pgv M (x - F.length) = z := ⟨_, rfl⟩
              have Kz := Lib.hid hz
              clear hz
              go_wp2_with fail
              refine (pageG gb (x) (hst.get (A := AB) (l := xb) (by simp)) rfl (rfl) (pB.trans Kv.out)).mono ?_; rintro e wq ⟨rfl, hB⟩; replace hst := hst.next hB; clear hB
              go_wp2_with fail
              refine (pageG gl (a + x) (hst.get (A := A) (l := l) (by simp)) rfl (by omega) (Kv.out)).mono ?_; rintro e wq ⟨rfl, hB⟩; replace hst := hst.next hB; clear hB
              go_wp2_with fail
              refine (pageG gj (x) (hst.get (A := AJ) (l := xj) (by simp)) rfl (rfl) ((pJ2 (by omega)).trans Kz.out)).mono ?_; rintro e wq ⟨rfl, hB⟩; replace hst := hst.next hB; clear hB
              go_wp2_with fail
              refine (pageG gm (x - F.length) (hst.get (A := A') (l := more) (by simp)) rfl (by omega) (Kz.out)).mono ?_; rintro e wq ⟨rfl, hB⟩; replace hst := hst.next hB; clear hB
              go_wp2_with fail
              go_meet
              exact ⟨rfl, hst⟩
      case rest =>
        clear hst
        obtain ⟨rfl, hst⟩ := hcut
        go_upto_block 4 with fail
        go_cut [243] (fun s wz => St w wz [(AL, xl), (AQ, xq), (AG, xo), (AP, xp), (AO, xo), (AR, xr), (AI, xi), (AJ, xj), (AB, xb), (AA, xa), (A, l), (A', more)] [])
        case first =>
          as_aux_lemma =>
            by_cases hx1 : x < a
            · go_wp2_with fail
              refine (pageG gi (x) (hst.get (A := AI) (l := xi) (by simp)) rfl (rfl) ((pI1 ha hx1).trans HU.out)).mono ?_; rintro e wq ⟨rfl, hB⟩; replace hst := hst.next hB; clear hB
              go_wp2_with fail
              refine (pageG gr (x) (hst.get (A := AR) (l := xr) (by simp)) rfl (rfl) ((pR1 ha hx1).trans HU.out)).mono ?_; rintro e wq ⟨rfl, hB⟩; replace hst := hst.next hB; clear hB
              go_wp2_with fail
              refine (pageG gp (x) (hst.get (A := AP) (l := xp) (by simp)) rfl (rfl) ((pP1 ha hx1).trans HU.out)).mono ?_; rintro e wq ⟨rfl, hB⟩; replace hst := hst.next hB; clear hB
              go_wp2_with fail
              refine (pageG gq (x) (hst.get (A := AQ) (l := xq) (by simp)) rfl (rfl) ((pQ1 ha hx1).trans HU.out)).mono ?_; rintro e wq ⟨rfl, hB⟩; replace hst := hst.next hB; clear hB
              go_wp2_with fail
              go_meet
              exact hst
            · by_cases hx2 : (x : Int) < (a : Int) + (M.length : Int)
              · obtain ⟨v, hv⟩ : ∃ v, pgv M (x - a) = v := ⟨_, rfl⟩
                have Kv := Lib.hid hv
                clear hv
                go_wp2_with fail
                refine (pageG gi (x) (hst.get (A := AI) (l := xi) (by simp)) rfl (rfl) ((pI2 ha (by omega) (by omega)).trans Kv.out)).mono ?_; rintro e wq ⟨rfl, hB⟩; replace hst := hst.next hB; clear hB
                go_wp2_with fail
                refine (pageG gm (x - a) (hst.get (A := A') (l := more) (by simp)) rfl (by omega) (Kv.out)).mono ?_; rintro e wq ⟨rfl, hB⟩; replace hst := hst.next hB; clear hB
                go_wp2_with fail
                refine (pageG gq (x) (hst.get (A := AQ) (l := xq) (by simp)) rfl (rfl) ((pQ2 ha (by omega) (by omega)).trans Kv.out)).mono ?_; rintro e wq ⟨rfl, hB⟩; replace hst := hst.next hB; clear hB
                go_wp2_with fail
                refine (pageG gm (x - a) (hst.get (A := A') (l := more) (by simp)) rfl (by omega) (Kv.out)).mono ?_; rintro e wq ⟨rfl, hB⟩; replace hst := hst.next hB; clear hB
                go_wp2_with fail
                go_meet
                exact hst
              · obtain ⟨v, hv⟩ : ∃ v, pgv F (x - M.length) = v := ⟨_, rfl⟩
                have Kv := Lib.hid hv
                clear hv
                go_wp2_with fail
                refine (pageG gi (x) (hst.get (A := AI) (l := xi) (by simp)) rfl (rfl) ((pI3 ha (by omega)).trans Kv.out)).mono ?_; rintro e wq ⟨rfl, hB⟩; replace hst := hst.next hB; clear hB
                go_wp2_with fail
                refine (pageG gl (x - M.length) (hst.get (A := A) (l := l) (by simp)) rfl (by omega) (Kv.out)).mono ?_; rintro e wq ⟨rfl, hB⟩; replace hst := hst.next hB; clear hB
                go_wp2_with fail
                refine (pageG gq (x) (hst.get (A := AQ) (l := xq) (by simp)) rfl (rfl) ((pQ3 ha (by omega)).trans HU.out)).mono ?_; rintro e wq ⟨rfl, hB⟩; replace hst := hst.next hB; clear hB
                go_wp2_with fail
                go_meet
                exact hst
        case rest =>
          clear hst
          have hst := hcut
          go_upto_region 39 with fail
          go_cut [344] (fun s wz => s = .bool false ∧ St w wz [(AL, xl), (AQ, xq), (AG, xo), (AP, xp), (AO, xo), (AR, xr), (AI, xi), (AJ, xj), (AB, xb), (AA, xa), (A, l), (A', more)] [])
          case first =>
            as_aux_lemma =>
              obtain ⟨v, hv⟩ : ∃ v, pgv F (x + q) = v := ⟨_, rfl⟩
              have Kv := Lib.hid hv
              clear hv
              by_cases hx1 : x < a
              · have hx1' : ¬ a ≤ x := by omega
                have hx3 : ¬ ((a : Int) + (q : Int) ≤ (x : Int)) := by omega
                go_wp2_with fail
                go_meet
                exact ⟨rfl, hst⟩
              · have hx1' : a ≤ x := by omega
                by_cases hx2 : (x : Int) < (a : Int) + (q : Int)
                · have hx3 : ¬ ((a : Int) + (q : Int) ≤ (x : Int)) := by omega
                  go_wp2_with fail
                  refine (pageG gr (x) (hst.get (A := AR) (l := xr) (by simp)) rfl (rfl) ((pR2 ha (by omega)).trans Kv.out)).mono ?_; rintro e wq ⟨rfl, hB⟩; replace hst := hst.next hB; clear hB
                  go_wp2_with fail
                  refine (pageG gl (x + q) (hst.get (A := A) (l := l) (by simp)) rfl (by omega) (Kv.out)).mono ?_; rintro e wq ⟨rfl, hB⟩; replace hst := hst.next hB; clear hB
                  go_wp2_with fail
                  refine (pageG gp (x) (hst.get (A := AP) (l := xp) (by simp)) rfl (rfl) (pP2 ha (by omega) (by omega))).mono ?_; rintro e wq ⟨rfl, hB⟩; replace hst := hst.next hB; clear hB
                  go_wp2_with fail
                  go_meet
                  exact ⟨rfl, hst⟩
                · have hx3 : (a : Int) + (q : Int) ≤ (x : Int) := by omega
                  go_wp2_with fail
                  refine (pageG gr (x) (hst.get (A := AR) (l := xr) (by simp)) rfl (rfl) ((pR2 ha (by omega)).trans Kv.out)).mono ?_; rintro e wq ⟨rfl, hB⟩; replace hst := hst.next hB; clear hB
                  go_wp2_with fail
                  refine (pageG gl (x + q) (hst.get (A := A) (l := l) (by simp)) rfl (by omega) (Kv.out)).mono ?_; rintro e wq ⟨rfl, hB⟩; replace hst := hst.next hB; clear hB
                  go_wp2_with fail
                  refine (pageG gp (x) (hst.get (A := AP) (l := xp) (by simp)) rfl (rfl) ((pP3 ha (by omega)).trans HU.out)).mono ?_; rintro e wq ⟨rfl, hB⟩; replace hst := hst.next hB; clear hB
                  go_wp2_with fail
                  go_meet
                  exact ⟨rfl, hst⟩
          case rest =>
            clear hst
            obtain ⟨rfl, hst⟩ := hcut
            go_upto_region 41 with fail
            go_cut [392] (fun s wz => s = .bool false ∧ St w wz [(AL, xl), (AQ, xq), (AG, xo), (AP, xp), (AO, xo), (AR, xr), (AI, xi), (AJ, xj), (AB, xb), (AA, xa), (A, l), (A', more)] [])
            case first =>
              as_aux_lemma =>
                obtain ⟨v, hv⟩ : ∃ v, pgv F (a + x) = v := ⟨_, rfl⟩
                have Kv := Lib.hid hv
                clear hv
                by_cases hx1 : x < q
                · have hx3 : (x : Int) + (a : Int) < (F.length : Int) := by omega
                  by_cases hx2 : x < M.length
                  · go_wp2_with fail
                    refine (pageG go_ (x) (hst.get (A := AO) (l := xo) (by simp)) rfl (rfl) ((pO hx1).trans Kv.out)).mono ?_; rintro e wq ⟨rfl, hB⟩; replace hst := hst.next hB; clear hB
                    go_wp2_with fail
                    refine (pageG gl (a + x) (hst.get (A := A) (l := l) (by simp)) rfl (by omega) (Kv.out)).mono ?_; rintro e wq ⟨rfl, hB⟩; replace hst := hst.next hB; clear hB
                    go_wp2_with fail
                    refine (pageG go_ (x) (hst.get (A := AG) (l := xo) (by simp)) rfl (rfl) ((pO hx1).trans Kv.out)).mono ?_; rintro e wq ⟨rfl, hB⟩; replace hst := hst.next hB; clear hB
                    go_wp2_with fail
                    refine (pageG gl (a + x) (hst.get (A := A) (l := l) (by simp)) rfl (by omega) (Kv.out)).mono ?_; rintro e wq ⟨rfl, hB⟩; replace hst := hst.next hB; clear hB
                    go_wp2_with fail
                    refine (pageG gol (x) (hst.get (A := AL) (l := xl) (by simp)) rfl (rfl) ((pO hx2).trans Kv.out)).mono ?_; rintro e wq ⟨rfl, hB⟩; replace hst := hst.next hB; clear hB
                    go_wp2_with fail
                    refine (pageG gl (a + x) (hst.get (A := A) (l := l) (by simp)) rfl (by omega) (Kv.out)).mono ?_; rintro e wq ⟨rfl, hB⟩; replace hst := hst.next hB; clear hB
                    go_wp2_with fail
                    go_meet
                    exact ⟨rfl, hst⟩
                  · go_wp2_with fail
                    refine (pageG go_ (x) (hst.get (A := AO) (l := xo) (by simp)) rfl (rfl) ((pO hx1).trans Kv.out)).mono ?_; rintro e wq ⟨rfl, hB⟩; replace hst := hst.next hB; clear hB
                    go_wp2_with fail
                    refine (pageG gl (a + x) (hst.get (A := A) (l := l) (by simp)) rfl (by omega) (Kv.out)).mono ?_; rintro e wq ⟨rfl, hB⟩; replace hst := hst.next hB; clear hB
                    go_wp2_with fail
                    refine (pageG go_ (x) (hst.get (A := AG) (l := xo) (by simp)) rfl (rfl) ((pO hx1).trans Kv.out)).mono ?_; rintro e wq ⟨rfl, hB⟩; replace hst := hst.next hB; clear hB
                    go_wp2_with fail
                    refine (pageG gl (a + x) (hst.get (A := A) (l := l) (by simp)) rfl (by omega) (Kv.out)).mono ?_; rintro e wq ⟨rfl, hB⟩; replace hst := hst.next hB; clear hB
                    go_wp2_with fail
                    go_meet
                    exact ⟨rfl, hst⟩
                · by_cases hx2 : x < M.length
                  · by_cases hx3 : (x : Int) + (a : Int) < (F.length : Int)
                    · go_wp2_with fail
                      refine (pageG gol (x) (hst.get (A := AL) (l := xl) (by simp)) rfl (rfl) ((pO hx2).trans Kv.out)).mono ?_; rintro e wq ⟨rfl, hB⟩; replace hst := hst.next hB; clear hB
                      go_wp2_with fail
                      refine (pageG gl (a + x) (hst.get (A := A) (l := l) (by simp)) rfl (by omega) (Kv.out)).mono ?_; rintro e wq ⟨rfl, hB⟩; replace hst := hst.next hB; clear hB
                      go_wp2_with fail
                      go_meet
                      exact ⟨rfl, hst⟩
                    · go_wp2_with fail
                      go_meet
                      exact ⟨rfl, hst⟩
                  · go_wp2_with fail
                    go_meet
                    exact ⟨rfl, hst⟩
            case rest =>
              clear hst
              obtain ⟨rfl, hst⟩ := hcut
              go_wp2_with fail
              go_roundg (F.length + M.length + 1 - (x + 1))
              case measure => have := HGH.out; omega
              case rel => exact ⟨x + 1, by omega, rfl, by go_num, hst⟩
    · have hxd : ¬ (x : Int) ≤ (F.length : Int) + (M.length : Int) := by omega
      go_wp2_with fail
      refine (sanity_any _).mono ?_; rintro e wq ⟨rfl, hB⟩; replace hst := hst.next hB; clear hB
      go_wp2_with fail
      refine (pageG ga a (hst.get (A := AA) (l := xa) (by simp)) rfl rfl (pgv_none (by simp; omega))).mono ?_; rintro e wq ⟨rfl, hB⟩; replace hst := hst.next hB; clear hB
      go_wp2_with fail
      go_ret
      exact ⟨rfl, hst.below⟩

end Go.Proofs.Ytjdkdogiaokhjaa
