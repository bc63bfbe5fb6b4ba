/- Runs: the law's few, fits; Punch and Put as a whole. -/
import Derived.Test.YtjdkdogiaokhjaaTa
import Derived.Deep.DeepCutAuto
namespace Go.Proofs.Ytjdkdogiaokhjaa
open Go.RowKit Go.Proofs
set_option linter.unusedSimpArgs false
set_option linter.unusedVariables false

def fewB (l : List R) : Bool := decide (l.length ≤ 60) || (decide (2000 < l.length) && decide (l.length ≤ 2005))
def fewsB (ls : List (Value × List R)) : Bool := ls.all fun p => fewB p.2
theorem fewsB_take_succ (ls : List (Value × List R)) (k : Nat) (h : k < ls.length) : fewsB (ls.take (k + 1)) = (fewsB (ls.take k) && fewB ls[k].2) := by
  unfold fewsB
  rw [List.take_succ_eq_append_getElem h, List.all_append]; simp
theorem fewsB_false (ls : List (Value × List R)) (k : Nat) (h : k < ls.length) (hk : fewB ls[k].2 = false) : fewsB ls = false := by
  unfold fewsB
  rw [List.all_eq_false]; exact ⟨ls[k], List.getElem_mem h, by simp [hk]⟩
theorem fews1 (v : Value) (l : List R) : fewsB [(v, l)] = fewB l := by simp [fewsB]
theorem fews2 (v v' : Value) (l l' : List R) : fewsB [(v, l), (v', l')] = (fewB l && fewB l') := by simp [fewsB]
theorem few_len {l : List R} (h : fewB l = true) : l.length ≤ 2005 := by
  simp [fewB] at h; omega
set_option maxRecDepth 100000 in
set_option maxHeartbeats 1000000 in
theorem few_any (A : Option Addr) (ls : List (Value × List R)) (c : Nat) (w : World) (hR : RdS w A ls) (hn : ls.length ≤ 1000) :
    Calls Try.prog 13 #[.slice A ls.length c] w fun e w' => e = .returned (.bool (fewsB ls)) ∧ w' = w := by
  go_enter Try.func13, Try.ntmps13
  go_wp2
  go_loop [3] (fun i => ∃ k : Nat, k ≤ ls.length ∧ i = .int .i64 k ∧ fewsB (ls.take k) = true) (fun i => ls.length - (intOf i).toNat)
  case atStart => exact ⟨0, by omega, rfl, rfl⟩
  case round =>
    obtain ⟨k, hk, rfl, hall⟩ := hrel
    by_cases hlt : k < ls.length
    · obtain ⟨b, rfl, hc⟩ := hR
      obtain ⟨c1, A', c', e1, _⟩ := hc k hlt
      rw [e1] at c1
      have HS := Lib.hid (fewsB_take_succ ls k hlt)
      have HF := Lib.hid (fewsB_false ls k hlt)
      have HA := Lib.hid hall
      clear hc hall e1
      generalize ls[k].2 = l at *
      by_cases h1 : 60 < l.length
      · have g1 : (60 : Int) < l.length := by omega
        by_cases h2 : l.length ≤ 2000
        · have g2 : (l.length : Int) ≤ 2000 := by omega
          have HE := Lib.hid (HF.out (by simp [fewB]; omega))
          go_wp2
          go_ret
          exact ⟨by rw [HE.out]; rfl, rfl⟩
        · have g2 : ¬ (l.length : Int) ≤ 2000 := by omega
          by_cases h3 : 2005 < l.length
          · have g3 : (2005 : Int) < l.length := by omega
            have HE := Lib.hid (HF.out (by simp [fewB]; omega))
            go_wp2
            go_ret
            exact ⟨by rw [HE.out]; rfl, rfl⟩
          · have g3 : ¬ (2005 : Int) < l.length := by omega
            have HE := Lib.hid (show fewB l = true by simp [fewB]; omega)
            go_wp2
            go_round
            case rel => exact ⟨k + 1, by omega, by go_num, by rw [HS.out, HA.out, HE.out]; rfl⟩
            case measure => simp [intOf]; omega
      · have g1 : ¬ (60 : Int) < l.length := by omega
        have g3 : ¬ (2005 : Int) < l.length := by omega
        have HE := Lib.hid (show fewB l = true by simp [fewB]; omega)
        go_wp2
        go_round
        case rel => exact ⟨k + 1, by omega, by go_num, by rw [HS.out, HA.out, HE.out]; rfl⟩
        case measure => simp [intOf]; omega
    · have e : k = ls.length := by omega
      subst e
      rw [List.take_length] at hall
      have HA := Lib.hid hall
      clear hall
      go_wp2
      go_ret
      exact ⟨by rw [HA.out]; rfl, rfl⟩
theorem fitsE_two {l : List R} (h : fitsE l ≠ 0) : fitsE l = 2 := by
  unfold fitsE at *; split at h <;> simp_all
set_option maxRecDepth 100000 in
theorem lawFits_any {A : Option Addr} {l : List R} {n c : Nat} {w : World} {N : Nat} {S : Int} (hR : Rd w A l) (hn : n = l.length) (h : Gd l N S) (hN : N ≤ 1048570) :
    Calls Try.prog 22 #[.slice A n c] w fun e w' => e = .returned (.int .i64 (fitsE l)) ∧ Below w.heap.size w w' := by
  subst hn
  have HS := Lib.hid (RSize (c := c) hR rfl h hN)
  by_cases h1 : l.length ≤ 2000
  · have g1 : ¬ (2000 : Int) < l.length := by omega
    by_cases h2 : sumR l ≤ 1073741824
    · have hE := Lib.hid (show fitsE l = 0 from if_pos ⟨h1, h2⟩)
      have g2 : ¬ 1073741824 < sumR l := by omega
      clear h
      go_enter Try.func22, Try.ntmps22
      go_wp2_with fail
      refine HS.out.mono ?_
      rintro e w1 ⟨rfl, hB⟩
      go_wp2_with fail
      go_ret
      exact ⟨by rw [hE.out]; rfl, hB⟩
    · have hE := Lib.hid (show fitsE l = 2 from if_neg (by omega))
      have g2 : 1073741824 < sumR l := by omega
      clear h
      go_enter Try.func22, Try.ntmps22
      go_wp2_with fail
      refine HS.out.mono ?_
      rintro e w1 ⟨rfl, hB⟩
      go_wp2_with fail
      go_ret
      exact ⟨by rw [hE.out]; rfl, hB⟩
  · have g1 : (2000 : Int) < l.length := by omega
    have hE := Lib.hid (show fitsE l = 2 from if_neg (by omega))
    clear h
    go_enter Try.func22, Try.ntmps22
    go_wp2_with fail
    refine HS.out.mono ?_
    rintro e w1 ⟨rfl, hB⟩
    go_wp2_with fail
    go_ret
    exact ⟨by rw [hE.out]; rfl, hB⟩
/-- two mappings and an error, as they read -/
def TwoE (w0 : World) (r : Int × List R × List R) (x : Ending) (w' : World) : Prop :=
  ∃ A1 c1 A2 c2, x = .returned (.tuple #[.slice A1 r.2.1.length c1, .slice A2 r.2.2.length c2, .int .i64 r.1]) ∧ Rd w' A1 r.2.1 ∧ Rd w' A2 r.2.2 ∧ Below w0.heap.size w0 w'
theorem twoE_of {w0 : World} {r : Int × List R × List R} {x : Ending} {w' : World} (h : Res2 w0 r.1 r.2.1 r.2.2 x w') : TwoE w0 r x w' := by
  obtain ⟨v1, v2, rfl, h1, h2, hB⟩ := h
  obtain ⟨A1, c1, rfl, _, _, r1⟩ := own_form h1
  obtain ⟨A2, c2, rfl, _, _, r2⟩ := own_form h2
  exact ⟨A1, c1, A2, c2, rfl, r1, r2, hB⟩
def OneE (w0 : World) (r : Int × List R) (x : Ending) (w' : World) : Prop :=
  ∃ A1 c1, x = .returned (.tuple #[.slice A1 r.2.length c1, .int .i64 r.1]) ∧ Rd w' A1 r.2 ∧ Below w0.heap.size w0 w'
theorem oneE_of {w0 : World} {r : Int × List R} {x : Ending} {w' : World} (h : Res1 w0 r.1 r.2 x w') : OneE w0 r x w' := by
  obtain ⟨v1, rfl, h1, hB⟩ := h
  obtain ⟨A1, c1, rfl, _, _, r1⟩ := own_form h1
  exact ⟨A1, c1, rfl, r1, hB⟩
instance (l : List R) (page many : Int) : Decidable (inR l page many) := inferInstanceAs (Decidable (_ ∧ _ ∧ _ ∧ _))
def punchR (l : List R) (page many : Int) : Int × List R × List R := if mustE l ≠ 0 then (mustE l, [], []) else if inR l page many then punchOk l page many else (24, [], [])
theorem Punch_any (A : Option Addr) (l : List R) (c : Nat) (page many : Int) (w : World) (hR : Rd w A l) (hn : l.length ≤ 1048576) :
    Calls Try.prog 17 #[.slice A l.length c, .int .i64 page, .int .i64 many] w (TwoE w (punchR l page many)) := by
  unfold punchR
  split
  · exact (Punch_bad A l c page many w hR hn (by assumption)).mono fun e w' h => twoE_of (r := (_, _, _)) h
  · rename_i h0
    split
    · exact (Punch_ok A l c page many w hR hn (by simpa using h0) (by assumption)).mono fun e w' h => twoE_of h
    · exact (Punch_range A l c page many w hR hn (by simpa using h0) (by assumption)).mono fun e w' h => twoE_of (r := (_, _, _)) h
def putR (l : List R) (page : Int) (more : List R) : Int × List R × List R := if mustE l ≠ 0 then (mustE l, [], []) else if mustE more ≠ 0 then (mustE more, [], []) else if 0 ≤ page ∧ page ≤ 1073741824 then putOk l page more else (24, [], [])
theorem Put_any (A : Option Addr) (l : List R) (c : Nat) (page : Int) (A' : Option Addr) (more : List R) (c' : Nat) (w : World) (hR : Rd w A l) (hn : l.length ≤ 1048576) (hR' : Rd w A' more) (hn' : more.length ≤ 1048576) :
    Calls Try.prog 18 #[.slice A l.length c, .int .i64 page, .slice A' more.length c'] w (TwoE w (putR l page more)) := by
  unfold putR
  split
  · exact (Put_bad1 A l c page A' more c' w hR hn hR' hn' (by assumption)).mono fun e w' h => twoE_of (r := (_, _, _)) h
  · rename_i h0
    split
    · exact (Put_bad2 A l c page A' more c' w hR hn hR' hn' (by simpa using h0) (by assumption)).mono fun e w' h => twoE_of (r := (_, _, _)) h
    · rename_i h1
      split
      · rename_i hp
        exact (Put_ok A l c page A' more c' w hR hn hR' hn' (by simpa using h0) (by simpa using h1) hp.1 hp.2).mono fun e w' h => twoE_of h
      · exact (Put_range A l c page A' more c' w hR hn hR' hn' (by simpa using h0) (by simpa using h1) (by assumption)).mono fun e w' h => twoE_of (r := (_, _, _)) h
theorem worst2 (a b : Int) : worstR [a, b] = if a = 0 then b else a := by
  simp only [worstR]
  by_cases h : a = 0
  · simp only [h, if_true]; by_cases hb : b = 0 <;> simp [hb]
  · simp [h]
theorem worst_two {A : Option Addr} (a b : Int) {n c : Nat} {w : World} (hR : RdE w A [a, b]) (hl : n = 2) :
    Calls Try.prog 16 #[.slice A n c] w fun e w' => e = .returned (.int .i64 (if a = 0 then b else a)) ∧ w' = w := by
  subst hl
  have h := worst_any A [a, b] c w hR (by simp)
  rw [worst2] at h
  exact h
/-! plain laws: the specification's results are the program's -/
theorem norm_pg_eq {a b : List R} (ha : Wk a) (hb : Wk b) (h : pg a = pg b) : norm a = norm b := norm_eq ha hb h
theorem part_far {l : List R} (h : mustE l = 0) (a b : Int) (ha : 0 ≤ a) (hb : sumR l ≤ b) : partR l a b = partR l a (sumR l) := by
  have hw := (okL_of_must h).wk
  rw [part_pg hw, part_pg hw]
  congr 1
  have := pg_len hw
  rw [List.take_of_length_le (by omega), List.take_of_length_le (by omega)]
theorem Wk.hole {many : Int} (h : 0 ≤ many) : Wk [(-1, many)] := fun r hr => by simp at hr; subst hr; exact ⟨by show (-1 : Int) ≤ -1; omega, h⟩
theorem refPunch_eq {l : List R} {page many : Int} (h : mustE l = 0) (hi : inR l page many) : refPunchX l page many = punchX l page many := by
  obtain ⟨i1, i2, i3, i4⟩ := hi
  have hw := (okL_of_must h).wk
  have hs := (mustE_zero h).2.2
  unfold refPunchX punchX
  rw [part_far h (page + many) _ (by omega) (by omega)]
  have w0 := wk_part hw 0 page
  have w2 := wk_part hw (page + many) (sumR l)
  have wh := Wk.hole i2
  refine norm_eq (w0.append (wk_norm ((wk_norm wh).append w2))) ((w0.append wh).append w2) ?_
  rw [pg_append, pg_norm ((wk_norm wh).append w2), pg_append, pg_norm wh, pg_append, pg_append, List.append_assoc]
theorem refPut_eq {l more : List R} {page : Int} (h : mustE l = 0) (k : mustE more = 0) (hz : sumR more ≠ 0) (hp : 0 ≤ page) : refPutX l page more = putX l page more := by
  have hw := (okL_of_must h).wk
  have kw := (okL_of_must k).wk
  have hs := (mustE_zero h).2.2
  have k0 := pages_nonneg k
  have l0 := pages_nonneg h
  unfold refPutX putX refHead gapR
  rw [part_far h (page + sumR more) _ (by omega) (by omega)]
  have w0 := wk_part hw 0 page
  have w2 := wk_part hw (page + sumR more) (sumR l)
  split
  · rename_i hlt
    have wh := Wk.hole (many := page - sumR l) (by omega)
    rw [if_pos ⟨by omega, hlt⟩]
    refine norm_eq ((wk_norm (w0.append (wk_norm wh))).append (wk_norm (kw.append w2))) (((w0.append wh).append kw).append w2) ?_
    rw [pg_append, pg_norm (w0.append (wk_norm wh)), pg_append, pg_norm wh, pg_norm (kw.append w2), pg_append, pg_append, pg_append, pg_append]
    simp
  · rename_i hlt
    rw [if_neg (by omega), List.append_nil]
    refine norm_eq (w0.append (wk_norm (kw.append w2))) ((w0.append kw).append w2) ?_
    rw [pg_append, pg_norm (kw.append w2), pg_append, pg_append, pg_append, List.append_assoc]
theorem refPut_eq0 {l more : List R} {page : Int} (h : mustE l = 0) (k : mustE more = 0) (hz : sumR more = 0) (hp : 0 ≤ page) : putX l page more = norm l ∧ partR l page (page + sumR more) = [] := by
  have hw := (okL_of_must h).wk
  have kw := (okL_of_must k).wk
  have kp := pg_len kw
  have hM : pg more = [] := List.eq_nil_of_length_eq_zero (by omega)
  constructor
  · rw [put_pg hw kw, hM, hz, norm_pg hw]; simp
  · rw [part_pg hw, hz]; simp [norm, addAll]
theorem part_fits {l : List R} (h : mustE l = 0) (fr to_ : Int) : fitsE (partR l fr to_) = 0 := by
  have h2 := partR_sum (mild_of_must h) fr to_
  have h3 := partR_len l fr to_
  obtain ⟨h4, _, h5⟩ := mustE_zero h
  exact if_pos ⟨by omega, by omega⟩
end Go.Proofs.Ytjdkdogiaokhjaa
