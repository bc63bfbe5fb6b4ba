/- Runs: the specification's Punch, Put; the law's fits, few. -/
import Derived.Test.YtjdkdogiaokhjaaRz
import Derived.Test.YtjdkdogiaokhjaaSm
import Derived.Test.YtjdkdogiaokhjaaSe
namespace Go.Proofs.Ytjdkdogiaokhjaa
open Go.RowKit Go.Proofs
set_option linter.unusedSimpArgs false
set_option linter.unusedVariables false

/-- a list of at most n runs and s pages -/
structure Gd (l : List R) (n : Nat) (s : Int) : Prop where
  fn : Fn l
  len : l.length ≤ n
  sum : sumR l ≤ s
theorem Gd.norm_ {l : List R} {n : Nat} {s : Int} (h : Gd l n s) : Gd (norm l) n s := ⟨h.fn.norm_, Nat.le_trans (norm_len l) h.len, by rw [norm_sum]; exact h.sum⟩
theorem Gd.append {a b : List R} {n m : Nat} {s t : Int} (h : Gd a n s) (k : Gd b m t) (hs : s + t ≤ 1099511627776) : Gd (a ++ b) (n + m) (s + t) :=
  ⟨⟨fun r hr => by rcases List.mem_append.1 hr with hr | hr; exact h.fn.1 r hr; exact k.fn.1 r hr, by rw [sumR_append]; have := h.sum; have := k.sum; omega⟩, by simp; have := h.len; have := k.len; omega, by rw [sumR_append]; have := h.sum; have := k.sum; omega⟩
theorem Gd.of_must {l : List R} (h : mustE l = 0) : Gd l 2000 1073741824 := ⟨Fn.of_mild (mild_of_must h), (mustE_zero h).1, (mustE_zero h).2.2⟩
theorem Gd.part {l : List R} (h : mustE l = 0) (fr to : Int) : Gd (partR l fr to) 2000 1073741824 := by
  have h1 := part_fine h fr to
  have h2 := partR_sum (mild_of_must h) fr to
  have h3 := partR_len l fr to
  obtain ⟨h4, _, h5⟩ := mustE_zero h
  exact ⟨h1.1, by omega, by omega⟩
theorem Gd.hole {many : Int} (h0 : 0 ≤ many) (h1 : many ≤ 1073741824) : Gd (norm [(-1, many)]) 1 1073741824 :=
  (⟨⟨fun r hr => by simp at hr; subst hr; simp only; omega, by simp [sumR]; omega⟩, by simp, by simp [sumR]; omega⟩ : Gd [(-1, many)] 1 1073741824).norm_
theorem RPart (A : Option Addr) (l : List R) {n : Nat} (c : Nat) (page many : Int) (w : World) (hn : n = l.length) (hR : Rd w A l) (h0 : mustE l = 0) (hp : 0 ≤ page ∧ page ≤ 8589934592) (hq : 0 ≤ many ∧ many ≤ 8589934592) :
    Calls Try.prog 21 #[.slice A n c, .int .i64 page, .int .i64 many] w (AddN w (partR l page (page + many))) := by
  subst hn
  exact refPart_any A l c page many w hR (by have := (mustE_zero h0).1; omega) (mild_of_must h0) hp hq
theorem RJoin {A A' : Option Addr} {l m : List R} {n n' c c' : Nat} {w : World} {N M : Nat} {S T : Int} (hR : Rd w A l) (hR' : Rd w A' m) (hn : n = l.length) (hn' : n' = m.length) (h : Gd l N S) (k : Gd m M T) (hN : N + M ≤ 1048570) (hs : S + T ≤ 1099511627776) :
    Calls Try.prog 40 #[.slice A n c, .slice A' n' c'] w (AddN w (norm (l ++ m))) := by
  subst hn hn'
  exact refJoin_any A l c A' m c' w hR hR' (by have := h.len; have := k.len; omega) h.fn k.fn (by have := h.sum; have := k.sum; omega)
theorem RNorm {A : Option Addr} {l : List R} {n c : Nat} {w : World} {N : Nat} {S : Int} (hR : Rd w A l) (hn : n = l.length) (h : Gd l N S) (hN : N ≤ 1048570) :
    Calls Try.prog 48 #[.slice A n c] w (AddN w (norm l)) := by
  subst hn
  exact refNorm_any A l c w hR (by have := h.len; omega) h.fn
theorem RSize {A : Option Addr} {l : List R} {n c : Nat} {w : World} {N : Nat} {S : Int} (hR : Rd w A l) (hn : n = l.length) (h : Gd l N S) (hN : N ≤ 1048570) :
    Calls Try.prog 19 #[.slice A n c] w (RefSizePost l w) := by
  subst hn
  exact refSize_any A l c w hR (by have := h.len; omega) (fun r hr => (h.fn.1 r hr).2.2) h.fn.2
def refPunchX (l : List R) (page many : Int) : List R := norm (partR l 0 page ++ norm (norm [(-1, many)] ++ partR l (page + many) (page + many + 1073741824)))
set_option maxRecDepth 100000 in
set_option maxHeartbeats 1000000 in
theorem refPunch_any (A : Option Addr) (l : List R) (c : Nat) (page many : Int) (w : World) (hR : Rd w A l) (h0 : mustE l = 0) (hi : inR l page many) :
    Calls Try.prog 20 #[.slice A l.length c, .int .i64 page, .int .i64 many] w (AddN w (refPunchX l page many)) := by
  have H0 := Lib.hid h0
  obtain ⟨i1, i2, i3, i4⟩ := hi
  have hsm := (mustE_zero h0).2.2
  have hst := (St.start w).push hR
  have G0 := Gd.part h0 0 page
  have G2 := Gd.part h0 (page + many) (page + many + 1073741824)
  have GH := Gd.hole (many := many) i2 (by omega)
  have GI := (GH.append G2 (by omega)).norm_
  clear h0 hR
  go_enter Try.func20, Try.ntmps20
  go_wp2_with fail
  refine (RPart A l c 0 page _ rfl (hst.get (A := A) (l := l) (by simp)) H0.out (by omega) (by omega)).mono ?_
  rw [Int.zero_add]
  rintro e w1 ⟨A1, c1, rfl, hN, hB⟩
  replace hst := (hst.next hB).push hN.1
  clear hN hB
  go_wp2_with fail
  refine (refHole_any many _ i2 (by omega)).mono ?_
  rintro e w2 ⟨A2, c2, rfl, hN, hB⟩
  replace hst := (hst.next hB).push hN.1
  clear hN hB
  go_wp2_with fail
  refine (RPart A l c (page + many) 1073741824 _ rfl (hst.get (A := A) (l := l) (by simp)) H0.out (by omega) (by omega)).mono ?_
  rintro e w3 ⟨A3, c3, rfl, hN, hB⟩
  replace hst := (hst.next hB).push hN.1
  clear hN hB
  go_wp2_with fail
  refine (RJoin (hst.get (A := A2) (l := norm [(-1, many)]) (by simp)) (hst.get (A := A3) (l := partR l (page + many) (page + many + 1073741824)) (by simp)) rfl rfl GH G2 (by omega) (by omega)).mono ?_
  rintro e w4 ⟨A4, c4, rfl, hN, hB⟩
  replace hst := (hst.next hB).push hN.1
  clear hN hB
  go_wp2_with fail
  refine (RJoin (hst.get (A := A1) (l := partR l 0 page) (by simp)) (hst.get (A := A4) (l := norm (norm [(-1, many)] ++ partR l (page + many) (page + many + 1073741824))) (by simp)) rfl rfl G0 GI (by omega) (by omega)).mono ?_
  rintro e w5 ⟨A5, c5, rfl, hN, hB⟩
  replace hst := hst.next hB
  clear hB
  go_wp2_with fail
  go_ret
  exact ⟨A5, c5, rfl, hN, hst.below⟩
def refHead (l : List R) (page : Int) : List R := if sumR l < page then norm (partR l 0 page ++ norm [(-1, page - sumR l)]) else partR l 0 page
def refPutX (l : List R) (page : Int) (more : List R) : List R := norm (refHead l page ++ norm (more ++ partR l (page + sumR more) (page + sumR more + 1073741824)))
def AddN2 (w : World) (a b : List R) (e : Ending) (w' : World) : Prop := ∃ A1 c1 A2 c2, e = .returned (.tuple #[.slice A1 a.length c1, .slice A2 b.length c2]) ∧ RdN w' A1 c1 a ∧ RdN w' A2 c2 b ∧ Below w.heap.size w w'
theorem refHead_gd {l : List R} (h0 : mustE l = 0) {page : Int} (hp : 0 ≤ page) (hp1 : page ≤ 1073741824) : Gd (refHead l page) 2001 2147483648 := by
  have hl0 := pages_nonneg h0
  unfold refHead
  split
  · exact ((Gd.part h0 0 page).append (Gd.hole (by omega) (by omega)) (by omega)).norm_
  · have := Gd.part h0 0 page
    exact ⟨this.fn, by have := this.len; omega, by have := this.sum; omega⟩
set_option maxRecDepth 100000 in
set_option maxHeartbeats 1000000 in
theorem refPut_zero (A : Option Addr) (l : List R) (c : Nat) (page : Int) (A' : Option Addr) (more : List R) (c' : Nat) (w : World) (hR : Rd w A l) (hR' : Rd w A' more) (h0 : mustE l = 0) (h1 : mustE more = 0) (hz : sumR more = 0) :
    Calls Try.prog 23 #[.slice A l.length c, .int .i64 page, .slice A' more.length c'] w (AddN2 w (norm l) []) := by
  have hst := ((St.start w).push hR).push hR'
  have G := Gd.of_must h0
  have GM := Gd.of_must h1
  have HZ := Lib.hid hz
  clear h0 h1 hR hR' hz
  go_enter Try.func23, Try.ntmps23
  go_wp2_with fail
  refine (RSize (hst.get (A := A) (l := l) (by simp)) rfl G (by omega)).mono ?_
  rintro e w1 ⟨rfl, hB⟩
  replace hst := hst.next hB
  clear hB
  go_wp2_with fail
  refine (RSize (hst.get (A := A') (l := more) (by simp)) rfl GM (by omega)).mono ?_
  rintro e w2 ⟨rfl, hB⟩
  replace hst := hst.next hB
  clear hB
  rw [HZ.out]
  go_wp2_with fail
  refine (RNorm (hst.get (A := A) (l := l) (by simp)) rfl G (by omega)).mono ?_
  rintro e w3 ⟨A1, c1, rfl, hN, hB⟩
  replace hst := hst.next hB
  clear hB
  go_wp2_with fail
  go_ret2
  exact ⟨A1, c1, none, 0, rfl, hN, RdN.nil _, hst.below⟩
set_option maxRecDepth 100000 in
set_option maxHeartbeats 2000000 in
theorem refPut_some (A : Option Addr) (l : List R) (c : Nat) (page : Int) (A' : Option Addr) (more : List R) (c' : Nat) (w : World) (hR : Rd w A l) (hR' : Rd w A' more) (h0 : mustE l = 0) (h1 : mustE more = 0) (hz : sumR more ≠ 0) (hp : 0 ≤ page) (hp1 : page ≤ 1073741824) :
    Calls Try.prog 23 #[.slice A l.length c, .int .i64 page, .slice A' more.length c'] w (AddN2 w (refPutX l page more) (partR l page (page + sumR more))) := by
  have H0 := Lib.hid h0
  have hst := ((St.start w).push hR).push hR'
  have G := Gd.of_must h0
  have GM := Gd.of_must h1
  have hsm := (mustE_zero h0).2.2
  have hsm' := (mustE_zero h1).2.2
  have hl0 := pages_nonneg h0
  have hm0 := pages_nonneg h1
  have G0 := Gd.part h0 0 page
  have G2 := Gd.part h0 (page + sumR more) (page + sumR more + 1073741824)
  have GI := (GM.append G2 (by omega)).norm_
  have GH := refHead_gd h0 hp hp1
  have hz' : (sumR more == 0) = false := by simpa using hz
  have hhead : ∀ (Q : List R → Prop), (sumR l < page → Q (norm (partR l 0 page ++ norm [(-1, page - sumR l)]))) → (¬ sumR l < page → Q (partR l 0 page)) → Q (refHead l page) := fun Q a b => by
    unfold refHead; split
    · exact a (by assumption)
    · exact b (by assumption)
  by_cases hpl : sumR l < page
  · have hHd : refHead l page = norm (partR l 0 page ++ norm [(-1, page - sumR l)]) := if_pos hpl
    have GHo := Gd.hole (many := page - sumR l) (by omega) (by omega)
    have HHD := Lib.hid hHd
    clear h0 h1 hR hR' hz hhead hHd
    go_enter Try.func23, Try.ntmps23
    go_wp2_with fail
    refine (RSize (hst.get (A := A) (l := l) (by simp)) rfl G (by omega)).mono ?_
    rintro e w1 ⟨rfl, hB⟩
    replace hst := hst.next hB
    clear hB
    go_wp2_with fail
    refine (RSize (hst.get (A := A') (l := more) (by simp)) rfl GM (by omega)).mono ?_
    rintro e w2 ⟨rfl, hB⟩
    replace hst := hst.next hB
    clear hB
    go_wp2_with fail
    refine (RPart A l c 0 page _ rfl (hst.get (A := A) (l := l) (by simp)) H0.out (by omega) (by omega)).mono ?_
    rw [Int.zero_add]
    rintro e w3 ⟨A1, c1, rfl, hN, hB⟩
    replace hst := (hst.next hB).push hN.1
    clear hN hB
    go_wp2_with fail
    refine (refHole_any (page - sumR l) _ (by omega) (by omega)).mono ?_
    rintro e w4 ⟨A2, c2, rfl, hN, hB⟩
    replace hst := (hst.next hB).push hN.1
    clear hN hB
    go_wp2_with fail
    refine (RJoin (hst.get (A := A1) (l := partR l 0 page) (by simp)) (hst.get (A := A2) (l := norm [(-1, page - sumR l)]) (by simp)) rfl rfl G0 GHo (by omega) (by omega)).mono ?_
    rw [← HHD.out]
    rintro e w5 ⟨A3, c3, rfl, hN, hB⟩
    replace hst := (hst.next hB).push hN.1
    clear hN hB
    go_wp2_with fail
    refine (RPart A l c (page + sumR more) 1073741824 _ rfl (hst.get (A := A) (l := l) (by simp)) H0.out (by omega) (by omega)).mono ?_
    rintro e w6 ⟨A4, c4, rfl, hN, hB⟩
    replace hst := (hst.next hB).push hN.1
    clear hN hB
    go_wp2_with fail
    refine (RJoin (hst.get (A := A') (l := more) (by simp)) (hst.get (A := A4) (l := partR l (page + sumR more) (page + sumR more + 1073741824)) (by simp)) rfl rfl GM G2 (by omega) (by omega)).mono ?_
    rintro e w7 ⟨A5, c5, rfl, hN, hB⟩
    replace hst := (hst.next hB).push hN.1
    clear hN hB
    go_wp2_with fail
    refine (RJoin (hst.get (A := A3) (l := refHead l page) (by simp)) (hst.get (A := A5) (l := norm (more ++ partR l (page + sumR more) (page + sumR more + 1073741824))) (by simp)) rfl rfl GH GI (by omega) (by omega)).mono ?_
    rintro e w8 ⟨A6, c6, rfl, hN6, hB⟩
    replace hst := hst.next hB
    clear hB
    go_wp2_with fail
    refine (RPart A l c page (sumR more) _ rfl (hst.get (A := A) (l := l) (by simp)) H0.out (by omega) (by omega)).mono ?_
    rintro e w9 ⟨A7, c7, rfl, hN7, hB⟩
    replace hst := hst.next hB
    replace hN6 := hN6.below hB
    clear hB
    go_wp2_with fail
    go_ret2
    exact ⟨A6, c6, A7, c7, rfl, hN6, hN7, hst.below⟩
  · have hHd : refHead l page = partR l 0 page := if_neg hpl
    have HHD := Lib.hid hHd
    clear h0 h1 hR hR' hz hhead hHd
    go_enter Try.func23, Try.ntmps23
    go_wp2_with fail
    refine (RSize (hst.get (A := A) (l := l) (by simp)) rfl G (by omega)).mono ?_
    rintro e w1 ⟨rfl, hB⟩
    replace hst := hst.next hB
    clear hB
    go_wp2_with fail
    refine (RSize (hst.get (A := A') (l := more) (by simp)) rfl GM (by omega)).mono ?_
    rintro e w2 ⟨rfl, hB⟩
    replace hst := hst.next hB
    clear hB
    go_wp2_with fail
    refine (RPart A l c 0 page _ rfl (hst.get (A := A) (l := l) (by simp)) H0.out (by omega) (by omega)).mono ?_
    rw [Int.zero_add, ← HHD.out]
    rintro e w3 ⟨A3, c3, rfl, hN, hB⟩
    replace hst := (hst.next hB).push hN.1
    clear hN hB
    go_wp2_with fail
    refine (RPart A l c (page + sumR more) 1073741824 _ rfl (hst.get (A := A) (l := l) (by simp)) H0.out (by omega) (by omega)).mono ?_
    rintro e w6 ⟨A4, c4, rfl, hN, hB⟩
    replace hst := (hst.next hB).push hN.1
    clear hN hB
    go_wp2_with fail
    refine (RJoin (hst.get (A := A') (l := more) (by simp)) (hst.get (A := A4) (l := partR l (page + sumR more) (page + sumR more + 1073741824)) (by simp)) rfl rfl GM G2 (by omega) (by omega)).mono ?_
    rintro e w7 ⟨A5, c5, rfl, hN, hB⟩
    replace hst := (hst.next hB).push hN.1
    clear hN hB
    go_wp2_with fail
    refine (RJoin (hst.get (A := A3) (l := refHead l page) (by simp)) (hst.get (A := A5) (l := norm (more ++ partR l (page + sumR more) (page + sumR more + 1073741824))) (by simp)) rfl rfl GH GI (by omega) (by omega)).mono ?_
    rintro e w8 ⟨A6, c6, rfl, hN6, hB⟩
    replace hst := hst.next hB
    clear hB
    go_wp2_with fail
    refine (RPart A l c page (sumR more) _ rfl (hst.get (A := A) (l := l) (by simp)) H0.out (by omega) (by omega)).mono ?_
    rintro e w9 ⟨A7, c7, rfl, hN7, hB⟩
    replace hst := hst.next hB
    replace hN6 := hN6.below hB
    clear hB
    go_wp2_with fail
    go_ret2
    exact ⟨A6, c6, A7, c7, rfl, hN6, hN7, hst.below⟩
end Go.Proofs.Ytjdkdogiaokhjaa
