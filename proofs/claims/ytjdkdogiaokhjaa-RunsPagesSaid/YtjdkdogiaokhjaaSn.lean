/- Runs: the law RunsUndone, walked. -/
import Derived.Test.YtjdkdogiaokhjaaSf
import Derived.Test.YtjdkdogiaokhjaaSm
namespace Go.Proofs.Ytjdkdogiaokhjaa
open Go.RowKit Go.Proofs
set_option linter.unusedSimpArgs false
set_option linter.unusedVariables false

def Two0 (w0 : World) (a b : List R) : Ending → World → Prop := Two w0 a b
theorem Cut1 {A : Option Addr} {l a b : List R} {n c : Nat} {page : Int} {w : World} (hR : Rd w A l) (hn : n = l.length) (hl : l.length ≤ 1048576) (h0 : mustE l = 0) (hp0 : 0 ≤ page) (hp1 : page ≤ sumR l) (he : cutOk l page = (0, a, b)) :
    Calls Try.prog 32 #[.slice A n c, .int .i64 page] w (Two w a b) := by
  subst hn
  have h := Cut_ok A l c page w hR hl h0 hp0 hp1
  rw [he] at h
  exact h.mono fun e w' h => two_of h
theorem Remove1 {A : Option Addr} {l a b : List R} {n c : Nat} {page many : Int} {w : World} (hR : Rd w A l) (hn : n = l.length) (hl : l.length ≤ 1048576) (h0 : mustE l = 0) (hi : inR l page many) (he : removeOk l page many = (0, a, b)) :
    Calls Try.prog 39 #[.slice A n c, .int .i64 page, .int .i64 many] w (Two w a b) := by
  subst hn
  have h := Remove_ok A l c page many w hR hl h0 hi
  rw [he] at h
  exact h.mono fun e w' h => two_of h
theorem Punch1 {A : Option Addr} {l a b : List R} {n c : Nat} {page many : Int} {w : World} (hR : Rd w A l) (hn : n = l.length) (hl : l.length ≤ 1048576) (h0 : mustE l = 0) (hi : inR l page many) (he : punchOk l page many = (0, a, b)) :
    Calls Try.prog 17 #[.slice A n c, .int .i64 page, .int .i64 many] w (Two w a b) := by
  subst hn
  have h := Punch_ok A l c page many w hR hl h0 hi
  rw [he] at h
  exact h.mono fun e w' h => two_of h
theorem Put1 {A A' : Option Addr} {l more a b : List R} {n c n' c' : Nat} {page : Int} {w : World} (hR : Rd w A l) (hR' : Rd w A' more) (hn : n = l.length) (hn' : n' = more.length) (hl : l.length ≤ 1048576) (hl' : more.length ≤ 1048576) (h0 : mustE l = 0) (h1 : mustE more = 0) (hp0 : 0 ≤ page) (hp1 : page ≤ 1073741824) (he : putOk l page more = (0, a, b)) :
    Calls Try.prog 18 #[.slice A n c, .int .i64 page, .slice A' n' c'] w (Two w a b) := by
  subst hn hn'
  have h := Put_ok A l c page A' more c' w hR hl hR' hl' h0 h1 hp0 hp1
  rw [he] at h
  exact h.mono fun e w' h => two_of h
theorem Join1 {A A' : Option Addr} {l more a : List R} {n c n' c' : Nat} {w : World} (hR : Rd w A l) (hR' : Rd w A' more) (hn : n = l.length) (hn' : n' = more.length) (hl : l.length ≤ 1048576) (hl' : more.length ≤ 1048576) (h0 : mustE l = 0) (h1 : mustE more = 0) (he : joinOk l more = (0, a)) :
    Calls Try.prog 37 #[.slice A n c, .slice A' n' c'] w (One1 w a) := by
  subst hn hn'
  have h := Join_ok A l c A' more c' w hR hl hR' hl' h0 h1
  rw [he] at h
  exact h.mono fun e w' h => one_of h
theorem Insert1 {A A' : Option Addr} {l more a : List R} {n c n' c' : Nat} {page : Int} {w : World} (hR : Rd w A l) (hR' : Rd w A' more) (hn : n = l.length) (hn' : n' = more.length) (hl : l.length ≤ 1048576) (hl' : more.length ≤ 1048576) (h0 : mustE l = 0) (h1 : mustE more = 0) (hp0 : 0 ≤ page) (hp1 : page ≤ sumR l) (he : insertOk l page more = (0, a)) :
    Calls Try.prog 38 #[.slice A n c, .int .i64 page, .slice A' n' c'] w (One1 w a) := by
  subst hn hn'
  have h := Insert_ok A l c page A' more c' w hR hl hR' hl' h0 h1 hp0 hp1
  rw [he] at h
  exact h.mono fun e w' h => one_of h
theorem Size1 {A : Option Addr} {l : List R} {n c : Nat} {w : World} (hR : Rd w A l) (hn : n = l.length) (hl : l.length ≤ 1048576) (h0 : mustE l = 0) :
    Calls Try.prog 41 #[.slice A n c] w (ResN w (sumR l) (tkn l) 0) := by
  subst hn
  exact Size_ok A l c w hR hl h0
theorem smalls2 (v v' : Value) (l l' : List R) : smallsB [(v, l), (v', l')] = (smallB l && smallB l') := by simp [smallsB]
set_option maxRecDepth 100000 in
set_option maxHeartbeats 4000000 in
theorem RunsUndone_not (A : Option Addr) (l : List R) (c : Nat) (A' : Option Addr) (more : List R) (c' : Nat) (at_ many : Int) (w : World) (hR : Rd w A l) (hR' : Rd w A' more) (hs : (smallB l && smallB more) = false) :
    Calls Try.prog 9 #[.slice A l.length c, .slice A' more.length c', .int .i64 at_, .int .i64 many] w fun e w' => e = .returned (.bool true) ∧ Below w.heap.size w w' := by
  have HS := small_any (some ⟨w.heap.size, 0, none⟩) [(.slice A l.length c, l), (.slice A' more.length c', more)] 2 (w.alloc (.cells #[.slice A l.length c, .slice A' more.length c'] 22)) (RdS.lit2 w A l c A' more c' 22 (fun _ => hR) (fun _ => hR')) (by simp)
  rw [smalls2, hs] at HS
  have H := Lib.hid HS
  have hst := (St.start w).alloc (.cells #[.slice A l.length c, .slice A' more.length c'] 22)
  clear HS hs hR hR'
  go_enter Try.func9, Try.ntmps9
  go_wp2_with fail
  refine (H.out).mono ?_
  rintro e w1 ⟨rfl, hB⟩
  replace hst := hst.next hB
  clear hB
  go_wp2_with fail
  refine (sanity_any _).mono ?_
  rintro e w2 ⟨rfl, hB⟩
  replace hst := hst.next hB
  clear hB
  go_wp2_with fail
  go_ret
  exact ⟨rfl, hst.below⟩
set_option maxRecDepth 100000 in
set_option maxHeartbeats 4000000 in
theorem RunsUndone_out (A : Option Addr) (l : List R) (c : Nat) (A' : Option Addr) (more : List R) (c' : Nat) (at_ many : Int) (w : World) (hR : Rd w A l) (hR' : Rd w A' more) (hs : smallB l = true) (ks : smallB more = true) (hi : ¬ inR l at_ many) :
    Calls Try.prog 9 #[.slice A l.length c, .slice A' more.length c', .int .i64 at_, .int .i64 many] w fun e w' => e = .returned (.bool true) ∧ Below w.heap.size w w' := by
  have HS := small_any (some ⟨w.heap.size, 0, none⟩) [(.slice A l.length c, l), (.slice A' more.length c', more)] 2 (w.alloc (.cells #[.slice A l.length c, .slice A' more.length c'] 22)) (RdS.lit2 w A l c A' more c' 22 (fun _ => hR) (fun _ => hR')) (by simp)
  rw [smalls2, hs, ks] at HS
  have H := Lib.hid HS
  have hst := (((St.start w).push hR').push hR).alloc (.cells #[.slice A l.length c, .slice A' more.length c'] 22)
  obtain ⟨s1, s2, s3⟩ := smallB_true hs
  obtain ⟨t1, t2, t3⟩ := smallB_true ks
  have hp0 := pages_nonneg s2
  have hq0 := pages_nonneg t2
  obtain ⟨ln, n1⟩ : ∃ x, norm l = x := ⟨_, rfl⟩
  obtain ⟨mn, n2⟩ : ∃ x, norm more = x := ⟨_, rfl⟩
  have N1 := Lib.hid n1
  have N2 := Lib.hid n2
  have S2 := Lib.hid s2
  have T2 := Lib.hid t2
  have HI := Lib.hid hi
  clear HS hs ks hR hR' s2 t2 n1 n2 hi
  go_enter Try.func9, Try.ntmps9
  go_wp2_with fail
  refine (H.out).mono ?_
  rintro e w1 ⟨rfl, hB⟩
  replace hst := hst.next hB
  clear hB
  clear H
  go_wp2_with fail
  refine (Size1 (hst.get (A := A) (l := l) (by simp)) rfl (by omega) S2.out).mono ?_
  rintro e w2 ⟨rfl, hB⟩
  replace hst := hst.next hB
  clear hB
  go_wp2_with fail
  refine (Size1 (hst.get (A := A') (l := more) (by simp)) rfl (by omega) T2.out).mono ?_
  rintro e w3 ⟨rfl, hB⟩
  replace hst := hst.next hB
  clear hB
  go_wp2_with fail
  refine (Norm1 A l ln c _ (hst.get (A := A) (l := l) (by simp)) (by omega) S2.out N1.out).mono ?_
  rintro e w4 ⟨AO, cO, rfl, rO, hB⟩
  replace hst := hst.next hB
  clear hB
  replace hst := hst.push rO
  clear rO
  go_wp2_with fail
  refine (Norm1 A' more mn c' _ (hst.get (A := A') (l := more) (by simp)) (by omega) T2.out N2.out).mono ?_
  rintro e w5 ⟨AN, cN, rfl, rN, hB⟩
  replace hst := hst.next hB
  clear hB
  replace hst := hst.push rN
  clear rN
  go_wp2_with fail
  replace hst := hst.alloc (.cells #[.int .i64 0, .int .i64 0, .int .i64 0, .int .i64 0] 26)
  refine (worst0 [0, 0, 0, 0] (RdE.lit w5 [0, 0, 0, 0] 26) rfl (by decide) rfl).mono ?_
  rintro e w6 ⟨rfl, rfl⟩
  go_wp2_with fail
  all_goals first
    | (refine (sanity_any _).mono ?_; rintro e w9 ⟨rfl, hB⟩; replace hst := hst.next hB; clear hB; go_wp2_with fail; go_ret; exact ⟨rfl, hst.below⟩)
    | (exfalso; have h := HI.out; unfold inR at h; omega)
set_option maxRecDepth 100000 in
set_option maxHeartbeats 4000000 in
theorem RunsUndone_in1 (A : Option Addr) (l : List R) (c : Nat) (A' : Option Addr) (more : List R) (c' : Nat) (at_ many : Int) (w : World) (hR : Rd w A l) (hR' : Rd w A' more) (hs : smallB l = true) (ks : smallB more = true) (hi : inR l at_ many) (hle : at_ + sumR more ≤ sumR l) :
    Calls Try.prog 9 #[.slice A l.length c, .slice A' more.length c', .int .i64 at_, .int .i64 many] w fun e w' => e = .returned (.bool true) ∧ Below w.heap.size w w' := by
  have HS := small_any (some ⟨w.heap.size, 0, none⟩) [(.slice A l.length c, l), (.slice A' more.length c', more)] 2 (w.alloc (.cells #[.slice A l.length c, .slice A' more.length c'] 22)) (RdS.lit2 w A l c A' more c' 22 (fun _ => hR) (fun _ => hR')) (by simp)
  rw [smalls2, hs, ks] at HS
  have H := Lib.hid HS
  have hst := (((St.start w).push hR').push hR).alloc (.cells #[.slice A l.length c, .slice A' more.length c'] 22)
  obtain ⟨s1, s2, s3⟩ := smallB_true hs
  obtain ⟨t1, t2, t3⟩ := smallB_true ks
  have hp0 := pages_nonneg s2
  have hq0 := pages_nonneg t2
  obtain ⟨a, b, i, p, g, q, o, x2, z, now, e1, ⟨e2, e3, f1, f2⟩, e4, e5, ⟨e6, f3, e7⟩, e8, e9, ⟨e10, e11, f4, f5⟩, e12, e13, ⟨e14, e15, f6, f7⟩, e16, ⟨f8, f9⟩, e17⟩ := (undone s2 t2 s1 t1 s3 t3 hi).go
  have f10 := norm_len l
  have f11 := norm_len more
  obtain ⟨ln, n1⟩ : ∃ x, norm l = x := ⟨_, rfl⟩
  obtain ⟨mn, n2⟩ : ∃ x, norm more = x := ⟨_, rfl⟩
  rw [n1] at e4 e8 e12 e17 f10
  rw [n2] at e8 e17 f11
  rw [(e17 hle).1, (e17 hle).2] at e16
  clear e17
  have N1 := Lib.hid n1
  have N2 := Lib.hid n2
  have S2 := Lib.hid s2
  have T2 := Lib.hid t2
  have HI := Lib.hid hi
  have E1 := Lib.hid e1
  have E2 := Lib.hid e2
  have E3 := Lib.hid e3
  have E4 := Lib.hid e4
  have E5 := Lib.hid e5
  have E6 := Lib.hid e6
  have E7 := Lib.hid e7
  have E8 := Lib.hid e8
  have E9 := Lib.hid e9
  have E10 := Lib.hid e10
  have E11 := Lib.hid e11
  have E12 := Lib.hid e12
  have E13 := Lib.hid e13
  have E14 := Lib.hid e14
  have E15 := Lib.hid e15
  have E16 := Lib.hid e16
  obtain ⟨i1, i2, i3, i4⟩ := hi
  clear HS hs ks hR hR' s2 t2 n1 n2 e1 e2 e3 e4 e5 e6 e7 e8 e9 e10 e11 e12 e13 e14 e15 e16
  go_enter Try.func9, Try.ntmps9
  go_wp2_with fail
  refine (H.out).mono ?_
  rintro e w1 ⟨rfl, hB⟩
  replace hst := hst.next hB
  clear hB
  clear H
  go_wp2_with fail
  refine (Size1 (hst.get (A := A) (l := l) (by simp)) rfl (by omega) S2.out).mono ?_
  rintro e w2 ⟨rfl, hB⟩
  replace hst := hst.next hB
  clear hB
  go_wp2_with fail
  refine (Size1 (hst.get (A := A') (l := more) (by simp)) rfl (by omega) T2.out).mono ?_
  rintro e w3 ⟨rfl, hB⟩
  replace hst := hst.next hB
  clear hB
  go_wp2_with fail
  refine (Norm1 A l ln c _ (hst.get (A := A) (l := l) (by simp)) (by omega) S2.out N1.out).mono ?_
  rintro e w4 ⟨AO, cO, rfl, rO, hB⟩
  replace hst := hst.next hB
  clear hB
  replace hst := hst.push rO
  clear rO
  go_wp2_with fail
  refine (Norm1 A' more mn c' _ (hst.get (A := A') (l := more) (by simp)) (by omega) T2.out N2.out).mono ?_
  rintro e w5 ⟨AN, cN, rfl, rN, hB⟩
  replace hst := hst.next hB
  clear hB
  replace hst := hst.push rN
  clear rN
  go_wp2_with fail
  replace hst := hst.alloc (.cells #[.int .i64 0, .int .i64 0, .int .i64 0, .int .i64 0] 26)
  refine (worst0 [0, 0, 0, 0] (RdE.lit w5 [0, 0, 0, 0] 26) rfl (by decide) rfl).mono ?_
  rintro e w6 ⟨rfl, rfl⟩
  go_wp2_with fail
  refine (Cut1 (hst.get (A := A) (l := l) (by simp)) rfl (by omega) S2.out i1 i3 E1.out).mono ?_
  rintro e w7 ⟨Aa, ca, Ab, cb, rfl, ra, rb, hB⟩
  replace hst := hst.next hB
  clear hB
  replace hst := hst.push ra
  clear ra
  replace hst := hst.push rb
  clear rb
  go_wp2_with fail
  refine (Join1 (hst.get (A := Aa) (l := a) (by simp)) (hst.get (A := Ab) (l := b) (by simp)) rfl rfl (by omega) (by omega) E2.out E3.out E4.out).mono ?_
  rintro e w8 ⟨Ac, cc, rfl, rc, hB⟩
  replace hst := hst.next hB
  clear hB
  replace hst := hst.push rc
  clear rc
  go_wp2_with fail
  refine (Insert1 (hst.get (A := A) (l := l) (by simp)) (hst.get (A := A') (l := more) (by simp)) rfl rfl (by omega) (by omega) S2.out T2.out i1 i3 E5.out).mono ?_
  rintro e w9 ⟨Ai, ci, rfl, ri, hB⟩
  replace hst := hst.next hB
  clear hB
  replace hst := hst.push ri
  clear ri
  go_wp2_with fail
  refine (Remove1 (hst.get (A := Ai) (l := i) (by simp)) rfl (by omega) E6.out E7.out E8.out).mono ?_
  rintro e w10 ⟨Ar, cr, As, cs, rfl, rr, rs, hB⟩
  replace hst := hst.next hB
  clear hB
  replace hst := hst.push rr
  clear rr
  replace hst := hst.push rs
  clear rs
  go_wp2_with fail
  replace hst := hst.alloc (.cells #[.int .i64 0, .int .i64 0, .int .i64 0, .int .i64 0] 26)
  refine (worst0 [0, 0, 0, 0] (RdE.lit w10 [0, 0, 0, 0] 26) rfl (by decide) rfl).mono ?_
  rintro e w11 ⟨rfl, rfl⟩
  go_wp2_with fail
  refine (Same0 ln (hst.get (A := Ac) (l := ln) (by simp)) (hst.get (A := AO) (l := ln) (by simp)) rfl rfl (by omega)).mono ?_
  rintro e w12 ⟨rfl, hB⟩
  replace hst := hst.next hB
  clear hB
  go_wp2_with fail
  refine (Same0 ln (hst.get (A := Ar) (l := ln) (by simp)) (hst.get (A := AO) (l := ln) (by simp)) rfl rfl (by omega)).mono ?_
  rintro e w13 ⟨rfl, hB⟩
  replace hst := hst.next hB
  clear hB
  go_wp2_with fail
  refine (Same0 mn (hst.get (A := As) (l := mn) (by simp)) (hst.get (A := AN) (l := mn) (by simp)) rfl rfl (by omega)).mono ?_
  rintro e w14 ⟨rfl, hB⟩
  replace hst := hst.next hB
  clear hB
  go_wp2_with fail
  refine (Punch1 (hst.get (A := A) (l := l) (by simp)) rfl (by omega) S2.out HI.out E9.out).mono ?_
  rintro e w15 ⟨Ap, cp, Ag, cg, rfl, rp, rg, hB⟩
  replace hst := hst.next hB
  clear hB
  replace hst := hst.push rp
  clear rp
  replace hst := hst.push rg
  clear rg
  go_wp2_with fail
  refine (Put1 (hst.get (A := Ap) (l := p) (by simp)) (hst.get (A := Ag) (l := g) (by simp)) rfl rfl (by omega) (by omega) E10.out E11.out i1 (by omega) E12.out).mono ?_
  rintro e w16 ⟨Ak, ck, Ax, cx, rfl, rk, rx, hB⟩
  replace hst := hst.next hB
  clear hB
  replace hst := hst.push rk
  clear rk
  replace hst := hst.push rx
  clear rx
  go_wp2_with fail
  refine (Put1 (hst.get (A := A) (l := l) (by simp)) (hst.get (A := A') (l := more) (by simp)) rfl rfl (by omega) (by omega) S2.out T2.out i1 (by omega) E13.out).mono ?_
  rintro e w17 ⟨Aq, cq, Ao, co, rfl, rq, ro, hB⟩
  replace hst := hst.next hB
  clear hB
  replace hst := hst.push rq
  clear rq
  replace hst := hst.push ro
  clear ro
  go_wp2_with fail
  replace hst := hst.alloc (.cells #[.int .i64 0, .int .i64 0, .int .i64 0] 26)
  refine (worst0 [0, 0, 0] (RdE.lit w17 [0, 0, 0] 26) rfl (by decide) rfl).mono ?_
  rintro e w18 ⟨rfl, rfl⟩
  go_wp2_with fail
  refine (Same0 ln (hst.get (A := Ak) (l := ln) (by simp)) (hst.get (A := AO) (l := ln) (by simp)) rfl rfl (by omega)).mono ?_
  rintro e w19 ⟨rfl, hB⟩
  replace hst := hst.next hB
  clear hB
  go_wp2_with fail
  refine (Put1 (hst.get (A := Aq) (l := q) (by simp)) (hst.get (A := Ao) (l := o) (by simp)) rfl rfl (by omega) (by omega) E14.out E15.out i1 (by omega) E16.out).mono ?_
  rintro e w20 ⟨Az, cz, Aw, cw, rfl, rz, rw_, hB⟩
  replace hst := hst.next hB
  clear hB
  replace hst := hst.push rz
  clear rz
  replace hst := hst.push rw_
  clear rw_
  go_wp2_with fail
  refine (sanity_any _).mono ?_
  rintro e w21 ⟨rfl, hB⟩
  replace hst := hst.next hB
  clear hB
  go_wp2_with fail
  refine (Same0 ln (hst.get (A := Az) (l := ln) (by simp)) (hst.get (A := AO) (l := ln) (by simp)) rfl rfl (by omega)).mono ?_
  rintro e w22 ⟨rfl, hB⟩
  replace hst := hst.next hB
  clear hB
  go_wp2_with fail
  refine (Same0 mn (hst.get (A := Aw) (l := mn) (by simp)) (hst.get (A := AN) (l := mn) (by simp)) rfl rfl (by omega)).mono ?_
  rintro e w23 ⟨rfl, hB⟩
  replace hst := hst.next hB
  clear hB
  go_wp2_with fail
  go_ret
  exact ⟨rfl, hst.below⟩
set_option maxRecDepth 100000 in
set_option maxHeartbeats 4000000 in
theorem RunsUndone_in2 (A : Option Addr) (l : List R) (c : Nat) (A' : Option Addr) (more : List R) (c' : Nat) (at_ many : Int) (w : World) (hR : Rd w A l) (hR' : Rd w A' more) (hs : smallB l = true) (ks : smallB more = true) (hi : inR l at_ many) (hle : sumR l < at_ + sumR more) :
    Calls Try.prog 9 #[.slice A l.length c, .slice A' more.length c', .int .i64 at_, .int .i64 many] w fun e w' => e = .returned (.bool true) ∧ Below w.heap.size w w' := by
  have HS := small_any (some ⟨w.heap.size, 0, none⟩) [(.slice A l.length c, l), (.slice A' more.length c', more)] 2 (w.alloc (.cells #[.slice A l.length c, .slice A' more.length c'] 22)) (RdS.lit2 w A l c A' more c' 22 (fun _ => hR) (fun _ => hR')) (by simp)
  rw [smalls2, hs, ks] at HS
  have H := Lib.hid HS
  have hst := (((St.start w).push hR').push hR).alloc (.cells #[.slice A l.length c, .slice A' more.length c'] 22)
  obtain ⟨s1, s2, s3⟩ := smallB_true hs
  obtain ⟨t1, t2, t3⟩ := smallB_true ks
  have hp0 := pages_nonneg s2
  have hq0 := pages_nonneg t2
  obtain ⟨a, b, i, p, g, q, o, x2, z, now, e1, ⟨e2, e3, f1, f2⟩, e4, e5, ⟨e6, f3, e7⟩, e8, e9, ⟨e10, e11, f4, f5⟩, e12, e13, ⟨e14, e15, f6, f7⟩, e16, ⟨f8, f9⟩, e17⟩ := (undone s2 t2 s1 t1 s3 t3 hi).go
  have f10 := norm_len l
  have f11 := norm_len more
  obtain ⟨ln, n1⟩ : ∃ x, norm l = x := ⟨_, rfl⟩
  obtain ⟨mn, n2⟩ : ∃ x, norm more = x := ⟨_, rfl⟩
  rw [n1] at e4 e8 e12 e17 f10
  rw [n2] at e8 e17 f11
  clear e17
  have N1 := Lib.hid n1
  have N2 := Lib.hid n2
  have S2 := Lib.hid s2
  have T2 := Lib.hid t2
  have HI := Lib.hid hi
  have E1 := Lib.hid e1
  have E2 := Lib.hid e2
  have E3 := Lib.hid e3
  have E4 := Lib.hid e4
  have E5 := Lib.hid e5
  have E6 := Lib.hid e6
  have E7 := Lib.hid e7
  have E8 := Lib.hid e8
  have E9 := Lib.hid e9
  have E10 := Lib.hid e10
  have E11 := Lib.hid e11
  have E12 := Lib.hid e12
  have E13 := Lib.hid e13
  have E14 := Lib.hid e14
  have E15 := Lib.hid e15
  have E16 := Lib.hid e16
  obtain ⟨i1, i2, i3, i4⟩ := hi
  clear HS hs ks hR hR' s2 t2 n1 n2 e1 e2 e3 e4 e5 e6 e7 e8 e9 e10 e11 e12 e13 e14 e15 e16
  go_enter Try.func9, Try.ntmps9
  go_wp2_with fail
  refine (H.out).mono ?_
  rintro e w1 ⟨rfl, hB⟩
  replace hst := hst.next hB
  clear hB
  clear H
  go_wp2_with fail
  refine (Size1 (hst.get (A := A) (l := l) (by simp)) rfl (by omega) S2.out).mono ?_
  rintro e w2 ⟨rfl, hB⟩
  replace hst := hst.next hB
  clear hB
  go_wp2_with fail
  refine (Size1 (hst.get (A := A') (l := more) (by simp)) rfl (by omega) T2.out).mono ?_
  rintro e w3 ⟨rfl, hB⟩
  replace hst := hst.next hB
  clear hB
  go_wp2_with fail
  refine (Norm1 A l ln c _ (hst.get (A := A) (l := l) (by simp)) (by omega) S2.out N1.out).mono ?_
  rintro e w4 ⟨AO, cO, rfl, rO, hB⟩
  replace hst := hst.next hB
  clear hB
  replace hst := hst.push rO
  clear rO
  go_wp2_with fail
  refine (Norm1 A' more mn c' _ (hst.get (A := A') (l := more) (by simp)) (by omega) T2.out N2.out).mono ?_
  rintro e w5 ⟨AN, cN, rfl, rN, hB⟩
  replace hst := hst.next hB
  clear hB
  replace hst := hst.push rN
  clear rN
  go_wp2_with fail
  replace hst := hst.alloc (.cells #[.int .i64 0, .int .i64 0, .int .i64 0, .int .i64 0] 26)
  refine (worst0 [0, 0, 0, 0] (RdE.lit w5 [0, 0, 0, 0] 26) rfl (by decide) rfl).mono ?_
  rintro e w6 ⟨rfl, rfl⟩
  go_wp2_with fail
  refine (Cut1 (hst.get (A := A) (l := l) (by simp)) rfl (by omega) S2.out i1 i3 E1.out).mono ?_
  rintro e w7 ⟨Aa, ca, Ab, cb, rfl, ra, rb, hB⟩
  replace hst := hst.next hB
  clear hB
  replace hst := hst.push ra
  clear ra
  replace hst := hst.push rb
  clear rb
  go_wp2_with fail
  refine (Join1 (hst.get (A := Aa) (l := a) (by simp)) (hst.get (A := Ab) (l := b) (by simp)) rfl rfl (by omega) (by omega) E2.out E3.out E4.out).mono ?_
  rintro e w8 ⟨Ac, cc, rfl, rc, hB⟩
  replace hst := hst.next hB
  clear hB
  replace hst := hst.push rc
  clear rc
  go_wp2_with fail
  refine (Insert1 (hst.get (A := A) (l := l) (by simp)) (hst.get (A := A') (l := more) (by simp)) rfl rfl (by omega) (by omega) S2.out T2.out i1 i3 E5.out).mono ?_
  rintro e w9 ⟨Ai, ci, rfl, ri, hB⟩
  replace hst := hst.next hB
  clear hB
  replace hst := hst.push ri
  clear ri
  go_wp2_with fail
  refine (Remove1 (hst.get (A := Ai) (l := i) (by simp)) rfl (by omega) E6.out E7.out E8.out).mono ?_
  rintro e w10 ⟨Ar, cr, As, cs, rfl, rr, rs, hB⟩
  replace hst := hst.next hB
  clear hB
  replace hst := hst.push rr
  clear rr
  replace hst := hst.push rs
  clear rs
  go_wp2_with fail
  replace hst := hst.alloc (.cells #[.int .i64 0, .int .i64 0, .int .i64 0, .int .i64 0] 26)
  refine (worst0 [0, 0, 0, 0] (RdE.lit w10 [0, 0, 0, 0] 26) rfl (by decide) rfl).mono ?_
  rintro e w11 ⟨rfl, rfl⟩
  go_wp2_with fail
  refine (Same0 ln (hst.get (A := Ac) (l := ln) (by simp)) (hst.get (A := AO) (l := ln) (by simp)) rfl rfl (by omega)).mono ?_
  rintro e w12 ⟨rfl, hB⟩
  replace hst := hst.next hB
  clear hB
  go_wp2_with fail
  refine (Same0 ln (hst.get (A := Ar) (l := ln) (by simp)) (hst.get (A := AO) (l := ln) (by simp)) rfl rfl (by omega)).mono ?_
  rintro e w13 ⟨rfl, hB⟩
  replace hst := hst.next hB
  clear hB
  go_wp2_with fail
  refine (Same0 mn (hst.get (A := As) (l := mn) (by simp)) (hst.get (A := AN) (l := mn) (by simp)) rfl rfl (by omega)).mono ?_
  rintro e w14 ⟨rfl, hB⟩
  replace hst := hst.next hB
  clear hB
  go_wp2_with fail
  refine (Punch1 (hst.get (A := A) (l := l) (by simp)) rfl (by omega) S2.out HI.out E9.out).mono ?_
  rintro e w15 ⟨Ap, cp, Ag, cg, rfl, rp, rg, hB⟩
  replace hst := hst.next hB
  clear hB
  replace hst := hst.push rp
  clear rp
  replace hst := hst.push rg
  clear rg
  go_wp2_with fail
  refine (Put1 (hst.get (A := Ap) (l := p) (by simp)) (hst.get (A := Ag) (l := g) (by simp)) rfl rfl (by omega) (by omega) E10.out E11.out i1 (by omega) E12.out).mono ?_
  rintro e w16 ⟨Ak, ck, Ax, cx, rfl, rk, rx, hB⟩
  replace hst := hst.next hB
  clear hB
  replace hst := hst.push rk
  clear rk
  replace hst := hst.push rx
  clear rx
  go_wp2_with fail
  refine (Put1 (hst.get (A := A) (l := l) (by simp)) (hst.get (A := A') (l := more) (by simp)) rfl rfl (by omega) (by omega) S2.out T2.out i1 (by omega) E13.out).mono ?_
  rintro e w17 ⟨Aq, cq, Ao, co, rfl, rq, ro, hB⟩
  replace hst := hst.next hB
  clear hB
  replace hst := hst.push rq
  clear rq
  replace hst := hst.push ro
  clear ro
  go_wp2_with fail
  replace hst := hst.alloc (.cells #[.int .i64 0, .int .i64 0, .int .i64 0] 26)
  refine (worst0 [0, 0, 0] (RdE.lit w17 [0, 0, 0] 26) rfl (by decide) rfl).mono ?_
  rintro e w18 ⟨rfl, rfl⟩
  go_wp2_with fail
  refine (Same0 ln (hst.get (A := Ak) (l := ln) (by simp)) (hst.get (A := AO) (l := ln) (by simp)) rfl rfl (by omega)).mono ?_
  rintro e w19 ⟨rfl, hB⟩
  replace hst := hst.next hB
  clear hB
  go_wp2_with fail
  refine (Put1 (hst.get (A := Aq) (l := q) (by simp)) (hst.get (A := Ao) (l := o) (by simp)) rfl rfl (by omega) (by omega) E14.out E15.out i1 (by omega) E16.out).mono ?_
  rintro e w20 ⟨Az, cz, Aw, cw, rfl, rz, rw_, hB⟩
  replace hst := hst.next hB
  clear hB
  replace hst := hst.push rz
  clear rz
  replace hst := hst.push rw_
  clear rw_
  go_wp2_with fail
  refine (sanity_any _).mono ?_
  rintro e w21 ⟨rfl, hB⟩
  replace hst := hst.next hB
  clear hB
  go_wp2_with fail
  go_ret
  exact ⟨rfl, hst.below⟩
theorem RunsUndone_walk (A : Option Addr) (l : List R) (c : Nat) (A' : Option Addr) (more : List R) (c' : Nat) (at_ many : Int) (w : World) (hR : Rd w A l) (hR' : Rd w A' more) (_ : (Lit.int .i64 at_).wf = true) (_ : (Lit.int .i64 many).wf = true) :
    Calls Try.prog 9 #[.slice A l.length c, .slice A' more.length c', .int .i64 at_, .int .i64 many] w fun e w' => e = .returned (.bool true) ∧ Below w.heap.size w w' := by
  by_cases h : smallB l = true
  · by_cases k : smallB more = true
    · by_cases hi : inR l at_ many
      · by_cases hle : at_ + sumR more ≤ sumR l
        · exact RunsUndone_in1 A l c A' more c' at_ many w hR hR' h k hi hle
        · exact RunsUndone_in2 A l c A' more c' at_ many w hR hR' h k hi (by omega)
      · exact RunsUndone_out A l c A' more c' at_ many w hR hR' h k hi
    · exact RunsUndone_not A l c A' more c' at_ many w hR hR' (by simp [k])
  · exact RunsUndone_not A l c A' more c' at_ many w hR hR' (by simp [h])
end Go.Proofs.Ytjdkdogiaokhjaa
