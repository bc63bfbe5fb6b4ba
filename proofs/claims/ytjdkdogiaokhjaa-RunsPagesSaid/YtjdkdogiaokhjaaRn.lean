/- Runs: a packer's run. -/
import Derived.Test.YtjdkdogiaokhjaaRm
namespace Go.Proofs.Ytjdkdogiaokhjaa
open Go.RowKit Go.Proofs
set_option linter.unusedSimpArgs false
set_option linter.unusedVariables false

def hR (r : R) (last : Int) : Int := if r.1 = -1 then 0 else sW (r.1 - last)
def packR (r : R) (last : Int) : List Int := (16 * hR r last + uW r.2) :: (lowB r.2 (uW r.2).toNat ++ lowB (r.1 - last) (hR r last).toNat)
theorem hR_bd (r : R) (last : Int) : 0 ≤ hR r last ∧ hR r last ≤ 5 := by unfold hR; have := sW_bd (r.1 - last); split <;> omega
theorem uW_bd (n : Int) : 1 ≤ uW n ∧ uW n ≤ 9 := by unfold uW; have := wid_bd 8 (n / 256); omega
theorem wid_le (f : Nat) (m : Int) (k : Nat) (h : m < 256 ^ k) : wid f m ≤ k := by
  induction f generalizing m k with
  | zero => simp [wid]
  | succ f ih =>
    simp only [wid]
    split
    · omega
    · rcases k with _ | k
      · simp at h; omega
      · have := ih (m / 256) k (Int.ediv_lt_of_lt_mul (by omega) (by rw [Int.pow_succ] at h; exact h))
        omega
theorem uW_le (n : Int) (h : n ≤ 17179869184) : uW n ≤ 5 := by unfold uW; have := wid_le 8 (n / 256) 4 (by omega); omega
/-- the packer that lies at P -/
structure PS (W : World) (base P : Nat) (v : Value) (bs : List Int) (room : Int) : Prop where
  le : base ≤ P
  block : W.heap[P]? = some (.cells #[v, .int .i64 room] 103 (0, 0))
  own : OwnB W base v bs
theorem PS.lt {W : World} {base P : Nat} {v : Value} {bs : List Int} {room : Int} (h : PS W base P v bs room) : P < W.heap.size := (Array.getElem?_eq_some_iff.1 h.block).1
theorem PS.c0 {W : World} {base P : Nat} {v : Value} {bs : List Int} {room : Int} (h : PS W base P v bs room) : W.cell? ⟨P, 0, none⟩ = some v := by simp [World.cell?, h.block]
theorem PS.c1 {W : World} {base P : Nat} {v : Value} {bs : List Int} {room : Int} (h : PS W base P v bs room) : W.cell? ⟨P, 1, none⟩ = some (.int .i64 room) := by simp [World.cell?, h.block]
theorem PS.z0 {W : World} {base P : Nat} {v : Value} {bs : List Int} {room : Int} (h : PS W base P v bs room) : W.frozen? ⟨P, 0, none⟩ = false := by simp [World.frozen?, h.block]
theorem PS.below {W W' : World} {base P : Nat} {v : Value} {bs : List Int} {room : Int} (h : PS W base P v bs room) (hb : Below W.heap.size W W') : PS W' base P v bs room :=
  ⟨h.le, (hb.block _ h.lt).trans h.block, h.own.kept (row := none) ⟨hb.os, hb.tape, hb.output, hb.size, fun k hk _ => hb.block k hk⟩ (by cases hv : v.ownBlock <;> simp)⟩
theorem PS.ne {W : World} {base P : Nat} {v : Value} {bs : List Int} {room : Int} (h : PS W base P v bs room) : some P ≠ v.ownBlock := by
  intro e
  rcases h.own.2 with ⟨rfl, _⟩ | ⟨g, cap, cur, rfl, hb, hg, _⟩
  · simp [Value.ownBlock] at e
  · simp only [Value.ownBlock, Option.some.injEq] at e
    subst e
    rw [h.block] at hg
    simp at hg
theorem ownB_form {w : World} {base : Nat} {v : Value} {bs : List Int} (h : OwnB w base v bs) : ∃ A c, v = .slice A bs.length c ∧ bs.length ≤ c ∧ c ≤ maxLen := by
  rcases h.2 with ⟨rfl, h0⟩ | ⟨g, cap, cur, rfl, hb, hg, h1, h2, _⟩
  · exact ⟨none, 0, by rw [h0], by omega, by simp [maxLen]⟩
  · exact ⟨_, _, rfl, h1, h2⟩
theorem row_form {w : World} {base size n : Nat} {e : TypeId} {v : Value} {xs : List Value} (h : w.ownsRow base e size v n xs) : ∃ A c, v = .slice A n c := by
  rcases h.2 with ⟨rfl, rfl⟩ | ⟨g, cap, cur, rfl, _⟩
  · exact ⟨_, _, rfl⟩
  · exact ⟨_, _, rfl⟩
theorem ownB_lit (W : World) (base : Nat) (x : Int) (hb : base ≤ W.heap.size) : OwnB (W.alloc (.cells #[.int .u8 x] 5)) base (.slice (some ⟨W.heap.size, 0, none⟩) 1 1) [x] := by
  refine ⟨by simp [bv], .inr ⟨W.heap.size, 1, #[.int .u8 x], by simp, hb, ?_, by simp, by simp [maxLen], by simp, by simp [bv]⟩⟩
  exact World.alloc_heap_new W _
theorem PS.pushed {W wy w1 : World} {base P : Nat} {v v1 : Value} {bs xs : List Int} {room : Int} (hQ : PS wy base P v bs room) (h : PS W base P v bs room) (hB : Below W.heap.size W wy)
    (hown : w1.ownsRow base 5 1 v1 (bs.length + xs.length) (bv bs ++ bv xs)) (hg : wy.grownBy w1 v.ownBlock) :
    w1.cell? ⟨P, 0, none⟩ = some v ∧ w1.frozen? ⟨P, 0, none⟩ = false ∧ PS (w1.setCell ⟨P, 0, none⟩ v1) base P v1 (bs ++ xs) room ∧ Ext (fun b => b = P ∨ some b = v.ownBlock) W (w1.setCell ⟨P, 0, none⟩ v1) := by
  have hb1 : w1.heap[P]? = some (.cells #[v, .int .i64 room] 103 (0, 0)) := (hg.block P hQ.lt hQ.ne).trans hQ.block
  have hset : (w1.setCell ⟨P, 0, none⟩ v1).heap[P]? = some (.cells #[v1, .int .i64 room] 103 (0, 0)) := by
    obtain ⟨hlt, hb1'⟩ := Array.getElem?_eq_some_iff.1 hb1
    simp [World.setCell, Array.getElem?_modify, Array.getElem_modify, hb1', hlt]
  have hne : some P ≠ v1.ownBlock := by
    intro e
    rcases hown.2 with ⟨rfl, _⟩ | ⟨g, cap, cur, rfl, hb, hg', _⟩
    · simp [Value.ownBlock] at e
    · simp only [Value.ownBlock, Option.some.injEq] at e
      subst e
      rw [hb1] at hg'
      simp at hg'
  refine ⟨by simp [World.cell?, hb1], by simp [World.frozen?, hb1], ⟨h.le, hset, ?_⟩, ?_⟩
  · have e1 : (bs ++ xs).length = bs.length + xs.length := by simp
    show (w1.setCell ⟨P, 0, none⟩ v1).ownsRow base 5 1 v1 _ _
    rw [e1, bv_append]
    exact hown.kept (grownBy_setCell' w1 P v1) (.inr hne.symm)
  · exact ((Ext.of_below (O := fun b => b = P ∨ some b = v.ownBlock) hB).trans ((ext_of_grown hg).mono fun _ h => .inr h)).trans ((ext_setCell w1 P v1).mono fun _ h => .inl h)
set_option maxRecDepth 100000 in
set_option maxHeartbeats 2000000 in
theorem run_fit (base P : Nat) (v : Value) (bs : List Int) (room : Int) (r : R) (last : Int) (W : World) (h : PS W base P v bs room) (hbase : base ≤ W.heap.size) (hl : bs.length ≤ 1048576)
    (hr : -1 ≤ r.1 ∧ r.1 ≤ 17179869184 ∧ 0 ≤ r.2 ∧ r.2 ≤ 17179869184) (hla : 0 ≤ last ∧ last ≤ 17179869184) (hfit : ((bs.length + (packR r last).length + 1 : Nat) : Int) ≤ room) :
    Calls Try.prog 69 #[.pointer (some ⟨P, 0, none⟩), .agg #[.int .i64 r.1, .int .i64 r.2], .int .i64 last] W fun e W' =>
      e = .returned (.tuple #[]) ∧ ∃ v', PS W' base P v' (bs ++ packR r last) room ∧ Ext (fun b => b = P ∨ some b = v.ownBlock) W W' := by
  obtain ⟨i0, hi, hz0, hz1, hz2⟩ := info_parts Try.info_u8
  obtain ⟨r1, r2, r3, r4⟩ := hr
  obtain ⟨l1, l2⟩ := hla
  have HU := Lib.hid (fun w => unsigned_any r.2 w (by omega) (by omega))
  have HS := Lib.hid (fun w => signed_any (r.1 - last) w (by omega) (by omega))
  obtain ⟨u1, u2⟩ := uW_bd r.2
  have u3 := uW_le r.2 (by omega)
  obtain ⟨A, c, rfl, hc, hcm⟩ := ownB_form h.own
  have hlt := h.lt
  obtain ⟨k, hk⟩ : ∃ k : Nat, uW r.2 = k := ⟨(uW r.2).toNat, by omega⟩
  have hkx : (uW r.2).toNat = k := by omega
  by_cases ht : r.1 = -1
  · have hh : hR r last = 0 := if_pos ht
    have hx : packR r last = (16 * 0 + (k : Int)) :: lowB r.2 k := by simp [packR, hh, hkx, hk, lowB]
    rw [hk] at HU u1 u2 u3
    rw [hx, List.length_cons, lowB_len] at hfit
    rw [hx, ht]
    obtain ⟨k2, rfl⟩ : ∃ k2 : Nat, k = k2 := ⟨k, rfl⟩
    have hlit := ownB_lit (W.alloc (.cells #[.int .i64 (-1), .int .i64 r.2] 53)) W.heap.size (k : Int) (by simp)
    have hL := low_any W.heap.size _ [(k : Int)] r.2 k _ hlit (by simp) (by omega) (by simp; omega) (by omega) (by omega)
    rw [World.size_alloc] at hL
    have hfit2 : ((bs.length + ([(k : Int)] ++ lowB r.2 k).length + 1 : Nat) : Int) ≤ room := by simp [lowB_len]; omega
    rw [show (16 * 0 + (k : Int)) :: lowB r.2 k = [(k : Int)] ++ lowB r.2 k by simp]
    obtain ⟨xs, hxs⟩ : ∃ xs : List Int, [(k : Int)] ++ lowB r.2 k = xs := ⟨_, rfl⟩
    rw [hxs] at hL hfit2 ⊢
    have hxl : xs.length ≤ 20 := by rw [← hxs]; simp [lowB_len]; omega
    have hx0 : xs ≠ [] := by rw [← hxs]; simp
    clear hx ht hh hlit hfit hxs
    go_enter Try.func69, Try.ntmps69
    go_wp2_with (first | (go_at_call 79; (with_reducible refine (HU.out _).mono ?_); rintro e w1 ⟨rfl, rfl⟩))
    refine hL.mono ?_
    rintro e wX ⟨vb, rfl, hoX, hBX0⟩
    have hBX : Below W.heap.size W wX := ((below_alloc1 W (.cells #[.int .i64 (-1), .int .i64 r.2] 53)).trans ((below_alloc1 _ (.cells #[.int .u8 (k : Int)] 5)).mono (by simp))).trans hBX0
    clear hL hBX0
    obtain ⟨AB, cB, rfl, hcB, hcmB⟩ := ownB_form hoX
    obtain ⟨gB, rfl⟩ : ∃ g, AB = some ⟨g, 0, none⟩ := by
      rcases hoX.2 with ⟨e, h0⟩ | ⟨g, cap, cur, e, _⟩
      · exact absurd (List.length_eq_zero_iff.1 h0) hx0
      · simp only [Value.slice.injEq] at e; exact ⟨g, e.1⟩
    have hP := h.below hBX
    have hsz := hBX.size
    have p0 := hP.c0
    have p1 := hP.c1
    go_wp2_with fail
    go_quiet (fail)
    have hBd : Below wX.heap.size wX (wX.drewN nq) := ⟨rfl, rfl, rfl, Nat.le_refl _, fun _ _ => rfl⟩
    obtain ⟨wy, hwy⟩ : ∃ wy, wX.drewN nq = wy := ⟨_, rfl⟩
    rw [hwy] at hBd ⊢
    have hQ := hP.below hBd
    have hoY : OwnB wy W.heap.size (.slice (some ⟨gB, 0, none⟩) xs.length cB) xs := hoX.kept (row := none) ⟨hBd.os, hBd.tape, hBd.output, hBd.size, fun k hk _ => hBd.block k hk⟩ (by simp [Value.ownBlock])
    have hBY : Below W.heap.size W wy := hBX.trans (hBd.mono hsz)
    have hsy := hBY.size
    have HN := Lib.hid (fun j u (hj : (bv xs)[j]? = some u) => hoY.cells (g := gB) rfl j u hj)
    have HO := Lib.hid (fun u (hu : u ∈ bv xs) => one_int .u8 xs u hu)
    have HB := Lib.hid (show (bv xs).length = xs.length * 1 by simp [bv])
    have HQ := Lib.hid hQ.own
    have hbw : base ≤ wy.heap.size := by omega
    have p0 := hQ.c0
    have z0 := hQ.z0
    clear hP hwy hBd hBX hoX
    go_wp2_with (at_builtin; refine wpList_append_own _ rfl _ _ 40 rfl base 5 i0 (.int .u8 0) 1 1 Try.underlying40 hi hz0 hz1 hz2 rfl (by decide) _ _ _ rfl HQ.out ⟨gB, 0, none⟩ xs.length cB (bv xs) rfl HB.out HN.out HO.out (by unfold maxLen; omega) (by omega) hbw ?_; intro v1 w1 hown1 hgrow _; obtain ⟨A1, cap1, rfl⟩ := row_form hown1; obtain ⟨hn1, hn2, hn3, hn4⟩ := hQ.pushed h hBY hown1 hgrow)
    go_end0
    exact ⟨rfl, _, hn3, hn4⟩
  · have hh : hR r last = sW (r.1 - last) := if_neg ht
    obtain ⟨s1, s5⟩ := sW_bd (r.1 - last)
    obtain ⟨m, hm⟩ : ∃ m : Nat, sW (r.1 - last) = m := ⟨(sW (r.1 - last)).toNat, by omega⟩
    have hmx : (sW (r.1 - last)).toNat = m := by omega
    have hx : packR r last = ([16 * (m : Int) + (k : Int)] ++ lowB r.2 k) ++ lowB (r.1 - last) m := by simp [packR, hh, hkx, hk, hm, hmx]
    rw [hk] at HU u1 u2 u3
    rw [hm] at HS s1 s5
    have hfit2 : ((bs.length + (([16 * (m : Int) + (k : Int)] ++ lowB r.2 k) ++ lowB (r.1 - last) m).length + 1 : Nat) : Int) ≤ room := by rw [← hx]; exact hfit
    rw [hx]
    have hlit := ownB_lit (W.alloc (.cells #[.int .i64 r.1, .int .i64 r.2] 53)) (W.heap.size + 1) (16 * (m : Int) + (k : Int)) (by simp)
    have hL := low_any (W.heap.size + 1) _ [16 * (m : Int) + (k : Int)] r.2 k _ hlit (by simp) (by omega) (by simp) (by omega) (by omega)
    rw [World.size_alloc] at hL
    have hd : (r.1 != -1) = true := by simpa using ht
    obtain ⟨ys, hys⟩ : ∃ ys : List Int, [16 * (m : Int) + (k : Int)] ++ lowB r.2 k = ys := ⟨_, rfl⟩
    rw [hys] at hL hfit2 ⊢
    have hyl : ys.length ≤ 10 := by rw [← hys]; simp [lowB_len]; omega
    have hy0 : ys ≠ [] := by rw [← hys]; simp
    obtain ⟨xs, hxs⟩ : ∃ xs : List Int, ys ++ lowB (r.1 - last) m = xs := ⟨_, rfl⟩
    rw [hxs] at hfit2 ⊢
    have hxl : xs.length ≤ 20 := by rw [← hxs]; simp [lowB_len]; omega
    have hx0 : xs ≠ [] := by rw [← hxs]; simp [hy0]
    have HXS := Lib.hid hxs
    clear hx hh hlit hfit hys hxs
    go_enter Try.func69, Try.ntmps69
    go_wp2_with (first | (go_at_call 79; (with_reducible refine (HU.out _).mono ?_); rintro e w1 ⟨rfl, rfl⟩) | (go_at_call 80; (with_reducible refine (HS.out _).mono ?_); rintro e w1 ⟨rfl, rfl⟩))
    refine hL.mono ?_
    rintro e wX ⟨vb, rfl, hoX0, hBX0⟩
    have hBX1 : Below W.heap.size W wX := ((below_alloc1 W (.cells #[.int .i64 r.1, .int .i64 r.2] 53)).trans ((below_alloc1 _ (.cells #[.int .u8 (16 * (m : Int) + (k : Int))] 5)).mono (by simp))).trans (hBX0.mono (by omega))
    have hc1 : wX.cell? ⟨W.heap.size, 0, none⟩ = some (.int .i64 r.1) := by
      have e := hBX0.block W.heap.size (by omega)
      rw [World.cell?_of_block e]
      simp [go_sem]
    have hsX : W.heap.size + 1 ≤ wX.heap.size := by have := hBX0.size; rw [World.size_alloc, World.size_alloc] at this; omega
    have hL2 := low_any (W.heap.size + 1) vb _ (r.1 - last) m wX hoX0 (by omega) (by omega) hsX (by omega) (by omega)
    rw [HXS.out] at hL2
    clear hL hBX0 hoX0
    go_wp2_with fail
    refine hL2.mono ?_
    rintro e wX' ⟨vb', rfl, hoX, hBX0⟩
    have hBX := hBX1.trans (hBX0.mono (by omega))
    clear hL2 hBX0 hBX1 hc1
    obtain ⟨AB, cB, rfl, hcB, hcmB⟩ := ownB_form hoX
    obtain ⟨gB, rfl⟩ : ∃ g, AB = some ⟨g, 0, none⟩ := by
      rcases hoX.2 with ⟨e, h0⟩ | ⟨g, cap, cur, e, _⟩
      · exact absurd (List.length_eq_zero_iff.1 h0) hx0
      · simp only [Value.slice.injEq] at e; exact ⟨g, e.1⟩
    have hP := h.below hBX
    have hsz := hBX.size
    have p0 := hP.c0
    have p1 := hP.c1
    go_wp2_with fail
    go_quiet (fail)
    have hBd : Below wX'.heap.size wX' (wX'.drewN nq) := ⟨rfl, rfl, rfl, Nat.le_refl _, fun _ _ => rfl⟩
    obtain ⟨wy, hwy⟩ : ∃ wy, wX'.drewN nq = wy := ⟨_, rfl⟩
    rw [hwy] at hBd ⊢
    have hQ := hP.below hBd
    have hoY : OwnB wy (W.heap.size + 1) (.slice (some ⟨gB, 0, none⟩) xs.length cB) xs := hoX.kept (row := none) ⟨hBd.os, hBd.tape, hBd.output, hBd.size, fun k hk _ => hBd.block k hk⟩ (by simp [Value.ownBlock])
    have hBY : Below W.heap.size W wy := hBX.trans (hBd.mono hsz)
    have hsy := hBY.size
    have HN := Lib.hid (fun j u (hj : (bv xs)[j]? = some u) => hoY.cells (g := gB) rfl j u hj)
    have HO := Lib.hid (fun u (hu : u ∈ bv xs) => one_int .u8 xs u hu)
    have HB := Lib.hid (show (bv xs).length = xs.length * 1 by simp [bv])
    have HQ := Lib.hid hQ.own
    have hbw : base ≤ wy.heap.size := by omega
    have p0 := hQ.c0
    have z0 := hQ.z0
    clear hP hwy hBd hBX hoX
    go_wp2_with (at_builtin; refine wpList_append_own _ rfl _ _ 40 rfl base 5 i0 (.int .u8 0) 1 1 Try.underlying40 hi hz0 hz1 hz2 rfl (by decide) _ _ _ rfl HQ.out ⟨gB, 0, none⟩ xs.length cB (bv xs) rfl HB.out HN.out HO.out (by unfold maxLen; omega) (by omega) hbw ?_; intro v1 w1 hown1 hgrow _; obtain ⟨A1, cap1, rfl⟩ := row_form hown1; obtain ⟨hn1, hn2, hn3, hn4⟩ := hQ.pushed h hBY hown1 hgrow)
    go_end0
    exact ⟨rfl, _, hn3, hn4⟩
def fullC : List PanicEntry := [{ v := .iface 105 (.agg #[]), recovered := false }]
set_option maxRecDepth 100000 in
set_option maxHeartbeats 2000000 in
theorem run_full (base P : Nat) (v : Value) (bs : List Int) (room : Int) (r : R) (last : Int) (W : World) (h : PS W base P v bs room) (hbase : base ≤ W.heap.size) (hl : bs.length ≤ 1048576)
    (hr : -1 ≤ r.1 ∧ r.1 ≤ 17179869184 ∧ 0 ≤ r.2 ∧ r.2 ≤ 17179869184) (hla : 0 ≤ last ∧ last ≤ 17179869184) (hfit : room < ((bs.length + (packR r last).length + 1 : Nat) : Int)) :
    Calls Try.prog 69 #[.pointer (some ⟨P, 0, none⟩), .agg #[.int .i64 r.1, .int .i64 r.2], .int .i64 last] W fun e W' =>
      e = .panicked fullC ∧ Below W.heap.size W W' := by
  obtain ⟨i0, hi, hz0, hz1, hz2⟩ := info_parts Try.info_u8
  obtain ⟨r1, r2, r3, r4⟩ := hr
  obtain ⟨l1, l2⟩ := hla
  have HU := Lib.hid (fun w => unsigned_any r.2 w (by omega) (by omega))
  have HS := Lib.hid (fun w => signed_any (r.1 - last) w (by omega) (by omega))
  obtain ⟨u1, u2⟩ := uW_bd r.2
  have u3 := uW_le r.2 (by omega)
  obtain ⟨A, c, rfl, hc, hcm⟩ := ownB_form h.own
  have hlt := h.lt
  obtain ⟨k, hk⟩ : ∃ k : Nat, uW r.2 = k := ⟨(uW r.2).toNat, by omega⟩
  have hkx : (uW r.2).toNat = k := by omega
  by_cases ht : r.1 = -1
  · have hh : hR r last = 0 := if_pos ht
    have hx : packR r last = (16 * 0 + (k : Int)) :: lowB r.2 k := by simp [packR, hh, hkx, hk, lowB]
    rw [hk] at HU u1 u2 u3
    rw [hx, List.length_cons, lowB_len] at hfit
    rw [ht]
    obtain ⟨k2, rfl⟩ : ∃ k2 : Nat, k = k2 := ⟨k, rfl⟩
    have hlit := ownB_lit (W.alloc (.cells #[.int .i64 (-1), .int .i64 r.2] 53)) W.heap.size (k : Int) (by simp)
    have hL := low_any W.heap.size _ [(k : Int)] r.2 k _ hlit (by simp) (by omega) (by simp; omega) (by omega) (by omega)
    rw [World.size_alloc] at hL
    have hfit2 : room < ((bs.length + ([(k : Int)] ++ lowB r.2 k).length + 1 : Nat) : Int) := by simp [lowB_len]; omega
    obtain ⟨xs, hxs⟩ : ∃ xs : List Int, [(k : Int)] ++ lowB r.2 k = xs := ⟨_, rfl⟩
    rw [hxs] at hL hfit2
    have hxl : xs.length ≤ 20 := by rw [← hxs]; simp [lowB_len]; omega
    have hx0 : xs ≠ [] := by rw [← hxs]; simp
    clear hx ht hh hlit hfit hxs
    go_enter Try.func69, Try.ntmps69
    go_wp2_with (first | (go_at_call 79; (with_reducible refine (HU.out _).mono ?_); rintro e w1 ⟨rfl, rfl⟩))
    refine hL.mono ?_
    rintro e wX ⟨vb, rfl, hoX, hBX0⟩
    have hBX : Below W.heap.size W wX := ((below_alloc1 W (.cells #[.int .i64 (-1), .int .i64 r.2] 53)).trans ((below_alloc1 _ (.cells #[.int .u8 (k : Int)] 5)).mono (by simp))).trans hBX0
    clear hL hBX0
    obtain ⟨AB, cB, rfl, hcB, hcmB⟩ := ownB_form hoX
    obtain ⟨gB, rfl⟩ : ∃ g, AB = some ⟨g, 0, none⟩ := by
      rcases hoX.2 with ⟨e, h0⟩ | ⟨g, cap, cur, e, _⟩
      · exact absurd (List.length_eq_zero_iff.1 h0) hx0
      · simp only [Value.slice.injEq] at e; exact ⟨g, e.1⟩
    have hP := h.below hBX
    have hsz := hBX.size
    have p0 := hP.c0
    have p1 := hP.c1
    go_wp2_with fail
    go_quiet (fail)
    have hBd : Below wX.heap.size wX (wX.drewN nq) := ⟨rfl, rfl, rfl, Nat.le_refl _, fun _ _ => rfl⟩
    have hBY : Below W.heap.size W (wX.drewN nq) := hBX.trans (hBd.mono hsz)
    go_wp2_with fail
    exact ⟨rfl, rfl, hBY⟩
  · have hh : hR r last = sW (r.1 - last) := if_neg ht
    obtain ⟨s1, s5⟩ := sW_bd (r.1 - last)
    obtain ⟨m, hm⟩ : ∃ m : Nat, sW (r.1 - last) = m := ⟨(sW (r.1 - last)).toNat, by omega⟩
    have hmx : (sW (r.1 - last)).toNat = m := by omega
    have hx : packR r last = ([16 * (m : Int) + (k : Int)] ++ lowB r.2 k) ++ lowB (r.1 - last) m := by simp [packR, hh, hkx, hk, hm, hmx]
    rw [hk] at HU u1 u2 u3
    rw [hm] at HS s1 s5
    have hfit2 : room < ((bs.length + (([16 * (m : Int) + (k : Int)] ++ lowB r.2 k) ++ lowB (r.1 - last) m).length + 1 : Nat) : Int) := by rw [← hx]; exact hfit
    have hlit := ownB_lit (W.alloc (.cells #[.int .i64 r.1, .int .i64 r.2] 53)) (W.heap.size + 1) (16 * (m : Int) + (k : Int)) (by simp)
    have hL := low_any (W.heap.size + 1) _ [16 * (m : Int) + (k : Int)] r.2 k _ hlit (by simp) (by omega) (by simp) (by omega) (by omega)
    rw [World.size_alloc] at hL
    have hd : (r.1 != -1) = true := by simpa using ht
    obtain ⟨ys, hys⟩ : ∃ ys : List Int, [16 * (m : Int) + (k : Int)] ++ lowB r.2 k = ys := ⟨_, rfl⟩
    rw [hys] at hL hfit2
    have hyl : ys.length ≤ 10 := by rw [← hys]; simp [lowB_len]; omega
    have hy0 : ys ≠ [] := by rw [← hys]; simp
    obtain ⟨xs, hxs⟩ : ∃ xs : List Int, ys ++ lowB (r.1 - last) m = xs := ⟨_, rfl⟩
    rw [hxs] at hfit2
    have hxl : xs.length ≤ 20 := by rw [← hxs]; simp [lowB_len]; omega
    have hx0 : xs ≠ [] := by rw [← hxs]; simp [hy0]
    have HXS := Lib.hid hxs
    clear hx hh hlit hfit hys hxs
    go_enter Try.func69, Try.ntmps69
    go_wp2_with (first | (go_at_call 79; (with_reducible refine (HU.out _).mono ?_); rintro e w1 ⟨rfl, rfl⟩) | (go_at_call 80; (with_reducible refine (HS.out _).mono ?_); rintro e w1 ⟨rfl, rfl⟩))
    refine hL.mono ?_
    rintro e wX ⟨vb, rfl, hoX0, hBX0⟩
    have hBX1 : Below W.heap.size W wX := ((below_alloc1 W (.cells #[.int .i64 r.1, .int .i64 r.2] 53)).trans ((below_alloc1 _ (.cells #[.int .u8 (16 * (m : Int) + (k : Int))] 5)).mono (by simp))).trans (hBX0.mono (by omega))
    have hc1 : wX.cell? ⟨W.heap.size, 0, none⟩ = some (.int .i64 r.1) := by
      have e := hBX0.block W.heap.size (by omega)
      rw [World.cell?_of_block e]
      simp [go_sem]
    have hsX : W.heap.size + 1 ≤ wX.heap.size := by have := hBX0.size; rw [World.size_alloc, World.size_alloc] at this; omega
    have hL2 := low_any (W.heap.size + 1) vb _ (r.1 - last) m wX hoX0 (by omega) (by omega) hsX (by omega) (by omega)
    rw [HXS.out] at hL2
    clear hL hBX0 hoX0
    go_wp2_with fail
    refine hL2.mono ?_
    rintro e wX' ⟨vb', rfl, hoX, hBX0⟩
    have hBX := hBX1.trans (hBX0.mono (by omega))
    clear hL2 hBX0 hBX1 hc1
    obtain ⟨AB, cB, rfl, hcB, hcmB⟩ := ownB_form hoX
    obtain ⟨gB, rfl⟩ : ∃ g, AB = some ⟨g, 0, none⟩ := by
      rcases hoX.2 with ⟨e, h0⟩ | ⟨g, cap, cur, e, _⟩
      · exact absurd (List.length_eq_zero_iff.1 h0) hx0
      · simp only [Value.slice.injEq] at e; exact ⟨g, e.1⟩
    have hP := h.below hBX
    have hsz := hBX.size
    have p0 := hP.c0
    have p1 := hP.c1
    go_wp2_with fail
    go_quiet (fail)
    have hBd : Below wX'.heap.size wX' (wX'.drewN nq) := ⟨rfl, rfl, rfl, Nat.le_refl _, fun _ _ => rfl⟩
    have hBY : Below W.heap.size W (wX'.drewN nq) := hBX.trans (hBd.mono hsz)
    go_wp2_with fail
    exact ⟨rfl, rfl, hBY⟩
end Go.Proofs.Ytjdkdogiaokhjaa
