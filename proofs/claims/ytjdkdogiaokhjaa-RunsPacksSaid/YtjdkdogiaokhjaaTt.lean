/- Runs: the specification's packed. -/
import Derived.Test.YtjdkdogiaokhjaaTs
namespace Go.Proofs.Ytjdkdogiaokhjaa
open Go.RowKit Go.Proofs
set_option linter.unusedSimpArgs false
set_option linter.unusedVariables false

theorem wpList_append_B (w : World) {ops : Array Oper} {rest : List Oper} {o : Oper} {a : Act} {Q : Exit → Act → World → Prop}
    (hg : o.guard = none) (s x : Operand) (hop : o.op = Op.call { callee := Callee.builtin Builtin.append, args := #[s, x], argTypes := #[40, 40] })
    (base b2 : Nat) (v u : Value) (bs xs : List Int) (hs : a.eval s = v) (hown : OwnB w base v bs) (hx : a.eval x = u) (hsrc : OwnB w b2 u xs) (hl : bs.length + xs.length ≤ 1048576) (hb : base ≤ w.heap.size)
    (hK : ∀ v1 w1, OwnB w1 base v1 (bs ++ xs) → w.grownBy w1 v.ownBlock → wpList Try.prog ops Q rest (a.put o.dst v1) w1) : wpList Try.prog ops Q (o :: rest) a w := by
  obtain ⟨i0, hi, hz0, hz1, hz2⟩ := info_parts Try.info_u8
  rcases hsrc.2 with ⟨rfl, h0⟩ | ⟨g, cap, cur, rfl, _⟩
  · have hn : xs = [] := List.eq_nil_of_length_eq_zero h0
    subst hn
    refine wpList_plain hg fun K hK' => ?_
    have hrun := run_append_owned_none (P := Try.prog) w base 40 o.type 5 i0 1 Try.underlying40 hi v _ _ hown
    unfold Oper.wp
    simp [execOp, hop, resolve, invoke, builtin, hs, hx, hrun, Result.andThen]
    exact hK' _ _ (hK _ _ (by simpa using hown) (World.grownBy.refl _ _))
  · refine wpList_append_own w hg s x 40 hop base 5 i0 (.int .u8 0) 1 1 Try.underlying40 hi hz0 hz1 hz2 rfl (by decide) v _ _ hs hown ⟨g, 0, none⟩ xs.length cap (bv xs) hx (by simp [bv]) (hsrc.cells rfl) (ints_oneCell .u8 xs) (by unfold maxLen; omega) (by omega) hb ?_
    intro v1 w1 hown1 hgrow _
    refine hK v1 w1 ?_ hgrow
    show w1.ownsRow base 5 1 v1 _ _
    rw [List.length_append, bv_append]
    exact hown1
set_option maxRecDepth 100000 in
set_option maxHeartbeats 1000000 in
theorem refPacked_any (r : R) (last : Int) (w : World) (hr : okR r = true) (hl : 0 ≤ last ∧ last ≤ 1073741824) :
    Calls Try.prog 61 #[.agg #[.int .i64 r.1, .int .i64 r.2], .int .i64 last] w (BytesN w (packR r last)) := by
  have hok := (okR_iff r).1 hr
  obtain ⟨u1, u2, u3⟩ := uW_lt (n := r.2) (by omega) (by omega)
  have HU := fun W => refUnsigned_any r.2 W (by omega) (by omega)
  obtain ⟨l1, l2⟩ := hl
  have hlen := lowB_len r.2 (uW r.2).toNat
  have hb4 : (lowB r.2 (uW r.2).toNat).length ≤ 4 := by omega
  by_cases h1 : r.1 = -1
  · have hp : packR r last = ((lowB r.2 (uW r.2).toNat).length : Int) :: lowB r.2 (uW r.2).toNat := by
      have hh : hR r last = 0 := if_pos h1
      have hd : packR r last = (16 * hR r last + uW r.2) :: (lowB r.2 (uW r.2).toNat ++ lowB (r.1 - last) (hR r last).toNat) := rfl
      rw [hd, hh, show ((0 : Int)).toNat = 0 from rfl, show lowB (r.1 - last) 0 = [] from rfl, List.append_nil]
      congr 1
      omega
    rw [hp]
    obtain ⟨rt, rm⟩ := r
    simp only at *
    subst h1
    generalize lowB rm (uW rm).toNat = bs at *
    have HUU := Lib.hid HU
    clear HU hp hr u1 u2 u3 hlen
    go_enter Try.func61, Try.ntmps61
    go_wp2_with fail
    refine (HUU.out _).mono ?_
    rintro e w1 ⟨v1, rfl, ho1, hB1⟩
    obtain ⟨A1, c1, rfl⟩ := row_form ho1
    have hB0 : Below w.heap.size w w1 := ((Below.refl _ w).alloc (Nat.le_refl _) _).trans (hB1.mono (by simp))
    have c0 : w1.cell? ⟨w.heap.size, 0, none⟩ = some (.int .i64 (-1)) := (hB1.cell (by simp)).trans (by simp [go_sem])
    have hsz := hB0.size
    have hb : w.heap.size ≤ (w1.alloc (.cells #[.int .u8 (bs.length : Int)] 5)).heap.size := by rw [World.size_alloc]; omega
    have HL := Lib.hid (ownB_lit w1 w.heap.size (bs.length : Int) (by omega))
    have HS := Lib.hid (ho1.alloc (.cells #[.int .u8 (bs.length : Int)] 5))
    have HB := Lib.hid hB0
    clear ho1 hB1 hB0 HUU
    go_wp2_with (at_builtin; first | (refine wpList_append_B _ rfl _ _ rfl w.heap.size _ _ _ _ _ rfl HL.out rfl HS.out (by simp; omega) hb ?_; intro v2 w2 ho2 hg2; obtain ⟨A2, c2, rfl⟩ := row_form ho2) | (refine wpList_append_B _ rfl _ _ rfl w.heap.size 0 _ _ _ [] rfl ho2 rfl (World.ownsRow_nil _ _ _ _) (by simp; omega) (by have := hg2.size; omega) ?_; intro v3 w3 ho3 hg3; obtain ⟨A3, c3, rfl⟩ := row_form ho3))
    go_ret
    refine ⟨_, rfl, ?_, HB.out.trans ((((below_alloc1 w1 _).mono hsz).trans (below_grown hg2 HL.out hb)).trans (below_grown hg3 ho2 (by have := hg2.size; omega)))⟩
    simpa using ho3
  · have hto : 0 ≤ r.1 ∧ r.1 ≤ 1073741824 := by omega
    obtain ⟨s1, s2, s3⟩ := sgn_low (d := r.1 - last) (by omega) (by omega)
    have HV := fun W => refSigned_any (r.1 - last) W (by omega) (by omega)
    have hlen2 := lowB_len (r.1 - last) (sW (r.1 - last)).toNat
    have hb5 : (lowB (r.1 - last) (sW (r.1 - last)).toNat).length ≤ 4 := by omega
    have hp : packR r last = (16 * ((lowB (r.1 - last) (sW (r.1 - last)).toNat).length : Int) + ((lowB r.2 (uW r.2).toNat).length : Int)) :: (lowB r.2 (uW r.2).toNat ++ lowB (r.1 - last) (sW (r.1 - last)).toNat) := by
      have hh : hR r last = sW (r.1 - last) := if_neg h1
      have hd : packR r last = (16 * hR r last + uW r.2) :: (lowB r.2 (uW r.2).toNat ++ lowB (r.1 - last) (hR r last).toNat) := rfl
      rw [hd, hh]
      congr 1
      omega
    rw [hp]
    obtain ⟨rt, rm⟩ := r
    simp only at *
    obtain ⟨hto0, hto1⟩ := hto
    generalize lowB rm (uW rm).toNat = bs at *
    generalize lowB (rt - last) (sW (rt - last)).toNat = cs at *
    have HUU := Lib.hid HU
    have HVV := Lib.hid HV
    clear HU HV hp hr u1 u2 u3 hlen hlen2 s1 s2 s3
    go_enter Try.func61, Try.ntmps61
    go_wp2_with fail
    refine (HUU.out _).mono ?_
    rintro e w1 ⟨v1, rfl, ho1, hB1⟩
    obtain ⟨A1, c1, rfl⟩ := row_form ho1
    have hB0 : Below w.heap.size w w1 := ((Below.refl _ w).alloc (Nat.le_refl _) _).trans (hB1.mono (by simp))
    have c0 : w1.cell? ⟨w.heap.size, 0, none⟩ = some (.int .i64 rt) := (hB1.cell (by simp)).trans (by simp [go_sem])
    clear hB1 HUU
    go_wp2_with fail
    refine (HVV.out _).mono ?_
    rintro e w2 ⟨v2, rfl, ho2, hB2⟩
    obtain ⟨A2, c2, rfl⟩ := row_form ho2
    have hB3 := hB0.trans (hB2.mono hB0.size)
    have ho1' : OwnB w2 (w.alloc (.cells #[.int .i64 rt, .int .i64 rm] 53)).heap.size (.slice A1 bs.length c1) bs := ho1.kept (row := none) ⟨hB2.os, hB2.tape, hB2.output, hB2.size, fun k hk _ => hB2.block k hk⟩ (by cases hv : (Value.slice A1 bs.length c1).ownBlock <;> simp)
    have hsz := hB3.size
    have hb : w.heap.size ≤ (w2.alloc (.cells #[.int .u8 (16 * (cs.length : Int) + (bs.length : Int))] 5)).heap.size := by rw [World.size_alloc]; omega
    have HL := Lib.hid (ownB_lit w2 w.heap.size (16 * (cs.length : Int) + (bs.length : Int)) (by omega))
    have HS := Lib.hid (ho1'.alloc (.cells #[.int .u8 (16 * (cs.length : Int) + (bs.length : Int))] 5))
    have HT := Lib.hid (ho2.alloc (.cells #[.int .u8 (16 * (cs.length : Int) + (bs.length : Int))] 5))
    have HB := Lib.hid hB3
    have hlt : ∀ g, (Value.slice A2 cs.length c2).ownBlock = some g → g < w2.heap.size := fun g hg => (World.ownsRow.lt ho2 g hg).2
    have HLT := Lib.hid hlt
    clear ho1 ho1' ho2 hB0 hB2 hB3 HVV hlt
    go_wp2_with (at_builtin; first | (refine wpList_append_B _ rfl _ _ rfl w.heap.size _ _ _ _ _ rfl HL.out rfl HS.out (by simp; omega) hb ?_; intro v3 w3 ho3 hg3; obtain ⟨A3, c3, rfl⟩ := row_form ho3; have HT3 := HT.out.kept hg3 (.inr (fun e => by have := HLT.out _ e; simp [Value.ownBlock] at this))) | (refine wpList_append_B _ rfl _ _ rfl w.heap.size _ _ _ _ _ rfl ho3 rfl HT3 (by simp; omega) (by have := hg3.size; omega) ?_; intro v4 w4 ho4 hg4; obtain ⟨A4, c4, rfl⟩ := row_form ho4))
    go_ret
    refine ⟨_, rfl, ?_, HB.out.trans ((((below_alloc1 w2 _).mono hsz).trans (below_grown hg3 HL.out hb)).trans (below_grown hg4 ho3 (by have := hg3.size; omega)))⟩
    simpa using ho4
end Go.Proofs.Ytjdkdogiaokhjaa
