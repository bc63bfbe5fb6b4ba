/- Runs: take, slices.Equal. -/
import Derived.Test.YtjdkdogiaokhjaaRq
import Derived.Laws.BitsAllLaws
import Derived.Laws.StructEq
namespace Go.Proofs.Ytjdkdogiaokhjaa
open Go.RowKit Go.Proofs
set_option linter.unusedSimpArgs false
set_option linter.unusedVariables false

/-- the bytes that a slice reads -/
def RdB (w : World) (A : Option Addr) (bs : List Int) : Prop :=
  bs ≠ [] → ∃ b o, A = some ⟨b, o, none⟩ ∧ ∀ i (h : i < bs.length), w.cell? ⟨b, o + i, none⟩ = some (.int .u8 bs[i]) ∧ 0 ≤ bs[i] ∧ bs[i] < 256
theorem RdB.at_ {w : World} {A : Option Addr} {bs : List Int} (h : RdB w A bs) (i : Nat) (hi : i < bs.length) : ∃ b o, A = some ⟨b, o, none⟩ ∧ w.cell? ⟨b, o + i, none⟩ = some (.int .u8 bs[i]) ∧ 0 ≤ bs[i] ∧ bs[i] < 256 := by
  obtain ⟨b, o, e, hh⟩ := h (fun e => by simp [e] at hi)
  exact ⟨b, o, e, hh i hi⟩
theorem RdB.below {w w' : World} {A : Option Addr} {bs : List Int} (h : RdB w A bs) (hb : Below w.heap.size w w') : RdB w' A bs := fun hn => by
  obtain ⟨b, o, e, hh⟩ := h hn
  refine ⟨b, o, e, fun i hi => ?_⟩
  obtain ⟨h1, h2⟩ := hh i hi
  exact ⟨(hb.cell (World.block_lt_of_cell? w _ h1)).trans h1, h2⟩
theorem RdB.drop {w : World} {b o : Nat} {bs : List Int} (h : RdB w (some ⟨b, o, none⟩) bs) (k : Nat) : RdB w (some ⟨b, o + k, none⟩) (bs.drop k) := fun hn => by
  obtain ⟨b', o', e, hh⟩ := h (fun e => hn (by simp [e]))
  cases e
  refine ⟨b, o + k, rfl, fun i hi => ?_⟩
  have := hh (k + i) (by simp at hi; omega)
  rw [List.getElem_drop, Nat.add_assoc]
  exact this
def le256 : List Int → Int
  | [] => 0
  | x :: l => x + 256 * le256 l
theorem i64_or_nat (a b : Nat) (ha : a < 4611686018427387904) (hb : b < 4611686018427387904) : bits .or .i64 (a : Int) (b : Int) = ((a ||| b : Nat) : Int) := by
  have hx : a ||| b < 2 ^ 62 := Nat.or_lt_two_pow (by omega) (by omega)
  have e1 : (BitVec.ofInt 64 (a : Int)).toNat = a := by rw [BitVec.ofInt_natCast, BitVec.toNat_ofNat]; exact Nat.mod_eq_of_lt (by omega)
  have e2 : (BitVec.ofInt 64 (b : Int)).toNat = b := by rw [BitVec.ofInt_natCast, BitVec.toNat_ofNat]; exact Nat.mod_eq_of_lt (by omega)
  show IntKind.i64.wrap ((BitVec.ofInt 64 (a : Int) ||| BitVec.ofInt 64 (b : Int)).toNat : Int) = _
  rw [BitVec.toNat_or, e1, e2]
  exact wrap_id (by omega) (by omega)
theorem or_shift (a x : Int) (j : Nat) (hj : j ≤ 4) (ha0 : 0 ≤ a) (ha : a < 256 ^ j) (hx0 : 0 ≤ x) (hx : x < 256) : bits .or .i64 a (wrap64 (x * 2 ^ (8 * j))) = a + x * 256 ^ j := by
  obtain ⟨A, rfl⟩ := Int.eq_ofNat_of_zero_le ha0
  obtain ⟨X, rfl⟩ := Int.eq_ofNat_of_zero_le hx0
  have hp : (2 : Int) ^ (8 * j) = 256 ^ j := by rw [Int.pow_mul]; rfl
  have hA : A < 256 ^ j := by
    have h := ha
    rw [show ((256 : Int) ^ j) = ((256 ^ j : Nat) : Int) from by rw [Int.natCast_pow]; rfl] at h
    omega
  have hX : X < 256 := by omega
  have hb : X * 256 ^ j < 4611686018427387904 := by
    have h1 : (256 : Nat) ^ j ≤ 4294967296 := Nat.le_trans (Nat.pow_le_pow_right (by omega) hj) (by decide)
    have h2 : X * 256 ^ j ≤ 255 * 4294967296 := Nat.mul_le_mul (by omega) h1
    omega
  have hA2 : A < 4611686018427387904 := by
    have h1 : (256 : Nat) ^ j ≤ 4294967296 := Nat.le_trans (Nat.pow_le_pow_right (by omega) hj) (by decide)
    omega
  have hc : ((X : Int) * 256 ^ j) = ((X * 256 ^ j : Nat) : Int) := by rw [Int.natCast_mul, Int.natCast_pow]; rfl
  have hw : wrap64 ((X * 256 ^ j : Nat) : Int) = ((X * 256 ^ j : Nat) : Int) := by unfold wrap64; omega
  rw [hp, hc, hw, i64_or_nat _ _ hA2 hb]
  have : A ||| X * 256 ^ j = X * 256 ^ j + A := by
    rw [Nat.or_comm, show (256 : Nat) ^ j = 2 ^ (8 * j) by rw [Nat.pow_mul], Nat.mul_comm]
    refine (Nat.two_pow_add_eq_or_of_lt ?_ X).symm
    rw [Nat.pow_mul]
    exact hA
  rw [this]
  omega
theorem le256_snoc (l : List Int) (x : Int) : le256 (l ++ [x]) = le256 l + x * 256 ^ l.length := by
  induction l with
  | nil => simp [le256]
  | cons y l ih =>
    simp only [List.cons_append, le256, ih, List.length_cons, Int.pow_succ, Int.mul_add]
    rw [Int.add_assoc, ← Int.mul_assoc, Int.mul_comm 256 x, Int.mul_assoc, Int.mul_comm 256, ← Int.mul_assoc, ← Int.mul_assoc, Int.mul_right_comm x 256]
theorem le256_bd {l : List Int} (h : ∀ x ∈ l, 0 ≤ x ∧ x < 256) : 0 ≤ le256 l ∧ le256 l < 256 ^ l.length := by
  induction l with
  | nil => simp [le256]
  | cons y l ih =>
    have h1 := h y (by simp)
    have h2 := ih fun x hx => h x (by simp [hx])
    simp only [le256, List.length_cons, Int.pow_succ]
    omega
theorem RdB.bytes {w : World} {A : Option Addr} {bs : List Int} (h : RdB w A bs) : ∀ x ∈ bs, 0 ≤ x ∧ x < 256 := by
  intro x hx
  obtain ⟨i, hi, rfl⟩ := List.getElem_of_mem hx
  obtain ⟨b, o, _, _, h2⟩ := h.at_ i hi
  exact h2
theorem below_quiet0 (w : World) (n : Nat) : Below w.heap.size w (w.drewN n) := ⟨rfl, rfl, rfl, Nat.le_refl _, fun _ _ => rfl⟩
theorem take_no (A : Option Addr) (bs : List Int) (c : Nat) (k : Int) (w : World) (h : (bs.length : Int) < k) :
    Calls Try.prog 62 #[.slice A bs.length c, .int .i64 k] w fun e w' => e = .panicked (fault 4) ∧ w' = w := by
  have hd : decide (k ≤ (bs.length : Int)) = false := by simp; omega
  go_enter Try.func62, Try.ntmps62
  go_wp2_with (first | (go_at_call 55; (with_reducible refine need_rule _ _ ?_ ?_) <;> intro hq <;> (first | (cases hq; done) | skip) <;> (try simp only [decide_eq_true_eq, decide_eq_false_iff_not, Bool.or_eq_true, Bool.or_eq_false_iff, Bool.and_eq_true, Bool.and_eq_false_iff, beq_iff_eq, beq_eq_false_iff_ne, ne_eq, bne_iff_ne, Bool.not_eq_true, Int.not_le, Int.not_lt] at hq) <;> go_prune))
  exact ⟨rfl, rfl, rfl⟩
def TakePost (A : Option Addr) (bs : List Int) (k : Nat) (w : World) (e : Ending) (w' : World) : Prop := ∃ A' c', e = .returned (.tuple #[.int .i64 (le256 (bs.take k)), .slice A' (bs.drop k).length c']) ∧ RdB w' A' (bs.drop k) ∧ (bs.drop k).length ≤ c' ∧ Below w.heap.size w w' ∧ ∀ b o, A' = some ⟨b, o, none⟩ → ∃ o', A = some ⟨b, o', none⟩
theorem take_ok (A : Option Addr) (bs : List Int) (c : Nat) (k : Nat) (w : World) (hR : RdB w A bs) (hk : k ≤ bs.length) (hk1 : 1 ≤ k) (hk5 : k ≤ 5) (hl : bs.length ≤ 1048576) (hc : bs.length ≤ c) :
    Calls Try.prog 62 #[.slice A bs.length c, .int .i64 k] w (TakePost A bs k w) := by
  have hd : decide ((k : Int) ≤ (bs.length : Int)) = true := by simp; omega
  go_enter Try.func62, Try.ntmps62
  go_wp2_with (first | (go_at_call 55; (with_reducible refine need_rule _ _ ?_ ?_) <;> intro hq <;> (first | (cases hq; done) | skip) <;> (try simp only [decide_eq_true_eq, decide_eq_false_iff_not, Bool.or_eq_true, Bool.or_eq_false_iff, Bool.and_eq_true, Bool.and_eq_false_iff, beq_iff_eq, beq_eq_false_iff_ne, ne_eq, bne_iff_ne, Bool.not_eq_true, Int.not_le, Int.not_lt] at hq) <;> go_prune))
  go_loopw [6, 14] (fun s i wr => ∃ j : Nat, j ≤ k ∧ i = .int .i64 j ∧ s = .int .i64 (le256 (bs.take j)) ∧ wr = w) (fun _ i _ => k - (intOf i).toNat)
  case atStart => exact ⟨0, by omega, rfl, rfl, rfl⟩
  case round =>
    obtain ⟨j, hj, rfl, rfl, rfl⟩ := hrel
    by_cases hlt : j < k
    · obtain ⟨b, o, rfl, c1, hb0, hb1⟩ := hR.at_ j (by omega)
      have hbt := le256_bd (l := bs.take j) (fun x hx => hR.bytes x (List.mem_of_mem_take hx))
      have hlt' : (bs.take j).length = j := by simp; omega
      rw [hlt'] at hbt
      have hor := Lib.hid (or_shift (le256 (bs.take j)) bs[j] j (by omega) hbt.1 hbt.2 hb0 hb1)
      have hsn := le256_snoc (bs.take j) bs[j]
      rw [hlt', show bs.take j ++ [bs[j]] = bs.take (j + 1) by rw [List.take_add_one, List.getElem?_eq_getElem (by omega)]; rfl] at hsn
      have HSN := Lib.hid hsn
      clear hsn hbt
      go_wp2
      exact ⟨⟨j + 1, by omega, by go_num, by rw [hor.out, HSN.out], trivial⟩, by simp [intOf]; omega⟩
    · have e : j = k := by omega
      subst e
      obtain ⟨b, o, rfl, c1, hb0, hb1⟩ := hR.at_ 0 (by omega)
      go_wp2
      have hdl : (bs.drop j).length = bs.length - j := by simp
      by_cases hcj : c = j
      · subst hcj
        have hfin : ∀ nq, TakePost (some ⟨b, o, none⟩) bs c wr (.returned (.tuple #[.int .i64 (le256 (bs.take c)), .slice (some ⟨b, o, none⟩) 0 0])) (wr.drewN nq) := fun nq =>
          ⟨some ⟨b, o, none⟩, 0, by rw [hdl, show bs.length - c = 0 by omega], fun hne => absurd (List.drop_eq_nil_of_le (by omega)) hne, by rw [hdl]; omega, below_quiet0 wr nq, fun b1 o1 e => by cases e; exact ⟨o, rfl⟩⟩
        have HF := Lib.hid hfin
        clear hfin hdl
        go_quiet (fail)
        go_wp2
        go_ret2
        exact HF.out _
      · have hfin : ∀ nq, TakePost (some ⟨b, o, none⟩) bs j wr (.returned (.tuple #[.int .i64 (le256 (bs.take j)), .slice (some ⟨b, o + j, none⟩) (bs.length - j) (c - j)])) (wr.drewN nq) := fun nq =>
          ⟨some ⟨b, o + j, none⟩, c - j, by rw [hdl], (hR.drop j).below (below_quiet0 wr nq), by rw [hdl]; omega, below_quiet0 wr nq, fun b1 o1 e => by cases e; exact ⟨o, rfl⟩⟩
        have HF := Lib.hid hfin
        clear hfin hdl
        go_quiet (fail)
        go_wp2
        go_ret2
        exact HF.out _
theorem eq_runs (a b c d : Int) (w : World) : (Op.equalIn 10000 53 (.agg #[.int .i64 a, .int .i64 b]) (.agg #[.int .i64 c, .int .i64 d])).run Try.prog w = .ok (a == c && b == d) w := by
  rw [run_equalIn_struct (P := Try.prog) w 9999 53 _ _ (by kernel_rfl) (by kernel_rfl)]
  simp only [Program.fieldsOf, Try.underlying53]
  simp [Op.eqFields, part, go_sem]
  by_cases h1 : a = c <;> by_cases h2 : b = d <;> simp [h1, h2]
theorem neq_runs (a b c d : Int) (w : World) : (binOp .neq 53 (.agg #[.int .i64 a, .int .i64 b]) (.agg #[.int .i64 c, .int .i64 d])).run Try.prog w = .ok (.bool (!(a == c && b == d))) w := by
  rw [run_neq_struct, eq_runs]; rfl
set_option maxRecDepth 100000 in
set_option maxHeartbeats 2000000 in
theorem equalR_any (A A' : Option Addr) (l l' : List R) (c c' : Nat) (w : World) (hR : Rd w A l) (hR' : Rd w A' l') (hn : l.length ≤ 1048576) (hn' : l'.length ≤ 1048576) :
    Calls Try.prog 63 #[.slice A l.length c, .slice A' l'.length c'] w fun e w' => e = .returned (.bool (decide (l = l'))) ∧ Below w.heap.size w w' := by
  by_cases hll : l.length = l'.length
  · have hd : ((l.length : Int) != (l'.length : Int)) = false := by simp; omega
    go_enter Try.func63, Try.ntmps63
    go_wp2
    go_loopw [13] (fun i wr => ∃ j : Nat, j ≤ l.length ∧ i = .int .i64 j ∧ l.take j = l'.take j ∧ Below w.heap.size w wr) (fun i _ => l.length - (intOf i).toNat)
    case atStart => exact ⟨0, by omega, rfl, rfl, Below.refl _ _⟩
    case round =>
      obtain ⟨j, hj, rfl, ht, hB⟩ := hrel
      by_cases hlt : j < l.length
      · obtain ⟨b, o, rfl, c1, c2⟩ := (hR.below hB).at_ j hlt
        have hlt2 : j < l'.length := by omega
        obtain ⟨b', o', rfl, c1', c2'⟩ := (hR'.below hB).at_ j hlt2
        have HLL := Lib.hid hll
        clear hll hd hR hR'
        have hgd : Try.prog.eqGuardType Try.prog.depth 53 = false := by kernel_rfl
        have htn : l.take (j + 1) = l.take j ++ [l[j]] := by rw [List.take_add_one, List.getElem?_eq_getElem hlt]; rfl
        have htn' : l'.take (j + 1) = l'.take j ++ [l'[j]] := by rw [List.take_add_one, List.getElem?_eq_getElem hlt2]; rfl
        have HT := Lib.hid (show l.take (j + 1) = l'.take (j + 1) ↔ l[j] = l'[j] by rw [htn, htn', ht]; exact ⟨fun h => by have := List.append_cancel_left h; simpa using this, fun h => by rw [h]⟩)
        have hB2 := hB.trans ((below_quiet0 wr 0).mono hB.size)
        have HB : Hid (∀ nq, Below w.heap.size w (wr.drewN nq)) := Lib.hid (fun nq => hB.trans ((below_quiet0 wr nq).mono hB.size))
        have HN : Hid (l[j] ≠ l'[j] → decide (l = l') = false) := Lib.hid (fun hn => by simp; rintro rfl; exact hn rfl)
        clear htn htn' ht hB hB2
        by_cases he : l[j] = l'[j]
        · have hne : ∀ (w : World), (Op.equalIn 10000 53 (.agg #[.int .i64 l[j].1, .int .i64 l[j].2]) (.agg #[.int .i64 l'[j].1, .int .i64 l'[j].2])).run Try.prog w = .ok true w := fun w => by rw [eq_runs, he]; simp
          have HE := Lib.hid he
          clear he
          go_wp2
          go_quiet (fail)
          go_wp2
          exact ⟨⟨j + 1, by omega, by go_num, HT.out.2 HE.out, HB.out _⟩, by simp [intOf]; omega⟩
        · have hne : ∀ (w : World), (Op.equalIn 10000 53 (.agg #[.int .i64 l[j].1, .int .i64 l[j].2]) (.agg #[.int .i64 l'[j].1, .int .i64 l'[j].2])).run Try.prog w = .ok false w := fun w => by
            rw [eq_runs]
            by_cases h1 : l[j].1 = l'[j].1
            · by_cases h2 : l[j].2 = l'[j].2
              · exact absurd (Prod.ext h1 h2) he
              · simp [h1, h2]
            · simp [h1]
          have HE := Lib.hid he
          clear he
          go_wp2
          go_quiet (fail)
          go_wp2
          go_ret
          exact ⟨by rw [HN.out HE.out]; rfl, HB.out _⟩
      · have e : j = l.length := by omega
        subst e
        rw [List.take_length, hll, List.take_length] at ht
        have HT := Lib.hid ht
        have hlt' : ¬ (l.length < l'.length) := by omega
        clear ht hll hd
        go_wp2
        go_ret
        exact ⟨by rw [HT.out, decide_eq_true rfl]; rfl, hB⟩
  · have hd : ((l.length : Int) != (l'.length : Int)) = true := by simp; omega
    have he : decide (l = l') = false := by simp; rintro rfl; exact hll rfl
    have HE := Lib.hid he
    clear he
    go_enter Try.func63, Try.ntmps63
    go_wp2
    go_ret
    exact ⟨by rw [HE.out]; rfl, Below.refl _ _⟩
set_option maxRecDepth 100000 in
set_option maxHeartbeats 2000000 in
theorem equalB_any (A A' : Option Addr) (l l' : List Int) (c c' : Nat) (w : World) (hR : RdB w A l) (hR' : RdB w A' l') (hn : l.length ≤ 1048576) (hn' : l'.length ≤ 1048576) :
    Calls Try.prog 64 #[.slice A l.length c, .slice A' l'.length c'] w fun e w' => e = .returned (.bool (decide (l = l'))) ∧ Below w.heap.size w w' := by
  by_cases hll : l.length = l'.length
  · have hd : ((l.length : Int) != (l'.length : Int)) = false := by simp; omega
    go_enter Try.func64, Try.ntmps64
    go_wp2
    go_loopw [13] (fun i wr => ∃ j : Nat, j ≤ l.length ∧ i = .int .i64 j ∧ l.take j = l'.take j ∧ Below w.heap.size w wr) (fun i _ => l.length - (intOf i).toNat)
    case atStart => exact ⟨0, by omega, rfl, rfl, Below.refl _ _⟩
    case round =>
      obtain ⟨j, hj, rfl, ht, hB⟩ := hrel
      by_cases hlt : j < l.length
      · obtain ⟨b, o, rfl, c1, _⟩ := (hR.below hB).at_ j hlt
        have hlt2 : j < l'.length := by omega
        obtain ⟨b', o', rfl, c1', _⟩ := (hR'.below hB).at_ j hlt2
        have HLL := Lib.hid hll
        clear hll hd hR hR'
        have htn : l.take (j + 1) = l.take j ++ [l[j]] := by rw [List.take_add_one, List.getElem?_eq_getElem hlt]; rfl
        have htn' : l'.take (j + 1) = l'.take j ++ [l'[j]] := by rw [List.take_add_one, List.getElem?_eq_getElem hlt2]; rfl
        have HT := Lib.hid (show l.take (j + 1) = l'.take (j + 1) ↔ l[j] = l'[j] by rw [htn, htn', ht]; exact ⟨fun h => by have := List.append_cancel_left h; simpa using this, fun h => by rw [h]⟩)
        have HB : Hid (∀ nq, Below w.heap.size w (wr.drewN nq)) := Lib.hid (fun nq => hB.trans ((below_quiet0 wr nq).mono hB.size))
        have HN : Hid (l[j] ≠ l'[j] → decide (l = l') = false) := Lib.hid (fun hn => by simp; rintro rfl; exact hn rfl)
        clear htn htn' ht hB
        by_cases he : l[j] = l'[j]
        · have HE := Lib.hid he
          have hdd : (l[j] != l'[j]) = false := by simpa using he
          clear he
          go_wp2
          go_quiet (fail)
          go_wp2
          exact ⟨⟨j + 1, by omega, by go_num, HT.out.2 HE.out, HB.out _⟩, by simp [intOf]; omega⟩
        · have HE := Lib.hid he
          have hdd : (l[j] != l'[j]) = true := by simpa using he
          clear he
          go_wp2
          go_quiet (fail)
          go_wp2
          go_ret
          exact ⟨by rw [HN.out HE.out]; rfl, HB.out _⟩
      · have e : j = l.length := by omega
        subst e
        rw [List.take_length, hll, List.take_length] at ht
        have HT := Lib.hid ht
        have hlt' : ¬ (l.length < l'.length) := by omega
        clear ht hll hd
        go_wp2
        go_ret
        exact ⟨by rw [HT.out, decide_eq_true rfl]; rfl, hB⟩
  · have hd : ((l.length : Int) != (l'.length : Int)) = true := by simp; omega
    have he : decide (l = l') = false := by simp; rintro rfl; exact hll rfl
    have HE := Lib.hid he
    clear he
    go_enter Try.func64, Try.ntmps64
    go_wp2
    go_ret
    exact ⟨by rw [HE.out]; rfl, Below.refl _ _⟩
end Go.Proofs.Ytjdkdogiaokhjaa
