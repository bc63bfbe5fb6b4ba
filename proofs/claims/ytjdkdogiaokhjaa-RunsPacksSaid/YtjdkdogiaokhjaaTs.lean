/- Runs: the specification's numbers as bytes. -/
import Derived.Test.YtjdkdogiaokhjaaTi
namespace Go.Proofs.Ytjdkdogiaokhjaa
open Go.RowKit Go.Proofs
set_option linter.unusedSimpArgs false
set_option linter.unusedVariables false

theorem uW_wid {n : Int} (h : 1 ≤ n) : uW n = wid 9 n := by unfold uW; rw [show wid 9 n = if n ≤ 0 then 0 else 1 + wid 8 (n / 256) from rfl, if_neg (by omega)]
theorem lowB_wid_succ {f : Nat} {m : Int} (h : 0 < m) : lowB m (wid (f + 1) m).toNat = m % 256 :: lowB (m / 256) (wid f (m / 256)).toNat := by
  have hb := wid_bd f (m / 256)
  have e : (wid (f + 1) m).toNat = (wid f (m / 256)).toNat + 1 := by simp only [wid]; rw [if_neg (by omega)]; omega
  rw [e]; rfl
theorem ownB_snoc {w : World} {base : Nat} {v : Value} {bs : List Int} {x : Int} (h : w.ownsRow base 5 1 v (bs.length + 1) (bv bs ++ [.int .u8 x])) : OwnB w base v (bs ++ [x]) := by
  show w.ownsRow base 5 1 v _ _
  have e1 : (bs ++ [x]).length = bs.length + 1 := by simp
  rw [e1, bv_append]
  exact h
def BytesN (w0 : World) (bs : List Int) (e : Ending) (w' : World) : Prop := ∃ v, e = .returned v ∧ OwnB w' w0.heap.size v bs ∧ Below w0.heap.size w0 w'
set_option maxRecDepth 100000 in
theorem refUnsigned_any (n : Int) (w : World) (h0 : 1 ≤ n) (h1 : n ≤ 17592186044416) :
    Calls Try.prog 70 #[.int .i64 n] w (BytesN w (lowB n (uW n).toNat)) := by
  obtain ⟨i0, hi, hz0, hz1, hz2⟩ := info_parts Try.info_u8
  have hu : uW n = wid 9 n := uW_wid h0
  have hlen : (lowB n (uW n).toNat).length ≤ 9 := by rw [lowB_len]; have := uW_bd n; omega
  have HU := Lib.hid hu
  go_enter Try.func70, Try.ntmps70
  go_wp2
  go_loopw [0, 3] (fun m v wr => ∃ (f : Nat) (x : Int) (bs : List Int), 0 ≤ x ∧ x ≤ 17592186044416 ∧ x < 256 ^ f ∧ m = .int .i64 x ∧ bs ++ lowB x (wid f x).toNat = lowB n (uW n).toNat ∧ OwnB wr w.heap.size v bs ∧ Below w.heap.size w wr) (fun m _ _ => (intOf m).toNat)
  case atStart => exact ⟨9, n, [], by omega, by omega, by omega, rfl, by rw [← hu]; rfl, World.ownsRow_nil _ _ _ _, Below.refl _ _⟩
  case round =>
    obtain ⟨f, x, bs, hx0, hx1, hx2, rfl, hbs, hw, hB⟩ := hrel
    by_cases hlt : 0 < x
    · obtain ⟨f', rfl⟩ : ∃ f', f = f' + 1 := ⟨f - 1, by rcases f with _ | f; simp at hx2; omega; omega⟩
      have hd : x / 256 < 256 ^ f' := Int.ediv_lt_of_lt_mul (by omega) (by rw [Int.pow_succ] at hx2; exact hx2)
      have hl : bs.length ≤ 9 := by rw [← hbs] at hlen; simp at hlen; omega
      have hnx : bs ++ [x % 256] ++ lowB (x / 256) (wid f' (x / 256)).toNat = lowB n (uW n).toNat := by rw [← hbs, lowB_wid_succ hlt, List.append_assoc]; rfl
      have HD := Lib.hid hd
      have HNX := Lib.hid hnx
      have HN := Lib.hid (cells_new wr [.int .u8 (x % 256)] 5)
      have HO := Lib.hid (one_int .u8 [x % 256])
      have hsz := hB.size
      have HW := Lib.hid (hw.alloc (.cells #[.int .u8 (x % 256)] 5))
      have HB := Lib.hid hB
      have hb3 : w.heap.size ≤ wr.heap.size := by omega
      have hb2 : w.heap.size ≤ (wr.alloc (.cells #[.int .u8 (x % 256)] 5)).heap.size := by rw [World.size_alloc]; omega
      clear hw hB hsz hd hnx hbs hlen hu hx2
      go_wp2_with (at_builtin; refine wpList_append_own _ rfl _ _ 40 rfl w.heap.size 5 i0 (.int .u8 0) 1 1 Try.underlying40 hi hz0 hz1 hz2 rfl (by decide) _ _ _ rfl HW.out ⟨wr.heap.size, 0, none⟩ 1 1 [.int .u8 (x % 256)] rfl rfl HN.out HO.out (by unfold maxLen; omega) (by omega) hb2 ?_; intro v1 w1 hown1 hgrow _)
      go_roundw
      case rel =>
        exact ⟨f', x / 256, bs ++ [x % 256], by omega, by omega, HD.out, rfl, HNX.out, ownB_snoc hown1, HB.out.trans (((below_alloc1 wr _).mono (by omega)).trans (below_grown hgrow HW.out hb2))⟩
      case measure => simp [intOf]; omega
    · have e : x = 0 := by omega
      subst e
      have hw0 : wid f 0 = 0 := by rcases f with _ | f; rfl; simp only [wid]; rw [if_pos (by omega)]
      rw [hw0] at hbs
      have hbe : bs = lowB n (uW n).toNat := by rw [← hbs]; simp [lowB]
      have HBE := Lib.hid hbe
      clear hbs hw0 hlen hu hbe
      go_wp2
      go_ret
      exact ⟨_, rfl, by rw [← HBE.out]; exact hw, hB⟩
theorem and255 (n : Int) : bits BinOp.and IntKind.i64 n 255 = n % 256 := by
  have h255 : (BitVec.ofInt 64 255).toNat = 2 ^ 8 - 1 := by decide
  have key : (BitVec.ofInt 64 n &&& BitVec.ofInt 64 255).toNat = (n % ((2 ^ 64 : Nat) : Int)).toNat % 2 ^ 8 := by
    rw [BitVec.toNat_and, BitVec.toNat_ofInt, h255, Nat.and_two_pow_sub_one_eq_mod]
  show IntKind.i64.wrap ((BitVec.ofInt 64 n &&& BitVec.ofInt 64 255).toNat : Nat) = n % 256
  rw [key, IntKind.wrap_i64]
  omega
def KH (k : Nat) (H : Int) : Prop := (k = 1 ∧ H = 128) ∨ (k = 2 ∧ H = 32768) ∨ (k = 3 ∧ H = 8388608) ∨ (k = 4 ∧ H = 2147483648)
theorem KH.bd {k : Nat} {H : Int} (h : KH k H) : 128 ≤ H ∧ H ≤ 2147483648 ∧ 1 ≤ k ∧ k ≤ 4 := by rcases h with ⟨h1, h2⟩ | ⟨h1, h2⟩ | ⟨h1, h2⟩ | ⟨h1, h2⟩ <;> omega
theorem KH.stop {k : Nat} {H n : Int} (h : KH k H) (hk : (k : Int) ≤ sW n) (h1 : -H ≤ n) (h2 : n < H) : sW n = k := by
  unfold sW at *
  rcases h with ⟨rfl, rfl⟩ | ⟨rfl, rfl⟩ | ⟨rfl, rfl⟩ | ⟨rfl, rfl⟩ <;> repeat' split at hk
  all_goals first | omega | (repeat' split) <;> omega
theorem KH.next {k : Nat} {H n : Int} (h : KH k H) (hk : (k : Int) ≤ sW n) (hc : ¬ (-H ≤ n ∧ n < H)) (hn : -2147483648 ≤ n ∧ n < 2147483648) : KH (k + 1) (H * 256) ∧ ((k + 1 : Nat) : Int) ≤ sW n := by
  refine ⟨?_, ?_⟩
  · rcases h with ⟨rfl, rfl⟩ | ⟨rfl, rfl⟩ | ⟨rfl, rfl⟩ | ⟨rfl, rfl⟩ <;> simp [KH]; omega
  · unfold sW at *
    rcases h with ⟨rfl, rfl⟩ | ⟨rfl, rfl⟩ | ⟨rfl, rfl⟩ | ⟨rfl, rfl⟩ <;> (repeat' split) <;> omega
set_option maxRecDepth 100000 in
theorem refSigned_any (n : Int) (w : World) (h0 : -2147483648 ≤ n) (h1 : n < 2147483648) :
    Calls Try.prog 71 #[.int .i64 n] w (BytesN w (lowB n (sW n).toNat)) := by
  obtain ⟨i0, hi, hz0, hz1, hz2⟩ := info_parts Try.info_u8
  go_enter Try.func71, Try.ntmps71
  go_wp2
  go_loopw [3, 4] (fun s h wr => ∃ (k : Nat) (H : Int), KH k H ∧ (k : Int) ≤ sW n ∧ s = .int .i64 k ∧ h = .int .i64 H ∧ w = wr) (fun s _ _ => 9 - (intOf s).toNat)
  case atStart => exact ⟨1, 128, .inl ⟨rfl, rfl⟩, by have := sW_bd n; omega, rfl, rfl, rfl⟩
  case round =>
    obtain ⟨k, H, hkh, hk, rfl, rfl, rfl⟩ := hrel
    obtain ⟨b1, b2, b3, b4⟩ := hkh.bd
    by_cases hc : -H ≤ n ∧ n < H
    · have e : (sW n).toNat = k := by have := hkh.stop hk hc.1 hc.2; omega
      have HE := Lib.hid e
      obtain ⟨hc1, hc2⟩ := hc
      clear hkh hk e
      go_wp2
      go_loopw [0, 5, 6] (fun m s i wr => ∃ j : Nat, j ≤ k ∧ m = .int .i64 (sh n j) ∧ i = .int .i64 j ∧ OwnB wr w.heap.size s (lowB n j) ∧ Below w.heap.size w wr) (fun _ _ i _ => k - (intOf i).toNat)
      case atStart => exact ⟨0, by omega, rfl, rfl, World.ownsRow_nil _ _ _ _, Below.refl _ _⟩
      case round =>
        obtain ⟨j, hj, rfl, rfl, hw, hB⟩ := hrel
        by_cases hlt : j < k
        · obtain ⟨hs0, hs1⟩ := sh_bd (n := n) (by omega) (by omega) j
          have hst := Lib.hid (lowB_snoc n j)
          have hlen : (lowB n j).length = j := by simp [lowB_len]
          have HN := Lib.hid (cells_new wr [.int .u8 (sh n j % 256)] 5)
          have HO := Lib.hid (one_int .u8 [sh n j % 256])
          have hsz := hB.size
          have HW := Lib.hid (hw.alloc (.cells #[.int .u8 (sh n j % 256)] 5))
          have HB := Lib.hid hB
          have hb3 : w.heap.size ≤ wr.heap.size := by omega
          have hb2 : w.heap.size ≤ (wr.alloc (.cells #[.int .u8 (sh n j % 256)] 5)).heap.size := by rw [World.size_alloc]; omega
          have hbit := and255 (sh n j)
          clear hw hB hsz
          go_wp2_with (at_builtin; refine wpList_append_own _ rfl _ _ 40 rfl w.heap.size 5 i0 (.int .u8 0) 1 1 Try.underlying40 hi hz0 hz1 hz2 rfl (by decide) _ _ _ rfl HW.out ⟨wr.heap.size, 0, none⟩ 1 1 [.int .u8 (sh n j % 256)] rfl rfl HN.out HO.out (by unfold maxLen; omega) (by omega) hb2 ?_; intro v1 w1 hown1 hgrow _)
          go_roundw
          case rel => exact ⟨j + 1, by omega, rfl, by go_num, by rw [hst.out]; exact ownB_snoc hown1, HB.out.trans (((below_alloc1 wr _).mono (by omega)).trans (below_grown hgrow HW.out hb2))⟩
          case measure => simp [intOf]; omega
        · have e : j = k := by omega
          subst e
          go_wp2
          go_ret
          exact ⟨_, rfl, by rw [HE.out]; exact hw, hB⟩
    · obtain ⟨n1, n2⟩ := hkh.next hk hc ⟨h0, h1⟩
      have N1 := Lib.hid n1
      have N2 := Lib.hid n2
      clear hkh hk n1 n2
      by_cases hc1 : n < -H
      · go_wp2
        exact ⟨⟨k + 1, H * 256, N1.out, N2.out, by go_num, by go_num, trivial⟩, by simp [intOf]; omega⟩
      · have hc2 : H ≤ n := by omega
        go_wp2
        exact ⟨⟨k + 1, H * 256, N1.out, N2.out, by go_num, by go_num, trivial⟩, by simp [intOf]; omega⟩
end Go.Proofs.Ytjdkdogiaokhjaa
