/- Runs: numbers as bytes: unsigned, signed, low. -/
import Derived.Test.YtjdkdogiaokhjaaRl
namespace Go.Proofs.Ytjdkdogiaokhjaa
open Go.RowKit Go.Proofs
set_option linter.unusedSimpArgs false
set_option linter.unusedVariables false

/-- how many bytes a number wants; f: so many at the most -/
def wid : Nat → Int → Int
  | 0, _ => 0
  | f + 1, n => if n ≤ 0 then 0 else 1 + wid f (n / 256)
def uW (n : Int) : Int := 1 + wid 8 (n / 256)
def sW (n : Int) : Int := if -128 ≤ n ∧ n < 128 then 1 else if -32768 ≤ n ∧ n < 32768 then 2 else if -8388608 ≤ n ∧ n < 8388608 then 3 else if -2147483648 ≤ n ∧ n < 2147483648 then 4 else 5
def lowB (n : Int) : Nat → List Int
  | 0 => []
  | k + 1 => n % 256 :: lowB (n / 256) k
theorem lowB_len (n : Int) (k : Nat) : (lowB n k).length = k := by induction k generalizing n <;> simp [lowB, *]
def bv (bs : List Int) : List Value := bs.map (.int .u8 ·)
abbrev OwnB (w : World) (base : Nat) (v : Value) (bs : List Int) : Prop := w.ownsRow base 5 1 v bs.length (bv bs)
theorem Try.info_u8 : (Try.prog.info? 5).map (fun i => (i.zero, i.size, i.bytes)) = some (some (.int .u8 0), 1, 1) := by kernel_rfl
theorem wid_bd (f : Nat) (n : Int) : 0 ≤ wid f n ∧ wid f n ≤ f := by
  induction f generalizing n with
  | zero => simp [wid]
  | succ f ih => simp only [wid]; have := ih (n / 256); split <;> omega
theorem unsigned_any (n : Int) (w : World) (h0 : 0 ≤ n) (h1 : n ≤ 17592186044416) :
    Calls Try.prog 79 #[.int .i64 n] w fun e w' => e = .returned (.int .i64 (uW n)) ∧ w' = w := by
  go_enter Try.func79, Try.ntmps79
  go_wp2
  go_loopw [0, 3] (fun s c wr => ∃ (f : Nat) (m x : Int), f ≤ 8 ∧ 0 ≤ m ∧ m < 256 ^ f ∧ s = .int .i64 m ∧ c = .int .i64 x ∧ x = uW n - wid f m ∧ wr = w) (fun s _ _ => (intOf s).toNat)
  case atStart => exact ⟨8, n / 256, 1, by omega, by omega, by omega, rfl, rfl, by simp only [uW]; omega, rfl⟩
  case round =>
    obtain ⟨f, m, x, hf, hm0, hm1, rfl, rfl, hx, rfl⟩ := hrel
    have hu := wid_bd 8 (n / 256)
    by_cases hm : 0 < m
    · obtain ⟨f', rfl⟩ : ∃ f', f = f' + 1 := ⟨f - 1, by rcases f with _ | f; simp at hm1; omega; omega⟩
      have hw : wid (f' + 1) m = 1 + wid f' (m / 256) := by simp only [wid]; rw [if_neg (by omega)]
      have hb := wid_bd f' (m / 256)
      have hx1 : 0 ≤ x + 9 := by unfold uW at hx; omega
      have hx2 : x ≤ 9 := by unfold uW at hx; omega
      have hd : m / 256 < 256 ^ f' := Int.ediv_lt_of_lt_mul (by omega) (by rw [Int.pow_succ] at hm1; exact hm1)
      have HX := Lib.hid hx
      clear hx hu hb hm1
      go_wp2
      go_roundw
      case rel => exact ⟨f', m / 256, x + 1, by omega, by omega, hd, rfl, rfl, by have := HX.out; omega, trivial⟩
      case measure => simp [intOf]; omega
    · have hw : wid f m = 0 := by rcases f with _ | f; rfl; simp only [wid]; rw [if_pos (by omega)]
      have hxu : x = uW n := by omega
      subst hxu
      clear hx
      go_wp2
      go_ret
      exact ⟨rfl, rfl⟩
theorem sW_bd (n : Int) : 1 ≤ sW n ∧ sW n ≤ 5 := by unfold sW; split; omega; split; omega; split; omega; split <;> omega
theorem signed_any (n : Int) (w : World) (h0 : -549755813888 ≤ n) (h1 : n < 549755813888) :
    Calls Try.prog 80 #[.int .i64 n] w fun e w' => e = .returned (.int .i64 (sW n)) ∧ w' = w := by
  obtain ⟨hs1, hs5⟩ := sW_bd n
  have HS : Hid (sW n = if -128 ≤ n ∧ n < 128 then 1 else if -32768 ≤ n ∧ n < 32768 then 2 else if -8388608 ≤ n ∧ n < 8388608 then 3 else if -2147483648 ≤ n ∧ n < 2147483648 then 4 else 5) := Lib.hid rfl
  go_enter Try.func80, Try.ntmps80
  go_wp2
  go_loopw [3] (fun s wr => ∃ k : Nat, (k = 1 ∨ k = 2 ∨ k = 3 ∨ k = 4 ∨ k = 5) ∧ (k : Int) ≤ sW n ∧ s = .int .i64 k ∧ wr = w) (fun s _ => 9 - (intOf s).toNat)
  case atStart => exact ⟨1, by omega, by omega, rfl, rfl⟩
  case round =>
    obtain ⟨k, hk, hks, rfl, rfl⟩ := hrel
    rcases hk with rfl | rfl | rfl | rfl | rfl
    · by_cases hc : -128 ≤ n ∧ n < 128
      · have e : sW n = 1 := by
          have := hks; rw [HS.out] at this ⊢
          repeat' split at this
          all_goals first | omega | (simp_all; done) | (repeat' split) <;> omega
        obtain ⟨hc1, hc2⟩ := hc
        go_wp2
        go_ret
        exact ⟨by rw [e]; rfl, rfl⟩
      · have e : 2 ≤ sW n := by
          have := hks; rw [HS.out] at this ⊢
          repeat' split
          all_goals first | omega | (repeat' split at this) <;> omega
        go_wp2
        all_goals exact ⟨⟨2, by omega, by omega, rfl, trivial⟩, by simp [intOf]⟩
    · by_cases hc : -32768 ≤ n ∧ n < 32768
      · have e : sW n = 2 := by
          have := hks; rw [HS.out] at this ⊢
          repeat' split at this
          all_goals first | omega | (simp_all; done) | (repeat' split) <;> omega
        obtain ⟨hc1, hc2⟩ := hc
        go_wp2
        go_ret
        exact ⟨by rw [e]; rfl, rfl⟩
      · have e : 3 ≤ sW n := by
          have := hks; rw [HS.out] at this ⊢
          repeat' split
          all_goals first | omega | (repeat' split at this) <;> omega
        go_wp2
        all_goals exact ⟨⟨3, by omega, by omega, rfl, trivial⟩, by simp [intOf]⟩
    · by_cases hc : -8388608 ≤ n ∧ n < 8388608
      · have e : sW n = 3 := by
          have := hks; rw [HS.out] at this ⊢
          repeat' split at this
          all_goals first | omega | (simp_all; done) | (repeat' split) <;> omega
        obtain ⟨hc1, hc2⟩ := hc
        go_wp2
        go_ret
        exact ⟨by rw [e]; rfl, rfl⟩
      · have e : 4 ≤ sW n := by
          have := hks; rw [HS.out] at this ⊢
          repeat' split
          all_goals first | omega | (repeat' split at this) <;> omega
        go_wp2
        all_goals exact ⟨⟨4, by omega, by omega, rfl, trivial⟩, by simp [intOf]⟩
    · by_cases hc : -2147483648 ≤ n ∧ n < 2147483648
      · have e : sW n = 4 := by
          have := hks; rw [HS.out] at this ⊢
          repeat' split at this
          all_goals first | omega | (simp_all; done) | (repeat' split) <;> omega
        obtain ⟨hc1, hc2⟩ := hc
        go_wp2
        go_ret
        exact ⟨by rw [e]; rfl, rfl⟩
      · have e : 5 ≤ sW n := by
          have := hks; rw [HS.out] at this ⊢
          repeat' split
          all_goals first | omega | (repeat' split at this) <;> omega
        go_wp2
        all_goals exact ⟨⟨5, by omega, by omega, rfl, trivial⟩, by simp [intOf]⟩
    · have e : sW n = 5 := by omega
      go_wp2
      go_ret
      exact ⟨by rw [e]; rfl, rfl⟩
theorem bv_append (a b : List Int) : bv (a ++ b) = bv a ++ bv b := by simp [bv]
theorem OwnB.len {w : World} {base : Nat} {v : Value} {bs : List Int} (h : OwnB w base v bs) : bs.length ≤ maxLen := by
  rcases h.2 with ⟨_, h⟩ | ⟨g, cap, cur, _, _, _, h1, h2, _⟩
  · rw [h]; simp
  · omega
theorem below_grown {w w' : World} {base size n : Nat} {e : TypeId} {v : Value} {xs : List Value} (hg : w.grownBy w' v.ownBlock) (ho : w.ownsRow base e size v n xs) (hb : base ≤ w.heap.size) : Below base w w' := by
  refine ⟨hg.os, hg.tape, hg.output, hg.size, fun k hk => hg.block k (by omega) ?_⟩
  rcases ho.2 with ⟨rfl, _⟩ | ⟨g, cap, cur, rfl, hgb, hh, _⟩
  · simp [Value.ownBlock]
  · simp [Value.ownBlock]; omega
def sh (n : Int) : Nat → Int
  | 0 => n
  | j + 1 => sh n j / 256
theorem sh_succ (n : Int) (j : Nat) : sh (n / 256) j = sh n (j + 1) := by
  induction j with
  | zero => rfl
  | succ j ih => simp only [sh] at ih ⊢; rw [ih]
theorem lowB_snoc (n : Int) (j : Nat) : lowB n (j + 1) = lowB n j ++ [sh n j % 256] := by
  induction j generalizing n with
  | zero => rfl
  | succ j ih =>
    rw [lowB, ih (n / 256), sh_succ]
    rfl
theorem sh_bd {n : Int} (h0 : -549755813888 ≤ n) (h1 : n < 549755813888) (j : Nat) : -549755813888 ≤ sh n j ∧ sh n j < 549755813888 := by
  induction j with
  | zero => exact ⟨h0, h1⟩
  | succ j ih => simp only [sh]; omega
set_option maxRecDepth 100000 in
theorem low_any (base : Nat) (v : Value) (bs : List Int) (n : Int) (k : Nat) (w : World) (ho : OwnB w base v bs) (hl : bs.length ≤ 1048576) (hk : k ≤ 8) (hb : base ≤ w.heap.size) (h0 : -549755813888 ≤ n) (h1 : n < 549755813888) :
    Calls Try.prog 81 #[v, .int .i64 n, .int .i64 k] w fun e w' => ∃ v', e = .returned v' ∧ OwnB w' base v' (bs ++ lowB n k) ∧ Below base w w' := by
  obtain ⟨i0, hi, hz0, hz1, hz2⟩ := info_parts Try.info_u8
  go_enter Try.func81, Try.ntmps81
  go_wp2
  go_loopw [0, 1, 8] (fun s m i wr => ∃ j : Nat, j ≤ k ∧ m = .int .i64 (sh n j) ∧ i = .int .i64 j ∧ OwnB wr base s (bs ++ lowB n j) ∧ Below base w wr) (fun _ _ i _ => k - (intOf i).toNat)
  case atStart => exact ⟨0, by omega, rfl, rfl, by simpa [lowB] using ho, Below.refl _ _⟩
  case round =>
    obtain ⟨j, hj, rfl, rfl, hw, hB⟩ := hrel
    by_cases hlt : j < k
    · obtain ⟨hs0, hs1⟩ := sh_bd h0 h1 j
      have hst := Lib.hid (lowB_snoc n j)
      have hlen : (bs ++ lowB n j).length = bs.length + j := by simp [lowB_len]
      have hnews := cells_new wr [.int .u8 (sh n j % 256)] 5
      have HN := Lib.hid hnews
      have HO := Lib.hid (one_int .u8 [sh n j % 256])
      have hsz := hB.size
      have HW := Lib.hid (hw.alloc (.cells #[.int .u8 (sh n j % 256)] 5))
      have HB := Lib.hid hB
      have hb3 : base ≤ wr.heap.size := by omega
      have hb2 : base ≤ (wr.alloc (.cells #[.int .u8 (sh n j % 256)] 5)).heap.size := by rw [World.size_alloc]; omega
      clear hnews hw hB ho hsz
      go_wp2_with (at_builtin; refine wpList_append_own _ rfl _ _ 40 rfl base 5 i0 (.int .u8 0) 1 1 Try.underlying40 hi hz0 hz1 hz2 rfl (by decide) _ _ _ rfl HW.out ⟨wr.heap.size, 0, none⟩ 1 1 [.int .u8 (sh n j % 256)] rfl rfl HN.out HO.out (by unfold maxLen; omega) (by omega) hb2 ?_; intro v1 w1 hown1 hgrow _)
      go_roundw
      case rel =>
        refine ⟨j + 1, by omega, rfl, by go_num, ?_, ?_⟩
        · rw [hst.out, ← List.append_assoc]
          have e1 : (bs ++ lowB n j ++ [sh n j % 256]).length = (bs ++ lowB n j).length + 1 := by simp; omega
          show w1.ownsRow base 5 1 v1 _ _
          rw [e1, bv_append]
          exact hown1
        · exact HB.out.trans ((below_alloc1 wr _).mono (by omega) |>.trans (below_grown hgrow HW.out hb2))
      case measure => simp [intOf]; omega
    · have e : j = k := by omega
      subst e
      go_wp2
      go_ret
      exact ⟨_, rfl, hw, hB⟩
end Go.Proofs.Ytjdkdogiaokhjaa
