/- Runs: the specification's Unpack, walked. -/
import Derived.Test.YtjdkdogiaokhjaaTx
import Derived.Deep.CutBlock
import Derived.OwnWalk
namespace Go.Proofs.Ytjdkdogiaokhjaa
open Go.RowKit Go.Proofs
set_option linter.unusedSimpArgs false
set_option linter.unusedVariables false

theorem le256_small {hs : List Int} (h : hs.length ≤ 4) (hb : ∀ x ∈ hs, 0 ≤ x ∧ x < 256) : 0 ≤ le256 hs ∧ le256 hs < 4294967296 := by
  obtain ⟨h1, h2⟩ := le256_bd hb
  refine ⟨h1, ?_⟩
  have : hs.length = 0 ∨ hs.length = 1 ∨ hs.length = 2 ∨ hs.length = 3 ∨ hs.length = 4 := by omega
  rcases this with e | e | e | e | e <;> rw [e] at h2 <;> omega
theorem i8_byte {y : Int} (h : 0 ≤ y ∧ y < 256) : wrap64 (IntKind.i8.wrap y) = if 128 ≤ y then y - 256 else y := by
  have e : IntKind.i8.wrap y = if 128 ≤ y then y - 256 else y := by
    simp [IntKind.wrap, IntKind.bits, IntKind.signed, show y % 256 = y by omega]
  rw [e]
  unfold wrap64
  split <;> omega
theorem sd_bd {hs : List Int} (j : Nat) (h : hs.length ≤ 4) (hb : ∀ x ∈ hs, 0 ≤ x ∧ x < 256) : -4294967296 ≤ sd hs j ∧ sd hs j < 4294967296 := by
  obtain ⟨h1, h2⟩ := le256_bd (l := hs.drop j) (fun x hx => hb x (List.mem_of_mem_drop hx))
  unfold sd
  rw [List.length_drop] at h2
  have : hs.length - j = 0 ∨ hs.length - j = 1 ∨ hs.length - j = 2 ∨ hs.length - j = 3 ∨ hs.length - j = 4 := by omega
  rcases this with e | e | e | e | e <;> rw [e] at h2 ⊢ <;> split <;> omega
theorem sgn_bd {h : Nat} {x : Int} (h1 : 1 ≤ h) (h4 : h ≤ 4) (hx : 0 ≤ x ∧ x < 256 ^ h) : -2147483648 ≤ sgn h x ∧ sgn h x ≤ 2147483647 := by
  have : h = 1 ∨ h = 2 ∨ h = 3 ∨ h = 4 := by omega
  rcases this with rfl | rfl | rfl | rfl
  · rw [sgn_of (K := 128) (by decide) (by decide)]; split <;> omega
  · rw [sgn_of (K := 32768) (by decide) (by decide)]; split <;> omega
  · rw [sgn_of (K := 8388608) (by decide) (by decide)]; split <;> omega
  · rw [sgn_of (K := 2147483648) (by decide) (by decide)]; split <;> omega
def RefUnp (w : World) (u : List R × Int × Bool) (e : Ending) (w' : World) : Prop := ∃ A1 c1, e = .returned (.tuple #[.slice A1 u.1.length c1, .int .i64 u.2.1, .bool u.2.2]) ∧ Rd w' A1 u.1 ∧ Below w.heap.size w w'
theorem refUnpackR_none {bs : List Int} (h : refU (bs.length + 1) bs 0 [] = none) : refUnpackR bs = ([], 0, false) := by unfold refUnpackR; rw [h]
theorem refUnpackR_end {bs : List Int} {p : Nat} {out : List R} (hp : p < bs.length) (h : refU (bs.length + 1) bs 0 [] = some (out, bs.drop (p + 1))) :
    refUnpackR bs = if mustE out ≠ 0 ∨ norm out ≠ out then ([], 0, false) else if (packGo ((p + 1 : Nat) : Int) [] 0 0 out).1 ≠ bs.take (p + 1) then ([], 0, false) else (out, ((p + 1 : Nat) : Int), true) := by
  unfold refUnpackR
  rw [h]
  simp only
  rw [show bs.length - (bs.drop (p + 1)).length = p + 1 by rw [List.length_drop]; omega]
theorem strOfNums_inj {a b : List Int} (ha : ∀ x ∈ a, 0 ≤ x ∧ x < 256) (hb : ∀ x ∈ b, 0 ≤ x ∧ x < 256) (h : strOfNums a = strOfNums b) : a = b := by
  have h1 : a.map (fun n => UInt8.ofNat n.toNat) = b.map (fun n => UInt8.ofNat n.toNat) := by rw [← strOfNums_data, h, strOfNums_data]
  have h2 : a.map (fun n => ((UInt8.ofNat n.toNat).toNat : Int)) = b.map (fun n => ((UInt8.ofNat n.toNat).toNat : Int)) := by
    have := congrArg (List.map fun u : UInt8 => (u.toNat : Int)) h1
    simpa [List.map_map, Function.comp_def] using this
  have e : ∀ l : List Int, (∀ x ∈ l, 0 ≤ x ∧ x < 256) → l.map (fun n => ((UInt8.ofNat n.toNat).toNat : Int)) = l := fun l hl => by
    refine (List.map_congr_left (g := id) fun x hx => ?_).trans (List.map_id l)
    have := hl x hx
    simp only [UInt8.toNat_ofNat', id]
    omega
  rwa [e a ha, e b hb] at h2
theorem str_ne {a b : ByteArray} (h : a ≠ b) : (a.toList == b.toList) = false := by
  rw [beq_eq_false_iff_ne]
  intro e
  refine h (ByteArray.ext (Array.ext' ?_))
  rw [← ByteArray.toList_eq, ← ByteArray.toList_eq]; exact e
theorem packGo_ne (most : Int) (l : List R) : ∀ (bs : List Int) (n last : Int), (packGo most bs n last l).1 ≠ [] := by
  intro bs n last
  obtain ⟨k, k1, k2, k3⟩ := packGo_form most l bs n last
  rw [packGo_eq most l k bs n last k1 k2 k3]
  simp
/-- the state of the specification's loop -/
structure UL (w : World) (bs : List Int) (W : World) (p : Nat) (last : Int) (v : Value) (out : List R) : Prop where
  below : Below w.heap.size w W
  le : p ≤ bs.length
  own : OwnR W w.heap.size v out
  many : out.length ≤ 2000
  last0 : 0 ≤ last
  last1 : last ≤ 2147483648 * out.length
  nums : ∀ r ∈ out, -1 ≤ r.1 ∧ 0 ≤ r.2
  run : ∃ f, bs.length - p < f ∧ refU (bs.length + 1) bs 0 [] = refU f (bs.drop p) last out
set_option maxRecDepth 100000 in
set_option maxHeartbeats 8000000 in
theorem refUnpack_any (A : Option Addr) (bs : List Int) (c : Nat) (w : World) (hR : RdB w A bs) (hl : bs.length ≤ 100000) (hc : bs.length ≤ c) :
    Calls Try.prog 28 #[.slice A bs.length c] w (RefUnp w (refUnpackR bs)) := by
  obtain ⟨i0, hi, hz0, hz1, hz2⟩ := info_parts Try.info_run
  have HRW := Lib.hid hR
  have HNO := Lib.hid (fun h => refUnpackR_none (bs := bs) h)
  go_enter Try.func28, Try.ntmps28
  go_upto_block 0 with fail
  go_cut [5, 6] (fun s5 s6 wz => ∃ (p : Nat) (out : List R) (last : Int) (A5 : Option Addr) (c5 : Nat), s5 = .slice A5 out.length c5 ∧ s6 = .int .i64 p ∧ UL w bs wz p last (.slice A5 out.length c5) out ∧ (p < bs.length → ∃ h : p < bs.length, bs[p] = 0))
  case first =>
    go_wp2_with fail
    go_loopw [5, 6, 7] (fun v i la wr => ∃ (p : Nat) (out : List R) (last : Int), i = .int .i64 p ∧ la = .int .i64 last ∧ UL w bs wr p last v out) (fun _ i _ _ => bs.length - (intOf i).toNat)
    case atStart => exact ⟨0, [], 0, rfl, rfl, Below.refl _ _, by omega, World.ownsRow_nil _ _ _ _, by simp, by omega, by simp, by simp, bs.length + 1, by omega, rfl⟩
    case round =>
      obtain ⟨p, out, last, rfl, rfl, hu⟩ := hrel
      obtain ⟨A5, c5, hv⟩ := row_form hu.own
      subst hv
      by_cases hlt : p < bs.length
      · have hx : bs[p] = bs[p] := rfl
        obtain ⟨b, o, rfl, c1, hx0, hx1⟩ := (HRW.out.below hu.below).at_ p hlt
        have hrun := hu.run
        obtain ⟨f, hf, hrun⟩ := hrun
        have hd := List.drop_eq_getElem_cons hlt
        rw [hd] at hrun
        obtain ⟨x, hxe⟩ : ∃ x, bs[p] = x := ⟨_, rfl⟩
        rw [hxe] at hrun hx0 hx1 c1
        have HXE := Lib.hid hxe
        have HRUN := Lib.hid hrun
        have HU := Lib.hid hu
        clear hrun hu hxe hx hd
        by_cases h0 : x = 0
        · subst h0
          go_wp2_with fail
          go_meet
          exact ⟨p, out, last, A5, c5, rfl, rfl, HU.out, fun _ => ⟨hlt, HXE.out⟩⟩
        · obtain ⟨f', rfl⟩ : ∃ f', f = f' + 1 := ⟨f - 1, by omega⟩
          have hbne : (x != 0) = true := by simpa using h0
          by_cases hC : 1 ≤ x % 16 ∧ x % 16 ≤ 4 ∧ x / 16 ≤ 4 ∧ (x % 16).toNat + (x / 16).toNat ≤ (bs.drop (p + 1)).length ∧ out.length < 2000
          · obtain ⟨W, hW⟩ : ∃ W : Nat, x % 16 = W := ⟨(x % 16).toNat, by omega⟩
            obtain ⟨H, hH⟩ : ∃ H : Nat, x / 16 = H := ⟨(x / 16).toNat, by omega⟩
            rw [List.length_drop] at hC
            obtain ⟨g1, g2, g3, g4, g5⟩ := hC
            have hrun2 := HRUN.out
            simp only [refU] at hrun2
            rw [if_neg h0, if_neg (not_not_intro ⟨g1, g2, g3, by rw [List.length_drop]; exact g4, g5⟩)] at hrun2
            rw [hW, hH] at hrun2
            simp only [Int.toNat_natCast] at hrun2
            have W1 : 1 ≤ W := by omega
            have W4 : W ≤ 4 := by omega
            have H4 : H ≤ 4 := by omega
            have hWH : p + 1 + W + H ≤ bs.length := by omega
            have hrd := HRW.out.below HU.out.below
            have hbyt := hrd.bytes
            have hrc : ∀ i, i < bs.length → wr.cell? ⟨b, o + i, none⟩ = some (.int .u8 (bs.getD i 0)) := fun i hi => by
              obtain ⟨b', o', e, c', _⟩ := hrd.at_ i hi
              cases e
              rw [c']; simp [List.getD_eq_getElem?_getD, List.getElem?_eq_getElem hi]
            obtain ⟨ws, hws⟩ : ∃ ws, (bs.drop (p + 1)).take W = ws := ⟨_, rfl⟩
            have hwl : ws.length = W := by rw [← hws]; simp; omega
            have hwb : ∀ x ∈ ws, 0 ≤ x ∧ x < 256 := fun x hx => hbyt x (by rw [← hws] at hx; exact List.mem_of_mem_drop (List.mem_of_mem_take hx))
            have hwe : ∀ j (h : j < ws.length), ws[j] = bs.getD (p + 1 + j) 0 := fun j h => by
              subst hws
              simp [List.getD_eq_getElem?_getD, List.getElem?_eq_getElem (show p + 1 + j < bs.length by omega)]
            have HRC := Lib.hid hrc
            have HWB := Lib.hid hwb
            have HWE := Lib.hid hwe
            have HR2 := Lib.hid hrun2
            have HWS := Lib.hid hws
            clear hrun2 hrd hbyt hrc hwb hwe g1 g2 g3 g4 hws
            go_wp2_with fail
            go_loop [10, 11] (fun m i => ∃ (j : Nat) (i' M : Int), j ≤ W ∧ i' = (j : Int) - 1 ∧ i = .int .i64 i' ∧ m = .int .i64 M ∧ Hid (M = le256 (ws.drop j))) (fun _ i => (intOf i + 1).toNat)
            case atStart => exact ⟨W, _, 0, by omega, rfl, by go_num, rfl, Lib.hid (by rw [← hwl]; exact (le256_end ws).symm)⟩
            case round =>
              obtain ⟨j, i', M, hj, hi', rfl, rfl, hM⟩ := hrel
              cases j with
              | zero =>
                have e : i' = -1 := by omega
                clear hi'
                subst e
                by_cases hH0 : H = 0
                · subst hH0
                  have hr := HR2.out
                  rw [if_pos (by rfl), HWS.out, ← (by have := hM.out; rw [List.drop_zero] at this; exact this : M = le256 ws)] at hr
                  have hMb := le256_small (hs := ws) (by omega) HWB.out
                  rw [← (by have := hM.out; rw [List.drop_zero] at this; exact this : M = le256 ws)] at hMb
                  obtain ⟨M0, M1⟩ := hMb
                  have HRN := Lib.hid hr
                  have hB2 : Below w.heap.size w (wr.alloc (.cells #[.int .i64 (-1), .int .i64 M] 53)) := HU.out.below.alloc HU.out.below.size _
                  have hsz := hB2.size
                  have HW : Hid (((wr.alloc (.cells #[.int .i64 (-1), .int .i64 M] 53)).alloc (.cells #[.int .i64 (-1), .int .i64 M] 53)).ownsRow w.heap.size 53 2 (.slice A5 out.length c5) out.length (rv out)) := Lib.hid ((HU.out.own.alloc _).alloc _)
                  have hnew := cells_new (wr.alloc (.cells #[.int .i64 (-1), .int .i64 M] 53)) [.int .i64 (-1), .int .i64 M] 53
                  rw [World.size_alloc] at hnew
                  have HNN := Lib.hid hnew
                  have HO := Lib.hid (show ∀ u ∈ [Value.int .i64 (-1), .int .i64 M], u.oneCell' = true by intro u hu; simp at hu; rcases hu with rfl | rfl <;> rfl)
                  have hbW : w.heap.size ≤ ((wr.alloc (.cells #[.int .i64 (-1), .int .i64 M] 53)).alloc (.cells #[.int .i64 (-1), .int .i64 M] 53)).heap.size := by rw [World.size_alloc]; omega
                  have HLT : Hid (∀ g, (Value.slice A5 out.length c5).ownBlock = some g → g < wr.heap.size) := Lib.hid (fun g hg => (World.ownsRow.lt HU.out.own g hg).2)
                  clear hr hnew hH
                  go_wp2_with (at_builtin; refine wpList_append_own _ rfl _ _ 22 rfl w.heap.size 53 i0 (.agg #[.int .i64 0, .int .i64 0]) 2 16 Try.underlying22 hi hz0 hz1 hz2 rfl (by decide) _ _ _ rfl HW.out ⟨wr.heap.size + 1, 0, none⟩ 1 1 [.int .i64 (-1), .int .i64 M] rfl rfl HNN.out HO.out (by unfold maxLen; omega) (by omega) hbW ?_; intro v1 w6 hown6 hgrow _; obtain ⟨A6, c6, rfl⟩ := row_form hown6; have k0 : w6.cell? ⟨wr.heap.size, 0, none⟩ = some (.int .i64 (-1)) := (hgrow.cell_far _ (by simp; omega) (by intro e; have := HLT.out _ e.symm; simp at this)).trans (by simp [go_sem]))
                  refine ⟨⟨p + (1 + W), out ++ [(-1, M)], last, by go_num, rfl, ?_⟩, by simp [intOf]; omega⟩
                  refine ⟨(hB2.alloc hsz _).trans (below_grown hgrow HW.out hbW), by omega, ownR_snoc hown6, by simp; omega, HU.out.last0, by have := HU.out.last1; simp; omega, fun r hr => ?_, f', by omega, ?_⟩
                  · rcases List.mem_append.1 hr with hr | hr
                    · exact HU.out.nums r hr
                    · simp only [List.mem_singleton] at hr
                      subst hr
                      exact ⟨by simp, M0⟩
                  · rw [HRN.out, List.drop_drop, show p + 1 + W = p + (1 + W) by omega]
                · have H1 : 1 ≤ H := by omega
                  obtain ⟨hs, hhs⟩ : ∃ hs, ((bs.drop (p + 1)).drop W).take H = hs := ⟨_, rfl⟩
                  have hhl : hs.length = H := by rw [← hhs]; simp; omega
                  have hhe : ∀ j (h : j < hs.length), hs[j] = bs.getD (p + 1 + W + j) 0 := fun j h => by
                    subst hhs
                    simp [List.getD_eq_getElem?_getD, List.getElem?_eq_getElem (show p + 1 + W + j < bs.length by omega)]
                  have hhb : ∀ x ∈ hs, 0 ≤ x ∧ x < 256 := fun x hx => (HRW.out.below HU.out.below).bytes x (by rw [← hhs] at hx; exact List.mem_of_mem_drop (List.mem_of_mem_drop (List.mem_of_mem_take hx)))
                  have htop := sd_top (hs := hs) (by omega) hhb
                  have e4 := hhe (H - 1) (by omega)
                  rw [show p + 1 + W + (H - 1) = p + W + H by omega] at e4
                  have hyb := hhb _ (List.getElem_mem (show H - 1 < hs.length by omega))
                  rw [e4] at hyb
                  have ht2 : sd hs (H - 1) = (if 128 ≤ bs.getD (p + W + H) 0 then bs.getD (p + W + H) 0 - 256 else bs.getD (p + W + H) 0) := by
                    rw [← e4]
                    have : ∀ k, k = H - 1 → ∀ (h : k < hs.length) (h' : H - 1 < hs.length), sd hs k = (if 128 ≤ hs[k] then hs[k] - 256 else hs[k]) → sd hs (H - 1) = (if 128 ≤ hs[H - 1] then hs[H - 1] - 256 else hs[H - 1]) := by rintro k rfl _ _ h; exact h
                    exact this (hs.length - 1) (by omega) (by omega) (by omega) htop
                  have hsb := fun j => sd_bd (hs := hs) j (by omega) hhb
                  have hz := sd_zero (hs := hs) (by omega) (by omega) hhb
                  have hgb := sgn_bd (h := hs.length) (x := le256 hs) (by omega) (by omega) (le256_bd hhb)
                  rw [hhl] at hz hgb
                  have HHE := Lib.hid hhe
                  have HHB := Lib.hid hhb
                  have HSB := Lib.hid hsb
                  have HZ := Lib.hid hz
                  have HGB := Lib.hid hgb
                  have hr := HR2.out
                  rw [if_neg (by omega : ¬ (H : Int) = 0), HWS.out, ← (by have := hM.out; rw [List.drop_zero] at this; exact this : M = le256 ws), hhs] at hr
                  have HRN := Lib.hid hr
                  have hMb := le256_small (hs := ws) (by omega) HWB.out
                  rw [← (by have := hM.out; rw [List.drop_zero] at this; exact this : M = le256 ws)] at hMb
                  obtain ⟨M0, M1⟩ := hMb
                  have hbel := (Below.refl wr.heap.size wr).alloc (Nat.le_refl _) (.cells #[.int .i64 (-1), .int .i64 M] 53)
                  have hcl : ∀ i, i < bs.length → (wr.alloc (.cells #[.int .i64 (-1), .int .i64 M] 53)).cell? ⟨b, o + i, none⟩ = some (.int .u8 (bs.getD i 0)) := fun i hi => (hbel.cell (World.block_lt_of_cell? wr _ (HRC.out i hi))).trans (HRC.out i hi)
                  have HCL := Lib.hid hcl
                  have c3 := hcl (p + W + H) (by omega)
                  have hpt : p + W + H < bs.length := by omega
                  have h8 : wrap64 (IntKind.i8.wrap (bs.getD (p + W + H) 0)) = sd hs (H - 1) := by rw [ht2]; exact i8_byte hyb
                  have H8 := Lib.hid h8
                  generalize bs.getD (p + W + H) 0 = y at *
                  clear hhe hhb hhs htop e4 ht2 hsb hz hgb hr hbel hcl h8 hyb hH
                  go_wp2_with fail
                  go_loop [13, 14] (fun d i => ∃ (j : Nat) (i' D : Int), j ≤ H - 1 ∧ i' = (j : Int) - 1 ∧ i = .int .i64 i' ∧ d = .int .i64 D ∧ Hid (D = sd hs j)) (fun _ i => (intOf i + 1).toNat)
                  case atStart => exact ⟨H - 1, _, _, by omega, by omega, rfl, rfl, H8⟩
                  case round =>
                    clear c3
                    obtain ⟨j, i', D, hj, hi', rfl, rfl, hD⟩ := hrel
                    cases j with
                    | zero =>
                      have e : i' = -1 := by omega
                      clear hi'
                      subst e
                      have hD0 := hD.out.trans HZ.out
                      have hgb := HGB.out
                      have hr := HRN.out
                      rw [← hD0] at hgb hr
                      obtain ⟨D0, D1⟩ := hgb
                      have hl0 := HU.out.last0
                      have hl1 := HU.out.last1
                      have HRN2 := Lib.hid hr
                      clear hr hD0
                      by_cases hneg : last + D < 0
                      · have hno : refUnpackR bs = ([], 0, false) := HNO.out (HRN2.out.trans (if_pos hneg))
                        have HN := Lib.hid hno
                        clear hno
                        go_wp2_with fail
                        go_ret3
                        rw [HN.out]
                        exact ⟨none, 0, rfl, Rd.nil _ _, HU.out.below.alloc HU.out.below.size _⟩
                      · have hB2 : Below w.heap.size w (wr.alloc (.cells #[.int .i64 (last + D), .int .i64 M] 53)) := HU.out.below.alloc HU.out.below.size _
                        have hT1 : last + D ≤ 2147483648 * (out.length + 1) := by omega
                        have HRN3 := Lib.hid (HRN2.out.trans (if_neg hneg))
                        have hsz := hB2.size
                        have HW : Hid (((wr.alloc (.cells #[.int .i64 (last + D), .int .i64 M] 53)).alloc (.cells #[.int .i64 (last + D), .int .i64 M] 53)).ownsRow w.heap.size 53 2 (.slice A5 out.length c5) out.length (rv out)) := Lib.hid ((HU.out.own.alloc _).alloc _)
                        have hnew := cells_new (wr.alloc (.cells #[.int .i64 (last + D), .int .i64 M] 53)) [.int .i64 (last + D), .int .i64 M] 53
                        rw [World.size_alloc] at hnew
                        have HNN := Lib.hid hnew
                        have HO := Lib.hid (show ∀ u ∈ [Value.int .i64 (last + D), .int .i64 M], u.oneCell' = true by intro u hu; simp at hu; rcases hu with rfl | rfl <;> rfl)
                        have hbW : w.heap.size ≤ ((wr.alloc (.cells #[.int .i64 (last + D), .int .i64 M] 53)).alloc (.cells #[.int .i64 (last + D), .int .i64 M] 53)).heap.size := by rw [World.size_alloc]; omega
                        have HLT : Hid (∀ g, (Value.slice A5 out.length c5).ownBlock = some g → g < wr.heap.size) := Lib.hid (fun g hg => (World.ownsRow.lt HU.out.own g hg).2)
                        have hT0 : 0 ≤ last + D := by omega
                        clear hnew hneg
                        go_wp2_with (at_builtin; refine wpList_append_own _ rfl _ _ 22 rfl w.heap.size 53 i0 (.agg #[.int .i64 0, .int .i64 0]) 2 16 Try.underlying22 hi hz0 hz1 hz2 rfl (by decide) _ _ _ rfl HW.out ⟨wr.heap.size + 1, 0, none⟩ 1 1 [.int .i64 (last + D), .int .i64 M] rfl rfl HNN.out HO.out (by unfold maxLen; omega) (by omega) hbW ?_; intro v1 w6 hown6 hgrow _; obtain ⟨A6, c6, rfl⟩ := row_form hown6; have k0 : w6.cell? ⟨wr.heap.size, 0, none⟩ = some (.int .i64 (last + D)) := (hgrow.cell_far _ (by simp; omega) (by intro e; have := HLT.out _ e.symm; simp at this)).trans (by simp [go_sem]))
                        refine ⟨⟨p + (1 + W + H), out ++ [(last + D, M)], last + D, by go_num, rfl, ?_⟩, by simp [intOf]; omega⟩
                        refine ⟨(hB2.alloc hsz _).trans (below_grown hgrow HW.out hbW), by omega, ownR_snoc hown6, by simp; omega, hT0, by simp; omega, fun r hr => ?_, f', by omega, ?_⟩
                        · rcases List.mem_append.1 hr with hr | hr
                          · exact HU.out.nums r hr
                          · simp only [List.mem_singleton] at hr
                            subst hr
                            exact ⟨by simp; omega, M0⟩
                        · rw [HRN3.out, List.drop_drop, List.drop_drop, show p + 1 + (W + H) = p + (1 + W + H) by omega]
                    | succ j =>
                      have e : i' = (j : Int) := by omega
                      clear hi'
                      subst e
                      have c2 := HCL.out (p + 1 + W + j) (by omega)
                      have e2 := HHE.out j (by omega)
                      have e3 := sd_step hs j (by omega)
                      rw [e2, ← hD.out] at e3
                      have hbd := HSB.out (j + 1)
                      rw [← hD.out] at hbd
                      have hbx : 0 ≤ bs.getD (p + 1 + W + j) 0 ∧ bs.getD (p + 1 + W + j) 0 < 256 := by rw [← e2]; exact HHB.out _ (List.getElem_mem _)
                      generalize bs.getD (p + 1 + W + j) 0 = y at *
                      have hpj : p + 1 + W + j < bs.length := by omega
                      have HE3 := Lib.hid e3
                      obtain ⟨m1, m2⟩ := hbd
                      obtain ⟨y1, y2⟩ := hbx
                      clear e2 e3
                      go_wp2_with fail
                      exact ⟨⟨j, _, 256 * D + y, by omega, rfl, rfl, rfl, Lib.hid HE3.out.symm⟩, by simp [intOf]⟩
              | succ j =>
                have e : i' = (j : Int) := by omega
                clear hi'
                subst e
                have c2 := HRC.out (p + 1 + j) (by omega)
                have e2 := HWE.out j (by omega)
                have e3 := le256_drop ws j (by omega)
                rw [e2, ← hM.out] at e3
                have hbd := le256_small (hs := ws.drop (j + 1)) (by simp; omega) (fun x hx => HWB.out x (List.mem_of_mem_drop hx))
                rw [← hM.out] at hbd
                have hbx : 0 ≤ bs.getD (p + 1 + j) 0 ∧ bs.getD (p + 1 + j) 0 < 256 := by rw [← e2]; exact HWB.out _ (List.getElem_mem _)
                generalize bs.getD (p + 1 + j) 0 = y at *
                have hpj : p + 1 + j < bs.length := by omega
                have HE3 := Lib.hid e3
                obtain ⟨m1, m2⟩ := hbd
                obtain ⟨y1, y2⟩ := hbx
                clear e2 e3
                go_wp2_with fail
                exact ⟨⟨j, _, 256 * M + y, by omega, rfl, rfl, rfl, Lib.hid HE3.out.symm⟩, by simp [intOf]⟩
          · have hno : refUnpackR bs = ([], 0, false) := HNO.out (by rw [HRUN.out]; simp only [refU]; rw [if_neg h0, if_pos hC])
            have HN := Lib.hid hno
            have hle := HU.out.many
            have hsz : w.heap.size ≤ wr.heap.size := HU.out.below.size
            rw [List.length_drop] at hC
            clear hno
            by_cases d1 : x % 16 < 1
            · go_wp2_with fail
              go_ret3
              rw [HN.out]
              exact ⟨none, 0, rfl, Rd.nil _ _, HU.out.below⟩
            · by_cases d2 : 4 < x % 16
              · go_wp2_with fail
                go_ret3
                rw [HN.out]
                exact ⟨none, 0, rfl, Rd.nil _ _, HU.out.below⟩
              · by_cases d3 : 4 < x / 16
                · go_wp2_with fail
                  go_ret3
                  rw [HN.out]
                  exact ⟨none, 0, rfl, Rd.nil _ _, HU.out.below⟩
                · by_cases d4 : (bs.length : Int) < (p : Int) + 1 + x % 16 + x / 16
                  · go_wp2_with fail
                    go_ret3
                    rw [HN.out]
                    exact ⟨none, 0, rfl, Rd.nil _ _, HU.out.below⟩
                  · by_cases d5 : 2000 ≤ out.length
                    · go_wp2_with fail
                      go_ret3
                      rw [HN.out]
                      exact ⟨none, 0, rfl, Rd.nil _ _, HU.out.below⟩
                    · exfalso; omega
      · go_wp2_with fail
        go_meet
        exact ⟨p, out, last, A5, c5, rfl, rfl, hu, fun h => absurd h hlt⟩
  case rest =>
    obtain ⟨p, out, last, A5, c5, rfl, rfl, hu, hz⟩ := hcut
    have hRD := HRW.out.below hu.below
    obtain ⟨A6, c6, hv, _, _, hR5⟩ := own_form hu.own
    cases hv
    have hst := (((St.start w).next hu.below).push hR5).pushB hRD
    have hmany := hu.many
    obtain ⟨f, hf, hrun⟩ := hu.run
    have hsz := hu.below.size
    have hple := hu.le
    clear hu hR5 hRD HRW hR
    by_cases hlt : p < bs.length
    · obtain ⟨_, hz0⟩ := hz hlt
      have hd := List.drop_eq_getElem_cons hlt
      rw [hd, hz0] at hrun
      obtain ⟨f', rfl⟩ : ∃ f', f = f' + 1 := ⟨f - 1, by omega⟩
      have hE := refUnpackR_end (out := out) hlt (by rw [hrun]; simp [refU])
      have HE := Lib.hid hE
      clear hz hd hrun hz0 hE hf
      by_cases h0 : mustE out = 0
      · have HM := Lib.hid h0
        have hV := refValid_any A5 out c5 wc (hst.get (A := A5) (l := out) (by simp)) (by omega)
        rw [h0] at hV
        have HV := Lib.hid hV
        clear hV h0
        go_wp2_with fail
        refine (HV.out).mono ?_; rintro e w2 ⟨rfl, hB⟩; replace hst := hst.next hB; clear hB HV
        go_wp2_with fail
        refine (RNorm (hst.get (A := A5) (l := out) (by simp)) rfl (Gd.of_must HM.out) (by omega)).mono ?_; rintro e w3 ⟨A7, c7, rfl, hN1, hB⟩; replace hst := (hst.next hB).push hN1.1; clear hB hN1
        go_wp2_with fail
        have hnl : (norm out).length ≤ 1048576 := by have := norm_len out; omega
        refine (refSame_any A7 A5 (norm out) out c7 c5 _ (hst.get (A := A7) (l := norm out) (by simp)) (hst.get (A := A5) (l := out) (by simp)) hnl (by omega)).mono ?_; rintro e w4 ⟨rfl, hB⟩; replace hst := hst.next hB; clear hB
        by_cases h1 : norm out = out
        · have hq : decide (norm out = out) = true := by simp [h1]
          rw [hq]
          have hP := refPack_any A5 out c5 ((p : Int) + 1) w4 (hst.get (A := A5) (l := out) (by simp)) HM.out
          rw [h1] at hP
          obtain ⟨r, hr⟩ : ∃ r, packGo ((p : Int) + 1) [] 0 0 out = r := ⟨_, rfl⟩
          have hrb := packGo_bytes ((p : Int) + 1) [] 0 0 out (by simp)
          rw [hr] at hP hrb
          have hE2 := HE.out
          rw [if_neg (by rw [HM.out, h1]; simp), show ((p + 1 : Nat) : Int) = (p : Int) + 1 by omega, hr] at hE2
          have hrn := packGo_ne ((p : Int) + 1) out [] 0 0
          rw [hr] at hrn
          obtain ⟨again, pn⟩ := r
          simp only at hrn hrb
          have HRN := Lib.hid hrn
          clear hrn
          have HP := Lib.hid hP
          have HRB := Lib.hid hrb
          have HE2 := Lib.hid hE2
          clear hP hrb hE2 hr h1 hq
          go_wp2_with fail
          refine (HP.out).mono ?_; rintro e w5 ⟨v5, rfl, ho5, hB⟩
          obtain ⟨A8, c8, rfl, hc8, hr8⟩ := rdB_of_own ho5 HRB.out
          replace hst := (hst.next hB).pushB hr8
          simp only at hst hc8
          clear hB ho5 hr8 HP
          have htl : (bs.take (p + 1)).length = p + 1 := by simp; omega
          have k2 : ∀ n, (convert 40 9 (.slice A (p + 1) c)).run Try.prog (w5.drewN n) = .ok (.string (strOfNums (bs.take (p + 1)))) (w5.drewN n) := fun n => conv_take (RdB.below (hst.getB (A := A) (l := bs) (by simp)) (below_quiet0 w5 n)) (by omega) (by omega)
          have k1 : ∀ n, (convert 40 9 (.slice A8 again.length c8)).run Try.prog (w5.drewN n) = .ok (.string (strOfNums again)) (w5.drewN n) := fun n => conv_bytes (RdB.below (hst.getB (A := A8) (l := again) (by simp)) (below_quiet0 w5 n)) HRN.out
          have hbb := (hst.getB (A := A) (l := bs) (by simp)).bytes
          obtain ⟨b', o', rfl, _⟩ := (hst.getB (A := A) (l := bs) (by simp)).at_ p hlt
          have d3 : (0 : Int) ≤ (p : Int) + 1 := by omega
          have d4 : (p : Int) + 1 ≤ (c : Int) := by omega
          by_cases h2 : again = bs.take (p + 1)
          · have HE3 := Lib.hid (HE2.out.trans (if_neg (not_not_intro h2)))
            rw [← h2] at k2
            clear h2 hbb
            go_wp2_with fail
            go_quiet (fail)
            rename_i nq
            replace hst := hst.next (below_quiet0 w5 nq)
            clear k1 k2
            go_wp2_with fail
            go_ret3
            rw [HE3.out]
            exact ⟨A5, c5, rfl, hst.get (by simp), hst.below⟩
          · have hne : strOfNums again ≠ strOfNums (bs.take (p + 1)) := fun e => h2 (strOfNums_inj HRB.out (fun x hx => hbb x (List.mem_of_mem_take hx)) e)
            have HE3 := Lib.hid (HE2.out.trans (if_pos h2))
            generalize strOfNums again = sa at *
            generalize strOfNums (bs.take (p + 1)) = sb at *
            have hn1 := str_ne hne
            clear h2 hbb
            go_wp2_with fail
            go_quiet (fail)
            rename_i nq
            replace hst := hst.next (below_quiet0 w5 nq)
            clear k1 k2
            go_wp2_with fail
            go_ret3
            rw [HE3.out]
            exact ⟨none, 0, rfl, Rd.nil _ _, hst.below⟩
        · have hq : decide (norm out = out) = false := by simp [h1]
          rw [hq]
          have HE2 := Lib.hid (HE.out.trans (if_pos (.inr h1)))
          clear h1 hq
          go_wp2_with fail
          go_ret3
          rw [HE2.out]
          exact ⟨none, 0, rfl, Rd.nil _ _, hst.below⟩
      · have hq : (mustE out != 0) = true := by simp [h0]
        have HV := Lib.hid (refValid_any A5 out c5 wc (hst.get (A := A5) (l := out) (by simp)) (by omega))
        have HE2 := Lib.hid (HE.out.trans (if_pos (.inl h0)))
        clear h0
        go_wp2_with fail
        refine (HV.out).mono ?_; rintro e w2 ⟨rfl, hB⟩; replace hst := hst.next hB; clear hB HV
        go_wp2_with fail
        go_ret3
        rw [HE2.out]
        exact ⟨none, 0, rfl, Rd.nil _ _, hst.below⟩
    · have hp : p = bs.length := by omega
      obtain ⟨f', rfl⟩ : ∃ f', f = f' + 1 := ⟨f - 1, by omega⟩
      have hE := refUnpackR_none (bs := bs) (by rw [hrun, hp, List.drop_length]; rfl)
      have HE := Lib.hid hE
      have hge : bs.length ≤ p := by omega
      clear hz hrun hE hp hf
      go_wp2_with fail
      go_ret3
      rw [HE.out]
      exact ⟨none, 0, rfl, Rd.nil _ _, hst.below⟩
end Go.Proofs.Ytjdkdogiaokhjaa
