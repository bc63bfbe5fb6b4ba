/- Runs: the specification's Where, Map. -/
import Derived.Test.YtjdkdogiaokhjaaTj
namespace Go.Proofs.Ytjdkdogiaokhjaa
open Go.RowKit Go.Proofs
set_option linter.unusedSimpArgs false
set_option linter.unusedVariables false

/-- the pages of the stream that lie at a page of the volume -/
def whereG (tv : Int) : Int → List R → List Int
  | _, [] => []
  | pos, r :: l => (if 0 ≤ r.1 ∧ r.1 ≤ tv ∧ tv < r.1 + r.2 then [pos + tv - r.1] else []) ++ whereG tv (pos + r.2) l
theorem whereG_append (tv : Int) (a b : List R) : ∀ pos, whereG tv pos (a ++ b) = whereG tv pos a ++ whereG tv (pos + sumR a) b := by
  induction a with
  | nil => intro pos; simp [whereG, sumR]
  | cons r a ih => intro pos; simp only [List.cons_append, whereG, sumR, ih, List.append_assoc]; congr 3; omega
theorem whereG_take_succ (tv : Int) (l : List R) (k : Nat) (h : k < l.length) : whereG tv 0 (l.take (k + 1)) = whereG tv 0 (l.take k) ++ (if 0 ≤ l[k].1 ∧ l[k].1 ≤ tv ∧ tv < l[k].1 + l[k].2 then [sumR (l.take k) + tv - l[k].1] else []) := by
  rw [List.take_succ_eq_append_getElem h, whereG_append]; simp [whereG]
theorem whereG_len (tv : Int) (l : List R) : ∀ pos, (whereG tv pos l).length ≤ l.length := by
  induction l with
  | nil => intro pos; simp [whereG]
  | cons r l ih =>
    intro pos
    have := ih (pos + r.2)
    simp only [whereG, List.length_append, List.length_cons]
    split <;> simp <;> omega
theorem Try.info_int : (Try.prog.info? 3).map (fun i => (i.zero, i.size, i.bytes)) = some (some (.int .i64 0), 1, 8) := by kernel_rfl
abbrev OwnI (w : World) (base : Nat) (v : Value) (l : List Int) : Prop := w.ownsRow base 3 1 v l.length (l.map (Value.int .i64))
/-- numbers that a slice reads -/
def RdI (w : World) (A : Option Addr) (l : List Int) : Prop := l ≠ [] → ∃ b o, A = some ⟨b, o, none⟩ ∧ ∀ i (h : i < l.length), w.cell? ⟨b, o + i, none⟩ = some (.int .i64 l[i])
theorem RdI.below {w w' : World} {A : Option Addr} {l : List Int} (h : RdI w A l) (hb : Below w.heap.size w w') : RdI w' A l := fun hn => by
  obtain ⟨b, o, e, hc⟩ := h hn
  exact ⟨b, o, e, fun i hi => (hb.cell (World.block_lt_of_cell? w _ (hc i hi))).trans (hc i hi)⟩
theorem RdI.at_ {w : World} {A : Option Addr} {l : List Int} (h : RdI w A l) (k : Nat) (hk : k < l.length) : ∃ b o, A = some ⟨b, o, none⟩ ∧ w.cell? ⟨b, o + k, none⟩ = some (.int .i64 l[k]) := by
  obtain ⟨b, o, e, hc⟩ := h (by intro e; subst e; simp at hk)
  exact ⟨b, o, e, hc k hk⟩
theorem ownI_form {w : World} {base : Nat} {v : Value} {l : List Int} (h : OwnI w base v l) : ∃ A c, v = .slice A l.length c ∧ RdI w A l := by
  have h0 := h
  rcases h.2 with ⟨rfl, h1⟩ | ⟨g, cap, cur, rfl, hb, hg, hnc, hcm, hcs, ht⟩
  · have : l = [] := List.eq_nil_of_length_eq_zero h1
    subst this
    exact ⟨none, 0, rfl, fun hn => absurd rfl hn⟩
  · refine ⟨_, cap, rfl, fun _ => ⟨g, 0, rfl, fun i hi => ?_⟩⟩
    have c1 := h0.cells (g := g) rfl i (.int .i64 l[i]) (by simp [List.getElem?_eq_getElem hi])
    have ha : (⟨g, 0, none⟩ : Addr).add i = ⟨g, 0 + i, none⟩ := by unfold Addr.add; split <;> simp_all
    rw [ha] at c1
    exact c1
theorem ownI_snoc {w : World} {base : Nat} {v : Value} {l : List Int} {a : Int} (h : w.ownsRow base 3 1 v (l.length + 1) (l.map (Value.int .i64) ++ [.int .i64 a])) : OwnI w base v (l ++ [a]) := by
  have e : (l ++ [a]).map (Value.int .i64) = l.map (Value.int .i64) ++ [.int .i64 a] := by simp
  show w.ownsRow base 3 1 v (l ++ [a]).length _
  rw [e, show (l ++ [a]).length = l.length + 1 by simp]
  exact h
def IntsN (w0 : World) (l : List Int) (e : Ending) (w' : World) : Prop := ∃ A c, e = .returned (.slice A l.length c) ∧ RdI w' A l ∧ Below w0.heap.size w0 w'
set_option maxRecDepth 100000 in
set_option maxHeartbeats 2000000 in
theorem refWhere_any (A : Option Addr) (l : List R) (c : Nat) (tv : Int) (w : World) (hR : Rd w A l) (h0 : mustE l = 0) (ht : 0 ≤ tv ∧ tv ≤ 9223372036854775807) :
    Calls Try.prog 36 #[.slice A l.length c, .int .i64 tv] w (IntsN w (whereG tv 0 l)) := by
  obtain ⟨i0, hi, hz0, hz1, hz2⟩ := info_parts Try.info_int
  have hm := mild_of_must h0
  have hok := okL_of_must h0
  obtain ⟨hz1', _, hz3⟩ := mustE_zero h0
  clear h0
  go_enter Try.func36, Try.ntmps36
  go_wp2
  go_loopw [5, 6, 7] (fun v s i wr => ∃ k : Nat, k ≤ l.length ∧ i = .int .i64 k ∧ s = .int .i64 (sumR (l.take k)) ∧ OwnI wr w.heap.size v (whereG tv 0 (l.take k)) ∧ Below w.heap.size w wr) (fun _ _ i _ => l.length - (intOf i).toNat)
  case atStart => exact ⟨0, by omega, rfl, rfl, World.ownsRow_nil _ _ _ _, Below.refl _ _⟩
  case round =>
    obtain ⟨k, hk, rfl, rfl, ho, hB⟩ := hrel
    by_cases hlt : k < l.length
    · obtain ⟨b, o, rfl, c1, c2⟩ := (hR.below hB).at_ k hlt
      have hr := (okR_iff _).1 (hok l[k] (List.getElem_mem hlt))
      have hsk := sumR_nonneg (l := l.take k) (fun r hr => (hm.1 r (List.mem_of_mem_take hr)).2.2)
      have hsl := sumR_take_le (fun r hr => (hm.1 r hr).2.2) (l := l) k
      have hsl2 := sumR_take_le (fun r hr => (hm.1 r hr).2.2) (l := l) (k + 1)
      have hlen := whereG_len tv (l.take k) 0
      have hltk := List.length_take_le k l
      have HST := Lib.hid (sumR_take_succ l k hlt)
      have HWS := Lib.hid (whereG_take_succ tv l k hlt)
      have HB2 : Hid (∀ o : Obj, Below w.heap.size w (wr.alloc o)) := Lib.hid (fun o => hB.alloc hB.size o)
      generalize hrk : l[k] = r at *
      clear hrk hR hm hok hsl2
      obtain ⟨rt, rm⟩ := r
      simp only at c1 c2 hr
      obtain ⟨r1, r2, r3, r4⟩ := hr
      have hSb : sumR (l.take k) ≤ 1073741824 := by omega
      generalize whereG tv 0 (l.take k) = out at *
      generalize sumR (l.take k) = S at *
      by_cases q1 : 0 ≤ rt
      · have q4 : rt ≤ 1073741824 - rm := by omega
        by_cases q2 : rt ≤ tv
        · by_cases q3 : tv < rt + rm
          · have HWE : Hid (whereG tv 0 (l.take (k + 1)) = out ++ [S + tv - rt]) := Lib.hid (by rw [HWS.out]; simp only; rw [if_pos ⟨q1, q2, q3⟩])
            have HW : Hid (((wr.alloc (.cells #[.int .i64 rt, .int .i64 rm] 53)).alloc (.cells #[.int .i64 (S + tv - rt)] 3)).ownsRow w.heap.size 3 1 u5 out.length (out.map (Value.int .i64))) := Lib.hid ((ho.alloc _).alloc _)
            have hnew := cells_new (wr.alloc (.cells #[.int .i64 rt, .int .i64 rm] 53)) [.int .i64 (S + tv - rt)] 3
            rw [World.size_alloc] at hnew
            have HN := Lib.hid hnew
            have HO := Lib.hid (one_int .i64 [S + tv - rt])
            have hB8 : Below w.heap.size w ((wr.alloc (.cells #[.int .i64 rt, .int .i64 rm] 53)).alloc (.cells #[.int .i64 (S + tv - rt)] 3)) := (HB2.out _).alloc (by have := hB.size; simp; omega) _
            have hbW : w.heap.size ≤ ((wr.alloc (.cells #[.int .i64 rt, .int .i64 rm] 53)).alloc (.cells #[.int .i64 (S + tv - rt)] 3)).heap.size := hB8.size
            have HLT : Hid (∀ g, u5.ownBlock = some g → g < wr.heap.size) := Lib.hid (fun g hg => (World.ownsRow.lt ho g hg).2)
            clear ho hnew
            go_wp2_with (at_builtin; refine wpList_append_own _ rfl _ _ 59 rfl w.heap.size 3 i0 (.int .i64 0) 1 8 Try.underlying59 hi hz0 hz1 hz2 rfl (by decide) _ _ _ rfl HW.out ⟨wr.heap.size + 1, 0, none⟩ 1 1 [.int .i64 (S + tv - rt)] rfl rfl HN.out HO.out (by unfold maxLen; omega) (by omega) hbW ?_; intro v1 w9 hown9 hgrow _; have hgB := below_grown hgrow HW.out hbW; have c2' : w9.cell? ⟨wr.heap.size, 1, none⟩ = some (.int .i64 rm) := (hgrow.cell_far _ (by simp; omega) (by intro e; have := HLT.out _ e.symm; simp at this)).trans (by simp [go_sem]))
            exact ⟨⟨k + 1, by omega, by go_num, by rw [HST.out], by rw [HWE.out]; exact ownI_snoc hown9, hB8.trans hgB⟩, by simp [intOf]; omega⟩
          · have HWE : Hid (whereG tv 0 (l.take (k + 1)) = out) := Lib.hid (by rw [HWS.out]; simp only; rw [if_neg (fun h => q3 h.2.2), List.append_nil])
            go_wp2
            exact ⟨⟨k + 1, by omega, by go_num, by rw [HST.out], by rw [HWE.out]; exact ho.alloc _, HB2.out _⟩, by simp [intOf]; omega⟩
        · have HWE : Hid (whereG tv 0 (l.take (k + 1)) = out) := Lib.hid (by rw [HWS.out]; simp only; rw [if_neg (fun h => q2 h.2.1), List.append_nil])
          go_wp2
          exact ⟨⟨k + 1, by omega, by go_num, by rw [HST.out], by rw [HWE.out]; exact ho.alloc _, HB2.out _⟩, by simp [intOf]; omega⟩
      · have HWE : Hid (whereG tv 0 (l.take (k + 1)) = out) := Lib.hid (by rw [HWS.out]; simp only; rw [if_neg (fun h => q1 h.1), List.append_nil])
        go_wp2
        exact ⟨⟨k + 1, by omega, by go_num, by rw [HST.out], by rw [HWE.out]; exact ho.alloc _, HB2.out _⟩, by simp [intOf]; omega⟩
    · have e : k = l.length := by omega
      subst e
      rw [List.take_length] at ho
      obtain ⟨A1, c1, rfl, hr1⟩ := ownI_form ho
      go_wp2
      go_ret
      exact ⟨A1, c1, rfl, hr1, hB⟩
end Go.Proofs.Ytjdkdogiaokhjaa
