/- Runs: the joiner as a whole, 'joined'. -/
import Derived.Test.YtjdkdogiaokhjaaRc
namespace Go.Proofs.Ytjdkdogiaokhjaa
open Go.RowKit Go.Proofs
set_option linter.unusedSimpArgs false
set_option linter.unusedVariables false

/-- 'add', whatever the run -/
theorem add_any (base B : Nat) (v : Value) (l : List R) (r : R) (w : World) (hJ : JS w base B v l) (hbase : base ≤ w.heap.size) (hl : l.length ≤ 1048576) (hf : Fine l)
    (hr : -1 ≤ r.1 ∧ r.1 ≤ 1099511627776 ∧ 0 ≤ r.2) (hr2 : r.2 ≤ 1099511627776) :
    Calls Try.prog 77 #[.agg #[.int .i64 r.1, .int .i64 r.2], .pointer (some ⟨B, 0, none⟩)] w fun e w' => e = .returned (.tuple #[]) ∧ ∃ v', JS w' base B v' (addR l r) ∧ Ext (touch B v) w w' := by
  obtain ⟨to, many⟩ := r
  simp only at hr hr2
  by_cases h0 : many = 0
  · subst h0
    refine (add_zero base B v l to w hJ).mono ?_
    rintro e w' ⟨rfl, rfl⟩
    have hb := (Below.refl w.heap.size w).alloc (Nat.le_refl _) (.cells #[.int .i64 to, .int .i64 0] 53)
    exact ⟨rfl, v, by rw [addR_zero _ _ rfl]; exact hJ.below hb, Ext.of_below hb⟩
  · rcases List.eq_nil_or_concat l with rfl | ⟨l, x, rfl⟩
    · rw [addR_nil _ h0]
      exact add_first base B v to many w hJ h0 hbase
    · rw [List.concat_eq_append] at *
      have hx := hf.1 x (by simp)
      have hx2 := hf.small x (by simp)
      have hl' : l.length ≤ 1048576 := by simp at hl; omega
      rw [addR_snoc _ _ _ h0]
      by_cases hg : glue x (to, many) = true
      · rw [if_pos hg]
        exact add_glued base B v l x to many w hJ h0 hbase hl' ⟨hx.1, hx.2.1⟩ hx2 ⟨hr.2.2, hr2⟩ ⟨hr.1, hr.2.1⟩ hg
      · rw [if_neg hg]
        exact add_push base B v l x to many w hJ h0 hbase hl' ⟨hx.1, hx.2.1⟩ hx2 ⟨hr.2.2, hr2⟩ ⟨hr.1, hr.2.1⟩ (by simpa using hg)

abbrev addF (B : Nat) : Value := .func (.func 77) #[] #[.pointer (some ⟨B, 0, none⟩)]
abbrev allF (B : Nat) : Value := .func (.func 78) #[] #[.pointer (some ⟨B, 0, none⟩)]
theorem joiner_any (w : World) : Calls Try.prog 67 #[] w fun e w' => e = .returned (.tuple #[addF w.heap.size, allF w.heap.size]) ∧ w' = w.alloc (.cells #[.slice none 0 0] 22) := by
  have hmf : ∀ (fn : Fn) (first cap : Array Value) (w : World), (Instr.makeFunc fn first cap).run Try.prog w = .ok (.func fn first cap) w := fun _ _ _ _ => rfl
  go_enter Try.func67, Try.ntmps67
  go_wp2
  go_ret2
  exact ⟨rfl, rfl⟩
theorem JS.new (w : World) : JS (w.alloc (.cells #[.slice none 0 0] 22)) w.heap.size w.heap.size (.slice none 0 0) [] :=
  ⟨Nat.le_refl _, Boxed.new _ _ _, World.ownsRow_nil _ _ _ _⟩
theorem all_any (base B : Nat) (v : Value) (l : List R) (w : World) (hJ : JS w base B v l) :
    Calls Try.prog 78 #[.pointer (some ⟨B, 0, none⟩)] w fun e w' => e = .returned v ∧ w' = w := by
  obtain ⟨hB, hx, hown⟩ := hJ
  obtain ⟨A, c, rfl, hc, hcm, hR⟩ := own_form hown
  have c1 := hx.cell
  clear hx hown
  go_enter Try.func78, Try.ntmps78
  go_wp2
  go_ret
  exact ⟨rfl, rfl⟩

/-- a slice of slices of runs -/
def RdL (w : World) (A : Option Addr) (ls : List (Value × List R)) : Prop :=
  ls ≠ [] → ∃ b o, A = some ⟨b, o, none⟩ ∧ ∀ i (h : i < ls.length), w.cell? ⟨b, o + i, none⟩ = some ls[i].1 ∧ ∃ A' c, ls[i].1 = .slice A' ls[i].2.length c ∧ Rd w A' ls[i].2
theorem RdL.below {w w' : World} {A : Option Addr} {l : List (Value × List R)} (h : RdL w A l) (hb : Below w.heap.size w w') : RdL w' A l := fun hl => by
  obtain ⟨b, o, rfl, hc⟩ := h hl
  refine ⟨b, o, rfl, fun i hi => ?_⟩
  obtain ⟨h1, A', c, h2, h3⟩ := hc i hi
  exact ⟨(hb.cell (World.block_lt_of_cell? w _ h1)).trans h1, A', c, h2, h3.below hb⟩
theorem RdL.at_ {w : World} {A : Option Addr} {l : List (Value × List R)} (h : RdL w A l) (k : Nat) (hk : k < l.length) : ∃ b o A' c, A = some ⟨b, o, none⟩ ∧ w.cell? ⟨b, o + k, none⟩ = some (.slice A' l[k].2.length c) ∧ Rd w A' l[k].2 := by
  obtain ⟨b, o, e, hc⟩ := h (by intro e; subst e; simp at hk)
  obtain ⟨h1, A', c, h2, h3⟩ := hc k hk
  exact ⟨b, o, A', c, e, by rw [← h2]; exact h1, h3⟩
def cat (ls : List (Value × List R)) : List R := ls.flatMap (·.2)
theorem cat_take_succ (ls : List (Value × List R)) (k : Nat) (h : k < ls.length) : cat (ls.take (k + 1)) = cat (ls.take k) ++ ls[k].2 := by
  unfold cat
  rw [List.take_succ_eq_append_getElem h, List.flatMap_append]; simp
theorem cat_split (ls : List (Value × List R)) (k : Nat) (h : k < ls.length) : cat ls = cat (ls.take k) ++ ls[k].2 ++ cat (ls.drop (k + 1)) := by
  unfold cat
  have e : ls = ls.take k ++ ls[k] :: ls.drop (k + 1) := by rw [← List.drop_eq_getElem_cons h, List.take_append_drop]
  rw [show ls.flatMap (·.2) = (ls.take k ++ ls[k] :: ls.drop (k + 1)).flatMap (·.2) from congrArg (fun t => List.flatMap (·.2) t) e]
  simp only [List.flatMap_append, List.flatMap_cons, List.append_assoc]
theorem part_bounds (ls : List (Value × List R)) (k j : Nat) (hk : k < ls.length) (hj : j < ls[k].2.length) (hl : (cat ls).length ≤ 1048576) (hf : ∀ r ∈ cat ls, -1 ≤ r.1 ∧ r.1 ≤ 1099511627776 ∧ 0 ≤ r.2) (hs : sumR (cat ls) ≤ 1099511627776) :
    Fine (addAll (norm (cat (ls.take k))) (ls[k].2.take j)) ∧ (addAll (norm (cat (ls.take k))) (ls[k].2.take j)).length ≤ 1048576 ∧
    (-1 ≤ (ls[k].2[j]).1 ∧ (ls[k].2[j]).1 ≤ 1099511627776 ∧ 0 ≤ (ls[k].2[j]).2) ∧ (ls[k].2[j]).2 ≤ 1099511627776 := by
  have e := cat_split ls k hk
  have e2 : ls[k].2 = ls[k].2.take j ++ ls[k].2[j] :: ls[k].2.drop (j + 1) := by rw [← List.drop_eq_getElem_cons hj, List.take_append_drop]
  have e3 : cat ls = (cat (ls.take k) ++ ls[k].2.take j) ++ (ls[k].2[j] :: (ls[k].2.drop (j + 1) ++ cat (ls.drop (k + 1)))) := by
    rw [e, show cat (ls.take k) ++ ls[k].2 ++ cat (ls.drop (k + 1)) = cat (ls.take k) ++ (ls[k].2.take j ++ ls[k].2[j] :: ls[k].2.drop (j + 1)) ++ cat (ls.drop (k + 1)) from congrArg (fun t => cat (ls.take k) ++ t ++ cat (ls.drop (k + 1))) e2]
    simp only [List.append_assoc, List.cons_append]
  have hm := hf ls[k].2[j] (by rw [e3]; simp)
  have hm2 := sumR_mem (l := cat ls) (fun r hr => (hf r hr).2.2) ls[k].2[j] (by rw [e3]; simp)
  have hF : addAll (norm (cat (ls.take k))) (ls[k].2.take j) = norm (cat (ls.take k) ++ ls[k].2.take j) := by simp [norm, addAll_append]
  have hsub : ∀ r ∈ cat (ls.take k) ++ ls[k].2.take j, r ∈ cat ls := fun r hr => by rw [e3]; exact List.mem_append_left _ hr
  have hsum : sumR (cat (ls.take k) ++ ls[k].2.take j) ≤ sumR (cat ls) := by
    rw [e3, sumR_append (cat (ls.take k) ++ ls[k].2.take j)]
    have := sumR_nonneg (l := ls[k].2[j] :: (ls[k].2.drop (j + 1) ++ cat (ls.drop (k + 1)))) (fun r hr => (hf r (by rw [e3]; exact List.mem_append_right _ hr)).2.2)
    omega
  have hlen : (cat (ls.take k) ++ ls[k].2.take j).length ≤ (cat ls).length := by rw [e3]; simp only [List.length_append]; omega
  rw [hF]
  refine ⟨addAll_fine _ _ ⟨by simp, by simp [sumR]⟩ (fun r hr => hf r (hsub r hr)) (by simp [sumR]; omega), ?_, hm, by omega⟩
  have := addAll_len (cat (ls.take k) ++ ls[k].2.take j) []
  simp only [norm, List.length_nil] at *
  omega
theorem len_part (ls : List (Value × List R)) (k : Nat) (hk : k < ls.length) : ls[k].2.length ≤ (cat ls).length := by
  rw [cat_split ls k hk]; simp only [List.length_append]; omega
set_option maxRecDepth 100000 in
set_option maxHeartbeats 1000000 in
theorem joined_any (A : Option Addr) (ls : List (Value × List R)) (c : Nat) (w : World) (hR : RdL w A ls) (hn : ls.length ≤ 1000) (hl : (cat ls).length ≤ 1048576)
    (hf : ∀ r ∈ cat ls, -1 ≤ r.1 ∧ r.1 ≤ 1099511627776 ∧ 0 ≤ r.2) (hs : sumR (cat ls) ≤ 1099511627776) :
    Calls Try.prog 52 #[.slice A ls.length c] w fun e w' => ∃ v, e = .returned v ∧ w'.ownsRow w.heap.size 53 2 v (norm (cat ls)).length (rv (norm (cat ls))) ∧ Below w.heap.size w w' := by
  have HJ := Lib.hid (joiner_any w)
  have hB1 := (Below.refl w.heap.size w).alloc (Nat.le_refl _) (.cells #[.slice none 0 0] 22)
  have hJ1 := JS.new w
  have HPB := Lib.hid (fun k j hk hj => part_bounds ls k j hk hj hl hf hs)
  clear hf
  go_enter Try.func52, Try.ntmps52
  go_wp2_with (go_at_call 67; (with_reducible refine HJ.out.mono ?_); rintro e w1 ⟨rfl, rfl⟩)
  clear HJ
  go_loopw [15] (fun i wr => ∃ (k : Nat) (v : Value), k ≤ ls.length ∧ i = .int .i64 k ∧ JS wr w.heap.size w.heap.size v (norm (cat (ls.take k))) ∧ Below w.heap.size w wr) (fun i _ => ls.length - (intOf i).toNat)
  case atStart => exact ⟨0, _, by omega, rfl, hJ1, hB1⟩
  case round =>
    obtain ⟨k, v, hk, rfl, hJ, hB⟩ := hrel
    clear hJ1 hB1
    by_cases hlt : k < ls.length
    · obtain ⟨b, o, A', c', rfl, hcw, hRk⟩ := hR.at_ k hlt
      have hc := (hB.cell (World.block_lt_of_cell? w _ hcw)).trans hcw
      have HK := Lib.hid (cat_take_succ ls k hlt)
      have hlk : ls[k].2.length ≤ 1048576 := by have := len_part ls k hlt; omega
      clear hcw
      go_wp2_with fail
      obtain ⟨wo, rfl⟩ : ∃ wo : World, wo = wr := ⟨_, rfl⟩
      go_loopw [21] (fun i wr => ∃ (j : Nat) (v : Value), j ≤ ls[k].2.length ∧ i = .int .i64 j ∧ JS wr w.heap.size w.heap.size v (addAll (norm (cat (ls.take k))) (ls[k].2.take j)) ∧ Below w.heap.size w wr) (fun i _ => ls[k].2.length - (intOf i).toNat)
      case atStart => exact ⟨0, v, by omega, rfl, by simpa [addAll] using hJ, hB⟩
      case round =>
        obtain ⟨j, v1, hj, rfl, hJ, hB⟩ := hrel
        by_cases hlj : j < ls[k].2.length
        · obtain ⟨b2, o2, rfl, c1, c2⟩ := (hRk.below hB).at_ j hlj
          have hPB := HPB.out k j hlt hlj
          have HA := Lib.hid (addAll_snoc (ls[k].2.take j) ls[k].2[j] (norm (cat (ls.take k))))
          have HT := Lib.hid (List.take_succ_eq_append_getElem hlj)
          generalize hr : ls[k].2[j] = r at *
          obtain ⟨to, many⟩ := r
          clear hr
          have hB2 := (Below.refl wr.heap.size wr).alloc (Nat.le_refl _) (.cells #[.int .i64 to, .int .i64 many] 53)
          have hAdd := add_any w.heap.size w.heap.size v1 _ (to, many) (wr.alloc (.cells #[.int .i64 to, .int .i64 many] 53)) (hJ.below hB2) (by have := hB.size; simp; omega) hPB.2.1 hPB.1 hPB.2.2.1 hPB.2.2.2
          have HADD := Lib.hid hAdd
          clear hAdd hPB
          go_wp2_with (go_at_call 77; (with_reducible refine HADD.out.mono ?_); rintro e w2 ⟨rfl, v2, hJ2, hE2⟩)
          have hBJ := hJ.below hB2
          have hB3 : Below w.heap.size w w2 := (hB.alloc hB.size _).trans (ext_below hE2 _ (by have := hB.size; simp; omega) (touch_ge hBJ))
          exact ⟨⟨j + 1, v2, by omega, by go_num, by rw [HT.out, HA.out]; exact hJ2, hB3⟩, by simp [intOf]; omega⟩
        · have e : j = ls[k].2.length := by omega
          subst e
          have HX : Hid (JS wr w.heap.size w.heap.size v1 (norm (cat (ls.take (k + 1))))) := Lib.hid (by
            rw [HK.out, norm, addAll_append, ← norm]; rw [List.take_length] at hJ; exact hJ)
          clear hJ
          go_wp2
          exact ⟨⟨k + 1, v1, by omega, by go_num, HX.out, hB⟩, by simp [intOf]; omega⟩
    · have e : k = ls.length := by omega
      subst e
      rw [List.take_length] at hJ
      have HA := Lib.hid (all_any w.heap.size w.heap.size v (norm (cat ls)) wr hJ)
      have hown := hJ.2.2
      obtain ⟨A1, c1, rfl, _⟩ := own_form hown
      clear hJ
      go_wp2_with (go_at_call 78; (with_reducible refine HA.out.mono ?_); rintro e w2 ⟨rfl, rfl⟩)
      go_ret
      exact ⟨_, rfl, hown, hB⟩
end Go.Proofs.Ytjdkdogiaokhjaa
