/- Runs: the specification's Add, as a whole. -/
import Derived.Test.YtjdkdogiaokhjaaRw
namespace Go.Proofs.Ytjdkdogiaokhjaa
open Go.RowKit Go.Proofs
set_option linter.unusedSimpArgs false
set_option linter.unusedVariables false

/-- append of nothing, the source nil, at a step of a region that draws -/
theorem step_append_none {ops : Array Oper} {op_ : Oper} {a : Act} {X : World} {K : Act → World → Prop} {Q : Exit → Act → World → Prop} {E : Prop} (hgd : op_.guard = none) (s x : Operand)
    (ho : op_.op = .call { callee := .builtin .append, args := #[s, x], argTypes := #[22, 22] })
    (g c : Nat) (hs : a.eval s = .slice (some ⟨g, 0, none⟩) 0 0) (hx : a.eval x = .slice none 0 c)
    (h : K (a.put op_.dst (.slice (some ⟨g, 0, none⟩) 0 0)) X) :
    if Region.wanted op_ (yielded ops a.tmps) = true then Oper.wp Try.prog op_ a X K Q else E := by
  obtain ⟨i0, hi, hz0, hz1, hz2⟩ := info_parts Try.info_run
  have hw : Region.wanted op_ (yielded ops a.tmps) = true := by simp [Region.wanted, hgd]
  rw [if_pos hw]
  have hr := run_append_room_src X 22 22 op_.type 53 i0 Try.underlying22 hi g 0 0 0 (.slice none 0 c) 0 [] (Src.ofNil X Try.underlying22 c) (Nat.le_refl _) (fun j hj => by simp at hj) (fun j hj => by simp at hj)
  unfold Oper.wp execOp
  simp only [ho, resolve, invoke, builtin, Sem.run_bind, Sem.run_pure, Result.andThen_ok, List.map_toArray, List.map_cons, List.map_nil, hs, hx, hr]
  exact h
set_option maxRecDepth 100000 in
set_option maxHeartbeats 4000000 in
theorem refAdd_nil (to many : Int) (w : World) (hm : many ≠ 0) :
    Calls Try.prog 58 #[.slice none 0 0, .agg #[.int .i64 to, .int .i64 many]] w (AddPost w [(to, many)]) := by
  have hm' : (many == 0) = false := by simp [hm]
  obtain ⟨W, hW⟩ : ∃ W, w.alloc (.cells #[.int .i64 to, .int .i64 many] 53) = W := ⟨_, rfl⟩
  have hBW : Below w.heap.size w W := by rw [← hW]; exact (Below.refl _ w).alloc (Nat.le_refl _) _
  have m0 : W.cell? ⟨w.heap.size, 0, none⟩ = some (.int .i64 to) := by rw [← hW]; simp [go_sem]
  have m1 : W.cell? ⟨w.heap.size, 1, none⟩ = some (.int .i64 many) := by rw [← hW]; simp [go_sem]
  have HW := Lib.hid hW
  have hbs := hBW.size
  have hml := World.block_lt_of_cell? W _ m0
  have HM0 : Hid (∀ X, Below W.heap.size W X → X.cell? ⟨w.heap.size, 0, none⟩ = some (.int .i64 to) ∧ X.cell? ⟨w.heap.size, 1, none⟩ = some (.int .i64 many)) := Lib.hid fun X hX => ⟨(hX.cell (p := ⟨w.heap.size, 0, none⟩) hml).trans m0, (hX.cell (p := ⟨w.heap.size, 1, none⟩) hml).trans m1⟩
  have HO2 := Lib.hid (one_int .i64 [to, many])
  have HFIN : Hid (∀ v X, X.ownsRow W.heap.size 53 2 v (0 + 1) ([] ++ [.int .i64 to, .int .i64 many]) → Below W.heap.size W X → AddPost w [(to, many)] (.returned v) X) := Lib.hid fun v X ho hX => by
    obtain ⟨A, c, rfl, _, _, hr⟩ := own_form (l := [(to, many)]) ho
    exact ⟨A, c, rfl, hr, hBW.trans (hX.mono hbs)⟩
  clear hW m0 m1
  go_enter Try.func58, Try.ntmps58
  go_wp2
  rw [HW.out]
  go_region_held3 (fun w' => w'.cell? ⟨w.heap.size, 0, none⟩ = some (.int .i64 to) ∧ w'.cell? ⟨w.heap.size, 1, none⟩ = some (.int .i64 many)) (first | exact HM0.out _ (Below.refl _ _) | exact HM0.out _ (below_drew (Below.refl _ _)) | exact HM0.out _ ((Below.refl _ W).alloc (Nat.le_refl _) _) | exact HM0.out _ (below_drew ((Below.refl _ W).alloc (Nat.le_refl _) _)) | exact HM0.out _ (((Below.refl _ W).alloc (Nat.le_refl _) _).alloc (by simp) _) | exact HM0.out _ (below_drew (((Below.refl _ W).alloc (Nat.le_refl _) _).alloc (by simp) _)) | exact HM0.out _ hB2 | exact HM0.out _ (below_drew hB2)) ((first | (refine step_append_none (by rfl) _ _ (by rfl) _ 0 (by rfl) (by rfl) ?_) | (refine step_append_runs W (by rfl) _ _ (by rfl) _ 0 [] (by rfl) (by first | exact below_drew ((Below.refl _ W).alloc (Nat.le_refl _) _) | exact below_drew (((Below.refl _ W).alloc (Nat.le_refl _) _).alloc (by simp) _) | exact (Below.refl _ W).alloc (Nat.le_refl _) _ | exact ((Below.refl _ W).alloc (Nat.le_refl _) _).alloc (by simp) _) (by first | exact own_drew (own_empty _ _ (Nat.le_refl _)) | exact own_drew (own_empty1 _ _) | exact own_drew ((own_empty _ _ (Nat.le_refl _)).alloc _) | exact own_empty _ _ (Nat.le_refl _) | exact own_empty1 _ _ | exact (own_empty _ _ (Nat.le_refl _)).alloc _) _ 1 1 [.int .i64 to, .int .i64 many] (by rfl) (by rfl) (two_news (by simp [go_sem]) (by simp [go_sem])) HO2.out (by omega) ?_; intro v2 w2 hown2 hB2 hk2)))
  all_goals
    go_wp2
    go_ret
    exact HFIN.out _ _ hown2 hB2
/-- a slice that reads as a list, nil if that is empty -/
def RdN (w : World) (A : Option Addr) (c : Nat) (l : List R) : Prop := Rd w A l ∧ (l = [] → A = none ∧ c = 0)
theorem RdN.below {w w' : World} {A : Option Addr} {c : Nat} {l : List R} (h : RdN w A c l) (hb : Below w.heap.size w w') : RdN w' A c l := ⟨h.1.below hb, h.2⟩
theorem RdN.nil (w : World) : RdN w none 0 [] := ⟨Rd.nil _ _, fun _ => ⟨rfl, rfl⟩⟩
def AddN (w : World) (l : List R) (e : Ending) (w' : World) : Prop := ∃ A' c', e = .returned (.slice A' l.length c') ∧ RdN w' A' c' l ∧ Below w.heap.size w w'
theorem addR_ne {l : List R} {r : R} (h : r.2 ≠ 0) : addR l r ≠ [] := by
  rcases List.eq_nil_or_concat l with rfl | ⟨l, x, rfl⟩
  · rw [addR_nil _ h]; simp
  · rw [List.concat_eq_append, addR_snoc _ _ _ h]; split <;> simp
theorem addN_of {w : World} {l : List R} {e : Ending} {w' : World} (h : AddPost w l e w') (hn : l ≠ []) : AddN w l e w' := by
  obtain ⟨A, c, rfl, hr, hB⟩ := h
  exact ⟨A, c, rfl, ⟨hr, fun h => absurd h hn⟩, hB⟩
theorem refAdd_any (A : Option Addr) (l : List R) (c : Nat) (r : R) (w : World) (hR : RdN w A c l) (hn : l.length ≤ 1048575) (hl : ∀ x ∈ l, -1 ≤ x.1 ∧ x.1 ≤ 1099511627776 ∧ 0 ≤ x.2 ∧ x.2 ≤ 1099511627776)
    (hr : -1 ≤ r.1 ∧ r.1 ≤ 1099511627776 ∧ 0 ≤ r.2 ∧ r.2 ≤ 1099511627776) :
    Calls Try.prog 58 #[.slice A l.length c, .agg #[.int .i64 r.1, .int .i64 r.2]] w (AddN w (addR l r)) := by
  obtain ⟨to, many⟩ := r
  by_cases h0 : many = 0
  · subst h0
    refine (refAdd_zero' A l c to w hR.1).mono ?_
    rintro e w' ⟨rfl, hr', hB⟩
    rw [addR_zero _ _ rfl]
    exact ⟨A, c, rfl, ⟨hr', hR.2⟩, hB⟩
  · rcases List.eq_nil_or_concat l with rfl | ⟨l, x, rfl⟩
    · obtain ⟨rfl, rfl⟩ := hR.2 rfl
      rw [addR_nil _ h0]
      exact (refAdd_nil to many w h0).mono fun e w' h => addN_of h (by simp)
    · rw [List.concat_eq_append] at *
      have hx := hl x (by simp)
      have hlen : l.length ≤ 1048575 := by simp at hn; omega
      have hc : (l ++ [x]).length = l.length + 1 := by simp
      rw [addR_snoc _ _ _ h0, hc]
      by_cases hg : glue x (to, many) = true
      · rw [if_pos hg]
        exact (refAdd_glued A l x c to many w hR.1 hlen h0 hg hx hr).mono fun e w' h => addN_of h (by simp)
      · rw [if_neg hg]
        obtain ⟨b, o, rfl, _⟩ := rd_news hR.1 (by simp)
        exact (refAdd_pushed b o l x c to many w hR.1 hlen h0 (by simpa using hg) hx hr).mono fun e w' h => addN_of h (by simp)
end Go.Proofs.Ytjdkdogiaokhjaa
