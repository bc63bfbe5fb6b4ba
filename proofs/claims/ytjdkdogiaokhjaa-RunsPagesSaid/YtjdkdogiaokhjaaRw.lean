/- Runs: the specification's Add, where a run is put behind. -/
import Derived.Test.YtjdkdogiaokhjaaRv
import Derived.Deep.AppendLies
import Derived.Deep.AppendSrc
import Derived.Deep.RegionHeld3
import Derived.Deep.RegionLaw
import Derived.Outline
namespace Go.Proofs.Ytjdkdogiaokhjaa
open Go.RowKit Go.Proofs
set_option linter.unusedSimpArgs false
set_option linter.unusedVariables false

theorem rd_news {w : World} {A : Option Addr} {l : List R} (h : Rd w A l) (hn : l ≠ []) : ∃ b o, A = some ⟨b, o, none⟩ ∧ ∀ j u, (rv l)[j]? = some u → w.cell? ((⟨b, o, none⟩ : Addr).add j) = some u := by
  obtain ⟨b, o, rfl, hc⟩ := h hn
  exact ⟨b, o, rfl, Rd.news h⟩
theorem two_news {X : World} {q : Nat} {a b : Value} (h0 : X.cell? ⟨q, 0, none⟩ = some a) (h1 : X.cell? ⟨q, 1, none⟩ = some b) : ∀ j u, [a, b][j]? = some u → X.cell? ((⟨q, 0, none⟩ : Addr).add j) = some u := by
  intro j u hj
  have ha : (⟨q, 0, none⟩ : Addr).add j = ⟨q, j, none⟩ := by unfold Addr.add; split <;> simp_all
  rw [ha]
  rcases j with _ | _ | j
  · simp at hj; subst hj; exact h0
  · simp at hj; subst hj; exact h1
  · simp at hj
theorem below_drew {n : Nat} {w W : World} (h : Below n w W) : Below n w W.drew := h.trans ⟨rfl, rfl, rfl, Nat.le_refl _, fun _ _ => rfl⟩
theorem below_drewN {n : Nat} {w W : World} (h : Below n w W) (k : Nat) : Below n w (W.drewN k) := h.trans ⟨rfl, rfl, rfl, Nat.le_refl _, fun _ _ => rfl⟩
theorem own_drew {w : World} {base : Nat} {e : TypeId} {size n : Nat} {v : Value} {xs : List Value} (h : w.ownsRow base e size v n xs) : w.drew.ownsRow base e size v n xs := h
theorem own_empty1 (W : World) (o : Obj) : OwnR ((W.alloc o).alloc (.cells #[] 53)) W.heap.size (.slice (some ⟨W.heap.size + 1, 0, none⟩) 0 0) [] := by
  have h := own_empty (W.alloc o) W.heap.size (by simp)
  rw [World.size_alloc] at h
  exact h
/-- append of runs to a row of the call's own, at a step of a region that draws -/
theorem step_append_runs {ops : Array Oper} {op_ : Oper} {a : Act} {X : World} {K : Act → World → Prop} {Q : Exit → Act → World → Prop} {E : Prop} (W : World) (hgd : op_.guard = none) (s x : Operand)
    (ho : op_.op = .call { callee := .builtin .append, args := #[s, x], argTypes := #[22, 22] })
    (v : Value) (n : Nat) (xs : List Value) (hs : a.eval s = v) (hX : Below W.heap.size W X) (hown : X.ownsRow W.heap.size 53 2 v n xs)
    (ad : Addr) (m c : Nat) (news : List Value) (hx : a.eval x = .slice (some ad) m c) (hl : news.length = m * 2) (hnews : ∀ j u, news[j]? = some u → X.cell? (ad.add j) = some u) (h1 : ∀ u ∈ news, u.oneCell' = true)
    (h63 : n + m ≤ 2000000)
    (h : ∀ v' w', w'.ownsRow W.heap.size 53 2 v' (n + m) (xs ++ news) → Below W.heap.size W w' → (∀ p : Addr, p.block < X.heap.size → some p.block ≠ v.ownBlock → w'.cell? p = X.cell? p) → K (a.put op_.dst v') w') :
    if Region.wanted op_ (yielded ops a.tmps) = true then Oper.wp Try.prog op_ a X K Q else E := by
  obtain ⟨i0, hi, hz0, hz1, hz2⟩ := info_parts Try.info_run
  have hw : Region.wanted op_ (yielded ops a.tmps) = true := by simp [Region.wanted, hgd]
  rw [if_pos hw]
  refine wp_append_own X s x 22 ho W.heap.size 53 i0 (.agg #[.int .i64 0, .int .i64 0]) 2 16 Try.underlying22 hi hz0 hz1 hz2 rfl (by decide) v n xs hs hown ad m c news hx hl hnews h1 (by unfold maxLen; omega) (by omega) hX.size fun v' w' ho hg _ => ?_
  exact h v' w' ho (hX.trans (below_grown hg hown hX.size)) (fun p hp hne => hg.cell_far p hp hne)
set_option maxRecDepth 100000 in
set_option maxHeartbeats 4000000 in
theorem refAdd_pushed (b o : Nat) (l : List R) (x : R) (c : Nat) (to many : Int) (w : World) (hR : Rd w (some ⟨b, o, none⟩) (l ++ [x])) (hn : l.length ≤ 1048575) (hm : many ≠ 0) (hg : glue x (to, many) = false)
    (hx : -1 ≤ x.1 ∧ x.1 ≤ 1099511627776 ∧ 0 ≤ x.2 ∧ x.2 ≤ 1099511627776) (ht : -1 ≤ to ∧ to ≤ 1099511627776 ∧ 0 ≤ many ∧ many ≤ 1099511627776) :
    Calls Try.prog 58 #[.slice (some ⟨b, o, none⟩) (l.length + 1) c, .agg #[.int .i64 to, .int .i64 many]] w (AddPost w (l ++ [x] ++ [(to, many)])) := by
  have hm' : (many == 0) = false := by simp [hm]
  have hR1 := hR.below (below_alloc1 w (.cells #[.int .i64 to, .int .i64 many] 53))
  obtain ⟨b', o', e, c1, c2⟩ := hR1.at_ l.length (by simp)
  cases e
  simp only [List.getElem_append_right (Nat.le_refl _), Nat.sub_self, List.getElem_cons_zero] at c1 c2
  obtain ⟨x1, x2⟩ := x
  obtain ⟨hx1, hx2, hx3, hx4⟩ := hx
  obtain ⟨ht1, ht2, ht3, ht4⟩ := ht
  simp only at c1 c2 hx1 hx2 hx3 hx4
  have hgg : (x1 = -1 ∧ 0 ≤ to) ∨ (0 ≤ x1 ∧ to ≠ x1 + x2) := by
    simp [glue] at hg
    omega
  clear hg
  have hl0 : ((0 : Int) < (l.length : Int) + 1) := by omega
  obtain ⟨W, hW⟩ : ∃ W, (w.alloc (.cells #[.int .i64 to, .int .i64 many] 53)).alloc (.cells #[.int .i64 x1, .int .i64 x2] 53) = W := ⟨_, rfl⟩
  have hBW : Below w.heap.size w W := by rw [← hW]; exact ((Below.refl _ w).alloc (Nat.le_refl _) _).alloc (by simp) _
  have hRW := hR.below hBW
  have m0 : W.cell? ⟨w.heap.size, 0, none⟩ = some (.int .i64 to) := by rw [← hW]; simp [go_sem]
  have m1 : W.cell? ⟨w.heap.size, 1, none⟩ = some (.int .i64 many) := by rw [← hW]; simp [go_sem]
  have HW := Lib.hid hW
  have hbs := hBW.size
  have hml := World.block_lt_of_cell? W _ m0
  have HM0 : Hid (∀ X, Below W.heap.size W X → X.cell? ⟨w.heap.size, 0, none⟩ = some (.int .i64 to) ∧ X.cell? ⟨w.heap.size, 1, none⟩ = some (.int .i64 many)) := Lib.hid fun X hX => ⟨(hX.cell (p := ⟨w.heap.size, 0, none⟩) hml).trans m0, (hX.cell (p := ⟨w.heap.size, 1, none⟩) hml).trans m1⟩
  have HNW : Hid (∀ X, Below W.heap.size W X → ∀ j u, (rv (l ++ [(x1, x2)]))[j]? = some u → X.cell? ((⟨b, o, none⟩ : Addr).add j) = some u) := Lib.hid fun X hX => (hRW.below hX).news
  have HO := Lib.hid (rv_one (l ++ [(x1, x2)]))
  have HO2 := Lib.hid (one_int .i64 [to, many])
  have HL := Lib.hid (show (rv (l ++ [(x1, x2)])).length = (l.length + 1) * 2 by rw [rv_length]; simp)
  have HFIN : Hid (∀ v X, X.ownsRow W.heap.size 53 2 v (0 + (l.length + 1) + 1) ([] ++ rv (l ++ [(x1, x2)]) ++ [.int .i64 to, .int .i64 many]) → Below W.heap.size W X → AddPost w (l ++ [(x1, x2)] ++ [(to, many)]) (.returned v) X) := Lib.hid fun v X ho hX => by
    have e1 : [] ++ rv (l ++ [(x1, x2)]) ++ [.int .i64 to, .int .i64 many] = rv (l ++ [(x1, x2)] ++ [(to, many)]) := by simp [rv]
    have e2 : 0 + (l.length + 1) + 1 = (l ++ [(x1, x2)] ++ [(to, many)]).length := by simp
    rw [e1, e2] at ho
    obtain ⟨A, c, rfl, _, _, hr⟩ := own_form ho
    exact ⟨A, c, rfl, hr, hBW.trans (hX.mono hbs)⟩
  clear hW hRW m0 m1
  rcases hgg with ⟨rfl, g1⟩ | ⟨g1, g2⟩
  · have hq1 : (to == -1) = false := by simp; omega
    go_enter Try.func58, Try.ntmps58
    go_wp2
    rw [HW.out]
    clear c1 c2 hR1
    go_region_held3 (fun w' => w'.cell? ⟨w.heap.size, 0, none⟩ = some (.int .i64 to) ∧ w'.cell? ⟨w.heap.size, 1, none⟩ = some (.int .i64 many)) (first | exact HM0.out _ (Below.refl _ _) | exact HM0.out _ (below_drew (Below.refl _ _)) | exact HM0.out _ ((Below.refl _ W).alloc (Nat.le_refl _) _) | exact HM0.out _ (below_drew ((Below.refl _ W).alloc (Nat.le_refl _) _)) | exact HM0.out _ (((Below.refl _ W).alloc (Nat.le_refl _) _).alloc (by simp) _) | exact HM0.out _ (below_drew (((Below.refl _ W).alloc (Nat.le_refl _) _).alloc (by simp) _)) | exact HM0.out _ hB1 | exact HM0.out _ (below_drew hB1) | exact HM0.out _ hB2 | exact HM0.out _ (below_drew hB2) | exact HM0.out _ (hB1.alloc hB1.size _)) ((first | (refine step_append_runs W (by rfl) _ _ (by rfl) _ 0 [] (by rfl) (by first | exact below_drew ((Below.refl _ W).alloc (Nat.le_refl _) _) | exact below_drew (((Below.refl _ W).alloc (Nat.le_refl _) _).alloc (by simp) _) | exact (Below.refl _ W).alloc (Nat.le_refl _) _ | exact ((Below.refl _ W).alloc (Nat.le_refl _) _).alloc (by simp) _) (by first | exact own_drew (own_empty _ _ (Nat.le_refl _)) | exact own_drew (own_empty1 _ _) | exact own_drew ((own_empty _ _ (Nat.le_refl _)).alloc _) | exact own_empty _ _ (Nat.le_refl _) | exact own_empty1 _ _ | exact (own_empty _ _ (Nat.le_refl _)).alloc _) ⟨b, o, none⟩ (l.length + 1) c (rv (l ++ [((-1), x2)])) (by rfl) HL.out (HNW.out _ (by first | exact below_drew ((Below.refl _ W).alloc (Nat.le_refl _) _) | exact below_drew (((Below.refl _ W).alloc (Nat.le_refl _) _).alloc (by simp) _) | exact (Below.refl _ W).alloc (Nat.le_refl _) _ | exact ((Below.refl _ W).alloc (Nat.le_refl _) _).alloc (by simp) _)) HO.out (by omega) ?_; intro v1 w1 hown1 hB1 hk1) | (refine step_append_runs W (by rfl) _ _ (by rfl) _ _ _ (by rfl) (by first | exact hB1 | exact below_drew hB1 | exact hB1.alloc hB1.size _ | exact below_drew (hB1.alloc hB1.size _)) (by first | exact hown1 | exact own_drew hown1 | exact hown1.alloc _ | exact own_drew (hown1.alloc _)) _ 1 1 [.int .i64 to, .int .i64 many] (by rfl) (by rfl) (two_news (by first | (simp [go_sem]; done) | (rw [World.cell?_drew]; rw [hk1 _ (by simp <;> omega) (by simp [Act.eval, Act.put, Value.ownBlock] <;> omega)]; simp [go_sem]) | (rw [hk1 _ (by simp <;> omega) (by simp [Act.eval, Act.put, Value.ownBlock] <;> omega)]; simp [go_sem])) (by first | (simp [go_sem]; done) | (rw [hk1 _ (by simp <;> omega) (by simp [Act.eval, Act.put, Value.ownBlock] <;> omega)]; simp [go_sem]))) HO2.out (by omega) ?_; intro v2 w2 hown2 hB2 hk2)))
    all_goals
      go_wp2
      go_ret
      exact HFIN.out _ _ hown2 hB2
  · have hq1 : (x1 == -1) = false := by simp; omega
    have hq2 : (to == x1 + x2) = false := by simpa using g2
    go_enter Try.func58, Try.ntmps58
    go_wp2
    rw [HW.out]
    clear c1 c2 hR1
    go_region_held3 (fun w' => w'.cell? ⟨w.heap.size, 0, none⟩ = some (.int .i64 to) ∧ w'.cell? ⟨w.heap.size, 1, none⟩ = some (.int .i64 many)) (first | exact HM0.out _ (Below.refl _ _) | exact HM0.out _ (below_drew (Below.refl _ _)) | exact HM0.out _ ((Below.refl _ W).alloc (Nat.le_refl _) _) | exact HM0.out _ (below_drew ((Below.refl _ W).alloc (Nat.le_refl _) _)) | exact HM0.out _ (((Below.refl _ W).alloc (Nat.le_refl _) _).alloc (by simp) _) | exact HM0.out _ (below_drew (((Below.refl _ W).alloc (Nat.le_refl _) _).alloc (by simp) _)) | exact HM0.out _ hB1 | exact HM0.out _ (below_drew hB1) | exact HM0.out _ hB2 | exact HM0.out _ (below_drew hB2) | exact HM0.out _ (hB1.alloc hB1.size _)) ((first | (refine step_append_runs W (by rfl) _ _ (by rfl) _ 0 [] (by rfl) (by first | exact below_drew ((Below.refl _ W).alloc (Nat.le_refl _) _) | exact below_drew (((Below.refl _ W).alloc (Nat.le_refl _) _).alloc (by simp) _) | exact (Below.refl _ W).alloc (Nat.le_refl _) _ | exact ((Below.refl _ W).alloc (Nat.le_refl _) _).alloc (by simp) _) (by first | exact own_drew (own_empty _ _ (Nat.le_refl _)) | exact own_drew (own_empty1 _ _) | exact own_drew ((own_empty _ _ (Nat.le_refl _)).alloc _) | exact own_empty _ _ (Nat.le_refl _) | exact own_empty1 _ _ | exact (own_empty _ _ (Nat.le_refl _)).alloc _) ⟨b, o, none⟩ (l.length + 1) c (rv (l ++ [(x1, x2)])) (by rfl) HL.out (HNW.out _ (by first | exact below_drew ((Below.refl _ W).alloc (Nat.le_refl _) _) | exact below_drew (((Below.refl _ W).alloc (Nat.le_refl _) _).alloc (by simp) _) | exact (Below.refl _ W).alloc (Nat.le_refl _) _ | exact ((Below.refl _ W).alloc (Nat.le_refl _) _).alloc (by simp) _)) HO.out (by omega) ?_; intro v1 w1 hown1 hB1 hk1) | (refine step_append_runs W (by rfl) _ _ (by rfl) _ _ _ (by rfl) (by first | exact hB1 | exact below_drew hB1 | exact hB1.alloc hB1.size _ | exact below_drew (hB1.alloc hB1.size _)) (by first | exact hown1 | exact own_drew hown1 | exact hown1.alloc _ | exact own_drew (hown1.alloc _)) _ 1 1 [.int .i64 to, .int .i64 many] (by rfl) (by rfl) (two_news (by first | (simp [go_sem]; done) | (rw [World.cell?_drew]; rw [hk1 _ (by simp <;> omega) (by simp [Act.eval, Act.put, Value.ownBlock] <;> omega)]; simp [go_sem]) | (rw [hk1 _ (by simp <;> omega) (by simp [Act.eval, Act.put, Value.ownBlock] <;> omega)]; simp [go_sem])) (by first | (simp [go_sem]; done) | (rw [hk1 _ (by simp <;> omega) (by simp [Act.eval, Act.put, Value.ownBlock] <;> omega)]; simp [go_sem]))) HO2.out (by omega) ?_; intro v2 w2 hown2 hB2 hk2)))
    all_goals
      go_wp2
      go_ret
      exact HFIN.out _ _ hown2 hB2
end Go.Proofs.Ytjdkdogiaokhjaa
