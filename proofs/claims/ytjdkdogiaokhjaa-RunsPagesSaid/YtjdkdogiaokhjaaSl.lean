/- Runs: plain laws: what is done is undone. -/
import Derived.Test.YtjdkdogiaokhjaaSk
namespace Go.Proofs.Ytjdkdogiaokhjaa
set_option linter.unusedSimpArgs false
set_option linter.unusedVariables false

/-- a valid mapping x of at most b runs, with the pages s -/
structure Mp (x s : List R) (b : Nat) : Prop where
  ok : OkL x
  pgs : pg x = s
  len : x.length ≤ b
theorem Mp.oks {x s : List R} {b : Nat} (h : Mp x s b) : OkL s := h.pgs ▸ singles_ok h.ok
theorem Mp.sum {x s : List R} {b : Nat} (h : Mp x s b) : sumR x = s.length := by rw [← h.pgs]; exact (pg_len h.ok.wk).symm
theorem Mp.must {x s : List R} {b : Nat} (h : Mp x s b) (hb : b ≤ 2000) (hs : s.length ≤ 1073741824) : mustE x = 0 := must_of (Nat.le_trans h.len hb) h.ok (by rw [h.sum]; omega)
theorem Mp.fits {x s : List R} {b : Nat} (h : Mp x s b) (hb : b ≤ 2000) (hs : s.length ≤ 1073741824) : fitsE x = 0 := if_pos ⟨Nat.le_trans h.len hb, by rw [h.sum]; omega⟩
theorem Mp.of_must {x : List R} (h : mustE x = 0) {b : Nat} (hb : x.length ≤ b) : Mp x (pg x) b := ⟨okL_of_must h, rfl, hb⟩
theorem ones_sumR {s : List R} (h : Ones s) : sumR s = s.length := by rw [← pg_len h.wk, pg_ones h]
theorem OkL.append {a b : List R} (h : OkL a) (k : OkL b) : OkL (a ++ b) := fun r hr => by
  rcases List.mem_append.1 hr with hr | hr
  · exact h r hr
  · exact k r hr
theorem OkL.drop {a : List R} (h : OkL a) (k : Nat) : OkL (a.drop k) := fun r hr => h r (List.mem_of_mem_drop hr)
theorem OkL.holes (k : Nat) : OkL (List.replicate k (-1, 1)) := fun r hr => by
  have := List.eq_of_mem_replicate hr
  subst this; decide
theorem Mp.of_norm {y s : List R} {b : Nat} (hw : Wk y) (hp : pg y = s) (ho : OkL s) (hs : s.length ≤ 1073741824) (hb : y.length ≤ b) : Mp (norm y) s b := by
  have h1 : Ones s := hp ▸ ones_pg hw
  refine ⟨?_, by rw [pg_norm hw, hp], Nat.le_trans (norm_len y) hb⟩
  rw [norm_pg hw, hp]
  exact okL_addAll s [] (fun r hr => by simp at hr) ho (by rw [ones_sumR h1]; simp [sumR]; omega)
theorem Mp.part {l F : List R} {b : Nat} (h : Mp l F b) (hF : F.length ≤ 1073741824) (fr to : Int) : Mp (partR l fr to) ((F.take to.toNat).drop fr.toNat) b := by
  have hw := h.ok.wk
  refine Mp.of_norm (wk_clips hw fr to 0) ?_ ((h.oks.take _).drop _) (by simp; omega) (Nat.le_trans (clips_len fr to l 0) h.len)
  rw [pg_clips fr to l hw 0, Int.sub_zero, Int.sub_zero, h.pgs]
theorem Mp.join {x y F G : List R} {b c : Nat} (h : Mp x F b) (k : Mp y G c) (hF : F.length + G.length ≤ 1073741824) : Mp (joinX x y) (F ++ G) (b + c) :=
  Mp.of_norm (h.ok.wk.append k.ok.wk) (by rw [pg_append, h.pgs, k.pgs]) (h.oks.append k.oks) (by simpa using hF) (by have := h.len; have := k.len; simp; omega)
theorem Mp.norm_ {x F : List R} {b : Nat} (h : Mp x F b) (hF : F.length ≤ 1073741824) : Mp (norm x) F b :=
  Mp.of_norm h.ok.wk h.pgs h.oks hF h.len
theorem Mp.takeAll {l F : List R} {b : Nat} (h : Mp l F b) : F.take (sumR l).toNat = F := List.take_of_length_le (by rw [h.sum]; simp)
theorem Mp.remove {l F : List R} {b : Nat} (h : Mp l F b) (hF : F.length + F.length ≤ 1073741824) (page many : Int) : Mp (removeX l page many) (F.take page.toNat ++ F.drop (page + many).toNat) (b + b) := by
  have h1 := h.part (by omega) 0 page
  have h2 := h.part (by omega) (page + many) (sumR l)
  rw [h.takeAll] at h2
  have := h1.join h2 (by simp; omega)
  simpa [joinX, removeX] using this
theorem Mp.insert {l F more M : List R} {b c : Nat} (h : Mp l F b) (k : Mp more M c) (hF : F.length + F.length + M.length ≤ 1073741824) (page : Int) : Mp (insertX l page more) (F.take page.toNat ++ M ++ F.drop page.toNat) (b + c + b) := by
  have h1 := h.part (by omega) 0 page
  have h2 := h.part (by omega) page (sumR l)
  rw [h.takeAll] at h2
  refine Mp.of_norm ((h1.ok.wk.append k.ok.wk).append h2.ok.wk) ?_ (((h.oks.take _).append k.oks).append (h.oks.drop _)) (by simp; omega) (by have := h1.len; have := k.len; have := h2.len; simp; omega)
  rw [pg_append, pg_append, h1.pgs, k.pgs, h2.pgs]; simp
theorem Mp.punch {l F : List R} {b : Nat} (h : Mp l F b) (page many : Int) (hm : 0 ≤ many) (hF : F.length + F.length + many.toNat ≤ 1073741824) : Mp (punchX l page many) (F.take page.toNat ++ List.replicate many.toNat (-1, 1) ++ F.drop (page + many).toNat) (b + 1 + b) := by
  have h1 := h.part (by omega) 0 page
  have h2 := h.part (by omega) (page + many) (sumR l)
  rw [h.takeAll] at h2
  have hh : Wk [(-1, many)] := fun r hr => by simp at hr; subst hr; exact ⟨by show (-1 : Int) ≤ -1; omega, hm⟩
  refine Mp.of_norm ((h1.ok.wk.append hh).append h2.ok.wk) ?_ (((h.oks.take _).append (OkL.holes _)).append (h.oks.drop _)) (by simp; omega) (by have := h1.len; have := h2.len; simp; omega)
  rw [pg_append, pg_append, h1.pgs, pg_hole, h2.pgs]; simp
theorem pg_gap {l more F M : List R} {b c : Nat} (h : Mp l F b) (k : Mp more M c) (page : Int) : pg (gapR l page more) = if M = [] then [] else List.replicate (page.toNat - F.length) (-1, 1) := by
  have hl := h.sum
  have hl' := k.sum
  unfold gapR
  by_cases hz : M = []
  · subst hz; simp at hl'
    rw [if_neg (by omega), if_pos rfl, pg_nil]
  · rw [if_neg hz]
    have : 0 < M.length := List.length_pos_iff.2 hz
    split
    · rw [pg_hole]; congr 1; omega
    · rename_i hc
      rw [show page.toNat - F.length = 0 by omega, pg_nil]; rfl
theorem gap_len (l : List R) (page : Int) (more : List R) : (gapR l page more).length ≤ 1 := by unfold gapR; split <;> simp
theorem Mp.put {l F more M : List R} {b c : Nat} (h : Mp l F b) (k : Mp more M c) (page : Int) (hF : F.length + F.length + M.length + page.toNat ≤ 1073741824) :
    Mp (putX l page more) (F.take page.toNat ++ (if M = [] then [] else List.replicate (page.toNat - F.length) (-1, 1)) ++ M ++ F.drop (page + sumR more).toNat) (b + 1 + c + b) := by
  have h1 := h.part (by omega) 0 page
  have h2 := h.part (by omega) (page + sumR more) (sumR l)
  rw [h.takeAll] at h2
  have hg := pg_gap h k page
  have hgl := gap_len l page more
  have hog : OkL (if M = [] then [] else List.replicate (page.toNat - F.length) ((-1 : Int), (1 : Int))) := by
    split
    · exact fun r hr => by simp at hr
    · exact OkL.holes _
  refine Mp.of_norm (((h1.ok.wk.append (wk_gap l page more)).append k.ok.wk).append h2.ok.wk) ?_ ((((h.oks.take _).append hog).append k.oks).append (h.oks.drop _)) ?_ (by have := h1.len; have := h2.len; have := k.len; simp only [List.length_append]; omega)
  · rw [pg_append, pg_append, pg_append, h1.pgs, hg, k.pgs, h2.pgs]; simp
  · have : (if M = [] then [] else List.replicate (page.toNat - F.length) ((-1 : Int), (1 : Int))).length ≤ page.toNat := by split <;> simp
    simp only [List.length_append, List.length_take, List.length_drop]; omega
/-- two normal forms of the same pages are one -/
theorem norm_of_pg {y z s : List R} (hy : Wk y) (hz : Wk z) (h1 : pg y = s) (h2 : pg z = s) : norm y = norm z := norm_eq hy hz (h1.trans h2.symm)
theorem Mp.eq_norm {x l s : List R} {b c : Nat} (h : Mp (norm x) s b) (hx : Wk x) (k : Mp l s c) : norm x = norm l := by
  have := h.pgs
  rw [pg_norm hx] at this
  exact norm_eq hx k.ok.wk (this.trans k.pgs.symm)
end Go.Proofs.Ytjdkdogiaokhjaa
