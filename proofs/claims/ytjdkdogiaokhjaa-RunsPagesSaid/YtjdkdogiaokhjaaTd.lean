/- Runs: Join, Insert, Remove as a whole; their plain laws. -/
import Derived.Test.YtjdkdogiaokhjaaTc
namespace Go.Proofs.Ytjdkdogiaokhjaa
open Go.RowKit Go.Proofs
set_option linter.unusedSimpArgs false
set_option linter.unusedVariables false

def joinR (a b : List R) : Int × List R := if mustE a ≠ 0 then (mustE a, []) else if mustE b ≠ 0 then (mustE b, []) else joinOk a b
theorem Join_any (A : Option Addr) (a : List R) (c : Nat) (A' : Option Addr) (b : List R) (c' : Nat) (w : World) (hR : Rd w A a) (hn : a.length ≤ 1048576) (hR' : Rd w A' b) (hn' : b.length ≤ 1048576) :
    Calls Try.prog 37 #[.slice A a.length c, .slice A' b.length c'] w (OneE w (joinR a b)) := by
  unfold joinR
  split
  · exact (Join_bad1 A a c A' b c' w hR hn hR' hn' (by assumption)).mono fun e w' h => oneE_of (r := (_, _)) h
  · rename_i h0
    split
    · exact (Join_bad2 A a c A' b c' w hR hn hR' hn' (by simpa using h0) (by assumption)).mono fun e w' h => oneE_of (r := (_, _)) h
    · exact (Join_ok A a c A' b c' w hR hn hR' hn' (by simpa using h0) (by rename_i h1; simpa using h1)).mono fun e w' h => oneE_of h
def insertR (l : List R) (page : Int) (more : List R) : Int × List R := if mustE l ≠ 0 then (mustE l, []) else if mustE more ≠ 0 then (mustE more, []) else if 0 ≤ page ∧ page ≤ sumR l then insertOk l page more else (24, [])
theorem Insert_any (A : Option Addr) (l : List R) (c : Nat) (page : Int) (A' : Option Addr) (more : List R) (c' : Nat) (w : World) (hR : Rd w A l) (hn : l.length ≤ 1048576) (hR' : Rd w A' more) (hn' : more.length ≤ 1048576) :
    Calls Try.prog 38 #[.slice A l.length c, .int .i64 page, .slice A' more.length c'] w (OneE w (insertR l page more)) := by
  unfold insertR
  split
  · exact (Insert_bad1 A l c page A' more c' w hR hn hR' hn' (by assumption)).mono fun e w' h => oneE_of (r := (_, _)) h
  · rename_i h0
    split
    · exact (Insert_bad2 A l c page A' more c' w hR hn hR' hn' (by simpa using h0) (by assumption)).mono fun e w' h => oneE_of (r := (_, _)) h
    · rename_i h1
      split
      · rename_i hp
        exact (Insert_ok A l c page A' more c' w hR hn hR' hn' (by simpa using h0) (by simpa using h1) hp.1 hp.2).mono fun e w' h => oneE_of h
      · exact (Insert_range A l c page A' more c' w hR hn hR' hn' (by simpa using h0) (by simpa using h1) (by assumption)).mono fun e w' h => oneE_of (r := (_, _)) h
def removeR (l : List R) (page many : Int) : Int × List R × List R := if mustE l ≠ 0 then (mustE l, [], []) else if inR l page many then removeOk l page many else (24, [], [])
theorem Remove_any (A : Option Addr) (l : List R) (c : Nat) (page many : Int) (w : World) (hR : Rd w A l) (hn : l.length ≤ 1048576) :
    Calls Try.prog 39 #[.slice A l.length c, .int .i64 page, .int .i64 many] w (TwoE w (removeR l page many)) := by
  unfold removeR
  split
  · exact (Remove_bad A l c page many w hR hn (by assumption)).mono fun e w' h => twoE_of (r := (_, _, _)) h
  · rename_i h0
    split
    · exact (Remove_ok A l c page many w hR hn (by simpa using h0) (by assumption)).mono fun e w' h => twoE_of h
    · exact (Remove_range A l c page many w hR hn (by simpa using h0) (by assumption)).mono fun e w' h => twoE_of (r := (_, _, _)) h
def cutR (l : List R) (page : Int) : Int × List R × List R := if mustE l ≠ 0 then (mustE l, [], []) else if 0 ≤ page ∧ page ≤ sumR l then cutOk l page else (24, [], [])
theorem Cut_any (A : Option Addr) (l : List R) (c : Nat) (page : Int) (w : World) (hR : Rd w A l) (hn : l.length ≤ 1048576) :
    Calls Try.prog 32 #[.slice A l.length c, .int .i64 page] w (TwoE w (cutR l page)) := by
  unfold cutR
  split
  · exact (Cut_bad A l c page w hR hn (by assumption)).mono fun e w' h => twoE_of (r := (_, _, _)) h
  · rename_i h0
    split
    · rename_i hp
      exact (Cut_ok A l c page w hR hn (by simpa using h0) hp.1 hp.2).mono fun e w' h => twoE_of h
    · exact (Cut_range A l c page w hR hn (by simpa using h0) (by assumption)).mono fun e w' h => twoE_of (r := (_, _, _)) h
theorem joinR_bad {a b : List R} (h : (if mustE a = 0 then mustE b else mustE a) ≠ 0) : joinR a b = ((if mustE a = 0 then mustE b else mustE a), []) := by
  unfold joinR
  by_cases h0 : mustE a = 0
  · rw [if_pos h0] at h ⊢; rw [if_neg (by simp [h0]), if_pos h]
  · rw [if_neg h0] at h ⊢; rw [if_pos h0]
theorem joinR_ok {a b : List R} (h : mustE a = 0) (k : mustE b = 0) (hf : fitsE (joinX a b) = 0) : joinR a b = (0, joinX a b) := by unfold joinR; rw [if_neg (by simp [h]), if_neg (by simp [k]), joinOk_eq hf]
theorem joinR_no {a b : List R} (h : mustE a = 0) (k : mustE b = 0) (hf : fitsE (joinX a b) ≠ 0) : joinR a b = (2, []) := by unfold joinR; rw [if_neg (by simp [h]), if_neg (by simp [k]), joinOk, if_pos hf]
theorem insertR_bad {l more : List R} {page : Int} (h : (if mustE l = 0 then mustE more else mustE l) ≠ 0) : insertR l page more = ((if mustE l = 0 then mustE more else mustE l), []) := by
  unfold insertR
  by_cases h0 : mustE l = 0
  · rw [if_pos h0] at h ⊢; rw [if_neg (by simp [h0]), if_pos h]
  · rw [if_neg h0] at h ⊢; rw [if_pos h0]
theorem insertR_range {l more : List R} {page : Int} (h : mustE l = 0) (k : mustE more = 0) (hp : ¬ (0 ≤ page ∧ page ≤ sumR l)) : insertR l page more = (24, []) := by unfold insertR; rw [if_neg (by simp [h]), if_neg (by simp [k]), if_neg hp]
theorem insertR_ok {l more : List R} {page : Int} (h : mustE l = 0) (k : mustE more = 0) (hp : 0 ≤ page ∧ page ≤ sumR l) (hf : fitsE (insertX l page more) = 0) : insertR l page more = (0, insertX l page more) := by unfold insertR; rw [if_neg (by simp [h]), if_neg (by simp [k]), if_pos hp, insertOk_eq hf]
theorem insertR_no {l more : List R} {page : Int} (h : mustE l = 0) (k : mustE more = 0) (hp : 0 ≤ page ∧ page ≤ sumR l) (hf : fitsE (insertX l page more) ≠ 0) : insertR l page more = (2, []) := by unfold insertR; rw [if_neg (by simp [h]), if_neg (by simp [k]), if_pos hp, insertOk, if_pos hf]
theorem removeR_bad {l : List R} {page many : Int} (h : mustE l ≠ 0) : removeR l page many = (mustE l, [], []) := if_pos h
theorem removeR_range {l : List R} {page many : Int} (h : mustE l = 0) (hi : ¬ inR l page many) : removeR l page many = (24, [], []) := by unfold removeR; rw [if_neg (by simp [h]), if_neg hi]
theorem removeX_fits {l : List R} {page many : Int} (h : mustE l = 0) (hl : l.length ≤ 1000) (hi : inR l page many) : fitsE (removeX l page many) = 0 := by
  obtain ⟨i1, i2, i3, i4⟩ := hi
  have hw := (okL_of_must h).wk
  have L := Mp.of_must h hl
  have hs := (mustE_zero h).2.2
  have hp := pg_len hw
  have p1 := partR_len l 0 page
  have p2 := partR_len l (page + many) (sumR l)
  have hn := norm_len (partR l 0 page ++ partR l (page + many) (sumR l))
  refine if_pos ⟨?_, ?_⟩
  · unfold removeX; simp only [List.length_append] at hn; omega
  · unfold removeX
    rw [norm_sum, ← pg_len ((wk_part hw _ _).append (wk_part hw _ _)), pg_append, pg_part hw, pg_part hw, List.length_append, List.length_drop, List.length_drop, List.length_take, List.length_take]
    omega
theorem removeR_ok {l : List R} {page many : Int} (h : mustE l = 0) (hl : l.length ≤ 1000) (hi : inR l page many) : removeR l page many = (0, removeX l page many, partR l page (page + many)) := by
  unfold removeR; rw [if_neg (by simp [h]), if_pos hi, removeOk_eq (removeX_fits h hl hi) (part_fits h _ _)]
theorem cutR_bad {l : List R} {page : Int} (h : mustE l ≠ 0) : cutR l page = (mustE l, [], []) := if_pos h
theorem cutR_range {l : List R} {page : Int} (h : mustE l = 0) (hi : ¬ (0 ≤ page ∧ page ≤ sumR l)) : cutR l page = (24, [], []) := by unfold cutR; rw [if_neg (by simp [h]), if_neg hi]
theorem cutR_ok {l : List R} {page : Int} (h : mustE l = 0) (hi : 0 ≤ page ∧ page ≤ sumR l) : cutR l page = (0, partR l 0 page, partR l page (sumR l)) := by
  unfold cutR; rw [if_neg (by simp [h]), if_pos hi, cutOk_eq (part_fits h _ _) (part_fits h _ _)]
theorem few_must {l : List R} (hf : fewB l = true) (h : mustE l = 0) : l.length ≤ 60 := by
  have := (mustE_zero h).1
  simp [fewB] at hf
  omega
theorem refInsert_eq {l more : List R} {page : Int} (h : mustE l = 0) (k : mustE more = 0) (hp : 0 ≤ page) : norm (partR l 0 page ++ norm (more ++ partR l page (page + 1073741824))) = insertX l page more := by
  have hw := (okL_of_must h).wk
  have kw := (okL_of_must k).wk
  have hs := (mustE_zero h).2.2
  unfold insertX
  rw [part_far h page _ (by omega) (by omega)]
  have w0 := wk_part hw 0 page
  have w2 := wk_part hw page (sumR l)
  refine norm_eq (w0.append (wk_norm (kw.append w2))) ((w0.append kw).append w2) ?_
  rw [pg_append, pg_norm (kw.append w2), pg_append, pg_append, pg_append, List.append_assoc]
theorem refRemove_eq {l : List R} {page many : Int} (h : mustE l = 0) (hp : 0 ≤ page + many) : norm (partR l 0 page ++ partR l (page + many) (page + many + 1073741824)) = removeX l page many := by
  have hs := (mustE_zero h).2.2
  unfold removeX
  rw [part_far h (page + many) _ hp (by omega)]
theorem joinX_gd {a b : List R} (h : mustE a = 0) (k : mustE b = 0) : Gd (joinX a b) 4000 2147483648 := ((Gd.of_must h).append (Gd.of_must k) (by omega)).norm_
theorem insertX_gd {l more : List R} {page : Int} (h : mustE l = 0) (k : mustE more = 0) : Gd (insertX l page more) 6000 3221225472 := (((Gd.part h 0 page).append (Gd.of_must k) (by omega)).append (Gd.part h page (sumR l)) (by omega)).norm_
theorem removeX_gd {l : List R} {page many : Int} (h : mustE l = 0) : Gd (removeX l page many) 4000 2147483648 := ((Gd.part h 0 page).append (Gd.part h (page + many) (sumR l)) (by omega)).norm_
theorem St.skip {w W : World} {a b : Option Addr × List R} {fs : List (Option Addr × List R)} {gs : List (Option Addr × List Int)} (h : St w W (a :: b :: fs) gs) : St w W (a :: fs) gs :=
  ⟨h.below, fun f hf => h.rd f (by rcases List.mem_cons.1 hf with e | e; exact List.mem_cons.2 (.inl e); exact List.mem_cons.2 (.inr (List.mem_cons.2 (.inr e)))), h.rb⟩
theorem St.skip2 {w W : World} {a b c : Option Addr × List R} {fs : List (Option Addr × List R)} {gs : List (Option Addr × List Int)} (h : St w W (a :: b :: c :: fs) gs) : St w W (a :: b :: fs) gs :=
  ⟨h.below, fun f hf => h.rd f (by
    rcases List.mem_cons.1 hf with e | e
    · exact List.mem_cons.2 (.inl e)
    · rcases List.mem_cons.1 e with e | e
      · exact List.mem_cons.2 (.inr (List.mem_cons.2 (.inl e)))
      · exact List.mem_cons.2 (.inr (List.mem_cons.2 (.inr (List.mem_cons.2 (.inr e)))))), h.rb⟩
def Want1 (r : Int × List R) (x : List R) : Prop := (r.1 = 0 → x = r.2) ∧ (r.1 ≠ 0 → r.2 = []) ∧ x.length ≤ 1048576
end Go.Proofs.Ytjdkdogiaokhjaa
