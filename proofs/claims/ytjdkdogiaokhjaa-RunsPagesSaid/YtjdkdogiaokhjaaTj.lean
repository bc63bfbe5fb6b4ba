/- Runs: plain laws of the places of pages. -/
import Derived.Test.YtjdkdogiaokhjaaTh
import Derived.Test.YtjdkdogiaokhjaaTg
namespace Go.Proofs.Ytjdkdogiaokhjaa
open Go.RowKit Go.Proofs
set_option linter.unusedSimpArgs false
set_option linter.unusedVariables false

/-- where a page lies; -2: nowhere -/
def pgv (F : List R) (p : Nat) : Int := match F[p]? with
  | some r => r.1
  | none => -2
theorem pgv_none {F : List R} {p : Nat} (h : F.length ≤ p) : pgv F p = -2 := by unfold pgv; rw [List.getElem?_eq_none h]
theorem pgv_some {F : List R} {p : Nat} (h : p < F.length) : pgv F p = F[p].1 := by unfold pgv; rw [List.getElem?_eq_getElem h]
theorem pgv_left {F G : List R} {p : Nat} (h : p < F.length) : pgv (F ++ G) p = pgv F p := by unfold pgv; rw [List.getElem?_append_left h]
theorem pgv_right {F G : List R} {p : Nat} (h : F.length ≤ p) : pgv (F ++ G) p = pgv G (p - F.length) := by unfold pgv; rw [List.getElem?_append_right h]
theorem pgv_take {F : List R} {k p : Nat} (h : p < k) : pgv (F.take k) p = pgv F p := by unfold pgv; rw [List.getElem?_take, if_pos h]
theorem pgv_drop (F : List R) (k p : Nat) : pgv (F.drop k) p = pgv F (k + p) := by unfold pgv; rw [List.getElem?_drop]
theorem pgv_hole {k p : Nat} (h : p < k) : pgv (List.replicate k (-1, 1)) p = -1 := by
  rw [pgv_some (by simpa using h)]; simp
theorem mapAt_pg (l : List R) (hw : Wk l) : ∀ (pos page : Int) (p : Nat), page = pos + p → (p : Int) < sumR l → (mapAt page pos l).1 = pgv (pg l) p := by
  induction l with
  | nil => intro pos page p _ h; simp [sumR] at h; omega
  | cons r l ih =>
    intro pos page p hp h
    have hr := hw r (by simp)
    rw [pg_cons]
    simp only [mapAt]
    by_cases hlt : page < pos + r.2
    · rw [if_pos hlt, pgv_left (by rw [ones_len]; omega), pgv_some (by rw [ones_len]; omega)]
      simp only [ones, List.getElem_map, List.getElem_range]
      by_cases h1 : r.1 = -1
      · simp [h1]
      · rw [if_neg h1, if_pos (by omega)]; omega
    · rw [if_neg hlt, pgv_right (by rw [ones_len]; omega), ones_len]
      refine ih (fun y hy => hw y (by simp [hy])) (pos + r.2) page (p - r.2.toNat) (by omega) ?_
      simp only [sumR] at h; omega
theorem pgv_eq {F G : List R} (hF : Ones F) (hG : Ones G) (hl : F.length = G.length) (h : ∀ p, p < F.length → pgv F p = pgv G p) : F = G := by
  refine List.ext_getElem hl fun i h1 h2 => ?_
  have := h i h1
  rw [pgv_some h1, pgv_some h2] at this
  exact Prod.ext this ((hF _ (List.getElem_mem h1)).1.trans (hG _ (List.getElem_mem h2)).1.symm)
def MapE (w0 : World) (l : List R) (p : Nat) (e : Ending) (w' : World) : Prop := (p < (pg l).length → ∃ m, e = .returned (.tuple #[.int .i64 (pgv (pg l) p), .int .i64 m, .int .i64 0])) ∧ (¬ p < (pg l).length → e = .returned (.tuple #[.int .i64 0, .int .i64 0, .int .i64 24])) ∧ Below w0.heap.size w0 w'
theorem Map_page {A : Option Addr} {l : List R} {n c : Nat} {p : Nat} {w : World} (hR : Rd w A l) (hn : n = l.length) (h0 : mustE l = 0) :
    Calls Try.prog 33 #[.slice A n c, .int .i64 (p : Int)] w (MapE w l p) := by
  subst hn
  have hl := (mustE_zero h0).1
  have hw := (okL_of_must h0).wk
  have hp := pg_len hw
  by_cases h : p < (pg l).length
  · refine (Map_ok A l c p w hR (by omega) h0 (by omega) (by omega)).mono ?_
    rintro e w' ⟨rfl, hB⟩
    have := mapAt_pg (norm l) (wk_norm hw) 0 p p (by omega) (by rw [norm_sum]; omega)
    rw [pg_norm hw] at this
    exact ⟨fun _ => ⟨_, by rw [this]⟩, fun hn => absurd h hn, hB⟩
  · refine (Map_range A l c p w hR (by omega) h0 (by omega)).mono ?_
    rintro e w' ⟨rfl, hB⟩
    exact ⟨fun hn => absurd hn h, fun _ => rfl, hB⟩
set_option maxRecDepth 100000 in
theorem page_nat {A : Option Addr} {l : List R} {n c : Nat} {p : Nat} {w : World} (hR : Rd w A l) (hn : n = l.length) (h0 : mustE l = 0) :
    Calls Try.prog 42 #[.slice A n c, .int .i64 (p : Int)] w fun e w' => e = .returned (.int .i64 (pgv (pg l) p)) ∧ Below w.heap.size w w' := by
  subst hn
  have H := Lib.hid (Map_page (c := c) (p := p) hR rfl h0)
  clear h0
  by_cases h : p < (pg l).length
  · clear hR
    go_enter Try.func42, Try.ntmps42
    go_wp2_with fail
    refine H.out.mono ?_
    rintro e w1 ⟨h1, _, hB⟩
    obtain ⟨m, rfl⟩ := h1 h
    clear h1 H
    go_wp2_with fail
    go_ret
    exact ⟨rfl, hB⟩
  · have hv := Lib.hid (pgv_none (F := pg l) (p := p) (by omega))
    clear hR
    go_enter Try.func42, Try.ntmps42
    go_wp2_with fail
    refine H.out.mono ?_
    rintro e w1 ⟨_, h1, hB⟩
    obtain rfl := h1 h
    clear h1 H
    go_wp2_with fail
    go_ret
    exact ⟨by rw [hv.out]; rfl, hB⟩
/-- the same, its argument and its answer as the walk has them -/
theorem page1 {A : Option Addr} {l : List R} {n c : Nat} {x u : Int} {w : World} (p : Nat) (hR : Rd w A l) (hn : n = l.length) (h0 : mustE l = 0) (hx : x = p) (hu : pgv (pg l) p = u) :
    Calls Try.prog 42 #[.slice A n c, .int .i64 x] w fun e w' => e = .returned (.int .i64 u) ∧ Below w.heap.size w w' := by
  subst hx hu
  exact page_nat hR hn h0
end Go.Proofs.Ytjdkdogiaokhjaa
