/- Runs: the exported functions on mappings: Punch, Put. -/
import Derived.Test.YtjdkdogiaokhjaaRh
namespace Go.Proofs.Ytjdkdogiaokhjaa
open Go.RowKit Go.Proofs
set_option linter.unusedSimpArgs false
set_option linter.unusedVariables false

/-- the state of an exported function: the block of its error -/
structure ES (w0 W : World) : Prop where
  below : Below w0.heap.size w0 W
  box : Boxed W w0.heap.size 26 (.int .i64 0)
theorem ES.start (w : World) : ES w (w.alloc (.cells #[.int .i64 0] 26)) := ⟨(Below.refl _ w).alloc (Nat.le_refl _) _, Boxed.new _ _ _⟩
theorem ES.next {w0 W W' : World} (h : ES w0 W) (hb : Below W.heap.size W W') : ES w0 W' := ⟨h.below.trans (hb.mono h.below.size), (hb.block _ h.box.lt).trans h.box⟩
theorem ES.alloc {w0 W : World} (h : ES w0 W) (o : Obj) : ES w0 (W.alloc o) := h.next ((Below.refl _ _).alloc (Nat.le_refl _) o)
theorem ES.rd {w0 W : World} (h : ES w0 W) {A : Option Addr} {l : List R} (hR : Rd w0 A l) : Rd W A l := hR.below h.below
theorem ES.fin {w0 W : World} (h : ES w0 W) (u : Value) : Below w0.heap.size w0 (W.setCell ⟨w0.heap.size, 0, none⟩ u) := h.below.setCell (Nat.le_refl _) _
theorem below_alloc1 (w : World) (o : Obj) : Below w.heap.size w (w.alloc o) := (Below.refl _ _).alloc (Nat.le_refl _) o
theorem below_set1 {w W : World} (h : Below w.heap.size w W) (b o : Nat) (hb : w.heap.size ≤ b) (u : Value) : Below w.heap.size w (W.setCell ⟨b, o, none⟩ u) := h.setCell hb _
/-- an own row is still there when the error's block is written -/
theorem own_setBox {W : World} {n : Nat} {v u x : Value} {l : List R} {base : Nat} (h : OwnR W base v l) (hb : Boxed W n 26 x) : OwnR (W.setCell ⟨n, 0, none⟩ u) base v l :=
  h.kept (grownBy_setCell' W n u) (.inr (hb.not_row (by decide) h).symm)
/-- what a function that returns two mappings and an error gives -/
def Res2 (w0 : World) (e : Int) (a b : List R) (r : Ending) (w' : World) : Prop :=
  ∃ v1 v2, r = .returned (.tuple #[v1, v2, .int .i64 e]) ∧ OwnR w' w0.heap.size v1 a ∧ OwnR w' w0.heap.size v2 b ∧ Below w0.heap.size w0 w'
def Res1 (w0 : World) (e : Int) (a : List R) (r : Ending) (w' : World) : Prop :=
  ∃ v1, r = .returned (.tuple #[v1, .int .i64 e]) ∧ OwnR w' w0.heap.size v1 a ∧ Below w0.heap.size w0 w'
/-- a slice of slices, just built -/
theorem RdL.built (W : World) (vs : List (Value × List R)) (T : TypeId) (h : ∀ p ∈ vs, ∃ A c, p.1 = .slice A p.2.length c ∧ Rd W A p.2) :
    RdL (W.alloc (.cells (vs.map (·.1)).toArray T)) (some ⟨W.heap.size, 0, none⟩) vs := fun hl => by
  refine ⟨W.heap.size, 0, rfl, fun i hi => ?_⟩
  obtain ⟨A, c, e, hr⟩ := h vs[i] (List.getElem_mem hi)
  refine ⟨?_, A, c, e, hr.below (below_alloc1 W _)⟩
  have := cells_new W (vs.map (·.1)) T i vs[i].1 (by simp [List.getElem?_eq_getElem hi])
  have ha : (⟨W.heap.size, 0, none⟩ : Addr).add i = ⟨W.heap.size, 0 + i, none⟩ := by unfold Addr.add; split <;> simp_all
  rw [ha] at this
  exact this

def Res2P (w0 : World) (r : Int × List R × List R) : Ending → World → Prop := Res2 w0 r.1 r.2.1 r.2.2
def punchX (l : List R) (page many : Int) : List R := norm (partR l 0 page ++ [(-1, many)] ++ partR l (page + many) (sumR l))
def punchOk (l : List R) (page many : Int) : Int × List R × List R := if fitsE (punchX l page many) ≠ 0 ∨ fitsE (partR l page (page + many)) ≠ 0 then (2, [], []) else (0, punchX l page many, partR l page (page + many))
def inR (l : List R) (page many : Int) : Prop := 0 ≤ page ∧ 0 ≤ many ∧ page ≤ sumR l ∧ many ≤ sumR l - page
theorem punch_bd {l : List R} {page many : Int} (h : mustE l = 0) (hi : inR l page many) :
    Nums 17179869184 (partR l 0 page ++ [(-1, many)] ++ partR l (page + many) (sumR l)) ∧ sumR (partR l 0 page ++ [(-1, many)] ++ partR l (page + many) (sumR l)) ≤ 8589934592 ∧ (partR l 0 page ++ [(-1, many)] ++ partR l (page + many) (sumR l)).length ≤ 5000 := by
  have hm := mild_of_must h
  obtain ⟨h1, h2, h3⟩ := mustE_zero h
  obtain ⟨i1, i2, i3, i4⟩ := hi
  have p1 := partR_sum hm 0 page
  have p2 := partR_sum hm (page + many) (sumR l)
  have q1 := partR_len l 0 page
  have q2 := partR_len l (page + many) (sumR l)
  refine ⟨((Nums.part_ hm _ _).append fun r hr => ?_).append (Nums.part_ hm _ _), ?_, ?_⟩
  · simp at hr; subst hr; simp only; omega
  · simp only [sumR_append, sumR]; omega
  · simp only [List.length_append, List.length_cons, List.length_nil]; omega
set_option maxRecDepth 100000 in
set_option maxHeartbeats 2000000 in
theorem Punch_bad (A : Option Addr) (l : List R) (c : Nat) (page many : Int) (w : World) (hR : Rd w A l) (hn : l.length ≤ 1048576) (h0 : mustE l ≠ 0) :
    Calls Try.prog 17 #[.slice A l.length c, .int .i64 page, .int .i64 many] w (Res2 w (mustE l) [] []) := by
  have H0 := Lib.hid h0
  have hs0 := ES.start w
  clear h0
  go_enter_defers Try.func17, Try.ntmps17
  go_wp2_with fail
  refine (must_no H0 (hs0.rd hR) hn).mono ?_
  rintro e w1 ⟨rfl, hB⟩
  have hs1 := hs0.next hB
  go_wp2_with fail
  refine door_fault hs1.box.cell hs1.box.frozen (v := .tuple #[.slice none 0 0, .slice none 0 0, .int .i64 (mustE l)]) ?_ ⟨_, _, rfl, own_nil' _ _, own_nil' _ _, hs1.fin _⟩
  simp [results, Try.results17, go_sem, (hs1.box.set _).cell]
set_option maxRecDepth 100000 in
set_option maxHeartbeats 2000000 in
theorem Punch_range (A : Option Addr) (l : List R) (c : Nat) (page many : Int) (w : World) (hR : Rd w A l) (hn : l.length ≤ 1048576) (h0 : mustE l = 0) (hi : ¬ inR l page many) :
    Calls Try.prog 17 #[.slice A l.length c, .int .i64 page, .int .i64 many] w (Res2 w 24 [] []) := by
  have H0 := Lib.hid h0
  have hs0 := ES.start w
  have hm := mild_of_must h0
  have hI := Lib.hid (fun W (hR : Rd W A l) => inside_no A l c page many W hR hn hm.fine.small hi hm.2 (pages_nonneg h0))
  clear h0 hi hm
  go_enter_defers Try.func17, Try.ntmps17
  go_wp2_with fail
  refine (must_ok H0 (hs0.rd hR) hn).mono ?_
  rintro e w1 ⟨rfl, hB⟩
  have hs1 := hs0.next hB
  clear hB
  go_wp2_with fail
  refine (hI.out _ (hs1.rd hR)).mono ?_
  rintro e w2 ⟨rfl, hB⟩
  have hs2 := hs1.next hB
  clear hB
  go_wp2_with fail
  refine door_fault hs2.box.cell hs2.box.frozen (v := .tuple #[.slice none 0 0, .slice none 0 0, .int .i64 24]) ?_ ⟨_, _, rfl, own_nil' _ _, own_nil' _ _, hs2.fin _⟩
  simp [results, Try.results17, go_sem, (hs2.box.set _).cell]
theorem Rd.lit1 (W : World) (a b : Int) (T : TypeId) : Rd (W.alloc (.cells #[.int .i64 a, .int .i64 b] T)) (some ⟨W.heap.size, 0, none⟩) [(a, b)] := fun _ => by
  refine ⟨W.heap.size, 0, rfl, fun i hi => ?_⟩
  have : i = 0 := by simp at hi; omega
  subst this
  constructor <;> simp [go_sem]
set_option maxRecDepth 100000 in
set_option maxHeartbeats 2000000 in
theorem Punch_ok (A : Option Addr) (l : List R) (c : Nat) (page many : Int) (w : World) (hR : Rd w A l) (hn : l.length ≤ 1048576) (h0 : mustE l = 0) (hi : inR l page many) :
    Calls Try.prog 17 #[.slice A l.length c, .int .i64 page, .int .i64 many] w (Res2P w (punchOk l page many)) := by
  have H0 := Lib.hid h0
  have hs0 := ES.start w
  have hm := mild_of_must h0
  have hbd := punch_bd h0 hi
  have hz := mustE_zero h0
  have hp0 := pages_nonneg h0
  obtain ⟨i1, i2, i3, i4⟩ := hi
  have hsum := hm.2
  have hX : Fine (punchX l page many) ∧ (punchX l page many).length ≤ 1048576 := ⟨(Nums.norm_ hbd.1).fine (by rw [norm_sum]; omega), by have := norm_len (partR l 0 page ++ [(-1, many)] ++ partR l (page + many) (sumR l)); unfold punchX; omega⟩
  have hY : Fine (partR l page (page + many)) ∧ (partR l page (page + many)).length ≤ 1048576 := ⟨(Nums.part_ hm _ _).fine (by have := partR_sum hm page (page + many); omega), by have := partR_len l page (page + many); omega⟩
  have hI := Lib.hid (fun W (hR : Rd W A l) => inside_ok A l c page many W hR hn hm.fine.small i1 i2 i3 i4 hm.2)
  clear h0
  go_enter_defers Try.func17, Try.ntmps17
  go_wp2_with fail
  refine (must_ok H0 (hs0.rd hR) hn).mono ?_
  rintro e w1 ⟨rfl, hB⟩
  have hs1 := hs0.next hB
  clear hB hs0
  go_wp2_with fail
  refine (hI.out _ (hs1.rd hR)).mono ?_
  rintro e w2 ⟨rfl, hB⟩
  have hs2 := hs1.next hB
  clear hB hs1
  go_wp2_with fail
  have hs3 := hs2.alloc (.cells #[.int .i64 (-1), .int .i64 many] 53)
  have hRh := Rd.lit1 w2 (-1) many 53
  refine (part_any A l c 0 page _ (hs3.rd hR) hn hm ⟨by omega, by omega⟩ ⟨by omega, by omega⟩).mono ?_
  rintro e w4 ⟨v1, rfl, ho1, hB⟩
  obtain ⟨A1, c1, rfl, hc1, hcm1, hR1⟩ := own_form ho1
  have hs4 := hs3.next hB
  replace hRh := hRh.below hB
  clear hB hs3 ho1
  go_wp2_with fail
  refine (part_any A l c (page + many) (sumR l) _ (hs4.rd hR) hn hm ⟨by omega, by omega⟩ ⟨by omega, by omega⟩).mono ?_
  rintro e w5 ⟨v3, rfl, ho3, hB⟩
  obtain ⟨A3, c3, rfl, hc3, hcm3, hR3⟩ := own_form ho3
  have hs5 := hs4.next hB
  replace hRh := hRh.below hB
  replace hR1 := hR1.below hB
  clear hB hs4 ho3
  go_wp2_with fail
  have hRL := RdL.built w5 [(.slice A1 (partR l 0 page).length c1, partR l 0 page), (.slice (some ⟨w2.heap.size, 0, none⟩) 1 1, [(-1, many)]), (.slice A3 (partR l (page + many) (sumR l)).length c3, partR l (page + many) (sumR l))] 22
    (by intro p hp; simp only [List.mem_cons, List.mem_nil_iff, or_false] at hp; rcases hp with rfl | rfl | rfl; exact ⟨A1, c1, rfl, hR1⟩; exact ⟨_, 1, rfl, hRh⟩; exact ⟨A3, c3, rfl, hR3⟩)
  have hcat : cat [(.slice A1 (partR l 0 page).length c1, partR l 0 page), (.slice (some ⟨w2.heap.size, 0, none⟩) 1 1, [(-1, many)]), (.slice A3 (partR l (page + many) (sumR l)).length c3, partR l (page + many) (sumR l))] = partR l 0 page ++ [(-1, many)] ++ partR l (page + many) (sumR l) := by simp [cat]
  have hJ := joined_any (some ⟨w5.heap.size, 0, none⟩) _ 3 _ hRL (by simp) (by rw [hcat]; omega) (by rw [hcat]; intro r hr; have := hbd.1 r hr; omega) (by rw [hcat]; omega)
  rw [hcat, show norm (partR l 0 page ++ [(-1, many)] ++ partR l (page + many) (sumR l)) = punchX l page many from rfl] at hJ
  have hs6 := hs5.alloc (.cells #[.slice A1 (partR l 0 page).length c1, .slice (some ⟨w2.heap.size, 0, none⟩) 1 1, .slice A3 (partR l (page + many) (sumR l)).length c3] 22)
  clear hRL hcat hR1 hR3 hRh hs5
  refine hJ.mono ?_
  rintro e w6 ⟨vx, rfl, hox, hB⟩
  obtain ⟨AX, cx, rfl, hcx, hcmx, hRX⟩ := own_form hox
  have hs7 := hs6.next hB
  have hox' := own_weak hox hs6.below.size
  clear hB hs6 hJ
  go_wp2_with fail
  refine (part_any A l c page (page + many) _ (hs7.rd hR) hn hm ⟨by omega, by omega⟩ ⟨by omega, by omega⟩).mono ?_
  rintro e w8 ⟨vy, rfl, hoy, hB⟩
  obtain ⟨AY, cy, rfl, hcy, hcmy, hRY⟩ := own_form hoy
  have hs8 := hs7.next hB
  replace hRX := hRX.below hB
  replace hox' := own_below hox' hB
  have hoy' := own_weak hoy hs7.below.size
  clear hB hs7 hox hoy
  go_wp2_with fail
  have hx1 := hX.1.small
  have hy1 := hY.1.small
  by_cases hf1 : fitsE (punchX l page many) = 0
  · have HF1 := Lib.hid hf1
    refine (fits_ok AX _ cx _ hRX hX.2 hx1 HF1).mono ?_
    rintro e w9 ⟨rfl, hB⟩
    have hs9 := hs8.next hB
    replace hRY := hRY.below hB
    replace hox' := own_below hox' hB
    replace hoy' := own_below hoy' hB
    clear hB hs8
    go_wp2_with fail
    by_cases hf2 : fitsE (partR l page (page + many)) = 0
    · have HF2 := Lib.hid hf2
      refine (fits_ok AY _ cy _ hRY hY.2 hy1 HF2).mono ?_
      rintro e w10 ⟨rfl, hB⟩
      have hs10 := hs9.next hB
      replace hox' := own_below hox' hB
      replace hoy' := own_below hoy' hB
      have hc10 := hs10.box.cell
      have hz10 := hs10.box.frozen
      clear hB hs9
      go_wp2_with fail
      refine door_ok (v := .tuple #[.slice AX (punchX l page many).length cx, .slice AY (partR l page (page + many)).length cy, .int .i64 0]) ?_ ?_
      · simp [results, Try.results17, go_sem, (hs10.box.set _).cell]
      · rw [show punchOk l page many = _ from if_neg (by rw [HF1.out, HF2.out]; simp)]
        exact ⟨_, _, rfl, own_setBox hox' hs10.box, own_setBox hoy' hs10.box, hs10.fin _⟩
    · have HF2 := Lib.hid hf2
      refine (fits_no AY _ cy _ hRY hY.2 hy1 HF2).mono ?_
      rintro e w10 ⟨rfl, hB⟩
      have hs10 := hs9.next hB
      clear hB hs9
      go_wp2_with fail
      refine door_fault hs10.box.cell hs10.box.frozen (v := .tuple #[.slice none 0 0, .slice none 0 0, .int .i64 2]) ?_ ?_
      · simp [results, Try.results17, go_sem, (hs10.box.set _).cell]
      · rw [show punchOk l page many = _ from if_pos (.inr HF2.out)]
        exact ⟨_, _, rfl, own_nil' _ _, own_nil' _ _, hs10.fin _⟩
  · have HF1 := Lib.hid hf1
    refine (fits_no AX _ cx _ hRX hX.2 hx1 HF1).mono ?_
    rintro e w9 ⟨rfl, hB⟩
    have hs9 := hs8.next hB
    clear hB hs8
    go_wp2_with fail
    refine door_fault hs9.box.cell hs9.box.frozen (v := .tuple #[.slice none 0 0, .slice none 0 0, .int .i64 2]) ?_ ?_
    · simp [results, Try.results17, go_sem, (hs9.box.set _).cell]
    · rw [show punchOk l page many = _ from if_pos (.inl HF1.out)]
      exact ⟨_, _, rfl, own_nil' _ _, own_nil' _ _, hs9.fin _⟩
end Go.Proofs.Ytjdkdogiaokhjaa
