/- Runs: arguments that are lists of runs, opened. -/
import Derived.Test.YtjdkdogiaokhjaaSc
import Derived.Deep.SlicePairs
import Derived.ProofKit
import Derived.OpenShut
import Derived.ShutString
import Derived.ChangeOld
import Derived.Below
import Derived.SizedLaws
namespace Go.Proofs.Ytjdkdogiaokhjaa
open Go.RowKit Go.Proofs Go.ChangeShapes Go.WideShapes Go.ChangeAt Go.Deep
set_option linter.unusedSimpArgs false
set_option linter.unusedVariables false

theorem own_knob : ownKnob Try.prog.godebug = none := by kernel_rfl
theorem laid_out : laidOutB Try.prog = true := by kernel_rfl
theorem plain_add {a : Addr} (h : a.spot = none) (n : Nat) : a.add n = ⟨a.block, a.off + n, none⟩ := by
  obtain ⟨b, o, s⟩ := a
  simp only at h
  subst h
  unfold Addr.add
  split <;> simp_all
set_option maxRecDepth 100000 in
theorem open_runs {H : Type} {enc : TypeId × Value → H} {W : World} {r : Reach} {b0 : Nat} {v : Value} {d : DataW H} {p : List MemPlace} (hv : Value.okWide Try.prog W r b0 22 v) (h : DataW.Trod enc Try.prog W 0 (fun _ => true) true 22 v d p) :
    ∃ A c l, v = .slice A l.length c ∧ Rd W A l := by
  obtain ⟨a, len, cap, rfl⟩ := okWide_slice Try.underlying22 hv
  obtain ⟨fuel, hf⟩ := h
  rcases open_slice_pairs Try.underlying22 Try.underlying53 (by kernel_rfl) rfl rfl (by kernel_rfl) (by kernel_rfl) hf with ⟨hcs, _⟩ | ⟨x, l, c, m, n, V0, V1, D0, D1, P0, P1, hcs, _, hl, hm, hmm, _, hi⟩
  · simp [Value.cells] at hcs
    obtain ⟨rfl, rfl, rfl⟩ := hcs
    exact ⟨none, 0, [], rfl, Rd.nil _ _⟩
  · simp [Value.cells] at hcs
    obtain ⟨rfl, rfl, rfl⟩ := hcs
    have hmm' : m = cap := by simpa using hmm
    subst hmm'
    have each : ∀ i, i < m → ∃ q : Int × Int, V0 i = .int .i64 q.1 ∧ V1 i = .int .i64 q.2 := by
      intro i him
      obtain ⟨_, _, t0, t1⟩ := hi i him
      obtain ⟨a0, e0, _⟩ := DataW.trod_int Try.underlying3 t0
      obtain ⟨a1, e1, _⟩ := DataW.trod_int Try.underlying3 t1
      simp at e0 e1
      exact ⟨(a0, a1), e0, e1⟩
    obtain ⟨q, hq⟩ := choose_lt each
    refine ⟨some x, m, (List.range len).map q, by simp, fun hne => ?_⟩
    have hlen : 0 < len := by
      rcases Nat.eq_zero_or_pos len with h0 | h0
      · subst h0; simp at hne
      · exact h0
    have hsp : x.spot = none := World.cell?_spot (by have := (hi 0 (by omega)).1; rw [Nat.zero_mul] at this; exact this)
    refine ⟨x.block, x.off, by rw [← hsp], fun i him => ?_⟩
    have him' : i < len := by simpa using him
    obtain ⟨c0, c1, _, _⟩ := hi i (by omega)
    rw [plain_add hsp] at c0 c1
    obtain ⟨e0, e1⟩ := hq i (by omega)
    rw [e0] at c0
    rw [e1] at c1
    simp only [List.getElem_map, List.getElem_range]
    exact ⟨c0, by rw [Nat.add_assoc]; exact c1⟩
set_option maxRecDepth 100000 in
theorem open_bytes {H : Type} {enc : TypeId × Value → H} {W : World} {r : Reach} {b0 : Nat} {v : Value} {d : DataW H} {p : List MemPlace} (hv : Value.okWide Try.prog W r b0 40 v) (h : DataW.Trod enc Try.prog W 0 (fun _ => true) true 40 v d p) :
    ∃ A c bs, v = .slice A bs.length c ∧ bs.length ≤ c ∧ RdB W A bs := by
  obtain ⟨a, len, cap, rfl⟩ := okWide_slice Try.underlying40 hv
  obtain ⟨fuel, hf⟩ := h
  rcases open_ints Try.underlying40 Try.underlying5 (by kernel_rfl) hf with ⟨hcs, _⟩ | ⟨x, l, c, zs, hcs, _, hl, hm, hz, _, hcell, hwz⟩
  · simp [Value.cells] at hcs
    obtain ⟨rfl, rfl, rfl⟩ := hcs
    exact ⟨none, 0, [], rfl, Nat.le_refl _, fun hn => absurd rfl hn⟩
  · simp [Value.cells] at hcs
    obtain ⟨rfl, rfl, rfl⟩ := hcs
    have hz' : zs.length = cap := by simpa using hz
    refine ⟨some x, cap, zs.take len, by simp; omega, by simp; omega, fun hne => ?_⟩
    have hlen : 0 < len := by
      rcases Nat.eq_zero_or_pos len with h0 | h0
      · subst h0; simp at hne
      · exact h0
    have hsp : x.spot = none := World.cell?_spot (by have := hcell 0 (by omega); exact this)
    refine ⟨x.block, x.off, by rw [← hsp], fun i him => ?_⟩
    have him' : i < len := by simp at him; omega
    have c0 := hcell i (by omega)
    rw [plain_add hsp, List.getD_eq_getElem?_getD, List.getElem?_eq_getElem (by omega)] at c0
    have hw := hwz zs[i] (List.getElem_mem (by omega))
    have hmin : IntKind.u8.min = 0 := rfl
    have hmax : IntKind.u8.max = 255 := rfl
    simp [Lit.wf, hmin, hmax] at hw
    simp only [List.getElem_take]
    exact ⟨c0, by omega, by omega⟩
end Go.Proofs.Ytjdkdogiaokhjaa
