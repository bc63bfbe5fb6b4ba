/- Runs: the law's 'small'; the frame of the law functions. -/
import Derived.Test.YtjdkdogiaokhjaaSb
import Derived.Laws.BytesArg
namespace Go.Proofs.Ytjdkdogiaokhjaa
open Go.RowKit Go.Proofs
set_option linter.unusedSimpArgs false
set_option linter.unusedVariables false

/-- what a law's walk keeps: the lists and bytes that it has read -/
structure St (w W : World) (fs : List (Option Addr × List R)) (gs : List (Option Addr × List Int)) : Prop where
  below : Below w.heap.size w W
  rd : ∀ f ∈ fs, Rd W f.1 f.2
  rb : ∀ g ∈ gs, RdB W g.1 g.2
theorem St.start (w : World) : St w w [] [] := ⟨Below.refl _ _, fun _ h => by simp at h, fun _ h => by simp at h⟩
theorem St.next {w W W' : World} {fs : List (Option Addr × List R)} {gs : List (Option Addr × List Int)} (h : St w W fs gs) (hb : Below W.heap.size W W') : St w W' fs gs :=
  ⟨h.below.trans (hb.mono h.below.size), fun f hf => (h.rd f hf).below hb, fun g hg => (h.rb g hg).below hb⟩
theorem St.alloc {w W : World} {fs : List (Option Addr × List R)} {gs : List (Option Addr × List Int)} (h : St w W fs gs) (o : Obj) : St w (W.alloc o) fs gs := h.next (below_alloc1 W o)
theorem St.push {w W : World} {fs : List (Option Addr × List R)} {gs : List (Option Addr × List Int)} (h : St w W fs gs) {A : Option Addr} {l : List R} (hr : Rd W A l) : St w W ((A, l) :: fs) gs :=
  ⟨h.below, fun f hf => by rcases List.mem_cons.1 hf with rfl | hf; exact hr; exact h.rd f hf, h.rb⟩
theorem St.pushB {w W : World} {fs : List (Option Addr × List R)} {gs : List (Option Addr × List Int)} (h : St w W fs gs) {A : Option Addr} {l : List Int} (hr : RdB W A l) : St w W fs ((A, l) :: gs) :=
  ⟨h.below, h.rd, fun f hf => by rcases List.mem_cons.1 hf with rfl | hf; exact hr; exact h.rb f hf⟩
theorem St.get {w W : World} {fs : List (Option Addr × List R)} {gs : List (Option Addr × List Int)} (h : St w W fs gs) {A : Option Addr} {l : List R} (hm : (A, l) ∈ fs) : Rd W A l := h.rd _ hm
/-- a literal of runs, just laid -/
theorem Rd.lit (W : World) (l : List R) (T : TypeId) : Rd (W.alloc (.cells (rv l).toArray T)) (some ⟨W.heap.size, 0, none⟩) l := fun _ => by
  refine ⟨W.heap.size, 0, rfl, fun i hi => ?_⟩
  have h := rv_get l i hi
  have h1 := cells_new W (rv l) T _ _ h.1
  have h2 := cells_new W (rv l) T _ _ h.2
  have ha : ∀ j, (⟨W.heap.size, 0, none⟩ : Addr).add j = ⟨W.heap.size, 0 + j, none⟩ := fun j => by unfold Addr.add; split <;> simp_all
  rw [ha] at h1 h2
  exact ⟨h1, h2⟩
theorem RdB.lit (W : World) (l : List Int) (T : TypeId) (hb : ∀ x ∈ l, 0 ≤ x ∧ x < 256) : RdB (W.alloc (.cells (l.map (Value.int .u8)).toArray T)) (some ⟨W.heap.size, 0, none⟩) l := fun _ => by
  refine ⟨W.heap.size, 0, rfl, fun i hi => ?_⟩
  have h1 := cells_new W (l.map (Value.int .u8)) T i (.int .u8 l[i]) (by simp [List.getElem?_eq_getElem hi])
  have ha : (⟨W.heap.size, 0, none⟩ : Addr).add i = ⟨W.heap.size, 0 + i, none⟩ := by unfold Addr.add; split <;> simp_all
  rw [ha] at h1
  exact ⟨h1, hb _ (List.getElem_mem hi)⟩
theorem RdE.lit (W : World) (l : List Int) (T : TypeId) : RdE (W.alloc (.cells (l.map (Value.int .i64)).toArray T)) (some ⟨W.heap.size, 0, none⟩) l := fun _ => by
  refine ⟨W.heap.size, 0, rfl, fun i hi => ?_⟩
  have h1 := cells_new W (l.map (Value.int .i64)) T i (.int .i64 l[i]) (by simp [List.getElem?_eq_getElem hi])
  have ha : (⟨W.heap.size, 0, none⟩ : Addr).add i = ⟨W.heap.size, 0 + i, none⟩ := by unfold Addr.add; split <;> simp_all
  rw [ha] at h1
  exact h1
/-- lists of runs of whatever length: read only as far as they are short -/
def RdS (w : World) (A : Option Addr) (ls : List (Value × List R)) : Prop :=
  ∃ b, A = some ⟨b, 0, none⟩ ∧ ∀ i (h : i < ls.length), w.cell? ⟨b, i, none⟩ = some ls[i].1 ∧ ∃ A' c, ls[i].1 = .slice A' ls[i].2.length c ∧ (ls[i].2.length ≤ 60 → Rd w A' ls[i].2)
theorem RdS.below {w w' : World} {A : Option Addr} {ls : List (Value × List R)} (h : RdS w A ls) (hb : Below w.heap.size w w') : RdS w' A ls := by
  obtain ⟨b, rfl, hc⟩ := h
  refine ⟨b, rfl, fun i hi => ?_⟩
  obtain ⟨h1, A', c, h2, h3⟩ := hc i hi
  exact ⟨(hb.cell (World.block_lt_of_cell? w _ h1)).trans h1, A', c, h2, fun hl => (h3 hl).below hb⟩
theorem RdS.lit1 (W : World) (A : Option Addr) (l : List R) (c : Nat) (T : TypeId) (h : l.length ≤ 60 → Rd W A l) : RdS (W.alloc (.cells #[.slice A l.length c] T)) (some ⟨W.heap.size, 0, none⟩) [(.slice A l.length c, l)] := by
  refine ⟨W.heap.size, rfl, fun i hi => ?_⟩
  have : i = 0 := by simp at hi; omega
  subst this
  exact ⟨by simp [go_sem], A, c, rfl, fun hl => (h hl).below (below_alloc1 W _)⟩
theorem RdS.lit2 (W : World) (A : Option Addr) (l : List R) (c : Nat) (A' : Option Addr) (l' : List R) (c' : Nat) (T : TypeId) (h : l.length ≤ 60 → Rd W A l) (h' : l'.length ≤ 60 → Rd W A' l') :
    RdS (W.alloc (.cells #[.slice A l.length c, .slice A' l'.length c'] T)) (some ⟨W.heap.size, 0, none⟩) [(.slice A l.length c, l), (.slice A' l'.length c', l')] := by
  refine ⟨W.heap.size, rfl, fun i hi => ?_⟩
  have : i = 0 ∨ i = 1 := by simp at hi; omega
  rcases this with rfl | rfl
  · exact ⟨by simp [go_sem], A, c, rfl, fun hl => (h hl).below (below_alloc1 W _)⟩
  · exact ⟨by simp [go_sem], A', c', rfl, fun hl => (h' hl).below (below_alloc1 W _)⟩
theorem smallsB_take_succ (ls : List (Value × List R)) (k : Nat) (h : k < ls.length) : smallsB (ls.take (k + 1)) = (smallsB (ls.take k) && smallB ls[k].2) := by
  unfold smallsB
  rw [List.take_succ_eq_append_getElem h, List.all_append]; simp
theorem smallsB_false (ls : List (Value × List R)) (k : Nat) (h : k < ls.length) (hk : smallB ls[k].2 = false) : smallsB ls = false := by
  unfold smallsB
  rw [List.all_eq_false]; exact ⟨ls[k], List.getElem_mem h, by simp [hk]⟩
theorem smallB_len {l : List R} (h : 60 < l.length) : smallB l = false := by simp [smallB]; omega
theorem smallB_must {l : List R} (h : mustE l ≠ 0) : smallB l = false := by simp [smallB, h]
theorem smallB_sum {l : List R} (h : 2000 < sumR l) : smallB l = false := by simp [smallB]; omega
theorem smallB_ok {l : List R} (h1 : ¬ 60 < l.length) (h2 : mustE l = 0) (h3 : ¬ 2000 < sumR l) : smallB l = true := by simp [smallB, h2]; omega
theorem smallB_true {l : List R} (h : smallB l = true) : l.length ≤ 60 ∧ mustE l = 0 ∧ sumR l ≤ 2000 := by simpa [smallB, and_assoc] using h
set_option maxRecDepth 100000 in
set_option maxHeartbeats 2000000 in
theorem small_any (A : Option Addr) (ls : List (Value × List R)) (c : Nat) (w : World) (hR : RdS w A ls) (hn : ls.length ≤ 1000) :
    Calls Try.prog 29 #[.slice A ls.length c] w fun e w' => e = .returned (.bool (smallsB ls)) ∧ Below w.heap.size w w' := by
  go_enter Try.func29, Try.ntmps29
  go_wp2
  go_loopw [3] (fun i wr => ∃ k : Nat, k ≤ ls.length ∧ i = .int .i64 k ∧ smallsB (ls.take k) = true ∧ Below w.heap.size w wr) (fun i _ => ls.length - (intOf i).toNat)
  case atStart => exact ⟨0, by omega, rfl, rfl, Below.refl _ _⟩
  case round =>
    obtain ⟨k, hk, rfl, hall, hB⟩ := hrel
    by_cases hlt : k < ls.length
    · have hRk := hR.below hB
      obtain ⟨b, rfl, hc⟩ := hRk
      obtain ⟨c1, A', c', e1, hRd⟩ := hc k hlt
      rw [e1] at c1
      have HS := Lib.hid (smallsB_take_succ ls k hlt)
      have HF := Lib.hid (smallsB_false ls k hlt)
      have HA := Lib.hid hall
      clear hc hall hR e1
      generalize ls[k].2 = l at *
      by_cases h1 : 60 < l.length
      · have HE := Lib.hid (HF.out (smallB_len h1))
        clear hRd
        go_wp2
        go_ret
        exact ⟨by rw [HE.out]; rfl, hB⟩
      · have hRl := hRd (by omega)
        have hd1 : ¬ ((60 : Int) < l.length) := by omega
        clear hRd
        by_cases h2 : mustE l = 0
        · have H2 := Lib.hid h2
          have hmz := mild_of_must h2
          have hV := refValid_any A' l c' wr hRl (by omega)
          rw [h2] at hV
          have HV := Lib.hid hV
          clear hV h2
          go_wp2_with fail
          refine HV.out.mono ?_
          rintro e w1 ⟨rfl, hB1⟩
          have c2 := (hB1.cell (World.block_lt_of_cell? wr _ c1)).trans c1
          have hRl1 := hRl.below hB1
          have HSZ := Lib.hid (refSize_any A' l c' w1 hRl1 (by omega) (fun r hr => (hmz.1 r hr).2.2) (by have := hmz.2; omega))
          have hB2 := hB.trans (hB1.mono hB.size)
          have hs0 := pages_nonneg H2.out
          have hs1 := hmz.2
          clear hB1 hRl hRl1 hB hmz
          go_wp2_with fail
          refine HSZ.out.mono ?_
          rintro e w2 ⟨rfl, hB3⟩
          have hB4 := hB2.trans (hB3.mono hB2.size)
          clear hB3 hB2
          by_cases h3 : 2000 < sumR l
          · have HE := Lib.hid (HF.out (smallB_sum h3))
            go_wp2
            go_ret
            exact ⟨by rw [HE.out]; rfl, hB4⟩
          · have HE := Lib.hid (smallB_ok h1 H2.out h3)
            go_wp2
            go_roundw
            case rel => exact ⟨k + 1, by omega, by go_num, by rw [HS.out, HA.out, HE.out]; rfl, hB4⟩
            case measure => simp [intOf]; omega
        · have HE := Lib.hid (HF.out (smallB_must h2))
          have HV := Lib.hid (refValid_any A' l c' wr hRl (by omega))
          have hq : (mustE l != 0) = true := by simp [h2]
          clear h2
          go_wp2_with fail
          refine HV.out.mono ?_
          rintro e w1 ⟨rfl, hB1⟩
          have hB2 := hB.trans (hB1.mono hB.size)
          clear hB1 hB
          go_wp2
          go_ret
          exact ⟨by rw [HE.out]; rfl, hB2⟩
    · have e : k = ls.length := by omega
      subst e
      rw [List.take_length] at hall
      have HA := Lib.hid hall
      clear hall
      go_wp2
      go_ret
      exact ⟨by rw [HA.out]; rfl, hB⟩
end Go.Proofs.Ytjdkdogiaokhjaa
