/- More for rounds of a range over a function: regions that write; a region under deferred calls. Over any program. -/
import Derived.Test.YtjdkdogiaokhjaaRf
import Derived.StillTailTactics
import Derived.OrdersHeld
import Derived.Deep.RegionHeld3
import Derived.RecoverIn
import Derived.RegionIn
import Derived.Deep.RegionWith
namespace Go.Proofs.Ytjdkdogiaokhjaa
open Go.RowKit
set_option linter.unusedVariables false

theorem wpAnyIn_of_wpAny_round {P : Program} {md : Region.Mode} {ops : Array Oper} {lp : Nat} {Q : Exit → Act → World → Prop} (hnd : noDefer ops.toList = true) (hl : ¬ LetsOut Q) :
    ∀ (fuel : Nat) (listed : Array Bool) (a : Act) (w : World), wpAny P md ops Q fuel listed a w → wpAnyIn (Fence.wide.inRound lp) 0 P md ops Q fuel listed a w := by
  intro fuel
  induction fuel with
  | zero => exact fun listed a w h => h
  | succ fuel ih =>
    intro listed a w h
    refine ⟨h.1, fun i hi => ?_⟩
    have hq := h.2 i hi
    unfold wpOp at hq
    unfold wpOpIn
    cases ho : ops[i]? with
    | none => rw [ho] at hq; exact ih _ _ _ hq
    | some o =>
      rw [ho] at hq
      simp only at hq ⊢
      have hno : ∀ c, o.op ≠ .defer c := by
        intro c hc
        have hm : o ∈ ops.toList := by
          obtain ⟨hlt, rfl⟩ := Array.getElem?_eq_some_iff.1 ho
          exact Array.getElem_mem_toList hlt
        have := List.all_eq_true.1 hnd o hm
        rw [hc] at this
        simp at this
      by_cases hw : Region.wanted o (yielded ops a.tmps) = true
      · rw [if_pos hw] at hq ⊢
        rcases hq with hq | hq
        · exact Oper_wpIn_round hno (Oper.wp_mono (fun a' w' h' => ih _ _ _ h') hq)
        · exact (hl hq.2).elim
      · rw [if_neg hw] at hq ⊢
        exact ⟨fun _ _ => trivial, ih _ _ _ hq⟩
theorem wpIn_region_any_round {P : Program} {id : Nat} {lp : Nat} {Q : Exit → Act → World → Prop} {a : Act} {w : World} {l : List Oper} (hnd : noDefer l = true) (hlo : ¬ LetsOut Q) (hm : P.follows .mixedOrders = true)
    (h : wpAny P .any l.toArray Q l.toArray.size (Array.replicate l.toArray.size false) a { w with drawn := w.drawn + 1 }) : (Code.region id l.toArray true).wpIn (Fence.wide.inRound lp) 0 P Q a w :=
  wpIn_region_any hm (wpAnyIn_of_wpAny_round (by simpa using hnd) hlo _ _ _ _ h)
/-- operations that yield their values in every world that meets S -/
def wpHead (P : Program) (ops : Array Oper) (S : World → Prop) (L : Act → Prop) : List Oper → Act → Prop
  | [], a => L a
  | o :: l, a => ∃ v, YieldsIf P ops S o v a ∧ wpHead P ops S L l (a.put o.dst v)
theorem wpHead_step {P : Program} {ops : Array Oper} {S : World → Prop} {L : Act → Prop} {o : Oper} {l : List Oper} {a : Act} (v : Value) (hw : Region.wanted o (yielded ops a.tmps) = true)
    (hv : ∀ w, S w → (execOp a.eval o).run P w = .ok (.value v) w) (h : wpHead P ops S L l (a.put o.dst v)) : wpHead P ops S L (o :: l) a := ⟨v, .inl ⟨hw, hv⟩, h⟩
theorem wpHead_nil {P : Program} {ops : Array Oper} {S : World → Prop} {L : Act → Prop} {a : Act} (h : L a) : wpHead P ops S L [] a := h
/-- operations in their order, S behind each -/
def wpTail (P : Program) (ops : Array Oper) (Q : Exit → Act → World → Prop) (S : World → Prop) : List Oper → Act → World → Prop
  | [], a, w => Q .normal a w
  | o :: l, a, w => ∀ K : Act → World → Prop, (∀ a' w', S w' → wpTail P ops Q S l a' w' → K a' w') → if Region.wanted o (yielded ops a.tmps) = true then Oper.wp P o a w K Q else K (a.put o.dst undef) w
theorem wpTail_step {P : Program} {ops : Array Oper} {Q : Exit → Act → World → Prop} {S : World → Prop} {o : Oper} {l : List Oper} {a : Act} {w : World}
    (h : ∀ K : Act → World → Prop, (∀ a' w', S w' → wpTail P ops Q S l a' w' → K a' w') → if Region.wanted o (yielded ops a.tmps) = true then Oper.wp P o a w K Q else K (a.put o.dst undef) w) : wpTail P ops Q S (o :: l) a w := h
theorem wpTail_nil {P : Program} {ops : Array Oper} {Q : Exit → Act → World → Prop} {S : World → Prop} {a : Act} {w : World} (h : Q .normal a w) : wpTail P ops Q S [] a w := h
theorem wpAnyH_of_tail {P : Program} {md : Region.Mode} {ops : Array Oper} {Q : Exit → Act → World → Prop} {S : World → Prop} : ∀ (l : List Oper) (k : Nat) (listed : Array Bool) (a : Act) (w : World), (∀ j, l[j]? = ops[k + j]?) →
    Region.seqB md ops l.length k listed = true → wpTail P ops Q S l a w → wpAnyH P md ops Q S l.length listed a w
  | [], _, _, _, _, _, hB, h => ⟨by simpa [Region.seqB] using hB, h⟩
  | o :: l, k, listed, a, w, hl, hB, h => by
    have h0 : ops[k]? = some o := by simpa using (hl 0).symm
    simp only [List.length_cons, Region.seqB, Bool.and_eq_true, decide_eq_true_eq] at hB
    refine ⟨fun h1 => (by rw [hB.1] at h1; cases h1), fun i hi => ?_⟩
    rw [hB.1] at hi
    have hik : i = k := by simpa using hi
    subst hik
    have h2 := h (fun a' w' => S w' ∧ wpTail P ops Q S l a' w') (fun a' w' hs ht => ⟨hs, ht⟩)
    have hw : wpOp P ops Q i (fun a' w' => S w' ∧ wpTail P ops Q S l a' w') a w := by
      unfold wpOp
      simp only [h0]
      split
      · rename_i hh; rw [if_pos hh] at h2; exact .inl h2
      · rename_i hh; rw [if_neg hh] at h2; exact h2
    exact wpOp_mono (fun a' w' h' => ⟨h'.1, wpAnyH_of_tail l (i + 1) _ a' w' (fun j => by have := hl (j + 1); simpa [Nat.add_assoc, Nat.add_comm 1 j] using this) hB.2 h'.2⟩) hw
theorem wpAnyH_of_heads {P : Program} {md : Region.Mode} {ops : Array Oper} {Q : Exit → Act → World → Prop} {S : World → Prop} {g n : Nat} (hsel : Region.noSelect ops = true) (hQ : ∀ c a a' w, Q (.panic c) a w → Q (.panic c) a' w) {w : World} (hS : S w) {L : Act → Prop}
    (hL : ∀ listed a, Region.seqB md ops g n listed = true → L a → wpAnyH P md ops Q S g listed a w) :
    ∀ (l : List Oper) (k : Nat) (listed : Array Bool) (a : Act), (∀ j, j < l.length → l[j]? = ops[k + j]?) → k + l.length = n →
    Region.lexHead md ops g l.length k listed = true → wpHead P ops S L l a → wpAnyH P md ops Q S (l.length + g) listed a w
  | [], k, listed, a, _, hk, hB, h => by
    have : k = n := by simpa using hk
    subst this
    simpa using hL listed a (by simpa [Region.lexHead] using hB) h
  | o :: l, k, listed, a, hl, hk, hB, h => by
    have h0 : ops[k]? = some o := by simpa using (hl 0 (by simp)).symm
    simp only [List.length_cons, Region.lexHead, Bool.and_eq_true] at hB
    obtain ⟨⟨hr, hf⟩, hB'⟩ := hB
    obtain ⟨v, hy, hK⟩ := h
    rw [show (o :: l).length + g = (l.length + g) + 1 by simp only [List.length_cons]; omega]
    exact wpAnyH_take h0 hsel hf hr (fun c a w => hQ c _ _ w) hy hS (wpAnyH_of_heads hsel hQ hS hL l (k + 1) _ _ (fun j hj => by have := hl (j + 1) (by simp; omega); simpa [Nat.add_assoc, Nat.add_comm 1 j] using this) (by simp only [List.length_cons] at hk; omega) hB' hK)
def heldB (md : Region.Mode) (ops : Array Oper) (n : Nat) : Bool := Region.noSelect ops && decide (n ≤ ops.size) && Region.lexHead md ops (ops.size - n) n 0 (Array.replicate ops.size false)
/-- A REGION IN A ROUND whose first n operations read what no store of it turns, and whose last ones write in one order -/
theorem wpIn_region_held_round {P : Program} {id : Nat} {lp : Nat} {Q : Exit → Act → World → Prop} {a : Act} {w : World} {l : List Oper} (n : Nat) (S : World → Prop) (hnd : noDefer l = true) (hlo : ¬ LetsOut Q) (hQ : ∀ c a a' w, Q (.panic c) a w → Q (.panic c) a' w) (hm : P.follows .mixedOrders = true) (hB : heldB .any l.toArray n = true)
    (hS : ∀ wd : World, Ext (fun _ => False) w wd → S wd) (h' : ∀ wd : World, Ext (fun _ => False) w wd → wpHead P l.toArray S (fun a' => wpTail P l.toArray Q S (l.drop n) a' wd) (l.take n) a) : (Code.region id l.toArray true).wpIn (Fence.wide.inRound lp) 0 P Q a w := by
  have hE : Ext (fun _ => False) w { w with drawn := w.drawn + 1 } := ⟨rfl, rfl, rfl, Nat.le_refl _, fun _ _ _ => rfl⟩
  have h := h' _ hE
  simp only [heldB, Bool.and_eq_true, decide_eq_true_eq] at hB
  obtain ⟨⟨hsel, hn⟩, hlex⟩ := hB
  have hn' : n ≤ l.length := by simpa using hn
  have htl : (l.take n).length = n := by simp; omega
  have hdl : (l.drop n).length = l.toArray.size - n := by simp
  refine wpIn_region_any_round hnd hlo hm (wpAny_of_held (S := S) _ _ _ _ ?_)
  have := wpAnyH_of_heads (md := .any) (g := l.toArray.size - n) (n := n) hsel hQ (hS _ hE) (fun listed a' hs hL => by
    have := wpAnyH_of_tail (md := .any) (l.drop n) n listed a' _ (fun j => by simp [List.getElem?_drop]) (by rw [hdl]; exact hs) hL
    rwa [hdl] at this) (l.take n) 0 _ a (fun j hj => by
      have hj' : j < n := by rw [htl] at hj; exact hj
      simp [hj']) (by simpa using htl) (by rw [htl]; exact hlex) h
  rw [htl, show n + (l.toArray.size - n) = l.toArray.size by simp; omega] at this
  exact this
/-- the same outside of a round -/
theorem wp_region_heads {P : Program} {id : Nat} {Q : Exit → Act → World → Prop} {a : Act} {w : World} {l : List Oper} (n : Nat) (S : World → Prop) (hQ : ∀ c a a' w, Q (.panic c) a w → Q (.panic c) a' w) (hm : P.follows .mixedOrders = true) (hB : heldB .any l.toArray n = true)
    (hS : ∀ wd : World, Ext (fun _ => False) w wd → S wd) (h' : ∀ wd : World, Ext (fun _ => False) w wd → wpHead P l.toArray S (fun a' => wpTail P l.toArray Q S (l.drop n) a' wd) (l.take n) a) : (Code.region id l.toArray true).wp P Q a w := by
  have hE : Ext (fun _ => False) w { w with drawn := w.drawn + 1 } := ⟨rfl, rfl, rfl, Nat.le_refl _, fun _ _ _ => rfl⟩
  have h := h' _ hE
  simp only [heldB, Bool.and_eq_true, decide_eq_true_eq] at hB
  obtain ⟨⟨hsel, hn⟩, hlex⟩ := hB
  have hn' : n ≤ l.length := by simpa using hn
  have htl : (l.take n).length = n := by simp; omega
  have hdl : (l.drop n).length = l.toArray.size - n := by simp
  refine wp_region_any hm (wpAny_of_held (S := S) _ _ _ _ ?_)
  have := wpAnyH_of_heads (md := .any) (g := l.toArray.size - n) (n := n) hsel hQ (hS _ hE) (fun listed a' hs hL => by
    have := wpAnyH_of_tail (md := .any) (l.drop n) n listed a' _ (fun j => by simp [List.getElem?_drop]) (by rw [hdl]; exact hs) hL
    rwa [hdl] at this) (l.take n) 0 _ a (fun j hj => by
      have hj' : j < n := by rw [htl] at hj; exact hj
      simp [hj']) (by simpa using htl) (by rw [htl]; exact hlex) h
  rw [htl, show n + (l.toArray.size - n) = l.toArray.size by simp; omega] at this
  exact this
/-- a region that ends in its order (no panic): for 'go_region' under deferred calls -/
def normally (Q : Exit → Act → World → Prop) : Exit → Act → World → Prop
  | .normal, a, w => Q .normal a w
  | .panic _, _, _ => False
  | _, _, _ => False
theorem wp_normally {P : Program} {c : Code} {Q : Exit → Act → World → Prop} {a : Act} {w : World} (h : c.wp P (normally Q) a w) : c.wp P Q a w :=
  Code.wp_mono (fun e a' w' h => by cases e <;> first | exact h | exact h.elim) h
/-- all ways through a region meet again: one act, a world of which S holds -/
def meets (a1 : Act) (S : World → Prop) : Exit → Act → World → Prop
  | .normal, a, w => a = a1 ∧ S w
  | .panic _, _, _ => False
  | _, _, _ => False
theorem wp_meets {P : Program} {c : Code} {Q : Exit → Act → World → Prop} {a : Act} {w : World} (S : World → Prop) (a1 : Act) (h : c.wp P (meets a1 S) a w) (hk : ∀ w', S w' → Q .normal a1 w') : c.wp P Q a w :=
  Code.wp_mono (fun e a' w' h => by cases e <;> first | exact h.elim | (obtain ⟨rfl, h'⟩ := h; exact hk _ h')) h
end Go.Proofs.Ytjdkdogiaokhjaa
