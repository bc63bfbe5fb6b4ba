/- A range over a function whose iterator keeps state of its own in memory: one law for the caller, over any program. -/
import Derived.RangeFuncNested
import Derived.RangeFuncBound
import Derived.RangeFuncCalls
import Derived.RangeFuncLeaves
import Derived.WalkKit
import Derived.OwnWalkIn
import Derived.TacticsInMore
import Derived.LoopNIn
import Derived.LoopIn
import Derived.Deep.Quiet
import Derived.OrdersIn
namespace Go.Proofs.Ytjdkdogiaokhjaa
open Go.RowKit
set_option linter.unusedVariables false

/-- blocks may be laid; of those that lay, only the ones of O may turn -/
structure Ext (O : Nat → Prop) (W W' : World) : Prop where
  os : W'.os = W.os
  tape : W'.tape = W.tape
  output : W'.output = W.output
  size : W.heap.size ≤ W'.heap.size
  block : ∀ k, k < W.heap.size → ¬ O k → W'.heap[k]? = W.heap[k]?
theorem Ext.refl (O : Nat → Prop) (W : World) : Ext O W W := ⟨rfl, rfl, rfl, Nat.le_refl _, fun _ _ _ => rfl⟩
theorem Ext.trans {O : Nat → Prop} {A B C : World} (h : Ext O A B) (k : Ext O B C) : Ext O A C :=
  ⟨k.os.trans h.os, k.tape.trans h.tape, k.output.trans h.output, Nat.le_trans h.size k.size, fun i hi ho => (k.block i (Nat.lt_of_lt_of_le hi h.size) ho).trans (h.block i hi ho)⟩
theorem Ext.mono {O O' : Nat → Prop} {A B : World} (h : Ext O A B) (ho : ∀ k, O k → O' k) : Ext O' A B :=
  ⟨h.os, h.tape, h.output, h.size, fun i hi hn => h.block i hi fun hk => hn (ho i hk)⟩
theorem Ext.of_below {O : Nat → Prop} {A B : World} (h : Below A.heap.size A B) : Ext O A B := ⟨h.os, h.tape, h.output, h.size, fun i hi _ => h.block i hi⟩
theorem Ext.alloc {O : Nat → Prop} {A B : World} (h : Ext O A B) (o : Obj) : Ext O A (B.alloc o) := h.trans (Ext.of_below ((Below.refl _ B).alloc (Nat.le_refl _) o))
theorem Ext.putObj {O : Nat → Prop} {W : World} {r : Nat} (o : Obj) (h : O r) : Ext O W (W.putObj r o) :=
  ⟨rfl, rfl, rfl, by simp, fun k hk hn => World.putObj_heap_other (fun e => hn (e ▸ h))⟩
theorem Ext.cell {O : Nat → Prop} {A B : World} (h : Ext O A B) {p : Addr} {v : Value} (hc : A.cell? p = some v) (hn : ¬ O p.block) : B.cell? p = some v :=
  (World.cell?_of_block (h.block _ (World.block_lt_of_cell? A p hc) hn)).trans hc
/-- what a round that goes on leaves to the iterator: the blocks of K and O, and those laid since the caller's word W0 -/
def Keep (K : Nat → Prop) (W0 W1 W2 : World) : Prop := W1.heap.size ≤ W2.heap.size ∧ ∀ b, b < W1.heap.size → (K b ∨ W0.heap.size ≤ b) → W2.heap[b]? = W1.heap[b]?

/-- THE ITERATOR's CONTRACT: N rounds, the k-th with the values args k; O: the blocks of its own that it turns; K: the blocks that it reads. -/
def Gives (P : Program) (g : Nat) (lb : Array Value) (N : Nat) (args : Nat → Array Value) (O K : Nat → Prop) (w : World) : Prop :=
  ∀ (lp : Nat) (J Jx : Nat → World → Prop) (W : World), Ext (fun _ => False) w W →
    (∀ k W1 W2, J k W1 → Ext O W1 W2 → J k W2) → (∀ k W1 W2, Jx k W1 → Ext O W1 W2 → Jx k W2) →
    (∀ k W0 W1, k < N → J k W0 → Ext O W0 W1 → YieldAt Fence.wide 0 P lp (args k) W1 fun e W2 =>
      (e = .returned (.bool true) ∧ J (k + 1) W2 ∧ Keep K W0 W1 W2) ∨ (e = .returned (.bool false) ∧ Jx k W2)) →
    J 0 W →
    CallsIn Fence.wide 0 P g (#[.func (.yield lp) #[] #[]] ++ lb) W fun e W' => (∃ v, e = .returned v) ∧ (J N W' ∨ ∃ k, k < N ∧ Jx k W')

/-- how the body of a round may be left -/
def roundOut (I : Nat → World → Prop) (Ix : Code → Nat → World → Prop) (K : Nat → Prop) (D k : Nat) (W0 : World) (n1 : Nat) (W3 : World) : Exit → Act → World → Prop
  | .normal, _, W' => (∀ b, b = D ∨ b = D + 1 → W'.heap[b]? = W3.heap[b]?) ∧ I (k + 1) W' ∧ n1 ≤ W'.heap.size ∧ ∀ b, b < n1 → (K b ∨ W0.heap.size ≤ b) → W'.heap[b]? = W3.heap[b]?
  | .ret, _, W' => (∀ b, b = D ∨ b = D + 1 → W'.heap[b]? = W3.heap[b]?) ∧ Ix .ret k W'
  | .exit id, _, W' => (∀ b, b = D ∨ b = D + 1 → W'.heap[b]? = W3.heap[b]?) ∧ Ix (.exit id) k W'
  | .goto t, _, W' => (∀ b, b = D ∨ b = D + 1 → W'.heap[b]? = W3.heap[b]?) ∧ Ix (.goto t) k W'
  | .panic _, _, _ => False
  | .outgrown, _, _ => False

/-- **THE CALLER's LAW.** -/
theorem wp_rangeFunc_gives {P : Program} {g : Operand} {ps : Array Tmp} {assign body : Code} {Q : Exit → Act → World → Prop} {a : Act} {w : World}
    {gf : Nat} {lb : Array Value} (hg : a.eval g = .func (.func gf) #[] lb) (eg : ∀ args w, (callFunc gf args).run P w = .ok (.enter gf args) w)
    {N : Nat} {args : Nat → Array Value} {O K : Nat → Prop} (hseq : Gives P gf lb N args O K w) (hps : ∀ k, (args k).size = ps.size)
    (hO : ∀ b, O b → b < w.heap.size) (hK : ∀ b, K b → b < w.heap.size)
    (I : Nat → World → Prop) (Ix : Code → Nat → World → Prop)
    (hI : ∀ k W1 W2, I k W1 → Ext O W1 W2 → I k W2) (hIl : ∀ k W1 o o', I k W1 → W1.heap[w.heap.size + 1]? = some (.loop o) → I k (W1.putObj (w.heap.size + 1) (.loop o')))
    (hIx : ∀ c k W1 W2, Ix c k W1 → Ext O W1 W2 → Ix c k W2) (hIxl : ∀ c k W1 o o', Ix c k W1 → W1.heap[w.heap.size + 1]? = some (.loop o) → Ix c k (W1.putObj (w.heap.size + 1) (.loop o'))) (h0 : I 0 w)
    (Asg : Nat → World → Act → World → Prop)
    (hassign : ∀ (k : Nat) (W1 : World) (Kc : Act → World → Prop), (∀ a₁ W2, Ext (fun _ => False) W1 W2 → Asg k W1 a₁ W2 → Kc a₁ W2) →
      assign.wpIn (Fence.wide.inRound (w.heap.size + 1)) 0 P (Exit.then Kc (fun _ _ _ => False)) { tmps := (ps.zip (args k)).foldl (fun t (p, v) => t.setIfInBounds p v) a.tmps, defers := [] } W1)
    (hbody : ∀ (k : Nat) (W0 W1 : World) (a₁ : Act) (W2 W3 : World), k < N → I k W0 → (∃ o, W0.heap[w.heap.size + 1]? = some (.loop o)) ∧ W0.heap[w.heap.size]? = some (.deferred (some [])) → Ext (fun b => O b ∨ b = w.heap.size + 1) W0 W3 → Asg k W1 a₁ W2 → (∀ p : Addr, p.block ≠ w.heap.size + 1 → W3.cell? p = W2.cell? p ∧ W3.frozen? p = W2.frozen? p) →
      W3.heap.size = W2.heap.size → W0.heap.size ≤ W1.heap.size → w.heap.size + 1 < W0.heap.size →
      body.wpIn (Fence.wide.inRound (w.heap.size + 1)) 0 P (roundOut I Ix K w.heap.size k W0 W1.heap.size W3) a₁ W3)
    (hdone : ∀ (W : World), I N W → W.heap[w.heap.size]? = some (.deferred (some [])) → Q .normal { a with defers := { target := .collected w.heap.size, args := #[] } :: a.defers } W)
    (hstop : ∀ (c : Code) (k : Nat) (W : World), k < N → Ix c k W → W.heap[w.heap.size]? = some (.deferred (some [])) → c.wp P Q { a with defers := { target := .collected w.heap.size, args := #[] } :: a.defers } W) :
    (Code.rangeFunc g ps assign body).wp P Q a w := by
  refine wpIn_wide (n := 0).1 ?_
  refine wpIn_rangeFunc ?_
  intro fn hfn
  obtain ⟨rec, hrec⟩ : ∃ rec : LoopState → Option Code → Loop, rec = fun st pe => { state := st, pending := pe, fn, tmps := a.tmps, params := ps, assign, body, defers := w.heap.size } := ⟨_, rfl⟩
  obtain ⟨W1, hW1⟩ : ∃ W1, (w.alloc (.deferred (some []))).alloc (.loop (rec .ready none)) = W1 := ⟨_, rfl⟩
  have hL1 : W1.heap[w.heap.size + 1]? = some (.loop (rec .ready none)) := by
    rw [← hW1]; have := World.alloc_heap_new (w.alloc (.deferred (some []))) (.loop (rec .ready none)); rwa [World.size_alloc] at this
  have hK1 : W1.heap[w.heap.size]? = some (.deferred (some [])) := by
    rw [← hW1]; exact (Below.heap_alloc _ _ _ (by simp)).trans (World.alloc_heap_new w _)
  have hE1 : Ext (fun _ => False) w W1 := by rw [← hW1]; exact ((Ext.refl _ w).alloc _).alloc _
  have hI1 : I 0 W1 := hI _ _ _ h0 (hE1.mono fun _ h => h.elim)
  have hsub : ∀ b, O b → (O b ∨ b = w.heap.size + 1) := fun b h => .inl h
  have nO : ¬ O w.heap.size := fun h => absurd (hO _ h) (by omega)
  have nO1 : ¬ O (w.heap.size + 1) := fun h => absurd (hO _ h) (by omega)
  refine ⟨w.heap.size + 1, [{ target := .collected w.heap.size, args := #[] }], W1, { target := .fn (.func gf) lb, args := #[.func (.yield (w.heap.size + 1)) #[] #[]] }, W1, gf,
    #[.func (.yield (w.heap.size + 1)) #[] #[]] ++ lb, W1, ?_, ?_, fun _ _ => trivial, ?_, fun h => absurd h (by simp [Fence.wide]), ?_⟩
  · rw [← hW1, hrec]; exact run_enterLoop_outer _ _ _ _ _
  · simp only [resolve, hg]
    simp [go_sem]
  · simp [invoke, go_sem, eg]
  · refine (hseq (w.heap.size + 1)
      (fun k W => I k W ∧ W.heap[w.heap.size + 1]? = some (.loop (rec .ready none)) ∧ W.heap[w.heap.size]? = some (.deferred (some [])))
      (fun k W => ∃ c, Ix c k W ∧ W.heap[w.heap.size + 1]? = some (.loop (rec .done (some c))) ∧ W.heap[w.heap.size]? = some (.deferred (some [])))
      W1 hE1 ?_ ?_ ?_ ⟨hI1, hL1, hK1⟩).mono ?_
    · rintro k A B ⟨hi, hl, hk⟩ he
      exact ⟨hI _ _ _ hi he, (he.block _ (Array.getElem?_eq_some_iff.1 hl).1 nO1).trans hl, (he.block _ (Array.getElem?_eq_some_iff.1 hk).1 nO).trans hk⟩
    · rintro k A B ⟨c, hi, hl, hk⟩ he
      exact ⟨c, hIx _ _ _ _ hi he, (he.block _ (Array.getElem?_eq_some_iff.1 hl).1 nO1).trans hl, (he.block _ (Array.getElem?_eq_some_iff.1 hk).1 nO).trans hk⟩
    · -- ONE ROUND
      rintro k W0 W hkN ⟨hi0, hl0, hk0⟩ he0
      have hl := (he0.block _ (Array.getElem?_eq_some_iff.1 hl0).1 nO1).trans hl0
      have hk := (he0.block _ (Array.getElem?_eq_some_iff.1 hk0).1 nO).trans hk0
      have hlt0 : w.heap.size + 1 < W0.heap.size := (Array.getElem?_eq_some_iff.1 hl0).1
      have hlt : w.heap.size + 1 < W.heap.size := (Array.getElem?_eq_some_iff.1 hl).1
      have hy := run_yield (P := P) (args := args k) hl (by rw [hrec]; exact hps k)
      rw [hrec] at hy
      refine ⟨fn, _, assign, body, hy, roundIn_of_wpIn trivial (hassign k W _ fun a₁ W2 he2 has => ?_)⟩
      have hlA := (he2.block _ hlt (fun h => h)).trans hl
      have hkA := (he2.block _ (by omega) (fun h => h)).trans hk
      refine ⟨_, run_beginRound hlA (by rw [hrec]), ?_⟩
      have hlt2 : w.heap.size + 1 < W2.heap.size := (Array.getElem?_eq_some_iff.1 hlA).1
      obtain ⟨W3, hW3⟩ : ∃ W3, W2.putObj (w.heap.size + 1) (.loop { rec .ready none with state := .busy }) = W3 := ⟨_, rfl⟩
      have hW3' : W2.putObj (w.heap.size + 1) (.loop { rec .ready none with state := .busy }) = W3 := hW3
      rw [hW3']
      have hl2 : W3.heap[w.heap.size + 1]? = some (.loop { rec .ready none with state := .busy }) := by rw [← hW3]; exact World.putObj_heap_same hlt2
      have hk2 : W3.heap[w.heap.size]? = some (.deferred (some [])) := by rw [← hW3]; exact (World.putObj_heap_other (by omega)).trans hkA
      have hE3 : Ext (fun b => O b ∨ b = w.heap.size + 1) W0 W3 := by
        rw [← hW3]
        exact ((he0.mono hsub).trans (he2.mono fun _ h => h.elim)).trans (Ext.putObj _ (.inr rfl))
      have hs3 : W3.heap.size = W2.heap.size := by rw [← hW3]; simp
      refine wpIn_mono (hbody k W0 W a₁ W2 W3 hkN hi0 ⟨⟨_, hl0⟩, hk0⟩ hE3 has (fun p hp => ?_) hs3 he0.size hlt0) ?_
      · have : W3.heap[p.block]? = W2.heap[p.block]? := by rw [← hW3]; exact World.putObj_heap_other hp
        exact ⟨World.cell?_of_block this, World.frozen?_of_block this⟩
      have fin : ∀ (jump : Option Code) (W4 : World), (∀ b, b = w.heap.size ∨ b = w.heap.size + 1 → W4.heap[b]? = W3.heap[b]?) →
          (Instr.endRound (w.heap.size + 1) jump).run P W4 = .ok (.bool jump.isNone) (W4.putObj (w.heap.size + 1) (.loop (rec (if jump.isNone then .ready else .done) jump))) ∧ (∃ o, W4.heap[w.heap.size + 1]? = some (.loop o)) ∧
          (W4.putObj (w.heap.size + 1) (.loop (rec (if jump.isNone then .ready else .done) jump))).heap[w.heap.size + 1]? = some (.loop (rec (if jump.isNone then .ready else .done) jump)) ∧
          (W4.putObj (w.heap.size + 1) (.loop (rec (if jump.isNone then .ready else .done) jump))).heap[w.heap.size]? = some (.deferred (some [])) := fun jump W4 hk3 => by
        have hl3 := (hk3 _ (.inr rfl)).trans hl2
        have := run_endRound (P := P) jump hl3
        rw [hrec] at this ⊢
        exact ⟨this, ⟨_, hl3⟩, World.putObj_heap_same (Array.getElem?_eq_some_iff.1 hl3).1, (World.putObj_heap_other (by omega)).trans ((hk3 _ (.inl rfl)).trans hk2)⟩
      rintro e a3 W4 hp
      cases e with
      | normal =>
        obtain ⟨hk3, hi3, hkeep1, hkeep2⟩ := hp
        obtain ⟨hr, ⟨_, hlo⟩, hl4, hk4⟩ := fin none W4 hk3
        refine ⟨_, _, hr, .inl ⟨rfl, ⟨hIl _ _ _ _ hi3 hlo, hl4, hk4⟩, ?_, ?_⟩⟩
        · simp only [World.putObj_size]; omega
        · intro b hb hcase
          have hne : b ≠ w.heap.size + 1 := by
            rcases hcase with h | h
            · exact fun e => absurd (hK _ h) (by omega)
            · omega
          refine (World.putObj_heap_other hne).trans ((hkeep2 b hb hcase).trans ?_)
          rw [← hW3]
          exact (World.putObj_heap_other hne).trans (he2.block b hb fun h => h)
      | ret =>
        obtain ⟨hk3, hi3⟩ := hp
        obtain ⟨hr, ⟨_, hlo⟩, hl4, hk4⟩ := fin (some .ret) W4 hk3
        exact ⟨_, _, hr, .inr ⟨rfl, .ret, hIxl _ _ _ _ _ hi3 hlo, hl4, hk4⟩⟩
      | exit id =>
        obtain ⟨hk3, hi3⟩ := hp
        obtain ⟨hr, ⟨_, hlo⟩, hl4, hk4⟩ := fin (some (.exit id)) W4 hk3
        exact ⟨_, _, hr, .inr ⟨rfl, .exit id, hIxl _ _ _ _ _ hi3 hlo, hl4, hk4⟩⟩
      | goto t =>
        obtain ⟨hk3, hi3⟩ := hp
        obtain ⟨hr, ⟨_, hlo⟩, hl4, hk4⟩ := fin (some (.goto t)) W4 hk3
        exact ⟨_, _, hr, .inr ⟨rfl, .goto t, hIxl _ _ _ _ _ hi3 hlo, hl4, hk4⟩⟩
      | panic ch => exact hp.elim
      | outgrown => exact hp.elim
    · -- BEHIND THE ITERATOR
      rintro e W2 ⟨⟨v, rfl⟩, (⟨hi, hl, hk⟩ | ⟨k, hkN, c, hi, hl, hk⟩)⟩
      · exact ⟨none, _, by have := run_endLoop (P := P) hl (by rw [hrec]; simp); rw [hrec] at this; exact this, hdone _ (hIl _ _ _ _ hi hl) ((World.putObj_heap_other (by omega)).trans hk)⟩
      · exact ⟨some c, _, by have := run_endLoop (P := P) hl (by rw [hrec]; simp); rw [hrec] at this; exact this,
          wpIn_wide.2 (hstop c k _ hkN (hIxl _ _ _ _ _ hi hl) ((World.putObj_heap_other (by omega)).trans hk))⟩
/-- a function whose body holds such a loop: the marks among its deferred calls -/
theorem calls_of_wp_marks {P : Program} {f : FuncId} {fn : Func} {c : Code} {args : Array Value} {w : World} {R : Ending → World → Prop} (hf : P.funcs[f]? = some fn) (hb : fn.body = some c)
    (h : c.wp P (bodyPostM Fence.wide 0 P fn R) { tmps := args ++ Array.replicate (fn.ntmps - args.size) undef, defers := [] } w) : Calls P f args w R :=
  callsIn_wide.1 (callsIn_of_wp_marks (n := 0) hf hb trivial (wpIn_wide.2 h))
/-- an operation that is carried out in a round as anywhere -/
theorem Oper_wpIn_round {P : Program} {o : Oper} {a : Act} {w : World} {lp : Nat} {K : Act → World → Prop} {Q : Exit → Act → World → Prop} (hnd : ∀ c, o.op ≠ .defer c) (h : o.wp P a w K Q) :
    o.wpIn (Fence.wide.inRound lp) 0 P a w K Q := by
  refine ⟨fun _ _ => trivial, ?_⟩
  rw [Oper.semAt_eq _ _ _ hnd]
  unfold Oper.wp at h
  generalize (execOp a.eval o).run P w = r at h
  have hd : ¬ ((Fence.wide.inRound lp).depth.isSome = true) := by simp [Fence.wide, Fence.inRound]
  unfold Oper.upon at h
  unfold Oper.uponIn
  split at h
  · exact h
  · exact h
  · exact h
  · exact ⟨fun hh => absurd hh hd, callsIn_wide.2 h⟩
  · refine ⟨fun hh => absurd hh hd, fun c cs _ => ?_⟩
    obtain ⟨v, w', r, s⟩ := h c cs
    exact ⟨v, w', r, stepsIn_wide.2 s⟩
  · exact h
  · exact h.elim
def noDefer (l : List Oper) : Bool := l.all fun o => match o.op with | .defer _ => false | _ => true
theorem wpAnyIn_of_quiet_round {P : Program} {md : Region.Mode} {ops : Array Oper} {C : World → Prop} {lp : Nat} {Q : Act → Prop} {Q' : Exit → Act → World → Prop} (hnd : noDefer ops.toList = true) (hQ : ∀ a w, C w → Q a → Q' .normal a w) :
    ∀ (fuel : Nat) (listed : Array Bool) (a : Act) (w : World), C w → wpAnyQ P md ops C Q fuel listed a → wpAnyIn (Fence.wide.inRound lp) 0 P md ops Q' fuel listed a w := by
  intro fuel
  induction fuel with
  | zero => exact fun listed a w hC h => ⟨h.1, hQ _ _ hC h.2⟩
  | succ fuel ih =>
    intro listed a w hC h
    refine ⟨fun hr => hQ _ _ hC (h.1 hr), fun i hi => ?_⟩
    have hq := h.2 i hi
    unfold qOp at hq
    unfold wpOpIn
    cases ho : ops[i]? with
    | none => rw [ho] at hq; exact ih _ _ _ hC hq
    | some o =>
      rw [ho] at hq
      simp only at hq ⊢
      have hno : ∀ c, o.op ≠ .defer c := by
        intro c hc
        have hm : o ∈ ops.toList := by
          have := Array.getElem?_eq_some_iff.1 ho
          obtain ⟨hlt, rfl⟩ := this
          exact Array.getElem_mem_toList hlt
        have := List.all_eq_true.1 hnd o hm
        rw [hc] at this
        simp at this
      by_cases hw : Region.wanted o (yielded ops a.tmps) = true
      · rw [if_pos hw] at hq ⊢
        exact Oper_wpIn_round hno (Oper.wp_of_quiet (Q' := Q') hC (fun a' w' hC' hK => ih _ _ _ hC' hK) hq)
      · rw [if_neg hw] at hq ⊢
        exact ⟨fun _ _ => trivial, ih _ _ _ hC hq⟩
theorem wpIn_region_quiet_round {P : Program} {id : Nat} {lp : Nat} {Q : Exit → Act → World → Prop} {a : Act} {w : World} {l : List Oper} (hnd : noDefer l = true) (hm : P.follows .mixedOrders = true) (hB : Region.lexB .any l.toArray = true)
    (h : wpQuiet P l.toArray (fun w' => ∃ n, w' = w.drewN n) (fun a' => ∀ w', (∃ n, w' = w.drewN n) → Q .normal a' w') l a) : (Code.region id l.toArray true).wpIn (Fence.wide.inRound lp) 0 P Q a w := by
  simp only [Region.lexB, Bool.and_eq_true] at hB
  refine wpIn_region_any hm (wpAnyIn_of_quiet_round (C := fun w' => ∃ n, w' = w.drewN n) (Q := fun a' => ∀ w', (∃ n, w' = w.drewN n) → Q .normal a' w') (by simpa using hnd) (fun _ w' hw' h => h w' hw') _ _ _ _ ⟨1, rfl⟩ ?_)
  have := wpAnyQ_lex (P := P) (C := fun w' => ∃ n, w' = w.drewN n) (Q := fun a' => ∀ w', (∃ n, w' = w.drewN n) → Q .normal a' w') (md := .any) hB.1 l 0 (Array.replicate l.toArray.size false) a (by simp) (by simpa using hB.2) h
  simpa using this
end Go.Proofs.Ytjdkdogiaokhjaa
