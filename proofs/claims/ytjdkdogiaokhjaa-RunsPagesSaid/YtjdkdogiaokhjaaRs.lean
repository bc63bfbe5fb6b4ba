/- Runs: Unpack. -/
import Derived.Test.YtjdkdogiaokhjaaRr
namespace Go.Proofs.Ytjdkdogiaokhjaa
open Go.RowKit Go.Proofs
set_option linter.unusedSimpArgs false
set_option linter.unusedVariables false

/-- a number of h bytes as two's complement -/
def sgn (h : Nat) (d : Int) : Int := if 2 ^ (8 * h - 1) ≤ d then d - 2 ^ (8 * h) else d
def unp : Nat → List Int → Int → List R → Option (List R × List Int)
  | 0, _, _, _ => none
  | _ + 1, [], _, _ => none
  | f + 1, x :: bs, last, out =>
    if x = 0 then some (out, bs)
    else if ¬ (1 ≤ x % 16 ∧ x % 16 ≤ 4 ∧ x / 16 ≤ 5 ∧ out.length < 2000) then none
    else if bs.length < (x % 16).toNat then none
    else if x / 16 = 0 then unp f (bs.drop (x % 16).toNat) last (out ++ [(-1, le256 (bs.take (x % 16).toNat))])
    else if (bs.drop (x % 16).toNat).length < (x / 16).toNat then none
    else if last + sgn (x / 16).toNat (le256 ((bs.drop (x % 16).toNat).take (x / 16).toNat)) < 0 then none
    else unp f ((bs.drop (x % 16).toNat).drop (x / 16).toNat) (last + sgn (x / 16).toNat (le256 ((bs.drop (x % 16).toNat).take (x / 16).toNat)))
      (out ++ [(last + sgn (x / 16).toNat (le256 ((bs.drop (x % 16).toNat).take (x / 16).toNat)), le256 (bs.take (x % 16).toNat))])
def unpackR (bs : List Int) : Int × List R × Int :=
  match unp (bs.length + 1) bs 0 [] with
  | none => (4, [], 0)
  | some (out, rest) =>
    if mustE out ≠ 0 ∨ norm out ≠ out then (4, [], 0)
    else if (packGo bs.length [] 0 0 out).1 ≠ bs.take (bs.length - rest.length) then (4, [], 0)
    else (0, out, (packGo bs.length [] 0 0 out).1.length)
def UnpPost (w : World) (r : Int × List R × Int) (e : Ending) (w' : World) : Prop := ∃ v, e = .returned (.tuple #[v, .int .i64 r.2.2, .int .i64 r.1]) ∧ OwnR w' w.heap.size v r.2.1 ∧ Below w.heap.size w w'
theorem RdB.take {w : World} {A : Option Addr} {bs : List Int} (h : RdB w A bs) (k : Nat) : RdB w A (bs.take k) := fun hn => by
  obtain ⟨b, o, e, hh⟩ := h (fun e => hn (by simp [e]))
  refine ⟨b, o, e, fun i hi => ?_⟩
  have := hh i (by simp at hi; omega)
  simpa using this
theorem RdB.of_own {w : World} {base : Nat} {v : Value} {bs : List Int} (h : OwnB w base v bs) (hb : ∀ x ∈ bs, 0 ≤ x ∧ x < 256) : RdB w (match v with | .slice A _ _ => A | _ => none) bs := fun hn => by
  rcases h.2 with ⟨_, h0⟩ | ⟨g, cap, cur, rfl, _⟩
  · exact absurd (List.length_eq_zero_iff.1 h0) hn
  · refine ⟨g, 0, rfl, fun i hi => ?_⟩
    have := h.cells (g := g) rfl i (.int .u8 bs[i]) (by simp [bv])
    rw [show (⟨g, 0, none⟩ : Addr).add i = ⟨g, 0 + i, none⟩ by unfold Addr.add; split <;> simp_all] at this
    exact ⟨this, hb _ (List.getElem_mem hi)⟩
theorem lowB_bytes (n : Int) (k : Nat) : ∀ x ∈ lowB n k, 0 ≤ x ∧ x < 256 := by
  induction k generalizing n with
  | zero => simp [lowB]
  | succ k ih =>
    intro x hx
    simp only [lowB, List.mem_cons] at hx
    rcases hx with rfl | hx
    · omega
    · exact ih _ x hx
theorem packR_bytes (r : R) (last : Int) : ∀ x ∈ packR r last, 0 ≤ x ∧ x < 256 := by
  intro x hx
  simp only [packR, List.mem_cons, List.mem_append] at hx
  have := hR_bd r last
  have := uW_bd r.2
  rcases hx with rfl | hx | hx
  · omega
  · exact lowB_bytes _ _ x hx
  · exact lowB_bytes _ _ x hx
theorem packGo_bytes (most : Int) (bs : List Int) (n last : Int) (l : List R) (hb : ∀ x ∈ bs, 0 ≤ x ∧ x < 256) : ∀ x ∈ (packGo most bs n last l).1, 0 ≤ x ∧ x < 256 := by
  induction l generalizing bs n last with
  | nil =>
    intro x hx
    simp only [packGo, List.mem_append, List.mem_singleton] at hx
    rcases hx with hx | rfl
    · exact hb x hx
    · omega
  | cons r l ih =>
    simp only [packGo]
    split
    · intro x hx
      simp only [List.mem_append, List.mem_singleton] at hx
      rcases hx with hx | rfl
      · exact hb x hx
      · omega
    · refine ih _ _ _ fun x hx => ?_
      rcases List.mem_append.1 hx with hx | hx
      · exact hb x hx
      · exact packR_bytes r last x hx
theorem packGo_len' (most : Int) (bs : List Int) (n last : Int) (l : List R) : (packGo most bs n last l).1.length ≤ bs.length + 15 * l.length + 1 := by
  induction l generalizing bs n last with
  | nil => simp [packGo]
  | cons r l ih =>
    simp only [packGo]
    split
    · simp
    · have := ih (bs ++ packR r last) (n + r.2) (if r.1 = -1 then last else r.1)
      have := packR_len (r := r) last
      simp only [List.length_append, List.length_cons] at *
      omega
theorem packGo_len {most : Int} {n last : Int} (l : List R) (h : l.length ≤ 2000) : (packGo most [] n last l).1.length ≤ 1048576 := by
  have := packGo_len' most [] n last l
  simp at this
  omega
theorem RdB.belowN {n : Nat} {W W' : World} {A : Option Addr} {bs : List Int} (h : RdB W A bs) (hb : Below n W W') (hin : bs ≠ [] → ∀ b o, A = some ⟨b, o, none⟩ → b < n) : RdB W' A bs := fun hn => by
  obtain ⟨b, o, rfl, hh⟩ := h hn
  exact ⟨b, o, rfl, fun i hi => ⟨(hb.cell (hin hn b o rfl)).trans (hh i hi).1, (hh i hi).2⟩⟩
theorem pow_facts (h : Nat) (h1 : 1 ≤ h) (h5 : h ≤ 5) : ∃ P1 P2 : Int, wrap64 ((2 : Int) ^ (8 * h - 1)) = P1 ∧ wrap64 ((2 : Int) ^ (8 * h)) = P2 ∧ 1 ≤ P1 ∧ P1 ≤ 549755813888 ∧ P2 ≤ 2 * P1 ∧ 2 * P1 ≤ P2 ∧ (256 : Int) ^ h = P2 ∧ ∀ d, sgn h d = if P1 ≤ d then d - P2 else d := by
  have hh : h = 1 ∨ h = 2 ∨ h = 3 ∨ h = 4 ∨ h = 5 := by omega
  rcases hh with rfl | rfl | rfl | rfl | rfl
  · exact ⟨128, 256, by unfold wrap64; decide, by unfold wrap64; decide, by decide, by decide, by decide, by decide, by decide, fun d => rfl⟩
  · exact ⟨32768, 65536, by unfold wrap64; decide, by unfold wrap64; decide, by decide, by decide, by decide, by decide, by decide, fun d => rfl⟩
  · exact ⟨8388608, 16777216, by unfold wrap64; decide, by unfold wrap64; decide, by decide, by decide, by decide, by decide, by decide, fun d => rfl⟩
  · exact ⟨2147483648, 4294967296, by unfold wrap64; decide, by unfold wrap64; decide, by decide, by decide, by decide, by decide, by decide, fun d => rfl⟩
  · exact ⟨549755813888, 1099511627776, by unfold wrap64; decide, by unfold wrap64; decide, by decide, by decide, by decide, by decide, by decide, fun d => rfl⟩
/-- the state of the loop of 'Unpack' -/
structure US (w : World) (bs : List Int) (W : World) (A : Option Addr) (c : Nat) (rest : List Int) (last : Int) (v : Value) (out : List R) : Prop where
  es : ES w W
  rd : RdB W A rest
  blk : rest ≠ [] → ∀ b o, A = some ⟨b, o, none⟩ → b < w.heap.size
  cap : rest.length ≤ c
  len : rest.length ≤ bs.length
  own : OwnR W w.heap.size v out
  many : out.length ≤ 2000
  last0 : 0 ≤ last
  last1 : last ≤ 549755813888 * out.length
  nums : ∀ r ∈ out, -1 ≤ r.1 ∧ 0 ≤ r.2
  run : ∃ f, rest.length < f ∧ unp (bs.length + 1) bs 0 [] = unp f rest last out
theorem ownR_snoc {w : World} {base : Nat} {v : Value} {l : List R} {a b : Int} (h : w.ownsRow base 53 2 v (l.length + 1) (rv l ++ [.int .i64 a, .int .i64 b])) : OwnR w base v (l ++ [(a, b)]) := by
  have e : (l ++ [(a, b)]).length = l.length + 1 := by simp
  have e2 : rv (l ++ [(a, b)]) = rv l ++ [.int .i64 a, .int .i64 b] := by simp [rv]
  show w.ownsRow base 53 2 v _ _
  rw [e, e2]
  exact h
theorem ES.grown {w0 W W' : World} {v : Value} {n : Nat} {xs : List Value} (h : ES w0 W) (ho : W.ownsRow w0.heap.size 53 2 v n xs) (hg : W.grownBy W' v.ownBlock) : ES w0 W' :=
  ⟨h.below.trans (below_grown hg ho h.below.size), h.box.kept hg (h.box.not_row (by decide) ho)⟩
def sliceLen : Value → Nat
  | .slice _ n _ => n
  | _ => 0
set_option maxRecDepth 100000 in
set_option maxHeartbeats 4000000 in
theorem Unpack_any (A : Option Addr) (bs : List Int) (c : Nat) (w : World) (hR : RdB w A bs) (hl : bs.length ≤ 100000) (hc : bs.length ≤ c) :
    Calls Try.prog 27 #[.slice A bs.length c] w (UnpPost w (unpackR bs)) := by
  obtain ⟨i0, hi, hz0, hz1, hz2⟩ := info_parts Try.info_run
  have HRW := Lib.hid hR
  have hs0 := ES.start w
  have hbad : unp (bs.length + 1) bs 0 [] = none → unpackR bs = (4, [], 0) := fun h => by unfold unpackR; rw [h]
  go_enter_defers Try.func27, Try.ntmps27
  go_wp2_with fail
  go_loopw [5, 6, 7] (fun s la o wr => ∃ (rest : List Int) (last : Int) (out : List R) (A' : Option Addr) (c' : Nat), s = .slice A' rest.length c' ∧ la = .int .i64 last ∧ US w bs wr A' c' rest last o out) (fun s _ _ _ => sliceLen s)
  case atStart => exact ⟨bs, 0, [], A, c, rfl, rfl, hs0, hR.below (below_alloc1 _ _), fun hn b o e => by obtain ⟨b', o', e', hh⟩ := hR hn; rw [e] at e'; cases e'; exact World.block_lt_of_cell? w _ (hh 0 (List.length_pos_iff.2 hn)).1, hc, Nat.le_refl _, World.ownsRow_nil _ _ _ _, by simp, by omega, by simp, by simp, bs.length + 1, by omega, rfl⟩
  case round =>
    obtain ⟨rest, last, out, A', c', rfl, rfl, hU⟩ := hrel
    clear hs0 hR
    obtain ⟨AO, cO, rfl, hcO, hcmO, hRO⟩ := own_form hU.own
    by_cases hr0 : rest.length < 1
    · have HT := Lib.hid (fun w => take_no A' rest c' 1 w (by omega))
      have hun : unp (bs.length + 1) bs 0 [] = none := by
        obtain ⟨f, hf, h⟩ := hU.run
        rw [h]
        obtain ⟨f', rfl⟩ : ∃ f', f = f' + 1 := ⟨f - 1, by omega⟩
        have : rest = [] := List.length_eq_zero_iff.1 (by omega)
        rw [this]; rfl
      have HB := Lib.hid (hbad hun)
      have hcell := hU.es.box.cell
      have hfz := hU.es.box.frozen
      clear hbad hun
      go_wp2_with (first | (go_at_call 62; (with_reducible refine (HT.out _).mono ?_); rintro e w1 ⟨rfl, rfl⟩))
      refine door_fault hcell hfz (v := .tuple #[.slice none 0 0, .int .i64 0, .int .i64 4]) ?_ ?_
      · simp [results, Try.results27, go_sem, (hU.es.box.set _).cell]
      · rw [UnpPost, HB.out]; exact ⟨_, rfl, own_nil' _ _, hU.es.fin _⟩
    · obtain ⟨x, bs1, hrest⟩ : ∃ x bs1, rest = x :: bs1 := by
        rcases rest with _ | ⟨x, bs1⟩
        · simp at hr0
        · exact ⟨x, bs1, rfl⟩
      obtain ⟨hx0, hx1⟩ := hU.rd.bytes x (by rw [hrest]; simp)
      have hT := take_ok A' rest c' 1 wr hU.rd (by omega) (by omega) (by omega) (by have := hU.len; omega) hU.cap
      have ht1 : le256 (rest.take 1) = x := by rw [hrest]; simp [le256]
      have hd1 : rest.drop 1 = bs1 := by rw [hrest]; rfl
      unfold TakePost at hT
      rw [ht1, hd1] at hT
      have hlr : rest.length = bs1.length + 1 := by rw [hrest]; rfl
      have HR := Lib.hid hrest
      have HLR := Lib.hid hlr
      have HBAD := Lib.hid hbad
      clear ht1 hd1 hrest hlr hr0 hbad
      go_wp2_with fail
      refine hT.mono ?_
      rintro e w1 ⟨A1, c1, rfl, hR1, hcc1, hB1, hA1⟩
      have hes1 := hU.es.next hB1
      have hown1 := own_below hU.own hB1
      have hblk1 : bs1 ≠ [] → ∀ b o, A1 = some ⟨b, o, none⟩ → b < w.heap.size := fun hn b o e => by
        obtain ⟨o', e'⟩ := hA1 b o e
        exact hU.blk (by rw [HR.out]; simp) b o' e'
      have hlen1 : bs1.length < bs.length := by have := hU.len; have := HLR.out; omega
      obtain ⟨f, hf, hrun⟩ : ∃ f, bs1.length < f ∧ unp (bs.length + 1) bs 0 [] = unp (f + 1) (x :: bs1) last out := by
        obtain ⟨f, hf, h⟩ := hU.run
        rw [HLR.out] at hf
        exact ⟨f - 1, by omega, by rw [h, HR.out, show f - 1 + 1 = f by omega]⟩
      have hmany := hU.many
      have hla0 := hU.last0
      have hla1 := hU.last1
      have hnums := Lib.hid hU.nums
      clear hT hA1
      by_cases hxz : x = 0
      · subst hxz
        have hrun2 : unp (bs.length + 1) bs 0 [] = some (out, bs1) := by rw [hrun]; rfl
        have HUN := Lib.hid (show unpackR bs = (if mustE out ≠ 0 ∨ norm out ≠ out then ((4 : Int), [], (0 : Int)) else if (packGo bs.length [] 0 0 out).1 ≠ bs.take (bs.length - bs1.length) then (4, [], 0) else (0, out, (packGo bs.length [] 0 0 out).1.length)) by unfold unpackR; rw [hrun2])
        clear hrun hrun2
        obtain ⟨AO', cO', eO, hcO', hcmO', hRO1⟩ := own_form hown1
        simp only [Value.slice.injEq] at eO
        obtain ⟨rfl, _, rfl⟩ := eO
        have hol : out.length ≤ 1048576 := by omega
        have HV := Valid_any AO out cO w1 hRO1 hol
        clear hU hRO
        go_wp2_with fail
        refine HV.mono ?_
        rintro e w2 ⟨rfl, hB2⟩
        have hes2 := hes1.next hB2
        have hown2 := own_below hown1 hB2
        have hRO2 := hRO1.below hB2
        clear HV hB2 hRO1
        by_cases hv : mustE out = 0
        · have hvd : (mustE out == 0) = true := by simp [hv]
          have hJ := joined_one AO out cO w2 hRO2 hol (mild_of_must hv)
          have HMV := Lib.hid hv
          rw [hv]
          clear hv hvd
          go_wp2_with fail
          refine hJ.mono ?_
          rintro e w3 ⟨vj, rfl, hoj, hB3⟩
          obtain ⟨AJ, cJ, rfl, _, _, hRJ⟩ := own_form hoj
          have hes3 := hes2.next hB3
          have hown3 := own_below hown2 hB3
          have hRO3 := hRO2.below hB3
          have hnl : (norm out).length ≤ 1048576 := Nat.le_trans (norm_len out) hol
          have hE := equalR_any AJ AO (norm out) out cJ cO w3 hRJ hRO3 hnl hol
          clear hJ hB3 hoj hRJ hRO2 hes2 hown2
          go_wp2_with fail
          refine hE.mono ?_
          rintro e w4 ⟨rfl, hB4⟩
          have hes4 := hes3.next hB4
          have hown4 := own_below hown3 hB4
          have hRO4 := hRO3.below hB4
          clear hE hB4 hRO3 hes3 hown3
          by_cases hne : norm out = out
          · have HNE := Lib.hid hne
            have hdn : decide (norm out = out) = true := by simpa using hne
            have hpre := pack_pre HMV.out
            rw [hne] at hpre

            have hP := packed_any AO out cO bs.length w4 hRO4 hpre.1 hpre.2.1 hpre.2.2
            clear hne hpre
            go_wp2_with (first | (go_at_call 55; (with_reducible refine need_rule _ _ ?_ ?_) <;> intro hq <;> (first | (cases hq; done) | skip) <;> (try simp only [decide_eq_true_eq, decide_eq_false_iff_not, Bool.or_eq_true, Bool.or_eq_false_iff, Bool.and_eq_true, Bool.and_eq_false_iff, beq_iff_eq, beq_eq_false_iff_ne, ne_eq, bne_iff_ne, Bool.not_eq_true, Int.not_le, Int.not_lt] at hq) <;> go_prune))
            refine hP.mono ?_
            rintro e w5 ⟨vb, rfl, hob, hB5⟩
            have hes5 := hes4.next hB5
            have hown5 := own_below hown4 hB5
            have hbb := packGo_bytes bs.length [] 0 0 out (by simp)
            obtain ⟨pb, hpb⟩ : ∃ pb, packGo bs.length [] 0 0 out = pb := ⟨_, rfl⟩
            rw [hpb] at hob hbb HUN ⊢
            have hrb := RdB.of_own hob hbb
            obtain ⟨AB, cB, rfl, hcB, hcmB⟩ := ownB_form hob
            have hpl : pb.1.length ≤ 1048576 := by rw [← hpb]; exact packGo_len out hmany
            have hsub := (HRW.out.below (hes5.below.mono (Nat.le_refl _))).take (bs.length - bs1.length)
            have htl : (bs.take (bs.length - bs1.length)).length = bs.length - bs1.length := by simp
            have hE2 := equalB_any AB A pb.1 (bs.take (bs.length - bs1.length)) cB c w5 hrb hsub hpl (by rw [htl]; omega)
            rw [htl] at hE2
            have hsl : (0 : Int) ≤ (bs.length : Int) - bs1.length := by omega
            have hsl2 : ((bs.length : Int) - bs1.length) = ((bs.length - bs1.length : Nat) : Int) := by omega
            clear hP hB5 hob hbb hrb hsub hes4 hown4 hRO4 hpb
            go_wp2_with fail
            refine hE2.mono ?_
            rintro e w6 ⟨rfl, hB6⟩
            have hes6 := hes5.next hB6
            have hown6 := own_below hown5 hB6
            clear hE2 hB6
            by_cases heq : pb.1 = bs.take (bs.length - bs1.length)
            · have hdq : decide (pb.1 = bs.take (bs.length - bs1.length)) = true := by simpa using heq
              have HF := Lib.hid (show unpackR bs = (0, out, (pb.1.length : Int)) by rw [HUN.out, if_neg (by rw [HMV.out, HNE.out]; simp), if_neg (fun h => h heq)])
              have hc6 := hes6.box.cell
              have hz6 := hes6.box.frozen
              clear heq
              go_wp2_with (first | (go_at_call 55; (with_reducible refine need_rule _ _ ?_ ?_) <;> intro hq <;> (first | (cases hq; done) | skip) <;> (try simp only [decide_eq_true_eq, decide_eq_false_iff_not, Bool.or_eq_true, Bool.or_eq_false_iff, Bool.and_eq_true, Bool.and_eq_false_iff, beq_iff_eq, beq_eq_false_iff_ne, ne_eq, bne_iff_ne, Bool.not_eq_true, Int.not_le, Int.not_lt] at hq) <;> go_prune))
              refine door_ok (v := .tuple #[.slice AO out.length cO, .int .i64 pb.1.length, .int .i64 0]) ?_ ?_
              · simp [results, Try.results27, go_sem, (hes6.box.set _).cell]
              · rw [UnpPost, HF.out]; exact ⟨_, rfl, own_setBox hown6 hes6.box, hes6.fin _⟩
            · have hdq : decide (pb.1 = bs.take (bs.length - bs1.length)) = false := by simpa using heq
              have HB := Lib.hid (show unpackR bs = (4, [], 0) by rw [HUN.out, if_neg (by rw [HMV.out, HNE.out]; simp), if_pos heq])
              clear heq
              go_wp2_with (first | (go_at_call 55; (with_reducible refine need_rule _ _ ?_ ?_) <;> intro hq <;> (first | (cases hq; done) | skip) <;> (try simp only [decide_eq_true_eq, decide_eq_false_iff_not, Bool.or_eq_true, Bool.or_eq_false_iff, Bool.and_eq_true, Bool.and_eq_false_iff, beq_iff_eq, beq_eq_false_iff_ne, ne_eq, bne_iff_ne, Bool.not_eq_true, Int.not_le, Int.not_lt] at hq) <;> go_prune))
              refine door_fault hes6.box.cell hes6.box.frozen (v := .tuple #[.slice none 0 0, .int .i64 0, .int .i64 4]) ?_ ?_
              · simp [results, Try.results27, go_sem, (hes6.box.set _).cell]
              · rw [UnpPost, HB.out]; exact ⟨_, rfl, own_nil' _ _, hes6.fin _⟩
          · have hdn : decide (norm out = out) = false := by simpa using hne
            have HB := Lib.hid (show unpackR bs = (4, [], 0) by rw [HUN.out, if_pos (.inr hne)])
            clear hne
            go_wp2_with (first | (go_at_call 55; (with_reducible refine need_rule _ _ ?_ ?_) <;> intro hq <;> (first | (cases hq; done) | skip) <;> (try simp only [decide_eq_true_eq, decide_eq_false_iff_not, Bool.or_eq_true, Bool.or_eq_false_iff, Bool.and_eq_true, Bool.and_eq_false_iff, beq_iff_eq, beq_eq_false_iff_ne, ne_eq, bne_iff_ne, Bool.not_eq_true, Int.not_le, Int.not_lt] at hq) <;> go_prune))
            refine door_fault hes4.box.cell hes4.box.frozen (v := .tuple #[.slice none 0 0, .int .i64 0, .int .i64 4]) ?_ ?_
            · simp [results, Try.results27, go_sem, (hes4.box.set _).cell]
            · rw [UnpPost, HB.out]; exact ⟨_, rfl, own_nil' _ _, hes4.fin _⟩
        · have hvd : (mustE out == 0) = false := by simpa using hv
          have HB := Lib.hid (show unpackR bs = (4, [], 0) by rw [HUN.out, if_pos (.inl hv)])
          clear hv
          go_wp2_with (first | (go_at_call 55; (with_reducible refine need_rule _ _ ?_ ?_) <;> intro hq <;> (first | (cases hq; done) | skip) <;> (try simp only [decide_eq_true_eq, decide_eq_false_iff_not, Bool.or_eq_true, Bool.or_eq_false_iff, Bool.and_eq_true, Bool.and_eq_false_iff, beq_iff_eq, beq_eq_false_iff_ne, ne_eq, bne_iff_ne, Bool.not_eq_true, Int.not_le, Int.not_lt] at hq) <;> go_prune))
          refine door_fault hes2.box.cell hes2.box.frozen (v := .tuple #[.slice none 0 0, .int .i64 0, .int .i64 4]) ?_ ?_
          · simp [results, Try.results27, go_sem, (hes2.box.set _).cell]
          · rw [UnpPost, HB.out]; exact ⟨_, rfl, own_nil' _ _, hes2.fin _⟩
      · obtain ⟨wN, hwN⟩ : ∃ n : Nat, x % 16 = n := ⟨(x % 16).toNat, by omega⟩
        obtain ⟨hN, hhN⟩ : ∃ n : Nat, x / 16 = n := ⟨(x / 16).toNat, by omega⟩
        simp only [unp, if_neg hxz, hwN, hhN, Int.toNat_natCast] at hrun
        by_cases hgood : 1 ≤ (wN : Int) ∧ (wN : Int) ≤ 4 ∧ (hN : Int) ≤ 5 ∧ out.length < 2000
        · rw [if_neg (fun h => h hgood)] at hrun
          obtain ⟨g1, g2, g3, g4⟩ := hgood
          by_cases hw : bs1.length < wN
          · rw [if_pos hw] at hrun
            have HB := Lib.hid (HBAD.out hrun)
            have hs2 := hes1.alloc (.cells #[.int .i64 (-1), .int .i64 0] 53)
            have HT := Lib.hid (fun w => take_no A1 bs1 c1 wN w (by omega))
            clear hrun
            go_wp2_with (first | (go_at_call 55; (with_reducible refine need_rule _ _ ?_ ?_) <;> intro hq <;> (first | (cases hq; done) | skip) <;> (try simp only [decide_eq_true_eq, decide_eq_false_iff_not, Bool.or_eq_true, Bool.or_eq_false_iff, Bool.and_eq_true, Bool.and_eq_false_iff, beq_iff_eq, beq_eq_false_iff_ne, ne_eq, bne_iff_ne, Bool.not_eq_true, Int.not_le, Int.not_lt] at hq) <;> go_prune) | (go_at_call 62; (with_reducible refine (HT.out _).mono ?_); rintro e w1 ⟨rfl, rfl⟩))
            refine door_fault hs2.box.cell hs2.box.frozen (v := .tuple #[.slice none 0 0, .int .i64 0, .int .i64 4]) ?_ ?_
            · simp [results, Try.results27, go_sem, (hs2.box.set _).cell]
            · rw [UnpPost, HB.out]; exact ⟨_, rfl, own_nil' _ _, hs2.fin _⟩
          · rw [if_neg hw] at hrun
            have hT2 := take_ok A1 bs1 c1 wN (w1.alloc (.cells #[.int .i64 (-1), .int .i64 0] 53)) (hR1.below (below_alloc1 _ _)) (by omega) (by omega) (by omega) (by omega) hcc1
            unfold TakePost at hT2
            have hbm := le256_bd (l := bs1.take wN) (fun y hy => hR1.bytes y (List.mem_of_mem_take hy))
            have hml : (bs1.take wN).length = wN := by simp; omega
            rw [hml] at hbm
            obtain ⟨m, hm⟩ : ∃ m, le256 (bs1.take wN) = m := ⟨_, rfl⟩
            obtain ⟨bs2, hbs2⟩ : ∃ bs2, bs1.drop wN = bs2 := ⟨_, rfl⟩
            rw [hm] at hbm
            rw [hm, hbs2] at hT2 hrun
            have HRUN := Lib.hid hrun
            clear hml hrun
            go_wp2_with (first | (go_at_call 55; (with_reducible refine need_rule _ _ ?_ ?_) <;> intro hq <;> (first | (cases hq; done) | skip) <;> (try simp only [decide_eq_true_eq, decide_eq_false_iff_not, Bool.or_eq_true, Bool.or_eq_false_iff, Bool.and_eq_true, Bool.and_eq_false_iff, beq_iff_eq, beq_eq_false_iff_ne, ne_eq, bne_iff_ne, Bool.not_eq_true, Int.not_le, Int.not_lt] at hq) <;> go_prune))
            refine hT2.mono ?_
            rintro e w2 ⟨A2, c2, rfl, hR2, hcc2, hB2, hA2⟩
            have e2 := hB2.block w1.heap.size (by simp)
            have k0 : w2.cell? ⟨w1.heap.size, 0, none⟩ = some (.int .i64 (-1)) := by rw [World.cell?_of_block e2]; simp [go_sem]
            have k1 : w2.cell? ⟨w1.heap.size, 1, none⟩ = some (.int .i64 0) := by rw [World.cell?_of_block e2]; simp [go_sem]
            have z0 : w2.frozen? ⟨w1.heap.size, 0, none⟩ = false := by rw [World.frozen?_of_block e2]; simp [go_sem]
            have z1 : w2.frozen? ⟨w1.heap.size, 1, none⟩ = false := by rw [World.frozen?_of_block e2]; simp [go_sem]
            have hB12 : Below w1.heap.size w1 w2 := (below_alloc1 w1 _).trans (hB2.mono (by simp))
            have hblk2 : bs2 ≠ [] → ∀ b o, A2 = some ⟨b, o, none⟩ → b < w.heap.size := fun hn b o e => by
              obtain ⟨o', e'⟩ := hA2 b o e
              exact hblk1 (by rw [← hbs2] at hn; intro h; rw [h] at hn; simp at hn) b o' e'
            have hlen2 : bs2.length < bs1.length := by rw [← hbs2]; simp; omega
            have hw1s : w.heap.size < w1.heap.size := hes1.box.lt
            clear hT2 hA2 hR1
            by_cases hh0 : hN = 0
            · subst hh0
              have hB15 : Below w1.heap.size w1 (w2.setCell ⟨w1.heap.size, 1, none⟩ (.int .i64 m)) := hB12.setCell (Nat.le_refl _) _
              have hB25 : Below w.heap.size w2 (w2.setCell ⟨w1.heap.size, 1, none⟩ (.int .i64 m)) := (Below.refl _ _).setCell (by show w.heap.size ≤ w1.heap.size; omega) _
              have ownW := own_below hown1 hB15
              have esW := hes1.next hB15
              have hszW : (w2.setCell ⟨w1.heap.size, 1, none⟩ (.int .i64 m)).heap.size = w2.heap.size := World.size_setCell _ _ _
              have HW : Hid (((w2.setCell ⟨w1.heap.size, 1, none⟩ (.int .i64 m)).alloc (.cells #[.int .i64 (-1), .int .i64 m] 53)).ownsRow w.heap.size 53 2 (.slice AO out.length cO) out.length (rv out)) := Lib.hid (ownW.alloc _)
              have HN := cells_new (w2.setCell ⟨w1.heap.size, 1, none⟩ (.int .i64 m)) [.int .i64 (-1), .int .i64 m] 53
              rw [hszW] at HN
              have HNN := Lib.hid HN
              have HO := Lib.hid (one_int .i64 [-1, m])
              have HES := Lib.hid (esW.alloc (.cells #[.int .i64 (-1), .int .i64 m] 53))
              have HRD : Hid (∀ w', Below w.heap.size (w2.setCell ⟨w1.heap.size, 1, none⟩ (.int .i64 m)) w' → RdB w' A2 bs2) := Lib.hid (fun w' hb => (hR2.belowN hB25 hblk2).belowN hb hblk2)
              have hbW : w.heap.size ≤ ((w2.setCell ⟨w1.heap.size, 1, none⟩ (.int .i64 m)).alloc (.cells #[.int .i64 (-1), .int .i64 m] 53)).heap.size := HES.out.below.size
              have HB5 := Lib.hid esW.below.size
              clear HN ownW esW hB15 hB25 hR2 hes1 hown1 hB1 hB2 hB12 e2 hU hRO
              go_wp2_with (at_builtin; refine wpList_append_own _ rfl _ _ 22 rfl w.heap.size 53 i0 (.agg #[.int .i64 0, .int .i64 0]) 2 16 Try.underlying22 hi hz0 hz1 hz2 rfl (by decide) _ _ _ rfl HW.out ⟨w2.heap.size, 0, none⟩ 1 1 [.int .i64 (-1), .int .i64 m] rfl rfl HNN.out HO.out (by unfold maxLen; omega) (by omega) hbW ?_; intro v1 w6 hown6 hgrow _)
              have hgB := below_grown hgrow HW.out hbW
              refine ⟨⟨bs2, last, out ++ [(-1, m)], A2, c2, rfl, rfl, HES.out.grown HW.out hgrow, HRD.out _ ((below_alloc1 _ _).mono HB5.out |>.trans hgB), hblk2, hcc2, by omega, ownR_snoc hown6, by simp; omega, hla0, by simp; omega, ?_, f, by omega, ?_⟩, ?_⟩
              · intro r hr
                rcases List.mem_append.1 hr with hr | hr
                · exact hnums.out r hr
                · simp at hr; subst hr; simp; omega
              · rw [HRUN.out]; simp
              · simp only [sliceLen]; have := HLR.out; omega
            · have hB15 : Below w1.heap.size w1 (w2.setCell ⟨w1.heap.size, 1, none⟩ (.int .i64 m)) := hB12.setCell (Nat.le_refl _) _
              have hB25 : Below w.heap.size w2 (w2.setCell ⟨w1.heap.size, 1, none⟩ (.int .i64 m)) := (Below.refl _ _).setCell (by show w.heap.size ≤ w1.heap.size; omega) _
              have hrn := HRUN.out
              rw [if_neg (by omega)] at hrn
              have hh1 : (0 : Int) < hN := by omega
              by_cases hw3 : bs2.length < hN
              · rw [if_pos hw3] at hrn
                have HB := Lib.hid (HBAD.out hrn)
                have hs2 := hes1.next hB15
                have HT := Lib.hid (fun w => take_no A2 bs2 c2 hN w (by omega))
                clear hrn HRUN
                go_wp2_with (first | (go_at_call 62; (with_reducible refine (HT.out _).mono ?_); rintro e w1 ⟨rfl, rfl⟩))
                refine door_fault hs2.box.cell hs2.box.frozen (v := .tuple #[.slice none 0 0, .int .i64 0, .int .i64 4]) ?_ ?_
                · simp [results, Try.results27, go_sem, (hs2.box.set _).cell]
                · rw [UnpPost, HB.out]; exact ⟨_, rfl, own_nil' _ _, hs2.fin _⟩
              · rw [if_neg hw3] at hrn
                have hT3 := take_ok A2 bs2 c2 hN (w2.setCell ⟨w1.heap.size, 1, none⟩ (.int .i64 m)) (hR2.belowN hB25 hblk2) (by omega) (by omega) (by omega) (by omega) hcc2
                unfold TakePost at hT3
                have hbd := le256_bd (l := bs2.take hN) (fun y hy => hR2.bytes y (List.mem_of_mem_take hy))
                have hdl : (bs2.take hN).length = hN := by simp; omega
                rw [hdl] at hbd
                obtain ⟨d, hd⟩ : ∃ d, le256 (bs2.take hN) = d := ⟨_, rfl⟩
                obtain ⟨bs3, hbs3⟩ : ∃ bs3, bs2.drop hN = bs3 := ⟨_, rfl⟩
                rw [hd] at hbd
                rw [hd, hbs3] at hT3 hrn
                have HRN := Lib.hid hrn
                obtain ⟨hbd0, hbd1⟩ := hbd
                clear hdl hrn HRUN
                go_wp2_with fail
                refine hT3.mono ?_
                rintro e w3 ⟨A3, c3, rfl, hR3, hcc3, hB3, hA3⟩
                have hlt5 : w1.heap.size < (w2.setCell ⟨w1.heap.size, 1, none⟩ (.int .i64 m)).heap.size := by rw [World.size_setCell]; have := hB2.size; rw [World.size_alloc] at this; omega
                have hB13 : Below w1.heap.size w1 w3 := hB15.trans (hB3.mono (by omega))
                have e3 := hB3.block w1.heap.size hlt5
                have j0 : w3.cell? ⟨w1.heap.size, 0, none⟩ = some (.int .i64 (-1)) := by rw [World.cell?_of_block e3, World.cell?_setCell_other _ _ _ _ (by simp)]; exact k0
                have j1 : w3.cell? ⟨w1.heap.size, 1, none⟩ = some (.int .i64 m) := by rw [World.cell?_of_block e3, World.cell?_setCell_same' _ _ _ (by rw [k1]; rfl)]
                have y0 : w3.frozen? ⟨w1.heap.size, 0, none⟩ = false := by rw [World.frozen?_of_block e3, World.frozen?_setCell]; exact z0
                have y1 : w3.frozen? ⟨w1.heap.size, 1, none⟩ = false := by rw [World.frozen?_of_block e3, World.frozen?_setCell]; exact z1
                have hblk3 : bs3 ≠ [] → ∀ b o, A3 = some ⟨b, o, none⟩ → b < w.heap.size := fun hn b o e => by
                  obtain ⟨o', e'⟩ := hA3 b o e
                  exact hblk2 (by rw [← hbs3] at hn; intro h; rw [h] at hn; simp at hn) b o' e'
                have hlen3 : bs3.length < bs2.length := by rw [← hbs3]; simp; omega
                obtain ⟨P1, P2, hwp1, hwp2, hp1, hp2, hp3a, hp3b, hp4, hsgn⟩ := pow_facts hN (by omega) (by omega)
                rw [hp4] at hbd1
                rw [hsgn d] at HRN
                have hwr1 : True → wrap64 ((2 : Int) ^ (8 * hN - 1)) = P1 := fun _ => hwp1
                have hwr2 : True → wrap64 ((2 : Int) ^ (8 * hN)) = P2 := fun _ => hwp2
                clear hp4 hsgn hwp1 hwp2
                clear hT3 hA3 k0 k1 z0 z1 e3 hlt5 hR2 hB15 hB25 hB2 hB12 e2 hB3 hU hRO hB1 hd hm hbs2 hbs3
                obtain ⟨hbm0, hbm1⟩ := hbm
                have HQ := Lib.hid (show bs3.length ≤ bs.length ∧ bs3.length < f ∧ bs3.length < bs1.length + 1 ∧ out.length < 2000 ∧ last ≤ 549755813888 * out.length ∧ d < P2 ∧ 0 ≤ m ∧ P2 ≤ 2 * P1 ∧ bs3.length ≤ c3 from ⟨by omega, by omega, by omega, g4, hla1, hbd1, hbm0, hp3a, hcc3⟩)
                have hL1 : last ≤ 1100000000000000 := by omega
                have hD1 : d ≤ 1099511627776 := by omega
                have hQ2 : P2 ≤ 1099511627776 := by omega
                have hQ0 : 2 ≤ P2 := by omega
                have hWS := Lib.hid hw1s
                clear hlen1 hlen2 hlen3 hf hmany hla1 hw hw3 hh0 hwN hhN hx0 hx1 g1 g2 g4 hcc1 hcc2 hcc3 hbd1 hp3a hp3b hw1s hbm0 hbm1 hc hl hxz hcO hcmO
                by_cases hdP : P1 ≤ d
                · rw [if_pos hdP] at HRN
                  have hB4 : Below w1.heap.size w1 (w3.setCell ⟨w1.heap.size, 0, none⟩ (.int .i64 (last + (d - P2)))) := hB13.setCell (Nat.le_refl _) _
                  have hes4 := hes1.next hB4
                  have hdk : decide (P1 ≤ d) = true := by simp; omega
                  by_cases hneg : last + (d - P2) < 0
                  · have h5 := HRN.out
                    rw [if_pos hneg] at h5
                    have HB := Lib.hid (HBAD.out h5)
                    clear h5
                    clear HRN
                    have hdn : decide (0 ≤ last + (d - P2)) = false := by simp; omega
                    go_wp2_with (first | (go_at_call 55; (with_reducible refine need_rule _ _ ?_ ?_) <;> intro hq <;> (first | (cases hq; done) | skip) <;> (try simp only [decide_eq_true_eq, decide_eq_false_iff_not, Bool.or_eq_true, Bool.or_eq_false_iff, Bool.and_eq_true, Bool.and_eq_false_iff, beq_iff_eq, beq_eq_false_iff_ne, ne_eq, bne_iff_ne, Bool.not_eq_true, Int.not_le, Int.not_lt] at hq) <;> go_prune))
                    refine door_fault hes4.box.cell hes4.box.frozen (v := .tuple #[.slice none 0 0, .int .i64 0, .int .i64 4]) ?_ ?_
                    · simp [results, Try.results27, go_sem, (hes4.box.set _).cell]
                    · rw [UnpPost, HB.out]; exact ⟨_, rfl, own_nil' _ _, hes4.fin _⟩
                  · have h5 := HRN.out
                    rw [if_neg hneg] at h5
                    have HRN2 := Lib.hid h5
                    clear h5
                    clear HRN
                    have hdn : decide (0 ≤ last + (d - P2)) = true := by simp; omega
                    have ownW := own_below hown1 hB4
                    have hszW : (w3.setCell ⟨w1.heap.size, 0, none⟩ (.int .i64 (last + (d - P2)))).heap.size = w3.heap.size := World.size_setCell _ _ _
                    have HW : Hid (((w3.setCell ⟨w1.heap.size, 0, none⟩ (.int .i64 (last + (d - P2)))).alloc (.cells #[.int .i64 (last + (d - P2)), .int .i64 m] 53)).ownsRow w.heap.size 53 2 (.slice AO out.length cO) out.length (rv out)) := Lib.hid (ownW.alloc _)
                    have HN := cells_new (w3.setCell ⟨w1.heap.size, 0, none⟩ (.int .i64 (last + (d - P2)))) [.int .i64 (last + (d - P2)), .int .i64 m] 53
                    rw [hszW] at HN
                    have HNN := Lib.hid HN
                    have HO := Lib.hid (one_int .i64 [last + (d - P2), m])
                    have HES := Lib.hid (hes4.alloc (.cells #[.int .i64 (last + (d - P2)), .int .i64 m] 53))
                    have HRD : Hid (∀ w', Below w.heap.size (w3.setCell ⟨w1.heap.size, 0, none⟩ (.int .i64 (last + (d - P2)))) w' → RdB w' A3 bs3) := Lib.hid (fun w' hb => (hR3.belowN ((Below.refl _ _).setCell (by show w.heap.size ≤ w1.heap.size; have := hWS.out; omega) _) hblk3).belowN hb hblk3)
                    have hbW : w.heap.size ≤ ((w3.setCell ⟨w1.heap.size, 0, none⟩ (.int .i64 (last + (d - P2)))).alloc (.cells #[.int .i64 (last + (d - P2)), .int .i64 m] 53)).heap.size := HES.out.below.size
                    have HB5 := Lib.hid hes4.below.size
                    clear HN ownW hes4 hB4 hR3 hes1 hown1 hB13
                    go_wp2_with (first | (at_builtin; refine wpList_append_own _ rfl _ _ 22 rfl w.heap.size 53 i0 (.agg #[.int .i64 0, .int .i64 0]) 2 16 Try.underlying22 hi hz0 hz1 hz2 rfl (by decide) _ _ _ rfl HW.out ⟨w3.heap.size, 0, none⟩ 1 1 [.int .i64 (last + (d - P2)), .int .i64 m] rfl rfl HNN.out HO.out (by have := HQ.out; unfold maxLen; omega) (by have := HQ.out; omega) hbW ?_; intro v1 w6 hown6 hgrow _) | (go_at_call 55; (with_reducible refine need_rule _ _ ?_ ?_) <;> intro hq <;> (first | (cases hq; done) | skip) <;> (try simp only [decide_eq_true_eq, decide_eq_false_iff_not, Bool.or_eq_true, Bool.or_eq_false_iff, Bool.and_eq_true, Bool.and_eq_false_iff, beq_iff_eq, beq_eq_false_iff_ne, ne_eq, bne_iff_ne, Bool.not_eq_true, Int.not_le, Int.not_lt] at hq) <;> go_prune))
                    have hgB := below_grown hgrow HW.out hbW
                    refine ⟨⟨bs3, last + (d - P2), out ++ [(last + (d - P2), m)], A3, c3, rfl, rfl, HES.out.grown HW.out hgrow, HRD.out _ ((below_alloc1 _ _).mono HB5.out |>.trans hgB), hblk3, HQ.out.2.2.2.2.2.2.2.2, HQ.out.1, ownR_snoc hown6, by have := HQ.out; simp; omega, by omega, by have := HQ.out; simp; omega, ?_, f, HQ.out.2.1, ?_⟩, ?_⟩
                    · intro r hr
                      rcases List.mem_append.1 hr with hr | hr
                      · exact hnums.out r hr
                      · simp at hr; subst hr; have := HQ.out; simp only; omega
                    · exact HRN2.out
                    · simp only [sliceLen]; have := HLR.out; have := HQ.out; omega
                · rw [if_neg hdP] at HRN
                  have hB4 : Below w1.heap.size w1 (w3.setCell ⟨w1.heap.size, 0, none⟩ (.int .i64 (last + d))) := hB13.setCell (Nat.le_refl _) _
                  have hes4 := hes1.next hB4
                  have hdk : decide (P1 ≤ d) = false := by simp; omega
                  by_cases hneg : last + d < 0
                  · exact absurd hneg (by omega)
                  · have h5 := HRN.out
                    rw [if_neg hneg] at h5
                    have HRN2 := Lib.hid h5
                    clear h5
                    clear HRN
                    have hdn : decide (0 ≤ last + d) = true := by simp; omega
                    have ownW := own_below hown1 hB4
                    have hszW : (w3.setCell ⟨w1.heap.size, 0, none⟩ (.int .i64 (last + d))).heap.size = w3.heap.size := World.size_setCell _ _ _
                    have HW : Hid (((w3.setCell ⟨w1.heap.size, 0, none⟩ (.int .i64 (last + d))).alloc (.cells #[.int .i64 (last + d), .int .i64 m] 53)).ownsRow w.heap.size 53 2 (.slice AO out.length cO) out.length (rv out)) := Lib.hid (ownW.alloc _)
                    have HN := cells_new (w3.setCell ⟨w1.heap.size, 0, none⟩ (.int .i64 (last + d))) [.int .i64 (last + d), .int .i64 m] 53
                    rw [hszW] at HN
                    have HNN := Lib.hid HN
                    have HO := Lib.hid (one_int .i64 [last + d, m])
                    have HES := Lib.hid (hes4.alloc (.cells #[.int .i64 (last + d), .int .i64 m] 53))
                    have HRD : Hid (∀ w', Below w.heap.size (w3.setCell ⟨w1.heap.size, 0, none⟩ (.int .i64 (last + d))) w' → RdB w' A3 bs3) := Lib.hid (fun w' hb => (hR3.belowN ((Below.refl _ _).setCell (by show w.heap.size ≤ w1.heap.size; have := hWS.out; omega) _) hblk3).belowN hb hblk3)
                    have hbW : w.heap.size ≤ ((w3.setCell ⟨w1.heap.size, 0, none⟩ (.int .i64 (last + d))).alloc (.cells #[.int .i64 (last + d), .int .i64 m] 53)).heap.size := HES.out.below.size
                    have HB5 := Lib.hid hes4.below.size
                    clear HN ownW hes4 hB4 hR3 hes1 hown1 hB13
                    go_wp2_with (first | (at_builtin; refine wpList_append_own _ rfl _ _ 22 rfl w.heap.size 53 i0 (.agg #[.int .i64 0, .int .i64 0]) 2 16 Try.underlying22 hi hz0 hz1 hz2 rfl (by decide) _ _ _ rfl HW.out ⟨w3.heap.size, 0, none⟩ 1 1 [.int .i64 (last + d), .int .i64 m] rfl rfl HNN.out HO.out (by have := HQ.out; unfold maxLen; omega) (by have := HQ.out; omega) hbW ?_; intro v1 w6 hown6 hgrow _) | (go_at_call 55; (with_reducible refine need_rule _ _ ?_ ?_) <;> intro hq <;> (first | (cases hq; done) | skip) <;> (try simp only [decide_eq_true_eq, decide_eq_false_iff_not, Bool.or_eq_true, Bool.or_eq_false_iff, Bool.and_eq_true, Bool.and_eq_false_iff, beq_iff_eq, beq_eq_false_iff_ne, ne_eq, bne_iff_ne, Bool.not_eq_true, Int.not_le, Int.not_lt] at hq) <;> go_prune))
                    have hgB := below_grown hgrow HW.out hbW
                    refine ⟨⟨bs3, last + d, out ++ [(last + d, m)], A3, c3, rfl, rfl, HES.out.grown HW.out hgrow, HRD.out _ ((below_alloc1 _ _).mono HB5.out |>.trans hgB), hblk3, HQ.out.2.2.2.2.2.2.2.2, HQ.out.1, ownR_snoc hown6, by have := HQ.out; simp; omega, by omega, by have := HQ.out; simp; omega, ?_, f, HQ.out.2.1, ?_⟩, ?_⟩
                    · intro r hr
                      rcases List.mem_append.1 hr with hr | hr
                      · exact hnums.out r hr
                      · simp at hr; subst hr; have := HQ.out; simp only; omega
                    · exact HRN2.out
                    · simp only [sliceLen]; have := HLR.out; have := HQ.out; omega
        · rw [if_pos hgood] at hrun
          have HB := Lib.hid (HBAD.out hrun)
          have HG := Lib.hid hgood
          clear hrun hgood hla0 hla1 hmany hlen1 hf hcc1
          go_wp2_with (first | (go_at_call 55; (with_reducible refine need_rule _ _ ?_ ?_) <;> intro hq <;> (first | (cases hq; done) | skip) <;> (try simp only [decide_eq_true_eq, decide_eq_false_iff_not, Bool.or_eq_true, Bool.or_eq_false_iff, Bool.and_eq_true, Bool.and_eq_false_iff, beq_iff_eq, beq_eq_false_iff_ne, ne_eq, bne_iff_ne, Bool.not_eq_true, Int.not_le, Int.not_lt] at hq) <;> go_prune))
          all_goals first
            | (exfalso; exact HG.out ⟨by omega, by omega, by omega, by omega⟩)
            | (refine door_fault hes1.box.cell hes1.box.frozen (v := .tuple #[.slice none 0 0, .int .i64 0, .int .i64 4]) (by simp [results, Try.results27, go_sem, (hes1.box.set _).cell]) ?_; rw [UnpPost, HB.out]; exact ⟨_, rfl, own_nil' _ _, hes1.fin _⟩)
end Go.Proofs.Ytjdkdogiaokhjaa
