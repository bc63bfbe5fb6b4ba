/- Runs: plain laws: what RunsPages asks. -/
import Derived.Test.YtjdkdogiaokhjaaTj
import Derived.Test.YtjdkdogiaokhjaaSm
import Derived.Test.YtjdkdogiaokhjaaSn
namespace Go.Proofs.Ytjdkdogiaokhjaa
open Go.RowKit Go.Proofs
set_option linter.unusedSimpArgs false
set_option linter.unusedVariables false

/-- a valid mapping with the pages s -/
structure Good (x s : List R) : Prop where
  must : mustE x = 0
  pgs : pg x = s
  len : x.length ≤ 1000
theorem Good.of_mp {x s : List R} {b : Nat} (h : Mp x s b) (hb : b ≤ 1000) (hs : s.length ≤ 1073741824) : Good x s := ⟨h.must (by omega) hs, h.pgs, Nat.le_trans h.len hb⟩
theorem pageG {A : Option Addr} {l s : List R} {n c : Nat} {x u : Int} {w : World} (g : Good l s) (p : Nat) (hR : Rd w A l) (hn : n = l.length) (hx : x = p) (hu : pgv s p = u) :
    Calls Try.prog 42 #[.slice A n c, .int .i64 x] w fun e w' => e = .returned (.int .i64 u) ∧ Below w.heap.size w w' :=
  page1 p hR hn g.must hx (by rw [g.pgs]; exact hu)
structure PF (l more F M : List R) (a c : Nat) : Prop where
  go : ∃ xa xb xj xi xr xo xp xq xl, cutOk l a = (0, xa, xb) ∧ joinOk l more = (0, xj) ∧ insertOk l a more = (0, xi) ∧ removeOk l a c = (0, xr, xo) ∧ punchOk l a c = (0, xp, xo) ∧ putOk l a more = (0, xq, xl) ∧
    Good xa (F.take a) ∧ Good xb (F.drop a) ∧ Good xj (F ++ M) ∧ Good xi (F.take a ++ M ++ F.drop a) ∧ Good xr (F.take a ++ F.drop (a + c)) ∧ Good xo ((F.take (a + c)).drop a) ∧
    Good xp (F.take a ++ List.replicate c (-1, 1) ++ F.drop (a + c)) ∧ Good xq (F.take a ++ M ++ F.drop (a + M.length)) ∧ Good xl ((F.take (a + M.length)).drop a)
theorem pages_facts {l more F M : List R} {a c : Nat} (h : mustE l = 0) (k : mustE more = 0) (hl : l.length ≤ 60) (kl : more.length ≤ 60) (hF : pg l = F) (hM : pg more = M) (hs : F.length ≤ 2000) (ks : M.length ≤ 2000) (hi : a + c ≤ F.length) : PF l more F M a c := by
  have L := Mp.of_must h hl
  have K := Mp.of_must k kl
  have kss := K.sum
  rw [hF] at L
  rw [hM] at K kss
  have hTA := L.takeAll
  have A := L.part (by omega) 0 a
  have B := L.part (by omega) a (sumR l)
  rw [hTA] at B
  simp only [Int.toNat_natCast, Int.toNat_zero, List.drop_zero] at A B
  have J := L.join K (by omega)
  have I := L.insert K (by omega) a
  simp only [Int.toNat_natCast] at I
  have RM := L.remove (by omega) a c
  have O := L.part (by omega) a (a + c)
  have e2 : ((a : Int) + (c : Int)).toNat = a + c := by omega
  rw [e2] at RM O
  simp only [Int.toNat_natCast] at RM O
  have P := L.punch a c (by omega) (by omega)
  rw [e2] at P
  simp only [Int.toNat_natCast] at P
  have e1 : ((a : Int) + sumR more).toNat = a + M.length := by omega
  have Q := L.put K a (by omega)
  have OL := L.part (by omega) a (a + sumR more)
  rw [e1] at Q OL
  simp only [Int.toNat_natCast] at Q OL
  have gq : (if M = [] then [] else List.replicate (a - F.length) ((-1 : Int), (1 : Int))) = [] := by
    split
    · rfl
    · rw [show a - F.length = 0 by omega]; rfl
  rw [gq, List.append_nil] at Q
  refine ⟨_, _, _, _, _, _, _, _, _, cutOk_eq (A.fits (by omega) (by simp; omega)) (B.fits (by omega) (by simp; omega)), joinOk_eq (J.fits (by omega) (by simp; omega)), insertOk_eq (I.fits (by omega) (by simp; omega)),
    removeOk_eq (RM.fits (by omega) (by simp; omega)) (O.fits (by omega) (by simp; omega)), punchOk_eq (P.fits (by omega) (by simp; omega)) (O.fits (by omega) (by simp; omega)), putOk_eq (Q.fits (by omega) (by simp; omega)) (OL.fits (by omega) (by simp; omega)),
    .of_mp A (by omega) (by simp; omega), .of_mp B (by omega) (by simp; omega), .of_mp J (by omega) (by simp; omega), .of_mp I (by omega) (by simp; omega), .of_mp RM (by omega) (by simp; omega), .of_mp O (by omega) (by simp; omega), .of_mp P (by omega) (by simp; omega), .of_mp Q (by omega) (by simp; omega), .of_mp OL (by omega) (by simp; omega)⟩
/-! each page, by its place -/
section
variable {F M : List R} {a c x : Nat}
theorem pA (h : x < a) : pgv (F.take a) x = pgv F x := pgv_take h
theorem pB : pgv (F.drop a) x = pgv F (a + x) := pgv_drop F a x
theorem pJ1 (h : x < F.length) : pgv (F ++ M) x = pgv F x := pgv_left h
theorem pJ2 (h : F.length ≤ x) : pgv (F ++ M) x = pgv M (x - F.length) := pgv_right h
theorem tlen (ha : a ≤ F.length) : (F.take a).length = a := by simp; omega
theorem pI1 (ha : a ≤ F.length) (h : x < a) : pgv (F.take a ++ M ++ F.drop a) x = pgv F x := by rw [List.append_assoc, pgv_left (by rw [tlen ha]; exact h), pgv_take h]
theorem pI2 (ha : a ≤ F.length) (h : a ≤ x) (h2 : x < a + M.length) : pgv (F.take a ++ M ++ F.drop a) x = pgv M (x - a) := by
  rw [List.append_assoc, pgv_right (by rw [tlen ha]; exact h), tlen ha, pgv_left (by omega)]
theorem pI3 (ha : a ≤ F.length) (h : a + M.length ≤ x) : pgv (F.take a ++ M ++ F.drop a) x = pgv F (x - M.length) := by
  rw [List.append_assoc, pgv_right (by rw [tlen ha]; omega), tlen ha, pgv_right (by omega), pgv_drop]; congr 1; omega
theorem pR1 (ha : a ≤ F.length) (h : x < a) : pgv (F.take a ++ F.drop (a + c)) x = pgv F x := by rw [pgv_left (by rw [tlen ha]; exact h), pgv_take h]
theorem pR2 (ha : a ≤ F.length) (h : a ≤ x) : pgv (F.take a ++ F.drop (a + c)) x = pgv F (x + c) := by rw [pgv_right (by rw [tlen ha]; exact h), tlen ha, pgv_drop]; congr 1; omega
theorem pP1 (ha : a ≤ F.length) (h : x < a) : pgv (F.take a ++ List.replicate c (-1, 1) ++ F.drop (a + c)) x = pgv F x := by rw [List.append_assoc, pgv_left (by rw [tlen ha]; exact h), pgv_take h]
theorem pP2 (ha : a ≤ F.length) (h : a ≤ x) (h2 : x < a + c) : pgv (F.take a ++ List.replicate c (-1, 1) ++ F.drop (a + c)) x = -1 := by
  rw [List.append_assoc, pgv_right (by rw [tlen ha]; exact h), tlen ha, pgv_left (by simp; omega), pgv_hole (by omega)]
theorem pP3 (ha : a ≤ F.length) (h : a + c ≤ x) : pgv (F.take a ++ List.replicate c (-1, 1) ++ F.drop (a + c)) x = pgv F x := by
  rw [List.append_assoc, pgv_right (by rw [tlen ha]; omega), tlen ha, pgv_right (by simp; omega), pgv_drop]; simp; congr 1; omega
theorem pQ1 (ha : a ≤ F.length) (h : x < a) : pgv (F.take a ++ M ++ F.drop (a + M.length)) x = pgv F x := by rw [List.append_assoc, pgv_left (by rw [tlen ha]; exact h), pgv_take h]
theorem pQ2 (ha : a ≤ F.length) (h : a ≤ x) (h2 : x < a + M.length) : pgv (F.take a ++ M ++ F.drop (a + M.length)) x = pgv M (x - a) := by
  rw [List.append_assoc, pgv_right (by rw [tlen ha]; exact h), tlen ha, pgv_left (by omega)]
theorem pQ3 (ha : a ≤ F.length) (h : a + M.length ≤ x) : pgv (F.take a ++ M ++ F.drop (a + M.length)) x = pgv F x := by
  rw [List.append_assoc, pgv_right (by rw [tlen ha]; omega), tlen ha, pgv_right (by omega), pgv_drop]; congr 1; omega
theorem pO (h : x < c) : pgv ((F.take (a + c)).drop a) x = pgv F (a + x) := by rw [pgv_drop, pgv_take (by omega)]
end
def oneB (F M : List R) (k : Nat) : Bool := (List.range k).all fun i => pgv F i == pgv M i
theorem oneB_succ (F M : List R) (k : Nat) : oneB F M (k + 1) = (oneB F M k && (pgv F k == pgv M k)) := by simp [oneB, List.range_succ]
theorem same_pages {l more F M : List R} (hw : Wk l) (kw : Wk more) (hF : pg l = F) (hM : pg more = M) : decide (norm l = norm more) = (oneB F M (max F.length M.length) && decide (F.length = M.length)) := by
  have h1 : norm l = norm more ↔ F = M := by
    constructor
    · intro h
      have := congrArg pg h
      rw [pg_norm hw, pg_norm kw, hF, hM] at this
      exact this
    · intro h
      exact norm_eq hw kw (by rw [hF, hM, h])
  have h2 : (oneB F M (max F.length M.length) && decide (F.length = M.length)) = true ↔ F = M := by
    rw [Bool.and_eq_true, decide_eq_true_eq]
    constructor
    · rintro ⟨a, b⟩
      refine pgv_eq (hF ▸ ones_pg hw) (hM ▸ ones_pg kw) b fun p hp => ?_
      have := List.all_eq_true.1 a p (by simp; omega)
      simpa using this
    · rintro rfl
      exact ⟨List.all_eq_true.2 fun p _ => by simp, rfl⟩
  rw [Bool.eq_iff_iff, h2, decide_eq_true_eq, h1]
end Go.Proofs.Ytjdkdogiaokhjaa
