/- Runs: plain laws: what RunsUndone asks. -/
import Derived.Test.YtjdkdogiaokhjaaSl
namespace Go.Proofs.Ytjdkdogiaokhjaa
set_option linter.unusedSimpArgs false
set_option linter.unusedVariables false

theorem cutOk_eq {l : List R} {page : Int} (h1 : fitsE (partR l 0 page) = 0) (h2 : fitsE (partR l page (sumR l)) = 0) : cutOk l page = (0, partR l 0 page, partR l page (sumR l)) := if_neg (by simp [h1, h2])
theorem removeOk_eq {l : List R} {page many : Int} (h1 : fitsE (removeX l page many) = 0) (h2 : fitsE (partR l page (page + many)) = 0) : removeOk l page many = (0, removeX l page many, partR l page (page + many)) := if_neg (by simp [h1, h2])
theorem punchOk_eq {l : List R} {page many : Int} (h1 : fitsE (punchX l page many) = 0) (h2 : fitsE (partR l page (page + many)) = 0) : punchOk l page many = (0, punchX l page many, partR l page (page + many)) := if_neg (by simp [h1, h2])
theorem putOk_eq {l more : List R} {page : Int} (h1 : fitsE (putX l page more) = 0) (h2 : fitsE (partR l page (page + sumR more)) = 0) : putOk l page more = (0, putX l page more, partR l page (page + sumR more)) := if_neg (by simp [h1, h2])
theorem joinOk_eq {a b : List R} (h1 : fitsE (joinX a b) = 0) : joinOk a b = (0, joinX a b) := if_neg (by simp [h1])
theorem insertOk_eq {l more : List R} {page : Int} (h1 : fitsE (insertX l page more) = 0) : insertOk l page more = (0, insertX l page more) := if_neg (by simp [h1])
theorem norm_of_mp {l F : List R} {b : Nat} (h : Mp l F b) : norm l = norm F := by rw [norm_pg h.ok.wk, h.pgs]
/-- the pages of a list, cut out: F = P ++ Q ++ S -/
theorem cut_back {F : List R} (a : Nat) (ha : a ≤ F.length) : F.take a ++ F.drop a = F := List.take_append_drop a F
structure UF (l more : List R) (at_ many : Int) : Prop where
  go : ∃ a b i p g q o x2 z now, cutOk l at_ = (0, a, b) ∧ (mustE a = 0 ∧ mustE b = 0 ∧ a.length ≤ 60 ∧ b.length ≤ 60) ∧ joinOk a b = (0, norm l) ∧
    insertOk l at_ more = (0, i) ∧ (mustE i = 0 ∧ i.length ≤ 200 ∧ inR i at_ (sumR more)) ∧ removeOk i at_ (sumR more) = (0, norm l, norm more) ∧
    punchOk l at_ many = (0, p, g) ∧ (mustE p = 0 ∧ mustE g = 0 ∧ p.length ≤ 200 ∧ g.length ≤ 200) ∧ putOk p at_ g = (0, norm l, x2) ∧
    putOk l at_ more = (0, q, o) ∧ (mustE q = 0 ∧ mustE o = 0 ∧ q.length ≤ 200 ∧ o.length ≤ 200) ∧ putOk q at_ o = (0, z, now) ∧ (z.length ≤ 1000 ∧ now.length ≤ 1000) ∧ (at_ + sumR more ≤ sumR l → z = norm l ∧ now = norm more)
theorem undone {l more : List R} {at_ many : Int} (h : mustE l = 0) (k : mustE more = 0) (hl : l.length ≤ 60) (kl : more.length ≤ 60) (hs : sumR l ≤ 2000) (ks : sumR more ≤ 2000) (hi : inR l at_ many) : UF l more at_ many := by
  obtain ⟨i1, i2, i3, i4⟩ := hi
  have L := Mp.of_must h hl
  have K := Mp.of_must k kl
  have lw := L.ok.wk
  have kw := K.ok.wk
  have ls := L.sum
  have kss := K.sum
  obtain ⟨F, hF⟩ : ∃ F, pg l = F := ⟨_, rfl⟩
  obtain ⟨M, hM⟩ : ∃ M, pg more = M := ⟨_, rfl⟩
  rw [hF] at L ls
  rw [hM] at K kss
  obtain ⟨a, rfl⟩ : ∃ a : Nat, at_ = a := ⟨at_.toNat, by omega⟩
  obtain ⟨n, rfl⟩ : ∃ n : Nat, many = n := ⟨many.toNat, by omega⟩
  have ha : a ≤ F.length := by omega
  have hn : a + n ≤ F.length := by omega
  have hFl : F.length ≤ 2000 := by omega
  have hMl : M.length ≤ 2000 := by omega
  have hTA := L.takeAll
  -- Cut, Join
  have A := L.part (by omega) 0 a
  have B := L.part (by omega) a (sumR l)
  rw [hTA] at B
  simp only [Int.toNat_natCast, Int.toNat_zero, List.drop_zero] at A B
  have J := A.join B (by simp; omega)
  have jn : joinX (partR l 0 a) (partR l a (sumR l)) = norm l := by
    rw [join_pg A.ok.wk B.ok.wk, A.pgs, B.pgs, List.take_append_drop, norm_of_mp L]
  -- Insert, Remove
  have I := L.insert K (by omega) a
  simp only [Int.toNat_natCast] at I
  have Il : (F.take a ++ M ++ F.drop a).length = F.length + M.length := by simp; omega
  have RM := I.remove (by rw [Il]; omega) a (sumR more)
  have RO := I.part (by rw [Il]; omega) a (a + sumR more)
  have e1 : ((a : Int) + sumR more).toNat = a + M.length := by omega
  rw [e1] at RM RO
  simp only [Int.toNat_natCast] at RM RO
  have hta : (F.take a).length = a := by simp; omega
  have t1 : (F.take a ++ M ++ F.drop a).take a = F.take a := by rw [List.append_assoc, List.take_left' hta]
  have t2 : (F.take a ++ M ++ F.drop a).drop (a + M.length) = F.drop a := by rw [List.drop_left' (by simp; omega)]
  have t3 : ((F.take a ++ M ++ F.drop a).take (a + M.length)).drop a = M := by rw [List.take_left' (by simp; omega), List.drop_left' hta]
  rw [t1, t2, List.take_append_drop] at RM
  rw [t3] at RO
  have rmn : removeX (insertX l a more) a (sumR more) = norm l := by
    rw [remove_pg I.ok.wk, I.pgs, e1, Int.toNat_natCast, t1, t2, List.take_append_drop, norm_of_mp L]
  have ron : partR (insertX l a more) a (a + sumR more) = norm more := by
    rw [part_pg I.ok.wk, I.pgs, e1, Int.toNat_natCast, t3, norm_of_mp K]
  -- Punch, Put back
  have P := L.punch a n (by omega) (by omega)
  have G := L.part (by omega) a (a + n)
  have e2 : ((a : Int) + (n : Int)).toNat = a + n := by omega
  rw [e2] at P G
  simp only [Int.toNat_natCast] at P G
  have Gs := G.sum
  have Gl : ((F.take (a + n)).drop a).length = n := by simp; omega
  rw [Gl] at Gs
  have Pl : (F.take a ++ List.replicate n ((-1 : Int), (1 : Int)) ++ F.drop (a + n)).length = F.length := by simp; omega
  have PP := P.put G a (by rw [Pl, Gl]; omega)
  have PO := P.part (by rw [Pl]; omega) a (a + sumR (partR l a (a + n)))
  have e3 : ((a : Int) + sumR (partR l a (a + n))).toNat = a + n := by omega
  rw [e3, Pl] at PP
  rw [e3] at PO
  simp only [Int.toNat_natCast] at PP PO
  have g0 : (if (F.take (a + n)).drop a = [] then [] else List.replicate (a - F.length) ((-1 : Int), (1 : Int))) = [] := by
    split
    · rfl
    · rw [show a - F.length = 0 by omega]; rfl
  have p1 : (F.take a ++ List.replicate n ((-1 : Int), (1 : Int)) ++ F.drop (a + n)).take a = F.take a := by rw [List.append_assoc, List.take_left' hta]
  have p2 : (F.take a ++ List.replicate n ((-1 : Int), (1 : Int)) ++ F.drop (a + n)).drop (a + n) = F.drop (a + n) := by rw [List.drop_left' (by simp; omega)]
  have p3 : F.take a ++ (F.take (a + n)).drop a ++ F.drop (a + n) = F := by
    have : F.take a = (F.take (a + n)).take a := by rw [List.take_take]; congr 1; omega
    rw [this, List.take_append_drop, List.take_append_drop]
  have pbn : putX (punchX l a n) a (partR l a (a + n)) = norm l := by
    rw [put_pg P.ok.wk G.ok.wk, P.pgs, G.pgs, e3, Int.toNat_natCast, Pl, g0, p1, p2, List.append_nil, p3, norm_of_mp L]
  -- Put, and back
  have Q := L.put K a (by omega)
  have O := L.part (by omega) a (a + sumR more)
  have e4 : ((a : Int) + sumR more).toNat = a + M.length := e1
  rw [e4] at Q O
  simp only [Int.toNat_natCast] at Q O
  have gq : (if M = [] then [] else List.replicate (a - F.length) ((-1 : Int), (1 : Int))) = [] := by
    split
    · rfl
    · rw [show a - F.length = 0 by omega]; rfl
  rw [gq, List.append_nil] at Q
  have Ql : (F.take a ++ M ++ F.drop (a + M.length)).length ≤ F.length + M.length := by simp; omega
  have Os := O.sum
  have Ol : ((F.take (a + M.length)).drop a).length ≤ M.length := by simp; omega
  have Z := Q.put O a (by omega)
  have N := Q.part (by omega) a (a + sumR (partR l a (a + sumR more)))
  have hz : (a : Int) + sumR more ≤ sumR l → putX (putX l a more) a (partR l a (a + sumR more)) = norm l ∧ partR (putX l a more) a (a + sumR (partR l a (a + sumR more))) = norm more := by
    intro hle
    have hle' : a + M.length ≤ F.length := by omega
    have Ol2 : ((F.take (a + M.length)).drop a).length = M.length := by simp; omega
    have e5 : ((a : Int) + sumR (partR l a (a + sumR more))).toNat = a + M.length := by omega
    have q1 : (F.take a ++ M ++ F.drop (a + M.length)).take a = F.take a := by rw [List.append_assoc, List.take_left' hta]
    have q2 : (F.take a ++ M ++ F.drop (a + M.length)).drop (a + M.length) = F.drop (a + M.length) := by rw [List.drop_left' (by simp; omega)]
    have q3 : ((F.take a ++ M ++ F.drop (a + M.length)).take (a + M.length)).drop a = M := by rw [List.take_left' (by simp; omega), List.drop_left' hta]
    have q4 : F.take a ++ (F.take (a + M.length)).drop a ++ F.drop (a + M.length) = F := by
      have : F.take a = (F.take (a + M.length)).take a := by rw [List.take_take]; congr 1; omega
      rw [this, List.take_append_drop, List.take_append_drop]
    have qg : (if (F.take (a + M.length)).drop a = [] then [] else List.replicate (a - (F.take a ++ M ++ F.drop (a + M.length)).length) ((-1 : Int), (1 : Int))) = [] := by
      split
      · rfl
      · rw [show a - (F.take a ++ M ++ F.drop (a + M.length)).length = 0 by simp; omega]; rfl
    constructor
    · rw [put_pg Q.ok.wk O.ok.wk, Q.pgs, O.pgs, e5, Int.toNat_natCast, qg, q1, q2, List.append_nil, q4, norm_of_mp L]
    · rw [part_pg Q.ok.wk, Q.pgs, e5, Int.toNat_natCast, q3, norm_of_mp K]
  have Zl : ((F.take a ++ M ++ F.drop (a + M.length)).take (a : Int).toNat ++ (if (F.take (a + M.length)).drop a = [] then [] else List.replicate ((a : Int).toNat - (F.take a ++ M ++ F.drop (a + M.length)).length) ((-1 : Int), (1 : Int))) ++ (F.take (a + M.length)).drop a ++ (F.take a ++ M ++ F.drop (a + M.length)).drop ((a : Int) + sumR (partR l a (a + sumR more))).toNat).length ≤ 1000000 := by
    have : (if (F.take (a + M.length)).drop a = [] then [] else List.replicate ((a : Int).toNat - (F.take a ++ M ++ F.drop (a + M.length)).length) ((-1 : Int), (1 : Int))).length ≤ 2000 := by split <;> simp; omega
    simp only [List.length_append, List.length_take, List.length_drop] at *; omega
  refine ⟨_, _, _, _, _, _, _, partR (punchX l a n) a (a + sumR (partR l a (a + n))), _, _, cutOk_eq (A.fits (by omega) (by simp; omega)) (B.fits (by omega) (by simp; omega)), ⟨A.must (by omega) (by simp; omega), B.must (by omega) (by simp; omega), A.len, B.len⟩, ?_,
    insertOk_eq (I.fits (by omega) (by omega)), ⟨I.must (by omega) (by omega), Nat.le_trans I.len (by omega), by omega, by omega, by rw [I.sum, Il]; omega, by rw [I.sum, Il]; omega⟩, ?_,
    punchOk_eq (P.fits (by omega) (by omega)) (G.fits (by omega) (by omega)), ⟨P.must (by omega) (by omega), G.must (by omega) (by omega), Nat.le_trans P.len (by omega), Nat.le_trans G.len (by omega)⟩, ?_,
    putOk_eq (Q.fits (by omega) (by omega)) (O.fits (by omega) (by omega)), ⟨Q.must (by omega) (by omega), O.must (by omega) (by omega), Nat.le_trans Q.len (by omega), Nat.le_trans O.len (by omega)⟩,
    putOk_eq (Z.fits (by omega) (by omega)) (N.fits (by omega) (by simp; omega)), ⟨Nat.le_trans Z.len (by omega), Nat.le_trans N.len (by omega)⟩, hz⟩
  · rw [joinOk_eq (J.fits (by omega) (by simp; omega)), jn]
  · rw [removeOk_eq (RM.fits (by omega) (by omega)) (RO.fits (by omega) (by omega)), rmn, ron]
  · rw [putOk_eq (PP.fits (by omega) (by rw [g0, p1, p2]; simp; omega)) (PO.fits (by omega) (by simp; omega)), pbn]
end Go.Proofs.Ytjdkdogiaokhjaa
