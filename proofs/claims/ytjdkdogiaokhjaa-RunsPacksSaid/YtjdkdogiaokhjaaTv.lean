/- Runs: plain law: the specification's Unpack. -/
import Derived.Test.YtjdkdogiaokhjaaTi
namespace Go.Proofs.Ytjdkdogiaokhjaa
set_option linter.unusedSimpArgs false
set_option linter.unusedVariables false

/-- the specification's loop, over what is left of the bytes -/
def refU : Nat → List Int → Int → List R → Option (List R × List Int)
  | 0, _, _, _ => none
  | _ + 1, [], _, _ => none
  | f + 1, x :: bs, last, out =>
    if x = 0 then some (out, bs)
    else if ¬ (1 ≤ x % 16 ∧ x % 16 ≤ 4 ∧ x / 16 ≤ 4 ∧ (x % 16).toNat + (x / 16).toNat ≤ bs.length ∧ out.length < 2000) then none
    else if x / 16 = 0 then refU f (bs.drop (x % 16).toNat) last (out ++ [(-1, le256 (bs.take (x % 16).toNat))])
    else if last + sgn (x / 16).toNat (le256 ((bs.drop (x % 16).toNat).take (x / 16).toNat)) < 0 then none
    else refU f ((bs.drop (x % 16).toNat).drop (x / 16).toNat) (last + sgn (x / 16).toNat (le256 ((bs.drop (x % 16).toNat).take (x / 16).toNat)))
      (out ++ [(last + sgn (x / 16).toNat (le256 ((bs.drop (x % 16).toNat).take (x / 16).toNat)), le256 (bs.take (x % 16).toNat))])
def refUnpackR (bs : List Int) : List R × Int × Bool :=
  match refU (bs.length + 1) bs 0 [] with
  | none => ([], 0, false)
  | some (out, rest) =>
    if mustE out ≠ 0 ∨ norm out ≠ out then ([], 0, false)
    else if (packGo ((bs.length - rest.length : Nat) : Int) [] 0 0 out).1 ≠ bs.take (bs.length - rest.length) then ([], 0, false)
    else (out, ((bs.length - rest.length : Nat) : Int), true)
theorem refU_unp (f : Nat) : ∀ (bs : List Int) (last : Int) (out : List R) (y : List R × List Int), (∀ x ∈ bs, 0 ≤ x) → refU f bs last out = some y → unp f bs last out = some y := by
  induction f with
  | zero => intro bs last out y _ h; simp [refU] at h
  | succ f ih =>
    intro bs last out y hb h
    cases bs with
    | nil => simp [refU] at h
    | cons x bs =>
      have hx := hb x (by simp)
      have hb' : ∀ x ∈ bs, 0 ≤ x := fun x hx => hb x (by simp [hx])
      simp only [refU] at h
      simp only [unp]
      by_cases h1 : x = 0
      · rw [if_pos h1] at h ⊢; exact h
      · rw [if_neg h1] at h ⊢
        by_cases h2 : 1 ≤ x % 16 ∧ x % 16 ≤ 4 ∧ x / 16 ≤ 4 ∧ (x % 16).toNat + (x / 16).toNat ≤ bs.length ∧ out.length < 2000
        · rw [if_neg (not_not_intro h2)] at h
          rw [if_neg (by omega), if_neg (by omega)]
          by_cases h3 : x / 16 = 0
          · rw [if_pos h3] at h ⊢
            exact ih _ _ _ _ (fun x hx => hb' x (List.mem_of_mem_drop hx)) h
          · rw [if_neg h3] at h ⊢
            rw [if_neg (by simp; omega)]
            split at h
            · cases h
            · rename_i h4
              rw [if_neg h4]
              exact ih _ _ _ _ (fun x hx => hb' x (List.mem_of_mem_drop (List.mem_of_mem_drop hx))) h
        · rw [if_pos h2] at h; cases h
theorem refU_step (f : Nat) (r : R) (last : Int) (rest : List Int) (out : List R) (hr : okR r = true) (hl0 : 0 ≤ last) (hl1 : last ≤ 1073741824) (ho : out.length < 2000) :
    refU (f + 1) (packR r last ++ rest) last out = refU f rest (nx last r) (out ++ [r]) := by
  have hok := (okR_iff r).1 hr
  obtain ⟨u1, u2, u3⟩ := uW_lt (n := r.2) (by omega) (by omega)
  obtain ⟨W, hW⟩ : ∃ W : Nat, uW r.2 = W := ⟨(uW r.2).toNat, by omega⟩
  have hWt : (uW r.2).toNat = W := by omega
  have hlw := le256_low W r.2 (by omega) (by rw [← hWt]; exact u1)
  have hlen := lowB_len r.2 W
  by_cases h1 : r.1 = -1
  · have hh : hR r last = 0 := if_pos h1
    simp only [packR, hh, hW, List.cons_append]
    rw [show ((0 : Int)).toNat = 0 from rfl, show lowB (r.1 - last) 0 = [] from rfl, List.append_nil, show (W : Int).toNat = W from rfl]
    simp only [refU]
    have e1 : (16 * (0 : Int) + W) % 16 = W := by omega
    have e2 : (16 * (0 : Int) + W) / 16 = 0 := by omega
    rw [e1, e2, show (W : Int).toNat = W from rfl, if_neg (by omega), if_neg (not_not_intro ⟨by omega, by omega, by omega, by simp [hlen], ho⟩), if_pos rfl, List.take_left' hlen, List.drop_left' hlen, hlw]
    rw [show nx last r = last from if_pos h1, show ((-1 : Int), r.2) = r from Prod.ext h1.symm rfl]
  · have hto : 0 ≤ r.1 ∧ r.1 ≤ 1073741824 := by omega
    obtain ⟨s1, s2, s3⟩ := sgn_low (d := r.1 - last) (by omega) (by omega)
    have hh : hR r last = sW (r.1 - last) := if_neg h1
    obtain ⟨H, hH⟩ : ∃ H : Nat, sW (r.1 - last) = H := ⟨(sW (r.1 - last)).toNat, by omega⟩
    rw [hH, show (H : Int).toNat = H from rfl] at s1
    have hlen2 := lowB_len (r.1 - last) H
    simp only [packR, hh, hW, hH, List.cons_append]
    rw [show (W : Int).toNat = W from rfl, show (H : Int).toNat = H from rfl]
    simp only [refU]
    have e1 : (16 * (H : Int) + W) % 16 = W := by omega
    have e2 : (16 * (H : Int) + W) / 16 = H := by omega
    rw [e1, e2, show (W : Int).toNat = W from rfl, show (H : Int).toNat = H from rfl, List.append_assoc, if_neg (by omega), if_neg (not_not_intro ⟨by omega, by omega, by omega, by simp [hlen, hlen2], ho⟩), if_neg (by omega), List.take_left' hlen, List.drop_left' hlen,
      List.take_left' hlen2, List.drop_left' hlen2, hlw, s1, if_neg (by omega)]
    rw [show nx last r = r.1 from if_neg h1, show last + (r.1 - last) = r.1 by omega]
theorem refU_all (t : List R) : ∀ (f : Nat) (last : Int) (rest : List Int) (out : List R), t.length < f → OkL t → 0 ≤ last → last ≤ 1073741824 → out.length + t.length ≤ 2000 →
    refU f (pk last t ++ 0 :: rest) last out = some (out ++ t, rest) := by
  induction t with
  | nil =>
    intro f last rest out hf _ _ _ _
    obtain ⟨f, rfl⟩ : ∃ g, f = g + 1 := ⟨f - 1, by simp at hf; omega⟩
    simp [pk, refU]
  | cons r t ih =>
    intro f last rest out hf ho h0 h1 hl
    obtain ⟨f, rfl⟩ : ∃ g, f = g + 1 := ⟨f - 1, by simp at hf; omega⟩
    have hr := ho r (by simp)
    have hok := (okR_iff r).1 hr
    simp only [List.length_cons] at hl hf
    simp only [pk, List.append_assoc]
    rw [refU_step f r last _ out hr h0 h1 (by omega)]
    have hn : 0 ≤ nx last r ∧ nx last r ≤ 1073741824 := by unfold nx; split <;> omega
    rw [ih f (nx last r) rest (out ++ [r]) (by omega) (fun y hy => ho y (by simp [hy])) hn.1 hn.2 (by simp; omega)]
    simp
/-- bytes that read as out, and begin with what Pack gives, begin with all of it -/
theorem packs_all {bs rest : List Int} {out : List R} {most : Int} (hu : unp (bs.length + 1) bs 0 [] = some (out, rest)) (hm : mustE out = 0) (n : Nat) (hp : (packGo most [] 0 0 out).1 = bs.take n) :
    pk 0 out ++ [0] = bs.take n := by
  obtain ⟨k, k1, k2, k3⟩ := packGo_form most out [] 0 0
  have h1 := packGo_eq most out k [] 0 0 k1 k2 k3
  rw [h1] at hp
  simp only [List.nil_append] at hp
  have hb : bs = pk 0 (out.take k) ++ 0 :: bs.drop n := by
    conv => lhs; rw [← List.take_append_drop n bs, ← hp]
    simp
  have hok := okL_of_must hm
  have hz := (mustE_zero hm).1
  have hl := pk_len (out.take k) 0
  have hlen : (out.take k).length < bs.length + 1 := by
    have := congrArg List.length hb
    simp only [List.length_append, List.length_cons] at this
    omega
  have h2 := unp_all (out.take k) (bs.length + 1) 0 (bs.drop n) [] hlen (hok.take k) (by omega) (by omega) (by simp; omega)
  rw [← hb, hu] at h2
  simp only [List.nil_append, Option.some.injEq, Prod.mk.injEq] at h2
  rw [← h2.1] at hp
  exact hp
theorem packGo_fit {out : List R} {most : Int} (h : ((pk 0 out).length : Int) + 1 ≤ most) : (packGo most [] 0 0 out).1 = pk 0 out ++ [0] := by
  have := packGo_eq most out out.length [] 0 0 (Nat.le_refl _) (fun _ => by simp; omega) (fun h => by omega)
  rw [List.take_length] at this
  rw [this]; simp
def liftU (u : List R × Int × Bool) : Int × List R × Int := (bif u.2.2 then 0 else 4, u.1, u.2.1)
theorem unpack_ref {bs : List Int} (hb : ∀ x ∈ bs, 0 ≤ x) : unpackR bs = liftU (refUnpackR bs) := by
  unfold unpackR refUnpackR
  cases hu : unp (bs.length + 1) bs 0 [] with
  | none =>
    cases hr : refU (bs.length + 1) bs 0 [] with
    | none => rfl
    | some y => rw [refU_unp _ _ _ _ _ hb hr] at hu; cases hu
  | some y =>
    obtain ⟨out, rest⟩ := y
    simp only
    by_cases h1 : mustE out ≠ 0 ∨ norm out ≠ out
    · rw [if_pos h1]
      cases hr : refU (bs.length + 1) bs 0 [] with
      | none => rfl
      | some y =>
        have := refU_unp _ _ _ _ _ hb hr
        rw [hu] at this
        cases this
        simp only
        rw [if_pos h1]; rfl
    · rw [if_neg h1]
      have hm : mustE out = 0 := Classical.byContradiction fun hn => h1 (.inl hn)
      by_cases h2 : (packGo (bs.length : Int) [] 0 0 out).1 = bs.take (bs.length - rest.length)
      · have h3 := packs_all hu hm _ h2
        rw [if_neg (not_not_intro h2)]
        have hlen := congrArg List.length h3
        rw [List.length_take] at hlen
        simp only [List.length_append, List.length_cons, List.length_nil] at hlen
        have hbs : bs = pk 0 out ++ 0 :: bs.drop (bs.length - rest.length) := by
          conv => lhs; rw [← List.take_append_drop (bs.length - rest.length) bs, ← h3]
          simp
        have hl := pk_len out 0
        have hz := (mustE_zero hm).1
        have hr := refU_all out (bs.length + 1) 0 (bs.drop (bs.length - rest.length)) [] (by omega) (okL_of_must hm) (by omega) (by omega) (by simp; omega)
        rw [← hbs] at hr
        have hu2 := refU_unp _ _ _ _ _ hb hr
        rw [hu] at hu2
        simp only [List.nil_append, Option.some.injEq, Prod.mk.injEq, true_and] at hu2
        rw [hr]
        simp only [List.nil_append]
        rw [← hu2, if_neg h1]
        have h4 := packGo_fit (out := out) (most := ((bs.length - rest.length : Nat) : Int)) (by omega)
        rw [if_neg (not_not_intro (by rw [h4, h3]))]
        rw [h2, ← h3]
        simp only [List.length_append, List.length_cons, List.length_nil, liftU, cond_true, Prod.mk.injEq, true_and]
        omega
      · rw [if_pos h2]
        cases hr : refU (bs.length + 1) bs 0 [] with
        | none => rfl
        | some y =>
          have := refU_unp _ _ _ _ _ hb hr
          rw [hu] at this
          cases this
          simp only
          rw [if_neg h1]
          rw [if_pos (fun h => h2 (by
            have h3 := packs_all hu hm _ h
            have hlen := congrArg List.length h3
            rw [List.length_take] at hlen
            simp only [List.length_append, List.length_cons, List.length_nil] at hlen
            rw [packGo_fit (by omega), h3]))]
          rfl
end Go.Proofs.Ytjdkdogiaokhjaa
