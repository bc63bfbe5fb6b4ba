/- Runs: the law's 'sanity'. -/
import Derived.Test.YtjdkdogiaokhjaaSd
namespace Go.Proofs.Ytjdkdogiaokhjaa
open Go.RowKit Go.Proofs
set_option linter.unusedSimpArgs false
set_option linter.unusedVariables false

set_option maxRecDepth 100000 in
set_option maxHeartbeats 4000000 in
theorem sanity_any (w : World) : Calls Try.prog 14 #[] w fun e w' => e = .returned (.bool true) ∧ Below w.heap.size w w' := by
  have hs := St.start w
  go_enter Try.func14, Try.ntmps14
  go_wp2_with fail
  refine (lawRun_any _ _ _).mono ?_; rintro e w1 ⟨rfl, hB⟩; replace hs := hs.next hB; clear hB
  go_wp2_with fail
  refine (lawRun_any _ _ _).mono ?_; rintro e w2 ⟨rfl, hB⟩; replace hs := hs.next hB; clear hB
  go_wp2_with fail
  refine (lawRun_any _ _ _).mono ?_; rintro e w3 ⟨rfl, hB⟩; replace hs := hs.next hB; clear hB
  go_wp2_with fail
  replace hs := (hs.alloc (.cells (rv sl0).toArray 53)).push (Rd.lit w3 sl0 53)
  refine (Size0 _ _ (hs.rd _ (List.mem_cons_self ..))).mono ?_; rintro e w4 ⟨rfl, hB⟩; replace hs := hs.next hB; clear hB
  go_wp2_with fail
  refine (Map0 _ _ (hs.rd _ (List.mem_cons_self ..))).mono ?_; rintro e w5 ⟨rfl, hB⟩; replace hs := hs.next hB; clear hB
  go_wp2_with fail
  refine (Punch0 _ _ (hs.rd _ (List.mem_cons_self ..))).mono ?_; rintro e w6 ⟨A1, c1, A2, c2, rfl, r1, r2, hB⟩; replace hs := ((hs.next hB).push r1).push r2; clear hB r1 r2
  go_wp2_with fail
  refine (Pack0 _ _ (hs.rd (some ⟨w3.heap.size, 0, none⟩, sl0) (by simp))).mono ?_; rintro e w7 ⟨AB, cB, rfl, hcB, rB, hB⟩; replace hs := (hs.next hB).pushB rB; clear hB rB
  go_wp2_with fail
  refine (lawRun_any _ _ _).mono ?_; rintro e w8 ⟨rfl, hB⟩; replace hs := hs.next hB; clear hB
  go_wp2_with fail
  replace hs := (hs.alloc (.cells (rv [(1, 2)]).toArray 53)).push (Rd.lit w8 [(1, 2)] 53)
  refine (Put0 _ _ _ (hs.rd (some ⟨w3.heap.size, 0, none⟩, sl0) (by simp)) (hs.rd _ (List.mem_cons_self ..))).mono ?_; rintro e w9 ⟨A3, c3, A4, c4, rfl, r1, r2, hB⟩; replace hs := ((hs.next hB).push r1).push r2; clear hB r1 r2
  go_wp2_with fail
  replace hs := (hs.alloc (.cells (slB.map (Value.int .u8)).toArray 5)).pushB (RdB.lit w9 slB 5 slB_bytes)
  refine (Unpack0 _ _ (hs.rb _ (List.mem_cons_self ..))).mono ?_; rintro e w10 ⟨A5, c5, rfl, r1, hB⟩; replace hs := (hs.next hB).push r1; clear hB r1
  go_wp2_with fail
  refine (lawRun_any _ _ _).mono ?_; rintro e w11 ⟨rfl, hB⟩; replace hs := hs.next hB; clear hB
  go_wp2_with fail
  refine (lawRun_any _ _ _).mono ?_; rintro e w12 ⟨rfl, hB⟩; replace hs := hs.next hB; clear hB
  go_wp2_with fail
  replace hs := (hs.alloc (.cells (rv [(-1, 3), (7, 3)]).toArray 53)).push (Rd.lit w12 [(-1, 3), (7, 3)] 53)
  refine (Same0 [(-1, 3), (7, 3)] (hs.rd (A1, [(-1, 3), (7, 3)]) (by simp)) (hs.rd _ (List.mem_cons_self ..)) rfl rfl (by decide)).mono ?_; rintro e w13 ⟨rfl, hB⟩; replace hs := hs.next hB; clear hB
  go_wp2_with fail
  refine (lawRun_any _ _ _).mono ?_; rintro e w14 ⟨rfl, hB⟩; replace hs := hs.next hB; clear hB
  go_wp2_with fail
  replace hs := (hs.alloc (.cells (rv [(5, 2)]).toArray 53)).push (Rd.lit w14 [(5, 2)] 53)
  refine (Same0 [(5, 2)] (hs.rd (A2, [(5, 2)]) (by simp)) (hs.rd _ (List.mem_cons_self ..)) rfl rfl (by decide)).mono ?_; rintro e w15 ⟨rfl, hB⟩; replace hs := hs.next hB; clear hB
  have hk : (convert 40 9 (.slice AB 9 cB)).run Try.prog w15 = .ok (.string ⟨#[17, 2, 5, 1, 1, 17, 3, 2, 0]⟩) w15 := conv_bytes (hs.rb (AB, [17, 2, 5, 1, 1, 17, 3, 2, 0]) (by simp)) (by simp)
  go_wp2_with fail
  clear hk
  refine (lawRun_any _ _ _).mono ?_; rintro e w16 ⟨rfl, hB⟩; replace hs := hs.next hB; clear hB
  go_wp2_with fail
  refine (lawRun_any _ _ _).mono ?_; rintro e w17 ⟨rfl, hB⟩; replace hs := hs.next hB; clear hB
  go_wp2_with fail
  refine (lawRun_any _ _ _).mono ?_; rintro e w18 ⟨rfl, hB⟩; replace hs := hs.next hB; clear hB
  go_wp2_with fail
  refine (lawRun_any _ _ _).mono ?_; rintro e w19 ⟨rfl, hB⟩; replace hs := hs.next hB; clear hB
  go_wp2_with fail
  replace hs := (hs.alloc (.cells (rv [(5, 2), (-1, 1), (7, 2), (1, 2)]).toArray 53)).push (Rd.lit w19 [(5, 2), (-1, 1), (7, 2), (1, 2)] 53)
  refine (Same0 [(5, 2), (-1, 1), (7, 2), (1, 2)] (hs.rd (A3, [(5, 2), (-1, 1), (7, 2), (1, 2)]) (by simp)) (hs.rd _ (List.mem_cons_self ..)) rfl rfl (by decide)).mono ?_; rintro e w20 ⟨rfl, hB⟩; replace hs := hs.next hB; clear hB
  go_wp2_with fail
  refine (lawRun_any _ _ _).mono ?_; rintro e w21 ⟨rfl, hB⟩; replace hs := hs.next hB; clear hB
  go_wp2_with fail
  replace hs := (hs.alloc (.cells (rv [(9, 1)]).toArray 53)).push (Rd.lit w21 [(9, 1)] 53)
  refine (Same0 [(9, 1)] (hs.rd (A4, [(9, 1)]) (by simp)) (hs.rd _ (List.mem_cons_self ..)) rfl rfl (by decide)).mono ?_; rintro e w22 ⟨rfl, hB⟩; replace hs := hs.next hB; clear hB
  go_wp2_with fail
  refine (lawRun_any _ _ _).mono ?_; rintro e w23 ⟨rfl, hB⟩; replace hs := hs.next hB; clear hB
  go_wp2_with fail
  refine (lawRun_any _ _ _).mono ?_; rintro e w24 ⟨rfl, hB⟩; replace hs := hs.next hB; clear hB
  go_wp2_with fail
  replace hs := (hs.alloc (.cells (rv [(300, 1), (2, 1)]).toArray 53)).push (Rd.lit w24 [(300, 1), (2, 1)] 53)
  refine (Same0 [(300, 1), (2, 1)] (hs.rd (A5, [(300, 1), (2, 1)]) (by simp)) (hs.rd _ (List.mem_cons_self ..)) rfl rfl (by decide)).mono ?_; rintro e w25 ⟨rfl, hB⟩; replace hs := hs.next hB; clear hB
  go_wp2_with fail
  go_ret
  exact ⟨rfl, hs.below⟩
end Go.Proofs.Ytjdkdogiaokhjaa
