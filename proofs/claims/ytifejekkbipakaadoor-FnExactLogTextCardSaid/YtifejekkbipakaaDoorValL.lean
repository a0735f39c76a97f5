/- When a log is valid: the program's function, walked. -/
import Derived.Test.YtifejekkbipakaaDoorValB
set_option linter.unusedVariables false
set_option linter.unusedSimpArgs false
namespace Go.Proofs.YtifejekkbipakaaDoor
open Go.RowKit Go.Proofs.YtifejekkbipakaaDoorW.PrintWords Go.Proofs.YtifejekkbipakaaDoorW.PrintLast

theorem batOk_len {b : Bat} (h : batOk b = true) : 0 < b.rs.length ∧ b.rs.length ≤ 6 := by
  simp only [batOk, lenOk, inR, Bool.and_eq_true, decide_eq_true_eq] at h
  omega
theorem logOk_false {l : List Bat} {k : Nat} (hk : k < l.length) (h : goodB l k = false) : logOk l = false := by rw [logOk, range_false hk h, Bool.and_false]
set_option maxHeartbeats 8000000 in
theorem logValid_i (A0 : Option Addr) (c0 : Nat) (l : List Bat) (w : World) (h : batK.C w A0 l.length l) :
    Calls Tryd.prog 17 #[.slice A0 l.length c0] w (RB (.bool (logOk l)) w) := by
  have hm := h.2.1
  have HI := Aside0.mk h; clear h
  rcases Nat.lt_or_ge 8 l.length with h8 | h8
  · have g1 : decide (8 < l.length) = true := decide_eq_true h8
    have g2 : decide ((8 : Int) < (l.length : Int)) = true := decide_eq_true (by omega)
    have H8 := Aside0.mk h8; clear h8
    go_enter Tryd.func17, Tryd.ntmps17
    go_wp2
    go_ret
    exact ⟨ret_bool (by rw [logOk, decide_eq_false (by have := H8.out; omega)]; rfl), Below.refl _ _⟩
  · go_enter Tryd.func17, Tryd.ntmps17
    go_wp2
    go_loopw [10] (fun i wr => ∃ k : Nat, k ≤ l.length ∧ i = .int .i64 k ∧ Aside0 ((List.range k).all (goodB l) = true) ∧ Below w.heap.size w wr) (fun i _ => l.length - (intOf i).toNat)
    case atStart => exact ⟨0, by omega, rfl, ⟨rfl⟩, Below.refl _ _⟩
    case round =>
      obtain ⟨k, hk, rfl, HT, hb⟩ := hrel
      by_cases hlt : k < l.length
      · obtain ⟨ad, A5, c5, rfl, hR⟩ := bat_at (Kd.C_below HI.out hb) k hlt
        obtain ⟨h0, h1, h2, h3, h4, h5, -, -⟩ := id hR
        have cR := batValid_i (rdB l k) A5 c5
        obtain ⟨b, eb⟩ : ∃ b, batOk (rdB l k) = b := ⟨_, rfl⟩
        rw [eb] at cR
        have EB := Aside0.mk eb; clear eb
        have CR := Aside0.mk cR; clear cR
        have HRA := Aside0.mk hR; clear hR
        have HB := Aside0.mk hb; clear hb
        cases b
        · go_wp2_with fail
          refine wp_region_belowW (by kernel_rfl) (by kernel_rfl) (fun W hW => ?_)
          have f1 := BW.cells hW
          have HW := Aside0.mk hW; clear hW
          repeat (go_big_quiet_step (((go_at_call 34; exact BW.call (CR.out _ (HRA.out.inn.below (BW.old HW.out _)))))))
          refine wpQuiet_nil ?_
          rintro _ ⟨n, rfl⟩
          go_wp2
          go_ret
          exact ⟨ret_bool (by rw [logOk_false hlt (by rw [goodB, EB.out]; rfl)]), below_step HB.out (BW.old HW.out _)⟩
        · rcases Nat.eq_zero_or_pos k with hk0 | hk0
          · have g1 : decide (0 < k) = false := decide_eq_false (by omega)
            have g2 : decide ((0 : Int) < (k : Int)) = false := decide_eq_false (by omega)
            have HK := Aside0.mk hk0; clear hk0
            go_wp2_with fail
            refine wp_region_belowW (by kernel_rfl) (by kernel_rfl) (fun W hW => ?_)
            have f1 := BW.cells hW
            have HW := Aside0.mk hW; clear hW
            repeat (go_big_quiet_step (((go_at_call 34; exact BW.call (CR.out _ (HRA.out.inn.below (BW.old HW.out _)))))))
            refine wpQuiet_nil ?_
            rintro _ ⟨n, rfl⟩
            go_wp2
            go_roundw
            case rel => exact ⟨k + 1, by omega, by go_num, ⟨range_succ HT.out (by rw [goodB, EB.out, HK.out]; rfl)⟩, below_step HB.out (BW.old HW.out _)⟩
            case measure => simp [intOf]; omega
          · obtain ⟨m, rfl⟩ : ∃ m, k = m + 1 := ⟨k - 1, by omega⟩
            obtain ⟨ad', A7, c7, he, hR2⟩ := bat_at (Kd.C_below HI.out HB.out) m (by omega)
            cases he
            have hl1 := (batOk_len EB.out).1
            have hl2 : 0 < (rdB l m).rs.length := by
              have hg := List.all_eq_true.1 HT.out m (List.mem_range.2 (by omega))
              rw [goodB, Bool.and_eq_true] at hg
              exact (batOk_len hg.1).1
            have cL := fun W hW => batLast_i (rdB l m) A7 c7 W hW hl2
            have cF := fun W hW => batFirst_i (rdB l (m + 1)) A5 c5 W hW hl1
            have CL := Aside0.mk cL; clear cL hl2
            have CF := Aside0.mk cF; clear cF hl1
            obtain ⟨q0, q1, q2, q3, q4, q5, -, -⟩ := id hR2
            have HR2 := Aside0.mk hR2; clear hR2
            have HP := Aside0.mk hk0; clear hk0
            go_wp2_with fail
            refine wp_region_belowW (by kernel_rfl) (by kernel_rfl) (fun W hW => ?_)
            have f1 := BW.cells hW
            replace q0 := BW.cell hW q0
            replace q1 := BW.cell hW q1
            replace q2 := BW.cell hW q2
            replace q3 := BW.cell hW q3
            replace q4 := BW.cell hW q4
            replace q5 := BW.cell hW q5
            have HW := Aside0.mk hW; clear hW
            repeat (go_big_quiet_step ((first | (go_at_call 34; exact BW.call (CR.out _ (HRA.out.inn.below (BW.old HW.out _)))) | (go_at_call 35; exact BW.call (CL.out _ (HR2.out.inn.below (BW.old HW.out _)))) | (go_at_call 36; exact BW.call (CF.out _ (HRA.out.inn.below (BW.old HW.out _)))))))
            refine wpQuiet_nil ?_
            rintro _ ⟨n, rfl⟩
            go_wp2
            · go_ret
              exact ⟨ret_bool (by rw [logOk_false hlt (by rw [goodB, EB.out]; simp; omega)]), below_step HB.out (BW.old HW.out _)⟩
            · go_roundw
              case rel => exact ⟨m + 1 + 1, by omega, by go_num, ⟨range_succ HT.out (by rw [goodB, EB.out]; simp; omega)⟩, below_step HB.out (BW.old HW.out _)⟩
              case measure => simp [intOf]; omega
      · obtain rfl : k = l.length := by omega
        go_wp2
        go_ret
        exact ⟨ret_bool (by rw [logOk, HT.out]; simp; omega), hb⟩
end Go.Proofs.YtifejekkbipakaaDoor
