/- When a batch, a log is valid: the reference's functions, walked. -/
import Derived.Test.YtifejekkbipakaaDoorSpV
set_option linter.unusedVariables false
set_option linter.unusedSimpArgs false
namespace Go.Proofs.YtifejekkbipakaaDoor
open Go.RowKit Go.Proofs.YtifejekkbipakaaDoorW.PrintWords Go.Proofs.YtifejekkbipakaaDoorW.PrintLast

set_option maxHeartbeats 8000000 in
theorem batValid_s (x : Bat) (A5 : Option Addr) (c5 : Nat) (w : World) (h : BatIn w x A5 c5) :
    Calls Tryd.prog 23 #[.agg #[.bool x.pk, .bool x.mrk, .int .i64 x.pr, .int .i64 x.ep, .int .i64 x.sq, .slice A5 x.rs.length c5]] w (RB (.bool (batOk x)) w) := by
  have hm := h.g5.2.1
  have cR := fun W (hW : Below w.heap.size w W) => l5Records_s A5 c5 x.rs W (Kd.C_below h.g5 hW)
  clear h
  have cP := l6In_s x.pr 0 255
  have cE := l6In_s x.ep 0 99
  have cS := l6In_s x.sq 0 9999
  have hbat : batOk x = (((recsOk x.rs && inR x.rs.length 1 6) && (inR x.pr 0 255 && (inR x.ep 0 99 && inR x.sq 0 9999))) && ((x.pr == 255 && (x.ep == 0 && (x.sq == 0 && !x.mrk))) || (!(x.pr == 255) && (!x.mrk || (x.rs.length : Int) == 1)))) := by
    rw [Bool.eq_iff_iff]
    simp only [batOk, prodOk, lenOk, inR]
    cases recsOk x.rs <;> cases x.mrk <;> by_cases h1 : x.pr = 255 <;> simp [h1] <;> omega
  rw [hbat]
  clear hbat
  generalize (recsOk x.rs && inR x.rs.length 1 6) = b1 at cR ⊢
  generalize inR x.pr 0 255 = b2 at cP ⊢
  generalize inR x.ep 0 99 = b3 at cE ⊢
  generalize inR x.sq 0 9999 = b4 at cS ⊢
  have CR := Aside0.mk cR; clear cR
  have CP := Aside0.mk cP; clear cP
  have CE := Aside0.mk cE; clear cE
  have CS := Aside0.mk cS; clear cS
  go_enter Tryd.func23, Tryd.ntmps23
  go_wp2_with fail
  refine (CR.out _ (below_alloc (Below.refl _ _) _)).mono ?_
  rintro e w1 ⟨rfl, hb⟩
  obtain ⟨hb, hc, -, -⟩ := boxed hb
  cases b1
  · go_wp2
    go_ret
    exact ⟨rfl, hb⟩
  · go_wp2_with (first | (go_at_call 42; (with_reducible refine (CP.out _).mono ?_); rintro e w1 ⟨rfl, rfl⟩) | (go_at_call 42; (with_reducible refine (CE.out _).mono ?_); rintro e w1 ⟨rfl, rfl⟩) | (go_at_call 42; (with_reducible refine (CS.out _).mono ?_); rintro e w1 ⟨rfl, rfl⟩))
    all_goals (go_ret; exact ⟨ret_bool (by simp_all), hb⟩)
set_option maxHeartbeats 2000000 in
theorem l12Last_s (x : Bat) (A5 : Option Addr) (c5 : Nat) (w : World) (h : BatIn w x A5 c5) (hp : 0 < x.rs.length) :
    Calls Tryd.prog 24 #[.agg #[.bool x.pk, .bool x.mrk, .int .i64 x.pr, .int .i64 x.ep, .int .i64 x.sq, .slice A5 x.rs.length c5]] w (RB (.int .i64 (lastO x)) w) := by
  have hm := h.g5.2.1
  obtain ⟨ad, A3, c3, A6, c6, rfl, hR⟩ := rec_at h.g5 (x.rs.length - 1) (by omega)
  have hc := hR.h0
  clear hR h
  obtain ⟨m, hm'⟩ : ∃ m, x.rs.length = m + 1 := ⟨x.rs.length - 1, by omega⟩
  unfold lastO
  rw [hm'] at hc hm ⊢
  simp only [Nat.add_sub_cancel] at hc ⊢
  clear hp hm'
  have hc2 := fun cs t => pw_cell_below (below_alloc (Below.refl w.heap.size w) (.cells cs t)) hc
  clear hc
  go_enter Tryd.func24, Tryd.ntmps24
  go_wp2
  go_ret
  exact ⟨rfl, below_alloc (Below.refl _ _) _⟩
set_option maxHeartbeats 8000000 in
theorem logValid_s (A0 : Option Addr) (c0 : Nat) (l : List Bat) (w : World) (h : batK.C w A0 l.length l) :
    Calls Tryd.prog 9 #[.slice A0 l.length c0] w (RB (.bool (logOk l)) w) := by
  have hm := h.2.1
  have HI := Aside0.mk h; clear h
  go_enter Tryd.func9, Tryd.ntmps9
  go_wp2
  go_loopw [3] (fun i wr => ∃ k : Nat, k ≤ l.length ∧ i = .int .i64 k ∧ Aside0 ((List.range k).all (goodB l) = true) ∧ Below w.heap.size w wr) (fun i _ => l.length - (intOf i).toNat)
  case atStart => exact ⟨0, by omega, rfl, ⟨rfl⟩, Below.refl _ _⟩
  case round =>
    obtain ⟨k, hk, rfl, HT, hb⟩ := hrel
    by_cases hlt : k < l.length
    · obtain ⟨ad, A5, c5, rfl, hR⟩ := bat_at (Kd.C_below HI.out hb) k hlt
      obtain ⟨h0, h1, h2, h3, h4, h5, -, -⟩ := id hR
      have cR := batValid_s (rdB l k) A5 c5
      obtain ⟨b, eb⟩ : ∃ b, batOk (rdB l k) = b := ⟨_, rfl⟩
      rw [eb] at cR
      have EB := Aside0.mk eb; clear eb
      have CR := Aside0.mk cR; clear cR
      have HRA := Aside0.mk hR; clear hR
      have HB := Aside0.mk hb; clear hb
      cases b
      · go_wp2_with fail
        refine wp_region_belowW (by kernel_rfl) (by kernel_rfl) (fun W hW => ?_)
        replace h0 := BW.cellE hW h0
        replace h1 := BW.cellE hW h1
        replace h2 := BW.cellE hW h2
        replace h3 := BW.cellE hW h3
        replace h4 := BW.cellE hW h4
        replace h5 := BW.cellE hW h5
        have HW := Aside0.mk hW; clear hW
        repeat (go_big_quiet_step (((go_at_call 23; exact BW.call (CR.out _ (HRA.out.inn.below (BW.oldE HW.out _)))))))
        refine wpQuiet_nil ?_
        rintro _ ⟨n, rfl⟩
        go_wp2
        go_ret
        exact ⟨ret_bool (by rw [logOk_false hlt (by rw [goodB, EB.out]; rfl)]), below_step HB.out (BW.oldE HW.out _)⟩
      · rcases Nat.eq_zero_or_pos k with hk0 | hk0
        · have g1 : decide (0 < k) = false := decide_eq_false (by omega)
          have g2 : decide ((0 : Int) < (k : Int)) = false := decide_eq_false (by omega)
          have HK := Aside0.mk hk0; clear hk0
          go_wp2_with fail
          refine wp_region_belowW (by kernel_rfl) (by kernel_rfl) (fun W hW => ?_)
          replace h0 := BW.cellE hW h0
          replace h1 := BW.cellE hW h1
          replace h2 := BW.cellE hW h2
          replace h3 := BW.cellE hW h3
          replace h4 := BW.cellE hW h4
          replace h5 := BW.cellE hW h5
          have HW := Aside0.mk hW; clear hW
          repeat (go_big_quiet_step (((go_at_call 23; exact BW.call (CR.out _ (HRA.out.inn.below (BW.oldE HW.out _)))))))
          refine wpQuiet_nil ?_
          rintro _ ⟨n, rfl⟩
          go_wp2
          go_roundw
          case rel => exact ⟨k + 1, by omega, by go_num, ⟨range_succ HT.out (by rw [goodB, EB.out, HK.out]; rfl)⟩, below_step HB.out (BW.oldE HW.out _)⟩
          case measure => simp [intOf]; omega
        · obtain ⟨m, rfl⟩ : ∃ m, k = m + 1 := ⟨k - 1, by omega⟩
          obtain ⟨ad', A7, c7, he, hR2⟩ := bat_at (Kd.C_below HI.out HB.out) m (by omega)
          cases he
          have hl1 := (batOk_len EB.out).1
          have hl2 : 0 < (rdB l m).rs.length := by
            have hg := List.all_eq_true.1 HT.out m (List.mem_range.2 (by omega))
            rw [goodB, Bool.and_eq_true] at hg
            exact (batOk_len hg.1).1
          have cL := fun W hW => l12Last_s (rdB l m) A7 c7 W hW hl2
          have CL := Aside0.mk cL; clear cL hl2
          obtain ⟨q0, q1, q2, q3, q4, q5, -, -⟩ := id hR2
          have HR2 := Aside0.mk hR2; clear hR2
          obtain ⟨ad0, A3, c3, A6, c6, rfl, hR3⟩ := rec_at HRA.out.g5 0 hl1
          have r0 : wr.cell? ad0 = some (.int .i64 (firstO (rdB l (m + 1)))) := hR3.h0
          clear hR3
          have g1 : (0 : Int) < ((rdB l (m + 1)).rs.length : Int) := by omega
          have HP := Aside0.mk hk0; clear hk0
          go_wp2_with fail
          refine wp_region_belowW (by kernel_rfl) (by kernel_rfl) (fun W hW => ?_)
          replace h0 := BW.cellE hW h0
          replace h1 := BW.cellE hW h1
          replace h2 := BW.cellE hW h2
          replace h3 := BW.cellE hW h3
          replace h4 := BW.cellE hW h4
          replace h5 := BW.cellE hW h5
          replace q0 := BW.cellE hW q0
          replace q1 := BW.cellE hW q1
          replace q2 := BW.cellE hW q2
          replace q3 := BW.cellE hW q3
          replace q4 := BW.cellE hW q4
          replace q5 := BW.cellE hW q5
          replace r0 := BW.cellE hW r0
          have HW := Aside0.mk hW; clear hW
          repeat (go_big_quiet_step ((first | (go_at_call 23; exact BW.call (CR.out _ (HRA.out.inn.below (BW.oldE HW.out _)))) | (go_at_call 24; exact BW.call (CL.out _ (HR2.out.inn.below (BW.oldE HW.out _)))))))
          refine wpQuiet_nil ?_
          rintro _ ⟨n, rfl⟩
          go_wp2
          · go_ret
            exact ⟨ret_bool (by rw [logOk_false hlt (by rw [goodB, EB.out]; simp; omega)]), below_step HB.out (BW.oldE HW.out _)⟩
          · go_roundw
            case rel => exact ⟨m + 1 + 1, by omega, by go_num, ⟨range_succ HT.out (by rw [goodB, EB.out]; simp; omega)⟩, below_step HB.out (BW.oldE HW.out _)⟩
            case measure => simp [intOf]; omega
    · obtain rfl : k = l.length := by omega
      go_wp2
      go_ret
      exact ⟨ret_bool (by rw [logOk, HT.out, Bool.and_true, Bool.eq_iff_iff]; simp; omega), hb⟩
end Go.Proofs.YtifejekkbipakaaDoor
