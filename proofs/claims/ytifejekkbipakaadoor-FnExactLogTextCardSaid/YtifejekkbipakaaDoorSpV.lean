
/- When a record, a batch, a log is valid: the reference's functions, walked: the same plain functions. -/
import Derived.Test.YtifejekkbipakaaDoorValL
set_option linter.unusedVariables false
set_option linter.unusedSimpArgs false
namespace Go.Proofs.YtifejekkbipakaaDoor
open Go.RowKit Go.Proofs.YtifejekkbipakaaDoorW.PrintWords Go.Proofs.YtifejekkbipakaaDoorW.PrintLast

theorem l6In_s (n lo hi : Int) (w : World) : Calls Tryd.prog 42 #[.int .i64 n, .int .i64 lo, .int .i64 hi] w (RS (.bool (inR n lo hi)) w) := by
  unfold inR
  cases h1 : decide (lo ≤ n)
  · go_enter Tryd.func42, Tryd.ntmps42
    go_wp2
    go_ret
    exact ⟨rfl, rfl⟩
  · go_enter Tryd.func42, Tryd.ntmps42
    go_wp2
    go_ret
    exact ⟨rfl, rfl⟩
set_option maxHeartbeats 2000000 in
theorem l1Ok_s (A0 : Option Addr) (c0 : Nat) (l : List Int) (w : World) (hr : intK.C w A0 l.length l) : Calls Tryd.prog 64 #[.slice A0 l.length c0] w (RS (.bool (allB l)) w) := by
  have hm := hr.2.1
  have HR := Lib.hid hr
  clear hr
  go_enter Tryd.func64, Tryd.ntmps64
  go_wp2
  go_loop [3] (fun i => ∃ k : Nat, k ≤ l.length ∧ i = .int .i64 k ∧ Hid ((l.take k).all (fun n => inR n 0 255) = true)) (fun i => l.length - (intOf i).toNat)
  case atStart => exact ⟨0, by omega, rfl, rfl⟩
  case round =>
    obtain ⟨k, hk, rfl, HT⟩ := hrel
    by_cases hlt : k < l.length
    · obtain ⟨ad, rfl, hc⟩ := Kd.at_int HR.out (k : Int) (by omega) (by omega)
      rw [Int.toNat_natCast] at hc
      have c1 := l6In_s (rd l k) 0 255
      have hT := all_take (fun n => inR n 0 255) l 0 k hlt
      have hF := all_false (p := fun n => inR n 0 255) (l := l) 0 hlt
      rw [show l.getD k 0 = rd l k from rfl] at hT hF
      generalize inR (rd l k) 0 255 = b1 at c1 hT hF
      have C1 := Lib.hid c1; clear c1
      cases b1
      · have F := Lib.hid (hF rfl); clear hF hT
        go_wp2_with fail
        refine (C1.out _).mono ?_
        rintro e w1 ⟨rfl, rfl⟩
        go_wp2
        go_ret
        exact ⟨by rw [allB, F.out]; rfl, rfl⟩
      · have T := Lib.hid hT; clear hT hF
        go_wp2_with fail
        refine (C1.out _).mono ?_
        rintro e w1 ⟨rfl, rfl⟩
        go_wp2
        go_round
        case rel => exact ⟨k + 1, by omega, by go_num, (T.out.trans (by rw [HT.out]; rfl) : _)⟩
        case measure => simp [intOf]; omega
    · obtain rfl : k = l.length := by omega
      rw [List.take_length] at HT
      go_wp2
      go_ret
      exact ⟨by rw [allB, HT.out]; rfl, rfl⟩
theorem l3Part_s (has : Bool) (A0 : Option Addr) (c0 : Nat) (l : List Int) (w : World) (hr : intK.C w A0 l.length l) : Calls Tryd.prog 65 #[.bool has, .slice A0 l.length c0] w (RS (.bool (partOk has l)) w) := by
  have hm := hr.2.1
  have C1 := Aside0.mk (l1Ok_s A0 c0 l w hr)
  clear hr
  unfold partOk
  cases has
  · cases l with
    | nil =>
      go_enter Tryd.func65, Tryd.ntmps65
      go_wp2_with fail
      refine C1.out.mono ?_
      rintro e w1 ⟨rfl, rfl⟩
      go_wp2
      go_ret
      exact ⟨rfl, rfl⟩
    | cons x l =>
      have h1 : (((x :: l).length : Int) == 0) = false := by rw [beq_eq_false_iff_ne]; simp; omega
      have h2 : ((x :: l).length == 0) = false := rfl
      rw [h2]
      generalize (x :: l).length = n at *
      clear C1
      go_enter Tryd.func65, Tryd.ntmps65
      go_wp2
      go_ret
      exact ⟨rfl, rfl⟩
  · generalize allB l = b at *
    cases b
    · go_enter Tryd.func65, Tryd.ntmps65
      go_wp2_with fail
      refine C1.out.mono ?_
      rintro e w1 ⟨rfl, rfl⟩
      go_wp2
      go_ret
      exact ⟨ret_bool (by simp), rfl⟩
    · go_enter Tryd.func65, Tryd.ntmps65
      go_wp2_with fail
      refine C1.out.mono ?_
      rintro e w1 ⟨rfl, rfl⟩
      go_wp2
      go_ret
      exact ⟨ret_bool (by rw [Bool.eq_iff_iff]; simp; omega), rfl⟩
set_option maxHeartbeats 2000000 in
theorem recValid_s (x : Rec) (A3 : Option Addr) (c3 : Nat) (A5 : Option Addr) (c5 : Nat) (w : World) (h : RecIn w x A3 c3 A5 c5) :
    Calls Tryd.prog 56 #[.agg #[.int .i64 x.o, .int .i64 x.t, .bool x.hk, .slice A3 x.k.length c3, .bool x.hv, .slice A5 x.v.length c5]] w (RB (.bool (recOk x)) w) := by
  have c1 := l6In_s x.o 0 99999
  have c2 := l6In_s x.t 0 99999
  have hw := fun cs t => below_alloc (Below.refl w.heap.size w) (.cells cs t)
  have c3' := fun cs t => l3Part_s x.hk A3 c3 x.k _ (Kd.C_below h.g3 (hw cs t))
  have c4 := fun cs t => l3Part_s x.hv A5 c5 x.v _ (Kd.C_below h.g5 (hw cs t))
  unfold recOk
  generalize inR x.o 0 99999 = b1 at c1 ⊢
  generalize inR x.t 0 99999 = b2 at c2 ⊢
  generalize partOk x.hk x.k = b3 at c3' ⊢
  generalize partOk x.hv x.v = b4 at c4 ⊢
  have C1 := Lib.hid c1; clear c1
  have C2 := Lib.hid c2; clear c2
  have C3 := Lib.hid c3'; clear c3'
  have C4 := Lib.hid c4; clear c4
  have HW := Lib.hid hw; clear hw
  go_enter Tryd.func56, Tryd.ntmps56
  go_wp2_with (first | (go_at_call 42; (with_reducible refine (C1.out _).mono ?_); rintro e w1 ⟨rfl, rfl⟩) | (go_at_call 42; (with_reducible refine (C2.out _).mono ?_); rintro e w1 ⟨rfl, rfl⟩) | (go_at_call 65; (with_reducible refine (C3.out _ _).mono ?_); rintro e w1 ⟨rfl, rfl⟩) | (go_at_call 65; (with_reducible refine (C4.out _ _).mono ?_); rintro e w1 ⟨rfl, rfl⟩))
  all_goals (go_ret; exact ⟨ret_bool (by simp_all), HW.out _ _⟩)
set_option maxHeartbeats 8000000 in
theorem l5Records_s (A5 : Option Addr) (c5 : Nat) (l : List Rec) (w : World) (h : recK.C w A5 l.length l) :
    Calls Tryd.prog 41 #[.slice A5 l.length c5] w (RB (.bool (recsOk l && inR l.length 1 6)) w) := by
  have hm := h.2.1
  have HI := Lib.hid h; clear h
  have cL := l6In_s l.length 1 6
  have CL := Aside0.mk cL; clear cL
  go_enter Tryd.func41, Tryd.ntmps41
  go_wp2
  go_loopw [3] (fun i wr => ∃ k : Nat, k ≤ l.length ∧ i = .int .i64 k ∧ Aside0 ((List.range k).all (goodR l) = true) ∧ Below w.heap.size w wr) (fun i _ => l.length - (intOf i).toNat)
  case atStart => exact ⟨0, by omega, rfl, ⟨rfl⟩, Below.refl _ _⟩
  case round =>
    obtain ⟨k, hk, rfl, HT, hb⟩ := hrel
    by_cases hlt : k < l.length
    · obtain ⟨ad, A3, c3, A6, c6, rfl, hR⟩ := rec_at (Kd.C_below HI.out hb) k hlt
      obtain ⟨h0, h1, h2, h3, h4, h5, -, -, -, -⟩ := id hR
      have cR := recValid_s (rdR l k) A3 c3 A6 c6
      obtain ⟨b, eb⟩ : ∃ b, recOk (rdR l k) = b := ⟨_, rfl⟩
      rw [eb] at cR
      have EB := Aside0.mk eb; clear eb
      have CR := Aside0.mk cR; clear cR
      have HRA := Aside0.mk hR; clear hR
      have HB := Aside0.mk hb; clear hb
      cases b
      · go_wp2_with fail
        refine wp_region_belowW (by kernel_rfl) (by kernel_rfl) (fun W hW => ?_)
        replace h0 := BW.cellE hW h0
        replace h1 := BW.cellE hW h1
        replace h2 := BW.cellE hW h2
        replace h3 := BW.cellE hW h3
        replace h4 := BW.cellE hW h4
        replace h5 := BW.cellE hW h5
        have HW := Aside0.mk hW; clear hW
        repeat (go_big_quiet_step (((go_at_call 56; exact BW.call (CR.out _ (HRA.out.inn.below (BW.oldE HW.out _)))))))
        refine wpQuiet_nil ?_
        rintro _ ⟨n, rfl⟩
        go_wp2
        go_ret
        exact ⟨ret_bool (by rw [recsOk, range_false hlt (by rw [goodR, EB.out]; rfl)]; rfl), below_step HB.out (BW.oldE HW.out _)⟩
      · rcases Nat.eq_zero_or_pos k with hk0 | hk0
        · have g1 : decide (0 < k) = false := decide_eq_false (by omega)
          have g2 : decide ((0 : Int) < (k : Int)) = false := decide_eq_false (by omega)
          have HK := Aside0.mk hk0; clear hk0
          go_wp2_with fail
          refine wp_region_belowW (by kernel_rfl) (by kernel_rfl) (fun W hW => ?_)
          replace h0 := BW.cellE hW h0
          replace h1 := BW.cellE hW h1
          replace h2 := BW.cellE hW h2
          replace h3 := BW.cellE hW h3
          replace h4 := BW.cellE hW h4
          replace h5 := BW.cellE hW h5
          have HW := Aside0.mk hW; clear hW
          repeat (go_big_quiet_step (((go_at_call 56; exact BW.call (CR.out _ (HRA.out.inn.below (BW.oldE HW.out _)))))))
          refine wpQuiet_nil ?_
          rintro _ ⟨n, rfl⟩
          go_wp2
          go_roundw
          case rel => exact ⟨k + 1, by omega, by go_num, ⟨range_succ HT.out (by rw [goodR, EB.out, HK.out]; rfl)⟩, below_step HB.out (BW.oldE HW.out _)⟩
          case measure => simp [intOf]; omega
        · obtain ⟨m, rfl⟩ : ∃ m, k = m + 1 := ⟨k - 1, by omega⟩
          obtain ⟨ad', B3, d3, B6, d6, he, hR2⟩ := rec_at (Kd.C_below HI.out HB.out) m (by omega)
          cases he
          have p0 := hR2.h0
          clear hR2
          have HP := Aside0.mk hk0; clear hk0
          go_wp2_with fail
          refine wp_region_belowW (by kernel_rfl) (by kernel_rfl) (fun W hW => ?_)
          replace h0 := BW.cellE hW h0
          replace h1 := BW.cellE hW h1
          replace h2 := BW.cellE hW h2
          replace h3 := BW.cellE hW h3
          replace h4 := BW.cellE hW h4
          replace h5 := BW.cellE hW h5
          replace p0 := BW.cellE hW p0
          have HW := Aside0.mk hW; clear hW
          repeat (go_big_quiet_step (((go_at_call 56; exact BW.call (CR.out _ (HRA.out.inn.below (BW.oldE HW.out _)))))))
          refine wpQuiet_nil ?_
          rintro _ ⟨n, rfl⟩
          go_wp2
          · go_ret
            exact ⟨ret_bool (by rw [recsOk, range_false hlt (by rw [goodR, EB.out]; simp; omega)]; rfl), below_step HB.out (BW.oldE HW.out _)⟩
          · go_roundw
            case rel => exact ⟨m + 1 + 1, by omega, by go_num, ⟨range_succ HT.out (by rw [goodR, EB.out]; simp; omega)⟩, below_step HB.out (BW.oldE HW.out _)⟩
            case measure => simp [intOf]; omega
    · obtain rfl : k = l.length := by omega
      go_wp2_with fail
      refine (CL.out _).mono ?_
      rintro e w1 ⟨rfl, rfl⟩
      go_wp2
      go_ret
      exact ⟨ret_bool (by rw [recsOk, HT.out]; rfl), hb⟩
end Go.Proofs.YtifejekkbipakaaDoor
