/- When a batch is valid: the program's function, walked. -/
import Derived.Test.YtifejekkbipakaaDoorVal
set_option linter.unusedVariables false
set_option linter.unusedSimpArgs false
namespace Go.Proofs.YtifejekkbipakaaDoor
open Go.RowKit Go.Proofs.YtifejekkbipakaaDoorW.PrintWords Go.Proofs.YtifejekkbipakaaDoorW.PrintLast

set_option maxHeartbeats 2000000 in
theorem batLast_i (x : Bat) (A5 : Option Addr) (c5 : Nat) (w : World) (h : BatIn w x A5 c5) (hp : 0 < x.rs.length) :
    Calls Tryd.prog 35 #[.agg #[.bool x.pk, .bool x.mrk, .int .i64 x.pr, .int .i64 x.ep, .int .i64 x.sq, .slice A5 x.rs.length c5]] w (RB (.int .i64 (lastO x)) w) := by
  have hm := h.g5.2.1
  obtain ⟨ad, A3, c3, A6, c6, rfl, hR⟩ := rec_at h.g5 (x.rs.length - 1) (by omega)
  have hc := hR.h0
  clear hR h
  obtain ⟨m, hm'⟩ : ∃ m, x.rs.length = m + 1 := ⟨x.rs.length - 1, by omega⟩
  unfold lastO
  rw [hm'] at hc hm ⊢
  simp only [Nat.add_sub_cancel] at hc ⊢
  clear hp hm'
  have hc2 := fun cs t => pw_cell_below (below_alloc (Below.refl w.heap.size w) (.cells cs t)) hc
  clear hc
  go_enter Tryd.func35, Tryd.ntmps35
  go_wp2
  go_ret
  exact ⟨rfl, below_alloc (Below.refl _ _) _⟩
set_option maxHeartbeats 2000000 in
theorem batFirst_i (x : Bat) (A5 : Option Addr) (c5 : Nat) (w : World) (h : BatIn w x A5 c5) (hp : 0 < x.rs.length) :
    Calls Tryd.prog 36 #[.agg #[.bool x.pk, .bool x.mrk, .int .i64 x.pr, .int .i64 x.ep, .int .i64 x.sq, .slice A5 x.rs.length c5]] w (RB (.int .i64 (firstO x)) w) := by
  have hm := h.g5.2.1
  obtain ⟨ad, A3, c3, A6, c6, rfl, hR⟩ := rec_at h.g5 0 hp
  have hc := hR.h0
  replace hc : w.cell? ad = some (.int .i64 (rdR x.rs 0).o) := hc
  clear hR h
  unfold firstO
  have hc2 := fun cs t => pw_cell_below (below_alloc (Below.refl w.heap.size w) (.cells cs t)) hc
  clear hc
  go_enter Tryd.func36, Tryd.ntmps36
  go_wp2
  go_ret
  exact ⟨rfl, below_alloc (Below.refl _ _) _⟩
set_option maxHeartbeats 8000000 in
theorem batValid_i (x : Bat) (A5 : Option Addr) (c5 : Nat) (w : World) (h : BatIn w x A5 c5) :
    Calls Tryd.prog 34 #[.agg #[.bool x.pk, .bool x.mrk, .int .i64 x.pr, .int .i64 x.ep, .int .i64 x.sq, .slice A5 x.rs.length c5]] w (RB (.bool (batOk x)) w) := by
  have hm := h.g5.2.1
  have HI := Lib.hid h; clear h
  have cI := idValid_i x.pr
  have cE := within_i x.ep 0 99
  have cS := within_i x.sq 0 9999
  have cL := within_i x.rs.length 1 6
  obtain ⟨b1, e1⟩ : ∃ b, inR x.pr 0 254 = b := ⟨_, rfl⟩
  obtain ⟨b2, e2⟩ : ∃ b, inR x.ep 0 99 = b := ⟨_, rfl⟩
  obtain ⟨b3, e3⟩ : ∃ b, inR x.sq 0 9999 = b := ⟨_, rfl⟩
  obtain ⟨b4, e4⟩ : ∃ b, inR x.rs.length 1 6 = b := ⟨_, rfl⟩
  rw [e1] at cI
  rw [e2] at cE
  rw [e3] at cS
  rw [e4] at cL
  have E1 := Aside0.mk e1
  have E2 := Aside0.mk e2
  have E3 := Aside0.mk e3
  have E4 := Aside0.mk e4
  clear e1 e2 e3 e4
  have CI := Lib.hid cI; clear cI
  have CE := Lib.hid cE; clear cE
  have CS := Lib.hid cS; clear cS
  have CL := Lib.hid cL; clear cL
  go_enter Tryd.func34, Tryd.ntmps34
  go_wp2_with (first | (go_at_call 52; (with_reducible refine (CI.out _).mono ?_); rintro e w1 ⟨rfl, rfl⟩) | (go_at_call 53; (with_reducible refine (CE.out _).mono ?_); rintro e w1 ⟨rfl, rfl⟩) | (go_at_call 53; (with_reducible refine (CS.out _).mono ?_); rintro e w1 ⟨rfl, rfl⟩) | (go_at_call 53; (with_reducible refine (CL.out _).mono ?_); rintro e w1 ⟨rfl, rfl⟩))
  all_goals first
    | (go_ret; exact ⟨ret_bool (by have e1 := E1.out; have e2 := E2.out; have e3 := E3.out; have e4 := E4.out; simp_all [batOk, prodOk, lenOk]), below_alloc (Below.refl _ _) _⟩)
    | skip
  all_goals
    go_loopw [54] (fun i wr => ∃ k : Nat, k ≤ x.rs.length ∧ i = .int .i64 k ∧ Aside0 ((List.range k).all (goodR x.rs) = true) ∧ Below w.heap.size w wr ∧ Aside0 (w.heap.size < wr.heap.size ∧ wr.cell? ⟨w.heap.size, 5, none⟩ = some (.slice A5 x.rs.length c5))) (fun i _ => x.rs.length - (intOf i).toNat)
    case atStart => exact ⟨0, by omega, rfl, ⟨rfl⟩, below_alloc (Below.refl _ _) _, ⟨by simp, (blk_cell (blk_new w _) 5).trans rfl⟩⟩
    case round =>
      obtain ⟨k, hk, rfl, HT, hb, ⟨hsz, hcb⟩⟩ := hrel
      by_cases hlt : k < x.rs.length
      · obtain ⟨ad, A3, c3, A6, c6, rfl, hR⟩ := rec_at (Kd.C_below HI.out.g5 hb) k hlt
        obtain ⟨h0, h1, h2, h3, h4, h5, -, -, -, -⟩ := id hR
        have cR := recValid_i (rdR x.rs k) A3 c3 A6 c6
        obtain ⟨b, eb⟩ : ∃ b, recOk (rdR x.rs k) = b := ⟨_, rfl⟩
        rw [eb] at cR
        have EB := Aside0.mk eb; clear eb
        have CR := Aside0.mk cR; clear cR
        have HRA := Aside0.mk hR; clear hR
        have HB := Aside0.mk hb; clear hb
        have HC := Aside0.mk (And.intro hsz hcb); clear hsz hcb
        cases b
        · go_wp2_with fail
          refine wp_region_belowW (by kernel_rfl) (by kernel_rfl) (fun W hW => ?_)
          have f1 := BW.cells hW
          have HW := Aside0.mk hW; clear hW
          repeat (go_big_quiet_step (((go_at_call 25; exact BW.call (CR.out _ (HRA.out.inn.below (BW.old HW.out _)))))))
          refine wpQuiet_nil ?_
          rintro _ ⟨n, rfl⟩
          go_wp2
          go_ret
          exact ⟨ret_bool (by rw [batOk, recsOk, range_false hlt (by rw [goodR, EB.out]; rfl)]; simp), below_step HB.out (BW.old HW.out _)⟩
        · rcases Nat.eq_zero_or_pos k with hk0 | hk0
          · have g1 : decide (0 < k) = false := decide_eq_false (by omega)
            have g2 : decide ((0 : Int) < (k : Int)) = false := decide_eq_false (by omega)
            have HK := Aside0.mk hk0; clear hk0
            go_wp2_with fail
            refine wp_region_belowW (by kernel_rfl) (by kernel_rfl) (fun W hW => ?_)
            have f1 := BW.cells hW
            have HW := Aside0.mk hW; clear hW
            repeat (go_big_quiet_step (((go_at_call 25; exact BW.call (CR.out _ (HRA.out.inn.below (BW.old HW.out _)))))))
            refine wpQuiet_nil ?_
            rintro _ ⟨n, rfl⟩
            go_wp2
            go_roundw
            case rel => exact ⟨k + 1, by omega, by go_num, ⟨range_succ HT.out (by rw [goodR, EB.out, HK.out]; rfl)⟩, below_step HB.out (BW.old HW.out _), ⟨by have := (BW.old HW.out n).size; have := HC.out.1; omega, pw_cell_below (BW.old HW.out n) HC.out.2⟩⟩
            case measure => simp [intOf]; omega
          · obtain ⟨m, rfl⟩ : ∃ m, k = m + 1 := ⟨k - 1, by omega⟩
            obtain ⟨ad', B3, d3, B6, d6, he, hR2⟩ := rec_at (Kd.C_below HI.out.g5 HB.out) m (by omega)
            cases he
            have p0 := hR2.h0
            clear hR2
            have HP := Aside0.mk hk0; clear hk0
            go_wp2_with fail
            refine wp_region_belowW (by kernel_rfl) (by kernel_rfl) (fun W hW => ?_)
            have f1 := BW.cells hW
            have f2 := BW.cell hW HC.out.2
            have f3 := BW.cell hW p0
            have HW := Aside0.mk hW; clear hW
            repeat (go_big_quiet_step (((go_at_call 25; exact BW.call (CR.out _ (HRA.out.inn.below (BW.old HW.out _)))))))
            refine wpQuiet_nil ?_
            rintro _ ⟨n, rfl⟩
            go_wp2
            · go_ret
              exact ⟨ret_bool (by rw [batOk, recsOk, range_false hlt (by rw [goodR, EB.out]; simp; omega)]; simp), below_step HB.out (BW.old HW.out _)⟩
            · go_roundw
              case rel => exact ⟨m + 1 + 1, by omega, by go_num, ⟨range_succ HT.out (by rw [goodR, EB.out]; simp; omega)⟩, below_step HB.out (BW.old HW.out _), ⟨by have := (BW.old HW.out n).size; have := HC.out.1; omega, pw_cell_below (BW.old HW.out n) HC.out.2⟩⟩
              case measure => simp [intOf]; omega
      · obtain rfl : k = x.rs.length := by omega
        go_wp2
        go_ret
        exact ⟨ret_bool (by have e1 := E1.out; have e2 := E2.out; have e3 := E3.out; have e4 := E4.out; have e5 := HT.out; simp_all [batOk, prodOk, lenOk, recsOk]), hb⟩
end Go.Proofs.YtifejekkbipakaaDoor
