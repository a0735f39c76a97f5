/- The law's own helpers: comparisons of what is equal, walked. -/
import Derived.Test.YtifejekkbipakaaDoorLawU
set_option linter.unusedVariables false
set_option linter.unusedSimpArgs false
namespace Go.Proofs.YtifejekkbipakaaDoor
open Go.RowKit Go.Proofs.YtifejekkbipakaaDoorW.PrintWords Go.Proofs.YtifejekkbipakaaDoorW.PrintLast

set_option maxHeartbeats 4000000 in
theorem eqIntS_l (A0 A1 : Option Addr) (c0 c1 : Nat) (l : List Int) (w : World) (hC : intK.C w A0 l.length l) (hD : intK.C w A1 l.length l) : Calls Tryd.prog 71 #[.slice A0 l.length c0, .slice A1 l.length c1] w (RB (.bool true) w) := by
  have hn := hC.2.1
  have HC := Aside0.mk hC; clear hC
  have HD := Aside0.mk hD; clear hD
  go_enter Tryd.func71, Tryd.ntmps71
  go_wp2
  go_loopw [5] (fun i wr => ∃ k : Nat, k ≤ l.length ∧ i = .int .i64 k ∧ Below w.heap.size w wr) (fun i _ => l.length - (intOf i).toNat)
  case atStart => exact ⟨0, by omega, rfl, Below.refl _ _⟩
  case round =>
    obtain ⟨k, hk, rfl, hb⟩ := hrel
    by_cases hlt : k < l.length
    · obtain ⟨ad, rfl, hc⟩ := Kd.at_int (Kd.C_below HC.out hb) (k : Int) (by omega) (by omega)
      obtain ⟨ad2, rfl, hc2⟩ := Kd.at_int (Kd.C_below HD.out hb) (k : Int) (by omega) (by omega)
      rw [Int.toNat_natCast] at hc hc2
      have HB := Aside0.mk hb; clear hb
      have g0 : (0 : Int) ≤ (k : Int) := by omega
      have g1 : (k : Int) < (l.length : Int) := by omega
      go_wp2
      go_quiet (fail)
      go_wp2
      go_roundw
      case rel => exact ⟨k + 1, by omega, by go_num, pw_below_drewN HB.out _⟩
      case measure => simp [intOf]; omega
    · obtain rfl : k = l.length := by omega
      go_wp2
      go_ret
      exact ⟨rfl, hb⟩
set_option maxHeartbeats 4000000 in
theorem eqRecord_l (x : Rec) (A3 : Option Addr) (c3 : Nat) (A5 : Option Addr) (c5 : Nat) (B3 : Option Addr) (d3 : Nat) (B5 : Option Addr) (d5 : Nat) (w : World) (h : RecIn w x A3 c3 A5 c5) (h' : RecIn w x B3 d3 B5 d5) :
    Calls Tryd.prog 63 #[.agg #[.int .i64 x.o, .int .i64 x.t, .bool x.hk, .slice A3 x.k.length c3, .bool x.hv, .slice A5 x.v.length c5], .agg #[.int .i64 x.o, .int .i64 x.t, .bool x.hk, .slice B3 x.k.length d3, .bool x.hv, .slice B5 x.v.length d5]] w (RB (.bool true) w) := by
  have c1 := fun W (hW : Below w.heap.size w W) => eqIntS_l A3 B3 c3 d3 x.k W (Kd.C_below h.g3 hW) (Kd.C_below h'.g3 hW)
  have c2 := fun W (hW : Below w.heap.size w W) => eqIntS_l A5 B5 c5 d5 x.v W (Kd.C_below h.g5 hW) (Kd.C_below h'.g5 hW)
  clear h h'
  have C1 := Aside0.mk c1; clear c1
  have C2 := Aside0.mk c2; clear c2
  go_enter Tryd.func63, Tryd.ntmps63
  go_wp2_with fail
  refine calls_at (fun W hW => ?_)
  have k0 : W.heap[w.heap.size]? = some (.cells #[.int .i64 x.o, .int .i64 x.t, .bool x.hk, .slice A3 x.k.length c3, .bool x.hv, .slice A5 x.v.length c5] 33 (0, 0)) := by rw [hW]; exact blk_alloc (blk_new w _) _
  have k1 : W.heap[w.heap.size + 1]? = some (.cells #[.int .i64 x.o, .int .i64 x.t, .bool x.hk, .slice B3 x.k.length d3, .bool x.hv, .slice B5 x.v.length d5] 33 (0, 0)) := by
    rw [hW]; simpa using blk_new (w.alloc _) (.cells #[.int .i64 x.o, .int .i64 x.t, .bool x.hk, .slice B3 x.k.length d3, .bool x.hv, .slice B5 x.v.length d5] 33)
  have hB : Below w.heap.size w W := by rw [hW]; exact below_alloc (below_alloc (Below.refl _ _) _) _
  clear hW
  refine (C1.out W hB).mono ?_
  rintro e w1 ⟨rfl, hb1⟩
  replace k0 := blk_below k0 hb1
  replace k1 := blk_below k1 hb1
  replace hB := below_step hB hb1
  clear hb1
  obtain ⟨q0, -⟩ := blkc k0
  obtain ⟨q1, -⟩ := blkc k1
  have HB := Aside0.mk hB; clear hB
  clear k0 k1
  go_wp2_with fail
  refine (C2.out w1 HB.out).mono ?_
  rintro e w2 ⟨rfl, hb2⟩
  go_wp2
  go_ret
  exact ⟨rfl, below_step HB.out hb2⟩
set_option maxHeartbeats 4000000 in
theorem eqRecordS_l (A0 A1 : Option Addr) (c0 c1 : Nat) (l : List Rec) (w : World) (hC : recK.C w A0 l.length l) (hD : recK.C w A1 l.length l) : Calls Tryd.prog 50 #[.slice A0 l.length c0, .slice A1 l.length c1] w (RB (.bool true) w) := by
  have hn := hC.2.1
  have HC := Aside0.mk hC; clear hC
  have HD := Aside0.mk hD; clear hD
  go_enter Tryd.func50, Tryd.ntmps50
  go_wp2
  go_loopw [5] (fun i wr => ∃ k : Nat, k ≤ l.length ∧ i = .int .i64 k ∧ Below w.heap.size w wr) (fun i _ => l.length - (intOf i).toNat)
  case atStart => exact ⟨0, by omega, rfl, Below.refl _ _⟩
  case round =>
    obtain ⟨k, hk, rfl, hb⟩ := hrel
    by_cases hlt : k < l.length
    · obtain ⟨ad, A3, c3, A6, c6, rfl, hR⟩ := rec_at (Kd.C_below HC.out hb) k hlt
      obtain ⟨ad2, B3, d3, B6, d6, rfl, hR2⟩ := rec_at (Kd.C_below HD.out hb) k hlt
      obtain ⟨h0, h1, h2, h3, h4, h5, -, -, -, -⟩ := id hR
      obtain ⟨q0, q1, q2, q3, q4, q5, -, -, -, -⟩ := id hR2
      have c2 := fun W (hW : Below wr.heap.size wr W) => eqRecord_l (rdR l k) A3 c3 A6 c6 B3 d3 B6 d6 W (hR.inn.below hW) (hR2.inn.below hW)
      have C2 := Aside0.mk c2; clear c2 hR hR2
      have HB := Aside0.mk hb; clear hb
      have g0 : (0 : Int) ≤ (k : Int) := by omega
      have g1 : (k : Int) < (l.length : Int) := by omega
      go_wp2_with fail
      refine wp_region_belowW (by kernel_rfl) (by kernel_rfl) (fun W hW => ?_)
      replace h0 := BW.cellE hW h0
      replace h1 := BW.cellE hW h1
      replace h2 := BW.cellE hW h2
      replace h3 := BW.cellE hW h3
      replace h4 := BW.cellE hW h4
      replace h5 := BW.cellE hW h5
      replace q0 := BW.cellE hW q0
      replace q1 := BW.cellE hW q1
      replace q2 := BW.cellE hW q2
      replace q3 := BW.cellE hW q3
      replace q4 := BW.cellE hW q4
      replace q5 := BW.cellE hW q5
      have HW := Aside0.mk hW; clear hW
      repeat (go_big_quiet_step (((go_at_call 63; exact BW.call (C2.out _ (BW.oldE HW.out _))))))
      refine wpQuiet_nil ?_
      rintro _ ⟨n, rfl⟩
      go_wp2
      go_roundw
      case rel => exact ⟨k + 1, by omega, by go_num, below_step HB.out (BW.oldE HW.out _)⟩
      case measure => simp [intOf]; omega
    · obtain rfl : k = l.length := by omega
      go_wp2
      go_ret
      exact ⟨rfl, hb⟩
set_option maxHeartbeats 4000000 in
theorem eqBatch_l (x : Bat) (A5 : Option Addr) (c5 : Nat) (B5 : Option Addr) (d5 : Nat) (w : World) (h : BatIn w x A5 c5) (h' : BatIn w x B5 d5) :
    Calls Tryd.prog 30 #[.agg #[.bool x.pk, .bool x.mrk, .int .i64 x.pr, .int .i64 x.ep, .int .i64 x.sq, .slice A5 x.rs.length c5], .agg #[.bool x.pk, .bool x.mrk, .int .i64 x.pr, .int .i64 x.ep, .int .i64 x.sq, .slice B5 x.rs.length d5]] w (RB (.bool true) w) := by
  have c1 := fun W (hW : Below w.heap.size w W) => eqRecordS_l A5 B5 c5 d5 x.rs W (Kd.C_below h.g5 hW) (Kd.C_below h'.g5 hW)
  clear h h'
  have C1 := Aside0.mk c1; clear c1
  go_enter Tryd.func30, Tryd.ntmps30
  go_wp2_with fail
  refine calls_at (fun W hW => ?_)
  have hB : Below w.heap.size w W := by rw [hW]; exact below_alloc (below_alloc (Below.refl _ _) _) _
  clear hW
  refine (C1.out W hB).mono ?_
  rintro e w1 ⟨rfl, hb1⟩
  go_wp2
  go_ret
  exact ⟨rfl, below_step hB hb1⟩
set_option maxHeartbeats 4000000 in
theorem eqBatchS_l (A0 A1 : Option Addr) (c0 c1 : Nat) (l : List Bat) (w : World) (hC : batK.C w A0 l.length l) (hD : batK.C w A1 l.length l) : Calls Tryd.prog 14 #[.slice A0 l.length c0, .slice A1 l.length c1] w (RB (.bool true) w) := by
  have hn := hC.2.1
  have HC := Aside0.mk hC; clear hC
  have HD := Aside0.mk hD; clear hD
  go_enter Tryd.func14, Tryd.ntmps14
  go_wp2
  go_loopw [5] (fun i wr => ∃ k : Nat, k ≤ l.length ∧ i = .int .i64 k ∧ Below w.heap.size w wr) (fun i _ => l.length - (intOf i).toNat)
  case atStart => exact ⟨0, by omega, rfl, Below.refl _ _⟩
  case round =>
    obtain ⟨k, hk, rfl, hb⟩ := hrel
    by_cases hlt : k < l.length
    · obtain ⟨ad, A6, c6, rfl, hR⟩ := bat_at (Kd.C_below HC.out hb) k hlt
      obtain ⟨ad2, B6, d6, rfl, hR2⟩ := bat_at (Kd.C_below HD.out hb) k hlt
      obtain ⟨h0, h1, h2, h3, h4, h5, -, -⟩ := id hR
      obtain ⟨q0, q1, q2, q3, q4, q5, -, -⟩ := id hR2
      have c2 := fun W (hW : Below wr.heap.size wr W) => eqBatch_l (rdB l k) A6 c6 B6 d6 W (hR.inn.below hW) (hR2.inn.below hW)
      have C2 := Aside0.mk c2; clear c2 hR hR2
      have HB := Aside0.mk hb; clear hb
      have g0 : (0 : Int) ≤ (k : Int) := by omega
      have g1 : (k : Int) < (l.length : Int) := by omega
      go_wp2_with fail
      refine wp_region_belowW (by kernel_rfl) (by kernel_rfl) (fun W hW => ?_)
      replace h0 := BW.cellE hW h0
      replace h1 := BW.cellE hW h1
      replace h2 := BW.cellE hW h2
      replace h3 := BW.cellE hW h3
      replace h4 := BW.cellE hW h4
      replace h5 := BW.cellE hW h5
      replace q0 := BW.cellE hW q0
      replace q1 := BW.cellE hW q1
      replace q2 := BW.cellE hW q2
      replace q3 := BW.cellE hW q3
      replace q4 := BW.cellE hW q4
      replace q5 := BW.cellE hW q5
      have HW := Aside0.mk hW; clear hW
      repeat (go_big_quiet_step (((go_at_call 30; exact BW.call (C2.out _ (BW.oldE HW.out _))))))
      refine wpQuiet_nil ?_
      rintro _ ⟨n, rfl⟩
      go_wp2
      go_roundw
      case rel => exact ⟨k + 1, by omega, by go_num, below_step HB.out (BW.oldE HW.out _)⟩
      case measure => simp [intOf]; omega
    · obtain rfl : k = l.length := by omega
      go_wp2
      go_ret
      exact ⟨rfl, hb⟩
end Go.Proofs.YtifejekkbipakaaDoor
