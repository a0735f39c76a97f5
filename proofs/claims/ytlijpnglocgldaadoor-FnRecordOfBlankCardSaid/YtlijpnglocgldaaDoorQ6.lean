-- Laid by wip/xprint.py and wip/resplit.py (programs of this session's over the kit's printer). Not trusted: Lean checks it.
import Derived.Test.YtlijpnglocgldaaDoorBase
import Derived.Test.YtlijpnglocgldaaDoorShort
import Derived.Test.YtlijpnglocgldaaDoorQ1
import Derived.Test.YtlijpnglocgldaaDoorQ3
namespace Go.Proofs.YtlijpnglocgldaaDoor.P
open Go.RowKit Go.Proofs.YtlijpnglocgldaaDoorW.PrintWords Go.Proofs.YtlijpnglocgldaaDoorW.PrintLast Go.Proofs.YtlijpnglocgldaaDoorW.PrintMore
attribute [local go_sem] max2_int min2_int max_two min_two max_three min_three max_four min_four   -- for this text's walks alone
set_option linter.unusedVariables false
set_option linter.unusedSimpArgs false

/-! ### spec_l6Rd_of: function 38 -/
def spec_l6Rd_of.f (k : Nat) (s0_0 : List Int) (s0_1 : Int) (l1 : List ByteArray) : Option (ByteArray × Int) := (spec_l6Rd_pick.f k s0_0 s0_1 (l1.length : Int)).bind fun bt365 => (if 0 ≤ bt365.1 then (if bt365.1 < (l1.length : Int) then (some (rdOf ByteArray.empty l1 bt365.1, bt365.2)) else (none)) else (none))
theorem spec_l6Rd_of.mono : ∀ a0 a1 a2 k, LeO (spec_l6Rd_of.f k a0 a1 a2) (spec_l6Rd_of.f (k + 1) a0 a1 a2) := by
 intro a0 a1 a2 k
 unfold spec_l6Rd_of.f
 repeat' first
   | (with_reducible exact spec_l6Rd_pick.mono _ _ _ _)
   | (with_reducible exact LeO.refl _)
   | (with_reducible exact LeO.none _)
   | (with_reducible refine LeO.ite ?_ ?_)
   | (with_reducible refine LeO.bind ?_ (fun _ => ?_))
   | exact spec_l6Rd_pick.mono _ _ _ _
   | exact LeO.none _
   | refine LeO.ite ?_ ?_
   | refine LeO.bind ?_ (fun _ => ?_)
set_option maxHeartbeats 8000000 in
set_option maxRecDepth 100000 in
theorem spec_l6Rd_of.calls (k : Nat) (g : Nat) (s0_0 : List Int) (s0_1 : Int) (A1 : Option Addr) (c1 : Nat) (l1 : List ByteArray) (r1 : ByteArray) (r2 : Int) (w0 w : World) (hI : IsS75 w0 w g s0_0 s0_1) (hB : Below w0.heap.size w0 w) (hr1 : Kd.C Kd.string w A1 l1.length l1) (hc1 : l1.length ≤ c1) (hf1 : ∀ ad, A1 = some ad → 0 < l1.length → ad.block ≠ g) (h : spec_l6Rd_of.f k s0_0 s0_1 l1 = some (r1, r2)) :
  Calls Tryd.prog 38 #[.pointer (some ⟨g, 0, none⟩), .slice A1 l1.length c1] w fun e w' => e = .returned (.string r1) ∧ IsS75 w0 w' g s0_0 r2 ∧ Below w0.heap.size w0 w' ∧ KeepBut w w' g none := by
 have HR1 := Aside0.mk hr1
 have HC1 := Aside0.mk hc1
 clear hr1 hc1
 have HI0 := Aside0.mk hI
 have HK := Aside0.mk (KeepBut.refl w g none)
 have HL := Aside0.mk hB.size
 clear hI
 have HW0 := Aside0.mk hB.size
 have HB := Aside0.mk hB
 clear hB
 have H : ((spec_l6Rd_pick.f k s0_0 s0_1 (l1.length : Int)).bind fun bt365 => (if 0 ≤ bt365.1 then (if bt365.1 < (l1.length : Int) then (some (rdOf ByteArray.empty l1 bt365.1, bt365.2)) else (none)) else (none))) = some (r1, r2) := h
 clear h
 replace H := Option.bind_eq_some_iff.mp H
 obtain ⟨⟨t365, t366⟩, A30, H⟩ := H
 replace H : (if 0 ≤ t365 then (if t365 < (l1.length : Int) then (some (rdOf ByteArray.empty l1 t365, t366)) else (none)) else (none)) = some (r1, r2) := H
 have A3 := Aside0.mk A30
 clear A30
 by_cases c4 : 0 ≤ t365
 ·rw [if_pos c4] at H
  have c4b0 : decide (0 ≤ t365) = true := decide_eq_true c4
  clear c4
  by_cases c5 : t365 < (l1.length : Int)
  ·rw [if_pos c5] at H
   have c5b0 : decide (t365 < (l1.length : Int)) = true := decide_eq_true c5
   clear c5
   simp only [Option.some.injEq, Prod.mk.injEq] at H
   obtain ⟨rfl, rfl⟩ := H
   go_enter Tryd.func38, Tryd.ntmps38
   go_wp2_with (first | ((with_reducible refine gate_callee (f := 39) rfl ?_); refine goesL_ (some 9) rfl rfl Tryd.func39 (by kernel_rfl) rfl #[.pointer (some ⟨g, 0, none⟩), .int .i64 (l1.length : Int)] rfl (by (try simp only [List.map_toArray, List.map_cons, List.map_nil]); first | done | rfl | (simp only [List.length_drop, List.length_take]; rfl)) ?_; (with_reducible refine (spec_l6Rd_pick.calls k g s0_0 s0_1 (l1.length : Int) t365 t366 w0 _ ?side1 ?side2 A3.out).mono ?_); (case side1 => repeat (first | (with_reducible first | exact HI0.out | apply IsS75.alloc | apply IsS75.drewN | apply IsS75.drew | apply IsS75.set_1) | exact HI0.out)); (case side2 => repeat (first | (with_reducible first | exact HB.out | apply below_alloc | apply pw_below_drewN | apply below_drew1 | refine below_set ?_ (IsS75.ge HI0.out)) | exact HB.out)); rintro e w6 ⟨rfl, hi, hb, hk⟩; refine ⟨_, rfl, ?_⟩; have n0_ := Aside0.mk (KeepBut.trans (kK0 HK) hk (.inl rfl)); have n1_ := Aside0.mk (hb); have n2_ := Aside0.mk (hi); clear HK HB HI0; have HK := n0_; have HB := n1_; have HI0 := n2_; clear n0_ n1_ n2_; (try clear hb); (try clear hb2); (try clear hk); (try clear hi); have p367 : 0 ≤ (t365 : Int) := of_decide_eq_true (by first | (with_reducible assumption) | assumption); have q367 : t365 < (l1.length : Int) := of_decide_eq_true (by first | (with_reducible assumption) | assumption); obtain ⟨ad367, e367, hx367_0⟩ := Kd.at_string HR1.out t365 p367 q367; cases e367; replace hx367_0 := keep_cell HK.out hx367_0 (by first | (rw [add_block]; exact hf1 _ rfl (by omega)) | exact hf1 _ rfl (by omega) | exact hf1 ad367 rfl (by omega)); replace p367 := eq_true p367; replace q367 := eq_true q367))
   go_ret
   exact ⟨by first | rfl | (simp [errW_none, errW_some] <;> rfl) | (simp [*, errW_none, errW_some] <;> rfl), by repeat (first | (with_reducible first | exact HI0.out | apply IsS75.alloc | apply IsS75.drewN | apply IsS75.drew | apply IsS75.set_1) | exact HI0.out), by repeat (first | (with_reducible first | exact HB.out | apply below_alloc | apply pw_below_drewN | apply below_drew1 | refine below_set ?_ (IsS75.ge HI0.out)) | exact HB.out), by repeat (first | (with_reducible first | exact HK.out | apply KeepBut.set_ | apply keep_drewN | apply keep_drew | apply keep_alloc) | exact HK.out)⟩
  ·rw [if_neg c5] at H
   exact absurd H (by simp)
 ·rw [if_neg c4] at H
  exact absurd H (by simp)

/-! ### spec_DrawRecordOf: function 17 -/
def spec_DrawRecordOf.f (k : Nat) (l0 : List Int) : Option (ByteArray) := (spec_l6Open.f l0).bind fun bt368 => ((spec_l91Record.f k bt368.1 bt368.2).bind fun bt371 => ((spec_RecordText.f k bt371.1 bt371.2.1 bt371.2.2.1 bt371.2.2.2.1 bt371.2.2.2.2.1 bt371.2.2.2.2.2.1).bind fun t382 => (if t382.toList = ([] : List UInt8) then ((spec_l6Rd_of.f k bt368.1 bt371.2.2.2.2.2.2 (([(⟨#[]⟩ : ByteArray), (⟨#[49, 32, 50, 32, 45, 32, 45]⟩ : ByteArray), (⟨#[48, 49, 32, 50, 32, 45, 32, 45]⟩ : ByteArray), (⟨#[49, 32, 50, 32, 120, 48, 32, 45]⟩ : ByteArray), (⟨#[49, 32, 50, 32, 120, 65, 65, 32, 45]⟩ : ByteArray), (⟨#[49, 32, 50, 32, 121, 32, 45]⟩ : ByteArray), (⟨#[49, 32, 50, 32, 45]⟩ : ByteArray)] : List ByteArray))).bind fun bt386 => (some bt386.1)) else ((spec_l6Rd_pick.f k bt368.1 bt371.2.2.2.2.2.2 (t382.size : Int)).bind fun bt388 => ((spec_l6Rd_pick.f k bt368.1 bt388.2 6).bind fun bt390 => (if bt390.1 = 0 then (if 0 ≤ bt388.1 then (if bt388.1 ≤ (t382.size : Int) then ((spec_l6Rd_of.f k bt368.1 bt390.2 (([(⟨#[48]⟩ : ByteArray), (⟨#[120]⟩ : ByteArray), (⟨#[32]⟩ : ByteArray), (⟨#[102]⟩ : ByteArray), (⟨#[45]⟩ : ByteArray)] : List ByteArray))).bind fun bt395 => (if (t382.extract 0 (bt388.1 : Int).toNat).size + bt395.1.size ≤ 9223372036854775807 then (if 0 ≤ (wrap64 (bt388.1 + 1)) then (if (wrap64 (bt388.1 + 1)) ≤ (t382.size : Int) then (if ((t382.extract 0 (bt388.1 : Int).toNat) ++ bt395.1).size + (t382.extract ((wrap64 (bt388.1 + 1)) : Int).toNat t382.size).size ≤ 9223372036854775807 then (some (((t382.extract 0 (bt388.1 : Int).toNat) ++ bt395.1) ++ (t382.extract ((wrap64 (bt388.1 + 1)) : Int).toNat t382.size))) else (none)) else (none)) else (none)) else (none))) else (none)) else (none)) else (some t382)))))))
theorem spec_DrawRecordOf.mono : ∀ a0 k, LeO (spec_DrawRecordOf.f k a0) (spec_DrawRecordOf.f (k + 1) a0) := by
 intro a0 k
 unfold spec_DrawRecordOf.f
 repeat' first
   | (with_reducible exact spec_RecordText.mono _ _ _ _ _ _ _)
   | (with_reducible exact spec_l6Rd_of.mono _ _ _ _)
   | (with_reducible exact spec_l6Rd_pick.mono _ _ _ _)
   | (with_reducible exact spec_l91Record.mono _ _ _)
   | (with_reducible exact LeO.refl _)
   | (with_reducible exact LeO.none _)
   | (with_reducible refine LeO.ite ?_ ?_)
   | (with_reducible refine LeO.bind ?_ (fun _ => ?_))
   | exact spec_RecordText.mono _ _ _ _ _ _ _
   | exact spec_l6Rd_of.mono _ _ _ _
   | exact spec_l6Rd_pick.mono _ _ _ _
   | exact spec_l91Record.mono _ _ _
   | exact LeO.none _
   | refine LeO.ite ?_ ?_
   | refine LeO.bind ?_ (fun _ => ?_)
def spec_DrawRecordOf.T7 : Bool × List (List Nat × List Nat) := (true, [([], []), ([], []), ([0, 1], [0, 1]), ([], []), ([], []), ([3, 4], [3, 4]), ([2, 5], [2, 5]), ([], []), ([], []), ([8], [8]), ([7, 9], [7, 9]), ([6, 10], [6, 10]), ([11, 5, 0, 1, 2, 3, 4, 5, 6, 7, 8, 9, 10, 11], [11])])
def spec_DrawRecordOf.B7 : List Nat := [0, 0, 3, 0, 0, 24, 63, 0, 0, 256, 896, 2047, 4095]
theorem spec_DrawRecordOf.tab7 : rtab .any (opsOf Tryd.f17 7) = spec_DrawRecordOf.T7 := by kernel_rfl
theorem spec_DrawRecordOf.bits7 : waitsOk spec_DrawRecordOf.T7.2 spec_DrawRecordOf.B7 = true := by kernel_rfl
set_option maxHeartbeats 8000000 in
set_option maxRecDepth 100000 in
theorem spec_DrawRecordOf.calls (k : Nat) (A0 : Option Addr) (c0 : Nat) (l0 : List Int) (r : ByteArray) (w : World) (hr0 : Kd.C (Kd.int .u8) w A0 l0.length l0) (hc0 : l0.length ≤ c0) (h : spec_DrawRecordOf.f k l0 = some r) :
  Calls Tryd.prog 17 #[.slice A0 l0.length c0] w fun e w' => e = .returned (.string r) ∧ Below w.heap.size w w' := by
 have HR0 := Aside0.mk hr0
 have HC0 := Aside0.mk hc0
 clear hr0 hc0
 have HB := Aside0.mk (Below.refl w.heap.size w)
 have H : ((spec_l6Open.f l0).bind fun bt368 => ((spec_l91Record.f k bt368.1 bt368.2).bind fun bt371 => ((spec_RecordText.f k bt371.1 bt371.2.1 bt371.2.2.1 bt371.2.2.2.1 bt371.2.2.2.2.1 bt371.2.2.2.2.2.1).bind fun t382 => (if t382.toList = ([] : List UInt8) then ((spec_l6Rd_of.f k bt368.1 bt371.2.2.2.2.2.2 (([(⟨#[]⟩ : ByteArray), (⟨#[49, 32, 50, 32, 45, 32, 45]⟩ : ByteArray), (⟨#[48, 49, 32, 50, 32, 45, 32, 45]⟩ : ByteArray), (⟨#[49, 32, 50, 32, 120, 48, 32, 45]⟩ : ByteArray), (⟨#[49, 32, 50, 32, 120, 65, 65, 32, 45]⟩ : ByteArray), (⟨#[49, 32, 50, 32, 121, 32, 45]⟩ : ByteArray), (⟨#[49, 32, 50, 32, 45]⟩ : ByteArray)] : List ByteArray))).bind fun bt386 => (some bt386.1)) else ((spec_l6Rd_pick.f k bt368.1 bt371.2.2.2.2.2.2 (t382.size : Int)).bind fun bt388 => ((spec_l6Rd_pick.f k bt368.1 bt388.2 6).bind fun bt390 => (if bt390.1 = 0 then (if 0 ≤ bt388.1 then (if bt388.1 ≤ (t382.size : Int) then ((spec_l6Rd_of.f k bt368.1 bt390.2 (([(⟨#[48]⟩ : ByteArray), (⟨#[120]⟩ : ByteArray), (⟨#[32]⟩ : ByteArray), (⟨#[102]⟩ : ByteArray), (⟨#[45]⟩ : ByteArray)] : List ByteArray))).bind fun bt395 => (if (t382.extract 0 (bt388.1 : Int).toNat).size + bt395.1.size ≤ 9223372036854775807 then (if 0 ≤ (wrap64 (bt388.1 + 1)) then (if (wrap64 (bt388.1 + 1)) ≤ (t382.size : Int) then (if ((t382.extract 0 (bt388.1 : Int).toNat) ++ bt395.1).size + (t382.extract ((wrap64 (bt388.1 + 1)) : Int).toNat t382.size).size ≤ 9223372036854775807 then (some (((t382.extract 0 (bt388.1 : Int).toNat) ++ bt395.1) ++ (t382.extract ((wrap64 (bt388.1 + 1)) : Int).toNat t382.size))) else (none)) else (none)) else (none)) else (none))) else (none)) else (none)) else (some t382)))))))) = some r := h
 clear h
 replace H := Option.bind_eq_some_iff.mp H
 obtain ⟨⟨t368, t369⟩, A20, H⟩ := H
 replace H : ((spec_l91Record.f k t368 t369).bind fun bt371 => ((spec_RecordText.f k bt371.1 bt371.2.1 bt371.2.2.1 bt371.2.2.2.1 bt371.2.2.2.2.1 bt371.2.2.2.2.2.1).bind fun t382 => (if t382.toList = ([] : List UInt8) then ((spec_l6Rd_of.f k t368 bt371.2.2.2.2.2.2 (([(⟨#[]⟩ : ByteArray), (⟨#[49, 32, 50, 32, 45, 32, 45]⟩ : ByteArray), (⟨#[48, 49, 32, 50, 32, 45, 32, 45]⟩ : ByteArray), (⟨#[49, 32, 50, 32, 120, 48, 32, 45]⟩ : ByteArray), (⟨#[49, 32, 50, 32, 120, 65, 65, 32, 45]⟩ : ByteArray), (⟨#[49, 32, 50, 32, 121, 32, 45]⟩ : ByteArray), (⟨#[49, 32, 50, 32, 45]⟩ : ByteArray)] : List ByteArray))).bind fun bt386 => (some bt386.1)) else ((spec_l6Rd_pick.f k t368 bt371.2.2.2.2.2.2 (t382.size : Int)).bind fun bt388 => ((spec_l6Rd_pick.f k t368 bt388.2 6).bind fun bt390 => (if bt390.1 = 0 then (if 0 ≤ bt388.1 then (if bt388.1 ≤ (t382.size : Int) then ((spec_l6Rd_of.f k t368 bt390.2 (([(⟨#[48]⟩ : ByteArray), (⟨#[120]⟩ : ByteArray), (⟨#[32]⟩ : ByteArray), (⟨#[102]⟩ : ByteArray), (⟨#[45]⟩ : ByteArray)] : List ByteArray))).bind fun bt395 => (if (t382.extract 0 (bt388.1 : Int).toNat).size + bt395.1.size ≤ 9223372036854775807 then (if 0 ≤ (wrap64 (bt388.1 + 1)) then (if (wrap64 (bt388.1 + 1)) ≤ (t382.size : Int) then (if ((t382.extract 0 (bt388.1 : Int).toNat) ++ bt395.1).size + (t382.extract ((wrap64 (bt388.1 + 1)) : Int).toNat t382.size).size ≤ 9223372036854775807 then (some (((t382.extract 0 (bt388.1 : Int).toNat) ++ bt395.1) ++ (t382.extract ((wrap64 (bt388.1 + 1)) : Int).toNat t382.size))) else (none)) else (none)) else (none)) else (none))) else (none)) else (none)) else (some t382))))))) = some r := H
 have A2 := Aside0.mk A20
 clear A20
 replace H := Option.bind_eq_some_iff.mp H
 obtain ⟨⟨t371, t372, t373, t374, t377, t378, t381⟩, A30, H⟩ := H
 replace H : ((spec_RecordText.f k t371 t372 t373 t374 t377 t378).bind fun t382 => (if t382.toList = ([] : List UInt8) then ((spec_l6Rd_of.f k t368 t381 (([(⟨#[]⟩ : ByteArray), (⟨#[49, 32, 50, 32, 45, 32, 45]⟩ : ByteArray), (⟨#[48, 49, 32, 50, 32, 45, 32, 45]⟩ : ByteArray), (⟨#[49, 32, 50, 32, 120, 48, 32, 45]⟩ : ByteArray), (⟨#[49, 32, 50, 32, 120, 65, 65, 32, 45]⟩ : ByteArray), (⟨#[49, 32, 50, 32, 121, 32, 45]⟩ : ByteArray), (⟨#[49, 32, 50, 32, 45]⟩ : ByteArray)] : List ByteArray))).bind fun bt386 => (some bt386.1)) else ((spec_l6Rd_pick.f k t368 t381 (t382.size : Int)).bind fun bt388 => ((spec_l6Rd_pick.f k t368 bt388.2 6).bind fun bt390 => (if bt390.1 = 0 then (if 0 ≤ bt388.1 then (if bt388.1 ≤ (t382.size : Int) then ((spec_l6Rd_of.f k t368 bt390.2 (([(⟨#[48]⟩ : ByteArray), (⟨#[120]⟩ : ByteArray), (⟨#[32]⟩ : ByteArray), (⟨#[102]⟩ : ByteArray), (⟨#[45]⟩ : ByteArray)] : List ByteArray))).bind fun bt395 => (if (t382.extract 0 (bt388.1 : Int).toNat).size + bt395.1.size ≤ 9223372036854775807 then (if 0 ≤ (wrap64 (bt388.1 + 1)) then (if (wrap64 (bt388.1 + 1)) ≤ (t382.size : Int) then (if ((t382.extract 0 (bt388.1 : Int).toNat) ++ bt395.1).size + (t382.extract ((wrap64 (bt388.1 + 1)) : Int).toNat t382.size).size ≤ 9223372036854775807 then (some (((t382.extract 0 (bt388.1 : Int).toNat) ++ bt395.1) ++ (t382.extract ((wrap64 (bt388.1 + 1)) : Int).toNat t382.size))) else (none)) else (none)) else (none)) else (none))) else (none)) else (none)) else (some t382)))))) = some r := H
 have A3 := Aside0.mk A30
 clear A30
 replace H := Option.bind_eq_some_iff.mp H
 obtain ⟨t382, A40, H⟩ := H
 replace H : (if t382.toList = ([] : List UInt8) then ((spec_l6Rd_of.f k t368 t381 (([(⟨#[]⟩ : ByteArray), (⟨#[49, 32, 50, 32, 45, 32, 45]⟩ : ByteArray), (⟨#[48, 49, 32, 50, 32, 45, 32, 45]⟩ : ByteArray), (⟨#[49, 32, 50, 32, 120, 48, 32, 45]⟩ : ByteArray), (⟨#[49, 32, 50, 32, 120, 65, 65, 32, 45]⟩ : ByteArray), (⟨#[49, 32, 50, 32, 121, 32, 45]⟩ : ByteArray), (⟨#[49, 32, 50, 32, 45]⟩ : ByteArray)] : List ByteArray))).bind fun bt386 => (some bt386.1)) else ((spec_l6Rd_pick.f k t368 t381 (t382.size : Int)).bind fun bt388 => ((spec_l6Rd_pick.f k t368 bt388.2 6).bind fun bt390 => (if bt390.1 = 0 then (if 0 ≤ bt388.1 then (if bt388.1 ≤ (t382.size : Int) then ((spec_l6Rd_of.f k t368 bt390.2 (([(⟨#[48]⟩ : ByteArray), (⟨#[120]⟩ : ByteArray), (⟨#[32]⟩ : ByteArray), (⟨#[102]⟩ : ByteArray), (⟨#[45]⟩ : ByteArray)] : List ByteArray))).bind fun bt395 => (if (t382.extract 0 (bt388.1 : Int).toNat).size + bt395.1.size ≤ 9223372036854775807 then (if 0 ≤ (wrap64 (bt388.1 + 1)) then (if (wrap64 (bt388.1 + 1)) ≤ (t382.size : Int) then (if ((t382.extract 0 (bt388.1 : Int).toNat) ++ bt395.1).size + (t382.extract ((wrap64 (bt388.1 + 1)) : Int).toNat t382.size).size ≤ 9223372036854775807 then (some (((t382.extract 0 (bt388.1 : Int).toNat) ++ bt395.1) ++ (t382.extract ((wrap64 (bt388.1 + 1)) : Int).toNat t382.size))) else (none)) else (none)) else (none)) else (none))) else (none)) else (none)) else (some t382))))) = some r := H
 have A4 := Aside0.mk A40
 clear A40
 by_cases c5 : t382.toList = ([] : List UInt8)
 ·rw [if_pos c5] at H
  have c5b0 : (t382.toList == ([] : List UInt8)) = true := beq_iff_eq.mpr c5
  have c5b1 : (t382.toList != ([] : List UInt8)) = false := bne_eq_false_iff_eq.mpr c5
  clear c5
  obtain ⟨y383, hy383⟩ : ∃ y_ : List ByteArray, y_ = (([(⟨#[]⟩ : ByteArray), (⟨#[49, 32, 50, 32, 45, 32, 45]⟩ : ByteArray), (⟨#[48, 49, 32, 50, 32, 45, 32, 45]⟩ : ByteArray), (⟨#[49, 32, 50, 32, 120, 48, 32, 45]⟩ : ByteArray), (⟨#[49, 32, 50, 32, 120, 65, 65, 32, 45]⟩ : ByteArray), (⟨#[49, 32, 50, 32, 121, 32, 45]⟩ : ByteArray), (⟨#[49, 32, 50, 32, 45]⟩ : ByteArray)] : List ByteArray)) := ⟨_, rfl⟩
  replace H : ((spec_l6Rd_of.f k t368 t381 y383).bind fun bt386 => (some bt386.1)) = some r := by first | (rw [hy383]; with_reducible exact H) | (have H2_ := (Option.bind_some _ _).symm.trans H; rw [hy383]; with_reducible exact H2_) | (have H2_ := (Option.bind_some _ _).symm.trans H; with_reducible exact H2_) | with_reducible exact H | (rw [hy383]; exact H) | exact H
  have Ny383 := Aside0.mk hy383
  clear hy383
  replace H := Option.bind_eq_some_iff.mp H
  obtain ⟨⟨t386, t387⟩, A60, H⟩ := H
  replace H : (some t386) = some r := H
  have A6 := Aside0.mk A60
  clear A60
  obtain rfl := Option.some.inj H
  go_enter Tryd.func17, Tryd.ntmps17
  go_wp2_with (first | ((with_reducible refine gate_callee (f := 36) rfl ?_); refine goesL_ (some 7) rfl rfl Tryd.func36 (by kernel_rfl) rfl #[.slice A0 l0.length c0] rfl (by (try simp only [List.map_toArray, List.map_cons, List.map_nil]); first | done | rfl | (simp only [List.length_drop, List.length_take]; rfl)) ?_; (with_reducible refine (spec_l6Open.calls _ _ l0 t368 t369 w _ ?side1 ?side2 ?side3 A2.out).mono ?_); (case side1 => repeat (first | (with_reducible first | exact HB.out | apply below_alloc | apply pw_below_drewN | apply below_drew1) | exact HB.out)); (case side2 => exact HR0.out); (case side3 => exact HC0.out); rintro e w7 ⟨g370, rfl, hi, hb, hb2⟩; refine ⟨_, rfl, ?_⟩; have n0_ := Aside0.mk (hb); have n1_ := Aside0.mk (hi); clear HB; have HB := n0_; have HI370 := n1_; clear n0_ n1_; (try clear hb); (try clear hb2); (try clear hk); (try clear hi)) | ((with_reducible refine gate_callee (f := 37) rfl ?_); refine goesL_ (some 9) rfl rfl Tryd.func37 (by kernel_rfl) rfl #[.pointer (some ⟨g370, 0, none⟩)] rfl (by (try simp only [List.map_toArray, List.map_cons, List.map_nil]); first | done | rfl | (simp only [List.length_drop, List.length_take]; rfl)) ?_; (with_reducible refine (spec_l91Record.calls k g370 t368 t369 t371 t372 t373 t374 t377 t378 t381 w _ ?side1 ?side2 A3.out).mono ?_); (case side1 => repeat (first | (with_reducible first | exact HI370.out | apply IsS75.alloc | apply IsS75.drewN | apply IsS75.drew | apply IsS75.set_1) | exact HI370.out)); (case side2 => repeat (first | (with_reducible first | exact HB.out | apply below_alloc | apply pw_below_drewN | apply below_drew1 | refine below_set ?_ (IsS75.ge HI370.out)) | exact HB.out)); rintro e w8 ⟨v375, v379, rfl, ho0, ho1, hi, hb, hk⟩; refine ⟨_, rfl, ?_⟩; have n0_ := Aside0.mk (Kd.R_lower ho0 (below_size (by repeat (first | (with_reducible first | exact HB.out | apply below_alloc | apply pw_below_drewN | apply below_drew1 | refine below_set ?_ (IsS75.ge HI370.out)) | exact HB.out)))); have n1_ := Aside0.mk (Kd.R_lower ho1 (below_size (by repeat (first | (with_reducible first | exact HB.out | apply below_alloc | apply pw_below_drewN | apply below_drew1 | refine below_set ?_ (IsS75.ge HI370.out)) | exact HB.out)))); have n2_ := Aside0.mk (hb); have n3_ := Aside0.mk (hi); clear HB HI370; have HO376 := n0_; have HO380 := n1_; have HB := n2_; have HI370 := n3_; clear n0_ n1_ n2_ n3_; (try clear hb); (try clear hb2); (try clear hk); (try clear hi); (try clear ho0); (try clear ho1); obtain ⟨Ao9, co9, eo9⟩ := Kd.R_slice HO376.out; subst eo9; obtain ⟨Ao10, co10, eo10⟩ := Kd.R_slice HO380.out; subst eo10) | ((with_reducible refine gate_callee (f := 9) rfl ?_); refine goesL_ (some 10) rfl rfl Tryd.func9 (by kernel_rfl) rfl #[.agg #[.int .i64 t371, .int .i64 t372, .bool t373, .slice Ao9 t374.length co9, .bool t377, .slice Ao10 t378.length co10]] rfl (by (try simp only [List.map_toArray, List.map_cons, List.map_nil]); first | done | rfl | (simp only [List.length_drop, List.length_take]; rfl)) ?_; (with_reducible refine (spec_RecordText.calls k t371 t372 t373 _ _ t374 t377 _ _ t378 t382 _ ?side1 ?side2 ?side3 ?side4 A4.out).mono ?_); (case side1 => repeat (first | exact (Kd.R_reads' HO376.out).2.2 | (with_reducible refine Kd.C_alloc ?_ _) | (with_reducible refine Kd.C_drewN ?_ _) | (with_reducible refine Kd.C_drew ?_))); (case side2 => exact (Kd.R_reads' HO376.out).2.1); (case side3 => repeat (first | exact (Kd.R_reads' HO380.out).2.2 | (with_reducible refine Kd.C_alloc ?_ _) | (with_reducible refine Kd.C_drewN ?_ _) | (with_reducible refine Kd.C_drew ?_))); (case side4 => exact (Kd.R_reads' HO380.out).2.1); rintro e w11 ⟨rfl, hb⟩; refine ⟨_, rfl, ?_⟩; have n0_ := Aside0.mk (Kd.R_below (kr HO376) hb); have n1_ := Aside0.mk (Kd.R_below (kr HO380) hb); have n2_ := Aside0.mk (IsS75.below (by repeat (first | (with_reducible first | exact HI370.out | apply IsS75.alloc | apply IsS75.drewN | apply IsS75.drew | apply IsS75.set_1) | exact HI370.out)) hb); have n3_ := Aside0.mk (below_step (by repeat (first | (with_reducible first | exact HB.out | apply below_alloc | apply pw_below_drewN | apply below_drew1 | refine below_set ?_ (IsS75.ge HI370.out)) | exact HB.out)) hb); clear HO376 HO380; clear HI370 HB; have HO376 := n0_; have HO380 := n1_; have HI370 := n2_; have HB := n3_; clear n0_ n1_ n2_ n3_; (try clear hb); (try clear hb2); (try clear hk); (try clear hi)) | ((with_reducible refine gate_dst (N := 14) rfl ?_); refine Kd.R_lit Kd.string _ 9 ?hg (N := 14) ?hd (xs := ([(⟨#[]⟩ : ByteArray), (⟨#[49, 32, 50, 32, 45, 32, 45]⟩ : ByteArray), (⟨#[48, 49, 32, 50, 32, 45, 32, 45]⟩ : ByteArray), (⟨#[49, 32, 50, 32, 120, 48, 32, 45]⟩ : ByteArray), (⟨#[49, 32, 50, 32, 120, 65, 65, 32, 45]⟩ : ByteArray), (⟨#[49, 32, 50, 32, 121, 32, 45]⟩ : ByteArray), (⟨#[49, 32, 50, 32, 45]⟩ : ByteArray)] : List ByteArray)) (inner := [.string (⟨#[]⟩ : ByteArray), .string (⟨#[49, 32, 50, 32, 45, 32, 45]⟩ : ByteArray), .string (⟨#[48, 49, 32, 50, 32, 45, 32, 45]⟩ : ByteArray), .string (⟨#[49, 32, 50, 32, 120, 48, 32, 45]⟩ : ByteArray), .string (⟨#[49, 32, 50, 32, 120, 65, 65, 32, 45]⟩ : ByteArray), .string (⟨#[49, 32, 50, 32, 121, 32, 45]⟩ : ByteArray), .string (⟨#[49, 32, 50, 32, 45]⟩ : ByteArray)]) (ok := fun _ => True) (okp := fun _ => True) ?hr ?hp (fun _ hk => hk) trivial (Below.refl _ _) (Nat.le_refl _) (by simp) ?_; (case hd => rfl); (case hg => rfl); (case hr => first | (go_simp; done) | (go_simp; rfl)); (case hp => exact (Reps.one (show Kd.M Kd.string _ _ _ (⟨#[]⟩ : ByteArray) [.string (⟨#[]⟩ : ByteArray)] from rfl) (Reps.one (show Kd.M Kd.string _ _ _ (⟨#[49, 32, 50, 32, 45, 32, 45]⟩ : ByteArray) [.string (⟨#[49, 32, 50, 32, 45, 32, 45]⟩ : ByteArray)] from rfl) (Reps.one (show Kd.M Kd.string _ _ _ (⟨#[48, 49, 32, 50, 32, 45, 32, 45]⟩ : ByteArray) [.string (⟨#[48, 49, 32, 50, 32, 45, 32, 45]⟩ : ByteArray)] from rfl) (Reps.one (show Kd.M Kd.string _ _ _ (⟨#[49, 32, 50, 32, 120, 48, 32, 45]⟩ : ByteArray) [.string (⟨#[49, 32, 50, 32, 120, 48, 32, 45]⟩ : ByteArray)] from rfl) (Reps.one (show Kd.M Kd.string _ _ _ (⟨#[49, 32, 50, 32, 120, 65, 65, 32, 45]⟩ : ByteArray) [.string (⟨#[49, 32, 50, 32, 120, 65, 65, 32, 45]⟩ : ByteArray)] from rfl) (Reps.one (show Kd.M Kd.string _ _ _ (⟨#[49, 32, 50, 32, 121, 32, 45]⟩ : ByteArray) [.string (⟨#[49, 32, 50, 32, 121, 32, 45]⟩ : ByteArray)] from rfl) (Reps.one (show Kd.M Kd.string _ _ _ (⟨#[49, 32, 50, 32, 45]⟩ : ByteArray) [.string (⟨#[49, 32, 50, 32, 45]⟩ : ByteArray)] from rfl) (Reps.none _ _))))))))); intro v384 w12 ho13 hb hg_ hnew_; clear hg_ hnew_; (first | rw [← Ny383.out] at ho13 | (simp only [Int.reduceToNat] at ho13; rw [← Ny383.out] at ho13)); have n0_ := Aside0.mk (Kd.R_below (kr HO376) hb); have n1_ := Aside0.mk (Kd.R_below (kr HO380) hb); have n2_ := Aside0.mk (Kd.R_lower ho13 (below_size (by repeat (first | (with_reducible first | exact HB.out | apply below_alloc | apply pw_below_drewN | apply below_drew1 | refine below_set ?_ (IsS75.ge HI370.out)) | exact HB.out)))); have n3_ := Aside0.mk (IsS75.below (by repeat (first | (with_reducible first | exact HI370.out | apply IsS75.alloc | apply IsS75.drewN | apply IsS75.drew | apply IsS75.set_1) | exact HI370.out)) hb); have n4_ := Aside0.mk (below_step (by repeat (first | (with_reducible first | exact HB.out | apply below_alloc | apply pw_below_drewN | apply below_drew1 | refine below_set ?_ (IsS75.ge HI370.out)) | exact HB.out)) hb); clear HO376 HO380; clear HI370 HB; have HO376 := n0_; have HO380 := n1_; have HO385 := n2_; have HI370 := n3_; have HB := n4_; clear n0_ n1_ n2_ n3_ n4_; clear hb ho13; obtain ⟨Ao14, co14, eo14⟩ := Kd.R_slice HO385.out; subst eo14) | ((with_reducible refine gate_callee (f := 38) rfl ?_); refine goesL_ (some 15) rfl rfl Tryd.func38 (by kernel_rfl) rfl #[.pointer (some ⟨g370, 0, none⟩), .slice Ao14 y383.length co14] rfl (by (try simp only [List.map_toArray, List.map_cons, List.map_nil]); first | done | rfl | (simp only [List.length_drop, List.length_take]; rfl)) ?_; (with_reducible refine (spec_l6Rd_of.calls k g370 t368 t381 _ _ y383 t386 t387 w _ ?side1 ?side2 ?side3 ?side4 ?side5 A6.out).mono ?_); (case side1 => repeat (first | (with_reducible first | exact HI370.out | apply IsS75.alloc | apply IsS75.drewN | apply IsS75.drew | apply IsS75.set_1) | exact HI370.out)); (case side2 => repeat (first | (with_reducible first | exact HB.out | apply below_alloc | apply pw_below_drewN | apply below_drew1 | refine below_set ?_ (IsS75.ge HI370.out)) | exact HB.out)); (case side3 => repeat (first | exact (Kd.R_reads' HO385.out).2.2 | (with_reducible refine Kd.C_alloc ?_ _) | (with_reducible refine Kd.C_drewN ?_ _) | (with_reducible refine Kd.C_drew ?_))); (case side4 => exact (Kd.R_reads' HO385.out).2.1); (case side5 => exact far_slice (IsS75.own_ne HI370.out HO385.out (by decide))); rintro e w15 ⟨rfl, hi, hb, hk⟩; refine ⟨_, rfl, ?_⟩; have n0_ := Aside0.mk (Kd.R_mono (Kd.R_keep (IsS75.apart (show IsS75 w _ g370 t368 t381 from by repeat (first | (with_reducible first | exact HI370.out | apply IsS75.alloc | apply IsS75.drewN | apply IsS75.drew | apply IsS75.set_1) | exact HI370.out)) (kr HO376) (by decide)) hk (fun _ h => h.2)) (fun _ h => h.1)); have n1_ := Aside0.mk (Kd.R_mono (Kd.R_keep (IsS75.apart (show IsS75 w _ g370 t368 t381 from by repeat (first | (with_reducible first | exact HI370.out | apply IsS75.alloc | apply IsS75.drewN | apply IsS75.drew | apply IsS75.set_1) | exact HI370.out)) (kr HO380) (by decide)) hk (fun _ h => h.2)) (fun _ h => h.1)); have n2_ := Aside0.mk (Kd.R_mono (Kd.R_keep (IsS75.apart (show IsS75 w _ g370 t368 t381 from by repeat (first | (with_reducible first | exact HI370.out | apply IsS75.alloc | apply IsS75.drewN | apply IsS75.drew | apply IsS75.set_1) | exact HI370.out)) (kr HO385) (by decide)) hk (fun _ h => h.2)) (fun _ h => h.1)); have n3_ := Aside0.mk (hb); have n4_ := Aside0.mk (hi); clear HO376 HO380; clear HO385 HB HI370; have HO376 := n0_; have HO380 := n1_; have HO385 := n2_; have HB := n3_; have HI370 := n4_; clear n0_ n1_ n2_ n3_ n4_; (try clear hb); (try clear hb2); (try clear hk); (try clear hi)))
  go_ret
  exact ⟨by first | rfl | (simp [errW_none, errW_some] <;> rfl) | (simp [*, errW_none, errW_some] <;> rfl), by repeat (first | (with_reducible first | exact HB.out | apply below_alloc | apply pw_below_drewN | apply below_drew1 | refine below_set ?_ (IsS75.ge HI370.out)) | exact HB.out)⟩
 ·rw [if_neg c5] at H
  have c5b0 : (t382.toList == ([] : List UInt8)) = false := beq_eq_false_iff_ne.mpr c5
  have c5b1 : (t382.toList != ([] : List UInt8)) = true := bne_iff_ne.mpr c5
  replace H := Option.bind_eq_some_iff.mp H
  obtain ⟨⟨t388, t389⟩, A160, H⟩ := H
  replace H : ((spec_l6Rd_pick.f k t368 t389 6).bind fun bt390 => (if bt390.1 = 0 then (if 0 ≤ t388 then (if t388 ≤ (t382.size : Int) then ((spec_l6Rd_of.f k t368 bt390.2 (([(⟨#[48]⟩ : ByteArray), (⟨#[120]⟩ : ByteArray), (⟨#[32]⟩ : ByteArray), (⟨#[102]⟩ : ByteArray), (⟨#[45]⟩ : ByteArray)] : List ByteArray))).bind fun bt395 => (if (t382.extract 0 (t388 : Int).toNat).size + bt395.1.size ≤ 9223372036854775807 then (if 0 ≤ (wrap64 (t388 + 1)) then (if (wrap64 (t388 + 1)) ≤ (t382.size : Int) then (if ((t382.extract 0 (t388 : Int).toNat) ++ bt395.1).size + (t382.extract ((wrap64 (t388 + 1)) : Int).toNat t382.size).size ≤ 9223372036854775807 then (some (((t382.extract 0 (t388 : Int).toNat) ++ bt395.1) ++ (t382.extract ((wrap64 (t388 + 1)) : Int).toNat t382.size))) else (none)) else (none)) else (none)) else (none))) else (none)) else (none)) else (some t382))) = some r := H
  have A16 := Aside0.mk A160
  clear A160
  replace H := Option.bind_eq_some_iff.mp H
  obtain ⟨⟨t390, t391⟩, A170, H⟩ := H
  replace H : (if t390 = 0 then (if 0 ≤ t388 then (if t388 ≤ (t382.size : Int) then ((spec_l6Rd_of.f k t368 t391 (([(⟨#[48]⟩ : ByteArray), (⟨#[120]⟩ : ByteArray), (⟨#[32]⟩ : ByteArray), (⟨#[102]⟩ : ByteArray), (⟨#[45]⟩ : ByteArray)] : List ByteArray))).bind fun bt395 => (if (t382.extract 0 (t388 : Int).toNat).size + bt395.1.size ≤ 9223372036854775807 then (if 0 ≤ (wrap64 (t388 + 1)) then (if (wrap64 (t388 + 1)) ≤ (t382.size : Int) then (if ((t382.extract 0 (t388 : Int).toNat) ++ bt395.1).size + (t382.extract ((wrap64 (t388 + 1)) : Int).toNat t382.size).size ≤ 9223372036854775807 then (some (((t382.extract 0 (t388 : Int).toNat) ++ bt395.1) ++ (t382.extract ((wrap64 (t388 + 1)) : Int).toNat t382.size))) else (none)) else (none)) else (none)) else (none))) else (none)) else (none)) else (some t382)) = some r := H
  have A17 := Aside0.mk A170
  clear A170
  by_cases c18 : t390 = 0
  ·rw [if_pos c18] at H
   have c18b0 : (t390 == 0) = true := beq_iff_eq.mpr c18
   have c18b1 : (t390 != 0) = false := bne_eq_false_iff_eq.mpr c18
   clear c18
   by_cases c19 : 0 ≤ t388
   ·rw [if_pos c19] at H
    have c19b0 := eq_true c19
    have c19b1 : decide (0 ≤ t388) = true := decide_eq_true c19
    clear c19
    by_cases c20 : t388 ≤ (t382.size : Int)
    ·rw [if_pos c20] at H
     have c20b0 := eq_true c20
     have c20b1 : decide (t388 ≤ (t382.size : Int)) = true := decide_eq_true c20
     clear c20
     obtain ⟨y392, hy392⟩ : ∃ y_ : List ByteArray, y_ = (([(⟨#[48]⟩ : ByteArray), (⟨#[120]⟩ : ByteArray), (⟨#[32]⟩ : ByteArray), (⟨#[102]⟩ : ByteArray), (⟨#[45]⟩ : ByteArray)] : List ByteArray)) := ⟨_, rfl⟩
     replace H : ((spec_l6Rd_of.f k t368 t391 y392).bind fun bt395 => (if (t382.extract 0 (t388 : Int).toNat).size + bt395.1.size ≤ 9223372036854775807 then (if 0 ≤ (wrap64 (t388 + 1)) then (if (wrap64 (t388 + 1)) ≤ (t382.size : Int) then (if ((t382.extract 0 (t388 : Int).toNat) ++ bt395.1).size + (t382.extract ((wrap64 (t388 + 1)) : Int).toNat t382.size).size ≤ 9223372036854775807 then (some (((t382.extract 0 (t388 : Int).toNat) ++ bt395.1) ++ (t382.extract ((wrap64 (t388 + 1)) : Int).toNat t382.size))) else (none)) else (none)) else (none)) else (none))) = some r := by first | (rw [hy392]; with_reducible exact H) | (have H2_ := (Option.bind_some _ _).symm.trans H; rw [hy392]; with_reducible exact H2_) | (have H2_ := (Option.bind_some _ _).symm.trans H; with_reducible exact H2_) | with_reducible exact H | (rw [hy392]; exact H) | exact H
     have Ny392 := Aside0.mk hy392
     clear hy392
     replace H := Option.bind_eq_some_iff.mp H
     obtain ⟨⟨t395, t396⟩, A210, H⟩ := H
     replace H : (if (t382.extract 0 (t388 : Int).toNat).size + t395.size ≤ 9223372036854775807 then (if 0 ≤ (wrap64 (t388 + 1)) then (if (wrap64 (t388 + 1)) ≤ (t382.size : Int) then (if ((t382.extract 0 (t388 : Int).toNat) ++ t395).size + (t382.extract ((wrap64 (t388 + 1)) : Int).toNat t382.size).size ≤ 9223372036854775807 then (some (((t382.extract 0 (t388 : Int).toNat) ++ t395) ++ (t382.extract ((wrap64 (t388 + 1)) : Int).toNat t382.size))) else (none)) else (none)) else (none)) else (none)) = some r := H
     have A21 := Aside0.mk A210
     clear A210
     by_cases c22 : (t382.extract 0 (t388 : Int).toNat).size + t395.size ≤ 9223372036854775807
     ·rw [if_pos c22] at H
      have c22b0 := eq_true c22
      have c22b1 : decide ((t382.extract 0 (t388 : Int).toNat).size + t395.size ≤ 9223372036854775807) = true := decide_eq_true c22
      try have c22b2 : (9223372036854775807 < (t382.extract 0 (t388 : Int).toNat).size + t395.size) = False := eq_false (Nat.not_lt.2 c22)
      try have c22b3 : (9223372036854775807 < t388.toNat + t395.size) = False := eq_false (Nat.not_lt.2 (by have := c22; simp only [ByteArray.size_append, ByteArray.size_extract] at this; first | omega | (simp only [decide_eq_true_eq] at *; omega)))
      obtain ⟨ji23, hji23⟩ : ∃ j_ : Int, (wrap64 (t388 + 1)) = j_ := ⟨_, rfl⟩
      replace H : (if 0 ≤ (ji23) then (if (ji23) ≤ (t382.size : Int) then (if ((t382.extract 0 (t388 : Int).toNat) ++ t395).size + (t382.extract ((ji23) : Int).toNat t382.size).size ≤ 9223372036854775807 then (some (((t382.extract 0 (t388 : Int).toNat) ++ t395) ++ (t382.extract ((ji23) : Int).toNat t382.size))) else (none)) else (none)) else (none)) = some r := by first | (rw [hji23] at H; exact H) | (simp only [hji23] at H ⊢; exact H)
      (try rw [hji23] at A2)
      (try rw [hji23] at A3)
      (try rw [hji23] at A4)
      (try rw [hji23] at A16)
      (try rw [hji23] at A17)
      (try rw [hji23] at A21)
      have hji23w : (IntKind.i64.wrap (t388 + 1)) = ji23 := (i64_w _).trans hji23
      by_cases c24 : 0 ≤ (ji23)
      ·rw [if_pos c24] at H
       have c24b0 := eq_true c24
       have c24b1 : decide (0 ≤ (ji23)) = true := decide_eq_true c24
       clear c24
       by_cases c25 : (ji23) ≤ (t382.size : Int)
       ·rw [if_pos c25] at H
        have c25b0 := eq_true c25
        have c25b1 : decide ((ji23) ≤ (t382.size : Int)) = true := decide_eq_true c25
        clear c25
        by_cases c26 : ((t382.extract 0 (t388 : Int).toNat) ++ t395).size + (t382.extract ((ji23) : Int).toNat t382.size).size ≤ 9223372036854775807
        ·rw [if_pos c26] at H
         have c26b0 := eq_true c26
         have c26b1 : decide (((t382.extract 0 (t388 : Int).toNat) ++ t395).size + (t382.extract ((ji23) : Int).toNat t382.size).size ≤ 9223372036854775807) = true := decide_eq_true c26
         try have c26b2 : (9223372036854775807 < ((t382.extract 0 (t388 : Int).toNat) ++ t395).size + (t382.extract ((ji23) : Int).toNat t382.size).size) = False := eq_false (Nat.not_lt.2 c26)
         try have c26b3 : (9223372036854775807 < t388.toNat + t395.size + (t382.size - ji23.toNat)) = False := eq_false (Nat.not_lt.2 (by have := c26; simp only [ByteArray.size_append, ByteArray.size_extract] at this; first | omega | (simp only [decide_eq_true_eq] at *; omega)))
         obtain rfl := Option.some.inj H
         go_enter Tryd.func17, Tryd.ntmps17
         try go_wp2_with (first | ((with_reducible refine gate_callee (f := 36) rfl ?_); refine goesL_ (some 7) rfl rfl Tryd.func36 (by kernel_rfl) rfl #[.slice A0 l0.length c0] rfl (by (try simp only [List.map_toArray, List.map_cons, List.map_nil]); first | done | rfl | (simp only [List.length_drop, List.length_take]; rfl)) ?_; (with_reducible refine (spec_l6Open.calls _ _ l0 t368 t369 w _ ?side1 ?side2 ?side3 A2.out).mono ?_); (case side1 => repeat (first | (with_reducible first | exact HB.out | apply below_alloc | apply pw_below_drewN | apply below_drew1) | exact HB.out)); (case side2 => exact HR0.out); (case side3 => exact HC0.out); rintro e w27 ⟨g370, rfl, hi, hb, hb2⟩; refine ⟨_, rfl, ?_⟩; have n0_ := Aside0.mk (hb); have n1_ := Aside0.mk (hi); clear HB; have HB := n0_; have HI370 := n1_; clear n0_ n1_; (try clear hb); (try clear hb2); (try clear hk); (try clear hi)) | ((with_reducible refine gate_callee (f := 37) rfl ?_); refine goesL_ (some 9) rfl rfl Tryd.func37 (by kernel_rfl) rfl #[.pointer (some ⟨g370, 0, none⟩)] rfl (by (try simp only [List.map_toArray, List.map_cons, List.map_nil]); first | done | rfl | (simp only [List.length_drop, List.length_take]; rfl)) ?_; (with_reducible refine (spec_l91Record.calls k g370 t368 t369 t371 t372 t373 t374 t377 t378 t381 w _ ?side1 ?side2 A3.out).mono ?_); (case side1 => repeat (first | (with_reducible first | exact HI370.out | apply IsS75.alloc | apply IsS75.drewN | apply IsS75.drew | apply IsS75.set_1) | exact HI370.out)); (case side2 => repeat (first | (with_reducible first | exact HB.out | apply below_alloc | apply pw_below_drewN | apply below_drew1 | refine below_set ?_ (IsS75.ge HI370.out)) | exact HB.out)); rintro e w28 ⟨v375, v379, rfl, ho0, ho1, hi, hb, hk⟩; refine ⟨_, rfl, ?_⟩; have n0_ := Aside0.mk (Kd.R_lower ho0 (below_size (by repeat (first | (with_reducible first | exact HB.out | apply below_alloc | apply pw_below_drewN | apply below_drew1 | refine below_set ?_ (IsS75.ge HI370.out)) | exact HB.out)))); have n1_ := Aside0.mk (Kd.R_lower ho1 (below_size (by repeat (first | (with_reducible first | exact HB.out | apply below_alloc | apply pw_below_drewN | apply below_drew1 | refine below_set ?_ (IsS75.ge HI370.out)) | exact HB.out)))); have n2_ := Aside0.mk (hb); have n3_ := Aside0.mk (hi); clear HB HI370; have HO376 := n0_; have HO380 := n1_; have HB := n2_; have HI370 := n3_; clear n0_ n1_ n2_ n3_; (try clear hb); (try clear hb2); (try clear hk); (try clear hi); (try clear ho0); (try clear ho1); obtain ⟨Ao29, co29, eo29⟩ := Kd.R_slice HO376.out; subst eo29; obtain ⟨Ao30, co30, eo30⟩ := Kd.R_slice HO380.out; subst eo30) | ((with_reducible refine gate_callee (f := 9) rfl ?_); refine goesL_ (some 10) rfl rfl Tryd.func9 (by kernel_rfl) rfl #[.agg #[.int .i64 t371, .int .i64 t372, .bool t373, .slice Ao29 t374.length co29, .bool t377, .slice Ao30 t378.length co30]] rfl (by (try simp only [List.map_toArray, List.map_cons, List.map_nil]); first | done | rfl | (simp only [List.length_drop, List.length_take]; rfl)) ?_; (with_reducible refine (spec_RecordText.calls k t371 t372 t373 _ _ t374 t377 _ _ t378 t382 _ ?side1 ?side2 ?side3 ?side4 A4.out).mono ?_); (case side1 => repeat (first | exact (Kd.R_reads' HO376.out).2.2 | (with_reducible refine Kd.C_alloc ?_ _) | (with_reducible refine Kd.C_drewN ?_ _) | (with_reducible refine Kd.C_drew ?_))); (case side2 => exact (Kd.R_reads' HO376.out).2.1); (case side3 => repeat (first | exact (Kd.R_reads' HO380.out).2.2 | (with_reducible refine Kd.C_alloc ?_ _) | (with_reducible refine Kd.C_drewN ?_ _) | (with_reducible refine Kd.C_drew ?_))); (case side4 => exact (Kd.R_reads' HO380.out).2.1); rintro e w31 ⟨rfl, hb⟩; refine ⟨_, rfl, ?_⟩; have n0_ := Aside0.mk (Kd.R_below (kr HO376) hb); have n1_ := Aside0.mk (Kd.R_below (kr HO380) hb); have n2_ := Aside0.mk (IsS75.below (by repeat (first | (with_reducible first | exact HI370.out | apply IsS75.alloc | apply IsS75.drewN | apply IsS75.drew | apply IsS75.set_1) | exact HI370.out)) hb); have n3_ := Aside0.mk (below_step (by repeat (first | (with_reducible first | exact HB.out | apply below_alloc | apply pw_below_drewN | apply below_drew1 | refine below_set ?_ (IsS75.ge HI370.out)) | exact HB.out)) hb); clear HO376 HO380; clear HI370 HB; have HO376 := n0_; have HO380 := n1_; have HI370 := n2_; have HB := n3_; clear n0_ n1_ n2_ n3_; (try clear hb); (try clear hb2); (try clear hk); (try clear hi)) | ((with_reducible refine gate_callee (f := 39) rfl ?_); refine goesL_ (some 19) rfl rfl Tryd.func39 (by kernel_rfl) rfl #[.pointer (some ⟨g370, 0, none⟩), .int .i64 (t382.size : Int)] rfl (by (try simp only [List.map_toArray, List.map_cons, List.map_nil]); first | done | rfl | (simp only [List.length_drop, List.length_take]; rfl)) ?_; (with_reducible refine (spec_l6Rd_pick.calls k g370 t368 t381 (t382.size : Int) t388 t389 w _ ?side1 ?side2 A16.out).mono ?_); (case side1 => repeat (first | (with_reducible first | exact HI370.out | apply IsS75.alloc | apply IsS75.drewN | apply IsS75.drew | apply IsS75.set_1) | exact HI370.out)); (case side2 => repeat (first | (with_reducible first | exact HB.out | apply below_alloc | apply pw_below_drewN | apply below_drew1 | refine below_set ?_ (IsS75.ge HI370.out)) | exact HB.out)); rintro e w32 ⟨rfl, hi, hb, hk⟩; refine ⟨_, rfl, ?_⟩; have n0_ := Aside0.mk (Kd.R_mono (Kd.R_keep (IsS75.apart (show IsS75 w _ g370 t368 t381 from by repeat (first | (with_reducible first | exact HI370.out | apply IsS75.alloc | apply IsS75.drewN | apply IsS75.drew | apply IsS75.set_1) | exact HI370.out)) (kr HO376) (by decide)) hk (fun _ h => h.2)) (fun _ h => h.1)); have n1_ := Aside0.mk (Kd.R_mono (Kd.R_keep (IsS75.apart (show IsS75 w _ g370 t368 t381 from by repeat (first | (with_reducible first | exact HI370.out | apply IsS75.alloc | apply IsS75.drewN | apply IsS75.drew | apply IsS75.set_1) | exact HI370.out)) (kr HO380) (by decide)) hk (fun _ h => h.2)) (fun _ h => h.1)); have n2_ := Aside0.mk (hb); have n3_ := Aside0.mk (hi); clear HO376 HO380; clear HB HI370; have HO376 := n0_; have HO380 := n1_; have HB := n2_; have HI370 := n3_; clear n0_ n1_ n2_ n3_; (try clear hb); (try clear hb2); (try clear hk); (try clear hi)) | ((with_reducible refine gate_callee (f := 39) rfl ?_); refine goesL_ (some 21) rfl rfl Tryd.func39 (by kernel_rfl) rfl #[.pointer (some ⟨g370, 0, none⟩), .int .i64 6] rfl (by (try simp only [List.map_toArray, List.map_cons, List.map_nil]); first | done | rfl | (simp only [List.length_drop, List.length_take]; rfl)) ?_; (with_reducible refine (spec_l6Rd_pick.calls k g370 t368 t389 6 t390 t391 w _ ?side1 ?side2 A17.out).mono ?_); (case side1 => repeat (first | (with_reducible first | exact HI370.out | apply IsS75.alloc | apply IsS75.drewN | apply IsS75.drew | apply IsS75.set_1) | exact HI370.out)); (case side2 => repeat (first | (with_reducible first | exact HB.out | apply below_alloc | apply pw_below_drewN | apply below_drew1 | refine below_set ?_ (IsS75.ge HI370.out)) | exact HB.out)); rintro e w33 ⟨rfl, hi, hb, hk⟩; refine ⟨_, rfl, ?_⟩; have n0_ := Aside0.mk (Kd.R_mono (Kd.R_keep (IsS75.apart (show IsS75 w _ g370 t368 t389 from by repeat (first | (with_reducible first | exact HI370.out | apply IsS75.alloc | apply IsS75.drewN | apply IsS75.drew | apply IsS75.set_1) | exact HI370.out)) (kr HO376) (by decide)) hk (fun _ h => h.2)) (fun _ h => h.1)); have n1_ := Aside0.mk (Kd.R_mono (Kd.R_keep (IsS75.apart (show IsS75 w _ g370 t368 t389 from by repeat (first | (with_reducible first | exact HI370.out | apply IsS75.alloc | apply IsS75.drewN | apply IsS75.drew | apply IsS75.set_1) | exact HI370.out)) (kr HO380) (by decide)) hk (fun _ h => h.2)) (fun _ h => h.1)); have n2_ := Aside0.mk (hb); have n3_ := Aside0.mk (hi); clear HO376 HO380; clear HB HI370; have HO376 := n0_; have HO380 := n1_; have HB := n2_; have HI370 := n3_; clear n0_ n1_ n2_ n3_; (try clear hb); (try clear hb2); (try clear hk); (try clear hi)))
         have n0_ := Aside0.mk (Kd.R_drew HO376.out)
         have n1_ := Aside0.mk (Kd.R_drew HO380.out)
         have n2_ := Aside0.mk (IsS75.drew HI370.out)
         have n3_ := Aside0.mk (below_drew1 HB.out)
         clear HO376 HO380
         clear HI370 HB
         have HO376 := n0_
         have HO380 := n1_
         have HI370 := n2_
         have HB := n3_
         clear n0_ n1_ n2_ n3_
         refine start_ (n := 13) (S := fun w' => True) (ds := []) #[false, false, false, false, false, false, false, false, false, false, false, false, false] (by kernel_rfl) rfl rfl trivial (fun hHeld => ?_); refine with_tabW spec_DrawRecordOf.tab7 spec_DrawRecordOf.bits7 (fun HT_ HW_ => ?_)
         generalize w33.drew = w34 at HO376 HO380 HI370 HB hHeld ⊢
         refine pure_ (i := 0) (N := some 23) (v := ?_) (a' := ?_) #[true, false, false, false, false, false, false, false, false, false, false, false, false] rfl rfl (any_of HT_.out (by kernel_rfl)) (fun _ _ _ h => h) (Or.inl ⟨by rfl, ?_⟩) ?_ ?_
         rotate_left
         ·intro w'
          go_simp
          with_reducible rfl
         rotate_left
         ·simp only [Act.put, List.setIfInBounds_toArray, List.set_cons_zero, List.set_cons_succ, i64_w, i32_w]
          rfl
         refine pure_ (i := 1) (N := some 24) (v := ?_) (a' := ?_) #[true, true, false, false, false, false, false, false, false, false, false, false, false] rfl rfl (any_of HT_.out (by kernel_rfl)) (fun _ _ _ h => h) (Or.inl ⟨by rfl, ?_⟩) ?_ ?_
         rotate_left
         ·intro w'
          go_simp
          with_reducible rfl
         rotate_left
         ·simp only [Act.put, List.setIfInBounds_toArray, List.set_cons_zero, List.set_cons_succ, i64_w, i32_w]
          rfl
         refine pure_ (i := 2) (N := some 25) (v := ?_) (a' := ?_) #[true, true, true, false, false, false, false, false, false, false, false, false, false] rfl rfl (any_of HT_.out (by kernel_rfl)) (fun _ _ _ h => h) (Or.inl ⟨by rfl, ?_⟩) ?_ ?_
         rotate_left
         ·intro w'
          go_simp
          with_reducible rfl
         rotate_left
         ·simp only [Act.put, List.setIfInBounds_toArray, List.set_cons_zero, List.set_cons_succ, i64_w, i32_w]
          rfl
         refine pure_ (i := 3) (N := some 26) (v := ?_) (a' := ?_) #[true, true, true, true, false, false, false, false, false, false, false, false, false] rfl rfl (any_of HT_.out (by kernel_rfl)) (fun _ _ _ h => h) (Or.inl ⟨by rfl, ?_⟩) ?_ ?_
         rotate_left
         ·intro w'
          go_simp
          with_reducible rfl
         rotate_left
         ·simp only [Act.put, List.setIfInBounds_toArray, List.set_cons_zero, List.set_cons_succ, i64_w, i32_w]
          rfl
         refine pure_ (i := 7) (N := some 30) (v := ?_) (a' := ?_) #[true, true, true, true, false, false, false, true, false, false, false, false, false] rfl rfl (any_of HT_.out (by kernel_rfl)) (fun _ _ _ h => h) (Or.inl ⟨by rfl, ?_⟩) ?_ ?_
         rotate_left
         ·intro w'
          go_simp
          with_reducible rfl
         rotate_left
         ·simp only [Act.put, List.setIfInBounds_toArray, List.set_cons_zero, List.set_cons_succ, i64_w, i32_w]
          rfl
         refine pure_ (i := 8) (N := some 31) (v := ?_) (a' := ?_) #[true, true, true, true, false, false, false, true, true, false, false, false, false] rfl rfl (any_of HT_.out (by kernel_rfl)) (fun _ _ _ h => h) (Or.inl ⟨by rfl, ?_⟩) ?_ ?_
         rotate_left
         ·intro w'
          go_simp
          with_reducible rfl
         rotate_left
         ·simp only [Act.put, List.setIfInBounds_toArray, List.set_cons_zero, List.set_cons_succ, i64_w, i32_w]
          rfl
         refine pure_ (i := 9) (N := some 32) (v := ?_) (a' := ?_) #[true, true, true, true, false, false, false, true, true, true, false, false, false] rfl rfl (any_of HT_.out (by kernel_rfl)) (fun _ _ _ h => h) (Or.inl ⟨by rfl, ?_⟩) ?_ ?_
         rotate_left
         ·intro w'
          go_simp
          with_reducible rfl
         rotate_left
         ·simp only [Act.put, List.setIfInBounds_toArray, List.set_cons_zero, List.set_cons_succ, i64_w, i32_w]
          rfl
         refine pure_ (i := 10) (N := some 33) (v := ?_) (a' := ?_) #[true, true, true, true, false, false, false, true, true, true, true, false, false] rfl rfl (any_of HT_.out (by kernel_rfl)) (fun _ _ _ h => h) (Or.inl ⟨by rfl, ?_⟩) ?_ ?_
         rotate_left
         ·intro w'
          go_simp
          with_reducible rfl
         rotate_left
         ·simp only [Act.put, List.setIfInBounds_toArray, List.set_cons_zero, List.set_cons_succ, i64_w, i32_w]
          rfl
         refine one_ (i := 4) (N := some 27) #[true, true, true, true, true, false, false, true, true, true, true, false, false] rfl rfl (one_of HT_.out (by kernel_rfl)) (by decide) (fun K hK => ?_)
         refine Kd.R_lit_step Kd.string _ 9 ?hg (N := 27) ?hd (xs := ([(⟨#[48]⟩ : ByteArray), (⟨#[120]⟩ : ByteArray), (⟨#[32]⟩ : ByteArray), (⟨#[102]⟩ : ByteArray), (⟨#[45]⟩ : ByteArray)] : List ByteArray)) (inner := [.string (⟨#[48]⟩ : ByteArray), .string (⟨#[120]⟩ : ByteArray), .string (⟨#[32]⟩ : ByteArray), .string (⟨#[102]⟩ : ByteArray), .string (⟨#[45]⟩ : ByteArray)]) (ok := fun _ => True) (okp := fun _ => True) ?hr ?hp (fun _ hk => hk) trivial (Below.refl _ _) (Nat.le_refl _) (by simp) ?_; (case hd => rfl); (case hg => rfl); (case hr => first | (go_simp; done) | (go_simp; rfl)); (case hp => exact (Reps.one (show Kd.M Kd.string _ _ _ (⟨#[48]⟩ : ByteArray) [.string (⟨#[48]⟩ : ByteArray)] from rfl) (Reps.one (show Kd.M Kd.string _ _ _ (⟨#[120]⟩ : ByteArray) [.string (⟨#[120]⟩ : ByteArray)] from rfl) (Reps.one (show Kd.M Kd.string _ _ _ (⟨#[32]⟩ : ByteArray) [.string (⟨#[32]⟩ : ByteArray)] from rfl) (Reps.one (show Kd.M Kd.string _ _ _ (⟨#[102]⟩ : ByteArray) [.string (⟨#[102]⟩ : ByteArray)] from rfl) (Reps.one (show Kd.M Kd.string _ _ _ (⟨#[45]⟩ : ByteArray) [.string (⟨#[45]⟩ : ByteArray)] from rfl) (Reps.none _ _)))))))
         intro v393 w35 ho36 hb hg_ hnew_
         clear hg_ hnew_
         (first | rw [← Ny392.out] at ho36 | (simp only [Int.reduceToNat] at ho36; rw [← Ny392.out] at ho36))
         have n0_ := Aside0.mk (Kd.R_below (kr HO376) hb)
         have n1_ := Aside0.mk (Kd.R_below (kr HO380) hb)
         have n2_ := Aside0.mk (Kd.R_lower ho36 (below_size (by repeat (first | (with_reducible first | exact HB.out | apply below_alloc | apply pw_below_drewN | apply below_drew1 | refine below_set ?_ (IsS75.ge HI370.out)) | exact HB.out))))
         have n3_ := Aside0.mk (IsS75.below (by repeat (first | (with_reducible first | exact HI370.out | apply IsS75.alloc | apply IsS75.drewN | apply IsS75.drew | apply IsS75.set_1) | exact HI370.out)) hb)
         have n4_ := Aside0.mk (below_step (by repeat (first | (with_reducible first | exact HB.out | apply below_alloc | apply pw_below_drewN | apply below_drew1 | refine below_set ?_ (IsS75.ge HI370.out)) | exact HB.out)) hb)
         clear HO376 HO380
         clear HI370 HB
         have HO376 := n0_
         have HO380 := n1_
         have HO394 := n2_
         have HI370 := n3_
         have HB := n4_
         clear n0_ n1_ n2_ n3_ n4_
         clear hb ho36
         obtain ⟨Ao37, co37, eo37⟩ := Kd.R_slice HO394.out
         (first | subst eo37 | (injection eo37 with f1_ f2_ f3_; have f4_ := f1_.symm; have f5_ := f3_.symm; clear f1_ f2_ f3_; subst f4_; subst f5_))
         refine hK.out _ _ trivial (fun hHeld => ?_)
         clear hK K
         refine norm_ (a' := ?_) ?_ ?_
         rotate_left
         ·show Act.put _ (some 27) _ = _
          simp only [Act.put, List.setIfInBounds_toArray, List.set_cons_zero, List.set_cons_succ, i64_w, i32_w]
          rfl
         refine one_ (i := 5) (N := some 28) #[true, true, true, true, true, true, false, true, true, true, true, false, false] rfl rfl (one_of HT_.out (by kernel_rfl)) (by decide) (fun K hK => ?_)
         refine goes_ Tryd.func38 (by kernel_rfl) rfl #[.pointer (some ⟨g370, 0, none⟩), .slice Ao37 y392.length co37] (by rfl) rfl rfl (by (try simp only [List.map_toArray, List.map_cons, List.map_nil]); first | done | rfl | (simp only [List.length_drop, List.length_take]; rfl)) ?_
         with_reducible refine (spec_l6Rd_of.calls k g370 t368 t391 _ _ y392 t395 t396 w _ ?side1 ?side2 ?side3 ?side4 ?side5 A21.out).mono ?_
         (case side1 => repeat (first | (with_reducible first | exact HI370.out | apply IsS75.alloc | apply IsS75.drewN | apply IsS75.drew | apply IsS75.set_1) | exact HI370.out))
         (case side2 => repeat (first | (with_reducible first | exact HB.out | apply below_alloc | apply pw_below_drewN | apply below_drew1 | refine below_set ?_ (IsS75.ge HI370.out)) | exact HB.out))
         (case side3 => repeat (first | exact (Kd.R_reads' HO394.out).2.2 | (with_reducible refine Kd.C_alloc ?_ _) | (with_reducible refine Kd.C_drewN ?_ _) | (with_reducible refine Kd.C_drew ?_)))
         (case side4 => exact (Kd.R_reads' HO394.out).2.1)
         (case side5 => exact far_slice (IsS75.own_ne HI370.out HO394.out (by decide)))
         rintro e w38 ⟨rfl, hi, hb, hk⟩
         refine ⟨_, rfl, ?_⟩
         have n0_ := Aside0.mk (Kd.R_mono (Kd.R_keep (IsS75.apart (show IsS75 w _ g370 t368 t391 from by repeat (first | (with_reducible first | exact HI370.out | apply IsS75.alloc | apply IsS75.drewN | apply IsS75.drew | apply IsS75.set_1) | exact HI370.out)) (kr HO376) (by decide)) hk (fun _ h => h.2)) (fun _ h => h.1))
         have n1_ := Aside0.mk (Kd.R_mono (Kd.R_keep (IsS75.apart (show IsS75 w _ g370 t368 t391 from by repeat (first | (with_reducible first | exact HI370.out | apply IsS75.alloc | apply IsS75.drewN | apply IsS75.drew | apply IsS75.set_1) | exact HI370.out)) (kr HO380) (by decide)) hk (fun _ h => h.2)) (fun _ h => h.1))
         have n2_ := Aside0.mk (Kd.R_mono (Kd.R_keep (IsS75.apart (show IsS75 w _ g370 t368 t391 from by repeat (first | (with_reducible first | exact HI370.out | apply IsS75.alloc | apply IsS75.drewN | apply IsS75.drew | apply IsS75.set_1) | exact HI370.out)) (kr HO394) (by decide)) hk (fun _ h => h.2)) (fun _ h => h.1))
         have n3_ := Aside0.mk (hb)
         have n4_ := Aside0.mk (hi)
         clear HO376 HO380
         clear HO394 HB HI370
         have HO376 := n0_
         have HO380 := n1_
         have HO394 := n2_
         have HB := n3_
         have HI370 := n4_
         clear n0_ n1_ n2_ n3_ n4_
         (try clear hb)
         (try clear hb2)
         (try clear hk)
         (try clear hi)
         refine hK.out _ _ trivial (fun hHeld => ?_)
         clear hK K
         refine norm_ (a' := ?_) ?_ ?_
         rotate_left
         ·show Act.put _ (some 28) _ = _
          simp only [Act.put, List.setIfInBounds_toArray, List.set_cons_zero, List.set_cons_succ, i64_w, i32_w]
          rfl
         refine pure_ (i := 6) (N := some 29) (v := ?_) (a' := ?_) #[true, true, true, true, true, true, true, true, true, true, true, false, false] rfl rfl (any_of HT_.out (by kernel_rfl)) (fun _ _ _ h => h) (Or.inl ⟨by rfl, ?_⟩) ?_ ?_
         rotate_left
         ·intro w'
          go_simp
          with_reducible rfl
         rotate_left
         ·simp only [Act.put, List.setIfInBounds_toArray, List.set_cons_zero, List.set_cons_succ, i64_w, i32_w]
          rfl
         refine pure_ (i := 11) (N := some 34) (v := ?_) (a' := ?_) #[true, true, true, true, true, true, true, true, true, true, true, true, false] rfl rfl (any_of HT_.out (by kernel_rfl)) (fun _ _ _ h => h) (Or.inl ⟨by rfl, ?_⟩) ?_ ?_
         rotate_left
         ·intro w'
          go_simp
          with_reducible rfl
         rotate_left
         ·simp only [Act.put, List.setIfInBounds_toArray, List.set_cons_zero, List.set_cons_succ, i64_w, i32_w]
          rfl
         refine pure_ (i := 12) (N := some 2) (v := ?_) (a' := ?_) #[true, true, true, true, true, true, true, true, true, true, true, true, true] rfl rfl (any_of HT_.out (by kernel_rfl)) (fun _ _ _ h => h) (Or.inl ⟨by rfl, ?_⟩) ?_ ?_
         rotate_left
         ·intro w'
          go_simp
          with_reducible rfl
         rotate_left
         ·simp only [Act.put, List.setIfInBounds_toArray, List.set_cons_zero, List.set_cons_succ, i64_w, i32_w]
          rfl
         refine done_ (done_of HT_.out (by kernel_rfl)) ?_
         try go_wp2
         go_ret
         exact ⟨by first | rfl | (simp [errW_none, errW_some] <;> rfl) | (simp only [← hji23]; first | rfl | (simp [errW_none, errW_some] <;> rfl)) | (simp [*, errW_none, errW_some] <;> rfl), by repeat (first | (with_reducible first | exact HB.out | apply below_alloc | apply pw_below_drewN | apply below_drew1 | refine below_set ?_ (IsS75.ge HI370.out)) | exact HB.out)⟩
        ·rw [if_neg c26] at H
         exact absurd H (by simp)
       ·rw [if_neg c25] at H
        exact absurd H (by simp)
      ·rw [if_neg c24] at H
       exact absurd H (by simp)
     ·rw [if_neg c22] at H
      exact absurd H (by simp)
    ·rw [if_neg c20] at H
     exact absurd H (by simp)
   ·rw [if_neg c19] at H
    exact absurd H (by simp)
  ·rw [if_neg c18] at H
   have c18b0 : (t390 == 0) = false := beq_eq_false_iff_ne.mpr c18
   have c18b1 : (t390 != 0) = true := bne_iff_ne.mpr c18
   obtain rfl := Option.some.inj H
   go_enter Tryd.func17, Tryd.ntmps17
   go_wp2_with (first | ((with_reducible refine gate_callee (f := 36) rfl ?_); refine goesL_ (some 7) rfl rfl Tryd.func36 (by kernel_rfl) rfl #[.slice A0 l0.length c0] rfl (by (try simp only [List.map_toArray, List.map_cons, List.map_nil]); first | done | rfl | (simp only [List.length_drop, List.length_take]; rfl)) ?_; (with_reducible refine (spec_l6Open.calls _ _ l0 t368 t369 w _ ?side1 ?side2 ?side3 A2.out).mono ?_); (case side1 => repeat (first | (with_reducible first | exact HB.out | apply below_alloc | apply pw_below_drewN | apply below_drew1) | exact HB.out)); (case side2 => exact HR0.out); (case side3 => exact HC0.out); rintro e w39 ⟨g370, rfl, hi, hb, hb2⟩; refine ⟨_, rfl, ?_⟩; have n0_ := Aside0.mk (hb); have n1_ := Aside0.mk (hi); clear HB; have HB := n0_; have HI370 := n1_; clear n0_ n1_; (try clear hb); (try clear hb2); (try clear hk); (try clear hi)) | ((with_reducible refine gate_callee (f := 37) rfl ?_); refine goesL_ (some 9) rfl rfl Tryd.func37 (by kernel_rfl) rfl #[.pointer (some ⟨g370, 0, none⟩)] rfl (by (try simp only [List.map_toArray, List.map_cons, List.map_nil]); first | done | rfl | (simp only [List.length_drop, List.length_take]; rfl)) ?_; (with_reducible refine (spec_l91Record.calls k g370 t368 t369 t371 t372 t373 t374 t377 t378 t381 w _ ?side1 ?side2 A3.out).mono ?_); (case side1 => repeat (first | (with_reducible first | exact HI370.out | apply IsS75.alloc | apply IsS75.drewN | apply IsS75.drew | apply IsS75.set_1) | exact HI370.out)); (case side2 => repeat (first | (with_reducible first | exact HB.out | apply below_alloc | apply pw_below_drewN | apply below_drew1 | refine below_set ?_ (IsS75.ge HI370.out)) | exact HB.out)); rintro e w40 ⟨v375, v379, rfl, ho0, ho1, hi, hb, hk⟩; refine ⟨_, rfl, ?_⟩; have n0_ := Aside0.mk (Kd.R_lower ho0 (below_size (by repeat (first | (with_reducible first | exact HB.out | apply below_alloc | apply pw_below_drewN | apply below_drew1 | refine below_set ?_ (IsS75.ge HI370.out)) | exact HB.out)))); have n1_ := Aside0.mk (Kd.R_lower ho1 (below_size (by repeat (first | (with_reducible first | exact HB.out | apply below_alloc | apply pw_below_drewN | apply below_drew1 | refine below_set ?_ (IsS75.ge HI370.out)) | exact HB.out)))); have n2_ := Aside0.mk (hb); have n3_ := Aside0.mk (hi); clear HB HI370; have HO376 := n0_; have HO380 := n1_; have HB := n2_; have HI370 := n3_; clear n0_ n1_ n2_ n3_; (try clear hb); (try clear hb2); (try clear hk); (try clear hi); (try clear ho0); (try clear ho1); obtain ⟨Ao41, co41, eo41⟩ := Kd.R_slice HO376.out; subst eo41; obtain ⟨Ao42, co42, eo42⟩ := Kd.R_slice HO380.out; subst eo42) | ((with_reducible refine gate_callee (f := 9) rfl ?_); refine goesL_ (some 10) rfl rfl Tryd.func9 (by kernel_rfl) rfl #[.agg #[.int .i64 t371, .int .i64 t372, .bool t373, .slice Ao41 t374.length co41, .bool t377, .slice Ao42 t378.length co42]] rfl (by (try simp only [List.map_toArray, List.map_cons, List.map_nil]); first | done | rfl | (simp only [List.length_drop, List.length_take]; rfl)) ?_; (with_reducible refine (spec_RecordText.calls k t371 t372 t373 _ _ t374 t377 _ _ t378 t382 _ ?side1 ?side2 ?side3 ?side4 A4.out).mono ?_); (case side1 => repeat (first | exact (Kd.R_reads' HO376.out).2.2 | (with_reducible refine Kd.C_alloc ?_ _) | (with_reducible refine Kd.C_drewN ?_ _) | (with_reducible refine Kd.C_drew ?_))); (case side2 => exact (Kd.R_reads' HO376.out).2.1); (case side3 => repeat (first | exact (Kd.R_reads' HO380.out).2.2 | (with_reducible refine Kd.C_alloc ?_ _) | (with_reducible refine Kd.C_drewN ?_ _) | (with_reducible refine Kd.C_drew ?_))); (case side4 => exact (Kd.R_reads' HO380.out).2.1); rintro e w43 ⟨rfl, hb⟩; refine ⟨_, rfl, ?_⟩; have n0_ := Aside0.mk (Kd.R_below (kr HO376) hb); have n1_ := Aside0.mk (Kd.R_below (kr HO380) hb); have n2_ := Aside0.mk (IsS75.below (by repeat (first | (with_reducible first | exact HI370.out | apply IsS75.alloc | apply IsS75.drewN | apply IsS75.drew | apply IsS75.set_1) | exact HI370.out)) hb); have n3_ := Aside0.mk (below_step (by repeat (first | (with_reducible first | exact HB.out | apply below_alloc | apply pw_below_drewN | apply below_drew1 | refine below_set ?_ (IsS75.ge HI370.out)) | exact HB.out)) hb); clear HO376 HO380; clear HI370 HB; have HO376 := n0_; have HO380 := n1_; have HI370 := n2_; have HB := n3_; clear n0_ n1_ n2_ n3_; (try clear hb); (try clear hb2); (try clear hk); (try clear hi)) | ((with_reducible refine gate_callee (f := 39) rfl ?_); refine goesL_ (some 19) rfl rfl Tryd.func39 (by kernel_rfl) rfl #[.pointer (some ⟨g370, 0, none⟩), .int .i64 (t382.size : Int)] rfl (by (try simp only [List.map_toArray, List.map_cons, List.map_nil]); first | done | rfl | (simp only [List.length_drop, List.length_take]; rfl)) ?_; (with_reducible refine (spec_l6Rd_pick.calls k g370 t368 t381 (t382.size : Int) t388 t389 w _ ?side1 ?side2 A16.out).mono ?_); (case side1 => repeat (first | (with_reducible first | exact HI370.out | apply IsS75.alloc | apply IsS75.drewN | apply IsS75.drew | apply IsS75.set_1) | exact HI370.out)); (case side2 => repeat (first | (with_reducible first | exact HB.out | apply below_alloc | apply pw_below_drewN | apply below_drew1 | refine below_set ?_ (IsS75.ge HI370.out)) | exact HB.out)); rintro e w44 ⟨rfl, hi, hb, hk⟩; refine ⟨_, rfl, ?_⟩; have n0_ := Aside0.mk (Kd.R_mono (Kd.R_keep (IsS75.apart (show IsS75 w _ g370 t368 t381 from by repeat (first | (with_reducible first | exact HI370.out | apply IsS75.alloc | apply IsS75.drewN | apply IsS75.drew | apply IsS75.set_1) | exact HI370.out)) (kr HO376) (by decide)) hk (fun _ h => h.2)) (fun _ h => h.1)); have n1_ := Aside0.mk (Kd.R_mono (Kd.R_keep (IsS75.apart (show IsS75 w _ g370 t368 t381 from by repeat (first | (with_reducible first | exact HI370.out | apply IsS75.alloc | apply IsS75.drewN | apply IsS75.drew | apply IsS75.set_1) | exact HI370.out)) (kr HO380) (by decide)) hk (fun _ h => h.2)) (fun _ h => h.1)); have n2_ := Aside0.mk (hb); have n3_ := Aside0.mk (hi); clear HO376 HO380; clear HB HI370; have HO376 := n0_; have HO380 := n1_; have HB := n2_; have HI370 := n3_; clear n0_ n1_ n2_ n3_; (try clear hb); (try clear hb2); (try clear hk); (try clear hi)) | ((with_reducible refine gate_callee (f := 39) rfl ?_); refine goesL_ (some 21) rfl rfl Tryd.func39 (by kernel_rfl) rfl #[.pointer (some ⟨g370, 0, none⟩), .int .i64 6] rfl (by (try simp only [List.map_toArray, List.map_cons, List.map_nil]); first | done | rfl | (simp only [List.length_drop, List.length_take]; rfl)) ?_; (with_reducible refine (spec_l6Rd_pick.calls k g370 t368 t389 6 t390 t391 w _ ?side1 ?side2 A17.out).mono ?_); (case side1 => repeat (first | (with_reducible first | exact HI370.out | apply IsS75.alloc | apply IsS75.drewN | apply IsS75.drew | apply IsS75.set_1) | exact HI370.out)); (case side2 => repeat (first | (with_reducible first | exact HB.out | apply below_alloc | apply pw_below_drewN | apply below_drew1 | refine below_set ?_ (IsS75.ge HI370.out)) | exact HB.out)); rintro e w45 ⟨rfl, hi, hb, hk⟩; refine ⟨_, rfl, ?_⟩; have n0_ := Aside0.mk (Kd.R_mono (Kd.R_keep (IsS75.apart (show IsS75 w _ g370 t368 t389 from by repeat (first | (with_reducible first | exact HI370.out | apply IsS75.alloc | apply IsS75.drewN | apply IsS75.drew | apply IsS75.set_1) | exact HI370.out)) (kr HO376) (by decide)) hk (fun _ h => h.2)) (fun _ h => h.1)); have n1_ := Aside0.mk (Kd.R_mono (Kd.R_keep (IsS75.apart (show IsS75 w _ g370 t368 t389 from by repeat (first | (with_reducible first | exact HI370.out | apply IsS75.alloc | apply IsS75.drewN | apply IsS75.drew | apply IsS75.set_1) | exact HI370.out)) (kr HO380) (by decide)) hk (fun _ h => h.2)) (fun _ h => h.1)); have n2_ := Aside0.mk (hb); have n3_ := Aside0.mk (hi); clear HO376 HO380; clear HB HI370; have HO376 := n0_; have HO380 := n1_; have HB := n2_; have HI370 := n3_; clear n0_ n1_ n2_ n3_; (try clear hb); (try clear hb2); (try clear hk); (try clear hi)))
   go_ret
   exact ⟨by first | rfl | (simp [errW_none, errW_some] <;> rfl) | (simp [*, errW_none, errW_some] <;> rfl), by repeat (first | (with_reducible first | exact HB.out | apply below_alloc | apply pw_below_drewN | apply below_drew1 | refine below_set ?_ (IsS75.ge HI370.out)) | exact HB.out)⟩

end Go.Proofs.YtlijpnglocgldaaDoor.P
