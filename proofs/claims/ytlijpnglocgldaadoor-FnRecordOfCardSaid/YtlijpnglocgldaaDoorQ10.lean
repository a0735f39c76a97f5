-- Laid by wip/xprint.py and wip/resplit.py (programs of this session's over the kit's printer). Not trusted: Lean checks it.
import Derived.Test.YtlijpnglocgldaaDoorPx0
import Derived.Test.YtlijpnglocgldaaDoorShort
import Derived.Test.YtlijpnglocgldaaDoorQ0
import Derived.Test.YtlijpnglocgldaaDoorQ1
import Derived.Test.YtlijpnglocgldaaDoorQ6
import Derived.Test.YtlijpnglocgldaaDoorQ4
import Derived.Test.YtlijpnglocgldaaDoorERof
import Derived.Test.YtlijpnglocgldaaDoorERtext
import Derived.Test.YtlijpnglocgldaaDoorGok
namespace Go.Proofs.YtlijpnglocgldaaDoor.P
open Go.RowKit Go.Proofs.YtlijpnglocgldaaDoorW.PrintWords Go.Proofs.YtlijpnglocgldaaDoorW.PrintLast Go.Proofs.YtlijpnglocgldaaDoorW.PrintMore
attribute [local go_sem] max2_int min2_int max_two min_two max_three min_three max_four min_four   -- for this text's walks alone
set_option linter.unusedVariables false
set_option linter.unusedSimpArgs false

/-! ### laws_FnRecordOf: function 7 -/
def laws_FnRecordOf.j0 : Nat → ByteArray → Bool → Bool → Bool → Int → Int → Bool → List Int → Bool → List Int → Int → Int → Bool → List Int → Bool → List Int → Option (Bool)
 | 0, _, _, _, _, _, _, _, _, _, _, _, _, _, _, _, _ => none
 | k + 1, x3, x5, x7, x35, x520000, x520001, x520002, x520003, x520004, x520005, x532000, x532001, x532002, x532003, x532004, x532005 => if x35 = true then (if (x5 == x7) = true then ((laws_sameRecord.f k x520000 x520001 x520002 x520003 x520004 x520005 x532000 x532001 x532002 x532003 x532004 x532005).bind fun t533 => (some t533)) else (some false)) else ((impl_RecordValid.f k x520000 x520001 x520002 x520003 x520004 x520005).bind fun t534 => (if t534 = true then ((impl_RecordText.f x520000 x520001 x520002 x520003 x520004 x520005).bind fun t535 => (some (t535.toList == x3.toList))) else (some false)))
def laws_FnRecordOf.f (k : Nat) (l0 : List Int) : Option (Bool) := if (l0.length : Int) > 1048576 then (some true) else ((spec_DrawRecordOf.f k l0).bind fun t507 => ((impl_RecordOf.f k t507).bind fun bt508 => ((spec_RecordOf.f k t507).bind fun bt520 => (if (bt508.2.2.2.2.2.2 != bt520.2.2.2.2.2.2) = true then (laws_FnRecordOf.j0 k t507 bt508.2.2.2.2.2.2 bt520.2.2.2.2.2.2 true bt508.1 bt508.2.1 bt508.2.2.1 bt508.2.2.2.1 bt508.2.2.2.2.1 bt508.2.2.2.2.2.1 bt520.1 bt520.2.1 bt520.2.2.1 bt520.2.2.2.1 bt520.2.2.2.2.1 bt520.2.2.2.2.2.1) else ((laws_sameRecord.f k bt508.1 bt508.2.1 bt508.2.2.1 bt508.2.2.2.1 bt508.2.2.2.2.1 bt508.2.2.2.2.2.1 bt520.1 bt520.2.1 bt520.2.2.1 bt520.2.2.2.1 bt520.2.2.2.2.1 bt520.2.2.2.2.2.1).bind fun t532 => (if t532 = true then (laws_FnRecordOf.j0 k t507 bt508.2.2.2.2.2.2 bt520.2.2.2.2.2.2 (!bt508.2.2.2.2.2.2) bt508.1 bt508.2.1 bt508.2.2.1 bt508.2.2.2.1 bt508.2.2.2.2.1 bt508.2.2.2.2.2.1 bt520.1 bt520.2.1 bt520.2.2.1 bt520.2.2.2.1 bt520.2.2.2.2.1 bt520.2.2.2.2.2.1) else (laws_FnRecordOf.j0 k t507 bt508.2.2.2.2.2.2 bt520.2.2.2.2.2.2 true bt508.1 bt508.2.1 bt508.2.2.1 bt508.2.2.2.1 bt508.2.2.2.2.1 bt508.2.2.2.2.2.1 bt520.1 bt520.2.1 bt520.2.2.1 bt520.2.2.2.1 bt520.2.2.2.2.1 bt520.2.2.2.2.2.1)))))))
theorem laws_FnRecordOf.mono_l : ∀ k, (∀ y0 y1 y2 y3 y4 y5 y6 y7 y8 y9 y10 y11 y12 y13 y14 y15, LeO (laws_FnRecordOf.j0 k y0 y1 y2 y3 y4 y5 y6 y7 y8 y9 y10 y11 y12 y13 y14 y15) (laws_FnRecordOf.j0 (k + 1) y0 y1 y2 y3 y4 y5 y6 y7 y8 y9 y10 y11 y12 y13 y14 y15))
 | 0 => fun _ _ _ _ _ _ _ _ _ _ _ _ _ _ _ _ r h => by simp [laws_FnRecordOf.j0] at h
 | k + 1 => by
  have ih0 := laws_FnRecordOf.mono_l k
  ·intro y0 y1 y2 y3 y4 y5 y6 y7 y8 y9 y10 y11 y12 y13 y14 y15
   unfold laws_FnRecordOf.j0
   repeat' first
   | (with_reducible exact ih0 _ _ _ _ _ _ _ _ _ _ _ _ _ _ _ _)
   | (with_reducible exact impl_RecordOf.mono _ _)
   | (with_reducible exact impl_RecordValid.mono _ _ _ _ _ _ _)
   | (with_reducible exact laws_sameRecord.mono _ _ _ _ _ _ _ _ _ _ _ _ _)
   | (with_reducible exact spec_DrawRecordOf.mono _ _)
   | (with_reducible exact spec_RecordOf.mono _ _)
   | (with_reducible exact LeO.refl _)
   | (with_reducible exact LeO.none _)
   | (with_reducible refine LeO.ite ?_ ?_)
   | (with_reducible refine LeO.bind ?_ (fun _ => ?_))
   | exact ih0 _ _ _ _ _ _ _ _ _ _ _ _ _ _ _ _
   | exact impl_RecordOf.mono _ _
   | exact impl_RecordValid.mono _ _ _ _ _ _ _
   | exact laws_sameRecord.mono _ _ _ _ _ _ _ _ _ _ _ _ _
   | exact spec_DrawRecordOf.mono _ _
   | exact spec_RecordOf.mono _ _
   | exact LeO.none _
   | refine LeO.ite ?_ ?_
   | refine LeO.bind ?_ (fun _ => ?_)
theorem laws_FnRecordOf.mono : ∀ a0 k, LeO (laws_FnRecordOf.f k a0) (laws_FnRecordOf.f (k + 1) a0) := by
 intro a0 k
 have ih0 := laws_FnRecordOf.mono_l k
 unfold laws_FnRecordOf.f
 repeat' first
   | (with_reducible exact ih0 _ _ _ _ _ _ _ _ _ _ _ _ _ _ _ _)
   | (with_reducible exact impl_RecordOf.mono _ _)
   | (with_reducible exact impl_RecordValid.mono _ _ _ _ _ _ _)
   | (with_reducible exact laws_sameRecord.mono _ _ _ _ _ _ _ _ _ _ _ _ _)
   | (with_reducible exact spec_DrawRecordOf.mono _ _)
   | (with_reducible exact spec_RecordOf.mono _ _)
   | (with_reducible exact LeO.refl _)
   | (with_reducible exact LeO.none _)
   | (with_reducible refine LeO.ite ?_ ?_)
   | (with_reducible refine LeO.bind ?_ (fun _ => ?_))
   | exact ih0 _ _ _ _ _ _ _ _ _ _ _ _ _ _ _ _
   | exact impl_RecordOf.mono _ _
   | exact impl_RecordValid.mono _ _ _ _ _ _ _
   | exact laws_sameRecord.mono _ _ _ _ _ _ _ _ _ _ _ _ _
   | exact spec_DrawRecordOf.mono _ _
   | exact spec_RecordOf.mono _ _
   | exact LeO.none _
   | refine LeO.ite ?_ ?_
   | refine LeO.bind ?_ (fun _ => ?_)
set_option maxHeartbeats 8000000 in
set_option maxRecDepth 100000 in
theorem laws_FnRecordOf.calls (k : Nat) (A0 : Option Addr) (c0 : Nat) (l0 : List Int) (r : Bool) (w : World) (hr0 : Kd.C (Kd.int .u8) w A0 l0.length l0) (hc0 : l0.length ≤ c0) (hGM : GOKM w) (hGT : GOKT w) (h : laws_FnRecordOf.f k l0 = some r) :
  Calls Tryd.prog 7 #[.slice A0 l0.length c0] w fun e w' => e = .returned (.bool r) ∧ Below w.heap.size w w' := by
 have hu27 := Tryd.underlying27
 have HR0 := Aside0.mk hr0
 have HC0 := Aside0.mk hc0
 clear hr0 hc0
 have HB := Aside0.mk (Below.refl w.heap.size w)
 have HGM := Aside0.mk hGM
 clear hGM
 have HGT := Aside0.mk hGT
 clear hGT
 have H : (if (l0.length : Int) > 1048576 then (some true) else ((spec_DrawRecordOf.f k l0).bind fun t507 => ((impl_RecordOf.f k t507).bind fun bt508 => ((spec_RecordOf.f k t507).bind fun bt520 => (if (bt508.2.2.2.2.2.2 != bt520.2.2.2.2.2.2) = true then (laws_FnRecordOf.j0 k t507 bt508.2.2.2.2.2.2 bt520.2.2.2.2.2.2 true bt508.1 bt508.2.1 bt508.2.2.1 bt508.2.2.2.1 bt508.2.2.2.2.1 bt508.2.2.2.2.2.1 bt520.1 bt520.2.1 bt520.2.2.1 bt520.2.2.2.1 bt520.2.2.2.2.1 bt520.2.2.2.2.2.1) else ((laws_sameRecord.f k bt508.1 bt508.2.1 bt508.2.2.1 bt508.2.2.2.1 bt508.2.2.2.2.1 bt508.2.2.2.2.2.1 bt520.1 bt520.2.1 bt520.2.2.1 bt520.2.2.2.1 bt520.2.2.2.2.1 bt520.2.2.2.2.2.1).bind fun t532 => (if t532 = true then (laws_FnRecordOf.j0 k t507 bt508.2.2.2.2.2.2 bt520.2.2.2.2.2.2 (!bt508.2.2.2.2.2.2) bt508.1 bt508.2.1 bt508.2.2.1 bt508.2.2.2.1 bt508.2.2.2.2.1 bt508.2.2.2.2.2.1 bt520.1 bt520.2.1 bt520.2.2.1 bt520.2.2.2.1 bt520.2.2.2.2.1 bt520.2.2.2.2.2.1) else (laws_FnRecordOf.j0 k t507 bt508.2.2.2.2.2.2 bt520.2.2.2.2.2.2 true bt508.1 bt508.2.1 bt508.2.2.1 bt508.2.2.2.1 bt508.2.2.2.2.1 bt508.2.2.2.2.2.1 bt520.1 bt520.2.1 bt520.2.2.1 bt520.2.2.2.1 bt520.2.2.2.2.1 bt520.2.2.2.2.2.1)))))))) = some r := h
 clear h
 by_cases c2 : (l0.length : Int) > 1048576
 ·rw [if_pos c2] at H
  have c2b0 : decide (1048576 < (l0.length : Int)) = true := decide_eq_true c2
  have c2b1 : decide (1048576 < l0.length) = true := decide_eq_true (by omega)
  clear c2
  obtain rfl := Option.some.inj H
  go_enter Tryd.func7, Tryd.ntmps7
  go_wp2
  go_ret
  exact ⟨by first | rfl | (simp [errW_none, errW_some] <;> rfl) | (simp [*, errW_none, errW_some] <;> rfl), by repeat (first | (with_reducible first | exact HB.out | apply below_alloc | apply pw_below_drewN | apply below_drew1) | exact HB.out)⟩
 ·rw [if_neg c2] at H
  have c2b0 : decide (1048576 < (l0.length : Int)) = false := decide_eq_false c2
  have c2b1 : decide (1048576 < l0.length) = false := decide_eq_false (by omega)
  clear c2
  replace H := Option.bind_eq_some_iff.mp H
  obtain ⟨t507, A30, H⟩ := H
  replace H : ((impl_RecordOf.f k t507).bind fun bt508 => ((spec_RecordOf.f k t507).bind fun bt520 => (if (bt508.2.2.2.2.2.2 != bt520.2.2.2.2.2.2) = true then (laws_FnRecordOf.j0 k t507 bt508.2.2.2.2.2.2 bt520.2.2.2.2.2.2 true bt508.1 bt508.2.1 bt508.2.2.1 bt508.2.2.2.1 bt508.2.2.2.2.1 bt508.2.2.2.2.2.1 bt520.1 bt520.2.1 bt520.2.2.1 bt520.2.2.2.1 bt520.2.2.2.2.1 bt520.2.2.2.2.2.1) else ((laws_sameRecord.f k bt508.1 bt508.2.1 bt508.2.2.1 bt508.2.2.2.1 bt508.2.2.2.2.1 bt508.2.2.2.2.2.1 bt520.1 bt520.2.1 bt520.2.2.1 bt520.2.2.2.1 bt520.2.2.2.2.1 bt520.2.2.2.2.2.1).bind fun t532 => (if t532 = true then (laws_FnRecordOf.j0 k t507 bt508.2.2.2.2.2.2 bt520.2.2.2.2.2.2 (!bt508.2.2.2.2.2.2) bt508.1 bt508.2.1 bt508.2.2.1 bt508.2.2.2.1 bt508.2.2.2.2.1 bt508.2.2.2.2.2.1 bt520.1 bt520.2.1 bt520.2.2.1 bt520.2.2.2.1 bt520.2.2.2.2.1 bt520.2.2.2.2.2.1) else (laws_FnRecordOf.j0 k t507 bt508.2.2.2.2.2.2 bt520.2.2.2.2.2.2 true bt508.1 bt508.2.1 bt508.2.2.1 bt508.2.2.2.1 bt508.2.2.2.2.1 bt508.2.2.2.2.2.1 bt520.1 bt520.2.1 bt520.2.2.1 bt520.2.2.2.1 bt520.2.2.2.2.1 bt520.2.2.2.2.2.1)))))) = some r := H
  have A3 := Aside0.mk A30
  clear A30
  replace H := Option.bind_eq_some_iff.mp H
  obtain ⟨⟨t508, t509, t510, t511, t514, t515, t518⟩, A40, H⟩ := H
  replace H : ((spec_RecordOf.f k t507).bind fun bt520 => (if (t518 != bt520.2.2.2.2.2.2) = true then (laws_FnRecordOf.j0 k t507 t518 bt520.2.2.2.2.2.2 true t508 t509 t510 t511 t514 t515 bt520.1 bt520.2.1 bt520.2.2.1 bt520.2.2.2.1 bt520.2.2.2.2.1 bt520.2.2.2.2.2.1) else ((laws_sameRecord.f k t508 t509 t510 t511 t514 t515 bt520.1 bt520.2.1 bt520.2.2.1 bt520.2.2.2.1 bt520.2.2.2.2.1 bt520.2.2.2.2.2.1).bind fun t532 => (if t532 = true then (laws_FnRecordOf.j0 k t507 t518 bt520.2.2.2.2.2.2 (!t518) t508 t509 t510 t511 t514 t515 bt520.1 bt520.2.1 bt520.2.2.1 bt520.2.2.2.1 bt520.2.2.2.2.1 bt520.2.2.2.2.2.1) else (laws_FnRecordOf.j0 k t507 t518 bt520.2.2.2.2.2.2 true t508 t509 t510 t511 t514 t515 bt520.1 bt520.2.1 bt520.2.2.1 bt520.2.2.2.1 bt520.2.2.2.2.1 bt520.2.2.2.2.2.1))))) = some r := H
  have A4 := Aside0.mk A40
  clear A40
  replace H := Option.bind_eq_some_iff.mp H
  obtain ⟨⟨t520, t521, t522, t523, t526, t527, t530⟩, A50, H⟩ := H
  replace H : (if (t518 != t530) = true then (laws_FnRecordOf.j0 k t507 t518 t530 true t508 t509 t510 t511 t514 t515 t520 t521 t522 t523 t526 t527) else ((laws_sameRecord.f k t508 t509 t510 t511 t514 t515 t520 t521 t522 t523 t526 t527).bind fun t532 => (if t532 = true then (laws_FnRecordOf.j0 k t507 t518 t530 (!t518) t508 t509 t510 t511 t514 t515 t520 t521 t522 t523 t526 t527) else (laws_FnRecordOf.j0 k t507 t518 t530 true t508 t509 t510 t511 t514 t515 t520 t521 t522 t523 t526 t527)))) = some r := H
  have A5 := Aside0.mk A50
  clear A50
  have HC6 := Aside0.mk H
  clear H
  go_enter Tryd.func7, Tryd.ntmps7
  go_upto_region 6 with (first | ((with_reducible refine gate_callee (f := 17) rfl ?_); refine goesL_ (some 12) rfl rfl Tryd.func17 (by kernel_rfl) rfl #[.slice A0 l0.length c0] rfl (by (try simp only [List.map_toArray, List.map_cons, List.map_nil]); first | done | rfl | (simp only [List.length_drop, List.length_take]; rfl)) ?_; (with_reducible refine (spec_DrawRecordOf.calls k _ _ l0 t507 _ ?side1 ?side2 A3.out).mono ?_); (case side1 => repeat (first | exact HR0.out | (with_reducible refine Kd.C_alloc ?_ _) | (with_reducible refine Kd.C_drewN ?_ _) | (with_reducible refine Kd.C_drew ?_))); (case side2 => exact HC0.out); rintro e w7 ⟨rfl, hb⟩; refine ⟨_, rfl, ?_⟩; have n0_ := Aside0.mk (below_step (kB0 HB) hb); clear HB; have HB := n0_; clear n0_; (try clear hb); (try clear hb2); (try clear hk); (try clear hi)) | ((with_reducible refine gate_callee (f := 14) rfl ?_); refine goesL_ (some 15) rfl rfl Tryd.func14 (by kernel_rfl) rfl #[.string t507] rfl (by (try simp only [List.map_toArray, List.map_cons, List.map_nil]); first | done | rfl | (simp only [List.length_drop, List.length_take]; rfl)) ?_; (with_reducible refine (impl_RecordOf.calls k t507 t508 t509 t510 t511 t514 t515 t518 _ ?side1 A4.out).mono ?_); (case side1 => refine GOKM.below HGM.out ?_; repeat (first | (with_reducible first | exact HB.out | apply below_alloc | apply pw_below_drewN | apply below_drew1) | exact HB.out)); rintro e w8 ⟨v512, v516, rfl, ho0, ho1, hb⟩; refine ⟨_, rfl, ?_⟩; have n0_ := Aside0.mk (Kd.R_lower ho0 (below_size (kB0 HB))); have n1_ := Aside0.mk (Kd.R_lower ho1 (below_size (kB0 HB))); have n2_ := Aside0.mk (below_step (kB0 HB) hb); clear HB; have HO513 := n0_; have HO517 := n1_; have HB := n2_; clear n0_ n1_ n2_; (try clear hb); (try clear hb2); (try clear hk); (try clear hi); (try clear ho0); (try clear ho1)) | ((with_reducible refine gate_dst (N := 4) rfl ?_); refine box_event ?hg (N := 4) ?hd (cs := #[.int .i64 0, .int .i64 0, .bool false, .slice none 0 0, .bool false, .slice none 0 0]) (t := 27) ?hr ?_; (case hd => rfl); (case hg => rfl); (case hr => first | (go_simp; done) | (go_simp; rfl)); intro gb519 hg w9 hbox hb; have n0_ := Aside0.mk (Kd.R_below (kr HO513) hb); have n1_ := Aside0.mk (Kd.R_below (kr HO517) hb); have n2_ := Aside0.mk (below_step (kB0 HB) hb); have n3_ := Aside0.mk (hbox); have n4_ := Aside0.mk ((by rw [hg]; exact (below_size (kB0 HB)) : w.heap.size ≤ gb519)); have n5_ := Aside0.mk ((by rw [hg]; exact (below_size (kB0 HB)) : w.heap.size ≤ gb519)); clear HO513 HO517 HB; have HO513 := n0_; have HO517 := n1_; have HB := n2_; have BK519 := n3_; have GW519 := n4_; have GE519 := n5_; clear n0_ n1_ n2_ n3_ n4_ n5_; clear hb hbox hg; have hcz10_0 : w9.cell? ⟨gb519, 0, none⟩ = some (.int .i64 0) := (blk_cell BK519.out 0).trans rfl; have hcz10_1 : w9.cell? ⟨gb519, 1, none⟩ = some (.int .i64 0) := (blk_cell BK519.out 1).trans rfl; have hcz10_2 : w9.cell? ⟨gb519, 2, none⟩ = some (.bool false) := (blk_cell BK519.out 2).trans rfl; have hcz10_3 : w9.cell? ⟨gb519, 3, none⟩ = some (.slice none 0 0) := (blk_cell BK519.out 3).trans rfl; have hcz10_4 : w9.cell? ⟨gb519, 4, none⟩ = some (.bool false) := (blk_cell BK519.out 4).trans rfl; have hcz10_5 : w9.cell? ⟨gb519, 5, none⟩ = some (.slice none 0 0) := (blk_cell BK519.out 5).trans rfl; have hfz10_0 := blk_frozen BK519.out 0; have hfz10_1 := blk_frozen BK519.out 1; have hfz10_2 := blk_frozen BK519.out 2; have hfz10_3 := blk_frozen BK519.out 3; have hfz10_4 := blk_frozen BK519.out 4; have hfz10_5 := blk_frozen BK519.out 5; obtain ⟨Ao11, co11, eo11⟩ := Kd.R_slice HO513.out; subst eo11; obtain ⟨Ao12, co12, eo12⟩ := Kd.R_slice HO517.out; subst eo12) | ((with_reducible refine gate_callee (f := 13) rfl ?_); refine goesL_ (some 20) rfl rfl Tryd.func13 (by kernel_rfl) rfl #[.string t507] rfl (by (try simp only [List.map_toArray, List.map_cons, List.map_nil]); first | done | rfl | (simp only [List.length_drop, List.length_take]; rfl)) ?_; (with_reducible refine (spec_RecordOf.calls k t507 t520 t521 t522 t523 t526 t527 t530 _ A5.out).mono ?_); rintro e w13 ⟨v524, v528, rfl, ho0, ho1, hb⟩; refine ⟨_, rfl, ?_⟩; have n0_ := Aside0.mk (Kd.R_mono (Kd.R_told (Kd.R_told (Kd.R_old (kf HO513 BK519) hb) (Kd.R_base ho0)) (Kd.R_base ho1)) (fun _ h_ => h_.1)); have n1_ := Aside0.mk (Kd.R_mono (Kd.R_told (Kd.R_told (Kd.R_old (kf HO517 BK519) hb) (Kd.R_base ho0)) (Kd.R_base ho1)) (fun _ h_ => h_.1)); have n2_ := Aside0.mk (Kd.R_lower (Kd.R_new' (Kd.R_new' ho0 (Kd.R_lt (kf HO513 BK519))) (Kd.R_lt (kf HO517 BK519))) (below_size (kB1 HB GE519))); have n3_ := Aside0.mk (Kd.R_lower (Kd.R_new' (Kd.R_new' ho1 (Kd.R_lt (kf HO513 BK519))) (Kd.R_lt (kf HO517 BK519))) (below_size (kB1 HB GE519))); have n4_ := Aside0.mk (blk_below (g := gb519) (o := .cells #[.int .i64 t508, .int .i64 t509, .bool t510, .slice Ao11 t511.length co11, .bool t514, .slice Ao12 t515.length co12] 27 (0, 0)) (kbp6 BK519) hb); have n5_ := Aside0.mk (below_step (kB1 HB GE519) hb); clear HO513 HO517; clear BK519 HB; have HO513 := n0_; have HO517 := n1_; have HO525 := n2_; have HO529 := n3_; have BK519 := n4_; have HB := n5_; clear n0_ n1_ n2_ n3_ n4_ n5_; (try clear hb); (try clear hb2); (try clear hk); (try clear hi); (try clear ho0); (try clear ho1)) | ((with_reducible refine gate_dst (N := 6) rfl ?_); refine box_event ?hg (N := 6) ?hd (cs := #[.int .i64 0, .int .i64 0, .bool false, .slice none 0 0, .bool false, .slice none 0 0]) (t := 27) ?hr ?_; (case hd => rfl); (case hg => rfl); (case hr => first | (go_simp; done) | (go_simp; rfl)); intro gb531 hg w14 hbox hb; have n0_ := Aside0.mk (Kd.R_below (kr HO513) hb); have n1_ := Aside0.mk (Kd.R_below (kr HO517) hb); have n2_ := Aside0.mk (Kd.R_below (kr HO525) hb); have n3_ := Aside0.mk (Kd.R_below (kr HO529) hb); have n4_ := Aside0.mk (blk_below (g := gb519) (o := .cells #[.int .i64 t508, .int .i64 t509, .bool t510, .slice Ao11 t511.length co11, .bool t514, .slice Ao12 t515.length co12] 27 (0, 0)) (kb BK519) hb); have n5_ := Aside0.mk (below_step (kB1 HB GE519) hb); have n6_ := Aside0.mk (hbox); have n7_ := Aside0.mk ((by rw [hg]; exact (below_size (kB1 HB GE519)) : w.heap.size ≤ gb531)); have n8_ := Aside0.mk ((by rw [hg]; exact (below_size (kB1 HB GE519)) : w.heap.size ≤ gb531)); have n9_ := Aside0.mk ((by rw [hg]; exact Nat.ne_of_lt (blk_lt (g := gb519) (o := .cells #[.int .i64 t508, .int .i64 t509, .bool t510, .slice Ao11 t511.length co11, .bool t514, .slice Ao12 t515.length co12] 27 (0, 0)) (kb BK519)) : gb519 ≠ gb531)); have n10_ := Aside0.mk ((by rw [hg]; exact Nat.ne_of_gt (blk_lt (g := gb519) (o := .cells #[.int .i64 t508, .int .i64 t509, .bool t510, .slice Ao11 t511.length co11, .bool t514, .slice Ao12 t515.length co12] 27 (0, 0)) (kb BK519)) : gb531 ≠ gb519)); clear HO513 HO517; clear HO525 HO529; clear BK519 HB; have HO513 := n0_; have HO517 := n1_; have HO525 := n2_; have HO529 := n3_; have BK519 := n4_; have HB := n5_; have BK531 := n6_; have GW531 := n7_; have GE531 := n8_; have NB519_531 := n9_; have NB531_519 := n10_; clear n0_ n1_ n2_ n3_ n4_ n5_ n6_ n7_ n8_ n9_ n10_; clear hb hbox hg; have hnb15 := NB531_519.out; have hnc15 := NB519_531.out; have hcz16_0 : w14.cell? ⟨gb531, 0, none⟩ = some (.int .i64 0) := (blk_cell BK531.out 0).trans rfl; have hcz16_1 : w14.cell? ⟨gb531, 1, none⟩ = some (.int .i64 0) := (blk_cell BK531.out 1).trans rfl; have hcz16_2 : w14.cell? ⟨gb531, 2, none⟩ = some (.bool false) := (blk_cell BK531.out 2).trans rfl; have hcz16_3 : w14.cell? ⟨gb531, 3, none⟩ = some (.slice none 0 0) := (blk_cell BK531.out 3).trans rfl; have hcz16_4 : w14.cell? ⟨gb531, 4, none⟩ = some (.bool false) := (blk_cell BK531.out 4).trans rfl; have hcz16_5 : w14.cell? ⟨gb531, 5, none⟩ = some (.slice none 0 0) := (blk_cell BK531.out 5).trans rfl; have hfz16_0 := blk_frozen BK531.out 0; have hfz16_1 := blk_frozen BK531.out 1; have hfz16_2 := blk_frozen BK531.out 2; have hfz16_3 := blk_frozen BK531.out 3; have hfz16_4 := blk_frozen BK531.out 4; have hfz16_5 := blk_frozen BK531.out 5; obtain ⟨Ao17, co17, eo17⟩ := Kd.R_slice HO525.out; subst eo17; obtain ⟨Ao18, co18, eo18⟩ := Kd.R_slice HO529.out; subst eo18))
  (try simp only [Act.put, List.setIfInBounds_toArray, List.set_cons_zero, List.set_cons_succ])
  go_cut [35] (fun v35 wc => ∃ (kq : Nat) (x35_5 : Bool), v35 = .bool x35_5 ∧ Aside0 (laws_FnRecordOf.j0 kq t507 t518 t530 x35_5 t508 t509 t510 t511 t514 t515 t520 t521 t522 t523 t526 t527 = some r) ∧ Aside0 (kq ≤ k) ∧ Aside0 (Kd.R (Kd.int .i64) 3 wc w.heap.size (fun k_ => some k_ ≠ ((.slice Ao12 t515.length co12) : Value).ownBlock ∧ some k_ ≠ ((.slice Ao17 t523.length co17) : Value).ownBlock ∧ some k_ ≠ ((.slice Ao18 t527.length co18) : Value).ownBlock) (.slice Ao11 t511.length co11) t511) ∧ Aside0 (Kd.R (Kd.int .i64) 3 wc w.heap.size (fun k_ => some k_ ≠ ((.slice Ao11 t511.length co11) : Value).ownBlock ∧ some k_ ≠ ((.slice Ao17 t523.length co17) : Value).ownBlock ∧ some k_ ≠ ((.slice Ao18 t527.length co18) : Value).ownBlock) (.slice Ao12 t515.length co12) t515) ∧ Aside0 (Kd.R (Kd.int .i64) 3 wc w.heap.size (fun k_ => some k_ ≠ ((.slice Ao11 t511.length co11) : Value).ownBlock ∧ some k_ ≠ ((.slice Ao12 t515.length co12) : Value).ownBlock ∧ some k_ ≠ ((.slice Ao18 t527.length co18) : Value).ownBlock) (.slice Ao17 t523.length co17) t523) ∧ Aside0 (Kd.R (Kd.int .i64) 3 wc w.heap.size (fun k_ => some k_ ≠ ((.slice Ao11 t511.length co11) : Value).ownBlock ∧ some k_ ≠ ((.slice Ao12 t515.length co12) : Value).ownBlock ∧ some k_ ≠ ((.slice Ao17 t523.length co17) : Value).ownBlock) (.slice Ao18 t527.length co18) t527) ∧ Aside0 (wc.heap[gb519]? = some (.cells #[.int .i64 t508, .int .i64 t509, .bool t510, (.slice Ao11 t511.length co11), .bool t514, (.slice Ao12 t515.length co12)] 27 (0, 0))) ∧ Aside0 (wc.heap[gb531]? = some (.cells #[.int .i64 t520, .int .i64 t521, .bool t522, (.slice Ao17 t523.length co17), .bool t526, (.slice Ao18 t527.length co18)] 27 (0, 0))) ∧ Aside0 (Below w.heap.size w wc))
  case first =>
   have H := HC6.out
   clear HC6
   by_cases c19 : (t518 != t530) = true
   ·rw [if_pos c19] at H
    have c19b0 : (t518 != t530) = true := c19
    (try (have c19b1 : decide (t518 = t530) = false := by simpa using c19))
    (try (have c19b2 : (t518 == t530) = false := by simpa using c19))
    (try (have c19b3 : ¬ (t518 = t530) := by simpa using c19))
    clear c19
    (first | rw [c19b0] | (simp only [i64_w, i32_w]; rw [c19b0]) | skip)
    have H' := Aside0.mk H
    clear H
    go_wp2
    go_meet
    case rel => exact ⟨_, (true), (by first | rfl | (simp; done) | (simp [*]; done)), H', ⟨by first | omega | exact Nat.le_refl _⟩, ⟨by (with_reducible repeat (first | apply Kd.R_alloc | apply Kd.R_drewN | apply Kd.R_drew)); exact Kd.R_mono (Kd.R_far (p := ⟨gb531, 5, none⟩) (Kd.R_far (p := ⟨gb531, 4, none⟩) (Kd.R_far (p := ⟨gb531, 3, none⟩) (Kd.R_far (p := ⟨gb531, 2, none⟩) (Kd.R_far (p := ⟨gb531, 1, none⟩) (Kd.R_far (p := ⟨gb531, 0, none⟩) (Kd.R_types HO513.out BK531.out (by decide)) (fun _ hk => hk.2) (.int .i64 t520)) (fun _ hk => hk.2) (.int .i64 t521)) (fun _ hk => hk.2) (.bool t522)) (fun _ hk => hk.2) (.slice Ao17 t523.length co17)) (fun _ hk => hk.2) (.bool t526)) (fun _ hk => hk.2) (.slice Ao18 t527.length co18)) (fun _ hk => ⟨hk.1.1.1, ⟨hk.1.1.2, hk.1.2⟩⟩)⟩, ⟨by (with_reducible repeat (first | apply Kd.R_alloc | apply Kd.R_drewN | apply Kd.R_drew)); exact Kd.R_mono (Kd.R_far (p := ⟨gb531, 5, none⟩) (Kd.R_far (p := ⟨gb531, 4, none⟩) (Kd.R_far (p := ⟨gb531, 3, none⟩) (Kd.R_far (p := ⟨gb531, 2, none⟩) (Kd.R_far (p := ⟨gb531, 1, none⟩) (Kd.R_far (p := ⟨gb531, 0, none⟩) (Kd.R_types HO517.out BK531.out (by decide)) (fun _ hk => hk.2) (.int .i64 t520)) (fun _ hk => hk.2) (.int .i64 t521)) (fun _ hk => hk.2) (.bool t522)) (fun _ hk => hk.2) (.slice Ao17 t523.length co17)) (fun _ hk => hk.2) (.bool t526)) (fun _ hk => hk.2) (.slice Ao18 t527.length co18)) (fun _ hk => ⟨hk.1.1.1, ⟨hk.1.1.2, hk.1.2⟩⟩)⟩, ⟨by (with_reducible repeat (first | apply Kd.R_alloc | apply Kd.R_drewN | apply Kd.R_drew)); exact Kd.R_mono (Kd.R_far (p := ⟨gb531, 5, none⟩) (Kd.R_far (p := ⟨gb531, 4, none⟩) (Kd.R_far (p := ⟨gb531, 3, none⟩) (Kd.R_far (p := ⟨gb531, 2, none⟩) (Kd.R_far (p := ⟨gb531, 1, none⟩) (Kd.R_far (p := ⟨gb531, 0, none⟩) (Kd.R_types HO525.out BK531.out (by decide)) (fun _ hk => hk.2) (.int .i64 t520)) (fun _ hk => hk.2) (.int .i64 t521)) (fun _ hk => hk.2) (.bool t522)) (fun _ hk => hk.2) (.slice Ao17 t523.length co17)) (fun _ hk => hk.2) (.bool t526)) (fun _ hk => hk.2) (.slice Ao18 t527.length co18)) (fun _ hk => ⟨hk.1.1.2, ⟨hk.1.2, hk.1.1.1⟩⟩)⟩, ⟨by (with_reducible repeat (first | apply Kd.R_alloc | apply Kd.R_drewN | apply Kd.R_drew)); exact Kd.R_mono (Kd.R_far (p := ⟨gb531, 5, none⟩) (Kd.R_far (p := ⟨gb531, 4, none⟩) (Kd.R_far (p := ⟨gb531, 3, none⟩) (Kd.R_far (p := ⟨gb531, 2, none⟩) (Kd.R_far (p := ⟨gb531, 1, none⟩) (Kd.R_far (p := ⟨gb531, 0, none⟩) (Kd.R_types HO529.out BK531.out (by decide)) (fun _ hk => hk.2) (.int .i64 t520)) (fun _ hk => hk.2) (.int .i64 t521)) (fun _ hk => hk.2) (.bool t522)) (fun _ hk => hk.2) (.slice Ao17 t523.length co17)) (fun _ hk => hk.2) (.bool t526)) (fun _ hk => hk.2) (.slice Ao18 t527.length co18)) (fun _ hk => ⟨hk.1.1.2, ⟨hk.1.2, hk.1.1.1⟩⟩)⟩, ⟨by (with_reducible repeat (first | refine blk_drewN ?_ _ | refine blk_drew ?_ | refine blk_alloc ?_ _)); refine blk_far ?_ NB519_531.out _; (with_reducible repeat (first | refine blk_drewN ?_ _ | refine blk_drew ?_ | refine blk_alloc ?_ _)); refine blk_far ?_ NB519_531.out _; (with_reducible repeat (first | refine blk_drewN ?_ _ | refine blk_drew ?_ | refine blk_alloc ?_ _)); refine blk_far ?_ NB519_531.out _; (with_reducible repeat (first | refine blk_drewN ?_ _ | refine blk_drew ?_ | refine blk_alloc ?_ _)); refine blk_far ?_ NB519_531.out _; (with_reducible repeat (first | refine blk_drewN ?_ _ | refine blk_drew ?_ | refine blk_alloc ?_ _)); refine blk_far ?_ NB519_531.out _; (with_reducible repeat (first | refine blk_drewN ?_ _ | refine blk_drew ?_ | refine blk_alloc ?_ _)); refine blk_far ?_ NB519_531.out _; (with_reducible repeat (first | refine blk_drewN ?_ _ | refine blk_drew ?_ | refine blk_alloc ?_ _)); exact BK519.out⟩, ⟨by (with_reducible repeat (first | refine blk_drewN ?_ _ | refine blk_drew ?_ | refine blk_alloc ?_ _)); refine blk_put (cs := #[.int .i64 t520, .int .i64 t521, .bool t522, .slice Ao17 t523.length co17, .bool t526, .slice none 0 0]) ?_ 5 _ rfl; (with_reducible repeat (first | refine blk_drewN ?_ _ | refine blk_drew ?_ | refine blk_alloc ?_ _)); refine blk_put (cs := #[.int .i64 t520, .int .i64 t521, .bool t522, .slice Ao17 t523.length co17, .bool false, .slice none 0 0]) ?_ 4 _ rfl; (with_reducible repeat (first | refine blk_drewN ?_ _ | refine blk_drew ?_ | refine blk_alloc ?_ _)); refine blk_put (cs := #[.int .i64 t520, .int .i64 t521, .bool t522, .slice none 0 0, .bool false, .slice none 0 0]) ?_ 3 _ rfl; (with_reducible repeat (first | refine blk_drewN ?_ _ | refine blk_drew ?_ | refine blk_alloc ?_ _)); refine blk_put (cs := #[.int .i64 t520, .int .i64 t521, .bool false, .slice none 0 0, .bool false, .slice none 0 0]) ?_ 2 _ rfl; (with_reducible repeat (first | refine blk_drewN ?_ _ | refine blk_drew ?_ | refine blk_alloc ?_ _)); refine blk_put (cs := #[.int .i64 t520, .int .i64 0, .bool false, .slice none 0 0, .bool false, .slice none 0 0]) ?_ 1 _ rfl; (with_reducible repeat (first | refine blk_drewN ?_ _ | refine blk_drew ?_ | refine blk_alloc ?_ _)); refine blk_put (cs := #[.int .i64 0, .int .i64 0, .bool false, .slice none 0 0, .bool false, .slice none 0 0]) ?_ 0 _ rfl; (with_reducible repeat (first | refine blk_drewN ?_ _ | refine blk_drew ?_ | refine blk_alloc ?_ _)); exact BK531.out⟩, ⟨by repeat (first | (with_reducible first | exact HB.out | apply below_alloc | apply pw_below_drewN | apply below_drew1 | refine below_set ?_ GE519.out | refine below_set ?_ GE531.out) | exact HB.out)⟩⟩
   ·rw [if_neg c19] at H
    have c19b0 : (t518 != t530) = false := by simpa using c19
    (try (have c19b1 : decide (t518 = t530) = true := by simpa using c19))
    (try (have c19b2 : (t518 == t530) = true := by simpa using c19))
    clear c19
    (first | rw [c19b0] | (simp only [i64_w, i32_w]; rw [c19b0]) | skip)
    replace H := Option.bind_eq_some_iff.mp H
    obtain ⟨t532, A200, H⟩ := H
    replace H : (if t532 = true then (laws_FnRecordOf.j0 k t507 t518 t530 (!t518) t508 t509 t510 t511 t514 t515 t520 t521 t522 t523 t526 t527) else (laws_FnRecordOf.j0 k t507 t518 t530 true t508 t509 t510 t511 t514 t515 t520 t521 t522 t523 t526 t527)) = some r := H
    have A20 := Aside0.mk A200
    clear A200
    by_cases c21 : t532 = true
    ·subst c21
     have H1 : (laws_FnRecordOf.j0 k t507 t518 t530 (!t518) t508 t509 t510 t511 t514 t515 t520 t521 t522 t523 t526 t527) = some r := by rw [if_pos rfl] at H; exact H
     clear H
     have H := H1
     clear H1
     have H' := Aside0.mk H
     clear H
     have hnb22 := NB519_531.out
     have hnc22 := NB531_519.out
     have hcz23_0 : w14.cell? ⟨gb519, 0, none⟩ = some (.int .i64 t508) := (blk_cell BK519.out 0).trans rfl
     have hcz23_1 : w14.cell? ⟨gb519, 1, none⟩ = some (.int .i64 t509) := (blk_cell BK519.out 1).trans rfl
     have hcz23_2 : w14.cell? ⟨gb519, 2, none⟩ = some (.bool t510) := (blk_cell BK519.out 2).trans rfl
     have hcz23_3 : w14.cell? ⟨gb519, 3, none⟩ = some (.slice Ao11 t511.length co11) := (blk_cell BK519.out 3).trans rfl
     have hcz23_4 : w14.cell? ⟨gb519, 4, none⟩ = some (.bool t514) := (blk_cell BK519.out 4).trans rfl
     have hcz23_5 : w14.cell? ⟨gb519, 5, none⟩ = some (.slice Ao12 t515.length co12) := (blk_cell BK519.out 5).trans rfl
     have hfz23_0 := blk_frozen BK519.out 0
     have hfz23_1 := blk_frozen BK519.out 1
     have hfz23_2 := blk_frozen BK519.out 2
     have hfz23_3 := blk_frozen BK519.out 3
     have hfz23_4 := blk_frozen BK519.out 4
     have hfz23_5 := blk_frozen BK519.out 5
     have hcz24_0 : w14.cell? ⟨gb531, 0, none⟩ = some (.int .i64 0) := (blk_cell BK531.out 0).trans rfl
     have hcz24_1 : w14.cell? ⟨gb531, 1, none⟩ = some (.int .i64 0) := (blk_cell BK531.out 1).trans rfl
     have hcz24_2 : w14.cell? ⟨gb531, 2, none⟩ = some (.bool false) := (blk_cell BK531.out 2).trans rfl
     have hcz24_3 : w14.cell? ⟨gb531, 3, none⟩ = some (.slice none 0 0) := (blk_cell BK531.out 3).trans rfl
     have hcz24_4 : w14.cell? ⟨gb531, 4, none⟩ = some (.bool false) := (blk_cell BK531.out 4).trans rfl
     have hcz24_5 : w14.cell? ⟨gb531, 5, none⟩ = some (.slice none 0 0) := (blk_cell BK531.out 5).trans rfl
     have hfz24_0 := blk_frozen BK531.out 0
     have hfz24_1 := blk_frozen BK531.out 1
     have hfz24_2 := blk_frozen BK531.out 2
     have hfz24_3 := blk_frozen BK531.out 3
     have hfz24_4 := blk_frozen BK531.out 4
     have hfz24_5 := blk_frozen BK531.out 5
     go_wp2_with (first | (go_at_call 18; (with_reducible refine (laws_sameRecord.calls k t508 t509 t510 _ _ t511 t514 _ _ t515 t520 t521 t522 _ _ t523 t526 _ _ t527 true _ ?side1 ?side2 ?side3 ?side4 ?side5 ?side6 ?side7 ?side8 A20.out).mono ?_); (case side1 => refine (Kd.R_reads' (e := 3) (base := w.heap.size) (ok := fun k_ => ((some k_ ≠ (.slice Ao12 t515.length co12 : Value).ownBlock ∧ some k_ ≠ (.slice Ao17 t523.length co17 : Value).ownBlock) ∧ some k_ ≠ (.slice Ao18 t527.length co18 : Value).ownBlock)) (n := t511.length) (c := co11) ?_).2.2; exact (kf HO513 BK531)); (case side2 => exact (Kd.R_reads' HO513.out).2.1); (case side3 => refine (Kd.R_reads' (e := 3) (base := w.heap.size) (ok := fun k_ => ((some k_ ≠ (.slice Ao11 t511.length co11 : Value).ownBlock ∧ some k_ ≠ (.slice Ao17 t523.length co17 : Value).ownBlock) ∧ some k_ ≠ (.slice Ao18 t527.length co18 : Value).ownBlock)) (n := t515.length) (c := co12) ?_).2.2; exact (kf HO517 BK531)); (case side4 => exact (Kd.R_reads' HO517.out).2.1); (case side5 => refine (Kd.R_reads' (e := 3) (base := w.heap.size) (ok := fun k_ => ((some k_ ≠ (.slice Ao18 t527.length co18 : Value).ownBlock ∧ some k_ ≠ (.slice Ao11 t511.length co11 : Value).ownBlock) ∧ some k_ ≠ (.slice Ao12 t515.length co12 : Value).ownBlock)) (n := t523.length) (c := co17) ?_).2.2; exact (kf HO525 BK531)); (case side6 => exact (Kd.R_reads' HO525.out).2.1); (case side7 => refine (Kd.R_reads' (e := 3) (base := w.heap.size) (ok := fun k_ => ((some k_ ≠ (.slice Ao17 t523.length co17 : Value).ownBlock ∧ some k_ ≠ (.slice Ao11 t511.length co11 : Value).ownBlock) ∧ some k_ ≠ (.slice Ao12 t515.length co12 : Value).ownBlock)) (n := t527.length) (c := co18) ?_).2.2; exact (kf HO529 BK531)); (case side8 => exact (Kd.R_reads' HO529.out).2.1); rintro e w25 ⟨rfl, hb⟩; have n0_ := Aside0.mk (Kd.R_below (kf HO513 BK531) hb); have n1_ := Aside0.mk (Kd.R_below (kf HO517 BK531) hb); have n2_ := Aside0.mk (Kd.R_below (kf HO525 BK531) hb); have n3_ := Aside0.mk (Kd.R_below (kf HO529 BK531) hb); have n4_ := Aside0.mk (blk_below (g := gb519) (o := .cells #[.int .i64 t508, .int .i64 t509, .bool t510, .slice Ao11 t511.length co11, .bool t514, .slice Ao12 t515.length co12] 27 (0, 0)) (kbf BK519 NB519_531) hb); have n5_ := Aside0.mk (blk_below (g := gb531) (o := .cells #[.int .i64 t520, .int .i64 t521, .bool t522, .slice Ao17 t523.length co17, .bool t526, .slice Ao18 t527.length co18] 27 (0, 0)) (kbp6 BK531) hb); have n6_ := Aside0.mk (below_step (kB2 HB GE519 GE531) hb); clear HO513 HO517; clear HO525 HO529; clear BK519 BK531 HB; have HO513 := n0_; have HO517 := n1_; have HO525 := n2_; have HO529 := n3_; have BK519 := n4_; have BK531 := n5_; have HB := n6_; clear n0_ n1_ n2_ n3_ n4_ n5_ n6_; (try clear hb); (try clear hb2); (try clear hk); (try clear hi)))
     go_meet
     case rel => exact ⟨_, (!t518), (by first | rfl | (simp; done) | (simp [*]; done)), H', ⟨by first | omega | exact Nat.le_refl _⟩, ⟨by (with_reducible repeat (first | apply Kd.R_alloc | apply Kd.R_drewN | apply Kd.R_drew)); exact Kd.R_mono HO513.out (fun _ hk => ⟨hk.1.1, ⟨hk.1.2, hk.2⟩⟩)⟩, ⟨by (with_reducible repeat (first | apply Kd.R_alloc | apply Kd.R_drewN | apply Kd.R_drew)); exact Kd.R_mono HO517.out (fun _ hk => ⟨hk.1.1, ⟨hk.1.2, hk.2⟩⟩)⟩, ⟨by (with_reducible repeat (first | apply Kd.R_alloc | apply Kd.R_drewN | apply Kd.R_drew)); exact Kd.R_mono HO525.out (fun _ hk => ⟨hk.1.2, ⟨hk.2, hk.1.1⟩⟩)⟩, ⟨by (with_reducible repeat (first | apply Kd.R_alloc | apply Kd.R_drewN | apply Kd.R_drew)); exact Kd.R_mono HO529.out (fun _ hk => ⟨hk.1.2, ⟨hk.2, hk.1.1⟩⟩)⟩, ⟨by (with_reducible repeat (first | refine blk_drewN ?_ _ | refine blk_drew ?_ | refine blk_alloc ?_ _)); exact BK519.out⟩, ⟨by (with_reducible repeat (first | refine blk_drewN ?_ _ | refine blk_drew ?_ | refine blk_alloc ?_ _)); exact BK531.out⟩, ⟨by repeat (first | (with_reducible first | exact HB.out | apply below_alloc | apply pw_below_drewN | apply below_drew1 | refine below_set ?_ GE519.out | refine below_set ?_ GE531.out) | exact HB.out)⟩⟩
    ·replace c21 := Bool.eq_false_iff.mpr c21
     subst c21
     have H1 : (laws_FnRecordOf.j0 k t507 t518 t530 true t508 t509 t510 t511 t514 t515 t520 t521 t522 t523 t526 t527) = some r := by rw [if_neg (show ¬ (false = true) by decide)] at H; exact H
     clear H
     have H := H1
     clear H1
     have H' := Aside0.mk H
     clear H
     have hnb26 := NB519_531.out
     have hnc26 := NB531_519.out
     have hcz27_0 : w14.cell? ⟨gb519, 0, none⟩ = some (.int .i64 t508) := (blk_cell BK519.out 0).trans rfl
     have hcz27_1 : w14.cell? ⟨gb519, 1, none⟩ = some (.int .i64 t509) := (blk_cell BK519.out 1).trans rfl
     have hcz27_2 : w14.cell? ⟨gb519, 2, none⟩ = some (.bool t510) := (blk_cell BK519.out 2).trans rfl
     have hcz27_3 : w14.cell? ⟨gb519, 3, none⟩ = some (.slice Ao11 t511.length co11) := (blk_cell BK519.out 3).trans rfl
     have hcz27_4 : w14.cell? ⟨gb519, 4, none⟩ = some (.bool t514) := (blk_cell BK519.out 4).trans rfl
     have hcz27_5 : w14.cell? ⟨gb519, 5, none⟩ = some (.slice Ao12 t515.length co12) := (blk_cell BK519.out 5).trans rfl
     have hfz27_0 := blk_frozen BK519.out 0
     have hfz27_1 := blk_frozen BK519.out 1
     have hfz27_2 := blk_frozen BK519.out 2
     have hfz27_3 := blk_frozen BK519.out 3
     have hfz27_4 := blk_frozen BK519.out 4
     have hfz27_5 := blk_frozen BK519.out 5
     have hcz28_0 : w14.cell? ⟨gb531, 0, none⟩ = some (.int .i64 0) := (blk_cell BK531.out 0).trans rfl
     have hcz28_1 : w14.cell? ⟨gb531, 1, none⟩ = some (.int .i64 0) := (blk_cell BK531.out 1).trans rfl
     have hcz28_2 : w14.cell? ⟨gb531, 2, none⟩ = some (.bool false) := (blk_cell BK531.out 2).trans rfl
     have hcz28_3 : w14.cell? ⟨gb531, 3, none⟩ = some (.slice none 0 0) := (blk_cell BK531.out 3).trans rfl
     have hcz28_4 : w14.cell? ⟨gb531, 4, none⟩ = some (.bool false) := (blk_cell BK531.out 4).trans rfl
     have hcz28_5 : w14.cell? ⟨gb531, 5, none⟩ = some (.slice none 0 0) := (blk_cell BK531.out 5).trans rfl
     have hfz28_0 := blk_frozen BK531.out 0
     have hfz28_1 := blk_frozen BK531.out 1
     have hfz28_2 := blk_frozen BK531.out 2
     have hfz28_3 := blk_frozen BK531.out 3
     have hfz28_4 := blk_frozen BK531.out 4
     have hfz28_5 := blk_frozen BK531.out 5
     go_wp2_with (first | (go_at_call 18; (with_reducible refine (laws_sameRecord.calls k t508 t509 t510 _ _ t511 t514 _ _ t515 t520 t521 t522 _ _ t523 t526 _ _ t527 false _ ?side1 ?side2 ?side3 ?side4 ?side5 ?side6 ?side7 ?side8 A20.out).mono ?_); (case side1 => refine (Kd.R_reads' (e := 3) (base := w.heap.size) (ok := fun k_ => ((some k_ ≠ (.slice Ao12 t515.length co12 : Value).ownBlock ∧ some k_ ≠ (.slice Ao17 t523.length co17 : Value).ownBlock) ∧ some k_ ≠ (.slice Ao18 t527.length co18 : Value).ownBlock)) (n := t511.length) (c := co11) ?_).2.2; exact (kf HO513 BK531)); (case side2 => exact (Kd.R_reads' HO513.out).2.1); (case side3 => refine (Kd.R_reads' (e := 3) (base := w.heap.size) (ok := fun k_ => ((some k_ ≠ (.slice Ao11 t511.length co11 : Value).ownBlock ∧ some k_ ≠ (.slice Ao17 t523.length co17 : Value).ownBlock) ∧ some k_ ≠ (.slice Ao18 t527.length co18 : Value).ownBlock)) (n := t515.length) (c := co12) ?_).2.2; exact (kf HO517 BK531)); (case side4 => exact (Kd.R_reads' HO517.out).2.1); (case side5 => refine (Kd.R_reads' (e := 3) (base := w.heap.size) (ok := fun k_ => ((some k_ ≠ (.slice Ao18 t527.length co18 : Value).ownBlock ∧ some k_ ≠ (.slice Ao11 t511.length co11 : Value).ownBlock) ∧ some k_ ≠ (.slice Ao12 t515.length co12 : Value).ownBlock)) (n := t523.length) (c := co17) ?_).2.2; exact (kf HO525 BK531)); (case side6 => exact (Kd.R_reads' HO525.out).2.1); (case side7 => refine (Kd.R_reads' (e := 3) (base := w.heap.size) (ok := fun k_ => ((some k_ ≠ (.slice Ao17 t523.length co17 : Value).ownBlock ∧ some k_ ≠ (.slice Ao11 t511.length co11 : Value).ownBlock) ∧ some k_ ≠ (.slice Ao12 t515.length co12 : Value).ownBlock)) (n := t527.length) (c := co18) ?_).2.2; exact (kf HO529 BK531)); (case side8 => exact (Kd.R_reads' HO529.out).2.1); rintro e w29 ⟨rfl, hb⟩; have n0_ := Aside0.mk (Kd.R_below (kf HO513 BK531) hb); have n1_ := Aside0.mk (Kd.R_below (kf HO517 BK531) hb); have n2_ := Aside0.mk (Kd.R_below (kf HO525 BK531) hb); have n3_ := Aside0.mk (Kd.R_below (kf HO529 BK531) hb); have n4_ := Aside0.mk (blk_below (g := gb519) (o := .cells #[.int .i64 t508, .int .i64 t509, .bool t510, .slice Ao11 t511.length co11, .bool t514, .slice Ao12 t515.length co12] 27 (0, 0)) (kbf BK519 NB519_531) hb); have n5_ := Aside0.mk (blk_below (g := gb531) (o := .cells #[.int .i64 t520, .int .i64 t521, .bool t522, .slice Ao17 t523.length co17, .bool t526, .slice Ao18 t527.length co18] 27 (0, 0)) (kbp6 BK531) hb); have n6_ := Aside0.mk (below_step (kB2 HB GE519 GE531) hb); clear HO513 HO517; clear HO525 HO529; clear BK519 BK531 HB; have HO513 := n0_; have HO517 := n1_; have HO525 := n2_; have HO529 := n3_; have BK519 := n4_; have BK531 := n5_; have HB := n6_; clear n0_ n1_ n2_ n3_ n4_ n5_ n6_; (try clear hb); (try clear hb2); (try clear hk); (try clear hi)))
     go_meet
     case rel => exact ⟨_, (true), (by first | rfl | (simp; done) | (simp [*]; done)), H', ⟨by first | omega | exact Nat.le_refl _⟩, ⟨by (with_reducible repeat (first | apply Kd.R_alloc | apply Kd.R_drewN | apply Kd.R_drew)); exact Kd.R_mono HO513.out (fun _ hk => ⟨hk.1.1, ⟨hk.1.2, hk.2⟩⟩)⟩, ⟨by (with_reducible repeat (first | apply Kd.R_alloc | apply Kd.R_drewN | apply Kd.R_drew)); exact Kd.R_mono HO517.out (fun _ hk => ⟨hk.1.1, ⟨hk.1.2, hk.2⟩⟩)⟩, ⟨by (with_reducible repeat (first | apply Kd.R_alloc | apply Kd.R_drewN | apply Kd.R_drew)); exact Kd.R_mono HO525.out (fun _ hk => ⟨hk.1.2, ⟨hk.2, hk.1.1⟩⟩)⟩, ⟨by (with_reducible repeat (first | apply Kd.R_alloc | apply Kd.R_drewN | apply Kd.R_drew)); exact Kd.R_mono HO529.out (fun _ hk => ⟨hk.1.2, ⟨hk.2, hk.1.1⟩⟩)⟩, ⟨by (with_reducible repeat (first | refine blk_drewN ?_ _ | refine blk_drew ?_ | refine blk_alloc ?_ _)); exact BK519.out⟩, ⟨by (with_reducible repeat (first | refine blk_drewN ?_ _ | refine blk_drew ?_ | refine blk_alloc ?_ _)); exact BK531.out⟩, ⟨by repeat (first | (with_reducible first | exact HB.out | apply below_alloc | apply pw_below_drewN | apply below_drew1 | refine below_set ?_ GE519.out | refine below_set ?_ GE531.out) | exact HB.out)⟩⟩
  case rest =>
   clear HC6
   try clear c1
   try clear c2
   try clear c2b0
   try clear c2b1
   try clear p2
   try clear c7
   try clear c13
   try clear c14
   try clear c15
   try clear c17
   try clear c19
   try clear c19b0
   try clear c19b1
   try clear c19b2
   try clear c21
   try clear c22
   try clear c26
   try clear hcz10_0
   try clear hcz10_1
   try clear hcz10_2
   try clear hcz10_3
   try clear hcz10_4
   try clear hcz10_5
   try clear hcz16_0
   try clear hcz16_1
   try clear hcz16_2
   try clear hcz16_3
   try clear hcz16_4
   try clear hcz16_5
   try clear hcz23_0
   try clear hcz23_1
   try clear hcz23_2
   try clear hcz23_3
   try clear hcz23_4
   try clear hcz23_5
   try clear hcz24_0
   try clear hcz24_1
   try clear hcz24_2
   try clear hcz24_3
   try clear hcz24_4
   try clear hcz24_5
   try clear hcz27_0
   try clear hcz27_1
   try clear hcz27_2
   try clear hcz27_3
   try clear hcz27_4
   try clear hcz27_5
   try clear hcz28_0
   try clear hcz28_1
   try clear hcz28_2
   try clear hcz28_3
   try clear hcz28_4
   try clear hcz28_5
   try clear hfz10_0
   try clear hfz10_1
   try clear hfz10_2
   try clear hfz10_3
   try clear hfz10_4
   try clear hfz10_5
   try clear hfz16_0
   try clear hfz16_1
   try clear hfz16_2
   try clear hfz16_3
   try clear hfz16_4
   try clear hfz16_5
   try clear hfz23_0
   try clear hfz23_1
   try clear hfz23_2
   try clear hfz23_3
   try clear hfz23_4
   try clear hfz23_5
   try clear hfz24_0
   try clear hfz24_1
   try clear hfz24_2
   try clear hfz24_3
   try clear hfz24_4
   try clear hfz24_5
   try clear hfz27_0
   try clear hfz27_1
   try clear hfz27_2
   try clear hfz27_3
   try clear hfz27_4
   try clear hfz27_5
   try clear hfz28_0
   try clear hfz28_1
   try clear hfz28_2
   try clear hfz28_3
   try clear hfz28_4
   try clear hfz28_5
   obtain ⟨kq, x35_5, rfl, HA, HJ5, HO_520003, HO_520005, HO_532003, HO_532005, BK519, BK531, HB⟩ := hcut
   cases kq with
   | zero => exact absurd HA.out (by simp [laws_FnRecordOf.j0])
   | succ kj5 =>
    have H := HA.out
    clear HA
    simp only [laws_FnRecordOf.j0] at H
    by_cases c30 : x35_5 = true
    ·subst c30
     have H1 : (if (t518 == t530) = true then ((laws_sameRecord.f kj5 t508 t509 t510 t511 t514 t515 t520 t521 t522 t523 t526 t527).bind fun t533 => (some t533)) else (some false)) = some r := by rw [if_pos rfl] at H; exact H
     clear H
     have H := H1
     clear H1
     by_cases c31 : (t518 == t530) = true
     ·rw [if_pos c31] at H
      have c31b0 : (t518 == t530) = true := c31
      (try (have c31b1 : decide (t518 = t530) = true := by simpa using c31))
      (try (have c31b2 : (t518 == t530) = true := by simpa using c31))
      clear c31
      replace H := Option.bind_eq_some_iff.mp H
      obtain ⟨t533, A320, H⟩ := H
      replace H : (some t533) = some r := H
      have A32 := Aside0.mk A320
      clear A320
      obtain rfl := Option.some.inj H
      have hnb33 := NB519_531.out
      have hnc33 := NB531_519.out
      have hcz34_0 : wc.cell? ⟨gb519, 0, none⟩ = some (.int .i64 t508) := (blk_cell BK519.out 0).trans rfl
      have hcz34_1 : wc.cell? ⟨gb519, 1, none⟩ = some (.int .i64 t509) := (blk_cell BK519.out 1).trans rfl
      have hcz34_2 : wc.cell? ⟨gb519, 2, none⟩ = some (.bool t510) := (blk_cell BK519.out 2).trans rfl
      have hcz34_3 : wc.cell? ⟨gb519, 3, none⟩ = some (.slice Ao11 t511.length co11) := (blk_cell BK519.out 3).trans rfl
      have hcz34_4 : wc.cell? ⟨gb519, 4, none⟩ = some (.bool t514) := (blk_cell BK519.out 4).trans rfl
      have hcz34_5 : wc.cell? ⟨gb519, 5, none⟩ = some (.slice Ao12 t515.length co12) := (blk_cell BK519.out 5).trans rfl
      have hfz34_0 := blk_frozen BK519.out 0
      have hfz34_1 := blk_frozen BK519.out 1
      have hfz34_2 := blk_frozen BK519.out 2
      have hfz34_3 := blk_frozen BK519.out 3
      have hfz34_4 := blk_frozen BK519.out 4
      have hfz34_5 := blk_frozen BK519.out 5
      have hcz35_0 : wc.cell? ⟨gb531, 0, none⟩ = some (.int .i64 t520) := (blk_cell BK531.out 0).trans rfl
      have hcz35_1 : wc.cell? ⟨gb531, 1, none⟩ = some (.int .i64 t521) := (blk_cell BK531.out 1).trans rfl
      have hcz35_2 : wc.cell? ⟨gb531, 2, none⟩ = some (.bool t522) := (blk_cell BK531.out 2).trans rfl
      have hcz35_3 : wc.cell? ⟨gb531, 3, none⟩ = some (.slice Ao17 t523.length co17) := (blk_cell BK531.out 3).trans rfl
      have hcz35_4 : wc.cell? ⟨gb531, 4, none⟩ = some (.bool t526) := (blk_cell BK531.out 4).trans rfl
      have hcz35_5 : wc.cell? ⟨gb531, 5, none⟩ = some (.slice Ao18 t527.length co18) := (blk_cell BK531.out 5).trans rfl
      have hfz35_0 := blk_frozen BK531.out 0
      have hfz35_1 := blk_frozen BK531.out 1
      have hfz35_2 := blk_frozen BK531.out 2
      have hfz35_3 := blk_frozen BK531.out 3
      have hfz35_4 := blk_frozen BK531.out 4
      have hfz35_5 := blk_frozen BK531.out 5
      go_wp2_with (first | (go_at_call 18; (with_reducible refine (laws_sameRecord.calls kj5 t508 t509 t510 _ _ t511 t514 _ _ t515 t520 t521 t522 _ _ t523 t526 _ _ t527 t533 _ ?side1 ?side2 ?side3 ?side4 ?side5 ?side6 ?side7 ?side8 A32.out).mono ?_); (case side1 => repeat (first | exact (Kd.R_reads' HO_520003.out).2.2 | (with_reducible refine Kd.C_alloc ?_ _) | (with_reducible refine Kd.C_drewN ?_ _) | (with_reducible refine Kd.C_drew ?_))); (case side2 => exact (Kd.R_reads' HO_520003.out).2.1); (case side3 => repeat (first | exact (Kd.R_reads' HO_520005.out).2.2 | (with_reducible refine Kd.C_alloc ?_ _) | (with_reducible refine Kd.C_drewN ?_ _) | (with_reducible refine Kd.C_drew ?_))); (case side4 => exact (Kd.R_reads' HO_520005.out).2.1); (case side5 => repeat (first | exact (Kd.R_reads' HO_532003.out).2.2 | (with_reducible refine Kd.C_alloc ?_ _) | (with_reducible refine Kd.C_drewN ?_ _) | (with_reducible refine Kd.C_drew ?_))); (case side6 => exact (Kd.R_reads' HO_532003.out).2.1); (case side7 => repeat (first | exact (Kd.R_reads' HO_532005.out).2.2 | (with_reducible refine Kd.C_alloc ?_ _) | (with_reducible refine Kd.C_drewN ?_ _) | (with_reducible refine Kd.C_drew ?_))); (case side8 => exact (Kd.R_reads' HO_532005.out).2.1); rintro e w36 ⟨rfl, hb⟩; have n0_ := Aside0.mk (Kd.R_below (kr HO_520003) hb); have n1_ := Aside0.mk (Kd.R_below (kr HO_520005) hb); have n2_ := Aside0.mk (Kd.R_below (kr HO_532003) hb); have n3_ := Aside0.mk (Kd.R_below (kr HO_532005) hb); have n4_ := Aside0.mk (blk_below (g := gb519) (o := .cells #[.int .i64 t508, .int .i64 t509, .bool t510, .slice Ao11 t511.length co11, .bool t514, .slice Ao12 t515.length co12] 27 (0, 0)) (kb BK519) hb); have n5_ := Aside0.mk (blk_below (g := gb531) (o := .cells #[.int .i64 t520, .int .i64 t521, .bool t522, .slice Ao17 t523.length co17, .bool t526, .slice Ao18 t527.length co18] 27 (0, 0)) (kb BK531) hb); have n6_ := Aside0.mk (below_step (kB2 HB GE519 GE531) hb); clear HO_520003 HO_520005; clear HO_532003 HO_532005; clear BK519 BK531 HB; have HO_520003 := n0_; have HO_520005 := n1_; have HO_532003 := n2_; have HO_532005 := n3_; have BK519 := n4_; have BK531 := n5_; have HB := n6_; clear n0_ n1_ n2_ n3_ n4_ n5_ n6_; (try clear hb); (try clear hb2); (try clear hk); (try clear hi)))
      go_ret
      exact ⟨by first | rfl | (simp [errW_none, errW_some] <;> rfl) | (simp [*, errW_none, errW_some] <;> rfl), by repeat (first | (with_reducible first | exact HB.out | apply below_alloc | apply pw_below_drewN | apply below_drew1 | refine below_set ?_ GE519.out | refine below_set ?_ GE531.out) | exact HB.out)⟩
     ·rw [if_neg c31] at H
      have c31b0 : (t518 == t530) = false := by simpa using c31
      (try (have c31b1 : decide (t518 = t530) = false := by simpa using c31))
      (try (have c31b2 : (t518 == t530) = false := by simpa using c31))
      (try (have c31b3 : ¬ (t518 = t530) := by simpa using c31))
      clear c31
      obtain rfl := Option.some.inj H
      go_wp2
      go_ret
      exact ⟨by first | rfl | (simp [errW_none, errW_some] <;> rfl) | (simp [*, errW_none, errW_some] <;> rfl), by repeat (first | (with_reducible first | exact HB.out | apply below_alloc | apply pw_below_drewN | apply below_drew1 | refine below_set ?_ GE519.out | refine below_set ?_ GE531.out) | exact HB.out)⟩
    ·replace c30 := Bool.eq_false_iff.mpr c30
     subst c30
     have H1 : ((impl_RecordValid.f kj5 t508 t509 t510 t511 t514 t515).bind fun t534 => (if t534 = true then ((impl_RecordText.f t508 t509 t510 t511 t514 t515).bind fun t535 => (some (t535.toList == t507.toList))) else (some false))) = some r := by rw [if_neg (show ¬ (false = true) by decide)] at H; exact H
     clear H
     have H := H1
     clear H1
     replace H := Option.bind_eq_some_iff.mp H
     obtain ⟨t534, A370, H⟩ := H
     replace H : (if t534 = true then ((impl_RecordText.f t508 t509 t510 t511 t514 t515).bind fun t535 => (some (t535.toList == t507.toList))) else (some false)) = some r := H
     have A37 := Aside0.mk A370
     clear A370
     by_cases c38 : t534 = true
     ·subst c38
      have H1 : ((impl_RecordText.f t508 t509 t510 t511 t514 t515).bind fun t535 => (some (t535.toList == t507.toList))) = some r := by rw [if_pos rfl] at H; exact H
      clear H
      have H := H1
      clear H1
      replace H := Option.bind_eq_some_iff.mp H
      obtain ⟨t535, A390, H⟩ := H
      replace H : (some (t535.toList == t507.toList)) = some r := H
      have A39 := Aside0.mk A390
      clear A390
      obtain rfl := Option.some.inj H
      have hnb40 := NB519_531.out
      have hnc40 := NB531_519.out
      have hcz41_0 : wc.cell? ⟨gb519, 0, none⟩ = some (.int .i64 t508) := (blk_cell BK519.out 0).trans rfl
      have hcz41_1 : wc.cell? ⟨gb519, 1, none⟩ = some (.int .i64 t509) := (blk_cell BK519.out 1).trans rfl
      have hcz41_2 : wc.cell? ⟨gb519, 2, none⟩ = some (.bool t510) := (blk_cell BK519.out 2).trans rfl
      have hcz41_3 : wc.cell? ⟨gb519, 3, none⟩ = some (.slice Ao11 t511.length co11) := (blk_cell BK519.out 3).trans rfl
      have hcz41_4 : wc.cell? ⟨gb519, 4, none⟩ = some (.bool t514) := (blk_cell BK519.out 4).trans rfl
      have hcz41_5 : wc.cell? ⟨gb519, 5, none⟩ = some (.slice Ao12 t515.length co12) := (blk_cell BK519.out 5).trans rfl
      have hfz41_0 := blk_frozen BK519.out 0
      have hfz41_1 := blk_frozen BK519.out 1
      have hfz41_2 := blk_frozen BK519.out 2
      have hfz41_3 := blk_frozen BK519.out 3
      have hfz41_4 := blk_frozen BK519.out 4
      have hfz41_5 := blk_frozen BK519.out 5
      go_wp2_with (first | ((with_reducible refine gate_callee (f := 20) rfl ?_); refine goesL_ (some 45) rfl rfl Tryd.func20 (by kernel_rfl) rfl #[.agg #[.int .i64 t508, .int .i64 t509, .bool t510, .slice Ao11 t511.length co11, .bool t514, .slice Ao12 t515.length co12]] rfl (by (try simp only [List.map_toArray, List.map_cons, List.map_nil]); first | done | rfl | (simp only [List.length_drop, List.length_take]; rfl)) ?_; (with_reducible refine (impl_RecordValid.calls kj5 t508 t509 t510 _ _ t511 t514 _ _ t515 true _ ?side1 ?side2 ?side3 ?side4 A37.out).mono ?_); (case side1 => repeat (first | exact (Kd.R_reads' HO_520003.out).2.2 | (with_reducible refine Kd.C_alloc ?_ _) | (with_reducible refine Kd.C_drewN ?_ _) | (with_reducible refine Kd.C_drew ?_))); (case side2 => exact (Kd.R_reads' HO_520003.out).2.1); (case side3 => repeat (first | exact (Kd.R_reads' HO_520005.out).2.2 | (with_reducible refine Kd.C_alloc ?_ _) | (with_reducible refine Kd.C_drewN ?_ _) | (with_reducible refine Kd.C_drew ?_))); (case side4 => exact (Kd.R_reads' HO_520005.out).2.1); rintro e w42 ⟨rfl, hb⟩; refine ⟨_, rfl, ?_⟩; have n0_ := Aside0.mk (Kd.R_below (kr HO_520003) hb); have n1_ := Aside0.mk (Kd.R_below (kr HO_520005) hb); have n2_ := Aside0.mk (Kd.R_below (kr HO_532003) hb); have n3_ := Aside0.mk (Kd.R_below (kr HO_532005) hb); have n4_ := Aside0.mk (blk_below (g := gb519) (o := .cells #[.int .i64 t508, .int .i64 t509, .bool t510, .slice Ao11 t511.length co11, .bool t514, .slice Ao12 t515.length co12] 27 (0, 0)) (kb BK519) hb); have n5_ := Aside0.mk (blk_below (g := gb531) (o := .cells #[.int .i64 t520, .int .i64 t521, .bool t522, .slice Ao17 t523.length co17, .bool t526, .slice Ao18 t527.length co18] 27 (0, 0)) (kb BK531) hb); have n6_ := Aside0.mk (below_step (kB2 HB GE519 GE531) hb); clear HO_520003 HO_520005; clear HO_532003 HO_532005; clear BK519 BK531 HB; have HO_520003 := n0_; have HO_520005 := n1_; have HO_532003 := n2_; have HO_532005 := n3_; have BK519 := n4_; have BK531 := n5_; have HB := n6_; clear n0_ n1_ n2_ n3_ n4_ n5_ n6_; (try clear hb); (try clear hb2); (try clear hk); (try clear hi); have hcz43_0 : w42.cell? ⟨gb519, 0, none⟩ = some (.int .i64 t508) := (blk_cell BK519.out 0).trans rfl; have hcz43_1 : w42.cell? ⟨gb519, 1, none⟩ = some (.int .i64 t509) := (blk_cell BK519.out 1).trans rfl; have hcz43_2 : w42.cell? ⟨gb519, 2, none⟩ = some (.bool t510) := (blk_cell BK519.out 2).trans rfl; have hcz43_3 : w42.cell? ⟨gb519, 3, none⟩ = some (.slice Ao11 t511.length co11) := (blk_cell BK519.out 3).trans rfl; have hcz43_4 : w42.cell? ⟨gb519, 4, none⟩ = some (.bool t514) := (blk_cell BK519.out 4).trans rfl; have hcz43_5 : w42.cell? ⟨gb519, 5, none⟩ = some (.slice Ao12 t515.length co12) := (blk_cell BK519.out 5).trans rfl; have hfz43_0 := blk_frozen BK519.out 0; have hfz43_1 := blk_frozen BK519.out 1; have hfz43_2 := blk_frozen BK519.out 2; have hfz43_3 := blk_frozen BK519.out 3; have hfz43_4 := blk_frozen BK519.out 4; have hfz43_5 := blk_frozen BK519.out 5) | (go_at_call 11; (with_reducible refine (impl_RecordText.calls t508 t509 t510 _ _ t511 t514 _ _ t515 t535 _ ?side1 ?side2 ?side3 ?side4 ?side5 A39.out).mono ?_); (case side1 => repeat (first | exact (Kd.R_reads' HO_520003.out).2.2 | (with_reducible refine Kd.C_alloc ?_ _) | (with_reducible refine Kd.C_drewN ?_ _) | (with_reducible refine Kd.C_drew ?_))); (case side2 => exact (Kd.R_reads' HO_520003.out).2.1); (case side3 => repeat (first | exact (Kd.R_reads' HO_520005.out).2.2 | (with_reducible refine Kd.C_alloc ?_ _) | (with_reducible refine Kd.C_drewN ?_ _) | (with_reducible refine Kd.C_drew ?_))); (case side4 => exact (Kd.R_reads' HO_520005.out).2.1); (case side5 => refine GOKT.below HGT.out ?_; repeat (first | (with_reducible first | exact HB.out | apply below_alloc | apply pw_below_drewN | apply below_drew1 | refine below_set ?_ GE519.out | refine below_set ?_ GE531.out) | exact HB.out)); rintro e w44 ⟨rfl, hb⟩; have n0_ := Aside0.mk (Kd.R_below (kr HO_520003) hb); have n1_ := Aside0.mk (Kd.R_below (kr HO_520005) hb); have n2_ := Aside0.mk (Kd.R_below (kr HO_532003) hb); have n3_ := Aside0.mk (Kd.R_below (kr HO_532005) hb); have n4_ := Aside0.mk (blk_below (g := gb519) (o := .cells #[.int .i64 t508, .int .i64 t509, .bool t510, .slice Ao11 t511.length co11, .bool t514, .slice Ao12 t515.length co12] 27 (0, 0)) (kb BK519) hb); have n5_ := Aside0.mk (blk_below (g := gb531) (o := .cells #[.int .i64 t520, .int .i64 t521, .bool t522, .slice Ao17 t523.length co17, .bool t526, .slice Ao18 t527.length co18] 27 (0, 0)) (kb BK531) hb); have n6_ := Aside0.mk (below_step (kB2 HB GE519 GE531) hb); clear HO_520003 HO_520005; clear HO_532003 HO_532005; clear BK519 BK531 HB; have HO_520003 := n0_; have HO_520005 := n1_; have HO_532003 := n2_; have HO_532005 := n3_; have BK519 := n4_; have BK531 := n5_; have HB := n6_; clear n0_ n1_ n2_ n3_ n4_ n5_ n6_; (try clear hb); (try clear hb2); (try clear hk); (try clear hi)))
      go_ret
      exact ⟨by first | rfl | (simp [errW_none, errW_some] <;> rfl) | (simp [*, errW_none, errW_some] <;> rfl), by repeat (first | (with_reducible first | exact HB.out | apply below_alloc | apply pw_below_drewN | apply below_drew1 | refine below_set ?_ GE519.out | refine below_set ?_ GE531.out) | exact HB.out)⟩
     ·replace c38 := Bool.eq_false_iff.mpr c38
      subst c38
      have H1 : (some false) = some r := by rw [if_neg (show ¬ (false = true) by decide)] at H; exact H
      clear H
      have H := H1
      clear H1
      obtain rfl := Option.some.inj H
      have hnb45 := NB519_531.out
      have hnc45 := NB531_519.out
      have hcz46_0 : wc.cell? ⟨gb519, 0, none⟩ = some (.int .i64 t508) := (blk_cell BK519.out 0).trans rfl
      have hcz46_1 : wc.cell? ⟨gb519, 1, none⟩ = some (.int .i64 t509) := (blk_cell BK519.out 1).trans rfl
      have hcz46_2 : wc.cell? ⟨gb519, 2, none⟩ = some (.bool t510) := (blk_cell BK519.out 2).trans rfl
      have hcz46_3 : wc.cell? ⟨gb519, 3, none⟩ = some (.slice Ao11 t511.length co11) := (blk_cell BK519.out 3).trans rfl
      have hcz46_4 : wc.cell? ⟨gb519, 4, none⟩ = some (.bool t514) := (blk_cell BK519.out 4).trans rfl
      have hcz46_5 : wc.cell? ⟨gb519, 5, none⟩ = some (.slice Ao12 t515.length co12) := (blk_cell BK519.out 5).trans rfl
      have hfz46_0 := blk_frozen BK519.out 0
      have hfz46_1 := blk_frozen BK519.out 1
      have hfz46_2 := blk_frozen BK519.out 2
      have hfz46_3 := blk_frozen BK519.out 3
      have hfz46_4 := blk_frozen BK519.out 4
      have hfz46_5 := blk_frozen BK519.out 5
      go_wp2_with (first | ((with_reducible refine gate_callee (f := 20) rfl ?_); refine goesL_ (some 45) rfl rfl Tryd.func20 (by kernel_rfl) rfl #[.agg #[.int .i64 t508, .int .i64 t509, .bool t510, .slice Ao11 t511.length co11, .bool t514, .slice Ao12 t515.length co12]] rfl (by (try simp only [List.map_toArray, List.map_cons, List.map_nil]); first | done | rfl | (simp only [List.length_drop, List.length_take]; rfl)) ?_; (with_reducible refine (impl_RecordValid.calls kj5 t508 t509 t510 _ _ t511 t514 _ _ t515 false _ ?side1 ?side2 ?side3 ?side4 A37.out).mono ?_); (case side1 => repeat (first | exact (Kd.R_reads' HO_520003.out).2.2 | (with_reducible refine Kd.C_alloc ?_ _) | (with_reducible refine Kd.C_drewN ?_ _) | (with_reducible refine Kd.C_drew ?_))); (case side2 => exact (Kd.R_reads' HO_520003.out).2.1); (case side3 => repeat (first | exact (Kd.R_reads' HO_520005.out).2.2 | (with_reducible refine Kd.C_alloc ?_ _) | (with_reducible refine Kd.C_drewN ?_ _) | (with_reducible refine Kd.C_drew ?_))); (case side4 => exact (Kd.R_reads' HO_520005.out).2.1); rintro e w47 ⟨rfl, hb⟩; refine ⟨_, rfl, ?_⟩; have n0_ := Aside0.mk (Kd.R_below (kr HO_520003) hb); have n1_ := Aside0.mk (Kd.R_below (kr HO_520005) hb); have n2_ := Aside0.mk (Kd.R_below (kr HO_532003) hb); have n3_ := Aside0.mk (Kd.R_below (kr HO_532005) hb); have n4_ := Aside0.mk (blk_below (g := gb519) (o := .cells #[.int .i64 t508, .int .i64 t509, .bool t510, .slice Ao11 t511.length co11, .bool t514, .slice Ao12 t515.length co12] 27 (0, 0)) (kb BK519) hb); have n5_ := Aside0.mk (blk_below (g := gb531) (o := .cells #[.int .i64 t520, .int .i64 t521, .bool t522, .slice Ao17 t523.length co17, .bool t526, .slice Ao18 t527.length co18] 27 (0, 0)) (kb BK531) hb); have n6_ := Aside0.mk (below_step (kB2 HB GE519 GE531) hb); clear HO_520003 HO_520005; clear HO_532003 HO_532005; clear BK519 BK531 HB; have HO_520003 := n0_; have HO_520005 := n1_; have HO_532003 := n2_; have HO_532005 := n3_; have BK519 := n4_; have BK531 := n5_; have HB := n6_; clear n0_ n1_ n2_ n3_ n4_ n5_ n6_; (try clear hb); (try clear hb2); (try clear hk); (try clear hi)))
      go_ret
      exact ⟨by first | rfl | (simp [errW_none, errW_some] <;> rfl) | (simp [*, errW_none, errW_some] <;> rfl), by repeat (first | (with_reducible first | exact HB.out | apply below_alloc | apply pw_below_drewN | apply below_drew1 | refine below_set ?_ GE519.out | refine below_set ?_ GE531.out) | exact HB.out)⟩

/-- THE ONE PURE STATEMENT of laws_FnRecordOf: yours. -/
def laws_FnRecordOf.Pure : Prop := ∀ (l0 : List Int), l0.length ≤ maxLen → l0.length * 1 ≤ 140737488351232 → (∀ x ∈ l0, (Lit.int .u8 x).wf = true) → ∃ k, laws_FnRecordOf.f k l0 = some true
theorem laws_FnRecordOf.walk (P : laws_FnRecordOf.Pure) (a0 : Option Addr) (len0 cap0 : Nat) (z0 : List Int) (w : World) (w0 : (a0 = none ∧ len0 = 0 ∧ cap0 = 0 ∧ z0 = []) ∨ ∃ x, a0 = some x ∧ len0 ≤ cap0 ∧ cap0 ≤ maxLen ∧ z0.length = cap0 ∧ (∀ i, i < z0.length → w.cell? (x.add i) = some (.int .u8 (z0.getD i 0))) ∧ ∀ n ∈ z0, (Lit.int .u8 n).wf = true) (y0 : len0 * 1 ≤ 140737488351232) (hGM : GOKM w) (hGT : GOKT w) :
  Calls Tryd.prog 7 #[.slice a0 len0 cap0] w fun e w' => e = .returned (.bool true) ∧ Below w.heap.size w w' := by
 obtain ⟨l0, rfl, hr0, hm0, hw0, hc0⟩ := ReadsInt.ofRowC w0
 obtain ⟨k, h⟩ := P l0 hm0 y0 hw0
 refine (laws_FnRecordOf.calls k _ _ l0 true w (Kd.C_of_reads (d := (0 : Int)) (h1 := fun _ => rfl) hr0) hc0 hGM hGT h).mono ?_
 rintro e w' ⟨rfl, hd⟩
 exact ⟨rfl, hd⟩

end Go.Proofs.YtlijpnglocgldaaDoor.P
