-- Laid by wip/xprint.py and wip/resplit.py (programs of this session's over the kit's printer). Not trusted: Lean checks it.
import Derived.Test.YtlijpnglocgldaaDoorPx0
import Derived.Test.YtlijpnglocgldaaDoorShort
import Derived.Test.YtlijpnglocgldaaDoorQ1
import Derived.Test.YtlijpnglocgldaaDoorQ4
import Derived.Test.YtlijpnglocgldaaDoorQ5
import Derived.Test.YtlijpnglocgldaaDoorERof
import Derived.Test.YtlijpnglocgldaaDoorERtext
import Derived.Test.YtlijpnglocgldaaDoorGok
namespace Go.Proofs.YtlijpnglocgldaaDoor.P
open Go.RowKit Go.Proofs.YtlijpnglocgldaaDoorW.PrintWords Go.Proofs.YtlijpnglocgldaaDoorW.PrintLast Go.Proofs.YtlijpnglocgldaaDoorW.PrintMore
attribute [local go_sem] max2_int min2_int max_two min_two max_three min_three max_four min_four   -- for this text's walks alone
set_option linter.unusedVariables false
set_option linter.unusedSimpArgs false

/-! ### laws_FnRecordText: function 6 -/
def laws_FnRecordText.j0 : Nat → ByteArray → ByteArray → Bool → Int → Int → Bool → List Int → Bool → List Int → Option (Bool)
 | 0, _, _, _, _, _, _, _, _, _ => none
 | k + 1, x4, x5, x23, x492000, x492001, x492002, x492003, x492004, x492005 => if x23 = true then (some (x4.toList == x5.toList)) else ((impl_RecordOf.f k x4).bind fun bt494 => (if bt494.2.2.2.2.2.2 = true then ((laws_sameRecord.f k bt494.1 bt494.2.1 bt494.2.2.1 bt494.2.2.2.1 bt494.2.2.2.2.1 bt494.2.2.2.2.2.1 x492000 x492001 x492002 x492003 x492004 x492005).bind fun t506 => (some t506)) else (some false)))
def laws_FnRecordText.f (k : Nat) (l0 : List Int) : Option (Bool) := if (l0.length : Int) > 1048576 then (some true) else ((spec_DrawRecordText.f k l0).bind fun bt481 => ((impl_RecordText.f bt481.1 bt481.2.1 bt481.2.2.1 bt481.2.2.2.1 bt481.2.2.2.2.1 bt481.2.2.2.2.2).bind fun t492 => ((spec_RecordText.f k bt481.1 bt481.2.1 bt481.2.2.1 bt481.2.2.2.1 bt481.2.2.2.2.1 bt481.2.2.2.2.2).bind fun t493 => (if t492.toList = t493.toList then (laws_FnRecordText.j0 k t492 t493 (t493.toList == ([] : List UInt8)) bt481.1 bt481.2.1 bt481.2.2.1 bt481.2.2.2.1 bt481.2.2.2.2.1 bt481.2.2.2.2.2) else (laws_FnRecordText.j0 k t492 t493 true bt481.1 bt481.2.1 bt481.2.2.1 bt481.2.2.2.1 bt481.2.2.2.2.1 bt481.2.2.2.2.2)))))
theorem laws_FnRecordText.mono_l : ∀ k, (∀ y0 y1 y2 y3 y4 y5 y6 y7 y8, LeO (laws_FnRecordText.j0 k y0 y1 y2 y3 y4 y5 y6 y7 y8) (laws_FnRecordText.j0 (k + 1) y0 y1 y2 y3 y4 y5 y6 y7 y8))
 | 0 => fun _ _ _ _ _ _ _ _ _ r h => by simp [laws_FnRecordText.j0] at h
 | k + 1 => by
  have ih0 := laws_FnRecordText.mono_l k
  ·intro y0 y1 y2 y3 y4 y5 y6 y7 y8
   unfold laws_FnRecordText.j0
   repeat' first
   | (with_reducible exact ih0 _ _ _ _ _ _ _ _ _)
   | (with_reducible exact impl_RecordOf.mono _ _)
   | (with_reducible exact laws_sameRecord.mono _ _ _ _ _ _ _ _ _ _ _ _ _)
   | (with_reducible exact spec_DrawRecordText.mono _ _)
   | (with_reducible exact spec_RecordText.mono _ _ _ _ _ _ _)
   | (with_reducible exact LeO.refl _)
   | (with_reducible exact LeO.none _)
   | (with_reducible refine LeO.ite ?_ ?_)
   | (with_reducible refine LeO.bind ?_ (fun _ => ?_))
   | exact ih0 _ _ _ _ _ _ _ _ _
   | exact impl_RecordOf.mono _ _
   | exact laws_sameRecord.mono _ _ _ _ _ _ _ _ _ _ _ _ _
   | exact spec_DrawRecordText.mono _ _
   | exact spec_RecordText.mono _ _ _ _ _ _ _
   | exact LeO.none _
   | refine LeO.ite ?_ ?_
   | refine LeO.bind ?_ (fun _ => ?_)
theorem laws_FnRecordText.mono : ∀ a0 k, LeO (laws_FnRecordText.f k a0) (laws_FnRecordText.f (k + 1) a0) := by
 intro a0 k
 have ih0 := laws_FnRecordText.mono_l k
 unfold laws_FnRecordText.f
 repeat' first
   | (with_reducible exact ih0 _ _ _ _ _ _ _ _ _)
   | (with_reducible exact impl_RecordOf.mono _ _)
   | (with_reducible exact laws_sameRecord.mono _ _ _ _ _ _ _ _ _ _ _ _ _)
   | (with_reducible exact spec_DrawRecordText.mono _ _)
   | (with_reducible exact spec_RecordText.mono _ _ _ _ _ _ _)
   | (with_reducible exact LeO.refl _)
   | (with_reducible exact LeO.none _)
   | (with_reducible refine LeO.ite ?_ ?_)
   | (with_reducible refine LeO.bind ?_ (fun _ => ?_))
   | exact ih0 _ _ _ _ _ _ _ _ _
   | exact impl_RecordOf.mono _ _
   | exact laws_sameRecord.mono _ _ _ _ _ _ _ _ _ _ _ _ _
   | exact spec_DrawRecordText.mono _ _
   | exact spec_RecordText.mono _ _ _ _ _ _ _
   | exact LeO.none _
   | refine LeO.ite ?_ ?_
   | refine LeO.bind ?_ (fun _ => ?_)
set_option maxHeartbeats 8000000 in
set_option maxRecDepth 100000 in
theorem laws_FnRecordText.calls (k : Nat) (A0 : Option Addr) (c0 : Nat) (l0 : List Int) (r : Bool) (w : World) (hr0 : Kd.C (Kd.int .u8) w A0 l0.length l0) (hc0 : l0.length ≤ c0) (hGM : GOKM w) (hGT : GOKT w) (h : laws_FnRecordText.f k l0 = some r) :
  Calls Tryd.prog 6 #[.slice A0 l0.length c0] w fun e w' => e = .returned (.bool r) ∧ Below w.heap.size w w' := by
 have hu27 := Tryd.underlying27
 have HR0 := Aside0.mk hr0
 have HC0 := Aside0.mk hc0
 clear hr0 hc0
 have HB := Aside0.mk (Below.refl w.heap.size w)
 have HGM := Aside0.mk hGM
 clear hGM
 have HGT := Aside0.mk hGT
 clear hGT
 have H : (if (l0.length : Int) > 1048576 then (some true) else ((spec_DrawRecordText.f k l0).bind fun bt481 => ((impl_RecordText.f bt481.1 bt481.2.1 bt481.2.2.1 bt481.2.2.2.1 bt481.2.2.2.2.1 bt481.2.2.2.2.2).bind fun t492 => ((spec_RecordText.f k bt481.1 bt481.2.1 bt481.2.2.1 bt481.2.2.2.1 bt481.2.2.2.2.1 bt481.2.2.2.2.2).bind fun t493 => (if t492.toList = t493.toList then (laws_FnRecordText.j0 k t492 t493 (t493.toList == ([] : List UInt8)) bt481.1 bt481.2.1 bt481.2.2.1 bt481.2.2.2.1 bt481.2.2.2.2.1 bt481.2.2.2.2.2) else (laws_FnRecordText.j0 k t492 t493 true bt481.1 bt481.2.1 bt481.2.2.1 bt481.2.2.2.1 bt481.2.2.2.2.1 bt481.2.2.2.2.2)))))) = some r := h
 clear h
 by_cases c2 : (l0.length : Int) > 1048576
 ·rw [if_pos c2] at H
  have c2b0 : decide (1048576 < (l0.length : Int)) = true := decide_eq_true c2
  have c2b1 : decide (1048576 < l0.length) = true := decide_eq_true (by omega)
  clear c2
  obtain rfl := Option.some.inj H
  go_enter Tryd.func6, Tryd.ntmps6
  go_wp2
  go_ret
  exact ⟨by first | rfl | (simp [errW_none, errW_some] <;> rfl) | (simp [*, errW_none, errW_some] <;> rfl), by repeat (first | (with_reducible first | exact HB.out | apply below_alloc | apply pw_below_drewN | apply below_drew1) | exact HB.out)⟩
 ·rw [if_neg c2] at H
  have c2b0 : decide (1048576 < (l0.length : Int)) = false := decide_eq_false c2
  have c2b1 : decide (1048576 < l0.length) = false := decide_eq_false (by omega)
  clear c2
  replace H := Option.bind_eq_some_iff.mp H
  obtain ⟨⟨t481, t482, t483, t484, t487, t488⟩, A30, H⟩ := H
  replace H : ((impl_RecordText.f t481 t482 t483 t484 t487 t488).bind fun t492 => ((spec_RecordText.f k t481 t482 t483 t484 t487 t488).bind fun t493 => (if t492.toList = t493.toList then (laws_FnRecordText.j0 k t492 t493 (t493.toList == ([] : List UInt8)) t481 t482 t483 t484 t487 t488) else (laws_FnRecordText.j0 k t492 t493 true t481 t482 t483 t484 t487 t488)))) = some r := H
  have A3 := Aside0.mk A30
  clear A30
  replace H := Option.bind_eq_some_iff.mp H
  obtain ⟨t492, A40, H⟩ := H
  replace H : ((spec_RecordText.f k t481 t482 t483 t484 t487 t488).bind fun t493 => (if t492.toList = t493.toList then (laws_FnRecordText.j0 k t492 t493 (t493.toList == ([] : List UInt8)) t481 t482 t483 t484 t487 t488) else (laws_FnRecordText.j0 k t492 t493 true t481 t482 t483 t484 t487 t488))) = some r := H
  have A4 := Aside0.mk A40
  clear A40
  replace H := Option.bind_eq_some_iff.mp H
  obtain ⟨t493, A50, H⟩ := H
  replace H : (if t492.toList = t493.toList then (laws_FnRecordText.j0 k t492 t493 (t493.toList == ([] : List UInt8)) t481 t482 t483 t484 t487 t488) else (laws_FnRecordText.j0 k t492 t493 true t481 t482 t483 t484 t487 t488)) = some r := H
  have A5 := Aside0.mk A50
  clear A50
  have HC6 := Aside0.mk H
  clear H
  go_enter Tryd.func6, Tryd.ntmps6
  go_upto_region 6 with (first | ((with_reducible refine gate_callee (f := 19) rfl ?_); refine goesL_ (some 12) rfl rfl Tryd.func19 (by kernel_rfl) rfl #[.slice A0 l0.length c0] rfl (by (try simp only [List.map_toArray, List.map_cons, List.map_nil]); first | done | rfl | (simp only [List.length_drop, List.length_take]; rfl)) ?_; (with_reducible refine (spec_DrawRecordText.calls k _ _ l0 t481 t482 t483 t484 t487 t488 _ ?side1 ?side2 A3.out).mono ?_); (case side1 => repeat (first | exact HR0.out | (with_reducible refine Kd.C_alloc ?_ _) | (with_reducible refine Kd.C_drewN ?_ _) | (with_reducible refine Kd.C_drew ?_))); (case side2 => exact HC0.out); rintro e w7 ⟨v485, v489, rfl, ho0, ho1, hb⟩; refine ⟨_, rfl, ?_⟩; have n0_ := Aside0.mk (Kd.R_lower ho0 (below_size (kB0 HB))); have n1_ := Aside0.mk (Kd.R_lower ho1 (below_size (kB0 HB))); have n2_ := Aside0.mk (below_step (kB0 HB) hb); clear HB; have HO486 := n0_; have HO490 := n1_; have HB := n2_; clear n0_ n1_ n2_; (try clear hb); (try clear hb2); (try clear hk); (try clear hi); (try clear ho0); (try clear ho1)) | ((with_reducible refine gate_dst (N := 3) rfl ?_); refine box_event ?hg (N := 3) ?hd (cs := #[.int .i64 0, .int .i64 0, .bool false, .slice none 0 0, .bool false, .slice none 0 0]) (t := 27) ?hr ?_; (case hd => rfl); (case hg => rfl); (case hr => first | (go_simp; done) | (go_simp; rfl)); intro gb491 hg w8 hbox hb; have n0_ := Aside0.mk (Kd.R_below (kr HO486) hb); have n1_ := Aside0.mk (Kd.R_below (kr HO490) hb); have n2_ := Aside0.mk (below_step (kB0 HB) hb); have n3_ := Aside0.mk (hbox); have n4_ := Aside0.mk ((by rw [hg]; exact (below_size (kB0 HB)) : w.heap.size ≤ gb491)); have n5_ := Aside0.mk ((by rw [hg]; exact (below_size (kB0 HB)) : w.heap.size ≤ gb491)); clear HO486 HO490 HB; have HO486 := n0_; have HO490 := n1_; have HB := n2_; have BK491 := n3_; have GW491 := n4_; have GE491 := n5_; clear n0_ n1_ n2_ n3_ n4_ n5_; clear hb hbox hg; have hcz9_0 : w8.cell? ⟨gb491, 0, none⟩ = some (.int .i64 0) := (blk_cell BK491.out 0).trans rfl; have hcz9_1 : w8.cell? ⟨gb491, 1, none⟩ = some (.int .i64 0) := (blk_cell BK491.out 1).trans rfl; have hcz9_2 : w8.cell? ⟨gb491, 2, none⟩ = some (.bool false) := (blk_cell BK491.out 2).trans rfl; have hcz9_3 : w8.cell? ⟨gb491, 3, none⟩ = some (.slice none 0 0) := (blk_cell BK491.out 3).trans rfl; have hcz9_4 : w8.cell? ⟨gb491, 4, none⟩ = some (.bool false) := (blk_cell BK491.out 4).trans rfl; have hcz9_5 : w8.cell? ⟨gb491, 5, none⟩ = some (.slice none 0 0) := (blk_cell BK491.out 5).trans rfl; have hfz9_0 := blk_frozen BK491.out 0; have hfz9_1 := blk_frozen BK491.out 1; have hfz9_2 := blk_frozen BK491.out 2; have hfz9_3 := blk_frozen BK491.out 3; have hfz9_4 := blk_frozen BK491.out 4; have hfz9_5 := blk_frozen BK491.out 5; obtain ⟨Ao10, co10, eo10⟩ := Kd.R_slice HO486.out; subst eo10; obtain ⟨Ao11, co11, eo11⟩ := Kd.R_slice HO490.out; subst eo11) | ((with_reducible refine gate_callee (f := 11) rfl ?_); refine goesL_ (some 14) rfl rfl Tryd.func11 (by kernel_rfl) rfl #[.agg #[.int .i64 t481, .int .i64 t482, .bool t483, .slice Ao10 t484.length co10, .bool t487, .slice Ao11 t488.length co11]] rfl (by (try simp only [List.map_toArray, List.map_cons, List.map_nil]); first | done | rfl | (simp only [List.length_drop, List.length_take]; rfl)) ?_; (with_reducible refine (impl_RecordText.calls t481 t482 t483 _ _ t484 t487 _ _ t488 t492 _ ?side1 ?side2 ?side3 ?side4 ?side5 A4.out).mono ?_); (case side1 => refine (Kd.R_reads' (e := 3) (base := w.heap.size) (ok := fun k_ => some k_ ≠ (.slice Ao11 t488.length co11 : Value).ownBlock) (n := t484.length) (c := co10) ?_).2.2; exact (by (with_reducible repeat (first | apply Kd.R_alloc | apply Kd.R_drewN | apply Kd.R_drew)); exact (Kd.R_mono (Kd.R_far (p := ⟨gb491, 5, none⟩) (Kd.R_far (p := ⟨gb491, 4, none⟩) (Kd.R_far (p := ⟨gb491, 3, none⟩) (Kd.R_far (p := ⟨gb491, 2, none⟩) (Kd.R_far (p := ⟨gb491, 1, none⟩) (Kd.R_far (p := ⟨gb491, 0, none⟩) (Kd.R_types HO486.out BK491.out (by decide)) (fun _ hk => hk.2) (.int .i64 t481)) (fun _ hk => hk.2) (.int .i64 t482)) (fun _ hk => hk.2) (.bool t483)) (fun _ hk => hk.2) (.slice Ao10 t484.length co10)) (fun _ hk => hk.2) (.bool t487)) (fun _ hk => hk.2) (.slice Ao11 t488.length co11)) (fun _ h_ => h_.1)))); (case side2 => exact (Kd.R_reads' HO486.out).2.1); (case side3 => refine (Kd.R_reads' (e := 3) (base := w.heap.size) (ok := fun k_ => some k_ ≠ (.slice Ao10 t484.length co10 : Value).ownBlock) (n := t488.length) (c := co11) ?_).2.2; exact (by (with_reducible repeat (first | apply Kd.R_alloc | apply Kd.R_drewN | apply Kd.R_drew)); exact (Kd.R_mono (Kd.R_far (p := ⟨gb491, 5, none⟩) (Kd.R_far (p := ⟨gb491, 4, none⟩) (Kd.R_far (p := ⟨gb491, 3, none⟩) (Kd.R_far (p := ⟨gb491, 2, none⟩) (Kd.R_far (p := ⟨gb491, 1, none⟩) (Kd.R_far (p := ⟨gb491, 0, none⟩) (Kd.R_types HO490.out BK491.out (by decide)) (fun _ hk => hk.2) (.int .i64 t481)) (fun _ hk => hk.2) (.int .i64 t482)) (fun _ hk => hk.2) (.bool t483)) (fun _ hk => hk.2) (.slice Ao10 t484.length co10)) (fun _ hk => hk.2) (.bool t487)) (fun _ hk => hk.2) (.slice Ao11 t488.length co11)) (fun _ h_ => h_.1)))); (case side4 => exact (Kd.R_reads' HO490.out).2.1); (case side5 => refine GOKT.below HGT.out ?_; repeat (first | (with_reducible first | exact HB.out | apply below_alloc | apply pw_below_drewN | apply below_drew1 | refine below_set ?_ GE491.out) | exact HB.out)); rintro e w12 ⟨rfl, hb⟩; refine ⟨_, rfl, ?_⟩; have n0_ := Aside0.mk (Kd.R_below (by (with_reducible repeat (first | apply Kd.R_alloc | apply Kd.R_drewN | apply Kd.R_drew)); exact (Kd.R_mono (Kd.R_far (p := ⟨gb491, 5, none⟩) (Kd.R_far (p := ⟨gb491, 4, none⟩) (Kd.R_far (p := ⟨gb491, 3, none⟩) (Kd.R_far (p := ⟨gb491, 2, none⟩) (Kd.R_far (p := ⟨gb491, 1, none⟩) (Kd.R_far (p := ⟨gb491, 0, none⟩) (Kd.R_types HO486.out BK491.out (by decide)) (fun _ hk => hk.2) (.int .i64 t481)) (fun _ hk => hk.2) (.int .i64 t482)) (fun _ hk => hk.2) (.bool t483)) (fun _ hk => hk.2) (.slice Ao10 t484.length co10)) (fun _ hk => hk.2) (.bool t487)) (fun _ hk => hk.2) (.slice Ao11 t488.length co11)) (fun _ h_ => h_.1))) hb); have n1_ := Aside0.mk (Kd.R_below (by (with_reducible repeat (first | apply Kd.R_alloc | apply Kd.R_drewN | apply Kd.R_drew)); exact (Kd.R_mono (Kd.R_far (p := ⟨gb491, 5, none⟩) (Kd.R_far (p := ⟨gb491, 4, none⟩) (Kd.R_far (p := ⟨gb491, 3, none⟩) (Kd.R_far (p := ⟨gb491, 2, none⟩) (Kd.R_far (p := ⟨gb491, 1, none⟩) (Kd.R_far (p := ⟨gb491, 0, none⟩) (Kd.R_types HO490.out BK491.out (by decide)) (fun _ hk => hk.2) (.int .i64 t481)) (fun _ hk => hk.2) (.int .i64 t482)) (fun _ hk => hk.2) (.bool t483)) (fun _ hk => hk.2) (.slice Ao10 t484.length co10)) (fun _ hk => hk.2) (.bool t487)) (fun _ hk => hk.2) (.slice Ao11 t488.length co11)) (fun _ h_ => h_.1))) hb); have n2_ := Aside0.mk (blk_below (g := gb491) (o := .cells #[.int .i64 t481, .int .i64 t482, .bool t483, .slice Ao10 t484.length co10, .bool t487, .slice Ao11 t488.length co11] 27 (0, 0)) (by (with_reducible repeat (first | refine blk_drewN ?_ _ | refine blk_drew ?_ | refine blk_alloc ?_ _)); refine blk_put (cs := #[.int .i64 t481, .int .i64 t482, .bool t483, .slice Ao10 t484.length co10, .bool t487, .slice none 0 0]) ?_ 5 _ rfl; (with_reducible repeat (first | refine blk_drewN ?_ _ | refine blk_drew ?_ | refine blk_alloc ?_ _)); refine blk_put (cs := #[.int .i64 t481, .int .i64 t482, .bool t483, .slice Ao10 t484.length co10, .bool false, .slice none 0 0]) ?_ 4 _ rfl; (with_reducible repeat (first | refine blk_drewN ?_ _ | refine blk_drew ?_ | refine blk_alloc ?_ _)); refine blk_put (cs := #[.int .i64 t481, .int .i64 t482, .bool t483, .slice none 0 0, .bool false, .slice none 0 0]) ?_ 3 _ rfl; (with_reducible repeat (first | refine blk_drewN ?_ _ | refine blk_drew ?_ | refine blk_alloc ?_ _)); refine blk_put (cs := #[.int .i64 t481, .int .i64 t482, .bool false, .slice none 0 0, .bool false, .slice none 0 0]) ?_ 2 _ rfl; (with_reducible repeat (first | refine blk_drewN ?_ _ | refine blk_drew ?_ | refine blk_alloc ?_ _)); refine blk_put (cs := #[.int .i64 t481, .int .i64 0, .bool false, .slice none 0 0, .bool false, .slice none 0 0]) ?_ 1 _ rfl; (with_reducible repeat (first | refine blk_drewN ?_ _ | refine blk_drew ?_ | refine blk_alloc ?_ _)); refine blk_put (cs := #[.int .i64 0, .int .i64 0, .bool false, .slice none 0 0, .bool false, .slice none 0 0]) ?_ 0 _ rfl; (with_reducible repeat (first | refine blk_drewN ?_ _ | refine blk_drew ?_ | refine blk_alloc ?_ _)); exact BK491.out) hb); have n3_ := Aside0.mk (below_step (kB1 HB GE491) hb); clear HO486 HO490; clear BK491 HB; have HO486 := n0_; have HO490 := n1_; have BK491 := n2_; have HB := n3_; clear n0_ n1_ n2_ n3_; (try clear hb); (try clear hb2); (try clear hk); (try clear hi); have hcz13_0 : w12.cell? ⟨gb491, 0, none⟩ = some (.int .i64 t481) := (blk_cell BK491.out 0).trans rfl; have hcz13_1 : w12.cell? ⟨gb491, 1, none⟩ = some (.int .i64 t482) := (blk_cell BK491.out 1).trans rfl; have hcz13_2 : w12.cell? ⟨gb491, 2, none⟩ = some (.bool t483) := (blk_cell BK491.out 2).trans rfl; have hcz13_3 : w12.cell? ⟨gb491, 3, none⟩ = some (.slice Ao10 t484.length co10) := (blk_cell BK491.out 3).trans rfl; have hcz13_4 : w12.cell? ⟨gb491, 4, none⟩ = some (.bool t487) := (blk_cell BK491.out 4).trans rfl; have hcz13_5 : w12.cell? ⟨gb491, 5, none⟩ = some (.slice Ao11 t488.length co11) := (blk_cell BK491.out 5).trans rfl; have hfz13_0 := blk_frozen BK491.out 0; have hfz13_1 := blk_frozen BK491.out 1; have hfz13_2 := blk_frozen BK491.out 2; have hfz13_3 := blk_frozen BK491.out 3; have hfz13_4 := blk_frozen BK491.out 4; have hfz13_5 := blk_frozen BK491.out 5) | ((with_reducible refine gate_callee (f := 9) rfl ?_); refine goesL_ (some 16) rfl rfl Tryd.func9 (by kernel_rfl) rfl #[.agg #[.int .i64 t481, .int .i64 t482, .bool t483, .slice Ao10 t484.length co10, .bool t487, .slice Ao11 t488.length co11]] rfl (by (try simp only [List.map_toArray, List.map_cons, List.map_nil]); first | done | rfl | (simp only [List.length_drop, List.length_take]; rfl)) ?_; (with_reducible refine (spec_RecordText.calls k t481 t482 t483 _ _ t484 t487 _ _ t488 t493 _ ?side1 ?side2 ?side3 ?side4 A5.out).mono ?_); (case side1 => repeat (first | exact (Kd.R_reads' HO486.out).2.2 | (with_reducible refine Kd.C_alloc ?_ _) | (with_reducible refine Kd.C_drewN ?_ _) | (with_reducible refine Kd.C_drew ?_))); (case side2 => exact (Kd.R_reads' HO486.out).2.1); (case side3 => repeat (first | exact (Kd.R_reads' HO490.out).2.2 | (with_reducible refine Kd.C_alloc ?_ _) | (with_reducible refine Kd.C_drewN ?_ _) | (with_reducible refine Kd.C_drew ?_))); (case side4 => exact (Kd.R_reads' HO490.out).2.1); rintro e w14 ⟨rfl, hb⟩; refine ⟨_, rfl, ?_⟩; have n0_ := Aside0.mk (Kd.R_below (kr HO486) hb); have n1_ := Aside0.mk (Kd.R_below (kr HO490) hb); have n2_ := Aside0.mk (blk_below (g := gb491) (o := .cells #[.int .i64 t481, .int .i64 t482, .bool t483, .slice Ao10 t484.length co10, .bool t487, .slice Ao11 t488.length co11] 27 (0, 0)) (kb BK491) hb); have n3_ := Aside0.mk (below_step (kB1 HB GE491) hb); clear HO486 HO490; clear BK491 HB; have HO486 := n0_; have HO490 := n1_; have BK491 := n2_; have HB := n3_; clear n0_ n1_ n2_ n3_; (try clear hb); (try clear hb2); (try clear hk); (try clear hi)))
  (try simp only [Act.put, List.setIfInBounds_toArray, List.set_cons_zero, List.set_cons_succ])
  go_cut [23] (fun v23 wc => ∃ (kq : Nat) (x23_5 : Bool), v23 = .bool x23_5 ∧ Aside0 (laws_FnRecordText.j0 kq t492 t493 x23_5 t481 t482 t483 t484 t487 t488 = some r) ∧ Aside0 (kq ≤ k) ∧ Aside0 (Kd.R (Kd.int .i64) 3 wc w.heap.size (fun k_ => some k_ ≠ ((.slice Ao11 t488.length co11) : Value).ownBlock) (.slice Ao10 t484.length co10) t484) ∧ Aside0 (Kd.R (Kd.int .i64) 3 wc w.heap.size (fun k_ => some k_ ≠ ((.slice Ao10 t484.length co10) : Value).ownBlock) (.slice Ao11 t488.length co11) t488) ∧ Aside0 (wc.heap[gb491]? = some (.cells #[.int .i64 t481, .int .i64 t482, .bool t483, (.slice Ao10 t484.length co10), .bool t487, (.slice Ao11 t488.length co11)] 27 (0, 0))) ∧ Aside0 (Below w.heap.size w wc))
  case first =>
   have H := HC6.out
   clear HC6
   by_cases c15 : t492.toList = t493.toList
   ·rw [if_pos c15] at H
    have c15b0 : (t492.toList == t493.toList) = true := beq_iff_eq.mpr c15
    have c15b1 : (t492.toList != t493.toList) = false := bne_eq_false_iff_eq.mpr c15
    clear c15
    (first | rw [c15b0] | (simp only [i64_w, i32_w]; rw [c15b0]) | skip)
    have H' := Aside0.mk H
    clear H
    go_wp2
    go_meet
    case rel => exact ⟨_, ((t493.toList == ([] : List UInt8))), (by first | rfl | (simp; done) | (simp [*]; done)), H', ⟨by first | omega | exact Nat.le_refl _⟩, ⟨by (with_reducible repeat (first | apply Kd.R_alloc | apply Kd.R_drewN | apply Kd.R_drew)); exact HO486.out⟩, ⟨by (with_reducible repeat (first | apply Kd.R_alloc | apply Kd.R_drewN | apply Kd.R_drew)); exact HO490.out⟩, ⟨by (with_reducible repeat (first | refine blk_drewN ?_ _ | refine blk_drew ?_ | refine blk_alloc ?_ _)); exact BK491.out⟩, ⟨by repeat (first | (with_reducible first | exact HB.out | apply below_alloc | apply pw_below_drewN | apply below_drew1 | refine below_set ?_ GE491.out) | exact HB.out)⟩⟩
   ·rw [if_neg c15] at H
    have c15b0 : (t492.toList == t493.toList) = false := beq_eq_false_iff_ne.mpr c15
    have c15b1 : (t492.toList != t493.toList) = true := bne_iff_ne.mpr c15
    (first | rw [c15b0] | (simp only [i64_w, i32_w]; rw [c15b0]) | skip)
    have H' := Aside0.mk H
    clear H
    go_wp2
    go_meet
    case rel => exact ⟨_, (true), (by first | rfl | (simp; done) | (simp [*]; done)), H', ⟨by first | omega | exact Nat.le_refl _⟩, ⟨by (with_reducible repeat (first | apply Kd.R_alloc | apply Kd.R_drewN | apply Kd.R_drew)); exact HO486.out⟩, ⟨by (with_reducible repeat (first | apply Kd.R_alloc | apply Kd.R_drewN | apply Kd.R_drew)); exact HO490.out⟩, ⟨by (with_reducible repeat (first | refine blk_drewN ?_ _ | refine blk_drew ?_ | refine blk_alloc ?_ _)); exact BK491.out⟩, ⟨by repeat (first | (with_reducible first | exact HB.out | apply below_alloc | apply pw_below_drewN | apply below_drew1 | refine below_set ?_ GE491.out) | exact HB.out)⟩⟩
  case rest =>
   clear HC6
   try clear c1
   try clear c2
   try clear c2b0
   try clear c2b1
   try clear p2
   try clear c6
   try clear c9
   try clear c11
   try clear c15
   try clear c15b0
   try clear c15b1
   try clear hcz13_0
   try clear hcz13_1
   try clear hcz13_2
   try clear hcz13_3
   try clear hcz13_4
   try clear hcz13_5
   try clear hcz9_0
   try clear hcz9_1
   try clear hcz9_2
   try clear hcz9_3
   try clear hcz9_4
   try clear hcz9_5
   try clear hfz13_0
   try clear hfz13_1
   try clear hfz13_2
   try clear hfz13_3
   try clear hfz13_4
   try clear hfz13_5
   try clear hfz9_0
   try clear hfz9_1
   try clear hfz9_2
   try clear hfz9_3
   try clear hfz9_4
   try clear hfz9_5
   obtain ⟨kq, x23_5, rfl, HA, HJ5, HO_492003, HO_492005, BK491, HB⟩ := hcut
   cases kq with
   | zero => exact absurd HA.out (by simp [laws_FnRecordText.j0])
   | succ kj5 =>
    have H := HA.out
    clear HA
    simp only [laws_FnRecordText.j0] at H
    by_cases c16 : x23_5 = true
    ·subst c16
     have H1 : (some (t492.toList == t493.toList)) = some r := by rw [if_pos rfl] at H; exact H
     clear H
     have H := H1
     clear H1
     obtain rfl := Option.some.inj H
     go_wp2
     go_ret
     exact ⟨by first | rfl | (simp [errW_none, errW_some] <;> rfl) | (simp [*, errW_none, errW_some] <;> rfl), by repeat (first | (with_reducible first | exact HB.out | apply below_alloc | apply pw_below_drewN | apply below_drew1 | refine below_set ?_ GE491.out) | exact HB.out)⟩
    ·replace c16 := Bool.eq_false_iff.mpr c16
     subst c16
     have H1 : ((impl_RecordOf.f kj5 t492).bind fun bt494 => (if bt494.2.2.2.2.2.2 = true then ((laws_sameRecord.f kj5 bt494.1 bt494.2.1 bt494.2.2.1 bt494.2.2.2.1 bt494.2.2.2.2.1 bt494.2.2.2.2.2.1 t481 t482 t483 t484 t487 t488).bind fun t506 => (some t506)) else (some false))) = some r := by rw [if_neg (show ¬ (false = true) by decide)] at H; exact H
     clear H
     have H := H1
     clear H1
     replace H := Option.bind_eq_some_iff.mp H
     obtain ⟨⟨t494, t495, t496, t497, t500, t501, t504⟩, A170, H⟩ := H
     replace H : (if t504 = true then ((laws_sameRecord.f kj5 t494 t495 t496 t497 t500 t501 t481 t482 t483 t484 t487 t488).bind fun t506 => (some t506)) else (some false)) = some r := H
     have A17 := Aside0.mk A170
     clear A170
     by_cases c18 : t504 = true
     ·subst c18
      have H1 : ((laws_sameRecord.f kj5 t494 t495 t496 t497 t500 t501 t481 t482 t483 t484 t487 t488).bind fun t506 => (some t506)) = some r := by rw [if_pos rfl] at H; exact H
      clear H
      have H := H1
      clear H1
      replace H := Option.bind_eq_some_iff.mp H
      obtain ⟨t506, A190, H⟩ := H
      replace H : (some t506) = some r := H
      have A19 := Aside0.mk A190
      clear A190
      obtain rfl := Option.some.inj H
      go_wp2_with (first | ((with_reducible refine gate_callee (f := 14) rfl ?_); refine goesL_ (some 29) rfl rfl Tryd.func14 (by kernel_rfl) rfl #[.string t492] rfl (by (try simp only [List.map_toArray, List.map_cons, List.map_nil]); first | done | rfl | (simp only [List.length_drop, List.length_take]; rfl)) ?_; (with_reducible refine (impl_RecordOf.calls kj5 t492 t494 t495 t496 t497 t500 t501 true _ ?side1 A17.out).mono ?_); (case side1 => refine GOKM.below HGM.out ?_; repeat (first | (with_reducible first | exact HB.out | apply below_alloc | apply pw_below_drewN | apply below_drew1 | refine below_set ?_ GE491.out) | exact HB.out)); rintro e w20 ⟨v498, v502, rfl, ho0, ho1, hb⟩; refine ⟨_, rfl, ?_⟩; have n0_ := Aside0.mk (Kd.R_mono (Kd.R_told (Kd.R_told (Kd.R_old (kr HO_492003) hb) (Kd.R_base ho0)) (Kd.R_base ho1)) (fun _ h_ => h_.1)); have n1_ := Aside0.mk (Kd.R_mono (Kd.R_told (Kd.R_told (Kd.R_old (kr HO_492005) hb) (Kd.R_base ho0)) (Kd.R_base ho1)) (fun _ h_ => h_.1)); have n2_ := Aside0.mk (Kd.R_lower (Kd.R_new' (Kd.R_new' ho0 (Kd.R_lt (kr HO_492003))) (Kd.R_lt (kr HO_492005))) (below_size (kB1 HB GE491))); have n3_ := Aside0.mk (Kd.R_lower (Kd.R_new' (Kd.R_new' ho1 (Kd.R_lt (kr HO_492003))) (Kd.R_lt (kr HO_492005))) (below_size (kB1 HB GE491))); have n4_ := Aside0.mk (blk_below (g := gb491) (o := .cells #[.int .i64 t481, .int .i64 t482, .bool t483, .slice Ao10 t484.length co10, .bool t487, .slice Ao11 t488.length co11] 27 (0, 0)) (kb BK491) hb); have n5_ := Aside0.mk (below_step (kB1 HB GE491) hb); clear HO_492003 HO_492005; clear BK491 HB; have HO_492003 := n0_; have HO_492005 := n1_; have HO499 := n2_; have HO503 := n3_; have BK491 := n4_; have HB := n5_; clear n0_ n1_ n2_ n3_ n4_ n5_; (try clear hb); (try clear hb2); (try clear hk); (try clear hi); (try clear ho0); (try clear ho1)) | ((with_reducible refine gate_dst (N := 6) rfl ?_); refine box_event ?hg (N := 6) ?hd (cs := #[.int .i64 0, .int .i64 0, .bool false, .slice none 0 0, .bool false, .slice none 0 0]) (t := 27) ?hr ?_; (case hd => rfl); (case hg => rfl); (case hr => first | (go_simp; done) | (go_simp; rfl)); intro gb505 hg w21 hbox hb; have n0_ := Aside0.mk (Kd.R_below (kr HO_492003) hb); have n1_ := Aside0.mk (Kd.R_below (kr HO_492005) hb); have n2_ := Aside0.mk (Kd.R_below (kr HO499) hb); have n3_ := Aside0.mk (Kd.R_below (kr HO503) hb); have n4_ := Aside0.mk (blk_below (g := gb491) (o := .cells #[.int .i64 t481, .int .i64 t482, .bool t483, .slice Ao10 t484.length co10, .bool t487, .slice Ao11 t488.length co11] 27 (0, 0)) (kb BK491) hb); have n5_ := Aside0.mk (below_step (kB1 HB GE491) hb); have n6_ := Aside0.mk (hbox); have n7_ := Aside0.mk ((by rw [hg]; exact (below_size (kB1 HB GE491)) : w.heap.size ≤ gb505)); have n8_ := Aside0.mk ((by rw [hg]; exact (below_size (kB1 HB GE491)) : w.heap.size ≤ gb505)); have n9_ := Aside0.mk ((by rw [hg]; exact Nat.ne_of_lt (blk_lt (g := gb491) (o := .cells #[.int .i64 t481, .int .i64 t482, .bool t483, .slice Ao10 t484.length co10, .bool t487, .slice Ao11 t488.length co11] 27 (0, 0)) (kb BK491)) : gb491 ≠ gb505)); have n10_ := Aside0.mk ((by rw [hg]; exact Nat.ne_of_gt (blk_lt (g := gb491) (o := .cells #[.int .i64 t481, .int .i64 t482, .bool t483, .slice Ao10 t484.length co10, .bool t487, .slice Ao11 t488.length co11] 27 (0, 0)) (kb BK491)) : gb505 ≠ gb491)); clear HO_492003 HO_492005; clear HO499 HO503; clear BK491 HB; have HO_492003 := n0_; have HO_492005 := n1_; have HO499 := n2_; have HO503 := n3_; have BK491 := n4_; have HB := n5_; have BK505 := n6_; have GW505 := n7_; have GE505 := n8_; have NB491_505 := n9_; have NB505_491 := n10_; clear n0_ n1_ n2_ n3_ n4_ n5_ n6_ n7_ n8_ n9_ n10_; clear hb hbox hg; have hnb22 := NB505_491.out; have hnc22 := NB491_505.out; have hcz23_0 : w21.cell? ⟨gb505, 0, none⟩ = some (.int .i64 0) := (blk_cell BK505.out 0).trans rfl; have hcz23_1 : w21.cell? ⟨gb505, 1, none⟩ = some (.int .i64 0) := (blk_cell BK505.out 1).trans rfl; have hcz23_2 : w21.cell? ⟨gb505, 2, none⟩ = some (.bool false) := (blk_cell BK505.out 2).trans rfl; have hcz23_3 : w21.cell? ⟨gb505, 3, none⟩ = some (.slice none 0 0) := (blk_cell BK505.out 3).trans rfl; have hcz23_4 : w21.cell? ⟨gb505, 4, none⟩ = some (.bool false) := (blk_cell BK505.out 4).trans rfl; have hcz23_5 : w21.cell? ⟨gb505, 5, none⟩ = some (.slice none 0 0) := (blk_cell BK505.out 5).trans rfl; have hfz23_0 := blk_frozen BK505.out 0; have hfz23_1 := blk_frozen BK505.out 1; have hfz23_2 := blk_frozen BK505.out 2; have hfz23_3 := blk_frozen BK505.out 3; have hfz23_4 := blk_frozen BK505.out 4; have hfz23_5 := blk_frozen BK505.out 5; obtain ⟨Ao24, co24, eo24⟩ := Kd.R_slice HO499.out; subst eo24; obtain ⟨Ao25, co25, eo25⟩ := Kd.R_slice HO503.out; subst eo25; have hcz26_0 : w21.cell? ⟨gb491, 0, none⟩ = some (.int .i64 t481) := (blk_cell BK491.out 0).trans rfl; have hcz26_1 : w21.cell? ⟨gb491, 1, none⟩ = some (.int .i64 t482) := (blk_cell BK491.out 1).trans rfl; have hcz26_2 : w21.cell? ⟨gb491, 2, none⟩ = some (.bool t483) := (blk_cell BK491.out 2).trans rfl; have hcz26_3 : w21.cell? ⟨gb491, 3, none⟩ = some (.slice Ao10 t484.length co10) := (blk_cell BK491.out 3).trans rfl; have hcz26_4 : w21.cell? ⟨gb491, 4, none⟩ = some (.bool t487) := (blk_cell BK491.out 4).trans rfl; have hcz26_5 : w21.cell? ⟨gb491, 5, none⟩ = some (.slice Ao11 t488.length co11) := (blk_cell BK491.out 5).trans rfl; have hfz26_0 := blk_frozen BK491.out 0; have hfz26_1 := blk_frozen BK491.out 1; have hfz26_2 := blk_frozen BK491.out 2; have hfz26_3 := blk_frozen BK491.out 3; have hfz26_4 := blk_frozen BK491.out 4; have hfz26_5 := blk_frozen BK491.out 5) | (go_at_call 18; (with_reducible refine (laws_sameRecord.calls kj5 t494 t495 t496 _ _ t497 t500 _ _ t501 t481 t482 t483 _ _ t484 t487 _ _ t488 t506 _ ?side1 ?side2 ?side3 ?side4 ?side5 ?side6 ?side7 ?side8 A19.out).mono ?_); (case side1 => refine (Kd.R_reads' (e := 3) (base := w.heap.size) (ok := fun k_ => ((some k_ ≠ (.slice Ao25 t501.length co25 : Value).ownBlock ∧ some k_ ≠ (.slice Ao10 t484.length co10 : Value).ownBlock) ∧ some k_ ≠ (.slice Ao11 t488.length co11 : Value).ownBlock)) (n := t497.length) (c := co24) ?_).2.2; exact (by (with_reducible repeat (first | apply Kd.R_alloc | apply Kd.R_drewN | apply Kd.R_drew)); exact (Kd.R_mono (Kd.R_far (p := ⟨gb505, 5, none⟩) (Kd.R_far (p := ⟨gb505, 4, none⟩) (Kd.R_far (p := ⟨gb505, 3, none⟩) (Kd.R_far (p := ⟨gb505, 2, none⟩) (Kd.R_far (p := ⟨gb505, 1, none⟩) (Kd.R_far (p := ⟨gb505, 0, none⟩) (Kd.R_types HO499.out BK505.out (by decide)) (fun _ hk => hk.2) (.int .i64 t494)) (fun _ hk => hk.2) (.int .i64 t495)) (fun _ hk => hk.2) (.bool t496)) (fun _ hk => hk.2) (.slice Ao24 t497.length co24)) (fun _ hk => hk.2) (.bool t500)) (fun _ hk => hk.2) (.slice Ao25 t501.length co25)) (fun _ h_ => h_.1)))); (case side2 => exact (Kd.R_reads' HO499.out).2.1); (case side3 => refine (Kd.R_reads' (e := 3) (base := w.heap.size) (ok := fun k_ => ((some k_ ≠ (.slice Ao24 t497.length co24 : Value).ownBlock ∧ some k_ ≠ (.slice Ao10 t484.length co10 : Value).ownBlock) ∧ some k_ ≠ (.slice Ao11 t488.length co11 : Value).ownBlock)) (n := t501.length) (c := co25) ?_).2.2; exact (by (with_reducible repeat (first | apply Kd.R_alloc | apply Kd.R_drewN | apply Kd.R_drew)); exact (Kd.R_mono (Kd.R_far (p := ⟨gb505, 5, none⟩) (Kd.R_far (p := ⟨gb505, 4, none⟩) (Kd.R_far (p := ⟨gb505, 3, none⟩) (Kd.R_far (p := ⟨gb505, 2, none⟩) (Kd.R_far (p := ⟨gb505, 1, none⟩) (Kd.R_far (p := ⟨gb505, 0, none⟩) (Kd.R_types HO503.out BK505.out (by decide)) (fun _ hk => hk.2) (.int .i64 t494)) (fun _ hk => hk.2) (.int .i64 t495)) (fun _ hk => hk.2) (.bool t496)) (fun _ hk => hk.2) (.slice Ao24 t497.length co24)) (fun _ hk => hk.2) (.bool t500)) (fun _ hk => hk.2) (.slice Ao25 t501.length co25)) (fun _ h_ => h_.1)))); (case side4 => exact (Kd.R_reads' HO503.out).2.1); (case side5 => refine (Kd.R_reads' (e := 3) (base := w.heap.size) (ok := fun k_ => ((some k_ ≠ (.slice Ao11 t488.length co11 : Value).ownBlock ∧ some k_ ≠ (.slice Ao24 t497.length co24 : Value).ownBlock) ∧ some k_ ≠ (.slice Ao25 t501.length co25 : Value).ownBlock)) (n := t484.length) (c := co10) ?_).2.2; exact (by (with_reducible repeat (first | apply Kd.R_alloc | apply Kd.R_drewN | apply Kd.R_drew)); exact (Kd.R_mono (Kd.R_far (p := ⟨gb505, 5, none⟩) (Kd.R_far (p := ⟨gb505, 4, none⟩) (Kd.R_far (p := ⟨gb505, 3, none⟩) (Kd.R_far (p := ⟨gb505, 2, none⟩) (Kd.R_far (p := ⟨gb505, 1, none⟩) (Kd.R_far (p := ⟨gb505, 0, none⟩) (Kd.R_types HO_492003.out BK505.out (by decide)) (fun _ hk => hk.2) (.int .i64 t494)) (fun _ hk => hk.2) (.int .i64 t495)) (fun _ hk => hk.2) (.bool t496)) (fun _ hk => hk.2) (.slice Ao24 t497.length co24)) (fun _ hk => hk.2) (.bool t500)) (fun _ hk => hk.2) (.slice Ao25 t501.length co25)) (fun _ h_ => h_.1)))); (case side6 => exact (Kd.R_reads' HO_492003.out).2.1); (case side7 => refine (Kd.R_reads' (e := 3) (base := w.heap.size) (ok := fun k_ => ((some k_ ≠ (.slice Ao10 t484.length co10 : Value).ownBlock ∧ some k_ ≠ (.slice Ao24 t497.length co24 : Value).ownBlock) ∧ some k_ ≠ (.slice Ao25 t501.length co25 : Value).ownBlock)) (n := t488.length) (c := co11) ?_).2.2; exact (by (with_reducible repeat (first | apply Kd.R_alloc | apply Kd.R_drewN | apply Kd.R_drew)); exact (Kd.R_mono (Kd.R_far (p := ⟨gb505, 5, none⟩) (Kd.R_far (p := ⟨gb505, 4, none⟩) (Kd.R_far (p := ⟨gb505, 3, none⟩) (Kd.R_far (p := ⟨gb505, 2, none⟩) (Kd.R_far (p := ⟨gb505, 1, none⟩) (Kd.R_far (p := ⟨gb505, 0, none⟩) (Kd.R_types HO_492005.out BK505.out (by decide)) (fun _ hk => hk.2) (.int .i64 t494)) (fun _ hk => hk.2) (.int .i64 t495)) (fun _ hk => hk.2) (.bool t496)) (fun _ hk => hk.2) (.slice Ao24 t497.length co24)) (fun _ hk => hk.2) (.bool t500)) (fun _ hk => hk.2) (.slice Ao25 t501.length co25)) (fun _ h_ => h_.1)))); (case side8 => exact (Kd.R_reads' HO_492005.out).2.1); rintro e w27 ⟨rfl, hb⟩; have n0_ := Aside0.mk (Kd.R_below (by (with_reducible repeat (first | apply Kd.R_alloc | apply Kd.R_drewN | apply Kd.R_drew)); exact (Kd.R_mono (Kd.R_far (p := ⟨gb505, 5, none⟩) (Kd.R_far (p := ⟨gb505, 4, none⟩) (Kd.R_far (p := ⟨gb505, 3, none⟩) (Kd.R_far (p := ⟨gb505, 2, none⟩) (Kd.R_far (p := ⟨gb505, 1, none⟩) (Kd.R_far (p := ⟨gb505, 0, none⟩) (Kd.R_types HO_492003.out BK505.out (by decide)) (fun _ hk => hk.2) (.int .i64 t494)) (fun _ hk => hk.2) (.int .i64 t495)) (fun _ hk => hk.2) (.bool t496)) (fun _ hk => hk.2) (.slice Ao24 t497.length co24)) (fun _ hk => hk.2) (.bool t500)) (fun _ hk => hk.2) (.slice Ao25 t501.length co25)) (fun _ h_ => h_.1))) hb); have n1_ := Aside0.mk (Kd.R_below (by (with_reducible repeat (first | apply Kd.R_alloc | apply Kd.R_drewN | apply Kd.R_drew)); exact (Kd.R_mono (Kd.R_far (p := ⟨gb505, 5, none⟩) (Kd.R_far (p := ⟨gb505, 4, none⟩) (Kd.R_far (p := ⟨gb505, 3, none⟩) (Kd.R_far (p := ⟨gb505, 2, none⟩) (Kd.R_far (p := ⟨gb505, 1, none⟩) (Kd.R_far (p := ⟨gb505, 0, none⟩) (Kd.R_types HO_492005.out BK505.out (by decide)) (fun _ hk => hk.2) (.int .i64 t494)) (fun _ hk => hk.2) (.int .i64 t495)) (fun _ hk => hk.2) (.bool t496)) (fun _ hk => hk.2) (.slice Ao24 t497.length co24)) (fun _ hk => hk.2) (.bool t500)) (fun _ hk => hk.2) (.slice Ao25 t501.length co25)) (fun _ h_ => h_.1))) hb); have n2_ := Aside0.mk (Kd.R_below (by (with_reducible repeat (first | apply Kd.R_alloc | apply Kd.R_drewN | apply Kd.R_drew)); exact (Kd.R_mono (Kd.R_far (p := ⟨gb505, 5, none⟩) (Kd.R_far (p := ⟨gb505, 4, none⟩) (Kd.R_far (p := ⟨gb505, 3, none⟩) (Kd.R_far (p := ⟨gb505, 2, none⟩) (Kd.R_far (p := ⟨gb505, 1, none⟩) (Kd.R_far (p := ⟨gb505, 0, none⟩) (Kd.R_types HO499.out BK505.out (by decide)) (fun _ hk => hk.2) (.int .i64 t494)) (fun _ hk => hk.2) (.int .i64 t495)) (fun _ hk => hk.2) (.bool t496)) (fun _ hk => hk.2) (.slice Ao24 t497.length co24)) (fun _ hk => hk.2) (.bool t500)) (fun _ hk => hk.2) (.slice Ao25 t501.length co25)) (fun _ h_ => h_.1))) hb); have n3_ := Aside0.mk (Kd.R_below (by (with_reducible repeat (first | apply Kd.R_alloc | apply Kd.R_drewN | apply Kd.R_drew)); exact (Kd.R_mono (Kd.R_far (p := ⟨gb505, 5, none⟩) (Kd.R_far (p := ⟨gb505, 4, none⟩) (Kd.R_far (p := ⟨gb505, 3, none⟩) (Kd.R_far (p := ⟨gb505, 2, none⟩) (Kd.R_far (p := ⟨gb505, 1, none⟩) (Kd.R_far (p := ⟨gb505, 0, none⟩) (Kd.R_types HO503.out BK505.out (by decide)) (fun _ hk => hk.2) (.int .i64 t494)) (fun _ hk => hk.2) (.int .i64 t495)) (fun _ hk => hk.2) (.bool t496)) (fun _ hk => hk.2) (.slice Ao24 t497.length co24)) (fun _ hk => hk.2) (.bool t500)) (fun _ hk => hk.2) (.slice Ao25 t501.length co25)) (fun _ h_ => h_.1))) hb); have n4_ := Aside0.mk (blk_below (g := gb491) (o := .cells #[.int .i64 t481, .int .i64 t482, .bool t483, .slice Ao10 t484.length co10, .bool t487, .slice Ao11 t488.length co11] 27 (0, 0)) (by (with_reducible repeat (first | refine blk_drewN ?_ _ | refine blk_drew ?_ | refine blk_alloc ?_ _)); refine blk_far ?_ NB491_505.out _; (with_reducible repeat (first | refine blk_drewN ?_ _ | refine blk_drew ?_ | refine blk_alloc ?_ _)); refine blk_far ?_ NB491_505.out _; (with_reducible repeat (first | refine blk_drewN ?_ _ | refine blk_drew ?_ | refine blk_alloc ?_ _)); refine blk_far ?_ NB491_505.out _; (with_reducible repeat (first | refine blk_drewN ?_ _ | refine blk_drew ?_ | refine blk_alloc ?_ _)); refine blk_far ?_ NB491_505.out _; (with_reducible repeat (first | refine blk_drewN ?_ _ | refine blk_drew ?_ | refine blk_alloc ?_ _)); refine blk_far ?_ NB491_505.out _; (with_reducible repeat (first | refine blk_drewN ?_ _ | refine blk_drew ?_ | refine blk_alloc ?_ _)); refine blk_far ?_ NB491_505.out _; (with_reducible repeat (first | refine blk_drewN ?_ _ | refine blk_drew ?_ | refine blk_alloc ?_ _)); exact BK491.out) hb); have n5_ := Aside0.mk (blk_below (g := gb505) (o := .cells #[.int .i64 t494, .int .i64 t495, .bool t496, .slice Ao24 t497.length co24, .bool t500, .slice Ao25 t501.length co25] 27 (0, 0)) (by (with_reducible repeat (first | refine blk_drewN ?_ _ | refine blk_drew ?_ | refine blk_alloc ?_ _)); refine blk_put (cs := #[.int .i64 t494, .int .i64 t495, .bool t496, .slice Ao24 t497.length co24, .bool t500, .slice none 0 0]) ?_ 5 _ rfl; (with_reducible repeat (first | refine blk_drewN ?_ _ | refine blk_drew ?_ | refine blk_alloc ?_ _)); refine blk_put (cs := #[.int .i64 t494, .int .i64 t495, .bool t496, .slice Ao24 t497.length co24, .bool false, .slice none 0 0]) ?_ 4 _ rfl; (with_reducible repeat (first | refine blk_drewN ?_ _ | refine blk_drew ?_ | refine blk_alloc ?_ _)); refine blk_put (cs := #[.int .i64 t494, .int .i64 t495, .bool t496, .slice none 0 0, .bool false, .slice none 0 0]) ?_ 3 _ rfl; (with_reducible repeat (first | refine blk_drewN ?_ _ | refine blk_drew ?_ | refine blk_alloc ?_ _)); refine blk_put (cs := #[.int .i64 t494, .int .i64 t495, .bool false, .slice none 0 0, .bool false, .slice none 0 0]) ?_ 2 _ rfl; (with_reducible repeat (first | refine blk_drewN ?_ _ | refine blk_drew ?_ | refine blk_alloc ?_ _)); refine blk_put (cs := #[.int .i64 t494, .int .i64 0, .bool false, .slice none 0 0, .bool false, .slice none 0 0]) ?_ 1 _ rfl; (with_reducible repeat (first | refine blk_drewN ?_ _ | refine blk_drew ?_ | refine blk_alloc ?_ _)); refine blk_put (cs := #[.int .i64 0, .int .i64 0, .bool false, .slice none 0 0, .bool false, .slice none 0 0]) ?_ 0 _ rfl; (with_reducible repeat (first | refine blk_drewN ?_ _ | refine blk_drew ?_ | refine blk_alloc ?_ _)); exact BK505.out) hb); have n6_ := Aside0.mk (below_step (kB2 HB GE491 GE505) hb); clear HO_492003 HO_492005; clear HO499 HO503; clear BK491 BK505 HB; have HO_492003 := n0_; have HO_492005 := n1_; have HO499 := n2_; have HO503 := n3_; have BK491 := n4_; have BK505 := n5_; have HB := n6_; clear n0_ n1_ n2_ n3_ n4_ n5_ n6_; (try clear hb); (try clear hb2); (try clear hk); (try clear hi)))
      go_ret
      exact ⟨by first | rfl | (simp [errW_none, errW_some] <;> rfl) | (simp [*, errW_none, errW_some] <;> rfl), by repeat (first | (with_reducible first | exact HB.out | apply below_alloc | apply pw_below_drewN | apply below_drew1 | refine below_set ?_ GE491.out | refine below_set ?_ GE505.out) | exact HB.out)⟩
     ·replace c18 := Bool.eq_false_iff.mpr c18
      subst c18
      have H1 : (some false) = some r := by rw [if_neg (show ¬ (false = true) by decide)] at H; exact H
      clear H
      have H := H1
      clear H1
      obtain rfl := Option.some.inj H
      go_wp2_with (first | ((with_reducible refine gate_callee (f := 14) rfl ?_); refine goesL_ (some 29) rfl rfl Tryd.func14 (by kernel_rfl) rfl #[.string t492] rfl (by (try simp only [List.map_toArray, List.map_cons, List.map_nil]); first | done | rfl | (simp only [List.length_drop, List.length_take]; rfl)) ?_; (with_reducible refine (impl_RecordOf.calls kj5 t492 t494 t495 t496 t497 t500 t501 false _ ?side1 A17.out).mono ?_); (case side1 => refine GOKM.below HGM.out ?_; repeat (first | (with_reducible first | exact HB.out | apply below_alloc | apply pw_below_drewN | apply below_drew1 | refine below_set ?_ GE491.out) | exact HB.out)); rintro e w28 ⟨v498, v502, rfl, ho0, ho1, hb⟩; refine ⟨_, rfl, ?_⟩; have n0_ := Aside0.mk (Kd.R_mono (Kd.R_told (Kd.R_told (Kd.R_old (kr HO_492003) hb) (Kd.R_base ho0)) (Kd.R_base ho1)) (fun _ h_ => h_.1)); have n1_ := Aside0.mk (Kd.R_mono (Kd.R_told (Kd.R_told (Kd.R_old (kr HO_492005) hb) (Kd.R_base ho0)) (Kd.R_base ho1)) (fun _ h_ => h_.1)); have n2_ := Aside0.mk (Kd.R_lower (Kd.R_new' (Kd.R_new' ho0 (Kd.R_lt (kr HO_492003))) (Kd.R_lt (kr HO_492005))) (below_size (kB1 HB GE491))); have n3_ := Aside0.mk (Kd.R_lower (Kd.R_new' (Kd.R_new' ho1 (Kd.R_lt (kr HO_492003))) (Kd.R_lt (kr HO_492005))) (below_size (kB1 HB GE491))); have n4_ := Aside0.mk (blk_below (g := gb491) (o := .cells #[.int .i64 t481, .int .i64 t482, .bool t483, .slice Ao10 t484.length co10, .bool t487, .slice Ao11 t488.length co11] 27 (0, 0)) (kb BK491) hb); have n5_ := Aside0.mk (below_step (kB1 HB GE491) hb); clear HO_492003 HO_492005; clear BK491 HB; have HO_492003 := n0_; have HO_492005 := n1_; have HO499 := n2_; have HO503 := n3_; have BK491 := n4_; have HB := n5_; clear n0_ n1_ n2_ n3_ n4_ n5_; (try clear hb); (try clear hb2); (try clear hk); (try clear hi); (try clear ho0); (try clear ho1)) | ((with_reducible refine gate_dst (N := 6) rfl ?_); refine box_event ?hg (N := 6) ?hd (cs := #[.int .i64 0, .int .i64 0, .bool false, .slice none 0 0, .bool false, .slice none 0 0]) (t := 27) ?hr ?_; (case hd => rfl); (case hg => rfl); (case hr => first | (go_simp; done) | (go_simp; rfl)); intro gb505 hg w29 hbox hb; have n0_ := Aside0.mk (Kd.R_below (kr HO_492003) hb); have n1_ := Aside0.mk (Kd.R_below (kr HO_492005) hb); have n2_ := Aside0.mk (Kd.R_below (kr HO499) hb); have n3_ := Aside0.mk (Kd.R_below (kr HO503) hb); have n4_ := Aside0.mk (blk_below (g := gb491) (o := .cells #[.int .i64 t481, .int .i64 t482, .bool t483, .slice Ao10 t484.length co10, .bool t487, .slice Ao11 t488.length co11] 27 (0, 0)) (kb BK491) hb); have n5_ := Aside0.mk (below_step (kB1 HB GE491) hb); have n6_ := Aside0.mk (hbox); have n7_ := Aside0.mk ((by rw [hg]; exact (below_size (kB1 HB GE491)) : w.heap.size ≤ gb505)); have n8_ := Aside0.mk ((by rw [hg]; exact (below_size (kB1 HB GE491)) : w.heap.size ≤ gb505)); have n9_ := Aside0.mk ((by rw [hg]; exact Nat.ne_of_lt (blk_lt (g := gb491) (o := .cells #[.int .i64 t481, .int .i64 t482, .bool t483, .slice Ao10 t484.length co10, .bool t487, .slice Ao11 t488.length co11] 27 (0, 0)) (kb BK491)) : gb491 ≠ gb505)); have n10_ := Aside0.mk ((by rw [hg]; exact Nat.ne_of_gt (blk_lt (g := gb491) (o := .cells #[.int .i64 t481, .int .i64 t482, .bool t483, .slice Ao10 t484.length co10, .bool t487, .slice Ao11 t488.length co11] 27 (0, 0)) (kb BK491)) : gb505 ≠ gb491)); clear HO_492003 HO_492005; clear HO499 HO503; clear BK491 HB; have HO_492003 := n0_; have HO_492005 := n1_; have HO499 := n2_; have HO503 := n3_; have BK491 := n4_; have HB := n5_; have BK505 := n6_; have GW505 := n7_; have GE505 := n8_; have NB491_505 := n9_; have NB505_491 := n10_; clear n0_ n1_ n2_ n3_ n4_ n5_ n6_ n7_ n8_ n9_ n10_; clear hb hbox hg; have hnb30 := NB505_491.out; have hnc30 := NB491_505.out; have hcz31_0 : w29.cell? ⟨gb505, 0, none⟩ = some (.int .i64 0) := (blk_cell BK505.out 0).trans rfl; have hcz31_1 : w29.cell? ⟨gb505, 1, none⟩ = some (.int .i64 0) := (blk_cell BK505.out 1).trans rfl; have hcz31_2 : w29.cell? ⟨gb505, 2, none⟩ = some (.bool false) := (blk_cell BK505.out 2).trans rfl; have hcz31_3 : w29.cell? ⟨gb505, 3, none⟩ = some (.slice none 0 0) := (blk_cell BK505.out 3).trans rfl; have hcz31_4 : w29.cell? ⟨gb505, 4, none⟩ = some (.bool false) := (blk_cell BK505.out 4).trans rfl; have hcz31_5 : w29.cell? ⟨gb505, 5, none⟩ = some (.slice none 0 0) := (blk_cell BK505.out 5).trans rfl; have hfz31_0 := blk_frozen BK505.out 0; have hfz31_1 := blk_frozen BK505.out 1; have hfz31_2 := blk_frozen BK505.out 2; have hfz31_3 := blk_frozen BK505.out 3; have hfz31_4 := blk_frozen BK505.out 4; have hfz31_5 := blk_frozen BK505.out 5; obtain ⟨Ao32, co32, eo32⟩ := Kd.R_slice HO499.out; subst eo32; obtain ⟨Ao33, co33, eo33⟩ := Kd.R_slice HO503.out; subst eo33))
      go_ret
      exact ⟨by first | rfl | (simp [errW_none, errW_some] <;> rfl) | (simp [*, errW_none, errW_some] <;> rfl), by repeat (first | (with_reducible first | exact HB.out | apply below_alloc | apply pw_below_drewN | apply below_drew1 | refine below_set ?_ GE491.out | refine below_set ?_ GE505.out) | exact HB.out)⟩

/-- THE ONE PURE STATEMENT of laws_FnRecordText: yours. -/
def laws_FnRecordText.Pure : Prop := ∀ (l0 : List Int), l0.length ≤ maxLen → l0.length * 1 ≤ 140737488351232 → (∀ x ∈ l0, (Lit.int .u8 x).wf = true) → ∃ k, laws_FnRecordText.f k l0 = some true
theorem laws_FnRecordText.walk (P : laws_FnRecordText.Pure) (a0 : Option Addr) (len0 cap0 : Nat) (z0 : List Int) (w : World) (w0 : (a0 = none ∧ len0 = 0 ∧ cap0 = 0 ∧ z0 = []) ∨ ∃ x, a0 = some x ∧ len0 ≤ cap0 ∧ cap0 ≤ maxLen ∧ z0.length = cap0 ∧ (∀ i, i < z0.length → w.cell? (x.add i) = some (.int .u8 (z0.getD i 0))) ∧ ∀ n ∈ z0, (Lit.int .u8 n).wf = true) (y0 : len0 * 1 ≤ 140737488351232) (hGM : GOKM w) (hGT : GOKT w) :
  Calls Tryd.prog 6 #[.slice a0 len0 cap0] w fun e w' => e = .returned (.bool true) ∧ Below w.heap.size w w' := by
 obtain ⟨l0, rfl, hr0, hm0, hw0, hc0⟩ := ReadsInt.ofRowC w0
 obtain ⟨k, h⟩ := P l0 hm0 y0 hw0
 refine (laws_FnRecordText.calls k _ _ l0 true w (Kd.C_of_reads (d := (0 : Int)) (h1 := fun _ => rfl) hr0) hc0 hGM hGT h).mono ?_
 rintro e w' ⟨rfl, hd⟩
 exact ⟨rfl, hd⟩

end Go.Proofs.YtlijpnglocgldaaDoor.P
