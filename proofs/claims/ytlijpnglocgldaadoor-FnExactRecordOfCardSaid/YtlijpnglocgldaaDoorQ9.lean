-- Laid by wip/xprint.py and wip/resplit.py (programs of this session's over the kit's printer). Not trusted: Lean checks it.
import Derived.Test.YtlijpnglocgldaaDoorPx0
import Derived.Test.YtlijpnglocgldaaDoorShort
import Derived.Test.YtlijpnglocgldaaDoorQ3
import Derived.Test.YtlijpnglocgldaaDoorQ6
import Derived.Test.YtlijpnglocgldaaDoorERof
import Derived.Test.YtlijpnglocgldaaDoorGok
namespace Go.Proofs.YtlijpnglocgldaaDoor.P
open Go.RowKit Go.Proofs.YtlijpnglocgldaaDoorW.PrintWords Go.Proofs.YtlijpnglocgldaaDoorW.PrintLast Go.Proofs.YtlijpnglocgldaaDoorW.PrintMore
attribute [local go_sem] max2_int min2_int max_two min_two max_three min_three max_four min_four   -- for this text's walks alone
set_option linter.unusedVariables false
set_option linter.unusedSimpArgs false

/-! ### laws_FnExactRecordOf: function 4 -/
mutual
def laws_FnExactRecordOf.j0 : Nat → ByteArray → Bool → Bool → Int → Int → Bool → List Int → Bool → List Int → Int → Int → Bool → List Int → Bool → List Int → Option (Bool)
 | 0, _, _, _, _, _, _, _, _, _, _, _, _, _, _, _ => none
 | k + 1, x0, x4, x32, x274000, x274001, x274002, x274003, x274004, x274005, x286000, x286001, x286002, x286003, x286004, x286005 => if x32 = true then (some false) else ((laws_markRecord.f k x286000 x286001 x286002 x286003 x286004 x286005 1).bind fun bt287 => ((laws_heldRecord.f k x286000 x286001 x286002 bt287.2.1 x286004 bt287.2.2 1).bind fun t290 => (if t290 < 0 then (some false) else (if t290 = bt287.1 then ((impl_RecordOf.f k x0).bind fun bt291 => ((laws_eqRecord.f k bt291.1 bt291.2.1 bt291.2.2.1 bt291.2.2.2.1 bt291.2.2.2.2.1 bt291.2.2.2.2.2.1 x274000 x274001 x274002 x274003 x274004 x274005).bind fun t303 => (if t303 = true then (laws_FnExactRecordOf.j1 k bt287.1 (bt291.2.2.2.2.2.2 != x4) x286000 x286001 x286002 bt287.2.1 x286004 bt287.2.2) else (laws_FnExactRecordOf.j1 k bt287.1 true x286000 x286001 x286002 bt287.2.1 x286004 bt287.2.2)))) else (some false)))))
def laws_FnExactRecordOf.j1 : Nat → Int → Bool → Int → Int → Bool → List Int → Bool → List Int → Option (Bool)
 | 0, _, _, _, _, _, _, _, _ => none
 | k + 1, x7, x57, x286000, x286001, x286002, x286003, x286004, x286005 => if x57 = true then (some false) else ((laws_heldRecord.f k x286000 x286001 x286002 x286003 x286004 x286005 1).bind fun t304 => (if t304 < 0 then (some false) else (if t304 = x7 then (some true) else (some false))))
end
def laws_FnExactRecordOf.f (k : Nat) (a0 : ByteArray) : Option (Bool) := if (a0.size : Int) > 1048576 then (some true) else ((spec_RecordOf.f k a0).bind fun bt262 => ((impl_RecordOf.f k a0).bind fun bt274 => ((laws_eqRecord.f k bt274.1 bt274.2.1 bt274.2.2.1 bt274.2.2.2.1 bt274.2.2.2.2.1 bt274.2.2.2.2.2.1 bt262.1 bt262.2.1 bt262.2.2.1 bt262.2.2.2.1 bt262.2.2.2.2.1 bt262.2.2.2.2.2.1).bind fun t286 => (if t286 = true then (laws_FnExactRecordOf.j0 k a0 bt262.2.2.2.2.2.2 (bt274.2.2.2.2.2.2 != bt262.2.2.2.2.2.2) bt262.1 bt262.2.1 bt262.2.2.1 bt262.2.2.2.1 bt262.2.2.2.2.1 bt262.2.2.2.2.2.1 bt274.1 bt274.2.1 bt274.2.2.1 bt274.2.2.2.1 bt274.2.2.2.2.1 bt274.2.2.2.2.2.1) else (laws_FnExactRecordOf.j0 k a0 bt262.2.2.2.2.2.2 true bt262.1 bt262.2.1 bt262.2.2.1 bt262.2.2.2.1 bt262.2.2.2.2.1 bt262.2.2.2.2.2.1 bt274.1 bt274.2.1 bt274.2.2.1 bt274.2.2.2.1 bt274.2.2.2.2.1 bt274.2.2.2.2.2.1)))))
theorem laws_FnExactRecordOf.mono_l : ∀ k, (∀ y0 y1 y2 y3 y4 y5 y6 y7 y8 y9 y10 y11 y12 y13 y14, LeO (laws_FnExactRecordOf.j0 k y0 y1 y2 y3 y4 y5 y6 y7 y8 y9 y10 y11 y12 y13 y14) (laws_FnExactRecordOf.j0 (k + 1) y0 y1 y2 y3 y4 y5 y6 y7 y8 y9 y10 y11 y12 y13 y14)) ∧ (∀ y0 y1 y2 y3 y4 y5 y6 y7, LeO (laws_FnExactRecordOf.j1 k y0 y1 y2 y3 y4 y5 y6 y7) (laws_FnExactRecordOf.j1 (k + 1) y0 y1 y2 y3 y4 y5 y6 y7))
 | 0 => ⟨fun _ _ _ _ _ _ _ _ _ _ _ _ _ _ _ r h => by simp [laws_FnExactRecordOf.j0] at h, fun _ _ _ _ _ _ _ _ r h => by simp [laws_FnExactRecordOf.j1] at h⟩
 | k + 1 => by
  obtain ⟨ih0, ih1⟩ := laws_FnExactRecordOf.mono_l k
  refine ⟨?_, ?_⟩
  ·intro y0 y1 y2 y3 y4 y5 y6 y7 y8 y9 y10 y11 y12 y13 y14
   unfold laws_FnExactRecordOf.j0
   repeat' first
   | (with_reducible exact ih0 _ _ _ _ _ _ _ _ _ _ _ _ _ _ _)
   | (with_reducible exact ih1 _ _ _ _ _ _ _ _)
   | (with_reducible exact impl_RecordOf.mono _ _)
   | (with_reducible exact laws_eqRecord.mono _ _ _ _ _ _ _ _ _ _ _ _ _)
   | (with_reducible exact laws_heldRecord.mono _ _ _ _ _ _ _ _)
   | (with_reducible exact laws_markRecord.mono _ _ _ _ _ _ _ _)
   | (with_reducible exact spec_RecordOf.mono _ _)
   | (with_reducible exact LeO.refl _)
   | (with_reducible exact LeO.none _)
   | (with_reducible refine LeO.ite ?_ ?_)
   | (with_reducible refine LeO.bind ?_ (fun _ => ?_))
   | exact ih0 _ _ _ _ _ _ _ _ _ _ _ _ _ _ _
   | exact ih1 _ _ _ _ _ _ _ _
   | exact impl_RecordOf.mono _ _
   | exact laws_eqRecord.mono _ _ _ _ _ _ _ _ _ _ _ _ _
   | exact laws_heldRecord.mono _ _ _ _ _ _ _ _
   | exact laws_markRecord.mono _ _ _ _ _ _ _ _
   | exact spec_RecordOf.mono _ _
   | exact LeO.none _
   | refine LeO.ite ?_ ?_
   | refine LeO.bind ?_ (fun _ => ?_)
  ·intro y0 y1 y2 y3 y4 y5 y6 y7
   unfold laws_FnExactRecordOf.j1
   repeat' first
   | (with_reducible exact ih0 _ _ _ _ _ _ _ _ _ _ _ _ _ _ _)
   | (with_reducible exact ih1 _ _ _ _ _ _ _ _)
   | (with_reducible exact impl_RecordOf.mono _ _)
   | (with_reducible exact laws_eqRecord.mono _ _ _ _ _ _ _ _ _ _ _ _ _)
   | (with_reducible exact laws_heldRecord.mono _ _ _ _ _ _ _ _)
   | (with_reducible exact laws_markRecord.mono _ _ _ _ _ _ _ _)
   | (with_reducible exact spec_RecordOf.mono _ _)
   | (with_reducible exact LeO.refl _)
   | (with_reducible exact LeO.none _)
   | (with_reducible refine LeO.ite ?_ ?_)
   | (with_reducible refine LeO.bind ?_ (fun _ => ?_))
   | exact ih0 _ _ _ _ _ _ _ _ _ _ _ _ _ _ _
   | exact ih1 _ _ _ _ _ _ _ _
   | exact impl_RecordOf.mono _ _
   | exact laws_eqRecord.mono _ _ _ _ _ _ _ _ _ _ _ _ _
   | exact laws_heldRecord.mono _ _ _ _ _ _ _ _
   | exact laws_markRecord.mono _ _ _ _ _ _ _ _
   | exact spec_RecordOf.mono _ _
   | exact LeO.none _
   | refine LeO.ite ?_ ?_
   | refine LeO.bind ?_ (fun _ => ?_)
theorem laws_FnExactRecordOf.mono : ∀ a0 k, LeO (laws_FnExactRecordOf.f k a0) (laws_FnExactRecordOf.f (k + 1) a0) := by
 intro a0 k
 obtain ⟨ih0, ih1⟩ := laws_FnExactRecordOf.mono_l k
 unfold laws_FnExactRecordOf.f
 repeat' first
   | (with_reducible exact ih0 _ _ _ _ _ _ _ _ _ _ _ _ _ _ _)
   | (with_reducible exact ih1 _ _ _ _ _ _ _ _)
   | (with_reducible exact impl_RecordOf.mono _ _)
   | (with_reducible exact laws_eqRecord.mono _ _ _ _ _ _ _ _ _ _ _ _ _)
   | (with_reducible exact laws_heldRecord.mono _ _ _ _ _ _ _ _)
   | (with_reducible exact laws_markRecord.mono _ _ _ _ _ _ _ _)
   | (with_reducible exact spec_RecordOf.mono _ _)
   | (with_reducible exact LeO.refl _)
   | (with_reducible exact LeO.none _)
   | (with_reducible refine LeO.ite ?_ ?_)
   | (with_reducible refine LeO.bind ?_ (fun _ => ?_))
   | exact ih0 _ _ _ _ _ _ _ _ _ _ _ _ _ _ _
   | exact ih1 _ _ _ _ _ _ _ _
   | exact impl_RecordOf.mono _ _
   | exact laws_eqRecord.mono _ _ _ _ _ _ _ _ _ _ _ _ _
   | exact laws_heldRecord.mono _ _ _ _ _ _ _ _
   | exact laws_markRecord.mono _ _ _ _ _ _ _ _
   | exact spec_RecordOf.mono _ _
   | exact LeO.none _
   | refine LeO.ite ?_ ?_
   | refine LeO.bind ?_ (fun _ => ?_)
set_option maxHeartbeats 8000000 in
set_option maxRecDepth 100000 in
theorem laws_FnExactRecordOf.calls (k : Nat) (a0 : ByteArray) (r : Bool) (w : World) (hGM : GOKM w) (h : laws_FnExactRecordOf.f k a0 = some r) :
  Calls Tryd.prog 4 #[.string a0] w fun e w' => e = .returned (.bool r) ∧ Below w.heap.size w w' := by
 have hu27 := Tryd.underlying27
 have HB := Aside0.mk (Below.refl w.heap.size w)
 have HGM := Aside0.mk hGM
 clear hGM
 have H : (if (a0.size : Int) > 1048576 then (some true) else ((spec_RecordOf.f k a0).bind fun bt262 => ((impl_RecordOf.f k a0).bind fun bt274 => ((laws_eqRecord.f k bt274.1 bt274.2.1 bt274.2.2.1 bt274.2.2.2.1 bt274.2.2.2.2.1 bt274.2.2.2.2.2.1 bt262.1 bt262.2.1 bt262.2.2.1 bt262.2.2.2.1 bt262.2.2.2.2.1 bt262.2.2.2.2.2.1).bind fun t286 => (if t286 = true then (laws_FnExactRecordOf.j0 k a0 bt262.2.2.2.2.2.2 (bt274.2.2.2.2.2.2 != bt262.2.2.2.2.2.2) bt262.1 bt262.2.1 bt262.2.2.1 bt262.2.2.2.1 bt262.2.2.2.2.1 bt262.2.2.2.2.2.1 bt274.1 bt274.2.1 bt274.2.2.1 bt274.2.2.2.1 bt274.2.2.2.2.1 bt274.2.2.2.2.2.1) else (laws_FnExactRecordOf.j0 k a0 bt262.2.2.2.2.2.2 true bt262.1 bt262.2.1 bt262.2.2.1 bt262.2.2.2.1 bt262.2.2.2.2.1 bt262.2.2.2.2.2.1 bt274.1 bt274.2.1 bt274.2.2.1 bt274.2.2.2.1 bt274.2.2.2.2.1 bt274.2.2.2.2.2.1)))))) = some r := h
 clear h
 by_cases c2 : (a0.size : Int) > 1048576
 ·rw [if_pos c2] at H
  have c2b0 : decide (1048576 < (a0.size : Int)) = true := decide_eq_true c2
  have c2b1 : decide (1048576 < a0.size) = true := decide_eq_true (by omega)
  clear c2
  obtain rfl := Option.some.inj H
  go_enter Tryd.func4, Tryd.ntmps4
  go_wp2
  go_ret
  exact ⟨by first | rfl | (simp [errW_none, errW_some] <;> rfl) | (simp [*, errW_none, errW_some] <;> rfl), by repeat (first | (with_reducible first | exact HB.out | apply below_alloc | apply pw_below_drewN | apply below_drew1) | exact HB.out)⟩
 ·rw [if_neg c2] at H
  have c2b0 : decide (1048576 < (a0.size : Int)) = false := decide_eq_false c2
  have c2b1 : decide (1048576 < a0.size) = false := decide_eq_false (by omega)
  clear c2
  replace H := Option.bind_eq_some_iff.mp H
  obtain ⟨⟨t262, t263, t264, t265, t268, t269, t272⟩, A30, H⟩ := H
  replace H : ((impl_RecordOf.f k a0).bind fun bt274 => ((laws_eqRecord.f k bt274.1 bt274.2.1 bt274.2.2.1 bt274.2.2.2.1 bt274.2.2.2.2.1 bt274.2.2.2.2.2.1 t262 t263 t264 t265 t268 t269).bind fun t286 => (if t286 = true then (laws_FnExactRecordOf.j0 k a0 t272 (bt274.2.2.2.2.2.2 != t272) t262 t263 t264 t265 t268 t269 bt274.1 bt274.2.1 bt274.2.2.1 bt274.2.2.2.1 bt274.2.2.2.2.1 bt274.2.2.2.2.2.1) else (laws_FnExactRecordOf.j0 k a0 t272 true t262 t263 t264 t265 t268 t269 bt274.1 bt274.2.1 bt274.2.2.1 bt274.2.2.2.1 bt274.2.2.2.2.1 bt274.2.2.2.2.2.1)))) = some r := H
  have A3 := Aside0.mk A30
  clear A30
  replace H := Option.bind_eq_some_iff.mp H
  obtain ⟨⟨t274, t275, t276, t277, t280, t281, t284⟩, A40, H⟩ := H
  replace H : ((laws_eqRecord.f k t274 t275 t276 t277 t280 t281 t262 t263 t264 t265 t268 t269).bind fun t286 => (if t286 = true then (laws_FnExactRecordOf.j0 k a0 t272 (t284 != t272) t262 t263 t264 t265 t268 t269 t274 t275 t276 t277 t280 t281) else (laws_FnExactRecordOf.j0 k a0 t272 true t262 t263 t264 t265 t268 t269 t274 t275 t276 t277 t280 t281))) = some r := H
  have A4 := Aside0.mk A40
  clear A40
  have HC5 := Aside0.mk H
  clear H
  go_enter Tryd.func4, Tryd.ntmps4
  go_upto_region 5 with (first | ((with_reducible refine gate_callee (f := 13) rfl ?_); refine goesL_ (some 16) rfl rfl Tryd.func13 (by kernel_rfl) rfl #[.string a0] rfl (by (try simp only [List.map_toArray, List.map_cons, List.map_nil]); first | done | rfl | (simp only [List.length_drop, List.length_take]; rfl)) ?_; (with_reducible refine (spec_RecordOf.calls k a0 t262 t263 t264 t265 t268 t269 t272 _ A3.out).mono ?_); rintro e w6 ⟨v266, v270, rfl, ho0, ho1, hb⟩; refine ⟨_, rfl, ?_⟩; have n0_ := Aside0.mk (Kd.R_lower ho0 (below_size (kB0 HB))); have n1_ := Aside0.mk (Kd.R_lower ho1 (below_size (kB0 HB))); have n2_ := Aside0.mk (below_step (kB0 HB) hb); clear HB; have HO267 := n0_; have HO271 := n1_; have HB := n2_; clear n0_ n1_ n2_; (try clear hb); (try clear hb2); (try clear hk); (try clear hi); (try clear ho0); (try clear ho1)) | ((with_reducible refine gate_dst (N := 3) rfl ?_); refine box_event ?hg (N := 3) ?hd (cs := #[.int .i64 0, .int .i64 0, .bool false, .slice none 0 0, .bool false, .slice none 0 0]) (t := 27) ?hr ?_; (case hd => rfl); (case hg => rfl); (case hr => first | (go_simp; done) | (go_simp; rfl)); intro gb273 hg w7 hbox hb; have n0_ := Aside0.mk (Kd.R_below (kr HO267) hb); have n1_ := Aside0.mk (Kd.R_below (kr HO271) hb); have n2_ := Aside0.mk (below_step (kB0 HB) hb); have n3_ := Aside0.mk (hbox); have n4_ := Aside0.mk ((by rw [hg]; exact (below_size (kB0 HB)) : w.heap.size ≤ gb273)); have n5_ := Aside0.mk ((by rw [hg]; exact (below_size (kB0 HB)) : w.heap.size ≤ gb273)); clear HO267 HO271 HB; have HO267 := n0_; have HO271 := n1_; have HB := n2_; have BK273 := n3_; have GW273 := n4_; have GE273 := n5_; clear n0_ n1_ n2_ n3_ n4_ n5_; clear hb hbox hg; have hcz8_0 : w7.cell? ⟨gb273, 0, none⟩ = some (.int .i64 0) := (blk_cell BK273.out 0).trans rfl; have hcz8_1 : w7.cell? ⟨gb273, 1, none⟩ = some (.int .i64 0) := (blk_cell BK273.out 1).trans rfl; have hcz8_2 : w7.cell? ⟨gb273, 2, none⟩ = some (.bool false) := (blk_cell BK273.out 2).trans rfl; have hcz8_3 : w7.cell? ⟨gb273, 3, none⟩ = some (.slice none 0 0) := (blk_cell BK273.out 3).trans rfl; have hcz8_4 : w7.cell? ⟨gb273, 4, none⟩ = some (.bool false) := (blk_cell BK273.out 4).trans rfl; have hcz8_5 : w7.cell? ⟨gb273, 5, none⟩ = some (.slice none 0 0) := (blk_cell BK273.out 5).trans rfl; have hfz8_0 := blk_frozen BK273.out 0; have hfz8_1 := blk_frozen BK273.out 1; have hfz8_2 := blk_frozen BK273.out 2; have hfz8_3 := blk_frozen BK273.out 3; have hfz8_4 := blk_frozen BK273.out 4; have hfz8_5 := blk_frozen BK273.out 5; obtain ⟨Ao9, co9, eo9⟩ := Kd.R_slice HO267.out; subst eo9; obtain ⟨Ao10, co10, eo10⟩ := Kd.R_slice HO271.out; subst eo10) | ((with_reducible refine gate_callee (f := 14) rfl ?_); refine goesL_ (some 21) rfl rfl Tryd.func14 (by kernel_rfl) rfl #[.string a0] rfl (by (try simp only [List.map_toArray, List.map_cons, List.map_nil]); first | done | rfl | (simp only [List.length_drop, List.length_take]; rfl)) ?_; (with_reducible refine (impl_RecordOf.calls k a0 t274 t275 t276 t277 t280 t281 t284 _ ?side1 A4.out).mono ?_); (case side1 => refine GOKM.below HGM.out ?_; repeat (first | (with_reducible first | exact HB.out | apply below_alloc | apply pw_below_drewN | apply below_drew1 | refine below_set ?_ GE273.out) | exact HB.out)); rintro e w11 ⟨v278, v282, rfl, ho0, ho1, hb⟩; refine ⟨_, rfl, ?_⟩; have n0_ := Aside0.mk (Kd.R_mono (Kd.R_told (Kd.R_told (Kd.R_old (by (with_reducible repeat (first | apply Kd.R_alloc | apply Kd.R_drewN | apply Kd.R_drew)); exact (Kd.R_mono (Kd.R_far (p := ⟨gb273, 5, none⟩) (Kd.R_far (p := ⟨gb273, 4, none⟩) (Kd.R_far (p := ⟨gb273, 3, none⟩) (Kd.R_far (p := ⟨gb273, 2, none⟩) (Kd.R_far (p := ⟨gb273, 1, none⟩) (Kd.R_far (p := ⟨gb273, 0, none⟩) (Kd.R_types HO267.out BK273.out (by decide)) (fun _ hk => hk.2) (.int .i64 t262)) (fun _ hk => hk.2) (.int .i64 t263)) (fun _ hk => hk.2) (.bool t264)) (fun _ hk => hk.2) (.slice Ao9 t265.length co9)) (fun _ hk => hk.2) (.bool t268)) (fun _ hk => hk.2) (.slice Ao10 t269.length co10)) (fun _ h_ => h_.1))) hb) (Kd.R_base ho0)) (Kd.R_base ho1)) (fun _ h_ => h_.1)); have n1_ := Aside0.mk (Kd.R_mono (Kd.R_told (Kd.R_told (Kd.R_old (by (with_reducible repeat (first | apply Kd.R_alloc | apply Kd.R_drewN | apply Kd.R_drew)); exact (Kd.R_mono (Kd.R_far (p := ⟨gb273, 5, none⟩) (Kd.R_far (p := ⟨gb273, 4, none⟩) (Kd.R_far (p := ⟨gb273, 3, none⟩) (Kd.R_far (p := ⟨gb273, 2, none⟩) (Kd.R_far (p := ⟨gb273, 1, none⟩) (Kd.R_far (p := ⟨gb273, 0, none⟩) (Kd.R_types HO271.out BK273.out (by decide)) (fun _ hk => hk.2) (.int .i64 t262)) (fun _ hk => hk.2) (.int .i64 t263)) (fun _ hk => hk.2) (.bool t264)) (fun _ hk => hk.2) (.slice Ao9 t265.length co9)) (fun _ hk => hk.2) (.bool t268)) (fun _ hk => hk.2) (.slice Ao10 t269.length co10)) (fun _ h_ => h_.1))) hb) (Kd.R_base ho0)) (Kd.R_base ho1)) (fun _ h_ => h_.1)); have n2_ := Aside0.mk (Kd.R_lower (Kd.R_new' (Kd.R_new' ho0 (Kd.R_lt (by (with_reducible repeat (first | apply Kd.R_alloc | apply Kd.R_drewN | apply Kd.R_drew)); exact (Kd.R_mono (Kd.R_far (p := ⟨gb273, 5, none⟩) (Kd.R_far (p := ⟨gb273, 4, none⟩) (Kd.R_far (p := ⟨gb273, 3, none⟩) (Kd.R_far (p := ⟨gb273, 2, none⟩) (Kd.R_far (p := ⟨gb273, 1, none⟩) (Kd.R_far (p := ⟨gb273, 0, none⟩) (Kd.R_types HO267.out BK273.out (by decide)) (fun _ hk => hk.2) (.int .i64 t262)) (fun _ hk => hk.2) (.int .i64 t263)) (fun _ hk => hk.2) (.bool t264)) (fun _ hk => hk.2) (.slice Ao9 t265.length co9)) (fun _ hk => hk.2) (.bool t268)) (fun _ hk => hk.2) (.slice Ao10 t269.length co10)) (fun _ h_ => h_.1))))) (Kd.R_lt (by (with_reducible repeat (first | apply Kd.R_alloc | apply Kd.R_drewN | apply Kd.R_drew)); exact (Kd.R_mono (Kd.R_far (p := ⟨gb273, 5, none⟩) (Kd.R_far (p := ⟨gb273, 4, none⟩) (Kd.R_far (p := ⟨gb273, 3, none⟩) (Kd.R_far (p := ⟨gb273, 2, none⟩) (Kd.R_far (p := ⟨gb273, 1, none⟩) (Kd.R_far (p := ⟨gb273, 0, none⟩) (Kd.R_types HO271.out BK273.out (by decide)) (fun _ hk => hk.2) (.int .i64 t262)) (fun _ hk => hk.2) (.int .i64 t263)) (fun _ hk => hk.2) (.bool t264)) (fun _ hk => hk.2) (.slice Ao9 t265.length co9)) (fun _ hk => hk.2) (.bool t268)) (fun _ hk => hk.2) (.slice Ao10 t269.length co10)) (fun _ h_ => h_.1))))) (below_size (kB1 HB GE273))); have n3_ := Aside0.mk (Kd.R_lower (Kd.R_new' (Kd.R_new' ho1 (Kd.R_lt (by (with_reducible repeat (first | apply Kd.R_alloc | apply Kd.R_drewN | apply Kd.R_drew)); exact (Kd.R_mono (Kd.R_far (p := ⟨gb273, 5, none⟩) (Kd.R_far (p := ⟨gb273, 4, none⟩) (Kd.R_far (p := ⟨gb273, 3, none⟩) (Kd.R_far (p := ⟨gb273, 2, none⟩) (Kd.R_far (p := ⟨gb273, 1, none⟩) (Kd.R_far (p := ⟨gb273, 0, none⟩) (Kd.R_types HO267.out BK273.out (by decide)) (fun _ hk => hk.2) (.int .i64 t262)) (fun _ hk => hk.2) (.int .i64 t263)) (fun _ hk => hk.2) (.bool t264)) (fun _ hk => hk.2) (.slice Ao9 t265.length co9)) (fun _ hk => hk.2) (.bool t268)) (fun _ hk => hk.2) (.slice Ao10 t269.length co10)) (fun _ h_ => h_.1))))) (Kd.R_lt (by (with_reducible repeat (first | apply Kd.R_alloc | apply Kd.R_drewN | apply Kd.R_drew)); exact (Kd.R_mono (Kd.R_far (p := ⟨gb273, 5, none⟩) (Kd.R_far (p := ⟨gb273, 4, none⟩) (Kd.R_far (p := ⟨gb273, 3, none⟩) (Kd.R_far (p := ⟨gb273, 2, none⟩) (Kd.R_far (p := ⟨gb273, 1, none⟩) (Kd.R_far (p := ⟨gb273, 0, none⟩) (Kd.R_types HO271.out BK273.out (by decide)) (fun _ hk => hk.2) (.int .i64 t262)) (fun _ hk => hk.2) (.int .i64 t263)) (fun _ hk => hk.2) (.bool t264)) (fun _ hk => hk.2) (.slice Ao9 t265.length co9)) (fun _ hk => hk.2) (.bool t268)) (fun _ hk => hk.2) (.slice Ao10 t269.length co10)) (fun _ h_ => h_.1))))) (below_size (kB1 HB GE273))); have n4_ := Aside0.mk (blk_below (g := gb273) (o := .cells #[.int .i64 t262, .int .i64 t263, .bool t264, .slice Ao9 t265.length co9, .bool t268, .slice Ao10 t269.length co10] 27 (0, 0)) (by (with_reducible repeat (first | refine blk_drewN ?_ _ | refine blk_drew ?_ | refine blk_alloc ?_ _)); refine blk_put (cs := #[.int .i64 t262, .int .i64 t263, .bool t264, .slice Ao9 t265.length co9, .bool t268, .slice none 0 0]) ?_ 5 _ rfl; (with_reducible repeat (first | refine blk_drewN ?_ _ | refine blk_drew ?_ | refine blk_alloc ?_ _)); refine blk_put (cs := #[.int .i64 t262, .int .i64 t263, .bool t264, .slice Ao9 t265.length co9, .bool false, .slice none 0 0]) ?_ 4 _ rfl; (with_reducible repeat (first | refine blk_drewN ?_ _ | refine blk_drew ?_ | refine blk_alloc ?_ _)); refine blk_put (cs := #[.int .i64 t262, .int .i64 t263, .bool t264, .slice none 0 0, .bool false, .slice none 0 0]) ?_ 3 _ rfl; (with_reducible repeat (first | refine blk_drewN ?_ _ | refine blk_drew ?_ | refine blk_alloc ?_ _)); refine blk_put (cs := #[.int .i64 t262, .int .i64 t263, .bool false, .slice none 0 0, .bool false, .slice none 0 0]) ?_ 2 _ rfl; (with_reducible repeat (first | refine blk_drewN ?_ _ | refine blk_drew ?_ | refine blk_alloc ?_ _)); refine blk_put (cs := #[.int .i64 t262, .int .i64 0, .bool false, .slice none 0 0, .bool false, .slice none 0 0]) ?_ 1 _ rfl; (with_reducible repeat (first | refine blk_drewN ?_ _ | refine blk_drew ?_ | refine blk_alloc ?_ _)); refine blk_put (cs := #[.int .i64 0, .int .i64 0, .bool false, .slice none 0 0, .bool false, .slice none 0 0]) ?_ 0 _ rfl; (with_reducible repeat (first | refine blk_drewN ?_ _ | refine blk_drew ?_ | refine blk_alloc ?_ _)); exact BK273.out) hb); have n5_ := Aside0.mk (below_step (kB1 HB GE273) hb); clear HO267 HO271; clear BK273 HB; have HO267 := n0_; have HO271 := n1_; have HO279 := n2_; have HO283 := n3_; have BK273 := n4_; have HB := n5_; clear n0_ n1_ n2_ n3_ n4_ n5_; (try clear hb); (try clear hb2); (try clear hk); (try clear hi); (try clear ho0); (try clear ho1)) | ((with_reducible refine gate_dst (N := 5) rfl ?_); refine box_event ?hg (N := 5) ?hd (cs := #[.int .i64 0, .int .i64 0, .bool false, .slice none 0 0, .bool false, .slice none 0 0]) (t := 27) ?hr ?_; (case hd => rfl); (case hg => rfl); (case hr => first | (go_simp; done) | (go_simp; rfl)); intro gb285 hg w12 hbox hb; have n0_ := Aside0.mk (Kd.R_below (kr HO267) hb); have n1_ := Aside0.mk (Kd.R_below (kr HO271) hb); have n2_ := Aside0.mk (Kd.R_below (kr HO279) hb); have n3_ := Aside0.mk (Kd.R_below (kr HO283) hb); have n4_ := Aside0.mk (blk_below (g := gb273) (o := .cells #[.int .i64 t262, .int .i64 t263, .bool t264, .slice Ao9 t265.length co9, .bool t268, .slice Ao10 t269.length co10] 27 (0, 0)) (kb BK273) hb); have n5_ := Aside0.mk (below_step (kB1 HB GE273) hb); have n6_ := Aside0.mk (hbox); have n7_ := Aside0.mk ((by rw [hg]; exact (below_size (kB1 HB GE273)) : w.heap.size ≤ gb285)); have n8_ := Aside0.mk ((by rw [hg]; exact (below_size (kB1 HB GE273)) : w.heap.size ≤ gb285)); have n9_ := Aside0.mk ((by rw [hg]; exact Nat.ne_of_lt (blk_lt (g := gb273) (o := .cells #[.int .i64 t262, .int .i64 t263, .bool t264, .slice Ao9 t265.length co9, .bool t268, .slice Ao10 t269.length co10] 27 (0, 0)) (kb BK273)) : gb273 ≠ gb285)); have n10_ := Aside0.mk ((by rw [hg]; exact Nat.ne_of_gt (blk_lt (g := gb273) (o := .cells #[.int .i64 t262, .int .i64 t263, .bool t264, .slice Ao9 t265.length co9, .bool t268, .slice Ao10 t269.length co10] 27 (0, 0)) (kb BK273)) : gb285 ≠ gb273)); clear HO267 HO271; clear HO279 HO283; clear BK273 HB; have HO267 := n0_; have HO271 := n1_; have HO279 := n2_; have HO283 := n3_; have BK273 := n4_; have HB := n5_; have BK285 := n6_; have GW285 := n7_; have GE285 := n8_; have NB273_285 := n9_; have NB285_273 := n10_; clear n0_ n1_ n2_ n3_ n4_ n5_ n6_ n7_ n8_ n9_ n10_; clear hb hbox hg; have hnb13 := NB285_273.out; have hnc13 := NB273_285.out; have hcz14_0 : w12.cell? ⟨gb285, 0, none⟩ = some (.int .i64 0) := (blk_cell BK285.out 0).trans rfl; have hcz14_1 : w12.cell? ⟨gb285, 1, none⟩ = some (.int .i64 0) := (blk_cell BK285.out 1).trans rfl; have hcz14_2 : w12.cell? ⟨gb285, 2, none⟩ = some (.bool false) := (blk_cell BK285.out 2).trans rfl; have hcz14_3 : w12.cell? ⟨gb285, 3, none⟩ = some (.slice none 0 0) := (blk_cell BK285.out 3).trans rfl; have hcz14_4 : w12.cell? ⟨gb285, 4, none⟩ = some (.bool false) := (blk_cell BK285.out 4).trans rfl; have hcz14_5 : w12.cell? ⟨gb285, 5, none⟩ = some (.slice none 0 0) := (blk_cell BK285.out 5).trans rfl; have hfz14_0 := blk_frozen BK285.out 0; have hfz14_1 := blk_frozen BK285.out 1; have hfz14_2 := blk_frozen BK285.out 2; have hfz14_3 := blk_frozen BK285.out 3; have hfz14_4 := blk_frozen BK285.out 4; have hfz14_5 := blk_frozen BK285.out 5; obtain ⟨Ao15, co15, eo15⟩ := Kd.R_slice HO279.out; subst eo15; obtain ⟨Ao16, co16, eo16⟩ := Kd.R_slice HO283.out; subst eo16))
  (try simp only [Act.put, List.setIfInBounds_toArray, List.set_cons_zero, List.set_cons_succ])
  go_cut [32] (fun v32 wc => ∃ (kq : Nat) (x32_4 : Bool), v32 = .bool x32_4 ∧ Aside0 (laws_FnExactRecordOf.j0 kq a0 t272 x32_4 t262 t263 t264 t265 t268 t269 t274 t275 t276 t277 t280 t281 = some r) ∧ Aside0 (kq ≤ k) ∧ Aside0 (Kd.R (Kd.int .i64) 3 wc w.heap.size (fun k_ => some k_ ≠ ((.slice Ao10 t269.length co10) : Value).ownBlock ∧ some k_ ≠ ((.slice Ao15 t277.length co15) : Value).ownBlock ∧ some k_ ≠ ((.slice Ao16 t281.length co16) : Value).ownBlock) (.slice Ao9 t265.length co9) t265) ∧ Aside0 (Kd.R (Kd.int .i64) 3 wc w.heap.size (fun k_ => some k_ ≠ ((.slice Ao9 t265.length co9) : Value).ownBlock ∧ some k_ ≠ ((.slice Ao15 t277.length co15) : Value).ownBlock ∧ some k_ ≠ ((.slice Ao16 t281.length co16) : Value).ownBlock) (.slice Ao10 t269.length co10) t269) ∧ Aside0 (Kd.R (Kd.int .i64) 3 wc w.heap.size (fun k_ => some k_ ≠ ((.slice Ao9 t265.length co9) : Value).ownBlock ∧ some k_ ≠ ((.slice Ao10 t269.length co10) : Value).ownBlock ∧ some k_ ≠ ((.slice Ao16 t281.length co16) : Value).ownBlock) (.slice Ao15 t277.length co15) t277) ∧ Aside0 (Kd.R (Kd.int .i64) 3 wc w.heap.size (fun k_ => some k_ ≠ ((.slice Ao9 t265.length co9) : Value).ownBlock ∧ some k_ ≠ ((.slice Ao10 t269.length co10) : Value).ownBlock ∧ some k_ ≠ ((.slice Ao15 t277.length co15) : Value).ownBlock) (.slice Ao16 t281.length co16) t281) ∧ Aside0 (wc.heap[gb273]? = some (.cells #[.int .i64 t262, .int .i64 t263, .bool t264, (.slice Ao9 t265.length co9), .bool t268, (.slice Ao10 t269.length co10)] 27 (0, 0))) ∧ Aside0 (wc.heap[gb285]? = some (.cells #[.int .i64 t274, .int .i64 t275, .bool t276, (.slice Ao15 t277.length co15), .bool t280, (.slice Ao16 t281.length co16)] 27 (0, 0))) ∧ Aside0 (Below w.heap.size w wc))
  case first =>
   have H := HC5.out
   clear HC5
   replace H := Option.bind_eq_some_iff.mp H
   obtain ⟨t286, A170, H⟩ := H
   replace H : (if t286 = true then (laws_FnExactRecordOf.j0 k a0 t272 (t284 != t272) t262 t263 t264 t265 t268 t269 t274 t275 t276 t277 t280 t281) else (laws_FnExactRecordOf.j0 k a0 t272 true t262 t263 t264 t265 t268 t269 t274 t275 t276 t277 t280 t281)) = some r := H
   have A17 := Aside0.mk A170
   clear A170
   by_cases c18 : t286 = true
   ·subst c18
    have H1 : (laws_FnExactRecordOf.j0 k a0 t272 (t284 != t272) t262 t263 t264 t265 t268 t269 t274 t275 t276 t277 t280 t281) = some r := by rw [if_pos rfl] at H; exact H
    clear H
    have H := H1
    clear H1
    have H' := Aside0.mk H
    clear H
    have hnb19 := NB285_273.out
    have hnc19 := NB273_285.out
    have hcz20_0 : w12.cell? ⟨gb285, 0, none⟩ = some (.int .i64 0) := (blk_cell BK285.out 0).trans rfl
    have hcz20_1 : w12.cell? ⟨gb285, 1, none⟩ = some (.int .i64 0) := (blk_cell BK285.out 1).trans rfl
    have hcz20_2 : w12.cell? ⟨gb285, 2, none⟩ = some (.bool false) := (blk_cell BK285.out 2).trans rfl
    have hcz20_3 : w12.cell? ⟨gb285, 3, none⟩ = some (.slice none 0 0) := (blk_cell BK285.out 3).trans rfl
    have hcz20_4 : w12.cell? ⟨gb285, 4, none⟩ = some (.bool false) := (blk_cell BK285.out 4).trans rfl
    have hcz20_5 : w12.cell? ⟨gb285, 5, none⟩ = some (.slice none 0 0) := (blk_cell BK285.out 5).trans rfl
    have hfz20_0 := blk_frozen BK285.out 0
    have hfz20_1 := blk_frozen BK285.out 1
    have hfz20_2 := blk_frozen BK285.out 2
    have hfz20_3 := blk_frozen BK285.out 3
    have hfz20_4 := blk_frozen BK285.out 4
    have hfz20_5 := blk_frozen BK285.out 5
    have hcz21_0 : w12.cell? ⟨gb273, 0, none⟩ = some (.int .i64 t262) := (blk_cell BK273.out 0).trans rfl
    have hcz21_1 : w12.cell? ⟨gb273, 1, none⟩ = some (.int .i64 t263) := (blk_cell BK273.out 1).trans rfl
    have hcz21_2 : w12.cell? ⟨gb273, 2, none⟩ = some (.bool t264) := (blk_cell BK273.out 2).trans rfl
    have hcz21_3 : w12.cell? ⟨gb273, 3, none⟩ = some (.slice Ao9 t265.length co9) := (blk_cell BK273.out 3).trans rfl
    have hcz21_4 : w12.cell? ⟨gb273, 4, none⟩ = some (.bool t268) := (blk_cell BK273.out 4).trans rfl
    have hcz21_5 : w12.cell? ⟨gb273, 5, none⟩ = some (.slice Ao10 t269.length co10) := (blk_cell BK273.out 5).trans rfl
    have hfz21_0 := blk_frozen BK273.out 0
    have hfz21_1 := blk_frozen BK273.out 1
    have hfz21_2 := blk_frozen BK273.out 2
    have hfz21_3 := blk_frozen BK273.out 3
    have hfz21_4 := blk_frozen BK273.out 4
    have hfz21_5 := blk_frozen BK273.out 5
    go_wp2_with (first | ((with_reducible refine gate_callee (f := 12) rfl ?_); refine goesL_ (some 26) rfl rfl Tryd.func12 (by kernel_rfl) rfl #[.agg #[.int .i64 t274, .int .i64 t275, .bool t276, .slice Ao15 t277.length co15, .bool t280, .slice Ao16 t281.length co16], .agg #[.int .i64 t262, .int .i64 t263, .bool t264, .slice Ao9 t265.length co9, .bool t268, .slice Ao10 t269.length co10]] rfl (by (try simp only [List.map_toArray, List.map_cons, List.map_nil]); first | done | rfl | (simp only [List.length_drop, List.length_take]; rfl)) ?_; (with_reducible refine (laws_eqRecord.calls k t274 t275 t276 _ _ t277 t280 _ _ t281 t262 t263 t264 _ _ t265 t268 _ _ t269 true _ ?side1 ?side2 ?side3 ?side4 ?side5 ?side6 ?side7 ?side8 A17.out).mono ?_); (case side1 => refine (Kd.R_reads' (e := 3) (base := w.heap.size) (ok := fun k_ => ((some k_ ≠ (.slice Ao16 t281.length co16 : Value).ownBlock ∧ some k_ ≠ (.slice Ao9 t265.length co9 : Value).ownBlock) ∧ some k_ ≠ (.slice Ao10 t269.length co10 : Value).ownBlock)) (n := t277.length) (c := co15) ?_).2.2; exact (by (with_reducible repeat (first | apply Kd.R_alloc | apply Kd.R_drewN | apply Kd.R_drew)); exact (Kd.R_mono (Kd.R_far (p := ⟨gb285, 5, none⟩) (Kd.R_far (p := ⟨gb285, 4, none⟩) (Kd.R_far (p := ⟨gb285, 3, none⟩) (Kd.R_far (p := ⟨gb285, 2, none⟩) (Kd.R_far (p := ⟨gb285, 1, none⟩) (Kd.R_far (p := ⟨gb285, 0, none⟩) (Kd.R_types HO279.out BK285.out (by decide)) (fun _ hk => hk.2) (.int .i64 t274)) (fun _ hk => hk.2) (.int .i64 t275)) (fun _ hk => hk.2) (.bool t276)) (fun _ hk => hk.2) (.slice Ao15 t277.length co15)) (fun _ hk => hk.2) (.bool t280)) (fun _ hk => hk.2) (.slice Ao16 t281.length co16)) (fun _ h_ => h_.1)))); (case side2 => exact (Kd.R_reads' HO279.out).2.1); (case side3 => refine (Kd.R_reads' (e := 3) (base := w.heap.size) (ok := fun k_ => ((some k_ ≠ (.slice Ao15 t277.length co15 : Value).ownBlock ∧ some k_ ≠ (.slice Ao9 t265.length co9 : Value).ownBlock) ∧ some k_ ≠ (.slice Ao10 t269.length co10 : Value).ownBlock)) (n := t281.length) (c := co16) ?_).2.2; exact (by (with_reducible repeat (first | apply Kd.R_alloc | apply Kd.R_drewN | apply Kd.R_drew)); exact (Kd.R_mono (Kd.R_far (p := ⟨gb285, 5, none⟩) (Kd.R_far (p := ⟨gb285, 4, none⟩) (Kd.R_far (p := ⟨gb285, 3, none⟩) (Kd.R_far (p := ⟨gb285, 2, none⟩) (Kd.R_far (p := ⟨gb285, 1, none⟩) (Kd.R_far (p := ⟨gb285, 0, none⟩) (Kd.R_types HO283.out BK285.out (by decide)) (fun _ hk => hk.2) (.int .i64 t274)) (fun _ hk => hk.2) (.int .i64 t275)) (fun _ hk => hk.2) (.bool t276)) (fun _ hk => hk.2) (.slice Ao15 t277.length co15)) (fun _ hk => hk.2) (.bool t280)) (fun _ hk => hk.2) (.slice Ao16 t281.length co16)) (fun _ h_ => h_.1)))); (case side4 => exact (Kd.R_reads' HO283.out).2.1); (case side5 => refine (Kd.R_reads' (e := 3) (base := w.heap.size) (ok := fun k_ => ((some k_ ≠ (.slice Ao10 t269.length co10 : Value).ownBlock ∧ some k_ ≠ (.slice Ao15 t277.length co15 : Value).ownBlock) ∧ some k_ ≠ (.slice Ao16 t281.length co16 : Value).ownBlock)) (n := t265.length) (c := co9) ?_).2.2; exact (by (with_reducible repeat (first | apply Kd.R_alloc | apply Kd.R_drewN | apply Kd.R_drew)); exact (Kd.R_mono (Kd.R_far (p := ⟨gb285, 5, none⟩) (Kd.R_far (p := ⟨gb285, 4, none⟩) (Kd.R_far (p := ⟨gb285, 3, none⟩) (Kd.R_far (p := ⟨gb285, 2, none⟩) (Kd.R_far (p := ⟨gb285, 1, none⟩) (Kd.R_far (p := ⟨gb285, 0, none⟩) (Kd.R_types HO267.out BK285.out (by decide)) (fun _ hk => hk.2) (.int .i64 t274)) (fun _ hk => hk.2) (.int .i64 t275)) (fun _ hk => hk.2) (.bool t276)) (fun _ hk => hk.2) (.slice Ao15 t277.length co15)) (fun _ hk => hk.2) (.bool t280)) (fun _ hk => hk.2) (.slice Ao16 t281.length co16)) (fun _ h_ => h_.1)))); (case side6 => exact (Kd.R_reads' HO267.out).2.1); (case side7 => refine (Kd.R_reads' (e := 3) (base := w.heap.size) (ok := fun k_ => ((some k_ ≠ (.slice Ao9 t265.length co9 : Value).ownBlock ∧ some k_ ≠ (.slice Ao15 t277.length co15 : Value).ownBlock) ∧ some k_ ≠ (.slice Ao16 t281.length co16 : Value).ownBlock)) (n := t269.length) (c := co10) ?_).2.2; exact (by (with_reducible repeat (first | apply Kd.R_alloc | apply Kd.R_drewN | apply Kd.R_drew)); exact (Kd.R_mono (Kd.R_far (p := ⟨gb285, 5, none⟩) (Kd.R_far (p := ⟨gb285, 4, none⟩) (Kd.R_far (p := ⟨gb285, 3, none⟩) (Kd.R_far (p := ⟨gb285, 2, none⟩) (Kd.R_far (p := ⟨gb285, 1, none⟩) (Kd.R_far (p := ⟨gb285, 0, none⟩) (Kd.R_types HO271.out BK285.out (by decide)) (fun _ hk => hk.2) (.int .i64 t274)) (fun _ hk => hk.2) (.int .i64 t275)) (fun _ hk => hk.2) (.bool t276)) (fun _ hk => hk.2) (.slice Ao15 t277.length co15)) (fun _ hk => hk.2) (.bool t280)) (fun _ hk => hk.2) (.slice Ao16 t281.length co16)) (fun _ h_ => h_.1)))); (case side8 => exact (Kd.R_reads' HO271.out).2.1); rintro e w22 ⟨rfl, hb⟩; refine ⟨_, rfl, ?_⟩; have n0_ := Aside0.mk (Kd.R_below (by (with_reducible repeat (first | apply Kd.R_alloc | apply Kd.R_drewN | apply Kd.R_drew)); exact (Kd.R_mono (Kd.R_far (p := ⟨gb285, 5, none⟩) (Kd.R_far (p := ⟨gb285, 4, none⟩) (Kd.R_far (p := ⟨gb285, 3, none⟩) (Kd.R_far (p := ⟨gb285, 2, none⟩) (Kd.R_far (p := ⟨gb285, 1, none⟩) (Kd.R_far (p := ⟨gb285, 0, none⟩) (Kd.R_types HO267.out BK285.out (by decide)) (fun _ hk => hk.2) (.int .i64 t274)) (fun _ hk => hk.2) (.int .i64 t275)) (fun _ hk => hk.2) (.bool t276)) (fun _ hk => hk.2) (.slice Ao15 t277.length co15)) (fun _ hk => hk.2) (.bool t280)) (fun _ hk => hk.2) (.slice Ao16 t281.length co16)) (fun _ h_ => h_.1))) hb); have n1_ := Aside0.mk (Kd.R_below (by (with_reducible repeat (first | apply Kd.R_alloc | apply Kd.R_drewN | apply Kd.R_drew)); exact (Kd.R_mono (Kd.R_far (p := ⟨gb285, 5, none⟩) (Kd.R_far (p := ⟨gb285, 4, none⟩) (Kd.R_far (p := ⟨gb285, 3, none⟩) (Kd.R_far (p := ⟨gb285, 2, none⟩) (Kd.R_far (p := ⟨gb285, 1, none⟩) (Kd.R_far (p := ⟨gb285, 0, none⟩) (Kd.R_types HO271.out BK285.out (by decide)) (fun _ hk => hk.2) (.int .i64 t274)) (fun _ hk => hk.2) (.int .i64 t275)) (fun _ hk => hk.2) (.bool t276)) (fun _ hk => hk.2) (.slice Ao15 t277.length co15)) (fun _ hk => hk.2) (.bool t280)) (fun _ hk => hk.2) (.slice Ao16 t281.length co16)) (fun _ h_ => h_.1))) hb); have n2_ := Aside0.mk (Kd.R_below (by (with_reducible repeat (first | apply Kd.R_alloc | apply Kd.R_drewN | apply Kd.R_drew)); exact (Kd.R_mono (Kd.R_far (p := ⟨gb285, 5, none⟩) (Kd.R_far (p := ⟨gb285, 4, none⟩) (Kd.R_far (p := ⟨gb285, 3, none⟩) (Kd.R_far (p := ⟨gb285, 2, none⟩) (Kd.R_far (p := ⟨gb285, 1, none⟩) (Kd.R_far (p := ⟨gb285, 0, none⟩) (Kd.R_types HO279.out BK285.out (by decide)) (fun _ hk => hk.2) (.int .i64 t274)) (fun _ hk => hk.2) (.int .i64 t275)) (fun _ hk => hk.2) (.bool t276)) (fun _ hk => hk.2) (.slice Ao15 t277.length co15)) (fun _ hk => hk.2) (.bool t280)) (fun _ hk => hk.2) (.slice Ao16 t281.length co16)) (fun _ h_ => h_.1))) hb); have n3_ := Aside0.mk (Kd.R_below (by (with_reducible repeat (first | apply Kd.R_alloc | apply Kd.R_drewN | apply Kd.R_drew)); exact (Kd.R_mono (Kd.R_far (p := ⟨gb285, 5, none⟩) (Kd.R_far (p := ⟨gb285, 4, none⟩) (Kd.R_far (p := ⟨gb285, 3, none⟩) (Kd.R_far (p := ⟨gb285, 2, none⟩) (Kd.R_far (p := ⟨gb285, 1, none⟩) (Kd.R_far (p := ⟨gb285, 0, none⟩) (Kd.R_types HO283.out BK285.out (by decide)) (fun _ hk => hk.2) (.int .i64 t274)) (fun _ hk => hk.2) (.int .i64 t275)) (fun _ hk => hk.2) (.bool t276)) (fun _ hk => hk.2) (.slice Ao15 t277.length co15)) (fun _ hk => hk.2) (.bool t280)) (fun _ hk => hk.2) (.slice Ao16 t281.length co16)) (fun _ h_ => h_.1))) hb); have n4_ := Aside0.mk (blk_below (g := gb273) (o := .cells #[.int .i64 t262, .int .i64 t263, .bool t264, .slice Ao9 t265.length co9, .bool t268, .slice Ao10 t269.length co10] 27 (0, 0)) (by (with_reducible repeat (first | refine blk_drewN ?_ _ | refine blk_drew ?_ | refine blk_alloc ?_ _)); refine blk_far ?_ NB273_285.out _; (with_reducible repeat (first | refine blk_drewN ?_ _ | refine blk_drew ?_ | refine blk_alloc ?_ _)); refine blk_far ?_ NB273_285.out _; (with_reducible repeat (first | refine blk_drewN ?_ _ | refine blk_drew ?_ | refine blk_alloc ?_ _)); refine blk_far ?_ NB273_285.out _; (with_reducible repeat (first | refine blk_drewN ?_ _ | refine blk_drew ?_ | refine blk_alloc ?_ _)); refine blk_far ?_ NB273_285.out _; (with_reducible repeat (first | refine blk_drewN ?_ _ | refine blk_drew ?_ | refine blk_alloc ?_ _)); refine blk_far ?_ NB273_285.out _; (with_reducible repeat (first | refine blk_drewN ?_ _ | refine blk_drew ?_ | refine blk_alloc ?_ _)); refine blk_far ?_ NB273_285.out _; (with_reducible repeat (first | refine blk_drewN ?_ _ | refine blk_drew ?_ | refine blk_alloc ?_ _)); exact BK273.out) hb); have n5_ := Aside0.mk (blk_below (g := gb285) (o := .cells #[.int .i64 t274, .int .i64 t275, .bool t276, .slice Ao15 t277.length co15, .bool t280, .slice Ao16 t281.length co16] 27 (0, 0)) (by (with_reducible repeat (first | refine blk_drewN ?_ _ | refine blk_drew ?_ | refine blk_alloc ?_ _)); refine blk_put (cs := #[.int .i64 t274, .int .i64 t275, .bool t276, .slice Ao15 t277.length co15, .bool t280, .slice none 0 0]) ?_ 5 _ rfl; (with_reducible repeat (first | refine blk_drewN ?_ _ | refine blk_drew ?_ | refine blk_alloc ?_ _)); refine blk_put (cs := #[.int .i64 t274, .int .i64 t275, .bool t276, .slice Ao15 t277.length co15, .bool false, .slice none 0 0]) ?_ 4 _ rfl; (with_reducible repeat (first | refine blk_drewN ?_ _ | refine blk_drew ?_ | refine blk_alloc ?_ _)); refine blk_put (cs := #[.int .i64 t274, .int .i64 t275, .bool t276, .slice none 0 0, .bool false, .slice none 0 0]) ?_ 3 _ rfl; (with_reducible repeat (first | refine blk_drewN ?_ _ | refine blk_drew ?_ | refine blk_alloc ?_ _)); refine blk_put (cs := #[.int .i64 t274, .int .i64 t275, .bool false, .slice none 0 0, .bool false, .slice none 0 0]) ?_ 2 _ rfl; (with_reducible repeat (first | refine blk_drewN ?_ _ | refine blk_drew ?_ | refine blk_alloc ?_ _)); refine blk_put (cs := #[.int .i64 t274, .int .i64 0, .bool false, .slice none 0 0, .bool false, .slice none 0 0]) ?_ 1 _ rfl; (with_reducible repeat (first | refine blk_drewN ?_ _ | refine blk_drew ?_ | refine blk_alloc ?_ _)); refine blk_put (cs := #[.int .i64 0, .int .i64 0, .bool false, .slice none 0 0, .bool false, .slice none 0 0]) ?_ 0 _ rfl; (with_reducible repeat (first | refine blk_drewN ?_ _ | refine blk_drew ?_ | refine blk_alloc ?_ _)); exact BK285.out) hb); have n6_ := Aside0.mk (below_step (kB2 HB GE273 GE285) hb); clear HO267 HO271; clear HO279 HO283; clear BK273 BK285 HB; have HO267 := n0_; have HO271 := n1_; have HO279 := n2_; have HO283 := n3_; have BK273 := n4_; have BK285 := n5_; have HB := n6_; clear n0_ n1_ n2_ n3_ n4_ n5_ n6_; (try clear hb); (try clear hb2); (try clear hk); (try clear hi)))
    go_meet
    case rel => exact ⟨_, ((t284 != t272)), (by first | rfl | (simp; done) | (simp [*]; done)), H', ⟨by first | omega | exact Nat.le_refl _⟩, ⟨by (with_reducible repeat (first | apply Kd.R_alloc | apply Kd.R_drewN | apply Kd.R_drew)); exact Kd.R_mono HO267.out (fun _ hk => ⟨hk.1.1, ⟨hk.1.2, hk.2⟩⟩)⟩, ⟨by (with_reducible repeat (first | apply Kd.R_alloc | apply Kd.R_drewN | apply Kd.R_drew)); exact Kd.R_mono HO271.out (fun _ hk => ⟨hk.1.1, ⟨hk.1.2, hk.2⟩⟩)⟩, ⟨by (with_reducible repeat (first | apply Kd.R_alloc | apply Kd.R_drewN | apply Kd.R_drew)); exact Kd.R_mono HO279.out (fun _ hk => ⟨hk.1.2, ⟨hk.2, hk.1.1⟩⟩)⟩, ⟨by (with_reducible repeat (first | apply Kd.R_alloc | apply Kd.R_drewN | apply Kd.R_drew)); exact Kd.R_mono HO283.out (fun _ hk => ⟨hk.1.2, ⟨hk.2, hk.1.1⟩⟩)⟩, ⟨by (with_reducible repeat (first | refine blk_drewN ?_ _ | refine blk_drew ?_ | refine blk_alloc ?_ _)); exact BK273.out⟩, ⟨by (with_reducible repeat (first | refine blk_drewN ?_ _ | refine blk_drew ?_ | refine blk_alloc ?_ _)); exact BK285.out⟩, ⟨by repeat (first | (with_reducible first | exact HB.out | apply below_alloc | apply pw_below_drewN | apply below_drew1 | refine below_set ?_ GE273.out | refine below_set ?_ GE285.out) | exact HB.out)⟩⟩
   ·replace c18 := Bool.eq_false_iff.mpr c18
    subst c18
    have H1 : (laws_FnExactRecordOf.j0 k a0 t272 true t262 t263 t264 t265 t268 t269 t274 t275 t276 t277 t280 t281) = some r := by rw [if_neg (show ¬ (false = true) by decide)] at H; exact H
    clear H
    have H := H1
    clear H1
    have H' := Aside0.mk H
    clear H
    have hnb23 := NB285_273.out
    have hnc23 := NB273_285.out
    have hcz24_0 : w12.cell? ⟨gb285, 0, none⟩ = some (.int .i64 0) := (blk_cell BK285.out 0).trans rfl
    have hcz24_1 : w12.cell? ⟨gb285, 1, none⟩ = some (.int .i64 0) := (blk_cell BK285.out 1).trans rfl
    have hcz24_2 : w12.cell? ⟨gb285, 2, none⟩ = some (.bool false) := (blk_cell BK285.out 2).trans rfl
    have hcz24_3 : w12.cell? ⟨gb285, 3, none⟩ = some (.slice none 0 0) := (blk_cell BK285.out 3).trans rfl
    have hcz24_4 : w12.cell? ⟨gb285, 4, none⟩ = some (.bool false) := (blk_cell BK285.out 4).trans rfl
    have hcz24_5 : w12.cell? ⟨gb285, 5, none⟩ = some (.slice none 0 0) := (blk_cell BK285.out 5).trans rfl
    have hfz24_0 := blk_frozen BK285.out 0
    have hfz24_1 := blk_frozen BK285.out 1
    have hfz24_2 := blk_frozen BK285.out 2
    have hfz24_3 := blk_frozen BK285.out 3
    have hfz24_4 := blk_frozen BK285.out 4
    have hfz24_5 := blk_frozen BK285.out 5
    have hcz25_0 : w12.cell? ⟨gb273, 0, none⟩ = some (.int .i64 t262) := (blk_cell BK273.out 0).trans rfl
    have hcz25_1 : w12.cell? ⟨gb273, 1, none⟩ = some (.int .i64 t263) := (blk_cell BK273.out 1).trans rfl
    have hcz25_2 : w12.cell? ⟨gb273, 2, none⟩ = some (.bool t264) := (blk_cell BK273.out 2).trans rfl
    have hcz25_3 : w12.cell? ⟨gb273, 3, none⟩ = some (.slice Ao9 t265.length co9) := (blk_cell BK273.out 3).trans rfl
    have hcz25_4 : w12.cell? ⟨gb273, 4, none⟩ = some (.bool t268) := (blk_cell BK273.out 4).trans rfl
    have hcz25_5 : w12.cell? ⟨gb273, 5, none⟩ = some (.slice Ao10 t269.length co10) := (blk_cell BK273.out 5).trans rfl
    have hfz25_0 := blk_frozen BK273.out 0
    have hfz25_1 := blk_frozen BK273.out 1
    have hfz25_2 := blk_frozen BK273.out 2
    have hfz25_3 := blk_frozen BK273.out 3
    have hfz25_4 := blk_frozen BK273.out 4
    have hfz25_5 := blk_frozen BK273.out 5
    go_wp2_with (first | ((with_reducible refine gate_callee (f := 12) rfl ?_); refine goesL_ (some 26) rfl rfl Tryd.func12 (by kernel_rfl) rfl #[.agg #[.int .i64 t274, .int .i64 t275, .bool t276, .slice Ao15 t277.length co15, .bool t280, .slice Ao16 t281.length co16], .agg #[.int .i64 t262, .int .i64 t263, .bool t264, .slice Ao9 t265.length co9, .bool t268, .slice Ao10 t269.length co10]] rfl (by (try simp only [List.map_toArray, List.map_cons, List.map_nil]); first | done | rfl | (simp only [List.length_drop, List.length_take]; rfl)) ?_; (with_reducible refine (laws_eqRecord.calls k t274 t275 t276 _ _ t277 t280 _ _ t281 t262 t263 t264 _ _ t265 t268 _ _ t269 false _ ?side1 ?side2 ?side3 ?side4 ?side5 ?side6 ?side7 ?side8 A17.out).mono ?_); (case side1 => refine (Kd.R_reads' (e := 3) (base := w.heap.size) (ok := fun k_ => ((some k_ ≠ (.slice Ao16 t281.length co16 : Value).ownBlock ∧ some k_ ≠ (.slice Ao9 t265.length co9 : Value).ownBlock) ∧ some k_ ≠ (.slice Ao10 t269.length co10 : Value).ownBlock)) (n := t277.length) (c := co15) ?_).2.2; exact (by (with_reducible repeat (first | apply Kd.R_alloc | apply Kd.R_drewN | apply Kd.R_drew)); exact (Kd.R_mono (Kd.R_far (p := ⟨gb285, 5, none⟩) (Kd.R_far (p := ⟨gb285, 4, none⟩) (Kd.R_far (p := ⟨gb285, 3, none⟩) (Kd.R_far (p := ⟨gb285, 2, none⟩) (Kd.R_far (p := ⟨gb285, 1, none⟩) (Kd.R_far (p := ⟨gb285, 0, none⟩) (Kd.R_types HO279.out BK285.out (by decide)) (fun _ hk => hk.2) (.int .i64 t274)) (fun _ hk => hk.2) (.int .i64 t275)) (fun _ hk => hk.2) (.bool t276)) (fun _ hk => hk.2) (.slice Ao15 t277.length co15)) (fun _ hk => hk.2) (.bool t280)) (fun _ hk => hk.2) (.slice Ao16 t281.length co16)) (fun _ h_ => h_.1)))); (case side2 => exact (Kd.R_reads' HO279.out).2.1); (case side3 => refine (Kd.R_reads' (e := 3) (base := w.heap.size) (ok := fun k_ => ((some k_ ≠ (.slice Ao15 t277.length co15 : Value).ownBlock ∧ some k_ ≠ (.slice Ao9 t265.length co9 : Value).ownBlock) ∧ some k_ ≠ (.slice Ao10 t269.length co10 : Value).ownBlock)) (n := t281.length) (c := co16) ?_).2.2; exact (by (with_reducible repeat (first | apply Kd.R_alloc | apply Kd.R_drewN | apply Kd.R_drew)); exact (Kd.R_mono (Kd.R_far (p := ⟨gb285, 5, none⟩) (Kd.R_far (p := ⟨gb285, 4, none⟩) (Kd.R_far (p := ⟨gb285, 3, none⟩) (Kd.R_far (p := ⟨gb285, 2, none⟩) (Kd.R_far (p := ⟨gb285, 1, none⟩) (Kd.R_far (p := ⟨gb285, 0, none⟩) (Kd.R_types HO283.out BK285.out (by decide)) (fun _ hk => hk.2) (.int .i64 t274)) (fun _ hk => hk.2) (.int .i64 t275)) (fun _ hk => hk.2) (.bool t276)) (fun _ hk => hk.2) (.slice Ao15 t277.length co15)) (fun _ hk => hk.2) (.bool t280)) (fun _ hk => hk.2) (.slice Ao16 t281.length co16)) (fun _ h_ => h_.1)))); (case side4 => exact (Kd.R_reads' HO283.out).2.1); (case side5 => refine (Kd.R_reads' (e := 3) (base := w.heap.size) (ok := fun k_ => ((some k_ ≠ (.slice Ao10 t269.length co10 : Value).ownBlock ∧ some k_ ≠ (.slice Ao15 t277.length co15 : Value).ownBlock) ∧ some k_ ≠ (.slice Ao16 t281.length co16 : Value).ownBlock)) (n := t265.length) (c := co9) ?_).2.2; exact (by (with_reducible repeat (first | apply Kd.R_alloc | apply Kd.R_drewN | apply Kd.R_drew)); exact (Kd.R_mono (Kd.R_far (p := ⟨gb285, 5, none⟩) (Kd.R_far (p := ⟨gb285, 4, none⟩) (Kd.R_far (p := ⟨gb285, 3, none⟩) (Kd.R_far (p := ⟨gb285, 2, none⟩) (Kd.R_far (p := ⟨gb285, 1, none⟩) (Kd.R_far (p := ⟨gb285, 0, none⟩) (Kd.R_types HO267.out BK285.out (by decide)) (fun _ hk => hk.2) (.int .i64 t274)) (fun _ hk => hk.2) (.int .i64 t275)) (fun _ hk => hk.2) (.bool t276)) (fun _ hk => hk.2) (.slice Ao15 t277.length co15)) (fun _ hk => hk.2) (.bool t280)) (fun _ hk => hk.2) (.slice Ao16 t281.length co16)) (fun _ h_ => h_.1)))); (case side6 => exact (Kd.R_reads' HO267.out).2.1); (case side7 => refine (Kd.R_reads' (e := 3) (base := w.heap.size) (ok := fun k_ => ((some k_ ≠ (.slice Ao9 t265.length co9 : Value).ownBlock ∧ some k_ ≠ (.slice Ao15 t277.length co15 : Value).ownBlock) ∧ some k_ ≠ (.slice Ao16 t281.length co16 : Value).ownBlock)) (n := t269.length) (c := co10) ?_).2.2; exact (by (with_reducible repeat (first | apply Kd.R_alloc | apply Kd.R_drewN | apply Kd.R_drew)); exact (Kd.R_mono (Kd.R_far (p := ⟨gb285, 5, none⟩) (Kd.R_far (p := ⟨gb285, 4, none⟩) (Kd.R_far (p := ⟨gb285, 3, none⟩) (Kd.R_far (p := ⟨gb285, 2, none⟩) (Kd.R_far (p := ⟨gb285, 1, none⟩) (Kd.R_far (p := ⟨gb285, 0, none⟩) (Kd.R_types HO271.out BK285.out (by decide)) (fun _ hk => hk.2) (.int .i64 t274)) (fun _ hk => hk.2) (.int .i64 t275)) (fun _ hk => hk.2) (.bool t276)) (fun _ hk => hk.2) (.slice Ao15 t277.length co15)) (fun _ hk => hk.2) (.bool t280)) (fun _ hk => hk.2) (.slice Ao16 t281.length co16)) (fun _ h_ => h_.1)))); (case side8 => exact (Kd.R_reads' HO271.out).2.1); rintro e w26 ⟨rfl, hb⟩; refine ⟨_, rfl, ?_⟩; have n0_ := Aside0.mk (Kd.R_below (by (with_reducible repeat (first | apply Kd.R_alloc | apply Kd.R_drewN | apply Kd.R_drew)); exact (Kd.R_mono (Kd.R_far (p := ⟨gb285, 5, none⟩) (Kd.R_far (p := ⟨gb285, 4, none⟩) (Kd.R_far (p := ⟨gb285, 3, none⟩) (Kd.R_far (p := ⟨gb285, 2, none⟩) (Kd.R_far (p := ⟨gb285, 1, none⟩) (Kd.R_far (p := ⟨gb285, 0, none⟩) (Kd.R_types HO267.out BK285.out (by decide)) (fun _ hk => hk.2) (.int .i64 t274)) (fun _ hk => hk.2) (.int .i64 t275)) (fun _ hk => hk.2) (.bool t276)) (fun _ hk => hk.2) (.slice Ao15 t277.length co15)) (fun _ hk => hk.2) (.bool t280)) (fun _ hk => hk.2) (.slice Ao16 t281.length co16)) (fun _ h_ => h_.1))) hb); have n1_ := Aside0.mk (Kd.R_below (by (with_reducible repeat (first | apply Kd.R_alloc | apply Kd.R_drewN | apply Kd.R_drew)); exact (Kd.R_mono (Kd.R_far (p := ⟨gb285, 5, none⟩) (Kd.R_far (p := ⟨gb285, 4, none⟩) (Kd.R_far (p := ⟨gb285, 3, none⟩) (Kd.R_far (p := ⟨gb285, 2, none⟩) (Kd.R_far (p := ⟨gb285, 1, none⟩) (Kd.R_far (p := ⟨gb285, 0, none⟩) (Kd.R_types HO271.out BK285.out (by decide)) (fun _ hk => hk.2) (.int .i64 t274)) (fun _ hk => hk.2) (.int .i64 t275)) (fun _ hk => hk.2) (.bool t276)) (fun _ hk => hk.2) (.slice Ao15 t277.length co15)) (fun _ hk => hk.2) (.bool t280)) (fun _ hk => hk.2) (.slice Ao16 t281.length co16)) (fun _ h_ => h_.1))) hb); have n2_ := Aside0.mk (Kd.R_below (by (with_reducible repeat (first | apply Kd.R_alloc | apply Kd.R_drewN | apply Kd.R_drew)); exact (Kd.R_mono (Kd.R_far (p := ⟨gb285, 5, none⟩) (Kd.R_far (p := ⟨gb285, 4, none⟩) (Kd.R_far (p := ⟨gb285, 3, none⟩) (Kd.R_far (p := ⟨gb285, 2, none⟩) (Kd.R_far (p := ⟨gb285, 1, none⟩) (Kd.R_far (p := ⟨gb285, 0, none⟩) (Kd.R_types HO279.out BK285.out (by decide)) (fun _ hk => hk.2) (.int .i64 t274)) (fun _ hk => hk.2) (.int .i64 t275)) (fun _ hk => hk.2) (.bool t276)) (fun _ hk => hk.2) (.slice Ao15 t277.length co15)) (fun _ hk => hk.2) (.bool t280)) (fun _ hk => hk.2) (.slice Ao16 t281.length co16)) (fun _ h_ => h_.1))) hb); have n3_ := Aside0.mk (Kd.R_below (by (with_reducible repeat (first | apply Kd.R_alloc | apply Kd.R_drewN | apply Kd.R_drew)); exact (Kd.R_mono (Kd.R_far (p := ⟨gb285, 5, none⟩) (Kd.R_far (p := ⟨gb285, 4, none⟩) (Kd.R_far (p := ⟨gb285, 3, none⟩) (Kd.R_far (p := ⟨gb285, 2, none⟩) (Kd.R_far (p := ⟨gb285, 1, none⟩) (Kd.R_far (p := ⟨gb285, 0, none⟩) (Kd.R_types HO283.out BK285.out (by decide)) (fun _ hk => hk.2) (.int .i64 t274)) (fun _ hk => hk.2) (.int .i64 t275)) (fun _ hk => hk.2) (.bool t276)) (fun _ hk => hk.2) (.slice Ao15 t277.length co15)) (fun _ hk => hk.2) (.bool t280)) (fun _ hk => hk.2) (.slice Ao16 t281.length co16)) (fun _ h_ => h_.1))) hb); have n4_ := Aside0.mk (blk_below (g := gb273) (o := .cells #[.int .i64 t262, .int .i64 t263, .bool t264, .slice Ao9 t265.length co9, .bool t268, .slice Ao10 t269.length co10] 27 (0, 0)) (by (with_reducible repeat (first | refine blk_drewN ?_ _ | refine blk_drew ?_ | refine blk_alloc ?_ _)); refine blk_far ?_ NB273_285.out _; (with_reducible repeat (first | refine blk_drewN ?_ _ | refine blk_drew ?_ | refine blk_alloc ?_ _)); refine blk_far ?_ NB273_285.out _; (with_reducible repeat (first | refine blk_drewN ?_ _ | refine blk_drew ?_ | refine blk_alloc ?_ _)); refine blk_far ?_ NB273_285.out _; (with_reducible repeat (first | refine blk_drewN ?_ _ | refine blk_drew ?_ | refine blk_alloc ?_ _)); refine blk_far ?_ NB273_285.out _; (with_reducible repeat (first | refine blk_drewN ?_ _ | refine blk_drew ?_ | refine blk_alloc ?_ _)); refine blk_far ?_ NB273_285.out _; (with_reducible repeat (first | refine blk_drewN ?_ _ | refine blk_drew ?_ | refine blk_alloc ?_ _)); refine blk_far ?_ NB273_285.out _; (with_reducible repeat (first | refine blk_drewN ?_ _ | refine blk_drew ?_ | refine blk_alloc ?_ _)); exact BK273.out) hb); have n5_ := Aside0.mk (blk_below (g := gb285) (o := .cells #[.int .i64 t274, .int .i64 t275, .bool t276, .slice Ao15 t277.length co15, .bool t280, .slice Ao16 t281.length co16] 27 (0, 0)) (by (with_reducible repeat (first | refine blk_drewN ?_ _ | refine blk_drew ?_ | refine blk_alloc ?_ _)); refine blk_put (cs := #[.int .i64 t274, .int .i64 t275, .bool t276, .slice Ao15 t277.length co15, .bool t280, .slice none 0 0]) ?_ 5 _ rfl; (with_reducible repeat (first | refine blk_drewN ?_ _ | refine blk_drew ?_ | refine blk_alloc ?_ _)); refine blk_put (cs := #[.int .i64 t274, .int .i64 t275, .bool t276, .slice Ao15 t277.length co15, .bool false, .slice none 0 0]) ?_ 4 _ rfl; (with_reducible repeat (first | refine blk_drewN ?_ _ | refine blk_drew ?_ | refine blk_alloc ?_ _)); refine blk_put (cs := #[.int .i64 t274, .int .i64 t275, .bool t276, .slice none 0 0, .bool false, .slice none 0 0]) ?_ 3 _ rfl; (with_reducible repeat (first | refine blk_drewN ?_ _ | refine blk_drew ?_ | refine blk_alloc ?_ _)); refine blk_put (cs := #[.int .i64 t274, .int .i64 t275, .bool false, .slice none 0 0, .bool false, .slice none 0 0]) ?_ 2 _ rfl; (with_reducible repeat (first | refine blk_drewN ?_ _ | refine blk_drew ?_ | refine blk_alloc ?_ _)); refine blk_put (cs := #[.int .i64 t274, .int .i64 0, .bool false, .slice none 0 0, .bool false, .slice none 0 0]) ?_ 1 _ rfl; (with_reducible repeat (first | refine blk_drewN ?_ _ | refine blk_drew ?_ | refine blk_alloc ?_ _)); refine blk_put (cs := #[.int .i64 0, .int .i64 0, .bool false, .slice none 0 0, .bool false, .slice none 0 0]) ?_ 0 _ rfl; (with_reducible repeat (first | refine blk_drewN ?_ _ | refine blk_drew ?_ | refine blk_alloc ?_ _)); exact BK285.out) hb); have n6_ := Aside0.mk (below_step (kB2 HB GE273 GE285) hb); clear HO267 HO271; clear HO279 HO283; clear BK273 BK285 HB; have HO267 := n0_; have HO271 := n1_; have HO279 := n2_; have HO283 := n3_; have BK273 := n4_; have BK285 := n5_; have HB := n6_; clear n0_ n1_ n2_ n3_ n4_ n5_ n6_; (try clear hb); (try clear hb2); (try clear hk); (try clear hi)))
    go_meet
    case rel => exact ⟨_, (true), (by first | rfl | (simp; done) | (simp [*]; done)), H', ⟨by first | omega | exact Nat.le_refl _⟩, ⟨by (with_reducible repeat (first | apply Kd.R_alloc | apply Kd.R_drewN | apply Kd.R_drew)); exact Kd.R_mono HO267.out (fun _ hk => ⟨hk.1.1, ⟨hk.1.2, hk.2⟩⟩)⟩, ⟨by (with_reducible repeat (first | apply Kd.R_alloc | apply Kd.R_drewN | apply Kd.R_drew)); exact Kd.R_mono HO271.out (fun _ hk => ⟨hk.1.1, ⟨hk.1.2, hk.2⟩⟩)⟩, ⟨by (with_reducible repeat (first | apply Kd.R_alloc | apply Kd.R_drewN | apply Kd.R_drew)); exact Kd.R_mono HO279.out (fun _ hk => ⟨hk.1.2, ⟨hk.2, hk.1.1⟩⟩)⟩, ⟨by (with_reducible repeat (first | apply Kd.R_alloc | apply Kd.R_drewN | apply Kd.R_drew)); exact Kd.R_mono HO283.out (fun _ hk => ⟨hk.1.2, ⟨hk.2, hk.1.1⟩⟩)⟩, ⟨by (with_reducible repeat (first | refine blk_drewN ?_ _ | refine blk_drew ?_ | refine blk_alloc ?_ _)); exact BK273.out⟩, ⟨by (with_reducible repeat (first | refine blk_drewN ?_ _ | refine blk_drew ?_ | refine blk_alloc ?_ _)); exact BK285.out⟩, ⟨by repeat (first | (with_reducible first | exact HB.out | apply below_alloc | apply pw_below_drewN | apply below_drew1 | refine below_set ?_ GE273.out | refine below_set ?_ GE285.out) | exact HB.out)⟩⟩
  case rest =>
   clear HC5
   try clear c1
   try clear c2
   try clear c2b0
   try clear c2b1
   try clear p2
   try clear c4
   try clear c12
   try clear c13
   try clear c14
   try clear c18
   try clear c19
   try clear c23
   try clear hcz14_0
   try clear hcz14_1
   try clear hcz14_2
   try clear hcz14_3
   try clear hcz14_4
   try clear hcz14_5
   try clear hcz20_0
   try clear hcz20_1
   try clear hcz20_2
   try clear hcz20_3
   try clear hcz20_4
   try clear hcz20_5
   try clear hcz21_0
   try clear hcz21_1
   try clear hcz21_2
   try clear hcz21_3
   try clear hcz21_4
   try clear hcz21_5
   try clear hcz24_0
   try clear hcz24_1
   try clear hcz24_2
   try clear hcz24_3
   try clear hcz24_4
   try clear hcz24_5
   try clear hcz25_0
   try clear hcz25_1
   try clear hcz25_2
   try clear hcz25_3
   try clear hcz25_4
   try clear hcz25_5
   try clear hcz8_0
   try clear hcz8_1
   try clear hcz8_2
   try clear hcz8_3
   try clear hcz8_4
   try clear hcz8_5
   try clear hfz14_0
   try clear hfz14_1
   try clear hfz14_2
   try clear hfz14_3
   try clear hfz14_4
   try clear hfz14_5
   try clear hfz20_0
   try clear hfz20_1
   try clear hfz20_2
   try clear hfz20_3
   try clear hfz20_4
   try clear hfz20_5
   try clear hfz21_0
   try clear hfz21_1
   try clear hfz21_2
   try clear hfz21_3
   try clear hfz21_4
   try clear hfz21_5
   try clear hfz24_0
   try clear hfz24_1
   try clear hfz24_2
   try clear hfz24_3
   try clear hfz24_4
   try clear hfz24_5
   try clear hfz25_0
   try clear hfz25_1
   try clear hfz25_2
   try clear hfz25_3
   try clear hfz25_4
   try clear hfz25_5
   try clear hfz8_0
   try clear hfz8_1
   try clear hfz8_2
   try clear hfz8_3
   try clear hfz8_4
   try clear hfz8_5
   obtain ⟨kq, x32_4, rfl, HA, HJ4, HO_274003, HO_274005, HO_286003, HO_286005, BK273, BK285, HB⟩ := hcut
   cases kq with
   | zero => exact absurd HA.out (by simp [laws_FnExactRecordOf.j0])
   | succ kj4 =>
    have H := HA.out
    clear HA
    simp only [laws_FnExactRecordOf.j0] at H
    by_cases c27 : x32_4 = true
    ·subst c27
     have H1 : (some false) = some r := by rw [if_pos rfl] at H; exact H
     clear H
     have H := H1
     clear H1
     obtain rfl := Option.some.inj H
     go_wp2
     go_ret
     exact ⟨by first | rfl | (simp [errW_none, errW_some] <;> rfl) | (simp [*, errW_none, errW_some] <;> rfl), by repeat (first | (with_reducible first | exact HB.out | apply below_alloc | apply pw_below_drewN | apply below_drew1 | refine below_set ?_ GE273.out | refine below_set ?_ GE285.out) | exact HB.out)⟩
    ·replace c27 := Bool.eq_false_iff.mpr c27
     subst c27
     have H1 : ((laws_markRecord.f kj4 t274 t275 t276 t277 t280 t281 1).bind fun bt287 => ((laws_heldRecord.f kj4 t274 t275 t276 bt287.2.1 t280 bt287.2.2 1).bind fun t290 => (if t290 < 0 then (some false) else (if t290 = bt287.1 then ((impl_RecordOf.f kj4 a0).bind fun bt291 => ((laws_eqRecord.f kj4 bt291.1 bt291.2.1 bt291.2.2.1 bt291.2.2.2.1 bt291.2.2.2.2.1 bt291.2.2.2.2.2.1 t262 t263 t264 t265 t268 t269).bind fun t303 => (if t303 = true then (laws_FnExactRecordOf.j1 kj4 bt287.1 (bt291.2.2.2.2.2.2 != t272) t274 t275 t276 bt287.2.1 t280 bt287.2.2) else (laws_FnExactRecordOf.j1 kj4 bt287.1 true t274 t275 t276 bt287.2.1 t280 bt287.2.2)))) else (some false))))) = some r := by rw [if_neg (show ¬ (false = true) by decide)] at H; exact H
     clear H
     have H := H1
     clear H1
     replace H := Option.bind_eq_some_iff.mp H
     obtain ⟨⟨t287, t288, t289⟩, A280, H⟩ := H
     replace H : ((laws_heldRecord.f kj4 t274 t275 t276 t288 t280 t289 1).bind fun t290 => (if t290 < 0 then (some false) else (if t290 = t287 then ((impl_RecordOf.f kj4 a0).bind fun bt291 => ((laws_eqRecord.f kj4 bt291.1 bt291.2.1 bt291.2.2.1 bt291.2.2.2.1 bt291.2.2.2.2.1 bt291.2.2.2.2.2.1 t262 t263 t264 t265 t268 t269).bind fun t303 => (if t303 = true then (laws_FnExactRecordOf.j1 kj4 t287 (bt291.2.2.2.2.2.2 != t272) t274 t275 t276 t288 t280 t289) else (laws_FnExactRecordOf.j1 kj4 t287 true t274 t275 t276 t288 t280 t289)))) else (some false)))) = some r := H
     have A28 := Aside0.mk A280
     clear A280
     replace H := Option.bind_eq_some_iff.mp H
     obtain ⟨t290, A290, H⟩ := H
     replace H : (if t290 < 0 then (some false) else (if t290 = t287 then ((impl_RecordOf.f kj4 a0).bind fun bt291 => ((laws_eqRecord.f kj4 bt291.1 bt291.2.1 bt291.2.2.1 bt291.2.2.2.1 bt291.2.2.2.2.1 bt291.2.2.2.2.2.1 t262 t263 t264 t265 t268 t269).bind fun t303 => (if t303 = true then (laws_FnExactRecordOf.j1 kj4 t287 (bt291.2.2.2.2.2.2 != t272) t274 t275 t276 t288 t280 t289) else (laws_FnExactRecordOf.j1 kj4 t287 true t274 t275 t276 t288 t280 t289)))) else (some false))) = some r := H
     have A29 := Aside0.mk A290
     clear A290
     by_cases c30 : t290 < 0
     ·rw [if_pos c30] at H
      have c30b0 : decide (t290 < 0) = true := decide_eq_true c30
      clear c30
      obtain rfl := Option.some.inj H
      have hnb31 := NB285_273.out
      have hnc31 := NB273_285.out
      have hcz32_0 : wc.cell? ⟨gb285, 0, none⟩ = some (.int .i64 t274) := (blk_cell BK285.out 0).trans rfl
      have hcz32_1 : wc.cell? ⟨gb285, 1, none⟩ = some (.int .i64 t275) := (blk_cell BK285.out 1).trans rfl
      have hcz32_2 : wc.cell? ⟨gb285, 2, none⟩ = some (.bool t276) := (blk_cell BK285.out 2).trans rfl
      have hcz32_3 : wc.cell? ⟨gb285, 3, none⟩ = some (.slice Ao15 t277.length co15) := (blk_cell BK285.out 3).trans rfl
      have hcz32_4 : wc.cell? ⟨gb285, 4, none⟩ = some (.bool t280) := (blk_cell BK285.out 4).trans rfl
      have hcz32_5 : wc.cell? ⟨gb285, 5, none⟩ = some (.slice Ao16 t281.length co16) := (blk_cell BK285.out 5).trans rfl
      have hfz32_0 := blk_frozen BK285.out 0
      have hfz32_1 := blk_frozen BK285.out 1
      have hfz32_2 := blk_frozen BK285.out 2
      have hfz32_3 := blk_frozen BK285.out 3
      have hfz32_4 := blk_frozen BK285.out 4
      have hfz32_5 := blk_frozen BK285.out 5
      go_wp2_with (first | ((with_reducible refine gate_callee (f := 15) rfl ?_); refine goesL_ (some 35) rfl rfl Tryd.func15 (by kernel_rfl) rfl #[.agg #[.int .i64 t274, .int .i64 t275, .bool t276, .slice Ao15 t277.length co15, .bool t280, .slice Ao16 t281.length co16], .int .i64 1] rfl (by (try simp only [List.map_toArray, List.map_cons, List.map_nil]); first | done | rfl | (simp only [List.length_drop, List.length_take]; rfl)) ?_; (with_reducible refine (laws_markRecord.calls kj4 t274 t275 t276 (fun k_ => some k_ = (.slice Ao15 t277.length co15 : Value).ownBlock) (.slice Ao15 t277.length co15) t277 t280 (fun k_ => some k_ = (.slice Ao16 t281.length co16 : Value).ownBlock) (.slice Ao16 t281.length co16) t281 1 t287 t288 t289 w _ ?side1 ?side2 ?side3 ?side4 ?side5 A28.out).mono ?_); (case side1 => repeat (first | (with_reducible first | exact HB.out | apply below_alloc | apply pw_below_drewN | apply below_drew1 | refine below_set ?_ GE273.out | refine below_set ?_ GE285.out) | exact HB.out)); (case side2 => exact Kd.R_tight rfl HO_286003.out); (case side3 => exact fun k_ e_ => (HO_286003.out.1 k_ e_.symm).2.2); (case side4 => exact Kd.R_tight rfl HO_286005.out); (case side5 => exact fun k_ e_ => (HO_286005.out.1 k_ e_.symm).2.2); rintro e w33 ⟨rfl, hy0, hy1, hb, hkp⟩; refine ⟨_, rfl, ?_⟩; have n0_ := Aside0.mk (Kd.R_mono (ok' := fun k_ => some k_ ≠ (.slice Ao10 t269.length co10 : Value).ownBlock ∧ some k_ ≠ (.slice Ao15 t277.length co15 : Value).ownBlock ∧ some k_ ≠ (.slice Ao16 t281.length co16 : Value).ownBlock) (Kd.R_keptB (HO_274003.out) hkp (fun k_ hk_ hs_ => Or.elim hs_ (fun e_ => (hk_.2.1) e_) (fun e_ => (hk_.2.2) e_))) (fun k_ hk_ => ⟨hk_.1.1, hk_.1.2.1, hk_.1.2.2⟩)); have n1_ := Aside0.mk (Kd.R_mono (ok' := fun k_ => some k_ ≠ (.slice Ao9 t265.length co9 : Value).ownBlock ∧ some k_ ≠ (.slice Ao15 t277.length co15 : Value).ownBlock ∧ some k_ ≠ (.slice Ao16 t281.length co16 : Value).ownBlock) (Kd.R_keptB (HO_274005.out) hkp (fun k_ hk_ hs_ => Or.elim hs_ (fun e_ => (hk_.2.1) e_) (fun e_ => (hk_.2.2) e_))) (fun k_ hk_ => ⟨hk_.1.1, hk_.1.2.1, hk_.1.2.2⟩)); have n2_ := Aside0.mk (Kd.R_reok rfl hy0 (fun k_ e_ => HO_286003.out.1 k_ e_)); have n3_ := Aside0.mk (Kd.R_reok rfl hy1 (fun k_ e_ => HO_286005.out.1 k_ e_)); have n4_ := Aside0.mk (blk_kept (kb BK273) hkp (fun hs_ => Or.elim hs_ (fun e_ => (fun e_ => (Kd.R_ne HO_286003.out BK273.out (by decide)) e_) e_) (fun e_ => (fun e_ => (Kd.R_ne HO_286005.out BK273.out (by decide)) e_) e_))); have n5_ := Aside0.mk (blk_kept (kb BK285) hkp (fun hs_ => Or.elim hs_ (fun e_ => (fun e_ => (Kd.R_ne HO_286003.out BK285.out (by decide)) e_) e_) (fun e_ => (fun e_ => (Kd.R_ne HO_286005.out BK285.out (by decide)) e_) e_))); have n6_ := Aside0.mk (hb); clear HO_274003 HO_274005; clear HO_286003 HO_286005; clear BK273 BK285 HB; have HO_274003 := n0_; have HO_274005 := n1_; have HO_286003 := n2_; have HO_286005 := n3_; have BK273 := n4_; have BK285 := n5_; have HB := n6_; clear n0_ n1_ n2_ n3_ n4_ n5_ n6_; (try clear hb); (try clear hkp); (try clear hy0); (try clear hy1); have hcz34_0 : w33.cell? ⟨gb285, 0, none⟩ = some (.int .i64 t274) := (blk_cell BK285.out 0).trans rfl; have hcz34_1 : w33.cell? ⟨gb285, 1, none⟩ = some (.int .i64 t275) := (blk_cell BK285.out 1).trans rfl; have hcz34_2 : w33.cell? ⟨gb285, 2, none⟩ = some (.bool t276) := (blk_cell BK285.out 2).trans rfl; have hcz34_3 : w33.cell? ⟨gb285, 3, none⟩ = some (.slice Ao15 t277.length co15) := (blk_cell BK285.out 3).trans rfl; have hcz34_4 : w33.cell? ⟨gb285, 4, none⟩ = some (.bool t280) := (blk_cell BK285.out 4).trans rfl; have hcz34_5 : w33.cell? ⟨gb285, 5, none⟩ = some (.slice Ao16 t281.length co16) := (blk_cell BK285.out 5).trans rfl; have hfz34_0 := blk_frozen BK285.out 0; have hfz34_1 := blk_frozen BK285.out 1; have hfz34_2 := blk_frozen BK285.out 2; have hfz34_3 := blk_frozen BK285.out 3; have hfz34_4 := blk_frozen BK285.out 4; have hfz34_5 := blk_frozen BK285.out 5) | ((with_reducible refine gate_callee (f := 16) rfl ?_); refine goesL_ (some 38) rfl rfl Tryd.func16 (by kernel_rfl) rfl #[.agg #[.int .i64 t274, .int .i64 t275, .bool t276, .slice Ao15 t288.length co15, .bool t280, .slice Ao16 t289.length co16], .int .i64 1] rfl (by (try simp only [List.map_toArray, List.map_cons, List.map_nil]); first | done | (rw [show t288.length = t277.length from (Kd.R_reads' HO_286003.out).1.symm, show t289.length = t281.length from (Kd.R_reads' HO_286005.out).1.symm] <;> rfl) | rfl | (simp only [List.length_drop, List.length_take]; rfl)) ?_; (with_reducible refine (laws_heldRecord.calls kj4 t274 t275 t276 _ _ t288 t280 _ _ t289 1 t290 _ ?side1 ?side2 ?side3 ?side4 A29.out).mono ?_); (case side1 => repeat (first | exact (Kd.R_reads' HO_286003.out).2.2 | (with_reducible refine Kd.C_alloc ?_ _) | (with_reducible refine Kd.C_drewN ?_ _) | (with_reducible refine Kd.C_drew ?_))); (case side2 => rw [show t288.length = t277.length from (Kd.R_reads' HO_286003.out).1.symm]; exact (Kd.R_reads' HO_286003.out).2.1); (case side3 => repeat (first | exact (Kd.R_reads' HO_286005.out).2.2 | (with_reducible refine Kd.C_alloc ?_ _) | (with_reducible refine Kd.C_drewN ?_ _) | (with_reducible refine Kd.C_drew ?_))); (case side4 => rw [show t289.length = t281.length from (Kd.R_reads' HO_286005.out).1.symm]; exact (Kd.R_reads' HO_286005.out).2.1); rintro e w35 ⟨rfl, hb⟩; refine ⟨_, rfl, ?_⟩; have n0_ := Aside0.mk (Kd.R_below (kr HO_274003) hb); have n1_ := Aside0.mk (Kd.R_below (kr HO_274005) hb); have n2_ := Aside0.mk (Kd.R_below (kr HO_286003) hb); have n3_ := Aside0.mk (Kd.R_below (kr HO_286005) hb); have n4_ := Aside0.mk (blk_below (g := gb273) (o := .cells #[.int .i64 t262, .int .i64 t263, .bool t264, .slice Ao9 t265.length co9, .bool t268, .slice Ao10 t269.length co10] 27 (0, 0)) (kb BK273) hb); have n5_ := Aside0.mk (blk_below (g := gb285) (o := .cells #[.int .i64 t274, .int .i64 t275, .bool t276, .slice Ao15 t277.length co15, .bool t280, .slice Ao16 t281.length co16] 27 (0, 0)) (kb BK285) hb); have n6_ := Aside0.mk (below_step (kB2 HB GE273 GE285) hb); clear HO_274003 HO_274005; clear HO_286003 HO_286005; clear BK273 BK285 HB; have HO_274003 := n0_; have HO_274005 := n1_; have HO_286003 := n2_; have HO_286005 := n3_; have BK273 := n4_; have BK285 := n5_; have HB := n6_; clear n0_ n1_ n2_ n3_ n4_ n5_ n6_; (try clear hb); (try clear hb2); (try clear hk); (try clear hi)))
      go_ret
      exact ⟨by first | rfl | (simp [errW_none, errW_some] <;> rfl) | (simp [*, errW_none, errW_some] <;> rfl), by repeat (first | (with_reducible first | exact HB.out | apply below_alloc | apply pw_below_drewN | apply below_drew1 | refine below_set ?_ GE273.out | refine below_set ?_ GE285.out) | exact HB.out)⟩
     ·rw [if_neg c30] at H
      have c30b0 : decide (t290 < 0) = false := decide_eq_false c30
      clear c30
      by_cases c36 : t290 = t287
      ·rw [if_pos c36] at H
       have c36b0 : (t290 == t287) = true := beq_iff_eq.mpr c36
       have c36b1 : (t290 != t287) = false := bne_eq_false_iff_eq.mpr c36
       clear c36
       replace H := Option.bind_eq_some_iff.mp H
       obtain ⟨⟨t291, t292, t293, t294, t297, t298, t301⟩, A370, H⟩ := H
       replace H : ((laws_eqRecord.f kj4 t291 t292 t293 t294 t297 t298 t262 t263 t264 t265 t268 t269).bind fun t303 => (if t303 = true then (laws_FnExactRecordOf.j1 kj4 t287 (t301 != t272) t274 t275 t276 t288 t280 t289) else (laws_FnExactRecordOf.j1 kj4 t287 true t274 t275 t276 t288 t280 t289))) = some r := H
       have A37 := Aside0.mk A370
       clear A370
       have HC38 := Aside0.mk H
       clear H
       have hnb39 := NB285_273.out
       have hnc39 := NB273_285.out
       have hcz40_0 : wc.cell? ⟨gb285, 0, none⟩ = some (.int .i64 t274) := (blk_cell BK285.out 0).trans rfl
       have hcz40_1 : wc.cell? ⟨gb285, 1, none⟩ = some (.int .i64 t275) := (blk_cell BK285.out 1).trans rfl
       have hcz40_2 : wc.cell? ⟨gb285, 2, none⟩ = some (.bool t276) := (blk_cell BK285.out 2).trans rfl
       have hcz40_3 : wc.cell? ⟨gb285, 3, none⟩ = some (.slice Ao15 t277.length co15) := (blk_cell BK285.out 3).trans rfl
       have hcz40_4 : wc.cell? ⟨gb285, 4, none⟩ = some (.bool t280) := (blk_cell BK285.out 4).trans rfl
       have hcz40_5 : wc.cell? ⟨gb285, 5, none⟩ = some (.slice Ao16 t281.length co16) := (blk_cell BK285.out 5).trans rfl
       have hfz40_0 := blk_frozen BK285.out 0
       have hfz40_1 := blk_frozen BK285.out 1
       have hfz40_2 := blk_frozen BK285.out 2
       have hfz40_3 := blk_frozen BK285.out 3
       have hfz40_4 := blk_frozen BK285.out 4
       have hfz40_5 := blk_frozen BK285.out 5
       go_upto_region 16 with (first | ((with_reducible refine gate_callee (f := 15) rfl ?_); refine goesL_ (some 35) rfl rfl Tryd.func15 (by kernel_rfl) rfl #[.agg #[.int .i64 t274, .int .i64 t275, .bool t276, .slice Ao15 t277.length co15, .bool t280, .slice Ao16 t281.length co16], .int .i64 1] rfl (by (try simp only [List.map_toArray, List.map_cons, List.map_nil]); first | done | rfl | (simp only [List.length_drop, List.length_take]; rfl)) ?_; (with_reducible refine (laws_markRecord.calls kj4 t274 t275 t276 (fun k_ => some k_ = (.slice Ao15 t277.length co15 : Value).ownBlock) (.slice Ao15 t277.length co15) t277 t280 (fun k_ => some k_ = (.slice Ao16 t281.length co16 : Value).ownBlock) (.slice Ao16 t281.length co16) t281 1 t287 t288 t289 w _ ?side1 ?side2 ?side3 ?side4 ?side5 A28.out).mono ?_); (case side1 => repeat (first | (with_reducible first | exact HB.out | apply below_alloc | apply pw_below_drewN | apply below_drew1 | refine below_set ?_ GE273.out | refine below_set ?_ GE285.out) | exact HB.out)); (case side2 => exact Kd.R_tight rfl HO_286003.out); (case side3 => exact fun k_ e_ => (HO_286003.out.1 k_ e_.symm).2.2); (case side4 => exact Kd.R_tight rfl HO_286005.out); (case side5 => exact fun k_ e_ => (HO_286005.out.1 k_ e_.symm).2.2); rintro e w41 ⟨rfl, hy0, hy1, hb, hkp⟩; refine ⟨_, rfl, ?_⟩; have n0_ := Aside0.mk (Kd.R_mono (ok' := fun k_ => some k_ ≠ (.slice Ao10 t269.length co10 : Value).ownBlock ∧ some k_ ≠ (.slice Ao15 t277.length co15 : Value).ownBlock ∧ some k_ ≠ (.slice Ao16 t281.length co16 : Value).ownBlock) (Kd.R_keptB (HO_274003.out) hkp (fun k_ hk_ hs_ => Or.elim hs_ (fun e_ => (hk_.2.1) e_) (fun e_ => (hk_.2.2) e_))) (fun k_ hk_ => ⟨hk_.1.1, hk_.1.2.1, hk_.1.2.2⟩)); have n1_ := Aside0.mk (Kd.R_mono (ok' := fun k_ => some k_ ≠ (.slice Ao9 t265.length co9 : Value).ownBlock ∧ some k_ ≠ (.slice Ao15 t277.length co15 : Value).ownBlock ∧ some k_ ≠ (.slice Ao16 t281.length co16 : Value).ownBlock) (Kd.R_keptB (HO_274005.out) hkp (fun k_ hk_ hs_ => Or.elim hs_ (fun e_ => (hk_.2.1) e_) (fun e_ => (hk_.2.2) e_))) (fun k_ hk_ => ⟨hk_.1.1, hk_.1.2.1, hk_.1.2.2⟩)); have n2_ := Aside0.mk (Kd.R_reok rfl hy0 (fun k_ e_ => HO_286003.out.1 k_ e_)); have n3_ := Aside0.mk (Kd.R_reok rfl hy1 (fun k_ e_ => HO_286005.out.1 k_ e_)); have n4_ := Aside0.mk (blk_kept (kb BK273) hkp (fun hs_ => Or.elim hs_ (fun e_ => (fun e_ => (Kd.R_ne HO_286003.out BK273.out (by decide)) e_) e_) (fun e_ => (fun e_ => (Kd.R_ne HO_286005.out BK273.out (by decide)) e_) e_))); have n5_ := Aside0.mk (blk_kept (kb BK285) hkp (fun hs_ => Or.elim hs_ (fun e_ => (fun e_ => (Kd.R_ne HO_286003.out BK285.out (by decide)) e_) e_) (fun e_ => (fun e_ => (Kd.R_ne HO_286005.out BK285.out (by decide)) e_) e_))); have n6_ := Aside0.mk (hb); clear HO_274003 HO_274005; clear HO_286003 HO_286005; clear BK273 BK285 HB; have HO_274003 := n0_; have HO_274005 := n1_; have HO_286003 := n2_; have HO_286005 := n3_; have BK273 := n4_; have BK285 := n5_; have HB := n6_; clear n0_ n1_ n2_ n3_ n4_ n5_ n6_; (try clear hb); (try clear hkp); (try clear hy0); (try clear hy1); have hcz42_0 : w41.cell? ⟨gb285, 0, none⟩ = some (.int .i64 t274) := (blk_cell BK285.out 0).trans rfl; have hcz42_1 : w41.cell? ⟨gb285, 1, none⟩ = some (.int .i64 t275) := (blk_cell BK285.out 1).trans rfl; have hcz42_2 : w41.cell? ⟨gb285, 2, none⟩ = some (.bool t276) := (blk_cell BK285.out 2).trans rfl; have hcz42_3 : w41.cell? ⟨gb285, 3, none⟩ = some (.slice Ao15 t277.length co15) := (blk_cell BK285.out 3).trans rfl; have hcz42_4 : w41.cell? ⟨gb285, 4, none⟩ = some (.bool t280) := (blk_cell BK285.out 4).trans rfl; have hcz42_5 : w41.cell? ⟨gb285, 5, none⟩ = some (.slice Ao16 t281.length co16) := (blk_cell BK285.out 5).trans rfl; have hfz42_0 := blk_frozen BK285.out 0; have hfz42_1 := blk_frozen BK285.out 1; have hfz42_2 := blk_frozen BK285.out 2; have hfz42_3 := blk_frozen BK285.out 3; have hfz42_4 := blk_frozen BK285.out 4; have hfz42_5 := blk_frozen BK285.out 5) | ((with_reducible refine gate_callee (f := 16) rfl ?_); refine goesL_ (some 38) rfl rfl Tryd.func16 (by kernel_rfl) rfl #[.agg #[.int .i64 t274, .int .i64 t275, .bool t276, .slice Ao15 t288.length co15, .bool t280, .slice Ao16 t289.length co16], .int .i64 1] rfl (by (try simp only [List.map_toArray, List.map_cons, List.map_nil]); first | done | (rw [show t288.length = t277.length from (Kd.R_reads' HO_286003.out).1.symm, show t289.length = t281.length from (Kd.R_reads' HO_286005.out).1.symm] <;> rfl) | rfl | (simp only [List.length_drop, List.length_take]; rfl)) ?_; (with_reducible refine (laws_heldRecord.calls kj4 t274 t275 t276 _ _ t288 t280 _ _ t289 1 t290 _ ?side1 ?side2 ?side3 ?side4 A29.out).mono ?_); (case side1 => repeat (first | exact (Kd.R_reads' HO_286003.out).2.2 | (with_reducible refine Kd.C_alloc ?_ _) | (with_reducible refine Kd.C_drewN ?_ _) | (with_reducible refine Kd.C_drew ?_))); (case side2 => rw [show t288.length = t277.length from (Kd.R_reads' HO_286003.out).1.symm]; exact (Kd.R_reads' HO_286003.out).2.1); (case side3 => repeat (first | exact (Kd.R_reads' HO_286005.out).2.2 | (with_reducible refine Kd.C_alloc ?_ _) | (with_reducible refine Kd.C_drewN ?_ _) | (with_reducible refine Kd.C_drew ?_))); (case side4 => rw [show t289.length = t281.length from (Kd.R_reads' HO_286005.out).1.symm]; exact (Kd.R_reads' HO_286005.out).2.1); rintro e w43 ⟨rfl, hb⟩; refine ⟨_, rfl, ?_⟩; have n0_ := Aside0.mk (Kd.R_below (kr HO_274003) hb); have n1_ := Aside0.mk (Kd.R_below (kr HO_274005) hb); have n2_ := Aside0.mk (Kd.R_below (kr HO_286003) hb); have n3_ := Aside0.mk (Kd.R_below (kr HO_286005) hb); have n4_ := Aside0.mk (blk_below (g := gb273) (o := .cells #[.int .i64 t262, .int .i64 t263, .bool t264, .slice Ao9 t265.length co9, .bool t268, .slice Ao10 t269.length co10] 27 (0, 0)) (kb BK273) hb); have n5_ := Aside0.mk (blk_below (g := gb285) (o := .cells #[.int .i64 t274, .int .i64 t275, .bool t276, .slice Ao15 t277.length co15, .bool t280, .slice Ao16 t281.length co16] 27 (0, 0)) (kb BK285) hb); have n6_ := Aside0.mk (below_step (kB2 HB GE273 GE285) hb); clear HO_274003 HO_274005; clear HO_286003 HO_286005; clear BK273 BK285 HB; have HO_274003 := n0_; have HO_274005 := n1_; have HO_286003 := n2_; have HO_286005 := n3_; have BK273 := n4_; have BK285 := n5_; have HB := n6_; clear n0_ n1_ n2_ n3_ n4_ n5_ n6_; (try clear hb); (try clear hb2); (try clear hk); (try clear hi)) | ((with_reducible refine gate_callee (f := 14) rfl ?_); refine goesL_ (some 46) rfl rfl Tryd.func14 (by kernel_rfl) rfl #[.string a0] rfl (by (try simp only [List.map_toArray, List.map_cons, List.map_nil]); first | done | rfl | (simp only [List.length_drop, List.length_take]; rfl)) ?_; (with_reducible refine (impl_RecordOf.calls kj4 a0 t291 t292 t293 t294 t297 t298 t301 _ ?side1 A37.out).mono ?_); (case side1 => refine GOKM.below HGM.out ?_; repeat (first | (with_reducible first | exact HB.out | apply below_alloc | apply pw_below_drewN | apply below_drew1 | refine below_set ?_ GE273.out | refine below_set ?_ GE285.out) | exact HB.out)); rintro e w44 ⟨v295, v299, rfl, ho0, ho1, hb⟩; refine ⟨_, rfl, ?_⟩; have n0_ := Aside0.mk (Kd.R_mono (Kd.R_told (Kd.R_told (Kd.R_old (kr HO_274003) hb) (Kd.R_base ho0)) (Kd.R_base ho1)) (fun _ h_ => h_.1)); have n1_ := Aside0.mk (Kd.R_mono (Kd.R_told (Kd.R_told (Kd.R_old (kr HO_274005) hb) (Kd.R_base ho0)) (Kd.R_base ho1)) (fun _ h_ => h_.1)); have n2_ := Aside0.mk (Kd.R_mono (Kd.R_told (Kd.R_told (Kd.R_old (kr HO_286003) hb) (Kd.R_base ho0)) (Kd.R_base ho1)) (fun _ h_ => h_.1)); have n3_ := Aside0.mk (Kd.R_mono (Kd.R_told (Kd.R_told (Kd.R_old (kr HO_286005) hb) (Kd.R_base ho0)) (Kd.R_base ho1)) (fun _ h_ => h_.1)); have n4_ := Aside0.mk (Kd.R_lower (Kd.R_new' (Kd.R_new' (Kd.R_new' (Kd.R_new' ho0 (Kd.R_lt (kr HO_274003))) (Kd.R_lt (kr HO_274005))) (Kd.R_lt (kr HO_286003))) (Kd.R_lt (kr HO_286005))) (below_size (kB2 HB GE273 GE285))); have n5_ := Aside0.mk (Kd.R_lower (Kd.R_new' (Kd.R_new' (Kd.R_new' (Kd.R_new' ho1 (Kd.R_lt (kr HO_274003))) (Kd.R_lt (kr HO_274005))) (Kd.R_lt (kr HO_286003))) (Kd.R_lt (kr HO_286005))) (below_size (kB2 HB GE273 GE285))); have n6_ := Aside0.mk (blk_below (g := gb273) (o := .cells #[.int .i64 t262, .int .i64 t263, .bool t264, .slice Ao9 t265.length co9, .bool t268, .slice Ao10 t269.length co10] 27 (0, 0)) (kb BK273) hb); have n7_ := Aside0.mk (blk_below (g := gb285) (o := .cells #[.int .i64 t274, .int .i64 t275, .bool t276, .slice Ao15 t277.length co15, .bool t280, .slice Ao16 t281.length co16] 27 (0, 0)) (kb BK285) hb); have n8_ := Aside0.mk (below_step (kB2 HB GE273 GE285) hb); clear HO_274003 HO_274005; clear HO_286003 HO_286005; clear BK273 BK285 HB; have HO_274003 := n0_; have HO_274005 := n1_; have HO_286003 := n2_; have HO_286005 := n3_; have HO296 := n4_; have HO300 := n5_; have BK273 := n6_; have BK285 := n7_; have HB := n8_; clear n0_ n1_ n2_ n3_ n4_ n5_ n6_ n7_ n8_; (try clear hb); (try clear hb2); (try clear hk); (try clear hi); (try clear ho0); (try clear ho1)) | ((with_reducible refine gate_dst (N := 9) rfl ?_); refine box_event ?hg (N := 9) ?hd (cs := #[.int .i64 0, .int .i64 0, .bool false, .slice none 0 0, .bool false, .slice none 0 0]) (t := 27) ?hr ?_; (case hd => rfl); (case hg => rfl); (case hr => first | (go_simp; done) | (go_simp; rfl)); intro gb302 hg w45 hbox hb; have n0_ := Aside0.mk (Kd.R_below (kr HO_274003) hb); have n1_ := Aside0.mk (Kd.R_below (kr HO_274005) hb); have n2_ := Aside0.mk (Kd.R_below (kr HO_286003) hb); have n3_ := Aside0.mk (Kd.R_below (kr HO_286005) hb); have n4_ := Aside0.mk (Kd.R_below (kr HO296) hb); have n5_ := Aside0.mk (Kd.R_below (kr HO300) hb); have n6_ := Aside0.mk (blk_below (g := gb273) (o := .cells #[.int .i64 t262, .int .i64 t263, .bool t264, .slice Ao9 t265.length co9, .bool t268, .slice Ao10 t269.length co10] 27 (0, 0)) (kb BK273) hb); have n7_ := Aside0.mk (blk_below (g := gb285) (o := .cells #[.int .i64 t274, .int .i64 t275, .bool t276, .slice Ao15 t277.length co15, .bool t280, .slice Ao16 t281.length co16] 27 (0, 0)) (kb BK285) hb); have n8_ := Aside0.mk (below_step (kB2 HB GE273 GE285) hb); have n9_ := Aside0.mk (hbox); have n10_ := Aside0.mk ((by rw [hg]; exact (below_size (kB2 HB GE273 GE285)) : w.heap.size ≤ gb302)); have n11_ := Aside0.mk ((by rw [hg]; exact (below_size (kB2 HB GE273 GE285)) : w.heap.size ≤ gb302)); have n12_ := Aside0.mk ((by rw [hg]; exact Nat.ne_of_lt (blk_lt (g := gb273) (o := .cells #[.int .i64 t262, .int .i64 t263, .bool t264, .slice Ao9 t265.length co9, .bool t268, .slice Ao10 t269.length co10] 27 (0, 0)) (kb BK273)) : gb273 ≠ gb302)); have n13_ := Aside0.mk ((by rw [hg]; exact Nat.ne_of_gt (blk_lt (g := gb273) (o := .cells #[.int .i64 t262, .int .i64 t263, .bool t264, .slice Ao9 t265.length co9, .bool t268, .slice Ao10 t269.length co10] 27 (0, 0)) (kb BK273)) : gb302 ≠ gb273)); have n14_ := Aside0.mk ((by rw [hg]; exact Nat.ne_of_lt (blk_lt (g := gb285) (o := .cells #[.int .i64 t274, .int .i64 t275, .bool t276, .slice Ao15 t277.length co15, .bool t280, .slice Ao16 t281.length co16] 27 (0, 0)) (kb BK285)) : gb285 ≠ gb302)); have n15_ := Aside0.mk ((by rw [hg]; exact Nat.ne_of_gt (blk_lt (g := gb285) (o := .cells #[.int .i64 t274, .int .i64 t275, .bool t276, .slice Ao15 t277.length co15, .bool t280, .slice Ao16 t281.length co16] 27 (0, 0)) (kb BK285)) : gb302 ≠ gb285)); clear HO_274003 HO_274005; clear HO_286003 HO_286005; clear HO296 HO300; clear BK273 BK285 HB; have HO_274003 := n0_; have HO_274005 := n1_; have HO_286003 := n2_; have HO_286005 := n3_; have HO296 := n4_; have HO300 := n5_; have BK273 := n6_; have BK285 := n7_; have HB := n8_; have BK302 := n9_; have GW302 := n10_; have GE302 := n11_; have NB273_302 := n12_; have NB302_273 := n13_; have NB285_302 := n14_; have NB302_285 := n15_; clear n0_ n1_ n2_ n3_ n4_ n5_ n6_ n7_ n8_ n9_ n10_ n11_ n12_ n13_ n14_ n15_; clear hb hbox hg; have hnb46 := NB302_273.out; have hnc46 := NB273_302.out; have hnb47 := NB302_285.out; have hnc47 := NB285_302.out; have hcz48_0 : w45.cell? ⟨gb302, 0, none⟩ = some (.int .i64 0) := (blk_cell BK302.out 0).trans rfl; have hcz48_1 : w45.cell? ⟨gb302, 1, none⟩ = some (.int .i64 0) := (blk_cell BK302.out 1).trans rfl; have hcz48_2 : w45.cell? ⟨gb302, 2, none⟩ = some (.bool false) := (blk_cell BK302.out 2).trans rfl; have hcz48_3 : w45.cell? ⟨gb302, 3, none⟩ = some (.slice none 0 0) := (blk_cell BK302.out 3).trans rfl; have hcz48_4 : w45.cell? ⟨gb302, 4, none⟩ = some (.bool false) := (blk_cell BK302.out 4).trans rfl; have hcz48_5 : w45.cell? ⟨gb302, 5, none⟩ = some (.slice none 0 0) := (blk_cell BK302.out 5).trans rfl; have hfz48_0 := blk_frozen BK302.out 0; have hfz48_1 := blk_frozen BK302.out 1; have hfz48_2 := blk_frozen BK302.out 2; have hfz48_3 := blk_frozen BK302.out 3; have hfz48_4 := blk_frozen BK302.out 4; have hfz48_5 := blk_frozen BK302.out 5; obtain ⟨Ao49, co49, eo49⟩ := Kd.R_slice HO296.out; subst eo49; obtain ⟨Ao50, co50, eo50⟩ := Kd.R_slice HO300.out; subst eo50))
       (try simp only [Act.put, List.setIfInBounds_toArray, List.set_cons_zero, List.set_cons_succ])
       go_cut [57] (fun v57 wc => ∃ (kq : Nat) (x57_37 : Bool), v57 = .bool x57_37 ∧ Aside0 (laws_FnExactRecordOf.j1 kq t287 x57_37 t274 t275 t276 t288 t280 t289 = some r) ∧ Aside0 (kq ≤ kj4) ∧ Aside0 (Kd.R (Kd.int .i64) 3 wc w.heap.size (fun k_ => some k_ ≠ ((.slice Ao10 t269.length co10) : Value).ownBlock ∧ some k_ ≠ ((.slice Ao15 t277.length co15) : Value).ownBlock ∧ some k_ ≠ ((.slice Ao16 t281.length co16) : Value).ownBlock ∧ some k_ ≠ ((.slice Ao49 t294.length co49) : Value).ownBlock ∧ some k_ ≠ ((.slice Ao50 t298.length co50) : Value).ownBlock) (.slice Ao9 t265.length co9) t265) ∧ Aside0 (Kd.R (Kd.int .i64) 3 wc w.heap.size (fun k_ => some k_ ≠ ((.slice Ao9 t265.length co9) : Value).ownBlock ∧ some k_ ≠ ((.slice Ao15 t277.length co15) : Value).ownBlock ∧ some k_ ≠ ((.slice Ao16 t281.length co16) : Value).ownBlock ∧ some k_ ≠ ((.slice Ao49 t294.length co49) : Value).ownBlock ∧ some k_ ≠ ((.slice Ao50 t298.length co50) : Value).ownBlock) (.slice Ao10 t269.length co10) t269) ∧ Aside0 (Kd.R (Kd.int .i64) 3 wc w.heap.size (fun k_ => some k_ ≠ ((.slice Ao9 t265.length co9) : Value).ownBlock ∧ some k_ ≠ ((.slice Ao10 t269.length co10) : Value).ownBlock ∧ some k_ ≠ ((.slice Ao16 t281.length co16) : Value).ownBlock ∧ some k_ ≠ ((.slice Ao49 t294.length co49) : Value).ownBlock ∧ some k_ ≠ ((.slice Ao50 t298.length co50) : Value).ownBlock) (.slice Ao15 t277.length co15) t288) ∧ Aside0 (Kd.R (Kd.int .i64) 3 wc w.heap.size (fun k_ => some k_ ≠ ((.slice Ao9 t265.length co9) : Value).ownBlock ∧ some k_ ≠ ((.slice Ao10 t269.length co10) : Value).ownBlock ∧ some k_ ≠ ((.slice Ao15 t277.length co15) : Value).ownBlock ∧ some k_ ≠ ((.slice Ao49 t294.length co49) : Value).ownBlock ∧ some k_ ≠ ((.slice Ao50 t298.length co50) : Value).ownBlock) (.slice Ao16 t281.length co16) t289) ∧ Aside0 (Kd.R (Kd.int .i64) 3 wc w.heap.size (fun k_ => some k_ ≠ ((.slice Ao9 t265.length co9) : Value).ownBlock ∧ some k_ ≠ ((.slice Ao10 t269.length co10) : Value).ownBlock ∧ some k_ ≠ ((.slice Ao15 t277.length co15) : Value).ownBlock ∧ some k_ ≠ ((.slice Ao16 t281.length co16) : Value).ownBlock ∧ some k_ ≠ ((.slice Ao50 t298.length co50) : Value).ownBlock) (.slice Ao49 t294.length co49) t294) ∧ Aside0 (Kd.R (Kd.int .i64) 3 wc w.heap.size (fun k_ => some k_ ≠ ((.slice Ao9 t265.length co9) : Value).ownBlock ∧ some k_ ≠ ((.slice Ao10 t269.length co10) : Value).ownBlock ∧ some k_ ≠ ((.slice Ao15 t277.length co15) : Value).ownBlock ∧ some k_ ≠ ((.slice Ao16 t281.length co16) : Value).ownBlock ∧ some k_ ≠ ((.slice Ao49 t294.length co49) : Value).ownBlock) (.slice Ao50 t298.length co50) t298) ∧ Aside0 (wc.heap[gb273]? = some (.cells #[.int .i64 t262, .int .i64 t263, .bool t264, (.slice Ao9 t265.length co9), .bool t268, (.slice Ao10 t269.length co10)] 27 (0, 0))) ∧ Aside0 (wc.heap[gb285]? = some (.cells #[.int .i64 t274, .int .i64 t275, .bool t276, (.slice Ao15 t277.length co15), .bool t280, (.slice Ao16 t281.length co16)] 27 (0, 0))) ∧ Aside0 (wc.heap[gb302]? = some (.cells #[.int .i64 t291, .int .i64 t292, .bool t293, (.slice Ao49 t294.length co49), .bool t297, (.slice Ao50 t298.length co50)] 27 (0, 0))) ∧ Aside0 (Below w.heap.size w wc))
       case first =>
        have H := HC38.out
        clear HC38
        replace H := Option.bind_eq_some_iff.mp H
        obtain ⟨t303, A510, H⟩ := H
        replace H : (if t303 = true then (laws_FnExactRecordOf.j1 kj4 t287 (t301 != t272) t274 t275 t276 t288 t280 t289) else (laws_FnExactRecordOf.j1 kj4 t287 true t274 t275 t276 t288 t280 t289)) = some r := H
        have A51 := Aside0.mk A510
        clear A510
        by_cases c52 : t303 = true
        ·subst c52
         have H1 : (laws_FnExactRecordOf.j1 kj4 t287 (t301 != t272) t274 t275 t276 t288 t280 t289) = some r := by rw [if_pos rfl] at H; exact H
         clear H
         have H := H1
         clear H1
         have H' := Aside0.mk H
         clear H
         have hnb53 := NB302_273.out
         have hnc53 := NB273_302.out
         have hnb54 := NB302_285.out
         have hnc54 := NB285_302.out
         have hcz55_0 : w45.cell? ⟨gb302, 0, none⟩ = some (.int .i64 0) := (blk_cell BK302.out 0).trans rfl
         have hcz55_1 : w45.cell? ⟨gb302, 1, none⟩ = some (.int .i64 0) := (blk_cell BK302.out 1).trans rfl
         have hcz55_2 : w45.cell? ⟨gb302, 2, none⟩ = some (.bool false) := (blk_cell BK302.out 2).trans rfl
         have hcz55_3 : w45.cell? ⟨gb302, 3, none⟩ = some (.slice none 0 0) := (blk_cell BK302.out 3).trans rfl
         have hcz55_4 : w45.cell? ⟨gb302, 4, none⟩ = some (.bool false) := (blk_cell BK302.out 4).trans rfl
         have hcz55_5 : w45.cell? ⟨gb302, 5, none⟩ = some (.slice none 0 0) := (blk_cell BK302.out 5).trans rfl
         have hfz55_0 := blk_frozen BK302.out 0
         have hfz55_1 := blk_frozen BK302.out 1
         have hfz55_2 := blk_frozen BK302.out 2
         have hfz55_3 := blk_frozen BK302.out 3
         have hfz55_4 := blk_frozen BK302.out 4
         have hfz55_5 := blk_frozen BK302.out 5
         have hnb56 := NB273_285.out
         have hnc56 := NB285_273.out
         have hcz57_0 : w45.cell? ⟨gb273, 0, none⟩ = some (.int .i64 t262) := (blk_cell BK273.out 0).trans rfl
         have hcz57_1 : w45.cell? ⟨gb273, 1, none⟩ = some (.int .i64 t263) := (blk_cell BK273.out 1).trans rfl
         have hcz57_2 : w45.cell? ⟨gb273, 2, none⟩ = some (.bool t264) := (blk_cell BK273.out 2).trans rfl
         have hcz57_3 : w45.cell? ⟨gb273, 3, none⟩ = some (.slice Ao9 t265.length co9) := (blk_cell BK273.out 3).trans rfl
         have hcz57_4 : w45.cell? ⟨gb273, 4, none⟩ = some (.bool t268) := (blk_cell BK273.out 4).trans rfl
         have hcz57_5 : w45.cell? ⟨gb273, 5, none⟩ = some (.slice Ao10 t269.length co10) := (blk_cell BK273.out 5).trans rfl
         have hfz57_0 := blk_frozen BK273.out 0
         have hfz57_1 := blk_frozen BK273.out 1
         have hfz57_2 := blk_frozen BK273.out 2
         have hfz57_3 := blk_frozen BK273.out 3
         have hfz57_4 := blk_frozen BK273.out 4
         have hfz57_5 := blk_frozen BK273.out 5
         go_wp2_with (first | ((with_reducible refine gate_callee (f := 12) rfl ?_); refine goesL_ (some 51) rfl rfl Tryd.func12 (by kernel_rfl) rfl #[.agg #[.int .i64 t291, .int .i64 t292, .bool t293, .slice Ao49 t294.length co49, .bool t297, .slice Ao50 t298.length co50], .agg #[.int .i64 t262, .int .i64 t263, .bool t264, .slice Ao9 t265.length co9, .bool t268, .slice Ao10 t269.length co10]] rfl (by (try simp only [List.map_toArray, List.map_cons, List.map_nil]); first | done | rfl | (simp only [List.length_drop, List.length_take]; rfl)) ?_; (with_reducible refine (laws_eqRecord.calls kj4 t291 t292 t293 _ _ t294 t297 _ _ t298 t262 t263 t264 _ _ t265 t268 _ _ t269 true _ ?side1 ?side2 ?side3 ?side4 ?side5 ?side6 ?side7 ?side8 A51.out).mono ?_); (case side1 => refine (Kd.R_reads' (e := 3) (base := w.heap.size) (ok := fun k_ => ((((some k_ ≠ (.slice Ao50 t298.length co50 : Value).ownBlock ∧ some k_ ≠ (.slice Ao9 t265.length co9 : Value).ownBlock) ∧ some k_ ≠ (.slice Ao10 t269.length co10 : Value).ownBlock) ∧ some k_ ≠ (.slice Ao15 t277.length co15 : Value).ownBlock) ∧ some k_ ≠ (.slice Ao16 t281.length co16 : Value).ownBlock)) (n := t294.length) (c := co49) ?_).2.2; exact (by (with_reducible repeat (first | apply Kd.R_alloc | apply Kd.R_drewN | apply Kd.R_drew)); exact (Kd.R_mono (Kd.R_far (p := ⟨gb302, 5, none⟩) (Kd.R_far (p := ⟨gb302, 4, none⟩) (Kd.R_far (p := ⟨gb302, 3, none⟩) (Kd.R_far (p := ⟨gb302, 2, none⟩) (Kd.R_far (p := ⟨gb302, 1, none⟩) (Kd.R_far (p := ⟨gb302, 0, none⟩) (Kd.R_types HO296.out BK302.out (by decide)) (fun _ hk => hk.2) (.int .i64 t291)) (fun _ hk => hk.2) (.int .i64 t292)) (fun _ hk => hk.2) (.bool t293)) (fun _ hk => hk.2) (.slice Ao49 t294.length co49)) (fun _ hk => hk.2) (.bool t297)) (fun _ hk => hk.2) (.slice Ao50 t298.length co50)) (fun _ h_ => h_.1)))); (case side2 => exact (Kd.R_reads' HO296.out).2.1); (case side3 => refine (Kd.R_reads' (e := 3) (base := w.heap.size) (ok := fun k_ => ((((some k_ ≠ (.slice Ao49 t294.length co49 : Value).ownBlock ∧ some k_ ≠ (.slice Ao9 t265.length co9 : Value).ownBlock) ∧ some k_ ≠ (.slice Ao10 t269.length co10 : Value).ownBlock) ∧ some k_ ≠ (.slice Ao15 t277.length co15 : Value).ownBlock) ∧ some k_ ≠ (.slice Ao16 t281.length co16 : Value).ownBlock)) (n := t298.length) (c := co50) ?_).2.2; exact (by (with_reducible repeat (first | apply Kd.R_alloc | apply Kd.R_drewN | apply Kd.R_drew)); exact (Kd.R_mono (Kd.R_far (p := ⟨gb302, 5, none⟩) (Kd.R_far (p := ⟨gb302, 4, none⟩) (Kd.R_far (p := ⟨gb302, 3, none⟩) (Kd.R_far (p := ⟨gb302, 2, none⟩) (Kd.R_far (p := ⟨gb302, 1, none⟩) (Kd.R_far (p := ⟨gb302, 0, none⟩) (Kd.R_types HO300.out BK302.out (by decide)) (fun _ hk => hk.2) (.int .i64 t291)) (fun _ hk => hk.2) (.int .i64 t292)) (fun _ hk => hk.2) (.bool t293)) (fun _ hk => hk.2) (.slice Ao49 t294.length co49)) (fun _ hk => hk.2) (.bool t297)) (fun _ hk => hk.2) (.slice Ao50 t298.length co50)) (fun _ h_ => h_.1)))); (case side4 => exact (Kd.R_reads' HO300.out).2.1); (case side5 => refine (Kd.R_reads' (e := 3) (base := w.heap.size) (ok := fun k_ => (((some k_ ≠ (.slice Ao10 t269.length co10 : Value).ownBlock ∧ (some k_ ≠ (.slice Ao15 t277.length co15 : Value).ownBlock ∧ some k_ ≠ (.slice Ao16 t281.length co16 : Value).ownBlock)) ∧ some k_ ≠ (.slice Ao49 t294.length co49 : Value).ownBlock) ∧ some k_ ≠ (.slice Ao50 t298.length co50 : Value).ownBlock)) (n := t265.length) (c := co9) ?_).2.2; exact (by (with_reducible repeat (first | apply Kd.R_alloc | apply Kd.R_drewN | apply Kd.R_drew)); exact (Kd.R_mono (Kd.R_far (p := ⟨gb302, 5, none⟩) (Kd.R_far (p := ⟨gb302, 4, none⟩) (Kd.R_far (p := ⟨gb302, 3, none⟩) (Kd.R_far (p := ⟨gb302, 2, none⟩) (Kd.R_far (p := ⟨gb302, 1, none⟩) (Kd.R_far (p := ⟨gb302, 0, none⟩) (Kd.R_types HO_274003.out BK302.out (by decide)) (fun _ hk => hk.2) (.int .i64 t291)) (fun _ hk => hk.2) (.int .i64 t292)) (fun _ hk => hk.2) (.bool t293)) (fun _ hk => hk.2) (.slice Ao49 t294.length co49)) (fun _ hk => hk.2) (.bool t297)) (fun _ hk => hk.2) (.slice Ao50 t298.length co50)) (fun _ h_ => h_.1)))); (case side6 => exact (Kd.R_reads' HO_274003.out).2.1); (case side7 => refine (Kd.R_reads' (e := 3) (base := w.heap.size) (ok := fun k_ => (((some k_ ≠ (.slice Ao9 t265.length co9 : Value).ownBlock ∧ (some k_ ≠ (.slice Ao15 t277.length co15 : Value).ownBlock ∧ some k_ ≠ (.slice Ao16 t281.length co16 : Value).ownBlock)) ∧ some k_ ≠ (.slice Ao49 t294.length co49 : Value).ownBlock) ∧ some k_ ≠ (.slice Ao50 t298.length co50 : Value).ownBlock)) (n := t269.length) (c := co10) ?_).2.2; exact (by (with_reducible repeat (first | apply Kd.R_alloc | apply Kd.R_drewN | apply Kd.R_drew)); exact (Kd.R_mono (Kd.R_far (p := ⟨gb302, 5, none⟩) (Kd.R_far (p := ⟨gb302, 4, none⟩) (Kd.R_far (p := ⟨gb302, 3, none⟩) (Kd.R_far (p := ⟨gb302, 2, none⟩) (Kd.R_far (p := ⟨gb302, 1, none⟩) (Kd.R_far (p := ⟨gb302, 0, none⟩) (Kd.R_types HO_274005.out BK302.out (by decide)) (fun _ hk => hk.2) (.int .i64 t291)) (fun _ hk => hk.2) (.int .i64 t292)) (fun _ hk => hk.2) (.bool t293)) (fun _ hk => hk.2) (.slice Ao49 t294.length co49)) (fun _ hk => hk.2) (.bool t297)) (fun _ hk => hk.2) (.slice Ao50 t298.length co50)) (fun _ h_ => h_.1)))); (case side8 => exact (Kd.R_reads' HO_274005.out).2.1); rintro e w58 ⟨rfl, hb⟩; refine ⟨_, rfl, ?_⟩; have n0_ := Aside0.mk (Kd.R_below (by (with_reducible repeat (first | apply Kd.R_alloc | apply Kd.R_drewN | apply Kd.R_drew)); exact (Kd.R_mono (Kd.R_far (p := ⟨gb302, 5, none⟩) (Kd.R_far (p := ⟨gb302, 4, none⟩) (Kd.R_far (p := ⟨gb302, 3, none⟩) (Kd.R_far (p := ⟨gb302, 2, none⟩) (Kd.R_far (p := ⟨gb302, 1, none⟩) (Kd.R_far (p := ⟨gb302, 0, none⟩) (Kd.R_types HO_274003.out BK302.out (by decide)) (fun _ hk => hk.2) (.int .i64 t291)) (fun _ hk => hk.2) (.int .i64 t292)) (fun _ hk => hk.2) (.bool t293)) (fun _ hk => hk.2) (.slice Ao49 t294.length co49)) (fun _ hk => hk.2) (.bool t297)) (fun _ hk => hk.2) (.slice Ao50 t298.length co50)) (fun _ h_ => h_.1))) hb); have n1_ := Aside0.mk (Kd.R_below (by (with_reducible repeat (first | apply Kd.R_alloc | apply Kd.R_drewN | apply Kd.R_drew)); exact (Kd.R_mono (Kd.R_far (p := ⟨gb302, 5, none⟩) (Kd.R_far (p := ⟨gb302, 4, none⟩) (Kd.R_far (p := ⟨gb302, 3, none⟩) (Kd.R_far (p := ⟨gb302, 2, none⟩) (Kd.R_far (p := ⟨gb302, 1, none⟩) (Kd.R_far (p := ⟨gb302, 0, none⟩) (Kd.R_types HO_274005.out BK302.out (by decide)) (fun _ hk => hk.2) (.int .i64 t291)) (fun _ hk => hk.2) (.int .i64 t292)) (fun _ hk => hk.2) (.bool t293)) (fun _ hk => hk.2) (.slice Ao49 t294.length co49)) (fun _ hk => hk.2) (.bool t297)) (fun _ hk => hk.2) (.slice Ao50 t298.length co50)) (fun _ h_ => h_.1))) hb); have n2_ := Aside0.mk (Kd.R_below (by (with_reducible repeat (first | apply Kd.R_alloc | apply Kd.R_drewN | apply Kd.R_drew)); exact (Kd.R_mono (Kd.R_far (p := ⟨gb302, 5, none⟩) (Kd.R_far (p := ⟨gb302, 4, none⟩) (Kd.R_far (p := ⟨gb302, 3, none⟩) (Kd.R_far (p := ⟨gb302, 2, none⟩) (Kd.R_far (p := ⟨gb302, 1, none⟩) (Kd.R_far (p := ⟨gb302, 0, none⟩) (Kd.R_types HO_286003.out BK302.out (by decide)) (fun _ hk => hk.2) (.int .i64 t291)) (fun _ hk => hk.2) (.int .i64 t292)) (fun _ hk => hk.2) (.bool t293)) (fun _ hk => hk.2) (.slice Ao49 t294.length co49)) (fun _ hk => hk.2) (.bool t297)) (fun _ hk => hk.2) (.slice Ao50 t298.length co50)) (fun _ h_ => h_.1))) hb); have n3_ := Aside0.mk (Kd.R_below (by (with_reducible repeat (first | apply Kd.R_alloc | apply Kd.R_drewN | apply Kd.R_drew)); exact (Kd.R_mono (Kd.R_far (p := ⟨gb302, 5, none⟩) (Kd.R_far (p := ⟨gb302, 4, none⟩) (Kd.R_far (p := ⟨gb302, 3, none⟩) (Kd.R_far (p := ⟨gb302, 2, none⟩) (Kd.R_far (p := ⟨gb302, 1, none⟩) (Kd.R_far (p := ⟨gb302, 0, none⟩) (Kd.R_types HO_286005.out BK302.out (by decide)) (fun _ hk => hk.2) (.int .i64 t291)) (fun _ hk => hk.2) (.int .i64 t292)) (fun _ hk => hk.2) (.bool t293)) (fun _ hk => hk.2) (.slice Ao49 t294.length co49)) (fun _ hk => hk.2) (.bool t297)) (fun _ hk => hk.2) (.slice Ao50 t298.length co50)) (fun _ h_ => h_.1))) hb); have n4_ := Aside0.mk (Kd.R_below (by (with_reducible repeat (first | apply Kd.R_alloc | apply Kd.R_drewN | apply Kd.R_drew)); exact (Kd.R_mono (Kd.R_far (p := ⟨gb302, 5, none⟩) (Kd.R_far (p := ⟨gb302, 4, none⟩) (Kd.R_far (p := ⟨gb302, 3, none⟩) (Kd.R_far (p := ⟨gb302, 2, none⟩) (Kd.R_far (p := ⟨gb302, 1, none⟩) (Kd.R_far (p := ⟨gb302, 0, none⟩) (Kd.R_types HO296.out BK302.out (by decide)) (fun _ hk => hk.2) (.int .i64 t291)) (fun _ hk => hk.2) (.int .i64 t292)) (fun _ hk => hk.2) (.bool t293)) (fun _ hk => hk.2) (.slice Ao49 t294.length co49)) (fun _ hk => hk.2) (.bool t297)) (fun _ hk => hk.2) (.slice Ao50 t298.length co50)) (fun _ h_ => h_.1))) hb); have n5_ := Aside0.mk (Kd.R_below (by (with_reducible repeat (first | apply Kd.R_alloc | apply Kd.R_drewN | apply Kd.R_drew)); exact (Kd.R_mono (Kd.R_far (p := ⟨gb302, 5, none⟩) (Kd.R_far (p := ⟨gb302, 4, none⟩) (Kd.R_far (p := ⟨gb302, 3, none⟩) (Kd.R_far (p := ⟨gb302, 2, none⟩) (Kd.R_far (p := ⟨gb302, 1, none⟩) (Kd.R_far (p := ⟨gb302, 0, none⟩) (Kd.R_types HO300.out BK302.out (by decide)) (fun _ hk => hk.2) (.int .i64 t291)) (fun _ hk => hk.2) (.int .i64 t292)) (fun _ hk => hk.2) (.bool t293)) (fun _ hk => hk.2) (.slice Ao49 t294.length co49)) (fun _ hk => hk.2) (.bool t297)) (fun _ hk => hk.2) (.slice Ao50 t298.length co50)) (fun _ h_ => h_.1))) hb); have n6_ := Aside0.mk (blk_below (g := gb273) (o := .cells #[.int .i64 t262, .int .i64 t263, .bool t264, .slice Ao9 t265.length co9, .bool t268, .slice Ao10 t269.length co10] 27 (0, 0)) (by (with_reducible repeat (first | refine blk_drewN ?_ _ | refine blk_drew ?_ | refine blk_alloc ?_ _)); refine blk_far ?_ NB273_302.out _; (with_reducible repeat (first | refine blk_drewN ?_ _ | refine blk_drew ?_ | refine blk_alloc ?_ _)); refine blk_far ?_ NB273_302.out _; (with_reducible repeat (first | refine blk_drewN ?_ _ | refine blk_drew ?_ | refine blk_alloc ?_ _)); refine blk_far ?_ NB273_302.out _; (with_reducible repeat (first | refine blk_drewN ?_ _ | refine blk_drew ?_ | refine blk_alloc ?_ _)); refine blk_far ?_ NB273_302.out _; (with_reducible repeat (first | refine blk_drewN ?_ _ | refine blk_drew ?_ | refine blk_alloc ?_ _)); refine blk_far ?_ NB273_302.out _; (with_reducible repeat (first | refine blk_drewN ?_ _ | refine blk_drew ?_ | refine blk_alloc ?_ _)); refine blk_far ?_ NB273_302.out _; (with_reducible repeat (first | refine blk_drewN ?_ _ | refine blk_drew ?_ | refine blk_alloc ?_ _)); exact BK273.out) hb); have n7_ := Aside0.mk (blk_below (g := gb285) (o := .cells #[.int .i64 t274, .int .i64 t275, .bool t276, .slice Ao15 t277.length co15, .bool t280, .slice Ao16 t281.length co16] 27 (0, 0)) (by (with_reducible repeat (first | refine blk_drewN ?_ _ | refine blk_drew ?_ | refine blk_alloc ?_ _)); refine blk_far ?_ NB285_302.out _; (with_reducible repeat (first | refine blk_drewN ?_ _ | refine blk_drew ?_ | refine blk_alloc ?_ _)); refine blk_far ?_ NB285_302.out _; (with_reducible repeat (first | refine blk_drewN ?_ _ | refine blk_drew ?_ | refine blk_alloc ?_ _)); refine blk_far ?_ NB285_302.out _; (with_reducible repeat (first | refine blk_drewN ?_ _ | refine blk_drew ?_ | refine blk_alloc ?_ _)); refine blk_far ?_ NB285_302.out _; (with_reducible repeat (first | refine blk_drewN ?_ _ | refine blk_drew ?_ | refine blk_alloc ?_ _)); refine blk_far ?_ NB285_302.out _; (with_reducible repeat (first | refine blk_drewN ?_ _ | refine blk_drew ?_ | refine blk_alloc ?_ _)); refine blk_far ?_ NB285_302.out _; (with_reducible repeat (first | refine blk_drewN ?_ _ | refine blk_drew ?_ | refine blk_alloc ?_ _)); exact BK285.out) hb); have n8_ := Aside0.mk (blk_below (g := gb302) (o := .cells #[.int .i64 t291, .int .i64 t292, .bool t293, .slice Ao49 t294.length co49, .bool t297, .slice Ao50 t298.length co50] 27 (0, 0)) (by (with_reducible repeat (first | refine blk_drewN ?_ _ | refine blk_drew ?_ | refine blk_alloc ?_ _)); refine blk_put (cs := #[.int .i64 t291, .int .i64 t292, .bool t293, .slice Ao49 t294.length co49, .bool t297, .slice none 0 0]) ?_ 5 _ rfl; (with_reducible repeat (first | refine blk_drewN ?_ _ | refine blk_drew ?_ | refine blk_alloc ?_ _)); refine blk_put (cs := #[.int .i64 t291, .int .i64 t292, .bool t293, .slice Ao49 t294.length co49, .bool false, .slice none 0 0]) ?_ 4 _ rfl; (with_reducible repeat (first | refine blk_drewN ?_ _ | refine blk_drew ?_ | refine blk_alloc ?_ _)); refine blk_put (cs := #[.int .i64 t291, .int .i64 t292, .bool t293, .slice none 0 0, .bool false, .slice none 0 0]) ?_ 3 _ rfl; (with_reducible repeat (first | refine blk_drewN ?_ _ | refine blk_drew ?_ | refine blk_alloc ?_ _)); refine blk_put (cs := #[.int .i64 t291, .int .i64 t292, .bool false, .slice none 0 0, .bool false, .slice none 0 0]) ?_ 2 _ rfl; (with_reducible repeat (first | refine blk_drewN ?_ _ | refine blk_drew ?_ | refine blk_alloc ?_ _)); refine blk_put (cs := #[.int .i64 t291, .int .i64 0, .bool false, .slice none 0 0, .bool false, .slice none 0 0]) ?_ 1 _ rfl; (with_reducible repeat (first | refine blk_drewN ?_ _ | refine blk_drew ?_ | refine blk_alloc ?_ _)); refine blk_put (cs := #[.int .i64 0, .int .i64 0, .bool false, .slice none 0 0, .bool false, .slice none 0 0]) ?_ 0 _ rfl; (with_reducible repeat (first | refine blk_drewN ?_ _ | refine blk_drew ?_ | refine blk_alloc ?_ _)); exact BK302.out) hb); have n9_ := Aside0.mk (below_step (kB3 HB GE273 GE285 GE302) hb); clear HO_274003 HO_274005; clear HO_286003 HO_286005; clear HO296 HO300; clear BK273 BK285; clear BK302 HB; have HO_274003 := n0_; have HO_274005 := n1_; have HO_286003 := n2_; have HO_286005 := n3_; have HO296 := n4_; have HO300 := n5_; have BK273 := n6_; have BK285 := n7_; have BK302 := n8_; have HB := n9_; clear n0_ n1_ n2_ n3_ n4_ n5_ n6_ n7_ n8_ n9_; (try clear hb); (try clear hb2); (try clear hk); (try clear hi)))
         go_meet
         case rel => exact ⟨_, ((t301 != t272)), (by first | rfl | (simp; done) | (simp [*]; done)), H', ⟨by have := HJ4.out; first | omega | exact Nat.le_refl _⟩, ⟨by (with_reducible repeat (first | apply Kd.R_alloc | apply Kd.R_drewN | apply Kd.R_drew)); exact Kd.R_mono HO_274003.out (fun _ hk => ⟨hk.1.1.1, ⟨hk.1.1.2.1, ⟨hk.1.1.2.2, ⟨hk.1.2, hk.2⟩⟩⟩⟩)⟩, ⟨by (with_reducible repeat (first | apply Kd.R_alloc | apply Kd.R_drewN | apply Kd.R_drew)); exact Kd.R_mono HO_274005.out (fun _ hk => ⟨hk.1.1.1, ⟨hk.1.1.2.1, ⟨hk.1.1.2.2, ⟨hk.1.2, hk.2⟩⟩⟩⟩)⟩, ⟨by (with_reducible repeat (first | apply Kd.R_alloc | apply Kd.R_drewN | apply Kd.R_drew)); exact Kd.R_mono HO_286003.out (fun _ hk => ⟨hk.1.1.1, ⟨hk.1.1.2.1, ⟨hk.1.1.2.2, ⟨hk.1.2, hk.2⟩⟩⟩⟩)⟩, ⟨by (with_reducible repeat (first | apply Kd.R_alloc | apply Kd.R_drewN | apply Kd.R_drew)); exact Kd.R_mono HO_286005.out (fun _ hk => ⟨hk.1.1.1, ⟨hk.1.1.2.1, ⟨hk.1.1.2.2, ⟨hk.1.2, hk.2⟩⟩⟩⟩)⟩, ⟨by (with_reducible repeat (first | apply Kd.R_alloc | apply Kd.R_drewN | apply Kd.R_drew)); exact Kd.R_mono HO296.out (fun _ hk => ⟨hk.1.1.1.2, ⟨hk.1.1.2, ⟨hk.1.2, ⟨hk.2, hk.1.1.1.1⟩⟩⟩⟩)⟩, ⟨by (with_reducible repeat (first | apply Kd.R_alloc | apply Kd.R_drewN | apply Kd.R_drew)); exact Kd.R_mono HO300.out (fun _ hk => ⟨hk.1.1.1.2, ⟨hk.1.1.2, ⟨hk.1.2, ⟨hk.2, hk.1.1.1.1⟩⟩⟩⟩)⟩, ⟨by (with_reducible repeat (first | refine blk_drewN ?_ _ | refine blk_drew ?_ | refine blk_alloc ?_ _)); exact BK273.out⟩, ⟨by (with_reducible repeat (first | refine blk_drewN ?_ _ | refine blk_drew ?_ | refine blk_alloc ?_ _)); exact BK285.out⟩, ⟨by (with_reducible repeat (first | refine blk_drewN ?_ _ | refine blk_drew ?_ | refine blk_alloc ?_ _)); exact BK302.out⟩, ⟨by repeat (first | (with_reducible first | exact HB.out | apply below_alloc | apply pw_below_drewN | apply below_drew1 | refine below_set ?_ GE273.out | refine below_set ?_ GE285.out | refine below_set ?_ GE302.out) | exact HB.out)⟩⟩
        ·replace c52 := Bool.eq_false_iff.mpr c52
         subst c52
         have H1 : (laws_FnExactRecordOf.j1 kj4 t287 true t274 t275 t276 t288 t280 t289) = some r := by rw [if_neg (show ¬ (false = true) by decide)] at H; exact H
         clear H
         have H := H1
         clear H1
         have H' := Aside0.mk H
         clear H
         have hnb59 := NB302_273.out
         have hnc59 := NB273_302.out
         have hnb60 := NB302_285.out
         have hnc60 := NB285_302.out
         have hcz61_0 : w45.cell? ⟨gb302, 0, none⟩ = some (.int .i64 0) := (blk_cell BK302.out 0).trans rfl
         have hcz61_1 : w45.cell? ⟨gb302, 1, none⟩ = some (.int .i64 0) := (blk_cell BK302.out 1).trans rfl
         have hcz61_2 : w45.cell? ⟨gb302, 2, none⟩ = some (.bool false) := (blk_cell BK302.out 2).trans rfl
         have hcz61_3 : w45.cell? ⟨gb302, 3, none⟩ = some (.slice none 0 0) := (blk_cell BK302.out 3).trans rfl
         have hcz61_4 : w45.cell? ⟨gb302, 4, none⟩ = some (.bool false) := (blk_cell BK302.out 4).trans rfl
         have hcz61_5 : w45.cell? ⟨gb302, 5, none⟩ = some (.slice none 0 0) := (blk_cell BK302.out 5).trans rfl
         have hfz61_0 := blk_frozen BK302.out 0
         have hfz61_1 := blk_frozen BK302.out 1
         have hfz61_2 := blk_frozen BK302.out 2
         have hfz61_3 := blk_frozen BK302.out 3
         have hfz61_4 := blk_frozen BK302.out 4
         have hfz61_5 := blk_frozen BK302.out 5
         have hnb62 := NB273_285.out
         have hnc62 := NB285_273.out
         have hcz63_0 : w45.cell? ⟨gb273, 0, none⟩ = some (.int .i64 t262) := (blk_cell BK273.out 0).trans rfl
         have hcz63_1 : w45.cell? ⟨gb273, 1, none⟩ = some (.int .i64 t263) := (blk_cell BK273.out 1).trans rfl
         have hcz63_2 : w45.cell? ⟨gb273, 2, none⟩ = some (.bool t264) := (blk_cell BK273.out 2).trans rfl
         have hcz63_3 : w45.cell? ⟨gb273, 3, none⟩ = some (.slice Ao9 t265.length co9) := (blk_cell BK273.out 3).trans rfl
         have hcz63_4 : w45.cell? ⟨gb273, 4, none⟩ = some (.bool t268) := (blk_cell BK273.out 4).trans rfl
         have hcz63_5 : w45.cell? ⟨gb273, 5, none⟩ = some (.slice Ao10 t269.length co10) := (blk_cell BK273.out 5).trans rfl
         have hfz63_0 := blk_frozen BK273.out 0
         have hfz63_1 := blk_frozen BK273.out 1
         have hfz63_2 := blk_frozen BK273.out 2
         have hfz63_3 := blk_frozen BK273.out 3
         have hfz63_4 := blk_frozen BK273.out 4
         have hfz63_5 := blk_frozen BK273.out 5
         go_wp2_with (first | ((with_reducible refine gate_callee (f := 12) rfl ?_); refine goesL_ (some 51) rfl rfl Tryd.func12 (by kernel_rfl) rfl #[.agg #[.int .i64 t291, .int .i64 t292, .bool t293, .slice Ao49 t294.length co49, .bool t297, .slice Ao50 t298.length co50], .agg #[.int .i64 t262, .int .i64 t263, .bool t264, .slice Ao9 t265.length co9, .bool t268, .slice Ao10 t269.length co10]] rfl (by (try simp only [List.map_toArray, List.map_cons, List.map_nil]); first | done | rfl | (simp only [List.length_drop, List.length_take]; rfl)) ?_; (with_reducible refine (laws_eqRecord.calls kj4 t291 t292 t293 _ _ t294 t297 _ _ t298 t262 t263 t264 _ _ t265 t268 _ _ t269 false _ ?side1 ?side2 ?side3 ?side4 ?side5 ?side6 ?side7 ?side8 A51.out).mono ?_); (case side1 => refine (Kd.R_reads' (e := 3) (base := w.heap.size) (ok := fun k_ => ((((some k_ ≠ (.slice Ao50 t298.length co50 : Value).ownBlock ∧ some k_ ≠ (.slice Ao9 t265.length co9 : Value).ownBlock) ∧ some k_ ≠ (.slice Ao10 t269.length co10 : Value).ownBlock) ∧ some k_ ≠ (.slice Ao15 t277.length co15 : Value).ownBlock) ∧ some k_ ≠ (.slice Ao16 t281.length co16 : Value).ownBlock)) (n := t294.length) (c := co49) ?_).2.2; exact (by (with_reducible repeat (first | apply Kd.R_alloc | apply Kd.R_drewN | apply Kd.R_drew)); exact (Kd.R_mono (Kd.R_far (p := ⟨gb302, 5, none⟩) (Kd.R_far (p := ⟨gb302, 4, none⟩) (Kd.R_far (p := ⟨gb302, 3, none⟩) (Kd.R_far (p := ⟨gb302, 2, none⟩) (Kd.R_far (p := ⟨gb302, 1, none⟩) (Kd.R_far (p := ⟨gb302, 0, none⟩) (Kd.R_types HO296.out BK302.out (by decide)) (fun _ hk => hk.2) (.int .i64 t291)) (fun _ hk => hk.2) (.int .i64 t292)) (fun _ hk => hk.2) (.bool t293)) (fun _ hk => hk.2) (.slice Ao49 t294.length co49)) (fun _ hk => hk.2) (.bool t297)) (fun _ hk => hk.2) (.slice Ao50 t298.length co50)) (fun _ h_ => h_.1)))); (case side2 => exact (Kd.R_reads' HO296.out).2.1); (case side3 => refine (Kd.R_reads' (e := 3) (base := w.heap.size) (ok := fun k_ => ((((some k_ ≠ (.slice Ao49 t294.length co49 : Value).ownBlock ∧ some k_ ≠ (.slice Ao9 t265.length co9 : Value).ownBlock) ∧ some k_ ≠ (.slice Ao10 t269.length co10 : Value).ownBlock) ∧ some k_ ≠ (.slice Ao15 t277.length co15 : Value).ownBlock) ∧ some k_ ≠ (.slice Ao16 t281.length co16 : Value).ownBlock)) (n := t298.length) (c := co50) ?_).2.2; exact (by (with_reducible repeat (first | apply Kd.R_alloc | apply Kd.R_drewN | apply Kd.R_drew)); exact (Kd.R_mono (Kd.R_far (p := ⟨gb302, 5, none⟩) (Kd.R_far (p := ⟨gb302, 4, none⟩) (Kd.R_far (p := ⟨gb302, 3, none⟩) (Kd.R_far (p := ⟨gb302, 2, none⟩) (Kd.R_far (p := ⟨gb302, 1, none⟩) (Kd.R_far (p := ⟨gb302, 0, none⟩) (Kd.R_types HO300.out BK302.out (by decide)) (fun _ hk => hk.2) (.int .i64 t291)) (fun _ hk => hk.2) (.int .i64 t292)) (fun _ hk => hk.2) (.bool t293)) (fun _ hk => hk.2) (.slice Ao49 t294.length co49)) (fun _ hk => hk.2) (.bool t297)) (fun _ hk => hk.2) (.slice Ao50 t298.length co50)) (fun _ h_ => h_.1)))); (case side4 => exact (Kd.R_reads' HO300.out).2.1); (case side5 => refine (Kd.R_reads' (e := 3) (base := w.heap.size) (ok := fun k_ => (((some k_ ≠ (.slice Ao10 t269.length co10 : Value).ownBlock ∧ (some k_ ≠ (.slice Ao15 t277.length co15 : Value).ownBlock ∧ some k_ ≠ (.slice Ao16 t281.length co16 : Value).ownBlock)) ∧ some k_ ≠ (.slice Ao49 t294.length co49 : Value).ownBlock) ∧ some k_ ≠ (.slice Ao50 t298.length co50 : Value).ownBlock)) (n := t265.length) (c := co9) ?_).2.2; exact (by (with_reducible repeat (first | apply Kd.R_alloc | apply Kd.R_drewN | apply Kd.R_drew)); exact (Kd.R_mono (Kd.R_far (p := ⟨gb302, 5, none⟩) (Kd.R_far (p := ⟨gb302, 4, none⟩) (Kd.R_far (p := ⟨gb302, 3, none⟩) (Kd.R_far (p := ⟨gb302, 2, none⟩) (Kd.R_far (p := ⟨gb302, 1, none⟩) (Kd.R_far (p := ⟨gb302, 0, none⟩) (Kd.R_types HO_274003.out BK302.out (by decide)) (fun _ hk => hk.2) (.int .i64 t291)) (fun _ hk => hk.2) (.int .i64 t292)) (fun _ hk => hk.2) (.bool t293)) (fun _ hk => hk.2) (.slice Ao49 t294.length co49)) (fun _ hk => hk.2) (.bool t297)) (fun _ hk => hk.2) (.slice Ao50 t298.length co50)) (fun _ h_ => h_.1)))); (case side6 => exact (Kd.R_reads' HO_274003.out).2.1); (case side7 => refine (Kd.R_reads' (e := 3) (base := w.heap.size) (ok := fun k_ => (((some k_ ≠ (.slice Ao9 t265.length co9 : Value).ownBlock ∧ (some k_ ≠ (.slice Ao15 t277.length co15 : Value).ownBlock ∧ some k_ ≠ (.slice Ao16 t281.length co16 : Value).ownBlock)) ∧ some k_ ≠ (.slice Ao49 t294.length co49 : Value).ownBlock) ∧ some k_ ≠ (.slice Ao50 t298.length co50 : Value).ownBlock)) (n := t269.length) (c := co10) ?_).2.2; exact (by (with_reducible repeat (first | apply Kd.R_alloc | apply Kd.R_drewN | apply Kd.R_drew)); exact (Kd.R_mono (Kd.R_far (p := ⟨gb302, 5, none⟩) (Kd.R_far (p := ⟨gb302, 4, none⟩) (Kd.R_far (p := ⟨gb302, 3, none⟩) (Kd.R_far (p := ⟨gb302, 2, none⟩) (Kd.R_far (p := ⟨gb302, 1, none⟩) (Kd.R_far (p := ⟨gb302, 0, none⟩) (Kd.R_types HO_274005.out BK302.out (by decide)) (fun _ hk => hk.2) (.int .i64 t291)) (fun _ hk => hk.2) (.int .i64 t292)) (fun _ hk => hk.2) (.bool t293)) (fun _ hk => hk.2) (.slice Ao49 t294.length co49)) (fun _ hk => hk.2) (.bool t297)) (fun _ hk => hk.2) (.slice Ao50 t298.length co50)) (fun _ h_ => h_.1)))); (case side8 => exact (Kd.R_reads' HO_274005.out).2.1); rintro e w64 ⟨rfl, hb⟩; refine ⟨_, rfl, ?_⟩; have n0_ := Aside0.mk (Kd.R_below (by (with_reducible repeat (first | apply Kd.R_alloc | apply Kd.R_drewN | apply Kd.R_drew)); exact (Kd.R_mono (Kd.R_far (p := ⟨gb302, 5, none⟩) (Kd.R_far (p := ⟨gb302, 4, none⟩) (Kd.R_far (p := ⟨gb302, 3, none⟩) (Kd.R_far (p := ⟨gb302, 2, none⟩) (Kd.R_far (p := ⟨gb302, 1, none⟩) (Kd.R_far (p := ⟨gb302, 0, none⟩) (Kd.R_types HO_274003.out BK302.out (by decide)) (fun _ hk => hk.2) (.int .i64 t291)) (fun _ hk => hk.2) (.int .i64 t292)) (fun _ hk => hk.2) (.bool t293)) (fun _ hk => hk.2) (.slice Ao49 t294.length co49)) (fun _ hk => hk.2) (.bool t297)) (fun _ hk => hk.2) (.slice Ao50 t298.length co50)) (fun _ h_ => h_.1))) hb); have n1_ := Aside0.mk (Kd.R_below (by (with_reducible repeat (first | apply Kd.R_alloc | apply Kd.R_drewN | apply Kd.R_drew)); exact (Kd.R_mono (Kd.R_far (p := ⟨gb302, 5, none⟩) (Kd.R_far (p := ⟨gb302, 4, none⟩) (Kd.R_far (p := ⟨gb302, 3, none⟩) (Kd.R_far (p := ⟨gb302, 2, none⟩) (Kd.R_far (p := ⟨gb302, 1, none⟩) (Kd.R_far (p := ⟨gb302, 0, none⟩) (Kd.R_types HO_274005.out BK302.out (by decide)) (fun _ hk => hk.2) (.int .i64 t291)) (fun _ hk => hk.2) (.int .i64 t292)) (fun _ hk => hk.2) (.bool t293)) (fun _ hk => hk.2) (.slice Ao49 t294.length co49)) (fun _ hk => hk.2) (.bool t297)) (fun _ hk => hk.2) (.slice Ao50 t298.length co50)) (fun _ h_ => h_.1))) hb); have n2_ := Aside0.mk (Kd.R_below (by (with_reducible repeat (first | apply Kd.R_alloc | apply Kd.R_drewN | apply Kd.R_drew)); exact (Kd.R_mono (Kd.R_far (p := ⟨gb302, 5, none⟩) (Kd.R_far (p := ⟨gb302, 4, none⟩) (Kd.R_far (p := ⟨gb302, 3, none⟩) (Kd.R_far (p := ⟨gb302, 2, none⟩) (Kd.R_far (p := ⟨gb302, 1, none⟩) (Kd.R_far (p := ⟨gb302, 0, none⟩) (Kd.R_types HO_286003.out BK302.out (by decide)) (fun _ hk => hk.2) (.int .i64 t291)) (fun _ hk => hk.2) (.int .i64 t292)) (fun _ hk => hk.2) (.bool t293)) (fun _ hk => hk.2) (.slice Ao49 t294.length co49)) (fun _ hk => hk.2) (.bool t297)) (fun _ hk => hk.2) (.slice Ao50 t298.length co50)) (fun _ h_ => h_.1))) hb); have n3_ := Aside0.mk (Kd.R_below (by (with_reducible repeat (first | apply Kd.R_alloc | apply Kd.R_drewN | apply Kd.R_drew)); exact (Kd.R_mono (Kd.R_far (p := ⟨gb302, 5, none⟩) (Kd.R_far (p := ⟨gb302, 4, none⟩) (Kd.R_far (p := ⟨gb302, 3, none⟩) (Kd.R_far (p := ⟨gb302, 2, none⟩) (Kd.R_far (p := ⟨gb302, 1, none⟩) (Kd.R_far (p := ⟨gb302, 0, none⟩) (Kd.R_types HO_286005.out BK302.out (by decide)) (fun _ hk => hk.2) (.int .i64 t291)) (fun _ hk => hk.2) (.int .i64 t292)) (fun _ hk => hk.2) (.bool t293)) (fun _ hk => hk.2) (.slice Ao49 t294.length co49)) (fun _ hk => hk.2) (.bool t297)) (fun _ hk => hk.2) (.slice Ao50 t298.length co50)) (fun _ h_ => h_.1))) hb); have n4_ := Aside0.mk (Kd.R_below (by (with_reducible repeat (first | apply Kd.R_alloc | apply Kd.R_drewN | apply Kd.R_drew)); exact (Kd.R_mono (Kd.R_far (p := ⟨gb302, 5, none⟩) (Kd.R_far (p := ⟨gb302, 4, none⟩) (Kd.R_far (p := ⟨gb302, 3, none⟩) (Kd.R_far (p := ⟨gb302, 2, none⟩) (Kd.R_far (p := ⟨gb302, 1, none⟩) (Kd.R_far (p := ⟨gb302, 0, none⟩) (Kd.R_types HO296.out BK302.out (by decide)) (fun _ hk => hk.2) (.int .i64 t291)) (fun _ hk => hk.2) (.int .i64 t292)) (fun _ hk => hk.2) (.bool t293)) (fun _ hk => hk.2) (.slice Ao49 t294.length co49)) (fun _ hk => hk.2) (.bool t297)) (fun _ hk => hk.2) (.slice Ao50 t298.length co50)) (fun _ h_ => h_.1))) hb); have n5_ := Aside0.mk (Kd.R_below (by (with_reducible repeat (first | apply Kd.R_alloc | apply Kd.R_drewN | apply Kd.R_drew)); exact (Kd.R_mono (Kd.R_far (p := ⟨gb302, 5, none⟩) (Kd.R_far (p := ⟨gb302, 4, none⟩) (Kd.R_far (p := ⟨gb302, 3, none⟩) (Kd.R_far (p := ⟨gb302, 2, none⟩) (Kd.R_far (p := ⟨gb302, 1, none⟩) (Kd.R_far (p := ⟨gb302, 0, none⟩) (Kd.R_types HO300.out BK302.out (by decide)) (fun _ hk => hk.2) (.int .i64 t291)) (fun _ hk => hk.2) (.int .i64 t292)) (fun _ hk => hk.2) (.bool t293)) (fun _ hk => hk.2) (.slice Ao49 t294.length co49)) (fun _ hk => hk.2) (.bool t297)) (fun _ hk => hk.2) (.slice Ao50 t298.length co50)) (fun _ h_ => h_.1))) hb); have n6_ := Aside0.mk (blk_below (g := gb273) (o := .cells #[.int .i64 t262, .int .i64 t263, .bool t264, .slice Ao9 t265.length co9, .bool t268, .slice Ao10 t269.length co10] 27 (0, 0)) (by (with_reducible repeat (first | refine blk_drewN ?_ _ | refine blk_drew ?_ | refine blk_alloc ?_ _)); refine blk_far ?_ NB273_302.out _; (with_reducible repeat (first | refine blk_drewN ?_ _ | refine blk_drew ?_ | refine blk_alloc ?_ _)); refine blk_far ?_ NB273_302.out _; (with_reducible repeat (first | refine blk_drewN ?_ _ | refine blk_drew ?_ | refine blk_alloc ?_ _)); refine blk_far ?_ NB273_302.out _; (with_reducible repeat (first | refine blk_drewN ?_ _ | refine blk_drew ?_ | refine blk_alloc ?_ _)); refine blk_far ?_ NB273_302.out _; (with_reducible repeat (first | refine blk_drewN ?_ _ | refine blk_drew ?_ | refine blk_alloc ?_ _)); refine blk_far ?_ NB273_302.out _; (with_reducible repeat (first | refine blk_drewN ?_ _ | refine blk_drew ?_ | refine blk_alloc ?_ _)); refine blk_far ?_ NB273_302.out _; (with_reducible repeat (first | refine blk_drewN ?_ _ | refine blk_drew ?_ | refine blk_alloc ?_ _)); exact BK273.out) hb); have n7_ := Aside0.mk (blk_below (g := gb285) (o := .cells #[.int .i64 t274, .int .i64 t275, .bool t276, .slice Ao15 t277.length co15, .bool t280, .slice Ao16 t281.length co16] 27 (0, 0)) (by (with_reducible repeat (first | refine blk_drewN ?_ _ | refine blk_drew ?_ | refine blk_alloc ?_ _)); refine blk_far ?_ NB285_302.out _; (with_reducible repeat (first | refine blk_drewN ?_ _ | refine blk_drew ?_ | refine blk_alloc ?_ _)); refine blk_far ?_ NB285_302.out _; (with_reducible repeat (first | refine blk_drewN ?_ _ | refine blk_drew ?_ | refine blk_alloc ?_ _)); refine blk_far ?_ NB285_302.out _; (with_reducible repeat (first | refine blk_drewN ?_ _ | refine blk_drew ?_ | refine blk_alloc ?_ _)); refine blk_far ?_ NB285_302.out _; (with_reducible repeat (first | refine blk_drewN ?_ _ | refine blk_drew ?_ | refine blk_alloc ?_ _)); refine blk_far ?_ NB285_302.out _; (with_reducible repeat (first | refine blk_drewN ?_ _ | refine blk_drew ?_ | refine blk_alloc ?_ _)); refine blk_far ?_ NB285_302.out _; (with_reducible repeat (first | refine blk_drewN ?_ _ | refine blk_drew ?_ | refine blk_alloc ?_ _)); exact BK285.out) hb); have n8_ := Aside0.mk (blk_below (g := gb302) (o := .cells #[.int .i64 t291, .int .i64 t292, .bool t293, .slice Ao49 t294.length co49, .bool t297, .slice Ao50 t298.length co50] 27 (0, 0)) (by (with_reducible repeat (first | refine blk_drewN ?_ _ | refine blk_drew ?_ | refine blk_alloc ?_ _)); refine blk_put (cs := #[.int .i64 t291, .int .i64 t292, .bool t293, .slice Ao49 t294.length co49, .bool t297, .slice none 0 0]) ?_ 5 _ rfl; (with_reducible repeat (first | refine blk_drewN ?_ _ | refine blk_drew ?_ | refine blk_alloc ?_ _)); refine blk_put (cs := #[.int .i64 t291, .int .i64 t292, .bool t293, .slice Ao49 t294.length co49, .bool false, .slice none 0 0]) ?_ 4 _ rfl; (with_reducible repeat (first | refine blk_drewN ?_ _ | refine blk_drew ?_ | refine blk_alloc ?_ _)); refine blk_put (cs := #[.int .i64 t291, .int .i64 t292, .bool t293, .slice none 0 0, .bool false, .slice none 0 0]) ?_ 3 _ rfl; (with_reducible repeat (first | refine blk_drewN ?_ _ | refine blk_drew ?_ | refine blk_alloc ?_ _)); refine blk_put (cs := #[.int .i64 t291, .int .i64 t292, .bool false, .slice none 0 0, .bool false, .slice none 0 0]) ?_ 2 _ rfl; (with_reducible repeat (first | refine blk_drewN ?_ _ | refine blk_drew ?_ | refine blk_alloc ?_ _)); refine blk_put (cs := #[.int .i64 t291, .int .i64 0, .bool false, .slice none 0 0, .bool false, .slice none 0 0]) ?_ 1 _ rfl; (with_reducible repeat (first | refine blk_drewN ?_ _ | refine blk_drew ?_ | refine blk_alloc ?_ _)); refine blk_put (cs := #[.int .i64 0, .int .i64 0, .bool false, .slice none 0 0, .bool false, .slice none 0 0]) ?_ 0 _ rfl; (with_reducible repeat (first | refine blk_drewN ?_ _ | refine blk_drew ?_ | refine blk_alloc ?_ _)); exact BK302.out) hb); have n9_ := Aside0.mk (below_step (kB3 HB GE273 GE285 GE302) hb); clear HO_274003 HO_274005; clear HO_286003 HO_286005; clear HO296 HO300; clear BK273 BK285; clear BK302 HB; have HO_274003 := n0_; have HO_274005 := n1_; have HO_286003 := n2_; have HO_286005 := n3_; have HO296 := n4_; have HO300 := n5_; have BK273 := n6_; have BK285 := n7_; have BK302 := n8_; have HB := n9_; clear n0_ n1_ n2_ n3_ n4_ n5_ n6_ n7_ n8_ n9_; (try clear hb); (try clear hb2); (try clear hk); (try clear hi)))
         go_meet
         case rel => exact ⟨_, (true), (by first | rfl | (simp; done) | (simp [*]; done)), H', ⟨by have := HJ4.out; first | omega | exact Nat.le_refl _⟩, ⟨by (with_reducible repeat (first | apply Kd.R_alloc | apply Kd.R_drewN | apply Kd.R_drew)); exact Kd.R_mono HO_274003.out (fun _ hk => ⟨hk.1.1.1, ⟨hk.1.1.2.1, ⟨hk.1.1.2.2, ⟨hk.1.2, hk.2⟩⟩⟩⟩)⟩, ⟨by (with_reducible repeat (first | apply Kd.R_alloc | apply Kd.R_drewN | apply Kd.R_drew)); exact Kd.R_mono HO_274005.out (fun _ hk => ⟨hk.1.1.1, ⟨hk.1.1.2.1, ⟨hk.1.1.2.2, ⟨hk.1.2, hk.2⟩⟩⟩⟩)⟩, ⟨by (with_reducible repeat (first | apply Kd.R_alloc | apply Kd.R_drewN | apply Kd.R_drew)); exact Kd.R_mono HO_286003.out (fun _ hk => ⟨hk.1.1.1, ⟨hk.1.1.2.1, ⟨hk.1.1.2.2, ⟨hk.1.2, hk.2⟩⟩⟩⟩)⟩, ⟨by (with_reducible repeat (first | apply Kd.R_alloc | apply Kd.R_drewN | apply Kd.R_drew)); exact Kd.R_mono HO_286005.out (fun _ hk => ⟨hk.1.1.1, ⟨hk.1.1.2.1, ⟨hk.1.1.2.2, ⟨hk.1.2, hk.2⟩⟩⟩⟩)⟩, ⟨by (with_reducible repeat (first | apply Kd.R_alloc | apply Kd.R_drewN | apply Kd.R_drew)); exact Kd.R_mono HO296.out (fun _ hk => ⟨hk.1.1.1.2, ⟨hk.1.1.2, ⟨hk.1.2, ⟨hk.2, hk.1.1.1.1⟩⟩⟩⟩)⟩, ⟨by (with_reducible repeat (first | apply Kd.R_alloc | apply Kd.R_drewN | apply Kd.R_drew)); exact Kd.R_mono HO300.out (fun _ hk => ⟨hk.1.1.1.2, ⟨hk.1.1.2, ⟨hk.1.2, ⟨hk.2, hk.1.1.1.1⟩⟩⟩⟩)⟩, ⟨by (with_reducible repeat (first | refine blk_drewN ?_ _ | refine blk_drew ?_ | refine blk_alloc ?_ _)); exact BK273.out⟩, ⟨by (with_reducible repeat (first | refine blk_drewN ?_ _ | refine blk_drew ?_ | refine blk_alloc ?_ _)); exact BK285.out⟩, ⟨by (with_reducible repeat (first | refine blk_drewN ?_ _ | refine blk_drew ?_ | refine blk_alloc ?_ _)); exact BK302.out⟩, ⟨by repeat (first | (with_reducible first | exact HB.out | apply below_alloc | apply pw_below_drewN | apply below_drew1 | refine below_set ?_ GE273.out | refine below_set ?_ GE285.out | refine below_set ?_ GE302.out) | exact HB.out)⟩⟩
       case rest =>
        clear HC38
        try clear c1
        try clear c2
        try clear c2b0
        try clear c2b1
        try clear p2
        try clear c3
        try clear c4
        try clear c5
        try clear c6
        try clear c12
        try clear c13
        try clear c14
        try clear c15
        try clear c16
        try clear c18
        try clear c19
        try clear c23
        try clear c27
        try clear c30
        try clear c30b0
        try clear c31
        try clear c36
        try clear c36b0
        try clear c36b1
        try clear c39
        try clear c46
        try clear c47
        try clear c52
        try clear c53
        try clear c54
        try clear c56
        try clear c59
        try clear c60
        try clear c62
        try clear hcz14_0
        try clear hcz14_1
        try clear hcz14_2
        try clear hcz14_3
        try clear hcz14_4
        try clear hcz14_5
        try clear hcz20_0
        try clear hcz20_1
        try clear hcz20_2
        try clear hcz20_3
        try clear hcz20_4
        try clear hcz20_5
        try clear hcz21_0
        try clear hcz21_1
        try clear hcz21_2
        try clear hcz21_3
        try clear hcz21_4
        try clear hcz21_5
        try clear hcz24_0
        try clear hcz24_1
        try clear hcz24_2
        try clear hcz24_3
        try clear hcz24_4
        try clear hcz24_5
        try clear hcz25_0
        try clear hcz25_1
        try clear hcz25_2
        try clear hcz25_3
        try clear hcz25_4
        try clear hcz25_5
        try clear hcz32_0
        try clear hcz32_1
        try clear hcz32_2
        try clear hcz32_3
        try clear hcz32_4
        try clear hcz32_5
        try clear hcz34_0
        try clear hcz34_1
        try clear hcz34_2
        try clear hcz34_3
        try clear hcz34_4
        try clear hcz34_5
        try clear hcz40_0
        try clear hcz40_1
        try clear hcz40_2
        try clear hcz40_3
        try clear hcz40_4
        try clear hcz40_5
        try clear hcz42_0
        try clear hcz42_1
        try clear hcz42_2
        try clear hcz42_3
        try clear hcz42_4
        try clear hcz42_5
        try clear hcz48_0
        try clear hcz48_1
        try clear hcz48_2
        try clear hcz48_3
        try clear hcz48_4
        try clear hcz48_5
        try clear hcz55_0
        try clear hcz55_1
        try clear hcz55_2
        try clear hcz55_3
        try clear hcz55_4
        try clear hcz55_5
        try clear hcz57_0
        try clear hcz57_1
        try clear hcz57_2
        try clear hcz57_3
        try clear hcz57_4
        try clear hcz57_5
        try clear hcz61_0
        try clear hcz61_1
        try clear hcz61_2
        try clear hcz61_3
        try clear hcz61_4
        try clear hcz61_5
        try clear hcz63_0
        try clear hcz63_1
        try clear hcz63_2
        try clear hcz63_3
        try clear hcz63_4
        try clear hcz63_5
        try clear hcz8_0
        try clear hcz8_1
        try clear hcz8_2
        try clear hcz8_3
        try clear hcz8_4
        try clear hcz8_5
        try clear hfz14_0
        try clear hfz14_1
        try clear hfz14_2
        try clear hfz14_3
        try clear hfz14_4
        try clear hfz14_5
        try clear hfz20_0
        try clear hfz20_1
        try clear hfz20_2
        try clear hfz20_3
        try clear hfz20_4
        try clear hfz20_5
        try clear hfz21_0
        try clear hfz21_1
        try clear hfz21_2
        try clear hfz21_3
        try clear hfz21_4
        try clear hfz21_5
        try clear hfz24_0
        try clear hfz24_1
        try clear hfz24_2
        try clear hfz24_3
        try clear hfz24_4
        try clear hfz24_5
        try clear hfz25_0
        try clear hfz25_1
        try clear hfz25_2
        try clear hfz25_3
        try clear hfz25_4
        try clear hfz25_5
        try clear hfz32_0
        try clear hfz32_1
        try clear hfz32_2
        try clear hfz32_3
        try clear hfz32_4
        try clear hfz32_5
        try clear hfz34_0
        try clear hfz34_1
        try clear hfz34_2
        try clear hfz34_3
        try clear hfz34_4
        try clear hfz34_5
        try clear hfz40_0
        try clear hfz40_1
        try clear hfz40_2
        try clear hfz40_3
        try clear hfz40_4
        try clear hfz40_5
        try clear hfz42_0
        try clear hfz42_1
        try clear hfz42_2
        try clear hfz42_3
        try clear hfz42_4
        try clear hfz42_5
        try clear hfz48_0
        try clear hfz48_1
        try clear hfz48_2
        try clear hfz48_3
        try clear hfz48_4
        try clear hfz48_5
        try clear hfz55_0
        try clear hfz55_1
        try clear hfz55_2
        try clear hfz55_3
        try clear hfz55_4
        try clear hfz55_5
        try clear hfz57_0
        try clear hfz57_1
        try clear hfz57_2
        try clear hfz57_3
        try clear hfz57_4
        try clear hfz57_5
        try clear hfz61_0
        try clear hfz61_1
        try clear hfz61_2
        try clear hfz61_3
        try clear hfz61_4
        try clear hfz61_5
        try clear hfz63_0
        try clear hfz63_1
        try clear hfz63_2
        try clear hfz63_3
        try clear hfz63_4
        try clear hfz63_5
        try clear hfz8_0
        try clear hfz8_1
        try clear hfz8_2
        try clear hfz8_3
        try clear hfz8_4
        try clear hfz8_5
        try clear p2
        obtain ⟨kq, x57_37, rfl, HA, HJ37, HO_274003, HO_274005, HO_286003, HO_286005, HO_303003, HO_303005, BK273, BK285, BK302, HB⟩ := hcut
        have hl286003_37 := (Kd.R_reads' HO_286003.out).1
        rw [hl286003_37] at HO_286003
        (try simp only [hl286003_37])
        (try simp only [hl286003_37] at BK273)
        (try simp only [hl286003_37] at BK285)
        (try simp only [hl286003_37] at BK302)
        (try simp only [hl286003_37] at HO_274003)
        (try simp only [hl286003_37] at HO_274005)
        (try simp only [hl286003_37] at HO_286005)
        (try simp only [hl286003_37] at HO_303003)
        (try simp only [hl286003_37] at HO_303005)
        have hl286005_37 := (Kd.R_reads' HO_286005.out).1
        rw [hl286005_37] at HO_286005
        (try simp only [hl286005_37])
        (try simp only [hl286005_37] at BK273)
        (try simp only [hl286005_37] at BK285)
        (try simp only [hl286005_37] at BK302)
        (try simp only [hl286005_37] at HO_274003)
        (try simp only [hl286005_37] at HO_274005)
        (try simp only [hl286005_37] at HO_286003)
        (try simp only [hl286005_37] at HO_303003)
        (try simp only [hl286005_37] at HO_303005)
        cases kq with
        | zero => exact absurd HA.out (by simp [laws_FnExactRecordOf.j1])
        | succ kj37 =>
         have H := HA.out
         clear HA
         simp only [laws_FnExactRecordOf.j1] at H
         by_cases c65 : x57_37 = true
         ·subst c65
          have H1 : (some false) = some r := by rw [if_pos rfl] at H; exact H
          clear H
          have H := H1
          clear H1
          obtain rfl := Option.some.inj H
          go_wp2
          go_ret
          exact ⟨by first | rfl | (simp [errW_none, errW_some] <;> rfl) | (simp [*, errW_none, errW_some] <;> rfl), by repeat (first | (with_reducible first | exact HB.out | apply below_alloc | apply pw_below_drewN | apply below_drew1 | refine below_set ?_ GE273.out | refine below_set ?_ GE285.out | refine below_set ?_ GE302.out) | exact HB.out)⟩
         ·replace c65 := Bool.eq_false_iff.mpr c65
          subst c65
          have H1 : ((laws_heldRecord.f kj37 t274 t275 t276 t288 t280 t289 1).bind fun t304 => (if t304 < 0 then (some false) else (if t304 = t287 then (some true) else (some false)))) = some r := by rw [if_neg (show ¬ (false = true) by decide)] at H; exact H
          clear H
          have H := H1
          clear H1
          replace H := Option.bind_eq_some_iff.mp H
          obtain ⟨t304, A660, H⟩ := H
          replace H : (if t304 < 0 then (some false) else (if t304 = t287 then (some true) else (some false))) = some r := H
          have A66 := Aside0.mk A660
          clear A660
          by_cases c67 : t304 < 0
          ·rw [if_pos c67] at H
           have c67b0 : decide (t304 < 0) = true := decide_eq_true c67
           clear c67
           obtain rfl := Option.some.inj H
           have hnb68 := NB285_273.out
           have hnc68 := NB273_285.out
           have hnb69 := NB285_302.out
           have hnc69 := NB302_285.out
           have hcz70_0 : wc.cell? ⟨gb285, 0, none⟩ = some (.int .i64 t274) := (blk_cell BK285.out 0).trans rfl
           have hcz70_1 : wc.cell? ⟨gb285, 1, none⟩ = some (.int .i64 t275) := (blk_cell BK285.out 1).trans rfl
           have hcz70_2 : wc.cell? ⟨gb285, 2, none⟩ = some (.bool t276) := (blk_cell BK285.out 2).trans rfl
           have hcz70_3 : wc.cell? ⟨gb285, 3, none⟩ = some (.slice Ao15 t288.length co15) := (blk_cell BK285.out 3).trans rfl
           have hcz70_4 : wc.cell? ⟨gb285, 4, none⟩ = some (.bool t280) := (blk_cell BK285.out 4).trans rfl
           have hcz70_5 : wc.cell? ⟨gb285, 5, none⟩ = some (.slice Ao16 t289.length co16) := (blk_cell BK285.out 5).trans rfl
           have hfz70_0 := blk_frozen BK285.out 0
           have hfz70_1 := blk_frozen BK285.out 1
           have hfz70_2 := blk_frozen BK285.out 2
           have hfz70_3 := blk_frozen BK285.out 3
           have hfz70_4 := blk_frozen BK285.out 4
           have hfz70_5 := blk_frozen BK285.out 5
           go_wp2_with (first | ((with_reducible refine gate_callee (f := 16) rfl ?_); refine goesL_ (some 60) rfl rfl Tryd.func16 (by kernel_rfl) rfl #[.agg #[.int .i64 t274, .int .i64 t275, .bool t276, .slice Ao15 t288.length co15, .bool t280, .slice Ao16 t289.length co16], .int .i64 1] rfl (by (try simp only [List.map_toArray, List.map_cons, List.map_nil]); first | done | rfl | (simp only [List.length_drop, List.length_take]; rfl)) ?_; (with_reducible refine (laws_heldRecord.calls kj37 t274 t275 t276 _ _ t288 t280 _ _ t289 1 t304 _ ?side1 ?side2 ?side3 ?side4 A66.out).mono ?_); (case side1 => repeat (first | exact (Kd.R_reads' HO_286003.out).2.2 | (with_reducible refine Kd.C_alloc ?_ _) | (with_reducible refine Kd.C_drewN ?_ _) | (with_reducible refine Kd.C_drew ?_))); (case side2 => exact (Kd.R_reads' HO_286003.out).2.1); (case side3 => repeat (first | exact (Kd.R_reads' HO_286005.out).2.2 | (with_reducible refine Kd.C_alloc ?_ _) | (with_reducible refine Kd.C_drewN ?_ _) | (with_reducible refine Kd.C_drew ?_))); (case side4 => exact (Kd.R_reads' HO_286005.out).2.1); rintro e w71 ⟨rfl, hb⟩; refine ⟨_, rfl, ?_⟩; have n0_ := Aside0.mk (Kd.R_below (kr HO_274003) hb); have n1_ := Aside0.mk (Kd.R_below (kr HO_274005) hb); have n2_ := Aside0.mk (Kd.R_below (kr HO_286003) hb); have n3_ := Aside0.mk (Kd.R_below (kr HO_286005) hb); have n4_ := Aside0.mk (Kd.R_below (kr HO_303003) hb); have n5_ := Aside0.mk (Kd.R_below (kr HO_303005) hb); have n6_ := Aside0.mk (blk_below (g := gb273) (o := .cells #[.int .i64 t262, .int .i64 t263, .bool t264, .slice Ao9 t265.length co9, .bool t268, .slice Ao10 t269.length co10] 27 (0, 0)) (kb BK273) hb); have n7_ := Aside0.mk (blk_below (g := gb285) (o := .cells #[.int .i64 t274, .int .i64 t275, .bool t276, .slice Ao15 t288.length co15, .bool t280, .slice Ao16 t289.length co16] 27 (0, 0)) (kb BK285) hb); have n8_ := Aside0.mk (blk_below (g := gb302) (o := .cells #[.int .i64 t291, .int .i64 t292, .bool t293, .slice Ao49 t294.length co49, .bool t297, .slice Ao50 t298.length co50] 27 (0, 0)) (kb BK302) hb); have n9_ := Aside0.mk (below_step (kB3 HB GE273 GE285 GE302) hb); clear HO_274003 HO_274005; clear HO_286003 HO_286005; clear HO_303003 HO_303005; clear BK273 BK285; clear BK302 HB; have HO_274003 := n0_; have HO_274005 := n1_; have HO_286003 := n2_; have HO_286005 := n3_; have HO_303003 := n4_; have HO_303005 := n5_; have BK273 := n6_; have BK285 := n7_; have BK302 := n8_; have HB := n9_; clear n0_ n1_ n2_ n3_ n4_ n5_ n6_ n7_ n8_ n9_; (try clear hb); (try clear hb2); (try clear hk); (try clear hi)))
           go_ret
           exact ⟨by first | rfl | (simp [errW_none, errW_some] <;> rfl) | (simp [*, errW_none, errW_some] <;> rfl), by repeat (first | (with_reducible first | exact HB.out | apply below_alloc | apply pw_below_drewN | apply below_drew1 | refine below_set ?_ GE273.out | refine below_set ?_ GE285.out | refine below_set ?_ GE302.out) | exact HB.out)⟩
          ·rw [if_neg c67] at H
           have c67b0 : decide (t304 < 0) = false := decide_eq_false c67
           clear c67
           by_cases c72 : t304 = t287
           ·rw [if_pos c72] at H
            have c72b0 : (t304 == t287) = true := beq_iff_eq.mpr c72
            have c72b1 : (t304 != t287) = false := bne_eq_false_iff_eq.mpr c72
            clear c72
            obtain rfl := Option.some.inj H
            have hnb73 := NB285_273.out
            have hnc73 := NB273_285.out
            have hnb74 := NB285_302.out
            have hnc74 := NB302_285.out
            have hcz75_0 : wc.cell? ⟨gb285, 0, none⟩ = some (.int .i64 t274) := (blk_cell BK285.out 0).trans rfl
            have hcz75_1 : wc.cell? ⟨gb285, 1, none⟩ = some (.int .i64 t275) := (blk_cell BK285.out 1).trans rfl
            have hcz75_2 : wc.cell? ⟨gb285, 2, none⟩ = some (.bool t276) := (blk_cell BK285.out 2).trans rfl
            have hcz75_3 : wc.cell? ⟨gb285, 3, none⟩ = some (.slice Ao15 t288.length co15) := (blk_cell BK285.out 3).trans rfl
            have hcz75_4 : wc.cell? ⟨gb285, 4, none⟩ = some (.bool t280) := (blk_cell BK285.out 4).trans rfl
            have hcz75_5 : wc.cell? ⟨gb285, 5, none⟩ = some (.slice Ao16 t289.length co16) := (blk_cell BK285.out 5).trans rfl
            have hfz75_0 := blk_frozen BK285.out 0
            have hfz75_1 := blk_frozen BK285.out 1
            have hfz75_2 := blk_frozen BK285.out 2
            have hfz75_3 := blk_frozen BK285.out 3
            have hfz75_4 := blk_frozen BK285.out 4
            have hfz75_5 := blk_frozen BK285.out 5
            go_wp2_with (first | ((with_reducible refine gate_callee (f := 16) rfl ?_); refine goesL_ (some 60) rfl rfl Tryd.func16 (by kernel_rfl) rfl #[.agg #[.int .i64 t274, .int .i64 t275, .bool t276, .slice Ao15 t288.length co15, .bool t280, .slice Ao16 t289.length co16], .int .i64 1] rfl (by (try simp only [List.map_toArray, List.map_cons, List.map_nil]); first | done | rfl | (simp only [List.length_drop, List.length_take]; rfl)) ?_; (with_reducible refine (laws_heldRecord.calls kj37 t274 t275 t276 _ _ t288 t280 _ _ t289 1 t304 _ ?side1 ?side2 ?side3 ?side4 A66.out).mono ?_); (case side1 => repeat (first | exact (Kd.R_reads' HO_286003.out).2.2 | (with_reducible refine Kd.C_alloc ?_ _) | (with_reducible refine Kd.C_drewN ?_ _) | (with_reducible refine Kd.C_drew ?_))); (case side2 => exact (Kd.R_reads' HO_286003.out).2.1); (case side3 => repeat (first | exact (Kd.R_reads' HO_286005.out).2.2 | (with_reducible refine Kd.C_alloc ?_ _) | (with_reducible refine Kd.C_drewN ?_ _) | (with_reducible refine Kd.C_drew ?_))); (case side4 => exact (Kd.R_reads' HO_286005.out).2.1); rintro e w76 ⟨rfl, hb⟩; refine ⟨_, rfl, ?_⟩; have n0_ := Aside0.mk (Kd.R_below (kr HO_274003) hb); have n1_ := Aside0.mk (Kd.R_below (kr HO_274005) hb); have n2_ := Aside0.mk (Kd.R_below (kr HO_286003) hb); have n3_ := Aside0.mk (Kd.R_below (kr HO_286005) hb); have n4_ := Aside0.mk (Kd.R_below (kr HO_303003) hb); have n5_ := Aside0.mk (Kd.R_below (kr HO_303005) hb); have n6_ := Aside0.mk (blk_below (g := gb273) (o := .cells #[.int .i64 t262, .int .i64 t263, .bool t264, .slice Ao9 t265.length co9, .bool t268, .slice Ao10 t269.length co10] 27 (0, 0)) (kb BK273) hb); have n7_ := Aside0.mk (blk_below (g := gb285) (o := .cells #[.int .i64 t274, .int .i64 t275, .bool t276, .slice Ao15 t288.length co15, .bool t280, .slice Ao16 t289.length co16] 27 (0, 0)) (kb BK285) hb); have n8_ := Aside0.mk (blk_below (g := gb302) (o := .cells #[.int .i64 t291, .int .i64 t292, .bool t293, .slice Ao49 t294.length co49, .bool t297, .slice Ao50 t298.length co50] 27 (0, 0)) (kb BK302) hb); have n9_ := Aside0.mk (below_step (kB3 HB GE273 GE285 GE302) hb); clear HO_274003 HO_274005; clear HO_286003 HO_286005; clear HO_303003 HO_303005; clear BK273 BK285; clear BK302 HB; have HO_274003 := n0_; have HO_274005 := n1_; have HO_286003 := n2_; have HO_286005 := n3_; have HO_303003 := n4_; have HO_303005 := n5_; have BK273 := n6_; have BK285 := n7_; have BK302 := n8_; have HB := n9_; clear n0_ n1_ n2_ n3_ n4_ n5_ n6_ n7_ n8_ n9_; (try clear hb); (try clear hb2); (try clear hk); (try clear hi)))
            go_ret
            exact ⟨by first | rfl | (simp [errW_none, errW_some] <;> rfl) | (simp [*, errW_none, errW_some] <;> rfl), by repeat (first | (with_reducible first | exact HB.out | apply below_alloc | apply pw_below_drewN | apply below_drew1 | refine below_set ?_ GE273.out | refine below_set ?_ GE285.out | refine below_set ?_ GE302.out) | exact HB.out)⟩
           ·rw [if_neg c72] at H
            have c72b0 : (t304 == t287) = false := beq_eq_false_iff_ne.mpr c72
            have c72b1 : (t304 != t287) = true := bne_iff_ne.mpr c72
            obtain rfl := Option.some.inj H
            have hnb77 := NB285_273.out
            have hnc77 := NB273_285.out
            have hnb78 := NB285_302.out
            have hnc78 := NB302_285.out
            have hcz79_0 : wc.cell? ⟨gb285, 0, none⟩ = some (.int .i64 t274) := (blk_cell BK285.out 0).trans rfl
            have hcz79_1 : wc.cell? ⟨gb285, 1, none⟩ = some (.int .i64 t275) := (blk_cell BK285.out 1).trans rfl
            have hcz79_2 : wc.cell? ⟨gb285, 2, none⟩ = some (.bool t276) := (blk_cell BK285.out 2).trans rfl
            have hcz79_3 : wc.cell? ⟨gb285, 3, none⟩ = some (.slice Ao15 t288.length co15) := (blk_cell BK285.out 3).trans rfl
            have hcz79_4 : wc.cell? ⟨gb285, 4, none⟩ = some (.bool t280) := (blk_cell BK285.out 4).trans rfl
            have hcz79_5 : wc.cell? ⟨gb285, 5, none⟩ = some (.slice Ao16 t289.length co16) := (blk_cell BK285.out 5).trans rfl
            have hfz79_0 := blk_frozen BK285.out 0
            have hfz79_1 := blk_frozen BK285.out 1
            have hfz79_2 := blk_frozen BK285.out 2
            have hfz79_3 := blk_frozen BK285.out 3
            have hfz79_4 := blk_frozen BK285.out 4
            have hfz79_5 := blk_frozen BK285.out 5
            go_wp2_with (first | ((with_reducible refine gate_callee (f := 16) rfl ?_); refine goesL_ (some 60) rfl rfl Tryd.func16 (by kernel_rfl) rfl #[.agg #[.int .i64 t274, .int .i64 t275, .bool t276, .slice Ao15 t288.length co15, .bool t280, .slice Ao16 t289.length co16], .int .i64 1] rfl (by (try simp only [List.map_toArray, List.map_cons, List.map_nil]); first | done | rfl | (simp only [List.length_drop, List.length_take]; rfl)) ?_; (with_reducible refine (laws_heldRecord.calls kj37 t274 t275 t276 _ _ t288 t280 _ _ t289 1 t304 _ ?side1 ?side2 ?side3 ?side4 A66.out).mono ?_); (case side1 => repeat (first | exact (Kd.R_reads' HO_286003.out).2.2 | (with_reducible refine Kd.C_alloc ?_ _) | (with_reducible refine Kd.C_drewN ?_ _) | (with_reducible refine Kd.C_drew ?_))); (case side2 => exact (Kd.R_reads' HO_286003.out).2.1); (case side3 => repeat (first | exact (Kd.R_reads' HO_286005.out).2.2 | (with_reducible refine Kd.C_alloc ?_ _) | (with_reducible refine Kd.C_drewN ?_ _) | (with_reducible refine Kd.C_drew ?_))); (case side4 => exact (Kd.R_reads' HO_286005.out).2.1); rintro e w80 ⟨rfl, hb⟩; refine ⟨_, rfl, ?_⟩; have n0_ := Aside0.mk (Kd.R_below (kr HO_274003) hb); have n1_ := Aside0.mk (Kd.R_below (kr HO_274005) hb); have n2_ := Aside0.mk (Kd.R_below (kr HO_286003) hb); have n3_ := Aside0.mk (Kd.R_below (kr HO_286005) hb); have n4_ := Aside0.mk (Kd.R_below (kr HO_303003) hb); have n5_ := Aside0.mk (Kd.R_below (kr HO_303005) hb); have n6_ := Aside0.mk (blk_below (g := gb273) (o := .cells #[.int .i64 t262, .int .i64 t263, .bool t264, .slice Ao9 t265.length co9, .bool t268, .slice Ao10 t269.length co10] 27 (0, 0)) (kb BK273) hb); have n7_ := Aside0.mk (blk_below (g := gb285) (o := .cells #[.int .i64 t274, .int .i64 t275, .bool t276, .slice Ao15 t288.length co15, .bool t280, .slice Ao16 t289.length co16] 27 (0, 0)) (kb BK285) hb); have n8_ := Aside0.mk (blk_below (g := gb302) (o := .cells #[.int .i64 t291, .int .i64 t292, .bool t293, .slice Ao49 t294.length co49, .bool t297, .slice Ao50 t298.length co50] 27 (0, 0)) (kb BK302) hb); have n9_ := Aside0.mk (below_step (kB3 HB GE273 GE285 GE302) hb); clear HO_274003 HO_274005; clear HO_286003 HO_286005; clear HO_303003 HO_303005; clear BK273 BK285; clear BK302 HB; have HO_274003 := n0_; have HO_274005 := n1_; have HO_286003 := n2_; have HO_286005 := n3_; have HO_303003 := n4_; have HO_303005 := n5_; have BK273 := n6_; have BK285 := n7_; have BK302 := n8_; have HB := n9_; clear n0_ n1_ n2_ n3_ n4_ n5_ n6_ n7_ n8_ n9_; (try clear hb); (try clear hb2); (try clear hk); (try clear hi)))
            go_ret
            exact ⟨by first | rfl | (simp [errW_none, errW_some] <;> rfl) | (simp [*, errW_none, errW_some] <;> rfl), by repeat (first | (with_reducible first | exact HB.out | apply below_alloc | apply pw_below_drewN | apply below_drew1 | refine below_set ?_ GE273.out | refine below_set ?_ GE285.out | refine below_set ?_ GE302.out) | exact HB.out)⟩
      ·rw [if_neg c36] at H
       have c36b0 : (t290 == t287) = false := beq_eq_false_iff_ne.mpr c36
       have c36b1 : (t290 != t287) = true := bne_iff_ne.mpr c36
       obtain rfl := Option.some.inj H
       have hnb81 := NB285_273.out
       have hnc81 := NB273_285.out
       have hcz82_0 : wc.cell? ⟨gb285, 0, none⟩ = some (.int .i64 t274) := (blk_cell BK285.out 0).trans rfl
       have hcz82_1 : wc.cell? ⟨gb285, 1, none⟩ = some (.int .i64 t275) := (blk_cell BK285.out 1).trans rfl
       have hcz82_2 : wc.cell? ⟨gb285, 2, none⟩ = some (.bool t276) := (blk_cell BK285.out 2).trans rfl
       have hcz82_3 : wc.cell? ⟨gb285, 3, none⟩ = some (.slice Ao15 t277.length co15) := (blk_cell BK285.out 3).trans rfl
       have hcz82_4 : wc.cell? ⟨gb285, 4, none⟩ = some (.bool t280) := (blk_cell BK285.out 4).trans rfl
       have hcz82_5 : wc.cell? ⟨gb285, 5, none⟩ = some (.slice Ao16 t281.length co16) := (blk_cell BK285.out 5).trans rfl
       have hfz82_0 := blk_frozen BK285.out 0
       have hfz82_1 := blk_frozen BK285.out 1
       have hfz82_2 := blk_frozen BK285.out 2
       have hfz82_3 := blk_frozen BK285.out 3
       have hfz82_4 := blk_frozen BK285.out 4
       have hfz82_5 := blk_frozen BK285.out 5
       go_wp2_with (first | ((with_reducible refine gate_callee (f := 15) rfl ?_); refine goesL_ (some 35) rfl rfl Tryd.func15 (by kernel_rfl) rfl #[.agg #[.int .i64 t274, .int .i64 t275, .bool t276, .slice Ao15 t277.length co15, .bool t280, .slice Ao16 t281.length co16], .int .i64 1] rfl (by (try simp only [List.map_toArray, List.map_cons, List.map_nil]); first | done | rfl | (simp only [List.length_drop, List.length_take]; rfl)) ?_; (with_reducible refine (laws_markRecord.calls kj4 t274 t275 t276 (fun k_ => some k_ = (.slice Ao15 t277.length co15 : Value).ownBlock) (.slice Ao15 t277.length co15) t277 t280 (fun k_ => some k_ = (.slice Ao16 t281.length co16 : Value).ownBlock) (.slice Ao16 t281.length co16) t281 1 t287 t288 t289 w _ ?side1 ?side2 ?side3 ?side4 ?side5 A28.out).mono ?_); (case side1 => repeat (first | (with_reducible first | exact HB.out | apply below_alloc | apply pw_below_drewN | apply below_drew1 | refine below_set ?_ GE273.out | refine below_set ?_ GE285.out) | exact HB.out)); (case side2 => exact Kd.R_tight rfl HO_286003.out); (case side3 => exact fun k_ e_ => (HO_286003.out.1 k_ e_.symm).2.2); (case side4 => exact Kd.R_tight rfl HO_286005.out); (case side5 => exact fun k_ e_ => (HO_286005.out.1 k_ e_.symm).2.2); rintro e w83 ⟨rfl, hy0, hy1, hb, hkp⟩; refine ⟨_, rfl, ?_⟩; have n0_ := Aside0.mk (Kd.R_mono (ok' := fun k_ => some k_ ≠ (.slice Ao10 t269.length co10 : Value).ownBlock ∧ some k_ ≠ (.slice Ao15 t277.length co15 : Value).ownBlock ∧ some k_ ≠ (.slice Ao16 t281.length co16 : Value).ownBlock) (Kd.R_keptB (HO_274003.out) hkp (fun k_ hk_ hs_ => Or.elim hs_ (fun e_ => (hk_.2.1) e_) (fun e_ => (hk_.2.2) e_))) (fun k_ hk_ => ⟨hk_.1.1, hk_.1.2.1, hk_.1.2.2⟩)); have n1_ := Aside0.mk (Kd.R_mono (ok' := fun k_ => some k_ ≠ (.slice Ao9 t265.length co9 : Value).ownBlock ∧ some k_ ≠ (.slice Ao15 t277.length co15 : Value).ownBlock ∧ some k_ ≠ (.slice Ao16 t281.length co16 : Value).ownBlock) (Kd.R_keptB (HO_274005.out) hkp (fun k_ hk_ hs_ => Or.elim hs_ (fun e_ => (hk_.2.1) e_) (fun e_ => (hk_.2.2) e_))) (fun k_ hk_ => ⟨hk_.1.1, hk_.1.2.1, hk_.1.2.2⟩)); have n2_ := Aside0.mk (Kd.R_reok rfl hy0 (fun k_ e_ => HO_286003.out.1 k_ e_)); have n3_ := Aside0.mk (Kd.R_reok rfl hy1 (fun k_ e_ => HO_286005.out.1 k_ e_)); have n4_ := Aside0.mk (blk_kept (kb BK273) hkp (fun hs_ => Or.elim hs_ (fun e_ => (fun e_ => (Kd.R_ne HO_286003.out BK273.out (by decide)) e_) e_) (fun e_ => (fun e_ => (Kd.R_ne HO_286005.out BK273.out (by decide)) e_) e_))); have n5_ := Aside0.mk (blk_kept (kb BK285) hkp (fun hs_ => Or.elim hs_ (fun e_ => (fun e_ => (Kd.R_ne HO_286003.out BK285.out (by decide)) e_) e_) (fun e_ => (fun e_ => (Kd.R_ne HO_286005.out BK285.out (by decide)) e_) e_))); have n6_ := Aside0.mk (hb); clear HO_274003 HO_274005; clear HO_286003 HO_286005; clear BK273 BK285 HB; have HO_274003 := n0_; have HO_274005 := n1_; have HO_286003 := n2_; have HO_286005 := n3_; have BK273 := n4_; have BK285 := n5_; have HB := n6_; clear n0_ n1_ n2_ n3_ n4_ n5_ n6_; (try clear hb); (try clear hkp); (try clear hy0); (try clear hy1); have hcz84_0 : w83.cell? ⟨gb285, 0, none⟩ = some (.int .i64 t274) := (blk_cell BK285.out 0).trans rfl; have hcz84_1 : w83.cell? ⟨gb285, 1, none⟩ = some (.int .i64 t275) := (blk_cell BK285.out 1).trans rfl; have hcz84_2 : w83.cell? ⟨gb285, 2, none⟩ = some (.bool t276) := (blk_cell BK285.out 2).trans rfl; have hcz84_3 : w83.cell? ⟨gb285, 3, none⟩ = some (.slice Ao15 t277.length co15) := (blk_cell BK285.out 3).trans rfl; have hcz84_4 : w83.cell? ⟨gb285, 4, none⟩ = some (.bool t280) := (blk_cell BK285.out 4).trans rfl; have hcz84_5 : w83.cell? ⟨gb285, 5, none⟩ = some (.slice Ao16 t281.length co16) := (blk_cell BK285.out 5).trans rfl; have hfz84_0 := blk_frozen BK285.out 0; have hfz84_1 := blk_frozen BK285.out 1; have hfz84_2 := blk_frozen BK285.out 2; have hfz84_3 := blk_frozen BK285.out 3; have hfz84_4 := blk_frozen BK285.out 4; have hfz84_5 := blk_frozen BK285.out 5) | ((with_reducible refine gate_callee (f := 16) rfl ?_); refine goesL_ (some 38) rfl rfl Tryd.func16 (by kernel_rfl) rfl #[.agg #[.int .i64 t274, .int .i64 t275, .bool t276, .slice Ao15 t288.length co15, .bool t280, .slice Ao16 t289.length co16], .int .i64 1] rfl (by (try simp only [List.map_toArray, List.map_cons, List.map_nil]); first | done | (rw [show t288.length = t277.length from (Kd.R_reads' HO_286003.out).1.symm, show t289.length = t281.length from (Kd.R_reads' HO_286005.out).1.symm] <;> rfl) | rfl | (simp only [List.length_drop, List.length_take]; rfl)) ?_; (with_reducible refine (laws_heldRecord.calls kj4 t274 t275 t276 _ _ t288 t280 _ _ t289 1 t290 _ ?side1 ?side2 ?side3 ?side4 A29.out).mono ?_); (case side1 => repeat (first | exact (Kd.R_reads' HO_286003.out).2.2 | (with_reducible refine Kd.C_alloc ?_ _) | (with_reducible refine Kd.C_drewN ?_ _) | (with_reducible refine Kd.C_drew ?_))); (case side2 => rw [show t288.length = t277.length from (Kd.R_reads' HO_286003.out).1.symm]; exact (Kd.R_reads' HO_286003.out).2.1); (case side3 => repeat (first | exact (Kd.R_reads' HO_286005.out).2.2 | (with_reducible refine Kd.C_alloc ?_ _) | (with_reducible refine Kd.C_drewN ?_ _) | (with_reducible refine Kd.C_drew ?_))); (case side4 => rw [show t289.length = t281.length from (Kd.R_reads' HO_286005.out).1.symm]; exact (Kd.R_reads' HO_286005.out).2.1); rintro e w85 ⟨rfl, hb⟩; refine ⟨_, rfl, ?_⟩; have n0_ := Aside0.mk (Kd.R_below (kr HO_274003) hb); have n1_ := Aside0.mk (Kd.R_below (kr HO_274005) hb); have n2_ := Aside0.mk (Kd.R_below (kr HO_286003) hb); have n3_ := Aside0.mk (Kd.R_below (kr HO_286005) hb); have n4_ := Aside0.mk (blk_below (g := gb273) (o := .cells #[.int .i64 t262, .int .i64 t263, .bool t264, .slice Ao9 t265.length co9, .bool t268, .slice Ao10 t269.length co10] 27 (0, 0)) (kb BK273) hb); have n5_ := Aside0.mk (blk_below (g := gb285) (o := .cells #[.int .i64 t274, .int .i64 t275, .bool t276, .slice Ao15 t277.length co15, .bool t280, .slice Ao16 t281.length co16] 27 (0, 0)) (kb BK285) hb); have n6_ := Aside0.mk (below_step (kB2 HB GE273 GE285) hb); clear HO_274003 HO_274005; clear HO_286003 HO_286005; clear BK273 BK285 HB; have HO_274003 := n0_; have HO_274005 := n1_; have HO_286003 := n2_; have HO_286005 := n3_; have BK273 := n4_; have BK285 := n5_; have HB := n6_; clear n0_ n1_ n2_ n3_ n4_ n5_ n6_; (try clear hb); (try clear hb2); (try clear hk); (try clear hi)))
       go_ret
       exact ⟨by first | rfl | (simp [errW_none, errW_some] <;> rfl) | (simp [*, errW_none, errW_some] <;> rfl), by repeat (first | (with_reducible first | exact HB.out | apply below_alloc | apply pw_below_drewN | apply below_drew1 | refine below_set ?_ GE273.out | refine below_set ?_ GE285.out) | exact HB.out)⟩

/-- THE ONE PURE STATEMENT of laws_FnExactRecordOf: yours. -/
def laws_FnExactRecordOf.Pure : Prop := ∀ (a0 : ByteArray), a0.size ≤ 140737488351232 → ∃ k, laws_FnExactRecordOf.f k a0 = some true
theorem laws_FnExactRecordOf.walk (P : laws_FnExactRecordOf.Pure) (a0 : ByteArray) (w : World) (w0 : a0.size ≤ 140737488351232) (hGM : GOKM w) :
  Calls Tryd.prog 4 #[.string a0] w fun e w' => e = .returned (.bool true) ∧ Below w.heap.size w w' := by
 obtain ⟨k, h⟩ := P a0 w0
 refine (laws_FnExactRecordOf.calls k a0 true w hGM h).mono ?_
 rintro e w' ⟨rfl, hd⟩
 exact ⟨rfl, hd⟩

end Go.Proofs.YtlijpnglocgldaaDoor.P
