-- Laid by wip/xprint.py and wip/resplit.py (programs of this session's over the kit's printer). Not trusted: Lean checks it.
import Derived.Test.YtlijpnglocgldaaDoorBase
import Derived.Test.YtlijpnglocgldaaDoorShort
import Derived.Test.YtlijpnglocgldaaDoorQ3
import Derived.Test.YtlijpnglocgldaaDoorQ0
namespace Go.Proofs.YtlijpnglocgldaaDoor.P
open Go.RowKit Go.Proofs.YtlijpnglocgldaaDoorW.PrintWords Go.Proofs.YtlijpnglocgldaaDoorW.PrintLast Go.Proofs.YtlijpnglocgldaaDoorW.PrintMore
attribute [local go_sem] max2_int min2_int max_two min_two max_three min_three max_four min_four   -- for this text's walks alone
set_option linter.unusedVariables false
set_option linter.unusedSimpArgs false

/-! ### spec_RecordOf: function 13 -/
def spec_RecordOf.f (k : Nat) (a0 : ByteArray) : Option (Int × Int × Bool × List Int × Bool × List Int × Bool) := (spec_l41Cut.f k a0).bind fun t223 => (if (t223.length : Int) = 4 then (if 0 < (t223.length : Int) then ((spec_l41Number.f k (rdOf ByteArray.empty t223 0)).bind fun t227 => (if 1 < (t223.length : Int) then ((spec_l41Number.f k (rdOf ByteArray.empty t223 1)).bind fun t229 => (if 2 < (t223.length : Int) then ((spec_l41Bytes.f k (rdOf ByteArray.empty t223 2)).bind fun t232 => (if 3 < (t223.length : Int) then ((spec_l41Bytes.f k (rdOf ByteArray.empty t223 3)).bind fun t237 => ((spec_RecordText.f k t227 t229 ((rdOf ByteArray.empty t223 2).toList != ([45] : List UInt8)) t232 ((rdOf ByteArray.empty t223 3).toList != ([45] : List UInt8)) t237).bind fun t241 => (if t241.toList = a0.toList then (some (t227, t229, ((rdOf ByteArray.empty t223 2).toList != ([45] : List UInt8)), t232, ((rdOf ByteArray.empty t223 3).toList != ([45] : List UInt8)), t237, true)) else (some (0, 0, false, ([] : List Int), false, ([] : List Int), false))))) else (none))) else (none))) else (none))) else (none)) else (some (0, 0, false, ([] : List Int), false, ([] : List Int), false)))
theorem spec_RecordOf.mono : ∀ a0 k, LeO (spec_RecordOf.f k a0) (spec_RecordOf.f (k + 1) a0) := by
 intro a0 k
 unfold spec_RecordOf.f
 repeat' first
   | (with_reducible exact spec_RecordText.mono _ _ _ _ _ _ _)
   | (with_reducible exact spec_l41Bytes.mono _ _)
   | (with_reducible exact spec_l41Cut.mono _ _)
   | (with_reducible exact spec_l41Number.mono _ _)
   | (with_reducible exact LeO.refl _)
   | (with_reducible exact LeO.none _)
   | (with_reducible refine LeO.ite ?_ ?_)
   | (with_reducible refine LeO.bind ?_ (fun _ => ?_))
   | exact spec_RecordText.mono _ _ _ _ _ _ _
   | exact spec_l41Bytes.mono _ _
   | exact spec_l41Cut.mono _ _
   | exact spec_l41Number.mono _ _
   | exact LeO.none _
   | refine LeO.ite ?_ ?_
   | refine LeO.bind ?_ (fun _ => ?_)
def spec_RecordOf.T4 : Bool × List (List Nat × List Nat) := (true, [([], []), ([0], [0]), ([1], [1]), ([2], [2]), ([], []), ([4], [4]), ([5], [5]), ([6, 3], [6]), ([], []), ([8], [8]), ([9], [9]), ([10], [10]), ([], []), ([12], [12]), ([13], [13]), ([14, 7], [14]), ([], []), ([16], [16]), ([17], [17]), ([18], [18]), ([], []), ([20], [20]), ([21], [21]), ([22, 15], [22]), ([3, 7, 11, 15, 19, 23], [3, 7, 11, 15, 19, 23]), ([], []), ([25, 24, 23, 0, 1, 2, 3, 4, 5, 6, 7, 8, 9, 10, 11, 12, 13, 14, 15, 16, 17, 18, 19, 20, 21, 22, 23, 24, 25], [24, 25])])
def spec_RecordOf.B4 : List Nat := [0, 1, 3, 7, 0, 16, 48, 127, 0, 256, 768, 1792, 0, 4096, 12288, 28927, 0, 65536, 196608, 458752, 0, 1048576, 3145728, 7401727, 16777215, 0, 67108863]
theorem spec_RecordOf.tab4 : rtab .any (opsOf Tryd.f13 4) = spec_RecordOf.T4 := by kernel_rfl
theorem spec_RecordOf.bits4 : waitsOk spec_RecordOf.T4.2 spec_RecordOf.B4 = true := by kernel_rfl
set_option maxHeartbeats 8000000 in
set_option maxRecDepth 100000 in
theorem spec_RecordOf.calls (k : Nat) (a0 : ByteArray) (r1 : Int) (r2 : Int) (r3 : Bool) (r4 : List Int) (r5 : Bool) (r6 : List Int) (r7 : Bool) (w : World) (h : spec_RecordOf.f k a0 = some (r1, r2, r3, r4, r5, r6, r7)) :
  Calls Tryd.prog 13 #[.string a0] w fun e w' => ∃ v3_ v5_ : Value, e = .returned (.tuple #[.agg #[.int .i64 r1, .int .i64 r2, .bool r3, v3_, .bool r5, v5_], .bool r7]) ∧ Kd.R (Kd.int .i64) 3 w' w.heap.size (fun k_ => some k_ ≠ (v5_ : Value).ownBlock) v3_ r4 ∧ Kd.R (Kd.int .i64) 3 w' w.heap.size (fun k_ => some k_ ≠ (v3_ : Value).ownBlock) v5_ r6 ∧ Below w.heap.size w w' := by
 have hu27 := Tryd.underlying27
 have HB := Aside0.mk (Below.refl w.heap.size w)
 have H : ((spec_l41Cut.f k a0).bind fun t223 => (if (t223.length : Int) = 4 then (if 0 < (t223.length : Int) then ((spec_l41Number.f k (rdOf ByteArray.empty t223 0)).bind fun t227 => (if 1 < (t223.length : Int) then ((spec_l41Number.f k (rdOf ByteArray.empty t223 1)).bind fun t229 => (if 2 < (t223.length : Int) then ((spec_l41Bytes.f k (rdOf ByteArray.empty t223 2)).bind fun t232 => (if 3 < (t223.length : Int) then ((spec_l41Bytes.f k (rdOf ByteArray.empty t223 3)).bind fun t237 => ((spec_RecordText.f k t227 t229 ((rdOf ByteArray.empty t223 2).toList != ([45] : List UInt8)) t232 ((rdOf ByteArray.empty t223 3).toList != ([45] : List UInt8)) t237).bind fun t241 => (if t241.toList = a0.toList then (some (t227, t229, ((rdOf ByteArray.empty t223 2).toList != ([45] : List UInt8)), t232, ((rdOf ByteArray.empty t223 3).toList != ([45] : List UInt8)), t237, true)) else (some (0, 0, false, ([] : List Int), false, ([] : List Int), false))))) else (none))) else (none))) else (none))) else (none)) else (some (0, 0, false, ([] : List Int), false, ([] : List Int), false)))) = some (r1, r2, r3, r4, r5, r6, r7) := h
 clear h
 replace H := Option.bind_eq_some_iff.mp H
 obtain ⟨t223, A20, H⟩ := H
 replace H : (if (t223.length : Int) = 4 then (if 0 < (t223.length : Int) then ((spec_l41Number.f k (rdOf ByteArray.empty t223 0)).bind fun t227 => (if 1 < (t223.length : Int) then ((spec_l41Number.f k (rdOf ByteArray.empty t223 1)).bind fun t229 => (if 2 < (t223.length : Int) then ((spec_l41Bytes.f k (rdOf ByteArray.empty t223 2)).bind fun t232 => (if 3 < (t223.length : Int) then ((spec_l41Bytes.f k (rdOf ByteArray.empty t223 3)).bind fun t237 => ((spec_RecordText.f k t227 t229 ((rdOf ByteArray.empty t223 2).toList != ([45] : List UInt8)) t232 ((rdOf ByteArray.empty t223 3).toList != ([45] : List UInt8)) t237).bind fun t241 => (if t241.toList = a0.toList then (some (t227, t229, ((rdOf ByteArray.empty t223 2).toList != ([45] : List UInt8)), t232, ((rdOf ByteArray.empty t223 3).toList != ([45] : List UInt8)), t237, true)) else (some (0, 0, false, ([] : List Int), false, ([] : List Int), false))))) else (none))) else (none))) else (none))) else (none)) else (some (0, 0, false, ([] : List Int), false, ([] : List Int), false))) = some (r1, r2, r3, r4, r5, r6, r7) := H
 have A2 := Aside0.mk A20
 clear A20
 by_cases c3 : (t223.length : Int) = 4
 ·rw [if_pos c3] at H
  have c3b0 : ((t223.length : Int) == 4) = true := beq_iff_eq.mpr c3
  have c3b1 : ((t223.length : Int) != 4) = false := bne_eq_false_iff_eq.mpr c3
  clear c3
  by_cases c4 : 0 < (t223.length : Int)
  ·rw [if_pos c4] at H
   have c4b0 : decide (0 < (t223.length : Int)) = true := decide_eq_true c4
   have c4b1 : decide (0 < t223.length) = true := decide_eq_true (by omega)
   clear c4
   replace H := Option.bind_eq_some_iff.mp H
   obtain ⟨t227, A50, H⟩ := H
   replace H : (if 1 < (t223.length : Int) then ((spec_l41Number.f k (rdOf ByteArray.empty t223 1)).bind fun t229 => (if 2 < (t223.length : Int) then ((spec_l41Bytes.f k (rdOf ByteArray.empty t223 2)).bind fun t232 => (if 3 < (t223.length : Int) then ((spec_l41Bytes.f k (rdOf ByteArray.empty t223 3)).bind fun t237 => ((spec_RecordText.f k t227 t229 ((rdOf ByteArray.empty t223 2).toList != ([45] : List UInt8)) t232 ((rdOf ByteArray.empty t223 3).toList != ([45] : List UInt8)) t237).bind fun t241 => (if t241.toList = a0.toList then (some (t227, t229, ((rdOf ByteArray.empty t223 2).toList != ([45] : List UInt8)), t232, ((rdOf ByteArray.empty t223 3).toList != ([45] : List UInt8)), t237, true)) else (some (0, 0, false, ([] : List Int), false, ([] : List Int), false))))) else (none))) else (none))) else (none)) = some (r1, r2, r3, r4, r5, r6, r7) := H
   have A5 := Aside0.mk A50
   clear A50
   by_cases c6 : 1 < (t223.length : Int)
   ·rw [if_pos c6] at H
    have c6b0 : decide (1 < (t223.length : Int)) = true := decide_eq_true c6
    have c6b1 : decide (1 < t223.length) = true := decide_eq_true (by omega)
    clear c6
    replace H := Option.bind_eq_some_iff.mp H
    obtain ⟨t229, A70, H⟩ := H
    replace H : (if 2 < (t223.length : Int) then ((spec_l41Bytes.f k (rdOf ByteArray.empty t223 2)).bind fun t232 => (if 3 < (t223.length : Int) then ((spec_l41Bytes.f k (rdOf ByteArray.empty t223 3)).bind fun t237 => ((spec_RecordText.f k t227 t229 ((rdOf ByteArray.empty t223 2).toList != ([45] : List UInt8)) t232 ((rdOf ByteArray.empty t223 3).toList != ([45] : List UInt8)) t237).bind fun t241 => (if t241.toList = a0.toList then (some (t227, t229, ((rdOf ByteArray.empty t223 2).toList != ([45] : List UInt8)), t232, ((rdOf ByteArray.empty t223 3).toList != ([45] : List UInt8)), t237, true)) else (some (0, 0, false, ([] : List Int), false, ([] : List Int), false))))) else (none))) else (none)) = some (r1, r2, r3, r4, r5, r6, r7) := H
    have A7 := Aside0.mk A70
    clear A70
    by_cases c8 : 2 < (t223.length : Int)
    ·rw [if_pos c8] at H
     have c8b0 : decide (2 < (t223.length : Int)) = true := decide_eq_true c8
     have c8b1 : decide (2 < t223.length) = true := decide_eq_true (by omega)
     clear c8
     replace H := Option.bind_eq_some_iff.mp H
     obtain ⟨t232, A90, H⟩ := H
     replace H : (if 3 < (t223.length : Int) then ((spec_l41Bytes.f k (rdOf ByteArray.empty t223 3)).bind fun t237 => ((spec_RecordText.f k t227 t229 ((rdOf ByteArray.empty t223 2).toList != ([45] : List UInt8)) t232 ((rdOf ByteArray.empty t223 3).toList != ([45] : List UInt8)) t237).bind fun t241 => (if t241.toList = a0.toList then (some (t227, t229, ((rdOf ByteArray.empty t223 2).toList != ([45] : List UInt8)), t232, ((rdOf ByteArray.empty t223 3).toList != ([45] : List UInt8)), t237, true)) else (some (0, 0, false, ([] : List Int), false, ([] : List Int), false))))) else (none)) = some (r1, r2, r3, r4, r5, r6, r7) := H
     have A9 := Aside0.mk A90
     clear A90
     by_cases c10 : 3 < (t223.length : Int)
     ·rw [if_pos c10] at H
      have c10b0 : decide (3 < (t223.length : Int)) = true := decide_eq_true c10
      have c10b1 : decide (3 < t223.length) = true := decide_eq_true (by omega)
      clear c10
      replace H := Option.bind_eq_some_iff.mp H
      obtain ⟨t237, A110, H⟩ := H
      replace H : ((spec_RecordText.f k t227 t229 ((rdOf ByteArray.empty t223 2).toList != ([45] : List UInt8)) t232 ((rdOf ByteArray.empty t223 3).toList != ([45] : List UInt8)) t237).bind fun t241 => (if t241.toList = a0.toList then (some (t227, t229, ((rdOf ByteArray.empty t223 2).toList != ([45] : List UInt8)), t232, ((rdOf ByteArray.empty t223 3).toList != ([45] : List UInt8)), t237, true)) else (some (0, 0, false, ([] : List Int), false, ([] : List Int), false)))) = some (r1, r2, r3, r4, r5, r6, r7) := H
      have A11 := Aside0.mk A110
      clear A110
      replace H := Option.bind_eq_some_iff.mp H
      obtain ⟨t241, A120, H⟩ := H
      replace H : (if t241.toList = a0.toList then (some (t227, t229, ((rdOf ByteArray.empty t223 2).toList != ([45] : List UInt8)), t232, ((rdOf ByteArray.empty t223 3).toList != ([45] : List UInt8)), t237, true)) else (some (0, 0, false, ([] : List Int), false, ([] : List Int), false))) = some (r1, r2, r3, r4, r5, r6, r7) := H
      have A12 := Aside0.mk A120
      clear A120
      have HH_ := Aside0.mk H
      clear H
      go_enter Tryd.func13, Tryd.ntmps13
      try go_wp2_with (first | ((with_reducible refine gate_dst (N := 2) rfl ?_); refine box_event ?hg (N := 2) ?hd (cs := #[.int .i64 0, .int .i64 0, .bool false, .slice none 0 0, .bool false, .slice none 0 0]) (t := 27) ?hr ?_; (case hd => rfl); (case hg => rfl); (case hr => first | (go_simp; done) | (go_simp; rfl)); intro gb222 hg w14 hbox hb; have n0_ := Aside0.mk (below_step (kB0 HB) hb); have n1_ := Aside0.mk (hbox); have n2_ := Aside0.mk ((by rw [hg]; exact (below_size (kB0 HB)) : w.heap.size ≤ gb222)); have n3_ := Aside0.mk ((by rw [hg]; exact (below_size (kB0 HB)) : w.heap.size ≤ gb222)); clear HB; have HB := n0_; have BK222 := n1_; have GW222 := n2_; have GE222 := n3_; clear n0_ n1_ n2_ n3_; clear hb hbox hg) | ((with_reducible refine gate_callee (f := 28) rfl ?_); refine goesL_ (some 7) rfl rfl Tryd.func28 (by kernel_rfl) rfl #[.string a0] rfl (by (try simp only [List.map_toArray, List.map_cons, List.map_nil]); first | done | rfl | (simp only [List.length_drop, List.length_take]; rfl)) ?_; (with_reducible refine (spec_l41Cut.calls k a0 t223 _ A2.out).mono ?_); rintro e w15 ⟨v224, rfl, ho0, hb⟩; refine ⟨_, rfl, ?_⟩; have n0_ := Aside0.mk (Kd.R_lower ho0 (below_size (kB1 HB GE222))); have n1_ := Aside0.mk (blk_below (g := gb222) (o := .cells #[.int .i64 0, .int .i64 0, .bool false, .slice none 0 0, .bool false, .slice none 0 0] 27 (0, 0)) (kb BK222) hb); have n2_ := Aside0.mk (below_step (kB1 HB GE222) hb); clear BK222 HB; have HO225 := n0_; have BK222 := n1_; have HB := n2_; clear n0_ n1_ n2_; (try clear hb); (try clear hb2); (try clear hk); (try clear hi); (try clear ho0); obtain ⟨Ao16, co16, eo16⟩ := Kd.R_slice HO225.out; subst eo16))
      have n0_ := Aside0.mk (Kd.R_drew HO225.out)
      have n1_ := Aside0.mk (blk_drew BK222.out)
      have n2_ := Aside0.mk (below_drew1 HB.out)
      clear HO225 BK222 HB
      have HO225 := n0_
      have BK222 := n1_
      have HB := n2_
      clear n0_ n1_ n2_
      have p226 : 0 ≤ (0 : Int) := (by omega)
      have q226 : 0 < (t223.length : Int) := of_decide_eq_true (by first | (with_reducible assumption) | assumption)
      obtain ⟨ad226, e226, hx226_0⟩ := Kd.at_string (Kd.R_reads' HO225.out).2.2 0 p226 q226
      cases e226
      have qi226 : (0 < t223.length) = True := eq_true (by omega)
      (try rw [show ((0 : Int)).toNat = 0 from rfl] at hx226_0)
      (try rw [Addr.add_zero'] at hx226_0)
      replace p226 := eq_true p226
      replace q226 := eq_true q226
      have p228 : 0 ≤ (1 : Int) := (by omega)
      have q228 : 1 < (t223.length : Int) := of_decide_eq_true (by first | (with_reducible assumption) | assumption)
      obtain ⟨ad228, e228, hx228_0⟩ := Kd.at_string (Kd.R_reads' HO225.out).2.2 1 p228 q228
      obtain rfl : ad226 = ad228 := (by injection e228)
      (try simp only [show (1 : Int).toNat = 1 from rfl, Nat.reduceMul, Nat.reduceEqDiff, Go.Addr.add, ↓reduceIte] at hx228_0)
      have qi228 : (1 < t223.length) = True := eq_true (by omega)
      (try rw [show ((1 : Int)).toNat = 1 from rfl] at hx228_0)
      replace p228 := eq_true p228
      replace q228 := eq_true q228
      have p230 : 0 ≤ (2 : Int) := (by omega)
      have q230 : 2 < (t223.length : Int) := of_decide_eq_true (by first | (with_reducible assumption) | assumption)
      obtain ⟨ad230, e230, hx230_0⟩ := Kd.at_string (Kd.R_reads' HO225.out).2.2 2 p230 q230
      obtain rfl : ad226 = ad230 := (by injection e230)
      (try simp only [show (2 : Int).toNat = 2 from rfl, Nat.reduceMul, Nat.reduceEqDiff, Go.Addr.add, ↓reduceIte] at hx230_0)
      have qi230 : (2 < t223.length) = True := eq_true (by omega)
      (try rw [show ((2 : Int)).toNat = 2 from rfl] at hx230_0)
      replace p230 := eq_true p230
      replace q230 := eq_true q230
      have p231 : 0 ≤ (2 : Int) := (by omega)
      have q231 : 2 < (t223.length : Int) := of_decide_eq_true (by first | (with_reducible assumption) | assumption)
      obtain ⟨ad231, e231, hx231_0⟩ := Kd.at_string (Kd.R_reads' HO225.out).2.2 2 p231 q231
      obtain rfl : ad226 = ad231 := (by injection e231)
      (try simp only [show (2 : Int).toNat = 2 from rfl, Nat.reduceMul, Nat.reduceEqDiff, Go.Addr.add, ↓reduceIte] at hx231_0)
      have qi231 : (2 < t223.length) = True := eq_true (by omega)
      (try rw [show ((2 : Int)).toNat = 2 from rfl] at hx231_0)
      replace p231 := eq_true p231
      replace q231 := eq_true q231
      have p235 : 0 ≤ (3 : Int) := (by omega)
      have q235 : 3 < (t223.length : Int) := of_decide_eq_true (by first | (with_reducible assumption) | assumption)
      obtain ⟨ad235, e235, hx235_0⟩ := Kd.at_string (Kd.R_reads' HO225.out).2.2 3 p235 q235
      obtain rfl : ad226 = ad235 := (by injection e235)
      (try simp only [show (3 : Int).toNat = 3 from rfl, Nat.reduceMul, Nat.reduceEqDiff, Go.Addr.add, ↓reduceIte] at hx235_0)
      have qi235 : (3 < t223.length) = True := eq_true (by omega)
      (try rw [show ((3 : Int)).toNat = 3 from rfl] at hx235_0)
      replace p235 := eq_true p235
      replace q235 := eq_true q235
      have p236 : 0 ≤ (3 : Int) := (by omega)
      have q236 : 3 < (t223.length : Int) := of_decide_eq_true (by first | (with_reducible assumption) | assumption)
      obtain ⟨ad236, e236, hx236_0⟩ := Kd.at_string (Kd.R_reads' HO225.out).2.2 3 p236 q236
      obtain rfl : ad226 = ad236 := (by injection e236)
      (try simp only [show (3 : Int).toNat = 3 from rfl, Nat.reduceMul, Nat.reduceEqDiff, Go.Addr.add, ↓reduceIte] at hx236_0)
      have qi236 : (3 < t223.length) = True := eq_true (by omega)
      (try rw [show ((3 : Int)).toNat = 3 from rfl] at hx236_0)
      replace p236 := eq_true p236
      replace q236 := eq_true q236
      refine start_ (n := 27) (S := fun w' => w'.cell? ad226 = some (.string (rdOf ByteArray.empty t223 0)) ∧ w'.cell? ⟨ad226.block, ad226.off + 1, none⟩ = some (.string (rdOf ByteArray.empty t223 1)) ∧ w'.cell? ⟨ad226.block, ad226.off + 2, none⟩ = some (.string (rdOf ByteArray.empty t223 2)) ∧ w'.cell? ⟨ad226.block, ad226.off + 2, none⟩ = some (.string (rdOf ByteArray.empty t223 2)) ∧ w'.cell? ⟨ad226.block, ad226.off + 3, none⟩ = some (.string (rdOf ByteArray.empty t223 3)) ∧ w'.cell? ⟨ad226.block, ad226.off + 3, none⟩ = some (.string (rdOf ByteArray.empty t223 3))) (ds := []) #[false, false, false, false, false, false, false, false, false, false, false, false, false, false, false, false, false, false, false, false, false, false, false, false, false, false, false] (by kernel_rfl) rfl rfl ⟨hx226_0, hx228_0, hx230_0, hx231_0, hx235_0, hx236_0⟩ (fun hHeld => ?_); refine with_tabW spec_RecordOf.tab4 spec_RecordOf.bits4 (fun HT_ HW_ => ?_)
      generalize w15.drew = w17 at HO225 BK222 HB hx226_0 hx228_0 hx230_0 hx231_0 hx235_0 hx236_0 hHeld ⊢
      refine pure_ (i := 0) (N := some 12) (v := ?_) (a' := ?_) #[true, false, false, false, false, false, false, false, false, false, false, false, false, false, false, false, false, false, false, false, false, false, false, false, false, false, false] rfl rfl (any_of HT_.out (by kernel_rfl)) (fun _ _ _ h => h) (Or.inl ⟨by rfl, ?_⟩) ?_ ?_
      rotate_left
      ·intro w'
       go_simp
       with_reducible rfl
      rotate_left
      ·simp only [Act.put, List.setIfInBounds_toArray, List.set_cons_zero, List.set_cons_succ, i64_w, i32_w]
       rfl
      refine pure_ (i := 1) (N := some 13) (v := ?_) (a' := ?_) #[true, true, false, false, false, false, false, false, false, false, false, false, false, false, false, false, false, false, false, false, false, false, false, false, false, false, false] rfl rfl (any_of HT_.out (by kernel_rfl)) (fun _ _ _ h => h) (Or.inl ⟨by rfl, ?_⟩) ?_ ?_
      rotate_left
      ·intro w'
       go_simp
       with_reducible rfl
      rotate_left
      ·simp only [Act.put, List.setIfInBounds_toArray, List.set_cons_zero, List.set_cons_succ, i64_w, i32_w]
       rfl
      refine pure_ (i := 4) (N := some 16) (v := ?_) (a' := ?_) #[true, true, false, false, true, false, false, false, false, false, false, false, false, false, false, false, false, false, false, false, false, false, false, false, false, false, false] rfl rfl (any_of HT_.out (by kernel_rfl)) (fun _ _ _ h => h) (Or.inl ⟨by rfl, ?_⟩) ?_ ?_
      rotate_left
      ·intro w'
       go_simp
       with_reducible rfl
      rotate_left
      ·simp only [Act.put, List.setIfInBounds_toArray, List.set_cons_zero, List.set_cons_succ, i64_w, i32_w]
       rfl
      refine pure_ (i := 5) (N := some 17) (v := ?_) (a' := ?_) #[true, true, false, false, true, true, false, false, false, false, false, false, false, false, false, false, false, false, false, false, false, false, false, false, false, false, false] rfl rfl (any_of HT_.out (by kernel_rfl)) (fun _ _ _ h => h) (Or.inl ⟨by rfl, ?_⟩) ?_ ?_
      rotate_left
      ·intro w'
       go_simp
       with_reducible rfl
      rotate_left
      ·simp only [Act.put, List.setIfInBounds_toArray, List.set_cons_zero, List.set_cons_succ, i64_w, i32_w]
       rfl
      refine pure_ (i := 8) (N := some 20) (v := ?_) (a' := ?_) #[true, true, false, false, true, true, false, false, true, false, false, false, false, false, false, false, false, false, false, false, false, false, false, false, false, false, false] rfl rfl (any_of HT_.out (by kernel_rfl)) (fun _ _ _ h => h) (Or.inl ⟨by rfl, ?_⟩) ?_ ?_
      rotate_left
      ·intro w'
       go_simp
       with_reducible rfl
      rotate_left
      ·simp only [Act.put, List.setIfInBounds_toArray, List.set_cons_zero, List.set_cons_succ, i64_w, i32_w]
       rfl
      refine pure_ (i := 9) (N := some 21) (v := ?_) (a' := ?_) #[true, true, false, false, true, true, false, false, true, true, false, false, false, false, false, false, false, false, false, false, false, false, false, false, false, false, false] rfl rfl (any_of HT_.out (by kernel_rfl)) (fun _ _ _ h => h) (Or.inl ⟨by rfl, ?_⟩) ?_ ?_
      rotate_left
      ·intro w'
       go_simp
       with_reducible rfl
      rotate_left
      ·simp only [Act.put, List.setIfInBounds_toArray, List.set_cons_zero, List.set_cons_succ, i64_w, i32_w]
       rfl
      refine pure_ (i := 12) (N := some 24) (v := ?_) (a' := ?_) #[true, true, false, false, true, true, false, false, true, true, false, false, true, false, false, false, false, false, false, false, false, false, false, false, false, false, false] rfl rfl (any_of HT_.out (by kernel_rfl)) (fun _ _ _ h => h) (Or.inl ⟨by rfl, ?_⟩) ?_ ?_
      rotate_left
      ·intro w'
       go_simp
       with_reducible rfl
      rotate_left
      ·simp only [Act.put, List.setIfInBounds_toArray, List.set_cons_zero, List.set_cons_succ, i64_w, i32_w]
       rfl
      refine pure_ (i := 13) (N := some 25) (v := ?_) (a' := ?_) #[true, true, false, false, true, true, false, false, true, true, false, false, true, true, false, false, false, false, false, false, false, false, false, false, false, false, false] rfl rfl (any_of HT_.out (by kernel_rfl)) (fun _ _ _ h => h) (Or.inl ⟨by rfl, ?_⟩) ?_ ?_
      rotate_left
      ·intro w'
       go_simp
       with_reducible rfl
      rotate_left
      ·simp only [Act.put, List.setIfInBounds_toArray, List.set_cons_zero, List.set_cons_succ, i64_w, i32_w]
       rfl
      refine pure_ (i := 16) (N := some 28) (v := ?_) (a' := ?_) #[true, true, false, false, true, true, false, false, true, true, false, false, true, true, false, false, true, false, false, false, false, false, false, false, false, false, false] rfl rfl (any_of HT_.out (by kernel_rfl)) (fun _ _ _ h => h) (Or.inl ⟨by rfl, ?_⟩) ?_ ?_
      rotate_left
      ·intro w'
       go_simp
       with_reducible rfl
      rotate_left
      ·simp only [Act.put, List.setIfInBounds_toArray, List.set_cons_zero, List.set_cons_succ, i64_w, i32_w]
       rfl
      refine pure_ (i := 17) (N := some 29) (v := ?_) (a' := ?_) #[true, true, false, false, true, true, false, false, true, true, false, false, true, true, false, false, true, true, false, false, false, false, false, false, false, false, false] rfl rfl (any_of HT_.out (by kernel_rfl)) (fun _ _ _ h => h) (Or.inl ⟨by rfl, ?_⟩) ?_ ?_
      rotate_left
      ·intro w'
       go_simp
       with_reducible rfl
      rotate_left
      ·simp only [Act.put, List.setIfInBounds_toArray, List.set_cons_zero, List.set_cons_succ, i64_w, i32_w]
       rfl
      refine pure_ (i := 20) (N := some 32) (v := ?_) (a' := ?_) #[true, true, false, false, true, true, false, false, true, true, false, false, true, true, false, false, true, true, false, false, true, false, false, false, false, false, false] rfl rfl (any_of HT_.out (by kernel_rfl)) (fun _ _ _ h => h) (Or.inl ⟨by rfl, ?_⟩) ?_ ?_
      rotate_left
      ·intro w'
       go_simp
       with_reducible rfl
      rotate_left
      ·simp only [Act.put, List.setIfInBounds_toArray, List.set_cons_zero, List.set_cons_succ, i64_w, i32_w]
       rfl
      refine pure_ (i := 21) (N := some 33) (v := ?_) (a' := ?_) #[true, true, false, false, true, true, false, false, true, true, false, false, true, true, false, false, true, true, false, false, true, true, false, false, false, false, false] rfl rfl (any_of HT_.out (by kernel_rfl)) (fun _ _ _ h => h) (Or.inl ⟨by rfl, ?_⟩) ?_ ?_
      rotate_left
      ·intro w'
       go_simp
       with_reducible rfl
      rotate_left
      ·simp only [Act.put, List.setIfInBounds_toArray, List.set_cons_zero, List.set_cons_succ, i64_w, i32_w]
       rfl
      refine take_ (i := 2) (N := some 14) (v := ?_) (a' := ?_) #[true, true, true, false, true, true, false, false, true, true, false, false, true, true, false, false, true, true, false, false, true, true, false, false, false, false, false] rfl rfl (take_ofW HT_.out HW_.out (by kernel_rfl)) (fun _ _ _ h => h) (Or.inl ⟨by rfl, ?_⟩) hHeld ?_ ?_
      rotate_left
      ·rintro w' ⟨s0, s1, s2, s3, s4, s5⟩
       go_simp
       with_reducible rfl
      rotate_left
      ·simp only [Act.put, List.setIfInBounds_toArray, List.set_cons_zero, List.set_cons_succ, i64_w, i32_w]
       rfl
      refine take_ (i := 6) (N := some 18) (v := ?_) (a' := ?_) #[true, true, true, false, true, true, true, false, true, true, false, false, true, true, false, false, true, true, false, false, true, true, false, false, false, false, false] rfl rfl (take_ofW HT_.out HW_.out (by kernel_rfl)) (fun _ _ _ h => h) (Or.inl ⟨by rfl, ?_⟩) hHeld ?_ ?_
      rotate_left
      ·rintro w' ⟨s0, s1, s2, s3, s4, s5⟩
       go_simp
       with_reducible rfl
      rotate_left
      ·simp only [Act.put, List.setIfInBounds_toArray, List.set_cons_zero, List.set_cons_succ, i64_w, i32_w]
       rfl
      refine take_ (i := 10) (N := some 22) (v := ?_) (a' := ?_) #[true, true, true, false, true, true, true, false, true, true, true, false, true, true, false, false, true, true, false, false, true, true, false, false, false, false, false] rfl rfl (take_ofW HT_.out HW_.out (by kernel_rfl)) (fun _ _ _ h => h) (Or.inl ⟨by rfl, ?_⟩) hHeld ?_ ?_
      rotate_left
      ·rintro w' ⟨s0, s1, s2, s3, s4, s5⟩
       go_simp
       with_reducible rfl
      rotate_left
      ·simp only [Act.put, List.setIfInBounds_toArray, List.set_cons_zero, List.set_cons_succ, i64_w, i32_w]
       rfl
      refine pure_ (i := 11) (N := some 23) (v := ?_) (a' := ?_) #[true, true, true, false, true, true, true, false, true, true, true, true, true, true, false, false, true, true, false, false, true, true, false, false, false, false, false] rfl rfl (any_of HT_.out (by kernel_rfl)) (fun _ _ _ h => h) (Or.inl ⟨by rfl, ?_⟩) ?_ ?_
      rotate_left
      ·intro w'
       go_simp
       with_reducible rfl
      rotate_left
      ·simp only [Act.put, List.setIfInBounds_toArray, List.set_cons_zero, List.set_cons_succ, i64_w, i32_w]
       rfl
      refine take_ (i := 14) (N := some 26) (v := ?_) (a' := ?_) #[true, true, true, false, true, true, true, false, true, true, true, true, true, true, true, false, true, true, false, false, true, true, false, false, false, false, false] rfl rfl (take_ofW HT_.out HW_.out (by kernel_rfl)) (fun _ _ _ h => h) (Or.inl ⟨by rfl, ?_⟩) hHeld ?_ ?_
      rotate_left
      ·rintro w' ⟨s0, s1, s2, s3, s4, s5⟩
       go_simp
       with_reducible rfl
      rotate_left
      ·simp only [Act.put, List.setIfInBounds_toArray, List.set_cons_zero, List.set_cons_succ, i64_w, i32_w]
       rfl
      refine take_ (i := 18) (N := some 30) (v := ?_) (a' := ?_) #[true, true, true, false, true, true, true, false, true, true, true, true, true, true, true, false, true, true, true, false, true, true, false, false, false, false, false] rfl rfl (take_ofW HT_.out HW_.out (by kernel_rfl)) (fun _ _ _ h => h) (Or.inl ⟨by rfl, ?_⟩) hHeld ?_ ?_
      rotate_left
      ·rintro w' ⟨s0, s1, s2, s3, s4, s5⟩
       go_simp
       with_reducible rfl
      rotate_left
      ·simp only [Act.put, List.setIfInBounds_toArray, List.set_cons_zero, List.set_cons_succ, i64_w, i32_w]
       rfl
      refine pure_ (i := 19) (N := some 31) (v := ?_) (a' := ?_) #[true, true, true, false, true, true, true, false, true, true, true, true, true, true, true, false, true, true, true, true, true, true, false, false, false, false, false] rfl rfl (any_of HT_.out (by kernel_rfl)) (fun _ _ _ h => h) (Or.inl ⟨by rfl, ?_⟩) ?_ ?_
      rotate_left
      ·intro w'
       go_simp
       with_reducible rfl
      rotate_left
      ·simp only [Act.put, List.setIfInBounds_toArray, List.set_cons_zero, List.set_cons_succ, i64_w, i32_w]
       rfl
      refine take_ (i := 22) (N := some 34) (v := ?_) (a' := ?_) #[true, true, true, false, true, true, true, false, true, true, true, true, true, true, true, false, true, true, true, true, true, true, true, false, false, false, false] rfl rfl (take_ofW HT_.out HW_.out (by kernel_rfl)) (fun _ _ _ h => h) (Or.inl ⟨by rfl, ?_⟩) hHeld ?_ ?_
      rotate_left
      ·rintro w' ⟨s0, s1, s2, s3, s4, s5⟩
       go_simp
       with_reducible rfl
      rotate_left
      ·simp only [Act.put, List.setIfInBounds_toArray, List.set_cons_zero, List.set_cons_succ, i64_w, i32_w]
       rfl
      refine join_ (σ := Value × Value × Nat) 1 #[true, true, true, true, true, true, true, true, true, true, true, true, true, true, true, true, true, true, true, true, true, true, true, true, true, true, false] (fun s_ => [(15, .int .i64 t227), (19, .int .i64 t229), (27, s_.1), (35, s_.2.1), (5, .pointer (some ⟨s_.2.2, 0, none⟩)), (36, .agg #[.int .i64 t227, .int .i64 t229, .bool ((rdOf ByteArray.empty t223 2).toList != ([45] : List UInt8)), s_.1, .bool ((rdOf ByteArray.empty t223 3).toList != ([45] : List UInt8)), s_.2.1])]) (fun s_ w' => (w'.cell? ad226 = some (.string (rdOf ByteArray.empty t223 0)) ∧ w'.cell? ⟨ad226.block, ad226.off + 1, none⟩ = some (.string (rdOf ByteArray.empty t223 1)) ∧ w'.cell? ⟨ad226.block, ad226.off + 2, none⟩ = some (.string (rdOf ByteArray.empty t223 2)) ∧ w'.cell? ⟨ad226.block, ad226.off + 2, none⟩ = some (.string (rdOf ByteArray.empty t223 2)) ∧ w'.cell? ⟨ad226.block, ad226.off + 3, none⟩ = some (.string (rdOf ByteArray.empty t223 3)) ∧ w'.cell? ⟨ad226.block, ad226.off + 3, none⟩ = some (.string (rdOf ByteArray.empty t223 3))) ∧ (Kd.R Kd.string 9 w' w.heap.size (fun _ => True) (.slice (some ad226) t223.length co16) t223) ∧ (Kd.R (Kd.int .i64) 3 w' w.heap.size (fun k_ => some k_ ≠ (s_.2.1 : Value).ownBlock) s_.1 t232) ∧ (Kd.R (Kd.int .i64) 3 w' w.heap.size (fun k_ => some k_ ≠ (s_.1 : Value).ownBlock) s_.2.1 t237) ∧ (w'.heap[gb222]? = some (.cells #[.int .i64 0, .int .i64 0, .bool false, .slice none 0 0, .bool false, .slice none 0 0] 27 (0, 0))) ∧ (w'.heap[s_.2.2]? = some (.cells #[.int .i64 0, .int .i64 0, .bool false, .slice none 0 0, .bool false, .slice none 0 0] 27 (0, 0))) ∧ (w.heap.size ≤ s_.2.2) ∧ (w.heap.size ≤ s_.2.2) ∧ (gb222 ≠ s_.2.2) ∧ (s_.2.2 ≠ gb222) ∧ (Below w.heap.size w w')) ?_ ?_
      rotate_left
      ·intro hJ3_7_15_23_25
       refine join_ (σ := Value × Value) 2 #[true, true, true, true, true, true, true, true, true, true, true, true, true, true, true, true, true, true, true, true, true, true, true, true, true, false, false] (fun s_ => [(15, .int .i64 t227), (19, .int .i64 t229), (27, s_.1), (35, s_.2), (36, .agg #[.int .i64 t227, .int .i64 t229, .bool ((rdOf ByteArray.empty t223 2).toList != ([45] : List UInt8)), s_.1, .bool ((rdOf ByteArray.empty t223 3).toList != ([45] : List UInt8)), s_.2])]) (fun s_ w' => (w'.cell? ad226 = some (.string (rdOf ByteArray.empty t223 0)) ∧ w'.cell? ⟨ad226.block, ad226.off + 1, none⟩ = some (.string (rdOf ByteArray.empty t223 1)) ∧ w'.cell? ⟨ad226.block, ad226.off + 2, none⟩ = some (.string (rdOf ByteArray.empty t223 2)) ∧ w'.cell? ⟨ad226.block, ad226.off + 2, none⟩ = some (.string (rdOf ByteArray.empty t223 2)) ∧ w'.cell? ⟨ad226.block, ad226.off + 3, none⟩ = some (.string (rdOf ByteArray.empty t223 3)) ∧ w'.cell? ⟨ad226.block, ad226.off + 3, none⟩ = some (.string (rdOf ByteArray.empty t223 3))) ∧ (Kd.R Kd.string 9 w' w.heap.size (fun _ => True) (.slice (some ad226) t223.length co16) t223) ∧ (Kd.R (Kd.int .i64) 3 w' w.heap.size (fun k_ => some k_ ≠ (s_.2 : Value).ownBlock) s_.1 t232) ∧ (Kd.R (Kd.int .i64) 3 w' w.heap.size (fun k_ => some k_ ≠ (s_.1 : Value).ownBlock) s_.2 t237) ∧ (w'.heap[gb222]? = some (.cells #[.int .i64 0, .int .i64 0, .bool false, .slice none 0 0, .bool false, .slice none 0 0] 27 (0, 0))) ∧ (Below w.heap.size w w')) ?_ ?_
       rotate_left
       ·intro hJ3_7_15_23
        refine join_ (σ := Value × Nat) 3 #[true, true, true, true, true, true, true, true, true, true, true, true, true, true, true, true, true, true, true, true, true, true, true, false, false, true, false] (fun s_ => [(15, .int .i64 t227), (19, .int .i64 t229), (27, s_.1), (5, .pointer (some ⟨s_.2, 0, none⟩))]) (fun s_ w' => (w'.cell? ad226 = some (.string (rdOf ByteArray.empty t223 0)) ∧ w'.cell? ⟨ad226.block, ad226.off + 1, none⟩ = some (.string (rdOf ByteArray.empty t223 1)) ∧ w'.cell? ⟨ad226.block, ad226.off + 2, none⟩ = some (.string (rdOf ByteArray.empty t223 2)) ∧ w'.cell? ⟨ad226.block, ad226.off + 2, none⟩ = some (.string (rdOf ByteArray.empty t223 2)) ∧ w'.cell? ⟨ad226.block, ad226.off + 3, none⟩ = some (.string (rdOf ByteArray.empty t223 3)) ∧ w'.cell? ⟨ad226.block, ad226.off + 3, none⟩ = some (.string (rdOf ByteArray.empty t223 3))) ∧ (Kd.R Kd.string 9 w' w.heap.size (fun _ => True) (.slice (some ad226) t223.length co16) t223) ∧ (Kd.R (Kd.int .i64) 3 w' w.heap.size (fun _ => True) s_.1 t232) ∧ (w'.heap[gb222]? = some (.cells #[.int .i64 0, .int .i64 0, .bool false, .slice none 0 0, .bool false, .slice none 0 0] 27 (0, 0))) ∧ (w'.heap[s_.2]? = some (.cells #[.int .i64 0, .int .i64 0, .bool false, .slice none 0 0, .bool false, .slice none 0 0] 27 (0, 0))) ∧ (w.heap.size ≤ s_.2) ∧ (w.heap.size ≤ s_.2) ∧ (gb222 ≠ s_.2) ∧ (s_.2 ≠ gb222) ∧ (Below w.heap.size w w')) ?_ ?_
        rotate_left
        ·intro hJ3_7_15_25
         refine join_ (σ := Value) 4 #[true, true, true, true, true, true, true, true, true, true, true, true, true, true, true, true, true, true, true, true, true, true, true, false, false, false, false] (fun s_ => [(15, .int .i64 t227), (19, .int .i64 t229), (27, s_)]) (fun s_ w' => (w'.cell? ad226 = some (.string (rdOf ByteArray.empty t223 0)) ∧ w'.cell? ⟨ad226.block, ad226.off + 1, none⟩ = some (.string (rdOf ByteArray.empty t223 1)) ∧ w'.cell? ⟨ad226.block, ad226.off + 2, none⟩ = some (.string (rdOf ByteArray.empty t223 2)) ∧ w'.cell? ⟨ad226.block, ad226.off + 2, none⟩ = some (.string (rdOf ByteArray.empty t223 2)) ∧ w'.cell? ⟨ad226.block, ad226.off + 3, none⟩ = some (.string (rdOf ByteArray.empty t223 3)) ∧ w'.cell? ⟨ad226.block, ad226.off + 3, none⟩ = some (.string (rdOf ByteArray.empty t223 3))) ∧ (Kd.R Kd.string 9 w' w.heap.size (fun _ => True) (.slice (some ad226) t223.length co16) t223) ∧ (Kd.R (Kd.int .i64) 3 w' w.heap.size (fun _ => True) s_ t232) ∧ (w'.heap[gb222]? = some (.cells #[.int .i64 0, .int .i64 0, .bool false, .slice none 0 0, .bool false, .slice none 0 0] 27 (0, 0))) ∧ (Below w.heap.size w w')) ?_ ?_
         rotate_left
         ·intro hJ3_7_15
          refine join_ (σ := Nat) 4 #[true, true, true, true, true, true, true, true, true, true, true, true, true, true, true, false, true, true, true, true, true, true, true, false, false, true, false] (fun s_ => [(15, .int .i64 t227), (19, .int .i64 t229), (5, .pointer (some ⟨s_, 0, none⟩))]) (fun s_ w' => (w'.cell? ad226 = some (.string (rdOf ByteArray.empty t223 0)) ∧ w'.cell? ⟨ad226.block, ad226.off + 1, none⟩ = some (.string (rdOf ByteArray.empty t223 1)) ∧ w'.cell? ⟨ad226.block, ad226.off + 2, none⟩ = some (.string (rdOf ByteArray.empty t223 2)) ∧ w'.cell? ⟨ad226.block, ad226.off + 2, none⟩ = some (.string (rdOf ByteArray.empty t223 2)) ∧ w'.cell? ⟨ad226.block, ad226.off + 3, none⟩ = some (.string (rdOf ByteArray.empty t223 3)) ∧ w'.cell? ⟨ad226.block, ad226.off + 3, none⟩ = some (.string (rdOf ByteArray.empty t223 3))) ∧ (Kd.R Kd.string 9 w' w.heap.size (fun _ => True) (.slice (some ad226) t223.length co16) t223) ∧ (w'.heap[gb222]? = some (.cells #[.int .i64 0, .int .i64 0, .bool false, .slice none 0 0, .bool false, .slice none 0 0] 27 (0, 0))) ∧ (w'.heap[s_]? = some (.cells #[.int .i64 0, .int .i64 0, .bool false, .slice none 0 0, .bool false, .slice none 0 0] 27 (0, 0))) ∧ (w.heap.size ≤ s_) ∧ (w.heap.size ≤ s_) ∧ (gb222 ≠ s_) ∧ (s_ ≠ gb222) ∧ (Below w.heap.size w w')) ?_ ?_
          rotate_left
          ·intro hJ3_7_25
           refine join_ (σ := Unit) 5 #[true, true, true, true, true, true, true, true, true, true, true, true, true, true, true, false, true, true, true, true, true, true, true, false, false, false, false] (fun s_ => [(15, .int .i64 t227), (19, .int .i64 t229)]) (fun s_ w' => (w'.cell? ad226 = some (.string (rdOf ByteArray.empty t223 0)) ∧ w'.cell? ⟨ad226.block, ad226.off + 1, none⟩ = some (.string (rdOf ByteArray.empty t223 1)) ∧ w'.cell? ⟨ad226.block, ad226.off + 2, none⟩ = some (.string (rdOf ByteArray.empty t223 2)) ∧ w'.cell? ⟨ad226.block, ad226.off + 2, none⟩ = some (.string (rdOf ByteArray.empty t223 2)) ∧ w'.cell? ⟨ad226.block, ad226.off + 3, none⟩ = some (.string (rdOf ByteArray.empty t223 3)) ∧ w'.cell? ⟨ad226.block, ad226.off + 3, none⟩ = some (.string (rdOf ByteArray.empty t223 3))) ∧ (Kd.R Kd.string 9 w' w.heap.size (fun _ => True) (.slice (some ad226) t223.length co16) t223) ∧ (w'.heap[gb222]? = some (.cells #[.int .i64 0, .int .i64 0, .bool false, .slice none 0 0, .bool false, .slice none 0 0] 27 (0, 0))) ∧ (Below w.heap.size w w')) ?_ ?_
           rotate_left
           ·intro hJ3_7
            refine join_ (σ := Nat) 5 #[true, true, true, true, true, true, true, false, true, true, true, true, true, true, true, false, true, true, true, true, true, true, true, false, false, true, false] (fun s_ => [(15, .int .i64 t227), (5, .pointer (some ⟨s_, 0, none⟩))]) (fun s_ w' => (w'.cell? ad226 = some (.string (rdOf ByteArray.empty t223 0)) ∧ w'.cell? ⟨ad226.block, ad226.off + 1, none⟩ = some (.string (rdOf ByteArray.empty t223 1)) ∧ w'.cell? ⟨ad226.block, ad226.off + 2, none⟩ = some (.string (rdOf ByteArray.empty t223 2)) ∧ w'.cell? ⟨ad226.block, ad226.off + 2, none⟩ = some (.string (rdOf ByteArray.empty t223 2)) ∧ w'.cell? ⟨ad226.block, ad226.off + 3, none⟩ = some (.string (rdOf ByteArray.empty t223 3)) ∧ w'.cell? ⟨ad226.block, ad226.off + 3, none⟩ = some (.string (rdOf ByteArray.empty t223 3))) ∧ (Kd.R Kd.string 9 w' w.heap.size (fun _ => True) (.slice (some ad226) t223.length co16) t223) ∧ (w'.heap[gb222]? = some (.cells #[.int .i64 0, .int .i64 0, .bool false, .slice none 0 0, .bool false, .slice none 0 0] 27 (0, 0))) ∧ (w'.heap[s_]? = some (.cells #[.int .i64 0, .int .i64 0, .bool false, .slice none 0 0, .bool false, .slice none 0 0] 27 (0, 0))) ∧ (w.heap.size ≤ s_) ∧ (w.heap.size ≤ s_) ∧ (gb222 ≠ s_) ∧ (s_ ≠ gb222) ∧ (Below w.heap.size w w')) ?_ ?_
            rotate_left
            ·intro hJ3_25
             refine join_ (σ := Unit) 6 #[true, true, true, true, true, true, true, false, true, true, true, true, true, true, true, false, true, true, true, true, true, true, true, false, false, false, false] (fun s_ => [(15, .int .i64 t227)]) (fun s_ w' => (w'.cell? ad226 = some (.string (rdOf ByteArray.empty t223 0)) ∧ w'.cell? ⟨ad226.block, ad226.off + 1, none⟩ = some (.string (rdOf ByteArray.empty t223 1)) ∧ w'.cell? ⟨ad226.block, ad226.off + 2, none⟩ = some (.string (rdOf ByteArray.empty t223 2)) ∧ w'.cell? ⟨ad226.block, ad226.off + 2, none⟩ = some (.string (rdOf ByteArray.empty t223 2)) ∧ w'.cell? ⟨ad226.block, ad226.off + 3, none⟩ = some (.string (rdOf ByteArray.empty t223 3)) ∧ w'.cell? ⟨ad226.block, ad226.off + 3, none⟩ = some (.string (rdOf ByteArray.empty t223 3))) ∧ (Kd.R Kd.string 9 w' w.heap.size (fun _ => True) (.slice (some ad226) t223.length co16) t223) ∧ (w'.heap[gb222]? = some (.cells #[.int .i64 0, .int .i64 0, .bool false, .slice none 0 0, .bool false, .slice none 0 0] 27 (0, 0))) ∧ (Below w.heap.size w w')) ?_ ?_
             rotate_left
             ·intro hJ3
              refine join_ (σ := Nat) 6 #[true, true, true, false, true, true, true, false, true, true, true, true, true, true, true, false, true, true, true, true, true, true, true, false, false, true, false] (fun s_ => [(5, .pointer (some ⟨s_, 0, none⟩))]) (fun s_ w' => (w'.cell? ad226 = some (.string (rdOf ByteArray.empty t223 0)) ∧ w'.cell? ⟨ad226.block, ad226.off + 1, none⟩ = some (.string (rdOf ByteArray.empty t223 1)) ∧ w'.cell? ⟨ad226.block, ad226.off + 2, none⟩ = some (.string (rdOf ByteArray.empty t223 2)) ∧ w'.cell? ⟨ad226.block, ad226.off + 2, none⟩ = some (.string (rdOf ByteArray.empty t223 2)) ∧ w'.cell? ⟨ad226.block, ad226.off + 3, none⟩ = some (.string (rdOf ByteArray.empty t223 3)) ∧ w'.cell? ⟨ad226.block, ad226.off + 3, none⟩ = some (.string (rdOf ByteArray.empty t223 3))) ∧ (Kd.R Kd.string 9 w' w.heap.size (fun _ => True) (.slice (some ad226) t223.length co16) t223) ∧ (w'.heap[gb222]? = some (.cells #[.int .i64 0, .int .i64 0, .bool false, .slice none 0 0, .bool false, .slice none 0 0] 27 (0, 0))) ∧ (w'.heap[s_]? = some (.cells #[.int .i64 0, .int .i64 0, .bool false, .slice none 0 0, .bool false, .slice none 0 0] 27 (0, 0))) ∧ (w.heap.size ≤ s_) ∧ (w.heap.size ≤ s_) ∧ (gb222 ≠ s_) ∧ (s_ ≠ gb222) ∧ (Below w.heap.size w w')) ?_ ?_
              rotate_left
              ·intro hJ25
               refine two_ (i := 3) (j := 25) (Ni := some 15) (Nj := some 5) #[true, true, true, true, true, true, true, false, true, true, true, true, true, true, true, false, true, true, true, true, true, true, true, false, false, false, false] #[true, true, true, false, true, true, true, false, true, true, true, true, true, true, true, false, true, true, true, true, true, true, true, false, false, true, false] rfl rfl rfl rfl (two_of HT_.out (by kernel_rfl)) (by decide) (by decide) (fun K hK => ?_) (fun K hK => ?_)
               ·skip
                refine goes_ Tryd.func29 (by kernel_rfl) rfl #[.string (rdOf ByteArray.empty t223 0)] (by rfl) rfl rfl (by (try simp only [List.map_toArray, List.map_cons, List.map_nil]); first | done | rfl | (simp only [List.length_drop, List.length_take]; rfl)) ?_
                with_reducible refine (spec_l41Number.calls k (rdOf ByteArray.empty t223 0) t227 _ A5.out).mono ?_
                rintro e w' ⟨rfl, ⟨nd, rfl⟩⟩
                refine ⟨_, rfl, ?_⟩
                refine hK.out _ _ ⟨hHeld.1, hHeld.2.1, hHeld.2.2.1, hHeld.2.2.2.1, hHeld.2.2.2.2.1, hHeld.2.2.2.2.2⟩ (fun hHeld => ?_)
                clear hK K
                refine norm_ (a' := ?_) ?_ ?_
                rotate_left
                ·show Act.put _ (some 15) _ = _
                 simp only [Act.put, List.setIfInBounds_toArray, List.set_cons_zero, List.set_cons_succ, i64_w, i32_w]
                 rfl
                exact norm_ (by first | (simp only [putAll, Act.put, List.setIfInBounds_toArray, List.set_cons_zero, List.set_cons_succ]; done) | (simp only [putAll, Act.put, List.setIfInBounds_toArray, List.set_cons_zero, List.set_cons_succ]; rfl)) (hJ3 () _ ⟨hHeld, (kr HO225), (kb BK222), (kB1 HB GE222)⟩)
               ·skip
                refine box_step ?hg (N := 5) ?hd (cs := #[.int .i64 0, .int .i64 0, .bool false, .slice none 0 0, .bool false, .slice none 0 0]) (t := 27) ?hr ?_; (case hd => rfl); (case hg => rfl); (case hr => first | (go_simp; done) | (go_simp; rfl))
                intro gb240 hg w18 hbox hb
                have HS0_ := (hb.cell (World.block_lt_of_cell? _ _ (hHeld.1))).trans (hHeld.1)
                have HS1_ := (hb.cell (World.block_lt_of_cell? _ _ (hHeld.2.1))).trans (hHeld.2.1)
                have HS2_ := (hb.cell (World.block_lt_of_cell? _ _ (hHeld.2.2.1))).trans (hHeld.2.2.1)
                have HS3_ := (hb.cell (World.block_lt_of_cell? _ _ (hHeld.2.2.2.1))).trans (hHeld.2.2.2.1)
                have HS4_ := (hb.cell (World.block_lt_of_cell? _ _ (hHeld.2.2.2.2.1))).trans (hHeld.2.2.2.2.1)
                have HS5_ := (hb.cell (World.block_lt_of_cell? _ _ (hHeld.2.2.2.2.2))).trans (hHeld.2.2.2.2.2)
                have n0_ := Aside0.mk (Kd.R_below (kr HO225) hb)
                have n1_ := Aside0.mk (blk_below (g := gb222) (o := .cells #[.int .i64 0, .int .i64 0, .bool false, .slice none 0 0, .bool false, .slice none 0 0] 27 (0, 0)) (kb BK222) hb)
                have n2_ := Aside0.mk (below_step (kB1 HB GE222) hb)
                have n3_ := Aside0.mk (hbox)
                have n4_ := Aside0.mk ((by rw [hg]; exact (below_size (kB1 HB GE222)) : w.heap.size ≤ gb240))
                have n5_ := Aside0.mk ((by rw [hg]; exact (below_size (kB1 HB GE222)) : w.heap.size ≤ gb240))
                have n6_ := Aside0.mk ((by rw [hg]; exact Nat.ne_of_lt (blk_lt (g := gb222) (o := .cells #[.int .i64 0, .int .i64 0, .bool false, .slice none 0 0, .bool false, .slice none 0 0] 27 (0, 0)) (kb BK222)) : gb222 ≠ gb240))
                have n7_ := Aside0.mk ((by rw [hg]; exact Nat.ne_of_gt (blk_lt (g := gb222) (o := .cells #[.int .i64 0, .int .i64 0, .bool false, .slice none 0 0, .bool false, .slice none 0 0] 27 (0, 0)) (kb BK222)) : gb240 ≠ gb222))
                clear HO225 BK222 HB
                have HO225 := n0_
                have BK222 := n1_
                have HB := n2_
                have BK240 := n3_
                have GW240 := n4_
                have GE240 := n5_
                have NB222_240 := n6_
                have NB240_222 := n7_
                clear n0_ n1_ n2_ n3_ n4_ n5_ n6_ n7_
                clear hb hbox hg
                refine hK.out _ _ ⟨HS0_, HS1_, HS2_, HS3_, HS4_, HS5_⟩ (fun hHeld => ?_)
                clear hK K
                refine norm_ (a' := ?_) ?_ ?_
                rotate_left
                ·show Act.put _ (some 5) _ = _
                 simp only [Act.put, List.setIfInBounds_toArray, List.set_cons_zero, List.set_cons_succ, i64_w, i32_w]
                 rfl
                exact norm_ (by first | (simp only [putAll, Act.put, List.setIfInBounds_toArray, List.set_cons_zero, List.set_cons_succ]; done) | (simp only [putAll, Act.put, List.setIfInBounds_toArray, List.set_cons_zero, List.set_cons_succ]; rfl)) (hJ25 (gb240) _ ⟨hHeld, (kr HO225), (kb BK222), (kb BK240), GW240.out, GE240.out, NB222_240.out, NB240_222.out, (kB2 HB GE222 GE240)⟩)
              ·skip
               rintro gb240 w19 ⟨hS_, h0_, h1_, h2_, h3_, h4_, h5_, h6_, h7_⟩
               have n0_ : Aside0 (Kd.R Kd.string 9 w19 w.heap.size (fun _ => True) (.slice (some ad226) t223.length co16) t223) := ⟨h0_⟩
               have n1_ : Aside0 (w19.heap[gb222]? = some (.cells #[.int .i64 0, .int .i64 0, .bool false, .slice none 0 0, .bool false, .slice none 0 0] 27 (0, 0))) := ⟨h1_⟩
               have n2_ : Aside0 (w19.heap[gb240]? = some (.cells #[.int .i64 0, .int .i64 0, .bool false, .slice none 0 0, .bool false, .slice none 0 0] 27 (0, 0))) := ⟨h2_⟩
               have n3_ : Aside0 (w.heap.size ≤ gb240) := ⟨h3_⟩
               have n4_ : Aside0 (w.heap.size ≤ gb240) := ⟨h4_⟩
               have n5_ : Aside0 (gb222 ≠ gb240) := ⟨h5_⟩
               have n6_ : Aside0 (gb240 ≠ gb222) := ⟨h6_⟩
               have n7_ : Aside0 (Below w.heap.size w w19) := ⟨h7_⟩
               clear HO225 BK222 HB
               clear h0_ h1_ h2_ h3_ h4_ h5_ h6_ h7_
               have HO225 := n0_
               have BK222 := n1_
               have BK240 := n2_
               have GW240 := n3_
               have GE240 := n4_
               have NB222_240 := n5_
               have NB240_222 := n6_
               have HB := n7_
               clear n0_ n1_ n2_ n3_ n4_ n5_ n6_ n7_
               have hHeld : w19.cell? ad226 = some (.string (rdOf ByteArray.empty t223 0)) ∧ w19.cell? ⟨ad226.block, ad226.off + 1, none⟩ = some (.string (rdOf ByteArray.empty t223 1)) ∧ w19.cell? ⟨ad226.block, ad226.off + 2, none⟩ = some (.string (rdOf ByteArray.empty t223 2)) ∧ w19.cell? ⟨ad226.block, ad226.off + 2, none⟩ = some (.string (rdOf ByteArray.empty t223 2)) ∧ w19.cell? ⟨ad226.block, ad226.off + 3, none⟩ = some (.string (rdOf ByteArray.empty t223 3)) ∧ w19.cell? ⟨ad226.block, ad226.off + 3, none⟩ = some (.string (rdOf ByteArray.empty t223 3)) := hS_
               refine norm_ (a' := ?_) ?_ ?_
               rotate_left
               ·simp only [putAll, Act.put, List.setIfInBounds_toArray, List.set_cons_zero, List.set_cons_succ]
                rfl
               refine one_ (i := 3) (N := some 15) #[true, true, true, true, true, true, true, false, true, true, true, true, true, true, true, false, true, true, true, true, true, true, true, false, false, true, false] rfl rfl (one_of HT_.out (by kernel_rfl)) (by decide) (fun K hK => ?_)
               refine goes_ Tryd.func29 (by kernel_rfl) rfl #[.string (rdOf ByteArray.empty t223 0)] (by rfl) rfl rfl (by (try simp only [List.map_toArray, List.map_cons, List.map_nil]); first | done | rfl | (simp only [List.length_drop, List.length_take]; rfl)) ?_
               with_reducible refine (spec_l41Number.calls k (rdOf ByteArray.empty t223 0) t227 _ A5.out).mono ?_
               rintro e w' ⟨rfl, ⟨nd, rfl⟩⟩
               refine ⟨_, rfl, ?_⟩
               refine hK.out _ _ ⟨hHeld.1, hHeld.2.1, hHeld.2.2.1, hHeld.2.2.2.1, hHeld.2.2.2.2.1, hHeld.2.2.2.2.2⟩ (fun hHeld => ?_)
               clear hK K
               refine norm_ (a' := ?_) ?_ ?_
               rotate_left
               ·show Act.put _ (some 15) _ = _
                simp only [Act.put, List.setIfInBounds_toArray, List.set_cons_zero, List.set_cons_succ, i64_w, i32_w]
                rfl
               exact norm_ (by first | (simp only [putAll, Act.put, List.setIfInBounds_toArray, List.set_cons_zero, List.set_cons_succ]; done) | (simp only [putAll, Act.put, List.setIfInBounds_toArray, List.set_cons_zero, List.set_cons_succ]; rfl)) (hJ3_25 (gb240) _ ⟨hHeld, (kr HO225), (kb BK222), (kb BK240), GW240.out, GE240.out, NB222_240.out, NB240_222.out, (kB2 HB GE222 GE240)⟩)
             ·skip
              rintro _ w18 ⟨hS_, h0_, h1_, h2_⟩
              have n0_ : Aside0 (Kd.R Kd.string 9 w18 w.heap.size (fun _ => True) (.slice (some ad226) t223.length co16) t223) := ⟨h0_⟩
              have n1_ : Aside0 (w18.heap[gb222]? = some (.cells #[.int .i64 0, .int .i64 0, .bool false, .slice none 0 0, .bool false, .slice none 0 0] 27 (0, 0))) := ⟨h1_⟩
              have n2_ : Aside0 (Below w.heap.size w w18) := ⟨h2_⟩
              clear HO225 BK222 HB
              clear h0_ h1_ h2_
              have HO225 := n0_
              have BK222 := n1_
              have HB := n2_
              clear n0_ n1_ n2_
              have hHeld : w18.cell? ad226 = some (.string (rdOf ByteArray.empty t223 0)) ∧ w18.cell? ⟨ad226.block, ad226.off + 1, none⟩ = some (.string (rdOf ByteArray.empty t223 1)) ∧ w18.cell? ⟨ad226.block, ad226.off + 2, none⟩ = some (.string (rdOf ByteArray.empty t223 2)) ∧ w18.cell? ⟨ad226.block, ad226.off + 2, none⟩ = some (.string (rdOf ByteArray.empty t223 2)) ∧ w18.cell? ⟨ad226.block, ad226.off + 3, none⟩ = some (.string (rdOf ByteArray.empty t223 3)) ∧ w18.cell? ⟨ad226.block, ad226.off + 3, none⟩ = some (.string (rdOf ByteArray.empty t223 3)) := hS_
              refine norm_ (a' := ?_) ?_ ?_
              rotate_left
              ·simp only [putAll, Act.put, List.setIfInBounds_toArray, List.set_cons_zero, List.set_cons_succ]
               rfl
              refine two_ (i := 7) (j := 25) (Ni := some 19) (Nj := some 5) #[true, true, true, true, true, true, true, true, true, true, true, true, true, true, true, false, true, true, true, true, true, true, true, false, false, false, false] #[true, true, true, true, true, true, true, false, true, true, true, true, true, true, true, false, true, true, true, true, true, true, true, false, false, true, false] rfl rfl rfl rfl (two_of HT_.out (by kernel_rfl)) (by decide) (by decide) (fun K hK => ?_) (fun K hK => ?_)
              ·skip
               refine goes_ Tryd.func29 (by kernel_rfl) rfl #[.string (rdOf ByteArray.empty t223 1)] (by rfl) rfl rfl (by (try simp only [List.map_toArray, List.map_cons, List.map_nil]); first | done | rfl | (simp only [List.length_drop, List.length_take]; rfl)) ?_
               with_reducible refine (spec_l41Number.calls k (rdOf ByteArray.empty t223 1) t229 _ A7.out).mono ?_
               rintro e w' ⟨rfl, ⟨nd, rfl⟩⟩
               refine ⟨_, rfl, ?_⟩
               refine hK.out _ _ ⟨hHeld.1, hHeld.2.1, hHeld.2.2.1, hHeld.2.2.2.1, hHeld.2.2.2.2.1, hHeld.2.2.2.2.2⟩ (fun hHeld => ?_)
               clear hK K
               refine norm_ (a' := ?_) ?_ ?_
               rotate_left
               ·show Act.put _ (some 19) _ = _
                simp only [Act.put, List.setIfInBounds_toArray, List.set_cons_zero, List.set_cons_succ, i64_w, i32_w]
                rfl
               exact norm_ (by first | (simp only [putAll, Act.put, List.setIfInBounds_toArray, List.set_cons_zero, List.set_cons_succ]; done) | (simp only [putAll, Act.put, List.setIfInBounds_toArray, List.set_cons_zero, List.set_cons_succ]; rfl)) (hJ3_7 () _ ⟨hHeld, (kr HO225), (kb BK222), (kB1 HB GE222)⟩)
              ·skip
               refine box_step ?hg (N := 5) ?hd (cs := #[.int .i64 0, .int .i64 0, .bool false, .slice none 0 0, .bool false, .slice none 0 0]) (t := 27) ?hr ?_; (case hd => rfl); (case hg => rfl); (case hr => first | (go_simp; done) | (go_simp; rfl))
               intro gb240 hg w19 hbox hb
               have HS0_ := (hb.cell (World.block_lt_of_cell? _ _ (hHeld.1))).trans (hHeld.1)
               have HS1_ := (hb.cell (World.block_lt_of_cell? _ _ (hHeld.2.1))).trans (hHeld.2.1)
               have HS2_ := (hb.cell (World.block_lt_of_cell? _ _ (hHeld.2.2.1))).trans (hHeld.2.2.1)
               have HS3_ := (hb.cell (World.block_lt_of_cell? _ _ (hHeld.2.2.2.1))).trans (hHeld.2.2.2.1)
               have HS4_ := (hb.cell (World.block_lt_of_cell? _ _ (hHeld.2.2.2.2.1))).trans (hHeld.2.2.2.2.1)
               have HS5_ := (hb.cell (World.block_lt_of_cell? _ _ (hHeld.2.2.2.2.2))).trans (hHeld.2.2.2.2.2)
               have n0_ := Aside0.mk (Kd.R_below (kr HO225) hb)
               have n1_ := Aside0.mk (blk_below (g := gb222) (o := .cells #[.int .i64 0, .int .i64 0, .bool false, .slice none 0 0, .bool false, .slice none 0 0] 27 (0, 0)) (kb BK222) hb)
               have n2_ := Aside0.mk (below_step (kB1 HB GE222) hb)
               have n3_ := Aside0.mk (hbox)
               have n4_ := Aside0.mk ((by rw [hg]; exact (below_size (kB1 HB GE222)) : w.heap.size ≤ gb240))
               have n5_ := Aside0.mk ((by rw [hg]; exact (below_size (kB1 HB GE222)) : w.heap.size ≤ gb240))
               have n6_ := Aside0.mk ((by rw [hg]; exact Nat.ne_of_lt (blk_lt (g := gb222) (o := .cells #[.int .i64 0, .int .i64 0, .bool false, .slice none 0 0, .bool false, .slice none 0 0] 27 (0, 0)) (kb BK222)) : gb222 ≠ gb240))
               have n7_ := Aside0.mk ((by rw [hg]; exact Nat.ne_of_gt (blk_lt (g := gb222) (o := .cells #[.int .i64 0, .int .i64 0, .bool false, .slice none 0 0, .bool false, .slice none 0 0] 27 (0, 0)) (kb BK222)) : gb240 ≠ gb222))
               clear HO225 BK222 HB
               have HO225 := n0_
               have BK222 := n1_
               have HB := n2_
               have BK240 := n3_
               have GW240 := n4_
               have GE240 := n5_
               have NB222_240 := n6_
               have NB240_222 := n7_
               clear n0_ n1_ n2_ n3_ n4_ n5_ n6_ n7_
               clear hb hbox hg
               refine hK.out _ _ ⟨HS0_, HS1_, HS2_, HS3_, HS4_, HS5_⟩ (fun hHeld => ?_)
               clear hK K
               refine norm_ (a' := ?_) ?_ ?_
               rotate_left
               ·show Act.put _ (some 5) _ = _
                simp only [Act.put, List.setIfInBounds_toArray, List.set_cons_zero, List.set_cons_succ, i64_w, i32_w]
                rfl
               exact norm_ (by first | (simp only [putAll, Act.put, List.setIfInBounds_toArray, List.set_cons_zero, List.set_cons_succ]; done) | (simp only [putAll, Act.put, List.setIfInBounds_toArray, List.set_cons_zero, List.set_cons_succ]; rfl)) (hJ3_25 (gb240) _ ⟨hHeld, (kr HO225), (kb BK222), (kb BK240), GW240.out, GE240.out, NB222_240.out, NB240_222.out, (kB2 HB GE222 GE240)⟩)
            ·skip
             rintro gb240 w19 ⟨hS_, h0_, h1_, h2_, h3_, h4_, h5_, h6_, h7_⟩
             have n0_ : Aside0 (Kd.R Kd.string 9 w19 w.heap.size (fun _ => True) (.slice (some ad226) t223.length co16) t223) := ⟨h0_⟩
             have n1_ : Aside0 (w19.heap[gb222]? = some (.cells #[.int .i64 0, .int .i64 0, .bool false, .slice none 0 0, .bool false, .slice none 0 0] 27 (0, 0))) := ⟨h1_⟩
             have n2_ : Aside0 (w19.heap[gb240]? = some (.cells #[.int .i64 0, .int .i64 0, .bool false, .slice none 0 0, .bool false, .slice none 0 0] 27 (0, 0))) := ⟨h2_⟩
             have n3_ : Aside0 (w.heap.size ≤ gb240) := ⟨h3_⟩
             have n4_ : Aside0 (w.heap.size ≤ gb240) := ⟨h4_⟩
             have n5_ : Aside0 (gb222 ≠ gb240) := ⟨h5_⟩
             have n6_ : Aside0 (gb240 ≠ gb222) := ⟨h6_⟩
             have n7_ : Aside0 (Below w.heap.size w w19) := ⟨h7_⟩
             clear HO225 BK222 HB
             clear h0_ h1_ h2_ h3_ h4_ h5_ h6_ h7_
             have HO225 := n0_
             have BK222 := n1_
             have BK240 := n2_
             have GW240 := n3_
             have GE240 := n4_
             have NB222_240 := n5_
             have NB240_222 := n6_
             have HB := n7_
             clear n0_ n1_ n2_ n3_ n4_ n5_ n6_ n7_
             have hHeld : w19.cell? ad226 = some (.string (rdOf ByteArray.empty t223 0)) ∧ w19.cell? ⟨ad226.block, ad226.off + 1, none⟩ = some (.string (rdOf ByteArray.empty t223 1)) ∧ w19.cell? ⟨ad226.block, ad226.off + 2, none⟩ = some (.string (rdOf ByteArray.empty t223 2)) ∧ w19.cell? ⟨ad226.block, ad226.off + 2, none⟩ = some (.string (rdOf ByteArray.empty t223 2)) ∧ w19.cell? ⟨ad226.block, ad226.off + 3, none⟩ = some (.string (rdOf ByteArray.empty t223 3)) ∧ w19.cell? ⟨ad226.block, ad226.off + 3, none⟩ = some (.string (rdOf ByteArray.empty t223 3)) := hS_
             refine norm_ (a' := ?_) ?_ ?_
             rotate_left
             ·simp only [putAll, Act.put, List.setIfInBounds_toArray, List.set_cons_zero, List.set_cons_succ]
              rfl
             refine one_ (i := 7) (N := some 19) #[true, true, true, true, true, true, true, true, true, true, true, true, true, true, true, false, true, true, true, true, true, true, true, false, false, true, false] rfl rfl (one_of HT_.out (by kernel_rfl)) (by decide) (fun K hK => ?_)
             refine goes_ Tryd.func29 (by kernel_rfl) rfl #[.string (rdOf ByteArray.empty t223 1)] (by rfl) rfl rfl (by (try simp only [List.map_toArray, List.map_cons, List.map_nil]); first | done | rfl | (simp only [List.length_drop, List.length_take]; rfl)) ?_
             with_reducible refine (spec_l41Number.calls k (rdOf ByteArray.empty t223 1) t229 _ A7.out).mono ?_
             rintro e w' ⟨rfl, ⟨nd, rfl⟩⟩
             refine ⟨_, rfl, ?_⟩
             refine hK.out _ _ ⟨hHeld.1, hHeld.2.1, hHeld.2.2.1, hHeld.2.2.2.1, hHeld.2.2.2.2.1, hHeld.2.2.2.2.2⟩ (fun hHeld => ?_)
             clear hK K
             refine norm_ (a' := ?_) ?_ ?_
             rotate_left
             ·show Act.put _ (some 19) _ = _
              simp only [Act.put, List.setIfInBounds_toArray, List.set_cons_zero, List.set_cons_succ, i64_w, i32_w]
              rfl
             exact norm_ (by first | (simp only [putAll, Act.put, List.setIfInBounds_toArray, List.set_cons_zero, List.set_cons_succ]; done) | (simp only [putAll, Act.put, List.setIfInBounds_toArray, List.set_cons_zero, List.set_cons_succ]; rfl)) (hJ3_7_25 (gb240) _ ⟨hHeld, (kr HO225), (kb BK222), (kb BK240), GW240.out, GE240.out, NB222_240.out, NB240_222.out, (kB2 HB GE222 GE240)⟩)
           ·skip
            rintro _ w18 ⟨hS_, h0_, h1_, h2_⟩
            have n0_ : Aside0 (Kd.R Kd.string 9 w18 w.heap.size (fun _ => True) (.slice (some ad226) t223.length co16) t223) := ⟨h0_⟩
            have n1_ : Aside0 (w18.heap[gb222]? = some (.cells #[.int .i64 0, .int .i64 0, .bool false, .slice none 0 0, .bool false, .slice none 0 0] 27 (0, 0))) := ⟨h1_⟩
            have n2_ : Aside0 (Below w.heap.size w w18) := ⟨h2_⟩
            clear HO225 BK222 HB
            clear h0_ h1_ h2_
            have HO225 := n0_
            have BK222 := n1_
            have HB := n2_
            clear n0_ n1_ n2_
            have hHeld : w18.cell? ad226 = some (.string (rdOf ByteArray.empty t223 0)) ∧ w18.cell? ⟨ad226.block, ad226.off + 1, none⟩ = some (.string (rdOf ByteArray.empty t223 1)) ∧ w18.cell? ⟨ad226.block, ad226.off + 2, none⟩ = some (.string (rdOf ByteArray.empty t223 2)) ∧ w18.cell? ⟨ad226.block, ad226.off + 2, none⟩ = some (.string (rdOf ByteArray.empty t223 2)) ∧ w18.cell? ⟨ad226.block, ad226.off + 3, none⟩ = some (.string (rdOf ByteArray.empty t223 3)) ∧ w18.cell? ⟨ad226.block, ad226.off + 3, none⟩ = some (.string (rdOf ByteArray.empty t223 3)) := hS_
            refine norm_ (a' := ?_) ?_ ?_
            rotate_left
            ·simp only [putAll, Act.put, List.setIfInBounds_toArray, List.set_cons_zero, List.set_cons_succ]
             rfl
            refine two_ (i := 15) (j := 25) (Ni := some 27) (Nj := some 5) #[true, true, true, true, true, true, true, true, true, true, true, true, true, true, true, true, true, true, true, true, true, true, true, false, false, false, false] #[true, true, true, true, true, true, true, true, true, true, true, true, true, true, true, false, true, true, true, true, true, true, true, false, false, true, false] rfl rfl rfl rfl (two_of HT_.out (by kernel_rfl)) (by decide) (by decide) (fun K hK => ?_) (fun K hK => ?_)
            ·skip
             refine goes_ Tryd.func30 (by kernel_rfl) rfl #[.string (rdOf ByteArray.empty t223 2)] (by rfl) rfl rfl (by (try simp only [List.map_toArray, List.map_cons, List.map_nil]); first | done | rfl | (simp only [List.length_drop, List.length_take]; rfl)) ?_
             with_reducible refine (spec_l41Bytes.calls k (rdOf ByteArray.empty t223 2) t232 _ A9.out).mono ?_
             rintro e w19 ⟨v233, rfl, ho0, hb⟩
             have HS0_ := (hb.cell (World.block_lt_of_cell? _ _ (hHeld.1))).trans (hHeld.1)
             have HS1_ := (hb.cell (World.block_lt_of_cell? _ _ (hHeld.2.1))).trans (hHeld.2.1)
             have HS2_ := (hb.cell (World.block_lt_of_cell? _ _ (hHeld.2.2.1))).trans (hHeld.2.2.1)
             have HS3_ := (hb.cell (World.block_lt_of_cell? _ _ (hHeld.2.2.2.1))).trans (hHeld.2.2.2.1)
             have HS4_ := (hb.cell (World.block_lt_of_cell? _ _ (hHeld.2.2.2.2.1))).trans (hHeld.2.2.2.2.1)
             have HS5_ := (hb.cell (World.block_lt_of_cell? _ _ (hHeld.2.2.2.2.2))).trans (hHeld.2.2.2.2.2)
             refine ⟨_, rfl, ?_⟩
             have n0_ := Aside0.mk (Kd.R_below (kr HO225) hb)
             have n1_ := Aside0.mk (Kd.R_lower ho0 (below_size (kB1 HB GE222)))
             have n2_ := Aside0.mk (blk_below (g := gb222) (o := .cells #[.int .i64 0, .int .i64 0, .bool false, .slice none 0 0, .bool false, .slice none 0 0] 27 (0, 0)) (kb BK222) hb)
             have n3_ := Aside0.mk (below_step (kB1 HB GE222) hb)
             clear HO225 BK222 HB
             have HO225 := n0_
             have HO234 := n1_
             have BK222 := n2_
             have HB := n3_
             clear n0_ n1_ n2_ n3_
             (try clear hb)
             (try clear hb2)
             (try clear hk)
             (try clear hi)
             (try clear ho0)
             refine hK.out _ _ ⟨HS0_, HS1_, HS2_, HS3_, HS4_, HS5_⟩ (fun hHeld => ?_)
             clear hK K
             refine norm_ (a' := ?_) ?_ ?_
             rotate_left
             ·show Act.put _ (some 27) _ = _
              simp only [Act.put, List.setIfInBounds_toArray, List.set_cons_zero, List.set_cons_succ, i64_w, i32_w]
              rfl
             exact norm_ (by first | (simp only [putAll, Act.put, List.setIfInBounds_toArray, List.set_cons_zero, List.set_cons_succ]; done) | (simp only [putAll, Act.put, List.setIfInBounds_toArray, List.set_cons_zero, List.set_cons_succ]; rfl)) (hJ3_7_15 (v233) _ ⟨hHeld, (kr HO225), (kr HO234), (kb BK222), (kB1 HB GE222)⟩)
            ·skip
             refine box_step ?hg (N := 5) ?hd (cs := #[.int .i64 0, .int .i64 0, .bool false, .slice none 0 0, .bool false, .slice none 0 0]) (t := 27) ?hr ?_; (case hd => rfl); (case hg => rfl); (case hr => first | (go_simp; done) | (go_simp; rfl))
             intro gb240 hg w19 hbox hb
             have HS0_ := (hb.cell (World.block_lt_of_cell? _ _ (hHeld.1))).trans (hHeld.1)
             have HS1_ := (hb.cell (World.block_lt_of_cell? _ _ (hHeld.2.1))).trans (hHeld.2.1)
             have HS2_ := (hb.cell (World.block_lt_of_cell? _ _ (hHeld.2.2.1))).trans (hHeld.2.2.1)
             have HS3_ := (hb.cell (World.block_lt_of_cell? _ _ (hHeld.2.2.2.1))).trans (hHeld.2.2.2.1)
             have HS4_ := (hb.cell (World.block_lt_of_cell? _ _ (hHeld.2.2.2.2.1))).trans (hHeld.2.2.2.2.1)
             have HS5_ := (hb.cell (World.block_lt_of_cell? _ _ (hHeld.2.2.2.2.2))).trans (hHeld.2.2.2.2.2)
             have n0_ := Aside0.mk (Kd.R_below (kr HO225) hb)
             have n1_ := Aside0.mk (blk_below (g := gb222) (o := .cells #[.int .i64 0, .int .i64 0, .bool false, .slice none 0 0, .bool false, .slice none 0 0] 27 (0, 0)) (kb BK222) hb)
             have n2_ := Aside0.mk (below_step (kB1 HB GE222) hb)
             have n3_ := Aside0.mk (hbox)
             have n4_ := Aside0.mk ((by rw [hg]; exact (below_size (kB1 HB GE222)) : w.heap.size ≤ gb240))
             have n5_ := Aside0.mk ((by rw [hg]; exact (below_size (kB1 HB GE222)) : w.heap.size ≤ gb240))
             have n6_ := Aside0.mk ((by rw [hg]; exact Nat.ne_of_lt (blk_lt (g := gb222) (o := .cells #[.int .i64 0, .int .i64 0, .bool false, .slice none 0 0, .bool false, .slice none 0 0] 27 (0, 0)) (kb BK222)) : gb222 ≠ gb240))
             have n7_ := Aside0.mk ((by rw [hg]; exact Nat.ne_of_gt (blk_lt (g := gb222) (o := .cells #[.int .i64 0, .int .i64 0, .bool false, .slice none 0 0, .bool false, .slice none 0 0] 27 (0, 0)) (kb BK222)) : gb240 ≠ gb222))
             clear HO225 BK222 HB
             have HO225 := n0_
             have BK222 := n1_
             have HB := n2_
             have BK240 := n3_
             have GW240 := n4_
             have GE240 := n5_
             have NB222_240 := n6_
             have NB240_222 := n7_
             clear n0_ n1_ n2_ n3_ n4_ n5_ n6_ n7_
             clear hb hbox hg
             refine hK.out _ _ ⟨HS0_, HS1_, HS2_, HS3_, HS4_, HS5_⟩ (fun hHeld => ?_)
             clear hK K
             refine norm_ (a' := ?_) ?_ ?_
             rotate_left
             ·show Act.put _ (some 5) _ = _
              simp only [Act.put, List.setIfInBounds_toArray, List.set_cons_zero, List.set_cons_succ, i64_w, i32_w]
              rfl
             exact norm_ (by first | (simp only [putAll, Act.put, List.setIfInBounds_toArray, List.set_cons_zero, List.set_cons_succ]; done) | (simp only [putAll, Act.put, List.setIfInBounds_toArray, List.set_cons_zero, List.set_cons_succ]; rfl)) (hJ3_7_25 (gb240) _ ⟨hHeld, (kr HO225), (kb BK222), (kb BK240), GW240.out, GE240.out, NB222_240.out, NB240_222.out, (kB2 HB GE222 GE240)⟩)
          ·skip
           rintro gb240 w19 ⟨hS_, h0_, h1_, h2_, h3_, h4_, h5_, h6_, h7_⟩
           have n0_ : Aside0 (Kd.R Kd.string 9 w19 w.heap.size (fun _ => True) (.slice (some ad226) t223.length co16) t223) := ⟨h0_⟩
           have n1_ : Aside0 (w19.heap[gb222]? = some (.cells #[.int .i64 0, .int .i64 0, .bool false, .slice none 0 0, .bool false, .slice none 0 0] 27 (0, 0))) := ⟨h1_⟩
           have n2_ : Aside0 (w19.heap[gb240]? = some (.cells #[.int .i64 0, .int .i64 0, .bool false, .slice none 0 0, .bool false, .slice none 0 0] 27 (0, 0))) := ⟨h2_⟩
           have n3_ : Aside0 (w.heap.size ≤ gb240) := ⟨h3_⟩
           have n4_ : Aside0 (w.heap.size ≤ gb240) := ⟨h4_⟩
           have n5_ : Aside0 (gb222 ≠ gb240) := ⟨h5_⟩
           have n6_ : Aside0 (gb240 ≠ gb222) := ⟨h6_⟩
           have n7_ : Aside0 (Below w.heap.size w w19) := ⟨h7_⟩
           clear HO225 BK222 HB
           clear h0_ h1_ h2_ h3_ h4_ h5_ h6_ h7_
           have HO225 := n0_
           have BK222 := n1_
           have BK240 := n2_
           have GW240 := n3_
           have GE240 := n4_
           have NB222_240 := n5_
           have NB240_222 := n6_
           have HB := n7_
           clear n0_ n1_ n2_ n3_ n4_ n5_ n6_ n7_
           have hHeld : w19.cell? ad226 = some (.string (rdOf ByteArray.empty t223 0)) ∧ w19.cell? ⟨ad226.block, ad226.off + 1, none⟩ = some (.string (rdOf ByteArray.empty t223 1)) ∧ w19.cell? ⟨ad226.block, ad226.off + 2, none⟩ = some (.string (rdOf ByteArray.empty t223 2)) ∧ w19.cell? ⟨ad226.block, ad226.off + 2, none⟩ = some (.string (rdOf ByteArray.empty t223 2)) ∧ w19.cell? ⟨ad226.block, ad226.off + 3, none⟩ = some (.string (rdOf ByteArray.empty t223 3)) ∧ w19.cell? ⟨ad226.block, ad226.off + 3, none⟩ = some (.string (rdOf ByteArray.empty t223 3)) := hS_
           refine norm_ (a' := ?_) ?_ ?_
           rotate_left
           ·simp only [putAll, Act.put, List.setIfInBounds_toArray, List.set_cons_zero, List.set_cons_succ]
            rfl
           refine one_ (i := 15) (N := some 27) #[true, true, true, true, true, true, true, true, true, true, true, true, true, true, true, true, true, true, true, true, true, true, true, false, false, true, false] rfl rfl (one_of HT_.out (by kernel_rfl)) (by decide) (fun K hK => ?_)
           refine goes_ Tryd.func30 (by kernel_rfl) rfl #[.string (rdOf ByteArray.empty t223 2)] (by rfl) rfl rfl (by (try simp only [List.map_toArray, List.map_cons, List.map_nil]); first | done | rfl | (simp only [List.length_drop, List.length_take]; rfl)) ?_
           with_reducible refine (spec_l41Bytes.calls k (rdOf ByteArray.empty t223 2) t232 _ A9.out).mono ?_
           rintro e w20 ⟨v233, rfl, ho0, hb⟩
           have HS0_ := (hb.cell (World.block_lt_of_cell? _ _ (hHeld.1))).trans (hHeld.1)
           have HS1_ := (hb.cell (World.block_lt_of_cell? _ _ (hHeld.2.1))).trans (hHeld.2.1)
           have HS2_ := (hb.cell (World.block_lt_of_cell? _ _ (hHeld.2.2.1))).trans (hHeld.2.2.1)
           have HS3_ := (hb.cell (World.block_lt_of_cell? _ _ (hHeld.2.2.2.1))).trans (hHeld.2.2.2.1)
           have HS4_ := (hb.cell (World.block_lt_of_cell? _ _ (hHeld.2.2.2.2.1))).trans (hHeld.2.2.2.2.1)
           have HS5_ := (hb.cell (World.block_lt_of_cell? _ _ (hHeld.2.2.2.2.2))).trans (hHeld.2.2.2.2.2)
           refine ⟨_, rfl, ?_⟩
           have n0_ := Aside0.mk (Kd.R_below (kr HO225) hb)
           have n1_ := Aside0.mk (Kd.R_lower ho0 (below_size (kB2 HB GE222 GE240)))
           have n2_ := Aside0.mk (blk_below (g := gb222) (o := .cells #[.int .i64 0, .int .i64 0, .bool false, .slice none 0 0, .bool false, .slice none 0 0] 27 (0, 0)) (kb BK222) hb)
           have n3_ := Aside0.mk (blk_below (g := gb240) (o := .cells #[.int .i64 0, .int .i64 0, .bool false, .slice none 0 0, .bool false, .slice none 0 0] 27 (0, 0)) (kb BK240) hb)
           have n4_ := Aside0.mk (below_step (kB2 HB GE222 GE240) hb)
           clear HO225 BK222
           clear BK240 HB
           have HO225 := n0_
           have HO234 := n1_
           have BK222 := n2_
           have BK240 := n3_
           have HB := n4_
           clear n0_ n1_ n2_ n3_ n4_
           (try clear hb)
           (try clear hb2)
           (try clear hk)
           (try clear hi)
           (try clear ho0)
           refine hK.out _ _ ⟨HS0_, HS1_, HS2_, HS3_, HS4_, HS5_⟩ (fun hHeld => ?_)
           clear hK K
           refine norm_ (a' := ?_) ?_ ?_
           rotate_left
           ·show Act.put _ (some 27) _ = _
            simp only [Act.put, List.setIfInBounds_toArray, List.set_cons_zero, List.set_cons_succ, i64_w, i32_w]
            rfl
           exact norm_ (by first | (simp only [putAll, Act.put, List.setIfInBounds_toArray, List.set_cons_zero, List.set_cons_succ]; done) | (simp only [putAll, Act.put, List.setIfInBounds_toArray, List.set_cons_zero, List.set_cons_succ]; rfl)) (hJ3_7_15_25 (v233, gb240) _ ⟨hHeld, (kr HO225), (kr HO234), (kb BK222), (kb BK240), GW240.out, GE240.out, NB222_240.out, NB240_222.out, (kB2 HB GE222 GE240)⟩)
         ·skip
          rintro v233 w19 ⟨hS_, h0_, h1_, h2_, h3_⟩
          have n0_ : Aside0 (Kd.R Kd.string 9 w19 w.heap.size (fun _ => True) (.slice (some ad226) t223.length co16) t223) := ⟨h0_⟩
          have n1_ : Aside0 (Kd.R (Kd.int .i64) 3 w19 w.heap.size (fun _ => True) v233 t232) := ⟨h1_⟩
          have n2_ : Aside0 (w19.heap[gb222]? = some (.cells #[.int .i64 0, .int .i64 0, .bool false, .slice none 0 0, .bool false, .slice none 0 0] 27 (0, 0))) := ⟨h2_⟩
          have n3_ : Aside0 (Below w.heap.size w w19) := ⟨h3_⟩
          clear HO225 BK222 HB
          clear h0_ h1_ h2_ h3_
          have HO225 := n0_
          have HO234 := n1_
          have BK222 := n2_
          have HB := n3_
          clear n0_ n1_ n2_ n3_
          have hHeld : w19.cell? ad226 = some (.string (rdOf ByteArray.empty t223 0)) ∧ w19.cell? ⟨ad226.block, ad226.off + 1, none⟩ = some (.string (rdOf ByteArray.empty t223 1)) ∧ w19.cell? ⟨ad226.block, ad226.off + 2, none⟩ = some (.string (rdOf ByteArray.empty t223 2)) ∧ w19.cell? ⟨ad226.block, ad226.off + 2, none⟩ = some (.string (rdOf ByteArray.empty t223 2)) ∧ w19.cell? ⟨ad226.block, ad226.off + 3, none⟩ = some (.string (rdOf ByteArray.empty t223 3)) ∧ w19.cell? ⟨ad226.block, ad226.off + 3, none⟩ = some (.string (rdOf ByteArray.empty t223 3)) := hS_
          refine norm_ (a' := ?_) ?_ ?_
          rotate_left
          ·simp only [putAll, Act.put, List.setIfInBounds_toArray, List.set_cons_zero, List.set_cons_succ]
           rfl
          refine two_ (i := 23) (j := 25) (Ni := some 35) (Nj := some 5) #[true, true, true, true, true, true, true, true, true, true, true, true, true, true, true, true, true, true, true, true, true, true, true, true, false, false, false] #[true, true, true, true, true, true, true, true, true, true, true, true, true, true, true, true, true, true, true, true, true, true, true, false, false, true, false] rfl rfl rfl rfl (two_of HT_.out (by kernel_rfl)) (by decide) (by decide) (fun K hK => ?_) (fun K hK => ?_)
          ·skip
           refine goes_ Tryd.func30 (by kernel_rfl) rfl #[.string (rdOf ByteArray.empty t223 3)] (by rfl) rfl rfl (by (try simp only [List.map_toArray, List.map_cons, List.map_nil]); first | done | rfl | (simp only [List.length_drop, List.length_take]; rfl)) ?_
           with_reducible refine (spec_l41Bytes.calls k (rdOf ByteArray.empty t223 3) t237 _ A11.out).mono ?_
           rintro e w20 ⟨v238, rfl, ho0, hb⟩
           have HS0_ := (hb.cell (World.block_lt_of_cell? _ _ (hHeld.1))).trans (hHeld.1)
           have HS1_ := (hb.cell (World.block_lt_of_cell? _ _ (hHeld.2.1))).trans (hHeld.2.1)
           have HS2_ := (hb.cell (World.block_lt_of_cell? _ _ (hHeld.2.2.1))).trans (hHeld.2.2.1)
           have HS3_ := (hb.cell (World.block_lt_of_cell? _ _ (hHeld.2.2.2.1))).trans (hHeld.2.2.2.1)
           have HS4_ := (hb.cell (World.block_lt_of_cell? _ _ (hHeld.2.2.2.2.1))).trans (hHeld.2.2.2.2.1)
           have HS5_ := (hb.cell (World.block_lt_of_cell? _ _ (hHeld.2.2.2.2.2))).trans (hHeld.2.2.2.2.2)
           refine ⟨_, rfl, ?_⟩
           have n0_ := Aside0.mk (Kd.R_below (kr HO225) hb)
           have n1_ := Aside0.mk (Kd.R_elder' (kr HO234) (Kd.R_base ho0) hb)
           have n2_ := Aside0.mk (Kd.R_lower (Kd.R_new' ho0 (Kd.R_lt (kr HO234))) (below_size (kB1 HB GE222)))
           have n3_ := Aside0.mk (blk_below (g := gb222) (o := .cells #[.int .i64 0, .int .i64 0, .bool false, .slice none 0 0, .bool false, .slice none 0 0] 27 (0, 0)) (kb BK222) hb)
           have n4_ := Aside0.mk (below_step (kB1 HB GE222) hb)
           clear HO225 HO234
           clear BK222 HB
           have HO225 := n0_
           have HO234 := n1_
           have HO239 := n2_
           have BK222 := n3_
           have HB := n4_
           clear n0_ n1_ n2_ n3_ n4_
           (try clear hb)
           (try clear hb2)
           (try clear hk)
           (try clear hi)
           (try clear ho0)
           obtain ⟨Ao21, co21, eo21⟩ := Kd.R_slice HO239.out
           (first | subst eo21 | (injection eo21 with f1_ f2_ f3_; have f4_ := f1_.symm; have f5_ := f3_.symm; clear f1_ f2_ f3_; subst f4_; subst f5_))
           obtain ⟨Ao22, co22, eo22⟩ := Kd.R_slice HO234.out
           (first | subst eo22 | (injection eo22 with f1_ f2_ f3_; have f4_ := f1_.symm; have f5_ := f3_.symm; clear f1_ f2_ f3_; subst f4_; subst f5_))
           refine hK.out _ _ ⟨HS0_, HS1_, HS2_, HS3_, HS4_, HS5_⟩ (fun hHeld => ?_)
           clear hK K
           refine norm_ (a' := ?_) ?_ ?_
           rotate_left
           ·show Act.put _ (some 35) _ = _
            simp only [Act.put, List.setIfInBounds_toArray, List.set_cons_zero, List.set_cons_succ, i64_w, i32_w]
            rfl
           refine pure_ (i := 24) (N := some 36) (v := ?_) (a' := ?_) #[true, true, true, true, true, true, true, true, true, true, true, true, true, true, true, true, true, true, true, true, true, true, true, true, true, false, false] rfl rfl (any_of HT_.out (by kernel_rfl)) (fun _ _ _ h => h) (Or.inl ⟨by rfl, ?_⟩) ?_ ?_
           rotate_left
           ·intro w'
            go_simp
            with_reducible rfl
           rotate_left
           ·simp only [Act.put, List.setIfInBounds_toArray, List.set_cons_zero, List.set_cons_succ, i64_w, i32_w]
            rfl
           exact norm_ (by first | (simp only [putAll, Act.put, List.setIfInBounds_toArray, List.set_cons_zero, List.set_cons_succ]; done) | (simp only [putAll, Act.put, List.setIfInBounds_toArray, List.set_cons_zero, List.set_cons_succ]; rfl)) (hJ3_7_15_23 (.slice Ao22 t232.length co22, .slice Ao21 t237.length co21) _ ⟨hHeld, (kr HO225), (by (with_reducible repeat (first | apply Kd.R_alloc | apply Kd.R_drewN | apply Kd.R_drew)); exact Kd.R_mono HO234.out (fun _ hk => hk.2)), (by (with_reducible repeat (first | apply Kd.R_alloc | apply Kd.R_drewN | apply Kd.R_drew)); exact Kd.R_mono HO239.out (fun _ hk => hk.2)), (kb BK222), (kB1 HB GE222)⟩)
          ·skip
           refine box_step ?hg (N := 5) ?hd (cs := #[.int .i64 0, .int .i64 0, .bool false, .slice none 0 0, .bool false, .slice none 0 0]) (t := 27) ?hr ?_; (case hd => rfl); (case hg => rfl); (case hr => first | (go_simp; done) | (go_simp; rfl))
           intro gb240 hg w20 hbox hb
           have HS0_ := (hb.cell (World.block_lt_of_cell? _ _ (hHeld.1))).trans (hHeld.1)
           have HS1_ := (hb.cell (World.block_lt_of_cell? _ _ (hHeld.2.1))).trans (hHeld.2.1)
           have HS2_ := (hb.cell (World.block_lt_of_cell? _ _ (hHeld.2.2.1))).trans (hHeld.2.2.1)
           have HS3_ := (hb.cell (World.block_lt_of_cell? _ _ (hHeld.2.2.2.1))).trans (hHeld.2.2.2.1)
           have HS4_ := (hb.cell (World.block_lt_of_cell? _ _ (hHeld.2.2.2.2.1))).trans (hHeld.2.2.2.2.1)
           have HS5_ := (hb.cell (World.block_lt_of_cell? _ _ (hHeld.2.2.2.2.2))).trans (hHeld.2.2.2.2.2)
           have n0_ := Aside0.mk (Kd.R_below (kr HO225) hb)
           have n1_ := Aside0.mk (Kd.R_below (kr HO234) hb)
           have n2_ := Aside0.mk (blk_below (g := gb222) (o := .cells #[.int .i64 0, .int .i64 0, .bool false, .slice none 0 0, .bool false, .slice none 0 0] 27 (0, 0)) (kb BK222) hb)
           have n3_ := Aside0.mk (below_step (kB1 HB GE222) hb)
           have n4_ := Aside0.mk (hbox)
           have n5_ := Aside0.mk ((by rw [hg]; exact (below_size (kB1 HB GE222)) : w.heap.size ≤ gb240))
           have n6_ := Aside0.mk ((by rw [hg]; exact (below_size (kB1 HB GE222)) : w.heap.size ≤ gb240))
           have n7_ := Aside0.mk ((by rw [hg]; exact Nat.ne_of_lt (blk_lt (g := gb222) (o := .cells #[.int .i64 0, .int .i64 0, .bool false, .slice none 0 0, .bool false, .slice none 0 0] 27 (0, 0)) (kb BK222)) : gb222 ≠ gb240))
           have n8_ := Aside0.mk ((by rw [hg]; exact Nat.ne_of_gt (blk_lt (g := gb222) (o := .cells #[.int .i64 0, .int .i64 0, .bool false, .slice none 0 0, .bool false, .slice none 0 0] 27 (0, 0)) (kb BK222)) : gb240 ≠ gb222))
           clear HO225 HO234
           clear BK222 HB
           have HO225 := n0_
           have HO234 := n1_
           have BK222 := n2_
           have HB := n3_
           have BK240 := n4_
           have GW240 := n5_
           have GE240 := n6_
           have NB222_240 := n7_
           have NB240_222 := n8_
           clear n0_ n1_ n2_ n3_ n4_ n5_ n6_ n7_ n8_
           clear hb hbox hg
           refine hK.out _ _ ⟨HS0_, HS1_, HS2_, HS3_, HS4_, HS5_⟩ (fun hHeld => ?_)
           clear hK K
           refine norm_ (a' := ?_) ?_ ?_
           rotate_left
           ·show Act.put _ (some 5) _ = _
            simp only [Act.put, List.setIfInBounds_toArray, List.set_cons_zero, List.set_cons_succ, i64_w, i32_w]
            rfl
           exact norm_ (by first | (simp only [putAll, Act.put, List.setIfInBounds_toArray, List.set_cons_zero, List.set_cons_succ]; done) | (simp only [putAll, Act.put, List.setIfInBounds_toArray, List.set_cons_zero, List.set_cons_succ]; rfl)) (hJ3_7_15_25 (v233, gb240) _ ⟨hHeld, (kr HO225), (kr HO234), (kb BK222), (kb BK240), GW240.out, GE240.out, NB222_240.out, NB240_222.out, (kB2 HB GE222 GE240)⟩)
        ·skip
         rintro ⟨v233, gb240⟩ w20 ⟨hS_, h0_, h1_, h2_, h3_, h4_, h5_, h6_, h7_, h8_⟩
         have n0_ : Aside0 (Kd.R Kd.string 9 w20 w.heap.size (fun _ => True) (.slice (some ad226) t223.length co16) t223) := ⟨h0_⟩
         have n1_ : Aside0 (Kd.R (Kd.int .i64) 3 w20 w.heap.size (fun _ => True) v233 t232) := ⟨h1_⟩
         have n2_ : Aside0 (w20.heap[gb222]? = some (.cells #[.int .i64 0, .int .i64 0, .bool false, .slice none 0 0, .bool false, .slice none 0 0] 27 (0, 0))) := ⟨h2_⟩
         have n3_ : Aside0 (w20.heap[gb240]? = some (.cells #[.int .i64 0, .int .i64 0, .bool false, .slice none 0 0, .bool false, .slice none 0 0] 27 (0, 0))) := ⟨h3_⟩
         have n4_ : Aside0 (w.heap.size ≤ gb240) := ⟨h4_⟩
         have n5_ : Aside0 (w.heap.size ≤ gb240) := ⟨h5_⟩
         have n6_ : Aside0 (gb222 ≠ gb240) := ⟨h6_⟩
         have n7_ : Aside0 (gb240 ≠ gb222) := ⟨h7_⟩
         have n8_ : Aside0 (Below w.heap.size w w20) := ⟨h8_⟩
         clear HO225 BK222 HB
         clear h0_ h1_ h2_ h3_ h4_ h5_ h6_ h7_ h8_
         have HO225 := n0_
         have HO234 := n1_
         have BK222 := n2_
         have BK240 := n3_
         have GW240 := n4_
         have GE240 := n5_
         have NB222_240 := n6_
         have NB240_222 := n7_
         have HB := n8_
         clear n0_ n1_ n2_ n3_ n4_ n5_ n6_ n7_ n8_
         have hHeld : w20.cell? ad226 = some (.string (rdOf ByteArray.empty t223 0)) ∧ w20.cell? ⟨ad226.block, ad226.off + 1, none⟩ = some (.string (rdOf ByteArray.empty t223 1)) ∧ w20.cell? ⟨ad226.block, ad226.off + 2, none⟩ = some (.string (rdOf ByteArray.empty t223 2)) ∧ w20.cell? ⟨ad226.block, ad226.off + 2, none⟩ = some (.string (rdOf ByteArray.empty t223 2)) ∧ w20.cell? ⟨ad226.block, ad226.off + 3, none⟩ = some (.string (rdOf ByteArray.empty t223 3)) ∧ w20.cell? ⟨ad226.block, ad226.off + 3, none⟩ = some (.string (rdOf ByteArray.empty t223 3)) := hS_
         refine norm_ (a' := ?_) ?_ ?_
         rotate_left
         ·simp only [putAll, Act.put, List.setIfInBounds_toArray, List.set_cons_zero, List.set_cons_succ]
          rfl
         refine one_ (i := 23) (N := some 35) #[true, true, true, true, true, true, true, true, true, true, true, true, true, true, true, true, true, true, true, true, true, true, true, true, false, true, false] rfl rfl (one_of HT_.out (by kernel_rfl)) (by decide) (fun K hK => ?_)
         refine goes_ Tryd.func30 (by kernel_rfl) rfl #[.string (rdOf ByteArray.empty t223 3)] (by rfl) rfl rfl (by (try simp only [List.map_toArray, List.map_cons, List.map_nil]); first | done | rfl | (simp only [List.length_drop, List.length_take]; rfl)) ?_
         with_reducible refine (spec_l41Bytes.calls k (rdOf ByteArray.empty t223 3) t237 _ A11.out).mono ?_
         rintro e w21 ⟨v238, rfl, ho0, hb⟩
         have HS0_ := (hb.cell (World.block_lt_of_cell? _ _ (hHeld.1))).trans (hHeld.1)
         have HS1_ := (hb.cell (World.block_lt_of_cell? _ _ (hHeld.2.1))).trans (hHeld.2.1)
         have HS2_ := (hb.cell (World.block_lt_of_cell? _ _ (hHeld.2.2.1))).trans (hHeld.2.2.1)
         have HS3_ := (hb.cell (World.block_lt_of_cell? _ _ (hHeld.2.2.2.1))).trans (hHeld.2.2.2.1)
         have HS4_ := (hb.cell (World.block_lt_of_cell? _ _ (hHeld.2.2.2.2.1))).trans (hHeld.2.2.2.2.1)
         have HS5_ := (hb.cell (World.block_lt_of_cell? _ _ (hHeld.2.2.2.2.2))).trans (hHeld.2.2.2.2.2)
         refine ⟨_, rfl, ?_⟩
         have n0_ := Aside0.mk (Kd.R_below (kr HO225) hb)
         have n1_ := Aside0.mk (Kd.R_elder' (kr HO234) (Kd.R_base ho0) hb)
         have n2_ := Aside0.mk (Kd.R_lower (Kd.R_new' ho0 (Kd.R_lt (kr HO234))) (below_size (kB2 HB GE222 GE240)))
         have n3_ := Aside0.mk (blk_below (g := gb222) (o := .cells #[.int .i64 0, .int .i64 0, .bool false, .slice none 0 0, .bool false, .slice none 0 0] 27 (0, 0)) (kb BK222) hb)
         have n4_ := Aside0.mk (blk_below (g := gb240) (o := .cells #[.int .i64 0, .int .i64 0, .bool false, .slice none 0 0, .bool false, .slice none 0 0] 27 (0, 0)) (kb BK240) hb)
         have n5_ := Aside0.mk (below_step (kB2 HB GE222 GE240) hb)
         clear HO225 HO234
         clear BK222 BK240 HB
         have HO225 := n0_
         have HO234 := n1_
         have HO239 := n2_
         have BK222 := n3_
         have BK240 := n4_
         have HB := n5_
         clear n0_ n1_ n2_ n3_ n4_ n5_
         (try clear hb)
         (try clear hb2)
         (try clear hk)
         (try clear hi)
         (try clear ho0)
         obtain ⟨Ao22, co22, eo22⟩ := Kd.R_slice HO239.out
         (first | subst eo22 | (injection eo22 with f1_ f2_ f3_; have f4_ := f1_.symm; have f5_ := f3_.symm; clear f1_ f2_ f3_; subst f4_; subst f5_))
         obtain ⟨Ao23, co23, eo23⟩ := Kd.R_slice HO234.out
         (first | subst eo23 | (injection eo23 with f1_ f2_ f3_; have f4_ := f1_.symm; have f5_ := f3_.symm; clear f1_ f2_ f3_; subst f4_; subst f5_))
         refine hK.out _ _ ⟨HS0_, HS1_, HS2_, HS3_, HS4_, HS5_⟩ (fun hHeld => ?_)
         clear hK K
         refine norm_ (a' := ?_) ?_ ?_
         rotate_left
         ·show Act.put _ (some 35) _ = _
          simp only [Act.put, List.setIfInBounds_toArray, List.set_cons_zero, List.set_cons_succ, i64_w, i32_w]
          rfl
         refine pure_ (i := 24) (N := some 36) (v := ?_) (a' := ?_) #[true, true, true, true, true, true, true, true, true, true, true, true, true, true, true, true, true, true, true, true, true, true, true, true, true, true, false] rfl rfl (any_of HT_.out (by kernel_rfl)) (fun _ _ _ h => h) (Or.inl ⟨by rfl, ?_⟩) ?_ ?_
         rotate_left
         ·intro w'
          go_simp
          with_reducible rfl
         rotate_left
         ·simp only [Act.put, List.setIfInBounds_toArray, List.set_cons_zero, List.set_cons_succ, i64_w, i32_w]
          rfl
         exact norm_ (by first | (simp only [putAll, Act.put, List.setIfInBounds_toArray, List.set_cons_zero, List.set_cons_succ]; done) | (simp only [putAll, Act.put, List.setIfInBounds_toArray, List.set_cons_zero, List.set_cons_succ]; rfl)) (hJ3_7_15_23_25 (.slice Ao23 t232.length co23, .slice Ao22 t237.length co22, gb240) _ ⟨hHeld, (kr HO225), (by (with_reducible repeat (first | apply Kd.R_alloc | apply Kd.R_drewN | apply Kd.R_drew)); exact Kd.R_mono HO234.out (fun _ hk => hk.2)), (by (with_reducible repeat (first | apply Kd.R_alloc | apply Kd.R_drewN | apply Kd.R_drew)); exact Kd.R_mono HO239.out (fun _ hk => hk.2)), (kb BK222), (kb BK240), GW240.out, GE240.out, NB222_240.out, NB240_222.out, (kB2 HB GE222 GE240)⟩)
       ·skip
        rintro ⟨v233, v238⟩ w22 ⟨hS_, h0_, h1_, h2_, h3_, h4_⟩
        have n0_ : Aside0 (Kd.R Kd.string 9 w22 w.heap.size (fun _ => True) (.slice (some ad226) t223.length co16) t223) := ⟨h0_⟩
        have n1_ : Aside0 (Kd.R (Kd.int .i64) 3 w22 w.heap.size (fun k_ => some k_ ≠ (v238 : Value).ownBlock) v233 t232) := ⟨h1_⟩
        have n2_ : Aside0 (Kd.R (Kd.int .i64) 3 w22 w.heap.size (fun k_ => some k_ ≠ (v233 : Value).ownBlock) v238 t237) := ⟨h2_⟩
        have n3_ : Aside0 (w22.heap[gb222]? = some (.cells #[.int .i64 0, .int .i64 0, .bool false, .slice none 0 0, .bool false, .slice none 0 0] 27 (0, 0))) := ⟨h3_⟩
        have n4_ : Aside0 (Below w.heap.size w w22) := ⟨h4_⟩
        clear HO225 BK222 HB
        clear h0_ h1_ h2_ h3_ h4_
        have HO225 := n0_
        have HO234 := n1_
        have HO239 := n2_
        have BK222 := n3_
        have HB := n4_
        clear n0_ n1_ n2_ n3_ n4_
        have hHeld : w22.cell? ad226 = some (.string (rdOf ByteArray.empty t223 0)) ∧ w22.cell? ⟨ad226.block, ad226.off + 1, none⟩ = some (.string (rdOf ByteArray.empty t223 1)) ∧ w22.cell? ⟨ad226.block, ad226.off + 2, none⟩ = some (.string (rdOf ByteArray.empty t223 2)) ∧ w22.cell? ⟨ad226.block, ad226.off + 2, none⟩ = some (.string (rdOf ByteArray.empty t223 2)) ∧ w22.cell? ⟨ad226.block, ad226.off + 3, none⟩ = some (.string (rdOf ByteArray.empty t223 3)) ∧ w22.cell? ⟨ad226.block, ad226.off + 3, none⟩ = some (.string (rdOf ByteArray.empty t223 3)) := hS_
        obtain ⟨Ao23, co23, eo23⟩ := Kd.R_slice HO239.out
        (first | subst eo23 | (injection eo23 with f1_ f2_ f3_; have f4_ := f1_.symm; have f5_ := f3_.symm; clear f1_ f2_ f3_; subst f4_; subst f5_))
        obtain ⟨Ao24, co24, eo24⟩ := Kd.R_slice HO234.out
        (first | subst eo24 | (injection eo24 with f1_ f2_ f3_; have f4_ := f1_.symm; have f5_ := f3_.symm; clear f1_ f2_ f3_; subst f4_; subst f5_))
        refine norm_ (a' := ?_) ?_ ?_
        rotate_left
        ·simp only [putAll, Act.put, List.setIfInBounds_toArray, List.set_cons_zero, List.set_cons_succ]
         rfl
        refine one_ (i := 25) (N := some 5) #[true, true, true, true, true, true, true, true, true, true, true, true, true, true, true, true, true, true, true, true, true, true, true, true, true, true, false] rfl rfl (one_of HT_.out (by kernel_rfl)) (by decide) (fun K hK => ?_)
        refine box_step ?hg (N := 5) ?hd (cs := #[.int .i64 0, .int .i64 0, .bool false, .slice none 0 0, .bool false, .slice none 0 0]) (t := 27) ?hr ?_; (case hd => rfl); (case hg => rfl); (case hr => first | (go_simp; done) | (go_simp; rfl))
        intro gb240 hg w25 hbox hb
        have HS0_ := (hb.cell (World.block_lt_of_cell? _ _ (hHeld.1))).trans (hHeld.1)
        have HS1_ := (hb.cell (World.block_lt_of_cell? _ _ (hHeld.2.1))).trans (hHeld.2.1)
        have HS2_ := (hb.cell (World.block_lt_of_cell? _ _ (hHeld.2.2.1))).trans (hHeld.2.2.1)
        have HS3_ := (hb.cell (World.block_lt_of_cell? _ _ (hHeld.2.2.2.1))).trans (hHeld.2.2.2.1)
        have HS4_ := (hb.cell (World.block_lt_of_cell? _ _ (hHeld.2.2.2.2.1))).trans (hHeld.2.2.2.2.1)
        have HS5_ := (hb.cell (World.block_lt_of_cell? _ _ (hHeld.2.2.2.2.2))).trans (hHeld.2.2.2.2.2)
        have n0_ := Aside0.mk (Kd.R_below (kr HO225) hb)
        have n1_ := Aside0.mk (Kd.R_below (kr HO234) hb)
        have n2_ := Aside0.mk (Kd.R_below (kr HO239) hb)
        have n3_ := Aside0.mk (blk_below (g := gb222) (o := .cells #[.int .i64 0, .int .i64 0, .bool false, .slice none 0 0, .bool false, .slice none 0 0] 27 (0, 0)) (kb BK222) hb)
        have n4_ := Aside0.mk (below_step (kB1 HB GE222) hb)
        have n5_ := Aside0.mk (hbox)
        have n6_ := Aside0.mk ((by rw [hg]; exact (below_size (kB1 HB GE222)) : w.heap.size ≤ gb240))
        have n7_ := Aside0.mk ((by rw [hg]; exact (below_size (kB1 HB GE222)) : w.heap.size ≤ gb240))
        have n8_ := Aside0.mk ((by rw [hg]; exact Nat.ne_of_lt (blk_lt (g := gb222) (o := .cells #[.int .i64 0, .int .i64 0, .bool false, .slice none 0 0, .bool false, .slice none 0 0] 27 (0, 0)) (kb BK222)) : gb222 ≠ gb240))
        have n9_ := Aside0.mk ((by rw [hg]; exact Nat.ne_of_gt (blk_lt (g := gb222) (o := .cells #[.int .i64 0, .int .i64 0, .bool false, .slice none 0 0, .bool false, .slice none 0 0] 27 (0, 0)) (kb BK222)) : gb240 ≠ gb222))
        clear HO225 HO234
        clear HO239 BK222 HB
        have HO225 := n0_
        have HO234 := n1_
        have HO239 := n2_
        have BK222 := n3_
        have HB := n4_
        have BK240 := n5_
        have GW240 := n6_
        have GE240 := n7_
        have NB222_240 := n8_
        have NB240_222 := n9_
        clear n0_ n1_ n2_ n3_ n4_ n5_ n6_ n7_ n8_ n9_
        clear hb hbox hg
        refine hK.out _ _ ⟨HS0_, HS1_, HS2_, HS3_, HS4_, HS5_⟩ (fun hHeld => ?_)
        clear hK K
        refine norm_ (a' := ?_) ?_ ?_
        rotate_left
        ·show Act.put _ (some 5) _ = _
         simp only [Act.put, List.setIfInBounds_toArray, List.set_cons_zero, List.set_cons_succ, i64_w, i32_w]
         rfl
        exact norm_ (by first | (simp only [putAll, Act.put, List.setIfInBounds_toArray, List.set_cons_zero, List.set_cons_succ]; done) | (simp only [putAll, Act.put, List.setIfInBounds_toArray, List.set_cons_zero, List.set_cons_succ]; rfl)) (hJ3_7_15_23_25 (.slice Ao24 t232.length co24, .slice Ao23 t237.length co23, gb240) _ ⟨hHeld, (kr HO225), (kr HO234), (kr HO239), (kb BK222), (kb BK240), GW240.out, GE240.out, NB222_240.out, NB240_222.out, (kB2 HB GE222 GE240)⟩)
      rintro ⟨v233, v238, gb240⟩ w23 ⟨hS_, h0_, h1_, h2_, h3_, h4_, h5_, h6_, h7_, h8_, h9_⟩
      have n0_ : Aside0 (Kd.R Kd.string 9 w23 w.heap.size (fun _ => True) (.slice (some ad226) t223.length co16) t223) := ⟨h0_⟩
      have n1_ : Aside0 (Kd.R (Kd.int .i64) 3 w23 w.heap.size (fun k_ => some k_ ≠ (v238 : Value).ownBlock) v233 t232) := ⟨h1_⟩
      have n2_ : Aside0 (Kd.R (Kd.int .i64) 3 w23 w.heap.size (fun k_ => some k_ ≠ (v233 : Value).ownBlock) v238 t237) := ⟨h2_⟩
      have n3_ : Aside0 (w23.heap[gb222]? = some (.cells #[.int .i64 0, .int .i64 0, .bool false, .slice none 0 0, .bool false, .slice none 0 0] 27 (0, 0))) := ⟨h3_⟩
      have n4_ : Aside0 (w23.heap[gb240]? = some (.cells #[.int .i64 0, .int .i64 0, .bool false, .slice none 0 0, .bool false, .slice none 0 0] 27 (0, 0))) := ⟨h4_⟩
      have n5_ : Aside0 (w.heap.size ≤ gb240) := ⟨h5_⟩
      have n6_ : Aside0 (w.heap.size ≤ gb240) := ⟨h6_⟩
      have n7_ : Aside0 (gb222 ≠ gb240) := ⟨h7_⟩
      have n8_ : Aside0 (gb240 ≠ gb222) := ⟨h8_⟩
      have n9_ : Aside0 (Below w.heap.size w w23) := ⟨h9_⟩
      clear HO225 BK222 HB
      clear h0_ h1_ h2_ h3_ h4_ h5_ h6_ h7_ h8_ h9_
      have HO225 := n0_
      have HO234 := n1_
      have HO239 := n2_
      have BK222 := n3_
      have BK240 := n4_
      have GW240 := n5_
      have GE240 := n6_
      have NB222_240 := n7_
      have NB240_222 := n8_
      have HB := n9_
      clear n0_ n1_ n2_ n3_ n4_ n5_ n6_ n7_ n8_ n9_
      have hHeld : w23.cell? ad226 = some (.string (rdOf ByteArray.empty t223 0)) ∧ w23.cell? ⟨ad226.block, ad226.off + 1, none⟩ = some (.string (rdOf ByteArray.empty t223 1)) ∧ w23.cell? ⟨ad226.block, ad226.off + 2, none⟩ = some (.string (rdOf ByteArray.empty t223 2)) ∧ w23.cell? ⟨ad226.block, ad226.off + 2, none⟩ = some (.string (rdOf ByteArray.empty t223 2)) ∧ w23.cell? ⟨ad226.block, ad226.off + 3, none⟩ = some (.string (rdOf ByteArray.empty t223 3)) ∧ w23.cell? ⟨ad226.block, ad226.off + 3, none⟩ = some (.string (rdOf ByteArray.empty t223 3)) := hS_
      obtain ⟨Ao24, co24, eo24⟩ := Kd.R_slice HO239.out
      (first | subst eo24 | (injection eo24 with f1_ f2_ f3_; have f4_ := f1_.symm; have f5_ := f3_.symm; clear f1_ f2_ f3_; subst f4_; subst f5_))
      obtain ⟨Ao25, co25, eo25⟩ := Kd.R_slice HO234.out
      (first | subst eo25 | (injection eo25 with f1_ f2_ f3_; have f4_ := f1_.symm; have f5_ := f3_.symm; clear f1_ f2_ f3_; subst f4_; subst f5_))
      refine norm_ (a' := ?_) ?_ ?_
      rotate_left
      ·simp only [putAll, Act.put, List.setIfInBounds_toArray, List.set_cons_zero, List.set_cons_succ]
       rfl
      refine one_ (i := 26) (N := none) #[true, true, true, true, true, true, true, true, true, true, true, true, true, true, true, true, true, true, true, true, true, true, true, true, true, true, true] rfl rfl (one_of HT_.out (by kernel_rfl)) (by decide) (fun K hK => ?_)
      have hs26 : w23.cell? ⟨gb240, 0, none⟩ = some (.int .i64 0) := (blk_cell BK240.out 0).trans rfl
      have hfs26 := blk_frozen BK240.out 0
      have hns26_0 := NB222_240.out
      have hms26_0 := NB240_222.out
      have hs27 : w23.cell? ⟨gb240, 1, none⟩ = some (.int .i64 0) := (blk_cell BK240.out 1).trans rfl
      have hfs27 := blk_frozen BK240.out 1
      have hns27_0 := NB222_240.out
      have hms27_0 := NB240_222.out
      have hs28 : w23.cell? ⟨gb240, 2, none⟩ = some (.bool false) := (blk_cell BK240.out 2).trans rfl
      have hfs28 := blk_frozen BK240.out 2
      have hns28_0 := NB222_240.out
      have hms28_0 := NB240_222.out
      have hs29 : w23.cell? ⟨gb240, 3, none⟩ = some (.slice none 0 0) := (blk_cell BK240.out 3).trans rfl
      have hfs29 := blk_frozen BK240.out 3
      have hns29_0 := NB222_240.out
      have hms29_0 := NB240_222.out
      have hs30 : w23.cell? ⟨gb240, 4, none⟩ = some (.bool false) := (blk_cell BK240.out 4).trans rfl
      have hfs30 := blk_frozen BK240.out 4
      have hns30_0 := NB222_240.out
      have hms30_0 := NB240_222.out
      have hs31 : w23.cell? ⟨gb240, 5, none⟩ = some (.slice none 0 0) := (blk_cell BK240.out 5).trans rfl
      have hfs31 := blk_frozen BK240.out 5
      have hns31_0 := NB222_240.out
      have hms31_0 := NB240_222.out
      refine skip_ (w1 := ?_) (by rfl) rfl ?_ ?_
      rotate_left
      ·go_simp
       rfl
      refine hK.out _ _ ⟨((cell_far (p := ⟨gb240, _, none⟩) (by first | (rw [add_block]; exact Kd.own_blk (Kd.R_ne HO225.out BK240.out (by decide))) | (dsimp only; exact Kd.own_blk (Kd.R_ne HO225.out BK240.out (by decide))) | exact Kd.own_blk (Kd.R_ne HO225.out BK240.out (by decide))) _).trans (((cell_far (p := ⟨gb240, _, none⟩) (by first | (rw [add_block]; exact Kd.own_blk (Kd.R_ne HO225.out BK240.out (by decide))) | (dsimp only; exact Kd.own_blk (Kd.R_ne HO225.out BK240.out (by decide))) | exact Kd.own_blk (Kd.R_ne HO225.out BK240.out (by decide))) _).trans (((cell_far (p := ⟨gb240, _, none⟩) (by first | (rw [add_block]; exact Kd.own_blk (Kd.R_ne HO225.out BK240.out (by decide))) | (dsimp only; exact Kd.own_blk (Kd.R_ne HO225.out BK240.out (by decide))) | exact Kd.own_blk (Kd.R_ne HO225.out BK240.out (by decide))) _).trans (((cell_far (p := ⟨gb240, _, none⟩) (by first | (rw [add_block]; exact Kd.own_blk (Kd.R_ne HO225.out BK240.out (by decide))) | (dsimp only; exact Kd.own_blk (Kd.R_ne HO225.out BK240.out (by decide))) | exact Kd.own_blk (Kd.R_ne HO225.out BK240.out (by decide))) _).trans (((cell_far (p := ⟨gb240, _, none⟩) (by first | (rw [add_block]; exact Kd.own_blk (Kd.R_ne HO225.out BK240.out (by decide))) | (dsimp only; exact Kd.own_blk (Kd.R_ne HO225.out BK240.out (by decide))) | exact Kd.own_blk (Kd.R_ne HO225.out BK240.out (by decide))) _).trans (((cell_far (p := ⟨gb240, _, none⟩) (by first | (rw [add_block]; exact Kd.own_blk (Kd.R_ne HO225.out BK240.out (by decide))) | (dsimp only; exact Kd.own_blk (Kd.R_ne HO225.out BK240.out (by decide))) | exact Kd.own_blk (Kd.R_ne HO225.out BK240.out (by decide))) _).trans (hHeld.1)))))))))))), ((cell_far (p := ⟨gb240, _, none⟩) (by first | (rw [add_block]; exact Kd.own_blk (Kd.R_ne HO225.out BK240.out (by decide))) | (dsimp only; exact Kd.own_blk (Kd.R_ne HO225.out BK240.out (by decide))) | exact Kd.own_blk (Kd.R_ne HO225.out BK240.out (by decide))) _).trans (((cell_far (p := ⟨gb240, _, none⟩) (by first | (rw [add_block]; exact Kd.own_blk (Kd.R_ne HO225.out BK240.out (by decide))) | (dsimp only; exact Kd.own_blk (Kd.R_ne HO225.out BK240.out (by decide))) | exact Kd.own_blk (Kd.R_ne HO225.out BK240.out (by decide))) _).trans (((cell_far (p := ⟨gb240, _, none⟩) (by first | (rw [add_block]; exact Kd.own_blk (Kd.R_ne HO225.out BK240.out (by decide))) | (dsimp only; exact Kd.own_blk (Kd.R_ne HO225.out BK240.out (by decide))) | exact Kd.own_blk (Kd.R_ne HO225.out BK240.out (by decide))) _).trans (((cell_far (p := ⟨gb240, _, none⟩) (by first | (rw [add_block]; exact Kd.own_blk (Kd.R_ne HO225.out BK240.out (by decide))) | (dsimp only; exact Kd.own_blk (Kd.R_ne HO225.out BK240.out (by decide))) | exact Kd.own_blk (Kd.R_ne HO225.out BK240.out (by decide))) _).trans (((cell_far (p := ⟨gb240, _, none⟩) (by first | (rw [add_block]; exact Kd.own_blk (Kd.R_ne HO225.out BK240.out (by decide))) | (dsimp only; exact Kd.own_blk (Kd.R_ne HO225.out BK240.out (by decide))) | exact Kd.own_blk (Kd.R_ne HO225.out BK240.out (by decide))) _).trans (((cell_far (p := ⟨gb240, _, none⟩) (by first | (rw [add_block]; exact Kd.own_blk (Kd.R_ne HO225.out BK240.out (by decide))) | (dsimp only; exact Kd.own_blk (Kd.R_ne HO225.out BK240.out (by decide))) | exact Kd.own_blk (Kd.R_ne HO225.out BK240.out (by decide))) _).trans (hHeld.2.1)))))))))))), ((cell_far (p := ⟨gb240, _, none⟩) (by first | (rw [add_block]; exact Kd.own_blk (Kd.R_ne HO225.out BK240.out (by decide))) | (dsimp only; exact Kd.own_blk (Kd.R_ne HO225.out BK240.out (by decide))) | exact Kd.own_blk (Kd.R_ne HO225.out BK240.out (by decide))) _).trans (((cell_far (p := ⟨gb240, _, none⟩) (by first | (rw [add_block]; exact Kd.own_blk (Kd.R_ne HO225.out BK240.out (by decide))) | (dsimp only; exact Kd.own_blk (Kd.R_ne HO225.out BK240.out (by decide))) | exact Kd.own_blk (Kd.R_ne HO225.out BK240.out (by decide))) _).trans (((cell_far (p := ⟨gb240, _, none⟩) (by first | (rw [add_block]; exact Kd.own_blk (Kd.R_ne HO225.out BK240.out (by decide))) | (dsimp only; exact Kd.own_blk (Kd.R_ne HO225.out BK240.out (by decide))) | exact Kd.own_blk (Kd.R_ne HO225.out BK240.out (by decide))) _).trans (((cell_far (p := ⟨gb240, _, none⟩) (by first | (rw [add_block]; exact Kd.own_blk (Kd.R_ne HO225.out BK240.out (by decide))) | (dsimp only; exact Kd.own_blk (Kd.R_ne HO225.out BK240.out (by decide))) | exact Kd.own_blk (Kd.R_ne HO225.out BK240.out (by decide))) _).trans (((cell_far (p := ⟨gb240, _, none⟩) (by first | (rw [add_block]; exact Kd.own_blk (Kd.R_ne HO225.out BK240.out (by decide))) | (dsimp only; exact Kd.own_blk (Kd.R_ne HO225.out BK240.out (by decide))) | exact Kd.own_blk (Kd.R_ne HO225.out BK240.out (by decide))) _).trans (((cell_far (p := ⟨gb240, _, none⟩) (by first | (rw [add_block]; exact Kd.own_blk (Kd.R_ne HO225.out BK240.out (by decide))) | (dsimp only; exact Kd.own_blk (Kd.R_ne HO225.out BK240.out (by decide))) | exact Kd.own_blk (Kd.R_ne HO225.out BK240.out (by decide))) _).trans (hHeld.2.2.1)))))))))))), ((cell_far (p := ⟨gb240, _, none⟩) (by first | (rw [add_block]; exact Kd.own_blk (Kd.R_ne HO225.out BK240.out (by decide))) | (dsimp only; exact Kd.own_blk (Kd.R_ne HO225.out BK240.out (by decide))) | exact Kd.own_blk (Kd.R_ne HO225.out BK240.out (by decide))) _).trans (((cell_far (p := ⟨gb240, _, none⟩) (by first | (rw [add_block]; exact Kd.own_blk (Kd.R_ne HO225.out BK240.out (by decide))) | (dsimp only; exact Kd.own_blk (Kd.R_ne HO225.out BK240.out (by decide))) | exact Kd.own_blk (Kd.R_ne HO225.out BK240.out (by decide))) _).trans (((cell_far (p := ⟨gb240, _, none⟩) (by first | (rw [add_block]; exact Kd.own_blk (Kd.R_ne HO225.out BK240.out (by decide))) | (dsimp only; exact Kd.own_blk (Kd.R_ne HO225.out BK240.out (by decide))) | exact Kd.own_blk (Kd.R_ne HO225.out BK240.out (by decide))) _).trans (((cell_far (p := ⟨gb240, _, none⟩) (by first | (rw [add_block]; exact Kd.own_blk (Kd.R_ne HO225.out BK240.out (by decide))) | (dsimp only; exact Kd.own_blk (Kd.R_ne HO225.out BK240.out (by decide))) | exact Kd.own_blk (Kd.R_ne HO225.out BK240.out (by decide))) _).trans (((cell_far (p := ⟨gb240, _, none⟩) (by first | (rw [add_block]; exact Kd.own_blk (Kd.R_ne HO225.out BK240.out (by decide))) | (dsimp only; exact Kd.own_blk (Kd.R_ne HO225.out BK240.out (by decide))) | exact Kd.own_blk (Kd.R_ne HO225.out BK240.out (by decide))) _).trans (((cell_far (p := ⟨gb240, _, none⟩) (by first | (rw [add_block]; exact Kd.own_blk (Kd.R_ne HO225.out BK240.out (by decide))) | (dsimp only; exact Kd.own_blk (Kd.R_ne HO225.out BK240.out (by decide))) | exact Kd.own_blk (Kd.R_ne HO225.out BK240.out (by decide))) _).trans (hHeld.2.2.2.1)))))))))))), ((cell_far (p := ⟨gb240, _, none⟩) (by first | (rw [add_block]; exact Kd.own_blk (Kd.R_ne HO225.out BK240.out (by decide))) | (dsimp only; exact Kd.own_blk (Kd.R_ne HO225.out BK240.out (by decide))) | exact Kd.own_blk (Kd.R_ne HO225.out BK240.out (by decide))) _).trans (((cell_far (p := ⟨gb240, _, none⟩) (by first | (rw [add_block]; exact Kd.own_blk (Kd.R_ne HO225.out BK240.out (by decide))) | (dsimp only; exact Kd.own_blk (Kd.R_ne HO225.out BK240.out (by decide))) | exact Kd.own_blk (Kd.R_ne HO225.out BK240.out (by decide))) _).trans (((cell_far (p := ⟨gb240, _, none⟩) (by first | (rw [add_block]; exact Kd.own_blk (Kd.R_ne HO225.out BK240.out (by decide))) | (dsimp only; exact Kd.own_blk (Kd.R_ne HO225.out BK240.out (by decide))) | exact Kd.own_blk (Kd.R_ne HO225.out BK240.out (by decide))) _).trans (((cell_far (p := ⟨gb240, _, none⟩) (by first | (rw [add_block]; exact Kd.own_blk (Kd.R_ne HO225.out BK240.out (by decide))) | (dsimp only; exact Kd.own_blk (Kd.R_ne HO225.out BK240.out (by decide))) | exact Kd.own_blk (Kd.R_ne HO225.out BK240.out (by decide))) _).trans (((cell_far (p := ⟨gb240, _, none⟩) (by first | (rw [add_block]; exact Kd.own_blk (Kd.R_ne HO225.out BK240.out (by decide))) | (dsimp only; exact Kd.own_blk (Kd.R_ne HO225.out BK240.out (by decide))) | exact Kd.own_blk (Kd.R_ne HO225.out BK240.out (by decide))) _).trans (((cell_far (p := ⟨gb240, _, none⟩) (by first | (rw [add_block]; exact Kd.own_blk (Kd.R_ne HO225.out BK240.out (by decide))) | (dsimp only; exact Kd.own_blk (Kd.R_ne HO225.out BK240.out (by decide))) | exact Kd.own_blk (Kd.R_ne HO225.out BK240.out (by decide))) _).trans (hHeld.2.2.2.2.1)))))))))))), ((cell_far (p := ⟨gb240, _, none⟩) (by first | (rw [add_block]; exact Kd.own_blk (Kd.R_ne HO225.out BK240.out (by decide))) | (dsimp only; exact Kd.own_blk (Kd.R_ne HO225.out BK240.out (by decide))) | exact Kd.own_blk (Kd.R_ne HO225.out BK240.out (by decide))) _).trans (((cell_far (p := ⟨gb240, _, none⟩) (by first | (rw [add_block]; exact Kd.own_blk (Kd.R_ne HO225.out BK240.out (by decide))) | (dsimp only; exact Kd.own_blk (Kd.R_ne HO225.out BK240.out (by decide))) | exact Kd.own_blk (Kd.R_ne HO225.out BK240.out (by decide))) _).trans (((cell_far (p := ⟨gb240, _, none⟩) (by first | (rw [add_block]; exact Kd.own_blk (Kd.R_ne HO225.out BK240.out (by decide))) | (dsimp only; exact Kd.own_blk (Kd.R_ne HO225.out BK240.out (by decide))) | exact Kd.own_blk (Kd.R_ne HO225.out BK240.out (by decide))) _).trans (((cell_far (p := ⟨gb240, _, none⟩) (by first | (rw [add_block]; exact Kd.own_blk (Kd.R_ne HO225.out BK240.out (by decide))) | (dsimp only; exact Kd.own_blk (Kd.R_ne HO225.out BK240.out (by decide))) | exact Kd.own_blk (Kd.R_ne HO225.out BK240.out (by decide))) _).trans (((cell_far (p := ⟨gb240, _, none⟩) (by first | (rw [add_block]; exact Kd.own_blk (Kd.R_ne HO225.out BK240.out (by decide))) | (dsimp only; exact Kd.own_blk (Kd.R_ne HO225.out BK240.out (by decide))) | exact Kd.own_blk (Kd.R_ne HO225.out BK240.out (by decide))) _).trans (((cell_far (p := ⟨gb240, _, none⟩) (by first | (rw [add_block]; exact Kd.own_blk (Kd.R_ne HO225.out BK240.out (by decide))) | (dsimp only; exact Kd.own_blk (Kd.R_ne HO225.out BK240.out (by decide))) | exact Kd.own_blk (Kd.R_ne HO225.out BK240.out (by decide))) _).trans (hHeld.2.2.2.2.2))))))))))))⟩ (fun hHeld => ?_)
      clear hK K
      refine done_ (done_of HT_.out (by kernel_rfl)) ?_
      have hnb32 := NB240_222.out
      have hnc32 := NB222_240.out
      have hcz33_0 : w23.cell? ⟨gb240, 0, none⟩ = some (.int .i64 0) := (blk_cell BK240.out 0).trans rfl
      have hcz33_1 : w23.cell? ⟨gb240, 1, none⟩ = some (.int .i64 0) := (blk_cell BK240.out 1).trans rfl
      have hcz33_2 : w23.cell? ⟨gb240, 2, none⟩ = some (.bool false) := (blk_cell BK240.out 2).trans rfl
      have hcz33_3 : w23.cell? ⟨gb240, 3, none⟩ = some (.slice none 0 0) := (blk_cell BK240.out 3).trans rfl
      have hcz33_4 : w23.cell? ⟨gb240, 4, none⟩ = some (.bool false) := (blk_cell BK240.out 4).trans rfl
      have hcz33_5 : w23.cell? ⟨gb240, 5, none⟩ = some (.slice none 0 0) := (blk_cell BK240.out 5).trans rfl
      have hfz33_0 := blk_frozen BK240.out 0
      have hfz33_1 := blk_frozen BK240.out 1
      have hfz33_2 := blk_frozen BK240.out 2
      have hfz33_3 := blk_frozen BK240.out 3
      have hfz33_4 := blk_frozen BK240.out 4
      have hfz33_5 := blk_frozen BK240.out 5
      by_cases c13 : t241.toList = a0.toList
      ·have H := HH_.out
       clear HH_
       rw [if_pos c13] at H
       have c13b0 : (t241.toList == a0.toList) = true := beq_iff_eq.mpr c13
       have c13b1 : (t241.toList != a0.toList) = false := bne_eq_false_iff_eq.mpr c13
       clear c13
       simp only [Option.some.injEq, Prod.mk.injEq] at H
       obtain ⟨rfl, rfl, rfl, rfl, rfl, rfl, rfl⟩ := H
       try go_wp2_with (first | ((with_reducible refine gate_callee (f := 9) rfl ?_); refine goesL_ (some 38) rfl rfl Tryd.func9 (by kernel_rfl) rfl #[.agg #[.int .i64 t227, .int .i64 t229, .bool ((rdOf ByteArray.empty t223 2).toList != ([45] : List UInt8)), .slice Ao25 t232.length co25, .bool ((rdOf ByteArray.empty t223 3).toList != ([45] : List UInt8)), .slice Ao24 t237.length co24]] rfl (by (try simp only [List.map_toArray, List.map_cons, List.map_nil]); first | done | rfl | (simp only [List.length_drop, List.length_take]; rfl)) ?_; (with_reducible refine (spec_RecordText.calls k t227 t229 ((rdOf ByteArray.empty t223 2).toList != ([45] : List UInt8)) _ _ t232 ((rdOf ByteArray.empty t223 3).toList != ([45] : List UInt8)) _ _ t237 t241 _ ?side1 ?side2 ?side3 ?side4 A12.out).mono ?_); (case side1 => refine (Kd.R_reads' (e := 3) (base := w.heap.size) (ok := fun k_ => some k_ ≠ (.slice Ao24 t237.length co24 : Value).ownBlock) (n := t232.length) (c := co25) ?_).2.2; exact (kf HO234 BK240)); (case side2 => exact (Kd.R_reads' HO234.out).2.1); (case side3 => refine (Kd.R_reads' (e := 3) (base := w.heap.size) (ok := fun k_ => some k_ ≠ (.slice Ao25 t232.length co25 : Value).ownBlock) (n := t237.length) (c := co24) ?_).2.2; exact (kf HO239 BK240)); (case side4 => exact (Kd.R_reads' HO239.out).2.1); rintro e w34 ⟨rfl, hb⟩; refine ⟨_, rfl, ?_⟩; have n0_ := Aside0.mk (Kd.R_below (kf HO225 BK240) hb); have n1_ := Aside0.mk (Kd.R_below (kf HO234 BK240) hb); have n2_ := Aside0.mk (Kd.R_below (kf HO239 BK240) hb); have n3_ := Aside0.mk (blk_below (g := gb222) (o := .cells #[.int .i64 0, .int .i64 0, .bool false, .slice none 0 0, .bool false, .slice none 0 0] 27 (0, 0)) (kbf BK222 NB222_240) hb); have n4_ := Aside0.mk (blk_below (g := gb240) (o := .cells #[.int .i64 t227, .int .i64 t229, .bool ((rdOf ByteArray.empty t223 2).toList != ([45] : List UInt8)), .slice Ao25 t232.length co25, .bool ((rdOf ByteArray.empty t223 3).toList != ([45] : List UInt8)), .slice Ao24 t237.length co24] 27 (0, 0)) (kbp6 BK240) hb); have n5_ := Aside0.mk (below_step (kB2 HB GE222 GE240) hb); clear HO225 HO234; clear HO239 BK222; clear BK240 HB; have HO225 := n0_; have HO234 := n1_; have HO239 := n2_; have BK222 := n3_; have BK240 := n4_; have HB := n5_; clear n0_ n1_ n2_ n3_ n4_ n5_; (try clear hb); (try clear hb2); (try clear hk); (try clear hi); have hcz35_0 : w34.cell? ⟨gb240, 0, none⟩ = some (.int .i64 t227) := (blk_cell BK240.out 0).trans rfl; have hcz35_1 : w34.cell? ⟨gb240, 1, none⟩ = some (.int .i64 t229) := (blk_cell BK240.out 1).trans rfl; have hcz35_2 : w34.cell? ⟨gb240, 2, none⟩ = some (.bool ((rdOf ByteArray.empty t223 2).toList != ([45] : List UInt8))) := (blk_cell BK240.out 2).trans rfl; have hcz35_3 : w34.cell? ⟨gb240, 3, none⟩ = some (.slice Ao25 t232.length co25) := (blk_cell BK240.out 3).trans rfl; have hcz35_4 : w34.cell? ⟨gb240, 4, none⟩ = some (.bool ((rdOf ByteArray.empty t223 3).toList != ([45] : List UInt8))) := (blk_cell BK240.out 4).trans rfl; have hcz35_5 : w34.cell? ⟨gb240, 5, none⟩ = some (.slice Ao24 t237.length co24) := (blk_cell BK240.out 5).trans rfl; have hfz35_0 := blk_frozen BK240.out 0; have hfz35_1 := blk_frozen BK240.out 1; have hfz35_2 := blk_frozen BK240.out 2; have hfz35_3 := blk_frozen BK240.out 3; have hfz35_4 := blk_frozen BK240.out 4; have hfz35_5 := blk_frozen BK240.out 5; have hcz36_0 : w34.cell? ⟨gb222, 0, none⟩ = some (.int .i64 0) := (blk_cell BK222.out 0).trans rfl; have hcz36_1 : w34.cell? ⟨gb222, 1, none⟩ = some (.int .i64 0) := (blk_cell BK222.out 1).trans rfl; have hcz36_2 : w34.cell? ⟨gb222, 2, none⟩ = some (.bool false) := (blk_cell BK222.out 2).trans rfl; have hcz36_3 : w34.cell? ⟨gb222, 3, none⟩ = some (.slice none 0 0) := (blk_cell BK222.out 3).trans rfl; have hcz36_4 : w34.cell? ⟨gb222, 4, none⟩ = some (.bool false) := (blk_cell BK222.out 4).trans rfl; have hcz36_5 : w34.cell? ⟨gb222, 5, none⟩ = some (.slice none 0 0) := (blk_cell BK222.out 5).trans rfl; have hfz36_0 := blk_frozen BK222.out 0; have hfz36_1 := blk_frozen BK222.out 1; have hfz36_2 := blk_frozen BK222.out 2; have hfz36_3 := blk_frozen BK222.out 3; have hfz36_4 := blk_frozen BK222.out 4; have hfz36_5 := blk_frozen BK222.out 5))
       refine bodyPost_ret (results_ct rfl _ _ gb222 27 #[.int .i64 t227, .int .i64 t229, .bool ((rdOf ByteArray.empty t223 2).toList != ([45] : List UInt8)), .slice Ao25 t232.length co25, .bool ((rdOf ByteArray.empty t223 3).toList != ([45] : List UInt8)), .slice Ao24 t237.length co24] (0, 0) _ rfl (kbp6 BK222) Tryd.underlying27 rfl (by kernel_rfl)) rfl ?_
       exact ⟨_, _, by first | rfl | (simp [errW_none, errW_some] <;> rfl) | (simp [*, errW_none, errW_some] <;> rfl), by (with_reducible repeat (first | apply Kd.R_alloc | apply Kd.R_drewN | apply Kd.R_drew)); exact Kd.R_mono (Kd.R_far (p := ⟨gb222, 5, none⟩) (Kd.R_far (p := ⟨gb222, 4, none⟩) (Kd.R_far (p := ⟨gb222, 3, none⟩) (Kd.R_far (p := ⟨gb222, 2, none⟩) (Kd.R_far (p := ⟨gb222, 1, none⟩) (Kd.R_far (p := ⟨gb222, 0, none⟩) (Kd.R_types HO234.out BK222.out (by decide)) (fun _ hk => hk.2) (.int .i64 t227)) (fun _ hk => hk.2) (.int .i64 t229)) (fun _ hk => hk.2) (.bool ((rdOf ByteArray.empty t223 2).toList != ([45] : List UInt8)))) (fun _ hk => hk.2) (.slice Ao25 t232.length co25)) (fun _ hk => hk.2) (.bool ((rdOf ByteArray.empty t223 3).toList != ([45] : List UInt8)))) (fun _ hk => hk.2) (.slice Ao24 t237.length co24)) (fun _ hk => hk.1), by (with_reducible repeat (first | apply Kd.R_alloc | apply Kd.R_drewN | apply Kd.R_drew)); exact Kd.R_mono (Kd.R_far (p := ⟨gb222, 5, none⟩) (Kd.R_far (p := ⟨gb222, 4, none⟩) (Kd.R_far (p := ⟨gb222, 3, none⟩) (Kd.R_far (p := ⟨gb222, 2, none⟩) (Kd.R_far (p := ⟨gb222, 1, none⟩) (Kd.R_far (p := ⟨gb222, 0, none⟩) (Kd.R_types HO239.out BK222.out (by decide)) (fun _ hk => hk.2) (.int .i64 t227)) (fun _ hk => hk.2) (.int .i64 t229)) (fun _ hk => hk.2) (.bool ((rdOf ByteArray.empty t223 2).toList != ([45] : List UInt8)))) (fun _ hk => hk.2) (.slice Ao25 t232.length co25)) (fun _ hk => hk.2) (.bool ((rdOf ByteArray.empty t223 3).toList != ([45] : List UInt8)))) (fun _ hk => hk.2) (.slice Ao24 t237.length co24)) (fun _ hk => hk.1), by repeat (first | (with_reducible first | exact HB.out | apply below_alloc | apply pw_below_drewN | apply below_drew1 | refine below_set ?_ GE222.out | refine below_set ?_ GE240.out) | exact HB.out)⟩
      ·have H := HH_.out
       clear HH_
       rw [if_neg c13] at H
       have c13b0 : (t241.toList == a0.toList) = false := beq_eq_false_iff_ne.mpr c13
       have c13b1 : (t241.toList != a0.toList) = true := bne_iff_ne.mpr c13
       simp only [Option.some.injEq, Prod.mk.injEq] at H
       obtain ⟨rfl, rfl, rfl, rfl, rfl, rfl, rfl⟩ := H
       try go_wp2_with (first | ((with_reducible refine gate_callee (f := 9) rfl ?_); refine goesL_ (some 38) rfl rfl Tryd.func9 (by kernel_rfl) rfl #[.agg #[.int .i64 t227, .int .i64 t229, .bool ((rdOf ByteArray.empty t223 2).toList != ([45] : List UInt8)), .slice Ao25 t232.length co25, .bool ((rdOf ByteArray.empty t223 3).toList != ([45] : List UInt8)), .slice Ao24 t237.length co24]] rfl (by (try simp only [List.map_toArray, List.map_cons, List.map_nil]); first | done | rfl | (simp only [List.length_drop, List.length_take]; rfl)) ?_; (with_reducible refine (spec_RecordText.calls k t227 t229 ((rdOf ByteArray.empty t223 2).toList != ([45] : List UInt8)) _ _ t232 ((rdOf ByteArray.empty t223 3).toList != ([45] : List UInt8)) _ _ t237 t241 _ ?side1 ?side2 ?side3 ?side4 A12.out).mono ?_); (case side1 => refine (Kd.R_reads' (e := 3) (base := w.heap.size) (ok := fun k_ => some k_ ≠ (.slice Ao24 t237.length co24 : Value).ownBlock) (n := t232.length) (c := co25) ?_).2.2; exact (kf HO234 BK240)); (case side2 => exact (Kd.R_reads' HO234.out).2.1); (case side3 => refine (Kd.R_reads' (e := 3) (base := w.heap.size) (ok := fun k_ => some k_ ≠ (.slice Ao25 t232.length co25 : Value).ownBlock) (n := t237.length) (c := co24) ?_).2.2; exact (kf HO239 BK240)); (case side4 => exact (Kd.R_reads' HO239.out).2.1); rintro e w57 ⟨rfl, hb⟩; refine ⟨_, rfl, ?_⟩; have n0_ := Aside0.mk (Kd.R_below (kf HO225 BK240) hb); have n1_ := Aside0.mk (Kd.R_below (kf HO234 BK240) hb); have n2_ := Aside0.mk (Kd.R_below (kf HO239 BK240) hb); have n3_ := Aside0.mk (blk_below (g := gb222) (o := .cells #[.int .i64 0, .int .i64 0, .bool false, .slice none 0 0, .bool false, .slice none 0 0] 27 (0, 0)) (kbf BK222 NB222_240) hb); have n4_ := Aside0.mk (blk_below (g := gb240) (o := .cells #[.int .i64 t227, .int .i64 t229, .bool ((rdOf ByteArray.empty t223 2).toList != ([45] : List UInt8)), .slice Ao25 t232.length co25, .bool ((rdOf ByteArray.empty t223 3).toList != ([45] : List UInt8)), .slice Ao24 t237.length co24] 27 (0, 0)) (kbp6 BK240) hb); have n5_ := Aside0.mk (below_step (kB2 HB GE222 GE240) hb); clear HO225 HO234; clear HO239 BK222; clear BK240 HB; have HO225 := n0_; have HO234 := n1_; have HO239 := n2_; have BK222 := n3_; have BK240 := n4_; have HB := n5_; clear n0_ n1_ n2_ n3_ n4_ n5_; (try clear hb); (try clear hb2); (try clear hk); (try clear hi); have hcz58_0 : w57.cell? ⟨gb222, 0, none⟩ = some (.int .i64 0) := (blk_cell BK222.out 0).trans rfl; have hcz58_1 : w57.cell? ⟨gb222, 1, none⟩ = some (.int .i64 0) := (blk_cell BK222.out 1).trans rfl; have hcz58_2 : w57.cell? ⟨gb222, 2, none⟩ = some (.bool false) := (blk_cell BK222.out 2).trans rfl; have hcz58_3 : w57.cell? ⟨gb222, 3, none⟩ = some (.slice none 0 0) := (blk_cell BK222.out 3).trans rfl; have hcz58_4 : w57.cell? ⟨gb222, 4, none⟩ = some (.bool false) := (blk_cell BK222.out 4).trans rfl; have hcz58_5 : w57.cell? ⟨gb222, 5, none⟩ = some (.slice none 0 0) := (blk_cell BK222.out 5).trans rfl; have hfz58_0 := blk_frozen BK222.out 0; have hfz58_1 := blk_frozen BK222.out 1; have hfz58_2 := blk_frozen BK222.out 2; have hfz58_3 := blk_frozen BK222.out 3; have hfz58_4 := blk_frozen BK222.out 4; have hfz58_5 := blk_frozen BK222.out 5))
       refine bodyPost_ret (results_ct rfl _ _ gb222 27 #[.int .i64 0, .int .i64 0, .bool false, .slice none 0 0, .bool false, .slice none 0 0] (0, 0) _ rfl (kbp6 BK222) Tryd.underlying27 rfl (by kernel_rfl)) rfl ?_
       exact ⟨_, _, by first | rfl | (simp [errW_none, errW_some] <;> rfl) | (simp [*, errW_none, errW_some] <;> rfl), by first | exact Kd.R_nil _ _ _ _ _ | exact Kd.N_nil _ _ _ _ _ | exact Kd.V_nil _ _ _ _ _ | exact Kd.Q_nil _ _ _ _ _ | exact Kd.S_nil _ _ _ _ _, by first | exact Kd.R_nil _ _ _ _ _ | exact Kd.N_nil _ _ _ _ _ | exact Kd.V_nil _ _ _ _ _ | exact Kd.Q_nil _ _ _ _ _ | exact Kd.S_nil _ _ _ _ _, by repeat (first | (with_reducible first | exact HB.out | apply below_alloc | apply pw_below_drewN | apply below_drew1 | refine below_set ?_ GE222.out | refine below_set ?_ GE240.out) | exact HB.out)⟩
     ·rw [if_neg c10] at H
      exact absurd H (by simp)
    ·rw [if_neg c8] at H
     exact absurd H (by simp)
   ·rw [if_neg c6] at H
    exact absurd H (by simp)
  ·rw [if_neg c4] at H
   exact absurd H (by simp)
 ·rw [if_neg c3] at H
  have c3b0 : ((t223.length : Int) == 4) = false := beq_eq_false_iff_ne.mpr c3
  have c3b1 : ((t223.length : Int) != 4) = true := bne_iff_ne.mpr c3
  simp only [Option.some.injEq, Prod.mk.injEq] at H
  obtain ⟨rfl, rfl, rfl, rfl, rfl, rfl, rfl⟩ := H
  go_enter Tryd.func13, Tryd.ntmps13
  go_wp2_with (first | ((with_reducible refine gate_dst (N := 2) rfl ?_); refine box_event ?hg (N := 2) ?hd (cs := #[.int .i64 0, .int .i64 0, .bool false, .slice none 0 0, .bool false, .slice none 0 0]) (t := 27) ?hr ?_; (case hd => rfl); (case hg => rfl); (case hr => first | (go_simp; done) | (go_simp; rfl)); intro gb222 hg w59 hbox hb; have n0_ := Aside0.mk (below_step (kB0 HB) hb); have n1_ := Aside0.mk (hbox); have n2_ := Aside0.mk ((by rw [hg]; exact (below_size (kB0 HB)) : w.heap.size ≤ gb222)); have n3_ := Aside0.mk ((by rw [hg]; exact (below_size (kB0 HB)) : w.heap.size ≤ gb222)); clear HB; have HB := n0_; have BK222 := n1_; have GW222 := n2_; have GE222 := n3_; clear n0_ n1_ n2_ n3_; clear hb hbox hg) | ((with_reducible refine gate_callee (f := 28) rfl ?_); refine goesL_ (some 7) rfl rfl Tryd.func28 (by kernel_rfl) rfl #[.string a0] rfl (by (try simp only [List.map_toArray, List.map_cons, List.map_nil]); first | done | rfl | (simp only [List.length_drop, List.length_take]; rfl)) ?_; (with_reducible refine (spec_l41Cut.calls k a0 t223 _ A2.out).mono ?_); rintro e w60 ⟨v224, rfl, ho0, hb⟩; refine ⟨_, rfl, ?_⟩; have n0_ := Aside0.mk (Kd.R_lower ho0 (below_size (kB1 HB GE222))); have n1_ := Aside0.mk (blk_below (g := gb222) (o := .cells #[.int .i64 0, .int .i64 0, .bool false, .slice none 0 0, .bool false, .slice none 0 0] 27 (0, 0)) (kb BK222) hb); have n2_ := Aside0.mk (below_step (kB1 HB GE222) hb); clear BK222 HB; have HO225 := n0_; have BK222 := n1_; have HB := n2_; clear n0_ n1_ n2_; (try clear hb); (try clear hb2); (try clear hk); (try clear hi); (try clear ho0); obtain ⟨Ao61, co61, eo61⟩ := Kd.R_slice HO225.out; subst eo61; have hcz62_0 : w60.cell? ⟨gb222, 0, none⟩ = some (.int .i64 0) := (blk_cell BK222.out 0).trans rfl; have hcz62_1 : w60.cell? ⟨gb222, 1, none⟩ = some (.int .i64 0) := (blk_cell BK222.out 1).trans rfl; have hcz62_2 : w60.cell? ⟨gb222, 2, none⟩ = some (.bool false) := (blk_cell BK222.out 2).trans rfl; have hcz62_3 : w60.cell? ⟨gb222, 3, none⟩ = some (.slice none 0 0) := (blk_cell BK222.out 3).trans rfl; have hcz62_4 : w60.cell? ⟨gb222, 4, none⟩ = some (.bool false) := (blk_cell BK222.out 4).trans rfl; have hcz62_5 : w60.cell? ⟨gb222, 5, none⟩ = some (.slice none 0 0) := (blk_cell BK222.out 5).trans rfl; have hfz62_0 := blk_frozen BK222.out 0; have hfz62_1 := blk_frozen BK222.out 1; have hfz62_2 := blk_frozen BK222.out 2; have hfz62_3 := blk_frozen BK222.out 3; have hfz62_4 := blk_frozen BK222.out 4; have hfz62_5 := blk_frozen BK222.out 5))
  refine bodyPost_ret (results_ct rfl _ _ gb222 27 #[.int .i64 0, .int .i64 0, .bool false, .slice none 0 0, .bool false, .slice none 0 0] (0, 0) _ rfl (kbp6 BK222) Tryd.underlying27 rfl (by kernel_rfl)) rfl ?_
  exact ⟨_, _, by first | rfl | (simp [errW_none, errW_some] <;> rfl) | (simp [*, errW_none, errW_some] <;> rfl), by first | exact Kd.R_nil _ _ _ _ _ | exact Kd.N_nil _ _ _ _ _ | exact Kd.V_nil _ _ _ _ _ | exact Kd.Q_nil _ _ _ _ _ | exact Kd.S_nil _ _ _ _ _, by first | exact Kd.R_nil _ _ _ _ _ | exact Kd.N_nil _ _ _ _ _ | exact Kd.V_nil _ _ _ _ _ | exact Kd.Q_nil _ _ _ _ _ | exact Kd.S_nil _ _ _ _ _, by repeat (first | (with_reducible first | exact HB.out | apply below_alloc | apply pw_below_drewN | apply below_drew1 | refine below_set ?_ GE222.out) | exact HB.out)⟩

end Go.Proofs.YtlijpnglocgldaaDoor.P
