/- The law FnRecordOf over lists: with enough rounds it answers true. -/
import Derived.Test.YtlijpnglocgldaaDoorLineS
import Derived.Test.YtlijpnglocgldaaDoorERtext
import Derived.Test.YtlijpnglocgldaaDoorDrawOf
import Derived.Test.YtlijpnglocgldaaDoorSame
import Derived.Test.YtlijpnglocgldaaDoorQ10
set_option linter.unusedVariables false
set_option linter.unusedSimpArgs false
namespace Go.Proofs.YtlijpnglocgldaaDoor
open Go.RowKit Go.Proofs.YtlijpnglocgldaaDoorW.PrintWords Go.Proofs.YtlijpnglocgldaaDoorW.PrintLast Go.Proofs.YtlijpnglocgldaaDoor.P

theorem roJ0_eq (k : Nat) (x3 : ByteArray) (x5 x7 b : Bool) (o t : Int) (hk : Bool) (kk : List Int) (hv : Bool) (v : List Int) (y0 y1 : Int) (y2 : Bool) (y3 : List Int) (y4 : Bool) (y5 : List Int) : laws_FnRecordOf.j0 (k + 1) x3 x5 x7 b o t hk kk hv v y0 y1 y2 y3 y4 y5 = if b = true then (if (x5 == x7) = true then ((laws_sameRecord.f k o t hk kk hv v y0 y1 y2 y3 y4 y5).bind fun t533 => (some t533)) else (some false)) else ((impl_RecordValid.f k o t hk kk hv v).bind fun t534 => (if t534 = true then ((impl_RecordText.f o t hk kk hv v).bind fun t535 => (some (t535.toList == x3.toList))) else (some false))) := by
  simp only [laws_FnRecordOf.j0]
theorem pureRecordOf : laws_FnRecordOf.Pure := by
  intro l0 _ _ hw
  refine ⟨2000000, ?_⟩
  unfold laws_FnRecordOf.f
  by_cases h : (l0.length : Int) > 1048576
  · rw [if_pos h]
  · rw [if_neg h]
    obtain ⟨s, es, hs⟩ := drawOf_ok l0 hw
    have hlen := lineRes_len s
    have hsome := @lineRes_some s
    have hj := roJ0_eq 1999999
    rw [es, Option.bind_some, impl_RecordOf_eq s (by omega) _ (by omega), Option.bind_some, spec_RecordOf_eq s (by omega) _ (by omega), Option.bind_some]
    revert hlen hsome
    generalize lineRes s = r
    obtain ⟨o, t, hk, kk, hv, v, fl⟩ := r
    rintro ⟨l1, l2⟩ hsome
    simp only at l1 l2 ⊢
    rw [bne_self_eq_false, if_neg (by decide), sameRecord_refl _ _ _ _ _ _ (by omega) (by omega) _ (by omega) (by omega), Option.bind_some, if_pos rfl, hj]
    cases fl with
    | false =>
      rw [if_pos (by rfl : (!false) = true), if_pos (by rfl : (false == false) = true), sameRecord_refl _ _ _ _ _ _ (by omega) (by omega) _ (by omega) (by omega)]
      rfl
    | true =>
      obtain ⟨hok, ht⟩ := hsome rfl
      rw [if_neg (by decide), impl_RecordValid_eq _ _ _ _ _ _ (by omega) (by omega) _ (by omega) (by omega), Option.bind_some, if_pos hok]
      unfold impl_RecordText.f
      rw [if_pos ⟨by omega, by omega⟩, if_pos hok, Option.bind_some, ByteArray.toList_eq, ByteArray.toList_eq]
      show some (recText o t hk kk hv v == s.data.toList) = some true
      rw [ht, beq_self_eq_true]
end Go.Proofs.YtlijpnglocgldaaDoor
