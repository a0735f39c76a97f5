/- The law FnRecordText over lists: with enough rounds it answers true. -/
import Derived.Test.YtlijpnglocgldaaDoorLine
import Derived.Test.YtlijpnglocgldaaDoorERtext
import Derived.Test.YtlijpnglocgldaaDoorPick
import Derived.Test.YtlijpnglocgldaaDoorSame
import Derived.Test.YtlijpnglocgldaaDoorQ11
set_option linter.unusedVariables false
set_option linter.unusedSimpArgs false
namespace Go.Proofs.YtlijpnglocgldaaDoor
open Go.RowKit Go.Proofs.YtlijpnglocgldaaDoorW.PrintWords Go.Proofs.YtlijpnglocgldaaDoorW.PrintLast Go.Proofs.YtlijpnglocgldaaDoor.P

theorem rtJ0_eq (k : Nat) (x4 x5 : ByteArray) (b : Bool) (o t : Int) (hk : Bool) (kk : List Int) (hv : Bool) (v : List Int) : laws_FnRecordText.j0 (k + 1) x4 x5 b o t hk kk hv v = if b = true then (some (x4.toList == x5.toList)) else ((impl_RecordOf.f k x4).bind fun bt494 => (if bt494.2.2.2.2.2.2 = true then ((laws_sameRecord.f k bt494.1 bt494.2.1 bt494.2.2.1 bt494.2.2.2.1 bt494.2.2.2.2.1 bt494.2.2.2.2.2.1 o t hk kk hv v).bind fun t506 => (some t506)) else (some false))) := by
  simp only [laws_FnRecordText.j0]
theorem pureRecordText : laws_FnRecordText.Pure := by
  intro l0 _ _ hw
  refine ⟨2000000, ?_⟩
  unfold laws_FnRecordText.f
  by_cases h : (l0.length : Int) > 1048576
  · rw [if_pos h]
  · rw [if_neg h]
    obtain ⟨hb, hl⟩ := bytes_take hw
    obtain ⟨o, t, hk, kk, hv, v, p', e, l1, l2, _, _⟩ := record_ok (l0.take 2000) hb hl 2000000 (by omega)
    have ed : spec_DrawRecordText.f 2000000 l0 = some (o, t, hk, kk, hv, v) := by
      unfold spec_DrawRecordText.f
      rw [open_ok, Option.bind_some, e, Option.bind_some]
    have ei : impl_RecordText.f o t hk kk hv v = some (if recOk o t hk kk hv v = true then ⟨(recText o t hk kk hv v).toArray⟩ else ⟨#[]⟩) := by
      unfold impl_RecordText.f
      rw [if_pos ⟨by omega, by omega⟩]
    have hj := rtJ0_eq 1999999
    rw [ed]
    simp only [Option.bind_some]
    rw [ei, spec_RecordText_eq o t hk kk hv v (by omega) (by omega) 2000000 (by omega) (by omega) (by omega)]
    simp only [Option.bind_some]
    rw [if_pos trivial, hj]
    cases hok : recOk o t hk kk hv v with
    | false =>
      simp only [Bool.false_eq_true, if_false]
      rw [if_pos (by rw [ByteArray.toList_eq]; rfl)]
      simp
    | true =>
      simp only [if_true]
      have hsz := recText_len o t hk kk hv v hok
      have hne : ((⟨(recText o t hk kk hv v).toArray⟩ : ByteArray).toList == ([] : List UInt8)) = false := by
        rw [ByteArray.toList_eq, beq_eq_false_iff_ne]
        intro e
        have e2 : recText o t hk kk hv v = [] := e
        rw [recText_form] at e2
        simp at e2
      rw [hne, if_neg (by decide), impl_RecordOf_eq _ (by rw [ba_size]; omega) _ (by omega), lineRes_text hok]
      simp only [Option.bind_some, if_true]
      rw [sameRecord_refl _ _ _ _ _ _ (by omega) (by omega) _ (by omega) (by omega)]
      rfl
end Go.Proofs.YtlijpnglocgldaaDoor
