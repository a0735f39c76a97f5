/- The reference's line of a record, and its check of a record, as plain Lean. -/
import Derived.Test.YtlijpnglocgldaaDoorRec
import Derived.Test.YtlijpnglocgldaaDoorQ3
set_option linter.unusedVariables false
set_option linter.unusedSimpArgs false
namespace Go.Proofs.YtlijpnglocgldaaDoor
open Go.RowKit Go.Proofs.YtlijpnglocgldaaDoorW.PrintWords Go.Proofs.YtlijpnglocgldaaDoorW.PrintLast Go.Proofs.YtlijpnglocgldaaDoor.P

theorem spec_l41Part_eq (has : Bool) (l : List Int) (h : partOk has l = true) : spec_l41Part.f has l = some ⟨(partStr has l).toArray⟩ := by
  have hl := partOk_len h
  unfold spec_l41Part.f spec_BytesText.f partStr
  cases has with
  | true =>
    have hb : l.all isB = true := by
      simp only [partOk, if_true, Bool.and_eq_true] at h
      exact h.2
    rw [if_pos rfl, if_pos (by omega), if_pos hb, if_pos rfl]
    simp only [Option.bind_some]
    have hs : (⟨(hexText l).toArray⟩ : ByteArray).size = 2 * l.length := by show (hexText l).toArray.size = _; rw [List.size_toArray, hexText_length]
    rw [if_pos (by rw [hs]; omega)]
    congr 2
  | false => rfl
theorem ba_append (a b : List UInt8) : (⟨a.toArray⟩ : ByteArray) ++ ⟨b.toArray⟩ = ⟨(a ++ b).toArray⟩ := by
  apply ByteArray.ext
  simp
theorem ba_size (a : List UInt8) : (⟨a.toArray⟩ : ByteArray).size = a.length := by show a.toArray.size = _; simp
theorem partS_len (has : Bool) (l : List Int) (h : l.length ≤ 12) : (partStr has l).length ≤ 25 := by
  unfold partStr
  cases has with
  | true => rw [if_pos rfl]; simp [hexText_length]; omega
  | false => simp
theorem spec_l41Text_eq (o t : Int) (hk : Bool) (kk : List Int) (hv : Bool) (v : List Int) (h : recOk o t hk kk hv v = true) (k : Nat) (hk' : 100000 ≤ k) :
    spec_l41Text.f k o t hk kk hv v = some ⟨(recText o t hk kk hv v).toArray⟩ := by
  obtain ⟨⟨h1, h2⟩, ⟨h3, h4⟩, h5, h6⟩ := recOk_parts h
  have eo : spec_l6Dec.f k o = some ⟨(Lib.decDigits o.toNat).toArray⟩ := by
    have := l6Dec_eq o.toNat k (by omega) (by omega)
    rwa [Int.toNat_of_nonneg h1] at this
  have et : spec_l6Dec.f k t = some ⟨(Lib.decDigits t.toNat).toArray⟩ := by
    have := l6Dec_eq t.toNat k (by omega) (by omega)
    rwa [Int.toNat_of_nonneg h3] at this
  have a := decDigits_len o.toNat 5 (by omega) (by omega)
  have b := decDigits_len t.toNat 5 (by omega) (by omega)
  have c := partS_len hk kk (partOk_len h5)
  have d := partS_len hv v (partOk_len h6)
  unfold spec_l41Text.f
  rw [eo, et, spec_l41Part_eq hk kk h5, spec_l41Part_eq hv v h6]
  simp only [Option.bind_some, show (⟨#[32]⟩ : ByteArray) = ⟨([32] : List UInt8).toArray⟩ from rfl, ba_append, ba_size, List.length_append, List.length_singleton]
  rw [if_pos (by omega), if_pos (by omega), if_pos (by omega), if_pos (by omega), if_pos (by omega), if_pos (by omega)]
  rfl
theorem spec_RecordText_eq (o t : Int) (hk : Bool) (kk : List Int) (hv : Bool) (v : List Int) (h1 : kk.length ≤ 9223372036854775806) (h2 : v.length ≤ 9223372036854775806) (k : Nat) (hk1 : kk.length < k) (hk2 : v.length < k) (hk' : 100000 ≤ k) :
    spec_RecordText.f k o t hk kk hv v = some (if recOk o t hk kk hv v = true then ⟨(recText o t hk kk hv v).toArray⟩ else ⟨#[]⟩) := by
  unfold spec_RecordText.f
  rw [spec_RecordValid_eq o t hk kk hv v h1 h2 k hk1 hk2]
  simp only [Option.bind_some]
  cases hok : recOk o t hk kk hv v with
  | true => rw [if_pos rfl, if_pos rfl, spec_l41Text_eq o t hk kk hv v hok k hk']; rfl
  | false => rw [if_neg (by decide), if_neg (by decide)]
end Go.Proofs.YtlijpnglocgldaaDoor
