/- The law FnRecordOfBlank over lists: with enough rounds it answers true. -/
import Derived.Test.YtlijpnglocgldaaDoorLineS
import Derived.Test.YtlijpnglocgldaaDoorDrawOf
import Derived.Test.YtlijpnglocgldaaDoorSame
import Derived.Test.YtlijpnglocgldaaDoorQ8
set_option linter.unusedVariables false
set_option linter.unusedSimpArgs false
namespace Go.Proofs.YtlijpnglocgldaaDoor
open Go.RowKit Go.Proofs.YtlijpnglocgldaaDoorW.PrintWords Go.Proofs.YtlijpnglocgldaaDoorW.PrintLast Go.Proofs.YtlijpnglocgldaaDoor.P

theorem flag_len {s : ByteArray} (h : (splitL 32 s.data.toList).length ≠ 4) : (lineRes s).2.2.2.2.2.2 = false := by
  unfold lineRes
  rw [wordsRes_len h]
  rfl
theorem numI_lead (l : List UInt8) (h : l ≠ []) : numI (48 :: l) = none := by
  unfold numI
  rw [if_neg]
  intro hc
  simp only [Bool.and_eq_true, decide_eq_true_eq, Bool.not_eq_true', Bool.and_eq_false_imp, beq_eq_false_iff_ne] at hc
  have hl : 1 < (48 :: l).length := by
    rcases l with _ | ⟨b, r⟩
    · exact absurd rfl h
    · simp
  exact hc.1.2 hl rfl
theorem blanks {s : ByteArray} {o t : Int} {hk : Bool} {kk : List Int} {hv : Bool} {v : List Int} (h : lineRes s = (o, t, hk, kk, hv, v, true)) :
    (lineRes (s ++ ⟨#[32]⟩)).2.2.2.2.2.2 = false ∧ (lineRes (⟨#[32]⟩ ++ s)).2.2.2.2.2.2 = false ∧ (lineRes (⟨#[48]⟩ ++ s)).2.2.2.2.2.2 = false := by
  obtain ⟨hok, ht⟩ := lineRes_some h
  obtain ⟨_, _, h5, h6⟩ := recOk_parts hok
  rw [recText_form] at ht
  have n1 := dec_noblank o.toNat
  have n2 := dec_noblank t.toNat
  have n3 := part_noblank _ _ h5
  have n4 := part_noblank _ _ h6
  have hne := (val_dec o.toNat).2.2.1
  generalize Lib.decDigits o.toNat = a at *
  generalize Lib.decDigits t.toNat = b at *
  generalize partStr hk kk = c at *
  generalize partStr hv v = d at *
  have d1 : (s ++ ⟨#[32]⟩ : ByteArray).data.toList = a ++ 32 :: (b ++ 32 :: (c ++ 32 :: (d ++ 32 :: []))) := by
    show (s ++ ⟨#[32]⟩ : ByteArray).data.toList = _
    simp [ByteArray.data_append, ← ht]
  have d2 : (⟨#[32]⟩ ++ s : ByteArray).data.toList = [] ++ 32 :: (a ++ 32 :: (b ++ 32 :: (c ++ 32 :: d))) := by
    simp [ByteArray.data_append, ← ht]
  have d3 : (⟨#[48]⟩ ++ s : ByteArray).data.toList = (48 :: a) ++ 32 :: (b ++ 32 :: (c ++ 32 :: d)) := by
    simp [ByteArray.data_append, ← ht]
  refine ⟨flag_len ?_, flag_len ?_, ?_⟩
  · rw [d1, splitL_app _ _ _ n1, splitL_app _ _ _ n2, splitL_app _ _ _ n3, splitL_app _ _ _ n4]
    simp [splitL]
  · rw [d2, splitL_app _ _ _ (by simp), split_of n1 n2 n3 n4]
    simp
  · unfold lineRes
    have n0 : (32 : UInt8) ∉ 48 :: a := by
      intro hm
      rcases List.mem_cons.1 hm with e | hm
      · exact absurd e (by decide)
      · exact n1 hm
    rw [d3, split_of n0 n2 n3 n4]
    simp only [wordsRes]
    rw [numI_lead a hne]
    rfl
theorem rbJ0_eq (k : Nat) (x3 : ByteArray) (x5 x7 b : Bool) (o t : Int) (hk : Bool) (kk : List Int) (hv : Bool) (v : List Int) (y0 y1 : Int) (y2 : Bool) (y3 : List Int) (y4 : Bool) (y5 : List Int) : laws_FnRecordOfBlank.j0 (k + 1) x3 x5 x7 b o t hk kk hv v y0 y1 y2 y3 y4 y5 = if b = true then (if (x5 == x7) = true then ((laws_sameRecord.f k o t hk kk hv v y0 y1 y2 y3 y4 y5).bind fun t429 => (some t429)) else (some false)) else (if x3.size + 1 ≤ 9223372036854775807 then ((impl_RecordOf.f k (x3 ++ (⟨#[32]⟩ : ByteArray))).bind fun bt430 => (if 1 + x3.size ≤ 9223372036854775807 then ((impl_RecordOf.f k ((⟨#[32]⟩ : ByteArray) ++ x3)).bind fun bt442 => ((impl_RecordOf.f k ((⟨#[48]⟩ : ByteArray) ++ x3)).bind fun bt454 => (if bt430.2.2.2.2.2.2 = true then (some false) else (if bt442.2.2.2.2.2.2 = true then (some false) else (some (!bt454.2.2.2.2.2.2)))))) else (none))) else (none)) := by
  simp only [laws_FnRecordOfBlank.j0]
theorem pureRecordOfBlank : laws_FnRecordOfBlank.Pure := by
  intro l0 _ _ hw
  refine ⟨2000000, ?_⟩
  unfold laws_FnRecordOfBlank.f
  by_cases h : (l0.length : Int) > 1048576
  · rw [if_pos h]
  · rw [if_neg h]
    obtain ⟨s, es, hs⟩ := drawOf_ok l0 hw
    have hlen := lineRes_len s
    have hbl := @blanks s
    have hj := rbJ0_eq 1999999
    rw [es, Option.bind_some, impl_RecordOf_eq s (by omega) _ (by omega), Option.bind_some, spec_RecordOf_eq s (by omega) _ (by omega), Option.bind_some]
    revert hlen hbl
    generalize lineRes s = r
    obtain ⟨o, t, hk, kk, hv, v, fl⟩ := r
    rintro ⟨l1, l2⟩ hbl
    simp only at l1 l2 ⊢
    rw [bne_self_eq_false, if_neg (by decide), sameRecord_refl _ _ _ _ _ _ (by omega) (by omega) _ (by omega) (by omega), Option.bind_some, if_pos rfl, hj]
    cases fl with
    | false =>
      rw [if_pos (by rfl : (!false) = true), if_pos (by rfl : (false == false) = true), sameRecord_refl _ _ _ _ _ _ (by omega) (by omega) _ (by omega) (by omega)]
      rfl
    | true =>
      obtain ⟨b1, b2, b3⟩ := hbl rfl
      have z1 : (⟨#[32]⟩ : ByteArray).size = 1 := rfl
      have z2 : (⟨#[48]⟩ : ByteArray).size = 1 := rfl
      rw [if_neg (by decide), if_pos (by omega), impl_RecordOf_eq _ (by rw [size_app]; omega) _ (by omega), Option.bind_some, if_pos (by omega), impl_RecordOf_eq _ (by rw [size_app]; omega) _ (by omega), Option.bind_some,
        impl_RecordOf_eq _ (by rw [size_app]; omega) _ (by omega), Option.bind_some, b1, b2, b3]
      rfl
end Go.Proofs.YtlijpnglocgldaaDoor
