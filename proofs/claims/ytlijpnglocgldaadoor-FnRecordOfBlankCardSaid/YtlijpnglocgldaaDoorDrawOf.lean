/- The drawn line: every draw gives one, and it is short. -/
import Derived.Test.YtlijpnglocgldaaDoorPick
import Derived.Test.YtlijpnglocgldaaDoorRecS
import Derived.Test.YtlijpnglocgldaaDoorLine
import Derived.Test.YtlijpnglocgldaaDoorQ6
set_option linter.unusedVariables false
set_option linter.unusedSimpArgs false
namespace Go.Proofs.YtlijpnglocgldaaDoor
open Go.RowKit Go.Proofs.YtlijpnglocgldaaDoorW.PrintWords Go.Proofs.YtlijpnglocgldaaDoorW.PrintLast Go.Proofs.YtlijpnglocgldaaDoor.P

theorem of_ok (l : List Int) (hb : ∀ x ∈ l, 0 ≤ x ∧ x ≤ 255) (hl : l.length ≤ 2000) (p : Int) (hp : 0 ≤ p) (hp' : p ≤ 1000) (xs : List ByteArray) (h1 : 1 ≤ xs.length) (h2 : xs.length ≤ 1000) (hs : ∀ x ∈ xs, x.size ≤ 9) (k : Nat) (hk : 1 ≤ k) :
    ∃ s, spec_l6Rd_of.f k l p xs = some (s, p + 1) ∧ s.size ≤ 9 := by
  obtain ⟨v, e, v0, v1⟩ := pick_ok l hb hl p (xs.length : Int) hp (by omega) (by omega) (by omega) k hk
  unfold spec_l6Rd_of.f
  rw [e]
  simp only [Option.bind_some]
  rw [if_pos v0, if_pos v1]
  refine ⟨_, rfl, ?_⟩
  unfold rdOf
  have hv : v.toNat < xs.length := by omega
  rw [List.getD_eq_getElem?_getD, List.getElem?_eq_getElem hv]
  exact hs _ (List.getElem_mem hv)
theorem recS_len (o t : Int) (hk : Bool) (k : List Int) (hv : Bool) (v : List Int) (h : recOk o t hk k hv v = true) : (recText o t hk k hv v).length ≤ 63 := by
  obtain ⟨⟨h1, h2⟩, ⟨h3, h4⟩, h5, h6⟩ := recOk_parts h
  have a := decDigits_len o.toNat 5 (by omega) (by omega)
  have b := decDigits_len t.toNat 5 (by omega) (by omega)
  have c := partS_len hk k (partOk_len h5)
  have d := partS_len hv v (partOk_len h6)
  simp only [recText, List.length_append, List.length_singleton]
  omega
theorem size_app (a b : ByteArray) : (a ++ b).size = a.size + b.size := by simp
theorem size_ext (a : ByteArray) (i j : Nat) : (a.extract i j).size ≤ a.size := by simp; omega
theorem drawOf_ok (l0 : List Int) (hw : ∀ x ∈ l0, (Lit.int .u8 x).wf = true) : ∃ s, spec_DrawRecordOf.f 2000000 l0 = some s ∧ s.size ≤ 1000 := by
  obtain ⟨hb, hl⟩ := bytes_take hw
  obtain ⟨o, t, hk, kk, hv, v, p', e, l1, l2, p0, p1⟩ := record_ok (l0.take 2000) hb hl 2000000 (by omega)
  unfold spec_DrawRecordOf.f
  rw [open_ok, Option.bind_some, e, Option.bind_some]
  simp only
  rw [spec_RecordText_eq o t hk kk hv v (by omega) (by omega) 2000000 (by omega) (by omega) (by omega), Option.bind_some]
  cases hok : recOk o t hk kk hv v with
  | false =>
    simp only [Bool.false_eq_true, if_false]
    rw [if_pos (by rw [ByteArray.toList_eq])]
    obtain ⟨s, es, hs⟩ := of_ok (l0.take 2000) hb hl p' p0 (by omega) [(⟨#[]⟩ : ByteArray), (⟨#[49, 32, 50, 32, 45, 32, 45]⟩ : ByteArray), (⟨#[48, 49, 32, 50, 32, 45, 32, 45]⟩ : ByteArray), (⟨#[49, 32, 50, 32, 120, 48, 32, 45]⟩ : ByteArray), (⟨#[49, 32, 50, 32, 120, 65, 65, 32, 45]⟩ : ByteArray), (⟨#[49, 32, 50, 32, 121, 32, 45]⟩ : ByteArray), (⟨#[49, 32, 50, 32, 45]⟩ : ByteArray)] (by decide) (by decide) (by decide) 2000000 (by omega)
    rw [es]
    exact ⟨s, rfl, by omega⟩
  | true =>
    simp only [if_true]
    have hsz : (⟨(recText o t hk kk hv v).toArray⟩ : ByteArray).size ≤ 63 := by rw [ba_size]; exact recS_len o t hk kk hv v hok
    have hne : ¬ (⟨(recText o t hk kk hv v).toArray⟩ : ByteArray).toList = ([] : List UInt8) := by
      rw [ByteArray.toList_eq]
      intro e
      have e2 : recText o t hk kk hv v = [] := e
      rw [recText_form] at e2
      simp at e2
    rw [if_neg hne]
    have hpos : 1 ≤ (⟨(recText o t hk kk hv v).toArray⟩ : ByteArray).size := by
      rw [ba_size, recText_form]
      simp
      omega
    generalize (⟨(recText o t hk kk hv v).toArray⟩ : ByteArray) = s at hsz hne hpos
    obtain ⟨x, ex, x0, x1⟩ := pick_ok (l0.take 2000) hb hl p' (s.size : Int) p0 (by omega) (by omega) (by omega) 2000000 (by omega)
    obtain ⟨z, ez, z0, z1⟩ := pick_ok (l0.take 2000) hb hl (p' + 1) 6 (by omega) (by omega) (by omega) (by omega) 2000000 (by omega)
    obtain ⟨c, ec, hc⟩ := of_ok (l0.take 2000) hb hl (p' + 1 + 1) (by omega) (by omega) [(⟨#[48]⟩ : ByteArray), (⟨#[120]⟩ : ByteArray), (⟨#[32]⟩ : ByteArray), (⟨#[102]⟩ : ByteArray), (⟨#[45]⟩ : ByteArray)] (by decide) (by decide) (by decide) 2000000 (by omega)
    rw [ex]
    simp only [Option.bind_some]
    rw [ez]
    simp only [Option.bind_some]
    by_cases hz : z = 0
    · have ew : wrap64 (x + 1) = x + 1 := by unfold wrap64; omega
      have h1 := size_ext s 0 x.toNat
      have h2 := size_ext s (x + 1).toNat s.size
      rw [if_pos hz, if_pos x0, if_pos (by omega), ec]
      simp only [Option.bind_some]
      rw [if_pos (by omega), ew, if_pos (by omega), if_pos (by omega), if_pos (by rw [size_app]; omega)]
      exact ⟨_, rfl, by rw [size_app, size_app]; omega⟩
    · rw [if_neg hz]
      exact ⟨s, rfl, by omega⟩
/-- A line that has a record is its line. -/
theorem lineRes_some {s : ByteArray} {o t : Int} {hk : Bool} {kk : List Int} {hv : Bool} {v : List Int} (h : lineRes s = (o, t, hk, kk, hv, v, true)) : recOk o t hk kk hv v = true ∧ recText o t hk kk hv v = s.data.toList := by
  unfold lineRes at h
  generalize hw : splitL 32 s.data.toList = w at h
  by_cases h4 : w.length = 4
  · match w, h4, hw with
    | [a, b, c, d], _, hw =>
      obtain ⟨x1, _, _, _, _, x6⟩ := wordsRes_some h
      exact ⟨x1, by rw [x6, split_len hw]⟩
  · rw [wordsRes_len h4] at h
    exact absurd (congrArg (fun x : Rec7 => x.2.2.2.2.2.2) h) (by simp [zero7])
end Go.Proofs.YtlijpnglocgldaaDoor
