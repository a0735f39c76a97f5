/- The reference's reader of a line comes to the same record. -/
import Derived.Test.YtlijpnglocgldaaDoorLine
import Derived.Test.YtlijpnglocgldaaDoorQ4
set_option linter.unusedVariables false
set_option linter.unusedSimpArgs false
namespace Go.Proofs.YtlijpnglocgldaaDoor
open Go.RowKit Go.Proofs.YtlijpnglocgldaaDoorW.PrintWords Go.Proofs.YtlijpnglocgldaaDoorW.PrintLast Go.Proofs.YtlijpnglocgldaaDoor.P

theorem rdOf_at (a b c d : ByteArray) : rdOf ByteArray.empty [a, b, c, d] 0 = a ∧ rdOf ByteArray.empty [a, b, c, d] 1 = b ∧ rdOf ByteArray.empty [a, b, c, d] 2 = c ∧ rdOf ByteArray.empty [a, b, c, d] 3 = d := ⟨rfl, rfl, rfl, rfl⟩
theorem ne45 (l : List UInt8) : ((ofL l).toList != ([45] : List UInt8)) = !decide (l = [45]) := by
  rw [ByteArray.toList_eq]
  show (l != [45]) = _
  rw [Bool.eq_iff_iff, bne_iff_ne, Bool.not_eq_true', decide_eq_false_iff_not]
theorem part_flag {l : List UInt8} {h : Bool} {q : List Int} (e : partStr h q = l) : (!decide (l = [45])) = h := by
  have := partStr_hyphen h q
  rw [e] at this
  cases h with
  | false => rw [decide_eq_true (this.2 rfl)]; rfl
  | true => rw [decide_eq_false (fun x => absurd (this.1 x) (by decide))]; rfl
/-- The reference's reader. -/
theorem spec_RecordOf_eq (s : ByteArray) (hs : s.size ≤ 1073741824) (k : Nat) (hk : 100000 + s.size < k) : spec_RecordOf.f k s = some (lineRes s) := by
  unfold spec_RecordOf.f lineRes
  rw [cut_eq s (by omega) k (by omega), Option.bind_some]
  have hsz : s.data.toList.length = s.size := by simp
  generalize hw : splitL 32 s.data.toList = w
  by_cases h4 : w.length = 4
  · match w, h4, hw with
    | [a, b, c, d], _, hw =>
      have hss := split_len hw
      have hl := congrArg List.length hss
      simp only [List.length_append, List.length_cons] at hl
      obtain ⟨n0, e0, f0⟩ := l41Number_eq a k (by omega)
      obtain ⟨n1, e1, f1⟩ := l41Number_eq b k (by omega)
      obtain ⟨q2, e2, g2, f2⟩ := l41Bytes_eq c (by omega) k (by omega)
      obtain ⟨q3, e3, g3, f3⟩ := l41Bytes_eq d (by omega) k (by omega)
      obtain ⟨r0, r1, r2, r3⟩ := rdOf_at (ofL a) (ofL b) (ofL c) (ofL d)
      have L4 : (([ofL a, ofL b, ofL c, ofL d].length : Nat) : Int) = 4 := by simp
      simp only [List.map_cons, List.map_nil]
      rw [L4, if_pos rfl, if_pos (by decide), r0, e0, Option.bind_some, if_pos (by decide), r1, e1, Option.bind_some, if_pos (by decide), r2, e2, Option.bind_some, if_pos (by decide), r3, e3, Option.bind_some, ne45, ne45,
        spec_RecordText_eq _ _ _ _ _ _ (by omega) (by omega) k (by omega) (by omega) (by omega), Option.bind_some]
      have key : (wordsRes [a, b, c, d]).2.2.2.2.2.2 = true → recOk n0 n1 (!decide (c = [45])) q2 (!decide (d = [45])) q3 = true ∧ recText n0 n1 (!decide (c = [45])) q2 (!decide (d = [45])) q3 = s.data.toList := by
        intro hf
        generalize hr : wordsRes [a, b, c, d] = r at hf
        obtain ⟨o, t, hk', kk, hv', v, fl⟩ := r
        simp only at hf
        subst hf
        obtain ⟨x1, x2, x3, x4, x5, x6⟩ := wordsRes_some hr
        obtain ⟨⟨h1, _⟩, ⟨h3, _⟩, _, _⟩ := recOk_parts x1
        have p1 := f0 _ x2
        have p2 := f1 _ x3
        rw [Int.toNat_of_nonneg h1] at p1
        rw [Int.toNat_of_nonneg h3] at p2
        rw [p1, p2, part_flag (partI_some x4).1, part_flag (partI_some x5).1, f2 _ _ x4, f3 _ _ x5]
        exact ⟨x1, by rw [x6, hss]⟩
      cases hok : recOk n0 n1 (!decide (c = [45])) q2 (!decide (d = [45])) q3 with
      | true =>
        rw [if_pos rfl, ByteArray.toList_eq, ByteArray.toList_eq]
        by_cases heq : recText n0 n1 (!decide (c = [45])) q2 (!decide (d = [45])) q3 = s.data.toList
        · rw [if_pos heq]
          have hx := lineRes_text hok
          unfold lineRes at hx
          rw [show (⟨(recText n0 n1 (!decide (c = [45])) q2 (!decide (d = [45])) q3).toArray⟩ : ByteArray).data.toList = s.data.toList from heq, hw] at hx
          rw [hx]
        · rw [if_neg heq]
          rcases wordsRes_flag [a, b, c, d] with hf | hz
          · exact absurd (key hf).2 heq
          · rw [hz]; rfl
      | false =>
        simp only [Bool.false_eq_true, if_false]
        rw [ByteArray.toList_eq, ByteArray.toList_eq, if_neg (by
          intro e
          have := congrArg List.length e
          rw [hsz] at this
          have e0 : (⟨#[]⟩ : ByteArray).data.toList.length = 0 := rfl
          omega)]
        rcases wordsRes_flag [a, b, c, d] with hf | hz
        · have := (key hf).1
          rw [hok] at this
          cases this
        · rw [hz]; rfl
  · rw [if_neg (by rw [List.length_map]; omega), wordsRes_len h4]
    rfl
end Go.Proofs.YtlijpnglocgldaaDoor
