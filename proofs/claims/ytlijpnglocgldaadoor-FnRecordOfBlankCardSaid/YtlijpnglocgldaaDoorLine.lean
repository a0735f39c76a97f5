/- The record of a line, as plain lists: the program's reader and the reference's come to the same. -/
import Derived.Test.YtlijpnglocgldaaDoorPart
import Derived.Test.YtlijpnglocgldaaDoorRecS
import Derived.Test.YtlijpnglocgldaaDoorERof
set_option linter.unusedVariables false
set_option linter.unusedSimpArgs false
namespace Go.Proofs.YtlijpnglocgldaaDoor
open Go.RowKit Go.Proofs.YtlijpnglocgldaaDoorW.PrintWords Go.Proofs.YtlijpnglocgldaaDoorW.PrintLast Go.Proofs.YtlijpnglocgldaaDoor.P

abbrev Rec7 := Int × Int × Bool × List Int × Bool × List Int × Bool
def zero7 : Rec7 := (0, 0, false, [], false, [], false)
def wordsRes : List (List UInt8) → Rec7
  | [a, b, c, d] => match numI a, numI b, partI c, partI d with
    | some o, some t, some (hk, kk), some (hv, v) => if recOk o t hk kk hv v = true then ((o : Int), (t : Int), hk, kk, hv, v, true) else zero7
    | _, _, _, _ => zero7
  | _ => zero7
def lineRes (s : ByteArray) : Rec7 := wordsRes (splitL 32 s.data.toList)
theorem splitW_eq (s : ByteArray) : splitW s = (splitL 32 s.data.toList).map ofL := splitB_one 32 s
theorem split_len {s : List UInt8} {a b c d : List UInt8} (h : splitL 32 s = [a, b, c, d]) : s = a ++ 32 :: (b ++ 32 :: (c ++ 32 :: d)) := by
  have := joinL_split 32 s
  have e := h
  unfold splitL at e
  rw [List.cons.inj e |>.1, List.cons.inj e |>.2] at this
  exact this.symm
theorem split_of {a b c d : List UInt8} (ha : (32 : UInt8) ∉ a) (hb : (32 : UInt8) ∉ b) (hc : (32 : UInt8) ∉ c) (hd : (32 : UInt8) ∉ d) : splitL 32 (a ++ 32 :: (b ++ 32 :: (c ++ 32 :: d))) = [a, b, c, d] := by
  rw [splitL_app _ _ _ ha, splitL_app _ _ _ hb, splitL_app _ _ _ hc, splitL_none _ _ hd]
/-! no blank in a word of a line -/
theorem dec_noblank (n : Nat) : (32 : UInt8) ∉ Lib.decDigits n := by
  intro h
  have := List.all_eq_true.1 (val_dec n).2.1 _ h
  exact absurd this (by decide)
theorem hexDigit_noblank : ∀ n : Fin 16, hexDigit (n.val : Int) ≠ 32 := by decide +kernel
theorem part_noblank (h : Bool) (q : List Int) (hok : partOk h q = true) : (32 : UInt8) ∉ partStr h q := by
  cases h with
  | false => exact (by decide : (32 : UInt8) ∉ ([45] : List UInt8))
  | true =>
    have hb : q.all isB = true := by
      simp only [partOk, if_true, Bool.and_eq_true] at hok
      exact hok.2
    show (32 : UInt8) ∉ 120 :: hexText q
    intro hm
    rcases List.mem_cons.1 hm with e | hm
    · exact absurd e (by decide)
    · obtain ⟨b, hbq, hm⟩ := List.mem_flatMap.1 hm
      have hbb := List.all_eq_true.1 hb b hbq
      simp only [isB, Bool.and_eq_true, decide_eq_true_eq] at hbb
      have e1 := hexDigit_noblank ⟨(b / 16).toNat, by omega⟩
      have e2 := hexDigit_noblank ⟨(b % 16).toNat, by omega⟩
      simp only [show (((b / 16).toNat : Nat) : Int) = b / 16 from by omega, show (((b % 16).toNat : Nat) : Int) = b % 16 from by omega] at e1 e2
      simp only [hexByte, List.mem_cons, List.not_mem_nil, or_false] at hm
      rcases hm with e | e
      · exact e1 e.symm
      · exact e2 e.symm
theorem recText_form (o t : Int) (hk : Bool) (kk : List Int) (hv : Bool) (v : List Int) : recText o t hk kk hv v = Lib.decDigits o.toNat ++ 32 :: (Lib.decDigits t.toNat ++ 32 :: (partStr hk kk ++ 32 :: partStr hv v)) := by
  simp only [recText, List.append_assoc, List.singleton_append, List.cons_append, List.nil_append]
theorem recText_split {o t : Int} {hk : Bool} {kk : List Int} {hv : Bool} {v : List Int} (h : recOk o t hk kk hv v = true) : splitL 32 (recText o t hk kk hv v) = [Lib.decDigits o.toNat, Lib.decDigits t.toNat, partStr hk kk, partStr hv v] := by
  obtain ⟨_, _, h5, h6⟩ := recOk_parts h
  rw [recText_form, split_of (dec_noblank _) (dec_noblank _) (part_noblank _ _ h5) (part_noblank _ _ h6)]
/-- A valid record's line has it. -/
theorem lineRes_text {o t : Int} {hk : Bool} {kk : List Int} {hv : Bool} {v : List Int} (h : recOk o t hk kk hv v = true) : lineRes ⟨(recText o t hk kk hv v).toArray⟩ = (o, t, hk, kk, hv, v, true) := by
  obtain ⟨⟨h1, h2⟩, ⟨h3, h4⟩, h5, h6⟩ := recOk_parts h
  show wordsRes (splitL 32 (recText o t hk kk hv v)) = _
  rw [recText_split h]
  simp only [wordsRes]
  rw [numI_dec _ (by omega), numI_dec _ (by omega), partI_str _ _ h5, partI_str _ _ h6]
  simp only [Int.toNat_of_nonneg h1, Int.toNat_of_nonneg h3]
  rw [if_pos h]
/-- What is read from four words has their line. -/
theorem wordsRes_some {a b c d : List UInt8} {o t : Int} {hk : Bool} {kk : List Int} {hv : Bool} {v : List Int} (h : wordsRes [a, b, c, d] = (o, t, hk, kk, hv, v, true)) :
    recOk o t hk kk hv v = true ∧ numI a = some o.toNat ∧ numI b = some t.toNat ∧ partI c = some (hk, kk) ∧ partI d = some (hv, v) ∧ recText o t hk kk hv v = a ++ 32 :: (b ++ 32 :: (c ++ 32 :: d)) := by
  simp only [wordsRes] at h
  split at h
  · rename_i o' t' hk' kk' hv' v' na nb pc pd
    split at h
    · rename_i hok
      simp only [Prod.mk.injEq, and_true] at h
      obtain ⟨rfl, rfl, rfl, rfl, rfl, rfl⟩ := h
      refine ⟨hok, by rw [na, Int.toNat_natCast], by rw [nb, Int.toNat_natCast], pc, pd, ?_⟩
      rw [recText_form, Int.toNat_natCast, Int.toNat_natCast, (numI_some na).1, (numI_some nb).1, (partI_some pc).1, (partI_some pd).1]
    · exact absurd (congrArg (fun x : Rec7 => x.2.2.2.2.2.2) h) (by simp [zero7])
  · exact absurd (congrArg (fun x : Rec7 => x.2.2.2.2.2.2) h) (by simp [zero7])
theorem wordsRes_flag (w : List (List UInt8)) : (wordsRes w).2.2.2.2.2.2 = true ∨ wordsRes w = zero7 := by
  unfold wordsRes
  split
  · split
    · split
      · exact Or.inl rfl
      · exact Or.inr rfl
    · exact Or.inr rfl
  · exact Or.inr rfl
theorem wordsRes_len {w : List (List UInt8)} (h : w.length ≠ 4) : wordsRes w = zero7 := by
  match w, h with
  | [], _ => rfl
  | [_], _ => rfl
  | [_, _], _ => rfl
  | [_, _, _], _ => rfl
  | [_, _, _, _], h => exact absurd rfl h
  | _ :: _ :: _ :: _ :: _ :: _, _ => rfl
theorem partI_len {l : List UInt8} {h : Bool} {q : List Int} (e : partI l = some (h, q)) : q.length ≤ 12 := partOk_len (partI_some e).2
theorem lineRes_len (s : ByteArray) : (lineRes s).2.2.2.1.length ≤ 12 ∧ (lineRes s).2.2.2.2.2.1.length ≤ 12 := by
  unfold lineRes
  generalize splitL 32 s.data.toList = w
  rcases wordsRes_flag w with hf | hz
  · by_cases h4 : w.length = 4
    · match w, h4 with
      | [a, b, c, d], _ =>
        generalize hr : wordsRes [a, b, c, d] = r at hf
        obtain ⟨o, t, hk', kk, hv', v, fl⟩ := r
        simp only at hf
        subst hf
        obtain ⟨_, _, _, x4, x5, _⟩ := wordsRes_some hr
        exact ⟨partI_len x4, partI_len x5⟩
    · rw [wordsRes_len h4]; exact ⟨Nat.zero_le _, Nat.zero_le _⟩
  · rw [hz]; exact ⟨Nat.zero_le _, Nat.zero_le _⟩
/-- The program's reader. -/
theorem impl_RecordOf_eq (s : ByteArray) (hs : s.size ≤ 1073741824) (k : Nat) (hk : 1000 ≤ k) : impl_RecordOf.f k s = some (lineRes s) := by
  unfold impl_RecordOf.f lineRes
  rw [if_pos hs, splitW_eq]
  have hsz : s.data.toList.length = s.size := by simp
  generalize hw : splitL 32 s.data.toList = w
  match w, hw with
  | [a, b, c, d], hw =>
    have hl := congrArg List.length (split_len hw)
    simp only [List.length_append, List.length_cons] at hl
    simp only [List.map_cons, List.map_nil, wordsRes]
    rw [numberOf_eq a k (by omega), numberOf_eq b k (by omega), partOf_eq c (by omega) k (by omega), partOf_eq d (by omega) k (by omega)]
    simp only [Option.bind_some]
    cases hna : numI a with
    | none => simp only [Bool.false_and]; rfl
    | some o =>
      cases hnb : numI b with
      | none => simp only [Bool.false_and, Bool.and_false]; rfl
      | some t =>
        cases hpc : partI c with
        | none => simp only [Bool.false_and, Bool.and_false]; rfl
        | some hkk =>
          cases hpd : partI d with
          | none => simp only [Bool.and_false]; rfl
          | some hvv =>
            obtain ⟨hk', kk⟩ := hkk
            obtain ⟨hv', v⟩ := hvv
            have l1 := partI_len hpc
            have l2 := partI_len hpd
            simp only [Bool.and_self, if_true]
            rw [impl_RecordValid_eq _ _ _ _ _ _ (by omega) (by omega) k (by omega) (by omega), Option.bind_some]
            cases recOk (o : Int) (t : Int) hk' kk hv' v <;> rfl
  | [], _ => rfl
  | [_], _ => rfl
  | [_, _], _ => rfl
  | [_, _, _], _ => rfl
  | _ :: _ :: _ :: _ :: _ :: _, _ => rfl
end Go.Proofs.YtlijpnglocgldaaDoor
