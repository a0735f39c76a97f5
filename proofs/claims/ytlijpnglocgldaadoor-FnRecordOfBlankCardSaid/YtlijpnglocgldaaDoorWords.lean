/- Words: a text split at one byte, as plain lists; what the library's Split and the reference's cut come to. -/
import Derived.Test.YtlijpnglocgldaaDoorGok
import Derived.Lib.Split
import Derived.Lib.SplitLaws
import Derived.Test.YtlijpnglocgldaaDoorQ0
set_option linter.unusedVariables false
set_option linter.unusedSimpArgs false
namespace Go.Proofs.YtlijpnglocgldaaDoor
open Go.RowKit Go.Proofs.YtlijpnglocgldaaDoorW.PrintWords Go.Proofs.YtlijpnglocgldaaDoorW.PrintLast Go.Proofs.YtlijpnglocgldaaDoor.P

/-- The first word and the others. -/
def splitP (c : UInt8) : List UInt8 → List UInt8 × List (List UInt8)
  | [] => ([], [])
  | b :: l => if b = c then ([], (splitP c l).1 :: (splitP c l).2) else (b :: (splitP c l).1, (splitP c l).2)
def splitL (c : UInt8) (l : List UInt8) : List (List UInt8) := (splitP c l).1 :: (splitP c l).2
def ofL (l : List UInt8) : ByteArray := ⟨l.toArray⟩
theorem ofL_data (l : List UInt8) : (ofL l).data.toList = l := rfl
theorem ofL_of (s : ByteArray) : ofL s.data.toList = s := rfl
theorem ofL_size (l : List UInt8) : (ofL l).size = l.length := by show l.toArray.size = _; simp

theorem splitP_app (c : UInt8) (a l : List UInt8) (ha : c ∉ a) : splitP c (a ++ l) = (a ++ (splitP c l).1, (splitP c l).2) := by
  induction a with
  | nil => rfl
  | cons b a ih =>
    simp only [List.mem_cons, not_or] at ha
    simp only [List.cons_append, splitP]
    rw [if_neg (fun e => ha.1 e.symm), ih ha.2]
theorem splitP_none (c : UInt8) (a : List UInt8) (ha : c ∉ a) : splitP c a = (a, []) := by
  have := splitP_app c a [] ha
  simpa [splitP] using this
theorem splitL_app (c : UInt8) (a l : List UInt8) (ha : c ∉ a) : splitL c (a ++ c :: l) = a :: splitL c l := by
  unfold splitL
  rw [splitP_app c a _ ha]
  simp [splitP]
theorem splitL_none (c : UInt8) (a : List UInt8) (ha : c ∉ a) : splitL c a = [a] := by
  unfold splitL
  rw [splitP_none c a ha]
theorem splitP_fst_not (c : UInt8) (l : List UInt8) : c ∉ (splitP c l).1 := by
  induction l with
  | nil => simp [splitP]
  | cons b l ih =>
    simp only [splitP]
    by_cases h : b = c
    · rw [if_pos h]; simp
    · rw [if_neg h]
      simp only [List.mem_cons, not_or]
      exact ⟨fun e => h e.symm, ih⟩
/-- The words put together again. -/
def joinL (c : UInt8) : List UInt8 → List (List UInt8) → List UInt8
  | a, [] => a
  | a, b :: r => a ++ c :: joinL c b r
theorem joinL_cons (c b : UInt8) (a : List UInt8) (r : List (List UInt8)) : joinL c (b :: a) r = b :: joinL c a r := by
  cases r <;> simp [joinL]
theorem joinL_split (c : UInt8) (l : List UInt8) : joinL c (splitP c l).1 (splitP c l).2 = l := by
  induction l with
  | nil => rfl
  | cons b l ih =>
    simp only [splitP]
    by_cases h : b = c
    · rw [if_pos h]; simp only [joinL, ih, h, List.nil_append]
    · rw [if_neg h]; simp only [joinL_cons, ih]

/-! ### the library's Split -/
theorem index_cons_eq (c : UInt8) (l : List UInt8) : Lib.index (c :: l) [c] = 0 := by
  rw [Lib.index]; simp [List.isPrefixOf]
theorem index_cons_ne (b c : UInt8) (l : List UInt8) (h : b ≠ c) : Lib.index (b :: l) [c] = if Lib.index l [c] == -1 then -1 else Lib.index l [c] + 1 := by
  have hp : ([c] : List UInt8).isPrefixOf (b :: l) = false := by simp [List.isPrefixOf, Ne.symm h]
  rw [Lib.index, hp]; simp
theorem index_of_count (c : UInt8) (l : List UInt8) (h : l.count c ≠ 0) : 0 ≤ Lib.index l [c] := by
  induction l with
  | nil => simp at h
  | cons b l ih =>
    by_cases hb : b = c
    · subst hb; rw [index_cons_eq]; omega
    · rw [index_cons_ne b c l hb]
      have hc : l.count c ≠ 0 := by rwa [List.count_cons_of_ne hb] at h
      have := ih hc
      rw [if_neg (by intro e; have := beq_iff_eq.1 e; omega)]
      omega
theorem splitK_one (c : UInt8) (l : List UInt8) : Lib.splitK [c] 0 (l.count c) l = splitL c l := by
  induction l with
  | nil => rfl
  | cons b l ih =>
    by_cases hb : b = c
    · subst hb
      rw [List.count_cons_self]
      simp only [Lib.splitK, index_cons_eq]
      rw [if_neg (by decide)]
      simp only [Int.toNat_zero, Nat.zero_add, List.take_zero, List.length_singleton, List.drop_succ_cons, List.drop_zero]
      rw [ih]
      simp [splitL, splitP]
    · rw [List.count_cons_of_ne hb]
      have e : splitL c (b :: l) = (b :: (splitP c l).1) :: (splitP c l).2 := by simp [splitL, splitP, hb]
      rw [e]
      cases hk : l.count c with
      | zero =>
        rw [hk] at ih
        simp only [Lib.splitK, splitL, List.cons.injEq] at ih
        simp only [Lib.splitK]
        rw [← ih.1, ← ih.2]
      | succ k =>
        have h0 := index_of_count c l (by omega)
        rw [hk] at ih
        simp only [Lib.splitK, splitL] at ih ⊢
        rw [if_neg (by intro e; have := beq_iff_eq.1 e; omega)] at ih
        have e0 : Lib.index (b :: l) [c] = Lib.index l [c] + 1 := by
          rw [index_cons_ne b c l hb, if_neg (by intro e; have := beq_iff_eq.1 e; omega)]
        rw [e0, if_neg (by intro e; have := beq_iff_eq.1 e; omega)]
        simp only [List.cons.injEq] at ih
        obtain ⟨i1, i2⟩ := ih
        have e1 : (Lib.index l [c] + 1).toNat = (Lib.index l [c]).toNat + 1 := by omega
        rw [e1]
        simp only [Nat.add_zero, List.take_succ_cons, List.length_singleton, List.drop_succ_cons] at i1 i2 ⊢
        rw [i1, i2]
theorem splitB_one (c : UInt8) (s : ByteArray) : Lib.splitB ⟨#[c]⟩ 0 (Lib.countB s ⟨#[c]⟩) s = (splitL c s.data.toList).map ofL := by
  have h := Lib.splitB_data ⟨#[c]⟩ 0 (Lib.countB s ⟨#[c]⟩) s
  have e : Lib.countB s ⟨#[c]⟩ = s.data.toList.count c := Lib.count_one c s.data.toList
  rw [e] at h ⊢
  rw [splitK_one] at h
  rw [← h, List.map_map]
  symm
  apply List.map_id''
  intro x
  rfl

/-! ### the reference's cut -/
theorem bt_get (s : ByteArray) (i : Nat) (h : i < s.size) : bt s (i : Int) = ((s.data.toList[i]'(by simpa using h)).toNat : Int) := by
  unfold bt
  rw [Int.toNat_natCast, dif_pos h]
  rfl
theorem bt_eq_iff (s : ByteArray) (i : Nat) (h : i < s.size) (c : UInt8) (n : Int) (hn : (c.toNat : Int) = n) : bt s (i : Int) = n ↔ s.data.toList[i]'(by simpa using h) = c := by
  rw [bt_get s i h, ← hn]
  constructor
  · intro e
    exact UInt8.toNat_inj.1 (by omega)
  · intro e
    rw [e]
theorem extract_ofL (s : ByteArray) (a b : Nat) (hb : b ≤ s.size) : s.extract a b = ofL ((s.data.toList.take b).drop a) := by
  apply ByteArray.ext
  show _ = ((s.data.toList.take b).drop a).toArray
  simp [ByteArray.data_extract, List.drop_take, List.extract_toArray]
  apply Array.ext'
  simp [List.extract_eq_take_drop]
/-- From place i on, the word under way having begun at 'from': what the reference's cut answers. -/
theorem cut_l0 (s : ByteArray) (hs : s.size ≤ 4294967296) (d : Nat) : ∀ (k : Nat) (ws : List ByteArray) (b i : Nat), b ≤ i → i ≤ s.size → s.size - i = d → d < k → ws.length + (s.size - i) ≤ 4294967296 →
    (∀ j, b ≤ j → j < i → ∀ h : j < s.data.toList.length, s.data.toList[j] ≠ 32) →
    spec_l41Cut.l0 k s ws (b : Int) (i : Int) = some (ws ++ (splitL 32 (s.data.toList.drop b)).map ofL) := by
  have hsz : s.data.toList.length = s.size := by simp
  induction d with
  | zero =>
    intro k ws b i hb hi hd hk hw hne
    obtain ⟨k, rfl⟩ : ∃ m, k = m + 1 := ⟨k - 1, by omega⟩
    obtain rfl : i = s.size := by omega
    simp only [spec_l41Cut.l0]
    rw [if_neg (by omega), if_pos (by omega), if_pos (by omega), if_pos (by omega), extract_ofL s _ _ (Nat.le_refl _), Int.toNat_natCast]
    rw [splitL_none]
    · rw [List.take_of_length_le (by omega)]
      rfl
    · intro hm
      obtain ⟨j, hj, e⟩ := List.getElem_of_mem hm
      rw [List.getElem_drop] at e
      rw [List.length_drop] at hj
      exact hne (b + j) (by omega) (by omega) (by omega) e
  | succ d ih =>
    intro k ws b i hb hi hd hk hw hne
    obtain ⟨k, rfl⟩ : ∃ m, k = m + 1 := ⟨k - 1, by omega⟩
    have hlt : i < s.size := by omega
    have e1 : wrap64 ((i : Int) + 1) = ((i + 1 : Nat) : Int) := by unfold wrap64; omega
    simp only [spec_l41Cut.l0]
    rw [if_pos (by omega), if_pos (by omega)]
    by_cases hc : bt s (i : Int) = 32
    · rw [if_pos hc, if_pos (by omega), if_pos (by omega), if_pos (by omega), if_pos (by omega), e1, ih k _ (i + 1) (i + 1) (Nat.le_refl _) (by omega) (by omega) (by omega) (by simp only [List.length_append, List.length_singleton]; omega) (fun j h1 h2 => by omega)]
      rw [Int.toNat_natCast, Int.toNat_natCast, extract_ofL s b i (by omega)]
      have hci := (bt_eq_iff s i hlt 32 32 rfl).1 hc
      have hsp : s.data.toList.drop b = (s.data.toList.take i).drop b ++ 32 :: s.data.toList.drop (i + 1) := by
        have h1 : s.data.toList.drop i = 32 :: s.data.toList.drop (i + 1) := by rw [List.drop_eq_getElem_cons (by omega), hci]
        rw [← h1]
        conv => lhs; rw [← List.take_append_drop i s.data.toList]
        rw [List.drop_append_of_le_length (by rw [List.length_take]; omega)]
      rw [hsp, splitL_app]
      · simp [List.map_cons]
      · intro hm
        obtain ⟨j, hj, e⟩ := List.getElem_of_mem hm
        rw [List.getElem_drop, List.getElem_take] at e
        rw [List.length_drop, List.length_take] at hj
        exact hne (b + j) (by omega) (by omega) (by omega) e
    · rw [if_neg hc, e1, ih k ws b (i + 1) (by omega) (by omega) (by omega) (by omega) (by omega)]
      intro j h1 h2 h3
      by_cases hj : j = i
      · subst hj
        intro e
        exact hc ((bt_eq_iff s j hlt 32 32 rfl).2 e)
      · exact hne j h1 (by omega) h3
theorem cut_eq (s : ByteArray) (hs : s.size ≤ 2147483648) (k : Nat) (hk : s.size < k) : spec_l41Cut.f k s = some ((splitL 32 s.data.toList).map ofL) := by
  unfold spec_l41Cut.f
  have := cut_l0 s (by omega) s.size k [] 0 0 (Nat.le_refl _) (by omega) (by omega) hk (by simp; omega) (fun j h1 h2 => by omega)
  simpa using this
end Go.Proofs.YtlijpnglocgldaaDoor
