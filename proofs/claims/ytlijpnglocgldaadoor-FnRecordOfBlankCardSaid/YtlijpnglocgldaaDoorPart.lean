/- Parts read back from their texts, as plain lists; what the program's and the reference's readers come to. -/
import Derived.Test.YtlijpnglocgldaaDoorParse
set_option linter.unusedVariables false
set_option linter.unusedSimpArgs false
namespace Go.Proofs.YtlijpnglocgldaaDoor
open Go.RowKit Go.Proofs.YtlijpnglocgldaaDoorW.PrintWords Go.Proofs.YtlijpnglocgldaaDoorW.PrintLast Go.Proofs.YtlijpnglocgldaaDoor.P

def hexV (c : UInt8) : Int := if 48 ≤ c.toNat ∧ c.toNat ≤ 57 then (c.toNat : Int) - 48 else if 97 ≤ c.toNat ∧ c.toNat ≤ 102 then (c.toNat : Int) - 87 else -1
theorem hexV_range (c : UInt8) : -1 ≤ hexV c ∧ hexV c ≤ 15 := by
  unfold hexV
  split
  · omega
  · split <;> omega
theorem indexHex_all : ∀ n : Fin 256, Lib.indexByte [48, 49, 50, 51, 52, 53, 54, 55, 56, 57, 97, 98, 99, 100, 101, 102] (UInt8.ofNat n.val) = hexV (UInt8.ofNat n.val) := by decide +kernel
theorem indexHex (c : UInt8) : Lib.indexByte [48, 49, 50, 51, 52, 53, 54, 55, 56, 57, 97, 98, 99, 100, 101, 102] c = hexV c := by
  have h := indexHex_all ⟨c.toNat, c.toNat_lt⟩
  simpa using h
theorem hexV_digit : ∀ n : Fin 16, hexV (hexDigit (n.val : Int)) = (n.val : Int) := by decide +kernel
theorem digit_hexV_all : ∀ n : Fin 256, 0 ≤ hexV (UInt8.ofNat n.val) → hexDigit (hexV (UInt8.ofNat n.val)) = UInt8.ofNat n.val := by decide +kernel
theorem digit_hexV (c : UInt8) (h : 0 ≤ hexV c) : hexDigit (hexV c) = c := by
  have := digit_hexV_all ⟨c.toNat, c.toNat_lt⟩
  simp only [UInt8.ofNat_toNat] at this
  exact this h
theorem orHex_all : ∀ a b : Fin 16, bits .or .i64 (wrap64 ((a.val : Int) * 16)) (b.val : Int) = 16 * (a.val : Int) + (b.val : Int) := by decide +kernel
theorem orHex (a b : Int) (ha : 0 ≤ a) (ha' : a ≤ 15) (hb : 0 ≤ b) (hb' : b ≤ 15) : bits .or .i64 (wrap64 (a * 16)) b = 16 * a + b := by
  have h := orHex_all ⟨a.toNat, by omega⟩ ⟨b.toNat, by omega⟩
  simp only [Int.toNat_of_nonneg ha, Int.toNat_of_nonneg hb] at h
  exact h
def hexB : List UInt8 → Option (List Int)
  | a :: b :: r => if hexV a < 0 ∨ hexV b < 0 then none else (hexB r).map ((16 * hexV a + hexV b) :: ·)
  | _ => some []
def partI (l : List UInt8) : Option (Bool × List Int) :=
  if l = [45] then some (false, []) else match l with
  | b :: ds => if b = 120 ∧ ds.length % 2 = 0 ∧ ds.length ≤ 24 then (hexB ds).map (true, ·) else none
  | [] => none

/-! the two directions -/
theorem hexB_text (l : List Int) (h : l.all isB = true) : hexB (hexText l) = some l := by
  induction l with
  | nil => rfl
  | cons b l ih =>
    simp only [List.all_cons, Bool.and_eq_true] at h
    have hb := h.1
    simp only [isB, Bool.and_eq_true, decide_eq_true_eq] at hb
    have e1 : hexV (hexDigit (b / 16)) = b / 16 := by
      have := hexV_digit ⟨(b / 16).toNat, by omega⟩
      simp only [show (((b / 16).toNat : Nat) : Int) = b / 16 from by omega] at this
      exact this
    have e2 : hexV (hexDigit (b % 16)) = b % 16 := by
      have := hexV_digit ⟨(b % 16).toNat, by omega⟩
      simp only [show (((b % 16).toNat : Nat) : Int) = b % 16 from by omega] at this
      exact this
    show hexB (hexDigit (b / 16) :: hexDigit (b % 16) :: hexText l) = _
    rw [hexB, e1, e2, if_neg (by omega), ih h.2, show 16 * (b / 16) + b % 16 = b from by omega]
    rfl
theorem text_hexB (n : Nat) : ∀ (ds : List UInt8) (l : List Int), ds.length = 2 * n → hexB ds = some l → hexText l = ds ∧ l.all isB = true ∧ 2 * l.length = ds.length := by
  induction n with
  | zero =>
    intro ds l hn h
    obtain rfl : ds = [] := List.eq_nil_of_length_eq_zero (by omega)
    obtain rfl := Option.some.inj h
    exact ⟨rfl, rfl, rfl⟩
  | succ n ih =>
    intro ds l hn h
    match ds, hn with
    | a :: b :: r, hn =>
      simp only [hexB] at h
      split at h
      · cases h
      · rename_i hab
        obtain ⟨q, hq, rfl⟩ := Option.map_eq_some_iff.1 h
        have ra := hexV_range a
        have rb := hexV_range b
        obtain ⟨i1, i2, i3⟩ := ih r q (by simp only [List.length_cons] at hn; omega) hq
        refine ⟨?_, ?_, by simp only [List.length_cons]; omega⟩
        · show hexDigit ((16 * hexV a + hexV b) / 16) :: hexDigit ((16 * hexV a + hexV b) % 16) :: hexText q = _
          rw [show (16 * hexV a + hexV b) / 16 = hexV a from by omega, show (16 * hexV a + hexV b) % 16 = hexV b from by omega, digit_hexV a (by omega), digit_hexV b (by omega), i1]
        · rw [List.all_cons, i2, Bool.and_true]
          simp only [isB, Bool.and_eq_true, decide_eq_true_eq]
          omega
    | [], hn => simp at hn
    | [a], hn => simp only [List.length_singleton] at hn; omega
theorem partI_some {l : List UInt8} {h : Bool} {q : List Int} (e : partI l = some (h, q)) : partStr h q = l ∧ partOk h q = true := by
  unfold partI at e
  split at e
  · rename_i e45
    simp only [Option.some.injEq, Prod.mk.injEq] at e
    obtain ⟨rfl, rfl⟩ := e
    exact ⟨e45.symm, rfl⟩
  · split at e
    · rename_i b ds _
      split at e
      · rename_i hc
        obtain ⟨rfl, h2, h3⟩ := hc
        obtain ⟨q', hq, e⟩ := Option.map_eq_some_iff.1 e
        simp only [Prod.mk.injEq] at e
        obtain ⟨rfl, rfl⟩ := e
        obtain ⟨i1, i2, i3⟩ := text_hexB (ds.length / 2) ds q' (by omega) hq
        refine ⟨by show 120 :: hexText q' = _; rw [i1], ?_⟩
        show (decide (q'.length ≤ 12) && q'.all isB) = true
        rw [i2, decide_eq_true (by omega)]
        rfl
      · cases e
    · cases e
theorem partI_str (h : Bool) (q : List Int) (hok : partOk h q = true) : partI (partStr h q) = some (h, q) := by
  have hl := partOk_len hok
  cases h with
  | false =>
    have h0 : q.length = 0 := by simpa [partOk] using hok
    obtain rfl : q = [] := List.eq_nil_of_length_eq_zero h0
    rfl
  | true =>
    have hb : q.all isB = true := by
      simp only [partOk, if_true, Bool.and_eq_true] at hok
      exact hok.2
    show partI (120 :: hexText q) = _
    unfold partI
    rw [if_neg (by intro e; exact absurd (List.cons.inj e).1 (by decide))]
    simp only
    rw [if_pos ⟨by trivial, by rw [hexText_length]; omega, by rw [hexText_length]; omega⟩, hexB_text q hb]
    rfl
theorem partStr_hyphen (h : Bool) (q : List Int) : (partStr h q = [45]) ↔ h = false := by
  cases h with
  | false => exact ⟨fun _ => rfl, fun _ => rfl⟩
  | true => exact ⟨fun e => absurd (List.cons.inj e).1 (by decide), fun e => by cases e⟩

/-! the program's reader -/
theorem bt_u8 (l : List UInt8) (i : Nat) (h : i < l.length) : (bt (ofL l) (i : Int)).toNat.toUInt8 = l[i] := by
  rw [bt_ofL l i h, Int.toNat_natCast]
  exact UInt8.ofNat_toNat
theorem index_at (l : List UInt8) (i : Nat) (h : i < l.length) : strings_IndexByte.f (⟨#[48, 49, 50, 51, 52, 53, 54, 55, 56, 57, 97, 98, 99, 100, 101, 102]⟩ : ByteArray) (bt (ofL l) (i : Int)) = some (hexV l[i]) := by
  unfold strings_IndexByte.f
  rw [bt_u8 l i h]
  exact congrArg some (indexHex _)
theorem wrap_two (i : Nat) (h : i ≤ 1099511627776) : wrap64 ((i : Int) + 2) = ((i + 2 : Nat) : Int) := by unfold wrap64; omega
theorem partOf_l0 (l : List UInt8) (hl : l.length ≤ 24) (n : Nat) : ∀ (k i : Nat) (acc : List Int), i ≤ l.length → l.length - i = 2 * n → n < k → acc.length ≤ i →
    impl_partOf.l0 k (ofL l) acc (i : Int) = some (match hexB (l.drop i) with | some r => (true, acc ++ r, true) | none => (false, [], false)) := by
  induction n with
  | zero =>
    intro k i acc hi hd hk ha
    obtain ⟨k, rfl⟩ : ∃ m, k = m + 1 := ⟨k - 1, by omega⟩
    obtain rfl : i = l.length := by omega
    simp only [impl_partOf.l0]
    rw [if_neg (by rw [ofL_size]; omega), List.drop_length]
    simp only [hexB, List.append_nil]
  | succ n ih =>
    intro k i acc hi hd hk ha
    obtain ⟨k, rfl⟩ : ∃ m, k = m + 1 := ⟨k - 1, by omega⟩
    have h1 : i < l.length := by omega
    have h2 : i + 1 < l.length := by omega
    have hdr : l.drop i = l[i] :: l[i + 1] :: l.drop (i + 2) := by rw [drop_get l i h1, drop_get l (i + 1) h2]
    have IH := fun x => ih k (i + 2) (acc ++ [x]) (by omega) (by omega) (by omega) (by rw [List.length_append, List.length_singleton]; omega)
    have ra := hexV_range l[i]
    have rb := hexV_range l[i + 1]
    simp only [impl_partOf.l0]
    rw [if_pos (by rw [ofL_size]; omega), if_pos (by omega), index_at l i h1, Option.bind_some, wrap_next i (by omega), if_pos (by omega), if_pos (by rw [ofL_size]; omega), index_at l (i + 1) h2, Option.bind_some, hdr, hexB]
    by_cases ca : hexV l[i] < 0
    · rw [if_pos ca, if_pos (Or.inl ca)]
    · rw [if_neg ca]
      by_cases cb : hexV l[i + 1] < 0
      · rw [if_pos cb, if_pos (Or.inr cb)]
      · rw [if_neg cb, if_pos (by omega), if_neg (by omega), orHex _ _ (by omega) ra.2 (by omega) rb.2, wrap_two i (by omega), IH]
        cases hexB (l.drop (i + 2)) with
        | none => rfl
        | some r => simp only [Option.map_some, List.append_assoc, List.singleton_append]
theorem partOf_j0 (k : Nat) (a : ByteArray) (b : Bool) : impl_partOf.j0 (k + 1) a b = if b = true then some (false, [], false) else impl_partOf.l0 k a [] 0 := by
  simp only [impl_partOf.j0]
theorem cutX_yes (ds : List UInt8) : strings_CutPrefix.f (ofL (120 :: ds)) ⟨#[120]⟩ = some (ofL ds, true) := rfl
theorem cutX_no (l : List UInt8) (h : l.head? ≠ some 120) : strings_CutPrefix.f (ofL l) ⟨#[120]⟩ = some (ofL l, false) := by
  have hp : List.isPrefixOf [120] l = false := by
    match l with
    | [] => rfl
    | b :: ds =>
      have hb : b ≠ 120 := fun e => h (by rw [e]; rfl)
      simp [List.isPrefixOf, Ne.symm hb]
  unfold strings_CutPrefix.f Lib.trimPrefix Lib.hasPrefix
  rw [ofL_data, show (⟨#[120]⟩ : ByteArray).data.toList = [120] from rfl, hp]
  rfl
theorem partOf_eq (l : List UInt8) (hl : l.length ≤ 1099511627776) (k : Nat) (hk : 20 ≤ k) : impl_partOf.f k (ofL l) = some (match partI l with | some (h, q) => (h, q, true) | none => (false, [], false)) := by
  obtain ⟨k, rfl⟩ : ∃ m, k = m + 1 := ⟨k - 1, by omega⟩
  unfold impl_partOf.f partI
  by_cases h45 : l = [45]
  · rw [if_pos h45, if_pos (by rw [h45, ByteArray.toList_eq]; rfl)]
  · have hne : ¬ (ofL l).toList = [45] := by
      rw [ByteArray.toList_eq]
      exact h45
    rw [if_neg h45, if_neg hne]
    match l with
    | [] =>
      rw [cutX_no [] (by simp), Option.bind_some]
      simp only [Bool.false_eq_true, if_false]
      rw [partOf_j0, if_pos rfl]
    | b :: ds =>
      simp only
      by_cases hb : b = 120
      · subst hb
        rw [cutX_yes, Option.bind_some]
        simp only [if_true, ofL_size]
        by_cases hodd : ds.length % 2 = 1
        · rw [if_pos (by omega), partOf_j0, if_pos rfl, if_neg (by omega)]
        · rw [if_neg (by omega), partOf_j0]
          by_cases h24 : 24 < ds.length
          · rw [if_pos (decide_eq_true (by omega)), if_neg (by omega)]
          · rw [if_neg (by simp only [decide_eq_true_eq]; omega), if_pos ⟨by trivial, by omega, by omega⟩]
            have := partOf_l0 ds (by omega) (ds.length / 2) k 0 [] (by omega) (by omega) (by omega) (by simp)
            rw [List.drop_zero] at this
            refine Eq.trans this ?_
            cases hexB ds <;> rfl
      · rw [cutX_no (b :: ds) (fun e => hb (Option.some.inj e)), Option.bind_some]
        simp only [Bool.false_eq_true, if_false]
        rw [partOf_j0, if_pos rfl, if_neg (fun h => hb h.1)]

/-! the reference's reader -/
theorem l41Digit_eq (c : UInt8) (k : Nat) (hk : 1 ≤ k) : spec_l41Digit.f k (c.toNat : Int) = some (hexV c) := by
  obtain ⟨k, rfl⟩ : ∃ m, k = m + 1 := ⟨k - 1, by omega⟩
  unfold spec_l41Digit.f hexV
  simp only [spec_l41Digit.j0]
  have := c.toNat_lt
  by_cases h1 : 48 ≤ c.toNat
  · rw [if_pos (by omega)]
    by_cases h2 : c.toNat ≤ 57
    · rw [if_pos (decide_eq_true (by omega)), if_pos ⟨h1, h2⟩]
      congr 1
      omega
    · rw [if_neg (by simp only [decide_eq_true_eq]; omega)]
      by_cases h3 : 97 ≤ c.toNat
      · rw [if_pos (by omega)]
        by_cases h4 : c.toNat ≤ 102
        · rw [if_pos (by omega), if_neg (by omega), if_pos (by omega)]
          congr 1
          omega
        · rw [if_neg (by omega), if_neg (by omega), if_neg (by omega)]
      · rw [if_neg (by omega), if_neg (by omega), if_neg (by omega)]
  · rw [if_neg (by omega), if_neg (by decide), if_neg (by omega), if_neg (by omega), if_neg (by omega)]
theorem l41Bytes_l0 (l : List UInt8) (hl : l.length ≤ 1099511627776) (n : Nat) : ∀ (k i : Nat) (acc : List Int), i ≤ l.length → (l.length - i) / 2 = n → n + 1 < k → acc.length ≤ i →
    ∃ r, spec_l41Bytes.l0 k (ofL l) acc (i : Int) = some (acc ++ r) ∧ r.length ≤ n ∧ ∀ q, hexB (l.drop i) = some q → r = q := by
  induction n with
  | zero =>
    intro k i acc hi hd hk ha
    obtain ⟨k, rfl⟩ : ∃ m, k = m + 1 := ⟨k - 1, by omega⟩
    simp only [spec_l41Bytes.l0]
    rw [wrap_next i (by omega), if_neg (by rw [ofL_size]; omega)]
    refine ⟨[], by rw [List.append_nil], Nat.le_refl _, fun q hq => ?_⟩
    rcases hx : l.drop i with _ | ⟨a, _ | ⟨b, r⟩⟩
    · rw [hx] at hq; exact Option.some.inj hq
    · rw [hx] at hq; exact Option.some.inj hq
    · have := congrArg List.length hx
      rw [List.length_drop] at this
      simp only [List.length_cons] at this
      omega
  | succ n ih =>
    intro k i acc hi hd hk ha
    obtain ⟨k, rfl⟩ : ∃ m, k = m + 1 := ⟨k - 1, by omega⟩
    have h1 : i < l.length := by omega
    have h2 : i + 1 < l.length := by omega
    have hdr : l.drop i = l[i] :: l[i + 1] :: l.drop (i + 2) := by rw [drop_get l i h1, drop_get l (i + 1) h2]
    have ra := hexV_range l[i]
    have rb := hexV_range l[i + 1]
    obtain ⟨r, e1, e2, e3⟩ := ih k (i + 2) (acc ++ [16 * hexV l[i] + hexV l[i + 1]]) (by omega) (by omega) (by omega) (by rw [List.length_append, List.length_singleton]; omega)
    refine ⟨(16 * hexV l[i] + hexV l[i + 1]) :: r, ?_, by rw [List.length_cons]; omega, fun q hq => ?_⟩
    · have ew : wrap64 (wrap64 (16 * hexV l[i]) + hexV l[i + 1]) = 16 * hexV l[i] + hexV l[i + 1] := by unfold wrap64; omega
      simp only [spec_l41Bytes.l0]
      rw [wrap_next i (by omega), if_pos (by rw [ofL_size]; omega), if_pos (by omega), if_pos (by rw [ofL_size]; omega), bt_ofL l i h1, bt_ofL l (i + 1) h2, l41Digit_eq _ _ (by omega), l41Digit_eq _ _ (by omega), Option.bind_some, if_pos (by omega), Option.bind_some, if_pos (by omega), ew, wrap_two i (by omega), e1, List.append_assoc]
      rfl
    · rw [hdr, hexB] at hq
      split at hq
      · cases hq
      · obtain ⟨q', hq', rfl⟩ := Option.map_eq_some_iff.1 hq
        rw [e3 q' hq']
/-- The reference's bytes are told for every text; where the program reads a part, they are the same. -/
theorem l41Bytes_eq (l : List UInt8) (hl : l.length ≤ 1099511627776) (k : Nat) (hk : l.length + 2 < k) : ∃ r, spec_l41Bytes.f k (ofL l) = some r ∧ r.length ≤ l.length ∧ ∀ h q, partI l = some (h, q) → r = q := by
  unfold spec_l41Bytes.f
  by_cases h0 : l.length = 0
  · obtain rfl : l = [] := List.eq_nil_of_length_eq_zero h0
    obtain ⟨k, rfl⟩ : ∃ m, k = m + 1 := ⟨k - 1, by omega⟩
    refine ⟨[], ?_, Nat.le_refl _, fun h q e => by cases e⟩
    simp only [spec_l41Bytes.l0]
    rw [if_neg (by rw [ofL_size, show wrap64 (1 + 1) = 2 from by unfold wrap64; omega]; simp)]
  · obtain ⟨r, e1, e2, e3⟩ := l41Bytes_l0 l hl ((l.length - 1) / 2) k 1 [] (by omega) rfl (by omega) (by simp)
    refine ⟨r, by rw [List.nil_append] at e1; exact e1, by omega, fun h q e => ?_⟩
    unfold partI at e
    split at e
    · rename_i e45
      subst e45
      have hr : r.length = 0 := Nat.le_zero.1 e2
      obtain rfl : r = [] := List.eq_nil_of_length_eq_zero hr
      simp only [Option.some.injEq, Prod.mk.injEq] at e
      exact e.2
    · split at e
      · rename_i b ds _
        split at e
        · obtain ⟨q', hq, e⟩ := Option.map_eq_some_iff.1 e
          simp only [Prod.mk.injEq] at e
          rw [← e.2]
          exact e3 q' hq
        · cases e
      · cases e
end Go.Proofs.YtlijpnglocgldaaDoor
