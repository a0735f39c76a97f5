/- Numbers and parts read back from their texts, as plain lists; what the program's and the reference's readers come to. -/
import Derived.Test.YtlijpnglocgldaaDoorWords
import Derived.Test.YtlijpnglocgldaaDoorRec
import Derived.Test.YtlijpnglocgldaaDoorESmall
import Derived.Test.YtlijpnglocgldaaDoorQ0
import Derived.Test.YtlijpnglocgldaaDoorQ3
set_option linter.unusedVariables false
set_option linter.unusedSimpArgs false
namespace Go.Proofs.YtlijpnglocgldaaDoor
open Go.RowKit Go.Proofs.YtlijpnglocgldaaDoorW.PrintWords Go.Proofs.YtlijpnglocgldaaDoorW.PrintLast Go.Proofs.YtlijpnglocgldaaDoor.P

/-! ### numbers -/
def isD (c : UInt8) : Bool := decide (48 ≤ c.toNat) && decide (c.toNat ≤ 57)
def valFrom (a : Nat) (l : List UInt8) : Nat := l.foldl (fun a c => 10 * a + (c.toNat - 48)) a
def valD (l : List UInt8) : Nat := valFrom 0 l
theorem valFrom_cons (a : Nat) (c : UInt8) (l : List UInt8) : valFrom a (c :: l) = valFrom (10 * a + (c.toNat - 48)) l := by
  unfold valFrom
  rw [List.foldl_cons]
theorem valD_snoc (l : List UInt8) (c : UInt8) : valD (l ++ [c]) = 10 * valD l + (c.toNat - 48) := by
  unfold valD valFrom
  rw [List.foldl_append]
  rfl
def p10 : Nat → Nat
  | 0 => 1
  | n + 1 => 10 * p10 n
theorem valFrom_lt (l : List UInt8) : ∀ a, l.all isD = true → valFrom a l < (a + 1) * p10 l.length := by
  induction l with
  | nil => intro a _; rw [show valFrom a [] = a from rfl, show p10 ([] : List UInt8).length = 1 from rfl]; omega
  | cons c l ih =>
    intro a h
    simp only [List.all_cons, Bool.and_eq_true] at h
    obtain ⟨hc, hl⟩ := h
    simp only [isD, Bool.and_eq_true, decide_eq_true_eq] at hc
    rw [valFrom_cons]
    refine Nat.lt_of_lt_of_le (ih _ hl) ?_
    rw [List.length_cons, show p10 (l.length + 1) = 10 * p10 l.length from rfl, ← Nat.mul_assoc]
    exact Nat.mul_le_mul_right _ (by omega)
theorem p10_5 (n : Nat) (h : n ≤ 5) : p10 n ≤ 100000 := by
  match n, h with
  | 0, _ | 1, _ | 2, _ | 3, _ | 4, _ | 5, _ => decide
theorem valD_small (l : List UInt8) (h : l.all isD = true) (hl : l.length ≤ 5) : valD l ≤ 99999 := by
  have h1 := valFrom_lt l 0 h
  have h2 := p10_5 l.length hl
  show valFrom 0 l ≤ 99999
  omega
theorem all_take {p : UInt8 → Bool} {l : List UInt8} (n : Nat) (h : l.all p = true) : (l.take n).all p = true := by
  rw [List.all_eq_true] at h ⊢
  intro x hx
  exact h x (List.mem_of_mem_take hx)
theorem all_snoc (p : UInt8 → Bool) (l : List UInt8) (c : UInt8) : (l ++ [c]).all p = (l.all p && p c) := by simp

/-- dec after val -/
theorem dec_val (n : Nat) : ∀ l : List UInt8, l.length = n → l ≠ [] → l.all isD = true → (1 < l.length → l.head? ≠ some 48) → Lib.decDigits (valD l) = l := by
  induction n with
  | zero => intro l hl hne; exact absurd (List.eq_nil_of_length_eq_zero hl) hne
  | succ n ih =>
    intro l hl hne hd hh
    rcases List.eq_nil_or_concat l with e | ⟨l', c, e⟩
    · exact absurd e hne
    · rw [List.concat_eq_append] at e
      subst e
      rw [all_snoc, Bool.and_eq_true] at hd
      obtain ⟨hd', hc⟩ := hd
      simp only [isD, Bool.and_eq_true, decide_eq_true_eq] at hc
      have hcc : UInt8.ofNat (48 + (c.toNat - 48)) = c := by
        rw [show 48 + (c.toNat - 48) = c.toNat from by omega]
        exact UInt8.ofNat_toNat
      rw [valD_snoc]
      rcases l' with _ | ⟨b, l'⟩
      · show Lib.decDigits (10 * 0 + (c.toNat - 48)) = [c]
        rw [decDigits_lt _ (by omega), Nat.mul_zero, Nat.zero_add, hcc]
      · have hb : (b :: l').head? ≠ some 48 := by
          have := hh (by simp)
          simpa using this
        have hpos : 0 < valD (b :: l') := by
          have hb2 : b.toNat ≠ 48 := by
            intro e
            apply hb
            simp only [List.head?_cons, Option.some.injEq]
            exact UInt8.toNat_inj.1 (by rw [e]; rfl)
          have hbd : isD b = true := by
            simp only [List.all_cons, Bool.and_eq_true] at hd'
            exact hd'.1
          simp only [isD, Bool.and_eq_true, decide_eq_true_eq] at hbd
          have hmono : ∀ (l : List UInt8) (a : Nat), a ≤ valFrom a l := by
            intro l
            induction l with
            | nil => intro a; exact Nat.le_refl _
            | cons x l ih => intro a; rw [valFrom_cons]; exact Nat.le_trans (by omega) (ih _)
          have := hmono l' (10 * 0 + (b.toNat - 48))
          show 0 < valFrom 0 (b :: l')
          rw [valFrom_cons]
          omega
        rw [decDigits_ge _ (by omega)]
        rw [show (10 * valD (b :: l') + (c.toNat - 48)) / 10 = valD (b :: l') from by omega, show (10 * valD (b :: l') + (c.toNat - 48)) % 10 = c.toNat - 48 from by omega, hcc]
        rw [ih (b :: l') (by simp only [List.length_append, List.length_singleton] at hl; omega) (by simp) hd' (fun _ => hb)]
/-- val after dec -/
theorem val_dec (n : Nat) : valD (Lib.decDigits n) = n ∧ (Lib.decDigits n).all isD = true ∧ Lib.decDigits n ≠ [] ∧ (1 < (Lib.decDigits n).length → (Lib.decDigits n).head? ≠ some 48) ∧ (0 < n → (Lib.decDigits n).head? ≠ some 48) := by
  induction n using Nat.strongRecOn with
  | _ n ih =>
    have hdig : ∀ d, d < 10 → isD (UInt8.ofNat (48 + d)) = true ∧ (UInt8.ofNat (48 + d)).toNat = 48 + d := by
      intro d hd
      have e : (UInt8.ofNat (48 + d)).toNat = 48 + d := by rw [UInt8.toNat_ofNat']; omega
      refine ⟨?_, e⟩
      simp only [isD, e, Bool.and_eq_true, decide_eq_true_eq]
      omega
    by_cases h : n < 10
    · rw [decDigits_lt n h]
      obtain ⟨d1, d2⟩ := hdig n h
      refine ⟨?_, by rw [List.all_cons, d1]; rfl, by simp, fun hl => absurd hl (by decide : ¬ 1 < 1), fun hp => ?_⟩
      · show 10 * 0 + ((UInt8.ofNat (48 + n)).toNat - 48) = n
        rw [d2]; omega
      · simp only [List.head?_cons, ne_eq, Option.some.injEq]
        intro e
        have := congrArg UInt8.toNat e
        rw [d2] at this
        simp at this
        omega
    · rw [decDigits_ge n h]
      obtain ⟨i1, i2, i3, i4, i5⟩ := ih (n / 10) (by omega)
      obtain ⟨d1, d2⟩ := hdig (n % 10) (by omega)
      have hh : (Lib.decDigits (n / 10) ++ [UInt8.ofNat (48 + n % 10)]).head? ≠ some 48 := by
        rcases hq : Lib.decDigits (n / 10) with _ | ⟨x, r⟩
        · exact absurd hq i3
        · have := i5 (by omega)
          rw [hq] at this
          exact this
      refine ⟨?_, ?_, by simp, fun _ => hh, fun _ => hh⟩
      · rw [valD_snoc, i1, d2]; omega
      · rw [all_snoc, i2, d1]; rfl

def numI (l : List UInt8) : Option Nat := if (decide (1 ≤ l.length) && decide (l.length ≤ 5) && !(decide (1 < l.length) && l.head? == some 48) && l.all isD) = true then some (valD l) else none
theorem numI_some {l : List UInt8} {n : Nat} (h : numI l = some n) : Lib.decDigits n = l ∧ n ≤ 99999 := by
  unfold numI at h
  split at h
  · rename_i hc
    simp only [Bool.and_eq_true, decide_eq_true_eq, Bool.not_eq_true', Bool.and_eq_false_imp, beq_eq_false_iff_ne] at hc
    obtain ⟨⟨⟨h1, h5⟩, hh⟩, hd⟩ := hc
    obtain rfl := Option.some.inj h
    exact ⟨dec_val l.length l rfl (by intro e; rw [e] at h1; simp at h1) hd hh, valD_small l hd h5⟩
  · cases h
theorem numI_dec (n : Nat) (h : n ≤ 99999) : numI (Lib.decDigits n) = some n := by
  obtain ⟨v1, v2, v3, v4, _⟩ := val_dec n
  have hl := decDigits_len n 5 (by omega) (by omega)
  have hp : 1 ≤ (Lib.decDigits n).length := by
    rcases hq : Lib.decDigits n with _ | ⟨x, r⟩
    · exact absurd hq v3
    · simp
  unfold numI
  rw [if_pos, v1]
  simp only [Bool.and_eq_true, decide_eq_true_eq, Bool.not_eq_true', Bool.and_eq_false_imp, beq_eq_false_iff_ne]
  exact ⟨⟨⟨hp, hl⟩, v4⟩, v2⟩
theorem bt_ofL (l : List UInt8) (i : Nat) (h : i < l.length) : bt (ofL l) (i : Int) = ((l[i]'h).toNat : Int) := by
  rw [bt_get (ofL l) i (by rw [ofL_size]; exact h)]
  rfl
theorem drop_get (l : List UInt8) (i : Nat) (h : i < l.length) : l.drop i = l[i] :: l.drop (i + 1) := List.drop_eq_getElem_cons h
theorem take_get (l : List UInt8) (i : Nat) (h : i < l.length) : l.take (i + 1) = l.take i ++ [l[i]] := by rw [List.take_succ_eq_append_getElem h]
theorem wrap_next (i : Nat) (h : i ≤ 1099511627776) : wrap64 ((i : Int) + 1) = ((i + 1 : Nat) : Int) := by unfold wrap64; omega
theorem wrap_step (v c : Nat) (hv : v ≤ 99999) (h1 : ¬ (c : Int) < 48) (h2 : ¬ (c : Int) > 57) : wrap64 (wrap64 (10 * (v : Int)) + ((c : Int) - 48) % 256) = ((10 * v + (c - 48) : Nat) : Int) := by
  unfold wrap64
  omega
theorem numberOf_l0 (l : List UInt8) (hl : l.length ≤ 5) (d : Nat) : ∀ (k i : Nat), i ≤ l.length → l.length - i = d → d < k → (l.take i).all isD = true →
    impl_numberOf.l0 k (ofL l) (valD (l.take i) : Int) (l.length : Int) (i : Int) = some (if (l.drop i).all isD = true then ((valD l : Int), true) else (0, false)) := by
  induction d with
  | zero =>
    intro k i hi hd hk ht
    obtain ⟨k, rfl⟩ : ∃ m, k = m + 1 := ⟨k - 1, by omega⟩
    obtain rfl : i = l.length := by omega
    simp only [impl_numberOf.l0]
    rw [if_neg (by omega), List.take_length, List.drop_length]
    rfl
  | succ d ih =>
    intro k i hi hd hk ht
    obtain ⟨k, rfl⟩ : ∃ m, k = m + 1 := ⟨k - 1, by omega⟩
    have hlt : i < l.length := by omega
    simp only [impl_numberOf.l0]
    rw [if_pos (by omega), if_pos (by omega), if_pos (by rw [ofL_size]; omega), bt_ofL l i hlt, drop_get l i hlt, List.all_cons]
    by_cases h1 : (l[i].toNat : Int) < 48
    · have hn : isD l[i] = false := by simp [isD]; omega
      rw [if_pos h1, hn]; rfl
    · rw [if_neg h1]
      by_cases h2 : (l[i].toNat : Int) > 57
      · have hn : isD l[i] = false := by simp [isD]; omega
        rw [if_pos h2, hn]; rfl
      · have hy : isD l[i] = true := by simp [isD]; omega
        have hb := valD_small (l.take i) ht (by rw [List.length_take]; omega)
        rw [if_neg h2, hy, Bool.true_and]
        have a3 : (l.take (i + 1)).all isD = true := by rw [take_get l i hlt, all_snoc, ht, hy]; rfl
        have IH := ih k (i + 1) hlt (by omega) (by omega) a3
        have e2 : wrap64 (wrap64 (10 * (valD (l.take i) : Int)) + ((l[i].toNat : Int) - 48) % 256) = (valD (l.take (i + 1)) : Int) := by
          rw [take_get l i hlt, valD_snoc]
          exact wrap_step _ _ hb h1 h2
        rw [wrap_next i (by omega), e2]
        exact IH
theorem numberOf_j0 (k : Nat) (a : ByteArray) (b : Bool) : impl_numberOf.j0 (k + 1) a b = if b = true then some (0, false) else impl_numberOf.l0 k a 0 (a.size : Int) 0 := by
  simp only [impl_numberOf.j0]
theorem numberOf_l00 (l : List UInt8) (h5 : l.length ≤ 5) (k : Nat) (hk : 6 ≤ k) : impl_numberOf.l0 k (ofL l) 0 (l.length : Int) 0 = some (if l.all isD = true then ((valD l : Int), true) else (0, false)) := by
  have := numberOf_l0 l h5 l.length k 0 (by omega) (by omega) (by omega) rfl
  rw [List.take_zero, List.drop_zero] at this
  exact this
theorem numI_of (l : List UInt8) (h0 : 1 ≤ l.length) (h5 : l.length ≤ 5) (b : Bool) (hb : (decide (1 < l.length) && l.head? == some 48) = b) : numI l = if (!b && l.all isD) = true then some (valD l) else none := by
  unfold numI
  rw [hb, decide_eq_true h0, decide_eq_true h5]
  rfl
theorem numI_no (l : List UInt8) (h : l.length < 1 ∨ 5 < l.length) : numI l = none := by
  unfold numI
  rw [if_neg]
  intro hc
  simp only [Bool.and_eq_true, decide_eq_true_eq] at hc
  omega
theorem numberOf_eq (l : List UInt8) (k : Nat) (hk : 10 ≤ k) : impl_numberOf.f k (ofL l) = some (match numI l with | some n => ((n : Int), true) | none => (0, false)) := by
  obtain ⟨k, rfl⟩ : ∃ m, k = m + 1 := ⟨k - 1, by omega⟩
  unfold impl_numberOf.f
  rw [numberOf_j0, numberOf_j0, numberOf_j0, ofL_size]
  by_cases h0 : l.length < 1
  · rw [if_pos (by omega), if_pos rfl, numI_no l (Or.inl h0)]
  · rw [if_neg (by omega)]
    by_cases h5 : 5 < l.length
    · rw [if_pos (by omega), if_pos rfl, numI_no l (Or.inr h5)]
    · rw [if_neg (by omega)]
      have hl0 := numberOf_l00 l (by omega) k (by omega)
      by_cases h1 : 1 < l.length
      · rw [if_pos (by omega), if_pos (by omega), hl0]
        have hbt : (bt (ofL l) 0 == 48) = (l.head? == some 48) := by
          obtain ⟨b, r, rfl⟩ : ∃ b r, l = b :: r := by
            rcases l with _ | ⟨b, r⟩
            · exact absurd h1 (by decide)
            · exact ⟨b, r, rfl⟩
          have e : bt (ofL (b :: r)) 0 = (b.toNat : Int) := bt_ofL (b :: r) 0 (by omega)
          rw [e, Bool.eq_iff_iff, beq_iff_eq, beq_iff_eq, List.head?_cons, Option.some.injEq]
          constructor
          · intro h
            have h48 : (48 : UInt8).toNat = 48 := rfl
            exact UInt8.toNat_inj.1 (by rw [h48]; omega)
          · intro h
            rw [h]; rfl
        rw [hbt, numI_of l (by omega) (by omega) (l.head? == some 48) (by rw [decide_eq_true h1, Bool.true_and])]
        cases l.head? == some 48
        · rw [if_neg (by decide)]
          cases l.all isD <;> rfl
        · rw [if_pos rfl]; rfl
      · rw [if_neg (by omega), if_neg (by decide), hl0, numI_of l (by omega) (by omega) false (by rw [decide_eq_false h1, Bool.false_and])]
        cases l.all isD <;> rfl

/-! the reference's number -/
theorem l41Number_l0 (l : List UInt8) (hl : l.length ≤ 5) (d : Nat) : ∀ (k i : Nat), i ≤ l.length → l.length - i = d → d < k → (l.take i).all isD = true →
    spec_l41Number.l0 k (ofL l) (valD (l.take i) : Int) (i : Int) = some (if (l.drop i).all isD = true then (valD l : Int) else -1) := by
  induction d with
  | zero =>
    intro k i hi hd hk ht
    obtain ⟨k, rfl⟩ : ∃ m, k = m + 1 := ⟨k - 1, by omega⟩
    obtain rfl : i = l.length := by omega
    simp only [spec_l41Number.l0]
    rw [if_neg (by rw [ofL_size]; omega), List.take_length, List.drop_length]
    rfl
  | succ d ih =>
    intro k i hi hd hk ht
    obtain ⟨k, rfl⟩ : ∃ m, k = m + 1 := ⟨k - 1, by omega⟩
    have hlt : i < l.length := by omega
    simp only [spec_l41Number.l0]
    rw [if_pos (by rw [ofL_size]; omega), if_pos (by omega), bt_ofL l i hlt, drop_get l i hlt, List.all_cons]
    by_cases h1 : (l[i].toNat : Int) < 48
    · have hn : isD l[i] = false := by simp [isD]; omega
      rw [if_pos h1, hn]; rfl
    · rw [if_neg h1]
      by_cases h2 : (l[i].toNat : Int) > 57
      · have hn : isD l[i] = false := by simp [isD]; omega
        rw [if_pos h2, hn]; rfl
      · have hy : isD l[i] = true := by simp [isD]; omega
        have hb := valD_small (l.take i) ht (by rw [List.length_take]; omega)
        rw [if_neg h2, hy, Bool.true_and]
        have a3 : (l.take (i + 1)).all isD = true := by rw [take_get l i hlt, all_snoc, ht, hy]; rfl
        have IH := ih k (i + 1) hlt (by omega) (by omega) a3
        have e2 : wrap64 (wrap64 (10 * (valD (l.take i) : Int)) + ((l[i].toNat : Int) - 48) % 256) = (valD (l.take (i + 1)) : Int) := by
          rw [take_get l i hlt, valD_snoc]
          exact wrap_step _ _ hb h1 h2
        rw [wrap_next i (by omega), e2]
        exact IH
theorem l6In_15 (n : Int) : spec_l6In.f n 1 5 = some (decide (1 ≤ n) && decide (n ≤ 5)) := by
  unfold spec_l6In.f
  by_cases h : n ≥ 1
  · rw [if_pos h]; simp [h]
  · rw [if_neg h]; simp [h]
/-- The reference's number is told for every text; where the program reads one, it is the same. -/
theorem l41Number_eq (l : List UInt8) (k : Nat) (hk : 10 ≤ k) : ∃ n : Int, spec_l41Number.f k (ofL l) = some n ∧ ∀ m, numI l = some m → n = (m : Int) := by
  unfold spec_l41Number.f
  rw [l6In_15, ofL_size, Option.bind_some]
  by_cases h : 1 ≤ l.length ∧ l.length ≤ 5
  · rw [if_pos (by simp only [Bool.and_eq_true, decide_eq_true_eq]; omega)]
    have := l41Number_l0 l h.2 l.length k 0 (by omega) (by omega) (by omega) rfl
    rw [List.take_zero, List.drop_zero] at this
    refine ⟨_, this, fun m hm => ?_⟩
    unfold numI at hm
    split at hm
    · rename_i hc
      simp only [Bool.and_eq_true] at hc
      rw [if_pos hc.2, Option.some.inj hm]
    · cases hm
  · rw [if_neg (by simp only [Bool.and_eq_true, decide_eq_true_eq]; omega)]
    refine ⟨_, rfl, fun m hm => ?_⟩
    rw [numI_no l (by omega)] at hm
    cases hm
end Go.Proofs.YtlijpnglocgldaaDoor
