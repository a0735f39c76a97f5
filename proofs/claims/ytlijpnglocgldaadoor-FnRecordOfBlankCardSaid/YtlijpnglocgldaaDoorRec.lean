/- Records as plain Lean: when one is valid, and its line. What the program's and the reference's functions come to. -/
import Derived.Test.YtlijpnglocgldaaDoorHexI
import Derived.Test.YtlijpnglocgldaaDoorHexS
import Derived.Lib.ItoaNum
import Derived.Test.YtlijpnglocgldaaDoorQ0
import Derived.Test.YtlijpnglocgldaaDoorQ3
set_option linter.unusedVariables false
set_option linter.unusedSimpArgs false
namespace Go.Proofs.YtlijpnglocgldaaDoor
open Go.RowKit Go.Proofs.YtlijpnglocgldaaDoorW.PrintWords Go.Proofs.YtlijpnglocgldaaDoorW.PrintLast Go.Proofs.YtlijpnglocgldaaDoor.P

def inR (n : Int) : Bool := decide (0 ≤ n) && decide (n ≤ 99999)
def partOk (has : Bool) (l : List Int) : Bool := if has then decide (l.length ≤ 12) && l.all isB else l.length == 0
def recOk (o t : Int) (hk : Bool) (k : List Int) (hv : Bool) (v : List Int) : Bool := inR o && (inR t && (partOk hk k && partOk hv v))
def partStr (has : Bool) (l : List Int) : List UInt8 := if has then 120 :: hexText l else [45]
def recText (o t : Int) (hk : Bool) (k : List Int) (hv : Bool) (v : List Int) : List UInt8 :=
  Lib.decDigits o.toNat ++ [32] ++ Lib.decDigits t.toNat ++ [32] ++ partStr hk k ++ [32] ++ partStr hv v
theorem recOk_parts {o t : Int} {hk : Bool} {k : List Int} {hv : Bool} {v : List Int} (h : recOk o t hk k hv v = true) :
    (0 ≤ o ∧ o ≤ 99999) ∧ (0 ≤ t ∧ t ≤ 99999) ∧ partOk hk k = true ∧ partOk hv v = true := by
  simp only [recOk, inR, Bool.and_eq_true, decide_eq_true_eq] at h
  exact ⟨h.1, h.2.1, h.2.2.1, h.2.2.2⟩
theorem partOk_len {has : Bool} {l : List Int} (h : partOk has l = true) : l.length ≤ 12 := by
  unfold partOk at h
  cases has with
  | true => simp only [if_true, Bool.and_eq_true, decide_eq_true_eq] at h; exact h.1
  | false => have h0 : l.length = 0 := by simpa using h
             omega

theorem within_eq (n : Int) : impl_within.f n 0 99999 = some (inR n) := by
  unfold impl_within.f inR
  by_cases h : n ≥ 0
  · rw [if_pos h]; simp [h]
  · rw [if_neg h]; simp [h]
theorem impl_partValid_eq (has : Bool) (l : List Int) (hl : l.length ≤ 9223372036854775806) (k : Nat) (hk : l.length < k) : impl_partValid.f k has l = some (partOk has l) := by
  unfold impl_partValid.f partOk
  rw [allBytes_eq l hl k hk]
  cases has with
  | true =>
    simp only [if_true, Option.bind_some]
    by_cases h : l.length ≤ 12
    · rw [if_pos (by omega)]; simp [h]
    · rw [if_neg (by omega)]; simp [h]
  | false =>
    simp only [Bool.false_eq_true, if_false]
    congr 1
    rw [Bool.eq_iff_iff]
    simp
theorem impl_RecordValid_eq (o t : Int) (hk : Bool) (kk : List Int) (hv : Bool) (v : List Int) (h1 : kk.length ≤ 9223372036854775806) (h2 : v.length ≤ 9223372036854775806) (k : Nat) (hk1 : kk.length < k) (hk2 : v.length < k) :
    impl_RecordValid.f k o t hk kk hv v = some (recOk o t hk kk hv v) := by
  unfold impl_RecordValid.f impl_baseValid.f recOk
  rw [within_eq, within_eq, impl_partValid_eq hk kk h1 k hk1, impl_partValid_eq hv v h2 k hk2]
  cases inR o <;> cases inR t <;> cases partOk hk kk <;> simp

theorem l6In_eq (n : Int) : spec_l6In.f n 0 99999 = some (inR n) := by
  unfold spec_l6In.f inR
  by_cases h : n ≥ 0
  · rw [if_pos h]; simp [h]
  · rw [if_neg h]; simp [h]
theorem spec_l3Part_eq (has : Bool) (l : List Int) (hl : l.length ≤ 9223372036854775806) (k : Nat) (hk : l.length < k) : spec_l3Part.f k has l = some (partOk has l) := by
  unfold spec_l3Part.f partOk
  rw [l1Ok_eq l hl k hk]
  cases has with
  | true =>
    simp only [if_true, Option.bind_some]
    cases hb : l.all isB <;> simp
    omega
  | false =>
    simp only [Bool.false_eq_true, if_false, Option.bind_some]
    by_cases h : l.length = 0
    · obtain rfl : l = [] := List.eq_nil_of_length_eq_zero h
      simp
    · rw [if_neg (by omega)]; simp [h]
theorem spec_RecordValid_eq (o t : Int) (hk : Bool) (kk : List Int) (hv : Bool) (v : List Int) (h1 : kk.length ≤ 9223372036854775806) (h2 : v.length ≤ 9223372036854775806) (k : Nat) (hk1 : kk.length < k) (hk2 : v.length < k) :
    spec_RecordValid.f k o t hk kk hv v = some (recOk o t hk kk hv v) := by
  unfold spec_RecordValid.f recOk
  rw [l6In_eq, l6In_eq, spec_l3Part_eq hk kk h1 k hk1, spec_l3Part_eq hv v h2 k hk2]
  cases inR o <;> cases inR t <;> cases partOk hk kk <;> cases partOk hv v <;> simp

/-! decimals -/
theorem decDigits_lt (u : Nat) (h : u < 10) : Lib.decDigits u = [UInt8.ofNat (48 + u)] := by
  rw [Lib.decDigits]
  simp [h]
theorem decDigits_ge (u : Nat) (h : ¬ u < 10) : Lib.decDigits u = Lib.decDigits (u / 10) ++ [UInt8.ofNat (48 + u % 10)] := by
  rw [Lib.decDigits]
  simp [h]
theorem decDigits_len (u : Nat) : ∀ d, u < 10 ^ d → 0 < d → (Lib.decDigits u).length ≤ d := by
  induction u using Nat.strongRecOn with
  | _ u ih =>
    intro d hd h0
    by_cases h : u < 10
    · rw [decDigits_lt u h]; simp; omega
    · rw [decDigits_ge u h]
      obtain ⟨d, rfl⟩ : ∃ m, d = m + 1 := ⟨d - 1, by omega⟩
      have hp : 0 < d := by
        rcases d with _ | d
        · simp at hd; omega
        · omega
      have := ih (u / 10) (by omega) d (by rw [Nat.pow_succ] at hd; omega) hp
      simp; omega
theorem strOfNums_one (n : Nat) (h : n < 10) : strOfNums [wrap64 (48 + (n : Int)) % 256] = ⟨#[UInt8.ofNat (48 + n)]⟩ := by
  have e : wrap64 (48 + (n : Int)) % 256 = ((48 + n : Nat) : Int) := by unfold wrap64; omega
  rw [e]
  unfold strOfNums
  simp only [List.map_cons, List.map_nil]
  rfl
theorem l6Dec_eq (u : Nat) : ∀ (k : Nat), u < k → u ≤ 9223372036854775807 → spec_l6Dec.f k (u : Int) = some ⟨(Lib.decDigits u).toArray⟩ := by
  induction u using Nat.strongRecOn with
  | _ u ih =>
    intro k hk hu
    obtain ⟨k, rfl⟩ : ∃ m, k = m + 1 := ⟨k - 1, by omega⟩
    simp only [spec_l6Dec.f]
    rw [if_neg (by omega), if_neg (by omega)]
    by_cases h : u < 10
    · rw [if_pos (by omega), decDigits_lt u h, strOfNums_one u h]
    · rw [if_neg (by omega)]
      have e1 : wrap64 (Int.tdiv (u : Int) 10) = ((u / 10 : Nat) : Int) := by
        rw [Int.tdiv_eq_ediv_of_nonneg (by omega)]; unfold wrap64; omega
      have e2 : Int.tmod (u : Int) 10 = ((u % 10 : Nat) : Int) := by rw [Int.tmod_eq_emod_of_nonneg (by omega)]; omega
      rw [e1, e2, ih (u / 10) (by omega) k (by omega) (by omega)]
      simp only [Option.bind_some]
      rw [strOfNums_one (u % 10) (by omega), decDigits_ge u h]
      have hl : (Lib.decDigits (u / 10)).length ≤ 30 := by
        refine decDigits_len _ 30 ?_ (by omega)
        have : (10 : Nat) ^ 30 = 1000000000000000000000000000000 := by decide
        omega
      rw [if_pos (by show (Lib.decDigits (u / 10)).toArray.size + (#[UInt8.ofNat (48 + u % 10)] : Array UInt8).size ≤ _; simp; omega)]
      congr 1
end Go.Proofs.YtlijpnglocgldaaDoor
