/- The law FnExactRecordText over lists and numbers: with enough rounds it answers true. -/
import Derived.Test.YtlijpnglocgldaaDoorRecS
import Derived.Test.YtlijpnglocgldaaDoorERtext
import Derived.Test.YtlijpnglocgldaaDoorPx5
set_option linter.unusedVariables false
set_option linter.unusedSimpArgs false
namespace Go.Proofs.YtlijpnglocgldaaDoor
open Go.RowKit Go.Proofs.YtlijpnglocgldaaDoorW.PrintWords Go.Proofs.YtlijpnglocgldaaDoorW.PrintLast Go.Proofs.YtlijpnglocgldaaDoor.P

theorem set_take (l x : List Int) (i : Nat) (hi : i < l.length) (hx : x.length = l.length) (h : x.take i = l.take i) : (x.set i (l.getD i 0)).take (i + 1) = l.take (i + 1) := by
  apply List.ext_getElem?
  intro j
  have hj := congrArg (fun z => z[j]?) h
  simp only [List.getElem?_take] at hj ⊢
  by_cases e : j = i
  · subst e
    simp [hx, hi]
  · by_cases hlt : j < i
    · rw [if_pos (by omega), if_pos (by omega), List.getElem?_set_ne (by omega)]
      rw [if_pos hlt, if_pos hlt] at hj
      exact hj
    · rw [if_neg (by omega), if_neg (by omega)]
theorem toIntS_l0 (l : List Int) (hl : l.length ≤ 9223372036854775806) (d : Nat) : ∀ (k : Nat) (x : List Int) (i : Int), 0 ≤ i → i ≤ l.length → (l.length : Int) - i = d → d < k → x.length = l.length → x.take i.toNat = l.take i.toNat → laws_toIntS.l0 k l x i = some l := by
  induction d with
  | zero =>
    intro k x i h0 h1 hd hk hx hp
    obtain ⟨k, rfl⟩ : ∃ m, k = m + 1 := ⟨k - 1, by omega⟩
    simp only [laws_toIntS.l0]
    rw [if_neg (by omega)]
    rw [show i.toNat = l.length from by omega, List.take_length, List.take_of_length_le (by omega)] at hp
    rw [hp]
  | succ d ih =>
    intro k x i h0 h1 hd hk hx hp
    obtain ⟨k, rfl⟩ : ∃ m, k = m + 1 := ⟨k - 1, by omega⟩
    have hw : wrap64 (i + 1) = i + 1 := by unfold wrap64; omega
    simp only [laws_toIntS.l0]
    rw [if_pos (by omega), if_pos h0, if_pos (by omega), hw]
    refine ih k _ (i + 1) (by omega) (by omega) (by omega) (by omega) (by simpa using hx) ?_
    rw [show (i + 1).toNat = i.toNat + 1 from by omega]
    exact set_take l x i.toNat (by omega) hx hp
theorem toIntS_eq (l : List Int) (hl : l.length ≤ 35184372088832) (k : Nat) (hk : l.length < k) : laws_toIntS.f k l = some l := by
  unfold laws_toIntS.f
  rw [if_pos (by omega), if_pos (by omega)]
  exact toIntS_l0 l (by omega) l.length k _ 0 (by omega) (by omega) (by omega) (by omega) (by simp) (by simp)
theorem toRecord_eq (o t : Int) (hk : Bool) (kk : List Int) (hv : Bool) (v : List Int) (h1 : kk.length ≤ 35184372088832) (h2 : v.length ≤ 35184372088832) (k : Nat) (hk1 : kk.length < k) (hk2 : v.length < k) :
    laws_toRecord.f k o t hk kk hv v = some (o, t, hk, kk, hv, v) := by
  unfold laws_toRecord.f
  rw [toIntS_eq kk h1 k hk1, toIntS_eq v h2 k hk2]
  rfl
theorem eqIntS_l0 (l : List Int) (hl : l.length ≤ 9223372036854775806) (d : Nat) : ∀ (k : Nat) (i : Int), 0 ≤ i → i ≤ l.length → (l.length : Int) - i = d → d < k → laws_eqIntS.l0 k l l i = some true := by
  induction d with
  | zero =>
    intro k i h0 h1 hd hk
    obtain ⟨k, rfl⟩ : ∃ m, k = m + 1 := ⟨k - 1, by omega⟩
    simp only [laws_eqIntS.l0]
    rw [if_neg (by omega)]
  | succ d ih =>
    intro k i h0 h1 hd hk
    obtain ⟨k, rfl⟩ : ∃ m, k = m + 1 := ⟨k - 1, by omega⟩
    have hw : wrap64 (i + 1) = i + 1 := by unfold wrap64; omega
    simp only [laws_eqIntS.l0]
    rw [if_pos (by omega), if_pos h0, if_pos (by omega), if_pos trivial, hw]
    exact ih k (i + 1) (by omega) (by omega) (by omega) (by omega)
theorem eqIntS_refl (l : List Int) (hl : l.length ≤ 9223372036854775806) (k : Nat) (hk : l.length < k) : laws_eqIntS.f k l l = some true := by
  unfold laws_eqIntS.f
  rw [if_pos rfl]
  exact eqIntS_l0 l hl l.length k 0 (by omega) (by omega) (by omega) hk
theorem eqRecord_refl (o t : Int) (hk : Bool) (kk : List Int) (hv : Bool) (v : List Int) (h1 : kk.length ≤ 9223372036854775806) (h2 : v.length ≤ 9223372036854775806) (k : Nat) (hk1 : kk.length < k) (hk2 : v.length < k) :
    laws_eqRecord.f k o t hk kk hv v o t hk kk hv v = some true := by
  unfold laws_eqRecord.f
  rw [eqIntS_refl kk h1 k hk1, eqIntS_refl v h2 k hk2]
  simp
theorem szIntS_eq (l : List Int) (a : Int) (h0 : 0 ≤ a) (h1 : a ≤ 1048576) (hl : l.length ≤ 9223372036854775807) : laws_szIntS.f l a = some (if a < l.length then -1 else a - l.length) := by
  unfold laws_szIntS.f
  have hw : wrap64 (a - (l.length : Int)) = a - l.length := by unfold wrap64; omega
  rw [hw]
  by_cases h : a < l.length
  · rw [if_pos (by omega), if_pos h]
  · rw [if_neg (by omega), if_neg h]
/-- The law, over numbers and lists. -/
theorem pureExactRecordText (o t : Int) (hk : Bool) (kk : List Int) (hv : Bool) (v : List Int) (h1 : kk.length ≤ 9223372036854775807) (h2 : v.length ≤ 9223372036854775807) :
    laws_FnExactRecordText.f 2000000 o t hk kk hv v = some true := by
  unfold laws_FnExactRecordText.f laws_szRecord.f
  rw [szIntS_eq kk 1048576 (by omega) (by omega) h1]
  simp only [Option.bind_some]
  by_cases hl1 : (1048576 : Int) < kk.length
  · rw [if_pos hl1]
    rfl
  · rw [if_neg hl1, if_neg (by omega), szIntS_eq v _ (by omega) (by omega) h2]
    simp only [Option.bind_some]
    by_cases hl2 : (1048576 : Int) - kk.length < v.length
    · rw [if_pos hl2]
      rfl
    · rw [if_neg hl2, if_neg (by omega)]
      simp only [Option.bind_some]
      rw [if_neg (by omega), toRecord_eq o t hk kk hv v (by omega) (by omega) 2000000 (by omega) (by omega)]
      simp only [Option.bind_some]
      rw [spec_RecordText_eq o t hk kk hv v (by omega) (by omega) 2000000 (by omega) (by omega) (by omega)]
      simp only [Option.bind_some]
      unfold impl_RecordText.f
      rw [if_pos ⟨by omega, by omega⟩]
      simp only [Option.bind_some]
      rw [if_pos trivial, eqRecord_refl o t hk kk hv v (by omega) (by omega) 2000000 (by omega) (by omega)]
      rfl
end Go.Proofs.YtlijpnglocgldaaDoor
