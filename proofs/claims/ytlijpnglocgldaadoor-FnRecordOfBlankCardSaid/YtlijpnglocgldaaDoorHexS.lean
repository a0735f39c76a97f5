/- The reference's check whether all numbers are bytes. -/
import Derived.Test.YtlijpnglocgldaaDoorHexP
import Derived.Test.YtlijpnglocgldaaDoorQ0
set_option linter.unusedVariables false
set_option linter.unusedSimpArgs false
namespace Go.Proofs.YtlijpnglocgldaaDoor
open Go.RowKit Go.Proofs.YtlijpnglocgldaaDoorW.PrintWords Go.Proofs.YtlijpnglocgldaaDoorW.PrintLast Go.Proofs.YtlijpnglocgldaaDoor.P

/-- The reference's check, with enough rounds. -/
theorem l1Ok_l0 (l : List Int) (hl : l.length ≤ 9223372036854775806) (d : Nat) : ∀ (k : Nat) (i : Int), 0 ≤ i → i ≤ l.length → (l.length : Int) - i = d → d < k →
    spec_l1Ok.l0 k l i = some ((l.drop i.toNat).all isB) := by
  induction d with
  | zero =>
    intro k i h0 h1 hd hk
    obtain ⟨k, rfl⟩ : ∃ m, k = m + 1 := ⟨k - 1, by omega⟩
    have : i = l.length := by omega
    subst this
    simp only [spec_l1Ok.l0]
    rw [if_neg (by omega)]
    simp
  | succ d ih =>
    intro k i h0 h1 hd hk
    obtain ⟨k, rfl⟩ : ∃ m, k = m + 1 := ⟨k - 1, by omega⟩
    have hlt : i < (l.length : Int) := by omega
    have hw : wrap64 (i + 1) = i + 1 := by unfold wrap64; omega
    have hdr : l.drop i.toNat = rd l i :: l.drop (i + 1).toNat := by
      rw [show (i + 1).toNat = i.toNat + 1 from by omega, List.drop_eq_getElem_cons (show i.toNat < l.length by omega)]
      simp [rd, show i.toNat < l.length by omega]
    simp only [spec_l1Ok.l0]
    rw [if_pos hlt, if_pos h0, hdr]
    have hb : spec_l6In.f (rd l i) 0 255 = some (isB (rd l i)) := by
      unfold spec_l6In.f isB
      by_cases h : rd l i ≥ 0
      · rw [if_pos h]; simp [h]
      · rw [if_neg h]; simp [h]
    rw [hb]
    simp only [Option.bind_some, List.all_cons]
    cases hq : isB (rd l i) with
    | true => rw [if_pos rfl, hw, ih k (i + 1) (by omega) (by omega) (by omega) (by omega)]; simp
    | false => simp
theorem l1Ok_eq (l : List Int) (hl : l.length ≤ 9223372036854775806) (k : Nat) (hk : l.length < k) : spec_l1Ok.f k l = some (l.all isB) := by
  unfold spec_l1Ok.f
  rw [l1Ok_l0 l hl l.length k 0 (by omega) (by omega) (by omega) hk]
  simp
end Go.Proofs.YtlijpnglocgldaaDoor
