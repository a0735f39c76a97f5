/- A record is the same as itself, by the laws' other comparison. -/
import Derived.Test.YtlijpnglocgldaaDoorQ1
set_option linter.unusedVariables false
set_option linter.unusedSimpArgs false
namespace Go.Proofs.YtlijpnglocgldaaDoor
open Go.RowKit Go.Proofs.YtlijpnglocgldaaDoorW.PrintWords Go.Proofs.YtlijpnglocgldaaDoorW.PrintLast Go.Proofs.YtlijpnglocgldaaDoor.P

theorem sameInts_l0 (l : List Int) (hl : l.length ≤ 9223372036854775806) (d : Nat) : ∀ (k : Nat) (i : Int), 0 ≤ i → i ≤ l.length → (l.length : Int) - i = d → d < k → laws_sameInts.l0 k l l i = some true := by
  induction d with
  | zero =>
    intro k i h0 h1 hd hk
    obtain ⟨k, rfl⟩ : ∃ m, k = m + 1 := ⟨k - 1, by omega⟩
    simp only [laws_sameInts.l0]
    rw [if_neg (by omega)]
  | succ d ih =>
    intro k i h0 h1 hd hk
    obtain ⟨k, rfl⟩ : ∃ m, k = m + 1 := ⟨k - 1, by omega⟩
    have hw : wrap64 (i + 1) = i + 1 := by unfold wrap64; omega
    simp only [laws_sameInts.l0]
    rw [if_pos (by omega), if_pos h0, if_pos (by omega), if_pos trivial, hw]
    exact ih k (i + 1) (by omega) (by omega) (by omega) (by omega)
theorem sameInts_refl (l : List Int) (hl : l.length ≤ 9223372036854775806) (k : Nat) (hk : l.length < k) : laws_sameInts.f k l l = some true := by
  unfold laws_sameInts.f
  rw [if_pos rfl]
  exact sameInts_l0 l hl l.length k 0 (by omega) (by omega) (by omega) hk
theorem sameRecord_refl (o t : Int) (hk : Bool) (kk : List Int) (hv : Bool) (v : List Int) (h1 : kk.length ≤ 9223372036854775806) (h2 : v.length ≤ 9223372036854775806) (k : Nat) (hk1 : kk.length < k) (hk2 : v.length < k) :
    laws_sameRecord.f k o t hk kk hv v o t hk kk hv v = some true := by
  unfold laws_sameRecord.f
  rw [if_pos rfl, if_pos rfl, if_pos (by simp), if_pos (by simp), sameInts_refl kk h1 k hk1, Option.bind_some, if_pos rfl, sameInts_refl v h2 k hk2]
  rfl
end Go.Proofs.YtlijpnglocgldaaDoor
