/- Bytes in base 16, as plain Lean; no program in sight. -/
import Derived.Test.YtifejekkbipakaaDoorWWords
import Derived.Test.YtifejekkbipakaaDoorWLast
set_option linter.unusedVariables false
set_option linter.unusedSimpArgs false
namespace Go.Proofs.YtifejekkbipakaaDoor
open Go.RowKit Go.Proofs.YtifejekkbipakaaDoorW.PrintWords Go.Proofs.YtifejekkbipakaaDoorW.PrintLast

def hexDigit (i : Int) : UInt8 := ([48, 49, 50, 51, 52, 53, 54, 55, 56, 57, 97, 98, 99, 100, 101, 102] : List UInt8).getD i.toNat 0
def hexByte (b : Int) : List UInt8 := [hexDigit (b / 16), hexDigit (b % 16)]
def hexText (l : List Int) : List UInt8 := l.flatMap hexByte
def isB (b : Int) : Bool := decide (0 ≤ b) && decide (b ≤ 255)
theorem hexText_length (l : List Int) : (hexText l).length = 2 * l.length := by
  induction l with
  | nil => rfl
  | cons b l ih => simp only [hexText, List.flatMap_cons, List.length_append] at ih ⊢; rw [ih]; simp [hexByte]; omega
theorem hexText_snoc (l : List Int) (k : Nat) (hk : k < l.length) : hexText (l.take (k + 1)) = hexText (l.take k) ++ hexByte (rd l k) := by
  have e : l.take (k + 1) = l.take k ++ [rd l k] := by
    rw [List.take_succ_eq_append_getElem hk]
    simp [rd, hk]
  rw [e]
  simp [hexText]
theorem isB_bounds {l : List Int} (h : l.all isB = true) (k : Nat) (hk : k < l.length) : 0 ≤ rd l k ∧ rd l k ≤ 255 := by
  have := List.all_eq_true.1 h (l[k]) (List.getElem_mem hk)
  simp only [isB, Bool.and_eq_true, decide_eq_true_eq] at this
  simpa [rd, hk] using this

end Go.Proofs.YtifejekkbipakaaDoor
