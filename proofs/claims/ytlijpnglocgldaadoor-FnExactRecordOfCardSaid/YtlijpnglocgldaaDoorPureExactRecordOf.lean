/- The law FnExactRecordOf over texts: with enough rounds it answers true. -/
import Derived.Test.YtlijpnglocgldaaDoorLineS
import Derived.Test.YtlijpnglocgldaaDoorEqRec
import Derived.Test.YtlijpnglocgldaaDoorQ9
set_option linter.unusedVariables false
set_option linter.unusedSimpArgs false
namespace Go.Proofs.YtlijpnglocgldaaDoor
open Go.RowKit Go.Proofs.YtlijpnglocgldaaDoorW.PrintWords Go.Proofs.YtlijpnglocgldaaDoorW.PrintLast Go.Proofs.YtlijpnglocgldaaDoor.P

def seqL : Int → Nat → List Int
  | _, 0 => []
  | a, n + 1 => a :: seqL (a + 1) n
theorem seqL_len (n : Nat) : ∀ a, (seqL a n).length = n := by
  induction n with
  | zero => intro a; rfl
  | succ n ih => intro a; show (seqL (a + 1) n).length + 1 = _; rw [ih]
theorem set_mid (p : List Int) (b a : Int) (r : List Int) : (p ++ b :: r).set p.length a = p ++ a :: r := by
  induction p with
  | nil => rfl
  | cons x p ih => show x :: (p ++ b :: r).set p.length a = _; rw [ih]; rfl
theorem get_mid (p : List Int) (b : Int) (r : List Int) : rd (p ++ b :: r) (p.length : Int) = b := by
  simp [rd]
theorem mark_l0 (r : List Int) : ∀ (k : Nat) (p : List Int) (a : Int), r.length < k → p.length + r.length ≤ 1099511627776 → 0 ≤ a → a + r.length ≤ 1099511627776 →
    laws_markIntS.l0 k (p ++ r) a (p.length : Int) = some (a + r.length, p ++ seqL a r.length) := by
  induction r with
  | nil =>
    intro k p a hk hp h0 h1
    obtain ⟨k, rfl⟩ : ∃ m, k = m + 1 := ⟨k - 1, by omega⟩
    simp only [laws_markIntS.l0]
    rw [if_neg (by simp)]
    simp [seqL]
  | cons b r ih =>
    intro k p a hk hp h0 h1
    obtain ⟨k, rfl⟩ : ∃ m, k = m + 1 := ⟨k - 1, by omega⟩
    simp only [List.length_cons] at hk hp h1
    have IH := ih k (p ++ [a]) (a + 1) (by omega) (by simp; omega) (by omega) (by omega)
    have e1 : wrap64 (a + 1) = a + 1 := by unfold wrap64; omega
    have e2 : wrap64 ((p.length : Int) + 1) = (((p ++ [a]).length : Nat) : Int) := by simp; unfold wrap64; omega
    simp only [laws_markIntS.l0]
    rw [if_pos (by simp only [List.length_append, List.length_cons]; omega), if_pos (by omega), Int.toNat_natCast, set_mid, e1, e2, show p ++ a :: r = (p ++ [a]) ++ r from by simp, IH]
    simp only [List.append_assoc, List.singleton_append, seqL, List.length_cons]
    congr 2
    omega
theorem held_l0 (n : Nat) : ∀ (k : Nat) (p : List Int) (a : Int), n < k → p.length + n ≤ 1099511627776 → 0 ≤ a → a + n ≤ 1099511627776 →
    laws_heldIntS.l0 k (p ++ seqL a n) a (p.length : Int) = some (a + n) := by
  induction n with
  | zero =>
    intro k p a hk hp h0 h1
    obtain ⟨k, rfl⟩ : ∃ m, k = m + 1 := ⟨k - 1, by omega⟩
    simp only [laws_heldIntS.l0]
    rw [if_neg (by simp [seqL])]
    simp
  | succ n ih =>
    intro k p a hk hp h0 h1
    obtain ⟨k, rfl⟩ : ∃ m, k = m + 1 := ⟨k - 1, by omega⟩
    have IH := ih k (p ++ [a]) (a + 1) (by omega) (by simp; omega) (by omega) (by omega)
    have e1 : wrap64 (a + 1) = a + 1 := by unfold wrap64; omega
    have e2 : wrap64 ((p.length : Int) + 1) = (((p ++ [a]).length : Nat) : Int) := by simp; unfold wrap64; omega
    rw [show seqL a (n + 1) = a :: seqL (a + 1) n from rfl]
    simp only [laws_heldIntS.l0]
    rw [if_pos (by simp only [List.length_append, List.length_cons]; omega), if_pos (by omega), get_mid, if_pos rfl, e1, e2, show p ++ a :: seqL (a + 1) n = (p ++ [a]) ++ seqL (a + 1) n from by simp, IH]
    congr 1
    omega
theorem mark_eq (l : List Int) (a : Int) (k : Nat) (hk : l.length < k) (hl : l.length ≤ 1000) (h0 : 0 ≤ a) (h1 : a ≤ 1000) : laws_markIntS.f k l a = some (a + l.length, seqL a l.length) := by
  have := mark_l0 l k [] a hk (by simp; omega) h0 (by omega)
  exact this
theorem held_eq (n : Nat) (a : Int) (k : Nat) (hk : n < k) (hl : n ≤ 1000) (h0 : 0 ≤ a) (h1 : a ≤ 1000) : laws_heldIntS.f k (seqL a n) a = some (a + n) := by
  have := held_l0 n k [] a hk (by simp; omega) h0 (by omega)
  exact this
theorem markRec_eq (o t : Int) (hk : Bool) (kk : List Int) (hv : Bool) (v : List Int) (h1 : kk.length ≤ 12) (h2 : v.length ≤ 12) (k : Nat) (hk' : 100 ≤ k) :
    laws_markRecord.f k o t hk kk hv v 1 = some ((1 : Int) + (kk.length : Int) + (v.length : Int), seqL 1 kk.length, seqL (1 + (kk.length : Int)) v.length) := by
  unfold laws_markRecord.f
  rw [mark_eq kk 1 k (by omega) (by omega) (by omega) (by omega), Option.bind_some, mark_eq v (1 + kk.length) k (by omega) (by omega) (by omega) (by omega)]
  rfl
theorem heldRec_eq (o t : Int) (hk : Bool) (n : Nat) (hv : Bool) (m : Nat) (h1 : n ≤ 12) (h2 : m ≤ 12) (k : Nat) (hk' : 100 ≤ k) :
    laws_heldRecord.f k o t hk (seqL 1 n) hv (seqL (1 + (n : Int)) m) 1 = some ((1 : Int) + (n : Int) + (m : Int)) := by
  unfold laws_heldRecord.f
  rw [held_eq n 1 k (by omega) (by omega) (by omega) (by omega), Option.bind_some, if_neg (by omega), held_eq m (1 + n) k (by omega) (by omega) (by omega) (by omega), Option.bind_some, if_neg (by omega)]
theorem ofJ1_eq (k : Nat) (m : Int) (b : Bool) (o t : Int) (hk : Bool) (kk : List Int) (hv : Bool) (v : List Int) : laws_FnExactRecordOf.j1 (k + 1) m b o t hk kk hv v = if b = true then (some false) else ((laws_heldRecord.f k o t hk kk hv v 1).bind fun t304 => (if t304 < 0 then (some false) else (if t304 = m then (some true) else (some false)))) := by
  simp only [laws_FnExactRecordOf.j1]
theorem ofJ0_eq (k : Nat) (x0 : ByteArray) (x4 b : Bool) (p0 p1 : Int) (p2 : Bool) (p3 : List Int) (p4 : Bool) (p5 : List Int) (y0 y1 : Int) (y2 : Bool) (y3 : List Int) (y4 : Bool) (y5 : List Int) :
    laws_FnExactRecordOf.j0 (k + 1) x0 x4 b p0 p1 p2 p3 p4 p5 y0 y1 y2 y3 y4 y5 = if b = true then (some false) else ((laws_markRecord.f k y0 y1 y2 y3 y4 y5 1).bind fun bt287 => ((laws_heldRecord.f k y0 y1 y2 bt287.2.1 y4 bt287.2.2 1).bind fun t290 => (if t290 < 0 then (some false) else (if t290 = bt287.1 then ((impl_RecordOf.f k x0).bind fun bt291 => ((laws_eqRecord.f k bt291.1 bt291.2.1 bt291.2.2.1 bt291.2.2.2.1 bt291.2.2.2.2.1 bt291.2.2.2.2.2.1 p0 p1 p2 p3 p4 p5).bind fun t303 => (if t303 = true then (laws_FnExactRecordOf.j1 k bt287.1 (bt291.2.2.2.2.2.2 != x4) y0 y1 y2 bt287.2.1 y4 bt287.2.2) else (laws_FnExactRecordOf.j1 k bt287.1 true y0 y1 y2 bt287.2.1 y4 bt287.2.2)))) else (some false))))) := by
  simp only [laws_FnExactRecordOf.j0]
/-- The law, over texts. -/
theorem pureExactRecordOf (s : ByteArray) : laws_FnExactRecordOf.f 2000000 s = some true := by
  unfold laws_FnExactRecordOf.f
  by_cases h : s.size > 1048576
  · rw [if_pos (by omega)]
  · rw [if_neg (by omega), spec_RecordOf_eq s (by omega) _ (by omega), impl_RecordOf_eq s (by omega) _ (by omega)]
    have hn := impl_RecordOf_eq s (by omega) 1999999 (by omega)
    have hlen : (lineRes s).2.2.2.1.length ≤ 12 ∧ (lineRes s).2.2.2.2.2.1.length ≤ 12 := lineRes_len s
    revert hn hlen
    generalize lineRes s = r
    obtain ⟨o, t, hk, kk, hv, v, fl⟩ := r
    rintro hn ⟨l1, l2⟩
    simp only at l1 l2
    have hj0 := ofJ0_eq 1999999
    have hj1 := ofJ1_eq 1999998
    simp only [Option.bind_some]
    rw [eqRecord_refl _ _ _ _ _ _ (by omega) (by omega) _ (by omega) (by omega), Option.bind_some, if_pos rfl, hj0, hn, bne_self_eq_false, if_neg (by decide)]
    rw [markRec_eq _ _ _ _ _ _ l1 l2 _ (by omega)]
    simp only [Option.bind_some]
    rw [heldRec_eq _ _ _ _ _ _ l1 l2 _ (by omega)]
    simp only [Option.bind_some]
    rw [if_neg (by omega), if_pos trivial, eqRecord_refl _ _ _ _ _ _ (by omega) (by omega) _ (by omega) (by omega), Option.bind_some, if_pos rfl, bne_self_eq_false, hj1, if_neg (by decide), heldRec_eq _ _ _ _ _ _ l1 l2 _ (by omega)]
    simp only [Option.bind_some]
    rw [if_neg (by omega), if_pos trivial]
end Go.Proofs.YtlijpnglocgldaaDoor
