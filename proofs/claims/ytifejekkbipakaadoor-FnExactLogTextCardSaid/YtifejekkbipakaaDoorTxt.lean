/- The line of a record: the program's functions, walked. -/
import Derived.Test.YtifejekkbipakaaDoorVal
import Derived.Test.YtifejekkbipakaaDoorHexP
import Derived.Test.YtifejekkbipakaaDoorShelf
import Derived.Test.YtifejekkbipakaaDoorGok
import Derived.Lib.AppendIntMem
import Derived.Lib.ItoaNum
import Derived.Deep.RegionHeld3
set_option linter.unusedVariables false
set_option linter.unusedSimpArgs false
namespace Go.Proofs.YtifejekkbipakaaDoor
open Go.RowKit Go.Proofs.YtifejekkbipakaaDoorW.PrintWords Go.Proofs.YtifejekkbipakaaDoorW.PrintLast

def partStr (has : Bool) (l : List Int) : List UInt8 := if has then 120 :: hexText l else [45]
def recText (x : Rec) : List UInt8 := Lib.decDigits x.o.toNat ++ [32] ++ Lib.decDigits x.t.toNat ++ [32] ++ partStr x.hk x.k ++ [32] ++ partStr x.hv x.v
/-- The parts of a valid record. -/
structure RecGood (x : Rec) : Prop where
  o0 : 0 ≤ x.o
  o1 : x.o ≤ 99999
  t0 : 0 ≤ x.t
  t1 : x.t ≤ 99999
  k : partOk x.hk x.k = true
  v : partOk x.hv x.v = true
theorem recOk_good {x : Rec} (h : recOk x = true) : RecGood x := by
  simp only [recOk, inR, Bool.and_eq_true, decide_eq_true_eq] at h
  exact ⟨h.1.1.1, h.1.1.2, h.1.2.1, h.1.2.2, h.2.1, h.2.2⟩
theorem partOk_len {has : Bool} {l : List Int} (h : partOk has l = true) : l.length ≤ 12 ∧ allB l = true := by
  unfold partOk at h
  cases has with
  | true => simp only [if_true, Bool.and_eq_true, decide_eq_true_eq] at h; exact h
  | false =>
    have h0 : l.length = 0 := by simpa using h
    rw [List.eq_nil_of_length_eq_zero h0]
    exact ⟨by simp, rfl⟩
theorem partStr_len (has : Bool) (l : List Int) (h : l.length ≤ 12) : (partStr has l).length ≤ 25 := by
  unfold partStr
  cases has with
  | true => rw [if_pos rfl]; simp [hexText_length]; omega
  | false => simp
theorem decDigits_lt (u : Nat) (h : u < 10) : Lib.decDigits u = [UInt8.ofNat (48 + u)] := by
  rw [Lib.decDigits]
  simp [h]
theorem decDigits_ge (u : Nat) (h : ¬ u < 10) : Lib.decDigits u = Lib.decDigits (u / 10) ++ [UInt8.ofNat (48 + u % 10)] := by
  rw [Lib.decDigits]
  simp [h]
theorem decDigits_len (u : Nat) : ∀ d, u < 10 ^ d → 0 < d → (Lib.decDigits u).length ≤ d := by
  induction u using Nat.strongRecOn with
  | _ u ih =>
    intro d hd h0
    by_cases h : u < 10
    · rw [decDigits_lt u h]; simp; omega
    · rw [decDigits_ge u h]
      obtain ⟨d, rfl⟩ : ∃ m, d = m + 1 := ⟨d - 1, by omega⟩
      have hp : 0 < d := by
        rcases d with _ | d
        · simp at hd; omega
        · omega
      have := ih (u / 10) (by omega) d (by rw [Nat.pow_succ] at hd; omega) hp
      simp; omega
theorem recText_len {x : Rec} (h : RecGood x) : (recText x).length ≤ 63 := by
  have a := decDigits_len x.o.toNat 5 (by have := h.o1; omega) (by omega)
  have b := decDigits_len x.t.toNat 5 (by have := h.t1; omega) (by omega)
  have c := partStr_len x.hk x.k (partOk_len h.k).1
  have d := partStr_len x.hv x.v (partOk_len h.v).1
  simp only [recText, List.length_append, List.length_singleton]
  omega
/-- A string as a value. -/
def strV (l : List UInt8) : Value := .string ⟨l.toArray⟩
theorem itoa_i (n : Int) (h0 : 0 ≤ n) (h1 : n ≤ 99999) (w : World) (hG : GOKT w) : Calls Tryd.prog 45 #[.int .i64 n] w (RB (strV (Lib.decDigits n.toNat)) w) := by
  refine (Tryd.strconv_Itoa n (by omega) (by omega) w hG).mono ?_
  rintro e w' ⟨rfl, k, os, rfl⟩
  refine ⟨?_, Lib.below_grow _ _ (Nat.le_refl _) _ _⟩
  unfold Lib.itoa strV
  rw [if_neg (by omega)]

theorem hex_index_nat (W : World) : ∀ n : Nat, n < 16 → (Instr.index 9 (.string ⟨#[48, 49, 50, 51, 52, 53, 54, 55, 56, 57, 97, 98, 99, 100, 101, 102]⟩) (.int .i64 (n : Int))).run Tryd.prog W = .ok (.int .u8 (hexDigit (n : Int)).toNat) W
  | 0, _ => by kernel_rfl
  | 1, _ => by kernel_rfl
  | 2, _ => by kernel_rfl
  | 3, _ => by kernel_rfl
  | 4, _ => by kernel_rfl
  | 5, _ => by kernel_rfl
  | 6, _ => by kernel_rfl
  | 7, _ => by kernel_rfl
  | 8, _ => by kernel_rfl
  | 9, _ => by kernel_rfl
  | 10, _ => by kernel_rfl
  | 11, _ => by kernel_rfl
  | 12, _ => by kernel_rfl
  | 13, _ => by kernel_rfl
  | 14, _ => by kernel_rfl
  | 15, _ => by kernel_rfl
  | n + 16, h => absurd h (by omega)
theorem hex_index (i : Int) (h0 : 0 ≤ i) (h1 : i ≤ 15) : ∀ W : World, (Instr.index 9 (.string ⟨#[48, 49, 50, 51, 52, 53, 54, 55, 56, 57, 97, 98, 99, 100, 101, 102]⟩) (.int .i64 i)).run Tryd.prog W = .ok (.int .u8 (hexDigit i).toNat) W := by
  intro W
  obtain ⟨n, rfl⟩ := Int.eq_ofNat_of_zero_le h0
  exact hex_index_nat W n (by omega)
theorem and15 (x : Int) (h0 : 0 ≤ x) (h1 : x ≤ 255) : bits .and .i64 x 15 = x % 16 :=
  bits_mask .i64 8 (by decide) (fun n a b => by rw [IntKind.wrap_i64]; omega) 4 (by decide) x h0 (by omega)
theorem wbyte (B b : Nat) (l : List UInt8) (c : UInt8) (w : World) (h : Lib.IsBuilderF 45 5 B b (Lib.byteCells l) w) (hlen : l.length + 1 ≤ 140737488355328) (hBw : B ≤ w.heap.size) :
    Calls Tryd.prog 20 #[.pointer (some ⟨b, 0, none⟩), .int .u8 c.toNat] w fun e w' => e = .returned .nilIface ∧ Lib.IsBuilderF 45 5 B b (Lib.byteCells (l ++ [c])) w' ∧ Below B w w' := by
  refine (Any.Builder_WriteByte_k Tryd.lays167 Tryd.Builder_Extra_167 B b (Lib.byteCells l) c.toNat w h (by rw [Lib.byteCells_length]; exact hlen) hBw).mono ?_
  rintro e w' ⟨rfl, h1, hb, _⟩
  refine ⟨rfl, ?_, hb⟩
  rw [Lib.byteCells_append]
  exact Or.inr h1
theorem bstring (B b : Nat) (l : List UInt8) (w : World) (h : Lib.IsBuilderF 45 5 B b (Lib.byteCells l) w) (hBw : B ≤ w.heap.size) :
    Calls Tryd.prog 21 #[.pointer (some ⟨b, 0, none⟩)] w fun e w' => e = .returned (.string ⟨l.toArray⟩) ∧ Below B w w' := by
  refine (Tryd.Builder_String_any_k B b l w h hBw).mono ?_
  rintro e w' ⟨rfl, _, hb, _⟩
  exact ⟨rfl, hb⟩
theorem allB_bounds {l : List Int} (h : allB l = true) (k : Nat) (hk : k < l.length) : 0 ≤ rd l k ∧ rd l k ≤ 255 := isB_bounds h k hk
set_option maxHeartbeats 4000000 in
set_option maxRecDepth 100000 in
theorem bytesText_i (A0 : Option Addr) (c0 : Nat) (l0 : List Int) (w : World) (hr0 : intK.C w A0 l0.length l0) (hok : allB l0 = true) (hlen : l0.length ≤ 1000000) :
    Calls Tryd.prog 59 #[.slice A0 l0.length c0] w (RB (strV (hexText l0)) w) := by
  have c1 := allBytes_i A0 c0 l0 w hr0
  rw [hok] at c1
  have C1 := Aside0.mk c1; clear c1
  have HB := Aside0.mk hok; clear hok
  have HR := Aside0.mk hr0; clear hr0
  go_enter Tryd.func59, Tryd.ntmps59
  go_wp2_with fail
  refine C1.out.mono ?_
  rintro e w1 ⟨rfl, rfl⟩
  go_wp2
  go_loopw [5, 11] (fun b i wr => ∃ k : Nat, k ≤ l0.length ∧ i = .int .i64 k ∧ Lib.IsBuilderF 45 5 w.heap.size w.heap.size (Lib.byteCells (hexText (l0.take k))) wr ∧ Below w.heap.size w wr) (fun _ i _ => l0.length - (intOf i).toNat)
  case atStart => exact ⟨0, by omega, rfl, Lib.IsBuilderF.of (Lib.fresh_isBuilder _ _ w), below_alloc (Below.refl _ _) _⟩
  case round =>
    obtain ⟨k, hk, rfl, hI, hbw⟩ := hrel
    have hsz := hbw.size
    by_cases hlt : k < l0.length
    · have hB := allB_bounds HB.out k hlt
      obtain ⟨ad, rfl, hc⟩ := Kd.at_int (Kd.C_below HR.out hbw) (k : Int) (by omega) (by omega)
      rw [Int.toNat_natCast] at hc
      have hband := and15 _ hB.1 hB.2
      have hi1 := hex_index (rd l0 k / 16) (by omega) (by omega)
      have hi2 := hex_index (rd l0 k % 16) (by omega) (by omega)
      have hl2 : (hexText (l0.take k)).length = 2 * k := by rw [hexText_length, List.length_take]; omega
      have hsn := Lib.hid (hexText_snoc l0 k hlt)
      have HL := Lib.hid hl2
      clear hl2
      go_wp2_with fail
      refine (wbyte _ _ _ _ _ hI (by have := HL.out; omega) hsz).mono ?_
      rintro e w1 ⟨rfl, hI1, hb1⟩
      have hbw1 := hbw.trans hb1
      go_wp2_with fail
      refine (wbyte _ _ _ _ _ hI1 (by have := HL.out; simp only [List.length_append, List.length_singleton]; omega) hbw1.size).mono ?_
      rintro e w2 ⟨rfl, hI2, hb2⟩
      have hbw2 := hbw1.trans hb2
      go_wp2
      go_roundw
      case rel =>
        refine ⟨k + 1, by omega, by go_num, ?_, hbw2⟩
        rw [hsn.out, hexByte]
        simpa using hI2
      case measure => simp [intOf]; omega
    · obtain rfl : k = l0.length := by omega
      rw [List.take_length] at hI
      go_wp2_with fail
      refine (bstring _ _ _ _ hI hsz).mono ?_
      rintro e w1 ⟨rfl, hb1⟩
      have hbw1 := hbw.trans hb1
      go_wp2
      go_ret
      exact ⟨rfl, hbw1⟩
theorem str_add (a b : List UInt8) (h : a.length + b.length ≤ 9223372036854775807) : ∀ W : World, (Op.stringOp .add ⟨a.toArray⟩ ⟨b.toArray⟩).run Tryd.prog W = .ok (.string ⟨(a ++ b).toArray⟩) W := by
  intro W
  rw [run_string_add_sum W ⟨a.toArray⟩ ⟨b.toArray⟩ (by show a.toArray.size + b.toArray.size ≤ _; simpa using h)]
  congr 2
set_option maxHeartbeats 2000000 in
theorem partText_i (has : Bool) (A0 : Option Addr) (c0 : Nat) (l : List Int) (w : World) (hr : intK.C w A0 l.length l) (hok : partOk has l = true) :
    Calls Tryd.prog 46 #[.bool has, .slice A0 l.length c0] w (RB (strV (partStr has l)) w) := by
  have hl := partOk_len hok
  have C1 := Aside0.mk (bytesText_i A0 c0 l w hr hl.2 (by omega))
  have ha := str_add [120] (hexText l) (by rw [hexText_length]; simp; omega)
  clear hok hr
  unfold partStr
  unfold strV at C1 ⊢
  generalize hexText l = t at *
  cases has
  · go_enter Tryd.func46, Tryd.ntmps46
    go_wp2
    go_ret
    exact ⟨rfl, Below.refl _ _⟩
  · go_enter Tryd.func46, Tryd.ntmps46
    go_wp2_with fail
    refine C1.out.mono ?_
    rintro e w1 ⟨rfl, hb⟩
    go_wp2
    go_ret
    exact ⟨rfl, hb⟩
end Go.Proofs.YtifejekkbipakaaDoor
