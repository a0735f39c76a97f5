/- When a record, a batch, a log is valid: the program's functions, walked. -/
import Derived.Test.YtifejekkbipakaaDoorKd
set_option linter.unusedVariables false
set_option linter.unusedSimpArgs false
namespace Go.Proofs.YtifejekkbipakaaDoor
open Go.RowKit Go.Proofs.YtifejekkbipakaaDoorW.PrintWords Go.Proofs.YtifejekkbipakaaDoorW.PrintLast

def inR (n lo hi : Int) : Bool := decide (lo ≤ n) && decide (n ≤ hi)
def allB (l : List Int) : Bool := l.all (fun n => inR n 0 255)
def partOk (has : Bool) (l : List Int) : Bool := if has then decide (l.length ≤ 12) && allB l else l.length == 0
def recOk (x : Rec) : Bool := (inR x.o 0 99999 && inR x.t 0 99999) && (partOk x.hk x.k && partOk x.hv x.v)
def goodR (rs : List Rec) (i : Nat) : Bool := recOk (rdR rs i) && (i == 0 || decide ((rdR rs (i - 1)).o < (rdR rs i).o))
def recsOk (rs : List Rec) : Bool := (List.range rs.length).all (goodR rs)
def prodOk (b : Bat) : Bool := if b.pr == 255 then !(b.ep != 0 || b.sq != 0 || b.mrk) else inR b.pr 0 254 && (inR b.ep 0 99 && inR b.sq 0 9999)
def lenOk (b : Bat) : Bool := inR b.rs.length 1 6 && !(b.mrk && (b.rs.length : Int) != 1)
def batOk (b : Bat) : Bool := prodOk b && (lenOk b && recsOk b.rs)
def lastO (b : Bat) : Int := (rdR b.rs (b.rs.length - 1)).o
def firstO (b : Bat) : Int := (rdR b.rs 0).o
def goodB (l : List Bat) (i : Nat) : Bool := batOk (rdB l i) && (i == 0 || decide (lastO (rdB l (i - 1)) < firstO (rdB l i)))
def logOk (l : List Bat) : Bool := decide (l.length ≤ 8) && (List.range l.length).all (goodB l)

theorem within_i (n lo hi : Int) (w : World) : Calls Tryd.prog 53 #[.int .i64 n, .int .i64 lo, .int .i64 hi] w (RS (.bool (inR n lo hi)) w) := by
  unfold inR
  cases h1 : decide (lo ≤ n)
  · go_enter Tryd.func53, Tryd.ntmps53
    go_wp2
    go_ret
    exact ⟨rfl, rfl⟩
  · go_enter Tryd.func53, Tryd.ntmps53
    go_wp2
    go_ret
    exact ⟨rfl, rfl⟩
theorem isByte_i (n : Int) (w : World) : Calls Tryd.prog 66 #[.int .i64 n] w (RS (.bool (inR n 0 255)) w) := by
  unfold inR
  cases h1 : decide (0 ≤ n)
  · go_enter Tryd.func66, Tryd.ntmps66
    go_wp2
    go_ret
    exact ⟨rfl, rfl⟩
  · go_enter Tryd.func66, Tryd.ntmps66
    go_wp2
    go_ret
    exact ⟨rfl, rfl⟩
theorem idValid_i (n : Int) (w : World) : Calls Tryd.prog 52 #[.int .i64 n] w (RS (.bool (inR n 0 254)) w) := by
  have C1 := Lib.hid (within_i n 0 254)
  go_enter Tryd.func52, Tryd.ntmps52
  go_wp2_with fail
  refine (C1.out _).mono ?_
  rintro e w1 ⟨rfl, rfl⟩
  go_wp2
  go_ret
  exact ⟨rfl, rfl⟩
theorem baseValid_i (o t : Int) (w : World) : Calls Tryd.prog 43 #[.int .i64 o, .int .i64 t] w (RS (.bool (inR o 0 99999 && inR t 0 99999)) w) := by
  have c1 := within_i o 0 99999
  have c2 := within_i t 0 99999
  generalize inR o 0 99999 = b1 at c1 ⊢
  generalize inR t 0 99999 = b2 at c2 ⊢
  have C1 := Lib.hid c1; clear c1
  have C2 := Lib.hid c2; clear c2
  cases b1
  · go_enter Tryd.func43, Tryd.ntmps43
    go_wp2_with fail
    refine (C1.out _).mono ?_
    rintro e w1 ⟨rfl, rfl⟩
    go_wp2
    go_ret
    exact ⟨rfl, rfl⟩
  · go_enter Tryd.func43, Tryd.ntmps43
    go_wp2_with fail
    refine (C1.out _).mono ?_
    rintro e w1 ⟨rfl, rfl⟩
    go_wp2_with fail
    refine (C2.out _).mono ?_
    rintro e w2 ⟨rfl, rfl⟩
    go_wp2
    go_ret
    exact ⟨rfl, rfl⟩
theorem all_take {α : Type} (p : α → Bool) (l : List α) (d : α) (k : Nat) (hk : k < l.length) : (l.take (k + 1)).all p = ((l.take k).all p && p (l.getD k d)) := by
  rw [List.take_succ_eq_append_getElem hk, List.all_append]
  simp [List.getD_eq_getElem?_getD, hk]
theorem all_false {α : Type} {p : α → Bool} {l : List α} (d : α) {k : Nat} (hk : k < l.length) (h : p (l.getD k d) = false) : l.all p = false := by
  rw [List.all_eq_false]
  exact ⟨l[k], List.getElem_mem hk, by simpa [List.getD_eq_getElem?_getD, hk] using h⟩
theorem range_succ {p : Nat → Bool} {k : Nat} (h : (List.range k).all p = true) (hk : p k = true) : (List.range (k + 1)).all p = true := by
  rw [List.range_succ, List.all_append, h]
  simp [hk]
theorem range_false {p : Nat → Bool} {n k : Nat} (hk : k < n) (h : p k = false) : (List.range n).all p = false := by
  rw [List.all_eq_false]
  exact ⟨k, List.mem_range.2 hk, by simp [h]⟩
set_option maxHeartbeats 2000000 in
theorem allBytes_i (A0 : Option Addr) (c0 : Nat) (l : List Int) (w : World) (hr : intK.C w A0 l.length l) : Calls Tryd.prog 57 #[.slice A0 l.length c0] w (RS (.bool (allB l)) w) := by
  have hm := hr.2.1
  have HR := Lib.hid hr
  clear hr
  go_enter Tryd.func57, Tryd.ntmps57
  go_wp2
  go_loop [7] (fun i => ∃ k : Nat, k ≤ l.length ∧ i = .int .i64 k ∧ Hid ((l.take k).all (fun n => inR n 0 255) = true)) (fun i => l.length - (intOf i).toNat)
  case atStart => exact ⟨0, by omega, rfl, rfl⟩
  case round =>
    obtain ⟨k, hk, rfl, HT⟩ := hrel
    by_cases hlt : k < l.length
    · obtain ⟨ad, rfl, hc⟩ := Kd.at_int HR.out (k : Int) (by omega) (by omega)
      rw [Int.toNat_natCast] at hc
      have c1 := isByte_i (rd l k)
      have hT := all_take (fun n => inR n 0 255) l 0 k hlt
      have hF := all_false (p := fun n => inR n 0 255) (l := l) 0 hlt
      rw [show l.getD k 0 = rd l k from rfl] at hT hF
      generalize inR (rd l k) 0 255 = b1 at c1 hT hF
      have C1 := Lib.hid c1; clear c1
      cases b1
      · have F := Lib.hid (hF rfl); clear hF hT
        go_wp2_with fail
        refine (C1.out _).mono ?_
        rintro e w1 ⟨rfl, rfl⟩
        go_wp2
        go_ret
        exact ⟨by rw [allB, F.out]; rfl, rfl⟩
      · have T := Lib.hid hT; clear hT hF
        go_wp2_with fail
        refine (C1.out _).mono ?_
        rintro e w1 ⟨rfl, rfl⟩
        go_wp2
        go_round
        case rel => exact ⟨k + 1, by omega, by go_num, (T.out.trans (by rw [HT.out]; rfl) : _)⟩
        case measure => simp [intOf]; omega
    · obtain rfl : k = l.length := by omega
      rw [List.take_length] at HT
      go_wp2
      go_ret
      exact ⟨by rw [allB, HT.out]; rfl, rfl⟩
theorem partValid_i (has : Bool) (A0 : Option Addr) (c0 : Nat) (l : List Int) (w : World) (hr : intK.C w A0 l.length l) : Calls Tryd.prog 44 #[.bool has, .slice A0 l.length c0] w (RS (.bool (partOk has l)) w) := by
  have hm := hr.2.1
  have C1 := Lib.hid (allBytes_i A0 c0 l w hr)
  clear hr
  unfold partOk
  cases has
  · go_enter Tryd.func44, Tryd.ntmps44
    go_wp2
    go_ret
    exact ⟨ret_bool (by rw [Bool.eq_iff_iff]; simp), rfl⟩
  · by_cases h : l.length ≤ 12
    · have h1 : decide ((l.length : Int) ≤ 12) = true := decide_eq_true (by omega)
      have h2 := decide_eq_true h
      clear h
      go_enter Tryd.func44, Tryd.ntmps44
      go_wp2_with fail
      refine C1.out.mono ?_
      rintro e w1 ⟨rfl, rfl⟩
      go_wp2
      go_ret
      exact ⟨by simp [h2], rfl⟩
    · have h1 : decide ((l.length : Int) ≤ 12) = false := decide_eq_false (by omega)
      have h2 := decide_eq_false h
      clear h
      go_enter Tryd.func44, Tryd.ntmps44
      go_wp2
      go_ret
      exact ⟨by simp [h2], rfl⟩
set_option maxHeartbeats 2000000 in
theorem recValid_i (x : Rec) (A3 : Option Addr) (c3 : Nat) (A5 : Option Addr) (c5 : Nat) (w : World) (h : RecIn w x A3 c3 A5 c5) :
    Calls Tryd.prog 25 #[.agg #[.int .i64 x.o, .int .i64 x.t, .bool x.hk, .slice A3 x.k.length c3, .bool x.hv, .slice A5 x.v.length c5]] w (RB (.bool (recOk x)) w) := by
  have c1 := baseValid_i x.o x.t
  have hw := fun cs t => below_alloc (Below.refl w.heap.size w) (.cells cs t)
  have c2 := fun cs t => partValid_i x.hk A3 c3 x.k _ (Kd.C_below h.g3 (hw cs t))
  have c3' := fun cs t => partValid_i x.hv A5 c5 x.v _ (Kd.C_below h.g5 (hw cs t))
  unfold recOk
  generalize (inR x.o 0 99999 && inR x.t 0 99999) = b1 at c1 ⊢
  generalize partOk x.hk x.k = b2 at c2 ⊢
  generalize partOk x.hv x.v = b3 at c3' ⊢
  have C1 := Lib.hid c1; clear c1
  have C2 := Lib.hid c2; clear c2
  have C3 := Lib.hid c3'; clear c3'
  have HW := Lib.hid hw; clear hw
  cases b1
  · go_enter Tryd.func25, Tryd.ntmps25
    go_wp2_with fail
    refine (C1.out _).mono ?_
    rintro e w1 ⟨rfl, rfl⟩
    go_wp2
    go_ret
    exact ⟨rfl, HW.out _ _⟩
  · cases b2
    · go_enter Tryd.func25, Tryd.ntmps25
      go_wp2_with fail
      refine (C1.out _).mono ?_
      rintro e w1 ⟨rfl, rfl⟩
      go_wp2_with fail
      refine (C2.out _ _).mono ?_
      rintro e w2 ⟨rfl, rfl⟩
      go_wp2
      go_ret
      exact ⟨rfl, HW.out _ _⟩
    · go_enter Tryd.func25, Tryd.ntmps25
      go_wp2_with fail
      refine (C1.out _).mono ?_
      rintro e w1 ⟨rfl, rfl⟩
      go_wp2_with fail
      refine (C2.out _ _).mono ?_
      rintro e w2 ⟨rfl, rfl⟩
      go_wp2_with fail
      refine (C3.out _ _).mono ?_
      rintro e w3 ⟨rfl, rfl⟩
      go_wp2
      go_ret
      exact ⟨rfl, HW.out _ _⟩
end Go.Proofs.YtifejekkbipakaaDoor
