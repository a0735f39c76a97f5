/- The law's own helpers: sizes, copies, comparisons, walked. -/
import Derived.Test.YtifejekkbipakaaDoorKd
import Derived.IntWalk
set_option linter.unusedVariables false
set_option linter.unusedSimpArgs false
namespace Go.Proofs.YtifejekkbipakaaDoor
open Go.RowKit Go.Proofs.YtifejekkbipakaaDoorW.PrintWords Go.Proofs.YtifejekkbipakaaDoorW.PrintLast

/-! sizes -/
def szv (W left : Nat) : Int := if W ≤ left then (left : Int) - W else -1
def recW (r : Rec) : Nat := r.k.length + r.v.length
def recsW (rs : List Rec) : Nat := rs.length + (rs.map recW).sum
theorem szv_yes {W left : Nat} (h : W ≤ left) : szv W left = ((left - W : Nat) : Int) := by rw [szv, if_pos h]; omega
theorem szv_no {W left : Nat} (h : left < W) : szv W left = -1 := by rw [szv, if_neg (by omega)]
theorem szIntS_l (A0 : Option Addr) (n c0 left : Nat) (hl : left ≤ 1048576) (hn : n ≤ 9223372036854775807) (w : World) : Calls Tryd.prog 69 #[.slice A0 n c0, .int .i64 left] w (RS (.int .i64 (szv n left)) w) := by
  have e : IntKind.i64.wrap ((left : Int) - n) = (left : Int) - n := by rw [IntKind.wrap_i64]; omega
  by_cases h : n ≤ left
  · have g1 : decide ((left : Int) - n < 0) = false := decide_eq_false (by omega)
    have e2 : szv n left = (left : Int) - n := by rw [szv, if_pos h]
    rw [e2]
    clear e2 h
    go_enter Tryd.func69, Tryd.ntmps69
    go_wp2
    go_ret
    exact ⟨rfl, rfl⟩
  · have g1 : decide ((left : Int) - n < 0) = true := decide_eq_true (by omega)
    rw [szv_no (by omega)]
    clear h
    go_enter Tryd.func69, Tryd.ntmps69
    go_wp2
    go_ret
    exact ⟨rfl, rfl⟩
theorem szRecord_l (x : Rec) (A3 : Option Addr) (c3 : Nat) (A5 : Option Addr) (c5 : Nat) (left : Nat) (hl : left ≤ 1048576) (w : World) (h : RecIn w x A3 c3 A5 c5) :
    Calls Tryd.prog 61 #[.agg #[.int .i64 x.o, .int .i64 x.t, .bool x.hk, .slice A3 x.k.length c3, .bool x.hv, .slice A5 x.v.length c5], .int .i64 left] w (RB (.int .i64 (szv (recW x) left)) w) := by
  have hk := h.g3.2.1
  have hv := h.g5.2.1
  clear h
  unfold recW
  generalize x.k.length = n at *
  generalize x.v.length = m at *
  have c1 := szIntS_l A3 n c3 left hl hk
  by_cases h1 : n ≤ left
  · have c2 := szIntS_l A5 m c5 (left - n) (by omega) hv
    rw [szv_yes h1] at c1
    obtain ⟨left', e'⟩ : ∃ left', left - n = left' := ⟨_, rfl⟩
    have e2 : szv (n + m) left = szv m left' := by unfold szv; split <;> split <;> omega
    rw [e'] at c1 c2
    rw [e2]
    have g1 : decide ((left' : Int) < 0) = false := decide_eq_false (by omega)
    by_cases h2 : m ≤ left'
    · rw [szv_yes h2] at c2 ⊢
      have g2 : decide (((left' - m : Nat) : Int) < 0) = false := decide_eq_false (by omega)
      generalize left' - m = left2 at *
      clear e' e2 h1 h2
      have C1 := Aside0.mk c1; clear c1
      have C2 := Aside0.mk c2; clear c2
      go_enter Tryd.func61, Tryd.ntmps61
      go_wp2_with fail
      refine (C1.out _).mono ?_
      rintro e w1 ⟨rfl, rfl⟩
      go_wp2_with fail
      refine (C2.out _).mono ?_
      rintro e w1 ⟨rfl, rfl⟩
      go_wp2
      go_ret
      exact ⟨rfl, below_alloc (Below.refl _ _) _⟩
    · rw [szv_no (by omega)] at c2 ⊢
      clear e' e2 h1 h2
      have C1 := Aside0.mk c1; clear c1
      have C2 := Aside0.mk c2; clear c2
      go_enter Tryd.func61, Tryd.ntmps61
      go_wp2_with fail
      refine (C1.out _).mono ?_
      rintro e w1 ⟨rfl, rfl⟩
      go_wp2_with fail
      refine (C2.out _).mono ?_
      rintro e w1 ⟨rfl, rfl⟩
      go_wp2
      go_ret
      exact ⟨rfl, below_alloc (Below.refl _ _) _⟩
  · rw [szv_no (by omega)] at c1 ⊢
    clear h1
    have C1 := Aside0.mk c1; clear c1
    go_enter Tryd.func61, Tryd.ntmps61
    go_wp2_with fail
    refine (C1.out _).mono ?_
    rintro e w1 ⟨rfl, rfl⟩
    go_wp2
    go_ret
    exact ⟨rfl, below_alloc (Below.refl _ _) _⟩
theorem sum_take {α : Type} (f : α → Nat) (l : List α) (d : α) {k : Nat} (hk : k < l.length) : ((l.take (k + 1)).map f).sum = ((l.take k).map f).sum + f (l.getD k d) := by
  rw [List.take_succ_eq_append_getElem hk, List.map_append, List.sum_append]
  simp [List.getD_eq_getElem?_getD, hk]
theorem sum_le {α : Type} (f : α → Nat) (l : List α) (k : Nat) : ((l.take k).map f).sum ≤ (l.map f).sum := by
  have h : (l.map f).sum = ((l.take k).map f).sum + ((l.drop k).map f).sum := by
    rw [← List.sum_append, ← List.map_append, List.take_append_drop]
  omega
set_option maxHeartbeats 4000000 in
theorem szRecordS_l (A0 : Option Addr) (c0 : Nat) (l : List Rec) (left : Nat) (hl : left ≤ 1048576) (w : World) (hC : recK.C w A0 l.length l) : Calls Tryd.prog 48 #[.slice A0 l.length c0, .int .i64 left] w (RB (.int .i64 (szv (l.length + (l.map recW).sum) left)) w) := by
  have hn := hC.2.1
  have HC := Aside0.mk hC; clear hC
  have e : IntKind.i64.wrap ((left : Int) - l.length) = (left : Int) - l.length := by rw [IntKind.wrap_i64]; omega
  by_cases h1 : l.length ≤ left
  · have g1 : decide ((left : Int) - l.length < 0) = false := decide_eq_false (by omega)
    have H1 := Aside0.mk h1; clear h1
    go_enter Tryd.func48, Tryd.ntmps48
    go_wp2
    clear e g1
    go_loopw [1, 5] (fun q i wr => ∃ k r : Nat, k ≤ l.length ∧ i = .int .i64 k ∧ q = .int .i64 (r : Int) ∧ Aside0 (l.length + ((l.take k).map recW).sum ≤ left ∧ r = left - (l.length + ((l.take k).map recW).sum)) ∧ Below w.heap.size w wr) (fun _ i _ => l.length - (intOf i).toNat)
    case atStart => exact ⟨0, left - l.length, by omega, rfl, congrArg (Value.int .i64) (by have := H1.out; omega), ⟨by simpa using H1.out, by simp⟩, Below.refl _ _⟩
    case round =>
      obtain ⟨k, r, hk, rfl, rfl, HS, hb⟩ := hrel
      have HB := Aside0.mk hb; clear hb
      have hr : r ≤ 1048576 := by have := HS.out.2; omega
      by_cases hlt : k < l.length
      · obtain ⟨ad, A3, c3, A6, c6, rfl, hR⟩ := rec_at (Kd.C_below HC.out HB.out) k hlt
        obtain ⟨h0, h1, h2, h3, h4, h5, -, -, -, -⟩ := id hR
        have c2 := szRecord_l (rdR l k) A3 c3 A6 c6 r hr wr hR.inn
        have hst := sum_take recW l zRec hlt
        have hle := sum_le recW l (k + 1)
        rw [show l.getD k zRec = rdR l k from rfl] at hst
        have HST := Aside0.mk (And.intro hst hle); clear hst hle
        by_cases h7 : recW (rdR l k) ≤ r
        · rw [szv_yes h7] at c2
          have g2 : decide (((r - recW (rdR l k) : Nat) : Int) < 0) = false := decide_eq_false (by omega)
          obtain ⟨r', er⟩ : ∃ r', r - recW (rdR l k) = r' := ⟨_, rfl⟩
          rw [er] at c2 g2
          have C2 := Aside0.mk c2; clear c2
          have ER := Aside0.mk (And.intro er h7); clear er h7
          clear hR
          go_wp2_with fail
          refine C2.out.mono ?_
          rintro e w2 ⟨rfl, hb2⟩
          go_wp2
          go_roundw
          case rel => exact ⟨k + 1, r', by omega, by go_num, rfl, ⟨by have := HS.out; have := HST.out; have := ER.out; omega, by have := HS.out; have := HST.out; have := ER.out; omega⟩, below_step HB.out hb2⟩
          case measure => simp [intOf]; omega
        · rw [szv_no (by omega)] at c2
          have C2 := Aside0.mk c2; clear c2
          have ER := Aside0.mk h7; clear h7
          clear hR
          go_wp2_with fail
          refine C2.out.mono ?_
          rintro e w2 ⟨rfl, hb2⟩
          go_wp2
          go_ret
          exact ⟨by rw [szv_no (by have := HS.out; have := HST.out; have := ER.out; omega)]; rfl, below_step HB.out hb2⟩
      · obtain rfl : k = l.length := by omega
        go_wp2
        go_ret
        exact ⟨by rw [szv_yes (by have := HS.out.1; rw [List.take_length] at this; exact this)]; have := HS.out.2; rw [List.take_length] at this; rw [← this]; rfl, HB.out⟩
  · have g1 : decide ((left : Int) - l.length < 0) = true := decide_eq_true (by omega)
    rw [szv_no (by omega)]
    clear h1
    go_enter Tryd.func48, Tryd.ntmps48
    go_wp2
    go_ret
    exact ⟨rfl, Below.refl _ _⟩
def batW (b : Bat) : Nat := recsW b.rs
theorem szBatch_l (x : Bat) (A5 : Option Addr) (c5 : Nat) (left : Nat) (hl : left ≤ 1048576) (w : World) (h : BatIn w x A5 c5) :
    Calls Tryd.prog 28 #[.agg #[.bool x.pk, .bool x.mrk, .int .i64 x.pr, .int .i64 x.ep, .int .i64 x.sq, .slice A5 x.rs.length c5], .int .i64 left] w (RB (.int .i64 (szv (batW x) left)) w) := by
  have c1 := fun W (hW : Below w.heap.size w W) => szRecordS_l A5 c5 x.rs left hl W (Kd.C_below h.g5 hW)
  unfold batW recsW
  clear h
  generalize x.rs.length + (x.rs.map recW).sum = n at *
  by_cases h1 : n ≤ left
  · rw [szv_yes h1] at c1 ⊢
    have g1 : decide (((left - n : Nat) : Int) < 0) = false := decide_eq_false (by omega)
    generalize left - n = m at *
    clear h1
    have C1 := Aside0.mk c1; clear c1
    go_enter Tryd.func28, Tryd.ntmps28
    go_wp2_with fail
    refine (C1.out _ (below_alloc (Below.refl _ _) _)).mono ?_
    rintro e w1 ⟨rfl, hb1⟩
    go_wp2
    go_ret
    exact ⟨rfl, below_step (below_alloc (Below.refl _ _) _) hb1⟩
  · rw [szv_no (by omega)] at c1 ⊢
    clear h1
    have C1 := Aside0.mk c1; clear c1
    go_enter Tryd.func28, Tryd.ntmps28
    go_wp2_with fail
    refine (C1.out _ (below_alloc (Below.refl _ _) _)).mono ?_
    rintro e w1 ⟨rfl, hb1⟩
    go_wp2
    go_ret
    exact ⟨rfl, below_step (below_alloc (Below.refl _ _) _) hb1⟩
set_option maxHeartbeats 4000000 in
theorem szBatchS_l (A0 : Option Addr) (c0 : Nat) (l : List Bat) (left : Nat) (hl : left ≤ 1048576) (w : World) (hC : batK.C w A0 l.length l) : Calls Tryd.prog 12 #[.slice A0 l.length c0, .int .i64 left] w (RB (.int .i64 (szv (l.length + (l.map batW).sum) left)) w) := by
  have hn := hC.2.1
  have HC := Aside0.mk hC; clear hC
  have e : IntKind.i64.wrap ((left : Int) - l.length) = (left : Int) - l.length := by rw [IntKind.wrap_i64]; omega
  by_cases h1 : l.length ≤ left
  · have g1 : decide ((left : Int) - l.length < 0) = false := decide_eq_false (by omega)
    have H1 := Aside0.mk h1; clear h1
    go_enter Tryd.func12, Tryd.ntmps12
    go_wp2
    clear e g1
    go_loopw [1, 5] (fun q i wr => ∃ k r : Nat, k ≤ l.length ∧ i = .int .i64 k ∧ q = .int .i64 (r : Int) ∧ Aside0 (l.length + ((l.take k).map batW).sum ≤ left ∧ r = left - (l.length + ((l.take k).map batW).sum)) ∧ Below w.heap.size w wr) (fun _ i _ => l.length - (intOf i).toNat)
    case atStart => exact ⟨0, left - l.length, by omega, rfl, congrArg (Value.int .i64) (by have := H1.out; omega), ⟨by simpa using H1.out, by simp⟩, Below.refl _ _⟩
    case round =>
      obtain ⟨k, r, hk, rfl, rfl, HS, hb⟩ := hrel
      have HB := Aside0.mk hb; clear hb
      have hr : r ≤ 1048576 := by have := HS.out.2; omega
      by_cases hlt : k < l.length
      · obtain ⟨ad, A6, c6, rfl, hR⟩ := bat_at (Kd.C_below HC.out HB.out) k hlt
        obtain ⟨h0, h1, h2, h3, h4, h5, -, -⟩ := id hR
        have c2 := szBatch_l (rdB l k) A6 c6 r hr wr hR.inn
        have hst := sum_take batW l zBat hlt
        have hle := sum_le batW l (k + 1)
        rw [show l.getD k zBat = rdB l k from rfl] at hst
        have HST := Aside0.mk (And.intro hst hle); clear hst hle
        by_cases h7 : batW (rdB l k) ≤ r
        · rw [szv_yes h7] at c2
          have g2 : decide (((r - batW (rdB l k) : Nat) : Int) < 0) = false := decide_eq_false (by omega)
          obtain ⟨r', er⟩ : ∃ r', r - batW (rdB l k) = r' := ⟨_, rfl⟩
          rw [er] at c2 g2
          have C2 := Aside0.mk c2; clear c2
          have ER := Aside0.mk (And.intro er h7); clear er h7
          clear hR
          go_wp2_with fail
          refine C2.out.mono ?_
          rintro e w2 ⟨rfl, hb2⟩
          go_wp2
          go_roundw
          case rel => exact ⟨k + 1, r', by omega, by go_num, rfl, ⟨by have := HS.out; have := HST.out; have := ER.out; omega, by have := HS.out; have := HST.out; have := ER.out; omega⟩, below_step HB.out hb2⟩
          case measure => simp [intOf]; omega
        · rw [szv_no (by omega)] at c2
          have C2 := Aside0.mk c2; clear c2
          have ER := Aside0.mk h7; clear h7
          clear hR
          go_wp2_with fail
          refine C2.out.mono ?_
          rintro e w2 ⟨rfl, hb2⟩
          go_wp2
          go_ret
          exact ⟨by rw [szv_no (by have := HS.out; have := HST.out; have := ER.out; omega)]; rfl, below_step HB.out hb2⟩
      · obtain rfl : k = l.length := by omega
        go_wp2
        go_ret
        exact ⟨by rw [szv_yes (by have := HS.out.1; rw [List.take_length] at this; exact this)]; have := HS.out.2; rw [List.take_length] at this; rw [← this]; rfl, HB.out⟩
  · have g1 : decide ((left : Int) - l.length < 0) = true := decide_eq_true (by omega)
    rw [szv_no (by omega)]
    clear h1
    go_enter Tryd.func12, Tryd.ntmps12
    go_wp2
    go_ret
    exact ⟨rfl, Below.refl _ _⟩
end Go.Proofs.YtifejekkbipakaaDoor
