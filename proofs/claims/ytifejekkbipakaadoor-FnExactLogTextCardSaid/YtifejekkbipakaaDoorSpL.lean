/- spec.LogText: the lines of all records, walked. -/
import Derived.Test.YtifejekkbipakaaDoorSpU
import Derived.Test.YtifejekkbipakaaDoorLogT
set_option linter.unusedVariables false
set_option linter.unusedSimpArgs false
namespace Go.Proofs.YtifejekkbipakaaDoor
open Go.RowKit Go.Proofs.YtifejekkbipakaaDoorW.PrintWords Go.Proofs.YtifejekkbipakaaDoorW.PrintLast

theorem ba_add (a b : List UInt8) : (⟨a.toArray⟩ : ByteArray) ++ ⟨b.toArray⟩ = ⟨(a ++ b).toArray⟩ := by
  apply ByteArray.ext
  simp
def recsText (rs : List Rec) : List UInt8 := rs.flatMap lineOf
theorem recsText_snoc {rs : List Rec} {m : Nat} (hm : m < rs.length) : recsText (rs.take (m + 1)) = recsText (rs.take m) ++ recText (rdR rs m) ++ [10] := by
  rw [rs_take hm, recsText, List.flatMap_append, List.flatMap_singleton, lineOf, ← List.append_assoc]
  rfl
theorem logText_snoc {l : List Bat} {k : Nat} (hk : k < l.length) : logText (l.take (k + 1)) = logText (l.take k) ++ recsText (rdB l k).rs := by
  rw [logText, pairs_take hk, List.flatMap_append, List.flatMap_map]
  rfl
theorem recsText_len {rs : List Rec} (h : ∀ r ∈ rs, recOk r = true) : (recsText rs).length ≤ 64 * rs.length := by
  induction rs with
  | nil => simp [recsText]
  | cons x rs ih =>
    have h1 := ih (fun r hr => h r (List.mem_cons_of_mem _ hr))
    have h2 := recText_len (recOk_good (h x List.mem_cons_self))
    rw [recsText] at h1 ⊢
    rw [List.flatMap_cons, List.length_append, List.length_cons, lineOf, List.length_append, List.length_singleton]
    omega
theorem logText_len {l : List Bat} (h : ∀ b ∈ l, batOk b = true) : (logText l).length ≤ 384 * l.length := by
  induction l with
  | nil => simp [logText, pairs]
  | cons b l ih =>
    have h1 := ih (fun r hr => h r (List.mem_cons_of_mem _ hr))
    have h3 := h b List.mem_cons_self
    have h2 := recsText_len (fun r hr => batOk_rec h3 hr)
    have h4 := (batOk_len h3).2
    have e : logText (b :: l) = recsText b.rs ++ logText l := by
      rw [logText, pairs, List.flatMap_cons, List.flatMap_append, List.flatMap_map]
      rfl
    rw [e, List.length_append, List.length_cons]
    omega
set_option maxRecDepth 100000 in
set_option maxHeartbeats 8000000 in
theorem logText_s (A0 : Option Addr) (c0 : Nat) (l : List Bat) (w : World) (h : batK.C w A0 l.length l) (hok : logOk l = true) :
    Calls Tryd.prog 8 #[.slice A0 l.length c0] w (RB (strV (logText l)) w) := by
  have hm := h.2.1
  have c1 := fun W (hW : Below w.heap.size w W) => logValid_s A0 c0 l W (Kd.C_below h hW)
  rw [hok] at c1
  have C1 := Aside0.mk c1; clear c1
  have HC := Aside0.mk h; clear h
  have HOK := Aside0.mk hok; clear hok
  unfold strV
  go_enter Tryd.func8, Tryd.ntmps8
  go_wp2
  go_loopw [3, 4] (fun o i wr => ∃ k : Nat, k ≤ l.length ∧ o = .string ⟨(logText (l.take k)).toArray⟩ ∧ i = .int .i64 k ∧ Below w.heap.size w wr) (fun _ i _ => l.length - (intOf i).toNat)
  case atStart => exact ⟨0, by omega, rfl, rfl, Below.refl _ _⟩
  case round =>
    obtain ⟨k, hk, rfl, rfl, hb⟩ := hrel
    have HB := Aside0.mk hb; clear hb
    by_cases hlt : k < l.length
    · obtain ⟨ad, A5, c5, rfl, hR⟩ := bat_at HC.out k hlt
      have hrm := hR.g5.2.1
      have hbk := logOk_bat HOK.out (b := rdB l k) (by simp [rdB, List.getD_eq_getElem?_getD, hlt])
      have hL1 : (logText (l.take k)).length ≤ 384 * k := by
        have := logText_len (l := l.take k) (fun b hb => logOk_bat HOK.out (List.mem_of_mem_take hb))
        rw [List.length_take] at this
        omega
      have hl8 := logOk_len HOK.out
      have h6 := (batOk_len hbk).2
      have HSN := Aside0.mk (logText_snoc hlt)
      have HBK := Aside0.mk hbk; clear hbk
      generalize logText (l.take k) = s0 at *
      go_wp2_with (go_at_call 9; refine (C1.out _ HB.out).mono ?_; rintro e w2 ⟨rfl, hb2⟩)
      have HB2 := Aside0.mk (below_step HB.out hb2); clear hb2
      obtain ⟨wo, rfl⟩ : ∃ wo : World, wo = w2 := ⟨_, rfl⟩
      go_loopw [3, 5] (fun o j wr2 => ∃ m : Nat, m ≤ (rdB l k).rs.length ∧ o = .string ⟨(s0 ++ recsText ((rdB l k).rs.take m)).toArray⟩ ∧ j = .int .i64 m ∧ Below w.heap.size w wr2) (fun _ j _ => (rdB l k).rs.length - (intOf j).toNat)
      case atStart => exact ⟨0, by omega, by simp [recsText], rfl, HB2.out⟩
      case round =>
        obtain ⟨m, hm2, rfl, rfl, hb3⟩ := hrel
        obtain ⟨-, -, -, -, -, q5, -, -⟩ := hR.below hb3
        by_cases hlt2 : m < (rdB l k).rs.length
        · obtain ⟨ad', A3, c3, A6, c6, rfl, hR2⟩ := rec_at hR.g5 m hlt2
          obtain ⟨h0, h1, h2, h3, h4, h5, -, -, -, -⟩ := hR2.below hb3
          have hrk := batOk_rec HBK.out (r := rdR (rdB l k).rs m) (by simp [rdR, List.getD_eq_getElem?_getD, hlt2])
          have c2 := fun W (hW : Below w.heap.size w W) => l41Text_s (rdR (rdB l k).rs m) A3 c3 A6 c6 W (hR2.inn.below hW) (recOk_good hrk)
          have hL2 : (recsText ((rdB l k).rs.take m)).length ≤ 64 * m := by
            have := recsText_len (rs := (rdB l k).rs.take m) (fun r hr => batOk_rec HBK.out (List.mem_of_mem_take hr))
            rw [List.length_take] at this
            omega
          have hL3 := recText_len (recOk_good hrk)
          have HSN2 := Aside0.mk (recsText_snoc hlt2)
          have a1 := str_add (s0 ++ recsText ((rdB l k).rs.take m)) (recText (rdR (rdB l k).rs m)) (by rw [List.length_append]; omega)
          have a2 := str_add (s0 ++ recsText ((rdB l k).rs.take m) ++ recText (rdR (rdB l k).rs m)) [10] (by rw [List.length_append, List.length_append, List.length_singleton]; omega)
          unfold strV at c2
          have C2 := Aside0.mk c2; clear c2
          have HB3 := Aside0.mk hb3; clear hb3
          go_wp2_with fail
          refine (C2.out _ HB3.out).mono ?_
          rintro e w3 ⟨rfl, hb4⟩
          go_wp2
          go_roundw
          case rel => exact ⟨m + 1, by omega, by rw [HSN2.out]; refine congrArg Value.string ((ba_add _ [10]).trans ?_); simp only [List.append_assoc], by go_num, below_step HB3.out hb4⟩
          case measure => simp [intOf]; omega
        · obtain rfl : m = (rdB l k).rs.length := by omega
          rw [List.take_length] at *
          go_wp2
          go_roundw
          case rel => exact ⟨k + 1, by omega, by rw [HSN.out], by go_num, hb3⟩
          case measure => simp [intOf]; omega
    · obtain rfl : k = l.length := by omega
      rw [List.take_length]
      go_wp2
      go_ret
      exact ⟨rfl, HB.out⟩
end Go.Proofs.YtifejekkbipakaaDoor
