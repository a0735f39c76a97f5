/- The line of a record: the reference's functions, walked: bytes in base 16, a part, the line. -/
import Derived.Test.YtifejekkbipakaaDoorSpT
set_option linter.unusedVariables false
set_option linter.unusedSimpArgs false
namespace Go.Proofs.YtifejekkbipakaaDoor
open Go.RowKit Go.Proofs.YtifejekkbipakaaDoorW.PrintWords Go.Proofs.YtifejekkbipakaaDoorW.PrintLast

theorem hex_slice_nat (W : World) : ∀ n : Nat, n < 16 → (Instr.slice 9 (.string ⟨#[48, 49, 50, 51, 52, 53, 54, 55, 56, 57, 97, 98, 99, 100, 101, 102]⟩) (some (.int .i64 (n : Int))) (some (.int .i64 ((n : Int) + 1))) none).run Tryd.prog W = .ok (.string ⟨#[hexDigit (n : Int)]⟩) W
  | 0, _ => by kernel_rfl
  | 1, _ => by kernel_rfl
  | 2, _ => by kernel_rfl
  | 3, _ => by kernel_rfl
  | 4, _ => by kernel_rfl
  | 5, _ => by kernel_rfl
  | 6, _ => by kernel_rfl
  | 7, _ => by kernel_rfl
  | 8, _ => by kernel_rfl
  | 9, _ => by kernel_rfl
  | 10, _ => by kernel_rfl
  | 11, _ => by kernel_rfl
  | 12, _ => by kernel_rfl
  | 13, _ => by kernel_rfl
  | 14, _ => by kernel_rfl
  | 15, _ => by kernel_rfl
  | n + 16, h => absurd h (by omega)
theorem hex_slice (i : Int) (h0 : 0 ≤ i) (h1 : i ≤ 15) : ∀ W : World, (Instr.slice 9 (.string ⟨#[48, 49, 50, 51, 52, 53, 54, 55, 56, 57, 97, 98, 99, 100, 101, 102]⟩) (some (.int .i64 i)) (some (.int .i64 (i + 1))) none).run Tryd.prog W = .ok (.string ⟨#[hexDigit i]⟩) W := by
  intro W
  obtain ⟨n, rfl⟩ := Int.eq_ofNat_of_zero_le h0
  exact hex_slice_nat W n (by omega)
set_option maxHeartbeats 4000000 in
set_option maxRecDepth 100000 in
theorem bytesText_s (A0 : Option Addr) (c0 : Nat) (l0 : List Int) (w : World) (hr0 : intK.C w A0 l0.length l0) (hok : allB l0 = true) (hlen : l0.length ≤ 1000000) :
    Calls Tryd.prog 55 #[.slice A0 l0.length c0] w (RB (strV (hexText l0)) w) := by
  have c1 := fun W (hW : Below w.heap.size w W) => l1Ok_s A0 c0 l0 W (Kd.C_below hr0 hW)
  rw [hok] at c1
  have C1 := Aside0.mk c1; clear c1
  have HB := Aside0.mk hok; clear hok
  have HR := Aside0.mk hr0; clear hr0
  go_enter Tryd.func55, Tryd.ntmps55
  go_wp2
  go_loopw [4, 5] (fun o i wr => ∃ k : Nat, k ≤ l0.length ∧ o = .string ⟨(hexText (l0.take k)).toArray⟩ ∧ i = .int .i64 k ∧ Below w.heap.size w wr) (fun _ i _ => l0.length - (intOf i).toNat)
  case atStart => exact ⟨0, by omega, rfl, rfl, Below.refl _ _⟩
  case round =>
    obtain ⟨k, hk, rfl, rfl, hd⟩ := hrel
    have hr1 := Kd.C_below HR.out hd
    have HD := Aside0.mk hd; clear hd
    by_cases hlt : k < l0.length
    · have hB := allB_bounds HB.out k hlt
      obtain ⟨ad, rfl, hc⟩ := Kd.at_int hr1 (k : Int) (by omega) (by omega)
      rw [Int.toNat_natCast] at hc
      have HR1 := Aside0.mk hr1; clear hr1
      have hi1 := hex_slice (rd l0 k / 16) (by omega) (by omega)
      have hi2 := hex_slice (rd l0 k % 16) (by omega) (by omega)
      go_wp2_with (go_at_call 64; refine (C1.out _ HD.out).mono ?_; rintro e w' ⟨rfl, rfl⟩)
      have hs1 := str_add (hexText (l0.take k)) [hexDigit (rd l0 ↑k / 16)] (by rw [hexText_length, List.length_take, List.length_singleton]; omega)
      have hs2 := str_add (hexText (l0.take k) ++ [hexDigit (rd l0 ↑k / 16)]) [hexDigit (rd l0 ↑k % 16)] (by rw [List.length_append, hexText_length, List.length_take, List.length_singleton, List.length_singleton]; omega)
      have e1 : IntKind.i64.wrap ((rd l0 ↑k).tdiv 16) = rd l0 ↑k / 16 := by rw [Int.tdiv_eq_ediv_of_nonneg hB.1, IntKind.wrap_i64]; omega
      have e2 : IntKind.i64.wrap (rd l0 ↑k / 16 + 1) = rd l0 ↑k / 16 + 1 := by rw [IntKind.wrap_i64]; omega
      have e3 : (rd l0 ↑k).tmod 16 = rd l0 ↑k % 16 := Int.tmod_eq_emod_of_nonneg hB.1
      have e5 : IntKind.i64.wrap (rd l0 ↑k % 16) = rd l0 ↑k % 16 := by rw [IntKind.wrap_i64]; omega
      have e4 : IntKind.i64.wrap (rd l0 ↑k % 16 + 1) = rd l0 ↑k % 16 + 1 := by rw [IntKind.wrap_i64]; omega
      go_quiet (fail)
      clear e1 e2 e3 e4 e5 hs1 hs2
      have hsn := Aside0.mk (hexText_snoc l0 k hlt)
      go_wp2
      go_roundw
      case rel =>
        refine ⟨k + 1, by omega, ?_, by go_num, pw_below_drewN HD.out _⟩
        rw [hsn.out, hexByte]
      case measure => simp [intOf]; omega
    · obtain rfl : k = l0.length := by omega
      rw [List.take_length]
      go_wp2
      go_ret
      exact ⟨rfl, HD.out⟩
set_option maxHeartbeats 2000000 in
theorem l41Part_s (has : Bool) (A0 : Option Addr) (c0 : Nat) (l : List Int) (w : World) (hr : intK.C w A0 l.length l) (hok : partOk has l = true) :
    Calls Tryd.prog 40 #[.bool has, .slice A0 l.length c0] w (RB (strV (partStr has l)) w) := by
  have hl := partOk_len hok
  have C1 := Aside0.mk (bytesText_s A0 c0 l w hr hl.2 (by omega))
  have ha := str_add [120] (hexText l) (by rw [hexText_length]; simp; omega)
  clear hok hr
  unfold partStr
  unfold strV at C1 ⊢
  generalize hexText l = t at *
  cases has
  · go_enter Tryd.func40, Tryd.ntmps40
    go_wp2
    go_ret
    exact ⟨rfl, Below.refl _ _⟩
  · go_enter Tryd.func40, Tryd.ntmps40
    go_wp2_with fail
    refine C1.out.mono ?_
    rintro e w1 ⟨rfl, hb⟩
    go_wp2
    go_ret
    exact ⟨rfl, hb⟩
set_option maxHeartbeats 8000000 in
theorem l41Text_s (x : Rec) (A3 : Option Addr) (c3 : Nat) (A5 : Option Addr) (c5 : Nat) (w : World) (h : RecIn w x A3 c3 A5 c5) (hok : RecGood x) :
    Calls Tryd.prog 22 #[.agg #[.int .i64 x.o, .int .i64 x.t, .bool x.hk, .slice A3 x.k.length c3, .bool x.hv, .slice A5 x.v.length c5]] w (RB (strV (recText x)) w) := by
  have a0 := hok.o0
  have a1 := hok.o1
  have a2 := hok.t0
  have a3 := hok.t1
  have c1 := l6Dec_s x.o.toNat (by omega)
  have c2 := l6Dec_s x.t.toNat (by omega)
  rw [Int.toNat_of_nonneg a0] at c1
  rw [Int.toNat_of_nonneg a2] at c2
  have c3' := fun W (hW : Below w.heap.size w W) => l41Part_s x.hk A3 c3 x.k W (Kd.C_below h.g3 hW) hok.k
  have c4 := fun W (hW : Below w.heap.size w W) => l41Part_s x.hv A5 c5 x.v W (Kd.C_below h.g5 hW) hok.v
  have n1 := decDigits_len x.o.toNat 5 (by omega) (by omega)
  have n2 := decDigits_len x.t.toNat 5 (by omega) (by omega)
  have n3 := partStr_len x.hk x.k (partOk_len hok.k).1
  have n4 := partStr_len x.hv x.v (partOk_len hok.v).1
  unfold recText
  unfold strV at c1 c2 c3' c4 ⊢
  clear h hok
  generalize Lib.decDigits x.o.toNat = s1 at *
  generalize Lib.decDigits x.t.toNat = s2 at *
  generalize partStr x.hk x.k = s3 at *
  generalize partStr x.hv x.v = s4 at *
  have p1 := str_add s1 [32] (by simp; omega)
  have p2 := str_add (s1 ++ [32]) s2 (by simp; omega)
  have p3 := str_add (s1 ++ [32] ++ s2) [32] (by simp; omega)
  have p4 := str_add (s1 ++ [32] ++ s2 ++ [32]) s3 (by simp; omega)
  have p5 := str_add (s1 ++ [32] ++ s2 ++ [32] ++ s3) [32] (by simp; omega)
  have p6 := str_add (s1 ++ [32] ++ s2 ++ [32] ++ s3 ++ [32]) s4 (by simp; omega)
  generalize s1 ++ [32] = q1 at *
  generalize q1 ++ s2 = q2 at *
  generalize q2 ++ [32] = q3 at *
  generalize q3 ++ s3 = q4 at *
  generalize q4 ++ [32] = q5 at *
  generalize q5 ++ s4 = q6 at *
  clear n1 n2 n3 n4 a0 a1 a2 a3
  have C1 := Aside0.mk c1; clear c1
  have C2 := Aside0.mk c2; clear c2
  have C3 := Aside0.mk c3'; clear c3'
  have C4 := Aside0.mk c4; clear c4
  go_enter Tryd.func22, Tryd.ntmps22
  go_wp2
  refine wp_region_belowW (by kernel_rfl) (by kernel_rfl) (fun W hW => ?_)
  have f1 := BW.cells hW
  have HW := Aside0.mk hW; clear hW
  repeat (go_big_quiet_step ((first | (go_at_call 39; (with_reducible exact BW.call (C1.out _))) | (go_at_call 39; (with_reducible exact BW.call (C2.out _))) | (go_at_call 40; (with_reducible exact BW.call (C3.out _ (BW.old HW.out _)))) | (go_at_call 40; (with_reducible exact BW.call (C4.out _ (BW.old HW.out _)))))))
  refine wpQuiet_nil ?_
  rintro _ ⟨n, rfl⟩
  go_wp2
  go_ret
  exact ⟨rfl, BW.old HW.out _⟩
end Go.Proofs.YtifejekkbipakaaDoor
