/- The line of a record: the reference's functions, walked. -/
import Derived.Test.YtifejekkbipakaaDoorSpB
import Derived.Test.YtifejekkbipakaaDoorTxt
import Derived.Deep.RegionWith
set_option linter.unusedVariables false
set_option linter.unusedSimpArgs false
namespace Go.Proofs.YtifejekkbipakaaDoor
open Go.RowKit Go.Proofs.YtifejekkbipakaaDoorW.PrintWords Go.Proofs.YtifejekkbipakaaDoorW.PrintLast

theorem conv1 (W : World) (x : Int) : (convert 22 9 (.slice (some ⟨W.heap.size, 0, none⟩) 1 1)).run Tryd.prog (W.alloc (.cells #[.int .u8 x] 5)) = .ok (.string (strOfNums [x])) (W.alloc (.cells #[.int .u8 x] 5)) :=
  own_string Tryd.underlying22 Tryd.underlying5 Tryd.underlying9 (own_lit W 0 5 .u8 [x] (Nat.zero_le _) (by simp))
theorem conv1c (W : World) (g : Nat) (x : Int) (h : W.cell? ⟨g, 0, none⟩ = some (.int .u8 x)) : (convert 22 9 (.slice (some ⟨g, 0, none⟩) 1 1)).run Tryd.prog W = .ok (.string (strOfNums [x])) W := by
  refine run_convert_bytes_arg W 22 5 Tryd.underlying22 Tryd.underlying5 g 0 1 1 [x] rfl (fun i hi => ?_) 9 Tryd.underlying9
  obtain rfl : i = 0 := by omega
  exact h
theorem strOfNums_one (u : Nat) (h : u < 10) : strOfNums [48 + (u : Int)] = ⟨#[UInt8.ofNat (48 + u)]⟩ := by
  unfold strOfNums
  simp only [List.map_cons, List.map_nil]
  rw [show (48 + (u : Int)).toNat = 48 + u from by omega]
set_option maxRecDepth 100000 in
set_option maxHeartbeats 4000000 in
theorem l6Dec_s (u : Nat) : u ≤ 1000000000 → ∀ w : World, Calls Tryd.prog 39 #[.int .i64 (u : Int)] w (RB (strV (Lib.decDigits u)) w) := by
  induction u using Nat.strongRecOn with
  | _ u ih =>
    intro hu w
    have g1 : decide ((u : Int) < -9223372036854775807) = false := decide_eq_false (by omega)
    have g2 : decide ((u : Int) < 0) = false := decide_eq_false (by omega)
    have hc := conv1
    unfold strV
    by_cases h1 : u < 10
    · have e := strOfNums_one u h1
      rw [decDigits_lt u h1]
      have g3 : decide ((u : Int) < 10) = true := decide_eq_true (by omega)
      have E := Aside0.mk e; clear e ih
      go_enter Tryd.func39, Tryd.ntmps39
      go_wp2
      go_ret
      exact ⟨by rw [← E.out]; rfl, below_alloc (Below.refl _ _) _⟩
    · have g3 : decide ((u : Int) < 10) = false := decide_eq_false (by omega)
      have c1 := ih (u / 10) (by omega) (by omega)
      have e := strOfNums_one (u % 10) (by omega)
      have hl : (Lib.decDigits (u / 10)).length ≤ 10 := decDigits_len (u / 10) 10 (by rw [show (10 : Nat) ^ 10 = 10000000000 from by decide]; omega) (by omega)
      have hadd := str_add (Lib.decDigits (u / 10)) [UInt8.ofNat (48 + u % 10)] (by simp; omega)
      rw [← decDigits_ge u h1, show ([UInt8.ofNat (48 + u % 10)] : List UInt8).toArray = #[UInt8.ofNat (48 + u % 10)] from rfl, ← e] at hadd
      unfold strV at c1
      generalize Lib.decDigits (u / 10) = s at c1 hadd hl
      generalize Lib.decDigits u = s' at hadd ⊢
      rw [show ((u / 10 : Nat) : Int) = (u : Int) / 10 from by omega] at c1
      rw [show ((u % 10 : Nat) : Int) = (u : Int) % 10 from by omega] at hadd
      have C1 := Aside0.mk c1; clear c1 ih hl e
      have e1 : IntKind.i64.wrap ((u : Int) / 10) = (u : Int) / 10 := by rw [IntKind.wrap_i64]; omega
      have e2 : (u : Int).tmod 10 = (u : Int) % 10 := Int.tmod_eq_emod_of_nonneg (by omega)
      have e3 : IntKind.i64.wrap (48 + (u : Int) % 10) = 48 + (u : Int) % 10 := by rw [IntKind.wrap_i64]; omega
      have e4 : IntKind.u8.wrap (48 + (u : Int) % 10) = 48 + (u : Int) % 10 := by show (48 + (u : Int) % 10) % 256 = _; omega
      have hcv := fun W g => conv1c W g (48 + (u : Int) % 10)
      clear hc
      go_enter Tryd.func39, Tryd.ntmps39
      go_wp2
      go_region_with (go_at_call 39; ((with_reducible refine (C1.out _).mono ?_); rintro e w' ⟨rfl, hb⟩; (try have hq := pw_cell_below hb (a := ⟨w.heap.size, 0, none⟩) (v := .int .u8 (48 + (u : Int) % 10)) ((blk_cell (blk_new w.drew _) 0).trans rfl))))
      all_goals go_wp2
      all_goals go_ret
      all_goals exact ⟨rfl, by first | exact below_alloc (below_step (below_drew (Below.refl _ _)) (by assumption)) _ | exact below_step (below_alloc (below_drew (Below.refl _ _)) _) (by assumption)⟩
end Go.Proofs.YtifejekkbipakaaDoor
