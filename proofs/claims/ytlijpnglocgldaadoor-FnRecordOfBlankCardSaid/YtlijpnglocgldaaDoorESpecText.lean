/- spec.BytesText: its contract in the printer's form, walked by hand. -/
import Derived.Test.YtlijpnglocgldaaDoorHexS
import Derived.Deep.QuietTactic
import Derived.BigQuiet
import Derived.Lib.Hide
import Derived.Laws.Concat
import Derived.Laws.BitsLemmas
set_option linter.unusedVariables false
set_option linter.unusedSimpArgs false
namespace Go.Proofs.YtlijpnglocgldaaDoor
open Go.RowKit Go.Proofs.YtlijpnglocgldaaDoorW.PrintWords Go.Proofs.YtlijpnglocgldaaDoorW.PrintLast Go.Proofs.YtlijpnglocgldaaDoor.P

def spec_BytesText.f (l0 : List Int) : Option ByteArray := if l0.length ≤ 1099511627776 then some (if l0.all isB = true then ⟨(hexText l0).toArray⟩ else ⟨#[]⟩) else none
theorem hex_slice_nat (W : World) : ∀ n : Nat, n < 16 → (Instr.slice 9 (.string ⟨#[48, 49, 50, 51, 52, 53, 54, 55, 56, 57, 97, 98, 99, 100, 101, 102]⟩) (some (.int .i64 (n : Int))) (some (.int .i64 ((n : Int) + 1))) none).run Tryd.prog W = .ok (.string ⟨#[hexDigit (n : Int)]⟩) W
  | 0, _ => by kernel_rfl
  | 1, _ => by kernel_rfl
  | 2, _ => by kernel_rfl
  | 3, _ => by kernel_rfl
  | 4, _ => by kernel_rfl
  | 5, _ => by kernel_rfl
  | 6, _ => by kernel_rfl
  | 7, _ => by kernel_rfl
  | 8, _ => by kernel_rfl
  | 9, _ => by kernel_rfl
  | 10, _ => by kernel_rfl
  | 11, _ => by kernel_rfl
  | 12, _ => by kernel_rfl
  | 13, _ => by kernel_rfl
  | 14, _ => by kernel_rfl
  | 15, _ => by kernel_rfl
  | n + 16, h => absurd h (by omega)
theorem hex_slice (i : Int) (h0 : 0 ≤ i) (h1 : i ≤ 15) : ∀ W : World, (Instr.slice 9 (.string ⟨#[48, 49, 50, 51, 52, 53, 54, 55, 56, 57, 97, 98, 99, 100, 101, 102]⟩) (some (.int .i64 i)) (some (.int .i64 (i + 1))) none).run Tryd.prog W = .ok (.string ⟨#[hexDigit i]⟩) W := by
  intro W
  obtain ⟨n, rfl⟩ := Int.eq_ofNat_of_zero_le h0
  exact hex_slice_nat W n (by omega)
theorem str_snoc (l : List UInt8) (c : UInt8) (h : l.length + 1 ≤ 9223372036854775807) : ∀ W : World, (Op.stringOp .add ⟨l.toArray⟩ ⟨#[c]⟩).run Tryd.prog W = .ok (.string ⟨(l ++ [c]).toArray⟩) W := by
  intro W
  rw [run_string_add_sum W ⟨l.toArray⟩ ⟨#[c]⟩ (by show l.toArray.size + (#[c] : Array UInt8).size ≤ _; simpa using h)]
  congr 2
set_option maxHeartbeats 4000000 in
set_option maxRecDepth 100000 in
theorem spec_BytesText.calls (A0 : Option Addr) (c0 : Nat) (l0 : List Int) (r : ByteArray) (w : World) (hr0 : Kd.C (Kd.int .i64) w A0 l0.length l0) (hc0 : l0.length ≤ c0) (h : spec_BytesText.f l0 = some r) :
    Calls Tryd.prog 58 #[.slice A0 l0.length c0] w fun e w' => e = .returned (.string r) ∧ Drawn0 w w' := by
  unfold spec_BytesText.f at h
  by_cases hlen : l0.length ≤ 1099511627776
  case neg => rw [if_neg hlen] at h; cases h
  rw [if_pos hlen] at h
  have hall := l1Ok_eq l0 (by omega) (l0.length + 1) (by omega)
  cases hb : l0.all isB with
  | false =>
    rw [hb] at hall h
    rw [if_neg (by decide)] at h
    obtain rfl := Option.some.inj h
    have hpos : 0 < l0.length := by
      rcases l0 with _ | ⟨x, l⟩
      · simp at hb
      · simp
    clear hb h
    have HA := Lib.hid hall; clear hall
    go_enter Tryd.func58, Tryd.ntmps58
    go_wp2
    go_loopw [4, 5] (fun o i wr => o = .string ⟨#[]⟩ ∧ i = .int .i64 0 ∧ wr = w) (fun _ _ _ => 0)
    case atStart => exact ⟨rfl, rfl, rfl⟩
    case round =>
      obtain ⟨rfl, rfl, rfl⟩ := hrel
      go_wp2_with (go_at_call 57; refine (spec_l1Ok.calls _ A0 c0 l0 false _ hr0 hc0 HA.out).mono ?_; rintro e w' ⟨rfl, n, rfl⟩)
      go_ret
      exact ⟨rfl, Drawn0.step (Drawn0.refl _) _⟩
  | true =>
    rw [hb] at hall h
    rw [if_pos rfl] at h
    obtain rfl := Option.some.inj h
    clear h
    have HA := Lib.hid hall; clear hall
    have HB := Lib.hid hb; clear hb
    go_enter Tryd.func58, Tryd.ntmps58
    go_wp2
    go_loopw [4, 5] (fun o i wr => ∃ k : Nat, k ≤ l0.length ∧ o = .string ⟨(hexText (l0.take k)).toArray⟩ ∧ i = .int .i64 k ∧ Drawn0 w wr) (fun _ i _ => l0.length - (intOf i).toNat)
    case atStart => exact ⟨0, by omega, rfl, rfl, Drawn0.refl _⟩
    case round =>
      obtain ⟨k, hk, rfl, rfl, hd⟩ := hrel
      have hr1 := Kd.C_below hr0 hd.below
      have HD := Lib.hid hd; clear hd
      by_cases hlt : k < l0.length
      · have hB := isB_bounds HB.out k hlt
        obtain ⟨ad, rfl, hc⟩ := Kd.at_int hr1 (k : Int) (by omega) (by omega)
        rw [Int.toNat_natCast] at hc
        have hi1 := hex_slice (rd l0 k / 16) (by omega) (by omega)
        have hi2 := hex_slice (rd l0 k % 16) (by omega) (by omega)
        go_wp2_with (go_at_call 57; refine (spec_l1Ok.calls _ _ c0 l0 true _ hr1 hc0 HA.out).mono ?_; rintro e w' ⟨rfl, n, rfl⟩)
        have hs1 := str_snoc (hexText (l0.take k)) (hexDigit (rd l0 ↑k / 16)) (by rw [hexText_length, List.length_take]; omega)
        have hs2 := str_snoc (hexText (l0.take k) ++ [hexDigit (rd l0 ↑k / 16)]) (hexDigit (rd l0 ↑k % 16)) (by rw [List.length_append, hexText_length, List.length_take, List.length_singleton]; omega)
        have e1 : IntKind.i64.wrap ((rd l0 ↑k).tdiv 16) = rd l0 ↑k / 16 := by rw [Int.tdiv_eq_ediv_of_nonneg hB.1, IntKind.wrap_i64]; omega
        have e2 : IntKind.i64.wrap (rd l0 ↑k / 16 + 1) = rd l0 ↑k / 16 + 1 := by rw [IntKind.wrap_i64]; omega
        have e3 : (rd l0 ↑k).tmod 16 = rd l0 ↑k % 16 := Int.tmod_eq_emod_of_nonneg hB.1
        have e5 : IntKind.i64.wrap (rd l0 ↑k % 16) = rd l0 ↑k % 16 := by rw [IntKind.wrap_i64]; omega
        have e4 : IntKind.i64.wrap (rd l0 ↑k % 16 + 1) = rd l0 ↑k % 16 + 1 := by rw [IntKind.wrap_i64]; omega
        go_quiet (fail)
        clear e1 e2 e3 e4 e5 hs1 hs2
        have hsn := Lib.hid (hexText_snoc l0 k hlt)
        go_wp2
        go_roundw
        case rel =>
          refine ⟨k + 1, by omega, ?_, by go_num, by repeat (first | exact HD.out | apply Drawn0.step | apply Drawn0.step1)⟩
          rw [hsn.out, hexByte]
        case measure => simp [intOf]; omega
      · obtain rfl : k = l0.length := by omega
        rw [List.take_length]
        go_wp2
        go_ret
        exact ⟨rfl, HD.out⟩
end Go.Proofs.YtlijpnglocgldaaDoor
