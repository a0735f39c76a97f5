/- impl.BytesText: its contract in the printer's form, walked by hand over the shelf's Builder. -/
import Derived.Test.YtlijpnglocgldaaDoorHexI
import Derived.Test.YtlijpnglocgldaaDoorShelf
import Derived.Laws.BitsLemmas
set_option linter.unusedVariables false
set_option linter.unusedSimpArgs false
namespace Go.Proofs.YtlijpnglocgldaaDoor
open Go.RowKit Go.Proofs.YtlijpnglocgldaaDoorW.PrintWords Go.Proofs.YtlijpnglocgldaaDoorW.PrintLast Go.Proofs.YtlijpnglocgldaaDoor.P

def impl_BytesText.f (l0 : List Int) : Option ByteArray := if l0.length ≤ 1099511627776 then some (if l0.all isB = true then ⟨(hexText l0).toArray⟩ else ⟨#[]⟩) else none
theorem hex_index_nat (W : World) : ∀ n : Nat, n < 16 → (Instr.index 9 (.string ⟨#[48, 49, 50, 51, 52, 53, 54, 55, 56, 57, 97, 98, 99, 100, 101, 102]⟩) (.int .i64 (n : Int))).run Tryd.prog W = .ok (.int .u8 (hexDigit (n : Int)).toNat) W
  | 0, _ => by kernel_rfl
  | 1, _ => by kernel_rfl
  | 2, _ => by kernel_rfl
  | 3, _ => by kernel_rfl
  | 4, _ => by kernel_rfl
  | 5, _ => by kernel_rfl
  | 6, _ => by kernel_rfl
  | 7, _ => by kernel_rfl
  | 8, _ => by kernel_rfl
  | 9, _ => by kernel_rfl
  | 10, _ => by kernel_rfl
  | 11, _ => by kernel_rfl
  | 12, _ => by kernel_rfl
  | 13, _ => by kernel_rfl
  | 14, _ => by kernel_rfl
  | 15, _ => by kernel_rfl
  | n + 16, h => absurd h (by omega)
theorem hex_index (i : Int) (h0 : 0 ≤ i) (h1 : i ≤ 15) : ∀ W : World, (Instr.index 9 (.string ⟨#[48, 49, 50, 51, 52, 53, 54, 55, 56, 57, 97, 98, 99, 100, 101, 102]⟩) (.int .i64 i)).run Tryd.prog W = .ok (.int .u8 (hexDigit i).toNat) W := by
  intro W
  obtain ⟨n, rfl⟩ := Int.eq_ofNat_of_zero_le h0
  exact hex_index_nat W n (by omega)
theorem and15 (x : Int) (h0 : 0 ≤ x) (h1 : x ≤ 255) : bits .and .i64 x 15 = x % 16 :=
  bits_mask .i64 8 (by decide) (fun n a b => by rw [IntKind.wrap_i64]; omega) 4 (by decide) x h0 (by omega)
theorem wbyte (B b : Nat) (l : List UInt8) (c : UInt8) (w : World) (h : Lib.IsBuilderF 82 5 B b (Lib.byteCells l) w) (hlen : l.length + 1 ≤ 140737488355328) (hBw : B ≤ w.heap.size) :
    Calls Tryd.prog 71 #[.pointer (some ⟨b, 0, none⟩), .int .u8 c.toNat] w fun e w' => e = .returned .nilIface ∧ Lib.IsBuilderF 82 5 B b (Lib.byteCells (l ++ [c])) w' ∧ Below B w w' := by
  refine (Any.Builder_WriteByte_k Tryd.lays167 Tryd.Builder_Extra_167 B b (Lib.byteCells l) c.toNat w h (by rw [Lib.byteCells_length]; exact hlen) hBw).mono ?_
  rintro e w' ⟨rfl, h1, hb, _⟩
  refine ⟨rfl, ?_, hb⟩
  rw [Lib.byteCells_append]
  exact Or.inr h1
theorem bstring (B b : Nat) (l : List UInt8) (w : World) (h : Lib.IsBuilderF 82 5 B b (Lib.byteCells l) w) (hBw : B ≤ w.heap.size) :
    Calls Tryd.prog 63 #[.pointer (some ⟨b, 0, none⟩)] w fun e w' => e = .returned (.string ⟨l.toArray⟩) ∧ Below B w w' := by
  refine (Tryd.Builder_String_any_k B b l w h hBw).mono ?_
  rintro e w' ⟨rfl, _, hb, _⟩
  exact ⟨rfl, hb⟩
set_option maxHeartbeats 4000000 in
set_option maxRecDepth 100000 in
theorem impl_BytesText.calls (A0 : Option Addr) (c0 : Nat) (l0 : List Int) (r : ByteArray) (w : World) (hr0 : Kd.C (Kd.int .i64) w A0 l0.length l0) (hc0 : l0.length ≤ c0) (h : impl_BytesText.f l0 = some r) :
    Calls Tryd.prog 60 #[.slice A0 l0.length c0] w fun e w' => e = .returned (.string r) ∧ Below w.heap.size w w' := by
  unfold impl_BytesText.f at h
  by_cases hlen : l0.length ≤ 1099511627776
  case neg => rw [if_neg hlen] at h; cases h
  rw [if_pos hlen] at h
  have hall := allBytes_eq l0 (by omega) (l0.length + 1) (by omega)
  cases hb : l0.all isB with
  | false =>
    rw [hb] at hall h
    rw [if_neg (by decide)] at h
    obtain rfl := Option.some.inj h
    clear hb h
    have HA := Lib.hid hall; clear hall
    go_enter Tryd.func60, Tryd.ntmps60
    go_wp2_with (go_at_call 56; refine (impl_allBytes.calls _ A0 c0 l0 false _ hr0 hc0 HA.out).mono ?_; rintro e w' ⟨rfl, n, rfl⟩)
    go_ret
    exact ⟨rfl, pw_below_drewN (Below.refl _ _) _⟩
  | true =>
    rw [hb] at hall h
    rw [if_pos rfl] at h
    obtain rfl := Option.some.inj h
    clear h
    have HA := Lib.hid hall; clear hall
    have HB := Lib.hid hb; clear hb
    go_enter Tryd.func60, Tryd.ntmps60
    go_wp2_with (go_at_call 56; refine (impl_allBytes.calls _ A0 c0 l0 true _ hr0 hc0 HA.out).mono ?_; rintro e w' ⟨rfl, n, rfl⟩)
    go_loopw [5, 11] (fun b i wr => ∃ k : Nat, k ≤ l0.length ∧ i = .int .i64 k ∧ Lib.IsBuilderF 82 5 w.heap.size w.heap.size (Lib.byteCells (hexText (l0.take k))) wr ∧ Below w.heap.size w wr) (fun _ i _ => l0.length - (intOf i).toNat)
    case atStart => exact ⟨0, by omega, rfl, Lib.IsBuilderF.of (Lib.fresh_isBuilder _ _ (w.drewN n)), below_alloc (pw_below_drewN (Below.refl _ _) _) _⟩
    case round =>
      obtain ⟨k, hk, rfl, hI, hbw⟩ := hrel
      have hsz := hbw.size
      by_cases hlt : k < l0.length
      · have hB := isB_bounds HB.out k hlt
        have hcell := Kd.at_int (Kd.C_below hr0 hbw) (k : Int) (by omega) (by omega)
        obtain ⟨ad, rfl, hc⟩ := hcell
        rw [Int.toNat_natCast] at hc
        have hband := and15 _ hB.1 hB.2
        have hi1 := hex_index (rd l0 k / 16) (by omega) (by omega)
        have hi2 := hex_index (rd l0 k % 16) (by omega) (by omega)
        have hl2 : (hexText (l0.take k)).length = 2 * k := by rw [hexText_length, List.length_take]; omega
        have hsn := Lib.hid (hexText_snoc l0 k hlt)
        have HL := Lib.hid hl2
        clear hl2
        go_wp2_with fail
        refine (wbyte _ _ _ _ _ hI (by have := HL.out; omega) hsz).mono ?_
        rintro e w1 ⟨rfl, hI1, hb1⟩
        have hbw1 := hbw.trans hb1
        go_wp2_with fail
        refine (wbyte _ _ _ _ _ hI1 (by have := HL.out; simp only [List.length_append, List.length_singleton]; omega) hbw1.size).mono ?_
        rintro e w2 ⟨rfl, hI2, hb2⟩
        have hbw2 := hbw1.trans hb2
        go_wp2
        go_roundw
        case rel =>
          refine ⟨k + 1, by omega, by go_num, ?_, hbw2⟩
          rw [hsn.out, hexByte]
          simpa using hI2
        case measure => simp [intOf]; omega
      · obtain rfl : k = l0.length := by omega
        rw [List.take_length] at hI
        go_wp2_with fail
        refine (bstring _ _ _ _ hI hsz).mono ?_
        rintro e w1 ⟨rfl, hb1⟩
        have hbw1 := hbw.trans hb1
        go_wp2
        go_ret
        exact ⟨rfl, hbw1⟩
end Go.Proofs.YtlijpnglocgldaaDoor
