/- impl.RecordText: its contract in the printer's form, walked by hand: the line of a record, through a generic struct with a function value. -/
import Derived.Test.YtlijpnglocgldaaDoorRec
import Derived.Test.YtlijpnglocgldaaDoorShelf
import Derived.Test.YtlijpnglocgldaaDoorGok
import Derived.Test.YtlijpnglocgldaaDoorQ5
set_option linter.unusedVariables false
set_option linter.unusedSimpArgs false
namespace Go.Proofs.YtlijpnglocgldaaDoor
open Go.RowKit Go.Proofs.YtlijpnglocgldaaDoorW.PrintWords Go.Proofs.YtlijpnglocgldaaDoorW.PrintLast Go.Proofs.YtlijpnglocgldaaDoor.P

def impl_RecordText.f (a0_0 : Int) (a0_1 : Int) (a0_2 : Bool) (l0_3 : List Int) (a0_4 : Bool) (l0_5 : List Int) : Option ByteArray :=
  if l0_3.length ≤ 1099511627776 ∧ l0_5.length ≤ 1099511627776 then some (if recOk a0_0 a0_1 a0_2 l0_3 a0_4 l0_5 = true then ⟨(recText a0_0 a0_1 a0_2 l0_3 a0_4 l0_5).toArray⟩ else ⟨#[]⟩) else none

/-! the words of a valid record -/
def recWords (o t : Int) (hk : Bool) (k : List Int) (hv : Bool) (v : List Int) : List ByteArray :=
  [⟨(Lib.decDigits o.toNat).toArray⟩, ⟨(Lib.decDigits t.toNat).toArray⟩, ⟨(partStr hk k).toArray⟩, ⟨(partStr hv v).toArray⟩]
theorem itoa_eq (n : Int) (h0 : 0 ≤ n) (h1 : n ≤ 99999) : strconv_Itoa.f n = some ⟨(Lib.decDigits n.toNat).toArray⟩ := by
  unfold strconv_Itoa.f
  rw [if_pos ⟨by omega, by omega⟩]
  unfold Lib.itoa
  rw [if_neg (by omega)]
theorem partText_eq (has : Bool) (l : List Int) (h : partOk has l = true) : impl_partText.f has l = some ⟨(partStr has l).toArray⟩ := by
  have hl := partOk_len h
  unfold impl_partText.f impl_BytesText.f partStr
  cases has with
  | true =>
    have hb : l.all isB = true := by
      simp only [partOk, if_true, Bool.and_eq_true] at h
      exact h.2
    rw [if_pos rfl, if_pos (by omega), if_pos hb, if_pos rfl]
    simp only [Option.bind_some]
    have hs : (⟨(hexText l).toArray⟩ : ByteArray).size = 2 * l.length := by show (hexText l).toArray.size = _; rw [List.size_toArray, hexText_length]
    rw [if_pos (by rw [hs]; omega)]
    congr 2
  | false => rfl
theorem recordWords_eq (o t : Int) (hk : Bool) (k : List Int) (hv : Bool) (v : List Int) (h : recOk o t hk k hv v = true) :
    impl_recordWords.f o t hk k hv v = some (recWords o t hk k hv v) := by
  obtain ⟨⟨h1, h2⟩, ⟨h3, h4⟩, h5, h6⟩ := recOk_parts h
  unfold impl_recordWords.f recWords
  rw [itoa_eq o h1 h2, itoa_eq t h3 h4, partText_eq hk k h5, partText_eq hv v h6]
  rfl
theorem recWords_join (o t : Int) (hk : Bool) (k : List Int) (hv : Bool) (v : List Int) :
    Lib.join ((recWords o t hk k hv v).map (·.data.toList)) (⟨#[32]⟩ : ByteArray).data.toList = recText o t hk k hv v := by
  simp [recWords, recText, Lib.join]
theorem partStr_len (has : Bool) (l : List Int) (h : l.length ≤ 12) : (partStr has l).length ≤ 25 := by
  unfold partStr
  cases has with
  | true => rw [if_pos rfl]; simp [hexText_length]; omega
  | false => simp
theorem recText_len (o t : Int) (hk : Bool) (k : List Int) (hv : Bool) (v : List Int) (h : recOk o t hk k hv v = true) : (recText o t hk k hv v).length ≤ 63 := by
  obtain ⟨⟨h1, h2⟩, ⟨h3, h4⟩, h5, h6⟩ := recOk_parts h
  have a := decDigits_len o.toNat 5 (by omega) (by omega)
  have b := decDigits_len t.toNat 5 (by omega) (by omega)
  have c := partStr_len hk k (partOk_len h5)
  have d := partStr_len hv v (partOk_len h6)
  simp only [recText, List.length_append, List.length_singleton]
  omega
/-- A row of strings of the call's own: its cells. -/
theorem own_strings {w : World} {base : Nat} {ok : Nat → Prop} {v : Value} {xs : List ByteArray} (h : Kd.R Kd.string 9 w base ok v xs) (hp : 0 < xs.length) :
    ∃ g c, v = .slice (some ⟨g, 0, none⟩) xs.length c ∧ xs.length ≤ c ∧ g < w.heap.size ∧ ∀ (j : Nat) x, xs[j]? = some x → w.cell? ⟨g, 0 + j, none⟩ = some (.string x) := by
  obtain ⟨inner, ho⟩ := Kd.R_own h
  obtain ⟨g, c, rfl, _⟩ := ho.form hp
  refine ⟨g, c, rfl, (Kd.R_reads' h).2.1, Kd.R_lt h g rfl, fun j x hx => ?_⟩
  have hj : j < xs.length := (List.getElem?_eq_some_iff.1 hx).1
  have := (Kd.R_cell ByteArray.empty h (j : Int) (by omega) (by omega)).1
  rw [Int.toNat_natCast] at this
  rw [Nat.zero_add, this]
  simp [rdOf, hx]
set_option maxHeartbeats 4000000 in
set_option maxRecDepth 100000 in
theorem line_text (a0_0 : Int) (a0_1 : Int) (a0_2 : Bool) (A0_3 : Option Addr) (c0_3 : Nat) (l0_3 : List Int) (a0_4 : Bool) (A0_5 : Option Addr) (c0_5 : Nat) (l0_5 : List Int) (w : World) (hr0_3 : Kd.C (Kd.int .i64) w A0_3 l0_3.length l0_3) (hc0_3 : l0_3.length ≤ c0_3) (hr0_5 : Kd.C (Kd.int .i64) w A0_5 l0_5.length l0_5) (hc0_5 : l0_5.length ≤ c0_5) (hGT : GOKT w)
    (h : recOk a0_0 a0_1 a0_2 l0_3 a0_4 l0_5 = true) :
    Calls Tryd.prog 26 #[.agg #[.int .i64 a0_0, .int .i64 a0_1, .bool a0_2, .slice A0_3 l0_3.length c0_3, .bool a0_4, .slice A0_5 l0_5.length c0_5, .func (.func 25) #[] #[]]] w fun e w' => e = .returned (.string ⟨(recText a0_0 a0_1 a0_2 l0_3 a0_4 l0_5).toArray⟩) ∧ Below w.heap.size w w' := by
  have hw := Lib.hid (recordWords_eq _ _ _ _ _ _ h)
  have hj := Lib.hid (recWords_join a0_0 a0_1 a0_2 l0_3 a0_4 l0_5)
  have hlen := recText_len _ _ _ _ _ _ h
  clear h
  go_enter Tryd.func26, Tryd.ntmps26
  go_wp2_with fail
  refine (impl_recordWords.calls _ _ _ A0_3 c0_3 l0_3 _ A0_5 c0_5 l0_5 _ _ (Kd.C_alloc hr0_3 _) hc0_3 (Kd.C_alloc hr0_5 _) hc0_5 (hGT.below (below_alloc (Below.refl _ _) _)) hw.out).mono ?_
  rintro e w1 ⟨v, rfl, hR, hb⟩
  have hb1 : Below w.heap.size w w1 := below_step (below_alloc (Below.refl _ _) _) hb
  clear hb
  obtain ⟨g, c, rfl, hc, hlt, hcells⟩ := own_strings hR (by simp [recWords])
  clear hR
  go_wp2_with fail
  refine (Tryd.strings_Join g 0 c (recWords a0_0 a0_1 a0_2 l0_3 a0_4 l0_5) ⟨#[32]⟩ _ hcells hlt (by simp [recWords]) hc (by rw [hj.out]; omega)).mono ?_
  rintro e w2 ⟨rfl, hb2⟩
  rw [hj.out]
  have hb3 := below_step hb1 hb2
  go_wp2
  go_ret
  exact ⟨rfl, hb3⟩
set_option maxHeartbeats 4000000 in
set_option maxRecDepth 100000 in
theorem impl_RecordText.calls (a0_0 : Int) (a0_1 : Int) (a0_2 : Bool) (A0_3 : Option Addr) (c0_3 : Nat) (l0_3 : List Int) (a0_4 : Bool) (A0_5 : Option Addr) (c0_5 : Nat) (l0_5 : List Int) (r : ByteArray) (w : World) (hr0_3 : Kd.C (Kd.int .i64) w A0_3 l0_3.length l0_3) (hc0_3 : l0_3.length ≤ c0_3) (hr0_5 : Kd.C (Kd.int .i64) w A0_5 l0_5.length l0_5) (hc0_5 : l0_5.length ≤ c0_5) (hGT : GOKT w) (h : impl_RecordText.f a0_0 a0_1 a0_2 l0_3 a0_4 l0_5 = some r) :
    Calls Tryd.prog 11 #[.agg #[.int .i64 a0_0, .int .i64 a0_1, .bool a0_2, .slice A0_3 l0_3.length c0_3, .bool a0_4, .slice A0_5 l0_5.length c0_5]] w fun e w' => e = .returned (.string r) ∧ Below w.heap.size w w' := by
  unfold impl_RecordText.f at h
  by_cases hl : l0_3.length ≤ 1099511627776 ∧ l0_5.length ≤ 1099511627776
  case neg => rw [if_neg hl] at h; cases h
  rw [if_pos hl] at h
  have hv := impl_RecordValid_eq a0_0 a0_1 a0_2 l0_3 a0_4 l0_5 (by omega) (by omega) (l0_3.length + l0_5.length + 1) (by omega) (by omega)
  cases hok : recOk a0_0 a0_1 a0_2 l0_3 a0_4 l0_5 with
  | false =>
    rw [hok] at hv h
    rw [if_neg (by decide)] at h
    obtain rfl := Option.some.inj h
    clear h hok
    have HV := Lib.hid hv; clear hv
    go_enter Tryd.func11, Tryd.ntmps11
    go_wp2_with fail
    refine (impl_RecordValid.calls _ _ _ _ A0_3 c0_3 l0_3 _ A0_5 c0_5 l0_5 _ _ (Kd.C_alloc hr0_3 _) hc0_3 (Kd.C_alloc hr0_5 _) hc0_5 HV.out).mono ?_
    rintro e w1 ⟨rfl, hb0⟩
    have hb1 : Below w.heap.size w w1 := below_step (below_alloc (Below.refl _ _) _) hb0
    go_wp2
    go_ret
    exact ⟨rfl, hb1⟩
  | true =>
    rw [hok] at hv h
    rw [if_pos rfl] at h
    obtain rfl := Option.some.inj h
    clear h
    have HV := Lib.hid hv; clear hv
    have HO := Lib.hid hok; clear hok
    go_enter Tryd.func11, Tryd.ntmps11
    go_wp2_with fail
    refine (impl_RecordValid.calls _ _ _ _ A0_3 c0_3 l0_3 _ A0_5 c0_5 l0_5 _ _ (Kd.C_alloc hr0_3 _) hc0_3 (Kd.C_alloc hr0_5 _) hc0_5 HV.out).mono ?_
    rintro e w1 ⟨rfl, hb0⟩
    have hb1 : Below w.heap.size w w1 := below_step (below_alloc (Below.refl _ _) _) hb0
    have hbk := blk_below (g := w.heap.size) (by simpa using heap_alloc_new w _) hb0
    have z0 := (blk_cell hbk 0).trans rfl
    have z1 := (blk_cell hbk 1).trans rfl
    have z2 := (blk_cell hbk 2).trans rfl
    have z3 := (blk_cell hbk 3).trans rfl
    have z4 := (blk_cell hbk 4).trans rfl
    have z5 := (blk_cell hbk 5).trans rfl
    have HK := Lib.hid hbk
    clear hbk hb0
    go_wp2_with fail
    refine (line_text _ _ _ A0_3 c0_3 l0_3 _ A0_5 c0_5 l0_5 _ (Kd.C_below hr0_3 hb1) hc0_3 (Kd.C_below hr0_5 hb1) hc0_5 (hGT.below hb1) HO.out).mono ?_
    rintro e w2 ⟨rfl, hb⟩
    have hb2 : Below w.heap.size w w2 := below_step hb1 hb
    go_wp2
    go_ret
    exact ⟨rfl, hb2⟩
end Go.Proofs.YtlijpnglocgldaaDoor
