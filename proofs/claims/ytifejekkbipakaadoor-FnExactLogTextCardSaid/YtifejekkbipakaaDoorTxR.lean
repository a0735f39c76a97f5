/- The line of a record: the program's RecordText, walked. -/
import Derived.Test.YtifejekkbipakaaDoorTxt
set_option linter.unusedVariables false
set_option linter.unusedSimpArgs false
namespace Go.Proofs.YtifejekkbipakaaDoor
open Go.RowKit Go.Proofs.YtifejekkbipakaaDoorW.PrintWords Go.Proofs.YtifejekkbipakaaDoorW.PrintLast

def recWords (x : Rec) : List ByteArray := [⟨(Lib.decDigits x.o.toNat).toArray⟩, ⟨(Lib.decDigits x.t.toNat).toArray⟩, ⟨(partStr x.hk x.k).toArray⟩, ⟨(partStr x.hv x.v).toArray⟩]
/-- A row of four words of the call's own. -/
def Words4 (ws : List ByteArray) (w : World) (e : Ending) (w' : World) : Prop :=
  ∃ g, e = .returned (.slice (some ⟨g, 0, none⟩) 4 4) ∧ g < w'.heap.size ∧ (∀ (j : Nat) x, ws[j]? = some x → w'.cell? ⟨g, 0 + j, none⟩ = some (.string x)) ∧ Below w.heap.size w w'
theorem words4 (a b c d : ByteArray) {w W W' : World} (hW : Below w.heap.size w W) (e : W' = W.alloc (.cells #[.string a, .string b, .string c, .string d] 9)) : Words4 [a, b, c, d] w (.returned (.slice (some ⟨W.heap.size, 0, none⟩) 4 4)) W' := by
  subst e
  refine ⟨_, rfl, by simp, fun j x hx => ?_, below_alloc hW _⟩
  rw [Nat.zero_add, blk_cell (blk_new W _) j]
  match j, hx with
  | 0, h => cases h; rfl
  | 1, h => cases h; rfl
  | 2, h => cases h; rfl
  | 3, h => cases h; rfl
set_option maxHeartbeats 8000000 in
theorem recordWords_i (x : Rec) (A3 : Option Addr) (c3 : Nat) (A5 : Option Addr) (c5 : Nat) (w : World) (h : RecIn w x A3 c3 A5 c5) (hG : GOKT w) (hok : RecGood x) :
    Calls Tryd.prog 26 #[.agg #[.int .i64 x.o, .int .i64 x.t, .bool x.hk, .slice A3 x.k.length c3, .bool x.hv, .slice A5 x.v.length c5]] w (Words4 (recWords x) w) := by
  have c1 := fun W (hW : Below w.heap.size w W) => itoa_i x.o hok.o0 hok.o1 W (hG.below hW)
  have c2 := fun W (hW : Below w.heap.size w W) => itoa_i x.t hok.t0 hok.t1 W (hG.below hW)
  have c3' := fun W (hW : Below w.heap.size w W) => partText_i x.hk A3 c3 x.k W (Kd.C_below h.g3 hW) hok.k
  have c4 := fun W (hW : Below w.heap.size w W) => partText_i x.hv A5 c5 x.v W (Kd.C_below h.g5 hW) hok.v
  clear h hG hok
  unfold recWords
  unfold strV at c1 c2 c3' c4
  generalize Lib.decDigits x.o.toNat = s1 at *
  generalize Lib.decDigits x.t.toNat = s2 at *
  generalize partStr x.hk x.k = s3 at *
  generalize partStr x.hv x.v = s4 at *
  have C1 := Aside0.mk c1; clear c1
  have C2 := Aside0.mk c2; clear c2
  have C3 := Aside0.mk c3'; clear c3'
  have C4 := Aside0.mk c4; clear c4
  have hn : ∀ W W' : World, (W.cell? ⟨w.heap.size, 0, none⟩ = some (.int .i64 x.o) ∧ W.cell? ⟨w.heap.size, 1, none⟩ = some (.int .i64 x.t) ∧ W.cell? ⟨w.heap.size, 2, none⟩ = some (.bool x.hk) ∧ W.cell? ⟨w.heap.size, 3, none⟩ = some (.slice A3 x.k.length c3) ∧ W.cell? ⟨w.heap.size, 4, none⟩ = some (.bool x.hv) ∧ W.cell? ⟨w.heap.size, 5, none⟩ = some (.slice A5 x.v.length c5) ∧ Below w.heap.size w W) → Below W.heap.size W W' → (W'.cell? ⟨w.heap.size, 0, none⟩ = some (.int .i64 x.o) ∧ W'.cell? ⟨w.heap.size, 1, none⟩ = some (.int .i64 x.t) ∧ W'.cell? ⟨w.heap.size, 2, none⟩ = some (.bool x.hk) ∧ W'.cell? ⟨w.heap.size, 3, none⟩ = some (.slice A3 x.k.length c3) ∧ W'.cell? ⟨w.heap.size, 4, none⟩ = some (.bool x.hv) ∧ W'.cell? ⟨w.heap.size, 5, none⟩ = some (.slice A5 x.v.length c5) ∧ Below w.heap.size w W') := fun W W' ⟨a0, a1, a2, a3, a4, a5, b⟩ hb => ⟨pw_cell_below hb a0, pw_cell_below hb a1, pw_cell_below hb a2, pw_cell_below hb a3, pw_cell_below hb a4, pw_cell_below hb a5, below_step b hb⟩
  have hl : ∀ W : World, (W.cell? ⟨w.heap.size, 0, none⟩ = some (.int .i64 x.o) ∧ W.cell? ⟨w.heap.size, 1, none⟩ = some (.int .i64 x.t) ∧ W.cell? ⟨w.heap.size, 2, none⟩ = some (.bool x.hk) ∧ W.cell? ⟨w.heap.size, 3, none⟩ = some (.slice A3 x.k.length c3) ∧ W.cell? ⟨w.heap.size, 4, none⟩ = some (.bool x.hv) ∧ W.cell? ⟨w.heap.size, 5, none⟩ = some (.slice A5 x.v.length c5) ∧ Below w.heap.size w W) → Below w.heap.size w W := fun W h => h.2.2.2.2.2.2
  have HN := Aside0.mk hn; clear hn
  have HL := Aside0.mk hl; clear hl
  go_enter Tryd.func26, Tryd.ntmps26
  go_wp2
  have hs0 : (w.alloc (.cells #[.int .i64 x.o, .int .i64 x.t, .bool x.hk, .slice A3 x.k.length c3, .bool x.hv, .slice A5 x.v.length c5] 33)).drew.cell? ⟨w.heap.size, 0, none⟩ = some (.int .i64 x.o) ∧ (w.alloc (.cells #[.int .i64 x.o, .int .i64 x.t, .bool x.hk, .slice A3 x.k.length c3, .bool x.hv, .slice A5 x.v.length c5] 33)).drew.cell? ⟨w.heap.size, 1, none⟩ = some (.int .i64 x.t) ∧ (w.alloc (.cells #[.int .i64 x.o, .int .i64 x.t, .bool x.hk, .slice A3 x.k.length c3, .bool x.hv, .slice A5 x.v.length c5] 33)).drew.cell? ⟨w.heap.size, 2, none⟩ = some (.bool x.hk) ∧ (w.alloc (.cells #[.int .i64 x.o, .int .i64 x.t, .bool x.hk, .slice A3 x.k.length c3, .bool x.hv, .slice A5 x.v.length c5] 33)).drew.cell? ⟨w.heap.size, 3, none⟩ = some (.slice A3 x.k.length c3) ∧ (w.alloc (.cells #[.int .i64 x.o, .int .i64 x.t, .bool x.hk, .slice A3 x.k.length c3, .bool x.hv, .slice A5 x.v.length c5] 33)).drew.cell? ⟨w.heap.size, 4, none⟩ = some (.bool x.hv) ∧ (w.alloc (.cells #[.int .i64 x.o, .int .i64 x.t, .bool x.hk, .slice A3 x.k.length c3, .bool x.hv, .slice A5 x.v.length c5] 33)).drew.cell? ⟨w.heap.size, 5, none⟩ = some (.slice A5 x.v.length c5) ∧ Below w.heap.size w (w.alloc (.cells #[.int .i64 x.o, .int .i64 x.t, .bool x.hk, .slice A3 x.k.length c3, .bool x.hv, .slice A5 x.v.length c5] 33)).drew := ⟨(blk_cell (blk_drew (blk_new w _)) 0).trans rfl, (blk_cell (blk_drew (blk_new w _)) 1).trans rfl, (blk_cell (blk_drew (blk_new w _)) 2).trans rfl, (blk_cell (blk_drew (blk_new w _)) 3).trans rfl, (blk_cell (blk_drew (blk_new w _)) 4).trans rfl, (blk_cell (blk_drew (blk_new w _)) 5).trans rfl, below_drew (below_alloc (Below.refl _ _) _)⟩
  go_region_held3 (fun W => W.cell? ⟨w.heap.size, 0, none⟩ = some (.int .i64 x.o) ∧ W.cell? ⟨w.heap.size, 1, none⟩ = some (.int .i64 x.t) ∧ W.cell? ⟨w.heap.size, 2, none⟩ = some (.bool x.hk) ∧ W.cell? ⟨w.heap.size, 3, none⟩ = some (.slice A3 x.k.length c3) ∧ W.cell? ⟨w.heap.size, 4, none⟩ = some (.bool x.hv) ∧ W.cell? ⟨w.heap.size, 5, none⟩ = some (.slice A5 x.v.length c5) ∧ Below w.heap.size w W)
    (first | assumption | exact HN.out _ _ (by assumption) (below_alloc (Below.refl _ _) _))
    (first
      | (go_at_call 45; (with_reducible refine (C1.out _ (HL.out _ (by assumption))).mono ?_); rintro e w' ⟨rfl, hb⟩; have hs := HN.out _ _ (by assumption) hb; clear hb)
      | (go_at_call 45; (with_reducible refine (C2.out _ (HL.out _ (by assumption))).mono ?_); rintro e w' ⟨rfl, hb⟩; have hs := HN.out _ _ (by assumption) hb; clear hb)
      | (go_at_call 46; (with_reducible refine (C3.out _ (HL.out _ (by assumption))).mono ?_); rintro e w' ⟨rfl, hb⟩; have hs := HN.out _ _ (by assumption) hb; clear hb)
      | (go_at_call 46; (with_reducible refine (C4.out _ (HL.out _ (by assumption))).mono ?_); rintro e w' ⟨rfl, hb⟩; have hs := HN.out _ _ (by assumption) hb; clear hb))
  all_goals
    go_wp2
    go_ret
    exact words4 _ _ _ _ (HL.out _ (by assumption)) rfl
theorem recWords_join (x : Rec) : Lib.join ((recWords x).map (·.data.toList)) (⟨#[32]⟩ : ByteArray).data.toList = recText x := by
  simp [recWords, recText, Lib.join]
set_option maxHeartbeats 4000000 in
set_option maxRecDepth 100000 in
theorem lineText_i (x : Rec) (A3 : Option Addr) (c3 : Nat) (A5 : Option Addr) (c5 : Nat) (w : World) (h : RecIn w x A3 c3 A5 c5) (hG : GOKT w) (hok : RecGood x) :
    Calls Tryd.prog 27 #[.agg #[.int .i64 x.o, .int .i64 x.t, .bool x.hk, .slice A3 x.k.length c3, .bool x.hv, .slice A5 x.v.length c5, .func (.func 26) #[] #[]]] w (RB (strV (recText x)) w) := by
  have hj := recWords_join x
  have hlen := recText_len hok
  have c1 := fun W (hW : Below w.heap.size w W) => recordWords_i x A3 c3 A5 c5 W (h.below hW) (hG.below hW) hok
  have C1 := Aside0.mk c1; clear c1
  have HJ := Aside0.mk hj; clear hj
  have HL := Aside0.mk hlen; clear hlen
  clear h hG hok
  go_enter Tryd.func27, Tryd.ntmps27
  go_wp2_with fail
  refine (C1.out _ (below_alloc (Below.refl _ _) _)).mono ?_
  rintro e w1 ⟨g, rfl, hlt, hcells, hb⟩
  have hb1 := below_step (below_alloc (Below.refl _ _) _) hb
  clear hb
  go_wp2_with fail
  refine (Tryd.strings_Join g 0 4 (recWords x) ⟨#[32]⟩ _ hcells hlt (by simp [recWords]) (by simp [recWords]) (by rw [HJ.out]; have := HL.out; omega)).mono ?_
  rintro e w2 ⟨rfl, hb2⟩
  rw [HJ.out]
  go_wp2
  go_ret
  exact ⟨rfl, below_step hb1 hb2⟩
set_option maxHeartbeats 4000000 in
set_option maxRecDepth 100000 in
theorem recordText_i (x : Rec) (A3 : Option Addr) (c3 : Nat) (A5 : Option Addr) (c5 : Nat) (w : World) (h : RecIn w x A3 c3 A5 c5) (hG : GOKT w) (hok : recOk x = true) :
    Calls Tryd.prog 11 #[.agg #[.int .i64 x.o, .int .i64 x.t, .bool x.hk, .slice A3 x.k.length c3, .bool x.hv, .slice A5 x.v.length c5]] w (RB (strV (recText x)) w) := by
  have c0 := fun W (hW : Below w.heap.size w W) => recValid_i x A3 c3 A5 c5 W (h.below hW)
  rw [hok] at c0
  have c1 := fun W (hW : Below w.heap.size w W) => lineText_i x A3 c3 A5 c5 W (h.below hW) (hG.below hW) (recOk_good hok)
  have C0 := Aside0.mk c0; clear c0
  have C1 := Aside0.mk c1; clear c1
  clear h hG hok
  go_enter Tryd.func11, Tryd.ntmps11
  go_wp2_with fail
  refine (C0.out _ (below_alloc (Below.refl _ _) _)).mono ?_
  rintro e w1 ⟨rfl, hb⟩
  obtain ⟨hb, hc, -, -⟩ := boxed hb
  go_wp2_with fail
  refine (C1.out _ hb).mono ?_
  rintro e w2 ⟨rfl, hb2⟩
  go_wp2
  go_ret
  exact ⟨rfl, below_step hb hb2⟩
end Go.Proofs.YtifejekkbipakaaDoor
