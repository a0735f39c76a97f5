/- The law's own helpers: copies, walked. -/
import Derived.Test.YtifejekkbipakaaDoorLaw
set_option linter.unusedVariables false
set_option linter.unusedSimpArgs false
namespace Go.Proofs.YtifejekkbipakaaDoor
open Go.RowKit Go.Proofs.YtifejekkbipakaaDoorW.PrintWords Go.Proofs.YtifejekkbipakaaDoorW.PrintLast

/-- A row of the call's own is handed back. -/
def RR {α : Type} (d : Kd α) (e : Nat) (xs : List α) (w : World) (en : Ending) (w' : World) : Prop := ∃ v, en = .returned v ∧ d.R e w' w.heap.size (fun _ => True) v xs ∧ Below w.heap.size w w'
theorem calls_at {P : Program} {f : FuncId} {args : Array Value} {w : World} {R : Ending → World → Prop} (h : ∀ W, W = w → Calls P f args W R) : Calls P f args w R := h w rfl
theorem set_take {α : Type} (l : List α) (z : α) {k : Nat} (hk : k < l.length) : (l.take k ++ List.replicate (l.length - k) z).set k (l.getD k z) = l.take (k + 1) ++ List.replicate (l.length - (k + 1)) z := by
  obtain ⟨m, hm⟩ : ∃ m, l.length - k = m + 1 := ⟨l.length - k - 1, by omega⟩
  have hl : (l.take k).length = k := by rw [List.length_take]; omega
  rw [hm, show l.length - (k + 1) = m from by omega, List.replicate_succ, List.set_append_right _ _ (by omega), hl, Nat.sub_self, List.set_cons_zero, List.take_succ_eq_append_getElem hk, List.append_assoc]
  simp [List.getD_eq_getElem?_getD, hk]
theorem infoInt : (Tryd.prog.info? 3).map (fun i => (i.zero, i.size, i.bytes)) = some (some (.int .i64 0), 1, 8) := by kernel_rfl
theorem infoRec : (Tryd.prog.info? 33).map (fun i => (i.zero, i.size, i.bytes)) = some (some (.agg #[.int .i64 0, .int .i64 0, .bool false, .slice none 0 0, .bool false, .slice none 0 0]), 6, 80) := by kernel_rfl
theorem infoBat : (Tryd.prog.info? 50).map (fun i => (i.zero, i.size, i.bytes)) = some (some (.agg #[.bool false, .bool false, .int .i64 0, .int .i64 0, .int .i64 0, .slice none 0 0]), 6, 56) := by kernel_rfl
set_option maxHeartbeats 4000000 in
theorem toIntS_l (A0 : Option Addr) (c0 : Nat) (l : List Int) (w : World) (hC : intK.C w A0 l.length l) (hl : l.length ≤ 1048576) : Calls Tryd.prog 70 #[.slice A0 l.length c0] w (RR intK 3 l w) := by
  have HC := Aside0.mk hC; clear hC
  have hmk := print_make_int (P := Tryd.prog) 31 3 (.int .i64 0) 8 Tryd.underlying31 infoInt rfl (by decide) (l.length : Int) (by omega) (by omega)
  rw [Int.toNat_natCast] at hmk
  have hown : ∀ W : World, intK.R 3 (W.alloc (.cells (madeCells #[.int .i64 0] l.length) 3)) W.heap.size (fun _ => True) (.slice (some ⟨W.heap.size, 0, none⟩) l.length l.length) (List.replicate l.length 0) := fun W => Kd.R_of_own (by have h := own_made' W W.heap.size 3 .i64 l.length (Nat.le_refl _) (by omega); rw [List.length_replicate] at h ⊢; exact h) (fun _ _ => trivial)
  have HO := Aside0.mk hown; clear hown
  go_enter Tryd.func70, Tryd.ntmps70
  go_wp2
  clear hmk
  go_loopw [4] (fun i wr => ∃ k : Nat, k ≤ l.length ∧ i = .int .i64 k ∧ Aside0 (intK.R 3 wr w.heap.size (fun _ => True) (.slice (some ⟨w.heap.size, 0, none⟩) l.length l.length) (l.take k ++ List.replicate (l.length - k) 0)) ∧ Below w.heap.size w wr) (fun i _ => l.length - (intOf i).toNat)
  case atStart => exact ⟨0, by omega, rfl, ⟨by simpa using HO.out w⟩, below_alloc (Below.refl _ _) _⟩
  case round =>
    obtain ⟨k, hk, rfl, HR, hb⟩ := hrel
    have HB := Aside0.mk hb; clear hb
    by_cases hlt : k < l.length
    · obtain ⟨ad, rfl, hc⟩ := Kd.at_int (Kd.C_below HC.out HB.out) (k : Int) (by omega) (by omega)
      rw [Int.toNat_natCast] at hc
      obtain ⟨q1, q2⟩ := Kd.R_celln (0 : Int) HR.out (k : Int) (by omega) (by omega)
      rw [Int.toNat_natCast] at q1 q2
      have hp := (Kd.R_putg HR.out (k : Int) (rd l k)).1
      rw [Int.toNat_natCast, show rd l (k : Int) = l.getD k 0 from rfl, set_take l 0 hlt] at hp
      have HP := Aside0.mk hp; clear hp
      go_wp2
      go_roundw
      case rel => exact ⟨k + 1, by omega, by go_num, ⟨HP.out⟩, below_set HB.out (Nat.le_refl _)⟩
      case measure => simp [intOf]; omega
    · obtain rfl : k = l.length := by omega
      go_wp2
      go_ret
      refine ⟨_, rfl, ?_, HB.out⟩
      have := HR.out
      rwa [Nat.sub_self, List.take_length, List.replicate_zero, List.append_nil] at this
/-- Six cells of a struct of the call's own, made so far. -/
structure StB (w W : World) (g : Nat) (T : TypeId) (cs : Array Value) : Prop where
  hb : W.heap[g]? = some (.cells cs T (0, 0))
  hg : w.heap.size ≤ g
theorem StB.below {w W W1 : World} {g : Nat} {T : TypeId} {cs : Array Value} (h : StB w W g T cs) (hb : Below W.heap.size W W1) : StB w W1 g T cs := ⟨blk_below h.hb hb, h.hg⟩
theorem StB.set {w W : World} {g : Nat} {T : TypeId} {cs : Array Value} (h : StB w W g T cs) (j : Nat) (v : Value) {cs' : Array Value} (hc : cs.setIfInBounds j v = cs') : StB w (W.setCell ⟨g, j, none⟩ v) g T cs' := ⟨hc ▸ blk_set h.hb j v, h.hg⟩
theorem StB.far {w W : World} {g g' : Nat} {T : TypeId} {cs : Array Value} (h : StB w W g T cs) (hne : g ≠ g') (j : Nat) (v : Value) : StB w (W.setCell ⟨g', j, none⟩ v) g T cs := ⟨blk_far h.hb hne v, h.hg⟩
/-- A record of the call's own is handed back. -/
def RRec (x : Rec) (w : World) (en : Ending) (w' : World) : Prop := ∃ a b, en = .returned (.agg (rec6 x a b)) ∧ intK.R 3 w' w.heap.size (fun _ => True) a x.k ∧ intK.R 3 w' w.heap.size (fun _ => True) b x.v ∧ Below w.heap.size w w'
def RBat (x : Bat) (w : World) (en : Ending) (w' : World) : Prop := ∃ a, en = .returned (.agg (bat6 x a)) ∧ recK.R 33 w' w.heap.size (fun _ => True) a x.rs ∧ Below w.heap.size w w'
theorem R_set6 {α : Type} {d : Kd α} {e : Nat} {w : World} {base : Nat} {ok : Nat → Prop} {v : Value} {xs : List α} (h : d.R e w base ok v xs) {g t : Nat} {cs : Array Value} (hb : w.heap[g]? = some (.cells cs t (0, 0))) (ht : ∀ q, q ∈ e :: d.E → q ≠ t) (u0 u1 u2 u3 u4 u5 : Value) :
    d.R e ((((((w.setCell ⟨g, 0, none⟩ u0).setCell ⟨g, 1, none⟩ u1).setCell ⟨g, 2, none⟩ u2).setCell ⟨g, 3, none⟩ u3).setCell ⟨g, 4, none⟩ u4).setCell ⟨g, 5, none⟩ u5) base ok v xs :=
  Kd.R_set (Kd.R_set (Kd.R_set (Kd.R_set (Kd.R_set (Kd.R_set h hb ht 0 u0) (blk_set hb 0 u0) ht 1 u1) (blk_set (blk_set hb 0 u0) 1 u1) ht 2 u2) (blk_set (blk_set (blk_set hb 0 u0) 1 u1) 2 u2) ht 3 u3) (blk_set (blk_set (blk_set (blk_set hb 0 u0) 1 u1) 2 u2) 3 u3) ht 4 u4) (blk_set (blk_set (blk_set (blk_set (blk_set hb 0 u0) 1 u1) 2 u2) 3 u3) 4 u4) ht 5 u5
theorem below_set6 {w W : World} {g : Nat} (h : Below w.heap.size w W) (hg : w.heap.size ≤ g) (u0 u1 u2 u3 u4 u5 : Value) :
    Below w.heap.size w ((((((W.setCell ⟨g, 0, none⟩ u0).setCell ⟨g, 1, none⟩ u1).setCell ⟨g, 2, none⟩ u2).setCell ⟨g, 3, none⟩ u3).setCell ⟨g, 4, none⟩ u4).setCell ⟨g, 5, none⟩ u5) :=
  below_set (below_set (below_set (below_set (below_set (below_set h hg) hg) hg) hg) hg) hg
theorem blk_set6 {w : World} {g t : Nat} {cs : Array Value} (hb : w.heap[g]? = some (.cells cs t (0, 0))) (u0 u1 u2 u3 u4 u5 : Value) :
    ((((((w.setCell ⟨g, 0, none⟩ u0).setCell ⟨g, 1, none⟩ u1).setCell ⟨g, 2, none⟩ u2).setCell ⟨g, 3, none⟩ u3).setCell ⟨g, 4, none⟩ u4).setCell ⟨g, 5, none⟩ u5).heap[g]? = some (.cells ((((((cs.setIfInBounds 0 u0).setIfInBounds 1 u1).setIfInBounds 2 u2).setIfInBounds 3 u3).setIfInBounds 4 u4).setIfInBounds 5 u5) t (0, 0)) :=
  blk_set (blk_set (blk_set (blk_set (blk_set (blk_set hb 0 _) 1 _) 2 _) 3 _) 4 _) 5 _
theorem blkc {W : World} {b : Nat} {cs : Array Value} {t : TypeId} (h : W.heap[b]? = some (.cells cs t (0, 0))) : (∀ j, W.cell? ⟨b, j, none⟩ = cs[j]?) ∧ (∀ j, W.frozen? ⟨b, j, none⟩ = false) :=
  ⟨fun j => blk_cell h j, fun j => blk_frozen h j⟩
set_option maxHeartbeats 4000000 in
theorem toRecord_l (x : Rec) (A3 : Option Addr) (c3 : Nat) (A5 : Option Addr) (c5 : Nat) (w : World) (h : RecIn w x A3 c3 A5 c5) (hk : x.k.length ≤ 1048576) (hv : x.v.length ≤ 1048576) :
    Calls Tryd.prog 62 #[.agg #[.int .i64 x.o, .int .i64 x.t, .bool x.hk, .slice A3 x.k.length c3, .bool x.hv, .slice A5 x.v.length c5]] w (RRec x w) := by
  have c1 := fun W (hW : Below w.heap.size w W) => toIntS_l A3 c3 x.k W (Kd.C_below h.g3 hW) hk
  have c2 := fun W (hW : Below w.heap.size w W) => toIntS_l A5 c5 x.v W (Kd.C_below h.g5 hW) hv
  clear h
  have C1 := Aside0.mk c1; clear c1
  have C2 := Aside0.mk c2; clear c2
  go_enter Tryd.func62, Tryd.ntmps62
  go_wp2_with fail
  refine calls_at (fun W hW => ?_)
  have s0 : StB w W w.heap.size 97 #[.int .i64 x.o, .int .i64 x.t, .bool x.hk, .slice A3 x.k.length c3, .bool x.hv, .slice A5 x.v.length c5] := by
    rw [hW]; exact ⟨blk_alloc (blk_alloc (blk_new w _) _) _, Nat.le_refl _⟩
  have s1 : StB w W (w.heap.size + 1) 33 #[.int .i64 0, .int .i64 0, .bool false, .slice none 0 0, .bool false, .slice none 0 0] := by
    rw [hW]; exact ⟨blk_alloc (by simpa using blk_new (w.alloc _) (.cells #[.int .i64 0, .int .i64 0, .bool false, .slice none 0 0, .bool false, .slice none 0 0] 33)) _, by omega⟩
  have s2 : StB w W (w.heap.size + 1 + 1) 33 #[.int .i64 x.o, .int .i64 x.t, .bool x.hk, .slice none 0 0, .bool false, .slice none 0 0] := by
    rw [hW]; exact ⟨by simpa using blk_new ((w.alloc _).alloc _) (.cells #[.int .i64 x.o, .int .i64 x.t, .bool x.hk, .slice none 0 0, .bool false, .slice none 0 0] 33), by omega⟩
  have hB : Below w.heap.size w W := by rw [hW]; exact below_alloc (below_alloc (below_alloc (Below.refl _ _) _) _) _
  clear hW
  refine (C1.out W hB).mono ?_
  rintro e w1 ⟨a, rfl, hRa, hb1⟩
  replace s0 := s0.below hb1
  replace s1 := s1.below hb1
  replace s2 := s2.below hb1
  replace hRa := Kd.R_lower hRa hB.size
  replace hB := below_step hB hb1
  clear hb1
  obtain ⟨Aa, ca, rfl⟩ := Kd.R_slice hRa
  obtain ⟨q0, -⟩ := blkc s0.hb
  obtain ⟨q2, f2⟩ := blkc s2.hb
  have HR := Aside0.mk hRa; clear hRa
  have HB := Aside0.mk hB; clear hB
  have S0 := Aside0.mk s0; clear s0
  have S1 := Aside0.mk s1; clear s1
  have S2 := Aside0.mk s2; clear s2
  go_wp2_with fail
  clear q0 q2 f2
  refine calls_at (fun W2 hW2 => ?_)
  have s0 := (S0.out.far (g' := w.heap.size + 1 + 1) (by omega) 3 (.slice Aa x.k.length ca)).far (g' := w.heap.size + 1 + 1) (by omega) 4 (.bool x.hv)
  have s1 := (S1.out.far (g' := w.heap.size + 1 + 1) (by omega) 3 (.slice Aa x.k.length ca)).far (g' := w.heap.size + 1 + 1) (by omega) 4 (.bool x.hv)
  have s2' := S2.out.set 3 (.slice Aa x.k.length ca) rfl
  have s2 := s2'.set 4 (.bool x.hv) rfl
  have hRa := Kd.R_set (Kd.R_set HR.out S2.out.hb (by decide) 3 (.slice Aa x.k.length ca)) s2'.hb (by decide) 4 (.bool x.hv)
  have hB := below_set (below_set HB.out S2.out.hg (j := 3) (v := .slice Aa x.k.length ca)) S2.out.hg (j := 4) (v := .bool x.hv)
  rw [← hW2] at s0 s1 s2 hRa hB
  clear hW2 s2' HR HB S0 S1 S2
  refine (C2.out W2 hB).mono ?_
  rintro e w3 ⟨b, rfl, hRb, hb3⟩
  replace s1 := s1.below hb3
  replace s2 := s2.below hb3
  replace hRa := Kd.R_below hRa hb3
  replace hRb := Kd.R_lower hRb hB.size
  replace hB := below_step hB hb3
  clear hb3 s0
  obtain ⟨Ab, cb, rfl⟩ := Kd.R_slice hRb
  obtain ⟨q1, f1⟩ := blkc s1.hb
  obtain ⟨q2, f2⟩ := blkc s2.hb
  have t2 := s2.set 5 (.slice Ab x.v.length cb) rfl
  have t1 := s1.far (g' := w.heap.size + 1 + 1) (by omega) 5 (.slice Ab x.v.length cb)
  have uA := Kd.R_set hRa s2.hb (by decide) 5 (.slice Ab x.v.length cb)
  have uB := Kd.R_set hRb s2.hb (by decide) 5 (.slice Ab x.v.length cb)
  have hB5 := below_set hB s2.hg (j := 5) (v := .slice Ab x.v.length cb)
  have HA := Aside0.mk (R_set6 uA t1.hb (by decide)); have HBb := Aside0.mk (R_set6 uB t1.hb (by decide)); have HC := Aside0.mk (below_set6 hB5 t1.hg); have HD := Aside0.mk (blk_set6 t1.hb)
  clear t1 t2 uA uB hB5 hRa hRb hB s1 s2
  go_wp2
  refine bodyPost_ret (results_single (r := .cell 2 33) (v := .agg (rec6 x (.slice Aa x.k.length ca) (.slice Ab x.v.length cb))) rfl (.cell _ 33 _ (0, 0) _ rfl (HD.out _ _ _ _ _ _) Tryd.underlying33 rfl (by kernel_rfl) .nil)) rfl ?_
  exact ⟨_, _, rfl, HA.out _ _ _ _ _ _, HBb.out _ _ _ _ _ _, HC.out _ _ _ _ _ _⟩
end Go.Proofs.YtifejekkbipakaaDoor
