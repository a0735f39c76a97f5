/- All records of batches, each with its batch: the iterator's contract. -/
import Derived.RangeFuncNested
import Derived.RangeFuncBound
import Derived.RangeFuncCalls
import Derived.RangeFuncLeaves
import Derived.Shelf.Abstract
import Derived.Shelf.RegionOpen
import Derived.WalkKit
import Derived.OwnWalkIn
import Derived.TacticsInMore
import Derived.LoopNIn
import Derived.LoopIn
import Derived.Test.YtifejekkbipakaaDoorKd
set_option linter.unusedVariables false
set_option linter.unusedSimpArgs false
namespace Go.Proofs.YtifejekkbipakaaDoor
open Go.RowKit Go.Shelf Go.Proofs.YtifejekkbipakaaDoorW.PrintWords Go.Proofs.YtifejekkbipakaaDoorW.PrintLast
attribute [local go_sem] Oper.semAt_some

/-- What a round is handed: a batch and a record, with their slices. -/
structure RItem where
  b : Bat
  A : Option Addr
  c : Nat
  r : Rec
  A3 : Option Addr
  c3 : Nat
  A5 : Option Addr
  c5 : Nat
def pairs (l : List Bat) : List (Bat × Rec) := l.flatMap fun b => b.rs.map fun r => (b, r)
def RI (w0 : World) (l : List Bat) : Type := { x : RItem // RecIn w0 x.r x.A3 x.c3 x.A5 x.c5 ∧ (x.b, x.r) ∈ pairs l }
def RI.pair {w0 : World} {l : List Bat} (x : RI w0 l) : Bat × Rec := (x.1.b, x.1.r)
def RI.encs {w0 : World} {l : List Bat} (x : RI w0 l) : Array Value := #[.agg #[.bool x.1.b.pk, .bool x.1.b.mrk, .int .i64 x.1.b.pr, .int .i64 x.1.b.ep, .int .i64 x.1.b.sq, .slice x.1.A x.1.b.rs.length x.1.c], .agg #[.int .i64 x.1.r.o, .int .i64 x.1.r.t, .bool x.1.r.hk, .slice x.1.A3 x.1.r.k.length x.1.c3, .bool x.1.r.hv, .slice x.1.A5 x.1.r.v.length x.1.c5]]
theorem pairs_take {l : List Bat} {k : Nat} (hk : k < l.length) : pairs (l.take (k + 1)) = pairs (l.take k) ++ (rdB l k).rs.map fun r => (rdB l k, r) := by
  have e : l.take (k + 1) = l.take k ++ [rdB l k] := by
    rw [List.take_succ_eq_append_getElem hk]
    simp [rdB, List.getD_eq_getElem?_getD, hk]
  rw [e, pairs, List.flatMap_append, List.flatMap_singleton]
  rfl
theorem rs_take {rs : List Rec} {m : Nat} (hm : m < rs.length) : rs.take (m + 1) = rs.take m ++ [rdR rs m] := by
  rw [List.take_succ_eq_append_getElem hm]
  simp [rdR, List.getD_eq_getElem?_getD, hm]
theorem pairs_len {l : List Bat} {k m : Nat} (hk : k < l.length) (hm : m < (rdB l k).rs.length) : (pairs (l.take k)).length + m < (pairs l).length := by
  have h1 : pairs l = pairs (l.take (k + 1)) ++ pairs (l.drop (k + 1)) := by
    rw [pairs, pairs, pairs, ← List.flatMap_append, List.take_append_drop]
  rw [h1, List.length_append, pairs_take hk, List.length_append, List.length_map]
  omega
theorem pairs_mem {l : List Bat} {k m : Nat} (hk : k < l.length) (hm : m < (rdB l k).rs.length) : (rdB l k, rdR (rdB l k).rs m) ∈ pairs l := by
  refine List.mem_flatMap.2 ⟨rdB l k, by simp [rdB, List.getD_eq_getElem?_getD, hk], List.mem_map.2 ⟨_, ?_, rfl⟩⟩
  simp [rdR, List.getD_eq_getElem?_getD, hm]
/-- What a round keeps: all below n0, and batches. -/
def KpB (n0 : Nat) (W W' : World) : Prop := Below n0 W W' ∧ ∀ (k : Nat) (cs : Array Value), W.heap[k]? = some (.cells cs 50 (0, 0)) → W'.heap[k]? = some (.cells cs 50 (0, 0))
theorem KpB.t {n0 : Nat} {A B C : World} (h : KpB n0 A B) (k : KpB n0 B C) : KpB n0 A C := ⟨h.1.trans k.1, fun j cs hj => k.2 j cs (h.2 j cs hj)⟩
theorem KpB.alloc {n0 : Nat} {A B : World} (h : KpB n0 A B) (hn : n0 ≤ B.heap.size) (o : Obj) : KpB n0 A (B.alloc o) := ⟨h.1.alloc hn o, fun j cs hj => blk_alloc (h.2 j cs hj) o⟩
theorem KpB.refl (n0 : Nat) (A : World) : KpB n0 A A := ⟨Below.refl _ _, fun _ _ h => h⟩
theorem KpB.b {n0 : Nat} {w : World} (hn : n0 ≤ w.heap.size) (W : World) (l : Nat) (o o' : Obj) (hl : w.heap.size ≤ l) (h : W.heap[l]? = some o) (hc : o.isCells = false) (hw : o.isWalk = false) : KpB n0 W (W.putObj l o') :=
  ⟨belowK_b hn W l o o' hl h hc hw, fun j cs hj => (World.putObj_heap_other (fun e => by subst e; rw [hj] at h; cases h; cases hc)).trans hj⟩
theorem KpB.of_below {n0 : Nat} {A B : World} (h : Below A.heap.size A B) (hn : n0 ≤ A.heap.size) : KpB n0 A B := ⟨h.mono hn, fun j cs hj => blk_below hj h⟩

set_option maxRecDepth 100000 in
set_option maxHeartbeats 4000000 in
theorem recs_stops (F : Fence) (n : Nat) (hg : F.fn 37) (hro : F.round = none) (hn : 1 ≤ n) (w0 w : World) (Bs : Nat) (A0 : Option Addr) (c0 : Nat) (l : List Bat) (hC : batK.C w0 A0 l.length l) (h0w : Below w0.heap.size w0 w) (hBs : Bs < w.heap.size) (hc : w.cell? ⟨Bs, 0, none⟩ = some (.slice A0 l.length c0)) :
    SeqStopsK F n Tryd.prog 37 #[.pointer (some ⟨Bs, 0, none⟩)] (fun x : RI w0 l => x.encs) (KpB w0.heap.size) (fun ys => ys.map RI.pair = pairs l) (fun _ => True) (pairs l).length w := fun lp J Jx W hW hJ hJx hY h0 => by
  have hc' := (hW.cell (p := ⟨Bs, 0, none⟩) hBs).trans hc
  have hm := hC.2.1
  have hal : ∀ ys A o, J ys A → J ys (A.alloc o) := fun ys A o hs => hJ ys A _ none hs (World.grownBy_alloc A o none) (fun r e => by cases e)
  have h0W : Below w0.heap.size w0 W := h0w.trans (hW.mono h0w.size)
  have HAL := Aside0.mk hal; clear hal
  have HY := Aside0.mk hY; clear hY
  have HC := Aside0.mk hC; clear hC
  clear hJ hJx
  refine callsIn_of_wp Tryd.func37 rfl hg ?_ hro
  simp only [Tryd.ntmps37, List.size_toArray, List.length_cons, List.length_nil, Nat.reduceAdd, Nat.reduceSub, Array.replicate_succ, Array.replicate_zero, List.push_toArray, List.append_toArray, List.nil_append, List.cons_append]
  gi_wp2
  gi_loopw [9] (fun i wr => ∃ k : Nat, k ≤ l.length ∧ i = .int .i64 k ∧ Aside0 (∃ ys, J ys wr ∧ ys.map RI.pair = pairs (l.take k)) ∧ Below w0.heap.size w0 wr) (fun i _ => l.length - (intOf i).toNat)
  case atStart => exact ⟨0, by omega, rfl, ⟨[], h0, rfl⟩, h0W⟩
  case round =>
    obtain ⟨k, hk, rfl, HS, hb⟩ := hrel
    by_cases hlt : k < l.length
    · obtain ⟨ad, A5, c5, rfl, hR⟩ := bat_at HC.out k hlt
      obtain ⟨h0, h1, h2, h3, h4, h5, -, -⟩ := hR.below hb
      have hrm := hR.g5.2.1
      have HB := Aside0.mk hb; clear hb
      have HRA := Aside0.mk hR; clear hR
      obtain ⟨wo, rfl⟩ : ∃ wo : World, wo = wr := ⟨_, rfl⟩
      gi_wp2
      gi_loopw [16] (fun j wr => ∃ m : Nat, m ≤ (rdB l k).rs.length ∧ j = .int .i64 m ∧ Aside0 (∃ ys, J ys wr ∧ ys.map RI.pair = pairs (l.take k) ++ ((rdB l k).rs.take m).map fun r => (rdB l k, r)) ∧ KpB w0.heap.size (wo.alloc (.cells #[.bool (rdB l k).pk, .bool (rdB l k).mrk, .int .i64 (rdB l k).pr, .int .i64 (rdB l k).ep, .int .i64 (rdB l k).sq, .slice A5 (rdB l k).rs.length c5] 50)) wr) (fun j _ => (rdB l k).rs.length - (intOf j).toNat)
      case atStart =>
        obtain ⟨ys, hys, e⟩ := HS.out
        exact ⟨0, by omega, rfl, ⟨ys, HAL.out _ _ _ hys, by simpa using e⟩, KpB.refl _ _⟩
      case round =>
        obtain ⟨m, hm2, rfl, HS2, hkp⟩ := hrel
        have hbk := hkp.2 _ _ (blk_new wo _)
        have hbw : Below w0.heap.size w0 wr := (HB.out.alloc HB.out.size _).trans hkp.1
        have hbat := fun j => blk_cell hbk j
        have hbz := blk_lt hbk
        by_cases hlt2 : m < (rdB l k).rs.length
        · obtain ⟨ad', A3, c3, A6, c6, rfl, hR2⟩ := rec_at HRA.out.g5 m hlt2
          obtain ⟨q0, q1, q2, q3, q4, q5, -, -, -, -⟩ := hR2.below hbw
          have hin := And.intro hR2.inn (pairs_mem hlt hlt2)
          clear hR2
          obtain ⟨ys, hys, e⟩ := HS2.out
          have hlen : ys.length < (pairs l).length := by
            have h1 := congrArg List.length e
            rw [List.length_map, List.length_append, List.length_map, List.length_take, Nat.min_eq_left hm2] at h1
            have := pairs_len hlt hlt2
            omega
          have hE := Aside0.mk e; clear e
          obtain ⟨fn, tmps, assign, body, hy, hR3⟩ := HY.out ys ⟨⟨rdB l k, some ad', c5, rdR (rdB l k).rs m, A3, c3, A6, c6⟩, hin⟩ (wr.alloc (.cells #[.int .i64 (rdR (rdB l k).rs m).o, .int .i64 (rdR (rdB l k).rs m).t, .bool (rdR (rdB l k).rs m).hk, .slice A3 (rdR (rdB l k).rs m).k.length c3, .bool (rdR (rdB l k).rs m).hv, .slice A6 (rdR (rdB l k).rs m).v.length c6] 33)) (HAL.out _ _ _ hys) hlen
          dsimp only [RI.encs] at hy
          have HR3 := Aside0.mk hR3; clear hR3
          have HYS := Aside0.mk hys; clear hys
          have HKP := Aside0.mk hkp; clear hkp
          have HBW := Aside0.mk hbw; clear hbw
          have HBK := Aside0.mk hbk; clear hbk
          gi_wp2
          refine HR3.out.mono ?_
          rintro e W3 (⟨rfl, hJ3, hk3⟩ | ⟨rfl, hJx3⟩)
          · gi_wp2
            go_roundw
            case rel => exact ⟨m + 1, by omega, by go_num, ⟨_, hJ3, by rw [List.map_append, hE.out, rs_take hlt2, List.map_append, List.append_assoc]; rfl⟩, (HKP.out.alloc HBW.out.size _).t hk3⟩
            case measure => simp [intOf]; omega
          · gi_wp2
            refine bodyPost_ret (results_none rfl _ _ _) rfl ?_
            exact ⟨⟨_, rfl⟩, .inr ⟨_, trivial, hJx3⟩⟩
        · obtain rfl : m = (rdB l k).rs.length := by omega
          gi_wp2
          go_roundw
          case rel =>
            obtain ⟨ys, hys, e⟩ := HS2.out
            exact ⟨k + 1, by omega, by go_num, ⟨ys, hys, by rw [e, pairs_take hlt, List.take_length]⟩, hbw⟩
          case measure => simp [intOf]; omega
    · obtain rfl : k = l.length := by omega
      gi_wp2
      go_end0
      obtain ⟨ys, hys, e⟩ := HS.out
      rw [List.take_length] at e
      exact ⟨⟨_, rfl⟩, .inl ⟨ys, e, hys⟩⟩
end Go.Proofs.YtifejekkbipakaaDoor
