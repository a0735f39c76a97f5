/- Records and batches in memory: how a row of them reads, and a region that draws its order while what it calls makes memory. -/
import Derived.Test.YtifejekkbipakaaDoorProg
import Derived.Below
import Derived.Deep.Draws
import Derived.Deep.AppendLies
import Derived.Maps.AppendAt
import Derived.OwnWalk
import Derived.Laws.BytesArg
import Derived.Laws.MakeOwn
import Derived.Laws.OwnMore
import Derived.Deep.OwnRows
import Derived.Tactics
import Derived.Lib.ConvBytes
import Derived.Lib.Hide
import Derived.Laws.Slices
import Derived.WalkKit
import Derived.KernelRfl
import Derived.RowKit3
import Derived.Deep.LoopGhost
import Derived.Deep.QuietTactic
import Derived.BigQuiet
import Derived.WideLaws
import Derived.Deep.DeepCutAuto
import Derived.Deep.CutBlock
import Derived.Outline
import Derived.Laws.Rows
import Derived.Lib.AppendStr
import Derived.ArgAppend
import Derived.Laws.IdiomCopy
import Derived.Laws.BitsLemmas
import Derived.RowKit
import Derived.Test.YtifejekkbipakaaDoorWWords
import Derived.Test.YtifejekkbipakaaDoorWLast
set_option linter.unusedVariables false
set_option linter.unusedSimpArgs false
namespace Go.Proofs.YtifejekkbipakaaDoor
open Go.RowKit Go.Proofs.YtifejekkbipakaaDoorW.PrintWords Go.Proofs.YtifejekkbipakaaDoorW.PrintLast

/-! records, batches -/
structure Rec where
  o : Int
  t : Int
  hk : Bool
  k : List Int
  hv : Bool
  v : List Int
structure Bat where
  pk : Bool
  mrk : Bool
  pr : Int
  ep : Int
  sq : Int
  rs : List Rec
def zRec : Rec := ⟨0, 0, false, [], false, []⟩
def zBat : Bat := ⟨false, false, 0, 0, 0, []⟩
abbrev intK : Kd Int := Kd.int .i64
def recK : Kd Rec := Kd.iso (Kd.pair intK (Kd.pair intK (Kd.pair Kd.bool (Kd.pair (Kd.slice 3 intK) (Kd.pair Kd.bool (Kd.slice 3 intK)))))) (fun x : Rec => (x.o, x.t, x.hk, x.k, x.hv, x.v))
def batK : Kd Bat := Kd.iso (Kd.pair Kd.bool (Kd.pair Kd.bool (Kd.pair intK (Kd.pair intK (Kd.pair intK (Kd.slice 33 recK)))))) (fun x : Bat => (x.pk, x.mrk, x.pr, x.ep, x.sq, x.rs))
/-- The cells of a record whose parts stand in these slices. -/
def rec6 (x : Rec) (a b : Value) : Array Value := #[.int .i64 x.o, .int .i64 x.t, .bool x.hk, a, .bool x.hv, b]
def bat6 (x : Bat) (a : Value) : Array Value := #[.bool x.pk, .bool x.mrk, .int .i64 x.pr, .int .i64 x.ep, .int .i64 x.sq, a]
theorem recK_open {w : World} {x : Rec} {cs : List Value} (h : recK.K w x cs) : ∃ A3 c3 A5 c5, cs = [.int .i64 x.o, .int .i64 x.t, .bool x.hk, .slice A3 x.k.length c3, .bool x.hv, .slice A5 x.v.length c5] ∧ x.k.length ≤ c3 ∧ intK.C w A3 x.k.length x.k ∧ x.v.length ≤ c5 ∧ intK.C w A5 x.v.length x.v := by
  obtain ⟨_, _, rfl, rfl, ⟨_, _, rfl, rfl, ⟨_, _, rfl, rfl, ⟨_, _, rfl, ⟨A3, c3, rfl, l3, g3⟩, ⟨_, _, rfl, rfl, ⟨A5, c5, rfl, l5, g5⟩⟩⟩⟩⟩⟩ := h
  exact ⟨A3, c3, A5, c5, rfl, l3, g3, l5, g5⟩
theorem recK_mk (w : World) (x : Rec) {A3 : Option Addr} {c3 : Nat} (l3 : x.k.length ≤ c3) (g3 : intK.C w A3 x.k.length x.k) {A5 : Option Addr} {c5 : Nat} (l5 : x.v.length ≤ c5) (g5 : intK.C w A5 x.v.length x.v) : recK.K w x [.int .i64 x.o, .int .i64 x.t, .bool x.hk, .slice A3 x.k.length c3, .bool x.hv, .slice A5 x.v.length c5] :=
  ⟨[.int .i64 x.o], _, rfl, rfl, ⟨[.int .i64 x.t], _, rfl, rfl, ⟨[.bool x.hk], _, rfl, rfl, ⟨[.slice A3 x.k.length c3], _, rfl, ⟨A3, c3, rfl, l3, g3⟩, ⟨[.bool x.hv], [.slice A5 x.v.length c5], rfl, rfl, ⟨A5, c5, rfl, l5, g5⟩⟩⟩⟩⟩⟩
theorem batK_open {w : World} {x : Bat} {cs : List Value} (h : batK.K w x cs) : ∃ A5 c5, cs = [.bool x.pk, .bool x.mrk, .int .i64 x.pr, .int .i64 x.ep, .int .i64 x.sq, .slice A5 x.rs.length c5] ∧ x.rs.length ≤ c5 ∧ recK.C w A5 x.rs.length x.rs := by
  obtain ⟨_, _, rfl, rfl, ⟨_, _, rfl, rfl, ⟨_, _, rfl, rfl, ⟨_, _, rfl, rfl, ⟨_, _, rfl, rfl, ⟨A5, c5, rfl, l5, g5⟩⟩⟩⟩⟩⟩ := h
  exact ⟨A5, c5, rfl, l5, g5⟩
theorem batK_mk (w : World) (x : Bat) {A5 : Option Addr} {c5 : Nat} (l5 : x.rs.length ≤ c5) (g5 : recK.C w A5 x.rs.length x.rs) : batK.K w x [.bool x.pk, .bool x.mrk, .int .i64 x.pr, .int .i64 x.ep, .int .i64 x.sq, .slice A5 x.rs.length c5] :=
  ⟨[.bool x.pk], _, rfl, rfl, ⟨[.bool x.mrk], _, rfl, rfl, ⟨[.int .i64 x.pr], _, rfl, rfl, ⟨[.int .i64 x.ep], _, rfl, rfl, ⟨[.int .i64 x.sq], [.slice A5 x.rs.length c5], rfl, rfl, ⟨A5, c5, rfl, l5, g5⟩⟩⟩⟩⟩⟩
def rdR (xs : List Rec) (i : Nat) : Rec := xs.getD i zRec
def rdB (xs : List Bat) (i : Nat) : Bat := xs.getD i zBat
/-- The k-th of a row of records: its address, its cells, its parts. -/
structure RecAt (w : World) (ad : Addr) (x : Rec) (A3 : Option Addr) (c3 : Nat) (A5 : Option Addr) (c5 : Nat) : Prop where
  h0 : w.cell? ad = some (.int .i64 x.o)
  h1 : w.cell? ⟨ad.block, ad.off + 1, none⟩ = some (.int .i64 x.t)
  h2 : w.cell? ⟨ad.block, ad.off + 2, none⟩ = some (.bool x.hk)
  h3 : w.cell? ⟨ad.block, ad.off + 3, none⟩ = some (.slice A3 x.k.length c3)
  h4 : w.cell? ⟨ad.block, ad.off + 4, none⟩ = some (.bool x.hv)
  h5 : w.cell? ⟨ad.block, ad.off + 5, none⟩ = some (.slice A5 x.v.length c5)
  l3 : x.k.length ≤ c3
  g3 : intK.C w A3 x.k.length x.k
  l5 : x.v.length ≤ c5
  g5 : intK.C w A5 x.v.length x.v
structure BatAt (w : World) (ad : Addr) (x : Bat) (A5 : Option Addr) (c5 : Nat) : Prop where
  h0 : w.cell? ad = some (.bool x.pk)
  h1 : w.cell? ⟨ad.block, ad.off + 1, none⟩ = some (.bool x.mrk)
  h2 : w.cell? ⟨ad.block, ad.off + 2, none⟩ = some (.int .i64 x.pr)
  h3 : w.cell? ⟨ad.block, ad.off + 3, none⟩ = some (.int .i64 x.ep)
  h4 : w.cell? ⟨ad.block, ad.off + 4, none⟩ = some (.int .i64 x.sq)
  h5 : w.cell? ⟨ad.block, ad.off + 5, none⟩ = some (.slice A5 x.rs.length c5)
  l5 : x.rs.length ≤ c5
  g5 : recK.C w A5 x.rs.length x.rs
theorem rec_at {w : World} {A : Option Addr} {n : Nat} {xs : List Rec} (h : recK.C w A n xs) (i : Nat) (h1 : i < n) : ∃ ad A3 c3 A5 c5, A = some ad ∧ RecAt w (ad.add (i * 6)) (rdR xs i) A3 c3 A5 c5 := by
  obtain ⟨ad, c, e, _, hK, hc0⟩ := Kd.C_get h zRec (i : Int) (by omega) (by omega)
  have hc : ∀ j u, c[j]? = some u → w.cell? (ad.add (i * 6 + j)) = some u := hc0
  have hK : recK.K w (rdR xs i) c := hK
  obtain ⟨A3, c3, A5, c5, rfl, l3, g3, l5, g5⟩ := recK_open hK
  exact ⟨ad, A3, c3, A5, c5, e, hc 0 _ rfl, by rw [← add_field _ _ 1 (by omega)]; exact hc 1 _ rfl, by rw [← add_field _ _ 2 (by omega)]; exact hc 2 _ rfl, by rw [← add_field _ _ 3 (by omega)]; exact hc 3 _ rfl, by rw [← add_field _ _ 4 (by omega)]; exact hc 4 _ rfl, by rw [← add_field _ _ 5 (by omega)]; exact hc 5 _ rfl, l3, g3, l5, g5⟩
theorem bat_at {w : World} {A : Option Addr} {n : Nat} {xs : List Bat} (h : batK.C w A n xs) (i : Nat) (h1 : i < n) : ∃ ad A5 c5, A = some ad ∧ BatAt w (ad.add (i * 6)) (rdB xs i) A5 c5 := by
  obtain ⟨ad, c, e, _, hK, hc0⟩ := Kd.C_get h zBat (i : Int) (by omega) (by omega)
  have hc : ∀ j u, c[j]? = some u → w.cell? (ad.add (i * 6 + j)) = some u := hc0
  have hK : batK.K w (rdB xs i) c := hK
  obtain ⟨A5, c5, rfl, l5, g5⟩ := batK_open hK
  exact ⟨ad, A5, c5, e, hc 0 _ rfl, by rw [← add_field _ _ 1 (by omega)]; exact hc 1 _ rfl, by rw [← add_field _ _ 2 (by omega)]; exact hc 2 _ rfl, by rw [← add_field _ _ 3 (by omega)]; exact hc 3 _ rfl, by rw [← add_field _ _ 4 (by omega)]; exact hc 4 _ rfl, by rw [← add_field _ _ 5 (by omega)]; exact hc 5 _ rfl, l5, g5⟩
theorem RecAt.below {w w1 : World} {ad : Addr} {x : Rec} {A3 : Option Addr} {c3 : Nat} {A5 : Option Addr} {c5 : Nat} (h : RecAt w ad x A3 c3 A5 c5) (hb : Below w.heap.size w w1) : RecAt w1 ad x A3 c3 A5 c5 :=
  ⟨pw_cell_below hb h.h0, pw_cell_below hb h.h1, pw_cell_below hb h.h2, pw_cell_below hb h.h3, pw_cell_below hb h.h4, pw_cell_below hb h.h5, h.l3, Kd.C_below h.g3 hb, h.l5, Kd.C_below h.g5 hb⟩
theorem BatAt.below {w w1 : World} {ad : Addr} {x : Bat} {A5 : Option Addr} {c5 : Nat} (h : BatAt w ad x A5 c5) (hb : Below w.heap.size w w1) : BatAt w1 ad x A5 c5 :=
  ⟨pw_cell_below hb h.h0, pw_cell_below hb h.h1, pw_cell_below hb h.h2, pw_cell_below hb h.h3, pw_cell_below hb h.h4, pw_cell_below hb h.h5, h.l5, Kd.C_below h.g5 hb⟩

/-! what a call gives: a value, and nothing that was has turned -/
def RB (v : Value) (w : World) (e : Ending) (w' : World) : Prop := e = .returned v ∧ Below w.heap.size w w'

/-- .. and the world as it was. -/
def RS (v : Value) (w : World) (e : Ending) (w' : World) : Prop := e = .returned v ∧ w = w'
theorem ret_bool {a b : Bool} (h : a = b) : Ending.returned (.bool a) = .returned (.bool b) := by rw [h]
theorem RB.refl (v : Value) (w : World) : RB v w (.returned v) w := ⟨rfl, Below.refl _ _⟩
/-- A record, a batch that a call has in hand: its parts read as lists. -/
structure RecIn (w : World) (x : Rec) (A3 : Option Addr) (c3 : Nat) (A5 : Option Addr) (c5 : Nat) : Prop where
  l3 : x.k.length ≤ c3
  g3 : intK.C w A3 x.k.length x.k
  l5 : x.v.length ≤ c5
  g5 : intK.C w A5 x.v.length x.v
theorem RecIn.below {w w1 : World} {x : Rec} {A3 : Option Addr} {c3 : Nat} {A5 : Option Addr} {c5 : Nat} (h : RecIn w x A3 c3 A5 c5) (hb : Below w.heap.size w w1) : RecIn w1 x A3 c3 A5 c5 := ⟨h.l3, Kd.C_below h.g3 hb, h.l5, Kd.C_below h.g5 hb⟩
theorem RecAt.inn {w : World} {ad : Addr} {x : Rec} {A3 : Option Addr} {c3 : Nat} {A5 : Option Addr} {c5 : Nat} (h : RecAt w ad x A3 c3 A5 c5) : RecIn w x A3 c3 A5 c5 := ⟨h.l3, h.g3, h.l5, h.g5⟩
structure BatIn (w : World) (x : Bat) (A5 : Option Addr) (c5 : Nat) : Prop where
  l5 : x.rs.length ≤ c5
  g5 : recK.C w A5 x.rs.length x.rs
theorem BatIn.below {w w1 : World} {x : Bat} {A5 : Option Addr} {c5 : Nat} (h : BatIn w x A5 c5) (hb : Below w.heap.size w w1) : BatIn w1 x A5 c5 := ⟨h.l5, Kd.C_below h.g5 hb⟩
theorem BatAt.inn {w : World} {ad : Addr} {x : Bat} {A5 : Option Addr} {c5 : Nat} (h : BatAt w ad x A5 c5) : BatIn w x A5 c5 := ⟨h.l5, h.g5⟩
/-- A box of the call's own behind a callee: what lies below it, its cells, its place. -/
theorem boxed {w w1 : World} {cs : Array Value} {t : TypeId} (hb' : Below (w.alloc (.cells cs t)).heap.size (w.alloc (.cells cs t)) w1) : Below w.heap.size w w1 ∧ (∀ j, w1.cell? ⟨w.heap.size, j, none⟩ = cs[j]?) ∧ w1.heap[w.heap.size]? = some (.cells cs t (0, 0)) ∧ w.heap.size < w1.heap.size := by
  have k := blk_below (blk_new w (.cells cs t)) hb'
  exact ⟨below_step (below_alloc (Below.refl _ _) _) hb', fun j => blk_cell k j, k, blk_lt k⟩

structure BW (w0 : World) where
  w : World
  h : Below w0.heap.size w0 w
instance (w : World) : Nonempty (BW w) := ⟨⟨w, Below.refl _ _⟩⟩
/-- What stood in a box laid last, in every world behind. -/
theorem BW.cells {w : World} {cs : Array Value} {t : TypeId} {W : World} (hW : W = w.alloc (.cells cs t)) : ∀ (n : BW W) (j : Nat), n.w.cell? ⟨w.heap.size, j, none⟩ = cs[j]? := fun n j => by
  have k := blk_below (hW ▸ blk_new w (.cells cs t) : W.heap[w.heap.size]? = some (.cells cs t (0, 0))) n.h
  exact blk_cell k j
theorem BW.cell {w : World} {o : Obj} {W : World} (hW : W = w.alloc o) {a : Addr} {v : Value} (h : w.cell? a = some v) : ∀ n : BW W, n.w.cell? a = some v := fun n =>
  pw_cell_below n.h (by rw [hW]; exact pw_cell_below (below_alloc (Below.refl _ _) _) h)
theorem BW.cellE {w W : World} (hW : W = w) {a : Addr} {v : Value} (h : w.cell? a = some v) : ∀ n : BW W, n.w.cell? a = some v := fun n => by
  subst hW
  exact pw_cell_below n.h h
theorem BW.oldE {w W : World} (hW : W = w) (n : BW W) : Below w.heap.size w n.w := by
  subst hW
  exact n.h
theorem BW.old {w : World} {o : Obj} {W : World} (hW : W = w.alloc o) (n : BW W) : Below w.heap.size w n.w := by
  subst hW
  exact below_step (below_alloc (Below.refl _ _) _) n.h

/-! a region that draws its order, whose callees make memory: each operation yields one value in every world that keeps what was -/
section
variable {P : Program}
theorem wp_region_below {id : Nat} {Q : Exit → Act → World → Prop} {a : Act} {w : World} {l : List Oper} (hm : P.follows .mixedOrders = true) (hB : Region.lexB .any l.toArray = true)
    (h : wpQuiet P l.toArray (fun w' => ∃ n : BW w, w' = n.w) (fun a' => ∀ w', (∃ n : BW w, w' = n.w) → Q .normal a' w') l a) : (Code.region id l.toArray true).wp P Q a w :=
  wp_region_quiet (C := fun w' => ∃ n : BW w, w' = n.w) hm hB ⟨⟨w.drew, below_drew (Below.refl _ _)⟩, rfl⟩ (by simpa using h)
theorem wp_region_belowW {id : Nat} {Q : Exit → Act → World → Prop} {a : Act} {w : World} {l : List Oper} (hm : P.follows .mixedOrders = true) (hB : Region.lexB .any l.toArray = true)
    (h : ∀ W, W = w → wpQuiet P l.toArray (fun w' => ∃ n : BW W, w' = n.w) (fun a' => ∀ w', (∃ n : BW W, w' = n.w) → Q .normal a' w') l a) : (Code.region id l.toArray true).wp P Q a w :=
  wp_region_below hm hB (h w rfl)
theorem BW.call {f : FuncId} {args : Array Value} {w : World} {n : BW w} {v : Value} (h : Calls P f args n.w (RB v n.w)) : Calls P f args n.w fun e w'' => e = .returned v ∧ ∃ m : BW w, w'' = m.w :=
  h.mono fun _ w2 ⟨he, hb⟩ => ⟨he, ⟨w2, below_step n.h hb⟩, rfl⟩
end
end Go.Proofs.YtifejekkbipakaaDoor
