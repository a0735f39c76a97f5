/- Short words for the printed walks: what is known of an older world holds in the one at hand; each step is found by the word's own default. -/
import Derived.Test.YtlijpnglocgldaaDoorWWords
import Derived.Test.YtlijpnglocgldaaDoorWLast
set_option linter.unusedVariables false
set_option linter.unusedSimpArgs false
namespace Go.Proofs.YtlijpnglocgldaaDoor.P
open Go.RowKit Go.Proofs.YtlijpnglocgldaaDoorW.PrintWords Go.Proofs.YtlijpnglocgldaaDoorW.PrintLast
theorem kr {α : Type} {d : Kd α} {e : Nat} {w w1 : World} {base : Nat} {ok : Nat → Prop} {v : Value} {xs : List α} (h : Aside0 (d.R e w base ok v xs))
    (s : d.R e w base ok v xs → d.R e w1 base ok v xs := by intro h_; (with_reducible repeat (first | apply Kd.R_alloc | apply Kd.R_drewN | apply Kd.R_drew)); exact h_) : d.R e w1 base ok v xs := s h.out
theorem kb {w w1 : World} {g : Nat} {o : Obj} (h : Aside0 (w.heap[g]? = some o))
    (s : w.heap[g]? = some o → w1.heap[g]? = some o := by intro h_; (with_reducible repeat (first | refine blk_drewN ?_ _ | refine blk_drew ?_ | refine blk_alloc ?_ _)); exact h_) : w1.heap[g]? = some o := s h.out
theorem kB0 {n : Nat} {w w1 w2 : World} (h : Aside0 (Below n w w1))
    (s : Below n w w1 → Below n w w2 := by intro h_; repeat (first | (with_reducible first | exact h_ | apply below_alloc | apply pw_below_drewN | apply below_drew1) | exact h_)) : Below n w w2 := s h.out
theorem kB1 {n a : Nat} {w w1 w2 : World} (h : Aside0 (Below n w w1)) (ga : Aside0 (n ≤ a))
    (s : Below n w w1 → n ≤ a → Below n w w2 := by intro h_ a_; repeat (first | (with_reducible first | exact h_ | apply below_alloc | apply pw_below_drewN | apply below_drew1 | refine below_set ?_ a_) | exact h_)) : Below n w w2 := s h.out ga.out
theorem kB2 {n a b : Nat} {w w1 w2 : World} (h : Aside0 (Below n w w1)) (ga : Aside0 (n ≤ a)) (gb : Aside0 (n ≤ b))
    (s : Below n w w1 → n ≤ a → n ≤ b → Below n w w2 := by intro h_ a_ b_; repeat (first | (with_reducible first | exact h_ | apply below_alloc | apply pw_below_drewN | apply below_drew1 | refine below_set ?_ a_ | refine below_set ?_ b_) | exact h_)) : Below n w w2 := s h.out ga.out gb.out
theorem kB3 {n a b c : Nat} {w w1 w2 : World} (h : Aside0 (Below n w w1)) (ga : Aside0 (n ≤ a)) (gb : Aside0 (n ≤ b)) (gc : Aside0 (n ≤ c))
    (s : Below n w w1 → n ≤ a → n ≤ b → n ≤ c → Below n w w2 := by intro h_ a_ b_ c_; repeat (first | (with_reducible first | exact h_ | apply below_alloc | apply pw_below_drewN | apply below_drew1 | refine below_set ?_ a_ | refine below_set ?_ b_ | refine below_set ?_ c_) | exact h_)) : Below n w w2 := s h.out ga.out gb.out gc.out
theorem kB4 {n a b c d : Nat} {w w1 w2 : World} (h : Aside0 (Below n w w1)) (ga : Aside0 (n ≤ a)) (gb : Aside0 (n ≤ b)) (gc : Aside0 (n ≤ c)) (gd : Aside0 (n ≤ d))
    (s : Below n w w1 → n ≤ a → n ≤ b → n ≤ c → n ≤ d → Below n w w2 := by intro h_ a_ b_ c_ d_; repeat (first | (with_reducible first | exact h_ | apply below_alloc | apply pw_below_drewN | apply below_drew1 | refine below_set ?_ a_ | refine below_set ?_ b_ | refine below_set ?_ c_ | refine below_set ?_ d_) | exact h_)) : Below n w w2 := s h.out ga.out gb.out gc.out gd.out
end Go.Proofs.YtlijpnglocgldaaDoor.P
