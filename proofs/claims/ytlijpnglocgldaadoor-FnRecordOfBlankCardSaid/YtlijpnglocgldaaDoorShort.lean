/- Short words for the printed walks: what is known of an older world holds in the one at hand; each step is found by the word's own default. -/
import Derived.Test.YtlijpnglocgldaaDoorWWords
import Derived.Test.YtlijpnglocgldaaDoorWLast
set_option linter.unusedVariables false
set_option linter.unusedSimpArgs false
namespace Go.Proofs.YtlijpnglocgldaaDoor.P
open Go.RowKit Go.Proofs.YtlijpnglocgldaaDoorW.PrintWords Go.Proofs.YtlijpnglocgldaaDoorW.PrintLast
theorem kr {α : Type} {d : Kd α} {e : Nat} {w w1 : World} {base : Nat} {ok : Nat → Prop} {v : Value} {xs : List α} (h : Aside0 (d.R e w base ok v xs))
    (s : d.R e w base ok v xs → d.R e w1 base ok v xs := by intro h_; (with_reducible repeat (first | apply Kd.R_alloc | apply Kd.R_drewN | apply Kd.R_drew)); exact h_) : d.R e w1 base ok v xs := s h.out
theorem kb {w w1 : World} {g : Nat} {o : Obj} (h : Aside0 (w.heap[g]? = some o))
    (s : w.heap[g]? = some o → w1.heap[g]? = some o := by intro h_; (with_reducible repeat (first | refine blk_drewN ?_ _ | refine blk_drew ?_ | refine blk_alloc ?_ _)); exact h_) : w1.heap[g]? = some o := s h.out
theorem kB0 {n : Nat} {w w1 w2 : World} (h : Aside0 (Below n w w1))
    (s : Below n w w1 → Below n w w2 := by intro h_; repeat (first | (with_reducible first | exact h_ | apply below_alloc | apply pw_below_drewN | apply below_drew1) | exact h_)) : Below n w w2 := s h.out
theorem kB1 {n a : Nat} {w w1 w2 : World} (h : Aside0 (Below n w w1)) (ga : Aside0 (n ≤ a))
    (s : Below n w w1 → n ≤ a → Below n w w2 := by intro h_ a_; repeat (first | (with_reducible first | exact h_ | apply below_alloc | apply pw_below_drewN | apply below_drew1 | refine below_set ?_ a_) | exact h_)) : Below n w w2 := s h.out ga.out
theorem kB2 {n a b : Nat} {w w1 w2 : World} (h : Aside0 (Below n w w1)) (ga : Aside0 (n ≤ a)) (gb : Aside0 (n ≤ b))
    (s : Below n w w1 → n ≤ a → n ≤ b → Below n w w2 := by intro h_ a_ b_; repeat (first | (with_reducible first | exact h_ | apply below_alloc | apply pw_below_drewN | apply below_drew1 | refine below_set ?_ a_ | refine below_set ?_ b_) | exact h_)) : Below n w w2 := s h.out ga.out gb.out
theorem kB3 {n a b c : Nat} {w w1 w2 : World} (h : Aside0 (Below n w w1)) (ga : Aside0 (n ≤ a)) (gb : Aside0 (n ≤ b)) (gc : Aside0 (n ≤ c))
    (s : Below n w w1 → n ≤ a → n ≤ b → n ≤ c → Below n w w2 := by intro h_ a_ b_ c_; repeat (first | (with_reducible first | exact h_ | apply below_alloc | apply pw_below_drewN | apply below_drew1 | refine below_set ?_ a_ | refine below_set ?_ b_ | refine below_set ?_ c_) | exact h_)) : Below n w w2 := s h.out ga.out gb.out gc.out
theorem kB4 {n a b c d : Nat} {w w1 w2 : World} (h : Aside0 (Below n w w1)) (ga : Aside0 (n ≤ a)) (gb : Aside0 (n ≤ b)) (gc : Aside0 (n ≤ c)) (gd : Aside0 (n ≤ d))
    (s : Below n w w1 → n ≤ a → n ≤ b → n ≤ c → n ≤ d → Below n w w2 := by intro h_ a_ b_ c_ d_; repeat (first | (with_reducible first | exact h_ | apply below_alloc | apply pw_below_drewN | apply below_drew1 | refine below_set ?_ a_ | refine below_set ?_ b_ | refine below_set ?_ c_ | refine below_set ?_ d_) | exact h_)) : Below n w w2 := s h.out ga.out gb.out gc.out gd.out
theorem kf {α : Type} {d : Kd α} {e : Nat} {w w1 : World} {base g t : Nat} {ok : Nat → Prop} {v : Value} {xs : List α} {cs : Array Value} (h : Aside0 (d.R e w base ok v xs)) (bk : Aside0 (w.heap[g]? = some (.cells cs t (0, 0)))) (ht : ∀ q, q ∈ e :: d.E → q ≠ t := by decide)
    (s : d.R e w base (fun k => ok k ∧ k ≠ g) v xs → d.R e w1 base (fun k => ok k ∧ k ≠ g) v xs := by intro h_; repeat (first | (with_reducible first | exact h_ | apply Kd.R_alloc | apply Kd.R_drewN | apply Kd.R_drew) | refine Kd.R_far ?_ (fun _ hk_ => hk_.2) _ | exact h_)) : d.R e w1 base ok v xs :=
  Kd.R_mono (s (Kd.R_types h.out bk.out ht)) (fun _ h_ => h_.1)
theorem kbf {w w1 : World} {g g' : Nat} {o : Obj} (h : Aside0 (w.heap[g]? = some o)) (nb : Aside0 (g ≠ g'))
    (s : w.heap[g]? = some o → g ≠ g' → w1.heap[g]? = some o := by intro h_ n_; repeat (first | (with_reducible first | exact h_ | refine blk_drewN ?_ _ | refine blk_drew ?_ | refine blk_alloc ?_ _) | refine blk_far ?_ n_ _ | exact h_)) : w1.heap[g]? = some o := s h.out nb.out
theorem set6 {w : World} {g t : Nat} {c0 c1 c2 c3 c4 c5 : Value} (h : w.heap[g]? = some (.cells #[c0, c1, c2, c3, c4, c5] t (0, 0))) (u0 u1 u2 u3 u4 u5 : Value) :
    ((((((w.setCell ⟨g, 0, none⟩ u0).setCell ⟨g, 1, none⟩ u1).setCell ⟨g, 2, none⟩ u2).setCell ⟨g, 3, none⟩ u3).setCell ⟨g, 4, none⟩ u4).setCell ⟨g, 5, none⟩ u5).heap[g]? = some (.cells #[u0, u1, u2, u3, u4, u5] t (0, 0)) :=
  blk_put (cs := #[u0, u1, u2, u3, u4, c5]) (blk_put (cs := #[u0, u1, u2, u3, c4, c5]) (blk_put (cs := #[u0, u1, u2, c3, c4, c5]) (blk_put (cs := #[u0, u1, c2, c3, c4, c5]) (blk_put (cs := #[u0, c1, c2, c3, c4, c5]) (blk_put (cs := #[c0, c1, c2, c3, c4, c5]) h 0 u0 rfl) 1 u1 rfl) 2 u2 rfl) 3 u3 rfl) 4 u4 rfl) 5 u5 rfl
theorem kbp6 {w w1 : World} {g t : Nat} {c0 c1 c2 c3 c4 c5 : Value} {cs' : Array Value} {u0 u1 u2 u3 u4 u5 : Value} (h : Aside0 (w.heap[g]? = some (.cells #[c0, c1, c2, c3, c4, c5] t (0, 0))))
    (s : ((((((w.setCell ⟨g, 0, none⟩ u0).setCell ⟨g, 1, none⟩ u1).setCell ⟨g, 2, none⟩ u2).setCell ⟨g, 3, none⟩ u3).setCell ⟨g, 4, none⟩ u4).setCell ⟨g, 5, none⟩ u5).heap[g]? = some (.cells #[u0, u1, u2, u3, u4, u5] t (0, 0)) → w1.heap[g]? = some (.cells cs' t (0, 0)) := by
      intro h_; (with_reducible repeat (first | refine blk_drewN ?_ _ | refine blk_drew ?_ | refine blk_alloc ?_ _)); exact h_) : w1.heap[g]? = some (.cells cs' t (0, 0)) :=
  s (set6 h.out u0 u1 u2 u3 u4 u5)
theorem kK0 {w w1 w2 : World} {g : Nat} {row : Option Nat} (h : Aside0 (KeepBut w w1 g row))
    (s : KeepBut w w1 g row → KeepBut w w2 g row := by intro h_; repeat (first | (with_reducible first | exact h_ | apply KeepBut.set_ | apply keep_drewN | apply keep_drew | apply keep_alloc) | exact h_)) : KeepBut w w2 g row := s h.out
theorem kK1 {w w1 w2 : World} {g a : Nat} {row : Option Nat} (h : Aside0 (KeepBut w w1 g row)) (ga : Aside0 (w.heap.size ≤ a))
    (s : KeepBut w w1 g row → w.heap.size ≤ a → KeepBut w w2 g row := by intro h_ a_; repeat (first | (with_reducible first | exact h_ | apply KeepBut.set_ | apply keep_drewN | apply keep_drew | apply keep_alloc | refine keep_far ?_ a_ _) | exact h_)) : KeepBut w w2 g row := s h.out ga.out
theorem kK2 {w w1 w2 : World} {g a b : Nat} {row : Option Nat} (h : Aside0 (KeepBut w w1 g row)) (ga : Aside0 (w.heap.size ≤ a)) (gb : Aside0 (w.heap.size ≤ b))
    (s : KeepBut w w1 g row → w.heap.size ≤ a → w.heap.size ≤ b → KeepBut w w2 g row := by intro h_ a_ b_; repeat (first | (with_reducible first | exact h_ | apply KeepBut.set_ | apply keep_drewN | apply keep_drew | apply keep_alloc | refine keep_far ?_ a_ _ | refine keep_far ?_ b_ _) | exact h_)) : KeepBut w w2 g row := s h.out ga.out gb.out
end Go.Proofs.YtlijpnglocgldaaDoor.P
