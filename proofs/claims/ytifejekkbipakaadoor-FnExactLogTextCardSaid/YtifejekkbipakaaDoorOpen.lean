/- A list of batches that comes in, opened: it reads as a plain list. (The first theorem after the kit's extra-structs page.) -/
import Derived.Test.YtifejekkbipakaaDoorKd
import Derived.Deep.Slices
import Derived.Deep.Fields
import Derived.ChangeSame
import Derived.OpenShut
import Derived.ProofKit
set_option linter.unusedVariables false
set_option linter.unusedSimpArgs false
namespace Go.Proofs.YtifejekkbipakaaDoor
open Go.ChangeShapes Go.WideShapes Go.Deep Go.RowKit Go.Proofs.YtifejekkbipakaaDoorW.PrintWords Go.Proofs.YtifejekkbipakaaDoorW.PrintLast
section
variable {H : Type} {enc : TypeId × Value → H} {P : Program} {w : World} {base : Nat} {spare : Nat → Bool} {held : Bool}
theorem open_slice_fields {t e : TypeId} {fs : Array Field} {fuel : Nat} {cs : List Value} {x : DataW H × List MemPlace} (ht : P.underlying t = some (.slice e)) (he : P.underlying e = some (.struct fs))
    (hone : oneCellFields P fs = true) (hC : P.cellsOf e = fs.size) (h : DataW.trod enc P w base spare held fuel t cs = some x) :
    (cs = [.slice none 0 0]) ∨
    ∃ (a : Addr) (len cap m : Nat), cs = [.slice (some a) len cap] ∧ len ≤ cap ∧ cap ≤ maxLen ∧ m = (if spare a.block then cap else len) ∧
      ∀ i, i < m → ∃ n : Nat, ∀ (j : Nat) (f : Field), fs[j]? = some f → ∃ (v : Value) (y : DataW H × List MemPlace), w.cell? (a.add (i * fs.size + j)) = some v ∧ DataW.trod enc P w base spare held n f.type [v] = some y := by
  rcases open_slice ht h with h0 | ⟨a, len, cap, m, n, D, Pl, hcs, hb, hl, hm, hmm, hx, hi⟩
  · exact .inl h0.1
  · refine .inr ⟨a, len, cap, m, hcs, hl, hm, hmm, fun i him => ?_⟩
    obtain ⟨cs', hc, ht'⟩ := hi i him
    rw [hC] at hc
    obtain ⟨ys, n', hn', hy, hlen, hyl, hf⟩ := DataW.trod_struct he ht'
    obtain ⟨_, hcl, hat⟩ := World.cells?_some hc
    refine ⟨n', fun j f hj => ?_⟩
    obtain ⟨ho, hk⟩ := hone_of hone j f hj
    have hjl : j < fs.size := (Array.getElem?_eq_some_iff.1 hj).1
    have hcell := hat j hjl
    have hv : cs'[j]? = some (cs'[j]'(by omega)) := List.getElem?_eq_getElem (by omega)
    have h1 := hf j f hj
    rw [ho, hk] at h1
    have hone' : (cs'.drop j).take 1 = [cs'[j]'(by omega)] := by
      rw [List.drop_eq_getElem_cons (by omega)]
      rfl
    rw [hone'] at h1
    have hys : ys[j]? = some (ys[j]'(by omega)) := List.getElem?_eq_getElem (by omega)
    exact ⟨_, _, by rw [← Go.Deep.add_add, hcell, hv], h1.trans hys⟩
theorem C_of_elems {α : Type} (d : Kd α) (a : Addr) : ∀ len : Nat, len ≤ 9223372036854775807 → (∀ i, i < len → ∃ (x : α) (c : List Value), c.length = d.sz ∧ d.K w x c ∧ ∀ (j : Nat) (u : Value), c[j]? = some u → w.cell? (a.add (i * d.sz + j)) = some u) →
    ∃ l : List α, l.length = len ∧ d.C w (some a) len l := by
  intro len hm h
  have hx0 : ∀ i, ∃ o : Option α, i < len → ∃ x c, o = some x ∧ c.length = d.sz ∧ d.K w x c ∧ ∀ (j : Nat) (u : Value), c[j]? = some u → w.cell? (a.add (i * d.sz + j)) = some u := by
    intro i
    by_cases hi : i < len
    · obtain ⟨x, c, hr⟩ := h i hi
      exact ⟨some x, fun _ => ⟨x, c, rfl, hr⟩⟩
    · exact ⟨none, fun h => absurd h hi⟩
  obtain ⟨f, hf⟩ : ∃ f : Nat → Option α, ∀ i, i < len → ∃ x c, f i = some x ∧ c.length = d.sz ∧ d.K w x c ∧ ∀ (j : Nat) (u : Value), c[j]? = some u → w.cell? (a.add (i * d.sz + j)) = some u :=
    ⟨fun i => Classical.choose (hx0 i), fun i => Classical.choose_spec (hx0 i)⟩
  clear hx0
  have hl : ∃ l : List α, l.length = len ∧ ∀ i, i < len → l[i]? = f i := by
    clear h hm
    induction len with
    | zero => exact ⟨[], rfl, fun i hi => absurd hi (by omega)⟩
    | succ n ih =>
      obtain ⟨l, h1, h2⟩ := ih (fun i hi => hf i (by omega))
      obtain ⟨x, _, e, _⟩ := hf n (by omega)
      refine ⟨l ++ [x], by simp [h1], fun i hi => ?_⟩
      rcases Nat.lt_or_ge i n with hlt | hge
      · rw [List.getElem?_append_left (by omega)]; exact h2 i hlt
      · obtain rfl : i = n := by omega
        rw [e, ← h1]; simp
  obtain ⟨l, h1, h2⟩ := hl
  refine ⟨l, h1, h1, hm, fun _ => ⟨a, rfl, fun j p hj => ?_⟩⟩
  have hjl : j < len := by have := (List.getElem?_eq_some_iff.1 hj).1; omega
  obtain ⟨x, c, e, hc, hk, hcell⟩ := hf j hjl
  have : x = p := by have := (h2 j hjl).symm.trans hj; rw [e] at this; exact Option.some.inj this
  subst this
  exact ⟨c, hc, hk, hcell⟩
end
section
variable {H : Type} {enc : TypeId × Value → H} {w : World}
/-- A slice of ints that came in. -/
theorem row_of {v : Value} {n : Nat} {y : DataW H × List MemPlace} (h : DataW.trod enc Tryd.prog w 0 (fun _ => true) true n 31 [v] = some y) :
    ∃ (A : Option Addr) (c : Nat) (l : List Int), v = .slice A l.length c ∧ l.length ≤ c ∧ intK.C w A l.length l := by
  rcases open_ints Tryd.underlying31 Tryd.underlying3 (by kernel_rfl) h with ⟨hcs, _⟩ | ⟨a, len, cap, zs, hcs, _, hl, hm, hz, _, hcell, _⟩
  · simp only [List.cons.injEq, and_true] at hcs
    subst hcs
    exact ⟨none, 0, [], rfl, Nat.le_refl _, Kd.C_of_reads (d := (0 : Int)) (h1 := fun _ => rfl) (ReadsInt.nil w .i64)⟩
  · simp only [List.cons.injEq, and_true] at hcs
    subst hcs
    simp only [maxLen] at hm
    rw [if_pos rfl] at hz
    have hlen : (zs.take len).length = len := by rw [List.length_take]; omega
    refine ⟨some a, cap, zs.take len, by rw [hlen], by rw [hlen]; exact hl, Kd.C_of_reads (d := (0 : Int)) (h1 := fun _ => rfl) (show ReadsInt w .i64 _ _ _ from ?_)⟩
    refine ⟨rfl, by rw [hlen]; omega, fun _ => ⟨a, rfl, fun j hj => ?_⟩⟩
    rw [hlen] at hj
    rw [hcell j (by omega)]
    simp [List.getD_eq_getElem?_getD, List.getElem?_take, hj]
theorem int_of {v : Value} {n : Nat} {y : DataW H × List MemPlace} (h : DataW.trod enc Tryd.prog w 0 (fun _ => true) true n 3 [v] = some y) : ∃ a : Int, v = .int .i64 a := by
  obtain ⟨a, e, _, _⟩ := DataW.trod_int Tryd.underlying3 h
  simp only [List.cons.injEq, and_true] at e
  exact ⟨a, e⟩
theorem bool_of {v : Value} {n : Nat} {y : DataW H × List MemPlace} (h : DataW.trod enc Tryd.prog w 0 (fun _ => true) true n 4 [v] = some y) : ∃ a : Bool, v = .bool a := by
  obtain ⟨a, e, _⟩ := DataW.trod_bool Tryd.underlying4 h
  simp only [List.cons.injEq, and_true] at e
  exact ⟨a, e⟩
/-- A slice of the law's records that came in. -/
theorem recs_of {v : Value} {n : Nat} {y : DataW H × List MemPlace} (h : DataW.trod enc Tryd.prog w 0 (fun _ => true) true n 64 [v] = some y) :
    ∃ (A : Option Addr) (c : Nat) (l : List Rec), v = .slice A l.length c ∧ l.length ≤ c ∧ recK.C w A l.length l := by
  rcases open_slice_fields Tryd.underlying64 Tryd.underlying97 (by kernel_rfl) (by kernel_rfl) h with hcs | ⟨a, len, cap, m, hcs, hl, hm, hmm, hi⟩
  · simp only [List.cons.injEq, and_true] at hcs
    subst hcs
    exact ⟨none, 0, [], rfl, Nat.le_refl _, rfl, by simp, fun h => absurd h (Nat.lt_irrefl 0)⟩
  · simp only [List.cons.injEq, and_true] at hcs
    subst hcs
    simp only [maxLen] at hm
    rw [if_pos rfl] at hmm
    replace hmm := hmm.symm
    subst hmm
    obtain ⟨l, e, hC⟩ := C_of_elems recK a len (by omega) (fun i him => by
      obtain ⟨n', hf⟩ := hi i (by omega)
      obtain ⟨v0, y0, g0, t0⟩ := hf 0 _ rfl
      obtain ⟨v1, y1, g1, t1⟩ := hf 1 _ rfl
      obtain ⟨v2, y2, g2, t2⟩ := hf 2 _ rfl
      obtain ⟨v3, y3, g3, t3⟩ := hf 3 _ rfl
      obtain ⟨v4, y4, g4, t4⟩ := hf 4 _ rfl
      obtain ⟨v5, y5, g5, t5⟩ := hf 5 _ rfl
      obtain ⟨b0, rfl⟩ := int_of t0
      obtain ⟨b1, rfl⟩ := int_of t1
      obtain ⟨b2, rfl⟩ := bool_of t2
      obtain ⟨A3, c3, b3, rfl, l3, r3⟩ := row_of t3
      obtain ⟨b4, rfl⟩ := bool_of t4
      obtain ⟨A5, c5, b5, rfl, l5, r5⟩ := row_of t5
      refine ⟨⟨b0, b1, b2, b3, b4, b5⟩, _, rfl, recK_mk w ⟨b0, b1, b2, b3, b4, b5⟩ l3 r3 l5 r5, fun j u hj => ?_⟩
      match j, hj with
      | 0, hj => cases hj; exact g0
      | 1, hj => cases hj; exact g1
      | 2, hj => cases hj; exact g2
      | 3, hj => cases hj; exact g3
      | 4, hj => cases hj; exact g4
      | 5, hj => cases hj; exact g5
      )
    exact ⟨some a, cap, l, by rw [e], by rw [e]; exact hl, by rw [e]; exact hC⟩
theorem bats_of {v : Value} {n : Nat} {y : DataW H × List MemPlace} (h : DataW.trod enc Tryd.prog w 0 (fun _ => true) true n 35 [v] = some y) :
    ∃ (A : Option Addr) (c : Nat) (l : List Bat), v = .slice A l.length c ∧ l.length ≤ c ∧ batK.C w A l.length l := by
  rcases open_slice_fields Tryd.underlying35 Tryd.underlying66 (by kernel_rfl) (by kernel_rfl) h with hcs | ⟨a, len, cap, m, hcs, hl, hm, hmm, hi⟩
  · simp only [List.cons.injEq, and_true] at hcs
    subst hcs
    exact ⟨none, 0, [], rfl, Nat.le_refl _, rfl, by simp, fun h => absurd h (Nat.lt_irrefl 0)⟩
  · simp only [List.cons.injEq, and_true] at hcs
    subst hcs
    simp only [maxLen] at hm
    rw [if_pos rfl] at hmm
    replace hmm := hmm.symm
    subst hmm
    obtain ⟨l, e, hC⟩ := C_of_elems batK a len (by omega) (fun i him => by
      obtain ⟨n', hf⟩ := hi i (by omega)
      obtain ⟨v0, y0, g0, t0⟩ := hf 0 _ rfl
      obtain ⟨v1, y1, g1, t1⟩ := hf 1 _ rfl
      obtain ⟨v2, y2, g2, t2⟩ := hf 2 _ rfl
      obtain ⟨v3, y3, g3, t3⟩ := hf 3 _ rfl
      obtain ⟨v4, y4, g4, t4⟩ := hf 4 _ rfl
      obtain ⟨v5, y5, g5, t5⟩ := hf 5 _ rfl
      obtain ⟨b0, rfl⟩ := bool_of t0
      obtain ⟨b1, rfl⟩ := bool_of t1
      obtain ⟨b2, rfl⟩ := int_of t2
      obtain ⟨b3, rfl⟩ := int_of t3
      obtain ⟨b4, rfl⟩ := int_of t4
      obtain ⟨A5, c5, b5, rfl, l5, r5⟩ := recs_of t5
      refine ⟨⟨b0, b1, b2, b3, b4, b5⟩, _, rfl, batK_mk w ⟨b0, b1, b2, b3, b4, b5⟩ l5 r5, fun j u hj => ?_⟩
      match j, hj with
      | 0, hj => cases hj; exact g0
      | 1, hj => cases hj; exact g1
      | 2, hj => cases hj; exact g2
      | 3, hj => cases hj; exact g3
      | 4, hj => cases hj; exact g4
      | 5, hj => cases hj; exact g5
      )
    exact ⟨some a, cap, l, by rw [e], by rw [e]; exact hl, by rw [e]; exact hC⟩
end
end Go.Proofs.YtifejekkbipakaaDoor
