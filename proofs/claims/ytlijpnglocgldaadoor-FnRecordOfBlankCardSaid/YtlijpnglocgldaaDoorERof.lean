/- impl.RecordOf: its contract in the printer's form, walked by hand: words, an array of checks, a record built field by field. -/
import Derived.Test.YtlijpnglocgldaaDoorShelf
import Derived.Test.YtlijpnglocgldaaDoorGok
import Derived.Test.YtlijpnglocgldaaDoorQ0
import Derived.Test.YtlijpnglocgldaaDoorQ3
import Derived.Lib.Hide
set_option linter.unusedVariables false
set_option linter.unusedSimpArgs false
namespace Go.Proofs.YtlijpnglocgldaaDoor
open Go.RowKit Go.Proofs.YtlijpnglocgldaaDoorW.PrintWords Go.Proofs.YtlijpnglocgldaaDoorW.PrintLast Go.Proofs.YtlijpnglocgldaaDoorW.PrintMore Go.Proofs.YtlijpnglocgldaaDoor.P

def splitW (s : ByteArray) : List ByteArray := Lib.splitB ⟨#[32]⟩ 0 (Lib.countB s ⟨#[32]⟩) s
def impl_RecordOf.f (k : Nat) (a0 : ByteArray) : Option (Int × Int × Bool × List Int × Bool × List Int × Bool) :=
  if a0.size ≤ 1073741824 then
    match splitW a0 with
    | [w0, w1, w2, w3] =>
      (impl_numberOf.f k w0).bind fun n0 => (impl_numberOf.f k w1).bind fun n1 => (impl_partOf.f k w2).bind fun p2 => (impl_partOf.f k w3).bind fun p3 =>
      if (n0.2 && n1.2 && p2.2.2 && p3.2.2) = true then
        (impl_RecordValid.f k n0.1 n1.1 p2.1 p2.2.1 p3.1 p3.2.1).bind fun v => if v = true then some (n0.1, n1.1, p2.1, p2.2.1, p3.1, p3.2.1, true) else some (0, 0, false, [], false, [], false)
      else some (0, 0, false, [], false, [], false)
    | _ => some (0, 0, false, [], false, [], false)
  else none
theorem impl_RecordOf.mono : ∀ a0 k, LeO (impl_RecordOf.f k a0) (impl_RecordOf.f (k + 1) a0) := by
  intro a0 k
  unfold impl_RecordOf.f
  refine LeO.ite ?_ (LeO.refl _)
  split
  · refine LeO.bind (impl_numberOf.mono _ _) fun _ => LeO.bind (impl_numberOf.mono _ _) fun _ => LeO.bind (impl_partOf.mono _ _) fun _ => LeO.bind (impl_partOf.mono _ _) fun _ => LeO.ite ?_ (LeO.refl _)
    exact LeO.bind (impl_RecordValid.mono _ _ _ _ _ _ _) fun _ => LeO.refl _
  · exact LeO.refl _
theorem calls_at {P : Program} {f : FuncId} {args : Array Value} {w : World} {R : Ending → World → Prop} (h : ∀ W, W = w → Calls P f args W R) : Calls P f args w R := h w rfl
/-- A block that is known whole: each of its cells, for the walk. -/
theorem blkc {W : World} {b : Nat} {cs : Array Value} {t : TypeId} (h : W.heap[b]? = some (.cells cs t (0, 0))) : (∀ j, W.cell? ⟨b, j, none⟩ = cs[j]?) ∧ (∀ j, W.frozen? ⟨b, j, none⟩ = false) :=
  ⟨fun j => blk_cell h j, fun j => blk_frozen h j⟩
theorem neq4 (W : World) (a b c d : Bool) : (binOp .neq 52 (.agg #[.bool a, .bool b, .bool c, .bool d]) (.agg #[.bool true, .bool true, .bool true, .bool true])).run Tryd.prog W = .ok (.bool (!(a && b && c && d))) W := by
  cases a <;> cases b <;> cases c <;> cases d <;> kernel_rfl
/-- Where the four blocks of the call stand: the result, the words, the record, the checks. -/
structure RofSt (w W : World) (ws cs2 cs3 : Array Value) : Prop where
  z : w.heap.size + 4 ≤ W.heap.size
  b : Below w.heap.size w W
  k0 : W.heap[w.heap.size]? = some (.cells #[.int .i64 0, .int .i64 0, .bool false, .slice none 0 0, .bool false, .slice none 0 0] 27 (0, 0))
  k1 : W.heap[w.heap.size + 1]? = some (.cells ws 9 (0, 0))
  k2 : W.heap[w.heap.size + 1 + 1]? = some (.cells cs2 27 (0, 0))
  k3 : W.heap[w.heap.size + 1 + 1 + 1]? = some (.cells cs3 52 (0, 0))
theorem RofSt.drewN {w W : World} {ws cs2 cs3 : Array Value} (h : RofSt w W ws cs2 cs3) (n : Nat) : RofSt w (W.drewN n) ws cs2 cs3 := ⟨h.z, pw_below_drewN h.b n, h.k0, h.k1, h.k2, h.k3⟩
theorem RofSt.below {w W W1 : World} {ws cs2 cs3 : Array Value} (h : RofSt w W ws cs2 cs3) (hb : Below W.heap.size W W1) : RofSt w W1 ws cs2 cs3 :=
  ⟨Nat.le_trans h.z hb.size, below_step h.b hb, blk_below h.k0 hb, blk_below h.k1 hb, blk_below h.k2 hb, blk_below h.k3 hb⟩
theorem RofSt.set2 {w W : World} {ws cs2 cs3 : Array Value} (h : RofSt w W ws cs2 cs3) (j : Nat) (v : Value) {cs : Array Value} (hc : cs2.setIfInBounds j v = cs) : RofSt w (W.setCell ⟨w.heap.size + 1 + 1, j, none⟩ v) ws cs cs3 := by
  subst hc
  exact ⟨by have := h.z; simpa using this, below_set h.b (by omega), blk_far h.k0 (by show w.heap.size ≠ w.heap.size + 1 + 1; omega) v, blk_far h.k1 (by show w.heap.size + 1 ≠ w.heap.size + 1 + 1; omega) v, blk_set h.k2 j v, blk_far h.k3 (by show w.heap.size + 1 + 1 + 1 ≠ w.heap.size + 1 + 1; omega) v⟩
theorem RofSt.set3 {w W : World} {ws cs2 cs3 : Array Value} (h : RofSt w W ws cs2 cs3) (j : Nat) (v : Value) {cs : Array Value} (hc : cs3.setIfInBounds j v = cs) : RofSt w (W.setCell ⟨w.heap.size + 1 + 1 + 1, j, none⟩ v) ws cs2 cs := by
  subst hc
  exact ⟨by have := h.z; simpa using this, below_set h.b (by omega), blk_far h.k0 (by show w.heap.size ≠ w.heap.size + 1 + 1 + 1; omega) v, blk_far h.k1 (by show w.heap.size + 1 ≠ w.heap.size + 1 + 1 + 1; omega) v, blk_far h.k2 (by show w.heap.size + 1 + 1 ≠ w.heap.size + 1 + 1 + 1; omega) v, blk_set h.k3 j v⟩
set_option maxHeartbeats 4000000 in
set_option maxRecDepth 100000 in
theorem impl_RecordOf.calls (k : Nat) (a0 : ByteArray) (r1 : Int) (r2 : Int) (r3 : Bool) (r4 : List Int) (r5 : Bool) (r6 : List Int) (r7 : Bool) (w : World) (hGM : GOKM w) (h : impl_RecordOf.f k a0 = some (r1, r2, r3, r4, r5, r6, r7)) :
    Calls Tryd.prog 14 #[.string a0] w fun e w' => ∃ v3_ v5_ : Value, e = .returned (.tuple #[.agg #[.int .i64 r1, .int .i64 r2, .bool r3, v3_, .bool r5, v5_], .bool r7]) ∧ Kd.R (Kd.int .i64) 3 w' w.heap.size (fun k_ => some k_ ≠ (v5_ : Value).ownBlock) v3_ r4 ∧ Kd.R (Kd.int .i64) 3 w' w.heap.size (fun k_ => some k_ ≠ (v3_ : Value).ownBlock) v5_ r6 ∧ Below w.heap.size w w' := by
  unfold impl_RecordOf.f at h
  by_cases hs : a0.size ≤ 1073741824
  case neg => rw [if_neg hs] at h; cases h
  rw [if_pos hs] at h
  obtain ⟨m, hm⟩ := hGM
  have hsplit : (splitW a0).length = Lib.countB a0 ⟨#[32]⟩ + 1 := Lib.splitB_all ⟨#[32]⟩ (by decide) 0 _ a0 rfl
  have hs2 : ∀ W : World, W.cell? ⟨0, 0, none⟩ = some (.int .i64 m) → Calls Tryd.prog 31 #[.string a0, .string ⟨#[32]⟩] W fun e w' => e = .returned (.slice (some ⟨W.heap.size, 0, none⟩) (splitW a0).length (splitW a0).length) ∧ w' = W.alloc (.cells ((splitW a0).map Value.string).toArray 9) := by
    intro W hW
    rw [hsplit]
    exact Tryd.strings_Split a0 ⟨#[32]⟩ m W (by omega) hW (by decide)
  generalize splitW a0 = ws at h hs2
  clear hsplit hs
  have HS := Lib.hid hs2
  clear hs2
  have hmlt := World.block_lt_of_cell? w _ hm
  have HM := Lib.hid hm
  clear hm
  by_cases h4 : ws.length = 4
  · match ws, h4 with
    | [w0, w1, w2, w3], _ =>
      simp only at h
      replace h := Option.bind_eq_some_iff.mp h
      obtain ⟨⟨n0, g0⟩, A0, h⟩ := h
      replace h := Option.bind_eq_some_iff.mp h
      obtain ⟨⟨n1, g1⟩, A1, h⟩ := h
      replace h := Option.bind_eq_some_iff.mp h
      obtain ⟨⟨p2, q2, g2⟩, A2, h⟩ := h
      replace h := Option.bind_eq_some_iff.mp h
      obtain ⟨⟨p3, q3, g3⟩, A3, h⟩ := h
      simp only at h
      have H0 := Lib.hid A0
      have H1 := Lib.hid A1
      have H2 := Lib.hid A2
      have H3 := Lib.hid A3
      have HH := Lib.hid h
      clear A0 A1 A2 A3 h
      go_enter Tryd.func14, Tryd.ntmps14
      go_wp2_with fail
      refine (HS.out _ (by rw [World.cell?_alloc_old _ _ _ (Nat.ne_of_lt hmlt)]; exact HM.out)).mono ?_
      rintro e w' ⟨rfl, rfl⟩
      clear HS
      go_wp2_with fail
      refine calls_at (fun W hW => ?_)
      have s0 : RofSt w W #[.string w0, .string w1, .string w2, .string w3] #[.int .i64 0, .int .i64 0, .bool false, .slice none 0 0, .bool false, .slice none 0 0] #[.bool false, .bool false, .bool false, .bool false] := by
        rw [hW]
        exact ⟨by simp, below_alloc (below_alloc (below_alloc (below_alloc (Below.refl _ _) _) _) _) _,
          blk_alloc (blk_alloc (blk_alloc (by simpa using heap_alloc_new w _) _) _) _,
          blk_alloc (blk_alloc (by simpa using heap_alloc_new (w.alloc _) (.cells #[.string w0, .string w1, .string w2, .string w3] 9)) _) _,
          blk_alloc (by simpa using heap_alloc_new ((w.alloc _).alloc _) (.cells #[.int .i64 0, .int .i64 0, .bool false, .slice none 0 0, .bool false, .slice none 0 0] 27)) _,
          by simpa using heap_alloc_new (((w.alloc _).alloc _).alloc _) (.cells #[.bool false, .bool false, .bool false, .bool false] 52)⟩
      clear hW
      refine (impl_numberOf.calls k w0 n0 g0 _ H0.out).mono ?_
      rintro e w' ⟨rfl, d0, rfl⟩
      obtain ⟨c1, f1⟩ := blkc s0.k1
      obtain ⟨c2, f2⟩ := blkc s0.k2
      obtain ⟨c3, f3⟩ := blkc s0.k3
      go_wp2_with fail
      clear c1 f1 c2 f2 c3 f3
      refine calls_at (fun W1 hW => ?_)
      have s1 := ((s0.drewN d0).set2 0 (.int .i64 n0) rfl).set3 0 (.bool g0) rfl
      rw [← hW] at s1
      clear hW s0
      refine (impl_numberOf.calls k w1 n1 g1 _ H1.out).mono ?_
      rintro e w' ⟨rfl, d1, rfl⟩
      obtain ⟨c1, f1⟩ := blkc s1.k1
      obtain ⟨c2, f2⟩ := blkc s1.k2
      obtain ⟨c3, f3⟩ := blkc s1.k3
      go_wp2_with fail
      clear c1 f1 c2 f2 c3 f3
      refine calls_at (fun W2 hW => ?_)
      have s2 := ((s1.drewN d1).set2 1 (.int .i64 n1) rfl).set3 1 (.bool g1) rfl
      rw [← hW] at s2
      clear hW s1
      refine (impl_partOf.calls k w2 p2 q2 g2 _ H2.out).mono ?_
      rintro e W3 ⟨v2, rfl, hR2, hb2⟩
      have s3 := s2.below hb2
      have hR2 := Kd.R_lower hR2 s2.b.size
      clear hb2 s2
      obtain ⟨c1, f1⟩ := blkc s3.k1
      obtain ⟨c2, f2⟩ := blkc s3.k2
      obtain ⟨c3, f3⟩ := blkc s3.k3
      obtain ⟨A2, m2, rfl⟩ := Kd.R_slice hR2
      go_wp2_with fail
      clear c1 f1 c2 f2 c3 f3
      refine calls_at (fun W4 hW => ?_)
      have t1 := s3.set2 2 (.bool p2) rfl
      have u1 := Kd.R_set hR2 s3.k2 (by decide) 2 (.bool p2)
      have t2 := t1.set2 3 (.slice A2 q2.length m2) rfl
      have u2 := Kd.R_set u1 t1.k2 (by decide) 3 (.slice A2 q2.length m2)
      have s4 := t2.set3 2 (.bool g2) rfl
      have u3 := Kd.R_set u2 t2.k3 (by decide) 2 (.bool g2)
      rw [← hW] at s4 u3
      clear hW s3 t1 t2 u1 u2 hR2
      refine (impl_partOf.calls k w3 p3 q3 g3 _ H3.out).mono ?_
      rintro e W5 ⟨v3, rfl, hR3, hb3⟩
      have s5 := s4.below hb3
      have e2 := Kd.R_elder u3 hR3 hb3
      have e3 := Kd.R_lower (Kd.R_newR hR3 u3) s4.b.size
      clear hb3 s4 hR3 u3
      obtain ⟨A3, m3, rfl⟩ := Kd.R_slice e3
      have y1 := s5.set2 4 (.bool p3) rfl
      have a1 := Kd.R_set e2 s5.k2 (by decide) 4 (.bool p3)
      have b1 := Kd.R_set e3 s5.k2 (by decide) 4 (.bool p3)
      have y2 := y1.set2 5 (.slice A3 q3.length m3) rfl
      have a2 := Kd.R_set a1 y1.k2 (by decide) 5 (.slice A3 q3.length m3)
      have b2 := Kd.R_set b1 y1.k2 (by decide) 5 (.slice A3 q3.length m3)
      have y3 := y2.set3 3 (.bool g3) rfl
      have a3 := Kd.R_set a2 y2.k3 (by decide) 3 (.bool g3)
      have b3 := Kd.R_set b2 y2.k3 (by decide) 3 (.bool g3)
      have Y := Lib.hid y3
      have RA := Lib.hid a3
      have RB := Lib.hid b3
      clear y1 y2 y3 a1 a2 a3 b1 b2 b3 e2 e3
      obtain ⟨c0, f0⟩ := blkc s5.k0
      obtain ⟨c1, f1⟩ := blkc s5.k1
      obtain ⟨c2, f2⟩ := blkc s5.k2
      obtain ⟨c3, f3⟩ := blkc s5.k3
      have hn := fun W => neq4 W g0 g1 g2 g3
      by_cases hg : (g0 && g1 && g2 && g3) = true
      · have HH2 := HH.out
        rw [if_pos hg] at HH2
        rw [hg] at hn
        clear hg
        have H5 := Lib.hid HH2
        clear HH2 HH
        go_wp2_with fail
        clear c0 f0 c1 f1 c2 f2 c3 f3
        refine calls_at (fun W6 hW => ?_)
        have s6 := Y.out
        have a6 := RA.out
        have b6 := RB.out
        rw [← hW] at s6 a6 b6
        clear hW Y RA RB s5
        have HX := H5.out
        replace HX := Option.bind_eq_some_iff.mp HX
        obtain ⟨v, A6, HX⟩ := HX
        refine (impl_RecordValid.calls k n0 n1 p2 A2 m2 q2 p3 A3 m3 q3 v _ (Kd.R_reads' a6).2.2 (Kd.R_reads' a6).2.1 (Kd.R_reads' b6).2.2 (Kd.R_reads' b6).2.1 A6).mono ?_
        clear A6 H5
        have H6 := Lib.hid HX
        clear HX
        rintro e W7 ⟨rfl, hb7⟩
        have s7 := s6.below hb7
        have a7 := Kd.R_below a6 hb7
        have b7 := Kd.R_below b6 hb7
        clear hb7 s6 a6 b6
        obtain ⟨c0, f0⟩ := blkc s7.k0
        obtain ⟨c2, f2⟩ := blkc s7.k2
        cases v with
        | true =>
          have hx := H6.out
          rw [if_pos rfl] at hx
          simp only [Option.some.injEq, Prod.mk.injEq] at hx
          obtain ⟨rfl, rfl, rfl, rfl, rfl, rfl, rfl⟩ := hx
          clear H6
          have AB := Lib.hid (And.intro a7 b7)
          have S7 := Lib.hid s7
          clear s7 a7 b7
          go_wp2
          refine bodyPost_ret (results_ct rfl _ _ w.heap.size 27 #[.int .i64 n0, .int .i64 n1, .bool p2, .slice A2 q2.length m2, .bool p3, .slice A3 q3.length m3] (0, 0) _ rfl (blk_set (blk_set (blk_set (blk_set (blk_set (blk_set S7.out.k0 0 _) 1 _) 2 _) 3 _) 4 _) 5 _) Tryd.underlying27 rfl (by kernel_rfl)) rfl ?_
          refine ⟨_, _, rfl, ?_, ?_, ?_⟩
          · exact Kd.R_mono (Kd.R_set (Kd.R_set (Kd.R_set (Kd.R_set (Kd.R_set (Kd.R_set AB.out.1 S7.out.k0 (by decide) 0 _) (blk_set S7.out.k0 0 _) (by decide) 1 _) (blk_set (blk_set S7.out.k0 0 _) 1 _) (by decide) 2 _) (blk_set (blk_set (blk_set S7.out.k0 0 _) 1 _) 2 _) (by decide) 3 _) (blk_set (blk_set (blk_set (blk_set S7.out.k0 0 _) 1 _) 2 _) 3 _) (by decide) 4 _) (blk_set (blk_set (blk_set (blk_set (blk_set S7.out.k0 0 _) 1 _) 2 _) 3 _) 4 _) (by decide) 5 _) (fun _ hk => hk.2)
          · exact Kd.R_mono (Kd.R_set (Kd.R_set (Kd.R_set (Kd.R_set (Kd.R_set (Kd.R_set AB.out.2 S7.out.k0 (by decide) 0 _) (blk_set S7.out.k0 0 _) (by decide) 1 _) (blk_set (blk_set S7.out.k0 0 _) 1 _) (by decide) 2 _) (blk_set (blk_set (blk_set S7.out.k0 0 _) 1 _) 2 _) (by decide) 3 _) (blk_set (blk_set (blk_set (blk_set S7.out.k0 0 _) 1 _) 2 _) 3 _) (by decide) 4 _) (blk_set (blk_set (blk_set (blk_set (blk_set S7.out.k0 0 _) 1 _) 2 _) 3 _) 4 _) (by decide) 5 _) (fun _ hk => hk.2)
          · exact below_set (below_set (below_set (below_set (below_set (below_set S7.out.b (Nat.le_refl _)) (Nat.le_refl _)) (Nat.le_refl _)) (Nat.le_refl _)) (Nat.le_refl _)) (Nat.le_refl _)
        | false =>
          have hx := H6.out
          rw [if_neg (by decide)] at hx
          simp only [Option.some.injEq, Prod.mk.injEq] at hx
          obtain ⟨rfl, rfl, rfl, rfl, rfl, rfl, rfl⟩ := hx
          clear H6
          have S7 := Lib.hid s7
          clear s7 a7 b7
          go_wp2
          refine bodyPost_ret (results_ct rfl _ _ w.heap.size 27 #[.int .i64 0, .int .i64 0, .bool false, .slice none 0 0, .bool false, .slice none 0 0] (0, 0) _ rfl (blk_set (blk_set (blk_set (blk_set (blk_set (blk_set S7.out.k0 0 _) 1 _) 2 _) 3 _) 4 _) 5 _) Tryd.underlying27 rfl (by kernel_rfl)) rfl ?_
          exact ⟨_, _, rfl, Kd.R_nil _ _ _ _ _, Kd.R_nil _ _ _ _ _, below_set (below_set (below_set (below_set (below_set (below_set S7.out.b (Nat.le_refl _)) (Nat.le_refl _)) (Nat.le_refl _)) (Nat.le_refl _)) (Nat.le_refl _)) (Nat.le_refl _)⟩
      · replace hg := Bool.eq_false_iff.mpr hg
        have HH2 := HH.out
        rw [hg, if_neg (by decide)] at HH2
        rw [hg] at hn
        clear hg
        simp only [Option.some.injEq, Prod.mk.injEq] at HH2
        obtain ⟨rfl, rfl, rfl, rfl, rfl, rfl, rfl⟩ := HH2
        have k0 := Y.out.k0
        have hb := Y.out.b
        have K0 := Lib.hid (And.intro k0 hb)
        clear RA RB HH k0 hb Y s5
        go_wp2
        refine bodyPost_ret (results_ct rfl _ _ w.heap.size 27 #[.int .i64 0, .int .i64 0, .bool false, .slice none 0 0, .bool false, .slice none 0 0] (0, 0) _ rfl (blk_set (blk_set (blk_set (blk_set (blk_set (blk_set K0.out.1 0 _) 1 _) 2 _) 3 _) 4 _) 5 _) Tryd.underlying27 rfl (by kernel_rfl)) rfl ?_
        exact ⟨_, _, rfl, Kd.R_nil _ _ _ _ _, Kd.R_nil _ _ _ _ _, below_set (below_set (below_set (below_set (below_set (below_set K0.out.2 (Nat.le_refl _)) (Nat.le_refl _)) (Nat.le_refl _)) (Nat.le_refl _)) (Nat.le_refl _)) (Nat.le_refl _)⟩
  · have hz : some ((0 : Int), (0 : Int), false, ([] : List Int), false, ([] : List Int), false) = some (r1, r2, r3, r4, r5, r6, r7) := by
      split at h
      · exact absurd rfl h4
      · exact h
    simp only [Option.some.injEq, Prod.mk.injEq] at hz
    obtain ⟨rfl, rfl, rfl, rfl, rfl, rfl, rfl⟩ := hz
    clear h
    have hne : (((ws.length : Nat) : Int) != 4) = true := by rw [bne_iff_ne]; omega
    clear h4
    go_enter Tryd.func14, Tryd.ntmps14
    go_wp2_with fail
    refine (HS.out _ (by rw [World.cell?_alloc_old _ _ _ (Nat.ne_of_lt hmlt)]; exact HM.out)).mono ?_
    rintro e w' ⟨rfl, rfl⟩
    go_wp2
    refine bodyPost_ret (results_ct rfl _ _ w.heap.size 27 #[.int .i64 0, .int .i64 0, .bool false, .slice none 0 0, .bool false, .slice none 0 0] (0, 0) _ rfl (by exact blk_alloc (by simpa using heap_alloc_new w _) _) Tryd.underlying27 rfl (by kernel_rfl)) rfl ?_
    exact ⟨_, _, rfl, Kd.R_nil _ _ _ _ _, Kd.R_nil _ _ _ _ _, below_alloc (below_alloc (Below.refl _ _) _) _⟩
end Go.Proofs.YtlijpnglocgldaaDoor
