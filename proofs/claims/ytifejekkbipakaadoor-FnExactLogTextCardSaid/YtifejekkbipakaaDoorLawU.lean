/- The law's own helpers: copies of rows, walked. -/
import Derived.Test.YtifejekkbipakaaDoorLawT
set_option linter.unusedVariables false
set_option linter.unusedSimpArgs false
namespace Go.Proofs.YtifejekkbipakaaDoor
open Go.RowKit Go.Proofs.YtifejekkbipakaaDoorW.PrintWords Go.Proofs.YtifejekkbipakaaDoorW.PrintLast

theorem recK_mkM (w : World) (base : Nat) (ok : Nat → Prop) (x : Rec) {a b : Value} (ga : intK.R 3 w base ok a x.k) (gb : intK.R 3 w base ok b x.v) : recK.M w base ok x [.int .i64 x.o, .int .i64 x.t, .bool x.hk, a, .bool x.hv, b] :=
  ⟨[.int .i64 x.o], _, rfl, rfl, ⟨[.int .i64 x.t], _, rfl, rfl, ⟨[.bool x.hk], _, rfl, rfl, ⟨[a], _, rfl, ⟨a, rfl, ga⟩, ⟨[.bool x.hv], [b], rfl, rfl, ⟨b, rfl, gb⟩⟩⟩⟩⟩⟩
theorem batK_mkM (w : World) (base : Nat) (ok : Nat → Prop) (x : Bat) {a : Value} (ga : recK.R 33 w base ok a x.rs) : batK.M w base ok x [.bool x.pk, .bool x.mrk, .int .i64 x.pr, .int .i64 x.ep, .int .i64 x.sq, a] :=
  ⟨[.bool x.pk], _, rfl, rfl, ⟨[.bool x.mrk], _, rfl, rfl, ⟨[.int .i64 x.pr], _, rfl, rfl, ⟨[.int .i64 x.ep], _, rfl, rfl, ⟨[.int .i64 x.sq], [a], rfl, rfl, ⟨a, rfl, ga⟩⟩⟩⟩⟩⟩
/-- Element i of a row of the call's own is written whole. -/
theorem R_put6 {α : Type} {d : Kd α} (hsz : d.sz = 6) {e : Nat} {W : World} {base : Nat} {ok okp : Nat → Prop} {g n cap : Nat} {xs : List α} (h : d.R e W base ok (.slice (some ⟨g, 0, none⟩) n cap) xs) (i : Nat) (hi : i < n) (z : α) {x' : α} {v0 v1 v2 v3 v4 v5 : Value} (hM : d.M W base okp x' [v0, v1, v2, v3, v4, v5]) (hokp : ∀ k, okp k → ok k ∧ k ≠ g) :
    d.R e ((((((W.setCell ⟨g, i * 6, none⟩ v0).setCell ⟨g, i * 6 + 1, none⟩ v1).setCell ⟨g, i * 6 + 2, none⟩ v2).setCell ⟨g, i * 6 + 3, none⟩ v3).setCell ⟨g, i * 6 + 4, none⟩ v4).setCell ⟨g, i * 6 + 5, none⟩ v5) base ok (.slice (some ⟨g, 0, none⟩) n cap) (xs.set i x') := by
  obtain ⟨c, hcl, _, hcc, _⟩ := Kd.R_elem h z (i : Int) (by omega) (by omega)
  have hc6 : c.length = 6 := hcl.trans hsz
  have := (Kd.R_seg h (i : Int) (by omega) (by omega) (seg := [v0, v1, v2, v3, v4, v5]) (j := 0) hcl hcc (by rw [hsz]; simp) (by simpa [show List.drop 6 c = [] from List.drop_eq_nil_of_le (by omega)] using hM) hokp).1
  rw [hsz, Int.toNat_natCast] at this
  exact this
/-- The cells of element i of such a row stand. -/
theorem R_cells6 {α : Type} {d : Kd α} (hsz : d.sz = 6) {e : Nat} {W : World} {base : Nat} {ok : Nat → Prop} {g n cap : Nat} {xs : List α} (h : d.R e W base ok (.slice (some ⟨g, 0, none⟩) n cap) xs) (i : Nat) (hi : i < n) (z : α) :
    ∃ v0 v1 v2 v3 v4 v5, W.cell? ⟨g, i * 6, none⟩ = some v0 ∧ W.cell? ⟨g, i * 6 + 1, none⟩ = some v1 ∧ W.cell? ⟨g, i * 6 + 2, none⟩ = some v2 ∧ W.cell? ⟨g, i * 6 + 3, none⟩ = some v3 ∧ W.cell? ⟨g, i * 6 + 4, none⟩ = some v4 ∧ W.cell? ⟨g, i * 6 + 5, none⟩ = some v5 ∧ W.frozen? ⟨g, i * 6, none⟩ = false ∧ W.frozen? ⟨g, i * 6 + 1, none⟩ = false ∧ W.frozen? ⟨g, i * 6 + 2, none⟩ = false ∧ W.frozen? ⟨g, i * 6 + 3, none⟩ = false ∧ W.frozen? ⟨g, i * 6 + 4, none⟩ = false ∧ W.frozen? ⟨g, i * 6 + 5, none⟩ = false := by
  obtain ⟨c, hcl, _, hcc, hf⟩ := Kd.R_elem h z (i : Int) (by omega) (by omega)
  rw [hsz] at hcl
  simp only [hsz, Int.toNat_natCast] at hcc hf
  match c, hcl with
  | [v0, v1, v2, v3, v4, v5], _ => exact ⟨v0, v1, v2, v3, v4, v5, hcc 0 _ rfl, hcc 1 _ rfl, hcc 2 _ rfl, hcc 3 _ rfl, hcc 4 _ rfl, hcc 5 _ rfl, hf 0, hf 1, hf 2, hf 3, hf 4, hf 5⟩
/-- Where such a row lies. -/
theorem R_place {α : Type} {d : Kd α} {e : Nat} {W : World} {base : Nat} {ok : Nat → Prop} {n cap : Nat} {A : Option Addr} {xs : List α} (h : d.R e W base ok (.slice A n cap) xs) (hp : 0 < n) : ∃ g, A = some ⟨g, 0, none⟩ ∧ base ≤ g ∧ ∃ cells, W.heap[g]? = some (.cells cells e (0, 0)) := by
  obtain ⟨inner, ho⟩ := Kd.R_own h
  have hn : n = xs.length := by obtain ⟨_, _, e⟩ := Kd.R_slice h; cases e; rfl
  obtain ⟨g, c, e, _⟩ := ho.form (by omega)
  cases e
  exact ⟨g, rfl, own_base ho g rfl, own_typed ho g rfl⟩
def bd_toRecordS (l : List Rec) (k : Nat) : Prop := (rdR l k).k.length ≤ 1048576 ∧ (rdR l k).v.length ≤ 1048576
theorem und_toRecordS : Tryd.prog.underlying 27 = some (.slice 33) := Tryd.underlying27
theorem zM_toRecordS (w : World) (base : Nat) (ok : Nat → Prop) : recK.M w base ok zRec (Value.agg #[.int .i64 0, .int .i64 0, .bool false, .slice none 0 0, .bool false, .slice none 0 0]).cells.toList := recK_mkM w base ok zRec (Kd.R_nil _ _ _ _ _) (Kd.R_nil _ _ _ _ _)
def zvRec : Value := .agg #[.int .i64 0, .int .i64 0, .bool false, .slice none 0 0, .bool false, .slice none 0 0]
def zvBat : Value := .agg #[.bool false, .bool false, .int .i64 0, .int .i64 0, .int .i64 0, .slice none 0 0]
set_option maxHeartbeats 4000000 in
theorem toRecordS_l (A0 : Option Addr) (c0 : Nat) (l : List Rec) (w : World) (hC : recK.C w A0 l.length l) (hl : l.length ≤ 1048576) (hbd : ∀ k, k < l.length → bd_toRecordS l k) : Calls Tryd.prog 49 #[.slice A0 l.length c0] w (RR recK 33 l w) := by
  have HC := Aside0.mk hC; clear hC
  have HBD := Aside0.mk hbd; clear hbd
  go_enter Tryd.func49, Tryd.ntmps49
  go_wp2_with ((with_reducible refine gate_dst (N := 7) rfl ?_); refine Kd.R_make recK w.heap.size 33 rfl (N := 7) rfl 27 _ _ rfl (l.length : Int) rfl rfl und_toRecordS zvRec 80 infoRec rfl (by decide) (by omega) zRec (ok := fun _ => True) (okp := fun _ => True) (zM_toRecordS _ _ _) (fun _ h => h) trivial (by omega) (by simp only [Int.toNat_natCast]; omega) (Below.refl _ _) (Nat.le_refl _) ?_; intro v1 w1 hr hb hg hn; obtain ⟨A, c, rfl⟩ := Kd.R_slice hr; simp only [List.length_replicate, Int.toNat_natCast] at hr ⊢; clear hg hn)
  have HR1 := Aside0.mk hr; clear hr
  go_loopw [4] (fun i wr => ∃ k : Nat, k ≤ l.length ∧ i = .int .i64 k ∧ Aside0 (recK.R 33 wr w.heap.size (fun _ => True) (.slice A l.length c) (l.take k ++ List.replicate (l.length - k) zRec)) ∧ Below w.heap.size w wr) (fun i _ => l.length - (intOf i).toNat)
  case atStart => exact ⟨0, by omega, rfl, ⟨by simpa using HR1.out⟩, hb⟩
  case round =>
    obtain ⟨k, hk, rfl, HR, hb2⟩ := hrel
    have HB := Aside0.mk hb2; clear hb2 hb HR1
    by_cases hlt : k < l.length
    · obtain ⟨g, rfl, hgb, cells, hgc⟩ := R_place HR.out (by omega)
      obtain ⟨ad, A3, c3, A6, c6, rfl, hR⟩ := rec_at (Kd.C_below HC.out HB.out) k hlt
      obtain ⟨h0, h1, h2, h3, h4, h5, -, -, -, -⟩ := id hR
      have c1 := toRecord_l (rdR l k) A3 c3 A6 c6 wr hR.inn (HBD.out k hlt).1 (HBD.out k hlt).2
      have C1 := Aside0.mk c1; clear c1 hR
      go_wp2_with fail
      refine C1.out.mono ?_
      rintro e w2 ⟨a, b, rfl, hRa, hRb, hb3⟩
      have HB2 := Aside0.mk (below_step HB.out hb3)
      have hr2 := Kd.R_below HR.out hb3
      have hgc2 := blk_below hgc hb3
      obtain ⟨Aa, ca, rfl⟩ := Kd.R_slice hRa
      obtain ⟨Ab, cb, rfl⟩ := Kd.R_slice hRb
      have hp := R_put6 rfl hr2 k (by omega) zRec (x' := rdR l k) (recK_mkM w2 w.heap.size (fun k => True ∧ k ≠ g) (rdR l k) (Kd.R_types (Kd.R_lower hRa HB.out.size) hgc2 (by decide)) (Kd.R_types (Kd.R_lower hRb HB.out.size) hgc2 (by decide))) (fun _ h => h)
      have hst := set_take l zRec hlt
      rw [show l.getD k zRec = rdR l k from rfl] at hst
      clear hRa hRb
      simp only [rec6]
      rw [hst] at hp
      obtain ⟨u0, u1, u2, u3, u4, u5, d0, d1, d2, d3, d4, d5, f0, f1, f2, f3, f4, f5⟩ := R_cells6 rfl hr2 k (by omega) zRec
      have HP := Aside0.mk hp; clear hp hr2 hst
      go_wp2
      go_roundw
      case rel => exact ⟨k + 1, by omega, by go_num, ⟨HP.out⟩, below_set (below_set (below_set (below_set (below_set (below_set HB2.out hgb) hgb) hgb) hgb) hgb) hgb⟩
      case measure => simp [intOf]; omega
    · obtain rfl : k = l.length := by omega
      go_wp2
      go_ret
      refine ⟨_, rfl, ?_, HB.out⟩
      have := HR.out
      rwa [Nat.sub_self, List.take_length, List.replicate_zero, List.append_nil] at this
set_option maxHeartbeats 4000000 in
theorem toBatch_l (x : Bat) (A5 : Option Addr) (c5 : Nat) (w : World) (h : BatIn w x A5 c5) (hl : x.rs.length ≤ 1048576) (hbd : ∀ k, k < x.rs.length → bd_toRecordS x.rs k) :
    Calls Tryd.prog 29 #[.agg #[.bool x.pk, .bool x.mrk, .int .i64 x.pr, .int .i64 x.ep, .int .i64 x.sq, .slice A5 x.rs.length c5]] w (RBat x w) := by
  have c1 := fun W (hW : Below w.heap.size w W) => toRecordS_l A5 c5 x.rs W (Kd.C_below h.g5 hW) hl hbd
  clear h
  have C1 := Aside0.mk c1; clear c1
  go_enter Tryd.func29, Tryd.ntmps29
  go_wp2_with fail
  refine calls_at (fun W hW => ?_)
  have s1 : StB w W (w.heap.size + 1) 50 #[.bool false, .bool false, .int .i64 0, .int .i64 0, .int .i64 0, .slice none 0 0] := by
    rw [hW]; exact ⟨blk_alloc (by simpa using blk_new (w.alloc _) (.cells #[.bool false, .bool false, .int .i64 0, .int .i64 0, .int .i64 0, .slice none 0 0] 50)) _, by omega⟩
  have s2 : StB w W (w.heap.size + 1 + 1) 50 #[.bool x.pk, .bool x.mrk, .int .i64 x.pr, .int .i64 x.ep, .int .i64 x.sq, .slice none 0 0] := by
    rw [hW]; exact ⟨by simpa using blk_new ((w.alloc _).alloc _) (.cells #[.bool x.pk, .bool x.mrk, .int .i64 x.pr, .int .i64 x.ep, .int .i64 x.sq, .slice none 0 0] 50), by omega⟩
  have hB : Below w.heap.size w W := by rw [hW]; exact below_alloc (below_alloc (below_alloc (Below.refl _ _) _) _) _
  clear hW
  refine (C1.out W hB).mono ?_
  rintro e w1 ⟨a, rfl, hRa, hb1⟩
  replace s1 := s1.below hb1
  replace s2 := s2.below hb1
  replace hRa := Kd.R_lower hRa hB.size
  replace hB := below_step hB hb1
  clear hb1
  obtain ⟨Aa, ca, rfl⟩ := Kd.R_slice hRa
  obtain ⟨q1, f1⟩ := blkc s1.hb
  obtain ⟨q2, f2⟩ := blkc s2.hb
  have t1 := s1.far (g' := w.heap.size + 1 + 1) (by omega) 5 (.slice Aa x.rs.length ca)
  have uA := Kd.R_set hRa s2.hb (by decide) 5 (.slice Aa x.rs.length ca)
  have hB5 := below_set hB s2.hg (j := 5) (v := .slice Aa x.rs.length ca)
  have HA := Aside0.mk (R_set6 uA t1.hb (by decide)); have HC := Aside0.mk (below_set6 hB5 t1.hg); have HD := Aside0.mk (blk_set6 t1.hb)
  clear t1 uA hB5 hRa hB s1 s2
  go_wp2
  refine bodyPost_ret (results_single (r := .cell 2 50) (v := .agg (bat6 x (.slice Aa x.rs.length ca))) rfl (.cell _ 50 _ (0, 0) _ rfl (HD.out _ _ _ _ _ _) Tryd.underlying50 rfl (by kernel_rfl) .nil)) rfl ?_
  exact ⟨_, rfl, HA.out _ _ _ _ _ _, HC.out _ _ _ _ _ _⟩
def bd_toBatchS (l : List Bat) (k : Nat) : Prop := (rdB l k).rs.length ≤ 1048576 ∧ ∀ j, j < (rdB l k).rs.length → bd_toRecordS (rdB l k).rs j
theorem und_toBatchS : Tryd.prog.underlying 23 = some (.slice 50) := Tryd.underlying23
theorem zM_toBatchS (w : World) (base : Nat) (ok : Nat → Prop) : batK.M w base ok zBat (Value.agg #[.bool false, .bool false, .int .i64 0, .int .i64 0, .int .i64 0, .slice none 0 0]).cells.toList := batK_mkM w base ok zBat (Kd.R_nil _ _ _ _ _)
set_option maxHeartbeats 4000000 in
theorem toBatchS_l (A0 : Option Addr) (c0 : Nat) (l : List Bat) (w : World) (hC : batK.C w A0 l.length l) (hl : l.length ≤ 1048576) (hbd : ∀ k, k < l.length → bd_toBatchS l k) : Calls Tryd.prog 13 #[.slice A0 l.length c0] w (RR batK 50 l w) := by
  have HC := Aside0.mk hC; clear hC
  have HBD := Aside0.mk hbd; clear hbd
  go_enter Tryd.func13, Tryd.ntmps13
  go_wp2_with ((with_reducible refine gate_dst (N := 7) rfl ?_); refine Kd.R_make batK w.heap.size 50 rfl (N := 7) rfl 23 _ _ rfl (l.length : Int) rfl rfl und_toBatchS zvBat 56 infoBat rfl (by decide) (by omega) zBat (ok := fun _ => True) (okp := fun _ => True) (zM_toBatchS _ _ _) (fun _ h => h) trivial (by omega) (by simp only [Int.toNat_natCast]; omega) (Below.refl _ _) (Nat.le_refl _) ?_; intro v1 w1 hr hb hg hn; obtain ⟨A, c, rfl⟩ := Kd.R_slice hr; simp only [List.length_replicate, Int.toNat_natCast] at hr ⊢; clear hg hn)
  have HR1 := Aside0.mk hr; clear hr
  go_loopw [4] (fun i wr => ∃ k : Nat, k ≤ l.length ∧ i = .int .i64 k ∧ Aside0 (batK.R 50 wr w.heap.size (fun _ => True) (.slice A l.length c) (l.take k ++ List.replicate (l.length - k) zBat)) ∧ Below w.heap.size w wr) (fun i _ => l.length - (intOf i).toNat)
  case atStart => exact ⟨0, by omega, rfl, ⟨by simpa using HR1.out⟩, hb⟩
  case round =>
    obtain ⟨k, hk, rfl, HR, hb2⟩ := hrel
    have HB := Aside0.mk hb2; clear hb2 hb HR1
    by_cases hlt : k < l.length
    · obtain ⟨g, rfl, hgb, cells, hgc⟩ := R_place HR.out (by omega)
      obtain ⟨ad, A6, c6, rfl, hR⟩ := bat_at (Kd.C_below HC.out HB.out) k hlt
      obtain ⟨h0, h1, h2, h3, h4, h5, -, -⟩ := id hR
      have c1 := toBatch_l (rdB l k) A6 c6 wr hR.inn (HBD.out k hlt).1 (HBD.out k hlt).2
      have C1 := Aside0.mk c1; clear c1 hR
      go_wp2_with fail
      refine C1.out.mono ?_
      rintro e w2 ⟨a, rfl, hRa, hb3⟩
      have HB2 := Aside0.mk (below_step HB.out hb3)
      have hr2 := Kd.R_below HR.out hb3
      have hgc2 := blk_below hgc hb3
      obtain ⟨Aa, ca, rfl⟩ := Kd.R_slice hRa
      have hp := R_put6 rfl hr2 k (by omega) zBat (x' := rdB l k) (batK_mkM w2 w.heap.size (fun k => True ∧ k ≠ g) (rdB l k) (Kd.R_types (Kd.R_lower hRa HB.out.size) hgc2 (by decide))) (fun _ h => h)
      have hst := set_take l zBat hlt
      rw [show l.getD k zBat = rdB l k from rfl] at hst
      clear hRa
      simp only [bat6]
      rw [hst] at hp
      obtain ⟨u0, u1, u2, u3, u4, u5, d0, d1, d2, d3, d4, d5, f0, f1, f2, f3, f4, f5⟩ := R_cells6 rfl hr2 k (by omega) zBat
      have HP := Aside0.mk hp; clear hp hr2 hst
      go_wp2
      go_roundw
      case rel => exact ⟨k + 1, by omega, by go_num, ⟨HP.out⟩, below_set (below_set (below_set (below_set (below_set (below_set HB2.out hgb) hgb) hgb) hgb) hgb) hgb⟩
      case measure => simp [intOf]; omega
    · obtain rfl : k = l.length := by omega
      go_wp2
      go_ret
      refine ⟨_, rfl, ?_, HB.out⟩
      have := HR.out
      rwa [Nat.sub_self, List.take_length, List.replicate_zero, List.append_nil] at this
end Go.Proofs.YtifejekkbipakaaDoor
