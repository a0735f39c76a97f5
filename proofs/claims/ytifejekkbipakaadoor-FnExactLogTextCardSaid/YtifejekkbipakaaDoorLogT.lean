/- impl.LogText: the lines of all records, walked. -/
import Derived.Test.YtifejekkbipakaaDoorTxR
import Derived.Test.YtifejekkbipakaaDoorValL
import Derived.Test.YtifejekkbipakaaDoorSeq
import Derived.Lib.OthersKept
set_option linter.unusedVariables false
set_option linter.unusedSimpArgs false
namespace Go.Proofs.YtifejekkbipakaaDoor
open Go.RowKit Go.Shelf Go.Proofs.YtifejekkbipakaaDoorW.PrintWords Go.Proofs.YtifejekkbipakaaDoorW.PrintLast
attribute [local go_sem] Oper.semAt_some

theorem builder_kept {T e : TypeId} {B b : Nat} {bs : List Value} {W W' : World} {row : Option Nat} (h : Lib.IsBuilderF T e B b bs W) (hg : W.grownBy W' row) (hr : ∀ r, row = some r → ∃ o : Obj, W.heap[r]? = some o ∧ o.isCells = false) : Lib.IsBuilderF T e B b bs W' := by
  have key : ∀ p, Lib.BuilderAtF T e B b p bs W → Lib.BuilderAtF T e B b p bs W' := by
    rintro p ⟨hB, v, hbk, hown, hne⟩
    refine ⟨hB, v, blk_grown hbk hg (fun e => ?_), hown.kept hg ?_, hne⟩
    · obtain ⟨o, ho, hc⟩ := hr b e.symm
      rw [hbk] at ho
      cases ho
      cases hc
    · cases hv : v.ownBlock with
      | none => exact .inl rfl
      | some g =>
        refine .inr (fun e => ?_)
        obtain ⟨c, fz, hcg⟩ := Lib.ownsRowF_kind hown g hv
        obtain ⟨o, ho, hc⟩ := hr g e.symm
        rw [hcg] at ho
        cases ho
        cases hc
  exact h.imp (key _) (key _)
theorem builder_below {T e : TypeId} {B b : Nat} {bs : List Value} {W W' : World} (h : Lib.IsBuilderF T e B b bs W) (hb : Below W.heap.size W W') : Lib.IsBuilderF T e B b bs W' := builder_kept h (grown_of_below hb none) (fun r e => by cases e)
theorem wstring (B b : Nat) (l s : List UInt8) (w : World) (h : Lib.IsBuilderF 45 5 B b (Lib.byteCells l) w) (hlen : l.length + s.length ≤ 140737488355328) (hBw : B ≤ w.heap.size) :
    Calls Tryd.prog 19 #[.pointer (some ⟨b, 0, none⟩), strV s] w fun e w' => e = .returned (.tuple #[.int .i64 s.length, .nilIface]) ∧ Lib.IsBuilderF 45 5 B b (Lib.byteCells (l ++ s)) w' ∧ Below B w w' ∧ Lib.OthersKept 5 (some b) w w' := by
  refine (Any.Builder_WriteString_k Tryd.lays166 Tryd.Builder_Extra_166 B b (Lib.byteCells l) ⟨s.toArray⟩ w h (by rw [Lib.byteCells_length]; exact hlen) hBw).mono ?_
  rintro e w' ⟨rfl, h1, hb, hk⟩
  refine ⟨rfl, ?_, hb, hk⟩
  rw [Lib.byteCells_append]
  exact Or.inr h1
theorem wbyte' (B b : Nat) (l : List UInt8) (c : UInt8) (w : World) (h : Lib.IsBuilderF 45 5 B b (Lib.byteCells l) w) (hlen : l.length + 1 ≤ 140737488355328) (hBw : B ≤ w.heap.size) :
    Calls Tryd.prog 20 #[.pointer (some ⟨b, 0, none⟩), .int .u8 c.toNat] w fun e w' => e = .returned .nilIface ∧ Lib.IsBuilderF 45 5 B b (Lib.byteCells (l ++ [c])) w' ∧ Below B w w' ∧ Lib.OthersKept 5 (some b) w w' := by
  refine (Any.Builder_WriteByte_k Tryd.lays167 Tryd.Builder_Extra_167 B b (Lib.byteCells l) c.toNat w h (by rw [Lib.byteCells_length]; exact hlen) hBw).mono ?_
  rintro e w' ⟨rfl, h1, hb, hk⟩
  refine ⟨rfl, ?_, hb, hk⟩
  rw [Lib.byteCells_append]
  exact Or.inr h1
def lineOf (r : Rec) : List UInt8 := recText r ++ [10]
def logText (l : List Bat) : List UInt8 := (pairs l).flatMap fun p => lineOf p.2
set_option maxRecDepth 100000 in
theorem recordsOf_in (F : Fence) (n : Nat) (hf : F.fn 18) (hro : F.round = none) (A0 : Option Addr) (len c0 : Nat) (w : World) :
    CallsIn F n Tryd.prog 18 #[.slice A0 len c0] w fun e w' => e = .returned (.func (.func 37) #[] #[.pointer (some ⟨w.heap.size, 0, none⟩)]) ∧ w' = w.alloc (.cells #[.slice A0 len c0] 23) := by
  refine callsIn_of_wp Tryd.func18 rfl hf ?_ hro
  simp only [Tryd.ntmps18, List.size_toArray, List.length_cons, List.length_nil, Nat.reduceAdd, Nat.reduceSub, Array.replicate_succ, Array.replicate_zero, List.push_toArray, List.append_toArray, List.nil_append, List.cons_append]
  gi_wp2
  go_ret
  exact ⟨rfl, rfl⟩
theorem rdB_mem {l : List Bat} {b : Bat} (h : b ∈ l) : ∃ k, k < l.length ∧ rdB l k = b := by
  obtain ⟨k, hk, e⟩ := List.getElem_of_mem h
  exact ⟨k, hk, by simpa [rdB, List.getD_eq_getElem?_getD, hk] using e⟩
theorem rdR_mem {l : List Rec} {b : Rec} (h : b ∈ l) : ∃ k, k < l.length ∧ rdR l k = b := by
  obtain ⟨k, hk, e⟩ := List.getElem_of_mem h
  exact ⟨k, hk, by simpa [rdR, List.getD_eq_getElem?_getD, hk] using e⟩
theorem logOk_bat {l : List Bat} (h : logOk l = true) {b : Bat} (hb : b ∈ l) : batOk b = true := by
  obtain ⟨k, hk, rfl⟩ := rdB_mem hb
  simp only [logOk, Bool.and_eq_true] at h
  have := List.all_eq_true.1 h.2 k (List.mem_range.2 hk)
  simp only [goodB, Bool.and_eq_true] at this
  exact this.1
theorem batOk_rec {b : Bat} (h : batOk b = true) {r : Rec} (hr : r ∈ b.rs) : recOk r = true := by
  obtain ⟨k, hk, rfl⟩ := rdR_mem hr
  simp only [batOk, recsOk, Bool.and_eq_true] at h
  have := List.all_eq_true.1 h.2.2 k (List.mem_range.2 hk)
  simp only [goodR, Bool.and_eq_true] at this
  exact this.1
theorem logOk_pair {l : List Bat} (h : logOk l = true) {p : Bat × Rec} (hp : p ∈ pairs l) : recOk p.2 = true := by
  obtain ⟨b, hb, hq⟩ := List.mem_flatMap.1 hp
  obtain ⟨r, hr, rfl⟩ := List.mem_map.1 hq
  exact batOk_rec (logOk_bat h hb) hr
theorem logOk_len {l : List Bat} (h : logOk l = true) : l.length ≤ 8 := by
  simp only [logOk, Bool.and_eq_true, decide_eq_true_eq] at h
  exact h.1
theorem pairs_le {l : List Bat} (h : ∀ b ∈ l, b.rs.length ≤ 6) : (pairs l).length ≤ 6 * l.length := by
  induction l with
  | nil => simp [pairs]
  | cons b l ih =>
    have h1 := ih (fun b hb => h b (List.mem_cons_of_mem _ hb))
    have h2 := h b List.mem_cons_self
    rw [pairs] at h1 ⊢
    rw [List.flatMap_cons, List.length_append, List.length_map, List.length_cons]
    omega
theorem logOk_pairs {l : List Bat} (h : logOk l = true) : (pairs l).length ≤ 48 := by
  have h1 := pairs_le (l := l) (fun b hb => (batOk_len (logOk_bat h hb)).2)
  have h2 := logOk_len h
  omega
def accText {w0 : World} {l : List Bat} (pre : List (RI w0 l)) : List UInt8 := pre.flatMap fun x => lineOf x.1.r
theorem accText_snoc {w0 : World} {l : List Bat} (pre : List (RI w0 l)) (x : RI w0 l) : accText (pre ++ [x]) = accText pre ++ recText x.1.r ++ [10] := by
  simp [accText, lineOf]
theorem accText_len {w0 : World} {l : List Bat} (h : logOk l = true) (pre : List (RI w0 l)) : (accText pre).length ≤ 64 * pre.length := by
  induction pre with
  | nil => simp [accText]
  | cons x pre ih =>
    have hx : (recText x.1.r).length ≤ 63 := recText_len (recOk_good (logOk_pair h x.2.2))
    rw [accText] at ih ⊢
    rw [List.flatMap_cons, List.length_append, List.length_cons, lineOf, List.length_append, List.length_singleton]
    omega
theorem accText_all {w0 : World} {l : List Bat} {ys : List (RI w0 l)} (h : ys.map RI.pair = pairs l) : accText ys = logText l := by
  rw [logText, ← h, List.flatMap_map]
  rfl
theorem kfrom_below {B : Nat} {W W' : World} (h : Below W.heap.size W W') : KeepsFrom B W W' := ⟨h.size, fun k o _ hk _ => blk_below hk h⟩
theorem kfrom_others {B b : Nat} {e : TypeId} {W W' : World} (h : Lib.OthersKept e (some b) W W') (hz : W.heap.size ≤ W'.heap.size) (hb : b < B) : KeepsFrom B W W' :=
  ⟨hz, fun k o hk ho hc => h k o ho (fun e => by cases e; omega) (fun c fz e => by subst e; cases hc)⟩
theorem KpB.of_others {n0 b : Nat} {W W' : World} (h : Lib.OthersKept 5 (some b) W W') (hb : Below n0 W W') (hT : ∃ c, W.heap[b]? = some (.cells c 45 (0, 0))) : KpB n0 W W' :=
  ⟨hb, fun k cs hk => h k _ hk (fun e => by cases e; obtain ⟨c, hc⟩ := hT; rw [hc] at hk; cases hk) (fun c fz e => by cases e)⟩
theorem builder_blk {T e : TypeId} {B b : Nat} {bs : List Value} {w : World} (h : Lib.IsBuilderF T e B b bs w) : ∃ c, w.heap[b]? = some (.cells c T (0, 0)) := by
  rcases h with ⟨_, v, hb, _⟩ | ⟨_, v, hb, _⟩
  · exact ⟨_, hb⟩
  · exact ⟨_, hb⟩
set_option maxRecDepth 100000 in
set_option maxHeartbeats 4000000 in
theorem logText_i (A0 : Option Addr) (c0 : Nat) (l : List Bat) (w : World) (h : batK.C w A0 l.length l) (hG : GOKT w) (hok : logOk l = true) :
    Calls Tryd.prog 7 #[.slice A0 l.length c0] w (RB (strV (logText l)) w) := by
  have c1 := logValid_i A0 c0 l w h
  rw [hok] at c1
  have C1 := Aside0.mk c1; clear c1
  have HC := Aside0.mk h; clear h
  have HG := Aside0.mk hG; clear hG
  refine (callsIn_wide (n := 9)).1 ?_
  refine callsIn_of_wp_marks Tryd.func7 rfl trivial ?_ rfl
  simp only [Tryd.ntmps7, List.size_toArray, List.length_cons, List.length_nil, Nat.reduceAdd, Nat.reduceSub, Array.replicate_succ, Array.replicate_zero, List.push_toArray, List.append_toArray, List.nil_append, List.cons_append]
  gi_wp2_with (first | (refine ⟨trivial, ?_⟩; gi_at_call 17; refine (callsIn_wide.2 C1.out).mono ?_; rintro e w1 ⟨rfl, hb1⟩) | (refine ⟨trivial, ?_⟩; gi_at_call 18; refine (recordsOf_in Fence.wide _ trivial rfl _ _ _ _).mono ?_; rintro e w' ⟨rfl, rfl⟩))
  obtain ⟨W0, hW0⟩ : ∃ W0, (w1.alloc (.cells #[.pointer none, .slice none 0 0] 45)).alloc (.cells #[.slice A0 l.length c0] 23) = W0 := ⟨_, rfl⟩
  have hsz : W0.heap.size = w1.heap.size + 2 := by rw [← hW0]; simp
  have hbW : Below w.heap.size w W0 := by rw [← hW0]; exact below_alloc (below_alloc hb1 _) _
  have hbl : Lib.IsBuilderF 45 5 w1.heap.size w1.heap.size (Lib.byteCells []) W0 := by
    rw [← hW0]
    exact (Lib.IsBuilderF.of (Lib.fresh_isBuilder _ _ w1)).alloc _
  have hBx : W0.cell? ⟨w1.heap.size + 1, 0, none⟩ = some (.slice A0 l.length c0) := by
    rw [← hW0]
    have := blk_cell (blk_new (w1.alloc (.cells #[.pointer none, .slice none 0 0] 45)) (.cells #[.slice A0 l.length c0] 23)) 0
    rw [World.size_alloc] at this
    exact this
  have hw1 := hb1.size
  rw [hW0]
  have HW0 := Aside0.mk hW0; clear hW0
  refine wpIn_rangeFunc_ownH rfl (by omega) (gf := 37) (lb := #[.pointer (some ⟨w1.heap.size + 1, 0, none⟩)]) rfl trivial (enters_of Tryd.func37 (by kernel_rfl) rfl)
    (recs_stops Fence.wide _ trivial rfl (by omega) w W0 (w1.heap.size + 1) A0 c0 l HC.out hbW (by omega) hBx) KpB.t (KpB.b (by omega)) (Below.refl _ _) (fun _ => rfl)
    (fun pre W => Lib.IsBuilderF 45 5 w1.heap.size w1.heap.size (Lib.byteCells (accText pre)) W ∧ Below w.heap.size w W)
    (fun _ _ _ => False)
    (OwnFrom.and (Own.from (I := fun (pre : List (RI w l)) W => Lib.IsBuilderF 45 5 w1.heap.size w1.heap.size (Lib.byteCells (accText pre)) W) (fun s A B row hs hg hr => builder_kept hs hg hr) _) (ownFrom_below (Nat.le_refl _) (by omega)))
    (fun _ _ _ _ _ hs _ _ => hs)
    ⟨hbl, hbW⟩
    (fun x a' W => ∃ Bx, W.heap[Bx]? = some (.cells #[.int .i64 x.1.r.o, .int .i64 x.1.r.t, .bool x.1.r.hk, .slice x.1.A3 x.1.r.k.length x.1.c3, .bool x.1.r.hv, .slice x.1.A5 x.1.r.v.length x.1.c5] 33 (0, 0)) ∧
      a' = { tmps := #[.slice A0 l.length c0, undef, .string ⟨#[]⟩, .pointer (some ⟨w1.heap.size, 0, none⟩), undef, .pointer (some ⟨Bx, 0, none⟩), .slice A0 l.length c0, .bool true, .bool false, .slice A0 l.length c0, .func (.func 37) #[] #[.pointer (some ⟨w1.heap.size + 1, 0, none⟩)], x.encs[0]!, x.encs[1]!, undef, undef, undef, undef, undef], defers := [] })
    (fun x a' s A B row hs hg hr => by
      obtain ⟨Bx, hbx, rfl⟩ := hs
      exact ⟨Bx, blk_grown hbx hg (fun e => by obtain ⟨_, o, ho, hc⟩ := hr Bx e.symm; rw [hbx] at ho; cases ho; cases hc), rfl⟩) ?assign ?body ?done ?stop
  case assign =>
    rintro l' pre x W K ⟨hI, hB⟩ hK
    simp only [RI.encs]
    gi_wp2
    exact hK _ _ ((KeepsOthers.alloc _ _).from _) (KpB.alloc (KpB.refl _ _) hB.size _) ⟨hI.alloc _, hB.alloc hB.size _⟩ ⟨W.heap.size, blk_new _ _, rfl⟩
  case body =>
    rintro l' pre x a' W hl' ⟨r', hr'⟩ ⟨hI, hB⟩ ⟨Bx, hbx, rfl⟩ hlt
    have hok2 := logOk_pair hok x.2.2
    have hin := x.2.1.below hB
    have hc := fun j => blk_cell hbx j
    have c2 := recordText_i x.1.r x.1.A3 x.1.c3 x.1.A5 x.1.c5 W hin (HG.out.below hB) hok2
    have hlen := accText_len hok pre
    have hp := logOk_pairs hok
    have hrt := recText_len (recOk_good hok2)
    have C2 := Aside0.mk c2; clear c2
    gi_wp2_with (first | (refine ⟨trivial, ?_⟩; gi_at_call 11; refine (CallsIn.inRound l' (callsIn_wide.2 C2.out)).mono ?_; rintro e w2 ⟨rfl, hb2⟩))
    have hT := builder_blk hI
    have hz1 : w1.heap.size < W.heap.size := by obtain ⟨c, hc⟩ := hT; exact blk_lt hc
    have hz2 := hb2.size
    have hI2 := builder_below hI hb2
    clear hI
    refine ⟨trivial, ?_⟩
    refine (CallsIn.inRound l' (callsIn_wide.2 (wstring _ _ _ _ _ hI2 (by omega) (by omega)))).mono ?_
    rintro e w3 ⟨rfl, hI3, hb3, hk3⟩
    have hz3 := hb3.size
    gi_wp2_with fail
    refine ⟨trivial, ?_⟩
    refine (CallsIn.inRound l' (callsIn_wide.2 (wbyte' _ _ _ 10 _ hI3 (by rw [List.length_append]; omega) (by omega)))).mono ?_
    rintro e w4 ⟨rfl, hI4, hb4, hk4⟩
    have hz4 := hb4.size
    gi_wp2
    refine ⟨((kfrom_below hb2).trans (kfrom_others hk3 hz3 (by omega))).trans (kfrom_others hk4 hz4 (by omega)), ((KpB.of_below hb2 hB.size).t (KpB.of_others hk3 (hb3.mono hw1) (builder_blk hI2))).t (KpB.of_others hk4 (hb4.mono hw1) (builder_blk hI3)), by rw [accText_snoc]; exact hI4, ((hB.trans (hb2.mono hB.size)).trans (hb3.mono hw1)).trans (hb4.mono hw1)⟩
  case done =>
    rintro D ys W hD hys ⟨hI, hB⟩ hK
    rw [accText_all hys] at hI
    have hT := builder_blk hI
    have hz1 : w1.heap.size < W.heap.size := by obtain ⟨c, hc⟩ := hT; exact blk_lt hc
    gi_wp2_with fail
    refine ⟨trivial, ?_⟩
    refine (callsIn_wide.2 (Tryd.Builder_String_any_k _ _ _ _ hI (by omega))).mono ?_
    rintro e w5 ⟨rfl, _, hb5, hk5⟩
    have hK5 := hk5 D _ hK (fun e => by cases e; omega) (fun c fz e => by cases e)
    have HK5 := Aside0.mk hK5; clear hK5 hK
    gi_wp2
    refine ⟨by simp, .inl ⟨_, _, rfl, run_takeDeferred HK5.out, ?_⟩⟩
    exact ⟨_, results_tmp rfl _ _ _, rfl, (hB.trans (hb5.mono hw1)).trans (belowK_b (w := w) (Nat.le_refl _) w5 D _ _ (by omega) HK5.out rfl rfl)⟩
  case stop =>
    rintro D c pre W _ _ h _
    exact h.elim
end Go.Proofs.YtifejekkbipakaaDoor
