/- FnExactLogText, walked: it returns true for every list. -/
import Derived.Test.YtifejekkbipakaaDoorSpL
import Derived.Test.YtifejekkbipakaaDoorLawE
set_option linter.unusedVariables false
set_option linter.unusedSimpArgs false
namespace Go.Proofs.YtifejekkbipakaaDoor
open Go.RowKit Go.Shelf Go.Proofs.YtifejekkbipakaaDoorW.PrintWords Go.Proofs.YtifejekkbipakaaDoorW.PrintLast

theorem logTextBad_i (A0 : Option Addr) (c0 : Nat) (l : List Bat) (w : World) (h : batK.C w A0 l.length l) (hok : logOk l = false) :
    Calls Tryd.prog 7 #[.slice A0 l.length c0] w (RB (strV []) w) := by
  have c1 := logValid_i A0 c0 l w h
  rw [hok] at c1
  have C1 := Aside0.mk c1; clear c1 h hok
  go_enter Tryd.func7, Tryd.ntmps7
  go_wp2_with fail
  refine C1.out.mono ?_
  rintro e w1 ⟨rfl, hb⟩
  go_wp2
  go_ret
  exact ⟨rfl, hb⟩
theorem logTextBad_s (A0 : Option Addr) (c0 : Nat) (l : List Bat) (w : World) (h : batK.C w A0 l.length l) (hok : logOk l = false) :
    Calls Tryd.prog 8 #[.slice A0 l.length c0] w (RB (strV []) w) := by
  have hp : 0 < l.length := by
    rcases l with _ | ⟨b, l⟩
    · cases hok
    · simp
  have hm := h.2.1
  have c1 := logValid_s A0 c0 l w h
  rw [hok] at c1
  have C1 := Aside0.mk c1; clear c1 h hok
  go_enter Tryd.func8, Tryd.ntmps8
  go_wp2
  go_loopw [3, 4] (fun o i wr => o = .string ⟨#[]⟩ ∧ i = .int .i64 0 ∧ wr = w) (fun _ _ _ => 0)
  case atStart => exact ⟨rfl, rfl, rfl⟩
  case round =>
    obtain ⟨rfl, rfl, rfl⟩ := hrel
    go_wp2_with fail
    refine C1.out.mono ?_
    rintro e w1 ⟨rfl, hb⟩
    go_wp2
    go_ret
    exact ⟨rfl, hb⟩
theorem sum_mem {α : Type} (f : α → Nat) {l : List α} {x : α} (h : x ∈ l) : f x ≤ (l.map f).sum := by
  induction l with
  | nil => cases h
  | cons y l ih =>
    rw [List.map_cons, List.sum_cons]
    rcases List.mem_cons.1 h with rfl | h
    · omega
    · have := ih h
      omega
theorem bd_of_sum {l : List Bat} (h : l.length + (l.map batW).sum ≤ 1048576) : ∀ k, k < l.length → bd_toBatchS l k := by
  intro k hk
  have hb := sum_mem batW (l := l) (x := rdB l k) (by simp [rdB, List.getD_eq_getElem?_getD, hk])
  unfold batW recsW at hb
  unfold batW recsW at h
  refine ⟨by omega, fun j hj => ?_⟩
  have hr := sum_mem recW (l := (rdB l k).rs) (x := rdR (rdB l k).rs j) (by simp [rdR, List.getD_eq_getElem?_getD, hj])
  unfold recW at hr
  refine ⟨?_, ?_⟩
  · have := Nat.le_trans (Nat.le_add_right _ _) hr
    unfold recW at hb h
    omega
  · have := Nat.le_trans (Nat.le_add_left _ _) hr
    unfold recW at hb h
    omega
set_option maxHeartbeats 8000000 in
theorem exactLogText_l (A0 : Option Addr) (c0 : Nat) (l : List Bat) (w : World) (h : batK.C w A0 l.length l) (hG : GOKT w) :
    Calls Tryd.prog 5 #[.slice A0 l.length c0] w (RB (.bool true) w) := by
  have cz := szBatchS_l A0 c0 l 1048576 (by omega) w h
  by_cases hs : l.length + (l.map batW).sum ≤ 1048576
  · have hbd := bd_of_sum hs
    have hl : l.length ≤ 1048576 := by omega
    rw [szv_yes hs] at cz
    have g1 : decide (((1048576 - (l.length + (l.map batW).sum) : Nat) : Int) < 0) = false := decide_eq_false (by omega)
    generalize 1048576 - (l.length + (l.map batW).sum) = left at *
    clear hs
    have ct := fun W (hW : Below w.heap.size w W) => toBatchS_l A0 c0 l W (Kd.C_below h hW) hl hbd
    clear hbd hl h
    have CZ := Aside0.mk cz; clear cz
    have CT := Aside0.mk ct; clear ct
    have HG := Aside0.mk hG; clear hG
    obtain ⟨t, ht⟩ : ∃ t, (if logOk l = true then logText l else []) = t := ⟨_, rfl⟩
    have cS : ∀ A c W, batK.C W A l.length l → Calls Tryd.prog 8 #[.slice A l.length c] W (RB (strV t) W) := fun A c W hC => by
      rw [← ht]
      cases hok : logOk l with
      | true => rw [if_pos rfl]; exact logText_s A c l W hC hok
      | false => rw [if_neg (by decide)]; exact logTextBad_s A c l W hC hok
    have cI : ∀ A c W, batK.C W A l.length l → GOKT W → Calls Tryd.prog 7 #[.slice A l.length c] W (RB (strV t) W) := fun A c W hC hG => by
      rw [← ht]
      cases hok : logOk l with
      | true => rw [if_pos rfl]; exact logText_i A c l W hC hG hok
      | false => rw [if_neg (by decide)]; exact logTextBad_i A c l W hC hok
    have cE := fun A A' c c' W (hC : batK.C W A l.length l) hD => eqBatchS_l A A' c c' l W hC hD
    clear ht
    unfold strV at cS cI
    have CS := Aside0.mk cS; clear cS
    have CI := Aside0.mk cI; clear cI
    have CE := Aside0.mk cE; clear cE
    go_enter Tryd.func5, Tryd.ntmps5
    go_wp2_with fail
    refine CZ.out.mono ?_
    rintro e w1 ⟨rfl, hb1⟩
    go_wp2_with fail
    refine (CT.out w1 hb1).mono ?_
    rintro e w2 ⟨v, rfl, hR, hb2⟩
    obtain ⟨A1, n1, rfl, -, hC1⟩ := Kd.R_reads hR
    have hB2 := below_step hb1 hb2
    clear hR hb1 hb2
    go_wp2_with fail
    refine (CS.out A1 n1 w2 hC1).mono ?_
    rintro e w3 ⟨rfl, hb3⟩
    have hB3 := below_step hB2 hb3
    clear hB2 hb3 hC1
    go_wp2_with fail
    refine (CT.out w3 hB3).mono ?_
    rintro e w4 ⟨v, rfl, hR, hb4⟩
    obtain ⟨A2, n2, rfl, -, hC2⟩ := Kd.R_reads hR
    have hB4 := below_step hB3 hb4
    clear hR hB3 hb4
    go_wp2_with fail
    refine (CI.out A2 n2 w4 hC2 (HG.out.below hB4)).mono ?_
    rintro e w5 ⟨rfl, hb5⟩
    have hB5 := below_step hB4 hb5
    replace hC2 := Kd.C_below hC2 hb5
    clear hB4 hb5
    go_wp2_with fail
    refine (CT.out w5 hB5).mono ?_
    rintro e w6 ⟨v, rfl, hR, hb6⟩
    obtain ⟨A3, n3, rfl, -, hC3⟩ := Kd.R_reads hR
    have hB6 := below_step hB5 hb6
    replace hC2 := Kd.C_below hC2 hb6
    clear hR hB5 hb6
    go_wp2_with fail
    refine (CE.out A2 A3 n2 n3 w6 hC2 hC3).mono ?_
    rintro e w7 ⟨rfl, hb7⟩
    go_wp2
    go_ret
    exact ⟨rfl, below_step hB6 hb7⟩
  · rw [szv_no (by omega)] at cz
    have CZ := Aside0.mk cz; clear cz hs h hG
    go_enter Tryd.func5, Tryd.ntmps5
    go_wp2_with fail
    refine CZ.out.mono ?_
    rintro e w1 ⟨rfl, hb1⟩
    go_wp2
    go_ret
    exact ⟨rfl, hb1⟩
end Go.Proofs.YtifejekkbipakaaDoor
