/- The drawn record: every draw gives one, with short parts. -/
import Derived.Test.YtlijpnglocgldaaDoorQ1
set_option linter.unusedVariables false
set_option linter.unusedSimpArgs false
namespace Go.Proofs.YtlijpnglocgldaaDoor
open Go.RowKit Go.Proofs.YtlijpnglocgldaaDoorW.PrintWords Go.Proofs.YtlijpnglocgldaaDoorW.PrintLast Go.Proofs.YtlijpnglocgldaaDoor.P

theorem xor_nn (x y : Int) (hx : 0 ≤ x) (hx' : x < 4611686018427387904) (hy : 0 ≤ y) (hy' : y < 4611686018427387904) : 0 ≤ bits .xor .i64 x y := by
  have ex : (x % 18446744073709551616).toNat = x.toNat := by omega
  have ey : (y % 18446744073709551616).toNat = y.toNat := by omega
  have e : (BitVec.ofInt 64 x ^^^ BitVec.ofInt 64 y).toNat = x.toNat ^^^ y.toNat := by
    rw [BitVec.toNat_xor, BitVec.toNat_ofInt, BitVec.toNat_ofInt]
    exact congr (congrArg HXor.hXor ex) ey
  have hl : x.toNat ^^^ y.toNat < 2 ^ 62 := Nat.xor_lt_two_pow (by omega) (by omega)
  show 0 ≤ IntKind.i64.wrap ((BitVec.ofInt 64 x ^^^ BitVec.ofInt 64 y).toNat : Int)
  rw [e]
  generalize x.toNat ^^^ y.toNat = z at hl
  simp only [IntKind.wrap, IntKind.bits, IntKind.signed]
  simp
  omega
theorem rd_b (l : List Int) (hb : ∀ x ∈ l, 0 ≤ x ∧ x ≤ 255) (i : Int) : 0 ≤ rd l i ∧ rd l i ≤ 255 := by
  unfold rd
  by_cases h : i.toNat < l.length
  · rw [List.getD_eq_getElem?_getD, List.getElem?_eq_getElem h]
    exact hb _ (List.getElem_mem h)
  · rw [List.getD_eq_getElem?_getD, List.getElem?_eq_none (by omega)]
    exact ⟨by decide, by decide⟩
theorem tmod_in (x n : Int) (hx : 0 ≤ x) (hn : 1 ≤ n) : 0 ≤ Int.tmod x n ∧ Int.tmod x n < n := by
  rw [Int.tmod_eq_emod_of_nonneg hx]
  exact ⟨Int.emod_nonneg _ (by omega), Int.emod_lt_of_pos _ (by omega)⟩
theorem tdiv_in (x n : Int) (hx : 0 ≤ x) (hn : 1 ≤ n) : 0 ≤ Int.tdiv x n ∧ Int.tdiv x n ≤ x := by
  rw [Int.tdiv_eq_ediv_of_nonneg hx]
  exact ⟨Int.ediv_nonneg hx (by omega), Int.ediv_le_self _ hx⟩
theorem mix_eq (A B p D : Int) (hA : 0 ≤ A) (hA' : A ≤ 255) (hB : 0 ≤ B) (hB' : B ≤ 255) (hp : 0 ≤ p) (hp' : p ≤ 1000000) (hD : 0 ≤ D) (hD' : D ≤ p) :
    wrap64 (wrap64 (wrap64 (wrap64 (wrap64 A * 131) + wrap64 (wrap64 B * 1117)) + wrap64 (p * 29)) + wrap64 (wrap64 D * 53)) = A * 131 + B * 1117 + p * 29 + D * 53 := by
  unfold wrap64
  omega
theorem pick_ok (l : List Int) (hb : ∀ x ∈ l, 0 ≤ x ∧ x ≤ 255) (hl : l.length ≤ 2000) (p n : Int) (hp : 0 ≤ p) (hp' : p ≤ 1000000) (hn : 1 ≤ n) (hn' : n ≤ 1000000) (k : Nat) (hk : 1 ≤ k) :
    ∃ v, spec_l6Rd_pick.f k l p n = some (v, p + 1) ∧ 0 ≤ v ∧ v < n := by
  obtain ⟨k, rfl⟩ : ∃ m, k = m + 1 := ⟨k - 1, by omega⟩
  have e1 : wrap64 (p + 1) = p + 1 := by unfold wrap64; omega
  have e2 : wrap64 (p + 1 - 1) = p := by unfold wrap64; omega
  unfold spec_l6Rd_pick.f
  rw [if_neg (by omega), e1]
  simp only [spec_l6Rd_pick.j0]
  rw [e2]
  by_cases h0 : l.length = 0
  · rw [if_pos (by rw [h0]; rfl)]
    exact ⟨0, rfl, by omega, by omega⟩
  · rw [if_neg (by simp; intro e; exact h0 (by rw [e]; rfl))]
    by_cases hlt : p < (l.length : Int)
    · obtain ⟨r0, r1⟩ := rd_b l hb p
      have er : wrap64 (rd l p) = rd l p := by unfold wrap64; omega
      rw [if_pos hlt, if_pos hp, if_neg (by omega), er]
      exact ⟨_, rfl, (tmod_in _ n r0 hn).1, (tmod_in _ n r0 hn).2⟩
    · have e3 : wrap64 (wrap64 (p * 7) + 3) = p * 7 + 3 := by unfold wrap64; omega
      obtain ⟨i0, i1⟩ := tmod_in p (l.length : Int) hp (by omega)
      obtain ⟨j0, j1⟩ := tmod_in (p * 7 + 3) (l.length : Int) (by omega) (by omega)
      obtain ⟨d0, d1⟩ := tdiv_in p (l.length : Int) hp (by omega)
      obtain ⟨a0, a1⟩ := rd_b l hb (Int.tmod p (l.length : Int))
      obtain ⟨b0, b1⟩ := rd_b l hb (Int.tmod (p * 7 + 3) (l.length : Int))
      rw [if_neg hlt, if_neg (by omega), if_pos i0, if_pos i1, e3, if_pos j0, if_pos j1, if_neg (by omega), mix_eq _ _ _ _ a0 a1 b0 b1 hp hp' d0 d1]
      generalize rd l (Int.tmod p (l.length : Int)) = A at a0 a1
      generalize rd l (Int.tmod (p * 7 + 3) (l.length : Int)) = B at b0 b1
      generalize Int.tdiv p (l.length : Int) = D at d0 d1
      have hX : 0 ≤ A * 131 + B * 1117 + p * 29 + D * 53 := by omega
      have hX' : A * 131 + B * 1117 + p * 29 + D * 53 < 4611686018427387904 := by omega
      generalize A * 131 + B * 1117 + p * 29 + D * 53 = X at hX hX'
      obtain ⟨y0, y1⟩ := tdiv_in X 64 hX (by omega)
      have ey : wrap64 (Int.tdiv X 64) = Int.tdiv X 64 := by unfold wrap64; omega
      rw [ey]
      have hz := xor_nn X (Int.tdiv X 64) hX hX' y0 (by omega)
      exact ⟨_, rfl, (tmod_in _ n hz hn).1, (tmod_in _ n hz hn).2⟩
theorem part_l0 (l : List Int) (hb : ∀ x ∈ l, 0 ≤ x ∧ x ≤ 255) (hl : l.length ≤ 2000) (d : Nat) : ∀ (k : Nat) (acc : List Int) (n i p : Int), 0 ≤ i → n - i = d → n ≤ 12 → d + 1 < k → acc.length + d ≤ 100 → 0 ≤ p → p + 2 * d ≤ 1000000 →
    ∃ q, spec_l91Part.l0 k acc n i l p = some (true, q, p + 2 * d) ∧ q.length = acc.length + d := by
  induction d with
  | zero =>
    intro k acc n i p h0 hd hn hk ha hp hp'
    obtain ⟨k, rfl⟩ : ∃ m, k = m + 1 := ⟨k - 1, by omega⟩
    simp only [spec_l91Part.l0]
    rw [if_neg (by omega)]
    exact ⟨acc, by simp, by simp⟩
  | succ d ih =>
    intro k acc n i p h0 hd hn hk ha hp hp'
    obtain ⟨k, rfl⟩ : ∃ m, k = m + 1 := ⟨k - 1, by omega⟩
    have e1 : wrap64 (i + 1) = i + 1 := by unfold wrap64; omega
    obtain ⟨v, ev, v0, v1⟩ := pick_ok l hb hl p 256 hp (by omega) (by omega) (by omega) k (by omega)
    obtain ⟨u, eu, u0, u1⟩ := pick_ok l hb hl (p + 1) 4 (by omega) (by omega) (by omega) (by omega) k (by omega)
    simp only [spec_l91Part.l0]
    rw [if_pos (by omega), ev]
    simp only [Option.bind_some]
    rw [eu]
    simp only [Option.bind_some]
    rw [if_pos u0, if_pos (show u < (([1, 2, 3, v] : List Int).length : Int) from u1), if_pos (by omega), e1]
    obtain ⟨q, eq, hq⟩ := ih k (acc ++ [rd [1, 2, 3, v] u]) n (i + 1) (p + 1 + 1) (by omega) (by omega) hn (by omega) (by simp; omega) (by omega) (by omega)
    refine ⟨q, ?_, by rw [hq]; simp; omega⟩
    rw [eq]
    congr 3
    omega
theorem part_ok (l : List Int) (hb : ∀ x ∈ l, 0 ≤ x ∧ x ≤ 255) (hl : l.length ≤ 2000) (p : Int) (hp : 0 ≤ p) (hp' : p ≤ 100000) (k : Nat) (hk : 50 ≤ k) :
    ∃ h q p', spec_l91Part.f k l p = some (h, q, p') ∧ q.length ≤ 12 ∧ p ≤ p' ∧ p' ≤ p + 27 := by
  obtain ⟨k, rfl⟩ : ∃ m, k = m + 1 := ⟨k - 1, by omega⟩
  have hj : ∀ acc n, spec_l91Part.j0 (k + 1) acc n l = fun s => spec_l91Part.l0 k acc n 0 l s := by
    intro acc n
    funext s
    simp only [spec_l91Part.j0]
  obtain ⟨v, ev, v0, v1⟩ := pick_ok l hb hl p 4 hp (by omega) (by omega) (by omega) (k + 1) (by omega)
  unfold spec_l91Part.f
  rw [ev]
  simp only [Option.bind_some]
  by_cases hv : v = 0
  · rw [if_pos hv]
    exact ⟨_, _, _, rfl, Nat.zero_le _, by omega, by omega⟩
  · rw [if_neg hv]
    obtain ⟨u, eu, u0, u1⟩ := pick_ok l hb hl (p + 1) 5 (by omega) (by omega) (by omega) (by omega) (k + 1) (by omega)
    obtain ⟨z, ez, z0, z1⟩ := pick_ok l hb hl (p + 1 + 1) 12 (by omega) (by omega) (by omega) (by omega) (k + 1) (by omega)
    rw [eu]
    simp only [Option.bind_some]
    rw [ez]
    simp only [Option.bind_some, hj]
    by_cases hz : z = 0
    · rw [if_pos hz]
      obtain ⟨q, e, hq⟩ := part_l0 l hb hl 12 k [] 12 0 (p + 1 + 1 + 1) (by omega) (by omega) (by omega) (by omega) (by simp) (by omega) (by omega)
      exact ⟨_, _, _, e, by rw [hq]; simp, by omega, by omega⟩
    · rw [if_neg hz]
      obtain ⟨q, e, hq⟩ := part_l0 l hb hl u.toNat k [] u 0 (p + 1 + 1 + 1) (by omega) (by omega) (by omega) (by omega) (by simp; omega) (by omega) (by omega)
      exact ⟨_, _, _, e, by rw [hq]; simp; omega, by omega, by omega⟩
theorem record_ok (l : List Int) (hb : ∀ x ∈ l, 0 ≤ x ∧ x ≤ 255) (hl : l.length ≤ 2000) (k : Nat) (hk : 50 ≤ k) :
    ∃ o t hk kk hv v p', spec_l91Record.f k l 0 = some (o, t, hk, kk, hv, v, p') ∧ kk.length ≤ 13 ∧ v.length ≤ 13 ∧ 0 ≤ p' ∧ p' ≤ 100 := by
  have pk := fun (p n : Int) (h0 : 0 ≤ p) (h1 : p ≤ 1000) (h2 : 1 ≤ n) (h3 : n ≤ 1000) => pick_ok l hb hl p n h0 (by omega) h2 (by omega) k (by omega)
  obtain ⟨v1, e1, _⟩ := pk 0 60 (by omega) (by omega) (by omega) (by omega)
  obtain ⟨v2, e2, _⟩ := pk (0 + 1) 250 (by omega) (by omega) (by omega) (by omega)
  obtain ⟨v3, e3, _⟩ := pk (0 + 1 + 1) 2 (by omega) (by omega) (by omega) (by omega)
  obtain ⟨v4, e4, _⟩ := pk (0 + 1 + 1 + 1) 100 (by omega) (by omega) (by omega) (by omega)
  obtain ⟨h5, q5, p5, e5, l5, a5, b5⟩ := part_ok l hb hl (0 + 1 + 1 + 1 + 1) (by omega) (by omega) k hk
  obtain ⟨h6, q6, p6, e6, l6, a6, b6⟩ := part_ok l hb hl p5 (by omega) (by omega) k hk
  obtain ⟨v7, e7, _⟩ := pk p6 40 (by omega) (by omega) (by omega) (by omega)
  obtain ⟨v8, e8, z0, z1⟩ := pk (p6 + 1) 3 (by omega) (by omega) (by omega) (by omega)
  unfold spec_l91Record.f
  rw [e1]
  simp only [Option.bind_some]
  rw [e2]
  simp only [Option.bind_some]
  rw [e3]
  simp only [Option.bind_some]
  rw [e4]
  simp only [Option.bind_some]
  rw [e5]
  simp only [Option.bind_some]
  rw [e6]
  simp only [Option.bind_some]
  rw [e7]
  simp only [Option.bind_some]
  by_cases c0 : v7 = 0
  · rw [if_pos c0, e8]
    simp only [Option.bind_some]
    rw [if_pos z0, if_pos (show v8 < (([-1, 99999, 100000] : List Int).length : Int) from z1)]
    exact ⟨_, _, _, _, _, _, _, rfl, by omega, by omega, by omega, by omega⟩
  · rw [if_neg c0]
    by_cases c1 : v7 = 1
    · rw [if_pos c1]
      exact ⟨_, _, _, _, _, _, _, rfl, by omega, by omega, by omega, by omega⟩
    · rw [if_neg c1]
      by_cases c2 : v7 = 2
      · rw [if_pos c2, if_pos (by omega)]
        exact ⟨_, _, _, _, _, _, _, rfl, by omega, by simp; omega, by omega, by omega⟩
      · rw [if_neg c2]
        exact ⟨_, _, _, _, _, _, _, rfl, by omega, by omega, by omega, by omega⟩
theorem open_ok (l : List Int) : spec_l6Open.f l = some (l.take 2000, 0) := by
  unfold spec_l6Open.f
  by_cases h : (l.length : Int) > 2000
  · rw [if_pos h, if_pos (by omega)]
  · rw [if_neg h, List.take_of_length_le (by omega)]
theorem bytes_take {l : List Int} (h : ∀ x ∈ l, (Lit.int .u8 x).wf = true) : (∀ x ∈ l.take 2000, 0 ≤ x ∧ x ≤ 255) ∧ (l.take 2000).length ≤ 2000 := by
  refine ⟨fun x hx => ?_, by rw [List.length_take]; omega⟩
  have := h x (List.mem_of_mem_take hx)
  simpa [Lit.wf, IntKind.min, IntKind.max, IntKind.signed, IntKind.bits] using this
end Go.Proofs.YtlijpnglocgldaaDoor
