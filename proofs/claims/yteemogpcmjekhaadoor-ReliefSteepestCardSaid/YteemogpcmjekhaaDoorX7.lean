/-
  Texts of the proof: H15, V5, V6, V7.
-/
import Derived.Test.YteemogpcmjekhaaDoorX6
set_option linter.all false
set_option linter.unusedSimpArgs false
namespace Go.Gv
theorem stpF_neg {m : Msh} {i : Nat} {best n : Int} (hb : best = -2 ∨ 0 ≤ best) (h : stpF m i best n = -2) : best = -2 ∧ (n < 0 ∨ sumF m i ≤ sumF m n.toNat) := by
  unfold stpF at h
  split at h
  · rename_i h1
    exact ⟨h, h1⟩
  · rename_i h1
    split at h
    · omega
    · rename_i h2
      split at h <;> omega
theorem upF_neg {m : Msh} {i : Nat} (h : upF m i 3 = -2) : ∀ c, c < 3 → nbF m i c < 0 ∨ sumF m i ≤ sumF m (nbF m i c).toNat := by
  have b := fun k => (by have := upF_bd m i k; omega : upF m i k = -2 ∨ 0 ≤ upF m i k)
  have h2 := stpF_neg (b 2) (show stpF m i (upF m i 2) (nbF m i 2) = -2 from h)
  have h1 := stpF_neg (b 1) (show stpF m i (upF m i 1) (nbF m i 1) = -2 from h2.1)
  have h0 := stpF_neg (b 0) (show stpF m i (upF m i 0) (nbF m i 0) = -2 from h1.1)
  intro c hc
  rcases (by omega : c = 0 ∨ c = 1 ∨ c = 2) with rfl | rfl | rfl
  · exact h0.2
  · exact h1.2
  · exact h2.2
/-- Where the water runs to no face. -/
theorem runF_neg {m : Msh} {i : Nat} (h : runF m i < 0) : (∀ c, c < 3 → nbF m i c < 0 ∨ sumF m i ≤ sumF m (nbF m i c).toNat) ∧ ((runF m i = -1 ∧ bsd m i (-1) = true) ∨ (runF m i = -2 ∧ bsd m i (-1) = false)) := by
  have hb := upF_bd m i 3
  unfold runF at h ⊢
  by_cases hu : upF m i 3 = -2
  · refine ⟨upF_neg hu, ?_⟩
    cases hs : bsd m i (-1)
    · right; simp [hu]
    · left; simp [hu]
  · rw [if_neg (by omega)] at h
    omega
theorem pth_ok (m : Msh) : ∀ (k : Nat) (f : Int), 0 ≤ f → f < m.f.length → rnk m f.toNat < k → (pth m k f)[0]? = some f ∧ (∀ (j : Nat) (x : Int), (pth m k f)[j]? = some x → 0 ≤ x ∧ x < m.f.length) ∧
    (∀ (j : Nat) (x y : Int), (pth m k f)[j]? = some x → (pth m k f)[j + 1]? = some y → y = runF m x.toNat) ∧ (∀ (j : Nat) (x : Int), j + 1 = (pth m k f).length → (pth m k f)[j]? = some x → runF m x.toNat < 0)
  | 0, f, _, _, h => by omega
  | k + 1, f, h0, h1, h2 => by
    rw [pth, if_neg (by omega)]
    rcases runF_bd m f.toNat with h | h | ⟨r1, r2, r3⟩
    · rw [pth_neg m k (f := runF m f.toNat) (by omega)]
      refine ⟨rfl, fun j x hx => ?_, fun j x y hx hy => ?_, fun j x hj hx => ?_⟩
      · cases j <;> simp at hx
        subst hx; exact ⟨h0, h1⟩
      · simp at hy
      · simp at hj
        subst hj
        simp at hx
        subst hx; omega
    · rw [pth_neg m k (f := runF m f.toNat) (by omega)]
      refine ⟨rfl, fun j x hx => ?_, fun j x y hx hy => ?_, fun j x hj hx => ?_⟩
      · cases j <;> simp at hx
        subst hx; exact ⟨h0, h1⟩
      · simp at hy
      · simp at hj
        subst hj
        simp at hx
        subst hx; omega
    · have hr := rnk_lt (m := m) (i := f.toNat) (j := (runF m f.toNat).toNat) (by omega) r3
      obtain ⟨i1, i2, i3, i4⟩ := pth_ok m k (runF m f.toNat) r1 r2 (by omega)
      refine ⟨rfl, fun j x hx => ?_, fun j x y hx hy => ?_, fun j x hj hx => ?_⟩
      · cases j with
        | zero => simp at hx; subst hx; exact ⟨h0, h1⟩
        | succ j => simp at hx; exact i2 j x hx
      · simp at hy
        cases j with
        | zero =>
          simp at hx; subst hx
          rw [i1] at hy
          exact (Option.some.inj hy).symm
        | succ j => simp at hx; exact i3 j x y hx hy
      · cases j with
        | zero =>
          simp at hj
          rw [hj] at i1
          simp at i1
        | succ j =>
          simp at hx hj
          exact i4 j x (by omega) hx
theorem sumL_at (m : Msh) (i : Nat) (h : i < (sumL m).length) : (sumL m)[i] = sumF m i := by simp [sumL]
theorem flowL_at (m : Msh) (i : Nat) (h : i < (flowL m).length) : (flowL m)[i] = runF m i := by simp [flowL]
theorem sumL_len (m : Msh) : (sumL m).length = m.f.length := by simp [sumL]
theorem flowL_len (m : Msh) : (flowL m).length = m.f.length := by simp [flowL]
theorem lakL_has (m : Msh) {e : Int} (h0 : 0 ≤ e) (h1 : e < m.f.length) : ((lakL m).any fun x => decide (e = x)) = decide (runF m e.toNat = -2) := by
  rw [Bool.eq_iff_iff]
  simp only [lakL, lakT, List.any_eq_true, List.mem_map, List.mem_filter, List.mem_range, decide_eq_true_eq]
  constructor
  · rintro ⟨x, ⟨j, ⟨h2, h3⟩, rfl⟩, rfl⟩
    simpa using h3
  · intro h
    exact ⟨e, ⟨e.toNat, ⟨by omega, h⟩, by omega⟩, rfl⟩
variable {C : CC} (hC : Closed prog C)
include hC
end Go.Gv

set_option linter.unusedSimpArgs false
namespace Go.Gv
theorem cmp3_neg (x y : Int) : cmp3 x y = -cmp3 y x := by
  unfold cmp3
  split <;> split <;> omega
theorem cmp3_nn {x y : Int} : 0 ≤ cmp3 x y ↔ y ≤ x := by
  unfold cmp3
  split <;> (try split) <;> omega
theorem cmp3_z {x y : Int} : cmp3 x y = 0 ↔ x = y := by
  unfold cmp3
  split <;> (try split) <;> omega
theorem cmp3_p {x y : Int} : 0 < cmp3 x y ↔ y < x := by
  unfold cmp3
  split <;> (try split) <;> omega
/-- Quotients are ordered. -/
theorem frac_trans {x y z p q r : Int} (hp : 0 < p) (hq : 0 < q) (hr : 0 < r) (h1 : y * p ≤ x * q) (h2 : z * q ≤ y * r) : z * p ≤ x * r := by
  have e1 : y * p * r ≤ x * q * r := Int.mul_le_mul_of_nonneg_right h1 (by omega)
  have e2 : z * q * p ≤ y * r * p := Int.mul_le_mul_of_nonneg_right h2 (by omega)
  have e3 : y * p * r = y * r * p := Int.mul_right_comm y p r
  have e4 : x * q * r = x * r * q := Int.mul_right_comm x q r
  have e5 : z * q * p = z * p * q := Int.mul_right_comm z q p
  exact Int.le_of_mul_le_mul_right (show z * p * q ≤ x * r * q by omega) hq
/-- Face a is no worse than face b. -/
def geF (m : Msh) (i a b : Nat) : Prop := numF m i b * denF m i a ≤ numF m i a * denF m i b ∧ (numF m i b * denF m i a = numF m i a * denF m i b → a ≤ b)
theorem geF_trans {m : Msh} {i a b c : Nat} (ha : 0 < denF m i a) (hb : 0 < denF m i b) (hc : 0 < denF m i c) (h1 : geF m i a b) (h2 : geF m i b c) : geF m i a c := by
  obtain ⟨p1, p2⟩ := h1
  obtain ⟨q1, q2⟩ := h2
  refine ⟨frac_trans ha hb hc p1 q1, fun e => ?_⟩
  have e1 := frac_trans hb hc ha q1 (show numF m i a * denF m i c ≤ numF m i c * denF m i a by omega)
  have e2 := frac_trans hc ha hb (show numF m i a * denF m i c ≤ numF m i c * denF m i a by omega) p1
  have := p2 (by omega)
  have := q2 (by omega)
  omega
theorem geF_refl (m : Msh) (i a : Nat) : geF m i a a := ⟨Int.le_refl _, fun _ => Nat.le_refl _⟩
theorem upF_neg_at {m : Msh} {i : Nat} : ∀ k, upF m i k < 0 → ∀ c, c < k → nbF m i c < 0 ∨ sumF m i ≤ sumF m (nbF m i c).toNat
  | 0, _, c, hc => by omega
  | k + 1, h, c, hc => by
    have b := upF_bd m i k
    have b2 := upF_bd m i (k + 1)
    have h2 := stpF_neg (by omega) (show stpF m i (upF m i k) (nbF m i k) = -2 from (show upF m i (k + 1) = -2 by omega))
    rcases Nat.lt_succ_iff_lt_or_eq.1 hc with h3 | rfl
    · exact upF_neg_at k (by omega) c h3
    · exact h2.2
theorem up_best {m : Msh} (hv : validM m = true) {i : Nat} (hi : i < m.f.length) : ∀ k, k ≤ 3 → 0 ≤ upF m i k → (∃ c, c < k ∧ upF m i k = nbF m i c) ∧ ∀ c, c < k → 0 ≤ nbF m i c → sumF m (nbF m i c).toNat < sumF m i → geF m i (upF m i k).toNat (nbF m i c).toNat
  | 0, _, h => by simp [upF] at h
  | k + 1, hk, h => by
    have ih := up_best hv hi k (by omega)
    have hd := fun c (hc : c < 3) h => den_pos hv hi hc (k := c) h
    have ub := upF_bd m i k
    obtain ⟨N, hN⟩ : ∃ N, N = nbF m i k := ⟨_, rfl⟩
    obtain ⟨U, hU⟩ : ∃ U, U = upF m i k := ⟨_, rfl⟩
    have step : upF m i (k + 1) = stpF m i U N := by rw [hU, hN]; rfl
    rw [step] at h ⊢
    rw [← hU] at ih ub
    unfold stpF at h ⊢
    have last : ∀ c, c < k + 1 → c < k ∨ nbF m i c = N := fun c hc => by
      rcases Nat.lt_succ_iff_lt_or_eq.1 hc with h | rfl
      · exact .inl h
      · exact .inr hN.symm
    by_cases c1 : N < 0 ∨ sumF m i ≤ sumF m N.toNat
    · rw [if_pos c1] at h ⊢
      obtain ⟨⟨c, hc, e⟩, hb⟩ := ih h
      refine ⟨⟨c, by omega, e⟩, fun c hc h1 h2 => ?_⟩
      rcases last c hc with h3 | h3
      · exact hb c h3 h1 h2
      · rw [h3] at h1 h2; omega
    · rw [if_neg c1] at h ⊢
      have hN0 : 0 ≤ N := by omega
      have dN := hd k (by omega) (by omega)
      rw [← hN] at dN
      by_cases c2 : U < 0
      · rw [if_pos c2] at h ⊢
        refine ⟨⟨k, by omega, hN⟩, fun c hc h1 h2 => ?_⟩
        rcases last c hc with h3 | h3
        · have := upF_neg_at (m := m) (i := i) k (by omega) c h3
          omega
        · rw [h3]; exact geF_refl m i _
      · rw [if_neg c2] at h ⊢
        obtain ⟨⟨c, hc, e⟩, hb⟩ := ih (by omega)
        have dU := hd c (by omega) (by omega)
        rw [← e] at dU
        have tot : ∀ d, d < k → 0 ≤ nbF m i d → 0 < denF m i (nbF m i d).toNat := fun d hd2 h => hd d (by omega) h
        by_cases c3 : 0 < cmpF m i N.toNat U.toNat ∨ (cmpF m i N.toNat U.toNat = 0 ∧ N < U)
        · rw [if_pos c3] at h ⊢
          have g : geF m i N.toNat U.toNat := by
            unfold cmpF at c3
            rw [cmp3_p, cmp3_z] at c3
            exact ⟨by omega, fun e => by omega⟩
          refine ⟨⟨k, by omega, hN⟩, fun c hc h1 h2 => ?_⟩
          rcases last c hc with h3 | h3
          · exact geF_trans dN dU (tot c h3 h1) g (hb c h3 h1 h2)
          · rw [h3]; exact geF_refl m i _
        · rw [if_neg c3] at h ⊢
          have g : geF m i U.toNat N.toNat := by
            unfold cmpF at c3
            rw [cmp3_p, cmp3_z] at c3
            exact ⟨by omega, fun e => by omega⟩
          refine ⟨⟨c, by omega, e⟩, fun c hc h1 h2 => ?_⟩
          rcases last c hc with h3 | h3
          · exact hb c h3 h1 h2
          · rw [h3]; exact g
end Go.Gv

set_option linter.unusedSimpArgs false
namespace Go.Gv
theorem run_bsd {m : Msh} (hv : validM m = true) {i : Nat} (hi : i < m.f.length) (h : 0 ≤ runF m i) : bsd m i (runF m i) = true ∧ upF m i 3 = runF m i := by
  have hb := upF_bd m i 3
  have e : upF m i 3 = runF m i := by
    unfold runF at h ⊢
    split
    · rename_i h1; rw [if_pos h1] at h; omega
    · rfl
  obtain ⟨⟨c, hc, e2⟩, _⟩ := up_best hv hi 3 (by omega) (by omega)
  refine ⟨?_, e⟩
  rw [← e, e2]
  rcases (by omega : c = 0 ∨ c = 1 ∨ c = 2) with rfl | rfl | rfl <;> simp [bsd]
theorem bsd_nb (m : Msh) (i c : Nat) (hc : c < 3) : bsd m i (nbF m i c) = true := by
  rcases (by omega : c = 0 ∨ c = 1 ∨ c = 2) with rfl | rfl | rfl <;> simp [bsd]
theorem numF_sign {m : Msh} {i j : Nat} : (sumF m i ≤ sumF m j → numF m i j ≤ 0) ∧ (sumF m j < sumF m i → 0 < numF m i j) := by
  have hd : difF m i j = sumF m i - sumF m j := rfl
  unfold numF
  constructor
  · intro h
    have h1 : difF m i j ≤ 0 := by omega
    have h2 : 0 ≤ (if difF m i j < -difF m i j then -difF m i j else difF m i j) := by split <;> omega
    exact Int.mul_nonpos_of_nonpos_of_nonneg h1 h2
  · intro h
    rw [if_neg (by omega)]
    exact Int.mul_pos (by omega) (by omega)
/-- Where water runs is no worse than any neighbour. -/
theorem run_best {m : Msh} (hv : validM m = true) {i : Nat} (hi : i < m.f.length) (h : 0 ≤ runF m i) {c : Nat} (hc : c < 3) (hn : 0 ≤ nbF m i c) :
    0 ≤ cmpF m i (runF m i).toNat (nbF m i c).toNat ∧ (cmpF m i (runF m i).toNat (nbF m i c).toNat = 0 → runF m i ≤ nbF m i c) := by
  obtain ⟨_, e⟩ := run_bsd hv hi h
  obtain ⟨⟨d, hd, ed⟩, hb⟩ := up_best hv hi 3 (by omega) (by omega)
  rw [e] at ed hb
  have dU := den_pos hv hi hd (by omega)
  rw [← ed] at dU
  have dN := den_pos hv hi hc hn
  unfold cmpF
  rw [cmp3_nn, cmp3_z]
  by_cases hl : sumF m (nbF m i c).toNat < sumF m i
  · obtain ⟨g1, g2⟩ := hb c hc hn hl
    exact ⟨g1, fun e => by have := g2 e.symm; omega⟩
  · have n1 := (numF_sign (m := m) (i := i) (j := (nbF m i c).toNat)).1 (by omega)
    have hr : sumF m (runF m i).toNat < sumF m i := by
      rcases runF_bd m i with h | h | ⟨_, _, h⟩ <;> omega
    have n2 := (numF_sign (m := m) (i := i) (j := (runF m i).toNat)).2 hr
    have p1 := Int.mul_pos n2 dN
    have p2 := Int.mul_nonpos_of_nonpos_of_nonneg n1 (show 0 ≤ denF m i (runF m i).toNat by omega)
    exact ⟨by omega, fun e => by omega⟩
end Go.Gv

set_option linter.unusedSimpArgs false
namespace Go.Gv
variable {C : CC} (hC : Closed prog C)
include hC
set_option maxRecDepth 8000 in
set_option maxHeartbeats 4000000 in
theorem ReliefSteepest_c (dec : Nat → List UInt8) (hI : ∀ n : Nat, n < 100 → C 127 [.int .i64 n] (.str (dec n)) []) (m : Msh) (f : Int) (hf : 0 ≤ f ∧ f < 65536) : C 205 [.agg (mshC m), .int .u16 f] (.bool true) [] := by
  have ka := awake10_c hC dec hI
  have kr := ready_c hC m
  refine start hC (nf := N205_law10_ReliefSteepest) rfl rfl ?_
  simp only [mshC_eq] at kr
  simp [N205_law10_ReliefSteepest, mshC_eq]
  refine callW_of ka (.inl rfl) ?_
  simp
  refine callW_of kr (.inl rfl) ?_
  by_cases hR : (decide (m.s.length ≤ 80) && decide (1 ≤ m.f.length) && decide (m.f.length ≤ 80) && validM m) = true
  rotate_left
  · rw [Bool.not_eq_true] at hR
    rw [hR]
    simp
  rw [hR]
  simp only [Bool.and_eq_true, decide_eq_true_eq] at hR
  obtain ⟨⟨⟨r1, r2⟩, r3⟩, hv⟩ := hR
  have hz : smallM m = true → m.s.length ≤ 100 ∧ m.f.length ≤ 100 := fun _ => by omega
  obtain ⟨g, hg⟩ : ∃ g, g = f % (m.f.length : Int) := ⟨_, rfl⟩
  have hg0 : 0 ≤ g := by rw [hg]; exact Int.emod_nonneg _ (by omega)
  have hg1 : g < m.f.length := by rw [hg]; exact Int.emod_lt_of_pos _ (by omega)
  obtain ⟨i, hi⟩ : ∃ i : Nat, g = i := ⟨g.toNat, by omega⟩
  have k2 := Flow_c hC dec hI m hz
  have k4 := Neighbours_c hC dec hI m hz
  rw [hv] at k2 k4
  simp only [mshC_eq, if_true] at k2 k4
  have wf : IntKind.wrap .i64 f = f := wrap_i64 rfl (by omega)
  have hmod : Int.tmod f (m.f.length : Int) = (i : Int) := by rw [← hi, hg]; exact Int.tmod_eq_emod_of_nonneg hf.1
  have hiL : i < m.f.length := by omega
  have hL := flowL_at m
  have lL := flowL_len m
  have lA : (nbA m).length = m.f.length := by simp [nbA]
  obtain ⟨L, eL⟩ : ∃ L, L = flowL m := ⟨_, rfl⟩
  rw [← eL] at k2 hL lL
  have hLi : L[i]'(by omega) = runF m i := hL _ _
  obtain ⟨to, eto⟩ : ∃ to, to = runF m i := ⟨_, rfl⟩
  rw [← eto] at hLi
  have hnb : (nbA m)[i]? = some [.int .i64 (nbF m i 0), .int .i64 (nbF m i 1), .int .i64 (nbF m i 2)] := by simp [nbA, hiL]
  simp [wf, hmod]
  refine ⟨fun h => by rw [h] at r2; simp at r2, ?_⟩
  refine callW_of k2 (.inr rfl) ?_
  simp
  refine callW_of k4 (.inr rfl) ?_
  have hiLL : i < L.length := by omega
  have xr : L[i]?.getD 0 = to := by rw [List.getElem?_eq_getElem hiLL]; exact hLi
  simp [lL, lA, inR_eq, hiLL, hLi]
  refine ⟨hiL, ?_⟩
  rw [idxW_some hnb, xr]
  simp
  have w0 : wiS 0 = .agg [.int .i64 0, .int .i64 0] := by simp [wiS]
  have kS := fun b => Slope_c hC dec hI m hz i b
  have kT := fun a b => Steeper_c hC dec hI m hz i a b
  simp only [mshC_eq] at kS kT
  have tb := runF_bd m i
  rw [← eto] at tb
  refine loop_of Nat (fun k => [(2, .ptr (mshC m)), (5, .int .i64 i), (8, .sl (nbA m)), (10, .int .i64 to), (74, .agg [.int .i64 (nbF m i 0), .int .i64 (nbF m i 1), .int .i64 (nbF m i 2)]), (75, .int .i64 k)]) (fun k => k ≤ 3) (fun k => 3 - k) 0 (by simp) (by simp [mshC_eq]) ?_
  rintro k hk
  rcases (by omega : k = 0 ∨ k = 1 ∨ k = 2 ∨ k = 3) with rfl | rfl | rfl | rfl
  · have nb := nbF_bd m i 0
    have kb := bsd_nb m i 0 (by omega)
    have dp := den_pos hv hiL (k := 0) (by omega)
    have rb := run_best hv hiL (c := 0)
    obtain ⟨N, hN⟩ : ∃ N, N = nbF m i 0 := ⟨_, rfl⟩
    rw [← hN] at nb kb dp rb
    simp [mshC_eq, w64_1, w64_2, w64_3, ← hN]
    by_cases c1 : N < 0
    · simp [c1, w64_1, w64_2, w64_3]
      exact ⟨1, by omega, by omega, by simp [mshC_eq], by simp [hN]⟩
    · have n0 : 0 ≤ N := by omega
      have hsl : slE m i N = 0 := by simp [slE, hv, inR1, hiL, kb]; omega
      have ks := kS N
      rw [if_pos hsl] at ks
      have b1 := numF_bd hv (i := i) (j := N.toNat) hiL (by omega)
      have b2 := denF_bd hv (i := i) (j := N.toNat) hiL (by omega)
      have dp := dp n0
      have sg := numF_sign (m := m) (i := i) (j := N.toNat)
      simp only [Int.toNat_natCast] at ks
      obtain ⟨x, hx⟩ : ∃ x, x = numF m i N.toNat := ⟨_, rfl⟩
      obtain ⟨y, hy⟩ : ∃ x, x = denF m i N.toNat := ⟨_, rfl⟩
      rw [← hx] at b1 ks sg
      rw [← hy] at b2 ks dp
      have v1 := wvalidS_c hC x (by omega)
      have v2 := wvalidS_c hC y (by omega)
      have m1 := CmpS_c hC y 0 (by omega) (by omega)
      have m2 := CmpS_c hC x 0 (by omega) (by omega)
      rw [w0] at m1 m2
      rw [show cmp3 y 0 = 1 by unfold cmp3; rw [if_neg (by omega), if_pos dp]] at m1
      obtain ⟨u1, u2, eu⟩ : ∃ a b : Int, wiS x = .agg [.int .i64 a, .int .i64 b] := ⟨_, _, rfl⟩
      obtain ⟨z1, z2, ez⟩ : ∃ a b : Int, wiS y = .agg [.int .i64 a, .int .i64 b] := ⟨_, _, rfl⟩
      rw [eu] at ks v1 m2
      rw [ez] at ks v2 m1
      simp [c1]
      refine callW_of ks (.inr rfl) ?_
      simp
      refine callW_of v1 (.inl rfl) ?_
      simp
      refine callW_of v2 (.inl rfl) ?_
      simp
      refine callW_of m1 (.inl rfl) ?_
      simp
      refine callW_of m2 (.inl rfl) ?_
      simp
      by_cases c2 : to < 0
      · have hn := runF_neg (m := m) (i := i) (by omega)
        have h3 := hn.1 0 (by omega)
        rw [← hN] at h3
        have hz2 : ¬ 0 < cmp3 x 0 := by rw [cmp3_p]; have := sg.1 (by omega); omega
        simp [c2, hz2, w64_1, w64_2, w64_3]
        exact ⟨1, by omega, by omega, by simp [mshC_eq], hN, by simp⟩
      · have c3 : 0 ≤ runF m i := by omega
        obtain ⟨rb1, rb2⟩ := rb c3 (by omega) n0
        rw [← eto] at rb1 rb2
        have tbs := (run_bsd hv hiL c3).1
        rw [← eto] at tbs
        have kc := hasIs_c hC (b := false) (xs := [nbF m i 0, nbF m i 1, nbF m i 2]) to (by simp)
        rw [show ([nbF m i 0, nbF m i 1, nbF m i 2].any fun y => decide (to = y)) = true by rw [← tbs]; simp [bsd]] at kc
        simp at kc
        have to1 : to < m.f.length := by omega
        have e1 : stE m i to N = 0 := by simp [stE, hv, inR1, hiL, kb, tbs, to1, n0]; omega
        have e2 : stE m i N to = 0 := by simp [stE, hv, inR1, hiL, kb, tbs, to1, n0]; omega
        have t1 := kT to N
        have t2 := kT N to
        rw [e1] at t1
        rw [e2] at t2
        simp only [if_true, Int.toNat_natCast] at t1 t2
        rw [show cmpF m i N.toNat to.toNat = -cmpF m i to.toNat N.toNat from cmp3_neg _ _] at t2
        have cb : cmpF m i to.toNat N.toNat = 0 ∨ cmpF m i to.toNat N.toNat = 1 := by unfold cmpF cmp3 at rb1 ⊢; split at rb1 <;> (try split) <;> omega
        obtain ⟨c, hc⟩ : ∃ c, c = cmpF m i to.toNat N.toNat := ⟨_, rfl⟩
        rw [← hc] at t1 t2 rb1 rb2 cb
        simp [c2, lA, hiL]
        rw [idxW_some hnb]
        simp
        refine callW_of kc (.inl rfl) ?_
        simp
        refine callW_of t1 (.inl rfl) ?_
        simp
        refine callW_of t2 (.inl rfl) ?_
        have wn : IntKind.wrap .i64 (-(-c)) = c := wrap_i64 (by omega) (by omega)
        have c0 : ¬ c < 0 := by omega
        have wn2 : IntKind.wrap .i64 c = c := wrap_i64 rfl (by omega)
        simp [wn, wn2, c0, w64_1, w64_2, w64_3]
        by_cases c4 : c = 0
        · have c5 : ¬ N < to := by have := rb2 c4; omega
          simp [c4, c5, w64_1, w64_2, w64_3]
          exact ⟨1, by omega, by omega, by simp [mshC_eq], hN, by simp⟩
        · simp [c4, w64_1, w64_2, w64_3]
          exact ⟨1, by omega, by omega, by simp [mshC_eq], hN, by simp⟩
  · have nb := nbF_bd m i 1
    have kb := bsd_nb m i 1 (by omega)
    have dp := den_pos hv hiL (k := 1) (by omega)
    have rb := run_best hv hiL (c := 1)
    obtain ⟨N, hN⟩ : ∃ N, N = nbF m i 1 := ⟨_, rfl⟩
    rw [← hN] at nb kb dp rb
    simp [mshC_eq, w64_1, w64_2, w64_3, ← hN]
    by_cases c1 : N < 0
    · simp [c1, w64_1, w64_2, w64_3]
      exact ⟨2, by omega, by omega, by simp [mshC_eq], by simp [hN]⟩
    · have n0 : 0 ≤ N := by omega
      have hsl : slE m i N = 0 := by simp [slE, hv, inR1, hiL, kb]; omega
      have ks := kS N
      rw [if_pos hsl] at ks
      have b1 := numF_bd hv (i := i) (j := N.toNat) hiL (by omega)
      have b2 := denF_bd hv (i := i) (j := N.toNat) hiL (by omega)
      have dp := dp n0
      have sg := numF_sign (m := m) (i := i) (j := N.toNat)
      simp only [Int.toNat_natCast] at ks
      obtain ⟨x, hx⟩ : ∃ x, x = numF m i N.toNat := ⟨_, rfl⟩
      obtain ⟨y, hy⟩ : ∃ x, x = denF m i N.toNat := ⟨_, rfl⟩
      rw [← hx] at b1 ks sg
      rw [← hy] at b2 ks dp
      have v1 := wvalidS_c hC x (by omega)
      have v2 := wvalidS_c hC y (by omega)
      have m1 := CmpS_c hC y 0 (by omega) (by omega)
      have m2 := CmpS_c hC x 0 (by omega) (by omega)
      rw [w0] at m1 m2
      rw [show cmp3 y 0 = 1 by unfold cmp3; rw [if_neg (by omega), if_pos dp]] at m1
      obtain ⟨u1, u2, eu⟩ : ∃ a b : Int, wiS x = .agg [.int .i64 a, .int .i64 b] := ⟨_, _, rfl⟩
      obtain ⟨z1, z2, ez⟩ : ∃ a b : Int, wiS y = .agg [.int .i64 a, .int .i64 b] := ⟨_, _, rfl⟩
      rw [eu] at ks v1 m2
      rw [ez] at ks v2 m1
      simp [c1]
      refine callW_of ks (.inr rfl) ?_
      simp
      refine callW_of v1 (.inl rfl) ?_
      simp
      refine callW_of v2 (.inl rfl) ?_
      simp
      refine callW_of m1 (.inl rfl) ?_
      simp
      refine callW_of m2 (.inl rfl) ?_
      simp
      by_cases c2 : to < 0
      · have hn := runF_neg (m := m) (i := i) (by omega)
        have h3 := hn.1 1 (by omega)
        rw [← hN] at h3
        have hz2 : ¬ 0 < cmp3 x 0 := by rw [cmp3_p]; have := sg.1 (by omega); omega
        simp [c2, hz2, w64_1, w64_2, w64_3]
        exact ⟨2, by omega, by omega, by simp [mshC_eq], hN, by simp⟩
      · have c3 : 0 ≤ runF m i := by omega
        obtain ⟨rb1, rb2⟩ := rb c3 (by omega) n0
        rw [← eto] at rb1 rb2
        have tbs := (run_bsd hv hiL c3).1
        rw [← eto] at tbs
        have kc := hasIs_c hC (b := false) (xs := [nbF m i 0, nbF m i 1, nbF m i 2]) to (by simp)
        rw [show ([nbF m i 0, nbF m i 1, nbF m i 2].any fun y => decide (to = y)) = true by rw [← tbs]; simp [bsd]] at kc
        simp at kc
        have to1 : to < m.f.length := by omega
        have e1 : stE m i to N = 0 := by simp [stE, hv, inR1, hiL, kb, tbs, to1, n0]; omega
        have e2 : stE m i N to = 0 := by simp [stE, hv, inR1, hiL, kb, tbs, to1, n0]; omega
        have t1 := kT to N
        have t2 := kT N to
        rw [e1] at t1
        rw [e2] at t2
        simp only [if_true, Int.toNat_natCast] at t1 t2
        rw [show cmpF m i N.toNat to.toNat = -cmpF m i to.toNat N.toNat from cmp3_neg _ _] at t2
        have cb : cmpF m i to.toNat N.toNat = 0 ∨ cmpF m i to.toNat N.toNat = 1 := by unfold cmpF cmp3 at rb1 ⊢; split at rb1 <;> (try split) <;> omega
        obtain ⟨c, hc⟩ : ∃ c, c = cmpF m i to.toNat N.toNat := ⟨_, rfl⟩
        rw [← hc] at t1 t2 rb1 rb2 cb
        simp [c2, lA, hiL]
        rw [idxW_some hnb]
        simp
        refine callW_of kc (.inl rfl) ?_
        simp
        refine callW_of t1 (.inl rfl) ?_
        simp
        refine callW_of t2 (.inl rfl) ?_
        have wn : IntKind.wrap .i64 (-(-c)) = c := wrap_i64 (by omega) (by omega)
        have c0 : ¬ c < 0 := by omega
        have wn2 : IntKind.wrap .i64 c = c := wrap_i64 rfl (by omega)
        simp [wn, wn2, c0, w64_1, w64_2, w64_3]
        by_cases c4 : c = 0
        · have c5 : ¬ N < to := by have := rb2 c4; omega
          simp [c4, c5, w64_1, w64_2, w64_3]
          exact ⟨2, by omega, by omega, by simp [mshC_eq], hN, by simp⟩
        · simp [c4, w64_1, w64_2, w64_3]
          exact ⟨2, by omega, by omega, by simp [mshC_eq], hN, by simp⟩
  · have nb := nbF_bd m i 2
    have kb := bsd_nb m i 2 (by omega)
    have dp := den_pos hv hiL (k := 2) (by omega)
    have rb := run_best hv hiL (c := 2)
    obtain ⟨N, hN⟩ : ∃ N, N = nbF m i 2 := ⟨_, rfl⟩
    rw [← hN] at nb kb dp rb
    simp [mshC_eq, w64_1, w64_2, w64_3, ← hN]
    by_cases c1 : N < 0
    · simp [c1, w64_1, w64_2, w64_3]
      exact ⟨3, by omega, by omega, by simp [mshC_eq], by simp [hN]⟩
    · have n0 : 0 ≤ N := by omega
      have hsl : slE m i N = 0 := by simp [slE, hv, inR1, hiL, kb]; omega
      have ks := kS N
      rw [if_pos hsl] at ks
      have b1 := numF_bd hv (i := i) (j := N.toNat) hiL (by omega)
      have b2 := denF_bd hv (i := i) (j := N.toNat) hiL (by omega)
      have dp := dp n0
      have sg := numF_sign (m := m) (i := i) (j := N.toNat)
      simp only [Int.toNat_natCast] at ks
      obtain ⟨x, hx⟩ : ∃ x, x = numF m i N.toNat := ⟨_, rfl⟩
      obtain ⟨y, hy⟩ : ∃ x, x = denF m i N.toNat := ⟨_, rfl⟩
      rw [← hx] at b1 ks sg
      rw [← hy] at b2 ks dp
      have v1 := wvalidS_c hC x (by omega)
      have v2 := wvalidS_c hC y (by omega)
      have m1 := CmpS_c hC y 0 (by omega) (by omega)
      have m2 := CmpS_c hC x 0 (by omega) (by omega)
      rw [w0] at m1 m2
      rw [show cmp3 y 0 = 1 by unfold cmp3; rw [if_neg (by omega), if_pos dp]] at m1
      obtain ⟨u1, u2, eu⟩ : ∃ a b : Int, wiS x = .agg [.int .i64 a, .int .i64 b] := ⟨_, _, rfl⟩
      obtain ⟨z1, z2, ez⟩ : ∃ a b : Int, wiS y = .agg [.int .i64 a, .int .i64 b] := ⟨_, _, rfl⟩
      rw [eu] at ks v1 m2
      rw [ez] at ks v2 m1
      simp [c1]
      refine callW_of ks (.inr rfl) ?_
      simp
      refine callW_of v1 (.inl rfl) ?_
      simp
      refine callW_of v2 (.inl rfl) ?_
      simp
      refine callW_of m1 (.inl rfl) ?_
      simp
      refine callW_of m2 (.inl rfl) ?_
      simp
      by_cases c2 : to < 0
      · have hn := runF_neg (m := m) (i := i) (by omega)
        have h3 := hn.1 2 (by omega)
        rw [← hN] at h3
        have hz2 : ¬ 0 < cmp3 x 0 := by rw [cmp3_p]; have := sg.1 (by omega); omega
        simp [c2, hz2, w64_1, w64_2, w64_3]
        exact ⟨3, by omega, by omega, by simp [mshC_eq], hN, by simp⟩
      · have c3 : 0 ≤ runF m i := by omega
        obtain ⟨rb1, rb2⟩ := rb c3 (by omega) n0
        rw [← eto] at rb1 rb2
        have tbs := (run_bsd hv hiL c3).1
        rw [← eto] at tbs
        have kc := hasIs_c hC (b := false) (xs := [nbF m i 0, nbF m i 1, nbF m i 2]) to (by simp)
        rw [show ([nbF m i 0, nbF m i 1, nbF m i 2].any fun y => decide (to = y)) = true by rw [← tbs]; simp [bsd]] at kc
        simp at kc
        have to1 : to < m.f.length := by omega
        have e1 : stE m i to N = 0 := by simp [stE, hv, inR1, hiL, kb, tbs, to1, n0]; omega
        have e2 : stE m i N to = 0 := by simp [stE, hv, inR1, hiL, kb, tbs, to1, n0]; omega
        have t1 := kT to N
        have t2 := kT N to
        rw [e1] at t1
        rw [e2] at t2
        simp only [if_true, Int.toNat_natCast] at t1 t2
        rw [show cmpF m i N.toNat to.toNat = -cmpF m i to.toNat N.toNat from cmp3_neg _ _] at t2
        have cb : cmpF m i to.toNat N.toNat = 0 ∨ cmpF m i to.toNat N.toNat = 1 := by unfold cmpF cmp3 at rb1 ⊢; split at rb1 <;> (try split) <;> omega
        obtain ⟨c, hc⟩ : ∃ c, c = cmpF m i to.toNat N.toNat := ⟨_, rfl⟩
        rw [← hc] at t1 t2 rb1 rb2 cb
        simp [c2, lA, hiL]
        rw [idxW_some hnb]
        simp
        refine callW_of kc (.inl rfl) ?_
        simp
        refine callW_of t1 (.inl rfl) ?_
        simp
        refine callW_of t2 (.inl rfl) ?_
        have wn : IntKind.wrap .i64 (-(-c)) = c := wrap_i64 (by omega) (by omega)
        have c0 : ¬ c < 0 := by omega
        have wn2 : IntKind.wrap .i64 c = c := wrap_i64 rfl (by omega)
        simp [wn, wn2, c0, w64_1, w64_2, w64_3]
        by_cases c4 : c = 0
        · have c5 : ¬ N < to := by have := rb2 c4; omega
          simp [c4, c5, w64_1, w64_2, w64_3]
          exact ⟨3, by omega, by omega, by simp [mshC_eq], hN, by simp⟩
        · simp [c4, w64_1, w64_2, w64_3]
          exact ⟨3, by omega, by omega, by simp [mshC_eq], hN, by simp⟩
  · simp [mshC_eq]
    omega
end Go.Gv
