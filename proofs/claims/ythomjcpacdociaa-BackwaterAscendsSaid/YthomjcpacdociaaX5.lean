/-
  Texts of the proof: B8, B9, B10.
-/
import Derived.Test.YthomjcpacdociaaX4
set_option linter.all false
set_option linter.unusedSimpArgs false
namespace Go.Gv
def mxI (a b : Int) : Int := if a < b then b else a
def fallF (l : Lnk) : Int := if 4194304 < l.up - l.down then 4194304 else l.up - l.down
def lowB (l : Lnk) (s : Sec) (flow level : Int) : Bool := decide (level < l.down + s.height) && (decide ((fullF s (fallF l) l.len).2 = 5) || (decide ((fullF s (fallF l) l.len).2 = 0) && decide (flow ≤ (fullF s (fallF l) l.len).1)))
def highF (l : Lnk) (s : Sec) (flow level : Int) : Int × Int :=
  if (lossF l s flow).2 = 0 then (if 1099511627776 < mxI (l.up + s.height) (level + (lossF l s flow).1) then (0, 5) else (mxI (l.up + s.height) (level + (lossF l s flow).1), 0)) else (0, (lossF l s flow).2)
def lowF (l : Lnk) (s : Sec) (flow level : Int) : Int × Int :=
  if (depthF s flow (fallF l) l.len).2 = 0 then (mxI (l.up + (depthF s flow (fallF l) l.len).1) level, 0) else (0, (depthF s flow (fallF l) l.len).2)
def aboveF (l : Lnk) (s : Sec) (flow level : Int) : Int × Int := if lowB l s flow level then lowF l s flow level else highF l s flow level
def upF (l : Lnk) (s : Sec) (flow level : Int) : Int × Int :=
  if pipeE l s = 0 then (if l.up < l.down then (0, 23) else if lowHigh flow 0 1099511627776 && lowHigh level (-4194304) 1099511627776 then aboveF l s flow level else (0, 2)) else (0, pipeE l s)
def lossU (l : Lnk) (s : Sec) (flow : Int) : Int × Int :=
  if pipeE l s = 0 then (if lowHigh flow 0 1099511627776 then lossF l s flow else (0, 2)) else (0, pipeE l s)
theorem lossN_range (k f n : Nat) : 0 ≤ (lossN k f n).1 ∧ (lossN k f n).1 ≤ 1073741824 := by
  unfold lossN
  have := bis_range (enoughL k f n) 40 0 1073741824 (by omega)
  split
  · simp
  split
  · simp
  split
  · simp only; omega
  · simp
theorem depthF_range {s : Sec} (hv : secValid s = true) (flow fall len : Int) : 0 ≤ (depthF s flow fall len).1 ∧ (depthF s flow fall len).1 ≤ s.height := by
  have hh : 1 ≤ s.height ∧ s.height ≤ 32768 := by
    simp only [secValid, Bool.and_eq_true, decide_eq_true_eq] at hv
    omega
  unfold depthF
  rw [if_pos hv]
  split
  · split
    · simp only; omega
    · simp only; omega
  · simp only; omega
theorem pipeE_zero {l : Lnk} {s : Sec} (h : pipeE l s = 0) : secValid s = true ∧ 1 ≤ l.len ∧ l.len ≤ 16777216 ∧ lvlOk l.up = true ∧ lvlOk l.down = true := by
  unfold pipeE at h
  split at h
  · rename_i h1
    rw [Bool.and_eq_true] at h1
    obtain ⟨h1, h2⟩ := h1
    split at h
    · rename_i hk
      simp only [linkOk, kindOk, hk, if_true, Bool.and_eq_true, lowHigh, decide_eq_true_eq] at h1
      obtain ⟨⟨⟨_, h5⟩, _⟩, ⟨h6, h7⟩, _⟩ := h1
      exact ⟨h2, h6.1, h6.2, h5, h7⟩
    · omega
  · omega
variable {C : CC} (hC : Closed prog C)
include hC
theorem above_c (l : Lnk) (s : Sec) (flow level : Int) (hv : secValid s = true) (hl : 1 ≤ l.len ∧ l.len ≤ 16777216) (hu : lvlOk l.up = true) (hd : lvlOk l.down = true) (hf : 0 ≤ flow ∧ flow ≤ 1099511627776) (hlv : -4194304 ≤ level ∧ level ≤ 1099511627776) :
    C 162 [.agg (lnkC l), .agg (secC s), .int .i64 flow, .int .i64 level] (.tup [.int .i64 (aboveF l s flow level).1, .int .i64 (aboveF l s flow level).2]) [] := by
  have b1 : -4194304 ≤ l.up ∧ l.up ≤ 4194304 := by simpa [lvlOk] using hu
  have b2 : -4194304 ≤ l.down ∧ l.down ≤ 4194304 := by simpa [lvlOk] using hd
  have hh : 1 ≤ s.height ∧ s.height ≤ 32768 := by
    simp only [secValid, Bool.and_eq_true, decide_eq_true_eq] at hv
    omega
  have r1 := depthF_range hv flow (fallF l) l.len
  have r2 : 0 ≤ (lossF l s flow).1 ∧ (lossF l s flow).1 ≤ 1073741824 := lossN_range _ _ _
  have k1 := Full_c hC s (fallF l) l.len
  have k2 := Depth_c hC s flow (fallF l) l.len
  have k3 := loss_c hC l s flow hv hl hf
  have efall : (if 4194304 < l.up - l.down then 4194304 else l.up - l.down) = fallF l := rfl
  obtain ⟨r, hr⟩ : ∃ r, r = aboveF l s flow level := ⟨_, rfl⟩
  rw [← hr]
  unfold aboveF lowB highF lowF at hr
  obtain ⟨f1, hf1⟩ : ∃ z, z = (fullF s (fallF l) l.len).1 := ⟨_, rfl⟩
  obtain ⟨f2, hf2⟩ : ∃ z, z = (fullF s (fallF l) l.len).2 := ⟨_, rfl⟩
  obtain ⟨d1, hd1⟩ : ∃ z, z = (depthF s flow (fallF l) l.len).1 := ⟨_, rfl⟩
  obtain ⟨d2, hd2⟩ : ∃ z, z = (depthF s flow (fallF l) l.len).2 := ⟨_, rfl⟩
  obtain ⟨x1, hx1⟩ : ∃ z, z = (lossF l s flow).1 := ⟨_, rfl⟩
  obtain ⟨x2, hx2⟩ : ∃ z, z = (lossF l s flow).2 := ⟨_, rfl⟩
  rw [← hf1, ← hf2] at k1 hr
  rw [← hd1, ← hd2] at k2 hr
  rw [← hx1, ← hx2] at k3 hr
  rw [← hd1] at r1
  rw [← hx1] at r2
  obtain ⟨fa, hfa⟩ : ∃ z, z = fallF l := ⟨_, rfl⟩
  rw [← hfa] at k1 k2 efall
  clear hf1 hf2 hd1 hd2 hx1 hx2 hfa
  simp only [secC, lnkC] at k1 k2 k3
  have w1 : IntKind.wrap .i64 (l.up - l.down) = l.up - l.down := wrap_i64 rfl (by omega)
  have w2 : IntKind.wrap .i64 (l.down + s.height) = l.down + s.height := wrap_i64 rfl (by omega)
  have w3 : IntKind.wrap .i64 (l.up + s.height) = l.up + s.height := wrap_i64 rfl (by omega)
  have w4 : IntKind.wrap .i64 (level + x1) = level + x1 := wrap_i64 rfl (by omega)
  have w5 : IntKind.wrap .i64 (l.up + d1) = l.up + d1 := wrap_i64 rfl (by omega)
  have m1 : ∀ a b : Int, (if a < b then b else a) = mxI a b := fun _ _ => rfl
  refine start hC (nf := N162_backwater_above) rfl rfl ?_
  simp [N162_backwater_above, secC, lnkC, w1, efall]
  refine callW_of k1 (.inl rfl) ?_
  simp [w2]
  refine brB_of (fun c1 => ?_) (fun c1 => ?_) <;> simp at c1 <;> simp [c1]
  · refine brB_of (fun c2 => ?_) (fun c2 => ?_) <;> simp at c2 <;> simp [c2]
    · rw [if_pos (by simp [c1, c2])] at hr
      refine callW_of k2 (.inl rfl) ?_
      simp
      refine brB_of (fun g => ?_) (fun g => ?_) <;> simp at g <;> simp [g]
      · rw [if_neg g] at hr
        simp [hr]
      · rw [if_pos g] at hr
        simp [w5, m1, hr]
    refine brB_of (fun c3 => ?_) (fun c3 => ?_) <;> simp at c3 <;> simp [c3]
    · refine brB_of (fun c4 => ?_) (fun c4 => ?_) <;> simp at c4 <;> simp [c4]
      · rw [if_pos (by simp [c1, c3, c4])] at hr
        refine callW_of k2 (.inl rfl) ?_
        simp
        refine brB_of (fun g => ?_) (fun g => ?_) <;> simp at g <;> simp [g]
        · rw [if_neg g] at hr
          simp [hr]
        · rw [if_pos g] at hr
          simp [w5, m1, hr]
      · rw [if_neg (by simp [c3, show ¬ flow ≤ f1 by omega])] at hr
        refine callW_of k3 (.inl rfl) ?_
        simp
        refine brB_of (fun g => ?_) (fun g => ?_) <;> simp at g <;> simp [g]
        · rw [if_neg g] at hr
          simp [hr]
        rw [if_pos g] at hr
        simp [w3, w4, m1]
        refine brB_of (fun g2 => ?_) (fun g2 => ?_) <;> simp at g2 <;> simp [g2]
        · rw [if_pos g2] at hr
          simp [hr]
        · rw [if_neg (by omega)] at hr
          simp [hr, w3, w4, m1]
    · rw [if_neg (by simp [c2, c3])] at hr
      refine callW_of k3 (.inl rfl) ?_
      simp
      refine brB_of (fun g => ?_) (fun g => ?_) <;> simp at g <;> simp [g]
      · rw [if_neg g] at hr
        simp [hr]
      rw [if_pos g] at hr
      simp [w3, w4, m1]
      refine brB_of (fun g2 => ?_) (fun g2 => ?_) <;> simp at g2 <;> simp [g2]
      · rw [if_pos g2] at hr
        simp [hr]
      · rw [if_neg (by omega)] at hr
        simp [hr, w3, w4, m1]
  · rw [if_neg (by simp [show ¬ level < l.down + s.height by omega])] at hr
    refine callW_of k3 (.inl rfl) ?_
    simp
    refine brB_of (fun g => ?_) (fun g => ?_) <;> simp at g <;> simp [g]
    · rw [if_neg g] at hr
      simp [hr]
    rw [if_pos g] at hr
    simp [w3, w4, m1]
    refine brB_of (fun g2 => ?_) (fun g2 => ?_) <;> simp at g2 <;> simp [g2]
    · rw [if_pos g2] at hr
      simp [hr]
    · rw [if_neg (by omega)] at hr
      simp [hr, w3, w4, m1]
theorem Up_c (l : Lnk) (s : Sec) (flow level : Int) (hc : l.curve.length < 2 ^ 62) : C 156 [.agg (lnkC l), .agg (secC s), .int .i64 flow, .int .i64 level] (.tup [.int .i64 (upF l s flow level).1, .int .i64 (upF l s flow level).2]) [] := by
  have k1 := pipe_c hC l s hc
  obtain ⟨r, hr⟩ : ∃ r, r = upF l s flow level := ⟨_, rfl⟩
  rw [← hr]
  unfold upF at hr
  have ka := fun h1 h2 h3 h4 h5 => above_c hC l s flow level h1 h2 h3 h4 h5
  have hz := @pipeE_zero l s
  obtain ⟨e, he⟩ : ∃ e, e = pipeE l s := ⟨_, rfl⟩
  rw [← he] at k1 hr hz
  simp only [secC, lnkC] at k1 ka
  refine start hC (nf := N156_backwater_Up) rfl rfl ?_
  simp [N156_backwater_Up, secC, lnkC]
  refine callW_of k1 (.inl rfl) ?_
  simp
  refine brB_of (fun g => ?_) (fun g => ?_) <;> simp at g <;> simp [g]
  · rw [if_neg g] at hr
    simp [hr]
  rw [if_pos g] at hr
  obtain ⟨z1, z2, z3, z4, z5⟩ := hz g
  refine brB_of (fun g1 => ?_) (fun g1 => ?_) <;> simp at g1 <;> simp [g1]
  · rw [if_pos g1] at hr
    simp [hr]
  rw [if_neg (by omega)] at hr
  refine callW_of (withinB_c hC flow 0 1099511627776) (.inl rfl) ?_
  cases g2 : lowHigh flow 0 1099511627776
  · rw [if_neg (by simp [g2])] at hr
    simp [hr]
  simp
  refine callW_of (withinB_c hC level (-4194304) 1099511627776) (.inl rfl) ?_
  cases g3 : lowHigh level (-4194304) 1099511627776
  · rw [if_neg (by simp [g3])] at hr
    simp [hr]
  rw [if_pos (by simp [g2, g3])] at hr
  simp
  simp only [lowHigh, Bool.and_eq_true, decide_eq_true_eq] at g2 g3
  refine callW_of (ka z1 ⟨z2, z3⟩ z4 z5 g2 g3) (.inl rfl) ?_
  simp [hr]
theorem LossU_c (l : Lnk) (s : Sec) (flow : Int) (hc : l.curve.length < 2 ^ 62) : C 157 [.agg (lnkC l), .agg (secC s), .int .i64 flow] (.tup [.int .i64 (lossU l s flow).1, .int .i64 (lossU l s flow).2]) [] := by
  have k1 := pipe_c hC l s hc
  obtain ⟨r, hr⟩ : ∃ r, r = lossU l s flow := ⟨_, rfl⟩
  rw [← hr]
  unfold lossU at hr
  have ka := fun h1 h2 h3 => loss_c hC l s flow h1 h2 h3
  have hz := @pipeE_zero l s
  obtain ⟨e, he⟩ : ∃ e, e = pipeE l s := ⟨_, rfl⟩
  rw [← he] at k1 hr hz
  simp only [secC, lnkC] at k1 ka
  refine start hC (nf := N157_backwater_Loss) rfl rfl ?_
  simp [N157_backwater_Loss, secC, lnkC]
  refine callW_of k1 (.inl rfl) ?_
  simp
  refine brB_of (fun g => ?_) (fun g => ?_) <;> simp at g <;> simp [g]
  · rw [if_neg g] at hr
    simp [hr]
  rw [if_pos g] at hr
  obtain ⟨z1, z2, z3, z4, z5⟩ := hz g
  refine callW_of (withinB_c hC flow 0 1099511627776) (.inl rfl) ?_
  cases g2 : lowHigh flow 0 1099511627776
  · rw [if_neg (by simp [g2])] at hr
    simp [hr]
  rw [if_pos g2] at hr
  simp
  simp only [lowHigh, Bool.and_eq_true, decide_eq_true_eq] at g2
  refine callW_of (ka z1 ⟨z2, z3⟩ g2) (.inl rfl) ?_
  simp [hr]
end Go.Gv

set_option linter.unusedSimpArgs false
namespace Go.Gv
theorem mxI_ge (a b : Int) : a ≤ mxI a b ∧ b ≤ mxI a b := by unfold mxI; split <;> omega
theorem mxI_mono {a b c d : Int} (h1 : a ≤ c) (h2 : b ≤ d) : mxI a b ≤ mxI c d := by
  unfold mxI; split <;> split <;> omega
theorem enoughL_mono {k f g n i : Nat} (h : f ≤ g) (he : enoughL k g n i = true) : enoughL k f n i = true := by
  simp only [enoughL, decide_eq_true_eq] at he ⊢
  exact Nat.le_trans (Nat.mul_le_mul_right _ (Nat.mul_le_mul h h)) he
theorem lossN_mono {k f g n : Nat} (h : f ≤ g) (h1 : (lossN k f n).2 = 0) (h2 : (lossN k g n).2 = 0) : (lossN k f n).1 ≤ (lossN k g n).1 := by
  have hr := lossN_range k g n
  by_cases f0 : f = 0
  · have : lossN k f n = (0, 0) := by simp [lossN, f0]
    rw [this]; exact hr.1
  · have g0 : ¬ g = 0 := by omega
    unfold lossN at h1 h2 ⊢
    rw [if_neg f0] at h1 ⊢
    rw [if_neg g0] at h2 ⊢
    by_cases k0 : k = 0
    · rw [if_pos k0] at h1; simp at h1
    · rw [if_neg k0] at h1 h2 ⊢
      rw [if_neg k0]
      by_cases e1 : enoughL k f n 1073741824 = true
      · rw [if_pos e1]
        by_cases e2 : enoughL k g n 1073741824 = true
        · rw [if_pos e2]
          have := bis_mono (p := enoughL k f n) (q := enoughL k g n) (fun i hi => enoughL_mono h hi) 40 0 1073741824 (by omega)
          simp only
          omega
        · rw [if_neg e2] at h2; simp at h2
      · rw [if_neg e1] at h1; simp at h1
theorem leastD_mono {s : Sec} {f g fall len : Int} (h : f ≤ g) : leastD s f fall len ≤ leastD s g fall len := by
  refine bis_mono (fun n hn => ?_) _ _ _ (by omega)
  simp only [enoughD, decide_eq_true_eq] at hn ⊢
  omega
theorem depthF_ok {s : Sec} {f fall len : Int} (h : (depthF s f fall len).2 = 0) : secValid s = true ∧ 0 ≤ f ∧ (depthF s f fall len).1 = leastD s f fall len ∧ leastD s f fall len ≤ s.height.toNat := by
  unfold depthF at h ⊢
  split at h
  · rename_i hv
    rw [if_pos hv]
    split at h
    · rename_i hc
      rw [if_pos hc]
      split at h
      · simp at h
      · rename_i hl
        rw [if_neg hl]
        exact ⟨hv, hc.1, rfl, by omega⟩
    · simp at h
  · simp at h
/-- The conditions of a level. -/
theorem lowB_flow {l : Lnk} {s : Sec} {f g level : Int} (h : f ≤ g) (hb : lowB l s g level = true) : lowB l s f level = true := by
  simp only [lowB, Bool.and_eq_true, Bool.or_eq_true, decide_eq_true_eq] at hb ⊢
  refine ⟨hb.1, ?_⟩
  rcases hb.2 with h1 | ⟨h1, h2⟩
  · exact .inl h1
  · exact .inr ⟨h1, by omega⟩
theorem lowB_level {l : Lnk} {s : Sec} {f a b : Int} (h : a ≤ b) (hb : lowB l s f b = true) : lowB l s f a = true := by
  simp only [lowB, Bool.and_eq_true, decide_eq_true_eq] at hb ⊢
  exact ⟨by omega, hb.2⟩
theorem aboveF_err {l : Lnk} {s : Sec} {f v : Int} (h : (aboveF l s f v).2 ≠ 0) : (aboveF l s f v).1 = 0 := by
  unfold aboveF lowF highF at h ⊢
  split
  · rw [if_pos (by assumption)] at h
    split
    · rw [if_pos (by assumption)] at h; simp at h
    · rfl
  · rw [if_neg (by assumption)] at h
    split
    · rw [if_pos (by assumption)] at h
      split
      · rfl
      · rw [if_neg (by assumption)] at h; simp at h
    · rfl
theorem highF_ok {l : Lnk} {s : Sec} {f v : Int} (h : (highF l s f v).2 = 0) : (lossF l s f).2 = 0 ∧ (highF l s f v).1 = mxI (l.up + s.height) (v + (lossF l s f).1) := by
  unfold highF at h ⊢
  split at h
  · rename_i h1
    rw [if_pos h1]
    split at h
    · simp at h
    · rename_i h2
      rw [if_neg h2]
      exact ⟨h1, rfl⟩
  · rename_i h1; exact absurd h h1
theorem lowF_ok {l : Lnk} {s : Sec} {f v : Int} (h : (lowF l s f v).2 = 0) : (depthF s f (fallF l) l.len).2 = 0 ∧ (lowF l s f v).1 = mxI (l.up + (depthF s f (fallF l) l.len).1) v := by
  unfold lowF at h ⊢
  split at h
  · rename_i h1
    rw [if_pos h1]
    exact ⟨h1, rfl⟩
  · rename_i h1; exact absurd h h1
theorem low_le_high {l : Lnk} {s : Sec} {f g v w : Int} (hv : v ≤ w) (h1 : (lowF l s f v).2 = 0) (h2 : (highF l s g w).2 = 0) : (lowF l s f v).1 ≤ (highF l s g w).1 := by
  obtain ⟨a1, a2⟩ := lowF_ok h1
  obtain ⟨b1, b2⟩ := highF_ok h2
  obtain ⟨c1, c2, c3, c4⟩ := depthF_ok a1
  have hh : 1 ≤ s.height := by
    simp only [secValid, Bool.and_eq_true, decide_eq_true_eq] at c1
    omega
  have hr : 0 ≤ (lossF l s g).1 := (lossN_range _ _ _).1
  rw [a2, b2, c3]
  exact mxI_mono (by omega) (by omega)
theorem above_low {l : Lnk} {s : Sec} {f v : Int} (b : lowB l s f v = true) : aboveF l s f v = lowF l s f v := by unfold aboveF; rw [if_pos b]
theorem above_high {l : Lnk} {s : Sec} {f v : Int} (b : ¬ lowB l s f v = true) : aboveF l s f v = highF l s f v := by unfold aboveF; rw [if_neg b]
theorem aboveF_flow {l : Lnk} {s : Sec} {f g v : Int} (h : f ≤ g) (h1 : (aboveF l s f v).2 = 0) (h2 : (aboveF l s g v).2 = 0) : (aboveF l s f v).1 ≤ (aboveF l s g v).1 := by
  by_cases b2 : lowB l s g v = true
  · have b1 := lowB_flow h b2
    rw [above_low b2] at h2 ⊢
    rw [above_low b1] at h1 ⊢
    obtain ⟨a1, a2⟩ := lowF_ok h1
    obtain ⟨c1, c2⟩ := lowF_ok h2
    obtain ⟨_, _, d3, _⟩ := depthF_ok a1
    obtain ⟨_, _, e3, _⟩ := depthF_ok c1
    rw [a2, c2, d3, e3]
    have := leastD_mono (s := s) (fall := fallF l) (len := l.len) h
    exact mxI_mono (by omega) (Int.le_refl _)
  · rw [above_high b2] at h2 ⊢
    by_cases b1 : lowB l s f v = true
    · rw [above_low b1] at h1 ⊢
      exact low_le_high (Int.le_refl _) h1 h2
    · rw [above_high b1] at h1 ⊢
      obtain ⟨a1, a2⟩ := highF_ok h1
      obtain ⟨c1, c2⟩ := highF_ok h2
      rw [a2, c2]
      have hl : (lossF l s f).1 ≤ (lossF l s g).1 := lossN_mono (by omega) a1 c1
      exact mxI_mono (Int.le_refl _) (by omega)
theorem aboveF_level {l : Lnk} {s : Sec} {f v w : Int} (h : v ≤ w) (h1 : (aboveF l s f v).2 = 0) (h2 : (aboveF l s f w).2 = 0) : (aboveF l s f v).1 ≤ (aboveF l s f w).1 := by
  by_cases b2 : lowB l s f w = true
  · have b1 := lowB_level h b2
    rw [above_low b2] at h2 ⊢
    rw [above_low b1] at h1 ⊢
    obtain ⟨a1, a2⟩ := lowF_ok h1
    obtain ⟨c1, c2⟩ := lowF_ok h2
    rw [a2, c2]
    exact mxI_mono (Int.le_refl _) h
  · rw [above_high b2] at h2 ⊢
    by_cases b1 : lowB l s f v = true
    · rw [above_low b1] at h1 ⊢
      exact low_le_high h h1 h2
    · rw [above_high b1] at h1 ⊢
      obtain ⟨a1, a2⟩ := highF_ok h1
      obtain ⟨c1, c2⟩ := highF_ok h2
      rw [a2, c2]
      exact mxI_mono (Int.le_refl _) (by omega)
theorem aboveF_ge {l : Lnk} {s : Sec} {f v : Int} (hs : secValid s = true) (h : (aboveF l s f v).2 = 0) : v ≤ (aboveF l s f v).1 ∧ l.up ≤ (aboveF l s f v).1 := by
  have hh : 1 ≤ s.height := by
    simp only [secValid, Bool.and_eq_true, decide_eq_true_eq] at hs
    omega
  by_cases b : lowB l s f v = true
  · rw [above_low b] at h ⊢
    obtain ⟨a1, a2⟩ := lowF_ok h
    obtain ⟨c1, _, c3, _⟩ := depthF_ok a1
    rw [a2, c3]
    have hm := mxI_ge (l.up + (leastD s f (fallF l) l.len : Int)) v
    omega
  · rw [above_high b] at h ⊢
    obtain ⟨a1, a2⟩ := highF_ok h
    rw [a2]
    have hr : 0 ≤ (lossF l s f).1 := (lossN_range _ _ _).1
    have hm := mxI_ge (l.up + s.height) (v + (lossF l s f).1)
    omega
theorem upF_err {l : Lnk} {s : Sec} {f v : Int} (h : (upF l s f v).2 ≠ 0) : (upF l s f v).1 = 0 := by
  unfold upF at h ⊢
  split
  · rw [if_pos (by assumption)] at h
    split
    · rfl
    · rw [if_neg (by assumption)] at h
      split
      · rw [if_pos (by assumption)] at h
        exact aboveF_err h
      · rfl
  · rfl
theorem upF_ok {l : Lnk} {s : Sec} {f v : Int} (h : (upF l s f v).2 = 0) : secValid s = true ∧ upF l s f v = aboveF l s f v := by
  unfold upF at h ⊢
  split at h
  · rename_i h1
    rw [if_pos h1]
    split at h
    · simp at h
    · rename_i h2
      rw [if_neg h2]
      split at h
      · rename_i h3
        rw [if_pos h3]
        exact ⟨(pipeE_zero h1).1, rfl⟩
      · simp at h
  · rename_i h1; exact absurd h h1
theorem lossU_mono {l : Lnk} {s : Sec} {f g : Int} (h : f ≤ g) (h1 : (lossU l s f).2 = 0) (h2 : (lossU l s g).2 = 0) : (lossU l s f).1 ≤ (lossU l s g).1 ∧ 0 ≤ (lossU l s f).1 := by
  have ok : ∀ z, (lossU l s z).2 = 0 → lossU l s z = lossF l s z := fun z hz => by
    unfold lossU at hz ⊢
    split at hz
    · rename_i h1
      rw [if_pos h1]
      split at hz
      · rename_i h2; rw [if_pos h2]
      · simp at hz
    · rename_i h1; exact absurd hz h1
  have e1 := ok f h1
  have e2 := ok g h2
  rw [e1] at h1 ⊢
  rw [e2] at h2 ⊢
  exact ⟨lossN_mono (by omega) h1 h2, (lossN_range _ _ _).1⟩
end Go.Gv

set_option linter.unusedSimpArgs false
namespace Go.Gv
def exL : Lnk := { name := [112], src := [97], dst := [98], kind := 1, len := 10000, up := 1000, down := 900, sect := [115], width := 0, height := 0, curveN := true, curve := [] }
def exS : Sec := { name := [115], height := 300, price := 0, areaN := false, area := [(0, 0), (300, 70000)], convN := false, conv := [(0, 0), (300, 200000)] }
def longL (l : Lnk) : Bool := decide (20 < l.curve.length) || decide (60 < l.name.length) || decide (60 < l.src.length) || decide (60 < l.dst.length) || decide (60 < l.sect.length)
def manyS (s : Sec) : Bool := decide (20 < s.area.length) || decide (20 < s.conv.length) || decide (60 < s.name.length)
theorem ex_loss : lossU exL exS 10000 = (25, 0) := by decide +kernel
theorem ex_up : upF exL exS 10000 1250 = (1300, 0) := by decide +kernel
variable {C : CC} (hC : Closed prog C)
include hC
theorem exPipe_c : C 158 [] (.tup [.agg (lnkC exL), .agg (secC exS)]) [] := by
  refine start hC (nf := N158_law31_pipe) rfl rfl ?_
  simp [N158_law31_pipe, lnkC, exL, exS, secC, knD]
  rfl
theorem awake31_c : C 153 [] (.bool true) [] := by
  have k1 := exPipe_c hC
  have k2 := LossU_c hC exL exS 10000 (by decide)
  have k3 := Up_c hC exL exS 10000 1250 (by decide)
  rw [ex_loss] at k2
  rw [ex_up] at k3
  simp only [lnkC, secC] at k1 k2 k3
  refine start hC (nf := N153_law31_awake) rfl rfl ?_
  simp [N153_law31_awake]
  refine callW_of k1 (.inr rfl) ?_
  simp
  refine callW_of k2 (.inl rfl) ?_
  simp
  refine callW_of k3 (.inl rfl) ?_
  simp
theorem long31_c (l : Lnk) : C 154 [.agg (lnkC l)] (.bool (longL l)) [] := by
  refine start hC (nf := N154_law31_long) rfl rfl ?_
  simp [N154_law31_long, lnkC, longL]
  refine brB_of (fun h0 => ?_) (fun h0 => ?_) <;> simp at h0
  · simp [show 20 < l.curve.length by omega]
  simp [show ¬ 20 < l.curve.length by omega]
  refine brB_of (fun h1 => ?_) (fun h1 => ?_) <;> simp at h1
  · simp [show 60 < l.name.length by omega]
  simp [show ¬ 60 < l.name.length by omega]
  refine brB_of (fun h2 => ?_) (fun h2 => ?_) <;> simp at h2
  · simp [show 60 < l.src.length by omega]
  simp [show ¬ 60 < l.src.length by omega]
  refine brB_of (fun h3 => ?_) (fun h3 => ?_) <;> simp at h3
  · simp [show 60 < l.dst.length by omega]
  simp [show ¬ 60 < l.dst.length by omega]
  rw [Bool.eq_iff_iff]
  simp
  omega
theorem many31_c (s : Sec) : C 155 [.sl [secC s]] (.bool (manyS s)) [] := by
  have k0 : ∀ x ∈ [s], C 159 (.agg (secC x) :: []) (.bool (manyS x)) [] := fun x _ => by
    refine start hC (nf := N159_law31_many_1) rfl rfl ?_
    simp [N159_law31_many_1, secC, manyS]
    refine brB_of (fun h0 => ?_) (fun h0 => ?_) <;> simp at h0
    · simp [show 20 < x.area.length by omega]
    simp [show ¬ 20 < x.area.length by omega]
    refine brB_of (fun h1 => ?_) (fun h1 => ?_) <;> simp at h1
    · simp [show 20 < x.conv.length by omega]
    simp [show ¬ 20 < x.conv.length by omega]
    rw [Bool.eq_iff_iff]
    simp
    omega
  have k1 := hasSec_c hC (b := false) (xs := [s]) (g := 159) (cs := []) manyS (by simp) k0
  refine start hC (nf := N155_law31_many) rfl rfl ?_
  simp [N155_law31_many]
  refine callW_of k1 (.inl rfl) ?_
  simp
set_option maxHeartbeats 2000000 in
theorem Ascends_c (l : Lnk) (s : Sec) (flow more level higher : Int) : C 152 [.agg (lnkC l), .agg (secC s), .int .i64 flow, .int .i64 more, .int .i64 level, .int .i64 higher] (.bool true) [] := by
  have kl := long31_c hC l
  have km := many31_c hC s
  simp only [lnkC, secC] at kl km
  refine start hC (nf := N152_law31_BackwaterAscends) rfl rfl ?_
  simp [N152_law31_BackwaterAscends, lnkC, secC]
  refine callW_of (awake31_c hC) (.inl rfl) ?_
  simp
  refine callW_of kl (.inl rfl) ?_
  cases hl : longL l
  rotate_left
  · simp
  simp
  refine callW_of km (.inl rfl) ?_
  cases hm : manyS s
  rotate_left
  · simp
  simp
  refine brB_of (fun g1 => ?_) (fun g1 => ?_) <;> simp at g1 <;> simp [g1]
  refine brB_of (fun g2 => ?_) (fun g2 => ?_) <;> simp at g2 <;> simp [g2]
  refine brB_of (fun g3 => ?_) (fun g3 => ?_) <;> simp at g3 <;> simp [g3]
  refine brB_of (fun g4 => ?_) (fun g4 => ?_) <;> simp at g4 <;> simp [g4]
  refine brB_of (fun g5 => ?_) (fun g5 => ?_) <;> simp at g5 <;> simp [g5]
  refine brB_of (fun g6 => ?_) (fun g6 => ?_) <;> simp at g6 <;> simp [g6]
  refine brB_of (fun g7 => ?_) (fun g7 => ?_) <;> simp at g7 <;> simp [g7]
  refine brB_of (fun g8 => ?_) (fun g8 => ?_) <;> simp at g8 <;> simp [g8]
  have hc : l.curve.length < 2 ^ 62 := by
    simp only [longL, Bool.or_eq_false_iff, decide_eq_false_iff_not] at hl
    omega
  have w1 : IntKind.wrap .i64 (flow + more) = flow + more := wrap_i64 rfl (by omega)
  have w2 : IntKind.wrap .i64 (level + higher) = level + higher := wrap_i64 rfl (by omega)
  have k1 := Up_c hC l s flow level hc
  have k2 := Up_c hC l s (flow + more) level hc
  have k3 := Up_c hC l s flow (level + higher) hc
  have k4 := LossU_c hC l s flow hc
  have k5 := LossU_c hC l s (flow + more) hc
  have A1 := @upF_err l s flow level
  have A2 : (upF l s flow level).2 = 0 → level ≤ (upF l s flow level).1 ∧ l.up ≤ (upF l s flow level).1 := fun h => by
    obtain ⟨e1, e2⟩ := upF_ok h
    rw [e2] at h ⊢
    exact aboveF_ge e1 h
  have A3 : (upF l s flow level).2 = 0 → (upF l s (flow + more) level).2 = 0 → (upF l s flow level).1 ≤ (upF l s (flow + more) level).1 := fun h h' => by
    have e1 := (upF_ok h).2
    have e2 := (upF_ok h').2
    rw [e1] at h ⊢
    rw [e2] at h' ⊢
    exact aboveF_flow (by omega) h h'
  have A4 : (upF l s flow level).2 = 0 → (upF l s flow (level + higher)).2 = 0 → (upF l s flow level).1 ≤ (upF l s flow (level + higher)).1 := fun h h' => by
    have e1 := (upF_ok h).2
    have e2 := (upF_ok h').2
    rw [e1] at h ⊢
    rw [e2] at h' ⊢
    exact aboveF_level (by omega) h h'
  have A5 := fun h h' => lossU_mono (l := l) (s := s) (f := flow) (g := flow + more) (by omega) h h'
  simp only [lnkC, secC] at k1 k2 k3 k4 k5
  obtain ⟨a, ha⟩ : ∃ z, z = (upF l s flow level).1 := ⟨_, rfl⟩
  obtain ⟨e, he⟩ : ∃ z, z = (upF l s flow level).2 := ⟨_, rfl⟩
  obtain ⟨b, hb⟩ : ∃ z, z = (upF l s (flow + more) level).1 := ⟨_, rfl⟩
  obtain ⟨f, hf⟩ : ∃ z, z = (upF l s (flow + more) level).2 := ⟨_, rfl⟩
  obtain ⟨c, hcc⟩ : ∃ z, z = (upF l s flow (level + higher)).1 := ⟨_, rfl⟩
  obtain ⟨g, hg⟩ : ∃ z, z = (upF l s flow (level + higher)).2 := ⟨_, rfl⟩
  obtain ⟨x, hx⟩ : ∃ z, z = (lossU l s flow).1 := ⟨_, rfl⟩
  obtain ⟨h, hh⟩ : ∃ z, z = (lossU l s flow).2 := ⟨_, rfl⟩
  obtain ⟨y, hy⟩ : ∃ z, z = (lossU l s (flow + more)).1 := ⟨_, rfl⟩
  obtain ⟨i, hi⟩ : ∃ z, z = (lossU l s (flow + more)).2 := ⟨_, rfl⟩
  rw [← ha, ← he] at k1 A1 A2 A3 A4
  rw [← hb, ← hf] at k2 A3
  rw [← hcc, ← hg] at k3 A4
  rw [← hx, ← hh] at k4 A5
  rw [← hy, ← hi] at k5 A5
  clear ha he hb hf hcc hg hx hh hy hi kl km hc hl hm
  refine callW_of k1 (.inl rfl) ?_
  simp [w1]
  refine callW_of k2 (.inl rfl) ?_
  simp [w2]
  refine callW_of k3 (.inl rfl) ?_
  simp
  refine brB_of (fun c1 => ?_) (fun c1 => ?_) <;> simp at c1 <;> simp [c1]
  · exact A1 c1
  have B2 := A2 c1
  refine brB_of (fun c2 => ?_) (fun c2 => ?_) <;> simp at c2 <;> simp [c2]
  · omega
  refine brB_of (fun c3 => ?_) (fun c3 => ?_) <;> simp at c3 <;> simp [c3]
  · have B3 := A3 c1 c3
    refine brB_of (fun c4 => ?_) (fun c4 => ?_) <;> simp at c4 <;> simp [c4]
    · omega
    refine brB_of (fun c5 => ?_) (fun c5 => ?_) <;> simp at c5 <;> simp [c5]
    · have B4 := A4 c1 c5
      refine brB_of (fun c6 => ?_) (fun c6 => ?_) <;> simp at c6 <;> simp [c6]
      · omega
      refine brB_of (fun c7 => ?_) (fun c7 => ?_) <;> simp at c7 <;> simp [c7]
      · omega
      refine callW_of k4 (.inl rfl) ?_
      simp [w1]
      refine callW_of k5 (.inl rfl) ?_
      simp
      refine brB_of (fun d1 => ?_) (fun d1 => ?_) <;> simp at d1 <;> simp [d1]
      refine brB_of (fun d2 => ?_) (fun d2 => ?_) <;> simp at d2 <;> simp [d2]
      have A6 := A5 d1 d2
      refine brB_of (fun d3 => ?_) (fun d3 => ?_) <;> simp at d3 <;> simp [d3]
      · exact A6.2
      · omega
    · refine brB_of (fun c7 => ?_) (fun c7 => ?_) <;> simp at c7 <;> simp [c7]
      · omega
      refine callW_of k4 (.inl rfl) ?_
      simp [w1]
      refine callW_of k5 (.inl rfl) ?_
      simp
      refine brB_of (fun d1 => ?_) (fun d1 => ?_) <;> simp at d1 <;> simp [d1]
      refine brB_of (fun d2 => ?_) (fun d2 => ?_) <;> simp at d2 <;> simp [d2]
      have A6 := A5 d1 d2
      refine brB_of (fun d3 => ?_) (fun d3 => ?_) <;> simp at d3 <;> simp [d3]
      · exact A6.2
      · omega
  · refine brB_of (fun c5 => ?_) (fun c5 => ?_) <;> simp at c5 <;> simp [c5]
    · have B4 := A4 c1 c5
      refine brB_of (fun c6 => ?_) (fun c6 => ?_) <;> simp at c6 <;> simp [c6]
      · omega
      refine brB_of (fun c7 => ?_) (fun c7 => ?_) <;> simp at c7 <;> simp [c7]
      · omega
      refine callW_of k4 (.inl rfl) ?_
      simp [w1]
      refine callW_of k5 (.inl rfl) ?_
      simp
      refine brB_of (fun d1 => ?_) (fun d1 => ?_) <;> simp at d1 <;> simp [d1]
      refine brB_of (fun d2 => ?_) (fun d2 => ?_) <;> simp at d2 <;> simp [d2]
      have A6 := A5 d1 d2
      refine brB_of (fun d3 => ?_) (fun d3 => ?_) <;> simp at d3 <;> simp [d3]
      · exact A6.2
      · omega
    · refine brB_of (fun c7 => ?_) (fun c7 => ?_) <;> simp at c7 <;> simp [c7]
      · omega
      refine callW_of k4 (.inl rfl) ?_
      simp [w1]
      refine callW_of k5 (.inl rfl) ?_
      simp
      refine brB_of (fun d1 => ?_) (fun d1 => ?_) <;> simp at d1 <;> simp [d1]
      refine brB_of (fun d2 => ?_) (fun d2 => ?_) <;> simp at d2 <;> simp [d2]
      have A6 := A5 d1 d2
      refine brB_of (fun d3 => ?_) (fun d3 => ?_) <;> simp at d3 <;> simp [d3]
      · exact A6.2
      · omega
end Go.Gv
