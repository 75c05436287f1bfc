/-
  Texts of the proof: M16, M17, M18, M19, S1, S2, M20.
-/
import Derived.Test.YthomjcpacdociaaGreatX6
set_option linter.all false
set_option linter.unusedSimpArgs false
namespace Go.Gv

theorem valsP_rows {j : Job} (hv : jobValid j = true) : RowsOk j (valsP j j.below.l.length) :=
  ⟨by simp [valsP], (valsP_up hv (Nat.le_refl _)).row, (valsP_up hv (Nat.le_refl _)).cell⟩
theorem valsP_costN {j : Job} (hv : jobValid j = true) {i s : Nat} (hi : i < j.below.l.length) : costF j (rowsF (valsP j j.below.l.length)) i s = costF j (valN j) i s :=
  costF_congr fun a ha => by rw [rowsF, valsP_at (by have := above_less hv ha; omega)]
theorem valsP_good {j : Job} (hv : jobValid j = true) {i : Nat} (hi : i < j.below.l.length) : badP j (valsP j j.below.l.length) i = false := by
  rw [badP, List.any_eq_false]
  intro s hs
  rw [List.mem_range] at hs
  rw [Bool.not_eq_true]
  cases hp : possAt j i s
  · rw [badV, hp]; rfl
  · rw [badV_iff hp, valsP_costN hv hi, rowsF, valsP_at hi]
    have := valN_at hv hi hs
    rw [if_pos hp] at this
    simp only
    rw [this]
    exact ⟨fun e => e, fun e => ⟨e, Int.le_refl _⟩⟩
theorem valsP_bound {j : Job} : boundF j (rowsF (valsP j j.below.l.length)) = costB j := by
  unfold costB boundF
  rw [sumG_congr (v' := lv j (valN j) 4194304) (fun a ha => by rw [lv, lv, rowsF, valsP_at (root_mem ha).1])]
variable {C : CC} (hC : Closed prog C)
include hC
set_option maxRecDepth 4000 in
set_option maxHeartbeats 4000000 in
theorem rSolve_c (j : Job) (hv : jobValid j = true) (hn : j.below.l.length ≤ 12) : C 18 [.agg (jobC j)] (.tup [.int .i64 (solveF j).1, intsD (solveF j).2.1, .int .i64 (solveF j).2.2]) [] := by
  have hf := valid_facts hv
  have h1 := rValues_c hC j hv hn
  have h2 := rSum_c hC j hv hn (decide (j.below.l.length = 0)) (valsP j j.below.l.length) (valsP_rows hv) (fun k hk => valsP_good hv hk)
  rw [valsP_bound] at h2
  have hcb := costB_eq hv
  have hle := fun (i : Nat) (y : Int) (hi : i < j.below.l.length) => rleast_c hC j hv (decide (j.below.l.length = 0)) (valsP j j.below.l.length) i y hi (by simp [valsP]; exact hi) ((valsP_rows hv).row i hi) ((valsP_rows hv).cell i hi)
  obtain ⟨c, hc⟩ : ∃ c, c = costB j := ⟨_, rfl⟩
  rw [← hc] at h2 hcb
  obtain ⟨V, hV⟩ : ∃ V, V = slx (decide (j.below.l.length = 0)) ((valsP j j.below.l.length).map fun r => [slI r]) := ⟨_, rfl⟩
  refine start hC (nf := N18_ref47_Solve) rfl rfl ?_
  simp [N18_ref47_Solve]
  simp [jobC_eq] at h1 h2
  simp [jobC_eq]
  refine callW_of h1 (.inr rfl) ?_
  simp
  refine callW_of h2 (.inl rfl) ?_
  simp
  refine brB_of (fun d => ?_) (fun d => ?_) <;> simp at d <;> simp [d]
  · have hc1 : costB j = -1 := by rcases hcb with ⟨_, e⟩ | ⟨_, _, e⟩ <;> omega
    simp [solveF, hv, hc1, intsD, slx]
  have hc1 : ¬ costB j = -1 := by omega
  have hsol : solveF j = (c, (false, bestF j), 0) := by rw [solveF, if_pos hv, if_neg hc1, hc]
  rw [hsol]
  refine ⟨by omega, ?_⟩
  refine loop_of Nat (fun k => [(1, .ptr (jobC j)), (5, slx (decide (j.below.l.length = 0)) ((valsP j j.below.l.length).map fun r => [slI r])), (6, .int .i64 c), (7, .ref (.r 10112) 0 j.below.l.length), (10112, outS j k), (8, .int .i64 ((j.below.l.length : Int) - 1 - k))])
    (fun k => k ≤ j.below.l.length) (fun k => j.below.l.length - k) 0 (by simp) (by simp [jobC_eq, outS_eq, chUp, replicate_range]; exact wrap_i64 rfl (by omega)) ?_
  intro k hk
  rcases Nat.lt_or_ge k j.below.l.length with hkl | hkl
  · obtain ⟨i, hi⟩ : ∃ i, i + (k + 1) = j.below.l.length := ⟨j.below.l.length - (k + 1), by omega⟩
    have e9 : (j.below.l.length : Int) - 1 - k = (i : Int) := by omega
    have hil : i < j.below.l.length := by omega
    have hw : IntKind.wrap .i64 ((i : Int) - 1) = (j.below.l.length : Int) - 1 - ((k + 1 : Nat) : Int) := wrap_i64 (by omega) (by omega)
    have hbv := valid_below hv hil
    have hg : ∀ b : Nat, j.below.l[i]! = (b : Int) → Good j (chUp j k) b := fun b hb => good_up hv hc1 k hk b (by rcases hbv with h2 | h2 <;> omega) (by rcases hbv with h2 | h2 <;> omega)
    have hst := outS_step hi
    have hlc : ∀ y, hgt j (chUp j k) i = y → C 38 [.agg (jobC j), slx (decide (j.below.l.length = 0)) ((valsP j j.below.l.length).map fun r => [slI r]), .int .i64 i, .int .i64 y] (.int .i64 (pickG j (chUp j k) i)) [] := fun y hy => by
      have := hle i y hil
      rw [rowsF, valsP_at hil] at this
      rw [pickG, hy]
      exact this
    rw [e9]
    simp [hil, jobC_eq]
    by_cases c1 : 0 ≤ j.below.l[i]
    · simp [c1, hil]
      obtain ⟨b, hb⟩ : ∃ b : Nat, j.below.l[i] = (b : Int) := ⟨(j.below.l[i]).toNat, by omega⟩
      have hb! : j.below.l[i]! = (b : Int) := by rw [getElem!_pos j.below.l i hil, hb]
      have hbl : b < j.below.l.length := by rcases hbv with h2 | h2 <;> omega
      obtain ⟨s, g1, g2, _⟩ := (hg b hb!).sec
      have hh : hgt j (chUp j k) i = j.secs[s].height := by
        rw [hgt, if_neg (by rw [hb!]; omega), hb!, Int.toNat_natCast, g1, Int.toNat_natCast, getElem!_pos j.secs s g2]
      have hl := hlc _ hh
      simp [jobC_eq] at hl
      simp [hb, outS_eq, hbl, g1, g2, secC_eq]
      refine ⟨indW_of (by decide +kernel), ?_⟩
      refine callW_of hl (.inl rfl) ?_
      simp [hil, hst, hw]
      exact ⟨k + 1, by omega, by omega, by simp [jobC_eq], rfl, by omega⟩
    · have c2 : j.below.l[i]! = -1 := by rcases hbv with h2 | h2; exact h2; rw [getElem!_pos j.below.l i hil] at h2; omega
      have hh : hgt j (chUp j k) i = 4194304 := by rw [hgt, if_pos c2]
      have hl := hlc _ hh
      simp [jobC_eq] at hl
      simp [c1, hil, outS_eq]
      refine callW_of hl (.inl rfl) ?_
      simp [hil, hst, hw]
      exact ⟨k + 1, by omega, by omega, by simp [jobC_eq], rfl, by omega⟩
  · have : k = j.below.l.length := by omega
    subst this
    have e9 : (j.below.l.length : Int) - 1 - j.below.l.length = -1 := by omega
    rw [e9]
    simp [outS_eq]
    simp [intsD, bestF, Function.comp_def]
end Go.Gv

set_option linter.unusedSimpArgs false
namespace Go.Gv
variable {C : CC} (hC : Closed prog C)
include hC
theorem eqRows_c (b b' : Bool) (xs ys : List SlI) (hx : xs.length < 2 ^ 62) (hy : ys.length < 2 ^ 62) (hxx : ∀ x ∈ xs, x.l.length < 2 ^ 62) (hyy : ∀ x ∈ ys, x.l.length < 2 ^ 62) :
    C 20 [slx b (xs.map fun r => [slI r]), slx b' (ys.map fun r => [slI r]), .fn 19 []] (.bool (decide (xs.map (·.l) = ys.map (·.l)))) [] := by
  obtain ⟨r, hr⟩ : ∃ r, r = decide (xs.map (·.l) = ys.map (·.l)) := ⟨_, rfl⟩
  rw [← hr]
  refine start hC (nf := N20_slices_EqualFunc___int___int__int__int) rfl rfl ?_
  simp [N20_slices_EqualFunc___int___int__int__int]
  refine brB_of (fun h => ?_) (fun h => ?_) <;> simp at h <;> simp [h]
  · rw [hr, decide_eq_false]
    intro e
    have := congrArg List.length e
    simp at this
    omega
  have h' : xs.length = ys.length := by omega
  refine loop_of Nat (fun i => [(1, slx b' (ys.map fun r => [slI r])), (2, .fn 19 []), (15, slx b (xs.map fun r => [slI r])), (16, .int .i64 xs.length), (17, .int .i64 i)])
    (fun i => i ≤ xs.length ∧ ∀ (k : Nat) (h1 : k < xs.length) (h2 : k < ys.length), k < i → xs[k].l = ys[k].l) (fun i => xs.length - i) 0 (by simp) (by simp [h]) ?_
  rintro i ⟨hi, hok⟩
  simp
  refine brB_of (fun h1 => ?_) (fun h1 => ?_) <;> simp at h1 <;> simp [h1]
  · have hw : IntKind.wrap .i64 ((i : Int) + 1) = ((i + 1 : Nat) : Int) := wrap_i64 (by omega) (by omega)
    have hy1 : i < ys.length := by omega
    have he := equalI_c hC xs[i].n ys[i].n xs[i].l ys[i].l (hxx _ (List.getElem_mem _)) (hyy _ (List.getElem_mem _))
    simp [h1, hy1]
    refine callW_of he (.inl rfl) ?_
    by_cases h2 : xs[i].l = ys[i].l
    · simp [h2, hw]
      refine ⟨i + 1, ⟨by omega, fun k k1 k2 hk => ?_⟩, by omega, rfl⟩
      rcases Nat.lt_succ_iff_lt_or_eq.1 hk with h5 | rfl
      · exact hok k k1 k2 h5
      · exact h2
    · simp [h2]
      rw [hr, decide_eq_false]
      intro e
      apply h2
      have : (xs.map (·.l))[i]? = (ys.map (·.l))[i]? := by rw [e]
      simpa [h1, hy1] using this
  · rw [hr, decide_eq_true]
    refine List.ext_getElem (by simpa using h') fun k k1 k2 => ?_
    simp only [List.getElem_map]
    simp only [List.length_map] at k1 k2
    exact hok k k1 k2 (by omega)
end Go.Gv

set_option linter.unusedSimpArgs false
namespace Go.Gv

def noFlow (j : Job) (p : Nat) : Job := { j with flows := ⟨false, j.flows.l.set p 0⟩ }
def cheapF (j : Job) (pipe : Int) : Int × Int := if pipe < 0 ∨ (j.below.l.length : Int) ≤ pipe then (0, 2) else if costB j = -1 then (0, 28) else (costB j - costB (noFlow j pipe.toNat), 0)
theorem noFlow_at {j : Job} {p i : Nat} (hi : i < j.flows.l.length) : (noFlow j p).flows.l[i]! = if p = i then 0 else j.flows.l[i]! := by
  simp only [noFlow]
  rw [getElem!_pos _ i (by simpa using hi), List.getElem_set, getElem!_pos _ i hi]
theorem noFlow_valid {j : Job} (hv : jobValid j = true) (p : Nat) : jobValid (noFlow j p) = true := by
  have hv' := hv
  simp only [jobValid, Bool.and_eq_true, decide_eq_true_eq, List.all_eq_true, List.mem_range] at hv' ⊢
  obtain ⟨⟨⟨⟨⟨⟨⟨a1, a2⟩, a3⟩, a4⟩, a5⟩, a6⟩, a7⟩, a8⟩ := hv'
  refine ⟨⟨⟨⟨⟨⟨⟨a1, a2⟩, by simpa [noFlow] using a3⟩, a4⟩, a5⟩, a6⟩, a7⟩, fun i hi => ?_⟩
  have hi' : i < j.below.l.length := hi
  have := a8 i hi'
  simp only [pipeOk, Bool.and_eq_true] at this ⊢
  refine ⟨⟨⟨⟨this.1.1.1.1, this.1.1.1.2⟩, ?_⟩, this.1.2⟩, this.2⟩
  rw [noFlow_at (by omega)]
  split
  · rfl
  · exact this.1.1.2
theorem noFlow_poss {j : Job} (hv : jobValid j = true) {p i s : Nat} (hi : i < j.below.l.length) (hs : s < j.secs.length) (h : possAt j i s = true) : possAt (noFlow j p) i s = true := by
  rw [poss_eq hv hi hs] at h
  rw [poss_eq (noFlow_valid hv p) hi hs]
  simp only [Bool.and_eq_true, decide_eq_true_eq] at h ⊢
  have hfl : j.flows.l.length = j.below.l.length := by simp only [jobValid, Bool.and_eq_true, decide_eq_true_eq] at hv; omega
  refine ⟨h.1, ?_⟩
  rw [noFlow_at (by omega)]
  have h2 := h.2
  show _ ≤ ((capN j.secs[s]! j.falls.l[i]! j.lengths.l[i]! : Nat) : Int)
  split <;> omega
theorem noFlow_cost {j : Job} (hv : jobValid j = true) (hc : costB j ≠ -1) (p : Nat) : costB (noFlow j p) ≠ -1 := by
  obtain ⟨h1, _⟩ := best_ok hv hc
  have h0 : choiceF j (bestF j) = 0 := Classical.byContradiction fun e => by
    rw [allowedF, if_pos e] at h1
    cases h1
  obtain ⟨_, hlen, hs⟩ := choice_ok h0
  have h0' : choiceF (noFlow j p) (bestF j) = 0 := by
    have := h0
    rw [choiceF, if_neg (by rw [hv]; simp)] at this
    rw [choiceF, if_neg (by rw [noFlow_valid hv p]; simp)]
    exact this
  have hbad : ∀ i, i < j.below.l.length → badA j (bestF j) i = false := fun i hi => by
    rw [allowedF, if_neg (by rw [h0]; simp)] at h1
    cases hf : (List.range j.below.l.length).find? (badA j (bestF j)) with
    | some k => rw [hf] at h1; cases h1
    | none =>
      rw [List.find?_eq_none] at hf
      simpa using hf i (by simpa using hi)
  refine (best_le h0' ?_).1
  rw [allowed_none h0' (fun i hi => ?_)]
  have hi' : i < j.below.l.length := hi
  have hb := hbad i hi'
  rw [badA, Bool.or_eq_false_iff] at hb
  rw [badA, Bool.or_eq_false_iff]
  obtain ⟨s, _, e2, e3⟩ := hs i hi'
  have hp : possAt j i (secAt j (bestF j) i) = true := by simpa using hb.1
  refine ⟨?_, hb.2⟩
  have := noFlow_poss hv (p := p) hi' (by omega) hp
  show (!possAt (noFlow j p) i (secAt j (bestF j) i)) = false
  rw [this]; rfl
theorem costB_bd {j : Job} (hv : jobValid j = true) (hn : j.below.l.length ≤ 12) : -1 ≤ costB j ∧ costB j ≤ 1152921504606846976 := by
  rcases costB_eq hv with ⟨_, e⟩ | ⟨e1, e2, e3⟩
  · omega
  · refine ⟨by omega, ?_⟩
    have h1 := list_sum_le (fun a ha => ((lvN_bd hv (h := 4194304) (root_mem ha).1).resolve_left (e1 a ha)).2)
    rw [roots_sum hv (fun a => mx (valN j a))] at h1
    have h2 := (vals_bd hv j.below.l.length (Nat.le_refl _)).2
    have hiB : (j.below.l.length : Int) * B ≤ 12 * B := Int.mul_le_mul_of_nonneg_right (by omega) (by rw [B_eq]; omega)
    rw [B_eq] at h2 hiB
    omega
end Go.Gv

set_option linter.unusedSimpArgs false
namespace Go.Gv
variable {C : CC} (hC : Closed prog C)
include hC
set_option maxHeartbeats 4000000 in
theorem rCheaper_c (j : Job) (hv : jobValid j = true) (hn : j.below.l.length ≤ 12) (pipe : Int) : C 22 [.agg (jobC j), .int .i64 pipe] (.tup [.int .i64 (cheapF j pipe).1, .int .i64 (cheapF j pipe).2]) [] := by
  refine start hC (nf := N22_ref47_Cheaper) rfl rfl ?_
  simp [N22_ref47_Cheaper]
  have h1 := rSolve_c hC j hv hn
  simp [jobC_eq] at h1
  simp [jobC_eq]
  refine brB_of (fun c1 => ?_) (fun c1 => ?_) <;> simp at c1 <;> simp [c1, jobC_eq]
  · simp [cheapF, c1]
  refine brB_of (fun c2 => ?_) (fun c2 => ?_) <;> simp at c2 <;> simp [c2, jobC_eq]
  · simp [cheapF, c2]
  obtain ⟨p, rfl⟩ : ∃ p : Nat, pipe = (p : Int) := ⟨pipe.toNat, by omega⟩
  have hpn : p < j.below.l.length := by omega
  refine callW_of h1 (.inr rfl) ?_
  have ek : cheapF j (p : Int) = if costB j = -1 then (0, 28) else (costB j - costB (noFlow j p), 0) := by
    rw [cheapF, if_neg (by omega), Int.toNat_natCast]
  rw [ek]
  by_cases hc : costB j = -1
  · simp [solveF, hv, hc, intsD, slx]
  have hv' := noFlow_valid hv p
  have hc' := noFlow_cost hv hc p
  have b1 := costB_bd hv hn
  have b2 := costB_bd hv' hn
  have s1 : solveF j = (costB j, (false, bestF j), 0) := by rw [solveF, if_pos hv, if_neg hc]
  have s2 : solveF (noFlow j p) = (costB (noFlow j p), (false, bestF (noFlow j p)), 0) := by rw [solveF, if_pos hv', if_neg hc']
  have hfl : j.flows.l.length = j.below.l.length := by simp only [jobValid, Bool.and_eq_true, decide_eq_true_eq] at hv; omega
  have hpf : p < j.flows.l.length := by omega
  have h2 := rSolve_c hC (noFlow j p) hv' hn
  rw [s2] at h2
  rw [s1]
  have hw : IntKind.wrap .i64 (costB j - costB (noFlow j p)) = costB j - costB (noFlow j p) := wrap_i64 rfl (by omega)
  obtain ⟨x, hx⟩ : ∃ x, x = costB (noFlow j p) := ⟨_, rfl⟩
  rw [← hx] at h2 hw ⊢
  simp [jobC_eq, noFlow, intsD] at h2
  simp [intsD, hc]
  refine ⟨by omega, hpf, ?_⟩
  simp [hpf]
  have ht : List.take j.flows.l.length ((List.map ((fun e => List.map cellV e) ∘ fun n => [D.int .i64 n]) j.flows.l).set p [D.int .i64 0]) = (List.map (fun n => [D.int .i64 n]) j.flows.l).set p [D.int .i64 0] := by
    rw [List.take_of_length_le (by simp)]
    simp [Function.comp_def]
  rw [ht]
  refine callW_of (forget_of hC h2) (.inl rfl) ?_
  simp [forget, forget1, isF1, hw, hc]
end Go.Gv

set_option linter.unusedSimpArgs false
namespace Go.Gv
variable {C : CC} (hC : Closed prog C)
include hC
theorem Clone_c (b : Bool) (xs : List Int) (h : 0 < xs.length) (h2 : xs.length < 2 ^ 40) : C 42 [slx b (xs.map fun n => [.int .i64 n])] .any [.own 1 (xs.map fun n => [.int .i64 n])] := by
  have e : slx b (xs.map fun n => [D.int .i64 n]) = .sl (xs.map fun n => [D.int .i64 n]) := by
    cases xs with
    | nil => simp at h
    | cons x xs => cases b <;> rfl
  rw [e]
  refine startF hC (nf := N42_slices_Clone__int_int) rfl rfl ?_
  simp [N42_slices_Clone__int_int]
  exact ⟨h, by omega, h⟩
theorem cheapCost_c (j : Job) (h : jobValid j = true) : C 41 [.agg (jobC j)] (.int .i64 (costB j)) [] := by
  have hn : j.below.l.length ≤ 400 := by simp only [jobValid, Bool.and_eq_true, decide_eq_true_eq] at h; omega
  have hm : j.secs.length ≤ 40 := by simp only [jobValid, catValid, Bool.and_eq_true, decide_eq_true_eq] at h; omega
  have ht := treeOf_c hC j h
  have hvals := values_c hC j h
  have hb := bound_c hC j false ((List.range j.below.l.length).map fun a => ⟨false, valN j a⟩) (by omega) (by omega) (fun a ha => by
    have h5 : a < j.below.l.length := by simp only [rootsF, List.mem_filter, List.mem_range] at ha; exact ha.1
    rw [getElem!_pos _ a (by simpa using h5)]
    simp [h5, valN_len h5])
  have eb : boundF j (rowsF ((List.range j.below.l.length).map fun a => ⟨false, valN j a⟩)) = costB j := by
    unfold costB boundF
    rw [sumG_congr (v' := lv j (valN j) 4194304) (fun a ha => by
      have h5 : a < j.below.l.length := by simp only [rootsF, List.mem_filter, List.mem_range] at ha; exact ha.1
      rw [lv, rowsF, getElem!_pos _ a (by simpa using h5)]
      simp [lv])]
  rw [eb] at hb
  obtain ⟨c, hc⟩ : ∃ c, c = costB j := ⟨_, rfl⟩
  rw [← hc] at hb ⊢
  refine start hC (nf := N41_sizing_Cheaper_1) rfl rfl ?_
  simp [N41_sizing_Cheaper_1, jobC_eq]
  simp [jobC_eq] at ht
  refine callW_of ht (.inr rfl) ?_
  simp
  refine callW_of hvals (.inr rfl) ?_
  simp
  refine callW_of (d := .int .i64 c) ?_ (.inl rfl) ?_
  · rw [valsD_eq]
    simp at hb
    exact hb
  simp
end Go.Gv

set_option linter.unusedSimpArgs false
namespace Go.Gv
def cheapA (j : Job) (pipe : Int) : Int × Int := if jobValid j then cheapF j pipe else (0, 1)
variable {C : CC} (hC : Closed prog C)
include hC
set_option maxRecDepth 4000 in
set_option maxHeartbeats 4000000 in
theorem Cheaper_c (j : Job) (pipe : Int) (hn : j.below.l.length ≤ 12) : C 17 [.agg (jobC j), .int .i64 pipe] (.tup [.int .i64 (cheapA j pipe).1, .int .i64 (cheapA j pipe).2]) [] := by
  have k1 := Valid_c hC j
  simp only [jobC_eq] at k1
  obtain ⟨r, hr⟩ : ∃ r, r = cheapA j pipe := ⟨_, rfl⟩
  rw [← hr]
  unfold cheapA at hr
  refine start hC (nf := N17_sizing_Cheaper) rfl rfl ?_
  simp [N17_sizing_Cheaper, jobC_eq]
  simp at k1
  refine callW_of k1 (.inl rfl) ?_
  cases hv : jobValid j
  · rw [if_neg (by simp [hv])] at hr
    simp [hr]
  rw [if_pos hv] at hr
  simp
  refine brB_of (fun c1 => ?_) (fun c1 => ?_) <;> simp at c1 <;> simp [c1]
  · simp [hr, cheapF, c1]
  refine brB_of (fun c2 => ?_) (fun c2 => ?_) <;> simp at c2 <;> simp [c2]
  · simp [hr, cheapF, c2]
  obtain ⟨p, rfl⟩ : ∃ p : Nat, pipe = (p : Int) := ⟨pipe.toNat, by omega⟩
  have hpn : p < j.below.l.length := by omega
  have k2 := cheapCost_c hC j hv
  simp only [jobC_eq] at k2
  simp at k2
  refine callW_of k2 (.inl rfl) ?_
  have ek : cheapF j (p : Int) = if costB j = -1 then (0, 28) else (costB j - costB (noFlow j p), 0) := by
    rw [cheapF, if_neg (by omega), Int.toNat_natCast]
  rw [ek] at hr
  simp
  refine brB_of (fun c3 => ?_) (fun c3 => ?_) <;> simp at c3 <;> simp [c3]
  · rw [if_pos c3] at hr
    simp [hr]
  rw [if_neg c3] at hr
  have hfl : j.flows.l.length = j.below.l.length := by simp only [jobValid, Bool.and_eq_true, decide_eq_true_eq] at hv; omega
  have hpf : p < j.flows.l.length := by omega
  have hv' := noFlow_valid hv p
  have k3 := Clone_c hC j.flows.n j.flows.l (by omega) (by omega)
  have k4 := cheapCost_c hC (noFlow j p) hv'
  have b1 := costB_bd hv hn
  have b2 := costB_bd hv' hn
  have hw : IntKind.wrap .i64 (costB j - costB (noFlow j p)) = costB j - costB (noFlow j p) := wrap_i64 rfl (by omega)
  simp only [jobC_eq] at k4
  obtain ⟨x, hx⟩ : ∃ x, x = costB (noFlow j p) := ⟨_, rfl⟩
  rw [← hx] at k4 hw hr
  refine callFW_of k3 ?_
  simp [hpf]
  have ht : List.take j.flows.l.length ((List.map ((fun e => List.map cellV e) ∘ fun n => [D.int .i64 n]) j.flows.l).set p [D.int .i64 0]) = (List.map (fun n => [D.int .i64 n]) j.flows.l).set p [D.int .i64 0] := by
    rw [List.take_of_length_le (by simp)]
    simp [Function.comp_def]
  rw [ht]
  simp [noFlow] at k4
  refine callW_of k4 (.inl rfl) ?_
  simp [hw, hr]
end Go.Gv

set_option linter.unusedSimpArgs false
namespace Go.Gv
variable {C : CC} (hC : Closed prog C)
include hC
set_option maxRecDepth 4000 in
set_option maxHeartbeats 4000000 in
theorem SizingSolves_c (j : Job) (pipe : Int) : C 2 [.agg (jobC j), .int .i64 pipe] (.bool true) [] := by
  have k0 := large_c hC j
  have k1 := Solve_c hC j
  have k2 := Bound_c hC j
  have k4 := rValid_c hC j
  refine start hC (nf := N2_law47_SizingSolves) rfl rfl ?_
  simp [N2_law47_SizingSolves]
  refine callW_of (awake_c hC) (.inl rfl) ?_
  simp only [jobC_eq] at k0 k1 k2 k4
  simp [jobC_eq]
  refine callW_of k0 (.inl rfl) ?_
  cases hl : largeF j
  rotate_left
  · simp
  have hn : j.below.l.length ≤ 12 := by
    simp only [largeF, Bool.or_eq_false_iff, decide_eq_false_iff_not] at hl
    omega
  have k3 := Cheaper_c hC j pipe hn
  simp only [jobC_eq] at k3
  simp
  cases h : jobValid j
  · rw [h] at k2 k4
    have s1 : solveF j = (0, (true, []), 1) := by rw [solveF, if_neg (by simp [h])]
    rw [s1] at k1
    refine callW_of k1 (.inr rfl) ?_
    have s3 : cheapA j pipe = (0, 1) := by rw [cheapA, if_neg (by simp [h])]
    rw [s3] at k3
    simp [intsD]
    simp at k2
    refine callW_of k2 (.inr rfl) ?_
    simp
    refine callW_of k3 (.inl rfl) ?_
    simp
    refine callW_of k4 (.inl rfl) ?_
    simp
  · rw [h] at k2 k4
    have c3 : cheapA j pipe = cheapF j pipe := by rw [cheapA, if_pos h]
    rw [c3] at k3
    have k5 := rSolve_c hC j h hn
    have k6 := rValues_c hC j h hn
    have k7 := rCheaper_c hC j h hn pipe
    simp only [jobC_eq] at k5 k6 k7
    have hsl : (solveF j).2.1.2.length < 2 ^ 62 := by
      unfold solveF
      rw [if_pos h]
      split
      · simp
      · simp only [bestF, List.length_map, List.length_range]
        omega
    have k8 : C 19 [intsD (solveF j).2.1, intsD (solveF j).2.1] (.bool true) [] := by
      have := equalI_c hC (solveF j).2.1.1 (solveF j).2.1.1 (solveF j).2.1.2 (solveF j).2.1.2 hsl hsl
      simpa [intsD] using this
    have ev : valsD j = slx false ((valsP j j.below.l.length).map fun r => [slI r]) := by
      rw [slx_false, valsD_eq, valsP, List.map_map]
      rfl
    have k9 : C 20 [valsD j, slx (decide (j.below.l.length = 0)) ((valsP j j.below.l.length).map fun r => [slI r]), .fn 19 []] (.bool true) [] := by
      have hlen : ∀ x ∈ valsP j j.below.l.length, x.l.length < 2 ^ 62 := fun x hx => by
        simp only [valsP, List.mem_map, List.mem_range] at hx
        obtain ⟨a, ha, rfl⟩ := hx
        have hm : j.secs.length ≤ 40 := by simp only [jobValid, catValid, Bool.and_eq_true, decide_eq_true_eq] at h; omega
        simp only [valN_len ha]
        omega
      have := eqRows_c hC false (decide (j.below.l.length = 0)) (valsP j j.below.l.length) (valsP j j.below.l.length) (by simp [valsP]; omega) (by simp [valsP]; omega) hlen hlen
      rw [← ev] at this
      simpa using this
    obtain ⟨b1, es1, hV⟩ : ∃ b es, slx (decide (j.below.l.length = 0)) ((valsP j j.below.l.length).map fun r => [slI r]) = slx b es := ⟨_, _, rfl⟩
    obtain ⟨b0, es0, e0⟩ : ∃ b es, intsD (solveF j).2.1 = slx b es := ⟨_, _, rfl⟩
    rw [e0] at k1 k5 k8
    rw [hV] at k6 k9
    simp at k2
    refine callW_of k1 (.inr rfl) ?_
    simp
    refine callW_of k2 (.inr rfl) ?_
    simp
    refine callW_of k3 (.inl rfl) ?_
    simp
    refine callW_of k4 (.inl rfl) ?_
    simp
    refine callW_of k5 (.inr rfl) ?_
    simp
    refine callW_of k8 (.inl rfl) ?_
    simp
    refine callW_of k6 (.inr rfl) ?_
    simp
    refine callW_of k9 (.inl rfl) ?_
    simp
    refine callW_of k7 (.inl rfl) ?_
    simp
end Go.Gv
