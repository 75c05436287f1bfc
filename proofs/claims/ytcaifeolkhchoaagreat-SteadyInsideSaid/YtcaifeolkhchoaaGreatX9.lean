/-
  Texts of the proof: Q27.
-/
import Derived.Test.YtcaifeolkhchoaaGreatX8
set_option linter.all false
set_option linter.unusedSimpArgs false
namespace Go.Gv
variable {C : CC} (hC : Closed prog C)
include hC
theorem notIn1_c (xs : List (List UInt8)) (x : List UInt8) (hs : xs.length < 2 ^ 62) : C 449 [.str x, .ptr [.sl (strR xs)]] (.bool (!xs.contains x)) [] := by
  have k := hasStr_c hC false xs x hs
  rw [slx_false] at k
  refine start hC (nf := N449_law30_SteadyInside_1) rfl rfl ?_
  simp only [N449_law30_SteadyInside_1]
  simp
  refine callW_of k (.inl rfl) ?_
  simp
theorem notIn2_c (xs : List (List UInt8)) (x : List UInt8) (hs : xs.length < 2 ^ 62) : C 451 [.str x, .ptr [.sl (strR xs)]] (.bool (!xs.contains x)) [] := by
  have k := hasStr_c hC false xs x hs
  rw [slx_false] at k
  refine start hC (nf := N451_law30_SteadyInside_2) rfl rfl ?_
  simp only [N451_law30_SteadyInside_2]
  simp
  refine callW_of k (.inl rfl) ?_
  simp
set_option maxRecDepth 20000 in
set_option maxHeartbeats 8000000 in
theorem SteadyInside_c (hS : SlC C) (b1 b2 : Bool) (ns : List Nod) (ls : List Lnk) (h1 : ns.length < 2 ^ 62) (h2 : ls.length < 2 ^ 62) (hcv : ∀ l ∈ ls, l.curve.length < 2 ^ 62) (b : Bool) (ss : List Sec) (h3 : ss.length < 2 ^ 62) (b' : Bool) (q : List Sp) (h4 : q.length < 2 ^ 62) (b'' : Bool) (at' : List Int) (h5 : at'.length < 2 ^ 62) (hat : ∀ x ∈ at', 0 ≤ x ∧ x < 4294967296) :
    C 423 [.agg [slx b1 (ns.map nodC), slx b2 (ls.map lnkC)], slx b (ss.map secC), slx b' (q.map knD), slx b'' (at'.map fun n => [.int .u32 n])] (.bool true) [] := by
  have k0 := awake30_c hC hS
  have k1 := large30_c hC b1 b2 b b' ns ls ss q h1 h2 h3
  have k2 := rGiven_c hC b1 b2 b b' true ns ls ss q h2 h3 h4
  simp only [if_true] at k2
  refine start hC (nf := N423_law30_SteadyInside) rfl rfl ?_
  simp [N423_law30_SteadyInside]
  refine callW_of k0 (.inl rfl) ?_
  simp
  refine callW_of k1 (.inl rfl) ?_
  cases hla : large30 ns ls ss q.length
  rotate_left
  · simp
  simp
  by_cases ha20 : (20 : Int) < at'.length
  · simp [ha20]
  simp [ha20]
  refine callW_of k2 (.inl rfl) ?_
  by_cases hg : givE ns ls ss q ns.length = 0
  rotate_left
  · simp [hg]
  simp [hg]
  obtain ⟨ht, hv, hsp, hpe⟩ := givE_ok hg
  have hpip := pipE_ok ht hpe
  obtain ⟨hql, hqr⟩ := spsE_get hsp
  have ht2 := ht
  simp only [treeN, Bool.and_eq_true] at ht2
  obtain ⟨⟨hnv, _⟩, htf⟩ := ht2
  obtain ⟨hn3, hl4⟩ := netOk_len hnv
  have hgr := edgN_in hnv
  have hel := edgN_len ns ls
  have k3 := points_c hC b' b'' q at' (by omega) (by omega) hqr hat
  have hpin : FlIn q (ptL at' q) := ptL_in hqr
  have hpr := hpin.rng hqr
  have hpl := hpin.len
  have hfin := flIn hn3 hgr htf hql hqr hpin
  have hspp : spsE (ptL at' q) ns.length = 0 := spsE_of (by omega) hpr
  have k4 := Flows_c hC hS b1 b2 b' ns ls q h2 h4 hcv
  have k5 := Flows_c hC hS b1 b2 false ns ls (ptL at' q) h2 (by omega) hcv
  have hgp : givE ns ls ss (ptL at' q) ns.length = 0 := by
    unfold givE; rw [ht, hv, hspp, hpe]; rfl
  have k10 := Overloaded_c hC hS b1 b2 b b' ns ls ss q h2 h4 hcv
  have k11 := Overloaded_c hC hS b1 b2 b false ns ls ss (ptL at' q) h2 (by omega) hcv
  have e4 : FlowsE ns ls q = flowsE ns.length (edgN ns ls) q := by unfold FlowsE; rw [if_pos ht, if_pos hsp]
  have e5 : FlowsE ns ls (ptL at' q) = flowsE ns.length (edgN ns ls) (ptL at' q) := by unfold FlowsE; rw [if_pos ht, if_pos hspp]
  have o4 : OvE ns ls ss q = flowsE ns.length (edgN ns ls) q := by unfold OvE; rw [if_pos hg]
  have o5 : OvE ns ls ss (ptL at' q) = flowsE ns.length (edgN ns ls) (ptL at' q) := by unfold OvE; rw [if_pos hgp]
  unfold FlowsV at k4 k5
  unfold OvV at k10 k11
  rw [o4] at k10
  rw [o5] at k11
  rw [e4] at k4
  rw [e5] at k5
  unfold flowsE at k4 k5 k10 k11
  clear e4 e5 o4 o5
  have hal : (flowsF ns.length (edgN ns ls) q).length = ls.length := by simp [flowsF, hel]
  refine callW_of k3 (.inr rfl) ?_
  simp only [slx_false] at k5 k11
  generalize ptL at' q = p at *
  generalize flowsF ns.length (edgN ns ls) q = fa at *
  generalize flowsF ns.length (edgN ns ls) p = fb at *
  have hbl := hfin.len
  simp
  refine callW_of k4 (.inr rfl) ?_
  cases hba : bigF fa
  rotate_left
  · simp
    refine callW_of k5 (.inr rfl) ?_
    cases hbb : bigF fb <;> simp
  have har := hfin.rng2 hba
  have hbr := hfin.rng har
  have hbb : bigF fb = false := bigF_of fun s hs => (hbr s hs).2.2
  simp only [hba, hbb, Bool.false_eq_true, if_false, if_true] at k10 k11 k5
  simp
  refine callW_of k5 (.inr rfl) ?_
  simp [hal, hbl]
  have hga : givE ns ls ss fa ls.length = 0 := by
    unfold givE; rw [ht, hv, spsE_of hal har, hpe]; rfl
  have hgb : givE ns ls ss fb ls.length = 0 := by
    unfold givE; rw [ht, hv, spsE_of (by omega) hbr, hpe]; rfl
  have k6 := Depths_c hC hS b1 b2 b false ns ls ss fa h2 (by omega) hcv
  have k7 := Depths_c hC hS b1 b2 b false ns ls ss fb h2 (by omega) hcv
  have k8 := Loads_c hC hS b1 b2 b false ns ls ss fa h2 (by omega) hcv
  have k9 := Loads_c hC hS b1 b2 b false ns ls ss fb h2 (by omega) hcv
  simp only [slx_false] at k6 k7 k8 k9
  unfold DepV DepE at k6 k7
  unfold LdV LdE at k8 k9
  simp only [hga, hgb, if_true] at k6 k7 k8 k9
  have hb1 := ovT_bad hv hpip hal har
  have hs1 := ovT_same (ss := ss) (ls := ls) hfin hal
  have hs2 := ovT_sub (ss := ss) (ls := ls) hfin hal
  have ha1 := fun h => (dep_in hv hpip hal har hfin h)
  have ld1 := ld_in (b := fb) hv hpip hal hfin
  have dl1 := depL_len (ss := ss) hal
  have dl2 := depL_len (ss := ss) (q := fb) (ls := ls) (by omega)
  have ll1 := ldL_len (ss := ss) hal
  have ll2 := ldL_len (ss := ss) (q := fb) (ls := ls) (by omega)
  have on1 := ovT_len ss (·.1) ls fa ls.length
  have on2 := ovT_len ss (·.2) ls fa ls.length
  have on3 := ovT_len ss (·.1) ls fb ls.length
  rw [← hs1] at k11
  generalize depL ss ls fa = da at *
  generalize depL ss ls fb = db at *
  generalize ldL ss ls fa = la at *
  generalize ldL ss ls fb = lb at *
  generalize ovT ss (·.1) ls fa ls.length = o1 at *
  generalize ovT ss (·.2) ls fa ls.length = o2 at *
  generalize ovT ss (·.1) ls fb ls.length = o3 at *
  refine loop_of Nat (fun i => [(1, slx b (ss.map secC)), (2, slx b' (q.map knD)), (4, .ptr [slx b1 (ns.map nodC), slx b2 (ls.map lnkC)]), (9, .sl (p.map knD)), (10, .sl (fa.map knD)), (12, .sl (fb.map knD)), (94, .int .i64 ls.length), (95, .int .i64 i)]) (fun i => i ≤ ls.length) (fun i => ls.length - i) 0 (by simp) (by simp) ?_
  rintro i hi
  simp
  refine brB_of (fun h => ?_) (fun h => ?_) <;> simp [h] <;> simp at h
  · have hw : IntKind.wrap .i64 ((i : Int) + 1) = ((i + 1 : Nat) : Int) := wrap_i64 (by omega) (by omega)
    have hia : i < fa.length := by omega
    have hib : i < fb.length := by omega
    have c1 := inside_c hC fb[i] fa[i]
    have hgi := hfin.get i hia hib
    have e1 : insS fb[i] fa[i] = true := by simp [insS]; omega
    rw [e1] at c1
    simp only [knD] at c1
    simp [hia, hib, knD]
    refine callW_of c1 (.inl rfl) ?_
    simp [hia, hib, knD, hgi.2.2.1]
    refine ⟨indW_of (by decide +kernel), i + 1, by omega, by omega, hw⟩
  clear h hi
  have uv : ∃ (cu : Bool) (lu : List Sp) (cv : Bool) (lv : List Sp) (e : Int) (N : Nat), C 437 [.agg [slx b1 (ns.map nodC), slx b2 (ls.map lnkC)], slx b (ss.map secC), .sl (fa.map knD)] (.tup [slx cu (lu.map knD), .int .i64 e]) [] ∧ C 437 [.agg [slx b1 (ns.map nodC), slx b2 (ls.map lnkC)], slx b (ss.map secC), .sl (fb.map knD)] (.tup [slx cv (lv.map knD), .int .i64 e]) [] ∧ lu.length = N ∧ lv.length = N ∧ (∀ (i : Nat) (h1 : i < lu.length) (h2 : i < lv.length), insS lv[i] lu[i] = true) ∧ N ≤ ls.length ∧ (e = 0 ∧ N = ls.length ∨ e = 16) := by
    cases hz : anyZ ss ls
    · rw [hz] at k8 k9
      exact ⟨false, la, false, lb, 0, ls.length, k8, k9, ll1, ll2, ld1 hz, Nat.le_refl _, .inl ⟨rfl, rfl⟩⟩
    · rw [hz] at k8 k9
      exact ⟨true, [], true, [], 16, 0, k8, k9, rfl, rfl, fun i h1 => absurd h1 (by simp), Nat.zero_le _, .inr rfl⟩
  obtain ⟨cu, lu, cv, lv, e, N, k8, k9, hlu, hlv, hui, hNl, hcase⟩ := uv
  have q1 := eqStr_c hC false false o3 o3 (by omega) (by omega)
  have q2 := hasStrF_c hC (b := false) (xs := o1) (g := 449) (cs := [.ptr [.sl (strR o3)]]) (fun x => !o3.contains x) (by omega) (fun x _ => notIn1_c hC o3 x (by omega))
  have q3 := hasStrF_c hC (b := false) (xs := o3) (g := 451) (cs := [.ptr [.sl (strR o2)]]) (fun x => !o2.contains x) (by omega) (fun x _ => notIn2_c hC o2 x (by omega))
  have q4 : o1.any (fun x => !o3.contains x) = false := by
    rw [List.any_eq_false]
    intro x hx
    have := hs2.1 x hx
    simp [this]
  have q5 : o3.any (fun x => !o2.contains x) = false := by
    rw [List.any_eq_false]
    intro x hx
    have := hs2.2 x hx
    simp [this]
  rw [q4] at q2
  rw [q5] at q3
  simp only [slx_false] at q1 q2 q3
  refine callW_of k6 (.inr rfl) ?_
  cases hab : anyBad ss ls fa
  · obtain ⟨hbb2, hdi⟩ := ha1 hab
    have ho0 : o2.length = 0 := by rw [hb1.2 hab]; rfl
    simp only [hab, hbb2, Bool.false_eq_true, if_false, if_true] at k6 k7
    simp
    refine callW_of k7 (.inr rfl) ?_
    simp [dl1, dl2, hal]
    refine loop_of Nat (fun i => [(1, slx b (ss.map secC)), (2, slx b' (q.map knD)), (4, .ptr [slx b1 (ns.map nodC), slx b2 (ls.map lnkC)]), (9, .sl (p.map knD)), (10, .sl (fa.map knD)), (12, .sl (fb.map knD)), (15, .sl (da.map knD)), (16, .int .i64 0), (17, .sl (db.map knD)), (155, .int .i64 ls.length), (156, .int .i64 i)]) (fun i => i ≤ ls.length) (fun i => ls.length - i) 0 (by simp) (by simp) ?_
    rintro i hi
    simp
    refine brB_of (fun h => ?_) (fun h => ?_) <;> simp [h] <;> simp at h
    · have hw : IntKind.wrap .i64 ((i : Int) + 1) = ((i + 1 : Nat) : Int) := wrap_i64 (by omega) (by omega)
      have hia : i < da.length := by omega
      have hib : i < db.length := by omega
      have c1 := inside_c hC db[i] da[i]
      rw [hdi i hia hib] at c1
      simp only [knD] at c1
      simp [hia, hib, knD]
      refine callW_of c1 (.inl rfl) ?_
      simp
      refine ⟨indW_of (by decide +kernel), i + 1, by omega, by omega, hw⟩
    clear h hi
    refine callW_of k8 (.inr rfl) ?_
    simp
    refine callW_of k9 (.inr rfl) ?_
    rcases hcase with ⟨rfl, rfl⟩ | rfl
    all_goals
      simp [hlu, hlv, hal]
    · refine loop_of Nat (fun i => [(1, slx b (ss.map secC)), (2, slx b' (q.map knD)), (4, .ptr [slx b1 (ns.map nodC), slx b2 (ls.map lnkC)]), (9, .sl (p.map knD)), (16, .int .i64 0), (20, slx cu (lu.map knD)), (22, slx cv (lv.map knD)), (206, .int .i64 ls.length), (207, .int .i64 i)]) (fun i => i ≤ ls.length) (fun i => ls.length - i) 0 (by simp) (by simp) ?_
      rintro i hi
      simp
      refine brB_of (fun h => ?_) (fun h => ?_) <;> simp [h] <;> simp at h
      · have hw : IntKind.wrap .i64 ((i : Int) + 1) = ((i + 1 : Nat) : Int) := wrap_i64 (by omega) (by omega)
        have hia : i < lu.length := by omega
        have hib : i < lv.length := by omega
        have c1 := inside_c hC lv[i] lu[i]
        rw [hui i hia hib] at c1
        simp only [knD] at c1
        simp [hia, hib, knD]
        refine callW_of c1 (.inl rfl) ?_
        simp
        refine ⟨indW_of (by decide +kernel), i + 1, by omega, by omega, hw⟩
      clear h hi
      refine callW_of k10 (.inr rfl) ?_
      simp
      refine callW_of k11 (.inr rfl) ?_
      simp
      refine callW_of q1 (.inl rfl) ?_
      have hol := ho0
      simp [strR_len, hol]
      refine callW_of q2 (.inl rfl) ?_
      simp
      refine callW_of q3 (.inl rfl) ?_
      simp
    · refine loop_of Nat (fun i => [(1, slx b (ss.map secC)), (2, slx b' (q.map knD)), (4, .ptr [slx b1 (ns.map nodC), slx b2 (ls.map lnkC)]), (9, .sl (p.map knD)), (16, .int .i64 0), (20, slx cu (lu.map knD)), (22, slx cv (lv.map knD)), (206, .int .i64 N), (207, .int .i64 i)]) (fun i => i ≤ N) (fun i => N - i) 0 (by simp) (by simp) ?_
      rintro i hi
      simp
      refine brB_of (fun h => ?_) (fun h => ?_) <;> simp [h] <;> simp at h
      · have hw : IntKind.wrap .i64 ((i : Int) + 1) = ((i + 1 : Nat) : Int) := wrap_i64 (by omega) (by omega)
        have hia : i < lu.length := by omega
        have hib : i < lv.length := by omega
        have c1 := inside_c hC lv[i] lu[i]
        rw [hui i hia hib] at c1
        simp only [knD] at c1
        simp [hia, hib, knD]
        refine callW_of c1 (.inl rfl) ?_
        simp
        refine ⟨indW_of (by decide +kernel), i + 1, by omega, by omega, hw⟩
      clear h hi
      refine callW_of k10 (.inr rfl) ?_
      simp
      refine callW_of k11 (.inr rfl) ?_
      simp
      refine callW_of q1 (.inl rfl) ?_
      have hol := ho0
      simp [strR_len, hol]
      refine callW_of q2 (.inl rfl) ?_
      simp
      refine callW_of q3 (.inl rfl) ?_
      simp
  · simp only [hab, Bool.false_eq_true, if_false, if_true] at k6 k7
    have ho1 : ¬ o2.length = 0 := fun h => by rw [hb1.1 (List.length_eq_zero_iff.1 h)] at hab; cases hab
    have d2 : ∃ (c : Bool) (l : List Sp) (e : Int), C 436 [.agg [slx b1 (ns.map nodC), slx b2 (ls.map lnkC)], slx b (ss.map secC), .sl (fb.map knD)] (.tup [slx c (l.map knD), .int .i64 e]) [] := by
      cases hx : anyBad ss ls fb
      · rw [hx] at k7
        exact ⟨false, db, 0, k7⟩
      · rw [hx] at k7
        exact ⟨true, [], 28, k7⟩
    obtain ⟨c2, l2, e2, k7⟩ := d2
    simp
    refine callW_of k7 (.inr rfl) ?_
    simp
    refine callW_of k8 (.inr rfl) ?_
    simp
    refine callW_of k9 (.inr rfl) ?_
    rcases hcase with ⟨rfl, rfl⟩ | rfl
    all_goals
      simp [hlu, hlv, hal]
    · refine loop_of Nat (fun i => [(1, slx b (ss.map secC)), (2, slx b' (q.map knD)), (4, .ptr [slx b1 (ns.map nodC), slx b2 (ls.map lnkC)]), (9, .sl (p.map knD)), (16, .int .i64 28), (20, slx cu (lu.map knD)), (22, slx cv (lv.map knD)), (206, .int .i64 ls.length), (207, .int .i64 i)]) (fun i => i ≤ ls.length) (fun i => ls.length - i) 0 (by simp) (by simp) ?_
      rintro i hi
      simp
      refine brB_of (fun h => ?_) (fun h => ?_) <;> simp [h] <;> simp at h
      · have hw : IntKind.wrap .i64 ((i : Int) + 1) = ((i + 1 : Nat) : Int) := wrap_i64 (by omega) (by omega)
        have hia : i < lu.length := by omega
        have hib : i < lv.length := by omega
        have c1 := inside_c hC lv[i] lu[i]
        rw [hui i hia hib] at c1
        simp only [knD] at c1
        simp [hia, hib, knD]
        refine callW_of c1 (.inl rfl) ?_
        simp
        refine ⟨indW_of (by decide +kernel), i + 1, by omega, by omega, hw⟩
      clear h hi
      refine callW_of k10 (.inr rfl) ?_
      simp
      refine callW_of k11 (.inr rfl) ?_
      simp
      refine callW_of q1 (.inl rfl) ?_
      have hol := ho1
      simp [strR_len, hol]
      refine callW_of q2 (.inl rfl) ?_
      simp
      refine callW_of q3 (.inl rfl) ?_
      simp
    · refine loop_of Nat (fun i => [(1, slx b (ss.map secC)), (2, slx b' (q.map knD)), (4, .ptr [slx b1 (ns.map nodC), slx b2 (ls.map lnkC)]), (9, .sl (p.map knD)), (16, .int .i64 28), (20, slx cu (lu.map knD)), (22, slx cv (lv.map knD)), (206, .int .i64 N), (207, .int .i64 i)]) (fun i => i ≤ N) (fun i => N - i) 0 (by simp) (by simp) ?_
      rintro i hi
      simp
      refine brB_of (fun h => ?_) (fun h => ?_) <;> simp [h] <;> simp at h
      · have hw : IntKind.wrap .i64 ((i : Int) + 1) = ((i + 1 : Nat) : Int) := wrap_i64 (by omega) (by omega)
        have hia : i < lu.length := by omega
        have hib : i < lv.length := by omega
        have c1 := inside_c hC lv[i] lu[i]
        rw [hui i hia hib] at c1
        simp only [knD] at c1
        simp [hia, hib, knD]
        refine callW_of c1 (.inl rfl) ?_
        simp
        refine ⟨indW_of (by decide +kernel), i + 1, by omega, by omega, hw⟩
      clear h hi
      refine callW_of k10 (.inr rfl) ?_
      simp
      refine callW_of k11 (.inr rfl) ?_
      simp
      refine callW_of q1 (.inl rfl) ?_
      have hol := ho1
      simp [strR_len, hol]
      refine callW_of q2 (.inl rfl) ?_
      simp
      refine callW_of q3 (.inl rfl) ?_
      simp
end Go.Gv
