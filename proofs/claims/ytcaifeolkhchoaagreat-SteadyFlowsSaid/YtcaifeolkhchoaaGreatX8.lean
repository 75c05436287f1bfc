/-
  Texts of the proof: Q9, Q10, K12, M2a, K13, M2, M3, M4, P3, B6, B7, P5, M5, P1, P2, B8, P6, Q14, Q15, Q16, Q17, B9, P7, Q19, Q23, Q25, Q31, Q32, Q33, Q11, Q13, Q18, Q20, Q24, Q26, Q34, Q35, Q36.
-/
import Derived.Test.YtcaifeolkhchoaaGreatX7
import Derived.Test.YtcaifeolkhchoaaGreatX6
set_option linter.all false
set_option linter.unusedSimpArgs false
namespace Go.Gv
def srcsA (n : Nat) (out : List Nat) : List (List D) := (List.range n).map fun v => [.bool (decide (v ∈ out))]
theorem srcsA_get {n v : Nat} (out : List Nat) (h : v < n) : (srcsA n out)[v]? = some [.bool (decide (v ∈ out))] := by simp [srcsA, h]
theorem srcsA_set {n : Nat} (out : List Nat) (v : Nat) : (srcsA n out).set v [.bool true] = srcsA n (out ++ [v]) := by
  unfold srcsA
  rw [set_rm]
  apply List.map_congr_left
  intro u _
  by_cases e : u = v <;> simp [e]
/-- The least ready one among the first v. -/
def lowR (es : List Edg) (out : List Nat) : Nat → Int
  | 0 => -1
  | v + 1 => if lowR es out v < 0 then (if !out.contains v && prOk es out v then (v : Int) else -1) else lowR es out v
theorem lowR_neg {es : List Edg} {out : List Nat} : ∀ {v : Nat}, lowR es out v < 0 → rdyL v es out = []
  | 0, _ => by simp [rdyL]
  | v + 1, h => by
    unfold lowR at h
    by_cases h1 : lowR es out v < 0
    · rw [if_pos h1] at h
      have ih := lowR_neg h1
      unfold rdyL at ih ⊢
      rw [List.range_succ, List.filter_append, ih]
      by_cases h2 : (!out.contains v && prOk es out v) = true
      · rw [if_pos h2] at h; omega
      · simp only [List.filter_cons, h2, List.filter_nil, List.append_nil]; rfl
    · rw [if_neg h1] at h
      exact absurd h h1
theorem lowR_pos {es : List Edg} {out : List Nat} : ∀ {v : Nat}, 0 ≤ lowR es out v → ∃ (i : Nat) (r : List Nat), lowR es out v = i ∧ rdyL v es out = i :: r ∧ i < v
  | 0, h => by simp [lowR] at h
  | v + 1, h => by
    by_cases h1 : lowR es out v < 0
    · have ih := lowR_neg h1
      unfold lowR at h ⊢
      rw [if_pos h1] at h ⊢
      by_cases h2 : (!out.contains v && prOk es out v) = true
      · rw [if_pos h2]
        refine ⟨v, [], rfl, ?_, by omega⟩
        unfold rdyL at ih ⊢
        rw [List.range_succ, List.filter_append, ih]
        simp only [List.filter_cons, h2, List.filter_nil, List.nil_append]; rfl
      · rw [if_neg h2] at h; omega
    · obtain ⟨i, r, e1, e2, e3⟩ := lowR_pos (v := v) (es := es) (out := out) (by omega)
      unfold lowR
      rw [if_neg h1]
      refine ⟨i, r ++ (([v]).filter fun u => !out.contains u && prOk es out u), e1, ?_, by omega⟩
      unfold rdyL at e2 ⊢
      rw [List.range_succ, List.filter_append, e2]
      rfl
/-- All predecessors among the first j edges are there. -/
def prT (es : List Edg) (out : List Nat) (v j : Nat) : Bool := prOk (es.take j) out v
theorem prT_succ {es : List Edg} {out : List Nat} {v j : Nat} (h : j < es.length) : prT es out v (j + 1) = (prT es out v j && !(decide (es[j].2 = v) && !decide (es[j].1 ∈ out))) := by
  unfold prT prOk
  rw [List.take_succ_eq_append_getElem h, List.all_append]
  congr 1
  by_cases a : es[j].2 = v <;> by_cases b : es[j].1 ∈ out <;> simp [a, b]
theorem prT_end (es : List Edg) (out : List Nat) (v : Nat) : prT es out v es.length = prOk es out v := by simp [prT]
variable {C : CC} (hC : Closed prog C)
include hC
theorem rValid_c (b1 b2 : Bool) (ns : List Nod) (ls : List Lnk) : C 458 [.agg [slx b1 (ns.map nodC), slx b2 (ls.map lnkC)]] (.bool (netOk ns ls)) [] := by
  obtain ⟨r, hr⟩ : ∃ r, r = netOk ns ls := ⟨_, rfl⟩
  rw [← hr]
  unfold netOk at hr
  refine start hC (nf := N458_ref26_Valid) rfl rfl ?_
  simp [N458_ref26_Valid]
  by_cases c : (300 : Int) < ns.length
  · simp [c, hr, show ¬ ns.length ≤ 300 by omega]
  by_cases c2 : (400 : Int) < ls.length
  · simp [c, c2, hr, show ¬ ls.length ≤ 400 by omega]
  simp [c, c2]
  rw [decide_eq_true (show ns.length ≤ 300 by omega), decide_eq_true (show ls.length ≤ 400 by omega)] at hr
  simp only [Bool.true_and] at hr
  have badN : ∀ i, i < ns.length → nodAt ns i = false → r = false := fun i hi h => by
    rw [hr, Bool.and_eq_false_iff]
    exact .inl (List.all_eq_false.2 ⟨i, by simpa using hi, by simp [h]⟩)
  have badL : ∀ i, i < ls.length → lnkAt ns ls i = false → r = false := fun i hi h => by
    rw [hr, Bool.and_eq_false_iff]
    exact .inr (List.all_eq_false.2 ⟨i, by simpa using hi, by simp [h]⟩)
  refine loop_of Nat (fun i => [(1, .ptr [slx b1 (ns.map nodC), slx b2 (ls.map lnkC)]), (3, .int .i64 i)]) (fun i => i ≤ ns.length ∧ ∀ j < i, nodAt ns j = true) (fun i => ns.length - i) 0 (by simp) (by simp) ?_
  rintro i ⟨hi, hj⟩
  simp
  refine brB_of (fun h => ?_) (fun h => ?_) <;> simp at h <;> simp [h]
  · have hw : IntKind.wrap .i64 ((i : Int) + 1) = ((i + 1 : Nat) : Int) := wrap_i64 (by omega) (by omega)
    have bad := badN i h
    have e1 : ns[i]! = ns[i] := getElem!_pos ns i h
    simp only [nodAt, e1] at bad
    have k1 := nodR_c hC ns[i]
    have k2 := rNode_c hC b1 b2 ns ls ns[i].name (by omega)
    simp only [nodC] at k1
    simp [nodC, h]
    refine callW_of k1 (.inl rfl) ?_
    cases g1 : nodOk ns[i]
    · simp
      refine ⟨indW_of (by decide +kernel), ?_⟩
      exact bad (by simp [g1])
    simp [nodC, h]
    refine callW_of k2 (.inl rfl) ?_
    simp
    refine ⟨indW_of (by decide +kernel), ?_⟩
    refine brB_of (fun g2 => ?_) (fun g2 => ?_) <;> simp at g2 <;> simp [g2]
    · exact bad (by simp [g2])
    · simp [hw]
      refine ⟨i + 1, ⟨by omega, fun k hk => ?_⟩, by omega, by simp⟩
      rcases Nat.lt_succ_iff_lt_or_eq.1 hk with h5 | rfl
      · exact hj k h5
      · simp [nodAt, e1, g1, g2]
  have hall : (List.range ns.length).all (nodAt ns) = true := by
    rw [List.all_eq_true]
    intro k hk
    exact hj k (by simp at hk; omega)
  rw [hall, Bool.true_and] at hr
  clear badN hall hj
  refine loop_of Nat (fun i => [(1, .ptr [slx b1 (ns.map nodC), slx b2 (ls.map lnkC)]), (4, .int .i64 i)]) (fun i => i ≤ ls.length ∧ ∀ j < i, lnkAt ns ls j = true) (fun i => ls.length - i) 0 (by simp) (by simp) ?_
  clear h hi i
  rintro i ⟨hi, hj⟩
  simp
  refine brB_of (fun h => ?_) (fun h => ?_) <;> simp at h <;> simp [h]
  · have hw : IntKind.wrap .i64 ((i : Int) + 1) = ((i + 1 : Nat) : Int) := wrap_i64 (by omega) (by omega)
    have bad := badL i h
    have e1 : ls[i]! = ls[i] := getElem!_pos ls i h
    simp only [lnkAt, e1] at bad
    have k1 := linkR_c hC ls[i]
    rw [linkR_eq] at k1
    have k2 := rLink_c hC b1 b2 ns ls ls[i].name (by omega)
    have k3 := rNode_c hC b1 b2 ns ls ls[i].src (by omega)
    have k4 := rNode_c hC b1 b2 ns ls ls[i].dst (by omega)
    have next : lnkAt ns ls i = true → ∃ s' : Nat, (s' ≤ ls.length ∧ ∀ j < s', lnkAt ns ls j = true) ∧ ls.length - s' < ls.length - i ∧ (i : Int) + 1 = s' := fun hl => by
      refine ⟨i + 1, ⟨by omega, fun k hk => ?_⟩, by omega, by simp⟩
      rcases Nat.lt_succ_iff_lt_or_eq.1 hk with h5 | rfl
      · exact hj k h5
      · exact hl
    simp only [lnkAt, e1] at next
    simp only [lnkC] at k1
    simp [lnkC, h]
    refine callW_of k1 (.inl rfl) ?_
    cases g1 : linkOk ls[i]
    · simp
      exact bad (by simp [g1])
    simp
    refine callW_of k2 (.inl rfl) ?_
    simp
    refine brB_of (fun g2 => ?_) (fun g2 => ?_) <;> simp at g2 <;> simp [g2]
    · exact bad (by simp [g2])
    refine callW_of k4 (.inl rfl) ?_
    simp
    refine brB_of (fun g4 => ?_) (fun g4 => ?_) <;> simp at g4 <;> simp [g4]
    · exact bad (by simp [show ¬ 0 ≤ idxD (nodIs ls[i].dst) ns by omega])
    have g4' : ¬ idxD (nodIs ls[i].dst) ns < 0 := by omega
    refine callW_of k3 (.inl rfl) ?_
    simp
    by_cases g3 : idxD (nodIs ls[i].src) ns < 0
    · simp [g3]
      exact bad (by simp [fromOk, show ¬ 0 ≤ idxD (nodIs ls[i].src) ns by omega])
    have g3' : 0 ≤ idxD (nodIs ls[i].src) ns := by omega
    have hf := idxD_lt g3'
    obtain ⟨f, hfe⟩ := Int.eq_ofNat_of_zero_le g3'
    rw [hfe] at hf ⊢
    simp at hf
    have e2 : ns[f]! = ns[f] := getElem!_pos ns f hf
    have hfo : fromOk ns ls[i].src = !decide (ns[f].kind = 3) := by
      simp [fromOk, hfe, e2]
    have g3'' : ¬ (f : Int) < 0 := by omega
    simp [hf, nodC, g3'']
    refine brB_of (fun g5 => ?_) (fun g5 => ?_) <;> simp at g5 <;> simp [g5]
    · exact bad (by simp [hfo, g5])
    · simp [hw]
      exact next (by simp [hfo, g5, g1, g2, g4])
  · have hall : (List.range ls.length).all (lnkAt ns ls) = true := by
      rw [List.all_eq_true]
      intro k hk
      exact hj k (by simp at hk; omega)
    rw [hr, hall]
end Go.Gv

set_option linter.unusedSimpArgs false
namespace Go.Gv
theorem lowR_stab {es : List Edg} {out : List Nat} {v : Nat} (h : 0 ≤ lowR es out v) : ∀ k, lowR es out (v + k) = lowR es out v
  | 0 => rfl
  | k + 1 => by
    have ih := lowR_stab h k
    show lowR es out (v + k + 1) = _
    unfold lowR
    rw [ih, if_neg (by omega)]
    cases v with
    | zero => rfl
    | succ v => rfl
theorem lowR_m1 {es : List Edg} {out : List Nat} : ∀ {v : Nat}, lowR es out v < 0 → lowR es out v = -1
  | 0, _ => rfl
  | v + 1, h => by
    unfold lowR at h ⊢
    by_cases h1 : lowR es out v < 0
    · rw [if_pos h1] at h ⊢
      split at h
      · omega
      · rename_i h2; rw [if_neg h2]
    · rw [if_neg h1] at h; exact absurd h h1
def rOrdV (n : Nat) (es : List Edg) : D := if (ordF n es).length = n then ndD (ordF n es) else .nils
variable {C : CC} (hC : Closed prog C)
include hC
theorem rgValid_c {b : Bool} {n : Nat} {es : List Edg} (hn : n ≤ 300) (he : es.length ≤ 1000) (hg : inG n es) : C 489 [.int .i64 n, slx b (es.map edK)] (.bool true) [] := by
  refine start hC (nf := N489_ref08_Valid) rfl rfl ?_
  simp [N489_ref08_Valid]
  have a1 : ¬ (n : Int) < 0 := by omega
  have a2 : ¬ (300 : Int) < n := by omega
  have a3 : ¬ (1000 : Int) < es.length := by omega
  simp [a1, a2, a3]
  refine loop_of Nat (fun j => [(0, .int .i64 n), (1, slx b (es.map edK)), (5, .int .i64 j)]) (fun j => j ≤ es.length) (fun j => es.length - j) 0 (by simp) (by simp) ?_
  rintro j hj
  simp
  refine brB_of (fun h => ?_) (fun h => ?_) <;> simp [h] <;> simp at h
  · have hw : IntKind.wrap .i64 ((j : Int) + 1) = ((j + 1 : Nat) : Int) := wrap_i64 (by omega) (by omega)
    obtain ⟨g1, g2⟩ := hg _ (List.getElem_mem h)
    have b1 : ¬ (es[j].1 : Int) < 0 := by omega
    have b2 : ¬ (n : Int) ≤ es[j].1 := by omega
    have b3 : ¬ (es[j].2 : Int) < 0 := by omega
    have b4 : ¬ (n : Int) ≤ es[j].2 := by omega
    simp [h, edK, knD, b1, b2, b3, b4, hw, show ¬ n ≤ es[j].1 by omega, show ¬ n ≤ es[j].2 by omega]
    exact ⟨j + 1, by omega, by omega, by omega⟩
set_option maxHeartbeats 1000000 in
theorem rgOrder_c {b : Bool} {n : Nat} {es : List Edg} (hn : n ≤ 300) (he : es.length ≤ 1000) (hg : inG n es) : C 490 [.int .i64 n, slx b (es.map edK)] (.tup [rOrdV n es, .bool (decide ((ordF n es).length = n))]) [] := by
  refine start hC (nf := N490_ref08_Order) rfl rfl ?_
  simp [N490_ref08_Order]
  refine ⟨by omega, ?_⟩
  refine loop_of Nat (fun m => [(0, .int .i64 n), (1, slx b (es.map edK)), (6, .ref (.r 10096) 0 n), (10096, .blk 1 (srcsA n (ordN n es m))), (7, .ref (.r 10112) 0 m), (10112, .blk 1 (intL (ordN n es m)))]) (fun m => (ordN n es m).length = m) (fun m => n - m) 0 (by simp [ordN]) (by simp [ordN, intL, srcsA, rep_map]) ?_
  rintro m hm
  have hI := ordN_I n es m
  have hmn := hI.len
  simp
  refine brB_of (fun h => ?_) (fun h => ?_) <;> simp at h
  · simp [h]
    refine loop_of Nat (fun v => [(0, .int .i64 n), (1, slx b (es.map edK)), (6, .ref (.r 10096) 0 n), (10096, .blk 1 (srcsA n (ordN n es m))), (7, .ref (.r 10112) 0 m), (10112, .blk 1 (intL (ordN n es m))), (8, .int .i64 (lowR es (ordN n es m) v)), (9, .int .i64 v)]) (fun v => v ≤ n) (fun v => n - v) 0 (by simp) (by simp [lowR]) ?_
    rintro v hv
    simp
    by_cases g1 : v < n
    · by_cases g2 : lowR es (ordN n es m) v < 0
      · have hw : IntKind.wrap .i64 ((v : Int) + 1) = ((v + 1 : Nat) : Int) := wrap_i64 (by omega) (by omega)
        simp [g1, g2, rowW_some (srcsA_get _ g1)]
        refine brB_of (fun c => ?_) (fun c => ?_) <;> simp at c <;> simp [c]
        · have e1 : lowR es (ordN n es m) (v + 1) = -1 := by rw [lowR, if_pos g2, if_neg (by simp [c])]
          exact ⟨v + 1, by omega, by omega, by rw [e1, lowR_m1 g2], hw⟩
        · refine loop_of Nat (fun j => [(0, .int .i64 n), (1, slx b (es.map edK)), (6, .ref (.r 10096) 0 n), (10096, .blk 1 (srcsA n (ordN n es m))), (7, .ref (.r 10112) 0 m), (10112, .blk 1 (intL (ordN n es m))), (8, .int .i64 (lowR es (ordN n es m) v)), (9, .int .i64 v), (10, .bool (prT es (ordN n es m) v j)), (11, .int .i64 j)]) (fun j => j ≤ es.length) (fun j => es.length - j) 0 (by simp) (by simp [prT, prOk]) ?_
          rintro j hj
          simp
          refine brB_of (fun k => ?_) (fun k => ?_) <;> simp at k <;> simp [k]
          · have hw2 : IntKind.wrap .i64 ((j : Int) + 1) = ((j + 1 : Nat) : Int) := wrap_i64 (by omega) (by omega)
            obtain ⟨i1, i2⟩ := hg _ (List.getElem_mem k)
            have es1 := prT_succ (out := ordN n es m) (v := v) k
            have p1 : (srcsA n (ordN n es m))[es[j].1]? = some [.bool (decide (es[j].1 ∈ ordN n es m))] := srcsA_get _ i1
            by_cases k1 : es[j].2 = v
            · have k1i : (es[j].2 : Int) = v := by omega
              by_cases k2 : es[j].1 ∈ ordN n es m
              · have e3 : prT es (ordN n es m) v (j + 1) = prT es (ordN n es m) v j := by rw [es1]; simp [k2]
                simp [k, edK, knD, k1, k1i, i1, rowW_some p1, k2, hw2]
                exact ⟨j + 1, by omega, by omega, e3.symm, by omega⟩
              · have e3 : prT es (ordN n es m) v (j + 1) = false := by rw [es1]; simp [k1, k2]
                simp [k, edK, knD, k1, k1i, i1, rowW_some p1, k2, hw2]
                exact ⟨j + 1, by omega, by omega, e3, by omega⟩
            · have k1i : ¬ (es[j].2 : Int) = v := by omega
              have e3 : prT es (ordN n es m) v (j + 1) = prT es (ordN n es m) v j := by rw [es1]; simp [k1]
              simp [k, edK, knD, k1, k1i, hw2]
              exact ⟨j + 1, by omega, by omega, by rw [e3], by omega⟩
          · have ej : j = es.length := by omega
            subst ej
            rw [prT_end]
            cases hp : prOk es (ordN n es m) v
            · simp [hw]
              have e1 : lowR es (ordN n es m) (v + 1) = -1 := by rw [lowR, if_pos g2, if_neg (by simp [hp])]
              exact ⟨v + 1, by omega, by omega, by rw [e1, lowR_m1 g2], by omega⟩
            · simp [hw]
              have e1 : lowR es (ordN n es m) (v + 1) = v := by rw [lowR, if_pos g2, if_pos (by simp [hp, c])]
              exact ⟨v + 1, by omega, by omega, by rw [e1], by omega⟩
      · have e1 : lowR es (ordN n es m) n = lowR es (ordN n es m) v := by
          have := lowR_stab (es := es) (out := ordN n es m) (v := v) (by omega) (n - v)
          rwa [show v + (n - v) = n by omega] at this
        obtain ⟨i, r, e2, e3, e4⟩ := lowR_pos (v := n) (es := es) (out := ordN n es m) (by omega)
        have eN := ordN_succ e3
        have e5 : (intL (ordN n es m)).take m = intL (ordN n es m) := List.take_of_length_le (by rw [intL_len]; omega)
        rw [e1] at e2
        have hlt : ¬ (i : Int) < 0 := by omega
        have hsl : (srcsA n (ordN n es m)).length = n := by simp [srcsA]
        have hst : (srcsA n (ordN n es m)).set i [.bool true] = srcsA n (ordN n es (m + 1)) := by rw [srcsA_set, eN]
        simp [g1, e2, hlt, e4, srcsA_get _ e4, intL_len, hm]
        refine ⟨by omega, m + 1, by rw [eN]; simp [hm], by omega, ?_⟩
        rw [e5, intL_app, ← eN, hst]
        simp
    · have ev : v = n := by omega
      rw [ev]
      by_cases g2 : lowR es (ordN n es m) n < 0
      · have e3 := lowR_neg g2
        have eF := ordF_of hm e3
        simp [g2]
        rw [rOrdV, eF, hm, if_neg (by omega)]
        simp
        omega
      · obtain ⟨i, r, e2, e3, e4⟩ := lowR_pos (v := n) (es := es) (out := ordN n es m) (by omega)
        have eN := ordN_succ e3
        have e5 : (intL (ordN n es m)).take m = intL (ordN n es m) := List.take_of_length_le (by rw [intL_len]; omega)
        have hlt : ¬ (i : Int) < 0 := by omega
        have hsl : (srcsA n (ordN n es m)).length = n := by simp [srcsA]
        have hst : (srcsA n (ordN n es m)).set i [.bool true] = srcsA n (ordN n es (m + 1)) := by rw [srcsA_set, eN]
        simp [e2, hlt, e4, srcsA_get _ e4, intL_len, hm]
        refine ⟨by omega, m + 1, by rw [eN]; simp [hm], by omega, ?_⟩
        rw [e5, intL_app, ← eN, hst]
        simp
  · have em : n = m := by omega
    subst em
    have e1 : (intL (ordN n es n)).map (fun e => e.map cellV) = intL (ordN n es n) := by simp [intL, cellV]
    have e2 : (intL (ordN n es n)).take n = intL (ordN n es n) := List.take_of_length_le (by rw [intL_len]; omega)
    have e3 : (ordF n es).length = n := hm
    simp
    rw [e1, e2, rOrdV, if_pos e3, intL_len]
    exact ⟨by omega, rfl, e3⟩
theorem rgTree_c {b : Bool} {n : Nat} {es : List Edg} (hn : n ≤ 300) (he : es.length ≤ 1000) (hg : inG n es) : C 459 [.int .i64 n, slx b (es.map edK)] (.bool (treeF n es)) [] := by
  have k1 := rgValid_c hC (b := b) hn he hg
  have k2 := rgOrder_c hC (b := b) hn he hg
  obtain ⟨r, hr⟩ : ∃ r, r = treeF n es := ⟨_, rfl⟩
  rw [← hr]
  unfold treeF at hr
  refine start hC (nf := N459_ref08_Tree) rfl rfl ?_
  simp [N459_ref08_Tree]
  refine callW_of k1 (.inl rfl) ?_
  simp
  refine loop_of Nat (fun j => [(0, .int .i64 n), (1, slx b (es.map edK)), (5, .int .i64 j)]) (fun j => j ≤ es.length ∧ (srcT es j).Nodup) (fun j => es.length - j) 0 (by simp) (by simp) ?_
  rintro j ⟨hj, hnd⟩
  simp
  refine brB_of (fun h => ?_) (fun h => ?_) <;> simp [h] <;> simp at h
  · have hw : IntKind.wrap .i64 ((j : Int) + 1) = ((j + 1 : Nat) : Int) := wrap_i64 (by omega) (by omega)
    refine loop_of Nat (fun k => [(0, .int .i64 n), (1, slx b (es.map edK)), (5, .int .i64 j), (6, .int .i64 k)]) (fun k => k ≤ j ∧ es[j].1 ∉ srcT es k) (fun k => j - k) 0 (by simp) (by simp) ?_
    rintro k ⟨hk, hnk⟩
    simp
    refine brB_of (fun g => ?_) (fun g => ?_) <;> simp [g] <;> simp at g
    · have hw2 : IntKind.wrap .i64 ((k : Int) + 1) = ((k + 1 : Nat) : Int) := wrap_i64 (by omega) (by omega)
      have hkl : k < es.length := by omega
      simp [h, hkl, edK, knD]
      refine ⟨indW_of (by decide +kernel), ?_⟩
      refine brB_of (fun c => ?_) (fun c => ?_) <;> simp at c <;> simp [c]
      · have c' : es[j].1 = es[k].1 := by omega
        have hbad : ¬ (srcT es (j + 1)).Nodup := by
          rw [srcT_succ h, List.nodup_append]
          rintro ⟨_, _, h3⟩
          refine h3 es[k].1 ?_ _ (by simp) c'.symm
          unfold srcT
          rw [List.mem_map]
          exact ⟨es[k], by rw [List.mem_take_iff_getElem]; exact ⟨k, by omega, rfl⟩, rfl⟩
        simp [hr, srcT_nd hbad]
      · have c' : ¬ es[j].1 = es[k].1 := by omega
        simp [hw2]
        refine ⟨k + 1, ⟨by omega, ?_⟩, by omega, by omega⟩
        rw [srcT_succ hkl]
        simp [hnk, c']
    · have ek : k = j := by omega
      subst ek
      have hnd2 : (srcT es (k + 1)).Nodup := by
        rw [srcT_succ h, List.nodup_append]
        refine ⟨hnd, by simp, fun a ha b hb => ?_⟩
        simp at hb
        subst hb
        rintro rfl
        exact hnk ha
      simp [hw]
      exact ⟨k + 1, ⟨by omega, hnd2⟩, by omega, by omega⟩
  · have ej : j = es.length := by omega
    rw [ej, srcT_end] at hnd
    refine callW_of k2 (.inr rfl) ?_
    unfold rOrdV ndD
    split <;> simp [hr, hnd]
theorem rTree_c (b1 b2 : Bool) (ns : List Nod) (ls : List Lnk) : C 427 [.agg [slx b1 (ns.map nodC), slx b2 (ls.map lnkC)]] (.bool (treeN ns ls)) [] := by
  have k1 := rValid_c hC b1 b2 ns ls
  obtain ⟨r, hr⟩ : ∃ r, r = treeN ns ls := ⟨_, rfl⟩
  rw [← hr]
  unfold treeN at hr
  refine start hC (nf := N427_ref30_Tree) rfl rfl ?_
  simp [N427_ref30_Tree]
  refine callW_of k1 (.inl rfl) ?_
  cases hv : netOk ns ls
  · simp [hr, hv]
  obtain ⟨l1, l2⟩ := netOk_len hv
  have k2 := rEdges_c hC b1 b2 ns ls hv
  have k3 := rgTree_c hC (b := false) (n := ns.length) (es := edgN ns ls) l1 (by rw [edgN_len]; omega) (edgN_in hv)
  rw [hv, Bool.true_and] at hr
  simp
  refine loop_of Nat (fun j => [(1, .ptr [slx b1 (ns.map nodC), slx b2 (ls.map lnkC)]), (3, .int .i64 j)]) (fun j => j ≤ ls.length ∧ ∀ k, (h : k < ls.length) → k < j → ls[k].kind = 1) (fun j => ls.length - j) 0 (by simp) (by simp) ?_
  rintro j ⟨hj, hok⟩
  simp
  refine brB_of (fun h => ?_) (fun h => ?_) <;> simp [h] <;> simp at h
  · have hw : IntKind.wrap .i64 ((j : Int) + 1) = ((j + 1 : Nat) : Int) := wrap_i64 (by omega) (by omega)
    simp [h, lnkC]
    refine brB_of (fun c => ?_) (fun c => ?_) <;> simp at c <;> simp [c]
    · have : ls.all (fun l => decide (l.kind = 1)) = false := by
        rw [List.all_eq_false]
        exact ⟨ls[j], List.getElem_mem h, by simpa using c⟩
      rw [this] at hr
      simpa using hr
    · simp [hw]
      refine ⟨j + 1, ⟨by omega, fun k hk1 hk2 => ?_⟩, by omega, by omega⟩
      rcases Nat.lt_succ_iff_lt_or_eq.1 hk2 with h2 | rfl
      · exact hok k hk1 h2
      · exact c
  · have hall : ls.all (fun l => decide (l.kind = 1)) = true := by
      rw [List.all_eq_true]
      intro l hl
      obtain ⟨k, hk, rfl⟩ := List.mem_iff_getElem.1 hl
      simpa using hok k hk (by omega)
    rw [hall, Bool.true_and] at hr
    refine callW_of k2 (.inr rfl) ?_
    simp at k3 ⊢
    refine callW_of k3 (.inl rfl) ?_
    simp
    exact ⟨indW_of (by decide +kernel), hr.symm⟩
end Go.Gv

set_option linter.unusedSimpArgs false
namespace Go.Gv

def catValid (l : List Sec) : Bool := decide (l.length ≤ 40) && l.all secValid && decide ((l.map (·.name)).Nodup)
def namesK (l : List Sec) : List D := ((l.map (·.name)).reverse).map D.str

variable {C : CC} (hC : Closed prog C)
include hC
end Go.Gv

set_option linter.unusedSimpArgs false
namespace Go.Gv
variable {C : CC} (hC : Closed prog C)
include hC
end Go.Gv

set_option linter.unusedSimpArgs false
namespace Go.Gv

structure Job where
  below : SlI
  lengths : SlI
  flows : SlI
  falls : SlI
  room : SlI
  secN : Bool
  secs : List Sec
  deriving Inhabited
def jobC (j : Job) : List D := [slI j.below, slI j.lengths, slI j.flows, slI j.falls, slI j.room, slx j.secN (j.secs.map secC)]
def manySec (s : Sec) : Bool := decide (20 < s.area.length) || decide (20 < s.conv.length) || decide (60 < s.name.length)
def manyF (l : List Sec) : Bool := decide (8 < l.length) || l.any manySec
def largeF (j : Job) : Bool := decide (12 < j.below.l.length) || decide (12 < j.lengths.l.length) || decide (12 < j.flows.l.length) || decide (12 < j.falls.l.length) || decide (12 < j.room.l.length) || manyF j.secs
def inR (n a b : Int) : Bool := a ≤ n && n ≤ b
def pipeOk (j : Job) (i : Nat) : Bool := (j.below.l[i]! == -1 || (decide ((i : Int) < j.below.l[i]!) && decide (j.below.l[i]! < j.below.l.length))) && inR j.lengths.l[i]! 1 16777216 && inR j.flows.l[i]! 0 1099511627776 && inR j.falls.l[i]! 0 4194304 && inR j.room.l[i]! 0 4194304
def jobValid (j : Job) : Bool := decide (j.below.l.length ≤ 400) && decide (j.lengths.l.length = j.below.l.length) && decide (j.flows.l.length = j.below.l.length) && decide (j.falls.l.length = j.below.l.length) && decide (j.room.l.length = j.below.l.length) && decide (0 < j.secs.length) && catValid j.secs && (List.range j.below.l.length).all (pipeOk j)

@[simp] theorem slI_slx {x : SlI} : slI x = slx x.n (x.l.map fun n => [.int .i64 n]) := _root_.id rfl

variable {C : CC} (hC : Closed prog C)
include hC
end Go.Gv

set_option linter.unusedSimpArgs false
namespace Go.Gv

def nameIs (nm : List UInt8) (s : Sec) : Bool := s.name == nm
/-- A catalogue is valid if each section is, and is the first one with its name. -/
theorem catValid_iff (l : List Sec) : catValid l = true ↔ l.length ≤ 40 ∧ (∀ (i : Nat) (h : i < l.length), secValid l[i] = true ∧ idxD (nameIs l[i].name) l = i) := by
  simp only [catValid, Bool.and_eq_true, decide_eq_true_eq, List.all_eq_true]
  constructor
  · rintro ⟨⟨h1, h2⟩, h3⟩
    refine ⟨h1, fun i h => ⟨h2 _ (List.getElem_mem h), ?_⟩⟩
    refine idxD_step (fun k hk hki => ?_) h (by simp [nameIs])
    rw [nameIs, beq_eq_false_iff_ne]
    intro e
    exact List.pairwise_iff_getElem.1 h3 k i (by simpa using hk) (by simpa using h) hki (by simpa using e)
  · rintro ⟨h1, h2⟩
    refine ⟨⟨h1, fun x hx => ?_⟩, ?_⟩
    · obtain ⟨i, h, rfl⟩ := List.getElem_of_mem hx
      exact (h2 i h).1
    · refine List.pairwise_iff_getElem.2 fun a b ha hb hab e => ?_
      simp only [List.length_map] at ha hb
      simp only [List.getElem_map] at e
      have h3 := (h2 b hb).2
      have h4 : ∃ k, k ≤ a ∧ idxD (nameIs l[b].name) l = (k : Int) := by
        unfold idxD
        cases hf : l.findIdx? (nameIs l[b].name) with
        | none =>
          rw [List.findIdx?_eq_none_iff] at hf
          have := hf l[a] (List.getElem_mem _)
          simp [nameIs, e] at this
        | some k =>
          refine ⟨k, ?_, rfl⟩
          rw [List.findIdx?_eq_some_iff_getElem] at hf
          obtain ⟨q1, q2, q3⟩ := hf
          rcases Nat.lt_or_ge a k with hak | hak
          · exact absurd (by simp [nameIs, e]) (q3 a hak)
          · exact hak
      obtain ⟨k, h5, h6⟩ := h4
      omega

variable {C : CC} (hC : Closed prog C)
include hC
end Go.Gv

set_option linter.unusedSimpArgs false
namespace Go.Gv
open Go.Lib

variable {C : CC} (hC : Closed prog C)
include hC
end Go.Gv

set_option linter.unusedSimpArgs false
namespace Go.Gv

/-- A quotient, bit by bit: a is what is left of x, shifted. -/
def DvS (x b i a q r : Nat) : Prop := i ≤ 128 ∧ r < b ∧ ∃ c, a = c * 2 ^ i ∧ c < 2 ^ (128 - i) ∧ (q * b + r) * 2 ^ (128 - i) + c = x
theorem DvS.step {x b i a q r : Nat} (h : DvS x b i a q r) (hi : i < 128) (hb : 0 < b) :
    a < 340282366920938463463374607431768211456 ∧ 2 * q ≤ x ∧
    ∀ w r' a', 2 * r + a / 170141183460469231731687303715884105728 = w * b + r' → r' < b → a' = 2 * a % 340282366920938463463374607431768211456 → DvS x b (i + 1) a' (2 * q + w) r' ∧ 2 * q + w ≤ x := by
  obtain ⟨_, hr, c, h1, h2, h3⟩ := h
  obtain ⟨m, hm⟩ : ∃ m, m + 1 = 128 - i := ⟨127 - i, by omega⟩
  have hm2 : m = 128 - (i + 1) := by omega
  rw [← hm, Nat.pow_succ] at h2 h3
  obtain ⟨V, hV⟩ : ∃ V, V = 2 ^ m := ⟨_, rfl⟩
  obtain ⟨W, hW⟩ : ∃ W, W = 2 ^ i := ⟨_, rfl⟩
  have hVW : V * W = 170141183460469231731687303715884105728 := by
    rw [hV, hW, ← Nat.pow_add, show m + i = 127 by omega]
  have hVp : 0 < V := by rw [hV]; exact Nat.two_pow_pos m
  rw [← hV] at h2 h3
  rw [← hW] at h1
  obtain ⟨t, ht⟩ : ∃ t, t = c / V := ⟨_, rfl⟩
  obtain ⟨d, hd⟩ : ∃ d, d = c % V := ⟨_, rfl⟩
  have hc : c = t * V + d := by rw [ht, hd, Nat.mul_comm]; exact (Nat.div_add_mod c V).symm
  have hdV : d < V := by rw [hd]; exact Nat.mod_lt _ hVp
  have ht1 : t ≤ 1 := by
    have : t < 2 := by rw [ht, Nat.div_lt_iff_lt_mul hVp]; omega
    omega
  have ha : a = t * 170141183460469231731687303715884105728 + d * W := by
    rw [h1, hc, Nat.add_mul, Nat.mul_assoc, hVW]
  have hdW : d * W < 170141183460469231731687303715884105728 := by
    have : (d + 1) * W ≤ V * W := Nat.mul_le_mul_right _ hdV
    rw [hVW, Nat.add_mul] at this
    have hWp : 0 < W := by rw [hW]; exact Nat.two_pow_pos i
    omega
  have hbit : a / 170141183460469231731687303715884105728 = t := by
    rw [ha]; generalize d * W = z at *; omega
  have fin : ∀ w r', 2 * r + t = w * b + r' → ((2 * q + w) * b + r') * V + d = x := fun w r' e => by
    have e1 : (2 * q + w) * b + r' = 2 * (q * b + r) + t := by
      rw [Nat.add_mul, Nat.mul_assoc]
      generalize q * b = z at *
      generalize w * b = z' at *
      omega
    rw [e1, ← h3, hc, Nat.add_mul, Nat.mul_comm V 2, ← Nat.mul_assoc, Nat.mul_comm (q * b + r) 2]
    omega
  have big : ∀ w r', 2 * r + t = w * b + r' → 2 * q + w ≤ x := fun w r' e => by
    have e1 := fin w r' e
    have e2 : 2 * q + w ≤ (2 * q + w) * b := Nat.le_mul_of_pos_right _ hb
    have e3 : (2 * q + w) * b + r' ≤ ((2 * q + w) * b + r') * V := Nat.le_mul_of_pos_right _ hVp
    omega
  refine ⟨?_, ?_, ?_⟩
  · rw [ha]; generalize d * W = z at *; omega
  · exact Nat.le_trans (Nat.le_add_right _ _) (big _ _ (Nat.div_add_mod' (2 * r + t) b).symm)
  · intro w r' a' e hr' ha'
    rw [hbit] at e
    refine ⟨⟨by omega, hr', d, ?_, ?_, ?_⟩, big w r' e⟩
    · rw [ha', ha, Nat.pow_succ, ← hW, Nat.mul_comm W 2, Nat.mul_left_comm]
      generalize d * W = z at *
      omega
    · rw [← hm2, ← hV]; exact hdV
    · rw [← hm2, ← hV]; exact fin w r' e
theorem DvS.last {x b a q r : Nat} (h : DvS x b 128 a q r) : q = x / b ∧ r = x % b := by
  obtain ⟨_, hr, c, h1, h2, h3⟩ := h
  simp at h2 h3
  subst h2
  simp at h3
  subst h3
  have hb : 0 < b := by omega
  rw [Nat.mul_comm, Nat.mul_add_div hb, Nat.div_eq_of_lt hr, Nat.mul_add_mod, Nat.mod_eq_of_lt hr]
  exact ⟨rfl, rfl⟩

variable {C : CC} (hC : Closed prog C)
include hC
end Go.Gv

set_option linter.unusedSimpArgs false
namespace Go.Gv
variable {C : CC} (hC : Closed prog C)
include hC
end Go.Gv

set_option linter.unusedSimpArgs false
namespace Go.Gv
def nodA (nm : List UInt8) : Nod := { name := nm, kind := 1, x := 0, y := 0, invert := 0, ground := 1, shapeN := false, shape := [(0, 0), (1, 1)], prot := false, reserve := 0 }
def nodB (nm : List UInt8) : Nod := { name := nm, kind := 3, x := 0, y := 0, invert := 0, ground := 0, shapeN := true, shape := [], prot := false, reserve := 0 }
def pipeE (l : Lnk) (s : Sec) : Int := if linkOk l && secValid s then (if l.kind = 1 then (if l.sect = s.name then 0 else 25) else 11) else 1
variable {C : CC} (hC : Closed prog C)
include hC
end Go.Gv

set_option linter.unusedSimpArgs false
namespace Go.Gv
def enoughL (k flow len n : Nat) : Bool := decide (flow * flow * len ≤ k * k * n)
def lossN (k flow len : Nat) : Int × Int := if flow = 0 then (0, 0) else if k = 0 then (0, 16) else if enoughL k flow len 1073741824 then (bis (enoughL k flow len) 40 0 1073741824, 0) else (0, 5)
def lossF (l : Lnk) (s : Sec) (flow : Int) : Int × Int := lossN (lastK s.conv).2.toNat flow.toNat l.len.toNat
variable {C : CC} (hC : Closed prog C)
include hC
end Go.Gv

set_option linter.unusedSimpArgs false
namespace Go.Gv
def ceilN (x b : Nat) : Nat := if x % b = 0 then x / b else x / b + 1
def lostN (k f n : Nat) : Int × Int := if f = 0 then (0, 0) else if k = 0 then (0, 16) else if 1073741824 < ceilN (f * f * n) (k * k) then (0, 5) else (ceilN (f * f * n) (k * k), 0)
def lostF (l : Lnk) (s : Sec) (flow : Int) : Int × Int := lostN (lastK s.conv).2.toNat flow.toNat l.len.toNat
variable {C : CC} (hC : Closed prog C)
include hC
end Go.Gv

set_option linter.unusedSimpArgs false
namespace Go.Gv

variable {C : CC} (hC : Closed prog C)
include hC
end Go.Gv

set_option linter.unusedSimpArgs false
namespace Go.Gv
/-- The value of a table, as the reference finds it. -/
def valF (t : List (Int × Int)) (x : Int) : Int :=
  if posK t (x + 1) = 0 then t[0]!.2 else if posK t (x + 1) = t.length then t[posK t (x + 1) - 1]!.2 else (betK t[posK t (x + 1) - 1]! t[posK t (x + 1)]! x).1
variable {C : CC} (hC : Closed prog C)
include hC
end Go.Gv

set_option linter.unusedSimpArgs false
namespace Go.Gv
def depthR (s : Sec) (flow fall len : Int) : Int × Int :=
  if secValid s then (if 0 ≤ flow ∧ flow ≤ 1099511627776 ∧ slopeOk fall len = true then (if (carF s s.height fall len : Int) < flow then (0, 28) else (bis (enoughD s flow fall len) 40 0 s.height.toNat, 0)) else (0, 2)) else (0, 1)
variable {C : CC} (hC : Closed prog C)
include hC
end Go.Gv

set_option linter.unusedSimpArgs false
namespace Go.Gv
def mxI (a b : Int) : Int := if a < b then b else a
def fallF (l : Lnk) : Int := if 4194304 < l.up - l.down then 4194304 else l.up - l.down
def lowB (l : Lnk) (s : Sec) (flow level : Int) : Bool := decide (level < l.down + s.height) && (decide ((fullF s (fallF l) l.len).2 = 5) || (decide ((fullF s (fallF l) l.len).2 = 0) && decide (flow ≤ (fullF s (fallF l) l.len).1)))
def highF (l : Lnk) (s : Sec) (flow level : Int) : Int × Int :=
  if (lossF l s flow).2 = 0 then (if 1099511627776 < mxI (l.up + s.height) (level + (lossF l s flow).1) then (0, 5) else (mxI (l.up + s.height) (level + (lossF l s flow).1), 0)) else (0, (lossF l s flow).2)
def lowF (l : Lnk) (s : Sec) (flow level : Int) : Int × Int :=
  if (depthF s flow (fallF l) l.len).2 = 0 then (mxI (l.up + (depthF s flow (fallF l) l.len).1) level, 0) else (0, (depthF s flow (fallF l) l.len).2)
def aboveF (l : Lnk) (s : Sec) (flow level : Int) : Int × Int := if lowB l s flow level then lowF l s flow level else highF l s flow level
def upF (l : Lnk) (s : Sec) (flow level : Int) : Int × Int :=
  if pipeE l s = 0 then (if l.up < l.down then (0, 23) else if lowHigh flow 0 1099511627776 && lowHigh level (-4194304) 1099511627776 then aboveF l s flow level else (0, 2)) else (0, pipeE l s)
def lossU (l : Lnk) (s : Sec) (flow : Int) : Int × Int :=
  if pipeE l s = 0 then (if lowHigh flow 0 1099511627776 then lossF l s flow else (0, 2)) else (0, pipeE l s)
variable {C : CC} (hC : Closed prog C)
include hC
end Go.Gv

set_option linter.unusedSimpArgs false
namespace Go.Gv
def grI (a b : Int) : Int := if b < a then a else b
def givenE (l : Lnk) (s : Sec) : Int := if linkR l && secValid s then (if l.kind = 1 then (if l.sect = s.name then 0 else 25) else 11) else 1
def highR (l : Lnk) (s : Sec) (flow level : Int) : Int × Int :=
  if (lostF l s flow).2 = 0 then (if 1099511627776 < grI (l.up + s.height) (level + (lostF l s flow).1) then (0, 5) else (grI (l.up + s.height) (level + (lostF l s flow).1), 0)) else (0, (lostF l s flow).2)
def aboveR (l : Lnk) (s : Sec) (flow level : Int) : Int × Int :=
  if (depthR s flow (fallF l) l.len).2 = 0 ∧ level < l.down + s.height then (grI (l.up + (depthR s flow (fallF l) l.len).1) level, 0) else highR l s flow level
def upR (l : Lnk) (s : Sec) (flow level : Int) : Int × Int :=
  if givenE l s = 0 then (if l.up < l.down then (0, 23) else if lowHigh flow 0 1099511627776 && lowHigh level (-4194304) 1099511627776 then aboveR l s flow level else (0, 2)) else (0, givenE l s)
def lossR (l : Lnk) (s : Sec) (flow : Int) : Int × Int :=
  if givenE l s = 0 then (if lowHigh flow 0 1099511627776 then lostF l s flow else (0, 2)) else (0, givenE l s)
variable {C : CC} (hC : Closed prog C)
include hC
end Go.Gv

set_option linter.unusedSimpArgs false
namespace Go.Gv
def secI (ss : List Sec) (nm : List UInt8) : Int := idxD (nameIs nm) ss
def findF (ss : List Sec) (nm : List UInt8) : Int × Int := if catValid ss then (if 0 ≤ secI ss nm then (secI ss nm, 0) else (0, 9)) else (0, 1)
def noSec (ss : List Sec) (l : Lnk) : Bool := decide (secI ss l.sect < 0)
def uphill (l : Lnk) : Bool := decide (l.up < l.down)
def pipE (ls : List Lnk) (ss : List Sec) : Int := if ls.any (noSec ss) then 9 else if ls.any uphill then 23 else 0
def givE (ns : List Nod) (ls : List Lnk) (ss : List Sec) (q : List Sp) (count : Int) : Int := if treeN ns ls && catValid ss then (if spsE q count = 0 then pipE ls ss else spsE q count) else 1
/-- What the depths of a pipe lean on. -/
structure PipOk (ss : List Sec) (l : Lnk) : Prop where
  idx : ∃ k, secI ss l.sect = (k : Nat) ∧ k < ss.length
  le : l.down ≤ l.up
  up : -4194304 ≤ l.up ∧ l.up ≤ 4194304
  down : -4194304 ≤ l.down ∧ l.down ≤ 4194304
  len : 1 ≤ l.len ∧ l.len ≤ 16777216
theorem PipOk.fall {ss : List Sec} {l : Lnk} (h : PipOk ss l) : slopeOk (fallF l) l.len = true := by
  have := h.le; have := h.len; have := h.up; have := h.down
  by_cases h : 4194304 < l.up - l.down <;> simp [slopeOk, fallF, h] <;> omega
theorem catValid_sec {ss : List Sec} (h : catValid ss = true) {k : Nat} (hk : k < ss.length) : secValid ss[k] = true := ((catValid_iff ss).1 h).2 k hk |>.1
variable {C : CC} (hC : Closed prog C)
include hC
end Go.Gv

set_option linter.unusedSimpArgs false
namespace Go.Gv
def capF (s : Sec) (depth fall len : Int) : Int × Int := if secValid s then (if 0 ≤ depth ∧ depth ≤ s.height ∧ slopeOk fall len = true then (if 1099511627776 < (carF s depth fall len : Int) then (0, 5) else (carF s depth fall len, 0)) else (0, 2)) else (0, 1)
def secL (ss : List Sec) (l : Lnk) : Sec := ss[(secI ss l.sect).toNat]?.getD ⟨[], 0, 0, true, [], true, []⟩
/-- The full capacity of a pipe, at most 2^40. -/
def fulF (ss : List Sec) (l : Lnk) : Int := if (capF (secL ss l) (secL ss l).height (fallF l) l.len).2 = 5 then 1099511627776 else (capF (secL ss l) (secL ss l).height (fallF l) l.len).1
theorem PipOk.sec {ss : List Sec} {l : Lnk} (h : PipOk ss l) : ∃ k, secI ss l.sect = (k : Nat) ∧ ∃ hk : k < ss.length, secL ss l = ss[k] := by
  obtain ⟨k, hk, hl⟩ := h.idx
  refine ⟨k, hk, hl, ?_⟩
  simp [secL, hk, hl]
theorem PipOk.find {ss : List Sec} {l : Lnk} (hv : catValid ss = true) (h : PipOk ss l) : findF ss l.sect = (secI ss l.sect, 0) := by
  obtain ⟨k, hk, hl⟩ := h.idx
  simp [findF, hv, hk]
theorem PipOk.valid {ss : List Sec} {l : Lnk} (hv : catValid ss = true) (h : PipOk ss l) : secValid (secL ss l) = true := by
  obtain ⟨k, hk, hl, e⟩ := h.sec
  rw [e]
  exact catValid_sec hv hl
theorem PipOk.wrap {ss : List Sec} {l : Lnk} (h : PipOk ss l) : IntKind.wrap .i64 (l.up - l.down) = l.up - l.down := by
  have := h.up; have := h.down
  exact wrap_i64 rfl (by omega)
variable {C : CC} (hC : Closed prog C)
include hC
end Go.Gv

set_option linter.unusedSimpArgs false
namespace Go.Gv
variable {C : CC} (hC : Closed prog C)
include hC
theorem rSpOk_c (s : Sp) : C 501 [.agg (knD s)] (.bool (spOk s)) [] := by
  refine start hC (nf := N501_ref04_Valid) rfl rfl ?_
  simp [N501_ref04_Valid, knD]
  by_cases h1 : s.1 ≤ s.2 <;> by_cases h2 : -72057594037927936 ≤ s.1 <;> by_cases h3 : s.2 ≤ 72057594037927936 <;> simp [spOk, fitS, h1, h2, h3]
  constructor <;> omega
theorem rSpans_c (b : Bool) (l : List Sp) (count : Int) (hl : l.length < 2 ^ 62) : C 465 [slx b (l.map knD), .int .i64 count] (.int .i64 (spsE l count)) [] := by
  have k1 := fun s => rSpOk_c hC s
  simp only [knD] at k1
  refine start hC (nf := N465_ref30_spans) rfl rfl ?_
  simp [N465_ref30_spans]
  refine loop_of Nat (fun i => [(0, slx b (l.map knD)), (1, .int .i64 count), (5, .int .i64 i)]) (fun i => i ≤ l.length ∧ ∀ (j : Nat) (h : j < l.length), j < i → spOk l[j] = true) (fun i => l.length - i) 0 (by simp) (by simp) ?_
  rintro i ⟨hi, hj⟩
  simp
  refine brB_of (fun h => ?_) (fun h => ?_) <;> simp [h] <;> simp at h
  · have hw : IntKind.wrap .i64 ((i : Int) + 1) = ((i + 1 : Nat) : Int) := wrap_i64 (by omega) (by omega)
    simp [h, knD]
    refine callW_of (k1 _) (.inl rfl) ?_
    cases h1 : spOk l[i]
    · simp
      have : l.any (fun s => !spOk s) = true := List.any_eq_true.2 ⟨l[i], List.getElem_mem h, by simp [h1]⟩
      rw [spsE, if_pos this]
    · simp [hw]
      refine ⟨i + 1, ⟨by omega, fun j hl hjj => ?_⟩, by omega, by omega⟩
      rcases Nat.lt_succ_iff_lt_or_eq.1 hjj with h2 | rfl
      · exact hj j hl h2
      · exact h1
  · have hno : l.any (fun s => !spOk s) = false := by
      rw [List.any_eq_false]
      intro x hx
      obtain ⟨j, hjl, rfl⟩ := List.getElem_of_mem hx
      simp [hj j hjl (by omega)]
    clear hj h hi
    unfold spsE
    rw [hno]
    by_cases h : (l.length : Int) = count
    rotate_left
    · simp [h]
    simp [h]
    refine loop_of Nat (fun i => [(0, slx b (l.map knD)), (6, .int .i64 i)]) (fun i => i ≤ l.length ∧ ∀ (j : Nat) (h : j < l.length), j < i → spRg l[j] = false) (fun i => l.length - i) 0 (by simp) (by simp) ?_
    rintro i ⟨hi, hj⟩
    simp
    refine brB_of (fun g => ?_) (fun g => ?_) <;> simp [g] <;> simp at g
    · have hw : IntKind.wrap .i64 ((i : Int) + 1) = ((i + 1 : Nat) : Int) := wrap_i64 (by omega) (by omega)
      have yes : spRg l[i] = true → l.any spRg = true := fun e => List.any_eq_true.2 ⟨l[i], List.getElem_mem g, e⟩
      have no : spRg l[i] = false → ∃ i' : Nat, (i' ≤ l.length ∧ ∀ (j : Nat) (h : j < l.length), j < i' → spRg l[j] = false) ∧ l.length - i' < l.length - i ∧ (i : Int) + 1 = i' := fun e => by
        refine ⟨i + 1, ⟨by omega, fun j hl hjj => ?_⟩, by omega, by omega⟩
        rcases Nat.lt_succ_iff_lt_or_eq.1 hjj with h2 | rfl
        · exact hj j hl h2
        · exact e
      simp [g, knD]
      by_cases a1 : l[i].1 < 0
      · have := yes (by simp [spRg, a1])
        simp [a1, this, h]
      · by_cases a2 : 1099511627776 < l[i].2
        · have := yes (by simp [spRg, a2])
          simp [a1, a2, this, h, g, knD]
        · obtain ⟨i', b1, b2, b3⟩ := no (by simp [spRg, a1, a2])
          simp [a1, a2, hw, g, knD]
          exact ⟨i', b1, b2, by omega⟩
    · have hno : l.any spRg = false := by
        rw [List.any_eq_false]
        intro x hx
        obtain ⟨j, hjl, rfl⟩ := List.getElem_of_mem hx
        simp [hj j hjl (by omega)]
      simp [hno, h]
end Go.Gv

set_option linter.unusedSimpArgs false
namespace Go.Gv
def dRes (ss : List Sec) (l : Lnk) (n : Int) : Int × Int := depthF (secL ss l) n (fallF l) l.len
def dBad (ss : List Sec) (l : Lnk) (s : Sp) : Bool := !decide ((dRes ss l s.1).2 = 0) || !decide ((dRes ss l s.2).2 = 0)
def dSp (ss : List Sec) (l : Lnk) (s : Sp) : Sp := ((dRes ss l s.1).1, (dRes ss l s.2).1)
def anyBad (ss : List Sec) (ls : List Lnk) (q : List Sp) : Bool := (ls.zip q).any fun p => dBad ss p.1 p.2
def depL (ss : List Sec) (ls : List Lnk) (q : List Sp) : List Sp := List.zipWith (dSp ss) ls q
def DepE (ns : List Nod) (ls : List Lnk) (ss : List Sec) (q : List Sp) : Int := if givE ns ls ss q ls.length = 0 then (if anyBad ss ls q then 28 else 0) else givE ns ls ss q ls.length
def DepV (ns : List Nod) (ls : List Lnk) (ss : List Sec) (q : List Sp) : D := if DepE ns ls ss q = 0 then .sl ((depL ss ls q).map knD) else .nils
/-- The first j spans, as rows. -/
def spT (l : List Sp) (j : Nat) : List (List D) := (l.take j).map knD
theorem spT_succ {l : List Sp} {j : Nat} (h : j < l.length) : spT l (j + 1) = spT l j ++ [knD l[j]] := by
  rw [spT, List.take_succ_eq_append_getElem h, List.map_append]; rfl
theorem spT_len {l : List Sp} {j : Nat} (h : j ≤ l.length) : (spT l j).length = j := by simp [spT]; omega
theorem spT_end (l : List Sp) : spT l l.length = l.map knD := by simp [spT]
theorem spT_V (l : List Sp) (j : Nat) : (spT l j).map (fun e => e.map cellV) = spT l j := by
  unfold spT
  rw [List.map_map]
  apply List.map_congr_left
  intro v _
  simp [knD, cellV]
theorem spsE_get {q : List Sp} {n : Nat} (h : spsE q n = 0) : q.length = n ∧ ∀ s ∈ q, 0 ≤ s.1 ∧ s.1 ≤ s.2 ∧ s.2 ≤ 1099511627776 := by
  unfold spsE at h
  split at h
  · cases h
  rename_i h1
  split at h
  · rename_i h0
    split at h
    · cases h
    · rename_i h2
      refine ⟨by omega, fun s hs => ?_⟩
      simp only [Bool.not_eq_true, List.any_eq_false] at h1 h2
      have a := h1 s hs
      have b := h2 s hs
      simp only [spOk, spRg, Bool.not_eq_true', Bool.not_eq_false', Bool.and_eq_true, decide_eq_true_eq, Bool.or_eq_true, not_or] at a b
      simp at a b
      omega
  · cases h
variable {C : CC} (hC : Closed prog C)
include hC
end Go.Gv

set_option linter.unusedSimpArgs false
namespace Go.Gv
end Go.Gv

set_option linter.unusedSimpArgs false
namespace Go.Gv
/-! ### searches find the least -/
/-! ### losses -/
/-! ### roots and tables ascend -/
end Go.Gv

set_option linter.unusedSimpArgs false
namespace Go.Gv
def ldSp (ss : List Sec) (l : Lnk) (s : Sp) : Sp := (1000 * s.1 / fulF ss l, (1000 * s.2 + fulF ss l - 1) / fulF ss l)
def zeroL (ss : List Sec) (l : Lnk) : Bool := decide (fulF ss l = 0)
def ldL (ss : List Sec) (ls : List Lnk) (q : List Sp) : List Sp := List.zipWith (ldSp ss) ls q
def anyZ (ss : List Sec) (ls : List Lnk) : Bool := ls.any (zeroL ss)
def LdE (ns : List Nod) (ls : List Lnk) (ss : List Sec) (q : List Sp) : Int := if givE ns ls ss q ls.length = 0 then (if anyZ ss ls then 16 else 0) else givE ns ls ss q ls.length
def LdV (ns : List Nod) (ls : List Lnk) (ss : List Sec) (q : List Sp) : D := if LdE ns ls ss q = 0 then .sl ((ldL ss ls q).map knD) else .nils
variable {C : CC} (hC : Closed prog C)
include hC
end Go.Gv

set_option linter.unusedSimpArgs false
namespace Go.Gv
def ovG (ss : List Sec) (f : Sp → Int) (p : Lnk × Sp) : Option (List UInt8) := if fulF ss p.1 < f p.2 then some p.1.name else none
def ovT (ss : List Sec) (f : Sp → Int) (ls : List Lnk) (fl : List Sp) (i : Nat) : List (List UInt8) := ((ls.zip fl).take i).filterMap (ovG ss f)
def strR (l : List (List UInt8)) : List (List D) := l.map fun s => [.str s]
theorem strR_len (l : List (List UInt8)) : (strR l).length = l.length := by simp [strR]
theorem strR_V (l : List (List UInt8)) : (strR l).map (fun e => e.map cellV) = strR l := by
  unfold strR
  rw [List.map_map]
  apply List.map_congr_left
  intro v _
  simp [cellV]
def OvE (ns : List Nod) (ls : List Lnk) (ss : List Sec) (q : List Sp) : Int := if givE ns ls ss q ns.length = 0 then flowsE ns.length (edgN ns ls) q else givE ns ls ss q ns.length
def OvV (f : Sp → Int) (ns : List Nod) (ls : List Lnk) (ss : List Sec) (q : List Sp) : D := if OvE ns ls ss q = 0 then .sl (strR (ovT ss f ls (flowsF ns.length (edgN ns ls) q) ls.length)) else .nils
variable {C : CC} (hC : Closed prog C)
include hC
end Go.Gv

set_option linter.unusedSimpArgs false
namespace Go.Gv
variable {C : CC} (hC : Closed prog C)
include hC
theorem idxEqStr_c (b : Bool) (xs : List (List UInt8)) (s : List UInt8) (hs : xs.length < 2 ^ 62) : C 485 [slx b (strR xs), .str s] (.int .i64 (idxD (fun x => x == s) xs)) [] := by
  refine start hC (nf := N485_slices_Index__string_string) rfl rfl ?_
  simp [N485_slices_Index__string_string, strR]
  refine loop_of Nat (fun i => [(0, slx b (strR xs)), (1, .str s), (7, .int .i64 xs.length), (8, .int .i64 i)]) (fun i => i ≤ xs.length ∧ ∀ (j : Nat) (h : j < xs.length), j < i → (xs[j] == s) = false) (fun i => xs.length - i) 0 (by simp) (by simp [strR]) ?_
  rintro i ⟨hi, hj⟩
  simp [strR]
  refine brB_of (fun h => ?_) (fun h => ?_) <;> simp [h] <;> simp at h
  · have hw : IntKind.wrap .i64 ((i : Int) + 1) = ((i + 1 : Nat) : Int) := wrap_i64 (by omega) (by omega)
    simp [h]
    by_cases h1 : s = xs[i]
    · simp [← h1]
      rw [idxD_step hj h (by simp [h1])]
    · simp [h1, hw]
      refine ⟨i + 1, ⟨by omega, fun j hl hjj => ?_⟩, by omega, by omega⟩
      rcases Nat.lt_succ_iff_lt_or_eq.1 hjj with h2 | rfl
      · simpa using hj j hl h2
      · exact fun e => h1 e.symm
  · rw [idxD_none (fun j hl => by simpa using hj j hl (by omega))]
theorem hasStr_c (b : Bool) (xs : List (List UInt8)) (s : List UInt8) (hs : xs.length < 2 ^ 62) : C 450 [slx b (strR xs), .str s] (.bool (xs.contains s)) [] := by
  have hss : slx b (strR xs) = .nils ∨ slx b (strR xs) = .sl (strR xs) := by
    unfold slx; split
    · exact .inl rfl
    · exact .inr rfl
  have k := idxEqStr_c hC b xs s hs
  have e : xs.contains s = xs.any (fun x => x == s) := by
    rw [Bool.eq_iff_iff]; simp
  rw [e]
  refine start hC (nf := N450_slices_Contains__string_string) rfl rfl ?_
  simp only [N450_slices_Contains__string_string]
  simp
  refine callW_of k (.inl rfl) ?_
  simp [idxD_any]
theorem eqStr_c (b b' : Bool) (xs ys : List (List UInt8)) (hx : xs.length < 2 ^ 62) (hy : ys.length < 2 ^ 62) : C 435 [slx b (strR xs), slx b' (strR ys)] (.bool (decide (xs = ys))) [] := by
  obtain ⟨r, hr⟩ : ∃ r, r = decide (xs = ys) := ⟨_, rfl⟩
  rw [← hr]
  refine start hC (nf := N435_slices_Equal__string_string) rfl rfl ?_
  simp [N435_slices_Equal__string_string, strR]
  refine brB_of (fun h => ?_) (fun h => ?_) <;> simp at h <;> simp [h]
  · rw [hr, decide_eq_false]
    intro e
    exact h (by rw [e])
  have h' : xs.length = ys.length := by omega
  refine loop_of Nat (fun i => [(0, slx b (strR xs)), (1, slx b' (strR ys)), (12, .int .i64 xs.length), (13, .int .i64 i)])
    (fun i => i ≤ xs.length ∧ ∀ (k : Nat) (h1 : k < xs.length) (h2 : k < ys.length), k < i → xs[k] = ys[k]) (fun i => xs.length - i) 0 (by simp) (by simp [h', strR]) ?_
  rintro i ⟨hi, hok⟩
  simp [strR]
  refine brB_of (fun h1 => ?_) (fun h1 => ?_) <;> simp at h1 <;> simp [h1]
  · have hw : IntKind.wrap .i64 ((i : Int) + 1) = ((i + 1 : Nat) : Int) := wrap_i64 (by omega) (by omega)
    have hy1 : i < ys.length := by omega
    simp [h1, hy1]
    refine ⟨indW_of (by decide +kernel), ?_⟩
    by_cases h2 : xs[i] = ys[i]
    · simp [h2, hw]
      refine ⟨i + 1, ⟨by omega, fun k hk hk' hki => ?_⟩, by omega, by omega⟩
      rcases Nat.lt_succ_iff_lt_or_eq.1 hki with h3 | rfl
      · exact hok k hk hk' h3
      · exact h2
    · simp [h2]
      rw [hr, decide_eq_false]
      intro e
      subst e
      exact h2 rfl
  · rw [hr]
    have : xs = ys := by
      apply List.ext_getElem h'
      intro k a1 a2
      exact hok k a1 a2 (by omega)
    simp [this]
end Go.Gv

set_option linter.unusedSimpArgs false
namespace Go.Gv
def trn (es : List Edg) : List Edg := es.map fun e => (e.2, e.1)
theorem trn_len (es : List Edg) : (trn es).length = es.length := by simp [trn]
theorem trn_in {n : Nat} {es : List Edg} (h : inG n es) : inG n (trn es) := fun e he => by
  obtain ⟨x, hx, rfl⟩ := List.mem_map.1 he
  exact ⟨(h x hx).2, (h x hx).1⟩
def nodNm (ns : List Nod) (k : Nat) : List UInt8 := (ns[k]?.map (·.name)).getD []
/-- The names of the nodes that f takes. -/
def nmT (ns : List Nod) (f : Nat → Bool) : Nat → List (List UInt8)
  | 0 => []
  | k + 1 => nmT ns f k ++ (if f k = true then [nodNm ns k] else [])
theorem nmT_len (ns : List Nod) (f : Nat → Bool) : ∀ k, (nmT ns f k).length ≤ k
  | 0 => by simp [nmT]
  | k + 1 => by
    have := nmT_len ns f k
    unfold nmT
    split <;> simp <;> omega
theorem nodNm_get {ns : List Nod} {k : Nat} (h : k < ns.length) : nodNm ns k = ns[k].name := by simp [nodNm, h]
/-- The edges, of which the first j are turned. -/
def trA (es : List Edg) (j : Nat) : List (List D) := (List.range es.length).map fun k => edK (if k < j then (es[k]!.2, es[k]!.1) else es[k]!)
theorem trA_len (es : List Edg) (j : Nat) : (trA es j).length = es.length := by simp [trA]
theorem trA_0 (es : List Edg) : trA es 0 = es.map edK := by
  apply List.ext_getElem
  · simp [trA]
  · intro i h1 h2
    have h3 : i < es.length := by simpa using h2
    simp [trA, h3]
theorem trA_end (es : List Edg) : trA es es.length = (trn es).map edK := by
  apply List.ext_getElem
  · simp [trA, trn]
  · intro i h1 h2
    have h3 : i < es.length := by simpa [trn] using h2
    simp [trA, trn, h3]
theorem trA_get {es : List Edg} {j : Nat} (h : j < es.length) : (trA es j)[j]? = some [.int .i64 es[j].1, .int .i64 es[j].2] := by
  simp [trA, h, edK, knD]
theorem trA_set {es : List Edg} {j : Nat} (h : j < es.length) : (trA es j).set j [.int .i64 es[j].2, .int .i64 es[j].1] = trA es (j + 1) := by
  unfold trA
  rw [set_rm]
  apply List.map_congr_left
  intro k hk
  by_cases e : k = j
  · subst e
    simp [h, edK, knD]
  · have : (k < j) = (k < j + 1) := by apply propext; omega
    simp only [if_neg e, this]
theorem trA_V (es : List Edg) (j : Nat) : (trA es j).map (fun e => e.map cellV) = trA es j := by
  unfold trA
  rw [List.map_map]
  apply List.map_congr_left
  intro v _
  simp [edK, knD, cellV]
def waysE (ns : List Nod) (nm : List UInt8) : Int := if 0 ≤ idxD (nodIs nm) ns then 0 else 9
noncomputable def waysL (ns : List Nod) (te : List Edg) (nm : List UInt8) : List (List UInt8) := nmT ns (rB te (tgs te (idxD (nodIs nm) ns).toNat)) ns.length
noncomputable def waysV (ns : List Nod) (te : List Edg) (nm : List UInt8) : D := if 0 ≤ idxD (nodIs nm) ns then .sl (strR (waysL ns te nm)) else .nils
variable {C : CC} (hC : Closed prog C)
include hC
theorem found_c (d : List D) (i : Int) : C 498 [.agg d, .int .i64 i] (.tup [.int .i64 (if i < 0 then 0 else i), .int .i64 (if i < 0 then 9 else 0)]) [] := by
  refine start hC (nf := N498_network_found) rfl rfl ?_
  simp [N498_network_found]
  refine brB_of (fun h => ?_) (fun h => ?_) <;> simp at h <;> simp [h]
  omega
set_option maxHeartbeats 2000000 in
theorem ways_c (hS : SlC C) (b1 b2 b : Bool) (ns : List Nod) (ls : List Lnk) (te : List Edg) (nm : List UInt8) (hn : ns.length ≤ 300) (he : te.length ≤ 1000) (hg : inG ns.length te) : C 500 [.agg [slx b1 (ns.map nodC), slx b2 (ls.map lnkC)], .str nm, slx b (te.map edK)] (.tup [waysV ns te nm, .int .i64 (waysE ns nm)]) [] := by
  have k1 := node_c hC b1 b2 ns ls nm (by omega)
  have k2 := found_c hC [slx b1 (ns.map nodC), slx b2 (ls.map lnkC)] (idxD (nodIs nm) ns)
  refine start hC (nf := N500_network_ways) rfl rfl ?_
  simp [N500_network_ways]
  refine callW_of k1 (.inl rfl) ?_
  simp
  refine callW_of k2 (.inl rfl) ?_
  simp
  refine ⟨indW_of (by decide +kernel), ?_⟩
  unfold waysV waysE
  by_cases h0 : idxD (nodIs nm) ns < 0
  · simp [h0, show ¬ 0 ≤ idxD (nodIs nm) ns by omega]
  have hx := idxD_lt (show 0 ≤ idxD (nodIs nm) ns by omega)
  unfold waysL
  obtain ⟨x, hxe⟩ : ∃ x : Nat, idxD (nodIs nm) ns = x := ⟨(idxD (nodIs nm) ns).toNat, by omega⟩
  rw [hxe] at hx ⊢
  simp at hx
  have h0' : ¬ (x : Int) < 0 := by omega
  have hgl := tgs_len te x
  have hgf : ∀ s ∈ tgs te x, s < ns.length := fun s hs => (hg _ (mem_tgs.1 hs)).2
  have k3 := gReach_c hC hS (b := b) (b' := false) hn he hg (tgs te x) hgf (by omega)
  rw [slx_false] at k3
  simp [h0']
  refine loop_of Nat (fun j => [(2, slx b (te.map edK)), (3, .ptr [slx b1 (ns.map nodC), slx b2 (ls.map lnkC)]), (8, .int .i64 x), (10, .ref (.r 10160) 0 (tgs (te.take j) x).length), (10160, .blk 1 (intL (tgs (te.take j) x))), (28, slx b (te.map edK)), (29, .int .i64 te.length), (30, .int .i64 j)]) (fun j => j ≤ te.length) (fun j => te.length - j) 0 (by simp) (by simp [tgs, intL]) ?_
  rintro j hj
  simp
  refine brB_of (fun h => ?_) (fun h => ?_) <;> simp [h] <;> simp at h
  · have hw : IntKind.wrap .i64 ((j : Int) + 1) = ((j + 1 : Nat) : Int) := wrap_i64 (by omega) (by omega)
    have ht := tgs_take h x
    have hl1 := tgs_len (te.take j) x
    have hl2 : (te.take j).length = j := by simp; omega
    generalize tgs (te.take j) x = T at *
    have hT : (intL T).take T.length = intL T := List.take_of_length_le (by rw [intL_len]; exact Nat.le_refl _)
    simp [h, edK, knD]
    by_cases c : te[j].1 = x
    · rw [if_pos c] at ht
      simp [c, h]
      refine ⟨by rw [intL_len]; exact Nat.le_refl _, by omega, ?_⟩
      simp [hw]
      refine ⟨j + 1, by omega, by omega, ?_⟩
      rw [ht, hT]
      simp [intL]
    · rw [if_neg c, List.append_nil] at ht
      have c' : ¬ (te[j].1 : Int) = x := by omega
      simp [c, c', hw]
      exact ⟨j + 1, by omega, by omega, by rw [ht]; simp⟩
  · have ej : j = te.length := by omega
    subst ej
    rw [List.take_of_length_le (Nat.le_refl te.length)]
    have hV : List.take (tgs te x).length (List.map (fun e => List.map cellV e) (intL (tgs te x))) = intL (tgs te x) := by
      have e1 : List.map (fun e => List.map cellV e) (intL (tgs te x)) = intL (tgs te x) := by
        unfold intL
        rw [List.map_map]
        apply List.map_congr_left
        intro v _
        simp [cellV]
      rw [e1, List.take_of_length_le (by rw [intL_len]; exact Nat.le_refl _)]
    simp [intL_len, hV]
    clear hj h
    refine callW_of k3 (.inr rfl) ?_
    generalize rB te (tgs te x) = f at *
    simp
    refine loop_of Nat (fun j => [(13, .sl (boolA ns.length f)), (14, .ref (.r 10224) 0 (nmT ns f j).length), (10224, .blk 1 (strR (nmT ns f j))), (57, slx b1 (ns.map nodC)), (58, .int .i64 ns.length), (59, .int .i64 j)]) (fun j => j ≤ ns.length) (fun j => ns.length - j) 0 (by simp) (by simp [nmT, strR]) ?_
    rintro j hj
    simp
    refine brB_of (fun h => ?_) (fun h => ?_) <;> simp [h] <;> simp at h
    · have hw : IntKind.wrap .i64 ((j : Int) + 1) = ((j + 1 : Nat) : Int) := wrap_i64 (by omega) (by omega)
      have ht : nmT ns f (j + 1) = nmT ns f j ++ (if f j = true then [nodNm ns j] else []) := rfl
      rw [nodNm_get h] at ht
      have hl1 := nmT_len ns f j
      generalize nmT ns f j = T at *
      have hT : (strR T).take T.length = strR T := List.take_of_length_le (by rw [strR_len]; exact Nat.le_refl _)
      simp [h, nodC, idxW_some (boolA_get f h), boolA_get f h, boolA_len]
      by_cases c : f j = true
      · rw [if_pos c] at ht
        simp [c, h]
        refine ⟨by rw [strR_len]; exact Nat.le_refl _, by omega, ?_⟩
        simp [hw]
        refine ⟨j + 1, by omega, by omega, ?_⟩
        rw [ht, hT]
        simp [strR]
      · rw [if_neg c, List.append_nil] at ht
        have c' : f j = false := by simpa using c
        simp [c', hw]
        exact ⟨j + 1, by omega, by omega, by rw [ht]; simp⟩
    · have ej : j = ns.length := by omega
      subst ej
      rw [strR_V, List.take_of_length_le (by rw [strR_len]; exact Nat.le_refl _)]
      exact ⟨by rw [strR_len]; exact Nat.le_refl _, rfl⟩
def AboveE (ns : List Nod) (ls : List Lnk) (nm : List UInt8) : Int := if netOk ns ls = true then waysE ns nm else 1
noncomputable def AboveV (ns : List Nod) (ls : List Lnk) (nm : List UInt8) : D := if netOk ns ls = true then waysV ns (trn (edgN ns ls)) nm else .nils
set_option maxHeartbeats 2000000 in
theorem Above_c (hS : SlC C) (b1 b2 : Bool) (ns : List Nod) (ls : List Lnk) (nm : List UInt8) (hcv : ∀ l ∈ ls, l.curve.length < 2 ^ 62) (hv : netOk ns ls = true) : C 464 [.agg [slx b1 (ns.map nodC), slx b2 (ls.map lnkC)], .str nm] (.tup [waysV ns (trn (edgN ns ls)) nm, .int .i64 (waysE ns nm)]) [] := by
  have k1 := netOk_c hC b1 b2 ns ls hcv
  have k2 := nEdgesF_c hC b1 b2 ns ls hv
  obtain ⟨l1, l2⟩ := netOk_len hv
  have hg := edgN_in hv
  have hel := edgN_len ns ls
  have k3 := ways_c hC hS b1 b2 false ns ls (trn (edgN ns ls)) nm l1 (by rw [trn_len]; omega) (trn_in hg)
  rw [slx_false] at k3
  rw [hv] at k1
  have hV : ∃ c l, waysV ns (trn (edgN ns ls)) nm = slx c (strR l) := by
    unfold waysV
    split
    · exact ⟨false, _, rfl⟩
    · exact ⟨true, [], rfl⟩
  obtain ⟨c, l, hV⟩ := hV
  rw [hV] at k3 ⊢
  generalize edgN ns ls = es at *
  refine start hC (nf := N464_network_Above) rfl rfl ?_
  simp [N464_network_Above]
  refine callW_of k1 (.inl rfl) ?_
  simp
  refine callFW_of k2 ?_
  simp
  refine loop_of Nat (fun j => [(1, .str nm), (2, .ptr [slx b1 (ns.map nodC), slx b2 (ls.map lnkC)]), (6, .ref (.r 10096) 0 es.length), (14, .ref (.r 10096) 0 es.length), (15, .int .i64 es.length), (16, .int .i64 j), (10096, .blk 2 (trA es j))]) (fun j => j ≤ es.length) (fun j => es.length - j) 0 (by simp) (by simp [trA_0]) ?_
  rintro j hj
  simp
  refine brB_of (fun h => ?_) (fun h => ?_) <;> simp [h] <;> simp at h
  · have hw : IntKind.wrap .i64 ((j : Int) + 1) = ((j + 1 : Nat) : Int) := wrap_i64 (by omega) (by omega)
    have hs := trA_set h
    have hgj : (trA es j)[j]'(by rw [trA_len]; exact h) = [.int .i64 es[j].1, .int .i64 es[j].2] := by
      have := trA_get h
      rw [List.getElem?_eq_getElem (by rw [trA_len]; exact h)] at this
      exact Option.some.inj this
    simp [h, trA_len, rowW_some (trA_get h), trA_get h, hgj, hw]
    exact ⟨j + 1, by omega, by omega, by omega, hs⟩
  · have ej : j = es.length := by omega
    subst ej
    have hV : List.take es.length (List.map (fun e => List.map cellV e) (List.map edK (trn es))) = List.map edK (trn es) := by
      rw [← trA_end, trA_V, List.take_of_length_le (by rw [trA_len]; exact Nat.le_refl _)]
    rw [trA_end, hV]
    refine ⟨by simp [trn], ?_⟩
    refine callW_of k3 (.inr rfl) ?_
    simp
end Go.Gv

set_option linter.unusedSimpArgs false
namespace Go.Gv
def noutW (n : Nat) (out : Nat → Bool) : Nat := wtS (fun v => if out v = true then 0 else 1) n
theorem noutW_step {n : Nat} {out : Nat → Bool} {i : Nat} (hi : i < n) (ho : out i = false) : noutW n out = noutW n (fun u => if u = i then true else out u) + 1 := by
  unfold noutW
  rw [wtS_upd (f := fun v => if out v = true then 0 else 1) (g := fun v => if (if v = i then true else out v) = true then 0 else 1) hi (fun k hk => by simp only [if_neg hk]) (by simp)]
  simp [ho]
variable {C : CC} (hC : Closed prog C)
include hC
set_option maxHeartbeats 4000000 in
theorem rReachF_c {b b' : Bool} {n : Nat} {es : List Edg} (hn : n ≤ 300) (he : es.length ≤ 1000) (hg : inG n es) (fr : List Nat) (hf : ∀ s ∈ fr, s < n) (hl : fr.length ≤ 1000) : C 513 [.int .i64 n, slx b (es.map edK), slx b' (intL fr)] .any [.own 1 (boolA n (rB es fr))] := by
  refine startF hC (nf := N513_ref08_Reach) rfl rfl ?_
  simp [N513_ref08_Reach]
  refine ⟨by omega, ?_⟩
  refine loop_of Nat (fun j => [(1, slx b (es.map edK)), (2, slx b' (intL fr)), (7, .ref (.r 10112) 0 n), (10112, .blk 1 (boolA n fun v => decide (v ∈ fr.take j))), (8, .int .i64 j)]) (fun j => j ≤ fr.length) (fun j => fr.length - j) 0 (by simp) (by simp [boolA, rep_map]) ?_
  rintro j hj
  simp [intL_len]
  refine brB_of (fun h => ?_) (fun h => ?_) <;> simp [h] <;> simp at h
  · have hw : IntKind.wrap .i64 ((j : Int) + 1) = ((j + 1 : Nat) : Int) := wrap_i64 (by omega) (by omega)
    have hfj := hf _ (List.getElem_mem h)
    have hgj : (intL fr)[j]? = some [.int .i64 (fr[j] : Int)] := by simp [intL, h]
    have hb1 : 1 ≤ ((boolA n fun v => decide (v ∈ fr.take j))[fr[j]]'(by rw [boolA_len]; exact hfj)).length := by simp [boolA]
    have hb2 : ((boolA n fun v => decide (v ∈ fr.take j))[fr[j]]'(by rw [boolA_len]; exact hfj)).tail = [] := by simp [boolA]
    have hset := boolA_set (n := n) (v := fr[j]) (fun v => decide (v ∈ fr.take j)) true
    have hnx : (boolA n fun u => if u = fr[j] then true else decide (u ∈ fr.take j)) = boolA n fun v => decide (v ∈ fr.take (j + 1)) := boolA_congr fun v _ => by
      have e0 : decide (v ∈ fr.take (j + 1)) = decide (v ∈ fr.take j ∨ v = fr[j]) := decide_eq_decide.2 (mem_tk h)
      rw [e0]
      by_cases e : v = fr[j]
      · rw [if_pos e]; exact (decide_eq_true (.inr e)).symm
      · rw [if_neg e]; exact decide_eq_decide.2 ⟨.inl, fun h => h.resolve_right e⟩
    simp [idxW_some hgj, hgj, h, intL_len, hfj, boolA_len, hb1, hb2, hw]
    exact ⟨j + 1, by omega, by omega, by rw [← hnx]; exact hset, by omega⟩
  have ej : j = fr.length := by omega
  subst ej
  clear h hj
  rw [List.take_of_length_le (Nat.le_refl fr.length)]
  refine loop_of ((Nat → Bool) × Nat) (fun s => [(1, slx b (es.map edK)), (7, .ref (.r 10112) 0 n), (10112, .blk 1 (boolA n s.1)), (9, .bool (decide (s.2 = 1)))])
    (fun s => (∀ v, s.1 v = true → RR es fr v) ∧ (∀ v ∈ fr, s.1 v = true) ∧ (s.2 ≠ 1 → ∀ u w, (u, w) ∈ es → s.1 u = true → s.1 w = true))
    (fun s => 2 * noutW n s.1 + if s.2 = 1 then 1 else 0) ((fun v => decide (v ∈ fr)), 1) ⟨fun v hv => ⟨v, by simpa using hv, .refl v⟩, fun v hv => by simpa using hv, fun h => absurd rfl h⟩ (by simp) ?_
  rintro ⟨out, more⟩ ⟨i1, i2, i3⟩
  simp only at i1 i2 i3
  simp
  by_cases hmo : more = 1
  rotate_left
  · have hcl := rB_closed i1 i2 (i3 hmo)
    simp [hmo]
    exact ⟨fun r hr c hc => by
      obtain ⟨v, _, rfl⟩ := List.mem_map.1 hr
      simp at hc; subst hc; rfl, by rw [boolA_len], boolA_congr fun v _ => hcl v⟩
  · simp [hmo]
    refine loop_of ((Nat → Bool) × Nat × Nat) (fun s => [(1, slx b (es.map edK)), (7, .ref (.r 10112) 0 n), (10112, .blk 1 (boolA n s.1)), (9, .bool (decide (s.2.1 = 1))), (10, .int .i64 s.2.2)])
      (fun s => s.2.2 ≤ es.length ∧ (∀ v, s.1 v = true → RR es fr v) ∧ (∀ v ∈ fr, s.1 v = true) ∧ (s.2.1 ≠ 1 → noutW n s.1 = noutW n out ∧ ∀ (j : Nat) (h : j < es.length), j < s.2.2 → s.1 es[j].1 = true → s.1 es[j].2 = true) ∧ (s.2.1 = 1 → noutW n s.1 < noutW n out))
      (fun s => es.length - s.2.2) (out, 0, 0) ⟨Nat.zero_le _, i1, i2, fun _ => ⟨rfl, fun j h h2 => absurd h2 (Nat.not_lt_zero _)⟩, fun h => by simp at h⟩ (by simp) ?_
    clear i1 i2 i3
    rintro ⟨o2, m, k⟩ ⟨j0, j1, j2, j3, j4⟩
    simp only at j0 j1 j2 j3 j4
    simp
    refine brB_of (fun h => ?_) (fun h => ?_) <;> simp [h] <;> simp at h
    · have hw : IntKind.wrap .i64 ((k : Int) + 1) = ((k + 1 : Nat) : Int) := wrap_i64 (by omega) (by omega)
      obtain ⟨g1, g2⟩ := hg _ (List.getElem_mem h)
      simp [h, edK, knD, g1, g2, boolA_len, rowW_some (boolA_get o2 g1), boolA_get o2 g1]
      have e1 : (es[k].1, es[k].2) ∈ es := List.getElem_mem h
      cases c1 : o2 es[k].1
      · simp [hw]
        refine ⟨o2, m, k + 1, ⟨by omega, j1, j2, fun hm => ⟨(j3 hm).1, fun j hj hjk h2 => ?_⟩, j4⟩, by omega, rfl, Iff.rfl, by omega⟩
        rcases Nat.lt_succ_iff_lt_or_eq.1 hjk with h3 | rfl
        · exact (j3 hm).2 j hj h3 h2
        · rw [c1] at h2; cases h2
      · simp [h, edK, knD, g1, g2, boolA_len, rowW_some (boolA_get o2 g2), boolA_get o2 g2]
        cases c2 : o2 es[k].2
        · have hb1 : 1 ≤ ((boolA n o2)[es[k].2]'(by rw [boolA_len]; exact g2)).length := by simp [boolA]
          have hb2 : ((boolA n o2)[es[k].2]'(by rw [boolA_len]; exact g2)).tail = [] := by simp [boolA]
          have hset := boolA_set (n := n) (v := es[k].2) o2 true
          have hst := noutW_step g2 c2
          simp [h, edK, knD, g2, boolA_len, hb1, hb2, hw]
          refine ⟨fun u => if u = es[k].2 then true else o2 u, 1, k + 1, ⟨by omega, fun v hv => ?_, fun v hv => ?_, fun hm => absurd rfl hm, fun _ => ?_⟩, by omega, hset, rfl, by omega⟩
          · by_cases e : v = es[k].2
            · rw [e]
              obtain ⟨s0, hs0, hp⟩ := j1 _ c1
              exact ⟨s0, hs0, hp.snoc e1⟩
            · simp only [if_neg e] at hv; exact j1 v hv
          · simp only; split
            · rfl
            · exact j2 v hv
          · by_cases e : m = 1
            · have := j4 e; omega
            · have := (j3 e).1; omega
        · simp [hw]
          refine ⟨o2, m, k + 1, ⟨by omega, j1, j2, fun hm => ⟨(j3 hm).1, fun j hj hjk h2 => ?_⟩, j4⟩, by omega, rfl, Iff.rfl, by omega⟩
          rcases Nat.lt_succ_iff_lt_or_eq.1 hjk with h3 | rfl
          · exact (j3 hm).2 j hj h3 h2
          · exact c2
    · have ek : k = es.length := by omega
      subst ek
      refine ⟨o2, m, ⟨j1, j2, fun hm u w e hu => ?_⟩, ?_, rfl, Iff.rfl⟩
      · obtain ⟨j, hj, ej⟩ := List.getElem_of_mem e
        have := (j3 hm).2 j hj hj
        rw [ej] at this
        exact this hu
      · by_cases e : m = 1
        · have := j4 e; simp only [if_pos e, if_pos hmo]; omega
        · have := (j3 e).1; simp only [if_neg e, if_pos hmo]; omega
end Go.Gv

set_option linter.unusedSimpArgs false
namespace Go.Gv
theorem trA_get2 {es : List Edg} {j : Nat} (h : j < es.length) : (trA es (j + 1))[j]? = some [.int .i64 es[j].2, .int .i64 es[j].1] := by
  simp [trA, h, edK, knD]
theorem intL_V (l : List Nat) : List.map (fun e => List.map cellV e) (intL l) = intL l := by
  unfold intL
  rw [List.map_map]
  apply List.map_congr_left
  intro v _
  simp [cellV]
/-- What is upstream of node x, in the turned graph. -/
noncomputable def upsR (es : List Edg) (x : Nat) : Nat → Bool := rB (trn es) (tgs (trn es) x)
variable {C : CC} (hC : Closed prog C)
include hC
set_option maxHeartbeats 2000000 in
theorem rWaysF_c (b1 b2 : Bool) (ns : List Nod) (ls : List Lnk) (x : Nat) (hv : netOk ns ls = true) : C 502 [.agg [slx b1 (ns.map nodC), slx b2 (ls.map lnkC)], .int .i64 x, .bool true] .any [.own 1 (boolA ns.length (upsR (edgN ns ls) x))] := by
  have k2 := rEdgesF_c hC b1 b2 ns ls hv
  obtain ⟨l1, l2⟩ := netOk_len hv
  have hg := trn_in (edgN_in hv)
  have hel := edgN_len ns ls
  have hgl := tgs_len (trn (edgN ns ls)) x
  have htl := trn_len (edgN ns ls)
  have k3 := rReachF_c hC (b := false) (b' := false) l1 (es := trn (edgN ns ls)) (by omega) hg (tgs (trn (edgN ns ls)) x) (fun s hs => (hg _ (mem_tgs.1 hs)).2) (by omega)
  simp only [slx_false] at k3
  unfold upsR
  generalize edgN ns ls = es at *
  refine startF hC (nf := N502_ref26_Ways) rfl rfl ?_
  simp [N502_ref26_Ways]
  refine callFW_of k2 ?_
  simp
  refine loop_of Nat (fun j => [(1, .int .i64 x), (2, .bool true), (3, .ptr [slx b1 (ns.map nodC), slx b2 (ls.map lnkC)]), (7, .ref (.r 10112) 0 es.length), (10112, .blk 2 (trA es j)), (8, .ref (.r 10128) 0 (tgs ((trn es).take j) x).length), (10128, .blk 1 (intL (tgs ((trn es).take j) x))), (9, .int .i64 j)]) (fun j => j ≤ es.length) (fun j => es.length - j) 0 (by simp) (by simp [trA_0, tgs, intL]) ?_
  rintro j hj
  simp
  refine brB_of (fun h => ?_) (fun h => ?_) <;> simp [h] <;> simp at h
  · have hw : IntKind.wrap .i64 ((j : Int) + 1) = ((j + 1 : Nat) : Int) := wrap_i64 (by omega) (by omega)
    have hs := trA_set h
    have hgj : (trA es j)[j]'(by rw [trA_len]; exact h) = [.int .i64 es[j].1, .int .i64 es[j].2] := by
      have := trA_get h
      rw [List.getElem?_eq_getElem (by rw [trA_len]; exact h)] at this
      exact Option.some.inj this
    have hjt : j < (trn es).length := by omega
    have ht := tgs_take hjt x
    have e0 : (trn es)[j] = (es[j].2, es[j].1) := by simp [trn]
    rw [e0] at ht
    have hl1 := tgs_len ((trn es).take j) x
    have hl2 : ((trn es).take j).length = j := by simp; omega
    generalize tgs ((trn es).take j) x = T at *
    have hT : (intL T).take T.length = intL T := List.take_of_length_le (by rw [intL_len]; exact Nat.le_refl _)
    simp [h, trA_len, rowW_some (trA_get h), trA_get h, hgj, hs]
    refine ⟨indW_of (by decide +kernel), ?_⟩
    simp [rowW_some (trA_get2 h), trA_get2 h]
    by_cases c : es[j].2 = x
    · rw [if_pos c] at ht
      simp [c, h, trA_len, rowW_some (trA_get2 h), trA_get2 h]
      refine ⟨by rw [intL_len]; exact Nat.le_refl _, by omega, ?_⟩
      simp [hw]
      refine ⟨j + 1, by omega, by omega, ?_⟩
      rw [ht, hT]
      simp [intL]
    · rw [if_neg c, List.append_nil] at ht
      have c' : ¬ (es[j].2 : Int) = x := by omega
      simp [c, c', hw]
      exact ⟨j + 1, by omega, by omega, by rw [ht]; simp⟩
  · have ej : j = es.length := by omega
    subst ej
    have e1 : (trn es).take es.length = trn es := by rw [← htl, List.take_length]
    have hV : List.take es.length (List.map (fun e => List.map cellV e) (trA es es.length)) = List.map edK (trn es) := by
      rw [trA_V, List.take_of_length_le (by rw [trA_len]; exact Nat.le_refl _), trA_end]
    have hV2 : List.take (tgs (trn es) x).length (List.map (fun e => List.map cellV e) (intL (tgs (trn es) x))) = intL (tgs (trn es) x) := by
      rw [intL_V, List.take_of_length_le (by rw [intL_len]; exact Nat.le_refl _)]
    simp [trA_len, intL_len, e1, hV, hV2]
    refine callFW_of k3 ?_
    simp [boolA_len]
    exact fun r hr c hc => by
      obtain ⟨v, _, rfl⟩ := List.mem_map.1 hr
      simp at hc; subst hc; rfl
/-- What is upstream of a link's source, itself too. -/
noncomputable def upX (ns : List Nod) (ls : List Lnk) (x v : Nat) : Bool := if v = x then true else upsR (edgN ns ls) x v
theorem edgN_src {ns : List Nod} {ls : List Lnk} (hv : netOk ns ls = true) {k : Nat} (hk : k < ls.length) : idxD (nodIs ls[k].src) ns = (((edgN ns ls)[k]'(by rw [edgN_len]; exact hk)).1 : Nat) := by
  obtain ⟨_, _, g1, g2⟩ := netOk_lnk hv hk
  simp only [edgN, List.getElem_map]
  omega
set_option maxHeartbeats 2000000 in
theorem rUpper_c (b1 b2 : Bool) (ns : List Nod) (ls : List Lnk) (k : Nat) (hv : netOk ns ls = true) (hk : k < ls.length) : C 468 [.agg [slx b1 (ns.map nodC), slx b2 (ls.map lnkC)], .int .i64 k] (.sl (boolA ns.length (upX ns ls ((edgN ns ls)[k]'(by rw [edgN_len]; exact hk)).1))) [] := by
  obtain ⟨l1, l2⟩ := netOk_len hv
  have k1 := rNode_c hC b1 b2 ns ls ls[k].src (by omega)
  have hx := (edgN_in hv _ (List.getElem_mem (show k < (edgN ns ls).length by rw [edgN_len]; exact hk))).1
  rw [edgN_src hC hv hk] at k1
  have k2 := rWaysF_c hC b1 b2 ns ls ((edgN ns ls)[k]'(by rw [edgN_len]; exact hk)).1 hv
  unfold upX
  generalize ((edgN ns ls)[k]'(by rw [edgN_len]; exact hk)).1 = x at *
  generalize upsR (edgN ns ls) x = f at *
  have hb1 : 1 ≤ ((boolA ns.length f)[x]'(by rw [boolA_len]; exact hx)).length := by simp [boolA]
  have hb2 : ((boolA ns.length f)[x]'(by rw [boolA_len]; exact hx)).tail = [] := by simp [boolA]
  have hset := boolA_set (n := ns.length) (v := x) f true
  refine start hC (nf := N468_ref30_Upper) rfl rfl ?_
  simp [N468_ref30_Upper, hk, lnkC]
  refine callW_of k1 (.inl rfl) ?_
  simp
  refine ⟨indW_of (by decide +kernel), ?_⟩
  refine callFW_of k2 ?_
  simp [boolA_len, hx, hb1, hb2, hset]
  rw [boolA_V, List.take_of_length_le (by rw [boolA_len]; exact Nat.le_refl _)]
set_option maxHeartbeats 2000000 in
theorem rUpperF_c (b1 b2 : Bool) (ns : List Nod) (ls : List Lnk) (k : Nat) (hv : netOk ns ls = true) (hk : k < ls.length) : C 468 [.agg [slx b1 (ns.map nodC), slx b2 (ls.map lnkC)], .int .i64 k] .any [.own 1 (boolA ns.length (upX ns ls ((edgN ns ls)[k]'(by rw [edgN_len]; exact hk)).1))] := by
  obtain ⟨l1, l2⟩ := netOk_len hv
  have k1 := rNode_c hC b1 b2 ns ls ls[k].src (by omega)
  have hx := (edgN_in hv _ (List.getElem_mem (show k < (edgN ns ls).length by rw [edgN_len]; exact hk))).1
  rw [edgN_src hC hv hk] at k1
  have k2 := rWaysF_c hC b1 b2 ns ls ((edgN ns ls)[k]'(by rw [edgN_len]; exact hk)).1 hv
  unfold upX
  generalize ((edgN ns ls)[k]'(by rw [edgN_len]; exact hk)).1 = x at *
  generalize upsR (edgN ns ls) x = f at *
  have hb1 : 1 ≤ ((boolA ns.length f)[x]'(by rw [boolA_len]; exact hx)).length := by simp [boolA]
  have hb2 : ((boolA ns.length f)[x]'(by rw [boolA_len]; exact hx)).tail = [] := by simp [boolA]
  have hset := boolA_set (n := ns.length) (v := x) f true
  refine startF hC (nf := N468_ref30_Upper) rfl rfl ?_
  simp [N468_ref30_Upper, hk, lnkC]
  refine callW_of k1 (.inl rfl) ?_
  simp
  refine ⟨indW_of (by decide +kernel), ?_⟩
  refine callFW_of k2 ?_
  simp [boolA_len, hx, hb1, hb2, hset]
  exact fun r hr c hc => by
    obtain ⟨v, _, rfl⟩ := List.mem_map.1 hr
    simp at hc; subst hc; rfl
end Go.Gv

set_option linter.unusedSimpArgs false
namespace Go.Gv
def bigNod (n : Nod) : Bool := decide (110 < n.shape.length) || decide (100 < n.name.length)
def bigLnk (l : Lnk) : Bool := decide (110 < l.curve.length) || decide (100 < l.name.length) || decide (100 < l.src.length) || decide (100 < l.dst.length) || decide (100 < l.sect.length)
def bigSec (s : Sec) : Bool := decide (110 < s.area.length) || decide (110 < s.conv.length) || decide (100 < s.name.length)
def large30 (ns : List Nod) (ls : List Lnk) (ss : List Sec) (k : Nat) : Bool := decide (12 < ns.length) || decide (20 < ls.length) || decide (12 < ss.length) || decide (25 < k) || ns.any bigNod || ls.any bigLnk || ss.any bigSec
def exNod (nm : UInt8) : Nod := ⟨[nm], 1, 0, 0, 0, 9, false, [(0, 0), (9, 5)], false, 0⟩
def exLnk (nm a b : UInt8) : Lnk := ⟨[nm], [a], [b], 1, 5, 3, 0, [115], 0, 0, true, []⟩
def exN : List Nod := [exNod 97, exNod 98, ⟨[111], 3, 0, 0, 0, 0, true, [], false, 0⟩]
def exL : List Lnk := [exLnk 112 97 98, exLnk 113 98 111]
variable {C : CC} (hC : Closed prog C)
include hC
theorem bigNod_c (n : Nod) : C 454 [.agg (nodC n)] (.bool (bigNod n)) [] := by
  refine start hC (nf := N454_law30_large_1) rfl rfl ?_
  simp [N454_law30_large_1, nodC]
  unfold bigNod
  by_cases h1 : (110 : Int) < n.shape.length
  · simp [h1, show 110 < n.shape.length by omega]
  · simp [h1, show ¬ 110 < n.shape.length by omega]
    omega
theorem bigLnk_c (l : Lnk) : C 456 [.agg (lnkC l)] (.bool (bigLnk l)) [] := by
  refine start hC (nf := N456_law30_large_2) rfl rfl ?_
  simp [N456_law30_large_2, lnkC]
  unfold bigLnk
  by_cases h1 : (110 : Int) < l.curve.length
  · simp [h1, show 110 < l.curve.length by omega]
  by_cases h2 : (100 : Int) < l.name.length
  · simp [h1, h2, show 100 < l.name.length by omega]
  by_cases h3 : (100 : Int) < l.src.length
  · simp [h1, h2, h3, show 100 < l.src.length by omega]
  by_cases h4 : (100 : Int) < l.dst.length
  · simp [h1, h2, h3, h4, show 100 < l.dst.length by omega]
  simp [h1, h2, h3, h4, show ¬ 110 < l.curve.length by omega, show ¬ 100 < l.name.length by omega, show ¬ 100 < l.src.length by omega, show ¬ 100 < l.dst.length by omega]
  omega
theorem bigSec_c (s : Sec) : C 457 [.agg (secC s)] (.bool (bigSec s)) [] := by
  refine start hC (nf := N457_law30_large_3) rfl rfl ?_
  simp [N457_law30_large_3, secC]
  unfold bigSec
  by_cases h1 : (110 : Int) < s.area.length
  · simp [h1, show 110 < s.area.length by omega]
  by_cases h2 : (110 : Int) < s.conv.length
  · simp [h1, h2, show 110 < s.conv.length by omega]
  simp [h1, h2, show ¬ 110 < s.area.length by omega, show ¬ 110 < s.conv.length by omega]
  omega
theorem large30_c (b1 b2 b3 b4 : Bool) (ns : List Nod) (ls : List Lnk) (ss : List Sec) (q : List Sp) (h1 : ns.length < 2 ^ 62) (h2 : ls.length < 2 ^ 62) (h3 : ss.length < 2 ^ 62) : C 426 [.agg [slx b1 (ns.map nodC), slx b2 (ls.map lnkC)], slx b3 (ss.map secC), slx b4 (q.map knD)] (.bool (large30 ns ls ss q.length)) [] := by
  have k1 := hasNod_c hC (b := b1) (xs := ns) (g := 454) (cs := []) bigNod h1 (fun x _ => bigNod_c hC x)
  have k2 := hasLnk_c hC (b := b2) (xs := ls) (g := 456) (cs := []) bigLnk h2 (fun x _ => bigLnk_c hC x)
  have k3 := hasSec_c hC (b := b3) (xs := ss) (g := 457) (cs := []) bigSec h3 (fun x _ => bigSec_c hC x)
  refine start hC (nf := N426_law30_large) rfl rfl ?_
  simp [N426_law30_large]
  unfold large30
  by_cases c1 : (12 : Int) < ns.length
  · simp [c1, show 12 < ns.length by omega]
  by_cases c2 : (20 : Int) < ls.length
  · simp [c1, c2, show 20 < ls.length by omega]
  by_cases c3 : (12 : Int) < ss.length
  · simp [c1, c2, c3, show 12 < ss.length by omega]
  by_cases c4 : (25 : Int) < q.length
  · simp [c1, c2, c3, c4, show 25 < q.length by omega]
  simp [c1, c2, c3, c4, show ¬ 12 < ns.length by omega, show ¬ 20 < ls.length by omega, show ¬ 12 < ss.length by omega, show ¬ 25 < q.length by omega]
  refine callW_of k1 (.inl rfl) ?_
  cases d1 : ns.any bigNod
  · simp
    refine callW_of k2 (.inl rfl) ?_
    cases d2 : ls.any bigLnk
    · simp
      refine callW_of k3 (.inl rfl) ?_
      simp
      intro h; omega
    · simp
  · simp
theorem exNode_c (nm : UInt8) : C 486 [.str [nm]] (.agg (nodC (exNod nm))) [] := by
  refine start hC (nf := N486_law30_example_1) rfl rfl ?_
  simp [N486_law30_example_1, nodC, exNod, knD]
theorem exLink_c (nm a b : UInt8) : C 487 [.str [nm], .str [a], .str [b]] (.agg (lnkC (exLnk nm a b))) [] := by
  refine start hC (nf := N487_law30_example_2) rfl rfl ?_
  simp [N487_law30_example_2, lnkC, exLnk, knD]
  rfl
theorem ex30_c : C 452 [] (.agg [.sl (exN.map nodC), .sl (exL.map lnkC)]) [] := by
  have k1 := exNode_c hC 97
  have k2 := exNode_c hC 98
  have k3 := exLink_c hC 112 97 98
  have k4 := exLink_c hC 113 98 111
  have e0 : slx true ([] : List (List D)) = .nils := rfl
  simp [nodC, exNod, knD] at k1 k2
  simp [lnkC, exLnk, e0] at k3 k4
  refine start hC (nf := N452_law30_example) rfl rfl ?_
  simp [N452_law30_example]
  refine callW_of k1 (.inr rfl) ?_
  simp
  refine callW_of k2 (.inr rfl) ?_
  simp
  refine callW_of k3 (.inr rfl) ?_
  simp
  refine callW_of k4 (.inr rfl) ?_
  simp
  exact ⟨rfl, rfl⟩
theorem eqSp_c (b b' : Bool) (xs ys : List (Int × Int)) (hx : xs.length < 2 ^ 62) (hy : ys.length < 2 ^ 62) : C 434 [slx b (xs.map knD), slx b' (ys.map knD)] (.bool (decide (xs = ys))) [] := by
  obtain ⟨r, hr⟩ : ∃ r, r = decide (xs = ys) := ⟨_, rfl⟩
  rw [← hr]
  refine start hC (nf := N434_slices_Equal__api_Span_api_Span) rfl rfl ?_
  simp [N434_slices_Equal__api_Span_api_Span]
  refine brB_of (fun h => ?_) (fun h => ?_) <;> simp at h <;> simp [h]
  · rw [hr, decide_eq_false]
    intro e
    exact h (by rw [e])
  have h' : xs.length = ys.length := by omega
  refine loop_of Nat (fun i => [(0, slx b (xs.map knD)), (1, slx b' (ys.map knD)), (12, .int .i64 xs.length), (13, .int .i64 i)])
    (fun i => i ≤ xs.length ∧ ∀ (k : Nat) (h1 : k < xs.length) (h2 : k < ys.length), k < i → xs[k] = ys[k]) (fun i => xs.length - i) 0 (by simp) (by simp [h']) ?_
  rintro i ⟨hi, hok⟩
  simp
  refine brB_of (fun h1 => ?_) (fun h1 => ?_) <;> simp at h1 <;> simp [h1]
  · have hw : IntKind.wrap .i64 ((i : Int) + 1) = ((i + 1 : Nat) : Int) := wrap_i64 (by omega) (by omega)
    have hy1 : i < ys.length := by omega
    simp [h1, hy1, knD]
    refine ⟨indW_of (by decide +kernel), ?_⟩
    by_cases h2 : xs[i] = ys[i]
    · simp [h2, hw]
      refine ⟨i + 1, ⟨by omega, fun k k1 k2 hk => ?_⟩, by omega, rfl⟩
      rcases Nat.lt_succ_iff_lt_or_eq.1 hk with h5 | rfl
      · exact hok k k1 k2 h5
      · exact h2
    · have h3 : ¬ (xs[i].1 = ys[i].1 ∧ xs[i].2 = ys[i].2) := fun e => h2 (Prod.ext e.1 e.2)
      refine brB_of (fun h4 => ?_) (fun h4 => ?_) <;> simp at h4 <;> simp [h4]
      · rw [hr, decide_eq_false]
        intro e
        exact h2 (by simp [e])
      · exact absurd h4 h3
  · rw [hr, decide_eq_true]
    exact List.ext_getElem h' fun k k1 k2 => hok k k1 k2 (by omega)
theorem awake30_c (hS : SlC C) : C 425 [] (.bool true) [] := by
  have k1 := ex30_c hC
  have k2 := Flows_c hC hS false false false exN exL [(1, 2), (3, 5), (0, 9)] (by decide) (by decide) (by decide)
  have k3 := sTree_c hC hS false false exN exL (by decide) (by decide)
  have e1 : FlowsE exN exL [(1, 2), (3, 5), (0, 9)] = 0 := by decide +kernel
  have e2 : flowsF exN.length (edgN exN exL) [(1, 2), (3, 5), (0, 9)] = [(1, 2), (4, 7)] := by decide +kernel
  have e3 : treeN exN exL = true := by decide +kernel
  have k4 := eqSp_c hC false false [(1, 2), (4, 7)] [(1, 2), (4, 7)] (by decide) (by decide)
  rw [FlowsV, e1, if_pos rfl, e2] at k2
  rw [e3] at k3
  simp only [slx_false] at k2 k3 k4
  refine start hC (nf := N425_law30_awake) rfl rfl ?_
  simp [N425_law30_awake]
  refine callW_of k1 (.inr rfl) ?_
  simp [knD] at k2 ⊢
  refine callW_of k2 (.inr rfl) ?_
  simp
  refine callW_of k1 (.inr rfl) ?_
  simp
  refine callW_of k3 (.inl rfl) ?_
  simp [knD] at k4 ⊢
  refine callW_of k4 (.inl rfl) ?_
  simp
end Go.Gv

set_option linter.unusedSimpArgs false
namespace Go.Gv
variable {C : CC} (hC : Closed prog C)
include hC
end Go.Gv

set_option linter.unusedSimpArgs false
namespace Go.Gv
structure DepthOk (s : Sec) (fall len : Int) (y : Sp) : Prop where
  lo : 0 ≤ y.1
  hi : y.1 ≤ s.height
  fl : y.2 ≤ 1099511627776
  yes : y.2 ≤ (carF s y.1 fall len : Int)
  no : 0 < y.1 → (carF s (y.1 - 1) fall len : Int) < y.2
theorem DepthOk.cap {s : Sec} {fall len : Int} {y : Sp} (h : DepthOk s fall len y) (hs : secValid s = true) (hf : slopeOk fall len = true) : (capF s y.1 fall len).2 = 5 ∨ ((capF s y.1 fall len).2 = 0 ∧ y.2 ≤ (capF s y.1 fall len).1) := by
  have := h.yes
  unfold capF
  rw [if_pos hs, if_pos ⟨h.lo, h.hi, hf⟩]
  split
  · exact .inl rfl
  · exact .inr ⟨rfl, this⟩
variable {C : CC} (hC : Closed prog C)
include hC
end Go.Gv

set_option linter.unusedSimpArgs false
namespace Go.Gv
variable {C : CC} (hC : Closed prog C)
include hC
end Go.Gv

set_option linter.unusedSimpArgs false
namespace Go.Gv
def ptN (at' : List Int) (i : Nat) (s : Sp) : Int := if at'.length = 0 then s.1 else s.1 + at'[i % at'.length]! % (s.2 - s.1 + 1)
def ptS (at' : List Int) (i : Nat) (s : Sp) : Sp := (ptN at' i s, ptN at' i s)
def ptL (at' : List Int) (q : List Sp) : List Sp := (List.range q.length).map fun i => ptS at' i q[i]!
def insS (a b : Sp) : Bool := decide (b.1 ≤ a.1) && decide (a.2 ≤ b.2)
variable {C : CC} (hC : Closed prog C)
include hC
end Go.Gv

set_option linter.unusedSimpArgs false
namespace Go.Gv
/-- Spans of single numbers within spans. -/
structure FlIn (a b : List Sp) : Prop where
  len : b.length = a.length
  get : ∀ (i : Nat) (h : i < a.length) (h' : i < b.length), 0 ≤ a[i].1 ∧ a[i].1 ≤ b[i].1 ∧ b[i].1 = b[i].2 ∧ b[i].2 ≤ a[i].2
theorem bang {l : List Sp} {v : Nat} (h : v < l.length) : l[v]! = l[v] := getElem!_pos l v h
theorem bigF_of {fl : List Sp} (h : ∀ s ∈ fl, s.2 ≤ 1099511627776) : bigF fl = false := by
  unfold bigF
  rw [List.any_eq_false]
  intro s hs
  have := h s hs
  simp
  omega
end Go.Gv

set_option linter.unusedSimpArgs false
namespace Go.Gv
theorem Pth.wat {es : List Edg} (hnd : (es.map (·.1)).Nodup) {v x : Nat} (h : Pth es v x) : ∃ m, wat es m v = some x := by
  have cons : ∀ {u v : Nat}, (u, v) ∈ es → ∀ m, Go.Gv.wat es (m + 1) u = Go.Gv.wat es m v := fun {u v} e m => by
    induction m with
    | zero => show (some u).bind (stp es) = some v; exact stp_of hnd e
    | succ m ih =>
      show (Go.Gv.wat es (m + 1) u).bind (stp es) = (Go.Gv.wat es m v).bind (stp es)
      rw [ih]
  induction h with
  | refl v => exact ⟨0, rfl⟩
  | step e _ ih =>
    obtain ⟨m, hm⟩ := ih
    exact ⟨m + 1, by rw [cons e]; exact hm⟩
theorem wat_Pth {es : List Edg} {v : Nat} : ∀ {m x : Nat}, wat es m v = some x → Pth es v x
  | 0, x, h => by simp [wat] at h; subst h; exact .refl v
  | m + 1, x, h => by
    unfold wat at h
    cases e : wat es m v with
    | none => rw [e] at h; cases h
    | some y =>
      rw [e] at h
      exact (wat_Pth e).snoc (stp_some h)
theorem Pth.turn {es : List Edg} {v x : Nat} (h : Pth es v x) : Pth (trn es) x v := by
  induction h with
  | refl v => exact .refl v
  | step e _ ih => exact ih.snoc (List.mem_map.2 ⟨_, e, rfl⟩)
theorem Pth.turn2 {es : List Edg} {v x : Nat} (h : Pth (trn es) x v) : Pth es v x := by
  have := h.turn
  have e : trn (trn es) = es := by
    unfold trn
    rw [List.map_map]
    exact List.map_id es
  rwa [e] at this
theorem upX_eq {n : Nat} {es : List Edg} (hg : inG n es) (ht : treeF n es = true) {x v : Nat} (hv : v < n) : (if v = x then true else upsR es x v) = upB n es v x := by
  simp only [treeF, Bool.and_eq_true, decide_eq_true_eq] at ht
  obtain ⟨hnd, hlen⟩ := ht
  have key : upB n es v x = true ↔ Pth es v x := by
    unfold upB
    rw [List.any_eq_true]
    constructor
    · rintro ⟨m, _, e⟩
      exact wat_Pth (by simpa using e)
    · intro h
      obtain ⟨m, hm⟩ := h.wat hnd
      refine ⟨m, ?_, by simp [hm]⟩
      rw [List.mem_range]
      have := wat_rank hg hlen hm
      by_cases e : m = 0
      · omega
      · have := this.2 e; omega
  rw [Bool.eq_iff_iff, key]
  by_cases e : v = x
  · rw [if_pos e, e]
    exact ⟨fun _ => .refl x, fun _ => rfl⟩
  · rw [if_neg e]
    unfold upsR
    rw [rB_iff]
    constructor
    · rintro ⟨s, hs, hp⟩
      exact (Pth.step (mem_tgs.1 hs) hp).turn2
    · intro h
      have h2 := h.turn
      cases h2 with
      | refl => exact absurd rfl e
      | step e2 h3 => exact ⟨_, mem_tgs.2 e2, h3⟩
def sumSp (q : List Sp) (f : Nat → Bool) (k : Nat) : Sp := (sumF (fun v => if f v = true then q[v]!.1 else 0) k, sumF (fun v => if f v = true then q[v]!.2 else 0) k)
theorem sumSp_rng {q : List Sp} {f : Nat → Bool} (hq : ∀ s ∈ q, 0 ≤ s.1 ∧ s.1 ≤ s.2 ∧ s.2 ≤ 1099511627776) : ∀ {k : Nat}, k ≤ q.length → 0 ≤ (sumSp q f k).1 ∧ (sumSp q f k).1 ≤ k * 1099511627776 ∧ 0 ≤ (sumSp q f k).2 ∧ (sumSp q f k).2 ≤ k * 1099511627776
  | 0, _ => by simp [sumSp, sumF]
  | k + 1, h => by
    have ih := sumSp_rng hq (k := k) (f := f) (by omega)
    have := hq _ (List.getElem_mem (show k < q.length by omega))
    simp only [sumSp, sumF] at ih ⊢
    rw [bang (show k < q.length by omega)]
    by_cases c : f k = true
    · rw [if_pos c, if_pos c]; push_cast; omega
    · rw [if_neg c, if_neg c]; push_cast; omega
variable {C : CC} (hC : Closed prog C)
include hC
theorem rNames_c (b1 b2 : Bool) (ns : List Nod) (ls : List Lnk) (f : Nat → Bool) (hn : ns.length ≤ 300) : C 469 [.agg [slx b1 (ns.map nodC), slx b2 (ls.map lnkC)], .sl (boolA ns.length f)] (.sl (strR (nmT ns f ns.length))) [] := by
  refine start hC (nf := N469_ref26_Names) rfl rfl ?_
  simp [N469_ref26_Names]
  refine loop_of Nat (fun j => [(1, .sl (boolA ns.length f)), (2, .ptr [slx b1 (ns.map nodC), slx b2 (ls.map lnkC)]), (5, .ref (.r 10080) 0 (nmT ns f j).length), (10080, .blk 1 (strR (nmT ns f j))), (6, .int .i64 j)]) (fun j => j ≤ ns.length) (fun j => ns.length - j) 0 (by simp) (by simp [nmT, strR]) ?_
  rintro j hj
  simp
  refine brB_of (fun h => ?_) (fun h => ?_) <;> simp [h] <;> simp at h
  · have hw : IntKind.wrap .i64 ((j : Int) + 1) = ((j + 1 : Nat) : Int) := wrap_i64 (by omega) (by omega)
    have ht : nmT ns f (j + 1) = nmT ns f j ++ (if f j = true then [nodNm ns j] else []) := rfl
    rw [nodNm_get h] at ht
    have hl1 := nmT_len ns f j
    generalize nmT ns f j = T at *
    have hT : (strR T).take T.length = strR T := List.take_of_length_le (by rw [strR_len]; exact Nat.le_refl _)
    simp [h, boolA_len, idxW_some (boolA_get f h), boolA_get f h]
    by_cases c : f j = true
    · rw [if_pos c] at ht
      simp [c, h, nodC]
      refine ⟨by rw [strR_len]; exact Nat.le_refl _, by omega, ?_⟩
      simp [hw]
      refine ⟨j + 1, by omega, by omega, ?_⟩
      rw [ht, hT]
      simp [strR]
    · rw [if_neg c, List.append_nil] at ht
      have c' : f j = false := by simpa using c
      simp [c', hw]
      exact ⟨j + 1, by omega, by omega, by rw [ht]; simp⟩
  · have ej : j = ns.length := by omega
    subst ej
    rw [strR_V, List.take_of_length_le (by rw [strR_len]; exact Nat.le_refl _)]
    exact ⟨by rw [strR_len]; exact Nat.le_refl _, rfl⟩
set_option maxHeartbeats 4000000 in
theorem rAll_c (b1 b2 b : Bool) (ns : List Nod) (ls : List Lnk) (q : List Sp) (ht : treeN ns ls = true) (hq : q.length = ns.length) (hqr : ∀ s ∈ q, 0 ≤ s.1 ∧ s.1 ≤ s.2 ∧ s.2 ≤ 1099511627776) : C 466 [.agg [slx b1 (ns.map nodC), slx b2 (ls.map lnkC)], slx b (q.map knD)] (.tup [if bigF (flowsF ns.length (edgN ns ls) q) then .nils else .sl ((flowsF ns.length (edgN ns ls) q).map knD), .bool (!bigF (flowsF ns.length (edgN ns ls) q))]) [] := by
  have ht2 := ht
  simp only [treeN, Bool.and_eq_true] at ht2
  obtain ⟨⟨hv, _⟩, htf⟩ := ht2
  obtain ⟨l1, l2⟩ := netOk_len hv
  have hg := edgN_in hv
  have hel := edgN_len ns ls
  have hl1 : ∀ v, v < ns.length → 0 ≤ q[v]!.1 ∧ q[v]!.1 ≤ q[v]!.2 ∧ q[v]!.2 ≤ 1099511627776 := fun v hv => by
    rw [bang (by omega)]
    exact hqr _ (List.getElem_mem _)
  have k1 := fun k (hk : k < ls.length) => rUpper_c hC b1 b2 ns ls k hv hk
  have hfl : ∀ (k : Nat) (hk : k < ls.length), (flowsF ns.length (edgN ns ls) q)[k]? = some (sumSp q (upX ns ls ((edgN ns ls)[k]'(by rw [edgN_len]; exact hk)).1) ns.length) := fun k hk => by
    have hke : k < (edgN ns ls).length := by rw [edgN_len]; exact hk
    have f1 := flow_up l1 hg htf hl1 hke
    have hkl : k < (flowsF ns.length (edgN ns ls) q).length := by simp [flowsF, hel, hk]
    rw [bang hkl] at f1
    rw [List.getElem?_eq_getElem hkl, f1]
    congr 1
    unfold sumSp upS
    have e : ∀ v, v < ns.length → upX ns ls ((edgN ns ls)[k]'(by rw [edgN_len]; exact hk)).1 v = upB ns.length (edgN ns ls) v (edgN ns ls)[k].1 := fun v hv => upX_eq hg htf hv
    rw [sumF_congr (f := fun v => if upB ns.length (edgN ns ls) v (edgN ns ls)[k].1 = true then q[v]!.1 else 0) (g := fun v => if upX ns ls ((edgN ns ls)[k]'(by rw [edgN_len]; exact hk)).1 v = true then q[v]!.1 else 0) (fun v hv => by rw [e v hv])]
    rw [sumF_congr (f := fun v => if upB ns.length (edgN ns ls) v (edgN ns ls)[k].1 = true then q[v]!.2 else 0) (g := fun v => if upX ns ls ((edgN ns ls)[k]'(by rw [edgN_len]; exact hk)).1 v = true then q[v]!.2 else 0) (fun v hv => by rw [e v hv])]
  have hfll : (flowsF ns.length (edgN ns ls) q).length = ls.length := by simp [flowsF, hel]
  generalize flowsF ns.length (edgN ns ls) q = fl at *
  refine start hC (nf := N466_ref30_All) rfl rfl ?_
  simp [N466_ref30_All]
  refine loop_of Nat (fun i => [(1, slx b (q.map knD)), (2, .ptr [slx b1 (ns.map nodC), slx b2 (ls.map lnkC)]), (6, .ref (.r 10096) 0 i), (10096, .blk 2 (spT fl i)), (7, .int .i64 i)]) (fun i => i ≤ ls.length ∧ ∀ (j : Nat) (h : j < fl.length), j < i → fl[j].2 ≤ 1099511627776) (fun i => ls.length - i) 0 (by simp) (by simp [spT]) ?_
  rintro i ⟨hi, hj⟩
  simp
  refine brB_of (fun h => ?_) (fun h => ?_) <;> simp [h] <;> simp at h
  · have hw : IntKind.wrap .i64 ((i : Int) + 1) = ((i + 1 : Nat) : Int) := wrap_i64 (by omega) (by omega)
    have hif : i < fl.length := by omega
    have k2 := k1 i h
    have hfi := hfl i h
    rw [List.getElem?_eq_getElem hif] at hfi
    have hfi := Option.some.inj hfi
    refine callW_of k2 (.inr rfl) ?_
    generalize upX ns ls ((edgN ns ls)[i]'(by rw [edgN_len]; exact h)).1 = f at *
    simp
    refine loop_of Nat (fun k => [(1, slx b (q.map knD)), (2, .ptr [slx b1 (ns.map nodC), slx b2 (ls.map lnkC)]), (6, .ref (.r 10096) 0 i), (10096, .blk 2 (spT fl i)), (7, .int .i64 i), (8, .sl (boolA ns.length f)), (9, .adr (.r 10144) 0 0), (10144, .blk 2 [knD (sumSp q f k)]), (10, .int .i64 k)]) (fun k => k ≤ ns.length) (fun k => ns.length - k) 0 (by simp) (by simp [sumSp, sumF, knD]) ?_
    rintro k hk
    simp
    refine brB_of (fun g => ?_) (fun g => ?_) <;> simp [g] <;> simp at g
    · have hwk : IntKind.wrap .i64 ((k : Int) + 1) = ((k + 1 : Nat) : Int) := wrap_i64 (by omega) (by omega)
      have hkq : k < q.length := by omega
      have r1 := sumSp_rng hqr (f := f) (k := k) (by omega)
      have r2 := sumSp_rng hqr (f := f) (k := k + 1) (by omega)
      have e1 : sumSp q f (k + 1) = if f k = true then ((sumSp q f k).1 + q[k].1, (sumSp q f k).2 + q[k].2) else sumSp q f k := by
        simp only [sumSp, sumF]
        rw [bang hkq]
        by_cases c : f k = true
        · rw [if_pos c, if_pos c, if_pos c]
        · rw [if_neg c, if_neg c, if_neg c]; congr 1 <;> omega
      generalize sumSp q f k = s at *
      simp [g, boolA_len, idxW_some (boolA_get f g), boolA_get f g]
      by_cases c : f k = true
      · rw [if_pos c] at e1
        rw [e1] at r2
        simp only at r2
        have w1 : IntKind.wrap .i64 (s.1 + q[k].1) = s.1 + q[k].1 := wrap_i64 rfl (by omega)
        have w2 : IntKind.wrap .i64 (s.2 + q[k].2) = s.2 + q[k].2 := wrap_i64 rfl (by omega)
        simp [c, hkq, knD, w1, w2]
        refine ⟨indW_of (by decide +kernel), k + 1, by omega, by omega, ?_, hwk⟩
        rw [e1]
        exact ⟨rfl, rfl⟩
      · rw [if_neg c] at e1
        have c' : f k = false := by simpa using c
        simp [c', hwk]
        exact ⟨k + 1, by omega, by omega, by rw [e1], by omega⟩
    · have ek : k = ns.length := by omega
      subst ek
      rw [← hfi]
      have hsl : (spT fl i).length = i := spT_len (by omega)
      simp [knD]
      by_cases c : 1099511627776 < fl[i].2
      · have hb : bigF fl = true := List.any_eq_true.2 ⟨fl[i], List.getElem_mem hif, by simpa using c⟩
        simp [c, hb]
      · simp [c, hw]
        refine ⟨by omega, by omega, i + 1, ⟨by omega, fun j hl hjj => ?_⟩, by omega, rfl, ?_, by omega⟩
        · rcases Nat.lt_succ_iff_lt_or_eq.1 hjj with h2 | rfl
          · exact hj j hl h2
          · omega
        · rw [spT_succ hif, List.take_of_length_le (by omega)]
          rfl
  · have ek : i = ls.length := by omega
    subst ek
    have hb : bigF fl = false := bigF_of fun s hs => by
      obtain ⟨j, hjl, rfl⟩ := List.getElem_of_mem hs
      exact hj j hjl (by omega)
    simp [hb]
    rw [spT_V, ← hfll, spT_end, List.take_of_length_le (by simp)]
    exact ⟨by simp, rfl⟩
end Go.Gv

set_option linter.unusedSimpArgs false
namespace Go.Gv
theorem mem_nmT {ns : List Nod} {f : Nat → Bool} {s : List UInt8} : ∀ {K : Nat}, s ∈ nmT ns f K ↔ ∃ k, k < K ∧ f k = true ∧ nodNm ns k = s
  | 0 => by simp [nmT]
  | K + 1 => by
    unfold nmT
    rw [List.mem_append, mem_nmT (K := K)]
    constructor
    · rintro (⟨k, h1, h2, h3⟩ | h)
      · exact ⟨k, by omega, h2, h3⟩
      · split at h
        · rename_i c
          simp at h
          exact ⟨K, by omega, c, h.symm⟩
        · cases h
    · rintro ⟨k, h1, h2, h3⟩
      by_cases e : k = K
      · subst e
        right
        rw [if_pos h2]
        simp [h3]
      · exact .inl ⟨k, by omega, h2, h3⟩
theorem nod_inj {ns : List Nod} {ls : List Lnk} (hv : netOk ns ls = true) {i j : Nat} (hi : i < ns.length) (hj : j < ns.length) (e : ns[i].name = ns[j].name) : i = j := by
  have h1 := (netOk_nod hv hi).2
  have h2 := (netOk_nod hv hj).2
  rw [e, h2] at h1
  omega
theorem nod_at {ns : List Nod} {nm : List UInt8} {x : Nat} (h : idxD (nodIs nm) ns = x) : ∃ hx : x < ns.length, ns[x].name = nm := by
  have hx := idxD_lt (show 0 ≤ idxD (nodIs nm) ns by omega)
  rw [h] at hx
  simp at hx
  refine ⟨hx, ?_⟩
  unfold idxD at h
  cases e : ns.findIdx? (nodIs nm) with
  | none => rw [e] at h; simp at h
  | some i =>
    rw [e] at h
    simp at h
    have : i = x := by omega
    subst this
    obtain ⟨h1, h2, _⟩ := List.findIdx?_eq_some_iff_getElem.1 e
    simpa [nodIs] using h2
noncomputable def shrF (ns : List Nod) (ls : List Lnk) (q : List Sp) (x v : Nat) : Bool := upX ns ls x v && decide (0 < q[v]!.2)
def ShrE (ns : List Nod) (ls : List Lnk) (q : List Sp) (nm : List UInt8) : Int := if treeN ns ls = true then (if spsE q ns.length = 0 then (if 0 ≤ idxD (lnkIs nm) ls then 0 else 9) else spsE q ns.length) else 1
noncomputable def ShrV (ns : List Nod) (ls : List Lnk) (q : List Sp) (nm : List UInt8) : D := if ShrE ns ls q nm = 0 then .sl (strR (nmT ns (shrF ns ls q ((edgN ns ls)[(idxD (lnkIs nm) ls).toNat]!).1) ns.length)) else .nils
variable {C : CC} (hC : Closed prog C)
include hC
theorem Link_c (b1 b2 : Bool) (ns : List Nod) (ls : List Lnk) (nm : List UInt8) (hcv : ∀ l ∈ ls, l.curve.length < 2 ^ 62) (hv : netOk ns ls = true) : C 463 [.agg [slx b1 (ns.map nodC), slx b2 (ls.map lnkC)], .str nm] (.tup [.int .i64 (if idxD (lnkIs nm) ls < 0 then 0 else idxD (lnkIs nm) ls), .int .i64 (if idxD (lnkIs nm) ls < 0 then 9 else 0)]) [] := by
  have k0 := netOk_c hC b1 b2 ns ls hcv
  rw [hv] at k0
  have k1 := link_c hC b1 b2 ns ls nm (by have := (netOk_len hv).2; omega)
  have k2 := found_c hC [slx b1 (ns.map nodC), slx b2 (ls.map lnkC)] (idxD (lnkIs nm) ls)
  refine start hC (nf := N463_network_Link) rfl rfl ?_
  simp [N463_network_Link]
  refine callW_of k0 (.inl rfl) ?_
  simp
  refine callW_of k1 (.inl rfl) ?_
  simp
  refine callW_of k2 (.inl rfl) ?_
  simp
  exact indW_of (by decide +kernel)
theorem rFlows_c (b1 b2 b : Bool) (ns : List Nod) (ls : List Lnk) (q : List Sp) (hq : q.length < 2 ^ 62) : C 431 [.agg [slx b1 (ns.map nodC), slx b2 (ls.map lnkC)], slx b (q.map knD)] (.tup [FlowsV ns ls q, .int .i64 (FlowsE ns ls q)]) [] := by
  have k1 := rTree_c hC b1 b2 ns ls
  have k2 := rSpans_c hC b q ns.length hq
  refine start hC (nf := N431_ref30_Flows) rfl rfl ?_
  simp [N431_ref30_Flows]
  refine callW_of k1 (.inl rfl) ?_
  unfold FlowsV FlowsE
  cases ht : treeN ns ls
  · simp
  simp
  refine callW_of k2 (.inl rfl) ?_
  by_cases h0 : spsE q ns.length = 0
  · obtain ⟨hql, hqr⟩ := spsE_get h0
    have k3 := rAll_c hC b1 b2 b ns ls q ht hql hqr
    unfold flowsE
    simp [h0]
    refine callW_of k3 (.inr rfl) ?_
    cases hb : bigF (flowsF ns.length (edgN ns ls) q) <;> simp [h0]
  · simp [h0]
set_option maxHeartbeats 4000000 in
theorem rShare_c (b1 b2 b : Bool) (ns : List Nod) (ls : List Lnk) (q : List Sp) (nm : List UInt8) (hq : q.length < 2 ^ 62) (hl : ls.length < 2 ^ 62) : C 432 [.agg [slx b1 (ns.map nodC), slx b2 (ls.map lnkC)], slx b (q.map knD), .str nm] (.tup [ShrV ns ls q nm, .int .i64 (ShrE ns ls q nm)]) [] := by
  have k1 := rTree_c hC b1 b2 ns ls
  have k2 := rSpans_c hC b q ns.length hq
  have k3 := rLink_c hC b1 b2 ns ls nm hl
  refine start hC (nf := N432_ref30_Share) rfl rfl ?_
  simp [N432_ref30_Share]
  refine callW_of k1 (.inl rfl) ?_
  unfold ShrV ShrE
  cases ht : treeN ns ls
  · simp
  simp
  refine callW_of k2 (.inl rfl) ?_
  by_cases h0 : spsE q ns.length = 0
  rotate_left
  · simp [h0]
  obtain ⟨hql, hqr⟩ := spsE_get h0
  have hv : netOk ns ls = true := by simp only [treeN, Bool.and_eq_true] at ht; exact ht.1.1
  obtain ⟨l1, l2⟩ := netOk_len hv
  simp [h0]
  refine callW_of k3 (.inl rfl) ?_
  by_cases hk : 0 ≤ idxD (lnkIs nm) ls
  rotate_left
  · simp [hk, show idxD (lnkIs nm) ls < 0 by omega, h0]
  have hkl := idxD_lt hk
  obtain ⟨k, hke⟩ : ∃ k : Nat, idxD (lnkIs nm) ls = k := ⟨(idxD (lnkIs nm) ls).toNat, by omega⟩
  rw [hke] at hkl ⊢
  simp at hkl
  have k4 := rUpperF_c hC b1 b2 ns ls k hv hkl
  have hkk : k < (edgN ns ls).length := by rw [edgN_len]; exact hkl
  have e0 : ((edgN ns ls)[(k : Int).toNat]!).1 = ((edgN ns ls)[k]'hkk).1 := by rw [Int.toNat_natCast, getElem!_pos _ k hkk]
  rw [e0]
  generalize ((edgN ns ls)[k]'hkk).1 = x at *
  have k5 := rNames_c hC b1 b2 ns ls (shrF ns ls q x) l1
  simp [h0, show ¬ (k : Int) < 0 by omega]
  refine callFW_of k4 ?_
  simp [boolA_len]
  refine loop_of Nat (fun j => [(1, slx b (q.map knD)), (3, .ptr [slx b1 (ns.map nodC), slx b2 (ls.map lnkC)]), (10, .ref (.r 10160) 0 ns.length), (10160, .blk 1 (boolA ns.length fun v => if v < j then shrF ns ls q x v else upX ns ls x v)), (11, .int .i64 j)]) (fun j => j ≤ ns.length) (fun j => ns.length - j) 0 (by simp) (by simp) ?_
  rintro j hj
  simp
  refine brB_of (fun h => ?_) (fun h => ?_) <;> simp [h] <;> simp at h
  · have hw : IntKind.wrap .i64 ((j : Int) + 1) = ((j + 1 : Nat) : Int) := wrap_i64 (by omega) (by omega)
    have hjq : j < q.length := by omega
    obtain ⟨g, hge⟩ : ∃ g : Nat → Bool, g = fun v => if v < j then shrF ns ls q x v else upX ns ls x v := ⟨_, rfl⟩
    have hgj : g j = upX ns ls x j := by rw [hge]; simp
    have hsj : shrF ns ls q x j = (g j && decide (0 < q[j].2)) := by unfold shrF; rw [hgj, bang hjq]
    have hb1 : 1 ≤ ((boolA ns.length g)[j]'(by rw [boolA_len]; exact h)).length := by simp [boolA]
    have hb2 : ((boolA ns.length g)[j]'(by rw [boolA_len]; exact h)).tail = [] := by simp [boolA]
    have hset := boolA_set (n := ns.length) (v := j) g (shrF ns ls q x j)
    have hnx : (boolA ns.length fun u => if u = j then shrF ns ls q x j else g u) = boolA ns.length fun v => if v < j + 1 then shrF ns ls q x v else upX ns ls x v := boolA_congr fun v _ => by
      by_cases e : v = j
      · subst e; simp
      · rw [if_neg e, hge]
        have : (v < j) = (v < j + 1) := by apply propext; omega
        simp only [this]
    rw [hnx] at hset
    rw [hsj] at hset
    rw [← hge]
    simp [h, boolA_len, rowW_some (boolA_get g h), boolA_get g h]
    cases c : g j
    · rw [c] at hset
      simp at hset
      simp [h, boolA_len, rowW_some (boolA_get g h), boolA_get g h, hb1, hb2, hw, hset]
      exact ⟨j + 1, by omega, by omega, by simp, by omega⟩
    · rw [c] at hset
      simp at hset
      simp [h, hjq, knD, boolA_len, rowW_some (boolA_get g h), boolA_get g h, hb1, hb2, hw, hset]
      exact ⟨j + 1, by omega, by omega, by simp, by omega⟩
  · have ej : j = ns.length := by omega
    subst ej
    have e1 : (boolA ns.length fun v => if v < ns.length then shrF ns ls q x v else upX ns ls x v) = boolA ns.length (shrF ns ls q x) := boolA_congr fun v hv => by rw [if_pos hv]
    have hV : List.take ns.length (List.map (fun e => List.map cellV e) (boolA ns.length (shrF ns ls q x))) = boolA ns.length (shrF ns ls q x) := by
      rw [boolA_V, List.take_of_length_le (by rw [boolA_len]; exact Nat.le_refl _)]
    rw [e1]
    simp [boolA_len, hV]
    refine callW_of k5 (.inr rfl) ?_
    simp [h0]
end Go.Gv

set_option linter.unusedSimpArgs false
namespace Go.Gv
variable {C : CC} (hC : Closed prog C)
include hC
set_option maxHeartbeats 4000000 in
theorem Share_c (hS : SlC C) (b1 b2 b : Bool) (ns : List Nod) (ls : List Lnk) (q : List Sp) (nm : List UInt8) (hq : q.length < 2 ^ 62) (hl : ls.length < 2 ^ 62) (hcv : ∀ l ∈ ls, l.curve.length < 2 ^ 62) : C 430 [.agg [slx b1 (ns.map nodC), slx b2 (ls.map lnkC)], slx b (q.map knD), .str nm] (.tup [ShrV ns ls q nm, .int .i64 (ShrE ns ls q nm)]) [] := by
  have k1 := sTree_c hC hS b1 b2 ns ls hl hcv
  have k2 := spans_c hC b q ns.length hq
  refine start hC (nf := N430_steady_Share) rfl rfl ?_
  simp [N430_steady_Share]
  refine callW_of k1 (.inl rfl) ?_
  unfold ShrV ShrE
  cases ht : treeN ns ls
  · simp
  simp
  refine callW_of k2 (.inl rfl) ?_
  by_cases h0 : spsE q ns.length = 0
  rotate_left
  · simp [h0]
  obtain ⟨hql, hqr⟩ := spsE_get h0
  have hv : netOk ns ls = true := by simp only [treeN, Bool.and_eq_true] at ht; exact ht.1.1
  obtain ⟨l1, l2⟩ := netOk_len hv
  have k3 := Link_c hC b1 b2 ns ls nm hcv hv
  simp [h0]
  refine callW_of k3 (.inl rfl) ?_
  by_cases hk : 0 ≤ idxD (lnkIs nm) ls
  rotate_left
  · simp [hk, show idxD (lnkIs nm) ls < 0 by omega, h0]
  have hkl := idxD_lt hk
  obtain ⟨k, hke⟩ : ∃ k : Nat, idxD (lnkIs nm) ls = k := ⟨(idxD (lnkIs nm) ls).toNat, by omega⟩
  rw [hke] at hkl ⊢
  simp at hkl
  have hkk : k < (edgN ns ls).length := by rw [edgN_len]; exact hkl
  have e0 : ((edgN ns ls)[(k : Int).toNat]!).1 = ((edgN ns ls)[k]'hkk).1 := by rw [Int.toNat_natCast, getElem!_pos _ k hkk]
  have hsrc := edgN_src hC hv hkl
  rw [e0]
  have k4 := Above_c hC hS b1 b2 ns ls ls[k].src hcv hv
  generalize hxx : ((edgN ns ls)[k]'hkk).1 = x at *
  unfold waysV waysE waysL at k4
  rw [hsrc] at k4
  have hx0 : (0 : Int) ≤ x := by omega
  simp only [hx0, if_true, Int.toNat_natCast] at k4
  obtain ⟨hx, hnx⟩ := nod_at hsrc
  have hcon : ∀ (v : Nat) (h : v < ns.length), (decide (ns[v].name = ls[k].src) || (nmT ns (rB (trn (edgN ns ls)) (tgs (trn (edgN ns ls)) x)) ns.length).contains ns[v].name) = upX ns ls x v := fun v h => by
    rw [Bool.eq_iff_iff]
    unfold upX upsR
    by_cases e : v = x
    · subst e
      simp [hnx]
    · rw [if_neg e]
      have hne : ¬ ns[v].name = ls[k].src := fun e2 => e (nod_inj hv h hx (by rw [e2, hnx]))
      simp only [hne, decide_false, Bool.false_or, List.contains_iff_mem, mem_nmT]
      constructor
      · rintro ⟨u, h1, h2, h3⟩
        rw [nodNm_get h1] at h3
        have := nod_inj hv h1 h h3
        rw [← this]; exact h2
      · intro h2
        exact ⟨v, h, h2, nodNm_get h⟩
  have hal := nmT_len ns (rB (trn (edgN ns ls)) (tgs (trn (edgN ns ls)) x)) ns.length
  generalize nmT ns (rB (trn (edgN ns ls)) (tgs (trn (edgN ns ls)) x)) ns.length = ab at *
  have k5 := fun s => hasStr_c hC false ab s (by omega)
  simp only [slx_false] at k5
  simp [h0, show ¬ (k : Int) < 0 by omega, hkl, lnkC]
  refine callW_of k4 (.inr rfl) ?_
  simp
  refine loop_of Nat (fun j => [(1, slx b (q.map knD)), (11, .str ls[k].src), (12, .sl (strR ab)), (13, .ref (.r 10208) 0 (nmT ns (shrF ns ls q x) j).length), (10208, .blk 1 (strR (nmT ns (shrF ns ls q x) j))), (52, slx b1 (ns.map nodC)), (53, .int .i64 ns.length), (54, .int .i64 j)]) (fun j => j ≤ ns.length) (fun j => ns.length - j) 0 (by simp) (by simp [nmT, strR]) ?_
  rintro j hj
  simp
  refine brB_of (fun h => ?_) (fun h => ?_) <;> simp [h] <;> simp at h
  · have hw : IntKind.wrap .i64 ((j : Int) + 1) = ((j + 1 : Nat) : Int) := wrap_i64 (by omega) (by omega)
    have hjq : j < q.length := by omega
    have ht' : nmT ns (shrF ns ls q x) (j + 1) = nmT ns (shrF ns ls q x) j ++ (if shrF ns ls q x j = true then [nodNm ns j] else []) := rfl
    rw [nodNm_get h] at ht'
    have hsj : shrF ns ls q x j = (upX ns ls x j && decide (0 < q[j].2)) := by unfold shrF; rw [bang hjq]
    have hcj := hcon j h
    have hl1 := nmT_len ns (shrF ns ls q x) j
    generalize nmT ns (shrF ns ls q x) j = T at *
    have hT : (strR T).take T.length = strR T := List.take_of_length_le (by rw [strR_len]; exact Nat.le_refl _)
    rw [← hcj] at hsj
    have app : shrF ns ls q x j = true → nmT ns (shrF ns ls q x) (j + 1) = T ++ [ns[j].name] := fun e => by rw [ht', if_pos e]
    have noapp : shrF ns ls q x j = false → nmT ns (shrF ns ls q x) (j + 1) = T := fun e => by rw [ht', e]; simp
    simp [h, hjq, nodC, knD]
    by_cases c1 : 0 < q[j].2
    · by_cases c2 : ns[j].name = ls[k].src
      · have e1 := app (by rw [hsj]; simp [c1, c2])
        simp [c1, c2, h, nodC]
        refine ⟨by rw [strR_len]; exact Nat.le_refl _, by omega, ?_⟩
        simp [hw]
        refine ⟨j + 1, by omega, by omega, ?_⟩
        rw [e1, hT, ← c2]
        simp [strR]
      · simp [c1, c2, h, nodC]
        refine callW_of (k5 _) (.inl rfl) ?_
        cases c3 : ab.contains ns[j].name
        · have e1 := noapp (by rw [hsj, c3]; simp [c2])
          simp [hw]
          exact ⟨j + 1, by omega, by omega, by rw [e1]; simp⟩
        · have e1 := app (by rw [hsj, c3]; simp [c1])
          simp [h, nodC]
          refine ⟨by rw [strR_len]; exact Nat.le_refl _, by omega, ?_⟩
          simp [hw]
          refine ⟨j + 1, by omega, by omega, ?_⟩
          rw [e1, hT]
          simp [strR]
    · have e1 := noapp (by rw [hsj]; simp [c1])
      simp [c1, hw]
      exact ⟨j + 1, by omega, by omega, by rw [e1]; simp⟩
  · have ej : j = ns.length := by omega
    subst ej
    rw [strR_V, List.take_of_length_le (by rw [strR_len]; exact Nat.le_refl _)]
    simp [h0]
    exact strR_len _ |>.symm ▸ Nat.le_refl _
theorem SteadyFlows_c (hS : SlC C) (b1 b2 : Bool) (ns : List Nod) (ls : List Lnk) (h1 : ns.length < 2 ^ 62) (h2 : ls.length < 2 ^ 62) (hcv : ∀ l ∈ ls, l.curve.length < 2 ^ 62) (b : Bool) (q : List Sp) (h3 : q.length < 2 ^ 62) (nm : List UInt8) :
    C 419 [.agg [slx b1 (ns.map nodC), slx b2 (ls.map lnkC)], slx b (q.map knD), .str nm] (.bool true) [] := by
  have k0 := awake30_c hC hS
  have k1 := large30_c hC b1 b2 true b ns ls [] q h1 h2 (by simp)
  have e0 : slx true ([] : List (List D)) = .nils := rfl
  simp only [List.map_nil, e0] at k1
  have k2 := Flows_c hC hS b1 b2 b ns ls q h2 h3 hcv
  have k3 := Share_c hC hS b1 b2 b ns ls q nm h3 h2 hcv
  have k4 := rFlows_c hC b1 b2 b ns ls q h3
  have k5 := rShare_c hC b1 b2 b ns ls q nm h3 h2
  have k6 := sTree_c hC hS b1 b2 ns ls h2 hcv
  have k7 := rTree_c hC b1 b2 ns ls
  have d1 : ∃ (c : Bool) (l : List Sp), FlowsV ns ls q = slx c (l.map knD) ∧ l.length < 2 ^ 62 := by
    unfold FlowsV
    split
    · exact ⟨false, _, rfl, by simp [flowsF, edgN_len]; omega⟩
    · exact ⟨true, [], rfl, by simp⟩
  have d2 : ∃ (c : Bool) (l : List (List UInt8)), ShrV ns ls q nm = slx c (strR l) ∧ l.length < 2 ^ 62 := by
    unfold ShrV
    split
    · exact ⟨false, _, rfl, by have := nmT_len ns (shrF ns ls q ((edgN ns ls)[(idxD (lnkIs nm) ls).toNat]!).1) ns.length; omega⟩
    · exact ⟨true, [], rfl, by simp⟩
  obtain ⟨c1, f1, e1, g1⟩ := d1
  obtain ⟨c2, f2, e2, g2⟩ := d2
  rw [e1] at k2 k4
  rw [e2] at k3 k5
  have q1 := eqSp_c hC c1 c1 f1 f1 g1 g1
  have q2 := eqStr_c hC c2 c2 f2 f2 g2 g2
  refine start hC (nf := N419_law30_SteadyFlows) rfl rfl ?_
  simp [N419_law30_SteadyFlows]
  refine callW_of k0 (.inl rfl) ?_
  simp
  refine callW_of k1 (.inl rfl) ?_
  cases hla : large30 ns ls [] q.length
  rotate_left
  · simp
  simp
  by_cases hnl : (100 : Int) < nm.length
  · simp [hnl]
  simp [hnl]
  refine callW_of k2 (.inr rfl) ?_
  simp
  refine callW_of k3 (.inr rfl) ?_
  simp
  refine callW_of k4 (.inr rfl) ?_
  simp
  refine callW_of k5 (.inr rfl) ?_
  simp
  refine callW_of k6 (.inl rfl) ?_
  simp
  refine callW_of k7 (.inl rfl) ?_
  simp
  refine callW_of q1 (.inl rfl) ?_
  simp
  refine callW_of q2 (.inl rfl) ?_
  simp
  exact indW_of (by decide +kernel)
end Go.Gv
