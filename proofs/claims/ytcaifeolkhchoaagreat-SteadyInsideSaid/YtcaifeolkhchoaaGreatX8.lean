/-
  Texts of the proof: Q6, Q8, Q9, Q10, Q7, K12, M2a, K13, M2, M3, M4, P3, B6, B7, P5, M5, P1, P2, B8, P6, Q14, Q15, Q16, Q17, Q11, Q12, Q13, B9, P7, Q18, Q22, Q19, Q23, Q20, Q24, Q26, Q25.
-/
import Derived.Test.YtcaifeolkhchoaaGreatX7
import Derived.Test.YtcaifeolkhchoaaGreatX6
set_option linter.all false
set_option linter.unusedSimpArgs false
namespace Go.Gv
def ordE (n : Nat) (es : List Edg) : Int := if (ordF n es).length < n then 22 else 0
def ordV (n : Nat) (es : List Edg) : D := if (ordF n es).length < n then .nils else ndD (ordF n es)
def treeF (n : Nat) (es : List Edg) : Bool := decide ((es.map (·.1)).Nodup) && decide ((ordF n es).length = n)
/-- The sources of the first j edges. -/
def srcT (es : List Edg) (j : Nat) : List Nat := (es.take j).map (·.1)
theorem srcT_succ {es : List Edg} {j : Nat} (h : j < es.length) : srcT es (j + 1) = srcT es j ++ [es[j].1] := by
  unfold srcT
  rw [List.take_succ_eq_append_getElem h, List.map_append]
  rfl
@[simp] theorem srcT_0 (es : List Edg) : srcT es 0 = [] := rfl
theorem srcT_end (es : List Edg) : srcT es es.length = es.map (·.1) := by simp [srcT]
theorem srcT_nd {es : List Edg} {j : Nat} (h : ¬ (srcT es j).Nodup) : ¬ (es.map (·.1)).Nodup := by
  intro h2
  apply h
  unfold srcT
  rw [List.map_take]
  exact h2.sublist (List.take_sublist _ _)
def edT (es : List Edg) (j : Nat) : List (List D) := (es.take j).map edK
theorem edT_succ {es : List Edg} {j : Nat} (h : j < es.length) : edT es (j + 1) = edT es j ++ [edK es[j]] := by
  unfold edT
  rw [List.take_succ_eq_append_getElem h, List.map_append]
  rfl
@[simp] theorem edT_0 (es : List Edg) : edT es 0 = [] := rfl
theorem edT_len {es : List Edg} {j : Nat} (h : j ≤ es.length) : (edT es j).length = j := by simp [edT]; omega
theorem edT_end (es : List Edg) : edT es es.length = es.map edK := by simp [edT]
theorem edT_V (es : List Edg) (j : Nat) : (edT es j).map (fun e => e.map cellV) = edT es j := by
  unfold edT
  rw [List.map_map]
  apply List.map_congr_left
  intro e _
  simp [edK, knD, cellV]
def seenA (n : Nat) (es : List Edg) (j : Nat) : List (List D) := (List.range n).map fun v => [.bool (decide (v ∈ srcT es j))]
theorem seenA_get {n v : Nat} (es : List Edg) (j : Nat) (h : v < n) : (seenA n es j)[v]? = some [.bool (decide (v ∈ srcT es j))] := by simp [seenA, h]
/-- The edges of a network. -/
def edgN (ns : List Nod) (ls : List Lnk) : List Edg := ls.map fun l => ((idxD (nodIs l.src) ns).toNat, (idxD (nodIs l.dst) ns).toNat)
theorem edgN_len (ns : List Nod) (ls : List Lnk) : (edgN ns ls).length = ls.length := by simp [edgN]
theorem netOk_len {ns : List Nod} {ls : List Lnk} (h : netOk ns ls = true) : ns.length ≤ 300 ∧ ls.length ≤ 400 := by
  simp only [netOk, Bool.and_eq_true, decide_eq_true_eq] at h
  exact ⟨h.1.1.1, h.1.1.2⟩
theorem netOk_lnk {ns : List Nod} {ls : List Lnk} (h : netOk ns ls = true) {i : Nat} (hi : i < ls.length) : linkOk ls[i] = true ∧ idxD (lnkIs ls[i].name) ls = (i : Int) ∧ 0 ≤ idxD (nodIs ls[i].src) ns ∧ 0 ≤ idxD (nodIs ls[i].dst) ns := by
  simp only [netOk, Bool.and_eq_true, List.all_eq_true, List.mem_range] at h
  have := h.2 i hi
  simp only [lnkAt, getElem!_pos ls i hi, fromOk, Bool.and_eq_true, decide_eq_true_eq] at this
  exact ⟨this.1.1.1, this.1.1.2, this.1.2.1, this.2⟩
theorem edgN_in {ns : List Nod} {ls : List Lnk} (h : netOk ns ls = true) : inG ns.length (edgN ns ls) := by
  intro e he
  simp only [edgN, List.mem_map] at he
  obtain ⟨l, hl, rfl⟩ := he
  obtain ⟨i, hi, rfl⟩ := List.mem_iff_getElem.1 hl
  obtain ⟨_, _, h1, h2⟩ := netOk_lnk h hi
  exact ⟨idxD_lt h1, idxD_lt h2⟩
variable {C : CC} (hC : Closed prog C)
include hC
theorem gOrder_c (hS : SlC C) {b : Bool} {n : Nat} {es : List Edg} (hn : n ≤ 300) (he : es.length ≤ 1000) (hg : inG n es) : C 511 [.int .i64 n, slx b (es.map edK)] (.tup [ordV n es, .int .i64 (ordE n es)]) [] := by
  have k1 := gValid_c hC b n (es.map edI) (by simp; omega)
  rw [← edK_map, gOk_of hC hn he hg] at k1
  have k2 := order_c hC hS (b := b) hn he hg
  refine start hC (nf := N511_digraph_Order) rfl rfl ?_
  simp [N511_digraph_Order]
  refine callW_of k1 (.inl rfl) ?_
  simp
  refine callW_of k2 (.inr rfl) ?_
  unfold ordV ordE
  simp [ndD, intL_len]
  refine brB_of (fun c => ?_) (fun c => ?_) <;> simp at c <;> simp [c]
theorem gTree_c (hS : SlC C) {b : Bool} {n : Nat} {es : List Edg} (hn : n ≤ 300) (he : es.length ≤ 1000) (hg : inG n es) : C 472 [.int .i64 n, slx b (es.map edK)] (.bool (treeF n es)) [] := by
  have k1 := gValid_c hC b n (es.map edI) (by simp; omega)
  rw [← edK_map, gOk_of hC hn he hg] at k1
  have k2 := order_c hC hS (b := b) hn he hg
  obtain ⟨r, hr⟩ : ∃ r, r = treeF n es := ⟨_, rfl⟩
  rw [← hr]
  unfold treeF at hr
  refine start hC (nf := N472_digraph_Tree) rfl rfl ?_
  simp [N472_digraph_Tree]
  refine callW_of k1 (.inl rfl) ?_
  simp
  refine ⟨by omega, ?_⟩
  refine loop_of Nat (fun j => [(0, .int .i64 n), (1, slx b (es.map edK)), (5, .ref (.r 10080) 0 n), (10080, .blk 1 (seenA n es j)), (14, slx b (es.map edK)), (15, .int .i64 es.length), (16, .int .i64 j)]) (fun j => j ≤ es.length ∧ (srcT es j).Nodup) (fun j => es.length - j) 0 (by simp) (by simp [seenA, rep_map]) ?_
  rintro j ⟨hj, hnd⟩
  simp
  refine brB_of (fun h => ?_) (fun h => ?_) <;> simp [h] <;> simp at h
  · have hw : IntKind.wrap .i64 ((j : Int) + 1) = ((j + 1 : Nat) : Int) := wrap_i64 (by omega) (by omega)
    have hin := hg _ (List.getElem_mem h)
    simp [h, edK, knD, hin, rowW_some (seenA_get es j hin.1), seenA_get es j hin.1]
    refine brB_of (fun c => ?_) (fun c => ?_) <;> simp at c
    · have hbad : ¬ (srcT es (j + 1)).Nodup := by
        rw [srcT_succ h, List.nodup_append]
        rintro ⟨_, _, h3⟩
        exact h3 _ c _ (by simp) rfl
      simp [hr, srcT_nd hbad]
    · have e1 : (seenA n es j).set es[j].1 [.bool true] = seenA n es (j + 1) := by
        unfold seenA
        rw [set_rm]
        apply List.map_congr_left
        intro v _
        rw [srcT_succ h]
        by_cases e : v = es[j].1
        · subst e; simp
        · simp [e]
      have hnd2 : (srcT es (j + 1)).Nodup := by
        rw [srcT_succ h, List.nodup_append]
        refine ⟨hnd, by simp, fun a ha b hb => ?_⟩
        simp at hb
        subst hb
        rintro rfl
        exact c ha
      simp [hin, seenA_get es j hin.1, e1, hw]
      exact ⟨j + 1, ⟨by omega, hnd2⟩, by omega, rfl, by omega⟩
  · have ej : j = es.length := by omega
    rw [ej, srcT_end] at hnd
    refine callW_of k2 (.inr rfl) ?_
    simp [ndD, intL_len, hr, hnd]
    omega
theorem nEdges_c (b1 b2 : Bool) (ns : List Nod) (ls : List Lnk) (hv : netOk ns ls = true) : C 499 [.agg [slx b1 (ns.map nodC), slx b2 (ls.map lnkC)]] (.sl ((edgN ns ls).map edK)) [] := by
  obtain ⟨hl1, hl2⟩ := netOk_len hv
  refine start hC (nf := N499_network_edges) rfl rfl ?_
  simp [N499_network_edges]
  refine loop_of Nat (fun j => [(1, .ptr [slx b1 (ns.map nodC), slx b2 (ls.map lnkC)]), (3, .ref (.r 10048) 0 j), (10048, .blk 2 (edT (edgN ns ls) j)), (7, slx b2 (ls.map lnkC)), (8, .int .i64 ls.length), (9, .int .i64 j)]) (fun j => j ≤ ls.length) (fun j => ls.length - j) 0 (by simp) (by simp) ?_
  rintro j hj
  simp
  refine brB_of (fun h => ?_) (fun h => ?_) <;> simp [h] <;> simp at h
  · have hw : IntKind.wrap .i64 ((j : Int) + 1) = ((j + 1 : Nat) : Int) := wrap_i64 (by omega) (by omega)
    obtain ⟨_, _, g1, g2⟩ := netOk_lnk hv h
    have k1 := node_c hC b1 b2 ns ls ls[j].src (by omega)
    have k2 := node_c hC b1 b2 ns ls ls[j].dst (by omega)
    have hjl : j < (edgN ns ls).length := by rw [edgN_len]; exact h
    have el := edT_len (es := edgN ns ls) (j := j) (by omega)
    simp [h, lnkC, el]
    refine callW_of k1 (.inl rfl) ?_
    simp
    refine callW_of k2 (.inl rfl) ?_
    simp [el]
    refine ⟨by omega, indW_of (by decide +kernel), j + 1, by omega, by omega, rfl, ?_, hw⟩
    have e2 : (edT (edgN ns ls) j).take j = edT (edgN ns ls) j := List.take_of_length_le (by omega)
    rw [e2, edT_succ hjl]
    congr 2
    simp only [edgN, List.getElem_map, edK, knD]
    rw [Int.toNat_of_nonneg g1, Int.toNat_of_nonneg g2]
  · have ej : j = ls.length := by omega
    subst ej
    have e0 := edT_end (edgN ns ls)
    have el := edT_len (es := edgN ns ls) (j := ls.length) (by rw [edgN_len]; exact Nat.le_refl _)
    rw [edgN_len] at e0
    simp [edT_V, el]
    rw [← e0, List.take_of_length_le (by omega)]
theorem NEdges_c (b1 b2 : Bool) (ns : List Nod) (ls : List Lnk) (hcv : ∀ l ∈ ls, l.curve.length < 2 ^ 62) : C 471 [.agg [slx b1 (ns.map nodC), slx b2 (ls.map lnkC)]] (.tup (if netOk ns ls then [.sl ((edgN ns ls).map edK), .int .i64 0] else [.nils, .int .i64 1])) [] := by
  refine start hC (nf := N471_network_Edges) rfl rfl ?_
  simp [N471_network_Edges]
  refine callW_of (netOk_c hC b1 b2 ns ls hcv) (.inl rfl) ?_
  cases hv : netOk ns ls
  · simp
  · simp
    refine callW_of (nEdges_c hC b1 b2 ns ls hv) (.inr rfl) ?_
    simp
theorem NOrder_c (hS : SlC C) (b1 b2 : Bool) (ns : List Nod) (ls : List Lnk) (hcv : ∀ l ∈ ls, l.curve.length < 2 ^ 62) : C 495 [.agg [slx b1 (ns.map nodC), slx b2 (ls.map lnkC)]] (.tup (if netOk ns ls then [ordV ns.length (edgN ns ls), .int .i64 (ordE ns.length (edgN ns ls))] else [.nils, .int .i64 1])) [] := by
  refine start hC (nf := N495_network_Order) rfl rfl ?_
  simp [N495_network_Order]
  refine callW_of (netOk_c hC b1 b2 ns ls hcv) (.inl rfl) ?_
  cases hv : netOk ns ls
  · simp
  · obtain ⟨l1, l2⟩ := netOk_len hv
    have k := gOrder_c hC hS (b := false) (n := ns.length) (es := edgN ns ls) l1 (by rw [edgN_len]; omega) (edgN_in hv)
    simp
    refine callW_of (nEdges_c hC b1 b2 ns ls hv) (.inr rfl) ?_
    simp at k ⊢
    refine callW_of k (.inr rfl) ?_
    unfold ordV ordE ndD
    split <;> simp
    · exact ⟨indW_of (by decide +kernel), by omega⟩
    · exact ⟨indW_of (by decide +kernel), by omega⟩
theorem notPipe_c (l : Lnk) : C 470 [.agg (lnkC l)] (.bool (!decide (l.kind = 1))) [] := by
  refine start hC (nf := N470_steady_Tree_1) rfl rfl ?_
  simp [N470_steady_Tree_1, lnkC]
theorem hasLnk_c {b : Bool} {xs : List Lnk} {g : Nat} {cs : List D} (p : Lnk → Bool) (hs : xs.length < 2 ^ 62) (hp : ∀ x ∈ xs, C g (.agg (lnkC x) :: cs) (.bool (p x)) []) : C 455 [slx b (xs.map fun x => lnkC x), .fn g cs] (.bool (xs.any p)) [] := by
  refine start hC (nf := N455_slices_ContainsFunc__api_Link_api_Link) rfl rfl ?_
  simp [N455_slices_ContainsFunc__api_Link_api_Link]
  refine callW_of (idxLnk_c hC p hs hp) (.inl rfl) ?_
  simp [idxD_any]
theorem hasNod_c {b : Bool} {xs : List Nod} {g : Nat} {cs : List D} (p : Nod → Bool) (hs : xs.length < 2 ^ 62) (hp : ∀ x ∈ xs, C g (.agg (nodC x) :: cs) (.bool (p x)) []) : C 453 [slx b (xs.map fun x => nodC x), .fn g cs] (.bool (xs.any p)) [] := by
  refine start hC (nf := N453_slices_ContainsFunc__api_Node_api_Node) rfl rfl ?_
  simp [N453_slices_ContainsFunc__api_Node_api_Node]
  refine callW_of (idxNod_c hC p hs hp) (.inl rfl) ?_
  simp [idxD_any]
def treeN (ns : List Nod) (ls : List Lnk) : Bool := netOk ns ls && ls.all (fun l => decide (l.kind = 1)) && treeF ns.length (edgN ns ls)
theorem sTree_c (hS : SlC C) (b1 b2 : Bool) (ns : List Nod) (ls : List Lnk) (hl : ls.length < 2 ^ 62) (hcv : ∀ l ∈ ls, l.curve.length < 2 ^ 62) : C 433 [.agg [slx b1 (ns.map nodC), slx b2 (ls.map lnkC)]] (.bool (treeN ns ls)) [] := by
  have k1 := hasLnk_c hC (b := b2) (xs := ls) (g := 470) (cs := []) (fun l => !decide (l.kind = 1)) hl (fun x _ => notPipe_c hC x)
  have k2 := NEdges_c hC b1 b2 ns ls hcv
  have e1 : (ls.any fun l => !decide (l.kind = 1)) = !(ls.all fun l => decide (l.kind = 1)) := by simp [List.any_eq_not_all_not]
  rw [e1] at k1
  refine start hC (nf := N433_steady_Tree) rfl rfl ?_
  simp [N433_steady_Tree]
  refine callW_of k1 (.inl rfl) ?_
  unfold treeN
  cases h1 : ls.all (fun l => decide (l.kind = 1))
  · simp
  simp
  cases hv : netOk ns ls
  · rw [hv] at k2
    refine callW_of k2 (.inr rfl) ?_
    simp
  · rw [hv] at k2
    obtain ⟨l1, l2⟩ := netOk_len hv
    have k := gTree_c hC hS (b := false) (n := ns.length) (es := edgN ns ls) l1 (by rw [edgN_len]; omega) (edgN_in hv)
    refine callW_of k2 (.inr rfl) ?_
    simp at k ⊢
    refine callW_of k (.inl rfl) ?_
    simp
end Go.Gv

set_option linter.unusedSimpArgs false
namespace Go.Gv
variable {C : CC} (hC : Closed prog C)
include hC
theorem rPos_c (n : Int) : C 507 [.int .i64 n] (.bool (lowHigh n (-16777216) 16777216)) [] := by
  refine start hC (nf := N507_ref26_position) rfl rfl ?_
  simp [N507_ref26_position, lowHigh]
  refine brB_of (fun h => ?_) (fun h => ?_) <;> simp at h <;> simp [h] <;> omega
theorem rShape_c (b : Bool) (t : List (Int × Int)) (hgt : Int) : C 508 [slx b (t.map knD), .int .i64 hgt] (.bool (curveOk t hgt 1125899906842624)) [] := by
  refine start hC (nf := N508_ref26_shape) rfl rfl ?_
  simp [N508_ref26_shape]
  refine callW_of (rTable_c hC b t) (.inl rfl) ?_
  cases hv : tableValid t
  · simp [curveOk, hv]
  obtain ⟨l1, l2⟩ := valid_len hv
  obtain ⟨n, hn⟩ : ∃ n, n + 1 = t.length := ⟨t.length - 1, by omega⟩
  have e1 : IntKind.wrap .i64 ((t.length : Int) - 1) = (n : Int) := wrap_i64 (by omega) (by omega)
  have hnl : n < t.length := by omega
  have h0 : 0 < t.length := by omega
  have e0 : t[0]! = t[0] := getElem!_pos t 0 h0
  rw [curveOk, lastK_get hn, e0, hv]
  simp [e1, hnl, h0, knD]
  refine brB_of (fun c => ?_) (fun c => ?_) <;> simp at c
  · simp [c, h0, knD]
    refine brB_of (fun c2 => ?_) (fun c2 => ?_) <;> simp at c2
    · simp [c2]
      refine brB_of (fun c3 => ?_) (fun c3 => ?_) <;> simp at c3 <;> simp [c3, c, c2]
    · simp [c2]
  · simp [c]
theorem nodR_c (n : Nod) : C 488 [.agg (nodC n)] (.bool (nodOk n)) [] := by
  have k1 := rIsName_c hC n.name
  have k2 := rPos_c hC n.x
  have k3 := rPos_c hC n.y
  have k4 := rLevel_c hC n.invert
  have k5 := rLevel_c hC n.ground
  obtain ⟨q, hq⟩ : ∃ q, q = nodOk n := ⟨_, rfl⟩
  rw [← hq]
  unfold nodOk at hq
  refine start hC (nf := N488_ref26_RightNode) rfl rfl ?_
  simp [N488_ref26_RightNode, nodC]
  refine callW_of k1 (.inl rfl) ?_
  cases h1 : isName n.name
  · simp [hq, h1]
  simp
  refine callW_of k2 (.inl rfl) ?_
  cases h2 : lowHigh n.x (-16777216) 16777216
  · simp [hq, h2]
  simp
  refine callW_of k3 (.inl rfl) ?_
  cases h3 : lowHigh n.y (-16777216) 16777216
  · simp [hq, h3]
  simp
  refine callW_of k4 (.inl rfl) ?_
  cases h4 : lvlOk n.invert
  · simp [hq, h4]
  simp
  refine callW_of k5 (.inl rfl) ?_
  cases h5 : lvlOk n.ground
  · simp [hq, h5]
  simp
  rw [h1, h2, h3, h4, h5] at hq
  simp only [Bool.true_and] at hq
  have b1 : -4194304 ≤ n.invert ∧ n.invert ≤ 4194304 := by simpa [lvlOk] using h4
  have b2 : -4194304 ≤ n.ground ∧ n.ground ≤ 4194304 := by simpa [lvlOk] using h5
  have e1 : IntKind.wrap .i64 (n.ground - n.invert) = n.ground - n.invert := wrap_i64 rfl (by omega)
  by_cases hk3 : n.kind = 3
  · rw [if_neg (by omega), if_pos hk3, outOk] at hq
    simp [hk3]
    refine brB_of (fun c1 => ?_) (fun c1 => ?_) <;> simp at c1
    · simp [c1]
      refine brB_of (fun c2 => ?_) (fun c2 => ?_) <;> simp at c2
      · cases c3 : n.prot
        · simp [hq, c1, c2, c3]
        · simp [hq, c2, c3]
      · simp [hq, c2]
    · have : ¬ n.invert ≤ n.ground := by omega
      simp [hq, this]
  · by_cases hk : n.kind = 1 ∨ n.kind = 2
    · rw [if_pos hk, storeOk] at hq
      have kb := rShape_c hC n.shapeN n.shape (n.ground - n.invert)
      rcases hk with hk | hk
      · simp [hk]
        refine brB_of (fun c1 => ?_) (fun c1 => ?_) <;> simp at c1
        · simp [c1, hq]
        have c1' : ¬ n.ground ≤ n.invert := by omega
        simp [c1', e1]
        refine callW_of kb (.inl rfl) ?_
        cases c2 : curveOk n.shape (n.ground - n.invert) 1125899906842624
        · simp [hq, c2]
        simp [hk]
        cases c3 : n.prot
        · simp [hq, c1', c2, c3, hk]
        · simp [hq, c3, hk]
          exact indW_of (by decide +kernel)
      · simp [hk]
        refine brB_of (fun c1 => ?_) (fun c1 => ?_) <;> simp at c1
        · simp [c1, hq]
        have c1' : ¬ n.ground ≤ n.invert := by omega
        simp [c1', e1]
        refine callW_of kb (.inl rfl) ?_
        cases c2 : curveOk n.shape (n.ground - n.invert) 1125899906842624
        · simp [hq, c2]
        simp [hk]
        cases c3 : n.prot
        · simp [hq, c1', c2, c3, hk]
        have hv : tableValid n.shape = true := by
          simp only [curveOk, Bool.and_eq_true] at c2
          exact c2.1.1.1
        obtain ⟨l1, l2⟩ := valid_len hv
        obtain ⟨m, hm⟩ : ∃ m, m + 1 = n.shape.length := ⟨n.shape.length - 1, by omega⟩
        have e2 : IntKind.wrap .i64 ((n.shape.length : Int) - 1) = (m : Int) := wrap_i64 (by omega) (by omega)
        have hml : m < n.shape.length := by omega
        have e3 := lastK_get hm
        by_cases c4 : 0 ≤ n.reserve
        · simp [hq, c1', c2, c3, c4, hk, e2, hml, knD, e3, lowHigh]
          exact indW_of (by decide +kernel)
        · simp [hq, c1', c2, c3, c4, hk, e2, hml, knD, e3, lowHigh]
          exact indW_of (by decide +kernel)
    · rw [if_neg hk, if_neg hk3] at hq
      have a1 : ¬ n.kind = 1 := fun e => hk (.inl e)
      have a2 : ¬ n.kind = 2 := fun e => hk (.inr e)
      simp [hk3, a1, a2, hq]
theorem rNode_c (b1 b2 : Bool) (ns : List Nod) (ls : List Lnk) (nm : List UInt8) (hn : ns.length < 2 ^ 62) : C 462 [.agg [slx b1 (ns.map nodC), slx b2 (ls.map lnkC)], .str nm] (.int .i64 (idxD (nodIs nm) ns)) [] := by
  refine start hC (nf := N462_ref26_FindNode) rfl rfl ?_
  simp [N462_ref26_FindNode]
  refine loop_of Nat (fun i => [(1, .str nm), (2, .ptr [slx b1 (ns.map nodC), slx b2 (ls.map lnkC)]), (5, .int .i64 i)]) (fun i => i ≤ ns.length ∧ ∀ (j : Nat) (h : j < ns.length), j < i → nodIs nm ns[j] = false) (fun i => ns.length - i) 0 (by simp) (by simp) ?_
  rintro i ⟨hi, hj⟩
  simp
  refine brB_of (fun h => ?_) (fun h => ?_) <;> simp [h] <;> simp at h
  · have hw : IntKind.wrap .i64 ((i : Int) + 1) = ((i + 1 : Nat) : Int) := wrap_i64 (by omega) (by omega)
    simp [h, nodC]
    refine brB_of (fun h1 => ?_) (fun h1 => ?_) <;> simp at h1 <;> simp [h1, hw]
    · rw [idxD_step hj h (by simpa [nodIs] using h1)]
    · refine ⟨i + 1, ⟨by omega, fun j hl hjj => ?_⟩, by omega, rfl⟩
      rcases Nat.lt_succ_iff_lt_or_eq.1 hjj with h2 | rfl
      · exact hj j hl h2
      · simpa [nodIs] using h1
  · rw [idxD_none (fun j hl => hj j hl (by omega))]
theorem rLink_c (b1 b2 : Bool) (ns : List Nod) (ls : List Lnk) (nm : List UInt8) (hn : ls.length < 2 ^ 62) : C 467 [.agg [slx b1 (ns.map nodC), slx b2 (ls.map lnkC)], .str nm] (.int .i64 (idxD (lnkIs nm) ls)) [] := by
  refine start hC (nf := N467_ref26_FindLink) rfl rfl ?_
  simp [N467_ref26_FindLink]
  refine loop_of Nat (fun i => [(1, .str nm), (2, .ptr [slx b1 (ns.map nodC), slx b2 (ls.map lnkC)]), (5, .int .i64 i)]) (fun i => i ≤ ls.length ∧ ∀ (j : Nat) (h : j < ls.length), j < i → lnkIs nm ls[j] = false) (fun i => ls.length - i) 0 (by simp) (by simp) ?_
  rintro i ⟨hi, hj⟩
  simp
  refine brB_of (fun h => ?_) (fun h => ?_) <;> simp [h] <;> simp at h
  · have hw : IntKind.wrap .i64 ((i : Int) + 1) = ((i + 1 : Nat) : Int) := wrap_i64 (by omega) (by omega)
    simp [h, lnkC]
    refine brB_of (fun h1 => ?_) (fun h1 => ?_) <;> simp at h1 <;> simp [h1, hw]
    · rw [idxD_step hj h (by simpa [lnkIs] using h1)]
    · refine ⟨i + 1, ⟨by omega, fun j hl hjj => ?_⟩, by omega, rfl⟩
      rcases Nat.lt_succ_iff_lt_or_eq.1 hjj with h2 | rfl
      · exact hj j hl h2
      · simpa [lnkIs] using h1
  · rw [idxD_none (fun j hl => hj j hl (by omega))]
theorem rEdges_c (b1 b2 : Bool) (ns : List Nod) (ls : List Lnk) (hv : netOk ns ls = true) : C 429 [.agg [slx b1 (ns.map nodC), slx b2 (ls.map lnkC)]] (.sl ((edgN ns ls).map edK)) [] := by
  obtain ⟨hl1, hl2⟩ := netOk_len hv
  refine start hC (nf := N429_ref26_Edges) rfl rfl ?_
  simp [N429_ref26_Edges]
  refine loop_of Nat (fun j => [(1, .ptr [slx b1 (ns.map nodC), slx b2 (ls.map lnkC)]), (3, .ref (.r 10048) 0 j), (10048, .blk 2 (edT (edgN ns ls) j)), (4, .int .i64 j)]) (fun j => j ≤ ls.length) (fun j => ls.length - j) 0 (by simp) (by simp) ?_
  rintro j hj
  simp
  refine brB_of (fun h => ?_) (fun h => ?_) <;> simp [h] <;> simp at h
  · have hw : IntKind.wrap .i64 ((j : Int) + 1) = ((j + 1 : Nat) : Int) := wrap_i64 (by omega) (by omega)
    obtain ⟨_, _, g1, g2⟩ := netOk_lnk hv h
    have k1 := rNode_c hC b1 b2 ns ls ls[j].src (by omega)
    have k2 := rNode_c hC b1 b2 ns ls ls[j].dst (by omega)
    have hjl : j < (edgN ns ls).length := by rw [edgN_len]; exact h
    have el := edT_len (es := edgN ns ls) (j := j) (by omega)
    simp [h, lnkC, el]
    refine callW_of k1 (.inl rfl) ?_
    simp [h, lnkC]
    refine callW_of k2 (.inl rfl) ?_
    simp [el]
    refine ⟨by omega, indW_of (by decide +kernel), j + 1, by omega, by omega, rfl, ?_, hw⟩
    have e2 : (edT (edgN ns ls) j).take j = edT (edgN ns ls) j := List.take_of_length_le (by omega)
    rw [e2, edT_succ hjl]
    congr 2
    simp only [edgN, List.getElem_map, edK, knD]
    rw [Int.toNat_of_nonneg g1, Int.toNat_of_nonneg g2]
  · have ej : j = ls.length := by omega
    subst ej
    have e0 := edT_end (edgN ns ls)
    have el := edT_len (es := edgN ns ls) (j := ls.length) (by rw [edgN_len]; exact Nat.le_refl _)
    rw [edgN_len] at e0
    simp [edT_V, el]
    rw [← e0, List.take_of_length_le (by omega)]
end Go.Gv

set_option linter.unusedSimpArgs false
namespace Go.Gv
def srcsA (n : Nat) (out : List Nat) : List (List D) := (List.range n).map fun v => [.bool (decide (v ∈ out))]
theorem srcsA_get {n v : Nat} (out : List Nat) (h : v < n) : (srcsA n out)[v]? = some [.bool (decide (v ∈ out))] := by simp [srcsA, h]
theorem srcsA_set {n : Nat} (out : List Nat) (v : Nat) : (srcsA n out).set v [.bool true] = srcsA n (out ++ [v]) := by
  unfold srcsA
  rw [set_rm]
  apply List.map_congr_left
  intro u _
  by_cases e : u = v <;> simp [e]
/-- The least ready one among the first v. -/
def lowR (es : List Edg) (out : List Nat) : Nat → Int
  | 0 => -1
  | v + 1 => if lowR es out v < 0 then (if !out.contains v && prOk es out v then (v : Int) else -1) else lowR es out v
theorem lowR_neg {es : List Edg} {out : List Nat} : ∀ {v : Nat}, lowR es out v < 0 → rdyL v es out = []
  | 0, _ => by simp [rdyL]
  | v + 1, h => by
    unfold lowR at h
    by_cases h1 : lowR es out v < 0
    · rw [if_pos h1] at h
      have ih := lowR_neg h1
      unfold rdyL at ih ⊢
      rw [List.range_succ, List.filter_append, ih]
      by_cases h2 : (!out.contains v && prOk es out v) = true
      · rw [if_pos h2] at h; omega
      · simp only [List.filter_cons, h2, List.filter_nil, List.append_nil]; rfl
    · rw [if_neg h1] at h
      exact absurd h h1
theorem lowR_pos {es : List Edg} {out : List Nat} : ∀ {v : Nat}, 0 ≤ lowR es out v → ∃ (i : Nat) (r : List Nat), lowR es out v = i ∧ rdyL v es out = i :: r ∧ i < v
  | 0, h => by simp [lowR] at h
  | v + 1, h => by
    by_cases h1 : lowR es out v < 0
    · have ih := lowR_neg h1
      unfold lowR at h ⊢
      rw [if_pos h1] at h ⊢
      by_cases h2 : (!out.contains v && prOk es out v) = true
      · rw [if_pos h2]
        refine ⟨v, [], rfl, ?_, by omega⟩
        unfold rdyL at ih ⊢
        rw [List.range_succ, List.filter_append, ih]
        simp only [List.filter_cons, h2, List.filter_nil, List.nil_append]; rfl
      · rw [if_neg h2] at h; omega
    · obtain ⟨i, r, e1, e2, e3⟩ := lowR_pos (v := v) (es := es) (out := out) (by omega)
      unfold lowR
      rw [if_neg h1]
      refine ⟨i, r ++ (([v]).filter fun u => !out.contains u && prOk es out u), e1, ?_, by omega⟩
      unfold rdyL at e2 ⊢
      rw [List.range_succ, List.filter_append, e2]
      rfl
/-- All predecessors among the first j edges are there. -/
def prT (es : List Edg) (out : List Nat) (v j : Nat) : Bool := prOk (es.take j) out v
theorem prT_succ {es : List Edg} {out : List Nat} {v j : Nat} (h : j < es.length) : prT es out v (j + 1) = (prT es out v j && !(decide (es[j].2 = v) && !decide (es[j].1 ∈ out))) := by
  unfold prT prOk
  rw [List.take_succ_eq_append_getElem h, List.all_append]
  congr 1
  by_cases a : es[j].2 = v <;> by_cases b : es[j].1 ∈ out <;> simp [a, b]
theorem prT_end (es : List Edg) (out : List Nat) (v : Nat) : prT es out v es.length = prOk es out v := by simp [prT]
variable {C : CC} (hC : Closed prog C)
include hC
theorem rValid_c (b1 b2 : Bool) (ns : List Nod) (ls : List Lnk) : C 458 [.agg [slx b1 (ns.map nodC), slx b2 (ls.map lnkC)]] (.bool (netOk ns ls)) [] := by
  obtain ⟨r, hr⟩ : ∃ r, r = netOk ns ls := ⟨_, rfl⟩
  rw [← hr]
  unfold netOk at hr
  refine start hC (nf := N458_ref26_Valid) rfl rfl ?_
  simp [N458_ref26_Valid]
  by_cases c : (300 : Int) < ns.length
  · simp [c, hr, show ¬ ns.length ≤ 300 by omega]
  by_cases c2 : (400 : Int) < ls.length
  · simp [c, c2, hr, show ¬ ls.length ≤ 400 by omega]
  simp [c, c2]
  rw [decide_eq_true (show ns.length ≤ 300 by omega), decide_eq_true (show ls.length ≤ 400 by omega)] at hr
  simp only [Bool.true_and] at hr
  have badN : ∀ i, i < ns.length → nodAt ns i = false → r = false := fun i hi h => by
    rw [hr, Bool.and_eq_false_iff]
    exact .inl (List.all_eq_false.2 ⟨i, by simpa using hi, by simp [h]⟩)
  have badL : ∀ i, i < ls.length → lnkAt ns ls i = false → r = false := fun i hi h => by
    rw [hr, Bool.and_eq_false_iff]
    exact .inr (List.all_eq_false.2 ⟨i, by simpa using hi, by simp [h]⟩)
  refine loop_of Nat (fun i => [(1, .ptr [slx b1 (ns.map nodC), slx b2 (ls.map lnkC)]), (3, .int .i64 i)]) (fun i => i ≤ ns.length ∧ ∀ j < i, nodAt ns j = true) (fun i => ns.length - i) 0 (by simp) (by simp) ?_
  rintro i ⟨hi, hj⟩
  simp
  refine brB_of (fun h => ?_) (fun h => ?_) <;> simp at h <;> simp [h]
  · have hw : IntKind.wrap .i64 ((i : Int) + 1) = ((i + 1 : Nat) : Int) := wrap_i64 (by omega) (by omega)
    have bad := badN i h
    have e1 : ns[i]! = ns[i] := getElem!_pos ns i h
    simp only [nodAt, e1] at bad
    have k1 := nodR_c hC ns[i]
    have k2 := rNode_c hC b1 b2 ns ls ns[i].name (by omega)
    simp only [nodC] at k1
    simp [nodC, h]
    refine callW_of k1 (.inl rfl) ?_
    cases g1 : nodOk ns[i]
    · simp
      refine ⟨indW_of (by decide +kernel), ?_⟩
      exact bad (by simp [g1])
    simp [nodC, h]
    refine callW_of k2 (.inl rfl) ?_
    simp
    refine ⟨indW_of (by decide +kernel), ?_⟩
    refine brB_of (fun g2 => ?_) (fun g2 => ?_) <;> simp at g2 <;> simp [g2]
    · exact bad (by simp [g2])
    · simp [hw]
      refine ⟨i + 1, ⟨by omega, fun k hk => ?_⟩, by omega, by simp⟩
      rcases Nat.lt_succ_iff_lt_or_eq.1 hk with h5 | rfl
      · exact hj k h5
      · simp [nodAt, e1, g1, g2]
  have hall : (List.range ns.length).all (nodAt ns) = true := by
    rw [List.all_eq_true]
    intro k hk
    exact hj k (by simp at hk; omega)
  rw [hall, Bool.true_and] at hr
  clear badN hall hj
  refine loop_of Nat (fun i => [(1, .ptr [slx b1 (ns.map nodC), slx b2 (ls.map lnkC)]), (4, .int .i64 i)]) (fun i => i ≤ ls.length ∧ ∀ j < i, lnkAt ns ls j = true) (fun i => ls.length - i) 0 (by simp) (by simp) ?_
  clear h hi i
  rintro i ⟨hi, hj⟩
  simp
  refine brB_of (fun h => ?_) (fun h => ?_) <;> simp at h <;> simp [h]
  · have hw : IntKind.wrap .i64 ((i : Int) + 1) = ((i + 1 : Nat) : Int) := wrap_i64 (by omega) (by omega)
    have bad := badL i h
    have e1 : ls[i]! = ls[i] := getElem!_pos ls i h
    simp only [lnkAt, e1] at bad
    have k1 := linkR_c hC ls[i]
    rw [linkR_eq] at k1
    have k2 := rLink_c hC b1 b2 ns ls ls[i].name (by omega)
    have k3 := rNode_c hC b1 b2 ns ls ls[i].src (by omega)
    have k4 := rNode_c hC b1 b2 ns ls ls[i].dst (by omega)
    have next : lnkAt ns ls i = true → ∃ s' : Nat, (s' ≤ ls.length ∧ ∀ j < s', lnkAt ns ls j = true) ∧ ls.length - s' < ls.length - i ∧ (i : Int) + 1 = s' := fun hl => by
      refine ⟨i + 1, ⟨by omega, fun k hk => ?_⟩, by omega, by simp⟩
      rcases Nat.lt_succ_iff_lt_or_eq.1 hk with h5 | rfl
      · exact hj k h5
      · exact hl
    simp only [lnkAt, e1] at next
    simp only [lnkC] at k1
    simp [lnkC, h]
    refine callW_of k1 (.inl rfl) ?_
    cases g1 : linkOk ls[i]
    · simp
      exact bad (by simp [g1])
    simp
    refine callW_of k2 (.inl rfl) ?_
    simp
    refine brB_of (fun g2 => ?_) (fun g2 => ?_) <;> simp at g2 <;> simp [g2]
    · exact bad (by simp [g2])
    refine callW_of k4 (.inl rfl) ?_
    simp
    refine brB_of (fun g4 => ?_) (fun g4 => ?_) <;> simp at g4 <;> simp [g4]
    · exact bad (by simp [show ¬ 0 ≤ idxD (nodIs ls[i].dst) ns by omega])
    have g4' : ¬ idxD (nodIs ls[i].dst) ns < 0 := by omega
    refine callW_of k3 (.inl rfl) ?_
    simp
    by_cases g3 : idxD (nodIs ls[i].src) ns < 0
    · simp [g3]
      exact bad (by simp [fromOk, show ¬ 0 ≤ idxD (nodIs ls[i].src) ns by omega])
    have g3' : 0 ≤ idxD (nodIs ls[i].src) ns := by omega
    have hf := idxD_lt g3'
    obtain ⟨f, hfe⟩ := Int.eq_ofNat_of_zero_le g3'
    rw [hfe] at hf ⊢
    simp at hf
    have e2 : ns[f]! = ns[f] := getElem!_pos ns f hf
    have hfo : fromOk ns ls[i].src = !decide (ns[f].kind = 3) := by
      simp [fromOk, hfe, e2]
    have g3'' : ¬ (f : Int) < 0 := by omega
    simp [hf, nodC, g3'']
    refine brB_of (fun g5 => ?_) (fun g5 => ?_) <;> simp at g5 <;> simp [g5]
    · exact bad (by simp [hfo, g5])
    · simp [hw]
      exact next (by simp [hfo, g5, g1, g2, g4])
  · have hall : (List.range ls.length).all (lnkAt ns ls) = true := by
      rw [List.all_eq_true]
      intro k hk
      exact hj k (by simp at hk; omega)
    rw [hr, hall]
end Go.Gv

set_option linter.unusedSimpArgs false
namespace Go.Gv
theorem lowR_stab {es : List Edg} {out : List Nat} {v : Nat} (h : 0 ≤ lowR es out v) : ∀ k, lowR es out (v + k) = lowR es out v
  | 0 => rfl
  | k + 1 => by
    have ih := lowR_stab h k
    show lowR es out (v + k + 1) = _
    unfold lowR
    rw [ih, if_neg (by omega)]
    cases v with
    | zero => rfl
    | succ v => rfl
theorem lowR_m1 {es : List Edg} {out : List Nat} : ∀ {v : Nat}, lowR es out v < 0 → lowR es out v = -1
  | 0, _ => rfl
  | v + 1, h => by
    unfold lowR at h ⊢
    by_cases h1 : lowR es out v < 0
    · rw [if_pos h1] at h ⊢
      split at h
      · omega
      · rename_i h2; rw [if_neg h2]
    · rw [if_neg h1] at h; exact absurd h h1
def rOrdV (n : Nat) (es : List Edg) : D := if (ordF n es).length = n then ndD (ordF n es) else .nils
variable {C : CC} (hC : Closed prog C)
include hC
theorem rgValid_c {b : Bool} {n : Nat} {es : List Edg} (hn : n ≤ 300) (he : es.length ≤ 1000) (hg : inG n es) : C 489 [.int .i64 n, slx b (es.map edK)] (.bool true) [] := by
  refine start hC (nf := N489_ref08_Valid) rfl rfl ?_
  simp [N489_ref08_Valid]
  have a1 : ¬ (n : Int) < 0 := by omega
  have a2 : ¬ (300 : Int) < n := by omega
  have a3 : ¬ (1000 : Int) < es.length := by omega
  simp [a1, a2, a3]
  refine loop_of Nat (fun j => [(0, .int .i64 n), (1, slx b (es.map edK)), (5, .int .i64 j)]) (fun j => j ≤ es.length) (fun j => es.length - j) 0 (by simp) (by simp) ?_
  rintro j hj
  simp
  refine brB_of (fun h => ?_) (fun h => ?_) <;> simp [h] <;> simp at h
  · have hw : IntKind.wrap .i64 ((j : Int) + 1) = ((j + 1 : Nat) : Int) := wrap_i64 (by omega) (by omega)
    obtain ⟨g1, g2⟩ := hg _ (List.getElem_mem h)
    have b1 : ¬ (es[j].1 : Int) < 0 := by omega
    have b2 : ¬ (n : Int) ≤ es[j].1 := by omega
    have b3 : ¬ (es[j].2 : Int) < 0 := by omega
    have b4 : ¬ (n : Int) ≤ es[j].2 := by omega
    simp [h, edK, knD, b1, b2, b3, b4, hw, show ¬ n ≤ es[j].1 by omega, show ¬ n ≤ es[j].2 by omega]
    exact ⟨j + 1, by omega, by omega, by omega⟩
set_option maxHeartbeats 1000000 in
theorem rgOrder_c {b : Bool} {n : Nat} {es : List Edg} (hn : n ≤ 300) (he : es.length ≤ 1000) (hg : inG n es) : C 490 [.int .i64 n, slx b (es.map edK)] (.tup [rOrdV n es, .bool (decide ((ordF n es).length = n))]) [] := by
  refine start hC (nf := N490_ref08_Order) rfl rfl ?_
  simp [N490_ref08_Order]
  refine ⟨by omega, ?_⟩
  refine loop_of Nat (fun m => [(0, .int .i64 n), (1, slx b (es.map edK)), (6, .ref (.r 10096) 0 n), (10096, .blk 1 (srcsA n (ordN n es m))), (7, .ref (.r 10112) 0 m), (10112, .blk 1 (intL (ordN n es m)))]) (fun m => (ordN n es m).length = m) (fun m => n - m) 0 (by simp [ordN]) (by simp [ordN, intL, srcsA, rep_map]) ?_
  rintro m hm
  have hI := ordN_I n es m
  have hmn := hI.len
  simp
  refine brB_of (fun h => ?_) (fun h => ?_) <;> simp at h
  · simp [h]
    refine loop_of Nat (fun v => [(0, .int .i64 n), (1, slx b (es.map edK)), (6, .ref (.r 10096) 0 n), (10096, .blk 1 (srcsA n (ordN n es m))), (7, .ref (.r 10112) 0 m), (10112, .blk 1 (intL (ordN n es m))), (8, .int .i64 (lowR es (ordN n es m) v)), (9, .int .i64 v)]) (fun v => v ≤ n) (fun v => n - v) 0 (by simp) (by simp [lowR]) ?_
    rintro v hv
    simp
    by_cases g1 : v < n
    · by_cases g2 : lowR es (ordN n es m) v < 0
      · have hw : IntKind.wrap .i64 ((v : Int) + 1) = ((v + 1 : Nat) : Int) := wrap_i64 (by omega) (by omega)
        simp [g1, g2, rowW_some (srcsA_get _ g1)]
        refine brB_of (fun c => ?_) (fun c => ?_) <;> simp at c <;> simp [c]
        · have e1 : lowR es (ordN n es m) (v + 1) = -1 := by rw [lowR, if_pos g2, if_neg (by simp [c])]
          exact ⟨v + 1, by omega, by omega, by rw [e1, lowR_m1 g2], hw⟩
        · refine loop_of Nat (fun j => [(0, .int .i64 n), (1, slx b (es.map edK)), (6, .ref (.r 10096) 0 n), (10096, .blk 1 (srcsA n (ordN n es m))), (7, .ref (.r 10112) 0 m), (10112, .blk 1 (intL (ordN n es m))), (8, .int .i64 (lowR es (ordN n es m) v)), (9, .int .i64 v), (10, .bool (prT es (ordN n es m) v j)), (11, .int .i64 j)]) (fun j => j ≤ es.length) (fun j => es.length - j) 0 (by simp) (by simp [prT, prOk]) ?_
          rintro j hj
          simp
          refine brB_of (fun k => ?_) (fun k => ?_) <;> simp at k <;> simp [k]
          · have hw2 : IntKind.wrap .i64 ((j : Int) + 1) = ((j + 1 : Nat) : Int) := wrap_i64 (by omega) (by omega)
            obtain ⟨i1, i2⟩ := hg _ (List.getElem_mem k)
            have es1 := prT_succ (out := ordN n es m) (v := v) k
            have p1 : (srcsA n (ordN n es m))[es[j].1]? = some [.bool (decide (es[j].1 ∈ ordN n es m))] := srcsA_get _ i1
            by_cases k1 : es[j].2 = v
            · have k1i : (es[j].2 : Int) = v := by omega
              by_cases k2 : es[j].1 ∈ ordN n es m
              · have e3 : prT es (ordN n es m) v (j + 1) = prT es (ordN n es m) v j := by rw [es1]; simp [k2]
                simp [k, edK, knD, k1, k1i, i1, rowW_some p1, k2, hw2]
                exact ⟨j + 1, by omega, by omega, e3.symm, by omega⟩
              · have e3 : prT es (ordN n es m) v (j + 1) = false := by rw [es1]; simp [k1, k2]
                simp [k, edK, knD, k1, k1i, i1, rowW_some p1, k2, hw2]
                exact ⟨j + 1, by omega, by omega, e3, by omega⟩
            · have k1i : ¬ (es[j].2 : Int) = v := by omega
              have e3 : prT es (ordN n es m) v (j + 1) = prT es (ordN n es m) v j := by rw [es1]; simp [k1]
              simp [k, edK, knD, k1, k1i, hw2]
              exact ⟨j + 1, by omega, by omega, by rw [e3], by omega⟩
          · have ej : j = es.length := by omega
            subst ej
            rw [prT_end]
            cases hp : prOk es (ordN n es m) v
            · simp [hw]
              have e1 : lowR es (ordN n es m) (v + 1) = -1 := by rw [lowR, if_pos g2, if_neg (by simp [hp])]
              exact ⟨v + 1, by omega, by omega, by rw [e1, lowR_m1 g2], by omega⟩
            · simp [hw]
              have e1 : lowR es (ordN n es m) (v + 1) = v := by rw [lowR, if_pos g2, if_pos (by simp [hp, c])]
              exact ⟨v + 1, by omega, by omega, by rw [e1], by omega⟩
      · have e1 : lowR es (ordN n es m) n = lowR es (ordN n es m) v := by
          have := lowR_stab (es := es) (out := ordN n es m) (v := v) (by omega) (n - v)
          rwa [show v + (n - v) = n by omega] at this
        obtain ⟨i, r, e2, e3, e4⟩ := lowR_pos (v := n) (es := es) (out := ordN n es m) (by omega)
        have eN := ordN_succ e3
        have e5 : (intL (ordN n es m)).take m = intL (ordN n es m) := List.take_of_length_le (by rw [intL_len]; omega)
        rw [e1] at e2
        have hlt : ¬ (i : Int) < 0 := by omega
        have hsl : (srcsA n (ordN n es m)).length = n := by simp [srcsA]
        have hst : (srcsA n (ordN n es m)).set i [.bool true] = srcsA n (ordN n es (m + 1)) := by rw [srcsA_set, eN]
        simp [g1, e2, hlt, e4, srcsA_get _ e4, intL_len, hm]
        refine ⟨by omega, m + 1, by rw [eN]; simp [hm], by omega, ?_⟩
        rw [e5, intL_app, ← eN, hst]
        simp
    · have ev : v = n := by omega
      rw [ev]
      by_cases g2 : lowR es (ordN n es m) n < 0
      · have e3 := lowR_neg g2
        have eF := ordF_of hm e3
        simp [g2]
        rw [rOrdV, eF, hm, if_neg (by omega)]
        simp
        omega
      · obtain ⟨i, r, e2, e3, e4⟩ := lowR_pos (v := n) (es := es) (out := ordN n es m) (by omega)
        have eN := ordN_succ e3
        have e5 : (intL (ordN n es m)).take m = intL (ordN n es m) := List.take_of_length_le (by rw [intL_len]; omega)
        have hlt : ¬ (i : Int) < 0 := by omega
        have hsl : (srcsA n (ordN n es m)).length = n := by simp [srcsA]
        have hst : (srcsA n (ordN n es m)).set i [.bool true] = srcsA n (ordN n es (m + 1)) := by rw [srcsA_set, eN]
        simp [e2, hlt, e4, srcsA_get _ e4, intL_len, hm]
        refine ⟨by omega, m + 1, by rw [eN]; simp [hm], by omega, ?_⟩
        rw [e5, intL_app, ← eN, hst]
        simp
  · have em : n = m := by omega
    subst em
    have e1 : (intL (ordN n es n)).map (fun e => e.map cellV) = intL (ordN n es n) := by simp [intL, cellV]
    have e2 : (intL (ordN n es n)).take n = intL (ordN n es n) := List.take_of_length_le (by rw [intL_len]; omega)
    have e3 : (ordF n es).length = n := hm
    simp
    rw [e1, e2, rOrdV, if_pos e3, intL_len]
    exact ⟨by omega, rfl, e3⟩
theorem rgTree_c {b : Bool} {n : Nat} {es : List Edg} (hn : n ≤ 300) (he : es.length ≤ 1000) (hg : inG n es) : C 459 [.int .i64 n, slx b (es.map edK)] (.bool (treeF n es)) [] := by
  have k1 := rgValid_c hC (b := b) hn he hg
  have k2 := rgOrder_c hC (b := b) hn he hg
  obtain ⟨r, hr⟩ : ∃ r, r = treeF n es := ⟨_, rfl⟩
  rw [← hr]
  unfold treeF at hr
  refine start hC (nf := N459_ref08_Tree) rfl rfl ?_
  simp [N459_ref08_Tree]
  refine callW_of k1 (.inl rfl) ?_
  simp
  refine loop_of Nat (fun j => [(0, .int .i64 n), (1, slx b (es.map edK)), (5, .int .i64 j)]) (fun j => j ≤ es.length ∧ (srcT es j).Nodup) (fun j => es.length - j) 0 (by simp) (by simp) ?_
  rintro j ⟨hj, hnd⟩
  simp
  refine brB_of (fun h => ?_) (fun h => ?_) <;> simp [h] <;> simp at h
  · have hw : IntKind.wrap .i64 ((j : Int) + 1) = ((j + 1 : Nat) : Int) := wrap_i64 (by omega) (by omega)
    refine loop_of Nat (fun k => [(0, .int .i64 n), (1, slx b (es.map edK)), (5, .int .i64 j), (6, .int .i64 k)]) (fun k => k ≤ j ∧ es[j].1 ∉ srcT es k) (fun k => j - k) 0 (by simp) (by simp) ?_
    rintro k ⟨hk, hnk⟩
    simp
    refine brB_of (fun g => ?_) (fun g => ?_) <;> simp [g] <;> simp at g
    · have hw2 : IntKind.wrap .i64 ((k : Int) + 1) = ((k + 1 : Nat) : Int) := wrap_i64 (by omega) (by omega)
      have hkl : k < es.length := by omega
      simp [h, hkl, edK, knD]
      refine ⟨indW_of (by decide +kernel), ?_⟩
      refine brB_of (fun c => ?_) (fun c => ?_) <;> simp at c <;> simp [c]
      · have c' : es[j].1 = es[k].1 := by omega
        have hbad : ¬ (srcT es (j + 1)).Nodup := by
          rw [srcT_succ h, List.nodup_append]
          rintro ⟨_, _, h3⟩
          refine h3 es[k].1 ?_ _ (by simp) c'.symm
          unfold srcT
          rw [List.mem_map]
          exact ⟨es[k], by rw [List.mem_take_iff_getElem]; exact ⟨k, by omega, rfl⟩, rfl⟩
        simp [hr, srcT_nd hbad]
      · have c' : ¬ es[j].1 = es[k].1 := by omega
        simp [hw2]
        refine ⟨k + 1, ⟨by omega, ?_⟩, by omega, by omega⟩
        rw [srcT_succ hkl]
        simp [hnk, c']
    · have ek : k = j := by omega
      subst ek
      have hnd2 : (srcT es (k + 1)).Nodup := by
        rw [srcT_succ h, List.nodup_append]
        refine ⟨hnd, by simp, fun a ha b hb => ?_⟩
        simp at hb
        subst hb
        rintro rfl
        exact hnk ha
      simp [hw]
      exact ⟨k + 1, ⟨by omega, hnd2⟩, by omega, by omega⟩
  · have ej : j = es.length := by omega
    rw [ej, srcT_end] at hnd
    refine callW_of k2 (.inr rfl) ?_
    unfold rOrdV ndD
    split <;> simp [hr, hnd]
theorem rTree_c (b1 b2 : Bool) (ns : List Nod) (ls : List Lnk) : C 427 [.agg [slx b1 (ns.map nodC), slx b2 (ls.map lnkC)]] (.bool (treeN ns ls)) [] := by
  have k1 := rValid_c hC b1 b2 ns ls
  obtain ⟨r, hr⟩ : ∃ r, r = treeN ns ls := ⟨_, rfl⟩
  rw [← hr]
  unfold treeN at hr
  refine start hC (nf := N427_ref30_Tree) rfl rfl ?_
  simp [N427_ref30_Tree]
  refine callW_of k1 (.inl rfl) ?_
  cases hv : netOk ns ls
  · simp [hr, hv]
  obtain ⟨l1, l2⟩ := netOk_len hv
  have k2 := rEdges_c hC b1 b2 ns ls hv
  have k3 := rgTree_c hC (b := false) (n := ns.length) (es := edgN ns ls) l1 (by rw [edgN_len]; omega) (edgN_in hv)
  rw [hv, Bool.true_and] at hr
  simp
  refine loop_of Nat (fun j => [(1, .ptr [slx b1 (ns.map nodC), slx b2 (ls.map lnkC)]), (3, .int .i64 j)]) (fun j => j ≤ ls.length ∧ ∀ k, (h : k < ls.length) → k < j → ls[k].kind = 1) (fun j => ls.length - j) 0 (by simp) (by simp) ?_
  rintro j ⟨hj, hok⟩
  simp
  refine brB_of (fun h => ?_) (fun h => ?_) <;> simp [h] <;> simp at h
  · have hw : IntKind.wrap .i64 ((j : Int) + 1) = ((j + 1 : Nat) : Int) := wrap_i64 (by omega) (by omega)
    simp [h, lnkC]
    refine brB_of (fun c => ?_) (fun c => ?_) <;> simp at c <;> simp [c]
    · have : ls.all (fun l => decide (l.kind = 1)) = false := by
        rw [List.all_eq_false]
        exact ⟨ls[j], List.getElem_mem h, by simpa using c⟩
      rw [this] at hr
      simpa using hr
    · simp [hw]
      refine ⟨j + 1, ⟨by omega, fun k hk1 hk2 => ?_⟩, by omega, by omega⟩
      rcases Nat.lt_succ_iff_lt_or_eq.1 hk2 with h2 | rfl
      · exact hok k hk1 h2
      · exact c
  · have hall : ls.all (fun l => decide (l.kind = 1)) = true := by
      rw [List.all_eq_true]
      intro l hl
      obtain ⟨k, hk, rfl⟩ := List.mem_iff_getElem.1 hl
      simpa using hok k hk (by omega)
    rw [hall, Bool.true_and] at hr
    refine callW_of k2 (.inr rfl) ?_
    simp at k3 ⊢
    refine callW_of k3 (.inl rfl) ?_
    simp
    exact ⟨indW_of (by decide +kernel), hr.symm⟩
end Go.Gv

set_option linter.unusedSimpArgs false
namespace Go.Gv
abbrev Sp := Int × Int
def fitS (n : Int) : Bool := decide (-72057594037927936 ≤ n) && decide (n ≤ 72057594037927936)
def spOk (s : Sp) : Bool := decide (s.1 ≤ s.2) && fitS s.1 && fitS s.2
def spRg (s : Sp) : Bool := decide (s.1 < 0) || decide (1099511627776 < s.2)
def spsE (l : List Sp) (count : Int) : Int := if l.any (fun s => !spOk s) then 1 else if (l.length : Int) = count then (if l.any spRg then 2 else 0) else 3
def spA (a b : Sp) : Sp := (IntKind.wrap .i64 (a.1 + b.1), IntKind.wrap .i64 (a.2 + b.2))
abbrev FSt := (Nat → Sp) × (Nat → Sp)
/-- Node i is taken: edge k is looked at. -/
def fStep (i k : Nat) (e : Edg) (s : FSt) : FSt := if e.1 = i then (fun v => if v = e.2 then spA (s.1 e.2) (s.1 i) else s.1 v, fun q => if q = k then s.1 i else s.2 q) else s
def flI (es : List Edg) (i : Nat) (s : FSt) : Nat → FSt
  | 0 => s
  | k + 1 => fStep i k es[k]! (flI es i s k)
def flO (es : List Edg) (ord : List Nat) (s : FSt) : Nat → FSt
  | 0 => s
  | m + 1 => flI es ord[m]! (flO es ord s m) es.length
def flS (l : List Sp) : FSt := (fun v => l[v]!, fun _ => (0, 0))
def flowsF (n : Nat) (es : List Edg) (l : List Sp) : List Sp := (List.range es.length).map (flO es (ordF n es) (flS l) (ordF n es).length).2
def bigF (l : List Sp) : Bool := l.any fun s => decide (1099511627776 < s.2)
def flowsE (n : Nat) (es : List Edg) (l : List Sp) : Int := if bigF (flowsF n es l) then 5 else 0
def flowsV (n : Nat) (es : List Edg) (l : List Sp) : D := if bigF (flowsF n es l) then .nils else .sl ((flowsF n es l).map knD)
def spR (n : Nat) (f : Nat → Sp) : List (List D) := (List.range n).map fun v => knD (f v)
theorem spR_eq (n : Nat) (f : Nat → Sp) : spR n f = ((List.range n).map f).map knD := by simp [spR]
theorem spR_V (n : Nat) (f : Nat → Sp) : (spR n f).map (fun e => e.map cellV) = spR n f := by
  unfold spR
  rw [List.map_map]
  apply List.map_congr_left
  intro v _
  simp [knD, cellV]
theorem spR_len (n : Nat) (f : Nat → Sp) : (spR n f).length = n := by simp [spR]
theorem spR_get {n v : Nat} (f : Nat → Sp) (h : v < n) : (spR n f)[v]? = some [.int .i64 (f v).1, .int .i64 (f v).2] := by simp [spR, h, knD]
theorem spR_set {n v : Nat} (f : Nat → Sp) (x : Sp) : (spR n f).set v [.int .i64 x.1, .int .i64 x.2] = spR n fun u => if u = v then x else f u := by
  unfold spR
  rw [set_rm]
  apply List.map_congr_left
  intro u _
  by_cases h : u = v <;> simp [h, knD]
variable {C : CC} (hC : Closed prog C)
include hC
theorem fitS_c (n : Int) : C 510 [.int .i64 n] (.bool (fitS n)) [] := by
  refine start hC (nf := N510_span_fits) rfl rfl ?_
  simp [N510_span_fits, fitS]
  refine brB_of (fun h => ?_) (fun h => ?_) <;> simp at h <;> simp [h]
  intro _; omega
theorem spOk_c (s : Sp) : C 493 [.agg (knD s)] (.bool (spOk s)) [] := by
  refine start hC (nf := N493_span_Valid) rfl rfl ?_
  simp [N493_span_Valid, knD]
  refine brB_of (fun h => ?_) (fun h => ?_) <;> simp at h <;> simp [h]
  · refine callW_of (fitS_c hC s.1) (.inl rfl) ?_
    cases h1 : fitS s.1
    · simp [spOk, h1]
    · simp
      refine callW_of (fitS_c hC s.2) (.inl rfl) ?_
      simp [spOk, h1, h]
  · simp [spOk, show ¬ s.1 ≤ s.2 by omega]
theorem spBad_c (s : Sp) : C 492 [.agg (knD s)] (.bool (!spOk s)) [] := by
  have k := spOk_c hC s
  simp only [knD] at k
  refine start hC (nf := N492_steady_spans_1) rfl rfl ?_
  simp [N492_steady_spans_1, knD]
  refine callW_of k (.inl rfl) ?_
  simp
theorem spRg_c (s : Sp) : C 494 [.agg (knD s)] (.bool (spRg s)) [] := by
  refine start hC (nf := N494_steady_spans_2) rfl rfl ?_
  simp [N494_steady_spans_2, knD, spRg]
  by_cases h : s.1 < 0 <;> simp [h]
theorem spBig_c (s : Sp) : C 497 [.agg (knD s)] (.bool (decide (1099511627776 < s.2))) [] := by
  refine start hC (nf := N497_steady_flows_1) rfl rfl ?_
  simp [N497_steady_flows_1, knD]
theorem idxSp_c {b : Bool} {xs : List (Int × Int)} {g : Nat} {cs : List D} (p : (Int × Int) → Bool) (hs : xs.length < 2 ^ 62) (hp : ∀ x ∈ xs, C g (.agg (knD x) :: cs) (.bool (p x)) []) : C 509 [slx b (xs.map fun x => knD x), .fn g cs] (.int .i64 (idxD p xs)) [] := by
  refine start hC (nf := N509_slices_IndexFunc__api_Span_api_Span) rfl rfl ?_
  simp [N509_slices_IndexFunc__api_Span_api_Span]
  refine loop_of Nat (fun i => [(0, slx b (xs.map fun x => knD x)), (1, .fn g cs), (7, .int .i64 xs.length), (8, .int .i64 i)]) (fun i => i ≤ xs.length ∧ ∀ (j : Nat) (h : j < xs.length), j < i → p xs[j] = false) (fun i => xs.length - i) 0 (by simp) (by simp) ?_
  rintro i ⟨hi, hj⟩
  simp
  refine brB_of (fun h => ?_) (fun h => ?_) <;> simp [h] <;> simp at h
  · have hw : IntKind.wrap .i64 ((i : Int) + 1) = ((i + 1 : Nat) : Int) := wrap_i64 (by omega) (by omega)
    have hc := hp _ (List.getElem_mem h)
    simp [h, knD] at hc ⊢
    refine callW_of hc (.inl rfl) ?_
    simp
    refine brB_of (fun h1 => ?_) (fun h1 => ?_) <;> simp [h1, hw]
    · rw [idxD_step hj h h1]
    · refine ⟨i + 1, ⟨by omega, fun j hl hjj => ?_⟩, by omega, rfl⟩
      rcases Nat.lt_succ_iff_lt_or_eq.1 hjj with h2 | rfl
      · exact hj j hl h2
      · exact h1
  · rw [idxD_none (fun j hl => hj j hl (by omega))]
theorem hasSp_c {b : Bool} {xs : List (Int × Int)} {g : Nat} {cs : List D} (p : (Int × Int) → Bool) (hs : xs.length < 2 ^ 62) (hp : ∀ x ∈ xs, C g (.agg (knD x) :: cs) (.bool (p x)) []) : C 491 [slx b (xs.map fun x => knD x), .fn g cs] (.bool (xs.any p)) [] := by
  refine start hC (nf := N491_slices_ContainsFunc__api_Span_api_Span) rfl rfl ?_
  simp [N491_slices_ContainsFunc__api_Span_api_Span]
  refine callW_of (idxSp_c hC p hs hp) (.inl rfl) ?_
  simp [idxD_any]
theorem spans_c (b : Bool) (l : List Sp) (count : Int) (hl : l.length < 2 ^ 62) : C 460 [slx b (l.map knD), .int .i64 count] (.int .i64 (spsE l count)) [] := by
  have k1 := hasSp_c hC (b := b) (xs := l) (g := 492) (cs := []) (fun s => !spOk s) hl (fun x _ => spBad_c hC x)
  have k2 := hasSp_c hC (b := b) (xs := l) (g := 494) (cs := []) spRg hl (fun x _ => spRg_c hC x)
  refine start hC (nf := N460_steady_spans) rfl rfl ?_
  simp [N460_steady_spans]
  refine callW_of k1 (.inl rfl) ?_
  unfold spsE
  cases h1 : l.any (fun s => !spOk s)
  · simp
    by_cases h2 : (l.length : Int) = count
    · simp [h2]
      refine callW_of k2 (.inl rfl) ?_
      cases h3 : l.any spRg <;> simp [h2]
    · simp [h2]
  · simp
theorem cloneSp_c (b : Bool) (l : List Sp) (hl : l.length < 2 ^ 40) : C 496 [slx b (l.map knD)] .any [.own 2 (l.map knD)] := by
  have hf : ∀ e ∈ l.map knD, e.length = 2 ∧ (∀ c ∈ e, isC1 c = true) ∧ ∀ c ∈ e, isF1 c = true := by
    intro e he
    obtain ⟨s, _, rfl⟩ := List.mem_map.1 he
    simp [knD, isC1, isF1]
  cases l with
  | nil =>
    cases b with
    | true =>
      show C 496 [.nils] .any [.own 2 []]
      refine startF hC (nf := N496_slices_Clone__api_Span_api_Span) rfl rfl ?_
      simp [N496_slices_Clone__api_Span_api_Span]
    | false =>
      show C 496 [.sl []] .any [.own 2 []]
      refine startF hC (nf := N496_slices_Clone__api_Span_api_Span) rfl rfl ?_
      simp [N496_slices_Clone__api_Span_api_Span]
  | cons x xs =>
    have e : slx b ((x :: xs).map knD) = .sl ((x :: xs).map knD) := by cases b <;> rfl
    rw [e]
    obtain ⟨l, hl2⟩ : ∃ l, l = (x :: xs).map knD := ⟨_, rfl⟩
    have h : 0 < l.length := by rw [hl2]; simp
    have h2 : l.length < 1099511627776 := by rw [hl2]; simpa using hl
    rw [← hl2] at hf ⊢
    clear hl2 e hl
    refine startF hC (nf := N496_slices_Clone__api_Span_api_Span) rfl rfl ?_
    simp [N496_slices_Clone__api_Span_api_Span]
    refine ⟨fun _ => ⟨fun e he => ⟨(hf e he).1, (hf e he).2.1⟩, by omega, fun e he => (hf e he).2.2⟩, fun h0 => ?_⟩
    subst h0
    simp at h
set_option maxRecDepth 20000 in
set_option maxHeartbeats 2000000 in
theorem sFlows_c (hS : SlC C) (b1 b2 b : Bool) (ns : List Nod) (ls : List Lnk) (l : List Sp) (hcv : ∀ l ∈ ls, l.curve.length < 2 ^ 62) (ht : treeN ns ls = true) (hl : l.length = ns.length) : C 461 [.agg [slx b1 (ns.map nodC), slx b2 (ls.map lnkC)], slx b (l.map knD)] (.tup [flowsV ns.length (edgN ns ls) l, .int .i64 (flowsE ns.length (edgN ns ls) l)]) [] := by
  simp only [treeN, treeF, Bool.and_eq_true, decide_eq_true_eq] at ht
  obtain ⟨⟨hv, _⟩, _, hlen⟩ := ht
  obtain ⟨l1, l2⟩ := netOk_len hv
  have k1 := NOrder_c hC hS b1 b2 ns ls hcv
  have k2 := NEdges_c hC b1 b2 ns ls hcv
  have k3 := cloneSp_c hC b l (by omega)
  have hg := edgN_in hv
  have hel := edgN_len ns ls
  rw [hv] at k1 k2
  rw [ordV, ordE, hlen, if_neg (Nat.lt_irrefl _), if_neg (Nat.lt_irrefl _)] at k1
  simp only [if_true] at k1 k2
  refine start hC (nf := N461_steady_flows) rfl rfl ?_
  simp [N461_steady_flows]
  refine callW_of k1 (.inr rfl) ?_
  simp [ndD]
  refine callW_of k2 (.inr rfl) ?_
  have hfv : flowsF ns.length (edgN ns ls) l = (List.range (edgN ns ls).length).map (flO (edgN ns ls) (ordF ns.length (edgN ns ls)) (flS l) ns.length).2 := by unfold flowsF; rw [hlen]
  have hI := ordN_I ns.length (edgN ns ls) ns.length
  have hIl : ∀ v ∈ ordF ns.length (edgN ns ls), v < ns.length := hI.lt
  clear hI
  unfold flowsV flowsE
  rw [hfv]
  clear hfv
  generalize ordF ns.length (edgN ns ls) = ord at *
  generalize edgN ns ls = es at *
  generalize ns.length = n at *
  simp [← hel]
  refine ⟨by omega, ?_⟩
  refine callFW_of k3 ?_
  simp [hl]
  refine loop_of Nat (fun m => [(8, .sl (es.map edK)), (9, .ref (.r 10144) 0 es.length), (10144, .blk 2 (spR es.length (flO es ord (flS l) m).2)), (10, .ref (.r 10160) 0 n), (10160, .blk 2 (spR n (flO es ord (flS l) m).1)), (38, .sl (intL ord)), (39, .int .i64 n), (40, .int .i64 m)]) (fun m => m ≤ n) (fun m => n - m) 0 (by simp) (by
    simp [flO, flS, hl, intL_len, hlen]
    refine ⟨by simp [spR, rep_map, knD], ?_⟩
    apply List.ext_getElem
    · simp [spR, hl]
    · intro i h1 h2
      have : i < l.length := by simpa using h1
      simp [spR, this]) ?_
  rintro m hm
  simp
  refine brB_of (fun h => ?_) (fun h => ?_) <;> simp [h] <;> simp at h
  · have hw : IntKind.wrap .i64 ((m : Int) + 1) = ((m + 1 : Nat) : Int) := wrap_i64 (by omega) (by omega)
    have hmo : m < ord.length := by omega
    have hin := hIl _ (List.getElem_mem hmo)
    simp [idxW_some (intL_get hmo)]
    refine loop_of Nat (fun k => [(8, .sl (es.map edK)), (9, .ref (.r 10144) 0 es.length), (10144, .blk 2 (spR es.length (flI es ord[m] (flO es ord (flS l) m) k).2)), (10, .ref (.r 10160) 0 n), (10160, .blk 2 (spR n (flI es ord[m] (flO es ord (flS l) m) k).1)), (12, .int .i64 ord[m]), (38, .sl (intL ord)), (39, .int .i64 n), (40, .int .i64 m), (44, .sl (es.map edK)), (45, .int .i64 es.length), (46, .int .i64 k)]) (fun k => k ≤ es.length) (fun k => es.length - k) 0 (by simp) (by simp [flI]) ?_
    rintro k hk
    simp
    refine brB_of (fun g => ?_) (fun g => ?_) <;> simp [g] <;> simp at g
    · have hw2 : IntKind.wrap .i64 ((k : Int) + 1) = ((k + 1 : Nat) : Int) := wrap_i64 (by omega) (by omega)
      have he := hg _ (List.getElem_mem g)
      have eg : es[k]! = es[k] := getElem!_pos es k g
      have efl : flI es ord[m] (flO es ord (flS l) m) (k + 1) = fStep ord[m] k es[k] (flI es ord[m] (flO es ord (flS l) m) k) := by rw [flI, eg]
      generalize flI es ord[m] (flO es ord (flS l) m) k = s at *
      simp [g, edK, knD]
      refine brB_of (fun c => ?_) (fun c => ?_) <;> simp at c <;> simp [c]
      · have c' : es[k].1 ≠ ord[m] := by omega
        have e2 : flI es ord[m] (flO es ord (flS l) m) (k + 1) = s := by rw [efl, fStep, if_neg c']
        refine ⟨k + 1, by omega, by omega, ?_⟩
        simp [e2, hw2]
      · have eg2 : es[k] = es[k]?.getD default := by simp [g]
        have c' : es[k].1 = ord[m] := by omega
        have e2 : flI es ord[m] (flO es ord (flS l) m) (k + 1) = (fun v => if v = es[k].2 then spA (s.1 es[k].2) (s.1 ord[m]) else s.1 v, fun q => if q = k then s.1 ord[m] else s.2 q) := by rw [efl, fStep, if_pos c']
        simp [g, edK, knD, hin, he, rowW_some (spR_get _ hin), spR_get _ g, rowW_some (spR_get _ he.2), spR_get _ he.2]
        have hset : ∀ x, ((spR n s.1).set es[k].2 x)[es[k].2]? = some x := fun x => by simp [spR_len, he.2]
        simp [hset]
        refine ⟨indW_of (by decide +kernel), ?_⟩
        simp [hw2]
        refine ⟨k + 1, by omega, by omega, ?_, ?_, by omega⟩
        · rw [e2, spR_set]
        · rw [e2]
          have := spR_set (n := n) (v := es[k].2) s.1 (spA (s.1 es[k].2) (s.1 ord[m]))
          exact this
    · have ek : k = es.length := by omega
      subst ek
      have eo : ord[m]! = ord[m] := getElem!_pos ord m hmo
      have e2 : flO es ord (flS l) (m + 1) = flI es ord[m] (flO es ord (flS l) m) es.length := by rw [flO, eo]
      exact ⟨m + 1, by omega, by omega, by rw [e2], by rw [e2], hw⟩
  · have em : m = n := by omega
    subst em
    have k4 := hasSp_c hC (b := false) (xs := (List.range es.length).map (flO es ord (flS l) m).2) (g := 497) (cs := []) (fun s => decide (1099511627776 < s.2)) (by simp; omega) (fun x _ => spBig_c hC x)
    rw [slx_false, ← spR_eq] at k4
    simp only [spR_V, spR_len, List.take_of_length_le (Nat.le_of_eq (spR_len es.length (flO es ord (flS l) m).2))]
    refine ⟨Nat.le_refl _, ?_⟩
    refine callW_of k4 (.inl rfl) ?_
    show dW _ _ _ _ _ _ _ _ _ (.bool (bigF ((List.range es.length).map (flO es ord (flS l) m).2)))
    cases hb : bigF ((List.range es.length).map (flO es ord (flS l) m).2)
    · simp [spR_V, spR_len]
      rw [List.take_of_length_le (by rw [spR_len]; exact Nat.le_refl _)]
      simp [spR]
    · simp
def FlowsE (ns : List Nod) (ls : List Lnk) (l : List Sp) : Int := if treeN ns ls then (if spsE l ns.length = 0 then flowsE ns.length (edgN ns ls) l else spsE l ns.length) else 1
def FlowsV (ns : List Nod) (ls : List Lnk) (l : List Sp) : D := if FlowsE ns ls l = 0 then .sl ((flowsF ns.length (edgN ns ls) l).map knD) else .nils
theorem spsE_len {l : List Sp} {n : Nat} (h : spsE l n = 0) : l.length = n := by
  unfold spsE at h
  split at h
  · cases h
  · split at h
    · omega
    · cases h
theorem Flows_c (hS : SlC C) (b1 b2 b : Bool) (ns : List Nod) (ls : List Lnk) (l : List Sp) (hls : ls.length < 2 ^ 62) (hl : l.length < 2 ^ 62) (hcv : ∀ l ∈ ls, l.curve.length < 2 ^ 62) : C 428 [.agg [slx b1 (ns.map nodC), slx b2 (ls.map lnkC)], slx b (l.map knD)] (.tup [FlowsV ns ls l, .int .i64 (FlowsE ns ls l)]) [] := by
  have k1 := sTree_c hC hS b1 b2 ns ls hls hcv
  have k2 := spans_c hC b l ns.length hl
  refine start hC (nf := N428_steady_Flows) rfl rfl ?_
  simp [N428_steady_Flows]
  refine callW_of k1 (.inl rfl) ?_
  unfold FlowsV FlowsE
  cases ht : treeN ns ls
  · simp
  simp
  refine callW_of k2 (.inl rfl) ?_
  by_cases h0 : spsE l ns.length = 0
  · have k3 := sFlows_c hC hS b1 b2 b ns ls l hcv ht (spsE_len hC h0)
    simp [h0]
    unfold flowsV flowsE at k3
    unfold flowsE
    refine callW_of k3 (.inr rfl) ?_
    cases hb : bigF (flowsF ns.length (edgN ns ls) l) <;> simp [h0]
  · simp [h0]
end Go.Gv

set_option linter.unusedSimpArgs false
namespace Go.Gv

def catValid (l : List Sec) : Bool := decide (l.length ≤ 40) && l.all secValid && decide ((l.map (·.name)).Nodup)
def namesK (l : List Sec) : List D := ((l.map (·.name)).reverse).map D.str

theorem mpGet_set : ∀ (xs : List (List UInt8)) (n : Nat), n = xs.length → ∀ s, (mpGet (xs.map D.str) (List.replicate n (.bool true)) (.str s)).getD (.bool false) = .bool (decide (s ∈ xs))
  | [], n, h, s => by simp [mpGet]
  | x :: xs, n, h, s => by
    obtain ⟨m, rfl⟩ : ∃ m, n = m + 1 := ⟨n - 1, by simp at h; omega⟩
    have ih := mpGet_set xs m (by simpa using h) s
    simp only [List.map_cons, List.replicate_succ, mpGet, eqD, eqD1, decide_eq_true_eq]
    by_cases e : s = x
    · subst e; simp
    · rw [if_neg e, ih]; simp [e]

variable {C : CC} (hC : Closed prog C)
include hC
theorem catValid_c (b : Bool) (l : List Sec) : C 44 [slx b (l.map secC)] (.bool (catValid l)) [] := by
  refine start hC (nf := N44_catalogue_Valid) rfl rfl ?_
  simp [N44_catalogue_Valid]
  refine brB_of (fun h => ?_) (fun h => ?_) <;> simp at h
  · simp [catValid]; omega
  simp
  refine loop_of Nat (fun i => [(3, .mrf 10144), (10144, .mp 0 1 (namesK (l.take i)) (List.replicate i (.bool true))), (10, slx b (l.map secC)), (11, .int .i64 l.length), (12, .int .i64 i)])
    (fun i => i ≤ l.length ∧ (∀ x ∈ l.take i, secValid x = true) ∧ ((l.map (·.name)).take i).Nodup) (fun i => l.length - i) 0 (by simp) (by simp [namesK]) ?_
  rintro i ⟨hi, hv, hn⟩
  simp
  refine brB_of (fun h3 => ?_) (fun h3 => ?_) <;> simp at h3
  · have ht : l.take (i + 1) = l.take i ++ [l[i]] := List.take_succ_eq_append_getElem h3
    have hg := mpGet_set ((l.take i).map (·.name)).reverse i (by simp; omega) l[i].name
    rw [show ((l.take i).map (·.name)).reverse.map D.str = namesK (l.take i) from rfl] at hg
    have hk : D.str l[i].name :: namesK (l.take i) = namesK (l.take (i + 1)) := by
      rw [namesK, namesK, ht]
      simp only [List.map_append, List.map_cons, List.map_nil, List.reverse_append, List.reverse_cons, List.reverse_nil, List.nil_append, List.cons_append]
    have hlen : (namesK (l.take i)).length < maxLen := by
      have : (namesK (l.take i)).length ≤ 40 := by simp [namesK]; omega
      unfold maxLen; omega
    have hw : IntKind.wrap .i64 ((i : Int) + 1) = ((i + 1 : Nat) : Int) := wrap_i64 (by omega) (by omega)
    have bad1 : secValid l[i] = false → catValid l = false := fun e => by
      simp only [catValid, Bool.and_eq_false_iff, List.all_eq_false]
      exact .inl (.inr ⟨l[i], List.getElem_mem h3, by simp [e]⟩)
    have h5 : (l.map (·.name)).take (i + 1) = (l.map (·.name)).take i ++ [l[i].name] := by
      rw [List.take_succ_eq_append_getElem (by simpa using h3)]; simp
    have bad2 : l[i].name ∈ (l.map (·.name)).take i → catValid l = false := fun e => by
      simp only [catValid, Bool.and_eq_false_iff, decide_eq_false_iff_not]
      right
      intro hnd
      have h6 := (List.take_sublist (i + 1) _).nodup hnd
      rw [h5, List.nodup_append] at h6
      exact h6.2.2 _ e _ (by simp) rfl
    simp [h3, secC]
    have hvc := valid_c hC l[i]
    rw [secC] at hvc
    refine callW_of hvc (.inl rfl) ?_
    cases hvi : secValid l[i]
    · simp [bad1 hvi]
    · have hnm : l[i].name.length ≤ maxLen := by
        simp only [secValid, isName, Bool.and_eq_true, decide_eq_true_eq] at hvi
        unfold maxLen; omega
      simp [hg, hnm]
      refine brB_of (fun h4 => ?_) (fun h4 => ?_) <;> simp [h4] <;> simp at h4
      · exact bad2 h4
      · simp [hlen, hnm, hw]
        refine ⟨i + 1, ⟨by omega, ?_, ?_⟩, by omega, ⟨hk, ?_⟩, rfl⟩
        · intro x hx
          rw [ht] at hx
          rcases List.mem_append.1 hx with hx | hx
          · exact hv x hx
          · simp at hx; subst hx; exact hvi
        · rw [h5, List.nodup_append]
          refine ⟨hn, by simp, fun a ha b hb => ?_⟩
          simp at hb
          subst hb
          rintro rfl
          exact h4 ha
        · rw [List.replicate_succ]
  · have hil : i = l.length := by omega
    subst hil
    rw [List.take_of_length_le (by simp)] at hn
    simp at hv
    simp [catValid, hn]
    exact ⟨by omega, hv⟩
end Go.Gv

set_option linter.unusedSimpArgs false
namespace Go.Gv
variable {C : CC} (hC : Closed prog C)
include hC
theorem rfits_c (b : Bool) (t : List (Int × Int)) (hgt most : Int) : C 55 [slx b (t.map knD), .int .i64 hgt, .int .i64 most] (.bool (curveOk t hgt most)) [] := by
  refine start hC (nf := N55_ref28_fits) rfl rfl ?_
  simp [N55_ref28_fits]
  refine callW_of (rTable_c hC b t) (.inl rfl) ?_
  cases hv : tableValid t
  · simp [curveOk, hv]
  obtain ⟨l1, l2⟩ := valid_len hv
  obtain ⟨n, hn⟩ : ∃ n, n + 1 = t.length := ⟨t.length - 1, by omega⟩
  have e1 : IntKind.wrap .i64 ((t.length : Int) - 1) = (n : Int) := wrap_i64 (by omega) (by omega)
  have hnl : n < t.length := by omega
  have h0 : 0 < t.length := by omega
  have e0 : t[0]! = t[0] := getElem!_pos t 0 h0
  simp [e1, hnl, h0, knD]
  rw [curveOk, lastK_get hn, e0, hv]
  refine brB_of (fun c => ?_) (fun c => ?_) <;> simp [h0, knD] at c <;> simp [c, h0, hnl, knD]
  refine brB_of (fun c2 => ?_) (fun c2 => ?_) <;> simp [h0, knD] at c2 <;> simp [c2, h0, hnl, knD]
  refine brB_of (fun c3 => ?_) (fun c3 => ?_) <;> simp [h0, knD] at c3 <;> simp [c3, h0, hnl, knD]
  exact fun _ => ⟨c, c2⟩
theorem rRight_c (s : Sec) : C 48 [.agg (secC s)] (.bool (secValid s)) [] := by
  refine start hC (nf := N48_ref28_Right) rfl rfl ?_
  simp [N48_ref28_Right, secC]
  refine callW_of (rIsName_c hC s.name) (.inl rfl) ?_
  cases h1 : isName s.name
  · simp [secValid, h1]
  simp
  refine brB_of (fun c1 => ?_) (fun c1 => ?_) <;> simp [c1] <;> simp at c1
  · simp [secValid]; omega
  refine brB_of (fun c2 => ?_) (fun c2 => ?_) <;> simp [c2] <;> simp at c2
  · simp [secValid]; omega
  refine brB_of (fun c3 => ?_) (fun c3 => ?_) <;> simp [c3] <;> simp at c3
  · simp [secValid]; omega
  refine brB_of (fun c4 => ?_) (fun c4 => ?_) <;> simp [c4] <;> simp at c4
  · simp [secValid]; omega
  refine callW_of (rfits_c hC _ _ _ _) (.inl rfl) ?_
  cases h5 : curveOk s.area s.height 1073741824
  · simp [secValid, h5]
  simp
  refine callW_of (rfits_c hC _ _ _ _) (.inl rfl) ?_
  have d1 : 1 ≤ s.height := by omega
  simp [secValid, h1, d1, c2, c3, c4, h5]
end Go.Gv

set_option linter.unusedSimpArgs false
namespace Go.Gv

structure Job where
  below : SlI
  lengths : SlI
  flows : SlI
  falls : SlI
  room : SlI
  secN : Bool
  secs : List Sec
  deriving Inhabited
def jobC (j : Job) : List D := [slI j.below, slI j.lengths, slI j.flows, slI j.falls, slI j.room, slx j.secN (j.secs.map secC)]
def manySec (s : Sec) : Bool := decide (20 < s.area.length) || decide (20 < s.conv.length) || decide (60 < s.name.length)
def manyF (l : List Sec) : Bool := decide (8 < l.length) || l.any manySec
def largeF (j : Job) : Bool := decide (12 < j.below.l.length) || decide (12 < j.lengths.l.length) || decide (12 < j.flows.l.length) || decide (12 < j.falls.l.length) || decide (12 < j.room.l.length) || manyF j.secs
def inR (n a b : Int) : Bool := a ≤ n && n ≤ b
def pipeOk (j : Job) (i : Nat) : Bool := (j.below.l[i]! == -1 || (decide ((i : Int) < j.below.l[i]!) && decide (j.below.l[i]! < j.below.l.length))) && inR j.lengths.l[i]! 1 16777216 && inR j.flows.l[i]! 0 1099511627776 && inR j.falls.l[i]! 0 4194304 && inR j.room.l[i]! 0 4194304
def jobValid (j : Job) : Bool := decide (j.below.l.length ≤ 400) && decide (j.lengths.l.length = j.below.l.length) && decide (j.flows.l.length = j.below.l.length) && decide (j.falls.l.length = j.below.l.length) && decide (j.room.l.length = j.below.l.length) && decide (0 < j.secs.length) && catValid j.secs && (List.range j.below.l.length).all (pipeOk j)

@[simp] theorem slI_slx {x : SlI} : slI x = slx x.n (x.l.map fun n => [.int .i64 n]) := _root_.id rfl

variable {C : CC} (hC : Closed prog C)
include hC
end Go.Gv

set_option linter.unusedSimpArgs false
namespace Go.Gv

def nameIs (nm : List UInt8) (s : Sec) : Bool := s.name == nm
/-- A catalogue is valid if each section is, and is the first one with its name. -/
theorem catValid_iff (l : List Sec) : catValid l = true ↔ l.length ≤ 40 ∧ (∀ (i : Nat) (h : i < l.length), secValid l[i] = true ∧ idxD (nameIs l[i].name) l = i) := by
  simp only [catValid, Bool.and_eq_true, decide_eq_true_eq, List.all_eq_true]
  constructor
  · rintro ⟨⟨h1, h2⟩, h3⟩
    refine ⟨h1, fun i h => ⟨h2 _ (List.getElem_mem h), ?_⟩⟩
    refine idxD_step (fun k hk hki => ?_) h (by simp [nameIs])
    rw [nameIs, beq_eq_false_iff_ne]
    intro e
    exact List.pairwise_iff_getElem.1 h3 k i (by simpa using hk) (by simpa using h) hki (by simpa using e)
  · rintro ⟨h1, h2⟩
    refine ⟨⟨h1, fun x hx => ?_⟩, ?_⟩
    · obtain ⟨i, h, rfl⟩ := List.getElem_of_mem hx
      exact (h2 i h).1
    · refine List.pairwise_iff_getElem.2 fun a b ha hb hab e => ?_
      simp only [List.length_map] at ha hb
      simp only [List.getElem_map] at e
      have h3 := (h2 b hb).2
      have h4 : ∃ k, k ≤ a ∧ idxD (nameIs l[b].name) l = (k : Int) := by
        unfold idxD
        cases hf : l.findIdx? (nameIs l[b].name) with
        | none =>
          rw [List.findIdx?_eq_none_iff] at hf
          have := hf l[a] (List.getElem_mem _)
          simp [nameIs, e] at this
        | some k =>
          refine ⟨k, ?_, rfl⟩
          rw [List.findIdx?_eq_some_iff_getElem] at hf
          obtain ⟨q1, q2, q3⟩ := hf
          rcases Nat.lt_or_ge a k with hak | hak
          · exact absurd (by simp [nameIs, e]) (q3 a hak)
          · exact hak
      obtain ⟨k, h5, h6⟩ := h4
      omega

variable {C : CC} (hC : Closed prog C)
include hC
theorem rFind_c (b : Bool) (l : List Sec) (nm : List UInt8) (hl : l.length < 2 ^ 62) : C 49 [slx b (l.map secC), .str nm] (.int .i64 (idxD (nameIs nm) l)) [] := by
  refine start hC (nf := N49_ref28_Find) rfl rfl ?_
  simp [N49_ref28_Find]
  refine loop_of Nat (fun i => [(0, slx b (l.map secC)), (1, .str nm), (5, .int .i64 i)]) (fun i => i ≤ l.length ∧ ∀ (k : Nat) (h : k < l.length), k < i → nameIs nm l[k] = false) (fun i => l.length - i) 0 (by simp) (by simp) ?_
  rintro i ⟨hi, hj⟩
  simp
  refine brB_of (fun h => ?_) (fun h => ?_) <;> simp at h <;> simp [h]
  · have hw : IntKind.wrap .i64 ((i : Int) + 1) = ((i + 1 : Nat) : Int) := wrap_i64 (by omega) (by omega)
    simp [h, secC]
    refine brB_of (fun h2 => ?_) (fun h2 => ?_) <;> simp at h2 <;> simp [h2, hw]
    · rw [idxD_step hj h (by simp [nameIs, h2])]
    · refine ⟨i + 1, ⟨by omega, fun k hk hki => ?_⟩, by omega, by simp⟩
      rcases Nat.lt_succ_iff_lt_or_eq.1 hki with h5 | rfl
      · exact hj k hk h5
      · simp [nameIs, h2]
  · rw [idxD_none (fun k hk => hj k hk (by omega))]
theorem rcat_c (b : Bool) (l : List Sec) : C 33 [slx b (l.map secC)] (.bool (catValid l)) [] := by
  refine start hC (nf := N33_ref28_Valid) rfl rfl ?_
  simp [N33_ref28_Valid]
  refine brB_of (fun h => ?_) (fun h => ?_) <;> simp at h
  · simp [catValid]; omega
  simp
  have hcv := catValid_iff l
  refine loop_of Nat (fun i => [(0, slx b (l.map secC)), (3, .int .i64 i)]) (fun i => i ≤ l.length ∧ ∀ (k : Nat) (h : k < l.length), k < i → secValid l[k] = true ∧ idxD (nameIs l[k].name) l = k) (fun i => l.length - i) 0 (by simp) (by simp) ?_
  rintro i ⟨hi, hj⟩
  simp
  refine brB_of (fun h3 => ?_) (fun h3 => ?_) <;> simp at h3 <;> simp [h3]
  · have hw : IntKind.wrap .i64 ((i : Int) + 1) = ((i + 1 : Nat) : Int) := wrap_i64 (by omega) (by omega)
    have bad : ¬ (secValid l[i] = true ∧ idxD (nameIs l[i].name) l = i) → catValid l = false := fun e => by
      rw [← Bool.not_eq_true]
      exact fun e2 => e ((hcv.1 e2).2 i h3)
    have hr := rRight_c hC l[i]
    have hf := rFind_c hC b l l[i].name (by omega)
    simp [h3, secC]
    simp [secC] at hr
    refine callW_of hr (.inl rfl) ?_
    cases hs : secValid l[i]
    · simp
      exact bad (by simp [hs])
    simp [h3, secC]
    refine callW_of hf (.inl rfl) ?_
    simp
    refine brB_of (fun h4 => ?_) (fun h4 => ?_) <;> simp at h4 <;> simp [h4]
    · exact bad (fun e => h4 e.2)
    · simp [hw]
      refine ⟨i + 1, ⟨by omega, fun k hk hki => ?_⟩, by omega, by simp⟩
      rcases Nat.lt_succ_iff_lt_or_eq.1 hki with h5 | rfl
      · exact hj k hk h5
      · exact ⟨hs, h4⟩
  · rw [hcv.2 ⟨by omega, fun k hk => hj k hk (by omega)⟩]
end Go.Gv

set_option linter.unusedSimpArgs false
namespace Go.Gv
open Go.Lib

variable {C : CC} (hC : Closed prog C)
include hC
end Go.Gv

set_option linter.unusedSimpArgs false
namespace Go.Gv

/-- A quotient, bit by bit: a is what is left of x, shifted. -/
def DvS (x b i a q r : Nat) : Prop := i ≤ 128 ∧ r < b ∧ ∃ c, a = c * 2 ^ i ∧ c < 2 ^ (128 - i) ∧ (q * b + r) * 2 ^ (128 - i) + c = x
theorem DvS.step {x b i a q r : Nat} (h : DvS x b i a q r) (hi : i < 128) (hb : 0 < b) :
    a < 340282366920938463463374607431768211456 ∧ 2 * q ≤ x ∧
    ∀ w r' a', 2 * r + a / 170141183460469231731687303715884105728 = w * b + r' → r' < b → a' = 2 * a % 340282366920938463463374607431768211456 → DvS x b (i + 1) a' (2 * q + w) r' ∧ 2 * q + w ≤ x := by
  obtain ⟨_, hr, c, h1, h2, h3⟩ := h
  obtain ⟨m, hm⟩ : ∃ m, m + 1 = 128 - i := ⟨127 - i, by omega⟩
  have hm2 : m = 128 - (i + 1) := by omega
  rw [← hm, Nat.pow_succ] at h2 h3
  obtain ⟨V, hV⟩ : ∃ V, V = 2 ^ m := ⟨_, rfl⟩
  obtain ⟨W, hW⟩ : ∃ W, W = 2 ^ i := ⟨_, rfl⟩
  have hVW : V * W = 170141183460469231731687303715884105728 := by
    rw [hV, hW, ← Nat.pow_add, show m + i = 127 by omega]
  have hVp : 0 < V := by rw [hV]; exact Nat.two_pow_pos m
  rw [← hV] at h2 h3
  rw [← hW] at h1
  obtain ⟨t, ht⟩ : ∃ t, t = c / V := ⟨_, rfl⟩
  obtain ⟨d, hd⟩ : ∃ d, d = c % V := ⟨_, rfl⟩
  have hc : c = t * V + d := by rw [ht, hd, Nat.mul_comm]; exact (Nat.div_add_mod c V).symm
  have hdV : d < V := by rw [hd]; exact Nat.mod_lt _ hVp
  have ht1 : t ≤ 1 := by
    have : t < 2 := by rw [ht, Nat.div_lt_iff_lt_mul hVp]; omega
    omega
  have ha : a = t * 170141183460469231731687303715884105728 + d * W := by
    rw [h1, hc, Nat.add_mul, Nat.mul_assoc, hVW]
  have hdW : d * W < 170141183460469231731687303715884105728 := by
    have : (d + 1) * W ≤ V * W := Nat.mul_le_mul_right _ hdV
    rw [hVW, Nat.add_mul] at this
    have hWp : 0 < W := by rw [hW]; exact Nat.two_pow_pos i
    omega
  have hbit : a / 170141183460469231731687303715884105728 = t := by
    rw [ha]; generalize d * W = z at *; omega
  have fin : ∀ w r', 2 * r + t = w * b + r' → ((2 * q + w) * b + r') * V + d = x := fun w r' e => by
    have e1 : (2 * q + w) * b + r' = 2 * (q * b + r) + t := by
      rw [Nat.add_mul, Nat.mul_assoc]
      generalize q * b = z at *
      generalize w * b = z' at *
      omega
    rw [e1, ← h3, hc, Nat.add_mul, Nat.mul_comm V 2, ← Nat.mul_assoc, Nat.mul_comm (q * b + r) 2]
    omega
  have big : ∀ w r', 2 * r + t = w * b + r' → 2 * q + w ≤ x := fun w r' e => by
    have e1 := fin w r' e
    have e2 : 2 * q + w ≤ (2 * q + w) * b := Nat.le_mul_of_pos_right _ hb
    have e3 : (2 * q + w) * b + r' ≤ ((2 * q + w) * b + r') * V := Nat.le_mul_of_pos_right _ hVp
    omega
  refine ⟨?_, ?_, ?_⟩
  · rw [ha]; generalize d * W = z at *; omega
  · exact Nat.le_trans (Nat.le_add_right _ _) (big _ _ (Nat.div_add_mod' (2 * r + t) b).symm)
  · intro w r' a' e hr' ha'
    rw [hbit] at e
    refine ⟨⟨by omega, hr', d, ?_, ?_, ?_⟩, big w r' e⟩
    · rw [ha', ha, Nat.pow_succ, ← hW, Nat.mul_comm W 2, Nat.mul_left_comm]
      generalize d * W = z at *
      omega
    · rw [← hm2, ← hV]; exact hdV
    · rw [← hm2, ← hV]; exact fin w r' e
theorem DvS.last {x b a q r : Nat} (h : DvS x b 128 a q r) : q = x / b ∧ r = x % b := by
  obtain ⟨_, hr, c, h1, h2, h3⟩ := h
  simp at h2 h3
  subst h2
  simp at h3
  subst h3
  have hb : 0 < b := by omega
  rw [Nat.mul_comm, Nat.mul_add_div hb, Nat.div_eq_of_lt hr, Nat.mul_add_mod, Nat.mod_eq_of_lt hr]
  exact ⟨rfl, rfl⟩

variable {C : CC} (hC : Closed prog C)
include hC
end Go.Gv

set_option linter.unusedSimpArgs false
namespace Go.Gv
variable {C : CC} (hC : Closed prog C)
include hC
end Go.Gv

set_option linter.unusedSimpArgs false
namespace Go.Gv
def nodA (nm : List UInt8) : Nod := { name := nm, kind := 1, x := 0, y := 0, invert := 0, ground := 1, shapeN := false, shape := [(0, 0), (1, 1)], prot := false, reserve := 0 }
def nodB (nm : List UInt8) : Nod := { name := nm, kind := 3, x := 0, y := 0, invert := 0, ground := 0, shapeN := true, shape := [], prot := false, reserve := 0 }
def pipeE (l : Lnk) (s : Sec) : Int := if linkOk l && secValid s then (if l.kind = 1 then (if l.sect = s.name then 0 else 25) else 11) else 1
variable {C : CC} (hC : Closed prog C)
include hC
end Go.Gv

set_option linter.unusedSimpArgs false
namespace Go.Gv
def enoughL (k flow len n : Nat) : Bool := decide (flow * flow * len ≤ k * k * n)
def lossN (k flow len : Nat) : Int × Int := if flow = 0 then (0, 0) else if k = 0 then (0, 16) else if enoughL k flow len 1073741824 then (bis (enoughL k flow len) 40 0 1073741824, 0) else (0, 5)
def lossF (l : Lnk) (s : Sec) (flow : Int) : Int × Int := lossN (lastK s.conv).2.toNat flow.toNat l.len.toNat
variable {C : CC} (hC : Closed prog C)
include hC
end Go.Gv

set_option linter.unusedSimpArgs false
namespace Go.Gv
def ceilN (x b : Nat) : Nat := if x % b = 0 then x / b else x / b + 1
def lostN (k f n : Nat) : Int × Int := if f = 0 then (0, 0) else if k = 0 then (0, 16) else if 1073741824 < ceilN (f * f * n) (k * k) then (0, 5) else (ceilN (f * f * n) (k * k), 0)
def lostF (l : Lnk) (s : Sec) (flow : Int) : Int × Int := lostN (lastK s.conv).2.toNat flow.toNat l.len.toNat
variable {C : CC} (hC : Closed prog C)
include hC
end Go.Gv

set_option linter.unusedSimpArgs false
namespace Go.Gv

variable {C : CC} (hC : Closed prog C)
include hC
end Go.Gv

set_option linter.unusedSimpArgs false
namespace Go.Gv
/-- The value of a table, as the reference finds it. -/
def valF (t : List (Int × Int)) (x : Int) : Int :=
  if posK t (x + 1) = 0 then t[0]!.2 else if posK t (x + 1) = t.length then t[posK t (x + 1) - 1]!.2 else (betK t[posK t (x + 1) - 1]! t[posK t (x + 1)]! x).1
theorem pieceF_at {t : List (Int × Int)} {x : Int} (h : atK t x = true ∨ posK t x = 0) : (pieceF t x).1 = t[posK t x]!.2 := by
  unfold pieceF; rw [if_pos (by rcases h with h | h <;> simp [h])]
theorem pieceF_end {t : List (Int × Int)} {x : Int} (h : ¬ atK t x = true) (h0 : ¬ posK t x = 0) (h1 : posK t x = t.length) : (pieceF t x).1 = t[posK t x - 1]!.2 := by
  unfold pieceF; rw [if_neg (by simp [h, h0]), if_pos h1]
theorem pieceF_bet {t : List (Int × Int)} {x : Int} (h : ¬ atK t x = true) (h0 : ¬ posK t x = 0) (h1 : ¬ posK t x = t.length) : (pieceF t x).1 = (betK t[posK t x - 1]! t[posK t x]! x).1 := by
  unfold pieceF; rw [if_neg (by simp [h, h0]), if_neg h1]
variable {C : CC} (hC : Closed prog C)
include hC
end Go.Gv

set_option linter.unusedSimpArgs false
namespace Go.Gv
def depthR (s : Sec) (flow fall len : Int) : Int × Int :=
  if secValid s then (if 0 ≤ flow ∧ flow ≤ 1099511627776 ∧ slopeOk fall len = true then (if (carF s s.height fall len : Int) < flow then (0, 28) else (bis (enoughD s flow fall len) 40 0 s.height.toNat, 0)) else (0, 2)) else (0, 1)
variable {C : CC} (hC : Closed prog C)
include hC
end Go.Gv

set_option linter.unusedSimpArgs false
namespace Go.Gv
def mxI (a b : Int) : Int := if a < b then b else a
def fallF (l : Lnk) : Int := if 4194304 < l.up - l.down then 4194304 else l.up - l.down
def lowB (l : Lnk) (s : Sec) (flow level : Int) : Bool := decide (level < l.down + s.height) && (decide ((fullF s (fallF l) l.len).2 = 5) || (decide ((fullF s (fallF l) l.len).2 = 0) && decide (flow ≤ (fullF s (fallF l) l.len).1)))
def highF (l : Lnk) (s : Sec) (flow level : Int) : Int × Int :=
  if (lossF l s flow).2 = 0 then (if 1099511627776 < mxI (l.up + s.height) (level + (lossF l s flow).1) then (0, 5) else (mxI (l.up + s.height) (level + (lossF l s flow).1), 0)) else (0, (lossF l s flow).2)
def lowF (l : Lnk) (s : Sec) (flow level : Int) : Int × Int :=
  if (depthF s flow (fallF l) l.len).2 = 0 then (mxI (l.up + (depthF s flow (fallF l) l.len).1) level, 0) else (0, (depthF s flow (fallF l) l.len).2)
def aboveF (l : Lnk) (s : Sec) (flow level : Int) : Int × Int := if lowB l s flow level then lowF l s flow level else highF l s flow level
def upF (l : Lnk) (s : Sec) (flow level : Int) : Int × Int :=
  if pipeE l s = 0 then (if l.up < l.down then (0, 23) else if lowHigh flow 0 1099511627776 && lowHigh level (-4194304) 1099511627776 then aboveF l s flow level else (0, 2)) else (0, pipeE l s)
def lossU (l : Lnk) (s : Sec) (flow : Int) : Int × Int :=
  if pipeE l s = 0 then (if lowHigh flow 0 1099511627776 then lossF l s flow else (0, 2)) else (0, pipeE l s)
variable {C : CC} (hC : Closed prog C)
include hC
end Go.Gv

set_option linter.unusedSimpArgs false
namespace Go.Gv
def grI (a b : Int) : Int := if b < a then a else b
def givenE (l : Lnk) (s : Sec) : Int := if linkR l && secValid s then (if l.kind = 1 then (if l.sect = s.name then 0 else 25) else 11) else 1
def highR (l : Lnk) (s : Sec) (flow level : Int) : Int × Int :=
  if (lostF l s flow).2 = 0 then (if 1099511627776 < grI (l.up + s.height) (level + (lostF l s flow).1) then (0, 5) else (grI (l.up + s.height) (level + (lostF l s flow).1), 0)) else (0, (lostF l s flow).2)
def aboveR (l : Lnk) (s : Sec) (flow level : Int) : Int × Int :=
  if (depthR s flow (fallF l) l.len).2 = 0 ∧ level < l.down + s.height then (grI (l.up + (depthR s flow (fallF l) l.len).1) level, 0) else highR l s flow level
def upR (l : Lnk) (s : Sec) (flow level : Int) : Int × Int :=
  if givenE l s = 0 then (if l.up < l.down then (0, 23) else if lowHigh flow 0 1099511627776 && lowHigh level (-4194304) 1099511627776 then aboveR l s flow level else (0, 2)) else (0, givenE l s)
def lossR (l : Lnk) (s : Sec) (flow : Int) : Int × Int :=
  if givenE l s = 0 then (if lowHigh flow 0 1099511627776 then lostF l s flow else (0, 2)) else (0, givenE l s)
variable {C : CC} (hC : Closed prog C)
include hC
end Go.Gv

set_option linter.unusedSimpArgs false
namespace Go.Gv
def secI (ss : List Sec) (nm : List UInt8) : Int := idxD (nameIs nm) ss
def findF (ss : List Sec) (nm : List UInt8) : Int × Int := if catValid ss then (if 0 ≤ secI ss nm then (secI ss nm, 0) else (0, 9)) else (0, 1)
def noSec (ss : List Sec) (l : Lnk) : Bool := decide (secI ss l.sect < 0)
def uphill (l : Lnk) : Bool := decide (l.up < l.down)
def pipE (ls : List Lnk) (ss : List Sec) : Int := if ls.any (noSec ss) then 9 else if ls.any uphill then 23 else 0
def givE (ns : List Nod) (ls : List Lnk) (ss : List Sec) (q : List Sp) (count : Int) : Int := if treeN ns ls && catValid ss then (if spsE q count = 0 then pipE ls ss else spsE q count) else 1
/-- What the depths of a pipe lean on. -/
structure PipOk (ss : List Sec) (l : Lnk) : Prop where
  idx : ∃ k, secI ss l.sect = (k : Nat) ∧ k < ss.length
  le : l.down ≤ l.up
  up : -4194304 ≤ l.up ∧ l.up ≤ 4194304
  down : -4194304 ≤ l.down ∧ l.down ≤ 4194304
  len : 1 ≤ l.len ∧ l.len ≤ 16777216
theorem treeN_lnk {ns : List Nod} {ls : List Lnk} (h : treeN ns ls = true) {l : Lnk} (hl : l ∈ ls) : lvlOk l.up = true ∧ lvlOk l.down = true ∧ lowHigh l.len 1 16777216 = true ∧ isName l.sect = true := by
  simp only [treeN, Bool.and_eq_true, List.all_eq_true, decide_eq_true_eq] at h
  obtain ⟨⟨hv, hk⟩, _⟩ := h
  obtain ⟨i, hi, rfl⟩ := List.getElem_of_mem hl
  have h1 := (netOk_lnk hv hi).1
  have h2 := hk _ hl
  simp only [linkOk, kindOk, h2, if_true, Bool.and_eq_true] at h1
  exact ⟨h1.1.1.2, h1.2.1.2, h1.2.1.1, h1.2.2⟩
theorem pipE_ok {ns : List Nod} {ls : List Lnk} {ss : List Sec} (ht : treeN ns ls = true) (h : pipE ls ss = 0) : ∀ l ∈ ls, PipOk ss l := by
  intro l hl
  obtain ⟨a, b, c, _⟩ := treeN_lnk ht hl
  simp only [lvlOk, lowHigh, Bool.and_eq_true, decide_eq_true_eq] at a b c
  unfold pipE at h
  split at h
  · cases h
  rename_i h1
  split at h
  · cases h
  rename_i h2
  simp only [Bool.not_eq_true, List.any_eq_false, noSec, uphill, decide_eq_true_eq] at h1 h2
  have e1 := h1 l hl
  have e2 := h2 l hl
  have hi : 0 ≤ secI ss l.sect := by omega
  refine ⟨⟨(secI ss l.sect).toNat, by omega, idxD_lt hi⟩, by omega, a, b, c⟩
theorem PipOk.fall {ss : List Sec} {l : Lnk} (h : PipOk ss l) : slopeOk (fallF l) l.len = true := by
  have := h.le; have := h.len; have := h.up; have := h.down
  by_cases h : 4194304 < l.up - l.down <;> simp [slopeOk, fallF, h] <;> omega
theorem givE_ok {ns : List Nod} {ls : List Lnk} {ss : List Sec} {q : List Sp} {count : Int} (h : givE ns ls ss q count = 0) : treeN ns ls = true ∧ catValid ss = true ∧ spsE q count = 0 ∧ pipE ls ss = 0 := by
  unfold givE at h
  split at h
  · rename_i h1
    simp only [Bool.and_eq_true] at h1
    split at h
    · rename_i h2
      exact ⟨h1.1, h1.2, h2, h⟩
    · rename_i h2
      exact absurd h h2
  · cases h
theorem catValid_sec {ss : List Sec} (h : catValid ss = true) {k : Nat} (hk : k < ss.length) : secValid ss[k] = true := ((catValid_iff ss).1 h).2 k hk |>.1
theorem catValid_len {ss : List Sec} (h : catValid ss = true) : ss.length ≤ 40 := ((catValid_iff ss).1 h).1
variable {C : CC} (hC : Closed prog C)
include hC
theorem Find_c (b : Bool) (ss : List Sec) (nm : List UInt8) : C 441 [slx b (ss.map secC), .str nm] (.tup [.int .i64 (findF ss nm).1, .int .i64 (findF ss nm).2]) [] := by
  have h1 : ∀ x ∈ ss, C 480 (.agg (secC x) :: [.ptr [.str nm]]) (.bool (nameIs nm x)) [] := fun x _ => by
    refine start hC (nf := N480_catalogue_Find_1) rfl rfl ?_
    simp [N480_catalogue_Find_1, secC, nameIs]
    rw [Bool.eq_iff_iff]; simp
  refine start hC (nf := N441_catalogue_Find) rfl rfl ?_
  simp [N441_catalogue_Find]
  refine callW_of (catValid_c hC b ss) (.inl rfl) ?_
  unfold findF
  cases hv : catValid ss
  · simp
  simp
  have := catValid_len hv
  refine callW_of (idxSec_c hC (b := b) _ (by omega) h1) (.inl rfl) ?_
  simp
  have e : idxD (nameIs nm) ss = secI ss nm := rfl
  rw [e]
  refine brB_of (fun h => ?_) (fun h => ?_) <;> simp at h <;> simp [h]
  rw [if_neg (by omega)]; simp
theorem uphill_c (l : Lnk) : C 506 [.agg (lnkC l)] (.bool (uphill l)) [] := by
  refine start hC (nf := N506_steady_sections_1) rfl rfl ?_
  simp [N506_steady_sections_1, lnkC, uphill]
theorem sections_c (b1 b2 b : Bool) (ns : List Nod) (ls : List Lnk) (ss : List Sec) (hls : ls.length < 2 ^ 62) (hv : catValid ss = true) : C 481 [.agg [slx b1 (ns.map nodC), slx b2 (ls.map lnkC)], slx b (ss.map secC)] (.int .i64 (pipE ls ss)) [] := by
  have k1 := fun nm => Find_c hC b ss nm
  have k2 := hasLnk_c hC (b := b2) (xs := ls) (g := 506) (cs := []) uphill hls (fun x _ => uphill_c hC x)
  refine start hC (nf := N481_steady_sections) rfl rfl ?_
  simp [N481_steady_sections]
  refine loop_of Nat (fun i => [(1, slx b (ss.map secC)), (2, .ptr [slx b1 (ns.map nodC), slx b2 (ls.map lnkC)]), (10, slx b2 (ls.map lnkC)), (11, .int .i64 ls.length), (12, .int .i64 i)]) (fun i => i ≤ ls.length ∧ ∀ (j : Nat) (h : j < ls.length), j < i → noSec ss ls[j] = false) (fun i => ls.length - i) 0 (by simp) (by simp) ?_
  rintro i ⟨hi, hj⟩
  simp
  refine brB_of (fun h => ?_) (fun h => ?_) <;> simp [h] <;> simp at h
  · have hw : IntKind.wrap .i64 ((i : Int) + 1) = ((i + 1 : Nat) : Int) := wrap_i64 (by omega) (by omega)
    simp [h, lnkC]
    refine callW_of (k1 _) (.inl rfl) ?_
    unfold findF
    rw [hv]
    by_cases h1 : 0 ≤ secI ss ls[i].sect
    · simp [h1, hw]
      refine ⟨i + 1, ⟨by omega, fun j hl hjj => ?_⟩, by omega, by omega⟩
      rcases Nat.lt_succ_iff_lt_or_eq.1 hjj with h2 | rfl
      · exact hj j hl h2
      · simp [noSec]; omega
    · simp [h1]
      have : ls.any (noSec ss) = true := List.any_eq_true.2 ⟨ls[i], List.getElem_mem h, by simp [noSec]; omega⟩
      rw [pipE, if_pos this]
  · have hno : ls.any (noSec ss) = false := by
      rw [List.any_eq_false]
      intro x hx
      obtain ⟨j, hjl, rfl⟩ := List.getElem_of_mem hx
      simp [hj j hjl (by omega)]
    refine callW_of k2 (.inl rfl) ?_
    unfold pipE
    rw [hno]
    cases hu : ls.any uphill <;> simp
end Go.Gv

set_option linter.unusedSimpArgs false
namespace Go.Gv
def capF (s : Sec) (depth fall len : Int) : Int × Int := if secValid s then (if 0 ≤ depth ∧ depth ≤ s.height ∧ slopeOk fall len = true then (if 1099511627776 < (carF s depth fall len : Int) then (0, 5) else (carF s depth fall len, 0)) else (0, 2)) else (0, 1)
def secL (ss : List Sec) (l : Lnk) : Sec := ss[(secI ss l.sect).toNat]?.getD ⟨[], 0, 0, true, [], true, []⟩
/-- The full capacity of a pipe, at most 2^40. -/
def fulF (ss : List Sec) (l : Lnk) : Int := if (capF (secL ss l) (secL ss l).height (fallF l) l.len).2 = 5 then 1099511627776 else (capF (secL ss l) (secL ss l).height (fallF l) l.len).1
theorem PipOk.sec {ss : List Sec} {l : Lnk} (h : PipOk ss l) : ∃ k, secI ss l.sect = (k : Nat) ∧ ∃ hk : k < ss.length, secL ss l = ss[k] := by
  obtain ⟨k, hk, hl⟩ := h.idx
  refine ⟨k, hk, hl, ?_⟩
  simp [secL, hk, hl]
theorem PipOk.find {ss : List Sec} {l : Lnk} (hv : catValid ss = true) (h : PipOk ss l) : findF ss l.sect = (secI ss l.sect, 0) := by
  obtain ⟨k, hk, hl⟩ := h.idx
  simp [findF, hv, hk]
theorem PipOk.valid {ss : List Sec} {l : Lnk} (hv : catValid ss = true) (h : PipOk ss l) : secValid (secL ss l) = true := by
  obtain ⟨k, hk, hl, e⟩ := h.sec
  rw [e]
  exact catValid_sec hv hl
theorem PipOk.wrap {ss : List Sec} {l : Lnk} (h : PipOk ss l) : IntKind.wrap .i64 (l.up - l.down) = l.up - l.down := by
  have := h.up; have := h.down
  exact wrap_i64 rfl (by omega)
variable {C : CC} (hC : Closed prog C)
include hC
theorem pipes_c (hS : SlC C) (b1 b2 b b' : Bool) (ns : List Nod) (ls : List Lnk) (ss : List Sec) (q : List Sp) (count : Int) (hls : ls.length < 2 ^ 62) (hq : q.length < 2 ^ 62) (hcv : ∀ l ∈ ls, l.curve.length < 2 ^ 62) : C 473 [.agg [slx b1 (ns.map nodC), slx b2 (ls.map lnkC)], slx b (ss.map secC), slx b' (q.map knD), .int .i64 count] (.int .i64 (givE ns ls ss q count)) [] := by
  have k1 := sTree_c hC hS b1 b2 ns ls hls hcv
  have k2 := catValid_c hC b ss
  have k3 := spans_c hC b' q count hq
  have k4 := sections_c hC b1 b2 b ns ls ss hls
  refine start hC (nf := N473_steady_pipes) rfl rfl ?_
  simp [N473_steady_pipes]
  refine callW_of k1 (.inl rfl) ?_
  unfold givE
  cases ht : treeN ns ls
  · simp
  simp
  refine callW_of k2 (.inl rfl) ?_
  cases hv : catValid ss
  · simp
  simp
  refine callW_of k3 (.inl rfl) ?_
  by_cases h0 : spsE q count = 0
  · simp [h0]
    refine callW_of (k4 hv) (.inl rfl) ?_
    simp [h0]
  · simp [h0]
theorem sFall_c (l : Lnk) (w : IntKind.wrap .i64 (l.up - l.down) = l.up - l.down) : C 474 [.agg (lnkC l)] (.int .i64 (fallF l)) [] := by
  refine start hC (nf := N474_steady_fall) rfl rfl ?_
  simp [N474_steady_fall, lnkC, w, fallF]
theorem Capacity_c (s : Sec) (depth fall len : Int) : C 53 [.agg (secC s), .int .i64 depth, .int .i64 fall, .int .i64 len] (.tup [.int .i64 (capF s depth fall len).1, .int .i64 (capF s depth fall len).2]) [] := by
  have hvc := valid_c hC s
  have hsl := slope_c hC fall len
  have es : (decide (0 ≤ fall) && decide (fall ≤ 4194304) && decide (1 ≤ len) && decide (len ≤ 16777216)) = slopeOk fall len := rfl
  rw [es] at hsl
  obtain ⟨r, hr⟩ : ∃ r, r = capF s depth fall len := ⟨_, rfl⟩
  rw [← hr]
  unfold capF at hr
  have hcc := fun hv hs => carriedG_c hC s depth fall len hv hs
  simp only [secC] at hvc hcc
  refine start hC (nf := N53_catalogue_Capacity) rfl rfl ?_
  simp [N53_catalogue_Capacity, secC]
  refine callW_of hvc (.inl rfl) ?_
  cases hv : secValid s
  · rw [if_neg (by simp [hv])] at hr
    simp [hr]
  rw [if_pos hv] at hr
  simp
  refine brB_of (fun c1 => ?_) (fun c1 => ?_) <;> simp at c1 <;> simp [c1]
  · rw [if_neg (by omega)] at hr
    simp [hr]
  refine brB_of (fun c2 => ?_) (fun c2 => ?_) <;> simp at c2 <;> simp [c2]
  · rw [if_neg (by omega)] at hr
    simp [hr]
  refine callW_of hsl (.inl rfl) ?_
  cases hs : slopeOk fall len
  · rw [if_neg (by simp [hs])] at hr
    simp [hr]
  rw [if_pos ⟨by omega, by omega, hs⟩] at hr
  simp
  refine callW_of (hcc hv hs) (.inl rfl) ?_
  simp
  refine brB_of (fun c3 => ?_) (fun c3 => ?_) <;> simp at c3 <;> simp [c3]
  · rw [if_pos (by omega)] at hr
    simp [hr]
  · rw [if_neg (by omega)] at hr
    simp [hr]
theorem FullG_c (s : Sec) (fall len : Int) : C 47 [.agg (secC s), .int .i64 fall, .int .i64 len] (.tup [.int .i64 (capF s s.height fall len).1, .int .i64 (capF s s.height fall len).2]) [] := by
  have cap := Capacity_c hC s s.height fall len
  rw [secC] at cap
  refine start hC (nf := N47_catalogue_Full) rfl rfl ?_
  simp [N47_catalogue_Full, secC]
  refine callW_of cap (.inl rfl) ?_
  simp
theorem full_c (b : Bool) (ss : List Sec) (l : Lnk) (hv : catValid ss = true) (h : PipOk ss l) : C 475 [slx b (ss.map secC), .agg (lnkC l)] (.tup [.int .i64 (fulF ss l), .int .i64 0]) [] := by
  have k1 := Find_c hC b ss l.sect
  rw [h.find hv] at k1
  have k2 := sFall_c hC l h.wrap
  have k3 := FullG_c hC (secL ss l) (fallF l) l.len
  have hf := h.fall
  have hva := h.valid hv
  obtain ⟨k, hk, hl, e⟩ := h.sec
  obtain ⟨r, hr⟩ : ∃ r, r = fulF ss l := ⟨_, rfl⟩
  rw [← hr]
  unfold fulF at hr
  have h5 : (capF (secL ss l) (secL ss l).height (fallF l) l.len).2 = 5 ∨ (capF (secL ss l) (secL ss l).height (fallF l) l.len).2 = 0 := by
    have : 1 ≤ (secL ss l).height := by simp only [secValid, Bool.and_eq_true, decide_eq_true_eq] at hva; omega
    unfold capF
    rw [if_pos hva, if_pos ⟨by omega, by omega, hf⟩]
    split <;> simp
  generalize capF (secL ss l) (secL ss l).height (fallF l) l.len = c at *
  simp only at k1
  rw [hk] at k1
  rw [e] at k3
  simp only [lnkC, secC] at k2 k3
  refine start hC (nf := N475_steady_full) rfl rfl ?_
  simp [N475_steady_full, lnkC]
  refine callW_of k1 (.inl rfl) ?_
  simp [hl, secC]
  refine callW_of k2 (.inl rfl) ?_
  simp
  refine callW_of k3 (.inl rfl) ?_
  simp
  refine ⟨indW_of (by decide +kernel), ?_⟩
  rcases h5 with h5 | h5 <;> simp [h5] at hr ⊢
  · simp [hr]
  · simp [hr]
end Go.Gv

set_option linter.unusedSimpArgs false
namespace Go.Gv
variable {C : CC} (hC : Closed prog C)
include hC
theorem rSpOk_c (s : Sp) : C 501 [.agg (knD s)] (.bool (spOk s)) [] := by
  refine start hC (nf := N501_ref04_Valid) rfl rfl ?_
  simp [N501_ref04_Valid, knD]
  by_cases h1 : s.1 ≤ s.2 <;> by_cases h2 : -72057594037927936 ≤ s.1 <;> by_cases h3 : s.2 ≤ 72057594037927936 <;> simp [spOk, fitS, h1, h2, h3]
  constructor <;> omega
theorem rSpans_c (b : Bool) (l : List Sp) (count : Int) (hl : l.length < 2 ^ 62) : C 465 [slx b (l.map knD), .int .i64 count] (.int .i64 (spsE l count)) [] := by
  have k1 := fun s => rSpOk_c hC s
  simp only [knD] at k1
  refine start hC (nf := N465_ref30_spans) rfl rfl ?_
  simp [N465_ref30_spans]
  refine loop_of Nat (fun i => [(0, slx b (l.map knD)), (1, .int .i64 count), (5, .int .i64 i)]) (fun i => i ≤ l.length ∧ ∀ (j : Nat) (h : j < l.length), j < i → spOk l[j] = true) (fun i => l.length - i) 0 (by simp) (by simp) ?_
  rintro i ⟨hi, hj⟩
  simp
  refine brB_of (fun h => ?_) (fun h => ?_) <;> simp [h] <;> simp at h
  · have hw : IntKind.wrap .i64 ((i : Int) + 1) = ((i + 1 : Nat) : Int) := wrap_i64 (by omega) (by omega)
    simp [h, knD]
    refine callW_of (k1 _) (.inl rfl) ?_
    cases h1 : spOk l[i]
    · simp
      have : l.any (fun s => !spOk s) = true := List.any_eq_true.2 ⟨l[i], List.getElem_mem h, by simp [h1]⟩
      rw [spsE, if_pos this]
    · simp [hw]
      refine ⟨i + 1, ⟨by omega, fun j hl hjj => ?_⟩, by omega, by omega⟩
      rcases Nat.lt_succ_iff_lt_or_eq.1 hjj with h2 | rfl
      · exact hj j hl h2
      · exact h1
  · have hno : l.any (fun s => !spOk s) = false := by
      rw [List.any_eq_false]
      intro x hx
      obtain ⟨j, hjl, rfl⟩ := List.getElem_of_mem hx
      simp [hj j hjl (by omega)]
    clear hj h hi
    unfold spsE
    rw [hno]
    by_cases h : (l.length : Int) = count
    rotate_left
    · simp [h]
    simp [h]
    refine loop_of Nat (fun i => [(0, slx b (l.map knD)), (6, .int .i64 i)]) (fun i => i ≤ l.length ∧ ∀ (j : Nat) (h : j < l.length), j < i → spRg l[j] = false) (fun i => l.length - i) 0 (by simp) (by simp) ?_
    rintro i ⟨hi, hj⟩
    simp
    refine brB_of (fun g => ?_) (fun g => ?_) <;> simp [g] <;> simp at g
    · have hw : IntKind.wrap .i64 ((i : Int) + 1) = ((i + 1 : Nat) : Int) := wrap_i64 (by omega) (by omega)
      have yes : spRg l[i] = true → l.any spRg = true := fun e => List.any_eq_true.2 ⟨l[i], List.getElem_mem g, e⟩
      have no : spRg l[i] = false → ∃ i' : Nat, (i' ≤ l.length ∧ ∀ (j : Nat) (h : j < l.length), j < i' → spRg l[j] = false) ∧ l.length - i' < l.length - i ∧ (i : Int) + 1 = i' := fun e => by
        refine ⟨i + 1, ⟨by omega, fun j hl hjj => ?_⟩, by omega, by omega⟩
        rcases Nat.lt_succ_iff_lt_or_eq.1 hjj with h2 | rfl
        · exact hj j hl h2
        · exact e
      simp [g, knD]
      by_cases a1 : l[i].1 < 0
      · have := yes (by simp [spRg, a1])
        simp [a1, this, h]
      · by_cases a2 : 1099511627776 < l[i].2
        · have := yes (by simp [spRg, a2])
          simp [a1, a2, this, h, g, knD]
        · obtain ⟨i', b1, b2, b3⟩ := no (by simp [spRg, a1, a2])
          simp [a1, a2, hw, g, knD]
          exact ⟨i', b1, b2, by omega⟩
    · have hno : l.any spRg = false := by
        rw [List.any_eq_false]
        intro x hx
        obtain ⟨j, hjl, rfl⟩ := List.getElem_of_mem hx
        simp [hj j hjl (by omega)]
      simp [hno, h]
theorem rPipes_c (b1 b2 b : Bool) (ns : List Nod) (ls : List Lnk) (ss : List Sec) (hls : ls.length < 2 ^ 62) (hss : ss.length < 2 ^ 62) : C 479 [.agg [slx b1 (ns.map nodC), slx b2 (ls.map lnkC)], slx b (ss.map secC)] (.int .i64 (pipE ls ss)) [] := by
  have k1 := fun nm => rFind_c hC b ss nm hss
  refine start hC (nf := N479_ref30_pipes) rfl rfl ?_
  simp [N479_ref30_pipes]
  refine loop_of Nat (fun i => [(1, slx b (ss.map secC)), (2, .ptr [slx b1 (ns.map nodC), slx b2 (ls.map lnkC)]), (5, .int .i64 i)]) (fun i => i ≤ ls.length ∧ ∀ (j : Nat) (h : j < ls.length), j < i → noSec ss ls[j] = false) (fun i => ls.length - i) 0 (by simp) (by simp) ?_
  rintro i ⟨hi, hj⟩
  simp
  refine brB_of (fun h => ?_) (fun h => ?_) <;> simp [h] <;> simp at h
  · have hw : IntKind.wrap .i64 ((i : Int) + 1) = ((i + 1 : Nat) : Int) := wrap_i64 (by omega) (by omega)
    simp [h, lnkC]
    refine callW_of (k1 _) (.inl rfl) ?_
    have e : idxD (nameIs ls[i].sect) ss = secI ss ls[i].sect := rfl
    rw [e]
    simp
    refine brB_of (fun h1 => ?_) (fun h1 => ?_) <;> simp [h1] <;> simp at h1
    · have : ls.any (noSec ss) = true := List.any_eq_true.2 ⟨ls[i], List.getElem_mem h, by simp [noSec]; omega⟩
      rw [pipE, if_pos this]
    · simp [hw]
      refine ⟨i + 1, ⟨by omega, fun j hl hjj => ?_⟩, by omega, by omega⟩
      rcases Nat.lt_succ_iff_lt_or_eq.1 hjj with h2 | rfl
      · exact hj j hl h2
      · simp [noSec]; omega
  · have hno : ls.any (noSec ss) = false := by
      rw [List.any_eq_false]
      intro x hx
      obtain ⟨j, hjl, rfl⟩ := List.getElem_of_mem hx
      simp [hj j hjl (by omega)]
    clear hj h hi
    unfold pipE
    rw [hno]
    refine loop_of Nat (fun i => [(2, .ptr [slx b1 (ns.map nodC), slx b2 (ls.map lnkC)]), (6, .int .i64 i)]) (fun i => i ≤ ls.length ∧ ∀ (j : Nat) (h : j < ls.length), j < i → uphill ls[j] = false) (fun i => ls.length - i) 0 (by simp) (by simp) ?_
    rintro i ⟨hi, hj⟩
    simp
    refine brB_of (fun g => ?_) (fun g => ?_) <;> simp [g] <;> simp at g
    · have hw : IntKind.wrap .i64 ((i : Int) + 1) = ((i + 1 : Nat) : Int) := wrap_i64 (by omega) (by omega)
      simp [g, lnkC]
      refine ⟨indW_of (by decide +kernel), ?_⟩
      refine brB_of (fun h1 => ?_) (fun h1 => ?_) <;> simp [h1] <;> simp at h1
      · have : ls.any uphill = true := List.any_eq_true.2 ⟨ls[i], List.getElem_mem g, by simp [uphill]; omega⟩
        exact ⟨_, List.getElem_mem g, by simp [uphill]; omega⟩
      · simp [hw]
        refine ⟨i + 1, ⟨by omega, fun j hl hjj => ?_⟩, by omega, by omega⟩
        rcases Nat.lt_succ_iff_lt_or_eq.1 hjj with h2 | rfl
        · exact hj j hl h2
        · simp [uphill]; omega
    · have hno : ls.any uphill = false := by
        rw [List.any_eq_false]
        intro x hx
        obtain ⟨j, hjl, rfl⟩ := List.getElem_of_mem hx
        simp [hj j hjl (by omega)]
      simpa using hno
theorem rGiven_c (b1 b2 b b' nodes : Bool) (ns : List Nod) (ls : List Lnk) (ss : List Sec) (q : List Sp) (hls : ls.length < 2 ^ 62) (hss : ss.length < 2 ^ 62) (hq : q.length < 2 ^ 62) : C 440 [.agg [slx b1 (ns.map nodC), slx b2 (ls.map lnkC)], slx b (ss.map secC), slx b' (q.map knD), .bool nodes] (.int .i64 (givE ns ls ss q (if nodes then (ns.length : Int) else ls.length))) [] := by
  have k1 := rTree_c hC b1 b2 ns ls
  have k2 := rcat_c hC b ss
  have k3 := fun count => rSpans_c hC b' q count hq
  have k4 := rPipes_c hC b1 b2 b ns ls ss hls hss
  refine start hC (nf := N440_ref30_Given) rfl rfl ?_
  simp [N440_ref30_Given]
  refine callW_of k1 (.inl rfl) ?_
  unfold givE
  cases ht : treeN ns ls
  · simp
  simp
  refine callW_of k2 (.inl rfl) ?_
  cases hv : catValid ss
  · simp
  simp
  cases nodes
  · simp
    refine callW_of (k3 _) (.inl rfl) ?_
    by_cases h0 : spsE q ls.length = 0
    · simp [h0]
      refine callW_of k4 (.inl rfl) ?_
      simp [h0]
    · simp [h0]
  · simp
    refine callW_of (k3 _) (.inl rfl) ?_
    by_cases h0 : spsE q ns.length = 0
    · simp [h0]
      refine callW_of k4 (.inl rfl) ?_
      simp [h0]
    · simp [h0]
end Go.Gv

set_option linter.unusedSimpArgs false
namespace Go.Gv
def dRes (ss : List Sec) (l : Lnk) (n : Int) : Int × Int := depthF (secL ss l) n (fallF l) l.len
def dBad (ss : List Sec) (l : Lnk) (s : Sp) : Bool := !decide ((dRes ss l s.1).2 = 0) || !decide ((dRes ss l s.2).2 = 0)
def dSp (ss : List Sec) (l : Lnk) (s : Sp) : Sp := ((dRes ss l s.1).1, (dRes ss l s.2).1)
def anyBad (ss : List Sec) (ls : List Lnk) (q : List Sp) : Bool := (ls.zip q).any fun p => dBad ss p.1 p.2
def depL (ss : List Sec) (ls : List Lnk) (q : List Sp) : List Sp := List.zipWith (dSp ss) ls q
def DepE (ns : List Nod) (ls : List Lnk) (ss : List Sec) (q : List Sp) : Int := if givE ns ls ss q ls.length = 0 then (if anyBad ss ls q then 28 else 0) else givE ns ls ss q ls.length
def DepV (ns : List Nod) (ls : List Lnk) (ss : List Sec) (q : List Sp) : D := if DepE ns ls ss q = 0 then .sl ((depL ss ls q).map knD) else .nils
/-- The first j spans, as rows. -/
def spT (l : List Sp) (j : Nat) : List (List D) := (l.take j).map knD
theorem spT_succ {l : List Sp} {j : Nat} (h : j < l.length) : spT l (j + 1) = spT l j ++ [knD l[j]] := by
  rw [spT, List.take_succ_eq_append_getElem h, List.map_append]; rfl
theorem spT_len {l : List Sp} {j : Nat} (h : j ≤ l.length) : (spT l j).length = j := by simp [spT]; omega
theorem spT_end (l : List Sp) : spT l l.length = l.map knD := by simp [spT]
theorem spT_V (l : List Sp) (j : Nat) : (spT l j).map (fun e => e.map cellV) = spT l j := by
  unfold spT
  rw [List.map_map]
  apply List.map_congr_left
  intro v _
  simp [knD, cellV]
theorem spsE_get {q : List Sp} {n : Nat} (h : spsE q n = 0) : q.length = n ∧ ∀ s ∈ q, 0 ≤ s.1 ∧ s.1 ≤ s.2 ∧ s.2 ≤ 1099511627776 := by
  unfold spsE at h
  split at h
  · cases h
  rename_i h1
  split at h
  · rename_i h0
    split at h
    · cases h
    · rename_i h2
      refine ⟨by omega, fun s hs => ?_⟩
      simp only [Bool.not_eq_true, List.any_eq_false] at h1 h2
      have a := h1 s hs
      have b := h2 s hs
      simp only [spOk, spRg, Bool.not_eq_true', Bool.not_eq_false', Bool.and_eq_true, decide_eq_true_eq, Bool.or_eq_true, not_or] at a b
      simp at a b
      omega
  · cases h
theorem depL_len {ss : List Sec} {ls : List Lnk} {q : List Sp} (h : q.length = ls.length) : (depL ss ls q).length = ls.length := by simp [depL, h]
theorem depL_get {ss : List Sec} {ls : List Lnk} {q : List Sp} {k : Nat} (h : k < (depL ss ls q).length) (h1 : k < ls.length) (h2 : k < q.length) : (depL ss ls q)[k] = dSp ss ls[k] q[k] := by simp [depL]
theorem anyBad_at {ss : List Sec} {ls : List Lnk} {q : List Sp} {k : Nat} (h1 : k < ls.length) (h2 : k < q.length) (h : dBad ss ls[k] q[k] = true) : anyBad ss ls q = true := by
  refine List.any_eq_true.2 ⟨(ls[k], q[k]), ?_, h⟩
  have h3 : k < (ls.zip q).length := by simp; omega
  have e : (ls.zip q)[k] = (ls[k], q[k]) := by simp
  rw [← e]
  exact List.getElem_mem h3
theorem anyBad_no {ss : List Sec} {ls : List Lnk} {q : List Sp} (h : ∀ (k : Nat) (h1 : k < ls.length) (h2 : k < q.length), dBad ss ls[k] q[k] = false) : anyBad ss ls q = false := by
  rw [anyBad, List.any_eq_false]
  intro x hx
  obtain ⟨k, hk, rfl⟩ := List.getElem_of_mem hx
  have h1 : k < ls.length := by simp at hk; omega
  have h2 : k < q.length := by simp at hk; omega
  simp [h k h1 h2]
/-- The depth at a flow in range: it is there, or too great. -/
theorem dRes_err {ss : List Sec} {l : Lnk} {n : Int} (hv : catValid ss = true) (h : PipOk ss l) (hn : 0 ≤ n ∧ n ≤ 1099511627776) : (dRes ss l n).2 = 0 ∨ (dRes ss l n).2 = 28 := by
  unfold dRes depthF
  rw [if_pos (h.valid hv), if_pos ⟨hn.1, hn.2, h.fall⟩]
  split <;> simp
variable {C : CC} (hC : Closed prog C)
include hC
set_option maxHeartbeats 2000000 in
theorem Depths_c (hS : SlC C) (b1 b2 b b' : Bool) (ns : List Nod) (ls : List Lnk) (ss : List Sec) (q : List Sp) (hls : ls.length < 2 ^ 62) (hq : q.length < 2 ^ 62) (hcv : ∀ l ∈ ls, l.curve.length < 2 ^ 62) : C 436 [.agg [slx b1 (ns.map nodC), slx b2 (ls.map lnkC)], slx b (ss.map secC), slx b' (q.map knD)] (.tup [DepV ns ls ss q, .int .i64 (DepE ns ls ss q)]) [] := by
  have k0 := pipes_c hC hS b1 b2 b b' ns ls ss q ls.length hls hq hcv
  refine start hC (nf := N436_steady_Depths) rfl rfl ?_
  simp [N436_steady_Depths]
  refine callW_of k0 (.inl rfl) ?_
  unfold DepV DepE
  by_cases hg : givE ns ls ss q ls.length = 0
  rotate_left
  · simp [hg]
  obtain ⟨ht, hv, hsp, hpe⟩ := givE_ok hg
  have hpip := pipE_ok ht hpe
  obtain ⟨hql, hqr⟩ := spsE_get hsp
  have hl4 : ls.length ≤ 400 := by
    simp only [treeN, Bool.and_eq_true] at ht
    exact (netOk_len ht.1.1).2
  have hdl := depL_len (ss := ss) hql
  have hdg : ∀ (k : Nat) (h1 : k < ls.length) (h2 : k < q.length), ∃ h : k < (depL ss ls q).length, (depL ss ls q)[k] = dSp ss ls[k] q[k] := fun k h1 h2 => ⟨by omega, depL_get _ h1 h2⟩
  simp [hg]
  generalize depL ss ls q = fl at *
  refine loop_of Nat (fun i => [(1, slx b (ss.map secC)), (2, slx b' (q.map knD)), (9, .ref (.r 10144) 0 i), (10144, .blk 2 (spT fl i)), (27, slx b2 (ls.map lnkC)), (28, .int .i64 ls.length), (29, .int .i64 i)]) (fun i => i ≤ ls.length ∧ ∀ (j : Nat) (h : j < ls.length) (h' : j < q.length), j < i → dBad ss ls[j] q[j] = false) (fun i => ls.length - i) 0 (by simp) (by simp [spT]) ?_
  rintro i ⟨hi, hj⟩
  simp
  refine brB_of (fun h => ?_) (fun h => ?_) <;> simp [h] <;> simp at h
  · have hw : IntKind.wrap .i64 ((i : Int) + 1) = ((i + 1 : Nat) : Int) := wrap_i64 (by omega) (by omega)
    have hiq : i < q.length := by omega
    have hp := hpip _ (List.getElem_mem h)
    have hr := hqr _ (List.getElem_mem hiq)
    have hd := anyBad_at (ss := ss) h hiq
    have h1e := dRes_err hv hp (n := q[i].1) (by omega)
    have h2e := dRes_err hv hp (n := q[i].2) (by omega)
    obtain ⟨hfi, hfg⟩ := hdg i h hiq
    have hdb : dBad ss ls[i] q[i] = (!decide ((dRes ss ls[i] q[i].1).2 = 0) || !decide ((dRes ss ls[i] q[i].2).2 = 0)) := rfl
    have k1 := Find_c hC b ss ls[i].sect
    rw [hp.find hv] at k1
    have k2 := sFall_c hC ls[i] hp.wrap
    have k3 := fun n => Depth_c hC (secL ss ls[i]) n (fallF ls[i]) ls[i].len
    obtain ⟨k, hk, hkl, e⟩ := hp.sec
    rw [e] at k3
    simp only at k1
    rw [hk] at k1
    have ed : ∀ n, depthF ss[k] n (fallF ls[i]) ls[i].len = dRes ss ls[i] n := fun n => by rw [dRes, e]
    simp only [ed] at k3
    simp only [secC, lnkC] at k2 k3
    simp only [dSp] at hfg
    generalize dRes ss ls[i] = dR at *
    simp [h, lnkC]
    refine callW_of k1 (.inl rfl) ?_
    simp [hkl, hiq, secC, knD]
    refine callW_of k2 (.inl rfl) ?_
    simp
    refine callW_of (k3 _) (.inl rfl) ?_
    simp
    refine ⟨indW_of (by decide +kernel), ?_⟩
    rcases h1e with h1e | h1e
    rotate_left
    · have := hd (by rw [hdb]; simp [h1e])
      simp [h1e, this, hg]
    simp [h1e, hkl, hiq, secC, knD]
    refine callW_of k2 (.inl rfl) ?_
    simp
    refine callW_of (k3 _) (.inl rfl) ?_
    simp
    refine ⟨indW_of (by decide +kernel), ?_⟩
    rcases h2e with h2e | h2e
    rotate_left
    · have := hd (by rw [hdb]; simp [h2e])
      simp [h2e, this, hg]
    simp [h2e, hw]
    have hsl : (spT fl i).length = i := spT_len (by omega)
    refine ⟨by omega, by omega, i + 1, ⟨by omega, fun j hl hl' hjj => ?_⟩, by omega, rfl, ?_, by omega⟩
    · rcases Nat.lt_succ_iff_lt_or_eq.1 hjj with h2 | rfl
      · exact hj j hl hl' h2
      · rw [hdb]; simp [h1e, h2e]
    · rw [spT_succ hfi, hfg, List.take_of_length_le (by omega)]
      rfl
  · have ek : i = ls.length := by omega
    subst ek
    have hno := anyBad_no (ss := ss) (q := q) fun k h1 h2 => hj k h1 h2 h1
    simp [hno, hg]
    rw [spT_V, ← hdl, spT_end, List.take_of_length_le (by simp)]
    exact ⟨by simp, rfl⟩
end Go.Gv

set_option linter.unusedSimpArgs false
namespace Go.Gv
def bigNod (n : Nod) : Bool := decide (110 < n.shape.length) || decide (100 < n.name.length)
def bigLnk (l : Lnk) : Bool := decide (110 < l.curve.length) || decide (100 < l.name.length) || decide (100 < l.src.length) || decide (100 < l.dst.length) || decide (100 < l.sect.length)
def bigSec (s : Sec) : Bool := decide (110 < s.area.length) || decide (110 < s.conv.length) || decide (100 < s.name.length)
def large30 (ns : List Nod) (ls : List Lnk) (ss : List Sec) (k : Nat) : Bool := decide (12 < ns.length) || decide (20 < ls.length) || decide (12 < ss.length) || decide (25 < k) || ns.any bigNod || ls.any bigLnk || ss.any bigSec
def exNod (nm : UInt8) : Nod := ⟨[nm], 1, 0, 0, 0, 9, false, [(0, 0), (9, 5)], false, 0⟩
def exLnk (nm a b : UInt8) : Lnk := ⟨[nm], [a], [b], 1, 5, 3, 0, [115], 0, 0, true, []⟩
def exN : List Nod := [exNod 97, exNod 98, ⟨[111], 3, 0, 0, 0, 0, true, [], false, 0⟩]
def exL : List Lnk := [exLnk 112 97 98, exLnk 113 98 111]
variable {C : CC} (hC : Closed prog C)
include hC
theorem bigNod_c (n : Nod) : C 454 [.agg (nodC n)] (.bool (bigNod n)) [] := by
  refine start hC (nf := N454_law30_large_1) rfl rfl ?_
  simp [N454_law30_large_1, nodC]
  unfold bigNod
  by_cases h1 : (110 : Int) < n.shape.length
  · simp [h1, show 110 < n.shape.length by omega]
  · simp [h1, show ¬ 110 < n.shape.length by omega]
    omega
theorem bigLnk_c (l : Lnk) : C 456 [.agg (lnkC l)] (.bool (bigLnk l)) [] := by
  refine start hC (nf := N456_law30_large_2) rfl rfl ?_
  simp [N456_law30_large_2, lnkC]
  unfold bigLnk
  by_cases h1 : (110 : Int) < l.curve.length
  · simp [h1, show 110 < l.curve.length by omega]
  by_cases h2 : (100 : Int) < l.name.length
  · simp [h1, h2, show 100 < l.name.length by omega]
  by_cases h3 : (100 : Int) < l.src.length
  · simp [h1, h2, h3, show 100 < l.src.length by omega]
  by_cases h4 : (100 : Int) < l.dst.length
  · simp [h1, h2, h3, h4, show 100 < l.dst.length by omega]
  simp [h1, h2, h3, h4, show ¬ 110 < l.curve.length by omega, show ¬ 100 < l.name.length by omega, show ¬ 100 < l.src.length by omega, show ¬ 100 < l.dst.length by omega]
  omega
theorem bigSec_c (s : Sec) : C 457 [.agg (secC s)] (.bool (bigSec s)) [] := by
  refine start hC (nf := N457_law30_large_3) rfl rfl ?_
  simp [N457_law30_large_3, secC]
  unfold bigSec
  by_cases h1 : (110 : Int) < s.area.length
  · simp [h1, show 110 < s.area.length by omega]
  by_cases h2 : (110 : Int) < s.conv.length
  · simp [h1, h2, show 110 < s.conv.length by omega]
  simp [h1, h2, show ¬ 110 < s.area.length by omega, show ¬ 110 < s.conv.length by omega]
  omega
theorem large30_c (b1 b2 b3 b4 : Bool) (ns : List Nod) (ls : List Lnk) (ss : List Sec) (q : List Sp) (h1 : ns.length < 2 ^ 62) (h2 : ls.length < 2 ^ 62) (h3 : ss.length < 2 ^ 62) : C 426 [.agg [slx b1 (ns.map nodC), slx b2 (ls.map lnkC)], slx b3 (ss.map secC), slx b4 (q.map knD)] (.bool (large30 ns ls ss q.length)) [] := by
  have k1 := hasNod_c hC (b := b1) (xs := ns) (g := 454) (cs := []) bigNod h1 (fun x _ => bigNod_c hC x)
  have k2 := hasLnk_c hC (b := b2) (xs := ls) (g := 456) (cs := []) bigLnk h2 (fun x _ => bigLnk_c hC x)
  have k3 := hasSec_c hC (b := b3) (xs := ss) (g := 457) (cs := []) bigSec h3 (fun x _ => bigSec_c hC x)
  refine start hC (nf := N426_law30_large) rfl rfl ?_
  simp [N426_law30_large]
  unfold large30
  by_cases c1 : (12 : Int) < ns.length
  · simp [c1, show 12 < ns.length by omega]
  by_cases c2 : (20 : Int) < ls.length
  · simp [c1, c2, show 20 < ls.length by omega]
  by_cases c3 : (12 : Int) < ss.length
  · simp [c1, c2, c3, show 12 < ss.length by omega]
  by_cases c4 : (25 : Int) < q.length
  · simp [c1, c2, c3, c4, show 25 < q.length by omega]
  simp [c1, c2, c3, c4, show ¬ 12 < ns.length by omega, show ¬ 20 < ls.length by omega, show ¬ 12 < ss.length by omega, show ¬ 25 < q.length by omega]
  refine callW_of k1 (.inl rfl) ?_
  cases d1 : ns.any bigNod
  · simp
    refine callW_of k2 (.inl rfl) ?_
    cases d2 : ls.any bigLnk
    · simp
      refine callW_of k3 (.inl rfl) ?_
      simp
      intro h; omega
    · simp
  · simp
theorem exNode_c (nm : UInt8) : C 486 [.str [nm]] (.agg (nodC (exNod nm))) [] := by
  refine start hC (nf := N486_law30_example_1) rfl rfl ?_
  simp [N486_law30_example_1, nodC, exNod, knD]
theorem exLink_c (nm a b : UInt8) : C 487 [.str [nm], .str [a], .str [b]] (.agg (lnkC (exLnk nm a b))) [] := by
  refine start hC (nf := N487_law30_example_2) rfl rfl ?_
  simp [N487_law30_example_2, lnkC, exLnk, knD]
  rfl
theorem ex30_c : C 452 [] (.agg [.sl (exN.map nodC), .sl (exL.map lnkC)]) [] := by
  have k1 := exNode_c hC 97
  have k2 := exNode_c hC 98
  have k3 := exLink_c hC 112 97 98
  have k4 := exLink_c hC 113 98 111
  have e0 : slx true ([] : List (List D)) = .nils := rfl
  simp [nodC, exNod, knD] at k1 k2
  simp [lnkC, exLnk, e0] at k3 k4
  refine start hC (nf := N452_law30_example) rfl rfl ?_
  simp [N452_law30_example]
  refine callW_of k1 (.inr rfl) ?_
  simp
  refine callW_of k2 (.inr rfl) ?_
  simp
  refine callW_of k3 (.inr rfl) ?_
  simp
  refine callW_of k4 (.inr rfl) ?_
  simp
  exact ⟨rfl, rfl⟩
theorem eqSp_c (b b' : Bool) (xs ys : List (Int × Int)) (hx : xs.length < 2 ^ 62) (hy : ys.length < 2 ^ 62) : C 434 [slx b (xs.map knD), slx b' (ys.map knD)] (.bool (decide (xs = ys))) [] := by
  obtain ⟨r, hr⟩ : ∃ r, r = decide (xs = ys) := ⟨_, rfl⟩
  rw [← hr]
  refine start hC (nf := N434_slices_Equal__api_Span_api_Span) rfl rfl ?_
  simp [N434_slices_Equal__api_Span_api_Span]
  refine brB_of (fun h => ?_) (fun h => ?_) <;> simp at h <;> simp [h]
  · rw [hr, decide_eq_false]
    intro e
    exact h (by rw [e])
  have h' : xs.length = ys.length := by omega
  refine loop_of Nat (fun i => [(0, slx b (xs.map knD)), (1, slx b' (ys.map knD)), (12, .int .i64 xs.length), (13, .int .i64 i)])
    (fun i => i ≤ xs.length ∧ ∀ (k : Nat) (h1 : k < xs.length) (h2 : k < ys.length), k < i → xs[k] = ys[k]) (fun i => xs.length - i) 0 (by simp) (by simp [h']) ?_
  rintro i ⟨hi, hok⟩
  simp
  refine brB_of (fun h1 => ?_) (fun h1 => ?_) <;> simp at h1 <;> simp [h1]
  · have hw : IntKind.wrap .i64 ((i : Int) + 1) = ((i + 1 : Nat) : Int) := wrap_i64 (by omega) (by omega)
    have hy1 : i < ys.length := by omega
    simp [h1, hy1, knD]
    refine ⟨indW_of (by decide +kernel), ?_⟩
    by_cases h2 : xs[i] = ys[i]
    · simp [h2, hw]
      refine ⟨i + 1, ⟨by omega, fun k k1 k2 hk => ?_⟩, by omega, rfl⟩
      rcases Nat.lt_succ_iff_lt_or_eq.1 hk with h5 | rfl
      · exact hok k k1 k2 h5
      · exact h2
    · have h3 : ¬ (xs[i].1 = ys[i].1 ∧ xs[i].2 = ys[i].2) := fun e => h2 (Prod.ext e.1 e.2)
      refine brB_of (fun h4 => ?_) (fun h4 => ?_) <;> simp at h4 <;> simp [h4]
      · rw [hr, decide_eq_false]
        intro e
        exact h2 (by simp [e])
      · exact absurd h4 h3
  · rw [hr, decide_eq_true]
    exact List.ext_getElem h' fun k k1 k2 => hok k k1 k2 (by omega)
theorem awake30_c (hS : SlC C) : C 425 [] (.bool true) [] := by
  have k1 := ex30_c hC
  have k2 := Flows_c hC hS false false false exN exL [(1, 2), (3, 5), (0, 9)] (by decide) (by decide) (by decide)
  have k3 := sTree_c hC hS false false exN exL (by decide) (by decide)
  have e1 : FlowsE exN exL [(1, 2), (3, 5), (0, 9)] = 0 := by decide +kernel
  have e2 : flowsF exN.length (edgN exN exL) [(1, 2), (3, 5), (0, 9)] = [(1, 2), (4, 7)] := by decide +kernel
  have e3 : treeN exN exL = true := by decide +kernel
  have k4 := eqSp_c hC false false [(1, 2), (4, 7)] [(1, 2), (4, 7)] (by decide) (by decide)
  rw [FlowsV, e1, if_pos rfl, e2] at k2
  rw [e3] at k3
  simp only [slx_false] at k2 k3 k4
  refine start hC (nf := N425_law30_awake) rfl rfl ?_
  simp [N425_law30_awake]
  refine callW_of k1 (.inr rfl) ?_
  simp [knD] at k2 ⊢
  refine callW_of k2 (.inr rfl) ?_
  simp
  refine callW_of k1 (.inr rfl) ?_
  simp
  refine callW_of k3 (.inl rfl) ?_
  simp [knD] at k4 ⊢
  refine callW_of k4 (.inl rfl) ?_
  simp
end Go.Gv

set_option linter.unusedSimpArgs false
namespace Go.Gv
def wS (s : Sp) : Sp := (IntKind.wrap .i64 s.1, IntKind.wrap .i64 s.2)
def adS (a b : Sp) : Sp := (a.1 + b.1, a.2 + b.2)
theorem wrap_add (a b : Int) : IntKind.wrap .i64 (IntKind.wrap .i64 a + b) = IntKind.wrap .i64 (a + b) := by
  simp only [IntKind.wrap_i64]
  omega
theorem spA_w (a b : Sp) : spA (wS a) b = wS (adS a b) := by
  simp only [spA, wS, adS, wrap_add]
/-- The sum of what the edges carry that P takes, of the first k ones. -/
def sumT (P : Nat → Bool) (o : Nat → Sp) : Nat → Sp
  | 0 => (0, 0)
  | k + 1 => if P k then adS (sumT P o k) (o k) else sumT P o k
theorem sumT_congr {P P' : Nat → Bool} {o o' : Nat → Sp} : ∀ {K : Nat}, (∀ k, k < K → P k = P' k ∧ (P k = true → o k = o' k)) → sumT P o K = sumT P' o' K
  | 0, _ => rfl
  | K + 1, h => by
    obtain ⟨h1, h2⟩ := h K (by omega)
    have ih := sumT_congr (K := K) (fun k hk => h k (by omega))
    unfold sumT
    rw [ih, ← h1]
    cases hP : P K
    · rfl
    · simp only [if_true]; rw [h2 hP]
theorem adS_zero (a : Sp) : adS a (0, 0) = a := by simp [adS]
theorem adS_right (a b c : Sp) : adS (adS a b) c = adS (adS a c) b := by simp only [adS]; congr 1 <;> omega
theorem adS_assoc (a b c : Sp) : adS (adS a b) c = adS a (adS b c) := by simp only [adS]; congr 1 <;> omega
theorem sumT_upd {P P' : Nat → Bool} {o o' : Nat → Sp} {k0 : Nat} (h : ∀ k, k ≠ k0 → P' k = P k ∧ o' k = o k) (h0 : P k0 = false) : ∀ K, sumT P' o' K = adS (sumT P o K) (if k0 < K ∧ P' k0 = true then o' k0 else (0, 0))
  | 0 => by simp [sumT, adS]
  | K + 1 => by
    have ih := sumT_upd h h0 K
    unfold sumT
    by_cases e : K = k0
    · subst e
      have e1 : ¬ (K < K ∧ P' K = true) := fun h => Nat.lt_irrefl _ h.1
      rw [if_neg e1, adS_zero] at ih
      rw [h0, ih]
      cases hP : P' K
      · simp [adS]
      · simp
    · obtain ⟨h1, h2⟩ := h K e
      rw [h1, h2, ih]
      have e2 : (k0 < K + 1 ∧ P' k0 = true) ↔ (k0 < K ∧ P' k0 = true) := ⟨fun x => ⟨by omega, x.2⟩, fun x => ⟨by omega, x.2⟩⟩
      by_cases c : k0 < K ∧ P' k0 = true
      · rw [if_pos c, if_pos (e2.2 c)]
        cases P K
        · rfl
        · simp only [if_true]; exact adS_right _ _ _
      · rw [if_neg c, if_neg (fun x => c (e2.1 x)), adS_zero, adS_zero]
/-- A round at node i. -/
theorem flI_none {es : List Edg} {i : Nat} {s : FSt} : ∀ {K : Nat}, K ≤ es.length → (∀ k, (h : k < es.length) → k < K → es[k].1 ≠ i) → flI es i s K = s
  | 0, _, _ => rfl
  | K + 1, hK, h => by
    have hk : K < es.length := by omega
    unfold flI
    rw [flI_none (by omega) (fun k h1 h2 => h k h1 (by omega)), getElem!_pos es K hk, fStep, if_neg (h K hk (by omega))]
theorem flI_one {es : List Edg} {i : Nat} {s : FSt} {k0 : Nat} (hk0 : k0 < es.length) (hi : es[k0].1 = i) (hu : ∀ k, (h : k < es.length) → es[k].1 = i → k = k0) : ∀ {K : Nat}, K ≤ es.length → k0 < K → flI es i s K = fStep i k0 es[k0] s
  | 0, _, h => by omega
  | K + 1, hK, h => by
    have hk : K < es.length := by omega
    unfold flI
    rw [getElem!_pos es K hk]
    by_cases e : K = k0
    · subst e
      rw [flI_none (by omega) (fun k h1 h2 e => by have := hu k h1 e; omega)]
    · rw [flI_one hk0 hi hu (by omega) (by omega), fStep, if_neg (fun e2 => e (hu K hk e2))]
theorem ordN_pre (n : Nat) (es : List Edg) (m : Nat) : ∀ k, ordN n es m <+: ordN n es (m + k)
  | 0 => List.prefix_refl _
  | k + 1 => by
    refine (ordN_pre n es m k).trans ?_
    show _ <+: stepO n es (ordN n es (m + k))
    unfold stepO
    split
    · exact List.prefix_refl _
    · exact List.prefix_append _ _
theorem ordN_len1 (n : Nat) (es : List Edg) : ∀ m k, (ordN n es (m + k)).length ≤ (ordN n es m).length + k
  | m, 0 => by simp
  | m, k + 1 => by
    have ih := ordN_len1 n es m k
    show (stepO n es (ordN n es (m + k))).length ≤ _
    unfold stepO
    split
    · omega
    · simp; omega
theorem ordN_full {n : Nat} {es : List Edg} (h : (ordF n es).length = n) {m : Nat} (hm : m ≤ n) : (ordF n es).take m = ordN n es m ∧ (ordN n es m).length = m := by
  have h1 := ordN_len1 n es 0 m
  have h2 := ordN_len1 n es m (n - m)
  have h3 := ordN_pre n es m (n - m)
  rw [show m + (n - m) = n by omega] at h2 h3
  simp only [Nat.zero_add] at h1
  have h4 : (ordN n es 0).length = 0 := rfl
  have hl : (ordN n es m).length = m := by
    have h5 : (ordN n es n).length = n := h
    omega
  refine ⟨?_, hl⟩
  obtain ⟨t, ht⟩ := h3
  show (ordN n es n).take m = _
  rw [← ht, List.take_append_of_le_length (by omega), List.take_of_length_le (by omega)]
/-- Each edge is the only one from its node. -/
theorem src_uniq {es : List Edg} (h : (es.map (·.1)).Nodup) {k k' : Nat} (hk : k < es.length) (hk' : k' < es.length) (e : es[k].1 = es[k'].1) : k = k' := by
  have h1 : k < (es.map (·.1)).length := by simpa using hk
  have h2 : k' < (es.map (·.1)).length := by simpa using hk'
  have := (List.getElem_inj (xs := es.map (·.1)) (i := k) (j := k') (h₀ := h1) (h₁ := h2) h).1 (by simpa using e)
  exact this
def inT (es : List Edg) (v : Nat) (done : List Nat) (k : Nat) : Bool := decide (es[k]!.2 = v) && done.contains es[k]!.1
theorem flO_inv {n : Nat} {es : List Edg} (hg : inG n es) (ht : treeF n es = true) {l : List Sp} (hl : ∀ v, v < n → wS l[v]! = l[v]!) : ∀ m, m ≤ n →
    (∀ k, (h : k < es.length) → es[k].1 ∈ (ordF n es).take m → (flO es (ordF n es) (flS l) m).2 k = (flO es (ordF n es) (flS l) m).1 es[k].1) ∧
    (∀ v, v < n → (flO es (ordF n es) (flS l) m).1 v = wS (adS l[v]! (sumT (inT es v ((ordF n es).take m)) (flO es (ordF n es) (flS l) m).2 es.length)))
  | 0, _ => by
    refine ⟨fun k h hk => by simp at hk, fun v hv => ?_⟩
    have : sumT (inT es v ((ordF n es).take 0)) (flS l).2 es.length = sumT (fun _ => false) (flS l).2 es.length := sumT_congr fun k hk => ⟨by simp [inT], fun h => by simp [inT] at h⟩
    have hz : ∀ K, sumT (fun _ => false) (flS l).2 K = (0, 0) := fun K => by
      induction K with
      | zero => rfl
      | succ K ih => unfold sumT; simpa using ih
    show l[v]! = wS (adS l[v]! (sumT (inT es v ((ordF n es).take 0)) (flS l).2 es.length))
    rw [this, hz, adS_zero, hl v hv]
  | m + 1, hm => by
    simp only [treeF, Bool.and_eq_true, decide_eq_true_eq] at ht
    obtain ⟨hnd, hlen⟩ := ht
    obtain ⟨ih1, ih2⟩ := flO_inv hg (by simp [treeF, hnd, hlen]) hl m (by omega)
    obtain ⟨t1, t2⟩ := ordN_full hlen (show m ≤ n by omega)
    obtain ⟨t3, t4⟩ := ordN_full hlen hm
    have hml : m < (ordF n es).length := by omega
    have hI := ordN_I n es m
    have hI' := ordN_I n es (m + 1)
    have htk : (ordF n es).take (m + 1) = (ordF n es).take m ++ [(ordF n es)[m]] := List.take_succ_eq_append_getElem hml
    obtain ⟨i, hi⟩ : ∃ i, i = (ordF n es)[m] := ⟨_, rfl⟩
    rw [← hi] at htk
    have hin : i ∈ ordN n es (m + 1) := by rw [← t3, htk]; simp
    have hni : i ∉ (ordF n es).take m := by
      have := hI'.nd
      rw [← t3, htk, List.nodup_append] at this
      exact fun h => this.2.2 i h i (by simp) rfl
    have hcl : ∀ u v, u ∈ (ordF n es).take m → (v, u) ∈ es → v ∈ (ordF n es).take m := fun u v hu he => by rw [t1] at hu ⊢; exact hI.pre u hu v he
    have hself : (i, i) ∉ es := by
      intro he
      have : rdyL n es (ordN n es m) ≠ [] := by
        intro e
        have := ordN_fix e 1
        rw [this] at t4
        omega
      cases hr : rdyL n es (ordN n es m) with
      | nil => exact this hr
      | cons j r =>
        have e1 := ordN_succ hr
        have e2 : j = i := by
          have h5 : ordN n es m ++ [j] = ordN n es m ++ [i] := by rw [← e1, ← t3, htk, t1]
          simpa using h5
        have hj : j ∈ rdyL n es (ordN n es m) := by rw [hr]; simp
        rw [e2] at hj
        obtain ⟨_, h6, h7⟩ := mem_rdyL.1 hj
        exact h6 (h7 i he)
    obtain ⟨s, hs⟩ : ∃ s, s = flO es (ordF n es) (flS l) m := ⟨_, rfl⟩
    have efl : flO es (ordF n es) (flS l) (m + 1) = flI es i s es.length := by rw [flO, getElem!_pos _ m hml, ← hi, ← hs]
    rw [efl]
    rw [← hs] at ih1 ih2
    by_cases hx : ∃ k, ∃ h : k < es.length, es[k].1 = i
    · obtain ⟨k0, hk0, e0⟩ := hx
      have hu : ∀ k, (h : k < es.length) → es[k].1 = i → k = k0 := fun k h e => src_uniq hnd h hk0 (e.trans e0.symm)
      rw [flI_one hk0 e0 hu (Nat.le_refl _) hk0, fStep, if_pos e0]
      have het : (i, es[k0].2) ∈ es := by rw [← e0]; exact List.getElem_mem hk0
      have hti : es[k0].2 ≠ i := fun e => hself (by rw [e] at het; exact het)
      have htm : es[k0].2 ∉ (ordF n es).take m := fun h => hni (hcl _ _ h het)
      refine ⟨fun k h hk => ?_, fun v hv => ?_⟩
      · rw [htk] at hk
        rcases List.mem_append.1 hk with hk | hk
        · have hne : k ≠ k0 := by rintro rfl; exact hni (e0 ▸ hk)
          have hnt : es[k].1 ≠ es[k0].2 := fun e => htm (e ▸ hk)
          simp only [if_neg hne, if_neg hnt]
          exact ih1 k h hk
        · simp only [List.mem_singleton] at hk
          have : k = k0 := hu k h hk
          subst this
          simp only [if_true]
          rw [if_neg (by rw [hk]; exact Ne.symm hti), hk]
      · have hsum : sumT (inT es v ((ordF n es).take (m + 1))) (fun q => if q = k0 then s.1 i else s.2 q) es.length = adS (sumT (inT es v ((ordF n es).take m)) s.2 es.length) (if es[k0].2 = v then s.1 i else (0, 0)) := by
          have eK : sumT (fun k => decide (k < es.length) && inT es v ((ordF n es).take (m + 1)) k) (fun q => if q = k0 then s.1 i else s.2 q) es.length = sumT (inT es v ((ordF n es).take (m + 1))) (fun q => if q = k0 then s.1 i else s.2 q) es.length := sumT_congr fun k hk => ⟨by simp [hk], fun _ => rfl⟩
          have eK2 : sumT (fun k => decide (k < es.length) && inT es v ((ordF n es).take m) k) s.2 es.length = sumT (inT es v ((ordF n es).take m)) s.2 es.length := sumT_congr fun k hk => ⟨by simp [hk], fun _ => rfl⟩
          rw [← eK, ← eK2, sumT_upd (P := fun k => decide (k < es.length) && inT es v ((ordF n es).take m) k) (o := s.2) (k0 := k0) (fun k hk => ⟨?_, by simp [hk]⟩) (by simp [inT, getElem!_pos es k0 hk0, e0, hni])]
          · congr 1
            simp only [if_true]
            by_cases c : es[k0].2 = v
            · rw [if_pos c, if_pos ⟨hk0, by simp [hk0, inT, getElem!_pos es k0 hk0, e0, c, htk]⟩]
            · rw [if_neg c, if_neg (fun h => by simp [inT, getElem!_pos es k0 hk0, c] at h)]
          · by_cases hkl : k < es.length
            · have hne : es[k].1 ≠ i := fun e => hk (hu k hkl e)
              simp [hkl, inT, htk, hne]
            · simp [hkl]
        rw [hsum]
        by_cases c : v = es[k0].2
        · simp only [if_pos c, if_pos c.symm]
          rw [← c, ih2 v hv, spA_w, adS_assoc]
        · simp only [if_neg c, if_neg (Ne.symm c), adS_zero]
          exact ih2 v hv
    · have hno : ∀ k, (h : k < es.length) → es[k].1 ≠ i := fun k h e => hx ⟨k, h, e⟩
      rw [flI_none (Nat.le_refl _) (fun k h _ => hno k h)]
      refine ⟨fun k h hk => ?_, fun v hv => ?_⟩
      · rw [htk] at hk
        rcases List.mem_append.1 hk with hk | hk
        · exact ih1 k h hk
        · exact absurd (by simpa using hk) (hno k h)
      · rw [ih2 v hv]
        congr 2
        refine sumT_congr fun k hk => ⟨?_, fun _ => rfl⟩
        simp [inT, getElem!_pos es k hk, htk, hno k hk]
def balS (es : List Edg) (fl : List Sp) (s0 : Sp) (v : Nat) : Nat → Sp
  | 0 => s0
  | k + 1 => if es[k]!.2 = v then spA (balS es fl s0 v k) fl[k]! else balS es fl s0 v k
theorem balS_eq (es : List Edg) (fl : List Sp) (s0 : Sp) (h0 : wS s0 = s0) (v : Nat) : ∀ K, balS es fl s0 v K = wS (adS s0 (sumT (fun k => decide (es[k]!.2 = v)) (fun k => fl[k]!) K))
  | 0 => by simp [balS, sumT, adS_zero, h0]
  | K + 1 => by
    have ih := balS_eq es fl s0 h0 v K
    unfold balS sumT
    by_cases c : es[K]!.2 = v
    · rw [if_pos c, if_pos (by simpa using c), ih, spA_w, adS_assoc]
    · rw [if_neg c, if_neg (by simpa using c), ih]
/-- What flows in flows out. -/
theorem bal_law {n : Nat} {es : List Edg} (hg : inG n es) (ht : treeF n es = true) {l : List Sp} (hl : ∀ v, v < n → wS l[v]! = l[v]!) {i : Nat} (hi : i < es.length) : (flowsF n es l)[i]! = balS es (flowsF n es l) l[es[i].1]! es[i].1 es.length := by
  have ht2 := ht
  simp only [treeF, Bool.and_eq_true, decide_eq_true_eq] at ht2
  obtain ⟨h1, h2⟩ := flO_inv hg ht hl n (Nat.le_refl _)
  have hv := (hg _ (List.getElem_mem hi)).1
  have hfull : (ordF n es).take n = ordF n es := List.take_of_length_le (by omega)
  have hI := ordN_I n es n
  have hmem : ∀ v, v < n → v ∈ ordF n es := by
    intro v hv
    apply Classical.byContradiction
    intro hn
    have hnd : (v :: ordF n es).Nodup := List.nodup_cons.2 ⟨hn, hI.nd⟩
    have hsub : (v :: ordF n es) ⊆ List.range n := by
      intro u hu
      rcases List.mem_cons.1 hu with rfl | hu
      · simpa using hv
      · simpa using hI.lt u hu
    have := List.Nodup.length_le_of_subset hnd hsub
    simp at this
    omega
  have eF : ∀ k, k < es.length → (flowsF n es l)[k]! = (flO es (ordF n es) (flS l) n).2 k := fun k hk => by
    unfold flowsF
    rw [ht2.2, getElem!_pos _ k (by simpa using hk)]
    simp
  rw [balS_eq _ _ _ (hl _ hv), eF i hi, h1 i hi (by rw [hfull]; exact hmem _ hv), h2 _ hv]
  congr 2
  refine sumT_congr fun k hk => ⟨?_, fun _ => (eF k hk).symm⟩
  have := hmem _ (hg _ (List.getElem_mem hk)).1
  simp [inT, getElem!_pos es k hk, hfull, this]
end Go.Gv

set_option linter.unusedSimpArgs false
namespace Go.Gv
variable {C : CC} (hC : Closed prog C)
include hC
end Go.Gv

set_option linter.unusedSimpArgs false
namespace Go.Gv
end Go.Gv

set_option linter.unusedSimpArgs false
namespace Go.Gv
/-! ### searches find the least -/
theorem bis_least {p : Nat → Bool} (hm : ∀ a b, a ≤ b → p a = true → p b = true) : ∀ (f lo hi : Nat), lo ≤ hi → hi - lo < 2 ^ f → (∀ m, lo ≤ m → m < bis p f lo hi → p m = false) ∧ (bis p f lo hi < hi → p (bis p f lo hi) = true)
  | 0, lo, hi, h1, h2 => by
    simp at h2
    have : lo = hi := by omega
    subst this
    exact ⟨fun m h3 h4 => absurd h4 (by simp only [bis]; omega), fun h3 => absurd h3 (by simp only [bis]; omega)⟩
  | f + 1, lo, hi, h1, h2 => by
    rw [Nat.pow_succ] at h2
    by_cases h : lo < hi
    · by_cases hp : p ((lo + hi) / 2) = true
      · have e : bis p (f + 1) lo hi = bis p f lo ((lo + hi) / 2) := by simp only [bis]; rw [if_pos h, if_pos hp]
        have ih := bis_least hm f lo ((lo + hi) / 2) (by omega) (by omega)
        have hr := bis_range p f lo ((lo + hi) / 2) (by omega)
        rw [e]
        refine ⟨ih.1, fun _ => ?_⟩
        by_cases h5 : bis p f lo ((lo + hi) / 2) < (lo + hi) / 2
        · exact ih.2 h5
        · have : bis p f lo ((lo + hi) / 2) = (lo + hi) / 2 := by omega
          rw [this]; exact hp
      · have e : bis p (f + 1) lo hi = bis p f ((lo + hi) / 2 + 1) hi := by simp only [bis]; rw [if_pos h, if_neg hp]
        have ih := bis_least hm f ((lo + hi) / 2 + 1) hi (by omega) (by omega)
        rw [e]
        refine ⟨fun m h3 h4 => ?_, ih.2⟩
        by_cases h5 : (lo + hi) / 2 + 1 ≤ m
        · exact ih.1 m h5 h4
        · cases hpm : p m
          · rfl
          · exact absurd (hm m ((lo + hi) / 2) (by omega) hpm) hp
    · have e : bis p (f + 1) lo hi = lo := bis_end p _ _ _ (by omega)
      rw [e]
      exact ⟨fun m h3 h4 => absurd h4 (by omega), fun h3 => absurd h3 h⟩
/-! ### losses -/
/-! ### roots and tables ascend -/
theorem rootF_spec : ∀ (i x r : Nat), r * r ≤ x → x < (r + 2 ^ i) * (r + 2 ^ i) → rootF x i r * rootF x i r ≤ x ∧ x < (rootF x i r + 1) * (rootF x i r + 1)
  | 0, x, r, h1, h2 => ⟨h1, h2⟩
  | i + 1, x, r, h1, h2 => by
    rw [rootF_step]
    have e : (2 : Nat) ^ (i + 1) = 2 ^ i + 2 ^ i := by rw [Nat.pow_succ]; omega
    rw [e, ← Nat.add_assoc] at h2
    by_cases h : (r + 2 ^ i) * (r + 2 ^ i) ≤ x
    · rw [if_pos h]; exact rootF_spec i x _ h h2
    · rw [if_neg h]; exact rootF_spec i x _ h1 (by omega)
theorem rootN_spec {x : Nat} (h : x < 85070591730234615865843651857942052864) : rootN x * rootN x ≤ x ∧ x < (rootN x + 1) * (rootN x + 1) := by
  refine rootF_spec 63 x 0 (by omega) ?_
  have e : (0 + 2 ^ 63) * (0 + 2 ^ 63) = 85070591730234615865843651857942052864 := by decide +kernel
  rw [e]; exact h
theorem rootN_mono {x y : Nat} (h : x ≤ y) (hy : y < 85070591730234615865843651857942052864) : rootN x ≤ rootN y := by
  obtain ⟨a, _⟩ := rootN_spec (x := x) (by omega)
  obtain ⟨_, d⟩ := rootN_spec hy
  apply Nat.le_of_not_lt
  intro hlt
  have := Nat.mul_le_mul (show rootN y + 1 ≤ rootN x from hlt) (show rootN y + 1 ≤ rootN x from hlt)
  omega
theorem bet_range {t : List (Int × Int)} {x : Int} (hv : tableValid t = true) (ha : ¬ atK t x = true) (h0 : ¬ posK t x = 0) (h1 : ¬ posK t x = t.length) :
    ∃ k, ∃ (g0 : k < t.length) (g1 : k + 1 < t.length), posK t x = k + 1 ∧ t[k].1 < x ∧ x < t[k + 1].1 ∧ t[k].2 ≤ (pieceF t x).1 ∧ (pieceF t x).1 ≤ t[k + 1].2 := by
  have hpl := posK_le t x
  obtain ⟨k, u, a, d, q1, q2, g0, g1, r1, r2, r3, r4, r5, r6, r7, r8, r9, r10, s1, s2, r11, r12, r13⟩ := between_facts hv h0 (by omega) (by simpa using ha)
  rw [pieceF_bet ha h0 h1, s1, s2, betN r1 r2 r3]
  have b5 : u * a / d ≤ u := by
    have h1 : u * a ≤ u * d := Nat.mul_le_mul_left _ (by omega)
    have h1' : u * d = d * u := Nat.mul_comm _ _
    exact Nat.le_of_lt_succ (Nat.div_lt_of_lt_mul (by rw [Nat.succ_eq_add_one, Nat.mul_add]; omega))
  generalize u * a / d = q at b5
  exact ⟨k, g0, g1, q1, by omega, by omega, by simp only; omega, by simp only; omega⟩
theorem atK_val {t : List (Int × Int)} {x : Int} (ha : atK t x = true) : ∃ (hl : posK t x < t.length), t[posK t x].1 = x ∧ (pieceF t x).1 = t[posK t x].2 := by
  have hl : posK t x < t.length := by simp [atK] at ha; exact ha.1
  have e : t[posK t x]! = t[posK t x] := getElem!_pos t _ hl
  have h1 := pieceF_at (.inl ha)
  simp only [atK, hl, decide_true, Bool.true_and, decide_eq_true_eq, e] at ha
  exact ⟨hl, ha, by rw [h1, e]⟩
theorem piece_up {t : List (Int × Int)} (hv : tableValid t = true) {x : Int} {j : Nat} (hj : j < t.length) (h : x ≤ t[j].1) : (pieceF t x).1 ≤ t[j].2 := by
  have hp := posK_of_le hj h
  by_cases ha : atK t x = true
  · obtain ⟨hl, _, e⟩ := atK_val ha
    rw [e]; exact valid_val hv hj hp
  by_cases h0 : posK t x = 0
  · rw [pieceF_at (.inr h0), h0, getElem!_pos t 0 (by omega)]
    exact valid_val hv hj (by omega)
  obtain ⟨k, g0, g1, q1, _, _, _, q2⟩ := bet_range hv ha h0 (by omega)
  have := valid_val hv hj (show k + 1 ≤ j by omega)
  omega
theorem piece_low {t : List (Int × Int)} (hv : tableValid t = true) {x : Int} {i : Nat} (hi : i < t.length) (h : t[i].1 ≤ x) : t[i].2 ≤ (pieceF t x).1 := by
  have hpl := posK_le t x
  by_cases ha : atK t x = true
  · obtain ⟨hl, e1, e⟩ := atK_val ha
    rw [e]
    by_cases hip : i ≤ posK t x
    · exact valid_val hv hl hip
    · have := valid_asc hv (posK t x) i hi (by omega)
      omega
  by_cases h0 : posK t x = 0
  · rw [pieceF_at (.inr h0), h0, getElem!_pos t 0 (by omega)]
    have h1 := posK_ge (t := t) (x := x) (by omega)
    simp only [h0] at h1
    have hi0 : i = 0 := by
      apply Classical.byContradiction
      intro hne
      have := valid_asc hv 0 i hi (by omega)
      omega
    subst hi0
    exact Int.le_refl _
  by_cases h1 : posK t x = t.length
  · obtain ⟨n, hn⟩ : ∃ n, n + 1 = t.length := ⟨t.length - 1, by omega⟩
    rw [pieceF_end ha h0 h1, show posK t x - 1 = n by omega, getElem!_pos t n (by omega)]
    exact valid_val hv (by omega) (by omega)
  obtain ⟨k, g0, g1, q1, _, q3, q4, _⟩ := bet_range hv ha h0 h1
  have hik : i ≤ k := by
    apply Nat.le_of_not_lt
    intro hne
    have := valid_le hv hi (show k + 1 ≤ i by omega)
    omega
  have := valid_val hv g0 hik
  omega
theorem piece_mono {t : List (Int × Int)} (hv : tableValid t = true) {x y : Int} (h : x ≤ y) : (pieceF t x).1 ≤ (pieceF t y).1 := by
  obtain ⟨l1, l2⟩ := valid_len hv
  have hpx := posK_le t x
  have hpy := posK_le t y
  -- a knot from x to y
  by_cases hk : ∃ j, ∃ (hj : j < t.length), x ≤ t[j].1 ∧ t[j].1 ≤ y
  · obtain ⟨j, hj, h1, h2⟩ := hk
    have := piece_up hv hj h1
    have := piece_low hv hj h2
    omega
  have nk : ∀ j, (hj : j < t.length) → x ≤ t[j].1 → y < t[j].1 := fun j hj h1 => by
    apply Classical.byContradiction
    intro hn
    exact hk ⟨j, hj, h1, by omega⟩
  have hax : ¬ atK t x = true := fun ha => by
    obtain ⟨hl, e1, _⟩ := atK_val ha
    have := nk _ hl (by omega)
    omega
  have hay : ¬ atK t y = true := fun ha => by
    obtain ⟨hl, e1, _⟩ := atK_val ha
    exact hk ⟨_, hl, by omega, by omega⟩
  have hpp : posK t y = posK t x := by
    apply Nat.le_antisymm
    · by_cases hl : posK t x < t.length
      · have h1 := posK_ge hl
        have := nk _ hl h1
        exact posK_of_le hl (by omega)
      · omega
    · apply Nat.le_of_not_lt
      intro hlt
      have h1 := posK_ge (t := t) (x := y) (by omega)
      have h2 := posK_lt (t := t) (x := x) hlt (by omega)
      omega
  by_cases h0 : posK t x = 0
  · rw [pieceF_at (.inr h0), pieceF_at (.inr (by omega)), hpp]; exact Int.le_refl _
  by_cases h1 : posK t x = t.length
  · rw [pieceF_end hax h0 h1, pieceF_end hay (by omega) (by omega), hpp]; exact Int.le_refl _
  obtain ⟨k, u, a, d, q1, q2, g0, g1, r1, r2, r3, r4, r5, r6, r7, r8, r9, r10, s1, s2, r11, r12, r13⟩ := between_facts hv h0 (by omega) (by simpa using hax)
  rw [pieceF_bet hax h0 h1, pieceF_bet hay (by omega) (by omega), hpp, s1, s2, betN r1 r2 r3]
  have r2' : y - t[k].1 = ((a + (y - x).toNat : Nat) : Int) := by omega
  rw [betN r1 r2' r3]
  have := Nat.div_le_div_right (c := d) (Nat.mul_le_mul_left u (show a ≤ a + (y - x).toNat by omega))
  simp only
  omega
theorem carF_mono {s : Sec} (hv : secValid s = true) {fall len x y : Int} (hs : slopeOk fall len = true) (h : x ≤ y) : carF s x fall len ≤ carF s y fall len := by
  obtain ⟨h1, _, _, _⟩ := conv_last hv
  have c1 := conv_any hv x
  have c2 := conv_any hv y
  have hm := piece_mono h1 h
  simp only [slopeOk, Bool.and_eq_true, decide_eq_true_eq] at hs
  unfold carF
  have hk : (pieceF s.conv x).1.toNat ≤ (pieceF s.conv y).1.toNat := by omega
  have hb := cap_lt (k := (pieceF s.conv y).1.toNat) (f := fall.toNat) (by omega) (by omega)
  have hb2 := Nat.div_le_self ((pieceF s.conv y).1.toNat * (pieceF s.conv y).1.toNat * fall.toNat) len.toNat
  refine rootN_mono (Nat.div_le_div_right (Nat.mul_le_mul_right _ (Nat.mul_le_mul hk hk))) (by omega)
end Go.Gv

set_option linter.unusedSimpArgs false
namespace Go.Gv
structure DepthOk (s : Sec) (fall len : Int) (y : Sp) : Prop where
  lo : 0 ≤ y.1
  hi : y.1 ≤ s.height
  fl : y.2 ≤ 1099511627776
  yes : y.2 ≤ (carF s y.1 fall len : Int)
  no : 0 < y.1 → (carF s (y.1 - 1) fall len : Int) < y.2
theorem DepthOk.cap {s : Sec} {fall len : Int} {y : Sp} (h : DepthOk s fall len y) (hs : secValid s = true) (hf : slopeOk fall len = true) : (capF s y.1 fall len).2 = 5 ∨ ((capF s y.1 fall len).2 = 0 ∧ y.2 ≤ (capF s y.1 fall len).1) := by
  have := h.yes
  unfold capF
  rw [if_pos hs, if_pos ⟨h.lo, h.hi, hf⟩]
  split
  · exact .inl rfl
  · exact .inr ⟨rfl, this⟩
variable {C : CC} (hC : Closed prog C)
include hC
end Go.Gv

set_option linter.unusedSimpArgs false
namespace Go.Gv
/-! ### sums -/
def sumF (f : Nat → Int) : Nat → Int
  | 0 => 0
  | k + 1 => sumF f k + f k
theorem sumF_congr {f g : Nat → Int} : ∀ {K : Nat}, (∀ k, k < K → f k = g k) → sumF f K = sumF g K
  | 0, _ => rfl
  | K + 1, h => by unfold sumF; rw [sumF_congr (K := K) (fun k hk => h k (by omega)), h K (by omega)]
theorem sumF_add (f g : Nat → Int) : ∀ K, sumF (fun k => f k + g k) K = sumF f K + sumF g K
  | 0 => rfl
  | K + 1 => by unfold sumF; rw [sumF_add f g K]; omega
theorem sumF_zero {f : Nat → Int} : ∀ {K : Nat}, (∀ k, k < K → f k = 0) → sumF f K = 0
  | 0, _ => rfl
  | K + 1, h => by unfold sumF; rw [sumF_zero (K := K) (fun k hk => h k (by omega)), h K (by omega)]; rfl
theorem sumF_one {f : Nat → Int} {k0 : Nat} : ∀ {K : Nat}, k0 < K → (∀ k, k < K → k ≠ k0 → f k = 0) → sumF f K = f k0
  | 0, h, _ => by omega
  | K + 1, h, h2 => by
    unfold sumF
    by_cases e : K = k0
    · subst e
      rw [sumF_zero (fun k hk => h2 k (by omega) (by omega))]; omega
    · rw [sumF_one (by omega) (fun k hk hn => h2 k (by omega) hn), h2 K (by omega) e]; omega
theorem sumF_swap (f : Nat → Nat → Int) (A : Nat) : ∀ B, sumF (fun b => sumF (fun a => f a b) A) B = sumF (fun a => sumF (fun b => f a b) B) A
  | 0 => (sumF_zero fun _ _ => rfl).symm
  | B + 1 => by
    have e : (fun a => sumF (fun b => f a b) (B + 1)) = fun a => sumF (fun b => f a b) B + f a B := rfl
    rw [e, sumF_add, ← sumF_swap f A B]
    rfl
theorem sumF_shift (f : Nat → Int) : ∀ M, sumF f (M + 1) = f 0 + sumF (fun m => f (m + 1)) M
  | 0 => by simp [sumF]
  | M + 1 => by
    have ih := sumF_shift f M
    show sumF f (M + 1) + f (M + 1) = f 0 + (sumF (fun m => f (m + 1)) M + f (M + 1))
    omega
theorem sumF_if (c : Prop) [Decidable c] (f : Nat → Int) (K : Nat) : sumF (fun k => if c then f k else 0) K = if c then sumF f K else 0 := by
  by_cases h : c
  · rw [if_pos h]; exact sumF_congr fun k _ => if_pos h
  · rw [if_neg h]; exact sumF_zero fun k _ => if_neg h
theorem sumF_le {f g : Nat → Int} : ∀ {K : Nat}, (∀ k, k < K → f k ≤ g k) → sumF f K ≤ sumF g K
  | 0, _ => Int.le_refl _
  | K + 1, h => by
    have := sumF_le (K := K) (fun k hk => h k (by omega))
    have := h K (by omega)
    unfold sumF
    omega
theorem sumF_const (B : Int) : ∀ K : Nat, sumF (fun _ => B) K = K * B
  | 0 => by simp [sumF]
  | K + 1 => by unfold sumF; rw [sumF_const B K]; push_cast; rw [Int.add_mul]; omega
/-! ### the way of the water -/
def stp (es : List Edg) (v : Nat) : Option Nat := (es.find? fun e => e.1 == v).map (·.2)
/-- Where water from v is after m edges. -/
def wat (es : List Edg) : Nat → Nat → Option Nat
  | 0, v => some v
  | m + 1, v => (wat es m v).bind (stp es)
/-- Water from v comes to x. -/
def upB (n : Nat) (es : List Edg) (v x : Nat) : Bool := (List.range n).any fun m => wat es m v == some x
theorem stp_some {es : List Edg} {y z : Nat} (h : stp es y = some z) : (y, z) ∈ es := by
  unfold stp at h
  cases e : es.find? (fun e => e.1 == y) with
  | none => rw [e] at h; cases h
  | some p =>
    rw [e] at h
    have h1 := List.find?_some e
    have h2 := List.mem_of_find?_eq_some e
    simp at h1 h
    obtain ⟨a, b⟩ := p
    simp only at h1 h
    subst h1 h
    exact h2
theorem stp_of {es : List Edg} (hnd : (es.map (·.1)).Nodup) {y z : Nat} (h : (y, z) ∈ es) : stp es y = some z := by
  unfold stp
  cases e : es.find? (fun e => e.1 == y) with
  | none =>
    have := List.find?_eq_none.1 e _ h
    simp at this
  | some p =>
    have h1 := List.find?_some e
    have h2 := List.mem_of_find?_eq_some e
    obtain ⟨a, b⟩ := p
    simp at h1
    subst h1
    obtain ⟨k, hk, ek⟩ := List.getElem_of_mem h
    obtain ⟨j, hj, ej⟩ := List.getElem_of_mem h2
    have := src_uniq hnd hk hj (by rw [ek, ej])
    subst this
    rw [ek] at ej
    cases ej
    rfl
/-- The order ranks the nodes. -/
theorem ord_rank {n : Nat} {es : List Edg} (hg : inG n es) (hlen : (ordF n es).length = n) {u v : Nat} (he : (u, v) ∈ es) : (ordF n es).idxOf u < (ordF n es).idxOf v ∧ (ordF n es).idxOf v < n := by
  have hI := ordN_I n es n
  have hmem : ∀ v, v < n → v ∈ ordF n es := by
    intro v hv
    apply Classical.byContradiction
    intro hn
    have hnd : (v :: ordF n es).Nodup := List.nodup_cons.2 ⟨hn, hI.nd⟩
    have hsub : (v :: ordF n es) ⊆ List.range n := by
      intro u hu
      rcases List.mem_cons.1 hu with rfl | hu
      · simpa using hv
      · simpa using hI.lt u hu
    have := List.Nodup.length_le_of_subset hnd hsub
    simp at this
    omega
  obtain ⟨h1, h2⟩ := hg _ he
  have hv := hmem v h2
  have hi := List.idxOf_lt_length_iff.2 hv
  obtain ⟨m, hm⟩ : ∃ m, m = (ordF n es).idxOf v := ⟨_, rfl⟩
  rw [← hm] at hi ⊢
  have hget : (ordF n es)[m] = v := by
    subst hm
    exact List.getElem_idxOf hi
  obtain ⟨t1, t2⟩ := ordN_full hlen (show m ≤ n by omega)
  obtain ⟨t3, t4⟩ := ordN_full hlen (show m + 1 ≤ n by omega)
  have htk : (ordF n es).take (m + 1) = (ordF n es).take m ++ [(ordF n es)[m]] := List.take_succ_eq_append_getElem hi
  have hu : u ∈ (ordF n es).take m := by
    rw [t1]
    cases hr : rdyL n es (ordN n es m) with
    | nil =>
      have := ordN_fix hr 1
      rw [this] at t4
      omega
    | cons j r =>
      have e1 := ordN_succ hr
      have e2 : j = v := by
        have h5 : ordN n es m ++ [j] = ordN n es m ++ [v] := by rw [← e1, ← t3, htk, t1, hget]
        simpa using h5
      have hj : j ∈ rdyL n es (ordN n es m) := by rw [hr]; simp
      rw [e2] at hj
      exact (mem_rdyL.1 hj).2.2 u he
  refine ⟨?_, by omega⟩
  obtain ⟨a, ha, e⟩ := List.getElem_of_mem hu
  have ha2 : a < m := by simp at ha; omega
  have e2 : (ordF n es)[a]'(by omega) = u := by rw [← e]; simp
  have e3 : (ordF n es).idxOf ((ordF n es)[a]'(by omega)) = a := hI.nd.idxOf_getElem a (show a < (ordF n es).length by omega)
  rw [e2] at e3
  omega
theorem wat_rank {n : Nat} {es : List Edg} (hg : inG n es) (hlen : (ordF n es).length = n) : ∀ {m v x : Nat}, wat es m v = some x → (ordF n es).idxOf v + m ≤ (ordF n es).idxOf x ∧ (m ≠ 0 → (ordF n es).idxOf x < n)
  | 0, v, x, h => by
    simp [wat] at h
    subst h
    exact ⟨Nat.le_refl _, fun h => absurd rfl h⟩
  | m + 1, v, x, h => by
    unfold wat at h
    cases e : wat es m v with
    | none => rw [e] at h; cases h
    | some y =>
      rw [e] at h
      obtain ⟨i1, _⟩ := wat_rank hg hlen e
      obtain ⟨r1, r2⟩ := ord_rank hg hlen (stp_some h)
      exact ⟨by omega, fun _ => r2⟩
def watW (n : Nat) (es : List Edg) (g : Nat → Int) (m x : Nat) : Int := sumF (fun v => if wat es m v = some x then g v else 0) n
theorem watW_succ {n : Nat} {es : List Edg} (hnd : (es.map (·.1)).Nodup) (g : Nat → Int) (m x : Nat) : watW n es g (m + 1) x = sumF (fun k => if es[k]!.2 = x then watW n es g m es[k]!.1 else 0) es.length := by
  have h1 : ∀ v, v < n → (if wat es (m + 1) v = some x then g v else 0) = sumF (fun k => if es[k]!.2 = x then (if wat es m v = some es[k]!.1 then g v else 0) else 0) es.length := fun v _ => by
    cases e : wat es m v with
    | none =>
      have : wat es (m + 1) v = none := by unfold wat; rw [e]; rfl
      rw [this, if_neg (by simp), sumF_zero (fun k _ => by simp)]
    | some y =>
      have e1 : wat es (m + 1) v = stp es y := by
        show (wat es m v).bind (stp es) = _
        rw [e]; rfl
      rw [e1]
      cases e2 : stp es y with
      | none =>
        rw [if_neg (by simp), sumF_zero fun k hk => ?_]
        by_cases c : es[k]!.2 = x
        · rw [if_pos c]
          by_cases d : y = es[k]!.1
          · have := stp_of (es := es) hnd (y := y) (z := es[k]!.2) (by rw [d, getElem!_pos es k hk]; exact List.getElem_mem hk)
            rw [e2] at this; cases this
          · rw [if_neg (by simpa using d)]
        · rw [if_neg c]
      | some z =>
        obtain ⟨k0, hk0, ek0⟩ := List.getElem_of_mem (stp_some e2)
        rw [sumF_one (k0 := k0) hk0 fun k hk hne => ?_]
        · rw [getElem!_pos es k0 hk0, ek0]
          simp
        · by_cases d : y = es[k]!.1
          · exact absurd (src_uniq hnd hk hk0 (by rw [ek0, ← getElem!_pos es k hk, d])) hne
          · rw [if_neg (show ¬ some y = some es[k]!.1 by simpa using d)]; simp
  unfold watW
  rw [sumF_congr h1, sumF_swap]
  exact sumF_congr fun k _ => sumF_if _ _ _
theorem watW_zero {n : Nat} {es : List Edg} (g : Nat → Int) {x : Nat} (hx : x < n) : watW n es g 0 x = g x := by
  unfold watW
  rw [sumF_one (k0 := x) hx fun k _ hne => ?_]
  · simp [wat]
  · simp [wat, hne]
theorem watW_end {n : Nat} {es : List Edg} (hg : inG n es) (hlen : (ordF n es).length = n) (g : Nat → Int) {m x : Nat} (hm : n ≤ m) : watW n es g m x = 0 := by
  refine sumF_zero fun v hv => if_neg fun h => ?_
  obtain ⟨h1, h2⟩ := wat_rank hg hlen h
  have := h2 (by omega)
  omega
/-- The sum over the nodes from which water comes to x. -/
def upS (n : Nat) (es : List Edg) (g : Nat → Int) (x : Nat) : Int := sumF (fun v => if upB n es v x = true then g v else 0) n
theorem upS_wat {n : Nat} {es : List Edg} (hg : inG n es) (hlen : (ordF n es).length = n) (g : Nat → Int) (x : Nat) : upS n es g x = sumF (fun m => watW n es g m x) n := by
  unfold watW upS
  rw [sumF_swap]
  refine sumF_congr fun v _ => ?_
  by_cases h : upB n es v x = true
  · rw [if_pos h]
    obtain ⟨m, hm, e⟩ := List.any_eq_true.1 h
    simp at hm e
    rw [sumF_one (k0 := m) hm fun k _ hne => if_neg fun h2 => ?_, if_pos e]
    have a := (wat_rank hg hlen e).1
    have b := (wat_rank hg hlen h2).1
    rcases Nat.lt_or_gt_of_ne hne with h3 | h3
    · have : ∀ d, wat es (k + d) v = (wat es d x) := fun d => by
        induction d with
        | zero => exact h2
        | succ d ih =>
          show (wat es (k + d) v).bind _ = _
          rw [ih]; rfl
      have h4 := this (m - k)
      rw [show k + (m - k) = m by omega, e] at h4
      have := (wat_rank hg hlen h4.symm).1
      omega
    · have : ∀ d, wat es (m + d) v = (wat es d x) := fun d => by
        induction d with
        | zero => exact e
        | succ d ih =>
          show (wat es (m + d) v).bind _ = _
          rw [ih]; rfl
      have h4 := this (k - m)
      rw [show m + (k - m) = k by omega, h2] at h4
      have := (wat_rank hg hlen h4.symm).1
      omega
  · rw [if_neg h, sumF_zero fun k hk => if_neg fun h2 => h (List.any_eq_true.2 ⟨k, by simpa using hk, by simp [h2]⟩)]
theorem upS_bal {n : Nat} {es : List Edg} (hg : inG n es) (ht : treeF n es = true) (g : Nat → Int) {x : Nat} (hx : x < n) : upS n es g x = g x + sumF (fun k => if es[k]!.2 = x then upS n es g es[k]!.1 else 0) es.length := by
  simp only [treeF, Bool.and_eq_true, decide_eq_true_eq] at ht
  obtain ⟨hnd, hlen⟩ := ht
  have e1 : sumF (fun m => watW n es g m x) n = sumF (fun m => watW n es g m x) (n + 1) := by
    show _ = sumF _ n + watW n es g n x
    rw [watW_end hg hlen g (Nat.le_refl _)]; omega
  rw [upS_wat hg hlen, e1, sumF_shift, watW_zero g hx]
  congr 1
  rw [sumF_congr fun m _ => watW_succ hnd g m x, sumF_swap]
  refine sumF_congr fun k _ => ?_
  rw [sumF_if]
  by_cases c : es[k]!.2 = x
  · rw [if_pos c, if_pos c, upS_wat hg hlen]
  · rw [if_neg c, if_neg c]
theorem upS_range {n : Nat} {es : List Edg} {g : Nat → Int} {B : Int} (hB : 0 ≤ B) (h : ∀ v, v < n → 0 ≤ g v ∧ g v ≤ B) (x : Nat) : 0 ≤ upS n es g x ∧ upS n es g x ≤ n * B := by
  unfold upS
  constructor
  · have := sumF_le (f := fun _ => 0) (g := fun v => if upB n es v x = true then g v else 0) (K := n) fun k hk => by
      have := h k hk
      show 0 ≤ if upB n es k x = true then g k else 0
      split <;> omega
    rw [sumF_const] at this
    simpa using this
  · rw [← sumF_const]
    exact sumF_le fun k hk => by
      have := h k hk
      show (if upB n es k x = true then g k else 0) ≤ B
      split <;> omega
theorem sumT_1 (P : Nat → Bool) (o : Nat → Sp) : ∀ K, (sumT P o K).1 = sumF (fun k => if P k = true then (o k).1 else 0) K
  | 0 => rfl
  | K + 1 => by
    have ih := sumT_1 P o K
    unfold sumT sumF
    by_cases h : P K = true
    · rw [if_pos h, if_pos h, ← ih]; rfl
    · rw [if_neg h, if_neg h, ← ih]; omega
theorem sumT_2 (P : Nat → Bool) (o : Nat → Sp) : ∀ K, (sumT P o K).2 = sumF (fun k => if P k = true then (o k).2 else 0) K
  | 0 => rfl
  | K + 1 => by
    have ih := sumT_2 P o K
    unfold sumT sumF
    by_cases h : P K = true
    · rw [if_pos h, if_pos h, ← ih]; rfl
    · rw [if_neg h, if_neg h, ← ih]; omega
/-- The flow of a link. -/
theorem flow_sum {n : Nat} {es : List Edg} (hn : n ≤ 300) (hg : inG n es) (ht : treeF n es = true) {l : List Sp} (hl : ∀ v, v < n → 0 ≤ l[v]!.1 ∧ l[v]!.1 ≤ l[v]!.2 ∧ l[v]!.2 ≤ 1099511627776) :
    ∀ (r i : Nat) (hi : i < es.length), (ordF n es).idxOf es[i].1 < r → (flowsF n es l)[i]! = (upS n es (fun v => l[v]!.1) es[i].1, upS n es (fun v => l[v]!.2) es[i].1)
  | 0, _, _, h => by omega
  | r + 1, i, hi, hr => by
    have hw : ∀ v, v < n → wS l[v]! = l[v]! := fun v hv => by
      have := hl v hv
      unfold wS
      rw [wrap_i64 rfl (by omega), wrap_i64 rfl (by omega)]
    have hb := bal_law hg ht hw hi
    have hv := (hg _ (List.getElem_mem hi)).1
    have ht2 := ht
    simp only [treeF, Bool.and_eq_true, decide_eq_true_eq] at ht2
    have ih : ∀ k, k < es.length → es[k]!.2 = es[i].1 → (flowsF n es l)[k]! = (upS n es (fun v => l[v]!.1) es[k]!.1, upS n es (fun v => l[v]!.2) es[k]!.1) := fun k hk e => by
      rw [getElem!_pos es k hk] at e ⊢
      have hm : (es[k].1, es[i].1) ∈ es := by rw [← e]; exact List.getElem_mem hk
      have := (ord_rank hg ht2.2 hm).1
      exact flow_sum hn hg ht hl r k hk (by omega)
    have r1 := upS_range (n := n) (es := es) (g := fun v => l[v]!.1) (B := 1099511627776) (by omega) (fun v hv => by have := hl v hv; omega) es[i].1
    have r2 := upS_range (n := n) (es := es) (g := fun v => l[v]!.2) (B := 1099511627776) (by omega) (fun v hv => by have := hl v hv; omega) es[i].1
    rw [hb, balS_eq _ _ _ (hw _ hv)]
    have s1 := upS_bal hg ht (fun v => l[v]!.1) hv
    have s2 := upS_bal hg ht (fun v => l[v]!.2) hv
    have e1 : (sumT (fun k => decide (es[k]!.2 = es[i].1)) (fun k => (flowsF n es l)[k]!) es.length).1 = sumF (fun k => if es[k]!.2 = es[i].1 then upS n es (fun v => l[v]!.1) es[k]!.1 else 0) es.length := by
      rw [sumT_1]
      refine sumF_congr fun k hk => ?_
      by_cases c : es[k]!.2 = es[i].1
      · rw [if_pos (by simpa using c), if_pos c, ih k hk c]
      · rw [if_neg (by simpa using c), if_neg c]
    have e2 : (sumT (fun k => decide (es[k]!.2 = es[i].1)) (fun k => (flowsF n es l)[k]!) es.length).2 = sumF (fun k => if es[k]!.2 = es[i].1 then upS n es (fun v => l[v]!.2) es[k]!.1 else 0) es.length := by
      rw [sumT_2]
      refine sumF_congr fun k hk => ?_
      by_cases c : es[k]!.2 = es[i].1
      · rw [if_pos (by simpa using c), if_pos c, ih k hk c]
      · rw [if_neg (by simpa using c), if_neg c]
    have e3 : adS l[es[i].1]! (sumT (fun k => decide (es[k]!.2 = es[i].1)) (fun k => (flowsF n es l)[k]!) es.length) = (upS n es (fun v => l[v]!.1) es[i].1, upS n es (fun v => l[v]!.2) es[i].1) := by
      unfold adS
      rw [e1, e2, s1, s2]
    rw [e3]
    unfold wS
    rw [wrap_i64 rfl (by simp only; omega), wrap_i64 rfl (by simp only; omega)]
theorem flow_up {n : Nat} {es : List Edg} (hn : n ≤ 300) (hg : inG n es) (ht : treeF n es = true) {l : List Sp} (hl : ∀ v, v < n → 0 ≤ l[v]!.1 ∧ l[v]!.1 ≤ l[v]!.2 ∧ l[v]!.2 ≤ 1099511627776) {i : Nat} (hi : i < es.length) : (flowsF n es l)[i]! = (upS n es (fun v => l[v]!.1) es[i].1, upS n es (fun v => l[v]!.2) es[i].1) :=
  flow_sum hn hg ht hl _ i hi (Nat.lt_succ_self _)
end Go.Gv

set_option linter.unusedSimpArgs false
namespace Go.Gv
theorem tdiv_high {x : Int} {c : Nat} (hx : 0 ≤ x) : Int.tdiv x c = x / (c : Int) := Int.tdiv_eq_ediv_of_nonneg hx
theorem fl_rng {x : Int} {c : Nat} (hc : 0 < c) (hx : -9223372036854775807 ≤ x ∧ x ≤ 9223372036854775807) : -9223372036854775807 ≤ x / (c : Int) ∧ x / (c : Int) ≤ 9223372036854775807 := by
  have hc' : (0 : Int) < c := by omega
  constructor
  · rw [Int.le_ediv_iff_mul_le hc']
    have : (-9223372036854775807 : Int) * c ≤ -9223372036854775807 * 1 := Int.mul_le_mul_of_nonpos_left (by omega) (by omega)
    omega
  · have : x / (c : Int) < 9223372036854775807 + 1 := by
      rw [Int.ediv_lt_iff_lt_mul hc']
      have : (9223372036854775807 + 1 : Int) * 1 ≤ (9223372036854775807 + 1) * c := Int.mul_le_mul_of_nonneg_left (by omega) (by omega)
      omega
    omega
def ldSp (ss : List Sec) (l : Lnk) (s : Sp) : Sp := (1000 * s.1 / fulF ss l, (1000 * s.2 + fulF ss l - 1) / fulF ss l)
def zeroL (ss : List Sec) (l : Lnk) : Bool := decide (fulF ss l = 0)
def ldL (ss : List Sec) (ls : List Lnk) (q : List Sp) : List Sp := List.zipWith (ldSp ss) ls q
def anyZ (ss : List Sec) (ls : List Lnk) : Bool := ls.any (zeroL ss)
def LdE (ns : List Nod) (ls : List Lnk) (ss : List Sec) (q : List Sp) : Int := if givE ns ls ss q ls.length = 0 then (if anyZ ss ls then 16 else 0) else givE ns ls ss q ls.length
def LdV (ns : List Nod) (ls : List Lnk) (ss : List Sec) (q : List Sp) : D := if LdE ns ls ss q = 0 then .sl ((ldL ss ls q).map knD) else .nils
theorem ldL_len {ss : List Sec} {ls : List Lnk} {q : List Sp} (h : q.length = ls.length) : (ldL ss ls q).length = ls.length := by simp [ldL, h]
theorem ldL_get {ss : List Sec} {ls : List Lnk} {q : List Sp} {k : Nat} (h : k < (ldL ss ls q).length) (h1 : k < ls.length) (h2 : k < q.length) : (ldL ss ls q)[k] = ldSp ss ls[k] q[k] := by simp [ldL]
theorem capF_cases {s : Sec} {fall len : Int} (hv : secValid s = true) (hf : slopeOk fall len = true) : (capF s s.height fall len).2 = 5 ∨ ((capF s s.height fall len).2 = 0 ∧ ∃ n : Nat, n ≤ 1099511627776 ∧ (capF s s.height fall len).1 = n) := by
  have : 1 ≤ s.height := by simp only [secValid, Bool.and_eq_true, decide_eq_true_eq] at hv; omega
  unfold capF
  rw [if_pos hv, if_pos ⟨by omega, by omega, hf⟩]
  split
  · exact .inl rfl
  · exact .inr ⟨rfl, _, by omega, rfl⟩
theorem fulF_rng {ss : List Sec} {l : Lnk} (hv : catValid ss = true) (h : PipOk ss l) : ∃ n : Nat, n ≤ 1099511627776 ∧ fulF ss l = n := by
  unfold fulF
  rcases capF_cases (h.valid hv) h.fall with e | ⟨e, n, hn, e2⟩
  · exact ⟨1099511627776, by omega, by rw [if_pos e]; rfl⟩
  · exact ⟨n, hn, by rw [if_neg (by omega)]; exact e2⟩
variable {C : CC} (hC : Closed prog C)
include hC
end Go.Gv

set_option linter.unusedSimpArgs false
namespace Go.Gv
def ovG (ss : List Sec) (f : Sp → Int) (p : Lnk × Sp) : Option (List UInt8) := if fulF ss p.1 < f p.2 then some p.1.name else none
def ovT (ss : List Sec) (f : Sp → Int) (ls : List Lnk) (fl : List Sp) (i : Nat) : List (List UInt8) := ((ls.zip fl).take i).filterMap (ovG ss f)
theorem ovT_succ {ss : List Sec} {f : Sp → Int} {ls : List Lnk} {fl : List Sp} {i : Nat} (h1 : i < ls.length) (h2 : i < fl.length) : ovT ss f ls fl (i + 1) = ovT ss f ls fl i ++ (if fulF ss ls[i] < f fl[i] then [ls[i].name] else []) := by
  have h3 : i < (ls.zip fl).length := by simp; omega
  unfold ovT
  rw [List.take_succ_eq_append_getElem h3, List.filterMap_append]
  congr 1
  have e : (ls.zip fl)[i] = (ls[i], fl[i]) := by simp
  rw [e]
  by_cases c : fulF ss ls[i] < f fl[i] <;> simp [ovG, c]
theorem ovT_len (ss : List Sec) (f : Sp → Int) (ls : List Lnk) (fl : List Sp) (i : Nat) : (ovT ss f ls fl i).length ≤ i := by
  unfold ovT
  have := List.length_filterMap_le (ovG ss f) ((ls.zip fl).take i)
  simp at this
  omega
def strR (l : List (List UInt8)) : List (List D) := l.map fun s => [.str s]
theorem strR_len (l : List (List UInt8)) : (strR l).length = l.length := by simp [strR]
theorem strR_V (l : List (List UInt8)) : (strR l).map (fun e => e.map cellV) = strR l := by
  unfold strR
  rw [List.map_map]
  apply List.map_congr_left
  intro v _
  simp [cellV]
theorem strR_app (l : List (List UInt8)) (s : List UInt8) : strR l ++ [[.str s]] = strR (l ++ [s]) := by simp [strR]
def OvE (ns : List Nod) (ls : List Lnk) (ss : List Sec) (q : List Sp) : Int := if givE ns ls ss q ns.length = 0 then flowsE ns.length (edgN ns ls) q else givE ns ls ss q ns.length
def OvV (f : Sp → Int) (ns : List Nod) (ls : List Lnk) (ss : List Sec) (q : List Sp) : D := if OvE ns ls ss q = 0 then .sl (strR (ovT ss f ls (flowsF ns.length (edgN ns ls) q) ls.length)) else .nils
variable {C : CC} (hC : Closed prog C)
include hC
set_option maxHeartbeats 2000000 in
theorem Overloaded_c (hS : SlC C) (b1 b2 b b' : Bool) (ns : List Nod) (ls : List Lnk) (ss : List Sec) (q : List Sp) (hls : ls.length < 2 ^ 62) (hq : q.length < 2 ^ 62) (hcv : ∀ l ∈ ls, l.curve.length < 2 ^ 62) : C 442 [.agg [slx b1 (ns.map nodC), slx b2 (ls.map lnkC)], slx b (ss.map secC), slx b' (q.map knD)] (.tup [OvV (·.1) ns ls ss q, OvV (·.2) ns ls ss q, .int .i64 (OvE ns ls ss q)]) [] := by
  have k0 := pipes_c hC hS b1 b2 b b' ns ls ss q ns.length hls hq hcv
  refine start hC (nf := N442_steady_Overloaded) rfl rfl ?_
  simp [N442_steady_Overloaded]
  refine callW_of k0 (.inl rfl) ?_
  unfold OvV OvE
  by_cases hg : givE ns ls ss q ns.length = 0
  rotate_left
  · simp [hg]
  obtain ⟨ht, hv, hsp, hpe⟩ := givE_ok hg
  have hpip := pipE_ok ht hpe
  have hql := (spsE_get hsp).1
  have hl4 : ls.length ≤ 400 := by
    simp only [treeN, Bool.and_eq_true] at ht
    exact (netOk_len ht.1.1).2
  have k1 := sFlows_c hC hS b1 b2 b' ns ls q hcv ht hql
  have hfl : (flowsF ns.length (edgN ns ls) q).length = ls.length := by simp [flowsF, edgN_len]
  unfold flowsV flowsE at k1
  unfold flowsE
  simp [hg]
  refine callW_of k1 (.inr rfl) ?_
  generalize flowsF ns.length (edgN ns ls) q = fl at *
  cases hb : bigF fl
  rotate_left
  · simp [hg]
  simp [hg]
  refine loop_of Nat (fun i => [(1, slx b (ss.map secC)), (10, .sl (fl.map knD)), (12, .ref (.r 10192) 0 (ovT ss (·.1) ls fl i).length), (10192, .blk 1 (strR (ovT ss (·.1) ls fl i))), (13, .ref (.r 10208) 0 (ovT ss (·.2) ls fl i).length), (10208, .blk 1 (strR (ovT ss (·.2) ls fl i))), (38, slx b2 (ls.map lnkC)), (39, .int .i64 ls.length), (40, .int .i64 i)]) (fun i => i ≤ ls.length) (fun i => ls.length - i) 0 (by simp) (by simp [ovT, strR]) ?_
  rintro i hi
  simp
  refine brB_of (fun h => ?_) (fun h => ?_) <;> simp [h] <;> simp at h
  · have hw : IntKind.wrap .i64 ((i : Int) + 1) = ((i + 1 : Nat) : Int) := wrap_i64 (by omega) (by omega)
    have hif : i < fl.length := by omega
    have hp := hpip _ (List.getElem_mem h)
    have k2 := full_c hC b ss ls[i] hv hp
    have s1 := ovT_succ (ss := ss) (f := (·.1)) h hif
    have s2 := ovT_succ (ss := ss) (f := (·.2)) h hif
    have n1 := ovT_len ss (·.1) ls fl i
    have n2 := ovT_len ss (·.2) ls fl i
    simp only [lnkC] at k2
    simp [h, lnkC]
    refine callW_of k2 (.inl rfl) ?_
    simp [hif, knD]
    generalize fulF ss ls[i] = c at *
    generalize hT1 : ovT ss (·.1) ls fl i = T1 at *
    generalize hT2 : ovT ss (·.2) ls fl i = T2 at *
    have t1 : (strR T1).take T1.length = strR T1 := List.take_of_length_le (by rw [strR_len]; exact Nat.le_refl _)
    have t2 : (strR T2).take T2.length = strR T2 := List.take_of_length_le (by rw [strR_len]; exact Nat.le_refl _)
    refine brB_of (fun a => ?_) (fun a => ?_) <;> simp at a <;> simp [a, hif, knD]
    · refine ⟨by simp [strR_len], by omega, ?_⟩
      refine brB_of (fun g => ?_) (fun g => ?_) <;> simp at g <;> simp [g, hif, knD]
      · refine ⟨by simp [strR_len], by omega, ?_⟩
        simp [hw]
        refine ⟨i + 1, by omega, by omega, ?_⟩
        rw [s1, s2, if_pos a, if_pos g, t1, t2, strR_app, strR_app]
        simp
      · simp [hw]
        refine ⟨i + 1, by omega, by omega, ?_⟩
        rw [s1, s2, if_pos a, if_neg (by omega), t1, strR_app]
        simp
    · refine brB_of (fun g => ?_) (fun g => ?_) <;> simp at g <;> simp [g, hif, knD]
      · refine ⟨by simp [strR_len], by omega, ?_⟩
        simp [hw]
        refine ⟨i + 1, by omega, by omega, ?_⟩
        rw [s1, s2, if_neg (by omega), if_pos g, t2, strR_app]
        simp
      · simp [hw]
        refine ⟨i + 1, by omega, by omega, ?_⟩
        rw [s1, s2, if_neg (by omega), if_neg (by omega)]
        simp
  · have ek : i = ls.length := by omega
    subst ek
    have hgi : ¬ givE ns ls ss q ns.length = 0 → givE ns ls ss q ns.length = 0 := fun _ => hg
    rw [if_pos hgi, if_pos hgi, strR_V, strR_V, List.take_of_length_le (by rw [strR_len]; exact Nat.le_refl _), List.take_of_length_le (by rw [strR_len]; exact Nat.le_refl _)]
    exact ⟨⟨by simp [strR_len], by simp [strR_len]⟩, rfl, rfl, hgi⟩
end Go.Gv

set_option linter.unusedSimpArgs false
namespace Go.Gv
theorem anyZ_at {ss : List Sec} {ls : List Lnk} {k : Nat} (h1 : k < ls.length) (h : fulF ss ls[k] = 0) : anyZ ss ls = true :=
  List.any_eq_true.2 ⟨ls[k], List.getElem_mem h1, by simp [zeroL, h]⟩
theorem anyZ_no {ss : List Sec} {ls : List Lnk} (h : ∀ (k : Nat) (h1 : k < ls.length), fulF ss ls[k] ≠ 0) : anyZ ss ls = false := by
  rw [anyZ, List.any_eq_false]
  intro x hx
  obtain ⟨k, hk, rfl⟩ := List.getElem_of_mem hx
  simp [zeroL, h k hk]
variable {C : CC} (hC : Closed prog C)
include hC
set_option maxHeartbeats 2000000 in
theorem Loads_c (hS : SlC C) (b1 b2 b b' : Bool) (ns : List Nod) (ls : List Lnk) (ss : List Sec) (q : List Sp) (hls : ls.length < 2 ^ 62) (hq : q.length < 2 ^ 62) (hcv : ∀ l ∈ ls, l.curve.length < 2 ^ 62) : C 437 [.agg [slx b1 (ns.map nodC), slx b2 (ls.map lnkC)], slx b (ss.map secC), slx b' (q.map knD)] (.tup [LdV ns ls ss q, .int .i64 (LdE ns ls ss q)]) [] := by
  have k0 := pipes_c hC hS b1 b2 b b' ns ls ss q ls.length hls hq hcv
  refine start hC (nf := N437_steady_Loads) rfl rfl ?_
  simp [N437_steady_Loads]
  refine callW_of k0 (.inl rfl) ?_
  unfold LdV LdE
  by_cases hg : givE ns ls ss q ls.length = 0
  rotate_left
  · simp [hg]
  obtain ⟨ht, hv, hsp, hpe⟩ := givE_ok hg
  have hpip := pipE_ok ht hpe
  obtain ⟨hql, hqr⟩ := spsE_get hsp
  have hl4 : ls.length ≤ 400 := by
    simp only [treeN, Bool.and_eq_true] at ht
    exact (netOk_len ht.1.1).2
  have hdl := ldL_len (ss := ss) hql
  have hdg : ∀ (k : Nat) (h1 : k < ls.length) (h2 : k < q.length), ∃ h : k < (ldL ss ls q).length, (ldL ss ls q)[k] = ldSp ss ls[k] q[k] := fun k h1 h2 => ⟨by omega, ldL_get _ h1 h2⟩
  simp [hg]
  generalize ldL ss ls q = fl at *
  refine loop_of Nat (fun i => [(1, slx b (ss.map secC)), (2, slx b' (q.map knD)), (9, .ref (.r 10144) 0 i), (10144, .blk 2 (spT fl i)), (25, slx b2 (ls.map lnkC)), (26, .int .i64 ls.length), (27, .int .i64 i)]) (fun i => i ≤ ls.length ∧ ∀ (j : Nat) (h : j < ls.length), j < i → fulF ss ls[j] ≠ 0) (fun i => ls.length - i) 0 (by simp) (by simp [spT]) ?_
  rintro i ⟨hi, hj⟩
  simp
  refine brB_of (fun h => ?_) (fun h => ?_) <;> simp [h] <;> simp at h
  · have hw : IntKind.wrap .i64 ((i : Int) + 1) = ((i + 1 : Nat) : Int) := wrap_i64 (by omega) (by omega)
    have hiq : i < q.length := by omega
    have hp := hpip _ (List.getElem_mem h)
    have hr := hqr _ (List.getElem_mem hiq)
    obtain ⟨hfi, hfg⟩ := hdg i h hiq
    obtain ⟨n, hn, hfn⟩ := fulF_rng hv hp
    have k1 := full_c hC b ss ls[i] hv hp
    have hz := anyZ_at (ss := ss) h
    have hj2 : fulF ss ls[i] ≠ 0 → ∀ (j : Nat) (h : j < ls.length), j < i + 1 → fulF ss ls[j] ≠ 0 := fun e j hl hjj => by
      rcases Nat.lt_succ_iff_lt_or_eq.1 hjj with h2 | rfl
      · exact hj j hl h2
      · exact e
    simp only [ldSp] at hfg
    rw [hfn] at k1 hz hj2 hfg
    simp only [lnkC] at k1
    simp [h, lnkC]
    refine callW_of k1 (.inl rfl) ?_
    simp
    by_cases n0 : n = 0
    · have := hz (by omega)
      simp [n0, this, hg]
    have w1 : IntKind.wrap .i64 (1000 * q[i].1) = 1000 * q[i].1 := wrap_i64 rfl (by omega)
    have w2 : IntKind.wrap .i64 (1000 * q[i].2) = 1000 * q[i].2 := wrap_i64 rfl (by omega)
    have w3 : IntKind.wrap .i64 (1000 * q[i].2 + n) = 1000 * q[i].2 + n := wrap_i64 rfl (by omega)
    have w4 : IntKind.wrap .i64 (1000 * q[i].2 + n - 1) = 1000 * q[i].2 + n - 1 := wrap_i64 rfl (by omega)
    have t1 : Int.tdiv (1000 * q[i].1) n = 1000 * q[i].1 / (n : Int) := tdiv_high (by omega)
    have t2 : Int.tdiv (1000 * q[i].2 + n - 1) n = (1000 * q[i].2 + n - 1) / (n : Int) := tdiv_high (by omega)
    have r1 := fl_rng (x := 1000 * q[i].1) (c := n) (by omega) (by omega)
    have r2 := fl_rng (x := 1000 * q[i].2 + n - 1) (c := n) (by omega) (by omega)
    have w5 : IntKind.wrap .i64 (1000 * q[i].1 / (n : Int)) = 1000 * q[i].1 / (n : Int) := wrap_i64 rfl (by omega)
    have w6 : IntKind.wrap .i64 ((1000 * q[i].2 + n - 1) / (n : Int)) = (1000 * q[i].2 + n - 1) / (n : Int) := wrap_i64 rfl (by omega)
    have hsl : (spT fl i).length = i := spT_len (by omega)
    simp [n0, hiq, knD, w1, w2, w3, w4, t1, t2, w5, w6, hw]
    refine ⟨by omega, by omega, indW_of (by decide +kernel), i + 1, ⟨by omega, hj2 (by omega)⟩, by omega, rfl, ?_, by omega⟩
    rw [spT_succ hfi, hfg, List.take_of_length_le (by omega)]
    rfl
  · have ek : i = ls.length := by omega
    subst ek
    have hno := anyZ_no (ss := ss) fun k h1 => hj k h1 h1
    simp [hno, hg]
    rw [spT_V, ← hdl, spT_end, List.take_of_length_le (by simp)]
    exact ⟨by simp, rfl⟩
end Go.Gv

set_option linter.unusedSimpArgs false
namespace Go.Gv
def ptN (at' : List Int) (i : Nat) (s : Sp) : Int := if at'.length = 0 then s.1 else s.1 + at'[i % at'.length]! % (s.2 - s.1 + 1)
def ptS (at' : List Int) (i : Nat) (s : Sp) : Sp := (ptN at' i s, ptN at' i s)
def ptL (at' : List Int) (q : List Sp) : List Sp := (List.range q.length).map fun i => ptS at' i q[i]!
theorem ptL_len (at' : List Int) (q : List Sp) : (ptL at' q).length = q.length := by simp [ptL]
theorem ptL_get {at' : List Int} {q : List Sp} {i : Nat} (h : i < (ptL at' q).length) (h2 : i < q.length) : (ptL at' q)[i] = ptS at' i q[i] := by
  have e : q[i]! = q[i] := getElem!_pos q i h2
  rw [← e]
  simp only [ptL, List.getElem_map, List.getElem_range]
theorem ptN_in {at' : List Int} {i : Nat} {s : Sp} (h : s.1 ≤ s.2) : s.1 ≤ ptN at' i s ∧ ptN at' i s ≤ s.2 := by
  unfold ptN
  split
  · omega
  · have h1 := Int.emod_nonneg at'[i % at'.length]! (show s.2 - s.1 + 1 ≠ 0 by omega)
    have h2 := Int.emod_lt_of_pos at'[i % at'.length]! (show 0 < s.2 - s.1 + 1 by omega)
    omega
def insS (a b : Sp) : Bool := decide (b.1 ≤ a.1) && decide (a.2 ≤ b.2)
variable {C : CC} (hC : Closed prog C)
include hC
theorem inside_c (a b : Sp) : C 447 [.agg (knD a), .agg (knD b)] (.bool (insS a b)) [] := by
  refine start hC (nf := N447_ref04_Inside) rfl rfl ?_
  simp [N447_ref04_Inside, knD, insS]
  by_cases h : b.1 ≤ a.1 <;> simp [h]
theorem points_c (b b' : Bool) (q : List Sp) (at' : List Int) (hq : q.length < 2 ^ 40) (ha : at'.length < 2 ^ 40) (hr : ∀ s ∈ q, 0 ≤ s.1 ∧ s.1 ≤ s.2 ∧ s.2 ≤ 1099511627776) (hat : ∀ x ∈ at', 0 ≤ x ∧ x < 4294967296) : C 446 [slx b (q.map knD), slx b' (at'.map fun n => [.int .u32 n])] (.sl ((ptL at' q).map knD)) [] := by
  have hdl := ptL_len at' q
  have hdg : ∀ (k : Nat) (h2 : k < q.length), ∃ h : k < (ptL at' q).length, (ptL at' q)[k] = ptS at' k q[k] := fun k h2 => ⟨by omega, ptL_get _ h2⟩
  refine start hC (nf := N446_law30_points) rfl rfl ?_
  simp [N446_law30_points]
  generalize ptL at' q = fl at *
  refine loop_of Nat (fun i => [(1, slx b' (at'.map fun n => [.int .u32 n])), (5, .ref (.r 10080) 0 i), (10080, .blk 2 (spT fl i)), (9, slx b (q.map knD)), (10, .int .i64 q.length), (11, .int .i64 i)]) (fun i => i ≤ q.length) (fun i => q.length - i) 0 (by simp) (by simp [spT]) ?_
  rintro i hi
  simp
  refine brB_of (fun h => ?_) (fun h => ?_) <;> simp [h] <;> simp at h
  · have hw : IntKind.wrap .i64 ((i : Int) + 1) = ((i + 1 : Nat) : Int) := wrap_i64 (by omega) (by omega)
    obtain ⟨hfi, hfg⟩ := hdg i h
    have hri := hr _ (List.getElem_mem h)
    have hsl : (spT fl i).length = i := spT_len (by omega)
    simp [h, knD]
    by_cases ha0 : at'.length = 0
    · simp [ha0, hw]
      refine ⟨by omega, by omega, i + 1, by omega, by omega, rfl, ?_, by omega⟩
      rw [spT_succ hfi, hfg, List.take_of_length_le (by omega)]
      simp [ptS, ptN, ha0, knD]
    · have hm : i % at'.length < at'.length := Nat.mod_lt _ (by omega)
      have e1 : Int.tmod (i : Int) at'.length = ((i % at'.length : Nat) : Int) := rfl
      have w1 : IntKind.wrap .i64 ((i % at'.length : Nat) : Int) = ((i % at'.length : Nat) : Int) := wrap_i64 rfl (by omega)
      have hx := hat _ (List.getElem_mem hm)
      have eq1 : at'[i % at'.length]! = at'[i % at'.length] := getElem!_pos at' _ hm
      have hpn : ptN at' i q[i] = q[i].1 + at'[i % at'.length] % (q[i].2 - q[i].1 + 1) := by rw [ptN, if_neg ha0, eq1]
      have hin := ptN_in (at' := at') (i := i) hri.2.1
      generalize i % at'.length = j at *
      have w2 : IntKind.wrap .i64 at'[j] = at'[j] := wrap_i64 rfl (by omega)
      have w3 : IntKind.wrap .i64 (q[i].2 - q[i].1) = q[i].2 - q[i].1 := wrap_i64 rfl (by omega)
      have w4 : IntKind.wrap .i64 (q[i].2 - q[i].1 + 1) = q[i].2 - q[i].1 + 1 := wrap_i64 rfl (by omega)
      have e2 : Int.tmod at'[j] (q[i].2 - q[i].1 + 1) = at'[j] % (q[i].2 - q[i].1 + 1) := Int.tmod_eq_emod_of_nonneg hx.1
      have h1 := Int.emod_nonneg at'[j] (show q[i].2 - q[i].1 + 1 ≠ 0 by omega)
      have h2 := Int.emod_lt_of_pos at'[j] (show 0 < q[i].2 - q[i].1 + 1 by omega)
      have w5 : IntKind.wrap .i64 (at'[j] % (q[i].2 - q[i].1 + 1)) = at'[j] % (q[i].2 - q[i].1 + 1) := wrap_i64 rfl (by omega)
      have w6 : IntKind.wrap .i64 (q[i].1 + at'[j] % (q[i].2 - q[i].1 + 1)) = q[i].1 + at'[j] % (q[i].2 - q[i].1 + 1) := wrap_i64 rfl (by omega)
      have z : ¬ q[i].2 - q[i].1 + 1 = 0 := by omega
      have ha1 : 0 < at'.length := by omega
      simp [ha0, ha1, e1, w1, hm, w2, w3, w4, e2, w5, w6, z, hw]
      refine ⟨indW_of (by decide +kernel), by omega, by omega, i + 1, by omega, by omega, rfl, ?_, by omega⟩
      rw [spT_succ hfi, hfg, List.take_of_length_le (by omega)]
      simp only [ptS, hpn, knD]
  · have ek : i = q.length := by omega
    subst ek
    rw [spT_V, ← hdl, spT_end, List.take_of_length_le (by simp)]
    exact ⟨by simp, rfl⟩
end Go.Gv

set_option linter.unusedSimpArgs false
namespace Go.Gv
theorem spsE_of {l : List Sp} {n : Nat} (h : l.length = n) (h2 : ∀ s ∈ l, 0 ≤ s.1 ∧ s.1 ≤ s.2 ∧ s.2 ≤ 1099511627776) : spsE l n = 0 := by
  unfold spsE
  have a : l.any (fun s => !spOk s) = false := by
    rw [List.any_eq_false]
    intro s hs
    have := h2 s hs
    simp [spOk, fitS]
    omega
  have b : l.any spRg = false := by
    rw [List.any_eq_false]
    intro s hs
    have := h2 s hs
    simp [spRg]
    omega
  rw [a, b]
  simp [h]
/-- Spans of single numbers within spans. -/
structure FlIn (a b : List Sp) : Prop where
  len : b.length = a.length
  get : ∀ (i : Nat) (h : i < a.length) (h' : i < b.length), 0 ≤ a[i].1 ∧ a[i].1 ≤ b[i].1 ∧ b[i].1 = b[i].2 ∧ b[i].2 ≤ a[i].2
theorem upS_le {n : Nat} {es : List Edg} {g g' : Nat → Int} (h : ∀ v, v < n → g v ≤ g' v) (x : Nat) : upS n es g x ≤ upS n es g' x := by
  unfold upS
  refine sumF_le fun v hv => ?_
  have := h v hv
  show (if upB n es v x = true then g v else 0) ≤ if upB n es v x = true then g' v else 0
  split <;> omega
theorem bang {l : List Sp} {v : Nat} (h : v < l.length) : l[v]! = l[v] := getElem!_pos l v h
theorem flIn {n : Nat} {es : List Edg} (hn : n ≤ 300) (hg : inG n es) (ht : treeF n es = true) {q p : List Sp} (hq : q.length = n) (hqr : ∀ s ∈ q, 0 ≤ s.1 ∧ s.1 ≤ s.2 ∧ s.2 ≤ 1099511627776) (h : FlIn q p) : FlIn (flowsF n es q) (flowsF n es p) := by
  have hl1 : ∀ v, v < n → 0 ≤ q[v]!.1 ∧ q[v]!.1 ≤ q[v]!.2 ∧ q[v]!.2 ≤ 1099511627776 := fun v hv => by
    rw [bang (by omega)]
    exact hqr _ (List.getElem_mem _)
  have hpl := h.len
  have hl2 : ∀ v, v < n → 0 ≤ p[v]!.1 ∧ p[v]!.1 ≤ p[v]!.2 ∧ p[v]!.2 ≤ 1099511627776 := fun v hv => by
    have h1 := h.get v (by omega) (by omega)
    have h2 := hl1 v hv
    rw [bang (by omega)] at h2
    rw [bang (by omega)]
    omega
  refine ⟨by simp [flowsF], fun i hi hi' => ?_⟩
  have hie : i < es.length := by simpa [flowsF] using hi
  have f1 := flow_up hn hg ht hl1 hie
  have f2 := flow_up hn hg ht hl2 hie
  rw [bang hi] at f1
  rw [bang hi'] at f2
  rw [f1, f2]
  have r1 := upS_range (n := n) (es := es) (g := fun v => q[v]!.1) (B := 1099511627776) (by omega) (fun v hv => by have := hl1 v hv; omega) es[i].1
  have m1 := upS_le (n := n) (es := es) (g := fun v => q[v]!.1) (g' := fun v => p[v]!.1) (fun v hv => by
    have h1 := h.get v (by omega) (by omega)
    rw [bang (by omega), bang (by omega)]
    omega) es[i].1
  have m2 := upS_le (n := n) (es := es) (g := fun v => p[v]!.2) (g' := fun v => q[v]!.2) (fun v hv => by
    have h1 := h.get v (by omega) (by omega)
    rw [bang (by omega), bang (by omega)]
    omega) es[i].1
  have m3 : upS n es (fun v => p[v]!.1) es[i].1 = upS n es (fun v => p[v]!.2) es[i].1 := by
    unfold upS
    refine sumF_congr fun v hv => ?_
    have h1 := h.get v (by omega) (by omega)
    simp only
    rw [bang (by omega)]
    rw [h1.2.2.1]
  exact ⟨r1.1, m1, m3, m2⟩
theorem ptL_in {at' : List Int} {q : List Sp} (hqr : ∀ s ∈ q, 0 ≤ s.1 ∧ s.1 ≤ s.2 ∧ s.2 ≤ 1099511627776) : FlIn q (ptL at' q) := by
  refine ⟨ptL_len _ _, fun i h h' => ?_⟩
  have h1 := hqr _ (List.getElem_mem h)
  have h2 := ptN_in (at' := at') (i := i) (s := q[i]) (by omega)
  rw [ptL_get h' h]
  exact ⟨by omega, h2.1, rfl, h2.2⟩
theorem FlIn.rng {a b : List Sp} (h : FlIn a b) (ha : ∀ s ∈ a, 0 ≤ s.1 ∧ s.1 ≤ s.2 ∧ s.2 ≤ 1099511627776) : ∀ s ∈ b, 0 ≤ s.1 ∧ s.1 ≤ s.2 ∧ s.2 ≤ 1099511627776 := by
  intro s hs
  obtain ⟨i, hi, rfl⟩ := List.getElem_of_mem hs
  have hl := h.len
  have h1 := h.get i (by omega) hi
  have h2 := ha _ (List.getElem_mem (show i < a.length by omega))
  omega
theorem bigF_no {fl : List Sp} (h : bigF fl = false) : ∀ s ∈ fl, s.2 ≤ 1099511627776 := fun s hs => by
  have := List.any_eq_false.1 h s hs
  simp at this
  omega
theorem bigF_of {fl : List Sp} (h : ∀ s ∈ fl, s.2 ≤ 1099511627776) : bigF fl = false := by
  unfold bigF
  rw [List.any_eq_false]
  intro s hs
  have := h s hs
  simp
  omega
theorem FlIn.rng2 {a b : List Sp} (h : FlIn a b) (hb : bigF a = false) : ∀ s ∈ a, 0 ≤ s.1 ∧ s.1 ≤ s.2 ∧ s.2 ≤ 1099511627776 := by
  intro s hs
  have h3 := bigF_no hb s hs
  obtain ⟨i, hi, rfl⟩ := List.getElem_of_mem hs
  have hl := h.len
  have h1 := h.get i hi (by omega)
  omega
/-- A lesser flow has a lesser depth. -/
theorem dRes_mono {ss : List Sec} {l : Lnk} {m n : Int} (hv : catValid ss = true) (h : PipOk ss l) (hm : 0 ≤ m) (hmn : m ≤ n) (hn : n ≤ 1099511627776) (h0 : (dRes ss l n).2 = 0) : (dRes ss l m).2 = 0 ∧ (dRes ss l m).1 ≤ (dRes ss l n).1 := by
  have hs := h.valid hv
  have hf := h.fall
  have hb : leastD (secL ss l) m (fallF l) l.len ≤ leastD (secL ss l) n (fallF l) l.len := bis_mono (p := enoughD (secL ss l) m (fallF l) l.len) (q := enoughD (secL ss l) n (fallF l) l.len) (fun k hk => by
    simp only [enoughD, decide_eq_true_eq] at hk ⊢
    omega) 40 0 ((secL ss l).height.toNat + 1) (by omega)
  have e : ∀ k : Int, 0 ≤ k → k ≤ 1099511627776 → dRes ss l k = if (secL ss l).height.toNat < leastD (secL ss l) k (fallF l) l.len then ((0, 28) : Int × Int) else ((leastD (secL ss l) k (fallF l) l.len : Nat), 0) := fun k h1 h2 => by
    unfold dRes depthF
    rw [if_pos hs, if_pos ⟨h1, h2, hf⟩]
  rw [e n (by omega) hn] at h0 ⊢
  rw [e m hm (by omega)]
  generalize leastD (secL ss l) m (fallF l) l.len = L at *
  generalize leastD (secL ss l) n (fallF l) l.len = L2 at *
  by_cases c : (secL ss l).height.toNat < L2
  · rw [if_pos c] at h0; cases h0
  · rw [if_neg c, if_neg (by omega)]
    exact ⟨rfl, by simp only; omega⟩
/-- The depth is there if the flow is not more than the full capacity. -/
theorem dRes_full {ss : List Sec} {l : Lnk} {n : Int} (hv : catValid ss = true) (h : PipOk ss l) (hn : 0 ≤ n ∧ n ≤ 1099511627776) : (dRes ss l n).2 = 0 ↔ n ≤ fulF ss l := by
  have hs := h.valid hv
  have hf := h.fall
  have hh : 1 ≤ (secL ss l).height := by simp only [secValid, Bool.and_eq_true, decide_eq_true_eq] at hs; omega
  have hh2 : (secL ss l).height ≤ 32768 := by simp only [secValid, Bool.and_eq_true, decide_eq_true_eq] at hs; omega
  obtain ⟨H, hH⟩ : ∃ H : Nat, (secL ss l).height = H := ⟨(secL ss l).height.toNat, by omega⟩
  have hm : ∀ a b : Nat, a ≤ b → enoughD (secL ss l) n (fallF l) l.len a = true → enoughD (secL ss l) n (fallF l) l.len b = true := fun a b hab ha => by
    simp only [enoughD, decide_eq_true_eq] at ha ⊢
    have := carF_mono hs hf (show (a : Int) ≤ b by omega)
    omega
  have hb := bis_least hm 40 0 (H + 1) (by omega) (by omega)
  have hr := bis_range (enoughD (secL ss l) n (fallF l) l.len) 40 0 (H + 1) (by omega)
  have hd : (dRes ss l n).2 = 0 ↔ bis (enoughD (secL ss l) n (fallF l) l.len) 40 0 (H + 1) ≤ H := by
    unfold dRes depthF
    rw [if_pos hs, if_pos ⟨hn.1, hn.2, hf⟩, leastD, hH]
    show (if H < bis _ 40 0 (H + 1) then ((0, 28) : Int × Int) else _).2 = 0 ↔ _
    split
    · constructor
      · intro h; cases h
      · intro h; omega
    · constructor
      · intro _; omega
      · intro _; rfl
  have e : (carF (secL ss l) H (fallF l) l.len : Int) = carF (secL ss l) (secL ss l).height (fallF l) l.len := by rw [hH]
  have hful : n ≤ fulF ss l ↔ n ≤ (carF (secL ss l) H (fallF l) l.len : Int) := by
    have ec : capF (secL ss l) (secL ss l).height (fallF l) l.len = if 1099511627776 < (carF (secL ss l) (secL ss l).height (fallF l) l.len : Int) then ((0, 5) : Int × Int) else ((carF (secL ss l) (secL ss l).height (fallF l) l.len : Nat), 0) := by
      have hr : 0 ≤ (secL ss l).height ∧ (secL ss l).height ≤ (secL ss l).height ∧ slopeOk (fallF l) l.len = true := ⟨by omega, by omega, hf⟩
      unfold capF
      rw [if_pos hs, if_pos hr]
    unfold fulF
    rw [ec, e]
    by_cases c : 1099511627776 < (carF (secL ss l) (secL ss l).height (fallF l) l.len : Int)
    · rw [if_pos c]
      simp only [if_true]
      omega
    · rw [if_neg c]
      simp
  rw [hd, hful]
  constructor
  · intro hle
    have h1 := hm _ H hle (hb.2 (by omega))
    simpa [enoughD] using h1
  · intro hle
    apply Nat.le_of_not_lt
    intro hlt
    have := hb.1 H (by omega) hlt
    simp [enoughD] at this
    omega
theorem mem_ovT {ss : List Sec} {f : Sp → Int} {ls : List Lnk} {fl : List Sp} (hl : fl.length = ls.length) {x : List UInt8} : x ∈ ovT ss f ls fl ls.length ↔ ∃ (i : Nat) (h : i < ls.length) (h' : i < fl.length), fulF ss ls[i] < f fl[i] ∧ ls[i].name = x := by
  unfold ovT
  rw [List.take_of_length_le (by simp; omega)]
  simp only [List.mem_filterMap]
  constructor
  · rintro ⟨p, hp, e⟩
    obtain ⟨i, hi, rfl⟩ := List.getElem_of_mem hp
    have hi1 : i < ls.length := by simp at hi; omega
    have hi2 : i < fl.length := by simp at hi; omega
    refine ⟨i, hi1, hi2, ?_⟩
    simp [ovG] at e
    exact e
  · rintro ⟨i, hi1, hi2, c, e⟩
    have hi : i < (ls.zip fl).length := by simp; omega
    refine ⟨(ls.zip fl)[i], List.getElem_mem hi, ?_⟩
    simp [ovG, c, e]
theorem ovT_same {ss : List Sec} {ls : List Lnk} {a b : List Sp} (h : FlIn a b) (hl : a.length = ls.length) : ovT ss (·.1) ls b ls.length = ovT ss (·.2) ls b ls.length := by
  have hbl := h.len
  have : ∀ k, k ≤ ls.length → ovT ss (·.1) ls b k = ovT ss (·.2) ls b k := fun k => by
    induction k with
    | zero => intro _; rfl
    | succ k ih =>
      intro hk
      rw [ovT_succ (by omega) (by omega), ovT_succ (by omega) (by omega), ih (by omega), (h.get k (by omega) (by omega)).2.2.1]
  exact this _ (Nat.le_refl _)
theorem ovT_sub {ss : List Sec} {ls : List Lnk} {a b : List Sp} (h : FlIn a b) (hl : a.length = ls.length) : (∀ x ∈ ovT ss (·.1) ls a ls.length, x ∈ ovT ss (·.1) ls b ls.length) ∧ ∀ x ∈ ovT ss (·.1) ls b ls.length, x ∈ ovT ss (·.2) ls a ls.length := by
  have hbl := h.len
  constructor
  · intro x hx
    obtain ⟨i, h1, h2, c, e⟩ := (mem_ovT hl).1 hx
    have := h.get i h2 (by omega)
    exact (mem_ovT (by omega)).2 ⟨i, h1, by omega, by omega, e⟩
  · intro x hx
    obtain ⟨i, h1, h2, c, e⟩ := (mem_ovT (by omega)).1 hx
    have := h.get i (by omega) h2
    exact (mem_ovT hl).2 ⟨i, h1, by omega, by omega, e⟩
theorem ovT_bad {ss : List Sec} {ls : List Lnk} {a : List Sp} (hv : catValid ss = true) (hp : ∀ l ∈ ls, PipOk ss l) (hl : a.length = ls.length) (ha : ∀ s ∈ a, 0 ≤ s.1 ∧ s.1 ≤ s.2 ∧ s.2 ≤ 1099511627776) : ovT ss (·.2) ls a ls.length = [] ↔ anyBad ss ls a = false := by
  have hd : ∀ (i : Nat) (h1 : i < ls.length) (h2 : i < a.length), dBad ss ls[i] a[i] = decide (fulF ss ls[i] < a[i].2) := fun i h1 h2 => by
    have hr := ha _ (List.getElem_mem h2)
    have hpi := hp _ (List.getElem_mem h1)
    have f1 := dRes_full hv hpi (n := a[i].1) (by omega)
    have f2 := dRes_full hv hpi (n := a[i].2) (by omega)
    unfold dBad
    by_cases c : fulF ss ls[i] < a[i].2
    · have : ¬ (dRes ss ls[i] a[i].2).2 = 0 := fun h => by have := f2.1 h; omega
      simp [c, this]
    · have e1 := f1.2 (by omega)
      have e2 := f2.2 (by omega)
      simp [c, e1, e2]
  constructor
  · intro h
    refine anyBad_no fun k h1 h2 => ?_
    cases e : dBad ss ls[k] a[k]
    · rfl
    · rw [hd k h1 h2] at e
      have : ls[k].name ∈ ovT ss (·.2) ls a ls.length := (mem_ovT hl).2 ⟨k, h1, h2, by simpa using e, rfl⟩
      rw [h] at this
      cases this
  · intro h
    cases e : ovT ss (·.2) ls a ls.length with
    | nil => rfl
    | cons x r =>
      have hx : x ∈ ovT ss (·.2) ls a ls.length := by rw [e]; simp
      obtain ⟨i, h1, h2, c, _⟩ := (mem_ovT hl).1 hx
      have := anyBad_at h1 h2 (ss := ss) (by rw [hd i h1 h2]; simpa using c)
      rw [this] at h
      cases h
theorem dep_in {ss : List Sec} {ls : List Lnk} {a b : List Sp} (hv : catValid ss = true) (hp : ∀ l ∈ ls, PipOk ss l) (hl : a.length = ls.length) (ha : ∀ s ∈ a, 0 ≤ s.1 ∧ s.1 ≤ s.2 ∧ s.2 ≤ 1099511627776) (h : FlIn a b) (hb : anyBad ss ls a = false) : anyBad ss ls b = false ∧ ∀ (i : Nat) (h1 : i < (depL ss ls a).length) (h2 : i < (depL ss ls b).length), insS (depL ss ls b)[i] (depL ss ls a)[i] = true := by
  have hbl := h.len
  have hno : ∀ (i : Nat) (h1 : i < ls.length) (h2 : i < a.length), (dRes ss ls[i] a[i].1).2 = 0 ∧ (dRes ss ls[i] a[i].2).2 = 0 := fun i h1 h2 => by
    cases e : dBad ss ls[i] a[i]
    · simpa [dBad] using e
    · rw [anyBad_at h1 h2 e] at hb; cases hb
  have key : ∀ (i : Nat) (h1 : i < ls.length) (h2 : i < a.length) (h3 : i < b.length), (dRes ss ls[i] b[i].1).2 = 0 ∧ (dRes ss ls[i] b[i].2).2 = 0 ∧ (dRes ss ls[i] a[i].1).1 ≤ (dRes ss ls[i] b[i].1).1 ∧ (dRes ss ls[i] b[i].2).1 ≤ (dRes ss ls[i] a[i].2).1 := fun i h1 h2 h3 => by
    have hr := ha _ (List.getElem_mem h2)
    have hpi := hp _ (List.getElem_mem h1)
    have hg := h.get i h2 h3
    have m2 := dRes_mono hv hpi (m := b[i].2) (n := a[i].2) (by omega) (by omega) (by omega) (hno i h1 h2).2
    have m1 := dRes_mono hv hpi (m := a[i].1) (n := b[i].1) (by omega) (by omega) (by omega) (by rw [hg.2.2.1]; exact m2.1)
    exact ⟨by rw [hg.2.2.1]; exact m2.1, m2.1, m1.2, m2.2⟩
  refine ⟨anyBad_no fun k h1 h2 => ?_, fun i h1 h2 => ?_⟩
  · obtain ⟨k1, k2, _⟩ := key k h1 (by omega) h2
    simp [dBad, k1, k2]
  · have l1 := depL_len (ss := ss) (q := a) (ls := ls) hl
    have l2 := depL_len (ss := ss) (q := b) (ls := ls) (by omega)
    rw [depL_get h1 (by omega) (by omega), depL_get h2 (by omega) (by omega)]
    obtain ⟨_, _, k3, k4⟩ := key i (by omega) (by omega) (by omega)
    simp [insS, dSp, k3, k4]
theorem ld_in {ss : List Sec} {ls : List Lnk} {a b : List Sp} (hv : catValid ss = true) (hp : ∀ l ∈ ls, PipOk ss l) (hl : a.length = ls.length) (h : FlIn a b) (hz : anyZ ss ls = false) : ∀ (i : Nat) (h1 : i < (ldL ss ls a).length) (h2 : i < (ldL ss ls b).length), insS (ldL ss ls b)[i] (ldL ss ls a)[i] = true := by
  intro i h1 h2
  have hbl := h.len
  have l1 := ldL_len (ss := ss) (q := a) (ls := ls) hl
  have l2 := ldL_len (ss := ss) (q := b) (ls := ls) (by omega)
  rw [ldL_get h1 (by omega) (by omega), ldL_get h2 (by omega) (by omega)]
  have hpi := hp _ (List.getElem_mem (show i < ls.length by omega))
  obtain ⟨n, hn, e⟩ := fulF_rng hv hpi
  have n0 : 0 < n := by
    apply Nat.pos_of_ne_zero
    rintro rfl
    have : anyZ ss ls = true := List.any_eq_true.2 ⟨ls[i], List.getElem_mem _, by simp [zeroL, e]⟩
    rw [this] at hz; cases hz
  have hg := h.get i (by omega) (by omega)
  simp only [insS, ldSp, e, Bool.and_eq_true, decide_eq_true_eq]
  exact ⟨Int.ediv_le_ediv (by omega) (by omega), Int.ediv_le_ediv (by omega) (by omega)⟩
end Go.Gv

set_option linter.unusedSimpArgs false
namespace Go.Gv
variable {C : CC} (hC : Closed prog C)
include hC
theorem idxStr_c {b : Bool} {xs : List (List UInt8)} {g : Nat} {cs : List D} (p : List UInt8 → Bool) (hs : xs.length < 2 ^ 62) (hp : ∀ x ∈ xs, C g (.str x :: cs) (.bool (p x)) []) : C 484 [slx b (strR xs), .fn g cs] (.int .i64 (idxD p xs)) [] := by
  refine start hC (nf := N484_slices_IndexFunc__string_string) rfl rfl ?_
  simp [N484_slices_IndexFunc__string_string, strR]
  refine loop_of Nat (fun i => [(0, slx b (strR xs)), (1, .fn g cs), (7, .int .i64 xs.length), (8, .int .i64 i)]) (fun i => i ≤ xs.length ∧ ∀ (j : Nat) (h : j < xs.length), j < i → p xs[j] = false) (fun i => xs.length - i) 0 (by simp) (by simp [strR]) ?_
  rintro i ⟨hi, hj⟩
  simp [strR]
  refine brB_of (fun h => ?_) (fun h => ?_) <;> simp [h] <;> simp at h
  · have hw : IntKind.wrap .i64 ((i : Int) + 1) = ((i + 1 : Nat) : Int) := wrap_i64 (by omega) (by omega)
    have hc := hp _ (List.getElem_mem h)
    simp [h] at hc ⊢
    refine callW_of hc (.inl rfl) ?_
    simp
    refine brB_of (fun h1 => ?_) (fun h1 => ?_) <;> simp [h1, hw]
    · rw [idxD_step hj h h1]
    · refine ⟨i + 1, ⟨by omega, fun j hl hjj => ?_⟩, by omega, rfl⟩
      rcases Nat.lt_succ_iff_lt_or_eq.1 hjj with h2 | rfl
      · exact hj j hl h2
      · exact h1
  · rw [idxD_none (fun j hl => hj j hl (by omega))]
theorem hasStrF_c {b : Bool} {xs : List (List UInt8)} {g : Nat} {cs : List D} (p : List UInt8 → Bool) (hs : xs.length < 2 ^ 62) (hp : ∀ x ∈ xs, C g (.str x :: cs) (.bool (p x)) []) : C 448 [slx b (strR xs), .fn g cs] (.bool (xs.any p)) [] := by
  have hss : slx b (strR xs) = .nils ∨ slx b (strR xs) = .sl (strR xs) := by
    unfold slx; split
    · exact .inl rfl
    · exact .inr rfl
  have k := idxStr_c hC (b := b) p hs hp
  refine start hC (nf := N448_slices_ContainsFunc__string_string) rfl rfl ?_
  simp [N448_slices_ContainsFunc__string_string]
  refine callW_of k (.inl rfl) ?_
  simp [idxD_any]
theorem idxEqStr_c (b : Bool) (xs : List (List UInt8)) (s : List UInt8) (hs : xs.length < 2 ^ 62) : C 485 [slx b (strR xs), .str s] (.int .i64 (idxD (fun x => x == s) xs)) [] := by
  refine start hC (nf := N485_slices_Index__string_string) rfl rfl ?_
  simp [N485_slices_Index__string_string, strR]
  refine loop_of Nat (fun i => [(0, slx b (strR xs)), (1, .str s), (7, .int .i64 xs.length), (8, .int .i64 i)]) (fun i => i ≤ xs.length ∧ ∀ (j : Nat) (h : j < xs.length), j < i → (xs[j] == s) = false) (fun i => xs.length - i) 0 (by simp) (by simp [strR]) ?_
  rintro i ⟨hi, hj⟩
  simp [strR]
  refine brB_of (fun h => ?_) (fun h => ?_) <;> simp [h] <;> simp at h
  · have hw : IntKind.wrap .i64 ((i : Int) + 1) = ((i + 1 : Nat) : Int) := wrap_i64 (by omega) (by omega)
    simp [h]
    by_cases h1 : s = xs[i]
    · simp [← h1]
      rw [idxD_step hj h (by simp [h1])]
    · simp [h1, hw]
      refine ⟨i + 1, ⟨by omega, fun j hl hjj => ?_⟩, by omega, by omega⟩
      rcases Nat.lt_succ_iff_lt_or_eq.1 hjj with h2 | rfl
      · simpa using hj j hl h2
      · exact fun e => h1 e.symm
  · rw [idxD_none (fun j hl => by simpa using hj j hl (by omega))]
theorem hasStr_c (b : Bool) (xs : List (List UInt8)) (s : List UInt8) (hs : xs.length < 2 ^ 62) : C 450 [slx b (strR xs), .str s] (.bool (xs.contains s)) [] := by
  have hss : slx b (strR xs) = .nils ∨ slx b (strR xs) = .sl (strR xs) := by
    unfold slx; split
    · exact .inl rfl
    · exact .inr rfl
  have k := idxEqStr_c hC b xs s hs
  have e : xs.contains s = xs.any (fun x => x == s) := by
    rw [Bool.eq_iff_iff]; simp
  rw [e]
  refine start hC (nf := N450_slices_Contains__string_string) rfl rfl ?_
  simp only [N450_slices_Contains__string_string]
  simp
  refine callW_of k (.inl rfl) ?_
  simp [idxD_any]
theorem eqStr_c (b b' : Bool) (xs ys : List (List UInt8)) (hx : xs.length < 2 ^ 62) (hy : ys.length < 2 ^ 62) : C 435 [slx b (strR xs), slx b' (strR ys)] (.bool (decide (xs = ys))) [] := by
  obtain ⟨r, hr⟩ : ∃ r, r = decide (xs = ys) := ⟨_, rfl⟩
  rw [← hr]
  refine start hC (nf := N435_slices_Equal__string_string) rfl rfl ?_
  simp [N435_slices_Equal__string_string, strR]
  refine brB_of (fun h => ?_) (fun h => ?_) <;> simp at h <;> simp [h]
  · rw [hr, decide_eq_false]
    intro e
    exact h (by rw [e])
  have h' : xs.length = ys.length := by omega
  refine loop_of Nat (fun i => [(0, slx b (strR xs)), (1, slx b' (strR ys)), (12, .int .i64 xs.length), (13, .int .i64 i)])
    (fun i => i ≤ xs.length ∧ ∀ (k : Nat) (h1 : k < xs.length) (h2 : k < ys.length), k < i → xs[k] = ys[k]) (fun i => xs.length - i) 0 (by simp) (by simp [h', strR]) ?_
  rintro i ⟨hi, hok⟩
  simp [strR]
  refine brB_of (fun h1 => ?_) (fun h1 => ?_) <;> simp at h1 <;> simp [h1]
  · have hw : IntKind.wrap .i64 ((i : Int) + 1) = ((i + 1 : Nat) : Int) := wrap_i64 (by omega) (by omega)
    have hy1 : i < ys.length := by omega
    simp [h1, hy1]
    refine ⟨indW_of (by decide +kernel), ?_⟩
    by_cases h2 : xs[i] = ys[i]
    · simp [h2, hw]
      refine ⟨i + 1, ⟨by omega, fun k hk hk' hki => ?_⟩, by omega, by omega⟩
      rcases Nat.lt_succ_iff_lt_or_eq.1 hki with h3 | rfl
      · exact hok k hk hk' h3
      · exact h2
    · simp [h2]
      rw [hr, decide_eq_false]
      intro e
      subst e
      exact h2 rfl
  · rw [hr]
    have : xs = ys := by
      apply List.ext_getElem h'
      intro k a1 a2
      exact hok k a1 a2 (by omega)
    simp [this]
end Go.Gv
