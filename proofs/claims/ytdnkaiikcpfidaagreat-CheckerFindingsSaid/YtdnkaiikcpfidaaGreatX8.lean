/-
  Texts of the proof: A5, A6, A7, A11, A1, A4, A8, A9, A10, A12, A13, A14, A15, A16, A17, A18, A19.
-/
import Derived.Test.YtdnkaiikcpfidaaGreatX7
import Derived.Test.YtdnkaiikcpfidaaGreatX6
import Derived.Lib.Bytealg
import Derived.Shelf.SlSortCmp.NoneTotal
set_option linter.all false
set_option linter.unusedSimpArgs false
namespace Go.Gv
noncomputable def clsR (n : Nat) (es : List Edg) (j : Nat) : List (List D) := (List.range j).map fun i => [D.sl (boolA n (rB es [i]))]
theorem clsR_len (n : Nat) (es : List Edg) (j : Nat) : (clsR n es j).length = j := by simp [clsR]
theorem clsR_zero (n : Nat) (es : List Edg) : clsR n es 0 = [] := rfl
theorem clsR_succ (n : Nat) (es : List Edg) (j : Nat) : clsR n es j ++ [[D.sl (boolA n (rB es [j]))]] = clsR n es (j + 1) := by simp [clsR, List.range_succ]
theorem clsR_V (n : Nat) (es : List Edg) (j : Nat) : (clsR n es j).map (fun e => e.map cellV) = clsR n es j := by
  unfold clsR
  rw [List.map_map]
  apply List.map_congr_left
  intro v _
  simp [cellV]
theorem clsR_get {n : Nat} {es : List Edg} {j i : Nat} (h : i < j) : (clsR n es j)[i]? = some [D.sl (boolA n (rB es [i]))] := by simp [clsR, h]
/-- The rows of a table of truths, so far as they are made. -/
def iniR (n j : Nat) : List (List D) := (List.range n).map fun i => [D.own 1 (if i < j then boolA n (fun _ => false) else [])]
def ownR (n : Nat) (f : Nat → Nat → Bool) : List (List D) := (List.range n).map fun i => [D.own 1 (boolA n (f i))]
theorem iniR_get {n j i : Nat} (h : i < n) : (iniR n j)[i]? = some [D.own 1 (if i < j then boolA n (fun _ => false) else [])] := by simp [iniR, h]
theorem iniR_set {n j : Nat} : (iniR n j).set j [D.own 1 (boolA n fun _ => false)] = iniR n (j + 1) := by
  unfold iniR
  rw [set_rm]
  apply List.map_congr_left
  intro v _
  by_cases e : v = j
  · subst e; simp
  · have : (v < j) = (v < j + 1) := by apply propext; omega
    simp only [if_neg e, this]
theorem iniR_zero (n : Nat) : List.replicate n [D.own 1 []] = iniR n 0 := by simp [iniR, List.map_const']
theorem iniR_end (n : Nat) : iniR n n = ownR n fun _ _ => false := by
  unfold iniR ownR
  apply List.map_congr_left
  intro v hv
  rw [if_pos (by simpa using hv)]
theorem ownR_len (n : Nat) (f : Nat → Nat → Bool) : (ownR n f).length = n := by simp [ownR]
theorem ownR_get {n i : Nat} (f : Nat → Nat → Bool) (h : i < n) : (ownR n f)[i]? = some [D.own 1 (boolA n (f i))] := by simp [ownR, h]
theorem ownR_set {n i k : Nat} (f : Nat → Nat → Bool) (x : Bool) : (ownR n f).set i [D.own 1 ((boolA n (f i)).set k [.bool x])] = ownR n fun u v => if u = i ∧ v = k then x else f u v := by
  unfold ownR
  rw [set_rm]
  apply List.map_congr_left
  intro v _
  by_cases e : v = i
  · subst e
    rw [if_pos rfl, boolA_set]
    congr 3
    funext u
    simp
  · rw [if_neg e]
    congr 3
    funext u
    simp [e]
theorem ownR_V (n : Nat) (f : Nat → Nat → Bool) : (ownR n f).map (fun e => e.map cellV) = (List.range n).map fun i => [D.sl (boolA n (f i))] := by
  unfold ownR
  rw [List.map_map]
  apply List.map_congr_left
  intro v _
  simp [cellV]
/-- What the edges so far lead to; row i, up to column k, with one edge more. -/
noncomputable def wyJ (es : List Edg) (j : Nat) (i k : Nat) : Bool := (es.take j).any fun e => decide (e.1 = i) && rB es [e.2] k
noncomputable def wyK (es : List Edg) (j c : Nat) (i k : Nat) : Bool := if k < c then wyJ es (j + 1) i k else wyJ es j i k
theorem wyJ_zero (es : List Edg) : wyJ es 0 = fun _ _ => false := by funext i k; simp [wyJ]
theorem wyJ_succ {es : List Edg} {j : Nat} (h : j < es.length) (i k : Nat) : wyJ es (j + 1) i k = (wyJ es j i k || (decide (es[j].1 = i) && rB es [es[j].2] k)) := by
  unfold wyJ
  rw [List.take_succ_eq_append_getElem h, List.any_append]
  simp
theorem wyJ_end (es : List Edg) (i k : Nat) : wyJ es es.length i k = wyB es i k := by
  rw [Bool.eq_iff_iff, wyB_iff]
  unfold wyJ
  rw [List.take_length]
  simp only [List.any_eq_true, Bool.and_eq_true, decide_eq_true_eq, rB_iff]
  constructor
  · rintro ⟨⟨a, b⟩, h1, rfl, s, hs, hp⟩
    simp at hs; subst hs
    exact ⟨s, h1, hp⟩
  · rintro ⟨s, h1, hp⟩
    exact ⟨(i, s), h1, rfl, s, by simp, hp⟩
theorem wyK_step {es : List Edg} {j c n : Nat} (h : j < es.length) {x : Bool} (hx : x = (wyJ es j es[j].1 c || rB es [es[j].2] c)) : ownR n (fun u v => if u = es[j].1 ∧ v = c then x else wyK es j c u v) = ownR n (wyK es j (c + 1)) := by
  congr 1
  funext u v
  unfold wyK
  by_cases e2 : v = c
  · subst e2
    rw [if_neg (Nat.lt_irrefl v), if_pos (Nat.lt_succ_self v), wyJ_succ h]
    by_cases e1 : u = es[j].1
    · subst e1; simp [hx]
    · have : ¬ es[j].1 = u := fun e => e1 e.symm
      simp [e1, this]
  · have e3 : (v < c) = (v < c + 1) := by apply propext; omega
    simp only [e2, and_false, if_false, e3]
noncomputable def wayD (n : Nat) (es : List Edg) : D := .sl ((List.range n).map fun i => [.sl (boolA n (wyB es i))])
variable {C : CC} (hC : Closed prog C)
include hC
theorem gClos_c (hS : SlC C) {b : Bool} {n : Nat} {es : List Edg} (hn : n ≤ 300) (he : es.length ≤ 1000) (hg : inG n es) : C 635 [.int .i64 n, slx b (es.map edK)] (.tup [.sl (clsR n es n), .int .i64 0]) [] := by
  have k0 := gValid_c hC b n (es.map edI) (by simp; omega)
  rw [← edK_map, gOk_of hC hn he hg] at k0
  have k1 := next_c hC hS (b := b) hn he hg
  refine start hC (nf := N635_digraph_Closure) rfl rfl ?_
  simp [N635_digraph_Closure]
  refine callW_of k0 (.inl rfl) ?_
  simp
  refine callW_of k1 (.inr rfl) ?_
  obtain ⟨X, hX⟩ : ∃ X, nxtD n es = .sl X := ⟨_, rfl⟩
  simp [hX]
  refine loop_of Nat (fun j => [(6, .sl X), (7, .ref (.r 10112) 0 j), (10112, .blk 1 (clsR n es j)), (16, .int .i64 n), (17, .int .i64 j)]) (fun j => j ≤ n) (fun j => n - j) 0 (by simp) (by simp [clsR_zero]) ?_
  intro j hj
  simp
  refine brB_of (fun h => ?_) (fun h => ?_) <;> simp at h
  · have hw : IntKind.wrap .i64 ((j : Int) + 1) = ((j + 1 : Nat) : Int) := wrap_i64 (by omega) (by omega)
    have k2 := reach_c hC (b := false) hn hg [j] (by simp; omega) (by simp)
    rw [hX] at k2
    simp [h]
    refine callW_of k2 (.inr rfl) ?_
    simp [clsR_len]
    have e : List.take j (clsR n es j) = clsR n es j := List.take_of_length_le (by rw [clsR_len]; exact Nat.le_refl _)
    exact ⟨by omega, j + 1, by omega, by omega, rfl, by rw [e, clsR_succ], hw⟩
  · have ej : j = n := by omega
    subst ej
    simp [h, clsR_len, clsR_V]
    exact (List.take_of_length_le (by rw [clsR_len]; exact Nat.le_refl _)).symm
theorem ends_c (b1 b2 : Bool) (ns : List Nod) (ls : List Lnk) (hv : netOk ns ls = true) (hcv : ∀ l ∈ ls, l.curve.length < 2 ^ 62) : C 627 [.agg [slx b1 (ns.map nodC), slx b2 (ls.map lnkC)]] (.sl ((edgN ns ls).map edK)) [] := by
  have k1 := NEdges_c hC b1 b2 ns ls hcv
  rw [hv] at k1
  simp only [if_true] at k1
  refine start hC (nf := N627_checker_ends) rfl rfl ?_
  simp [N627_checker_ends]
  refine callW_of k1 (.inr rfl) ?_
  simp
set_option maxHeartbeats 2000000 in
theorem cWays_c (hS : SlC C) (b1 b2 : Bool) (ns : List Nod) (ls : List Lnk) (hv : netOk ns ls = true) (hcv : ∀ l ∈ ls, l.curve.length < 2 ^ 62) : C 600 [.agg [slx b1 (ns.map nodC), slx b2 (ls.map lnkC)]] (wayD ns.length (edgN ns ls)) [] := by
  have hn : ns.length ≤ 300 := (netOk_len hv).1
  have he : (edgN ns ls).length ≤ 1000 := by rw [edgN_len]; have := (netOk_len hv).2; omega
  have hg : inG ns.length (edgN ns ls) := edgN_in hv
  have k1 := ends_c hC b1 b2 ns ls hv hcv
  have k2 := gClos_c hC hS (b := false) hn he hg
  rw [slx_false] at k2
  generalize edgN ns ls = es at *
  obtain ⟨X, hX, hXg⟩ : ∃ X, X = clsR ns.length es ns.length ∧ ∀ i, i < ns.length → X[i]? = some [D.sl (boolA ns.length (rB es [i]))] := ⟨_, rfl, fun i hi => clsR_get hi⟩
  rw [← hX] at k2
  clear hX
  refine start hC (nf := N600_checker_ways) rfl rfl ?_
  simp [N600_checker_ways]
  refine callW_of k1 (.inr rfl) ?_
  simp
  refine callW_of k2 (.inr rfl) ?_
  simp [iniR_zero]
  refine ⟨by omega, ?_⟩
  refine loop_of Nat (fun j => [(1, .ptr [slx b1 (ns.map nodC), slx b2 (ls.map lnkC)]), (3, .sl (es.map edK)), (4, .sl X), (6, .ref (.r 10096) 0 ns.length), (10096, .blk 1 (iniR ns.length j)), (27, .int .i64 ns.length), (28, .int .i64 j)]) (fun j => j ≤ ns.length) (fun j => ns.length - j) 0 (by simp) (by simp) ?_
  intro j hj
  simp
  refine brB_of (fun h => ?_) (fun h => ?_) <;> simp at h
  · have hw : IntKind.wrap .i64 ((j : Int) + 1) = ((j + 1 : Nat) : Int) := wrap_i64 (by omega) (by omega)
    have hg0 := iniR_get (j := j) h
    rw [if_neg (Nat.lt_irrefl j)] at hg0
    simp [h, hw, hg0]
    have e1 : (iniR ns.length j).set j [D.own 1 (List.replicate ns.length [D.bool false])] = iniR ns.length (j + 1) := by
      rw [← iniR_set]
      congr 3
      simp [boolA, rep_map]
    rw [e1]
    exact ⟨by omega, j + 1, by omega, by omega, rfl, rfl⟩
  · have ej : j = ns.length := by omega
    subst ej
    have e2 : iniR ns.length ns.length = ownR ns.length (wyJ es 0) := by rw [iniR_end, wyJ_zero]
    simp [h, e2]
    refine loop_of Nat (fun j => [(4, .sl X), (6, .ref (.r 10096) 0 ns.length), (10096, .blk 1 (ownR ns.length (wyJ es j))), (39, .sl (es.map edK)), (40, .int .i64 es.length), (41, .int .i64 j)]) (fun j => j ≤ es.length) (fun j => es.length - j) 0 (by simp) (by simp) ?_
    intro j hj
    simp
    refine brB_of (fun h => ?_) (fun h => ?_) <;> simp at h
    · have hw : IntKind.wrap .i64 ((j : Int) + 1) = ((j + 1 : Nat) : Int) := wrap_i64 (by omega) (by omega)
      have hin := hg es[j] (List.getElem_mem _)
      obtain ⟨i, e, hie⟩ : ∃ i e, es[j] = (i, e) := ⟨_, _, rfl⟩
      simp [hie] at hin
      simp [h, edK, knD, hie, idxW_some (hXg e hin.2)]
      have hB := boolA_len ns.length (rB es [e])
      rw [hB]
      refine loop_of Nat (fun c => [(4, .sl X), (6, .ref (.r 10096) 0 ns.length), (9, .adr (.r 10144) 0 0), (39, .sl (es.map edK)), (40, .int .i64 es.length), (41, .int .i64 j), (49, .sl (boolA ns.length (rB es [e]))), (50, .int .i64 ns.length), (51, .int .i64 c), (10096, .blk 1 (ownR ns.length (wyK es j c))), (10144, .blk 2 [[.int .i64 i, .int .i64 e]])]) (fun c => c ≤ ns.length) (fun c => ns.length - c) 0 (by simp) (by
        have : ownR ns.length (wyK es j 0) = ownR ns.length (wyJ es j) := by unfold wyK; simp
        simp [this]) ?_
      intro c hc
      simp
      refine brB_of (fun h2 => ?_) (fun h2 => ?_) <;> simp at h2
      · have hw2 : IntKind.wrap .i64 ((c : Int) + 1) = ((c + 1 : Nat) : Int) := wrap_i64 (by omega) (by omega)
        have hrow := ownR_get (wyK es j c) hin.1
        have hcell := boolA_get (wyK es j c i) h2
        have hval : wyK es j c i c = wyJ es j i c := by simp [wyK]
        have hset : ∀ x, x = (wyJ es j i c || rB es [e] c) → (ownR ns.length (wyK es j c)).set i [D.own 1 ((boolA ns.length (wyK es j c i)).set c [D.bool x])] = ownR ns.length (wyK es j (c + 1)) := fun x hx => by
          rw [ownR_set]
          have := wyK_step (n := ns.length) (c := c) h (x := x) (by rw [hie]; exact hx)
          rw [hie] at this
          exact this
        have hrowE : (ownR ns.length (wyK es j c))[i]'(by rw [ownR_len]; exact hin.1) = [D.own 1 (boolA ns.length (wyK es j c i))] := (List.getElem?_eq_some_iff.1 hrow).2
        simp [h2, hw2, idxW_some (boolA_get (rB es [e]) h2), rowW_some hrow, hrow, hin.1, ownR_len, boolA_len, hrowE, rowW_some hcell, hval]
        have hcellE : (boolA ns.length (wyK es j c i))[c]'(by rw [boolA_len]; exact h2) = [D.bool (wyJ es j i c)] := (List.getElem?_eq_some_iff.1 hcell).2.trans (by rw [hval])
        refine brB_of (fun hv1 => ?_) (fun hv1 => ?_)
        · have e3 := hset true (by rw [hv1]; rfl)
          rw [hv1]
          simp [hrow, hrowE, hin.1, h2, ownR_len, boolA_len, rowW_some hrow, rowW_some hcell, hval, hcellE, e3, hw2]
          exact ⟨indW_of (by decide +kernel), c + 1, by omega, by omega, by omega, rfl⟩
        · have e3 := hset (rB es [e] c) (by rw [hv1]; rfl)
          rw [hv1]
          simp [hrow, hrowE, hin.1, h2, ownR_len, boolA_len, rowW_some hrow, rowW_some hcell, hval, hcellE, e3, hw2]
          exact ⟨indW_of (by decide +kernel), c + 1, by omega, by omega, by omega, rfl⟩
      · have ec : c = ns.length := by omega
        subst ec
        have e4 : ownR ns.length (wyK es j ns.length) = ownR ns.length (wyJ es (j + 1)) := by
          unfold ownR
          apply List.map_congr_left
          intro u _
          rw [boolA_congr (g := wyJ es (j + 1) u) fun v hv => by simp [wyK, hv]]
        simp [h2, hw, e4]
        exact ⟨j + 1, by omega, by omega, rfl, by omega⟩
    · have ej : j = es.length := by omega
      subst ej
      simp [h, ownR_len, ownR_V]
      unfold wayD
      rw [List.take_of_length_le (by simp)]
      congr 1
      apply List.map_congr_left
      intro i _
      rw [boolA_congr fun v _ => wyJ_end es i v]
end Go.Gv

set_option linter.unusedSimpArgs false
namespace Go.Gv
def nodK (ns : List Nod) (k : Nat) : Int := (ns[k]?.map (·.kind)).getD 0
theorem nodK_get {ns : List Nod} {k : Nat} (h : k < ns.length) : nodK ns k = ns[k].kind := by simp [nodK, h]
def backB (l : Lnk) : Bool := decide (l.kind = 1) && decide (l.up < l.down)
noncomputable def lostB (ns : List Nod) (es : List Edg) (i : Nat) : Bool := !decide (nodK ns i = 3) && !((List.range ns.length).any fun k => wyB es i k && decide (nodK ns k = 3))
/-- The names of the links that f takes. -/
def lmT (ls : List Lnk) (f : Lnk → Bool) (j : Nat) : List (List UInt8) := ((ls.take j).filter f).map (·.name)
theorem lmT_zero (ls : List Lnk) (f : Lnk → Bool) : lmT ls f 0 = [] := by simp [lmT]
theorem lmT_succ {ls : List Lnk} (f : Lnk → Bool) {j : Nat} (h : j < ls.length) : lmT ls f (j + 1) = lmT ls f j ++ (if f ls[j] = true then [ls[j].name] else []) := by
  unfold lmT
  rw [List.take_succ_eq_append_getElem h, List.filter_append, List.map_append]
  by_cases e : f ls[j] = true <;> simp [e]
theorem lmT_len (ls : List Lnk) (f : Lnk → Bool) (j : Nat) : (lmT ls f j).length ≤ j := by
  unfold lmT
  rw [List.length_map]
  exact Nat.le_trans (List.length_filter_le _ _) (by simp; omega)
theorem strR_isC (l : List (List UInt8)) : ∀ e ∈ strR l, ∀ c ∈ e, isC1 c = true := by
  intro e he c hc
  obtain ⟨x, _, rfl⟩ := List.mem_map.1 he
  simp at hc; subst hc; rfl
theorem strR_snoc (l : List (List UInt8)) (s : List UInt8) : strR l ++ [[.str s]] = strR (l ++ [s]) := by simp [strR]
theorem strR_tk (l : List (List UInt8)) : (strR l).take l.length = strR l := List.take_of_length_le (by rw [strR_len]; exact Nat.le_refl _)
/-! ### The loop of a node, so far as it is known -/
def lpLk (R : Nat → Nat → Bool) (i k : Nat) : List Nat := (List.range k).filter fun k' => decide (k' = i) || (decide (i < k') && mutB R i k')
def lpS (R : Nat → Nat → Bool) (i k v : Nat) : Bool := if v < k then lpSeen R (i + 1) v else lpSeen R i v
def lpR (ns : List Nod) (l : List (List Nat)) : List (List D) := l.map fun x => [.own 1 (strR (x.map (nodNm ns)))]
/-- Lists of names. -/
def lstD (l : List (List (List UInt8))) : List (List D) := l.map fun x => [.sl (strR x)]
/-- The loops, by their names. -/
noncomputable def loopN (ns : List Nod) (es : List Edg) : List (List (List UInt8)) := (lpsT ns.length (wyB es) ns.length).map fun x => x.map (nodNm ns)
variable {C : CC} (hC : Closed prog C)
include hC
theorem back_c (l : Lnk) : C 601 [.agg (lnkC l)] (.bool (backB l)) [] := by
  refine start hC (nf := N601_checker_isBackwards) rfl rfl ?_
  simp [N601_checker_isBackwards, lnkC]
  unfold backB
  refine brB_of (fun h => ?_) (fun h => ?_) <;> simp at h <;> simp [h]
theorem isLost_c (b1 b2 : Bool) (ns : List Nod) (ls : List Lnk) (es : List Edg) (i : Nat) (hn : ns.length ≤ 300) (hi : i < ns.length) : C 602 [.agg [slx b1 (ns.map nodC), slx b2 (ls.map lnkC)], wayD ns.length es, .int .i64 i] (.bool (lostB ns es i)) [] := by
  obtain ⟨X, hX, hXg⟩ : ∃ X, wayD ns.length es = .sl X ∧ ∀ i, i < ns.length → X[i]? = some [D.sl (boolA ns.length (wyB es i))] := ⟨_, rfl, fun i hi => by simp [hi]⟩
  rw [hX]
  have hB := boolA_len ns.length (wyB es i)
  refine start hC (nf := N602_checker_isLost) rfl rfl ?_
  simp [N602_checker_isLost, nodC, hi]
  unfold lostB
  rw [nodK_get hi]
  refine brB_of (fun h => ?_) (fun h => ?_) <;> simp at h
  · simp [h]
  · simp [h, idxW_some (hXg i hi), hB]
    refine loop_of Nat (fun c => [(3, .ptr [slx b1 (ns.map nodC), slx b2 (ls.map lnkC)]), (19, .sl (boolA ns.length (wyB es i))), (20, .int .i64 ns.length), (21, .int .i64 c)]) (fun c => c ≤ ns.length ∧ ∀ k, k < c → (wyB es i k && decide (nodK ns k = 3)) = false) (fun c => ns.length - c) 0 ⟨by omega, by simp⟩ (by simp) ?_
    rintro c ⟨hc, hf⟩
    simp
    refine brB_of (fun h2 => ?_) (fun h2 => ?_) <;> simp at h2
    · have hw2 : IntKind.wrap .i64 ((c : Int) + 1) = ((c + 1 : Nat) : Int) := wrap_i64 (by omega) (by omega)
      simp [h2, idxW_some (boolA_get (wyB es i) h2)]
      refine brB_of (fun h3 => ?_) (fun h3 => ?_)
      · simp [h3, h2, nodC]
        refine brB_of (fun h4 => ?_) (fun h4 => ?_) <;> simp at h4
        · have : ((List.range ns.length).any fun k => wyB es i k && decide (nodK ns k = 3)) = true := List.any_eq_true.2 ⟨c, by simpa using h2, by simp [h3, nodK_get h2, h4]⟩
          simp [h4, this]
        · simp [h4, hw2]
          refine ⟨c + 1, ⟨by omega, fun k hk => ?_⟩, by omega, by omega⟩
          rcases (show k < c ∨ k = c by omega) with h5 | rfl
          · have := hf k h5
            simpa using this
          · simp [nodK_get h2, h4]
      · simp [h3, hw2]
        refine ⟨c + 1, ⟨by omega, fun k hk => ?_⟩, by omega, by omega⟩
        rcases (show k < c ∨ k = c by omega) with h5 | rfl
        · have := hf k h5
          simpa using this
        · simp [h3]
    · have ec : c = ns.length := by omega
      subst ec
      have : ((List.range ns.length).any fun k => wyB es i k && decide (nodK ns k = 3)) = false := by
        rw [List.any_eq_false]
        intro k hk
        rw [hf k (by simpa using hk)]; simp
      simp [h2, h, this]
theorem Adverse_c (b1 b2 : Bool) (ns : List Nod) (ls : List Lnk) (hcv : ∀ l ∈ ls, l.curve.length < 2 ^ 62) : C 556 [.agg [slx b1 (ns.map nodC), slx b2 (ls.map lnkC)]] (.tup (if netOk ns ls then [.sl (strR (lmT ls backB ls.length)), .int .i64 0] else [.nils, .int .i64 1])) [] := by
  have k0 := netOk_c hC b1 b2 ns ls hcv
  refine start hC (nf := N556_checker_Adverse) rfl rfl ?_
  simp [N556_checker_Adverse]
  refine callW_of k0 (.inl rfl) ?_
  cases hv : netOk ns ls
  · simp
  have hl := (netOk_len hv).2
  simp
  refine loop_of Nat (fun j => [(4, .ref (.r 10064) 0 (lmT ls backB j).length), (10064, .blk 1 (strR (lmT ls backB j))), (11, slx b2 (ls.map lnkC)), (12, .int .i64 ls.length), (13, .int .i64 j)]) (fun j => j ≤ ls.length) (fun j => ls.length - j) 0 (by simp) (by simp [lmT_zero, strR]) ?_
  intro j hj
  simp
  refine brB_of (fun h => ?_) (fun h => ?_) <;> simp at h
  · have hw : IntKind.wrap .i64 ((j : Int) + 1) = ((j + 1 : Nat) : Int) := wrap_i64 (by omega) (by omega)
    have k1 := back_c hC ls[j]
    have hs := lmT_succ backB h
    have hlen := lmT_len ls backB j
    have ht := strR_tk (lmT ls backB j)
    have hc := strR_isC (lmT ls backB j)
    simp [h, lnkC]
    refine callW_of (by simpa [lnkC] using k1) (.inr rfl) ?_
    simp
    refine brB_of (fun h2 => ?_) (fun h2 => ?_)
    · rw [if_pos h2] at hs
      simp [h2, strR_len, ht, strR_snoc, hw]
      exact ⟨by omega, j + 1, by omega, by omega, by rw [hs]; simp, by rw [hs], by omega⟩
    · rw [if_neg (by rw [h2]; simp), List.append_nil] at hs
      simp [h2, hw]
      exact ⟨j + 1, by omega, by omega, by rw [hs], by rw [hs], by omega⟩
  · have ej : j = ls.length := by omega
    subst ej
    simp [h, strR_len, strR_V, strR_tk]
end Go.Gv

set_option linter.unusedSimpArgs false
namespace Go.Gv
theorem idxD_here {α : Type} {p : α → Bool} {xs : List α} (h : 0 ≤ idxD p xs) : ∃ h : (idxD p xs).toNat < xs.length, p xs[(idxD p xs).toNat] = true := by
  have key : ∀ i : Nat, idxD p xs = (i : Int) → ∃ h : i < xs.length, p xs[i] = true := by
    intro i h
    unfold idxD at h
    cases e : xs.findIdx? p with
    | none => rw [e] at h; simp at h
    | some k =>
      rw [e] at h
      obtain ⟨h1, h2, _⟩ := List.findIdx?_eq_some_iff_getElem.1 e
      have ek : k = i := by have h : (k : Int) = (i : Int) := h; omega
      subst ek
      exact ⟨h1, h2⟩
  exact key _ (by omega)
variable {C : CC} (hC : Closed prog C)
include hC
end Go.Gv

set_option linter.unusedSimpArgs false
namespace Go.Gv
/-- The nodes on one loop with a node, so far as they are known. -/
def lpM (R : Nat → Nat → Bool) (i k : Nat) : List Nat := (List.range k).filter fun k' => mutB R i k'
def lpE (R : Nat → Nat → Bool) (i k v : Nat) : Bool := lpDone R i v || (decide (v < k) && mutB R i v)
variable {C : CC} (hC : Closed prog C)
include hC
set_option maxHeartbeats 2000000 in
theorem rWays_c (b1 b2 : Bool) (ns : List Nod) (ls : List Lnk) (x : Nat) (hv : netOk ns ls = true) : C 502 [.agg [slx b1 (ns.map nodC), slx b2 (ls.map lnkC)], .int .i64 x, .bool false] (.sl (boolA ns.length (wyB (edgN ns ls) x))) [] := by
  have k2 := rEdgesF_c hC b1 b2 ns ls hv
  obtain ⟨l1, l2⟩ := netOk_len hv
  have hg := edgN_in hv
  have hel := edgN_len ns ls
  have hgl := tgs_len (edgN ns ls) x
  have k3 := rReachF_c hC (b := false) (b' := false) l1 (es := edgN ns ls) (by omega) hg (tgs (edgN ns ls) x) (fun s hs => (hg _ (mem_tgs.1 hs)).2) (by omega)
  simp only [slx_false] at k3
  have hR : boolA ns.length (wyB (edgN ns ls) x) = boolA ns.length (rB (edgN ns ls) (tgs (edgN ns ls) x)) := rfl
  rw [hR]
  generalize edgN ns ls = es at *
  have hEl : (es.map edK).length = es.length := by simp
  refine start hC (nf := N502_ref26_Ways) rfl rfl ?_
  simp [N502_ref26_Ways]
  refine callFW_of k2 ?_
  simp
  refine loop_of Nat (fun j => [(1, .int .i64 x), (2, .bool false), (3, .ptr [slx b1 (ns.map nodC), slx b2 (ls.map lnkC)]), (7, .ref (.r 10112) 0 es.length), (10112, .blk 2 (es.map edK)), (8, .ref (.r 10128) 0 (tgs (es.take j) x).length), (10128, .blk 1 (intL (tgs (es.take j) x))), (9, .int .i64 j)]) (fun j => j ≤ es.length) (fun j => es.length - j) 0 (by simp) (by simp [tgs, intL]) ?_
  rintro j hj
  simp
  refine brB_of (fun h => ?_) (fun h => ?_) <;> simp [h] <;> simp at h
  · have hw : IntKind.wrap .i64 ((j : Int) + 1) = ((j + 1 : Nat) : Int) := wrap_i64 (by omega) (by omega)
    have hgj : (es.map edK)[j]? = some [.int .i64 es[j].1, .int .i64 es[j].2] := by simp [h, edK, knD]
    have ht := tgs_take h x
    have hl1 := tgs_len (es.take j) x
    have hl2 : (es.take j).length = j := by simp; omega
    generalize tgs (es.take j) x = T at *
    have hT : (intL T).take T.length = intL T := List.take_of_length_le (by rw [intL_len]; exact Nat.le_refl _)
    simp [h, edK, knD]
    by_cases c : es[j].1 = x
    · rw [if_pos c] at ht
      simp [c, h, edK, knD]
      refine ⟨by rw [intL_len]; exact Nat.le_refl _, by omega, ?_⟩
      simp [hw]
      refine ⟨j + 1, by omega, by omega, ?_⟩
      rw [ht, hT]
      simp [intL]
    · rw [if_neg c, List.append_nil] at ht
      have c' : ¬ (es[j].1 : Int) = x := by omega
      simp [c, c', hw]
      exact ⟨j + 1, by omega, by omega, by rw [ht]; simp⟩
  · have ej : j = es.length := by omega
    subst ej
    have e1 : es.take es.length = es := List.take_length
    have hV : List.take es.length (List.map ((fun e => List.map cellV e) ∘ edK) es) = List.map edK es := by
      rw [List.take_of_length_le (by simp)]
      apply List.map_congr_left
      intro v _
      simp [edK, knD, cellV]
    have hV2 : List.take (tgs es x).length (List.map (fun e => List.map cellV e) (intL (tgs es x))) = intL (tgs es x) := by
      rw [intL_V, List.take_of_length_le (by rw [intL_len]; exact Nat.le_refl _)]
    simp [intL_len, e1, hV, hV2]
    refine callFW_of k3 ?_
    simp [boolA_len]
    rw [boolA_V, List.take_of_length_le (by rw [boolA_len]; exact Nat.le_refl _)]
theorem rLooped_c (b1 b2 : Bool) (ns : List Nod) (ls : List Lnk) (i : Nat) (hv : netOk ns ls = true) (hi : i < ns.length) : C 592 [.agg [slx b1 (ns.map nodC), slx b2 (ls.map lnkC)], .int .i64 i] (.bool (wyB (edgN ns ls) i i)) [] := by
  have k1 := rWays_c hC b1 b2 ns ls i hv
  have hB := boolA_get (wyB (edgN ns ls) i) hi
  refine start hC (nf := N592_ref27_Looped) rfl rfl ?_
  simp [N592_ref27_Looped]
  refine callW_of k1 (.inr rfl) ?_
  simp [idxW_some hB]
theorem rLost_c (b1 b2 : Bool) (ns : List Nod) (ls : List Lnk) (i : Nat) (hv : netOk ns ls = true) (hi : i < ns.length) : C 558 [.agg [slx b1 (ns.map nodC), slx b2 (ls.map lnkC)], .int .i64 i] (.bool (lostB ns (edgN ns ls) i)) [] := by
  have k1 := rWays_c hC b1 b2 ns ls i hv
  have hn := (netOk_len hv).1
  have hB := boolA_len ns.length (wyB (edgN ns ls) i)
  generalize edgN ns ls = es at *
  refine start hC (nf := N558_ref27_Lost) rfl rfl ?_
  simp [N558_ref27_Lost, nodC, hi]
  unfold lostB
  rw [nodK_get hi]
  refine brB_of (fun h => ?_) (fun h => ?_) <;> simp at h
  · simp [h]
  · simp [h]
    refine callW_of k1 (.inr rfl) ?_
    simp
    refine loop_of Nat (fun c => [(2, .ptr [slx b1 (ns.map nodC), slx b2 (ls.map lnkC)]), (5, .sl (boolA ns.length (wyB es i))), (6, .int .i64 c)]) (fun c => c ≤ ns.length ∧ ∀ k, k < c → (wyB es i k && decide (nodK ns k = 3)) = false) (fun c => ns.length - c) 0 (by simp) (by simp) ?_
    rintro c ⟨hc, hf⟩
    simp [hB]
    refine brB_of (fun h2 => ?_) (fun h2 => ?_) <;> simp at h2
    · have hw2 : IntKind.wrap .i64 ((c : Int) + 1) = ((c + 1 : Nat) : Int) := wrap_i64 (by omega) (by omega)
      simp [h2, idxW_some (boolA_get (wyB es i) h2)]
      refine brB_of (fun h3 => ?_) (fun h3 => ?_)
      · simp [h3, h2, nodC]
        refine brB_of (fun h4 => ?_) (fun h4 => ?_) <;> simp at h4
        · have : ((List.range ns.length).any fun k => wyB es i k && decide (nodK ns k = 3)) = true := List.any_eq_true.2 ⟨c, by simpa using h2, by simp [h3, nodK_get h2, h4]⟩
          simp [h4, this]
        · simp [h4, hw2]
          refine ⟨c + 1, ⟨by omega, fun k hk => ?_⟩, by omega, by omega⟩
          rcases (show k < c ∨ k = c by omega) with h5 | rfl
          · have := hf k h5
            simpa using this
          · simp [nodK_get h2, h4]
      · simp [h3, hw2]
        refine ⟨c + 1, ⟨by omega, fun k hk => ?_⟩, by omega, by omega⟩
        rcases (show k < c ∨ k = c by omega) with h5 | rfl
        · have := hf k h5
          simpa using this
        · simp [h3]
    · have ec : c = ns.length := by omega
      subst ec
      have : ((List.range ns.length).any fun k => wyB es i k && decide (nodK ns k = 3)) = false := by
        rw [List.any_eq_false]
        intro k hk
        rw [hf k (by simpa using hk)]; simp
      simp [h2, h, this]
end Go.Gv

namespace Go.Gv
open Go.Lib Go.Sort Go.Proofs
abbrev Fnd := Int × List UInt8
def fndC (x : Fnd) : List D := [.int .i64 x.1, .str x.2]
/-- A comparison that parts whatever two are not one. -/
structure TC {α : Type} (c : α → α → Int) : Prop where
  eq0 : ∀ x y, c x y = 0 → x = y
  anti : ∀ x y, c y x = - c x y
  trans : ∀ x y z, c x y < 0 → c y z < 0 → c x z < 0
section
variable {α : Type} {c : α → α → Int}
theorem TC.refl (h : TC c) (x : α) : c x x = 0 := by have := h.anti x x; omega
theorem TC.swo (h : TC c) : SWO (ltOf c) where
  irrefl x := by simp [ltOf, h.refl x]
  trans x y z h1 h2 := by
    simp only [ltOf, decide_eq_true_eq] at *
    exact h.trans x y z h1 h2
  ntrans x y z h1 h2 := by
    simp only [ltOf, decide_eq_false_iff_not] at *
    by_cases e1 : c x y = 0
    · rw [h.eq0 _ _ e1]; exact h2
    by_cases e2 : c y z = 0
    · rw [← h.eq0 _ _ e2]; exact h1
    have a1 := h.anti x y
    have a2 := h.anti y z
    have a3 := h.anti x z
    have := h.trans z y x (by omega) (by omega)
    omega
theorem TC.tot (h : TC c) (x y : α) (h1 : (ltOf c) x y = false) (h2 : (ltOf c) y x = false) : x = y := by
  simp only [ltOf, decide_eq_false_iff_not] at *
  have := h.anti x y
  exact h.eq0 x y (by omega)
end
theorem u8_lt {a b : UInt8} : (a < b) ↔ a.toNat < b.toNat := UInt8.lt_iff_toNat_lt
theorem u8_eq {a b : UInt8} (h : a.toNat = b.toNat) : a = b := UInt8.toNat_inj.1 h
theorem cB_anti : ∀ a b : List UInt8, compareBytes b a = - compareBytes a b
  | [], [] => rfl
  | [], _ :: _ => rfl
  | _ :: _, [] => rfl
  | a :: xs, b :: ys => by
    simp only [compareBytes, u8_lt]
    by_cases h1 : a.toNat < b.toNat
    · rw [if_neg (show ¬ b.toNat < a.toNat by omega), if_pos h1, if_pos h1]; rfl
    · by_cases h2 : b.toNat < a.toNat
      · rw [if_pos h2, if_neg h1, if_pos h2]
      · rw [if_neg h2, if_neg h1, if_neg h1, if_neg h2, cB_anti xs ys]
theorem cB_eq0 : ∀ a b : List UInt8, compareBytes a b = 0 → a = b
  | [], [], _ => rfl
  | [], _ :: _, h => by simp [compareBytes] at h
  | _ :: _, [], h => by simp [compareBytes] at h
  | a :: xs, b :: ys, h => by
    simp only [compareBytes, u8_lt] at h
    by_cases h1 : a.toNat < b.toNat
    · rw [if_pos h1] at h; cases h
    · by_cases h2 : b.toNat < a.toNat
      · rw [if_neg h1, if_pos h2] at h; cases h
      · rw [if_neg h1, if_neg h2] at h
        rw [cB_eq0 xs ys h, u8_eq (show a.toNat = b.toNat by omega)]
theorem cB_trans : ∀ a b d : List UInt8, compareBytes a b < 0 → compareBytes b d < 0 → compareBytes a d < 0
  | [], _, [], _, h2 => by
    rename_i b _
    cases b with
    | nil => exact h2
    | cons x xs => simp [compareBytes] at h2
  | [], _, _ :: _, _, _ => by simp [compareBytes]
  | _ :: _, [], _, h1, _ => by simp [compareBytes] at h1
  | _ :: _, _ :: _, [], _, h2 => by simp [compareBytes] at h2
  | a :: xs, b :: ys, d :: zs, h1, h2 => by
    simp only [compareBytes, u8_lt] at h1 h2 ⊢
    by_cases e1 : a.toNat < b.toNat
    · by_cases e2 : b.toNat < d.toNat
      · rw [if_pos (show a.toNat < d.toNat by omega)]; decide
      · by_cases e3 : d.toNat < b.toNat
        · rw [if_neg e2, if_pos e3] at h2; exact absurd h2 (by decide)
        · rw [if_pos (show a.toNat < d.toNat by omega)]; decide
    · by_cases e4 : b.toNat < a.toNat
      · rw [if_neg e1, if_pos e4] at h1; exact absurd h1 (by decide)
      · rw [if_neg e1, if_neg e4] at h1
        by_cases e2 : b.toNat < d.toNat
        · rw [if_pos (show a.toNat < d.toNat by omega)]; decide
        · by_cases e3 : d.toNat < b.toNat
          · rw [if_neg e2, if_pos e3] at h2; exact absurd h2 (by decide)
          · rw [if_neg e2, if_neg e3] at h2
            rw [if_neg (show ¬ a.toNat < d.toNat by omega), if_neg (show ¬ d.toNat < a.toNat by omega)]
            exact cB_trans xs ys zs h1 h2
def intC (a b : Int) : Int := if a < b then -1 else if b < a then 1 else 0
def fcmp (x y : Fnd) : Int := if intC x.1 y.1 = 0 then compareBytes x.2 y.2 else intC x.1 y.1
theorem intC_tc : TC intC := by
  refine ⟨fun x y h => ?_, fun x y => ?_, fun x y z h1 h2 => ?_⟩ <;> unfold intC at * <;> (repeat' split at *) <;> first | omega | (simp at *; done) | (simp at *; omega)
theorem fcmp_tc : TC fcmp := by
  refine ⟨fun x y h => ?_, fun x y => ?_, fun x y z h1 h2 => ?_⟩
  · unfold fcmp at h
    split at h
    · rename_i e
      exact Prod.ext (intC_tc.eq0 _ _ e) (cB_eq0 _ _ h)
    · rename_i e; exact absurd h e
  · unfold fcmp
    rw [intC_tc.anti x.1 y.1, cB_anti x.2 y.2]
    by_cases e : intC x.1 y.1 = 0
    · rw [if_pos e, if_pos (by omega)]
    · rw [if_neg e, if_neg (by omega)]
  · unfold fcmp at *
    by_cases e1 : intC x.1 y.1 = 0
    · rw [if_pos e1] at h1
      rw [← intC_tc.eq0 _ _ e1] at h2
      by_cases e2 : intC x.1 z.1 = 0
      · rw [if_pos e2] at h2 ⊢
        exact cB_trans _ _ _ h1 h2
      · rw [if_neg e2] at h2 ⊢
        exact h2
    · rw [if_neg e1] at h1
      by_cases e2 : intC y.1 z.1 = 0
      · rw [if_pos e2] at h2
        rw [← intC_tc.eq0 _ _ e2, if_neg e1]
        exact h1
      · rw [if_neg e2] at h2
        have h3 := intC_tc.trans _ _ _ h1 h2
        rw [if_neg (by omega)]
        exact h3

/-! ### Sorted lists -/
section
variable {α : Type} {c : α → α → Int}
def SrtC (c : α → α → Int) (l : List α) : Prop := l.Pairwise fun x y => c x y < 0
theorem SrtC.nodup (h : TC c) {l : List α} (hs : SrtC c l) : l.Nodup := hs.imp fun {x y} hxy e => by subst e; have := h.refl x; omega
/-- A sorted list is known by what is in it. -/
theorem SrtC.unique (h : TC c) : ∀ {l l' : List α}, SrtC c l → SrtC c l' → (∀ x, x ∈ l ↔ x ∈ l') → l = l'
  | [], [], _, _, _ => rfl
  | [], y :: _, _, _, hm => absurd ((hm y).2 (by simp)) (by simp)
  | x :: _, [], _, _, hm => absurd ((hm x).1 (by simp)) (by simp)
  | x :: l, y :: l', hs, hs', hm => by
    obtain ⟨a1, a2⟩ := List.pairwise_cons.1 hs
    obtain ⟨b1, b2⟩ := List.pairwise_cons.1 hs'
    have e : x = y := by
      rcases List.mem_cons.1 ((hm x).1 (by simp)) with e | e
      · exact e
      · rcases List.mem_cons.1 ((hm y).2 (by simp)) with e' | e'
        · exact e'.symm
        · have h1 := b1 x e
          have h2 := a1 y e'
          have := h.anti x y
          omega
    subst e
    rw [SrtC.unique h a2 b2 (fun z => ⟨fun hz => ?_, fun hz => ?_⟩)]
    · rcases List.mem_cons.1 ((hm z).1 (by simp [hz])) with e | e
      · subst e; have := a1 z hz; have := h.refl z; omega
      · exact e
    · rcases List.mem_cons.1 ((hm z).2 (by simp [hz])) with e | e
      · subst e; have := b1 z hz; have := h.refl z; omega
      · exact e
/-- Neighbours that are equal, once. -/
def ddL [DecidableEq α] : List α → List α
  | [] => []
  | [x] => [x]
  | x :: y :: r => if x = y then ddL (y :: r) else x :: ddL (y :: r)
theorem ddL_cons [DecidableEq α] (x y : α) (r : List α) : ddL (x :: y :: r) = if x = y then ddL (y :: r) else x :: ddL (y :: r) := rfl
theorem ddL_mem [DecidableEq α] : ∀ (l : List α) (x : α), x ∈ ddL l ↔ x ∈ l
  | [], x => by simp [ddL]
  | [y], x => by simp [ddL]
  | y :: z :: r, x => by
    rw [ddL_cons]
    have ih := ddL_mem (z :: r) x
    by_cases e : y = z
    · rw [if_pos e, ih]; subst e; simp
    · rw [if_neg e, List.mem_cons, ih]; simp
theorem ddL_srt [DecidableEq α] (h : TC c) : ∀ {l : List α}, (l.Pairwise fun x y => ¬ c y x < 0) → SrtC c (ddL l)
  | [], _ => List.Pairwise.nil
  | [y], _ => by simp [ddL, SrtC]
  | y :: z :: r, hp => by
    obtain ⟨a1, a2⟩ := List.pairwise_cons.1 hp
    have ih := ddL_srt h a2
    rw [ddL_cons]
    by_cases e : y = z
    · rw [if_pos e]; exact ih
    · rw [if_neg e]
      refine List.pairwise_cons.2 ⟨fun w hw => ?_, ih⟩
      have hw2 := (ddL_mem _ _).1 hw
      have h1 := a1 w hw2
      have hyz : c y z < 0 := by
        have h2 := a1 z (by simp)
        have h3 := h.anti y z
        have : c y z ≠ 0 := fun e' => e (h.eq0 _ _ e')
        omega
      rcases List.mem_cons.1 hw2 with e1 | e1
      · subst e1; exact hyz
      · have h4 := (List.pairwise_cons.1 a2).1 w e1
        have h5 := h.anti z w
        by_cases e2 : c z w = 0
        · rw [← h.eq0 _ _ e2]; exact hyz
        · exact h.trans y z w hyz (by omega)
def srtL (c : α → α → Int) (l : List α) : List α := l.mergeSort fun x y => !(ltOf c) y x
theorem srtL_mem {l : List α} {x : α} : x ∈ srtL c l ↔ x ∈ l := by unfold srtL; exact List.mem_mergeSort
theorem srtL_len {l : List α} : (srtL c l).length = l.length := by unfold srtL; exact List.length_mergeSort l
theorem srtL_pw (h : TC c) (l : List α) : (srtL c l).Pairwise fun x y => ¬ c y x < 0 := by
  have h1 := List.pairwise_mergeSort (le := fun x y : α => !(ltOf c) y x) (fun a b d h1 h2 => by
    simp only [Bool.not_eq_true'] at *
    exact h.swo.ntrans _ _ _ h2 h1) (fun a b => by
    simp only [Bool.or_eq_true, Bool.not_eq_true', ltOf, decide_eq_false_iff_not]
    have := h.anti a b
    omega) l
  exact h1.imp fun {x y} hxy => by simpa [ltOf] using hxy
/-- A list in order, each once. -/
def canL [DecidableEq α] (c : α → α → Int) (l : List α) : List α := ddL (srtL c l)
theorem canL_mem [DecidableEq α] {l : List α} {x : α} : x ∈ canL c l ↔ x ∈ l := by unfold canL; rw [ddL_mem, srtL_mem]
theorem canL_srt [DecidableEq α] (h : TC c) (l : List α) : SrtC c (canL c l) := ddL_srt h (srtL_pw h l)
theorem canL_eq [DecidableEq α] (h : TC c) {l l' : List α} (hs : SrtC c l') (hm : ∀ x, x ∈ l ↔ x ∈ l') : canL c l = l' := (canL_srt h l).unique h hs fun x => by rw [canL_mem]; exact hm x
/-- One more, in order. -/
def putL (c : α → α → Int) (l : List α) (x : α) : List α := l.filter (fun y => decide (c y x < 0)) ++ x :: l.filter (fun y => decide (c x y < 0))
theorem putL_mem (h : TC c) {l : List α} {x y : α} : y ∈ putL c l x ↔ y ∈ l ∨ y = x := by
  unfold putL
  simp only [List.mem_append, List.mem_filter, List.mem_cons, decide_eq_true_eq]
  constructor
  · rintro (h1 | h1 | h1)
    · exact .inl h1.1
    · exact .inr h1
    · exact .inl h1.1
  · rintro (h1 | h1)
    · by_cases e : c y x = 0
      · exact .inr (.inl (h.eq0 _ _ e))
      · have := h.anti y x
        by_cases e2 : c y x < 0
        · exact .inl ⟨h1, e2⟩
        · exact .inr (.inr ⟨h1, by omega⟩)
    · exact .inr (.inl h1)
theorem putL_srt (h : TC c) {l : List α} (hs : SrtC c l) (x : α) : SrtC c (putL c l x) := by
  unfold putL
  refine List.pairwise_append.2 ⟨hs.sublist List.filter_sublist, List.pairwise_cons.2 ⟨fun y hy => ?_, hs.sublist List.filter_sublist⟩, fun a ha b hb => ?_⟩
  · simpa using (List.mem_filter.1 hy).2
  · have h1 : c a x < 0 := by simpa using (List.mem_filter.1 ha).2
    rcases List.mem_cons.1 hb with rfl | hb
    · exact h1
    · exact h.trans _ _ _ h1 (by simpa using (List.mem_filter.1 hb).2)
theorem putL_in (h : TC c) {l : List α} (hs : SrtC c l) {x : α} (hx : x ∈ l) : putL c l x = l := (putL_srt h hs x).unique h hs fun y => by rw [putL_mem h]; exact ⟨fun h1 => h1.elim id (fun e => e ▸ hx), .inl⟩
end
end Go.Gv

set_option linter.unusedSimpArgs false
namespace Go.Gv
open Go.Lib
def fndR (L : List Fnd) : List (List D) := L.map fndC
theorem fndR_len (L : List Fnd) : (fndR L).length = L.length := by simp [fndR]
theorem fndR_get {L : List Fnd} {j : Nat} (h : j < L.length) : (fndR L)[j]? = some [.int .i64 L[j].1, .str L[j].2] := by simp [fndR, h, fndC]
theorem fndR_set {L : List Fnd} {j : Nat} (x : Fnd) : (fndR L).set j [.int .i64 x.1, .str x.2] = fndR (L.set j x) := by simp [fndR, fndC]
theorem fndR_take (L : List Fnd) (k : Nat) : (fndR L).take k = fndR (L.take k) := by simp [fndR]
theorem fndC_isC (L : List Fnd) : ∀ e ∈ fndR L, ∀ c ∈ e, isC1 c = true := by
  intro e he c hc
  obtain ⟨x, _, rfl⟩ := List.mem_map.1 he
  simp [fndC] at hc
  rcases hc with rfl | rfl <;> rfl
theorem fndC_isF (L : List Fnd) : ∀ e ∈ fndR L, ∀ c ∈ e, isF1 c = true := by
  intro e he c hc
  obtain ⟨x, _, rfl⟩ := List.mem_map.1 he
  simp [fndC] at hc
  rcases hc with rfl | rfl <;> rfl
theorem fndC_len (L : List Fnd) : ∀ e ∈ fndR L, e.length = 2 := by
  intro e he
  obtain ⟨x, _, rfl⟩ := List.mem_map.1 he
  rfl
structure ChkC (C : CC) : Prop where
  scmp : ∀ a b : List UInt8, C 632 [.str a, .str b] (.int .i64 (compareBytes a b)) []
  sort : ∀ L : List Fnd, L.length < 2 ^ 62 → (∀ x y : Fnd, C 631 [.agg (fndC x), .agg (fndC y)] (.int .i64 (fcmp x y)) []) → C 630 [.own 2 (fndR L), .fn 631 []] .any [.own 2 (fndR (srtL fcmp L)), .nilp]
/-! ### Plain: one of each, in place -/
section
variable {α : Type} [DecidableEq α]
theorem ddL_snoc : ∀ (l : List α) (x : α), ddL (l ++ [x]) = if l.getLast? = some x then ddL l else ddL l ++ [x]
  | [], x => by simp [ddL]
  | [y], x => by
    simp only [List.cons_append, List.nil_append, ddL_cons, List.getLast?_singleton, Option.some.injEq]
    by_cases e : y = x
    · rw [if_pos e, if_pos e]; subst e; rfl
    · rw [if_neg e, if_neg e]; rfl
  | y :: z :: r, x => by
    have ih := ddL_snoc (z :: r) x
    have e0 : y :: z :: r ++ [x] = y :: z :: (r ++ [x]) := rfl
    have e1 : z :: r ++ [x] = z :: (r ++ [x]) := rfl
    have e2 : (y :: z :: r).getLast? = (z :: r).getLast? := rfl
    rw [e0, ddL_cons, ← e1, ih, e2, ddL_cons]
    by_cases e : y = z
    · rw [if_pos e, if_pos e]
    · rw [if_neg e, if_neg e]
      split
      · rfl
      · rfl
theorem ddL_take (l : List α) {m : Nat} (hm : m < l.length) (h0 : 0 < m) : ddL (l.take (m + 1)) = if l[m - 1] = l[m] then ddL (l.take m) else ddL (l.take m) ++ [l[m]] := by
  have e : l.take (m + 1) = l.take m ++ [l[m]] := by rw [List.take_succ_eq_append_getElem hm]
  have e2 : (l.take m).getLast? = some l[m - 1] := by
    rw [List.getLast?_eq_getElem?]
    simp only [List.length_take, Nat.min_eq_left (Nat.le_of_lt hm)]
    rw [List.getElem?_take_of_lt (by omega), List.getElem?_eq_getElem (by omega)]
  rw [e, ddL_snoc, e2]
  simp only [Option.some.injEq]
theorem ddL_len (l : List α) : (ddL l).length ≤ l.length := by
  induction l with
  | nil => simp [ddL]
  | cons x l ih =>
    cases l with
    | nil => simp [ddL]
    | cons y r =>
      rw [ddL_cons]
      split
      · simp at ih ⊢; omega
      · simp at ih ⊢; omega
end
variable {C : CC} (hC : Closed prog C)
include hC
theorem add_c (L : List Fnd) (k : Int) (nm : List UInt8) (hl : L.length < 2 ^ 40) : C 628 [.blk 1 [[.own 2 (fndR L)]], .int .i64 k, .str nm] (.tup []) [.blk 1 [[.own 2 (fndR (L ++ [(k, nm)]))]]] := by
  refine startL hC (nf := N628_checker_notes_add) rfl rfl ?_
  simp [N628_checker_notes_add, fndR_len]
  have e : List.take L.length (fndR L) = fndR L := List.take_of_length_le (by rw [fndR_len]; exact Nat.le_refl _)
  refine ⟨by omega, fun e' he c hc => ?_, by rw [e]; simp [fndR, fndC]⟩
  rw [e] at he
  rcases he with he | rfl
  · exact fndC_isC L e' he c hc
  · simp at hc; rcases hc with rfl | rfl <;> rfl
theorem ccmp_c (a b : Int) : C 267 [.int .i64 a, .int .i64 b] (.int .i64 (intC a b)) [] := by
  have k1 := cNaN_c hC a
  have k2 := cNaN_c hC b
  refine start hC (nf := N267_cmp_Compare_int) rfl rfl ?_
  simp [N267_cmp_Compare_int]
  refine callW_of k1 (.inl rfl) ?_
  simp
  refine callW_of k2 (.inl rfl) ?_
  simp
  unfold intC
  refine brB_of (fun h => ?_) (fun h => ?_) <;> simp at h
  · simp [h]
  · have h' : ¬ a < b := by omega
    simp [h']
    refine brB_of (fun h2 => ?_) (fun h2 => ?_) <;> simp at h2
    · simp [h2]; omega
    · have h2' : ¬ b < a := by omega
      simp [h2']; omega
theorem cor_c (a b : Int) : C 266 [.sl [[.int .i64 a], [.int .i64 b]]] (.int .i64 (if a = 0 then b else a)) [] := by
  refine start hC (nf := N266_cmp_Or_int) rfl rfl ?_
  simp [N266_cmp_Or_int]
  refine loop_of Nat (fun j => [(3, .int .i64 0), (6, .sl [[.int .i64 a], [.int .i64 b]]), (7, .int .i64 2), (8, .int .i64 j)]) (fun j => j ≤ 2 ∧ (j = 1 → a = 0) ∧ (j = 2 → a = 0 ∧ b = 0)) (fun j => 2 - j) 0 (by simp) (by simp) ?_
  rintro j ⟨hj, h1, h2⟩
  simp
  rcases (show j = 0 ∨ j = 1 ∨ j = 2 by omega) with rfl | rfl | rfl
  · simp [idxW_some (show [[D.int .i64 a], [D.int .i64 b]][0]? = some [D.int .i64 a] from rfl)]
    refine brB_of (fun h => ?_) (fun h => ?_) <;> simp at h
    · simp [h]
    · simp [h]
      have hw : IntKind.wrap .i64 (1 : Int) = 1 := wrap_i64 (by omega) (by omega)
      simp [hw]
      exact ⟨1, by simp, by simp⟩
  · have ha := h1 rfl
    simp [idxW_some (show [[D.int .i64 a], [D.int .i64 b]][1]? = some [D.int .i64 b] from rfl)]
    refine brB_of (fun h => ?_) (fun h => ?_) <;> simp at h
    · simp [h, ha]
    · simp [h, ha]
      have hw : IntKind.wrap .i64 (2 : Int) = 2 := wrap_i64 (by omega) (by omega)
      simp [hw]
      exact ⟨2, by simp, by simp⟩
  · obtain ⟨ha, hb⟩ := h2 rfl
    simp [ha, hb]
theorem fcmp_c (hK : ChkC C) (x y : Fnd) : C 631 [.agg (fndC x), .agg (fndC y)] (.int .i64 (fcmp x y)) [] := by
  have k1 := ccmp_c hC x.1 y.1
  have k2 := hK.scmp x.2 y.2
  have k3 := cor_c hC (intC x.1 y.1) (compareBytes x.2 y.2)
  refine start hC (nf := N631_checker_notes_sorted_1) rfl rfl ?_
  simp [N631_checker_notes_sorted_1, fndC]
  refine callW_of k1 (.inl rfl) ?_
  simp
  refine callW_of k2 (.inl rfl) ?_
  simp
  refine callW_of k3 (.inl rfl) ?_
  simp
  refine ⟨indW_of (by decide +kernel), ?_⟩
  unfold fcmp
  split <;> rfl
set_option maxHeartbeats 1000000 in
theorem compF_c (L : List Fnd) (hl : L.length < 2 ^ 40) : C 633 [.own 2 (fndR L)] .any [.own 2 (fndR (ddL L)), .nils, .nils] := by
  refine startI hC (nf := N633_slices_Compact_checker_notes_api_Finding) rfl rfl (by simp) (by omega) ?_
  simp [N633_slices_Compact_checker_notes_api_Finding, fndR_len]
  refine brB_of (fun h => ?_) (fun h => ?_) <;> simp at h
  · simp [h, fndR_len]
    have e : ddL L = L := by
      match L, h with
      | [], _ => rfl
      | [x], _ => rfl
      | x :: y :: r, h => simp at h; omega
    rw [e]
    exact ⟨fndC_isF L, List.take_of_length_le (by rw [fndR_len]; exact Nat.le_refl _)⟩
  · simp [h]
    refine loop_of Nat (fun k => [(0, .ref (.r 10015) 0 L.length), (3, .int .i64 k), (10015, .blk 2 (fndR L))]) (fun k => 1 ≤ k ∧ k ≤ L.length ∧ ddL (L.take k) = L.take k) (fun k => L.length - k) 1 ⟨by omega, by omega, ?_⟩ (by simp) ?_
    · match L, h with
      | x :: r, h => simp [ddL]
    rintro k ⟨h1, h2, h3⟩
    simp
    refine brB_of (fun h4 => ?_) (fun h4 => ?_) <;> simp at h4
    · have hw : IntKind.wrap .i64 ((k : Int) - 1) = ((k - 1 : Nat) : Int) := by
        rw [show (k : Int) - 1 = ((k - 1 : Nat) : Int) by omega]
        exact wrap_i64 (by omega) (by omega)
      have hw2 : IntKind.wrap .i64 ((k : Int) + 1) = ((k + 1 : Nat) : Int) := wrap_i64 (by omega) (by omega)
      simp [h4, hw, rowW_some (fndR_get h4), rowW_some (fndR_get (show k - 1 < L.length by omega))]
      refine ⟨by omega, indW_of (by decide +kernel), ?_⟩
      have ht := ddL_take L h4 (by omega)
      refine brB_of (fun h5 => ?_) (fun h5 => ?_)
      · have h6 : L[k - 1] = L[k] := by
          simp only [Bool.and_eq_true, decide_eq_true_eq] at h5
          exact Prod.ext h5.1.symm h5.2.symm
        rw [if_pos h6, h3] at ht
        have h5' : (decide (L[k].1 = L[k - 1].1) && decide (L[k].2 = L[k - 1].2)) = true := h5
        rw [h5']
        clear h5 h5'
        simp [h4, h2, fndR_len]
        refine loop_of (Nat × Nat × List Fnd) (fun s => [(0, .ref (.r 10015) 0 L.length), (3, .int .i64 s.2.1), (4, .ref (.r 10015) k (L.length - k)), (5, .int .i64 s.1), (10015, .blk 2 (fndR s.2.2))])
          (fun s => 1 ≤ s.1 ∧ s.1 + k ≤ L.length ∧ k ≤ s.2.1 ∧ s.2.1 + 1 ≤ k + s.1 ∧ s.2.2.length = L.length ∧ s.2.2.take s.2.1 = ddL (L.take (k + s.1)) ∧ ∀ j, k + s.1 ≤ j + 1 → s.2.2[j]? = L[j]?)
          (fun s => L.length - s.1) (1, k, L) ⟨by simp, by simp; omega, by simp, by simp, rfl, by simp [ht], by simp⟩ (by simp) ?_
        rintro ⟨j, q, W⟩ ⟨a1, a2, a3, a4, a5, a6, a7⟩
        simp only at a1 a2 a3 a4 a5 a6 a7
        simp
        refine brB_of (fun h7 => ?_) (fun h7 => ?_) <;> simp at h7
        · have hkj : k + j < L.length := by omega
          have w1 : W[k + j]? = L[k + j]? := a7 _ (by omega)
          have w2 : W[k + (j - 1)]? = L[k + (j - 1)]? := a7 _ (by omega)
          have g1 : (fndR W)[k + j]? = some [.int .i64 L[k + j].1, .str L[k + j].2] := by
            unfold fndR
            rw [List.getElem?_map, w1, List.getElem?_eq_getElem hkj]; rfl
          have g2 : (fndR W)[k + (j - 1)]? = some [.int .i64 L[k + (j - 1)].1, .str L[k + (j - 1)].2] := by
            unfold fndR
            rw [List.getElem?_map, w2, List.getElem?_eq_getElem (show k + (j - 1) < L.length by omega)]; rfl
          have hv : IntKind.wrap .i64 ((j : Int) - 1) = ((j - 1 : Nat) : Int) := wrap_i64 (by omega) (by omega)
          have hv2 : IntKind.wrap .i64 ((j : Int) + 1) = ((j + 1 : Nat) : Int) := wrap_i64 (by omega) (by omega)
          have hv3 : IntKind.wrap .i64 ((q : Int) + 1) = ((q + 1 : Nat) : Int) := wrap_i64 (by omega) (by omega)
          simp [h7, hv, rowW_some g1, rowW_some g2]
          refine ⟨by omega, indW_of (by decide +kernel), ?_⟩
          have ht2 := ddL_take L hkj (by omega)
          refine brB_of (fun h8 => ?_) (fun h8 => ?_)
          · have hne : L[k + j - 1] ≠ L[k + j] := fun e => by
              have e2 : L[k + (j - 1)] = L[k + j] := by
                rw [← e]
                congr 1
                omega
              rw [e2] at h8
              simp at h8
            rw [if_neg hne] at ht2
            rw [h8]
            have hq : q < L.length := by omega
            have hqW : q < W.length := by omega
            have e9 : (fndR W)[q]'(by rw [fndR_len]; exact hqW) = [.int .i64 W[q].1, .str W[q].2] := (List.getElem?_eq_some_iff.1 (fndR_get hqW)).2
            simp [h7, hv, hv2, hv3, rowW_some g1, fndR_len, a5, hq, e9]
            refine ⟨j + 1, q + 1, W.set q L[k + j], ⟨by omega, by omega, by omega, by omega, by simp [a5], ?_, fun i hi => ?_⟩, by omega, by omega, by omega, fndR_set _⟩
            · rw [List.take_succ_eq_append_getElem (by simp; exact hqW), List.take_set_of_le (Nat.le_refl _), a6, show k + (j + 1) = k + j + 1 by omega, ht2]
              simp
            · rw [List.getElem?_set, if_neg (by omega)]
              exact a7 i (by omega)
          · have heq : L[k + j - 1] = L[k + j] := by
              have e2 : L[k + j] = L[k + (j - 1)] := by
                simp only [Bool.or_eq_false_iff, Bool.not_eq_false', decide_eq_true_eq] at h8
                exact Prod.ext h8.1 h8.2
              rw [e2]
              congr 1
              omega
            rw [if_pos heq] at ht2
            rw [h8]
            simp [h7, hv2]
            exact ⟨j + 1, q, W, ⟨by omega, by omega, by omega, by omega, a5, by rw [a6, show k + (j + 1) = k + j + 1 by omega, ht2], fun i hi => a7 i (by omega)⟩, by omega, rfl, by omega, rfl⟩
        · have hj : k + j = L.length := by omega
          have a6' : W.take q = ddL L := by rw [a6, hj, List.take_length]
          have hq : q < L.length := by omega
          have hqW : q ≤ W.length := by omega
          simp [h7, fndR_len, a5]
          have hz : (zeroR (fndR W) q (L.length - q) [.int .i64 0, .str []]).length = L.length := by rw [zeroR_len (by rw [fndR_len]; omega), fndR_len, a5]
          refine ⟨by omega, by omega, fndC_isC W, by omega, fndC_isF _, by omega, ?_⟩
          unfold zeroR
          rw [List.append_assoc, List.take_append_of_le_length (by simp [fndR_len]; omega), List.take_take, Nat.min_self, fndR_take, a6']
      · have h6 : L[k - 1] ≠ L[k] := fun e => by
          rw [e] at h5
          simp at h5
        rw [if_neg h6, h3] at ht
        rw [h5]
        simp [h4, hw2]
        exact ⟨k + 1, by refine ⟨by omega, by omega, ?_⟩; rw [ht, List.take_succ_eq_append_getElem h4], by omega, rfl⟩
    · have ek : k = L.length := by omega
      subst ek
      rw [List.take_length] at h3
      simp [h3, fndR_len]
      exact ⟨fndC_isF L, List.take_of_length_le (by rw [fndR_len]; exact Nat.le_refl _)⟩
theorem sortF_c (hK : ChkC C) (L : List Fnd) (hl : L.length < 2 ^ 40) : C 590 [.own 2 (fndR L)] .any [.own 2 (fndR (canL fcmp L)), .nils, .nils] := by
  have k1 := hK.sort L (by omega) (fcmp_c hC hK)
  have k2 := compF_c hC (srtL fcmp L) (by rw [srtL_len]; exact hl)
  refine startI hC (nf := N590_checker_notes_sorted) rfl rfl (by simp) (by omega) ?_
  simp [N590_checker_notes_sorted, fndR_len]
  refine ⟨fndC_isC L, ?_⟩
  refine callUW_of k1 (.inl rfl) (by simp [fndR_len, srtL_len]) (fun e he => ⟨fndC_len _ e he, fndC_isC _ e he⟩) ?_
  simp [fndR_len, srtL_len]
  have e : List.take L.length (fndR (srtL fcmp L)) = fndR (srtL fcmp L) := List.take_of_length_le (by rw [fndR_len, srtL_len]; exact Nat.le_refl _)
  rw [e]
  refine ⟨fndC_isF _, ?_⟩
  refine eatW_of k2 (fun e he => ⟨fndC_len _ e he, fndC_isF _ e he⟩) ?_
  simp [fndR_len]
  exact ⟨fndC_isF _, List.take_of_length_le (by rw [fndR_len]; exact Nat.le_refl _)⟩
end Go.Gv

set_option linter.unusedSimpArgs false
namespace Go.Gv
def secUse (s : Sec) : Bool := isName s.name && decide (1 ≤ s.height) && decide (s.height ≤ 32768)
def useB (l : List Sec) : Bool := decide (l.length ≤ 40) && l.all secUse && decide ((l.map (·.name)).Nodup)
/-- The height of the section of a link, or -1. -/
def hgF (l : List Sec) (k : Lnk) : Int := if k.kind = 1 then (match l.find? (fun s => s.name == k.sect) with | some s => s.height | none => -1) else -1
def hgA (l : List Sec) (ls : List Lnk) : List (List D) := ls.map fun k => [.int .i64 (hgF l k)]
theorem hgA_len (l : List Sec) (ls : List Lnk) : (hgA l ls).length = ls.length := by simp [hgA]
theorem hgA_get (l : List Sec) {ls : List Lnk} {i : Nat} (h : i < ls.length) : (hgA l ls)[i]? = some [.int .i64 (hgF l ls[i])] := by simp [hgA, h]
/-- So far as they are known. -/
def hgI (l : List Sec) (ls : List Lnk) (j : Nat) : List (List D) := (List.range ls.length).map fun i => [.int .i64 (if i < j then ((ls[i]?).map (hgF l)).getD 0 else 0)]
theorem hgI_len (l : List Sec) (ls : List Lnk) (j : Nat) : (hgI l ls j).length = ls.length := by simp [hgI]
theorem hgI_get {l : List Sec} {ls : List Lnk} {j i : Nat} (h : i < ls.length) : (hgI l ls j)[i]? = some [.int .i64 (if i < j then ((ls[i]?).map (hgF l)).getD 0 else 0)] := by simp [hgI, h]
theorem hgI_zero (l : List Sec) (ls : List Lnk) : List.replicate ls.length [D.int .i64 0] = hgI l ls 0 := by simp [hgI, List.map_const']
theorem hgI_set {l : List Sec} {ls : List Lnk} {j : Nat} (h : j < ls.length) : (hgI l ls j).set j [D.int .i64 (hgF l ls[j])] = hgI l ls (j + 1) := by
  unfold hgI
  rw [set_rm]
  apply List.map_congr_left
  intro v _
  by_cases e : v = j
  · subst e; simp [h]
  · have : (v < j) = (v < j + 1) := by apply propext; omega
    simp only [if_neg e, this]
theorem hgI_end (l : List Sec) (ls : List Lnk) : hgI l ls ls.length = hgA l ls := by
  apply List.ext_getElem (by simp [hgI, hgA])
  intro i h1 h2
  have h : i < ls.length := by simpa [hgA] using h2
  simp [hgI, hgA, h]
def secNm (nm : List UInt8) (s : Sec) : Bool := s.name == nm
theorem hgF_idx (l : List Sec) {k : Lnk} (hk : k.kind = 1) : hgF l k = if h : 0 ≤ idxD (secNm k.sect) l then (l[(idxD (secNm k.sect) l).toNat]?.map (·.height)).getD (-1) else -1 := by
  unfold hgF
  rw [if_pos hk]
  have hf : l.find? (fun s => s.name == k.sect) = l.find? (secNm k.sect) := rfl
  rw [hf]
  unfold idxD
  cases e : l.findIdx? (secNm k.sect) with
  | none =>
    have : l.find? (secNm k.sect) = none := by
      rw [List.find?_eq_none]
      exact fun x hx => by have := List.findIdx?_eq_none_iff.1 e x hx; simp [this]
    rw [this]; simp
  | some i =>
    obtain ⟨h1, h2, h3⟩ := List.findIdx?_eq_some_iff_getElem.1 e
    have : l.find? (secNm k.sect) = some l[i] := by
      rw [List.find?_eq_some_iff_getElem]
      exact ⟨h2, i, h1, rfl, fun j hj => by have := h3 j hj; simpa using this⟩
    rw [this]
    have e1 : ((some i).map (fun i : Nat => (i : Int))).getD (-1) = (i : Int) := rfl
    simp [h1]
variable {C : CC} (hC : Closed prog C)
include hC
theorem cvalid_c (b1 b2 b3 : Bool) (ns : List Nod) (ls : List Lnk) (l : List Sec) (hcv : ∀ l ∈ ls, l.curve.length < 2 ^ 62) : C 587 [.agg [slx b1 (ns.map nodC), slx b2 (ls.map lnkC)], slx b3 (l.map secC)] (.bool (netOk ns ls && useB l)) [] := by
  have k0 := netOk_c hC b1 b2 ns ls hcv
  refine start hC (nf := N587_checker_valid) rfl rfl ?_
  simp [N587_checker_valid]
  refine callW_of k0 (.inl rfl) ?_
  cases hv : netOk ns ls
  · simp
  simp
  refine brB_of (fun h => ?_) (fun h => ?_) <;> simp at h
  · simp [useB]; omega
  simp
  refine loop_of Nat (fun i => [(5, .mrf 10256), (10256, .mp 0 1 (namesK (l.take i)) (List.replicate i (.bool true))), (17, slx b3 (l.map secC)), (18, .int .i64 l.length), (19, .int .i64 i)])
    (fun i => i ≤ l.length ∧ (∀ x ∈ l.take i, secUse x = true) ∧ ((l.map (·.name)).take i).Nodup) (fun i => l.length - i) 0 (by simp) (by simp [namesK]) ?_
  rintro i ⟨hi, hv, hn⟩
  simp
  refine brB_of (fun h3 => ?_) (fun h3 => ?_) <;> simp at h3
  · have ht : l.take (i + 1) = l.take i ++ [l[i]] := List.take_succ_eq_append_getElem h3
    have hg := mpGet_set ((l.take i).map (·.name)).reverse i (by simp; omega) l[i].name
    rw [show ((l.take i).map (·.name)).reverse.map D.str = namesK (l.take i) from rfl] at hg
    have hk : D.str l[i].name :: namesK (l.take i) = namesK (l.take (i + 1)) := by
      rw [namesK, namesK, ht]
      simp only [List.map_append, List.map_cons, List.map_nil, List.reverse_append, List.reverse_cons, List.reverse_nil, List.nil_append, List.cons_append]
    have hlen : (namesK (l.take i)).length < maxLen := by
      have : (namesK (l.take i)).length ≤ 40 := by simp [namesK]; omega
      unfold maxLen; omega
    have hw : IntKind.wrap .i64 ((i : Int) + 1) = ((i + 1 : Nat) : Int) := wrap_i64 (by omega) (by omega)
    have bad1 : secUse l[i] = false → useB l = false := fun e => by
      simp only [useB, Bool.and_eq_false_iff, List.all_eq_false]
      exact .inl (.inr ⟨l[i], List.getElem_mem h3, by simp [e]⟩)
    have h5 : (l.map (·.name)).take (i + 1) = (l.map (·.name)).take i ++ [l[i].name] := by
      rw [List.take_succ_eq_append_getElem (by simpa using h3)]; simp
    have bad2 : l[i].name ∈ (l.map (·.name)).take i → useB l = false := fun e => by
      simp only [useB, Bool.and_eq_false_iff, decide_eq_false_iff_not]
      right
      intro hnd
      have h6 := (List.take_sublist (i + 1) _).nodup hnd
      rw [h5, List.nodup_append] at h6
      exact h6.2.2 _ e _ (by simp) rfl
    simp [h3, secC]
    refine callW_of (IsName_c hC l[i].name) (.inl rfl) ?_
    cases hvi : isName l[i].name
    · have := bad1 (by simp [secUse, hvi])
      simp [this]
    · have hnm : l[i].name.length ≤ maxLen := by
        simp only [isName, Bool.and_eq_true, decide_eq_true_eq] at hvi
        unfold maxLen; omega
      simp [hg, hnm]
      refine brB_of (fun h4 => ?_) (fun h4 => ?_)
      · have := bad2 (by simpa using h4)
        simp [h4, this]
      · have h4b : l[i].name ∉ (l.map (·.name)).take i := by simpa using h4
        simp [h4]
        by_cases h6 : l[i].height < 1
        · have := bad1 (by simp [secUse]; omega)
          simp [h6, this]
        by_cases h7 : 32768 < l[i].height
        · have := bad1 (by simp [secUse]; omega)
          simp [h6, h7, this]
        simp [h6, h7, hlen, hnm, hw]
        refine ⟨i + 1, ⟨by omega, ?_, ?_⟩, by omega, ?_⟩
        · intro x hx
          rw [ht] at hx
          rcases List.mem_append.1 hx with hx | hx
          · exact hv x hx
          · simp at hx; subst hx; simp [secUse, hvi]; omega
        · rw [h5, List.nodup_append]
          refine ⟨hn, by simp, fun a ha b hb => ?_⟩
          simp at hb
          subst hb
          rintro rfl
          exact h4b ha
        · rw [List.replicate_succ]
          exact ⟨⟨hk, rfl⟩, by omega⟩
  · have hil : i = l.length := by omega
    subst hil
    rw [List.take_of_length_le (by simp)] at hn
    simp at hv
    simp [useB, hn]
    exact ⟨by omega, hv⟩
theorem hgIs_c (s : Sec) (k : Lnk) : C 647 [.agg (secC s), .ptr (lnkC k)] (.bool (secNm k.sect s)) [] := by
  refine start hC (nf := N647_checker_heights_1) rfl rfl ?_
  simp [N647_checker_heights_1, secC, lnkC, secNm]
  rw [Bool.eq_iff_iff]; simp
theorem heights_c (b1 b2 b3 : Bool) (ns : List Nod) (ls : List Lnk) (l : List Sec) (hls : ls.length ≤ 400) (hl : l.length ≤ 40) : C 629 [.agg [slx b1 (ns.map nodC), slx b2 (ls.map lnkC)], slx b3 (l.map secC)] (.sl (hgA l ls)) [] := by
  refine start hC (nf := N629_checker_heights) rfl rfl ?_
  simp [N629_checker_heights]
  rw [hgI_zero l]
  refine ⟨by omega, ?_⟩
  refine loop_of Nat (fun i => [(1, slx b3 (l.map secC)), (5, .ref (.r 10080) 0 ls.length), (10080, .blk 1 (hgI l ls i)), (14, slx b2 (ls.map lnkC)), (15, .int .i64 ls.length), (16, .int .i64 i)]) (fun i => i ≤ ls.length) (fun i => ls.length - i) 0 (by simp) (by simp) ?_
  intro i hi
  simp
  refine brB_of (fun h => ?_) (fun h => ?_) <;> simp at h
  · have hw : IntKind.wrap .i64 ((i : Int) + 1) = ((i + 1 : Nat) : Int) := wrap_i64 (by omega) (by omega)
    have hset := hgI_set (l := l) h
    have hg1 := hgI_get (l := l) (j := i) h
    rw [if_neg (Nat.lt_irrefl i)] at hg1
    have hm1 := fun x => show (hgI l ls i).set i [D.int .i64 x] = (hgI l ls i).set i [D.int .i64 x] from rfl
    have hg1E : (hgI l ls i)[i]'(by rw [hgI_len]; exact h) = [D.int .i64 0] := (List.getElem?_eq_some_iff.1 hg1).2
    have k1 := idxSec_c hC (b := b3) (xs := l) (g := 647) (cs := [.ptr (lnkC ls[i])]) (secNm ls[i].sect) (by omega) (fun x _ => hgIs_c hC x ls[i])
    have hx := hgF_idx l (k := ls[i])
    simp [h, lnkC, hgI_len, hg1, hg1E]
    refine brB_of (fun h2 => ?_) (fun h2 => ?_) <;> simp at h2
    · have hf : hgF l ls[i] = -1 := by unfold hgF; rw [if_neg h2]
      rw [hf] at hset
      simp [h2, hw, hset]
      exact ⟨i + 1, by omega, by omega, rfl, by omega⟩
    · have hf := hx h2
      simp [h2, lnkC] at k1 ⊢
      refine callW_of k1 (.inl rfl) ?_
      simp
      refine brB_of (fun h3 => ?_) (fun h3 => ?_) <;> simp at h3
      · obtain ⟨hi1, _⟩ := idxD_here h3
        have hf' : hgF l ls[i] = l[(idxD (secNm ls[i].sect) l).toNat].height := by rw [hf, dif_pos h3, List.getElem?_eq_getElem hi1]; rfl
        rw [hf'] at hset
        have hs1 : ((hgI l ls i).set i [D.int .i64 (-1)])[i]? = some [D.int .i64 (-1)] := List.getElem?_set_self (by rw [hgI_len]; exact h)
        simp [h3, hi1, secC, hs1, h, hw, hset, hgI_len]
        exact ⟨i + 1, by omega, by omega, rfl, by omega⟩
      · have hf' : hgF l ls[i] = -1 := by rw [hf, dif_neg (by omega)]
        rw [hf'] at hset
        simp [h3, hw, hset]
        exact ⟨i + 1, by omega, by omega, rfl, by omega⟩
  · have ei : i = ls.length := by omega
    subst ei
    simp [h, hgI_len, hgI_end, hgA_len]
    rw [List.take_of_length_le (by simp [hgA_len])]
    unfold hgA
    rw [List.map_map]
    apply List.map_congr_left
    intro v _
    simp [cellV]
end Go.Gv

set_option linter.unusedSimpArgs false
namespace Go.Gv
/-- Lists, one after another. -/
def flatF {α : Type} (f : Nat → List α) (j : Nat) : List α := (List.range j).flatMap f
theorem flatF_zero {α : Type} (f : Nat → List α) : flatF f 0 = [] := rfl
theorem flatF_succ {α : Type} (f : Nat → List α) (j : Nat) : flatF f (j + 1) = flatF f j ++ f j := by simp [flatF, List.range_succ]
theorem flatF_len {α : Type} {f : Nat → List α} {k : Nat} (h : ∀ i, (f i).length ≤ k) (j : Nat) : (flatF f j).length ≤ k * j := by
  induction j with
  | zero => simp [flatF]
  | succ j ih =>
    rw [flatF_succ, List.length_append, Nat.mul_succ]
    have := h j
    omega
def one {α : Type} (b : Bool) (x : α) : List α := if b = true then [x] else []
theorem one_len {α : Type} (b : Bool) (x : α) : (one b x).length ≤ 1 := by cases b <;> simp [one]
/-- An edge meets a node. -/
def metB (es : List Edg) (j v : Nat) : Bool := (es.take j).any fun e => decide (e.1 = v) || decide (e.2 = v)
theorem metB_zero (es : List Edg) : metB es 0 = fun _ => false := by funext v; simp [metB]
theorem metB_succ {es : List Edg} {j : Nat} (h : j < es.length) (v : Nat) : metB es (j + 1) v = (metB es j v || (decide (es[j].1 = v) || decide (es[j].2 = v))) := by
  unfold metB
  rw [List.take_succ_eq_append_getElem h, List.any_append]
  simp
theorem metB_set {es : List Edg} {j n : Nat} (h : j < es.length) : ((boolA n (metB es j)).set es[j].1 [D.bool true]).set es[j].2 [D.bool true] = boolA n (metB es (j + 1)) := by
  rw [boolA_set, boolA_set]
  apply boolA_congr
  intro v _
  rw [metB_succ h]
  by_cases e1 : v = es[j].2
  · subst e1; simp
  · have e1' : ¬ es[j].2 = v := fun e => e1 e.symm
    by_cases e2 : v = es[j].1
    · subst e2; simp [e1]
    · have e2' : ¬ es[j].1 = v := fun e => e2 e.symm
      simp [e1, e2, e1', e2']
/-- The findings on a node, and on a link. -/
noncomputable def stF (ns : List Nod) (es : List Edg) (i : Nat) : List Fnd := one (wyB es i i) (1, nodNm ns i) ++ one (lostB ns es i) (3, nodNm ns i) ++ one (!metB es es.length i) (8, nodNm ns i)
def lnkNm (ls : List Lnk) (k : Nat) : List UInt8 := (ls[k]?.map (·.name)).getD []
theorem lnkNm_get {ls : List Lnk} {k : Nat} (h : k < ls.length) : lnkNm ls k = ls[k].name := by simp [lnkNm, h]
def bkF (ls : List Lnk) (i : Nat) : List Fnd := one ((ls[i]?.map backB).getD false) (2, lnkNm ls i)
theorem stF_len (ns : List Nod) (es : List Edg) (i : Nat) : (stF ns es i).length ≤ 3 := by
  unfold stF
  have := one_len (wyB es i i) ((1, nodNm ns i) : Fnd)
  have := one_len (lostB ns es i) ((3, nodNm ns i) : Fnd)
  have := one_len (!metB es es.length i) ((8, nodNm ns i) : Fnd)
  simp only [List.length_append]; omega
theorem bkF_len (ls : List Lnk) (i : Nat) : (bkF ls i).length ≤ 1 := one_len _ _
noncomputable def strF (ns : List Nod) (ls : List Lnk) : List Fnd := flatF (stF ns (edgN ns ls)) ns.length ++ flatF (bkF ls) ls.length
variable {C : CC} (hC : Closed prog C)
include hC
set_option maxHeartbeats 4000000 in
theorem structure_c (hS : SlC C) (b1 b2 : Bool) (ns : List Nod) (ls : List Lnk) (hv : netOk ns ls = true) (hcv : ∀ l ∈ ls, l.curve.length < 2 ^ 62) (L : List Fnd) (hL : L.length < 2 ^ 30) : C 588 [.blk 1 [[.own 2 (fndR L)]], .agg [slx b1 (ns.map nodC), slx b2 (ls.map lnkC)]] (.tup []) [.blk 1 [[.own 2 (fndR (L ++ strF ns ls))]]] := by
  have hn := (netOk_len hv).1
  have hl := (netOk_len hv).2
  have hg := edgN_in hv
  have he : (edgN ns ls).length ≤ 400 := by rw [edgN_len]; omega
  have k1 := cWays_c hC hS b1 b2 ns ls hv hcv
  have k2 := ends_c hC b1 b2 ns ls hv hcv
  have k3 := fun i hi => isLost_c hC b1 b2 ns ls (edgN ns ls) i hn hi
  have k4 := add_c hC
  have k5 := back_c hC
  unfold strF
  generalize edgN ns ls = es at *
  obtain ⟨X, hX, hXg⟩ : ∃ X, wayD ns.length es = .sl X ∧ ∀ i, i < ns.length → X[i]? = some [D.sl (boolA ns.length (wyB es i))] := ⟨_, rfl, fun i hi => by simp [hi]⟩
  rw [hX] at k1
  simp only [hX] at k3
  clear hX
  have hrep : List.replicate ns.length [D.bool false] = boolA ns.length (metB es 0) := by rw [metB_zero]; simp [boolA, rep_map]
  refine startL hC (nf := N588_checker_notes_structure) rfl rfl ?_
  simp [N588_checker_notes_structure]
  refine callW_of k1 (.inr rfl) ?_
  simp
  refine ⟨by omega, ?_⟩
  refine callW_of k2 (.inr rfl) ?_
  simp
  refine loop_of Nat (fun j => [(0, .adr (.r 10015) 0 0), (10015, .blk 1 [[.own 2 (fndR L)]]), (3, .ptr [slx b1 (ns.map nodC), slx b2 (ls.map lnkC)]), (4, .sl X), (5, .ref (.r 10080) 0 ns.length), (10080, .blk 1 (boolA ns.length (metB es j))), (19, .sl (es.map edK)), (20, .int .i64 es.length), (21, .int .i64 j)]) (fun j => j ≤ es.length) (fun j => es.length - j) 0 (by simp) (by simp [hrep]) ?_
  · intro j hj
    simp
    refine brB_of (fun h => ?_) (fun h => ?_) <;> simp at h
    · have hw : IntKind.wrap .i64 ((j : Int) + 1) = ((j + 1 : Nat) : Int) := wrap_i64 (by omega) (by omega)
      have hset := metB_set (n := ns.length) h
      have hin := hg es[j] (List.getElem_mem _)
      have hw : IntKind.wrap .i64 ((j : Int) + 1) = ((j + 1 : Nat) : Int) := wrap_i64 (by omega) (by omega)
      obtain ⟨i, e, hie⟩ : ∃ i e, es[j] = (i, e) := ⟨_, _, rfl⟩
      rw [hie] at hset hin
      simp at hset hin
      have hA : (boolA ns.length (metB es j))[i]'(by rw [boolA_len]; exact hin.1) = [D.bool (metB es j i)] := (List.getElem?_eq_some_iff.1 (boolA_get _ hin.1)).2
      have hB : ((boolA ns.length (metB es j)).set i [D.bool true])[e]'(by rw [List.length_set, boolA_len]; exact hin.2) = [D.bool (if e = i then true else metB es j e)] := by
        simp only [boolA_set]
        exact (List.getElem?_eq_some_iff.1 (boolA_get _ hin.2)).2
      simp [h, edK, knD, hie, hin.1, hin.2, boolA_len, hA, hB, hset, hw]
      exact ⟨indW_of (by decide +kernel), j + 1, by omega, by omega, rfl, by omega⟩
    · have ej : j = es.length := by omega
      subst ej
      simp [h]
      have hst : ∀ i, (L ++ flatF (stF ns es) i).length ≤ 2 ^ 30 + 3 * i := fun i => by
        have := flatF_len (stF_len ns es) i
        rw [List.length_append]; omega
      refine loop_of Nat (fun j => [(0, .adr (.r 10015) 0 0), (10015, .blk 1 [[.own 2 (fndR (L ++ flatF (stF ns es) j))]]), (3, .ptr [slx b1 (ns.map nodC), slx b2 (ls.map lnkC)]), (4, .sl X), (5, .ref (.r 10080) 0 ns.length), (10080, .blk 1 (boolA ns.length (metB es es.length))), (35, slx b1 (ns.map nodC)), (36, .int .i64 ns.length), (37, .int .i64 j)]) (fun j => j ≤ ns.length) (fun j => ns.length - j) 0 (by simp) (by simp [flatF_zero]) ?_
      intro j hj
      simp
      have hl0 := hst j
      have hfs := flatF_succ (stF ns es) j
      generalize hW : flatF (stF ns es) j = W at *
      refine brB_of (fun h => ?_) (fun h => ?_) <;> simp at h
      · have hw : IntKind.wrap .i64 ((j : Int) + 1) = ((j + 1 : Nat) : Int) := wrap_i64 (by omega) (by omega)
        have hme := boolA_get (metB es es.length) h
        have k3' := k3 j h
        have hsj : stF ns es j = one (wyB es j j) (1, nodNm ns j) ++ one (lostB ns es j) (3, nodNm ns j) ++ one (!metB es es.length j) (8, nodNm ns j) := rfl
        rw [nodNm_get h] at hsj
        simp [h, nodC, idxW_some (hXg j h), idxW_some (boolA_get (wyB es j) h)]
        refine brB_of (fun q1 => ?_) (fun q1 => ?_)
        · simp [q1]
          refine lndW_of (k4 _ 1 _ (by simp only [List.length_append, List.length_cons, List.length_nil] at *; omega)) (by simp) ?_
          simp
          refine callW_of (by simpa [nodC] using k3') (.inl rfl) ?_
          simp
          refine brB_of (fun q2 => ?_) (fun q2 => ?_)
          · simp [q2]
            refine lndW_of (k4 _ 3 _ (by simp only [List.length_append, List.length_cons, List.length_nil] at *; omega)) (by simp) ?_
            simp
            simp [rowW_some hme, hw, h]
            refine brB_of (fun q3 => ?_) (fun q3 => ?_)
            · simp [q3]
              refine lndW_of (k4 _ 8 _ (by simp only [List.length_append, List.length_cons, List.length_nil] at *; omega)) (by simp) ?_
              simp [hw]
              refine ⟨j + 1, by omega, by omega, ?_, by omega⟩; rw [hfs, hsj]; simp [one, q1, q2, q3]
            · simp [q3, hw]
              refine ⟨j + 1, by omega, by omega, ?_, by omega⟩; rw [hfs, hsj]; simp [one, q1, q2, q3]
          · simp [q2]
            simp [rowW_some hme, hw, h]
            refine brB_of (fun q3 => ?_) (fun q3 => ?_)
            · simp [q3]
              refine lndW_of (k4 _ 8 _ (by simp only [List.length_append, List.length_cons, List.length_nil] at *; omega)) (by simp) ?_
              simp [hw]
              refine ⟨j + 1, by omega, by omega, ?_, by omega⟩; rw [hfs, hsj]; simp [one, q1, q2, q3]
            · simp [q3, hw]
              refine ⟨j + 1, by omega, by omega, ?_, by omega⟩; rw [hfs, hsj]; simp [one, q1, q2, q3]
        · simp [q1]
          refine callW_of (by simpa [nodC] using k3') (.inl rfl) ?_
          simp
          refine brB_of (fun q2 => ?_) (fun q2 => ?_)
          · simp [q2]
            refine lndW_of (k4 _ 3 _ (by simp only [List.length_append, List.length_cons, List.length_nil] at *; omega)) (by simp) ?_
            simp
            simp [rowW_some hme, hw, h]
            refine brB_of (fun q3 => ?_) (fun q3 => ?_)
            · simp [q3]
              refine lndW_of (k4 _ 8 _ (by simp only [List.length_append, List.length_cons, List.length_nil] at *; omega)) (by simp) ?_
              simp [hw]
              refine ⟨j + 1, by omega, by omega, ?_, by omega⟩; rw [hfs, hsj]; simp [one, q1, q2, q3]
            · simp [q3, hw]
              refine ⟨j + 1, by omega, by omega, ?_, by omega⟩; rw [hfs, hsj]; simp [one, q1, q2, q3]
          · simp [q2]
            simp [rowW_some hme, hw, h]
            refine brB_of (fun q3 => ?_) (fun q3 => ?_)
            · simp [q3]
              refine lndW_of (k4 _ 8 _ (by simp only [List.length_append, List.length_cons, List.length_nil] at *; omega)) (by simp) ?_
              simp [hw]
              refine ⟨j + 1, by omega, by omega, ?_, by omega⟩; rw [hfs, hsj]; simp [one, q1, q2, q3]
            · simp [q3, hw]
              refine ⟨j + 1, by omega, by omega, ?_, by omega⟩; rw [hfs, hsj]; simp [one, q1, q2, q3]
      · have ej : j = ns.length := by omega
        subst ej
        simp [h]
        have hbt : ∀ i, (L ++ W ++ flatF (bkF ls) i).length ≤ 2 ^ 31 + i := fun i => by
          have := flatF_len (bkF_len ls) i
          simp only [List.length_append] at *; omega
        refine loop_of Nat (fun j => [(0, .adr (.r 10015) 0 0), (10015, .blk 1 [[.own 2 (fndR (L ++ W ++ flatF (bkF ls) j))]]), (72, slx b2 (ls.map lnkC)), (73, .int .i64 ls.length), (74, .int .i64 j)]) (fun j => j ≤ ls.length) (fun j => ls.length - j) 0 (by simp) (by simp [flatF_zero]) ?_
        intro j hj
        simp
        have hl0 := hbt j
        have hfs := flatF_succ (bkF ls) j
        generalize hW2 : flatF (bkF ls) j = W2 at *
        refine brB_of (fun h => ?_) (fun h => ?_) <;> simp at h
        · have hw : IntKind.wrap .i64 ((j : Int) + 1) = ((j + 1 : Nat) : Int) := wrap_i64 (by omega) (by omega)
          have hsj : bkF ls j = one (backB ls[j]) (2, ls[j].name) := by unfold bkF; rw [lnkNm_get h]; simp [h]
          simp [h, lnkC]
          refine callW_of (by simpa [lnkC] using k5 ls[j]) (.inr rfl) ?_
          simp
          refine brB_of (fun q1 => ?_) (fun q1 => ?_)
          · simp [q1]
            refine lndW_of (k4 _ 2 _ (by simp only [List.length_append] at *; omega)) (by simp) ?_
            simp [hw]
            refine ⟨j + 1, by omega, by omega, ?_, by omega⟩
            rw [hfs, hsj]; simp [one, q1]
          · simp [q1, hw]
            refine ⟨j + 1, by omega, by omega, ?_, by omega⟩
            rw [hfs, hsj]; simp [one, q1]
        · have ej : j = ls.length := by omega
          subst ej
          simp [h, hW, hW2]
end Go.Gv

set_option linter.unusedSimpArgs false
set_option maxRecDepth 4000
namespace Go.Gv
def edG (es : List Edg) (i : Nat) : Edg := es[i]?.getD (0, 0)
def lnG (ls : List Lnk) (i : Nat) : Lnk := ls[i]?.getD ⟨[], [], [], 0, 0, 0, 0, [], 0, 0, true, []⟩
def nodG (ns : List Nod) (i : Nat) : Nod := ns[i]?.getD ⟨[], 0, 0, 0, 0, 0, true, [], false, 0⟩
theorem edG_get {es : List Edg} {i : Nat} (h : i < es.length) : edG es i = es[i] := by simp [edG, h]
theorem lnG_get {ls : List Lnk} {i : Nat} (h : i < ls.length) : lnG ls i = ls[i] := by simp [lnG, h]
theorem nodG_get {ns : List Nod} {i : Nat} (h : i < ns.length) : nodG ns i = ns[i] := by simp [nodG, h]
def lvLo (k : Lnk) (a b : Nod) : Bool := if k.kind = 4 then decide (k.down < a.invert) else decide (k.up < a.invert) || (decide (k.kind = 1) && decide (k.down < b.invert))
def lvHi (k : Lnk) (a b : Nod) (h : Int) (known : Bool) : Bool :=
  if k.kind = 1 then known && (decide (a.ground < IntKind.wrap .i64 (k.up + h)) || decide (b.ground < IntKind.wrap .i64 (k.down + h)))
  else if k.kind = 3 then decide (a.ground < IntKind.wrap .i64 (k.up + k.height)) else decide (a.ground < k.up)
def narF (es : List Edg) (l : List Sec) (ls : List Lnk) (i j : Nat) : List Fnd := one (decide ((edG es j).2 = (edG es i).1) && decide (hgF l (lnG ls i) < hgF l (lnG ls j))) (7, lnkNm ls i)
def levF (ns : List Nod) (es : List Edg) (l : List Sec) (ls : List Lnk) (i : Nat) : List Fnd :=
  one (lvLo (lnG ls i) (nodG ns (edG es i).1) (nodG ns (edG es i).2)) (4, lnkNm ls i) ++ one (lvHi (lnG ls i) (nodG ns (edG es i).1) (nodG ns (edG es i).2) (hgF l (lnG ls i)) (decide (0 ≤ hgF l (lnG ls i)))) (5, lnkNm ls i) ++
  one (decide ((lnG ls i).kind = 1) && decide (hgF l (lnG ls i) < 0)) (6, lnkNm ls i) ++ (if hgF l (lnG ls i) < 0 then [] else flatF (narF es l ls i) ls.length)
theorem narF_len (es : List Edg) (l : List Sec) (ls : List Lnk) (i j : Nat) : (narF es l ls i j).length ≤ 1 := one_len _ _
theorem levF_len (ns : List Nod) (es : List Edg) (l : List Sec) (ls : List Lnk) (i : Nat) : (levF ns es l ls i).length ≤ 3 + ls.length := by
  unfold levF
  have := one_len (lvLo (lnG ls i) (nodG ns (edG es i).1) (nodG ns (edG es i).2)) ((4, lnkNm ls i) : Fnd)
  have := one_len (lvHi (lnG ls i) (nodG ns (edG es i).1) (nodG ns (edG es i).2) (hgF l (lnG ls i)) (decide (0 ≤ hgF l (lnG ls i)))) ((5, lnkNm ls i) : Fnd)
  have := one_len (decide ((lnG ls i).kind = 1) && decide (hgF l (lnG ls i) < 0)) ((6, lnkNm ls i) : Fnd)
  have h4 : (if hgF l (lnG ls i) < 0 then [] else flatF (narF es l ls i) ls.length).length ≤ ls.length := by
    split
    · simp
    · have := flatF_len (narF_len es l ls i) ls.length; omega
  simp only [List.length_append]; omega
noncomputable def lvlF (ns : List Nod) (ls : List Lnk) (l : List Sec) : List Fnd := flatF (levF ns (edgN ns ls) l ls) ls.length
/-- What stands behind the switch. -/
def lvTail : NCode := match N589_checker_notes_levels.body with
  | .seq _ (.seq _ (.seq _ (.seq _ (.block _ (.loop (.seq _ (.seq _ (.seq (.block _ (.seq _ (.seq _ (.seq _ (.seq _ t))))) _)))))))) => t
  | _ => .skip
/-- What stands behind the findings 4, 5, 6. -/
def lvTail7 : NCode := match lvTail with
  | .seq _ (.seq _ (.seq _ (.seq _ t))) => t
  | _ => .skip
variable {C : CC} (hC : Closed prog C)
include hC
set_option maxHeartbeats 4000000 in
theorem levels_c (b1 b2 b3 : Bool) (ns : List Nod) (ls : List Lnk) (l : List Sec) (hv : netOk ns ls = true) (hcv : ∀ l ∈ ls, l.curve.length < 2 ^ 62) (hll : l.length ≤ 40) (L : List Fnd) (hL : L.length < 2 ^ 30) : C 589 [.blk 1 [[.own 2 (fndR L)]], .agg [slx b1 (ns.map nodC), slx b2 (ls.map lnkC)], slx b3 (l.map secC)] (.tup []) [.blk 1 [[.own 2 (fndR (L ++ lvlF ns ls l))]]] := by
  have hn := (netOk_len hv).1
  have hl := (netOk_len hv).2
  have hg := edgN_in hv
  have hel := edgN_len ns ls
  have k1 := heights_c hC b1 b2 b3 ns ls l hl hll
  have k2 := ends_c hC b1 b2 ns ls hv hcv
  have k4 := add_c hC
  have hknd : ∀ (i : Nat) (h : i < ls.length), ls[i].kind = 1 ∨ ls[i].kind = 2 ∨ ls[i].kind = 3 ∨ ls[i].kind = 4 := fun i h => by
    have h0 := (netOk_lnk hv h).1
    simp only [linkOk, Bool.and_eq_true] at h0
    have h1 := h0.2
    unfold kindOk at h1
    by_cases e1 : ls[i].kind = 1
    · exact .inl e1
    by_cases e2 : ls[i].kind = 2
    · exact .inr (.inl e2)
    by_cases e3 : ls[i].kind = 3
    · exact .inr (.inr (.inl e3))
    by_cases e4 : ls[i].kind = 4
    · exact .inr (.inr (.inr e4))
    simp [e1, e2, e3, e4] at h1
  unfold lvlF
  generalize edgN ns ls = es at *
  obtain ⟨T, hT⟩ : ∃ T, T = lvTail := ⟨_, rfl⟩
  obtain ⟨T7, hT7⟩ : ∃ T, T = lvTail7 := ⟨_, rfl⟩
  simp [lvTail7, lvTail, N589_checker_notes_levels] at hT7
  simp [lvTail, N589_checker_notes_levels] at hT
  have tail7 : ∀ (j : Nat) (h : j < ls.length) (Q : NExit → Env → Prop) (kd : Int) (M1 M' : List Fnd), M1.length ≤ 2 ^ 31 + 2 →
      M' = M1 ++ flatF (narF es l ls j) ls.length →
      (endW Q ⟨⟩ .nrm [(0, .adr (.r 10015) 0 0), (4, .ptr [slx b1 (ns.map nodC), slx b2 (ls.map lnkC)]), (6, .sl (hgA l ls)), (7, .sl (es.map edK)), (8, .int .i64 j), (9, .adr (.r 10144) 0 0), (21, slx b2 (ls.map lnkC)), (22, .int .i64 ls.length), (23, .int .i64 j), (161, .int .i64 ls.length), (162, .int .i64 ls.length), (163, .bool false), (10015, .blk 1 [[.own 2 (fndR M')]]), (10144, .blk 11 [[.str ls[j].name, .str ls[j].src, .str ls[j].dst, .int .i64 kd, .int .i64 ls[j].len, .int .i64 ls[j].up, .int .i64 ls[j].down, .str ls[j].sect, .int .i64 ls[j].width, .int .i64 ls[j].height, slx ls[j].curveN (ls[j].curve.map knD)]])]) →
      wN C T7 Q ⟨⟩ [(0, .adr (.r 10015) 0 0), (4, .ptr [slx b1 (ns.map nodC), slx b2 (ls.map lnkC)]), (6, .sl (hgA l ls)), (7, .sl (es.map edK)), (8, .int .i64 j), (9, .adr (.r 10144) 0 0), (21, slx b2 (ls.map lnkC)), (22, .int .i64 ls.length), (23, .int .i64 j), (158, .bool false), (10015, .blk 1 [[.own 2 (fndR M1)]]), (10144, .blk 11 [[.str ls[j].name, .str ls[j].src, .str ls[j].dst, .int .i64 kd, .int .i64 ls[j].len, .int .i64 ls[j].up, .int .i64 ls[j].down, .str ls[j].sect, .int .i64 ls[j].width, .int .i64 ls[j].height, slx ls[j].curveN (ls[j].curve.map knD)]])] := by
    intro j h Q kd M1 M' hM1l hM' hQ
    have hgj := hgA_get l h
    have hje : j < es.length := by omega
    rw [hT7]
    simp
    refine loop_of Nat (fun k => [(0, .adr (.r 10015) 0 0), (4, .ptr [slx b1 (ns.map nodC), slx b2 (ls.map lnkC)]), (6, .sl (hgA l ls)), (7, .sl (es.map edK)), (8, .int .i64 j), (9, .adr (.r 10144) 0 0), (21, slx b2 (ls.map lnkC)), (22, .int .i64 ls.length), (23, .int .i64 j), (161, .int .i64 ls.length), (162, .int .i64 k), (10015, .blk 1 [[.own 2 (fndR (M1 ++ flatF (narF es l ls j) k))]]), (10144, .blk 11 [[.str ls[j].name, .str ls[j].src, .str ls[j].dst, .int .i64 kd, .int .i64 ls[j].len, .int .i64 ls[j].up, .int .i64 ls[j].down, .str ls[j].sect, .int .i64 ls[j].width, .int .i64 ls[j].height, slx ls[j].curveN (ls[j].curve.map knD)]])]) (fun k => k ≤ ls.length) (fun k => ls.length - k) 0 (by simp) (by simp [flatF_zero]) ?_
    intro k hk
    simp
    refine brB_of (fun h8 => ?_) (fun h8 => ?_) <;> simp at h8
    · have hke : k < es.length := by omega
      have hw8 : IntKind.wrap .i64 ((k : Int) + 1) = ((k + 1 : Nat) : Int) := wrap_i64 (by omega) (by omega)
      have hfk := flatF_succ (narF es l ls j) k
      have hsk : narF es l ls j k = one (decide (es[k].2 = es[j].1) && decide (hgF l ls[j] < hgF l ls[k])) (7, ls[j].name) := by unfold narF; rw [lnkNm_get h, edG_get hje, edG_get hke, lnG_get h, lnG_get h8]
      have hlk := flatF_len (narF_len es l ls j) k
      rw [hsk] at hfk
      have hgk := hgA_get l h8
      simp [h8, hke, hje, edK, knD, hgA_len, h]
      by_cases c1 : es[k].2 = es[j].1
      · simp [c1, h8, h, hke, hje, edK, knD, hgA_len, idxW_some hgj, idxW_some hgk]
        refine ⟨indW_of (by decide +kernel), ?_⟩
        refine brB_of (fun c2 => ?_) (fun c2 => ?_)
        · rw [c2]
          simp at c2
          simp [c2]
          refine lndW_of (k4 _ 7 _ (by (try simp only [List.length_append, List.length_cons, List.length_nil]); omega)) (by simp) ?_
          simp [hw8]
          exact ⟨k + 1, by omega, by omega, by omega, by rw [hfk]; simp [one, c1, c2]⟩
        · rw [c2]
          simp at c2
          simp [c2, hw8]
          exact ⟨k + 1, by omega, by omega, by omega, by rw [hfk]; simp [one, c1, Int.not_lt.2 c2]⟩
      · have c1' : ¬ (es[k].2 : Int) = es[j].1 := by omega
        simp [c1, c1', hw8]
        exact ⟨indW_of (by decide +kernel), k + 1, by omega, by omega, by omega, by rw [hfk]; simp [one, c1]⟩
    · have ek : k = ls.length := by omega
      subst ek
      simp [h8]
      subst hM'
      simpa using hQ
  have tail : ∀ (lo hi : Bool) (j : Nat) (h : j < ls.length) (Q : NExit → Env → Prop) (kd : Int) (M M' : List Fnd), M.length ≤ 2 ^ 31 →
      M' = M ++ one lo (4, ls[j].name) ++ one hi (5, ls[j].name) ++ one (decide (kd = 1) && decide (hgF l ls[j] < 0)) (6, ls[j].name) ++ (if hgF l ls[j] < 0 then [] else flatF (narF es l ls j) ls.length) →
      (endW Q ⟨⟩ .nrm [(0, .adr (.r 10015) 0 0), (4, .ptr [slx b1 (ns.map nodC), slx b2 (ls.map lnkC)]), (6, .sl (hgA l ls)), (7, .sl (es.map edK)), (8, .int .i64 j), (9, .adr (.r 10144) 0 0), (21, slx b2 (ls.map lnkC)), (22, .int .i64 ls.length), (23, .int .i64 j), (161, .int .i64 ls.length), (162, .int .i64 ls.length), (163, .bool false), (10015, .blk 1 [[.own 2 (fndR M')]]), (10144, .blk 11 [[.str ls[j].name, .str ls[j].src, .str ls[j].dst, .int .i64 kd, .int .i64 ls[j].len, .int .i64 ls[j].up, .int .i64 ls[j].down, .str ls[j].sect, .int .i64 ls[j].width, .int .i64 ls[j].height, slx ls[j].curveN (ls[j].curve.map knD)]])]) →
      (endW Q ⟨⟩ (.ext 1) [(0, .adr (.r 10015) 0 0), (4, .ptr [slx b1 (ns.map nodC), slx b2 (ls.map lnkC)]), (6, .sl (hgA l ls)), (7, .sl (es.map edK)), (8, .int .i64 j), (9, .adr (.r 10144) 0 0), (21, slx b2 (ls.map lnkC)), (22, .int .i64 ls.length), (23, .int .i64 j), (158, .bool true), (10015, .blk 1 [[.own 2 (fndR M')]]), (10144, .blk 11 [[.str ls[j].name, .str ls[j].src, .str ls[j].dst, .int .i64 kd, .int .i64 ls[j].len, .int .i64 ls[j].up, .int .i64 ls[j].down, .str ls[j].sect, .int .i64 ls[j].width, .int .i64 ls[j].height, slx ls[j].curveN (ls[j].curve.map knD)]])]) →
      wN C T Q ⟨⟩ [(0, .adr (.r 10015) 0 0), (4, .ptr [slx b1 (ns.map nodC), slx b2 (ls.map lnkC)]), (6, .sl (hgA l ls)), (7, .sl (es.map edK)), (8, .int .i64 j), (9, .adr (.r 10144) 0 0), (12, .bool lo), (13, .bool hi), (21, slx b2 (ls.map lnkC)), (22, .int .i64 ls.length), (23, .int .i64 j), (10015, .blk 1 [[.own 2 (fndR M)]]), (10144, .blk 11 [[.str ls[j].name, .str ls[j].src, .str ls[j].dst, .int .i64 kd, .int .i64 ls[j].len, .int .i64 ls[j].up, .int .i64 ls[j].down, .str ls[j].sect, .int .i64 ls[j].width, .int .i64 ls[j].height, slx ls[j].curveN (ls[j].curve.map knD)]])] := by
    intro lo hi j h Q kd M M' hM hM' hQ hX
    have hgj := hgA_get l h
    have hje : j < es.length := by omega
    obtain ⟨M1, hM1⟩ : ∃ M1, M1 = M ++ one lo (4, ls[j].name) ++ one hi (5, ls[j].name) := ⟨_, rfl⟩
    have hM1l : M1.length ≤ 2 ^ 31 + 2 := by
      rw [hM1]
      have := one_len lo ((4, ls[j].name) : Fnd)
      have := one_len hi ((5, ls[j].name) : Fnd)
      simp only [List.length_append]; omega
    rw [hT, ← hT7]
    simp
    refine brB_of (fun q1 => ?_) (fun q1 => ?_)
    · simp [q1]
      refine lndW_of (k4 _ 4 _ (by (try simp only [List.length_append, List.length_cons, List.length_nil]); omega)) (by simp) ?_
      simp
      refine brB_of (fun q2 => ?_) (fun q2 => ?_)
      · simp [q2]
        refine lndW_of (k4 _ 5 _ (by (try simp only [List.length_append, List.length_cons, List.length_nil]); omega)) (by simp) ?_
        simp
        by_cases q3 : kd = 1
        · simp [q3, h, hgA_len, idxW_some hgj]
          by_cases q4 : hgF l ls[j] < 0
          · simp [q4]
            refine lndW_of (k4 _ 6 _ (by (try simp only [List.length_append, List.length_cons, List.length_nil]); omega)) (by simp) ?_
            simp [h, hgA_len, idxW_some hgj, q4]
            subst hM'
            simpa [one, q3, q4, q1, q2] using hX
          · simp [q4, h, hgA_len, idxW_some hgj]
            refine tail7 j h _ kd M1 M' hM1l (by rw [hM', hM1]; simp [one, q3, q4]) (by simpa [q3] using hQ) |> fun x => ?_
            simpa [hM1, one, q1, q2, q3, q4] using x
        · simp [q3, h, hgA_len, idxW_some hgj]
          by_cases q4 : hgF l ls[j] < 0
          · simp [q4]; subst hM'; simpa [one, q3, q4, q1, q2] using hX
          · simp [q4]
            refine tail7 j h _ kd M1 M' hM1l (by rw [hM', hM1]; simp [one, q3, q4]) (by simpa [q3] using hQ) |> fun x => ?_
            simpa [hM1, one, q1, q2, q3, q4] using x
      · simp [q2]
        by_cases q3 : kd = 1
        · simp [q3, h, hgA_len, idxW_some hgj]
          by_cases q4 : hgF l ls[j] < 0
          · simp [q4]
            refine lndW_of (k4 _ 6 _ (by (try simp only [List.length_append, List.length_cons, List.length_nil]); omega)) (by simp) ?_
            simp [h, hgA_len, idxW_some hgj, q4]
            subst hM'
            simpa [one, q3, q4, q1, q2] using hX
          · simp [q4, h, hgA_len, idxW_some hgj]
            refine tail7 j h _ kd M1 M' hM1l (by rw [hM', hM1]; simp [one, q3, q4]) (by simpa [q3] using hQ) |> fun x => ?_
            simpa [hM1, one, q1, q2, q3, q4] using x
        · simp [q3, h, hgA_len, idxW_some hgj]
          by_cases q4 : hgF l ls[j] < 0
          · simp [q4]; subst hM'; simpa [one, q3, q4, q1, q2] using hX
          · simp [q4]
            refine tail7 j h _ kd M1 M' hM1l (by rw [hM', hM1]; simp [one, q3, q4]) (by simpa [q3] using hQ) |> fun x => ?_
            simpa [hM1, one, q1, q2, q3, q4] using x
    · simp [q1]
      refine brB_of (fun q2 => ?_) (fun q2 => ?_)
      · simp [q2]
        refine lndW_of (k4 _ 5 _ (by (try simp only [List.length_append, List.length_cons, List.length_nil]); omega)) (by simp) ?_
        simp
        by_cases q3 : kd = 1
        · simp [q3, h, hgA_len, idxW_some hgj]
          by_cases q4 : hgF l ls[j] < 0
          · simp [q4]
            refine lndW_of (k4 _ 6 _ (by (try simp only [List.length_append, List.length_cons, List.length_nil]); omega)) (by simp) ?_
            simp [h, hgA_len, idxW_some hgj, q4]
            subst hM'
            simpa [one, q3, q4, q1, q2] using hX
          · simp [q4, h, hgA_len, idxW_some hgj]
            refine tail7 j h _ kd M1 M' hM1l (by rw [hM', hM1]; simp [one, q3, q4]) (by simpa [q3] using hQ) |> fun x => ?_
            simpa [hM1, one, q1, q2, q3, q4] using x
        · simp [q3, h, hgA_len, idxW_some hgj]
          by_cases q4 : hgF l ls[j] < 0
          · simp [q4]; subst hM'; simpa [one, q3, q4, q1, q2] using hX
          · simp [q4]
            refine tail7 j h _ kd M1 M' hM1l (by rw [hM', hM1]; simp [one, q3, q4]) (by simpa [q3] using hQ) |> fun x => ?_
            simpa [hM1, one, q1, q2, q3, q4] using x
      · simp [q2]
        by_cases q3 : kd = 1
        · simp [q3, h, hgA_len, idxW_some hgj]
          by_cases q4 : hgF l ls[j] < 0
          · simp [q4]
            refine lndW_of (k4 _ 6 _ (by (try simp only [List.length_append, List.length_cons, List.length_nil]); omega)) (by simp) ?_
            simp [h, hgA_len, idxW_some hgj, q4]
            subst hM'
            simpa [one, q3, q4, q1, q2] using hX
          · simp [q4, h, hgA_len, idxW_some hgj]
            refine tail7 j h _ kd M1 M' hM1l (by rw [hM', hM1]; simp [one, q3, q4]) (by simpa [q3] using hQ) |> fun x => ?_
            simpa [hM1, one, q1, q2, q3, q4] using x
        · simp [q3, h, hgA_len, idxW_some hgj]
          by_cases q4 : hgF l ls[j] < 0
          · simp [q4]; subst hM'; simpa [one, q3, q4, q1, q2] using hX
          · simp [q4]
            refine tail7 j h _ kd M1 M' hM1l (by rw [hM', hM1]; simp [one, q3, q4]) (by simpa [q3] using hQ) |> fun x => ?_
            simpa [hM1, one, q1, q2, q3, q4] using x
  refine startL hC (nf := N589_checker_notes_levels) rfl rfl ?_
  simp [N589_checker_notes_levels]
  refine callW_of k1 (.inr rfl) ?_
  simp
  refine callW_of k2 (.inr rfl) ?_
  simp
  refine loop_of Nat (fun j => [(0, .adr (.r 10015) 0 0), (10015, .blk 1 [[.own 2 (fndR (L ++ flatF (levF ns es l ls) j))]]), (4, .ptr [slx b1 (ns.map nodC), slx b2 (ls.map lnkC)]), (6, .sl (hgA l ls)), (7, .sl (es.map edK)), (21, slx b2 (ls.map lnkC)), (22, .int .i64 ls.length), (23, .int .i64 j)]) (fun j => j ≤ ls.length) (fun j => ls.length - j) 0 (by simp) (by simp [flatF_zero]) ?_
  intro j hj
  simp
  refine brB_of (fun h => ?_) (fun h => ?_) <;> simp at h
  · have hje : j < es.length := by omega
    have hin := hg es[j] (List.getElem_mem _)
    obtain ⟨a, b, hab⟩ : ∃ a b, es[j] = (a, b) := ⟨_, _, rfl⟩
    rw [hab] at hin
    simp at hin
    simp [h, hje, lnkC, hab, edK, knD, hin.1, hin.2, nodC]
    refine ⟨indW_of (by decide +kernel), ?_⟩
    rw [← hT]
    have hw : IntKind.wrap .i64 ((j : Int) + 1) = ((j + 1 : Nat) : Int) := wrap_i64 (by omega) (by omega)
    have hgj := hgA_get l h
    have hfs := flatF_succ (levF ns es l ls) j
    have hfl := flatF_len (levF_len ns es l ls) j
    have hjm : (3 + ls.length) * j ≤ 403 * 400 := Nat.mul_le_mul (by omega) (by omega)
    have hlv : levF ns es l ls j = one (lvLo ls[j] ns[a] ns[b]) (4, ls[j].name) ++ one (lvHi ls[j] ns[a] ns[b] (hgF l ls[j]) (decide (0 ≤ hgF l ls[j]))) (5, ls[j].name) ++ one (decide (ls[j].kind = 1) && decide (hgF l ls[j] < 0)) (6, ls[j].name) ++ (if hgF l ls[j] < 0 then [] else flatF (narF es l ls j) ls.length) := by
      unfold levF
      rw [lnkNm_get h, edG_get hje, lnG_get h, hab]
      simp only
      rw [nodG_get hin.1, nodG_get hin.2]
    have hM0 : (L ++ flatF (levF ns es l ls) j).length ≤ 2 ^ 31 := by rw [List.length_append]; omega
    have hk4 := hknd j h
    refine brB_of (fun c1 => ?_) (fun c1 => ?_) <;> simp at c1
    · simp [c1]
      by_cases p1 : ls[j].up < ns[a].invert
      · simp [p1, c1, h, hgA_len, idxW_some hgj]
        by_cases p2 : 0 ≤ hgF l ls[j]
        · simp [p2, h, hgA_len, idxW_some hgj]
          by_cases p3 : ns[a].ground < IntKind.wrap .i64 (ls[j].up + hgF l ls[j])
          · simp [p3, p2, h, hgA_len, idxW_some hgj]
            refine ⟨indW_of (by decide +kernel), ?_⟩
            refine tail _ _ j h _ 1 _ (L ++ flatF (levF ns es l ls) (j + 1)) hM0 (by rw [hfs, hlv]; simp [lvLo, lvHi, *]) ?_ ?_ <;> (simp [hw]; exact ⟨j + 1, by omega, by omega, rfl, by omega⟩)
          · simp [p3, p2, h, hgA_len, idxW_some hgj]
            refine ⟨indW_of (by decide +kernel), ?_⟩
            refine tail _ _ j h _ 1 _ (L ++ flatF (levF ns es l ls) (j + 1)) hM0 (by rw [hfs, hlv]; simp [lvLo, lvHi, *]) ?_ ?_ <;> (simp [hw]; exact ⟨j + 1, by omega, by omega, rfl, by omega⟩)
        · simp [p2]
          refine ⟨indW_of (by decide +kernel), ?_⟩
          refine tail _ _ j h _ 1 _ (L ++ flatF (levF ns es l ls) (j + 1)) hM0 (by rw [hfs, hlv]; simp [lvLo, lvHi, *]) ?_ ?_ <;> (simp [hw]; exact ⟨j + 1, by omega, by omega, rfl, by omega⟩)
      · simp [p1, c1, h, hgA_len, idxW_some hgj]
        by_cases p2 : 0 ≤ hgF l ls[j]
        · simp [p2, h, hgA_len, idxW_some hgj]
          by_cases p3 : ns[a].ground < IntKind.wrap .i64 (ls[j].up + hgF l ls[j])
          · simp [p3, p2, h, hgA_len, idxW_some hgj]
            refine ⟨indW_of (by decide +kernel), ?_⟩
            refine tail _ _ j h _ 1 _ (L ++ flatF (levF ns es l ls) (j + 1)) hM0 (by rw [hfs, hlv]; simp [lvLo, lvHi, *]) ?_ ?_ <;> (simp [hw]; exact ⟨j + 1, by omega, by omega, rfl, by omega⟩)
          · simp [p3, p2, h, hgA_len, idxW_some hgj]
            refine ⟨indW_of (by decide +kernel), ?_⟩
            refine tail _ _ j h _ 1 _ (L ++ flatF (levF ns es l ls) (j + 1)) hM0 (by rw [hfs, hlv]; simp [lvLo, lvHi, *]) ?_ ?_ <;> (simp [hw]; exact ⟨j + 1, by omega, by omega, rfl, by omega⟩)
        · simp [p2]
          refine ⟨indW_of (by decide +kernel), ?_⟩
          refine tail _ _ j h _ 1 _ (L ++ flatF (levF ns es l ls) (j + 1)) hM0 (by rw [hfs, hlv]; simp [lvLo, lvHi, *]) ?_ ?_ <;> (simp [hw]; exact ⟨j + 1, by omega, by omega, rfl, by omega⟩)
    · simp [c1]
      refine brB_of (fun c2 => ?_) (fun c2 => ?_) <;> simp at c2
      · simp [c1, c2]
        refine ⟨indW_of (by decide +kernel), ?_⟩
        refine tail _ _ j h _ 2 _ (L ++ flatF (levF ns es l ls) (j + 1)) hM0 (by rw [hfs, hlv]; simp [lvLo, lvHi, *]) ?_ ?_ <;> (simp [hw]; exact ⟨j + 1, by omega, by omega, rfl, by omega⟩)
      · simp [c2]
        refine brB_of (fun c3 => ?_) (fun c3 => ?_) <;> simp at c3
        · simp [c1, c2, c3]
          refine ⟨indW_of (by decide +kernel), ?_⟩
          refine tail _ _ j h _ 3 _ (L ++ flatF (levF ns es l ls) (j + 1)) hM0 (by rw [hfs, hlv]; simp [lvLo, lvHi, *]) ?_ ?_ <;> (simp [hw]; exact ⟨j + 1, by omega, by omega, rfl, by omega⟩)
        · have c4 : ls[j].kind = 4 := by omega
          simp [c1, c2, c3, c4]
          refine ⟨indW_of (by decide +kernel), ?_⟩
          refine tail _ _ j h _ 4 _ (L ++ flatF (levF ns es l ls) (j + 1)) hM0 (by rw [hfs, hlv]; simp [lvLo, lvHi, *]) ?_ ?_ <;> (simp [hw]; exact ⟨j + 1, by omega, by omega, rfl, by omega⟩)
  · have ej : j = ls.length := by omega
    subst ej
    simp [h]
end Go.Gv

set_option linter.unusedSimpArgs false
namespace Go.Gv
open Go.Lib
theorem cB_cons (x : UInt8) (a b : List UInt8) : compareBytes (x :: a) (x :: b) = compareBytes a b := by
  simp only [compareBytes, u8_lt]
  rw [if_neg (Nat.lt_irrefl _), if_neg (Nat.lt_irrefl _)]
theorem cB_drop : ∀ (i : Nat) (a b : List UInt8), a.take i = b.take i → i ≤ a.length → i ≤ b.length → compareBytes a b = compareBytes (a.drop i) (b.drop i)
  | 0, a, b, _, _, _ => rfl
  | i + 1, [], b, _, h, _ => absurd h (by simp)
  | i + 1, x :: a, [], _, _, h => absurd h (by simp)
  | i + 1, x :: a, y :: b, h, h1, h2 => by
    simp only [List.take_succ_cons, List.cons.injEq] at h
    obtain ⟨rfl, h⟩ := h
    rw [cB_cons, cB_drop i a b h (by simpa using h1) (by simpa using h2)]
    rfl
theorem fcmp_neg (x y : Fnd) : fcmp x y < 0 ↔ x.1 < y.1 ∨ (x.1 = y.1 ∧ compareBytes x.2 y.2 < 0) := by
  unfold fcmp intC
  by_cases h1 : x.1 < y.1
  · rw [if_pos h1]; simp [h1]
  · rw [if_neg h1]
    by_cases h2 : y.1 < x.1
    · rw [if_pos h2]; simp; omega
    · rw [if_neg h2, if_pos rfl]
      have : x.1 = y.1 := by omega
      simp [this]
theorem canL_snoc {α : Type} [DecidableEq α] {c : α → α → Int} (h : TC c) (M : List α) (x : α) : putL c (canL c M) x = canL c (M ++ [x]) := (canL_eq h (putL_srt h (canL_srt h M) x) fun y => by rw [putL_mem h, canL_mem]; simp).symm
theorem canL_len {α : Type} [DecidableEq α] (c : α → α → Int) (M : List α) : (canL c M).length ≤ M.length := by
  unfold canL
  exact Nat.le_trans (ddL_len _) (by rw [srtL_len]; exact Nat.le_refl _)
theorem canL_congr {α : Type} [DecidableEq α] {c : α → α → Int} (h : TC c) {l l' : List α} (hm : ∀ x, x ∈ l ↔ x ∈ l') : canL c l = canL c l' := canL_eq h (canL_srt h l') fun x => by rw [canL_mem]; exact hm x
/-- One more, where it belongs. -/
theorem putL_at {W : List Fnd} (hs : SrtC fcmp W) (x : Fnd) {at' : Nat} (h1 : at' ≤ W.length) (h2 : ∀ (j : Nat) (h : j < W.length), at' ≤ j → fcmp x W[j] < 0) (h3 : ∀ (h : at' - 1 < W.length), 0 < at' → fcmp W[at' - 1] x < 0) : putL fcmp W x = W.take at' ++ x :: W.drop at' := by
  have hc := fcmp_tc
  have hpw := List.pairwise_iff_getElem.1 hs
  have hlt : ∀ y ∈ W.take at', fcmp y x < 0 := fun y hy => by
    obtain ⟨j, hj, rfl⟩ := List.mem_iff_getElem.1 hy
    have hj' : j < at' := by simp at hj; omega
    have hjw : j < W.length := by omega
    rw [List.getElem_take]
    have h4 := h3 (by omega) (by omega)
    by_cases e : j = at' - 1
    · subst e; exact h4
    · exact hc.trans _ _ _ (hpw j (at' - 1) hjw (by omega) (by omega)) h4
  have hgt : ∀ y ∈ W.drop at', fcmp x y < 0 := fun y hy => by
    obtain ⟨j, hj, rfl⟩ := List.mem_iff_getElem.1 hy
    rw [List.getElem_drop]
    exact h2 _ _ (by omega)
  refine (putL_srt hc hs x).unique hc (List.pairwise_append.2 ⟨hs.sublist (List.take_sublist _ _), List.pairwise_cons.2 ⟨hgt, hs.sublist (List.drop_sublist _ _)⟩, fun a ha b hb => ?_⟩) fun y => ?_
  · rcases List.mem_cons.1 hb with rfl | hb
    · exact hlt a ha
    · exact hc.trans _ _ _ (hlt a ha) (hgt b hb)
  · rw [putL_mem hc, List.mem_append, List.mem_cons]
    conv => lhs; rw [← List.take_append_drop at' W, List.mem_append]
    constructor
    · rintro ((h | h) | h)
      · exact .inl h
      · exact .inr (.inr h)
      · exact .inr (.inl h)
    · rintro (h | h | h)
      · exact .inl (.inl h)
      · exact .inr h
      · exact .inl (.inr h)
variable {C : CC} (hC : Closed prog C)
include hC
theorem before_c (a b : List UInt8) (ha : a.length < 2 ^ 62) : C 634 [.str a, .str b] (.bool (decide (compareBytes a b < 0))) [] := by
  refine start hC (nf := N634_ref27_before) rfl rfl ?_
  simp [N634_ref27_before]
  refine loop_of Nat (fun i => [(0, .str a), (1, .str b), (5, .int .i64 i)]) (fun i => i ≤ a.length ∧ i ≤ b.length ∧ a.take i = b.take i) (fun i => a.length - i) 0 (by simp) (by simp) ?_
  rintro i ⟨h1, h2, h3⟩
  simp
  have hd := cB_drop i a b h3 h1 h2
  have fin : ∀ (hn : i = a.length ∨ i = b.length), decide (a.length < b.length) = decide (compareBytes a b < 0) := fun hn => by
    rw [hd]
    rcases hn with e | e
    · rw [e, List.drop_length]
      cases hb : b.drop a.length with
      | nil =>
        have : b.length - a.length = 0 := by rw [← List.length_drop, hb]; rfl
        simp [compareBytes]; omega
      | cons y ys =>
        have : b.length - a.length ≠ 0 := by rw [← List.length_drop, hb]; simp
        simp [compareBytes]; omega
    · rw [e, List.drop_length]
      cases hb : a.drop b.length with
      | nil =>
        have : a.length - b.length = 0 := by rw [← List.length_drop, hb]; rfl
        simp [compareBytes]; omega
      | cons y ys =>
        have : a.length - b.length ≠ 0 := by rw [← List.length_drop, hb]; simp
        simp [compareBytes]; omega
  refine brB_of (fun h => ?_) (fun h => ?_) <;> simp at h
  · simp [h]
    refine brB_of (fun h4 => ?_) (fun h4 => ?_) <;> simp at h4
    · have hw : IntKind.wrap .i64 ((i : Int) + 1) = ((i + 1 : Nat) : Int) := wrap_i64 (by omega) (by omega)
      simp [h, h4]
      refine ⟨indW_of (by decide +kernel), ?_⟩
      have da : a.drop i = a[i] :: a.drop (i + 1) := List.drop_eq_getElem_cons h
      have db : b.drop i = b[i] :: b.drop (i + 1) := List.drop_eq_getElem_cons h4
      have hne : ∀ {x y : UInt8}, x ≠ y → ¬ x.toNat = y.toNat := fun h e => h (u8_eq e)
      by_cases e : a[i] = b[i]
      · simp [e, hw]
        exact ⟨i + 1, ⟨by omega, by omega, by rw [List.take_succ_eq_append_getElem h, List.take_succ_eq_append_getElem h4, h3, e]⟩, by omega, by omega⟩
      · have e' := hne e
        have e'' : ¬ (a[i].toNat : Int) = b[i].toNat := by omega
        simp [e, e', e'', h, h4]
        refine ⟨indW_of (by decide +kernel), ?_⟩
        rw [hd]
        by_cases c : a[i].toNat < b[i].toNat
        · have : compareBytes (a.drop i) (b.drop i) = -1 := by rw [da, db]; simp only [compareBytes, u8_lt]; rw [if_pos c]
          simp [this]; omega
        · have : compareBytes (a.drop i) (b.drop i) = 1 := by rw [da, db]; simp only [compareBytes, u8_lt]; rw [if_neg c, if_pos (by omega)]
          simp [this]; omega
    · simp [h4]
      have := fin (.inr (by omega))
      exact decide_eq_decide.1 this
  · simp [h]
    have := fin (.inl (by omega))
    exact decide_eq_decide.1 this
end Go.Gv

set_option linter.unusedSimpArgs false
set_option maxRecDepth 4000
namespace Go.Gv
open Go.Lib
theorem fndR_drop (L : List Fnd) (k : Nat) : (fndR L).drop k = fndR (L.drop k) := by simp [fndR]
theorem fndR_app (L M : List Fnd) : fndR L ++ fndR M = fndR (L ++ M) := by simp [fndR]
theorem fndR_V2 (L : List Fnd) : List.map (fun e => List.map cellV e) (fndR L) = fndR L := by
  unfold fndR
  rw [List.map_map]
  apply List.map_congr_left
  intro v _
  simp [fndC, cellV]
theorem put_rows {W : List Fnd} {i : Nat} (h1 : i ≤ W.length) (x : Fnd) : List.take (min i W.length + 1 + (W.length - i)) (List.take (min i W.length + 1) (List.take (min i W.length) (List.take i (List.map (fun e => List.map cellV e) (fndR W))) ++ [[D.int IntKind.i64 x.1, D.str x.2]]) ++ List.drop i (List.take W.length (List.map (fun e => List.map cellV e) (fndR W)))) = fndR (List.take i W ++ x :: List.drop i W) := by
  rw [fndR_V2, Nat.min_eq_left h1, List.take_take, Nat.min_self, List.take_of_length_le (l := fndR W) (i := W.length) (by rw [fndR_len]; exact Nat.le_refl _), fndR_take, fndR_drop]
  have e1 : List.take (i + 1) (fndR (W.take i) ++ [[D.int IntKind.i64 x.1, D.str x.2]]) = fndR (W.take i ++ [x]) := by
    rw [List.take_of_length_le (by simp [fndR_len]; omega)]
    simp [fndR, fndC]
  rw [e1, fndR_app, List.take_of_length_le (by simp [fndR_len]; omega)]
  simp
variable {C : CC} (hC : Closed prog C)
include hC
set_option maxHeartbeats 2000000 in
theorem rPut0_c (W : List Fnd) (k : Int) (nm : List UInt8) (hs : SrtC fcmp W) (hW : W.length < 2 ^ 40) (hn : nm.length < 2 ^ 62) : C 593 [slx true (fndR W), .int .i64 k, .str nm] (.sl (fndR (putL fcmp W (k, nm)))) [] := by
  have k1 := fun b => before_c hC nm b hn
  by_cases hE : W = []
  · subst hE
    have e0 : slx true (fndR []) = .nils := rfl
    have e1 : putL fcmp [] (k, nm) = [(k, nm)] := rfl
    rw [e0, e1]
    refine start hC (nf := N593_ref27_Put) rfl rfl ?_
    simp [N593_ref27_Put]
    refine loop_of Nat (fun i => [(0, .nils), (1, .int .i64 k), (2, .str nm), (7, .int .i64 0)]) (fun i => True) (fun i => 0) 0 trivial (by simp) ?_
    rintro i _
    simp
    simp [fndR, fndC]
  · have e0 : slx true (fndR W) = .sl (fndR W) := by
      unfold slx
      cases W with
      | nil => exact absurd rfl hE
      | cons x r => rfl
    rw [e0]
    have hWl : 0 < W.length := List.length_pos_iff.2 hE
    refine start hC (nf := N593_ref27_Put) rfl rfl ?_
    simp [N593_ref27_Put, fndR_len]
    refine loop_of Nat (fun i => [(0, .sl (fndR W)), (1, .int .i64 k), (2, .str nm), (7, .int .i64 i)]) (fun i => i ≤ W.length ∧ ∀ (j : Nat) (h : j < W.length), i ≤ j → fcmp (k, nm) W[j] < 0) (fun i => i) W.length ⟨by omega, fun j h h2 => by omega⟩ (by simp) ?_
    rintro i ⟨h1, h2⟩
    simp
    by_cases h3 : 0 < i
    · have hi1 : i - 1 < W.length := by omega
      have hw : IntKind.wrap .i64 ((i : Int) - 1) = ((i - 1 : Nat) : Int) := by
        rw [show (i : Int) - 1 = ((i - 1 : Nat) : Int) by omega]
        exact wrap_i64 (by omega) (by omega)
      have hg := fndR_get hi1
      have hfc := fcmp_neg (k, nm) W[i - 1]
      simp only at hfc
      simp [h3, hw, rowW_some hg, idxW_some hg, hi1, fndR_len]
      have hnext : fcmp (k, nm) W[i - 1] < 0 → ∀ (j : Nat) (h : j < W.length), i - 1 ≤ j → fcmp (k, nm) W[j] < 0 := fun hf j hj hij => by
        by_cases e : j = i - 1
        · subst e; exact hf
        · exact h2 j hj (by omega)
      have hput : ¬ fcmp (k, nm) W[i - 1] < 0 → ¬ (k = W[i - 1].1 ∧ nm = W[i - 1].2) → putL fcmp W (k, nm) = W.take i ++ (k, nm) :: W.drop i := fun hf hne => putL_at hs _ h1 h2 fun hh _ => by
        have ha := fcmp_tc.anti (k, nm) W[i - 1]
        have h0 : fcmp (k, nm) W[i - 1] ≠ 0 := fun e => hne (by have := fcmp_tc.eq0 _ _ e; rw [← this]; exact ⟨rfl, rfl⟩)
        omega
      by_cases p1 : k < W[i - 1].1
      · have hf := hfc.2 (.inl p1)
        simp [p1]
        exact ⟨i - 1, ⟨by omega, hnext hf⟩, by omega, by omega⟩
      · by_cases p2 : W[i - 1].1 = k
        · simp [p1, p2, hg, rowW_some hg, idxW_some hg, hi1, fndR_len, hw]
          refine callW_of (k1 _) (.inl rfl) ?_
          simp
          refine brB_of (fun p3 => ?_) (fun p3 => ?_) <;> simp at p3
          · have hf := hfc.2 (.inr ⟨p2.symm, p3⟩)
            simp [p3, hw]
            exact ⟨i - 1, ⟨by omega, hnext hf⟩, by omega, by omega⟩
          · have hf : ¬ fcmp (k, nm) W[i - 1] < 0 := fun e => by
              rcases hfc.1 e with e | e
              · exact p1 e
              · omega
            simp [h3, Int.not_lt.2 p3, p2, hw, hg, rowW_some hg, idxW_some hg, hi1, fndR_len]
            by_cases p4 : W[i - 1].2 = nm
            · have hx : (k, nm) ∈ W := by
                have : W[i - 1] = (k, nm) := Prod.ext p2 p4
                rw [← this]; exact List.getElem_mem _
              have hpe := putL_in fcmp_tc hs hx
              simp [p4, hpe]
            · have hpe := hput hf (fun e => p4 e.2.symm)
              simp [p4, fndR_len, hpe]
              exact ⟨fndC_len W, h1, fun e he => ⟨fndC_len W e (List.mem_of_mem_take he), fndC_isC W e (List.mem_of_mem_take he)⟩, by omega, by omega, fndC_len W, h1, fun e he => ⟨fndC_len W e (List.mem_of_mem_take (List.mem_of_mem_drop he)), fndC_isC W e (List.mem_of_mem_take (List.mem_of_mem_drop he))⟩, by omega, put_rows h1 (k, nm)⟩
        · have hf : ¬ fcmp (k, nm) W[i - 1] < 0 := fun e => by
            rcases hfc.1 e with e | e
            · exact p1 e
            · exact p2 e.1.symm
          have hpe := hput hf (fun e => p2 e.1.symm)
          simp [p1, p2, hg, rowW_some hg, idxW_some hg, hi1, fndR_len, hw, h3, hpe]
          exact ⟨fndC_len W, h1, fun e he => ⟨fndC_len W e (List.mem_of_mem_take he), fndC_isC W e (List.mem_of_mem_take he)⟩, by omega, by omega, fndC_len W, h1, fun e he => ⟨fndC_len W e (List.mem_of_mem_take (List.mem_of_mem_drop he)), fndC_isC W e (List.mem_of_mem_take (List.mem_of_mem_drop he))⟩, by omega, put_rows h1 (k, nm)⟩
    · have hi0 : i = 0 := by omega
      subst hi0
      have hpe := putL_at hs (k, nm) (Nat.zero_le _) h2 (fun _ h => absurd h (by omega))
      simp [fndR_len, hpe]
      have htk : List.take W.length (fndR W) = fndR W := List.take_of_length_le (by rw [fndR_len]; exact Nat.le_refl _)
      rw [fndR_V2, htk]
      exact ⟨fndC_len W, fun e he => ⟨fndC_len W e he, fndC_isC W e he⟩, by omega, by omega, by rw [List.take_of_length_le (by simp [fndR_len]; omega)]; simp [fndR, fndC]⟩
theorem rPut_c (M : List Fnd) (k : Int) (nm : List UInt8) (hM : M.length < 2 ^ 40) (hn : nm.length < 2 ^ 62) : C 593 [slx true (fndR (canL fcmp M)), .int .i64 k, .str nm] (.sl (fndR (canL fcmp (M ++ [(k, nm)])))) [] := by
  have h := rPut0_c hC (canL fcmp M) k nm (canL_srt fcmp_tc M) (by have := canL_len fcmp M; omega) hn
  rw [canL_snoc fcmp_tc] at h
  exact h
theorem rfind_c (b : Bool) (l : List Sec) (nm : List UInt8) (hl : l.length < 2 ^ 62) : C 591 [slx b (l.map secC), .str nm] (.int .i64 (idxD (secNm nm) l)) [] := by
  refine start hC (nf := N591_ref27_find) rfl rfl ?_
  simp [N591_ref27_find]
  refine loop_of Nat (fun i => [(0, slx b (l.map secC)), (1, .str nm), (5, .int .i64 i)]) (fun i => i ≤ l.length ∧ ∀ (j : Nat) (h : j < l.length), j < i → secNm nm l[j] = false) (fun i => l.length - i) 0 (by simp) (by simp) ?_
  rintro i ⟨hi, hj⟩
  simp
  refine brB_of (fun h => ?_) (fun h => ?_) <;> simp [h] <;> simp at h
  · have hw : IntKind.wrap .i64 ((i : Int) + 1) = ((i + 1 : Nat) : Int) := wrap_i64 (by omega) (by omega)
    simp [h, secC]
    refine brB_of (fun h1 => ?_) (fun h1 => ?_) <;> simp at h1 <;> simp [h1, hw]
    · rw [idxD_step hj h (by simpa [secNm] using h1)]
    · refine ⟨i + 1, ⟨by omega, fun j hl hjj => ?_⟩, by omega, rfl⟩
      rcases Nat.lt_succ_iff_lt_or_eq.1 hjj with h2 | rfl
      · exact hj j hl h2
      · simpa [secNm] using h1
  · rw [idxD_none (fun j hl => hj j hl (by omega))]
/-- The height of a section, and whether it is known. -/
def hgtF (l : List Sec) (nm : List UInt8) : Int × Bool := if 0 ≤ idxD (secNm nm) l then ((l[(idxD (secNm nm) l).toNat]?.map (·.height)).getD 0, true) else (0, false)
theorem rHeight_c (b : Bool) (k : Lnk) (l : List Sec) (hl : l.length < 2 ^ 62) : C 595 [.agg (lnkC k), slx b (l.map secC)] (.tup [.int .i64 (hgtF l k.sect).1, .bool (hgtF l k.sect).2]) [] := by
  have k1 := rfind_c hC b l k.sect hl
  refine start hC (nf := N595_ref27_Height) rfl rfl ?_
  simp [N595_ref27_Height, lnkC]
  refine callW_of k1 (.inl rfl) ?_
  unfold hgtF
  simp
  by_cases h : idxD (secNm k.sect) l < 0
  · simp [h, Int.not_le.2 h]
  · obtain ⟨h1, _⟩ := idxD_here (Int.not_lt.1 h)
    simp [h, Int.not_lt.1 h, h1, secC]
theorem rlow_c (k : Lnk) (a b : Nod) : C 596 [.agg (lnkC k), .agg (nodC a), .agg (nodC b)] (.bool (lvLo k a b)) [] := by
  refine start hC (nf := N596_ref27_low) rfl rfl ?_
  simp [N596_ref27_low, lnkC, nodC]
  unfold lvLo
  by_cases h : k.kind = 4
  · simp [h]
  · simp [h]
    by_cases h2 : k.up < a.invert
    · simp [h, h2]
    · by_cases h3 : k.kind = 1
      · simp [h2, h3]
      · simp [h, h2, h3]
theorem rhigh_c (k : Lnk) (a b : Nod) (h : Int) (kn : Bool) : C 597 [.agg (lnkC k), .agg (nodC a), .agg (nodC b), .int .i64 h, .bool kn] (.bool (lvHi k a b h kn)) [] := by
  refine start hC (nf := N597_ref27_high) rfl rfl ?_
  simp [N597_ref27_high, lnkC, nodC]
  unfold lvHi
  by_cases h1 : k.kind = 1
  · cases kn
    · simp [h1]
    · simp [h1]
      by_cases h2 : a.ground < IntKind.wrap .i64 (k.up + h)
      · simp [h1, h2]
      · simp [h1, h2]
  · by_cases h3 : k.kind = 3
    · simp [h1, h3]
    · simp [h1, h3]
theorem rAlone_c (b1 b2 : Bool) (ns : List Nod) (ls : List Lnk) (nm : List UInt8) (hl : ls.length < 2 ^ 62) : C 594 [.agg [slx b1 (ns.map nodC), slx b2 (ls.map lnkC)], .str nm] (.bool (!ls.any fun k => k.src == nm || k.dst == nm)) [] := by
  refine start hC (nf := N594_ref27_Alone) rfl rfl ?_
  simp [N594_ref27_Alone]
  refine loop_of Nat (fun i => [(1, .str nm), (2, .ptr [slx b1 (ns.map nodC), slx b2 (ls.map lnkC)]), (5, .int .i64 i)]) (fun i => i ≤ ls.length ∧ ∀ (j : Nat) (h : j < ls.length), j < i → ¬ ls[j].src = nm ∧ ¬ ls[j].dst = nm) (fun i => ls.length - i) 0 (by simp) (by simp) ?_
  rintro i ⟨hi, hj⟩
  simp
  refine brB_of (fun h => ?_) (fun h => ?_) <;> simp at h
  · have hw : IntKind.wrap .i64 ((i : Int) + 1) = ((i + 1 : Nat) : Int) := wrap_i64 (by omega) (by omega)
    simp [h, lnkC]
    by_cases h1 : ls[i].src = nm
    · have : (ls.any fun k => k.src == nm || k.dst == nm) = true := List.any_eq_true.2 ⟨ls[i], List.getElem_mem h, by simp [h1]⟩
      simp [h1, this]
    · simp [h1, h, lnkC]
      by_cases h2 : ls[i].dst = nm
      · have : (ls.any fun k => k.src == nm || k.dst == nm) = true := List.any_eq_true.2 ⟨ls[i], List.getElem_mem h, by simp [h2]⟩
        simp [h1, h2, this]
      · simp [h1, h2, hw]
        refine ⟨i + 1, ⟨by omega, fun j hl hjj => ?_⟩, by omega, by omega⟩
        rcases Nat.lt_succ_iff_lt_or_eq.1 hjj with h3 | rfl
        · exact hj j hl h3
        · exact ⟨h1, h2⟩
  · have : (ls.any fun k => k.src == nm || k.dst == nm) = false := by
      rw [List.any_eq_false]
      intro x hx
      obtain ⟨j, hjl, rfl⟩ := List.mem_iff_getElem.1 hx
      obtain ⟨a, b⟩ := hj j hjl (by omega)
      simp [a, b]
    simp [h, this]
end Go.Gv

set_option linter.unusedSimpArgs false
set_option maxRecDepth 4000
namespace Go.Gv
theorem fndR_V (L : List Fnd) : List.map (fun e => List.map cellV e) (fndR L) = fndR L := by
  unfold fndR
  rw [List.map_map]
  apply List.map_congr_left
  intro v _
  simp [fndC, cellV]
theorem strF_len (ns : List Nod) (ls : List Lnk) : (strF ns ls).length ≤ 3 * ns.length + ls.length := by
  unfold strF
  have := flatF_len (stF_len ns (edgN ns ls)) ns.length
  have := flatF_len (bkF_len ls) ls.length
  rw [List.length_append]; omega
theorem lvlF_len (ns : List Nod) (ls : List Lnk) (l : List Sec) : (lvlF ns ls l).length ≤ (3 + ls.length) * ls.length := flatF_len (levF_len ns (edgN ns ls) l ls) ls.length
noncomputable def chkL (ns : List Nod) (ls : List Lnk) (l : List Sec) : List Fnd := canL fcmp (strF ns ls ++ lvlF ns ls l)
noncomputable def lvlL (ns : List Nod) (ls : List Lnk) (l : List Sec) : List Fnd := canL fcmp (lvlF ns ls l)
variable {C : CC} (hC : Closed prog C)
include hC
set_option maxHeartbeats 2000000 in
theorem Check_c (hS : SlC C) (hK : ChkC C) (b1 b2 b3 : Bool) (ns : List Nod) (ls : List Lnk) (l : List Sec) (hcv : ∀ l ∈ ls, l.curve.length < 2 ^ 62) : C 543 [.agg [slx b1 (ns.map nodC), slx b2 (ls.map lnkC)], slx b3 (l.map secC)] (.tup (if netOk ns ls && useB l then [.sl (fndR (chkL ns ls l)), .int .i64 0] else [.nils, .int .i64 1])) [] := by
  have k0 := cvalid_c hC b1 b2 b3 ns ls l hcv
  refine start hC (nf := N543_checker_Check) rfl rfl ?_
  simp [N543_checker_Check]
  refine callW_of k0 (.inl rfl) ?_
  cases hv : (netOk ns ls && useB l)
  · simp
  obtain ⟨hv1, hv2⟩ := Bool.and_eq_true_iff.1 hv
  obtain ⟨l1, l2⟩ := netOk_len hv1
  have hll : l.length ≤ 40 := by
    simp only [useB, Bool.and_eq_true, decide_eq_true_eq] at hv2
    exact hv2.1.1
  have hsl := strF_len ns ls
  have hvl := lvlF_len ns ls l
  have hml : (3 + ls.length) * ls.length ≤ 403 * 400 := Nat.mul_le_mul (by omega) (by omega)
  have k1 := structure_c hC hS b1 b2 ns ls hv1 hcv [] (by simp)
  have k2 := levels_c hC b1 b2 b3 ns ls l hv1 hcv hll (strF ns ls) (by omega)
  have e0 : fndR [] = [] := rfl
  rw [e0, List.nil_append] at k1
  have k3 := sortF_c hC hK (strF ns ls ++ lvlF ns ls l) (by rw [List.length_append]; omega)
  unfold chkL
  generalize strF ns ls = A at *
  generalize lvlF ns ls l = B at *
  simp
  refine lndW_of k1 (by simp) ?_
  simp
  refine lndW_of k2 (by simp) ?_
  simp
  refine ⟨fndC_isF _, ?_⟩
  refine eatW_of k3 (fun e he => ⟨fndC_len _ e he, fndC_isF _ e he⟩) ?_
  simp [fndR_len, fndR_V]
  exact (List.take_of_length_le (by rw [fndR_len]; exact Nat.le_refl _)).symm
set_option maxHeartbeats 2000000 in
theorem Levels_c (hK : ChkC C) (b1 b2 b3 : Bool) (ns : List Nod) (ls : List Lnk) (l : List Sec) (hcv : ∀ l ∈ ls, l.curve.length < 2 ^ 62) : C 544 [.agg [slx b1 (ns.map nodC), slx b2 (ls.map lnkC)], slx b3 (l.map secC)] (.tup (if netOk ns ls && useB l then [.sl (fndR (lvlL ns ls l)), .int .i64 0] else [.nils, .int .i64 1])) [] := by
  have k0 := cvalid_c hC b1 b2 b3 ns ls l hcv
  refine start hC (nf := N544_checker_Levels) rfl rfl ?_
  simp [N544_checker_Levels]
  refine callW_of k0 (.inl rfl) ?_
  cases hv : (netOk ns ls && useB l)
  · simp
  obtain ⟨hv1, hv2⟩ := Bool.and_eq_true_iff.1 hv
  obtain ⟨l1, l2⟩ := netOk_len hv1
  have hll : l.length ≤ 40 := by
    simp only [useB, Bool.and_eq_true, decide_eq_true_eq] at hv2
    exact hv2.1.1
  have hvl := lvlF_len ns ls l
  have hml : (3 + ls.length) * ls.length ≤ 403 * 400 := Nat.mul_le_mul (by omega) (by omega)
  have k2 := levels_c hC b1 b2 b3 ns ls l hv1 hcv hll [] (by simp)
  have e0 : fndR [] = [] := rfl
  rw [e0, List.nil_append] at k2
  have k3 := sortF_c hC hK (lvlF ns ls l) (by omega)
  unfold lvlL
  generalize lvlF ns ls l = B at *
  simp
  refine lndW_of k2 (by simp) ?_
  simp
  refine ⟨fndC_isF _, ?_⟩
  refine eatW_of k3 (fun e he => ⟨fndC_len _ e he, fndC_isF _ e he⟩) ?_
  simp [fndR_len, fndR_V]
  exact (List.take_of_length_le (by rw [fndR_len]; exact Nat.le_refl _)).symm
theorem Accepted_c (hS : SlC C) (hK : ChkC C) (b1 b2 b3 : Bool) (ns : List Nod) (ls : List Lnk) (l : List Sec) (hcv : ∀ l ∈ ls, l.curve.length < 2 ^ 62) : C 545 [.agg [slx b1 (ns.map nodC), slx b2 (ls.map lnkC)], slx b3 (l.map secC)] (.bool ((netOk ns ls && useB l) && decide ((chkL ns ls l).length = 0))) [] := by
  have k0 := Check_c hC hS hK b1 b2 b3 ns ls l hcv
  refine start hC (nf := N545_checker_Accepted) rfl rfl ?_
  simp [N545_checker_Accepted]
  refine callW_of k0 (.inr rfl) ?_
  cases hv : (netOk ns ls && useB l)
  · simp
  · simp [fndR_len]
end Go.Gv

set_option linter.unusedSimpArgs false
set_option maxRecDepth 4000
namespace Go.Gv
theorem canR_nil : slx true (fndR (canL fcmp [])) = .nils := by
  have : canL fcmp ([] : List Fnd) = [] := by simp [canL, srtL, ddL]
  rw [this]; rfl
theorem canR_ne {M : List Fnd} (h : M ≠ []) : slx true (fndR (canL fcmp M)) = .sl (fndR (canL fcmp M)) := by
  have hne : canL fcmp M ≠ [] := fun e => by
    obtain ⟨x, hx⟩ := List.exists_mem_of_ne_nil M h
    have := (canL_mem (c := fcmp)).2 hx
    rw [e] at this; cases this
  unfold slx
  cases hc : canL fcmp M with
  | nil => exact absurd hc hne
  | cons x r => rfl
theorem hgt_known {l : List Sec} (hu : useB l = true) {k : Lnk} (hk : k.kind = 1) : (hgtF l k.sect).2 = decide (0 ≤ hgF l k) ∧ ((hgtF l k.sect).2 = true → (hgtF l k.sect).1 = hgF l k) := by
  unfold hgtF
  rw [hgF_idx l hk]
  by_cases h : 0 ≤ idxD (secNm k.sect) l
  · obtain ⟨h1, _⟩ := idxD_here h
    have hh : 1 ≤ l[(idxD (secNm k.sect) l).toNat].height := by
      simp only [useB, Bool.and_eq_true, List.all_eq_true] at hu
      have := hu.1.2 _ (List.getElem_mem h1)
      simp only [secUse, Bool.and_eq_true, decide_eq_true_eq] at this
      exact this.1.2
    rw [if_pos h, dif_pos h, List.getElem?_eq_getElem h1]
    simp; omega
  · rw [if_neg h, dif_neg h]; simp
theorem hgF_other {l : List Sec} {k : Lnk} (hk : ¬ k.kind = 1) : hgF l k = -1 := by unfold hgF; rw [if_neg hk]
theorem lvHi_known {l : List Sec} (hu : useB l = true) (k : Lnk) (a b : Nod) : lvHi k a b (hgtF l k.sect).1 (hgtF l k.sect).2 = lvHi k a b (hgF l k) (decide (0 ≤ hgF l k)) := by
  unfold lvHi
  by_cases hk : k.kind = 1
  · obtain ⟨e1, e2⟩ := hgt_known hu hk
    rw [if_pos hk, if_pos hk]
    by_cases h : 0 ≤ hgF l k
    · rw [e1, e2 (by rw [e1]; simpa using h)]
    · rw [e1]; simp [h]
  · rw [if_neg hk, if_neg hk]
theorem edgN_dst {ns : List Nod} {ls : List Lnk} (hv : netOk ns ls = true) {k : Nat} (hk : k < ls.length) : idxD (nodIs ls[k].dst) ns = (((edgN ns ls)[k]'(by rw [edgN_len]; exact hk)).2 : Nat) := by
  obtain ⟨_, _, g1, g2⟩ := netOk_lnk hv hk
  simp only [edgN, List.getElem_map]
  omega
theorem idxD_inj {ns : List Nod} {x y : List UInt8} (h : 0 ≤ idxD (nodIs x) ns) (e : idxD (nodIs x) ns = idxD (nodIs y) ns) : x = y := by
  obtain ⟨h1, h2⟩ := idxD_here h
  obtain ⟨h3, h4⟩ := idxD_here (e ▸ h)
  simp only [nodIs, beq_iff_eq] at h2 h4
  rw [← h2, ← h4]
  congr 2
  rw [e]
theorem edg_meet {ns : List Nod} {ls : List Lnk} (hv : netOk ns ls = true) {j k : Nat} (hj : j < ls.length) (hk : k < ls.length) : ls[k].dst = ls[j].src ↔ (edG (edgN ns ls) k).2 = (edG (edgN ns ls) j).1 := by
  rw [edG_get (by rw [edgN_len]; exact hk), edG_get (by rw [edgN_len]; exact hj)]
  have h1 := edgN_dst hv hk
  obtain ⟨_, _, g1, g2⟩ := netOk_lnk hv hk
  have h2 : idxD (nodIs ls[j].src) ns = (((edgN ns ls)[j]'(by rw [edgN_len]; exact hj)).1 : Nat) := by
    obtain ⟨_, _, g1, g2⟩ := netOk_lnk hv hj
    simp only [edgN, List.getElem_map]
    omega
  constructor
  · intro e
    rw [e, h2] at h1
    omega
  · intro e
    exact idxD_inj g2 (by rw [h1, h2, e])
/-- What stands behind the findings 4, 5, 6. -/
def rlTail : NCode := match N549_ref27_Levels.body with
  | .seq _ (.seq _ (.seq (.seq _ (.block _ (.loop (.seq _ (.seq (.block _ (.seq _ (.seq _ (.seq _ (.seq _ (.seq _ (.seq _ (.seq _ t)))))))) _))))) _)) => t
  | _ => .skip
variable {C : CC} (hC : Closed prog C)
include hC
theorem rPutT_c {bT : Bool} (hb : bT = true) (M : List Fnd) (k : Int) (nm : List UInt8) (hM : M.length < 2 ^ 40) (hn : nm.length < 2 ^ 62) : C 593 [slx bT (fndR (canL fcmp M)), .int .i64 k, .str nm] (slx bT (fndR (canL fcmp (M ++ [(k, nm)])))) [] := by
  subst hb
  rw [canR_ne (M := M ++ [(k, nm)]) (by simp)]
  exact rPut_c hC M k nm hM hn
set_option maxHeartbeats 4000000 in
theorem rLevels_c {bT : Bool} (hb : bT = true) (b1 b2 b3 : Bool) (ns : List Nod) (ls : List Lnk) (l : List Sec) (hv : netOk ns ls = true) (hu : useB l = true) : C 549 [.agg [slx b1 (ns.map nodC), slx b2 (ls.map lnkC)], slx b3 (l.map secC)] (slx bT (fndR (lvlL ns ls l))) [] := by
  have hn := (netOk_len hv).1
  have hl := (netOk_len hv).2
  have hg := edgN_in hv
  have hel := edgN_len ns ls
  have hll : l.length ≤ 40 := by
    simp only [useB, Bool.and_eq_true, decide_eq_true_eq] at hu
    exact hu.1.1
  have ks := fun nm => rNode_c hC b1 b2 ns ls nm (by omega)
  have kh := fun k => rHeight_c hC b3 k l (by omega)
  have k4 := rPutT_c hC hb
  have hsrc : ∀ (j : Nat) (h : j < ls.length), idxD (nodIs ls[j].src) ns = ((edG (edgN ns ls) j).1 : Nat) := fun j h => by rw [edG_get (by rw [edgN_len]; exact h)]; exact edgN_src hC hv h
  have hdst : ∀ (j : Nat) (h : j < ls.length), idxD (nodIs ls[j].dst) ns = ((edG (edgN ns ls) j).2 : Nat) := fun j h => by rw [edG_get (by rw [edgN_len]; exact h)]; exact edgN_dst hv h
  have hmeet : ∀ (j k : Nat) (h : j < ls.length) (h' : k < ls.length), ls[k].dst = ls[j].src ↔ (edG (edgN ns ls) k).2 = (edG (edgN ns ls) j).1 := fun j k h h' => edg_meet hv h h'
  have hnm : ∀ (j : Nat) (h : j < ls.length), ls[j].name.length ≤ 20 := fun j h => by
    have h0 := (netOk_lnk hv h).1
    simp only [linkOk, isName, Bool.and_eq_true, decide_eq_true_eq] at h0
    exact h0.1.1.1.1.1.1.1.1.2
  unfold lvlL lvlF
  generalize edgN ns ls = es at *
  obtain ⟨T, hT⟩ : ∃ T, T = rlTail := ⟨_, rfl⟩
  simp [rlTail, N549_ref27_Levels] at hT
  have tailK : ∀ (j : Nat) (h : j < ls.length) (Q : NExit → Env → Prop) (M1 : List Fnd), 0 ≤ hgF l ls[j] → M1.length ≤ 2 ^ 32 →
      (endW Q ⟨⟩ .nrm [(1, slx b3 (l.map secC)), (2, .ptr [slx b1 (ns.map nodC), slx b2 (ls.map lnkC)]), (5, slx bT (fndR (canL fcmp (M1 ++ flatF (narF es l ls j) ls.length)))), (6, .int .i64 j), (7, .adr (.r 10112) 0 0), (10, .int .i64 (hgF l ls[j])), (11, .bool true), (12, .int .i64 ls.length), (80, .bool false), (10112, .blk 11 [[.str ls[j].name, .str ls[j].src, .str ls[j].dst, .int .i64 1, .int .i64 ls[j].len, .int .i64 ls[j].up, .int .i64 ls[j].down, .str ls[j].sect, .int .i64 ls[j].width, .int .i64 ls[j].height, slx ls[j].curveN (ls[j].curve.map knD)]])]) →
      wN C T Q ⟨⟩ [(1, slx b3 (l.map secC)), (2, .ptr [slx b1 (ns.map nodC), slx b2 (ls.map lnkC)]), (5, slx bT (fndR (canL fcmp M1))), (6, .int .i64 j), (7, .adr (.r 10112) 0 0), (10, .int .i64 (hgF l ls[j])), (11, .bool true), (71, .bool false), (10112, .blk 11 [[.str ls[j].name, .str ls[j].src, .str ls[j].dst, .int .i64 1, .int .i64 ls[j].len, .int .i64 ls[j].up, .int .i64 ls[j].down, .str ls[j].sect, .int .i64 ls[j].width, .int .i64 ls[j].height, slx ls[j].curveN (ls[j].curve.map knD)]])] := by
    intro j h Q M1 hk0 hM1 hQ
    have hnj := hnm j h
    rw [hT]
    simp
    refine loop_of Nat (fun k => [(1, slx b3 (l.map secC)), (2, .ptr [slx b1 (ns.map nodC), slx b2 (ls.map lnkC)]), (5, slx bT (fndR (canL fcmp (M1 ++ flatF (narF es l ls j) k)))), (6, .int .i64 j), (7, .adr (.r 10112) 0 0), (10, .int .i64 (hgF l ls[j])), (11, .bool true), (12, .int .i64 k), (10112, .blk 11 [[.str ls[j].name, .str ls[j].src, .str ls[j].dst, .int .i64 1, .int .i64 ls[j].len, .int .i64 ls[j].up, .int .i64 ls[j].down, .str ls[j].sect, .int .i64 ls[j].width, .int .i64 ls[j].height, slx ls[j].curveN (ls[j].curve.map knD)]])]) (fun k => k ≤ ls.length) (fun k => ls.length - k) 0 (by simp) (by simp [flatF_zero]) ?_
    intro k hk
    simp
    refine brB_of (fun h8 => ?_) (fun h8 => ?_) <;> simp at h8
    · have hw8 : IntKind.wrap .i64 ((k : Int) + 1) = ((k + 1 : Nat) : Int) := wrap_i64 (by omega) (by omega)
      have khk := kh ls[k]
      simp only [lnkC] at khk
      have hfk := flatF_succ (narF es l ls j) k
      have hlk := flatF_len (narF_len es l ls j) k
      have hsk : narF es l ls j k = one (decide (ls[k].dst = ls[j].src) && decide (hgF l ls[j] < hgF l ls[k])) (7, ls[j].name) := by unfold narF; rw [lnkNm_get h, lnG_get h, lnG_get h8, decide_eq_decide.2 (hmeet j k h h8)]
      rw [hsk] at hfk
      simp [h8, lnkC]
      refine callW_of khk (.inl rfl) ?_
      simp [h8, lnkC]
      by_cases a1 : ls[k].kind = 1
      · obtain ⟨g1, g2⟩ := hgt_known hu a1
        simp [a1, h8, lnkC]
        by_cases a2 : ls[k].dst = ls[j].src
        · simp [a2, h8, lnkC]
          by_cases a3 : 0 ≤ hgF l ls[k]
          · have g1' : (hgtF l ls[k].sect).2 = true := by rw [g1]; simpa using a3
            rw [g1', g2 g1']
            simp
            refine ⟨indW_of (by decide +kernel), ?_⟩
            by_cases a4 : hgF l ls[j] < hgF l ls[k]
            · simp [a4]
              refine callW_of (k4 _ 7 _ (by (try simp only [List.length_append, List.length_cons, List.length_nil]); omega) (by omega)) (.inr rfl) ?_
              simp [hw8]
              exact ⟨k + 1, by omega, by omega, by rw [hfk]; simp [one, a2, a4], by omega⟩
            · simp [a4, hw8]
              exact ⟨k + 1, by omega, by omega, by rw [hfk]; simp [one, a2, a4], by omega⟩
          · have g1' : (hgtF l ls[k].sect).2 = false := by rw [g1]; simpa using a3
            rw [g1']
            simp [hw8]
            exact ⟨indW_of (by decide +kernel), k + 1, by omega, by omega, by rw [hfk]; simp [one, a2, show ¬ hgF l ls[j] < hgF l ls[k] by omega], by omega⟩
        · simp [a2, hw8]
          exact ⟨indW_of (by decide +kernel), k + 1, by omega, by omega, by rw [hfk]; simp [one, a2], by omega⟩
      · have g1 := hgF_other (l := l) a1
        simp [a1, hw8]
        exact ⟨indW_of (by decide +kernel), k + 1, by omega, by omega, by rw [hfk]; simp [one, show ¬ hgF l ls[j] < hgF l ls[k] by omega], by omega⟩
    · have ek : k = ls.length := by omega
      subst ek
      simp [h8]
      simpa using hQ
  have tailU : ∀ (j : Nat) (h : j < ls.length) (Q : NExit → Env → Prop) (M1 : List Fnd) (h0 : Int), M1.length ≤ 2 ^ 32 →
      (endW Q ⟨⟩ .nrm [(1, slx b3 (l.map secC)), (2, .ptr [slx b1 (ns.map nodC), slx b2 (ls.map lnkC)]), (5, slx bT (fndR (canL fcmp (M1)))), (6, .int .i64 j), (7, .adr (.r 10112) 0 0), (10, .int .i64 (h0)), (11, .bool false), (12, .int .i64 ls.length), (80, .bool false), (10112, .blk 11 [[.str ls[j].name, .str ls[j].src, .str ls[j].dst, .int .i64 1, .int .i64 ls[j].len, .int .i64 ls[j].up, .int .i64 ls[j].down, .str ls[j].sect, .int .i64 ls[j].width, .int .i64 ls[j].height, slx ls[j].curveN (ls[j].curve.map knD)]])]) →
      wN C T Q ⟨⟩ [(1, slx b3 (l.map secC)), (2, .ptr [slx b1 (ns.map nodC), slx b2 (ls.map lnkC)]), (5, slx bT (fndR (canL fcmp M1))), (6, .int .i64 j), (7, .adr (.r 10112) 0 0), (10, .int .i64 (h0)), (11, .bool false), (10112, .blk 11 [[.str ls[j].name, .str ls[j].src, .str ls[j].dst, .int .i64 1, .int .i64 ls[j].len, .int .i64 ls[j].up, .int .i64 ls[j].down, .str ls[j].sect, .int .i64 ls[j].width, .int .i64 ls[j].height, slx ls[j].curveN (ls[j].curve.map knD)]])] := by
    intro j h Q M1 h0 hM1 hQ
    have hnj := hnm j h
    rw [hT]
    simp
    refine loop_of Nat (fun k => [(1, slx b3 (l.map secC)), (2, .ptr [slx b1 (ns.map nodC), slx b2 (ls.map lnkC)]), (5, slx bT (fndR (canL fcmp (M1)))), (6, .int .i64 j), (7, .adr (.r 10112) 0 0), (10, .int .i64 (h0)), (11, .bool false), (12, .int .i64 k), (10112, .blk 11 [[.str ls[j].name, .str ls[j].src, .str ls[j].dst, .int .i64 1, .int .i64 ls[j].len, .int .i64 ls[j].up, .int .i64 ls[j].down, .str ls[j].sect, .int .i64 ls[j].width, .int .i64 ls[j].height, slx ls[j].curveN (ls[j].curve.map knD)]])]) (fun k => k ≤ ls.length) (fun k => ls.length - k) 0 (by simp) (by simp) ?_
    intro k hk
    simp
    refine brB_of (fun h8 => ?_) (fun h8 => ?_) <;> simp at h8
    · have hw8 : IntKind.wrap .i64 ((k : Int) + 1) = ((k + 1 : Nat) : Int) := wrap_i64 (by omega) (by omega)
      have khk := kh ls[k]
      simp only [lnkC] at khk
      simp [h8, lnkC]
      refine callW_of khk (.inl rfl) ?_
      simp [h8, lnkC]
      by_cases a1 : ls[k].kind = 1
      · simp [a1, h8, lnkC]
        by_cases a2 : ls[k].dst = ls[j].src
        · simp [a2, h8, lnkC, hw8]
          exact ⟨indW_of (by decide +kernel), k + 1, by omega, by omega, by omega⟩
        · simp [a2, hw8]
          exact ⟨indW_of (by decide +kernel), k + 1, by omega, by omega, by omega⟩
      · simp [a1, hw8]
        exact ⟨indW_of (by decide +kernel), k + 1, by omega, by omega, by omega⟩
    · have ek : k = ls.length := by omega
      subst ek
      simp [h8]
      simpa using hQ
  refine start hC (nf := N549_ref27_Levels) rfl rfl ?_
  simp [N549_ref27_Levels]
  refine loop_of Nat (fun j => [(1, slx b3 (l.map secC)), (2, .ptr [slx b1 (ns.map nodC), slx b2 (ls.map lnkC)]), (5, slx bT (fndR (canL fcmp (flatF (levF ns es l ls) j)))), (6, .int .i64 j)]) (fun j => j ≤ ls.length) (fun j => ls.length - j) 0 (by simp) (by simp [hb, flatF_zero, canR_nil]) ?_
  intro j hj
  simp
  refine brB_of (fun h => ?_) (fun h => ?_) <;> simp at h
  · have hje : j < es.length := by omega
    have hin := hg es[j] (List.getElem_mem _)
    have hs1 := hsrc j h
    have hd1 := hdst j h
    obtain ⟨a, b, hab⟩ : ∃ a b, es[j] = (a, b) := ⟨_, _, rfl⟩
    rw [edG_get hje, hab] at hs1 hd1
    rw [hab] at hin
    simp at hin hs1 hd1
    simp [h, lnkC]
    refine callW_of (ks _) (.inl rfl) ?_
    simp [hs1, hin.1, nodC]
    refine callW_of (ks _) (.inl rfl) ?_
    simp [hd1, hin.2, nodC]
    refine ⟨indW_of (by decide +kernel), ?_⟩
    have hw : IntKind.wrap .i64 ((j : Int) + 1) = ((j + 1 : Nat) : Int) := wrap_i64 (by omega) (by omega)
    have hfs := flatF_succ (levF ns es l ls) j
    have hfl := flatF_len (levF_len ns es l ls) j
    have hjm : (3 + ls.length) * j ≤ 403 * 400 := Nat.mul_le_mul (by omega) (by omega)
    have hnj := hnm j h
    have hlv : levF ns es l ls j = one (lvLo ls[j] ns[a] ns[b]) (4, ls[j].name) ++ one (lvHi ls[j] ns[a] ns[b] (hgtF l ls[j].sect).1 (hgtF l ls[j].sect).2) (5, ls[j].name) ++ one (decide (ls[j].kind = 1) && decide (hgF l ls[j] < 0)) (6, ls[j].name) ++ (if hgF l ls[j] < 0 then [] else flatF (narF es l ls j) ls.length) := by
      unfold levF
      rw [lnkNm_get h, edG_get hje, lnG_get h, hab, lvHi_known hu]
      simp only
      rw [nodG_get hin.1, nodG_get hin.2]
    have hM0 : (flatF (levF ns es l ls) j).length ≤ 2 ^ 31 := by omega
    rw [hlv] at hfs
    clear hlv hfl
    generalize flatF (levF ns es l ls) j = M at *
    have klo := rlow_c hC ls[j] ns[a] ns[b]
    have khi := rhigh_c hC ls[j] ns[a] ns[b] (hgtF l ls[j].sect).1 (hgtF l ls[j].sect).2
    have khj := kh ls[j]
    simp only [lnkC, nodC] at klo khi khj
    rw [← hT]
    refine callW_of khj (.inl rfl) ?_
    simp
    refine callW_of klo (.inr rfl) ?_
    simp
    refine brB_of (fun q1 => ?_) (fun q1 => ?_)
    · simp [q1]
      refine callW_of (k4 _ 4 _ (by (try simp only [List.length_append, List.length_cons, List.length_nil]); omega) (by omega)) (.inr rfl) ?_
      simp
      refine callW_of khi (.inr rfl) ?_
      simp
      refine brB_of (fun q2 => ?_) (fun q2 => ?_)
      · simp [q2]
        refine callW_of (k4 _ 5 _ (by (try simp only [List.length_append, List.length_cons, List.length_nil]); omega) (by omega)) (.inr rfl) ?_
        simp
        by_cases q3 : ls[j].kind = 1
        · obtain ⟨g1, g2⟩ := hgt_known hu q3
          simp [q3]
          by_cases q4 : 0 ≤ hgF l ls[j]
          · have g1' : (hgtF l ls[j].sect).2 = true := by rw [g1]; simpa using q4
            have g2' := g2 g1'
            rw [g1', g2'] at hfs q2 ⊢
            simp
            refine tailK j h _ _ q4 (by (try simp only [List.length_append, List.length_cons, List.length_nil]); omega) ?_
            simp [hw]
            exact ⟨j + 1, by omega, by omega, by rw [hfs]; simp [one, q1, q2, q3, q4, Int.not_lt.2 q4], by omega⟩
          · have g1' : (hgtF l ls[j].sect).2 = false := by rw [g1]; simpa using q4
            have q4' : hgF l ls[j] < 0 := by omega
            rw [g1'] at hfs q2 ⊢
            simp
            refine callW_of (k4 _ 6 _ (by (try simp only [List.length_append, List.length_cons, List.length_nil]); omega) (by omega)) (.inr rfl) ?_
            simp
            refine tailU j h _ _ _ (by (try simp only [List.length_append, List.length_cons, List.length_nil]); omega) ?_
            simp [hw]
            exact ⟨j + 1, by omega, by omega, by rw [hfs]; simp [one, q1, q2, q3, q4'], by omega⟩
        · have g1 := hgF_other (l := l) q3
          simp [q3, hw]
          exact ⟨j + 1, by omega, by omega, by rw [hfs]; simp [one, q1, q2, q3, g1], by omega⟩
      · simp [q2]
        by_cases q3 : ls[j].kind = 1
        · obtain ⟨g1, g2⟩ := hgt_known hu q3
          simp [q3]
          by_cases q4 : 0 ≤ hgF l ls[j]
          · have g1' : (hgtF l ls[j].sect).2 = true := by rw [g1]; simpa using q4
            have g2' := g2 g1'
            rw [g1', g2'] at hfs q2 ⊢
            simp
            refine tailK j h _ _ q4 (by (try simp only [List.length_append, List.length_cons, List.length_nil]); omega) ?_
            simp [hw]
            exact ⟨j + 1, by omega, by omega, by rw [hfs]; simp [one, q1, q2, q3, q4, Int.not_lt.2 q4], by omega⟩
          · have g1' : (hgtF l ls[j].sect).2 = false := by rw [g1]; simpa using q4
            have q4' : hgF l ls[j] < 0 := by omega
            rw [g1'] at hfs q2 ⊢
            simp
            refine callW_of (k4 _ 6 _ (by (try simp only [List.length_append, List.length_cons, List.length_nil]); omega) (by omega)) (.inr rfl) ?_
            simp
            refine tailU j h _ _ _ (by (try simp only [List.length_append, List.length_cons, List.length_nil]); omega) ?_
            simp [hw]
            exact ⟨j + 1, by omega, by omega, by rw [hfs]; simp [one, q1, q2, q3, q4'], by omega⟩
        · have g1 := hgF_other (l := l) q3
          simp [q3, hw]
          exact ⟨j + 1, by omega, by omega, by rw [hfs]; simp [one, q1, q2, q3, g1], by omega⟩
    · simp [q1]
      refine callW_of khi (.inr rfl) ?_
      simp
      refine brB_of (fun q2 => ?_) (fun q2 => ?_)
      · simp [q2]
        refine callW_of (k4 _ 5 _ (by (try simp only [List.length_append, List.length_cons, List.length_nil]); omega) (by omega)) (.inr rfl) ?_
        simp
        by_cases q3 : ls[j].kind = 1
        · obtain ⟨g1, g2⟩ := hgt_known hu q3
          simp [q3]
          by_cases q4 : 0 ≤ hgF l ls[j]
          · have g1' : (hgtF l ls[j].sect).2 = true := by rw [g1]; simpa using q4
            have g2' := g2 g1'
            rw [g1', g2'] at hfs q2 ⊢
            simp
            refine tailK j h _ _ q4 (by (try simp only [List.length_append, List.length_cons, List.length_nil]); omega) ?_
            simp [hw]
            exact ⟨j + 1, by omega, by omega, by rw [hfs]; simp [one, q1, q2, q3, q4, Int.not_lt.2 q4], by omega⟩
          · have g1' : (hgtF l ls[j].sect).2 = false := by rw [g1]; simpa using q4
            have q4' : hgF l ls[j] < 0 := by omega
            rw [g1'] at hfs q2 ⊢
            simp
            refine callW_of (k4 _ 6 _ (by (try simp only [List.length_append, List.length_cons, List.length_nil]); omega) (by omega)) (.inr rfl) ?_
            simp
            refine tailU j h _ _ _ (by (try simp only [List.length_append, List.length_cons, List.length_nil]); omega) ?_
            simp [hw]
            exact ⟨j + 1, by omega, by omega, by rw [hfs]; simp [one, q1, q2, q3, q4'], by omega⟩
        · have g1 := hgF_other (l := l) q3
          simp [q3, hw]
          exact ⟨j + 1, by omega, by omega, by rw [hfs]; simp [one, q1, q2, q3, g1], by omega⟩
      · simp [q2]
        by_cases q3 : ls[j].kind = 1
        · obtain ⟨g1, g2⟩ := hgt_known hu q3
          simp [q3]
          by_cases q4 : 0 ≤ hgF l ls[j]
          · have g1' : (hgtF l ls[j].sect).2 = true := by rw [g1]; simpa using q4
            have g2' := g2 g1'
            rw [g1', g2'] at hfs q2 ⊢
            simp
            refine tailK j h _ _ q4 (by (try simp only [List.length_append, List.length_cons, List.length_nil]); omega) ?_
            simp [hw]
            exact ⟨j + 1, by omega, by omega, by rw [hfs]; simp [one, q1, q2, q3, q4, Int.not_lt.2 q4], by omega⟩
          · have g1' : (hgtF l ls[j].sect).2 = false := by rw [g1]; simpa using q4
            have q4' : hgF l ls[j] < 0 := by omega
            rw [g1'] at hfs q2 ⊢
            simp
            refine callW_of (k4 _ 6 _ (by (try simp only [List.length_append, List.length_cons, List.length_nil]); omega) (by omega)) (.inr rfl) ?_
            simp
            refine tailU j h _ _ _ (by (try simp only [List.length_append, List.length_cons, List.length_nil]); omega) ?_
            simp [hw]
            exact ⟨j + 1, by omega, by omega, by rw [hfs]; simp [one, q1, q2, q3, q4'], by omega⟩
        · have g1 := hgF_other (l := l) q3
          simp [q3, hw]
          exact ⟨j + 1, by omega, by omega, by rw [hfs]; simp [one, q1, q2, q3, g1], by omega⟩
  · have ej : j = ls.length := by omega
    subst ej
    simp [h]
end Go.Gv

set_option linter.unusedSimpArgs false
namespace Go.Gv
def bigN27 (n : Nod) : Bool := decide (20 < n.shape.length) || decide (60 < n.name.length)
def bigL27 (l : Lnk) : Bool := decide (20 < l.curve.length) || decide (60 < l.name.length) || decide (60 < l.src.length) || decide (60 < l.dst.length) || decide (60 < l.sect.length)
def bigS27 (s : Sec) : Bool := decide (20 < s.area.length) || decide (20 < s.conv.length) || decide (60 < s.name.length)
def large27 (ns : List Nod) (ls : List Lnk) : Bool := decide (14 < ns.length) || decide (16 < ls.length) || ns.any bigN27 || ls.any bigL27
def many27 (l : List Sec) : Bool := decide (8 < l.length) || l.any bigS27
def ex27N : List Nod := [⟨[109], 1, 0, 0, 0, 1000, false, [(0, 0), (1000, 900)], false, 0⟩, ⟨[111], 3, 0, 0, 0, 1000, true, [], false, 0⟩]
def ex27L : List Lnk := [⟨[97], [109], [111], 1, 100, 10, 20, [115], 0, 0, true, []⟩]
variable {C : CC} (hC : Closed prog C)
include hC
theorem bigN27_c (n : Nod) : C 584 [.agg (nodC n)] (.bool (bigN27 n)) [] := by
  refine start hC (nf := N584_law27_large_1) rfl rfl ?_
  simp [N584_law27_large_1, nodC]
  unfold bigN27
  by_cases h1 : (20 : Int) < n.shape.length
  · simp [h1, show 20 < n.shape.length by omega]
  · simp [h1, show ¬ 20 < n.shape.length by omega]
    omega
theorem bigL27_c (l : Lnk) : C 585 [.agg (lnkC l)] (.bool (bigL27 l)) [] := by
  refine start hC (nf := N585_law27_large_2) rfl rfl ?_
  simp [N585_law27_large_2, lnkC]
  unfold bigL27
  by_cases h1 : (20 : Int) < l.curve.length
  · simp [h1, show 20 < l.curve.length by omega]
  by_cases h2 : (60 : Int) < l.name.length
  · simp [h1, h2, show 60 < l.name.length by omega]
  by_cases h3 : (60 : Int) < l.src.length
  · simp [h1, h2, h3, show 60 < l.src.length by omega]
  by_cases h4 : (60 : Int) < l.dst.length
  · simp [h1, h2, h3, h4, show 60 < l.dst.length by omega]
  simp [h1, h2, h3, h4, show ¬ 20 < l.curve.length by omega, show ¬ 60 < l.name.length by omega, show ¬ 60 < l.src.length by omega, show ¬ 60 < l.dst.length by omega]
  omega
theorem bigS27_c (s : Sec) : C 586 [.agg (secC s)] (.bool (bigS27 s)) [] := by
  refine start hC (nf := N586_law27_many_1) rfl rfl ?_
  simp [N586_law27_many_1, secC]
  unfold bigS27
  by_cases h1 : (20 : Int) < s.area.length
  · simp [h1, show 20 < s.area.length by omega]
  by_cases h2 : (20 : Int) < s.conv.length
  · simp [h1, h2, show 20 < s.conv.length by omega]
  simp [h1, h2, show ¬ 20 < s.area.length by omega, show ¬ 20 < s.conv.length by omega]
  omega
theorem large27_c (b1 b2 : Bool) (ns : List Nod) (ls : List Lnk) (h1 : ns.length < 2 ^ 62) (h2 : ls.length < 2 ^ 62) : C 541 [.agg [slx b1 (ns.map nodC), slx b2 (ls.map lnkC)]] (.bool (large27 ns ls)) [] := by
  have k1 := hasNod_c hC (b := b1) (xs := ns) (g := 584) (cs := []) bigN27 h1 (fun x _ => bigN27_c hC x)
  have k2 := hasLnk_c hC (b := b2) (xs := ls) (g := 585) (cs := []) bigL27 h2 (fun x _ => bigL27_c hC x)
  refine start hC (nf := N541_law27_large) rfl rfl ?_
  simp [N541_law27_large]
  unfold large27
  by_cases c1 : (14 : Int) < ns.length
  · simp [c1, show 14 < ns.length by omega]
  by_cases c2 : (16 : Int) < ls.length
  · simp [c1, c2, show 16 < ls.length by omega]
  have c1' : decide (14 < ns.length) = false := decide_eq_false (by omega)
  have c2' : decide (16 < ls.length) = false := decide_eq_false (by omega)
  rw [c1', c2']
  simp [c1, c2]
  refine callW_of k1 (.inl rfl) ?_
  cases d1 : ns.any bigN27
  · simp
    refine callW_of k2 (.inl rfl) ?_
    simp
  · simp
theorem many27_c (b : Bool) (l : List Sec) (h : l.length < 2 ^ 62) : C 542 [slx b (l.map secC)] (.bool (many27 l)) [] := by
  have k1 := hasSec_c hC (b := b) (xs := l) (g := 586) (cs := []) bigS27 h (fun x _ => bigS27_c hC x)
  refine start hC (nf := N542_law27_many) rfl rfl ?_
  simp [N542_law27_many]
  unfold many27
  by_cases c1 : (8 : Int) < l.length
  · simp [c1, show 8 < l.length by omega]
  have c1' : decide (8 < l.length) = false := decide_eq_false (by omega)
  rw [c1']
  simp [c1]
  refine callW_of k1 (.inl rfl) ?_
  simp
theorem ex27_c : C 583 [] (.agg [.sl (ex27N.map nodC), .sl (ex27L.map lnkC)]) [] := by
  have e0 : slx true ([] : List (List D)) = .nils := rfl
  refine start hC (nf := N583_law27_example) rfl rfl ?_
  simp [N583_law27_example, ex27N, ex27L, nodC, lnkC, knD]
  rfl
theorem eqFnd_c (b b' : Bool) (xs ys : List Fnd) (hx : xs.length < 2 ^ 62) (hy : ys.length < 2 ^ 62) : C 147 [slx b (fndR xs), slx b' (fndR ys)] (.bool (decide (xs = ys))) [] := by
  obtain ⟨r, hr⟩ : ∃ r, r = decide (xs = ys) := ⟨_, rfl⟩
  rw [← hr]
  refine start hC (nf := N147_slices_Equal__api_Finding_api_Finding) rfl rfl ?_
  simp [N147_slices_Equal__api_Finding_api_Finding, fndR]
  refine brB_of (fun h => ?_) (fun h => ?_) <;> simp at h <;> simp [h]
  · rw [hr, decide_eq_false]
    intro e
    exact h (by rw [e])
  have h' : xs.length = ys.length := by omega
  refine loop_of Nat (fun i => [(0, slx b (xs.map fndC)), (1, slx b' (ys.map fndC)), (12, .int .i64 xs.length), (13, .int .i64 i)])
    (fun i => i ≤ xs.length ∧ ∀ (k : Nat) (h1 : k < xs.length) (h2 : k < ys.length), k < i → xs[k] = ys[k]) (fun i => xs.length - i) 0 (by simp) (by simp [h']) ?_
  rintro i ⟨hi, hok⟩
  simp
  refine brB_of (fun h1 => ?_) (fun h1 => ?_) <;> simp at h1 <;> simp [h1]
  · have hw : IntKind.wrap .i64 ((i : Int) + 1) = ((i + 1 : Nat) : Int) := wrap_i64 (by omega) (by omega)
    have hy1 : i < ys.length := by omega
    simp [h1, hy1, fndC]
    refine ⟨indW_of (by decide +kernel), ?_⟩
    by_cases h2 : xs[i] = ys[i]
    · simp [h2, hw]
      refine ⟨i + 1, ⟨by omega, fun k k1 k2 hk => ?_⟩, by omega, rfl⟩
      rcases Nat.lt_succ_iff_lt_or_eq.1 hk with h5 | rfl
      · exact hok k k1 k2 h5
      · exact h2
    · have h3 : ¬ (xs[i].1 = ys[i].1 ∧ xs[i].2 = ys[i].2) := fun e => h2 (Prod.ext e.1 e.2)
      refine brB_of (fun h4 => ?_) (fun h4 => ?_) <;> simp at h4 <;> simp [h4]
      · rw [hr, decide_eq_false]
        intro e
        exact h2 (by simp [e])
      · exact absurd h4 h3
  · rw [hr, decide_eq_true]
    exact List.ext_getElem h' fun k k1 k2 => hok k k1 k2 (by omega)
end Go.Gv

set_option linter.unusedSimpArgs false
namespace Go.Gv
theorem ex27_edg : edgN ex27N ex27L = [(0, 1)] := by decide +kernel
theorem ex27_ok : (netOk ex27N ex27L && useB []) = true := by decide +kernel
theorem pth01 {k : Nat} (h : Pth [(0, 1)] 1 k) : k = 1 := by
  cases h with
  | refl => rfl
  | step e _ => simp at e
theorem wy01 (i k : Nat) : wyB [(0, 1)] i k = (decide (i = 0) && decide (k = 1)) := by
  rw [Bool.eq_iff_iff, wyB_iff]
  simp only [Bool.and_eq_true, decide_eq_true_eq]
  constructor
  · rintro ⟨s, h1, h2⟩
    simp at h1
    obtain ⟨rfl, rfl⟩ := h1
    exact ⟨rfl, pth01 h2⟩
  · rintro ⟨rfl, rfl⟩
    exact ⟨1, by simp, .refl 1⟩
theorem ex27_str : strF ex27N ex27L = [(2, [97])] := by
  unfold strF
  rw [ex27_edg]
  have e1 : stF ex27N [(0, 1)] = fun i => one (decide (i = 0) && decide (i = 1)) (1, nodNm ex27N i) ++ one (!decide (nodK ex27N i = 3) && !((List.range ex27N.length).any fun k => (decide (i = 0) && decide (k = 1)) && decide (nodK ex27N k = 3))) (3, nodNm ex27N i) ++ one (!metB [(0, 1)] 1 i) (8, nodNm ex27N i) := by
    funext i
    unfold stF lostB
    simp only [wy01, List.length_cons, List.length_nil]
  rw [e1]
  decide +kernel
theorem ex27_lvl : lvlF ex27N ex27L [] = [(6, [97])] := by
  unfold lvlF
  rw [ex27_edg]
  decide +kernel
theorem ex27_chk : chkL ex27N ex27L [] = [(2, [97]), (6, [97])] := by
  unfold chkL
  rw [ex27_str, ex27_lvl]
  refine canL_eq fcmp_tc ?_ fun x => Iff.rfl
  refine List.pairwise_cons.2 ⟨fun y hy => ?_, List.pairwise_singleton _ _⟩
  simp at hy
  subst hy
  decide +kernel
variable {C : CC} (hC : Closed prog C)
include hC
theorem awake27_c (hS : SlC C) (hK : ChkC C) : C 540 [] (.bool true) [] := by
  have k1 := ex27_c hC
  have k2 := Check_c hC hS hK false false true ex27N ex27L [] (by decide)
  have k3 := Adverse_c hC false false ex27N ex27L (by decide)
  rw [ex27_ok, ex27_chk] at k2
  have e1 : netOk ex27N ex27L = true := (Bool.and_eq_true_iff.1 ex27_ok).1
  have e2 : lmT ex27L backB ex27L.length = [[97]] := by decide +kernel
  rw [e1, e2] at k3
  simp only [slx_false, if_true] at k2 k3
  have e3 : slx true (([] : List Sec).map secC) = .nils := rfl
  rw [e3] at k2
  have k4 := eqFnd_c hC false false [(2, [97]), (6, [97])] [(2, [97]), (6, [97])] (by simp) (by simp)
  have k5 := eqStr_c hC false false [[97]] [[97]] (by simp) (by simp)
  simp only [slx_false] at k4 k5
  have f1 : fndR [(2, [97]), (6, [97])] = [[.int .i64 2, .str [97]], [.int .i64 6, .str [97]]] := rfl
  have f2 : strR [[97]] = [[.str [97]]] := rfl
  rw [f1] at k2 k4
  rw [f2] at k3 k5
  generalize ex27N.map nodC = X at *
  generalize ex27L.map lnkC = Y at *
  refine start hC (nf := N540_law27_awake) rfl rfl ?_
  simp [N540_law27_awake]
  refine callW_of k1 (.inr rfl) ?_
  simp
  refine callW_of k2 (.inr rfl) ?_
  simp
  refine callW_of k1 (.inr rfl) ?_
  simp
  refine callW_of k3 (.inr rfl) ?_
  simp
  refine callW_of k4 (.inl rfl) ?_
  simp
  refine callW_of k5 (.inl rfl) ?_
  simp
end Go.Gv

set_option linter.unusedSimpArgs false
namespace Go.Gv
variable {C : CC} (hC : Closed prog C)
include hC
end Go.Gv

set_option linter.unusedSimpArgs false
set_option maxRecDepth 4000
namespace Go.Gv
/-- A node that no link meets. -/
theorem alone_met {ns : List Nod} {ls : List Lnk} (hv : netOk ns ls = true) {i : Nat} (hi : i < ns.length) : (!ls.any fun k => k.src == ns[i].name || k.dst == ns[i].name) = !metB (edgN ns ls) (edgN ns ls).length i := by
  congr 1
  rw [Bool.eq_iff_iff]
  unfold metB
  rw [List.take_length]
  simp only [List.any_eq_true, Bool.or_eq_true, beq_iff_eq, decide_eq_true_eq]
  have hidx : ∀ nm, 0 ≤ idxD (nodIs nm) ns → (idxD (nodIs nm) ns = (i : Int) ↔ nm = ns[i].name) := fun nm h => by
    obtain ⟨h1, h2⟩ := idxD_here h
    simp only [nodIs, beq_iff_eq] at h2
    constructor
    · intro e
      rw [← h2]
      congr 2
      omega
    · intro e
      have h3 := (netOk_nod hv hi).2
      rw [e]
      exact h3
  constructor
  · rintro ⟨k, hk, h⟩
    obtain ⟨j, hj, rfl⟩ := List.mem_iff_getElem.1 hk
    obtain ⟨_, _, g1, g2⟩ := netOk_lnk hv hj
    refine ⟨_, List.getElem_mem (show j < (edgN ns ls).length by rw [edgN_len]; exact hj), ?_⟩
    have e1 := edgN_dst hv hj
    have e2 : idxD (nodIs ls[j].src) ns = (((edgN ns ls)[j]'(by rw [edgN_len]; exact hj)).1 : Nat) := by
      simp only [edgN, List.getElem_map]
      omega
    rcases h with h | h
    · have := (hidx _ g1).2 h
      exact .inl (by omega)
    · have := (hidx _ g2).2 h
      exact .inr (by omega)
  · rintro ⟨e, he, h⟩
    obtain ⟨j, hj', rfl⟩ := List.mem_iff_getElem.1 he
    have hj : j < ls.length := by rw [edgN_len] at hj'; exact hj'
    obtain ⟨_, _, g1, g2⟩ := netOk_lnk hv hj
    have e1 := edgN_dst hv hj
    have e2 : idxD (nodIs ls[j].src) ns = (((edgN ns ls)[j]'hj').1 : Nat) := by
      simp only [edgN, List.getElem_map]
      omega
    refine ⟨ls[j], List.getElem_mem _, ?_⟩
    rcases h with h | h
    · exact .inl ((hidx _ g1).1 (by omega))
    · exact .inr ((hidx _ g2).1 (by omega))
theorem nodup_idx {l : List Sec} (hn : (l.map (·.name)).Nodup) {i : Nat} (h : i < l.length) : idxD (secNm l[i].name) l = (i : Int) := by
  refine idxD_step (fun j hj hji => ?_) h (by simp [secNm])
  have := List.pairwise_iff_getElem.1 hn j i (by simpa using hj) (by simpa using h) hji
  simpa [secNm] using this
theorem idx_nodup {l : List Sec} (hx : ∀ (i : Nat) (h : i < l.length), idxD (secNm l[i].name) l = (i : Int)) : (l.map (·.name)).Nodup := by
  refine List.pairwise_iff_getElem.2 fun i j hi hj hij e => ?_
  have hi' : i < l.length := by simpa using hi
  have hj' : j < l.length := by simpa using hj
  simp only [List.getElem_map] at e
  have h1 := hx i hi'
  have h2 := hx j hj'
  rw [e, h2] at h1
  omega
theorem rchk_eq (ns : List Nod) (ls : List Lnk) (l : List Sec) : canL fcmp (lvlF ns ls l ++ flatF (stF ns (edgN ns ls)) ns.length ++ flatF (bkF ls) ls.length) = chkL ns ls l := by
  unfold chkL strF
  refine canL_congr fcmp_tc fun x => ?_
  simp only [List.mem_append]
  constructor
  · rintro ((h | h) | h)
    · exact .inr h
    · exact .inl (.inl h)
    · exact .inl (.inr h)
  · rintro ((h | h) | h)
    · exact .inl (.inr h)
    · exact .inr h
    · exact .inl (.inl h)
variable {C : CC} (hC : Closed prog C)
include hC
theorem rUsable_c (b : Bool) (l : List Sec) (hl : l.length < 2 ^ 62) : C 546 [slx b (l.map secC)] (.bool (useB l)) [] := by
  have k1 := fun nm => rIsName_c hC nm
  have k2 := fun nm => rfind_c hC b l nm hl
  refine start hC (nf := N546_ref27_Usable) rfl rfl ?_
  simp [N546_ref27_Usable]
  refine brB_of (fun h => ?_) (fun h => ?_) <;> simp at h
  · simp [useB]; omega
  simp
  refine loop_of Nat (fun i => [(0, slx b (l.map secC)), (3, .int .i64 i)]) (fun i => i ≤ l.length ∧ ∀ (j : Nat) (h : j < l.length), j < i → secUse l[j] = true ∧ idxD (secNm l[j].name) l = (j : Int)) (fun i => l.length - i) 0 (by simp) (by simp) ?_
  rintro i ⟨hi, hj⟩
  simp
  refine brB_of (fun h3 => ?_) (fun h3 => ?_) <;> simp at h3
  · have hw : IntKind.wrap .i64 ((i : Int) + 1) = ((i + 1 : Nat) : Int) := wrap_i64 (by omega) (by omega)
    have bad1 : secUse l[i] = false → useB l = false := fun e => by
      simp only [useB, Bool.and_eq_false_iff, List.all_eq_false]
      exact .inl (.inr ⟨l[i], List.getElem_mem h3, by simp [e]⟩)
    have bad2 : ¬ idxD (secNm l[i].name) l = (i : Int) → useB l = false := fun e => by
      simp only [useB, Bool.and_eq_false_iff, decide_eq_false_iff_not]
      right
      intro hnd
      exact e (nodup_idx hnd h3)
    simp [h3, secC]
    refine callW_of (k1 _) (.inl rfl) ?_
    cases hvi : isName l[i].name
    · have := bad1 (by simp [secUse, hvi])
      simp [this]
    · simp [h3, secC]
      refine callW_of (k2 _) (.inl rfl) ?_
      simp
      by_cases h4 : idxD (secNm l[i].name) l = (i : Int)
      · simp [h4, h3, secC]
        by_cases h6 : l[i].height < 1
        · have := bad1 (by simp [secUse]; omega)
          simp [h6, this]
        by_cases h7 : 32768 < l[i].height
        · have := bad1 (by simp [secUse]; omega)
          simp [h6, h7, this, h3, secC]
        simp [h6, h7, hw, h3, secC]
        refine ⟨i + 1, ⟨by omega, fun j hl hjj => ?_⟩, by omega, by omega⟩
        rcases Nat.lt_succ_iff_lt_or_eq.1 hjj with h8 | rfl
        · exact hj j hl h8
        · exact ⟨by simp [secUse, hvi]; omega, h4⟩
      · have := bad2 h4
        simp [h4, this]
  · have : useB l = true := by
      simp only [useB, Bool.and_eq_true, List.all_eq_true, decide_eq_true_eq]
      refine ⟨⟨by omega, fun x hx => ?_⟩, idx_nodup fun j h => (hj j h (by omega)).2⟩
      obtain ⟨j, hjl, rfl⟩ := List.mem_iff_getElem.1 hx
      exact (hj j hjl (by omega)).1
    simp [this]
theorem rSame_c (b b' : Bool) (xs ys : List Fnd) (hx : xs.length < 2 ^ 62) (hy : ys.length < 2 ^ 62) : C 548 [slx b (fndR xs), slx b' (fndR ys)] (.bool (decide (xs = ys))) [] := by
  obtain ⟨r, hr⟩ : ∃ r, r = decide (xs = ys) := ⟨_, rfl⟩
  rw [← hr]
  refine start hC (nf := N548_ref27_Same) rfl rfl ?_
  simp [N548_ref27_Same, fndR]
  refine brB_of (fun h => ?_) (fun h => ?_) <;> simp at h <;> simp [h]
  · rw [hr, decide_eq_false]
    intro e
    exact h (by rw [e])
  have h' : xs.length = ys.length := by omega
  refine loop_of Nat (fun i => [(0, slx b (xs.map fndC)), (1, slx b' (ys.map fndC)), (5, .int .i64 i)])
    (fun i => i ≤ xs.length ∧ ∀ (k : Nat) (h1 : k < xs.length) (h2 : k < ys.length), k < i → xs[k] = ys[k]) (fun i => xs.length - i) 0 (by simp) (by simp [h']) ?_
  rintro i ⟨hi, hok⟩
  simp
  refine brB_of (fun h1 => ?_) (fun h1 => ?_) <;> simp at h1 <;> simp [h1]
  · have hw : IntKind.wrap .i64 ((i : Int) + 1) = ((i + 1 : Nat) : Int) := wrap_i64 (by omega) (by omega)
    have hy1 : i < ys.length := by omega
    simp [h1, hy1, fndC]
    refine ⟨indW_of (by decide +kernel), ?_⟩
    by_cases h2 : xs[i] = ys[i]
    · simp [h2, hw]
      refine ⟨i + 1, ⟨by omega, fun k k1 k2 hk => ?_⟩, by omega, by omega⟩
      rcases Nat.lt_succ_iff_lt_or_eq.1 hk with h5 | rfl
      · exact hok k k1 k2 h5
      · exact h2
    · have h3 : ¬ (xs[i].1 = ys[i].1 ∧ xs[i].2 = ys[i].2) := fun e => h2 (Prod.ext e.1 e.2)
      refine brB_of (fun h4 => ?_) (fun h4 => ?_) <;> simp at h4 <;> simp [h4]
      · rw [hr, decide_eq_false]
        intro e
        exact h2 (by simp [e])
      · exact absurd h4 h3
  · rw [hr, decide_eq_true]
    exact List.ext_getElem h' fun k k1 k2 => hok k k1 k2 (by omega)
set_option maxHeartbeats 4000000 in
theorem rCheck_c {bT : Bool} (hb : bT = true) (b1 b2 b3 : Bool) (ns : List Nod) (ls : List Lnk) (l : List Sec) (hv : netOk ns ls = true) (hu : useB l = true) : C 547 [.agg [slx b1 (ns.map nodC), slx b2 (ls.map lnkC)], slx b3 (l.map secC)] (slx bT (fndR (chkL ns ls l))) [] := by
  have hn := (netOk_len hv).1
  have hl := (netOk_len hv).2
  have k1 := rLevels_c hC hb b1 b2 b3 ns ls l hv hu
  have k4 := rPutT_c hC hb
  have k5 := fun i hi => rLooped_c hC b1 b2 ns ls i hv hi
  have k6 := fun i hi => rLost_c hC b1 b2 ns ls i hv hi
  have hal := fun (i : Nat) (hi : i < ns.length) => alone_met hv hi
  have k7' := fun nm => rAlone_c hC b1 b2 ns ls nm (by omega)
  have hvl := lvlF_len ns ls l
  have hml : (3 + ls.length) * ls.length ≤ 403 * 400 := Nat.mul_le_mul (by omega) (by omega)
  have hnn : ∀ (j : Nat) (h : j < ns.length), ns[j].name.length ≤ 20 := fun j h => by
    have h0 := (netOk_nod hv h).1
    simp only [nodOk, isName, Bool.and_eq_true, decide_eq_true_eq] at h0
    omega
  have hln : ∀ (j : Nat) (h : j < ls.length), ls[j].name.length ≤ 20 := fun j h => by
    have h0 := (netOk_lnk hv h).1
    simp only [linkOk, isName, Bool.and_eq_true, decide_eq_true_eq] at h0
    exact h0.1.1.1.1.1.1.1.1.2
  have hcl := fun A => canL_len fcmp A
  rw [← rchk_eq]
  have hbk : ∀ j, j ≤ ls.length → (flatF (bkF ls) j).length ≤ 400 := fun j hj => by have := flatF_len (bkF_len ls) j; omega
  have hsf : ∀ j, j ≤ ns.length → (flatF (stF ns (edgN ns ls)) j).length ≤ 900 := fun j hj => by have := flatF_len (stF_len ns (edgN ns ls)) j; omega
  unfold lvlL at k1
  generalize edgN ns ls = es at *
  generalize lvlF ns ls l = V at *
  refine start hC (nf := N547_ref27_Check) rfl rfl ?_
  simp [N547_ref27_Check]
  refine callW_of k1 (.inr rfl) ?_
  simp
  refine loop_of Nat (fun j => [(2, .ptr [slx b1 (ns.map nodC), slx b2 (ls.map lnkC)]), (5, slx bT (fndR (canL fcmp (V ++ flatF (stF ns es) j)))), (6, .int .i64 j)]) (fun j => j ≤ ns.length) (fun j => ns.length - j) 0 (by simp) (by simp [flatF_zero]) ?_
  intro j hj
  simp
  refine brB_of (fun h => ?_) (fun h => ?_) <;> simp at h
  · have hw : IntKind.wrap .i64 ((j : Int) + 1) = ((j + 1 : Nat) : Int) := wrap_i64 (by omega) (by omega)
    have hfs := flatF_succ (stF ns es) j
    have hl1 := hsf j hj
    have hnj := hnn j h
    have k7 := k7' ns[j].name
    rw [hal j h] at k7
    have hsj : stF ns es j = one (wyB es j j) (1, nodNm ns j) ++ one (lostB ns es j) (3, nodNm ns j) ++ one (!metB es es.length j) (8, nodNm ns j) := rfl
    rw [nodNm_get h] at hsj
    generalize flatF (stF ns es) j = W at *
    simp [h, nodC]
    refine callW_of (k5 j h) (.inl rfl) ?_
    simp
    refine brB_of (fun q1 => ?_) (fun q1 => ?_)
    · simp [q1]
      refine callW_of (k4 _ 1 _ (by (try simp only [List.length_append, List.length_cons, List.length_nil]); omega) (by omega)) (.inr rfl) ?_
      simp
      refine callW_of (k6 j h) (.inl rfl) ?_
      simp
      refine brB_of (fun q2 => ?_) (fun q2 => ?_)
      · simp [q2]
        refine callW_of (k4 _ 3 _ (by (try simp only [List.length_append, List.length_cons, List.length_nil]); omega) (by omega)) (.inr rfl) ?_
        simp
        refine callW_of k7 (.inl rfl) ?_
        simp
        refine brB_of (fun q3 => ?_) (fun q3 => ?_)
        · simp [q3]
          refine callW_of (k4 _ 8 _ (by (try simp only [List.length_append, List.length_cons, List.length_nil]); omega) (by omega)) (.inr rfl) ?_
          simp [hw]
          refine ⟨j + 1, by omega, by omega, ?_, by omega⟩; rw [hfs, hsj]; simp [one, q1, q2, q3]
        · simp [q3, hw]
          refine ⟨j + 1, by omega, by omega, ?_, by omega⟩; rw [hfs, hsj]; simp [one, q1, q2, q3]
      · simp [q2]
        refine callW_of k7 (.inl rfl) ?_
        simp
        refine brB_of (fun q3 => ?_) (fun q3 => ?_)
        · simp [q3]
          refine callW_of (k4 _ 8 _ (by (try simp only [List.length_append, List.length_cons, List.length_nil]); omega) (by omega)) (.inr rfl) ?_
          simp [hw]
          refine ⟨j + 1, by omega, by omega, ?_, by omega⟩; rw [hfs, hsj]; simp [one, q1, q2, q3]
        · simp [q3, hw]
          refine ⟨j + 1, by omega, by omega, ?_, by omega⟩; rw [hfs, hsj]; simp [one, q1, q2, q3]
    · simp [q1]
      refine callW_of (k6 j h) (.inl rfl) ?_
      simp
      refine brB_of (fun q2 => ?_) (fun q2 => ?_)
      · simp [q2]
        refine callW_of (k4 _ 3 _ (by (try simp only [List.length_append, List.length_cons, List.length_nil]); omega) (by omega)) (.inr rfl) ?_
        simp
        refine callW_of k7 (.inl rfl) ?_
        simp
        refine brB_of (fun q3 => ?_) (fun q3 => ?_)
        · simp [q3]
          refine callW_of (k4 _ 8 _ (by (try simp only [List.length_append, List.length_cons, List.length_nil]); omega) (by omega)) (.inr rfl) ?_
          simp [hw]
          refine ⟨j + 1, by omega, by omega, ?_, by omega⟩; rw [hfs, hsj]; simp [one, q1, q2, q3]
        · simp [q3, hw]
          refine ⟨j + 1, by omega, by omega, ?_, by omega⟩; rw [hfs, hsj]; simp [one, q1, q2, q3]
      · simp [q2]
        refine callW_of k7 (.inl rfl) ?_
        simp
        refine brB_of (fun q3 => ?_) (fun q3 => ?_)
        · simp [q3]
          refine callW_of (k4 _ 8 _ (by (try simp only [List.length_append, List.length_cons, List.length_nil]); omega) (by omega)) (.inr rfl) ?_
          simp [hw]
          refine ⟨j + 1, by omega, by omega, ?_, by omega⟩; rw [hfs, hsj]; simp [one, q1, q2, q3]
        · simp [q3, hw]
          refine ⟨j + 1, by omega, by omega, ?_, by omega⟩; rw [hfs, hsj]; simp [one, q1, q2, q3]
  · have ej : j = ns.length := by omega
    subst ej
    have hW := hsf _ hj
    generalize flatF (stF ns es) ns.length = W at *
    simp [h]
    refine loop_of Nat (fun j => [(2, .ptr [slx b1 (ns.map nodC), slx b2 (ls.map lnkC)]), (5, slx bT (fndR (canL fcmp (V ++ W ++ flatF (bkF ls) j)))), (8, .int .i64 j)]) (fun j => j ≤ ls.length) (fun j => ls.length - j) 0 (by simp) (by simp [flatF_zero]) ?_
    intro j hj
    simp
    refine brB_of (fun h => ?_) (fun h => ?_) <;> simp at h
    · have hw : IntKind.wrap .i64 ((j : Int) + 1) = ((j + 1 : Nat) : Int) := wrap_i64 (by omega) (by omega)
      have hfs := flatF_succ (bkF ls) j
      have hl1 := hbk j hj
      have hnj := hln j h
      have hsj : bkF ls j = one (backB ls[j]) (2, ls[j].name) := by unfold bkF; rw [lnkNm_get h]; simp [h]
      generalize flatF (bkF ls) j = U at *
      simp [h, lnkC]
      by_cases q1 : ls[j].kind = 1
      · simp [q1, h, lnkC]
        by_cases q2 : ls[j].up < ls[j].down
        · simp [q2, h, lnkC]
          refine ⟨indW_of (by decide +kernel), ?_⟩
          refine callW_of (k4 _ 2 _ (by (try simp only [List.length_append, List.length_cons, List.length_nil]); omega) (by omega)) (.inr rfl) ?_
          simp [hw]
          refine ⟨j + 1, by omega, by omega, ?_, by omega⟩
          rw [hfs, hsj]; simp [one, backB, q1, q2]
        · simp [q2, hw]
          refine ⟨indW_of (by decide +kernel), j + 1, by omega, by omega, ?_, by omega⟩
          rw [hfs, hsj]; simp [one, backB, q1, q2]
      · simp [q1, hw]
        refine ⟨indW_of (by decide +kernel), j + 1, by omega, by omega, ?_, by omega⟩
        rw [hfs, hsj]; simp [one, backB, q1]
    · have ej : j = ls.length := by omega
      subst ej
      simp [h]
set_option maxHeartbeats 4000000 in
theorem CheckerFindings_c (hS : SlC C) (hK : ChkC C) (b1 b2 : Bool) (ns : List Nod) (ls : List Lnk) (hn : ns.length < 2 ^ 62) (hl : ls.length < 2 ^ 62) (hcv : ∀ l ∈ ls, l.curve.length < 2 ^ 62) (b3 : Bool) (l : List Sec) (hs : l.length < 2 ^ 62) : C 528 [.agg [slx b1 (ns.map nodC), slx b2 (ls.map lnkC)], slx b3 (l.map secC)] (.bool true) [] := by
  have k0 := awake27_c hC hS hK
  have k1 := large27_c hC b1 b2 ns ls hn hl
  have k1' := many27_c hC b3 l hs
  have k2 := Check_c hC hS hK b1 b2 b3 ns ls l hcv
  have k3 := Levels_c hC hK b1 b2 b3 ns ls l hcv
  have k4 := Accepted_c hC hS hK b1 b2 b3 ns ls l hcv
  have k5 := rValid_c hC b1 b2 ns ls
  have k6 := rUsable_c hC b3 l hs
  obtain ⟨bT, hb⟩ : ∃ b, b = true := ⟨true, rfl⟩
  refine start hC (nf := N528_law27_CheckerFindings) rfl rfl ?_
  simp [N528_law27_CheckerFindings]
  refine callW_of k0 (.inl rfl) ?_
  simp
  refine callW_of k1 (.inl rfl) ?_
  simp
  refine brB_of (fun hlg => ?_) (fun hlg => ?_)
  · simp [hlg]
  simp [hlg]
  refine callW_of k1' (.inl rfl) ?_
  simp
  refine brB_of (fun hmn => ?_) (fun hmn => ?_)
  · simp [hmn]
  simp [hmn]
  refine callW_of k2 (.inr rfl) ?_
  cases hv1 : netOk ns ls
  · rw [hv1] at k3 k4 k5
    simp at k3 k4 k5 ⊢
    refine callW_of k3 (.inr rfl) ?_
    simp
    refine callW_of k4 (.inl rfl) ?_
    simp
    refine callW_of k5 (.inl rfl) ?_
    simp
  cases hv2 : useB l
  · rw [hv1, hv2] at k3 k4
    rw [hv1] at k5
    rw [hv2] at k6
    simp at k3 k4 k5 k6 ⊢
    refine callW_of k3 (.inr rfl) ?_
    simp
    refine callW_of k4 (.inl rfl) ?_
    simp
    refine callW_of k5 (.inl rfl) ?_
    simp
    refine callW_of k6 (.inl rfl) ?_
    simp
  · have k7 := rCheck_c hC hb b1 b2 b3 ns ls l hv1 hv2
    have k8 := rLevels_c hC hb b1 b2 b3 ns ls l hv1 hv2
    have hA : (chkL ns ls l).length < 2 ^ 62 := by
      unfold chkL
      have := canL_len fcmp (strF ns ls ++ lvlF ns ls l)
      have := strF_len ns ls
      have := lvlF_len ns ls l
      have := netOk_len hv1
      have hml : (3 + ls.length) * ls.length ≤ 403 * 400 := Nat.mul_le_mul (by omega) (by omega)
      rw [List.length_append] at *
      omega
    have hB : (lvlL ns ls l).length < 2 ^ 62 := by
      unfold lvlL
      have := canL_len fcmp (lvlF ns ls l)
      have := lvlF_len ns ls l
      have := netOk_len hv1
      have hml : (3 + ls.length) * ls.length ≤ 403 * 400 := Nat.mul_le_mul (by omega) (by omega)
      omega
    have k9 := rSame_c hC false bT (chkL ns ls l) (chkL ns ls l) hA hA
    have k10 := rSame_c hC false bT (lvlL ns ls l) (lvlL ns ls l) hB hB
    rw [hv1, hv2] at k3 k4
    rw [hv1] at k5
    rw [hv2] at k6
    generalize chkL ns ls l = A at *
    generalize lvlL ns ls l = B at *
    simp at k3 k4 k5 k6 k9 k10 ⊢
    refine callW_of k3 (.inr rfl) ?_
    simp
    refine callW_of k4 (.inl rfl) ?_
    simp
    refine callW_of k5 (.inl rfl) ?_
    simp
    refine callW_of k6 (.inl rfl) ?_
    simp
    refine callW_of k7 (.inr rfl) ?_
    simp
    refine callW_of k9 (.inl rfl) ?_
    simp
    refine callW_of k8 (.inr rfl) ?_
    simp
    refine callW_of k10 (.inl rfl) ?_
    simp [fndR_len]
end Go.Gv
