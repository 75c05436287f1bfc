/-
  Texts of the proof: A8, A9, A10, A14, A16, A17, A11, A18, A12, A20, A23, Q35, A24, A25.
-/
import Derived.Test.YtidngidgadmocaaGreatX8
set_option linter.all false
set_option linter.unusedSimpArgs false
namespace Go.Gv
def secUse (s : Sec) : Bool := isName s.name && decide (1 ≤ s.height) && decide (s.height ≤ 32768)
def useB (l : List Sec) : Bool := decide (l.length ≤ 40) && l.all secUse && decide ((l.map (·.name)).Nodup)
/-- The height of the section of a link, or -1. -/
def hgF (l : List Sec) (k : Lnk) : Int := if k.kind = 1 then (match l.find? (fun s => s.name == k.sect) with | some s => s.height | none => -1) else -1
def hgA (l : List Sec) (ls : List Lnk) : List (List D) := ls.map fun k => [.int .i64 (hgF l k)]
theorem hgA_len (l : List Sec) (ls : List Lnk) : (hgA l ls).length = ls.length := by simp [hgA]
theorem hgA_get (l : List Sec) {ls : List Lnk} {i : Nat} (h : i < ls.length) : (hgA l ls)[i]? = some [.int .i64 (hgF l ls[i])] := by simp [hgA, h]
/-- So far as they are known. -/
def hgI (l : List Sec) (ls : List Lnk) (j : Nat) : List (List D) := (List.range ls.length).map fun i => [.int .i64 (if i < j then ((ls[i]?).map (hgF l)).getD 0 else 0)]
theorem hgI_len (l : List Sec) (ls : List Lnk) (j : Nat) : (hgI l ls j).length = ls.length := by simp [hgI]
theorem hgI_get {l : List Sec} {ls : List Lnk} {j i : Nat} (h : i < ls.length) : (hgI l ls j)[i]? = some [.int .i64 (if i < j then ((ls[i]?).map (hgF l)).getD 0 else 0)] := by simp [hgI, h]
theorem hgI_zero (l : List Sec) (ls : List Lnk) : List.replicate ls.length [D.int .i64 0] = hgI l ls 0 := by simp [hgI, List.map_const']
theorem hgI_set {l : List Sec} {ls : List Lnk} {j : Nat} (h : j < ls.length) : (hgI l ls j).set j [D.int .i64 (hgF l ls[j])] = hgI l ls (j + 1) := by
  unfold hgI
  rw [set_rm]
  apply List.map_congr_left
  intro v _
  by_cases e : v = j
  · subst e; simp [h]
  · have : (v < j) = (v < j + 1) := by apply propext; omega
    simp only [if_neg e, this]
theorem hgI_end (l : List Sec) (ls : List Lnk) : hgI l ls ls.length = hgA l ls := by
  apply List.ext_getElem (by simp [hgI, hgA])
  intro i h1 h2
  have h : i < ls.length := by simpa [hgA] using h2
  simp [hgI, hgA, h]
def secNm (nm : List UInt8) (s : Sec) : Bool := s.name == nm
theorem hgF_idx (l : List Sec) {k : Lnk} (hk : k.kind = 1) : hgF l k = if h : 0 ≤ idxD (secNm k.sect) l then (l[(idxD (secNm k.sect) l).toNat]?.map (·.height)).getD (-1) else -1 := by
  unfold hgF
  rw [if_pos hk]
  have hf : l.find? (fun s => s.name == k.sect) = l.find? (secNm k.sect) := rfl
  rw [hf]
  unfold idxD
  cases e : l.findIdx? (secNm k.sect) with
  | none =>
    have : l.find? (secNm k.sect) = none := by
      rw [List.find?_eq_none]
      exact fun x hx => by have := List.findIdx?_eq_none_iff.1 e x hx; simp [this]
    rw [this]; simp
  | some i =>
    obtain ⟨h1, h2, h3⟩ := List.findIdx?_eq_some_iff_getElem.1 e
    have : l.find? (secNm k.sect) = some l[i] := by
      rw [List.find?_eq_some_iff_getElem]
      exact ⟨h2, i, h1, rfl, fun j hj => by have := h3 j hj; simpa using this⟩
    rw [this]
    have e1 : ((some i).map (fun i : Nat => (i : Int))).getD (-1) = (i : Int) := rfl
    simp [h1]
variable {C : CC} (hC : Closed prog C)
include hC
theorem cvalid_c (b1 b2 b3 : Bool) (ns : List Nod) (ls : List Lnk) (l : List Sec) (hcv : ∀ l ∈ ls, l.curve.length < 2 ^ 62) : C 587 [.agg [slx b1 (ns.map nodC), slx b2 (ls.map lnkC)], slx b3 (l.map secC)] (.bool (netOk ns ls && useB l)) [] := by
  have k0 := netOk_c hC b1 b2 ns ls hcv
  refine start hC (nf := N587_checker_valid) rfl rfl ?_
  simp [N587_checker_valid]
  refine callW_of k0 (.inl rfl) ?_
  cases hv : netOk ns ls
  · simp
  simp
  refine brB_of (fun h => ?_) (fun h => ?_) <;> simp at h
  · simp [useB]; omega
  simp
  refine loop_of Nat (fun i => [(5, .mrf 10256), (10256, .mp 0 1 (namesK (l.take i)) (List.replicate i (.bool true))), (17, slx b3 (l.map secC)), (18, .int .i64 l.length), (19, .int .i64 i)])
    (fun i => i ≤ l.length ∧ (∀ x ∈ l.take i, secUse x = true) ∧ ((l.map (·.name)).take i).Nodup) (fun i => l.length - i) 0 (by simp) (by simp [namesK]) ?_
  rintro i ⟨hi, hv, hn⟩
  simp
  refine brB_of (fun h3 => ?_) (fun h3 => ?_) <;> simp at h3
  · have ht : l.take (i + 1) = l.take i ++ [l[i]] := List.take_succ_eq_append_getElem h3
    have hg := mpGet_set ((l.take i).map (·.name)).reverse i (by simp; omega) l[i].name
    rw [show ((l.take i).map (·.name)).reverse.map D.str = namesK (l.take i) from rfl] at hg
    have hk : D.str l[i].name :: namesK (l.take i) = namesK (l.take (i + 1)) := by
      rw [namesK, namesK, ht]
      simp only [List.map_append, List.map_cons, List.map_nil, List.reverse_append, List.reverse_cons, List.reverse_nil, List.nil_append, List.cons_append]
    have hlen : (namesK (l.take i)).length < maxLen := by
      have : (namesK (l.take i)).length ≤ 40 := by simp [namesK]; omega
      unfold maxLen; omega
    have hw : IntKind.wrap .i64 ((i : Int) + 1) = ((i + 1 : Nat) : Int) := wrap_i64 (by omega) (by omega)
    have bad1 : secUse l[i] = false → useB l = false := fun e => by
      simp only [useB, Bool.and_eq_false_iff, List.all_eq_false]
      exact .inl (.inr ⟨l[i], List.getElem_mem h3, by simp [e]⟩)
    have h5 : (l.map (·.name)).take (i + 1) = (l.map (·.name)).take i ++ [l[i].name] := by
      rw [List.take_succ_eq_append_getElem (by simpa using h3)]; simp
    have bad2 : l[i].name ∈ (l.map (·.name)).take i → useB l = false := fun e => by
      simp only [useB, Bool.and_eq_false_iff, decide_eq_false_iff_not]
      right
      intro hnd
      have h6 := (List.take_sublist (i + 1) _).nodup hnd
      rw [h5, List.nodup_append] at h6
      exact h6.2.2 _ e _ (by simp) rfl
    simp [h3, secC]
    refine callW_of (IsName_c hC l[i].name) (.inl rfl) ?_
    cases hvi : isName l[i].name
    · have := bad1 (by simp [secUse, hvi])
      simp [this]
    · have hnm : l[i].name.length ≤ maxLen := by
        simp only [isName, Bool.and_eq_true, decide_eq_true_eq] at hvi
        unfold maxLen; omega
      simp [hg, hnm]
      refine brB_of (fun h4 => ?_) (fun h4 => ?_)
      · have := bad2 (by simpa using h4)
        simp [h4, this]
      · have h4b : l[i].name ∉ (l.map (·.name)).take i := by simpa using h4
        simp [h4]
        by_cases h6 : l[i].height < 1
        · have := bad1 (by simp [secUse]; omega)
          simp [h6, this]
        by_cases h7 : 32768 < l[i].height
        · have := bad1 (by simp [secUse]; omega)
          simp [h6, h7, this]
        simp [h6, h7, hlen, hnm, hw]
        refine ⟨i + 1, ⟨by omega, ?_, ?_⟩, by omega, ?_⟩
        · intro x hx
          rw [ht] at hx
          rcases List.mem_append.1 hx with hx | hx
          · exact hv x hx
          · simp at hx; subst hx; simp [secUse, hvi]; omega
        · rw [h5, List.nodup_append]
          refine ⟨hn, by simp, fun a ha b hb => ?_⟩
          simp at hb
          subst hb
          rintro rfl
          exact h4b ha
        · rw [List.replicate_succ]
          exact ⟨⟨hk, rfl⟩, by omega⟩
  · have hil : i = l.length := by omega
    subst hil
    rw [List.take_of_length_le (by simp)] at hn
    simp at hv
    simp [useB, hn]
    exact ⟨by omega, hv⟩
theorem hgIs_c (s : Sec) (k : Lnk) : C 647 [.agg (secC s), .ptr (lnkC k)] (.bool (secNm k.sect s)) [] := by
  refine start hC (nf := N647_checker_heights_1) rfl rfl ?_
  simp [N647_checker_heights_1, secC, lnkC, secNm]
  rw [Bool.eq_iff_iff]; simp
theorem heights_c (b1 b2 b3 : Bool) (ns : List Nod) (ls : List Lnk) (l : List Sec) (hls : ls.length ≤ 400) (hl : l.length ≤ 40) : C 629 [.agg [slx b1 (ns.map nodC), slx b2 (ls.map lnkC)], slx b3 (l.map secC)] (.sl (hgA l ls)) [] := by
  refine start hC (nf := N629_checker_heights) rfl rfl ?_
  simp [N629_checker_heights]
  rw [hgI_zero l]
  refine ⟨by omega, ?_⟩
  refine loop_of Nat (fun i => [(1, slx b3 (l.map secC)), (5, .ref (.r 10080) 0 ls.length), (10080, .blk 1 (hgI l ls i)), (14, slx b2 (ls.map lnkC)), (15, .int .i64 ls.length), (16, .int .i64 i)]) (fun i => i ≤ ls.length) (fun i => ls.length - i) 0 (by simp) (by simp) ?_
  intro i hi
  simp
  refine brB_of (fun h => ?_) (fun h => ?_) <;> simp at h
  · have hw : IntKind.wrap .i64 ((i : Int) + 1) = ((i + 1 : Nat) : Int) := wrap_i64 (by omega) (by omega)
    have hset := hgI_set (l := l) h
    have hg1 := hgI_get (l := l) (j := i) h
    rw [if_neg (Nat.lt_irrefl i)] at hg1
    have hm1 := fun x => show (hgI l ls i).set i [D.int .i64 x] = (hgI l ls i).set i [D.int .i64 x] from rfl
    have hg1E : (hgI l ls i)[i]'(by rw [hgI_len]; exact h) = [D.int .i64 0] := (List.getElem?_eq_some_iff.1 hg1).2
    have k1 := idxSec_c hC (b := b3) (xs := l) (g := 647) (cs := [.ptr (lnkC ls[i])]) (secNm ls[i].sect) (by omega) (fun x _ => hgIs_c hC x ls[i])
    have hx := hgF_idx l (k := ls[i])
    simp [h, lnkC, hgI_len, hg1, hg1E]
    refine brB_of (fun h2 => ?_) (fun h2 => ?_) <;> simp at h2
    · have hf : hgF l ls[i] = -1 := by unfold hgF; rw [if_neg h2]
      rw [hf] at hset
      simp [h2, hw, hset]
      exact ⟨i + 1, by omega, by omega, rfl, by omega⟩
    · have hf := hx h2
      simp [h2, lnkC] at k1 ⊢
      refine callW_of k1 (.inl rfl) ?_
      simp
      refine brB_of (fun h3 => ?_) (fun h3 => ?_) <;> simp at h3
      · obtain ⟨hi1, _⟩ := idxD_here h3
        have hf' : hgF l ls[i] = l[(idxD (secNm ls[i].sect) l).toNat].height := by rw [hf, dif_pos h3, List.getElem?_eq_getElem hi1]; rfl
        rw [hf'] at hset
        have hs1 : ((hgI l ls i).set i [D.int .i64 (-1)])[i]? = some [D.int .i64 (-1)] := List.getElem?_set_self (by rw [hgI_len]; exact h)
        simp [h3, hi1, secC, hs1, h, hw, hset, hgI_len]
        exact ⟨i + 1, by omega, by omega, rfl, by omega⟩
      · have hf' : hgF l ls[i] = -1 := by rw [hf, dif_neg (by omega)]
        rw [hf'] at hset
        simp [h3, hw, hset]
        exact ⟨i + 1, by omega, by omega, rfl, by omega⟩
  · have ei : i = ls.length := by omega
    subst ei
    simp [h, hgI_len, hgI_end, hgA_len]
    rw [List.take_of_length_le (by simp [hgA_len])]
    unfold hgA
    rw [List.map_map]
    apply List.map_congr_left
    intro v _
    simp [cellV]
end Go.Gv

set_option linter.unusedSimpArgs false
namespace Go.Gv
/-- Lists, one after another. -/
def flatF {α : Type} (f : Nat → List α) (j : Nat) : List α := (List.range j).flatMap f
theorem flatF_zero {α : Type} (f : Nat → List α) : flatF f 0 = [] := rfl
theorem flatF_succ {α : Type} (f : Nat → List α) (j : Nat) : flatF f (j + 1) = flatF f j ++ f j := by simp [flatF, List.range_succ]
theorem flatF_len {α : Type} {f : Nat → List α} {k : Nat} (h : ∀ i, (f i).length ≤ k) (j : Nat) : (flatF f j).length ≤ k * j := by
  induction j with
  | zero => simp [flatF]
  | succ j ih =>
    rw [flatF_succ, List.length_append, Nat.mul_succ]
    have := h j
    omega
theorem mem_flatF {α : Type} {f : Nat → List α} {j : Nat} {x : α} : x ∈ flatF f j ↔ ∃ i, i < j ∧ x ∈ f i := by simp [flatF]
def one {α : Type} (b : Bool) (x : α) : List α := if b = true then [x] else []
theorem one_len {α : Type} (b : Bool) (x : α) : (one b x).length ≤ 1 := by cases b <;> simp [one]
theorem mem_one {α : Type} {b : Bool} {x y : α} : y ∈ one b x ↔ b = true ∧ y = x := by cases b <;> simp [one]
/-- An edge meets a node. -/
def metB (es : List Edg) (j v : Nat) : Bool := (es.take j).any fun e => decide (e.1 = v) || decide (e.2 = v)
theorem metB_zero (es : List Edg) : metB es 0 = fun _ => false := by funext v; simp [metB]
theorem metB_succ {es : List Edg} {j : Nat} (h : j < es.length) (v : Nat) : metB es (j + 1) v = (metB es j v || (decide (es[j].1 = v) || decide (es[j].2 = v))) := by
  unfold metB
  rw [List.take_succ_eq_append_getElem h, List.any_append]
  simp
theorem metB_set {es : List Edg} {j n : Nat} (h : j < es.length) : ((boolA n (metB es j)).set es[j].1 [D.bool true]).set es[j].2 [D.bool true] = boolA n (metB es (j + 1)) := by
  rw [boolA_set, boolA_set]
  apply boolA_congr
  intro v _
  rw [metB_succ h]
  by_cases e1 : v = es[j].2
  · subst e1; simp
  · have e1' : ¬ es[j].2 = v := fun e => e1 e.symm
    by_cases e2 : v = es[j].1
    · subst e2; simp [e1]
    · have e2' : ¬ es[j].1 = v := fun e => e2 e.symm
      simp [e1, e2, e1', e2']
/-- The findings on a node, and on a link. -/
noncomputable def stF (ns : List Nod) (es : List Edg) (i : Nat) : List Fnd := one (wyB es i i) (1, nodNm ns i) ++ one (lostB ns es i) (3, nodNm ns i) ++ one (!metB es es.length i) (8, nodNm ns i)
def lnkNm (ls : List Lnk) (k : Nat) : List UInt8 := (ls[k]?.map (·.name)).getD []
theorem lnkNm_get {ls : List Lnk} {k : Nat} (h : k < ls.length) : lnkNm ls k = ls[k].name := by simp [lnkNm, h]
def bkF (ls : List Lnk) (i : Nat) : List Fnd := one ((ls[i]?.map backB).getD false) (2, lnkNm ls i)
theorem stF_len (ns : List Nod) (es : List Edg) (i : Nat) : (stF ns es i).length ≤ 3 := by
  unfold stF
  have := one_len (wyB es i i) ((1, nodNm ns i) : Fnd)
  have := one_len (lostB ns es i) ((3, nodNm ns i) : Fnd)
  have := one_len (!metB es es.length i) ((8, nodNm ns i) : Fnd)
  simp only [List.length_append]; omega
theorem bkF_len (ls : List Lnk) (i : Nat) : (bkF ls i).length ≤ 1 := one_len _ _
noncomputable def strF (ns : List Nod) (ls : List Lnk) : List Fnd := flatF (stF ns (edgN ns ls)) ns.length ++ flatF (bkF ls) ls.length
variable {C : CC} (hC : Closed prog C)
include hC
set_option maxHeartbeats 4000000 in
theorem structure_c (hS : SlC C) (b1 b2 : Bool) (ns : List Nod) (ls : List Lnk) (hv : netOk ns ls = true) (hcv : ∀ l ∈ ls, l.curve.length < 2 ^ 62) (L : List Fnd) (hL : L.length < 2 ^ 30) : C 588 [.blk 1 [[.own 2 (fndR L)]], .agg [slx b1 (ns.map nodC), slx b2 (ls.map lnkC)]] (.tup []) [.blk 1 [[.own 2 (fndR (L ++ strF ns ls))]]] := by
  have hn := (netOk_len hv).1
  have hl := (netOk_len hv).2
  have hg := edgN_in hv
  have he : (edgN ns ls).length ≤ 400 := by rw [edgN_len]; omega
  have k1 := cWays_c hC hS b1 b2 ns ls hv hcv
  have k2 := ends_c hC b1 b2 ns ls hv hcv
  have k3 := fun i hi => isLost_c hC b1 b2 ns ls (edgN ns ls) i hn hi
  have k4 := add_c hC
  have k5 := back_c hC
  unfold strF
  generalize edgN ns ls = es at *
  obtain ⟨X, hX, hXg⟩ : ∃ X, wayD ns.length es = .sl X ∧ ∀ i, i < ns.length → X[i]? = some [D.sl (boolA ns.length (wyB es i))] := ⟨_, rfl, fun i hi => by simp [hi]⟩
  rw [hX] at k1
  simp only [hX] at k3
  clear hX
  have hrep : List.replicate ns.length [D.bool false] = boolA ns.length (metB es 0) := by rw [metB_zero]; simp [boolA, rep_map]
  refine startL hC (nf := N588_checker_notes_structure) rfl rfl ?_
  simp [N588_checker_notes_structure]
  refine callW_of k1 (.inr rfl) ?_
  simp
  refine ⟨by omega, ?_⟩
  refine callW_of k2 (.inr rfl) ?_
  simp
  refine loop_of Nat (fun j => [(0, .adr (.r 10015) 0 0), (10015, .blk 1 [[.own 2 (fndR L)]]), (3, .ptr [slx b1 (ns.map nodC), slx b2 (ls.map lnkC)]), (4, .sl X), (5, .ref (.r 10080) 0 ns.length), (10080, .blk 1 (boolA ns.length (metB es j))), (19, .sl (es.map edK)), (20, .int .i64 es.length), (21, .int .i64 j)]) (fun j => j ≤ es.length) (fun j => es.length - j) 0 (by simp) (by simp [hrep]) ?_
  · intro j hj
    simp
    refine brB_of (fun h => ?_) (fun h => ?_) <;> simp at h
    · have hw : IntKind.wrap .i64 ((j : Int) + 1) = ((j + 1 : Nat) : Int) := wrap_i64 (by omega) (by omega)
      have hset := metB_set (n := ns.length) h
      have hin := hg es[j] (List.getElem_mem _)
      have hw : IntKind.wrap .i64 ((j : Int) + 1) = ((j + 1 : Nat) : Int) := wrap_i64 (by omega) (by omega)
      obtain ⟨i, e, hie⟩ : ∃ i e, es[j] = (i, e) := ⟨_, _, rfl⟩
      rw [hie] at hset hin
      simp at hset hin
      have hA : (boolA ns.length (metB es j))[i]'(by rw [boolA_len]; exact hin.1) = [D.bool (metB es j i)] := (List.getElem?_eq_some_iff.1 (boolA_get _ hin.1)).2
      have hB : ((boolA ns.length (metB es j)).set i [D.bool true])[e]'(by rw [List.length_set, boolA_len]; exact hin.2) = [D.bool (if e = i then true else metB es j e)] := by
        simp only [boolA_set]
        exact (List.getElem?_eq_some_iff.1 (boolA_get _ hin.2)).2
      simp [h, edK, knD, hie, hin.1, hin.2, boolA_len, hA, hB, hset, hw]
      exact ⟨indW_of (by decide +kernel), j + 1, by omega, by omega, rfl, by omega⟩
    · have ej : j = es.length := by omega
      subst ej
      simp [h]
      have hst : ∀ i, (L ++ flatF (stF ns es) i).length ≤ 2 ^ 30 + 3 * i := fun i => by
        have := flatF_len (stF_len ns es) i
        rw [List.length_append]; omega
      refine loop_of Nat (fun j => [(0, .adr (.r 10015) 0 0), (10015, .blk 1 [[.own 2 (fndR (L ++ flatF (stF ns es) j))]]), (3, .ptr [slx b1 (ns.map nodC), slx b2 (ls.map lnkC)]), (4, .sl X), (5, .ref (.r 10080) 0 ns.length), (10080, .blk 1 (boolA ns.length (metB es es.length))), (35, slx b1 (ns.map nodC)), (36, .int .i64 ns.length), (37, .int .i64 j)]) (fun j => j ≤ ns.length) (fun j => ns.length - j) 0 (by simp) (by simp [flatF_zero]) ?_
      intro j hj
      simp
      have hl0 := hst j
      have hfs := flatF_succ (stF ns es) j
      generalize hW : flatF (stF ns es) j = W at *
      refine brB_of (fun h => ?_) (fun h => ?_) <;> simp at h
      · have hw : IntKind.wrap .i64 ((j : Int) + 1) = ((j + 1 : Nat) : Int) := wrap_i64 (by omega) (by omega)
        have hme := boolA_get (metB es es.length) h
        have k3' := k3 j h
        have hsj : stF ns es j = one (wyB es j j) (1, nodNm ns j) ++ one (lostB ns es j) (3, nodNm ns j) ++ one (!metB es es.length j) (8, nodNm ns j) := rfl
        rw [nodNm_get h] at hsj
        simp [h, nodC, idxW_some (hXg j h), idxW_some (boolA_get (wyB es j) h)]
        refine brB_of (fun q1 => ?_) (fun q1 => ?_)
        · simp [q1]
          refine lndW_of (k4 _ 1 _ (by simp only [List.length_append, List.length_cons, List.length_nil] at *; omega)) (by simp) ?_
          simp
          refine callW_of (by simpa [nodC] using k3') (.inl rfl) ?_
          simp
          refine brB_of (fun q2 => ?_) (fun q2 => ?_)
          · simp [q2]
            refine lndW_of (k4 _ 3 _ (by simp only [List.length_append, List.length_cons, List.length_nil] at *; omega)) (by simp) ?_
            simp
            simp [rowW_some hme, hw, h]
            refine brB_of (fun q3 => ?_) (fun q3 => ?_)
            · simp [q3]
              refine lndW_of (k4 _ 8 _ (by simp only [List.length_append, List.length_cons, List.length_nil] at *; omega)) (by simp) ?_
              simp [hw]
              refine ⟨j + 1, by omega, by omega, ?_, by omega⟩; rw [hfs, hsj]; simp [one, q1, q2, q3]
            · simp [q3, hw]
              refine ⟨j + 1, by omega, by omega, ?_, by omega⟩; rw [hfs, hsj]; simp [one, q1, q2, q3]
          · simp [q2]
            simp [rowW_some hme, hw, h]
            refine brB_of (fun q3 => ?_) (fun q3 => ?_)
            · simp [q3]
              refine lndW_of (k4 _ 8 _ (by simp only [List.length_append, List.length_cons, List.length_nil] at *; omega)) (by simp) ?_
              simp [hw]
              refine ⟨j + 1, by omega, by omega, ?_, by omega⟩; rw [hfs, hsj]; simp [one, q1, q2, q3]
            · simp [q3, hw]
              refine ⟨j + 1, by omega, by omega, ?_, by omega⟩; rw [hfs, hsj]; simp [one, q1, q2, q3]
        · simp [q1]
          refine callW_of (by simpa [nodC] using k3') (.inl rfl) ?_
          simp
          refine brB_of (fun q2 => ?_) (fun q2 => ?_)
          · simp [q2]
            refine lndW_of (k4 _ 3 _ (by simp only [List.length_append, List.length_cons, List.length_nil] at *; omega)) (by simp) ?_
            simp
            simp [rowW_some hme, hw, h]
            refine brB_of (fun q3 => ?_) (fun q3 => ?_)
            · simp [q3]
              refine lndW_of (k4 _ 8 _ (by simp only [List.length_append, List.length_cons, List.length_nil] at *; omega)) (by simp) ?_
              simp [hw]
              refine ⟨j + 1, by omega, by omega, ?_, by omega⟩; rw [hfs, hsj]; simp [one, q1, q2, q3]
            · simp [q3, hw]
              refine ⟨j + 1, by omega, by omega, ?_, by omega⟩; rw [hfs, hsj]; simp [one, q1, q2, q3]
          · simp [q2]
            simp [rowW_some hme, hw, h]
            refine brB_of (fun q3 => ?_) (fun q3 => ?_)
            · simp [q3]
              refine lndW_of (k4 _ 8 _ (by simp only [List.length_append, List.length_cons, List.length_nil] at *; omega)) (by simp) ?_
              simp [hw]
              refine ⟨j + 1, by omega, by omega, ?_, by omega⟩; rw [hfs, hsj]; simp [one, q1, q2, q3]
            · simp [q3, hw]
              refine ⟨j + 1, by omega, by omega, ?_, by omega⟩; rw [hfs, hsj]; simp [one, q1, q2, q3]
      · have ej : j = ns.length := by omega
        subst ej
        simp [h]
        have hbt : ∀ i, (L ++ W ++ flatF (bkF ls) i).length ≤ 2 ^ 31 + i := fun i => by
          have := flatF_len (bkF_len ls) i
          simp only [List.length_append] at *; omega
        refine loop_of Nat (fun j => [(0, .adr (.r 10015) 0 0), (10015, .blk 1 [[.own 2 (fndR (L ++ W ++ flatF (bkF ls) j))]]), (72, slx b2 (ls.map lnkC)), (73, .int .i64 ls.length), (74, .int .i64 j)]) (fun j => j ≤ ls.length) (fun j => ls.length - j) 0 (by simp) (by simp [flatF_zero]) ?_
        intro j hj
        simp
        have hl0 := hbt j
        have hfs := flatF_succ (bkF ls) j
        generalize hW2 : flatF (bkF ls) j = W2 at *
        refine brB_of (fun h => ?_) (fun h => ?_) <;> simp at h
        · have hw : IntKind.wrap .i64 ((j : Int) + 1) = ((j + 1 : Nat) : Int) := wrap_i64 (by omega) (by omega)
          have hsj : bkF ls j = one (backB ls[j]) (2, ls[j].name) := by unfold bkF; rw [lnkNm_get h]; simp [h]
          simp [h, lnkC]
          refine callW_of (by simpa [lnkC] using k5 ls[j]) (.inr rfl) ?_
          simp
          refine brB_of (fun q1 => ?_) (fun q1 => ?_)
          · simp [q1]
            refine lndW_of (k4 _ 2 _ (by simp only [List.length_append] at *; omega)) (by simp) ?_
            simp [hw]
            refine ⟨j + 1, by omega, by omega, ?_, by omega⟩
            rw [hfs, hsj]; simp [one, q1]
          · simp [q1, hw]
            refine ⟨j + 1, by omega, by omega, ?_, by omega⟩
            rw [hfs, hsj]; simp [one, q1]
        · have ej : j = ls.length := by omega
          subst ej
          simp [h, hW, hW2]
end Go.Gv

set_option linter.unusedSimpArgs false
set_option maxRecDepth 4000
namespace Go.Gv
def edG (es : List Edg) (i : Nat) : Edg := es[i]?.getD (0, 0)
def lnG (ls : List Lnk) (i : Nat) : Lnk := ls[i]?.getD ⟨[], [], [], 0, 0, 0, 0, [], 0, 0, true, []⟩
def nodG (ns : List Nod) (i : Nat) : Nod := ns[i]?.getD ⟨[], 0, 0, 0, 0, 0, true, [], false, 0⟩
theorem edG_get {es : List Edg} {i : Nat} (h : i < es.length) : edG es i = es[i] := by simp [edG, h]
theorem lnG_get {ls : List Lnk} {i : Nat} (h : i < ls.length) : lnG ls i = ls[i] := by simp [lnG, h]
theorem nodG_get {ns : List Nod} {i : Nat} (h : i < ns.length) : nodG ns i = ns[i] := by simp [nodG, h]
def lvLo (k : Lnk) (a b : Nod) : Bool := if k.kind = 4 then decide (k.down < a.invert) else decide (k.up < a.invert) || (decide (k.kind = 1) && decide (k.down < b.invert))
def lvHi (k : Lnk) (a b : Nod) (h : Int) (known : Bool) : Bool :=
  if k.kind = 1 then known && (decide (a.ground < IntKind.wrap .i64 (k.up + h)) || decide (b.ground < IntKind.wrap .i64 (k.down + h)))
  else if k.kind = 3 then decide (a.ground < IntKind.wrap .i64 (k.up + k.height)) else decide (a.ground < k.up)
def narF (es : List Edg) (l : List Sec) (ls : List Lnk) (i j : Nat) : List Fnd := one (decide ((edG es j).2 = (edG es i).1) && decide (hgF l (lnG ls i) < hgF l (lnG ls j))) (7, lnkNm ls i)
def levF (ns : List Nod) (es : List Edg) (l : List Sec) (ls : List Lnk) (i : Nat) : List Fnd :=
  one (lvLo (lnG ls i) (nodG ns (edG es i).1) (nodG ns (edG es i).2)) (4, lnkNm ls i) ++ one (lvHi (lnG ls i) (nodG ns (edG es i).1) (nodG ns (edG es i).2) (hgF l (lnG ls i)) (decide (0 ≤ hgF l (lnG ls i)))) (5, lnkNm ls i) ++
  one (decide ((lnG ls i).kind = 1) && decide (hgF l (lnG ls i) < 0)) (6, lnkNm ls i) ++ (if hgF l (lnG ls i) < 0 then [] else flatF (narF es l ls i) ls.length)
theorem narF_len (es : List Edg) (l : List Sec) (ls : List Lnk) (i j : Nat) : (narF es l ls i j).length ≤ 1 := one_len _ _
theorem levF_len (ns : List Nod) (es : List Edg) (l : List Sec) (ls : List Lnk) (i : Nat) : (levF ns es l ls i).length ≤ 3 + ls.length := by
  unfold levF
  have := one_len (lvLo (lnG ls i) (nodG ns (edG es i).1) (nodG ns (edG es i).2)) ((4, lnkNm ls i) : Fnd)
  have := one_len (lvHi (lnG ls i) (nodG ns (edG es i).1) (nodG ns (edG es i).2) (hgF l (lnG ls i)) (decide (0 ≤ hgF l (lnG ls i)))) ((5, lnkNm ls i) : Fnd)
  have := one_len (decide ((lnG ls i).kind = 1) && decide (hgF l (lnG ls i) < 0)) ((6, lnkNm ls i) : Fnd)
  have h4 : (if hgF l (lnG ls i) < 0 then [] else flatF (narF es l ls i) ls.length).length ≤ ls.length := by
    split
    · simp
    · have := flatF_len (narF_len es l ls i) ls.length; omega
  simp only [List.length_append]; omega
noncomputable def lvlF (ns : List Nod) (ls : List Lnk) (l : List Sec) : List Fnd := flatF (levF ns (edgN ns ls) l ls) ls.length
/-- What stands behind the switch. -/
def lvTail : NCode := match N589_checker_notes_levels.body with
  | .seq _ (.seq _ (.seq _ (.seq _ (.block _ (.loop (.seq _ (.seq _ (.seq (.block _ (.seq _ (.seq _ (.seq _ (.seq _ t))))) _)))))))) => t
  | _ => .skip
/-- What stands behind the findings 4, 5, 6. -/
def lvTail7 : NCode := match lvTail with
  | .seq _ (.seq _ (.seq _ (.seq _ t))) => t
  | _ => .skip
variable {C : CC} (hC : Closed prog C)
include hC
set_option maxHeartbeats 4000000 in
theorem levels_c (b1 b2 b3 : Bool) (ns : List Nod) (ls : List Lnk) (l : List Sec) (hv : netOk ns ls = true) (hcv : ∀ l ∈ ls, l.curve.length < 2 ^ 62) (hll : l.length ≤ 40) (L : List Fnd) (hL : L.length < 2 ^ 30) : C 589 [.blk 1 [[.own 2 (fndR L)]], .agg [slx b1 (ns.map nodC), slx b2 (ls.map lnkC)], slx b3 (l.map secC)] (.tup []) [.blk 1 [[.own 2 (fndR (L ++ lvlF ns ls l))]]] := by
  have hn := (netOk_len hv).1
  have hl := (netOk_len hv).2
  have hg := edgN_in hv
  have hel := edgN_len ns ls
  have k1 := heights_c hC b1 b2 b3 ns ls l hl hll
  have k2 := ends_c hC b1 b2 ns ls hv hcv
  have k4 := add_c hC
  have hknd : ∀ (i : Nat) (h : i < ls.length), ls[i].kind = 1 ∨ ls[i].kind = 2 ∨ ls[i].kind = 3 ∨ ls[i].kind = 4 := fun i h => by
    have h0 := (netOk_lnk hv h).1
    simp only [linkOk, Bool.and_eq_true] at h0
    have h1 := h0.2
    unfold kindOk at h1
    by_cases e1 : ls[i].kind = 1
    · exact .inl e1
    by_cases e2 : ls[i].kind = 2
    · exact .inr (.inl e2)
    by_cases e3 : ls[i].kind = 3
    · exact .inr (.inr (.inl e3))
    by_cases e4 : ls[i].kind = 4
    · exact .inr (.inr (.inr e4))
    simp [e1, e2, e3, e4] at h1
  unfold lvlF
  generalize edgN ns ls = es at *
  obtain ⟨T, hT⟩ : ∃ T, T = lvTail := ⟨_, rfl⟩
  obtain ⟨T7, hT7⟩ : ∃ T, T = lvTail7 := ⟨_, rfl⟩
  simp [lvTail7, lvTail, N589_checker_notes_levels] at hT7
  simp [lvTail, N589_checker_notes_levels] at hT
  have tail7 : ∀ (j : Nat) (h : j < ls.length) (Q : NExit → Env → Prop) (kd : Int) (M1 M' : List Fnd), M1.length ≤ 2 ^ 31 + 2 →
      M' = M1 ++ flatF (narF es l ls j) ls.length →
      (endW Q ⟨⟩ .nrm [(0, .adr (.r 10015) 0 0), (4, .ptr [slx b1 (ns.map nodC), slx b2 (ls.map lnkC)]), (6, .sl (hgA l ls)), (7, .sl (es.map edK)), (8, .int .i64 j), (9, .adr (.r 10144) 0 0), (21, slx b2 (ls.map lnkC)), (22, .int .i64 ls.length), (23, .int .i64 j), (161, .int .i64 ls.length), (162, .int .i64 ls.length), (163, .bool false), (10015, .blk 1 [[.own 2 (fndR M')]]), (10144, .blk 11 [[.str ls[j].name, .str ls[j].src, .str ls[j].dst, .int .i64 kd, .int .i64 ls[j].len, .int .i64 ls[j].up, .int .i64 ls[j].down, .str ls[j].sect, .int .i64 ls[j].width, .int .i64 ls[j].height, slx ls[j].curveN (ls[j].curve.map knD)]])]) →
      wN C T7 Q ⟨⟩ [(0, .adr (.r 10015) 0 0), (4, .ptr [slx b1 (ns.map nodC), slx b2 (ls.map lnkC)]), (6, .sl (hgA l ls)), (7, .sl (es.map edK)), (8, .int .i64 j), (9, .adr (.r 10144) 0 0), (21, slx b2 (ls.map lnkC)), (22, .int .i64 ls.length), (23, .int .i64 j), (158, .bool false), (10015, .blk 1 [[.own 2 (fndR M1)]]), (10144, .blk 11 [[.str ls[j].name, .str ls[j].src, .str ls[j].dst, .int .i64 kd, .int .i64 ls[j].len, .int .i64 ls[j].up, .int .i64 ls[j].down, .str ls[j].sect, .int .i64 ls[j].width, .int .i64 ls[j].height, slx ls[j].curveN (ls[j].curve.map knD)]])] := by
    intro j h Q kd M1 M' hM1l hM' hQ
    have hgj := hgA_get l h
    have hje : j < es.length := by omega
    rw [hT7]
    simp
    refine loop_of Nat (fun k => [(0, .adr (.r 10015) 0 0), (4, .ptr [slx b1 (ns.map nodC), slx b2 (ls.map lnkC)]), (6, .sl (hgA l ls)), (7, .sl (es.map edK)), (8, .int .i64 j), (9, .adr (.r 10144) 0 0), (21, slx b2 (ls.map lnkC)), (22, .int .i64 ls.length), (23, .int .i64 j), (161, .int .i64 ls.length), (162, .int .i64 k), (10015, .blk 1 [[.own 2 (fndR (M1 ++ flatF (narF es l ls j) k))]]), (10144, .blk 11 [[.str ls[j].name, .str ls[j].src, .str ls[j].dst, .int .i64 kd, .int .i64 ls[j].len, .int .i64 ls[j].up, .int .i64 ls[j].down, .str ls[j].sect, .int .i64 ls[j].width, .int .i64 ls[j].height, slx ls[j].curveN (ls[j].curve.map knD)]])]) (fun k => k ≤ ls.length) (fun k => ls.length - k) 0 (by simp) (by simp [flatF_zero]) ?_
    intro k hk
    simp
    refine brB_of (fun h8 => ?_) (fun h8 => ?_) <;> simp at h8
    · have hke : k < es.length := by omega
      have hw8 : IntKind.wrap .i64 ((k : Int) + 1) = ((k + 1 : Nat) : Int) := wrap_i64 (by omega) (by omega)
      have hfk := flatF_succ (narF es l ls j) k
      have hsk : narF es l ls j k = one (decide (es[k].2 = es[j].1) && decide (hgF l ls[j] < hgF l ls[k])) (7, ls[j].name) := by unfold narF; rw [lnkNm_get h, edG_get hje, edG_get hke, lnG_get h, lnG_get h8]
      have hlk := flatF_len (narF_len es l ls j) k
      rw [hsk] at hfk
      have hgk := hgA_get l h8
      simp [h8, hke, hje, edK, knD, hgA_len, h]
      by_cases c1 : es[k].2 = es[j].1
      · simp [c1, h8, h, hke, hje, edK, knD, hgA_len, idxW_some hgj, idxW_some hgk]
        refine ⟨indW_of (by decide +kernel), ?_⟩
        refine brB_of (fun c2 => ?_) (fun c2 => ?_)
        · rw [c2]
          simp at c2
          simp [c2]
          refine lndW_of (k4 _ 7 _ (by (try simp only [List.length_append, List.length_cons, List.length_nil]); omega)) (by simp) ?_
          simp [hw8]
          exact ⟨k + 1, by omega, by omega, by omega, by rw [hfk]; simp [one, c1, c2]⟩
        · rw [c2]
          simp at c2
          simp [c2, hw8]
          exact ⟨k + 1, by omega, by omega, by omega, by rw [hfk]; simp [one, c1, Int.not_lt.2 c2]⟩
      · have c1' : ¬ (es[k].2 : Int) = es[j].1 := by omega
        simp [c1, c1', hw8]
        exact ⟨indW_of (by decide +kernel), k + 1, by omega, by omega, by omega, by rw [hfk]; simp [one, c1]⟩
    · have ek : k = ls.length := by omega
      subst ek
      simp [h8]
      subst hM'
      simpa using hQ
  have tail : ∀ (lo hi : Bool) (j : Nat) (h : j < ls.length) (Q : NExit → Env → Prop) (kd : Int) (M M' : List Fnd), M.length ≤ 2 ^ 31 →
      M' = M ++ one lo (4, ls[j].name) ++ one hi (5, ls[j].name) ++ one (decide (kd = 1) && decide (hgF l ls[j] < 0)) (6, ls[j].name) ++ (if hgF l ls[j] < 0 then [] else flatF (narF es l ls j) ls.length) →
      (endW Q ⟨⟩ .nrm [(0, .adr (.r 10015) 0 0), (4, .ptr [slx b1 (ns.map nodC), slx b2 (ls.map lnkC)]), (6, .sl (hgA l ls)), (7, .sl (es.map edK)), (8, .int .i64 j), (9, .adr (.r 10144) 0 0), (21, slx b2 (ls.map lnkC)), (22, .int .i64 ls.length), (23, .int .i64 j), (161, .int .i64 ls.length), (162, .int .i64 ls.length), (163, .bool false), (10015, .blk 1 [[.own 2 (fndR M')]]), (10144, .blk 11 [[.str ls[j].name, .str ls[j].src, .str ls[j].dst, .int .i64 kd, .int .i64 ls[j].len, .int .i64 ls[j].up, .int .i64 ls[j].down, .str ls[j].sect, .int .i64 ls[j].width, .int .i64 ls[j].height, slx ls[j].curveN (ls[j].curve.map knD)]])]) →
      (endW Q ⟨⟩ (.ext 1) [(0, .adr (.r 10015) 0 0), (4, .ptr [slx b1 (ns.map nodC), slx b2 (ls.map lnkC)]), (6, .sl (hgA l ls)), (7, .sl (es.map edK)), (8, .int .i64 j), (9, .adr (.r 10144) 0 0), (21, slx b2 (ls.map lnkC)), (22, .int .i64 ls.length), (23, .int .i64 j), (158, .bool true), (10015, .blk 1 [[.own 2 (fndR M')]]), (10144, .blk 11 [[.str ls[j].name, .str ls[j].src, .str ls[j].dst, .int .i64 kd, .int .i64 ls[j].len, .int .i64 ls[j].up, .int .i64 ls[j].down, .str ls[j].sect, .int .i64 ls[j].width, .int .i64 ls[j].height, slx ls[j].curveN (ls[j].curve.map knD)]])]) →
      wN C T Q ⟨⟩ [(0, .adr (.r 10015) 0 0), (4, .ptr [slx b1 (ns.map nodC), slx b2 (ls.map lnkC)]), (6, .sl (hgA l ls)), (7, .sl (es.map edK)), (8, .int .i64 j), (9, .adr (.r 10144) 0 0), (12, .bool lo), (13, .bool hi), (21, slx b2 (ls.map lnkC)), (22, .int .i64 ls.length), (23, .int .i64 j), (10015, .blk 1 [[.own 2 (fndR M)]]), (10144, .blk 11 [[.str ls[j].name, .str ls[j].src, .str ls[j].dst, .int .i64 kd, .int .i64 ls[j].len, .int .i64 ls[j].up, .int .i64 ls[j].down, .str ls[j].sect, .int .i64 ls[j].width, .int .i64 ls[j].height, slx ls[j].curveN (ls[j].curve.map knD)]])] := by
    intro lo hi j h Q kd M M' hM hM' hQ hX
    have hgj := hgA_get l h
    have hje : j < es.length := by omega
    obtain ⟨M1, hM1⟩ : ∃ M1, M1 = M ++ one lo (4, ls[j].name) ++ one hi (5, ls[j].name) := ⟨_, rfl⟩
    have hM1l : M1.length ≤ 2 ^ 31 + 2 := by
      rw [hM1]
      have := one_len lo ((4, ls[j].name) : Fnd)
      have := one_len hi ((5, ls[j].name) : Fnd)
      simp only [List.length_append]; omega
    rw [hT, ← hT7]
    simp
    refine brB_of (fun q1 => ?_) (fun q1 => ?_)
    · simp [q1]
      refine lndW_of (k4 _ 4 _ (by (try simp only [List.length_append, List.length_cons, List.length_nil]); omega)) (by simp) ?_
      simp
      refine brB_of (fun q2 => ?_) (fun q2 => ?_)
      · simp [q2]
        refine lndW_of (k4 _ 5 _ (by (try simp only [List.length_append, List.length_cons, List.length_nil]); omega)) (by simp) ?_
        simp
        by_cases q3 : kd = 1
        · simp [q3, h, hgA_len, idxW_some hgj]
          by_cases q4 : hgF l ls[j] < 0
          · simp [q4]
            refine lndW_of (k4 _ 6 _ (by (try simp only [List.length_append, List.length_cons, List.length_nil]); omega)) (by simp) ?_
            simp [h, hgA_len, idxW_some hgj, q4]
            subst hM'
            simpa [one, q3, q4, q1, q2] using hX
          · simp [q4, h, hgA_len, idxW_some hgj]
            refine tail7 j h _ kd M1 M' hM1l (by rw [hM', hM1]; simp [one, q3, q4]) (by simpa [q3] using hQ) |> fun x => ?_
            simpa [hM1, one, q1, q2, q3, q4] using x
        · simp [q3, h, hgA_len, idxW_some hgj]
          by_cases q4 : hgF l ls[j] < 0
          · simp [q4]; subst hM'; simpa [one, q3, q4, q1, q2] using hX
          · simp [q4]
            refine tail7 j h _ kd M1 M' hM1l (by rw [hM', hM1]; simp [one, q3, q4]) (by simpa [q3] using hQ) |> fun x => ?_
            simpa [hM1, one, q1, q2, q3, q4] using x
      · simp [q2]
        by_cases q3 : kd = 1
        · simp [q3, h, hgA_len, idxW_some hgj]
          by_cases q4 : hgF l ls[j] < 0
          · simp [q4]
            refine lndW_of (k4 _ 6 _ (by (try simp only [List.length_append, List.length_cons, List.length_nil]); omega)) (by simp) ?_
            simp [h, hgA_len, idxW_some hgj, q4]
            subst hM'
            simpa [one, q3, q4, q1, q2] using hX
          · simp [q4, h, hgA_len, idxW_some hgj]
            refine tail7 j h _ kd M1 M' hM1l (by rw [hM', hM1]; simp [one, q3, q4]) (by simpa [q3] using hQ) |> fun x => ?_
            simpa [hM1, one, q1, q2, q3, q4] using x
        · simp [q3, h, hgA_len, idxW_some hgj]
          by_cases q4 : hgF l ls[j] < 0
          · simp [q4]; subst hM'; simpa [one, q3, q4, q1, q2] using hX
          · simp [q4]
            refine tail7 j h _ kd M1 M' hM1l (by rw [hM', hM1]; simp [one, q3, q4]) (by simpa [q3] using hQ) |> fun x => ?_
            simpa [hM1, one, q1, q2, q3, q4] using x
    · simp [q1]
      refine brB_of (fun q2 => ?_) (fun q2 => ?_)
      · simp [q2]
        refine lndW_of (k4 _ 5 _ (by (try simp only [List.length_append, List.length_cons, List.length_nil]); omega)) (by simp) ?_
        simp
        by_cases q3 : kd = 1
        · simp [q3, h, hgA_len, idxW_some hgj]
          by_cases q4 : hgF l ls[j] < 0
          · simp [q4]
            refine lndW_of (k4 _ 6 _ (by (try simp only [List.length_append, List.length_cons, List.length_nil]); omega)) (by simp) ?_
            simp [h, hgA_len, idxW_some hgj, q4]
            subst hM'
            simpa [one, q3, q4, q1, q2] using hX
          · simp [q4, h, hgA_len, idxW_some hgj]
            refine tail7 j h _ kd M1 M' hM1l (by rw [hM', hM1]; simp [one, q3, q4]) (by simpa [q3] using hQ) |> fun x => ?_
            simpa [hM1, one, q1, q2, q3, q4] using x
        · simp [q3, h, hgA_len, idxW_some hgj]
          by_cases q4 : hgF l ls[j] < 0
          · simp [q4]; subst hM'; simpa [one, q3, q4, q1, q2] using hX
          · simp [q4]
            refine tail7 j h _ kd M1 M' hM1l (by rw [hM', hM1]; simp [one, q3, q4]) (by simpa [q3] using hQ) |> fun x => ?_
            simpa [hM1, one, q1, q2, q3, q4] using x
      · simp [q2]
        by_cases q3 : kd = 1
        · simp [q3, h, hgA_len, idxW_some hgj]
          by_cases q4 : hgF l ls[j] < 0
          · simp [q4]
            refine lndW_of (k4 _ 6 _ (by (try simp only [List.length_append, List.length_cons, List.length_nil]); omega)) (by simp) ?_
            simp [h, hgA_len, idxW_some hgj, q4]
            subst hM'
            simpa [one, q3, q4, q1, q2] using hX
          · simp [q4, h, hgA_len, idxW_some hgj]
            refine tail7 j h _ kd M1 M' hM1l (by rw [hM', hM1]; simp [one, q3, q4]) (by simpa [q3] using hQ) |> fun x => ?_
            simpa [hM1, one, q1, q2, q3, q4] using x
        · simp [q3, h, hgA_len, idxW_some hgj]
          by_cases q4 : hgF l ls[j] < 0
          · simp [q4]; subst hM'; simpa [one, q3, q4, q1, q2] using hX
          · simp [q4]
            refine tail7 j h _ kd M1 M' hM1l (by rw [hM', hM1]; simp [one, q3, q4]) (by simpa [q3] using hQ) |> fun x => ?_
            simpa [hM1, one, q1, q2, q3, q4] using x
  refine startL hC (nf := N589_checker_notes_levels) rfl rfl ?_
  simp [N589_checker_notes_levels]
  refine callW_of k1 (.inr rfl) ?_
  simp
  refine callW_of k2 (.inr rfl) ?_
  simp
  refine loop_of Nat (fun j => [(0, .adr (.r 10015) 0 0), (10015, .blk 1 [[.own 2 (fndR (L ++ flatF (levF ns es l ls) j))]]), (4, .ptr [slx b1 (ns.map nodC), slx b2 (ls.map lnkC)]), (6, .sl (hgA l ls)), (7, .sl (es.map edK)), (21, slx b2 (ls.map lnkC)), (22, .int .i64 ls.length), (23, .int .i64 j)]) (fun j => j ≤ ls.length) (fun j => ls.length - j) 0 (by simp) (by simp [flatF_zero]) ?_
  intro j hj
  simp
  refine brB_of (fun h => ?_) (fun h => ?_) <;> simp at h
  · have hje : j < es.length := by omega
    have hin := hg es[j] (List.getElem_mem _)
    obtain ⟨a, b, hab⟩ : ∃ a b, es[j] = (a, b) := ⟨_, _, rfl⟩
    rw [hab] at hin
    simp at hin
    simp [h, hje, lnkC, hab, edK, knD, hin.1, hin.2, nodC]
    refine ⟨indW_of (by decide +kernel), ?_⟩
    rw [← hT]
    have hw : IntKind.wrap .i64 ((j : Int) + 1) = ((j + 1 : Nat) : Int) := wrap_i64 (by omega) (by omega)
    have hgj := hgA_get l h
    have hfs := flatF_succ (levF ns es l ls) j
    have hfl := flatF_len (levF_len ns es l ls) j
    have hjm : (3 + ls.length) * j ≤ 403 * 400 := Nat.mul_le_mul (by omega) (by omega)
    have hlv : levF ns es l ls j = one (lvLo ls[j] ns[a] ns[b]) (4, ls[j].name) ++ one (lvHi ls[j] ns[a] ns[b] (hgF l ls[j]) (decide (0 ≤ hgF l ls[j]))) (5, ls[j].name) ++ one (decide (ls[j].kind = 1) && decide (hgF l ls[j] < 0)) (6, ls[j].name) ++ (if hgF l ls[j] < 0 then [] else flatF (narF es l ls j) ls.length) := by
      unfold levF
      rw [lnkNm_get h, edG_get hje, lnG_get h, hab]
      simp only
      rw [nodG_get hin.1, nodG_get hin.2]
    have hM0 : (L ++ flatF (levF ns es l ls) j).length ≤ 2 ^ 31 := by rw [List.length_append]; omega
    have hk4 := hknd j h
    refine brB_of (fun c1 => ?_) (fun c1 => ?_) <;> simp at c1
    · simp [c1]
      by_cases p1 : ls[j].up < ns[a].invert
      · simp [p1, c1, h, hgA_len, idxW_some hgj]
        by_cases p2 : 0 ≤ hgF l ls[j]
        · simp [p2, h, hgA_len, idxW_some hgj]
          by_cases p3 : ns[a].ground < IntKind.wrap .i64 (ls[j].up + hgF l ls[j])
          · simp [p3, p2, h, hgA_len, idxW_some hgj]
            refine ⟨indW_of (by decide +kernel), ?_⟩
            refine tail _ _ j h _ 1 _ (L ++ flatF (levF ns es l ls) (j + 1)) hM0 (by rw [hfs, hlv]; simp [lvLo, lvHi, *]) ?_ ?_ <;> (simp [hw]; exact ⟨j + 1, by omega, by omega, rfl, by omega⟩)
          · simp [p3, p2, h, hgA_len, idxW_some hgj]
            refine ⟨indW_of (by decide +kernel), ?_⟩
            refine tail _ _ j h _ 1 _ (L ++ flatF (levF ns es l ls) (j + 1)) hM0 (by rw [hfs, hlv]; simp [lvLo, lvHi, *]) ?_ ?_ <;> (simp [hw]; exact ⟨j + 1, by omega, by omega, rfl, by omega⟩)
        · simp [p2]
          refine ⟨indW_of (by decide +kernel), ?_⟩
          refine tail _ _ j h _ 1 _ (L ++ flatF (levF ns es l ls) (j + 1)) hM0 (by rw [hfs, hlv]; simp [lvLo, lvHi, *]) ?_ ?_ <;> (simp [hw]; exact ⟨j + 1, by omega, by omega, rfl, by omega⟩)
      · simp [p1, c1, h, hgA_len, idxW_some hgj]
        by_cases p2 : 0 ≤ hgF l ls[j]
        · simp [p2, h, hgA_len, idxW_some hgj]
          by_cases p3 : ns[a].ground < IntKind.wrap .i64 (ls[j].up + hgF l ls[j])
          · simp [p3, p2, h, hgA_len, idxW_some hgj]
            refine ⟨indW_of (by decide +kernel), ?_⟩
            refine tail _ _ j h _ 1 _ (L ++ flatF (levF ns es l ls) (j + 1)) hM0 (by rw [hfs, hlv]; simp [lvLo, lvHi, *]) ?_ ?_ <;> (simp [hw]; exact ⟨j + 1, by omega, by omega, rfl, by omega⟩)
          · simp [p3, p2, h, hgA_len, idxW_some hgj]
            refine ⟨indW_of (by decide +kernel), ?_⟩
            refine tail _ _ j h _ 1 _ (L ++ flatF (levF ns es l ls) (j + 1)) hM0 (by rw [hfs, hlv]; simp [lvLo, lvHi, *]) ?_ ?_ <;> (simp [hw]; exact ⟨j + 1, by omega, by omega, rfl, by omega⟩)
        · simp [p2]
          refine ⟨indW_of (by decide +kernel), ?_⟩
          refine tail _ _ j h _ 1 _ (L ++ flatF (levF ns es l ls) (j + 1)) hM0 (by rw [hfs, hlv]; simp [lvLo, lvHi, *]) ?_ ?_ <;> (simp [hw]; exact ⟨j + 1, by omega, by omega, rfl, by omega⟩)
    · simp [c1]
      refine brB_of (fun c2 => ?_) (fun c2 => ?_) <;> simp at c2
      · simp [c1, c2]
        refine ⟨indW_of (by decide +kernel), ?_⟩
        refine tail _ _ j h _ 2 _ (L ++ flatF (levF ns es l ls) (j + 1)) hM0 (by rw [hfs, hlv]; simp [lvLo, lvHi, *]) ?_ ?_ <;> (simp [hw]; exact ⟨j + 1, by omega, by omega, rfl, by omega⟩)
      · simp [c2]
        refine brB_of (fun c3 => ?_) (fun c3 => ?_) <;> simp at c3
        · simp [c1, c2, c3]
          refine ⟨indW_of (by decide +kernel), ?_⟩
          refine tail _ _ j h _ 3 _ (L ++ flatF (levF ns es l ls) (j + 1)) hM0 (by rw [hfs, hlv]; simp [lvLo, lvHi, *]) ?_ ?_ <;> (simp [hw]; exact ⟨j + 1, by omega, by omega, rfl, by omega⟩)
        · have c4 : ls[j].kind = 4 := by omega
          simp [c1, c2, c3, c4]
          refine ⟨indW_of (by decide +kernel), ?_⟩
          refine tail _ _ j h _ 4 _ (L ++ flatF (levF ns es l ls) (j + 1)) hM0 (by rw [hfs, hlv]; simp [lvLo, lvHi, *]) ?_ ?_ <;> (simp [hw]; exact ⟨j + 1, by omega, by omega, rfl, by omega⟩)
  · have ej : j = ls.length := by omega
    subst ej
    simp [h]
end Go.Gv

set_option linter.unusedSimpArgs false
set_option maxRecDepth 4000
namespace Go.Gv
theorem fndR_V (L : List Fnd) : List.map (fun e => List.map cellV e) (fndR L) = fndR L := by
  unfold fndR
  rw [List.map_map]
  apply List.map_congr_left
  intro v _
  simp [fndC, cellV]
theorem strF_len (ns : List Nod) (ls : List Lnk) : (strF ns ls).length ≤ 3 * ns.length + ls.length := by
  unfold strF
  have := flatF_len (stF_len ns (edgN ns ls)) ns.length
  have := flatF_len (bkF_len ls) ls.length
  rw [List.length_append]; omega
theorem lvlF_len (ns : List Nod) (ls : List Lnk) (l : List Sec) : (lvlF ns ls l).length ≤ (3 + ls.length) * ls.length := flatF_len (levF_len ns (edgN ns ls) l ls) ls.length
noncomputable def chkL (ns : List Nod) (ls : List Lnk) (l : List Sec) : List Fnd := canL fcmp (strF ns ls ++ lvlF ns ls l)
noncomputable def lvlL (ns : List Nod) (ls : List Lnk) (l : List Sec) : List Fnd := canL fcmp (lvlF ns ls l)
variable {C : CC} (hC : Closed prog C)
include hC
set_option maxHeartbeats 2000000 in
theorem ChkN_c (hS : SlC C) (hK : ChkC C) (b1 b2 b3 : Bool) (ns : List Nod) (ls : List Lnk) (l : List Sec) (hcv : ∀ l ∈ ls, l.curve.length < 2 ^ 62) : C 543 [.agg [slx b1 (ns.map nodC), slx b2 (ls.map lnkC)], slx b3 (l.map secC)] (.tup (if netOk ns ls && useB l then [.sl (fndR (chkL ns ls l)), .int .i64 0] else [.nils, .int .i64 1])) [] := by
  have k0 := cvalid_c hC b1 b2 b3 ns ls l hcv
  refine start hC (nf := N543_checker_Check) rfl rfl ?_
  simp [N543_checker_Check]
  refine callW_of k0 (.inl rfl) ?_
  cases hv : (netOk ns ls && useB l)
  · simp
  obtain ⟨hv1, hv2⟩ := Bool.and_eq_true_iff.1 hv
  obtain ⟨l1, l2⟩ := netOk_len hv1
  have hll : l.length ≤ 40 := by
    simp only [useB, Bool.and_eq_true, decide_eq_true_eq] at hv2
    exact hv2.1.1
  have hsl := strF_len ns ls
  have hvl := lvlF_len ns ls l
  have hml : (3 + ls.length) * ls.length ≤ 403 * 400 := Nat.mul_le_mul (by omega) (by omega)
  have k1 := structure_c hC hS b1 b2 ns ls hv1 hcv [] (by simp)
  have k2 := levels_c hC b1 b2 b3 ns ls l hv1 hcv hll (strF ns ls) (by omega)
  have e0 : fndR [] = [] := rfl
  rw [e0, List.nil_append] at k1
  have k3 := sortF_c hC hK (strF ns ls ++ lvlF ns ls l) (by rw [List.length_append]; omega)
  unfold chkL
  generalize strF ns ls = A at *
  generalize lvlF ns ls l = B at *
  simp
  refine lndW_of k1 (by simp) ?_
  simp
  refine lndW_of k2 (by simp) ?_
  simp
  refine ⟨fndC_isF _, ?_⟩
  refine eatW_of k3 (fun e he => ⟨fndC_len _ e he, fndC_isF _ e he⟩) ?_
  simp [fndR_len, fndR_V]
  exact (List.take_of_length_le (by rw [fndR_len]; exact Nat.le_refl _)).symm
end Go.Gv

set_option linter.unusedSimpArgs false
namespace Go.Gv
def bigN27 (n : Nod) : Bool := decide (20 < n.shape.length) || decide (60 < n.name.length)
def bigL27 (l : Lnk) : Bool := decide (20 < l.curve.length) || decide (60 < l.name.length) || decide (60 < l.src.length) || decide (60 < l.dst.length) || decide (60 < l.sect.length)
def bigS27 (s : Sec) : Bool := decide (20 < s.area.length) || decide (20 < s.conv.length) || decide (60 < s.name.length)
def large27 (ns : List Nod) (ls : List Lnk) : Bool := decide (14 < ns.length) || decide (16 < ls.length) || ns.any bigN27 || ls.any bigL27
def many27 (l : List Sec) : Bool := decide (8 < l.length) || l.any bigS27
def ex27N : List Nod := [⟨[109], 1, 0, 0, 0, 1000, false, [(0, 0), (1000, 900)], false, 0⟩, ⟨[111], 3, 0, 0, 0, 1000, true, [], false, 0⟩]
def ex27L : List Lnk := [⟨[97], [109], [111], 1, 100, 10, 20, [115], 0, 0, true, []⟩]
theorem large27_cv {ns : List Nod} {ls : List Lnk} (h : large27 ns ls = false) : ns.length ≤ 14 ∧ ls.length ≤ 16 ∧ ∀ l ∈ ls, l.curve.length ≤ 20 := by
  simp only [large27, Bool.or_eq_false_iff, decide_eq_false_iff_not, List.any_eq_false] at h
  refine ⟨by omega, by omega, fun l hl => ?_⟩
  have := h.2 l hl
  simp only [bigL27, Bool.or_eq_true, decide_eq_true_eq, not_or] at this
  omega
variable {C : CC} (hC : Closed prog C)
include hC
theorem bigN27_c (n : Nod) : C 584 [.agg (nodC n)] (.bool (bigN27 n)) [] := by
  refine start hC (nf := N584_law27_large_1) rfl rfl ?_
  simp [N584_law27_large_1, nodC]
  unfold bigN27
  by_cases h1 : (20 : Int) < n.shape.length
  · simp [h1, show 20 < n.shape.length by omega]
  · simp [h1, show ¬ 20 < n.shape.length by omega]
    omega
theorem bigL27_c (l : Lnk) : C 585 [.agg (lnkC l)] (.bool (bigL27 l)) [] := by
  refine start hC (nf := N585_law27_large_2) rfl rfl ?_
  simp [N585_law27_large_2, lnkC]
  unfold bigL27
  by_cases h1 : (20 : Int) < l.curve.length
  · simp [h1, show 20 < l.curve.length by omega]
  by_cases h2 : (60 : Int) < l.name.length
  · simp [h1, h2, show 60 < l.name.length by omega]
  by_cases h3 : (60 : Int) < l.src.length
  · simp [h1, h2, h3, show 60 < l.src.length by omega]
  by_cases h4 : (60 : Int) < l.dst.length
  · simp [h1, h2, h3, h4, show 60 < l.dst.length by omega]
  simp [h1, h2, h3, h4, show ¬ 20 < l.curve.length by omega, show ¬ 60 < l.name.length by omega, show ¬ 60 < l.src.length by omega, show ¬ 60 < l.dst.length by omega]
  omega
theorem bigS27_c (s : Sec) : C 586 [.agg (secC s)] (.bool (bigS27 s)) [] := by
  refine start hC (nf := N586_law27_many_1) rfl rfl ?_
  simp [N586_law27_many_1, secC]
  unfold bigS27
  by_cases h1 : (20 : Int) < s.area.length
  · simp [h1, show 20 < s.area.length by omega]
  by_cases h2 : (20 : Int) < s.conv.length
  · simp [h1, h2, show 20 < s.conv.length by omega]
  simp [h1, h2, show ¬ 20 < s.area.length by omega, show ¬ 20 < s.conv.length by omega]
  omega
theorem large27_c (b1 b2 : Bool) (ns : List Nod) (ls : List Lnk) (h1 : ns.length < 2 ^ 62) (h2 : ls.length < 2 ^ 62) : C 541 [.agg [slx b1 (ns.map nodC), slx b2 (ls.map lnkC)]] (.bool (large27 ns ls)) [] := by
  have k1 := hasNod_c hC (b := b1) (xs := ns) (g := 584) (cs := []) bigN27 h1 (fun x _ => bigN27_c hC x)
  have k2 := hasLnk_c hC (b := b2) (xs := ls) (g := 585) (cs := []) bigL27 h2 (fun x _ => bigL27_c hC x)
  refine start hC (nf := N541_law27_large) rfl rfl ?_
  simp [N541_law27_large]
  unfold large27
  by_cases c1 : (14 : Int) < ns.length
  · simp [c1, show 14 < ns.length by omega]
  by_cases c2 : (16 : Int) < ls.length
  · simp [c1, c2, show 16 < ls.length by omega]
  have c1' : decide (14 < ns.length) = false := decide_eq_false (by omega)
  have c2' : decide (16 < ls.length) = false := decide_eq_false (by omega)
  rw [c1', c2']
  simp [c1, c2]
  refine callW_of k1 (.inl rfl) ?_
  cases d1 : ns.any bigN27
  · simp
    refine callW_of k2 (.inl rfl) ?_
    simp
  · simp
theorem many27_c (b : Bool) (l : List Sec) (h : l.length < 2 ^ 62) : C 542 [slx b (l.map secC)] (.bool (many27 l)) [] := by
  have k1 := hasSec_c hC (b := b) (xs := l) (g := 586) (cs := []) bigS27 h (fun x _ => bigS27_c hC x)
  refine start hC (nf := N542_law27_many) rfl rfl ?_
  simp [N542_law27_many]
  unfold many27
  by_cases c1 : (8 : Int) < l.length
  · simp [c1, show 8 < l.length by omega]
  have c1' : decide (8 < l.length) = false := decide_eq_false (by omega)
  rw [c1']
  simp [c1]
  refine callW_of k1 (.inl rfl) ?_
  simp
theorem ex27_c : C 583 [] (.agg [.sl (ex27N.map nodC), .sl (ex27L.map lnkC)]) [] := by
  have e0 : slx true ([] : List (List D)) = .nils := rfl
  refine start hC (nf := N583_law27_example) rfl rfl ?_
  simp [N583_law27_example, ex27N, ex27L, nodC, lnkC, knD]
  rfl
theorem eqFnd_c (b b' : Bool) (xs ys : List Fnd) (hx : xs.length < 2 ^ 62) (hy : ys.length < 2 ^ 62) : C 147 [slx b (fndR xs), slx b' (fndR ys)] (.bool (decide (xs = ys))) [] := by
  obtain ⟨r, hr⟩ : ∃ r, r = decide (xs = ys) := ⟨_, rfl⟩
  rw [← hr]
  refine start hC (nf := N147_slices_Equal__api_Finding_api_Finding) rfl rfl ?_
  simp [N147_slices_Equal__api_Finding_api_Finding, fndR]
  refine brB_of (fun h => ?_) (fun h => ?_) <;> simp at h <;> simp [h]
  · rw [hr, decide_eq_false]
    intro e
    exact h (by rw [e])
  have h' : xs.length = ys.length := by omega
  refine loop_of Nat (fun i => [(0, slx b (xs.map fndC)), (1, slx b' (ys.map fndC)), (12, .int .i64 xs.length), (13, .int .i64 i)])
    (fun i => i ≤ xs.length ∧ ∀ (k : Nat) (h1 : k < xs.length) (h2 : k < ys.length), k < i → xs[k] = ys[k]) (fun i => xs.length - i) 0 (by simp) (by simp [h']) ?_
  rintro i ⟨hi, hok⟩
  simp
  refine brB_of (fun h1 => ?_) (fun h1 => ?_) <;> simp at h1 <;> simp [h1]
  · have hw : IntKind.wrap .i64 ((i : Int) + 1) = ((i + 1 : Nat) : Int) := wrap_i64 (by omega) (by omega)
    have hy1 : i < ys.length := by omega
    simp [h1, hy1, fndC]
    refine ⟨indW_of (by decide +kernel), ?_⟩
    by_cases h2 : xs[i] = ys[i]
    · simp [h2, hw]
      refine ⟨i + 1, ⟨by omega, fun k k1 k2 hk => ?_⟩, by omega, rfl⟩
      rcases Nat.lt_succ_iff_lt_or_eq.1 hk with h5 | rfl
      · exact hok k k1 k2 h5
      · exact h2
    · have h3 : ¬ (xs[i].1 = ys[i].1 ∧ xs[i].2 = ys[i].2) := fun e => h2 (Prod.ext e.1 e.2)
      refine brB_of (fun h4 => ?_) (fun h4 => ?_) <;> simp at h4 <;> simp [h4]
      · rw [hr, decide_eq_false]
        intro e
        exact h2 (by simp [e])
      · exact absurd h4 h3
  · rw [hr, decide_eq_true]
    exact List.ext_getElem h' fun k k1 k2 => hok k k1 k2 (by omega)
end Go.Gv

set_option linter.unusedSimpArgs false
namespace Go.Gv
theorem ex27_edg : edgN ex27N ex27L = [(0, 1)] := by decide +kernel
theorem ex27_ok : (netOk ex27N ex27L && useB []) = true := by decide +kernel
theorem pth01 {k : Nat} (h : Pth [(0, 1)] 1 k) : k = 1 := by
  cases h with
  | refl => rfl
  | step e _ => simp at e
theorem wy01 (i k : Nat) : wyB [(0, 1)] i k = (decide (i = 0) && decide (k = 1)) := by
  rw [Bool.eq_iff_iff, wyB_iff]
  simp only [Bool.and_eq_true, decide_eq_true_eq]
  constructor
  · rintro ⟨s, h1, h2⟩
    simp at h1
    obtain ⟨rfl, rfl⟩ := h1
    exact ⟨rfl, pth01 h2⟩
  · rintro ⟨rfl, rfl⟩
    exact ⟨1, by simp, .refl 1⟩
theorem ex27_str : strF ex27N ex27L = [(2, [97])] := by
  unfold strF
  rw [ex27_edg]
  have e1 : stF ex27N [(0, 1)] = fun i => one (decide (i = 0) && decide (i = 1)) (1, nodNm ex27N i) ++ one (!decide (nodK ex27N i = 3) && !((List.range ex27N.length).any fun k => (decide (i = 0) && decide (k = 1)) && decide (nodK ex27N k = 3))) (3, nodNm ex27N i) ++ one (!metB [(0, 1)] 1 i) (8, nodNm ex27N i) := by
    funext i
    unfold stF lostB
    simp only [wy01, List.length_cons, List.length_nil]
  rw [e1]
  decide +kernel
theorem ex27_lvl : lvlF ex27N ex27L [] = [(6, [97])] := by
  unfold lvlF
  rw [ex27_edg]
  decide +kernel
theorem ex27_chk : chkL ex27N ex27L [] = [(2, [97]), (6, [97])] := by
  unfold chkL
  rw [ex27_str, ex27_lvl]
  refine canL_eq fcmp_tc ?_ fun x => Iff.rfl
  refine List.pairwise_cons.2 ⟨fun y hy => ?_, List.pairwise_singleton _ _⟩
  simp at hy
  subst hy
  decide +kernel
variable {C : CC} (hC : Closed prog C)
include hC
theorem awake27_c (hS : SlC C) (hK : ChkC C) : C 540 [] (.bool true) [] := by
  have k1 := ex27_c hC
  have k2 := ChkN_c hC hS hK false false true ex27N ex27L [] (by decide)
  have k3 := Adverse_c hC false false ex27N ex27L (by decide)
  rw [ex27_ok, ex27_chk] at k2
  have e1 : netOk ex27N ex27L = true := (Bool.and_eq_true_iff.1 ex27_ok).1
  have e2 : lmT ex27L backB ex27L.length = [[97]] := by decide +kernel
  rw [e1, e2] at k3
  simp only [slx_false, if_true] at k2 k3
  have e3 : slx true (([] : List Sec).map secC) = .nils := rfl
  rw [e3] at k2
  have k4 := eqFnd_c hC false false [(2, [97]), (6, [97])] [(2, [97]), (6, [97])] (by simp) (by simp)
  have k5 := eqStr_c hC false false [[97]] [[97]] (by simp) (by simp)
  simp only [slx_false] at k4 k5
  have f1 : fndR [(2, [97]), (6, [97])] = [[.int .i64 2, .str [97]], [.int .i64 6, .str [97]]] := rfl
  have f2 : strR [[97]] = [[.str [97]]] := rfl
  rw [f1] at k2 k4
  rw [f2] at k3 k5
  generalize ex27N.map nodC = X at *
  generalize ex27L.map lnkC = Y at *
  refine start hC (nf := N540_law27_awake) rfl rfl ?_
  simp [N540_law27_awake]
  refine callW_of k1 (.inr rfl) ?_
  simp
  refine callW_of k2 (.inr rfl) ?_
  simp
  refine callW_of k1 (.inr rfl) ?_
  simp
  refine callW_of k3 (.inr rfl) ?_
  simp
  refine callW_of k4 (.inl rfl) ?_
  simp
  refine callW_of k5 (.inl rfl) ?_
  simp
end Go.Gv

set_option linter.unusedSimpArgs false
namespace Go.Gv
/-- The nodes on one loop with a node, so far as they are known. -/
def lpM (R : Nat → Nat → Bool) (i k : Nat) : List Nat := (List.range k).filter fun k' => mutB R i k'
def lpE (R : Nat → Nat → Bool) (i k v : Nat) : Bool := lpDone R i v || (decide (v < k) && mutB R i v)
variable {C : CC} (hC : Closed prog C)
include hC
end Go.Gv

set_option linter.unusedSimpArgs false
namespace Go.Gv
variable {C : CC} (hC : Closed prog C)
include hC
end Go.Gv

set_option linter.unusedSimpArgs false
namespace Go.Gv
open Go.Lib
theorem canL_len {α : Type} [DecidableEq α] (c : α → α → Int) (M : List α) : (canL c M).length ≤ M.length := by
  unfold canL
  exact Nat.le_trans (ddL_len _) (by rw [srtL_len]; exact Nat.le_refl _)
variable {C : CC} (hC : Closed prog C)
include hC
end Go.Gv

set_option linter.unusedSimpArgs false
set_option maxRecDepth 4000
namespace Go.Gv
variable {C : CC} (hC : Closed prog C)
include hC
theorem idxFnd_c (b : Bool) (xs : List Fnd) (s : Fnd) (hs : xs.length < 2 ^ 62) : C 599 [slx b (fndR xs), .agg (fndC s)] (.int .i64 (idxD (fun x => decide (x = s)) xs)) [] := by
  refine start hC (nf := N599_slices_Index__api_Finding_api_Finding) rfl rfl ?_
  simp [N599_slices_Index__api_Finding_api_Finding, fndR, fndC]
  refine loop_of Nat (fun i => [(0, slx b (xs.map fndC)), (3, .ptr [.int .i64 s.1, .str s.2]), (7, .int .i64 xs.length), (8, .int .i64 i)]) (fun i => i ≤ xs.length ∧ ∀ (j : Nat) (h : j < xs.length), j < i → decide (xs[j] = s) = false) (fun i => xs.length - i) 0 (by simp) (by simp [fndC]) ?_
  rintro i ⟨hi, hj⟩
  simp
  refine brB_of (fun h => ?_) (fun h => ?_) <;> simp [h] <;> simp at h
  · have hw : IntKind.wrap .i64 ((i : Int) + 1) = ((i + 1 : Nat) : Int) := wrap_i64 (by omega) (by omega)
    simp [h, fndC]
    refine ⟨indW_of (by decide +kernel), ?_⟩
    by_cases h1 : xs[i] = s
    · simp [h1]
      rw [idxD_step hj h (by simp [h1])]
    · have h3 : ¬ (s.1 = xs[i].1 ∧ s.2 = xs[i].2) := fun e => h1 (Prod.ext e.1.symm e.2.symm)
      refine brB_of (fun h4 => ?_) (fun h4 => ?_) <;> simp at h4 <;> simp [h4, hw]
      · exact absurd h4 h3
      · refine ⟨i + 1, ⟨by omega, fun j hl hjj => ?_⟩, by omega, by omega⟩
        rcases Nat.lt_succ_iff_lt_or_eq.1 hjj with h2 | rfl
        · simpa using hj j hl h2
        · exact h1
  · rw [idxD_none (fun j hl => by simpa using hj j hl (by omega))]
end Go.Gv

set_option linter.unusedSimpArgs false
set_option maxRecDepth 4000
namespace Go.Gv
theorem lnk_nodup {ns : List Nod} {ls : List Lnk} (hv : netOk ns ls = true) : (ls.map (·.name)).Nodup := by
  refine List.pairwise_iff_getElem.2 fun i j hi hj hij e => ?_
  have hi' : i < ls.length := by simpa using hi
  have hj' : j < ls.length := by simpa using hj
  simp only [List.getElem_map] at e
  have h1 := (netOk_lnk hv hi').2.1
  have h2 := (netOk_lnk hv hj').2.1
  rw [e, h2] at h1
  omega
theorem nodup_lnk {ls : List Lnk} (hn : (ls.map (·.name)).Nodup) {i : Nat} (h : i < ls.length) : idxD (lnkIs ls[i].name) ls = (i : Int) := by
  refine idxD_step (fun j hj hji => ?_) h (by simp [lnkIs])
  have := List.pairwise_iff_getElem.1 hn j i (by simpa using hj) (by simpa using h) hji
  simpa [lnkIs] using this
/-- Where a link stood before. -/
def erI (i k : Nat) : Nat := if k < i then k else k + 1
theorem er_lt {ls : List Lnk} {i k : Nat} (hi : i < ls.length) (hk : k < (ls.eraseIdx i).length) : erI i k < ls.length := by
  rw [List.length_eraseIdx, if_pos hi] at hk
  unfold erI
  split <;> omega
theorem er_get {ls : List Lnk} {i k : Nat} (hi : i < ls.length) (hk : k < (ls.eraseIdx i).length) : (ls.eraseIdx i)[k] = ls[erI i k]'(er_lt hi hk) := by
  rw [List.getElem_eraseIdx]
  unfold erI
  split <;> rfl
theorem netOk_er {ns : List Nod} {ls : List Lnk} (hv : netOk ns ls = true) {i : Nat} (hi : i < ls.length) : netOk ns (ls.eraseIdx i) = true := by
  have hnd := lnk_nodup hv
  have hnd' : ((ls.eraseIdx i).map (·.name)).Nodup := hnd.sublist ((List.eraseIdx_sublist ls i).map _)
  have hlen : (ls.eraseIdx i).length ≤ ls.length := (List.eraseIdx_sublist ls i).length_le
  have hv' := hv
  simp only [netOk, Bool.and_eq_true, decide_eq_true_eq, List.all_eq_true, List.mem_range] at hv' ⊢
  refine ⟨⟨⟨hv'.1.1.1, by omega⟩, hv'.1.2⟩, fun k hk => ?_⟩
  have h1 := er_lt hi hk
  have h2 := hv'.2 _ h1
  simp only [lnkAt, getElem!_pos (ls.eraseIdx i) k hk, getElem!_pos ls (erI i k) h1, er_get hi hk, Bool.and_eq_true, decide_eq_true_eq] at h2 ⊢
  have h3 := nodup_lnk hnd' hk
  rw [er_get hi hk] at h3
  exact ⟨⟨⟨h2.1.1.1, h3⟩, h2.1.2⟩, h2.2⟩
theorem edg_er {ns : List Nod} {ls : List Lnk} {i k : Nat} (hi : i < ls.length) (hk : k < (ls.eraseIdx i).length) : edG (edgN ns (ls.eraseIdx i)) k = edG (edgN ns ls) (erI i k) := by
  have h1 := er_lt hi hk
  rw [edG_get (by rw [edgN_len]; exact hk), edG_get (by rw [edgN_len]; exact h1)]
  simp only [edgN, List.getElem_map, er_get hi hk]
theorem edg_sub {ns : List Nod} {ls : List Lnk} (i : Nat) : ∀ e ∈ edgN ns (ls.eraseIdx i), e ∈ edgN ns ls := by
  intro e he
  simp only [edgN, List.mem_map] at he ⊢
  obtain ⟨l, hl, rfl⟩ := he
  exact ⟨l, (List.eraseIdx_sublist ls i).subset hl, rfl⟩
theorem pth_sub {es es' : List Edg} (hs : ∀ e ∈ es', e ∈ es) {a b : Nat} (h : Pth es' a b) : Pth es a b := by
  induction h with
  | refl v => exact .refl v
  | step e _ ih => exact .step (hs _ e) ih
theorem wyB_sub {es es' : List Edg} (hs : ∀ e ∈ es', e ∈ es) {a b : Nat} (h : wyB es' a b = true) : wyB es a b = true := by
  obtain ⟨s, h1, h2⟩ := wyB_iff.1 h
  exact wyB_iff.2 ⟨s, hs _ h1, pth_sub hs h2⟩
/-- Without a link there are no new findings but of the kinds 3 and 8. -/
theorem less_sub {ns : List Nod} {ls : List Lnk} {l : List Sec} {i : Nat} (hi : i < ls.length) (x : Fnd) (hx : x ∈ chkL ns (ls.eraseIdx i) l) : x.1 = 3 ∨ x.1 = 8 ∨ x ∈ chkL ns ls l := by
  have hlr : ∀ k, k < (ls.eraseIdx i).length → lnG (ls.eraseIdx i) k = lnG ls (erI i k) ∧ lnkNm (ls.eraseIdx i) k = lnkNm ls (erI i k) ∧ edG (edgN ns (ls.eraseIdx i)) k = edG (edgN ns ls) (erI i k) := fun k hk => by
    have h1 := er_lt hi hk
    refine ⟨?_, ?_, edg_er hi hk⟩
    · rw [lnG_get hk, lnG_get h1, er_get hi hk]
    · rw [lnkNm_get hk, lnkNm_get h1, er_get hi hk]
  have hbk : ∀ k, k < (ls.eraseIdx i).length → bkF (ls.eraseIdx i) k = bkF ls (erI i k) := fun k hk => by
    have h1 := er_lt hi hk
    unfold bkF
    rw [(hlr k hk).2.1, List.getElem?_eq_getElem hk, List.getElem?_eq_getElem h1, er_get hi hk]
  unfold chkL strF lvlF at hx ⊢
  rw [canL_mem] at hx ⊢
  simp only [List.mem_append, mem_flatF] at hx ⊢
  rcases hx with (⟨k, h1, h2⟩ | ⟨k, h1, h2⟩) | ⟨k, h1, h2⟩
  · simp only [stF, List.mem_append, mem_one] at h2
    rcases h2 with (h2 | h2) | h2
    · right; right; left; left
      refine ⟨k, h1, ?_⟩
      simp only [stF, List.mem_append, mem_one]
      exact .inl (.inl ⟨wyB_sub (edg_sub i) h2.1, h2.2⟩)
    · left; rw [h2.2]
    · right; left; rw [h2.2]
  · right; right; left; right
    exact ⟨erI i k, er_lt hi h1, by rw [← hbk k h1]; exact h2⟩
  · right; right; right
    refine ⟨erI i k, er_lt hi h1, ?_⟩
    obtain ⟨e1, e2, e3⟩ := hlr k h1
    simp only [levF, e1, e2, e3, List.mem_append, mem_one] at h2 ⊢
    rcases h2 with h2 | h2
    · exact .inl h2
    · right
      split at h2
      · cases h2
      · rename_i hg
        rw [if_neg hg]
        simp only [mem_flatF, narF, mem_one, Bool.and_eq_true, decide_eq_true_eq] at h2 ⊢
        obtain ⟨m, m1, ⟨m2, m3⟩, m4⟩ := h2
        obtain ⟨f1, f2, f3⟩ := hlr m m1
        rw [f3, e3] at m2
        rw [f1, e1] at m3
        rw [e2] at m4
        exact ⟨erI i m, er_lt hi m1, ⟨m2, m3⟩, m4⟩
/-- Each finding is of a kind, and names what there is. -/
theorem chk_names {ns : List Nod} {ls : List Lnk} {l : List Sec} {x : Fnd} (hx : x ∈ chkL ns ls l) : (1 ≤ x.1 ∧ x.1 ≤ 8) ∧ ((x.1 = 1 ∨ x.1 = 3 ∨ x.1 = 8) ∧ (∃ k, ∃ h : k < ns.length, ns[k].name = x.2) ∨ ¬ (x.1 = 1 ∨ x.1 = 3 ∨ x.1 = 8) ∧ ∃ k, ∃ h : k < ls.length, ls[k].name = x.2) := by
  unfold chkL strF lvlF at hx
  rw [canL_mem] at hx
  simp only [List.mem_append, mem_flatF] at hx
  rcases hx with (⟨k, h1, h2⟩ | ⟨k, h1, h2⟩) | ⟨k, h1, h2⟩
  · simp only [stF, List.mem_append, mem_one, nodNm_get h1] at h2
    rcases h2 with (h2 | h2) | h2 <;> (rw [h2.2]; simp; exact ⟨k, h1, rfl⟩)
  · simp only [bkF, mem_one, lnkNm_get h1] at h2
    rw [h2.2]; simp; exact ⟨k, h1, rfl⟩
  · simp only [levF, List.mem_append, mem_one, lnkNm_get h1] at h2
    rcases h2 with ((h2 | h2) | h2) | h2
    · rw [h2.2]; simp; exact ⟨k, h1, rfl⟩
    · rw [h2.2]; simp; exact ⟨k, h1, rfl⟩
    · rw [h2.2]; simp; exact ⟨k, h1, rfl⟩
    · split at h2
      · cases h2
      · simp only [mem_flatF, narF, mem_one, lnkNm_get h1] at h2
        obtain ⟨m, _, _, h3⟩ := h2
        rw [h3]; simp; exact ⟨k, h1, rfl⟩
end Go.Gv

set_option linter.unusedSimpArgs false
namespace Go.Gv
noncomputable def shrF (ns : List Nod) (ls : List Lnk) (q : List Sp) (x v : Nat) : Bool := upX ns ls x v && decide (0 < q[v]!.2)
def ShrE (ns : List Nod) (ls : List Lnk) (q : List Sp) (nm : List UInt8) : Int := if treeN ns ls = true then (if spsE q ns.length = 0 then (if 0 ≤ idxD (lnkIs nm) ls then 0 else 9) else spsE q ns.length) else 1
noncomputable def ShrV (ns : List Nod) (ls : List Lnk) (q : List Sp) (nm : List UInt8) : D := if ShrE ns ls q nm = 0 then .sl (strR (nmT ns (shrF ns ls q ((edgN ns ls)[(idxD (lnkIs nm) ls).toNat]!).1) ns.length)) else .nils
variable {C : CC} (hC : Closed prog C)
include hC
theorem Link_c (b1 b2 : Bool) (ns : List Nod) (ls : List Lnk) (nm : List UInt8) (hcv : ∀ l ∈ ls, l.curve.length < 2 ^ 62) (hv : netOk ns ls = true) : C 463 [.agg [slx b1 (ns.map nodC), slx b2 (ls.map lnkC)], .str nm] (.tup [.int .i64 (if idxD (lnkIs nm) ls < 0 then 0 else idxD (lnkIs nm) ls), .int .i64 (if idxD (lnkIs nm) ls < 0 then 9 else 0)]) [] := by
  have k0 := netOk_c hC b1 b2 ns ls hcv
  rw [hv] at k0
  have k1 := link_c hC b1 b2 ns ls nm (by have := (netOk_len hv).2; omega)
  have k2 := found_c hC [slx b1 (ns.map nodC), slx b2 (ls.map lnkC)] (idxD (lnkIs nm) ls)
  refine start hC (nf := N463_network_Link) rfl rfl ?_
  simp [N463_network_Link]
  refine callW_of k0 (.inl rfl) ?_
  simp
  refine callW_of k1 (.inl rfl) ?_
  simp
  refine callW_of k2 (.inl rfl) ?_
  simp
  exact indW_of (by decide +kernel)
end Go.Gv


set_option linter.unusedSimpArgs false
set_option maxRecDepth 4000
namespace Go.Gv
structure LessC (C : CC) : Prop where
  nil : ∀ ds, C 598 ds .any [.own 2 []] → C 598 ds (.sl []) []
theorem er_take {ls : List Lnk} {i j : Nat} (hj : j < ls.length) : (ls.take (j + 1)).eraseIdx i = (ls.take j).eraseIdx i ++ (if j = i then [] else [ls[j]]) := by
  rw [List.take_succ_eq_append_getElem hj]
  have hl : (ls.take j).length = j := by simp; omega
  by_cases h : i < j
  · rw [List.eraseIdx_append_of_lt_length (by omega), if_neg (by omega)]
  · rw [List.eraseIdx_append_of_length_le (by omega), hl, List.eraseIdx_of_length_le (l := ls.take j) (by omega)]
    by_cases e : j = i
    · subst e; simp
    · rw [if_neg e]
      obtain ⟨m, hm⟩ : ∃ m, i - j = m + 1 := ⟨i - j - 1, by omega⟩
      rw [hm]; simp
theorem er_len {ls : List Lnk} (i j : Nat) : ((ls.take j).eraseIdx i).length ≤ j := Nat.le_trans (List.eraseIdx_sublist _ _).length_le (by simp; omega)
theorem nod_isC (ns : List Nod) : ∀ e ∈ ns.map nodC, e.length = 9 ∧ ∀ c ∈ e, isC1 c = true := by
  intro e he
  obtain ⟨n, _, rfl⟩ := List.mem_map.1 he
  have : isC1 (slx n.shapeN (n.shape.map knD)) = true := by unfold slx; split <;> rfl
  refine ⟨rfl, fun c hc => ?_⟩
  simp only [nodC, List.mem_cons, List.not_mem_nil, or_false] at hc
  rcases hc with rfl | rfl | rfl | rfl | rfl | rfl | rfl | rfl | rfl
  all_goals first | rfl | exact this
theorem lnk_isC (ls : List Lnk) : ∀ e ∈ ls.map lnkC, e.length = 11 ∧ ∀ c ∈ e, isC1 c = true := by
  intro e he
  obtain ⟨n, _, rfl⟩ := List.mem_map.1 he
  have : isC1 (slx n.curveN (n.curve.map knD)) = true := by unfold slx; split <;> rfl
  refine ⟨rfl, fun c hc => ?_⟩
  simp only [lnkC, List.mem_cons, List.not_mem_nil, or_false] at hc
  rcases hc with rfl | rfl | rfl | rfl | rfl | rfl | rfl | rfl | rfl | rfl | rfl
  all_goals first | rfl | exact this
def nT (ns : List Nod) (j : Nat) : List (List D) := (ns.take j).map nodC
def lT (ls : List Lnk) (i j : Nat) : List (List D) := ((ls.take j).eraseIdx i).map lnkC
theorem nT_zero (ns : List Nod) : nT ns 0 = [] := by simp [nT]
theorem lT_zero (ls : List Lnk) (i : Nat) : lT ls i 0 = [] := by simp [lT]
theorem nT_len {ns : List Nod} {j : Nat} (h : j ≤ ns.length) : (nT ns j).length = j := by simp [nT]; omega
theorem lT_len (ls : List Lnk) (i j : Nat) : (lT ls i j).length ≤ j := by unfold lT; rw [List.length_map]; exact er_len i j
theorem nT_succ {ns : List Nod} {j : Nat} (h : j < ns.length) : nT ns (j + 1) = nT ns j ++ [nodC ns[j]] := by
  unfold nT
  rw [List.take_succ_eq_append_getElem h, List.map_append]; rfl
theorem lT_succ {ls : List Lnk} {i j : Nat} (h : j < ls.length) : lT ls i (j + 1) = lT ls i j ++ (if j = i then [] else [lnkC ls[j]]) := by
  unfold lT
  rw [er_take h, List.map_append]
  split <;> rfl
theorem nT_end (ns : List Nod) : nT ns ns.length = ns.map nodC := by unfold nT; rw [List.take_length]
theorem lT_end (ls : List Lnk) (i : Nat) : lT ls i ls.length = (ls.eraseIdx i).map lnkC := by unfold lT; rw [List.take_length]
theorem nT_isC (ns : List Nod) (j : Nat) : ∀ e ∈ nT ns j, e.length = 9 ∧ ∀ c ∈ e, isC1 c = true := nod_isC _
theorem lT_isC (ls : List Lnk) (i j : Nat) : ∀ e ∈ lT ls i j, e.length = 11 ∧ ∀ c ∈ e, isC1 c = true := lnk_isC _
@[simp high] theorem stK_slxK (b : Bool) (xs : List (List D)) (k : Nat) : stK (slx b xs) [] k = [] := by unfold slx; split <;> rfl
theorem slx_or (b : Bool) (xs : List (List D)) : slx b xs = .nils ∨ slx b xs = .sl xs := by
  unfold slx
  split
  · exact .inl rfl
  · exact .inr rfl
variable {C : CC} (hC : Closed prog C)
include hC
theorem cloneT_c (hL : LessC C) (b : Bool) (l : List (Int × Int)) (hl : l.length < 2 ^ 40) : C 598 [slx b (l.map knD)] (slx b (l.map knD)) [] := by
  have hf : ∀ e ∈ l.map knD, e.length = 2 ∧ (∀ c ∈ e, isC1 c = true) ∧ ∀ c ∈ e, isF1 c = true := by
    intro e he
    obtain ⟨s, _, rfl⟩ := List.mem_map.1 he
    simp [knD, isC1, isF1]
  cases l with
  | nil =>
    cases b with
    | true =>
      show C 598 [.nils] .nils []
      refine start hC (nf := N598_slices_Clone_api_Table_api_Knot) rfl rfl ?_
      simp [N598_slices_Clone_api_Table_api_Knot]
    | false =>
      show C 598 [.sl []] (.sl []) []
      refine hL.nil _ ?_
      refine startF hC (nf := N598_slices_Clone_api_Table_api_Knot) rfl rfl ?_
      simp [N598_slices_Clone_api_Table_api_Knot]
  | cons x xs =>
    have e : slx b ((x :: xs).map knD) = .sl ((x :: xs).map knD) := by cases b <;> rfl
    rw [e]
    obtain ⟨l, hl2⟩ : ∃ l, l = (x :: xs).map knD := ⟨_, rfl⟩
    have h : 0 < l.length := by rw [hl2]; simp
    have h2 : l.length < 1099511627776 := by rw [hl2]; simpa using hl
    have hV : l.map (fun e => e.map cellV) = l := by
      rw [hl2, List.map_map]
      apply List.map_congr_left
      intro v _
      simp [knD, cellV]
    rw [← hl2] at hf ⊢
    clear hl2 e hl
    refine start hC (nf := N598_slices_Clone_api_Table_api_Knot) rfl rfl ?_
    simp [N598_slices_Clone_api_Table_api_Knot]
    refine ⟨fun _ => ⟨fun e he => ⟨(hf e he).1, (hf e he).2.1⟩, by omega, ?_⟩, fun h0 => ?_⟩
    · simp [hV]
    · subst h0
      simp at h
set_option maxHeartbeats 2000000 in
theorem Remove_c (hL : LessC C) (b1 b2 : Bool) (ns : List Nod) (ls : List Lnk) (i : Nat) (hi : i < ls.length) (hsh : ∀ n ∈ ns, n.shape.length < 2 ^ 40) (hcv : ∀ l ∈ ls, l.curve.length < 2 ^ 40) (hv : netOk ns ls = true) : C 552 [.agg [slx b1 (ns.map nodC), slx b2 (ls.map lnkC)], .str ls[i].name] (.tup [.agg [.sl (ns.map nodC), .sl ((ls.eraseIdx i).map lnkC)], .int .i64 0]) [] := by
  have k1 := Link_c hC b1 b2 ns ls ls[i].name (fun l h => by have := hcv l h; omega) hv
  have hidx := (netOk_lnk hv hi).2.1
  have hn := (netOk_len hv).1
  have hl := (netOk_len hv).2
  have k2 := cloneT_c hC hL
  refine start hC (nf := N552_network_Remove) rfl rfl ?_
  simp [N552_network_Remove]
  refine callW_of k1 (.inl rfl) ?_
  rw [hidx]
  have hi0 : (if (i : Int) < 0 then (0 : Int) else i) = i := by rw [if_neg (by omega)]
  simp [hi0]
  refine loop_of Nat (fun j => [(2, .ptr [slx b1 (ns.map nodC), slx b2 (ls.map lnkC)]), (4, .adr (.r 10064) 0 0), (6, .int .i64 i), (8, .adr (.r 10128) 0 0), (24, slx b1 (ns.map nodC)), (25, .int .i64 ns.length), (26, .int .i64 j), (10064, .blk 2 [[.own 9 [], .own 11 []]]), (10128, .blk 2 [[.own 9 (nT ns j), .own 11 []]])]) (fun j => j ≤ ns.length) (fun j => ns.length - j) 0 (by simp) (by simp [nT_zero]) ?_
  intro j hj
  simp
  refine brB_of (fun h => ?_) (fun h => ?_) <;> simp at h
  · have hw : IntKind.wrap .i64 ((j : Int) + 1) = ((j + 1 : Nat) : Int) := wrap_i64 (by omega) (by omega)
    have ht := nT_succ h
    have hlen := nT_len hj
    have hk := k2 ns[j].shapeN ns[j].shape (hsh _ (List.getElem_mem h))
    have hc := nT_isC ns j
    have htk : List.take j (nT ns j) = nT ns j := List.take_of_length_le (by omega)
    have hb : ((j : Int) + 1) * 96 ≤ 140737488355328 := by omega
    have hb2 : (j + 1) * 96 ≤ 140737488355328 := by omega
    rcases slx_or ns[j].shapeN (ns[j].shape.map knD) with e | e
    all_goals
      rw [e] at hk
      simp [h, nodC, e]
      refine callW_of hk (.inr rfl) ?_
      simp [nodC, e] at ht
      simp [hlen, hb2, htk]
      refine ⟨fun e he => by rcases he with he | rfl; exact (hc e he).2; simp [isC1], j + 1, by omega, by omega, hw, ?_⟩
      rw [ht]
  · have ej : j = ns.length := by omega
    subst ej
    simp [h, nT_end]
    refine loop_of Nat (fun j => [(4, .adr (.r 10064) 0 0), (6, .int .i64 i), (8, .adr (.r 10128) 0 0), (42, slx b2 (ls.map lnkC)), (43, .int .i64 ls.length), (44, .int .i64 j), (10064, .blk 2 [[.own 9 [], .own 11 []]]), (10128, .blk 2 [[.own 9 (ns.map nodC), .own 11 (lT ls i j)]])]) (fun j => j ≤ ls.length) (fun j => ls.length - j) 0 (by simp) (by simp [lT_zero]) ?_
    intro j hj
    simp
    refine brB_of (fun h => ?_) (fun h => ?_) <;> simp at h
    · have hw : IntKind.wrap .i64 ((j : Int) + 1) = ((j + 1 : Nat) : Int) := wrap_i64 (by omega) (by omega)
      have ht := lT_succ (i := i) h
      have hlen := lT_len ls i j
      have hk := k2 ls[j].curveN ls[j].curve (hcv _ (List.getElem_mem h))
      have hc := lT_isC ls i j
      have htk : List.take (lT ls i j).length (lT ls i j) = lT ls i j := List.take_length
      rcases slx_or ls[j].curveN (ls[j].curve.map knD) with e | e
      all_goals
        rw [e] at hk
        simp [h, lnkC, e]
        refine brB_of (fun h1 => ?_) (fun h1 => ?_) <;> simp at h1
        · have hji : ¬ j = i := by omega
          rw [if_neg hji] at ht
          simp [hji]
          refine callW_of hk (.inr rfl) ?_
          simp [lnkC, e] at ht
          have hb2 : ((lT ls i j).length + 1) * 136 ≤ 140737488355328 := by omega
          simp [hb2, htk]
          refine ⟨fun e he => by rcases he with he | rfl; exact (hc e he).2; simp [isC1], j + 1, by omega, by omega, hw, ?_⟩
          rw [ht]
        · have hji : j = i := by omega
          rw [if_pos hji] at ht
          simp [hji]
          refine ⟨j + 1, by omega, by omega, by rw [← hji]; exact hw, ?_⟩
          rw [ht]; simp [hji]
    · have ej : j = ls.length := by omega
      subst ej
      simp [h, lT_end]
end Go.Gv

set_option linter.unusedSimpArgs false
set_option maxRecDepth 4000
namespace Go.Gv
open Go.Lib
theorem bl_cmp : ∀ a b : List UInt8, Op.bytesLess a b = decide (compareBytes a b < 0)
  | [], [] => by simp [Op.bytesLess, compareBytes]
  | [], _ :: _ => by simp [Op.bytesLess, compareBytes]
  | _ :: _, [] => by simp [Op.bytesLess, compareBytes]
  | a :: x, b :: y => by
    have ih := bl_cmp x y
    simp only [Op.bytesLess, compareBytes, u8_lt, ih]
    by_cases h1 : a.toNat < b.toNat
    · simp [h1]
    · by_cases h2 : b.toNat < a.toNat
      · have : ¬ a = b := fun e => by subst e; omega
        simp [h1, h2, this]
      · have : a = b := u8_eq (by omega)
        simp [h1, h2, this]
theorem fcmp_lt {x y : Fnd} (h : fcmp x y < 0) : x.1 < y.1 ∨ x.1 = y.1 ∧ compareBytes x.2 y.2 < 0 := by
  unfold fcmp intC at h
  repeat' split at h
  all_goals first | (left; omega) | (right; exact ⟨by omega, h⟩) | omega
/-- In order: not before, and not the same. -/
theorem bl_not {a b : List UInt8} (h : compareBytes a b < 0) : (Op.bytesLess b a || b == a) = false := by
  have h1 := cB_anti a b
  rw [bl_cmp]
  have h2 : ¬ b = a := fun e => by
    subst e
    have := cB_tc.refl b
    omega
  simp [h2]; omega
theorem large27_sh {ns : List Nod} {ls : List Lnk} (h : large27 ns ls = false) : ∀ n ∈ ns, n.shape.length ≤ 20 := by
  simp only [large27, Bool.or_eq_false_iff, decide_eq_false_iff_not, List.any_eq_false] at h
  intro n hn
  have := h.1.2 n hn
  simp only [bigN27, Bool.or_eq_true, decide_eq_true_eq, not_or] at this
  omega
theorem any_nod {ns : List Nod} {nm : List UInt8} (h : ∃ k, ∃ h : k < ns.length, ns[k].name = nm) : (ns.any fun y => decide (y.name = nm)) = true := by
  obtain ⟨k, hk, e⟩ := h
  exact List.any_eq_true.2 ⟨ns[k], List.getElem_mem hk, by simp [e]⟩
theorem any_lnk {ls : List Lnk} {nm : List UInt8} (h : ∃ k, ∃ h : k < ls.length, ls[k].name = nm) : (ls.any fun y => decide (y.name = nm)) = true := by
  obtain ⟨k, hk, e⟩ := h
  exact List.any_eq_true.2 ⟨ls[k], List.getElem_mem hk, by simp [e]⟩
variable {C : CC} (hC : Closed prog C)
include hC
theorem idxFc_c {b : Bool} {xs : List (Int × List UInt8)} {g : Nat} {cs : List D} (p : Int × List UInt8 → Bool) (hs : xs.length < 2 ^ 62) (hp : ∀ x ∈ xs, C g (.agg (fndC x) :: cs) (.bool (p x)) []) : C 129 [slx b (xs.map fun x => fndC x), .fn g cs] (.int .i64 (idxD p xs)) [] := by
  refine start hC (nf := N129_slices_IndexFunc__api_Finding_api_Finding) rfl rfl ?_
  simp [N129_slices_IndexFunc__api_Finding_api_Finding]
  refine loop_of Nat (fun i => [(0, slx b (xs.map fun x => fndC x)), (1, .fn g cs), (7, .int .i64 xs.length), (8, .int .i64 i)]) (fun i => i ≤ xs.length ∧ ∀ (j : Nat) (h : j < xs.length), j < i → p xs[j] = false) (fun i => xs.length - i) 0 (by simp) (by simp) ?_
  rintro i ⟨hi, hj⟩
  simp
  refine brB_of (fun h => ?_) (fun h => ?_) <;> simp [h] <;> simp at h
  · have hw : IntKind.wrap .i64 ((i : Int) + 1) = ((i + 1 : Nat) : Int) := wrap_i64 (by omega) (by omega)
    have hc := hp _ (List.getElem_mem h)
    simp [h, fndC] at hc ⊢
    refine callW_of hc (.inl rfl) ?_
    simp
    refine brB_of (fun h1 => ?_) (fun h1 => ?_) <;> simp [h1, hw]
    · rw [idxD_step hj h h1]
    · refine ⟨i + 1, ⟨by omega, fun j hl hjj => ?_⟩, by omega, rfl⟩
      rcases Nat.lt_succ_iff_lt_or_eq.1 hjj with h2 | rfl
      · exact hj j hl h2
      · exact h1
  · rw [idxD_none (fun j hl => hj j hl (by omega))]
theorem hasFc_c {b : Bool} {xs : List (Int × List UInt8)} {g : Nat} {cs : List D} (p : Int × List UInt8 → Bool) (hs : xs.length < 2 ^ 62) (hp : ∀ x ∈ xs, C g (.agg (fndC x) :: cs) (.bool (p x)) []) : C 125 [slx b (xs.map fun x => fndC x), .fn g cs] (.bool (xs.any p)) [] := by
  refine start hC (nf := N125_slices_ContainsFunc__api_Finding_api_Finding) rfl rfl ?_
  simp [N125_slices_ContainsFunc__api_Finding_api_Finding]
  refine callW_of (idxFc_c hC p hs hp) (.inl rfl) ?_
  simp [idxD_any]
theorem less1_c (n : Nod) (x : Fnd) : C 550 [.agg (nodC n), .ptr (fndC x)] (.bool (decide (n.name = x.2))) [] := by
  refine start hC (nf := N550_law27_CheckerLess_1) rfl rfl ?_
  simp [N550_law27_CheckerLess_1, nodC, fndC]
theorem less2_c (n : Lnk) (x : Fnd) : C 551 [.agg (lnkC n), .ptr (fndC x)] (.bool (decide (n.name = x.2))) [] := by
  refine start hC (nf := N551_law27_CheckerLess_2) rfl rfl ?_
  simp [N551_law27_CheckerLess_2, lnkC, fndC]
theorem less3_c (x : Fnd) (A : List Fnd) (hA : A.length < 2 ^ 62) : C 553 [.agg (fndC x), .ptr [.sl (fndR A)]] (.bool (decide (x.1 ≠ 3) && decide (x.1 ≠ 8) && !decide (x ∈ A))) [] := by
  have k1 : C 554 [.sl (fndR A), .agg (fndC x)] (.bool (decide (x ∈ A))) [] := by
    have k0 := idxFnd_c hC false A x hA
    rw [slx_false] at k0
    have e : decide (x ∈ A) = A.any (fun y => decide (y = x)) := by
      rw [Bool.eq_iff_iff]; simp
    rw [e]
    refine start hC (nf := N554_slices_Contains__api_Finding_api_Finding) rfl rfl ?_
    simp only [N554_slices_Contains__api_Finding_api_Finding]
    simp [fndC] at k0 ⊢
    refine callW_of k0 (.inl rfl) ?_
    simp [idxD_any]
  refine start hC (nf := N553_law27_CheckerLess_3) rfl rfl ?_
  simp [N553_law27_CheckerLess_3, fndC]
  by_cases h1 : x.1 = 3
  · simp [h1]
  · by_cases h2 : x.1 = 8
    · simp [h1, h2]
    · simp [h1, h2]
      simp [fndC] at k1
      refine callW_of k1 (.inl rfl) ?_
      simp
      exact fun _ => ⟨h1, h2⟩
set_option maxHeartbeats 4000000 in
theorem CheckerLess_c (hS : SlC C) (hK : ChkC C) (hL : LessC C) (b1 b2 : Bool) (ns : List Nod) (ls : List Lnk) (hn : ns.length < 2 ^ 62) (hl : ls.length < 2 ^ 62) (hcv : ∀ l ∈ ls, l.curve.length < 2 ^ 62) (b3 : Bool) (l : List Sec) (hs : l.length < 2 ^ 62) (u : Int) (hu8 : 0 ≤ u ∧ u ≤ 255) : C 529 [.agg [slx b1 (ns.map nodC), slx b2 (ls.map lnkC)], slx b3 (l.map secC), .int .u8 u] (.bool true) [] := by
  have k0 := awake27_c hC hS hK
  have k1 := large27_c hC b1 b2 ns ls hn hl
  have k1' := many27_c hC b3 l hs
  have k3 := ChkN_c hC hS hK b1 b2 b3 ns ls l hcv
  obtain ⟨A, hAd⟩ : ∃ A, A = chkL ns ls l := ⟨_, rfl⟩
  rw [← hAd] at k3
  refine start hC (nf := N529_law27_CheckerLess) rfl rfl ?_
  simp [N529_law27_CheckerLess]
  refine callW_of k0 (.inl rfl) ?_
  simp
  refine callW_of k1 (.inl rfl) ?_
  simp
  refine brB_of (fun hlg => ?_) (fun hlg => ?_)
  · simp [hlg]
  simp [hlg]
  refine callW_of k1' (.inl rfl) ?_
  simp
  refine brB_of (fun hmn => ?_) (fun hmn => ?_)
  · simp [hmn]
  simp [hmn]
  refine callW_of k3 (.inr rfl) ?_
  cases hv2 : (netOk ns ls && useB l)
  · simp
  obtain ⟨hv, hu⟩ := Bool.and_eq_true_iff.1 hv2
  obtain ⟨l1, l2, l3⟩ := large27_cv hlg
  have hAl : ∀ ls', netOk ns ls' = true → (chkL ns ls' l).length < 2 ^ 62 := fun ls' hv => by
    unfold chkL
    have := canL_len fcmp (strF ns ls' ++ lvlF ns ls' l)
    have := strF_len ns ls'
    have := lvlF_len ns ls' l
    have := netOk_len hv
    have hml : (3 + ls'.length) * ls'.length ≤ 403 * 400 := Nat.mul_le_mul (by omega) (by omega)
    rw [List.length_append] at *
    omega
  have hA : A.length < 2 ^ 62 := by rw [hAd]; exact hAl ls hv
  have hnm : ∀ (j : Nat) (h : j < A.length), _ := fun j h => chk_names (ns := ns) (ls := ls) (l := l) (by rw [← hAd]; exact List.getElem_mem h)
  have hsr : ∀ (j : Nat) (h : j < A.length), 0 < j → fcmp (A[j - 1]) A[j] < 0 := fun j h h0 =>
    List.pairwise_iff_getElem.1 (show A.Pairwise _ by rw [hAd]; exact canL_srt fcmp_tc _) (j - 1) j _ h (by omega)
  have hsub : ∀ i, i < ls.length → ∀ x ∈ chkL ns (ls.eraseIdx i) l, x.1 = 3 ∨ x.1 = 8 ∨ x ∈ A := fun i hi => by rw [hAd]; exact less_sub (ns := ns) (l := l) hi
  have k4 := fun i (hi : i < ls.length) => Remove_c hC hL b1 b2 ns ls i hi (fun n h => by have := large27_sh hlg n h; omega) (fun k h => by have := l3 k h; omega) hv
  have k5 := fun i (hi : i < ls.length) => ChkN_c hC hS hK false false b3 ns (ls.eraseIdx i) l (fun k h => hcv k ((List.eraseIdx_sublist ls i).subset h))
  have hver := fun i (hi : i < ls.length) => netOk_er hv hi
  have hBl := fun i (hi : i < ls.length) => hAl _ (hver i hi)
  have k6 := fun x => less3_c hC x A hA
  simp
  refine loop_of Nat (fun j => [(1, slx b3 (l.map secC)), (2, .int .u8 u), (3, .ptr [slx b1 (ns.map nodC), slx b2 (ls.map lnkC)]), (7, .adr (.r 10112) 0 0), (37, .sl (fndR A)), (38, .int .i64 A.length), (39, .int .i64 j), (10112, .blk 1 [[.sl (fndR A)]])]) (fun j => j ≤ A.length) (fun j => A.length - j) 0 (by simp) (by simp [fndR_len]) ?_
  intro j hj
  simp
  refine brB_of (fun h => ?_) (fun h => ?_) <;> simp at h
  · have hw : IntKind.wrap .i64 ((j : Int) + 1) = ((j + 1 : Nat) : Int) := wrap_i64 (by omega) (by omega)
    obtain ⟨⟨g1, g2⟩, g3⟩ := hnm j h
    have hgj := fndR_get h
    have k7 := hasNod_c hC (b := b1) (xs := ns) (g := 550) (cs := [.ptr (fndC A[j])]) (fun y => decide (y.name = A[j].2)) hn (fun x _ => less1_c hC x A[j])
    have k8 := hasLnk_c hC (b := b2) (xs := ls) (g := 551) (cs := [.ptr (fndC A[j])]) (fun y => decide (y.name = A[j].2)) hl (fun x _ => less2_c hC x A[j])
    have a1 : ¬ A[j].1 < 1 := by omega
    have a2 : ¬ (8 : Int) < A[j].1 := by omega
    simp [fndC] at k7 k8
    rcases Nat.eq_zero_or_pos j with h0 | h0
    · have h0' : ¬ 0 < j := by omega
      simp [h, hgj, idxW_some hgj, rowW_some hgj, fndR_len, a1, a2, h0']
      refine ⟨indW_of (by decide +kernel), ?_⟩
      rcases g3 with ⟨hk, hx⟩ | ⟨hk, hx⟩
      · have hny := any_nod hx
        refine callW_of k7 (.inl rfl) ?_
        rw [hny]
        simp [fndC]
        refine callW_of k8 (.inl rfl) ?_
        rcases hk with e | e | e
        all_goals
          simp [e]
          exact ⟨j + 1, by omega, by omega, hw⟩
      · have hly := any_lnk hx
        refine callW_of k7 (.inl rfl) ?_
        simp [fndC]
        refine callW_of k8 (.inl rfl) ?_
        rw [hly]
        have n1 : ¬ A[j].1 = 1 := fun e => hk (.inl e)
        have n3 : ¬ A[j].1 = 3 := fun e => hk (.inr (.inl e))
        have n8 : ¬ A[j].1 = 8 := fun e => hk (.inr (.inr e))
        simp [n1, n3, n8]
        exact ⟨j + 1, by omega, by omega, hw⟩
    · have hgp := fndR_get (show j - 1 < A.length by omega)
      have hw1 : IntKind.wrap .i64 ((j : Int) - 1) = ((j - 1 : Nat) : Int) := wrap_i64 (by omega) (by omega)
      have hs1 := fcmp_lt (hsr j h h0)
      have hj1 : j - 1 < A.length := by omega
      by_cases hk1 : A[j].1 = A[j - 1].1
      · have hk2 : ¬ A[j].1 < A[j - 1].1 := by omega
        have b1' : ¬ A[j - 1].1 < 1 := by omega
        have b2' : ¬ (8 : Int) < A[j - 1].1 := by omega
        have hb : (Op.bytesLess A[j].2 A[j - 1].2 || A[j].2 == A[j - 1].2) = false := bl_not (by rcases hs1 with h1 | h1; omega; exact h1.2)
        simp [h, h0, hgj, idxW_some hgj, rowW_some hgj, fndR_len, hw1, hj1, idxW_some hgp, rowW_some hgp, eq_true hk1, hk2, a1, a2, hb]
        refine ⟨indW_of (by decide +kernel), ?_⟩
        rcases g3 with ⟨hk, hx⟩ | ⟨hk, hx⟩
        · have hny := any_nod hx
          refine callW_of k7 (.inl rfl) ?_
          rw [hny]
          simp [fndC]
          refine callW_of k8 (.inl rfl) ?_
          rcases hk with e | e | e
          all_goals
            simp [e]
            exact ⟨j + 1, by omega, by omega, hw⟩
        · have hly := any_lnk hx
          refine callW_of k7 (.inl rfl) ?_
          simp [fndC]
          refine callW_of k8 (.inl rfl) ?_
          rw [hly]
          have n1 : ¬ A[j].1 = 1 := fun e => hk (.inl e)
          have n3 : ¬ A[j].1 = 3 := fun e => hk (.inr (.inl e))
          have n8 : ¬ A[j].1 = 8 := fun e => hk (.inr (.inr e))
          simp [n1, n3, n8]
          exact ⟨j + 1, by omega, by omega, hw⟩
      · have hk2 : ¬ A[j].1 < A[j - 1].1 := by rcases hs1 with h1 | h1 <;> omega
        simp [h, h0, hgj, idxW_some hgj, rowW_some hgj, fndR_len, a1, a2, hw1, hj1, idxW_some hgp, rowW_some hgp, hk1, hk2]
        refine ⟨indW_of (by decide +kernel), ?_⟩
        rcases g3 with ⟨hk, hx⟩ | ⟨hk, hx⟩
        · have hny := any_nod hx
          refine callW_of k7 (.inl rfl) ?_
          rw [hny]
          simp [fndC]
          refine callW_of k8 (.inl rfl) ?_
          rcases hk with e | e | e
          all_goals
            simp [e]
            exact ⟨j + 1, by omega, by omega, hw⟩
        · have hly := any_lnk hx
          refine callW_of k7 (.inl rfl) ?_
          simp [fndC]
          refine callW_of k8 (.inl rfl) ?_
          rw [hly]
          have n1 : ¬ A[j].1 = 1 := fun e => hk (.inl e)
          have n3 : ¬ A[j].1 = 3 := fun e => hk (.inr (.inl e))
          have n8 : ¬ A[j].1 = 8 := fun e => hk (.inr (.inr e))
          simp [n1, n3, n8]
          exact ⟨j + 1, by omega, by omega, hw⟩
  · have ej : j = A.length := by omega
    subst ej
    simp [h]
    refine brB_of (fun h5 => ?_) (fun h5 => ?_) <;> simp at h5
    · simp [h5]
    have hlp : 0 < ls.length := List.length_pos_iff.2 h5
    obtain ⟨i, hi, hiu⟩ : ∃ i, ∃ hi : i < ls.length, (u.tmod (ls.length : Int)) = (i : Int) := by
      refine ⟨u.toNat % ls.length, Nat.mod_lt _ hlp, ?_⟩
      obtain ⟨v, rfl⟩ : ∃ v : Nat, u = v := ⟨u.toNat, by omega⟩
      rw [Int.tmod_eq_emod_of_nonneg (by omega)]
      simp
    have hwu : IntKind.wrap .i64 u = u := wrap_i64 rfl (by omega)
    have k4' := k4 i hi
    have k5' := k5 i hi
    rw [hver i hi, hu] at k5'
    have hB := hBl i hi
    have hsb := hsub i hi
    generalize chkL ns (ls.eraseIdx i) l = B at *
    have k8 := hasFc_c hC (b := false) (xs := B) (g := 553) (cs := [.ptr [.sl (fndR A)]]) (fun x => decide (x.1 ≠ 3) && decide (x.1 ≠ 8) && !decide (x ∈ A)) hB (fun x _ => k6 x)
    have hno : (B.any fun x => decide (x.1 ≠ 3) && decide (x.1 ≠ 8) && !decide (x ∈ A)) = false := by
      rw [List.any_eq_false]
      intro x hx
      rcases hsb x hx with h6 | h6 | h6 <;> simp [h6]
    rw [hno] at k8
    simp [h5, hwu, hiu, hlp, hi, lnkC]
    refine callW_of k4' (.inr rfl) ?_
    simp
    refine ⟨indW_of (by decide +kernel), ?_⟩
    simp [lnkC] at k5'
    refine callW_of k5' (.inr rfl) ?_
    simp
    rw [show (List.map (fun x => fndC x) B) = fndR B from rfl, slx_false] at k8
    refine callW_of k8 (.inl rfl) ?_
    simp
end Go.Gv
