/-
  Texts of the proof: K15, K16, K17, K18, L1, K19, K20, L2, K21, K23, K24, L3, M0, M3, M4, M5, M1, M2a, M2, M6, M7, M8, M9, M10, M11, M12, M14, M15.
-/
import Derived.Test.YthomjcpacdociaaGreatX5
set_option linter.all false
set_option linter.unusedSimpArgs false
namespace Go.Gv

def possAt (j : Job) (i s : Nat) : Bool := ((fullF j.secs[s]! j.falls.l[i]! j.lengths.l[i]!).2 == 5 || ((fullF j.secs[s]! j.falls.l[i]! j.lengths.l[i]!).2 == 0 && decide (j.flows.l[i]! ≤ (fullF j.secs[s]! j.falls.l[i]! j.lengths.l[i]!).1))) && decide (j.secs[s]!.height ≤ j.room.l[i]!)
def aboveF (j : Job) (i : Nat) : List Nat := (List.range j.below.l.length).filter fun a => decide (j.below.l[a]! = (i : Int))
def bl (b : Bool) : List D := [.bool b]
def it (n : Nat) : List D := [.int .i64 (n : Int)]
def possD (j : Job) (i : Nat) : List D := [.sl ((List.range j.secs.length).map fun s => bl (possAt j i s))]
def aboveD (j : Job) (i : Nat) : List D := [.sl ((aboveF j i).map it)]
def treeD (j : Job) : D := .ptr (jobC j ++ [.sl ((List.range j.below.l.length).map (possD j)), .sl ((List.range j.below.l.length).map (aboveD j))])

@[simp] theorem isV_treeD {j} : isV (treeD j) = true := _root_.id rfl
@[simp] theorem isK_treeD {j} : isK (treeD j) = true := _root_.id rfl
@[simp] theorem isP_treeD {j} : isP (treeD j) = true := _root_.id rfl
@[simp] theorem isS_treeD {j} : isS (treeD j) = true := _root_.id rfl
@[simp] theorem isC1_treeD {j} : isC1 (treeD j) = true := _root_.id rfl
@[simp] theorem isO_treeD {j} : isO (treeD j) = false := _root_.id rfl
@[simp] theorem isF1_treeD {j} : isF1 (treeD j) = false := _root_.id rfl
@[simp] theorem isF_treeD {j} : isF (treeD j) = false := _root_.id rfl
@[simp] theorem isB_treeD {j} : isB (treeD j) = false := _root_.id rfl
@[simp] theorem isAny_treeD {j} : isAny (treeD j) = false := _root_.id rfl
@[simp] theorem cellsOf_treeD {j} : cellsOf (treeD j) = [(treeD j)] := _root_.id rfl
@[simp] theorem aggOf_treeD {j} : aggOf (treeD j) = (treeD j) := _root_.id rfl
@[simp] theorem cellV_treeD {j} : cellV (treeD j) = (treeD j) := _root_.id rfl
@[simp] theorem mroots1_treeD {j} : mroots1 (treeD j) = [] := _root_.id rfl
@[simp] theorem mroots_treeD {j} : mroots (treeD j) = [] := _root_.id rfl
@[simp] theorem dp1_treeD {f : Nat → D} {j} : dp1 f (treeD j) = (treeD j) := _root_.id rfl
@[simp] theorem dp_treeD {f : Nat → D} {j} : dp f (treeD j) = (treeD j) := _root_.id rfl
@[simp] theorem dpOk1_treeD {f : Nat → D} {j} : dpOk1 f (treeD j) = True := _root_.id rfl
@[simp] theorem dpOk_treeD {f : Nat → D} {j} : dpOk f (treeD j) = True := _root_.id rfl
@[simp] theorem ldc_treeD {p i o} {j} : ldc p i o (treeD j) = (treeD j) := _root_.id rfl
@[simp] theorem kill1_treeD {ks} {j} : kill1 ks (treeD j) = (treeD j) := by unfold treeD; exact kill1_ptr

theorem treeD_eq {j} : treeD j = .ptr (jobC j ++ [.sl ((List.range j.below.l.length).map (possD j)), .sl ((List.range j.below.l.length).map (aboveD j))]) := _root_.id rfl
theorem jobC_eq {j} : jobC j = [slI j.below, slI j.lengths, slI j.flows, slI j.falls, slI j.room, slx j.secN (j.secs.map secC)] := _root_.id rfl
theorem secC_eq {s} : secC s = [.str s.name, .int .i64 s.height, .int .i64 s.price, slx s.areaN (s.area.map knD), slx s.convN (s.conv.map knD)] := _root_.id rfl

def leastStep (ok : Nat → Bool) (vs : List Int) (b : Int × Int) (s : Nat) : Int × Int := if vs[s]! ≠ -1 ∧ ok s = true ∧ (b.1 = -1 ∨ vs[s]! < b.1) then (vs[s]!, (s : Int)) else b
def leastF (ok : Nat → Bool) (vs : List Int) : Int × Int := (List.range vs.length).foldl (leastStep ok vs) (-1, -1)
def okF (j : Job) (pipe : Nat) (height : Int) (s : Nat) : Bool := possAt j pipe s && decide (j.secs[s]!.height ≤ height)

theorem range_get (n i : Nat) (h : i < n) : (List.range n)[i]?.getD 0 = i := by simp [h]

variable {C : CC} (hC : Closed prog C)
include hC
theorem least_c (j : Job) (b : Bool) (vs : List Int) (pipe : Nat) (height : Int) (hp : pipe < j.below.l.length) (hv : vs.length ≤ j.secs.length) (hs : j.secs.length < 2 ^ 62) :
    C 40 [treeD j, slx b (vs.map fun n => [.int .i64 n]), .int .i64 pipe, .int .i64 height] (.tup [.int .i64 (leastF (okF j pipe height) vs).1, .int .i64 (leastF (okF j pipe height) vs).2]) [] := by
  obtain ⟨r, hr⟩ : ∃ r, r = leastF (okF j pipe height) vs := ⟨_, rfl⟩
  rw [← hr]
  refine start hC (nf := N40_sizing_tree_least) rfl rfl ?_
  simp [N40_sizing_tree_least]
  refine loop_of (Nat × Int × Int) (fun s => [(0, treeD j), (2, .int .i64 pipe), (3, .int .i64 height), (10, .int .i64 s.2.1), (11, .int .i64 s.2.2), (14, slx b (vs.map fun n => [.int .i64 n])), (15, .int .i64 vs.length), (16, .int .i64 s.1)])
    (fun s => s.1 ≤ vs.length ∧ s.2 = (List.range s.1).foldl (leastStep (okF j pipe height) vs) (-1, -1)) (fun s => vs.length - s.1) (0, -1, -1) (by simp) (by simp) ?_
  rintro ⟨i, best, at_⟩ ⟨hi, hst⟩
  simp only at hi hst
  simp
  refine brB_of (fun h => ?_) (fun h => ?_) <;> simp at h <;> simp [h]
  · have hw : IntKind.wrap .i64 ((i : Int) + 1) = ((i + 1 : Nat) : Int) := wrap_i64 (by omega) (by omega)
    have his : i < j.secs.length := by omega
    have hstep : (List.range (i + 1)).foldl (leastStep (okF j pipe height) vs) (-1, -1) = leastStep (okF j pipe height) vs (best, at_) i := by
      rw [List.range_succ, List.foldl_append, ← hst]; rfl
    have eo : okF j pipe height i = (possAt j pipe i && decide (j.secs[i].height ≤ height)) := by simp only [okF, getElem!_pos j.secs i his]
    simp only [leastStep, getElem!_pos vs i h, eo] at hstep
    have next : ∀ (x y : Int), (x, y) = (List.range (i + 1)).foldl (leastStep (okF j pipe height) vs) (-1, -1) → ∃ a a_1 b_1, (a ≤ vs.length ∧ (a_1, b_1) = (List.range a).foldl (leastStep (okF j pipe height) vs) (-1, -1)) ∧ vs.length - a < vs.length - i ∧ x = a_1 ∧ y = b_1 ∧ (i : Int) + 1 = (a : Int) := fun x y e => ⟨i + 1, x, y, ⟨by omega, e⟩, by omega, rfl, rfl, rfl⟩
    refine brB_of (fun c1 => ?_) (fun c1 => ?_) <;> simp [h] at c1 <;> simp [c1, h, treeD_eq, jobC_eq, hp, possD, his, bl, secC_eq, hw]
    · refine brB_of (fun c2 => ?_) (fun c2 => ?_) <;> simp [c1, c2, h, treeD_eq, jobC_eq, hp, possD, his, bl, secC_eq, hw]
      · refine brB_of (fun c3 => ?_) (fun c3 => ?_) <;> simp at c3 <;> simp [c1, c2, c3, h, treeD_eq, jobC_eq, hp, possD, his, bl, secC_eq, hw]
        · refine brB_of (fun c4 => ?_) (fun c4 => ?_) <;> simp at c4 <;> simp [c1, c2, c3, c4, hw, treeD_eq, jobC_eq]
          · exact next vs[i] i (by rw [hstep]; simp [c1, c2, c3, c4])
          · refine brB_of (fun c5 => ?_) (fun c5 => ?_) <;> simp at c5 <;> simp [c1, c2, c3, c4, c5, hw, treeD_eq, jobC_eq]
            · exact next vs[i] i (by rw [hstep]; simp [c1, c2, c3, c4, c5])
            · exact next best at_ (by rw [hstep]; simp [c1, c2, c3, c4, show ¬ vs[i] < best by omega])
        · exact next best at_ (by rw [hstep]; simp [c1, c2, show ¬ j.secs[i].height ≤ height by omega])
      · exact next best at_ (by rw [hstep]; simp [c1, c2])
    · exact next best at_ (by rw [hstep]; simp [c1])
  · have : i = vs.length := by omega
    subst this
    rw [hr, leastF, ← hst]
    simp
end Go.Gv

set_option linter.unusedSimpArgs false
namespace Go.Gv

def sumG (v : Nat → Int) : List Nat → Int → Option Int
  | [], s => some s
  | a :: l, s => if v a = -1 then none else sumG v l (IntKind.wrap .i64 (s + v a))
def lv (j : Job) (val : Nat → List Int) (h : Int) (a : Nat) : Int := (leastF (okF j a h) (val a)).1
def costF (j : Job) (val : Nat → List Int) (i s : Nat) : Int := (sumG (lv j val j.secs[s]!.height) (aboveF j i) (IntKind.wrap .i64 (j.lengths.l[i]! * j.secs[s]!.price))).getD (-1)
def rowsF (vals : List SlI) (a : Nat) : List Int := vals[a]!.l

theorem above_lt {j : Job} {i a : Nat} (h : a ∈ aboveF j i) : a < j.below.l.length := by
  simp only [aboveF, List.mem_filter, List.mem_range] at h
  exact h.1
theorem above_len (j : Job) (i : Nat) : (aboveF j i).length ≤ j.below.l.length := by
  have := List.length_filter_le (fun a => decide (j.below.l[a]! = (i : Int))) (List.range j.below.l.length)
  simpa [aboveF] using this
def rootsF (j : Job) : List Nat := (List.range j.below.l.length).filter fun a => decide (j.below.l[a]! = -1)
def boundF (j : Job) (val : Nat → List Int) : Int := (sumG (lv j val 4194304) (rootsF j) 0).getD (-1)

variable {C : CC} (hC : Closed prog C)
include hC
theorem cost_c (j : Job) (b : Bool) (vals : List SlI) (pipe s : Nat) (hp : pipe < j.below.l.length) (hl : pipe < j.lengths.l.length) (hs : s < j.secs.length) (hn : j.below.l.length < 2 ^ 62) (hm : j.secs.length < 2 ^ 62) (hva : ∀ a ∈ aboveF j pipe, a < vals.length ∧ vals[a]!.l.length ≤ j.secs.length) :
    C 31 [treeD j, slx b (vals.map fun r => [slI r]), .int .i64 pipe, .int .i64 s] (.int .i64 (costF j (rowsF vals) pipe s)) [] := by
  obtain ⟨r, hr⟩ : ∃ r, r = costF j (rowsF vals) pipe s := ⟨_, rfl⟩
  rw [← hr]
  have hal := above_len j pipe
  refine start hC (nf := N31_sizing_tree_cost) rfl rfl ?_
  simp [N31_sizing_tree_cost]
  simp [treeD_eq, jobC_eq, hp, hl, hs, secC_eq, aboveD]
  refine ⟨indW_of (by decide +kernel), ?_⟩
  refine loop_of (Nat × Int) (fun s' => [(0, treeD j), (1, slx b (vals.map fun r => [slI r])), (3, .int .i64 s), (9, .int .i64 s'.2), (38, .sl ((aboveF j pipe).map it)), (39, .int .i64 (aboveF j pipe).length), (40, .int .i64 s'.1)])
    (fun s' => s'.1 ≤ (aboveF j pipe).length ∧ (sumG (lv j (rowsF vals) j.secs[s].height) ((aboveF j pipe).drop s'.1) s'.2).getD (-1) = r) (fun s' => (aboveF j pipe).length - s'.1) (0, IntKind.wrap .i64 (j.lengths.l[pipe] * j.secs[s].price)) ⟨by simp, ?_⟩ (by simp [treeD_eq, jobC_eq]) ?_
  · rw [hr, costF, getElem!_pos j.secs s hs, getElem!_pos j.lengths.l pipe hl]; rfl
  rintro ⟨k, sum⟩ ⟨hk, hsum⟩
  simp only at hk hsum
  simp
  refine brB_of (fun h => ?_) (fun h => ?_) <;> simp at h <;> simp [h]
  · have hw : IntKind.wrap .i64 ((k : Int) + 1) = ((k + 1 : Nat) : Int) := wrap_i64 (by omega) (by omega)
    obtain ⟨a, ha⟩ : ∃ a, a = (aboveF j pipe)[k] := ⟨_, rfl⟩
    have hmem : a ∈ aboveF j pipe := ha ▸ List.getElem_mem h
    obtain ⟨ha1, ha2⟩ := hva a hmem
    have hd : (aboveF j pipe).drop k = a :: (aboveF j pipe).drop (k + 1) := by rw [ha, List.drop_eq_getElem_cons h]
    rw [hd, sumG] at hsum
    rw [getElem!_pos vals a ha1] at ha2
    have hlc := least_c hC j vals[a].n vals[a].l a j.secs[s].height (above_lt hmem) ha2 hm
    have ev : (leastF (okF j a j.secs[s].height) vals[a].l).1 = lv j (rowsF vals) j.secs[s].height a := by simp only [lv, rowsF, getElem!_pos vals a ha1]
    rw [ev] at hlc
    simp [h, it, ← ha, ha1]
    simp [treeD_eq, jobC_eq, hp, hl, hs, secC_eq, h, it, ← ha, ha1]
    simp [treeD_eq, jobC_eq] at hlc
    refine callW_of hlc (.inl rfl) ?_
    simp
    refine ⟨indW_of (by decide +kernel), ?_⟩
    refine brB_of (fun c => ?_) (fun c => ?_) <;> simp at c <;> simp [c, hw, treeD_eq, jobC_eq]
    · rw [if_pos c] at hsum
      simp at hsum
      exact hsum
    · rw [if_neg c] at hsum
      exact ⟨k + 1, _, ⟨by omega, hsum⟩, by omega, rfl, rfl⟩
  · have hk' : k = (aboveF j pipe).length := by omega
    subst hk'
    simp [sumG] at hsum
    simp [hsum]
theorem bound_c (j : Job) (b : Bool) (vals : List SlI) (hn : j.below.l.length < 2 ^ 62) (hm : j.secs.length < 2 ^ 62) (hva : ∀ a ∈ rootsF j, a < vals.length ∧ vals[a]!.l.length ≤ j.secs.length) :
    C 32 [treeD j, slx b (vals.map fun r => [slI r])] (.int .i64 (boundF j (rowsF vals))) [] := by
  obtain ⟨r, hr⟩ : ∃ r, r = boundF j (rowsF vals) := ⟨_, rfl⟩
  rw [← hr]
  refine start hC (nf := N32_sizing_tree_bound) rfl rfl ?_
  simp [N32_sizing_tree_bound]
  simp [treeD_eq, jobC_eq]
  refine loop_of (Nat × Int) (fun s' => [(0, treeD j), (1, slx b (vals.map fun r => [slI r])), (5, .int .i64 s'.2), (14, slI j.below), (15, .int .i64 j.below.l.length), (16, .int .i64 s'.1)])
    (fun s' => s'.1 ≤ j.below.l.length ∧ (sumG (lv j (rowsF vals) 4194304) (((List.range j.below.l.length).drop s'.1).filter fun a => decide (j.below.l[a]! = -1)) s'.2).getD (-1) = r) (fun s' => j.below.l.length - s'.1) (0, 0) ⟨by simp, ?_⟩ (by simp [treeD_eq, jobC_eq]) ?_
  · rw [hr, boundF]; rfl
  rintro ⟨k, sum⟩ ⟨hk, hsum⟩
  simp only at hk hsum
  simp
  refine brB_of (fun h => ?_) (fun h => ?_) <;> simp at h <;> simp [h]
  · have hw : IntKind.wrap .i64 ((k : Int) + 1) = ((k + 1 : Nat) : Int) := wrap_i64 (by omega) (by omega)
    have hd : (List.range j.below.l.length).drop k = k :: (List.range j.below.l.length).drop (k + 1) := by rw [List.drop_eq_getElem_cons (by simpa using h)]; simp
    rw [hd, List.filter_cons, getElem!_pos j.below.l k h] at hsum
    refine brB_of (fun c1 => ?_) (fun c1 => ?_) <;> simp [h] at c1 <;> simp [c1, hw, h]
    · simp [c1] at hsum
      exact ⟨k + 1, sum, ⟨by omega, by simpa using hsum⟩, by omega, rfl, rfl⟩
    · have hmem : k ∈ rootsF j := by simp [rootsF, h, c1]
      obtain ⟨ha1, ha2⟩ := hva k hmem
      rw [getElem!_pos vals k ha1] at ha2
      have hlc := least_c hC j vals[k].n vals[k].l k 4194304 h ha2 hm
      have ev : (leastF (okF j k 4194304) vals[k].l).1 = lv j (rowsF vals) 4194304 k := by simp only [lv, rowsF, getElem!_pos vals k ha1]
      rw [ev] at hlc
      simp only [c1, decide_true, if_true, sumG] at hsum
      simp [treeD_eq, jobC_eq, h, ha1]
      simp [treeD_eq, jobC_eq] at hlc
      refine callW_of hlc (.inl rfl) ?_
      simp
      refine brB_of (fun c => ?_) (fun c => ?_) <;> simp at c <;> simp [c, hw, treeD_eq, jobC_eq]
      · rw [if_pos c] at hsum
        simp at hsum
        exact hsum
      · rw [if_neg c] at hsum
        exact ⟨k + 1, _, ⟨by omega, by simpa using hsum⟩, by omega, rfl, rfl⟩
  · have hk' : k = j.below.l.length := by omega
    subst hk'
    rw [List.drop_of_length_le (by simp)] at hsum
    simp [sumG] at hsum
    exact hsum
end Go.Gv

set_option linter.unusedSimpArgs false
namespace Go.Gv

def rowOf (j : Job) (val : Nat → List Int) (i : Nat) : List Int := (List.range j.secs.length).map fun s => if possAt j i s then costF j val i s else -1
def valsUp (j : Job) : Nat → List (List Int)
  | 0 => []
  | i + 1 => valsUp j i ++ [rowOf j (fun a => (valsUp j i)[a]!) i]
def valsF (j : Job) : List (List Int) := valsUp j j.below.l.length
def valN (j : Job) (a : Nat) : List Int := (valsF j)[a]!
def slR (r : List Int) : List D := [.sl (r.map fun v => [.int .i64 v])]
def valsD (j : Job) : D := .sl ((List.range j.below.l.length).map fun a => slR (valN j a))

theorem valsUp_len (j : Job) : ∀ i, (valsUp j i).length = i
  | 0 => rfl
  | i + 1 => by simp [valsUp, valsUp_len j i]
theorem valsUp_get (j : Job) (a : Nat) : ∀ i, a < i → (valsUp j i)[a]! = rowOf j (fun b => (valsUp j a)[b]!) a
  | 0, h => by omega
  | i + 1, h => by
    have hl := valsUp_len j i
    by_cases e : a = i
    · subst e
      rw [getElem!_pos _ a (by rw [valsUp_len]; omega)]
      simp only [valsUp]
      rw [List.getElem_append_right (by omega)]
      simp [hl]
    · have := valsUp_get j a i (by omega)
      rw [getElem!_pos _ a (by rw [valsUp_len]; omega)] at this ⊢
      simp only [valsUp]
      rw [List.getElem_append_left (by omega)]
      exact this
theorem sumG_congr {v v' : Nat → Int} : ∀ {l : List Nat} {s : Int}, (∀ a ∈ l, v a = v' a) → sumG v l s = sumG v' l s
  | [], s, _ => rfl
  | a :: l, s, h => by
    simp only [sumG]
    rw [h a (by simp), sumG_congr (fun b hb => h b (by simp [hb]))]
theorem costF_congr {j : Job} {val val' : Nat → List Int} {i s : Nat} (h : ∀ a ∈ aboveF j i, val a = val' a) : costF j val i s = costF j val' i s := by
  unfold costF
  rw [sumG_congr (v' := lv j val' j.secs[s]!.height) (fun a ha => by simp only [lv, h a ha])]
theorem valid_below {j : Job} (hv : jobValid j = true) {i : Nat} (hi : i < j.below.l.length) : j.below.l[i]! = -1 ∨ ((i : Int) < j.below.l[i]! ∧ j.below.l[i]! < j.below.l.length) := by
  simp only [jobValid, Bool.and_eq_true, List.all_eq_true, List.mem_range] at hv
  have := hv.2 i hi
  simp only [pipeOk, Bool.and_eq_true, Bool.or_eq_true, beq_iff_eq, decide_eq_true_eq] at this
  exact this.1.1.1.1
theorem above_less {j : Job} (hv : jobValid j = true) {i a : Nat} (h : a ∈ aboveF j i) : a < i := by
  have h1 := above_lt h
  simp only [aboveF, List.mem_filter, decide_eq_true_eq] at h
  rcases valid_below hv h1 with h2 | h2 <;> omega
/-- What the values are. -/
theorem valN_eq {j : Job} (hv : jobValid j = true) {i : Nat} (hi : i < j.below.l.length) : valN j i = rowOf j (valN j) i := by
  unfold valN valsF
  rw [valsUp_get j i _ hi]
  unfold rowOf
  refine List.map_congr_left fun s _ => ?_
  rw [costF_congr (val' := fun a => (valsUp j j.below.l.length)[a]!)]
  intro a ha
  have h1 := above_less hv ha
  rw [valsUp_get j a i h1, valsUp_get j a _ (by omega)]
theorem valN_len {j : Job} {i : Nat} (hi : i < j.below.l.length) : (valN j i).length = j.secs.length := by
  unfold valN valsF
  rw [valsUp_get j i _ hi]
  simp [rowOf]

theorem set_range_map {α : Type} (F : Nat → α) (n i : Nat) (x : α) : ((List.range n).map F).set i x = (List.range n).map (fun k => if k = i then x else F k) := by
  apply List.ext_getElem
  · simp
  · intro k h1 h2
    simp only [List.getElem_set, List.getElem_map, List.getElem_range]
    by_cases e : i = k
    · subst e; simp
    · rw [if_neg e, if_neg (Ne.symm e)]
theorem replicate_range {α : Type} (n : Nat) (x : α) : List.replicate n x = (List.range n).map fun _ => x := by
  apply List.ext_getElem <;> simp

/-- The rows that are done. -/
def outR (j : Job) (i s k : Nat) : List Int := if k < i then valN j k else if k = i then (valN j i).take s else []
def outB (j : Job) (i s : Nat) : D := .blk 1 ((List.range j.below.l.length).map fun k => [.own 1 ((outR j i s k).map fun v => [.int .i64 v])])
theorem outB_eq {j i s} : outB j i s = .blk 1 ((List.range j.below.l.length).map fun k => [.own 1 ((outR j i s k).map fun v => [.int .i64 v])]) := _root_.id rfl
theorem outB_step {j : Job} {i s : Nat} (hi : i < j.below.l.length) (hs : s < j.secs.length) :
    D.blk 1 (((List.range j.below.l.length).map fun k => [D.own 1 ((outR j i s k).map fun v => [.int .i64 v])]).set i [.own 1 (((outR j i s i).map fun v => [.int .i64 v]) ++ [[.int .i64 ((valN j i)[s]!)]])]) = outB j i (s + 1) := by
  rw [outB_eq, set_range_map]
  congr 1
  refine List.map_congr_left fun k _ => ?_
  by_cases e : k = i
  · subst e
    rw [if_pos rfl]
    have hl : s < (valN j k).length := by rw [valN_len hi]; exact hs
    simp only [outR, Nat.lt_irrefl, if_false, if_true]
    rw [getElem!_pos _ s hl, List.take_succ_eq_append_getElem hl, List.map_append]
    rfl
  · rw [if_neg e]
    simp only [outR, if_neg e]
theorem outR_i {j : Job} {i s : Nat} : outR j i s i = (valN j i).take s := by simp [outR]
theorem outB_next {j : Job} {i : Nat} : outB j i j.secs.length = outB j (i + 1) 0 := by
  rw [outB_eq, outB_eq]
  congr 1
  refine List.map_congr_left fun k hk => ?_
  have hk : k < j.below.l.length := by simpa using hk
  congr 3
  unfold outR
  by_cases e : k = i
  · subst e
    rw [if_neg (by omega), if_pos rfl, if_pos (by omega), List.take_of_length_le (by rw [valN_len hk]; exact Nat.le_refl _)]
  · by_cases e2 : k < i
    · rw [if_pos e2, if_pos (by omega)]
    · rw [if_neg e2, if_neg e, if_neg (by omega)]
      split <;> simp
theorem ints_c1 {xs : List Int} {v : Int} (e : List D) (h : (∃ a, a ∈ xs ∧ [D.int .i64 a] = e) ∨ e = [D.int .i64 v]) (c : D) (hc : c ∈ e) : isC1 c = true := by
  rcases h with ⟨n, _, rfl⟩ | rfl
  · simp at hc; subst hc; rfl
  · simp at hc; subst hc; rfl

variable {C : CC} (hC : Closed prog C)
include hC
theorem values_c (j : Job) (hv : jobValid j = true) : C 39 [treeD j] (valsD j) [] := by
  have hn : j.below.l.length ≤ 400 := by simp only [jobValid, Bool.and_eq_true, decide_eq_true_eq] at hv; omega
  have hm : j.secs.length ≤ 40 := by simp only [jobValid, catValid, Bool.and_eq_true, decide_eq_true_eq] at hv; omega
  have hlen : j.lengths.l.length = j.below.l.length := by simp only [jobValid, Bool.and_eq_true, decide_eq_true_eq] at hv; omega
  refine start hC (nf := N39_sizing_tree_values) rfl rfl ?_
  simp [N39_sizing_tree_values]
  simp [treeD_eq, jobC_eq]
  refine ⟨by omega, ?_⟩
  refine loop_of Nat (fun i => [(0, treeD j), (3, .ref (.r 10048) 0 j.below.l.length), (10048, outB j i 0), (15, .int .i64 j.below.l.length), (16, .int .i64 i)])
    (fun i => i ≤ j.below.l.length) (fun i => j.below.l.length - i) 0 (by simp) (by simp [treeD_eq, jobC_eq, outB, outR, replicate_range]) ?_
  intro i hi
  simp
  refine brB_of (fun h => ?_) (fun h => ?_) <;> simp at h <;> simp [h]
  · have hw : IntKind.wrap .i64 ((i : Int) + 1) = ((i + 1 : Nat) : Int) := wrap_i64 (by omega) (by omega)
    simp [treeD_eq, jobC_eq]
    refine loop_of Nat (fun s => [(0, treeD j), (3, .ref (.r 10048) 0 j.below.l.length), (10048, outB j i s), (4, .int .i64 i), (15, .int .i64 j.below.l.length), (16, .int .i64 i), (24, .int .i64 j.secs.length), (25, .int .i64 s)])
      (fun s => s ≤ j.secs.length) (fun s => j.secs.length - s) 0 (by simp) (by simp [treeD_eq, jobC_eq]) ?_
    intro s hs
    simp
    refine brB_of (fun h2 => ?_) (fun h2 => ?_) <;> simp at h2 <;> simp [h2]
    · have hw2 : IntKind.wrap .i64 ((s : Int) + 1) = ((s + 1 : Nat) : Int) := wrap_i64 (by omega) (by omega)
      simp [treeD_eq, jobC_eq, h, possD, h2, bl]
      have hval : (valN j i)[s]! = if possAt j i s then costF j (valN j) i s else -1 := by
        rw [valN_eq hv h, rowOf, getElem!_pos _ s (by simpa using h2)]
        simp
      have hst := outB_step h h2
      have ht : List.take (outR j i s i).length (List.map (fun n => [D.int IntKind.i64 n]) (outR j i s i)) = List.map (fun n => [D.int IntKind.i64 n]) (outR j i s i) := List.take_of_length_le (by simp)
      have hol : (outR j i s i).length ≤ 40 := by simp [outR]; omega
      refine brB_of (fun h3 => ?_) (fun h3 => ?_) <;> simp [h3, outB_eq]
      · have hc := cost_c hC j false ((List.range j.below.l.length).map fun k => ⟨false, outR j i s k⟩) i s h (by omega) h2 (by omega) (by omega) (fun a ha => by
          have h4 := above_less hv ha
          have h5 := above_lt ha
          rw [getElem!_pos _ a (by simpa using h5)]
          simp [h5, outR, h4, valN_len h5])
        rw [costF_congr (val' := valN j) (fun a ha => by
          have h4 := above_less hv ha
          have h5 := above_lt ha
          rw [rowsF, getElem!_pos _ a (by simpa using h5)]
          simp [outR, h4])] at hc
        rw [h3, if_pos rfl] at hval
        rw [hval] at hst
        simp [treeD_eq, jobC_eq] at hc
        refine callW_of (d := .int .i64 (costF j (valN j) i s)) ?_ (.inl rfl) ?_
        · rw [List.take_of_length_le (by simp)]
          exact hc
        · simp [h, ht, hw2]
          exact ⟨by omega, ints_c1, s + 1, by omega, by omega, by simp [treeD_eq, jobC_eq], hst, rfl⟩
      · simp [h, ht, hw2]
        rw [h3, if_neg Bool.false_ne_true] at hval
        rw [hval] at hst
        exact ⟨by omega, ints_c1, s + 1, by omega, by omega, by simp [treeD_eq, jobC_eq], hst, rfl⟩
    · have : s = j.secs.length := by omega
      subst this
      simp [hw]
      exact ⟨i + 1, by omega, by omega, outB_next, rfl⟩
  · have : i = j.below.l.length := by omega
    subst this
    simp [outB_eq, valsD, slR]
    rw [List.take_of_length_le (by simp)]
    refine List.map_congr_left fun k hk => ?_
    simp at hk
    simp [outR, hk]
end Go.Gv

set_option linter.unusedSimpArgs false
namespace Go.Gv

def possRow (j : Job) (i : Nat) : List Bool := (List.range j.secs.length).map (possAt j i)
def possR (j : Job) (i s k : Nat) : List Bool := if k < i then possRow j k else if k = i then (possRow j i).take s else []
def possB (j : Job) (i s : Nat) : D := .blk 1 ((List.range j.below.l.length).map fun k => [.own 1 ((possR j i s k).map bl)])
def abovR (j : Job) (i k : Nat) : List Nat := (List.range i).filter fun a => decide (j.below.l[a]! = (k : Int))
def abovB (j : Job) (i : Nat) : D := .blk 1 ((List.range j.below.l.length).map fun k => [.own 1 ((abovR j i k).map it)])
theorem possB_eq {j i s} : possB j i s = .blk 1 ((List.range j.below.l.length).map fun k => [.own 1 ((possR j i s k).map bl)]) := _root_.id rfl
theorem abovB_eq {j i} : abovB j i = .blk 1 ((List.range j.below.l.length).map fun k => [.own 1 ((abovR j i k).map it)]) := _root_.id rfl
theorem bl_eq {b} : bl b = [.bool b] := _root_.id rfl
theorem it_eq {n} : it n = [.int .i64 (n : Int)] := _root_.id rfl

@[simp] theorem jobC_mr {j : Job} : List.flatMap mroots1 (jobC j) = [] := by simp [jobC]
@[simp] theorem jobC_any {j : Job} {b : Nat} {all : Bool} : List.any (jobC j) (ment1 b all) = false := by simp [jobC]
@[simp] theorem kill1_possB {ks j i s} : kill1 ks (possB j i s) = possB j i s := by unfold possB; exact kill1_blk
@[simp] theorem kill1_abovB {ks j i} : kill1 ks (abovB j i) = abovB j i := by unfold abovB; exact kill1_blk
@[simp] theorem isB_possB {j i s} : isB (possB j i s) = true := _root_.id rfl
@[simp] theorem isB_abovB {j i} : isB (abovB j i) = true := _root_.id rfl

theorem possB_step {j : Job} {i s : Nat} (hs : s < j.secs.length) :
    D.blk 1 (((List.range j.below.l.length).map fun k => [D.own 1 ((possR j i s k).map bl)]).set i [.own 1 (((possR j i s i).map bl) ++ [[.bool (possAt j i s)]])]) = possB j i (s + 1) := by
  rw [possB_eq, set_range_map]
  congr 1
  refine List.map_congr_left fun k _ => ?_
  by_cases e : k = i
  · subst e
    rw [if_pos rfl]
    have hl : s < (possRow j k).length := by simpa [possRow] using hs
    simp only [possR, Nat.lt_irrefl, if_false, if_true]
    rw [List.take_succ_eq_append_getElem hl, List.map_append]
    simp [possRow, bl]
  · rw [if_neg e]
    simp only [possR, if_neg e]
theorem possB_next {j : Job} {i : Nat} : possB j i j.secs.length = possB j (i + 1) 0 := by
  rw [possB_eq, possB_eq]
  congr 1
  refine List.map_congr_left fun k _ => ?_
  congr 3
  unfold possR
  by_cases e : k = i
  · subst e
    rw [if_neg (by omega), if_pos rfl, if_pos (by omega), List.take_of_length_le (by simp [possRow])]
  · by_cases e2 : k < i
    · rw [if_pos e2, if_pos (by omega)]
    · rw [if_neg e2, if_neg e, if_neg (by omega)]
      split <;> simp
theorem abovR_succ {j : Job} {i k : Nat} : abovR j (i + 1) k = abovR j i k ++ (if j.below.l[i]! = (k : Int) then [i] else []) := by
  unfold abovR
  rw [List.range_succ, List.filter_append]
  congr 1
  rw [List.filter_cons, List.filter_nil]
  by_cases e : j.below.l[i]! = (k : Int)
  · rw [if_pos e, if_pos (by simp only [decide_eq_true_eq]; exact e)]
  · rw [if_neg e, if_neg (by simp only [decide_eq_true_eq]; exact e)]
theorem abovB_none {j : Job} {i : Nat} (h : j.below.l[i]! = -1) : abovB j i = abovB j (i + 1) := by
  rw [abovB_eq, abovB_eq]
  congr 1
  refine List.map_congr_left fun k _ => ?_
  rw [abovR_succ, if_neg (by omega), List.append_nil]
theorem abovB_some {j : Job} {i b : Nat} (h : j.below.l[i]! = (b : Int)) :
    D.blk 1 (((List.range j.below.l.length).map fun k => [D.own 1 ((abovR j i k).map it)]).set b [.own 1 (((abovR j i b).map it) ++ [[.int .i64 (i : Int)]])]) = abovB j (i + 1) := by
  rw [abovB_eq, set_range_map]
  congr 1
  refine List.map_congr_left fun k _ => ?_
  rw [abovR_succ]
  by_cases e : k = b
  · subst e
    rw [if_pos rfl, if_pos h, List.map_append]
    rfl
  · rw [if_neg e, if_neg (by omega), List.append_nil]
theorem abovR_len {j : Job} {i k : Nat} : (abovR j i k).length ≤ i := by
  have := List.length_filter_le (fun a => decide (j.below.l[a]! = (k : Int))) (List.range i)
  simpa [abovR] using this

variable {C : CC} (hC : Closed prog C)
include hC
set_option maxRecDepth 4000 in
set_option maxHeartbeats 4000000 in
theorem treeOf_c (j : Job) (hv : jobValid j = true) : C 30 [.agg (jobC j)] (treeD j) [] := by
  have hn : j.below.l.length ≤ 400 := by simp only [jobValid, Bool.and_eq_true, decide_eq_true_eq] at hv; omega
  have hm : j.secs.length ≤ 40 := by simp only [jobValid, catValid, Bool.and_eq_true, decide_eq_true_eq] at hv; omega
  have hlen : j.lengths.l.length = j.below.l.length := by simp only [jobValid, Bool.and_eq_true, decide_eq_true_eq] at hv; omega
  have hlen2 : j.flows.l.length = j.below.l.length := by simp only [jobValid, Bool.and_eq_true, decide_eq_true_eq] at hv; omega
  have hlen3 : j.falls.l.length = j.below.l.length := by simp only [jobValid, Bool.and_eq_true, decide_eq_true_eq] at hv; omega
  have hlen4 : j.room.l.length = j.below.l.length := by simp only [jobValid, Bool.and_eq_true, decide_eq_true_eq] at hv; omega
  refine start hC (nf := N30_sizing_treeOf) rfl rfl ?_
  simp [N30_sizing_treeOf, jobC_eq]
  refine ⟨by omega, indW_of (by decide +kernel), ?_⟩
  refine loop_of Nat (fun i => [(1, .ptr (jobC j)), (3, .ptx (jobC j ++ [.ref (.r 10224) 0 j.below.l.length, .ref (.r 10288) 0 j.below.l.length])), (10224, possB j i 0), (10288, abovB j i), (22, slI j.below), (23, .int .i64 j.below.l.length), (24, .int .i64 i)])
    (fun i => i ≤ j.below.l.length) (fun i => j.below.l.length - i) 0 (by simp) (by simp [jobC_eq, possB_eq, abovB_eq, possR, abovR, replicate_range]) ?_
  intro i hi
  simp
  refine brB_of (fun h => ?_) (fun h => ?_) <;> simp at h <;> simp [h]
  · have hw : IntKind.wrap .i64 ((i : Int) + 1) = ((i + 1 : Nat) : Int) := wrap_i64 (by omega) (by omega)
    have hb := valid_below hv h
    have hbs : j.below.l[i]! = j.below.l[i] := getElem!_pos j.below.l i h
    rw [hbs] at hb
    have inner : ∀ {Q : NExit → Env → Prop}, True := fun {Q} => trivial
    refine brB_of (fun c1 => ?pa) (fun c1 => ?pb) <;> simp at c1 <;> simp [c1]
    case' pa =>
      obtain ⟨bn, hbn⟩ : ∃ bn : Nat, j.below.l[i] = (bn : Int) := ⟨j.below.l[i].toNat, by omega⟩
      have hb1 : bn < j.below.l.length := by omega
      have hst := abovB_some (j := j) (i := i) (b := bn) (by rw [hbs, hbn])
      have hol : (abovR j i bn).length ≤ i := abovR_len
      have ht : List.take (abovR j i bn).length (List.map it (abovR j i bn)) = List.map it (abovR j i bn) := List.take_of_length_le (by simp)
      simp [abovB_eq, jobC_eq, hbn, hb1, ht]
      refine ⟨by omega, ?_, indW_of (by decide +kernel), ?_⟩
      · rintro e (⟨a, _, rfl⟩ | rfl) c hc
        · simp [it] at hc; subst hc; rfl
        · simp at hc; subst hc; rfl
      simp [hst]
    case' pb =>
      have hst := abovB_none (j := j) (i := i) (by rw [hbs, c1])
      simp [jobC_eq, hst]
    all_goals
      refine loop_of Nat (fun s => [(1, .ptr (jobC j)), (3, .ptx (jobC j ++ [.ref (.r 10224) 0 j.below.l.length, .ref (.r 10288) 0 j.below.l.length])), (10224, possB j i s), (10288, abovB j (i + 1)), (4, .int .i64 i), (22, slI j.below), (23, .int .i64 j.below.l.length), (24, .int .i64 i), (48, slx j.secN (j.secs.map secC)), (49, .int .i64 j.secs.length), (50, .int .i64 s)])
        (fun s => s ≤ j.secs.length) (fun s => j.secs.length - s) 0 (by simp) (by simp [jobC_eq]) ?_
      intro s hs
      simp
      refine brB_of (fun h2 => ?_) (fun h2 => ?_) <;> simp at h2 <;> simp [h2]
      · have hw2 : IntKind.wrap .i64 ((s : Int) + 1) = ((s + 1 : Nat) : Int) := wrap_i64 (by omega) (by omega)
        have g3 : i < j.falls.l.length := by omega
        have g2 : i < j.lengths.l.length := by omega
        have g4 : i < j.flows.l.length := by omega
        have g5 : i < j.room.l.length := by omega
        have hF := Full_c hC j.secs[s] j.falls.l[i] j.lengths.l[i]
        have hp : possAt j i s = (((fullF j.secs[s] j.falls.l[i] j.lengths.l[i]).2 == 5 || ((fullF j.secs[s] j.falls.l[i] j.lengths.l[i]).2 == 0 && decide (j.flows.l[i] ≤ (fullF j.secs[s] j.falls.l[i] j.lengths.l[i]).1))) && decide (j.secs[s].height ≤ j.room.l[i])) := by
          simp only [possAt, getElem!_pos j.secs s h2, getElem!_pos j.falls.l i g3, getElem!_pos j.lengths.l i g2, getElem!_pos j.flows.l i g4, getElem!_pos j.room.l i g5]
        obtain ⟨q, hq⟩ : ∃ q, q = (fullF j.secs[s] j.falls.l[i] j.lengths.l[i]).1 := ⟨_, rfl⟩
        obtain ⟨e, he⟩ : ∃ e, e = (fullF j.secs[s] j.falls.l[i] j.lengths.l[i]).2 := ⟨_, rfl⟩
        rw [← hq, ← he] at hF hp
        have hst2 := possB_step (i := i) h2
        rw [hp] at hst2
        have hol2 : (possR j i s i).length ≤ 40 := by simp [possR, possRow]; omega
        have ht2 : List.take (possR j i s i).length (List.map bl (possR j i s i)) = List.map bl (possR j i s i) := List.take_of_length_le (by simp)
        simp [jobC_eq, h, h2, secC_eq, g2, g3]
        simp [secC_eq] at hF
        refine callW_of hF (.inl rfl) ?_
        simp
        refine ⟨indW_of (by decide +kernel), ?_⟩
        simp [possB_eq, h, ht2, jobC_eq]
        have fin : ∀ b : Bool, possAt j i s = b → ∃ s', s' ≤ j.secs.length ∧ j.secs.length - s' < j.secs.length - s ∧ D.blk 1 (((List.range j.below.l.length).map fun k => [D.own 1 ((possR j i s k).map bl)]).set i [.own 1 (((possR j i s i).map bl) ++ [[.bool b]])]) = possB j i s' ∧ (s : Int) + 1 = s' := fun b hb => ⟨s + 1, by omega, by omega, by rw [← hb, hp]; exact hst2, rfl⟩
        rw [hp] at fin
        have bls : ∀ (b : Bool) (e : List D), (false ∈ possR j i s i ∧ bl false = e ∨ true ∈ possR j i s i ∧ bl true = e) ∨ e = [D.bool b] → ∀ c, c ∈ e → isC1 c = true := by
          rintro b e ((⟨_, rfl⟩ | ⟨_, rfl⟩) | rfl) c hc
          · simp [bl] at hc; subst hc; rfl
          · simp [bl] at hc; subst hc; rfl
          · simp at hc; subst hc; rfl
        refine brB_of (fun d1 => ?_) (fun d1 => ?_) <;> simp at d1 <;> simp [d1, jobC_eq, g5, h, ht2, hw2]
        · refine ⟨by omega, bls _, indW_of (by decide +kernel), fin _ (by simp [d1])⟩
        · refine brB_of (fun d2 => ?_) (fun d2 => ?_) <;> simp at d2 <;> simp [d2, jobC_eq, g4, g5, h, ht2, hw2]
          · refine brB_of (fun d3 => ?_) (fun d3 => ?_)
            · simp at d3
              simp [d3, jobC_eq, g4, g5, h, ht2, hw2]
              refine ⟨by omega, bls _, indW_of (by decide +kernel), fin _ (by simp [d2, d3])⟩
            · have d3' : ¬ j.flows.l[i] ≤ q := by simpa using d3
              simp [d3', jobC_eq, g4, g5, h, ht2, hw2]
              refine ⟨by omega, bls _, indW_of (by decide +kernel), fin _ (by simp [d2, d3'])⟩
          · refine ⟨by omega, bls _, indW_of (by decide +kernel), fin _ (by simp [d1, d2])⟩
      · have : s = j.secs.length := by omega
        subst this
        simp [hw, jobC_eq]
        exact ⟨i + 1, by omega, by omega, possB_next, rfl, rfl⟩
  · have : i = j.below.l.length := by omega
    subst this
    simp [jobC_eq, or_imp, forall_and, possB_eq, abovB_eq, treeD_eq]
    rw [List.take_of_length_le (by simp), List.take_of_length_le (by simp)]
    constructor
    · refine List.map_congr_left fun k hk => ?_
      simp at hk
      simp [possR, hk, possD, possRow]
    · refine List.map_congr_left fun k hk => ?_
      simp [aboveD, abovR, aboveF]
end Go.Gv

set_option linter.unusedSimpArgs false
namespace Go.Gv

theorem least_spec (ok : Nat → Bool) (vs : List Int) : (leastF ok vs = (-1, -1) ∧ ∀ s, s < vs.length → vs[s]! ≠ -1 → ok s = false) ∨
    ∃ s, s < vs.length ∧ leastF ok vs = (vs[s]!, (s : Int)) ∧ vs[s]! ≠ -1 ∧ ok s = true ∧ ∀ s', s' < vs.length → vs[s']! ≠ -1 → ok s' = true → vs[s]! ≤ vs[s']! := by
  have key : ∀ n, n ≤ vs.length → ((List.range n).foldl (leastStep ok vs) (-1, -1) = (-1, -1) ∧ ∀ s, s < n → vs[s]! ≠ -1 → ok s = false) ∨
      ∃ s, s < n ∧ (List.range n).foldl (leastStep ok vs) (-1, -1) = (vs[s]!, (s : Int)) ∧ vs[s]! ≠ -1 ∧ ok s = true ∧ ∀ s', s' < n → vs[s']! ≠ -1 → ok s' = true → vs[s]! ≤ vs[s']! := by
    intro n
    induction n with
    | zero => intro _; exact .inl ⟨rfl, fun s h => by omega⟩
    | succ n ih =>
      intro hn
      rw [List.range_succ, List.foldl_append]
      simp only [List.foldl_cons, List.foldl_nil]
      rcases ih (by omega) with ⟨h1, h2⟩ | ⟨s, h1, h2, h3, h4, h5⟩
      · rw [h1]
        unfold leastStep
        by_cases hc : vs[n]! ≠ -1 ∧ ok n = true
        · rw [if_pos ⟨hc.1, hc.2, .inl rfl⟩]
          refine .inr ⟨n, by omega, rfl, hc.1, hc.2, fun s' hs' hv ho => ?_⟩
          rcases Nat.lt_succ_iff_lt_or_eq.1 hs' with h | rfl
          · rw [h2 s' h hv] at ho; cases ho
          · exact Int.le_refl _
        · rw [if_neg (fun h => hc ⟨h.1, h.2.1⟩)]
          refine .inl ⟨rfl, fun s hs hv => ?_⟩
          rcases Nat.lt_succ_iff_lt_or_eq.1 hs with h | rfl
          · exact h2 s h hv
          · cases ho : ok s with
            | false => rfl
            | true => exact absurd ⟨hv, ho⟩ hc
      · rw [h2]
        unfold leastStep
        by_cases hc : vs[n]! ≠ -1 ∧ ok n = true ∧ vs[n]! < vs[s]!
        · rw [if_pos ⟨hc.1, hc.2.1, .inr hc.2.2⟩]
          refine .inr ⟨n, by omega, rfl, hc.1, hc.2.1, fun s' hs' hv ho => ?_⟩
          rcases Nat.lt_succ_iff_lt_or_eq.1 hs' with h | rfl
          · have := h5 s' h hv ho
            omega
          · exact Int.le_refl _
        · rw [if_neg (fun h => hc ⟨h.1, h.2.1, h.2.2.resolve_left h3⟩)]
          refine .inr ⟨s, by omega, rfl, h3, h4, fun s' hs' hv ho => ?_⟩
          rcases Nat.lt_succ_iff_lt_or_eq.1 hs' with h | rfl
          · exact h5 s' h hv ho
          · exact Int.not_lt.1 fun hlt => hc ⟨hv, ho, hlt⟩
  exact key vs.length (Nat.le_refl _)

theorem sumG_some {v : Nat → Int} : ∀ {l : List Nat} {s t : Int}, sumG v l s = some t → ∀ a ∈ l, v a ≠ -1
  | [], s, t, _, a, ha => by cases ha
  | x :: l, s, t, h, a, ha => by
    simp only [sumG] at h
    split at h
    · cases h
    · rename_i hx
      rcases List.mem_cons.1 ha with rfl | ha
      · exact hx
      · exact sumG_some h a ha
theorem sumG_none {v : Nat → Int} : ∀ {l : List Nat} {s : Int}, sumG v l s = none → ∃ a ∈ l, v a = -1
  | [], s, h => by cases h
  | x :: l, s, h => by
    simp only [sumG] at h
    split at h
    · rename_i hx; exact ⟨x, by simp, hx⟩
    · obtain ⟨a, ha, h1⟩ := sumG_none h
      exact ⟨a, by simp [ha], h1⟩
theorem getD_ne {x : Option Int} (h : x.getD (-1) ≠ -1) : ∃ t, x = some t ∧ x.getD (-1) = t := by
  cases x with
  | none => exact absurd rfl h
  | some t => exact ⟨t, rfl, rfl⟩

/-- The best choice: pipe i's section, from the last pipe on. -/
def hgt (j : Job) (ch : Nat → Int) (i : Nat) : Int := if j.below.l[i]! = -1 then 4194304 else j.secs[(ch (j.below.l[i]!).toNat).toNat]!.height
def pickG (j : Job) (ch : Nat → Int) (i : Nat) : Int := (leastF (okF j i (hgt j ch i)) (valN j i)).2
/-- The choice as it is after k pipes. -/
def chUp (j : Job) : Nat → Nat → Int
  | 0 => fun _ => 0
  | k + 1 => fun i => if i + (k + 1) = j.below.l.length then pickG j (chUp j k) i else chUp j k i
def bestF (j : Job) : List Int := (List.range j.below.l.length).map (chUp j j.below.l.length)
def costB (j : Job) : Int := boundF j (valN j)
/-- What Solve yields. -/
def solveF (j : Job) : Int × (Bool × List Int) × Int := if jobValid j then (if costB j = -1 then (0, (true, []), 28) else (costB j, (false, bestF j), 0)) else (0, (true, []), 1)
def intsD (x : Bool × List Int) : D := slx x.1 (x.2.map fun n => [.int .i64 n])

/-- Pipe i's section is there. -/
structure Good (j : Job) (ch : Nat → Int) (i : Nat) : Prop where
  sec : ∃ s : Nat, ch i = s ∧ s < j.secs.length ∧ (valN j i)[s]! ≠ -1 ∧ okF j i (hgt j ch i) s = true ∧ lv j (valN j) (hgt j ch i) i = (valN j i)[s]!

theorem valN_at {j : Job} (hv : jobValid j = true) {i s : Nat} (hi : i < j.below.l.length) (hs : s < j.secs.length) : (valN j i)[s]! = if possAt j i s then costF j (valN j) i s else -1 := by
  rw [valN_eq hv hi, rowOf, getElem!_pos _ s (by simpa using hs)]
  simp
theorem mem_above {j : Job} {i b : Nat} (hi : i < j.below.l.length) (h : j.below.l[i]! = (b : Int)) : i ∈ aboveF j b := by
  simp [aboveF, hi]
  rw [getElem!_pos j.below.l i hi] at h
  simp [hi, h]
theorem chUp_next {j : Job} {k i : Nat} (h : i + (k + 1) ≠ j.below.l.length) : chUp j (k + 1) i = chUp j k i := by
  simp only [chUp]; rw [if_neg h]
theorem chUp_at {j : Job} {k i : Nat} (h : i + (k + 1) = j.below.l.length) : chUp j (k + 1) i = pickG j (chUp j k) i := by
  simp only [chUp]; rw [if_pos h]

/-- Where a choice has good sections below pipe i, pipe i has one. -/
theorem good_pick {j : Job} (hv : jobValid j = true) (hc : costB j ≠ -1) {ch : Nat → Int} {i : Nat} (hi : i < j.below.l.length) (hb : ∀ b : Nat, j.below.l[i]! = (b : Int) → Good j ch b) :
    ∃ s : Nat, pickG j ch i = s ∧ s < j.secs.length ∧ (valN j i)[s]! ≠ -1 ∧ okF j i (hgt j ch i) s = true ∧ lv j (valN j) (hgt j ch i) i = (valN j i)[s]! := by
  have hlv : lv j (valN j) (hgt j ch i) i ≠ -1 := by
    by_cases e : j.below.l[i]! = -1
    · obtain ⟨t, h1, _⟩ := getD_ne hc
      have := sumG_some h1 i (by
        rw [getElem!_pos j.below.l i hi] at e
        simp [rootsF, hi, e])
      rw [hgt, if_pos e]
      exact this
    · rcases valid_below hv hi with h1 | ⟨h1, h2⟩
      · exact absurd h1 e
      · obtain ⟨b, hbn⟩ : ∃ b : Nat, j.below.l[i]! = (b : Int) := ⟨(j.below.l[i]!).toNat, by omega⟩
        obtain ⟨s, g1, g2, g3, _⟩ := (hb b hbn).sec
        rw [hgt, if_neg e, hbn, Int.toNat_natCast, g1, Int.toNat_natCast]
        have hbl : b < j.below.l.length := by omega
        rw [valN_at hv hbl g2] at g3
        split at g3
        · obtain ⟨t, h3, _⟩ := getD_ne g3
          exact sumG_some h3 i (mem_above hi hbn)
        · exact absurd rfl g3
  unfold pickG
  unfold lv at hlv ⊢
  rcases least_spec (okF j i (hgt j ch i)) (valN j i) with ⟨h1, _⟩ | ⟨s, h1, h2, h3, h4, _⟩
  · rw [h1] at hlv; exact absurd rfl hlv
  · rw [h2]
    exact ⟨s, rfl, by rw [valN_len hi] at h1; exact h1, h3, h4, rfl⟩

theorem hgt_congr {j : Job} {ch ch' : Nat → Int} {i : Nat} (h : ∀ b : Nat, j.below.l[i]! = (b : Int) → ch b = ch' b) (hv : j.below.l[i]! = -1 ∨ 0 ≤ j.below.l[i]!) : hgt j ch i = hgt j ch' i := by
  unfold hgt
  by_cases e : j.below.l[i]! = -1
  · rw [if_pos e, if_pos e]
  · rw [if_neg e, if_neg e, h _ (by omega)]
theorem pickG_congr {j : Job} {ch ch' : Nat → Int} {i : Nat} (h : ∀ b : Nat, j.below.l[i]! = (b : Int) → ch b = ch' b) (hv : j.below.l[i]! = -1 ∨ 0 ≤ j.below.l[i]!) : pickG j ch i = pickG j ch' i := by
  unfold pickG; rw [hgt_congr h hv]

theorem good_up {j : Job} (hv : jobValid j = true) (hc : costB j ≠ -1) : ∀ k, k ≤ j.below.l.length → ∀ i, i < j.below.l.length → j.below.l.length ≤ i + k → Good j (chUp j k) i
  | 0, _, i, hi, h => by omega
  | k + 1, hk, i, hi, h => by
    have hbv := valid_below hv hi
    have same : ∀ b : Nat, j.below.l[i]! = (b : Int) → chUp j k b = chUp j (k + 1) b := fun b hb => (chUp_next (by rcases hbv with h1 | h1 <;> omega)).symm
    have he : hgt j (chUp j k) i = hgt j (chUp j (k + 1)) i := hgt_congr same (by rcases hbv with h1 | h1 <;> omega)
    by_cases e : i + (k + 1) = j.below.l.length
    · obtain ⟨s, g1, g2⟩ := good_pick (ch := chUp j k) hv hc hi (fun b hb => good_up hv hc k (by omega) b (by rcases hbv with h1 | h1 <;> omega) (by rcases hbv with h1 | h1 <;> omega))
      rw [he] at g2
      exact ⟨⟨s, by rw [chUp_at e]; exact g1, g2⟩⟩
    · obtain ⟨s, g1, g2⟩ := (good_up hv hc k (by omega) i hi (by omega)).sec
      rw [he] at g2
      exact ⟨⟨s, by rw [chUp_next e]; exact g1, g2⟩⟩
end Go.Gv

set_option linter.unusedSimpArgs false
namespace Go.Gv

theorem valsD_eq {j} : valsD j = .sl ((List.range j.below.l.length).map fun a => slR (valN j a)) := _root_.id rfl
theorem slR_eq {r} : slR r = [.sl (r.map fun v => [.int .i64 v])] := _root_.id rfl
@[simp] theorem isV_valsD {j} : isV (valsD j) = true := _root_.id rfl
@[simp] theorem isK_valsD {j} : isK (valsD j) = true := _root_.id rfl
@[simp] theorem isP_valsD {j} : isP (valsD j) = true := _root_.id rfl
@[simp] theorem isS_valsD {j} : isS (valsD j) = true := _root_.id rfl
@[simp] theorem isC1_valsD {j} : isC1 (valsD j) = true := _root_.id rfl
@[simp] theorem isO_valsD {j} : isO (valsD j) = false := _root_.id rfl
@[simp] theorem isF1_valsD {j} : isF1 (valsD j) = false := _root_.id rfl
@[simp] theorem isF_valsD {j} : isF (valsD j) = false := _root_.id rfl
@[simp] theorem isB_valsD {j} : isB (valsD j) = false := _root_.id rfl
@[simp] theorem isAny_valsD {j} : isAny (valsD j) = false := _root_.id rfl
@[simp] theorem cellsOf_valsD {j} : cellsOf (valsD j) = [(valsD j)] := _root_.id rfl
@[simp] theorem aggOf_valsD {j} : aggOf (valsD j) = (valsD j) := _root_.id rfl
@[simp] theorem cellV_valsD {j} : cellV (valsD j) = (valsD j) := _root_.id rfl
@[simp] theorem mroots1_valsD {j} : mroots1 (valsD j) = [] := _root_.id rfl
@[simp] theorem mroots_valsD {j} : mroots (valsD j) = [] := _root_.id rfl
@[simp] theorem dp1_valsD {f : Nat → D} {j} : dp1 f (valsD j) = (valsD j) := _root_.id rfl
@[simp] theorem dp_valsD {f : Nat → D} {j} : dp f (valsD j) = (valsD j) := _root_.id rfl
@[simp] theorem dpOk1_valsD {f : Nat → D} {j} : dpOk1 f (valsD j) = True := _root_.id rfl
@[simp] theorem dpOk_valsD {f : Nat → D} {j} : dpOk f (valsD j) = True := _root_.id rfl
@[simp] theorem ldc_valsD {p i o} {j} : ldc p i o (valsD j) = (valsD j) := _root_.id rfl
@[simp] theorem kill1_valsD {ks} {j} : kill1 ks (valsD j) = (valsD j) := by unfold valsD; exact kill1_sl
@[simp] theorem asgM_valsD {C : CC} {hs : Option (List Nat)} {K : Env → Prop} {ns : List NOper} {u : Tag (hs, K, ns)} {e : Env} {R : List Nat} {acc : List (List Nat × List Nat)} {t j} : asgM C hs K ns t u e R acc (valsD j) = doW C hs K ns ⟨⟩ e R acc [(t, valsD j)] [] := by unfold valsD; exact asgM_sl

def outS (j : Job) (k : Nat) : D := .blk 1 ((List.range j.below.l.length).map fun i => [.int .i64 (chUp j k i)])
theorem outS_eq {j k} : outS j k = .blk 1 ((List.range j.below.l.length).map fun i => [.int .i64 (chUp j k i)]) := _root_.id rfl
theorem outS_step {j : Job} {k i : Nat} (h : i + (k + 1) = j.below.l.length) : D.blk 1 (((List.range j.below.l.length).map fun i => [.int .i64 (chUp j k i)]).set i [.int .i64 (pickG j (chUp j k) i)]) = outS j (k + 1) := by
  rw [outS_eq, set_range_map]
  congr 1
  refine List.map_congr_left fun x _ => ?_
  by_cases e : x = i
  · subst e; rw [if_pos rfl, chUp_at h]
  · rw [if_neg e, chUp_next (by omega)]

variable {C : CC} (hC : Closed prog C)
include hC
theorem Bound_c (j : Job) : C 16 [.agg (jobC j)] (if jobValid j then .tup [valsD j, .int .i64 0] else .tup [.nils, .int .i64 1]) [] := by
  refine start hC (nf := N16_sizing_Bound) rfl rfl ?_
  simp [N16_sizing_Bound]
  have hv := Valid_c hC j
  cases h : jobValid j
  · rw [h] at hv
    simp [jobC_eq]
    simp [jobC_eq] at hv
    refine callW_of hv (.inl rfl) ?_
    simp
  · rw [h] at hv
    have ht := treeOf_c hC j h
    have hvals := values_c hC j h
    simp [jobC_eq]
    simp [jobC_eq] at hv ht
    refine callW_of hv (.inl rfl) ?_
    simp
    refine callW_of ht (.inr rfl) ?_
    simp
    refine callW_of hvals (.inr rfl) ?_
    simp
set_option maxRecDepth 2000 in
set_option maxHeartbeats 1000000 in
theorem Solve_c (j : Job) : C 15 [.agg (jobC j)] (.tup [.int .i64 (solveF j).1, intsD (solveF j).2.1, .int .i64 (solveF j).2.2]) [] := by
  refine start hC (nf := N15_sizing_Solve) rfl rfl ?_
  simp [N15_sizing_Solve]
  have hv := Valid_c hC j
  cases h : jobValid j
  · rw [h] at hv
    simp [jobC_eq]
    simp [jobC_eq] at hv
    refine callW_of hv (.inl rfl) ?_
    simp [solveF, h, intsD, slx]
  have hn : j.below.l.length ≤ 400 := by simp only [jobValid, Bool.and_eq_true, decide_eq_true_eq] at h; omega
  have hm : j.secs.length ≤ 40 := by simp only [jobValid, catValid, Bool.and_eq_true, decide_eq_true_eq] at h; omega
  rw [h] at hv
  have ht := treeOf_c hC j h
  have hvals := values_c hC j h
  have hb := bound_c hC j false ((List.range j.below.l.length).map fun a => ⟨false, valN j a⟩) (by omega) (by omega) (fun a ha => by
    have h5 : a < j.below.l.length := by simp only [rootsF, List.mem_filter, List.mem_range] at ha; exact ha.1
    rw [getElem!_pos _ a (by simpa using h5)]
    simp [h5, valN_len h5])
  have eb : boundF j (rowsF ((List.range j.below.l.length).map fun a => ⟨false, valN j a⟩)) = costB j := by
    unfold costB boundF
    rw [sumG_congr (v' := lv j (valN j) 4194304) (fun a ha => by
      have h5 : a < j.below.l.length := by simp only [rootsF, List.mem_filter, List.mem_range] at ha; exact ha.1
      rw [lv, rowsF, getElem!_pos _ a (by simpa using h5)]
      simp [lv])]
  rw [eb] at hb
  obtain ⟨c, hc⟩ : ∃ c, c = costB j := ⟨_, rfl⟩
  rw [← hc] at hb
  simp [jobC_eq]
  simp [jobC_eq] at hv ht
  refine callW_of hv (.inl rfl) ?_
  simp
  refine callW_of ht (.inr rfl) ?_
  simp
  refine callW_of hvals (.inr rfl) ?_
  simp
  refine callW_of (d := .int .i64 c) ?_ (.inl rfl) ?_
  · rw [valsD_eq]
    simp at hb
    exact hb
  simp
  refine brB_of (fun h1 => ?_) (fun h1 => ?_) <;> simp at h1 <;> simp [h1]
  · simp [solveF, h, ← hc, h1, intsD, slx]
  refine ⟨by omega, ?_⟩
  refine loop_of Nat (fun k => [(1, .ptr (jobC j)), (5, treeD j), (6, valsD j), (7, .int .i64 c), (8, .ref (.r 10128) 0 j.below.l.length), (10128, outS j k), (9, .int .i64 ((j.below.l.length : Int) - 1 - k))])
    (fun k => k ≤ j.below.l.length) (fun k => j.below.l.length - k) 0 (by simp) (by simp [jobC_eq, outS_eq, chUp, replicate_range]; exact wrap_i64 rfl (by omega)) ?_
  intro k hk
  rcases Nat.lt_or_ge k j.below.l.length with hkl | hkl
  · obtain ⟨i, hi⟩ : ∃ i, i + (k + 1) = j.below.l.length := ⟨j.below.l.length - (k + 1), by omega⟩
    have e9 : (j.below.l.length : Int) - 1 - k = (i : Int) := by omega
    have hil : i < j.below.l.length := by omega
    have hw : IntKind.wrap .i64 ((i : Int) - 1) = (j.below.l.length : Int) - 1 - ((k + 1 : Nat) : Int) := wrap_i64 (by omega) (by omega)
    have hbv := valid_below h hil
    have hg : ∀ b : Nat, j.below.l[i]! = (b : Int) → Good j (chUp j k) b := fun b hb => good_up h (by rw [← hc]; exact h1) k hk b (by rcases hbv with h2 | h2 <;> omega) (by rcases hbv with h2 | h2 <;> omega)
    have hst := outS_step hi
    have hlc : ∀ y, hgt j (chUp j k) i = y → C 40 [treeD j, .sl ((valN j i).map fun n => [.int .i64 n]), .int .i64 i, .int .i64 y] (.tup [.int .i64 (leastF (okF j i y) (valN j i)).1, .int .i64 (pickG j (chUp j k) i)]) [] := fun y hy => by
      have := least_c hC j false (valN j i) i y hil (by rw [valN_len hil]; exact Nat.le_refl _) (by omega)
      rw [slx_false] at this
      rw [pickG, hy]
      exact this
    rw [e9]
    simp [hil, jobC_eq]
    refine brB_of (fun c1 => ?_) (fun c1 => ?_) <;> simp [hil] at c1 <;> simp [c1, hil]
    · obtain ⟨b, hb⟩ : ∃ b : Nat, j.below.l[i] = (b : Int) := ⟨(j.below.l[i]).toNat, by rw [getElem!_pos j.below.l i hil] at hbv; rcases hbv with h2 | h2 <;> omega⟩
      have hb! : j.below.l[i]! = (b : Int) := by rw [getElem!_pos j.below.l i hil, hb]
      have hbl : b < j.below.l.length := by rcases hbv with h2 | h2 <;> omega
      obtain ⟨s, g1, g2, _⟩ := (hg b hb!).sec
      have hh : hgt j (chUp j k) i = j.secs[s].height := by
        rw [hgt, if_neg (by rw [hb!]; omega), hb!, Int.toNat_natCast, g1, Int.toNat_natCast, getElem!_pos j.secs s g2]
      simp [hb, outS_eq, hbl, g1, g2, secC_eq]
      refine ⟨indW_of (by decide +kernel), ?_⟩
      simp [valsD_eq, hil, slR_eq]
      refine callW_of (hlc _ hh) (.inl rfl) ?_
      simp [hil, hst, hw]
      exact ⟨k + 1, by omega, by omega, by simp [jobC_eq], rfl, rfl, by omega⟩
    · have hh : hgt j (chUp j k) i = 4194304 := by rw [hgt, if_pos (by rw [getElem!_pos j.below.l i hil, c1])]
      simp [outS_eq, valsD_eq, hil, slR_eq]
      refine callW_of (hlc _ hh) (.inl rfl) ?_
      simp [hil, hst, hw]
      exact ⟨k + 1, by omega, by omega, by simp [jobC_eq], rfl, rfl, by omega⟩
  · have : k = j.below.l.length := by omega
    subst this
    have e9 : (j.below.l.length : Int) - 1 - j.below.l.length = -1 := by omega
    rw [e9]
    simp [outS_eq]
    rw [solveF, if_pos h, ← hc, if_neg h1]
    refine ⟨rfl, ?_, rfl⟩
    rw [List.take_of_length_le (by simp)]
    simp [intsD, bestF]
end Go.Gv

set_option linter.unusedSimpArgs false
namespace Go.Gv

def wideV (v : Int) : Bool := !(decide (-1 ≤ v) && decide (v ≤ 4611686018427387904))
def badV (j : Job) (vals : List SlI) (i s : Nat) : Bool := possAt j i s && ((decide (costF j (rowsF vals) i s = -1) && !decide ((rowsF vals i)[s]! = -1)) || (!decide (costF j (rowsF vals) i s = -1) && (decide ((rowsF vals i)[s]! = -1) || decide (costF j (rowsF vals) i s < (rowsF vals i)[s]!))))
def badP (j : Job) (vals : List SlI) (i : Nat) : Bool := (List.range j.secs.length).any (badV j vals i)
def checkedF (j : Job) (vals : List SlI) : Bool × Int × Int :=
  if jobValid j = false then (false, 0, 1) else
  if vals.length ≠ j.below.l.length ∨ vals.any (fun x => decide (x.l.length ≠ j.secs.length)) = true then (false, 0, 3) else
  if vals.any (fun x => x.l.any wideV) = true then (false, 0, 2) else
  match (List.range j.below.l.length).find? (badP j vals) with
  | some i => (false, i, 0)
  | none => (true, boundF j (rowsF vals), 0)

end Go.Gv

set_option linter.unusedSimpArgs false
namespace Go.Gv

/-! ### Sums -/
def S (g : Nat → Int) : Nat → Int
  | 0 => 0
  | n + 1 => S g n + g n
theorem S_congr {g g' : Nat → Int} : ∀ n, (∀ a, a < n → g a = g' a) → S g n = S g' n
  | 0, _ => rfl
  | n + 1, h => by simp only [S]; rw [S_congr n (fun a ha => h a (by omega)), h n (by omega)]
theorem S_le {g g' : Nat → Int} : ∀ n, (∀ a, a < n → g a ≤ g' a) → S g n ≤ S g' n
  | 0, _ => Int.le_refl _
  | n + 1, h => by
    simp only [S]
    have := S_le n (fun a ha => h a (by omega))
    have := h n (by omega)
    omega
theorem S_add {g g' : Nat → Int} : ∀ n, S (fun a => g a + g' a) n = S g n + S g' n
  | 0 => rfl
  | n + 1 => by simp only [S]; rw [S_add n]; omega
theorem S_zero : ∀ n, S (fun _ => 0) n = 0
  | 0 => rfl
  | n + 1 => by simp only [S]; rw [S_zero n]; rfl
theorem S_nonneg {g : Nat → Int} (n : Nat) (h : ∀ a, a < n → 0 ≤ g a) : 0 ≤ S g n := by
  have := S_le (g := fun _ => 0) (g' := g) n h
  rw [S_zero] at this
  exact this
theorem S_ext {g : Nat → Int} {m : Nat} : ∀ n, m ≤ n → (∀ a, m ≤ a → a < n → g a = 0) → S g n = S g m
  | 0, h, _ => by
    have : m = 0 := by omega
    subst this; rfl
  | n + 1, h, hz => by
    by_cases e : m = n + 1
    · subst e; rfl
    · simp only [S]
      rw [S_ext n (by omega) (fun a h1 h2 => hz a h1 (by omega)), hz n (by omega) (by omega)]
      omega
theorem sum_filter (f : Nat → Int) (p : Nat → Bool) : ∀ n, (((List.range n).filter p).map f).sum = S (fun a => if p a then f a else 0) n
  | 0 => rfl
  | n + 1 => by
    rw [List.range_succ, List.filter_append, List.map_append, List.sum_append, sum_filter f p n]
    simp only [S, List.filter_cons, List.filter_nil]
    cases p n <;> simp

theorem sumG_eq {v : Nat → Int} : ∀ {l : List Nat} {s : Int}, (∀ a ∈ l, v a ≠ -1) → (∀ a ∈ l, 0 ≤ v a) → 0 ≤ s → s + (l.map v).sum < 9223372036854775808 → sumG v l s = some (s + (l.map v).sum)
  | [], s, _, _, _, _ => by simp [sumG]
  | a :: l, s, h1, h2, h3, h4 => by
    have h5 := h2 a (by simp)
    have h6 : 0 ≤ (l.map v).sum := by
      have : ∀ l : List Nat, (∀ a ∈ l, 0 ≤ v a) → 0 ≤ (l.map v).sum := by
        intro l
        induction l with
        | nil => intro _; simp
        | cons x l ih => intro h; simp only [List.map_cons, List.sum_cons]; have := h x (by simp); have := ih (fun a ha => h a (by simp [ha])); omega
      exact this l (fun a ha => h2 a (by simp [ha]))
    simp only [List.map_cons, List.sum_cons] at h4 ⊢
    simp only [sumG]
    rw [if_neg (h1 a (by simp)), wrap_i64 rfl (by omega), sumG_eq (fun b hb => h1 b (by simp [hb])) (fun b hb => h2 b (by simp [hb])) (by omega) (by omega)]
    congr 1
    omega
theorem sumG_bad {v : Nat → Int} : ∀ {l : List Nat} {s : Int} {a : Nat}, a ∈ l → v a = -1 → sumG v l s = none
  | x :: l, s, a, h, ha => by
    simp only [sumG]
    by_cases hx : v x = -1
    · rw [if_pos hx]
    · rw [if_neg hx]
      rcases List.mem_cons.1 h with rfl | h
      · exact absurd ha hx
      · exact sumG_bad h ha

/-! ### Jobs -/
def B : Int := 18014398509481984
theorem B_eq : B = 18014398509481984 := rfl
theorem valid_facts {j : Job} (hv : jobValid j = true) : j.below.l.length ≤ 400 ∧ j.lengths.l.length = j.below.l.length ∧ j.secs.length ≤ 40 := by
  simp only [jobValid, catValid, Bool.and_eq_true, decide_eq_true_eq] at hv
  omega
/-- A pipe's own cost. -/
def ownC (j : Job) (i s : Nat) : Int := j.lengths.l[i]! * j.secs[s]!.price
theorem ownC_bd {j : Job} (hv : jobValid j = true) {i s : Nat} (hi : i < j.below.l.length) (hs : s < j.secs.length) : 0 ≤ ownC j i s ∧ ownC j i s ≤ B := by
  have h1 : 1 ≤ j.lengths.l[i]! ∧ j.lengths.l[i]! ≤ 16777216 := by
    simp only [jobValid, Bool.and_eq_true, List.all_eq_true, List.mem_range] at hv
    have := hv.2 i hi
    simp only [pipeOk, inR, Bool.and_eq_true, decide_eq_true_eq] at this
    exact this.1.1.1.2
  have h2 : 0 ≤ j.secs[s]!.price ∧ j.secs[s]!.price ≤ 1073741824 := by
    rw [getElem!_pos j.secs s hs]
    simp only [jobValid, catValid, Bool.and_eq_true, List.all_eq_true] at hv
    have := hv.1.2.1.2 _ (List.getElem_mem hs)
    simp only [secValid, Bool.and_eq_true, decide_eq_true_eq] at this
    omega
  have h3 := Int.mul_nonneg (show 0 ≤ j.lengths.l[i]! by omega) h2.1
  have h4 := Int.mul_le_mul h1.2 h2.2 h2.1 (by omega)
  refine ⟨h3, ?_⟩
  unfold ownC B
  omega

/-- Pipe a leads out of the first i pipes. -/
def fr (j : Job) (i a : Nat) : Bool := decide (j.below.l[a]! = -1) || decide ((i : Int) ≤ j.below.l[a]!)
def FS (j : Job) (f : Nat → Int) (i : Nat) : Int := S (fun a => if fr j i a then f a else 0) i
def AS (j : Job) (f : Nat → Int) (i : Nat) : Int := S (fun a => if j.below.l[a]! = (i : Int) then f a else 0) i
theorem above_sum {j : Job} (hv : jobValid j = true) (f : Nat → Int) {i : Nat} (hi : i < j.below.l.length) : ((aboveF j i).map f).sum = AS j f i := by
  unfold aboveF AS
  rw [sum_filter, S_ext (m := i) _ (by omega)]
  · exact S_congr _ (fun a _ => by simp)
  · intro a h1 h2
    rw [if_neg]
    intro h3
    have h3 : j.below.l[a]! = (i : Int) := by simpa using h3
    rcases valid_below hv h2 with h4 | h4 <;> omega
theorem FS_step {j : Job} (hv : jobValid j = true) (f : Nat → Int) {i : Nat} (hi : i < j.below.l.length) : FS j f (i + 1) + AS j f i = FS j f i + f i := by
  unfold FS AS
  simp only [S]
  have h1 : fr j (i + 1) i = true := by
    unfold fr
    rcases valid_below hv hi with h | h
    · simp [h]
    · simp only [Bool.or_eq_true, decide_eq_true_eq]; right; omega
  rw [if_pos h1]
  have h2 : S (fun a => if fr j i a = true then f a else 0) i = S (fun a => (if fr j (i + 1) a = true then f a else 0) + (if j.below.l[a]! = (i : Int) then f a else 0)) i := by
    refine S_congr _ (fun a ha => ?_)
    unfold fr
    by_cases e1 : j.below.l[a]! = (i : Int)
    · rw [if_pos e1, if_pos (by simp only [Bool.or_eq_true, decide_eq_true_eq]; omega), if_neg (by simp only [Bool.or_eq_true, decide_eq_true_eq]; omega)]
      omega
    · rw [if_neg e1]
      by_cases e2 : j.below.l[a]! = -1
      · rw [if_pos (by simp only [Bool.or_eq_true, decide_eq_true_eq]; omega), if_pos (by simp only [Bool.or_eq_true, decide_eq_true_eq]; omega)]
        omega
      · by_cases e3 : (i : Int) ≤ j.below.l[a]!
        · rw [if_pos (by simp only [Bool.or_eq_true, decide_eq_true_eq]; omega), if_pos (by simp only [Bool.or_eq_true, decide_eq_true_eq]; omega)]
          omega
        · rw [if_neg (by simp only [Bool.or_eq_true, decide_eq_true_eq]; omega), if_neg (by simp only [Bool.or_eq_true, decide_eq_true_eq]; omega)]
          omega
  rw [h2, S_add]
  omega
theorem AS_le_FS {j : Job} {f : Nat → Int} {i : Nat} (h : ∀ a, a < i → 0 ≤ f a) : AS j f i ≤ FS j f i := by
  unfold AS FS
  refine S_le _ (fun a ha => ?_)
  have := h a ha
  by_cases e : j.below.l[a]! = (i : Int)
  · rw [if_pos e, if_pos (by simp only [fr, Bool.or_eq_true, decide_eq_true_eq]; omega)]
    exact Int.le_refl _
  · rw [if_neg e]
    split <;> omega
theorem roots_sum {j : Job} (hv : jobValid j = true) (f : Nat → Int) : ((rootsF j).map f).sum = FS j f j.below.l.length := by
  unfold rootsF FS
  rw [sum_filter]
  refine S_congr _ (fun a ha => ?_)
  have e : fr j j.below.l.length a = decide (j.below.l[a]! = -1) := by
    unfold fr
    rcases valid_below hv ha with h | h
    · rw [h]; rfl
    · rw [show decide (((j.below.l.length : Nat) : Int) ≤ j.below.l[a]!) = false by simp only [decide_eq_false_iff_not]; omega, Bool.or_false]
  rw [e]
theorem root_mem {j : Job} {a : Nat} (h : a ∈ rootsF j) : a < j.below.l.length ∧ j.below.l[a]! = -1 := by
  simp only [rootsF, List.mem_filter, List.mem_range, decide_eq_true_eq] at h
  exact h

/-! ### The least value -/
theorem lv_spec (j : Job) (val : Nat → List Int) (h : Int) (a : Nat) : (lv j val h a = -1 ∧ ∀ s, s < (val a).length → (val a)[s]! ≠ -1 → okF j a h s = false) ∨
    ∃ s, s < (val a).length ∧ lv j val h a = (val a)[s]! ∧ (val a)[s]! ≠ -1 ∧ okF j a h s = true ∧ ∀ s', s' < (val a).length → (val a)[s']! ≠ -1 → okF j a h s' = true → (val a)[s]! ≤ (val a)[s']! := by
  unfold lv
  rcases least_spec (okF j a h) (val a) with ⟨h1, h2⟩ | ⟨s, h1, h2, h3, h4, h5⟩
  · exact .inl ⟨by rw [h1], h2⟩
  · exact .inr ⟨s, h1, by rw [h2], h3, h4, h5⟩

def mx (l : List Int) : Int := l.foldl max 0
theorem mx_spec : ∀ (l : List Int) (b : Int), b ≤ l.foldl max b ∧ ∀ x ∈ l, x ≤ l.foldl max b
  | [], b => ⟨Int.le_refl _, by simp⟩
  | y :: l, b => by
    obtain ⟨h1, h2⟩ := mx_spec l (max b y)
    simp only [List.foldl_cons]
    refine ⟨by omega, fun x hx => ?_⟩
    rcases List.mem_cons.1 hx with rfl | hx
    · omega
    · exact h2 x hx
theorem mx_bd {l : List Int} {t : Int} (ht : 0 ≤ t) (h : ∀ x ∈ l, x ≤ t) : mx l ≤ t := by
  unfold mx
  have : ∀ (l : List Int) (b : Int), b ≤ t → (∀ x ∈ l, x ≤ t) → l.foldl max b ≤ t := by
    intro l
    induction l with
    | nil => intro b hb _; exact hb
    | cons y l ih =>
      intro b hb h
      simp only [List.foldl_cons]
      exact ih _ (by have := h y (by simp); omega) (fun x hx => h x (by simp [hx]))
  exact this l 0 ht h

theorem get_mem {l : List Int} {s : Nat} (h : s < l.length) : l[s]! ∈ l := by
  rw [getElem!_pos l s h]; exact List.getElem_mem h

/-- The least value of rows that are -1 or not negative. -/
theorem lv_bd {j : Job} {val : Nat → List Int} {h : Int} {a : Nat} (hp : ∀ x ∈ val a, -1 ≤ x) : lv j val h a = -1 ∨ (0 ≤ lv j val h a ∧ lv j val h a ≤ mx (val a)) := by
  rcases lv_spec j val h a with ⟨h1, _⟩ | ⟨s, h1, h2, h3, _⟩
  · exact .inl h1
  · right
    have h4 := get_mem h1
    have h5 := hp _ h4
    have h6 := (mx_spec (val a) 0).2 _ h4
    rw [h2]
    exact ⟨by omega, h6⟩

/-- A cost that is exact. -/
theorem costF_eq {j : Job} (hv : jobValid j = true) {val : Nat → List Int} {i s : Nat} (hi : i < j.below.l.length) (hs : s < j.secs.length) (hp : ∀ a ∈ aboveF j i, lv j val j.secs[s]!.height a = -1 ∨ 0 ≤ lv j val j.secs[s]!.height a)
    (hb : (∀ a ∈ aboveF j i, lv j val j.secs[s]!.height a ≠ -1) → ((aboveF j i).map (lv j val j.secs[s]!.height)).sum ≤ 9000000000000000000) :
    ((∃ a ∈ aboveF j i, lv j val j.secs[s]!.height a = -1) ∧ costF j val i s = -1) ∨ ((∀ a ∈ aboveF j i, lv j val j.secs[s]!.height a ≠ -1) ∧ costF j val i s = ownC j i s + ((aboveF j i).map (lv j val j.secs[s]!.height)).sum) := by
  obtain ⟨h1, h2⟩ := ownC_bd hv hi hs
  rw [B_eq] at h2
  by_cases hx : ∃ a ∈ aboveF j i, lv j val j.secs[s]!.height a = -1
  · obtain ⟨a, ha, h3⟩ := hx
    exact .inl ⟨⟨a, ha, h3⟩, by unfold costF; rw [sumG_bad ha h3]; rfl⟩
  · right
    have hx' : ∀ a ∈ aboveF j i, lv j val j.secs[s]!.height a ≠ -1 := fun a ha e => hx ⟨a, ha, e⟩
    refine ⟨hx', ?_⟩
    have := hb hx'
    show (sumG _ _ (IntKind.wrap .i64 (ownC j i s))).getD (-1) = _
    rw [wrap_i64 (m := ownC j i s) rfl (by omega), sumG_eq hx' (fun a ha => (hp a ha).resolve_left (hx' a ha)) h1 (by omega)]
    rfl

theorem list_sum_nn {l : List Nat} {f : Nat → Int} (h : ∀ a ∈ l, 0 ≤ f a) : 0 ≤ (l.map f).sum := by
  induction l with
  | nil => simp
  | cons x l ih =>
    simp only [List.map_cons, List.sum_cons]
    have := h x (by simp)
    have := ih (fun a ha => h a (by simp [ha]))
    omega
theorem list_sum_le {l : List Nat} {f g : Nat → Int} (h : ∀ a ∈ l, f a ≤ g a) : (l.map f).sum ≤ (l.map g).sum := by
  induction l with
  | nil => simp
  | cons x l ih =>
    simp only [List.map_cons, List.sum_cons]
    have := h x (by simp)
    have := ih (fun a ha => h a (by simp [ha]))
    omega

/-- The values are -1 or not negative, and not too great. -/
theorem vals_bd {j : Job} (hv : jobValid j = true) : ∀ i, i ≤ j.below.l.length → (∀ a, a < i → ∀ x ∈ valN j a, -1 ≤ x) ∧ FS j (fun a => mx (valN j a)) i ≤ i * B
  | 0, _ => ⟨fun a h => by omega, by simp [FS, S]⟩
  | i + 1, hi => by
    obtain ⟨h1, h2⟩ := vals_bd hv i (by omega)
    have hil : i < j.below.l.length := by omega
    have hn := (valid_facts hv).1
    have hm0 : ∀ a, a < i → 0 ≤ mx (valN j a) := fun a _ => (mx_spec (valN j a) 0).1
    have h3 := AS_le_FS (j := j) (f := fun a => mx (valN j a)) hm0
    have hsum := above_sum hv (fun a => mx (valN j a)) hil
    have hB : (i : Int) * B ≤ 400 * B := Int.mul_le_mul_of_nonneg_right (by omega) (by rw [B_eq]; omega)
    have hcell : ∀ s, s < j.secs.length → (-1 ≤ (valN j i)[s]! ∧ (valN j i)[s]! ≤ B + AS j (fun a => mx (valN j a)) i) := by
      intro s hs
      have hAS0 : 0 ≤ AS j (fun a => mx (valN j a)) i := S_nonneg _ (fun a ha => by split; exact hm0 a ha; exact Int.le_refl _)
      rw [valN_at hv hil hs]
      split
      · have hlv : ∀ a ∈ aboveF j i, lv j (valN j) j.secs[s]!.height a = -1 ∨ (0 ≤ lv j (valN j) j.secs[s]!.height a ∧ lv j (valN j) j.secs[s]!.height a ≤ mx (valN j a)) := fun a ha => lv_bd (h1 a (above_less hv ha))
        have hle : (∀ a ∈ aboveF j i, lv j (valN j) j.secs[s]!.height a ≠ -1) → ((aboveF j i).map (lv j (valN j) j.secs[s]!.height)).sum ≤ AS j (fun a => mx (valN j a)) i := fun hne => by
          rw [← hsum]
          exact list_sum_le (fun a ha => ((hlv a ha).resolve_left (hne a ha)).2)
        have hnn : (∀ a ∈ aboveF j i, lv j (valN j) j.secs[s]!.height a ≠ -1) → 0 ≤ ((aboveF j i).map (lv j (valN j) j.secs[s]!.height)).sum := fun hne => by
          exact list_sum_nn (fun a ha => ((hlv a ha).resolve_left (hne a ha)).1)
        obtain ⟨o1, o2⟩ := ownC_bd hv hil hs
        rw [B_eq] at *
        rcases costF_eq hv hil hs (fun a ha => (hlv a ha).imp id (fun h => h.1)) (fun hne => by have := hle hne; omega) with ⟨_, h4⟩ | ⟨hne, h4⟩
        · rw [h4]; omega
        · rw [h4]
          have := hle hne
          have := hnn hne
          omega
      · rw [B_eq]; omega
    have hrow : ∀ x ∈ valN j i, ∃ s, s < j.secs.length ∧ x = (valN j i)[s]! := fun x hx => by
      obtain ⟨s, hs, rfl⟩ := List.mem_iff_getElem.1 hx
      exact ⟨s, by rw [valN_len hil] at hs; exact hs, by rw [getElem!_pos _ s hs]⟩
    constructor
    · intro a ha x hx
      rcases Nat.lt_succ_iff_lt_or_eq.1 ha with h | rfl
      · exact h1 a h x hx
      · obtain ⟨s, hs, rfl⟩ := hrow x hx
        exact (hcell s hs).1
    · have h5 := FS_step hv (fun a => mx (valN j a)) hil
      have hAS0 : 0 ≤ AS j (fun a => mx (valN j a)) i := S_nonneg _ (fun a ha => by split; exact hm0 a ha; exact Int.le_refl _)
      have h6 : mx (valN j i) ≤ B + AS j (fun a => mx (valN j a)) i := mx_bd (by rw [B_eq]; omega) (fun x hx => by
        obtain ⟨s, hs, rfl⟩ := hrow x hx
        exact (hcell s hs).2)
      rw [B_eq] at *
      push_cast
      omega
end Go.Gv
namespace Go.Gv
/-- The job's values, as they are handed over. -/
def valsS (j : Job) : List SlI := (List.range j.below.l.length).map fun a => ⟨false, valN j a⟩
theorem valsS_at {j : Job} {a : Nat} (h : a < j.below.l.length) : rowsF (valsS j) a = valN j a := by
  unfold rowsF valsS
  rw [getElem!_pos _ a (by simpa using h)]
  simp

/-- What is known of the values of a valid job. -/
theorem vals_cell {j : Job} (hv : jobValid j = true) {i : Nat} (hi : i < j.below.l.length) : ∀ x ∈ valN j i, -1 ≤ x := (vals_bd hv (i + 1) (by omega)).1 i (by omega)
theorem vals_mx {j : Job} (hv : jobValid j = true) {i : Nat} (hi : i < j.below.l.length) : mx (valN j i) ≤ j.below.l.length * B := by
  have h1 := (vals_bd hv (i + 1) (by omega)).2
  have h2 : mx (valN j i) ≤ FS j (fun a => mx (valN j a)) (i + 1) := by
    have h3 := FS_step hv (fun a => mx (valN j a)) hi
    have h4 := AS_le_FS (j := j) (i := i) (f := fun a => mx (valN j a)) (fun a _ => (mx_spec (valN j a) 0).1)
    omega
  have h5 : ((i + 1 : Nat) : Int) * B ≤ j.below.l.length * B := Int.mul_le_mul_of_nonneg_right (by omega) (by rw [B_eq]; omega)
  omega
theorem lvN_bd {j : Job} (hv : jobValid j = true) {h : Int} {a : Nat} (ha : a < j.below.l.length) : lv j (valN j) h a = -1 ∨ (0 ≤ lv j (valN j) h a ∧ lv j (valN j) h a ≤ mx (valN j a)) := lv_bd (vals_cell hv ha)
theorem sum_above_bd {j : Job} (hv : jobValid j = true) {h : Int} {i : Nat} (hi : i < j.below.l.length) (hne : ∀ a ∈ aboveF j i, lv j (valN j) h a ≠ -1) : ((aboveF j i).map (lv j (valN j) h)).sum ≤ 7205759403792793600 := by
  have h1 := list_sum_le (fun a ha => ((lvN_bd hv (above_lt ha)).resolve_left (hne a ha)).2)
  rw [above_sum hv (fun a => mx (valN j a)) hi] at h1
  have h2 := AS_le_FS (j := j) (i := i) (f := fun a => mx (valN j a)) (fun a _ => (mx_spec (valN j a) 0).1)
  have h3 := (vals_bd hv i (by omega)).2
  have hn := (valid_facts hv).1
  have h4 : (i : Int) * B ≤ 400 * B := Int.mul_le_mul_of_nonneg_right (by omega) (by rw [B_eq]; omega)
  rw [B_eq] at h4 h3
  omega
/-- A value of a job. -/
theorem valN_eq' {j : Job} (hv : jobValid j = true) {i s : Nat} (hi : i < j.below.l.length) (hs : s < j.secs.length) (hp : possAt j i s = true) :
    ((∃ a ∈ aboveF j i, lv j (valN j) j.secs[s]!.height a = -1) ∧ (valN j i)[s]! = -1) ∨ ((∀ a ∈ aboveF j i, lv j (valN j) j.secs[s]!.height a ≠ -1) ∧ (valN j i)[s]! = ownC j i s + ((aboveF j i).map (lv j (valN j) j.secs[s]!.height)).sum) := by
  rw [valN_at hv hi hs, if_pos hp]
  exact costF_eq hv hi hs (fun a ha => (lvN_bd hv (above_lt ha)).imp id (fun h => h.1)) (fun hne => by have := sum_above_bd hv hi hne; omega)
/-- The bound of a job's values. -/
theorem costB_eq {j : Job} (hv : jobValid j = true) : ((∃ a ∈ rootsF j, lv j (valN j) 4194304 a = -1) ∧ costB j = -1) ∨ ((∀ a ∈ rootsF j, lv j (valN j) 4194304 a ≠ -1) ∧ costB j = ((rootsF j).map (lv j (valN j) 4194304)).sum ∧ 0 ≤ costB j) := by
  unfold costB boundF
  by_cases hx : ∃ a ∈ rootsF j, lv j (valN j) 4194304 a = -1
  · obtain ⟨a, ha, h3⟩ := hx
    exact .inl ⟨⟨a, ha, h3⟩, by rw [sumG_bad ha h3]; rfl⟩
  · right
    have hx' : ∀ a ∈ rootsF j, lv j (valN j) 4194304 a ≠ -1 := fun a ha e => hx ⟨a, ha, e⟩
    have h1 : ∀ a ∈ rootsF j, 0 ≤ lv j (valN j) 4194304 a ∧ lv j (valN j) 4194304 a ≤ mx (valN j a) := fun a ha => (lvN_bd hv (root_mem ha).1).resolve_left (hx' a ha)
    have h2 := list_sum_le (fun a ha => (h1 a ha).2)
    rw [roots_sum hv (fun a => mx (valN j a))] at h2
    have h3 := (vals_bd hv _ (Nat.le_refl _)).2
    have hn := (valid_facts hv).1
    have h4 : (j.below.l.length : Int) * B ≤ 400 * B := Int.mul_le_mul_of_nonneg_right (by omega) (by rw [B_eq]; omega)
    rw [B_eq] at h4 h3
    refine ⟨hx', ?_⟩
    rw [sumG_eq hx' (fun a ha => (h1 a ha).1) (Int.le_refl _) (by omega)]
    simp only [Option.getD_some, Int.zero_add]
    exact ⟨trivial, list_sum_nn (fun a ha => (h1 a ha).1)⟩

/-- The values of a job that is not large pass. -/
theorem checked_own {j : Job} (hv : jobValid j = true) (hn : j.below.l.length ≤ 12) : checkedF j (valsS j) = (true, costB j, 0) := by
  have hlen : (valsS j).length = j.below.l.length := by simp [valsS]
  have hmem : ∀ x ∈ valsS j, ∃ a, a < j.below.l.length ∧ x.l = valN j a := fun x hx => by
    obtain ⟨a, ha, rfl⟩ := List.mem_map.1 hx
    exact ⟨a, by simpa using ha, rfl⟩
  have c1 : ∀ i s, i < j.below.l.length → s < j.secs.length → possAt j i s = true → costF j (rowsF (valsS j)) i s = (valN j i)[s]! := fun i s hi hs hp => by
    rw [valN_at hv hi hs, if_pos hp]
    exact costF_congr (fun a ha => valsS_at (above_lt ha))
  have hb : ∀ i, i < j.below.l.length → badP j (valsS j) i = false := fun i hi => by
    rw [badP, List.any_eq_false]
    intro s hs
    have hs : s < j.secs.length := by simpa using hs
    rw [badV]
    cases hp : possAt j i s with
    | false => simp
    | true =>
      rw [c1 i s hi hs hp, valsS_at hi]
      by_cases e : (valN j i)[s]! = -1
      · rw [e]; simp
      · simp only [Bool.true_and, Bool.or_eq_true, Bool.and_eq_true, decide_eq_true_eq, Bool.not_eq_true', decide_eq_false_iff_not, not_or, not_and]
        exact ⟨fun h => absurd h e, fun _ => ⟨e, by omega⟩⟩
  have hnone : (List.range j.below.l.length).find? (badP j (valsS j)) = none := by
    rw [List.find?_eq_none]
    intro k hk
    rw [hb k (by simpa using hk)]; simp
  have hB : boundF j (rowsF (valsS j)) = costB j := by
    unfold costB boundF
    rw [sumG_congr (v' := lv j (valN j) 4194304) (fun a ha => by rw [lv, lv, valsS_at (root_mem ha).1])]
  unfold checkedF
  rw [if_neg (by rw [hv]; simp), if_neg, if_neg, hnone, hB]
  · rw [Bool.not_eq_true, List.any_eq_false]
    intro x hx
    obtain ⟨a, ha, e⟩ := hmem x hx
    rw [e, Bool.not_eq_true, List.any_eq_false]
    intro y hy
    have h1 := vals_cell hv ha y hy
    have h2 := (mx_spec (valN j a) 0).2 y hy
    have h3 := vals_mx hv ha
    have h4 : (j.below.l.length : Int) * B ≤ 12 * B := Int.mul_le_mul_of_nonneg_right (by omega) (by rw [B_eq]; omega)
    have h5 : y ≤ mx (valN j a) := h2
    rw [B_eq] at h4 h3
    simp [wideV]
    omega
  · rintro (h | h)
    · exact h hlen
    · rw [List.any_eq_true] at h
      obtain ⟨x, hx, h⟩ := h
      obtain ⟨a, ha, e⟩ := hmem x hx
      rw [e, valN_len ha] at h
      simp at h

/-- Right values have no greater bound. -/
theorem checked_le {j : Job} (hv : jobValid j = true) (hn : j.below.l.length ≤ 12) {vals : List SlI} (hw : ∀ x ∈ vals, ∀ y ∈ x.l, y ≤ 288230376151711744) {n : Int} (hc : checkedF j vals = (true, n, 0)) (hB : costB j ≠ -1) : n ≤ costB j ∧ 0 ≤ n := by
  unfold checkedF at hc
  rw [if_neg (by rw [hv]; simp)] at hc
  split at hc
  · cases hc
  rename_i h1
  split at hc
  · cases hc
  rename_i h2
  have hlen : vals.length = j.below.l.length := Classical.byContradiction fun e => h1 (.inl e)
  have hrow : ∀ a, a < j.below.l.length → rowsF vals a = vals[a]!.l ∧ vals[a]! ∈ vals := fun a ha => ⟨rfl, by rw [getElem!_pos vals a (by omega)]; exact List.getElem_mem _⟩
  have hrl : ∀ a, a < j.below.l.length → (rowsF vals a).length = j.secs.length := fun a ha => Classical.byContradiction fun e => h1 (.inr (List.any_eq_true.2 ⟨_, (hrow a ha).2, by simpa [rowsF] using e⟩))
  have hcell : ∀ a, a < j.below.l.length → ∀ y ∈ rowsF vals a, -1 ≤ y ∧ y ≤ 288230376151711744 := fun a ha y hy => by
    refine ⟨?_, hw _ (hrow a ha).2 y hy⟩
    rw [Bool.not_eq_true, List.any_eq_false] at h2
    have := h2 _ (hrow a ha).2
    rw [Bool.not_eq_true, List.any_eq_false] at this
    have := this y hy
    simp [wideV] at this
    omega
  have hgood : ∀ i s, i < j.below.l.length → s < j.secs.length → badV j vals i s = false := fun i s hi hs => by
    cases hf : (List.range j.below.l.length).find? (badP j vals) with
    | some k => rw [hf] at hc; cases hc
    | none =>
      rw [List.find?_eq_none] at hf
      have := hf i (by simpa using hi)
      rw [Bool.not_eq_true, badP, List.any_eq_false] at this
      have := this s (by simpa using hs)
      simpa using this
  have hbn : boundF j (rowsF vals) = n := by
    cases hf : (List.range j.below.l.length).find? (badP j vals) with
    | some k => rw [hf] at hc; cases hc
    | none => rw [hf] at hc; simpa using hc
  have hlw : ∀ h a, a < j.below.l.length → lv j (rowsF vals) h a = -1 ∨ (0 ≤ lv j (rowsF vals) h a ∧ lv j (rowsF vals) h a ≤ 288230376151711744) := fun h a ha => by
    rcases lv_spec j (rowsF vals) h a with ⟨e, _⟩ | ⟨s, e1, e2, e3, _⟩
    · exact .inl e
    · right
      have := hcell a ha _ (get_mem e1)
      rw [e2]
      omega
  have cnt : ∀ (l : List Nat) (f : Nat → Int), (∀ a ∈ l, f a ≤ 288230376151711744) → (l.map f).sum ≤ l.length * 288230376151711744 := by
    intro l f
    induction l with
    | nil => intro _; simp
    | cons x l ih =>
      intro h
      simp only [List.map_cons, List.sum_cons, List.length_cons]
      have := h x (by simp)
      have := ih (fun a ha => h a (by simp [ha]))
      push_cast
      omega
  -- cell by cell
  have key : ∀ i, i < j.below.l.length → ∀ s, s < j.secs.length → possAt j i s = true → (valN j i)[s]! ≠ -1 → (rowsF vals i)[s]! ≠ -1 ∧ (rowsF vals i)[s]! ≤ (valN j i)[s]! := by
    intro i
    induction i using Nat.strongRecOn with
    | _ i ih =>
      intro hi s hs hp hne
      rcases valN_eq' hv hi hs hp with ⟨_, e⟩ | ⟨e1, e2⟩
      · exact absurd e hne
      have hl : ∀ a ∈ aboveF j i, lv j (rowsF vals) j.secs[s]!.height a ≠ -1 ∧ lv j (rowsF vals) j.secs[s]!.height a ≤ lv j (valN j) j.secs[s]!.height a := fun a ha => by
        have hal := above_lt ha
        rcases lv_spec j (valN j) j.secs[s]!.height a with ⟨f1, _⟩ | ⟨s', f1, f2, f3, f4, _⟩
        · exact absurd f1 (e1 a ha)
        · have hs' : s' < j.secs.length := by rw [valN_len hal] at f1; exact f1
          have hpos : possAt j a s' = true := by simp only [okF, Bool.and_eq_true] at f4; exact f4.1
          obtain ⟨g1, g2⟩ := ih a (above_less hv ha) hal s' hs' hpos f3
          rcases lv_spec j (rowsF vals) j.secs[s]!.height a with ⟨_, f5⟩ | ⟨s'', k1, k2, k3, k4, k5⟩
          · have := f5 s' (by rw [hrl a hal]; exact hs') g1
            rw [this] at f4; cases f4
          · have := k5 s' (by rw [hrl a hal]; exact hs') g1 f4
            rw [k2, f2]
            exact ⟨k3, by omega⟩
      have hle : (aboveF j i).length ≤ 12 := by have := above_len j i; omega
      have hsum := cnt (aboveF j i) (lv j (rowsF vals) j.secs[s]!.height) (fun a ha => ((hlw _ a (above_lt ha)).resolve_left (hl a ha).1).2)
      rcases costF_eq hv (val := rowsF vals) hi hs (fun a ha => (hlw _ a (above_lt ha)).imp id (fun h => h.1)) (fun _ => by omega) with ⟨⟨a, ha, f⟩, _⟩ | ⟨_, f⟩
      · exact absurd f (hl a ha).1
      have hg := hgood i s hi hs
      rw [badV, hp, f] at hg
      have ho := (ownC_bd hv hi hs).1
      have hnn : 0 ≤ ((aboveF j i).map (lv j (rowsF vals) j.secs[s]!.height)).sum := list_sum_nn (fun a ha => ((hlw _ a (above_lt ha)).resolve_left (hl a ha).1).1)
      have hne' : ¬ (ownC j i s + ((aboveF j i).map (lv j (rowsF vals) j.secs[s]!.height)).sum = -1) := by omega
      have hcmp := list_sum_le (fun a ha => (hl a ha).2)
      rw [show decide (ownC j i s + ((aboveF j i).map (lv j (rowsF vals) j.secs[s]!.height)).sum = -1) = false by simp only [decide_eq_false_iff_not]; exact hne'] at hg
      simp only [Bool.true_and, Bool.false_and, Bool.false_or, Bool.not_false, Bool.or_eq_false_iff, decide_eq_false_iff_not] at hg
      rw [e2]
      exact ⟨hg.1, by omega⟩
  rcases costB_eq hv with ⟨_, e⟩ | ⟨e1, e2, e3⟩
  · exact absurd e hB
  have hl : ∀ a ∈ rootsF j, lv j (rowsF vals) 4194304 a ≠ -1 ∧ lv j (rowsF vals) 4194304 a ≤ lv j (valN j) 4194304 a := fun a ha => by
    have hal := (root_mem ha).1
    rcases lv_spec j (valN j) 4194304 a with ⟨f1, _⟩ | ⟨s', f1, f2, f3, f4, _⟩
    · exact absurd f1 (e1 a ha)
    · have hs' : s' < j.secs.length := by rw [valN_len hal] at f1; exact f1
      have hpos : possAt j a s' = true := by simp only [okF, Bool.and_eq_true] at f4; exact f4.1
      obtain ⟨g1, g2⟩ := key a hal s' hs' hpos f3
      rcases lv_spec j (rowsF vals) 4194304 a with ⟨_, f5⟩ | ⟨s'', k1, k2, k3, k4, k5⟩
      · have := f5 s' (by rw [hrl a hal]; exact hs') g1
        rw [this] at f4; cases f4
      · have := k5 s' (by rw [hrl a hal]; exact hs') g1 f4
        rw [k2, f2]
        exact ⟨k3, by omega⟩
  have hle : (rootsF j).length ≤ 12 := by
    have := List.length_filter_le (fun a => decide (j.below.l[a]! = -1)) (List.range j.below.l.length)
    simp only [List.length_range] at this
    unfold rootsF
    omega
  have hsum := cnt (rootsF j) (lv j (rowsF vals) 4194304) (fun a ha => ((hlw _ a (root_mem ha).1).resolve_left (hl a ha).1).2)
  have hnn := list_sum_nn (fun a ha => ((hlw 4194304 a (root_mem ha).1).resolve_left (hl a ha).1).1)
  have hcmp := list_sum_le (fun a ha => (hl a ha).2)
  rw [← hbn, boundF, sumG_eq (fun a ha => (hl a ha).1) (fun a ha => ((hlw _ a (root_mem ha).1).resolve_left (hl a ha).1).1) (Int.le_refl _) (by omega)]
  simp only [Option.getD_some, Int.zero_add]
  omega
end Go.Gv

set_option linter.unusedSimpArgs false
namespace Go.Gv

def exSec (name : List UInt8) (h p : Int) : Sec := ⟨name, h, p, false, [(0, 0), (h, h * h)], false, [(0, 0), (h, 1000 * h)]⟩
def exJob (room : Int) : Job := ⟨⟨false, [1, -1]⟩, ⟨false, [1000, 1000]⟩, ⟨false, [1, 1]⟩, ⟨false, [10, 10]⟩, ⟨false, [room, 2000]⟩, false, [exSec [97] 200 5, exSec [98] 300 4]⟩
theorem ex400 : solveF (exJob 400) = (8000, (false, [1, 1]), 0) := by decide +kernel
theorem ex250 : solveF (exJob 250) = (9000, (false, [0, 1]), 0) := by decide +kernel
theorem ex1 : jobValid (exJob 1) = true := by decide +kernel

variable {C : CC} (hC : Closed prog C)
include hC
theorem equalI_c (b b' : Bool) (xs ys : List Int) (hx : xs.length < 2 ^ 62) (hy : ys.length < 2 ^ 62) : C 19 [slx b (xs.map fun n => [.int .i64 n]), slx b' (ys.map fun n => [.int .i64 n])] (.bool (decide (xs = ys))) [] := by
  refine start hC (nf := N19_slices_Equal__int_int) rfl rfl ?_
  simp [N19_slices_Equal__int_int]
  refine brB_of (fun h => ?_) (fun h => ?_) <;> simp at h <;> simp [h]
  · rintro rfl; exact h rfl
  have h' : xs.length = ys.length := by omega
  refine loop_of Nat (fun i => [(0, slx b (xs.map fun n => [.int .i64 n])), (1, slx b' (ys.map fun n => [.int .i64 n])), (12, .int .i64 ys.length), (13, .int .i64 i)])
    (fun i => i ≤ ys.length ∧ ∀ k, k < i → xs[k]? = ys[k]?) (fun i => ys.length - i) 0 (by simp) (by simp) ?_
  rintro i ⟨hi, hok⟩
  simp
  refine brB_of (fun h1 => ?_) (fun h1 => ?_) <;> simp at h1 <;> simp [h1]
  · have hw : IntKind.wrap .i64 ((i : Int) + 1) = ((i + 1 : Nat) : Int) := wrap_i64 (by omega) (by omega)
    have hx1 : i < xs.length := by omega
    simp [h1, hx1]
    refine ⟨indW_of (by decide +kernel), ?_⟩
    refine brB_of (fun h2 => ?_) (fun h2 => ?_) <;> simp [h1, hx1] at h2 <;> simp [h1, hx1, h2, hw]
    · rintro rfl
      exact h2 rfl
    · refine ⟨i + 1, ⟨by omega, fun k hk => ?_⟩, by omega, rfl⟩
      rcases Nat.lt_succ_iff_lt_or_eq.1 hk with h5 | rfl
      · exact hok k h5
      · rw [List.getElem?_eq_getElem h1, List.getElem?_eq_getElem hx1, h2]
  · refine List.ext_getElem? fun k => ?_
    rcases Nat.lt_or_ge k i with h2 | h2
    · exact hok k h2
    · rw [List.getElem?_eq_none (by omega), List.getElem?_eq_none (by omega)]
theorem section_c (name : List UInt8) (h p : Int) (hh : 0 ≤ h ∧ h < 1000000) : C 43 [.str name, .int .i64 h, .int .i64 p] (.agg (secC (exSec name h p))) [] := by
  have e1 : IntKind.wrap .i64 (h * h) = h * h := wrap_i64 rfl (by
    have := Int.mul_nonneg hh.1 hh.1
    have := Int.mul_le_mul (show h ≤ 1000000 by omega) (show h ≤ 1000000 by omega) hh.1 (by omega)
    omega)
  have e2 : IntKind.wrap .i64 (1000 * h) = 1000 * h := wrap_i64 rfl (by omega)
  refine start hC (nf := N43_law47_section) rfl rfl ?_
  simp [N43_law47_section, e1, e2]
  rfl
theorem example_c (room : Int) : C 23 [.int .i64 room] (.agg (jobC (exJob room))) [] := by
  refine start hC (nf := N23_law47_example) rfl rfl ?_
  have h1 := section_c hC [97] 200 5 (by omega)
  have h2 := section_c hC [98] 300 4 (by omega)
  simp [N23_law47_example]
  refine callW_of h1 (.inr rfl) ?_
  simp
  refine callW_of h2 (.inr rfl) ?_
  simp [secC_eq]
  rfl
theorem awake_c : C 3 [] (.bool true) [] := by
  refine start hC (nf := N3_law47_awake) rfl rfl ?_
  have h1 := example_c hC 400
  have h2 := example_c hC 250
  have h3 := example_c hC 1
  have s1 := Solve_c hC (exJob 400)
  have s2 := Solve_c hC (exJob 250)
  have v3 := Valid_c hC (exJob 1)
  rw [ex400] at s1
  rw [ex250] at s2
  rw [ex1] at v3
  have q1 := equalI_c hC false false [1, 1] [1, 1] (by simp) (by simp)
  have q2 := equalI_c hC false false [0, 1] [0, 1] (by simp) (by simp)
  simp [intsD] at s1 s2 q1 q2
  simp [N3_law47_awake]
  refine callW_of h1 (.inr rfl) ?_
  simp
  refine callW_of s1 (.inr rfl) ?_
  simp
  refine callW_of h2 (.inr rfl) ?_
  simp
  refine callW_of s2 (.inr rfl) ?_
  simp
  refine callW_of q1 (.inl rfl) ?_
  simp
  refine callW_of q2 (.inl rfl) ?_
  simp
  refine callW_of h3 (.inr rfl) ?_
  simp
  refine callW_of v3 (.inl rfl) ?_
  simp
end Go.Gv

set_option linter.unusedSimpArgs false
namespace Go.Gv

def outS1 (j : Job) (s : Int) : Bool := decide (s < 0) || decide ((j.secs.length : Int) ≤ s)
def choiceF (j : Job) (ch : List Int) : Int := if jobValid j = false then 1 else if ch.length ≠ j.below.l.length then 3 else if ch.any (outS1 j) = true then 2 else 0
def secAt (j : Job) (ch : List Int) (i : Nat) : Nat := (ch[i]!).toNat
def upper (j : Job) (ch : List Int) (i : Nat) (a : Nat) : Bool := decide (j.secs[secAt j ch i]!.height < j.secs[secAt j ch a]!.height)
def badA (j : Job) (ch : List Int) (i : Nat) : Bool := !possAt j i (secAt j ch i) || (aboveF j i).any (upper j ch i)
def allowedF (j : Job) (ch : List Int) : Bool × Int × Int := if choiceF j ch ≠ 0 then (false, 0, choiceF j ch) else
  match (List.range j.below.l.length).find? (badA j ch) with
  | some i => (false, i, 0)
  | none => (true, -1, 0)
def costC (j : Job) (ch : List Int) : Int := S (fun i => ownC j i (secAt j ch i)) j.below.l.length
def costF2 (j : Job) (ch : List Int) : Int × Int := if choiceF j ch ≠ 0 then (0, choiceF j ch) else (costC j ch, 0)

/-- What a right choice is. -/
theorem choice_ok {j : Job} {ch : List Int} (h : choiceF j ch = 0) : jobValid j = true ∧ ch.length = j.below.l.length ∧ ∀ i, i < j.below.l.length → ∃ s : Nat, ch[i]! = s ∧ s < j.secs.length ∧ secAt j ch i = s := by
  unfold choiceF at h
  split at h
  · cases h
  rename_i h1
  split at h
  · cases h
  rename_i h2
  split at h
  · cases h
  rename_i h3
  have hl : ch.length = j.below.l.length := Classical.byContradiction fun e => h2 e
  refine ⟨by simpa using h1, hl, fun i hi => ?_⟩
  rw [Bool.not_eq_true, List.any_eq_false] at h3
  have h4 := h3 ch[i]! (by rw [getElem!_pos ch i (by omega)]; exact List.getElem_mem _)
  simp only [outS1, Bool.or_eq_true, decide_eq_true_eq, not_or] at h4
  exact ⟨(ch[i]!).toNat, by omega, by omega, rfl⟩

end Go.Gv

set_option linter.unusedSimpArgs false
namespace Go.Gv

theorem allowed_none {j : Job} {ch : List Int} (hc : choiceF j ch = 0) (h : ∀ k, k < j.below.l.length → badA j ch k = false) : allowedF j ch = (true, -1, 0) := by
  unfold allowedF
  rw [if_neg (by rw [hc]; simp)]
  have : (List.range j.below.l.length).find? (badA j ch) = none := by
    rw [List.find?_eq_none]
    intro k hk
    rw [List.mem_range] at hk
    rw [h k hk]; simp
  rw [this]
theorem allowed_some {j : Job} {ch : List Int} {i : Nat} (hc : choiceF j ch = 0) (hi : i < j.below.l.length) (h : ∀ k, k < i → badA j ch k = false) (hb : badA j ch i = true) : allowedF j ch = (false, (i : Int), 0) := by
  unfold allowedF
  rw [if_neg (by rw [hc]; simp)]
  have : (List.range j.below.l.length).find? (badA j ch) = some i := by
    rw [List.find?_eq_some_iff_getElem]
    refine ⟨hb, i, by simpa using hi, by simp, fun k hk => ?_⟩
    simp [h k hk]
  rw [this]
theorem S_bd {g : Nat → Int} {b : Int} : ∀ n, (∀ a, a < n → 0 ≤ g a ∧ g a ≤ b) → 0 ≤ S g n ∧ S g n ≤ n * b
  | 0, _ => by simp [S]
  | n + 1, h => by
    have h1 := S_bd n (fun a ha => h a (by omega))
    have h2 := h n (by omega)
    simp only [S]
    have e : ((n + 1 : Nat) : Int) * b = n * b + b := by rw [Int.natCast_add, Int.add_mul]; simp
    rw [e]; omega
end Go.Gv

set_option linter.unusedSimpArgs false
namespace Go.Gv

theorem bestF_at {j : Job} {i : Nat} (hi : i < j.below.l.length) : (bestF j)[i]! = chUp j j.below.l.length i := by
  rw [getElem!_pos _ i (by simpa [bestF] using hi)]
  simp [bestF]
theorem okF_iff {j : Job} {a s : Nat} {h : Int} : okF j a h s = true ↔ possAt j a s = true ∧ j.secs[s]!.height ≤ h := by
  simp [okF]
theorem above_mem {j : Job} {i a : Nat} (h : a ∈ aboveF j i) : j.below.l[a]! = (i : Int) := by
  simp only [aboveF, List.mem_filter, List.mem_range, decide_eq_true_eq] at h
  exact h.2

theorem best_ok {j : Job} (hv : jobValid j = true) (hc : costB j ≠ -1) : allowedF j (bestF j) = (true, -1, 0) ∧ costF2 j (bestF j) = (costB j, 0) := by
  have hG := fun i hi => (good_up hv hc j.below.l.length (Nat.le_refl _) i hi (by omega)).sec
  obtain ⟨ch, hch⟩ : ∃ ch, ch = chUp j j.below.l.length := ⟨_, rfl⟩
  rw [← hch] at hG
  have hat : ∀ i, i < j.below.l.length → (bestF j)[i]! = ch i := fun i hi => by rw [bestF_at hi, hch]
  have hlen : (bestF j).length = j.below.l.length := by simp [bestF]
  have hsec : ∀ i s, i < j.below.l.length → ch i = ((s : Nat) : Int) → secAt j (bestF j) i = s := fun i s hi e => by rw [secAt, hat i hi, e]; rfl
  have h0 : choiceF j (bestF j) = 0 := by
    rw [choiceF, if_neg (by rw [hv]; simp), if_neg (by omega), if_neg]
    rw [Bool.not_eq_true, List.any_eq_false]
    intro x hx
    obtain ⟨i, hi, rfl⟩ := List.getElem_of_mem hx
    obtain ⟨s, e1, e2, _⟩ := hG i (by omega)
    have := hat i (by omega)
    rw [getElem!_pos _ i hi, e1] at this
    rw [this]
    simp [outS1]
    omega
  have hh : ∀ i a s, i < j.below.l.length → ch i = ((s : Nat) : Int) → a ∈ aboveF j i → hgt j ch a = j.secs[s]!.height := fun i a s hi e ha => by
    have := above_mem ha
    rw [hgt, if_neg (by omega), this]
    simp [e]
  refine ⟨allowed_none h0 (fun i hi => ?_), ?_⟩
  · obtain ⟨s, e1, e2, e3, e4, e5⟩ := hG i hi
    rw [badA, hsec i s hi e1, (okF_iff.1 e4).1, Bool.not_true, Bool.false_or, List.any_eq_false]
    intro a ha
    have hal := above_lt ha
    obtain ⟨t, f1, f2, f3, f4, f5⟩ := hG a hal
    rw [upper, hsec i s hi e1, hsec a t hal f1, decide_eq_true_eq]
    have := (okF_iff.1 f4).2
    rw [hh i a s hi e1 ha] at this
    omega
  rw [costF2, if_neg (by rw [h0]; simp)]
  have hstep : ∀ i, i < j.below.l.length → lv j (valN j) (hgt j ch i) i = ownC j i (secAt j (bestF j) i) + AS j (fun a => lv j (valN j) (hgt j ch a) a) i := fun i hi => by
    obtain ⟨s, e1, e2, e3, e4, e5⟩ := hG i hi
    rw [hsec i s hi e1, e5]
    rcases valN_eq' hv hi e2 (okF_iff.1 e4).1 with ⟨_, f⟩ | ⟨_, f⟩
    · exact absurd f e3
    rw [f, ← above_sum hv _ hi]
    have : (aboveF j i).map (lv j (valN j) j.secs[s]!.height) = (aboveF j i).map (fun a => lv j (valN j) (hgt j ch a) a) := List.map_congr_left fun a ha => by rw [hh i a s hi e1 ha]
    rw [this]
  have hF : ∀ i, i ≤ j.below.l.length → FS j (fun a => lv j (valN j) (hgt j ch a) a) i = S (fun i => ownC j i (secAt j (bestF j) i)) i := by
    intro i
    induction i with
    | zero => intro _; simp [FS, S]
    | succ i ih =>
      intro hi
      have h1 := FS_step hv (fun a => lv j (valN j) (hgt j ch a) a) (i := i) (by omega)
      have h2 := hstep i (by omega)
      have h3 := ih (by omega)
      simp only [S]
      omega
  rcases costB_eq hv with ⟨_, e⟩ | ⟨e1, e2, e3⟩
  · exact absurd e hc
  have hr : (rootsF j).map (lv j (valN j) 4194304) = (rootsF j).map (fun a => lv j (valN j) (hgt j ch a) a) := List.map_congr_left fun a ha => by rw [hgt, if_pos (root_mem ha).2]
  rw [hr, roots_sum hv, hF _ (Nat.le_refl _)] at e2
  rw [e2, costC]

theorem room_le {j : Job} (hv : jobValid j = true) {i s : Nat} (hi : i < j.below.l.length) (hp : possAt j i s = true) : j.secs[s]!.height ≤ 4194304 := by
  have h1 : j.room.l[i]! ≤ 4194304 := by
    simp only [jobValid, Bool.and_eq_true, List.all_eq_true, List.mem_range] at hv
    have := hv.2 i hi
    simp only [pipeOk, inR, Bool.and_eq_true, decide_eq_true_eq] at this
    omega
  simp only [possAt, Bool.and_eq_true, decide_eq_true_eq] at hp
  omega

theorem best_le {j : Job} {ch : List Int} (h0 : choiceF j ch = 0) (ha : (allowedF j ch).1 = true) : costB j ≠ -1 ∧ costB j ≤ costC j ch := by
  obtain ⟨hv, hlen, hs⟩ := choice_ok h0
  have hbad : ∀ i, i < j.below.l.length → badA j ch i = false := fun i hi => by
    unfold allowedF at ha
    rw [if_neg (by rw [h0]; simp)] at ha
    cases hf : (List.range j.below.l.length).find? (badA j ch) with
    | some k => rw [hf] at ha; cases ha
    | none =>
      rw [List.find?_eq_none] at hf
      simpa using hf i (by simpa using hi)
  have hsl : ∀ i, i < j.below.l.length → secAt j ch i < j.secs.length := fun i hi => by obtain ⟨s, _, e2, e3⟩ := hs i hi; omega
  have hpos : ∀ i, i < j.below.l.length → possAt j i (secAt j ch i) = true := fun i hi => by
    have := hbad i hi
    rw [badA, Bool.or_eq_false_iff] at this
    simpa using this.1
  have hle : ∀ i a, i < j.below.l.length → a ∈ aboveF j i → okF j a j.secs[secAt j ch i]!.height (secAt j ch a) = true := fun i a hi ha => by
    refine okF_iff.2 ⟨hpos a (above_lt ha), ?_⟩
    have := hbad i hi
    rw [badA, Bool.or_eq_false_iff, List.any_eq_false] at this
    have := this.2 a ha
    rw [upper, decide_eq_true_eq] at this
    omega
  have hlv : ∀ a h, a < j.below.l.length → (valN j a)[secAt j ch a]! ≠ -1 → okF j a h (secAt j ch a) = true → lv j (valN j) h a ≠ -1 ∧ lv j (valN j) h a ≤ (valN j a)[secAt j ch a]! := fun a h hal hne hok => by
    have hl : secAt j ch a < (valN j a).length := by rw [valN_len hal]; exact hsl a hal
    rcases lv_spec j (valN j) h a with ⟨_, f⟩ | ⟨s, f1, f2, f3, f4, f5⟩
    · rw [f _ hl hne] at hok; cases hok
    · have := f5 _ hl hne hok
      rw [f2]
      exact ⟨f3, this⟩
  have key : ∀ i, i < j.below.l.length → (valN j i)[secAt j ch i]! ≠ -1 ∧ (valN j i)[secAt j ch i]! ≤ ownC j i (secAt j ch i) + AS j (fun a => (valN j a)[secAt j ch a]!) i := by
    intro i
    induction i using Nat.strongRecOn with
    | _ i ih =>
      intro hi
      have hl : ∀ a ∈ aboveF j i, lv j (valN j) j.secs[secAt j ch i]!.height a ≠ -1 ∧ lv j (valN j) j.secs[secAt j ch i]!.height a ≤ (valN j a)[secAt j ch a]! := fun a ha =>
        hlv a _ (above_lt ha) (ih a (above_less hv ha) (above_lt ha)).1 (hle i a hi ha)
      rcases valN_eq' hv hi (hsl i hi) (hpos i hi) with ⟨⟨a, ha, f⟩, _⟩ | ⟨f1, f2⟩
      · exact absurd f (hl a ha).1
      have h1 := (ownC_bd hv hi (hsl i hi)).1
      have h2 := list_sum_le (fun a ha => (hl a ha).2)
      have h3 : 0 ≤ ((aboveF j i).map (lv j (valN j) j.secs[secAt j ch i]!.height)).sum := list_sum_nn (fun a ha => ((lvN_bd hv (above_lt ha)).resolve_left (hl a ha).1).1)
      rw [above_sum hv (fun a => (valN j a)[secAt j ch a]!) hi] at h2
      rw [f2]
      omega
  have hF : ∀ i, i ≤ j.below.l.length → FS j (fun a => (valN j a)[secAt j ch a]!) i ≤ S (fun i => ownC j i (secAt j ch i)) i := by
    intro i
    induction i with
    | zero => intro _; simp [FS, S]
    | succ i ih =>
      intro hi
      have h1 := FS_step hv (fun a => (valN j a)[secAt j ch a]!) (i := i) (by omega)
      have h2 := (key i (by omega)).2
      have h3 := ih (by omega)
      simp only [S]
      omega
  have hr : ∀ a ∈ rootsF j, lv j (valN j) 4194304 a ≠ -1 ∧ lv j (valN j) 4194304 a ≤ (valN j a)[secAt j ch a]! := fun a ha =>
    hlv a _ (root_mem ha).1 (key a (root_mem ha).1).1 (okF_iff.2 ⟨hpos a (root_mem ha).1, room_le hv (root_mem ha).1 (hpos a (root_mem ha).1)⟩)
  rcases costB_eq hv with ⟨⟨a, ha, e⟩, _⟩ | ⟨e1, e2, e3⟩
  · exact absurd e (hr a ha).1
  have h1 := list_sum_le (fun a ha => (hr a ha).2)
  rw [roots_sum hv (fun a => (valN j a)[secAt j ch a]!)] at h1
  have h2 := hF _ (Nat.le_refl _)
  rw [costC]
  omega
end Go.Gv

set_option linter.unusedSimpArgs false
namespace Go.Gv
open Go.Lib

theorem shlN (a k m : Nat) (hm : m = a * 2 ^ k % 18446744073709551616) : IntKind.u64.wrap ((a : Int) * 2 ^ k) = (m : Int) := by
  have e : (a : Int) * 2 ^ k = ((a * 2 ^ k : Nat) : Int) := by push_cast; rfl
  rw [e, wrapM, hm]
theorem shl1 (a m : Nat) (hm : m = a * 2 % 18446744073709551616) : IntKind.u64.wrap ((a : Int) * 2 ^ min 1 IntKind.u64.bits) = (m : Int) := shlN a 1 m hm
theorem shl32 (a m : Nat) (hm : m = a * 4294967296 % 18446744073709551616) : IntKind.u64.wrap ((a : Int) * 2 ^ min 32 IntKind.u64.bits) = (m : Int) := shlN a 32 m hm
theorem shr63 (a : Nat) : Int.fdiv (a : Int) (2 ^ min 63 IntKind.u64.bits) = ((a / 9223372036854775808 : Nat) : Int) := shrN a 63
theorem uw {n : Int} {m : Nat} (h : n = m ∨ n = m + 18446744073709551616 ∨ n = m - 18446744073709551616) (hm : m < 18446744073709551616) : IntKind.u64.wrap n = (m : Int) := by
  rw [wrapU]; omega

end Go.Gv

set_option linter.unusedSimpArgs false
namespace Go.Gv
open Go.Lib

variable {C : CC} (hC : Closed prog C)
include hC
theorem rSize_c (n : Nat) (h : n < 9223372036854775808) : C 86 [.int .i64 n] (.int .u64 (n : Int)) [] := by
  refine start hC (nf := N86_ref03_Size) rfl rfl ?_
  simp [N86_ref03_Size, wrapN n (by omega)]
  refine brB_of (fun h1 => ?_) (fun h1 => ?_) <;> simp at h1 <;> simp [h1, wrapN n (by omega)]
  omega
theorem rLess_c (a b c d : Nat) : C 87 [.agg [.int .u64 a, .int .u64 b], .agg [.int .u64 c, .int .u64 d]] (.bool (decide (a < c ∨ (a = c ∧ b < d)))) [] := by
  refine start hC (nf := N87_ref03_Less) rfl rfl ?_
  simp [N87_ref03_Less]
  refine brB_of (fun h => ?_) (fun h => ?_) <;> simp at h <;> simp [h]
  have h3 : ¬ a < c := by omega
  refine brB_of (fun h2 => ?_) (fun h2 => ?_) <;> simp at h2 <;> simp [h2, h3]
  · have h4 : a = c := by omega
    simp [h4]
  · omega
theorem rMinus_c (a b c d p q : Nat) (ha : a < 18446744073709551616) (hb : b < 18446744073709551616) (hd : d < 18446744073709551616) (hq : q < 18446744073709551616) (h : p * 18446744073709551616 + q + (c * 18446744073709551616 + d) = a * 18446744073709551616 + b) : C 95 [.agg [.int .u64 a, .int .u64 b], .agg [.int .u64 c, .int .u64 d]] (.agg [.int .u64 p, .int .u64 q]) [] := by
  refine start hC (nf := N95_ref03_Minus) rfl rfl ?_
  simp [N95_ref03_Minus]
  have e3 : IntKind.u64.wrap ((b : Int) - (d : Int)) = (q : Int) := uw (by omega) hq
  refine brB_of (fun h1 => ?_) (fun h1 => ?_) <;> simp at h1 <;> simp [h1, e3]
  · have e1 : IntKind.u64.wrap ((a : Int) - (c : Int)) = ((p + 1 : Nat) : Int) := uw (by omega) (by omega)
    rw [e1]
    exact uw (by omega) (by omega)
  · exact uw (by omega) (by omega)
theorem rShift_c (a b w t p q : Nat) (hb : b < 18446744073709551616) (hw : w ≤ 1) (hp : p < 18446744073709551616) (hq : q < 18446744073709551616) (ht : (a * 18446744073709551616 + b) * 2 + w = (t * 18446744073709551616 + p) * 18446744073709551616 + q) : C 94 [.agg [.int .u64 a, .int .u64 b], .int .u64 w] (.agg [.int .u64 p, .int .u64 q]) [] := by
  refine start hC (nf := N94_ref03_Shift) rfl rfl ?_
  simp [N94_ref03_Shift]
  obtain ⟨a2, ha2⟩ : ∃ a2, a2 = a * 2 % 18446744073709551616 := ⟨_, rfl⟩
  obtain ⟨b2, hb2⟩ : ∃ b2, b2 = b * 2 % 18446744073709551616 := ⟨_, rfl⟩
  obtain ⟨c, hc⟩ : ∃ c, c = b / 9223372036854775808 := ⟨_, rfl⟩
  rw [shr63, shl1 a a2 ha2, shl1 b b2 hb2, ← hc]
  exact ⟨uw (by omega) hp, uw (by omega) hq⟩
theorem rMul_c (x y : Nat) (hx : x < 18446744073709551616) (hy : y < 18446744073709551616) : C 85 [.int .u64 x, .int .u64 y] (wideD (x * y)) [] := by
  refine start hC (nf := N85_ref03_Mul) rfl rfl ?_
  obtain ⟨bd, bt, bw, hhi⟩ := Lib.mul64_hi x y hx hy
  have ba := Lib.half_mul_le (a := x / 4294967296) (b := y / 4294967296) (by omega) (by omega)
  have bb := Lib.half_mul_le (a := x / 4294967296) (b := y % 4294967296) (by omega) (by omega)
  have bc := Lib.half_mul_le (a := x % 4294967296) (b := y / 4294967296) (by omega) (by omega)
  have hxy : x * y = x / 4294967296 * (y / 4294967296) * 18446744073709551616 + (x / 4294967296 * (y % 4294967296) + x % 4294967296 * (y / 4294967296)) * 4294967296 + x % 4294967296 * (y % 4294967296) := by
    have e1 : x = x / 4294967296 * 4294967296 + x % 4294967296 := by omega
    have e2 : y = y / 4294967296 * 4294967296 + y % 4294967296 := by omega
    generalize x / 4294967296 = ah at *
    generalize x % 4294967296 = al at *
    generalize y / 4294967296 = bh at *
    generalize y % 4294967296 = bl at *
    rw [e1, e2, Nat.add_mul, Nat.mul_add, Nat.mul_add, Nat.add_mul]
    rw [show ah * 4294967296 * (bh * 4294967296) = ah * bh * 18446744073709551616 by rw [Nat.mul_assoc, Nat.mul_left_comm 4294967296, ← Nat.mul_assoc]]
    rw [show ah * 4294967296 * bl = ah * bl * 4294967296 by rw [Nat.mul_right_comm], show al * (bh * 4294967296) = al * bh * 4294967296 by rw [Nat.mul_assoc]]
    omega
  obtain ⟨P, hP⟩ : ∃ P, P = x / 4294967296 * (y / 4294967296) := ⟨_, rfl⟩
  obtain ⟨Q, hQ⟩ : ∃ Q, Q = x / 4294967296 * (y % 4294967296) := ⟨_, rfl⟩
  obtain ⟨R, hR⟩ : ∃ R, R = x % 4294967296 * (y / 4294967296) := ⟨_, rfl⟩
  obtain ⟨L, hL⟩ : ∃ L, L = x % 4294967296 * (y % 4294967296) := ⟨_, rfl⟩
  obtain ⟨Z, hZ⟩ : ∃ Z, Z = x * y := ⟨_, rfl⟩
  rw [← hP, ← hQ, ← hR, ← hL, ← hZ] at hxy
  rw [← hP] at ba
  rw [← hQ] at bb
  rw [← hR] at bc
  rw [← hL] at bd
  obtain ⟨zh, hzh⟩ : ∃ zh, zh = Z / 18446744073709551616 := ⟨_, rfl⟩
  obtain ⟨zl, hzl⟩ : ∃ zl, zl = Z % 18446744073709551616 := ⟨_, rfl⟩
  rw [← hZ, wideD, ← hzh, ← hzl]
  simp [N85_ref03_Mul]
  simp only [maskN x hx, maskN y hy, shr32, mulN, ← hP, ← hQ, ← hR, ← hL, wrapN L bd, wrapN P (by omega), wrapN Q (by omega), wrapN R (by omega), addN]
  obtain ⟨M, hM⟩ : ∃ M, M = Q + L / 4294967296 := ⟨_, rfl⟩
  have hM1 : M < 18446744073709551616 := by omega
  rw [← hM, wrapN M hM1, shr32, maskN M hM1, maskN L bd, addN]
  obtain ⟨O, hO⟩ : ∃ O, O = R + M % 4294967296 := ⟨_, rfl⟩
  have hO1 : O < 18446744073709551616 := by omega
  obtain ⟨O2, hO2⟩ : ∃ O2, O2 = O * 4294967296 % 18446744073709551616 := ⟨_, rfl⟩
  simp only [addN R, ← hO, wrapN O hO1, shr32, shl32 O O2 hO2]
  rw [wrapN (P + M / 4294967296) (by omega), addN, addN, wrapN _ (by omega), wrapN _ (by omega)]
  clear hP hQ hR hL hZ bt bw hhi
  exact ⟨by omega, by omega⟩
end Go.Gv

set_option linter.unusedSimpArgs false
namespace Go.Gv

/-- A quotient, bit by bit: a is what is left of x, shifted. -/
def DvS (x b i a q r : Nat) : Prop := i ≤ 128 ∧ r < b ∧ ∃ c, a = c * 2 ^ i ∧ c < 2 ^ (128 - i) ∧ (q * b + r) * 2 ^ (128 - i) + c = x
theorem DvS.step {x b i a q r : Nat} (h : DvS x b i a q r) (hi : i < 128) (hb : 0 < b) :
    a < 340282366920938463463374607431768211456 ∧ 2 * q ≤ x ∧
    ∀ w r' a', 2 * r + a / 170141183460469231731687303715884105728 = w * b + r' → r' < b → a' = 2 * a % 340282366920938463463374607431768211456 → DvS x b (i + 1) a' (2 * q + w) r' ∧ 2 * q + w ≤ x := by
  obtain ⟨_, hr, c, h1, h2, h3⟩ := h
  obtain ⟨m, hm⟩ : ∃ m, m + 1 = 128 - i := ⟨127 - i, by omega⟩
  have hm2 : m = 128 - (i + 1) := by omega
  rw [← hm, Nat.pow_succ] at h2 h3
  obtain ⟨V, hV⟩ : ∃ V, V = 2 ^ m := ⟨_, rfl⟩
  obtain ⟨W, hW⟩ : ∃ W, W = 2 ^ i := ⟨_, rfl⟩
  have hVW : V * W = 170141183460469231731687303715884105728 := by
    rw [hV, hW, ← Nat.pow_add, show m + i = 127 by omega]
  have hVp : 0 < V := by rw [hV]; exact Nat.two_pow_pos m
  rw [← hV] at h2 h3
  rw [← hW] at h1
  obtain ⟨t, ht⟩ : ∃ t, t = c / V := ⟨_, rfl⟩
  obtain ⟨d, hd⟩ : ∃ d, d = c % V := ⟨_, rfl⟩
  have hc : c = t * V + d := by rw [ht, hd, Nat.mul_comm]; exact (Nat.div_add_mod c V).symm
  have hdV : d < V := by rw [hd]; exact Nat.mod_lt _ hVp
  have ht1 : t ≤ 1 := by
    have : t < 2 := by rw [ht, Nat.div_lt_iff_lt_mul hVp]; omega
    omega
  have ha : a = t * 170141183460469231731687303715884105728 + d * W := by
    rw [h1, hc, Nat.add_mul, Nat.mul_assoc, hVW]
  have hdW : d * W < 170141183460469231731687303715884105728 := by
    have : (d + 1) * W ≤ V * W := Nat.mul_le_mul_right _ hdV
    rw [hVW, Nat.add_mul] at this
    have hWp : 0 < W := by rw [hW]; exact Nat.two_pow_pos i
    omega
  have hbit : a / 170141183460469231731687303715884105728 = t := by
    rw [ha]; generalize d * W = z at *; omega
  have fin : ∀ w r', 2 * r + t = w * b + r' → ((2 * q + w) * b + r') * V + d = x := fun w r' e => by
    have e1 : (2 * q + w) * b + r' = 2 * (q * b + r) + t := by
      rw [Nat.add_mul, Nat.mul_assoc]
      generalize q * b = z at *
      generalize w * b = z' at *
      omega
    rw [e1, ← h3, hc, Nat.add_mul, Nat.mul_comm V 2, ← Nat.mul_assoc, Nat.mul_comm (q * b + r) 2]
    omega
  have big : ∀ w r', 2 * r + t = w * b + r' → 2 * q + w ≤ x := fun w r' e => by
    have e1 := fin w r' e
    have e2 : 2 * q + w ≤ (2 * q + w) * b := Nat.le_mul_of_pos_right _ hb
    have e3 : (2 * q + w) * b + r' ≤ ((2 * q + w) * b + r') * V := Nat.le_mul_of_pos_right _ hVp
    omega
  refine ⟨?_, ?_, ?_⟩
  · rw [ha]; generalize d * W = z at *; omega
  · exact Nat.le_trans (Nat.le_add_right _ _) (big _ _ (Nat.div_add_mod' (2 * r + t) b).symm)
  · intro w r' a' e hr' ha'
    rw [hbit] at e
    refine ⟨⟨by omega, hr', d, ?_, ?_, ?_⟩, big w r' e⟩
    · rw [ha', ha, Nat.pow_succ, ← hW, Nat.mul_comm W 2, Nat.mul_left_comm]
      generalize d * W = z at *
      omega
    · rw [← hm2, ← hV]; exact hdV
    · rw [← hm2, ← hV]; exact fin w r' e
theorem DvS.last {x b a q r : Nat} (h : DvS x b 128 a q r) : q = x / b ∧ r = x % b := by
  obtain ⟨_, hr, c, h1, h2, h3⟩ := h
  simp at h2 h3
  subst h2
  simp at h3
  subst h3
  have hb : 0 < b := by omega
  rw [Nat.mul_comm, Nat.mul_add_div hb, Nat.div_eq_of_lt hr, Nat.mul_add_mod, Nat.mod_eq_of_lt hr]
  exact ⟨rfl, rfl⟩

variable {C : CC} (hC : Closed prog C)
include hC
theorem rMade_c (a b : Nat) : C 84 [.agg [.int .u64 a, .int .u64 b], .bool false] (.agg [.int .u64 a, .int .u64 b, .bool false]) [] := by
  refine start hC (nf := N84_ref03_Made) rfl rfl ?_
  simp [N84_ref03_Made]
  exact indW_of (by decide +kernel)
theorem rOfInt_c (n : Nat) (h : n < 9223372036854775808) : C 68 [.int .i64 n] (.agg [.int .u64 0, .int .u64 n, .bool false]) [] := by
  refine start hC (nf := N68_ref03_OfInt) rfl rfl ?_
  simp [N68_ref03_OfInt]
  refine callW_of (rSize_c hC n h) (.inl rfl) ?_
  have hm := rMade_c hC 0 n
  have h0 : ¬ (n : Int) < 0 := by omega
  simp [h0]
  refine callW_of hm (.inl rfl) ?_
  simp
theorem rTimes_c (x y : Nat) (hx : x < 9223372036854775808) (hy : y < 9223372036854775808) : C 67 [.int .i64 x, .int .i64 y] (.agg [.int .u64 ((x * y / 18446744073709551616 : Nat) : Int), .int .u64 ((x * y % 18446744073709551616 : Nat) : Int), .bool false]) [] := by
  refine start hC (nf := N67_ref03_Times) rfl rfl ?_
  have h0 : ¬ (x : Int) < 0 := by omega
  have h1 : ¬ (y : Int) < 0 := by omega
  have hm := rMul_c hC x y (by omega) (by omega)
  rw [wideD] at hm
  obtain ⟨zh, hzh⟩ : ∃ zh, zh = x * y / 18446744073709551616 := ⟨_, rfl⟩
  obtain ⟨zl, hzl⟩ : ∃ zl, zl = x * y % 18446744073709551616 := ⟨_, rfl⟩
  rw [← hzh, ← hzl] at hm ⊢
  simp [N67_ref03_Times]
  refine callW_of (rSize_c hC x hx) (.inl rfl) ?_
  simp
  refine callW_of (rSize_c hC y hy) (.inl rfl) ?_
  simp
  refine callW_of hm (.inl rfl) ?_
  simp [h0, h1]
  refine callW_of (rMade_c hC zh zl) (.inl rfl) ?_
  simp
set_option maxHeartbeats 2000000 in
theorem rDiv_c (x b : Nat) (hx : x < 340282366920938463463374607431768211456) (hb0 : 0 < b) (hb : b < 9223372036854775808) : C 82 [.agg [.int .u64 ((x / 18446744073709551616 : Nat) : Int), .int .u64 ((x % 18446744073709551616 : Nat) : Int)], .agg [.int .u64 0, .int .u64 b]]
    (.tup [.agg [.int .u64 ((x / b / 18446744073709551616 : Nat) : Int), .int .u64 ((x / b % 18446744073709551616 : Nat) : Int)], .agg [.int .u64 0, .int .u64 ((x % b : Nat) : Int)]]) [] := by
  obtain ⟨xh, hxh⟩ : ∃ xh, xh = x / 18446744073709551616 := ⟨_, rfl⟩
  obtain ⟨xl, hxl⟩ : ∃ xl, xl = x % 18446744073709551616 := ⟨_, rfl⟩
  obtain ⟨yh, hyh⟩ : ∃ yh, yh = x / b / 18446744073709551616 := ⟨_, rfl⟩
  obtain ⟨yl, hyl⟩ : ∃ yl, yl = x / b % 18446744073709551616 := ⟨_, rfl⟩
  obtain ⟨z, hz⟩ : ∃ z, z = x % b := ⟨_, rfl⟩
  rw [← hxh, ← hxl, ← hyh, ← hyl, ← hz]
  refine start hC (nf := N82_ref03_Div) rfl rfl ?_
  simp [N82_ref03_Div]
  refine loop_of (Nat × Nat × Nat × Nat × Nat × Nat) (fun s => [(2, .adr (.r 10032) 0 0), (3, .ptr [.int .u64 0, .int .u64 b]), (4, .adr (.r 10064) 0 0), (5, .adr (.r 10080) 0 0), (6, .adr (.r 10096) 0 0), (7, .adr (.r 10112) 0 0), (8, .int .i64 s.1),
      (10032, .blk 2 [[.int .u64 s.2.1, .int .u64 s.2.2.1]]), (10064, .blk 2 [[.int .u64 0, .int .u64 0]]), (10080, .blk 2 [[.int .u64 0, .int .u64 0]]), (10096, .blk 2 [[.int .u64 s.2.2.2.1, .int .u64 s.2.2.2.2.1]]), (10112, .blk 2 [[.int .u64 0, .int .u64 s.2.2.2.2.2]])])
    (fun s => s.2.2.1 < 18446744073709551616 ∧ s.2.2.2.2.1 < 18446744073709551616 ∧ DvS x b s.1 (s.2.1 * 18446744073709551616 + s.2.2.1) (s.2.2.2.1 * 18446744073709551616 + s.2.2.2.2.1) s.2.2.2.2.2) (fun s => 128 - s.1) (0, xh, xl, 0, 0, 0) ⟨by simp; omega, by simp, by omega, by simpa using hb0, x, by simp; omega, by simp; exact hx, by simp⟩ (by simp) ?_
  rintro ⟨i, ah, al, qh, ql, r⟩ ⟨hal, hql, hS⟩
  simp only at hal hql hS
  simp
  refine brB_of (fun c => ?_) (fun c => ?_) <;> simp at c <;> simp [c]
  · have hrb := hS.2.1
    have hw1 : IntKind.wrap .i64 ((i : Int) + 1) = ((i + 1 : Nat) : Int) := wrap_i64 (by omega) (by omega)
    obtain ⟨g1, g2, g3⟩ := hS.step (by omega) hb0
    obtain ⟨A, hA⟩ : ∃ A, A = ah * 18446744073709551616 + al := ⟨_, rfl⟩
    obtain ⟨Q, hQ⟩ : ∃ Q, Q = qh * 18446744073709551616 + ql := ⟨_, rfl⟩
    rw [← hA] at g1 g3
    rw [← hQ] at g2 g3
    obtain ⟨t, ht⟩ : ∃ t, t = ah / 9223372036854775808 := ⟨_, rfl⟩
    have ht2 : A / 170141183460469231731687303715884105728 = t := by omega
    rw [ht2] at g3
    obtain ⟨p, hp⟩ : ∃ p, p = 2 * A % 340282366920938463463374607431768211456 / 18446744073709551616 := ⟨_, rfl⟩
    obtain ⟨o, ho⟩ : ∃ o, o = 2 * A % 340282366920938463463374607431768211456 % 18446744073709551616 := ⟨_, rfl⟩
    have k1 := rShift_c hC ah al 0 t p o (by omega) (by omega) (by omega) (by omega) (by omega)
    have k2 := rShift_c hC 0 r t 0 0 (2 * r + t) (by omega) (by omega) (by omega) (by omega) (by omega)
    obtain ⟨u, hu⟩ : ∃ u, u = 2 * Q / 18446744073709551616 := ⟨_, rfl⟩
    obtain ⟨v, hv⟩ : ∃ v, v = 2 * Q % 18446744073709551616 := ⟨_, rfl⟩
    have k3 := rShift_c hC qh ql 0 0 u v (by omega) (by omega) (by omega) (by omega) (by omega)
    obtain ⟨r2, hr2⟩ : ∃ r2, r2 = 2 * r + t := ⟨_, rfl⟩
    rw [← hr2] at k2 g3
    have k4 := rLess_c hC 0 r2 0 b
    simp only [Int.natCast_zero] at k1 k2 k3 k4
    have hsh : Int.fdiv (ah : Int) (2 ^ min 63 IntKind.u64.bits) = (t : Int) := by rw [shr63, ht]
    have hsh0 : Int.fdiv 0 (2 ^ min 63 IntKind.u64.bits) = 0 := by simpa using shr63 0
    have e1 : p * 18446744073709551616 + o = 2 * A % 340282366920938463463374607431768211456 := by rw [hp, ho]; exact Nat.div_add_mod' _ _
    have e2 : u * 18446744073709551616 + v = 2 * Q := by rw [hu, hv]; exact Nat.div_add_mod' _ _
    simp [hsh]
    refine callW_of k1 (.inl rfl) ?_
    simp [hsh0]
    refine callW_of k2 (.inl rfl) ?_
    simp
    refine callW_of k3 (.inl rfl) ?_
    simp
    refine callW_of k4 (.inl rfl) ?_
    simp
    refine brB_of (fun d => ?_) (fun d => ?_) <;> simp at d <;> simp [d, hw1]
    · obtain ⟨r3, hr3⟩ : ∃ r3, r3 = r2 - b := ⟨_, rfl⟩
      have k5 := rMinus_c hC 0 r2 0 b 0 r3 (by omega) (by omega) (by omega) (by omega) (by clear g3 hp ho hu hv g1 g2 hx k1 k2 k3 k4 e1 e2; omega)
      simp only [Int.natCast_zero] at k5
      obtain ⟨m1, m2⟩ := g3 1 r3 (2 * A % 340282366920938463463374607431768211456) (by omega) (by omega) rfl
      have hve : v % 2 = 0 ∧ v < 18446744073709551616 := by
        clear g3 m1 m2 k1 k2 k3 k4 k5 hS e1 e2 hp ho g1 hA
        omega
      have hv1 : IntKind.u64.wrap ((v : Int) + 1) = ((v + 1 : Nat) : Int) := uw (.inl (by push_cast; rfl)) (by clear g3 m1 m2 hp ho hu hv; omega)
      refine callW_of k5 (.inl rfl) ?_
      simp [hv1, hw1]
      refine ⟨i + 1, p, o, u, v + 1, r3, ⟨by clear g3 m1 m2 hu hv; omega, by clear g3 m1 m2 hp ho hu hv; omega, ?_⟩, by omega, ?_⟩
      · rw [e1, ← Nat.add_assoc, e2]; exact m1
      · simp
    · obtain ⟨m1, m2⟩ := g3 0 r2 (2 * A % 340282366920938463463374607431768211456) (by omega) (by omega) rfl
      refine ⟨i + 1, p, o, u, v, r2, ⟨by omega, by omega, ?_⟩, by omega, ?_⟩
      · rw [e1, e2]; exact m1
      · simp
  · obtain rfl : i = 128 := by have := hS.1; omega
    obtain ⟨e1, e2⟩ := hS.last
    refine ⟨indW_of (by decide +kernel), ?_⟩
    rw [← hz] at e2
    subst e2
    obtain ⟨Y, hY⟩ : ∃ Y, Y = x / b := ⟨_, rfl⟩
    rw [← hY] at e1 hyh hyl
    have e3 : qh = yh := by omega
    have e4 : ql = yl := by omega
    subst e3 e4
    simp
end Go.Gv

set_option linter.unusedSimpArgs false
namespace Go.Gv

theorem rootF_lt : ∀ (i x r : Nat), r + 2 ^ i ≤ 9223372036854775808 → rootF x i r < 9223372036854775808
  | 0, x, r, h => by simp only [rootF]; simp at h; omega
  | i + 1, x, r, h => by
    rw [rootF_step]
    have := Nat.two_pow_pos i
    rw [Nat.pow_succ] at h
    split <;> exact rootF_lt i x _ (by omega)
theorem rootN_lt (x : Nat) : rootN x < 9223372036854775808 := rootF_lt 63 x 0 (by decide)

variable {C : CC} (hC : Closed prog C)
include hC
theorem rDown_c (x b : Nat) (hx : x < 340282366920938463463374607431768211456) (hb0 : 0 < b) (hb : b < 9223372036854775808) : C 66 [.agg [.int .u64 ((x / 18446744073709551616 : Nat) : Int), .int .u64 ((x % 18446744073709551616 : Nat) : Int), .bool false], .agg [.int .u64 0, .int .u64 b, .bool false]]
    (.agg [.int .u64 ((x / b / 18446744073709551616 : Nat) : Int), .int .u64 ((x / b % 18446744073709551616 : Nat) : Int), .bool false]) [] := by
  have hd := rDiv_c hC x b hx hb0 hb
  obtain ⟨xh, hxh⟩ : ∃ xh, xh = x / 18446744073709551616 := ⟨_, rfl⟩
  obtain ⟨xl, hxl⟩ : ∃ xl, xl = x % 18446744073709551616 := ⟨_, rfl⟩
  obtain ⟨yh, hyh⟩ : ∃ yh, yh = x / b / 18446744073709551616 := ⟨_, rfl⟩
  obtain ⟨yl, hyl⟩ : ∃ yl, yl = x / b % 18446744073709551616 := ⟨_, rfl⟩
  obtain ⟨z, hz⟩ : ∃ z, z = x % b := ⟨_, rfl⟩
  rw [← hxh, ← hxl, ← hyh, ← hyl, ← hz] at hd
  rw [← hxh, ← hxl, ← hyh, ← hyl]
  refine start hC (nf := N66_ref03_Down) rfl rfl ?_
  simp [N66_ref03_Down]
  refine callW_of hd (.inr rfl) ?_
  simp
  refine callW_of (rMade_c hC yh yl) (.inl rfl) ?_
  simp
theorem rRoot_c (x : Nat) : C 69 [.agg [.int .u64 ((x / 18446744073709551616 : Nat) : Int), .int .u64 ((x % 18446744073709551616 : Nat) : Int)]] (.int .u64 (rootN x)) [] := by
  obtain ⟨h, hh⟩ : ∃ h, h = x / 18446744073709551616 := ⟨_, rfl⟩
  obtain ⟨l, hl⟩ : ∃ l, l = x % 18446744073709551616 := ⟨_, rfl⟩
  rw [← hh, ← hl]
  obtain ⟨N, hN⟩ : ∃ N, N = rootN x := ⟨_, rfl⟩
  rw [← hN]
  refine start hC (nf := N69_ref03_Root) rfl rfl ?_
  simp [N69_ref03_Root]
  refine loop_of (Nat × Nat) (fun s => [(1, .ptr [.int .u64 (h : Int), .int .u64 (l : Int)]), (3, .int .u64 s.2), (4, .int .i64 ((63 - s.1 : Nat) : Int))])
    (fun s => s.1 ≤ 63 ∧ s.2 + 2 ^ s.1 ≤ 9223372036854775808 ∧ rootF x s.1 s.2 = N) (fun s => s.1) (63, 0) ⟨by omega, by decide, by rw [hN]; rfl⟩ (by simp) ?_
  rintro ⟨i, r⟩ ⟨h1, h2, h3⟩
  simp only at h1 h2 h3
  simp
  refine brB_of (fun c => ?_) (fun c => ?_) <;> simp at c <;> simp [c]
  · obtain ⟨j, rfl⟩ : ∃ j, i = j + 1 := ⟨i - 1, by omega⟩
    have e62 : IntKind.i64.wrap (62 - ((62 - j : Nat) : Int)) = (j : Int) := wrap_i64 (by omega) (by omega)
    have ej : IntKind.u64.wrap (j : Int) = (j : Int) := wrapN j (by omega)
    have hw : IntKind.wrap .i64 (((62 - j : Nat) : Int) + 1) = ((63 - j : Nat) : Int) := wrap_i64 (by omega) (by omega)
    obtain ⟨V, hV⟩ : ∃ V, V = 2 ^ j := ⟨_, rfl⟩
    have hV2 : 2 ^ (j + 1) = 2 * V := by rw [Nat.pow_succ, hV]; omega
    rw [hV2] at h2
    have hVp : 0 < V := by rw [hV]; exact Nat.two_pow_pos j
    have hmin : min j IntKind.u64.bits = j := Nat.min_eq_left (by show j ≤ 64; omega)
    have esh : IntKind.u64.wrap (2 ^ j) = (V : Int) := by
      have : (2 : Int) ^ j = ((2 ^ j : Nat) : Int) := by push_cast; rfl
      rw [this, ← hV]; exact wrapN V (by omega)
    obtain ⟨y, hy⟩ : ∃ y, y = r + V := ⟨_, rfl⟩
    have ey : IntKind.u64.wrap ((r : Int) + (V : Int)) = (y : Int) := uw (.inl (by omega)) (by omega)
    have hm := rMul_c hC y y (by omega) (by omega)
    rw [wideD] at hm
    obtain ⟨Z, hZ⟩ : ∃ Z, Z = y * y := ⟨_, rfl⟩
    obtain ⟨zh, hzh⟩ : ∃ zh, zh = Z / 18446744073709551616 := ⟨_, rfl⟩
    obtain ⟨zl, hzl⟩ : ∃ zl, zl = Z % 18446744073709551616 := ⟨_, rfl⟩
    rw [← hZ, ← hzh, ← hzl] at hm
    have hls := rLess_c hC h l zh zl
    have hcmp : (h < zh ∨ (h = zh ∧ l < zl)) ↔ x < Z := by
      rw [hh, hl, hzh, hzl]; omega
    have hdc : decide (h < zh ∨ (h = zh ∧ l < zl)) = decide (x < Z) := decide_eq_decide.2 hcmp
    rw [hdc] at hls
    rw [rootF_step, ← hV, ← hy, ← hZ] at h3
    simp [e62, ej, hmin, esh, ey]
    refine callW_of hm (.inl rfl) ?_
    simp
    refine callW_of hls (.inl rfl) ?_
    simp
    refine ⟨indW_of (by decide +kernel), ?_⟩
    by_cases d : x < Z
    · simp [d, hw]
      rw [if_neg (show ¬ Z ≤ x by omega)] at h3
      exact ⟨j, r, ⟨by omega, by rw [← hV]; omega, h3⟩, by omega, rfl, rfl⟩
    · simp [d, hw]
      rw [if_pos (show Z ≤ x by omega)] at h3
      exact ⟨j, y, ⟨by omega, by rw [← hV]; omega, h3⟩, by omega, rfl, rfl⟩
  · obtain rfl : i = 0 := by omega
    have h4 : r = N := h3
    rw [h4]
theorem rRoot3_c (a b n : Nat) (ha : a < 9223372036854775808) (hb : b < 9223372036854775808) (hn : 0 < n) (hn2 : n < 9223372036854775808) : C 57 [.int .i64 a, .int .i64 b, .int .i64 n] (.int .i64 (rootN (a * b / n))) [] := by
  have hab : a * b < 340282366920938463463374607431768211456 := by
    have : a * b ≤ 9223372036854775808 * 9223372036854775808 := Nat.mul_le_mul (by omega) (by omega)
    omega
  have h1 := rTimes_c hC a b ha hb
  have h2 := rDown_c hC (a * b) n hab hn hn2
  have h3 := rRoot_c hC (a * b / n)
  have h4 := rootN_lt (a * b / n)
  obtain ⟨P, hP⟩ : ∃ P, P = a * b := ⟨_, rfl⟩
  rw [← hP] at h1 h2 h3 h4 ⊢
  obtain ⟨p, hp⟩ : ∃ p, p = P / 18446744073709551616 := ⟨_, rfl⟩
  obtain ⟨q, hq⟩ : ∃ q, q = P % 18446744073709551616 := ⟨_, rfl⟩
  rw [← hp, ← hq] at h1 h2
  obtain ⟨Q, hQ⟩ : ∃ Q, Q = P / n := ⟨_, rfl⟩
  rw [← hQ] at h2 h3 h4 ⊢
  obtain ⟨u, hu⟩ : ∃ u, u = Q / 18446744073709551616 := ⟨_, rfl⟩
  obtain ⟨v, hv⟩ : ∃ v, v = Q % 18446744073709551616 := ⟨_, rfl⟩
  rw [← hu, ← hv] at h2 h3
  obtain ⟨N, hN⟩ : ∃ N, N = rootN Q := ⟨_, rfl⟩
  rw [← hN] at h3 h4 ⊢
  refine start hC (nf := N57_ref28_Root) rfl rfl ?_
  have hw : IntKind.i64.wrap (N : Int) = (N : Int) := wrap_i64 rfl (by omega)
  simp [N57_ref28_Root]
  refine callW_of h1 (.inl rfl) ?_
  simp
  refine callW_of (rOfInt_c hC n hn2) (.inl rfl) ?_
  simp
  refine callW_of h2 (.inl rfl) ?_
  simp
  refine callW_of h3 (.inl rfl) ?_
  simp [hw]
end Go.Gv

set_option linter.unusedSimpArgs false
namespace Go.Gv
variable {C : CC} (hC : Closed prog C)
include hC
theorem rDigit_c (c : Int) : C 78 [.int .u8 c] (.bool (isDigit c)) [] := by
  refine start hC (nf := N78_ref01_Digit) rfl rfl ?_
  simp [N78_ref01_Digit, isDigit]
  refine brB_of (fun h => ?_) (fun h => ?_) <;> simp at h <;> simp [h] <;> omega
theorem rLetter_c (c : Int) : C 62 [.int .u8 c] (.bool (isLetter c)) [] := by
  refine start hC (nf := N62_ref01_Letter) rfl rfl ?_
  simp [N62_ref01_Letter, isLetter]
  repeat' (refine brB_of (fun h => ?_) (fun h => ?_) <;> simp at h <;> simp [h] <;> try omega)
theorem rword_c (s : List UInt8) (hs : s.length < 2 ^ 62) : C 63 [.str s, .int .i64 0] (.int .i64 (wordLen s)) [] := by
  refine start hC (nf := N63_ref01_word) rfl rfl ?_
  simp [N63_ref01_word]
  refine loop_of Nat (fun i => [(0, .str s), (1, .int .i64 i)]) (fun i => i ≤ wordLen s) (fun i => wordLen s - i) 0 (by simp) (by simp) ?_
  intro i hi
  have hle : wordLen s ≤ s.length := wordLen_le s
  by_cases hl : i < s.length
  · simp [hl]
    refine callW_of (rLetter_c hC _) (.inl rfl) ?_
    have hstep : isWordB s[i] = true → i + 1 ≤ wordLen s := wordLen_more hl hi
    have hstop : isWordB s[i] = false → i = wordLen s := wordLen_stop hl hi
    simp only [isWordB] at hstep hstop
    have hw : IntKind.wrap .i64 ((i : Int) + 1) = ((i + 1 : Nat) : Int) := wrap_i64 (by omega) (by omega)
    cases h1 : isLetter s[i].toNat with
    | true => 
      simp [h1, hw] at hstep ⊢
      exact ⟨i + 1, by omega, by omega, rfl⟩
    | false =>
      simp [h1, hl]
      refine callW_of (rDigit_c hC _) (.inl rfl) ?_
      cases h2 : isDigit s[i].toNat with
      | true =>
        simp [h1, h2, hw] at hstep ⊢
        exact ⟨i + 1, by omega, by omega, rfl⟩
      | false =>
        simp [hl]
        refine brB_of (fun h3 => ?_) (fun h3 => ?_) <;> simp at h3
        · simp [hw, hl]
          have := hstep (by simp [show s[i].toNat = 95 by omega])
          exact ⟨i + 1, this, by omega, rfl⟩
        · have h4 : ¬ s[i].toNat = 95 := by omega
          simp [h1, h2, h4] at hstop ⊢
          omega
  · simp [hl]
    have : i = wordLen s := by omega
    omega
theorem rIsName_c (s : List UInt8) : C 54 [.str s] (.bool (isName s)) [] := by
  refine start hC (nf := N54_ref01_IsName) rfl rfl ?_
  simp [N54_ref01_IsName]
  refine brB_of (fun h => ?_) (fun h => ?_) <;> simp at h
  · subst h
    simp [isName]
  · have hp : 0 < s.length := List.length_pos_iff.2 h
    simp [h, hp]
    refine brB_of (fun h2 => ?_) (fun h2 => ?_) <;> simp at h2
    · simp [h2, isName]
      omega
    · simp [h2, hp]
      refine callW_of (rLetter_c hC _) (.inl rfl) ?_
      simp
      cases h3 : isLetter s[0].toNat
      · simp [h3, isName, h, hp]
      · simp [h3, h2]
        refine callW_of (rword_c hC s (by omega)) (.inl rfl) ?_
        simp [isName, h, h3, show s.length ≤ 20 by omega, hp, Int.ofNat_inj]
        rw [Bool.eq_iff_iff]; simp
theorem rNumber_c (n : Int) : C 79 [.int .i64 n] (.bool (fits n)) [] := by
  refine start hC (nf := N79_ref06_Number) rfl rfl ?_
  simp [N79_ref06_Number, fits]
  refine brB_of (fun h => ?_) (fun h => ?_) <;> simp at h <;> simp [h] <;> omega
theorem rTable_c (b : Bool) (t : List (Int × Int)) : C 64 [slx b (t.map knD)] (.bool (tableValid t)) [] := by
  refine start hC (nf := N64_ref06_Valid) rfl rfl ?_
  simp [N64_ref06_Valid]
  refine brB_of (fun h => ?_) (fun h => ?_) <;> simp at h
  · simp [tableValid, show t.length = 0 by omega]
  simp [h]
  refine brB_of (fun h2 => ?_) (fun h2 => ?_) <;> simp at h2
  · simp [tableValid, h, h2]
    omega
  simp
  refine loop_of Nat (fun i => [(0, slx b (t.map knD)), (3, .int .i64 i)]) (fun i => i ≤ t.length ∧ ∀ j < i, okAt t j = true) (fun i => t.length - i) 0 (by simp) (by simp) ?_
  rintro i ⟨hi, hj⟩
  simp
  refine brB_of (fun h3 => ?_) (fun h3 => ?_) <;> simp at h3
  · have bad : okAt t i = false → tableValid t = false := fun hb => by
      simp only [tableValid, Bool.and_eq_false_iff, List.all_eq_false]
      exact .inr ⟨i, by simpa using h3, by simp [hb]⟩
    have e1 : t[i]! = t[i] := getElem!_pos t i h3
    have e2 : t[i - 1]! = t[i - 1] := getElem!_pos t (i - 1) (by omega)
    simp only [okAt, e1, e2] at bad
    have hw1 : IntKind.wrap .i64 ((i : Int) + 1) = ((i + 1 : Nat) : Int) := wrap_i64 (by omega) (by omega)
    have next : okAt t i = true → ∃ s' : Nat, (s' ≤ t.length ∧ ∀ j < s', okAt t j = true) ∧ t.length - s' < t.length - i ∧ s' = i + 1 := fun ho =>
      ⟨i + 1, ⟨by omega, fun j hjj => by
        rcases Nat.lt_succ_iff_lt_or_eq.1 hjj with h | rfl
        · exact hj j h
        · exact ho⟩, by omega, rfl⟩
    simp only [okAt, e1, e2] at next
    simp [h3, knD]
    refine callW_of (rNumber_c hC _) (.inl rfl) ?_
    cases f1 : fits t[i].1
    · simp
      exact bad (by simp [f1])
    simp [h3, knD]
    refine callW_of (rNumber_c hC _) (.inl rfl) ?_
    cases f2 : fits t[i].2
    · simp
      exact bad (by simp [f2])
    simp [h3, knD]
    refine brB_of (fun h4 => ?_) (fun h4 => ?_) <;> simp at h4
    · have hw : IntKind.wrap .i64 ((i : Int) - 1) = ((i - 1 : Nat) : Int) := wrap_i64 (by omega) (by omega)
      have h5 : i - 1 < t.length := by omega
      simp [h4, hw, h5, h3, knD]
      refine brB_of (fun h6 => ?_) (fun h6 => ?_) <;> simp [h6, hw, h5, h3, knD] <;> simp at h6
      · refine ⟨indW_of (by decide +kernel), bad ?_⟩
        simp [f1, f2]
        omega
      · refine ⟨indW_of (by decide +kernel), ?_⟩
        refine brB_of (fun h7 => ?_) (fun h7 => ?_) <;> simp [h7, hw1] <;> simp at h7
        · refine bad ?_
          simp [f1, f2]
          omega
        · obtain ⟨s', g1, g2, rfl⟩ := next (by simp [f1, f2, h6, h7])
          exact ⟨_, g1, g2, rfl⟩
    · have hi0 : i = 0 := by omega
      subst hi0
      simp at hw1
      simp [hw1]
      refine ⟨indW_of (by decide +kernel), ?_⟩
      obtain ⟨s', g1, g2, rfl⟩ := next (by simp [f1, f2])
      exact ⟨_, g1, g2, rfl⟩
  · have : i = t.length := by omega
    subst this
    simp [tableValid, h, h2]
    exact ⟨⟨by omega, by omega⟩, hj⟩
end Go.Gv

set_option linter.unusedSimpArgs false
namespace Go.Gv
variable {C : CC} (hC : Closed prog C)
include hC
theorem rfits_c (b : Bool) (t : List (Int × Int)) (hgt most : Int) : C 55 [slx b (t.map knD), .int .i64 hgt, .int .i64 most] (.bool (curveOk t hgt most)) [] := by
  refine start hC (nf := N55_ref28_fits) rfl rfl ?_
  simp [N55_ref28_fits]
  refine callW_of (rTable_c hC b t) (.inl rfl) ?_
  cases hv : tableValid t
  · simp [curveOk, hv]
  obtain ⟨l1, l2⟩ := valid_len hv
  obtain ⟨n, hn⟩ : ∃ n, n + 1 = t.length := ⟨t.length - 1, by omega⟩
  have e1 : IntKind.wrap .i64 ((t.length : Int) - 1) = (n : Int) := wrap_i64 (by omega) (by omega)
  have hnl : n < t.length := by omega
  have h0 : 0 < t.length := by omega
  have e0 : t[0]! = t[0] := getElem!_pos t 0 h0
  simp [e1, hnl, h0, knD]
  rw [curveOk, lastK_get hn, e0, hv]
  refine brB_of (fun c => ?_) (fun c => ?_) <;> simp [h0, knD] at c <;> simp [c, h0, hnl, knD]
  refine brB_of (fun c2 => ?_) (fun c2 => ?_) <;> simp [h0, knD] at c2 <;> simp [c2, h0, hnl, knD]
  refine brB_of (fun c3 => ?_) (fun c3 => ?_) <;> simp [h0, knD] at c3 <;> simp [c3, h0, hnl, knD]
  exact fun _ => ⟨c, c2⟩
theorem rRight_c (s : Sec) : C 48 [.agg (secC s)] (.bool (secValid s)) [] := by
  refine start hC (nf := N48_ref28_Right) rfl rfl ?_
  simp [N48_ref28_Right, secC]
  refine callW_of (rIsName_c hC s.name) (.inl rfl) ?_
  cases h1 : isName s.name
  · simp [secValid, h1]
  simp
  refine brB_of (fun c1 => ?_) (fun c1 => ?_) <;> simp [c1] <;> simp at c1
  · simp [secValid]; omega
  refine brB_of (fun c2 => ?_) (fun c2 => ?_) <;> simp [c2] <;> simp at c2
  · simp [secValid]; omega
  refine brB_of (fun c3 => ?_) (fun c3 => ?_) <;> simp [c3] <;> simp at c3
  · simp [secValid]; omega
  refine brB_of (fun c4 => ?_) (fun c4 => ?_) <;> simp [c4] <;> simp at c4
  · simp [secValid]; omega
  refine callW_of (rfits_c hC _ _ _ _) (.inl rfl) ?_
  cases h5 : curveOk s.area s.height 1073741824
  · simp [secValid, h5]
  simp
  refine callW_of (rfits_c hC _ _ _ _) (.inl rfl) ?_
  have d1 : 1 ≤ s.height := by omega
  simp [secValid, h1, d1, c2, c3, c4, h5]
end Go.Gv

set_option linter.unusedSimpArgs false
namespace Go.Gv

def nameIs (nm : List UInt8) (s : Sec) : Bool := s.name == nm
/-- A catalogue is valid if each section is, and is the first one with its name. -/
theorem catValid_iff (l : List Sec) : catValid l = true ↔ l.length ≤ 40 ∧ (∀ (i : Nat) (h : i < l.length), secValid l[i] = true ∧ idxD (nameIs l[i].name) l = i) := by
  simp only [catValid, Bool.and_eq_true, decide_eq_true_eq, List.all_eq_true]
  constructor
  · rintro ⟨⟨h1, h2⟩, h3⟩
    refine ⟨h1, fun i h => ⟨h2 _ (List.getElem_mem h), ?_⟩⟩
    refine idxD_step (fun k hk hki => ?_) h (by simp [nameIs])
    rw [nameIs, beq_eq_false_iff_ne]
    intro e
    exact List.pairwise_iff_getElem.1 h3 k i (by simpa using hk) (by simpa using h) hki (by simpa using e)
  · rintro ⟨h1, h2⟩
    refine ⟨⟨h1, fun x hx => ?_⟩, ?_⟩
    · obtain ⟨i, h, rfl⟩ := List.getElem_of_mem hx
      exact (h2 i h).1
    · refine List.pairwise_iff_getElem.2 fun a b ha hb hab e => ?_
      simp only [List.length_map] at ha hb
      simp only [List.getElem_map] at e
      have h3 := (h2 b hb).2
      have h4 : ∃ k, k ≤ a ∧ idxD (nameIs l[b].name) l = (k : Int) := by
        unfold idxD
        cases hf : l.findIdx? (nameIs l[b].name) with
        | none =>
          rw [List.findIdx?_eq_none_iff] at hf
          have := hf l[a] (List.getElem_mem _)
          simp [nameIs, e] at this
        | some k =>
          refine ⟨k, ?_, rfl⟩
          rw [List.findIdx?_eq_some_iff_getElem] at hf
          obtain ⟨q1, q2, q3⟩ := hf
          rcases Nat.lt_or_ge a k with hak | hak
          · exact absurd (by simp [nameIs, e]) (q3 a hak)
          · exact hak
      obtain ⟨k, h5, h6⟩ := h4
      omega

variable {C : CC} (hC : Closed prog C)
include hC
theorem rFind_c (b : Bool) (l : List Sec) (nm : List UInt8) (hl : l.length < 2 ^ 62) : C 49 [slx b (l.map secC), .str nm] (.int .i64 (idxD (nameIs nm) l)) [] := by
  refine start hC (nf := N49_ref28_Find) rfl rfl ?_
  simp [N49_ref28_Find]
  refine loop_of Nat (fun i => [(0, slx b (l.map secC)), (1, .str nm), (5, .int .i64 i)]) (fun i => i ≤ l.length ∧ ∀ (k : Nat) (h : k < l.length), k < i → nameIs nm l[k] = false) (fun i => l.length - i) 0 (by simp) (by simp) ?_
  rintro i ⟨hi, hj⟩
  simp
  refine brB_of (fun h => ?_) (fun h => ?_) <;> simp at h <;> simp [h]
  · have hw : IntKind.wrap .i64 ((i : Int) + 1) = ((i + 1 : Nat) : Int) := wrap_i64 (by omega) (by omega)
    simp [h, secC]
    refine brB_of (fun h2 => ?_) (fun h2 => ?_) <;> simp at h2 <;> simp [h2, hw]
    · rw [idxD_step hj h (by simp [nameIs, h2])]
    · refine ⟨i + 1, ⟨by omega, fun k hk hki => ?_⟩, by omega, by simp⟩
      rcases Nat.lt_succ_iff_lt_or_eq.1 hki with h5 | rfl
      · exact hj k hk h5
      · simp [nameIs, h2]
  · rw [idxD_none (fun k hk => hj k hk (by omega))]
theorem rcat_c (b : Bool) (l : List Sec) : C 33 [slx b (l.map secC)] (.bool (catValid l)) [] := by
  refine start hC (nf := N33_ref28_Valid) rfl rfl ?_
  simp [N33_ref28_Valid]
  refine brB_of (fun h => ?_) (fun h => ?_) <;> simp at h
  · simp [catValid]; omega
  simp
  have hcv := catValid_iff l
  refine loop_of Nat (fun i => [(0, slx b (l.map secC)), (3, .int .i64 i)]) (fun i => i ≤ l.length ∧ ∀ (k : Nat) (h : k < l.length), k < i → secValid l[k] = true ∧ idxD (nameIs l[k].name) l = k) (fun i => l.length - i) 0 (by simp) (by simp) ?_
  rintro i ⟨hi, hj⟩
  simp
  refine brB_of (fun h3 => ?_) (fun h3 => ?_) <;> simp at h3 <;> simp [h3]
  · have hw : IntKind.wrap .i64 ((i : Int) + 1) = ((i + 1 : Nat) : Int) := wrap_i64 (by omega) (by omega)
    have bad : ¬ (secValid l[i] = true ∧ idxD (nameIs l[i].name) l = i) → catValid l = false := fun e => by
      rw [← Bool.not_eq_true]
      exact fun e2 => e ((hcv.1 e2).2 i h3)
    have hr := rRight_c hC l[i]
    have hf := rFind_c hC b l l[i].name (by omega)
    simp [h3, secC]
    simp [secC] at hr
    refine callW_of hr (.inl rfl) ?_
    cases hs : secValid l[i]
    · simp
      exact bad (by simp [hs])
    simp [h3, secC]
    refine callW_of hf (.inl rfl) ?_
    simp
    refine brB_of (fun h4 => ?_) (fun h4 => ?_) <;> simp at h4 <;> simp [h4]
    · exact bad (fun e => h4 e.2)
    · simp [hw]
      refine ⟨i + 1, ⟨by omega, fun k hk hki => ?_⟩, by omega, by simp⟩
      rcases Nat.lt_succ_iff_lt_or_eq.1 hki with h5 | rfl
      · exact hj k hk h5
      · exact ⟨hs, h4⟩
  · rw [hcv.2 ⟨by omega, fun k hk => hj k hk (by omega)⟩]
theorem ranges_c (b : Bool) (l : List Int) (lo hi : Int) (hl : l.length < 2 ^ 62) : C 34 [slx b (l.map fun n => [.int .i64 n]), .int .i64 lo, .int .i64 hi] (.bool (l.all fun n => inR n lo hi)) [] := by
  refine start hC (nf := N34_ref47_ranges) rfl rfl ?_
  simp [N34_ref47_ranges]
  refine loop_of Nat (fun i => [(0, slx b (l.map fun n => [.int .i64 n])), (1, .int .i64 lo), (2, .int .i64 hi), (7, .int .i64 i)]) (fun i => i ≤ l.length ∧ ∀ (k : Nat) (h : k < l.length), k < i → inR l[k] lo hi = true) (fun i => l.length - i) 0 (by simp) (by simp) ?_
  rintro i ⟨hi', hj⟩
  simp
  have bad : ∀ (h : i < l.length), inR l[i] lo hi = false → (l.all fun n => inR n lo hi) = false := fun h e => by
    rw [List.all_eq_false]
    exact ⟨l[i], List.getElem_mem h, by simp [e]⟩
  refine brB_of (fun h => ?_) (fun h => ?_) <;> simp at h <;> simp [h]
  · have hw : IntKind.wrap .i64 ((i : Int) + 1) = ((i + 1 : Nat) : Int) := wrap_i64 (by omega) (by omega)
    refine brB_of (fun h2 => ?_) (fun h2 => ?_) <;> simp [h] at h2 <;> simp [h, h2]
    · have := bad h (by simp [inR]; omega)
      rw [List.all_eq_false] at this
      simpa using this
    refine brB_of (fun h3 => ?_) (fun h3 => ?_) <;> simp [h] at h3 <;> simp [h, h3]
    · have := bad h (by simp [inR]; omega)
      rw [List.all_eq_false] at this
      simpa using this
    · simp [hw]
      refine ⟨i + 1, ⟨by omega, fun k hk hki => ?_⟩, by omega, by simp⟩
      rcases Nat.lt_succ_iff_lt_or_eq.1 hki with h5 | rfl
      · exact hj k hk h5
      · simp [inR]; omega
  · intro x hx
    obtain ⟨k, hk, rfl⟩ := List.getElem_of_mem hx
    exact hj k hk (by omega)
end Go.Gv

set_option linter.unusedSimpArgs false
namespace Go.Gv

theorem table_asc {t : List (Int × Int)} (h : tableValid t = true) : ∀ k i, i + k < t.length → t[i]!.1 ≤ t[i + k]!.1
  | 0, i, _ => Int.le_refl _
  | k + 1, i, hk => by
    have h1 := table_asc h k i (by omega)
    simp only [tableValid, Bool.and_eq_true, List.all_eq_true, List.mem_range] at h
    have h2 := h.2 (i + (k + 1)) hk
    simp only [okAt, Bool.and_eq_true, Bool.or_eq_true, beq_iff_eq, decide_eq_true_eq] at h2
    have e : i + (k + 1) - 1 = i + k := by omega
    rw [e] at h2
    rcases h2.2 with h3 | h3 <;> omega
theorem table_last {t : List (Int × Int)} (h : tableValid t = true) {i : Nat} (hi : i < t.length) : t[i].1 ≤ (lastK t).1 := by
  have := table_asc h (t.length - 1 - i) i (by omega)
  rw [show i + (t.length - 1 - i) = t.length - 1 by omega, getElem!_pos t i hi] at this
  exact this

theorem poss_eq {j : Job} (hv : jobValid j = true) {i s : Nat} (hi : i < j.below.l.length) (hs : s < j.secs.length) :
    possAt j i s = (decide (j.secs[s]!.height ≤ j.room.l[i]!) && decide (j.flows.l[i]! ≤ (capN j.secs[s]! j.falls.l[i]! j.lengths.l[i]! : Int))) := by
  have hp : inR j.lengths.l[i]! 1 16777216 = true ∧ inR j.flows.l[i]! 0 1099511627776 = true ∧ inR j.falls.l[i]! 0 4194304 = true := by
    simp only [jobValid, Bool.and_eq_true, List.all_eq_true, List.mem_range] at hv
    have := hv.2 i hi
    simp only [pipeOk, Bool.and_eq_true] at this
    exact ⟨this.1.1.1.2, this.1.1.2, this.1.2⟩
  simp only [inR, Bool.and_eq_true, decide_eq_true_eq] at hp
  have hsv : secValid j.secs[s]! = true := by
    simp only [jobValid, catValid, Bool.and_eq_true, List.all_eq_true] at hv
    rw [getElem!_pos j.secs s hs]
    exact hv.1.2.1.2 _ (List.getElem_mem hs)
  have hsl : slopeOk j.falls.l[i]! j.lengths.l[i]! = true := by
    simp only [slopeOk, Bool.and_eq_true, decide_eq_true_eq]; omega
  rw [possAt, fullF, if_pos hsv, if_pos hsl]
  by_cases hc : 1099511627776 < capN j.secs[s]! j.falls.l[i]! j.lengths.l[i]!
  · rw [if_pos hc]
    have : decide (j.flows.l[i]! ≤ (capN j.secs[s]! j.falls.l[i]! j.lengths.l[i]! : Int)) = true := by rw [decide_eq_true_eq]; omega
    rw [this]
    simp
  · rw [if_neg hc]
    simp
    rw [Bool.and_comm]

variable {C : CC} (hC : Closed prog C)
include hC
theorem rbefore_c (b : Bool) (t : List (Int × Int)) (x : Int) (hl : t.length < 2 ^ 62) (h : ∀ (i : Nat) (h : i < t.length), t[i].1 ≤ x) : C 80 [slx b (t.map knD), .int .i64 x] (.int .i64 ((t.length : Int) - 1)) [] := by
  refine start hC (nf := N80_ref06_before) rfl rfl ?_
  simp [N80_ref06_before]
  refine loop_of Nat (fun i => [(0, slx b (t.map knD)), (1, .int .i64 x), (5, .int .i64 ((i : Int) - 1)), (6, .int .i64 i)]) (fun i => i ≤ t.length) (fun i => t.length - i) 0 (by simp) (by simp) ?_
  rintro i hi
  simp
  refine brB_of (fun h1 => ?_) (fun h1 => ?_) <;> simp at h1 <;> simp [h1]
  · have hw : IntKind.wrap .i64 ((i : Int) + 1) = ((i + 1 : Nat) : Int) := wrap_i64 (by omega) (by omega)
    have hx := h i h1
    simp [h1, knD, hx, hw]
    exact ⟨i + 1, by omega, by omega, by omega, by omega⟩
  · omega
theorem rValue_c (b : Bool) (t : List (Int × Int)) (ht : tableValid t = true) : C 65 [slx b (t.map knD), .int .i64 (lastK t).1] (.tup [.int .i64 (lastK t).2, .int .i64 0, .int .i64 1]) [] := by
  obtain ⟨l1, l2⟩ := valid_len ht
  obtain ⟨n, hn⟩ : ∃ n, n + 1 = t.length := ⟨t.length - 1, by omega⟩
  have hb := rbefore_c hC b t (lastK t).1 (by omega) (fun i h => table_last ht h)
  have hln := lastK_get hn
  have e : (t.length : Int) - 1 = (n : Int) := by omega
  have hw : IntKind.i64.wrap ((t.length : Int) - 1) = (n : Int) := wrap_i64 (by omega) (by omega)
  rw [e] at hb
  have hnl : n < t.length := by omega
  have h0 : ¬ (n : Int) < 0 := by omega
  refine start hC (nf := N65_ref06_Value) rfl rfl ?_
  simp [N65_ref06_Value]
  refine callW_of hb (.inl rfl) ?_
  simp [h0, hw, hnl, knD, hln]
theorem rFloor_c (b : Bool) (t : List (Int × Int)) (ht : tableValid t = true) : C 56 [slx b (t.map knD), .int .i64 (lastK t).1] (.int .i64 (lastK t).2) [] := by
  refine start hC (nf := N56_ref06_Floor) rfl rfl ?_
  simp [N56_ref06_Floor]
  refine callW_of (rValue_c hC b t ht) (.inl rfl) ?_
  simp
theorem rCarried_c (s : Sec) (fall len : Int) (hs : secValid s = true) (hsl : slopeOk fall len = true) : C 50 [.agg (secC s), .int .i64 s.height, .int .i64 fall, .int .i64 len] (.int .i64 (capN s fall len)) [] := by
  obtain ⟨h1, h2, h3, h4⟩ := conv_last hs
  have hf := rFloor_c hC s.convN s.conv h1
  rw [h2] at hf
  obtain ⟨y, hy⟩ : ∃ y : Nat, (lastK s.conv).2 = (y : Int) := ⟨(lastK s.conv).2.toNat, by omega⟩
  simp only [slopeOk, Bool.and_eq_true, decide_eq_true_eq] at hsl
  obtain ⟨f, rfl⟩ : ∃ f : Nat, fall = (f : Int) := ⟨fall.toNat, by omega⟩
  obtain ⟨n, rfl⟩ : ∃ n : Nat, len = (n : Int) := ⟨len.toNat, by omega⟩
  rw [capN, hy, Int.toNat_natCast, Int.toNat_natCast, Int.toNat_natCast, Nat.mul_assoc]
  rw [hy] at hf h3 h4
  have hyf : y * f ≤ 1099511627776 * 4194304 := Nat.mul_le_mul (by omega) (by omega)
  have hr := rRoot3_c hC y (y * f) n (by omega) (by omega) (by omega) (by omega)
  have hw : IntKind.i64.wrap ((y : Int) * (f : Int)) = ((y * f : Nat) : Int) := wrap_i64 (by push_cast; rfl) (by omega)
  obtain ⟨N, hN⟩ : ∃ N, N = rootN (y * (y * f) / n) := ⟨_, rfl⟩
  rw [← hN] at hr ⊢
  obtain ⟨g, hg⟩ : ∃ g, g = y * f := ⟨_, rfl⟩
  rw [← hg] at hr hw
  refine start hC (nf := N50_ref28_Carried) rfl rfl ?_
  simp [N50_ref28_Carried, secC]
  refine callW_of hf (.inl rfl) ?_
  simp [hw]
  refine callW_of hr (.inl rfl) ?_
  simp
theorem rPossible_c (j : Job) (hv : jobValid j = true) (i s : Nat) (hi : i < j.below.l.length) (hs : s < j.secs.length) : C 36 [.agg (jobC j), .int .i64 i, .int .i64 s] (.bool (possAt j i s)) [] := by
  have hlen : j.lengths.l.length = j.below.l.length ∧ j.flows.l.length = j.below.l.length ∧ j.falls.l.length = j.below.l.length ∧ j.room.l.length = j.below.l.length := by
    simp only [jobValid, Bool.and_eq_true, decide_eq_true_eq] at hv; omega
  have g1 : i < j.lengths.l.length := by omega
  have g2 : i < j.flows.l.length := by omega
  have g3 : i < j.falls.l.length := by omega
  have g4 : i < j.room.l.length := by omega
  have hsv : secValid j.secs[s] = true := by
    have hv' := hv
    simp only [jobValid, catValid, Bool.and_eq_true, List.all_eq_true] at hv'
    exact hv'.1.2.1.2 _ (List.getElem_mem hs)
  have hsl : slopeOk j.falls.l[i] j.lengths.l[i] = true := by
    have hv' := hv
    simp only [jobValid, Bool.and_eq_true, List.all_eq_true, List.mem_range] at hv'
    have := hv'.2 i hi
    simp only [pipeOk, inR, Bool.and_eq_true, decide_eq_true_eq, getElem!_pos j.falls.l i g3, getElem!_pos j.lengths.l i g1] at this
    simp only [slopeOk, Bool.and_eq_true, decide_eq_true_eq]
    omega
  have hc := rCarried_c hC j.secs[s] j.falls.l[i] j.lengths.l[i] hsv hsl
  rw [poss_eq hv hi hs, getElem!_pos j.secs s hs, getElem!_pos j.room.l i g4, getElem!_pos j.flows.l i g2, getElem!_pos j.falls.l i g3, getElem!_pos j.lengths.l i g1]
  obtain ⟨q, hq⟩ : ∃ q, q = capN j.secs[s] j.falls.l[i] j.lengths.l[i] := ⟨_, rfl⟩
  rw [← hq] at hc ⊢
  refine start hC (nf := N36_ref47_Possible) rfl rfl ?_
  simp [N36_ref47_Possible, jobC_eq, hs, g4, secC_eq]
  simp [secC_eq] at hc
  by_cases h1 : j.secs[s].height ≤ j.room.l[i]
  · simp [h1, g1, g2, g3, secC_eq]
    refine callW_of hc (.inl rfl) ?_
    simp [g1, g2, g3]
    exact ⟨indW_of (by decide +kernel), fun _ => h1⟩
  · simp [h1]
    exact indW_of (by decide +kernel)
end Go.Gv

set_option linter.unusedSimpArgs false
namespace Go.Gv
variable {C : CC} (hC : Closed prog C)
include hC
set_option maxRecDepth 4000 in
set_option maxHeartbeats 4000000 in
theorem rleast_c (j : Job) (hv : jobValid j = true) (b : Bool) (vals : List SlI) (pipe : Nat) (height : Int) (hp : pipe < j.below.l.length) (hpv : pipe < vals.length) (hl : vals[pipe]!.l.length = j.secs.length) (hcell : ∀ y ∈ vals[pipe]!.l, -1 ≤ y) :
    C 38 [.agg (jobC j), slx b (vals.map fun r => [slI r]), .int .i64 pipe, .int .i64 height] (.int .i64 (leastF (okF j pipe height) (rowsF vals pipe)).2) [] := by
  rw [rowsF]
  rw [getElem!_pos vals pipe hpv] at hl hcell ⊢
  have hm : j.secs.length ≤ 40 := by simp only [jobValid, catValid, Bool.and_eq_true, decide_eq_true_eq] at hv; omega
  obtain ⟨vs, hvs⟩ : ∃ vs, vs = vals[pipe].l := ⟨_, rfl⟩
  rw [← hvs] at hl hcell ⊢
  obtain ⟨r, hr⟩ : ∃ r, r = leastF (okF j pipe height) vs := ⟨_, rfl⟩
  rw [← hr]
  refine start hC (nf := N38_ref47_least) rfl rfl ?_
  simp [N38_ref47_least]
  refine loop_of (Nat × Int × Int) (fun s => [(1, slx b (vals.map fun r => [slI r])), (2, .int .i64 pipe), (3, .int .i64 height), (4, .ptr (jobC j)), (9, .int .i64 s.2.2), (10, .int .i64 s.1)])
    (fun s => s.1 ≤ vs.length ∧ s.2 = (List.range s.1).foldl (leastStep (okF j pipe height) vs) (-1, -1) ∧ ((s.2.2 = -1 ∧ s.2.1 = -1) ∨ ∃ k : Nat, k < vs.length ∧ s.2.2 = (k : Int) ∧ s.2.1 = vs[k]?.getD 0 ∧ 0 ≤ s.2.1)) (fun s => vs.length - s.1) (0, -1, -1) ⟨by simp, by simp, .inl ⟨rfl, rfl⟩⟩ (by simp [jobC_eq]) ?_
  rintro ⟨i, best, at_⟩ ⟨hi, hst, hat⟩
  simp only at hi hst hat
  simp [jobC_eq]
  refine brB_of (fun h => ?_) (fun h => ?_) <;> simp at h <;> simp [h]
  · have hw : IntKind.wrap .i64 ((i : Int) + 1) = ((i + 1 : Nat) : Int) := wrap_i64 (by omega) (by omega)
    have hiv : i < vs.length := by omega
    have hstep : (List.range (i + 1)).foldl (leastStep (okF j pipe height) vs) (-1, -1) = leastStep (okF j pipe height) vs (best, at_) i := by
      rw [List.range_succ, List.foldl_append, ← hst]; rfl
    have eo : okF j pipe height i = (possAt j pipe i && decide (j.secs[i].height ≤ height)) := by simp only [okF, getElem!_pos j.secs i h]
    have hge : -1 ≤ vs[i] := hcell _ (List.getElem_mem hiv)
    simp only [leastStep, getElem!_pos vs i hiv, eo] at hstep
    have hpc := rPossible_c hC j hv pipe i hp h
    simp only [jobC_eq, slI_slx] at hpc
    simp [hpv, ← hvs, hiv]
    by_cases c1 : 0 ≤ vs[i]
    · simp [c1, h, secC_eq, hw, hpv, ← hvs, hiv]
      by_cases c2 : j.secs[i].height ≤ height
      · simp [c2, hpv, ← hvs, hiv, c1, h, secC_eq]
        refine callW_of hpc (.inl rfl) ?_
        cases c3 : possAt j pipe i
        · simp [hw]
          exact ⟨indW_of (by decide +kernel), i + 1, best, at_, ⟨by omega, by rw [hstep]; simp [c3], hat⟩, by omega, by simp [jobC_eq], rfl, by simp⟩
        · simp [hpv, ← hvs, hiv]
          rcases hat with ⟨a1, a2⟩ | ⟨k, a1, a2, a3, a4⟩
          · simp [a1, hw]
            exact ⟨indW_of (by decide +kernel), i + 1, vs[i], (i : Int), ⟨by omega, by rw [hstep]; simp [c2, c3, a2, show ¬ vs[i] = -1 by omega], .inr ⟨i, hiv, rfl, by simp [hiv], c1⟩⟩, by omega, by simp [jobC_eq], rfl, by simp⟩
          · have a5 : ¬ (k : Int) < 0 := by omega
            have a6 : vs[k]?.getD 0 = vs[k] := by simp [a1]
            have a7 : best = vs[k] := by rw [a3, a6]
            simp [a5, a2, hpv, ← hvs, hiv, a1]
            by_cases c5 : vs[i] < vs[k]
            · simp [c5, hw]
              exact ⟨indW_of (by decide +kernel), i + 1, vs[i], (i : Int), ⟨by omega, by rw [hstep]; simp [c2, c3, a7, c5, show ¬ vs[i] = -1 by omega], .inr ⟨i, hiv, rfl, by simp [hiv], c1⟩⟩, by omega, by simp [jobC_eq], rfl, by simp⟩
            · simp [c5, hw]
              exact ⟨indW_of (by decide +kernel), i + 1, best, at_, ⟨by omega, by rw [hstep]; simp [a7, c5, show ¬ vs[k] = -1 by omega], .inr ⟨k, a1, a2, a3, a4⟩⟩, by omega, by simp [jobC_eq], a2.symm, by simp⟩
      · simp [c2, hw, hpv, ← hvs, hiv, c1, h, secC_eq]
        exact ⟨indW_of (by decide +kernel), i + 1, best, at_, ⟨by omega, by rw [hstep]; simp [c2], hat⟩, by omega, by simp [jobC_eq], rfl, by simp⟩
    · simp [c1, h, secC_eq, hw, hpv, ← hvs, hiv]
      exact ⟨indW_of (by decide +kernel), i + 1, best, at_, ⟨by omega, by rw [hstep]; simp [show vs[i] = -1 by omega], hat⟩, by omega, by simp [jobC_eq], rfl, by simp⟩
  · have : i = vs.length := by omega
    subst this
    rw [hr, leastF, ← hst]
end Go.Gv

set_option linter.unusedSimpArgs false
namespace Go.Gv

theorem S_mono {g : Nat → Int} (h : ∀ a, 0 ≤ g a) {m : Nat} : ∀ n, m ≤ n → S g m ≤ S g n
  | 0, hm => by obtain rfl : m = 0 := by omega
                exact Int.le_refl _
  | n + 1, hm => by
    rcases Nat.lt_or_ge n m with h1 | h1
    · obtain rfl : m = n + 1 := by omega
      exact Int.le_refl _
    · have h2 := S_mono h n h1
      have h3 := h n
      simp only [S]; omega
/-- The values above a pipe are bounded together. -/
def Bdd (j : Job) (val : Nat → List Int) (i : Nat) : Prop := ∃ g : Nat → Int, (∀ a, 0 ≤ g a) ∧ (∀ h a, a < i → lv j val h a ≤ g a) ∧ AS j g i ≤ 1152921504606846976
def SumUp (j : Job) (f : Nat → Int) (i k : Nat) : Int := S (fun a => if j.below.l[a]! = (i : Int) then f a else 0) k
def PosUp (j : Job) (f : Nat → Int) (i k : Nat) : Prop := ∀ a, a < k → j.below.l[a]! = (i : Int) → 0 ≤ f a
theorem SumUp_yes {j : Job} {f : Nat → Int} {i k : Nat} (h : j.below.l[k]! = (i : Int)) : SumUp j f i (k + 1) = SumUp j f i k + f k := by
  unfold SumUp; simp only [S]; rw [if_pos h]
theorem SumUp_no {j : Job} {f : Nat → Int} {i k : Nat} (h : ¬ j.below.l[k]! = (i : Int)) : SumUp j f i (k + 1) = SumUp j f i k := by
  unfold SumUp; simp only [S]; rw [if_neg h]; omega
theorem PosUp_yes {j : Job} {f : Nat → Int} {i k : Nat} (h : PosUp j f i k) (h2 : 0 ≤ f k) : PosUp j f i (k + 1) := fun a ha hb => by
  rcases Nat.lt_succ_iff_lt_or_eq.1 ha with h5 | rfl
  · exact h a h5 hb
  · exact h2
theorem PosUp_no {j : Job} {f : Nat → Int} {i k : Nat} (h : PosUp j f i k) (h2 : ¬ j.below.l[k]! = (i : Int)) : PosUp j f i (k + 1) := fun a ha hb => by
  rcases Nat.lt_succ_iff_lt_or_eq.1 ha with h5 | rfl
  · exact h a h5 hb
  · exact absurd hb h2
theorem SumUp_bd {j : Job} {f g : Nat → Int} {i k : Nat} (h : PosUp j f i k) (hg : ∀ a, 0 ≤ g a) (hfg : ∀ a, a < i → f a ≤ g a) (hk : k ≤ i) : 0 ≤ SumUp j f i k ∧ SumUp j f i k ≤ AS j g i := by
  constructor
  · refine S_nonneg _ (fun a ha => ?_)
    split
    · rename_i e; exact h a ha e
    · exact Int.le_refl _
  · refine Int.le_trans (S_le (g' := fun a => if j.below.l[a]! = (i : Int) then g a else 0) _ (fun a ha => ?_)) (S_mono (fun a => ?_) _ hk)
    · have := hfg a (by omega)
      split <;> omega
    · have := hg a
      split <;> omega
/-- Rows of values of a job. -/
structure RowsOk (j : Job) (vals : List SlI) : Prop where
  len : vals.length = j.below.l.length
  row : ∀ a, a < j.below.l.length → vals[a]!.l.length = j.secs.length
  cell : ∀ a, a < j.below.l.length → ∀ y ∈ vals[a]!.l, -1 ≤ y
theorem above_mem' {j : Job} {i a : Nat} (h : a ∈ aboveF j i) : j.below.l[a]! = (i : Int) := by
  simp only [aboveF, List.mem_filter, List.mem_range, decide_eq_true_eq] at h
  exact h.2
theorem lv_cases {j : Job} {vals : List SlI} (hr : RowsOk j vals) {a : Nat} (ha : a < j.below.l.length) (h : Int) :
    (lv j (rowsF vals) h a = -1 ∧ (leastF (okF j a h) (rowsF vals a)).2 = -1) ∨ ∃ t : Nat, t < vals[a]!.l.length ∧ (leastF (okF j a h) (rowsF vals a)).2 = (t : Int) ∧ lv j (rowsF vals) h a = vals[a]!.l[t]! ∧ 0 ≤ lv j (rowsF vals) h a := by
  unfold lv
  rcases least_spec (okF j a h) (rowsF vals a) with ⟨h1, _⟩ | ⟨t, h1, h2, h3, _⟩
  · rw [h1]; exact .inl ⟨rfl, rfl⟩
  · rw [h2]
    have := hr.cell a ha _ (get_mem h1)
    exact .inr ⟨t, h1, rfl, rfl, by simp only; rw [rowsF] at h3 ⊢; omega⟩
variable {C : CC} (hC : Closed prog C)
include hC
set_option maxHeartbeats 4000000 in
theorem rneeded_c (j : Job) (hv : jobValid j = true) (b : Bool) (vals : List SlI) (i s : Nat) (hi : i < j.below.l.length) (hs : s < j.secs.length) (hr : RowsOk j vals) (hb : Bdd j (rowsF vals) i) :
    C 37 [.agg (jobC j), slx b (vals.map fun r => [slI r]), .int .i64 i, .int .i64 s] (.int .i64 (costF j (rowsF vals) i s)) [] := by
  obtain ⟨g, g1, g2, g3⟩ := hb
  have hf := valid_facts hv
  have hil : i < j.lengths.l.length := by omega
  have hown := ownC_bd hv hi hs
  rw [B_eq] at hown
  obtain ⟨ht, hht⟩ : ∃ ht, ht = j.secs[s]!.height := ⟨_, rfl⟩
  have hht' : j.secs[s].height = ht := by rw [hht, getElem!_pos j.secs s hs]
  have hnn : ∀ a, a < j.below.l.length → lv j (rowsF vals) ht a = -1 ∨ 0 ≤ lv j (rowsF vals) ht a := fun a ha => by
    rcases lv_cases hr ha ht with h | ⟨t, _, _, _, h⟩
    · exact .inl h.1
    · exact .inr h
  have hAS : AS j (lv j (rowsF vals) ht) i ≤ 1152921504606846976 := by
    refine Int.le_trans ?_ g3
    refine S_le _ (fun a ha => ?_)
    have := g2 ht a ha
    split <;> omega
  have hfin := costF_eq hv (val := rowsF vals) hi hs (by rw [← hht]; exact fun a ha => hnn a (above_lt ha)) (by rw [← hht, above_sum hv _ hi]; intro _; omega)
  rw [← hht, above_sum hv _ hi] at hfin
  obtain ⟨r, hrr⟩ : ∃ r, r = costF j (rowsF vals) i s := ⟨_, rfl⟩
  rw [← hrr] at hfin ⊢
  have eo : ownC j i s = j.lengths.l[i] * j.secs[s].price := by rw [ownC, getElem!_pos _ i hil, getElem!_pos _ s hs]
  have hw0 : IntKind.wrap .i64 (j.lengths.l[i] * j.secs[s].price) = ownC j i s := by rw [← eo]; exact wrap_i64 rfl (by omega)
  refine start hC (nf := N37_ref47_needed) rfl rfl ?_
  simp [N37_ref47_needed, jobC_eq, hil, hs, secC_eq, hw0]
  refine ⟨indW_of (by decide +kernel), ?_⟩
  refine loop_of (Nat × Int) (fun x => [(1, slx b (vals.map fun r => [slI r])), (2, .int .i64 i), (3, .int .i64 s), (4, .ptr (jobC j)), (9, .int .i64 x.2), (10, .int .i64 x.1)])
    (fun x => x.1 ≤ i ∧ PosUp j (lv j (rowsF vals) ht) i x.1 ∧ x.2 = ownC j i s + SumUp j (lv j (rowsF vals) ht) i x.1) (fun x => i - x.1) (0, ownC j i s) ⟨by simp, fun a ha => by simp at ha, by simp [SumUp, S]⟩ (by simp [jobC_eq]) ?_
  rintro ⟨k, sum⟩ ⟨hk, hpos, hsum⟩
  simp only at hk hpos hsum
  simp [jobC_eq]
  refine brB_of (fun h => ?_) (fun h => ?_) <;> simp at h <;> simp [h]
  · have hki : k < i := by omega
    have hkb : k < j.below.l.length := by omega
    have hw : IntKind.wrap .i64 ((k : Int) + 1) = ((k + 1 : Nat) : Int) := wrap_i64 (by omega) (by omega)
    have hkv : k < vals.length := by have := hr.len; omega
    simp [hkb]
    refine brB_of (fun h2 => ?_) (fun h2 => ?_) <;> simp [hkb] at h2 <;> simp [h2, hkb]
    · have hb2 : j.below.l[k]! = (i : Int) := by rw [getElem!_pos j.below.l k hkb]; exact h2
      have hl := rleast_c hC j hv b vals k ht hkb hkv (hr.row k hkb) (hr.cell k hkb)
      simp only [jobC_eq, slI_slx] at hl
      simp [hs, secC_eq, hht']
      refine callW_of hl (.inl rfl) ?_
      rcases lv_cases hr hkb ht with ⟨v1, v2⟩ | ⟨t, v1, v2, v3, v4⟩
      · rw [v2]
        simp
        refine ⟨indW_of (by decide +kernel), ?_⟩
        rcases hfin with ⟨_, e⟩ | ⟨e, _⟩
        · exact e.symm
        · exact absurd v1 (e k (mem_above hkb hb2))
      · rw [v2]
        rw [getElem!_pos vals k hkv] at v1 v3
        rw [getElem!_pos _ t v1] at v3
        have hs1 := SumUp_bd (k := k + 1) (PosUp_yes hpos v4) g1 (g2 ht) (by omega)
        have hs2 := SumUp_bd (k := k) hpos g1 (g2 ht) (by omega)
        rw [SumUp_yes hb2] at hs1
        have t0 : ¬ (t : Int) < 0 := by omega
        have hw1 : IntKind.wrap .i64 (4611686018427387904 - sum) = 4611686018427387904 - sum := wrap_i64 rfl (by omega)
        have hw2 : IntKind.wrap .i64 (sum + vals[k].l[t]) = sum + vals[k].l[t] := wrap_i64 rfl (by omega)
        have hng : ¬ 4611686018427387904 - sum < vals[k].l[t] := by omega
        simp [t0]
        refine ⟨indW_of (by decide +kernel), ?_⟩
        simp [hkv, v1, hw1, hng, hw2, hw]
        exact ⟨k + 1, _, ⟨by omega, PosUp_yes hpos v4, by rw [SumUp_yes hb2, v3, hsum]; omega⟩, by omega, by simp [jobC_eq], rfl, by simp⟩
    · have hb2 : ¬ j.below.l[k]! = (i : Int) := by rw [getElem!_pos j.below.l k hkb]; exact h2
      simp [hw]
      exact ⟨k + 1, sum, ⟨by omega, PosUp_no hpos hb2, by rw [SumUp_no hb2]; exact hsum⟩, by omega, by simp [jobC_eq], rfl, by simp⟩
  · obtain rfl : k = i := by omega
    rcases hfin with ⟨⟨a, ha, e⟩, _⟩ | ⟨_, e⟩
    · have := hpos a (above_less hv ha) (above_mem' ha)
      omega
    · rw [hsum, e]
      rfl
end Go.Gv

set_option linter.unusedSimpArgs false
namespace Go.Gv

def gP (j : Job) (vals : List SlI) (a : Nat) : Int := mx ((List.range j.secs.length).map fun s => if possAt j a s then (rowsF vals a)[s]! else 0)
theorem gP_nn (j : Job) (vals : List SlI) (a : Nat) : 0 ≤ gP j vals a := (mx_spec _ 0).1
theorem gP_lv {j : Job} {vals : List SlI} (hr : RowsOk j vals) {a : Nat} (ha : a < j.below.l.length) (h : Int) : lv j (rowsF vals) h a ≤ gP j vals a := by
  have h0 := gP_nn j vals a
  rcases lv_spec j (rowsF vals) h a with ⟨h1, _⟩ | ⟨t, h1, h2, _, h4, _⟩
  · omega
  · rw [h2]
    have hl : t < j.secs.length := by rw [← hr.row a ha]; exact h1
    have hp : possAt j a t = true := by simp only [okF, Bool.and_eq_true] at h4; exact h4.1
    refine (mx_spec _ 0).2 _ (List.mem_map.2 ⟨t, by simpa using hl, by rw [if_pos hp]⟩)
theorem badV_iff {j : Job} {vals : List SlI} {i s : Nat} (hp : possAt j i s = true) : badV j vals i s = false ↔ (costF j (rowsF vals) i s = -1 → (rowsF vals i)[s]! = -1) ∧ (costF j (rowsF vals) i s ≠ -1 → (rowsF vals i)[s]! ≠ -1 ∧ (rowsF vals i)[s]! ≤ costF j (rowsF vals) i s) := by
  rw [badV, hp]
  generalize costF j (rowsF vals) i s = c
  generalize (rowsF vals i)[s]! = v
  by_cases h1 : c = -1
  · simp [h1]
  · by_cases h2 : v = -1
    · simp [h1, h2]
    · simp [h1, h2]
theorem good_FS {j : Job} (hv : jobValid j = true) {vals : List SlI} (hr : RowsOk j vals) : ∀ i, i ≤ j.below.l.length → (∀ a, a < i → badP j vals a = false) → FS j (gP j vals) i ≤ i * B
  | 0, _, _ => by simp [FS, S]
  | i + 1, hi, hg => by
    have ih := good_FS hv hr i (by omega) (fun a ha => hg a (by omega))
    have hil : i < j.below.l.length := by omega
    have h1 := FS_step hv (gP j vals) hil
    have h2 := AS_le_FS (j := j) (i := i) (f := gP j vals) (fun a _ => gP_nn j vals a)
    have hf := valid_facts hv
    have hiB : (i : Int) * B ≤ 400 * B := Int.mul_le_mul_of_nonneg_right (by omega) (by rw [B_eq]; omega)
    have hA0 : 0 ≤ AS j (gP j vals) i := S_nonneg _ (fun a _ => by have := gP_nn j vals a; split <;> omega)
    have key : gP j vals i ≤ B + AS j (gP j vals) i := by
      refine mx_bd (by rw [B_eq]; omega) (fun x hx => ?_)
      obtain ⟨s, hs, rfl⟩ := List.mem_map.1 hx
      rw [List.mem_range] at hs
      by_cases hp : possAt j i s = true
      · rw [if_pos hp]
        have hown := ownC_bd hv hil hs
        have hbv : badV j vals i s = false := by
          have := hg i (by omega)
          rw [badP, List.any_eq_false] at this
          simpa using this s (by simpa using hs)
        have hnn : ∀ a ∈ aboveF j i, lv j (rowsF vals) j.secs[s]!.height a = -1 ∨ 0 ≤ lv j (rowsF vals) j.secs[s]!.height a := fun a ha => by
          rcases lv_cases hr (above_lt ha) j.secs[s]!.height with h | ⟨t, _, _, _, h⟩
          · exact .inl h.1
          · exact .inr h
        have hsum : ((aboveF j i).map (lv j (rowsF vals) j.secs[s]!.height)).sum ≤ AS j (gP j vals) i := by
          rw [← above_sum hv _ hil]
          exact list_sum_le (fun a ha => gP_lv hr (above_lt ha) _)
        rw [B_eq] at hiB ih hown
        obtain ⟨k1, k2⟩ := (badV_iff hp).1 hbv
        rcases costF_eq hv (val := rowsF vals) hil hs hnn (fun _ => by omega) with ⟨_, e⟩ | ⟨hall, e⟩
        · have := k1 e
          rw [this, B_eq]; omega
        · have h5 := list_sum_nn (fun a ha => (hnn a ha).resolve_left (hall a ha))
          have := k2 (by omega)
          rw [B_eq]
          omega
      · rw [if_neg hp, B_eq]; omega
    have e : ((i + 1 : Nat) : Int) * B = i * B + B := by rw [Int.natCast_add, Int.add_mul]; simp
    rw [e]; omega
theorem good_Bdd {j : Job} (hv : jobValid j = true) (hn : j.below.l.length ≤ 12) {vals : List SlI} (hr : RowsOk j vals) {i : Nat} (hi : i ≤ j.below.l.length) (hg : ∀ a, a < i → badP j vals a = false) : Bdd j (rowsF vals) i := by
  refine ⟨gP j vals, gP_nn j vals, fun h a ha => gP_lv hr (by omega) h, ?_⟩
  have h1 := good_FS hv hr i hi hg
  have h2 := AS_le_FS (j := j) (i := i) (f := gP j vals) (fun a _ => gP_nn j vals a)
  have hiB : (i : Int) * B ≤ 12 * B := Int.mul_le_mul_of_nonneg_right (by omega) (by rw [B_eq]; omega)
  rw [B_eq] at h1 hiB
  omega
end Go.Gv

set_option linter.unusedSimpArgs false
namespace Go.Gv

def refChk (j : Job) (vals : List SlI) : Int := match (List.range j.below.l.length).find? (badP j vals) with
  | some i => i
  | none => -1
theorem refChk_some {j : Job} {vals : List SlI} {i : Nat} (hi : i < j.below.l.length) (h : ∀ k, k < i → badP j vals k = false) (hb : badP j vals i = true) : refChk j vals = (i : Int) := by
  unfold refChk
  have : (List.range j.below.l.length).find? (badP j vals) = some i := by
    rw [List.find?_eq_some_iff_getElem]
    exact ⟨hb, i, by simpa using hi, by simp, fun k hk => by simp [h k hk]⟩
  rw [this]
theorem refChk_none {j : Job} {vals : List SlI} (h : ∀ k, k < j.below.l.length → badP j vals k = false) : refChk j vals = -1 := by
  unfold refChk
  have : (List.range j.below.l.length).find? (badP j vals) = none := by
    rw [List.find?_eq_none]
    intro k hk
    rw [List.mem_range] at hk
    rw [h k hk]; simp
  rw [this]
def BadUp (j : Job) (vals : List SlI) (i s : Nat) : Prop := ∀ t, t < s → badV j vals i t = false
theorem BadUp_next {j : Job} {vals : List SlI} {i s : Nat} (h : BadUp j vals i s) (h2 : badV j vals i s = false) : BadUp j vals i (s + 1) := fun t ht => by
  rcases Nat.lt_succ_iff_lt_or_eq.1 ht with h5 | rfl
  · exact h t h5
  · exact h2
theorem BadUp_all {j : Job} {vals : List SlI} {i : Nat} (h : BadUp j vals i j.secs.length) : badP j vals i = false := by
  rw [badP, List.any_eq_false]
  intro s hs
  rw [h s (by simpa using hs)]; simp
theorem badP_of {j : Job} {vals : List SlI} {i s : Nat} (hs : s < j.secs.length) (h : badV j vals i s = true) : badP j vals i = true := List.any_eq_true.2 ⟨s, by simpa using hs, h⟩
theorem costF_ge {j : Job} (hv : jobValid j = true) {vals : List SlI} (hr : RowsOk j vals) {i s : Nat} (hi : i < j.below.l.length) (hs : s < j.secs.length) (hb : Bdd j (rowsF vals) i) : -1 ≤ costF j (rowsF vals) i s := by
  obtain ⟨g, g1, g2, g3⟩ := hb
  have hnn : ∀ a ∈ aboveF j i, lv j (rowsF vals) j.secs[s]!.height a = -1 ∨ 0 ≤ lv j (rowsF vals) j.secs[s]!.height a := fun a ha => by
    rcases lv_cases hr (above_lt ha) j.secs[s]!.height with h | ⟨t, _, _, _, h⟩
    · exact .inl h.1
    · exact .inr h
  have hsum : ((aboveF j i).map (lv j (rowsF vals) j.secs[s]!.height)).sum ≤ AS j g i := by
    rw [← above_sum hv _ hi]
    exact list_sum_le (fun a ha => g2 _ a (above_less hv ha))
  have hown := ownC_bd hv hi hs
  rcases costF_eq hv (val := rowsF vals) hi hs hnn (fun _ => by omega) with ⟨_, e⟩ | ⟨hall, e⟩
  · omega
  · have h5 := list_sum_nn (fun a ha => (hnn a ha).resolve_left (hall a ha))
    omega
end Go.Gv

set_option linter.unusedSimpArgs false
namespace Go.Gv

def SumR (j : Job) (f : Nat → Int) (k : Nat) : Int := S (fun a => if j.below.l[a]! = -1 then f a else 0) k
def PosR (j : Job) (f : Nat → Int) (k : Nat) : Prop := ∀ a, a < k → j.below.l[a]! = -1 → 0 ≤ f a
theorem SumR_yes {j : Job} {f : Nat → Int} {k : Nat} (h : j.below.l[k]! = -1) : SumR j f (k + 1) = SumR j f k + f k := by
  unfold SumR; simp only [S]; rw [if_pos h]
theorem SumR_no {j : Job} {f : Nat → Int} {k : Nat} (h : ¬ j.below.l[k]! = -1) : SumR j f (k + 1) = SumR j f k := by
  unfold SumR; simp only [S]; rw [if_neg h]; omega
theorem PosR_yes {j : Job} {f : Nat → Int} {k : Nat} (h : PosR j f k) (h2 : 0 ≤ f k) : PosR j f (k + 1) := fun a ha hb => by
  rcases Nat.lt_succ_iff_lt_or_eq.1 ha with h5 | rfl
  · exact h a h5 hb
  · exact h2
theorem PosR_no {j : Job} {f : Nat → Int} {k : Nat} (h : PosR j f k) (h2 : ¬ j.below.l[k]! = -1) : PosR j f (k + 1) := fun a ha hb => by
  rcases Nat.lt_succ_iff_lt_or_eq.1 ha with h5 | rfl
  · exact h a h5 hb
  · exact absurd hb h2
theorem SumR_all (j : Job) (f : Nat → Int) : ((rootsF j).map f).sum = SumR j f j.below.l.length := by
  unfold rootsF SumR
  rw [sum_filter]
  exact S_congr _ (fun a _ => by simp only [decide_eq_true_eq])
theorem SumR_bd {j : Job} {f g : Nat → Int} {k : Nat} (h : PosR j f k) (hg : ∀ a, 0 ≤ g a) (hfg : ∀ a, a < j.below.l.length → f a ≤ g a) (hk : k ≤ j.below.l.length) : 0 ≤ SumR j f k ∧ SumR j f k ≤ SumR j g j.below.l.length := by
  constructor
  · refine S_nonneg _ (fun a ha => ?_)
    split
    · rename_i e; exact h a ha e
    · exact Int.le_refl _
  · refine Int.le_trans (S_le (g' := fun a => if j.below.l[a]! = -1 then g a else 0) _ (fun a ha => ?_)) (S_mono (fun a => ?_) _ hk)
    · have := hfg a (by omega)
      split <;> omega
    · have := hg a
      split <;> omega
theorem bound_cases {j : Job} {val : Nat → List Int} (hp : ∀ a ∈ rootsF j, lv j val 4194304 a = -1 ∨ 0 ≤ lv j val 4194304 a) (hb : ((rootsF j).map (lv j val 4194304)).sum ≤ 9000000000000000000) :
    ((∃ a ∈ rootsF j, lv j val 4194304 a = -1) ∧ boundF j val = -1) ∨ ((∀ a ∈ rootsF j, lv j val 4194304 a ≠ -1) ∧ boundF j val = ((rootsF j).map (lv j val 4194304)).sum) := by
  by_cases hx : ∃ a ∈ rootsF j, lv j val 4194304 a = -1
  · obtain ⟨a, ha, h3⟩ := hx
    exact .inl ⟨⟨a, ha, h3⟩, by rw [boundF, sumG_bad ha h3]; rfl⟩
  · have hx' : ∀ a ∈ rootsF j, lv j val 4194304 a ≠ -1 := fun a ha e => hx ⟨a, ha, e⟩
    refine .inr ⟨hx', ?_⟩
    rw [boundF, sumG_eq hx' (fun a ha => (hp a ha).resolve_left (hx' a ha)) (Int.le_refl _) (by omega)]
    simp
theorem mem_roots {j : Job} {a : Nat} (h : a < j.below.l.length) (h2 : j.below.l[a]! = -1) : a ∈ rootsF j := by
  simp only [rootsF, List.mem_filter, List.mem_range, decide_eq_true_eq]
  exact ⟨h, h2⟩
variable {C : CC} (hC : Closed prog C)
include hC
set_option maxHeartbeats 4000000 in
theorem rSum_c (j : Job) (hv : jobValid j = true) (hn : j.below.l.length ≤ 12) (b : Bool) (vals : List SlI) (hr : RowsOk j vals) (hg : ∀ k, k < j.below.l.length → badP j vals k = false) :
    C 14 [.agg (jobC j), slx b (vals.map fun r => [slI r])] (.int .i64 (boundF j (rowsF vals))) [] := by
  have hFS := good_FS hv hr j.below.l.length (Nat.le_refl _) hg
  rw [← roots_sum hv, SumR_all] at hFS
  have hiB : (j.below.l.length : Int) * B ≤ 12 * B := Int.mul_le_mul_of_nonneg_right (by omega) (by rw [B_eq]; omega)
  rw [B_eq] at hFS hiB
  have hnn : ∀ a, a < j.below.l.length → lv j (rowsF vals) 4194304 a = -1 ∨ 0 ≤ lv j (rowsF vals) 4194304 a := fun a ha => by
    rcases lv_cases hr ha 4194304 with h | ⟨t, _, _, _, h⟩
    · exact .inl h.1
    · exact .inr h
  have hsum : ((rootsF j).map (lv j (rowsF vals) 4194304)).sum ≤ SumR j (gP j vals) j.below.l.length := by
    rw [← SumR_all]
    exact list_sum_le (fun a ha => gP_lv hr (root_mem ha).1 _)
  have hfin := bound_cases (j := j) (val := rowsF vals) (fun a ha => hnn a (root_mem ha).1) (by omega)
  rw [SumR_all] at hfin
  obtain ⟨r, hrr⟩ : ∃ r, r = boundF j (rowsF vals) := ⟨_, rfl⟩
  rw [← hrr] at hfin ⊢
  refine start hC (nf := N14_ref47_Sum) rfl rfl ?_
  simp [N14_ref47_Sum]
  refine loop_of (Nat × Int) (fun x => [(1, slx b (vals.map fun r => [slI r])), (2, .ptr (jobC j)), (5, .int .i64 x.2), (6, .int .i64 x.1)])
    (fun x => x.1 ≤ j.below.l.length ∧ PosR j (lv j (rowsF vals) 4194304) x.1 ∧ x.2 = SumR j (lv j (rowsF vals) 4194304) x.1) (fun x => j.below.l.length - x.1) (0, 0) ⟨by simp, fun a ha => by simp at ha, by simp [SumR, S]⟩ (by simp [jobC_eq]) ?_
  rintro ⟨k, sum⟩ ⟨hk, hpos, hsm⟩
  simp only at hk hpos hsm
  simp [jobC_eq]
  refine brB_of (fun h => ?_) (fun h => ?_) <;> simp at h <;> simp [h]
  · have hw : IntKind.wrap .i64 ((k : Int) + 1) = ((k + 1 : Nat) : Int) := wrap_i64 (by omega) (by omega)
    have hkv : k < vals.length := by have := hr.len; omega
    have hbv := valid_below hv h
    rw [getElem!_pos j.below.l k h] at hbv
    refine brB_of (fun h2 => ?_) (fun h2 => ?_) <;> simp [h] at h2 <;> simp [h2, h]
    · have hb2 : j.below.l[k]! = -1 := by rw [getElem!_pos j.below.l k h]; omega
      have hl := rleast_c hC j hv b vals k 4194304 h hkv (hr.row k h) (hr.cell k h)
      simp only [jobC_eq, slI_slx] at hl
      refine callW_of hl (.inl rfl) ?_
      rcases lv_cases hr h 4194304 with ⟨v1, v2⟩ | ⟨t, v1, v2, v3, v4⟩
      · rw [v2]
        simp
        rcases hfin with ⟨_, e⟩ | ⟨e, _⟩
        · exact e.symm
        · exact absurd v1 (e k (mem_roots h hb2))
      · rw [v2]
        rw [getElem!_pos vals k hkv] at v1 v3
        rw [getElem!_pos _ t v1] at v3
        have hs1 := SumR_bd (k := k + 1) (PosR_yes hpos v4) (gP_nn j vals) (fun a ha => gP_lv hr ha 4194304) (by omega)
        rw [SumR_yes hb2] at hs1
        have hs2 := SumR_bd (k := k) hpos (gP_nn j vals) (fun a ha => gP_lv hr ha 4194304) (by omega)
        have t0 : ¬ (t : Int) < 0 := by omega
        have hw2 : IntKind.wrap .i64 (sum + vals[k].l[t]) = sum + vals[k].l[t] := wrap_i64 rfl (by omega)
        simp [t0, hkv, v1, hw2, hw]
        exact ⟨k + 1, _, ⟨by omega, PosR_yes hpos v4, by rw [SumR_yes hb2, v3, hsm]⟩, by omega, by simp [jobC_eq], rfl, by simp⟩
    · have hb2 : ¬ j.below.l[k]! = -1 := by rw [getElem!_pos j.below.l k h]; omega
      simp [hw]
      exact ⟨k + 1, sum, ⟨by omega, PosR_no hpos hb2, by rw [SumR_no hb2]; exact hsm⟩, by omega, by simp [jobC_eq], rfl, by simp⟩
  · obtain rfl : k = j.below.l.length := by omega
    rcases hfin with ⟨⟨a, ha, e⟩, _⟩ | ⟨_, e⟩
    · have := hpos a (root_mem ha).1 (root_mem ha).2
      omega
    · rw [hsm, e]
end Go.Gv

set_option linter.unusedSimpArgs false
namespace Go.Gv

def belowOk (j : Job) (i : Nat) : Bool := j.below.l[i]! == -1 || (decide ((i : Int) < j.below.l[i]!) && decide (j.below.l[i]! < j.below.l.length))
theorem all_idx {l : List Int} {lo hi : Int} : (l.all fun n => inR n lo hi) = true ↔ ∀ i, i < l.length → inR l[i]! lo hi = true := by
  rw [List.all_eq_true]
  constructor
  · intro h i hi
    rw [getElem!_pos l i hi]
    exact h _ (List.getElem_mem hi)
  · intro h x hx
    obtain ⟨i, hi, rfl⟩ := List.getElem_of_mem hx
    have := h i hi
    rwa [getElem!_pos l i hi] at this
theorem pipes_iff {j : Job} (h1 : j.lengths.l.length = j.below.l.length) (h2 : j.flows.l.length = j.below.l.length) (h3 : j.falls.l.length = j.below.l.length) (h4 : j.room.l.length = j.below.l.length) (hb : ∀ i, i < j.below.l.length → belowOk j i = true) :
    (List.range j.below.l.length).all (pipeOk j) = ((j.lengths.l.all fun n => inR n 1 16777216) && (j.flows.l.all fun n => inR n 0 1099511627776) && (j.falls.l.all fun n => inR n 0 4194304) && (j.room.l.all fun n => inR n 0 4194304)) := by
  rw [Bool.eq_iff_iff, Bool.and_eq_true, Bool.and_eq_true, Bool.and_eq_true, all_idx, all_idx, all_idx, all_idx, List.all_eq_true, h1, h2, h3, h4]
  constructor
  · intro h
    have key : ∀ i, i < j.below.l.length → inR j.lengths.l[i]! 1 16777216 = true ∧ inR j.flows.l[i]! 0 1099511627776 = true ∧ inR j.falls.l[i]! 0 4194304 = true ∧ inR j.room.l[i]! 0 4194304 = true := fun i hi => by
      have := h i (by simpa using hi)
      simp only [pipeOk, Bool.and_eq_true] at this
      exact ⟨this.1.1.1.2, this.1.1.2, this.1.2, this.2⟩
    exact ⟨⟨⟨fun i hi => (key i hi).1, fun i hi => (key i hi).2.1⟩, fun i hi => (key i hi).2.2.1⟩, fun i hi => (key i hi).2.2.2⟩
  · rintro ⟨⟨⟨k1, k2⟩, k3⟩, k4⟩ i hi
    rw [List.mem_range] at hi
    have h0 := hb i hi
    rw [belowOk] at h0
    rw [pipeOk, h0, k1 i hi, k2 i hi, k3 i hi, k4 i hi]
    rfl
variable {C : CC} (hC : Closed prog C)
include hC
set_option maxHeartbeats 2000000 in
theorem rValid_c (j : Job) : C 8 [.agg (jobC j)] (.bool (jobValid j)) [] := by
  refine start hC (nf := N8_ref47_Valid) rfl rfl ?_
  simp [N8_ref47_Valid, jobC_eq]
  refine brB_of (fun h => ?_) (fun h => ?_) <;> simp [h] <;> simp at h
  · simp [jobValid]; omega
  refine brB_of (fun h2 => ?_) (fun h2 => ?_) <;> simp at h2 <;> simp [h2]
  · rw [jobValid]; simp; omega
  refine brB_of (fun h3 => ?_) (fun h3 => ?_) <;> simp at h3 <;> simp [h3]
  · rw [jobValid]; simp; omega
  refine brB_of (fun h4 => ?_) (fun h4 => ?_) <;> simp at h4 <;> simp [h4]
  · rw [jobValid]; simp; omega
  refine brB_of (fun h5 => ?_) (fun h5 => ?_) <;> simp at h5 <;> simp [h5]
  · rw [jobValid]; simp; omega
  refine brB_of (fun h6 => ?_) (fun h6 => ?_) <;> simp at h6 <;> simp [h6]
  · have h6' : ¬ 0 < j.secs.length := by omega
    simp [jobValid, h6']
  refine callW_of (rcat_c hC _ _) (.inl rfl) ?_
  cases h7 : catValid j.secs
  · simp [jobValid, h7]
  simp
  have bad : ∀ i, i < j.below.l.length → belowOk j i = false → jobValid j = false := fun i hi e => by
    simp only [jobValid, Bool.and_eq_false_iff, List.all_eq_false]
    refine .inr ⟨i, by simpa using hi, ?_⟩
    rw [belowOk] at e
    rw [pipeOk, e]
    simp
  have next : ∀ i, belowOk j i = true → (∀ k, k < i → belowOk j k = true) → ∀ k, k < i + 1 → belowOk j k = true := fun i e hk k hk2 => by
    rcases Nat.lt_succ_iff_lt_or_eq.1 hk2 with h5 | rfl
    · exact hk k h5
    · exact e
  refine loop_of Nat (fun i => [(1, .ptr (jobC j)), (3, .int .i64 j.below.l.length), (4, .int .i64 i)]) (fun i => i ≤ j.below.l.length ∧ ∀ k, k < i → belowOk j k = true) (fun i => j.below.l.length - i) 0 (by simp) (by simp [jobC_eq]) ?_
  rintro i ⟨hi, hok⟩
  simp [jobC_eq]
  refine brB_of (fun h8 => ?_) (fun h8 => ?_) <;> simp at h8 <;> simp [h8]
  · have hw : IntKind.wrap .i64 ((i : Int) + 1) = ((i + 1 : Nat) : Int) := wrap_i64 (by omega) (by omega)
    have hb1 : j.below.l[i]! = j.below.l[i] := getElem!_pos j.below.l i h8
    have bo : belowOk j i = (j.below.l[i] == -1 || (decide ((i : Int) < j.below.l[i]) && decide (j.below.l[i] < j.below.l.length))) := by rw [belowOk, hb1]
    by_cases c1 : j.below.l[i] = -1
    · simp [h8, c1, hw]
      exact ⟨i + 1, ⟨by omega, next i (by rw [bo, c1]; rfl) hok⟩, by omega, by simp [jobC_eq], by simp⟩
    · by_cases c2 : j.below.l[i] ≤ (i : Int)
      · simp [h8, c1, c2]
        exact bad i h8 (by rw [bo]; simp [c1]; omega)
      · by_cases c3 : (j.below.l.length : Int) ≤ j.below.l[i]
        · simp [h8, c1, c2, c3]
          exact bad i h8 (by rw [bo]; simp [c1]; omega)
        · simp [h8, c1, c2, c3, hw]
          exact ⟨i + 1, ⟨by omega, next i (by rw [bo]; simp; omega) hok⟩, by omega, by simp [jobC_eq], by simp⟩
  · have hp := pipes_iff (j := j) (by omega) (by omega) (by omega) (by omega) (fun k hk => hok k (by omega))
    have hvd : jobValid j = (List.range j.below.l.length).all (pipeOk j) := by
      rw [jobValid, h7, decide_eq_true (show j.below.l.length ≤ 400 by omega), decide_eq_true (show j.lengths.l.length = j.below.l.length by omega), decide_eq_true (show j.flows.l.length = j.below.l.length by omega), decide_eq_true (show j.falls.l.length = j.below.l.length by omega), decide_eq_true (show j.room.l.length = j.below.l.length by omega), decide_eq_true (show 0 < j.secs.length by omega)]
      simp only [Bool.true_and]
    rw [hvd, hp]
    have r1 := ranges_c hC j.lengths.n j.lengths.l 1 16777216 (by omega)
    have r2 := ranges_c hC j.flows.n j.flows.l 0 1099511627776 (by omega)
    have r3 := ranges_c hC j.falls.n j.falls.l 0 4194304 (by omega)
    have r4 := ranges_c hC j.room.n j.room.l 0 4194304 (by omega)
    obtain ⟨q1, e1⟩ : ∃ q1, q1 = j.lengths.l.all fun n => inR n 1 16777216 := ⟨_, rfl⟩
    obtain ⟨q2, e2⟩ : ∃ q2, q2 = j.flows.l.all fun n => inR n 0 1099511627776 := ⟨_, rfl⟩
    obtain ⟨q3, e3⟩ : ∃ q3, q3 = j.falls.l.all fun n => inR n 0 4194304 := ⟨_, rfl⟩
    obtain ⟨q4, e4⟩ : ∃ q4, q4 = j.room.l.all fun n => inR n 0 4194304 := ⟨_, rfl⟩
    rw [← e1] at r1 ⊢
    rw [← e2] at r2 ⊢
    rw [← e3] at r3 ⊢
    rw [← e4] at r4 ⊢
    refine callW_of r1 (.inl rfl) ?_
    cases q1
    · simp
    simp
    refine callW_of r2 (.inl rfl) ?_
    cases q2
    · simp
    simp
    refine callW_of r3 (.inl rfl) ?_
    cases q3
    · simp
    simp
    refine callW_of r4 (.inl rfl) ?_
    cases q4 <;> simp
end Go.Gv

set_option linter.unusedSimpArgs false
namespace Go.Gv

/-- Rows of values up to a pipe. -/
structure RowsUp (j : Job) (vals : List SlI) (k : Nat) : Prop where
  len : k ≤ vals.length
  row : ∀ a, a < k → vals[a]!.l.length = j.secs.length
  cell : ∀ a, a < k → ∀ y ∈ vals[a]!.l, -1 ≤ y
theorem lvU_cases {j : Job} {vals : List SlI} {k : Nat} (hr : RowsUp j vals k) {a : Nat} (ha : a < k) (h : Int) :
    (lv j (rowsF vals) h a = -1 ∧ (leastF (okF j a h) (rowsF vals a)).2 = -1) ∨ ∃ t : Nat, t < vals[a]!.l.length ∧ (leastF (okF j a h) (rowsF vals a)).2 = (t : Int) ∧ lv j (rowsF vals) h a = vals[a]!.l[t]! ∧ 0 ≤ lv j (rowsF vals) h a := by
  unfold lv
  rcases least_spec (okF j a h) (rowsF vals a) with ⟨h1, _⟩ | ⟨t, h1, h2, h3, _⟩
  · rw [h1]; exact .inl ⟨rfl, rfl⟩
  · rw [h2]
    have := hr.cell a ha _ (get_mem h1)
    exact .inr ⟨t, h1, rfl, rfl, by simp only; rw [rowsF] at h3 ⊢; omega⟩
variable {C : CC} (hC : Closed prog C)
include hC
set_option maxHeartbeats 4000000 in
theorem rneededU_c (j : Job) (hv : jobValid j = true) (b : Bool) (vals : List SlI) (i s : Nat) (hi : i < j.below.l.length) (hs : s < j.secs.length) (hr : RowsUp j vals i) (hb : Bdd j (rowsF vals) i) :
    C 37 [.agg (jobC j), slx b (vals.map fun r => [slI r]), .int .i64 i, .int .i64 s] (.int .i64 (costF j (rowsF vals) i s)) [] := by
  obtain ⟨g, g1, g2, g3⟩ := hb
  have hf := valid_facts hv
  have hil : i < j.lengths.l.length := by omega
  have hown := ownC_bd hv hi hs
  rw [B_eq] at hown
  obtain ⟨ht, hht⟩ : ∃ ht, ht = j.secs[s]!.height := ⟨_, rfl⟩
  have hht' : j.secs[s].height = ht := by rw [hht, getElem!_pos j.secs s hs]
  have hnn : ∀ a, a < i → lv j (rowsF vals) ht a = -1 ∨ 0 ≤ lv j (rowsF vals) ht a := fun a ha => by
    rcases lvU_cases hr ha ht with h | ⟨t, _, _, _, h⟩
    · exact .inl h.1
    · exact .inr h
  have hAS : AS j (lv j (rowsF vals) ht) i ≤ 1152921504606846976 := by
    refine Int.le_trans ?_ g3
    refine S_le _ (fun a ha => ?_)
    have := g2 ht a ha
    split <;> omega
  have hfin := costF_eq hv (val := rowsF vals) hi hs (by rw [← hht]; exact fun a ha => hnn a (above_less hv ha)) (by rw [← hht, above_sum hv _ hi]; intro _; omega)
  rw [← hht, above_sum hv _ hi] at hfin
  obtain ⟨r, hrr⟩ : ∃ r, r = costF j (rowsF vals) i s := ⟨_, rfl⟩
  rw [← hrr] at hfin ⊢
  have eo : ownC j i s = j.lengths.l[i] * j.secs[s].price := by rw [ownC, getElem!_pos _ i hil, getElem!_pos _ s hs]
  have hw0 : IntKind.wrap .i64 (j.lengths.l[i] * j.secs[s].price) = ownC j i s := by rw [← eo]; exact wrap_i64 rfl (by omega)
  refine start hC (nf := N37_ref47_needed) rfl rfl ?_
  simp [N37_ref47_needed, jobC_eq, hil, hs, secC_eq, hw0]
  refine ⟨indW_of (by decide +kernel), ?_⟩
  refine loop_of (Nat × Int) (fun x => [(1, slx b (vals.map fun r => [slI r])), (2, .int .i64 i), (3, .int .i64 s), (4, .ptr (jobC j)), (9, .int .i64 x.2), (10, .int .i64 x.1)])
    (fun x => x.1 ≤ i ∧ PosUp j (lv j (rowsF vals) ht) i x.1 ∧ x.2 = ownC j i s + SumUp j (lv j (rowsF vals) ht) i x.1) (fun x => i - x.1) (0, ownC j i s) ⟨by simp, fun a ha => by simp at ha, by simp [SumUp, S]⟩ (by simp [jobC_eq]) ?_
  rintro ⟨k, sum⟩ ⟨hk, hpos, hsum⟩
  simp only at hk hpos hsum
  simp [jobC_eq]
  refine brB_of (fun h => ?_) (fun h => ?_) <;> simp at h <;> simp [h]
  · have hki : k < i := by omega
    have hkb : k < j.below.l.length := by omega
    have hw : IntKind.wrap .i64 ((k : Int) + 1) = ((k + 1 : Nat) : Int) := wrap_i64 (by omega) (by omega)
    have hkv : k < vals.length := by have := hr.len; omega
    simp [hkb]
    refine brB_of (fun h2 => ?_) (fun h2 => ?_) <;> simp [hkb] at h2 <;> simp [h2, hkb]
    · have hb2 : j.below.l[k]! = (i : Int) := by rw [getElem!_pos j.below.l k hkb]; exact h2
      have hl := rleast_c hC j hv b vals k ht hkb hkv (hr.row k hki) (hr.cell k hki)
      simp only [jobC_eq, slI_slx] at hl
      simp [hs, secC_eq, hht']
      refine callW_of hl (.inl rfl) ?_
      rcases lvU_cases hr hki ht with ⟨v1, v2⟩ | ⟨t, v1, v2, v3, v4⟩
      · rw [v2]
        simp
        refine ⟨indW_of (by decide +kernel), ?_⟩
        rcases hfin with ⟨_, e⟩ | ⟨e, _⟩
        · exact e.symm
        · exact absurd v1 (e k (mem_above hkb hb2))
      · rw [v2]
        rw [getElem!_pos vals k hkv] at v1 v3
        rw [getElem!_pos _ t v1] at v3
        have hs1 := SumUp_bd (k := k + 1) (PosUp_yes hpos v4) g1 (g2 ht) (by omega)
        have hs2 := SumUp_bd (k := k) hpos g1 (g2 ht) (by omega)
        rw [SumUp_yes hb2] at hs1
        have t0 : ¬ (t : Int) < 0 := by omega
        have hw1 : IntKind.wrap .i64 (4611686018427387904 - sum) = 4611686018427387904 - sum := wrap_i64 rfl (by omega)
        have hw2 : IntKind.wrap .i64 (sum + vals[k].l[t]) = sum + vals[k].l[t] := wrap_i64 rfl (by omega)
        have hng : ¬ 4611686018427387904 - sum < vals[k].l[t] := by omega
        simp [t0]
        refine ⟨indW_of (by decide +kernel), ?_⟩
        simp [hkv, v1, hw1, hng, hw2, hw]
        exact ⟨k + 1, _, ⟨by omega, PosUp_yes hpos v4, by rw [SumUp_yes hb2, v3, hsum]; omega⟩, by omega, by simp [jobC_eq], rfl, by simp⟩
    · have hb2 : ¬ j.below.l[k]! = (i : Int) := by rw [getElem!_pos j.below.l k hkb]; exact h2
      simp [hw]
      exact ⟨k + 1, sum, ⟨by omega, PosUp_no hpos hb2, by rw [SumUp_no hb2]; exact hsum⟩, by omega, by simp [jobC_eq], rfl, by simp⟩
  · obtain rfl : k = i := by omega
    rcases hfin with ⟨⟨a, ha, e⟩, _⟩ | ⟨_, e⟩
    · have := hpos a (above_less hv ha) (above_mem' ha)
      omega
    · rw [hsum, e]
      rfl
end Go.Gv

set_option linter.unusedSimpArgs false
namespace Go.Gv

def valsP (j : Job) (i : Nat) : List SlI := (List.range i).map fun a => ⟨false, valN j a⟩
theorem valsP_at {j : Job} {i a : Nat} (h : a < i) : (valsP j i)[a]! = ⟨false, valN j a⟩ := by
  rw [valsP, getElem!_pos _ a (by simpa using h)]
  simp
theorem valsP_up {j : Job} (hv : jobValid j = true) {i : Nat} (hi : i ≤ j.below.l.length) : RowsUp j (valsP j i) i :=
  ⟨by simp [valsP], fun a ha => by rw [valsP_at ha]; exact valN_len (by omega), fun a ha y hy => by rw [valsP_at ha] at hy; exact vals_cell hv (by omega) y hy⟩
theorem valsP_bd {j : Job} (hv : jobValid j = true) (hn : j.below.l.length ≤ 12) {i : Nat} (hi : i ≤ j.below.l.length) : Bdd j (rowsF (valsP j i)) i := by
  refine ⟨fun a => mx (valN j a), fun a => (mx_spec _ 0).1, fun h a ha => ?_, ?_⟩
  · have e : lv j (rowsF (valsP j i)) h a = lv j (valN j) h a := by rw [lv, lv, rowsF, valsP_at ha]
    have := (mx_spec (valN j a) 0).1
    rw [e]
    show _ ≤ mx (valN j a)
    rcases lvN_bd hv (h := h) (a := a) (by omega) with h1 | h1
    · unfold mx; omega
    · exact h1.2
  · have h1 := AS_le_FS (j := j) (i := i) (f := fun a => mx (valN j a)) (fun a _ => (mx_spec (valN j a) 0).1)
    have h2 := (vals_bd hv i hi).2
    have hiB : (i : Int) * B ≤ 12 * B := Int.mul_le_mul_of_nonneg_right (by omega) (by rw [B_eq]; omega)
    rw [B_eq] at h2 hiB
    omega
theorem valsP_cost {j : Job} (hv : jobValid j = true) {i s : Nat} : costF j (rowsF (valsP j i)) i s = costF j (valN j) i s :=
  costF_congr fun a ha => by rw [rowsF, valsP_at (above_less hv ha)]
def outV (j : Job) (i : Nat) : D := .blk 1 ((List.range i).map fun k => [.own 1 ((valN j k).map fun v => [.int .i64 v])])
theorem outV_eq {j i} : outV j i = .blk 1 ((List.range i).map fun k => [.own 1 ((valN j k).map fun v => [.int .i64 v])]) := _root_.id rfl
@[simp] theorem kill1_outV {ks j i} : kill1 ks (outV j i) = outV j i := by unfold outV; exact kill1_blk
@[simp] theorem isB_outV {j i} : isB (outV j i) = true := _root_.id rfl
def rowV (j : Job) (i s : Nat) : D := .blk 1 (((valN j i).take s).map fun v => [.int .i64 v])
theorem rowV_eq {j i s} : rowV j i s = .blk 1 (((valN j i).take s).map fun v => [.int .i64 v]) := _root_.id rfl
@[simp] theorem kill1_rowV {ks j i s} : kill1 ks (rowV j i s) = rowV j i s := by unfold rowV; exact kill1_blk
@[simp] theorem isB_rowV {j i s} : isB (rowV j i s) = true := _root_.id rfl
def outE (j : Job) : Nat → Env
  | 0 => [(3, .nils)]
  | i + 1 => [(3, .ref (.r 10048) 0 (i + 1)), (10048, outV j (i + 1))]
def rowE (j : Job) (i : Nat) : Nat → Env
  | 0 => [(5, .nils)]
  | s + 1 => [(5, .ref (.r 10080) 0 (s + 1)), (10080, rowV j i (s + 1))]
@[simp] theorem take_map_range {α : Type} (f : Nat → α) (n : Nat) : List.take n (List.map f (List.range n)) = List.map f (List.range n) := List.take_of_length_le (by simp)
variable {C : CC} (hC : Closed prog C)
include hC
set_option maxHeartbeats 4000000 in
theorem rValues_c (j : Job) (hv : jobValid j = true) (hn : j.below.l.length ≤ 12) : C 21 [.agg (jobC j)] (slx (decide (j.below.l.length = 0)) ((valsP j j.below.l.length).map fun r => [slI r])) [] := by
  have hf := valid_facts hv
  have hs0 : 0 < j.secs.length := by simp only [jobValid, Bool.and_eq_true, decide_eq_true_eq] at hv; omega
  refine start hC (nf := N21_ref47_Values) rfl rfl ?_
  simp [N21_ref47_Values]
  refine loop_of Nat (fun i => (1, .ptr (jobC j)) :: (4, .int .i64 i) :: outE j i) (fun i => i ≤ j.below.l.length) (fun i => j.below.l.length - i) 0 (by simp) (by simp [jobC_eq, outE]) ?_
  rintro i hi
  cases i with
  | zero =>
    simp [jobC_eq, outE]
    refine brB_of (fun h => ?_) (fun h => ?_) <;> simp at h <;> simp [h]
    · have hw : IntKind.wrap .i64 (0 + 1) = ((0 + 1 : Nat) : Int) := wrap_i64 (by first | omega | (push_cast; omega)) (by omega)
      refine loop_of Nat (fun s => (1, .ptr (jobC j)) :: (3, .nils) :: (4, .int .i64 0) :: (6, .int .i64 s) :: rowE j 0 s) (fun s => s ≤ j.secs.length) (fun s => j.secs.length - s) 0 (by simp) (by simp [jobC_eq, rowE]) ?_
      rintro s hs
      have hB := valsP_bd hv hn (i := 0) (by omega)
      have hU := valsP_up hv (i := 0) (by omega)
      have hvl : (valN j 0).length = j.secs.length := valN_len (by omega)
      cases s with
      | zero =>
        simp [jobC_eq, rowE]
        refine brB_of (fun h1 => ?_) (fun h1 => ?_) <;> simp at h1 <;> simp [h1]
        case refine_2 => simp [h1] at hs0
        have hw1 : IntKind.wrap .i64 1 = ((0 + 1 : Nat) : Int) := wrap_i64 rfl (by omega)
        have hp := rPossible_c hC j hv 0 0 (by omega) hs0
        have hnd := rneededU_c hC j hv true (valsP j 0) 0 0 (by omega) hs0 hU hB
        rw [valsP_cost hv] at hnd
        have hval := valN_at hv (i := 0) (s := 0) (by omega) hs0
        have hrow : rowV j 0 (0 + 1) = .blk 1 [[.int .i64 ((valN j 0)[0]!)]] := by
          rw [rowV_eq]
          have hl : 0 < (valN j 0).length := by omega
          rw [List.take_succ_eq_append_getElem hl, getElem!_pos _ 0 hl]
          simp
        simp [jobC_eq] at hp hnd
        refine callW_of hp (.inl rfl) ?_
        cases c0 : possAt j 0 0
        · rw [c0] at hval
          have hrow' : rowV j 0 (0 + 1) = .blk 1 [[.int .i64 (-1)]] := by rw [hrow, hval]; rfl
          simp
          refine ⟨0 + 1, by omega, by omega, by simp [jobC_eq], hw1, ?_⟩
          simp only [hrow', hw1]
          simp
        · rw [c0] at hval
          have hrow' : rowV j 0 (0 + 1) = .blk 1 [[.int .i64 (costF j (valN j) 0 0)]] := by rw [hrow, hval]; simp
          simp
          refine callW_of hnd (.inl rfl) ?_
          simp
          refine ⟨0 + 1, by omega, by omega, by simp [jobC_eq], hw1, ?_⟩
          simp only [hrow', hw1]
          simp
      | succ s =>
        simp [jobC_eq, rowE]
        refine brB_of (fun h1 => ?_) (fun h1 => ?_) <;> simp at h1 <;> simp [h1]
        · have hs1 : s + 1 < j.secs.length := by omega
          have hw1 : IntKind.wrap .i64 ((s : Int) + 1 + 1) = ((s + 1 + 1 : Nat) : Int) := wrap_i64 (by omega) (by omega)
          have hp := rPossible_c hC j hv 0 (s + 1) (by omega) hs1
          have hnd := rneededU_c hC j hv true (valsP j 0) 0 (s + 1) (by omega) hs1 hU hB
          rw [valsP_cost hv] at hnd
          have hval := valN_at hv (i := 0) (s := s + 1) (by omega) hs1
          have hrow : rowV j 0 (s + 1 + 1) = .blk 1 ((((valN j 0).take (s + 1)).map fun v => [D.int .i64 v]) ++ [[.int .i64 ((valN j 0)[s + 1]!)]]) := by
            rw [rowV_eq]
            have hl : s + 1 < (valN j 0).length := by omega
            rw [List.take_succ_eq_append_getElem hl, getElem!_pos _ (s + 1) hl, List.map_append]
            rfl
          simp [jobC_eq] at hp hnd
          refine callW_of hp (.inl rfl) ?_
          cases c0 : possAt j 0 (s + 1)
          · rw [c0] at hval
            have hrow' : rowV j 0 (s + 1 + 1) = .blk 1 ((((valN j 0).take (s + 1)).map fun v => [D.int .i64 v]) ++ [[.int .i64 (-1)]]) := by rw [hrow, hval]; rfl
            simp [rowV_eq]
            have hm : List.take (s + 1 + 1) (List.map (fun v => [D.int .i64 v]) (valN j (0))) = List.take (s + 1) (List.map (fun v => [D.int .i64 v]) (valN j (0))) ++ [[D.int .i64 (-1)]] := by
              have hl : s + 1 < (valN j (0)).length := by omega
              rw [List.take_succ_eq_append_getElem (by simpa using hl), List.getElem_map, ← getElem!_pos _ (s + 1) hl, hval]
              simp
            refine ⟨by omega, by omega, s + 1 + 1, by omega, by omega, by simp [jobC_eq], hw1, ?_⟩
            simp [hw1, List.take_take, hm]
          · rw [c0] at hval
            have hrow' : rowV j 0 (s + 1 + 1) = .blk 1 ((((valN j 0).take (s + 1)).map fun v => [D.int .i64 v]) ++ [[.int .i64 (costF j (valN j) 0 (s + 1))]]) := by rw [hrow, hval]; simp
            simp
            refine callW_of hnd (.inl rfl) ?_
            simp [rowV_eq]
            have hm : List.take (s + 1 + 1) (List.map (fun v => [D.int .i64 v]) (valN j (0))) = List.take (s + 1) (List.map (fun v => [D.int .i64 v]) (valN j (0))) ++ [[D.int .i64 (costF j (valN j) (0) (s + 1))]] := by
              have hl : s + 1 < (valN j (0)).length := by omega
              rw [List.take_succ_eq_append_getElem (by simpa using hl), List.getElem_map, ← getElem!_pos _ (s + 1) hl, hval]
              simp
            refine ⟨by omega, by omega, s + 1 + 1, by omega, by omega, by simp [jobC_eq], hw1, ?_⟩
            simp [hw1, List.take_take, hm]
        · have hsm : s + 1 = j.secs.length := by omega
          have hall : List.take (s + 1) (List.map (fun v => [D.int .i64 v]) (valN j (0))) = List.map (fun v => [D.int .i64 v]) (valN j (0)) := List.take_of_length_le (by simp; omega)
          simp [rowV_eq]
          refine ⟨by omega, fun e he c hc => ?_, 0 + 1, by omega, by omega, by simp [jobC_eq], hw, ?_⟩
          · rw [hall] at he
            obtain ⟨v, _, rfl⟩ := List.mem_map.1 he
            simp at hc; subst hc; rfl
          · have hw' := hw
            simp at hw'
            simp [hall, outV_eq, hw', List.range_succ]
    · simp [slx, valsP]
  | succ i =>
    simp [jobC_eq, outE]
    refine brB_of (fun h => ?_) (fun h => ?_) <;> simp at h <;> simp [h]
    · have hw : IntKind.wrap .i64 (((i : Int) + 1) + 1) = ((i + 1 + 1 : Nat) : Int) := wrap_i64 (by first | omega | (push_cast; omega)) (by omega)
      refine loop_of Nat (fun s => (1, .ptr (jobC j)) :: (3, .ref (.r 10048) 0 (i + 1)) :: (10048, outV j (i + 1)) :: (4, .int .i64 ((i : Int) + 1)) :: (6, .int .i64 s) :: rowE j (i + 1) s) (fun s => s ≤ j.secs.length) (fun s => j.secs.length - s) 0 (by simp) (by simp [jobC_eq, rowE]) ?_
      rintro s hs
      have hB := valsP_bd hv hn (i := i + 1) (by omega)
      have hU := valsP_up hv (i := i + 1) (by omega)
      have hvl : (valN j (i + 1)).length = j.secs.length := valN_len (by omega)
      cases s with
      | zero =>
        simp [jobC_eq, rowE]
        refine brB_of (fun h1 => ?_) (fun h1 => ?_) <;> simp at h1 <;> simp [h1]
        case refine_2 => simp [h1] at hs0
        have hw1 : IntKind.wrap .i64 1 = ((0 + 1 : Nat) : Int) := wrap_i64 rfl (by omega)
        have hp := rPossible_c hC j hv (i + 1) 0 (by omega) hs0
        have hnd := rneededU_c hC j hv false (valsP j (i + 1)) (i + 1) 0 (by omega) hs0 hU hB
        rw [valsP_cost hv] at hnd
        have hval := valN_at hv (i := i + 1) (s := 0) (by omega) hs0
        have hrow : rowV j (i + 1) (0 + 1) = .blk 1 [[.int .i64 ((valN j (i + 1))[0]!)]] := by
          rw [rowV_eq]
          have hl : 0 < (valN j (i + 1)).length := by omega
          rw [List.take_succ_eq_append_getElem hl, getElem!_pos _ 0 hl]
          simp
        simp [jobC_eq] at hp hnd
        refine callW_of hp (.inl rfl) ?_
        cases c0 : possAt j (i + 1) 0
        · rw [c0] at hval
          have hrow' : rowV j (i + 1) (0 + 1) = .blk 1 [[.int .i64 (-1)]] := by rw [hrow, hval]; rfl
          simp
          refine ⟨0 + 1, by omega, by omega, by simp [jobC_eq], hw1, ?_⟩
          simp only [hrow', hw1]
          simp
        · rw [c0] at hval
          have hrow' : rowV j (i + 1) (0 + 1) = .blk 1 [[.int .i64 (costF j (valN j) (i + 1) 0)]] := by rw [hrow, hval]; simp
          simp [outV_eq, valsP]
          refine callW_of (d := .int .i64 (costF j (valN j) (i + 1) 0)) (by simpa [valsP, Function.comp_def] using hnd) (.inl rfl) ?_
          simp
          refine ⟨0 + 1, by omega, by omega, by simp [jobC_eq], rfl, hw1, ?_⟩
          simp only [hrow', hw1]
          simp
      | succ s =>
        simp [jobC_eq, rowE]
        refine brB_of (fun h1 => ?_) (fun h1 => ?_) <;> simp at h1 <;> simp [h1]
        · have hs1 : s + 1 < j.secs.length := by omega
          have hw1 : IntKind.wrap .i64 ((s : Int) + 1 + 1) = ((s + 1 + 1 : Nat) : Int) := wrap_i64 (by omega) (by omega)
          have hp := rPossible_c hC j hv (i + 1) (s + 1) (by omega) hs1
          have hnd := rneededU_c hC j hv false (valsP j (i + 1)) (i + 1) (s + 1) (by omega) hs1 hU hB
          rw [valsP_cost hv] at hnd
          have hval := valN_at hv (i := i + 1) (s := s + 1) (by omega) hs1
          have hrow : rowV j (i + 1) (s + 1 + 1) = .blk 1 ((((valN j (i + 1)).take (s + 1)).map fun v => [D.int .i64 v]) ++ [[.int .i64 ((valN j (i + 1))[s + 1]!)]]) := by
            rw [rowV_eq]
            have hl : s + 1 < (valN j (i + 1)).length := by omega
            rw [List.take_succ_eq_append_getElem hl, getElem!_pos _ (s + 1) hl, List.map_append]
            rfl
          simp [jobC_eq] at hp hnd
          refine callW_of hp (.inl rfl) ?_
          cases c0 : possAt j (i + 1) (s + 1)
          · rw [c0] at hval
            have hrow' : rowV j (i + 1) (s + 1 + 1) = .blk 1 ((((valN j (i + 1)).take (s + 1)).map fun v => [D.int .i64 v]) ++ [[.int .i64 (-1)]]) := by rw [hrow, hval]; rfl
            simp [rowV_eq]
            have hm : List.take (s + 1 + 1) (List.map (fun v => [D.int .i64 v]) (valN j (i + 1))) = List.take (s + 1) (List.map (fun v => [D.int .i64 v]) (valN j (i + 1))) ++ [[D.int .i64 (-1)]] := by
              have hl : s + 1 < (valN j (i + 1)).length := by omega
              rw [List.take_succ_eq_append_getElem (by simpa using hl), List.getElem_map, ← getElem!_pos _ (s + 1) hl, hval]
              simp
            refine ⟨by omega, by omega, s + 1 + 1, by omega, by omega, by simp [jobC_eq], hw1, ?_⟩
            simp [hw1, List.take_take, hm]
          · rw [c0] at hval
            have hrow' : rowV j (i + 1) (s + 1 + 1) = .blk 1 ((((valN j (i + 1)).take (s + 1)).map fun v => [D.int .i64 v]) ++ [[.int .i64 (costF j (valN j) (i + 1) (s + 1))]]) := by rw [hrow, hval]; simp
            simp [outV_eq, valsP]
            refine callW_of (d := .int .i64 (costF j (valN j) (i + 1) (s + 1))) (by simpa [valsP, Function.comp_def] using hnd) (.inl rfl) ?_
            simp [rowV_eq]
            have hm : List.take (s + 1 + 1) (List.map (fun v => [D.int .i64 v]) (valN j (i + 1))) = List.take (s + 1) (List.map (fun v => [D.int .i64 v]) (valN j (i + 1))) ++ [[D.int .i64 (costF j (valN j) (i + 1) (s + 1))]] := by
              have hl : s + 1 < (valN j (i + 1)).length := by omega
              rw [List.take_succ_eq_append_getElem (by simpa using hl), List.getElem_map, ← getElem!_pos _ (s + 1) hl, hval]
              simp
            refine ⟨by omega, by omega, s + 1 + 1, by omega, by omega, by simp [jobC_eq], rfl, hw1, ?_⟩
            simp [hw1, List.take_take, hm]
        · have hsm : s + 1 = j.secs.length := by omega
          have hall : List.take (s + 1) (List.map (fun v => [D.int .i64 v]) (valN j (i + 1))) = List.map (fun v => [D.int .i64 v]) (valN j (i + 1)) := List.take_of_length_le (by simp; omega)
          simp [rowV_eq, outV_eq]
          refine ⟨by omega, fun e he c hc => ?_, by omega, i + 1 + 1, by omega, by omega, by simp [jobC_eq], hw, ?_⟩
          · rw [hall] at he
            obtain ⟨v, _, rfl⟩ := List.mem_map.1 he
            simp at hc; subst hc; rfl
          · simp [hall, outV_eq, hw, List.range_succ]
    · have hne : ¬ j.below.l = [] := fun e => by rw [e] at h hi; simp at hi
      have hin : i + 1 = j.below.l.length := by omega
      simp [outV_eq, hne, valsP, Function.comp_def, ← hin]
end Go.Gv
