/-
  Texts of the proof: V4, Z4, Z5, Z6, I3, Z7, Z8, Z9, Z10, Z11.
-/
import Derived.Test.YteemogpcmjekhaaDoorX6
import Derived.Test.YteemogpcmjekhaaDoorX5
set_option linter.all false
set_option linter.unusedSimpArgs false
namespace Go.Gv
theorem idxD_at {α : Type} {p : α → Bool} {xs : List α} {i : Nat} (h : idxD p xs = (i : Int)) : ∃ h : i < xs.length, p xs[i] = true := by
  unfold idxD at h
  cases e : xs.findIdx? p with
  | none => rw [e] at h; simp at h
  | some k =>
    rw [e] at h
    have h : k = i := by have h : (k : Int) = (i : Int) := h; omega
    subst h
    rw [List.findIdx?_eq_some_iff_getElem] at e
    exact ⟨e.1, e.2.1⟩
theorem nb_side {m : Msh} {i k : Nat} (h : 0 ≤ nbF m i k) : ∃ c, c < 3 ∧ crn (fce m (nbF m i k).toNat) c = crn (fce m i) (k + 1) ∧ crn (fce m (nbF m i k).toNat) (c + 1) = crn (fce m i) k := by
  have e : nbF m i k = ((nbF m i k).toNat : Int) := by omega
  have h2 : idxD (fun f => hasSd f (crn (fce m i) (k + 1)) (crn (fce m i) k)) m.f = ((nbF m i k).toNat : Int) := e
  obtain ⟨h3, h4⟩ := idxD_at h2
  rw [fce_g] at h4
  simp only [hasSd, List.any_eq_true, List.mem_range, Bool.and_eq_true, decide_eq_true_eq] at h4
  exact h4
theorem turn_rotX (a b c : Pnt) : turnP a b c = turnP b c a := by
  obtain ⟨a1, a2⟩ := a
  obtain ⟨b1, b2⟩ := b
  obtain ⟨c1, c2⟩ := c
  simp only [turnP, Int.sub_mul, Int.mul_sub]
  have e1 := Int.mul_comm b1 b2
  have e2 := Int.mul_comm b1 c2
  have e3 := Int.mul_comm a1 c2
  have e4 := Int.mul_comm b1 a2
  have e5 := Int.mul_comm a1 b2
  have e6 := Int.mul_comm c1 b2
  have e7 := Int.mul_comm c1 a2
  have e8 := Int.mul_comm a1 a2
  omega
theorem turn_anti (a b c : Pnt) : turnP b a c = -turnP a b c := by
  obtain ⟨a1, a2⟩ := a
  obtain ⟨b1, b2⟩ := b
  obtain ⟨c1, c2⟩ := c
  simp only [turnP, Int.sub_mul, Int.mul_sub]
  have e1 := Int.mul_comm b1 b2
  have e2 := Int.mul_comm b1 c2
  have e3 := Int.mul_comm a1 c2
  have e4 := Int.mul_comm b1 a2
  have e5 := Int.mul_comm a1 b2
  have e6 := Int.mul_comm c1 b2
  have e7 := Int.mul_comm c1 a2
  have e8 := Int.mul_comm a1 a2
  omega
/-- A corner's point. -/
def cpt (m : Msh) (f : Fce) (k : Nat) : Pnt := ptS (spt m (crn f k).toNat)
theorem cpt_turn {m : Msh} (hv : validM m = true) {i k : Nat} (hi : i < m.f.length) (hk : k < 3) : ∃ x : Pnt, 0 < turnP (cpt m (fce m i) k) (cpt m (fce m i) (k + 1)) x ∧
    cenX m i = (cpt m (fce m i) k).1 + (cpt m (fce m i) (k + 1)).1 + x.1 ∧ cenY m i = (cpt m (fce m i) k).2 + (cpt m (fce m i) (k + 1)).2 + x.2 := by
  have h := (valid_f hv hi).2
  have h : 0 < turnP (cpt m (fce m i) 0) (cpt m (fce m i) 1) (cpt m (fce m i) 2) := h
  have ex : cenX m i = (cpt m (fce m i) 0).1 + (cpt m (fce m i) 1).1 + (cpt m (fce m i) 2).1 := rfl
  have ey : cenY m i = (cpt m (fce m i) 0).2 + (cpt m (fce m i) 1).2 + (cpt m (fce m i) 2).2 := rfl
  have e3 : cpt m (fce m i) 3 = cpt m (fce m i) 0 := rfl
  rcases (by omega : k = 0 ∨ k = 1 ∨ k = 2) with rfl | rfl | rfl
  · exact ⟨_, h, ex, ey⟩
  · rw [turn_rotX] at h
    exact ⟨cpt m (fce m i) 0, h, by show _ = (cpt m (fce m i) 1).1 + (cpt m (fce m i) 2).1 + _; rw [ex]; omega, by show _ = (cpt m (fce m i) 1).2 + (cpt m (fce m i) 2).2 + _; rw [ey]; omega⟩
  · rw [turn_rotX, turn_rotX] at h
    exact ⟨cpt m (fce m i) 1, by rw [e3]; exact h, by rw [ex, e3]; omega, by rw [ey, e3]; omega⟩
theorem sq_pos {a : Int} (h : a ≠ 0) : 0 < a * a := by
  rcases (by omega : 0 < a ∨ a < 0) with h1 | h1
  · exact Int.mul_pos h1 h1
  · exact Int.mul_pos_of_neg_of_neg h1 h1
/-- Neighbours' points differ. -/
theorem den_pos {m : Msh} (hv : validM m = true) {i k : Nat} (hi : i < m.f.length) (hk : k < 3) (h : 0 ≤ nbF m i k) : 0 < denF m i (nbF m i k).toNat := by
  have hb := nbF_bd m i k
  obtain ⟨c, hc, c1, c2⟩ := nb_side h
  obtain ⟨j, hj⟩ : ∃ j, j = (nbF m i k).toNat := ⟨_, rfl⟩
  rw [← hj] at c1 c2 ⊢
  obtain ⟨x, x1, x2, x3⟩ := cpt_turn hv hi hk
  obtain ⟨y, y1, y2, y3⟩ := cpt_turn hv (i := j) (by omega) hc
  have d1 : cpt m (fce m j) c = cpt m (fce m i) (k + 1) := by unfold cpt; rw [c1]
  have d2 : cpt m (fce m j) (c + 1) = cpt m (fce m i) k := by unfold cpt; rw [c2]
  rw [d1, d2] at y1 y2 y3
  obtain ⟨A, hA⟩ : ∃ A, A = cpt m (fce m i) k := ⟨_, rfl⟩
  obtain ⟨B, hB⟩ : ∃ B, B = cpt m (fce m i) (k + 1) := ⟨_, rfl⟩
  rw [← hA, ← hB] at x1 x2 x3 y1 y2 y3
  have n1 := sq_nn (cenX m i - cenX m j)
  have n2 := sq_nn (cenY m i - cenY m j)
  unfold denF
  by_cases e1 : cenX m i - cenX m j = 0
  · by_cases e2 : cenY m i - cenY m j = 0
    · exfalso
      have : x = y := Prod.ext (by omega) (by omega)
      subst this
      rw [turn_anti] at y1
      omega
    · have := sq_pos e2
      omega
  · have := sq_pos e1
    omega
end Go.Gv

set_option linter.unusedSimpArgs false
namespace Go.Gv
/-- The turns of a face's sides and a point. -/
def tn0 (m : Msh) (i : Nat) (p : Pnt) : Int := turnP (ptS (spA m i)) (ptS (spB m i)) p
def tn1 (m : Msh) (i : Nat) (p : Pnt) : Int := turnP (ptS (spB m i)) (ptS (spC m i)) p
def tn2 (m : Msh) (i : Nat) (p : Pnt) : Int := turnP (ptS (spC m i)) (ptS (spA m i)) p
/-- The first side on the right of which a point is. -/
def osF (m : Msh) (i : Nat) (p : Pnt) : Int := if tn0 m i p < 0 then 0 else if tn1 m i p < 0 then 1 else if tn2 m i p < 0 then 2 else -1
/-- The face of a point. -/
def fndF (m : Msh) (p : Pnt) : Int := idxD (fun i => decide (osF m i p < 0)) (List.range m.f.length)
theorem osF_bd (m : Msh) (i : Nat) (p : Pnt) : osF m i p = -1 ∨ osF m i p = 0 ∨ osF m i p = 1 ∨ osF m i p = 2 := by
  unfold osF
  split
  · simp
  · split
    · simp
    · split <;> simp
theorem fndF_bd (m : Msh) (p : Pnt) : fndF m p < m.f.length ∧ -1 ≤ fndF m p := by
  have := idxD_bd (fun i => decide (osF m i p < 0)) (List.range m.f.length)
  rw [List.length_range] at this
  exact ⟨this.2, this.1⟩
theorem fndF_on {m : Msh} {p : Pnt} (h : 0 ≤ fndF m p) : (fndF m p).toNat < m.f.length ∧ osF m (fndF m p).toNat p < 0 := by
  have e : fndF m p = ((fndF m p).toNat : Int) := by omega
  obtain ⟨h1, h2⟩ := idxD_at (p := fun i => decide (osF m i p < 0)) (xs := List.range m.f.length) e
  simp at h1 h2
  exact ⟨h1, h2⟩
theorem osF_on {m : Msh} {i : Nat} {p : Pnt} (h : osF m i p < 0) : 0 ≤ tn0 m i p ∧ 0 ≤ tn1 m i p ∧ 0 ≤ tn2 m i p := by
  unfold osF at h
  split at h
  · omega
  · split at h
    · omega
    · split at h
      · omega
      · omega
def cor9 (m : Msh) (i : Nat) : List D := [.int .i64 (spA m i).x, .int .i64 (spA m i).y, .int .i64 (spA m i).z, .int .i64 (spB m i).x, .int .i64 (spB m i).y, .int .i64 (spB m i).z, .int .i64 (spC m i).x, .int .i64 (spC m i).y, .int .i64 (spC m i).z]
theorem cor9_eq (m : Msh) (i : Nat) : cor9 m i = [.int .i64 (spA m i).x, .int .i64 (spA m i).y, .int .i64 (spA m i).z, .int .i64 (spB m i).x, .int .i64 (spB m i).y, .int .i64 (spB m i).z, .int .i64 (spC m i).x, .int .i64 (spC m i).y, .int .i64 (spC m i).z] := _root_.id rfl
theorem sp_okP {m : Msh} (hv : validM m = true) {i : Nat} (hi : i < m.f.length) : okP (ptS (spA m i)) = true ∧ okP (ptS (spB m i)) = true ∧ okP (ptS (spC m i)) = true := by
  obtain ⟨h1, h2, h3⟩ := sp_bd hv hi
  exact ⟨okP_of h1, okP_of h2, okP_of h3⟩
@[simp] theorem ptD_len (p : Pnt) : (ptD p).length = 2 := _root_.id rfl
@[simp] theorem ptD_take (p : Pnt) : List.take 2 (ptD p) = ptD p := _root_.id rfl
@[simp] theorem ptD_v (p : Pnt) : (∀ x, x ∈ ptD p → isV x = true) = True := by simp [ptD]
@[simp] theorem ptD_c (p : Pnt) : (∀ x, x ∈ ptD p → isC1 x = true) = True := by simp [ptD]
variable {C : CC} (hC : Closed prog C)
include hC
theorem lcorners_c (m : Msh) (i : Nat) (hi : i < m.f.length) (h : inS m (fce m i) = true) : C 319 [.agg (mshC m), .int .i64 i] (.agg (cor9 m i)) [] := by
  obtain ⟨⟨a1, a2⟩, ⟨b1, b2⟩, ⟨c1, c2⟩⟩ := inS_bd h
  refine start hC (nf := N319_locate_corners) rfl rfl ?_
  simp [N319_locate_corners, mshC_eq, hi, fceC_eq, a1, a2, b1, b2, c1, c2, sptC_eq, cor9, spA, spB, spC]
  exact indW_of (by decide +kernel)
theorem lat_c (s : Spt) : C 321 [.agg (sptC s)] (.agg (ptD (ptS s))) [] := by
  refine start hC (nf := N321_locate_at) rfl rfl ?_
  simp [N321_locate_at, sptC, ptD, ptS]
theorem lturn_c {a b c : Pnt} (ha : okP a = true) (hb : okP b = true) (hc : okP c = true) : C 320 [.agg (ptD a), .agg (ptD b), .agg (ptD c)] (.int .i64 (turnP a b c)) [] := by
  have := okP_bd ha
  have := okP_bd hb
  have := okP_bd hc
  have h4 := turn_bd ha hb hc
  refine start hC (nf := N320_locate_turn) rfl rfl ?_
  have w1 : IntKind.wrap .i64 (b.1 - a.1) = b.1 - a.1 := wrap_i64 rfl (by omega)
  have w2 : IntKind.wrap .i64 (c.2 - a.2) = c.2 - a.2 := wrap_i64 rfl (by omega)
  have w3 : IntKind.wrap .i64 (b.2 - a.2) = b.2 - a.2 := wrap_i64 rfl (by omega)
  have w4 : IntKind.wrap .i64 (c.1 - a.1) = c.1 - a.1 := wrap_i64 rfl (by omega)
  have w5 : IntKind.wrap .i64 ((b.1 - a.1) * (c.2 - a.2)) = (b.1 - a.1) * (c.2 - a.2) := wrap_i64 rfl (by omega)
  have w6 : IntKind.wrap .i64 ((b.2 - a.2) * (c.1 - a.1)) = (b.2 - a.2) * (c.1 - a.1) := wrap_i64 rfl (by omega)
  have w7 : IntKind.wrap .i64 ((b.1 - a.1) * (c.2 - a.2) - (b.2 - a.2) * (c.1 - a.1)) = turnP a b c := wrap_i64 rfl (by rw [turnP]; omega)
  simp [N320_locate_turn, ptD, w1, w2, w3, w4, w5, w6, w7]
set_option maxHeartbeats 2000000 in
theorem louter_c (m : Msh) (hv : validM m = true) (i : Nat) (hi : i < m.f.length) (p : Pnt) (hp : okP p = true) : C 284 [.agg (mshC m), .int .i64 i, .agg (ptD p)] (.int .i64 (osF m i p)) [] := by
  obtain ⟨oa, ob, oc⟩ := sp_okP hv hi
  have k0 := lcorners_c hC m i hi (valid_in hv hi)
  have ka := lat_c hC (spA m i)
  have kb := lat_c hC (spB m i)
  have kc := lat_c hC (spC m i)
  have t0 : C 320 [.agg (ptD (ptS (spA m i))), .agg (ptD (ptS (spB m i))), .agg (ptD p)] (.int .i64 (tn0 m i p)) [] := lturn_c hC oa ob hp
  have t1 : C 320 [.agg (ptD (ptS (spB m i))), .agg (ptD (ptS (spC m i))), .agg (ptD p)] (.int .i64 (tn1 m i p)) [] := lturn_c hC ob oc hp
  have t2 : C 320 [.agg (ptD (ptS (spC m i))), .agg (ptD (ptS (spA m i))), .agg (ptD p)] (.int .i64 (tn2 m i p)) [] := lturn_c hC oc oa hp
  have w1 : IntKind.wrap .i64 1 = 1 := by decide
  have w2 : IntKind.wrap .i64 2 = 2 := by decide
  have w3 : IntKind.wrap .i64 3 = 3 := by decide
  have m1 : Int.tmod 1 3 = 1 := by decide
  have m2 : Int.tmod 2 3 = 2 := by decide
  have m3 : Int.tmod 3 3 = 0 := by decide
  simp only [mshC_eq, sptC_eq, cor9_eq] at k0 ka kb kc
  refine start hC (nf := N284_locate_outer) rfl rfl ?_
  simp [N284_locate_outer, mshC_eq]
  refine callW_of k0 (.inl rfl) ?_
  simp
  refine loop_of Nat (fun k => [(5, .ptr (ptD p)), (7, .adr (.r 10112) 0 0), (12, .int .i64 k), (10112, .blk 9 [cor9 m i])]) (fun k => k ≤ 3 ∧ (1 ≤ k → ¬ tn0 m i p < 0) ∧ (2 ≤ k → ¬ tn1 m i p < 0) ∧ (3 ≤ k → ¬ tn2 m i p < 0)) (fun k => 3 - k) 0 (by simp) (by simp [cor9_eq]) ?_
  rintro k ⟨hk, h0, h1, h2⟩
  rcases (by omega : k = 0 ∨ k = 1 ∨ k = 2 ∨ k = 3) with rfl | rfl | rfl | rfl
  · simp [cor9_eq, w1]
    refine callW_of ka (.inl rfl) ?_
    simp [w1, m1]
    refine callW_of kb (.inl rfl) ?_
    simp
    refine callW_of t0 (.inl rfl) ?_
    simp
    refine ⟨indW_of (by decide +kernel), ?_⟩
    refine brB_of (fun c => ?_) (fun c => ?_) <;> simp at c
    · simp [c, osF]
    · simp [c]
      exact ⟨1, by omega, by omega, by simp [cor9_eq, w1]⟩
  · have h0 := h0 (by omega)
    simp [cor9_eq, w2]
    refine callW_of kb (.inl rfl) ?_
    simp [w2, m2]
    refine callW_of kc (.inl rfl) ?_
    simp
    refine callW_of t1 (.inl rfl) ?_
    simp
    refine ⟨indW_of (by decide +kernel), ?_⟩
    refine brB_of (fun c => ?_) (fun c => ?_) <;> simp at c
    · simp [c, osF, h0]
    · simp [c]
      exact ⟨2, by omega, by omega, by simp [cor9_eq, w2]⟩
  · have h0 := h0 (by omega)
    have h1 := h1 (by omega)
    simp [cor9_eq, w3]
    refine callW_of kc (.inl rfl) ?_
    simp [w3, m3]
    refine callW_of ka (.inl rfl) ?_
    simp
    refine callW_of t2 (.inl rfl) ?_
    simp
    refine ⟨indW_of (by decide +kernel), ?_⟩
    refine brB_of (fun c => ?_) (fun c => ?_) <;> simp at c
    · simp [c, osF, h0, h1]
    · simp [c]
      exact ⟨3, by omega, by omega, by simp [cor9_eq, w3]⟩
  · have h0 := h0 (by omega)
    have h1 := h1 (by omega)
    have h2 := h2 (by omega)
    simp [osF, h0, h1, h2]
set_option maxHeartbeats 2000000 in
theorem lfind_c (m : Msh) (hv : validM m = true) (hm : m.f.length ≤ 100) (p : Pnt) (hp : okP p = true) : C 276 [.agg (mshC m), .agg (ptD p)] (.int .i64 (fndF m p)) [] := by
  have ko := fun i hi => louter_c hC m hv i hi p hp
  simp only [mshC_eq] at ko
  refine start hC (nf := N276_locate_find) rfl rfl ?_
  simp [N276_locate_find, mshC_eq]
  refine loop_of Nat (fun i => [(2, .ptr (mshC m)), (3, .ptr (ptD p)), (8, .int .i64 m.f.length), (9, .int .i64 i)]) (fun i => i ≤ m.f.length ∧ ∀ j, j < i → ¬ osF m j p < 0) (fun i => m.f.length - i) 0 (by simp) (by simp [mshC_eq]) ?_
  rintro i ⟨hi, hj⟩
  simp [mshC_eq]
  refine brB_of (fun g1 => ?_) (fun g1 => ?_) <;> simp at g1 <;> simp [g1]
  · have hw : IntKind.wrap .i64 ((i : Int) + 1) = ((i + 1 : Nat) : Int) := wrap_i64 (by omega) (by omega)
    refine callW_of (ko i g1) (.inl rfl) ?_
    simp
    refine brB_of (fun c => ?_) (fun c => ?_) <;> simp at c
    · simp [c]
      refine (idxD_step (fun j hl hji => ?_) (by simpa using g1) ?_).symm
      · have := hj j hji
        simpa using this
      · simpa using c
    · simp [c]
      refine ⟨i + 1, ⟨by omega, fun j hji => ?_⟩, by omega, by simp [mshC_eq, hw]⟩
      rcases Nat.lt_succ_iff_lt_or_eq.1 hji with h | rfl
      · exact Int.not_lt.1 (hj j h)
      · exact c
  · refine (idxD_none (fun j hl => ?_)).symm
    rw [List.length_range] at hl
    have := hj j (by omega)
    simpa using this
theorem idxPnt_c {b : Bool} {xs : List Pnt} {g : Nat} {cs : List D} (p : Pnt → Bool) (hs : xs.length < 2 ^ 62) (hp : ∀ x ∈ xs, C g (.agg (ptD x) :: cs) (.bool (p x)) []) : C 278 [slx b (xs.map fun x => ptD x), .fn g cs] (.int .i64 (idxD p xs)) [] := by
  refine start hC (nf := N278_slices_IndexFunc__api_Point_api_Point) rfl rfl ?_
  simp [N278_slices_IndexFunc__api_Point_api_Point]
  refine loop_of Nat (fun i => [(0, slx b (xs.map fun x => ptD x)), (1, .fn g cs), (7, .int .i64 xs.length), (8, .int .i64 i)]) (fun i => i ≤ xs.length ∧ ∀ (j : Nat) (h : j < xs.length), j < i → p xs[j] = false) (fun i => xs.length - i) 0 (by simp) (by simp) ?_
  rintro i ⟨hi, hj⟩
  simp
  refine brB_of (fun h => ?_) (fun h => ?_) <;> simp [h] <;> simp at h
  · have hw : IntKind.wrap .i64 ((i : Int) + 1) = ((i + 1 : Nat) : Int) := wrap_i64 (by omega) (by omega)
    have hc := hp _ (List.getElem_mem h)
    simp [h, ptD] at hc ⊢
    refine callW_of hc (.inl rfl) ?_
    simp
    refine brB_of (fun h1 => ?_) (fun h1 => ?_) <;> simp [h1, hw]
    · rw [idxD_step hj h h1]
    · refine ⟨i + 1, ⟨by omega, fun j hl hjj => ?_⟩, by omega, rfl⟩
      rcases Nat.lt_succ_iff_lt_or_eq.1 hjj with h2 | rfl
      · exact hj j hl h2
      · exact h1
  · rw [idxD_none (fun j hl => hj j hl (by omega))]
theorem hasPnt_c {b : Bool} {xs : List Pnt} {g : Nat} {cs : List D} (p : Pnt → Bool) (hs : xs.length < 2 ^ 62) (hp : ∀ x ∈ xs, C g (.agg (ptD x) :: cs) (.bool (p x)) []) : C 239 [slx b (xs.map fun x => ptD x), .fn g cs] (.bool (xs.any p)) [] := by
  refine start hC (nf := N239_slices_ContainsFunc__api_Point_api_Point) rfl rfl ?_
  simp [N239_slices_ContainsFunc__api_Point_api_Point]
  refine callW_of (idxPnt_c hC p hs hp) (.inl rfl) ?_
  simp [idxD_any]
theorem lvalid1_c (p : Pnt) : C 312 [.agg (ptD p)] (.bool (!okP p)) [] := by
  have k := pValid_c hC p
  simp only [ptD] at k
  refine start hC (nf := N312_locate_valid_1) rfl rfl ?_
  simp [N312_locate_valid_1, ptD]
  refine callW_of k (.inl rfl) ?_
  simp
end Go.Gv

set_option linter.unusedSimpArgs false
namespace Go.Gv
def onE (m : Msh) (p : Pnt) : Int := if validM m = true ∧ okP p = true then (if fndF m p < 0 then 12 else 0) else 1
def onV (m : Msh) (p : Pnt) : Int := if onE m p = 0 then fndF m p else 0
theorem onE_at {m : Msh} {p : Pnt} (h : onE m p = 0) : validM m = true ∧ okP p = true ∧ 0 ≤ fndF m p := by
  unfold onE at h
  split at h
  · rename_i h1
    refine ⟨h1.1, h1.2, ?_⟩
    split at h
    · omega
    · omega
  · omega
/-- A walk: the rest of the steps, and the face. -/
def wlk (m : Msh) (p : Pnt) : Nat → Nat → Int × Int × Int
  | r, f => if osF m f p < 0 then ((f : Int), ((m.f.length - r : Nat) : Int), 0) else if nbF m f (osF m f p).toNat < 0 then (0, 0, 12) else match r with
    | 0 => (0, 0, 6)
    | r + 1 => wlk m p r (nbF m f (osF m f p).toNat).toNat
theorem wlk_on {m : Msh} {p : Pnt} {r f : Nat} (h : osF m f p < 0) : wlk m p r f = ((f : Int), ((m.f.length - r : Nat) : Int), 0) := by
  cases r <;> rw [wlk, if_pos h]
theorem wlk_none {m : Msh} {p : Pnt} {r f : Nat} (h : ¬ osF m f p < 0) (h2 : nbF m f (osF m f p).toNat < 0) : wlk m p r f = (0, 0, 12) := by
  cases r <;> rw [wlk, if_neg h, if_pos h2]
theorem wlk_lim {m : Msh} {p : Pnt} {f : Nat} (h : ¬ osF m f p < 0) (h2 : ¬ nbF m f (osF m f p).toNat < 0) : wlk m p 0 f = (0, 0, 6) := by
  rw [wlk, if_neg h, if_neg h2]
theorem wlk_go {m : Msh} {p : Pnt} {r f : Nat} (h : ¬ osF m f p < 0) (h2 : ¬ nbF m f (osF m f p).toNat < 0) : wlk m p (r + 1) f = wlk m p r (nbF m f (osF m f p).toNat).toNat := by
  rw [wlk, if_neg h, if_neg h2]
def wkR (m : Msh) (from_ : Int) (p : Pnt) : Int × Int × Int := if validM m = true ∧ okP p = true then (if inR1 m.f.length from_ = true then wlk m p m.f.length from_.toNat else (0, 0, 2)) else (0, 0, 1)
def trpD (t : Int × Int × Int) : D := .tup [.int .i64 t.1, .int .i64 t.2.1, .int .i64 t.2.2]
variable {C : CC} (hC : Closed prog C)
include hC
theorem lvalid_c (dec : Nat → List UInt8) (hI : ∀ n : Nat, n < 100 → C 127 [.int .i64 n] (.str (dec n)) []) (m : Msh) (hz : smallM m = true → m.s.length ≤ 100 ∧ m.f.length ≤ 100) (b : Bool) (ps : List Pnt) (hp : ps.length < 2 ^ 62) :
    C 275 [.agg (mshC m), slx b (ps.map fun x => ptD x)] (.bool (validM m && ps.all okP)) [] := by
  have k1 := mValid_c hC dec hI m hz
  have k2 := hasPnt_c hC (b := b) (xs := ps) (g := 312) (cs := []) (fun x => !okP x) hp (fun x _ => lvalid1_c hC x)
  have e : (ps.any fun x => !okP x) = !ps.all okP := by rw [List.all_eq_not_any_not, Bool.not_not]
  rw [e] at k2
  refine start hC (nf := N275_locate_valid) rfl rfl ?_
  simp only [mshC_eq] at k1
  simp [N275_locate_valid, mshC_eq]
  refine callW_of k1 (.inl rfl) ?_
  cases validM m
  · simp
  · simp
    refine callW_of k2 (.inl rfl) ?_
    simp
theorem lon_c (dec : Nat → List UInt8) (hI : ∀ n : Nat, n < 100 → C 127 [.int .i64 n] (.str (dec n)) []) (m : Msh) (hz : smallM m = true → m.s.length ≤ 100 ∧ m.f.length ≤ 100) (p : Pnt) :
    C 274 [.agg (mshC m), .agg (ptD p)] (.tup [.int .i64 (onV m p), .int .i64 (onE m p)]) [] := by
  have k1 := lvalid_c hC dec hI m hz false [p] (by simp)
  simp at k1
  refine start hC (nf := N274_locate_on) rfl rfl ?_
  simp only [mshC_eq] at k1
  simp only [ptD] at k1
  simp [N274_locate_on, mshC_eq, ptD]
  refine callW_of k1 (.inl rfl) ?_
  by_cases hv : validM m = true ∧ okP p = true
  · have hm := (hz (by have := hv.1; simp only [validM, Bool.and_eq_true] at this; exact this.1)).2
    have k2 := lfind_c hC m hv.1 hm p hv.2
    simp only [mshC_eq, ptD] at k2
    simp [hv.1, hv.2]
    refine callW_of k2 (.inl rfl) ?_
    simp
    refine brB_of (fun c => ?_) (fun c => ?_) <;> simp at c <;> simp [c, onE, onV, hv.1, hv.2]
  · have e : (validM m && okP p) = false := by
      cases h1 : validM m <;> cases h2 : okP p <;> simp [h1, h2] at hv ⊢
    simp [e, onE, onV, hv]
theorem lFace_c (dec : Nat → List UInt8) (hI : ∀ n : Nat, n < 100 → C 127 [.int .i64 n] (.str (dec n)) []) (m : Msh) (hz : smallM m = true → m.s.length ≤ 100 ∧ m.f.length ≤ 100) (p : Pnt) :
    C 235 [.agg (mshC m), .agg (ptD p)] (.tup [.int .i64 (onV m p), .int .i64 (onE m p)]) [] := by
  have k1 := lon_c hC dec hI m hz p
  refine start hC (nf := N235_locate_Face) rfl rfl ?_
  simp only [mshC_eq, ptD] at k1
  simp [N235_locate_Face, mshC_eq, ptD]
  refine callW_of k1 (.inl rfl) ?_
  simp
set_option maxHeartbeats 2000000 in
theorem lWalk_c (dec : Nat → List UInt8) (hI : ∀ n : Nat, n < 100 → C 127 [.int .i64 n] (.str (dec n)) []) (m : Msh) (hz : smallM m = true → m.s.length ≤ 100 ∧ m.f.length ≤ 100) (f0 : Int) (p : Pnt) :
    C 249 [.agg (mshC m), .int .i64 f0, .agg (ptD p)] (trpD (wkR m f0 p)) [] := by
  have k1 := lvalid_c hC dec hI m hz false [p] (by simp)
  simp at k1
  refine start hC (nf := N249_locate_Walk) rfl rfl ?_
  simp only [mshC_eq] at k1
  simp only [ptD] at k1
  simp [N249_locate_Walk, mshC_eq, ptD]
  refine callW_of k1 (.inl rfl) ?_
  by_cases hv : validM m = true ∧ okP p = true
  · have hm := (hz (by have := hv.1; simp only [validM, Bool.and_eq_true] at this; exact this.1)).2
    have kn := Neighbours_c hC dec hI m hz
    rw [hv.1] at kn
    have ko := fun i hi => louter_c hC m hv.1 i hi p hv.2
    simp only [mshC_eq, if_true] at kn
    simp only [mshC_eq, ptD] at ko
    simp [hv.1, hv.2]
    by_cases hr : inR1 m.f.length f0 = true
    · have e0 : wkR m f0 p = wlk m p m.f.length f0.toNat := by rw [wkR, if_pos hv, if_pos hr]
      have hr2 := hr
      simp only [inR1, Bool.and_eq_true, decide_eq_true_eq] at hr2
      obtain ⟨n, rfl⟩ : ∃ n : Nat, f0 = n := ⟨f0.toNat, by omega⟩
      have g1 : ¬ (n : Int) < 0 := by omega
      have g2 : ¬ (m.f.length : Int) ≤ n := by omega
      rw [e0]
      clear e0
      simp [g1, g2]
      refine callW_of kn (.inr rfl) ?_
      simp
      refine loop_of (Nat × Nat) (fun s => [(3, .ptr (mshC m)), (5, .ptr (ptD p)), (9, .sl (nbA m)), (11, .int .i64 s.2), (12, .int .i64 s.1)]) (fun s => s.1 ≤ m.f.length ∧ s.2 < m.f.length ∧ wlk m p (m.f.length - s.1) s.2 = wlk m p m.f.length n) (fun s => m.f.length - s.1) (0, n) ⟨by simp, by simp; omega, by simp⟩ (by simp [mshC_eq, ptD]) ?_
      rintro ⟨st, f⟩ ⟨h1, h2, h3⟩
      simp only at h1 h2 h3
      simp [mshC_eq, ptD]
      refine callW_of (ko f h2) (.inl rfl) ?_
      simp
      refine brB_of (fun c => ?_) (fun c => ?_) <;> simp at c
      · rw [wlk_on c] at h3
        simp [c]
        rw [← h3, trpD]
        simp only [show m.f.length - (m.f.length - st) = st by omega]
      · have hb := osF_bd m f p
        obtain ⟨k, hk⟩ : ∃ k : Nat, osF m f p = k := ⟨(osF m f p).toNat, by omega⟩
        have nb := nbF_bd m f k
        have ne : (nbA m)[f]? = some [.int .i64 (nbF m f 0), .int .i64 (nbF m f 1), .int .i64 (nbF m f 2)] := by simp [nbA, h2]
        have hkc : ¬ (k : Int) < 0 := by omega
        have hc : ¬ osF m f p < 0 := by omega
        simp [hk, h2, idxW_some ne]
        rcases (by omega : k = 0 ∨ k = 1 ∨ k = 2) with rfl | rfl | rfl
        · have e1 : (osF m f p).toNat = 0 := by omega
          have nbk := nbF_bd m f 0
          simp
          refine brB_of (fun d => ?_) (fun d => ?_) <;> simp at d
          · rw [wlk_none hc (by rw [e1]; exact d)] at h3
            simp [d]
            rw [← h3, trpD]
          · have d2 : ¬ nbF m f (osF m f p).toNat < 0 := by rw [e1]; omega
            have d3 : ¬ nbF m f 0 < 0 := by omega
            simp [d3]
            refine brB_of (fun q => ?_) (fun q => ?_) <;> simp at q
            · have hq : st = m.f.length := by omega
              subst hq
              rw [Nat.sub_self, wlk_lim hc d2] at h3
              simp
              rw [← h3, trpD]
            · have hq : ¬ (st : Int) = m.f.length := by omega
              have hw : IntKind.wrap .i64 ((st : Int) + 1) = ((st + 1 : Nat) : Int) := wrap_i64 (by omega) (by omega)
              rw [show m.f.length - st = (m.f.length - (st + 1)) + 1 by omega, wlk_go hc d2, e1] at h3
              simp [hq, h2, idxW_some ne, hw]
              refine ⟨st + 1, (nbF m f 0).toNat, ⟨by omega, by omega, h3⟩, by omega, ?_⟩
              simp [mshC_eq]
              omega
        · have e1 : (osF m f p).toNat = 1 := by omega
          have nbk := nbF_bd m f 1
          simp
          refine brB_of (fun d => ?_) (fun d => ?_) <;> simp at d
          · rw [wlk_none hc (by rw [e1]; exact d)] at h3
            simp [d]
            rw [← h3, trpD]
          · have d2 : ¬ nbF m f (osF m f p).toNat < 0 := by rw [e1]; omega
            have d3 : ¬ nbF m f 1 < 0 := by omega
            simp [d3]
            refine brB_of (fun q => ?_) (fun q => ?_) <;> simp at q
            · have hq : st = m.f.length := by omega
              subst hq
              rw [Nat.sub_self, wlk_lim hc d2] at h3
              simp
              rw [← h3, trpD]
            · have hq : ¬ (st : Int) = m.f.length := by omega
              have hw : IntKind.wrap .i64 ((st : Int) + 1) = ((st + 1 : Nat) : Int) := wrap_i64 (by omega) (by omega)
              rw [show m.f.length - st = (m.f.length - (st + 1)) + 1 by omega, wlk_go hc d2, e1] at h3
              simp [hq, h2, idxW_some ne, hw]
              refine ⟨st + 1, (nbF m f 1).toNat, ⟨by omega, by omega, h3⟩, by omega, ?_⟩
              simp [mshC_eq]
              omega
        · have e1 : (osF m f p).toNat = 2 := by omega
          have nbk := nbF_bd m f 2
          simp
          refine brB_of (fun d => ?_) (fun d => ?_) <;> simp at d
          · rw [wlk_none hc (by rw [e1]; exact d)] at h3
            simp [d]
            rw [← h3, trpD]
          · have d2 : ¬ nbF m f (osF m f p).toNat < 0 := by rw [e1]; omega
            have d3 : ¬ nbF m f 2 < 0 := by omega
            simp [d3]
            refine brB_of (fun q => ?_) (fun q => ?_) <;> simp at q
            · have hq : st = m.f.length := by omega
              subst hq
              rw [Nat.sub_self, wlk_lim hc d2] at h3
              simp
              rw [← h3, trpD]
            · have hq : ¬ (st : Int) = m.f.length := by omega
              have hw : IntKind.wrap .i64 ((st : Int) + 1) = ((st + 1 : Nat) : Int) := wrap_i64 (by omega) (by omega)
              rw [show m.f.length - st = (m.f.length - (st + 1)) + 1 by omega, wlk_go hc d2, e1] at h3
              simp [hq, h2, idxW_some ne, hw]
              refine ⟨st + 1, (nbF m f 2).toNat, ⟨by omega, by omega, h3⟩, by omega, ?_⟩
              simp [mshC_eq]
              omega
    · have e0 : wkR m f0 p = (0, 0, 2) := by rw [wkR, if_pos hv, if_neg hr]
      have hr2 : f0 < 0 ∨ (m.f.length : Int) ≤ f0 := by
        simp only [inR1, Bool.and_eq_true, decide_eq_true_eq] at hr
        omega
      rw [e0]
      by_cases g1 : f0 < 0
      · simp [g1, trpD]
      · have g2 : (m.f.length : Int) ≤ f0 := by omega
        simp [g1, g2, trpD]
  · have e : (validM m && okP p) = false := by
      cases h1 : validM m <;> cases h2 : okP p <;> simp [h1, h2] at hv ⊢
    simp [e, wkR, hv, trpD]
end Go.Gv

set_option linter.unusedSimpArgs false
namespace Go.Gv
open Go.Lib
/-- The numerator and the denominator of a level. -/
def numL (m : Msh) (i : Nat) (p : Pnt) : Int := (spA m i).z * tn1 m i p + (spB m i).z * tn2 m i p + (spC m i).z * tn0 m i p
def denL (m : Msh) (i : Nat) : Int := turnP (ptS (spA m i)) (ptS (spB m i)) (ptS (spC m i))
theorem tn_sum (m : Msh) (i : Nat) (p : Pnt) : tn0 m i p + tn1 m i p + tn2 m i p = denL m i := by
  unfold tn0 tn1 tn2 denL turnP ptS
  grind
theorem tn_rot1 (m : Msh) (i : Nat) (p : Pnt) : turnP p (ptS (spB m i)) (ptS (spC m i)) = tn1 m i p := by
  unfold tn1 turnP; grind
theorem tn_rot2 (m : Msh) (i : Nat) (p : Pnt) : turnP p (ptS (spC m i)) (ptS (spA m i)) = tn2 m i p := by
  unfold tn2 turnP; grind
theorem tn_rot0 (m : Msh) (i : Nat) (p : Pnt) : turnP p (ptS (spA m i)) (ptS (spB m i)) = tn0 m i p := by
  unfold tn0 turnP; grind
theorem tn_rot3 (m : Msh) (i : Nat) (p : Pnt) : turnP (ptS (spA m i)) p (ptS (spC m i)) = tn2 m i p := by
  unfold tn2 turnP; grind
theorem turnP_bd {a b c : Pnt} (ha : okP a = true) (hb : okP b = true) (hc : okP c = true) : -2251799813685248 ≤ turnP a b c ∧ turnP a b c ≤ 2251799813685248 := by
  have := turn_bd ha hb hc
  unfold turnP
  omega
/-- What is known of a point on a face. -/
structure OnF (m : Msh) (i : Nat) (p : Pnt) : Prop where
  z0 : -4194304 ≤ (spA m i).z ∧ (spA m i).z ≤ 4194304
  z1 : -4194304 ≤ (spB m i).z ∧ (spB m i).z ≤ 4194304
  z2 : -4194304 ≤ (spC m i).z ∧ (spC m i).z ≤ 4194304
  t0 : 0 ≤ tn0 m i p ∧ tn0 m i p ≤ 2251799813685248
  t1 : 0 ≤ tn1 m i p ∧ tn1 m i p ≤ 2251799813685248
  t2 : 0 ≤ tn2 m i p ∧ tn2 m i p ≤ 2251799813685248
  d : 0 < denL m i ∧ denL m i ≤ 2251799813685248
theorem onF_of {m : Msh} (hv : validM m = true) {i : Nat} (hi : i < m.f.length) {p : Pnt} (hp : okP p = true) (h : osF m i p < 0) : OnF m i p := by
  obtain ⟨oa, ob, oc⟩ := sp_okP hv hi
  obtain ⟨r1, r2, r3⟩ := sp_bd hv hi
  have := rightS_bd r1
  have := rightS_bd r2
  have := rightS_bd r3
  obtain ⟨n0, n1, n2⟩ := osF_on h
  have b0 : tn0 m i p ≤ 2251799813685248 := (turnP_bd oa ob hp).2
  have b1 : tn1 m i p ≤ 2251799813685248 := (turnP_bd ob oc hp).2
  have b2 : tn2 m i p ≤ 2251799813685248 := (turnP_bd oc oa hp).2
  have bd : denL m i ≤ 2251799813685248 := (turnP_bd oa ob oc).2
  have hd : 0 < denL m i := (valid_f hv hi).2
  exact ⟨by omega, by omega, by omega, by omega, by omega, by omega, by omega⟩
theorem mulz_bd {z t : Int} (hz : -4194304 ≤ z ∧ z ≤ 4194304) (ht : 0 ≤ t) : -(4194304 * t) ≤ z * t ∧ z * t ≤ 4194304 * t := by
  have h1 := Int.mul_nonneg (show 0 ≤ 4194304 - z by omega) ht
  have h2 := Int.mul_nonneg (show 0 ≤ 4194304 + z by omega) ht
  rw [Int.sub_mul] at h1
  rw [Int.add_mul] at h2
  omega
theorem OnF.num {m : Msh} {i : Nat} {p : Pnt} (h : OnF m i p) : -(4194304 * denL m i) ≤ numL m i p ∧ numL m i p ≤ 4194304 * denL m i := by
  have e := tn_sum m i p
  have h1 := mulz_bd h.z0 h.t1.1
  have h2 := mulz_bd h.z1 h.t2.1
  have h3 := mulz_bd h.z2 h.t0.1
  unfold numL
  rw [← e]
  omega
theorem div_bd {n d k : Int} (hd : 0 < d) (h : -(k * d) ≤ n ∧ n ≤ k * d) : -k ≤ n / d ∧ n / d ≤ k := by
  constructor
  · exact (Int.le_ediv_iff_mul_le hd).2 (by rw [Int.neg_mul]; exact h.1)
  · exact Int.le_of_lt_add_one ((Int.ediv_lt_iff_lt_mul hd).2 (by rw [Int.add_mul]; omega))
def loF (m : Msh) (i : Nat) (p : Pnt) : Int := numL m i p / denL m i
def hiF (m : Msh) (i : Nat) (p : Pnt) : Int := -(-numL m i p / denL m i)
theorem OnF.lo {m : Msh} {i : Nat} {p : Pnt} (h : OnF m i p) : -4194304 ≤ loF m i p ∧ loF m i p ≤ 4194304 := div_bd h.d.1 h.num
theorem OnF.hi {m : Msh} {i : Nat} {p : Pnt} (h : OnF m i p) : -4194304 ≤ hiF m i p ∧ hiF m i p ≤ 4194304 := by
  have := div_bd (n := -numL m i p) (k := 4194304) h.d.1 (by have := h.num; omega)
  unfold hiF
  omega
variable {C : CC} (hC : Closed prog C)
include hC
theorem ProductT_c (z t : Int) (hz : -4194304 ≤ z ∧ z ≤ 4194304) (ht : 0 ≤ t ∧ t ≤ 2251799813685248) : C 99 [.int .i64 z, .int .i64 t] (.tup [wiS (z * t), .int .i64 0]) [] := by
  obtain ⟨n, rfl⟩ : ∃ n : Nat, t = n := ⟨t.toNat, by omega⟩
  have h3 : z.natAbs * n ≤ 4194304 * 2251799813685248 := Nat.mul_le_mul (by omega) (by omega)
  exact ProductS_c hC z n (by omega) (by omega) (by omega)
set_option maxHeartbeats 4000000 in
theorem lexact_c (m : Msh) (hv : validM m = true) (i : Nat) (hi : i < m.f.length) (p : Pnt) (hp : okP p = true) (h : osF m i p < 0) :
    C 300 [.agg (mshC m), .int .i64 i, .agg (ptD p)] (.tup [wiS (numL m i p), .int .i64 (denL m i), .int .i64 0]) [] := by
  have H := onF_of hv hi hp h
  obtain ⟨oa, ob, oc⟩ := sp_okP hv hi
  have k0 := lcorners_c hC m i hi (valid_in hv hi)
  have ka := lat_c hC (spA m i)
  have kb := lat_c hC (spB m i)
  have kc := lat_c hC (spC m i)
  have t1 := lturn_c hC hp ob oc
  have t2 := lturn_c hC hp oc oa
  have t0 := lturn_c hC hp oa ob
  have td : C 320 _ (.int .i64 (denL m i)) [] := lturn_c hC oa ob oc
  rw [tn_rot1] at t1
  rw [tn_rot2] at t2
  rw [tn_rot0] at t0
  have x1 := ProductT_c hC _ _ H.z0 H.t1
  have x2 := ProductT_c hC _ _ H.z1 H.t2
  have x0 := ProductT_c hC _ _ H.z2 H.t0
  have b1 := mulz_bd H.z0 H.t1.1
  have b2 := mulz_bd H.z1 H.t2.1
  have b0 := mulz_bd H.z2 H.t0.1
  have c0 := H.t0
  have c1 := H.t1
  have c2 := H.t2
  have en : numL m i p = (spA m i).z * tn1 m i p + (spB m i).z * tn2 m i p + (spC m i).z * tn0 m i p := rfl
  obtain ⟨u1, hu1⟩ : ∃ u, u = (spA m i).z * tn1 m i p := ⟨_, rfl⟩
  obtain ⟨u2, hu2⟩ : ∃ u, u = (spB m i).z * tn2 m i p := ⟨_, rfl⟩
  obtain ⟨u0, hu0⟩ : ∃ u, u = (spC m i).z * tn0 m i p := ⟨_, rfl⟩
  rw [← hu1] at x1 b1 en
  rw [← hu2] at x2 b2 en
  rw [← hu0] at x0 b0 en
  have y1 := AddS_c hC 0 u1 (by omega) (by omega)
  have y2 := AddS_c hC u1 u2 (by omega) (by omega)
  have y3 := AddS_c hC (u1 + u2) u0 (by omega) (by omega)
  rw [Int.zero_add] at y1
  rw [← en] at y3
  have ez : wiS 0 = .agg [.int .i64 0, .int .i64 0] := by simp [wiS]
  obtain ⟨p1, q1, _, _, e1⟩ := wiS_parts u1
  obtain ⟨p2, q2, _, _, e2⟩ := wiS_parts u2
  obtain ⟨p3, q3, _, _, e3⟩ := wiS_parts u0
  obtain ⟨p4, q4, _, _, e4⟩ := wiS_parts (u1 + u2)
  obtain ⟨p5, q5, _, _, e5⟩ := wiS_parts (numL m i p)
  rw [e1] at x1
  rw [e2] at x2
  rw [e3] at x0
  rw [ez, e1] at y1
  rw [e1, e2, e4] at y2
  rw [e4, e3, e5] at y3
  rw [e5]
  have w0 : IntKind.wrap .i64 0 = 0 := by decide
  have w1 : IntKind.wrap .i64 1 = 1 := by decide
  have w2 : IntKind.wrap .i64 2 = 2 := by decide
  have w3 : IntKind.wrap .i64 3 = 3 := by decide
  have w4 : IntKind.wrap .i64 4 = 4 := by decide
  have m1 : Int.tmod 1 3 = 1 := by decide
  have m2 : Int.tmod 2 3 = 2 := by decide
  have m3 : Int.tmod 3 3 = 0 := by decide
  have m4 : Int.tmod 4 3 = 1 := by decide
  clear e1 e2 e3 e4 e5 en hu0 hu1 hu2 b0 b1 b2 c0 c1 c2 H
  simp only [mshC_eq, sptC_eq, cor9_eq] at k0 ka kb kc
  refine start hC (nf := N300_locate_exact) rfl rfl ?_
  simp [N300_locate_exact, mshC_eq]
  refine callW_of k0 (.inl rfl) ?_
  simp
  refine loop_of Nat (fun k => [(5, .ptr (ptD p)), (6, .adr (.r 10096) 0 0), (9, .adr (.r 10144) 0 0), (17, .agg (cor9 m i)), (18, .int .i64 k), (10144, .blk 9 [cor9 m i]),
    (10096, .blk 2 [if k = 0 then [.int .i64 0, .int .i64 0] else if k = 1 then [.int .i64 p1, .int .i64 q1] else if k = 2 then [.int .i64 p4, .int .i64 q4] else [.int .i64 p5, .int .i64 q5]])]) (fun k => k ≤ 3) (fun k => 3 - k) 0 (by simp) (by simp [cor9_eq]) ?_
  rintro k hk
  rcases (by omega : k = 0 ∨ k = 1 ∨ k = 2 ∨ k = 3) with rfl | rfl | rfl | rfl
  · simp [cor9_eq, w1, m1]
    refine callW_of kb (.inl rfl) ?_
    simp [w2, m2]
    refine callW_of kc (.inl rfl) ?_
    simp
    refine callW_of t1 (.inl rfl) ?_
    simp
    refine callW_of x1 (.inr rfl) ?_
    simp
    refine ⟨indW_of (by decide +kernel), ?_⟩
    refine callW_of y1 (.inr rfl) ?_
    simp
    exact ⟨1, by omega, by omega, by simp [cor9_eq, w1]⟩
  · simp [cor9_eq, w2, m2]
    refine callW_of kc (.inl rfl) ?_
    simp [w3, m3]
    refine callW_of ka (.inl rfl) ?_
    simp
    refine callW_of t2 (.inl rfl) ?_
    simp
    refine callW_of x2 (.inr rfl) ?_
    simp
    refine ⟨indW_of (by decide +kernel), ?_⟩
    refine callW_of y2 (.inr rfl) ?_
    simp
    exact ⟨2, by omega, by omega, by simp [cor9_eq, w2]⟩
  · simp [cor9_eq, w3, m3]
    refine callW_of ka (.inl rfl) ?_
    simp [w4, m4]
    refine callW_of kb (.inl rfl) ?_
    simp
    refine callW_of t0 (.inl rfl) ?_
    simp
    refine callW_of x0 (.inr rfl) ?_
    simp
    refine ⟨indW_of (by decide +kernel), ?_⟩
    refine callW_of y3 (.inr rfl) ?_
    simp
    exact ⟨3, by omega, by omega, by simp [cor9_eq, w3]⟩
  · simp [cor9_eq]
    refine callW_of ka (.inl rfl) ?_
    simp
    refine callW_of kb (.inl rfl) ?_
    simp
    refine callW_of kc (.inl rfl) ?_
    simp
    refine callW_of td (.inl rfl) ?_
    simp
    exact indW_of (by decide +kernel)
theorem OnF.qv {m : Msh} {i : Nat} {p : Pnt} (h : OnF m i p) : (numL m i p).natAbs / (denL m i).natAbs ≤ 4194304 := by
  have h1 := h.num
  have h2 := h.d.1
  have h3 : (numL m i p).natAbs ≤ 4194304 * (denL m i).natAbs := by omega
  exact Nat.div_le_of_le_mul (by rw [Nat.mul_comm]; exact h3)
/-- Floor and ceiling of a wide number, by a positive one. -/
theorem floorW_c (v : Int) (d : Nat) (up : Bool) (hd0 : 0 < d) (hd : d ≤ 2251799813685248) (hv : v.natAbs ≤ 4194304 * d) : C 301 [wiS v, .int .i64 d, .bool up] (.tup [.int .i64 (if up then -(-v / d) else v / d), .int .i64 0]) [] := by
  have k1 := wvalidS_c hC v (by omega)
  have k2 := valueS_c hC v (by omega)
  obtain ⟨Q, hQ⟩ : ∃ Q, Q = (if up then -(-v / (d : Int)) else v / (d : Int)) := ⟨_, rfl⟩
  have hdiv : v.natAbs / d ≤ 4194304 := Nat.div_le_of_le_mul (by rw [Nat.mul_comm]; exact hv)
  have k3 : C 104 [numS v, .int .i64 d, .bool up] (.tup [.int .i64 Q, .int .i64 0]) [] := by
    by_cases v0 : v < 0
    · obtain ⟨n, rfl⟩ : ∃ n : Nat, v = -(n : Int) := ⟨v.natAbs, by omega⟩
      rw [Int.natAbs_neg, Int.natAbs_natCast] at hv hdiv
      have k := quotientN_c hC n d up (if up then n / d else if n % d = 0 then n / d else n / d + 1) (by omega) (by omega) (by omega) (by split; omega; split <;> omega) rfl (by omega)
      have e1 : numS (-(n : Int)) = numD n true := numS_at (by omega) (decide_eq_true v0)
      have e2 : Q = -((if up then n / d else if n % d = 0 then n / d else n / d + 1 : Nat) : Int) := by
        rw [hQ]
        cases up
        · simp only [Bool.false_eq_true, if_false]
          exact neg_div_nat n d hd0
        · simp
      rw [e1, e2]
      exact k
    · obtain ⟨n, rfl⟩ : ∃ n : Nat, v = (n : Int) := ⟨v.natAbs, by omega⟩
      rw [Int.natAbs_natCast] at hv hdiv
      have hle : (n + d - 1) / d ≤ n / d + 1 := by
        have : (n + d - 1) / d ≤ (n + d) / d := Nat.div_le_div_right (by omega)
        rw [Nat.add_div_right _ hd0] at this
        exact this
      have k := quotient_c hC n d up (if up then (n + d - 1) / d else n / d) (by omega) (by omega) (by split <;> omega) rfl (by omega)
      have e1 : numS (n : Int) = numD n false := numS_at (by omega) (decide_eq_false v0)
      have e2 : Q = ((if up then (n + d - 1) / d else n / d : Nat) : Int) := by
        rw [hQ]
        cases up
        · simp
        · simp only [if_true]
          rw [neg_div_nat n d hd0, Int.neg_neg]
          congr 1
          have h1 := Nat.div_add_mod n d
          have h2 := Nat.mod_lt n hd0
          split
          · rename_i h
            have : n + d - 1 = d * (n / d) + (d - 1) := by omega
            rw [this, Nat.mul_add_div hd0, Nat.div_eq_of_lt (show d - 1 < d by omega)]
            rfl
          · rename_i h
            have : n + d - 1 = d * (n / d) + (d + (n % d - 1)) := by omega
            rw [this, Nat.mul_add_div hd0, Nat.add_div_left _ hd0, Nat.div_eq_of_lt (show n % d - 1 < d by omega)]
      rw [e1, e2]
      exact k
  rw [← hQ]
  obtain ⟨a1, a2, _, _, ea⟩ := wiS_parts v
  obtain ⟨f1, f2, f3, ef⟩ : ∃ (a1 a2 : Nat) (a3 : Bool), numS v = .agg [.int .u64 a1, .int .u64 a2, .bool a3] := ⟨_, _, _, rfl⟩
  rw [ea] at k1 k2 ⊢
  rw [ef] at k2 k3
  have h1 : ¬ d = 0 := by omega
  clear hQ ea ef
  refine start hC (nf := N301_wide_divided) rfl rfl ?_
  simp [N301_wide_divided]
  refine callW_of k1 (.inl rfl) ?_
  simp [h1]
  refine callW_of k2 (.inl rfl) ?_
  simp
  refine callW_of k3 (.inr rfl) ?_
  simp
theorem Floor_c (v : Int) (d : Nat) (hd0 : 0 < d) (hd : d ≤ 2251799813685248) (hv : v.natAbs ≤ 4194304 * d) : C 271 [wiS v, .int .i64 d] (.tup [.int .i64 (v / d), .int .i64 0]) [] := by
  have k := floorW_c hC v d false hd0 hd hv
  simp at k
  obtain ⟨Q, hQ⟩ : ∃ Q, Q = v / (d : Int) := ⟨_, rfl⟩
  rw [← hQ] at k ⊢
  obtain ⟨a1, a2, _, _, ea⟩ := wiS_parts v
  rw [ea] at k ⊢
  refine start hC (nf := N271_wide_Floor) rfl rfl ?_
  simp [N271_wide_Floor]
  refine callW_of k (.inl rfl) ?_
  simp
theorem Ceil_c (v : Int) (d : Nat) (hd0 : 0 < d) (hd : d ≤ 2251799813685248) (hv : v.natAbs ≤ 4194304 * d) : C 272 [wiS v, .int .i64 d] (.tup [.int .i64 (-(-v / d)), .int .i64 0]) [] := by
  have k := floorW_c hC v d true hd0 hd hv
  simp only [if_true] at k
  obtain ⟨Q, hQ⟩ : ∃ Q, Q = -(-v / (d : Int)) := ⟨_, rfl⟩
  rw [← hQ] at k ⊢
  obtain ⟨a1, a2, _, _, ea⟩ := wiS_parts v
  rw [ea] at k ⊢
  refine start hC (nf := N272_wide_Ceil) rfl rfl ?_
  simp [N272_wide_Ceil]
  refine callW_of k (.inl rfl) ?_
  simp
def wz : D := .agg [.int .i64 0, .int .i64 0]
theorem lExact_c (dec : Nat → List UInt8) (hI : ∀ n : Nat, n < 100 → C 127 [.int .i64 n] (.str (dec n)) []) (m : Msh) (hz : smallM m = true → m.s.length ≤ 100 ∧ m.f.length ≤ 100) (p : Pnt) :
    C 269 [.agg (mshC m), .agg (ptD p)] (if onE m p = 0 then .tup [wiS (numL m (fndF m p).toNat p), .int .i64 (denL m (fndF m p).toNat), .int .i64 0] else .tup [wz, .int .i64 0, .int .i64 (onE m p)]) [] := by
  have k1 := lon_c hC dec hI m hz p
  by_cases h0 : onE m p = 0
  · obtain ⟨hv, hp, hf⟩ := onE_at h0
    obtain ⟨hi, ho⟩ := fndF_on hf
    have k2 := lexact_c hC m hv _ hi p hp ho
    rw [if_pos h0]
    have e : onV m p = fndF m p := by rw [onV, if_pos h0]
    rw [h0, e] at k1
    rw [show (((fndF m p).toNat : Nat) : Int) = fndF m p by omega] at k2
    obtain ⟨a1, a2, _, _, ea⟩ := wiS_parts (numL m (fndF m p).toNat p)
    rw [ea] at k2 ⊢
    simp only [mshC_eq, ptD] at k1 k2
    refine start hC (nf := N269_locate_Exact) rfl rfl ?_
    simp [N269_locate_Exact, mshC_eq, ptD]
    refine callW_of k1 (.inl rfl) ?_
    simp
    refine callW_of k2 (.inr rfl) ?_
    simp
  · rw [if_neg h0]
    simp only [mshC_eq, ptD] at k1
    refine start hC (nf := N269_locate_Exact) rfl rfl ?_
    simp [N269_locate_Exact, mshC_eq, ptD]
    refine callW_of k1 (.inl rfl) ?_
    simp [h0, wz]
theorem lLevel_c (dec : Nat → List UInt8) (hI : ∀ n : Nat, n < 100 → C 127 [.int .i64 n] (.str (dec n)) []) (m : Msh) (hz : smallM m = true → m.s.length ≤ 100 ∧ m.f.length ≤ 100) (p : Pnt) :
    C 233 [.agg (mshC m), .agg (ptD p)] (if onE m p = 0 then .tup [.agg [.int .i64 (loF m (fndF m p).toNat p), .int .i64 (hiF m (fndF m p).toNat p)], .int .i64 0] else .tup [wz, .int .i64 (onE m p)]) [] := by
  have k1 := lExact_c hC dec hI m hz p
  by_cases h0 : onE m p = 0
  · obtain ⟨hv, hp, hf⟩ := onE_at h0
    obtain ⟨hi, ho⟩ := fndF_on hf
    have H := onF_of hv hi hp ho
    obtain ⟨i, hi2⟩ : ∃ i, i = (fndF m p).toNat := ⟨_, rfl⟩
    rw [if_pos h0] at k1 ⊢
    rw [← hi2] at k1 H ⊢
    obtain ⟨d, hd⟩ : ∃ d : Nat, denL m i = d := ⟨(denL m i).toNat, by have := H.d; omega⟩
    have b1 := H.num
    have b2 := H.d
    rw [hd] at b1 b2
    have k2 := Floor_c hC (numL m i p) d (by omega) (by omega) (by omega)
    have k3 := Ceil_c hC (numL m i p) d (by omega) (by omega) (by omega)
    rw [show numL m i p / (d : Int) = loF m i p by rw [loF, hd]] at k2
    rw [show -(-numL m i p / (d : Int)) = hiF m i p by rw [hiF, hd]] at k3
    rw [hd] at k1
    obtain ⟨a1, a2, _, _, ea⟩ := wiS_parts (numL m i p)
    rw [ea] at k1 k2 k3
    simp only [mshC_eq, ptD] at k1
    clear b1 b2 H
    refine start hC (nf := N233_locate_Level) rfl rfl ?_
    simp [N233_locate_Level, mshC_eq, ptD]
    refine callW_of k1 (.inr rfl) ?_
    simp
    refine callW_of k2 (.inl rfl) ?_
    simp
    refine callW_of k3 (.inl rfl) ?_
    simp
  · rw [if_neg h0] at k1 ⊢
    simp only [mshC_eq, ptD, wz] at k1
    refine start hC (nf := N233_locate_Level) rfl rfl ?_
    simp [N233_locate_Level, mshC_eq, ptD]
    refine callW_of k1 (.inr rfl) ?_
    simp [h0, wz]
end Go.Gv

set_option linter.unusedSimpArgs false
namespace Go.Gv
theorem hasSd_at {f : Fce} {a b : Int} {k : Nat} (hk : k < 3) (h1 : crn f k = a) (h2 : crn f (k + 1) = b) : hasSd f a b = true := by
  simp only [hasSd, List.any_eq_true, List.mem_range, Bool.and_eq_true, decide_eq_true_eq]
  exact ⟨k, hk, h1, h2⟩
theorem hasSd_no {f : Fce} {a b : Int} (h : ∀ k, k < 3 → ¬ (crn f k = a ∧ crn f (k + 1) = b)) : hasSd f a b = false := by
  simp only [hasSd, List.any_eq_false, List.mem_range, Bool.and_eq_true, decide_eq_true_eq]
  exact h
theorem sideF_at {m : Msh} {a b : Int} {i : Nat} (hi : i < m.f.length) (hj : ∀ j, j < i → hasSd (fce m j) a b = false) (h : hasSd (fce m i) a b = true) : sideF m a b = i := by
  refine idxD_step (fun j hl hji => ?_) hi ?_
  · rw [fce_g]; exact hj j hji
  · rw [fce_g]; exact h
theorem sideF_no {m : Msh} {a b : Int} (hj : ∀ j, j < m.f.length → hasSd (fce m j) a b = false) : sideF m a b = -1 := by
  refine idxD_none (fun j hl => ?_)
  rw [fce_g]; exact hj j hl
/-- The side. -/
def sidK (m : Msh) (a b : Int) : Int := if sideF m a b < 0 then 0 else idxD (fun j => decide (crn (fce m (sideF m a b).toNat) j = a) && decide (crn (fce m (sideF m a b).toNat) (j + 1) = b)) (List.range 3)
theorem sidK_no {m : Msh} {a b : Int} (h : sideF m a b = -1) : sidK m a b = 0 := by rw [sidK, if_pos (by omega)]
theorem sidK_at {m : Msh} {a b : Int} {i k : Nat} (h : sideF m a b = i) (hk : k < 3) (hj : ∀ j, j < k → ¬ (crn (fce m i) j = a ∧ crn (fce m i) (j + 1) = b)) (h1 : crn (fce m i) k = a) (h2 : crn (fce m i) (k + 1) = b) : sidK m a b = k := by
  rw [sidK, if_neg (by omega), h]
  refine idxD_step (fun j hl hjk => ?_) (by simp; omega) ?_
  · have := hj j hjk
    simp only [Int.toNat_natCast, List.getElem_range, Bool.and_eq_false_iff, decide_eq_false_iff_not]
    omega
  · simp [h1, h2]
def acK (m : Msh) (i k : Nat) : Int := sidK m (crn (fce m i) (k + 1)) (crn (fce m i) k)
def nbT (m : Msh) (i : Nat) : List (List D) := (List.range i).map fun j => [.int .i64 (nbF m j 0), .int .i64 (nbF m j 1), .int .i64 (nbF m j 2)]
@[simp] theorem nbT_len (m : Msh) (i : Nat) : (nbT m i).length = i := by simp [nbT]
theorem nbT_add (m : Msh) (i : Nat) : nbT m i ++ [[.int .i64 (nbF m i 0), .int .i64 (nbF m i 1), .int .i64 (nbF m i 2)]] = nbT m (i + 1) := by simp [nbT, List.range_succ]
theorem nbT_all (m : Msh) : nbT m m.f.length = nbA m := rfl
@[simp] theorem nbT_take (m : Msh) (i : Nat) : List.take i (nbT m i) = nbT m i := List.take_of_length_le (by simp)
@[simp] theorem nbT_cv (m : Msh) (i : Nat) : List.map (fun e => List.map cellV e) (nbT m i) = nbT m i := by simp [nbT]
variable {C : CC} (hC : Closed prog C)
include hC
end Go.Gv

set_option linter.unusedSimpArgs false
namespace Go.Gv
open Go.Lib
def tr3 (m : Msh) (i : Nat) : List (List D) := [ptD (ptS (spA m i)), ptD (ptS (spB m i)), ptD (ptS (spC m i))]
theorem tr3_eq (m : Msh) (i : Nat) : tr3 m i = [ptD (ptS (spA m i)), ptD (ptS (spB m i)), ptD (ptS (spC m i))] := _root_.id rfl
theorem osF_cases (m : Msh) (i : Nat) (p : Pnt) : (osF m i p = 0 ∧ tn0 m i p < 0) ∨ (osF m i p = 1 ∧ ¬ tn0 m i p < 0 ∧ tn1 m i p < 0) ∨ (osF m i p = 2 ∧ ¬ tn0 m i p < 0 ∧ ¬ tn1 m i p < 0 ∧ tn2 m i p < 0) ∨ (osF m i p = -1 ∧ ¬ tn0 m i p < 0 ∧ ¬ tn1 m i p < 0 ∧ ¬ tn2 m i p < 0) := by
  unfold osF
  split
  · exact .inl ⟨rfl, ‹_›⟩
  · split
    · exact .inr (.inl ⟨rfl, ‹_›, ‹_›⟩)
    · split
      · exact .inr (.inr (.inl ⟨rfl, ‹_›, ‹_›, ‹_›⟩))
      · exact .inr (.inr (.inr ⟨rfl, ‹_›, ‹_›, ‹_›⟩))
/-- The side that is found among the first k. -/
def sdF (m : Msh) (i : Nat) (p : Pnt) (k : Nat) : Int := if 0 ≤ osF m i p ∧ osF m i p < k then osF m i p else -1
theorem sdF_3 (m : Msh) (i : Nat) (p : Pnt) : sdF m i p 3 = osF m i p := by
  have := osF_bd m i p
  unfold sdF
  split <;> omega
variable {C : CC} (hC : Closed prog C)
include hC
theorem qtri_c (m : Msh) (hv : validM m = true) (i : Nat) (hi : i < m.f.length) : C 285 [.agg (mshC m), .agg (fceC (fce m i))] (.sl (tr3 m i)) [] := rtri_c hC m (fce m i) (valid_in hv hi)
theorem q7Valid_c (p : Pnt) : C 237 [.agg (ptD p)] (.bool (okP p)) [] := by
  refine start hC (nf := N237_ref07_Valid) rfl rfl ?_
  simp [N237_ref07_Valid, ptD, okP]
  repeat' (refine brB_of (fun h => ?_) (fun h => ?_) <;> simp at h <;> simp [h] <;> try omega)
def fewM (m : Msh) : Bool := decide ((m.s.length : Int) ≤ 60) && decide ((m.f.length : Int) ≤ 60)
theorem few_c (m : Msh) : C 229 [.agg (mshC m)] (.bool (fewM m)) [] := by
  refine start hC (nf := N229_law13_few) rfl rfl ?_
  simp [N229_law13_few, mshC_eq]
  refine brB_of (fun h => ?_) (fun h => ?_)
  · simp at h; simp [h, fewM]
  · have h2 : ¬ (m.s.length : Int) ≤ 60 := of_decide_eq_false h
    rw [show fewM m = false by rw [fewM, decide_eq_false h2]; rfl]
    simp
end Go.Gv

set_option linter.unusedSimpArgs false
namespace Go.Gv
open Go.Lib
theorem numS_parts (v : Int) : ∃ (a b : Nat) (c : Bool), numS v = .agg [.int .u64 a, .int .u64 b, .bool c] := ⟨_, _, _, rfl⟩
def exL : Msh := ⟨false, [⟨0, 0, 100⟩, ⟨1000, 0, 200⟩, ⟨0, 1000, 400⟩], false, [⟨0, 1, 2, 0⟩]⟩
theorem exL_v : validM exL = true := by decide +kernel
theorem exL_f1 : fndF exL (250, 500) = 0 := by decide +kernel
theorem exL_f2 : fndF exL (1, 1) = 0 := by decide +kernel
theorem exL_n : numL exL 0 (250, 500) = 275000000 := by decide +kernel
theorem exL_d : denL exL 0 = 1000000 := by decide +kernel
theorem exL_lo : loF exL 0 (1, 1) = 100 := by decide +kernel
theorem exL_hi : hiF exL 0 (1, 1) = 101 := by decide +kernel
theorem exL_o1 : onE exL (250, 500) = 0 := by rw [onE, exL_f1, exL_v]; decide
theorem exL_o2 : onE exL (1, 1) = 0 := by rw [onE, exL_f2, exL_v]; decide
variable {C : CC} (hC : Closed prog C)
include hC
set_option maxHeartbeats 2000000 in
theorem awake13_c (dec : Nat → List UInt8) (hI : ∀ n : Nat, n < 100 → C 127 [.int .i64 n] (.str (dec n)) []) : C 227 [] (.bool true) [] := by
  have hz : smallM exL = true → exL.s.length ≤ 100 ∧ exL.f.length ≤ 100 := fun _ => by simp [exL]
  have k1 := lExact_c hC dec hI exL hz (250, 500)
  have k2 := Int_c hC 275000000 (by decide)
  have k3 := lLevel_c hC dec hI exL hz (1, 1)
  rw [if_pos exL_o1, exL_f1, show (0 : Int).toNat = 0 from rfl, exL_n, exL_d] at k1
  rw [if_pos exL_o2, exL_f2, show (0 : Int).toNat = 0 from rfl, exL_lo, exL_hi] at k3
  rw [show wiS 275000000 = .agg [.int .i64 0, .int .i64 275000000] by simp [wiS]] at k1
  rw [show wiD 275000000 = .agg [.int .i64 0, .int .i64 275000000] by simp [wiD]] at k2
  simp [exL, mshC_eq, sptC_eq, fceC_eq, ptD] at k1 k3
  refine start hC (nf := N227_law13_awake) rfl rfl ?_
  simp [N227_law13_awake]
  refine callW_of k1 (.inl rfl) ?_
  simp
  refine callW_of k2 (.inl rfl) ?_
  simp
  refine callW_of k3 (.inl rfl) ?_
  simp
end Go.Gv

set_option linter.unusedSimpArgs false
namespace Go.Gv
theorem few_small {m : Msh} (h : fewM m = true) : m.s.length ≤ 60 ∧ m.f.length ≤ 60 := by
  simp only [fewM, Bool.and_eq_true, decide_eq_true_eq] at h
  omega
variable {C : CC} (hC : Closed prog C)
include hC
end Go.Gv

set_option linter.unusedSimpArgs false
namespace Go.Gv
theorem cmp3_0 (x : Int) : (cmp3 x 0 = -1 ∧ x < 0) ∨ (cmp3 x 0 = 0 ∧ x = 0) ∨ (cmp3 x 0 = 1 ∧ 0 < x) := by
  unfold cmp3
  split
  · exact .inl ⟨rfl, ‹_›⟩
  · split
    · exact .inr (.inr ⟨rfl, ‹_›⟩)
    · exact .inr (.inl ⟨rfl, by omega⟩)
def mn2 (x y : Int) : Int := if y < x then y else x
def mx2 (x y : Int) : Int := if x < y then y else x
/-- Where a point is in a triangle whose turn is positive. -/
def insF (m : Msh) (i : Nat) (p : Pnt) : Int := mn2 (mn2 (mn2 1 (cmp3 (tn0 m i p) 0)) (cmp3 (tn1 m i p) 0)) (cmp3 (tn2 m i p) 0)
theorem insF_on (m : Msh) (i : Nat) (p : Pnt) : decide (0 ≤ insF m i p) = decide (osF m i p < 0) := by
  rw [decide_eq_decide]
  have h0 := cmp3_0 (tn0 m i p)
  have h1 := cmp3_0 (tn1 m i p)
  have h2 := cmp3_0 (tn2 m i p)
  have hc := osF_cases m i p
  unfold insF mn2
  generalize cmp3 (tn0 m i p) 0 = a at *
  generalize cmp3 (tn1 m i p) 0 = b at *
  generalize cmp3 (tn2 m i p) 0 = c at *
  constructor
  · intro h
    split at h <;> split at h <;> split at h <;> omega
  · intro h
    split <;> split <;> split <;> omega
variable {C : CC} (hC : Closed prog C)
include hC
theorem pturn_c {a b c : Pnt} (ha : okP a = true) (hb : okP b = true) (hc : okP c = true) : C 360 [.agg (ptD a), .agg (ptD b), .agg (ptD c)] (.int .i64 (turnP a b c)) [] := by
  have := okP_bd ha
  have := okP_bd hb
  have := okP_bd hc
  have h4 := turn_bd ha hb hc
  refine start hC (nf := N360_plane_turn) rfl rfl ?_
  have w1 : IntKind.wrap .i64 (b.1 - a.1) = b.1 - a.1 := wrap_i64 rfl (by omega)
  have w2 : IntKind.wrap .i64 (c.2 - a.2) = c.2 - a.2 := wrap_i64 rfl (by omega)
  have w3 : IntKind.wrap .i64 (b.2 - a.2) = b.2 - a.2 := wrap_i64 rfl (by omega)
  have w4 : IntKind.wrap .i64 (c.1 - a.1) = c.1 - a.1 := wrap_i64 rfl (by omega)
  have w5 : IntKind.wrap .i64 ((b.1 - a.1) * (c.2 - a.2)) = (b.1 - a.1) * (c.2 - a.2) := wrap_i64 rfl (by omega)
  have w6 : IntKind.wrap .i64 ((b.2 - a.2) * (c.1 - a.1)) = (b.2 - a.2) * (c.1 - a.1) := wrap_i64 rfl (by omega)
  have w7 : IntKind.wrap .i64 ((b.1 - a.1) * (c.2 - a.2) - (b.2 - a.2) * (c.1 - a.1)) = turnP a b c := wrap_i64 rfl (by rw [turnP]; omega)
  simp [N360_plane_turn, ptD, w1, w2, w3, w4, w5, w6, w7]
theorem pall1_c (p : Pnt) : C 361 [.agg (ptD p)] (.bool (!okP p)) [] := by
  have k := pValid_c hC p
  simp only [ptD] at k
  refine start hC (nf := N361_plane_all_1) rfl rfl ?_
  simp [N361_plane_all_1, ptD]
  refine callW_of k (.inl rfl) ?_
  simp
theorem pall_c (b : Bool) (ps : List Pnt) (hp : ps.length < 2 ^ 62) : C 359 [slx b (ps.map fun x => ptD x)] (.bool (ps.all okP)) [] := by
  have k2 := hasPnt_c hC (b := b) (xs := ps) (g := 361) (cs := []) (fun x => !okP x) hp (fun x _ => pall1_c hC x)
  have e : (ps.any fun x => !okP x) = !ps.all okP := by rw [List.all_eq_not_any_not, Bool.not_not]
  rw [e] at k2
  refine start hC (nf := N359_plane_all) rfl rfl ?_
  simp [N359_plane_all]
  refine callW_of k2 (.inl rfl) ?_
  simp
set_option maxHeartbeats 4000000 in
theorem pInside_c (m : Msh) (hv : validM m = true) (i : Nat) (hi : i < m.f.length) (p : Pnt) (hp : okP p = true) :
    C 355 [.agg (ptD p), .agg (ptD (ptS (spA m i))), .agg (ptD (ptS (spB m i))), .agg (ptD (ptS (spC m i)))] (.tup [.int .i64 (insF m i p), .int .i64 0]) [] := by
  obtain ⟨oa, ob, oc⟩ := sp_okP hv hi
  have hd : 0 < denL m i := (valid_f hv hi).2
  have ka := pall_c hC false [p, ptS (spA m i), ptS (spB m i), ptS (spC m i)] (by simp)
  have kd : C 360 [.agg (ptD (ptS (spA m i))), .agg (ptD (ptS (spB m i))), .agg (ptD (ptS (spC m i)))] (.int .i64 (denL m i)) [] := pturn_c hC oa ob oc
  have t0 : C 360 [.agg (ptD (ptS (spA m i))), .agg (ptD (ptS (spB m i))), .agg (ptD p)] (.int .i64 (tn0 m i p)) [] := pturn_c hC oa ob hp
  have t1 : C 360 [.agg (ptD (ptS (spB m i))), .agg (ptD (ptS (spC m i))), .agg (ptD p)] (.int .i64 (tn1 m i p)) [] := pturn_c hC ob oc hp
  have t2 : C 360 [.agg (ptD (ptS (spC m i))), .agg (ptD (ptS (spA m i))), .agg (ptD p)] (.int .i64 (tn2 m i p)) [] := pturn_c hC oc oa hp
  have cd := compare_c hC (denL m i) 0
  have c0 := compare_c hC (tn0 m i p) 0
  have c1 := compare_c hC (tn1 m i p) 0
  have c2 := compare_c hC (tn2 m i p) 0
  rw [show cmp3 (denL m i) 0 = 1 by have := cmp3_0 (denL m i); omega] at cd
  simp [oa, ob, oc, hp] at ka
  have g0 := cmp3_0 (tn0 m i p)
  have g1 := cmp3_0 (tn1 m i p)
  have g2 := cmp3_0 (tn2 m i p)
  unfold insF
  obtain ⟨x0, h0⟩ : ∃ x, x = cmp3 (tn0 m i p) 0 := ⟨_, rfl⟩
  obtain ⟨x1, h1⟩ : ∃ x, x = cmp3 (tn1 m i p) 0 := ⟨_, rfl⟩
  obtain ⟨x2, h2⟩ : ∃ x, x = cmp3 (tn2 m i p) 0 := ⟨_, rfl⟩
  rw [← h0] at c0 g0 ⊢
  rw [← h1] at c1 g1 ⊢
  rw [← h2] at c2 g2 ⊢
  have e0 : IntKind.wrap .i64 x0 = x0 := wrap_i64 rfl (by omega)
  have e1 : IntKind.wrap .i64 x1 = x1 := wrap_i64 rfl (by omega)
  have e2 : IntKind.wrap .i64 x2 = x2 := wrap_i64 rfl (by omega)
  have w1 : IntKind.wrap .i64 1 = 1 := by decide
  have w2 : IntKind.wrap .i64 2 = 2 := by decide
  have w3 : IntKind.wrap .i64 3 = 3 := by decide
  clear g0 g1 g2 h0 h1 h2
  obtain ⟨A, hA⟩ : ∃ A, A = ptS (spA m i) := ⟨_, rfl⟩
  obtain ⟨B, hB⟩ : ∃ A, A = ptS (spB m i) := ⟨_, rfl⟩
  obtain ⟨Z, hZ⟩ : ∃ A, A = ptS (spC m i) := ⟨_, rfl⟩
  rw [← hA, ← hB, ← hZ] at ka kd ⊢
  rw [← hA, ← hB] at t0
  rw [← hB, ← hZ] at t1
  rw [← hA, ← hZ] at t2
  clear hA hB hZ
  simp only [ptD] at ka kd t0 t1 t2
  refine start hC (nf := N355_plane_Inside) rfl rfl ?_
  simp [N355_plane_Inside, ptD]
  refine callW_of ka (.inl rfl) ?_
  simp
  refine callW_of kd (.inl rfl) ?_
  simp
  refine callW_of cd (.inl rfl) ?_
  simp
  refine loop_of Nat (fun k => [(4, .ptr (ptD p)), (10, .int .i64 1), (11, .int .i64 (if k = 0 then 1 else if k = 1 then mn2 1 x0 else if k = 2 then mn2 (mn2 1 x0) x1 else mn2 (mn2 (mn2 1 x0) x1) x2)), (37, .agg [.int .i64 A.1, .int .i64 A.2, .int .i64 B.1, .int .i64 B.2, .int .i64 B.1, .int .i64 B.2, .int .i64 Z.1, .int .i64 Z.2, .int .i64 Z.1, .int .i64 Z.2, .int .i64 A.1, .int .i64 A.2]), (38, .int .i64 k)]) (fun k => k ≤ 3) (fun k => 3 - k) 0 (by simp) (by simp [ptD]) ?_
  rintro k hk
  rcases (by omega : k = 0 ∨ k = 1 ∨ k = 2 ∨ k = 3) with rfl | rfl | rfl | rfl
  · simp [ptD, w1]
    refine callW_of t0 (.inl rfl) ?_
    simp
    refine callW_of c0 (.inl rfl) ?_
    simp [e0]
    exact ⟨1, by omega, by omega, by simp [ptD, w1, mn2]⟩
  · simp [ptD, w2]
    refine callW_of t1 (.inl rfl) ?_
    simp
    refine callW_of c1 (.inl rfl) ?_
    simp [e1]
    exact ⟨2, by omega, by omega, by simp [ptD, w2, mn2]⟩
  · simp [ptD, w3]
    refine callW_of t2 (.inl rfl) ?_
    simp
    refine callW_of c2 (.inl rfl) ?_
    simp [e2]
    exact ⟨3, by omega, by omega, by simp [ptD, w3, mn2]⟩
  · simp
end Go.Gv

set_option linter.unusedSimpArgs false
namespace Go.Gv
theorem fndF_min {m : Msh} {p : Pnt} {i : Nat} (h : (i : Int) < fndF m p) : ¬ osF m i p < 0 := by
  have hb := fndF_bd m p
  have e : fndF m p = ((fndF m p).toNat : Int) := by omega
  unfold fndF idxD at e h
  cases h1 : (List.range m.f.length).findIdx? (fun i => decide (osF m i p < 0)) with
  | none => rw [h1] at h; simp at h; omega
  | some k =>
    rw [h1] at h
    have h : (i : Int) < k := h
    rw [List.findIdx?_eq_some_iff_getElem] at h1
    obtain ⟨g1, _, g3⟩ := h1
    have := g3 i (by omega)
    simpa using this
theorem fndF_no {m : Msh} {p : Pnt} (h : fndF m p < 0) {i : Nat} (hi : i < m.f.length) : ¬ osF m i p < 0 := by
  unfold fndF idxD at h
  cases h1 : (List.range m.f.length).findIdx? (fun i => decide (osF m i p < 0)) with
  | none =>
    rw [List.findIdx?_eq_none_iff] at h1
    have := h1 i (List.mem_range.2 hi)
    simpa using this
  | some k =>
    rw [h1] at h
    have h : (k : Int) < 0 := h
    omega
theorem wlk_ok (m : Msh) (p : Pnt) : ∀ (r f : Nat), f < m.f.length → r ≤ m.f.length → (wlk m p r f).2.2 = 0 → ∃ k s : Nat, (wlk m p r f).1 = k ∧ k < m.f.length ∧ osF m k p < 0 ∧ (wlk m p r f).2.1 = s ∧ s ≤ m.f.length
  | r, f, hf, hr, h => by
    by_cases h1 : osF m f p < 0
    · rw [wlk_on h1]
      exact ⟨f, m.f.length - r, rfl, hf, h1, rfl, by omega⟩
    · by_cases h2 : nbF m f (osF m f p).toNat < 0
      · rw [wlk_none h1 h2] at h; simp at h
      · cases r with
        | zero => rw [wlk_lim h1 h2] at h; simp at h
        | succ r =>
          rw [wlk_go h1 h2] at h ⊢
          have := nbF_bd m f (osF m f p).toNat
          exact wlk_ok m p r _ (by omega) (by omega) h
theorem wkR_ok {m : Msh} {f0 : Int} {p : Pnt} (h : (wkR m f0 p).2.2 = 0) : ∃ k s : Nat, (wkR m f0 p).1 = k ∧ k < m.f.length ∧ osF m k p < 0 ∧ (wkR m f0 p).2.1 = s ∧ s ≤ m.f.length := by
  unfold wkR at h ⊢
  split at h
  · rename_i h1
    rw [if_pos h1]
    split at h
    · rename_i h2
      rw [if_pos h2]
      simp only [inR1, Bool.and_eq_true, decide_eq_true_eq] at h2
      exact wlk_ok m p _ _ (by omega) (Nat.le_refl _) h
    · simp at h
  · simp at h
def mnZ (m : Msh) (i : Nat) : Int := mn2 (mn2 (spA m i).z (spB m i).z) (spC m i).z
def mxZ (m : Msh) (i : Nat) : Int := mx2 (mx2 (spA m i).z (spB m i).z) (spC m i).z
theorem mn2_le (x y : Int) : mn2 x y ≤ x ∧ mn2 x y ≤ y := by unfold mn2; split <;> omega
theorem mx2_ge (x y : Int) : x ≤ mx2 x y ∧ y ≤ mx2 x y := by unfold mx2; split <;> omega
theorem OnF.lvl {m : Msh} {i : Nat} {p : Pnt} (h : OnF m i p) : mnZ m i ≤ loF m i p ∧ hiF m i p ≤ mxZ m i ∧ 0 ≤ hiF m i p - loF m i p ∧ hiF m i p - loF m i p ≤ 1 := by
  have e := tn_sum m i p
  have hd := h.d.1
  have a1 := mn2_le (mn2 (spA m i).z (spB m i).z) (spC m i).z
  have a2 := mn2_le (spA m i).z (spB m i).z
  have b1 := mx2_ge (mx2 (spA m i).z (spB m i).z) (spC m i).z
  have b2 := mx2_ge (spA m i).z (spB m i).z
  have n1 : mnZ m i * denL m i ≤ numL m i p := by
    have x1 := Int.mul_le_mul_of_nonneg_right (show mnZ m i ≤ (spA m i).z by unfold mnZ; omega) h.t1.1
    have x2 := Int.mul_le_mul_of_nonneg_right (show mnZ m i ≤ (spB m i).z by unfold mnZ; omega) h.t2.1
    have x3 := Int.mul_le_mul_of_nonneg_right (show mnZ m i ≤ (spC m i).z by unfold mnZ; omega) h.t0.1
    rw [← e, Int.mul_add, Int.mul_add]
    unfold numL
    omega
  have n2 : numL m i p ≤ mxZ m i * denL m i := by
    have x1 := Int.mul_le_mul_of_nonneg_right (show (spA m i).z ≤ mxZ m i by unfold mxZ; omega) h.t1.1
    have x2 := Int.mul_le_mul_of_nonneg_right (show (spB m i).z ≤ mxZ m i by unfold mxZ; omega) h.t2.1
    have x3 := Int.mul_le_mul_of_nonneg_right (show (spC m i).z ≤ mxZ m i by unfold mxZ; omega) h.t0.1
    rw [← e, Int.mul_add, Int.mul_add]
    unfold numL
    omega
  have f1 : mnZ m i ≤ loF m i p := (Int.le_ediv_iff_mul_le hd).2 n1
  have f2 : hiF m i p ≤ mxZ m i := by
    have : -mxZ m i ≤ -numL m i p / denL m i := (Int.le_ediv_iff_mul_le hd).2 (by rw [Int.neg_mul]; omega)
    unfold hiF
    omega
  have g1 := Int.mul_ediv_add_emod (numL m i p) (denL m i)
  have g2 := Int.emod_nonneg (numL m i p) (show denL m i ≠ 0 by omega)
  have g3 := Int.emod_lt_of_pos (numL m i p) hd
  have g4 := Int.mul_ediv_add_emod (-numL m i p) (denL m i)
  have g5 := Int.emod_nonneg (-numL m i p) (show denL m i ≠ 0 by omega)
  have g6 := Int.emod_lt_of_pos (-numL m i p) hd
  refine ⟨f1, f2, ?_⟩
  have q : denL m i * (hiF m i p - loF m i p) = numL m i p % denL m i + -numL m i p % denL m i := by
    unfold hiF loF
    rw [Int.mul_sub, Int.mul_neg]
    omega
  constructor
  · by_cases c : 0 ≤ hiF m i p - loF m i p
    · exact c
    · have := Int.mul_neg_of_pos_of_neg hd (show hiF m i p - loF m i p < 0 by omega)
      omega
  · by_cases c : hiF m i p - loF m i p ≤ 1
    · exact c
    · have := Int.mul_le_mul_of_nonneg_left (show 2 ≤ hiF m i p - loF m i p by omega) (show 0 ≤ denL m i by omega)
      omega
variable {C : CC} (hC : Closed prog C)
include hC
theorem cor1_c (m : Msh) (k : Nat) (hk : k < m.s.length) : C 358 [.int .i64 k, .ptr (mshC m)] (.agg (ptD (ptS (spt m k)))) [] := by
  refine start hC (nf := N358_law13_corners_1) rfl rfl ?_
  simp [N358_law13_corners_1, mshC_eq, hk, sptC_eq, ptD, ptS]
  exact indW_of (by decide +kernel)
theorem cor_c (m : Msh) (i : Nat) (hi : i < m.f.length) (h : inS m (fce m i) = true) : C 354 [.agg (mshC m), .int .i64 i] (.tup [.agg (ptD (ptS (spA m i))), .agg (ptD (ptS (spB m i))), .agg (ptD (ptS (spC m i)))]) [] := by
  obtain ⟨⟨a1, a2⟩, ⟨b1, b2⟩, ⟨c1, c2⟩⟩ := inS_bd h
  have ka := cor1_c hC m _ a2
  have kb := cor1_c hC m _ b2
  have kc := cor1_c hC m _ c2
  rw [Int.toNat_of_nonneg a1] at ka
  rw [Int.toNat_of_nonneg b1] at kb
  rw [Int.toNat_of_nonneg c1] at kc
  rw [spA_eq] at ka
  rw [spB_eq] at kb
  rw [spC_eq] at kc
  simp only [mshC_eq] at ka kb kc
  refine start hC (nf := N354_law13_corners) rfl rfl ?_
  simp [N354_law13_corners, mshC_eq, hi, fceC_eq]
  refine callW_of ka (.inl rfl) ?_
  simp [hi, fceC_eq]
  refine callW_of kb (.inl rfl) ?_
  simp [hi, fceC_eq]
  refine callW_of kc (.inl rfl) ?_
  simp [ptD]
  exact indW_of (by decide +kernel)
theorem onL_c (m : Msh) (hv : validM m = true) (i : Nat) (hi : i < m.f.length) (p : Pnt) (hp : okP p = true) : C 353 [.int .i64 i, .ptr (mshC m), .ptr (ptD p)] (.bool (decide (osF m i p < 0))) [] := by
  have k1 := cor_c hC m i hi (valid_in hv hi)
  have k2 := pInside_c hC m hv i hi p hp
  rw [← insF_on]
  simp only [mshC_eq, ptD] at k1 k2
  refine start hC (nf := N353_law13_LocateInside_1) rfl rfl ?_
  simp [N353_law13_LocateInside_1, mshC_eq, ptD]
  refine callW_of k1 (.inl rfl) ?_
  simp
  refine callW_of k2 (.inl rfl) ?_
  simp
theorem min3_c (x y z : Int) : C 356 [.sl [[.int .i64 x], [.int .i64 y], [.int .i64 z]]] (.int .i64 (mn2 (mn2 x y) z)) [] := by
  have w1 : IntKind.wrap .i64 2 = 2 := by decide
  have w2 : IntKind.wrap .i64 3 = 3 := by decide
  refine start hC (nf := N356_slices_Min__int_int) rfl rfl ?_
  simp [N356_slices_Min__int_int]
  refine loop_of Nat (fun i => [(0, .sl [[.int .i64 x], [.int .i64 y], [.int .i64 z]]), (3, .int .i64 (if i = 1 then x else if i = 2 then mn2 x y else mn2 (mn2 x y) z)), (4, .int .i64 i)]) (fun i => 1 ≤ i ∧ i ≤ 3) (fun i => 3 - i) 1 (by simp) (by simp) ?_
  rintro i ⟨h1, h2⟩
  rcases (by omega : i = 1 ∨ i = 2 ∨ i = 3) with rfl | rfl | rfl
  · simp [w1]
    exact ⟨2, by omega, by omega, by simp [mn2]⟩
  · simp [w2]
    exact ⟨3, by omega, by omega, by simp [mn2]⟩
  · simp
theorem max3_c (x y z : Int) : C 357 [.sl [[.int .i64 x], [.int .i64 y], [.int .i64 z]]] (.int .i64 (mx2 (mx2 x y) z)) [] := by
  have w1 : IntKind.wrap .i64 2 = 2 := by decide
  have w2 : IntKind.wrap .i64 3 = 3 := by decide
  refine start hC (nf := N357_slices_Max__int_int) rfl rfl ?_
  simp [N357_slices_Max__int_int]
  refine loop_of Nat (fun i => [(0, .sl [[.int .i64 x], [.int .i64 y], [.int .i64 z]]), (3, .int .i64 (if i = 1 then x else if i = 2 then mx2 x y else mx2 (mx2 x y) z)), (4, .int .i64 i)]) (fun i => 1 ≤ i ∧ i ≤ 3) (fun i => 3 - i) 1 (by simp) (by simp) ?_
  rintro i ⟨h1, h2⟩
  rcases (by omega : i = 1 ∨ i = 2 ∨ i = 3) with rfl | rfl | rfl
  · simp [w1]
    exact ⟨2, by omega, by omega, by simp [mx2]⟩
  · simp [w2]
    exact ⟨3, by omega, by omega, by simp [mx2]⟩
  · simp
set_option maxRecDepth 20000 in
set_option maxHeartbeats 8000000 in
theorem LocateInside_c (dec : Nat → List UInt8) (hI : ∀ n : Nat, n < 100 → C 127 [.int .i64 n] (.str (dec n)) []) (m : Msh) (p : Pnt) (f0 : Int) : C 352 [.agg (mshC m), .agg (ptD p), .int .i64 f0] (.bool true) [] := by
  have ka := awake13_c hC dec hI
  have kf := few_c hC m
  simp only [mshC_eq] at kf
  refine start hC (nf := N352_law13_LocateInside) rfl rfl ?_
  simp [N352_law13_LocateInside, mshC_eq, ptD]
  refine callW_of ka (.inl rfl) ?_
  simp
  refine callW_of kf (.inl rfl) ?_
  cases hfew : fewM m
  · simp
  have hs := few_small hfew
  have hz : smallM m = true → m.s.length ≤ 100 ∧ m.f.length ≤ 100 := fun _ => by omega
  have k1 := lFace_c hC dec hI m hz p
  have k2 := lWalk_c hC dec hI m hz f0 p
  have k3 := rValid_c hC m hz
  have k4 := q7Valid_c hC p
  have k5 := lLevel_c hC dec hI m hz p
  simp only [mshC_eq, ptD, trpD] at k1 k2 k3 k4 k5
  simp
  refine callW_of k1 (.inl rfl) ?_
  simp
  refine callW_of k2 (.inl rfl) ?_
  simp
  refine callW_of k3 (.inl rfl) ?_
  cases hv : validM m
  · have e1 : onE m p = 1 := by rw [onE, if_neg (by simp [hv])]
    have e2 : onV m p = 0 := by rw [onV, e1]; rfl
    have e3 : wkR m f0 p = (0, 0, 1) := by rw [wkR, if_neg (by simp [hv])]
    simp [e1, e2, e3]
  · simp
    have ko := fun i hi hp => onL_c hC m hv i hi p hp
    simp only [mshC_eq, ptD] at ko
    by_cases hw0 : (wkR m f0 p).2.2 = 0
    · obtain ⟨k, st, q1, q2, q3, q4, q5⟩ := wkR_ok hw0
      have hvp : okP p = true := by
        unfold wkR at hw0
        split at hw0
        · exact (‹_ ∧ _›).2
        · simp at hw0
      have hff : ¬ fndF m p < 0 := fun h => fndF_no h q2 q3
      have he : onE m p = 0 := by rw [onE, if_pos ⟨hv, hvp⟩, if_neg hff]
      have j1 : ¬ (k : Int) < 0 := by omega
      have j2 : ¬ (m.f.length : Int) ≤ k := by omega
      have j3 : ¬ (st : Int) < 0 := by omega
      have j4 : ¬ (m.f.length : Int) < st := by omega
      simp [hw0, q1, q4, j1, j2, j3, j4]
      refine callW_of (ko k q2 hvp) (.inl rfl) ?_
      simp [q3, he]
      have hp : okP p = true := (onE_at he).2.1
      have hf0 := (onE_at he).2.2
      have ev : onV m p = fndF m p := by rw [onV, if_pos he]
      obtain ⟨hi, ho⟩ := fndF_on hf0
      obtain ⟨n, hn⟩ : ∃ n : Nat, fndF m p = n := ⟨(fndF m p).toNat, by omega⟩
      rw [hn, Int.toNat_natCast] at hi ho
      have H := onF_of hv hi hp ho
      have L := H.lvl
      have blo := H.lo
      have bhi := H.hi
      rw [if_pos he, hn, Int.toNat_natCast] at k5
      have g1 : ¬ (n : Int) < 0 := by omega
      have g2 : ¬ (m.f.length : Int) ≤ n := by omega
      simp [he, ev, hn, g1, g2]
      refine callW_of (ko n hi hp) (.inl rfl) ?_
      simp [ho]
      refine loop_of Nat (fun i => [(3, .ptr (mshC m)), (4, .ptr (ptD p)), (7, .fn 353 [.ptr (mshC m), .ptr (ptD p)]), (8, .int .i64 n), (134, .int .i64 n), (135, .int .i64 i)]) (fun i => i ≤ n) (fun i => n - i) 0 (by simp) (by simp [mshC_eq, ptD]) ?_
      rintro i hin
      simp [mshC_eq, ptD]
      refine brB_of (fun g3 => ?_) (fun g3 => ?_) <;> simp at g3 <;> simp [g3]
      · have hw : IntKind.wrap .i64 ((i : Int) + 1) = ((i + 1 : Nat) : Int) := wrap_i64 (by omega) (by omega)
        have hno : ¬ osF m i p < 0 := fndF_min (by omega)
        refine callW_of (ko i (by omega) hp) (.inl rfl) ?_
        simp [hno]
        exact ⟨i + 1, by omega, by omega, by simp [mshC_eq, ptD, hw]⟩
      · obtain ⟨⟨a1, a2⟩, ⟨b1, b2⟩, ⟨c1, c2⟩⟩ := inS_bd (valid_in hv hi)
        have kmn := min3_c hC (spA m n).z (spB m n).z (spC m n).z
        have kmx := max3_c hC (spA m n).z (spB m n).z (spC m n).z
        have sa : spt m (fce m n).a.toNat = spA m n := rfl
        have sb : spt m (fce m n).b.toNat = spB m n := rfl
        have sc : spt m (fce m n).c.toNat = spC m n := rfl
        have hw2 : IntKind.wrap .i64 (hiF m n p - loF m n p) = hiF m n p - loF m n p := wrap_i64 rfl (by omega)
        rw [show mn2 (mn2 (spA m n).z (spB m n).z) (spC m n).z = mnZ m n from rfl] at kmn
        rw [show mx2 (mx2 (spA m n).z (spB m n).z) (spC m n).z = mxZ m n from rfl] at kmx
        simp [hi, fceC_eq, a1, a2, b1, b2, c1, c2, sptC_eq, sa, sb, sc]
        refine ⟨indW_of (by decide +kernel), ?_⟩
        refine callW_of k5 (.inl rfl) ?_
        simp
        refine callW_of kmn (.inl rfl) ?_
        simp [L.1]
        refine callW_of kmx (.inl rfl) ?_
        have L3 : loF m n p ≤ hiF m n p := by omega
        have L4 : hiF m n p ≤ loF m n p + 1 := by omega
        have L5 : hiF m n p ≤ 1 + loF m n p := by omega
        simp [L.2.1, hw2, L3, L4, L5, L.2.2.2]
        exact indW_of (by decide +kernel)
    · simp [hw0]
      by_cases he : onE m p = 0
      · simp [he]
        have hp : okP p = true := (onE_at he).2.1
        have hf0 := (onE_at he).2.2
        have ev : onV m p = fndF m p := by rw [onV, if_pos he]
        obtain ⟨hi, ho⟩ := fndF_on hf0
        obtain ⟨n, hn⟩ : ∃ n : Nat, fndF m p = n := ⟨(fndF m p).toNat, by omega⟩
        rw [hn, Int.toNat_natCast] at hi ho
        have H := onF_of hv hi hp ho
        have L := H.lvl
        have blo := H.lo
        have bhi := H.hi
        rw [if_pos he, hn, Int.toNat_natCast] at k5
        have g1 : ¬ (n : Int) < 0 := by omega
        have g2 : ¬ (m.f.length : Int) ≤ n := by omega
        simp [he, ev, hn, g1, g2]
        refine callW_of (ko n hi hp) (.inl rfl) ?_
        simp [ho]
        refine loop_of Nat (fun i => [(3, .ptr (mshC m)), (4, .ptr (ptD p)), (7, .fn 353 [.ptr (mshC m), .ptr (ptD p)]), (8, .int .i64 n), (134, .int .i64 n), (135, .int .i64 i)]) (fun i => i ≤ n) (fun i => n - i) 0 (by simp) (by simp [mshC_eq, ptD]) ?_
        rintro i hin
        simp [mshC_eq, ptD]
        refine brB_of (fun g3 => ?_) (fun g3 => ?_) <;> simp at g3 <;> simp [g3]
        · have hw : IntKind.wrap .i64 ((i : Int) + 1) = ((i + 1 : Nat) : Int) := wrap_i64 (by omega) (by omega)
          have hno : ¬ osF m i p < 0 := fndF_min (by omega)
          refine callW_of (ko i (by omega) hp) (.inl rfl) ?_
          simp [hno]
          exact ⟨i + 1, by omega, by omega, by simp [mshC_eq, ptD, hw]⟩
        · obtain ⟨⟨a1, a2⟩, ⟨b1, b2⟩, ⟨c1, c2⟩⟩ := inS_bd (valid_in hv hi)
          have kmn := min3_c hC (spA m n).z (spB m n).z (spC m n).z
          have kmx := max3_c hC (spA m n).z (spB m n).z (spC m n).z
          have sa : spt m (fce m n).a.toNat = spA m n := rfl
          have sb : spt m (fce m n).b.toNat = spB m n := rfl
          have sc : spt m (fce m n).c.toNat = spC m n := rfl
          have hw2 : IntKind.wrap .i64 (hiF m n p - loF m n p) = hiF m n p - loF m n p := wrap_i64 rfl (by omega)
          rw [show mn2 (mn2 (spA m n).z (spB m n).z) (spC m n).z = mnZ m n from rfl] at kmn
          rw [show mx2 (mx2 (spA m n).z (spB m n).z) (spC m n).z = mxZ m n from rfl] at kmx
          simp [hi, fceC_eq, a1, a2, b1, b2, c1, c2, sptC_eq, sa, sb, sc]
          refine ⟨indW_of (by decide +kernel), ?_⟩
          refine callW_of k5 (.inl rfl) ?_
          simp
          refine callW_of kmn (.inl rfl) ?_
          simp [L.1]
          refine callW_of kmx (.inl rfl) ?_
          have L3 : loF m n p ≤ hiF m n p := by omega
          have L4 : hiF m n p ≤ loF m n p + 1 := by omega
          have L5 : hiF m n p ≤ 1 + loF m n p := by omega
          simp [L.2.1, hw2, L3, L4, L5, L.2.2.2]
          exact indW_of (by decide +kernel)
      · have ev : onV m p = 0 := by rw [onV, if_neg he]
        by_cases hvp : okP p = true
        · have hff : fndF m p < 0 := by
            by_cases h : fndF m p < 0
            · exact h
            · exact absurd (show onE m p = 0 by rw [onE, if_pos ⟨hv, hvp⟩, if_neg h]) he
          have e12 : onE m p = 12 := by rw [onE, if_pos ⟨hv, hvp⟩, if_pos hff]
          simp [e12, ev]
          refine loop_of Nat (fun i => [(4, .ptr (ptD p)), (7, .fn 353 [.ptr (mshC m), .ptr (ptD p)]), (8, .int .i64 0), (9, .int .i64 12), (100, .int .i64 m.f.length), (101, .int .i64 i)]) (fun i => i ≤ m.f.length) (fun i => m.f.length - i) 0 (by simp) (by simp [mshC_eq, ptD]) ?_
          rintro i hin
          simp [mshC_eq, ptD]
          refine brB_of (fun g3 => ?_) (fun g3 => ?_) <;> simp at g3 <;> simp [g3]
          have hw : IntKind.wrap .i64 ((i : Int) + 1) = ((i + 1 : Nat) : Int) := wrap_i64 (by omega) (by omega)
          have hno : ¬ osF m i p < 0 := fndF_no hff g3
          refine callW_of (ko i g3 hvp) (.inl rfl) ?_
          simp [hno]
          exact ⟨i + 1, by omega, by omega, by simp [mshC_eq, ptD, hw]⟩
        · have e1 : onE m p = 1 := by rw [onE, if_neg (by simp [hvp])]
          have hvf : okP p = false := by simpa using hvp
          rw [hvf] at k4
          simp [e1, ev]
          refine callW_of k4 (.inl rfl) ?_
          simp
end Go.Gv
