/-
  Texts of the proof: V3, V4, Z4, Z5, Z6, I3, Z7, Z8, Z12, Z13, GvT, GvT2.
-/
import Derived.Test.YtbglepgbofhboaaGreatDoorX6
import Derived.Test.YtbglepgbofhboaaGreatDoorX5
import Derived.Test.YtbglepgbofhboaaGreatDoorX3
import Derived.Sort.Row
import Derived.Sort.Grow
import Derived.Shelf.Sort.Plain
set_option linter.all false
set_option linter.unusedSimpArgs false
namespace Go.Gv
/-- What Slope finds wrong. -/
def slE (m : Msh) (a b : Int) : Int := if validM m = false then 1 else if inR1 m.f.length a = false ∨ inR1 m.f.length b = false then 2 else if bsd m a.toNat b = false then 25 else 0
def stE (m : Msh) (i a b : Int) : Int := if validM m = false then 1 else if inR1 m.f.length i = false ∨ inR1 m.f.length a = false ∨ inR1 m.f.length b = false then 2 else if bsd m i.toNat a = false ∨ bsd m i.toNat b = false then 25 else 0
theorem mulN_bd {x : Int} {q : Nat} (h1 : -1125899906842624 ≤ x ∧ x ≤ 1125899906842624) (h2 : q ≤ 36028797018963968) : x.natAbs * q < 1329227995784915872903807060280344576 ∧ -1329227995784915872903807060280344576 ≤ x * q ∧ x * q < 1329227995784915872903807060280344576 := by
  have h3 : x.natAbs * q ≤ 1125899906842624 * 36028797018963968 := Nat.mul_le_mul (by omega) h2
  have h4 : (x * q).natAbs = x.natAbs * q := by rw [Int.natAbs_mul, Int.natAbs_natCast]
  omega
variable {C : CC} (hC : Closed prog C)
include hC
end Go.Gv

set_option linter.unusedSimpArgs false
namespace Go.Gv
theorem idxD_at {α : Type} {p : α → Bool} {xs : List α} {i : Nat} (h : idxD p xs = (i : Int)) : ∃ h : i < xs.length, p xs[i] = true := by
  unfold idxD at h
  cases e : xs.findIdx? p with
  | none => rw [e] at h; simp at h
  | some k =>
    rw [e] at h
    have h : k = i := by have h : (k : Int) = (i : Int) := h; omega
    subst h
    rw [List.findIdx?_eq_some_iff_getElem] at e
    exact ⟨e.1, e.2.1⟩
theorem nb_side {m : Msh} {i k : Nat} (h : 0 ≤ nbF m i k) : ∃ c, c < 3 ∧ crn (fce m (nbF m i k).toNat) c = crn (fce m i) (k + 1) ∧ crn (fce m (nbF m i k).toNat) (c + 1) = crn (fce m i) k := by
  have e : nbF m i k = ((nbF m i k).toNat : Int) := by omega
  have h2 : idxD (fun f => hasSd f (crn (fce m i) (k + 1)) (crn (fce m i) k)) m.f = ((nbF m i k).toNat : Int) := e
  obtain ⟨h3, h4⟩ := idxD_at h2
  rw [fce_g] at h4
  simp only [hasSd, List.any_eq_true, List.mem_range, Bool.and_eq_true, decide_eq_true_eq] at h4
  exact h4
theorem turn_rotX (a b c : Pnt) : turnP a b c = turnP b c a := by
  obtain ⟨a1, a2⟩ := a
  obtain ⟨b1, b2⟩ := b
  obtain ⟨c1, c2⟩ := c
  simp only [turnP, Int.sub_mul, Int.mul_sub]
  have e1 := Int.mul_comm b1 b2
  have e2 := Int.mul_comm b1 c2
  have e3 := Int.mul_comm a1 c2
  have e4 := Int.mul_comm b1 a2
  have e5 := Int.mul_comm a1 b2
  have e6 := Int.mul_comm c1 b2
  have e7 := Int.mul_comm c1 a2
  have e8 := Int.mul_comm a1 a2
  omega
theorem turn_anti (a b c : Pnt) : turnP b a c = -turnP a b c := by
  obtain ⟨a1, a2⟩ := a
  obtain ⟨b1, b2⟩ := b
  obtain ⟨c1, c2⟩ := c
  simp only [turnP, Int.sub_mul, Int.mul_sub]
  have e1 := Int.mul_comm b1 b2
  have e2 := Int.mul_comm b1 c2
  have e3 := Int.mul_comm a1 c2
  have e4 := Int.mul_comm b1 a2
  have e5 := Int.mul_comm a1 b2
  have e6 := Int.mul_comm c1 b2
  have e7 := Int.mul_comm c1 a2
  have e8 := Int.mul_comm a1 a2
  omega
/-- A corner's point. -/
def cpt (m : Msh) (f : Fce) (k : Nat) : Pnt := ptS (spt m (crn f k).toNat)
theorem cpt_turn {m : Msh} (hv : validM m = true) {i k : Nat} (hi : i < m.f.length) (hk : k < 3) : ∃ x : Pnt, 0 < turnP (cpt m (fce m i) k) (cpt m (fce m i) (k + 1)) x ∧
    cenX m i = (cpt m (fce m i) k).1 + (cpt m (fce m i) (k + 1)).1 + x.1 ∧ cenY m i = (cpt m (fce m i) k).2 + (cpt m (fce m i) (k + 1)).2 + x.2 := by
  have h := (valid_f hv hi).2
  have h : 0 < turnP (cpt m (fce m i) 0) (cpt m (fce m i) 1) (cpt m (fce m i) 2) := h
  have ex : cenX m i = (cpt m (fce m i) 0).1 + (cpt m (fce m i) 1).1 + (cpt m (fce m i) 2).1 := rfl
  have ey : cenY m i = (cpt m (fce m i) 0).2 + (cpt m (fce m i) 1).2 + (cpt m (fce m i) 2).2 := rfl
  have e3 : cpt m (fce m i) 3 = cpt m (fce m i) 0 := rfl
  rcases (by omega : k = 0 ∨ k = 1 ∨ k = 2) with rfl | rfl | rfl
  · exact ⟨_, h, ex, ey⟩
  · rw [turn_rotX] at h
    exact ⟨cpt m (fce m i) 0, h, by show _ = (cpt m (fce m i) 1).1 + (cpt m (fce m i) 2).1 + _; rw [ex]; omega, by show _ = (cpt m (fce m i) 1).2 + (cpt m (fce m i) 2).2 + _; rw [ey]; omega⟩
  · rw [turn_rotX, turn_rotX] at h
    exact ⟨cpt m (fce m i) 1, by rw [e3]; exact h, by rw [ex, e3]; omega, by rw [ey, e3]; omega⟩
theorem sq_pos {a : Int} (h : a ≠ 0) : 0 < a * a := by
  rcases (by omega : 0 < a ∨ a < 0) with h1 | h1
  · exact Int.mul_pos h1 h1
  · exact Int.mul_pos_of_neg_of_neg h1 h1
/-- Neighbours' points differ. -/
theorem den_pos {m : Msh} (hv : validM m = true) {i k : Nat} (hi : i < m.f.length) (hk : k < 3) (h : 0 ≤ nbF m i k) : 0 < denF m i (nbF m i k).toNat := by
  have hb := nbF_bd m i k
  obtain ⟨c, hc, c1, c2⟩ := nb_side h
  obtain ⟨j, hj⟩ : ∃ j, j = (nbF m i k).toNat := ⟨_, rfl⟩
  rw [← hj] at c1 c2 ⊢
  obtain ⟨x, x1, x2, x3⟩ := cpt_turn hv hi hk
  obtain ⟨y, y1, y2, y3⟩ := cpt_turn hv (i := j) (by omega) hc
  have d1 : cpt m (fce m j) c = cpt m (fce m i) (k + 1) := by unfold cpt; rw [c1]
  have d2 : cpt m (fce m j) (c + 1) = cpt m (fce m i) k := by unfold cpt; rw [c2]
  rw [d1, d2] at y1 y2 y3
  obtain ⟨A, hA⟩ : ∃ A, A = cpt m (fce m i) k := ⟨_, rfl⟩
  obtain ⟨B, hB⟩ : ∃ B, B = cpt m (fce m i) (k + 1) := ⟨_, rfl⟩
  rw [← hA, ← hB] at x1 x2 x3 y1 y2 y3
  have n1 := sq_nn (cenX m i - cenX m j)
  have n2 := sq_nn (cenY m i - cenY m j)
  unfold denF
  by_cases e1 : cenX m i - cenX m j = 0
  · by_cases e2 : cenY m i - cenY m j = 0
    · exfalso
      have : x = y := Prod.ext (by omega) (by omega)
      subst this
      rw [turn_anti] at y1
      omega
    · have := sq_pos e2
      omega
  · have := sq_pos e1
    omega
end Go.Gv

set_option linter.unusedSimpArgs false
namespace Go.Gv
/-- The turns of a face's sides and a point. -/
def tn0 (m : Msh) (i : Nat) (p : Pnt) : Int := turnP (ptS (spA m i)) (ptS (spB m i)) p
def tn1 (m : Msh) (i : Nat) (p : Pnt) : Int := turnP (ptS (spB m i)) (ptS (spC m i)) p
def tn2 (m : Msh) (i : Nat) (p : Pnt) : Int := turnP (ptS (spC m i)) (ptS (spA m i)) p
/-- The first side on the right of which a point is. -/
def osF (m : Msh) (i : Nat) (p : Pnt) : Int := if tn0 m i p < 0 then 0 else if tn1 m i p < 0 then 1 else if tn2 m i p < 0 then 2 else -1
/-- The face of a point. -/
def fndF (m : Msh) (p : Pnt) : Int := idxD (fun i => decide (osF m i p < 0)) (List.range m.f.length)
theorem osF_bd (m : Msh) (i : Nat) (p : Pnt) : osF m i p = -1 ∨ osF m i p = 0 ∨ osF m i p = 1 ∨ osF m i p = 2 := by
  unfold osF
  split
  · simp
  · split
    · simp
    · split <;> simp
theorem fndF_bd (m : Msh) (p : Pnt) : fndF m p < m.f.length ∧ -1 ≤ fndF m p := by
  have := idxD_bd (fun i => decide (osF m i p < 0)) (List.range m.f.length)
  rw [List.length_range] at this
  exact ⟨this.2, this.1⟩
theorem fndF_on {m : Msh} {p : Pnt} (h : 0 ≤ fndF m p) : (fndF m p).toNat < m.f.length ∧ osF m (fndF m p).toNat p < 0 := by
  have e : fndF m p = ((fndF m p).toNat : Int) := by omega
  obtain ⟨h1, h2⟩ := idxD_at (p := fun i => decide (osF m i p < 0)) (xs := List.range m.f.length) e
  simp at h1 h2
  exact ⟨h1, h2⟩
theorem osF_on {m : Msh} {i : Nat} {p : Pnt} (h : osF m i p < 0) : 0 ≤ tn0 m i p ∧ 0 ≤ tn1 m i p ∧ 0 ≤ tn2 m i p := by
  unfold osF at h
  split at h
  · omega
  · split at h
    · omega
    · split at h
      · omega
      · omega
def cor9 (m : Msh) (i : Nat) : List D := [.int .i64 (spA m i).x, .int .i64 (spA m i).y, .int .i64 (spA m i).z, .int .i64 (spB m i).x, .int .i64 (spB m i).y, .int .i64 (spB m i).z, .int .i64 (spC m i).x, .int .i64 (spC m i).y, .int .i64 (spC m i).z]
theorem cor9_eq (m : Msh) (i : Nat) : cor9 m i = [.int .i64 (spA m i).x, .int .i64 (spA m i).y, .int .i64 (spA m i).z, .int .i64 (spB m i).x, .int .i64 (spB m i).y, .int .i64 (spB m i).z, .int .i64 (spC m i).x, .int .i64 (spC m i).y, .int .i64 (spC m i).z] := _root_.id rfl
theorem sp_okP {m : Msh} (hv : validM m = true) {i : Nat} (hi : i < m.f.length) : okP (ptS (spA m i)) = true ∧ okP (ptS (spB m i)) = true ∧ okP (ptS (spC m i)) = true := by
  obtain ⟨h1, h2, h3⟩ := sp_bd hv hi
  exact ⟨okP_of h1, okP_of h2, okP_of h3⟩
@[simp] theorem ptD_len (p : Pnt) : (ptD p).length = 2 := _root_.id rfl
@[simp] theorem ptD_take (p : Pnt) : List.take 2 (ptD p) = ptD p := _root_.id rfl
@[simp] theorem ptD_v (p : Pnt) : (∀ x, x ∈ ptD p → isV x = true) = True := by simp [ptD]
@[simp] theorem ptD_c (p : Pnt) : (∀ x, x ∈ ptD p → isC1 x = true) = True := by simp [ptD]
variable {C : CC} (hC : Closed prog C)
include hC
theorem lcorners_c (m : Msh) (i : Nat) (hi : i < m.f.length) (h : inS m (fce m i) = true) : C 319 [.agg (mshC m), .int .i64 i] (.agg (cor9 m i)) [] := by
  obtain ⟨⟨a1, a2⟩, ⟨b1, b2⟩, ⟨c1, c2⟩⟩ := inS_bd h
  refine start hC (nf := N319_locate_corners) rfl rfl ?_
  simp [N319_locate_corners, mshC_eq, hi, fceC_eq, a1, a2, b1, b2, c1, c2, sptC_eq, cor9, spA, spB, spC]
  exact indW_of (by decide +kernel)
theorem lat_c (s : Spt) : C 321 [.agg (sptC s)] (.agg (ptD (ptS s))) [] := by
  refine start hC (nf := N321_locate_at) rfl rfl ?_
  simp [N321_locate_at, sptC, ptD, ptS]
theorem lturn_c {a b c : Pnt} (ha : okP a = true) (hb : okP b = true) (hc : okP c = true) : C 320 [.agg (ptD a), .agg (ptD b), .agg (ptD c)] (.int .i64 (turnP a b c)) [] := by
  have := okP_bd ha
  have := okP_bd hb
  have := okP_bd hc
  have h4 := turn_bd ha hb hc
  refine start hC (nf := N320_locate_turn) rfl rfl ?_
  have w1 : IntKind.wrap .i64 (b.1 - a.1) = b.1 - a.1 := wrap_i64 rfl (by omega)
  have w2 : IntKind.wrap .i64 (c.2 - a.2) = c.2 - a.2 := wrap_i64 rfl (by omega)
  have w3 : IntKind.wrap .i64 (b.2 - a.2) = b.2 - a.2 := wrap_i64 rfl (by omega)
  have w4 : IntKind.wrap .i64 (c.1 - a.1) = c.1 - a.1 := wrap_i64 rfl (by omega)
  have w5 : IntKind.wrap .i64 ((b.1 - a.1) * (c.2 - a.2)) = (b.1 - a.1) * (c.2 - a.2) := wrap_i64 rfl (by omega)
  have w6 : IntKind.wrap .i64 ((b.2 - a.2) * (c.1 - a.1)) = (b.2 - a.2) * (c.1 - a.1) := wrap_i64 rfl (by omega)
  have w7 : IntKind.wrap .i64 ((b.1 - a.1) * (c.2 - a.2) - (b.2 - a.2) * (c.1 - a.1)) = turnP a b c := wrap_i64 rfl (by rw [turnP]; omega)
  simp [N320_locate_turn, ptD, w1, w2, w3, w4, w5, w6, w7]
set_option maxHeartbeats 2000000 in
theorem louter_c (m : Msh) (hv : validM m = true) (i : Nat) (hi : i < m.f.length) (p : Pnt) (hp : okP p = true) : C 284 [.agg (mshC m), .int .i64 i, .agg (ptD p)] (.int .i64 (osF m i p)) [] := by
  obtain ⟨oa, ob, oc⟩ := sp_okP hv hi
  have k0 := lcorners_c hC m i hi (valid_in hv hi)
  have ka := lat_c hC (spA m i)
  have kb := lat_c hC (spB m i)
  have kc := lat_c hC (spC m i)
  have t0 : C 320 [.agg (ptD (ptS (spA m i))), .agg (ptD (ptS (spB m i))), .agg (ptD p)] (.int .i64 (tn0 m i p)) [] := lturn_c hC oa ob hp
  have t1 : C 320 [.agg (ptD (ptS (spB m i))), .agg (ptD (ptS (spC m i))), .agg (ptD p)] (.int .i64 (tn1 m i p)) [] := lturn_c hC ob oc hp
  have t2 : C 320 [.agg (ptD (ptS (spC m i))), .agg (ptD (ptS (spA m i))), .agg (ptD p)] (.int .i64 (tn2 m i p)) [] := lturn_c hC oc oa hp
  have w1 : IntKind.wrap .i64 1 = 1 := by decide
  have w2 : IntKind.wrap .i64 2 = 2 := by decide
  have w3 : IntKind.wrap .i64 3 = 3 := by decide
  have m1 : Int.tmod 1 3 = 1 := by decide
  have m2 : Int.tmod 2 3 = 2 := by decide
  have m3 : Int.tmod 3 3 = 0 := by decide
  simp only [mshC_eq, sptC_eq, cor9_eq] at k0 ka kb kc
  refine start hC (nf := N284_locate_outer) rfl rfl ?_
  simp [N284_locate_outer, mshC_eq]
  refine callW_of k0 (.inl rfl) ?_
  simp
  refine loop_of Nat (fun k => [(5, .ptr (ptD p)), (7, .adr (.r 10112) 0 0), (12, .int .i64 k), (10112, .blk 9 [cor9 m i])]) (fun k => k ≤ 3 ∧ (1 ≤ k → ¬ tn0 m i p < 0) ∧ (2 ≤ k → ¬ tn1 m i p < 0) ∧ (3 ≤ k → ¬ tn2 m i p < 0)) (fun k => 3 - k) 0 (by simp) (by simp [cor9_eq]) ?_
  rintro k ⟨hk, h0, h1, h2⟩
  rcases (by omega : k = 0 ∨ k = 1 ∨ k = 2 ∨ k = 3) with rfl | rfl | rfl | rfl
  · simp [cor9_eq, w1]
    refine callW_of ka (.inl rfl) ?_
    simp [w1, m1]
    refine callW_of kb (.inl rfl) ?_
    simp
    refine callW_of t0 (.inl rfl) ?_
    simp
    refine ⟨indW_of (by decide +kernel), ?_⟩
    refine brB_of (fun c => ?_) (fun c => ?_) <;> simp at c
    · simp [c, osF]
    · simp [c]
      exact ⟨1, by omega, by omega, by simp [cor9_eq, w1]⟩
  · have h0 := h0 (by omega)
    simp [cor9_eq, w2]
    refine callW_of kb (.inl rfl) ?_
    simp [w2, m2]
    refine callW_of kc (.inl rfl) ?_
    simp
    refine callW_of t1 (.inl rfl) ?_
    simp
    refine ⟨indW_of (by decide +kernel), ?_⟩
    refine brB_of (fun c => ?_) (fun c => ?_) <;> simp at c
    · simp [c, osF, h0]
    · simp [c]
      exact ⟨2, by omega, by omega, by simp [cor9_eq, w2]⟩
  · have h0 := h0 (by omega)
    have h1 := h1 (by omega)
    simp [cor9_eq, w3]
    refine callW_of kc (.inl rfl) ?_
    simp [w3, m3]
    refine callW_of ka (.inl rfl) ?_
    simp
    refine callW_of t2 (.inl rfl) ?_
    simp
    refine ⟨indW_of (by decide +kernel), ?_⟩
    refine brB_of (fun c => ?_) (fun c => ?_) <;> simp at c
    · simp [c, osF, h0, h1]
    · simp [c]
      exact ⟨3, by omega, by omega, by simp [cor9_eq, w3]⟩
  · have h0 := h0 (by omega)
    have h1 := h1 (by omega)
    have h2 := h2 (by omega)
    simp [osF, h0, h1, h2]
set_option maxHeartbeats 2000000 in
theorem lfind_c (m : Msh) (hv : validM m = true) (hm : m.f.length ≤ 100) (p : Pnt) (hp : okP p = true) : C 276 [.agg (mshC m), .agg (ptD p)] (.int .i64 (fndF m p)) [] := by
  have ko := fun i hi => louter_c hC m hv i hi p hp
  simp only [mshC_eq] at ko
  refine start hC (nf := N276_locate_find) rfl rfl ?_
  simp [N276_locate_find, mshC_eq]
  refine loop_of Nat (fun i => [(2, .ptr (mshC m)), (3, .ptr (ptD p)), (8, .int .i64 m.f.length), (9, .int .i64 i)]) (fun i => i ≤ m.f.length ∧ ∀ j, j < i → ¬ osF m j p < 0) (fun i => m.f.length - i) 0 (by simp) (by simp [mshC_eq]) ?_
  rintro i ⟨hi, hj⟩
  simp [mshC_eq]
  refine brB_of (fun g1 => ?_) (fun g1 => ?_) <;> simp at g1 <;> simp [g1]
  · have hw : IntKind.wrap .i64 ((i : Int) + 1) = ((i + 1 : Nat) : Int) := wrap_i64 (by omega) (by omega)
    refine callW_of (ko i g1) (.inl rfl) ?_
    simp
    refine brB_of (fun c => ?_) (fun c => ?_) <;> simp at c
    · simp [c]
      refine (idxD_step (fun j hl hji => ?_) (by simpa using g1) ?_).symm
      · have := hj j hji
        simpa using this
      · simpa using c
    · simp [c]
      refine ⟨i + 1, ⟨by omega, fun j hji => ?_⟩, by omega, by simp [mshC_eq, hw]⟩
      rcases Nat.lt_succ_iff_lt_or_eq.1 hji with h | rfl
      · exact Int.not_lt.1 (hj j h)
      · exact c
  · refine (idxD_none (fun j hl => ?_)).symm
    rw [List.length_range] at hl
    have := hj j (by omega)
    simpa using this
theorem idxPnt_c {b : Bool} {xs : List Pnt} {g : Nat} {cs : List D} (p : Pnt → Bool) (hs : xs.length < 2 ^ 62) (hp : ∀ x ∈ xs, C g (.agg (ptD x) :: cs) (.bool (p x)) []) : C 278 [slx b (xs.map fun x => ptD x), .fn g cs] (.int .i64 (idxD p xs)) [] := by
  refine start hC (nf := N278_slices_IndexFunc__api_Point_api_Point) rfl rfl ?_
  simp [N278_slices_IndexFunc__api_Point_api_Point]
  refine loop_of Nat (fun i => [(0, slx b (xs.map fun x => ptD x)), (1, .fn g cs), (7, .int .i64 xs.length), (8, .int .i64 i)]) (fun i => i ≤ xs.length ∧ ∀ (j : Nat) (h : j < xs.length), j < i → p xs[j] = false) (fun i => xs.length - i) 0 (by simp) (by simp) ?_
  rintro i ⟨hi, hj⟩
  simp
  refine brB_of (fun h => ?_) (fun h => ?_) <;> simp [h] <;> simp at h
  · have hw : IntKind.wrap .i64 ((i : Int) + 1) = ((i + 1 : Nat) : Int) := wrap_i64 (by omega) (by omega)
    have hc := hp _ (List.getElem_mem h)
    simp [h, ptD] at hc ⊢
    refine callW_of hc (.inl rfl) ?_
    simp
    refine brB_of (fun h1 => ?_) (fun h1 => ?_) <;> simp [h1, hw]
    · rw [idxD_step hj h h1]
    · refine ⟨i + 1, ⟨by omega, fun j hl hjj => ?_⟩, by omega, rfl⟩
      rcases Nat.lt_succ_iff_lt_or_eq.1 hjj with h2 | rfl
      · exact hj j hl h2
      · exact h1
  · rw [idxD_none (fun j hl => hj j hl (by omega))]
theorem hasPnt_c {b : Bool} {xs : List Pnt} {g : Nat} {cs : List D} (p : Pnt → Bool) (hs : xs.length < 2 ^ 62) (hp : ∀ x ∈ xs, C g (.agg (ptD x) :: cs) (.bool (p x)) []) : C 239 [slx b (xs.map fun x => ptD x), .fn g cs] (.bool (xs.any p)) [] := by
  refine start hC (nf := N239_slices_ContainsFunc__api_Point_api_Point) rfl rfl ?_
  simp [N239_slices_ContainsFunc__api_Point_api_Point]
  refine callW_of (idxPnt_c hC p hs hp) (.inl rfl) ?_
  simp [idxD_any]
theorem lvalid1_c (p : Pnt) : C 312 [.agg (ptD p)] (.bool (!okP p)) [] := by
  have k := pValid_c hC p
  simp only [ptD] at k
  refine start hC (nf := N312_locate_valid_1) rfl rfl ?_
  simp [N312_locate_valid_1, ptD]
  refine callW_of k (.inl rfl) ?_
  simp
end Go.Gv

set_option linter.unusedSimpArgs false
namespace Go.Gv
def onE (m : Msh) (p : Pnt) : Int := if validM m = true ∧ okP p = true then (if fndF m p < 0 then 12 else 0) else 1
def onV (m : Msh) (p : Pnt) : Int := if onE m p = 0 then fndF m p else 0
theorem onE_at {m : Msh} {p : Pnt} (h : onE m p = 0) : validM m = true ∧ okP p = true ∧ 0 ≤ fndF m p := by
  unfold onE at h
  split at h
  · rename_i h1
    refine ⟨h1.1, h1.2, ?_⟩
    split at h
    · omega
    · omega
  · omega
/-- A walk: the rest of the steps, and the face. -/
def wlk (m : Msh) (p : Pnt) : Nat → Nat → Int × Int × Int
  | r, f => if osF m f p < 0 then ((f : Int), ((m.f.length - r : Nat) : Int), 0) else if nbF m f (osF m f p).toNat < 0 then (0, 0, 12) else match r with
    | 0 => (0, 0, 6)
    | r + 1 => wlk m p r (nbF m f (osF m f p).toNat).toNat
theorem wlk_on {m : Msh} {p : Pnt} {r f : Nat} (h : osF m f p < 0) : wlk m p r f = ((f : Int), ((m.f.length - r : Nat) : Int), 0) := by
  cases r <;> rw [wlk, if_pos h]
theorem wlk_none {m : Msh} {p : Pnt} {r f : Nat} (h : ¬ osF m f p < 0) (h2 : nbF m f (osF m f p).toNat < 0) : wlk m p r f = (0, 0, 12) := by
  cases r <;> rw [wlk, if_neg h, if_pos h2]
theorem wlk_lim {m : Msh} {p : Pnt} {f : Nat} (h : ¬ osF m f p < 0) (h2 : ¬ nbF m f (osF m f p).toNat < 0) : wlk m p 0 f = (0, 0, 6) := by
  rw [wlk, if_neg h, if_neg h2]
theorem wlk_go {m : Msh} {p : Pnt} {r f : Nat} (h : ¬ osF m f p < 0) (h2 : ¬ nbF m f (osF m f p).toNat < 0) : wlk m p (r + 1) f = wlk m p r (nbF m f (osF m f p).toNat).toNat := by
  rw [wlk, if_neg h, if_neg h2]
def wkR (m : Msh) (from_ : Int) (p : Pnt) : Int × Int × Int := if validM m = true ∧ okP p = true then (if inR1 m.f.length from_ = true then wlk m p m.f.length from_.toNat else (0, 0, 2)) else (0, 0, 1)
def trpD (t : Int × Int × Int) : D := .tup [.int .i64 t.1, .int .i64 t.2.1, .int .i64 t.2.2]
variable {C : CC} (hC : Closed prog C)
include hC
theorem lvalid_c (dec : Nat → List UInt8) (hI : ∀ n : Nat, n < 100 → C 127 [.int .i64 n] (.str (dec n)) []) (m : Msh) (hz : smallM m = true → m.s.length ≤ 100 ∧ m.f.length ≤ 100) (b : Bool) (ps : List Pnt) (hp : ps.length < 2 ^ 62) :
    C 275 [.agg (mshC m), slx b (ps.map fun x => ptD x)] (.bool (validM m && ps.all okP)) [] := by
  have k1 := mValid_c hC dec hI m hz
  have k2 := hasPnt_c hC (b := b) (xs := ps) (g := 312) (cs := []) (fun x => !okP x) hp (fun x _ => lvalid1_c hC x)
  have e : (ps.any fun x => !okP x) = !ps.all okP := by rw [List.all_eq_not_any_not, Bool.not_not]
  rw [e] at k2
  refine start hC (nf := N275_locate_valid) rfl rfl ?_
  simp only [mshC_eq] at k1
  simp [N275_locate_valid, mshC_eq]
  refine callW_of k1 (.inl rfl) ?_
  cases validM m
  · simp
  · simp
    refine callW_of k2 (.inl rfl) ?_
    simp
theorem lon_c (dec : Nat → List UInt8) (hI : ∀ n : Nat, n < 100 → C 127 [.int .i64 n] (.str (dec n)) []) (m : Msh) (hz : smallM m = true → m.s.length ≤ 100 ∧ m.f.length ≤ 100) (p : Pnt) :
    C 274 [.agg (mshC m), .agg (ptD p)] (.tup [.int .i64 (onV m p), .int .i64 (onE m p)]) [] := by
  have k1 := lvalid_c hC dec hI m hz false [p] (by simp)
  simp at k1
  refine start hC (nf := N274_locate_on) rfl rfl ?_
  simp only [mshC_eq] at k1
  simp only [ptD] at k1
  simp [N274_locate_on, mshC_eq, ptD]
  refine callW_of k1 (.inl rfl) ?_
  by_cases hv : validM m = true ∧ okP p = true
  · have hm := (hz (by have := hv.1; simp only [validM, Bool.and_eq_true] at this; exact this.1)).2
    have k2 := lfind_c hC m hv.1 hm p hv.2
    simp only [mshC_eq, ptD] at k2
    simp [hv.1, hv.2]
    refine callW_of k2 (.inl rfl) ?_
    simp
    refine brB_of (fun c => ?_) (fun c => ?_) <;> simp at c <;> simp [c, onE, onV, hv.1, hv.2]
  · have e : (validM m && okP p) = false := by
      cases h1 : validM m <;> cases h2 : okP p <;> simp [h1, h2] at hv ⊢
    simp [e, onE, onV, hv]
end Go.Gv

set_option linter.unusedSimpArgs false
namespace Go.Gv
open Go.Lib
/-- The numerator and the denominator of a level. -/
def numL (m : Msh) (i : Nat) (p : Pnt) : Int := (spA m i).z * tn1 m i p + (spB m i).z * tn2 m i p + (spC m i).z * tn0 m i p
def denL (m : Msh) (i : Nat) : Int := turnP (ptS (spA m i)) (ptS (spB m i)) (ptS (spC m i))
theorem tn_sum (m : Msh) (i : Nat) (p : Pnt) : tn0 m i p + tn1 m i p + tn2 m i p = denL m i := by
  unfold tn0 tn1 tn2 denL turnP ptS
  grind
theorem tn_rot1 (m : Msh) (i : Nat) (p : Pnt) : turnP p (ptS (spB m i)) (ptS (spC m i)) = tn1 m i p := by
  unfold tn1 turnP; grind
theorem tn_rot2 (m : Msh) (i : Nat) (p : Pnt) : turnP p (ptS (spC m i)) (ptS (spA m i)) = tn2 m i p := by
  unfold tn2 turnP; grind
theorem tn_rot0 (m : Msh) (i : Nat) (p : Pnt) : turnP p (ptS (spA m i)) (ptS (spB m i)) = tn0 m i p := by
  unfold tn0 turnP; grind
theorem tn_rot3 (m : Msh) (i : Nat) (p : Pnt) : turnP (ptS (spA m i)) p (ptS (spC m i)) = tn2 m i p := by
  unfold tn2 turnP; grind
theorem turnP_bd {a b c : Pnt} (ha : okP a = true) (hb : okP b = true) (hc : okP c = true) : -2251799813685248 ≤ turnP a b c ∧ turnP a b c ≤ 2251799813685248 := by
  have := turn_bd ha hb hc
  unfold turnP
  omega
/-- What is known of a point on a face. -/
structure OnF (m : Msh) (i : Nat) (p : Pnt) : Prop where
  z0 : -4194304 ≤ (spA m i).z ∧ (spA m i).z ≤ 4194304
  z1 : -4194304 ≤ (spB m i).z ∧ (spB m i).z ≤ 4194304
  z2 : -4194304 ≤ (spC m i).z ∧ (spC m i).z ≤ 4194304
  t0 : 0 ≤ tn0 m i p ∧ tn0 m i p ≤ 2251799813685248
  t1 : 0 ≤ tn1 m i p ∧ tn1 m i p ≤ 2251799813685248
  t2 : 0 ≤ tn2 m i p ∧ tn2 m i p ≤ 2251799813685248
  d : 0 < denL m i ∧ denL m i ≤ 2251799813685248
theorem onF_of {m : Msh} (hv : validM m = true) {i : Nat} (hi : i < m.f.length) {p : Pnt} (hp : okP p = true) (h : osF m i p < 0) : OnF m i p := by
  obtain ⟨oa, ob, oc⟩ := sp_okP hv hi
  obtain ⟨r1, r2, r3⟩ := sp_bd hv hi
  have := rightS_bd r1
  have := rightS_bd r2
  have := rightS_bd r3
  obtain ⟨n0, n1, n2⟩ := osF_on h
  have b0 : tn0 m i p ≤ 2251799813685248 := (turnP_bd oa ob hp).2
  have b1 : tn1 m i p ≤ 2251799813685248 := (turnP_bd ob oc hp).2
  have b2 : tn2 m i p ≤ 2251799813685248 := (turnP_bd oc oa hp).2
  have bd : denL m i ≤ 2251799813685248 := (turnP_bd oa ob oc).2
  have hd : 0 < denL m i := (valid_f hv hi).2
  exact ⟨by omega, by omega, by omega, by omega, by omega, by omega, by omega⟩
theorem mulz_bd {z t : Int} (hz : -4194304 ≤ z ∧ z ≤ 4194304) (ht : 0 ≤ t) : -(4194304 * t) ≤ z * t ∧ z * t ≤ 4194304 * t := by
  have h1 := Int.mul_nonneg (show 0 ≤ 4194304 - z by omega) ht
  have h2 := Int.mul_nonneg (show 0 ≤ 4194304 + z by omega) ht
  rw [Int.sub_mul] at h1
  rw [Int.add_mul] at h2
  omega
theorem OnF.num {m : Msh} {i : Nat} {p : Pnt} (h : OnF m i p) : -(4194304 * denL m i) ≤ numL m i p ∧ numL m i p ≤ 4194304 * denL m i := by
  have e := tn_sum m i p
  have h1 := mulz_bd h.z0 h.t1.1
  have h2 := mulz_bd h.z1 h.t2.1
  have h3 := mulz_bd h.z2 h.t0.1
  unfold numL
  rw [← e]
  omega
theorem div_bd {n d k : Int} (hd : 0 < d) (h : -(k * d) ≤ n ∧ n ≤ k * d) : -k ≤ n / d ∧ n / d ≤ k := by
  constructor
  · exact (Int.le_ediv_iff_mul_le hd).2 (by rw [Int.neg_mul]; exact h.1)
  · exact Int.le_of_lt_add_one ((Int.ediv_lt_iff_lt_mul hd).2 (by rw [Int.add_mul]; omega))
def loF (m : Msh) (i : Nat) (p : Pnt) : Int := numL m i p / denL m i
def hiF (m : Msh) (i : Nat) (p : Pnt) : Int := -(-numL m i p / denL m i)
theorem OnF.lo {m : Msh} {i : Nat} {p : Pnt} (h : OnF m i p) : -4194304 ≤ loF m i p ∧ loF m i p ≤ 4194304 := div_bd h.d.1 h.num
theorem OnF.hi {m : Msh} {i : Nat} {p : Pnt} (h : OnF m i p) : -4194304 ≤ hiF m i p ∧ hiF m i p ≤ 4194304 := by
  have := div_bd (n := -numL m i p) (k := 4194304) h.d.1 (by have := h.num; omega)
  unfold hiF
  omega
variable {C : CC} (hC : Closed prog C)
include hC
theorem ProductT_c (z t : Int) (hz : -4194304 ≤ z ∧ z ≤ 4194304) (ht : 0 ≤ t ∧ t ≤ 2251799813685248) : C 99 [.int .i64 z, .int .i64 t] (.tup [wiS (z * t), .int .i64 0]) [] := by
  obtain ⟨n, rfl⟩ : ∃ n : Nat, t = n := ⟨t.toNat, by omega⟩
  have h3 : z.natAbs * n ≤ 4194304 * 2251799813685248 := Nat.mul_le_mul (by omega) (by omega)
  exact ProductS_c hC z n (by omega) (by omega) (by omega)
set_option maxHeartbeats 4000000 in
theorem lexact_c (m : Msh) (hv : validM m = true) (i : Nat) (hi : i < m.f.length) (p : Pnt) (hp : okP p = true) (h : osF m i p < 0) :
    C 300 [.agg (mshC m), .int .i64 i, .agg (ptD p)] (.tup [wiS (numL m i p), .int .i64 (denL m i), .int .i64 0]) [] := by
  have H := onF_of hv hi hp h
  obtain ⟨oa, ob, oc⟩ := sp_okP hv hi
  have k0 := lcorners_c hC m i hi (valid_in hv hi)
  have ka := lat_c hC (spA m i)
  have kb := lat_c hC (spB m i)
  have kc := lat_c hC (spC m i)
  have t1 := lturn_c hC hp ob oc
  have t2 := lturn_c hC hp oc oa
  have t0 := lturn_c hC hp oa ob
  have td : C 320 _ (.int .i64 (denL m i)) [] := lturn_c hC oa ob oc
  rw [tn_rot1] at t1
  rw [tn_rot2] at t2
  rw [tn_rot0] at t0
  have x1 := ProductT_c hC _ _ H.z0 H.t1
  have x2 := ProductT_c hC _ _ H.z1 H.t2
  have x0 := ProductT_c hC _ _ H.z2 H.t0
  have b1 := mulz_bd H.z0 H.t1.1
  have b2 := mulz_bd H.z1 H.t2.1
  have b0 := mulz_bd H.z2 H.t0.1
  have c0 := H.t0
  have c1 := H.t1
  have c2 := H.t2
  have en : numL m i p = (spA m i).z * tn1 m i p + (spB m i).z * tn2 m i p + (spC m i).z * tn0 m i p := rfl
  obtain ⟨u1, hu1⟩ : ∃ u, u = (spA m i).z * tn1 m i p := ⟨_, rfl⟩
  obtain ⟨u2, hu2⟩ : ∃ u, u = (spB m i).z * tn2 m i p := ⟨_, rfl⟩
  obtain ⟨u0, hu0⟩ : ∃ u, u = (spC m i).z * tn0 m i p := ⟨_, rfl⟩
  rw [← hu1] at x1 b1 en
  rw [← hu2] at x2 b2 en
  rw [← hu0] at x0 b0 en
  have y1 := AddS_c hC 0 u1 (by omega) (by omega)
  have y2 := AddS_c hC u1 u2 (by omega) (by omega)
  have y3 := AddS_c hC (u1 + u2) u0 (by omega) (by omega)
  rw [Int.zero_add] at y1
  rw [← en] at y3
  have ez : wiS 0 = .agg [.int .i64 0, .int .i64 0] := by simp [wiS]
  obtain ⟨p1, q1, _, _, e1⟩ := wiS_parts u1
  obtain ⟨p2, q2, _, _, e2⟩ := wiS_parts u2
  obtain ⟨p3, q3, _, _, e3⟩ := wiS_parts u0
  obtain ⟨p4, q4, _, _, e4⟩ := wiS_parts (u1 + u2)
  obtain ⟨p5, q5, _, _, e5⟩ := wiS_parts (numL m i p)
  rw [e1] at x1
  rw [e2] at x2
  rw [e3] at x0
  rw [ez, e1] at y1
  rw [e1, e2, e4] at y2
  rw [e4, e3, e5] at y3
  rw [e5]
  have w0 : IntKind.wrap .i64 0 = 0 := by decide
  have w1 : IntKind.wrap .i64 1 = 1 := by decide
  have w2 : IntKind.wrap .i64 2 = 2 := by decide
  have w3 : IntKind.wrap .i64 3 = 3 := by decide
  have w4 : IntKind.wrap .i64 4 = 4 := by decide
  have m1 : Int.tmod 1 3 = 1 := by decide
  have m2 : Int.tmod 2 3 = 2 := by decide
  have m3 : Int.tmod 3 3 = 0 := by decide
  have m4 : Int.tmod 4 3 = 1 := by decide
  clear e1 e2 e3 e4 e5 en hu0 hu1 hu2 b0 b1 b2 c0 c1 c2 H
  simp only [mshC_eq, sptC_eq, cor9_eq] at k0 ka kb kc
  refine start hC (nf := N300_locate_exact) rfl rfl ?_
  simp [N300_locate_exact, mshC_eq]
  refine callW_of k0 (.inl rfl) ?_
  simp
  refine loop_of Nat (fun k => [(5, .ptr (ptD p)), (6, .adr (.r 10096) 0 0), (9, .adr (.r 10144) 0 0), (17, .agg (cor9 m i)), (18, .int .i64 k), (10144, .blk 9 [cor9 m i]),
    (10096, .blk 2 [if k = 0 then [.int .i64 0, .int .i64 0] else if k = 1 then [.int .i64 p1, .int .i64 q1] else if k = 2 then [.int .i64 p4, .int .i64 q4] else [.int .i64 p5, .int .i64 q5]])]) (fun k => k ≤ 3) (fun k => 3 - k) 0 (by simp) (by simp [cor9_eq]) ?_
  rintro k hk
  rcases (by omega : k = 0 ∨ k = 1 ∨ k = 2 ∨ k = 3) with rfl | rfl | rfl | rfl
  · simp [cor9_eq, w1, m1]
    refine callW_of kb (.inl rfl) ?_
    simp [w2, m2]
    refine callW_of kc (.inl rfl) ?_
    simp
    refine callW_of t1 (.inl rfl) ?_
    simp
    refine callW_of x1 (.inr rfl) ?_
    simp
    refine ⟨indW_of (by decide +kernel), ?_⟩
    refine callW_of y1 (.inr rfl) ?_
    simp
    exact ⟨1, by omega, by omega, by simp [cor9_eq, w1]⟩
  · simp [cor9_eq, w2, m2]
    refine callW_of kc (.inl rfl) ?_
    simp [w3, m3]
    refine callW_of ka (.inl rfl) ?_
    simp
    refine callW_of t2 (.inl rfl) ?_
    simp
    refine callW_of x2 (.inr rfl) ?_
    simp
    refine ⟨indW_of (by decide +kernel), ?_⟩
    refine callW_of y2 (.inr rfl) ?_
    simp
    exact ⟨2, by omega, by omega, by simp [cor9_eq, w2]⟩
  · simp [cor9_eq, w3, m3]
    refine callW_of ka (.inl rfl) ?_
    simp [w4, m4]
    refine callW_of kb (.inl rfl) ?_
    simp
    refine callW_of t0 (.inl rfl) ?_
    simp
    refine callW_of x0 (.inr rfl) ?_
    simp
    refine ⟨indW_of (by decide +kernel), ?_⟩
    refine callW_of y3 (.inr rfl) ?_
    simp
    exact ⟨3, by omega, by omega, by simp [cor9_eq, w3]⟩
  · simp [cor9_eq]
    refine callW_of ka (.inl rfl) ?_
    simp
    refine callW_of kb (.inl rfl) ?_
    simp
    refine callW_of kc (.inl rfl) ?_
    simp
    refine callW_of td (.inl rfl) ?_
    simp
    exact indW_of (by decide +kernel)
theorem OnF.qv {m : Msh} {i : Nat} {p : Pnt} (h : OnF m i p) : (numL m i p).natAbs / (denL m i).natAbs ≤ 4194304 := by
  have h1 := h.num
  have h2 := h.d.1
  have h3 : (numL m i p).natAbs ≤ 4194304 * (denL m i).natAbs := by omega
  exact Nat.div_le_of_le_mul (by rw [Nat.mul_comm]; exact h3)
/-- Floor and ceiling of a wide number, by a positive one. -/
theorem floorW_c (v : Int) (d : Nat) (up : Bool) (hd0 : 0 < d) (hd : d ≤ 2251799813685248) (hv : v.natAbs ≤ 4194304 * d) : C 301 [wiS v, .int .i64 d, .bool up] (.tup [.int .i64 (if up then -(-v / d) else v / d), .int .i64 0]) [] := by
  have k1 := wvalidS_c hC v (by omega)
  have k2 := valueS_c hC v (by omega)
  obtain ⟨Q, hQ⟩ : ∃ Q, Q = (if up then -(-v / (d : Int)) else v / (d : Int)) := ⟨_, rfl⟩
  have hdiv : v.natAbs / d ≤ 4194304 := Nat.div_le_of_le_mul (by rw [Nat.mul_comm]; exact hv)
  have k3 : C 104 [numS v, .int .i64 d, .bool up] (.tup [.int .i64 Q, .int .i64 0]) [] := by
    by_cases v0 : v < 0
    · obtain ⟨n, rfl⟩ : ∃ n : Nat, v = -(n : Int) := ⟨v.natAbs, by omega⟩
      rw [Int.natAbs_neg, Int.natAbs_natCast] at hv hdiv
      have k := quotientN_c hC n d up (if up then n / d else if n % d = 0 then n / d else n / d + 1) (by omega) (by omega) (by omega) (by split; omega; split <;> omega) rfl (by omega)
      have e1 : numS (-(n : Int)) = numD n true := numS_at (by omega) (decide_eq_true v0)
      have e2 : Q = -((if up then n / d else if n % d = 0 then n / d else n / d + 1 : Nat) : Int) := by
        rw [hQ]
        cases up
        · simp only [Bool.false_eq_true, if_false]
          exact neg_div_nat n d hd0
        · simp
      rw [e1, e2]
      exact k
    · obtain ⟨n, rfl⟩ : ∃ n : Nat, v = (n : Int) := ⟨v.natAbs, by omega⟩
      rw [Int.natAbs_natCast] at hv hdiv
      have hle : (n + d - 1) / d ≤ n / d + 1 := by
        have : (n + d - 1) / d ≤ (n + d) / d := Nat.div_le_div_right (by omega)
        rw [Nat.add_div_right _ hd0] at this
        exact this
      have k := quotient_c hC n d up (if up then (n + d - 1) / d else n / d) (by omega) (by omega) (by split <;> omega) rfl (by omega)
      have e1 : numS (n : Int) = numD n false := numS_at (by omega) (decide_eq_false v0)
      have e2 : Q = ((if up then (n + d - 1) / d else n / d : Nat) : Int) := by
        rw [hQ]
        cases up
        · simp
        · simp only [if_true]
          rw [neg_div_nat n d hd0, Int.neg_neg]
          congr 1
          have h1 := Nat.div_add_mod n d
          have h2 := Nat.mod_lt n hd0
          split
          · rename_i h
            have : n + d - 1 = d * (n / d) + (d - 1) := by omega
            rw [this, Nat.mul_add_div hd0, Nat.div_eq_of_lt (show d - 1 < d by omega)]
            rfl
          · rename_i h
            have : n + d - 1 = d * (n / d) + (d + (n % d - 1)) := by omega
            rw [this, Nat.mul_add_div hd0, Nat.add_div_left _ hd0, Nat.div_eq_of_lt (show n % d - 1 < d by omega)]
      rw [e1, e2]
      exact k
  rw [← hQ]
  obtain ⟨a1, a2, _, _, ea⟩ := wiS_parts v
  obtain ⟨f1, f2, f3, ef⟩ : ∃ (a1 a2 : Nat) (a3 : Bool), numS v = .agg [.int .u64 a1, .int .u64 a2, .bool a3] := ⟨_, _, _, rfl⟩
  rw [ea] at k1 k2 ⊢
  rw [ef] at k2 k3
  have h1 : ¬ d = 0 := by omega
  clear hQ ea ef
  refine start hC (nf := N301_wide_divided) rfl rfl ?_
  simp [N301_wide_divided]
  refine callW_of k1 (.inl rfl) ?_
  simp [h1]
  refine callW_of k2 (.inl rfl) ?_
  simp
  refine callW_of k3 (.inr rfl) ?_
  simp
theorem Floor_c (v : Int) (d : Nat) (hd0 : 0 < d) (hd : d ≤ 2251799813685248) (hv : v.natAbs ≤ 4194304 * d) : C 271 [wiS v, .int .i64 d] (.tup [.int .i64 (v / d), .int .i64 0]) [] := by
  have k := floorW_c hC v d false hd0 hd hv
  simp at k
  obtain ⟨Q, hQ⟩ : ∃ Q, Q = v / (d : Int) := ⟨_, rfl⟩
  rw [← hQ] at k ⊢
  obtain ⟨a1, a2, _, _, ea⟩ := wiS_parts v
  rw [ea] at k ⊢
  refine start hC (nf := N271_wide_Floor) rfl rfl ?_
  simp [N271_wide_Floor]
  refine callW_of k (.inl rfl) ?_
  simp
theorem Ceil_c (v : Int) (d : Nat) (hd0 : 0 < d) (hd : d ≤ 2251799813685248) (hv : v.natAbs ≤ 4194304 * d) : C 272 [wiS v, .int .i64 d] (.tup [.int .i64 (-(-v / d)), .int .i64 0]) [] := by
  have k := floorW_c hC v d true hd0 hd hv
  simp only [if_true] at k
  obtain ⟨Q, hQ⟩ : ∃ Q, Q = -(-v / (d : Int)) := ⟨_, rfl⟩
  rw [← hQ] at k ⊢
  obtain ⟨a1, a2, _, _, ea⟩ := wiS_parts v
  rw [ea] at k ⊢
  refine start hC (nf := N272_wide_Ceil) rfl rfl ?_
  simp [N272_wide_Ceil]
  refine callW_of k (.inl rfl) ?_
  simp
def wz : D := .agg [.int .i64 0, .int .i64 0]
theorem lExact_c (dec : Nat → List UInt8) (hI : ∀ n : Nat, n < 100 → C 127 [.int .i64 n] (.str (dec n)) []) (m : Msh) (hz : smallM m = true → m.s.length ≤ 100 ∧ m.f.length ≤ 100) (p : Pnt) :
    C 269 [.agg (mshC m), .agg (ptD p)] (if onE m p = 0 then .tup [wiS (numL m (fndF m p).toNat p), .int .i64 (denL m (fndF m p).toNat), .int .i64 0] else .tup [wz, .int .i64 0, .int .i64 (onE m p)]) [] := by
  have k1 := lon_c hC dec hI m hz p
  by_cases h0 : onE m p = 0
  · obtain ⟨hv, hp, hf⟩ := onE_at h0
    obtain ⟨hi, ho⟩ := fndF_on hf
    have k2 := lexact_c hC m hv _ hi p hp ho
    rw [if_pos h0]
    have e : onV m p = fndF m p := by rw [onV, if_pos h0]
    rw [h0, e] at k1
    rw [show (((fndF m p).toNat : Nat) : Int) = fndF m p by omega] at k2
    obtain ⟨a1, a2, _, _, ea⟩ := wiS_parts (numL m (fndF m p).toNat p)
    rw [ea] at k2 ⊢
    simp only [mshC_eq, ptD] at k1 k2
    refine start hC (nf := N269_locate_Exact) rfl rfl ?_
    simp [N269_locate_Exact, mshC_eq, ptD]
    refine callW_of k1 (.inl rfl) ?_
    simp
    refine callW_of k2 (.inr rfl) ?_
    simp
  · rw [if_neg h0]
    simp only [mshC_eq, ptD] at k1
    refine start hC (nf := N269_locate_Exact) rfl rfl ?_
    simp [N269_locate_Exact, mshC_eq, ptD]
    refine callW_of k1 (.inl rfl) ?_
    simp [h0, wz]
theorem lLevel_c (dec : Nat → List UInt8) (hI : ∀ n : Nat, n < 100 → C 127 [.int .i64 n] (.str (dec n)) []) (m : Msh) (hz : smallM m = true → m.s.length ≤ 100 ∧ m.f.length ≤ 100) (p : Pnt) :
    C 233 [.agg (mshC m), .agg (ptD p)] (if onE m p = 0 then .tup [.agg [.int .i64 (loF m (fndF m p).toNat p), .int .i64 (hiF m (fndF m p).toNat p)], .int .i64 0] else .tup [wz, .int .i64 (onE m p)]) [] := by
  have k1 := lExact_c hC dec hI m hz p
  by_cases h0 : onE m p = 0
  · obtain ⟨hv, hp, hf⟩ := onE_at h0
    obtain ⟨hi, ho⟩ := fndF_on hf
    have H := onF_of hv hi hp ho
    obtain ⟨i, hi2⟩ : ∃ i, i = (fndF m p).toNat := ⟨_, rfl⟩
    rw [if_pos h0] at k1 ⊢
    rw [← hi2] at k1 H ⊢
    obtain ⟨d, hd⟩ : ∃ d : Nat, denL m i = d := ⟨(denL m i).toNat, by have := H.d; omega⟩
    have b1 := H.num
    have b2 := H.d
    rw [hd] at b1 b2
    have k2 := Floor_c hC (numL m i p) d (by omega) (by omega) (by omega)
    have k3 := Ceil_c hC (numL m i p) d (by omega) (by omega) (by omega)
    rw [show numL m i p / (d : Int) = loF m i p by rw [loF, hd]] at k2
    rw [show -(-numL m i p / (d : Int)) = hiF m i p by rw [hiF, hd]] at k3
    rw [hd] at k1
    obtain ⟨a1, a2, _, _, ea⟩ := wiS_parts (numL m i p)
    rw [ea] at k1 k2 k3
    simp only [mshC_eq, ptD] at k1
    clear b1 b2 H
    refine start hC (nf := N233_locate_Level) rfl rfl ?_
    simp [N233_locate_Level, mshC_eq, ptD]
    refine callW_of k1 (.inr rfl) ?_
    simp
    refine callW_of k2 (.inl rfl) ?_
    simp
    refine callW_of k3 (.inl rfl) ?_
    simp
  · rw [if_neg h0] at k1 ⊢
    simp only [mshC_eq, ptD, wz] at k1
    refine start hC (nf := N233_locate_Level) rfl rfl ?_
    simp [N233_locate_Level, mshC_eq, ptD]
    refine callW_of k1 (.inr rfl) ?_
    simp [h0, wz]
end Go.Gv

set_option linter.unusedSimpArgs false
namespace Go.Gv
theorem hasSd_at {f : Fce} {a b : Int} {k : Nat} (hk : k < 3) (h1 : crn f k = a) (h2 : crn f (k + 1) = b) : hasSd f a b = true := by
  simp only [hasSd, List.any_eq_true, List.mem_range, Bool.and_eq_true, decide_eq_true_eq]
  exact ⟨k, hk, h1, h2⟩
theorem hasSd_no {f : Fce} {a b : Int} (h : ∀ k, k < 3 → ¬ (crn f k = a ∧ crn f (k + 1) = b)) : hasSd f a b = false := by
  simp only [hasSd, List.any_eq_false, List.mem_range, Bool.and_eq_true, decide_eq_true_eq]
  exact h
theorem sideF_at {m : Msh} {a b : Int} {i : Nat} (hi : i < m.f.length) (hj : ∀ j, j < i → hasSd (fce m j) a b = false) (h : hasSd (fce m i) a b = true) : sideF m a b = i := by
  refine idxD_step (fun j hl hji => ?_) hi ?_
  · rw [fce_g]; exact hj j hji
  · rw [fce_g]; exact h
theorem sideF_no {m : Msh} {a b : Int} (hj : ∀ j, j < m.f.length → hasSd (fce m j) a b = false) : sideF m a b = -1 := by
  refine idxD_none (fun j hl => ?_)
  rw [fce_g]; exact hj j hl
/-- The side. -/
def sidK (m : Msh) (a b : Int) : Int := if sideF m a b < 0 then 0 else idxD (fun j => decide (crn (fce m (sideF m a b).toNat) j = a) && decide (crn (fce m (sideF m a b).toNat) (j + 1) = b)) (List.range 3)
theorem sidK_no {m : Msh} {a b : Int} (h : sideF m a b = -1) : sidK m a b = 0 := by rw [sidK, if_pos (by omega)]
theorem sidK_at {m : Msh} {a b : Int} {i k : Nat} (h : sideF m a b = i) (hk : k < 3) (hj : ∀ j, j < k → ¬ (crn (fce m i) j = a ∧ crn (fce m i) (j + 1) = b)) (h1 : crn (fce m i) k = a) (h2 : crn (fce m i) (k + 1) = b) : sidK m a b = k := by
  rw [sidK, if_neg (by omega), h]
  refine idxD_step (fun j hl hjk => ?_) (by simp; omega) ?_
  · have := hj j hjk
    simp only [Int.toNat_natCast, List.getElem_range, Bool.and_eq_false_iff, decide_eq_false_iff_not]
    omega
  · simp [h1, h2]
def acK (m : Msh) (i k : Nat) : Int := sidK m (crn (fce m i) (k + 1)) (crn (fce m i) k)
def nbT (m : Msh) (i : Nat) : List (List D) := (List.range i).map fun j => [.int .i64 (nbF m j 0), .int .i64 (nbF m j 1), .int .i64 (nbF m j 2)]
@[simp] theorem nbT_len (m : Msh) (i : Nat) : (nbT m i).length = i := by simp [nbT]
theorem nbT_add (m : Msh) (i : Nat) : nbT m i ++ [[.int .i64 (nbF m i 0), .int .i64 (nbF m i 1), .int .i64 (nbF m i 2)]] = nbT m (i + 1) := by simp [nbT, List.range_succ]
theorem nbT_all (m : Msh) : nbT m m.f.length = nbA m := rfl
@[simp] theorem nbT_take (m : Msh) (i : Nat) : List.take i (nbT m i) = nbT m i := List.take_of_length_le (by simp)
@[simp] theorem nbT_cv (m : Msh) (i : Nat) : List.map (fun e => List.map cellV e) (nbT m i) = nbT m i := by simp [nbT]
variable {C : CC} (hC : Closed prog C)
include hC
end Go.Gv

set_option linter.unusedSimpArgs false
namespace Go.Gv
open Go.Lib
def tr3 (m : Msh) (i : Nat) : List (List D) := [ptD (ptS (spA m i)), ptD (ptS (spB m i)), ptD (ptS (spC m i))]
theorem tr3_eq (m : Msh) (i : Nat) : tr3 m i = [ptD (ptS (spA m i)), ptD (ptS (spB m i)), ptD (ptS (spC m i))] := _root_.id rfl
theorem osF_cases (m : Msh) (i : Nat) (p : Pnt) : (osF m i p = 0 ∧ tn0 m i p < 0) ∨ (osF m i p = 1 ∧ ¬ tn0 m i p < 0 ∧ tn1 m i p < 0) ∨ (osF m i p = 2 ∧ ¬ tn0 m i p < 0 ∧ ¬ tn1 m i p < 0 ∧ tn2 m i p < 0) ∨ (osF m i p = -1 ∧ ¬ tn0 m i p < 0 ∧ ¬ tn1 m i p < 0 ∧ ¬ tn2 m i p < 0) := by
  unfold osF
  split
  · exact .inl ⟨rfl, ‹_›⟩
  · split
    · exact .inr (.inl ⟨rfl, ‹_›, ‹_›⟩)
    · split
      · exact .inr (.inr (.inl ⟨rfl, ‹_›, ‹_›, ‹_›⟩))
      · exact .inr (.inr (.inr ⟨rfl, ‹_›, ‹_›, ‹_›⟩))
/-- The side that is found among the first k. -/
def sdF (m : Msh) (i : Nat) (p : Pnt) (k : Nat) : Int := if 0 ≤ osF m i p ∧ osF m i p < k then osF m i p else -1
theorem sdF_3 (m : Msh) (i : Nat) (p : Pnt) : sdF m i p 3 = osF m i p := by
  have := osF_bd m i p
  unfold sdF
  split <;> omega
variable {C : CC} (hC : Closed prog C)
include hC
theorem qtri_c (m : Msh) (hv : validM m = true) (i : Nat) (hi : i < m.f.length) : C 285 [.agg (mshC m), .agg (fceC (fce m i))] (.sl (tr3 m i)) [] := rtri_c hC m (fce m i) (valid_in hv hi)
theorem q7Valid_c (p : Pnt) : C 237 [.agg (ptD p)] (.bool (okP p)) [] := by
  refine start hC (nf := N237_ref07_Valid) rfl rfl ?_
  simp [N237_ref07_Valid, ptD, okP]
  repeat' (refine brB_of (fun h => ?_) (fun h => ?_) <;> simp at h <;> simp [h] <;> try omega)
def fewM (m : Msh) : Bool := decide ((m.s.length : Int) ≤ 60) && decide ((m.f.length : Int) ≤ 60)
theorem few_c (m : Msh) : C 229 [.agg (mshC m)] (.bool (fewM m)) [] := by
  refine start hC (nf := N229_law13_few) rfl rfl ?_
  simp [N229_law13_few, mshC_eq]
  refine brB_of (fun h => ?_) (fun h => ?_)
  · simp at h; simp [h, fewM]
  · have h2 : ¬ (m.s.length : Int) ≤ 60 := of_decide_eq_false h
    rw [show fewM m = false by rw [fewM, decide_eq_false h2]; rfl]
    simp
theorem right_c (m : Msh) (hz : smallM m = true → m.s.length ≤ 100 ∧ m.f.length ≤ 100) (p : Pnt) : C 250 [.agg (mshC m), .agg (ptD p)] (.bool (validM m && okP p)) [] := by
  have k1 := rValid_c hC m hz
  have k2 := q7Valid_c hC p
  simp only [mshC_eq] at k1
  simp only [ptD] at k2
  refine start hC (nf := N250_law13_right) rfl rfl ?_
  simp [N250_law13_right, mshC_eq, ptD]
  refine callW_of k1 (.inl rfl) ?_
  cases validM m
  · simp
  · simp
    refine callW_of k2 (.inl rfl) ?_
    simp
end Go.Gv

set_option linter.unusedSimpArgs false
namespace Go.Gv
open Go.Lib
theorem numS_parts (v : Int) : ∃ (a b : Nat) (c : Bool), numS v = .agg [.int .u64 a, .int .u64 b, .bool c] := ⟨_, _, _, rfl⟩
def exL : Msh := ⟨false, [⟨0, 0, 100⟩, ⟨1000, 0, 200⟩, ⟨0, 1000, 400⟩], false, [⟨0, 1, 2, 0⟩]⟩
theorem exL_v : validM exL = true := by decide +kernel
theorem exL_f1 : fndF exL (250, 500) = 0 := by decide +kernel
theorem exL_f2 : fndF exL (1, 1) = 0 := by decide +kernel
theorem exL_n : numL exL 0 (250, 500) = 275000000 := by decide +kernel
theorem exL_d : denL exL 0 = 1000000 := by decide +kernel
theorem exL_lo : loF exL 0 (1, 1) = 100 := by decide +kernel
theorem exL_hi : hiF exL 0 (1, 1) = 101 := by decide +kernel
theorem exL_o1 : onE exL (250, 500) = 0 := by rw [onE, exL_f1, exL_v]; decide
theorem exL_o2 : onE exL (1, 1) = 0 := by rw [onE, exL_f2, exL_v]; decide
variable {C : CC} (hC : Closed prog C)
include hC
set_option maxHeartbeats 2000000 in
theorem awake13_c (dec : Nat → List UInt8) (hI : ∀ n : Nat, n < 100 → C 127 [.int .i64 n] (.str (dec n)) []) : C 227 [] (.bool true) [] := by
  have hz : smallM exL = true → exL.s.length ≤ 100 ∧ exL.f.length ≤ 100 := fun _ => by simp [exL]
  have k1 := lExact_c hC dec hI exL hz (250, 500)
  have k2 := Int_c hC 275000000 (by decide)
  have k3 := lLevel_c hC dec hI exL hz (1, 1)
  rw [if_pos exL_o1, exL_f1, show (0 : Int).toNat = 0 from rfl, exL_n, exL_d] at k1
  rw [if_pos exL_o2, exL_f2, show (0 : Int).toNat = 0 from rfl, exL_lo, exL_hi] at k3
  rw [show wiS 275000000 = .agg [.int .i64 0, .int .i64 275000000] by simp [wiS]] at k1
  rw [show wiD 275000000 = .agg [.int .i64 0, .int .i64 275000000] by simp [wiD]] at k2
  simp [exL, mshC_eq, sptC_eq, fceC_eq, ptD] at k1 k3
  refine start hC (nf := N227_law13_awake) rfl rfl ?_
  simp [N227_law13_awake]
  refine callW_of k1 (.inl rfl) ?_
  simp
  refine callW_of k2 (.inl rfl) ?_
  simp
  refine callW_of k3 (.inl rfl) ?_
  simp
end Go.Gv

set_option linter.unusedSimpArgs false
namespace Go.Gv
/-- The least of l by z, and by the number where z is the same. -/
def IsLow (z : Int → Int) (l : List Int) (r : Int) : Prop := r ∈ l ∧ ∀ x ∈ l, z r < z x ∨ (z r = z x ∧ r ≤ x)
theorem IsLow.uniq {z : Int → Int} {l l' : List Int} {r r' : Int} (h : IsLow z l r) (h' : IsLow z l' r') (e : ∀ x, x ∈ l ↔ x ∈ l') : r = r' := by
  have h1 := h.2 r' ((e _).2 h'.1)
  have h2 := h'.2 r ((e _).1 h.1)
  omega
def lowS (z : Int → Int) (x b : Int) : Int := if z x < z b ∨ (z x = z b ∧ x < b) then x else b
def lowOf (z : Int → Int) (a b c : Int) : Int := lowS z c (lowS z b a)
theorem lowOf_is (z : Int → Int) (a b c : Int) : IsLow z [a, b, c] (lowOf z a b c) := by
  unfold IsLow lowOf lowS
  refine ⟨?_, ?_⟩
  · split <;> (try split) <;> simp
  · intro x hx
    simp only [List.mem_cons, List.not_mem_nil, or_false] at hx
    rcases hx with rfl | rfl | rfl <;> (repeat' split) <;> (try simp_all) <;> omega
/-- The first least one of a list, by z alone. -/
def lowT (z : Int → Int) (x b : Int) : Int := if z x < z b then x else b
def srt3 (a b c : Int) : List Int := [a, b, c].mergeSort fun x y => decide (x ≤ y)
theorem srt3_sorted (a b c : Int) : (srt3 a b c).Pairwise (· ≤ ·) := by
  have h := List.pairwise_mergeSort (le := fun x y : Int => decide (x ≤ y)) (fun a b c h1 h2 => by simp at *; omega) (fun a b => by simp; omega) [a, b, c]
  exact h.imp fun h => by simpa using h
theorem srt3_mem (a b c x : Int) : x ∈ srt3 a b c ↔ x ∈ [a, b, c] := List.mem_mergeSort
theorem srt3_len (a b c : Int) : (srt3 a b c).length = 3 := by simp [srt3, List.length_mergeSort]
theorem srt3_ex (a b c : Int) : ∃ x y w : Int, srt3 a b c = [x, y, w] ∧ x ≤ y ∧ y ≤ w ∧ (∀ v, v ∈ [x, y, w] ↔ v ∈ [a, b, c]) := by
  have h1 := srt3_len a b c
  have h2 := srt3_sorted a b c
  have h3 := srt3_mem a b c
  match h : srt3 a b c, h1 with
  | [x, y, w], _ =>
    rw [h] at h2 h3
    simp only [List.pairwise_cons] at h2
    exact ⟨x, y, w, rfl, h2.1 y (by simp), h2.2.1 w (by simp), fun v => h3 v⟩
/-- What the program finds is what the reference finds. -/
theorem low_eq (z : Int → Int) {a b c x y w : Int} (h1 : x ≤ y) (h2 : y ≤ w) (h3 : ∀ v, v ∈ [x, y, w] ↔ v ∈ [a, b, c]) : lowT z w (lowT z y (lowT z x x)) = lowOf z a b c := by
  refine IsLow.uniq (l := [x, y, w]) (l' := [a, b, c]) ?_ (lowOf_is z a b c) h3
  unfold IsLow lowT
  refine ⟨?_, ?_⟩
  · (repeat' split) <;> simp
  · intro v hv
    simp only [List.mem_cons, List.not_mem_nil, or_false] at hv
    rcases hv with rfl | rfl | rfl <;> (repeat' split) <;> simp_all <;> omega
/-- The first nearest among the first k. -/
def nrF (q : Nat → Int) : Nat → Nat
  | 0 => 0
  | k + 1 => if q k < q (nrF q k) then k else nrF q k
theorem nrF_lt (q : Nat → Int) : ∀ k, 0 < k → nrF q k < k
  | 1, _ => by simp [nrF]
  | k + 2, _ => by
    have := nrF_lt q (k + 1) (by omega)
    rw [nrF]
    split <;> omega

def sqW (a b : Pnt) : Int := IntKind.wrap .i64 (IntKind.wrap .i64 (IntKind.wrap .i64 (a.1 - b.1) * IntKind.wrap .i64 (a.1 - b.1)) + IntKind.wrap .i64 (IntKind.wrap .i64 (a.2 - b.2) * IntKind.wrap .i64 (a.2 - b.2)))
def sqM (m : Msh) (p : Pnt) (k : Nat) : Int := sqW (ptS (spt m k)) p
def nrM (m : Msh) (p : Pnt) : Nat := nrF (sqM m p) m.s.length
def zM (m : Msh) (k : Int) : Int := (spt m k.toNat).z
def lwM (m : Msh) (i : Nat) : Int := lowOf (zM m) (fce m i).a (fce m i).b (fce m i).c
def nrE (m : Msh) (p : Pnt) : Int := if validM m = true ∧ okP p = true then (if m.s.length = 0 then 14 else 0) else 1
def nrV (m : Msh) (p : Pnt) : Int := if nrE m p = 0 then nrM m p else 0
def lwE (m : Msh) (f : Int) : Int := if validM m = true then (if inR1 m.f.length f = true then 0 else 2) else 1
def lwV (m : Msh) (f : Int) : Int := if lwE m f = 0 then lwM m f.toNat else 0
def lowN (m : Msh) (y b : Nat) : Nat := if (spt m y).z < (spt m b).z ∨ ((spt m y).z = (spt m b).z ∧ y < b) then y else b
theorem lowN_eq (m : Msh) (y b : Nat) : lowS (zM m) y b = (lowN m y b : Nat) := by
  unfold lowS zM lowN
  simp only [Int.toNat_natCast, Int.ofNat_lt]
  split <;> rfl
theorem lowN_lt {m : Msh} {y b n : Nat} (h1 : y < n) (h2 : b < n) : lowN m y b < n := by
  unfold lowN
  split <;> assumption
def lowM (m : Msh) (y b : Nat) : Nat := if (spt m y).z < (spt m b).z then y else b
theorem lowM_eq (m : Msh) (y b : Nat) : lowT (zM m) y b = (lowM m y b : Nat) := by
  unfold lowT zM lowM
  simp only [Int.toNat_natCast]
  split <;> rfl
theorem lowM_lt {m : Msh} {y b n : Nat} (h1 : y < n) (h2 : b < n) : lowM m y b < n := by
  unfold lowM
  split <;> assumption
def nth4 (a b c d : Nat) : Nat → Nat
  | 0 => a
  | 1 => b
  | 2 => c
  | _ => d
@[simp] theorem nth4_0 (a b c d : Nat) : nth4 a b c d 0 = a := rfl
@[simp] theorem nth4_1 (a b c d : Nat) : nth4 a b c d 1 = b := rfl
@[simp] theorem nth4_2 (a b c d : Nat) : nth4 a b c d 2 = c := rfl
@[simp] theorem nth4_3 (a b c d : Nat) : nth4 a b c d 3 = d := rfl
variable {C : CC} (hC : Closed prog C)
include hC
theorem rSquare_c (a b : Pnt) : C 369 [.agg (ptD a), .agg (ptD b)] (.int .i64 (sqW a b)) [] := by
  refine start hC (nf := N369_ref07_Square) rfl rfl ?_
  simp [N369_ref07_Square, ptD, sqW]
theorem away_c (s : Spt) (p : Pnt) : C 364 [.agg (sptC s), .ptr (ptD p)] (.int .i64 (sqW (ptS s) p)) [] := by
  refine start hC (nf := N364_locate_Nearest_1) rfl rfl ?_
  simp [N364_locate_Nearest_1, ptD, sqW, sptC_eq, ptS]
theorem rNearest_c (m : Msh) (h0 : 0 < m.s.length) (hm : m.s.length ≤ 100) (p : Pnt) : C 367 [.agg (mshC m), .agg (ptD p)] (.int .i64 (nrM m p)) [] := by
  have kp := fun s => rPoint_c hC s
  have kq := fun a => rSquare_c hC a p
  simp only [sptC_eq] at kp
  refine start hC (nf := N367_ref13_Nearest) rfl rfl ?_
  simp [N367_ref13_Nearest, mshC_eq]
  refine loop_of Nat (fun i => [(2, .ptr (mshC m)), (3, .ptr (ptD p)), (5, .int .i64 (nrF (sqM m p) i)), (6, .int .i64 i)]) (fun i => 1 ≤ i ∧ i ≤ m.s.length) (fun i => m.s.length - i) 1 (by simp; omega) (by simp [mshC_eq, nrF]) ?_
  rintro i ⟨h1, hi⟩
  have hlt := nrF_lt (sqM m p) i (by omega)
  simp [mshC_eq]
  refine brB_of (fun g1 => ?_) (fun g1 => ?_) <;> simp at g1 <;> simp [g1]
  · have hw : IntKind.wrap .i64 ((i : Int) + 1) = ((i + 1 : Nat) : Int) := wrap_i64 (by omega) (by omega)
    have hb : nrF (sqM m p) i < m.s.length := by omega
    simp [g1, hb, sptC_eq]
    refine callW_of (kp _) (.inl rfl) ?_
    simp
    refine callW_of (kq _) (.inl rfl) ?_
    simp [hb, sptC_eq]
    refine callW_of (kp _) (.inl rfl) ?_
    simp
    refine callW_of (kq _) (.inl rfl) ?_
    simp
    refine ⟨indW_of (by decide +kernel), ?_⟩
    refine brB_of (fun c => ?_) (fun c => ?_) <;> simp at c <;> simp [c]
    · refine ⟨i + 1, ⟨by omega, by omega⟩, by omega, ?_⟩
      have e : nrF (sqM m p) (i + 1) = i := by rw [nrF, if_pos (by simpa [sqM] using c)]
      simp [mshC_eq, hw, e]
    · refine ⟨i + 1, ⟨by omega, by omega⟩, by omega, ?_⟩
      have e : nrF (sqM m p) (i + 1) = nrF (sqM m p) i := by rw [nrF, if_neg (by simpa [sqM] using c)]
      simp [mshC_eq, hw, e]
  · have e : i = m.s.length := by omega
    subst e
    simp [nrM]
theorem lNearest_c (m : Msh) (hm : validM m = true → m.s.length ≤ 100) (p : Pnt) (kv : C 275 [.agg (mshC m), .sl [ptD p]] (.bool (validM m && okP p)) []) : C 363 [.agg (mshC m), .agg (ptD p)] (.tup [.int .i64 (nrV m p), .int .i64 (nrE m p)]) [] := by
  have ka := fun s => away_c hC s p
  simp only [sptC_eq, ptD] at ka
  simp only [mshC_eq, ptD] at kv
  refine start hC (nf := N363_locate_Nearest) rfl rfl ?_
  simp [N363_locate_Nearest, mshC_eq, ptD]
  refine callW_of kv (.inl rfl) ?_
  by_cases hv : validM m = true ∧ okP p = true
  · have hm := hm hv.1
    simp [hv.1, hv.2]
    by_cases h0 : m.s.length = 0
    · have h00 : m.s = [] := List.eq_nil_of_length_eq_zero h0
      simp [h00, nrV, nrE, hv.1, hv.2]
    · have h00 : ¬ m.s = [] := fun e => h0 (by rw [e]; rfl)
      have e1 : nrE m p = 0 := by rw [nrE, if_pos hv, if_neg h0]
      have e2 : nrV m p = nrM m p := by rw [nrV, if_pos e1]
      rw [e1, e2]
      simp [h0, h00]
      refine loop_of Nat (fun i => [(2, .ptr (mshC m)), (6, .fn 364 [.ptr (ptD p)]), (7, .int .i64 (nrF (sqM m p) i)), (23, slx m.sn (m.s.map sptC)), (24, .int .i64 m.s.length), (25, .int .i64 i)]) (fun i => i ≤ m.s.length) (fun i => m.s.length - i) 0 (by simp) (by simp [mshC_eq, ptD, nrF]) ?_
      rintro i hi
      simp [mshC_eq, ptD]
      refine brB_of (fun g1 => ?_) (fun g1 => ?_) <;> simp at g1 <;> simp [g1]
      · have hw : IntKind.wrap .i64 ((i : Int) + 1) = ((i + 1 : Nat) : Int) := wrap_i64 (by omega) (by omega)
        have hb : nrF (sqM m p) i < m.s.length := by
          rcases Nat.eq_zero_or_pos i with rfl | h
          · simpa [nrF] using g1
          · have := nrF_lt (sqM m p) i h; omega
        simp [g1, hb, sptC_eq]
        refine callW_of (ka _) (.inl rfl) ?_
        simp [hb, sptC_eq]
        refine callW_of (ka _) (.inl rfl) ?_
        simp
        refine ⟨indW_of (by decide +kernel), ?_⟩
        refine brB_of (fun c => ?_) (fun c => ?_) <;> simp at c <;> simp [c]
        · refine ⟨i + 1, by omega, by omega, ?_⟩
          have e : nrF (sqM m p) (i + 1) = i := by rw [nrF, if_pos (by simpa [sqM] using c)]
          simp [mshC_eq, ptD, hw, e]
        · refine ⟨i + 1, by omega, by omega, ?_⟩
          have e : nrF (sqM m p) (i + 1) = nrF (sqM m p) i := by rw [nrF, if_neg (by simpa [sqM] using c)]
          simp [mshC_eq, ptD, hw, e]
      · have e : i = m.s.length := by omega
        subst e
        simp [nrM]
  · have e : (validM m && okP p) = false := by
      cases h1 : validM m <;> cases h2 : okP p <;> simp [h1, h2] at hv ⊢
    have e1 : nrE m p = 1 := by rw [nrE, if_neg hv]
    have e2 : nrV m p = 0 := by rw [nrV, e1]; rfl
    simp [e, e1, e2]
/-- The corners of a face, as numbers. -/
theorem rLowest_c (m : Msh) (i : Nat) (hi : i < m.f.length) (h : inS m (fce m i) = true) : C 368 [.agg (mshC m), .int .i64 i] (.int .i64 (lwM m i)) [] := by
  obtain ⟨⟨a1, a2⟩, ⟨b1, b2⟩, ⟨c1, c2⟩⟩ := inS_bd h
  obtain ⟨a, ea⟩ : ∃ a : Nat, (fce m i).a = a := ⟨(fce m i).a.toNat, by omega⟩
  obtain ⟨b, eb⟩ : ∃ a : Nat, (fce m i).b = a := ⟨(fce m i).b.toNat, by omega⟩
  obtain ⟨c, ec⟩ : ∃ a : Nat, (fce m i).c = a := ⟨(fce m i).c.toNat, by omega⟩
  rw [ea, Int.toNat_natCast] at a2
  rw [eb, Int.toNat_natCast] at b2
  rw [ec, Int.toNat_natCast] at c2
  clear a1 b1 c1
  have w1 : IntKind.wrap .i64 1 = 1 := by decide
  have w2 : IntKind.wrap .i64 2 = 2 := by decide
  have el : lwM m i = (lowN m c (lowN m b a) : Nat) := by rw [lwM, ea, eb, ec, lowOf, lowN_eq, lowN_eq]
  have hx := lowN_lt (m := m) b2 a2
  rw [el]
  refine start hC (nf := N368_ref13_Lowest) rfl rfl ?_
  simp [N368_ref13_Lowest, mshC_eq, hi, fceC_eq, ea, eb, ec]
  refine loop_of Nat (fun k => [(2, .ptr (mshC m)), (6, .int .i64 (nth4 a (lowN m b a) (lowN m c (lowN m b a)) 0 k)), (7, .ref (.r 10112) 0 2), (8, .int .i64 k), (10112, .blk 1 [[.int .i64 b], [.int .i64 c]])]) (fun k => k ≤ 2) (fun k => 2 - k) 0 (by simp) (by simp [mshC_eq]) ?_
  rintro k hk
  rcases (by omega : k = 0 ∨ k = 1 ∨ k = 2) with rfl | rfl | rfl
  · simp [mshC_eq, a2, b2, sptC_eq]
    refine ⟨indW_of (by decide +kernel), ?_⟩
    by_cases c1 : (spt m b).z < (spt m a).z
    · simp [c1]
      refine ⟨1, by omega, by omega, ?_⟩
      simp [mshC_eq, w1, lowN, c1]
    · by_cases c2 : (spt m b).z = (spt m a).z
      · by_cases c3 : b < a
        · simp [c1, c2, c3]
          refine ⟨1, by omega, by omega, ?_⟩
          simp [mshC_eq, w1, lowN, c1, c2, c3]
        · simp [c1, c2, c3]
          refine ⟨1, by omega, by omega, ?_⟩
          simp [mshC_eq, w1, lowN, c1, c2, c3]
      · simp [c1, c2]
        refine ⟨1, by omega, by omega, ?_⟩
        simp [mshC_eq, w1, lowN, c1, c2]
  · generalize hxe : lowN m b a = x at hx ⊢
    simp [mshC_eq, hx, c2, sptC_eq]
    refine ⟨indW_of (by decide +kernel), ?_⟩
    by_cases c1 : (spt m c).z < (spt m x).z
    · simp [c1]
      refine ⟨2, by omega, by omega, ?_⟩
      simp [mshC_eq, w2, lowN, c1]
    · by_cases c2 : (spt m c).z = (spt m x).z
      · by_cases c3 : c < x
        · simp [c1, c2, c3]
          refine ⟨2, by omega, by omega, ?_⟩
          simp [mshC_eq, w2, lowN, c1, c2, c3]
        · simp [c1, c2, c3]
          refine ⟨2, by omega, by omega, ?_⟩
          simp [mshC_eq, w2, lowN, c1, c2, c3]
      · simp [c1, c2]
        refine ⟨2, by omega, by omega, ?_⟩
        simp [mshC_eq, w2, lowN, c1, c2]
  · simp
theorem lLowest_c (hS : ∀ a b c : Int, C 366 [.own 1 [[.int .i64 a], [.int .i64 b], [.int .i64 c]]] .any [.own 1 ((srt3 a b c).map fun n => [.int .i64 n]), .nilp]) (m : Msh) (hm : validM m = true → m.f.length ≤ 100 ∧ ∀ i, i < m.f.length → inS m (fce m i) = true) (f0 : Int) (kv : C 234 [.agg (mshC m)] (.bool (validM m)) []) : C 365 [.agg (mshC m), .int .i64 f0] (.tup [.int .i64 (lwV m f0), .int .i64 (lwE m f0)]) [] := by
  simp only [mshC_eq] at kv
  refine start hC (nf := N365_locate_Lowest) rfl rfl ?_
  simp [N365_locate_Lowest, mshC_eq]
  refine callW_of kv (.inl rfl) ?_
  cases hv : validM m
  · have e1 : lwE m f0 = 1 := by rw [lwE, hv]; rfl
    have e2 : lwV m f0 = 0 := by rw [lwV, e1]; rfl
    simp [e1, e2]
  by_cases hr : inR1 m.f.length f0 = true
  · have hr2 := hr
    simp only [inR1, Bool.and_eq_true, decide_eq_true_eq] at hr2
    obtain ⟨i, rfl⟩ : ∃ n : Nat, f0 = n := ⟨f0.toNat, by omega⟩
    have hi : i < m.f.length := by omega
    have g1 : ¬ (i : Int) < 0 := by omega
    have g2 : ¬ (m.f.length : Int) ≤ i := by omega
    have e1 : lwE m (i : Int) = 0 := by rw [lwE, hv, if_pos rfl, if_pos hr]
    have e2 : lwV m (i : Int) = lwM m i := by rw [lwV, e1, Int.toNat_natCast]; rfl
    rw [e1, e2]
    obtain ⟨⟨a1, a2⟩, ⟨b1, b2⟩, ⟨c1, c2⟩⟩ := inS_bd ((hm hv).2 i hi)
    obtain ⟨a, ea⟩ : ∃ a : Nat, (fce m i).a = a := ⟨(fce m i).a.toNat, by omega⟩
    obtain ⟨b, eb⟩ : ∃ a : Nat, (fce m i).b = a := ⟨(fce m i).b.toNat, by omega⟩
    obtain ⟨c, ec⟩ : ∃ a : Nat, (fce m i).c = a := ⟨(fce m i).c.toNat, by omega⟩
    rw [ea, Int.toNat_natCast] at a2
    rw [eb, Int.toNat_natCast] at b2
    rw [ec, Int.toNat_natCast] at c2
    clear a1 b1 c1
    obtain ⟨x, y, w, es, h1, h2, h3⟩ := srt3_ex a b c
    have hin : ∀ v : Int, v ∈ [x, y, w] → ∃ n : Nat, v = n ∧ n < m.s.length := by
      intro v hv
      have := (h3 v).1 hv
      simp only [List.mem_cons, List.not_mem_nil, or_false] at this
      rcases this with rfl | rfl | rfl
      · exact ⟨a, rfl, a2⟩
      · exact ⟨b, rfl, b2⟩
      · exact ⟨c, rfl, c2⟩
    obtain ⟨x, rfl, x2⟩ := hin x (by simp)
    obtain ⟨y, rfl, y2⟩ := hin y (by simp)
    obtain ⟨w, rfl, w2'⟩ := hin w (by simp)
    have hs := hS a b c
    rw [es] at hs
    simp only [List.map_cons, List.map_nil] at hs
    have el : lwM m i = (lowM m w (lowM m y (lowM m x x)) : Nat) := by
      have := low_eq (zM m) h1 h2 h3
      rw [lowM_eq, lowM_eq, lowM_eq] at this
      rw [lwM, ea, eb, ec, ← this]
    have exx : lowM m x x = x := by unfold lowM; split <;> rfl
    rw [exx] at el
    have hq := lowM_lt (m := m) y2 x2
    have w1 : IntKind.wrap .i64 1 = 1 := by decide
    have w2 : IntKind.wrap .i64 2 = 2 := by decide
    have w3 : IntKind.wrap .i64 3 = 3 := by decide
    rw [el]
    simp [g1, g2, hi, fceC_eq, ea, eb, ec]
    refine callUW_of hs rfl (by simp [isC1]) ?_
    simp
    refine loop_of Nat (fun k => [(2, .ptr (mshC m)), (8, .int .i64 (nth4 x x (lowM m y x) (lowM m w (lowM m y x)) k)), (42, .ref (.r 10672) 0 3), (43, .int .i64 3), (44, .int .i64 k), (10672, .blk 1 [[.int .i64 x], [.int .i64 y], [.int .i64 w]])]) (fun k => k ≤ 3) (fun k => 3 - k) 0 (by simp) (by simp [mshC_eq]) ?_
    rintro k hk
    rcases (by omega : k = 0 ∨ k = 1 ∨ k = 2 ∨ k = 3) with rfl | rfl | rfl | rfl
    · simp [mshC_eq, x2, sptC_eq]
      refine ⟨indW_of (by decide +kernel), ?_⟩
      refine ⟨1, by omega, by omega, ?_⟩
      simp [mshC_eq, w1]
    · simp [mshC_eq, x2, y2, sptC_eq]
      refine ⟨indW_of (by decide +kernel), ?_⟩
      by_cases c1 : (spt m y).z < (spt m x).z
      · simp [c1]
        refine ⟨2, by omega, by omega, ?_⟩
        simp [mshC_eq, w2, lowM, c1]
      · simp [c1]
        refine ⟨2, by omega, by omega, ?_⟩
        simp [mshC_eq, w2, lowM, c1]
    · generalize hxe : lowM m y x = q at hq ⊢
      simp [mshC_eq, hq, w2', sptC_eq]
      refine ⟨indW_of (by decide +kernel), ?_⟩
      by_cases c1 : (spt m w).z < (spt m q).z
      · simp [c1]
        refine ⟨3, by omega, by omega, ?_⟩
        simp [mshC_eq, w3, lowM, c1]
      · simp [c1]
        refine ⟨3, by omega, by omega, ?_⟩
        simp [mshC_eq, w3, lowM, c1]
    · simp
  · have e1 : lwE m f0 = 2 := by rw [lwE, hv, if_pos rfl, if_neg hr]
    have e2 : lwV m f0 = 0 := by rw [lwV, e1]; rfl
    simp only [inR1, Bool.and_eq_true, decide_eq_true_eq] at hr
    by_cases g1 : f0 < 0
    · simp [e1, e2, g1]
    · have g2 : (m.f.length : Int) ≤ f0 := by omega
      simp [e1, e2, g1, g2]
end Go.Gv

set_option linter.unusedSimpArgs false
namespace Go.Gv
theorem few_sm {m : Msh} (h : fewM m = true) : m.s.length ≤ 60 ∧ m.f.length ≤ 60 := by
  simp only [fewM, Bool.and_eq_true, decide_eq_true_eq] at h
  omega
variable {C : CC} (hC : Closed prog C)
include hC
set_option maxHeartbeats 2000000 in
theorem LocateSpots_c (dec : Nat → List UInt8) (hI : ∀ n : Nat, n < 100 → C 127 [.int .i64 n] (.str (dec n)) []) (hS : ∀ a b c : Int, C 366 [.own 1 [[.int .i64 a], [.int .i64 b], [.int .i64 c]]] .any [.own 1 ((srt3 a b c).map fun n => [.int .i64 n]), .nilp]) (m : Msh) (p : Pnt) (f0 : Int) : C 362 [.agg (mshC m), .agg (ptD p), .int .i64 f0] (.bool true) [] := by
  have ka := awake13_c hC dec hI
  have kf := few_c hC m
  simp only [mshC_eq] at kf
  refine start hC (nf := N362_law13_LocateSpots) rfl rfl ?_
  simp [N362_law13_LocateSpots, mshC_eq]
  refine callW_of ka (.inl rfl) ?_
  simp
  refine callW_of kf (.inl rfl) ?_
  cases hfew : fewM m
  · simp
  have hs := few_sm hfew
  have hz : smallM m = true → m.s.length ≤ 100 ∧ m.f.length ≤ 100 := fun _ => by omega
  have k1 := lvalid_c hC dec hI m hz false [p] (by simp)
  simp at k1
  have kN := lNearest_c hC m (fun _ => by omega) p k1
  have kL := lLowest_c hC hS m (fun hv => ⟨by omega, fun i hi => valid_in hv hi⟩) f0 (mValid_c hC dec hI m hz)
  have kr := right_c hC m hz p
  have kv := rValid_c hC m hz
  have ht : (validM m = false ∧ lwE m f0 = 1 ∧ lwV m f0 = 0) ∨ (validM m = true ∧ ¬ inR1 m.f.length f0 = true ∧ lwE m f0 = 2 ∧ lwV m f0 = 0) ∨ (validM m = true ∧ ∃ i : Nat, i < m.f.length ∧ f0 = i ∧ lwE m i = 0 ∧ lwV m i = lwM m i ∧ C 368 [.agg (mshC m), .int .i64 i] (.int .i64 (lwM m i)) []) := by
    cases hv : validM m
    · have t1 : lwE m f0 = 1 := by rw [lwE, hv]; rfl
      exact .inl ⟨rfl, t1, by rw [lwV, t1]; rfl⟩
    · by_cases hr : inR1 m.f.length f0 = true
      · have hr2 := hr
        simp only [inR1, Bool.and_eq_true, decide_eq_true_eq] at hr2
        obtain ⟨i, rfl⟩ : ∃ n : Nat, f0 = n := ⟨f0.toNat, by omega⟩
        have hi : i < m.f.length := by omega
        have t1 : lwE m (i : Int) = 0 := by rw [lwE, hv, if_pos rfl, if_pos hr]
        exact .inr (.inr ⟨rfl, i, hi, rfl, t1, by rw [lwV, t1, Int.toNat_natCast]; rfl, rLowest_c hC m i hi (valid_in hv hi)⟩)
      · have t1 : lwE m f0 = 2 := by rw [lwE, hv, if_pos rfl, if_neg hr]
        exact .inr (.inl ⟨rfl, hr, t1, by rw [lwV, t1]; rfl⟩)
  simp only [mshC_eq] at kN kL kr kv ht
  simp
  refine callW_of kN (.inl rfl) ?_
  simp
  refine callW_of kL (.inl rfl) ?_
  simp
  refine callW_of kr (.inl rfl) ?_
  by_cases hv : validM m = true ∧ okP p = true
  · by_cases h0 : m.s.length = 0
    · have e1 : nrE m p = 14 := by rw [nrE, if_pos hv, if_pos h0]
      have e2 : nrV m p = 0 := by rw [nrV, e1]; rfl
      have h00 : m.s = [] := List.eq_nil_of_length_eq_zero h0
      simp [hv.1, hv.2, e1, e2, h00]
      rw [h00] at kv ht
      simp only [List.map_nil] at kv ht
      refine callW_of kv (.inl rfl) ?_
      rcases ht with ⟨hvm, t1, t2⟩ | ⟨hvm, hr, t1, t2⟩ | ⟨hvm, i, hi, rfl, t1, t2, kl⟩
      · simp [hvm, t1, t2]
      · simp only [inR1, Bool.and_eq_true, decide_eq_true_eq] at hr
        by_cases g1 : f0 < 0
        · simp [hvm, t1, t2, g1]
        · have g2 : (m.f.length : Int) ≤ f0 := by omega
          simp [hvm, t1, t2, g1, g2]
      · have g1 : ¬ (i : Int) < 0 := by omega
        have g2 : ¬ (m.f.length : Int) ≤ i := by omega
        simp [hvm, t1, t2, g1, g2]
        refine callW_of kl (.inl rfl) ?_
        simp
    · have e1 : nrE m p = 0 := by rw [nrE, if_pos hv, if_neg h0]
      have e2 : nrV m p = nrM m p := by rw [nrV, if_pos e1]
      have h00 : ¬ m.s = [] := fun e => h0 (by rw [e]; rfl)
      have kq := rNearest_c hC m (by omega) (by omega) p
      simp only [mshC_eq] at kq
      simp [hv.1, hv.2, e1, e2, h0, h00]
      refine callW_of kq (.inl rfl) ?_
      simp
      refine callW_of kv (.inl rfl) ?_
      rcases ht with ⟨hvm, t1, t2⟩ | ⟨hvm, hr, t1, t2⟩ | ⟨hvm, i, hi, rfl, t1, t2, kl⟩
      · simp [hvm, t1, t2]
      · simp only [inR1, Bool.and_eq_true, decide_eq_true_eq] at hr
        by_cases g1 : f0 < 0
        · simp [hvm, t1, t2, g1]
        · have g2 : (m.f.length : Int) ≤ f0 := by omega
          simp [hvm, t1, t2, g1, g2]
      · have g1 : ¬ (i : Int) < 0 := by omega
        have g2 : ¬ (m.f.length : Int) ≤ i := by omega
        simp [hvm, t1, t2, g1, g2]
        refine callW_of kl (.inl rfl) ?_
        simp
  · have e : (validM m && okP p) = false := by
      cases h1 : validM m <;> cases h2 : okP p <;> simp [h1, h2] at hv ⊢
    have e1 : nrE m p = 1 := by rw [nrE, if_neg hv]
    have e2 : nrV m p = 0 := by rw [nrV, e1]; rfl
    simp [e, e1, e2]
    refine callW_of kv (.inl rfl) ?_
    rcases ht with ⟨hvm, t1, t2⟩ | ⟨hvm, hr, t1, t2⟩ | ⟨hvm, i, hi, rfl, t1, t2, kl⟩
    · simp [hvm, t1, t2]
    · simp only [inR1, Bool.and_eq_true, decide_eq_true_eq] at hr
      by_cases g1 : f0 < 0
      · simp [hvm, t1, t2, g1]
      · have g2 : (m.f.length : Int) ≤ f0 := by omega
        simp [hvm, t1, t2, g1, g2]
    · have g1 : ¬ (i : Int) < 0 := by omega
      have g2 : ¬ (m.f.length : Int) ≤ i := by omega
      simp [hvm, t1, t2, g1, g2]
      refine callW_of kl (.inl rfl) ?_
      simp
end Go.Gv

namespace Go.Gv
open Go.Sort
section
variable {P : Program} {F : Fid} {α : Type} [Inhabited α]
def rowsOf (encD : α → D) (d : Array α) : List (List D) := d.toList.map fun x => [encD x]
theorem runsS_of_sort {f : FuncId} (enc : α → Value) (encD : α → D) (hflat : ∀ M x u, RepC F M (encD x) u → u = enc x) (hrep : ∀ M x, RepC F M (encD x) (enc x)) (d d' : Array α) (hsz : d'.size = d.size) (ds : List D)
    (hnone : d.size = 0 → ∀ (M : Mem) (w : World) (vs : List Value) (A : Option Addr), (∀ p v, M p = some v → w.cell? p = some v) → RepL F M ds vs → Calls P f (.slice A 0 0 :: vs).toArray w fun e w' => e = .returned (.tuple #[]) ∧ ∃ n os, w' = grow (Sort.ahead w n) os)
    (hrun : ∀ (M : Mem) (w : World) (vs : List Value) (blk off cap : Nat), (∀ p v, M p = some v → w.cell? p = some v) → (∀ p : Addr, p.block = blk → M p = none) → RepL F M ds vs → Holds enc w blk off d → blk < w.heap.size →
      Calls P f (.slice (some ⟨blk, off, none⟩) d.size cap :: vs).toArray w fun e w' => e = .returned (.tuple #[]) ∧ ∃ n os, w' = grow (putRow enc (Sort.ahead w n) blk off d') os) : RunsS P F f 1 (rowsOf encD d) ds (rowsOf encD d') := by
  intro M w vs hh r
  have hl : (rowsOf encD d).length = d.size := by simp [rowsOf]
  refine ⟨fun e A => ?_, fun b o T us cap hM hb hcell hcap hle hu hc => ?_⟩
  · have h0 : d.size = 0 := by rw [← hl, e]; rfl
    refine (hnone h0 M w vs A hh r).mono ?_
    rintro e0 w' ⟨rfl, n, os, rfl⟩
    exact ⟨rfl, rfl, rfl, rfl, by simp [grow, Sort.ahead], fun k hk => by simp only [grow, Sort.ahead]; rw [Array.getElem?_append_left hk], Nat.le_add_right _ _⟩
  · rw [hl] at hcap ⊢
    have hH : Holds enc w b o d := fun j hj => by
      obtain ⟨u, k1, k2⟩ := hc j [encD d[j]] 0 (encD d[j]) (by simp [rowsOf, hj]) rfl
      have := hflat _ _ _ k2
      subst this
      have e1 : d[j]! = d[j] := getElem!_pos d j hj
      rw [e1]
      have k3 : us[o + j]? = some (enc d[j]) := by simpa using k1
      constructor
      · simp [World.cell?, hcell, k3]
      · simp [World.frozen?, hcell]
    refine (hrun M w vs b o cap hh hM r hH hb).mono ?_
    rintro e0 w' ⟨rfl, n, os, rfl⟩
    have hput : (grow (putRow enc (Sort.ahead w n) b o d') os).heap[b]? = some (.cells (putCells enc o d' us.toArray) T (0, 0)) := by
      simp only [grow, putRow, mapBlock, Sort.ahead]
      rw [Array.getElem?_append_left (by simpa using hb), Array.getElem?_modify, if_pos rfl, hcell]
      rfl
    refine ⟨rfl, (putCells enc o d' us.toArray).toList, by rw [Array.toArray_toList]; exact hput, by simp [putCells], fun i r off x hi hr => ?_, ⟨rfl, rfl, rfl, by simp [grow, putRow, mapBlock, Sort.ahead], fun k hk hne => ?_, Nat.le_add_right _ _⟩⟩
    · simp only [rowsOf, List.getElem?_map, Option.map_eq_some_iff] at hi
      obtain ⟨y, h1, rfl⟩ := hi
      have ho : off = 0 := by
        have := (List.getElem?_eq_some_iff.1 hr).1
        simpa using this
      subst ho
      simp only [List.getElem?_cons_zero, Option.some.injEq] at hr
      subst hr
      have hi2 : i < d'.size := by have := (List.getElem?_eq_some_iff.1 h1).1; simpa using this
      have hy : d'[i]! = y := by
        rw [getElem!_pos d' i hi2]
        have := (List.getElem?_eq_some_iff.1 h1).2
        simpa using this
      refine ⟨enc y, ?_, hrep _ _⟩
      have hlt : o + i < us.length := by
        have : o + cap * 1 ≤ us.length := hle
        omega
      rw [Nat.mul_one, Nat.add_zero, Array.getElem?_toList]
      simp only [putCells, Array.getElem?_mapIdx, List.getElem?_toArray]
      rw [List.getElem?_eq_getElem hlt]
      simp only [Option.map_some]
      rw [if_pos ⟨by omega, by omega⟩, show o + i - o = i by omega, hy]
    · simp only [grow, putRow, mapBlock, Sort.ahead]
      rw [Array.getElem?_append_left (by simpa using hk), Array.getElem?_modify, if_neg (Ne.symm hne)]
end
end Go.Gv

namespace Go.Gv
open Go.Sort Go.Proofs Go.Shelf
theorem runsC_sort_int {P : Program} {F : Fid} {ρ : Ren} (Ly : Lays.n189 P ρ) {g : Nat} (hg : ∀ f, F g = some f → f = ρ.f 189) (zs : List Int) (h0 : zs ≠ []) (hz : zs.length < 2 ^ 62) :
    runsC P F g [.own 1 (zs.map fun n => [.int .i64 n])] .any [.own 1 ((zs.mergeSort fun x y => decide (x ≤ y)).map fun n => [.int .i64 n]), .nilp] := by
  refine ⟨trivial, fun f hf => ⟨rfl, ?_⟩⟩
  obtain rfl := hg f hf
  have k := runsS_of_sort (P := P) (F := F) (f := ρ.f 189) (Value.int .i64) (D.int .i64) (fun M x u h => by simpa only [RepC] using h) (fun M x => by simp only [RepC]) zs.toArray (zs.mergeSort fun x y => decide (x ≤ y)).toArray (by simp [List.length_mergeSort]) []
    (fun h => absurd (List.eq_nil_of_length_eq_zero (by simpa using h)) h0)
    (fun M w vs blk off cap hh hM r hH hb => by
      simp only [RepL] at r
      subst r
      have := Any.slices_Sort_int Ly blk off cap zs w hH hb (by omega)
      simpa using this)
  simpa [rowsOf] using k
end Go.Gv
