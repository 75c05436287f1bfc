/-
  Texts of the proof: H2, H3, H4, H5, H6, GvX2, H10, K4, K5, K6, K7, K8, M0, W1, W2, W3, H8, H7, H9, H11.
-/
import Derived.Test.YtaodbcdhomimpaaGreatDoorX7
import Derived.Lib.Mul64
import Derived.Laws.Bits64b
import Derived.Laws.MathBits
set_option linter.all false
set_option linter.unusedSimpArgs false
namespace Go.Gv
theorem w64_1 : IntKind.wrap .i64 1 = 1 := by decide
theorem w64_2 : IntKind.wrap .i64 2 = 2 := by decide
theorem w64_3 : IntKind.wrap .i64 3 = 3 := by decide
variable {C : CC} (hC : Closed prog C)
include hC
set_option maxHeartbeats 1000000 in
theorem sep_c {t u : Tri} (ht : okT t = true) (hu : okT u = true) : C 311 [.agg (triD t), .agg (triD u)] (.bool (sepT t u)) [] := by
  simp only [okT, Bool.and_eq_true] at ht hu
  obtain ⟨⟨t1, t2⟩, t3⟩ := ht
  obtain ⟨⟨u1, u2⟩, u3⟩ := hu
  have kk := fun (p q r : Pnt) (hp : okP p = true) (hq : okP q = true) (hr : okP r = true) => mturn_c hC hp hq hr
  simp only [ptD] at kk
  have E : sepT t u = (sep1 t.1 t.2.1 u || sep1 t.2.1 t.2.2 u || sep1 t.2.2 t.1 u) := rfl
  rw [E]
  clear E
  have S : ∀ p q, sep1 p q u = (decide (turnP p q u.1 ≤ 0) && decide (turnP p q u.2.1 ≤ 0) && decide (turnP p q u.2.2 ≤ 0)) := fun p q => rfl
  refine start hC (nf := N311_mesh_separates) rfl rfl ?_
  rw [triD, triD]
  simp [N311_mesh_separates]
  refine loop_of Nat (fun i => [(2, .ptr (triD t)), (3, .ptr (triD u)), (8, .int .i64 i)]) (fun i => i ≤ 3 ∧ (1 ≤ i → sep1 t.1 t.2.1 u = false) ∧ (2 ≤ i → sep1 t.2.1 t.2.2 u = false) ∧ (3 ≤ i → sep1 t.2.2 t.1 u = false)) (fun i => 3 - i) 0 (by simp) (by simp [triD]) ?_
  rintro i ⟨hi, s1, s2, s3⟩
  rcases (by omega : i = 0 ∨ i = 1 ∨ i = 2 ∨ i = 3) with rfl | rfl | rfl | rfl
  · simp [triD, w64_1, w64_2, w64_3]
    refine ⟨indW_of (by decide +kernel), ?_⟩
    refine callW_of (kk t.1 t.2.1 u.1 t1 t2 u1) (.inl rfl) ?_
    simp
    refine brB_of (fun h1 => ?_) (fun h1 => ?_) <;> simp at h1
    · simp [h1]
      refine callW_of (kk t.1 t.2.1 u.2.1 t1 t2 u2) (.inl rfl) ?_
      simp
      refine brB_of (fun h2 => ?_) (fun h2 => ?_) <;> simp at h2
      · simp [h2]
        refine callW_of (kk t.1 t.2.1 u.2.2 t1 t2 u3) (.inl rfl) ?_
        simp
        refine brB_of (fun h3 => ?_) (fun h3 => ?_) <;> simp at h3 <;> simp [h3]
        · simp [S, h1, h2, h3]
        · refine ⟨1, ⟨by omega, fun _ => by simp only [S, Bool.and_eq_false_iff, decide_eq_false_iff_not]; omega, fun h => by omega, fun h => by omega⟩, by omega, ?_⟩ <;> simp [w64_1, w64_2, w64_3]
      · simp [Int.not_le.2 h2]
        refine ⟨1, ⟨by omega, fun _ => by simp only [S, Bool.and_eq_false_iff, decide_eq_false_iff_not]; omega, fun h => by omega, fun h => by omega⟩, by omega, ?_⟩ <;> simp [w64_1, w64_2, w64_3]
    · simp [Int.not_le.2 h1]
      refine ⟨1, ⟨by omega, fun _ => by simp only [S, Bool.and_eq_false_iff, decide_eq_false_iff_not]; omega, fun h => by omega, fun h => by omega⟩, by omega, ?_⟩ <;> simp [w64_1, w64_2, w64_3]
  · simp [triD, w64_1, w64_2, w64_3]
    refine ⟨indW_of (by decide +kernel), ?_⟩
    refine callW_of (kk t.2.1 t.2.2 u.1 t2 t3 u1) (.inl rfl) ?_
    simp
    refine brB_of (fun h1 => ?_) (fun h1 => ?_) <;> simp at h1
    · simp [h1]
      refine callW_of (kk t.2.1 t.2.2 u.2.1 t2 t3 u2) (.inl rfl) ?_
      simp
      refine brB_of (fun h2 => ?_) (fun h2 => ?_) <;> simp at h2
      · simp [h2]
        refine callW_of (kk t.2.1 t.2.2 u.2.2 t2 t3 u3) (.inl rfl) ?_
        simp
        refine brB_of (fun h3 => ?_) (fun h3 => ?_) <;> simp at h3 <;> simp [h3]
        · simp [S, h1, h2, h3]
        · refine ⟨2, ⟨by omega, fun _ => s1 (by omega), fun _ => by simp only [S, Bool.and_eq_false_iff, decide_eq_false_iff_not]; omega, fun h => by omega⟩, by omega, ?_⟩ <;> simp [w64_1, w64_2, w64_3]
      · simp [Int.not_le.2 h2]
        refine ⟨2, ⟨by omega, fun _ => s1 (by omega), fun _ => by simp only [S, Bool.and_eq_false_iff, decide_eq_false_iff_not]; omega, fun h => by omega⟩, by omega, ?_⟩ <;> simp [w64_1, w64_2, w64_3]
    · simp [Int.not_le.2 h1]
      refine ⟨2, ⟨by omega, fun _ => s1 (by omega), fun _ => by simp only [S, Bool.and_eq_false_iff, decide_eq_false_iff_not]; omega, fun h => by omega⟩, by omega, ?_⟩ <;> simp [w64_1, w64_2, w64_3]
  · simp [triD, w64_1, w64_2, w64_3]
    refine ⟨indW_of (by decide +kernel), ?_⟩
    refine callW_of (kk t.2.2 t.1 u.1 t3 t1 u1) (.inl rfl) ?_
    simp
    refine brB_of (fun h1 => ?_) (fun h1 => ?_) <;> simp at h1
    · simp [h1]
      refine callW_of (kk t.2.2 t.1 u.2.1 t3 t1 u2) (.inl rfl) ?_
      simp
      refine brB_of (fun h2 => ?_) (fun h2 => ?_) <;> simp at h2
      · simp [h2]
        refine callW_of (kk t.2.2 t.1 u.2.2 t3 t1 u3) (.inl rfl) ?_
        simp
        refine brB_of (fun h3 => ?_) (fun h3 => ?_) <;> simp at h3 <;> simp [h3]
        · simp [S, h1, h2, h3]
        · refine ⟨3, ⟨by omega, fun _ => s1 (by omega), fun _ => s2 (by omega), fun _ => by simp only [S, Bool.and_eq_false_iff, decide_eq_false_iff_not]; omega⟩, by omega, ?_⟩ <;> simp [w64_1, w64_2, w64_3]
      · simp [Int.not_le.2 h2]
        refine ⟨3, ⟨by omega, fun _ => s1 (by omega), fun _ => s2 (by omega), fun _ => by simp only [S, Bool.and_eq_false_iff, decide_eq_false_iff_not]; omega⟩, by omega, ?_⟩ <;> simp [w64_1, w64_2, w64_3]
    · simp [Int.not_le.2 h1]
      refine ⟨3, ⟨by omega, fun _ => s1 (by omega), fun _ => s2 (by omega), fun _ => by simp only [S, Bool.and_eq_false_iff, decide_eq_false_iff_not]; omega⟩, by omega, ?_⟩ <;> simp [w64_1, w64_2, w64_3]
  · simp [s1 (by omega), s2 (by omega), s3 (by omega)]
def triR (t : Tri) : List (List D) := [ptD t.1, ptD t.2.1, ptD t.2.2]
set_option maxHeartbeats 1000000 in
theorem rapart_c {t u : Tri} (ht : okT t = true) (hu : okT u = true) : C 324 [.sl (triR t), .sl (triR u)] (.bool (sepT t u)) [] := by
  simp only [okT, Bool.and_eq_true] at ht hu
  obtain ⟨⟨t1, t2⟩, t3⟩ := ht
  obtain ⟨⟨u1, u2⟩, u3⟩ := hu
  have kk := fun (p q r : Pnt) (hp : okP p = true) (hq : okP q = true) (hr : okP r = true) => rTurn_c hC hp hq hr
  simp only [ptD] at kk
  have E : sepT t u = (sep1 t.1 t.2.1 u || sep1 t.2.1 t.2.2 u || sep1 t.2.2 t.1 u) := rfl
  rw [E]
  clear E
  have S : ∀ p q, sep1 p q u = (decide (turnP p q u.1 ≤ 0) && decide (turnP p q u.2.1 ≤ 0) && decide (turnP p q u.2.2 ≤ 0)) := fun p q => rfl
  refine start hC (nf := N324_ref09_apart) rfl rfl ?_
  simp only [triR, ptD]
  simp [N324_ref09_apart]
  refine loop_of Nat (fun i => [(0, .sl (triR t)), (1, .sl (triR u)), (5, .int .i64 i)]) (fun i => i ≤ 3 ∧ (1 ≤ i → sep1 t.1 t.2.1 u = false) ∧ (2 ≤ i → sep1 t.2.1 t.2.2 u = false) ∧ (3 ≤ i → sep1 t.2.2 t.1 u = false)) (fun i => 3 - i) 0 (by simp) (by simp [triR, ptD]) ?_
  rintro i ⟨hi, s1, s2, s3⟩
  rcases (by omega : i = 0 ∨ i = 1 ∨ i = 2 ∨ i = 3) with rfl | rfl | rfl | rfl
  · simp [triR, ptD, w64_1, w64_2, w64_3]
    refine ⟨indW_of (by decide +kernel), ?_⟩
    refine callW_of (kk t.1 t.2.1 u.1 t1 t2 u1) (.inl rfl) ?_
    simp
    refine brB_of (fun h1 => ?_) (fun h1 => ?_) <;> simp at h1
    · simp [h1]
      refine callW_of (kk t.1 t.2.1 u.2.1 t1 t2 u2) (.inl rfl) ?_
      simp
      refine brB_of (fun h2 => ?_) (fun h2 => ?_) <;> simp at h2
      · simp [h2]
        refine callW_of (kk t.1 t.2.1 u.2.2 t1 t2 u3) (.inl rfl) ?_
        simp
        refine ⟨indW_of (by decide +kernel), ?_⟩
        refine brB_of (fun h3 => ?_) (fun h3 => ?_) <;> simp at h3 <;> simp [h3]
        · simp [S, h1, h2, h3]
        · refine ⟨1, ⟨by omega, fun _ => by simp only [S, Bool.and_eq_false_iff, decide_eq_false_iff_not]; omega, fun h => by omega, fun h => by omega⟩, by omega, ?_⟩ <;> simp [w64_1, w64_2, w64_3]
      · simp [Int.not_le.2 h2]
        refine ⟨indW_of (by decide +kernel), ?_⟩
        refine ⟨1, ⟨by omega, fun _ => by simp only [S, Bool.and_eq_false_iff, decide_eq_false_iff_not]; omega, fun h => by omega, fun h => by omega⟩, by omega, ?_⟩ <;> simp [w64_1, w64_2, w64_3]
    · simp [Int.not_le.2 h1]
      refine ⟨indW_of (by decide +kernel), ?_⟩
      refine ⟨1, ⟨by omega, fun _ => by simp only [S, Bool.and_eq_false_iff, decide_eq_false_iff_not]; omega, fun h => by omega, fun h => by omega⟩, by omega, ?_⟩ <;> simp [w64_1, w64_2, w64_3]
  · simp [triR, ptD, w64_1, w64_2, w64_3]
    refine ⟨indW_of (by decide +kernel), ?_⟩
    refine callW_of (kk t.2.1 t.2.2 u.1 t2 t3 u1) (.inl rfl) ?_
    simp
    refine brB_of (fun h1 => ?_) (fun h1 => ?_) <;> simp at h1
    · simp [h1]
      refine callW_of (kk t.2.1 t.2.2 u.2.1 t2 t3 u2) (.inl rfl) ?_
      simp
      refine brB_of (fun h2 => ?_) (fun h2 => ?_) <;> simp at h2
      · simp [h2]
        refine callW_of (kk t.2.1 t.2.2 u.2.2 t2 t3 u3) (.inl rfl) ?_
        simp
        refine ⟨indW_of (by decide +kernel), ?_⟩
        refine brB_of (fun h3 => ?_) (fun h3 => ?_) <;> simp at h3 <;> simp [h3]
        · simp [S, h1, h2, h3]
        · refine ⟨2, ⟨by omega, fun _ => s1 (by omega), fun _ => by simp only [S, Bool.and_eq_false_iff, decide_eq_false_iff_not]; omega, fun h => by omega⟩, by omega, ?_⟩ <;> simp [w64_1, w64_2, w64_3]
      · simp [Int.not_le.2 h2]
        refine ⟨indW_of (by decide +kernel), ?_⟩
        refine ⟨2, ⟨by omega, fun _ => s1 (by omega), fun _ => by simp only [S, Bool.and_eq_false_iff, decide_eq_false_iff_not]; omega, fun h => by omega⟩, by omega, ?_⟩ <;> simp [w64_1, w64_2, w64_3]
    · simp [Int.not_le.2 h1]
      refine ⟨indW_of (by decide +kernel), ?_⟩
      refine ⟨2, ⟨by omega, fun _ => s1 (by omega), fun _ => by simp only [S, Bool.and_eq_false_iff, decide_eq_false_iff_not]; omega, fun h => by omega⟩, by omega, ?_⟩ <;> simp [w64_1, w64_2, w64_3]
  · simp [triR, ptD, w64_1, w64_2, w64_3]
    refine ⟨indW_of (by decide +kernel), ?_⟩
    refine callW_of (kk t.2.2 t.1 u.1 t3 t1 u1) (.inl rfl) ?_
    simp
    refine brB_of (fun h1 => ?_) (fun h1 => ?_) <;> simp at h1
    · simp [h1]
      refine callW_of (kk t.2.2 t.1 u.2.1 t3 t1 u2) (.inl rfl) ?_
      simp
      refine brB_of (fun h2 => ?_) (fun h2 => ?_) <;> simp at h2
      · simp [h2]
        refine callW_of (kk t.2.2 t.1 u.2.2 t3 t1 u3) (.inl rfl) ?_
        simp
        refine ⟨indW_of (by decide +kernel), ?_⟩
        refine brB_of (fun h3 => ?_) (fun h3 => ?_) <;> simp at h3 <;> simp [h3]
        · simp [S, h1, h2, h3]
        · refine ⟨3, ⟨by omega, fun _ => s1 (by omega), fun _ => s2 (by omega), fun _ => by simp only [S, Bool.and_eq_false_iff, decide_eq_false_iff_not]; omega⟩, by omega, ?_⟩ <;> simp [w64_1, w64_2, w64_3]
      · simp [Int.not_le.2 h2]
        refine ⟨indW_of (by decide +kernel), ?_⟩
        refine ⟨3, ⟨by omega, fun _ => s1 (by omega), fun _ => s2 (by omega), fun _ => by simp only [S, Bool.and_eq_false_iff, decide_eq_false_iff_not]; omega⟩, by omega, ?_⟩ <;> simp [w64_1, w64_2, w64_3]
    · simp [Int.not_le.2 h1]
      refine ⟨indW_of (by decide +kernel), ?_⟩
      refine ⟨3, ⟨by omega, fun _ => s1 (by omega), fun _ => s2 (by omega), fun _ => by simp only [S, Bool.and_eq_false_iff, decide_eq_false_iff_not]; omega⟩, by omega, ?_⟩ <;> simp [w64_1, w64_2, w64_3]
  · simp [s1 (by omega), s2 (by omega), s3 (by omega)]
end Go.Gv

set_option linter.unusedSimpArgs false
namespace Go.Gv
def okc (m : Msh) (a b : Int) : Bool := inR1 m.s.length a && decide (a ≠ b) && rightS (spt m a.toNat)
def okF (m : Msh) (f : Fce) : Bool := okc m f.a f.b && okc m f.b f.c && okc m f.c f.a && decide (0 ≤ f.k) && decide (f.k < 16)
def mtc (f g : Fce) (i k : Nat) : Bool := decide (crn f i = crn g k) && decide (crn f (i + 1) = crn g (k + 1))
def shareB (f g : Fce) : Bool := (List.range 3).any fun i => (List.range 3).any fun k => mtc f g i k
theorem okF_inS {m : Msh} {f : Fce} (h : okF m f = true) : inS m f = true := by
  simp only [okF, okc, Bool.and_eq_true] at h
  simp only [inS, Bool.and_eq_true]
  exact ⟨⟨h.1.1.1.1.1.1, h.1.1.1.2.1.1⟩, h.1.1.2.1.1⟩
theorem okF_okT {m : Msh} {f : Fce} (h : okF m f = true) : okT (triF m f) = true := by
  simp only [okF, okc, Bool.and_eq_true] at h
  simp only [okT, triF, Bool.and_eq_true]
  exact ⟨⟨okP_of h.1.1.1.1.2, okP_of h.1.1.1.2.2⟩, okP_of h.1.1.2.2⟩
def digB (n : Nat) : UInt8 := UInt8.ofNat (48 + n % 10)
def decL (n : Nat) (out : List UInt8) : List UInt8 := if n < 10 then digB n :: out else decL (n / 10) (digB n :: out)
def decR (n : Nat) (out : List UInt8) : List UInt8 := if n = 0 then out else decL n out
theorem decL_step (n : Nat) (out : List UInt8) : decL n out = decR (n / 10) (digB n :: out) := by
  rw [decL, decR]
  by_cases h : n < 10
  · rw [if_pos h, if_pos (by omega)]
  · rw [if_neg h, if_neg (by omega)]
variable {C : CC} (hC : Closed prog C)
include hC
theorem rturn_c (m : Msh) (f : Fce) (hs : inS m f = true) (ht : okT (triF m f) = true) : C 293 [.agg (mshC m), .agg (fceC f)] (.int .i64 (turnT (triF m f))) [] := by
  have k1 := rtri_c hC m f hs
  have k2 := ht
  simp only [okT, Bool.and_eq_true] at k2
  have k3 := rTurn_c hC k2.1.1 k2.1.2 k2.2
  obtain ⟨t, e⟩ : ∃ t, t = triF m f := ⟨_, rfl⟩
  rw [← e] at k1 k3 ⊢
  refine start hC (nf := N293_ref09_turn) rfl rfl ?_
  rw [mshC, fceC] at k1 ⊢
  simp only [ptD] at k1 k3
  simp [N293_ref09_turn]
  refine callW_of k1 (.inr rfl) ?_
  simp
  refine callW_of k3 (.inl rfl) ?_
  simp [turnT]
  exact indW_of (by decide +kernel)
theorem roverlap_c (m : Msh) (f g : Fce) (hs : inS m f = true) (ht : okT (triF m f) = true) (hs' : inS m g = true) (ht' : okT (triF m g) = true) : C 295 [.agg (mshC m), .agg (fceC f), .agg (fceC g)] (.bool (ovT (triF m f) (triF m g))) [] := by
  have k1 := rtri_c hC m f hs
  have k2 := rtri_c hC m g hs'
  have k3 := rapart_c hC ht ht'
  have k4 := rapart_c hC ht' ht
  obtain ⟨t, e⟩ : ∃ t, t = triF m f := ⟨_, rfl⟩
  obtain ⟨u, e'⟩ : ∃ u, u = triF m g := ⟨_, rfl⟩
  rw [← e] at k1 k3 k4 ⊢
  rw [← e'] at k2 k3 k4 ⊢
  refine start hC (nf := N295_ref09_overlap) rfl rfl ?_
  rw [mshC, fceC] at k1 k2 ⊢
  rw [fceC]
  simp only [triR, ptD] at k1 k2 k3 k4
  simp [N295_ref09_overlap]
  refine callW_of k1 (.inr rfl) ?_
  simp
  refine callW_of k2 (.inr rfl) ?_
  simp
  refine ⟨indW_of (by decide +kernel), ?_⟩
  refine callW_of k3 (.inl rfl) ?_
  simp
  cases h1 : sepT t u <;> simp [ovT, h1]
  refine callW_of k4 (.inl rfl) ?_
  simp
  exact fun _ => h1
theorem rsame_c (f g : Fce) : C 294 [.agg (fceC f), .agg (fceC g)] (.bool (shareB f g)) [] := by
  have kf := fun k (h : k < 4) => rCorner_c hC f k h
  have kg := fun k (h : k < 4) => rCorner_c hC g k h
  refine start hC (nf := N294_ref09_sameSide) rfl rfl ?_
  rw [fceC] at kf ⊢
  rw [fceC] at kg ⊢
  simp [N294_ref09_sameSide]
  refine loop_of Nat (fun i => [(2, .ptr (fceC f)), (3, .ptr (fceC g)), (5, .int .i64 i)]) (fun i => i ≤ 3 ∧ ∀ a, a < i → ∀ b, b < 3 → mtc f g a b = false) (fun i => 3 - i) 0 (by simp) (by simp [fceC]) ?_
  rintro i ⟨hi, hI⟩
  simp [fceC]
  refine brB_of (fun c1 => ?_) (fun c1 => ?_) <;> simp at c1 <;> simp [c1]
  · have hw : IntKind.wrap .i64 ((i : Int) + 1) = ((i + 1 : Nat) : Int) := wrap_i64 (by omega) (by omega)
    refine loop_of Nat (fun k => [(2, .ptr (fceC f)), (3, .ptr (fceC g)), (5, .int .i64 i), (6, .int .i64 k)]) (fun k => k ≤ 3 ∧ ∀ b, b < k → mtc f g i b = false) (fun k => 3 - k) 0 (by simp) (by simp [fceC]) ?_
    rintro k ⟨hk, hK⟩
    simp [fceC]
    refine brB_of (fun c2 => ?_) (fun c2 => ?_) <;> simp at c2 <;> simp [c2]
    · have hw2 : IntKind.wrap .i64 ((k : Int) + 1) = ((k + 1 : Nat) : Int) := wrap_i64 (by omega) (by omega)
      refine callW_of (kf i (by omega)) (.inl rfl) ?_
      simp
      refine callW_of (kg k (by omega)) (.inl rfl) ?_
      simp
      by_cases h1 : crn f i = crn g k
      · simp [h1, hw, hw2]
        refine callW_of (kf (i + 1) (by omega)) (.inl rfl) ?_
        simp [hw2]
        refine callW_of (kg (k + 1) (by omega)) (.inl rfl) ?_
        simp
        refine ⟨indW_of (by decide +kernel), ?_⟩
        by_cases h2 : crn f (i + 1) = crn g (k + 1)
        · simp [h2]
          refine List.any_eq_true.2 ⟨i, List.mem_range.2 (by omega), List.any_eq_true.2 ⟨k, List.mem_range.2 (by omega), ?_⟩⟩
          simp [mtc, h1, h2]
        · simp [h2, hw2]
          refine ⟨k + 1, ⟨by omega, fun b hb => ?_⟩, by omega, ?_⟩
          rotate_left
          · omega
          rcases Nat.lt_succ_iff_lt_or_eq.1 hb with h | rfl
          · exact hK b h
          · simp [mtc, h2]
      · simp [h1, hw2]
        refine ⟨indW_of (by decide +kernel), ?_⟩
        refine ⟨k + 1, ⟨by omega, fun b hb => ?_⟩, by omega, ?_⟩
        rotate_left
        · omega
        rcases Nat.lt_succ_iff_lt_or_eq.1 hb with h | rfl
        · exact hK b h
        · simp [mtc, h1]
    · simp [hw]
      refine ⟨i + 1, ⟨by omega, fun a ha b hb => ?_⟩, by omega, ?_⟩
      rotate_left
      · omega
      rcases Nat.lt_succ_iff_lt_or_eq.1 ha with h | rfl
      · exact hI a h b hb
      · exact hK b (by omega)
  · rw [shareB]
    rw [Bool.eq_false_iff]
    intro h
    rw [List.any_eq_true] at h
    obtain ⟨a, ha, h⟩ := h
    rw [List.any_eq_true] at h
    obtain ⟨b, hb, h⟩ := h
    rw [hI a (by have := List.mem_range.1 ha; omega) b (List.mem_range.1 hb)] at h
    cases h
set_option maxHeartbeats 2000000 in
theorem rcor_c (m : Msh) (f : Fce) (hn : m.s.length < 2 ^ 40) : C 292 [.agg (mshC m), .agg (fceC f)] (.bool (okF m f)) [] := by
  have ks := fun s => rSpot_c hC s
  have E : ∀ a b : Int, okc m a b = (decide (0 ≤ a) && decide (a < m.s.length) && decide (a ≠ b) && rightS (spt m a.toNat)) := fun a b => rfl
  have E2 : okF m f = (okc m f.a f.b && okc m f.b f.c && okc m f.c f.a && decide (0 ≤ f.k) && decide (f.k < 16)) := rfl
  refine start hC (nf := N292_ref09_corners) rfl rfl ?_
  rw [mshC, fceC]
  simp only [sptC] at ks
  simp [N292_ref09_corners]
  refine loop_of Nat (fun i => [(2, .ptr (mshC m)), (3, .ptr (fceC f)), (5, .ref (.r 10080) 0 3), (10080, .blk 1 [[.int .i64 f.a], [.int .i64 f.b], [.int .i64 f.c]]), (6, .int .i64 i)]) (fun i => i ≤ 3 ∧ (1 ≤ i → okc m f.a f.b = true) ∧ (2 ≤ i → okc m f.b f.c = true) ∧ (3 ≤ i → okc m f.c f.a = true)) (fun i => 3 - i) 0 (by simp) (by simp [fceC, mshC]) ?_
  rintro i ⟨hi, s1, s2, s3⟩
  rcases (by omega : i = 0 ∨ i = 1 ∨ i = 2 ∨ i = 3) with rfl | rfl | rfl | rfl
  · have no : okc m f.a f.b = false → okF m f = false := fun h => by simp [E2, h]
    simp [fceC, mshC, w64_1, w64_2, w64_3]
    refine brB_of (fun c1 => ?_) (fun c1 => ?_) <;> simp at c1
    · simp [c1]
      exact ⟨indW_of (by decide +kernel), no (by rw [E, decide_eq_false (by omega)]; simp)⟩
    · simp [Int.not_lt.2 c1]
      refine brB_of (fun c2 => ?_) (fun c2 => ?_) <;> simp at c2
      · simp [c2]
        exact ⟨indW_of (by decide +kernel), no (by rw [E, decide_eq_false (show ¬ f.a < m.s.length by omega)]; simp)⟩
      · simp [Int.not_le.2 c2, w64_1, w64_2, w64_3]
        by_cases c3 : f.a = f.b
        · simp [c3, w64_1, w64_2, w64_3]
          exact ⟨indW_of (by decide +kernel), no (by rw [E, decide_eq_false (show ¬ f.a ≠ f.b by omega)]; simp)⟩
        · simp [c3, c1, w64_1, w64_2, w64_3]
          refine ⟨by omega, by simp [sptC], ?_⟩
          simp [sptC_eq]
          refine callW_of (ks (spt m f.a.toNat)) (.inl rfl) ?_
          cases c4 : rightS (spt m f.a.toNat)
          · simp
            exact ⟨indW_of (by decide +kernel), no (by rw [E, c4]; simp)⟩
          · simp
            refine ⟨indW_of (by decide +kernel), ?_⟩
            refine ⟨1, ⟨by omega, fun _ => by rw [E]; simp [c1, c3, c4]; omega, fun h => by omega, fun h => by omega⟩, by omega, ?_⟩ <;> simp [w64_1, w64_2, w64_3]
  · have no : okc m f.b f.c = false → okF m f = false := fun h => by simp [E2, h]
    simp [fceC, mshC, w64_1, w64_2, w64_3]
    refine brB_of (fun c1 => ?_) (fun c1 => ?_) <;> simp at c1
    · simp [c1]
      exact ⟨indW_of (by decide +kernel), no (by rw [E, decide_eq_false (by omega)]; simp)⟩
    · simp [Int.not_lt.2 c1]
      refine brB_of (fun c2 => ?_) (fun c2 => ?_) <;> simp at c2
      · simp [c2]
        exact ⟨indW_of (by decide +kernel), no (by rw [E, decide_eq_false (show ¬ f.b < m.s.length by omega)]; simp)⟩
      · simp [Int.not_le.2 c2, w64_1, w64_2, w64_3]
        by_cases c3 : f.b = f.c
        · simp [c3, w64_1, w64_2, w64_3]
          exact ⟨indW_of (by decide +kernel), no (by rw [E, decide_eq_false (show ¬ f.b ≠ f.c by omega)]; simp)⟩
        · simp [c3, c1, w64_1, w64_2, w64_3]
          refine ⟨by omega, by simp [sptC], ?_⟩
          simp [sptC_eq]
          refine callW_of (ks (spt m f.b.toNat)) (.inl rfl) ?_
          cases c4 : rightS (spt m f.b.toNat)
          · simp
            exact ⟨indW_of (by decide +kernel), no (by rw [E, c4]; simp)⟩
          · simp
            refine ⟨indW_of (by decide +kernel), ?_⟩
            refine ⟨2, ⟨by omega, fun _ => s1 (by omega), fun _ => by rw [E]; simp [c1, c3, c4]; omega, fun h => by omega⟩, by omega, ?_⟩ <;> simp [w64_1, w64_2, w64_3]
  · have no : okc m f.c f.a = false → okF m f = false := fun h => by simp [E2, h]
    simp [fceC, mshC, w64_1, w64_2, w64_3]
    refine brB_of (fun c1 => ?_) (fun c1 => ?_) <;> simp at c1
    · simp [c1]
      exact ⟨indW_of (by decide +kernel), no (by rw [E, decide_eq_false (by omega)]; simp)⟩
    · simp [Int.not_lt.2 c1]
      refine brB_of (fun c2 => ?_) (fun c2 => ?_) <;> simp at c2
      · simp [c2]
        exact ⟨indW_of (by decide +kernel), no (by rw [E, decide_eq_false (show ¬ f.c < m.s.length by omega)]; simp)⟩
      · simp [Int.not_le.2 c2, w64_1, w64_2, w64_3]
        by_cases c3 : f.c = f.a
        · simp [c3, w64_1, w64_2, w64_3]
          exact ⟨indW_of (by decide +kernel), no (by rw [E, decide_eq_false (show ¬ f.c ≠ f.a by omega)]; simp)⟩
        · simp [c3, c1, w64_1, w64_2, w64_3]
          refine ⟨by omega, by simp [sptC], ?_⟩
          simp [sptC_eq]
          refine callW_of (ks (spt m f.c.toNat)) (.inl rfl) ?_
          cases c4 : rightS (spt m f.c.toNat)
          · simp
            exact ⟨indW_of (by decide +kernel), no (by rw [E, c4]; simp)⟩
          · simp
            refine ⟨indW_of (by decide +kernel), ?_⟩
            refine ⟨3, ⟨by omega, fun _ => s1 (by omega), fun _ => s2 (by omega), fun _ => by rw [E]; simp [c1, c3, c4]; omega⟩, by omega, ?_⟩ <;> simp [w64_1, w64_2, w64_3]
  · have t1 := s1 (by omega)
    have t2 := s2 (by omega)
    have t3 := s3 (by omega)
    simp [fceC, mshC, E2, t1, t2, t3]
    refine brB_of (fun c1 => ?_) (fun c1 => ?_) <;> simp at c1 <;> simp [c1] <;> rw [E2, t1, t2, t3] <;> simp [c1]
    omega
theorem rDec_c (n : Nat) (hn : n < 100) : C 290 [.int .i64 n] (.str (decL n [])) [] := by
  refine start hC (nf := N290_ref09_Decimal) rfl rfl ?_
  simp [N290_ref09_Decimal]
  refine loop_of (Nat × List UInt8) (fun s => [(0, .int .i64 s.1), (3, .str s.2)]) (fun s => s.1 + s.2.length ≤ n + 1 ∧ ((s.2 = [] ∧ s.1 = n) ∨ (s.2 ≠ [] ∧ decR s.1 s.2 = decL n []))) (fun s => s.1 + if s.2 = [] then 1 else 0) (n, []) (by simp) (by simp) ?_
  rintro ⟨k, out⟩ ⟨hl, hI⟩
  simp only at hl hI
  have ww : IntKind.wrap .i64 ((k : Int) / 10) = ((k / 10 : Nat) : Int) := wrap_i64 (by omega) (by omega)
  have wq : IntKind.wrap .i64 (48 + (k : Int) % 10) = 48 + (k : Int) % 10 := wrap_i64 rfl (by omega)
  have et : (k : Int).tmod 10 = (k : Int) % 10 := Int.tmod_eq_emod_of_nonneg (by omega)
  have wd : IntKind.u8.wrap (48 + (k : Int) % 10) = 48 + (k : Int) % 10 := by
    have e1 : IntKind.u8.signed = false := rfl
    have e3 : (2 ^ IntKind.u8.bits : Int) = 256 := rfl
    unfold IntKind.wrap
    simp only [e1, e3, Bool.false_and]
    simp
    omega
  have wdd : IntKind.u8.wrap (IntKind.wrap .i64 (48 + (k : Int).tmod 10)) = 48 + (k : Int) % 10 := by rw [et, wq, wd]
  have hda : (k : Int) / 10 = ((k / 10 : Nat) : Int) := by omega
  have wb : byteOf [.int .u8 (48 + (k : Int) % 10)] = digB k := by
    have : (48 + (k : Int) % 10).toNat = 48 + k % 10 := by omega
    simp only [byteOf, digB, this]
  have hstep : decR (k / 10) (digB k :: out) = decL n [] ∨ (k = 0 ∧ out ≠ []) := by
    rcases hI with ⟨rfl, rfl⟩ | ⟨h1, h2⟩
    · exact .inl (decL_step _ _).symm
    · by_cases h : k = 0
      · exact .inr ⟨h, h1⟩
      · rw [decR, if_neg h] at h2
        rw [← decL_step, h2]
        exact .inl rfl
  by_cases hk : 0 < k
  · have h3 : decR (k / 10) (digB k :: out) = decL n [] := by
      rcases hstep with h | h
      · exact h
      · omega
    simp [hk, wdd, ww]
    refine ⟨⟨48 + k % 10, by omega, by omega⟩, by omega, k / 10, _, ⟨by simp; omega, .inr ⟨by simp, ?_⟩⟩, ?_, hda, rfl⟩
    · rw [wb]; exact h3
    · simp
      split <;> omega
  · have h0 : k = 0 := by omega
    subst h0
    by_cases ho : out = []
    · subst ho
      simp at hstep
      have w48 : IntKind.u8.wrap (IntKind.wrap .i64 48) = 48 := by decide
      simp [w48]
      refine ⟨⟨48, rfl, by omega⟩, 0, _, ⟨by simp, .inr ⟨by simp, ?_⟩⟩, ⟨rfl, by simp⟩, by decide, rfl⟩
      have : byteOf [.int .u8 48] = digB 0 := by decide
      rw [this]
      exact hstep
    · rcases hI with ⟨h1, _⟩ | ⟨_, h2⟩
      · exact absurd h1 ho
      · rw [decR, if_pos rfl] at h2
        rw [← h2]
        simp [ho]
end Go.Gv

set_option linter.unusedSimpArgs false
namespace Go.Gv
def sptP (m : Msh) (i : Nat) : Pnt := ptS (spt m i)
def fil (p : Nat → Bool) (n : Nat) : List Nat := (List.range n).filter p
theorem fil_zero (p : Nat → Bool) : fil p 0 = [] := rfl
theorem fil_yes {p : Nat → Bool} {n : Nat} (h : p n = true) : fil p (n + 1) = fil p n ++ [n] := by
  rw [fil, List.range_succ, List.filter_append]
  simp [h, fil]
theorem fil_no {p : Nat → Bool} {n : Nat} (h : p n = false) : fil p (n + 1) = fil p n := by
  rw [fil, List.range_succ, List.filter_append]
  simp [h, fil]
theorem fil_le (p : Nat → Bool) (n : Nat) : (fil p n).length ≤ n := by
  have := List.length_filter_le p (List.range n)
  rw [fil]
  simpa using this
theorem fil_lt {p : Nat → Bool} {n i : Nat} (h : i ∈ fil p n) : i < n ∧ p i = true := by
  rw [fil, List.mem_filter, List.mem_range] at h
  exact h
theorem fil_nil {p : Nat → Bool} {n : Nat} : fil p n = [] ↔ ∀ i, i < n → p i = false := by
  rw [fil, List.filter_eq_nil_iff]
  simp
def farB (m : Msh) (i : Nat) : Bool := !rightS (spt m i)
def sameB (m : Msh) (i : Nat) : Bool := rightS (spt m i) && (List.range i).any fun k => rightS (spt m k) && decide (sptP m k = sptP m i)
def badB (m : Msh) (i : Nat) : Bool := !okF m (fce m i)
def flatB (m : Msh) (i : Nat) : Bool := okF m (fce m i) && decide (turnT (triF m (fce m i)) ≤ 0)
def sndB (m : Msh) (i : Nat) : Bool := okF m (fce m i) && decide (0 < turnT (triF m (fce m i)))
def sideB (m : Msh) (i : Nat) : Bool := sndB m i && (List.range i).any fun k => sndB m k && shareB (fce m i) (fce m k)
def overB (m : Msh) (i : Nat) : Bool := sndB m i && (List.range i).any fun k => sndB m k && ovT (triF m (fce m i)) (triF m (fce m k))
def LL (m : Msh) : List (List Nat) := [[], fil (farB m) m.s.length, fil (sameB m) m.s.length, fil (badB m) m.f.length, fil (flatB m) m.f.length, fil (sideB m) m.f.length, fil (overB m) m.f.length]
def outF (dec : Nat → List UInt8) : Nat → List (List Nat) → List (Int × List UInt8)
  | _, [] => []
  | k, l :: r => (l.map fun i => ((k : Int), dec i)) ++ outF dec (k + 1) r
def fnD (x : Int × List UInt8) : List D := [.int .i64 x.1, .str x.2]
def smallM (m : Msh) : Bool := decide (m.s.length ≤ 2000) && decide (m.f.length ≤ 4000)
def validM (m : Msh) : Bool := smallM m && (LL m).all fun l => decide (l = [])
theorem outF_nil (dec : Nat → List UInt8) : ∀ (k : Nat) (ls : List (List Nat)), outF dec k ls = [] ↔ (ls.all fun l => decide (l = [])) = true
  | _, [] => by simp [outF]
  | k, l :: r => by simp [outF, outF_nil dec (k + 1) r]
def ptKs (m : Msh) : Nat → List D
  | 0 => []
  | i + 1 => if rightS (spt m i) then .agg (ptD (sptP m i)) :: ptKs m i else ptKs m i
def ptVs (m : Msh) : Nat → List D
  | 0 => []
  | i + 1 => if rightS (spt m i) then .bool true :: ptVs m i else ptVs m i
theorem ptKs_len (m : Msh) : ∀ i, (ptKs m i).length ≤ i
  | 0 => by simp [ptKs]
  | i + 1 => by
    have := ptKs_len m i
    rw [ptKs]
    split <;> simp <;> omega
theorem eqD_pt (p q : Pnt) : eqD (.agg (ptD p)) (.agg (ptD q)) = decide (q = p) := by
  obtain ⟨a, b⟩ := p
  obtain ⟨c, d⟩ := q
  simp [eqD, eqDs, eqD1, ptD]
  rw [Bool.eq_iff_iff]
  simp
  exact ⟨fun h => ⟨h.1.symm, h.2.symm⟩, fun h => ⟨h.1.symm, h.2.symm⟩⟩
theorem pt_get (m : Msh) (p : Pnt) : ∀ i, (mpGet (ptKs m i) (ptVs m i) (.agg (ptD p))).getD (.bool false) = .bool ((List.range i).any fun k => rightS (spt m k) && decide (sptP m k = p))
  | 0 => rfl
  | i + 1 => by
    rw [ptKs, ptVs, List.range_succ, List.any_append]
    by_cases h : rightS (spt m i) = true
    · rw [if_pos h, if_pos h, mpGet, eqD_pt]
      by_cases h2 : sptP m i = p
      · simp [h, h2]
      · simp [h2, pt_get m p i]
    · rw [if_neg h, if_neg h, pt_get m p i]
      simp [h]
def farR (m : Msh) (i : Nat) : List Bool := (List.range m.s.length).map fun j => decide (j < i) && farB m j
theorem farR_len (m : Msh) (i : Nat) : (farR m i).length = m.s.length := by simp [farR]
theorem farR_zero (m : Msh) : farR m 0 = List.replicate m.s.length false := by
  refine List.ext_getElem (by simp [farR]) fun k h1 h2 => ?_
  simp [farR]
theorem farR_set (m : Msh) {i : Nat} (h : i < m.s.length) : (farR m i).set i (farB m i) = farR m (i + 1) := by
  refine List.ext_getElem (by simp [farR]) fun k h1 h2 => ?_
  rw [List.getElem_set]
  simp only [farR, List.getElem_map, List.getElem_range]
  by_cases e : i = k
  · subst e; simp
  · rw [if_neg e]
    by_cases e2 : k < i
    · simp [e2, show k < i + 1 by omega]
    · simp [e2, show ¬ k < i + 1 by omega]
theorem farR_all (m : Msh) {k : Nat} (h : k < m.s.length) : (farR m m.s.length)[k]'(by rw [farR_len]; exact h) = farB m k := by simp [farR, h]
variable {C : CC} (hC : Closed prog C)
include hC
theorem idxTri_c {b : Bool} {xs : List Tri} {g : Nat} {cs : List D} (p : Tri → Bool) (hs : xs.length < 2 ^ 62) (hp : ∀ x ∈ xs, C g (.agg (triD x) :: cs) (.bool (p x)) []) : C 328 [slx b (xs.map triD), .fn g cs] (.int .i64 (idxD p xs)) [] := by
  refine start hC (nf := N328_slices_IndexFunc___3api_Point__3api_Point) rfl rfl ?_
  simp [N328_slices_IndexFunc___3api_Point__3api_Point]
  refine loop_of Nat (fun i => [(0, slx b (xs.map triD)), (1, .fn g cs), (7, .int .i64 xs.length), (8, .int .i64 i)]) (fun i => i ≤ xs.length ∧ ∀ (j : Nat) (h : j < xs.length), j < i → p xs[j] = false) (fun i => xs.length - i) 0 (by simp) (by simp) ?_
  rintro i ⟨hi, hj⟩
  simp
  refine brB_of (fun h => ?_) (fun h => ?_) <;> simp [h] <;> simp at h
  · have hw : IntKind.wrap .i64 ((i : Int) + 1) = ((i + 1 : Nat) : Int) := wrap_i64 (by omega) (by omega)
    have hc := hp _ (List.getElem_mem h)
    simp [h, List.getElem_map, triD] at hc ⊢
    refine callW_of hc (.inl rfl) ?_
    simp
    refine brB_of (fun h1 => ?_) (fun h1 => ?_) <;> simp [h1, hw]
    · rw [idxD_step hj h h1]
    · refine ⟨i + 1, ⟨by omega, fun j hl hjj => ?_⟩, by omega, by simp [triD]⟩
      rcases Nat.lt_succ_iff_lt_or_eq.1 hjj with h2 | rfl
      · exact hj j hl h2
      · exact h1
  · rw [idxD_none (fun j hl => hj j hl (by omega))]
theorem hasTri_c {b : Bool} {xs : List Tri} {g : Nat} {cs : List D} (p : Tri → Bool) (hs : xs.length < 2 ^ 62) (hp : ∀ x ∈ xs, C g (.agg (triD x) :: cs) (.bool (p x)) []) : C 309 [slx b (xs.map triD), .fn g cs] (.bool (xs.any p)) [] := by
  refine start hC (nf := N309_slices_ContainsFunc___3api_Point__3api_Point) rfl rfl ?_
  simp [N309_slices_ContainsFunc___3api_Point__3api_Point]
  refine callW_of (idxTri_c hC p hs hp) (.inl rfl) ?_
  simp [idxD_any]
theorem chk1_c (m : Msh) (k : Int) (hn : m.s.length < 2 ^ 40) : C 306 [.int .i64 k, .ptr (mshC m), .ptr [.sl ((farR m m.s.length).map fun b => [.bool b])]] (.bool (!(inR1 m.s.length k && rightS (spt m k.toNat)))) [] := by
  have E : inR1 m.s.length k = (decide (0 ≤ k) && decide (k < m.s.length)) := rfl
  refine start hC (nf := N306_mesh_Check_1) rfl rfl ?_
  simp [N306_mesh_Check_1, mshC]
  refine brB_of (fun c1 => ?_) (fun c1 => ?_) <;> simp at c1
  · simp [c1]
    rw [E, decide_eq_false (by omega)]; simp
  · simp [Int.not_lt.2 c1]
    refine brB_of (fun c2 => ?_) (fun c2 => ?_) <;> simp at c2
    · simp [c2]
      rw [E, decide_eq_false (show ¬ k < m.s.length by omega)]; simp
    · have c3 : k.toNat < m.s.length := by omega
      have c4 := farR_all m c3
      simp [Int.not_le.2 c2, c1, c3, farR_len]
      rw [c4, E, decide_eq_true c1, decide_eq_true c2]
      simp [farB]
theorem chk2_c {t o : Tri} (ht : okT t = true) (ho : okT o = true) : C 310 [.agg (triD o), .ptr (triD t)] (.bool (ovT t o)) [] := by
  have k1 := sep_c hC ht ho
  have k2 := sep_c hC ho ht
  refine start hC (nf := N310_mesh_Check_2) rfl rfl ?_
  rw [triD, triD] at k1 k2 ⊢
  simp [N310_mesh_Check_2]
  refine callW_of k1 (.inl rfl) ?_
  simp
  cases h1 : sepT t o <;> simp [ovT, h1]
  refine callW_of k2 (.inl rfl) ?_
  simp
  exact fun _ => h1
end Go.Gv

set_option linter.unusedSimpArgs false
namespace Go.Gv
def nmR (l : List Nat) : List (List D) := l.map fun (k : Nat) => [D.int .i64 k]
theorem nmR_eq (l : List Nat) : nmR l = l.map fun (k : Nat) => [D.int .i64 k] := _root_.id rfl
theorem nmR_yes {p : Nat → Bool} {n : Nat} (h : p n = true) : nmR (fil p n) ++ [[D.int .i64 n]] = nmR (fil p (n + 1)) := by
  rw [fil_yes h]; simp [nmR]
theorem nmR_no {p : Nat → Bool} {n : Nat} (h : p n = false) : nmR (fil p n) = nmR (fil p (n + 1)) := by rw [fil_no h]
@[simp] theorem nmR_len (l : List Nat) : (nmR l).length = l.length := by simp [nmR]
@[simp] theorem nmR_c1 (l : List Nat) : (∀ e ∈ nmR l, ∀ c ∈ e, isC1 c = true) = True := by simp [nmR]
@[simp] theorem nmR_take (l : List Nat) : List.take l.length (nmR l) = nmR l := List.take_of_length_le (by simp)
@[simp] theorem nmR_c1a (l : List Nat) (x : List D) : (∀ e, e ∈ nmR l ∨ e = x → ∀ c, c ∈ e → isC1 c = true) = ∀ c, c ∈ x → isC1 c = true := by
  apply propext
  constructor
  · exact fun h => h x (.inr rfl)
  · rintro h e (he | rfl)
    · exact (nmR_c1 l).mpr trivial e he
    · exact h
@[simp] theorem nmR_nil : nmR [] = [] := rfl
def boR (l : List Bool) : List (List D) := l.map fun b => [D.bool b]
theorem boR_eq (l : List Bool) : boR l = l.map fun b => [D.bool b] := _root_.id rfl
@[simp] theorem boR_len (l : List Bool) : (boR l).length = l.length := by simp [boR]
@[simp] theorem boR_get (l : List Bool) (i : Nat) (h : i < (boR l).length) : (boR l)[i] = [D.bool (l[i]'(by simpa using h))] := by simp [boR]
@[simp] theorem boR_set (l : List Bool) (i : Nat) (b : Bool) : (boR l).set i [D.bool b] = boR (l.set i b) := by simp [boR, List.map_set]
theorem farR_set' (m : Msh) {i : Nat} (h : i < m.s.length) : (farR m i).set i (!rightS (spt m i)) = farR m (i + 1) := farR_set m h
theorem farR_at (m : Msh) {i : Nat} (h : i < m.s.length) (h' : i < (farR m (i + 1)).length) : (farR m (i + 1))[i] = !rightS (spt m i) := by simp [farR, farB]
theorem farR_rep (m : Msh) : List.replicate m.s.length [D.bool false] = boR (farR m 0) := by rw [farR_zero]; simp [boR]
def chkL1 (m : Msh) (i : Nat) : Env := [(1, .ptr (mshC m)), (4, .adr (.r 10064) 0 0), (10064, .blk 7 [[.own 1 [], .own 1 (nmR (fil (farB m) i)), .own 1 (nmR (fil (sameB m) i)), .own 1 [], .own 1 [], .own 1 [], .own 1 []]]), (5, .adr (.r 10080) 0 0), (10080, .blk 1 [[.own 1 (boR (farR m i))]]), (6, .mrf 10464), (10464, .mp 4 1 (ptKs m i) (ptVs m i)), (31, slx m.sn (m.s.map sptC)), (32, .int .i64 m.s.length), (33, .int .i64 i)]
theorem chkL1_eq (m : Msh) (i : Nat) : chkL1 m i = [(1, .ptr (mshC m)), (4, .adr (.r 10064) 0 0), (10064, .blk 7 [[.own 1 [], .own 1 (nmR (fil (farB m) i)), .own 1 (nmR (fil (sameB m) i)), .own 1 [], .own 1 [], .own 1 [], .own 1 []]]), (5, .adr (.r 10080) 0 0), (10080, .blk 1 [[.own 1 (boR (farR m i))]]), (6, .mrf 10464), (10464, .mp 4 1 (ptKs m i) (ptVs m i)), (31, slx m.sn (m.s.map sptC)), (32, .int .i64 m.s.length), (33, .int .i64 i)] := _root_.id rfl
def trR (m : Msh) (l : List Nat) : List (List D) := l.map fun k => triD (triF m (fce m k))
theorem trR_eq (m : Msh) (l : List Nat) : trR m l = (l.map fun k => triF m (fce m k)).map triD := by simp [trR]
@[simp] theorem trR_len (m : Msh) (l : List Nat) : (trR m l).length = l.length := by simp [trR]
@[simp] theorem trR_take (m : Msh) (l : List Nat) : List.take l.length (trR m l) = trR m l := List.take_of_length_le (by simp)
@[simp] theorem trR_cv (m : Msh) (l : List Nat) : List.map (fun e => List.map cellV e) (trR m l) = trR m l := by simp [trR, triD]
@[simp] theorem trR_nil (m : Msh) : trR m [] = [] := rfl
theorem trR_yes {m : Msh} {i : Nat} (h : sndB m i = true) : trR m (fil (sndB m) i) ++ [triD (triF m (fce m i))] = trR m (fil (sndB m) (i + 1)) := by rw [fil_yes h]; simp [trR]
def sdK (f : Fce) : Nat → List D
  | 0 => []
  | j + 1 => .agg [.int .i64 (crn f j), .int .i64 (crn f (j + 1))] :: sdK f j
theorem sdK_len (f : Fce) : ∀ j, (sdK f j).length = j
  | 0 => rfl
  | j + 1 => by simp [sdK, sdK_len f j]
def tkKs (m : Msh) : Nat → List D
  | 0 => []
  | i + 1 => if sndB m i then sdK (fce m i) 3 ++ tkKs m i else tkKs m i
def tkVs (m : Msh) : Nat → List D
  | 0 => []
  | i + 1 => if sndB m i then List.replicate 3 (.bool true) ++ tkVs m i else tkVs m i
theorem tkKs_len (m : Msh) : ∀ i, (tkKs m i).length ≤ 3 * i
  | 0 => by simp [tkKs]
  | i + 1 => by
    have := tkKs_len m i
    rw [tkKs]
    split <;> simp [sdK_len] <;> omega
def hasS (m : Msh) (i j : Nat) : Bool := (List.range i).any fun k => sndB m k && (List.range 3).any fun j' => mtc (fce m i) (fce m k) j j'
theorem eqD_2 (a b c d : Int) : eqD (.agg [.int .i64 a, .int .i64 b]) (.agg [.int .i64 c, .int .i64 d]) = (decide (a = c) && decide (b = d)) := by
  simp [eqD, eqDs, eqD1]
theorem tk_get (m : Msh) (a b : Int) : ∀ i, (mpGet (tkKs m i) (tkVs m i) (.agg [.int .i64 a, .int .i64 b])).getD (.bool false) = .bool ((List.range i).any fun k => sndB m k && (List.range 3).any fun j => decide (a = crn (fce m k) j) && decide (b = crn (fce m k) (j + 1)))
  | 0 => rfl
  | i + 1 => by
    rw [tkKs, tkVs, List.range_succ, List.any_append]
    have h3 : List.range 3 = [0, 1, 2] := rfl
    by_cases h : sndB m i = true
    · rw [if_pos h, if_pos h]
      simp only [sdK, List.replicate, List.cons_append, List.nil_append, mpGet, eqD_2]
      have ih := tk_get m a b i
      by_cases c0 : (decide (a = crn (fce m i) 2) && decide (b = crn (fce m i) (2 + 1))) = true
      · rw [if_pos c0]
        simp only [List.any_cons, List.any_nil, h, h3, c0]
        simp
      · rw [if_neg c0]
        by_cases c1 : (decide (a = crn (fce m i) 1) && decide (b = crn (fce m i) (1 + 1))) = true
        · rw [if_pos c1]
          simp only [List.any_cons, List.any_nil, h, h3, c1]
          simp
        · rw [if_neg c1]
          by_cases c2 : (decide (a = crn (fce m i) 0) && decide (b = crn (fce m i) (0 + 1))) = true
          · rw [if_pos c2]
            simp only [List.any_cons, List.any_nil, h, h3, c2]
            simp
          · rw [if_neg c2, ih]
            rw [Bool.not_eq_true] at c0 c1 c2
            simp only [List.any_cons, List.any_nil, h, h3, c0, c1, c2]
            simp
    · rw [if_neg h, if_neg h, tk_get m a b i]
      simp [h]
theorem any_or3 {α : Type} (A p q r : α → Bool) (l : List α) : (l.any fun k => A k && (p k || (q k || r k))) = ((l.any fun k => A k && p k) || ((l.any fun k => A k && q k) || (l.any fun k => A k && r k))) := by
  induction l with
  | nil => rfl
  | cons x l ih =>
    simp only [List.any_cons, ih]
    cases A x <;> cases p x <;> cases q x <;> cases r x <;> simp
theorem sideB_eq {m : Msh} {i : Nat} (h : sndB m i = true) : sideB m i = (hasS m i 0 || (hasS m i 1 || hasS m i 2)) := by
  unfold sideB shareB hasS
  rw [h, Bool.true_and, ← any_or3]
  have h3 : List.range 3 = [0, 1, 2] := rfl
  simp only [h3, List.any_cons, List.any_nil, Bool.or_false]
theorem crn_bd {m : Msh} {f : Fce} (h : inS m f = true) (j : Nat) : 0 ≤ crn f j ∧ crn f j < m.s.length := by
  have := inS_bd h
  unfold crn
  split <;> omega
def chkL3 (m : Msh) (i k : Nat) : Env := [(1, .ptr (mshC m)), (4, .adr (.r 10064) 0 0), (10064, .blk 7 [[.own 1 [], .own 1 (nmR (fil (farB m) m.s.length)), .own 1 (nmR (fil (sameB m) m.s.length)), .own 1 (nmR (fil (badB m) i)), .own 1 (nmR (fil (flatB m) i)), .own 1 (nmR (fil (sideB m) (i + 1))), .own 1 (nmR (fil (overB m) i))]]), (5, .adr (.r 10080) 0 0), (10080, .blk 1 [[.own 1 (boR (farR m m.s.length))]]), (10, .mrf 11104), (11104, .mp 3 1 (sdK (fce m i) k ++ tkKs m i) (List.replicate k (.bool true) ++ tkVs m i)), (11, .ref (.r 10176) 0 (fil (sndB m) i).length), (10176, .blk 6 (trR m (fil (sndB m) i))), (12, .int .i64 i), (13, .adr (.r 10208) 0 0), (10208, .blk 4 [fceC (fce m i)]), (15, .adr (.r 10240) 0 0), (10240, .blk 6 [triD (triF m (fce m i))]), (71, slx m.fn (m.f.map fceC)), (72, .int .i64 m.f.length), (73, .int .i64 i), (159, .int .i64 k)]
theorem chkL3_eq (m : Msh) (i k : Nat) : chkL3 m i k = [(1, .ptr (mshC m)), (4, .adr (.r 10064) 0 0), (10064, .blk 7 [[.own 1 [], .own 1 (nmR (fil (farB m) m.s.length)), .own 1 (nmR (fil (sameB m) m.s.length)), .own 1 (nmR (fil (badB m) i)), .own 1 (nmR (fil (flatB m) i)), .own 1 (nmR (fil (sideB m) (i + 1))), .own 1 (nmR (fil (overB m) i))]]), (5, .adr (.r 10080) 0 0), (10080, .blk 1 [[.own 1 (boR (farR m m.s.length))]]), (10, .mrf 11104), (11104, .mp 3 1 (sdK (fce m i) k ++ tkKs m i) (List.replicate k (.bool true) ++ tkVs m i)), (11, .ref (.r 10176) 0 (fil (sndB m) i).length), (10176, .blk 6 (trR m (fil (sndB m) i))), (12, .int .i64 i), (13, .adr (.r 10208) 0 0), (10208, .blk 4 [fceC (fce m i)]), (15, .adr (.r 10240) 0 0), (10240, .blk 6 [triD (triF m (fce m i))]), (71, slx m.fn (m.f.map fceC)), (72, .int .i64 m.f.length), (73, .int .i64 i), (159, .int .i64 k)] := _root_.id rfl
def fnR (l : List (Int × List UInt8)) : List (List D) := l.map fnD
@[simp] theorem fnR_len (l : List (Int × List UInt8)) : (fnR l).length = l.length := by simp [fnR]
@[simp] theorem fnR_take (l : List (Int × List UInt8)) : List.take l.length (fnR l) = fnR l := List.take_of_length_le (by simp)
@[simp] theorem fnR_cv (l : List (Int × List UInt8)) : List.map (fun e => List.map cellV e) (fnR l) = fnR l := by simp [fnR, fnD]
theorem fnR_add (l : List (Int × List UInt8)) (k : Int) (s : List UInt8) : fnR l ++ [[.int .i64 k, .str s]] = fnR (l ++ [(k, s)]) := by simp [fnR, fnD]
@[simp] theorem fnR_nil : fnR [] = [] := rfl
def agx6 (L1 L2 L3 L4 L5 L6 : List Nat) : D := .agx [.ref (.n 10064 0 0) 0 0, .ref (.n 10064 0 1) 0 L1.length, .ref (.n 10064 0 2) 0 L2.length, .ref (.n 10064 0 3) 0 L3.length, .ref (.n 10064 0 4) 0 L4.length, .ref (.n 10064 0 5) 0 L5.length, .ref (.n 10064 0 6) 0 L6.length]
theorem agx6_eq (L1 L2 L3 L4 L5 L6 : List Nat) : agx6 L1 L2 L3 L4 L5 L6 = .agx [.ref (.n 10064 0 0) 0 0, .ref (.n 10064 0 1) 0 L1.length, .ref (.n 10064 0 2) 0 L2.length, .ref (.n 10064 0 3) 0 L3.length, .ref (.n 10064 0 4) 0 L4.length, .ref (.n 10064 0 5) 0 L5.length, .ref (.n 10064 0 6) 0 L6.length] := _root_.id rfl
def blk6 (L1 L2 L3 L4 L5 L6 : List Nat) : D := .blk 7 [[.own 1 [], .own 1 (nmR L1), .own 1 (nmR L2), .own 1 (nmR L3), .own 1 (nmR L4), .own 1 (nmR L5), .own 1 (nmR L6)]]
theorem blk6_eq (L1 L2 L3 L4 L5 L6 : List Nat) : blk6 L1 L2 L3 L4 L5 L6 = .blk 7 [[.own 1 [], .own 1 (nmR L1), .own 1 (nmR L2), .own 1 (nmR L3), .own 1 (nmR L4), .own 1 (nmR L5), .own 1 (nmR L6)]] := _root_.id rfl
theorem outF_app (dec : Nat → List UInt8) : ∀ (a b : List (List Nat)) (k : Nat), outF dec k (a ++ b) = outF dec k a ++ outF dec (k + a.length) b
  | [], b, k => by simp [outF]
  | x :: a, b, k => by
    have := outF_app dec a b (k + 1)
    simp only [List.cons_append, outF, this, List.append_assoc, List.length_cons]
    rw [show k + 1 + a.length = k + (a.length + 1) by omega]
def tkD (dec : Nat → List UInt8) (k : Int) (L : List Nat) (j : Nat) : List (Int × List UInt8) := (L.take j).map fun i => (k, dec i)
theorem tkD_zero (dec : Nat → List UInt8) (k : Int) (L : List Nat) : tkD dec k L 0 = [] := by simp [tkD]
theorem tkD_succ (dec : Nat → List UInt8) (k : Int) (L : List Nat) {j : Nat} (h : j < L.length) : tkD dec k L (j + 1) = tkD dec k L j ++ [(k, dec L[j])] := by
  unfold tkD
  rw [List.take_add_one, List.getElem?_eq_getElem h, List.map_append]
  rfl
theorem tkD_len (dec : Nat → List UInt8) (k : Int) (L : List Nat) {j : Nat} (h : j ≤ L.length) : (tkD dec k L j).length = j := by simp [tkD]; omega
theorem tkD_all (dec : Nat → List UInt8) (k : Int) (L : List Nat) : tkD dec k L L.length = L.map fun i => (k, dec i) := by simp [tkD]
def chkL2 (m : Msh) (i : Nat) : Env := [(1, .ptr (mshC m)), (4, .adr (.r 10064) 0 0), (10064, .blk 7 [[.own 1 [], .own 1 (nmR (fil (farB m) m.s.length)), .own 1 (nmR (fil (sameB m) m.s.length)), .own 1 (nmR (fil (badB m) i)), .own 1 (nmR (fil (flatB m) i)), .own 1 (nmR (fil (sideB m) i)), .own 1 (nmR (fil (overB m) i))]]), (5, .adr (.r 10080) 0 0), (10080, .blk 1 [[.own 1 (boR (farR m m.s.length))]]), (10, .mrf 11104), (11104, .mp 3 1 (tkKs m i) (tkVs m i)), (11, .ref (.r 10176) 0 (fil (sndB m) i).length), (10176, .blk 6 (trR m (fil (sndB m) i))), (71, slx m.fn (m.f.map fceC)), (72, .int .i64 m.f.length), (73, .int .i64 i)]
theorem chkL2_eq (m : Msh) (i : Nat) : chkL2 m i = [(1, .ptr (mshC m)), (4, .adr (.r 10064) 0 0), (10064, .blk 7 [[.own 1 [], .own 1 (nmR (fil (farB m) m.s.length)), .own 1 (nmR (fil (sameB m) m.s.length)), .own 1 (nmR (fil (badB m) i)), .own 1 (nmR (fil (flatB m) i)), .own 1 (nmR (fil (sideB m) i)), .own 1 (nmR (fil (overB m) i))]]), (5, .adr (.r 10080) 0 0), (10080, .blk 1 [[.own 1 (boR (farR m m.s.length))]]), (10, .mrf 11104), (11104, .mp 3 1 (tkKs m i) (tkVs m i)), (11, .ref (.r 10176) 0 (fil (sndB m) i).length), (10176, .blk 6 (trR m (fil (sndB m) i))), (71, slx m.fn (m.f.map fceC)), (72, .int .i64 m.f.length), (73, .int .i64 i)] := _root_.id rfl
variable {C : CC} (hC : Closed prog C)
include hC
set_option maxHeartbeats 4000000 in
theorem Check_c (dec : Nat → List UInt8) (hI : ∀ n : Nat, n < 100 → C 127 [.int .i64 n] (.str (dec n)) []) (m : Msh) (hs : m.s.length ≤ 100) (hf : m.f.length ≤ 100) : C 273 [.agg (mshC m)] (.tup [.sl ((outF dec 0 (LL m)).map fnD), .int .i64 0]) [] := by
  have ksm := msmall_c hC m
  rw [decide_eq_true (show m.s.length ≤ 2000 by omega), decide_eq_true (show m.f.length ≤ 4000 by omega)] at ksm
  have kr := fun s => mright_c hC s
  have kp := fun i h => mpoint_c hC m i h
  refine start hC (nf := N273_mesh_Check) rfl rfl ?_
  simp only [mshC_eq] at ksm
  simp [N273_mesh_Check, mshC_eq]
  refine callW_of ksm (.inl rfl) ?_
  simp
  refine ⟨by omega, ?_⟩
  refine loop_of Nat (fun i => chkL1 m i) (fun i => i ≤ m.s.length) (fun i => m.s.length - i) 0 (by simp) (by simp [chkL1_eq, mshC_eq, fil_zero, ptKs, ptVs, farR_rep]) ?_
  rintro i hi
  simp [chkL1_eq, mshC_eq]
  refine brB_of (fun g1 => ?_) (fun g1 => ?_) <;> simp at g1 <;> simp [g1]
  · have hw : IntKind.wrap .i64 ((i : Int) + 1) = ((i + 1 : Nat) : Int) := wrap_i64 (by omega) (by omega)
    have kri := kr (spt m i)
    simp only [sptC_eq] at kri
    simp [sptC_eq]
    refine callW_of kri (.inl rfl) ?_
    simp [farR_len, g1]
    refine ⟨indW_of (by decide +kernel), ?_⟩
    rw [farR_set' m g1]
    rw [boR_eq]
    simp [farR_len, g1, farR_at]
    have kpi := kp i g1
    simp only [mshC_eq] at kpi
    have hr := okP_of (s := spt m i)
    cases hr1 : rightS (spt m i)
    · have e1 := nmR_yes (p := farB m) (n := i) (by simp [farB, hr1])
      have e2 := nmR_no (p := sameB m) (n := i) (by simp [sameB, hr1])
      have e3 : ptKs m (i + 1) = ptKs m i := by simp [ptKs, hr1]
      have e4 : ptVs m (i + 1) = ptVs m i := by simp [ptVs, hr1]
      simp [hw]
      refine ⟨by have := fil_le (farB m) i; omega, i + 1, by omega, by omega, ?_⟩
      simp [chkL1_eq, mshC_eq, e1, ← e2, e3, e4, ← boR_eq]
    · have hp := okP_bd (hr hr1)
      have e2 := nmR_no (p := farB m) (n := i) (by simp [farB, hr1])
      have e3 : ptKs m (i + 1) = .agg (ptD (sptP m i)) :: ptKs m i := by simp [ptKs, hr1]
      have e4 : ptVs m (i + 1) = .bool true :: ptVs m i := by simp [ptVs, hr1]
      have kg := pt_get m (sptP m i) i
      have kl := ptKs_len m i
      have hml : maxLen = 9223372036854775807 := rfl
      simp [mshC_eq]
      refine callW_of kpi (.inl rfl) ?_
      simp [ptD, ptS, sptP] at kg hp
      simp [ptD, ptS, kg]
      refine ⟨⟨by omega, by omega⟩, ?_⟩
      have hsame : ((List.range i).any fun k => rightS (spt m k) && (decide ((spt m k).x = (spt m i).x) && decide ((spt m k).y = (spt m i).y))) = sameB m i := by
        simp [sameB, hr1, sptP, ptS]
      rw [hsame]
      cases hs1 : sameB m i
      · have e1 := nmR_no (p := sameB m) (n := i) hs1
        simp [hw]
        refine ⟨by omega, ⟨by omega, by omega⟩, i + 1, by omega, by omega, ?_⟩
        simp [chkL1_eq, mshC_eq, ← e1, ← e2, e3, e4, ← boR_eq, ptD, sptP, ptS]
      · have e1 := nmR_yes (p := sameB m) (n := i) hs1
        simp [hw]
        refine ⟨by have := fil_le (sameB m) i; omega, by omega, ⟨by omega, by omega⟩, i + 1, by omega, by omega, ?_⟩
        simp [chkL1_eq, mshC_eq, e1, ← e2, e3, e4, ← boR_eq, ptD, sptP, ptS]
  · have hi2 : i = m.s.length := by omega
    subst hi2
    refine loop_of Nat (fun i => chkL2 m i) (fun i => i ≤ m.f.length) (fun i => m.f.length - i) 0 (by simp) (by simp [chkL2_eq, mshC_eq, fil_zero, tkKs, tkVs]) ?_
    clear hi g1 kr kp ksm
    rintro i hi
    simp [chkL2_eq, mshC_eq]
    refine brB_of (fun g1 => ?_) (fun g1 => ?_) <;> simp at g1 <;> simp [g1]
    · have hw : IntKind.wrap .i64 ((i : Int) + 1) = ((i + 1 : Nat) : Int) := wrap_i64 (by omega) (by omega)
      have kc := mcorners_c hC (fce m i)
      have k1 := hasInt_c hC (b := false) (xs := [(fce m i).a, (fce m i).b, (fce m i).c]) (g := 306) (cs := [.ptr (mshC m), .ptr [.sl (boR (farR m m.s.length))]]) (fun k => !(inR1 m.s.length k && rightS (spt m k.toNat))) (by simp) (fun x _ => chk1_c hC m x (by omega))
      simp only [mshC_eq, fceC_eq] at kc k1
      simp at k1
      simp [fceC_eq]
      refine callW_of kc (.inl rfl) ?_
      simp [chunks]
      obtain ⟨v, hv⟩ : ∃ v, v = (!inR1 m.s.length (fce m i).a || !rightS (spt m (fce m i).a.toNat) || (!inR1 m.s.length (fce m i).b || !rightS (spt m (fce m i).b.toNat) || (!inR1 m.s.length (fce m i).c || !rightS (spt m (fce m i).c.toNat)))) := ⟨_, rfl⟩
      rw [← hv] at k1
      refine callW_of k1 (.inl rfl) ?_
      have E : badB m i = !(okF m (fce m i)) := rfl
      have E2 : okF m (fce m i) = (okc m (fce m i).a (fce m i).b && okc m (fce m i).b (fce m i).c && okc m (fce m i).c (fce m i).a && decide (0 ≤ (fce m i).k) && decide ((fce m i).k < 16)) := rfl
      have E3 : ∀ a b : Int, okc m a b = (inR1 m.s.length a && decide (a ≠ b) && rightS (spt m a.toNat)) := fun a b => rfl
      have bad : badB m i = true → nmR (fil (badB m) i) ++ [[D.int .i64 i]] = nmR (fil (badB m) (i + 1)) ∧ nmR (fil (flatB m) i) = nmR (fil (flatB m) (i + 1)) ∧ nmR (fil (sideB m) i) = nmR (fil (sideB m) (i + 1)) ∧ nmR (fil (overB m) i) = nmR (fil (overB m) (i + 1)) ∧ fil (sndB m) (i + 1) = fil (sndB m) i ∧ tkKs m (i + 1) = tkKs m i ∧ tkVs m (i + 1) = tkVs m i := fun h => by
        have h0 : okF m (fce m i) = false := by rw [E] at h; simpa using h
        have h1 : sndB m i = false := by simp [sndB, h0]
        exact ⟨nmR_yes h, nmR_no (by simp [flatB, h0]), nmR_no (by simp [sideB, h1]), nmR_no (by simp [overB, h1]), fil_no h1, by simp [tkKs, h1], by simp [tkVs, h1]⟩
      cases v
      rotate_left
      · obtain ⟨e1, e2, e3, e4, e5, e6, e7⟩ := bad (by
          rw [E, E2, E3, E3, E3]
          revert hv
          cases inR1 m.s.length (fce m i).a <;> cases rightS (spt m (fce m i).a.toNat) <;> cases inR1 m.s.length (fce m i).b <;> cases rightS (spt m (fce m i).b.toNat) <;> cases inR1 m.s.length (fce m i).c <;> cases rightS (spt m (fce m i).c.toNat) <;> simp)
        simp [hw]
        refine ⟨by have := fil_le (badB m) i; omega, i + 1, by omega, by omega, ?_⟩
        simp [chkL2_eq, mshC_eq, e1, ← e2, ← e3, ← e4, e5, e6, e7]
      by_cases c1 : (fce m i).a = (fce m i).b
      · obtain ⟨e1, e2, e3, e4, e5, e6, e7⟩ := bad (by
          rw [E, E2, E3, E3, E3]
          rw [decide_eq_false (show ¬ (fce m i).a ≠ (fce m i).b by omega)]; simp)
        simp [c1, hw]
        refine ⟨by have := fil_le (badB m) i; omega, i + 1, by omega, by omega, ?_⟩
        simp [chkL2_eq, mshC_eq, e1, ← e2, ← e3, ← e4, e5, e6, e7]
      by_cases c2 : (fce m i).b = (fce m i).c
      · obtain ⟨e1, e2, e3, e4, e5, e6, e7⟩ := bad (by
          rw [E, E2, E3, E3, E3]
          rw [decide_eq_false (show ¬ (fce m i).b ≠ (fce m i).c by omega)]; simp)
        simp [(show ¬ (fce m i).a = (fce m i).c by rw [← c2]; exact c1), c2, hw]
        refine ⟨by have := fil_le (badB m) i; omega, i + 1, by omega, by omega, ?_⟩
        simp [chkL2_eq, mshC_eq, e1, ← e2, ← e3, ← e4, e5, e6, e7]
      by_cases c3 : (fce m i).c = (fce m i).a
      · obtain ⟨e1, e2, e3, e4, e5, e6, e7⟩ := bad (by
          rw [E, E2, E3, E3, E3]
          rw [decide_eq_false (show ¬ (fce m i).c ≠ (fce m i).a by omega)]; simp)
        simp [c1, c2, hw]
        refine brB_of (fun _ => ?_) (fun h => by simp [c3] at h)
        simp [hw]
        refine ⟨by have := fil_le (badB m) i; omega, i + 1, by omega, by omega, ?_⟩
        simp [chkL2_eq, mshC_eq, e1, ← e2, ← e3, ← e4, e5, e6, e7]
      have c3' : ¬ (fce m i).a = (fce m i).c := fun h => c3 h.symm
      by_cases c4 : (fce m i).k < 0
      · obtain ⟨e1, e2, e3, e4, e5, e6, e7⟩ := bad (by
          rw [E, E2, E3, E3, E3]
          rw [decide_eq_false (show ¬ 0 ≤ (fce m i).k by omega)]; simp)
        simp [c1, c2, c3, c3', c4, hw]
        refine ⟨by have := fil_le (badB m) i; omega, i + 1, by omega, by omega, ?_⟩
        simp [chkL2_eq, mshC_eq, e1, ← e2, ← e3, ← e4, e5, e6, e7]
      by_cases c5 : 16 ≤ (fce m i).k
      · obtain ⟨e1, e2, e3, e4, e5, e6, e7⟩ := bad (by
          rw [E, E2, E3, E3, E3]
          rw [decide_eq_false (show ¬ (fce m i).k < 16 by omega)]; simp)
        simp [c1, c2, c3, c3', c4, c5, hw]
        refine ⟨by have := fil_le (badB m) i; omega, i + 1, by omega, by omega, ?_⟩
        simp [chkL2_eq, mshC_eq, e1, ← e2, ← e3, ← e4, e5, e6, e7]
      have ok : okF m (fce m i) = true := by
        rw [E2, E3, E3, E3]
        simp only [Bool.and_eq_true, decide_eq_true_eq]
        have h := hv.symm
        simp only [Bool.or_eq_false_iff, Bool.not_eq_false'] at h
        exact ⟨⟨⟨⟨⟨⟨h.1.1, c1⟩, h.1.2⟩, ⟨h.2.1.1, c2⟩, h.2.1.2⟩, ⟨h.2.2.1, c3⟩, h.2.2.2⟩, by omega⟩, by omega⟩
      have nbad : badB m i = false := by rw [E, ok]; rfl
      have b1 := nmR_no nbad
      have hT := okF_okT ok
      have kt := mtri_c hC m (fce m i) (okF_inS ok)
      have kn : C 308 [.agg (ptD (triF m (fce m i)).1), .agg (ptD (triF m (fce m i)).2.1), .agg (ptD (triF m (fce m i)).2.2)] (.int .i64 (turnT (triF m (fce m i)))) [] := by
        have h := hT
        simp only [okT, Bool.and_eq_true] at h
        exact mturn_c hC h.1.1 h.1.2 h.2
      have ks := fun k h => mside_c hC (fce m i) k h
      have ks0 := ks 0 (by omega)
      have ks1 := ks 1 (by omega)
      have ks2 := ks 2 (by omega)
      have kg := fun j => tk_get m (crn (fce m i) j) (crn (fce m i) (j + 1)) i
      have kg : ∀ j, (mpGet (tkKs m i) (tkVs m i) (.agg [.int .i64 (crn (fce m i) j), .int .i64 (crn (fce m i) (j + 1))])).getD (.bool false) = .bool (hasS m i j) := kg
      have kg0 := kg 0
      have kg1 := kg 1
      have kg2 := kg 2
      simp [c1, c2, c3, c3', c4, c5]
      simp only [mshC_eq, fceC_eq] at kt
      refine callW_of kt (.inl rfl) ?_
      simp [triD]
      simp only [ptD] at kn
      refine callW_of kn (.inl rfl) ?_
      simp
      refine brB_of (fun d1 => ?_) (fun d1 => ?_) <;> simp at d1
      · have hfl : flatB m i = true := by simp [flatB, ok, d1]
        have hsn : sndB m i = false := by simp [sndB, ok]; omega
        have e1 := nmR_yes hfl
        have e2 := nmR_no (p := sideB m) (n := i) (by simp [sideB, hsn])
        have e3 := nmR_no (p := overB m) (n := i) (by simp [overB, hsn])
        have e5 := fil_no hsn
        have e6 : tkKs m (i + 1) = tkKs m i := by simp [tkKs, hsn]
        have e7 : tkVs m (i + 1) = tkVs m i := by simp [tkVs, hsn]
        simp [d1, hw]
        refine ⟨by have := fil_le (flatB m) i; omega, i + 1, by omega, by omega, ?_⟩
        simp [chkL2_eq, mshC_eq, e1, ← e2, ← e3, ← b1, e5, e6, e7]
      · have hfl : flatB m i = false := by simp [flatB, ok]; omega
        have hsn : sndB m i = true := by simp [sndB, ok, d1]
        have b2 := nmR_no hfl
        have hsd := sideB_eq hsn
        simp only [fceC_eq] at ks ks0 ks1 ks2
        simp at ks0 ks1 ks2 kg0 kg1 kg2
        simp [Int.not_le.2 d1]
        refine callW_of ks0 (.inl rfl) ?_
        simp [kg0]
        have cb := fun j => crn_bd (okF_inS ok) j
        have cb0 := cb 0
        have cb1 := cb 1
        have cb2 := cb 2
        have cb3 := cb 3
        refine ⟨⟨by omega, by omega⟩, ?_⟩
        have yes : sideB m i = true → nmR (fil (sideB m) i) ++ [[D.int .i64 i]] = nmR (fil (sideB m) (i + 1)) := nmR_yes
        have nos : sideB m i = false → nmR (fil (sideB m) i) = nmR (fil (sideB m) (i + 1)) := nmR_no
        have lsd := fil_le (sideB m) i
        have kT := hasTri_c hC (b := false) (xs := (fil (sndB m) i).map fun k => triF m (fce m k)) (g := 310) (cs := [.ptr (triD (triF m (fce m i)))]) (fun o => ovT (triF m (fce m i)) o) (by have := fil_le (sndB m) i; simp; omega) (fun x hx => by
          obtain ⟨k, hk, rfl⟩ := List.mem_map.1 hx
          have hk := (fil_lt hk).2
          simp only [sndB, Bool.and_eq_true] at hk
          exact chk2_c hC hT (okF_okT hk.1))
        rw [← trR_eq, List.any_map] at kT
        have hov : (fil (sndB m) i).any ((fun o => ovT (triF m (fce m i)) o) ∘ fun k => triF m (fce m k)) = overB m i := by
          rw [fil, List.any_filter, overB, hsn]
          rfl
        rw [hov] at kT
        rw [slx_false] at kT
        have tl := tkKs_len m i
        have hml : maxLen = 9223372036854775807 := rfl
        have e5 := trR_yes hsn
        have e6 : tkKs m (i + 1) = sdK (fce m i) 3 ++ tkKs m i := by simp [tkKs, hsn]
        have e7 : tkVs m (i + 1) = .bool true :: .bool true :: .bool true :: tkVs m i := by
          rw [tkVs, if_pos hsn]; rfl
        have e8 : (fil (sndB m) (i + 1)).length = (fil (sndB m) i).length + 1 := by rw [fil_yes hsn]; simp
        have l8 := fil_le (sndB m) i
        have lov := fil_le (overB m) i
        have kT := hasTri_c hC (b := false) (xs := (fil (sndB m) i).map fun k => triF m (fce m k)) (g := 310) (cs := [.ptr (triD (triF m (fce m i)))]) (fun o => ovT (triF m (fce m i)) o) (by have := fil_le (sndB m) i; simp; omega) (fun x hx => by
          obtain ⟨k, hk, rfl⟩ := List.mem_map.1 hx
          have hk := (fil_lt hk).2
          simp only [sndB, Bool.and_eq_true] at hk
          exact chk2_c hC hT (okF_okT hk.1))
        rw [← trR_eq, List.any_map] at kT
        have hov : (fil (sndB m) i).any ((fun o => ovT (triF m (fce m i)) o) ∘ fun k => triF m (fce m k)) = overB m i := by
          rw [fil, List.any_filter, overB, hsn]
          rfl
        rw [hov] at kT
        rw [slx_false] at kT
        have tl := tkKs_len m i
        have hml : maxLen = 9223372036854775807 := rfl
        have e5 := trR_yes hsn
        have e6 : tkKs m (i + 1) = sdK (fce m i) 3 ++ tkKs m i := by simp [tkKs, hsn]
        have e7 : tkVs m (i + 1) = .bool true :: .bool true :: .bool true :: tkVs m i := by
          rw [tkVs, if_pos hsn]; rfl
        have e8 : (fil (sndB m) (i + 1)).length = (fil (sndB m) i).length + 1 := by rw [fil_yes hsn]; simp
        have l8 := fil_le (sndB m) i
        have lov := fil_le (overB m) i
        have kT := hasTri_c hC (b := false) (xs := (fil (sndB m) i).map fun k => triF m (fce m k)) (g := 310) (cs := [.ptr (triD (triF m (fce m i)))]) (fun o => ovT (triF m (fce m i)) o) (by have := fil_le (sndB m) i; simp; omega) (fun x hx => by
          obtain ⟨k, hk, rfl⟩ := List.mem_map.1 hx
          have hk := (fil_lt hk).2
          simp only [sndB, Bool.and_eq_true] at hk
          exact chk2_c hC hT (okF_okT hk.1))
        rw [← trR_eq, List.any_map] at kT
        have hov : (fil (sndB m) i).any ((fun o => ovT (triF m (fce m i)) o) ∘ fun k => triF m (fce m k)) = overB m i := by
          rw [fil, List.any_filter, overB, hsn]
          rfl
        rw [hov] at kT
        rw [slx_false] at kT
        have tl := tkKs_len m i
        have hml : maxLen = 9223372036854775807 := rfl
        have e5 := trR_yes hsn
        have e6 : tkKs m (i + 1) = sdK (fce m i) 3 ++ tkKs m i := by simp [tkKs, hsn]
        have e7 : tkVs m (i + 1) = .bool true :: .bool true :: .bool true :: tkVs m i := by
          rw [tkVs, if_pos hsn]; rfl
        have e8 : (fil (sndB m) (i + 1)).length = (fil (sndB m) i).length + 1 := by rw [fil_yes hsn]; simp
        have l8 := fil_le (sndB m) i
        have lov := fil_le (overB m) i
        have kT := hasTri_c hC (b := false) (xs := (fil (sndB m) i).map fun k => triF m (fce m k)) (g := 310) (cs := [.ptr (triD (triF m (fce m i)))]) (fun o => ovT (triF m (fce m i)) o) (by have := fil_le (sndB m) i; simp; omega) (fun x hx => by
          obtain ⟨k, hk, rfl⟩ := List.mem_map.1 hx
          have hk := (fil_lt hk).2
          simp only [sndB, Bool.and_eq_true] at hk
          exact chk2_c hC hT (okF_okT hk.1))
        rw [← trR_eq, List.any_map] at kT
        have hov : (fil (sndB m) i).any ((fun o => ovT (triF m (fce m i)) o) ∘ fun k => triF m (fce m k)) = overB m i := by
          rw [fil, List.any_filter, overB, hsn]
          rfl
        rw [hov] at kT
        rw [slx_false] at kT
        have tl := tkKs_len m i
        have hml : maxLen = 9223372036854775807 := rfl
        have e5 := trR_yes hsn
        have e6 : tkKs m (i + 1) = sdK (fce m i) 3 ++ tkKs m i := by simp [tkKs, hsn]
        have e7 : tkVs m (i + 1) = .bool true :: .bool true :: .bool true :: tkVs m i := by
          rw [tkVs, if_pos hsn]; rfl
        have e8 : (fil (sndB m) (i + 1)).length = (fil (sndB m) i).length + 1 := by rw [fil_yes hsn]; simp
        have l8 := fil_le (sndB m) i
        have lov := fil_le (overB m) i
        have kT := hasTri_c hC (b := false) (xs := (fil (sndB m) i).map fun k => triF m (fce m k)) (g := 310) (cs := [.ptr (triD (triF m (fce m i)))]) (fun o => ovT (triF m (fce m i)) o) (by have := fil_le (sndB m) i; simp; omega) (fun x hx => by
          obtain ⟨k, hk, rfl⟩ := List.mem_map.1 hx
          have hk := (fil_lt hk).2
          simp only [sndB, Bool.and_eq_true] at hk
          exact chk2_c hC hT (okF_okT hk.1))
        rw [← trR_eq, List.any_map] at kT
        have hov : (fil (sndB m) i).any ((fun o => ovT (triF m (fce m i)) o) ∘ fun k => triF m (fce m k)) = overB m i := by
          rw [fil, List.any_filter, overB, hsn]
          rfl
        rw [hov] at kT
        rw [slx_false] at kT
        have tl := tkKs_len m i
        have hml : maxLen = 9223372036854775807 := rfl
        have e5 := trR_yes hsn
        have e6 : tkKs m (i + 1) = sdK (fce m i) 3 ++ tkKs m i := by simp [tkKs, hsn]
        have e7 : tkVs m (i + 1) = .bool true :: .bool true :: .bool true :: tkVs m i := by
          rw [tkVs, if_pos hsn]; rfl
        have e8 : (fil (sndB m) (i + 1)).length = (fil (sndB m) i).length + 1 := by rw [fil_yes hsn]; simp
        have l8 := fil_le (sndB m) i
        have lov := fil_le (overB m) i
        have kT := hasTri_c hC (b := false) (xs := (fil (sndB m) i).map fun k => triF m (fce m k)) (g := 310) (cs := [.ptr (triD (triF m (fce m i)))]) (fun o => ovT (triF m (fce m i)) o) (by have := fil_le (sndB m) i; simp; omega) (fun x hx => by
          obtain ⟨k, hk, rfl⟩ := List.mem_map.1 hx
          have hk := (fil_lt hk).2
          simp only [sndB, Bool.and_eq_true] at hk
          exact chk2_c hC hT (okF_okT hk.1))
        rw [← trR_eq, List.any_map] at kT
        have hov : (fil (sndB m) i).any ((fun o => ovT (triF m (fce m i)) o) ∘ fun k => triF m (fce m k)) = overB m i := by
          rw [fil, List.any_filter, overB, hsn]
          rfl
        rw [hov] at kT
        rw [slx_false] at kT
        have tl := tkKs_len m i
        have hml : maxLen = 9223372036854775807 := rfl
        have e5 := trR_yes hsn
        have e6 : tkKs m (i + 1) = sdK (fce m i) 3 ++ tkKs m i := by simp [tkKs, hsn]
        have e7 : tkVs m (i + 1) = .bool true :: .bool true :: .bool true :: tkVs m i := by
          rw [tkVs, if_pos hsn]; rfl
        have e8 : (fil (sndB m) (i + 1)).length = (fil (sndB m) i).length + 1 := by rw [fil_yes hsn]; simp
        have l8 := fil_le (sndB m) i
        have lov := fil_le (overB m) i
        have kT := hasTri_c hC (b := false) (xs := (fil (sndB m) i).map fun k => triF m (fce m k)) (g := 310) (cs := [.ptr (triD (triF m (fce m i)))]) (fun o => ovT (triF m (fce m i)) o) (by have := fil_le (sndB m) i; simp; omega) (fun x hx => by
          obtain ⟨k, hk, rfl⟩ := List.mem_map.1 hx
          have hk := (fil_lt hk).2
          simp only [sndB, Bool.and_eq_true] at hk
          exact chk2_c hC hT (okF_okT hk.1))
        rw [← trR_eq, List.any_map] at kT
        have hov : (fil (sndB m) i).any ((fun o => ovT (triF m (fce m i)) o) ∘ fun k => triF m (fce m k)) = overB m i := by
          rw [fil, List.any_filter, overB, hsn]
          rfl
        rw [hov] at kT
        rw [slx_false] at kT
        have tl := tkKs_len m i
        have hml : maxLen = 9223372036854775807 := rfl
        have e5 := trR_yes hsn
        have e6 : tkKs m (i + 1) = sdK (fce m i) 3 ++ tkKs m i := by simp [tkKs, hsn]
        have e7 : tkVs m (i + 1) = .bool true :: .bool true :: .bool true :: tkVs m i := by
          rw [tkVs, if_pos hsn]; rfl
        have e8 : (fil (sndB m) (i + 1)).length = (fil (sndB m) i).length + 1 := by rw [fil_yes hsn]; simp
        have l8 := fil_le (sndB m) i
        have lov := fil_le (overB m) i
        have kT := hasTri_c hC (b := false) (xs := (fil (sndB m) i).map fun k => triF m (fce m k)) (g := 310) (cs := [.ptr (triD (triF m (fce m i)))]) (fun o => ovT (triF m (fce m i)) o) (by have := fil_le (sndB m) i; simp; omega) (fun x hx => by
          obtain ⟨k, hk, rfl⟩ := List.mem_map.1 hx
          have hk := (fil_lt hk).2
          simp only [sndB, Bool.and_eq_true] at hk
          exact chk2_c hC hT (okF_okT hk.1))
        rw [← trR_eq, List.any_map] at kT
        have hov : (fil (sndB m) i).any ((fun o => ovT (triF m (fce m i)) o) ∘ fun k => triF m (fce m k)) = overB m i := by
          rw [fil, List.any_filter, overB, hsn]
          rfl
        rw [hov] at kT
        rw [slx_false] at kT
        have tl := tkKs_len m i
        have hml : maxLen = 9223372036854775807 := rfl
        have e5 := trR_yes hsn
        have e6 : tkKs m (i + 1) = sdK (fce m i) 3 ++ tkKs m i := by simp [tkKs, hsn]
        have e7 : tkVs m (i + 1) = .bool true :: .bool true :: .bool true :: tkVs m i := by
          rw [tkVs, if_pos hsn]; rfl
        have e8 : (fil (sndB m) (i + 1)).length = (fil (sndB m) i).length + 1 := by rw [fil_yes hsn]; simp
        have l8 := fil_le (sndB m) i
        have lov := fil_le (overB m) i
        have kT := hasTri_c hC (b := false) (xs := (fil (sndB m) i).map fun k => triF m (fce m k)) (g := 310) (cs := [.ptr (triD (triF m (fce m i)))]) (fun o => ovT (triF m (fce m i)) o) (by have := fil_le (sndB m) i; simp; omega) (fun x hx => by
          obtain ⟨k, hk, rfl⟩ := List.mem_map.1 hx
          have hk := (fil_lt hk).2
          simp only [sndB, Bool.and_eq_true] at hk
          exact chk2_c hC hT (okF_okT hk.1))
        rw [← trR_eq, List.any_map] at kT
        have hov : (fil (sndB m) i).any ((fun o => ovT (triF m (fce m i)) o) ∘ fun k => triF m (fce m k)) = overB m i := by
          rw [fil, List.any_filter, overB, hsn]
          rfl
        rw [hov] at kT
        rw [slx_false] at kT
        have tl := tkKs_len m i
        have hml : maxLen = 9223372036854775807 := rfl
        have e5 := trR_yes hsn
        have e6 : tkKs m (i + 1) = sdK (fce m i) 3 ++ tkKs m i := by simp [tkKs, hsn]
        have e7 : tkVs m (i + 1) = .bool true :: .bool true :: .bool true :: tkVs m i := by
          rw [tkVs, if_pos hsn]; rfl
        have e8 : (fil (sndB m) (i + 1)).length = (fil (sndB m) i).length + 1 := by rw [fil_yes hsn]; simp
        have l8 := fil_le (sndB m) i
        have lov := fil_le (overB m) i
        have kT := hasTri_c hC (b := false) (xs := (fil (sndB m) i).map fun k => triF m (fce m k)) (g := 310) (cs := [.ptr (triD (triF m (fce m i)))]) (fun o => ovT (triF m (fce m i)) o) (by have := fil_le (sndB m) i; simp; omega) (fun x hx => by
          obtain ⟨k, hk, rfl⟩ := List.mem_map.1 hx
          have hk := (fil_lt hk).2
          simp only [sndB, Bool.and_eq_true] at hk
          exact chk2_c hC hT (okF_okT hk.1))
        rw [← trR_eq, List.any_map] at kT
        have hov : (fil (sndB m) i).any ((fun o => ovT (triF m (fce m i)) o) ∘ fun k => triF m (fce m k)) = overB m i := by
          rw [fil, List.any_filter, overB, hsn]
          rfl
        rw [hov] at kT
        rw [slx_false] at kT
        have tl := tkKs_len m i
        have hml : maxLen = 9223372036854775807 := rfl
        have e5 := trR_yes hsn
        have e6 : tkKs m (i + 1) = sdK (fce m i) 3 ++ tkKs m i := by simp [tkKs, hsn]
        have e7 : tkVs m (i + 1) = .bool true :: .bool true :: .bool true :: tkVs m i := by
          rw [tkVs, if_pos hsn]; rfl
        have e8 : (fil (sndB m) (i + 1)).length = (fil (sndB m) i).length + 1 := by rw [fil_yes hsn]; simp
        have l8 := fil_le (sndB m) i
        have lov := fil_le (overB m) i
        have kT := hasTri_c hC (b := false) (xs := (fil (sndB m) i).map fun k => triF m (fce m k)) (g := 310) (cs := [.ptr (triD (triF m (fce m i)))]) (fun o => ovT (triF m (fce m i)) o) (by have := fil_le (sndB m) i; simp; omega) (fun x hx => by
          obtain ⟨k, hk, rfl⟩ := List.mem_map.1 hx
          have hk := (fil_lt hk).2
          simp only [sndB, Bool.and_eq_true] at hk
          exact chk2_c hC hT (okF_okT hk.1))
        rw [← trR_eq, List.any_map] at kT
        have hov : (fil (sndB m) i).any ((fun o => ovT (triF m (fce m i)) o) ∘ fun k => triF m (fce m k)) = overB m i := by
          rw [fil, List.any_filter, overB, hsn]
          rfl
        rw [hov] at kT
        rw [slx_false] at kT
        have tl := tkKs_len m i
        have hml : maxLen = 9223372036854775807 := rfl
        have e5 := trR_yes hsn
        have e6 : tkKs m (i + 1) = sdK (fce m i) 3 ++ tkKs m i := by simp [tkKs, hsn]
        have e7 : tkVs m (i + 1) = .bool true :: .bool true :: .bool true :: tkVs m i := by
          rw [tkVs, if_pos hsn]; rfl
        have e8 : (fil (sndB m) (i + 1)).length = (fil (sndB m) i).length + 1 := by rw [fil_yes hsn]; simp
        have l8 := fil_le (sndB m) i
        have lov := fil_le (overB m) i
        have kT := hasTri_c hC (b := false) (xs := (fil (sndB m) i).map fun k => triF m (fce m k)) (g := 310) (cs := [.ptr (triD (triF m (fce m i)))]) (fun o => ovT (triF m (fce m i)) o) (by have := fil_le (sndB m) i; simp; omega) (fun x hx => by
          obtain ⟨k, hk, rfl⟩ := List.mem_map.1 hx
          have hk := (fil_lt hk).2
          simp only [sndB, Bool.and_eq_true] at hk
          exact chk2_c hC hT (okF_okT hk.1))
        rw [← trR_eq, List.any_map] at kT
        have hov : (fil (sndB m) i).any ((fun o => ovT (triF m (fce m i)) o) ∘ fun k => triF m (fce m k)) = overB m i := by
          rw [fil, List.any_filter, overB, hsn]
          rfl
        rw [hov] at kT
        rw [slx_false] at kT
        have tl := tkKs_len m i
        have hml : maxLen = 9223372036854775807 := rfl
        have e5 := trR_yes hsn
        have e6 : tkKs m (i + 1) = sdK (fce m i) 3 ++ tkKs m i := by simp [tkKs, hsn]
        have e7 : tkVs m (i + 1) = .bool true :: .bool true :: .bool true :: tkVs m i := by
          rw [tkVs, if_pos hsn]; rfl
        have e8 : (fil (sndB m) (i + 1)).length = (fil (sndB m) i).length + 1 := by rw [fil_yes hsn]; simp
        have l8 := fil_le (sndB m) i
        have lov := fil_le (overB m) i
        rcases (by cases hasS m i 0 <;> cases hasS m i 1 <;> cases hasS m i 2 <;> simp : hasS m i 0 = true ∨ (hasS m i 0 = false ∧ hasS m i 1 = true) ∨ (hasS m i 0 = false ∧ hasS m i 1 = false ∧ hasS m i 2 = true) ∨ (hasS m i 0 = false ∧ hasS m i 1 = false ∧ hasS m i 2 = false)) with h0 | ⟨h0, h1⟩ | ⟨h0, h1, h2⟩ | ⟨h0, h1, h2⟩
        have y := yes (by rw [hsd, h0]; rfl)
        simp [h0]
        refine ⟨by omega, ?_⟩
        rw [y]
        refine loop_of Nat (fun k => chkL3 m i k) (fun k => k ≤ 3) (fun k => 3 - k) 0 (by simp) (by simp [chkL3_eq, mshC_eq, fceC_eq, triD, sdK]) ?_
        rotate_left
        have y := yes (by rw [hsd, h0, h1]; rfl)
        simp [h0]
        refine callW_of ks1 (.inl rfl) ?_
        simp [kg1, h1]
        refine ⟨⟨by omega, by omega⟩, by omega, ?_⟩
        rw [y]
        refine loop_of Nat (fun k => chkL3 m i k) (fun k => k ≤ 3) (fun k => 3 - k) 0 (by simp) (by simp [chkL3_eq, mshC_eq, fceC_eq, triD, sdK]) ?_
        rotate_left
        have y := yes (by rw [hsd, h0, h1, h2]; rfl)
        simp [h0]
        refine callW_of ks1 (.inl rfl) ?_
        simp [kg1, h1]
        refine ⟨⟨by omega, by omega⟩, ?_⟩
        refine callW_of ks2 (.inl rfl) ?_
        simp [kg2, h2]
        refine ⟨⟨by omega, by omega⟩, by omega, ?_⟩
        rw [y]
        refine loop_of Nat (fun k => chkL3 m i k) (fun k => k ≤ 3) (fun k => 3 - k) 0 (by simp) (by simp [chkL3_eq, mshC_eq, fceC_eq, triD, sdK]) ?_
        rotate_left
        have y := nos (by rw [hsd, h0, h1, h2]; rfl)
        simp [h0]
        refine callW_of ks1 (.inl rfl) ?_
        simp [kg1, h1]
        refine ⟨⟨by omega, by omega⟩, ?_⟩
        refine callW_of ks2 (.inl rfl) ?_
        simp [kg2, h2]
        refine ⟨⟨by omega, by omega⟩, ?_⟩
        rw [y]
        refine loop_of Nat (fun k => chkL3 m i k) (fun k => k ≤ 3) (fun k => 3 - k) 0 (by simp) (by simp [chkL3_eq, mshC_eq, fceC_eq, triD, sdK]) ?_
        rotate_left
        all_goals
          clear y
          rintro k hk
          simp [chkL3_eq, mshC_eq, fceC_eq, triD]
          refine brB_of (fun g2 => ?_) (fun g2 => ?_) <;> simp at g2 <;> simp [g2]
          · have hw2 : IntKind.wrap .i64 ((k : Int) + 1) = ((k + 1 : Nat) : Int) := wrap_i64 (by omega) (by omega)
            have ck := cb k
            have ck1 := cb (k + 1)
            refine callW_of (ks k (by omega)) (.inl rfl) ?_
            simp [hw2, sdK_len]
            refine ⟨by omega, ⟨⟨by omega, by omega⟩, by omega, by omega⟩, k + 1, by omega, by omega, ?_⟩
            simp [chkL3_eq, mshC_eq, fceC_eq, triD, sdK, List.replicate_succ]
          · have hk3 : k = 3 := by omega
            subst hk3
            simp only [triD] at kT
            simp
            refine callW_of kT (.inl rfl) ?_
            simp
            simp only [triD] at e5
            cases hov2 : overB m i
            · have e9 := nmR_no hov2
              simp [hw]
              refine ⟨by omega, i + 1, by omega, by omega, ?_⟩
              simp [chkL2_eq, mshC_eq, ← b1, ← b2, ← e9, e5, e6, e7, e8]
            · have e9 := nmR_yes hov2
              simp [hw]
              refine ⟨by omega, by omega, i + 1, by omega, by omega, ?_⟩
              simp [chkL2_eq, mshC_eq, ← b1, ← b2, e9, e5, e6, e7, e8]
    · have hi2 : i = m.f.length := by omega
      subst hi2
      have bd : ∀ (p : Nat → Bool) (n : Nat), n ≤ 100 → (fil p n).length ≤ 100 ∧ ∀ x ∈ fil p n, x < 100 := fun p n hn => ⟨by have := fil_le p n; omega, fun x hx => by have := (fil_lt hx).1; omega⟩
      have q1 := bd (farB m) _ hs
      have q2 := bd (sameB m) _ hs
      have q3 := bd (badB m) _ hf
      have q4 := bd (flatB m) _ hf
      have q5 := bd (sideB m) _ hf
      have q6 := bd (overB m) _ hf
      have hLL : LL m = [[], fil (farB m) m.s.length, fil (sameB m) m.s.length, fil (badB m) m.f.length, fil (flatB m) m.f.length, fil (sideB m) m.f.length, fil (overB m) m.f.length] := rfl
      rw [hLL]
      clear hLL bd
      generalize fil (farB m) m.s.length = L1 at *
      generalize fil (sameB m) m.s.length = L2 at *
      generalize fil (badB m) m.f.length = L3 at *
      generalize fil (flatB m) m.f.length = L4 at *
      generalize fil (sideB m) m.f.length = L5 at *
      generalize fil (overB m) m.f.length = L6 at *
      obtain ⟨AG, hAG⟩ : ∃ x, x = agx6 L1 L2 L3 L4 L5 L6 := ⟨_, rfl⟩
      obtain ⟨BK, hBK⟩ : ∃ x, x = blk6 L1 L2 L3 L4 L5 L6 := ⟨_, rfl⟩
      obtain ⟨U, hU⟩ : ∃ U : Nat → List (Int × List UInt8), U = fun k => outF dec 0 (([([] : List Nat), L1, L2, L3, L4, L5, L6]).take k) := ⟨_, rfl⟩
      have hU7 : U 7 = outF dec 0 [[], L1, L2, L3, L4, L5, L6] := by rw [hU]; rfl
      have hU0 : U 0 = [] := by rw [hU]; rfl
      have bdU : ∀ k (L : List Nat), L.length ≤ 100 → (U k).length ≤ 100 * k → (U k ++ L.map fun i => ((k : Int), dec i)).length ≤ 100 * (k + 1) := fun k L h1 h2 => by simp; omega
      have hU0s : U 1 = U 0 ++ (([] : List Nat)).map fun i => ((0 : Int), dec i) := by
        rw [hU]; show outF dec 0 (([([] : List Nat), L1, L2, L3, L4, L5, L6]).take 0 ++ [([] : List Nat)]) = _
        rw [outF_app]; simp [outF]
      have hU1s : U 2 = U 1 ++ (L1).map fun i => ((1 : Int), dec i) := by
        rw [hU]; show outF dec 0 (([([] : List Nat), L1, L2, L3, L4, L5, L6]).take 1 ++ [L1]) = _
        rw [outF_app]; simp [outF]
      have hU2s : U 3 = U 2 ++ (L2).map fun i => ((2 : Int), dec i) := by
        rw [hU]; show outF dec 0 (([([] : List Nat), L1, L2, L3, L4, L5, L6]).take 2 ++ [L2]) = _
        rw [outF_app]; simp [outF]
      have hU3s : U 4 = U 3 ++ (L3).map fun i => ((3 : Int), dec i) := by
        rw [hU]; show outF dec 0 (([([] : List Nat), L1, L2, L3, L4, L5, L6]).take 3 ++ [L3]) = _
        rw [outF_app]; simp [outF]
      have hU4s : U 5 = U 4 ++ (L4).map fun i => ((4 : Int), dec i) := by
        rw [hU]; show outF dec 0 (([([] : List Nat), L1, L2, L3, L4, L5, L6]).take 4 ++ [L4]) = _
        rw [outF_app]; simp [outF]
      have hU5s : U 6 = U 5 ++ (L5).map fun i => ((5 : Int), dec i) := by
        rw [hU]; show outF dec 0 (([([] : List Nat), L1, L2, L3, L4, L5, L6]).take 5 ++ [L5]) = _
        rw [outF_app]; simp [outF]
      have hU6s : U 7 = U 6 ++ (L6).map fun i => ((6 : Int), dec i) := by
        rw [hU]; show outF dec 0 (([([] : List Nat), L1, L2, L3, L4, L5, L6]).take 6 ++ [L6]) = _
        rw [outF_app]; simp [outF]
      have lU0 : (U 0).length ≤ 0 := by rw [hU0]; simp
      have lU1 : (U 1).length ≤ 100 := by rw [hU0s]; simp; omega
      have lU2 : (U 2).length ≤ 200 := by rw [hU1s]; simp; omega
      have lU3 : (U 3).length ≤ 300 := by rw [hU2s]; simp; omega
      have lU4 : (U 4).length ≤ 400 := by rw [hU3s]; simp; omega
      have lU5 : (U 5).length ≤ 500 := by rw [hU4s]; simp; omega
      have lU6 : (U 6).length ≤ 600 := by rw [hU5s]; simp; omega
      rw [← hU7]
      refine loop_of Nat (fun k => [(17, .ref (.r 10272) 0 (U k).length), (10272, .blk 2 (fnR (U k))), (181, AG), (182, .int .i64 k), (10064, BK)]) (fun k => k ≤ 7) (fun k => 7 - k) 0 (by simp) (by simp [hU0, hAG, hBK, agx6_eq, blk6_eq]) ?_
      rintro k hk
      rcases (by omega : k = 0 ∨ k = 1 ∨ k = 2 ∨ k = 3 ∨ k = 4 ∨ k = 5 ∨ k = 6 ∨ k = 7) with rfl | rfl | rfl | rfl | rfl | rfl | rfl | rfl
      · simp [hAG, agx6_eq]
        refine loop_of Nat (fun j => [(17, .ref (.r 10272) 0 ((U 0).length + j)), (10272, .blk 2 (fnR (U 0 ++ tkD dec 0 ([] : List Nat) j))), (18, .int .i64 0), (181, AG), (182, .int .i64 0), (186, .ref (.n 10064 0 0) 0 (([] : List Nat)).length), (187, .int .i64 (([] : List Nat)).length), (188, .int .i64 j), (10064, BK)]) (fun j => j ≤ (([] : List Nat)).length) (fun j => (([] : List Nat)).length - j) 0 (by simp) (by simp [hAG, hBK, agx6_eq, blk6_eq, tkD_zero]) ?_
        rintro j hj
        simp [hAG, hBK, agx6_eq, blk6_eq]
        have hj0 : j = 0 := by simpa using hj
        subst hj0
        simp [w64_1, hAG, hBK, agx6_eq, blk6_eq]
        refine ⟨1, by omega, by omega, ?_⟩
        rw [hU0s]
        simp [tkD]
      · simp [hAG, agx6_eq]
        refine loop_of Nat (fun j => [(17, .ref (.r 10272) 0 ((U 1).length + j)), (10272, .blk 2 (fnR (U 1 ++ tkD dec 1 L1 j))), (18, .int .i64 1), (181, AG), (182, .int .i64 1), (186, .ref (.n 10064 0 1) 0 (L1).length), (187, .int .i64 (L1).length), (188, .int .i64 j), (10064, BK)]) (fun j => j ≤ (L1).length) (fun j => (L1).length - j) 0 (by simp) (by simp [hAG, hBK, agx6_eq, blk6_eq, tkD_zero]) ?_
        rintro j hj
        simp [hAG, hBK, agx6_eq, blk6_eq]
        refine brB_of (fun g3 => ?_) (fun g3 => ?_) <;> simp at g3 <;> simp [g3, hAG, hBK, agx6_eq, blk6_eq]
        · have hj2 : j < L1.length := by omega
          have hw3 : IntKind.wrap .i64 ((j : Int) + 1) = ((j + 1 : Nat) : Int) := wrap_i64 (by omega) (by omega)
          have hi := hI (L1[j]) (q1.2 _ (List.getElem_mem hj2))
          have ht := tkD_succ dec 1 L1 hj2
          have hl := tkD_len dec 1 L1 (Nat.le_of_lt hj2)
          rw [nmR_eq L1]
          try simp [hj2]
          refine callW_of hi (.inl rfl) ?_
          simp
          refine ⟨by omega, by omega, j + 1, by omega, by omega, by omega, ?_, ?_, hw3, ?_⟩
          · have e : (U 1).length + j = (U 1 ++ tkD dec 1 L1 j).length := by simp [hl]
            rw [e, fnR_take, fnR_add, ht, List.append_assoc]
          · rw [hAG, agx6_eq]
          · rw [hBK, blk6_eq]; simp only [nmR_eq]
        · have hj2 : j = L1.length := by omega
          subst hj2
          refine ⟨2, by omega, by omega, ?_⟩
          rw [hU1s, tkD_all]
          simp [hAG, hBK, agx6_eq, blk6_eq]
          decide
      · simp [hAG, agx6_eq]
        refine loop_of Nat (fun j => [(17, .ref (.r 10272) 0 ((U 2).length + j)), (10272, .blk 2 (fnR (U 2 ++ tkD dec 2 L2 j))), (18, .int .i64 2), (181, AG), (182, .int .i64 2), (186, .ref (.n 10064 0 2) 0 (L2).length), (187, .int .i64 (L2).length), (188, .int .i64 j), (10064, BK)]) (fun j => j ≤ (L2).length) (fun j => (L2).length - j) 0 (by simp) (by simp [hAG, hBK, agx6_eq, blk6_eq, tkD_zero]) ?_
        rintro j hj
        simp [hAG, hBK, agx6_eq, blk6_eq]
        refine brB_of (fun g3 => ?_) (fun g3 => ?_) <;> simp at g3 <;> simp [g3, hAG, hBK, agx6_eq, blk6_eq]
        · have hj2 : j < L2.length := by omega
          have hw3 : IntKind.wrap .i64 ((j : Int) + 1) = ((j + 1 : Nat) : Int) := wrap_i64 (by omega) (by omega)
          have hi := hI (L2[j]) (q2.2 _ (List.getElem_mem hj2))
          have ht := tkD_succ dec 2 L2 hj2
          have hl := tkD_len dec 2 L2 (Nat.le_of_lt hj2)
          rw [nmR_eq L2]
          try simp [hj2]
          refine callW_of hi (.inl rfl) ?_
          simp
          refine ⟨by omega, by omega, j + 1, by omega, by omega, by omega, ?_, ?_, hw3, ?_⟩
          · have e : (U 2).length + j = (U 2 ++ tkD dec 2 L2 j).length := by simp [hl]
            rw [e, fnR_take, fnR_add, ht, List.append_assoc]
          · rw [hAG, agx6_eq]
          · rw [hBK, blk6_eq]; simp only [nmR_eq]
        · have hj2 : j = L2.length := by omega
          subst hj2
          refine ⟨3, by omega, by omega, ?_⟩
          rw [hU2s, tkD_all]
          simp [hAG, hBK, agx6_eq, blk6_eq]
          decide
      · simp [hAG, agx6_eq]
        refine loop_of Nat (fun j => [(17, .ref (.r 10272) 0 ((U 3).length + j)), (10272, .blk 2 (fnR (U 3 ++ tkD dec 3 L3 j))), (18, .int .i64 3), (181, AG), (182, .int .i64 3), (186, .ref (.n 10064 0 3) 0 (L3).length), (187, .int .i64 (L3).length), (188, .int .i64 j), (10064, BK)]) (fun j => j ≤ (L3).length) (fun j => (L3).length - j) 0 (by simp) (by simp [hAG, hBK, agx6_eq, blk6_eq, tkD_zero]) ?_
        rintro j hj
        simp [hAG, hBK, agx6_eq, blk6_eq]
        refine brB_of (fun g3 => ?_) (fun g3 => ?_) <;> simp at g3 <;> simp [g3, hAG, hBK, agx6_eq, blk6_eq]
        · have hj2 : j < L3.length := by omega
          have hw3 : IntKind.wrap .i64 ((j : Int) + 1) = ((j + 1 : Nat) : Int) := wrap_i64 (by omega) (by omega)
          have hi := hI (L3[j]) (q3.2 _ (List.getElem_mem hj2))
          have ht := tkD_succ dec 3 L3 hj2
          have hl := tkD_len dec 3 L3 (Nat.le_of_lt hj2)
          rw [nmR_eq L3]
          try simp [hj2]
          refine callW_of hi (.inl rfl) ?_
          simp
          refine ⟨by omega, by omega, j + 1, by omega, by omega, by omega, ?_, ?_, hw3, ?_⟩
          · have e : (U 3).length + j = (U 3 ++ tkD dec 3 L3 j).length := by simp [hl]
            rw [e, fnR_take, fnR_add, ht, List.append_assoc]
          · rw [hAG, agx6_eq]
          · rw [hBK, blk6_eq]; simp only [nmR_eq]
        · have hj2 : j = L3.length := by omega
          subst hj2
          refine ⟨4, by omega, by omega, ?_⟩
          rw [hU3s, tkD_all]
          simp [hAG, hBK, agx6_eq, blk6_eq]
          decide
      · simp [hAG, agx6_eq]
        refine loop_of Nat (fun j => [(17, .ref (.r 10272) 0 ((U 4).length + j)), (10272, .blk 2 (fnR (U 4 ++ tkD dec 4 L4 j))), (18, .int .i64 4), (181, AG), (182, .int .i64 4), (186, .ref (.n 10064 0 4) 0 (L4).length), (187, .int .i64 (L4).length), (188, .int .i64 j), (10064, BK)]) (fun j => j ≤ (L4).length) (fun j => (L4).length - j) 0 (by simp) (by simp [hAG, hBK, agx6_eq, blk6_eq, tkD_zero]) ?_
        rintro j hj
        simp [hAG, hBK, agx6_eq, blk6_eq]
        refine brB_of (fun g3 => ?_) (fun g3 => ?_) <;> simp at g3 <;> simp [g3, hAG, hBK, agx6_eq, blk6_eq]
        · have hj2 : j < L4.length := by omega
          have hw3 : IntKind.wrap .i64 ((j : Int) + 1) = ((j + 1 : Nat) : Int) := wrap_i64 (by omega) (by omega)
          have hi := hI (L4[j]) (q4.2 _ (List.getElem_mem hj2))
          have ht := tkD_succ dec 4 L4 hj2
          have hl := tkD_len dec 4 L4 (Nat.le_of_lt hj2)
          rw [nmR_eq L4]
          try simp [hj2]
          refine callW_of hi (.inl rfl) ?_
          simp
          refine ⟨by omega, by omega, j + 1, by omega, by omega, by omega, ?_, ?_, hw3, ?_⟩
          · have e : (U 4).length + j = (U 4 ++ tkD dec 4 L4 j).length := by simp [hl]
            rw [e, fnR_take, fnR_add, ht, List.append_assoc]
          · rw [hAG, agx6_eq]
          · rw [hBK, blk6_eq]; simp only [nmR_eq]
        · have hj2 : j = L4.length := by omega
          subst hj2
          refine ⟨5, by omega, by omega, ?_⟩
          rw [hU4s, tkD_all]
          simp [hAG, hBK, agx6_eq, blk6_eq]
          decide
      · simp [hAG, agx6_eq]
        refine loop_of Nat (fun j => [(17, .ref (.r 10272) 0 ((U 5).length + j)), (10272, .blk 2 (fnR (U 5 ++ tkD dec 5 L5 j))), (18, .int .i64 5), (181, AG), (182, .int .i64 5), (186, .ref (.n 10064 0 5) 0 (L5).length), (187, .int .i64 (L5).length), (188, .int .i64 j), (10064, BK)]) (fun j => j ≤ (L5).length) (fun j => (L5).length - j) 0 (by simp) (by simp [hAG, hBK, agx6_eq, blk6_eq, tkD_zero]) ?_
        rintro j hj
        simp [hAG, hBK, agx6_eq, blk6_eq]
        refine brB_of (fun g3 => ?_) (fun g3 => ?_) <;> simp at g3 <;> simp [g3, hAG, hBK, agx6_eq, blk6_eq]
        · have hj2 : j < L5.length := by omega
          have hw3 : IntKind.wrap .i64 ((j : Int) + 1) = ((j + 1 : Nat) : Int) := wrap_i64 (by omega) (by omega)
          have hi := hI (L5[j]) (q5.2 _ (List.getElem_mem hj2))
          have ht := tkD_succ dec 5 L5 hj2
          have hl := tkD_len dec 5 L5 (Nat.le_of_lt hj2)
          rw [nmR_eq L5]
          try simp [hj2]
          refine callW_of hi (.inl rfl) ?_
          simp
          refine ⟨by omega, by omega, j + 1, by omega, by omega, by omega, ?_, ?_, hw3, ?_⟩
          · have e : (U 5).length + j = (U 5 ++ tkD dec 5 L5 j).length := by simp [hl]
            rw [e, fnR_take, fnR_add, ht, List.append_assoc]
          · rw [hAG, agx6_eq]
          · rw [hBK, blk6_eq]; simp only [nmR_eq]
        · have hj2 : j = L5.length := by omega
          subst hj2
          refine ⟨6, by omega, by omega, ?_⟩
          rw [hU5s, tkD_all]
          simp [hAG, hBK, agx6_eq, blk6_eq]
          decide
      · simp [hAG, agx6_eq]
        refine loop_of Nat (fun j => [(17, .ref (.r 10272) 0 ((U 6).length + j)), (10272, .blk 2 (fnR (U 6 ++ tkD dec 6 L6 j))), (18, .int .i64 6), (181, AG), (182, .int .i64 6), (186, .ref (.n 10064 0 6) 0 (L6).length), (187, .int .i64 (L6).length), (188, .int .i64 j), (10064, BK)]) (fun j => j ≤ (L6).length) (fun j => (L6).length - j) 0 (by simp) (by simp [hAG, hBK, agx6_eq, blk6_eq, tkD_zero]) ?_
        rintro j hj
        simp [hAG, hBK, agx6_eq, blk6_eq]
        refine brB_of (fun g3 => ?_) (fun g3 => ?_) <;> simp at g3 <;> simp [g3, hAG, hBK, agx6_eq, blk6_eq]
        · have hj2 : j < L6.length := by omega
          have hw3 : IntKind.wrap .i64 ((j : Int) + 1) = ((j + 1 : Nat) : Int) := wrap_i64 (by omega) (by omega)
          have hi := hI (L6[j]) (q6.2 _ (List.getElem_mem hj2))
          have ht := tkD_succ dec 6 L6 hj2
          have hl := tkD_len dec 6 L6 (Nat.le_of_lt hj2)
          rw [nmR_eq L6]
          try simp [hj2]
          refine callW_of hi (.inl rfl) ?_
          simp
          refine ⟨by omega, by omega, j + 1, by omega, by omega, by omega, ?_, ?_, hw3, ?_⟩
          · have e : (U 6).length + j = (U 6 ++ tkD dec 6 L6 j).length := by simp [hl]
            rw [e, fnR_take, fnR_add, ht, List.append_assoc]
          · rw [hAG, agx6_eq]
          · rw [hBK, blk6_eq]; simp only [nmR_eq]
        · have hj2 : j = L6.length := by omega
          subst hj2
          refine ⟨7, by omega, by omega, ?_⟩
          rw [hU6s, tkD_all]
          simp [hAG, hBK, agx6_eq, blk6_eq]
          decide
      · simp [hAG, agx6_eq]
        rfl
end Go.Gv

set_option linter.unusedSimpArgs false
namespace Go.Gv
theorem valid_small {m : Msh} (h : validM m = true) : m.s.length ≤ 2000 ∧ m.f.length ≤ 4000 := by
  simp only [validM, smallM, Bool.and_eq_true, decide_eq_true_eq] at h
  exact h.1
theorem valid_LL {m : Msh} (h : validM m = true) : ∀ l ∈ LL m, l = [] := by
  simp only [validM, Bool.and_eq_true, List.all_eq_true, decide_eq_true_eq] at h
  exact h.2
theorem valid_s {m : Msh} (h : validM m = true) {i : Nat} (hi : i < m.s.length) : rightS (spt m i) = true := by
  have := fil_nil.1 (valid_LL h (fil (farB m) m.s.length) (by simp [LL])) i hi
  simpa [farB] using this
theorem valid_f {m : Msh} (h : validM m = true) {i : Nat} (hi : i < m.f.length) : okF m (fce m i) = true ∧ 0 < turnT (triF m (fce m i)) := by
  have h1 := fil_nil.1 (valid_LL h (fil (badB m) m.f.length) (by simp [LL])) i hi
  have h2 := fil_nil.1 (valid_LL h (fil (flatB m) m.f.length) (by simp [LL])) i hi
  have h3 : okF m (fce m i) = true := by simpa [badB] using h1
  refine ⟨h3, ?_⟩
  simp [flatB, h3] at h2
  omega
theorem valid_snd {m : Msh} (h : validM m = true) {i : Nat} (hi : i < m.f.length) : sndB m i = true := by
  have := valid_f h hi
  simp [sndB, this]
theorem valid_side {m : Msh} (h : validM m = true) {i k : Nat} (hi : i < m.f.length) (hk : k < i) : shareB (fce m i) (fce m k) = false := by
  have h1 := fil_nil.1 (valid_LL h (fil (sideB m) m.f.length) (by simp [LL])) i hi
  rw [sideB, valid_snd h hi, Bool.true_and, List.any_eq_false] at h1
  have := h1 k (List.mem_range.2 hk)
  rw [valid_snd h (by omega), Bool.true_and] at this
  simpa using this
theorem valid_in {m : Msh} (h : validM m = true) {i : Nat} (hi : i < m.f.length) : inS m (fce m i) = true := okF_inS (valid_f h hi).1
theorem valid_T {m : Msh} (h : validM m = true) {i : Nat} (hi : i < m.f.length) : okT (triF m (fce m i)) = true := okF_okT (valid_f h hi).1
def hasSd (f : Fce) (a b : Int) : Bool := (List.range 3).any fun j => decide (crn f j = a) && decide (crn f (j + 1) = b)
def sideF (m : Msh) (a b : Int) : Int := idxD (fun f => hasSd f a b) m.f
def nbF (m : Msh) (i k : Nat) : Int := sideF m (crn (fce m i) (k + 1)) (crn (fce m i) k)
def lastF (p : Nat → Bool) : Nat → Option Nat
  | 0 => none
  | i + 1 => if p i then some i else lastF p i
theorem lastF_spec (p : Nat → Bool) : ∀ n, (lastF p n = none ∧ ∀ i, i < n → p i = false) ∨ ∃ i, lastF p n = some i ∧ i < n ∧ p i = true
  | 0 => .inl ⟨rfl, fun i h => by omega⟩
  | n + 1 => by
    rw [lastF]
    by_cases h : p n = true
    · rw [if_pos h]; exact .inr ⟨n, rfl, by omega, h⟩
    · rw [if_neg h]
      rcases lastF_spec p n with ⟨h1, h2⟩ | ⟨i, h1, h2, h3⟩
      · refine .inl ⟨h1, fun i hi => ?_⟩
        rcases Nat.lt_succ_iff_lt_or_eq.1 hi with h3 | rfl
        · exact h2 i h3
        · simpa using h
      · exact .inr ⟨i, h1, by omega, h3⟩
theorem mtc_of {f g : Fce} {a b : Int} (h1 : hasSd f a b = true) (h2 : hasSd g a b = true) : shareB f g = true := by
  simp only [hasSd, List.any_eq_true, List.mem_range, Bool.and_eq_true, decide_eq_true_eq] at h1 h2
  obtain ⟨i, hi, rfl, rfl⟩ := h1
  obtain ⟨j, hj, e1, e2⟩ := h2
  simp only [shareB, List.any_eq_true, List.mem_range]
  exact ⟨i, hi, j, hj, by simp [mtc, e1, e2]⟩
theorem hasSd_one {m : Msh} (h : validM m = true) {i k : Nat} (hi : i < m.f.length) (hk : k < m.f.length) {a b : Int} (h1 : hasSd (fce m i) a b = true) (h2 : hasSd (fce m k) a b = true) : i = k := by
  rcases Nat.lt_trichotomy i k with h3 | h3 | h3
  · have := valid_side h hk h3
    rw [mtc_of h2 h1] at this; cases this
  · exact h3
  · have := valid_side h hi h3
    rw [mtc_of h1 h2] at this; cases this
theorem sideF_last {m : Msh} (h : validM m = true) (a b : Int) : sideF m a b = match lastF (fun i => hasSd (fce m i) a b) m.f.length with
    | some i => (i : Int)
    | none => -1 := by
  rcases lastF_spec (fun i => hasSd (fce m i) a b) m.f.length with ⟨h1, h2⟩ | ⟨i, h1, h2, h3⟩
  · rw [h1]
    exact idxD_none fun j hj => by rw [fce_g]; exact h2 j hj
  · rw [h1]
    refine idxD_step (fun j hj hji => ?_) h2 (by rw [fce_g]; exact h3)
    rw [fce_g]
    cases hh : hasSd (fce m j) a b
    · rfl
    · have := hasSd_one h hj h2 hh h3
      omega
def nbKs (m : Msh) : Nat → List D
  | 0 => []
  | i + 1 => sdK (fce m i) 3 ++ nbKs m i
def nbVs (m : Msh) : Nat → List D
  | 0 => []
  | i + 1 => List.replicate 3 (.int .i64 i) ++ nbVs m i
theorem nbKs_len (m : Msh) : ∀ i, (nbKs m i).length = 3 * i
  | 0 => by simp [nbKs]
  | i + 1 => by
    have := nbKs_len m i
    simp [nbKs, sdK_len]; omega
theorem nb_get (m : Msh) (a b : Int) : ∀ i, mpGet (nbKs m i) (nbVs m i) (.agg [.int .i64 a, .int .i64 b]) = (lastF (fun i => hasSd (fce m i) a b) i).map fun i => .int .i64 i
  | 0 => rfl
  | i + 1 => by
    have h3 : List.range 3 = [0, 1, 2] := rfl
    simp only [nbKs, nbVs, lastF, sdK, List.replicate, List.cons_append, List.nil_append, mpGet, eqD_2]
    have ih := nb_get m a b i
    by_cases c0 : (decide (a = crn (fce m i) 2) && decide (b = crn (fce m i) (2 + 1))) = true
    · have : hasSd (fce m i) a b = true := by
        simp only [Bool.and_eq_true, decide_eq_true_eq] at c0
        simp [hasSd, h3, ← c0.1, ← c0.2]
      rw [if_pos c0, if_pos this]; rfl
    · rw [if_neg c0]
      by_cases c1 : (decide (a = crn (fce m i) 1) && decide (b = crn (fce m i) (1 + 1))) = true
      · have : hasSd (fce m i) a b = true := by
          simp only [Bool.and_eq_true, decide_eq_true_eq] at c1
          simp [hasSd, h3, ← c1.1, ← c1.2]
        rw [if_pos c1, if_pos this]; rfl
      · rw [if_neg c1]
        by_cases c2 : (decide (a = crn (fce m i) 0) && decide (b = crn (fce m i) (0 + 1))) = true
        · have : hasSd (fce m i) a b = true := by
            simp only [Bool.and_eq_true, decide_eq_true_eq] at c2
            simp [hasSd, h3, ← c2.1, ← c2.2]
          rw [if_pos c2, if_pos this]; rfl
        · have : hasSd (fce m i) a b = false := by
            simp only [Bool.and_eq_true, decide_eq_true_eq, not_and] at c0 c1 c2
            simp only [hasSd, h3, List.any_cons, List.any_nil, Bool.or_false, Bool.or_eq_false_iff, Bool.and_eq_false_iff, decide_eq_false_iff_not]
            omega
          rw [if_neg c2, if_neg (by rw [this]; decide), ih]
def nbC (m : Msh) (i k j c : Nat) : Int := if j < i ∨ (j = i ∧ c < k) then nbF m j c else 0
def nbR (m : Msh) (i k : Nat) : List (List D) := (List.range m.f.length).map fun j => [.int .i64 (nbC m i k j 0), .int .i64 (nbC m i k j 1), .int .i64 (nbC m i k j 2)]
def nbA (m : Msh) : List (List D) := (List.range m.f.length).map fun j => [.int .i64 (nbF m j 0), .int .i64 (nbF m j 1), .int .i64 (nbF m j 2)]
@[simp] theorem nbR_len (m : Msh) (i k : Nat) : (nbR m i k).length = m.f.length := by simp [nbR]
@[simp] theorem nbR_take (m : Msh) (i k : Nat) : List.take m.f.length (nbR m i k) = nbR m i k := List.take_of_length_le (by simp)
@[simp] theorem nbR_cv (m : Msh) (i k : Nat) : List.map (fun e => List.map cellV e) (nbR m i k) = nbR m i k := by simp [nbR]
theorem nbR_zero (m : Msh) : List.replicate m.f.length [D.int .i64 0, D.int .i64 0, D.int .i64 0] = nbR m 0 0 := by
  refine List.ext_getElem (by simp) fun j h1 h2 => ?_
  simp [nbR, nbC]
theorem nbR_next (m : Msh) (i : Nat) : nbR m i 3 = nbR m (i + 1) 0 := by
  unfold nbR
  refine List.map_congr_left fun j _ => ?_
  have e : ∀ c, c < 3 → nbC m i 3 j c = nbC m (i + 1) 0 j c := fun c hc => by
    unfold nbC
    by_cases h : j < i + 1
    · rw [if_pos (by omega), if_pos (by omega)]
    · rw [if_neg (by omega), if_neg (by omega)]
  rw [e 0 (by omega), e 1 (by omega), e 2 (by omega)]
theorem nbR_all (m : Msh) : nbR m m.f.length 0 = nbA m := by
  unfold nbR nbA
  refine List.map_congr_left fun j hj => ?_
  have hj := List.mem_range.1 hj
  simp [nbC, hj]
theorem nbR_get (m : Msh) {i k j : Nat} (h : j < m.f.length) : (nbR m i k)[j]? = some [.int .i64 (nbC m i k j 0), .int .i64 (nbC m i k j 1), .int .i64 (nbC m i k j 2)] := by
  simp [nbR, h]
theorem nbR_set (m : Msh) {i k : Nat} (h : i < m.f.length) (hk : k < 3) : (nbR m i k).set i (([.int .i64 (nbC m i k i 0), .int .i64 (nbC m i k i 1), .int .i64 (nbC m i k i 2)] : List D).set k (.int .i64 (nbF m i k))) = nbR m i (k + 1) := by
  refine List.ext_getElem (by simp) fun j h1 h2 => ?_
  rw [List.getElem_set]
  by_cases e : i = j
  · subst e
    rw [if_pos rfl]
    rcases (by omega : k = 0 ∨ k = 1 ∨ k = 2) with rfl | rfl | rfl <;> simp [nbR, nbC]
  · rw [if_neg e]
    simp only [nbR, List.getElem_map, List.getElem_range]
    have e2 : ∀ c, nbC m i k j c = nbC m i (k + 1) j c := fun c => by
      unfold nbC
      by_cases h : j < i
      · rw [if_pos (by omega), if_pos (by omega)]
      · rw [if_neg (by omega), if_neg (by omega)]
    rw [e2, e2, e2]
variable {C : CC} (hC : Closed prog C)
include hC
theorem CheckF_c (m : Msh) (h : smallM m = false) : C 273 [.agg (mshC m)] (.tup [.nils, .int .i64 4]) [] := by
  have ksm := msmall_c hC m
  rw [show (decide (m.s.length ≤ 2000) && decide (m.f.length ≤ 4000)) = false from h] at ksm
  refine start hC (nf := N273_mesh_Check) rfl rfl ?_
  simp only [mshC_eq] at ksm
  simp [N273_mesh_Check, mshC_eq]
  refine callW_of ksm (.inl rfl) ?_
  simp
theorem mValid_c (dec : Nat → List UInt8) (hI : ∀ n : Nat, n < 100 → C 127 [.int .i64 n] (.str (dec n)) []) (m : Msh) (hz : smallM m = true → m.s.length ≤ 100 ∧ m.f.length ≤ 100) : C 234 [.agg (mshC m)] (.bool (validM m)) [] := by
  cases hs : smallM m
  · have k := CheckF_c hC m hs
    refine start hC (nf := N234_mesh_Valid) rfl rfl ?_
    simp only [mshC_eq] at k
    simp [N234_mesh_Valid, mshC_eq]
    refine callW_of k (.inr rfl) ?_
    simp [validM, hs]
  · obtain ⟨h1, h2⟩ := hz hs
    have k := Check_c hC dec hI m h1 h2
    have e : validM m = decide ((outF dec 0 (LL m)).length = 0) := by
      rw [validM, hs, Bool.true_and, Bool.eq_iff_iff, decide_eq_true_eq, List.length_eq_zero_iff, outF_nil]
    obtain ⟨X, hX⟩ : ∃ X, X = outF dec 0 (LL m) := ⟨_, rfl⟩
    rw [e]
    rw [← hX] at k ⊢
    refine start hC (nf := N234_mesh_Valid) rfl rfl ?_
    simp only [mshC_eq] at k
    simp [N234_mesh_Valid, mshC_eq]
    refine callW_of k (.inr rfl) ?_
    simp
end Go.Gv

namespace Go.Gv
section
variable {C : CC} {hs : Option (List Nat)} {K : Env → Prop} {ns : List NOper} {dst : Option Nat} {u : Tag (hs, K, ns)} {e : Env} {R : List Nat} {acc : List (List Nat × List Nat)}
@[simp] theorem idxW_at5 {sz : Nat} {c0 c1 c2 c3 c4 c5 : List D} {es : List (List D)} : idxW C hs K ns dst u e R acc sz (c0 :: c1 :: c2 :: c3 :: c4 :: c5 :: es) 5 = (c5.length = sz ∧ dW C hs K ns dst ⟨⟩ e R acc (.ptr c5)) := idxW_some rfl
@[simp] theorem rowW_at5 {n : Nat} {ag : Bool} {p : Pa} {off : Nat} {c0 c1 c2 c3 c4 c5 : List D} {es : List (List D)} : rowW C hs K ns dst u e R acc n ag p (c0 :: c1 :: c2 :: c3 :: c4 :: c5 :: es) 5 off = (off + n ≤ c5.length ∧ match ag with
        | true => (((c5.drop off).take n).all isV = true → dW C hs K ns dst ⟨⟩ e R acc (.agg ((c5.drop off).take n))) ∧
            (((c5.drop off).take n).all isV = false → dW C hs K ns dst ⟨⟩ e R acc (.agx (((c5.drop off).take n).mapIdx fun j c => ldc p 5 (off + j) c)))
        | false => dW C hs K ns dst ⟨⟩ e R acc (ldc p 5 off ((c5.drop off).headD .any))) := rowW_some rfl
@[simp] theorem idxW_at6 {sz : Nat} {c0 c1 c2 c3 c4 c5 c6 : List D} {es : List (List D)} : idxW C hs K ns dst u e R acc sz (c0 :: c1 :: c2 :: c3 :: c4 :: c5 :: c6 :: es) 6 = (c6.length = sz ∧ dW C hs K ns dst ⟨⟩ e R acc (.ptr c6)) := idxW_some rfl
@[simp] theorem rowW_at6 {n : Nat} {ag : Bool} {p : Pa} {off : Nat} {c0 c1 c2 c3 c4 c5 c6 : List D} {es : List (List D)} : rowW C hs K ns dst u e R acc n ag p (c0 :: c1 :: c2 :: c3 :: c4 :: c5 :: c6 :: es) 6 off = (off + n ≤ c6.length ∧ match ag with
        | true => (((c6.drop off).take n).all isV = true → dW C hs K ns dst ⟨⟩ e R acc (.agg ((c6.drop off).take n))) ∧
            (((c6.drop off).take n).all isV = false → dW C hs K ns dst ⟨⟩ e R acc (.agx (((c6.drop off).take n).mapIdx fun j c => ldc p 6 (off + j) c)))
        | false => dW C hs K ns dst ⟨⟩ e R acc (ldc p 6 off ((c6.drop off).headD .any))) := rowW_some rfl
@[simp] theorem idxW_at7 {sz : Nat} {c0 c1 c2 c3 c4 c5 c6 c7 : List D} {es : List (List D)} : idxW C hs K ns dst u e R acc sz (c0 :: c1 :: c2 :: c3 :: c4 :: c5 :: c6 :: c7 :: es) 7 = (c7.length = sz ∧ dW C hs K ns dst ⟨⟩ e R acc (.ptr c7)) := idxW_some rfl
@[simp] theorem rowW_at7 {n : Nat} {ag : Bool} {p : Pa} {off : Nat} {c0 c1 c2 c3 c4 c5 c6 c7 : List D} {es : List (List D)} : rowW C hs K ns dst u e R acc n ag p (c0 :: c1 :: c2 :: c3 :: c4 :: c5 :: c6 :: c7 :: es) 7 off = (off + n ≤ c7.length ∧ match ag with
        | true => (((c7.drop off).take n).all isV = true → dW C hs K ns dst ⟨⟩ e R acc (.agg ((c7.drop off).take n))) ∧
            (((c7.drop off).take n).all isV = false → dW C hs K ns dst ⟨⟩ e R acc (.agx (((c7.drop off).take n).mapIdx fun j c => ldc p 7 (off + j) c)))
        | false => dW C hs K ns dst ⟨⟩ e R acc (ldc p 7 off ((c7.drop off).headD .any))) := rowW_some rfl
end
end Go.Gv

set_option linter.unusedSimpArgs false
namespace Go.Gv
def decF (n : Nat) : List UInt8 := decL n []
def fdL (k : Int) (l : List Nat) : List (Int × List UInt8) := l.map fun i => (k, decF i)
@[simp] theorem fdL_len (k : Int) (l : List Nat) : (fdL k l).length = l.length := by simp [fdL]
def fdR (k : Int) (l : List Nat) : List (List D) := fnR (fdL k l)
@[simp] theorem fdR_len (k : Int) (l : List Nat) : (fdR k l).length = l.length := by simp [fdR]
@[simp] theorem fdR_take (k : Int) (l : List Nat) : List.take l.length (fdR k l) = fdR k l := List.take_of_length_le (by simp)
theorem fdR_yes {p : Nat → Bool} {n : Nat} {k : Int} (h : p n = true) : fdR k (fil p n) ++ [[D.int .i64 k, .str (decF n)]] = fdR k (fil p (n + 1)) := by
  rw [fil_yes h]; simp [fdR, fnR_add, fdL]
theorem fdR_no {p : Nat → Bool} {n : Nat} {k : Int} (h : p n = false) : fdR k (fil p n) = fdR k (fil p (n + 1)) := by rw [fil_no h]
@[simp] theorem fdR_c1 (k : Int) (l : List Nat) : (∀ e ∈ fdR k l, ∀ c ∈ e, isC1 c = true) = True := by simp [fdR, fnR, fnD, fdL]
@[simp] theorem fdR_c1a (k : Int) (l : List Nat) (x : List D) : (∀ e, e ∈ fdR k l ∨ e = x → ∀ c, c ∈ e → isC1 c = true) = ∀ c, c ∈ x → isC1 c = true := by
  apply propext
  constructor
  · exact fun h => h x (.inr rfl)
  · rintro h e (he | rfl)
    · exact (fdR_c1 k l).mpr trivial e he
    · exact h
@[simp] theorem fdR_nil (k : Int) : fdR k [] = [] := rfl
def fcR (m : Msh) (l : List Nat) : List (List D) := l.map fun k => fceC (fce m k)
@[simp] theorem fcR_len (m : Msh) (l : List Nat) : (fcR m l).length = l.length := by simp [fcR]
@[simp] theorem fcR_take (m : Msh) (l : List Nat) : List.take l.length (fcR m l) = fcR m l := List.take_of_length_le (by simp)
@[simp] theorem fcR_nil (m : Msh) : fcR m [] = [] := rfl
theorem fcR_yes {m : Msh} {i : Nat} (h : sndB m i = true) : fcR m (fil (sndB m) i) ++ [fceC (fce m i)] = fcR m (fil (sndB m) (i + 1)) := by rw [fil_yes h]; simp [fcR]
theorem fcR_eq (m : Msh) (l : List Nat) : fcR m l = l.map fun k => fceC (fce m k) := rfl
def anyT (p : Nat → Bool) (l : List Nat) (k : Nat) : Bool := (l.take k).any p
theorem anyT_zero (p : Nat → Bool) (l : List Nat) : anyT p l 0 = false := by simp [anyT]
theorem anyT_succ (p : Nat → Bool) {l : List Nat} {k : Nat} (h : k < l.length) : anyT p l (k + 1) = (anyT p l k || p l[k]) := by
  unfold anyT
  rw [List.take_add_one, List.getElem?_eq_getElem h, List.any_append]
  simp
theorem anyT_all (p : Nat → Bool) (l : List Nat) : anyT p l l.length = l.any p := by simp [anyT]
def shP (m : Msh) (i k : Nat) : Bool := shareB (fce m i) (fce m k)
def ovP (m : Msh) (i k : Nat) : Bool := ovT (triF m (fce m i)) (triF m (fce m k))
theorem sideB_any {m : Msh} {i : Nat} (h : sndB m i = true) : sideB m i = (fil (sndB m) i).any (shP m i) := by
  rw [fil, List.any_filter, sideB, h]; rfl
theorem overB_any {m : Msh} {i : Nat} (h : sndB m i = true) : overB m i = (fil (sndB m) i).any (ovP m i) := by
  rw [fil, List.any_filter, overB, h]; rfl
def rcE4 (m : Msh) (i k : Nat) : Env := [(1, .ptr (mshC m)), (3, .ref (.r 10048) 0 7), (10048, .blk 1 [[.own 2 []], [.own 2 (fdR 1 (fil (farB m) m.s.length))], [.own 2 (fdR 2 (fil (sameB m) m.s.length))], [.own 2 (fdR 3 (fil (badB m) i))], [.own 2 (fdR 4 (fil (flatB m) i))], [.own 2 (fdR 5 (fil (sideB m) i))], [.own 2 (fdR 6 (fil (overB m) i))]]), (7, .ref (.r 10112) 0 (fil (sndB m) i).length), (10112, .blk 4 (fcR m (fil (sndB m) i))), (8, .int .i64 i), (9, .adr (.r 10144) 0 0), (10144, .blk 4 [fceC (fce m i)]), (10, .bool (anyT (shP m i) (fil (sndB m) i) k)), (11, .bool (anyT (ovP m i) (fil (sndB m) i) k)), (12, .int .i64 k)]
theorem rcE4_eq (m : Msh) (i k : Nat) : rcE4 m i k = [(1, .ptr (mshC m)), (3, .ref (.r 10048) 0 7), (10048, .blk 1 [[.own 2 []], [.own 2 (fdR 1 (fil (farB m) m.s.length))], [.own 2 (fdR 2 (fil (sameB m) m.s.length))], [.own 2 (fdR 3 (fil (badB m) i))], [.own 2 (fdR 4 (fil (flatB m) i))], [.own 2 (fdR 5 (fil (sideB m) i))], [.own 2 (fdR 6 (fil (overB m) i))]]), (7, .ref (.r 10112) 0 (fil (sndB m) i).length), (10112, .blk 4 (fcR m (fil (sndB m) i))), (8, .int .i64 i), (9, .adr (.r 10144) 0 0), (10144, .blk 4 [fceC (fce m i)]), (10, .bool (anyT (shP m i) (fil (sndB m) i) k)), (11, .bool (anyT (ovP m i) (fil (sndB m) i) k)), (12, .int .i64 k)] := _root_.id rfl
def rcE1 (m : Msh) (i : Nat) : Env := [(1, .ptr (mshC m)), (3, .ref (.r 10048) 0 7), (10048, .blk 1 [[.own 2 []], [.own 2 (fdR 1 (fil (farB m) i))], [.own 2 (fdR 2 (fil (sameB m) i))], [.own 2 []], [.own 2 []], [.own 2 []], [.own 2 []]]), (4, .int .i64 i)]
theorem rcE1_eq (m : Msh) (i : Nat) : rcE1 m i = [(1, .ptr (mshC m)), (3, .ref (.r 10048) 0 7), (10048, .blk 1 [[.own 2 []], [.own 2 (fdR 1 (fil (farB m) i))], [.own 2 (fdR 2 (fil (sameB m) i))], [.own 2 []], [.own 2 []], [.own 2 []], [.own 2 []]]), (4, .int .i64 i)] := _root_.id rfl
def rcE2 (m : Msh) (i k : Nat) : Env := [(1, .ptr (mshC m)), (3, .ref (.r 10048) 0 7), (10048, .blk 1 [[.own 2 []], [.own 2 (fdR 1 (fil (farB m) i))], [.own 2 (fdR 2 (fil (sameB m) i))], [.own 2 []], [.own 2 []], [.own 2 []], [.own 2 []]]), (4, .int .i64 i), (5, .adr (.r 10080) 0 0), (10080, .blk 3 [sptC (spt m i)]), (6, .int .i64 k)]
theorem rcE2_eq (m : Msh) (i k : Nat) : rcE2 m i k = [(1, .ptr (mshC m)), (3, .ref (.r 10048) 0 7), (10048, .blk 1 [[.own 2 []], [.own 2 (fdR 1 (fil (farB m) i))], [.own 2 (fdR 2 (fil (sameB m) i))], [.own 2 []], [.own 2 []], [.own 2 []], [.own 2 []]]), (4, .int .i64 i), (5, .adr (.r 10080) 0 0), (10080, .blk 3 [sptC (spt m i)]), (6, .int .i64 k)] := _root_.id rfl
def rcE3 (m : Msh) (i : Nat) : Env := [(1, .ptr (mshC m)), (3, .ref (.r 10048) 0 7), (10048, .blk 1 [[.own 2 []], [.own 2 (fdR 1 (fil (farB m) m.s.length))], [.own 2 (fdR 2 (fil (sameB m) m.s.length))], [.own 2 (fdR 3 (fil (badB m) i))], [.own 2 (fdR 4 (fil (flatB m) i))], [.own 2 (fdR 5 (fil (sideB m) i))], [.own 2 (fdR 6 (fil (overB m) i))]]), (7, .ref (.r 10112) 0 (fil (sndB m) i).length), (10112, .blk 4 (fcR m (fil (sndB m) i))), (8, .int .i64 i)]
theorem rcE3_eq (m : Msh) (i : Nat) : rcE3 m i = [(1, .ptr (mshC m)), (3, .ref (.r 10048) 0 7), (10048, .blk 1 [[.own 2 []], [.own 2 (fdR 1 (fil (farB m) m.s.length))], [.own 2 (fdR 2 (fil (sameB m) m.s.length))], [.own 2 (fdR 3 (fil (badB m) i))], [.own 2 (fdR 4 (fil (flatB m) i))], [.own 2 (fdR 5 (fil (sideB m) i))], [.own 2 (fdR 6 (fil (overB m) i))]]), (7, .ref (.r 10112) 0 (fil (sndB m) i).length), (10112, .blk 4 (fcR m (fil (sndB m) i))), (8, .int .i64 i)] := _root_.id rfl
variable {C : CC} (hC : Closed prog C)
include hC
set_option maxRecDepth 4000 in
set_option maxHeartbeats 4000000 in
theorem rCheck_c (m : Msh) (hs : m.s.length ≤ 100) (hf : m.f.length ≤ 100) : C 258 [.agg (mshC m)] (.sl ((outF decF 0 (LL m)).map fnD)) [] := by
  have kr := fun s => rSpot_c hC s
  have kd := fun n h => rDec_c hC n h
  have kp := fun s => rPoint_c hC s
  refine start hC (nf := N258_ref09_Check) rfl rfl ?_
  simp [N258_ref09_Check, mshC_eq]
  refine loop_of Nat (fun i => rcE1 m i) (fun i => i ≤ m.s.length) (fun i => m.s.length - i) 0 (by simp) (by simp [rcE1_eq, mshC_eq, fil_zero, List.replicate]) ?_
  rintro i hi
  simp [rcE1_eq, mshC_eq]
  refine brB_of (fun g1 => ?_) (fun g1 => ?_) <;> simp at g1 <;> simp [g1]
  · have hw : IntKind.wrap .i64 ((i : Int) + 1) = ((i + 1 : Nat) : Int) := wrap_i64 (by omega) (by omega)
    have kri := kr (spt m i)
    simp only [sptC_eq] at kri
    have kdi := kd i (by omega)
    have l1 := fil_le (farB m) i
    have l2 := fil_le (sameB m) i
    simp [sptC_eq]
    refine callW_of kri (.inl rfl) ?_
    simp
    cases hr1 : rightS (spt m i)
    · have e1 := fdR_yes (p := farB m) (n := i) (k := 1) (by simp [farB, hr1])
      have e2 := fdR_no (p := sameB m) (n := i) (k := 2) (by simp [sameB, hr1])
      simp
      refine callW_of kdi (.inl rfl) ?_
      simp
      simp only [decF] at e1
      refine ⟨by omega, indW_of (by decide +kernel), i + 1, by omega, by omega, ?_⟩
      simp [rcE1_eq, mshC_eq, hw, e1, ← e2]
    · have e0 := fdR_no (p := farB m) (n := i) (k := 1) (by simp [farB, hr1])
      have hsame : sameB m i = (List.range i).any fun k => rightS (spt m k) && decide (sptP m k = sptP m i) := by rw [sameB, hr1, Bool.true_and]
      simp
      refine loop_of Nat (fun k => rcE2 m i k) (fun k => k ≤ i ∧ ∀ j, j < k → rightS (spt m j) = true → ¬ sptP m j = sptP m i) (fun k => i - k) 0 (by simp) (by simp [rcE2_eq, mshC_eq, sptC_eq]) ?_
      rintro k ⟨hk, hK⟩
      simp [rcE2_eq, mshC_eq, sptC_eq]
      refine brB_of (fun g2 => ?_) (fun g2 => ?_) <;> simp at g2 <;> simp [g2]
      · have hw2 : IntKind.wrap .i64 ((k : Int) + 1) = ((k + 1 : Nat) : Int) := wrap_i64 (by omega) (by omega)
        have krk := kr (spt m k)
        have kpk := kp (spt m k)
        have kpi := kp (spt m i)
        simp only [sptC_eq, ptD] at krk kpk kpi
        have hks : k < m.s.length := by omega
        simp [hks, sptC_eq]
        refine callW_of krk (.inl rfl) ?_
        simp
        have next : (rightS (spt m k) = true → ¬ sptP m k = sptP m i) → ∀ j, j < k + 1 → rightS (spt m j) = true → ¬ sptP m j = sptP m i := fun h j hj => by
          rcases Nat.lt_succ_iff_lt_or_eq.1 hj with h2 | rfl
          · exact hK j h2
          · exact h
        cases hr2 : rightS (spt m k)
        · simp
          refine ⟨indW_of (by decide +kernel), ?_⟩
          refine ⟨k + 1, ⟨by omega, next (by rw [hr2]; simp)⟩, by omega, ?_⟩
          simp [rcE2_eq, mshC_eq, sptC_eq, hw2]
        · simp [hks, sptC_eq]
          refine callW_of kpk (.inl rfl) ?_
          simp
          refine callW_of kpi (.inl rfl) ?_
          simp
          refine ⟨indW_of (by decide +kernel), ?_⟩
          by_cases hp : sptP m k = sptP m i
          · have hs1 : sameB m i = true := by
              rw [hsame, List.any_eq_true]
              exact ⟨k, List.mem_range.2 g2, by simp [hr2, hp]⟩
            have e2 := fdR_yes (p := sameB m) (n := i) (k := 2) hs1
            simp only [decF] at e2
            have hp1 : (ptS (spt m k)).1 = (ptS (spt m i)).1 := congrArg Prod.fst hp
            have hp2 : (ptS (spt m k)).2 = (ptS (spt m i)).2 := congrArg Prod.snd hp
            simp [hp1, hp2]
            refine callW_of kdi (.inl rfl) ?_
            simp
            refine ⟨by omega, indW_of (by decide +kernel), i + 1, by omega, by omega, ?_⟩
            simp [rcE1_eq, mshC_eq, hw, ← e0, e2]
          · have hp1 : ¬ ((ptS (spt m k)).1 = (ptS (spt m i)).1 ∧ (ptS (spt m k)).2 = (ptS (spt m i)).2) := fun h => hp (Prod.ext h.1 h.2)
            have hp2 : (decide ((ptS (spt m k)).1 = (ptS (spt m i)).1) && decide ((ptS (spt m k)).2 = (ptS (spt m i)).2)) = false := by
              rw [Bool.eq_false_iff]; simpa using hp1
            simp [hp2]
            refine ⟨k + 1, ⟨by omega, next (fun _ => hp)⟩, by omega, ?_⟩
            simp [rcE2_eq, mshC_eq, sptC_eq, hw2]
      · have hk2 : k = i := by omega
        subst hk2
        have hs1 : sameB m k = false := by
          rw [hsame, List.any_eq_false]
          intro j hj
          have := hK j (List.mem_range.1 hj)
          simpa using this
        have e2 := fdR_no (p := sameB m) (n := k) (k := 2) hs1
        refine ⟨k + 1, by omega, by omega, ?_⟩
        simp [rcE1_eq, mshC_eq, hw, ← e0, ← e2]
  · have hi2 : i = m.s.length := by omega
    subst hi2
    clear kr kp
    have kc := fun f => rcor_c hC m f (by omega)
    refine loop_of Nat (fun i => rcE3 m i) (fun i => i ≤ m.f.length) (fun i => m.f.length - i) 0 (by simp) (by simp [rcE3_eq, mshC_eq, fil_zero]) ?_
    clear hi g1
    rintro i hi
    simp [rcE3_eq, mshC_eq]
    refine brB_of (fun g1 => ?_) (fun g1 => ?_) <;> simp at g1 <;> simp [g1]
    · have hw : IntKind.wrap .i64 ((i : Int) + 1) = ((i + 1 : Nat) : Int) := wrap_i64 (by omega) (by omega)
      have kci := kc (fce m i)
      have kdi := kd i (by omega)
      simp only [mshC_eq, fceC_eq] at kci
      have l3 := fil_le (badB m) i
      have l4 := fil_le (flatB m) i
      have l5 := fil_le (sideB m) i
      have l6 := fil_le (overB m) i
      simp [fceC_eq]
      refine callW_of kci (.inl rfl) ?_
      simp
      cases ok : okF m (fce m i)
      · have hsn : sndB m i = false := by simp [sndB, ok]
        have e1 := fdR_yes (p := badB m) (n := i) (k := 3) (by simp [badB, ok])
        have e2 := fdR_no (p := flatB m) (n := i) (k := 4) (by simp [flatB, ok])
        have e3 := fdR_no (p := sideB m) (n := i) (k := 5) (by simp [sideB, hsn])
        have e4 := fdR_no (p := overB m) (n := i) (k := 6) (by simp [overB, hsn])
        have e5 := fil_no hsn
        simp only [decF] at e1
        simp
        refine callW_of kdi (.inl rfl) ?_
        simp
        refine ⟨by omega, indW_of (by decide +kernel), i + 1, by omega, by omega, ?_⟩
        simp [rcE3_eq, mshC_eq, hw, e1, ← e2, ← e3, ← e4, e5]
      · have hT := okF_okT ok
        have kt := rturn_c hC m (fce m i) (okF_inS ok) hT
        simp only [mshC_eq, fceC_eq] at kt
        have e1 := fdR_no (p := badB m) (n := i) (k := 3) (by simp [badB, ok])
        simp
        refine callW_of kt (.inl rfl) ?_
        simp
        refine brB_of (fun d1 => ?_) (fun d1 => ?_) <;> simp at d1 <;> simp [d1]
        · have hfl : flatB m i = true := by simp [flatB, ok, d1]
          have hsn : sndB m i = false := by simp [sndB, ok]; omega
          have e2 := fdR_yes (k := 4) hfl
          have e3 := fdR_no (p := sideB m) (n := i) (k := 5) (by simp [sideB, hsn])
          have e4 := fdR_no (p := overB m) (n := i) (k := 6) (by simp [overB, hsn])
          have e5 := fil_no hsn
          simp only [decF] at e2
          refine callW_of kdi (.inl rfl) ?_
          simp
          refine ⟨by omega, indW_of (by decide +kernel), i + 1, by omega, by omega, ?_⟩
          simp [rcE3_eq, mshC_eq, hw, ← e1, e2, ← e3, ← e4, e5]
        · have hfl : flatB m i = false := by simp [flatB, ok]; omega
          have hsn : sndB m i = true := by simp [sndB, ok, d1]
          have e2 := fdR_no (k := 4) hfl
          have lsn := fil_le (sndB m) i
          have hsd := sideB_any hsn
          have hov := overB_any hsn
          refine loop_of Nat (fun k => rcE4 m i k) (fun k => k ≤ (fil (sndB m) i).length) (fun k => (fil (sndB m) i).length - k) 0 (by simp) (by simp [rcE4_eq, mshC_eq, fceC_eq, anyT_zero]) ?_
          rintro k hk
          simp [rcE4_eq, mshC_eq, fceC_eq]
          refine brB_of (fun g2 => ?_) (fun g2 => ?_) <;> simp at g2 <;> simp [g2]
          · have hw2 : IntKind.wrap .i64 ((k : Int) + 1) = ((k + 1 : Nat) : Int) := wrap_i64 (by omega) (by omega)
            have hq := (fil_lt (List.getElem_mem g2)).2
            simp only [sndB, Bool.and_eq_true] at hq
            have ks := rsame_c hC (fce m i) (fce m (fil (sndB m) i)[k])
            have ko := roverlap_c hC m (fce m i) (fce m (fil (sndB m) i)[k]) (okF_inS ok) hT (okF_inS hq.1) (okF_okT hq.1)
            have a1 := anyT_succ (shP m i) g2
            have a2 := anyT_succ (ovP m i) g2
            rw [show shP m i (fil (sndB m) i)[k] = shareB (fce m i) (fce m (fil (sndB m) i)[k]) from rfl] at a1
            rw [show ovP m i (fil (sndB m) i)[k] = ovT (triF m (fce m i)) (triF m (fce m (fil (sndB m) i)[k])) from rfl] at a2
            simp only [mshC_eq, fceC_eq] at ks ko
            cases h1 : anyT (shP m i) (fil (sndB m) i) k <;> cases h2 : anyT (ovP m i) (fil (sndB m) i) k <;> rw [h1] at a1 <;> rw [h2] at a2 <;> simp at a1 a2
            · simp [fcR_eq, g2, fceC_eq]
              refine callW_of ks (.inl rfl) ?_
              simp
              refine ⟨indW_of (by decide +kernel), ?_⟩
              simp [fcR_eq, g2, fceC_eq]
              refine callW_of ko (.inl rfl) ?_
              simp
              refine ⟨indW_of (by decide +kernel), ?_⟩
              refine ⟨k + 1, by omega, by omega, ?_⟩
              simp [rcE4_eq, mshC_eq, fceC_eq, hw2, a1, a2, fcR_eq]
            · simp [fcR_eq, g2, fceC_eq]
              refine callW_of ks (.inl rfl) ?_
              simp
              refine ⟨indW_of (by decide +kernel), indW_of (by decide +kernel), ?_⟩
              refine ⟨k + 1, by omega, by omega, ?_⟩
              simp [rcE4_eq, mshC_eq, fceC_eq, hw2, a1, a2, fcR_eq]
            · simp
              refine ⟨indW_of (by decide +kernel), ?_⟩
              simp [fcR_eq, g2, fceC_eq]
              refine callW_of ko (.inl rfl) ?_
              simp
              refine ⟨indW_of (by decide +kernel), ?_⟩
              refine ⟨k + 1, by omega, by omega, ?_⟩
              simp [rcE4_eq, mshC_eq, fceC_eq, hw2, a1, a2, fcR_eq]
            · simp
              refine ⟨indW_of (by decide +kernel), indW_of (by decide +kernel), ?_⟩
              refine ⟨k + 1, by omega, by omega, ?_⟩
              simp [rcE4_eq, mshC_eq, fceC_eq, hw2, a1, a2, fcR_eq]
          · have hk2 : k = (fil (sndB m) i).length := by omega
            subst hk2
            rw [anyT_all, anyT_all, ← hsd, ← hov]
            have e5 := fcR_yes hsn
            have e8 : (fil (sndB m) (i + 1)).length = (fil (sndB m) i).length + 1 := by rw [fil_yes hsn]; simp
            simp only [fceC_eq] at e5
            cases h1 : sideB m i
            · have e3 := fdR_no (k := 5) h1
              simp
              cases h2 : overB m i
              · have e4 := fdR_no (k := 6) h2
                simp
                refine ⟨by omega, i + 1, by omega, by omega, ?_⟩
                simp [rcE3_eq, mshC_eq, hw, ← e1, ← e2, ← e3, ← e4, e5, e8]
              · have e4 := fdR_yes (k := 6) h2
                simp only [decF] at e4
                simp
                refine callW_of kdi (.inl rfl) ?_
                simp
                refine ⟨by omega, indW_of (by decide +kernel), ?_⟩
                refine ⟨by omega, i + 1, by omega, by omega, ?_⟩
                simp [rcE3_eq, mshC_eq, hw, ← e1, ← e2, ← e3, e4, e5, e8]
            · have e3 := fdR_yes (k := 5) h1
              simp only [decF] at e3
              simp
              refine callW_of kdi (.inl rfl) ?_
              simp
              refine ⟨by omega, indW_of (by decide +kernel), ?_⟩
              cases h2 : overB m i
              · have e4 := fdR_no (k := 6) h2
                simp
                refine ⟨by omega, i + 1, by omega, by omega, ?_⟩
                simp [rcE3_eq, mshC_eq, hw, ← e1, ← e2, e3, ← e4, e5, e8]
              · have e4 := fdR_yes (k := 6) h2
                simp only [decF] at e4
                simp
                refine callW_of kdi (.inl rfl) ?_
                simp
                refine ⟨by omega, indW_of (by decide +kernel), ?_⟩
                refine ⟨by omega, i + 1, by omega, by omega, ?_⟩
                simp [rcE3_eq, mshC_eq, hw, ← e1, ← e2, e3, e4, e5, e8]
    · have hi2 : i = m.f.length := by omega
      subst hi2
      have bd : ∀ (p : Nat → Bool) (n : Nat), n ≤ 100 → (fil p n).length ≤ 100 := fun p n hn => by have := fil_le p n; omega
      have q1 := bd (farB m) _ hs
      have q2 := bd (sameB m) _ hs
      have q3 := bd (badB m) _ hf
      have q4 := bd (flatB m) _ hf
      have q5 := bd (sideB m) _ hf
      have q6 := bd (overB m) _ hf
      have hLL : LL m = [[], fil (farB m) m.s.length, fil (sameB m) m.s.length, fil (badB m) m.f.length, fil (flatB m) m.f.length, fil (sideB m) m.f.length, fil (overB m) m.f.length] := rfl
      rw [hLL]
      clear hLL bd
      generalize fil (farB m) m.s.length = L1 at *
      generalize fil (sameB m) m.s.length = L2 at *
      generalize fil (badB m) m.f.length = L3 at *
      generalize fil (flatB m) m.f.length = L4 at *
      generalize fil (sideB m) m.f.length = L5 at *
      generalize fil (overB m) m.f.length = L6 at *
      obtain ⟨BK, hBK⟩ : ∃ x : D, x = .blk 1 [[.own 2 []], [.own 2 (fdR 1 L1)], [.own 2 (fdR 2 L2)], [.own 2 (fdR 3 L3)], [.own 2 (fdR 4 L4)], [.own 2 (fdR 5 L5)], [.own 2 (fdR 6 L6)]] := ⟨_, rfl⟩
      obtain ⟨U, hU⟩ : ∃ U : Nat → List (Int × List UInt8), U = fun k => outF decF 0 (([([] : List Nat), L1, L2, L3, L4, L5, L6]).take k) := ⟨_, rfl⟩
      have hU7 : U 7 = outF decF 0 [[], L1, L2, L3, L4, L5, L6] := by rw [hU]; rfl
      have hU0 : U 0 = [] := by rw [hU]; rfl
      have hU0s : U 1 = U 0 ++ fdL 0 ([] : List Nat) := by
        rw [hU]; show outF decF 0 (([([] : List Nat), L1, L2, L3, L4, L5, L6]).take 0 ++ [([] : List Nat)]) = _
        rw [outF_app]; simp [outF, fdL]
      have hU1s : U 2 = U 1 ++ fdL 1 L1 := by
        rw [hU]; show outF decF 0 (([([] : List Nat), L1, L2, L3, L4, L5, L6]).take 1 ++ [L1]) = _
        rw [outF_app]; simp [outF, fdL]
      have hU2s : U 3 = U 2 ++ fdL 2 L2 := by
        rw [hU]; show outF decF 0 (([([] : List Nat), L1, L2, L3, L4, L5, L6]).take 2 ++ [L2]) = _
        rw [outF_app]; simp [outF, fdL]
      have hU3s : U 4 = U 3 ++ fdL 3 L3 := by
        rw [hU]; show outF decF 0 (([([] : List Nat), L1, L2, L3, L4, L5, L6]).take 3 ++ [L3]) = _
        rw [outF_app]; simp [outF, fdL]
      have hU4s : U 5 = U 4 ++ fdL 4 L4 := by
        rw [hU]; show outF decF 0 (([([] : List Nat), L1, L2, L3, L4, L5, L6]).take 4 ++ [L4]) = _
        rw [outF_app]; simp [outF, fdL]
      have hU5s : U 6 = U 5 ++ fdL 5 L5 := by
        rw [hU]; show outF decF 0 (([([] : List Nat), L1, L2, L3, L4, L5, L6]).take 5 ++ [L5]) = _
        rw [outF_app]; simp [outF, fdL]
      have hU6s : U 7 = U 6 ++ fdL 6 L6 := by
        rw [hU]; show outF decF 0 (([([] : List Nat), L1, L2, L3, L4, L5, L6]).take 6 ++ [L6]) = _
        rw [outF_app]; simp [outF, fdL]
      have lU0 : (U 0).length ≤ 0 := by rw [hU0]; simp
      have lU1 : (U 1).length ≤ 100 := by rw [hU0s]; simp; omega
      have lU2 : (U 2).length ≤ 200 := by rw [hU1s]; simp; omega
      have lU3 : (U 3).length ≤ 300 := by rw [hU2s]; simp; omega
      have lU4 : (U 4).length ≤ 400 := by rw [hU3s]; simp; omega
      have lU5 : (U 5).length ≤ 500 := by rw [hU4s]; simp; omega
      have lU6 : (U 6).length ≤ 600 := by rw [hU5s]; simp; omega
      rw [← hU7]
      refine loop_of Nat (fun k => [(3, .ref (.r 10048) 0 7), (10048, BK), (13, .ref (.r 10208) 0 (U k).length), (10208, .blk 2 (fnR (U k))), (14, .int .i64 k)]) (fun k => k ≤ 7) (fun k => 7 - k) 0 (by simp) (by simp [hU0, hBK]) ?_
      rintro k hk
      rcases (by omega : k = 0 ∨ k = 1 ∨ k = 2 ∨ k = 3 ∨ k = 4 ∨ k = 5 ∨ k = 6 ∨ k = 7) with rfl | rfl | rfl | rfl | rfl | rfl | rfl | rfl
      · have e : fnR (U 0) ++ fdR 0 ([] : List Nat) = fnR (U 1) := by rw [hU0s]; simp [fnR, fdR]
        have e' : (U 1).length = (U 0).length + (([] : List Nat)).length := by rw [hU0s]; simp
        simp [hBK]
        refine ⟨by omega, 1, by omega, by omega, ?_, ?_, by decide⟩
        · simpa using e'.symm
        · simpa using e
      · have e : fnR (U 1) ++ fdR 1 L1 = fnR (U 2) := by rw [hU1s]; simp [fnR, fdR]
        have e' : (U 2).length = (U 1).length + (L1).length := by rw [hU1s]; simp
        simp [hBK]
        refine ⟨by omega, 2, by omega, by omega, ?_, ?_, by decide⟩
        · simpa using e'.symm
        · simpa using e
      · have e : fnR (U 2) ++ fdR 2 L2 = fnR (U 3) := by rw [hU2s]; simp [fnR, fdR]
        have e' : (U 3).length = (U 2).length + (L2).length := by rw [hU2s]; simp
        simp [hBK]
        refine ⟨by omega, 3, by omega, by omega, ?_, ?_, by decide⟩
        · simpa using e'.symm
        · simpa using e
      · have e : fnR (U 3) ++ fdR 3 L3 = fnR (U 4) := by rw [hU3s]; simp [fnR, fdR]
        have e' : (U 4).length = (U 3).length + (L3).length := by rw [hU3s]; simp
        simp [hBK]
        refine ⟨by omega, 4, by omega, by omega, ?_, ?_, by decide⟩
        · simpa using e'.symm
        · simpa using e
      · have e : fnR (U 4) ++ fdR 4 L4 = fnR (U 5) := by rw [hU4s]; simp [fnR, fdR]
        have e' : (U 5).length = (U 4).length + (L4).length := by rw [hU4s]; simp
        simp [hBK]
        refine ⟨by omega, 5, by omega, by omega, ?_, ?_, by decide⟩
        · simpa using e'.symm
        · simpa using e
      · have e : fnR (U 5) ++ fdR 5 L5 = fnR (U 6) := by rw [hU5s]; simp [fnR, fdR]
        have e' : (U 6).length = (U 5).length + (L5).length := by rw [hU5s]; simp
        simp [hBK]
        refine ⟨by omega, 6, by omega, by omega, ?_, ?_, by decide⟩
        · simpa using e'.symm
        · simpa using e
      · have e : fnR (U 6) ++ fdR 6 L6 = fnR (U 7) := by rw [hU6s]; simp [fnR, fdR]
        have e' : (U 7).length = (U 6).length + (L6).length := by rw [hU6s]; simp
        simp [hBK]
        refine ⟨by omega, 7, by omega, by omega, ?_, ?_, by decide⟩
        · simpa using e'.symm
        · simpa using e
      · simp [hBK]
        rfl
end Go.Gv

set_option linter.unusedSimpArgs false
namespace Go.Gv
open Go.Lib
theorem maskN (a : Nat) (ha : a < 18446744073709551616) : bits .and .u64 (a : Int) 4294967295 = ((a % 4294967296 : Nat) : Int) := by
  have h := bits_and_u64_nat a 4294967295 ha (by omega)
  have e : a &&& 4294967295 = a % 4294967296 := Nat.and_two_pow_sub_one_eq_mod a 32
  rw [e] at h
  exact h
theorem shrN (a k : Nat) : Int.fdiv (a : Int) (2 ^ k) = ((a / 2 ^ k : Nat) : Int) := by
  rw [Int.fdiv_eq_ediv_of_nonneg _ (by exact Int.pow_nonneg (by omega))]
  norm_cast
theorem shr32 (a : Nat) : Int.fdiv (a : Int) (2 ^ min 32 IntKind.u64.bits) = ((a / 4294967296 : Nat) : Int) := shrN a 32
theorem mulN (a b : Nat) : (a : Int) * (b : Int) = ((a * b : Nat) : Int) := (Int.natCast_mul a b).symm
theorem addN (a b : Nat) : (a : Int) + (b : Int) = ((a + b : Nat) : Int) := (Int.natCast_add a b).symm
theorem wrapN (a : Nat) (ha : a < 18446744073709551616) : IntKind.u64.wrap (a : Int) = (a : Int) := by
  have e1 : IntKind.u64.signed = false := rfl
  have e3 : (2 ^ IntKind.u64.bits : Int) = 18446744073709551616 := rfl
  unfold IntKind.wrap
  simp only [e1, e3, Bool.false_and]
  simp
  omega
theorem wrapM (a : Nat) : IntKind.u64.wrap (a : Int) = ((a % 18446744073709551616 : Nat) : Int) := by
  have e1 : IntKind.u64.signed = false := rfl
  have e3 : (2 ^ IntKind.u64.bits : Int) = 18446744073709551616 := rfl
  unfold IntKind.wrap
  simp only [e1, e3, Bool.false_and]
  simp
variable {C : CC} (hC : Closed prog C)
include hC
theorem Mul64_c (x y : Nat) (hx : x < 18446744073709551616) (hy : y < 18446744073709551616) : C 91 [.int .u64 x, .int .u64 y] (.tup [.int .u64 ((x * y / 18446744073709551616 : Nat) : Int), .int .u64 ((x * y % 18446744073709551616 : Nat) : Int)]) [] := by
  refine start hC (nf := N91_math_bits_Mul64) rfl rfl ?_
  obtain ⟨bd, bt, bw, hhi⟩ := Lib.mul64_hi x y hx hy
  have ba := Lib.half_mul_le (a := x / 4294967296) (b := y / 4294967296) (by omega) (by omega)
  have bb := Lib.half_mul_le (a := x / 4294967296) (b := y % 4294967296) (by omega) (by omega)
  have bc := Lib.half_mul_le (a := x % 4294967296) (b := y / 4294967296) (by omega) (by omega)
  have ba' : x / 4294967296 * (y / 4294967296) < 18446744073709551616 := by omega
  have bb' : x / 4294967296 * (y % 4294967296) < 18446744073709551616 := by omega
  have bc' : x % 4294967296 * (y / 4294967296) < 18446744073709551616 := by omega
  have bh1 : x / 4294967296 * (y / 4294967296) + (x / 4294967296 * (y % 4294967296) + x % 4294967296 * (y % 4294967296) / 4294967296) / 4294967296 < 18446744073709551616 := by omega
  have bh : x / 4294967296 * (y / 4294967296) + (x / 4294967296 * (y % 4294967296) + x % 4294967296 * (y % 4294967296) / 4294967296) / 4294967296 + ((x / 4294967296 * (y % 4294967296) + x % 4294967296 * (y % 4294967296) / 4294967296) % 4294967296 + x % 4294967296 * (y / 4294967296)) / 4294967296 < 18446744073709551616 := by omega
  simp [N91_math_bits_Mul64]
  simp only [maskN x hx, maskN y hy, shr32, mulN, addN, wrapN _ bd, wrapN _ bb', wrapN _ bt, maskN _ bt, wrapN _ bc', wrapN _ bw, wrapN _ ba', wrapN _ bh1, wrapN _ bh, wrapM (x * y)]
  rw [hhi]
  exact ⟨by omega, by omega⟩
end Go.Gv

set_option linter.unusedSimpArgs false
namespace Go.Gv
theorem shr16 (a : Nat) : Int.fdiv (a : Int) (2 ^ min 16 IntKind.u64.bits) = ((a / 65536 : Nat) : Int) := shrN a 16
theorem shr8 (a : Nat) : Int.fdiv (a : Int) (2 ^ min 8 IntKind.u64.bits) = ((a / 256 : Nat) : Int) := shrN a 8
theorem wrap8 (a : Nat) (h : a < 256) : IntKind.u8.wrap (a : Int) = (a : Int) := by
  have e1 : IntKind.u8.signed = false := rfl
  have e3 : (2 ^ IntKind.u8.bits : Int) = 256 := rfl
  unfold IntKind.wrap
  simp only [e1, e3, Bool.false_and]
  simp
  omega
theorem len8t_spec : S1.length = 256 ∧ ∀ n : Fin 256, S1[n.val]?.getD 0 = UInt8.ofNat (bitLen n.val) ∧ bitLen n.val ≤ 8 := by decide +kernel
theorem len8_fin {x n z : Nat} {m : Int} (hz : z < 256) (hm : m = n) (hn : n ≤ 56) (h : n + bitLen z = bitLen x) : 0 ≤ IntKind.u8.wrap (z : Int) ∧ (IntKind.u8.wrap (z : Int)).toNat < S1.length ∧ IntKind.i64.wrap (m + IntKind.i64.wrap ↑(S1[(IntKind.u8.wrap (z : Int)).toNat]?.getD default).toNat) = (bitLen x : Int) := by
  rw [wrap8 z hz]
  obtain ⟨h1, h2⟩ := len8t_spec
  obtain ⟨h3, h4⟩ := h2 ⟨z, hz⟩
  have e : (S1[(z : Int).toNat]?.getD default).toNat = bitLen z := by
    show (S1[z]?.getD 0).toNat = bitLen z
    simp only at h3 h4
    rw [h3, UInt8.toNat_ofNat']
    omega
  simp only at h4
  rw [e]
  have e2 : IntKind.i64.wrap (bitLen z : Int) = (bitLen z : Int) := wrap_i64 rfl (by omega)
  refine ⟨by omega, by omega, ?_⟩
  rw [e2, hm]
  exact wrap_i64 (by omega) (by omega)
variable {C : CC} (hC : Closed prog C)
include hC
theorem Len64_c (x : Nat) (hx : x < 18446744073709551616) : C 111 [.int .u64 x] (.int .i64 (bitLen x)) [] := by
  refine start hC (nf := N111_math_bits_Len64) rfl rfl ?_
  have key : ∀ (b z : Nat), 2 ^ b ≤ z → bitLen z = b + bitLen (z / 2 ^ b) := fun b z h => bitLen_shift z b (by
    have := Nat.div_pos h (Nat.two_pow_pos b)
    omega)
  simp [N111_math_bits_Len64]
  refine brB_of (fun h1 => ?_) (fun h1 => ?_) <;> simp at h1
  · obtain ⟨y, hy⟩ : ∃ y : Nat, y = x / 4294967296 := ⟨_, rfl⟩
    have e1 : Int.fdiv (x : Int) (2 ^ min 32 IntKind.u64.bits) = (y : Int) := by rw [shr32, hy]
    have k1 := key 32 x (by omega)
    simp [e1]
    refine brB_of (fun h2 => ?_) (fun h2 => ?_) <;> simp at h2
    · obtain ⟨z, hz⟩ : ∃ z : Nat, z = y / 65536 := ⟨_, rfl⟩
      have e2 : Int.fdiv (y : Int) (2 ^ min 16 IntKind.u64.bits) = (z : Int) := by rw [shr16, hz]
      have k2 := key 16 y (by omega)
      simp [e2]
      refine brB_of (fun h3 => ?_) (fun h3 => ?_) <;> simp at h3
      · obtain ⟨v, hv⟩ : ∃ v : Nat, v = z / 256 := ⟨_, rfl⟩
        have e3 : Int.fdiv (z : Int) (2 ^ min 8 IntKind.u64.bits) = (v : Int) := by rw [shr8, hv]
        have k3 := key 8 z (by omega)
        simp [e3]
        refine len8_fin (n := 56) (by omega) ?_ (by omega) ?_
        · decide
        · simp only [Nat.reducePow] at k1 k2 k3
          rw [← hy] at k1; rw [← hz] at k2; rw [← hv] at k3; omega
      · simp
        refine len8_fin (n := 48) (by omega) ?_ (by omega) ?_
        · decide
        · simp only [Nat.reducePow] at k1 k2
          rw [← hy] at k1; rw [← hz] at k2; omega
    · simp
      refine brB_of (fun h3 => ?_) (fun h3 => ?_) <;> simp at h3
      · obtain ⟨v, hv⟩ : ∃ v : Nat, v = y / 256 := ⟨_, rfl⟩
        have e3 : Int.fdiv (y : Int) (2 ^ min 8 IntKind.u64.bits) = (v : Int) := by rw [shr8, hv]
        have k3 := key 8 y (by omega)
        simp [e3]
        refine len8_fin (n := 40) (by omega) ?_ (by omega) ?_
        · decide
        · simp only [Nat.reducePow] at k1 k3
          rw [← hy] at k1; rw [← hv] at k3; omega
      · simp
        refine len8_fin (n := 32) (by omega) ?_ (by omega) ?_
        · decide
        · simp only [Nat.reducePow] at k1
          rw [← hy] at k1; omega
  · simp
    refine brB_of (fun h2 => ?_) (fun h2 => ?_) <;> simp at h2
    · obtain ⟨z, hz⟩ : ∃ z : Nat, z = x / 65536 := ⟨_, rfl⟩
      have e2 : Int.fdiv (x : Int) (2 ^ min 16 IntKind.u64.bits) = (z : Int) := by rw [shr16, hz]
      have k2 := key 16 x (by omega)
      simp [e2]
      refine brB_of (fun h3 => ?_) (fun h3 => ?_) <;> simp at h3
      · obtain ⟨v, hv⟩ : ∃ v : Nat, v = z / 256 := ⟨_, rfl⟩
        have e3 : Int.fdiv (z : Int) (2 ^ min 8 IntKind.u64.bits) = (v : Int) := by rw [shr8, hv]
        have k3 := key 8 z (by omega)
        simp [e3]
        refine len8_fin (n := 24) (by omega) ?_ (by omega) ?_
        · decide
        · simp only [Nat.reducePow] at k2 k3
          rw [← hz] at k2; rw [← hv] at k3; omega
      · simp
        refine len8_fin (n := 16) (by omega) ?_ (by omega) ?_
        · decide
        · simp only [Nat.reducePow] at k2
          rw [← hz] at k2; omega
    · simp
      refine brB_of (fun h3 => ?_) (fun h3 => ?_) <;> simp at h3
      · obtain ⟨v, hv⟩ : ∃ v : Nat, v = x / 256 := ⟨_, rfl⟩
        have e3 : Int.fdiv (x : Int) (2 ^ min 8 IntKind.u64.bits) = (v : Int) := by rw [shr8, hv]
        have k3 := key 8 x (by omega)
        simp [e3]
        refine len8_fin (n := 8) (by omega) ?_ (by omega) ?_
        · decide
        · simp only [Nat.reducePow] at k3
          rw [← hv] at k3; omega
      · simp
        have := len8_fin (x := x) (n := 0) (m := 0) (z := x) (by omega) rfl (by omega) (by omega)
        simpa using this
end Go.Gv

namespace Go.Gv
structure DvI (u d a b q r : Nat) : Prop where
  sum : q * a + r = u
  ge : (u * 4294967296 + d) / (a * 4294967296 + b) ≤ q
  rlt : r < 4294967296
  qle : q ≤ 4294967297
section
variable {u d a b q r : Nat}
theorem Dv.mul (h : q * a + r = u) : q * (a * 4294967296 + b) + r * 4294967296 = u * 4294967296 + q * b := by
  subst h
  rw [Nat.mul_add, ← Nat.mul_assoc, Nat.add_mul]
  omega
theorem Dv.lt (_ : 0 < a) (hu : u < a * 4294967296 + b) (hd : d < 4294967296) : (u * 4294967296 + d) / (a * 4294967296 + b) < 4294967296 := by
  rw [Nat.div_lt_iff_lt_mul (by omega)]
  have : (u + 1) * 4294967296 ≤ (a * 4294967296 + b) * 4294967296 := Nat.mul_le_mul_right _ hu
  omega
theorem DvI.first (ha : 2147483648 ≤ a) (ha2 : a < 4294967296) (hb : b < 4294967296) (hu : u < a * 4294967296 + b) (hd : d < 4294967296) : DvI u d a b (u / a) (u % a) where
  sum := by rw [Nat.mul_comm]; exact Nat.div_add_mod u a
  rlt := by have := Nat.mod_lt u (show 0 < a by omega); omega
  ge := by
    rw [Nat.le_div_iff_mul_le (by omega)]
    have h := Nat.div_mul_le_self (u * 4294967296 + d) (a * 4294967296 + b)
    generalize (u * 4294967296 + d) / (a * 4294967296 + b) = Q at *
    rw [Nat.mul_add, ← Nat.mul_assoc] at h
    generalize Q * b = z at *
    generalize Q * a = x at *
    omega
  qle := by
    have : u / a < 4294967298 := by
      rw [Nat.div_lt_iff_lt_mul (by omega)]
      omega
    omega
theorem DvI.more (h : DvI u d a b q r) (ha : 0 < a) (hu : u < a * 4294967296 + b) (hd : d < 4294967296) (hc : 4294967296 ≤ q ∨ 4294967296 * r + d < q * b) : (u * 4294967296 + d) / (a * 4294967296 + b) + 1 ≤ q := by
  rcases hc with hc | hc
  · have := Dv.lt (d := d) ha hu hd
    omega
  · have h1 := Dv.mul (b := b) h.sum
    have : (u * 4294967296 + d) / (a * 4294967296 + b) < q := by
      rw [Nat.div_lt_iff_lt_mul (by omega)]
      generalize q * (a * 4294967296 + b) = z at *
      generalize q * b = x at *
      omega
    omega
theorem DvI.done (h : DvI u d a b q r) (ha : 0 < a) (hc : q * b ≤ 4294967296 * r + d) : q = (u * 4294967296 + d) / (a * 4294967296 + b) := by
  have h1 := Dv.mul (b := b) h.sum
  have h2 := h.ge
  have : q ≤ (u * 4294967296 + d) / (a * 4294967296 + b) := by
    rw [Nat.le_div_iff_mul_le (by omega)]
    generalize q * (a * 4294967296 + b) = z at *
    generalize q * b = x at *
    omega
  omega
theorem DvI.next (h : DvI u d a b q r) (ha : 0 < a) (hu : u < a * 4294967296 + b) (hd : d < 4294967296) (hc : 4294967296 ≤ q ∨ 4294967296 * r + d < q * b) :
    1 ≤ q ∧ (q - 1) * a + (r + a) = u ∧ (u * 4294967296 + d) / (a * 4294967296 + b) ≤ q - 1 ∧ q - 1 ≤ 4294967296 := by
  have h1 := h.more ha hu hd hc
  have h2 := h.qle
  have h3 := h.sum
  generalize (u * 4294967296 + d) / (a * 4294967296 + b) = Q at *
  obtain ⟨q', rfl⟩ : ∃ q', q = q' + 1 := ⟨q - 1, by omega⟩
  refine ⟨by omega, ?_, by omega, by omega⟩
  rw [Nat.add_mul] at h3
  simp only [Nat.add_sub_cancel]
  omega
end
end Go.Gv

set_option linter.unusedSimpArgs false
namespace Go.Gv
theorem wrapU (a : Int) : IntKind.u64.wrap a = a % 18446744073709551616 := by
  have e1 : IntKind.u64.signed = false := rfl
  have e3 : (2 ^ IntKind.u64.bits : Int) = 18446744073709551616 := rfl
  unfold IntKind.wrap
  simp only [e1, e3, Bool.false_and]
  simp
theorem orN (a b i : Nat) (hb : b < 2 ^ i) (h : a * 2 ^ i + b < 18446744073709551616) : bits .or .u64 ((a * 2 ^ i : Nat) : Int) (b : Int) = ((a * 2 ^ i + b : Nat) : Int) := by
  rw [bits_or_u64_nat _ _ (by omega) (by omega), Nat.mul_comm a, Nat.two_pow_add_eq_or_of_lt hb]
variable {C : CC} (hC : Closed prog C)
include hC
end Go.Gv

set_option linter.unusedSimpArgs false
namespace Go.Gv
def wideD (n : Nat) : D := .agg [.int .u64 ((n / 18446744073709551616 : Nat) : Int), .int .u64 ((n % 18446744073709551616 : Nat) : Int)]
def rootF (x : Nat) : Nat → Nat → Nat
  | 0, r => r
  | i + 1, r => rootF x i (if (r + 2 ^ i) * (r + 2 ^ i) ≤ x then r + 2 ^ i else r)
def rootN (x : Nat) : Nat := rootF x 63 0
variable {C : CC} (hC : Closed prog C)
include hC
end Go.Gv

set_option linter.unusedSimpArgs false
namespace Go.Gv
open Go.Lib
theorem shlN (a k m : Nat) (hm : m = a * 2 ^ k % 18446744073709551616) : IntKind.u64.wrap ((a : Int) * 2 ^ k) = (m : Int) := by
  have e : (a : Int) * 2 ^ k = ((a * 2 ^ k : Nat) : Int) := by push_cast; rfl
  rw [e, wrapM, hm]
theorem shl32 (a m : Nat) (hm : m = a * 4294967296 % 18446744073709551616) : IntKind.u64.wrap ((a : Int) * 2 ^ min 32 IntKind.u64.bits) = (m : Int) := shlN a 32 m hm
theorem uw {n : Int} {m : Nat} (h : n = m ∨ n = m + 18446744073709551616 ∨ n = m - 18446744073709551616) (hm : m < 18446744073709551616) : IntKind.u64.wrap n = (m : Int) := by
  rw [wrapU]; omega
end Go.Gv

set_option linter.unusedSimpArgs false
namespace Go.Gv
open Go.Lib
theorem shl4 (a m : Nat) (hm : m = a * 16 % 18446744073709551616) : IntKind.u64.wrap ((a : Int) * 2 ^ min 4 IntKind.u64.bits) = (m : Int) := shlN a 4 m hm
theorem shr60 (a : Nat) : Int.fdiv (a : Int) (2 ^ min 60 IntKind.u64.bits) = ((a / 1152921504606846976 : Nat) : Int) := shrN a 60
theorem mask60 (a : Nat) (ha : a < 18446744073709551616) : bits .and .u64 (a : Int) 1152921504606846975 = ((a % 1152921504606846976 : Nat) : Int) := by
  have h := bits_and_u64_nat a 1152921504606846975 ha (by omega)
  have e : a &&& 1152921504606846975 = a % 1152921504606846976 := Nat.and_two_pow_sub_one_eq_mod a 60
  rw [e] at h
  exact h
theorem or16 (a b : Nat) (hb : b < 16) (h : a * 16 + b < 18446744073709551616) : bits .or .u64 ((a * 16 : Nat) : Int) (b : Int) = ((a * 16 + b : Nat) : Int) := orN a b 4 hb h
def numD (p : Nat) (neg : Bool) : D := .agg [.int .u64 ((p / 18446744073709551616 : Nat) : Int), .int .u64 ((p % 18446744073709551616 : Nat) : Int), .bool neg]
def wiD (p : Nat) : D := .agg [.int .i64 ((p / 1152921504606846976 : Nat) : Int), .int .i64 ((p % 1152921504606846976 : Nat) : Int)]
variable {C : CC} (hC : Closed prog C)
include hC
theorem wsize_c (n : Nat) (h : n < 9223372036854775808) : C 112 [.int .i64 n] (.int .u64 (n : Int)) [] := by
  refine start hC (nf := N112_wide_size) rfl rfl ?_
  have h0 : ¬ (n : Int) < 0 := by omega
  simp [N112_wide_size, h0, wrapN n (by omega)]
theorem signed_c (a b : Int) (n : Bool) : C 113 [.int .u64 a, .int .u64 b, .bool n] (.agg [.int .u64 a, .int .u64 b, .bool (n && (!decide (a = 0) || !decide (b = 0)))]) [] := by
  refine start hC (nf := N113_wide_signed) rfl rfl ?_
  simp [N113_wide_signed]
  cases n <;> simp
  by_cases h : a = 0 <;> simp [h]
theorem wtimes_c (x y : Nat) (hx : x < 9223372036854775808) (hy : y < 9223372036854775808) : C 103 [.int .i64 x, .int .i64 y] (numD (x * y) false) [] := by
  refine start hC (nf := N103_wide_times) rfl rfl ?_
  have h0 : ¬ (x : Int) < 0 := by omega
  have h1 : ¬ (y : Int) < 0 := by omega
  have hm := Mul64_c hC x y (by omega) (by omega)
  rw [numD]
  obtain ⟨zh, hzh⟩ : ∃ zh, zh = x * y / 18446744073709551616 := ⟨_, rfl⟩
  obtain ⟨zl, hzl⟩ : ∃ zl, zl = x * y % 18446744073709551616 := ⟨_, rfl⟩
  rw [← hzh, ← hzl] at hm ⊢
  simp [N103_wide_times]
  refine callW_of (wsize_c hC x hx) (.inl rfl) ?_
  simp
  refine callW_of (wsize_c hC y hy) (.inl rfl) ?_
  simp
  refine callW_of hm (.inl rfl) ?_
  simp [h0, h1]
  refine callW_of (signed_c hC zh zl false) (.inl rfl) ?_
  simp
end Go.Gv

set_option linter.unusedSimpArgs false
namespace Go.Gv
open Go.Lib
variable {C : CC} (hC : Closed prog C)
include hC
theorem wvalid_c (p : Nat) (h : p < 1329227995784915872903807060280344576) : C 106 [wiD p] (.bool true) [] := by
  obtain ⟨ph, hph⟩ : ∃ z, z = p / 1152921504606846976 := ⟨_, rfl⟩
  obtain ⟨pl, hpl⟩ : ∃ z, z = p % 1152921504606846976 := ⟨_, rfl⟩
  rw [wiD, ← hph, ← hpl]
  have h1 : (-1152921504606846976 : Int) ≤ ph := by omega
  have h2 : (ph : Int) < 1152921504606846976 := by omega
  have h3 : (0 : Int) ≤ pl := by omega
  have h4 : (pl : Int) < 1152921504606846976 := by omega
  refine start hC (nf := N106_wide_Valid) rfl rfl ?_
  simp [N106_wide_Valid, h1, h2, h3, h4]
theorem placed_c (p : Nat) (h : p < 1329227995784915872903807060280344576) : C 105 [numD p false] (.tup [wiD p, .int .i64 0]) [] := by
  obtain ⟨ph, hph⟩ : ∃ z, z = p / 1152921504606846976 := ⟨_, rfl⟩
  obtain ⟨pl, hpl⟩ : ∃ z, z = p % 1152921504606846976 := ⟨_, rfl⟩
  obtain ⟨zh, hzh⟩ : ∃ z, z = p / 18446744073709551616 := ⟨_, rfl⟩
  obtain ⟨zl, hzl⟩ : ∃ z, z = p % 18446744073709551616 := ⟨_, rfl⟩
  rw [wiD, numD, ← hph, ← hpl, ← hzh, ← hzl]
  obtain ⟨zt, hzt⟩ : ∃ z, z = zl / 1152921504606846976 := ⟨_, rfl⟩
  have h1 : ¬ (72057594037927936 : Int) < zh := by omega
  have h2 : ¬ (zh : Int) = 72057594037927936 := by omega
  have e1 := shl4 zh (zh * 16) (by omega)
  have e2 := shr60 zl
  rw [← hzt] at e2
  have e3 := or16 zh zt (by omega) (by omega)
  have e4 : IntKind.i64.wrap ((zh * 16 + zt : Nat) : Int) = (ph : Int) := wrap_i64 (by omega) (by omega)
  have e5 := mask60 zl (by omega)
  have e6 : IntKind.i64.wrap ((zl % 1152921504606846976 : Nat) : Int) = (pl : Int) := wrap_i64 (by omega) (by omega)
  refine start hC (nf := N105_wide_placed) rfl rfl ?_
  simp [N105_wide_placed, h1, h2, e2, -Int.natCast_mul, -Int.natCast_emod]
  refine ⟨indW_of (by decide +kernel), ?_⟩
  rw [e1, e3, e4, e5, e6]
  simp
end Go.Gv

set_option linter.unusedSimpArgs false
namespace Go.Gv
theorem numD_ex (p : Nat) : ∃ a b : Int, numD p false = .agg [.int .u64 a, .int .u64 b, .bool false] := ⟨_, _, rfl⟩
theorem wiD_ex (p : Nat) : ∃ a b : Int, wiD p = .agg [.int .i64 a, .int .i64 b] := ⟨_, _, rfl⟩
variable {C : CC} (hC : Closed prog C)
include hC
theorem Product_c (x y : Nat) (hx : x < 9223372036854775808) (hy : y < 9223372036854775808) (h : x * y < 1329227995784915872903807060280344576) : C 99 [.int .i64 x, .int .i64 y] (.tup [wiD (x * y), .int .i64 0]) [] := by
  have k1 := wtimes_c hC x y hx hy
  have k2 := placed_c hC (x * y) h
  obtain ⟨a, b, e1⟩ := numD_ex (x * y)
  obtain ⟨c, d, e2⟩ := wiD_ex (x * y)
  rw [e1] at k1 k2
  rw [e2] at k2 ⊢
  refine start hC (nf := N99_wide_Product) rfl rfl ?_
  simp [N99_wide_Product]
  refine callW_of k1 (.inl rfl) ?_
  simp
  refine callW_of k2 (.inr rfl) ?_
  simp
end Go.Gv

set_option linter.unusedSimpArgs false
namespace Go.Gv
def cmp3 (x y : Int) : Int := if x < y then -1 else if y < x then 1 else 0
theorem cmp3_wide (p r : Nat) : (if cmp3 ((p / 1152921504606846976 : Nat) : Int) ((r / 1152921504606846976 : Nat) : Int) ≠ 0 then cmp3 ((p / 1152921504606846976 : Nat) : Int) ((r / 1152921504606846976 : Nat) : Int) else cmp3 ((p % 1152921504606846976 : Nat) : Int) ((r % 1152921504606846976 : Nat) : Int)) = cmp3 p r := by
  unfold cmp3
  have h1 := Nat.div_add_mod p 1152921504606846976
  have h2 := Nat.div_add_mod r 1152921504606846976
  have h3 := Nat.mod_lt p (show 0 < 1152921504606846976 by decide)
  have h4 := Nat.mod_lt r (show 0 < 1152921504606846976 by decide)
  obtain ⟨a, ha⟩ : ∃ a, a = p / 1152921504606846976 := ⟨_, rfl⟩
  obtain ⟨b, hb⟩ : ∃ b, b = r / 1152921504606846976 := ⟨_, rfl⟩
  obtain ⟨c, hc⟩ : ∃ c, c = p % 1152921504606846976 := ⟨_, rfl⟩
  obtain ⟨d, hd⟩ : ∃ d, d = r % 1152921504606846976 := ⟨_, rfl⟩
  rw [← ha, ← hb, ← hc, ← hd]
  rw [← ha, ← hc] at h1
  rw [← hb, ← hd] at h2
  rw [← hc] at h3
  rw [← hd] at h4
  clear ha hb hc hd
  by_cases e1 : a < b
  · have : (a : Int) < b := by omega
    rw [if_pos this, if_pos (by decide), if_pos (by omega)]
  · by_cases e2 : b < a
    · have h5 : (b : Int) < a := by omega
      rw [if_neg (show ¬ (a : Int) < b by omega), if_pos h5, if_pos (by decide), if_neg (by omega), if_pos (by omega)]
    · have : a = b := by omega
      subst this
      have z : (if (a : Int) < a then (-1 : Int) else if (a : Int) < a then 1 else 0) = 0 := by simp
      rw [z, if_neg (show ¬ (0 : Int) ≠ 0 by decide)]
      by_cases e3 : c < d
      · rw [if_pos (show (c : Int) < d by omega), if_pos (by omega)]
      · rw [if_neg (show ¬ (c : Int) < d by omega)]
        by_cases e4 : d < c
        · rw [if_pos (show (d : Int) < c by omega), if_neg (by omega), if_pos (by omega)]
        · rw [if_neg (show ¬ (d : Int) < c by omega), if_neg (by omega), if_neg (by omega)]
variable {C : CC} (hC : Closed prog C)
include hC
theorem isNaN_c (x : Int) : C 299 [.int .i64 x] (.bool false) [] := by
  refine start hC (nf := N299_cmp_isNaN_int) rfl rfl ?_
  simp [N299_cmp_isNaN_int]
theorem compare_c (x y : Int) : C 267 [.int .i64 x, .int .i64 y] (.int .i64 (cmp3 x y)) [] := by
  have k1 := isNaN_c hC x
  have k2 := isNaN_c hC y
  refine start hC (nf := N267_cmp_Compare_int) rfl rfl ?_
  simp [N267_cmp_Compare_int]
  refine callW_of k1 (.inl rfl) ?_
  simp
  refine callW_of k2 (.inl rfl) ?_
  simp
  refine brB_of (fun c1 => ?_) (fun c1 => ?_) <;> simp at c1 <;> simp [c1]
  · rw [cmp3, if_pos c1]
  · refine brB_of (fun c2 => ?_) (fun c2 => ?_) <;> simp at c2 <;> simp [c2]
    · rw [cmp3, if_neg (by omega), if_pos c2]
    · rw [cmp3, if_neg (by omega), if_neg (by omega)]
theorem cmpOr_c (a b : Int) : C 266 [.sl [[.int .i64 a], [.int .i64 b]]] (.int .i64 (if a ≠ 0 then a else b)) [] := by
  have w1 : IntKind.wrap .i64 1 = 1 := by decide
  have w2 : IntKind.wrap .i64 2 = 2 := by decide
  refine start hC (nf := N266_cmp_Or_int) rfl rfl ?_
  simp [N266_cmp_Or_int]
  refine loop_of Nat (fun i => [(3, .int .i64 0), (6, .sl [[.int .i64 a], [.int .i64 b]]), (7, .int .i64 2), (8, .int .i64 i)]) (fun i => i ≤ 2 ∧ (1 ≤ i → a = 0) ∧ (2 ≤ i → b = 0)) (fun i => 2 - i) 0 (by simp) (by simp) ?_
  rintro i ⟨hi, s1, s2⟩
  rcases (by omega : i = 0 ∨ i = 1 ∨ i = 2) with rfl | rfl | rfl
  · by_cases h : a = 0
    · simp [h, w1]
      refine ⟨1, ?_⟩
      simp [h]
    · simp [h]
  · have ha := s1 (by omega)
    by_cases h : b = 0
    · simp [h, ha, w2]
      refine ⟨2, ?_⟩
      simp [h, ha]
    · simp [h, ha]
  · simp [s1 (by omega), s2 (by omega)]
theorem Cmp_c (p r : Nat) (hp : p < 1329227995784915872903807060280344576) (hr : r < 1329227995784915872903807060280344576) : C 225 [wiD p, wiD r] (.tup [.int .i64 (cmp3 p r), .int .i64 0]) [] := by
  have k1 := wvalid_c hC p hp
  have k2 := wvalid_c hC r hr
  have k3 := compare_c hC ((p / 1152921504606846976 : Nat) : Int) ((r / 1152921504606846976 : Nat) : Int)
  have k4 := compare_c hC ((p % 1152921504606846976 : Nat) : Int) ((r % 1152921504606846976 : Nat) : Int)
  have k5 := cmpOr_c hC (cmp3 ((p / 1152921504606846976 : Nat) : Int) ((r / 1152921504606846976 : Nat) : Int)) (cmp3 ((p % 1152921504606846976 : Nat) : Int) ((r % 1152921504606846976 : Nat) : Int))
  rw [cmp3_wide] at k5
  rw [wiD] at k1 k2 ⊢
  rw [wiD]
  obtain ⟨a, ha⟩ : ∃ a : Int, a = ((p / 1152921504606846976 : Nat) : Int) := ⟨_, rfl⟩
  obtain ⟨b, hb⟩ : ∃ b : Int, b = ((r / 1152921504606846976 : Nat) : Int) := ⟨_, rfl⟩
  obtain ⟨c, hc⟩ : ∃ c : Int, c = ((p % 1152921504606846976 : Nat) : Int) := ⟨_, rfl⟩
  obtain ⟨d, hd⟩ : ∃ d : Int, d = ((r % 1152921504606846976 : Nat) : Int) := ⟨_, rfl⟩
  rw [← ha, ← hc] at k1 ⊢
  rw [← hb, ← hd] at k2 ⊢
  rw [← ha, ← hb] at k3 k5
  rw [← hc, ← hd] at k4 k5
  refine start hC (nf := N225_wide_Cmp) rfl rfl ?_
  simp [N225_wide_Cmp]
  refine callW_of k1 (.inl rfl) ?_
  simp
  refine callW_of k2 (.inl rfl) ?_
  simp
  refine callW_of k3 (.inl rfl) ?_
  simp
  refine callW_of k4 (.inl rfl) ?_
  simp
  refine callW_of k5 (.inl rfl) ?_
  simp
  exact indW_of (by decide +kernel)
end Go.Gv

set_option linter.unusedSimpArgs false
namespace Go.Gv
def nbE1 (m : Msh) (i : Nat) : Env := [(1, .ptr (mshC m)), (3, .mrf 10224), (10224, .mp 3 2 (nbKs m i) (nbVs m i)), (16, slx m.fn (m.f.map fceC)), (17, .int .i64 m.f.length), (18, .int .i64 i)]
theorem nbE1_eq (m : Msh) (i : Nat) : nbE1 m i = [(1, .ptr (mshC m)), (3, .mrf 10224), (10224, .mp 3 2 (nbKs m i) (nbVs m i)), (16, slx m.fn (m.f.map fceC)), (17, .int .i64 m.f.length), (18, .int .i64 i)] := _root_.id rfl
def nbE2 (m : Msh) (i k : Nat) : Env := [(1, .ptr (mshC m)), (3, .mrf 10224), (10224, .mp 3 2 (sdK (fce m i) k ++ nbKs m i) (List.replicate k (.int .i64 i) ++ nbVs m i)), (4, .int .i64 i), (5, .adr (.r 10080) 0 0), (10080, .blk 4 [fceC (fce m i)]), (16, slx m.fn (m.f.map fceC)), (17, .int .i64 m.f.length), (18, .int .i64 i), (23, .int .i64 k)]
theorem nbE2_eq (m : Msh) (i k : Nat) : nbE2 m i k = [(1, .ptr (mshC m)), (3, .mrf 10224), (10224, .mp 3 2 (sdK (fce m i) k ++ nbKs m i) (List.replicate k (.int .i64 i) ++ nbVs m i)), (4, .int .i64 i), (5, .adr (.r 10080) 0 0), (10080, .blk 4 [fceC (fce m i)]), (16, slx m.fn (m.f.map fceC)), (17, .int .i64 m.f.length), (18, .int .i64 i), (23, .int .i64 k)] := _root_.id rfl
def nbE3 (m : Msh) (i : Nat) : Env := [(3, .mrf 10224), (10224, .mp 3 2 (nbKs m m.f.length) (nbVs m m.f.length)), (7, .ref (.r 10112) 0 m.f.length), (10112, .blk 3 (nbR m i 0)), (38, slx m.fn (m.f.map fceC)), (39, .int .i64 m.f.length), (40, .int .i64 i)]
theorem nbE3_eq (m : Msh) (i : Nat) : nbE3 m i = [(3, .mrf 10224), (10224, .mp 3 2 (nbKs m m.f.length) (nbVs m m.f.length)), (7, .ref (.r 10112) 0 m.f.length), (10112, .blk 3 (nbR m i 0)), (38, slx m.fn (m.f.map fceC)), (39, .int .i64 m.f.length), (40, .int .i64 i)] := _root_.id rfl
def nbE4 (m : Msh) (i k : Nat) : Env := [(3, .mrf 10224), (10224, .mp 3 2 (nbKs m m.f.length) (nbVs m m.f.length)), (7, .ref (.r 10112) 0 m.f.length), (10112, .blk 3 (nbR m i k)), (8, .int .i64 i), (9, .adr (.r 10144) 0 0), (10144, .blk 4 [fceC (fce m i)]), (38, slx m.fn (m.f.map fceC)), (39, .int .i64 m.f.length), (40, .int .i64 i), (45, .int .i64 k)]
theorem nbE4_eq (m : Msh) (i k : Nat) : nbE4 m i k = [(3, .mrf 10224), (10224, .mp 3 2 (nbKs m m.f.length) (nbVs m m.f.length)), (7, .ref (.r 10112) 0 m.f.length), (10112, .blk 3 (nbR m i k)), (8, .int .i64 i), (9, .adr (.r 10144) 0 0), (10144, .blk 4 [fceC (fce m i)]), (38, slx m.fn (m.f.map fceC)), (39, .int .i64 m.f.length), (40, .int .i64 i), (45, .int .i64 k)] := _root_.id rfl
variable {C : CC} (hC : Closed prog C)
include hC
set_option maxHeartbeats 2000000 in
theorem neighbours_c (m : Msh) (hv : validM m = true) : C 261 [.agg (mshC m)] (.sl (nbA m)) [] := by
  have hsz := valid_small hv
  have hml : maxLen = 9223372036854775807 := rfl
  refine start hC (nf := N261_mesh_neighbours) rfl rfl ?_
  simp [N261_mesh_neighbours, mshC_eq]
  refine loop_of Nat (fun i => nbE1 m i) (fun i => i ≤ m.f.length) (fun i => m.f.length - i) 0 (by simp) (by simp [nbE1_eq, mshC_eq, nbKs, nbVs]) ?_
  rintro i hi
  simp [nbE1_eq, mshC_eq]
  refine brB_of (fun g1 => ?_) (fun g1 => ?_) <;> simp at g1 <;> simp [g1]
  · have hw : IntKind.wrap .i64 ((i : Int) + 1) = ((i + 1 : Nat) : Int) := wrap_i64 (by omega) (by omega)
    have cb := fun j => crn_bd (valid_in hv g1) j
    have ks := fun k h => mside_c hC (fce m i) k h
    have nl := nbKs_len m i
    simp only [fceC_eq] at ks
    simp [fceC_eq]
    refine loop_of Nat (fun k => nbE2 m i k) (fun k => k ≤ 3) (fun k => 3 - k) 0 (by simp) (by simp [nbE2_eq, mshC_eq, fceC_eq, sdK]) ?_
    rintro k hk
    simp [nbE2_eq, mshC_eq, fceC_eq]
    refine brB_of (fun g2 => ?_) (fun g2 => ?_) <;> simp at g2 <;> simp [g2]
    · have hw2 : IntKind.wrap .i64 ((k : Int) + 1) = ((k + 1 : Nat) : Int) := wrap_i64 (by omega) (by omega)
      have ck := cb k
      have ck1 := cb (k + 1)
      refine callW_of (ks k (by omega)) (.inl rfl) ?_
      simp [hw2, sdK_len]
      refine ⟨by omega, ⟨⟨by omega, by omega⟩, by omega, by omega⟩, by omega, k + 1, by omega, by omega, ?_⟩
      simp [nbE2_eq, mshC_eq, fceC_eq, sdK, List.replicate_succ]
    · have hk3 : k = 3 := by omega
      subst hk3
      simp [hw]
      refine ⟨i + 1, by omega, by omega, ?_⟩
      simp [nbE1_eq, mshC_eq, nbKs, nbVs, List.replicate]
  · have hi2 : i = m.f.length := by omega
    subst hi2
    refine ⟨by omega, ?_⟩
    refine loop_of Nat (fun i => nbE3 m i) (fun i => i ≤ m.f.length) (fun i => m.f.length - i) 0 (by simp) (by simp [nbE3_eq, mshC_eq, nbR_zero]) ?_
    clear hi g1
    rintro i hi
    simp [nbE3_eq, mshC_eq]
    refine brB_of (fun g1 => ?_) (fun g1 => ?_) <;> simp at g1 <;> simp [g1]
    · have hw : IntKind.wrap .i64 ((i : Int) + 1) = ((i + 1 : Nat) : Int) := wrap_i64 (by omega) (by omega)
      have cb := fun j => crn_bd (valid_in hv g1) j
      have ks := fun k h => mside_c hC (fce m i) k h
      simp only [fceC_eq] at ks
      simp [fceC_eq]
      refine loop_of Nat (fun k => nbE4 m i k) (fun k => k ≤ 3) (fun k => 3 - k) 0 (by simp) (by simp [nbE4_eq, mshC_eq, fceC_eq]) ?_
      rintro k hk
      simp [nbE4_eq, mshC_eq, fceC_eq]
      refine brB_of (fun g2 => ?_) (fun g2 => ?_) <;> simp at g2 <;> simp [g2]
      · have hw2 : IntKind.wrap .i64 ((k : Int) + 1) = ((k + 1 : Nat) : Int) := wrap_i64 (by omega) (by omega)
        have ck := cb k
        have ck1 := cb (k + 1)
        have hg := nb_get m (crn (fce m i) (k + 1)) (crn (fce m i) k) m.f.length
        have hl : nbF m i k = match lastF (fun j => hasSd (fce m j) (crn (fce m i) (k + 1)) (crn (fce m i) k)) m.f.length with
          | some j => (j : Int)
          | none => -1 := sideF_last hv _ _
        have hset := nbR_set m g1 (k := k) (by omega)
        have hget := nbR_get m (i := i) (k := k) g1
        cases hl0 : lastF (fun j => hasSd (fce m j) (crn (fce m i) (k + 1)) (crn (fce m i) k)) m.f.length with
        | none =>
          rw [hl0] at hg hl
          simp at hg
          rcases (by omega : k = 0 ∨ k = 1 ∨ k = 2) with rfl | rfl | rfl
          · refine callW_of (ks 0 (by omega)) (.inl rfl) ?_
            simp at ck ck1 hset hget
            simp [hg]
            refine ⟨⟨⟨by omega, by omega⟩, by omega, by omega⟩, g1, ?_⟩
            rw [hget]
            simp [hget]
            refine ⟨1, by omega, by omega, ?_⟩
            rw [hl] at hset
            simp [nbE4_eq, mshC_eq, fceC_eq, hset, w64_1, w64_2, w64_3]
          · refine callW_of (ks 1 (by omega)) (.inl rfl) ?_
            simp at ck ck1 hset hget
            simp [hg]
            refine ⟨⟨⟨by omega, by omega⟩, by omega, by omega⟩, g1, ?_⟩
            rw [hget]
            simp [hget]
            refine ⟨2, by omega, by omega, ?_⟩
            rw [hl] at hset
            simp [nbE4_eq, mshC_eq, fceC_eq, hset, w64_1, w64_2, w64_3]
          · refine callW_of (ks 2 (by omega)) (.inl rfl) ?_
            simp at ck ck1 hset hget
            simp [hg]
            refine ⟨⟨⟨by omega, by omega⟩, by omega, by omega⟩, g1, ?_⟩
            rw [hget]
            simp [hget]
            refine ⟨3, by omega, by omega, ?_⟩
            rw [hl] at hset
            simp [nbE4_eq, mshC_eq, fceC_eq, hset, w64_1, w64_2, w64_3]
        | some j =>
          rw [hl0] at hg hl
          simp at hg
          rcases (by omega : k = 0 ∨ k = 1 ∨ k = 2) with rfl | rfl | rfl
          · refine callW_of (ks 0 (by omega)) (.inl rfl) ?_
            simp at ck ck1 hset hget
            simp [hg]
            refine ⟨⟨⟨by omega, by omega⟩, by omega, by omega⟩, g1, ?_⟩
            rw [hget]
            simp [hget]
            refine ⟨1, by omega, by omega, ?_⟩
            rw [hl] at hset
            simp [nbE4_eq, mshC_eq, fceC_eq, hset, w64_1, w64_2, w64_3]
          · refine callW_of (ks 1 (by omega)) (.inl rfl) ?_
            simp at ck ck1 hset hget
            simp [hg]
            refine ⟨⟨⟨by omega, by omega⟩, by omega, by omega⟩, g1, ?_⟩
            rw [hget]
            simp [hget]
            refine ⟨2, by omega, by omega, ?_⟩
            rw [hl] at hset
            simp [nbE4_eq, mshC_eq, fceC_eq, hset, w64_1, w64_2, w64_3]
          · refine callW_of (ks 2 (by omega)) (.inl rfl) ?_
            simp at ck ck1 hset hget
            simp [hg]
            refine ⟨⟨⟨by omega, by omega⟩, by omega, by omega⟩, g1, ?_⟩
            rw [hget]
            simp [hget]
            refine ⟨3, by omega, by omega, ?_⟩
            rw [hl] at hset
            simp [nbE4_eq, mshC_eq, fceC_eq, hset, w64_1, w64_2, w64_3]
      · have hk3 : k = 3 := by omega
        subst hk3
        simp [hw]
        refine ⟨i + 1, by omega, by omega, ?_⟩
        simp [nbE3_eq, mshC_eq, nbR_next]
    · have hi2 : i = m.f.length := by omega
      subst hi2
      rw [nbR_all]
end Go.Gv

set_option linter.unusedSimpArgs false
namespace Go.Gv
theorem rightS_bd {s : Spt} (h : rightS s = true) : -16777216 ≤ s.x ∧ s.x ≤ 16777216 ∧ -16777216 ≤ s.y ∧ s.y ≤ 16777216 ∧ -4194304 ≤ s.z ∧ s.z ≤ 4194304 := by
  simp only [rightS, Bool.and_eq_true, decide_eq_true_eq] at h
  omega
def spA (m : Msh) (i : Nat) : Spt := spt m (fce m i).a.toNat
def spB (m : Msh) (i : Nat) : Spt := spt m (fce m i).b.toNat
def spC (m : Msh) (i : Nat) : Spt := spt m (fce m i).c.toNat
def sumF (m : Msh) (i : Nat) : Int := (spA m i).z + (spB m i).z + (spC m i).z
def cenX (m : Msh) (i : Nat) : Int := (spA m i).x + (spB m i).x + (spC m i).x
def cenY (m : Msh) (i : Nat) : Int := (spA m i).y + (spB m i).y + (spC m i).y
theorem spA_eq (m : Msh) (i : Nat) : spt m (fce m i).a.toNat = spA m i := rfl
theorem spB_eq (m : Msh) (i : Nat) : spt m (fce m i).b.toNat = spB m i := rfl
theorem spC_eq (m : Msh) (i : Nat) : spt m (fce m i).c.toNat = spC m i := rfl
theorem sp_bd {m : Msh} (hv : validM m = true) {i : Nat} (hi : i < m.f.length) : rightS (spA m i) = true ∧ rightS (spB m i) = true ∧ rightS (spC m i) = true := by
  obtain ⟨⟨_, h1⟩, ⟨_, h2⟩, ⟨_, h3⟩⟩ := inS_bd (valid_in hv hi)
  exact ⟨valid_s hv h1, valid_s hv h2, valid_s hv h3⟩
theorem sumF_bd {m : Msh} (hv : validM m = true) {i : Nat} (hi : i < m.f.length) : -12582912 ≤ sumF m i ∧ sumF m i ≤ 12582912 := by
  obtain ⟨h1, h2, h3⟩ := sp_bd hv hi
  have := rightS_bd h1
  have := rightS_bd h2
  have := rightS_bd h3
  unfold sumF
  omega
theorem cen_bd {m : Msh} (hv : validM m = true) {i : Nat} (hi : i < m.f.length) : -50331648 ≤ cenX m i ∧ cenX m i ≤ 50331648 ∧ -50331648 ≤ cenY m i ∧ cenY m i ≤ 50331648 := by
  obtain ⟨h1, h2, h3⟩ := sp_bd hv hi
  have := rightS_bd h1
  have := rightS_bd h2
  have := rightS_bd h3
  unfold cenX cenY
  omega
def smR (m : Msh) (i : Nat) : List (List D) := (List.range i).map fun j => [.int .i64 (sumF m j)]
def ctR (m : Msh) (i : Nat) : List (List D) := (List.range i).map fun j => [.int .i64 (cenX m j), .int .i64 (cenY m j)]
@[simp] theorem smR_len (m : Msh) (i : Nat) : (smR m i).length = i := by simp [smR]
@[simp] theorem ctR_len (m : Msh) (i : Nat) : (ctR m i).length = i := by simp [ctR]
@[simp] theorem smR_take (m : Msh) (i : Nat) : List.take i (smR m i) = smR m i := List.take_of_length_le (by simp)
@[simp] theorem ctR_take (m : Msh) (i : Nat) : List.take i (ctR m i) = ctR m i := List.take_of_length_le (by simp)
theorem smR_add (m : Msh) (i : Nat) : smR m i ++ [[.int .i64 (sumF m i)]] = smR m (i + 1) := by simp [smR, List.range_succ]
theorem ctR_add (m : Msh) (i : Nat) : ctR m i ++ [[.int .i64 (cenX m i), .int .i64 (cenY m i)]] = ctR m (i + 1) := by simp [ctR, List.range_succ]
@[simp] theorem smR_c1a (m : Msh) (i : Nat) (x : List D) : (∀ e, e ∈ smR m i ∨ e = x → ∀ c, c ∈ e → isC1 c = true) = ∀ c, c ∈ x → isC1 c = true := by
  apply propext
  constructor
  · exact fun h => h x (.inr rfl)
  · rintro h e (he | rfl)
    · obtain ⟨j, _, rfl⟩ := List.mem_map.1 he
      simp
    · exact h
@[simp] theorem ctR_c1a (m : Msh) (i : Nat) (x : List D) : (∀ e, e ∈ ctR m i ∨ e = x → ∀ c, c ∈ e → isC1 c = true) = ∀ c, c ∈ x → isC1 c = true := by
  apply propext
  constructor
  · exact fun h => h x (.inr rfl)
  · rintro h e (he | rfl)
    · obtain ⟨j, _, rfl⟩ := List.mem_map.1 he
      simp
    · exact h
def cN (sz : Nat) (es : List (List D)) : D := match es with
  | [] => .nils
  | e :: r => .own sz (e :: r)
@[simp] theorem cellV_cN (sz : Nat) (es : List (List D)) : cellV (cN sz es) = slx true es := by cases es <;> rfl
def grC (m : Msh) : List D := [.sl (nbA m), slx true (smR m m.f.length), slx true (ctR m m.f.length)]
theorem grC_eq (m : Msh) : grC m = [.sl (nbA m), slx true (smR m m.f.length), slx true (ctR m m.f.length)] := _root_.id rfl
def mdE (m : Msh) (i : Nat) : Env := [(1, .ptr (mshC m)), (6, .adr (.r 10352) 0 0), (10352, .blk 3 [[.sl (nbA m), cN 1 (smR m i), cN 2 (ctR m i)]]), (24, slx m.fn (m.f.map fceC)), (25, .int .i64 m.f.length), (26, .int .i64 i)]
theorem mdE_eq (m : Msh) (i : Nat) : mdE m i = [(1, .ptr (mshC m)), (6, .adr (.r 10352) 0 0), (10352, .blk 3 [[.sl (nbA m), cN 1 (smR m i), cN 2 (ctR m i)]]), (24, slx m.fn (m.f.map fceC)), (25, .int .i64 m.f.length), (26, .int .i64 i)] := _root_.id rfl
theorem cN_sm (m : Msh) (i : Nat) : cN 1 (smR m (i + 1)) = .own 1 (smR m (i + 1)) := by
  have : (smR m (i + 1)).length = i + 1 := by simp
  cases h : smR m (i + 1) with
  | nil => rw [h] at this; simp at this
  | cons e r => rfl
theorem cN_ct (m : Msh) (i : Nat) : cN 2 (ctR m (i + 1)) = .own 2 (ctR m (i + 1)) := by
  have : (ctR m (i + 1)).length = i + 1 := by simp
  cases h : ctR m (i + 1) with
  | nil => rw [h] at this; simp at this
  | cons e r => rfl
variable {C : CC} (hC : Closed prog C)
include hC
theorem Neighbours_c (dec : Nat → List UInt8) (hI : ∀ n : Nat, n < 100 → C 127 [.int .i64 n] (.str (dec n)) []) (m : Msh) (hz : smallM m = true → m.s.length ≤ 100 ∧ m.f.length ≤ 100) :
    C 221 [.agg (mshC m)] (if validM m then .tup [.sl (nbA m), .int .i64 0] else .tup [.nils, .int .i64 1]) [] := by
  have k := mValid_c hC dec hI m hz
  refine start hC (nf := N221_mesh_Neighbours) rfl rfl ?_
  simp only [mshC_eq] at k
  simp [N221_mesh_Neighbours, mshC_eq]
  refine callW_of k (.inl rfl) ?_
  cases hv : validM m
  · simp
  · have k2 := neighbours_c hC m hv
    simp only [mshC_eq] at k2
    simp
    refine callW_of k2 (.inr rfl) ?_
    simp
set_option maxRecDepth 8000 in
set_option maxHeartbeats 2000000 in
theorem made_c (dec : Nat → List UInt8) (hI : ∀ n : Nat, n < 100 → C 127 [.int .i64 n] (.str (dec n)) []) (m : Msh) (hz : smallM m = true → m.s.length ≤ 100 ∧ m.f.length ≤ 100) :
    C 253 [.agg (mshC m)] (if validM m then .tup [.ptr (grC m), .int .i64 0] else .tup [.nilp, .int .i64 1]) [] := by
  have k := Neighbours_c hC dec hI m hz
  refine start hC (nf := N253_relief_made) rfl rfl ?_
  simp only [mshC_eq] at k
  simp [N253_relief_made, mshC_eq]
  refine callW_of k (.inr rfl) ?_
  cases hv : validM m
  · simp
  · have hsz := valid_small hv
    simp
    refine loop_of Nat (fun i => mdE m i) (fun i => i ≤ m.f.length) (fun i => m.f.length - i) 0 (by simp) (by simp [mdE_eq, mshC_eq, smR, ctR, cN]) ?_
    rintro i hi
    simp [mdE_eq, mshC_eq]
    refine brB_of (fun g1 => ?_) (fun g1 => ?_) <;> simp at g1 <;> simp [g1]
    · have hw : IntKind.wrap .i64 ((i : Int) + 1) = ((i + 1 : Nat) : Int) := wrap_i64 (by omega) (by omega)
      obtain ⟨⟨a1, a2⟩, ⟨b1, b2⟩, ⟨c1, c2⟩⟩ := inS_bd (valid_in hv g1)
      obtain ⟨h1, h2, h3⟩ := sp_bd hv g1
      have h1 := rightS_bd h1
      have h2 := rightS_bd h2
      have h3 := rightS_bd h3
      have wz1 : IntKind.wrap .i64 ((spA m i).z + (spB m i).z) = (spA m i).z + (spB m i).z := wrap_i64 rfl (by omega)
      have wz2 : IntKind.wrap .i64 ((spA m i).z + (spB m i).z + (spC m i).z) = sumF m i := wrap_i64 rfl (by unfold sumF; omega)
      have wx1 : IntKind.wrap .i64 ((spA m i).x + (spB m i).x) = (spA m i).x + (spB m i).x := wrap_i64 rfl (by omega)
      have wx2 : IntKind.wrap .i64 ((spA m i).x + (spB m i).x + (spC m i).x) = cenX m i := wrap_i64 rfl (by unfold cenX; omega)
      have wy1 : IntKind.wrap .i64 ((spA m i).y + (spB m i).y) = (spA m i).y + (spB m i).y := wrap_i64 rfl (by omega)
      have wy2 : IntKind.wrap .i64 ((spA m i).y + (spB m i).y + (spC m i).y) = cenY m i := wrap_i64 rfl (by unfold cenY; omega)
      simp [fceC_eq, a1, a2, b1, b2, c1, c2, sptC_eq, spA_eq, spB_eq, spC_eq]
      refine ⟨indW_of (by decide +kernel), ?_⟩
      cases i with
      | zero =>
        simp [smR, ctR, cN]
        refine ⟨indW_of (by decide +kernel), indW_of (by decide +kernel), 1, by omega, by omega, ?_⟩
        simp [mdE_eq, mshC_eq, smR, ctR, cN, w64_1, wz1, wz2, wx1, wx2, wy1, wy2]
      | succ j =>
        simp [cN_sm, cN_ct]
        have e1 := smR_add m (j + 1)
        have e2 := ctR_add m (j + 1)
        refine ⟨by omega, indW_of (by decide +kernel), by omega, indW_of (by decide +kernel), j + 1 + 1, by omega, by omega, ?_⟩
        simp [mdE_eq, mshC_eq, cN_sm, cN_ct, wz1, wz2, wx1, wx2, wy1, wy2, e1, e2]
        exact wrap_i64 rfl (by omega)
    · have hi2 : i = m.f.length := by omega
      subst hi2
      simp [grC_eq]
end Go.Gv

set_option linter.unusedSimpArgs false
namespace Go.Gv
theorem smR_eq (m : Msh) (i : Nat) : smR m i = (List.range i).map fun j => [.int .i64 (sumF m j)] := rfl
theorem ctR_eq (m : Msh) (i : Nat) : ctR m i = (List.range i).map fun j => [.int .i64 (cenX m j), .int .i64 (cenY m j)] := rfl
theorem nbA_eq (m : Msh) : nbA m = (List.range m.f.length).map fun j => [.int .i64 (nbF m j 0), .int .i64 (nbF m j 1), .int .i64 (nbF m j 2)] := rfl
theorem range_gd (n i : Nat) (h : i < n) : (List.range n)[i]?.getD default = i := by simp [h]
theorem range_g0 (n i : Nat) (h : i < n) : (List.range n)[i]?.getD 0 = i := by simp [h]
theorem idxD_bd {α : Type} (p : α → Bool) (xs : List α) : -1 ≤ idxD p xs ∧ idxD p xs < xs.length := by
  unfold idxD
  split
  · rename_i i h
    have := (List.findIdx?_eq_some_iff_getElem.1 h).1
    omega
  · omega
theorem nbF_bd (m : Msh) (i k : Nat) : -1 ≤ nbF m i k ∧ nbF m i k < m.f.length := idxD_bd _ _
def bsd (m : Msh) (i : Nat) (o : Int) : Bool := decide (o = nbF m i 0) || (decide (o = nbF m i 1) || decide (o = nbF m i 2))
def difF (m : Msh) (i j : Nat) : Int := sumF m i - sumF m j
def numF (m : Msh) (i j : Nat) : Int := difF m i j * (if difF m i j < -difF m i j then -difF m i j else difF m i j)
def denF (m : Msh) (i j : Nat) : Int := (cenX m i - cenX m j) * (cenX m i - cenX m j) + (cenY m i - cenY m j) * (cenY m i - cenY m j)
def cmpF (m : Msh) (i a b : Nat) : Int := cmp3 (numF m i a * denF m i b) (numF m i b * denF m i a)
def stpF (m : Msh) (i : Nat) (best n : Int) : Int := if n < 0 ∨ sumF m i ≤ sumF m n.toNat then best else if best < 0 then n else if 0 < cmpF m i n.toNat best.toNat ∨ (cmpF m i n.toNat best.toNat = 0 ∧ n < best) then n else best
def upF (m : Msh) (i : Nat) : Nat → Int
  | 0 => -2
  | k + 1 => stpF m i (upF m i k) (nbF m i k)
def runF (m : Msh) (i : Nat) : Int := if upF m i 3 = -2 ∧ bsd m i (-1) = true then -1 else upF m i 3
theorem upF_bd (m : Msh) (i : Nat) : ∀ k, upF m i k = -2 ∨ (0 ≤ upF m i k ∧ upF m i k < m.f.length ∧ sumF m (upF m i k).toNat < sumF m i)
  | 0 => .inl rfl
  | k + 1 => by
    have := nbF_bd m i k
    rw [upF, stpF]
    by_cases h : nbF m i k < 0 ∨ sumF m i ≤ sumF m (nbF m i k).toNat
    · rw [if_pos h]; exact upF_bd m i k
    · rw [if_neg h]
      have h1 : 0 ≤ nbF m i k ∧ nbF m i k < m.f.length ∧ sumF m (nbF m i k).toNat < sumF m i := by omega
      split
      · exact .inr h1
      · split
        · exact .inr h1
        · exact upF_bd m i k
theorem numF_bd {m : Msh} (hv : validM m = true) {i j : Nat} (hi : i < m.f.length) (hj : j < m.f.length) : -1125899906842624 ≤ numF m i j ∧ numF m i j ≤ 1125899906842624 := by
  have h1 := sumF_bd hv hi
  have h2 := sumF_bd hv hj
  unfold numF
  have h3 : -33554432 ≤ difF m i j ∧ difF m i j ≤ 33554432 := by unfold difF; omega
  exact mul_bd (k := 33554432) (l := 33554432) (by omega) (by omega) (by split <;> omega) (by split <;> omega)
theorem sq_nn (a : Int) : 0 ≤ a * a := by
  rcases Int.le_total 0 a with h | h
  · exact Int.mul_nonneg h h
  · exact Int.mul_nonneg_of_nonpos_of_nonpos h h
theorem denF_bd {m : Msh} (hv : validM m = true) {i j : Nat} (hi : i < m.f.length) (hj : j < m.f.length) : 0 ≤ denF m i j ∧ denF m i j ≤ 36028797018963968 := by
  have h1 := cen_bd hv hi
  have h2 := cen_bd hv hj
  have h3 := mul_bd (k := 134217728) (l := 134217728) (a := cenX m i - cenX m j) (b := cenX m i - cenX m j) (by omega) (by omega) (by omega) (by omega)
  have h4 := mul_bd (k := 134217728) (l := 134217728) (a := cenY m i - cenY m j) (b := cenY m i - cenY m j) (by omega) (by omega) (by omega) (by omega)
  have h5 := sq_nn (cenX m i - cenX m j)
  have h6 := sq_nn (cenY m i - cenY m j)
  unfold denF
  omega
theorem numF_nn {m : Msh} {i j : Nat} (h : sumF m j ≤ sumF m i) : 0 ≤ numF m i j := by
  unfold numF
  have : 0 ≤ difF m i j := by unfold difF; omega
  exact Int.mul_nonneg this (by split <;> omega)
variable {C : CC} (hC : Closed prog C)
include hC
theorem idxIs_c {b : Bool} {xs : List Int} (o : Int) (hs : xs.length < 2 ^ 62) : C 262 [slx b (xs.map fun x => [.int .i64 x]), .int .i64 o] (.int .i64 (idxD (fun x => decide (o = x)) xs)) [] := by
  refine start hC (nf := N262_slices_Index__int_int) rfl rfl ?_
  simp [N262_slices_Index__int_int]
  refine loop_of Nat (fun i => [(0, slx b (xs.map fun x => [.int .i64 x])), (1, .int .i64 o), (7, .int .i64 xs.length), (8, .int .i64 i)]) (fun i => i ≤ xs.length ∧ ∀ (j : Nat) (h : j < xs.length), j < i → decide (o = xs[j]) = false) (fun i => xs.length - i) 0 (by simp) (by simp) ?_
  rintro i ⟨hi, hj⟩
  simp
  refine brB_of (fun h => ?_) (fun h => ?_) <;> simp [h] <;> simp at h
  · have hw : IntKind.wrap .i64 ((i : Int) + 1) = ((i + 1 : Nat) : Int) := wrap_i64 (by omega) (by omega)
    simp [h, List.getElem_map]
    refine brB_of (fun h1 => ?_) (fun h1 => ?_) <;> simp at h1 <;> simp [hw]
    · rw [idxD_step hj h (by simpa using h1)]
    · refine ⟨i + 1, ⟨by omega, fun j hl hjj => ?_⟩, by omega, by omega⟩
      rcases Nat.lt_succ_iff_lt_or_eq.1 hjj with h2 | rfl
      · simpa using hj j hl h2
      · exact h1
  · rw [idxD_none (fun j hl => hj j hl (by omega))]
theorem hasIs_c {b : Bool} {xs : List Int} (o : Int) (hs : xs.length < 2 ^ 62) : C 223 [slx b (xs.map fun x => [.int .i64 x]), .int .i64 o] (.bool (xs.any fun x => decide (o = x))) [] := by
  refine start hC (nf := N223_slices_Contains__int_int) rfl rfl ?_
  simp [N223_slices_Contains__int_int]
  refine callW_of (idxIs_c hC o hs) (.inl rfl) ?_
  simp [idxD_any]
theorem beside_c (m : Msh) (i : Nat) (hi : i < m.f.length) (o : Int) : C 263 [.ptr (grC m), .int .i64 i, .int .i64 o] (.bool (bsd m i o)) [] := by
  have k := hasIs_c hC (b := false) (xs := [nbF m i 0, nbF m i 1, nbF m i 2]) o (by simp)
  simp at k
  refine start hC (nf := N263_relief_ground_beside) rfl rfl ?_
  simp [N263_relief_ground_beside, grC_eq, nbA_eq, hi, range_gd, chunks]
  refine callW_of k (.inl rfl) ?_
  simp [bsd]
set_option maxRecDepth 8000 in
set_option maxHeartbeats 1000000 in
theorem descent_c (m : Msh) (hv : validM m = true) (i j : Nat) (hi : i < m.f.length) (hj : j < m.f.length) : C 264 [.ptr (grC m), .int .i64 i, .int .i64 j] (.tup [.int .i64 (numF m i j), .int .i64 (denF m i j)]) [] := by
  have h1 := sumF_bd hv hi
  have h2 := sumF_bd hv hj
  have h3 := cen_bd hv hi
  have h4 := cen_bd hv hj
  have h5 := numF_bd hv hi hj
  have h6 := denF_bd hv hi hj
  have h7 := mul_bd (k := 134217728) (l := 134217728) (a := cenX m i - cenX m j) (b := cenX m i - cenX m j) (by omega) (by omega) (by omega) (by omega)
  have h8 := mul_bd (k := 134217728) (l := 134217728) (a := cenY m i - cenY m j) (b := cenY m i - cenY m j) (by omega) (by omega) (by omega) (by omega)
  have w1 : IntKind.wrap .i64 (sumF m i - sumF m j) = difF m i j := wrap_i64 rfl (by unfold difF; omega)
  have w2 : IntKind.wrap .i64 (cenX m i - cenX m j) = cenX m i - cenX m j := wrap_i64 rfl (by omega)
  have w3 : IntKind.wrap .i64 (cenY m i - cenY m j) = cenY m i - cenY m j := wrap_i64 rfl (by omega)
  have w4 : IntKind.wrap .i64 (-difF m i j) = -difF m i j := wrap_i64 rfl (by unfold difF; omega)
  have w5 : IntKind.wrap .i64 (difF m i j * (if difF m i j < -difF m i j then -difF m i j else difF m i j)) = numF m i j := wrap_i64 rfl (by omega)
  have w6 : IntKind.wrap .i64 ((cenX m i - cenX m j) * (cenX m i - cenX m j)) = (cenX m i - cenX m j) * (cenX m i - cenX m j) := wrap_i64 rfl (by omega)
  have w7 : IntKind.wrap .i64 ((cenY m i - cenY m j) * (cenY m i - cenY m j)) = (cenY m i - cenY m j) * (cenY m i - cenY m j) := wrap_i64 rfl (by omega)
  have w8 : IntKind.wrap .i64 ((cenX m i - cenX m j) * (cenX m i - cenX m j) + (cenY m i - cenY m j) * (cenY m i - cenY m j)) = denF m i j := wrap_i64 rfl (by omega)
  refine start hC (nf := N264_relief_ground_descent) rfl rfl ?_
  simp [N264_relief_ground_descent, grC_eq, smR_eq, ctR_eq, hi, hj, range_gd, w1, w2, w3, w4, w6, w7, w8]
  exact ⟨indW_of (by decide +kernel), indW_of (by decide +kernel), w5.symm⟩
theorem gcompare_c (m : Msh) (hv : validM m = true) (i a b : Nat) (hi : i < m.f.length) (ha : a < m.f.length) (hb : b < m.f.length) (sa : sumF m a ≤ sumF m i) (sb : sumF m b ≤ sumF m i) :
    C 268 [.ptr (grC m), .int .i64 i, .int .i64 a, .int .i64 b] (.int .i64 (cmpF m i a b)) [] := by
  have k1 := descent_c hC m hv i a hi ha
  have k2 := descent_c hC m hv i b hi hb
  have n1 := numF_bd hv hi ha
  have n2 := numF_bd hv hi hb
  have n3 := numF_nn sa
  have n4 := numF_nn sb
  have d1 := denF_bd hv hi ha
  have d2 := denF_bd hv hi hb
  obtain ⟨x, hx⟩ : ∃ x : Nat, numF m i a = x := ⟨(numF m i a).toNat, by omega⟩
  obtain ⟨y, hy⟩ : ∃ x : Nat, numF m i b = x := ⟨(numF m i b).toNat, by omega⟩
  obtain ⟨p, hp⟩ : ∃ x : Nat, denF m i a = x := ⟨(denF m i a).toNat, by omega⟩
  obtain ⟨q, hq⟩ : ∃ x : Nat, denF m i b = x := ⟨(denF m i b).toNat, by omega⟩
  have b1 : x * q ≤ 1125899906842624 * 36028797018963968 := Nat.mul_le_mul (by omega) (by omega)
  have b2 : y * p ≤ 1125899906842624 * 36028797018963968 := Nat.mul_le_mul (by omega) (by omega)
  have k3 := Product_c hC x q (by omega) (by omega) (by omega)
  have k4 := Product_c hC y p (by omega) (by omega) (by omega)
  have k5 := Cmp_c hC (x * q) (y * p) (by omega) (by omega)
  have e : cmpF m i a b = cmp3 ((x * q : Nat) : Int) ((y * p : Nat) : Int) := by rw [cmpF, hx, hy, hp, hq]; simp
  rw [hx, hp] at k1
  rw [hy, hq] at k2
  rw [e]
  obtain ⟨c, hc⟩ : ∃ c, c = cmp3 ((x * q : Nat) : Int) ((y * p : Nat) : Int) := ⟨_, rfl⟩
  rw [← hc] at k5 ⊢
  obtain ⟨u1, u2, eu⟩ := wiD_ex (x * q)
  obtain ⟨v1, v2, ev⟩ := wiD_ex (y * p)
  rw [eu] at k3 k5
  rw [ev] at k4 k5
  obtain ⟨G, hG⟩ : ∃ G, G = grC m := ⟨_, rfl⟩
  rw [← hG] at k1 k2 ⊢
  refine start hC (nf := N268_relief_ground_compare) rfl rfl ?_
  simp [N268_relief_ground_compare]
  refine callW_of k1 (.inl rfl) ?_
  simp
  refine callW_of k2 (.inl rfl) ?_
  simp
  refine callW_of k3 (.inr rfl) ?_
  simp
  refine callW_of k4 (.inr rfl) ?_
  simp
  refine callW_of k5 (.inl rfl) ?_
  simp
set_option maxRecDepth 8000 in
set_option maxHeartbeats 2000000 in
theorem runs_c (m : Msh) (hv : validM m = true) (i : Nat) (hi : i < m.f.length) : C 256 [.ptr (grC m), .int .i64 i] (.int .i64 (runF m i)) [] := by
  have kb := beside_c hC m i hi (-1)
  have kc := fun a b ha hb sa sb => gcompare_c hC m hv i a b hi ha hb sa sb
  refine start hC (nf := N256_relief_ground_runs) rfl rfl ?_
  simp [N256_relief_ground_runs, grC_eq, nbA_eq, hi, range_gd]
  refine loop_of Nat (fun k => [(0, .ptr (grC m)), (1, .int .i64 i), (5, .int .i64 (upF m i k)), (15, .agg [.int .i64 (nbF m i 0), .int .i64 (nbF m i 1), .int .i64 (nbF m i 2)]), (16, .int .i64 k)]) (fun k => k ≤ 3) (fun k => 3 - k) 0 (by simp) (by simp [grC_eq, nbA_eq, upF]) ?_
  rintro k hk
  rcases (by omega : k = 0 ∨ k = 1 ∨ k = 2 ∨ k = 3) with rfl | rfl | rfl | rfl
  · have step : upF m i 1 = stpF m i (upF m i 0) (nbF m i 0) := rfl
    have nb := nbF_bd m i 0
    have ub := upF_bd m i 0
    obtain ⟨N, hN⟩ : ∃ N, N = nbF m i 0 := ⟨_, rfl⟩
    obtain ⟨B, hB⟩ : ∃ B, B = upF m i 0 := ⟨_, rfl⟩
    rw [← hN] at step nb
    rw [← hB] at step ub
    simp [w64_1, w64_2, w64_3]
    rw [← hN, ← hB]
    refine brB_of (fun c1 => ?_) (fun c1 => ?_) <;> simp at c1
    · simp [c1, w64_1, w64_2, w64_3]
      refine ⟨indW_of (by decide +kernel), ?_⟩
      refine ⟨1, by omega, by omega, ?_, ?_⟩
      · rw [step, stpF, if_pos (.inl c1)]
      · simp
    · have hNl : N.toNat < m.f.length := by omega
      simp [Int.not_lt.2 c1, c1, grC_eq, smR_eq, hi, hNl, range_gd, range_g0]
      refine ⟨indW_of (by decide +kernel), ?_⟩
      refine brB_of (fun c2 => ?_) (fun c2 => ?_) <;> simp at c2
      · simp [c2, w64_1, w64_2, w64_3]
        refine ⟨1, by omega, by omega, rfl, ?_, ?_⟩
        · rw [step, stpF, if_pos (.inr c2)]
        · simp
      · have hno : ¬ (N < 0 ∨ sumF m i ≤ sumF m N.toNat) := by omega
        simp [Int.not_le.2 c2]
        refine brB_of (fun c3 => ?_) (fun c3 => ?_) <;> simp at c3
        · simp [c3, w64_1, w64_2, w64_3]
          refine ⟨1, by omega, by omega, rfl, ?_, ?_⟩
          · rw [step, stpF, if_neg hno, if_pos c3]
          · simp
        · have hc := kc N.toNat B.toNat hNl (by omega) (by omega) (by omega)
          rw [Int.toNat_of_nonneg c1, Int.toNat_of_nonneg c3] at hc
          obtain ⟨c, hcc⟩ : ∃ c, c = cmpF m i N.toNat B.toNat := ⟨_, rfl⟩
          rw [← hcc] at hc
          have hB0 : ¬ B < 0 := by omega
          simp only [grC_eq, smR_eq] at hc
          simp [Int.not_lt.2 c3, grC_eq, smR_eq]
          refine callW_of hc (.inl rfl) ?_
          simp
          refine brB_of (fun c4 => ?_) (fun c4 => ?_) <;> simp at c4
          · simp [c4, w64_1, w64_2, w64_3]
            refine ⟨1, by omega, by omega, rfl, ?_, ?_⟩
            · rw [step, stpF, if_neg hno, if_neg hB0, if_pos (.inl (by rw [← hcc]; exact c4))]
            · simp
          · simp [Int.not_lt.2 c4]
            by_cases c5 : c = 0
            · simp [c5]
              by_cases c6 : N < B
              · simp [c6, w64_1, w64_2, w64_3]
                refine ⟨1, by omega, by omega, rfl, ?_, ?_⟩
                · rw [step, stpF, if_neg hno, if_neg hB0, if_pos (.inr ⟨by rw [← hcc]; exact c5, c6⟩)]
                · simp
              · simp [c6, w64_1, w64_2, w64_3]
                refine ⟨1, by omega, by omega, rfl, ?_, ?_⟩
                · rw [step, stpF, if_neg hno, if_neg hB0, if_neg (by rw [← hcc]; omega)]
                · simp
            · simp [c5, w64_1, w64_2, w64_3]
              refine ⟨1, by omega, by omega, rfl, ?_, ?_⟩
              · rw [step, stpF, if_neg hno, if_neg hB0, if_neg (by rw [← hcc]; omega)]
              · simp
  · have step : upF m i 2 = stpF m i (upF m i 1) (nbF m i 1) := rfl
    have nb := nbF_bd m i 1
    have ub := upF_bd m i 1
    obtain ⟨N, hN⟩ : ∃ N, N = nbF m i 1 := ⟨_, rfl⟩
    obtain ⟨B, hB⟩ : ∃ B, B = upF m i 1 := ⟨_, rfl⟩
    rw [← hN] at step nb
    rw [← hB] at step ub
    simp [w64_1, w64_2, w64_3]
    rw [← hN, ← hB]
    refine brB_of (fun c1 => ?_) (fun c1 => ?_) <;> simp at c1
    · simp [c1, w64_1, w64_2, w64_3]
      refine ⟨indW_of (by decide +kernel), ?_⟩
      refine ⟨2, by omega, by omega, ?_, ?_⟩
      · rw [step, stpF, if_pos (.inl c1)]
      · simp
    · have hNl : N.toNat < m.f.length := by omega
      simp [Int.not_lt.2 c1, c1, grC_eq, smR_eq, hi, hNl, range_gd, range_g0]
      refine ⟨indW_of (by decide +kernel), ?_⟩
      refine brB_of (fun c2 => ?_) (fun c2 => ?_) <;> simp at c2
      · simp [c2, w64_1, w64_2, w64_3]
        refine ⟨2, by omega, by omega, rfl, ?_, ?_⟩
        · rw [step, stpF, if_pos (.inr c2)]
        · simp
      · have hno : ¬ (N < 0 ∨ sumF m i ≤ sumF m N.toNat) := by omega
        simp [Int.not_le.2 c2]
        refine brB_of (fun c3 => ?_) (fun c3 => ?_) <;> simp at c3
        · simp [c3, w64_1, w64_2, w64_3]
          refine ⟨2, by omega, by omega, rfl, ?_, ?_⟩
          · rw [step, stpF, if_neg hno, if_pos c3]
          · simp
        · have hc := kc N.toNat B.toNat hNl (by omega) (by omega) (by omega)
          rw [Int.toNat_of_nonneg c1, Int.toNat_of_nonneg c3] at hc
          obtain ⟨c, hcc⟩ : ∃ c, c = cmpF m i N.toNat B.toNat := ⟨_, rfl⟩
          rw [← hcc] at hc
          have hB0 : ¬ B < 0 := by omega
          simp only [grC_eq, smR_eq] at hc
          simp [Int.not_lt.2 c3, grC_eq, smR_eq]
          refine callW_of hc (.inl rfl) ?_
          simp
          refine brB_of (fun c4 => ?_) (fun c4 => ?_) <;> simp at c4
          · simp [c4, w64_1, w64_2, w64_3]
            refine ⟨2, by omega, by omega, rfl, ?_, ?_⟩
            · rw [step, stpF, if_neg hno, if_neg hB0, if_pos (.inl (by rw [← hcc]; exact c4))]
            · simp
          · simp [Int.not_lt.2 c4]
            by_cases c5 : c = 0
            · simp [c5]
              by_cases c6 : N < B
              · simp [c6, w64_1, w64_2, w64_3]
                refine ⟨2, by omega, by omega, rfl, ?_, ?_⟩
                · rw [step, stpF, if_neg hno, if_neg hB0, if_pos (.inr ⟨by rw [← hcc]; exact c5, c6⟩)]
                · simp
              · simp [c6, w64_1, w64_2, w64_3]
                refine ⟨2, by omega, by omega, rfl, ?_, ?_⟩
                · rw [step, stpF, if_neg hno, if_neg hB0, if_neg (by rw [← hcc]; omega)]
                · simp
            · simp [c5, w64_1, w64_2, w64_3]
              refine ⟨2, by omega, by omega, rfl, ?_, ?_⟩
              · rw [step, stpF, if_neg hno, if_neg hB0, if_neg (by rw [← hcc]; omega)]
              · simp
  · have step : upF m i 3 = stpF m i (upF m i 2) (nbF m i 2) := rfl
    have nb := nbF_bd m i 2
    have ub := upF_bd m i 2
    obtain ⟨N, hN⟩ : ∃ N, N = nbF m i 2 := ⟨_, rfl⟩
    obtain ⟨B, hB⟩ : ∃ B, B = upF m i 2 := ⟨_, rfl⟩
    rw [← hN] at step nb
    rw [← hB] at step ub
    simp [w64_1, w64_2, w64_3]
    rw [← hN, ← hB]
    refine brB_of (fun c1 => ?_) (fun c1 => ?_) <;> simp at c1
    · simp [c1, w64_1, w64_2, w64_3]
      refine ⟨indW_of (by decide +kernel), ?_⟩
      refine ⟨3, by omega, by omega, ?_, ?_⟩
      · rw [step, stpF, if_pos (.inl c1)]
      · simp
    · have hNl : N.toNat < m.f.length := by omega
      simp [Int.not_lt.2 c1, c1, grC_eq, smR_eq, hi, hNl, range_gd, range_g0]
      refine ⟨indW_of (by decide +kernel), ?_⟩
      refine brB_of (fun c2 => ?_) (fun c2 => ?_) <;> simp at c2
      · simp [c2, w64_1, w64_2, w64_3]
        refine ⟨3, by omega, by omega, rfl, ?_, ?_⟩
        · rw [step, stpF, if_pos (.inr c2)]
        · simp
      · have hno : ¬ (N < 0 ∨ sumF m i ≤ sumF m N.toNat) := by omega
        simp [Int.not_le.2 c2]
        refine brB_of (fun c3 => ?_) (fun c3 => ?_) <;> simp at c3
        · simp [c3, w64_1, w64_2, w64_3]
          refine ⟨3, by omega, by omega, rfl, ?_, ?_⟩
          · rw [step, stpF, if_neg hno, if_pos c3]
          · simp
        · have hc := kc N.toNat B.toNat hNl (by omega) (by omega) (by omega)
          rw [Int.toNat_of_nonneg c1, Int.toNat_of_nonneg c3] at hc
          obtain ⟨c, hcc⟩ : ∃ c, c = cmpF m i N.toNat B.toNat := ⟨_, rfl⟩
          rw [← hcc] at hc
          have hB0 : ¬ B < 0 := by omega
          simp only [grC_eq, smR_eq] at hc
          simp [Int.not_lt.2 c3, grC_eq, smR_eq]
          refine callW_of hc (.inl rfl) ?_
          simp
          refine brB_of (fun c4 => ?_) (fun c4 => ?_) <;> simp at c4
          · simp [c4, w64_1, w64_2, w64_3]
            refine ⟨3, by omega, by omega, rfl, ?_, ?_⟩
            · rw [step, stpF, if_neg hno, if_neg hB0, if_pos (.inl (by rw [← hcc]; exact c4))]
            · simp
          · simp [Int.not_lt.2 c4]
            by_cases c5 : c = 0
            · simp [c5]
              by_cases c6 : N < B
              · simp [c6, w64_1, w64_2, w64_3]
                refine ⟨3, by omega, by omega, rfl, ?_, ?_⟩
                · rw [step, stpF, if_neg hno, if_neg hB0, if_pos (.inr ⟨by rw [← hcc]; exact c5, c6⟩)]
                · simp
              · simp [c6, w64_1, w64_2, w64_3]
                refine ⟨3, by omega, by omega, rfl, ?_, ?_⟩
                · rw [step, stpF, if_neg hno, if_neg hB0, if_neg (by rw [← hcc]; omega)]
                · simp
            · simp [c5, w64_1, w64_2, w64_3]
              refine ⟨3, by omega, by omega, rfl, ?_, ?_⟩
              · rw [step, stpF, if_neg hno, if_neg hB0, if_neg (by rw [← hcc]; omega)]
              · simp
  · simp
    by_cases u : upF m i 3 = -2
    · simp [u]
      refine callW_of kb (.inl rfl) ?_
      cases hb : bsd m i (-1) <;> simp [runF, u, hb]
    · simp [u, runF]
end Go.Gv
