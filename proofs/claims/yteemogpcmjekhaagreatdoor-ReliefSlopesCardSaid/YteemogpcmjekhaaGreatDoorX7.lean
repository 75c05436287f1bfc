/-
  Texts of the proof: H7, H9, H11, H12, V3, I2, I3, I4, H13, H14, H15, I5, I6, Y1.
-/
import Derived.Test.YteemogpcmjekhaaGreatDoorX6
import Derived.Test.YteemogpcmjekhaaGreatDoorX5
set_option linter.all false
set_option linter.unusedSimpArgs false
namespace Go.Gv
def nbE1 (m : Msh) (i : Nat) : Env := [(1, .ptr (mshC m)), (3, .mrf 10224), (10224, .mp 3 2 (nbKs m i) (nbVs m i)), (16, slx m.fn (m.f.map fceC)), (17, .int .i64 m.f.length), (18, .int .i64 i)]
theorem nbE1_eq (m : Msh) (i : Nat) : nbE1 m i = [(1, .ptr (mshC m)), (3, .mrf 10224), (10224, .mp 3 2 (nbKs m i) (nbVs m i)), (16, slx m.fn (m.f.map fceC)), (17, .int .i64 m.f.length), (18, .int .i64 i)] := _root_.id rfl
def nbE2 (m : Msh) (i k : Nat) : Env := [(1, .ptr (mshC m)), (3, .mrf 10224), (10224, .mp 3 2 (sdK (fce m i) k ++ nbKs m i) (List.replicate k (.int .i64 i) ++ nbVs m i)), (4, .int .i64 i), (5, .adr (.r 10080) 0 0), (10080, .blk 4 [fceC (fce m i)]), (16, slx m.fn (m.f.map fceC)), (17, .int .i64 m.f.length), (18, .int .i64 i), (23, .int .i64 k)]
theorem nbE2_eq (m : Msh) (i k : Nat) : nbE2 m i k = [(1, .ptr (mshC m)), (3, .mrf 10224), (10224, .mp 3 2 (sdK (fce m i) k ++ nbKs m i) (List.replicate k (.int .i64 i) ++ nbVs m i)), (4, .int .i64 i), (5, .adr (.r 10080) 0 0), (10080, .blk 4 [fceC (fce m i)]), (16, slx m.fn (m.f.map fceC)), (17, .int .i64 m.f.length), (18, .int .i64 i), (23, .int .i64 k)] := _root_.id rfl
def nbE3 (m : Msh) (i : Nat) : Env := [(3, .mrf 10224), (10224, .mp 3 2 (nbKs m m.f.length) (nbVs m m.f.length)), (7, .ref (.r 10112) 0 m.f.length), (10112, .blk 3 (nbR m i 0)), (38, slx m.fn (m.f.map fceC)), (39, .int .i64 m.f.length), (40, .int .i64 i)]
theorem nbE3_eq (m : Msh) (i : Nat) : nbE3 m i = [(3, .mrf 10224), (10224, .mp 3 2 (nbKs m m.f.length) (nbVs m m.f.length)), (7, .ref (.r 10112) 0 m.f.length), (10112, .blk 3 (nbR m i 0)), (38, slx m.fn (m.f.map fceC)), (39, .int .i64 m.f.length), (40, .int .i64 i)] := _root_.id rfl
def nbE4 (m : Msh) (i k : Nat) : Env := [(3, .mrf 10224), (10224, .mp 3 2 (nbKs m m.f.length) (nbVs m m.f.length)), (7, .ref (.r 10112) 0 m.f.length), (10112, .blk 3 (nbR m i k)), (8, .int .i64 i), (9, .adr (.r 10144) 0 0), (10144, .blk 4 [fceC (fce m i)]), (38, slx m.fn (m.f.map fceC)), (39, .int .i64 m.f.length), (40, .int .i64 i), (45, .int .i64 k)]
theorem nbE4_eq (m : Msh) (i k : Nat) : nbE4 m i k = [(3, .mrf 10224), (10224, .mp 3 2 (nbKs m m.f.length) (nbVs m m.f.length)), (7, .ref (.r 10112) 0 m.f.length), (10112, .blk 3 (nbR m i k)), (8, .int .i64 i), (9, .adr (.r 10144) 0 0), (10144, .blk 4 [fceC (fce m i)]), (38, slx m.fn (m.f.map fceC)), (39, .int .i64 m.f.length), (40, .int .i64 i), (45, .int .i64 k)] := _root_.id rfl
variable {C : CC} (hC : Closed prog C)
include hC
set_option maxHeartbeats 2000000 in
theorem neighbours_c (m : Msh) (hv : validM m = true) : C 261 [.agg (mshC m)] (.sl (nbA m)) [] := by
  have hsz := valid_small hv
  have hml : maxLen = 9223372036854775807 := rfl
  refine start hC (nf := N261_mesh_neighbours) rfl rfl ?_
  simp [N261_mesh_neighbours, mshC_eq]
  refine loop_of Nat (fun i => nbE1 m i) (fun i => i ≤ m.f.length) (fun i => m.f.length - i) 0 (by simp) (by simp [nbE1_eq, mshC_eq, nbKs, nbVs]) ?_
  rintro i hi
  simp [nbE1_eq, mshC_eq]
  refine brB_of (fun g1 => ?_) (fun g1 => ?_) <;> simp at g1 <;> simp [g1]
  · have hw : IntKind.wrap .i64 ((i : Int) + 1) = ((i + 1 : Nat) : Int) := wrap_i64 (by omega) (by omega)
    have cb := fun j => crn_bd (valid_in hv g1) j
    have ks := fun k h => mside_c hC (fce m i) k h
    have nl := nbKs_len m i
    simp only [fceC_eq] at ks
    simp [fceC_eq]
    refine loop_of Nat (fun k => nbE2 m i k) (fun k => k ≤ 3) (fun k => 3 - k) 0 (by simp) (by simp [nbE2_eq, mshC_eq, fceC_eq, sdK]) ?_
    rintro k hk
    simp [nbE2_eq, mshC_eq, fceC_eq]
    refine brB_of (fun g2 => ?_) (fun g2 => ?_) <;> simp at g2 <;> simp [g2]
    · have hw2 : IntKind.wrap .i64 ((k : Int) + 1) = ((k + 1 : Nat) : Int) := wrap_i64 (by omega) (by omega)
      have ck := cb k
      have ck1 := cb (k + 1)
      refine callW_of (ks k (by omega)) (.inl rfl) ?_
      simp [hw2, sdK_len]
      refine ⟨by omega, ⟨⟨by omega, by omega⟩, by omega, by omega⟩, by omega, k + 1, by omega, by omega, ?_⟩
      simp [nbE2_eq, mshC_eq, fceC_eq, sdK, List.replicate_succ]
    · have hk3 : k = 3 := by omega
      subst hk3
      simp [hw]
      refine ⟨i + 1, by omega, by omega, ?_⟩
      simp [nbE1_eq, mshC_eq, nbKs, nbVs, List.replicate]
  · have hi2 : i = m.f.length := by omega
    subst hi2
    refine ⟨by omega, ?_⟩
    refine loop_of Nat (fun i => nbE3 m i) (fun i => i ≤ m.f.length) (fun i => m.f.length - i) 0 (by simp) (by simp [nbE3_eq, mshC_eq, nbR_zero]) ?_
    clear hi g1
    rintro i hi
    simp [nbE3_eq, mshC_eq]
    refine brB_of (fun g1 => ?_) (fun g1 => ?_) <;> simp at g1 <;> simp [g1]
    · have hw : IntKind.wrap .i64 ((i : Int) + 1) = ((i + 1 : Nat) : Int) := wrap_i64 (by omega) (by omega)
      have cb := fun j => crn_bd (valid_in hv g1) j
      have ks := fun k h => mside_c hC (fce m i) k h
      simp only [fceC_eq] at ks
      simp [fceC_eq]
      refine loop_of Nat (fun k => nbE4 m i k) (fun k => k ≤ 3) (fun k => 3 - k) 0 (by simp) (by simp [nbE4_eq, mshC_eq, fceC_eq]) ?_
      rintro k hk
      simp [nbE4_eq, mshC_eq, fceC_eq]
      refine brB_of (fun g2 => ?_) (fun g2 => ?_) <;> simp at g2 <;> simp [g2]
      · have hw2 : IntKind.wrap .i64 ((k : Int) + 1) = ((k + 1 : Nat) : Int) := wrap_i64 (by omega) (by omega)
        have ck := cb k
        have ck1 := cb (k + 1)
        have hg := nb_get m (crn (fce m i) (k + 1)) (crn (fce m i) k) m.f.length
        have hl : nbF m i k = match lastF (fun j => hasSd (fce m j) (crn (fce m i) (k + 1)) (crn (fce m i) k)) m.f.length with
          | some j => (j : Int)
          | none => -1 := sideF_last hv _ _
        have hset := nbR_set m g1 (k := k) (by omega)
        have hget := nbR_get m (i := i) (k := k) g1
        cases hl0 : lastF (fun j => hasSd (fce m j) (crn (fce m i) (k + 1)) (crn (fce m i) k)) m.f.length with
        | none =>
          rw [hl0] at hg hl
          simp at hg
          rcases (by omega : k = 0 ∨ k = 1 ∨ k = 2) with rfl | rfl | rfl
          · refine callW_of (ks 0 (by omega)) (.inl rfl) ?_
            simp at ck ck1 hset hget
            simp [hg]
            refine ⟨⟨⟨by omega, by omega⟩, by omega, by omega⟩, g1, ?_⟩
            rw [hget]
            simp [hget]
            refine ⟨1, by omega, by omega, ?_⟩
            rw [hl] at hset
            simp [nbE4_eq, mshC_eq, fceC_eq, hset, w64_1, w64_2, w64_3]
          · refine callW_of (ks 1 (by omega)) (.inl rfl) ?_
            simp at ck ck1 hset hget
            simp [hg]
            refine ⟨⟨⟨by omega, by omega⟩, by omega, by omega⟩, g1, ?_⟩
            rw [hget]
            simp [hget]
            refine ⟨2, by omega, by omega, ?_⟩
            rw [hl] at hset
            simp [nbE4_eq, mshC_eq, fceC_eq, hset, w64_1, w64_2, w64_3]
          · refine callW_of (ks 2 (by omega)) (.inl rfl) ?_
            simp at ck ck1 hset hget
            simp [hg]
            refine ⟨⟨⟨by omega, by omega⟩, by omega, by omega⟩, g1, ?_⟩
            rw [hget]
            simp [hget]
            refine ⟨3, by omega, by omega, ?_⟩
            rw [hl] at hset
            simp [nbE4_eq, mshC_eq, fceC_eq, hset, w64_1, w64_2, w64_3]
        | some j =>
          rw [hl0] at hg hl
          simp at hg
          rcases (by omega : k = 0 ∨ k = 1 ∨ k = 2) with rfl | rfl | rfl
          · refine callW_of (ks 0 (by omega)) (.inl rfl) ?_
            simp at ck ck1 hset hget
            simp [hg]
            refine ⟨⟨⟨by omega, by omega⟩, by omega, by omega⟩, g1, ?_⟩
            rw [hget]
            simp [hget]
            refine ⟨1, by omega, by omega, ?_⟩
            rw [hl] at hset
            simp [nbE4_eq, mshC_eq, fceC_eq, hset, w64_1, w64_2, w64_3]
          · refine callW_of (ks 1 (by omega)) (.inl rfl) ?_
            simp at ck ck1 hset hget
            simp [hg]
            refine ⟨⟨⟨by omega, by omega⟩, by omega, by omega⟩, g1, ?_⟩
            rw [hget]
            simp [hget]
            refine ⟨2, by omega, by omega, ?_⟩
            rw [hl] at hset
            simp [nbE4_eq, mshC_eq, fceC_eq, hset, w64_1, w64_2, w64_3]
          · refine callW_of (ks 2 (by omega)) (.inl rfl) ?_
            simp at ck ck1 hset hget
            simp [hg]
            refine ⟨⟨⟨by omega, by omega⟩, by omega, by omega⟩, g1, ?_⟩
            rw [hget]
            simp [hget]
            refine ⟨3, by omega, by omega, ?_⟩
            rw [hl] at hset
            simp [nbE4_eq, mshC_eq, fceC_eq, hset, w64_1, w64_2, w64_3]
      · have hk3 : k = 3 := by omega
        subst hk3
        simp [hw]
        refine ⟨i + 1, by omega, by omega, ?_⟩
        simp [nbE3_eq, mshC_eq, nbR_next]
    · have hi2 : i = m.f.length := by omega
      subst hi2
      rw [nbR_all]
end Go.Gv

set_option linter.unusedSimpArgs false
namespace Go.Gv
theorem rightS_bd {s : Spt} (h : rightS s = true) : -16777216 ≤ s.x ∧ s.x ≤ 16777216 ∧ -16777216 ≤ s.y ∧ s.y ≤ 16777216 ∧ -4194304 ≤ s.z ∧ s.z ≤ 4194304 := by
  simp only [rightS, Bool.and_eq_true, decide_eq_true_eq] at h
  omega
def spA (m : Msh) (i : Nat) : Spt := spt m (fce m i).a.toNat
def spB (m : Msh) (i : Nat) : Spt := spt m (fce m i).b.toNat
def spC (m : Msh) (i : Nat) : Spt := spt m (fce m i).c.toNat
def sumF (m : Msh) (i : Nat) : Int := (spA m i).z + (spB m i).z + (spC m i).z
def cenX (m : Msh) (i : Nat) : Int := (spA m i).x + (spB m i).x + (spC m i).x
def cenY (m : Msh) (i : Nat) : Int := (spA m i).y + (spB m i).y + (spC m i).y
theorem spA_eq (m : Msh) (i : Nat) : spt m (fce m i).a.toNat = spA m i := rfl
theorem spB_eq (m : Msh) (i : Nat) : spt m (fce m i).b.toNat = spB m i := rfl
theorem spC_eq (m : Msh) (i : Nat) : spt m (fce m i).c.toNat = spC m i := rfl
theorem sp_bd {m : Msh} (hv : validM m = true) {i : Nat} (hi : i < m.f.length) : rightS (spA m i) = true ∧ rightS (spB m i) = true ∧ rightS (spC m i) = true := by
  obtain ⟨⟨_, h1⟩, ⟨_, h2⟩, ⟨_, h3⟩⟩ := inS_bd (valid_in hv hi)
  exact ⟨valid_s hv h1, valid_s hv h2, valid_s hv h3⟩
theorem sumF_bd {m : Msh} (hv : validM m = true) {i : Nat} (hi : i < m.f.length) : -12582912 ≤ sumF m i ∧ sumF m i ≤ 12582912 := by
  obtain ⟨h1, h2, h3⟩ := sp_bd hv hi
  have := rightS_bd h1
  have := rightS_bd h2
  have := rightS_bd h3
  unfold sumF
  omega
theorem cen_bd {m : Msh} (hv : validM m = true) {i : Nat} (hi : i < m.f.length) : -50331648 ≤ cenX m i ∧ cenX m i ≤ 50331648 ∧ -50331648 ≤ cenY m i ∧ cenY m i ≤ 50331648 := by
  obtain ⟨h1, h2, h3⟩ := sp_bd hv hi
  have := rightS_bd h1
  have := rightS_bd h2
  have := rightS_bd h3
  unfold cenX cenY
  omega
def smR (m : Msh) (i : Nat) : List (List D) := (List.range i).map fun j => [.int .i64 (sumF m j)]
def ctR (m : Msh) (i : Nat) : List (List D) := (List.range i).map fun j => [.int .i64 (cenX m j), .int .i64 (cenY m j)]
@[simp] theorem smR_len (m : Msh) (i : Nat) : (smR m i).length = i := by simp [smR]
@[simp] theorem ctR_len (m : Msh) (i : Nat) : (ctR m i).length = i := by simp [ctR]
@[simp] theorem smR_take (m : Msh) (i : Nat) : List.take i (smR m i) = smR m i := List.take_of_length_le (by simp)
@[simp] theorem ctR_take (m : Msh) (i : Nat) : List.take i (ctR m i) = ctR m i := List.take_of_length_le (by simp)
theorem smR_add (m : Msh) (i : Nat) : smR m i ++ [[.int .i64 (sumF m i)]] = smR m (i + 1) := by simp [smR, List.range_succ]
theorem ctR_add (m : Msh) (i : Nat) : ctR m i ++ [[.int .i64 (cenX m i), .int .i64 (cenY m i)]] = ctR m (i + 1) := by simp [ctR, List.range_succ]
@[simp] theorem smR_c1a (m : Msh) (i : Nat) (x : List D) : (∀ e, e ∈ smR m i ∨ e = x → ∀ c, c ∈ e → isC1 c = true) = ∀ c, c ∈ x → isC1 c = true := by
  apply propext
  constructor
  · exact fun h => h x (.inr rfl)
  · rintro h e (he | rfl)
    · obtain ⟨j, _, rfl⟩ := List.mem_map.1 he
      simp
    · exact h
@[simp] theorem ctR_c1a (m : Msh) (i : Nat) (x : List D) : (∀ e, e ∈ ctR m i ∨ e = x → ∀ c, c ∈ e → isC1 c = true) = ∀ c, c ∈ x → isC1 c = true := by
  apply propext
  constructor
  · exact fun h => h x (.inr rfl)
  · rintro h e (he | rfl)
    · obtain ⟨j, _, rfl⟩ := List.mem_map.1 he
      simp
    · exact h
/-- A cell that is nil at first. -/
def cN (sz : Nat) (es : List (List D)) : D := match es with
  | [] => .nils
  | e :: r => .own sz (e :: r)
@[simp] theorem cellV_cN (sz : Nat) (es : List (List D)) : cellV (cN sz es) = slx true es := by cases es <;> rfl
/-- A ground. -/
def grC (m : Msh) : List D := [.sl (nbA m), slx true (smR m m.f.length), slx true (ctR m m.f.length)]
theorem grC_eq (m : Msh) : grC m = [.sl (nbA m), slx true (smR m m.f.length), slx true (ctR m m.f.length)] := _root_.id rfl
def mdE (m : Msh) (i : Nat) : Env := [(1, .ptr (mshC m)), (6, .adr (.r 10352) 0 0), (10352, .blk 3 [[.sl (nbA m), cN 1 (smR m i), cN 2 (ctR m i)]]), (24, slx m.fn (m.f.map fceC)), (25, .int .i64 m.f.length), (26, .int .i64 i)]
theorem mdE_eq (m : Msh) (i : Nat) : mdE m i = [(1, .ptr (mshC m)), (6, .adr (.r 10352) 0 0), (10352, .blk 3 [[.sl (nbA m), cN 1 (smR m i), cN 2 (ctR m i)]]), (24, slx m.fn (m.f.map fceC)), (25, .int .i64 m.f.length), (26, .int .i64 i)] := _root_.id rfl
theorem cN_sm (m : Msh) (i : Nat) : cN 1 (smR m (i + 1)) = .own 1 (smR m (i + 1)) := by
  have : (smR m (i + 1)).length = i + 1 := by simp
  cases h : smR m (i + 1) with
  | nil => rw [h] at this; simp at this
  | cons e r => rfl
theorem cN_ct (m : Msh) (i : Nat) : cN 2 (ctR m (i + 1)) = .own 2 (ctR m (i + 1)) := by
  have : (ctR m (i + 1)).length = i + 1 := by simp
  cases h : ctR m (i + 1) with
  | nil => rw [h] at this; simp at this
  | cons e r => rfl
variable {C : CC} (hC : Closed prog C)
include hC
theorem Neighbours_c (dec : Nat → List UInt8) (hI : ∀ n : Nat, n < 100 → C 127 [.int .i64 n] (.str (dec n)) []) (m : Msh) (hz : smallM m = true → m.s.length ≤ 100 ∧ m.f.length ≤ 100) :
    C 221 [.agg (mshC m)] (if validM m then .tup [.sl (nbA m), .int .i64 0] else .tup [.nils, .int .i64 1]) [] := by
  have k := mValid_c hC dec hI m hz
  refine start hC (nf := N221_mesh_Neighbours) rfl rfl ?_
  simp only [mshC_eq] at k
  simp [N221_mesh_Neighbours, mshC_eq]
  refine callW_of k (.inl rfl) ?_
  cases hv : validM m
  · simp
  · have k2 := neighbours_c hC m hv
    simp only [mshC_eq] at k2
    simp
    refine callW_of k2 (.inr rfl) ?_
    simp
set_option maxRecDepth 8000 in
set_option maxHeartbeats 2000000 in
theorem made_c (dec : Nat → List UInt8) (hI : ∀ n : Nat, n < 100 → C 127 [.int .i64 n] (.str (dec n)) []) (m : Msh) (hz : smallM m = true → m.s.length ≤ 100 ∧ m.f.length ≤ 100) :
    C 253 [.agg (mshC m)] (if validM m then .tup [.ptr (grC m), .int .i64 0] else .tup [.nilp, .int .i64 1]) [] := by
  have k := Neighbours_c hC dec hI m hz
  refine start hC (nf := N253_relief_made) rfl rfl ?_
  simp only [mshC_eq] at k
  simp [N253_relief_made, mshC_eq]
  refine callW_of k (.inr rfl) ?_
  cases hv : validM m
  · simp
  · have hsz := valid_small hv
    simp
    refine loop_of Nat (fun i => mdE m i) (fun i => i ≤ m.f.length) (fun i => m.f.length - i) 0 (by simp) (by simp [mdE_eq, mshC_eq, smR, ctR, cN]) ?_
    rintro i hi
    simp [mdE_eq, mshC_eq]
    refine brB_of (fun g1 => ?_) (fun g1 => ?_) <;> simp at g1 <;> simp [g1]
    · have hw : IntKind.wrap .i64 ((i : Int) + 1) = ((i + 1 : Nat) : Int) := wrap_i64 (by omega) (by omega)
      obtain ⟨⟨a1, a2⟩, ⟨b1, b2⟩, ⟨c1, c2⟩⟩ := inS_bd (valid_in hv g1)
      obtain ⟨h1, h2, h3⟩ := sp_bd hv g1
      have h1 := rightS_bd h1
      have h2 := rightS_bd h2
      have h3 := rightS_bd h3
      have wz1 : IntKind.wrap .i64 ((spA m i).z + (spB m i).z) = (spA m i).z + (spB m i).z := wrap_i64 rfl (by omega)
      have wz2 : IntKind.wrap .i64 ((spA m i).z + (spB m i).z + (spC m i).z) = sumF m i := wrap_i64 rfl (by unfold sumF; omega)
      have wx1 : IntKind.wrap .i64 ((spA m i).x + (spB m i).x) = (spA m i).x + (spB m i).x := wrap_i64 rfl (by omega)
      have wx2 : IntKind.wrap .i64 ((spA m i).x + (spB m i).x + (spC m i).x) = cenX m i := wrap_i64 rfl (by unfold cenX; omega)
      have wy1 : IntKind.wrap .i64 ((spA m i).y + (spB m i).y) = (spA m i).y + (spB m i).y := wrap_i64 rfl (by omega)
      have wy2 : IntKind.wrap .i64 ((spA m i).y + (spB m i).y + (spC m i).y) = cenY m i := wrap_i64 rfl (by unfold cenY; omega)
      simp [fceC_eq, a1, a2, b1, b2, c1, c2, sptC_eq, spA_eq, spB_eq, spC_eq]
      refine ⟨indW_of (by decide +kernel), ?_⟩
      cases i with
      | zero =>
        simp [smR, ctR, cN]
        refine ⟨indW_of (by decide +kernel), indW_of (by decide +kernel), 1, by omega, by omega, ?_⟩
        simp [mdE_eq, mshC_eq, smR, ctR, cN, w64_1, wz1, wz2, wx1, wx2, wy1, wy2]
      | succ j =>
        simp [cN_sm, cN_ct]
        have e1 := smR_add m (j + 1)
        have e2 := ctR_add m (j + 1)
        refine ⟨by omega, indW_of (by decide +kernel), by omega, indW_of (by decide +kernel), j + 1 + 1, by omega, by omega, ?_⟩
        simp [mdE_eq, mshC_eq, cN_sm, cN_ct, wz1, wz2, wx1, wx2, wy1, wy2, e1, e2]
        exact wrap_i64 rfl (by omega)
    · have hi2 : i = m.f.length := by omega
      subst hi2
      simp [grC_eq]
end Go.Gv

set_option linter.unusedSimpArgs false
namespace Go.Gv
theorem smR_eq (m : Msh) (i : Nat) : smR m i = (List.range i).map fun j => [.int .i64 (sumF m j)] := rfl
theorem ctR_eq (m : Msh) (i : Nat) : ctR m i = (List.range i).map fun j => [.int .i64 (cenX m j), .int .i64 (cenY m j)] := rfl
theorem nbA_eq (m : Msh) : nbA m = (List.range m.f.length).map fun j => [.int .i64 (nbF m j 0), .int .i64 (nbF m j 1), .int .i64 (nbF m j 2)] := rfl
theorem range_gd (n i : Nat) (h : i < n) : (List.range n)[i]?.getD default = i := by simp [h]
theorem range_g0 (n i : Nat) (h : i < n) : (List.range n)[i]?.getD 0 = i := by simp [h]
theorem idxD_bd {α : Type} (p : α → Bool) (xs : List α) : -1 ≤ idxD p xs ∧ idxD p xs < xs.length := by
  unfold idxD
  split
  · rename_i i h
    have := (List.findIdx?_eq_some_iff_getElem.1 h).1
    omega
  · omega
theorem nbF_bd (m : Msh) (i k : Nat) : -1 ≤ nbF m i k ∧ nbF m i k < m.f.length := idxD_bd _ _
/-- It is beside it. -/
def bsd (m : Msh) (i : Nat) (o : Int) : Bool := decide (o = nbF m i 0) || (decide (o = nbF m i 1) || decide (o = nbF m i 2))
def difF (m : Msh) (i j : Nat) : Int := sumF m i - sumF m j
def numF (m : Msh) (i j : Nat) : Int := difF m i j * (if difF m i j < -difF m i j then -difF m i j else difF m i j)
def denF (m : Msh) (i j : Nat) : Int := (cenX m i - cenX m j) * (cenX m i - cenX m j) + (cenY m i - cenY m j) * (cenY m i - cenY m j)
def cmpF (m : Msh) (i a b : Nat) : Int := cmp3 (numF m i a * denF m i b) (numF m i b * denF m i a)
def stpF (m : Msh) (i : Nat) (best n : Int) : Int := if n < 0 ∨ sumF m i ≤ sumF m n.toNat then best else if best < 0 then n else if 0 < cmpF m i n.toNat best.toNat ∨ (cmpF m i n.toNat best.toNat = 0 ∧ n < best) then n else best
def upF (m : Msh) (i : Nat) : Nat → Int
  | 0 => -2
  | k + 1 => stpF m i (upF m i k) (nbF m i k)
def runF (m : Msh) (i : Nat) : Int := if upF m i 3 = -2 ∧ bsd m i (-1) = true then -1 else upF m i 3
theorem upF_bd (m : Msh) (i : Nat) : ∀ k, upF m i k = -2 ∨ (0 ≤ upF m i k ∧ upF m i k < m.f.length ∧ sumF m (upF m i k).toNat < sumF m i)
  | 0 => .inl rfl
  | k + 1 => by
    have := nbF_bd m i k
    rw [upF, stpF]
    by_cases h : nbF m i k < 0 ∨ sumF m i ≤ sumF m (nbF m i k).toNat
    · rw [if_pos h]; exact upF_bd m i k
    · rw [if_neg h]
      have h1 : 0 ≤ nbF m i k ∧ nbF m i k < m.f.length ∧ sumF m (nbF m i k).toNat < sumF m i := by omega
      split
      · exact .inr h1
      · split
        · exact .inr h1
        · exact upF_bd m i k
theorem numF_bd {m : Msh} (hv : validM m = true) {i j : Nat} (hi : i < m.f.length) (hj : j < m.f.length) : -1125899906842624 ≤ numF m i j ∧ numF m i j ≤ 1125899906842624 := by
  have h1 := sumF_bd hv hi
  have h2 := sumF_bd hv hj
  unfold numF
  have h3 : -33554432 ≤ difF m i j ∧ difF m i j ≤ 33554432 := by unfold difF; omega
  exact mul_bd (k := 33554432) (l := 33554432) (by omega) (by omega) (by split <;> omega) (by split <;> omega)
theorem sq_nn (a : Int) : 0 ≤ a * a := by
  rcases Int.le_total 0 a with h | h
  · exact Int.mul_nonneg h h
  · exact Int.mul_nonneg_of_nonpos_of_nonpos h h
theorem denF_bd {m : Msh} (hv : validM m = true) {i j : Nat} (hi : i < m.f.length) (hj : j < m.f.length) : 0 ≤ denF m i j ∧ denF m i j ≤ 36028797018963968 := by
  have h1 := cen_bd hv hi
  have h2 := cen_bd hv hj
  have h3 := mul_bd (k := 134217728) (l := 134217728) (a := cenX m i - cenX m j) (b := cenX m i - cenX m j) (by omega) (by omega) (by omega) (by omega)
  have h4 := mul_bd (k := 134217728) (l := 134217728) (a := cenY m i - cenY m j) (b := cenY m i - cenY m j) (by omega) (by omega) (by omega) (by omega)
  have h5 := sq_nn (cenX m i - cenX m j)
  have h6 := sq_nn (cenY m i - cenY m j)
  unfold denF
  omega
theorem numF_nn {m : Msh} {i j : Nat} (h : sumF m j ≤ sumF m i) : 0 ≤ numF m i j := by
  unfold numF
  have : 0 ≤ difF m i j := by unfold difF; omega
  exact Int.mul_nonneg this (by split <;> omega)
variable {C : CC} (hC : Closed prog C)
include hC
theorem idxIs_c {b : Bool} {xs : List Int} (o : Int) (hs : xs.length < 2 ^ 62) : C 262 [slx b (xs.map fun x => [.int .i64 x]), .int .i64 o] (.int .i64 (idxD (fun x => decide (o = x)) xs)) [] := by
  refine start hC (nf := N262_slices_Index__int_int) rfl rfl ?_
  simp [N262_slices_Index__int_int]
  refine loop_of Nat (fun i => [(0, slx b (xs.map fun x => [.int .i64 x])), (1, .int .i64 o), (7, .int .i64 xs.length), (8, .int .i64 i)]) (fun i => i ≤ xs.length ∧ ∀ (j : Nat) (h : j < xs.length), j < i → decide (o = xs[j]) = false) (fun i => xs.length - i) 0 (by simp) (by simp) ?_
  rintro i ⟨hi, hj⟩
  simp
  refine brB_of (fun h => ?_) (fun h => ?_) <;> simp [h] <;> simp at h
  · have hw : IntKind.wrap .i64 ((i : Int) + 1) = ((i + 1 : Nat) : Int) := wrap_i64 (by omega) (by omega)
    simp [h, List.getElem_map]
    refine brB_of (fun h1 => ?_) (fun h1 => ?_) <;> simp at h1 <;> simp [hw]
    · rw [idxD_step hj h (by simpa using h1)]
    · refine ⟨i + 1, ⟨by omega, fun j hl hjj => ?_⟩, by omega, by omega⟩
      rcases Nat.lt_succ_iff_lt_or_eq.1 hjj with h2 | rfl
      · simpa using hj j hl h2
      · exact h1
  · rw [idxD_none (fun j hl => hj j hl (by omega))]
theorem hasIs_c {b : Bool} {xs : List Int} (o : Int) (hs : xs.length < 2 ^ 62) : C 223 [slx b (xs.map fun x => [.int .i64 x]), .int .i64 o] (.bool (xs.any fun x => decide (o = x))) [] := by
  refine start hC (nf := N223_slices_Contains__int_int) rfl rfl ?_
  simp [N223_slices_Contains__int_int]
  refine callW_of (idxIs_c hC o hs) (.inl rfl) ?_
  simp [idxD_any]
theorem beside_c (m : Msh) (i : Nat) (hi : i < m.f.length) (o : Int) : C 263 [.ptr (grC m), .int .i64 i, .int .i64 o] (.bool (bsd m i o)) [] := by
  have k := hasIs_c hC (b := false) (xs := [nbF m i 0, nbF m i 1, nbF m i 2]) o (by simp)
  simp at k
  refine start hC (nf := N263_relief_ground_beside) rfl rfl ?_
  simp [N263_relief_ground_beside, grC_eq, nbA_eq, hi, range_gd, chunks]
  refine callW_of k (.inl rfl) ?_
  simp [bsd]
set_option maxRecDepth 8000 in
set_option maxHeartbeats 1000000 in
theorem descent_c (m : Msh) (hv : validM m = true) (i j : Nat) (hi : i < m.f.length) (hj : j < m.f.length) : C 264 [.ptr (grC m), .int .i64 i, .int .i64 j] (.tup [.int .i64 (numF m i j), .int .i64 (denF m i j)]) [] := by
  have h1 := sumF_bd hv hi
  have h2 := sumF_bd hv hj
  have h3 := cen_bd hv hi
  have h4 := cen_bd hv hj
  have h5 := numF_bd hv hi hj
  have h6 := denF_bd hv hi hj
  have h7 := mul_bd (k := 134217728) (l := 134217728) (a := cenX m i - cenX m j) (b := cenX m i - cenX m j) (by omega) (by omega) (by omega) (by omega)
  have h8 := mul_bd (k := 134217728) (l := 134217728) (a := cenY m i - cenY m j) (b := cenY m i - cenY m j) (by omega) (by omega) (by omega) (by omega)
  have w1 : IntKind.wrap .i64 (sumF m i - sumF m j) = difF m i j := wrap_i64 rfl (by unfold difF; omega)
  have w2 : IntKind.wrap .i64 (cenX m i - cenX m j) = cenX m i - cenX m j := wrap_i64 rfl (by omega)
  have w3 : IntKind.wrap .i64 (cenY m i - cenY m j) = cenY m i - cenY m j := wrap_i64 rfl (by omega)
  have w4 : IntKind.wrap .i64 (-difF m i j) = -difF m i j := wrap_i64 rfl (by unfold difF; omega)
  have w5 : IntKind.wrap .i64 (difF m i j * (if difF m i j < -difF m i j then -difF m i j else difF m i j)) = numF m i j := wrap_i64 rfl (by omega)
  have w6 : IntKind.wrap .i64 ((cenX m i - cenX m j) * (cenX m i - cenX m j)) = (cenX m i - cenX m j) * (cenX m i - cenX m j) := wrap_i64 rfl (by omega)
  have w7 : IntKind.wrap .i64 ((cenY m i - cenY m j) * (cenY m i - cenY m j)) = (cenY m i - cenY m j) * (cenY m i - cenY m j) := wrap_i64 rfl (by omega)
  have w8 : IntKind.wrap .i64 ((cenX m i - cenX m j) * (cenX m i - cenX m j) + (cenY m i - cenY m j) * (cenY m i - cenY m j)) = denF m i j := wrap_i64 rfl (by omega)
  refine start hC (nf := N264_relief_ground_descent) rfl rfl ?_
  simp [N264_relief_ground_descent, grC_eq, smR_eq, ctR_eq, hi, hj, range_gd, w1, w2, w3, w4, w6, w7, w8]
  exact ⟨indW_of (by decide +kernel), indW_of (by decide +kernel), w5.symm⟩
theorem gcompare_c (m : Msh) (hv : validM m = true) (i a b : Nat) (hi : i < m.f.length) (ha : a < m.f.length) (hb : b < m.f.length) (sa : sumF m a ≤ sumF m i) (sb : sumF m b ≤ sumF m i) :
    C 268 [.ptr (grC m), .int .i64 i, .int .i64 a, .int .i64 b] (.int .i64 (cmpF m i a b)) [] := by
  have k1 := descent_c hC m hv i a hi ha
  have k2 := descent_c hC m hv i b hi hb
  have n1 := numF_bd hv hi ha
  have n2 := numF_bd hv hi hb
  have n3 := numF_nn sa
  have n4 := numF_nn sb
  have d1 := denF_bd hv hi ha
  have d2 := denF_bd hv hi hb
  obtain ⟨x, hx⟩ : ∃ x : Nat, numF m i a = x := ⟨(numF m i a).toNat, by omega⟩
  obtain ⟨y, hy⟩ : ∃ x : Nat, numF m i b = x := ⟨(numF m i b).toNat, by omega⟩
  obtain ⟨p, hp⟩ : ∃ x : Nat, denF m i a = x := ⟨(denF m i a).toNat, by omega⟩
  obtain ⟨q, hq⟩ : ∃ x : Nat, denF m i b = x := ⟨(denF m i b).toNat, by omega⟩
  have b1 : x * q ≤ 1125899906842624 * 36028797018963968 := Nat.mul_le_mul (by omega) (by omega)
  have b2 : y * p ≤ 1125899906842624 * 36028797018963968 := Nat.mul_le_mul (by omega) (by omega)
  have k3 := Product_c hC x q (by omega) (by omega) (by omega)
  have k4 := Product_c hC y p (by omega) (by omega) (by omega)
  have k5 := Cmp_c hC (x * q) (y * p) (by omega) (by omega)
  have e : cmpF m i a b = cmp3 ((x * q : Nat) : Int) ((y * p : Nat) : Int) := by rw [cmpF, hx, hy, hp, hq]; simp
  rw [hx, hp] at k1
  rw [hy, hq] at k2
  rw [e]
  obtain ⟨c, hc⟩ : ∃ c, c = cmp3 ((x * q : Nat) : Int) ((y * p : Nat) : Int) := ⟨_, rfl⟩
  rw [← hc] at k5 ⊢
  obtain ⟨u1, u2, eu⟩ := wiD_ex (x * q)
  obtain ⟨v1, v2, ev⟩ := wiD_ex (y * p)
  rw [eu] at k3 k5
  rw [ev] at k4 k5
  obtain ⟨G, hG⟩ : ∃ G, G = grC m := ⟨_, rfl⟩
  rw [← hG] at k1 k2 ⊢
  refine start hC (nf := N268_relief_ground_compare) rfl rfl ?_
  simp [N268_relief_ground_compare]
  refine callW_of k1 (.inl rfl) ?_
  simp
  refine callW_of k2 (.inl rfl) ?_
  simp
  refine callW_of k3 (.inr rfl) ?_
  simp
  refine callW_of k4 (.inr rfl) ?_
  simp
  refine callW_of k5 (.inl rfl) ?_
  simp
set_option maxRecDepth 8000 in
set_option maxHeartbeats 2000000 in
theorem runs_c (m : Msh) (hv : validM m = true) (i : Nat) (hi : i < m.f.length) : C 256 [.ptr (grC m), .int .i64 i] (.int .i64 (runF m i)) [] := by
  have kb := beside_c hC m i hi (-1)
  have kc := fun a b ha hb sa sb => gcompare_c hC m hv i a b hi ha hb sa sb
  refine start hC (nf := N256_relief_ground_runs) rfl rfl ?_
  simp [N256_relief_ground_runs, grC_eq, nbA_eq, hi, range_gd]
  refine loop_of Nat (fun k => [(0, .ptr (grC m)), (1, .int .i64 i), (5, .int .i64 (upF m i k)), (15, .agg [.int .i64 (nbF m i 0), .int .i64 (nbF m i 1), .int .i64 (nbF m i 2)]), (16, .int .i64 k)]) (fun k => k ≤ 3) (fun k => 3 - k) 0 (by simp) (by simp [grC_eq, nbA_eq, upF]) ?_
  rintro k hk
  rcases (by omega : k = 0 ∨ k = 1 ∨ k = 2 ∨ k = 3) with rfl | rfl | rfl | rfl
  · have step : upF m i 1 = stpF m i (upF m i 0) (nbF m i 0) := rfl
    have nb := nbF_bd m i 0
    have ub := upF_bd m i 0
    obtain ⟨N, hN⟩ : ∃ N, N = nbF m i 0 := ⟨_, rfl⟩
    obtain ⟨B, hB⟩ : ∃ B, B = upF m i 0 := ⟨_, rfl⟩
    rw [← hN] at step nb
    rw [← hB] at step ub
    simp [w64_1, w64_2, w64_3]
    rw [← hN, ← hB]
    refine brB_of (fun c1 => ?_) (fun c1 => ?_) <;> simp at c1
    · simp [c1, w64_1, w64_2, w64_3]
      refine ⟨indW_of (by decide +kernel), ?_⟩
      refine ⟨1, by omega, by omega, ?_, ?_⟩
      · rw [step, stpF, if_pos (.inl c1)]
      · simp
    · have hNl : N.toNat < m.f.length := by omega
      simp [Int.not_lt.2 c1, c1, grC_eq, smR_eq, hi, hNl, range_gd, range_g0]
      refine ⟨indW_of (by decide +kernel), ?_⟩
      refine brB_of (fun c2 => ?_) (fun c2 => ?_) <;> simp at c2
      · simp [c2, w64_1, w64_2, w64_3]
        refine ⟨1, by omega, by omega, rfl, ?_, ?_⟩
        · rw [step, stpF, if_pos (.inr c2)]
        · simp
      · have hno : ¬ (N < 0 ∨ sumF m i ≤ sumF m N.toNat) := by omega
        simp [Int.not_le.2 c2]
        refine brB_of (fun c3 => ?_) (fun c3 => ?_) <;> simp at c3
        · simp [c3, w64_1, w64_2, w64_3]
          refine ⟨1, by omega, by omega, rfl, ?_, ?_⟩
          · rw [step, stpF, if_neg hno, if_pos c3]
          · simp
        · have hc := kc N.toNat B.toNat hNl (by omega) (by omega) (by omega)
          rw [Int.toNat_of_nonneg c1, Int.toNat_of_nonneg c3] at hc
          obtain ⟨c, hcc⟩ : ∃ c, c = cmpF m i N.toNat B.toNat := ⟨_, rfl⟩
          rw [← hcc] at hc
          have hB0 : ¬ B < 0 := by omega
          simp only [grC_eq, smR_eq] at hc
          simp [Int.not_lt.2 c3, grC_eq, smR_eq]
          refine callW_of hc (.inl rfl) ?_
          simp
          refine brB_of (fun c4 => ?_) (fun c4 => ?_) <;> simp at c4
          · simp [c4, w64_1, w64_2, w64_3]
            refine ⟨1, by omega, by omega, rfl, ?_, ?_⟩
            · rw [step, stpF, if_neg hno, if_neg hB0, if_pos (.inl (by rw [← hcc]; exact c4))]
            · simp
          · simp [Int.not_lt.2 c4]
            by_cases c5 : c = 0
            · simp [c5]
              by_cases c6 : N < B
              · simp [c6, w64_1, w64_2, w64_3]
                refine ⟨1, by omega, by omega, rfl, ?_, ?_⟩
                · rw [step, stpF, if_neg hno, if_neg hB0, if_pos (.inr ⟨by rw [← hcc]; exact c5, c6⟩)]
                · simp
              · simp [c6, w64_1, w64_2, w64_3]
                refine ⟨1, by omega, by omega, rfl, ?_, ?_⟩
                · rw [step, stpF, if_neg hno, if_neg hB0, if_neg (by rw [← hcc]; omega)]
                · simp
            · simp [c5, w64_1, w64_2, w64_3]
              refine ⟨1, by omega, by omega, rfl, ?_, ?_⟩
              · rw [step, stpF, if_neg hno, if_neg hB0, if_neg (by rw [← hcc]; omega)]
              · simp
  · have step : upF m i 2 = stpF m i (upF m i 1) (nbF m i 1) := rfl
    have nb := nbF_bd m i 1
    have ub := upF_bd m i 1
    obtain ⟨N, hN⟩ : ∃ N, N = nbF m i 1 := ⟨_, rfl⟩
    obtain ⟨B, hB⟩ : ∃ B, B = upF m i 1 := ⟨_, rfl⟩
    rw [← hN] at step nb
    rw [← hB] at step ub
    simp [w64_1, w64_2, w64_3]
    rw [← hN, ← hB]
    refine brB_of (fun c1 => ?_) (fun c1 => ?_) <;> simp at c1
    · simp [c1, w64_1, w64_2, w64_3]
      refine ⟨indW_of (by decide +kernel), ?_⟩
      refine ⟨2, by omega, by omega, ?_, ?_⟩
      · rw [step, stpF, if_pos (.inl c1)]
      · simp
    · have hNl : N.toNat < m.f.length := by omega
      simp [Int.not_lt.2 c1, c1, grC_eq, smR_eq, hi, hNl, range_gd, range_g0]
      refine ⟨indW_of (by decide +kernel), ?_⟩
      refine brB_of (fun c2 => ?_) (fun c2 => ?_) <;> simp at c2
      · simp [c2, w64_1, w64_2, w64_3]
        refine ⟨2, by omega, by omega, rfl, ?_, ?_⟩
        · rw [step, stpF, if_pos (.inr c2)]
        · simp
      · have hno : ¬ (N < 0 ∨ sumF m i ≤ sumF m N.toNat) := by omega
        simp [Int.not_le.2 c2]
        refine brB_of (fun c3 => ?_) (fun c3 => ?_) <;> simp at c3
        · simp [c3, w64_1, w64_2, w64_3]
          refine ⟨2, by omega, by omega, rfl, ?_, ?_⟩
          · rw [step, stpF, if_neg hno, if_pos c3]
          · simp
        · have hc := kc N.toNat B.toNat hNl (by omega) (by omega) (by omega)
          rw [Int.toNat_of_nonneg c1, Int.toNat_of_nonneg c3] at hc
          obtain ⟨c, hcc⟩ : ∃ c, c = cmpF m i N.toNat B.toNat := ⟨_, rfl⟩
          rw [← hcc] at hc
          have hB0 : ¬ B < 0 := by omega
          simp only [grC_eq, smR_eq] at hc
          simp [Int.not_lt.2 c3, grC_eq, smR_eq]
          refine callW_of hc (.inl rfl) ?_
          simp
          refine brB_of (fun c4 => ?_) (fun c4 => ?_) <;> simp at c4
          · simp [c4, w64_1, w64_2, w64_3]
            refine ⟨2, by omega, by omega, rfl, ?_, ?_⟩
            · rw [step, stpF, if_neg hno, if_neg hB0, if_pos (.inl (by rw [← hcc]; exact c4))]
            · simp
          · simp [Int.not_lt.2 c4]
            by_cases c5 : c = 0
            · simp [c5]
              by_cases c6 : N < B
              · simp [c6, w64_1, w64_2, w64_3]
                refine ⟨2, by omega, by omega, rfl, ?_, ?_⟩
                · rw [step, stpF, if_neg hno, if_neg hB0, if_pos (.inr ⟨by rw [← hcc]; exact c5, c6⟩)]
                · simp
              · simp [c6, w64_1, w64_2, w64_3]
                refine ⟨2, by omega, by omega, rfl, ?_, ?_⟩
                · rw [step, stpF, if_neg hno, if_neg hB0, if_neg (by rw [← hcc]; omega)]
                · simp
            · simp [c5, w64_1, w64_2, w64_3]
              refine ⟨2, by omega, by omega, rfl, ?_, ?_⟩
              · rw [step, stpF, if_neg hno, if_neg hB0, if_neg (by rw [← hcc]; omega)]
              · simp
  · have step : upF m i 3 = stpF m i (upF m i 2) (nbF m i 2) := rfl
    have nb := nbF_bd m i 2
    have ub := upF_bd m i 2
    obtain ⟨N, hN⟩ : ∃ N, N = nbF m i 2 := ⟨_, rfl⟩
    obtain ⟨B, hB⟩ : ∃ B, B = upF m i 2 := ⟨_, rfl⟩
    rw [← hN] at step nb
    rw [← hB] at step ub
    simp [w64_1, w64_2, w64_3]
    rw [← hN, ← hB]
    refine brB_of (fun c1 => ?_) (fun c1 => ?_) <;> simp at c1
    · simp [c1, w64_1, w64_2, w64_3]
      refine ⟨indW_of (by decide +kernel), ?_⟩
      refine ⟨3, by omega, by omega, ?_, ?_⟩
      · rw [step, stpF, if_pos (.inl c1)]
      · simp
    · have hNl : N.toNat < m.f.length := by omega
      simp [Int.not_lt.2 c1, c1, grC_eq, smR_eq, hi, hNl, range_gd, range_g0]
      refine ⟨indW_of (by decide +kernel), ?_⟩
      refine brB_of (fun c2 => ?_) (fun c2 => ?_) <;> simp at c2
      · simp [c2, w64_1, w64_2, w64_3]
        refine ⟨3, by omega, by omega, rfl, ?_, ?_⟩
        · rw [step, stpF, if_pos (.inr c2)]
        · simp
      · have hno : ¬ (N < 0 ∨ sumF m i ≤ sumF m N.toNat) := by omega
        simp [Int.not_le.2 c2]
        refine brB_of (fun c3 => ?_) (fun c3 => ?_) <;> simp at c3
        · simp [c3, w64_1, w64_2, w64_3]
          refine ⟨3, by omega, by omega, rfl, ?_, ?_⟩
          · rw [step, stpF, if_neg hno, if_pos c3]
          · simp
        · have hc := kc N.toNat B.toNat hNl (by omega) (by omega) (by omega)
          rw [Int.toNat_of_nonneg c1, Int.toNat_of_nonneg c3] at hc
          obtain ⟨c, hcc⟩ : ∃ c, c = cmpF m i N.toNat B.toNat := ⟨_, rfl⟩
          rw [← hcc] at hc
          have hB0 : ¬ B < 0 := by omega
          simp only [grC_eq, smR_eq] at hc
          simp [Int.not_lt.2 c3, grC_eq, smR_eq]
          refine callW_of hc (.inl rfl) ?_
          simp
          refine brB_of (fun c4 => ?_) (fun c4 => ?_) <;> simp at c4
          · simp [c4, w64_1, w64_2, w64_3]
            refine ⟨3, by omega, by omega, rfl, ?_, ?_⟩
            · rw [step, stpF, if_neg hno, if_neg hB0, if_pos (.inl (by rw [← hcc]; exact c4))]
            · simp
          · simp [Int.not_lt.2 c4]
            by_cases c5 : c = 0
            · simp [c5]
              by_cases c6 : N < B
              · simp [c6, w64_1, w64_2, w64_3]
                refine ⟨3, by omega, by omega, rfl, ?_, ?_⟩
                · rw [step, stpF, if_neg hno, if_neg hB0, if_pos (.inr ⟨by rw [← hcc]; exact c5, c6⟩)]
                · simp
              · simp [c6, w64_1, w64_2, w64_3]
                refine ⟨3, by omega, by omega, rfl, ?_, ?_⟩
                · rw [step, stpF, if_neg hno, if_neg hB0, if_neg (by rw [← hcc]; omega)]
                · simp
            · simp [c5, w64_1, w64_2, w64_3]
              refine ⟨3, by omega, by omega, rfl, ?_, ?_⟩
              · rw [step, stpF, if_neg hno, if_neg hB0, if_neg (by rw [← hcc]; omega)]
              · simp
  · simp
    by_cases u : upF m i 3 = -2
    · simp [u]
      refine callW_of kb (.inl rfl) ?_
      cases hb : bsd m i (-1) <;> simp [runF, u, hb]
    · simp [u, runF]
end Go.Gv

set_option linter.unusedSimpArgs false
namespace Go.Gv
theorem runF_bd (m : Msh) (i : Nat) : runF m i = -1 ∨ runF m i = -2 ∨ (0 ≤ runF m i ∧ runF m i < m.f.length ∧ sumF m (runF m i).toNat < sumF m i) := by
  have := upF_bd m i 3
  unfold runF
  split
  · exact .inl rfl
  · rcases this with h | h
    · exact .inr (.inl h)
    · exact .inr (.inr h)
def inR (l : List Int) : List (List D) := l.map fun n => [.int .i64 n]
theorem inR_eq (l : List Int) : inR l = l.map fun n => [.int .i64 n] := rfl
@[simp] theorem inR_len (l : List Int) : (inR l).length = l.length := by simp [inR]
@[simp] theorem inR_take (l : List Int) : List.take l.length (inR l) = inR l := List.take_of_length_le (by simp)
@[simp] theorem inR_cv (l : List Int) : List.map (fun e => List.map cellV e) (inR l) = inR l := by simp [inR]
@[simp] theorem inR_nil : inR [] = [] := rfl
theorem inR_add (l : List Int) (n : Int) : inR l ++ [[.int .i64 n]] = inR (l ++ [n]) := by simp [inR]
def sumL (m : Msh) : List Int := (List.range m.f.length).map fun j => sumF m j
def flowL (m : Msh) : List Int := (List.range m.f.length).map fun j => runF m j
theorem smR_L (m : Msh) : smR m m.f.length = inR (sumL m) := by simp [smR, inR, sumL]
def flT (m : Msh) (i : Nat) : List Int := (List.range i).map fun j => runF m j
theorem flT_len (m : Msh) (i : Nat) : (flT m i).length = i := by simp [flT]
theorem flT_add (m : Msh) (i : Nat) : flT m i ++ [runF m i] = flT m (i + 1) := by simp [flT, List.range_succ]
/-- The row of the flow, with its room. -/
def flB (m : Msh) : Nat → List (List D)
  | 0 => List.replicate m.f.length [.int .i64 0]
  | i + 1 => inR (flT m (i + 1))
theorem flB_take (m : Msh) (i : Nat) : List.take i (flB m i) = inR (flT m i) := by
  cases i with
  | zero => simp [flB, flT]
  | succ i =>
    have := inR_take (flT m (i + 1))
    rw [flT_len] at this
    exact this
theorem flB_cv (m : Msh) (i : Nat) : List.map (fun e => List.map cellV e) (flB m i) = flB m i := by cases i <;> simp [flB]
theorem flB_len (m : Msh) {i : Nat} : i ≤ (flB m i).length := by
  cases i with
  | zero => simp
  | succ i => simp [flB, flT_len]
/-- Along a path. -/
def pth (m : Msh) : Nat → Int → List Int
  | 0, _ => []
  | k + 1, f => if f < 0 then [] else f :: pth m k (runF m f.toNat)
def rnk (m : Msh) (i : Nat) : Nat := ((List.range m.f.length).filter fun j => decide (sumF m j < sumF m i)).length
theorem rnk_lt {m : Msh} {i j : Nat} (hj : j < m.f.length) (h : sumF m j < sumF m i) : rnk m j < rnk m i :=
  filter_lt (j := j) (fun x hx => by simp at hx ⊢; omega) (by simpa using h) (by simp) _ (List.mem_range.2 hj)
theorem rnk_le {m : Msh} {i : Nat} (hi : i < m.f.length) : rnk m i < m.f.length := by
  have h : rnk m i < ((List.range m.f.length).filter fun _ => true).length := filter_lt (j := i) (fun x _ => rfl) rfl (by simp) _ (List.mem_range.2 hi)
  have : ((List.range m.f.length).filter fun _ => true) = List.range m.f.length := by simp
  rw [this, List.length_range] at h
  exact h
def pathL (m : Msh) (f : Int) : List Int := pth m m.f.length f
theorem pth_neg (m : Msh) (k : Nat) {f : Int} (h : f < 0) : pth m k f = [] := by
  cases k with
  | zero => rfl
  | succ k => rw [pth, if_pos h]
theorem pth_len (m : Msh) : ∀ (k : Nat) (f : Int), (pth m k f).length ≤ k
  | 0, f => by simp [pth]
  | k + 1, f => by
    rw [pth]
    split
    · simp
    · have := pth_len m k (runF m f.toNat)
      simp; omega
def lakT (m : Msh) (i : Nat) : List Int := ((List.range i).filter fun j => decide (runF m j = -2)).map fun (j : Nat) => (j : Int)
theorem lakT_le (m : Msh) (i : Nat) : (lakT m i).length ≤ i := by
  have := List.length_filter_le (fun j => decide (runF m j = -2)) (List.range i)
  simp [lakT] at this ⊢
  omega
theorem lakT_yes {m : Msh} {i : Nat} (h : runF m i = -2) : lakT m i ++ [(i : Int)] = lakT m (i + 1) := by simp [lakT, List.range_succ, List.filter_append, h]
theorem lakT_no {m : Msh} {i : Nat} (h : runF m i ≠ -2) : lakT m i = lakT m (i + 1) := by simp [lakT, List.range_succ, List.filter_append, h]
def lakL (m : Msh) : List Int := lakT m m.f.length
variable {C : CC} (hC : Closed prog C)
include hC
theorem rValid_c (m : Msh) (hz : smallM m = true → m.s.length ≤ 100 ∧ m.f.length ≤ 100) : C 215 [.agg (mshC m)] (.bool (validM m)) [] := by
  have ks := rsmall_c hC m
  rw [show (decide (m.s.length ≤ 2000) && decide (m.f.length ≤ 4000)) = smallM m from rfl] at ks
  refine start hC (nf := N215_ref09_Valid) rfl rfl ?_
  simp only [mshC_eq] at ks
  simp [N215_ref09_Valid, mshC_eq]
  refine callW_of ks (.inl rfl) ?_
  cases hs : smallM m
  · simp [validM, hs]
  · obtain ⟨h1, h2⟩ := hz hs
    have k := rCheck_c hC m h1 h2
    have e : validM m = decide ((outF decF 0 (LL m)).length = 0) := by
      rw [validM, hs, Bool.true_and, Bool.eq_iff_iff, decide_eq_true_eq, List.length_eq_zero_iff, outF_nil]
    rw [e]
    obtain ⟨X, hX⟩ : ∃ X, X = outF decF 0 (LL m) := ⟨_, rfl⟩
    rw [← hX] at k ⊢
    simp only [mshC_eq] at k
    simp
    refine callW_of k (.inr rfl) ?_
    simp
theorem flow_c (m : Msh) (hv : validM m = true) : C 254 [.ptr (grC m)] (.sl (inR (flowL m))) [] := by
  have hsz := valid_small hv
  have kr := fun i hi => runs_c hC m hv i hi
  refine start hC (nf := N254_relief_ground_flow) rfl rfl ?_
  simp [N254_relief_ground_flow, grC_eq]
  refine ⟨by omega, ?_⟩
  refine loop_of Nat (fun i => [(0, .ptr (grC m)), (3, .ref (.r 10048) 0 i), (10048, .blk 1 (flB m i)), (15, .int .i64 m.f.length), (16, .int .i64 i)]) (fun i => i ≤ m.f.length) (fun i => m.f.length - i) 0 (by simp) (by simp [grC_eq, flB]) ?_
  rintro i hi
  simp
  refine brB_of (fun g1 => ?_) (fun g1 => ?_) <;> simp at g1 <;> simp [g1]
  · have hw : IntKind.wrap .i64 ((i : Int) + 1) = ((i + 1 : Nat) : Int) := wrap_i64 (by omega) (by omega)
    refine callW_of (kr i (by omega)) (.inl rfl) ?_
    simp
    have hl := flB_len m (i := i)
    refine ⟨by omega, by omega, i + 1, by omega, by omega, rfl, ?_, hw⟩
    rw [flB_take, inR_add, flT_add]
    rfl
  · have hi2 : i = m.f.length := by omega
    subst hi2
    refine ⟨flB_len m, ?_⟩
    rw [flB_cv, flB_take]
    rfl
theorem Sums_c (dec : Nat → List UInt8) (hI : ∀ n : Nat, n < 100 → C 127 [.int .i64 n] (.str (dec n)) []) (m : Msh) (hz : smallM m = true → m.s.length ≤ 100 ∧ m.f.length ≤ 100) :
    C 220 [.agg (mshC m)] (if validM m then .tup [slx true (inR (sumL m)), .int .i64 0] else .tup [.nils, .int .i64 1]) [] := by
  have k := made_c hC dec hI m hz
  refine start hC (nf := N220_relief_Sums) rfl rfl ?_
  simp only [mshC_eq] at k
  simp [N220_relief_Sums, mshC_eq]
  refine callW_of k (.inr rfl) ?_
  cases hv : validM m
  · simp
  · simp [grC_eq, smR_L]
theorem Flow_c (dec : Nat → List UInt8) (hI : ∀ n : Nat, n < 100 → C 127 [.int .i64 n] (.str (dec n)) []) (m : Msh) (hz : smallM m = true → m.s.length ≤ 100 ∧ m.f.length ≤ 100) :
    C 213 [.agg (mshC m)] (if validM m then .tup [.sl (inR (flowL m)), .int .i64 0] else .tup [.nils, .int .i64 1]) [] := by
  have k := made_c hC dec hI m hz
  refine start hC (nf := N213_relief_Flow) rfl rfl ?_
  simp only [mshC_eq] at k
  simp [N213_relief_Flow, mshC_eq]
  refine callW_of k (.inr rfl) ?_
  cases hv : validM m
  · simp
  · have kf := flow_c hC m hv
    simp
    refine callW_of kf (.inr rfl) ?_
    simp
theorem has1_c (m : Msh) (x : Int) : C 288 [.int .i64 x, .ptr [.ptr (grC m)]] (.bool (!(inR1 m.f.length x))) [] := by
  have E : inR1 m.f.length x = (decide (0 ≤ x) && decide (x < m.f.length)) := rfl
  refine start hC (nf := N288_relief_ground_has_1) rfl rfl ?_
  simp [N288_relief_ground_has_1, grC_eq]
  refine brB_of (fun c1 => ?_) (fun c1 => ?_) <;> simp at c1
  · simp [c1]
    rw [E, decide_eq_false (by omega)]; simp
  · simp [Int.not_lt.2 c1, c1]
    rw [E, decide_eq_true c1]
    simp
    rw [Bool.eq_iff_iff]; simp
theorem has_c (m : Msh) (b : Bool) (xs : List Int) (hx : xs.length < 2 ^ 62) : C 255 [.ptr (grC m), slx b (xs.map fun x => [.int .i64 x])] (.bool (!xs.any fun x => !(inR1 m.f.length x))) [] := by
  have k := hasInt_c hC (b := b) (xs := xs) (g := 288) (cs := [.ptr [.ptr (grC m)]]) (fun x => !(inR1 m.f.length x)) hx (fun x _ => has1_c hC m x)
  refine start hC (nf := N255_relief_ground_has) rfl rfl ?_
  simp [N255_relief_ground_has]
  refine callW_of k (.inl rfl) ?_
  simp
theorem Path_c (dec : Nat → List UInt8) (hI : ∀ n : Nat, n < 100 → C 127 [.int .i64 n] (.str (dec n)) []) (m : Msh) (hz : smallM m = true → m.s.length ≤ 100 ∧ m.f.length ≤ 100) (f : Int) :
    C 214 [.agg (mshC m), .int .i64 f] (if validM m then (if inR1 m.f.length f then .tup [.sl (inR (pathL m f)), .int .i64 0] else .tup [.nils, .int .i64 2]) else .tup [.nils, .int .i64 1]) [] := by
  have k := made_c hC dec hI m hz
  have kh := has_c hC m false [f] (by simp)
  simp at kh
  refine start hC (nf := N214_relief_Path) rfl rfl ?_
  simp only [mshC_eq] at k
  simp [N214_relief_Path, mshC_eq]
  refine callW_of k (.inr rfl) ?_
  cases hv : validM m
  · simp
  · have hsz := valid_small hv
    have kr := fun i hi => runs_c hC m hv i hi
    simp
    refine callW_of kh (.inl rfl) ?_
    cases hf : inR1 m.f.length f
    · simp
    · have hf2 := hf
      simp only [inR1, Bool.and_eq_true, decide_eq_true_eq] at hf2
      simp
      refine loop_of (List Int × Int × Nat) (fun s => [(1, .int .i64 s.2.1), (6, .ptr (grC m)), (8, .ref (.r 10128) 0 s.1.length), (10128, .blk 1 (inR s.1))]) (fun s => s.1 ++ pth m s.2.2 s.2.1 = pathL m f ∧ s.2.1 < m.f.length ∧ (s.2.1 < 0 ∨ rnk m s.2.1.toNat < s.2.2) ∧ s.1.length + s.2.2 ≤ m.f.length) (fun s => s.2.2 + (if s.2.1 < 0 then 0 else 1)) ([], f, m.f.length) ⟨by simp [pathL], hf2.2, .inr (rnk_le (i := f.toNat) (by omega)), by simp⟩ (by simp) ?_
      rintro ⟨l, g, k⟩ ⟨h1, h2, h3, h4⟩
      simp only at h1 h2 h3 h4
      simp
      refine brB_of (fun g1 => ?_) (fun g1 => ?_) <;> simp at g1 <;> simp [g1]
      · have hg : g.toNat < m.f.length := by omega
        have kg := kr g.toNat hg
        rw [Int.toNat_of_nonneg g1] at kg
        obtain ⟨k', rfl⟩ : ∃ k', k = k' + 1 := ⟨k - 1, by omega⟩
        rw [pth, if_neg (by omega)] at h1
        refine ⟨by omega, ?_⟩
        refine callW_of kg (.inl rfl) ?_
        simp
        have rb := runF_bd m g.toNat
        refine ⟨l ++ [g], runF m g.toNat, k', ⟨by rw [← h1]; simp, by omega, ?_, by simp; omega⟩, ?_, rfl, by simp, inR_add l g⟩
        · rcases rb with h | h | ⟨r1, r2, r3⟩
          · exact .inl (by omega)
          · exact .inl (by omega)
          · have := rnk_lt (m := m) (i := g.toNat) (j := (runF m g.toNat).toNat) (by omega) r3
            exact .inr (by omega)
        · split <;> split <;> omega
      · rw [pth_neg m k g1] at h1
        rw [← h1]
        simp
end Go.Gv

set_option linter.unusedSimpArgs false
namespace Go.Gv
/-- What Slope finds wrong. -/
def slE (m : Msh) (a b : Int) : Int := if validM m = false then 1 else if inR1 m.f.length a = false ∨ inR1 m.f.length b = false then 2 else if bsd m a.toNat b = false then 25 else 0
def stE (m : Msh) (i a b : Int) : Int := if validM m = false then 1 else if inR1 m.f.length i = false ∨ inR1 m.f.length a = false ∨ inR1 m.f.length b = false then 2 else if bsd m i.toNat a = false ∨ bsd m i.toNat b = false then 25 else 0
theorem mulN_bd {x : Int} {q : Nat} (h1 : -1125899906842624 ≤ x ∧ x ≤ 1125899906842624) (h2 : q ≤ 36028797018963968) : x.natAbs * q < 1329227995784915872903807060280344576 ∧ -1329227995784915872903807060280344576 ≤ x * q ∧ x * q < 1329227995784915872903807060280344576 := by
  have h3 : x.natAbs * q ≤ 1125899906842624 * 36028797018963968 := Nat.mul_le_mul (by omega) h2
  have h4 : (x * q).natAbs = x.natAbs * q := by rw [Int.natAbs_mul, Int.natAbs_natCast]
  omega
variable {C : CC} (hC : Closed prog C)
include hC
theorem gcompareS_c (m : Msh) (hv : validM m = true) (i a b : Nat) (hi : i < m.f.length) (ha : a < m.f.length) (hb : b < m.f.length) :
    C 268 [.ptr (grC m), .int .i64 i, .int .i64 a, .int .i64 b] (.int .i64 (cmpF m i a b)) [] := by
  have k1 := descent_c hC m hv i a hi ha
  have k2 := descent_c hC m hv i b hi hb
  have n1 := numF_bd hv hi ha
  have n2 := numF_bd hv hi hb
  have d1 := denF_bd hv hi ha
  have d2 := denF_bd hv hi hb
  obtain ⟨x, hx⟩ : ∃ x, x = numF m i a := ⟨_, rfl⟩
  obtain ⟨y, hy⟩ : ∃ x, x = numF m i b := ⟨_, rfl⟩
  obtain ⟨p, hp⟩ : ∃ x : Nat, denF m i a = x := ⟨(denF m i a).toNat, by omega⟩
  obtain ⟨q, hq⟩ : ∃ x : Nat, denF m i b = x := ⟨(denF m i b).toNat, by omega⟩
  rw [← hx] at n1 k1
  rw [← hy] at n2 k2
  rw [hp] at k1 d1
  rw [hq] at k2 d2
  have b1 := mulN_bd (x := x) (q := q) n1 (by omega)
  have b2 := mulN_bd (x := y) (q := p) n2 (by omega)
  have k3 := ProductS_c hC x q (by omega) (by omega) b1.1
  have k4 := ProductS_c hC y p (by omega) (by omega) b2.1
  have k5 := CmpS_c hC (x * q) (y * p) b1.2 b2.2
  have e : cmpF m i a b = cmp3 (x * q) (y * p) := by rw [cmpF, ← hx, ← hy, hp, hq]
  rw [e]
  obtain ⟨c, hc⟩ : ∃ c, c = cmp3 (x * q) (y * p) := ⟨_, rfl⟩
  rw [← hc] at k5 ⊢
  obtain ⟨u1, u2, eu⟩ : ∃ a b : Int, wiS (x * q) = .agg [.int .i64 a, .int .i64 b] := ⟨_, _, rfl⟩
  obtain ⟨v1, v2, ev⟩ : ∃ a b : Int, wiS (y * p) = .agg [.int .i64 a, .int .i64 b] := ⟨_, _, rfl⟩
  rw [eu] at k3 k5
  rw [ev] at k4 k5
  obtain ⟨G, hG⟩ : ∃ G, G = grC m := ⟨_, rfl⟩
  rw [← hG] at k1 k2 ⊢
  refine start hC (nf := N268_relief_ground_compare) rfl rfl ?_
  simp [N268_relief_ground_compare]
  refine callW_of k1 (.inl rfl) ?_
  simp
  refine callW_of k2 (.inl rfl) ?_
  simp
  refine callW_of k3 (.inr rfl) ?_
  simp
  refine callW_of k4 (.inr rfl) ?_
  simp
  refine callW_of k5 (.inr rfl) ?_
  simp
theorem Slope_c (dec : Nat → List UInt8) (hI : ∀ n : Nat, n < 100 → C 127 [.int .i64 n] (.str (dec n)) []) (m : Msh) (hz : smallM m = true → m.s.length ≤ 100 ∧ m.f.length ≤ 100) (a b : Int) :
    C 224 [.agg (mshC m), .int .i64 a, .int .i64 b] (if slE m a b = 0 then .tup [wiS (numF m a.toNat b.toNat), wiS (denF m a.toNat b.toNat), .int .i64 0] else .tup [.agg [.int .i64 0, .int .i64 0], .agg [.int .i64 0, .int .i64 0], .int .i64 (slE m a b)]) [] := by
  have k := made_c hC dec hI m hz
  have kh := has_c hC m false [a, b] (by simp)
  obtain ⟨E, hE⟩ : ∃ E, E = slE m a b := ⟨_, rfl⟩
  rw [← hE]
  obtain ⟨R, hR⟩ : ∃ R, R = (if E = 0 then D.tup [wiS (numF m a.toNat b.toNat), wiS (denF m a.toNat b.toNat), .int .i64 0] else .tup [.agg [.int .i64 0, .int .i64 0], .agg [.int .i64 0, .int .i64 0], .int .i64 E]) := ⟨_, rfl⟩
  rw [← hR]
  unfold slE at hE
  refine start hC (nf := N224_relief_Slope) rfl rfl ?_
  simp only [mshC_eq] at k
  simp [N224_relief_Slope, mshC_eq]
  refine callW_of k (.inr rfl) ?_
  cases hv : validM m
  · rw [if_pos hv] at hE
    simp [hE] at hR
    subst hR
    simp
    exact indW_of (by decide +kernel)
  · rw [if_neg (by simp [hv])] at hE
    simp
    by_cases hf : inR1 m.f.length a = false ∨ inR1 m.f.length b = false
    · rw [if_pos hf] at hE
      simp [hE] at hR
      subst hR
      rw [show (!([a, b].any fun x => !(inR1 m.f.length x))) = false by simp; rcases hf with h | h <;> simp [h]] at kh
      simp at kh
      refine callW_of kh (.inl rfl) ?_
      simp
      exact indW_of (by decide +kernel)
    · rw [if_neg hf] at hE
      simp only [not_or, Bool.not_eq_false] at hf
      rw [show (!([a, b].any fun x => !(inR1 m.f.length x))) = true by simp [hf.1, hf.2]] at kh
      simp at kh
      obtain ⟨h1, h2⟩ := hf
      simp only [inR1, Bool.and_eq_true, decide_eq_true_eq] at h1 h2
      have kb := beside_c hC m a.toNat (by omega) b
      have kd := descent_c hC m hv a.toNat b.toNat (by omega) (by omega)
      have b1 := numF_bd hv (i := a.toNat) (j := b.toNat) (by omega) (by omega)
      have b2 := denF_bd hv (i := a.toNat) (j := b.toNat) (by omega) (by omega)
      rw [Int.toNat_of_nonneg h1.1] at kb kd
      rw [Int.toNat_of_nonneg h2.1] at kd
      refine callW_of kh (.inl rfl) ?_
      simp
      refine callW_of kb (.inl rfl) ?_
      cases hb : bsd m a.toNat b
      · rw [if_pos hb] at hE
        simp [hE] at hR
        subst hR
        simp
        exact indW_of (by decide +kernel)
      · rw [if_neg (by simp [hb])] at hE
        simp [hE] at hR
        obtain ⟨x, hx⟩ : ∃ x, x = numF m a.toNat b.toNat := ⟨_, rfl⟩
        obtain ⟨y, hy⟩ : ∃ x, x = denF m a.toNat b.toNat := ⟨_, rfl⟩
        rw [← hx] at kd hR b1
        rw [← hy] at kd hR b2
        have k1 := OfS_c hC x (by omega)
        have k2 := OfS_c hC y (by omega)
        obtain ⟨u1, u2, eu⟩ : ∃ a b : Int, wiS x = .agg [.int .i64 a, .int .i64 b] := ⟨_, _, rfl⟩
        obtain ⟨v1, v2, ev⟩ : ∃ a b : Int, wiS y = .agg [.int .i64 a, .int .i64 b] := ⟨_, _, rfl⟩
        rw [eu] at k1 hR
        rw [ev] at k2 hR
        subst hR
        simp
        refine callW_of kd (.inl rfl) ?_
        simp
        refine callW_of k1 (.inl rfl) ?_
        simp
        refine callW_of k2 (.inl rfl) ?_
        simp
theorem Steeper_c (dec : Nat → List UInt8) (hI : ∀ n : Nat, n < 100 → C 127 [.int .i64 n] (.str (dec n)) []) (m : Msh) (hz : smallM m = true → m.s.length ≤ 100 ∧ m.f.length ≤ 100) (i a b : Int) :
    C 226 [.agg (mshC m), .int .i64 i, .int .i64 a, .int .i64 b] (.tup [.int .i64 (if stE m i a b = 0 then cmpF m i.toNat a.toNat b.toNat else 0), .int .i64 (stE m i a b)]) [] := by
  have k := made_c hC dec hI m hz
  have kh := has_c hC m false [i, a, b] (by simp)
  obtain ⟨R, hR⟩ : ∃ R, R = stE m i a b := ⟨_, rfl⟩
  rw [← hR]
  unfold stE at hR
  refine start hC (nf := N226_relief_Steeper) rfl rfl ?_
  simp only [mshC_eq] at k
  simp [N226_relief_Steeper, mshC_eq]
  refine callW_of k (.inr rfl) ?_
  cases hv : validM m
  · rw [if_pos hv] at hR
    subst hR
    simp
  · rw [if_neg (by simp [hv])] at hR
    simp
    by_cases hf : inR1 m.f.length i = false ∨ inR1 m.f.length a = false ∨ inR1 m.f.length b = false
    · rw [if_pos hf] at hR
      subst hR
      rw [show (!([i, a, b].any fun x => !(inR1 m.f.length x))) = false by simp; rcases hf with h | h | h <;> simp [h]] at kh
      simp at kh
      refine callW_of kh (.inl rfl) ?_
      simp
    · rw [if_neg hf] at hR
      simp only [not_or, Bool.not_eq_false] at hf
      obtain ⟨h0, h1, h2⟩ := hf
      rw [show (!([i, a, b].any fun x => !(inR1 m.f.length x))) = true by simp [h0, h1, h2]] at kh
      simp at kh
      simp only [inR1, Bool.and_eq_true, decide_eq_true_eq] at h0 h1 h2
      have ka := beside_c hC m i.toNat (by omega) a
      have kb := beside_c hC m i.toNat (by omega) b
      have kd := gcompareS_c hC m hv i.toNat a.toNat b.toNat (by omega) (by omega) (by omega)
      rw [Int.toNat_of_nonneg h0.1] at ka kb kd
      rw [Int.toNat_of_nonneg h1.1, Int.toNat_of_nonneg h2.1] at kd
      refine callW_of kh (.inl rfl) ?_
      simp
      refine callW_of ka (.inl rfl) ?_
      cases hb : bsd m i.toNat a
      · rw [if_pos (.inl hb)] at hR
        subst hR
        simp
      · simp
        refine callW_of kb (.inl rfl) ?_
        cases hb2 : bsd m i.toNat b
        · rw [if_pos (.inr hb2)] at hR
          subst hR
          simp
        · rw [if_neg (by simp [hb, hb2])] at hR
          subst hR
          simp
          refine callW_of kd (.inl rfl) ?_
          simp
end Go.Gv

set_option linter.unusedSimpArgs false
namespace Go.Gv
variable {C : CC} (hC : Closed prog C)
include hC
theorem qSum_c (m : Msh) (hv : validM m = true) (i : Nat) (hi : i < m.f.length) : C 296 [.agg (mshC m), .int .i64 i] (.int .i64 (sumF m i)) [] := by
  obtain ⟨⟨a1, a2⟩, ⟨b1, b2⟩, ⟨c1, c2⟩⟩ := inS_bd (valid_in hv hi)
  obtain ⟨h1, h2, h3⟩ := sp_bd hv hi
  have h1 := rightS_bd h1
  have h2 := rightS_bd h2
  have h3 := rightS_bd h3
  have wz1 : IntKind.wrap .i64 ((spA m i).z + (spB m i).z) = (spA m i).z + (spB m i).z := wrap_i64 rfl (by omega)
  have wz2 : IntKind.wrap .i64 ((spA m i).z + (spB m i).z + (spC m i).z) = sumF m i := wrap_i64 rfl (by unfold sumF; omega)
  refine start hC (nf := N296_ref10_Sum) rfl rfl ?_
  simp [N296_ref10_Sum, mshC_eq, hi, fceC_eq, a1, a2, b1, b2, c1, c2, sptC_eq, spA_eq, spB_eq, spC_eq, wz1, wz2]
  exact indW_of (by decide +kernel)
set_option maxRecDepth 8000 in
set_option maxHeartbeats 2000000 in
theorem qapart_c (m : Msh) (hv : validM m = true) (i j : Nat) (hi : i < m.f.length) (hj : j < m.f.length) : C 336 [.agg (mshC m), .int .i64 i, .int .i64 j] (.int .i64 (denF m i j)) [] := by
  obtain ⟨⟨a1, a2⟩, ⟨b1, b2⟩, ⟨c1, c2⟩⟩ := inS_bd (valid_in hv hi)
  obtain ⟨⟨d1, d2⟩, ⟨e1, e2⟩, ⟨f1, f2⟩⟩ := inS_bd (valid_in hv hj)
  obtain ⟨h1, h2, h3⟩ := sp_bd hv hi
  have h1 := rightS_bd h1
  have h2 := rightS_bd h2
  have h3 := rightS_bd h3
  obtain ⟨g1, g2, g3⟩ := sp_bd hv hj
  have g1 := rightS_bd g1
  have g2 := rightS_bd g2
  have g3 := rightS_bd g3
  have hd := denF_bd hv hi hj
  have k3 := cen_bd hv hi
  have k4 := cen_bd hv hj
  have k7 := mul_bd (k := 134217728) (l := 134217728) (a := cenX m i - cenX m j) (b := cenX m i - cenX m j) (by omega) (by omega) (by omega) (by omega)
  have k8 := mul_bd (k := 134217728) (l := 134217728) (a := cenY m i - cenY m j) (b := cenY m i - cenY m j) (by omega) (by omega) (by omega) (by omega)
  have wx1 : IntKind.wrap .i64 ((spA m i).x + (spB m i).x) = (spA m i).x + (spB m i).x := wrap_i64 rfl (by omega)
  have wx2 : IntKind.wrap .i64 ((spA m i).x + (spB m i).x + (spC m i).x) = cenX m i := wrap_i64 rfl (by omega)
  have wx3 : IntKind.wrap .i64 (cenX m i - (spA m j).x) = cenX m i - (spA m j).x := wrap_i64 rfl (by omega)
  have wx4 : IntKind.wrap .i64 (cenX m i - (spA m j).x - (spB m j).x) = cenX m i - (spA m j).x - (spB m j).x := wrap_i64 rfl (by omega)
  have wx5 : IntKind.wrap .i64 (cenX m i - (spA m j).x - (spB m j).x - (spC m j).x) = cenX m i - cenX m j := wrap_i64 (by show _ = cenX m i - ((spA m j).x + (spB m j).x + (spC m j).x); omega) (by omega)
  have wy1 : IntKind.wrap .i64 ((spA m i).y + (spB m i).y) = (spA m i).y + (spB m i).y := wrap_i64 rfl (by omega)
  have wy2 : IntKind.wrap .i64 ((spA m i).y + (spB m i).y + (spC m i).y) = cenY m i := wrap_i64 rfl (by omega)
  have wy3 : IntKind.wrap .i64 (cenY m i - (spA m j).y) = cenY m i - (spA m j).y := wrap_i64 rfl (by omega)
  have wy4 : IntKind.wrap .i64 (cenY m i - (spA m j).y - (spB m j).y) = cenY m i - (spA m j).y - (spB m j).y := wrap_i64 rfl (by omega)
  have wy5 : IntKind.wrap .i64 (cenY m i - (spA m j).y - (spB m j).y - (spC m j).y) = cenY m i - cenY m j := wrap_i64 (by show _ = cenY m i - ((spA m j).y + (spB m j).y + (spC m j).y); omega) (by omega)
  have w6 : IntKind.wrap .i64 ((cenX m i - cenX m j) * (cenX m i - cenX m j)) = (cenX m i - cenX m j) * (cenX m i - cenX m j) := wrap_i64 rfl (by omega)
  have w7 : IntKind.wrap .i64 ((cenY m i - cenY m j) * (cenY m i - cenY m j)) = (cenY m i - cenY m j) * (cenY m i - cenY m j) := wrap_i64 rfl (by omega)
  have w8 : IntKind.wrap .i64 ((cenX m i - cenX m j) * (cenX m i - cenX m j) + (cenY m i - cenY m j) * (cenY m i - cenY m j)) = denF m i j := wrap_i64 rfl (by omega)
  refine start hC (nf := N336_ref10_apart) rfl rfl ?_
  simp [N336_ref10_apart, mshC_eq, hi, hj, fceC_eq, a1, a2, b1, b2, c1, c2, d1, d2, e1, e2, f1, f2, sptC_eq, spA_eq, spB_eq, spC_eq, wx1, wx2, wx3, wx4, wx5, wy1, wy2, wy3, wy4, wy5, w6, w7, w8]
  exact ⟨indW_of (by decide +kernel), indW_of (by decide +kernel)⟩
theorem qSlope_c (m : Msh) (hv : validM m = true) (i j : Nat) (hi : i < m.f.length) (hj : j < m.f.length) (hs : sumF m j ≤ sumF m i) : C 325 [.agg (mshC m), .int .i64 i, .int .i64 j] (.tup [.int .i64 (numF m i j), .int .i64 (denF m i j)]) [] := by
  have k1 := qSum_c hC m hv i hi
  have k2 := qSum_c hC m hv j hj
  have k3 := qapart_c hC m hv i j hi hj
  have b1 := sumF_bd hv hi
  have b2 := sumF_bd hv hj
  have b3 := numF_bd hv hi hj
  have w1 : IntKind.wrap .i64 (sumF m i - sumF m j) = difF m i j := wrap_i64 rfl (by unfold difF; omega)
  have d0 : ¬ difF m i j < 0 := by unfold difF; omega
  have e : numF m i j = difF m i j * difF m i j := by unfold numF; rw [if_neg (by omega)]
  rw [e] at b3 ⊢
  have w2 : IntKind.wrap .i64 (difF m i j * difF m i j) = difF m i j * difF m i j := wrap_i64 rfl (by omega)
  refine start hC (nf := N325_ref10_Slope) rfl rfl ?_
  simp only [mshC_eq] at k1 k2 k3
  simp [N325_ref10_Slope, mshC_eq]
  refine callW_of k1 (.inl rfl) ?_
  simp
  refine callW_of k2 (.inl rfl) ?_
  simp [w1]
  refine ⟨indW_of (by decide +kernel), ?_⟩
  simp [d0, w2]
  refine callW_of k3 (.inl rfl) ?_
  simp
theorem qSteeper_c (m : Msh) (hv : validM m = true) (i a b : Nat) (hi : i < m.f.length) (ha : a < m.f.length) (hb : b < m.f.length) (sa : sumF m a ≤ sumF m i) (sb : sumF m b ≤ sumF m i) :
    C 297 [.agg (mshC m), .int .i64 i, .int .i64 a, .int .i64 b] (.int .i64 (cmpF m i a b)) [] := by
  have k1 := qSlope_c hC m hv i a hi ha sa
  have k2 := qSlope_c hC m hv i b hi hb sb
  have n1 := numF_bd hv hi ha
  have n2 := numF_bd hv hi hb
  have n3 := numF_nn sa
  have n4 := numF_nn sb
  have d1 := denF_bd hv hi ha
  have d2 := denF_bd hv hi hb
  obtain ⟨x, hx⟩ : ∃ x : Nat, numF m i a = x := ⟨(numF m i a).toNat, by omega⟩
  obtain ⟨y, hy⟩ : ∃ x : Nat, numF m i b = x := ⟨(numF m i b).toNat, by omega⟩
  obtain ⟨p, hp⟩ : ∃ x : Nat, denF m i a = x := ⟨(denF m i a).toNat, by omega⟩
  obtain ⟨q, hq⟩ : ∃ x : Nat, denF m i b = x := ⟨(denF m i b).toNat, by omega⟩
  have b1 : x * q ≤ 1125899906842624 * 36028797018963968 := Nat.mul_le_mul (by omega) (by omega)
  have b2 : y * p ≤ 1125899906842624 * 36028797018963968 := Nat.mul_le_mul (by omega) (by omega)
  have k3 := qTimes_c hC x q (by omega) (by omega)
  have k4 := qTimes_c hC y p (by omega) (by omega)
  have k5 := qOrder_c hC (x * q) (y * p) (by omega) (by omega)
  have e : cmpF m i a b = cmp3 ((x * q : Nat) : Int) ((y * p : Nat) : Int) := by rw [cmpF, hx, hy, hp, hq]; simp
  rw [hx, hp] at k1
  rw [hy, hq] at k2
  rw [e]
  obtain ⟨c, hc⟩ : ∃ c, c = cmp3 ((x * q : Nat) : Int) ((y * p : Nat) : Int) := ⟨_, rfl⟩
  rw [← hc] at k5 ⊢
  simp only [nmD] at k5
  obtain ⟨u1, hu1⟩ : ∃ z, z = x * q / 18446744073709551616 := ⟨_, rfl⟩
  obtain ⟨u2, hu2⟩ : ∃ z, z = x * q % 18446744073709551616 := ⟨_, rfl⟩
  obtain ⟨v1, hv1⟩ : ∃ z, z = y * p / 18446744073709551616 := ⟨_, rfl⟩
  obtain ⟨v2, hv2⟩ : ∃ z, z = y * p % 18446744073709551616 := ⟨_, rfl⟩
  rw [← hu1, ← hu2] at k3 k5
  rw [← hv1, ← hv2] at k4 k5
  obtain ⟨G, hG⟩ : ∃ G, G = mshC m := ⟨_, rfl⟩
  simp only [mshC_eq] at k1 k2 
  refine start hC (nf := N297_ref10_Steeper) rfl rfl ?_
  simp [N297_ref10_Steeper, mshC_eq]
  refine callW_of k1 (.inl rfl) ?_
  simp
  refine callW_of k2 (.inl rfl) ?_
  simp
  refine callW_of k3 (.inl rfl) ?_
  simp
  refine callW_of k4 (.inl rfl) ?_
  simp
  refine callW_of k5 (.inl rfl) ?_
  simp
end Go.Gv

set_option linter.unusedSimpArgs false
namespace Go.Gv
theorem hasSd_at {f : Fce} {a b : Int} {k : Nat} (hk : k < 3) (h1 : crn f k = a) (h2 : crn f (k + 1) = b) : hasSd f a b = true := by
  simp only [hasSd, List.any_eq_true, List.mem_range, Bool.and_eq_true, decide_eq_true_eq]
  exact ⟨k, hk, h1, h2⟩
theorem hasSd_no {f : Fce} {a b : Int} (h : ∀ k, k < 3 → ¬ (crn f k = a ∧ crn f (k + 1) = b)) : hasSd f a b = false := by
  simp only [hasSd, List.any_eq_false, List.mem_range, Bool.and_eq_true, decide_eq_true_eq]
  exact h
theorem sideF_at {m : Msh} {a b : Int} {i : Nat} (hi : i < m.f.length) (hj : ∀ j, j < i → hasSd (fce m j) a b = false) (h : hasSd (fce m i) a b = true) : sideF m a b = i := by
  refine idxD_step (fun j hl hji => ?_) hi ?_
  · rw [fce_g]; exact hj j hji
  · rw [fce_g]; exact h
theorem sideF_no {m : Msh} {a b : Int} (hj : ∀ j, j < m.f.length → hasSd (fce m j) a b = false) : sideF m a b = -1 := by
  refine idxD_none (fun j hl => ?_)
  rw [fce_g]; exact hj j hl
/-- The side. -/
def sidK (m : Msh) (a b : Int) : Int := if sideF m a b < 0 then 0 else idxD (fun j => decide (crn (fce m (sideF m a b).toNat) j = a) && decide (crn (fce m (sideF m a b).toNat) (j + 1) = b)) (List.range 3)
theorem sidK_no {m : Msh} {a b : Int} (h : sideF m a b = -1) : sidK m a b = 0 := by rw [sidK, if_pos (by omega)]
theorem sidK_at {m : Msh} {a b : Int} {i k : Nat} (h : sideF m a b = i) (hk : k < 3) (hj : ∀ j, j < k → ¬ (crn (fce m i) j = a ∧ crn (fce m i) (j + 1) = b)) (h1 : crn (fce m i) k = a) (h2 : crn (fce m i) (k + 1) = b) : sidK m a b = k := by
  rw [sidK, if_neg (by omega), h]
  refine idxD_step (fun j hl hjk => ?_) (by simp; omega) ?_
  · have := hj j hjk
    simp only [Int.toNat_natCast, List.getElem_range, Bool.and_eq_false_iff, decide_eq_false_iff_not]
    omega
  · simp [h1, h2]
def acK (m : Msh) (i k : Nat) : Int := sidK m (crn (fce m i) (k + 1)) (crn (fce m i) k)
def nbT (m : Msh) (i : Nat) : List (List D) := (List.range i).map fun j => [.int .i64 (nbF m j 0), .int .i64 (nbF m j 1), .int .i64 (nbF m j 2)]
@[simp] theorem nbT_len (m : Msh) (i : Nat) : (nbT m i).length = i := by simp [nbT]
theorem nbT_add (m : Msh) (i : Nat) : nbT m i ++ [[.int .i64 (nbF m i 0), .int .i64 (nbF m i 1), .int .i64 (nbF m i 2)]] = nbT m (i + 1) := by simp [nbT, List.range_succ]
theorem nbT_all (m : Msh) : nbT m m.f.length = nbA m := rfl
@[simp] theorem nbT_take (m : Msh) (i : Nat) : List.take i (nbT m i) = nbT m i := List.take_of_length_le (by simp)
@[simp] theorem nbT_cv (m : Msh) (i : Nat) : List.map (fun e => List.map cellV e) (nbT m i) = nbT m i := by simp [nbT]
variable {C : CC} (hC : Closed prog C)
include hC
set_option maxHeartbeats 2000000 in
theorem qSide_c (m : Msh) (hm : m.f.length ≤ 100) (a b : Int) : C 322 [.agg (mshC m), .int .i64 a, .int .i64 b] (.tup [.int .i64 (sideF m a b), .int .i64 (sidK m a b)]) [] := by
  have kr := fun i k h => rCorner_c hC (fce m i) k h
  refine start hC (nf := N322_ref09_Side) rfl rfl ?_
  simp only [fceC_eq] at kr
  simp [N322_ref09_Side, mshC_eq]
  refine loop_of Nat (fun i => [(1, .int .i64 a), (2, .int .i64 b), (3, .ptr (mshC m)), (8, .int .i64 i)]) (fun i => i ≤ m.f.length ∧ ∀ j, j < i → hasSd (fce m j) a b = false) (fun i => m.f.length - i) 0 (by simp) (by simp [mshC_eq]) ?_
  rintro i ⟨hi, hj⟩
  simp [mshC_eq]
  refine brB_of (fun g1 => ?_) (fun g1 => ?_) <;> simp at g1 <;> simp [g1]
  · have hw : IntKind.wrap .i64 ((i : Int) + 1) = ((i + 1 : Nat) : Int) := wrap_i64 (by omega) (by omega)
    refine loop_of Nat (fun k => [(1, .int .i64 a), (2, .int .i64 b), (3, .ptr (mshC m)), (8, .int .i64 i), (9, .int .i64 k)]) (fun k => k ≤ 3 ∧ ∀ j, j < k → ¬ (crn (fce m i) j = a ∧ crn (fce m i) (j + 1) = b)) (fun k => 3 - k) 0 (by simp) (by simp [mshC_eq]) ?_
    rintro k ⟨hk, hn⟩
    simp [mshC_eq]
    refine brB_of (fun g2 => ?_) (fun g2 => ?_) <;> simp at g2 <;> simp [g2]
    · have hw2 : IntKind.wrap .i64 ((k : Int) + 1) = ((k + 1 : Nat) : Int) := wrap_i64 (by omega) (by omega)
      simp [g1, fceC_eq]
      refine callW_of (kr i k (by omega)) (.inl rfl) ?_
      simp
      refine brB_of (fun c1 => ?_) (fun c1 => ?_) <;> simp at c1
      · simp [c1, g1, hw2, fceC_eq]
        refine callW_of (kr i (k + 1) (by omega)) (.inl rfl) ?_
        simp
        refine brB_of (fun c2 => ?_) (fun c2 => ?_) <;> simp at c2
        · have hs := sideF_at g1 hj (hasSd_at (by omega) c1 c2)
          simp [c2]
          exact ⟨hs, sidK_at hs (by omega) hn c1 c2⟩
        · simp [c2]
          refine ⟨k + 1, ⟨by omega, fun j hjk => ?_⟩, by omega, ?_⟩
          · rcases Nat.lt_succ_iff_lt_or_eq.1 hjk with h | rfl
            · exact fun h3 h4 => hn j h ⟨h3, h4⟩
            · exact fun _ h => c2 h
          · simp [mshC_eq, hw2]
      · simp [c1]
        refine ⟨k + 1, ⟨by omega, fun j hjk => ?_⟩, by omega, ?_⟩
        · rcases Nat.lt_succ_iff_lt_or_eq.1 hjk with h | rfl
          · exact fun h3 h4 => hn j h ⟨h3, h4⟩
          · exact fun h => absurd h c1
        · simp [mshC_eq, hw2]
    · have hk3 : k = 3 := by omega
      subst hk3
      refine ⟨i + 1, ⟨by omega, fun j hji => ?_⟩, by omega, ?_⟩
      · rcases Nat.lt_succ_iff_lt_or_eq.1 hji with h | rfl
        · exact hj j h
        · exact hasSd_no hn
      · simp [mshC_eq, hw]
  · have hs := sideF_no (m := m) (a := a) (b := b) (fun j hl => hj j (by omega))
    exact ⟨hs, sidK_no hs⟩
theorem qAcross_c (m : Msh) (hm : m.f.length ≤ 100) (i k : Nat) (hi : i < m.f.length) (hk : k < 3) : C 287 [.agg (mshC m), .int .i64 i, .int .i64 k] (.tup [.int .i64 (nbF m i k), .int .i64 (acK m i k)]) [] := by
  have k1 := rCorner_c hC (fce m i) (k + 1) (by omega)
  have k2 := rCorner_c hC (fce m i) k (by omega)
  have k3 := qSide_c hC m hm (crn (fce m i) (k + 1)) (crn (fce m i) k)
  rw [show sideF m (crn (fce m i) (k + 1)) (crn (fce m i) k) = nbF m i k from rfl, show sidK m (crn (fce m i) (k + 1)) (crn (fce m i) k) = acK m i k from rfl] at k3
  have hw2 : IntKind.wrap .i64 ((k : Int) + 1) = ((k + 1 : Nat) : Int) := wrap_i64 (by omega) (by omega)
  refine start hC (nf := N287_ref09_Across) rfl rfl ?_
  simp only [mshC_eq, fceC_eq] at k1 k2 k3
  simp [N287_ref09_Across, mshC_eq, hi, fceC_eq, hw2]
  refine callW_of k1 (.inl rfl) ?_
  simp
  refine callW_of k2 (.inl rfl) ?_
  simp
  refine callW_of k3 (.inl rfl) ?_
  simp
  exact indW_of (by decide +kernel)
set_option maxHeartbeats 2000000 in
theorem qNeighbours_c (m : Msh) (hm : m.f.length ≤ 100) : C 259 [.agg (mshC m)] (.sl (nbA m)) [] := by
  have ka := fun i k hi hk => qAcross_c hC m hm i k hi hk
  refine start hC (nf := N259_ref09_Neighbours) rfl rfl ?_
  simp only [mshC_eq] at ka
  simp [N259_ref09_Neighbours, mshC_eq]
  refine loop_of Nat (fun i => [(1, .ptr (mshC m)), (3, .ref (.r 10048) 0 i), (10048, .blk 3 (nbT m i)), (4, .int .i64 i)]) (fun i => i ≤ m.f.length) (fun i => m.f.length - i) 0 (by simp) (by simp [mshC_eq, nbT]) ?_
  rintro i hi
  simp [mshC_eq]
  refine brB_of (fun g1 => ?_) (fun g1 => ?_) <;> simp at g1 <;> simp [g1]
  · have hw : IntKind.wrap .i64 ((i : Int) + 1) = ((i + 1 : Nat) : Int) := wrap_i64 (by omega) (by omega)
    have k0 := ka i 0 g1 (by omega)
    have k1 := ka i 1 g1 (by omega)
    have k2 := ka i 2 g1 (by omega)
    simp at k0 k1 k2
    refine callW_of k0 (.inl rfl) ?_
    simp
    refine callW_of k1 (.inl rfl) ?_
    simp
    refine callW_of k2 (.inl rfl) ?_
    simp
    refine ⟨by rintro c ((rfl | rfl) | rfl) <;> rfl, by omega, i + 1, by omega, by omega, by simp [mshC_eq], rfl, nbT_add m i, hw⟩
  · have hi2 : i = m.f.length := by omega
    subst hi2
    rfl
end Go.Gv

set_option linter.unusedSimpArgs false
namespace Go.Gv
/-- Whether a border is among the first k sides. -/
def bdB (m : Msh) (i k : Nat) : Bool := (List.range k).any fun c => decide (nbF m i c < 0)
theorem bdB_succ (m : Msh) (i k : Nat) : bdB m i (k + 1) = (bdB m i k || decide (nbF m i k < 0)) := by simp [bdB, List.range_succ]
theorem bdB_3 (m : Msh) (i : Nat) : bdB m i 3 = bsd m i (-1) := by
  have h3 : List.range 3 = [0, 1, 2] := rfl
  have e : ∀ c, decide (nbF m i c < 0) = decide (-1 = nbF m i c) := fun c => by
    have := nbF_bd m i c
    rw [Bool.eq_iff_iff]
    simp
    omega
  simp [bdB, h3, bsd, e]
def ini (m : Msh) (i k : Nat) : Int := if bdB m i k then -1 else -2
/-- What the reference's second loop has found. -/
def qup (m : Msh) (i k : Nat) : Int := if upF m i k < 0 then ini m i 3 else upF m i k
theorem qup_3 (m : Msh) (i : Nat) : qup m i 3 = runF m i := by
  have := upF_bd m i 3
  unfold qup ini runF
  rw [bdB_3]
  cases bsd m i (-1) <;> simp <;> omega
theorem ini_neg (m : Msh) (i k : Nat) : ini m i k < 0 := by unfold ini; split <;> omega
theorem ini_step (m : Msh) (i k : Nat) : ini m i (k + 1) = if nbF m i k < 0 ∧ ini m i k = -2 then -1 else ini m i k := by
  unfold ini
  rw [bdB_succ]
  cases bdB m i k <;> simp
variable {C : CC} (hC : Closed prog C)
include hC
end Go.Gv

set_option linter.unusedSimpArgs false
namespace Go.Gv
def exM (z : Int) : Msh := ⟨false, [⟨0, 0, 0⟩, ⟨30, 0, z⟩, ⟨30, 30, 9⟩, ⟨0, 30, 0⟩], false, [⟨0, 1, 2, 0⟩, ⟨0, 2, 3, 0⟩]⟩
variable {C : CC} (hC : Closed prog C)
include hC
theorem eqI_c (b b' : Bool) (xs ys : List Int) (hx : xs.length < 2 ^ 62) (hy : ys.length < 2 ^ 62) : C 19 [slx b (xs.map fun n => [.int .i64 n]), slx b' (ys.map fun n => [.int .i64 n])] (.bool (decide (xs = ys))) [] := by
  refine start hC (nf := N19_slices_Equal__int_int) rfl rfl ?_
  simp [N19_slices_Equal__int_int]
  refine brB_of (fun h => ?_) (fun h => ?_) <;> simp at h <;> simp [h]
  · rintro rfl; exact h rfl
  have h' : xs.length = ys.length := by omega
  refine loop_of Nat (fun i => [(0, slx b (xs.map fun n => [.int .i64 n])), (1, slx b' (ys.map fun n => [.int .i64 n])), (12, .int .i64 ys.length), (13, .int .i64 i)])
    (fun i => i ≤ ys.length ∧ ∀ k, k < i → xs[k]? = ys[k]?) (fun i => ys.length - i) 0 (by simp) (by simp) ?_
  rintro i ⟨hi, hok⟩
  simp
  refine brB_of (fun h1 => ?_) (fun h1 => ?_) <;> simp at h1 <;> simp [h1]
  · have hw : IntKind.wrap .i64 ((i : Int) + 1) = ((i + 1 : Nat) : Int) := wrap_i64 (by omega) (by omega)
    have hx1 : i < xs.length := by omega
    simp [h1, hx1]
    refine ⟨indW_of (by decide +kernel), ?_⟩
    refine brB_of (fun h2 => ?_) (fun h2 => ?_) <;> simp [h1, hx1] at h2 <;> simp [h1, hx1, h2, hw]
    · rintro rfl
      exact h2 rfl
    · refine ⟨i + 1, ⟨by omega, fun k hk => ?_⟩, by omega, rfl⟩
      rcases Nat.lt_succ_iff_lt_or_eq.1 hk with h5 | rfl
      · exact hok k h5
      · rw [List.getElem?_eq_getElem h1, List.getElem?_eq_getElem hx1, h2]
  · refine List.ext_getElem? fun k => ?_
    rcases Nat.lt_or_ge k i with h2 | h2
    · exact hok k h2
    · rw [List.getElem?_eq_none (by omega), List.getElem?_eq_none (by omega)]
theorem example_c (z : Int) : C 252 [.int .i64 z] (.agg (mshC (exM z))) [] := by
  refine start hC (nf := N252_law10_example) rfl rfl ?_
  simp [N252_law10_example, exM, mshC_eq, sptC_eq, fceC_eq, List.replicate]
end Go.Gv

set_option linter.unusedSimpArgs false
namespace Go.Gv
theorem ex_v3 : validM (exM 3) = true := by decide +kernel
theorem ex_v0 : validM (exM 0) = true := by decide +kernel
theorem ex_s3 : sumL (exM 3) = [12, 9] := by decide +kernel
theorem ex_f0 : flowL (exM 0) = [-1, -1] := by decide +kernel
theorem ex_f3 : flowL (exM 3) = [1, -1] := by decide +kernel
theorem ex_p3 : pathL (exM 3) 0 = [0, 1] := by decide +kernel
variable {C : CC} (hC : Closed prog C)
include hC
set_option maxHeartbeats 2000000 in
theorem awake10_c (dec : Nat → List UInt8) (hI : ∀ n : Nat, n < 100 → C 127 [.int .i64 n] (.str (dec n)) []) : C 211 [] (.bool true) [] := by
  have hz : ∀ z, smallM (exM z) = true → (exM z).s.length ≤ 100 ∧ (exM z).f.length ≤ 100 := fun z _ => by simp [exM]
  have e3 := example_c hC 3
  have e0 := example_c hC 0
  have k1 := Sums_c hC dec hI (exM 3) (hz 3)
  have k2 := Flow_c hC dec hI (exM 0) (hz 0)
  have k3 := Flow_c hC dec hI (exM 3) (hz 3)
  have k4 := Path_c hC dec hI (exM 3) (hz 3) 0
  rw [ex_v3, ex_s3] at k1
  rw [ex_v0, ex_f0] at k2
  rw [ex_v3, ex_f3] at k3
  rw [ex_v3, ex_p3, show inR1 (exM 3).f.length 0 = true from rfl] at k4
  have q1 := eqI_c hC false false [12, 9] [12, 9] (by simp) (by simp)
  have q2 := eqI_c hC false false [-1, -1] [-1, -1] (by simp) (by simp)
  have q3 := eqI_c hC false false [1, -1] [1, -1] (by simp) (by simp)
  have q4 := eqI_c hC false false [0, 1] [0, 1] (by simp) (by simp)
  simp [inR_eq] at k1 k2 k3 k4 q1 q2 q3 q4
  obtain ⟨A3, hA3⟩ : ∃ A, A = mshC (exM 3) := ⟨_, rfl⟩
  obtain ⟨A0, hA0⟩ : ∃ A, A = mshC (exM 0) := ⟨_, rfl⟩
  have c3 : ∃ a b : Bool × List (List D), A3 = [slx a.1 a.2, slx b.1 b.2] := ⟨(false, _), (false, _), by rw [hA3, mshC_eq]; rfl⟩
  have c0 : ∃ a b : Bool × List (List D), A0 = [slx a.1 a.2, slx b.1 b.2] := ⟨(false, _), (false, _), by rw [hA0, mshC_eq]; rfl⟩
  rw [← hA3] at e3 k1 k3 k4
  rw [← hA0] at e0 k2
  obtain ⟨a, b, rfl⟩ := c3
  obtain ⟨a', b', rfl⟩ := c0
  refine start hC (nf := N211_law10_awake) rfl rfl ?_
  simp [N211_law10_awake]
  refine callW_of e3 (.inr rfl) ?_
  simp
  refine callW_of k1 (.inr rfl) ?_
  simp
  refine callW_of e0 (.inr rfl) ?_
  simp
  refine callW_of k2 (.inr rfl) ?_
  simp
  refine callW_of e3 (.inr rfl) ?_
  simp
  refine callW_of k3 (.inr rfl) ?_
  simp
  refine callW_of e3 (.inr rfl) ?_
  simp
  refine callW_of k4 (.inr rfl) ?_
  simp
  refine callW_of q1 (.inl rfl) ?_
  simp
  refine callW_of q2 (.inl rfl) ?_
  simp
  refine callW_of q3 (.inl rfl) ?_
  simp
  refine callW_of q4 (.inl rfl) ?_
  simp
end Go.Gv

set_option linter.unusedSimpArgs false
namespace Go.Gv
theorem stpF_neg {m : Msh} {i : Nat} {best n : Int} (hb : best = -2 ∨ 0 ≤ best) (h : stpF m i best n = -2) : best = -2 ∧ (n < 0 ∨ sumF m i ≤ sumF m n.toNat) := by
  unfold stpF at h
  split at h
  · rename_i h1
    exact ⟨h, h1⟩
  · rename_i h1
    split at h
    · omega
    · rename_i h2
      split at h <;> omega
theorem upF_neg {m : Msh} {i : Nat} (h : upF m i 3 = -2) : ∀ c, c < 3 → nbF m i c < 0 ∨ sumF m i ≤ sumF m (nbF m i c).toNat := by
  have b := fun k => (by have := upF_bd m i k; omega : upF m i k = -2 ∨ 0 ≤ upF m i k)
  have h2 := stpF_neg (b 2) (show stpF m i (upF m i 2) (nbF m i 2) = -2 from h)
  have h1 := stpF_neg (b 1) (show stpF m i (upF m i 1) (nbF m i 1) = -2 from h2.1)
  have h0 := stpF_neg (b 0) (show stpF m i (upF m i 0) (nbF m i 0) = -2 from h1.1)
  intro c hc
  rcases (by omega : c = 0 ∨ c = 1 ∨ c = 2) with rfl | rfl | rfl
  · exact h0.2
  · exact h1.2
  · exact h2.2
/-- Where the water runs to no face. -/
theorem runF_neg {m : Msh} {i : Nat} (h : runF m i < 0) : (∀ c, c < 3 → nbF m i c < 0 ∨ sumF m i ≤ sumF m (nbF m i c).toNat) ∧ ((runF m i = -1 ∧ bsd m i (-1) = true) ∨ (runF m i = -2 ∧ bsd m i (-1) = false)) := by
  have hb := upF_bd m i 3
  unfold runF at h ⊢
  by_cases hu : upF m i 3 = -2
  · refine ⟨upF_neg hu, ?_⟩
    cases hs : bsd m i (-1)
    · right; simp [hu]
    · left; simp [hu]
  · rw [if_neg (by omega)] at h
    omega
theorem pth_ok (m : Msh) : ∀ (k : Nat) (f : Int), 0 ≤ f → f < m.f.length → rnk m f.toNat < k → (pth m k f)[0]? = some f ∧ (∀ (j : Nat) (x : Int), (pth m k f)[j]? = some x → 0 ≤ x ∧ x < m.f.length) ∧
    (∀ (j : Nat) (x y : Int), (pth m k f)[j]? = some x → (pth m k f)[j + 1]? = some y → y = runF m x.toNat) ∧ (∀ (j : Nat) (x : Int), j + 1 = (pth m k f).length → (pth m k f)[j]? = some x → runF m x.toNat < 0)
  | 0, f, _, _, h => by omega
  | k + 1, f, h0, h1, h2 => by
    rw [pth, if_neg (by omega)]
    rcases runF_bd m f.toNat with h | h | ⟨r1, r2, r3⟩
    · rw [pth_neg m k (f := runF m f.toNat) (by omega)]
      refine ⟨rfl, fun j x hx => ?_, fun j x y hx hy => ?_, fun j x hj hx => ?_⟩
      · cases j <;> simp at hx
        subst hx; exact ⟨h0, h1⟩
      · simp at hy
      · simp at hj
        subst hj
        simp at hx
        subst hx; omega
    · rw [pth_neg m k (f := runF m f.toNat) (by omega)]
      refine ⟨rfl, fun j x hx => ?_, fun j x y hx hy => ?_, fun j x hj hx => ?_⟩
      · cases j <;> simp at hx
        subst hx; exact ⟨h0, h1⟩
      · simp at hy
      · simp at hj
        subst hj
        simp at hx
        subst hx; omega
    · have hr := rnk_lt (m := m) (i := f.toNat) (j := (runF m f.toNat).toNat) (by omega) r3
      obtain ⟨i1, i2, i3, i4⟩ := pth_ok m k (runF m f.toNat) r1 r2 (by omega)
      refine ⟨rfl, fun j x hx => ?_, fun j x y hx hy => ?_, fun j x hj hx => ?_⟩
      · cases j with
        | zero => simp at hx; subst hx; exact ⟨h0, h1⟩
        | succ j => simp at hx; exact i2 j x hx
      · simp at hy
        cases j with
        | zero =>
          simp at hx; subst hx
          rw [i1] at hy
          exact (Option.some.inj hy).symm
        | succ j => simp at hx; exact i3 j x y hx hy
      · cases j with
        | zero =>
          simp at hj
          rw [hj] at i1
          simp at i1
        | succ j =>
          simp at hx hj
          exact i4 j x (by omega) hx
theorem sumL_at (m : Msh) (i : Nat) (h : i < (sumL m).length) : (sumL m)[i] = sumF m i := by simp [sumL]
theorem flowL_at (m : Msh) (i : Nat) (h : i < (flowL m).length) : (flowL m)[i] = runF m i := by simp [flowL]
theorem sumL_len (m : Msh) : (sumL m).length = m.f.length := by simp [sumL]
theorem flowL_len (m : Msh) : (flowL m).length = m.f.length := by simp [flowL]
theorem lakL_has (m : Msh) {e : Int} (h0 : 0 ≤ e) (h1 : e < m.f.length) : ((lakL m).any fun x => decide (e = x)) = decide (runF m e.toNat = -2) := by
  rw [Bool.eq_iff_iff]
  simp only [lakL, lakT, List.any_eq_true, List.mem_map, List.mem_filter, List.mem_range, decide_eq_true_eq]
  constructor
  · rintro ⟨x, ⟨j, ⟨h2, h3⟩, rfl⟩, rfl⟩
    simpa using h3
  · intro h
    exact ⟨e, ⟨e.toNat, ⟨by omega, h⟩, by omega⟩, rfl⟩
variable {C : CC} (hC : Closed prog C)
include hC
end Go.Gv

set_option linter.unusedSimpArgs false
namespace Go.Gv
def qfl (m : Msh) (i : Nat) : List Int := (List.range i).map fun j => runF m j
@[simp] theorem qfl_take (m : Msh) (i : Nat) : List.take i (inR (qfl m i)) = inR (qfl m i) := List.take_of_length_le (by simp [qfl])
@[simp] theorem qfl_len (m : Msh) (i : Nat) : (qfl m i).length = i := by simp [qfl]
theorem qfl_add (m : Msh) (i : Nat) : qfl m i ++ [runF m i] = qfl m (i + 1) := by simp [qfl, List.range_succ]
variable {C : CC} (hC : Closed prog C)
include hC
theorem qIsFace_c (m : Msh) (x : Int) : C 217 [.agg (mshC m), .int .i64 x] (.bool (inR1 m.f.length x)) [] := by
  refine start hC (nf := N217_ref10_IsFace) rfl rfl ?_
  simp [N217_ref10_IsFace, mshC_eq]
  have E : inR1 m.f.length x = (decide (0 ≤ x) && decide (x < m.f.length)) := rfl
  rw [E]
  refine brB_of (fun c1 => ?_) (fun c1 => ?_) <;> simp at c1
  · simp [c1]
  · simp [Int.not_le.2 c1]
end Go.Gv

set_option linter.unusedSimpArgs false
namespace Go.Gv
def largeM (m : Msh) : Bool := (decide ((80 : Int) < (m.s.length : Int)) && decide ((m.s.length : Int) ≤ 2000)) || (decide ((80 : Int) < (m.f.length : Int)) && decide ((m.f.length : Int) ≤ 4000)) || decide ((2010 : Int) < (m.s.length : Int)) || decide ((4010 : Int) < (m.f.length : Int))
theorem largeM_small {m : Msh} (h : largeM m = false) (hs : smallM m = true) : m.s.length ≤ 100 ∧ m.f.length ≤ 100 := by
  simp only [largeM, Bool.or_eq_false_iff, Bool.and_eq_false_iff, decide_eq_false_iff_not] at h
  simp only [smallM, Bool.and_eq_true, decide_eq_true_eq] at hs
  omega
variable {C : CC} (hC : Closed prog C)
include hC
set_option maxHeartbeats 2000000 in
theorem large_c (m : Msh) : C 212 [.agg (mshC m)] (.bool (largeM m)) [] := by
  obtain ⟨L, eL⟩ : ∃ L, L = largeM m := ⟨_, rfl⟩
  rw [← eL]
  unfold largeM at eL
  refine start hC (nf := N212_law10_large) rfl rfl ?_
  simp [N212_law10_large, mshC_eq]
  by_cases a1 : (80 : Int) < (m.s.length : Int) <;> by_cases a2 : (m.s.length : Int) ≤ 2000 <;> by_cases b1 : (80 : Int) < (m.f.length : Int) <;> by_cases b2 : (m.f.length : Int) ≤ 4000 <;> by_cases c : (2010 : Int) < (m.s.length : Int) <;> by_cases d : (4010 : Int) < (m.f.length : Int) <;> first
    | omega
    | (simp only [a1, a2, b1, b2, c, d, decide_true, decide_false, Bool.and_true, Bool.true_and, Bool.and_false, Bool.false_and, Bool.or_true, Bool.true_or, Bool.or_false, Bool.false_or] at eL
       subst eL
       simp [a1, a2, b1, b2, c, d])
end Go.Gv

set_option linter.unusedSimpArgs false
namespace Go.Gv
open Go.Lib
variable {C : CC} (hC : Closed prog C)
include hC
theorem qSlopeS_c (m : Msh) (hv : validM m = true) (i j : Nat) (hi : i < m.f.length) (hj : j < m.f.length) : C 325 [.agg (mshC m), .int .i64 i, .int .i64 j] (.tup [.int .i64 (numF m i j), .int .i64 (denF m i j)]) [] := by
  by_cases hs : sumF m j ≤ sumF m i
  · exact qSlope_c hC m hv i j hi hj hs
  · have k1 := qSum_c hC m hv i hi
    have k2 := qSum_c hC m hv j hj
    have k3 := qapart_c hC m hv i j hi hj
    have b1 := sumF_bd hv hi
    have b2 := sumF_bd hv hj
    have b3 := numF_bd hv hi hj
    have w1 : IntKind.wrap .i64 (sumF m i - sumF m j) = difF m i j := wrap_i64 rfl (by unfold difF; omega)
    have d0 : difF m i j < 0 := by unfold difF; omega
    have e : numF m i j = -(difF m i j * difF m i j) := by unfold numF; rw [if_pos (by omega), Int.mul_neg]
    rw [e] at b3 ⊢
    have w2 : IntKind.wrap .i64 (difF m i j * difF m i j) = difF m i j * difF m i j := wrap_i64 rfl (by omega)
    have w3 : IntKind.wrap .i64 (-(difF m i j * difF m i j)) = -(difF m i j * difF m i j) := wrap_i64 rfl (by omega)
    refine start hC (nf := N325_ref10_Slope) rfl rfl ?_
    simp only [mshC_eq] at k1 k2 k3
    simp [N325_ref10_Slope, mshC_eq]
    refine callW_of k1 (.inl rfl) ?_
    simp
    refine callW_of k2 (.inl rfl) ?_
    simp [w1]
    refine ⟨indW_of (by decide +kernel), ?_⟩
    simp [d0, w2, w3]
    refine callW_of k3 (.inl rfl) ?_
    simp
theorem qSteeperS_c (m : Msh) (hv : validM m = true) (i a b : Nat) (hi : i < m.f.length) (ha : a < m.f.length) (hb : b < m.f.length) :
    C 297 [.agg (mshC m), .int .i64 i, .int .i64 a, .int .i64 b] (.int .i64 (cmpF m i a b)) [] := by
  have k1 := qSlopeS_c hC m hv i a hi ha
  have k2 := qSlopeS_c hC m hv i b hi hb
  have n1 := numF_bd hv hi ha
  have n2 := numF_bd hv hi hb
  have d1 := denF_bd hv hi ha
  have d2 := denF_bd hv hi hb
  obtain ⟨x, hx⟩ : ∃ x, x = numF m i a := ⟨_, rfl⟩
  obtain ⟨y, hy⟩ : ∃ x, x = numF m i b := ⟨_, rfl⟩
  obtain ⟨p, hp⟩ : ∃ x : Nat, denF m i a = x := ⟨(denF m i a).toNat, by omega⟩
  obtain ⟨q, hq⟩ : ∃ x : Nat, denF m i b = x := ⟨(denF m i b).toNat, by omega⟩
  rw [← hx, hp] at k1
  rw [← hy, hq] at k2
  rw [← hx] at n1
  rw [← hy] at n2
  rw [hp] at d1
  rw [hq] at d2
  have b1 := mulN_bd (x := x) (q := q) n1 (by omega)
  have b2 := mulN_bd (x := y) (q := p) n2 (by omega)
  have k3 := qTimesS_c hC x q (by omega) (by omega)
  have k4 := qTimesS_c hC y p (by omega) (by omega)
  have k5 := qOrderS_c hC (x * q) (y * p) (by omega) (by omega)
  have e : cmpF m i a b = cmp3 (x * q) (y * p) := by rw [cmpF, ← hx, ← hy, hp, hq]
  rw [e]
  obtain ⟨c, hc⟩ : ∃ c, c = cmp3 (x * q) (y * p) := ⟨_, rfl⟩
  rw [← hc] at k5 ⊢
  obtain ⟨f1, g1, h1, s1⟩ : ∃ (a1 a2 : Nat) (a3 : Bool), numS (x * q) = .agg [.int .u64 a1, .int .u64 a2, .bool a3] := ⟨_, _, _, rfl⟩
  obtain ⟨f2, g2, h2, s2⟩ : ∃ (a1 a2 : Nat) (a3 : Bool), numS (y * p) = .agg [.int .u64 a1, .int .u64 a2, .bool a3] := ⟨_, _, _, rfl⟩
  rw [s1] at k3 k5
  rw [s2] at k4 k5
  clear s1 s2 hc b1 b2
  simp only [mshC_eq] at k1 k2
  refine start hC (nf := N297_ref10_Steeper) rfl rfl ?_
  simp [N297_ref10_Steeper, mshC_eq]
  refine callW_of k1 (.inl rfl) ?_
  simp
  refine callW_of k2 (.inl rfl) ?_
  simp
  refine callW_of k3 (.inl rfl) ?_
  simp
  refine callW_of k4 (.inl rfl) ?_
  simp
  refine callW_of k5 (.inl rfl) ?_
  simp
theorem qBeside_c (m : Msh) (i : Nat) (hi : i < m.f.length) (o : Int) : C 346 [.sl (nbA m), .int .i64 i, .int .i64 o] (.bool (bsd m i o)) [] := by
  have ne : (nbA m)[i]? = some [.int .i64 (nbF m i 0), .int .i64 (nbF m i 1), .int .i64 (nbF m i 2)] := by simp [nbA, hi]
  refine start hC (nf := N346_ref10_Beside) rfl rfl ?_
  simp [N346_ref10_Beside, hi, idxW_some ne]
  refine brB_of (fun c => ?_) (fun c => ?_) <;> simp at c
  · simp [c, bsd]
  · have c' : ¬ o = nbF m i 0 := fun h => c h.symm
    simp [hi, idxW_some ne, c']
    refine brB_of (fun d => ?_) (fun d => ?_) <;> simp at d
    · simp [d, bsd]
    · have d' : ¬ o = nbF m i 1 := fun h => d h.symm
      simp [hi, idxW_some ne, bsd, c', d']
      exact eq_comm
def orB (m : Msh) (f a : Int) : Bool := inR1 m.f.length f && inR1 m.f.length a
set_option maxRecDepth 20000 in
set_option maxHeartbeats 8000000 in
theorem ReliefSlopes_c (dec : Nat → List UInt8) (hI : ∀ n : Nat, n < 100 → C 127 [.int .i64 n] (.str (dec n)) []) (m : Msh) (f a b : Int) : C 344 [.agg (mshC m), .int .i64 f, .int .i64 a, .int .i64 b] (.bool true) [] := by
  have ka := awake10_c hC dec hI
  have kl := large_c hC m
  refine start hC (nf := N344_law10_ReliefSlopes) rfl rfl ?_
  simp only [mshC_eq] at kl
  simp [N344_law10_ReliefSlopes, mshC_eq]
  refine callW_of ka (.inl rfl) ?_
  simp
  refine callW_of kl (.inl rfl) ?_
  cases hl : largeM m
  rotate_left
  · simp
  have hz : smallM m = true → m.s.length ≤ 100 ∧ m.f.length ≤ 100 := fun h => largeM_small hl h
  have k1 := Slope_c hC dec hI m hz f a
  have k2 := Steeper_c hC dec hI m hz f a b
  have k3 := rValid_c hC m hz
  have k4 := qIsFace_c hC m f
  have k5 := qIsFace_c hC m a
  have k6 := qIsFace_c hC m b
  simp only [mshC_eq] at k1 k2 k3 k4 k5 k6
  simp
  cases hv : validM m
  · have e1 : slE m f a = 1 := by rw [slE, if_pos hv]
    have e2 : stE m f a b = 1 := by rw [stE, if_pos hv]
    rw [e1] at k1
    rw [e2] at k2
    rw [hv] at k3
    simp at k1 k2
    refine callW_of k1 (.inl rfl) ?_
    simp
    refine callW_of k2 (.inl rfl) ?_
    simp
    refine callW_of k3 (.inl rfl) ?_
    simp
  · have hm : m.f.length ≤ 100 := (hz (by simp only [validM, Bool.and_eq_true] at hv; exact hv.1)).2
    have kn := qNeighbours_c hC m hm
    simp only [mshC_eq] at kn
    rw [hv] at k3
    cases h0 : inR1 m.f.length f
    · have e1 : slE m f a = 2 := by rw [slE, if_neg (by simp [hv]), if_pos (.inl h0)]
      have e2 : stE m f a b = 2 := by rw [stE, if_neg (by simp [hv]), if_pos (.inl h0)]
      rw [e1] at k1
      rw [e2] at k2
      rw [h0] at k4
      simp at k1 k2
      refine callW_of k1 (.inl rfl) ?_
      simp
      refine callW_of k2 (.inl rfl) ?_
      simp
      refine callW_of k3 (.inl rfl) ?_
      simp
      refine callW_of k4 (.inl rfl) ?_
      simp
    · cases h1 : inR1 m.f.length a
      · have e1 : slE m f a = 2 := by rw [slE, if_neg (by simp [hv]), if_pos (.inr h1)]
        have e2 : stE m f a b = 2 := by rw [stE, if_neg (by simp [hv]), if_pos (.inr (.inl h1))]
        rw [e1] at k1
        rw [e2] at k2
        rw [h0] at k4
        rw [h1] at k5
        simp at k1 k2
        refine callW_of k1 (.inl rfl) ?_
        simp
        refine callW_of k2 (.inl rfl) ?_
        simp
        refine callW_of k3 (.inl rfl) ?_
        simp
        refine callW_of k4 (.inl rfl) ?_
        simp
        refine callW_of k5 (.inl rfl) ?_
        simp
      · have g0 := h0
        have g1 := h1
        simp only [inR1, Bool.and_eq_true, decide_eq_true_eq] at g0 g1
        have kb := qBeside_c hC m f.toNat (by omega) a
        rw [Int.toNat_of_nonneg g0.1] at kb
        rw [h0] at k4
        rw [h1] at k5
        have hs1 : slE m f a = if bsd m f.toNat a = false then 25 else 0 := by
          rw [slE, if_neg (by simp [hv]), if_neg (by simp [h0, h1])]
        cases hb : bsd m f.toNat a
        · have e1 : slE m f a = 25 := by rw [hs1, if_pos hb]
          rw [e1] at k1
          rw [hb] at kb
          simp at k1
          cases h2 : inR1 m.f.length b
          · have e2 : stE m f a b = 2 := by rw [stE, if_neg (by simp [hv]), if_pos (.inr (.inr h2))]
            rw [e2] at k2
            rw [h2] at k6
            simp at k2
            refine callW_of k1 (.inl rfl) ?_
            simp
            refine callW_of k2 (.inl rfl) ?_
            simp
            refine callW_of k3 (.inl rfl) ?_
            simp
            refine callW_of k4 (.inl rfl) ?_
            simp
            refine callW_of k5 (.inl rfl) ?_
            simp
            refine callW_of kn (.inr rfl) ?_
            simp
            refine callW_of kb (.inl rfl) ?_
            simp
            refine callW_of k6 (.inl rfl) ?_
            simp
          · have e2 : stE m f a b = 25 := by rw [stE, if_neg (by simp [hv]), if_neg (by simp [h0, h1, h2]), if_pos (.inl hb)]
            rw [e2] at k2
            rw [h2] at k6
            simp at k2
            refine callW_of k1 (.inl rfl) ?_
            simp
            refine callW_of k2 (.inl rfl) ?_
            simp
            refine callW_of k3 (.inl rfl) ?_
            simp
            refine callW_of k4 (.inl rfl) ?_
            simp
            refine callW_of k5 (.inl rfl) ?_
            simp
            refine callW_of kn (.inr rfl) ?_
            simp
            refine callW_of kb (.inl rfl) ?_
            simp
            refine callW_of k6 (.inl rfl) ?_
            simp
        · have e1 : slE m f a = 0 := by rw [hs1, if_neg (by simp [hb])]
          rw [e1] at k1
          rw [hb] at kb
          have i1 : f.toNat < m.f.length := by omega
          have i2 : a.toNat < m.f.length := by omega
          have ks := qSlopeS_c hC m hv f.toNat a.toNat i1 i2
          rw [Int.toNat_of_nonneg g0.1, Int.toNat_of_nonneg g1.1] at ks
          have n1 := numF_bd hv i1 i2
          have n2 := denF_bd hv i1 i2
          have o1 := qOfIntS_c hC (numF m f.toNat a.toNat) (by omega)
          have o2 := qOfIntS_c hC (denF m f.toNat a.toNat) (by omega)
          have w1 := qToWide_c hC (numF m f.toNat a.toNat) (by omega)
          have w2 := qToWide_c hC (denF m f.toNat a.toNat) (by omega)
          obtain ⟨f1, j1, l1, s1⟩ : ∃ (a1 a2 : Nat) (a3 : Bool), numS (numF m f.toNat a.toNat) = .agg [.int .u64 a1, .int .u64 a2, .bool a3] := ⟨_, _, _, rfl⟩
          obtain ⟨f2, j2, l2, s2⟩ : ∃ (a1 a2 : Nat) (a3 : Bool), numS (denF m f.toNat a.toNat) = .agg [.int .u64 a1, .int .u64 a2, .bool a3] := ⟨_, _, _, rfl⟩
          obtain ⟨p1, q1, t1⟩ : ∃ (a1 a2 : Int), wiS (numF m f.toNat a.toNat) = .agg [.int .i64 a1, .int .i64 a2] := ⟨_, _, rfl⟩
          obtain ⟨p2, q2, t2⟩ : ∃ (a1 a2 : Int), wiS (denF m f.toNat a.toNat) = .agg [.int .i64 a1, .int .i64 a2] := ⟨_, _, rfl⟩
          rw [s1] at o1 w1
          rw [s2] at o2 w2
          rw [t1] at w1
          rw [t2] at w2
          simp [t1, t2] at k1
          simp only [mshC_eq] at ks
          clear s1 s2 t1 t2 n1 n2
          refine callW_of k1 (.inl rfl) ?_
          simp
          refine callW_of k2 (.inl rfl) ?_
          simp
          refine callW_of k3 (.inl rfl) ?_
          simp
          refine callW_of k4 (.inl rfl) ?_
          simp
          refine callW_of k5 (.inl rfl) ?_
          simp
          refine callW_of kn (.inr rfl) ?_
          simp
          refine callW_of kb (.inl rfl) ?_
          simp
          refine callW_of ks (.inl rfl) ?_
          simp
          refine callW_of o1 (.inl rfl) ?_
          simp
          refine callW_of w1 (.inl rfl) ?_
          simp
          refine callW_of o2 (.inl rfl) ?_
          simp
          refine callW_of w2 (.inl rfl) ?_
          simp
          refine callW_of k6 (.inl rfl) ?_
          cases h2 : inR1 m.f.length b
          · have e2 : stE m f a b = 2 := by rw [stE, if_neg (by simp [hv]), if_pos (.inr (.inr h2))]
            simp [e2]
          · have g2 := h2
            simp only [inR1, Bool.and_eq_true, decide_eq_true_eq] at g2
            have kc := qBeside_c hC m f.toNat (by omega) b
            rw [Int.toNat_of_nonneg g0.1] at kc
            simp
            refine callW_of kn (.inr rfl) ?_
            simp
            refine callW_of kc (.inl rfl) ?_
            cases hc : bsd m f.toNat b
            · have e2 : stE m f a b = 25 := by rw [stE, if_neg (by simp [hv]), if_neg (by simp [h0, h1, h2]), if_pos (.inr hc)]
              simp [e2]
            · have e2 : stE m f a b = 0 := by rw [stE, if_neg (by simp [hv]), if_neg (by simp [h0, h1, h2]), if_neg (by simp [hb, hc])]
              have kq := qSteeperS_c hC m hv f.toNat a.toNat b.toNat i1 i2 (by omega)
              rw [Int.toNat_of_nonneg g0.1, Int.toNat_of_nonneg g1.1, Int.toNat_of_nonneg g2.1] at kq
              simp only [mshC_eq] at kq
              simp [e2]
              refine callW_of kq (.inl rfl) ?_
              simp
end Go.Gv
