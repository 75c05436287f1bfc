/-
  Texts of the proof: GvX2, H10, H7, H9, H11, H12, V3, V4, Z4, Z5, Z6, I3, Z7, Z8, Z9.
-/
import Derived.Test.YteemogpcmjekhaaGreatDoorX5
import Derived.Test.YteemogpcmjekhaaGreatDoorX6
set_option linter.all false
namespace Go.Gv
section
variable {C : CC} {hs : Option (List Nat)} {K : Env → Prop} {ns : List NOper} {dst : Option Nat} {u : Tag (hs, K, ns)} {e : Env} {R : List Nat} {acc : List (List Nat × List Nat)}
@[simp] theorem idxW_at5 {sz : Nat} {c0 c1 c2 c3 c4 c5 : List D} {es : List (List D)} : idxW C hs K ns dst u e R acc sz (c0 :: c1 :: c2 :: c3 :: c4 :: c5 :: es) 5 = (c5.length = sz ∧ dW C hs K ns dst ⟨⟩ e R acc (.ptr c5)) := idxW_some rfl
@[simp] theorem rowW_at5 {n : Nat} {ag : Bool} {p : Pa} {off : Nat} {c0 c1 c2 c3 c4 c5 : List D} {es : List (List D)} : rowW C hs K ns dst u e R acc n ag p (c0 :: c1 :: c2 :: c3 :: c4 :: c5 :: es) 5 off = (off + n ≤ c5.length ∧ match ag with
        | true => (((c5.drop off).take n).all isV = true → dW C hs K ns dst ⟨⟩ e R acc (.agg ((c5.drop off).take n))) ∧
            (((c5.drop off).take n).all isV = false → dW C hs K ns dst ⟨⟩ e R acc (.agx (((c5.drop off).take n).mapIdx fun j c => ldc p 5 (off + j) c)))
        | false => dW C hs K ns dst ⟨⟩ e R acc (ldc p 5 off ((c5.drop off).headD .any))) := rowW_some rfl
@[simp] theorem idxW_at6 {sz : Nat} {c0 c1 c2 c3 c4 c5 c6 : List D} {es : List (List D)} : idxW C hs K ns dst u e R acc sz (c0 :: c1 :: c2 :: c3 :: c4 :: c5 :: c6 :: es) 6 = (c6.length = sz ∧ dW C hs K ns dst ⟨⟩ e R acc (.ptr c6)) := idxW_some rfl
@[simp] theorem rowW_at6 {n : Nat} {ag : Bool} {p : Pa} {off : Nat} {c0 c1 c2 c3 c4 c5 c6 : List D} {es : List (List D)} : rowW C hs K ns dst u e R acc n ag p (c0 :: c1 :: c2 :: c3 :: c4 :: c5 :: c6 :: es) 6 off = (off + n ≤ c6.length ∧ match ag with
        | true => (((c6.drop off).take n).all isV = true → dW C hs K ns dst ⟨⟩ e R acc (.agg ((c6.drop off).take n))) ∧
            (((c6.drop off).take n).all isV = false → dW C hs K ns dst ⟨⟩ e R acc (.agx (((c6.drop off).take n).mapIdx fun j c => ldc p 6 (off + j) c)))
        | false => dW C hs K ns dst ⟨⟩ e R acc (ldc p 6 off ((c6.drop off).headD .any))) := rowW_some rfl
@[simp] theorem idxW_at7 {sz : Nat} {c0 c1 c2 c3 c4 c5 c6 c7 : List D} {es : List (List D)} : idxW C hs K ns dst u e R acc sz (c0 :: c1 :: c2 :: c3 :: c4 :: c5 :: c6 :: c7 :: es) 7 = (c7.length = sz ∧ dW C hs K ns dst ⟨⟩ e R acc (.ptr c7)) := idxW_some rfl
@[simp] theorem rowW_at7 {n : Nat} {ag : Bool} {p : Pa} {off : Nat} {c0 c1 c2 c3 c4 c5 c6 c7 : List D} {es : List (List D)} : rowW C hs K ns dst u e R acc n ag p (c0 :: c1 :: c2 :: c3 :: c4 :: c5 :: c6 :: c7 :: es) 7 off = (off + n ≤ c7.length ∧ match ag with
        | true => (((c7.drop off).take n).all isV = true → dW C hs K ns dst ⟨⟩ e R acc (.agg ((c7.drop off).take n))) ∧
            (((c7.drop off).take n).all isV = false → dW C hs K ns dst ⟨⟩ e R acc (.agx (((c7.drop off).take n).mapIdx fun j c => ldc p 7 (off + j) c)))
        | false => dW C hs K ns dst ⟨⟩ e R acc (ldc p 7 off ((c7.drop off).headD .any))) := rowW_some rfl
end
end Go.Gv

set_option linter.unusedSimpArgs false
namespace Go.Gv
def decF (n : Nat) : List UInt8 := decL n []
/-- The findings of a kind. -/
def fdL (k : Int) (l : List Nat) : List (Int × List UInt8) := l.map fun i => (k, decF i)
@[simp] theorem fdL_len (k : Int) (l : List Nat) : (fdL k l).length = l.length := by simp [fdL]
theorem fdL_nil (k : Int) : fdL k [] = [] := rfl
def fdR (k : Int) (l : List Nat) : List (List D) := fnR (fdL k l)
@[simp] theorem fdR_len (k : Int) (l : List Nat) : (fdR k l).length = l.length := by simp [fdR]
@[simp] theorem fdR_take (k : Int) (l : List Nat) : List.take l.length (fdR k l) = fdR k l := List.take_of_length_le (by simp)
theorem fdR_yes {p : Nat → Bool} {n : Nat} {k : Int} (h : p n = true) : fdR k (fil p n) ++ [[D.int .i64 k, .str (decF n)]] = fdR k (fil p (n + 1)) := by
  rw [fil_yes h]; simp [fdR, fnR_add, fdL]
theorem fdR_no {p : Nat → Bool} {n : Nat} {k : Int} (h : p n = false) : fdR k (fil p n) = fdR k (fil p (n + 1)) := by rw [fil_no h]
@[simp] theorem fdR_c1 (k : Int) (l : List Nat) : (∀ e ∈ fdR k l, ∀ c ∈ e, isC1 c = true) = True := by simp [fdR, fnR, fnD, fdL]
@[simp] theorem fdR_c1a (k : Int) (l : List Nat) (x : List D) : (∀ e, e ∈ fdR k l ∨ e = x → ∀ c, c ∈ e → isC1 c = true) = ∀ c, c ∈ x → isC1 c = true := by
  apply propext
  constructor
  · exact fun h => h x (.inr rfl)
  · rintro h e (he | rfl)
    · exact (fdR_c1 k l).mpr trivial e he
    · exact h
@[simp] theorem fdR_nil (k : Int) : fdR k [] = [] := rfl
/-- Faces, as rows. -/
def fcR (m : Msh) (l : List Nat) : List (List D) := l.map fun k => fceC (fce m k)
@[simp] theorem fcR_len (m : Msh) (l : List Nat) : (fcR m l).length = l.length := by simp [fcR]
@[simp] theorem fcR_take (m : Msh) (l : List Nat) : List.take l.length (fcR m l) = fcR m l := List.take_of_length_le (by simp)
@[simp] theorem fcR_nil (m : Msh) : fcR m [] = [] := rfl
theorem fcR_yes {m : Msh} {i : Nat} (h : sndB m i = true) : fcR m (fil (sndB m) i) ++ [fceC (fce m i)] = fcR m (fil (sndB m) (i + 1)) := by rw [fil_yes h]; simp [fcR]
theorem fcR_eq (m : Msh) (l : List Nat) : fcR m l = l.map fun k => fceC (fce m k) := rfl
def anyT (p : Nat → Bool) (l : List Nat) (k : Nat) : Bool := (l.take k).any p
theorem anyT_zero (p : Nat → Bool) (l : List Nat) : anyT p l 0 = false := by simp [anyT]
theorem anyT_succ (p : Nat → Bool) {l : List Nat} {k : Nat} (h : k < l.length) : anyT p l (k + 1) = (anyT p l k || p l[k]) := by
  unfold anyT
  rw [List.take_add_one, List.getElem?_eq_getElem h, List.any_append]
  simp
theorem anyT_all (p : Nat → Bool) (l : List Nat) : anyT p l l.length = l.any p := by simp [anyT]
def shP (m : Msh) (i k : Nat) : Bool := shareB (fce m i) (fce m k)
def ovP (m : Msh) (i k : Nat) : Bool := ovT (triF m (fce m i)) (triF m (fce m k))
theorem sideB_any {m : Msh} {i : Nat} (h : sndB m i = true) : sideB m i = (fil (sndB m) i).any (shP m i) := by
  rw [fil, List.any_filter, sideB, h]; rfl
theorem overB_any {m : Msh} {i : Nat} (h : sndB m i = true) : overB m i = (fil (sndB m) i).any (ovP m i) := by
  rw [fil, List.any_filter, overB, h]; rfl
def rcE4 (m : Msh) (i k : Nat) : Env := [(1, .ptr (mshC m)), (3, .ref (.r 10048) 0 7), (10048, .blk 1 [[.own 2 []], [.own 2 (fdR 1 (fil (farB m) m.s.length))], [.own 2 (fdR 2 (fil (sameB m) m.s.length))], [.own 2 (fdR 3 (fil (badB m) i))], [.own 2 (fdR 4 (fil (flatB m) i))], [.own 2 (fdR 5 (fil (sideB m) i))], [.own 2 (fdR 6 (fil (overB m) i))]]), (7, .ref (.r 10112) 0 (fil (sndB m) i).length), (10112, .blk 4 (fcR m (fil (sndB m) i))), (8, .int .i64 i), (9, .adr (.r 10144) 0 0), (10144, .blk 4 [fceC (fce m i)]), (10, .bool (anyT (shP m i) (fil (sndB m) i) k)), (11, .bool (anyT (ovP m i) (fil (sndB m) i) k)), (12, .int .i64 k)]
theorem rcE4_eq (m : Msh) (i k : Nat) : rcE4 m i k = [(1, .ptr (mshC m)), (3, .ref (.r 10048) 0 7), (10048, .blk 1 [[.own 2 []], [.own 2 (fdR 1 (fil (farB m) m.s.length))], [.own 2 (fdR 2 (fil (sameB m) m.s.length))], [.own 2 (fdR 3 (fil (badB m) i))], [.own 2 (fdR 4 (fil (flatB m) i))], [.own 2 (fdR 5 (fil (sideB m) i))], [.own 2 (fdR 6 (fil (overB m) i))]]), (7, .ref (.r 10112) 0 (fil (sndB m) i).length), (10112, .blk 4 (fcR m (fil (sndB m) i))), (8, .int .i64 i), (9, .adr (.r 10144) 0 0), (10144, .blk 4 [fceC (fce m i)]), (10, .bool (anyT (shP m i) (fil (sndB m) i) k)), (11, .bool (anyT (ovP m i) (fil (sndB m) i) k)), (12, .int .i64 k)] := _root_.id rfl
def rcE1 (m : Msh) (i : Nat) : Env := [(1, .ptr (mshC m)), (3, .ref (.r 10048) 0 7), (10048, .blk 1 [[.own 2 []], [.own 2 (fdR 1 (fil (farB m) i))], [.own 2 (fdR 2 (fil (sameB m) i))], [.own 2 []], [.own 2 []], [.own 2 []], [.own 2 []]]), (4, .int .i64 i)]
theorem rcE1_eq (m : Msh) (i : Nat) : rcE1 m i = [(1, .ptr (mshC m)), (3, .ref (.r 10048) 0 7), (10048, .blk 1 [[.own 2 []], [.own 2 (fdR 1 (fil (farB m) i))], [.own 2 (fdR 2 (fil (sameB m) i))], [.own 2 []], [.own 2 []], [.own 2 []], [.own 2 []]]), (4, .int .i64 i)] := _root_.id rfl
def rcE2 (m : Msh) (i k : Nat) : Env := [(1, .ptr (mshC m)), (3, .ref (.r 10048) 0 7), (10048, .blk 1 [[.own 2 []], [.own 2 (fdR 1 (fil (farB m) i))], [.own 2 (fdR 2 (fil (sameB m) i))], [.own 2 []], [.own 2 []], [.own 2 []], [.own 2 []]]), (4, .int .i64 i), (5, .adr (.r 10080) 0 0), (10080, .blk 3 [sptC (spt m i)]), (6, .int .i64 k)]
theorem rcE2_eq (m : Msh) (i k : Nat) : rcE2 m i k = [(1, .ptr (mshC m)), (3, .ref (.r 10048) 0 7), (10048, .blk 1 [[.own 2 []], [.own 2 (fdR 1 (fil (farB m) i))], [.own 2 (fdR 2 (fil (sameB m) i))], [.own 2 []], [.own 2 []], [.own 2 []], [.own 2 []]]), (4, .int .i64 i), (5, .adr (.r 10080) 0 0), (10080, .blk 3 [sptC (spt m i)]), (6, .int .i64 k)] := _root_.id rfl
def rcE3 (m : Msh) (i : Nat) : Env := [(1, .ptr (mshC m)), (3, .ref (.r 10048) 0 7), (10048, .blk 1 [[.own 2 []], [.own 2 (fdR 1 (fil (farB m) m.s.length))], [.own 2 (fdR 2 (fil (sameB m) m.s.length))], [.own 2 (fdR 3 (fil (badB m) i))], [.own 2 (fdR 4 (fil (flatB m) i))], [.own 2 (fdR 5 (fil (sideB m) i))], [.own 2 (fdR 6 (fil (overB m) i))]]), (7, .ref (.r 10112) 0 (fil (sndB m) i).length), (10112, .blk 4 (fcR m (fil (sndB m) i))), (8, .int .i64 i)]
theorem rcE3_eq (m : Msh) (i : Nat) : rcE3 m i = [(1, .ptr (mshC m)), (3, .ref (.r 10048) 0 7), (10048, .blk 1 [[.own 2 []], [.own 2 (fdR 1 (fil (farB m) m.s.length))], [.own 2 (fdR 2 (fil (sameB m) m.s.length))], [.own 2 (fdR 3 (fil (badB m) i))], [.own 2 (fdR 4 (fil (flatB m) i))], [.own 2 (fdR 5 (fil (sideB m) i))], [.own 2 (fdR 6 (fil (overB m) i))]]), (7, .ref (.r 10112) 0 (fil (sndB m) i).length), (10112, .blk 4 (fcR m (fil (sndB m) i))), (8, .int .i64 i)] := _root_.id rfl
variable {C : CC} (hC : Closed prog C)
include hC
set_option maxRecDepth 4000 in
set_option maxHeartbeats 4000000 in
theorem rCheck_c (m : Msh) (hs : m.s.length ≤ 100) (hf : m.f.length ≤ 100) : C 258 [.agg (mshC m)] (.sl ((outF decF 0 (LL m)).map fnD)) [] := by
  have kr := fun s => rSpot_c hC s
  have kd := fun n h => rDec_c hC n h
  have kp := fun s => rPoint_c hC s
  refine start hC (nf := N258_ref09_Check) rfl rfl ?_
  simp [N258_ref09_Check, mshC_eq]
  refine loop_of Nat (fun i => rcE1 m i) (fun i => i ≤ m.s.length) (fun i => m.s.length - i) 0 (by simp) (by simp [rcE1_eq, mshC_eq, fil_zero, List.replicate]) ?_
  rintro i hi
  simp [rcE1_eq, mshC_eq]
  refine brB_of (fun g1 => ?_) (fun g1 => ?_) <;> simp at g1 <;> simp [g1]
  · have hw : IntKind.wrap .i64 ((i : Int) + 1) = ((i + 1 : Nat) : Int) := wrap_i64 (by omega) (by omega)
    have kri := kr (spt m i)
    simp only [sptC_eq] at kri
    have kdi := kd i (by omega)
    have l1 := fil_le (farB m) i
    have l2 := fil_le (sameB m) i
    simp [sptC_eq]
    refine callW_of kri (.inl rfl) ?_
    simp
    cases hr1 : rightS (spt m i)
    · have e1 := fdR_yes (p := farB m) (n := i) (k := 1) (by simp [farB, hr1])
      have e2 := fdR_no (p := sameB m) (n := i) (k := 2) (by simp [sameB, hr1])
      simp
      refine callW_of kdi (.inl rfl) ?_
      simp
      simp only [decF] at e1
      refine ⟨by omega, indW_of (by decide +kernel), i + 1, by omega, by omega, ?_⟩
      simp [rcE1_eq, mshC_eq, hw, e1, ← e2]
    · have e0 := fdR_no (p := farB m) (n := i) (k := 1) (by simp [farB, hr1])
      have hsame : sameB m i = (List.range i).any fun k => rightS (spt m k) && decide (sptP m k = sptP m i) := by rw [sameB, hr1, Bool.true_and]
      simp
      refine loop_of Nat (fun k => rcE2 m i k) (fun k => k ≤ i ∧ ∀ j, j < k → rightS (spt m j) = true → ¬ sptP m j = sptP m i) (fun k => i - k) 0 (by simp) (by simp [rcE2_eq, mshC_eq, sptC_eq]) ?_
      rintro k ⟨hk, hK⟩
      simp [rcE2_eq, mshC_eq, sptC_eq]
      refine brB_of (fun g2 => ?_) (fun g2 => ?_) <;> simp at g2 <;> simp [g2]
      · have hw2 : IntKind.wrap .i64 ((k : Int) + 1) = ((k + 1 : Nat) : Int) := wrap_i64 (by omega) (by omega)
        have krk := kr (spt m k)
        have kpk := kp (spt m k)
        have kpi := kp (spt m i)
        simp only [sptC_eq, ptD] at krk kpk kpi
        have hks : k < m.s.length := by omega
        simp [hks, sptC_eq]
        refine callW_of krk (.inl rfl) ?_
        simp
        have next : (rightS (spt m k) = true → ¬ sptP m k = sptP m i) → ∀ j, j < k + 1 → rightS (spt m j) = true → ¬ sptP m j = sptP m i := fun h j hj => by
          rcases Nat.lt_succ_iff_lt_or_eq.1 hj with h2 | rfl
          · exact hK j h2
          · exact h
        cases hr2 : rightS (spt m k)
        · simp
          refine ⟨indW_of (by decide +kernel), ?_⟩
          refine ⟨k + 1, ⟨by omega, next (by rw [hr2]; simp)⟩, by omega, ?_⟩
          simp [rcE2_eq, mshC_eq, sptC_eq, hw2]
        · simp [hks, sptC_eq]
          refine callW_of kpk (.inl rfl) ?_
          simp
          refine callW_of kpi (.inl rfl) ?_
          simp
          refine ⟨indW_of (by decide +kernel), ?_⟩
          by_cases hp : sptP m k = sptP m i
          · have hs1 : sameB m i = true := by
              rw [hsame, List.any_eq_true]
              exact ⟨k, List.mem_range.2 g2, by simp [hr2, hp]⟩
            have e2 := fdR_yes (p := sameB m) (n := i) (k := 2) hs1
            simp only [decF] at e2
            have hp1 : (ptS (spt m k)).1 = (ptS (spt m i)).1 := congrArg Prod.fst hp
            have hp2 : (ptS (spt m k)).2 = (ptS (spt m i)).2 := congrArg Prod.snd hp
            simp [hp1, hp2]
            refine callW_of kdi (.inl rfl) ?_
            simp
            refine ⟨by omega, indW_of (by decide +kernel), i + 1, by omega, by omega, ?_⟩
            simp [rcE1_eq, mshC_eq, hw, ← e0, e2]
          · have hp1 : ¬ ((ptS (spt m k)).1 = (ptS (spt m i)).1 ∧ (ptS (spt m k)).2 = (ptS (spt m i)).2) := fun h => hp (Prod.ext h.1 h.2)
            have hp2 : (decide ((ptS (spt m k)).1 = (ptS (spt m i)).1) && decide ((ptS (spt m k)).2 = (ptS (spt m i)).2)) = false := by
              rw [Bool.eq_false_iff]; simpa using hp1
            simp [hp2]
            refine ⟨k + 1, ⟨by omega, next (fun _ => hp)⟩, by omega, ?_⟩
            simp [rcE2_eq, mshC_eq, sptC_eq, hw2]
      · have hk2 : k = i := by omega
        subst hk2
        have hs1 : sameB m k = false := by
          rw [hsame, List.any_eq_false]
          intro j hj
          have := hK j (List.mem_range.1 hj)
          simpa using this
        have e2 := fdR_no (p := sameB m) (n := k) (k := 2) hs1
        refine ⟨k + 1, by omega, by omega, ?_⟩
        simp [rcE1_eq, mshC_eq, hw, ← e0, ← e2]
  · have hi2 : i = m.s.length := by omega
    subst hi2
    clear kr kp
    have kc := fun f => rcor_c hC m f (by omega)
    refine loop_of Nat (fun i => rcE3 m i) (fun i => i ≤ m.f.length) (fun i => m.f.length - i) 0 (by simp) (by simp [rcE3_eq, mshC_eq, fil_zero]) ?_
    clear hi g1
    rintro i hi
    simp [rcE3_eq, mshC_eq]
    refine brB_of (fun g1 => ?_) (fun g1 => ?_) <;> simp at g1 <;> simp [g1]
    · have hw : IntKind.wrap .i64 ((i : Int) + 1) = ((i + 1 : Nat) : Int) := wrap_i64 (by omega) (by omega)
      have kci := kc (fce m i)
      have kdi := kd i (by omega)
      simp only [mshC_eq, fceC_eq] at kci
      have l3 := fil_le (badB m) i
      have l4 := fil_le (flatB m) i
      have l5 := fil_le (sideB m) i
      have l6 := fil_le (overB m) i
      simp [fceC_eq]
      refine callW_of kci (.inl rfl) ?_
      simp
      cases ok : okF m (fce m i)
      · have hsn : sndB m i = false := by simp [sndB, ok]
        have e1 := fdR_yes (p := badB m) (n := i) (k := 3) (by simp [badB, ok])
        have e2 := fdR_no (p := flatB m) (n := i) (k := 4) (by simp [flatB, ok])
        have e3 := fdR_no (p := sideB m) (n := i) (k := 5) (by simp [sideB, hsn])
        have e4 := fdR_no (p := overB m) (n := i) (k := 6) (by simp [overB, hsn])
        have e5 := fil_no hsn
        simp only [decF] at e1
        simp
        refine callW_of kdi (.inl rfl) ?_
        simp
        refine ⟨by omega, indW_of (by decide +kernel), i + 1, by omega, by omega, ?_⟩
        simp [rcE3_eq, mshC_eq, hw, e1, ← e2, ← e3, ← e4, e5]
      · have hT := okF_okT ok
        have kt := rturn_c hC m (fce m i) (okF_inS ok) hT
        simp only [mshC_eq, fceC_eq] at kt
        have e1 := fdR_no (p := badB m) (n := i) (k := 3) (by simp [badB, ok])
        simp
        refine callW_of kt (.inl rfl) ?_
        simp
        refine brB_of (fun d1 => ?_) (fun d1 => ?_) <;> simp at d1 <;> simp [d1]
        · have hfl : flatB m i = true := by simp [flatB, ok, d1]
          have hsn : sndB m i = false := by simp [sndB, ok]; omega
          have e2 := fdR_yes (k := 4) hfl
          have e3 := fdR_no (p := sideB m) (n := i) (k := 5) (by simp [sideB, hsn])
          have e4 := fdR_no (p := overB m) (n := i) (k := 6) (by simp [overB, hsn])
          have e5 := fil_no hsn
          simp only [decF] at e2
          refine callW_of kdi (.inl rfl) ?_
          simp
          refine ⟨by omega, indW_of (by decide +kernel), i + 1, by omega, by omega, ?_⟩
          simp [rcE3_eq, mshC_eq, hw, ← e1, e2, ← e3, ← e4, e5]
        · have hfl : flatB m i = false := by simp [flatB, ok]; omega
          have hsn : sndB m i = true := by simp [sndB, ok, d1]
          have e2 := fdR_no (k := 4) hfl
          have lsn := fil_le (sndB m) i
          have hsd := sideB_any hsn
          have hov := overB_any hsn
          refine loop_of Nat (fun k => rcE4 m i k) (fun k => k ≤ (fil (sndB m) i).length) (fun k => (fil (sndB m) i).length - k) 0 (by simp) (by simp [rcE4_eq, mshC_eq, fceC_eq, anyT_zero]) ?_
          rintro k hk
          simp [rcE4_eq, mshC_eq, fceC_eq]
          refine brB_of (fun g2 => ?_) (fun g2 => ?_) <;> simp at g2 <;> simp [g2]
          · have hw2 : IntKind.wrap .i64 ((k : Int) + 1) = ((k + 1 : Nat) : Int) := wrap_i64 (by omega) (by omega)
            have hq := (fil_lt (List.getElem_mem g2)).2
            simp only [sndB, Bool.and_eq_true] at hq
            have ks := rsame_c hC (fce m i) (fce m (fil (sndB m) i)[k])
            have ko := roverlap_c hC m (fce m i) (fce m (fil (sndB m) i)[k]) (okF_inS ok) hT (okF_inS hq.1) (okF_okT hq.1)
            have a1 := anyT_succ (shP m i) g2
            have a2 := anyT_succ (ovP m i) g2
            rw [show shP m i (fil (sndB m) i)[k] = shareB (fce m i) (fce m (fil (sndB m) i)[k]) from rfl] at a1
            rw [show ovP m i (fil (sndB m) i)[k] = ovT (triF m (fce m i)) (triF m (fce m (fil (sndB m) i)[k])) from rfl] at a2
            simp only [mshC_eq, fceC_eq] at ks ko
            cases h1 : anyT (shP m i) (fil (sndB m) i) k <;> cases h2 : anyT (ovP m i) (fil (sndB m) i) k <;> rw [h1] at a1 <;> rw [h2] at a2 <;> simp at a1 a2
            · simp [fcR_eq, g2, fceC_eq]
              refine callW_of ks (.inl rfl) ?_
              simp
              refine ⟨indW_of (by decide +kernel), ?_⟩
              simp [fcR_eq, g2, fceC_eq]
              refine callW_of ko (.inl rfl) ?_
              simp
              refine ⟨indW_of (by decide +kernel), ?_⟩
              refine ⟨k + 1, by omega, by omega, ?_⟩
              simp [rcE4_eq, mshC_eq, fceC_eq, hw2, a1, a2, fcR_eq]
            · simp [fcR_eq, g2, fceC_eq]
              refine callW_of ks (.inl rfl) ?_
              simp
              refine ⟨indW_of (by decide +kernel), indW_of (by decide +kernel), ?_⟩
              refine ⟨k + 1, by omega, by omega, ?_⟩
              simp [rcE4_eq, mshC_eq, fceC_eq, hw2, a1, a2, fcR_eq]
            · simp
              refine ⟨indW_of (by decide +kernel), ?_⟩
              simp [fcR_eq, g2, fceC_eq]
              refine callW_of ko (.inl rfl) ?_
              simp
              refine ⟨indW_of (by decide +kernel), ?_⟩
              refine ⟨k + 1, by omega, by omega, ?_⟩
              simp [rcE4_eq, mshC_eq, fceC_eq, hw2, a1, a2, fcR_eq]
            · simp
              refine ⟨indW_of (by decide +kernel), indW_of (by decide +kernel), ?_⟩
              refine ⟨k + 1, by omega, by omega, ?_⟩
              simp [rcE4_eq, mshC_eq, fceC_eq, hw2, a1, a2, fcR_eq]
          · have hk2 : k = (fil (sndB m) i).length := by omega
            subst hk2
            rw [anyT_all, anyT_all, ← hsd, ← hov]
            have e5 := fcR_yes hsn
            have e8 : (fil (sndB m) (i + 1)).length = (fil (sndB m) i).length + 1 := by rw [fil_yes hsn]; simp
            simp only [fceC_eq] at e5
            cases h1 : sideB m i
            · have e3 := fdR_no (k := 5) h1
              simp
              cases h2 : overB m i
              · have e4 := fdR_no (k := 6) h2
                simp
                refine ⟨by omega, i + 1, by omega, by omega, ?_⟩
                simp [rcE3_eq, mshC_eq, hw, ← e1, ← e2, ← e3, ← e4, e5, e8]
              · have e4 := fdR_yes (k := 6) h2
                simp only [decF] at e4
                simp
                refine callW_of kdi (.inl rfl) ?_
                simp
                refine ⟨by omega, indW_of (by decide +kernel), ?_⟩
                refine ⟨by omega, i + 1, by omega, by omega, ?_⟩
                simp [rcE3_eq, mshC_eq, hw, ← e1, ← e2, ← e3, e4, e5, e8]
            · have e3 := fdR_yes (k := 5) h1
              simp only [decF] at e3
              simp
              refine callW_of kdi (.inl rfl) ?_
              simp
              refine ⟨by omega, indW_of (by decide +kernel), ?_⟩
              cases h2 : overB m i
              · have e4 := fdR_no (k := 6) h2
                simp
                refine ⟨by omega, i + 1, by omega, by omega, ?_⟩
                simp [rcE3_eq, mshC_eq, hw, ← e1, ← e2, e3, ← e4, e5, e8]
              · have e4 := fdR_yes (k := 6) h2
                simp only [decF] at e4
                simp
                refine callW_of kdi (.inl rfl) ?_
                simp
                refine ⟨by omega, indW_of (by decide +kernel), ?_⟩
                refine ⟨by omega, i + 1, by omega, by omega, ?_⟩
                simp [rcE3_eq, mshC_eq, hw, ← e1, ← e2, e3, e4, e5, e8]
    · have hi2 : i = m.f.length := by omega
      subst hi2
      have bd : ∀ (p : Nat → Bool) (n : Nat), n ≤ 100 → (fil p n).length ≤ 100 := fun p n hn => by have := fil_le p n; omega
      have q1 := bd (farB m) _ hs
      have q2 := bd (sameB m) _ hs
      have q3 := bd (badB m) _ hf
      have q4 := bd (flatB m) _ hf
      have q5 := bd (sideB m) _ hf
      have q6 := bd (overB m) _ hf
      have hLL : LL m = [[], fil (farB m) m.s.length, fil (sameB m) m.s.length, fil (badB m) m.f.length, fil (flatB m) m.f.length, fil (sideB m) m.f.length, fil (overB m) m.f.length] := rfl
      rw [hLL]
      clear hLL bd
      generalize fil (farB m) m.s.length = L1 at *
      generalize fil (sameB m) m.s.length = L2 at *
      generalize fil (badB m) m.f.length = L3 at *
      generalize fil (flatB m) m.f.length = L4 at *
      generalize fil (sideB m) m.f.length = L5 at *
      generalize fil (overB m) m.f.length = L6 at *
      obtain ⟨BK, hBK⟩ : ∃ x : D, x = .blk 1 [[.own 2 []], [.own 2 (fdR 1 L1)], [.own 2 (fdR 2 L2)], [.own 2 (fdR 3 L3)], [.own 2 (fdR 4 L4)], [.own 2 (fdR 5 L5)], [.own 2 (fdR 6 L6)]] := ⟨_, rfl⟩
      obtain ⟨U, hU⟩ : ∃ U : Nat → List (Int × List UInt8), U = fun k => outF decF 0 (([([] : List Nat), L1, L2, L3, L4, L5, L6]).take k) := ⟨_, rfl⟩
      have hU7 : U 7 = outF decF 0 [[], L1, L2, L3, L4, L5, L6] := by rw [hU]; rfl
      have hU0 : U 0 = [] := by rw [hU]; rfl
      have hU0s : U 1 = U 0 ++ fdL 0 ([] : List Nat) := by
        rw [hU]; show outF decF 0 (([([] : List Nat), L1, L2, L3, L4, L5, L6]).take 0 ++ [([] : List Nat)]) = _
        rw [outF_app]; simp [outF, fdL]
      have hU1s : U 2 = U 1 ++ fdL 1 L1 := by
        rw [hU]; show outF decF 0 (([([] : List Nat), L1, L2, L3, L4, L5, L6]).take 1 ++ [L1]) = _
        rw [outF_app]; simp [outF, fdL]
      have hU2s : U 3 = U 2 ++ fdL 2 L2 := by
        rw [hU]; show outF decF 0 (([([] : List Nat), L1, L2, L3, L4, L5, L6]).take 2 ++ [L2]) = _
        rw [outF_app]; simp [outF, fdL]
      have hU3s : U 4 = U 3 ++ fdL 3 L3 := by
        rw [hU]; show outF decF 0 (([([] : List Nat), L1, L2, L3, L4, L5, L6]).take 3 ++ [L3]) = _
        rw [outF_app]; simp [outF, fdL]
      have hU4s : U 5 = U 4 ++ fdL 4 L4 := by
        rw [hU]; show outF decF 0 (([([] : List Nat), L1, L2, L3, L4, L5, L6]).take 4 ++ [L4]) = _
        rw [outF_app]; simp [outF, fdL]
      have hU5s : U 6 = U 5 ++ fdL 5 L5 := by
        rw [hU]; show outF decF 0 (([([] : List Nat), L1, L2, L3, L4, L5, L6]).take 5 ++ [L5]) = _
        rw [outF_app]; simp [outF, fdL]
      have hU6s : U 7 = U 6 ++ fdL 6 L6 := by
        rw [hU]; show outF decF 0 (([([] : List Nat), L1, L2, L3, L4, L5, L6]).take 6 ++ [L6]) = _
        rw [outF_app]; simp [outF, fdL]
      have lU0 : (U 0).length ≤ 0 := by rw [hU0]; simp
      have lU1 : (U 1).length ≤ 100 := by rw [hU0s]; simp; omega
      have lU2 : (U 2).length ≤ 200 := by rw [hU1s]; simp; omega
      have lU3 : (U 3).length ≤ 300 := by rw [hU2s]; simp; omega
      have lU4 : (U 4).length ≤ 400 := by rw [hU3s]; simp; omega
      have lU5 : (U 5).length ≤ 500 := by rw [hU4s]; simp; omega
      have lU6 : (U 6).length ≤ 600 := by rw [hU5s]; simp; omega
      rw [← hU7]
      refine loop_of Nat (fun k => [(3, .ref (.r 10048) 0 7), (10048, BK), (13, .ref (.r 10208) 0 (U k).length), (10208, .blk 2 (fnR (U k))), (14, .int .i64 k)]) (fun k => k ≤ 7) (fun k => 7 - k) 0 (by simp) (by simp [hU0, hBK]) ?_
      rintro k hk
      rcases (by omega : k = 0 ∨ k = 1 ∨ k = 2 ∨ k = 3 ∨ k = 4 ∨ k = 5 ∨ k = 6 ∨ k = 7) with rfl | rfl | rfl | rfl | rfl | rfl | rfl | rfl
      · have e : fnR (U 0) ++ fdR 0 ([] : List Nat) = fnR (U 1) := by rw [hU0s]; simp [fnR, fdR]
        have e' : (U 1).length = (U 0).length + (([] : List Nat)).length := by rw [hU0s]; simp
        simp [hBK]
        refine ⟨by omega, 1, by omega, by omega, ?_, ?_, by decide⟩
        · simpa using e'.symm
        · simpa using e
      · have e : fnR (U 1) ++ fdR 1 L1 = fnR (U 2) := by rw [hU1s]; simp [fnR, fdR]
        have e' : (U 2).length = (U 1).length + (L1).length := by rw [hU1s]; simp
        simp [hBK]
        refine ⟨by omega, 2, by omega, by omega, ?_, ?_, by decide⟩
        · simpa using e'.symm
        · simpa using e
      · have e : fnR (U 2) ++ fdR 2 L2 = fnR (U 3) := by rw [hU2s]; simp [fnR, fdR]
        have e' : (U 3).length = (U 2).length + (L2).length := by rw [hU2s]; simp
        simp [hBK]
        refine ⟨by omega, 3, by omega, by omega, ?_, ?_, by decide⟩
        · simpa using e'.symm
        · simpa using e
      · have e : fnR (U 3) ++ fdR 3 L3 = fnR (U 4) := by rw [hU3s]; simp [fnR, fdR]
        have e' : (U 4).length = (U 3).length + (L3).length := by rw [hU3s]; simp
        simp [hBK]
        refine ⟨by omega, 4, by omega, by omega, ?_, ?_, by decide⟩
        · simpa using e'.symm
        · simpa using e
      · have e : fnR (U 4) ++ fdR 4 L4 = fnR (U 5) := by rw [hU4s]; simp [fnR, fdR]
        have e' : (U 5).length = (U 4).length + (L4).length := by rw [hU4s]; simp
        simp [hBK]
        refine ⟨by omega, 5, by omega, by omega, ?_, ?_, by decide⟩
        · simpa using e'.symm
        · simpa using e
      · have e : fnR (U 5) ++ fdR 5 L5 = fnR (U 6) := by rw [hU5s]; simp [fnR, fdR]
        have e' : (U 6).length = (U 5).length + (L5).length := by rw [hU5s]; simp
        simp [hBK]
        refine ⟨by omega, 6, by omega, by omega, ?_, ?_, by decide⟩
        · simpa using e'.symm
        · simpa using e
      · have e : fnR (U 6) ++ fdR 6 L6 = fnR (U 7) := by rw [hU6s]; simp [fnR, fdR]
        have e' : (U 7).length = (U 6).length + (L6).length := by rw [hU6s]; simp
        simp [hBK]
        refine ⟨by omega, 7, by omega, by omega, ?_, ?_, by decide⟩
        · simpa using e'.symm
        · simpa using e
      · simp [hBK]
        rfl
end Go.Gv

set_option linter.unusedSimpArgs false
namespace Go.Gv
def nbE1 (m : Msh) (i : Nat) : Env := [(1, .ptr (mshC m)), (3, .mrf 10224), (10224, .mp 3 2 (nbKs m i) (nbVs m i)), (16, slx m.fn (m.f.map fceC)), (17, .int .i64 m.f.length), (18, .int .i64 i)]
theorem nbE1_eq (m : Msh) (i : Nat) : nbE1 m i = [(1, .ptr (mshC m)), (3, .mrf 10224), (10224, .mp 3 2 (nbKs m i) (nbVs m i)), (16, slx m.fn (m.f.map fceC)), (17, .int .i64 m.f.length), (18, .int .i64 i)] := _root_.id rfl
def nbE2 (m : Msh) (i k : Nat) : Env := [(1, .ptr (mshC m)), (3, .mrf 10224), (10224, .mp 3 2 (sdK (fce m i) k ++ nbKs m i) (List.replicate k (.int .i64 i) ++ nbVs m i)), (4, .int .i64 i), (5, .adr (.r 10080) 0 0), (10080, .blk 4 [fceC (fce m i)]), (16, slx m.fn (m.f.map fceC)), (17, .int .i64 m.f.length), (18, .int .i64 i), (23, .int .i64 k)]
theorem nbE2_eq (m : Msh) (i k : Nat) : nbE2 m i k = [(1, .ptr (mshC m)), (3, .mrf 10224), (10224, .mp 3 2 (sdK (fce m i) k ++ nbKs m i) (List.replicate k (.int .i64 i) ++ nbVs m i)), (4, .int .i64 i), (5, .adr (.r 10080) 0 0), (10080, .blk 4 [fceC (fce m i)]), (16, slx m.fn (m.f.map fceC)), (17, .int .i64 m.f.length), (18, .int .i64 i), (23, .int .i64 k)] := _root_.id rfl
def nbE3 (m : Msh) (i : Nat) : Env := [(3, .mrf 10224), (10224, .mp 3 2 (nbKs m m.f.length) (nbVs m m.f.length)), (7, .ref (.r 10112) 0 m.f.length), (10112, .blk 3 (nbR m i 0)), (38, slx m.fn (m.f.map fceC)), (39, .int .i64 m.f.length), (40, .int .i64 i)]
theorem nbE3_eq (m : Msh) (i : Nat) : nbE3 m i = [(3, .mrf 10224), (10224, .mp 3 2 (nbKs m m.f.length) (nbVs m m.f.length)), (7, .ref (.r 10112) 0 m.f.length), (10112, .blk 3 (nbR m i 0)), (38, slx m.fn (m.f.map fceC)), (39, .int .i64 m.f.length), (40, .int .i64 i)] := _root_.id rfl
def nbE4 (m : Msh) (i k : Nat) : Env := [(3, .mrf 10224), (10224, .mp 3 2 (nbKs m m.f.length) (nbVs m m.f.length)), (7, .ref (.r 10112) 0 m.f.length), (10112, .blk 3 (nbR m i k)), (8, .int .i64 i), (9, .adr (.r 10144) 0 0), (10144, .blk 4 [fceC (fce m i)]), (38, slx m.fn (m.f.map fceC)), (39, .int .i64 m.f.length), (40, .int .i64 i), (45, .int .i64 k)]
theorem nbE4_eq (m : Msh) (i k : Nat) : nbE4 m i k = [(3, .mrf 10224), (10224, .mp 3 2 (nbKs m m.f.length) (nbVs m m.f.length)), (7, .ref (.r 10112) 0 m.f.length), (10112, .blk 3 (nbR m i k)), (8, .int .i64 i), (9, .adr (.r 10144) 0 0), (10144, .blk 4 [fceC (fce m i)]), (38, slx m.fn (m.f.map fceC)), (39, .int .i64 m.f.length), (40, .int .i64 i), (45, .int .i64 k)] := _root_.id rfl
variable {C : CC} (hC : Closed prog C)
include hC
end Go.Gv

set_option linter.unusedSimpArgs false
namespace Go.Gv
theorem rightS_bd {s : Spt} (h : rightS s = true) : -16777216 ≤ s.x ∧ s.x ≤ 16777216 ∧ -16777216 ≤ s.y ∧ s.y ≤ 16777216 ∧ -4194304 ≤ s.z ∧ s.z ≤ 4194304 := by
  simp only [rightS, Bool.and_eq_true, decide_eq_true_eq] at h
  omega
def spA (m : Msh) (i : Nat) : Spt := spt m (fce m i).a.toNat
def spB (m : Msh) (i : Nat) : Spt := spt m (fce m i).b.toNat
def spC (m : Msh) (i : Nat) : Spt := spt m (fce m i).c.toNat
def sumF (m : Msh) (i : Nat) : Int := (spA m i).z + (spB m i).z + (spC m i).z
def cenX (m : Msh) (i : Nat) : Int := (spA m i).x + (spB m i).x + (spC m i).x
def cenY (m : Msh) (i : Nat) : Int := (spA m i).y + (spB m i).y + (spC m i).y
theorem spA_eq (m : Msh) (i : Nat) : spt m (fce m i).a.toNat = spA m i := rfl
theorem spB_eq (m : Msh) (i : Nat) : spt m (fce m i).b.toNat = spB m i := rfl
theorem spC_eq (m : Msh) (i : Nat) : spt m (fce m i).c.toNat = spC m i := rfl
theorem sp_bd {m : Msh} (hv : validM m = true) {i : Nat} (hi : i < m.f.length) : rightS (spA m i) = true ∧ rightS (spB m i) = true ∧ rightS (spC m i) = true := by
  obtain ⟨⟨_, h1⟩, ⟨_, h2⟩, ⟨_, h3⟩⟩ := inS_bd (valid_in hv hi)
  exact ⟨valid_s hv h1, valid_s hv h2, valid_s hv h3⟩
theorem sumF_bd {m : Msh} (hv : validM m = true) {i : Nat} (hi : i < m.f.length) : -12582912 ≤ sumF m i ∧ sumF m i ≤ 12582912 := by
  obtain ⟨h1, h2, h3⟩ := sp_bd hv hi
  have := rightS_bd h1
  have := rightS_bd h2
  have := rightS_bd h3
  unfold sumF
  omega
theorem cen_bd {m : Msh} (hv : validM m = true) {i : Nat} (hi : i < m.f.length) : -50331648 ≤ cenX m i ∧ cenX m i ≤ 50331648 ∧ -50331648 ≤ cenY m i ∧ cenY m i ≤ 50331648 := by
  obtain ⟨h1, h2, h3⟩ := sp_bd hv hi
  have := rightS_bd h1
  have := rightS_bd h2
  have := rightS_bd h3
  unfold cenX cenY
  omega
def smR (m : Msh) (i : Nat) : List (List D) := (List.range i).map fun j => [.int .i64 (sumF m j)]
def ctR (m : Msh) (i : Nat) : List (List D) := (List.range i).map fun j => [.int .i64 (cenX m j), .int .i64 (cenY m j)]
@[simp] theorem smR_len (m : Msh) (i : Nat) : (smR m i).length = i := by simp [smR]
@[simp] theorem ctR_len (m : Msh) (i : Nat) : (ctR m i).length = i := by simp [ctR]
@[simp] theorem smR_take (m : Msh) (i : Nat) : List.take i (smR m i) = smR m i := List.take_of_length_le (by simp)
@[simp] theorem ctR_take (m : Msh) (i : Nat) : List.take i (ctR m i) = ctR m i := List.take_of_length_le (by simp)
theorem smR_add (m : Msh) (i : Nat) : smR m i ++ [[.int .i64 (sumF m i)]] = smR m (i + 1) := by simp [smR, List.range_succ]
theorem ctR_add (m : Msh) (i : Nat) : ctR m i ++ [[.int .i64 (cenX m i), .int .i64 (cenY m i)]] = ctR m (i + 1) := by simp [ctR, List.range_succ]
@[simp] theorem smR_c1a (m : Msh) (i : Nat) (x : List D) : (∀ e, e ∈ smR m i ∨ e = x → ∀ c, c ∈ e → isC1 c = true) = ∀ c, c ∈ x → isC1 c = true := by
  apply propext
  constructor
  · exact fun h => h x (.inr rfl)
  · rintro h e (he | rfl)
    · obtain ⟨j, _, rfl⟩ := List.mem_map.1 he
      simp
    · exact h
@[simp] theorem ctR_c1a (m : Msh) (i : Nat) (x : List D) : (∀ e, e ∈ ctR m i ∨ e = x → ∀ c, c ∈ e → isC1 c = true) = ∀ c, c ∈ x → isC1 c = true := by
  apply propext
  constructor
  · exact fun h => h x (.inr rfl)
  · rintro h e (he | rfl)
    · obtain ⟨j, _, rfl⟩ := List.mem_map.1 he
      simp
    · exact h
/-- A cell that is nil at first. -/
def cN (sz : Nat) (es : List (List D)) : D := match es with
  | [] => .nils
  | e :: r => .own sz (e :: r)
@[simp] theorem cellV_cN (sz : Nat) (es : List (List D)) : cellV (cN sz es) = slx true es := by cases es <;> rfl
/-- A ground. -/
def grC (m : Msh) : List D := [.sl (nbA m), slx true (smR m m.f.length), slx true (ctR m m.f.length)]
theorem grC_eq (m : Msh) : grC m = [.sl (nbA m), slx true (smR m m.f.length), slx true (ctR m m.f.length)] := _root_.id rfl
def mdE (m : Msh) (i : Nat) : Env := [(1, .ptr (mshC m)), (6, .adr (.r 10352) 0 0), (10352, .blk 3 [[.sl (nbA m), cN 1 (smR m i), cN 2 (ctR m i)]]), (24, slx m.fn (m.f.map fceC)), (25, .int .i64 m.f.length), (26, .int .i64 i)]
theorem mdE_eq (m : Msh) (i : Nat) : mdE m i = [(1, .ptr (mshC m)), (6, .adr (.r 10352) 0 0), (10352, .blk 3 [[.sl (nbA m), cN 1 (smR m i), cN 2 (ctR m i)]]), (24, slx m.fn (m.f.map fceC)), (25, .int .i64 m.f.length), (26, .int .i64 i)] := _root_.id rfl
theorem cN_sm (m : Msh) (i : Nat) : cN 1 (smR m (i + 1)) = .own 1 (smR m (i + 1)) := by
  have : (smR m (i + 1)).length = i + 1 := by simp
  cases h : smR m (i + 1) with
  | nil => rw [h] at this; simp at this
  | cons e r => rfl
theorem cN_ct (m : Msh) (i : Nat) : cN 2 (ctR m (i + 1)) = .own 2 (ctR m (i + 1)) := by
  have : (ctR m (i + 1)).length = i + 1 := by simp
  cases h : ctR m (i + 1) with
  | nil => rw [h] at this; simp at this
  | cons e r => rfl
variable {C : CC} (hC : Closed prog C)
include hC
end Go.Gv

set_option linter.unusedSimpArgs false
namespace Go.Gv
theorem smR_eq (m : Msh) (i : Nat) : smR m i = (List.range i).map fun j => [.int .i64 (sumF m j)] := rfl
theorem ctR_eq (m : Msh) (i : Nat) : ctR m i = (List.range i).map fun j => [.int .i64 (cenX m j), .int .i64 (cenY m j)] := rfl
theorem nbA_eq (m : Msh) : nbA m = (List.range m.f.length).map fun j => [.int .i64 (nbF m j 0), .int .i64 (nbF m j 1), .int .i64 (nbF m j 2)] := rfl
theorem range_gd (n i : Nat) (h : i < n) : (List.range n)[i]?.getD default = i := by simp [h]
theorem range_g0 (n i : Nat) (h : i < n) : (List.range n)[i]?.getD 0 = i := by simp [h]
theorem idxD_bd {α : Type} (p : α → Bool) (xs : List α) : -1 ≤ idxD p xs ∧ idxD p xs < xs.length := by
  unfold idxD
  split
  · rename_i i h
    have := (List.findIdx?_eq_some_iff_getElem.1 h).1
    omega
  · omega
theorem nbF_bd (m : Msh) (i k : Nat) : -1 ≤ nbF m i k ∧ nbF m i k < m.f.length := idxD_bd _ _
/-- It is beside it. -/
def bsd (m : Msh) (i : Nat) (o : Int) : Bool := decide (o = nbF m i 0) || (decide (o = nbF m i 1) || decide (o = nbF m i 2))
def difF (m : Msh) (i j : Nat) : Int := sumF m i - sumF m j
def numF (m : Msh) (i j : Nat) : Int := difF m i j * (if difF m i j < -difF m i j then -difF m i j else difF m i j)
def denF (m : Msh) (i j : Nat) : Int := (cenX m i - cenX m j) * (cenX m i - cenX m j) + (cenY m i - cenY m j) * (cenY m i - cenY m j)
def cmpF (m : Msh) (i a b : Nat) : Int := cmp3 (numF m i a * denF m i b) (numF m i b * denF m i a)
def stpF (m : Msh) (i : Nat) (best n : Int) : Int := if n < 0 ∨ sumF m i ≤ sumF m n.toNat then best else if best < 0 then n else if 0 < cmpF m i n.toNat best.toNat ∨ (cmpF m i n.toNat best.toNat = 0 ∧ n < best) then n else best
def upF (m : Msh) (i : Nat) : Nat → Int
  | 0 => -2
  | k + 1 => stpF m i (upF m i k) (nbF m i k)
def runF (m : Msh) (i : Nat) : Int := if upF m i 3 = -2 ∧ bsd m i (-1) = true then -1 else upF m i 3
theorem upF_bd (m : Msh) (i : Nat) : ∀ k, upF m i k = -2 ∨ (0 ≤ upF m i k ∧ upF m i k < m.f.length ∧ sumF m (upF m i k).toNat < sumF m i)
  | 0 => .inl rfl
  | k + 1 => by
    have := nbF_bd m i k
    rw [upF, stpF]
    by_cases h : nbF m i k < 0 ∨ sumF m i ≤ sumF m (nbF m i k).toNat
    · rw [if_pos h]; exact upF_bd m i k
    · rw [if_neg h]
      have h1 : 0 ≤ nbF m i k ∧ nbF m i k < m.f.length ∧ sumF m (nbF m i k).toNat < sumF m i := by omega
      split
      · exact .inr h1
      · split
        · exact .inr h1
        · exact upF_bd m i k
theorem numF_bd {m : Msh} (hv : validM m = true) {i j : Nat} (hi : i < m.f.length) (hj : j < m.f.length) : -1125899906842624 ≤ numF m i j ∧ numF m i j ≤ 1125899906842624 := by
  have h1 := sumF_bd hv hi
  have h2 := sumF_bd hv hj
  unfold numF
  have h3 : -33554432 ≤ difF m i j ∧ difF m i j ≤ 33554432 := by unfold difF; omega
  exact mul_bd (k := 33554432) (l := 33554432) (by omega) (by omega) (by split <;> omega) (by split <;> omega)
theorem sq_nn (a : Int) : 0 ≤ a * a := by
  rcases Int.le_total 0 a with h | h
  · exact Int.mul_nonneg h h
  · exact Int.mul_nonneg_of_nonpos_of_nonpos h h
theorem denF_bd {m : Msh} (hv : validM m = true) {i j : Nat} (hi : i < m.f.length) (hj : j < m.f.length) : 0 ≤ denF m i j ∧ denF m i j ≤ 36028797018963968 := by
  have h1 := cen_bd hv hi
  have h2 := cen_bd hv hj
  have h3 := mul_bd (k := 134217728) (l := 134217728) (a := cenX m i - cenX m j) (b := cenX m i - cenX m j) (by omega) (by omega) (by omega) (by omega)
  have h4 := mul_bd (k := 134217728) (l := 134217728) (a := cenY m i - cenY m j) (b := cenY m i - cenY m j) (by omega) (by omega) (by omega) (by omega)
  have h5 := sq_nn (cenX m i - cenX m j)
  have h6 := sq_nn (cenY m i - cenY m j)
  unfold denF
  omega
theorem numF_nn {m : Msh} {i j : Nat} (h : sumF m j ≤ sumF m i) : 0 ≤ numF m i j := by
  unfold numF
  have : 0 ≤ difF m i j := by unfold difF; omega
  exact Int.mul_nonneg this (by split <;> omega)
variable {C : CC} (hC : Closed prog C)
include hC
end Go.Gv

set_option linter.unusedSimpArgs false
namespace Go.Gv
theorem runF_bd (m : Msh) (i : Nat) : runF m i = -1 ∨ runF m i = -2 ∨ (0 ≤ runF m i ∧ runF m i < m.f.length ∧ sumF m (runF m i).toNat < sumF m i) := by
  have := upF_bd m i 3
  unfold runF
  split
  · exact .inl rfl
  · rcases this with h | h
    · exact .inr (.inl h)
    · exact .inr (.inr h)
def inR (l : List Int) : List (List D) := l.map fun n => [.int .i64 n]
theorem inR_eq (l : List Int) : inR l = l.map fun n => [.int .i64 n] := rfl
@[simp] theorem inR_len (l : List Int) : (inR l).length = l.length := by simp [inR]
@[simp] theorem inR_take (l : List Int) : List.take l.length (inR l) = inR l := List.take_of_length_le (by simp)
@[simp] theorem inR_cv (l : List Int) : List.map (fun e => List.map cellV e) (inR l) = inR l := by simp [inR]
@[simp] theorem inR_nil : inR [] = [] := rfl
theorem inR_add (l : List Int) (n : Int) : inR l ++ [[.int .i64 n]] = inR (l ++ [n]) := by simp [inR]
def sumL (m : Msh) : List Int := (List.range m.f.length).map fun j => sumF m j
def flowL (m : Msh) : List Int := (List.range m.f.length).map fun j => runF m j
theorem smR_L (m : Msh) : smR m m.f.length = inR (sumL m) := by simp [smR, inR, sumL]
def flT (m : Msh) (i : Nat) : List Int := (List.range i).map fun j => runF m j
theorem flT_len (m : Msh) (i : Nat) : (flT m i).length = i := by simp [flT]
theorem flT_add (m : Msh) (i : Nat) : flT m i ++ [runF m i] = flT m (i + 1) := by simp [flT, List.range_succ]
/-- The row of the flow, with its room. -/
def flB (m : Msh) : Nat → List (List D)
  | 0 => List.replicate m.f.length [.int .i64 0]
  | i + 1 => inR (flT m (i + 1))
theorem flB_take (m : Msh) (i : Nat) : List.take i (flB m i) = inR (flT m i) := by
  cases i with
  | zero => simp [flB, flT]
  | succ i =>
    have := inR_take (flT m (i + 1))
    rw [flT_len] at this
    exact this
theorem flB_cv (m : Msh) (i : Nat) : List.map (fun e => List.map cellV e) (flB m i) = flB m i := by cases i <;> simp [flB]
theorem flB_len (m : Msh) {i : Nat} : i ≤ (flB m i).length := by
  cases i with
  | zero => simp
  | succ i => simp [flB, flT_len]
/-- Along a path. -/
def pth (m : Msh) : Nat → Int → List Int
  | 0, _ => []
  | k + 1, f => if f < 0 then [] else f :: pth m k (runF m f.toNat)
def rnk (m : Msh) (i : Nat) : Nat := ((List.range m.f.length).filter fun j => decide (sumF m j < sumF m i)).length
theorem rnk_lt {m : Msh} {i j : Nat} (hj : j < m.f.length) (h : sumF m j < sumF m i) : rnk m j < rnk m i :=
  filter_lt (j := j) (fun x hx => by simp at hx ⊢; omega) (by simpa using h) (by simp) _ (List.mem_range.2 hj)
theorem rnk_le {m : Msh} {i : Nat} (hi : i < m.f.length) : rnk m i < m.f.length := by
  have h : rnk m i < ((List.range m.f.length).filter fun _ => true).length := filter_lt (j := i) (fun x _ => rfl) rfl (by simp) _ (List.mem_range.2 hi)
  have : ((List.range m.f.length).filter fun _ => true) = List.range m.f.length := by simp
  rw [this, List.length_range] at h
  exact h
def pathL (m : Msh) (f : Int) : List Int := pth m m.f.length f
theorem pth_neg (m : Msh) (k : Nat) {f : Int} (h : f < 0) : pth m k f = [] := by
  cases k with
  | zero => rfl
  | succ k => rw [pth, if_pos h]
theorem pth_len (m : Msh) : ∀ (k : Nat) (f : Int), (pth m k f).length ≤ k
  | 0, f => by simp [pth]
  | k + 1, f => by
    rw [pth]
    split
    · simp
    · have := pth_len m k (runF m f.toNat)
      simp; omega
def lakT (m : Msh) (i : Nat) : List Int := ((List.range i).filter fun j => decide (runF m j = -2)).map fun (j : Nat) => (j : Int)
theorem lakT_le (m : Msh) (i : Nat) : (lakT m i).length ≤ i := by
  have := List.length_filter_le (fun j => decide (runF m j = -2)) (List.range i)
  simp [lakT] at this ⊢
  omega
theorem lakT_yes {m : Msh} {i : Nat} (h : runF m i = -2) : lakT m i ++ [(i : Int)] = lakT m (i + 1) := by simp [lakT, List.range_succ, List.filter_append, h]
theorem lakT_no {m : Msh} {i : Nat} (h : runF m i ≠ -2) : lakT m i = lakT m (i + 1) := by simp [lakT, List.range_succ, List.filter_append, h]
def lakL (m : Msh) : List Int := lakT m m.f.length
variable {C : CC} (hC : Closed prog C)
include hC
theorem rValid_c (m : Msh) (hz : smallM m = true → m.s.length ≤ 100 ∧ m.f.length ≤ 100) : C 215 [.agg (mshC m)] (.bool (validM m)) [] := by
  have ks := rsmall_c hC m
  rw [show (decide (m.s.length ≤ 2000) && decide (m.f.length ≤ 4000)) = smallM m from rfl] at ks
  refine start hC (nf := N215_ref09_Valid) rfl rfl ?_
  simp only [mshC_eq] at ks
  simp [N215_ref09_Valid, mshC_eq]
  refine callW_of ks (.inl rfl) ?_
  cases hs : smallM m
  · simp [validM, hs]
  · obtain ⟨h1, h2⟩ := hz hs
    have k := rCheck_c hC m h1 h2
    have e : validM m = decide ((outF decF 0 (LL m)).length = 0) := by
      rw [validM, hs, Bool.true_and, Bool.eq_iff_iff, decide_eq_true_eq, List.length_eq_zero_iff, outF_nil]
    rw [e]
    obtain ⟨X, hX⟩ : ∃ X, X = outF decF 0 (LL m) := ⟨_, rfl⟩
    rw [← hX] at k ⊢
    simp only [mshC_eq] at k
    simp
    refine callW_of k (.inr rfl) ?_
    simp
end Go.Gv

set_option linter.unusedSimpArgs false
namespace Go.Gv
/-- What Slope finds wrong. -/
def slE (m : Msh) (a b : Int) : Int := if validM m = false then 1 else if inR1 m.f.length a = false ∨ inR1 m.f.length b = false then 2 else if bsd m a.toNat b = false then 25 else 0
def stE (m : Msh) (i a b : Int) : Int := if validM m = false then 1 else if inR1 m.f.length i = false ∨ inR1 m.f.length a = false ∨ inR1 m.f.length b = false then 2 else if bsd m i.toNat a = false ∨ bsd m i.toNat b = false then 25 else 0
theorem mulN_bd {x : Int} {q : Nat} (h1 : -1125899906842624 ≤ x ∧ x ≤ 1125899906842624) (h2 : q ≤ 36028797018963968) : x.natAbs * q < 1329227995784915872903807060280344576 ∧ -1329227995784915872903807060280344576 ≤ x * q ∧ x * q < 1329227995784915872903807060280344576 := by
  have h3 : x.natAbs * q ≤ 1125899906842624 * 36028797018963968 := Nat.mul_le_mul (by omega) h2
  have h4 : (x * q).natAbs = x.natAbs * q := by rw [Int.natAbs_mul, Int.natAbs_natCast]
  omega
variable {C : CC} (hC : Closed prog C)
include hC
end Go.Gv

set_option linter.unusedSimpArgs false
namespace Go.Gv
theorem idxD_at {α : Type} {p : α → Bool} {xs : List α} {i : Nat} (h : idxD p xs = (i : Int)) : ∃ h : i < xs.length, p xs[i] = true := by
  unfold idxD at h
  cases e : xs.findIdx? p with
  | none => rw [e] at h; simp at h
  | some k =>
    rw [e] at h
    have h : k = i := by have h : (k : Int) = (i : Int) := h; omega
    subst h
    rw [List.findIdx?_eq_some_iff_getElem] at e
    exact ⟨e.1, e.2.1⟩
theorem nb_side {m : Msh} {i k : Nat} (h : 0 ≤ nbF m i k) : ∃ c, c < 3 ∧ crn (fce m (nbF m i k).toNat) c = crn (fce m i) (k + 1) ∧ crn (fce m (nbF m i k).toNat) (c + 1) = crn (fce m i) k := by
  have e : nbF m i k = ((nbF m i k).toNat : Int) := by omega
  have h2 : idxD (fun f => hasSd f (crn (fce m i) (k + 1)) (crn (fce m i) k)) m.f = ((nbF m i k).toNat : Int) := e
  obtain ⟨h3, h4⟩ := idxD_at h2
  rw [fce_g] at h4
  simp only [hasSd, List.any_eq_true, List.mem_range, Bool.and_eq_true, decide_eq_true_eq] at h4
  exact h4
theorem turn_rotX (a b c : Pnt) : turnP a b c = turnP b c a := by
  obtain ⟨a1, a2⟩ := a
  obtain ⟨b1, b2⟩ := b
  obtain ⟨c1, c2⟩ := c
  simp only [turnP, Int.sub_mul, Int.mul_sub]
  have e1 := Int.mul_comm b1 b2
  have e2 := Int.mul_comm b1 c2
  have e3 := Int.mul_comm a1 c2
  have e4 := Int.mul_comm b1 a2
  have e5 := Int.mul_comm a1 b2
  have e6 := Int.mul_comm c1 b2
  have e7 := Int.mul_comm c1 a2
  have e8 := Int.mul_comm a1 a2
  omega
theorem turn_anti (a b c : Pnt) : turnP b a c = -turnP a b c := by
  obtain ⟨a1, a2⟩ := a
  obtain ⟨b1, b2⟩ := b
  obtain ⟨c1, c2⟩ := c
  simp only [turnP, Int.sub_mul, Int.mul_sub]
  have e1 := Int.mul_comm b1 b2
  have e2 := Int.mul_comm b1 c2
  have e3 := Int.mul_comm a1 c2
  have e4 := Int.mul_comm b1 a2
  have e5 := Int.mul_comm a1 b2
  have e6 := Int.mul_comm c1 b2
  have e7 := Int.mul_comm c1 a2
  have e8 := Int.mul_comm a1 a2
  omega
/-- A corner's point. -/
def cpt (m : Msh) (f : Fce) (k : Nat) : Pnt := ptS (spt m (crn f k).toNat)
theorem cpt_turn {m : Msh} (hv : validM m = true) {i k : Nat} (hi : i < m.f.length) (hk : k < 3) : ∃ x : Pnt, 0 < turnP (cpt m (fce m i) k) (cpt m (fce m i) (k + 1)) x ∧
    cenX m i = (cpt m (fce m i) k).1 + (cpt m (fce m i) (k + 1)).1 + x.1 ∧ cenY m i = (cpt m (fce m i) k).2 + (cpt m (fce m i) (k + 1)).2 + x.2 := by
  have h := (valid_f hv hi).2
  have h : 0 < turnP (cpt m (fce m i) 0) (cpt m (fce m i) 1) (cpt m (fce m i) 2) := h
  have ex : cenX m i = (cpt m (fce m i) 0).1 + (cpt m (fce m i) 1).1 + (cpt m (fce m i) 2).1 := rfl
  have ey : cenY m i = (cpt m (fce m i) 0).2 + (cpt m (fce m i) 1).2 + (cpt m (fce m i) 2).2 := rfl
  have e3 : cpt m (fce m i) 3 = cpt m (fce m i) 0 := rfl
  rcases (by omega : k = 0 ∨ k = 1 ∨ k = 2) with rfl | rfl | rfl
  · exact ⟨_, h, ex, ey⟩
  · rw [turn_rotX] at h
    exact ⟨cpt m (fce m i) 0, h, by show _ = (cpt m (fce m i) 1).1 + (cpt m (fce m i) 2).1 + _; rw [ex]; omega, by show _ = (cpt m (fce m i) 1).2 + (cpt m (fce m i) 2).2 + _; rw [ey]; omega⟩
  · rw [turn_rotX, turn_rotX] at h
    exact ⟨cpt m (fce m i) 1, by rw [e3]; exact h, by rw [ex, e3]; omega, by rw [ey, e3]; omega⟩
theorem sq_pos {a : Int} (h : a ≠ 0) : 0 < a * a := by
  rcases (by omega : 0 < a ∨ a < 0) with h1 | h1
  · exact Int.mul_pos h1 h1
  · exact Int.mul_pos_of_neg_of_neg h1 h1
/-- Neighbours' points differ. -/
theorem den_pos {m : Msh} (hv : validM m = true) {i k : Nat} (hi : i < m.f.length) (hk : k < 3) (h : 0 ≤ nbF m i k) : 0 < denF m i (nbF m i k).toNat := by
  have hb := nbF_bd m i k
  obtain ⟨c, hc, c1, c2⟩ := nb_side h
  obtain ⟨j, hj⟩ : ∃ j, j = (nbF m i k).toNat := ⟨_, rfl⟩
  rw [← hj] at c1 c2 ⊢
  obtain ⟨x, x1, x2, x3⟩ := cpt_turn hv hi hk
  obtain ⟨y, y1, y2, y3⟩ := cpt_turn hv (i := j) (by omega) hc
  have d1 : cpt m (fce m j) c = cpt m (fce m i) (k + 1) := by unfold cpt; rw [c1]
  have d2 : cpt m (fce m j) (c + 1) = cpt m (fce m i) k := by unfold cpt; rw [c2]
  rw [d1, d2] at y1 y2 y3
  obtain ⟨A, hA⟩ : ∃ A, A = cpt m (fce m i) k := ⟨_, rfl⟩
  obtain ⟨B, hB⟩ : ∃ B, B = cpt m (fce m i) (k + 1) := ⟨_, rfl⟩
  rw [← hA, ← hB] at x1 x2 x3 y1 y2 y3
  have n1 := sq_nn (cenX m i - cenX m j)
  have n2 := sq_nn (cenY m i - cenY m j)
  unfold denF
  by_cases e1 : cenX m i - cenX m j = 0
  · by_cases e2 : cenY m i - cenY m j = 0
    · exfalso
      have : x = y := Prod.ext (by omega) (by omega)
      subst this
      rw [turn_anti] at y1
      omega
    · have := sq_pos e2
      omega
  · have := sq_pos e1
    omega
end Go.Gv

set_option linter.unusedSimpArgs false
namespace Go.Gv
/-- The turns of a face's sides and a point. -/
def tn0 (m : Msh) (i : Nat) (p : Pnt) : Int := turnP (ptS (spA m i)) (ptS (spB m i)) p
def tn1 (m : Msh) (i : Nat) (p : Pnt) : Int := turnP (ptS (spB m i)) (ptS (spC m i)) p
def tn2 (m : Msh) (i : Nat) (p : Pnt) : Int := turnP (ptS (spC m i)) (ptS (spA m i)) p
/-- The first side on the right of which a point is. -/
def osF (m : Msh) (i : Nat) (p : Pnt) : Int := if tn0 m i p < 0 then 0 else if tn1 m i p < 0 then 1 else if tn2 m i p < 0 then 2 else -1
/-- The face of a point. -/
def fndF (m : Msh) (p : Pnt) : Int := idxD (fun i => decide (osF m i p < 0)) (List.range m.f.length)
theorem osF_bd (m : Msh) (i : Nat) (p : Pnt) : osF m i p = -1 ∨ osF m i p = 0 ∨ osF m i p = 1 ∨ osF m i p = 2 := by
  unfold osF
  split
  · simp
  · split
    · simp
    · split <;> simp
theorem fndF_bd (m : Msh) (p : Pnt) : fndF m p < m.f.length ∧ -1 ≤ fndF m p := by
  have := idxD_bd (fun i => decide (osF m i p < 0)) (List.range m.f.length)
  rw [List.length_range] at this
  exact ⟨this.2, this.1⟩
theorem fndF_on {m : Msh} {p : Pnt} (h : 0 ≤ fndF m p) : (fndF m p).toNat < m.f.length ∧ osF m (fndF m p).toNat p < 0 := by
  have e : fndF m p = ((fndF m p).toNat : Int) := by omega
  obtain ⟨h1, h2⟩ := idxD_at (p := fun i => decide (osF m i p < 0)) (xs := List.range m.f.length) e
  simp at h1 h2
  exact ⟨h1, h2⟩
theorem osF_on {m : Msh} {i : Nat} {p : Pnt} (h : osF m i p < 0) : 0 ≤ tn0 m i p ∧ 0 ≤ tn1 m i p ∧ 0 ≤ tn2 m i p := by
  unfold osF at h
  split at h
  · omega
  · split at h
    · omega
    · split at h
      · omega
      · omega
def cor9 (m : Msh) (i : Nat) : List D := [.int .i64 (spA m i).x, .int .i64 (spA m i).y, .int .i64 (spA m i).z, .int .i64 (spB m i).x, .int .i64 (spB m i).y, .int .i64 (spB m i).z, .int .i64 (spC m i).x, .int .i64 (spC m i).y, .int .i64 (spC m i).z]
theorem cor9_eq (m : Msh) (i : Nat) : cor9 m i = [.int .i64 (spA m i).x, .int .i64 (spA m i).y, .int .i64 (spA m i).z, .int .i64 (spB m i).x, .int .i64 (spB m i).y, .int .i64 (spB m i).z, .int .i64 (spC m i).x, .int .i64 (spC m i).y, .int .i64 (spC m i).z] := _root_.id rfl
theorem sp_okP {m : Msh} (hv : validM m = true) {i : Nat} (hi : i < m.f.length) : okP (ptS (spA m i)) = true ∧ okP (ptS (spB m i)) = true ∧ okP (ptS (spC m i)) = true := by
  obtain ⟨h1, h2, h3⟩ := sp_bd hv hi
  exact ⟨okP_of h1, okP_of h2, okP_of h3⟩
@[simp] theorem ptD_len (p : Pnt) : (ptD p).length = 2 := _root_.id rfl
@[simp] theorem ptD_take (p : Pnt) : List.take 2 (ptD p) = ptD p := _root_.id rfl
@[simp] theorem ptD_v (p : Pnt) : (∀ x, x ∈ ptD p → isV x = true) = True := by simp [ptD]
@[simp] theorem ptD_c (p : Pnt) : (∀ x, x ∈ ptD p → isC1 x = true) = True := by simp [ptD]
variable {C : CC} (hC : Closed prog C)
include hC
theorem lcorners_c (m : Msh) (i : Nat) (hi : i < m.f.length) (h : inS m (fce m i) = true) : C 319 [.agg (mshC m), .int .i64 i] (.agg (cor9 m i)) [] := by
  obtain ⟨⟨a1, a2⟩, ⟨b1, b2⟩, ⟨c1, c2⟩⟩ := inS_bd h
  refine start hC (nf := N319_locate_corners) rfl rfl ?_
  simp [N319_locate_corners, mshC_eq, hi, fceC_eq, a1, a2, b1, b2, c1, c2, sptC_eq, cor9, spA, spB, spC]
  exact indW_of (by decide +kernel)
theorem lat_c (s : Spt) : C 321 [.agg (sptC s)] (.agg (ptD (ptS s))) [] := by
  refine start hC (nf := N321_locate_at) rfl rfl ?_
  simp [N321_locate_at, sptC, ptD, ptS]
theorem lturn_c {a b c : Pnt} (ha : okP a = true) (hb : okP b = true) (hc : okP c = true) : C 320 [.agg (ptD a), .agg (ptD b), .agg (ptD c)] (.int .i64 (turnP a b c)) [] := by
  have := okP_bd ha
  have := okP_bd hb
  have := okP_bd hc
  have h4 := turn_bd ha hb hc
  refine start hC (nf := N320_locate_turn) rfl rfl ?_
  have w1 : IntKind.wrap .i64 (b.1 - a.1) = b.1 - a.1 := wrap_i64 rfl (by omega)
  have w2 : IntKind.wrap .i64 (c.2 - a.2) = c.2 - a.2 := wrap_i64 rfl (by omega)
  have w3 : IntKind.wrap .i64 (b.2 - a.2) = b.2 - a.2 := wrap_i64 rfl (by omega)
  have w4 : IntKind.wrap .i64 (c.1 - a.1) = c.1 - a.1 := wrap_i64 rfl (by omega)
  have w5 : IntKind.wrap .i64 ((b.1 - a.1) * (c.2 - a.2)) = (b.1 - a.1) * (c.2 - a.2) := wrap_i64 rfl (by omega)
  have w6 : IntKind.wrap .i64 ((b.2 - a.2) * (c.1 - a.1)) = (b.2 - a.2) * (c.1 - a.1) := wrap_i64 rfl (by omega)
  have w7 : IntKind.wrap .i64 ((b.1 - a.1) * (c.2 - a.2) - (b.2 - a.2) * (c.1 - a.1)) = turnP a b c := wrap_i64 rfl (by rw [turnP]; omega)
  simp [N320_locate_turn, ptD, w1, w2, w3, w4, w5, w6, w7]
set_option maxHeartbeats 2000000 in
theorem louter_c (m : Msh) (hv : validM m = true) (i : Nat) (hi : i < m.f.length) (p : Pnt) (hp : okP p = true) : C 284 [.agg (mshC m), .int .i64 i, .agg (ptD p)] (.int .i64 (osF m i p)) [] := by
  obtain ⟨oa, ob, oc⟩ := sp_okP hv hi
  have k0 := lcorners_c hC m i hi (valid_in hv hi)
  have ka := lat_c hC (spA m i)
  have kb := lat_c hC (spB m i)
  have kc := lat_c hC (spC m i)
  have t0 : C 320 [.agg (ptD (ptS (spA m i))), .agg (ptD (ptS (spB m i))), .agg (ptD p)] (.int .i64 (tn0 m i p)) [] := lturn_c hC oa ob hp
  have t1 : C 320 [.agg (ptD (ptS (spB m i))), .agg (ptD (ptS (spC m i))), .agg (ptD p)] (.int .i64 (tn1 m i p)) [] := lturn_c hC ob oc hp
  have t2 : C 320 [.agg (ptD (ptS (spC m i))), .agg (ptD (ptS (spA m i))), .agg (ptD p)] (.int .i64 (tn2 m i p)) [] := lturn_c hC oc oa hp
  have w1 : IntKind.wrap .i64 1 = 1 := by decide
  have w2 : IntKind.wrap .i64 2 = 2 := by decide
  have w3 : IntKind.wrap .i64 3 = 3 := by decide
  have m1 : Int.tmod 1 3 = 1 := by decide
  have m2 : Int.tmod 2 3 = 2 := by decide
  have m3 : Int.tmod 3 3 = 0 := by decide
  simp only [mshC_eq, sptC_eq, cor9_eq] at k0 ka kb kc
  refine start hC (nf := N284_locate_outer) rfl rfl ?_
  simp [N284_locate_outer, mshC_eq]
  refine callW_of k0 (.inl rfl) ?_
  simp
  refine loop_of Nat (fun k => [(5, .ptr (ptD p)), (7, .adr (.r 10112) 0 0), (12, .int .i64 k), (10112, .blk 9 [cor9 m i])]) (fun k => k ≤ 3 ∧ (1 ≤ k → ¬ tn0 m i p < 0) ∧ (2 ≤ k → ¬ tn1 m i p < 0) ∧ (3 ≤ k → ¬ tn2 m i p < 0)) (fun k => 3 - k) 0 (by simp) (by simp [cor9_eq]) ?_
  rintro k ⟨hk, h0, h1, h2⟩
  rcases (by omega : k = 0 ∨ k = 1 ∨ k = 2 ∨ k = 3) with rfl | rfl | rfl | rfl
  · simp [cor9_eq, w1]
    refine callW_of ka (.inl rfl) ?_
    simp [w1, m1]
    refine callW_of kb (.inl rfl) ?_
    simp
    refine callW_of t0 (.inl rfl) ?_
    simp
    refine ⟨indW_of (by decide +kernel), ?_⟩
    refine brB_of (fun c => ?_) (fun c => ?_) <;> simp at c
    · simp [c, osF]
    · simp [c]
      exact ⟨1, by omega, by omega, by simp [cor9_eq, w1]⟩
  · have h0 := h0 (by omega)
    simp [cor9_eq, w2]
    refine callW_of kb (.inl rfl) ?_
    simp [w2, m2]
    refine callW_of kc (.inl rfl) ?_
    simp
    refine callW_of t1 (.inl rfl) ?_
    simp
    refine ⟨indW_of (by decide +kernel), ?_⟩
    refine brB_of (fun c => ?_) (fun c => ?_) <;> simp at c
    · simp [c, osF, h0]
    · simp [c]
      exact ⟨2, by omega, by omega, by simp [cor9_eq, w2]⟩
  · have h0 := h0 (by omega)
    have h1 := h1 (by omega)
    simp [cor9_eq, w3]
    refine callW_of kc (.inl rfl) ?_
    simp [w3, m3]
    refine callW_of ka (.inl rfl) ?_
    simp
    refine callW_of t2 (.inl rfl) ?_
    simp
    refine ⟨indW_of (by decide +kernel), ?_⟩
    refine brB_of (fun c => ?_) (fun c => ?_) <;> simp at c
    · simp [c, osF, h0, h1]
    · simp [c]
      exact ⟨3, by omega, by omega, by simp [cor9_eq, w3]⟩
  · have h0 := h0 (by omega)
    have h1 := h1 (by omega)
    have h2 := h2 (by omega)
    simp [osF, h0, h1, h2]
set_option maxHeartbeats 2000000 in
theorem lfind_c (m : Msh) (hv : validM m = true) (hm : m.f.length ≤ 100) (p : Pnt) (hp : okP p = true) : C 276 [.agg (mshC m), .agg (ptD p)] (.int .i64 (fndF m p)) [] := by
  have ko := fun i hi => louter_c hC m hv i hi p hp
  simp only [mshC_eq] at ko
  refine start hC (nf := N276_locate_find) rfl rfl ?_
  simp [N276_locate_find, mshC_eq]
  refine loop_of Nat (fun i => [(2, .ptr (mshC m)), (3, .ptr (ptD p)), (8, .int .i64 m.f.length), (9, .int .i64 i)]) (fun i => i ≤ m.f.length ∧ ∀ j, j < i → ¬ osF m j p < 0) (fun i => m.f.length - i) 0 (by simp) (by simp [mshC_eq]) ?_
  rintro i ⟨hi, hj⟩
  simp [mshC_eq]
  refine brB_of (fun g1 => ?_) (fun g1 => ?_) <;> simp at g1 <;> simp [g1]
  · have hw : IntKind.wrap .i64 ((i : Int) + 1) = ((i + 1 : Nat) : Int) := wrap_i64 (by omega) (by omega)
    refine callW_of (ko i g1) (.inl rfl) ?_
    simp
    refine brB_of (fun c => ?_) (fun c => ?_) <;> simp at c
    · simp [c]
      refine (idxD_step (fun j hl hji => ?_) (by simpa using g1) ?_).symm
      · have := hj j hji
        simpa using this
      · simpa using c
    · simp [c]
      refine ⟨i + 1, ⟨by omega, fun j hji => ?_⟩, by omega, by simp [mshC_eq, hw]⟩
      rcases Nat.lt_succ_iff_lt_or_eq.1 hji with h | rfl
      · exact Int.not_lt.1 (hj j h)
      · exact c
  · refine (idxD_none (fun j hl => ?_)).symm
    rw [List.length_range] at hl
    have := hj j (by omega)
    simpa using this
theorem idxPnt_c {b : Bool} {xs : List Pnt} {g : Nat} {cs : List D} (p : Pnt → Bool) (hs : xs.length < 2 ^ 62) (hp : ∀ x ∈ xs, C g (.agg (ptD x) :: cs) (.bool (p x)) []) : C 278 [slx b (xs.map fun x => ptD x), .fn g cs] (.int .i64 (idxD p xs)) [] := by
  refine start hC (nf := N278_slices_IndexFunc__api_Point_api_Point) rfl rfl ?_
  simp [N278_slices_IndexFunc__api_Point_api_Point]
  refine loop_of Nat (fun i => [(0, slx b (xs.map fun x => ptD x)), (1, .fn g cs), (7, .int .i64 xs.length), (8, .int .i64 i)]) (fun i => i ≤ xs.length ∧ ∀ (j : Nat) (h : j < xs.length), j < i → p xs[j] = false) (fun i => xs.length - i) 0 (by simp) (by simp) ?_
  rintro i ⟨hi, hj⟩
  simp
  refine brB_of (fun h => ?_) (fun h => ?_) <;> simp [h] <;> simp at h
  · have hw : IntKind.wrap .i64 ((i : Int) + 1) = ((i + 1 : Nat) : Int) := wrap_i64 (by omega) (by omega)
    have hc := hp _ (List.getElem_mem h)
    simp [h, ptD] at hc ⊢
    refine callW_of hc (.inl rfl) ?_
    simp
    refine brB_of (fun h1 => ?_) (fun h1 => ?_) <;> simp [h1, hw]
    · rw [idxD_step hj h h1]
    · refine ⟨i + 1, ⟨by omega, fun j hl hjj => ?_⟩, by omega, rfl⟩
      rcases Nat.lt_succ_iff_lt_or_eq.1 hjj with h2 | rfl
      · exact hj j hl h2
      · exact h1
  · rw [idxD_none (fun j hl => hj j hl (by omega))]
theorem hasPnt_c {b : Bool} {xs : List Pnt} {g : Nat} {cs : List D} (p : Pnt → Bool) (hs : xs.length < 2 ^ 62) (hp : ∀ x ∈ xs, C g (.agg (ptD x) :: cs) (.bool (p x)) []) : C 239 [slx b (xs.map fun x => ptD x), .fn g cs] (.bool (xs.any p)) [] := by
  refine start hC (nf := N239_slices_ContainsFunc__api_Point_api_Point) rfl rfl ?_
  simp [N239_slices_ContainsFunc__api_Point_api_Point]
  refine callW_of (idxPnt_c hC p hs hp) (.inl rfl) ?_
  simp [idxD_any]
theorem lvalid1_c (p : Pnt) : C 312 [.agg (ptD p)] (.bool (!okP p)) [] := by
  have k := pValid_c hC p
  simp only [ptD] at k
  refine start hC (nf := N312_locate_valid_1) rfl rfl ?_
  simp [N312_locate_valid_1, ptD]
  refine callW_of k (.inl rfl) ?_
  simp
end Go.Gv

set_option linter.unusedSimpArgs false
namespace Go.Gv
def onE (m : Msh) (p : Pnt) : Int := if validM m = true ∧ okP p = true then (if fndF m p < 0 then 12 else 0) else 1
def onV (m : Msh) (p : Pnt) : Int := if onE m p = 0 then fndF m p else 0
theorem onE_at {m : Msh} {p : Pnt} (h : onE m p = 0) : validM m = true ∧ okP p = true ∧ 0 ≤ fndF m p := by
  unfold onE at h
  split at h
  · rename_i h1
    refine ⟨h1.1, h1.2, ?_⟩
    split at h
    · omega
    · omega
  · omega
/-- A walk: the rest of the steps, and the face. -/
def wlk (m : Msh) (p : Pnt) : Nat → Nat → Int × Int × Int
  | r, f => if osF m f p < 0 then ((f : Int), ((m.f.length - r : Nat) : Int), 0) else if nbF m f (osF m f p).toNat < 0 then (0, 0, 12) else match r with
    | 0 => (0, 0, 6)
    | r + 1 => wlk m p r (nbF m f (osF m f p).toNat).toNat
theorem wlk_on {m : Msh} {p : Pnt} {r f : Nat} (h : osF m f p < 0) : wlk m p r f = ((f : Int), ((m.f.length - r : Nat) : Int), 0) := by
  cases r <;> rw [wlk, if_pos h]
theorem wlk_none {m : Msh} {p : Pnt} {r f : Nat} (h : ¬ osF m f p < 0) (h2 : nbF m f (osF m f p).toNat < 0) : wlk m p r f = (0, 0, 12) := by
  cases r <;> rw [wlk, if_neg h, if_pos h2]
theorem wlk_lim {m : Msh} {p : Pnt} {f : Nat} (h : ¬ osF m f p < 0) (h2 : ¬ nbF m f (osF m f p).toNat < 0) : wlk m p 0 f = (0, 0, 6) := by
  rw [wlk, if_neg h, if_neg h2]
theorem wlk_go {m : Msh} {p : Pnt} {r f : Nat} (h : ¬ osF m f p < 0) (h2 : ¬ nbF m f (osF m f p).toNat < 0) : wlk m p (r + 1) f = wlk m p r (nbF m f (osF m f p).toNat).toNat := by
  rw [wlk, if_neg h, if_neg h2]
def wkR (m : Msh) (from_ : Int) (p : Pnt) : Int × Int × Int := if validM m = true ∧ okP p = true then (if inR1 m.f.length from_ = true then wlk m p m.f.length from_.toNat else (0, 0, 2)) else (0, 0, 1)
def trpD (t : Int × Int × Int) : D := .tup [.int .i64 t.1, .int .i64 t.2.1, .int .i64 t.2.2]
variable {C : CC} (hC : Closed prog C)
include hC
theorem lvalid_c (dec : Nat → List UInt8) (hI : ∀ n : Nat, n < 100 → C 127 [.int .i64 n] (.str (dec n)) []) (m : Msh) (hz : smallM m = true → m.s.length ≤ 100 ∧ m.f.length ≤ 100) (b : Bool) (ps : List Pnt) (hp : ps.length < 2 ^ 62) :
    C 275 [.agg (mshC m), slx b (ps.map fun x => ptD x)] (.bool (validM m && ps.all okP)) [] := by
  have k1 := mValid_c hC dec hI m hz
  have k2 := hasPnt_c hC (b := b) (xs := ps) (g := 312) (cs := []) (fun x => !okP x) hp (fun x _ => lvalid1_c hC x)
  have e : (ps.any fun x => !okP x) = !ps.all okP := by rw [List.all_eq_not_any_not, Bool.not_not]
  rw [e] at k2
  refine start hC (nf := N275_locate_valid) rfl rfl ?_
  simp only [mshC_eq] at k1
  simp [N275_locate_valid, mshC_eq]
  refine callW_of k1 (.inl rfl) ?_
  cases validM m
  · simp
  · simp
    refine callW_of k2 (.inl rfl) ?_
    simp
theorem lon_c (dec : Nat → List UInt8) (hI : ∀ n : Nat, n < 100 → C 127 [.int .i64 n] (.str (dec n)) []) (m : Msh) (hz : smallM m = true → m.s.length ≤ 100 ∧ m.f.length ≤ 100) (p : Pnt) :
    C 274 [.agg (mshC m), .agg (ptD p)] (.tup [.int .i64 (onV m p), .int .i64 (onE m p)]) [] := by
  have k1 := lvalid_c hC dec hI m hz false [p] (by simp)
  simp at k1
  refine start hC (nf := N274_locate_on) rfl rfl ?_
  simp only [mshC_eq] at k1
  simp only [ptD] at k1
  simp [N274_locate_on, mshC_eq, ptD]
  refine callW_of k1 (.inl rfl) ?_
  by_cases hv : validM m = true ∧ okP p = true
  · have hm := (hz (by have := hv.1; simp only [validM, Bool.and_eq_true] at this; exact this.1)).2
    have k2 := lfind_c hC m hv.1 hm p hv.2
    simp only [mshC_eq, ptD] at k2
    simp [hv.1, hv.2]
    refine callW_of k2 (.inl rfl) ?_
    simp
    refine brB_of (fun c => ?_) (fun c => ?_) <;> simp at c <;> simp [c, onE, onV, hv.1, hv.2]
  · have e : (validM m && okP p) = false := by
      cases h1 : validM m <;> cases h2 : okP p <;> simp [h1, h2] at hv ⊢
    simp [e, onE, onV, hv]
end Go.Gv

set_option linter.unusedSimpArgs false
namespace Go.Gv
open Go.Lib
/-- The numerator and the denominator of a level. -/
def numL (m : Msh) (i : Nat) (p : Pnt) : Int := (spA m i).z * tn1 m i p + (spB m i).z * tn2 m i p + (spC m i).z * tn0 m i p
def denL (m : Msh) (i : Nat) : Int := turnP (ptS (spA m i)) (ptS (spB m i)) (ptS (spC m i))
theorem tn_sum (m : Msh) (i : Nat) (p : Pnt) : tn0 m i p + tn1 m i p + tn2 m i p = denL m i := by
  unfold tn0 tn1 tn2 denL turnP ptS
  grind
theorem tn_rot1 (m : Msh) (i : Nat) (p : Pnt) : turnP p (ptS (spB m i)) (ptS (spC m i)) = tn1 m i p := by
  unfold tn1 turnP; grind
theorem tn_rot2 (m : Msh) (i : Nat) (p : Pnt) : turnP p (ptS (spC m i)) (ptS (spA m i)) = tn2 m i p := by
  unfold tn2 turnP; grind
theorem tn_rot0 (m : Msh) (i : Nat) (p : Pnt) : turnP p (ptS (spA m i)) (ptS (spB m i)) = tn0 m i p := by
  unfold tn0 turnP; grind
theorem tn_rot3 (m : Msh) (i : Nat) (p : Pnt) : turnP (ptS (spA m i)) p (ptS (spC m i)) = tn2 m i p := by
  unfold tn2 turnP; grind
theorem turnP_bd {a b c : Pnt} (ha : okP a = true) (hb : okP b = true) (hc : okP c = true) : -2251799813685248 ≤ turnP a b c ∧ turnP a b c ≤ 2251799813685248 := by
  have := turn_bd ha hb hc
  unfold turnP
  omega
/-- What is known of a point on a face. -/
structure OnF (m : Msh) (i : Nat) (p : Pnt) : Prop where
  z0 : -4194304 ≤ (spA m i).z ∧ (spA m i).z ≤ 4194304
  z1 : -4194304 ≤ (spB m i).z ∧ (spB m i).z ≤ 4194304
  z2 : -4194304 ≤ (spC m i).z ∧ (spC m i).z ≤ 4194304
  t0 : 0 ≤ tn0 m i p ∧ tn0 m i p ≤ 2251799813685248
  t1 : 0 ≤ tn1 m i p ∧ tn1 m i p ≤ 2251799813685248
  t2 : 0 ≤ tn2 m i p ∧ tn2 m i p ≤ 2251799813685248
  d : 0 < denL m i ∧ denL m i ≤ 2251799813685248
theorem onF_of {m : Msh} (hv : validM m = true) {i : Nat} (hi : i < m.f.length) {p : Pnt} (hp : okP p = true) (h : osF m i p < 0) : OnF m i p := by
  obtain ⟨oa, ob, oc⟩ := sp_okP hv hi
  obtain ⟨r1, r2, r3⟩ := sp_bd hv hi
  have := rightS_bd r1
  have := rightS_bd r2
  have := rightS_bd r3
  obtain ⟨n0, n1, n2⟩ := osF_on h
  have b0 : tn0 m i p ≤ 2251799813685248 := (turnP_bd oa ob hp).2
  have b1 : tn1 m i p ≤ 2251799813685248 := (turnP_bd ob oc hp).2
  have b2 : tn2 m i p ≤ 2251799813685248 := (turnP_bd oc oa hp).2
  have bd : denL m i ≤ 2251799813685248 := (turnP_bd oa ob oc).2
  have hd : 0 < denL m i := (valid_f hv hi).2
  exact ⟨by omega, by omega, by omega, by omega, by omega, by omega, by omega⟩
theorem mulz_bd {z t : Int} (hz : -4194304 ≤ z ∧ z ≤ 4194304) (ht : 0 ≤ t) : -(4194304 * t) ≤ z * t ∧ z * t ≤ 4194304 * t := by
  have h1 := Int.mul_nonneg (show 0 ≤ 4194304 - z by omega) ht
  have h2 := Int.mul_nonneg (show 0 ≤ 4194304 + z by omega) ht
  rw [Int.sub_mul] at h1
  rw [Int.add_mul] at h2
  omega
theorem OnF.num {m : Msh} {i : Nat} {p : Pnt} (h : OnF m i p) : -(4194304 * denL m i) ≤ numL m i p ∧ numL m i p ≤ 4194304 * denL m i := by
  have e := tn_sum m i p
  have h1 := mulz_bd h.z0 h.t1.1
  have h2 := mulz_bd h.z1 h.t2.1
  have h3 := mulz_bd h.z2 h.t0.1
  unfold numL
  rw [← e]
  omega
theorem div_bd {n d k : Int} (hd : 0 < d) (h : -(k * d) ≤ n ∧ n ≤ k * d) : -k ≤ n / d ∧ n / d ≤ k := by
  constructor
  · exact (Int.le_ediv_iff_mul_le hd).2 (by rw [Int.neg_mul]; exact h.1)
  · exact Int.le_of_lt_add_one ((Int.ediv_lt_iff_lt_mul hd).2 (by rw [Int.add_mul]; omega))
def loF (m : Msh) (i : Nat) (p : Pnt) : Int := numL m i p / denL m i
def hiF (m : Msh) (i : Nat) (p : Pnt) : Int := -(-numL m i p / denL m i)
theorem OnF.lo {m : Msh} {i : Nat} {p : Pnt} (h : OnF m i p) : -4194304 ≤ loF m i p ∧ loF m i p ≤ 4194304 := div_bd h.d.1 h.num
theorem OnF.hi {m : Msh} {i : Nat} {p : Pnt} (h : OnF m i p) : -4194304 ≤ hiF m i p ∧ hiF m i p ≤ 4194304 := by
  have := div_bd (n := -numL m i p) (k := 4194304) h.d.1 (by have := h.num; omega)
  unfold hiF
  omega
variable {C : CC} (hC : Closed prog C)
include hC
theorem ProductT_c (z t : Int) (hz : -4194304 ≤ z ∧ z ≤ 4194304) (ht : 0 ≤ t ∧ t ≤ 2251799813685248) : C 99 [.int .i64 z, .int .i64 t] (.tup [wiS (z * t), .int .i64 0]) [] := by
  obtain ⟨n, rfl⟩ : ∃ n : Nat, t = n := ⟨t.toNat, by omega⟩
  have h3 : z.natAbs * n ≤ 4194304 * 2251799813685248 := Nat.mul_le_mul (by omega) (by omega)
  exact ProductS_c hC z n (by omega) (by omega) (by omega)
set_option maxHeartbeats 4000000 in
theorem lexact_c (m : Msh) (hv : validM m = true) (i : Nat) (hi : i < m.f.length) (p : Pnt) (hp : okP p = true) (h : osF m i p < 0) :
    C 300 [.agg (mshC m), .int .i64 i, .agg (ptD p)] (.tup [wiS (numL m i p), .int .i64 (denL m i), .int .i64 0]) [] := by
  have H := onF_of hv hi hp h
  obtain ⟨oa, ob, oc⟩ := sp_okP hv hi
  have k0 := lcorners_c hC m i hi (valid_in hv hi)
  have ka := lat_c hC (spA m i)
  have kb := lat_c hC (spB m i)
  have kc := lat_c hC (spC m i)
  have t1 := lturn_c hC hp ob oc
  have t2 := lturn_c hC hp oc oa
  have t0 := lturn_c hC hp oa ob
  have td : C 320 _ (.int .i64 (denL m i)) [] := lturn_c hC oa ob oc
  rw [tn_rot1] at t1
  rw [tn_rot2] at t2
  rw [tn_rot0] at t0
  have x1 := ProductT_c hC _ _ H.z0 H.t1
  have x2 := ProductT_c hC _ _ H.z1 H.t2
  have x0 := ProductT_c hC _ _ H.z2 H.t0
  have b1 := mulz_bd H.z0 H.t1.1
  have b2 := mulz_bd H.z1 H.t2.1
  have b0 := mulz_bd H.z2 H.t0.1
  have c0 := H.t0
  have c1 := H.t1
  have c2 := H.t2
  have en : numL m i p = (spA m i).z * tn1 m i p + (spB m i).z * tn2 m i p + (spC m i).z * tn0 m i p := rfl
  obtain ⟨u1, hu1⟩ : ∃ u, u = (spA m i).z * tn1 m i p := ⟨_, rfl⟩
  obtain ⟨u2, hu2⟩ : ∃ u, u = (spB m i).z * tn2 m i p := ⟨_, rfl⟩
  obtain ⟨u0, hu0⟩ : ∃ u, u = (spC m i).z * tn0 m i p := ⟨_, rfl⟩
  rw [← hu1] at x1 b1 en
  rw [← hu2] at x2 b2 en
  rw [← hu0] at x0 b0 en
  have y1 := AddS_c hC 0 u1 (by omega) (by omega)
  have y2 := AddS_c hC u1 u2 (by omega) (by omega)
  have y3 := AddS_c hC (u1 + u2) u0 (by omega) (by omega)
  rw [Int.zero_add] at y1
  rw [← en] at y3
  have ez : wiS 0 = .agg [.int .i64 0, .int .i64 0] := by simp [wiS]
  obtain ⟨p1, q1, _, _, e1⟩ := wiS_parts u1
  obtain ⟨p2, q2, _, _, e2⟩ := wiS_parts u2
  obtain ⟨p3, q3, _, _, e3⟩ := wiS_parts u0
  obtain ⟨p4, q4, _, _, e4⟩ := wiS_parts (u1 + u2)
  obtain ⟨p5, q5, _, _, e5⟩ := wiS_parts (numL m i p)
  rw [e1] at x1
  rw [e2] at x2
  rw [e3] at x0
  rw [ez, e1] at y1
  rw [e1, e2, e4] at y2
  rw [e4, e3, e5] at y3
  rw [e5]
  have w0 : IntKind.wrap .i64 0 = 0 := by decide
  have w1 : IntKind.wrap .i64 1 = 1 := by decide
  have w2 : IntKind.wrap .i64 2 = 2 := by decide
  have w3 : IntKind.wrap .i64 3 = 3 := by decide
  have w4 : IntKind.wrap .i64 4 = 4 := by decide
  have m1 : Int.tmod 1 3 = 1 := by decide
  have m2 : Int.tmod 2 3 = 2 := by decide
  have m3 : Int.tmod 3 3 = 0 := by decide
  have m4 : Int.tmod 4 3 = 1 := by decide
  clear e1 e2 e3 e4 e5 en hu0 hu1 hu2 b0 b1 b2 c0 c1 c2 H
  simp only [mshC_eq, sptC_eq, cor9_eq] at k0 ka kb kc
  refine start hC (nf := N300_locate_exact) rfl rfl ?_
  simp [N300_locate_exact, mshC_eq]
  refine callW_of k0 (.inl rfl) ?_
  simp
  refine loop_of Nat (fun k => [(5, .ptr (ptD p)), (6, .adr (.r 10096) 0 0), (9, .adr (.r 10144) 0 0), (17, .agg (cor9 m i)), (18, .int .i64 k), (10144, .blk 9 [cor9 m i]),
    (10096, .blk 2 [if k = 0 then [.int .i64 0, .int .i64 0] else if k = 1 then [.int .i64 p1, .int .i64 q1] else if k = 2 then [.int .i64 p4, .int .i64 q4] else [.int .i64 p5, .int .i64 q5]])]) (fun k => k ≤ 3) (fun k => 3 - k) 0 (by simp) (by simp [cor9_eq]) ?_
  rintro k hk
  rcases (by omega : k = 0 ∨ k = 1 ∨ k = 2 ∨ k = 3) with rfl | rfl | rfl | rfl
  · simp [cor9_eq, w1, m1]
    refine callW_of kb (.inl rfl) ?_
    simp [w2, m2]
    refine callW_of kc (.inl rfl) ?_
    simp
    refine callW_of t1 (.inl rfl) ?_
    simp
    refine callW_of x1 (.inr rfl) ?_
    simp
    refine ⟨indW_of (by decide +kernel), ?_⟩
    refine callW_of y1 (.inr rfl) ?_
    simp
    exact ⟨1, by omega, by omega, by simp [cor9_eq, w1]⟩
  · simp [cor9_eq, w2, m2]
    refine callW_of kc (.inl rfl) ?_
    simp [w3, m3]
    refine callW_of ka (.inl rfl) ?_
    simp
    refine callW_of t2 (.inl rfl) ?_
    simp
    refine callW_of x2 (.inr rfl) ?_
    simp
    refine ⟨indW_of (by decide +kernel), ?_⟩
    refine callW_of y2 (.inr rfl) ?_
    simp
    exact ⟨2, by omega, by omega, by simp [cor9_eq, w2]⟩
  · simp [cor9_eq, w3, m3]
    refine callW_of ka (.inl rfl) ?_
    simp [w4, m4]
    refine callW_of kb (.inl rfl) ?_
    simp
    refine callW_of t0 (.inl rfl) ?_
    simp
    refine callW_of x0 (.inr rfl) ?_
    simp
    refine ⟨indW_of (by decide +kernel), ?_⟩
    refine callW_of y3 (.inr rfl) ?_
    simp
    exact ⟨3, by omega, by omega, by simp [cor9_eq, w3]⟩
  · simp [cor9_eq]
    refine callW_of ka (.inl rfl) ?_
    simp
    refine callW_of kb (.inl rfl) ?_
    simp
    refine callW_of kc (.inl rfl) ?_
    simp
    refine callW_of td (.inl rfl) ?_
    simp
    exact indW_of (by decide +kernel)
theorem OnF.qv {m : Msh} {i : Nat} {p : Pnt} (h : OnF m i p) : (numL m i p).natAbs / (denL m i).natAbs ≤ 4194304 := by
  have h1 := h.num
  have h2 := h.d.1
  have h3 : (numL m i p).natAbs ≤ 4194304 * (denL m i).natAbs := by omega
  exact Nat.div_le_of_le_mul (by rw [Nat.mul_comm]; exact h3)
/-- Floor and ceiling of a wide number, by a positive one. -/
theorem floorW_c (v : Int) (d : Nat) (up : Bool) (hd0 : 0 < d) (hd : d ≤ 2251799813685248) (hv : v.natAbs ≤ 4194304 * d) : C 301 [wiS v, .int .i64 d, .bool up] (.tup [.int .i64 (if up then -(-v / d) else v / d), .int .i64 0]) [] := by
  have k1 := wvalidS_c hC v (by omega)
  have k2 := valueS_c hC v (by omega)
  obtain ⟨Q, hQ⟩ : ∃ Q, Q = (if up then -(-v / (d : Int)) else v / (d : Int)) := ⟨_, rfl⟩
  have hdiv : v.natAbs / d ≤ 4194304 := Nat.div_le_of_le_mul (by rw [Nat.mul_comm]; exact hv)
  have k3 : C 104 [numS v, .int .i64 d, .bool up] (.tup [.int .i64 Q, .int .i64 0]) [] := by
    by_cases v0 : v < 0
    · obtain ⟨n, rfl⟩ : ∃ n : Nat, v = -(n : Int) := ⟨v.natAbs, by omega⟩
      rw [Int.natAbs_neg, Int.natAbs_natCast] at hv hdiv
      have k := quotientN_c hC n d up (if up then n / d else if n % d = 0 then n / d else n / d + 1) (by omega) (by omega) (by omega) (by split; omega; split <;> omega) rfl (by omega)
      have e1 : numS (-(n : Int)) = numD n true := numS_at (by omega) (decide_eq_true v0)
      have e2 : Q = -((if up then n / d else if n % d = 0 then n / d else n / d + 1 : Nat) : Int) := by
        rw [hQ]
        cases up
        · simp only [Bool.false_eq_true, if_false]
          exact neg_div_nat n d hd0
        · simp
      rw [e1, e2]
      exact k
    · obtain ⟨n, rfl⟩ : ∃ n : Nat, v = (n : Int) := ⟨v.natAbs, by omega⟩
      rw [Int.natAbs_natCast] at hv hdiv
      have hle : (n + d - 1) / d ≤ n / d + 1 := by
        have : (n + d - 1) / d ≤ (n + d) / d := Nat.div_le_div_right (by omega)
        rw [Nat.add_div_right _ hd0] at this
        exact this
      have k := quotient_c hC n d up (if up then (n + d - 1) / d else n / d) (by omega) (by omega) (by split <;> omega) rfl (by omega)
      have e1 : numS (n : Int) = numD n false := numS_at (by omega) (decide_eq_false v0)
      have e2 : Q = ((if up then (n + d - 1) / d else n / d : Nat) : Int) := by
        rw [hQ]
        cases up
        · simp
        · simp only [if_true]
          rw [neg_div_nat n d hd0, Int.neg_neg]
          congr 1
          have h1 := Nat.div_add_mod n d
          have h2 := Nat.mod_lt n hd0
          split
          · rename_i h
            have : n + d - 1 = d * (n / d) + (d - 1) := by omega
            rw [this, Nat.mul_add_div hd0, Nat.div_eq_of_lt (show d - 1 < d by omega)]
            rfl
          · rename_i h
            have : n + d - 1 = d * (n / d) + (d + (n % d - 1)) := by omega
            rw [this, Nat.mul_add_div hd0, Nat.add_div_left _ hd0, Nat.div_eq_of_lt (show n % d - 1 < d by omega)]
      rw [e1, e2]
      exact k
  rw [← hQ]
  obtain ⟨a1, a2, _, _, ea⟩ := wiS_parts v
  obtain ⟨f1, f2, f3, ef⟩ : ∃ (a1 a2 : Nat) (a3 : Bool), numS v = .agg [.int .u64 a1, .int .u64 a2, .bool a3] := ⟨_, _, _, rfl⟩
  rw [ea] at k1 k2 ⊢
  rw [ef] at k2 k3
  have h1 : ¬ d = 0 := by omega
  clear hQ ea ef
  refine start hC (nf := N301_wide_divided) rfl rfl ?_
  simp [N301_wide_divided]
  refine callW_of k1 (.inl rfl) ?_
  simp [h1]
  refine callW_of k2 (.inl rfl) ?_
  simp
  refine callW_of k3 (.inr rfl) ?_
  simp
theorem Floor_c (v : Int) (d : Nat) (hd0 : 0 < d) (hd : d ≤ 2251799813685248) (hv : v.natAbs ≤ 4194304 * d) : C 271 [wiS v, .int .i64 d] (.tup [.int .i64 (v / d), .int .i64 0]) [] := by
  have k := floorW_c hC v d false hd0 hd hv
  simp at k
  obtain ⟨Q, hQ⟩ : ∃ Q, Q = v / (d : Int) := ⟨_, rfl⟩
  rw [← hQ] at k ⊢
  obtain ⟨a1, a2, _, _, ea⟩ := wiS_parts v
  rw [ea] at k ⊢
  refine start hC (nf := N271_wide_Floor) rfl rfl ?_
  simp [N271_wide_Floor]
  refine callW_of k (.inl rfl) ?_
  simp
theorem Ceil_c (v : Int) (d : Nat) (hd0 : 0 < d) (hd : d ≤ 2251799813685248) (hv : v.natAbs ≤ 4194304 * d) : C 272 [wiS v, .int .i64 d] (.tup [.int .i64 (-(-v / d)), .int .i64 0]) [] := by
  have k := floorW_c hC v d true hd0 hd hv
  simp only [if_true] at k
  obtain ⟨Q, hQ⟩ : ∃ Q, Q = -(-v / (d : Int)) := ⟨_, rfl⟩
  rw [← hQ] at k ⊢
  obtain ⟨a1, a2, _, _, ea⟩ := wiS_parts v
  rw [ea] at k ⊢
  refine start hC (nf := N272_wide_Ceil) rfl rfl ?_
  simp [N272_wide_Ceil]
  refine callW_of k (.inl rfl) ?_
  simp
def wz : D := .agg [.int .i64 0, .int .i64 0]
theorem lExact_c (dec : Nat → List UInt8) (hI : ∀ n : Nat, n < 100 → C 127 [.int .i64 n] (.str (dec n)) []) (m : Msh) (hz : smallM m = true → m.s.length ≤ 100 ∧ m.f.length ≤ 100) (p : Pnt) :
    C 269 [.agg (mshC m), .agg (ptD p)] (if onE m p = 0 then .tup [wiS (numL m (fndF m p).toNat p), .int .i64 (denL m (fndF m p).toNat), .int .i64 0] else .tup [wz, .int .i64 0, .int .i64 (onE m p)]) [] := by
  have k1 := lon_c hC dec hI m hz p
  by_cases h0 : onE m p = 0
  · obtain ⟨hv, hp, hf⟩ := onE_at h0
    obtain ⟨hi, ho⟩ := fndF_on hf
    have k2 := lexact_c hC m hv _ hi p hp ho
    rw [if_pos h0]
    have e : onV m p = fndF m p := by rw [onV, if_pos h0]
    rw [h0, e] at k1
    rw [show (((fndF m p).toNat : Nat) : Int) = fndF m p by omega] at k2
    obtain ⟨a1, a2, _, _, ea⟩ := wiS_parts (numL m (fndF m p).toNat p)
    rw [ea] at k2 ⊢
    simp only [mshC_eq, ptD] at k1 k2
    refine start hC (nf := N269_locate_Exact) rfl rfl ?_
    simp [N269_locate_Exact, mshC_eq, ptD]
    refine callW_of k1 (.inl rfl) ?_
    simp
    refine callW_of k2 (.inr rfl) ?_
    simp
  · rw [if_neg h0]
    simp only [mshC_eq, ptD] at k1
    refine start hC (nf := N269_locate_Exact) rfl rfl ?_
    simp [N269_locate_Exact, mshC_eq, ptD]
    refine callW_of k1 (.inl rfl) ?_
    simp [h0, wz]
theorem lLevel_c (dec : Nat → List UInt8) (hI : ∀ n : Nat, n < 100 → C 127 [.int .i64 n] (.str (dec n)) []) (m : Msh) (hz : smallM m = true → m.s.length ≤ 100 ∧ m.f.length ≤ 100) (p : Pnt) :
    C 233 [.agg (mshC m), .agg (ptD p)] (if onE m p = 0 then .tup [.agg [.int .i64 (loF m (fndF m p).toNat p), .int .i64 (hiF m (fndF m p).toNat p)], .int .i64 0] else .tup [wz, .int .i64 (onE m p)]) [] := by
  have k1 := lExact_c hC dec hI m hz p
  by_cases h0 : onE m p = 0
  · obtain ⟨hv, hp, hf⟩ := onE_at h0
    obtain ⟨hi, ho⟩ := fndF_on hf
    have H := onF_of hv hi hp ho
    obtain ⟨i, hi2⟩ : ∃ i, i = (fndF m p).toNat := ⟨_, rfl⟩
    rw [if_pos h0] at k1 ⊢
    rw [← hi2] at k1 H ⊢
    obtain ⟨d, hd⟩ : ∃ d : Nat, denL m i = d := ⟨(denL m i).toNat, by have := H.d; omega⟩
    have b1 := H.num
    have b2 := H.d
    rw [hd] at b1 b2
    have k2 := Floor_c hC (numL m i p) d (by omega) (by omega) (by omega)
    have k3 := Ceil_c hC (numL m i p) d (by omega) (by omega) (by omega)
    rw [show numL m i p / (d : Int) = loF m i p by rw [loF, hd]] at k2
    rw [show -(-numL m i p / (d : Int)) = hiF m i p by rw [hiF, hd]] at k3
    rw [hd] at k1
    obtain ⟨a1, a2, _, _, ea⟩ := wiS_parts (numL m i p)
    rw [ea] at k1 k2 k3
    simp only [mshC_eq, ptD] at k1
    clear b1 b2 H
    refine start hC (nf := N233_locate_Level) rfl rfl ?_
    simp [N233_locate_Level, mshC_eq, ptD]
    refine callW_of k1 (.inr rfl) ?_
    simp
    refine callW_of k2 (.inl rfl) ?_
    simp
    refine callW_of k3 (.inl rfl) ?_
    simp
  · rw [if_neg h0] at k1 ⊢
    simp only [mshC_eq, ptD, wz] at k1
    refine start hC (nf := N233_locate_Level) rfl rfl ?_
    simp [N233_locate_Level, mshC_eq, ptD]
    refine callW_of k1 (.inr rfl) ?_
    simp [h0, wz]
end Go.Gv

set_option linter.unusedSimpArgs false
namespace Go.Gv
theorem hasSd_at {f : Fce} {a b : Int} {k : Nat} (hk : k < 3) (h1 : crn f k = a) (h2 : crn f (k + 1) = b) : hasSd f a b = true := by
  simp only [hasSd, List.any_eq_true, List.mem_range, Bool.and_eq_true, decide_eq_true_eq]
  exact ⟨k, hk, h1, h2⟩
theorem hasSd_no {f : Fce} {a b : Int} (h : ∀ k, k < 3 → ¬ (crn f k = a ∧ crn f (k + 1) = b)) : hasSd f a b = false := by
  simp only [hasSd, List.any_eq_false, List.mem_range, Bool.and_eq_true, decide_eq_true_eq]
  exact h
theorem sideF_at {m : Msh} {a b : Int} {i : Nat} (hi : i < m.f.length) (hj : ∀ j, j < i → hasSd (fce m j) a b = false) (h : hasSd (fce m i) a b = true) : sideF m a b = i := by
  refine idxD_step (fun j hl hji => ?_) hi ?_
  · rw [fce_g]; exact hj j hji
  · rw [fce_g]; exact h
theorem sideF_no {m : Msh} {a b : Int} (hj : ∀ j, j < m.f.length → hasSd (fce m j) a b = false) : sideF m a b = -1 := by
  refine idxD_none (fun j hl => ?_)
  rw [fce_g]; exact hj j hl
/-- The side. -/
def sidK (m : Msh) (a b : Int) : Int := if sideF m a b < 0 then 0 else idxD (fun j => decide (crn (fce m (sideF m a b).toNat) j = a) && decide (crn (fce m (sideF m a b).toNat) (j + 1) = b)) (List.range 3)
theorem sidK_no {m : Msh} {a b : Int} (h : sideF m a b = -1) : sidK m a b = 0 := by rw [sidK, if_pos (by omega)]
theorem sidK_at {m : Msh} {a b : Int} {i k : Nat} (h : sideF m a b = i) (hk : k < 3) (hj : ∀ j, j < k → ¬ (crn (fce m i) j = a ∧ crn (fce m i) (j + 1) = b)) (h1 : crn (fce m i) k = a) (h2 : crn (fce m i) (k + 1) = b) : sidK m a b = k := by
  rw [sidK, if_neg (by omega), h]
  refine idxD_step (fun j hl hjk => ?_) (by simp; omega) ?_
  · have := hj j hjk
    simp only [Int.toNat_natCast, List.getElem_range, Bool.and_eq_false_iff, decide_eq_false_iff_not]
    omega
  · simp [h1, h2]
def acK (m : Msh) (i k : Nat) : Int := sidK m (crn (fce m i) (k + 1)) (crn (fce m i) k)
def nbT (m : Msh) (i : Nat) : List (List D) := (List.range i).map fun j => [.int .i64 (nbF m j 0), .int .i64 (nbF m j 1), .int .i64 (nbF m j 2)]
@[simp] theorem nbT_len (m : Msh) (i : Nat) : (nbT m i).length = i := by simp [nbT]
theorem nbT_add (m : Msh) (i : Nat) : nbT m i ++ [[.int .i64 (nbF m i 0), .int .i64 (nbF m i 1), .int .i64 (nbF m i 2)]] = nbT m (i + 1) := by simp [nbT, List.range_succ]
theorem nbT_all (m : Msh) : nbT m m.f.length = nbA m := rfl
@[simp] theorem nbT_take (m : Msh) (i : Nat) : List.take i (nbT m i) = nbT m i := List.take_of_length_le (by simp)
@[simp] theorem nbT_cv (m : Msh) (i : Nat) : List.map (fun e => List.map cellV e) (nbT m i) = nbT m i := by simp [nbT]
variable {C : CC} (hC : Closed prog C)
include hC
end Go.Gv

set_option linter.unusedSimpArgs false
namespace Go.Gv
open Go.Lib
def tr3 (m : Msh) (i : Nat) : List (List D) := [ptD (ptS (spA m i)), ptD (ptS (spB m i)), ptD (ptS (spC m i))]
theorem tr3_eq (m : Msh) (i : Nat) : tr3 m i = [ptD (ptS (spA m i)), ptD (ptS (spB m i)), ptD (ptS (spC m i))] := _root_.id rfl
theorem osF_cases (m : Msh) (i : Nat) (p : Pnt) : (osF m i p = 0 ∧ tn0 m i p < 0) ∨ (osF m i p = 1 ∧ ¬ tn0 m i p < 0 ∧ tn1 m i p < 0) ∨ (osF m i p = 2 ∧ ¬ tn0 m i p < 0 ∧ ¬ tn1 m i p < 0 ∧ tn2 m i p < 0) ∨ (osF m i p = -1 ∧ ¬ tn0 m i p < 0 ∧ ¬ tn1 m i p < 0 ∧ ¬ tn2 m i p < 0) := by
  unfold osF
  split
  · exact .inl ⟨rfl, ‹_›⟩
  · split
    · exact .inr (.inl ⟨rfl, ‹_›, ‹_›⟩)
    · split
      · exact .inr (.inr (.inl ⟨rfl, ‹_›, ‹_›, ‹_›⟩))
      · exact .inr (.inr (.inr ⟨rfl, ‹_›, ‹_›, ‹_›⟩))
/-- The side that is found among the first k. -/
def sdF (m : Msh) (i : Nat) (p : Pnt) (k : Nat) : Int := if 0 ≤ osF m i p ∧ osF m i p < k then osF m i p else -1
theorem sdF_3 (m : Msh) (i : Nat) (p : Pnt) : sdF m i p 3 = osF m i p := by
  have := osF_bd m i p
  unfold sdF
  split <;> omega
variable {C : CC} (hC : Closed prog C)
include hC
theorem qtri_c (m : Msh) (hv : validM m = true) (i : Nat) (hi : i < m.f.length) : C 285 [.agg (mshC m), .agg (fceC (fce m i))] (.sl (tr3 m i)) [] := rtri_c hC m (fce m i) (valid_in hv hi)
set_option maxHeartbeats 2000000 in
theorem qOn_c (m : Msh) (hv : validM m = true) (i : Nat) (hi : i < m.f.length) (p : Pnt) (hp : okP p = true) : C 277 [.agg (mshC m), .int .i64 i, .agg (ptD p)] (.bool (decide (osF m i p < 0))) [] := by
  obtain ⟨oa, ob, oc⟩ := sp_okP hv hi
  have k0 := qtri_c hC m hv i hi
  have t0 : C 286 [.agg (ptD (ptS (spA m i))), .agg (ptD (ptS (spB m i))), .agg (ptD p)] (.int .i64 (tn0 m i p)) [] := rTurn_c hC oa ob hp
  have t1 : C 286 [.agg (ptD (ptS (spB m i))), .agg (ptD (ptS (spC m i))), .agg (ptD p)] (.int .i64 (tn1 m i p)) [] := rTurn_c hC ob oc hp
  have t2 : C 286 [.agg (ptD (ptS (spC m i))), .agg (ptD (ptS (spA m i))), .agg (ptD p)] (.int .i64 (tn2 m i p)) [] := rTurn_c hC oc oa hp
  have w1 : IntKind.wrap .i64 1 = 1 := by decide
  have w2 : IntKind.wrap .i64 2 = 2 := by decide
  have w3 : IntKind.wrap .i64 3 = 3 := by decide
  have m1 : Int.tmod 1 3 = 1 := by decide
  have m2 : Int.tmod 2 3 = 2 := by decide
  have m3 : Int.tmod 3 3 = 0 := by decide
  simp only [mshC_eq, fceC_eq] at k0
  refine start hC (nf := N277_ref13_On) rfl rfl ?_
  simp [N277_ref13_On, mshC_eq, hi, fceC_eq]
  refine callW_of k0 (.inr rfl) ?_
  simp
  refine ⟨indW_of (by decide +kernel), ?_⟩
  refine loop_of Nat (fun k => [(5, .ptr (ptD p)), (7, .sl (tr3 m i)), (8, .int .i64 k)]) (fun k => k ≤ 3 ∧ (1 ≤ k → ¬ tn0 m i p < 0) ∧ (2 ≤ k → ¬ tn1 m i p < 0) ∧ (3 ≤ k → ¬ tn2 m i p < 0)) (fun k => 3 - k) 0 (by simp) (by simp) ?_
  rintro k ⟨hk, h0, h1, h2⟩
  rcases (by omega : k = 0 ∨ k = 1 ∨ k = 2 ∨ k = 3) with rfl | rfl | rfl | rfl
  · simp [tr3_eq, w1, m1]
    refine callW_of t0 (.inl rfl) ?_
    simp
    refine ⟨indW_of (by decide +kernel), ?_⟩
    refine brB_of (fun c => ?_) (fun c => ?_) <;> simp at c
    · simp [c, osF]
    · simp [c]
      exact ⟨1, by omega, by omega, by simp [tr3_eq, w1]⟩
  · have h0 := h0 (by omega)
    simp [tr3_eq, w2, m2]
    refine callW_of t1 (.inl rfl) ?_
    simp
    refine ⟨indW_of (by decide +kernel), ?_⟩
    refine brB_of (fun c => ?_) (fun c => ?_) <;> simp at c
    · simp [c, osF, h0]
    · simp [c]
      exact ⟨2, by omega, by omega, by simp [tr3_eq, w2]⟩
  · have h0 := h0 (by omega)
    have h1 := h1 (by omega)
    simp [tr3_eq, w3, m3]
    refine callW_of t2 (.inl rfl) ?_
    simp
    refine ⟨indW_of (by decide +kernel), ?_⟩
    refine brB_of (fun c => ?_) (fun c => ?_) <;> simp at c
    · simp [c, osF, h0, h1]
    · simp [c]
      exact ⟨3, by omega, by omega, by simp [tr3_eq, w3]⟩
  · have h0 := h0 (by omega)
    have h1 := h1 (by omega)
    have h2 := h2 (by omega)
    simp [osF, h0, h1, h2]
theorem qFace_c (m : Msh) (hv : validM m = true) (hm : m.f.length ≤ 100) (p : Pnt) (hp : okP p = true) : C 238 [.agg (mshC m), .agg (ptD p)] (.int .i64 (fndF m p)) [] := by
  have ko := fun i hi => qOn_c hC m hv i hi p hp
  simp only [mshC_eq] at ko
  refine start hC (nf := N238_ref13_Face) rfl rfl ?_
  simp [N238_ref13_Face, mshC_eq]
  refine loop_of Nat (fun i => [(2, .ptr (mshC m)), (3, .ptr (ptD p)), (5, .int .i64 i)]) (fun i => i ≤ m.f.length ∧ ∀ j, j < i → ¬ osF m j p < 0) (fun i => m.f.length - i) 0 (by simp) (by simp [mshC_eq]) ?_
  rintro i ⟨hi, hj⟩
  simp [mshC_eq]
  refine brB_of (fun g1 => ?_) (fun g1 => ?_) <;> simp at g1 <;> simp [g1]
  · have hw : IntKind.wrap .i64 ((i : Int) + 1) = ((i + 1 : Nat) : Int) := wrap_i64 (by omega) (by omega)
    refine callW_of (ko i g1) (.inl rfl) ?_
    simp
    refine brB_of (fun c => ?_) (fun c => ?_) <;> simp at c
    · simp [c]
      refine (idxD_step (fun j hl hji => ?_) (by simpa using g1) ?_).symm
      · have := hj j hji
        simpa using this
      · simpa using c
    · simp [c]
      refine ⟨i + 1, ⟨by omega, fun j hji => ?_⟩, by omega, by simp [mshC_eq, hw]⟩
      rcases Nat.lt_succ_iff_lt_or_eq.1 hji with h | rfl
      · exact Int.not_lt.1 (hj j h)
      · exact c
  · refine (idxD_none (fun j hl => ?_)).symm
    rw [List.length_range] at hl
    have := hj j (by omega)
    simpa using this
theorem q7Valid_c (p : Pnt) : C 237 [.agg (ptD p)] (.bool (okP p)) [] := by
  refine start hC (nf := N237_ref07_Valid) rfl rfl ?_
  simp [N237_ref07_Valid, ptD, okP]
  repeat' (refine brB_of (fun h => ?_) (fun h => ?_) <;> simp at h <;> simp [h] <;> try omega)
def fewM (m : Msh) : Bool := decide ((m.s.length : Int) ≤ 60) && decide ((m.f.length : Int) ≤ 60)
theorem few_c (m : Msh) : C 229 [.agg (mshC m)] (.bool (fewM m)) [] := by
  refine start hC (nf := N229_law13_few) rfl rfl ?_
  simp [N229_law13_few, mshC_eq]
  refine brB_of (fun h => ?_) (fun h => ?_)
  · simp at h; simp [h, fewM]
  · have h2 : ¬ (m.s.length : Int) ≤ 60 := of_decide_eq_false h
    rw [show fewM m = false by rw [fewM, decide_eq_false h2]; rfl]
    simp
theorem right_c (m : Msh) (hz : smallM m = true → m.s.length ≤ 100 ∧ m.f.length ≤ 100) (p : Pnt) : C 250 [.agg (mshC m), .agg (ptD p)] (.bool (validM m && okP p)) [] := by
  have k1 := rValid_c hC m hz
  have k2 := q7Valid_c hC p
  simp only [mshC_eq] at k1
  simp only [ptD] at k2
  refine start hC (nf := N250_law13_right) rfl rfl ?_
  simp [N250_law13_right, mshC_eq, ptD]
  refine callW_of k1 (.inl rfl) ?_
  cases validM m
  · simp
  · simp
    refine callW_of k2 (.inl rfl) ?_
    simp
end Go.Gv

set_option linter.unusedSimpArgs false
namespace Go.Gv
open Go.Lib
theorem numS_parts (v : Int) : ∃ (a b : Nat) (c : Bool), numS v = .agg [.int .u64 a, .int .u64 b, .bool c] := ⟨_, _, _, rfl⟩
def exL : Msh := ⟨false, [⟨0, 0, 100⟩, ⟨1000, 0, 200⟩, ⟨0, 1000, 400⟩], false, [⟨0, 1, 2, 0⟩]⟩
theorem exL_v : validM exL = true := by decide +kernel
theorem exL_f1 : fndF exL (250, 500) = 0 := by decide +kernel
theorem exL_f2 : fndF exL (1, 1) = 0 := by decide +kernel
theorem exL_n : numL exL 0 (250, 500) = 275000000 := by decide +kernel
theorem exL_d : denL exL 0 = 1000000 := by decide +kernel
theorem exL_lo : loF exL 0 (1, 1) = 100 := by decide +kernel
theorem exL_hi : hiF exL 0 (1, 1) = 101 := by decide +kernel
theorem exL_o1 : onE exL (250, 500) = 0 := by rw [onE, exL_f1, exL_v]; decide
theorem exL_o2 : onE exL (1, 1) = 0 := by rw [onE, exL_f2, exL_v]; decide
variable {C : CC} (hC : Closed prog C)
include hC
set_option maxHeartbeats 2000000 in
theorem awake13_c (dec : Nat → List UInt8) (hI : ∀ n : Nat, n < 100 → C 127 [.int .i64 n] (.str (dec n)) []) : C 227 [] (.bool true) [] := by
  have hz : smallM exL = true → exL.s.length ≤ 100 ∧ exL.f.length ≤ 100 := fun _ => by simp [exL]
  have k1 := lExact_c hC dec hI exL hz (250, 500)
  have k2 := Int_c hC 275000000 (by decide)
  have k3 := lLevel_c hC dec hI exL hz (1, 1)
  rw [if_pos exL_o1, exL_f1, show (0 : Int).toNat = 0 from rfl, exL_n, exL_d] at k1
  rw [if_pos exL_o2, exL_f2, show (0 : Int).toNat = 0 from rfl, exL_lo, exL_hi] at k3
  rw [show wiS 275000000 = .agg [.int .i64 0, .int .i64 275000000] by simp [wiS]] at k1
  rw [show wiD 275000000 = .agg [.int .i64 0, .int .i64 275000000] by simp [wiD]] at k2
  simp [exL, mshC_eq, sptC_eq, fceC_eq, ptD] at k1 k3
  refine start hC (nf := N227_law13_awake) rfl rfl ?_
  simp [N227_law13_awake]
  refine callW_of k1 (.inl rfl) ?_
  simp
  refine callW_of k2 (.inl rfl) ?_
  simp
  refine callW_of k3 (.inl rfl) ?_
  simp
theorem qTwice_c (m : Msh) (hv : validM m = true) (i : Nat) (hi : i < m.f.length) : C 350 [.agg (mshC m), .int .i64 i] (.int .i64 (denL m i)) [] := by
  have k : C 293 [.agg (mshC m), .agg (fceC (fce m i))] (.int .i64 (denL m i)) [] := rturn_c hC m (fce m i) (valid_in hv hi) (okF_okT (valid_f hv hi).1)
  simp only [mshC_eq, fceC_eq] at k
  refine start hC (nf := N350_ref09_Twice) rfl rfl ?_
  simp [N350_ref09_Twice, mshC_eq, hi, fceC_eq]
  refine callW_of k (.inl rfl) ?_
  simp
  exact indW_of (by decide +kernel)
set_option maxHeartbeats 4000000 in
theorem qExact_c (m : Msh) (hv : validM m = true) (i : Nat) (hi : i < m.f.length) (p : Pnt) (hp : okP p = true) (h : osF m i p < 0) :
    C 348 [.agg (mshC m), .int .i64 i, .agg (ptD p)] (.tup [numS (numL m i p), .int .i64 (denL m i)]) [] := by
  have H := onF_of hv hi hp h
  obtain ⟨⟨a1, a2⟩, ⟨b1, b2⟩, ⟨c1, c2⟩⟩ := inS_bd (valid_in hv hi)
  obtain ⟨oa, ob, oc⟩ := sp_okP hv hi
  have kt := qtri_c hC m hv i hi
  have kw := qTwice_c hC m hv i hi
  have t1 := rTurn_c hC hp ob oc
  have t2 := rTurn_c hC oa hp oc
  have t0 : C 286 [.agg (ptD (ptS (spA m i))), .agg (ptD (ptS (spB m i))), .agg (ptD p)] (.int .i64 (tn0 m i p)) [] := rTurn_c hC oa ob hp
  rw [tn_rot1] at t1
  rw [tn_rot3] at t2
  have z0 := H.z0
  have z1 := H.z1
  have z2 := H.z2
  have d0 := H.t0
  have d1 := H.t1
  have d2 := H.t2
  have x1 := qTimesS_c hC (spA m i).z (tn1 m i p) (by omega) (by omega)
  have x2 := qTimesS_c hC (spB m i).z (tn2 m i p) (by omega) (by omega)
  have x0 := qTimesS_c hC (spC m i).z (tn0 m i p) (by omega) (by omega)
  have e1 := mulz_bd z0 d1.1
  have e2 := mulz_bd z1 d2.1
  have e0 := mulz_bd z2 d0.1
  have en : (spA m i).z * tn1 m i p + ((spB m i).z * tn2 m i p + (spC m i).z * tn0 m i p) = numL m i p := by unfold numL; omega
  obtain ⟨u1, hu1⟩ : ∃ u, u = (spA m i).z * tn1 m i p := ⟨_, rfl⟩
  obtain ⟨u2, hu2⟩ : ∃ u, u = (spB m i).z * tn2 m i p := ⟨_, rfl⟩
  obtain ⟨u0, hu0⟩ : ∃ u, u = (spC m i).z * tn0 m i p := ⟨_, rfl⟩
  rw [← hu1] at x1 e1 en
  rw [← hu2] at x2 e2 en
  rw [← hu0] at x0 e0 en
  have y1 := qSumS_c hC u2 u0 (by omega) (by omega)
  have y2 := qSumS_c hC u1 (u2 + u0) (by omega) (by omega)
  rw [en] at y2
  obtain ⟨f1, g1, h1, s1⟩ := numS_parts u1
  obtain ⟨f2, g2, h2, s2⟩ := numS_parts u2
  obtain ⟨f3, g3, h3, s3⟩ := numS_parts u0
  obtain ⟨f4, g4, h4, s4⟩ := numS_parts (u2 + u0)
  obtain ⟨f5, g5, h5, s5⟩ := numS_parts (numL m i p)
  rw [s1] at x1
  rw [s2] at x2
  rw [s3] at x0
  rw [s2, s3, s4] at y1
  rw [s1, s4, s5] at y2
  rw [s5]
  clear s1 s2 s3 s4 s5 en hu0 hu1 hu2 e0 e1 e2 d0 d1 d2 z0 z1 z2 H
  simp only [mshC_eq, fceC_eq, tr3_eq] at kt
  simp only [mshC_eq] at kw
  have sa : spt m (fce m i).a.toNat = spA m i := rfl
  have sb : spt m (fce m i).b.toNat = spB m i := rfl
  have sc : spt m (fce m i).c.toNat = spC m i := rfl
  refine start hC (nf := N348_ref13_Exact) rfl rfl ?_
  simp [N348_ref13_Exact, mshC_eq, hi, fceC_eq]
  refine callW_of kt (.inr rfl) ?_
  simp [a1, a2, sptC_eq, sa]
  refine callW_of t1 (.inl rfl) ?_
  simp
  refine callW_of x1 (.inl rfl) ?_
  simp
  refine ⟨indW_of (by decide +kernel), ?_⟩
  simp [b1, b2, sptC_eq, sb]
  refine callW_of t2 (.inl rfl) ?_
  simp
  refine callW_of x2 (.inl rfl) ?_
  simp
  refine ⟨indW_of (by decide +kernel), ?_⟩
  simp [c1, c2, sptC_eq, sc]
  refine callW_of t0 (.inl rfl) ?_
  simp
  refine callW_of x0 (.inl rfl) ?_
  simp
  refine ⟨indW_of (by decide +kernel), ?_⟩
  refine callW_of y1 (.inl rfl) ?_
  simp
  refine callW_of y2 (.inl rfl) ?_
  simp
  refine callW_of kw (.inl rfl) ?_
  simp
  exact indW_of (by decide +kernel)
theorem qLevel_c (m : Msh) (hv : validM m = true) (i : Nat) (hi : i < m.f.length) (p : Pnt) (hp : okP p = true) (h : osF m i p < 0) :
    C 349 [.agg (mshC m), .int .i64 i, .agg (ptD p)] (.agg [.int .i64 (loF m i p), .int .i64 (hiF m i p)]) [] := by
  have H := onF_of hv hi hp h
  have k1 := qExact_c hC m hv i hi p hp h
  have b1 := H.num
  have b2 := H.d
  have b3 := H.lo
  have b4 := H.hi
  have k2 := qOfIntS_c hC (denL m i) (by omega)
  obtain ⟨d, hd⟩ : ∃ d : Nat, denL m i = d := ⟨(denL m i).toNat, by omega⟩
  rw [hd] at b1 b2
  have k3 := qDownS_c hC (numL m i p) d (by omega) (by omega) (by omega)
  have k4 := qUpS_c hC (numL m i p) d (by omega) (by omega) (by omega)
  rw [← hd] at k3 k4
  rw [show numL m i p / denL m i = loF m i p from rfl] at k3
  rw [show -(-numL m i p / denL m i) = hiF m i p from rfl] at k4
  have k5 := qIsIntS_c hC (loF m i p) (by omega)
  have k6 := qIsIntS_c hC (hiF m i p) (by omega)
  obtain ⟨f1, g1, h1, s1⟩ := numS_parts (numL m i p)
  obtain ⟨f2, g2, h2, s2⟩ := numS_parts (denL m i)
  obtain ⟨f3, g3, h3, s3⟩ := numS_parts (loF m i p)
  obtain ⟨f4, g4, h4, s4⟩ := numS_parts (hiF m i p)
  rw [s1] at k1
  rw [s2] at k2
  rw [s1, s2, s3] at k3
  rw [s1, s2, s4] at k4
  rw [s3] at k5
  rw [s4] at k6
  clear s1 s2 s3 s4 b1 b2 b3 b4 H hd
  simp only [mshC_eq, ptD] at k1
  refine start hC (nf := N349_ref13_Level) rfl rfl ?_
  simp [N349_ref13_Level, mshC_eq, ptD]
  refine callW_of k1 (.inr rfl) ?_
  simp
  refine callW_of k2 (.inl rfl) ?_
  simp
  refine callW_of k3 (.inl rfl) ?_
  simp
  refine callW_of k5 (.inl rfl) ?_
  simp
  refine ⟨indW_of (by decide +kernel), ?_⟩
  refine callW_of k2 (.inl rfl) ?_
  simp
  refine callW_of k4 (.inl rfl) ?_
  simp
  refine callW_of k6 (.inl rfl) ?_
  simp
  exact indW_of (by decide +kernel)
end Go.Gv

set_option linter.unusedSimpArgs false
namespace Go.Gv
theorem few_small {m : Msh} (h : fewM m = true) : m.s.length ≤ 60 ∧ m.f.length ≤ 60 := by
  simp only [fewM, Bool.and_eq_true, decide_eq_true_eq] at h
  omega
variable {C : CC} (hC : Closed prog C)
include hC
set_option maxHeartbeats 2000000 in
theorem LocateLevels_c (dec : Nat → List UInt8) (hI : ∀ n : Nat, n < 100 → C 127 [.int .i64 n] (.str (dec n)) []) (m : Msh) (p : Pnt) : C 345 [.agg (mshC m), .agg (ptD p)] (.bool true) [] := by
  have ka := awake13_c hC dec hI
  have kf := few_c hC m
  simp only [mshC_eq] at kf
  refine start hC (nf := N345_law13_LocateLevels) rfl rfl ?_
  simp [N345_law13_LocateLevels, mshC_eq, ptD]
  refine callW_of ka (.inl rfl) ?_
  simp
  refine callW_of kf (.inl rfl) ?_
  cases hfew : fewM m
  · simp
  · have hs := few_small hfew
    have hz : smallM m = true → m.s.length ≤ 100 ∧ m.f.length ≤ 100 := fun _ => by omega
    have k1 := lExact_c hC dec hI m hz p
    have k2 := lLevel_c hC dec hI m hz p
    have k3 := right_c hC m hz p
    simp only [mshC_eq, ptD, wz] at k1 k2 k3
    simp
    by_cases hr : validM m = true ∧ okP p = true
    · have k4 := qFace_c hC m hr.1 (by omega) p hr.2
      simp only [mshC_eq, ptD] at k4
      rw [hr.1, hr.2] at k3
      by_cases hf : fndF m p < 0
      · have e : onE m p = 12 := by rw [onE, if_pos hr, if_pos hf]
        rw [e] at k1 k2
        simp at k1 k2
        refine callW_of k1 (.inl rfl) ?_
        simp
        refine callW_of k2 (.inl rfl) ?_
        simp
        refine callW_of k3 (.inl rfl) ?_
        simp
        refine callW_of k4 (.inl rfl) ?_
        simp [hf]
      · have e : onE m p = 0 := by rw [onE, if_pos hr, if_neg hf]
        rw [e] at k1 k2
        simp at k1 k2
        obtain ⟨hi, ho⟩ := fndF_on (m := m) (p := p) (by omega)
        have H := onF_of hr.1 hi hr.2 ho
        have b1 := H.num
        have b2 := H.d
        have k5 := qExact_c hC m hr.1 _ hi p hr.2 ho
        have k6 := qToWide_c hC (numL m (fndF m p).toNat p) (by omega)
        have k7 := qLevel_c hC m hr.1 _ hi p hr.2 ho
        rw [show (((fndF m p).toNat : Nat) : Int) = fndF m p by omega] at k5 k7
        obtain ⟨a1, a2, _, _, ea⟩ := wiS_parts (numL m (fndF m p).toNat p)
        obtain ⟨f1, g1, h1, s1⟩ := numS_parts (numL m (fndF m p).toNat p)
        rw [ea] at k1 k6
        rw [s1] at k5 k6
        simp only [mshC_eq, ptD] at k5 k7
        clear ea s1 b1 b2 H
        refine callW_of k1 (.inl rfl) ?_
        simp
        refine callW_of k2 (.inl rfl) ?_
        simp
        refine callW_of k3 (.inl rfl) ?_
        simp
        refine callW_of k4 (.inl rfl) ?_
        simp [hf]
        refine callW_of k5 (.inl rfl) ?_
        simp
        refine callW_of k6 (.inl rfl) ?_
        simp
        refine callW_of k7 (.inl rfl) ?_
        simp
        exact indW_of (by decide +kernel)
    · have e : (validM m && okP p) = false := by
        cases h1 : validM m <;> cases h2 : okP p <;> simp [h1, h2] at hr ⊢
      have e2 : onE m p = 1 := by rw [onE, if_neg hr]
      rw [e2] at k1 k2
      simp at k1 k2
      refine callW_of k1 (.inl rfl) ?_
      simp
      refine callW_of k2 (.inl rfl) ?_
      simp
      refine callW_of k3 (.inl rfl) ?_
      simp [e]
end Go.Gv
