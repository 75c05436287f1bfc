/-
  Texts of the proof: Z6, I3, Z7, Z8, Z9, Z10, Z11, J3, J4, J5, J6, J7, J8, J9, J10, J11, J12, J13, J14, J15, J16.
-/
import Derived.Test.YteaonmajblajnaaGreatDoorX8
import Derived.Test.YteaonmajblajnaaGreatDoorX7
set_option linter.all false
set_option linter.unusedSimpArgs false
namespace Go.Gv
open Go.Lib
def numL (m : Msh) (i : Nat) (p : Pnt) : Int := (spA m i).z * tn1 m i p + (spB m i).z * tn2 m i p + (spC m i).z * tn0 m i p
def denL (m : Msh) (i : Nat) : Int := turnP (ptS (spA m i)) (ptS (spB m i)) (ptS (spC m i))
theorem tn_sum (m : Msh) (i : Nat) (p : Pnt) : tn0 m i p + tn1 m i p + tn2 m i p = denL m i := by
  unfold tn0 tn1 tn2 denL turnP ptS
  grind
theorem tn_rot1 (m : Msh) (i : Nat) (p : Pnt) : turnP p (ptS (spB m i)) (ptS (spC m i)) = tn1 m i p := by
  unfold tn1 turnP; grind
theorem tn_rot2 (m : Msh) (i : Nat) (p : Pnt) : turnP p (ptS (spC m i)) (ptS (spA m i)) = tn2 m i p := by
  unfold tn2 turnP; grind
theorem tn_rot0 (m : Msh) (i : Nat) (p : Pnt) : turnP p (ptS (spA m i)) (ptS (spB m i)) = tn0 m i p := by
  unfold tn0 turnP; grind
theorem turnP_bd {a b c : Pnt} (ha : okP a = true) (hb : okP b = true) (hc : okP c = true) : -2251799813685248 ≤ turnP a b c ∧ turnP a b c ≤ 2251799813685248 := by
  have := turn_bd ha hb hc
  unfold turnP
  omega
structure OnF (m : Msh) (i : Nat) (p : Pnt) : Prop where
  z0 : -4194304 ≤ (spA m i).z ∧ (spA m i).z ≤ 4194304
  z1 : -4194304 ≤ (spB m i).z ∧ (spB m i).z ≤ 4194304
  z2 : -4194304 ≤ (spC m i).z ∧ (spC m i).z ≤ 4194304
  t0 : 0 ≤ tn0 m i p ∧ tn0 m i p ≤ 2251799813685248
  t1 : 0 ≤ tn1 m i p ∧ tn1 m i p ≤ 2251799813685248
  t2 : 0 ≤ tn2 m i p ∧ tn2 m i p ≤ 2251799813685248
  d : 0 < denL m i ∧ denL m i ≤ 2251799813685248
theorem onF_of {m : Msh} (hv : validM m = true) {i : Nat} (hi : i < m.f.length) {p : Pnt} (hp : okP p = true) (h : osF m i p < 0) : OnF m i p := by
  obtain ⟨oa, ob, oc⟩ := sp_okP hv hi
  obtain ⟨r1, r2, r3⟩ := sp_bd hv hi
  have := rightS_bd r1
  have := rightS_bd r2
  have := rightS_bd r3
  obtain ⟨n0, n1, n2⟩ := osF_on h
  have b0 : tn0 m i p ≤ 2251799813685248 := (turnP_bd oa ob hp).2
  have b1 : tn1 m i p ≤ 2251799813685248 := (turnP_bd ob oc hp).2
  have b2 : tn2 m i p ≤ 2251799813685248 := (turnP_bd oc oa hp).2
  have bd : denL m i ≤ 2251799813685248 := (turnP_bd oa ob oc).2
  have hd : 0 < denL m i := (valid_f hv hi).2
  exact ⟨by omega, by omega, by omega, by omega, by omega, by omega, by omega⟩
theorem mulz_bd {z t : Int} (hz : -4194304 ≤ z ∧ z ≤ 4194304) (ht : 0 ≤ t) : -(4194304 * t) ≤ z * t ∧ z * t ≤ 4194304 * t := by
  have h1 := Int.mul_nonneg (show 0 ≤ 4194304 - z by omega) ht
  have h2 := Int.mul_nonneg (show 0 ≤ 4194304 + z by omega) ht
  rw [Int.sub_mul] at h1
  rw [Int.add_mul] at h2
  omega
theorem OnF.num {m : Msh} {i : Nat} {p : Pnt} (h : OnF m i p) : -(4194304 * denL m i) ≤ numL m i p ∧ numL m i p ≤ 4194304 * denL m i := by
  have e := tn_sum m i p
  have h1 := mulz_bd h.z0 h.t1.1
  have h2 := mulz_bd h.z1 h.t2.1
  have h3 := mulz_bd h.z2 h.t0.1
  unfold numL
  rw [← e]
  omega
theorem div_bd {n d k : Int} (hd : 0 < d) (h : -(k * d) ≤ n ∧ n ≤ k * d) : -k ≤ n / d ∧ n / d ≤ k := by
  constructor
  · exact (Int.le_ediv_iff_mul_le hd).2 (by rw [Int.neg_mul]; exact h.1)
  · exact Int.le_of_lt_add_one ((Int.ediv_lt_iff_lt_mul hd).2 (by rw [Int.add_mul]; omega))
def loF (m : Msh) (i : Nat) (p : Pnt) : Int := numL m i p / denL m i
def hiF (m : Msh) (i : Nat) (p : Pnt) : Int := -(-numL m i p / denL m i)
theorem OnF.lo {m : Msh} {i : Nat} {p : Pnt} (h : OnF m i p) : -4194304 ≤ loF m i p ∧ loF m i p ≤ 4194304 := div_bd h.d.1 h.num
theorem OnF.hi {m : Msh} {i : Nat} {p : Pnt} (h : OnF m i p) : -4194304 ≤ hiF m i p ∧ hiF m i p ≤ 4194304 := by
  have := div_bd (n := -numL m i p) (k := 4194304) h.d.1 (by have := h.num; omega)
  unfold hiF
  omega
variable {C : CC} (hC : Closed prog C)
include hC
theorem ProductT_c (z t : Int) (hz : -4194304 ≤ z ∧ z ≤ 4194304) (ht : 0 ≤ t ∧ t ≤ 2251799813685248) : C 99 [.int .i64 z, .int .i64 t] (.tup [wiS (z * t), .int .i64 0]) [] := by
  obtain ⟨n, rfl⟩ : ∃ n : Nat, t = n := ⟨t.toNat, by omega⟩
  have h3 : z.natAbs * n ≤ 4194304 * 2251799813685248 := Nat.mul_le_mul (by omega) (by omega)
  exact ProductS_c hC z n (by omega) (by omega) (by omega)
set_option maxHeartbeats 4000000 in
theorem lexact_c (m : Msh) (hv : validM m = true) (i : Nat) (hi : i < m.f.length) (p : Pnt) (hp : okP p = true) (h : osF m i p < 0) :
    C 300 [.agg (mshC m), .int .i64 i, .agg (ptD p)] (.tup [wiS (numL m i p), .int .i64 (denL m i), .int .i64 0]) [] := by
  have H := onF_of hv hi hp h
  obtain ⟨oa, ob, oc⟩ := sp_okP hv hi
  have k0 := lcorners_c hC m i hi (valid_in hv hi)
  have ka := lat_c hC (spA m i)
  have kb := lat_c hC (spB m i)
  have kc := lat_c hC (spC m i)
  have t1 := lturn_c hC hp ob oc
  have t2 := lturn_c hC hp oc oa
  have t0 := lturn_c hC hp oa ob
  have td : C 320 _ (.int .i64 (denL m i)) [] := lturn_c hC oa ob oc
  rw [tn_rot1] at t1
  rw [tn_rot2] at t2
  rw [tn_rot0] at t0
  have x1 := ProductT_c hC _ _ H.z0 H.t1
  have x2 := ProductT_c hC _ _ H.z1 H.t2
  have x0 := ProductT_c hC _ _ H.z2 H.t0
  have b1 := mulz_bd H.z0 H.t1.1
  have b2 := mulz_bd H.z1 H.t2.1
  have b0 := mulz_bd H.z2 H.t0.1
  have c0 := H.t0
  have c1 := H.t1
  have c2 := H.t2
  have en : numL m i p = (spA m i).z * tn1 m i p + (spB m i).z * tn2 m i p + (spC m i).z * tn0 m i p := rfl
  obtain ⟨u1, hu1⟩ : ∃ u, u = (spA m i).z * tn1 m i p := ⟨_, rfl⟩
  obtain ⟨u2, hu2⟩ : ∃ u, u = (spB m i).z * tn2 m i p := ⟨_, rfl⟩
  obtain ⟨u0, hu0⟩ : ∃ u, u = (spC m i).z * tn0 m i p := ⟨_, rfl⟩
  rw [← hu1] at x1 b1 en
  rw [← hu2] at x2 b2 en
  rw [← hu0] at x0 b0 en
  have y1 := AddS_c hC 0 u1 (by omega) (by omega)
  have y2 := AddS_c hC u1 u2 (by omega) (by omega)
  have y3 := AddS_c hC (u1 + u2) u0 (by omega) (by omega)
  rw [Int.zero_add] at y1
  rw [← en] at y3
  have ez : wiS 0 = .agg [.int .i64 0, .int .i64 0] := by simp [wiS]
  obtain ⟨p1, q1, _, _, e1⟩ := wiS_parts u1
  obtain ⟨p2, q2, _, _, e2⟩ := wiS_parts u2
  obtain ⟨p3, q3, _, _, e3⟩ := wiS_parts u0
  obtain ⟨p4, q4, _, _, e4⟩ := wiS_parts (u1 + u2)
  obtain ⟨p5, q5, _, _, e5⟩ := wiS_parts (numL m i p)
  rw [e1] at x1
  rw [e2] at x2
  rw [e3] at x0
  rw [ez, e1] at y1
  rw [e1, e2, e4] at y2
  rw [e4, e3, e5] at y3
  rw [e5]
  have w0 : IntKind.wrap .i64 0 = 0 := by decide
  have w1 : IntKind.wrap .i64 1 = 1 := by decide
  have w2 : IntKind.wrap .i64 2 = 2 := by decide
  have w3 : IntKind.wrap .i64 3 = 3 := by decide
  have w4 : IntKind.wrap .i64 4 = 4 := by decide
  have m1 : Int.tmod 1 3 = 1 := by decide
  have m2 : Int.tmod 2 3 = 2 := by decide
  have m3 : Int.tmod 3 3 = 0 := by decide
  have m4 : Int.tmod 4 3 = 1 := by decide
  clear e1 e2 e3 e4 e5 en hu0 hu1 hu2 b0 b1 b2 c0 c1 c2 H
  simp only [mshC_eq, sptC_eq, cor9_eq] at k0 ka kb kc
  refine start hC (nf := N300_locate_exact) rfl rfl ?_
  simp [N300_locate_exact, mshC_eq]
  refine callW_of k0 (.inl rfl) ?_
  simp
  refine loop_of Nat (fun k => [(5, .ptr (ptD p)), (6, .adr (.r 10096) 0 0), (9, .adr (.r 10144) 0 0), (17, .agg (cor9 m i)), (18, .int .i64 k), (10144, .blk 9 [cor9 m i]),
    (10096, .blk 2 [if k = 0 then [.int .i64 0, .int .i64 0] else if k = 1 then [.int .i64 p1, .int .i64 q1] else if k = 2 then [.int .i64 p4, .int .i64 q4] else [.int .i64 p5, .int .i64 q5]])]) (fun k => k ≤ 3) (fun k => 3 - k) 0 (by simp) (by simp [cor9_eq]) ?_
  rintro k hk
  rcases (by omega : k = 0 ∨ k = 1 ∨ k = 2 ∨ k = 3) with rfl | rfl | rfl | rfl
  · simp [cor9_eq, w1, m1]
    refine callW_of kb (.inl rfl) ?_
    simp [w2, m2]
    refine callW_of kc (.inl rfl) ?_
    simp
    refine callW_of t1 (.inl rfl) ?_
    simp
    refine callW_of x1 (.inr rfl) ?_
    simp
    refine ⟨indW_of (by decide +kernel), ?_⟩
    refine callW_of y1 (.inr rfl) ?_
    simp
    exact ⟨1, by omega, by omega, by simp [cor9_eq, w1]⟩
  · simp [cor9_eq, w2, m2]
    refine callW_of kc (.inl rfl) ?_
    simp [w3, m3]
    refine callW_of ka (.inl rfl) ?_
    simp
    refine callW_of t2 (.inl rfl) ?_
    simp
    refine callW_of x2 (.inr rfl) ?_
    simp
    refine ⟨indW_of (by decide +kernel), ?_⟩
    refine callW_of y2 (.inr rfl) ?_
    simp
    exact ⟨2, by omega, by omega, by simp [cor9_eq, w2]⟩
  · simp [cor9_eq, w3, m3]
    refine callW_of ka (.inl rfl) ?_
    simp [w4, m4]
    refine callW_of kb (.inl rfl) ?_
    simp
    refine callW_of t0 (.inl rfl) ?_
    simp
    refine callW_of x0 (.inr rfl) ?_
    simp
    refine ⟨indW_of (by decide +kernel), ?_⟩
    refine callW_of y3 (.inr rfl) ?_
    simp
    exact ⟨3, by omega, by omega, by simp [cor9_eq, w3]⟩
  · simp [cor9_eq]
    refine callW_of ka (.inl rfl) ?_
    simp
    refine callW_of kb (.inl rfl) ?_
    simp
    refine callW_of kc (.inl rfl) ?_
    simp
    refine callW_of td (.inl rfl) ?_
    simp
    exact indW_of (by decide +kernel)
theorem floorW_c (v : Int) (d : Nat) (up : Bool) (hd0 : 0 < d) (hd : d ≤ 2251799813685248) (hv : v.natAbs ≤ 4194304 * d) : C 301 [wiS v, .int .i64 d, .bool up] (.tup [.int .i64 (if up then -(-v / d) else v / d), .int .i64 0]) [] := by
  have k1 := wvalidS_c hC v (by omega)
  have k2 := valueS_c hC v (by omega)
  obtain ⟨Q, hQ⟩ : ∃ Q, Q = (if up then -(-v / (d : Int)) else v / (d : Int)) := ⟨_, rfl⟩
  have hdiv : v.natAbs / d ≤ 4194304 := Nat.div_le_of_le_mul (by rw [Nat.mul_comm]; exact hv)
  have k3 : C 104 [numS v, .int .i64 d, .bool up] (.tup [.int .i64 Q, .int .i64 0]) [] := by
    by_cases v0 : v < 0
    · obtain ⟨n, rfl⟩ : ∃ n : Nat, v = -(n : Int) := ⟨v.natAbs, by omega⟩
      rw [Int.natAbs_neg, Int.natAbs_natCast] at hv hdiv
      have k := quotientN_c hC n d up (if up then n / d else if n % d = 0 then n / d else n / d + 1) (by omega) (by omega) (by omega) (by split; omega; split <;> omega) rfl (by omega)
      have e1 : numS (-(n : Int)) = numD n true := numS_at (by omega) (decide_eq_true v0)
      have e2 : Q = -((if up then n / d else if n % d = 0 then n / d else n / d + 1 : Nat) : Int) := by
        rw [hQ]
        cases up
        · simp only [Bool.false_eq_true, if_false]
          exact neg_div_nat n d hd0
        · simp
      rw [e1, e2]
      exact k
    · obtain ⟨n, rfl⟩ : ∃ n : Nat, v = (n : Int) := ⟨v.natAbs, by omega⟩
      rw [Int.natAbs_natCast] at hv hdiv
      have hle : (n + d - 1) / d ≤ n / d + 1 := by
        have : (n + d - 1) / d ≤ (n + d) / d := Nat.div_le_div_right (by omega)
        rw [Nat.add_div_right _ hd0] at this
        exact this
      have k := quotient_c hC n d up (if up then (n + d - 1) / d else n / d) (by omega) (by omega) (by split <;> omega) rfl (by omega)
      have e1 : numS (n : Int) = numD n false := numS_at (by omega) (decide_eq_false v0)
      have e2 : Q = ((if up then (n + d - 1) / d else n / d : Nat) : Int) := by
        rw [hQ]
        cases up
        · simp
        · simp only [if_true]
          rw [neg_div_nat n d hd0, Int.neg_neg]
          congr 1
          have h1 := Nat.div_add_mod n d
          have h2 := Nat.mod_lt n hd0
          split
          · rename_i h
            have : n + d - 1 = d * (n / d) + (d - 1) := by omega
            rw [this, Nat.mul_add_div hd0, Nat.div_eq_of_lt (show d - 1 < d by omega)]
            rfl
          · rename_i h
            have : n + d - 1 = d * (n / d) + (d + (n % d - 1)) := by omega
            rw [this, Nat.mul_add_div hd0, Nat.add_div_left _ hd0, Nat.div_eq_of_lt (show n % d - 1 < d by omega)]
      rw [e1, e2]
      exact k
  rw [← hQ]
  obtain ⟨a1, a2, _, _, ea⟩ := wiS_parts v
  obtain ⟨f1, f2, f3, ef⟩ : ∃ (a1 a2 : Nat) (a3 : Bool), numS v = .agg [.int .u64 a1, .int .u64 a2, .bool a3] := ⟨_, _, _, rfl⟩
  rw [ea] at k1 k2 ⊢
  rw [ef] at k2 k3
  have h1 : ¬ d = 0 := by omega
  clear hQ ea ef
  refine start hC (nf := N301_wide_divided) rfl rfl ?_
  simp [N301_wide_divided]
  refine callW_of k1 (.inl rfl) ?_
  simp [h1]
  refine callW_of k2 (.inl rfl) ?_
  simp
  refine callW_of k3 (.inr rfl) ?_
  simp
theorem Floor_c (v : Int) (d : Nat) (hd0 : 0 < d) (hd : d ≤ 2251799813685248) (hv : v.natAbs ≤ 4194304 * d) : C 271 [wiS v, .int .i64 d] (.tup [.int .i64 (v / d), .int .i64 0]) [] := by
  have k := floorW_c hC v d false hd0 hd hv
  simp at k
  obtain ⟨Q, hQ⟩ : ∃ Q, Q = v / (d : Int) := ⟨_, rfl⟩
  rw [← hQ] at k ⊢
  obtain ⟨a1, a2, _, _, ea⟩ := wiS_parts v
  rw [ea] at k ⊢
  refine start hC (nf := N271_wide_Floor) rfl rfl ?_
  simp [N271_wide_Floor]
  refine callW_of k (.inl rfl) ?_
  simp
theorem Ceil_c (v : Int) (d : Nat) (hd0 : 0 < d) (hd : d ≤ 2251799813685248) (hv : v.natAbs ≤ 4194304 * d) : C 272 [wiS v, .int .i64 d] (.tup [.int .i64 (-(-v / d)), .int .i64 0]) [] := by
  have k := floorW_c hC v d true hd0 hd hv
  simp only [if_true] at k
  obtain ⟨Q, hQ⟩ : ∃ Q, Q = -(-v / (d : Int)) := ⟨_, rfl⟩
  rw [← hQ] at k ⊢
  obtain ⟨a1, a2, _, _, ea⟩ := wiS_parts v
  rw [ea] at k ⊢
  refine start hC (nf := N272_wide_Ceil) rfl rfl ?_
  simp [N272_wide_Ceil]
  refine callW_of k (.inl rfl) ?_
  simp
def wz : D := .agg [.int .i64 0, .int .i64 0]
theorem lExact_c (dec : Nat → List UInt8) (hI : ∀ n : Nat, n < 100 → C 127 [.int .i64 n] (.str (dec n)) []) (m : Msh) (hz : smallM m = true → m.s.length ≤ 100 ∧ m.f.length ≤ 100) (p : Pnt) :
    C 269 [.agg (mshC m), .agg (ptD p)] (if onE m p = 0 then .tup [wiS (numL m (fndF m p).toNat p), .int .i64 (denL m (fndF m p).toNat), .int .i64 0] else .tup [wz, .int .i64 0, .int .i64 (onE m p)]) [] := by
  have k1 := lon_c hC dec hI m hz p
  by_cases h0 : onE m p = 0
  · obtain ⟨hv, hp, hf⟩ := onE_at h0
    obtain ⟨hi, ho⟩ := fndF_on hf
    have k2 := lexact_c hC m hv _ hi p hp ho
    rw [if_pos h0]
    have e : onV m p = fndF m p := by rw [onV, if_pos h0]
    rw [h0, e] at k1
    rw [show (((fndF m p).toNat : Nat) : Int) = fndF m p by omega] at k2
    obtain ⟨a1, a2, _, _, ea⟩ := wiS_parts (numL m (fndF m p).toNat p)
    rw [ea] at k2 ⊢
    simp only [mshC_eq, ptD] at k1 k2
    refine start hC (nf := N269_locate_Exact) rfl rfl ?_
    simp [N269_locate_Exact, mshC_eq, ptD]
    refine callW_of k1 (.inl rfl) ?_
    simp
    refine callW_of k2 (.inr rfl) ?_
    simp
  · rw [if_neg h0]
    simp only [mshC_eq, ptD] at k1
    refine start hC (nf := N269_locate_Exact) rfl rfl ?_
    simp [N269_locate_Exact, mshC_eq, ptD]
    refine callW_of k1 (.inl rfl) ?_
    simp [h0, wz]
theorem lLevel_c (dec : Nat → List UInt8) (hI : ∀ n : Nat, n < 100 → C 127 [.int .i64 n] (.str (dec n)) []) (m : Msh) (hz : smallM m = true → m.s.length ≤ 100 ∧ m.f.length ≤ 100) (p : Pnt) :
    C 233 [.agg (mshC m), .agg (ptD p)] (if onE m p = 0 then .tup [.agg [.int .i64 (loF m (fndF m p).toNat p), .int .i64 (hiF m (fndF m p).toNat p)], .int .i64 0] else .tup [wz, .int .i64 (onE m p)]) [] := by
  have k1 := lExact_c hC dec hI m hz p
  by_cases h0 : onE m p = 0
  · obtain ⟨hv, hp, hf⟩ := onE_at h0
    obtain ⟨hi, ho⟩ := fndF_on hf
    have H := onF_of hv hi hp ho
    obtain ⟨i, hi2⟩ : ∃ i, i = (fndF m p).toNat := ⟨_, rfl⟩
    rw [if_pos h0] at k1 ⊢
    rw [← hi2] at k1 H ⊢
    obtain ⟨d, hd⟩ : ∃ d : Nat, denL m i = d := ⟨(denL m i).toNat, by have := H.d; omega⟩
    have b1 := H.num
    have b2 := H.d
    rw [hd] at b1 b2
    have k2 := Floor_c hC (numL m i p) d (by omega) (by omega) (by omega)
    have k3 := Ceil_c hC (numL m i p) d (by omega) (by omega) (by omega)
    rw [show numL m i p / (d : Int) = loF m i p by rw [loF, hd]] at k2
    rw [show -(-numL m i p / (d : Int)) = hiF m i p by rw [hiF, hd]] at k3
    rw [hd] at k1
    obtain ⟨a1, a2, _, _, ea⟩ := wiS_parts (numL m i p)
    rw [ea] at k1 k2 k3
    simp only [mshC_eq, ptD] at k1
    clear b1 b2 H
    refine start hC (nf := N233_locate_Level) rfl rfl ?_
    simp [N233_locate_Level, mshC_eq, ptD]
    refine callW_of k1 (.inr rfl) ?_
    simp
    refine callW_of k2 (.inl rfl) ?_
    simp
    refine callW_of k3 (.inl rfl) ?_
    simp
  · rw [if_neg h0] at k1 ⊢
    simp only [mshC_eq, ptD, wz] at k1
    refine start hC (nf := N233_locate_Level) rfl rfl ?_
    simp [N233_locate_Level, mshC_eq, ptD]
    refine callW_of k1 (.inr rfl) ?_
    simp [h0, wz]
end Go.Gv

set_option linter.unusedSimpArgs false
namespace Go.Gv
def sidK (m : Msh) (a b : Int) : Int := if sideF m a b < 0 then 0 else idxD (fun j => decide (crn (fce m (sideF m a b).toNat) j = a) && decide (crn (fce m (sideF m a b).toNat) (j + 1) = b)) (List.range 3)
def acK (m : Msh) (i k : Nat) : Int := sidK m (crn (fce m i) (k + 1)) (crn (fce m i) k)
def nbT (m : Msh) (i : Nat) : List (List D) := (List.range i).map fun j => [.int .i64 (nbF m j 0), .int .i64 (nbF m j 1), .int .i64 (nbF m j 2)]
@[simp] theorem nbT_len (m : Msh) (i : Nat) : (nbT m i).length = i := by simp [nbT]
@[simp] theorem nbT_take (m : Msh) (i : Nat) : List.take i (nbT m i) = nbT m i := List.take_of_length_le (by simp)
@[simp] theorem nbT_cv (m : Msh) (i : Nat) : List.map (fun e => List.map cellV e) (nbT m i) = nbT m i := by simp [nbT]
variable {C : CC} (hC : Closed prog C)
include hC
end Go.Gv

set_option linter.unusedSimpArgs false
namespace Go.Gv
open Go.Lib
def tr3 (m : Msh) (i : Nat) : List (List D) := [ptD (ptS (spA m i)), ptD (ptS (spB m i)), ptD (ptS (spC m i))]
theorem osF_cases (m : Msh) (i : Nat) (p : Pnt) : (osF m i p = 0 ∧ tn0 m i p < 0) ∨ (osF m i p = 1 ∧ ¬ tn0 m i p < 0 ∧ tn1 m i p < 0) ∨ (osF m i p = 2 ∧ ¬ tn0 m i p < 0 ∧ ¬ tn1 m i p < 0 ∧ tn2 m i p < 0) ∨ (osF m i p = -1 ∧ ¬ tn0 m i p < 0 ∧ ¬ tn1 m i p < 0 ∧ ¬ tn2 m i p < 0) := by
  unfold osF
  split
  · exact .inl ⟨rfl, ‹_›⟩
  · split
    · exact .inr (.inl ⟨rfl, ‹_›, ‹_›⟩)
    · split
      · exact .inr (.inr (.inl ⟨rfl, ‹_›, ‹_›, ‹_›⟩))
      · exact .inr (.inr (.inr ⟨rfl, ‹_›, ‹_›, ‹_›⟩))
def sdF (m : Msh) (i : Nat) (p : Pnt) (k : Nat) : Int := if 0 ≤ osF m i p ∧ osF m i p < k then osF m i p else -1
variable {C : CC} (hC : Closed prog C)
include hC
theorem q7Valid_c (p : Pnt) : C 237 [.agg (ptD p)] (.bool (okP p)) [] := by
  refine start hC (nf := N237_ref07_Valid) rfl rfl ?_
  simp [N237_ref07_Valid, ptD, okP]
  repeat' (refine brB_of (fun h => ?_) (fun h => ?_) <;> simp at h <;> simp [h] <;> try omega)
def fewM (m : Msh) : Bool := decide ((m.s.length : Int) ≤ 60) && decide ((m.f.length : Int) ≤ 60)
end Go.Gv

set_option linter.unusedSimpArgs false
namespace Go.Gv
open Go.Lib
def exL : Msh := ⟨false, [⟨0, 0, 100⟩, ⟨1000, 0, 200⟩, ⟨0, 1000, 400⟩], false, [⟨0, 1, 2, 0⟩]⟩
variable {C : CC} (hC : Closed prog C)
include hC
end Go.Gv

set_option linter.unusedSimpArgs false
namespace Go.Gv
variable {C : CC} (hC : Closed prog C)
include hC
end Go.Gv

set_option linter.unusedSimpArgs false
namespace Go.Gv
theorem cmp3_0 (x : Int) : (cmp3 x 0 = -1 ∧ x < 0) ∨ (cmp3 x 0 = 0 ∧ x = 0) ∨ (cmp3 x 0 = 1 ∧ 0 < x) := by
  unfold cmp3
  split
  · exact .inl ⟨rfl, ‹_›⟩
  · split
    · exact .inr (.inr ⟨rfl, ‹_›⟩)
    · exact .inr (.inl ⟨rfl, by omega⟩)
def mn2 (x y : Int) : Int := if y < x then y else x
def mx2 (x y : Int) : Int := if x < y then y else x
def insF (m : Msh) (i : Nat) (p : Pnt) : Int := mn2 (mn2 (mn2 1 (cmp3 (tn0 m i p) 0)) (cmp3 (tn1 m i p) 0)) (cmp3 (tn2 m i p) 0)
theorem insF_on (m : Msh) (i : Nat) (p : Pnt) : decide (0 ≤ insF m i p) = decide (osF m i p < 0) := by
  rw [decide_eq_decide]
  have h0 := cmp3_0 (tn0 m i p)
  have h1 := cmp3_0 (tn1 m i p)
  have h2 := cmp3_0 (tn2 m i p)
  have hc := osF_cases m i p
  unfold insF mn2
  generalize cmp3 (tn0 m i p) 0 = a at *
  generalize cmp3 (tn1 m i p) 0 = b at *
  generalize cmp3 (tn2 m i p) 0 = c at *
  constructor
  · intro h
    split at h <;> split at h <;> split at h <;> omega
  · intro h
    split <;> split <;> split <;> omega
variable {C : CC} (hC : Closed prog C)
include hC
theorem pturn_c {a b c : Pnt} (ha : okP a = true) (hb : okP b = true) (hc : okP c = true) : C 360 [.agg (ptD a), .agg (ptD b), .agg (ptD c)] (.int .i64 (turnP a b c)) [] := by
  have := okP_bd ha
  have := okP_bd hb
  have := okP_bd hc
  have h4 := turn_bd ha hb hc
  refine start hC (nf := N360_plane_turn) rfl rfl ?_
  have w1 : IntKind.wrap .i64 (b.1 - a.1) = b.1 - a.1 := wrap_i64 rfl (by omega)
  have w2 : IntKind.wrap .i64 (c.2 - a.2) = c.2 - a.2 := wrap_i64 rfl (by omega)
  have w3 : IntKind.wrap .i64 (b.2 - a.2) = b.2 - a.2 := wrap_i64 rfl (by omega)
  have w4 : IntKind.wrap .i64 (c.1 - a.1) = c.1 - a.1 := wrap_i64 rfl (by omega)
  have w5 : IntKind.wrap .i64 ((b.1 - a.1) * (c.2 - a.2)) = (b.1 - a.1) * (c.2 - a.2) := wrap_i64 rfl (by omega)
  have w6 : IntKind.wrap .i64 ((b.2 - a.2) * (c.1 - a.1)) = (b.2 - a.2) * (c.1 - a.1) := wrap_i64 rfl (by omega)
  have w7 : IntKind.wrap .i64 ((b.1 - a.1) * (c.2 - a.2) - (b.2 - a.2) * (c.1 - a.1)) = turnP a b c := wrap_i64 rfl (by rw [turnP]; omega)
  simp [N360_plane_turn, ptD, w1, w2, w3, w4, w5, w6, w7]
theorem pall1_c (p : Pnt) : C 361 [.agg (ptD p)] (.bool (!okP p)) [] := by
  have k := pValid_c hC p
  simp only [ptD] at k
  refine start hC (nf := N361_plane_all_1) rfl rfl ?_
  simp [N361_plane_all_1, ptD]
  refine callW_of k (.inl rfl) ?_
  simp
theorem pall_c (b : Bool) (ps : List Pnt) (hp : ps.length < 2 ^ 62) : C 359 [slx b (ps.map fun x => ptD x)] (.bool (ps.all okP)) [] := by
  have k2 := hasPnt_c hC (b := b) (xs := ps) (g := 361) (cs := []) (fun x => !okP x) hp (fun x _ => pall1_c hC x)
  have e : (ps.any fun x => !okP x) = !ps.all okP := by rw [List.all_eq_not_any_not, Bool.not_not]
  rw [e] at k2
  refine start hC (nf := N359_plane_all) rfl rfl ?_
  simp [N359_plane_all]
  refine callW_of k2 (.inl rfl) ?_
  simp
set_option maxHeartbeats 4000000 in
theorem pInside_c (m : Msh) (hv : validM m = true) (i : Nat) (hi : i < m.f.length) (p : Pnt) (hp : okP p = true) :
    C 355 [.agg (ptD p), .agg (ptD (ptS (spA m i))), .agg (ptD (ptS (spB m i))), .agg (ptD (ptS (spC m i)))] (.tup [.int .i64 (insF m i p), .int .i64 0]) [] := by
  obtain ⟨oa, ob, oc⟩ := sp_okP hv hi
  have hd : 0 < denL m i := (valid_f hv hi).2
  have ka := pall_c hC false [p, ptS (spA m i), ptS (spB m i), ptS (spC m i)] (by simp)
  have kd : C 360 [.agg (ptD (ptS (spA m i))), .agg (ptD (ptS (spB m i))), .agg (ptD (ptS (spC m i)))] (.int .i64 (denL m i)) [] := pturn_c hC oa ob oc
  have t0 : C 360 [.agg (ptD (ptS (spA m i))), .agg (ptD (ptS (spB m i))), .agg (ptD p)] (.int .i64 (tn0 m i p)) [] := pturn_c hC oa ob hp
  have t1 : C 360 [.agg (ptD (ptS (spB m i))), .agg (ptD (ptS (spC m i))), .agg (ptD p)] (.int .i64 (tn1 m i p)) [] := pturn_c hC ob oc hp
  have t2 : C 360 [.agg (ptD (ptS (spC m i))), .agg (ptD (ptS (spA m i))), .agg (ptD p)] (.int .i64 (tn2 m i p)) [] := pturn_c hC oc oa hp
  have cd := compare_c hC (denL m i) 0
  have c0 := compare_c hC (tn0 m i p) 0
  have c1 := compare_c hC (tn1 m i p) 0
  have c2 := compare_c hC (tn2 m i p) 0
  rw [show cmp3 (denL m i) 0 = 1 by have := cmp3_0 (denL m i); omega] at cd
  simp [oa, ob, oc, hp] at ka
  have g0 := cmp3_0 (tn0 m i p)
  have g1 := cmp3_0 (tn1 m i p)
  have g2 := cmp3_0 (tn2 m i p)
  unfold insF
  obtain ⟨x0, h0⟩ : ∃ x, x = cmp3 (tn0 m i p) 0 := ⟨_, rfl⟩
  obtain ⟨x1, h1⟩ : ∃ x, x = cmp3 (tn1 m i p) 0 := ⟨_, rfl⟩
  obtain ⟨x2, h2⟩ : ∃ x, x = cmp3 (tn2 m i p) 0 := ⟨_, rfl⟩
  rw [← h0] at c0 g0 ⊢
  rw [← h1] at c1 g1 ⊢
  rw [← h2] at c2 g2 ⊢
  have e0 : IntKind.wrap .i64 x0 = x0 := wrap_i64 rfl (by omega)
  have e1 : IntKind.wrap .i64 x1 = x1 := wrap_i64 rfl (by omega)
  have e2 : IntKind.wrap .i64 x2 = x2 := wrap_i64 rfl (by omega)
  have w1 : IntKind.wrap .i64 1 = 1 := by decide
  have w2 : IntKind.wrap .i64 2 = 2 := by decide
  have w3 : IntKind.wrap .i64 3 = 3 := by decide
  clear g0 g1 g2 h0 h1 h2
  obtain ⟨A, hA⟩ : ∃ A, A = ptS (spA m i) := ⟨_, rfl⟩
  obtain ⟨B, hB⟩ : ∃ A, A = ptS (spB m i) := ⟨_, rfl⟩
  obtain ⟨Z, hZ⟩ : ∃ A, A = ptS (spC m i) := ⟨_, rfl⟩
  rw [← hA, ← hB, ← hZ] at ka kd ⊢
  rw [← hA, ← hB] at t0
  rw [← hB, ← hZ] at t1
  rw [← hA, ← hZ] at t2
  clear hA hB hZ
  simp only [ptD] at ka kd t0 t1 t2
  refine start hC (nf := N355_plane_Inside) rfl rfl ?_
  simp [N355_plane_Inside, ptD]
  refine callW_of ka (.inl rfl) ?_
  simp
  refine callW_of kd (.inl rfl) ?_
  simp
  refine callW_of cd (.inl rfl) ?_
  simp
  refine loop_of Nat (fun k => [(4, .ptr (ptD p)), (10, .int .i64 1), (11, .int .i64 (if k = 0 then 1 else if k = 1 then mn2 1 x0 else if k = 2 then mn2 (mn2 1 x0) x1 else mn2 (mn2 (mn2 1 x0) x1) x2)), (37, .agg [.int .i64 A.1, .int .i64 A.2, .int .i64 B.1, .int .i64 B.2, .int .i64 B.1, .int .i64 B.2, .int .i64 Z.1, .int .i64 Z.2, .int .i64 Z.1, .int .i64 Z.2, .int .i64 A.1, .int .i64 A.2]), (38, .int .i64 k)]) (fun k => k ≤ 3) (fun k => 3 - k) 0 (by simp) (by simp [ptD]) ?_
  rintro k hk
  rcases (by omega : k = 0 ∨ k = 1 ∨ k = 2 ∨ k = 3) with rfl | rfl | rfl | rfl
  · simp [ptD, w1]
    refine callW_of t0 (.inl rfl) ?_
    simp
    refine callW_of c0 (.inl rfl) ?_
    simp [e0]
    exact ⟨1, by omega, by omega, by simp [ptD, w1, mn2]⟩
  · simp [ptD, w2]
    refine callW_of t1 (.inl rfl) ?_
    simp
    refine callW_of c1 (.inl rfl) ?_
    simp [e1]
    exact ⟨2, by omega, by omega, by simp [ptD, w2, mn2]⟩
  · simp [ptD, w3]
    refine callW_of t2 (.inl rfl) ?_
    simp
    refine callW_of c2 (.inl rfl) ?_
    simp [e2]
    exact ⟨3, by omega, by omega, by simp [ptD, w3, mn2]⟩
  · simp
end Go.Gv

set_option linter.unusedSimpArgs false
namespace Go.Gv
def mnZ (m : Msh) (i : Nat) : Int := mn2 (mn2 (spA m i).z (spB m i).z) (spC m i).z
def mxZ (m : Msh) (i : Nat) : Int := mx2 (mx2 (spA m i).z (spB m i).z) (spC m i).z
variable {C : CC} (hC : Closed prog C)
include hC
end Go.Gv

set_option linter.unusedSimpArgs false
namespace Go.Gv
def crsF (a b c d : Pnt) : Int := if (apG a b c d && apG c d a b) = true then 2 else if (onG a b c || onG a b d || onG c d a || onG c d b) = true then 1 else 0
def cnr (m : Msh) (i k : Nat) : Pnt := if k = 0 then ptS (spA m i) else if k = 1 then ptS (spB m i) else ptS (spC m i)
def crsK (m : Msh) (i k : Nat) (a b : Pnt) : Int := crsF a b (cnr m i k) (cnr m i ((k + 1) % 3))
def meetB (m : Msh) (i : Nat) (a b : Pnt) : Bool := decide (osF m i a < 0) || decide (osF m i b < 0) || (List.range 3).any fun k => decide (0 < crsK m i k a b)
def facL (m : Msh) (a b : Pnt) : List Nat := (List.range m.f.length).filter fun i => meetB m i a b
theorem turn_0 (a b : Pnt) : turnP a b a = 0 ∧ turnP a b b = 0 := by unfold turnP; constructor <;> grind
theorem cnr_ne {m : Msh} (hv : validM m = true) {i : Nat} (hi : i < m.f.length) (k : Nat) (hk : k < 3) : cnr m i k ≠ cnr m i ((k + 1) % 3) := by
  have hd : 0 < denL m i := (valid_f hv hi).2
  unfold denL at hd
  intro e
  rcases (by omega : k = 0 ∨ k = 1 ∨ k = 2) with rfl | rfl | rfl
  · simp only [cnr] at e; simp at e; rw [e] at hd; have := (turn_0 (ptS (spB m i)) (ptS (spC m i))).1; unfold turnP at hd; simp at hd
  · simp only [cnr] at e; simp at e; rw [e] at hd; rw [(turn_0 _ _).2] at hd; omega
  · simp only [cnr] at e; simp at e; rw [e] at hd; rw [(turn_0 _ _).1] at hd; omega
theorem cnr_ok {m : Msh} (hv : validM m = true) {i : Nat} (hi : i < m.f.length) (k : Nat) : okP (cnr m i k) = true := by
  obtain ⟨h1, h2, h3⟩ := sp_okP hv hi
  unfold cnr
  split
  · exact h1
  · split
    · exact h2
    · exact h3
def atL (a b : Pnt) (n k : Nat) : Pnt := (a.1 + (b.1 - a.1) * k / n, a.2 + (b.2 - a.2) * k / n)
def ptsL (a b : Pnt) (n : Nat) : List Pnt := (List.range (n + 1)).map (atL a b n)
def lineE (a b : Pnt) : Int := if okP a = true ∧ okP b = true then (if a = b then 25 else 0) else 1
theorem atL_0 (a b : Pnt) (n : Nat) : atL a b n 0 = a := by simp [atL]
theorem atL_n (a b : Pnt) {n : Nat} (h : 0 < n) : atL a b n n = b := by
  unfold atL
  have h' : (n : Int) ≠ 0 := by omega
  rw [Int.mul_ediv_cancel _ h', Int.mul_ediv_cancel _ h']
  ext <;> simp <;> omega
theorem ediv_bd {x : Int} {n k : Nat} {B : Int} (hn : 0 < n) (hk : k ≤ n) (hB : -B ≤ x ∧ x ≤ B) : min 0 x ≤ x * k / n ∧ x * k / n ≤ max 0 x := by
  have hn' : (0 : Int) < n := by omega
  constructor
  · apply (Int.le_ediv_iff_mul_le hn').2
    rcases Int.le_total 0 x with h | h
    · have := Int.mul_nonneg h (show (0 : Int) ≤ k by omega)
      rw [Int.min_eq_left h]; omega
    · rw [Int.min_eq_right h]
      have := Int.mul_nonneg (show 0 ≤ -x by omega) (show (0 : Int) ≤ (n : Int) - k by omega)
      have e : -x * ((n : Int) - k) = x * k - x * n := by rw [Int.neg_mul, Int.mul_sub]; omega
      omega
  · rcases Int.le_total 0 x with h | h
    · rw [Int.max_eq_right h]
      exact Int.ediv_le_of_le_mul hn' (Int.mul_le_mul_of_nonneg_left (by omega) h)
    · rw [Int.max_eq_left h]
      refine Int.ediv_le_of_le_mul hn' ?_
      have := Int.mul_nonneg (show 0 ≤ -x by omega) (show (0 : Int) ≤ k by omega)
      have e : -x * (k : Int) = -(x * k) := Int.neg_mul _ _
      omega
theorem atL_ok {a b : Pnt} (ha : okP a = true) (hb : okP b = true) {n k : Nat} (hn : 0 < n) (hk : k ≤ n) : okP (atL a b n k) = true := by
  simp only [okP, Bool.and_eq_true, decide_eq_true_eq] at ha hb ⊢
  have h1 := ediv_bd (x := b.1 - a.1) (B := 33554432) hn hk (by omega)
  have h2 := ediv_bd (x := b.2 - a.2) (B := 33554432) hn hk (by omega)
  simp only [atL]
  omega
end Go.Gv

set_option linter.unusedSimpArgs false
namespace Go.Gv
def fqOk (q : Int × Int) : Prop := 0 < q.2 ∧ q.2 ≤ 1073741824 ∧ -1073741824 ≤ q.1 ∧ q.1 ≤ 1073741824 ∧ Nat.gcd q.1.natAbs q.2.natAbs = 1
instance (q : Int × Int) : Decidable (fqOk q) := by unfold fqOk; infer_instance
def mkFq (q : Int × Int) : Frq := if h : fqOk q then ⟨q, h⟩ else ⟨(0, 1), by decide⟩
theorem mkFq_val {q : Int × Int} (h : fqOk q) : (mkFq q).1 = q := by unfold mkFq; exact congrArg Subtype.val (dif_pos h)
def cdK (m : Msh) (a b : Pnt) (i k : Nat) : List (Int × Int) := if crsK m i k a b = 2 then [(turnP (cnr m i k) (cnr m i ((k + 1) % 3)) a, turnP (cnr m i k) (cnr m i ((k + 1) % 3)) b)] else []
def cdF (m : Msh) (a b : Pnt) (i k : Nat) : List (Int × Int) := (List.range k).flatMap (cdK m a b i)
def cdL (m : Msh) (a b : Pnt) (i : Nat) : List (Int × Int) := (List.range i).flatMap fun i => cdF m a b i 3
def cutOk (p : Int × Int) : Bool := decide (cutE p.1 (p.1 - p.2) = 0)
def fqs (l : List (Int × Int)) : List Frq := l.map fun p => mkFq (cutQ p.1 (p.1 - p.2))
def cutS (m : Msh) (a b : Pnt) : List Frq := canL fqC (fqs (cdL m a b m.f.length))
theorem cdF_zero (m : Msh) (a b : Pnt) (i : Nat) : cdF m a b i 0 = [] := rfl
theorem cdF_succ (m : Msh) (a b : Pnt) (i k : Nat) : cdF m a b i (k + 1) = cdF m a b i k ++ cdK m a b i k := by simp [cdF, List.range_succ]
theorem cdL_zero (m : Msh) (a b : Pnt) : cdL m a b 0 = [] := rfl
theorem cdL_succ (m : Msh) (a b : Pnt) (i : Nat) : cdL m a b (i + 1) = cdL m a b i ++ cdF m a b i 3 := by simp [cdL, List.range_succ]
theorem fqs_append (l l' : List (Int × Int)) : fqs (l ++ l') = fqs l ++ fqs l' := by simp [fqs]
theorem cdK_len (m : Msh) (a b : Pnt) (i k : Nat) : (cdK m a b i k).length ≤ 1 := by unfold cdK; split <;> simp
theorem cdF_len (m : Msh) (a b : Pnt) (i : Nat) : ∀ k, (cdF m a b i k).length ≤ k
  | 0 => by simp [cdF]
  | k + 1 => by rw [cdF_succ, List.length_append]; have := cdF_len m a b i k; have := cdK_len m a b i k; omega
theorem cdL_len (m : Msh) (a b : Pnt) : ∀ i, (cdL m a b i).length ≤ 3 * i
  | 0 => by simp [cdL]
  | i + 1 => by rw [cdL_succ, List.length_append]; have := cdL_len m a b i; have := cdF_len m a b i 3; omega
theorem crs_2 {a b c d : Pnt} (h : crsF a b c d = 2) : (turnP c d a < 0 ∧ 0 < turnP c d b) ∨ (0 < turnP c d a ∧ turnP c d b < 0) := by
  unfold crsF at h
  split at h
  · rename_i h1
    simp only [apG, Bool.and_eq_true, Bool.or_eq_true, decide_eq_true_eq] at h1
    exact h1.2
  · split at h <;> omega
theorem mem_sdL {m : Msh} {a b : Pnt} {n : Nat} {p : Int × Int} (h : p ∈ cdL m a b n) : ∃ i k, i < n ∧ k < 3 ∧ crsK m i k a b = 2 ∧ p = (turnP (cnr m i k) (cnr m i ((k + 1) % 3)) a, turnP (cnr m i k) (cnr m i ((k + 1) % 3)) b) := by
  simp only [cdL, List.mem_flatMap, List.mem_range, cdF] at h
  obtain ⟨i, hi, k, hk, h⟩ := h
  unfold cdK at h
  split at h
  · rename_i h2
    exact ⟨i, k, hi, hk, h2, by simpa using h⟩
  · simp at h
theorem cd_sign {m : Msh} {a b : Pnt} {n : Nat} {p : Int × Int} (h : p ∈ cdL m a b n) : (p.1 < 0 ∧ 0 < p.2) ∨ (0 < p.1 ∧ p.2 < 0) := by
  obtain ⟨i, k, _, _, h2, rfl⟩ := mem_sdL h
  exact crs_2 h2
theorem cd_err {m : Msh} {a b : Pnt} {n : Nat} {p : Int × Int} (h : p ∈ cdL m a b n) : cutE p.1 (p.1 - p.2) = 0 ∨ cutE p.1 (p.1 - p.2) = 5 := (cut_back (cd_sign h)).2.1
def omF (q : Frq) : Frq := mkFq (q.1.2 - q.1.1, q.1.2)
def unitF (q : Frq) : Prop := 0 ≤ q.1.1 ∧ q.1.1 ≤ q.1.2
end Go.Gv

set_option linter.unusedSimpArgs false
set_option maxRecDepth 4000
namespace Go.Gv
theorem edivJ {x q c : Int} (hc : 0 < c) (h1 : q * c ≤ x) (h2 : x < q * c + c) : x / c = q := by
  apply Int.le_antisymm
  · have := (Int.ediv_lt_iff_lt_mul hc (a := x) (b := q + 1)).2 (by rw [Int.add_mul]; omega)
    omega
  · exact (Int.le_ediv_iff_mul_le hc).2 h1
theorem tdivJ {x c : Int} (hc : 0 < c) : x / c = if x.tmod c < 0 then x.tdiv c - 1 else x.tdiv c := by
  have e := Int.mul_tdiv_add_tmod x c
  have e2 : c * x.tdiv c = x.tdiv c * c := Int.mul_comm _ _
  have l := Int.tmod_lt_of_pos x hc
  have g : -c < x.tmod c := by
    have := Int.tmod_lt_of_pos (-x) hc
    rw [Int.neg_tmod] at this
    omega
  split
  · exact edivJ hc (by rw [Int.sub_mul]; omega) (by rw [Int.sub_mul]; omega)
  · exact edivJ hc (by omega) (by omega)
theorem tdiv_bdJ {x c B : Int} (hc : 0 < c) (h : -B ≤ x ∧ x ≤ B) : -B ≤ x.tdiv c ∧ x.tdiv c ≤ B := by
  have e := Int.mul_tdiv_add_tmod x c
  rcases Int.le_total 0 x with h0 | h0
  · have h1 := Int.tdiv_nonneg h0 (Int.le_of_lt hc)
    have h2 : x.tdiv c ≤ x := Int.tdiv_le_self c h0
    omega
  · have h1 := Int.tdiv_nonneg (show 0 ≤ -x by omega) (Int.le_of_lt hc)
    have h2 : (-x).tdiv c ≤ -x := Int.tdiv_le_self c (by omega)
    rw [Int.neg_tdiv] at h1 h2
    omega
def lvlB (n : Int) : Bool := decide (-4194304 ≤ n) && decide (n ≤ 4194304)
def cntE (e : Int) (n : Int) (ls : List Int) : Int := if e = 0 then (if (1 ≤ n ∧ n ≤ 999) ∧ ls.all lvlB = true then 0 else 2) else e
def ptR (a b : Pnt) (n k : Nat) : List (List D) := (List.range k).map fun i => ptD (atL a b n i)
def ptE (a b : Pnt) (n k : Nat) : List (List D) := if k = 0 then List.replicate (n + 1) [.int .i64 0, .int .i64 0] else ptR a b n k
theorem ptR_len (a b : Pnt) (n k : Nat) : (ptR a b n k).length = k := by simp [ptR]
theorem ptE_take (a b : Pnt) (n k : Nat) : (ptE a b n k).take k = ptR a b n k := by
  unfold ptE
  split
  · rename_i h; subst h; simp [ptR]
  · exact List.take_of_length_le (by rw [ptR_len]; exact Nat.le_refl _)
theorem ptE_le (a b : Pnt) (n k : Nat) : k ≤ (ptE a b n k).length := by
  unfold ptE
  split
  · simp_all
  · rw [ptR_len]; exact Nat.le_refl _
theorem ptR_succ (a b : Pnt) (n k : Nat) : ptR a b n (k + 1) = ptR a b n k ++ [ptD (atL a b n k)] := by simp [ptR, List.range_succ]
theorem ptE_succ (a b : Pnt) (n k : Nat) : ptE a b n (k + 1) = ptR a b n k ++ [ptD (atL a b n k)] := by
  unfold ptE; rw [if_neg (by omega), ptR_succ]
theorem ptE_zero (a b : Pnt) (n : Nat) : ptE a b n 0 = List.replicate (n + 1) [.int .i64 0, .int .i64 0] := by simp [ptE]
theorem ptR_isC (a b : Pnt) (n k : Nat) : ∀ e ∈ ptR a b n k, e.length = 2 ∧ ∀ c ∈ e, isC1 c = true := by
  intro e he
  obtain ⟨i, _, rfl⟩ := List.mem_map.1 he
  simp [ptD]
theorem ptR_V (a b : Pnt) (n k : Nat) : (ptR a b n k).map (fun e => e.map cellV) = ptR a b n k := by
  unfold ptR
  rw [List.map_map]
  exact List.map_congr_left fun i _ => by simp [ptD]
theorem ptR_end (a b : Pnt) (n : Nat) : ptR a b n (n + 1) = (ptsL a b n).map fun x => ptD x := by simp [ptR, ptsL]
variable {C : CC} (hC : Closed prog C)
include hC
theorem tfloor_c (x : Int) (c : Int) (hc : 0 < c) (hx : -4611686018427387904 ≤ x ∧ x ≤ 4611686018427387904) : C 730 [.int .i64 x, .int .i64 c] (.int .i64 (x / c)) [] := by
  have hc0 : ¬ c = 0 := by omega
  have b := tdiv_bdJ hc hx
  have w1 : IntKind.wrap .i64 (x.tdiv c) = x.tdiv c := wrap_i64 rfl (by omega)
  have w2 : IntKind.wrap .i64 (x.tdiv c - 1) = x.tdiv c - 1 := wrap_i64 rfl (by omega)
  rw [tdivJ hc]
  refine start hC (nf := N730_transect_floor) rfl rfl ?_
  simp [N730_transect_floor, hc0, w1]
  by_cases h : x.tmod c < 0
  · simp [h, w2]
  · simp [h]
theorem tlevel1_c (n : Int) : C 740 [.int .i64 n] (.bool (!lvlB n)) [] := by
  refine start hC (nf := N740_transect_level_1) rfl rfl ?_
  simp [N740_transect_level_1, lvlB]
  by_cases h : n < -4194304
  · simp [h]
  · simp [h]
    rw [Bool.eq_iff_iff]
    simp
    omega
theorem tlevel_c (b : Bool) (ls : List Int) (hl : ls.length < 2 ^ 62) : C 729 [slx b (ls.map fun n => [.int .i64 n])] (.bool (ls.all lvlB)) [] := by
  have k := hasInt_c hC (b := b) (xs := ls) (g := 740) (cs := []) (fun n => !lvlB n) hl (fun x _ => tlevel1_c hC x)
  have e : (ls.any fun x => !lvlB x) = !ls.all lvlB := by rw [List.all_eq_not_any_not, Bool.not_not]
  rw [e] at k
  refine start hC (nf := N729_transect_level) rfl rfl ?_
  simp [N729_transect_level]
  refine callW_of k (.inl rfl) ?_
  simp
theorem line0_c (a b : Pnt) : C 708 [.nilp, .agg (ptD a), .agg (ptD b)] (.int .i64 (lineE a b)) [] := by
  have ka := pValid_c hC a
  have kb := pValid_c hC b
  simp only [ptD] at ka kb
  refine start hC (nf := N708_transect_line) rfl rfl ?_
  unfold lineE
  simp [N708_transect_line, ptD]
  refine callW_of ka (.inl rfl) ?_
  cases h1 : okP a
  · simp
  simp
  refine callW_of kb (.inl rfl) ?_
  cases h2 : okP b
  · simp
  simp
  by_cases h3 : a.1 = b.1
  · by_cases h4 : a.2 = b.2
    · simp [h3, h4, Prod.ext h3 h4]
    · have hne : ¬ a = b := fun e => h4 (by rw [e])
      simp [h3, h4, hne]
  · have hne : ¬ a = b := fun e => h3 (by rw [e])
    simp [h3, hne]
theorem count0_c (a b : Pnt) (n : Int) : C 703 [.nilp, .agg (ptD a), .agg (ptD b), .int .i64 n, .nils] (.int .i64 (cntE (lineE a b) n [])) [] := by
  have k1 := line0_c hC a b
  have k2 := tlevel_c hC true [] (by simp)
  simp only [ptD] at k1
  refine start hC (nf := N703_transect_counted) rfl rfl ?_
  unfold cntE
  simp [N703_transect_counted, ptD]
  refine callW_of k1 (.inl rfl) ?_
  clear k1
  generalize lineE a b = e
  simp
  by_cases h : e = 0
  · subst h
    simp
    by_cases h1 : n < 1
    · simp [h1, show ¬ 1 ≤ n by omega]
    · by_cases h2 : 999 < n
      · simp [h1, h2, show ¬ n ≤ 999 by omega]
      · simp [h1, h2, show 1 ≤ n by omega, show n ≤ 999 by omega]
        simp at k2
        refine callW_of k2 (.inl rfl) ?_
        simp
        omega
  · simp [h]
set_option maxHeartbeats 1000000 in
theorem tpoints_c (a b : Pnt) (ha : okP a = true) (hb : okP b = true) (n : Nat) (h1 : 1 ≤ n) (h2 : n ≤ 999) : C 704 [.agg (ptD a), .agg (ptD b), .int .i64 n] (.sl ((ptsL a b n).map fun x => ptD x)) [] := by
  have ba := okP_bd ha
  have bb := okP_bd hb
  have w0 : IntKind.wrap .i64 ((n : Int) + 1) = ((n + 1 : Nat) : Int) := wrap_i64 (by omega) (by omega)
  have w1 : IntKind.wrap .i64 (b.1 - a.1) = b.1 - a.1 := wrap_i64 rfl (by omega)
  have w2 : IntKind.wrap .i64 (b.2 - a.2) = b.2 - a.2 := wrap_i64 rfl (by omega)
  refine start hC (nf := N704_transect_points) rfl rfl ?_
  simp [N704_transect_points, ptD, w0]
  refine ⟨by omega, by omega, ?_⟩
  refine loop_of Nat (fun k => [(2, .int .i64 n), (3, .ptr (ptD a)), (4, .ptr (ptD b)), (7, .ref (.r 10112) 0 k), (10112, .blk 2 (ptE a b n k)), (13, .int .i64 ((n + 1 : Nat) : Int)), (14, .int .i64 k)]) (fun k => k ≤ n + 1) (fun k => n + 1 - k) 0 (by simp) (by simp [ptD, ptE_zero]) ?_
  intro k hk
  simp
  refine brB_of (fun h => ?_) (fun h => ?_) <;> simp at h
  · have hw : IntKind.wrap .i64 ((k : Int) + 1) = ((k + 1 : Nat) : Int) := wrap_i64 (by omega) (by omega)
    have hk' : k ≤ n := by omega
    have m1 := mul_bd (a := b.1 - a.1) (b := (k : Int)) (k := 33554432) (l := 999) (by omega) (by omega) (by omega) (by omega)
    have m2 := mul_bd (a := b.2 - a.2) (b := (k : Int)) (k := 33554432) (l := 999) (by omega) (by omega) (by omega) (by omega)
    have w3 : IntKind.wrap .i64 ((b.1 - a.1) * k) = (b.1 - a.1) * k := wrap_i64 rfl (by omega)
    have w4 : IntKind.wrap .i64 ((b.2 - a.2) * k) = (b.2 - a.2) * k := wrap_i64 rfl (by omega)
    have f1 := tfloor_c hC ((b.1 - a.1) * k) n (by omega) (by omega)
    have f2 := tfloor_c hC ((b.2 - a.2) * k) n (by omega) (by omega)
    have ho := okP_bd (atL_ok ha hb (show 0 < n by omega) hk')
    have w5 : IntKind.wrap .i64 (a.1 + (b.1 - a.1) * k / n) = (atL a b n k).1 := wrap_i64 rfl (by omega)
    have w6 : IntKind.wrap .i64 (a.2 + (b.2 - a.2) * k / n) = (atL a b n k).2 := wrap_i64 rfl (by omega)
    have hle := ptE_le a b n k
    have hss := ptE_succ a b n k
    have htk := ptE_take a b n k
    have hpc := ptR_isC a b n k
    simp [h, ptD, w1, w2, w3, w4]
    refine callW_of f1 (.inl rfl) ?_
    simp [w5, w2, w4]
    refine callW_of f2 (.inl rfl) ?_
    simp [w6]
    refine ⟨hle, by omega, indW_of (by decide +kernel), k + 1, by omega, by omega, rfl, ?_, hw⟩
    rw [htk, hss]; rfl
  · have ek : k = n + 1 := by omega
    subst ek
    simp [h]
    refine ⟨ptE_le a b n (n + 1), ?_⟩
    rw [← List.map_take, ptE_take, ptR_V, ptR_end]
    rfl
end Go.Gv

set_option linter.unusedSimpArgs false
set_option maxRecDepth 4000
namespace Go.Gv
def fqD (q : Frq) : List D := [.int .i64 q.1.1, .int .i64 q.1.2]
theorem mnE (x y : Int) : (if y < x then y else x) = min x y := by split <;> omega
theorem mxE (x y : Int) : (if x < y then y else x) = max x y := by split <;> omega
def mkE (n d : Int) : Int := if 1073741824 < n / Nat.gcd n.natAbs d.natAbs ∨ 1073741824 < d / Nat.gcd n.natAbs d.natAbs then 5 else 0
def mkQ (n d : Int) : Int × Int := if mkE n d = 0 then (n / Nat.gcd n.natAbs d.natAbs, d / Nat.gcd n.natAbs d.natAbs) else (0, 0)
variable {C : CC} (hC : Closed prog C)
include hC
theorem on_c {a b p : Pnt} (ha : okP a = true) (hb : okP b = true) (hp : okP p = true) : C 732 [.agg (ptD a), .agg (ptD b), .agg (ptD p)] (.bool (onG a b p)) [] := by
  have k := pturn_c hC ha hb hp
  simp only [ptD] at k
  refine start hC (nf := N732_plane_on) rfl rfl ?_
  simp [N732_plane_on, ptD]
  refine callW_of k (.inl rfl) ?_
  unfold onG
  by_cases h0 : turnP a b p = 0
  · simp [h0, mnE, mxE]
    by_cases h1 : min a.1 b.1 ≤ p.1
    · by_cases h2 : p.1 ≤ max a.1 b.1
      · by_cases h3 : min a.2 b.2 ≤ p.2
        · by_cases h4 : p.2 ≤ max a.2 b.2
          · simp [mnE, mxE, h0, h1, h2, h3, h4]
          · simp [mnE, mxE, h0, h1, h2, h3, h4]
        · simp [mnE, mxE, h0, h1, h2, h3]
      · simp [mnE, mxE, h0, h1, h2]
    · simp [mnE, mxE, h0, h1]
  · simp [h0]
theorem apart_c {a b p q : Pnt} (ha : okP a = true) (hb : okP b = true) (hp : okP p = true) (hq : okP q = true) : C 731 [.agg (ptD a), .agg (ptD b), .agg (ptD p), .agg (ptD q)] (.bool (apG a b p q)) [] := by
  have k1 := pturn_c hC ha hb hp
  have k2 := pturn_c hC ha hb hq
  simp only [ptD] at k1 k2
  refine start hC (nf := N731_plane_apart) rfl rfl ?_
  simp [N731_plane_apart, ptD]
  refine callW_of k1 (.inl rfl) ?_
  simp
  refine callW_of k2 (.inl rfl) ?_
  simp
  refine ⟨indW_of (by decide +kernel), ?_⟩
  unfold apG
  generalize turnP a b p = x
  generalize turnP a b q = y
  by_cases h1 : x < 0
  · by_cases h2 : 0 < y
    · simp [h1, h2]
    · simp [h1, h2, show ¬ 0 < x by omega]
  · by_cases h3 : 0 < x
    · simp [h1, h3]
    · simp [h1, h3]
set_option maxHeartbeats 1000000 in
theorem cross_c {a b c d : Pnt} (ha : okP a = true) (hb : okP b = true) (hc : okP c = true) (hd : okP d = true) (hab : a ≠ b) (hcd : c ≠ d) : C 711 [.agg (ptD a), .agg (ptD b), .agg (ptD c), .agg (ptD d)] (.tup [.int .i64 (crsF a b c d), .int .i64 0]) [] := by
  have ka := pall_c hC false [a, b, c, d] (by simp)
  have p1 := apart_c hC ha hb hc hd
  have p2 := apart_c hC hc hd ha hb
  have o1 := on_c hC ha hb hc
  have o2 := on_c hC ha hb hd
  have o3 := on_c hC hc hd ha
  have o4 := on_c hC hc hd hb
  have n1 : ¬ (a.1 = b.1 ∧ a.2 = b.2) := fun e => hab (Prod.ext e.1 e.2)
  have n2 : ¬ (c.1 = d.1 ∧ c.2 = d.2) := fun e => hcd (Prod.ext e.1 e.2)
  have n1' : (decide (a.1 = b.1) && decide (a.2 = b.2)) = false := by
    rw [Bool.eq_false_iff]; simp; exact fun e1 e2 => n1 ⟨e1, e2⟩
  have n2' : (decide (c.1 = d.1) && decide (c.2 = d.2)) = false := by
    rw [Bool.eq_false_iff]; simp; exact fun e1 e2 => n2 ⟨e1, e2⟩
  simp [ha, hb, hc, hd] at ka
  simp only [ptD] at ka p1 p2 o1 o2 o3 o4
  unfold crsF
  generalize apG a b c d = x1 at *
  generalize apG c d a b = x2 at *
  generalize onG a b c = y1 at *
  generalize onG a b d = y2 at *
  generalize onG c d a = y3 at *
  generalize onG c d b = y4 at *
  refine start hC (nf := N711_plane_Cross) rfl rfl ?_
  simp [N711_plane_Cross, ptD]
  refine callW_of ka (.inl rfl) ?_
  simp [n1', n2']
  refine callW_of p1 (.inl rfl) ?_
  cases x1
  · simp
    refine callW_of o1 (.inl rfl) ?_
    cases y1
    · simp
      refine callW_of o2 (.inl rfl) ?_
      cases y2
      · simp
        refine callW_of o3 (.inl rfl) ?_
        cases y3
        · simp
          refine callW_of o4 (.inl rfl) ?_
          cases y4 <;> simp
        · simp
      · simp
    · simp
  · simp
    refine callW_of p2 (.inl rfl) ?_
    cases x2
    · simp
      refine callW_of o1 (.inl rfl) ?_
      cases y1
      · simp
        refine callW_of o2 (.inl rfl) ?_
        cases y2
        · simp
          refine callW_of o3 (.inl rfl) ?_
          cases y3
          · simp
            refine callW_of o4 (.inl rfl) ?_
            cases y4 <;> simp
          · simp
        · simp
      · simp
    · simp
theorem common_c (a b : Nat) (ha : a < 18446744073709551616) (hb : b < 18446744073709551616) : C 738 [.int .u64 a, .int .u64 b] (.int .u64 ((Nat.gcd a b : Nat) : Int)) [] := by
  refine start hC (nf := N738_ratio_common) rfl rfl ?_
  simp [N738_ratio_common]
  refine loop_of (Nat × Nat) (fun s => [(0, .int .u64 s.1), (1, .int .u64 s.2)]) (fun s => s.1 < 18446744073709551616 ∧ s.2 < 18446744073709551616 ∧ Nat.gcd s.1 s.2 = Nat.gcd a b) (fun s => s.2) (a, b) ⟨ha, hb, rfl⟩ (by simp) ?_
  rintro ⟨x, y⟩ ⟨h1, h2, h3⟩
  simp only at h1 h2 h3
  simp
  by_cases hy : y = 0
  · subst hy
    rw [Nat.gcd_zero_right] at h3
    simp [h3]
  · have hm : (x : Int).tmod (y : Int) = ((x % y : Nat) : Int) := by rw [Int.tmod_eq_emod_of_nonneg (by omega)]; rfl
    simp [hy, hm]
    refine ⟨indW_of (by decide +kernel), y, x % y, ⟨h2, by have := Nat.mod_lt x (show 0 < y by omega); omega, ?_⟩, Nat.mod_lt x (by omega), rfl, rfl⟩
    rw [Nat.gcd_comm, ← Nat.gcd_rec, Nat.gcd_comm]; exact h3
theorem size_c (n : Int) (h : -4611686018427387904 ≤ n ∧ n ≤ 4611686018427387904) : C 739 [.int .i64 n] (.int .u64 (n.natAbs : Int)) [] := by
  refine start hC (nf := N739_ratio_size) rfl rfl ?_
  have e1 : IntKind.u64.signed = false := rfl
  have e3 : (2 ^ IntKind.u64.bits : Int) = 18446744073709551616 := rfl
  by_cases hn : n < 0
  · have w1 : IntKind.u64.wrap n = n + 18446744073709551616 := by
      unfold IntKind.wrap
      simp only [e1, e3, Bool.false_and]
      simp; omega
    have w2 : IntKind.u64.wrap (-(n + 18446744073709551616)) = -n := by
      unfold IntKind.wrap
      simp only [e1, e3, Bool.false_and]
      simp; omega
    have e : (n.natAbs : Int) = -n := by omega
    simp [N739_ratio_size, hn, w1, w2]
    omega
  · have w1 : IntKind.u64.wrap n = n := by
      unfold IntKind.wrap
      simp only [e1, e3, Bool.false_and]
      simp; omega
    simp [N739_ratio_size, hn, w1]
    omega
set_option maxHeartbeats 1000000 in
theorem make_c (n d : Int) (hn : 0 ≤ n ∧ n ≤ 4611686018427387904) (hd : 0 < d ∧ d ≤ 4611686018427387904) : C 733 [.int .i64 n, .int .i64 d] (.tup [.agg [.int .i64 (mkQ n d).1, .int .i64 (mkQ n d).2], .int .i64 (mkE n d)]) [] := by
  obtain ⟨a, rfl⟩ := Int.eq_ofNat_of_zero_le hn.1
  obtain ⟨b, rfl⟩ := Int.eq_ofNat_of_zero_le (show 0 ≤ d by omega)
  have k1 := size_c hC a (by omega)
  have k2 := size_c hC b (by omega)
  have k3 := common_c hC a b (by omega) (by omega)
  simp only [Int.natAbs_natCast] at k1 k2
  have g0 : 0 < Nat.gcd a b := Nat.gcd_pos_of_pos_right _ (by omega)
  have g0' : ¬ Nat.gcd a b = 0 := by omega
  have hd0 : ¬ b = 0 := by omega
  have gb : Nat.gcd a b ≤ b := Nat.le_of_dvd (by omega) (Nat.gcd_dvd_right _ _)
  have la := Nat.div_le_self a (Nat.gcd a b)
  have lb := Nat.div_le_self b (Nat.gcd a b)
  have t1 : (a : Int).tdiv ((Nat.gcd a b : Nat) : Int) = ((a / Nat.gcd a b : Nat) : Int) := by rw [Int.tdiv_eq_ediv_of_nonneg (by omega)]; rfl
  have t2 : (b : Int).tdiv ((Nat.gcd a b : Nat) : Int) = ((b / Nat.gcd a b : Nat) : Int) := by rw [Int.tdiv_eq_ediv_of_nonneg (by omega)]; rfl
  have q1 : (a : Int) / ((Nat.gcd a b : Nat) : Int) = ((a / Nat.gcd a b : Nat) : Int) := rfl
  have q2 : (b : Int) / ((Nat.gcd a b : Nat) : Int) = ((b / Nat.gcd a b : Nat) : Int) := rfl
  have hE : mkE (a : Int) b = if 1073741824 < ((a / Nat.gcd a b : Nat) : Int) ∨ 1073741824 < ((b / Nat.gcd a b : Nat) : Int) then 5 else 0 := by
    unfold mkE
    simp only [Int.natAbs_natCast, q1, q2]
  have hQ : mkQ (a : Int) b = if mkE (a : Int) b = 0 then (((a / Nat.gcd a b : Nat) : Int), ((b / Nat.gcd a b : Nat) : Int)) else (0, 0) := by
    unfold mkQ
    simp only [Int.natAbs_natCast, q1, q2]
  rw [hQ, hE]
  clear hQ hE q1 q2
  generalize a / Nat.gcd a b = x at *
  generalize b / Nat.gcd a b = y at *
  generalize Nat.gcd a b = g at *
  have e1 : IntKind.u64.signed = false := rfl
  have e3 : (2 ^ IntKind.u64.bits : Int) = 18446744073709551616 := rfl
  have w1 : IntKind.u64.wrap (x : Int) = x := by
    unfold IntKind.wrap
    simp only [e1, e3, Bool.false_and]
    simp; omega
  have w2 : IntKind.u64.wrap (y : Int) = y := by
    unfold IntKind.wrap
    simp only [e1, e3, Bool.false_and]
    simp; omega
  have w3 : IntKind.i64.wrap (x : Int) = x := wrap_i64 rfl (by omega)
  have w4 : IntKind.i64.wrap (y : Int) = y := wrap_i64 rfl (by omega)
  have na : ¬ (a : Int) < 0 := by omega
  have nb : ¬ (b : Int) < 0 := by omega
  refine start hC (nf := N733_ratio_Make) rfl rfl ?_
  simp [N733_ratio_Make, hd0]
  refine callW_of k1 (.inl rfl) ?_
  simp
  refine callW_of k2 (.inl rfl) ?_
  simp
  refine callW_of k3 (.inl rfl) ?_
  simp [g0', t1, t2, w1, w2]
  refine ⟨indW_of (by decide +kernel), ?_⟩
  by_cases c1 : 1073741824 < x
  · have c1' : (1073741824 : Int) < x := by omega
    simp [c1, c1']
  · have c1' : ¬ (1073741824 : Int) < x := by omega
    by_cases c2 : 1073741824 < y
    · have c2' : (1073741824 : Int) < y := by omega
      simp [c1, c1', c2, c2']
    · have c2' : ¬ (1073741824 : Int) < y := by omega
      simp [c1, c1', c2, c2', w3, w4, na, nb]
end Go.Gv

set_option linter.unusedSimpArgs false
set_option maxRecDepth 4000
namespace Go.Gv
def cor6 (m : Msh) (i : Nat) : List D := [.int .i64 (spA m i).x, .int .i64 (spA m i).y, .int .i64 (spB m i).x, .int .i64 (spB m i).y, .int .i64 (spC m i).x, .int .i64 (spC m i).y]
theorem cor6_eq (m : Msh) (i : Nat) : cor6 m i = [.int .i64 (spA m i).x, .int .i64 (spA m i).y, .int .i64 (spB m i).x, .int .i64 (spB m i).y, .int .i64 (spC m i).x, .int .i64 (spC m i).y] := _root_.id rfl
def facT (m : Msh) (a b : Pnt) (k : Nat) : List Nat := (List.range k).filter fun i => meetB m i a b
theorem facT_succ (m : Msh) (a b : Pnt) (k : Nat) : facT m a b (k + 1) = facT m a b k ++ (if meetB m k a b = true then [k] else []) := by
  unfold facT
  rw [List.range_succ, List.filter_append]
  congr 1
  by_cases h : meetB m k a b = true
  · simp [h]
  · simp [h]
theorem facT_len (m : Msh) (a b : Pnt) (k : Nat) : (facT m a b k).length ≤ k := by
  unfold facT
  have := List.length_filter_le (fun i => meetB m i a b) (List.range k)
  simpa using this
def facR (m : Msh) (a b : Pnt) (k : Nat) : List (List D) := (facT m a b k).map fun (i : Nat) => [D.int .i64 ((i : Nat) : Int)]
theorem facR_len (m : Msh) (a b : Pnt) (k : Nat) : (facR m a b k).length = (facT m a b k).length := by simp [facR]
theorem facR_isC (m : Msh) (a b : Pnt) (k : Nat) : ∀ e ∈ facR m a b k, e.length = 1 ∧ ∀ c ∈ e, isC1 c = true := by
  intro e he
  obtain ⟨i, _, rfl⟩ := List.mem_map.1 he
  simp
theorem facR_V (m : Msh) (a b : Pnt) (k : Nat) : (facR m a b k).map (fun e => e.map cellV) = facR m a b k := by
  unfold facR
  rw [List.map_map]
  exact List.map_congr_left fun i _ => by simp
def lineM (m : Msh) (a b : Pnt) : Int := if validM m = true then lineE a b else 1
variable {C : CC} (hC : Closed prog C)
include hC
set_option maxHeartbeats 1000000 in
theorem tcorners_c (m : Msh) (i : Nat) (hi : i < m.f.length) (h : inS m (fce m i) = true) : C 710 [.agg (mshC m), .agg (fceC (fce m i))] (.agg (cor6 m i)) [] := by
  obtain ⟨⟨a1, a2⟩, ⟨b1, b2⟩, ⟨c1, c2⟩⟩ := inS_bd h
  unfold cor6 spA spB spC spt
  generalize fce m i = f at *
  rw [getElem!_pos m.s _ a2, getElem!_pos m.s _ b2, getElem!_pos m.s _ c2]
  refine start hC (nf := N710_transect_corners) rfl rfl ?_
  simp [N710_transect_corners, mshC_eq, fceC_eq]
  refine loop_of Nat (fun k => [(2, .ptr [slx m.sn (m.s.map sptC), slx m.fn (m.f.map fceC)]), (4, .adr (.r 10064) 0 0), (5, .adr (.r 10080) 0 0), (14, .ref (.r 10224) 0 3), (15, .int .i64 3), (16, .int .i64 k), (10064, .blk 6 [[.int .i64 0, .int .i64 0, .int .i64 0, .int .i64 0, .int .i64 0, .int .i64 0]]),
    (10080, .blk 6 [([.int .i64 m.s[f.a.toNat].x, .int .i64 m.s[f.a.toNat].y, .int .i64 m.s[f.b.toNat].x, .int .i64 m.s[f.b.toNat].y, .int .i64 m.s[f.c.toNat].x, .int .i64 m.s[f.c.toNat].y] : List D).take (2 * k) ++ List.replicate (6 - 2 * k) (.int .i64 0)]), (10224, .blk 1 [[.int .i64 f.a], [.int .i64 f.b], [.int .i64 f.c]])]) (fun k => k ≤ 3) (fun k => 3 - k) 0 (by simp) (by simp [List.replicate]) ?_
  rintro k hk
  rcases (by omega : k = 0 ∨ k = 1 ∨ k = 2 ∨ k = 3) with rfl | rfl | rfl | rfl
  · have w : IntKind.wrap .i64 (1 : Int) = 1 := by decide
    simp [a1, a2, sptC_eq, w, List.replicate]
    refine ⟨indW_of (by decide +kernel), 1, ?_⟩
    simp [List.replicate]
  · have w : IntKind.wrap .i64 (2 : Int) = 2 := by decide
    simp [b1, b2, sptC_eq, w, List.replicate]
    refine ⟨indW_of (by decide +kernel), 2, ?_⟩
    simp [List.replicate]
  · have w : IntKind.wrap .i64 (3 : Int) = 3 := by decide
    simp [c1, c2, sptC_eq, w, List.replicate]
    refine ⟨indW_of (by decide +kernel), 3, ?_⟩
    simp [List.replicate]
  · simp [List.replicate]
theorem line1_c (dec : Nat → List UInt8) (hI : ∀ n : Nat, n < 100 → C 127 [.int .i64 n] (.str (dec n)) []) (m : Msh) (hz : smallM m = true → m.s.length ≤ 100 ∧ m.f.length ≤ 100) (a b : Pnt) : C 708 [.ptr (mshC m), .agg (ptD a), .agg (ptD b)] (.int .i64 (lineM m a b)) [] := by
  have ka := pValid_c hC a
  have kb := pValid_c hC b
  have km := mValid_c hC dec hI m hz
  simp only [ptD] at ka kb
  simp only [mshC_eq] at km
  refine start hC (nf := N708_transect_line) rfl rfl ?_
  unfold lineM lineE
  simp [N708_transect_line, ptD, mshC_eq]
  refine callW_of km (.inl rfl) ?_
  cases h0 : validM m
  · simp
  simp
  refine callW_of ka (.inl rfl) ?_
  cases h1 : okP a
  · simp
  simp
  refine callW_of kb (.inl rfl) ?_
  cases h2 : okP b
  · simp
  simp
  by_cases h3 : a.1 = b.1
  · by_cases h4 : a.2 = b.2
    · simp [h3, h4, Prod.ext h3 h4]
    · have hne : ¬ a = b := fun e => h4 (by rw [e])
      simp [h3, h4, hne]
  · have hne : ¬ a = b := fun e => h3 (by rw [e])
    simp [h3, hne]
set_option maxHeartbeats 2000000 in
theorem meets_c (m : Msh) (hv : validM m = true) (i : Nat) (hi : i < m.f.length) {a b : Pnt} (ha : okP a = true) (hb : okP b = true) (hab : a ≠ b) : C 709 [.agg (cor6 m i), .agg (ptD a), .agg (ptD b)] (.bool (meetB m i a b)) [] := by
  have i1 := pInside_c hC m hv i hi a ha
  have i2 := pInside_c hC m hv i hi b hb
  have k0 := cross_c hC ha hb (cnr_ok hv hi 0) (cnr_ok hv hi 1) hab (cnr_ne hv hi 0 (by omega))
  have k1 := cross_c hC ha hb (cnr_ok hv hi 1) (cnr_ok hv hi 2) hab (cnr_ne hv hi 1 (by omega))
  have k2 := cross_c hC ha hb (cnr_ok hv hi 2) (cnr_ok hv hi 0) hab (cnr_ne hv hi 2 (by omega))
  have e0 : crsF a b (cnr m i 0) (cnr m i 1) = crsK m i 0 a b := rfl
  have e1 : crsF a b (cnr m i 1) (cnr m i 2) = crsK m i 1 a b := rfl
  have e2 : crsF a b (cnr m i 2) (cnr m i 0) = crsK m i 2 a b := rfl
  rw [e0] at k0
  rw [e1] at k1
  rw [e2] at k2
  have c0 : cnr m i 0 = ptS (spA m i) := rfl
  have c1 : cnr m i 1 = ptS (spB m i) := rfl
  have c2 : cnr m i 2 = ptS (spC m i) := rfl
  rw [c0, c1] at k0
  rw [c1, c2] at k1
  rw [c2, c0] at k2
  have o1 := insF_on m i a
  have o2 := insF_on m i b
  obtain ⟨r, hr⟩ : ∃ r, r = meetB m i a b := ⟨_, rfl⟩
  rw [← hr]
  unfold meetB at hr
  rw [← o1, ← o2] at hr
  have hr' : r = (decide (0 ≤ insF m i a) || decide (0 ≤ insF m i b) || (decide (0 < crsK m i 0 a b) || decide (0 < crsK m i 1 a b) || decide (0 < crsK m i 2 a b))) := by
    rw [hr]; simp [List.range, List.range.loop, Bool.or_assoc]
  clear hr o1 o2 e0 e1 e2 c0 c1 c2
  generalize insF m i a = x at *
  generalize insF m i b = y at *
  generalize crsK m i 0 a b = z0 at *
  generalize crsK m i 1 a b = z1 at *
  generalize crsK m i 2 a b = z2 at *
  simp only [ptD, ptS] at i1 i2 k0 k1 k2
  have w1 : IntKind.wrap .i64 (1 : Int) = 1 := by decide
  have w2 : IntKind.wrap .i64 (2 : Int) = 2 := by decide
  have w3 : IntKind.wrap .i64 (3 : Int) = 3 := by decide
  refine start hC (nf := N709_transect_meets) rfl rfl ?_
  simp [N709_transect_meets, ptD, cor6_eq]
  refine loop_of Nat (fun k => [(3, .ptr (cor6 m i)), (4, .ptr (ptD a)), (5, .ptr (ptD b)), (16, .ref (.r 10256) 0 2), (17, .int .i64 2), (18, .int .i64 k), (10256, .blk 2 [ptD a, ptD b])]) (fun k => k ≤ 2 ∧ (0 < k → ¬ 0 ≤ x) ∧ (1 < k → ¬ 0 ≤ y)) (fun k => 2 - k) 0 (by simp) (by simp [cor6_eq, ptD]) ?_
  rintro k ⟨hk, g1, g2⟩
  rcases (by omega : k = 0 ∨ k = 1 ∨ k = 2) with rfl | rfl | rfl
  · simp [ptD, cor6_eq]
    refine callW_of i1 (.inl rfl) ?_
    simp
    refine brB_of (fun h1 => ?_) (fun h1 => ?_) <;> simp at h1
    · simp [hr', h1]
    · simp [w1, show ¬ 0 ≤ x by omega]
      exact ⟨1, by simp [cor6_eq, ptD]; try omega⟩
  · have gx := g1 (by omega)
    simp [ptD, cor6_eq]
    refine callW_of i2 (.inl rfl) ?_
    simp
    refine brB_of (fun h1 => ?_) (fun h1 => ?_) <;> simp at h1
    · simp [hr', h1]
    · simp [w2, show ¬ 0 ≤ y by omega]
      exact ⟨2, by simp [cor6_eq, ptD]; try omega⟩
  · have gx := g1 (by omega)
    have gy := g2 (by omega)
    simp
    refine loop_of Nat (fun k => [(3, .ptr (cor6 m i)), (4, .ptr (ptD a)), (5, .ptr (ptD b)), (40, .int .i64 k)]) (fun k => k ≤ 3 ∧ (0 < k → ¬ 0 < z0) ∧ (1 < k → ¬ 0 < z1) ∧ (2 < k → ¬ 0 < z2)) (fun k => 3 - k) 0 (by simp) (by simp [cor6_eq, ptD]) ?_
    rintro k ⟨hk, j0, j1, j2⟩
    rcases (by omega : k = 0 ∨ k = 1 ∨ k = 2 ∨ k = 3) with rfl | rfl | rfl | rfl
    · simp [ptD, cor6_eq, w1]
      refine callW_of k0 (.inl rfl) ?_
      simp
      refine ⟨indW_of (by decide +kernel), ?_⟩
      refine brB_of (fun h1 => ?_) (fun h1 => ?_) <;> simp at h1
      · simp [hr', h1]
      · simp [show ¬ 0 < z0 by omega, w1]
        exact ⟨1, by simp [cor6_eq, ptD]; try omega⟩
    · simp [ptD, cor6_eq, w2]
      refine callW_of k1 (.inl rfl) ?_
      simp
      refine ⟨indW_of (by decide +kernel), ?_⟩
      refine brB_of (fun h1 => ?_) (fun h1 => ?_) <;> simp at h1
      · simp [hr', h1]
      · simp [show ¬ 0 < z1 by omega, w2]
        exact ⟨2, by simp [cor6_eq, ptD]; try omega⟩
    · simp [ptD, cor6_eq, w3]
      refine callW_of k2 (.inl rfl) ?_
      simp
      refine ⟨indW_of (by decide +kernel), ?_⟩
      refine brB_of (fun h1 => ?_) (fun h1 => ?_) <;> simp at h1
      · simp [hr', h1]
      · simp [show ¬ 0 < z2 by omega, w3]
        exact ⟨3, by simp [cor6_eq, ptD]; try omega⟩
    · have h0 := j0 (by omega)
      have h1 := j1 (by omega)
      have h2 := j2 (by omega)
      simp [hr', gx, gy, h0, h1, h2]
end Go.Gv

set_option linter.unusedSimpArgs false
set_option maxRecDepth 4000
namespace Go.Gv
theorem cutE_pos {x z : Int} (h0 : ¬ z = 0) (h1 : ¬ z < 0) (h2 : ¬ x < 0) (h3 : ¬ z < x) : cutE x z = mkE x z ∧ cutQ x z = mkQ x z := by
  have e : cutE x z = mkE x z := by
    unfold cutE mkE cutN
    rw [if_neg h0, if_neg h1, if_neg (by simp only [not_or]; exact ⟨h2, h3⟩)]
  refine ⟨e, ?_⟩
  unfold cutQ mkQ
  rw [e]
  unfold cutN
  rw [if_neg h1]
theorem cutE_neg {x z : Int} (h0 : ¬ z = 0) (h1 : z < 0) (h2 : ¬ -x < 0) (h3 : ¬ -z < -x) : cutE x z = mkE (-x) (-z) ∧ cutQ x z = mkQ (-x) (-z) := by
  have e : cutE x z = mkE (-x) (-z) := by
    unfold cutE mkE cutN
    rw [if_neg h0, if_pos h1, if_neg (by simp only [not_or]; exact ⟨h2, h3⟩)]
  refine ⟨e, ?_⟩
  unfold cutQ mkQ
  rw [e]
  unfold cutN
  rw [if_pos h1]
theorem cutE_2 {x z : Int} (h0 : ¬ z = 0) (h : if z < 0 then -x < 0 ∨ -z < -x else x < 0 ∨ z < x) : cutE x z = 2 := by
  unfold cutE cutN
  rw [if_neg h0, if_pos]
  split at h <;> rename_i h1
  · rw [if_pos h1]; exact h
  · rw [if_neg h1]; exact h
theorem cutQ_e {x z : Int} (h : cutE x z ≠ 0) : cutQ x z = (0, 0) := by unfold cutQ; rw [if_neg h]
variable {C : CC} (hC : Closed prog C)
include hC
set_option maxHeartbeats 1000000 in
theorem cut_c {a b c d : Pnt} (ha : okP a = true) (hb : okP b = true) (hc : okP c = true) (hd : okP d = true) (hab : a ≠ b) (hcd : c ≠ d) : C 712 [.agg (ptD a), .agg (ptD b), .agg (ptD c), .agg (ptD d)] (.tup [.agg [.int .i64 (cutQ (turnP c d a) (turnP c d a - turnP c d b)).1, .int .i64 (cutQ (turnP c d a) (turnP c d a - turnP c d b)).2], .int .i64 (cutE (turnP c d a) (turnP c d a - turnP c d b))]) [] := by
  have ka := pall_c hC false [a, b, c, d] (by simp)
  have t1 := pturn_c hC hc hd ha
  have t2 := pturn_c hC hc hd hb
  have b1 := turnP_bd hc hd ha
  have b2 := turnP_bd hc hd hb
  have n1 : ¬ (a.1 = b.1 ∧ a.2 = b.2) := fun e => hab (Prod.ext e.1 e.2)
  have n2 : ¬ (c.1 = d.1 ∧ c.2 = d.2) := fun e => hcd (Prod.ext e.1 e.2)
  have n1' : (decide (a.1 = b.1) && decide (a.2 = b.2)) = false := by
    rw [Bool.eq_false_iff]; simp; exact fun e1 e2 => n1 ⟨e1, e2⟩
  have n2' : (decide (c.1 = d.1) && decide (c.2 = d.2)) = false := by
    rw [Bool.eq_false_iff]; simp; exact fun e1 e2 => n2 ⟨e1, e2⟩
  simp [ha, hb, hc, hd] at ka
  simp only [ptD] at ka t1 t2
  obtain ⟨x, hx⟩ : ∃ x, x = turnP c d a := ⟨_, rfl⟩
  obtain ⟨y, hy⟩ : ∃ y, y = turnP c d b := ⟨_, rfl⟩
  rw [← hx] at b1 t1 ⊢
  rw [← hy] at b2 t2 ⊢
  clear hx hy
  have km : ∀ n d : Int, 0 ≤ n ∧ n ≤ 4611686018427387904 → 0 < d ∧ d ≤ 4611686018427387904 → C 733 [.int .i64 n, .int .i64 d] (.tup [.agg [.int .i64 (mkQ n d).1, .int .i64 (mkQ n d).2], .int .i64 (mkE n d)]) [] := fun n d h1 h2 => make_c hC n d h1 h2
  have w : IntKind.wrap .i64 (x - y) = x - y := wrap_i64 rfl (by omega)
  have w1 : IntKind.wrap .i64 (-x) = -x := wrap_i64 rfl (by omega)
  have w2 : IntKind.wrap .i64 (-(x - y)) = -(x - y) := wrap_i64 rfl (by omega)
  refine start hC (nf := N712_plane_Cut) rfl rfl ?_
  simp [N712_plane_Cut, ptD]
  refine callW_of ka (.inl rfl) ?_
  simp [n1', n2']
  refine callW_of t1 (.inl rfl) ?_
  simp
  refine callW_of t2 (.inl rfl) ?_
  simp [w]
  obtain ⟨z, hz⟩ : ∃ z, z = x - y := ⟨_, rfl⟩
  rw [← hz] at w2 ⊢
  by_cases h0 : z = 0
  · have e : cutE x z = 16 := by unfold cutE; rw [if_pos h0]
    rw [e, cutQ_e (by rw [e]; decide)]
    simp [h0]
  by_cases h1 : z < 0
  · by_cases h2 : -x < 0
    · have e := cutE_2 (x := x) h0 (by rw [if_pos h1]; exact .inl h2)
      rw [e, cutQ_e (by rw [e]; decide)]
      simp [h0, h1, w1, w2, show 0 < x by omega]
    · by_cases h3 : -z < -x
      · have e := cutE_2 (x := x) h0 (by rw [if_pos h1]; exact .inr h3)
        rw [e, cutQ_e (by rw [e]; decide)]
        simp [h0, h1, w1, w2, show ¬ 0 < x by omega, show x < z by omega]
      · obtain ⟨e1, e2⟩ := cutE_neg h0 h1 h2 h3
        rw [e1, e2]
        simp [h0, h1, w1, w2, show ¬ 0 < x by omega, show ¬ x < z by omega]
        refine callW_of (km (-x) (-z) (by omega) (by omega)) (.inl rfl) ?_
        simp
  · by_cases h2 : x < 0
    · have e := cutE_2 (x := x) h0 (by rw [if_neg h1]; exact .inl h2)
      rw [e, cutQ_e (by rw [e]; decide)]
      simp [h0, h1, h2]
    · by_cases h3 : z < x
      · have e := cutE_2 (x := x) h0 (by rw [if_neg h1]; exact .inr h3)
        rw [e, cutQ_e (by rw [e]; decide)]
        simp [h0, h1, h2, h3]
      · obtain ⟨e1, e2⟩ := cutE_pos h0 h1 h2 h3
        rw [e1, e2]
        simp [h0, h1, h2, h3]
        refine callW_of (km x z (by omega) (by omega)) (.inl rfl) ?_
        simp
set_option maxHeartbeats 1000000 in
theorem tFaces_c (dec : Nat → List UInt8) (hI : ∀ n : Nat, n < 100 → C 127 [.int .i64 n] (.str (dec n)) []) (m : Msh) (hz : smallM m = true → m.s.length ≤ 100 ∧ m.f.length ≤ 100) (a b : Pnt) (h0 : lineM m a b = 0) : C 682 [.agg (mshC m), .agg (ptD a), .agg (ptD b)] (.tup [.sl (facR m a b m.f.length), .int .i64 0]) [] := by
  have kl := line1_c hC dec hI m hz a b
  rw [h0] at kl
  have hv : validM m = true := by
    unfold lineM at h0
    by_cases h : validM m = true
    · exact h
    · rw [if_neg h] at h0; cases h0
  have h1 : lineE a b = 0 := by unfold lineM at h0; rwa [if_pos hv] at h0
  have hab : okP a = true ∧ okP b = true ∧ a ≠ b := by
    unfold lineE at h1
    split at h1
    · rename_i h
      refine ⟨h.1, h.2, fun e => ?_⟩
      rw [if_pos e] at h1; cases h1
    · cases h1
  obtain ⟨oa, ob, hne⟩ := hab
  have hfl := (valid_small hv).2
  simp only [mshC_eq, ptD] at kl
  refine start hC (nf := N682_transect_Faces) rfl rfl ?_
  simp [N682_transect_Faces, ptD, mshC_eq]
  refine callW_of kl (.inl rfl) ?_
  obtain ⟨R, hR⟩ : ∃ R, R = facR m a b := ⟨_, rfl⟩
  have hR0 : R 0 = [] := by rw [hR]; rfl
  have hRl : ∀ i, (R i).length ≤ i := fun i => by rw [hR, facR_len]; exact facT_len m a b i
  have hRp : ∀ i, meetB m i a b = true → R (i + 1) = R i ++ [[.int .i64 (i : Int)]] := fun i h => by rw [hR]; unfold facR; rw [facT_succ, if_pos h]; simp
  have hRn : ∀ i, meetB m i a b = false → R (i + 1) = R i := fun i h => by rw [hR]; unfold facR; rw [facT_succ, if_neg (by simp [h])]; simp
  have hRv : ∀ i, (R i).map (fun e => e.map cellV) = R i := fun i => by rw [hR]; exact facR_V m a b i
  have hRc : ∀ i, ∀ e ∈ R i, e.length = 1 ∧ ∀ c ∈ e, isC1 c = true := fun i => by rw [hR]; exact facR_isC m a b i
  rw [← hR]
  simp
  refine loop_of Nat (fun i => [(3, .ptr (mshC m)), (4, .ptr (ptD a)), (5, .ptr (ptD b)), (9, .ref (.r 10144) 0 (R i).length), (19, slx m.fn (m.f.map fceC)), (20, .int .i64 m.f.length), (21, .int .i64 i), (10144, .blk 1 (R i))])
    (fun i => i ≤ m.f.length) (fun i => m.f.length - i) 0 (by simp) (by simp [mshC_eq, ptD, hR0]) ?_
  rintro i hi
  simp
  refine brB_of (fun h1 => ?_) (fun h1 => ?_) <;> simp at h1 <;> simp [h1]
  · have hw : IntKind.wrap .i64 ((i : Int) + 1) = ((i + 1 : Nat) : Int) := wrap_i64 (by omega) (by omega)
    have kc := tcorners_c hC m i h1 (valid_in hv h1)
    have km := meets_c hC m hv i h1 oa ob hne
    have hRi := hRl i
    simp only [mshC_eq, fceC_eq] at kc
    simp only [ptD] at km
    simp [mshC_eq, ptD, h1, fceC_eq]
    refine callW_of kc (.inr rfl) ?_
    simp [mshC_eq, ptD]
    refine callW_of km (.inl rfl) ?_
    cases hb : meetB m i a b
    · simp
      refine ⟨indW_of (by decide +kernel), ?_⟩
      simp [hw]
      exact ⟨i + 1, by omega, by omega, by simp [mshC_eq, ptD, hRn i hb]⟩
    · have hq := hRc i
      simp [hw]
      refine ⟨indW_of (by decide +kernel), ?_⟩
      exact ⟨by omega, i + 1, by omega, by omega, by simp [mshC_eq, ptD, hRp i hb]⟩
  · have : i = m.f.length := by omega
    subst this
    simp [hRv]
end Go.Gv

set_option linter.unusedSimpArgs false
set_option maxRecDepth 4000
namespace Go.Gv
def fqR (L : List Frq) : List (List D) := L.map fqD
theorem fqR_len (L : List Frq) : (fqR L).length = L.length := by simp [fqR]
theorem fqR_get {L : List Frq} {j : Nat} (h : j < L.length) : (fqR L)[j]? = some [.int .i64 L[j].1.1, .int .i64 L[j].1.2] := by simp [fqR, h, fqD]
theorem fqR_set {L : List Frq} {j : Nat} (x : Frq) : (fqR L).set j [.int .i64 x.1.1, .int .i64 x.1.2] = fqR (L.set j x) := by simp [fqR, fqD]
theorem fqR_take (L : List Frq) (k : Nat) : (fqR L).take k = fqR (L.take k) := by simp [fqR]
theorem fqD_isC (L : List Frq) : ∀ e ∈ fqR L, ∀ c ∈ e, isC1 c = true := by
  intro e he c hc
  obtain ⟨x, _, rfl⟩ := List.mem_map.1 he
  simp [fqD] at hc
  rcases hc with rfl | rfl <;> rfl
theorem fqD_isF (L : List Frq) : ∀ e ∈ fqR L, ∀ c ∈ e, isF1 c = true := by
  intro e he c hc
  obtain ⟨x, _, rfl⟩ := List.mem_map.1 he
  simp [fqD] at hc
  rcases hc with rfl | rfl <;> rfl
theorem fqD_len (L : List Frq) : ∀ e ∈ fqR L, e.length = 2 := by
  intro e he
  obtain ⟨x, _, rfl⟩ := List.mem_map.1 he
  rfl
def SrtQ (C : CC) : Prop := ∀ L : List Frq, L.length < 2 ^ 62 → (∀ x y : Frq, C 714 [.agg (fqD x), .agg (fqD y)] (.int .i64 (fqC x y)) []) → C 713 [.own 2 (fqR L), .fn 714 []] .any [.own 2 (fqR (srtL fqC L)), .nilp]
section
variable {α : Type} [DecidableEq α]
theorem ddJ_snoc : ∀ (l : List α) (x : α), ddL (l ++ [x]) = if l.getLast? = some x then ddL l else ddL l ++ [x]
  | [], x => by simp [ddL]
  | [y], x => by
    simp only [List.cons_append, List.nil_append, ddL_cons, List.getLast?_singleton, Option.some.injEq]
    by_cases e : y = x
    · rw [if_pos e, if_pos e]; subst e; rfl
    · rw [if_neg e, if_neg e]; rfl
  | y :: z :: r, x => by
    have ih := ddJ_snoc (z :: r) x
    have e0 : y :: z :: r ++ [x] = y :: z :: (r ++ [x]) := rfl
    have e1 : z :: r ++ [x] = z :: (r ++ [x]) := rfl
    have e2 : (y :: z :: r).getLast? = (z :: r).getLast? := rfl
    rw [e0, ddL_cons, ← e1, ih, e2, ddL_cons]
    by_cases e : y = z
    · rw [if_pos e, if_pos e]
    · rw [if_neg e, if_neg e]
      split
      · rfl
      · rfl
theorem ddJ_take (l : List α) {m : Nat} (hm : m < l.length) (h0 : 0 < m) : ddL (l.take (m + 1)) = if l[m - 1] = l[m] then ddL (l.take m) else ddL (l.take m) ++ [l[m]] := by
  have e : l.take (m + 1) = l.take m ++ [l[m]] := by rw [List.take_succ_eq_append_getElem hm]
  have e2 : (l.take m).getLast? = some l[m - 1] := by
    rw [List.getLast?_eq_getElem?]
    simp only [List.length_take, Nat.min_eq_left (Nat.le_of_lt hm)]
    rw [List.getElem?_take_of_lt (by omega), List.getElem?_eq_getElem (by omega)]
  rw [e, ddJ_snoc, e2]
  simp only [Option.some.injEq]
end
variable {C : CC} (hC : Closed prog C)
include hC
theorem rtValid_c (q : Frq) : C 722 [.agg (fqD q)] (.bool true) [] := by
  obtain ⟨h1, h2, h3, h4, h5⟩ := q.2
  have k1 := size_c hC q.1.1 (by omega)
  have wu : IntKind.u64.wrap q.1.2 = (q.1.2.natAbs : Int) := by
    have e1 : IntKind.u64.signed = false := rfl
    have e3 : (2 ^ IntKind.u64.bits : Int) = 18446744073709551616 := rfl
    unfold IntKind.wrap
    simp only [e1, e3, Bool.false_and]
    simp
    omega
  have k3 := common_c hC q.1.1.natAbs q.1.2.natAbs (by omega) (by omega)
  rw [h5] at k3
  refine start hC (nf := N722_ratio_Valid) rfl rfl ?_
  simp [N722_ratio_Valid, fqD, show 1 ≤ q.1.2 by omega, h2, h3, h4]
  refine callW_of k1 (.inl rfl) ?_
  simp
  rw [wu]
  refine callW_of k3 (.inl rfl) ?_
  simp
  exact indW_of (by decide +kernel)
theorem rtCmp_c (x y : Frq) : C 690 [.agg (fqD x), .agg (fqD y)] (.tup [.int .i64 (fqC x y), .int .i64 0]) [] := by
  obtain ⟨h1, h2, h3, h4, h5⟩ := x.2
  obtain ⟨g1, g2, g3, g4, g5⟩ := y.2
  have k1 := rtValid_c hC x
  have k2 := rtValid_c hC y
  simp only [fqD] at k1 k2
  have m1 : -1152921504606846976 ≤ x.1.1 * y.1.2 ∧ x.1.1 * y.1.2 ≤ 1152921504606846976 := by
    have a1 := Int.mul_le_mul_of_nonneg_right h4 (show 0 ≤ y.1.2 by omega)
    have a2 := Int.mul_le_mul_of_nonneg_right h3 (show 0 ≤ y.1.2 by omega)
    omega
  have m2 : -1152921504606846976 ≤ y.1.1 * x.1.2 ∧ y.1.1 * x.1.2 ≤ 1152921504606846976 := by
    have a1 := Int.mul_le_mul_of_nonneg_right g4 (show 0 ≤ x.1.2 by omega)
    have a2 := Int.mul_le_mul_of_nonneg_right g3 (show 0 ≤ x.1.2 by omega)
    omega
  unfold fqC
  generalize hu : x.1.1 * y.1.2 = u at *
  generalize hv : y.1.1 * x.1.2 = v at *
  have w1 : IntKind.wrap .i64 u = u := wrap_i64 rfl (by omega)
  have w2 : IntKind.wrap .i64 v = v := wrap_i64 rfl (by omega)
  have w3 : IntKind.wrap .i64 (u - v) = u - v := wrap_i64 rfl (by omega)
  refine start hC (nf := N690_ratio_Cmp) rfl rfl ?_
  simp [N690_ratio_Cmp, fqD]
  refine callW_of k1 (.inl rfl) ?_
  simp
  refine callW_of k2 (.inl rfl) ?_
  simp [hu, hv, w1, w2, w3]
  by_cases c1 : u < v
  · simp [c1, show u - v < 0 by omega]
  · by_cases c2 : v < u
    · simp [c1, c2, show ¬ u - v < 0 by omega, show 0 < u - v by omega]
    · simp [c1, c2, show ¬ u - v < 0 by omega, show ¬ 0 < u - v by omega]
theorem tCmp_c (x y : Frq) : C 714 [.agg (fqD x), .agg (fqD y)] (.int .i64 (fqC x y)) [] := by
  have k1 := rtCmp_c hC x y
  simp only [fqD] at k1
  refine start hC (nf := N714_transect_Cuts_1) rfl rfl ?_
  simp [N714_transect_Cuts_1, fqD]
  refine callW_of k1 (.inl rfl) ?_
  simp
set_option maxHeartbeats 1000000 in
theorem compQ_c (L : List Frq) (hl : L.length < 2 ^ 40) : C 715 [.own 2 (fqR L)] .any [.own 2 (fqR (ddL L)), .nils, .nils] := by
  refine startI hC (nf := N715_slices_Compact__api_Frac_api_Frac) rfl rfl (by simp) (by omega) ?_
  simp [N715_slices_Compact__api_Frac_api_Frac, fqR_len]
  refine brB_of (fun h => ?_) (fun h => ?_) <;> simp at h
  · simp [h, fqR_len]
    have e : ddL L = L := by
      match L, h with
      | [], _ => rfl
      | [x], _ => rfl
      | x :: y :: r, h => simp at h; omega
    rw [e]
    exact ⟨fqD_isF L, List.take_of_length_le (by rw [fqR_len]; exact Nat.le_refl _)⟩
  · simp [h]
    refine loop_of Nat (fun k => [(0, .ref (.r 10015) 0 L.length), (3, .int .i64 k), (10015, .blk 2 (fqR L))]) (fun k => 1 ≤ k ∧ k ≤ L.length ∧ ddL (L.take k) = L.take k) (fun k => L.length - k) 1 ⟨by omega, by omega, ?_⟩ (by simp) ?_
    · match L, h with
      | x :: r, h => simp [ddL]
    rintro k ⟨h1, h2, h3⟩
    simp
    refine brB_of (fun h4 => ?_) (fun h4 => ?_) <;> simp at h4
    · have hw : IntKind.wrap .i64 ((k : Int) - 1) = ((k - 1 : Nat) : Int) := by
        rw [show (k : Int) - 1 = ((k - 1 : Nat) : Int) by omega]
        exact wrap_i64 (by omega) (by omega)
      have hw2 : IntKind.wrap .i64 ((k : Int) + 1) = ((k + 1 : Nat) : Int) := wrap_i64 (by omega) (by omega)
      simp [h4, hw, rowW_some (fqR_get h4), rowW_some (fqR_get (show k - 1 < L.length by omega))]
      refine ⟨by omega, indW_of (by decide +kernel), ?_⟩
      have ht := ddJ_take L h4 (by omega)
      refine brB_of (fun h5 => ?_) (fun h5 => ?_)
      · have h6 : L[k - 1] = L[k] := by
          simp only [Bool.and_eq_true, decide_eq_true_eq] at h5
          exact Subtype.ext (Prod.ext h5.1.symm h5.2.symm)
        rw [if_pos h6, h3] at ht
        have h5' : (decide (L[k].1.1 = L[k - 1].1.1) && decide (L[k].1.2 = L[k - 1].1.2)) = true := h5
        rw [h5']
        clear h5 h5'
        simp [h4, h2, fqR_len]
        refine loop_of (Nat × Nat × List Frq) (fun s => [(0, .ref (.r 10015) 0 L.length), (3, .int .i64 s.2.1), (4, .ref (.r 10015) k (L.length - k)), (5, .int .i64 s.1), (10015, .blk 2 (fqR s.2.2))])
          (fun s => 1 ≤ s.1 ∧ s.1 + k ≤ L.length ∧ k ≤ s.2.1 ∧ s.2.1 + 1 ≤ k + s.1 ∧ s.2.2.length = L.length ∧ s.2.2.take s.2.1 = ddL (L.take (k + s.1)) ∧ ∀ j, k + s.1 ≤ j + 1 → s.2.2[j]? = L[j]?)
          (fun s => L.length - s.1) (1, k, L) ⟨by simp, by simp; omega, by simp, by simp, rfl, by simp [ht], by simp⟩ (by simp) ?_
        rintro ⟨j, q, W⟩ ⟨a1, a2, a3, a4, a5, a6, a7⟩
        simp only at a1 a2 a3 a4 a5 a6 a7
        simp
        refine brB_of (fun h7 => ?_) (fun h7 => ?_) <;> simp at h7
        · have hkj : k + j < L.length := by omega
          have w1 : W[k + j]? = L[k + j]? := a7 _ (by omega)
          have w2 : W[k + (j - 1)]? = L[k + (j - 1)]? := a7 _ (by omega)
          have g1 : (fqR W)[k + j]? = some [.int .i64 L[k + j].1.1, .int .i64 L[k + j].1.2] := by
            unfold fqR
            rw [List.getElem?_map, w1, List.getElem?_eq_getElem hkj]; rfl
          have g2 : (fqR W)[k + (j - 1)]? = some [.int .i64 L[k + (j - 1)].1.1, .int .i64 L[k + (j - 1)].1.2] := by
            unfold fqR
            rw [List.getElem?_map, w2, List.getElem?_eq_getElem (show k + (j - 1) < L.length by omega)]; rfl
          have hv : IntKind.wrap .i64 ((j : Int) - 1) = ((j - 1 : Nat) : Int) := wrap_i64 (by omega) (by omega)
          have hv2 : IntKind.wrap .i64 ((j : Int) + 1) = ((j + 1 : Nat) : Int) := wrap_i64 (by omega) (by omega)
          have hv3 : IntKind.wrap .i64 ((q : Int) + 1) = ((q + 1 : Nat) : Int) := wrap_i64 (by omega) (by omega)
          simp [h7, hv, rowW_some g1, rowW_some g2]
          refine ⟨by omega, indW_of (by decide +kernel), ?_⟩
          have ht2 := ddJ_take L hkj (by omega)
          refine brB_of (fun h8 => ?_) (fun h8 => ?_)
          · have hne : L[k + j - 1] ≠ L[k + j] := fun e => by
              have e2 : L[k + (j - 1)] = L[k + j] := by
                rw [← e]
                congr 1
                omega
              rw [e2] at h8
              simp at h8
            rw [if_neg hne] at ht2
            rw [h8]
            have hq : q < L.length := by omega
            have hqW : q < W.length := by omega
            have e9 : (fqR W)[q]'(by rw [fqR_len]; exact hqW) = [.int .i64 W[q].1.1, .int .i64 W[q].1.2] := (List.getElem?_eq_some_iff.1 (fqR_get hqW)).2
            simp [h7, hv, hv2, hv3, rowW_some g1, fqR_len, a5, hq, e9]
            refine ⟨j + 1, q + 1, W.set q L[k + j], ⟨by omega, by omega, by omega, by omega, by simp [a5], ?_, fun i hi => ?_⟩, by omega, by omega, by omega, fqR_set _⟩
            · rw [List.take_succ_eq_append_getElem (by simp; exact hqW), List.take_set_of_le (Nat.le_refl _), a6, show k + (j + 1) = k + j + 1 by omega, ht2]
              simp
            · rw [List.getElem?_set, if_neg (by omega)]
              exact a7 i (by omega)
          · have heq : L[k + j - 1] = L[k + j] := by
              have e2 : L[k + j] = L[k + (j - 1)] := by
                simp only [Bool.or_eq_false_iff, Bool.not_eq_false', decide_eq_true_eq] at h8
                exact Subtype.ext (Prod.ext h8.1 h8.2)
              rw [e2]
              congr 1
              omega
            rw [if_pos heq] at ht2
            rw [h8]
            simp [h7, hv2]
            exact ⟨j + 1, q, W, ⟨by omega, by omega, by omega, by omega, a5, by rw [a6, show k + (j + 1) = k + j + 1 by omega, ht2], fun i hi => a7 i (by omega)⟩, by omega, rfl, by omega, rfl⟩
        · have hj : k + j = L.length := by omega
          have a6' : W.take q = ddL L := by rw [a6, hj, List.take_length]
          have hq : q < L.length := by omega
          have hqW : q ≤ W.length := by omega
          simp [h7, fqR_len, a5]
          have hz : (zeroR (fqR W) q (L.length - q) [.int .i64 0, .int .i64 0]).length = L.length := by rw [zeroR_len (by rw [fqR_len]; omega), fqR_len, a5]
          refine ⟨by omega, by omega, fqD_isC W, by omega, fqD_isF _, by omega, ?_⟩
          unfold zeroR
          rw [List.append_assoc, List.take_append_of_le_length (by simp [fqR_len]; omega), List.take_take, Nat.min_self, fqR_take, a6']
      · have h6 : L[k - 1] ≠ L[k] := fun e => by
          rw [e] at h5
          simp at h5
        rw [if_neg h6, h3] at ht
        rw [h5]
        simp [h4, hw2]
        exact ⟨k + 1, by refine ⟨by omega, by omega, ?_⟩; rw [ht, List.take_succ_eq_append_getElem h4], by omega, rfl⟩
    · have ek : k = L.length := by omega
      subst ek
      rw [List.take_length] at h3
      simp [h3, fqR_len]
      exact ⟨fqD_isF L, List.take_of_length_le (by rw [fqR_len]; exact Nat.le_refl _)⟩
end Go.Gv

set_option linter.unusedSimpArgs false
set_option maxRecDepth 4000
namespace Go.Gv
def prK (m : Msh) (a b : Pnt) (i k : Nat) : Int × Int := (turnP (cnr m i k) (cnr m i ((k + 1) % 3)) a, turnP (cnr m i k) (cnr m i ((k + 1) % 3)) b)
theorem cdK_two {m : Msh} {a b : Pnt} {i k : Nat} (h : crsK m i k a b = 2) : cdK m a b i k = [prK m a b i k] := by unfold cdK; rw [if_pos h]; rfl
theorem cdK_not {m : Msh} {a b : Pnt} {i k : Nat} (h : ¬ crsK m i k a b = 2) : cdK m a b i k = [] := by unfold cdK; rw [if_neg h]
theorem prK_mem {m : Msh} {a b : Pnt} {i k n : Nat} (h : crsK m i k a b = 2) (hi : i < n) (hk : k < 3) : prK m a b i k ∈ cdL m a b n :=
  List.mem_flatMap.2 ⟨i, List.mem_range.2 hi, List.mem_flatMap.2 ⟨k, List.mem_range.2 hk, by rw [cdK_two h]; simp⟩⟩
def cdP (m : Msh) (a b : Pnt) (i k : Nat) : List (Int × Int) := cdL m a b i ++ cdF m a b i k
theorem cdP_zero (m : Msh) (a b : Pnt) (i : Nat) : cdP m a b i 0 = cdL m a b i := by simp [cdP, cdF_zero]
theorem cdP_three (m : Msh) (a b : Pnt) (i : Nat) : cdP m a b i 3 = cdL m a b (i + 1) := (cdL_succ m a b i).symm
theorem cdP_not {m : Msh} {a b : Pnt} {i k : Nat} (h : ¬ crsK m i k a b = 2) : cdP m a b i (k + 1) = cdP m a b i k := by unfold cdP; rw [cdF_succ, cdK_not h, List.append_nil]
theorem cdP_two {m : Msh} {a b : Pnt} {i k : Nat} (h : crsK m i k a b = 2) : cdP m a b i (k + 1) = cdP m a b i k ++ [prK m a b i k] := by unfold cdP; rw [cdF_succ, cdK_two h, List.append_assoc]
theorem cdP_len (m : Msh) (a b : Pnt) (i k : Nat) : (cdP m a b i k).length ≤ 3 * i + k := by
  have h1 := cdL_len m a b i
  have h2 := cdF_len m a b i k
  unfold cdP
  rw [List.length_append]
  omega
def fqP (m : Msh) (a b : Pnt) (i k : Nat) : List (List D) := fqR (fqs (cdP m a b i k))
theorem fqP_len (m : Msh) (a b : Pnt) (i k : Nat) : (fqP m a b i k).length = (cdP m a b i k).length := by simp [fqP, fqR, fqs]
theorem fqP_two {m : Msh} {a b : Pnt} {i k : Nat} (h : crsK m i k a b = 2) (hc : cutE (prK m a b i k).1 ((prK m a b i k).1 - (prK m a b i k).2) = 0) : fqP m a b i (k + 1) = fqP m a b i k ++ [[.int .i64 (cutQ (prK m a b i k).1 ((prK m a b i k).1 - (prK m a b i k).2)).1, .int .i64 (cutQ (prK m a b i k).1 ((prK m a b i k).1 - (prK m a b i k).2)).2]] := by
  unfold fqP
  rw [cdP_two h, fqs_append]
  have e : (mkFq (cutQ (prK m a b i k).1 ((prK m a b i k).1 - (prK m a b i k).2))).1 = cutQ (prK m a b i k).1 ((prK m a b i k).1 - (prK m a b i k).2) := mkFq_val (cut_ok hc).1
  simp [fqR, fqs, fqD, e]
theorem fqR_V (L : List Frq) : (fqR L).map (fun e => e.map cellV) = fqR L := by
  unfold fqR
  rw [List.map_map]
  exact List.map_congr_left fun x _ => by simp [fqD]
def allK (l : List (Int × Int)) : Bool := l.all cutOk
theorem fqP_three (m : Msh) (a b : Pnt) (i : Nat) : fqP m a b i 3 = fqP m a b (i + 1) 0 := by unfold fqP; rw [cdP_three, cdP_zero]
def cutsD (m : Msh) (a b : Pnt) : D := if (cdL m a b m.f.length).all cutOk = true then .sl (fqR (cutS m a b)) else .nils
def cutsE (m : Msh) (a b : Pnt) : Int := if (cdL m a b m.f.length).all cutOk = true then 0 else 5
variable {C : CC} (hC : Closed prog C)
include hC
set_option maxHeartbeats 4000000 in
theorem tCuts_c (hS : SrtQ C) (dec : Nat → List UInt8) (hI : ∀ n : Nat, n < 100 → C 127 [.int .i64 n] (.str (dec n)) []) (m : Msh) (hz : smallM m = true → m.s.length ≤ 100 ∧ m.f.length ≤ 100) (a b : Pnt) (h0 : lineM m a b = 0) : C 683 [.agg (mshC m), .agg (ptD a), .agg (ptD b)] (.tup [cutsD m a b, .int .i64 (cutsE m a b)]) [] := by
  have kl := line1_c hC dec hI m hz a b
  rw [h0] at kl
  have hv : validM m = true := by
    unfold lineM at h0
    by_cases h : validM m = true
    · exact h
    · rw [if_neg h] at h0; cases h0
  have h1 : lineE a b = 0 := by unfold lineM at h0; rwa [if_pos hv] at h0
  have hab : okP a = true ∧ okP b = true ∧ a ≠ b := by
    unfold lineE at h1
    split at h1
    · rename_i h
      refine ⟨h.1, h.2, fun e => ?_⟩
      rw [if_pos e] at h1; cases h1
    · cases h1
  obtain ⟨oa, ob, hne⟩ := hab
  have hfl := (valid_small hv).2
  simp only [mshC_eq, ptD] at kl
  have hgood : (cdL m a b m.f.length).all cutOk = true → cutsD m a b = .sl (fqR (cutS m a b)) ∧ cutsE m a b = 0 := fun h => ⟨by unfold cutsD; rw [if_pos h], by unfold cutsE; rw [if_pos h]⟩
  have hbad : ∀ i k, crsK m i k a b = 2 → i < m.f.length → k < 3 → ¬ cutE (prK m a b i k).1 ((prK m a b i k).1 - (prK m a b i k).2) = 0 → cutsD m a b = .nils ∧ cutsE m a b = 5 ∧ cutE (prK m a b i k).1 ((prK m a b i k).1 - (prK m a b i k).2) = 5 := fun i k h hi hk hc => by
    have hm := prK_mem h hi hk
    have hn : ¬ (cdL m a b m.f.length).all cutOk = true := fun h2 => by
      have := List.all_eq_true.1 h2 _ hm
      unfold cutOk at this
      exact hc (of_decide_eq_true this)
    exact ⟨by unfold cutsD; rw [if_neg hn], by unfold cutsE; rw [if_neg hn], (cd_err hm).resolve_left hc⟩
  obtain ⟨d1, hd1⟩ : ∃ d1, d1 = cutsD m a b := ⟨_, rfl⟩
  obtain ⟨e1, he1⟩ : ∃ e1, e1 = cutsE m a b := ⟨_, rfl⟩
  rw [← hd1] at hgood hbad
  rw [← he1] at hgood hbad
  rw [← hd1, ← he1]
  clear hd1 he1
  have w1 : IntKind.wrap .i64 (1 : Int) = 1 := by decide
  have w2 : IntKind.wrap .i64 (2 : Int) = 2 := by decide
  have w3 : IntKind.wrap .i64 (3 : Int) = 3 := by decide
  refine start hC (nf := N683_transect_Cuts) rfl rfl ?_
  simp [N683_transect_Cuts, ptD, mshC_eq]
  refine callW_of kl (.inl rfl) ?_
  simp
  refine loop_of Nat (fun i => [(3, .ptr (mshC m)), (4, .ptr (ptD a)), (5, .ptr (ptD b)), (9, .ref (.r 10144) 0 (fqP m a b i 0).length), (27, slx m.fn (m.f.map fceC)), (28, .int .i64 m.f.length), (29, .int .i64 i), (10144, .blk 2 (fqP m a b i 0))])
    (fun i => i ≤ m.f.length ∧ allK (cdL m a b i) = true) (fun i => m.f.length - i) 0 (by simp [cdL_zero, allK]) (by simp [mshC_eq, ptD, fqP, cdP_zero, cdL_zero, fqs, fqR]) ?_
  rintro i ⟨hi, hall⟩
  simp
  refine brB_of (fun h1 => ?_) (fun h1 => ?_) <;> simp at h1 <;> simp [h1]
  · have hw : IntKind.wrap .i64 ((i : Int) + 1) = ((i + 1 : Nat) : Int) := wrap_i64 (by omega) (by omega)
    have kc := tcorners_c hC m i h1 (valid_in hv h1)
    simp only [mshC_eq, fceC_eq] at kc
    simp [mshC_eq, ptD, h1, fceC_eq]
    refine callW_of kc (.inr rfl) ?_
    simp [cor6_eq]
    refine loop_of Nat (fun k => [(3, .ptr (mshC m)), (4, .ptr (ptD a)), (5, .ptr (ptD b)), (9, .ref (.r 10144) 0 (fqP m a b i k).length), (12, .adr (.r 10192) 0 0), (27, slx m.fn (m.f.map fceC)), (28, .int .i64 m.f.length), (29, .int .i64 i), (36, .int .i64 k), (10144, .blk 2 (fqP m a b i k)), (10192, .blk 6 [cor6 m i])])
      (fun k => k ≤ 3 ∧ allK (cdP m a b i k) = true) (fun k => 3 - k) 0 (by simp [cdP_zero, hall]) (by simp [mshC_eq, ptD, cor6_eq]) ?_
    rintro k ⟨hk, hallk⟩
    rcases (by omega : k = 0 ∨ k = 1 ∨ k = 2 ∨ k = 3) with rfl | rfl | rfl | rfl
    · have kx := cross_c hC oa ob (cnr_ok hv h1 0) (cnr_ok hv h1 1) hne (cnr_ne hv h1 0 (by omega))
      have kt := cut_c hC oa ob (cnr_ok hv h1 0) (cnr_ok hv h1 1) hne (cnr_ne hv h1 0 (by omega))
      have e0 : crsF a b (cnr m i 0) (cnr m i 1) = crsK m i 0 a b := rfl
      have e3 : turnP (cnr m i 0) (cnr m i 1) a = (prK m a b i 0).1 := rfl
      have e4 : turnP (cnr m i 0) (cnr m i 1) b = (prK m a b i 0).2 := rfl
      have c0 : cnr m i 0 = ptS (spA m i) := rfl
      have c1 : cnr m i 1 = ptS (spB m i) := rfl
      rw [e0] at kx
      rw [e3, e4] at kt
      rw [c0, c1] at kx kt
      simp only [ptD, ptS] at kx kt
      have hlen := cdP_len m a b i 0
      have hq2 := fqP_two (m := m) (a := a) (b := b) (i := i) (k := 0)
      have hp2 := cdP_two (m := m) (a := a) (b := b) (i := i) (k := 0)
      have hpn := cdP_not (m := m) (a := a) (b := b) (i := i) (k := 0)
      have hb0 := hbad i 0
      simp [ptD, cor6_eq, w1]
      refine ⟨indW_of (by decide +kernel), ?_⟩
      generalize crsK m i 0 a b = z at *
      generalize hqq : prK m a b i 0 = pr at *
      refine callW_of kx (.inl rfl) ?_
      by_cases hz2 : z = 2
      · simp [hz2]
        refine callW_of kt (.inl rfl) ?_
        by_cases hc0 : cutE pr.1 (pr.1 - pr.2) = 0
        · have hcc := cut_ok hc0
          simp [hc0, w1]
          refine ⟨by rw [fqP_len]; omega, 1, ⟨by omega, ?_⟩, by omega, ?_⟩
          · rw [hp2 hz2]
            unfold allK at hallk ⊢
            rw [List.all_append, hallk]
            simp [cutOk, hc0]
          · simp [ptD, mshC_eq, cor6_eq, hq2 hz2 hc0]
        · obtain ⟨b1, b2, b3⟩ := hb0 hz2 h1 (by omega) hc0
          simp [hc0, b1, b2, b3]
      · simp [hz2, w1]
        refine ⟨1, ⟨by omega, ?_⟩, by omega, ?_⟩
        · rw [hpn hz2]; exact hallk
        · have hq : fqP m a b i (0 + 1) = fqP m a b i 0 := by unfold fqP; rw [hpn hz2]
          simp [ptD, mshC_eq, cor6_eq, hq]
    · have kx := cross_c hC oa ob (cnr_ok hv h1 1) (cnr_ok hv h1 2) hne (cnr_ne hv h1 1 (by omega))
      have kt := cut_c hC oa ob (cnr_ok hv h1 1) (cnr_ok hv h1 2) hne (cnr_ne hv h1 1 (by omega))
      have e0 : crsF a b (cnr m i 1) (cnr m i 2) = crsK m i 1 a b := rfl
      have e3 : turnP (cnr m i 1) (cnr m i 2) a = (prK m a b i 1).1 := rfl
      have e4 : turnP (cnr m i 1) (cnr m i 2) b = (prK m a b i 1).2 := rfl
      have c0 : cnr m i 1 = ptS (spB m i) := rfl
      have c1 : cnr m i 2 = ptS (spC m i) := rfl
      rw [e0] at kx
      rw [e3, e4] at kt
      rw [c0, c1] at kx kt
      simp only [ptD, ptS] at kx kt
      have hlen := cdP_len m a b i 1
      have hq2 := fqP_two (m := m) (a := a) (b := b) (i := i) (k := 1)
      have hp2 := cdP_two (m := m) (a := a) (b := b) (i := i) (k := 1)
      have hpn := cdP_not (m := m) (a := a) (b := b) (i := i) (k := 1)
      have hb0 := hbad i 1
      simp [ptD, cor6_eq, w2]
      refine ⟨indW_of (by decide +kernel), ?_⟩
      generalize crsK m i 1 a b = z at *
      generalize hqq : prK m a b i 1 = pr at *
      refine callW_of kx (.inl rfl) ?_
      by_cases hz2 : z = 2
      · simp [hz2]
        refine callW_of kt (.inl rfl) ?_
        by_cases hc0 : cutE pr.1 (pr.1 - pr.2) = 0
        · have hcc := cut_ok hc0
          simp [hc0, w2]
          refine ⟨by rw [fqP_len]; omega, 2, ⟨by omega, ?_⟩, by omega, ?_⟩
          · rw [hp2 hz2]
            unfold allK at hallk ⊢
            rw [List.all_append, hallk]
            simp [cutOk, hc0]
          · simp [ptD, mshC_eq, cor6_eq, hq2 hz2 hc0]
        · obtain ⟨b1, b2, b3⟩ := hb0 hz2 h1 (by omega) hc0
          simp [hc0, b1, b2, b3]
      · simp [hz2, w2]
        refine ⟨2, ⟨by omega, ?_⟩, by omega, ?_⟩
        · rw [hpn hz2]; exact hallk
        · have hq : fqP m a b i (1 + 1) = fqP m a b i 1 := by unfold fqP; rw [hpn hz2]
          simp [ptD, mshC_eq, cor6_eq, hq]
    · have kx := cross_c hC oa ob (cnr_ok hv h1 2) (cnr_ok hv h1 0) hne (cnr_ne hv h1 2 (by omega))
      have kt := cut_c hC oa ob (cnr_ok hv h1 2) (cnr_ok hv h1 0) hne (cnr_ne hv h1 2 (by omega))
      have e0 : crsF a b (cnr m i 2) (cnr m i 0) = crsK m i 2 a b := rfl
      have e3 : turnP (cnr m i 2) (cnr m i 0) a = (prK m a b i 2).1 := rfl
      have e4 : turnP (cnr m i 2) (cnr m i 0) b = (prK m a b i 2).2 := rfl
      have c0 : cnr m i 2 = ptS (spC m i) := rfl
      have c1 : cnr m i 0 = ptS (spA m i) := rfl
      rw [e0] at kx
      rw [e3, e4] at kt
      rw [c0, c1] at kx kt
      simp only [ptD, ptS] at kx kt
      have hlen := cdP_len m a b i 2
      have hq2 := fqP_two (m := m) (a := a) (b := b) (i := i) (k := 2)
      have hp2 := cdP_two (m := m) (a := a) (b := b) (i := i) (k := 2)
      have hpn := cdP_not (m := m) (a := a) (b := b) (i := i) (k := 2)
      have hb0 := hbad i 2
      simp [ptD, cor6_eq, w3]
      refine ⟨indW_of (by decide +kernel), ?_⟩
      generalize crsK m i 2 a b = z at *
      generalize hqq : prK m a b i 2 = pr at *
      refine callW_of kx (.inl rfl) ?_
      by_cases hz2 : z = 2
      · simp [hz2]
        refine callW_of kt (.inl rfl) ?_
        by_cases hc0 : cutE pr.1 (pr.1 - pr.2) = 0
        · have hcc := cut_ok hc0
          simp [hc0, w3]
          refine ⟨by rw [fqP_len]; omega, 3, ⟨by omega, ?_⟩, by omega, ?_⟩
          · rw [hp2 hz2]
            unfold allK at hallk ⊢
            rw [List.all_append, hallk]
            simp [cutOk, hc0]
          · simp [ptD, mshC_eq, cor6_eq, hq2 hz2 hc0]
        · obtain ⟨b1, b2, b3⟩ := hb0 hz2 h1 (by omega) hc0
          simp [hc0, b1, b2, b3]
      · simp [hz2, w3]
        refine ⟨3, ⟨by omega, ?_⟩, by omega, ?_⟩
        · rw [hpn hz2]; exact hallk
        · have hq : fqP m a b i (2 + 1) = fqP m a b i 2 := by unfold fqP; rw [hpn hz2]
          simp [ptD, mshC_eq, cor6_eq, hq]
    · rw [cdP_three] at hallk
      simp [hw]
      exact ⟨i + 1, ⟨by omega, hallk⟩, by omega, by simp [mshC_eq, ptD, fqP_three]⟩
  · have : i = m.f.length := by omega
    subst this
    obtain ⟨g1, g2⟩ := hgood hall
    have k1 := hS (fqs (cdL m a b m.f.length)) (by have := cdL_len m a b m.f.length; simp [fqs]; omega) (tCmp_c hC)
    have k2 := compQ_c hC (srtL fqC (fqs (cdL m a b m.f.length))) (by rw [srtL_len]; have := cdL_len m a b m.f.length; simp [fqs]; omega)
    have e0 : fqP m a b m.f.length 0 = fqR (fqs (cdL m a b m.f.length)) := by unfold fqP; rw [cdP_zero]
    have e2 : cutS m a b = ddL (srtL fqC (fqs (cdL m a b m.f.length))) := rfl
    rw [e0, g1, g2, e2]
    generalize fqs (cdL m a b m.f.length) = L at *
    simp [fqR_len]
    refine ⟨fqD_isC L, ?_⟩
    refine callUW_of k1 (.inl rfl) (by simp [fqR_len, srtL_len]) (fun e he => ⟨fqD_len _ e he, fqD_isC _ e he⟩) ?_
    simp [fqR_len, srtL_len]
    have e : List.take L.length (fqR (srtL fqC L)) = fqR (srtL fqC L) := List.take_of_length_le (by rw [fqR_len, srtL_len]; exact Nat.le_refl _)
    rw [e]
    refine ⟨fqD_isF _, ?_⟩
    refine eatW_of k2 (fun e he => ⟨fqD_len _ e he, fqD_isF _ e he⟩) ?_
    simp [fqR_len]
    rw [fqR_V, List.take_of_length_le (by rw [fqR_len]; exact Nat.le_refl _)]
end Go.Gv

set_option linter.unusedSimpArgs false
set_option maxRecDepth 4000
namespace Go.Gv
def ptsD (a b : Pnt) (n : Int) : D := if cntE (lineE a b) n [] = 0 then .sl ((ptsL a b n.toNat).map fun x => ptD x) else .nils
theorem cnt_ok {a b : Pnt} {n : Int} {ls : List Int} {e : Int} (h : cntE e n ls = 0) : e = 0 ∧ 1 ≤ n ∧ n ≤ 999 ∧ ls.all lvlB = true := by
  unfold cntE at h
  split at h
  · rename_i h0
    split at h
    · rename_i h1; exact ⟨h0, h1.1.1, h1.1.2, h1.2⟩
    · cases h
  · rename_i h0; exact absurd h h0
theorem lineE_ok {a b : Pnt} (h : lineE a b = 0) : okP a = true ∧ okP b = true ∧ a ≠ b := by
  unfold lineE at h
  split at h
  · rename_i h1
    refine ⟨h1.1, h1.2, fun e => ?_⟩
    rw [if_pos e] at h; cases h
  · cases h
theorem lineM_ok {m : Msh} {a b : Pnt} (h : lineM m a b = 0) : validM m = true ∧ lineE a b = 0 := by
  unfold lineM at h
  by_cases hv : validM m = true
  · rw [if_pos hv] at h; exact ⟨hv, h⟩
  · rw [if_neg hv] at h; cases h
variable {C : CC} (hC : Closed prog C)
include hC
theorem rFloorJ_c (x : Int) (c : Int) (hc : 0 < c) (hc2 : c ≤ 1099511627776) (hx : -4611686018427387904 ≤ x ∧ x ≤ 4611686018427387904) : C 477 [.int .i64 x, .int .i64 c] (.int .i64 (x / c)) [] := by
  have hc0 : ¬ c = 0 := by omega
  have b := tdiv_bdJ hc hx
  have w1 : IntKind.wrap .i64 (x.tdiv c) = x.tdiv c := wrap_i64 rfl (by omega)
  have w2 : IntKind.wrap .i64 (x.tdiv c - 1) = x.tdiv c - 1 := wrap_i64 rfl (by omega)
  have e := Int.mul_tdiv_add_tmod x c
  have e2 : c * x.tdiv c = x.tdiv c * c := Int.mul_comm _ _
  have l := Int.tmod_lt_of_pos x hc
  have g : -c < x.tmod c := by
    have := Int.tmod_lt_of_pos (-x) hc
    rw [Int.neg_tmod] at this
    omega
  rw [e2] at e
  have w3 : IntKind.wrap .i64 (x.tdiv c * c) = x.tdiv c * c := wrap_i64 rfl (by omega)
  rw [tdivJ hc]
  refine start hC (nf := N477_ref04_Floor) rfl rfl ?_
  simp [N477_ref04_Floor, hc0, w1, w3]
  by_cases h : x.tmod c < 0
  · simp [h, w2, show x < x.tdiv c * c by omega]
  · simp [h, show ¬ x < x.tdiv c * c by omega]
theorem rLine_c (a b : Pnt) : C 705 [.agg (ptD a), .agg (ptD b)] (.int .i64 (lineE a b)) [] := by
  have ka := q7Valid_c hC a
  have kb := q7Valid_c hC b
  simp only [ptD] at ka kb
  refine start hC (nf := N705_ref14_Line) rfl rfl ?_
  unfold lineE
  simp [N705_ref14_Line, ptD]
  refine callW_of ka (.inl rfl) ?_
  cases h1 : okP a
  · simp
  simp
  refine callW_of kb (.inl rfl) ?_
  cases h2 : okP b
  · simp
  simp
  by_cases h3 : a.1 = b.1
  · by_cases h4 : a.2 = b.2
    · simp [h3, h4, Prod.ext h3 h4]
    · have hne : ¬ a = b := fun e => h4 (by rw [e])
      simp [h3, h4, hne]
  · have hne : ¬ a = b := fun e => h3 (by rw [e])
    simp [h3, hne]
theorem rParts_c (n : Int) : C 706 [.int .i64 n] (.bool (decide (1 ≤ n) && decide (n ≤ 999))) [] := by
  refine start hC (nf := N706_ref14_Parts) rfl rfl ?_
  simp [N706_ref14_Parts]
  by_cases h1 : 1 ≤ n
  · simp [h1]
  · simp [h1]
theorem rAt_c {a b : Pnt} (ha : okP a = true) (hb : okP b = true) {n k : Nat} (h1 : 1 ≤ n) (h2 : n ≤ 999) (hk : k ≤ n) : C 707 [.agg (ptD a), .agg (ptD b), .int .i64 n, .int .i64 k] (.agg (ptD (atL a b n k))) [] := by
  have ba := okP_bd ha
  have bb := okP_bd hb
  have w1 : IntKind.wrap .i64 (b.1 - a.1) = b.1 - a.1 := wrap_i64 rfl (by omega)
  have w2 : IntKind.wrap .i64 (b.2 - a.2) = b.2 - a.2 := wrap_i64 rfl (by omega)
  have m1 := mul_bd (a := b.1 - a.1) (b := (k : Int)) (k := 33554432) (l := 999) (by omega) (by omega) (by omega) (by omega)
  have m2 := mul_bd (a := b.2 - a.2) (b := (k : Int)) (k := 33554432) (l := 999) (by omega) (by omega) (by omega) (by omega)
  have w3 : IntKind.wrap .i64 ((b.1 - a.1) * k) = (b.1 - a.1) * k := wrap_i64 rfl (by omega)
  have w4 : IntKind.wrap .i64 ((b.2 - a.2) * k) = (b.2 - a.2) * k := wrap_i64 rfl (by omega)
  have f1 := rFloorJ_c hC ((b.1 - a.1) * k) n (by omega) (by omega) (by omega)
  have f2 := rFloorJ_c hC ((b.2 - a.2) * k) n (by omega) (by omega) (by omega)
  have ho := okP_bd (atL_ok ha hb (show 0 < n by omega) hk)
  have w5 : IntKind.wrap .i64 (a.1 + (b.1 - a.1) * k / n) = (atL a b n k).1 := wrap_i64 rfl (by omega)
  have w6 : IntKind.wrap .i64 (a.2 + (b.2 - a.2) * k / n) = (atL a b n k).2 := wrap_i64 rfl (by omega)
  refine start hC (nf := N707_ref14_At) rfl rfl ?_
  simp [N707_ref14_At, ptD, w1, w2, w3, w4]
  refine callW_of f1 (.inl rfl) ?_
  simp [w5, w2, w4]
  refine callW_of f2 (.inl rfl) ?_
  simp [w6]
  exact indW_of (by decide +kernel)
set_option maxHeartbeats 1000000 in
theorem rPoints_c (a b : Pnt) (n : Int) : C 679 [.agg (ptD a), .agg (ptD b), .int .i64 n] (.tup [ptsD a b n, .int .i64 (cntE (lineE a b) n [])]) [] := by
  have k1 := rLine_c hC a b
  have k2 := rParts_c hC n
  obtain ⟨d1, hd1⟩ : ∃ d1, d1 = ptsD a b n := ⟨_, rfl⟩
  obtain ⟨e1, he1⟩ : ∃ e1, e1 = cntE (lineE a b) n [] := ⟨_, rfl⟩
  rw [← hd1, ← he1]
  unfold ptsD at hd1
  rw [← he1] at hd1
  unfold cntE at he1
  simp only [ptD] at k1
  refine start hC (nf := N679_ref14_Points) rfl rfl ?_
  simp [N679_ref14_Points, ptD]
  refine callW_of k1 (.inl rfl) ?_
  by_cases h0 : lineE a b = 0
  rotate_left
  · rw [if_neg h0] at he1
    rw [if_neg (by rw [he1]; exact h0)] at hd1
    simp [h0, hd1, he1]
  simp [h0]
  refine callW_of k2 (.inl rfl) ?_
  by_cases hn : 1 ≤ n ∧ n ≤ 999
  rotate_left
  · rw [if_pos h0, if_neg (fun h => hn h.1)] at he1
    rw [if_neg (by rw [he1]; decide)] at hd1
    have hb : (decide (1 ≤ n) && decide (n ≤ 999)) = false := by
      rw [Bool.eq_false_iff]; simp; omega
    simp [hb, hd1, he1]
  rw [if_pos h0, if_pos ⟨hn, rfl⟩] at he1
  rw [if_pos he1] at hd1
  obtain ⟨ha, hb, _⟩ := lineE_ok h0
  obtain ⟨N, rfl⟩ : ∃ N : Nat, n = N := ⟨n.toNat, by omega⟩
  rw [Int.toNat_natCast] at hd1
  have hb1 : (decide (1 ≤ (N : Int)) && decide ((N : Int) ≤ 999)) = true := by simp; omega
  rw [hb1]
  simp
  refine loop_of Nat (fun k => [(2, .int .i64 N), (3, .ptr (ptD a)), (4, .ptr (ptD b)), (9, .ref (.r 10144) 0 (ptR a b N k).length), (10, .int .i64 k), (10144, .blk 2 (ptR a b N k))]) (fun k => k ≤ N + 1) (fun k => N + 1 - k) 0 (by simp) (by simp [ptD, ptR]) ?_
  intro k hk
  simp
  refine brB_of (fun h => ?_) (fun h => ?_) <;> simp at h
  · have hw : IntKind.wrap .i64 ((k : Int) + 1) = ((k + 1 : Nat) : Int) := wrap_i64 (by omega) (by omega)
    have k3 := rAt_c hC ha hb (n := N) (k := k) (by omega) (by omega) (by omega)
    have hl := ptR_len a b N k
    have hss := ptR_succ a b N k
    have hpc := ptR_isC a b N k
    simp only [ptD] at k3
    simp [h, ptD]
    refine callW_of k3 (.inl rfl) ?_
    simp [hw]
    exact ⟨by omega, k + 1, by omega, by omega, by rw [ptR_len, ptR_len], rfl, by rw [hss]; rfl⟩
  · have ek : k = N + 1 := by omega
    subst ek
    have hl := ptR_len a b N (N + 1)
    simp [h, he1, hd1]
    rw [ptR_V, ptR_end]
theorem count1_c (dec : Nat → List UInt8) (hI : ∀ n : Nat, n < 100 → C 127 [.int .i64 n] (.str (dec n)) []) (m : Msh) (hz : smallM m = true → m.s.length ≤ 100 ∧ m.f.length ≤ 100) (a b : Pnt) (n : Int) (c : Bool) (ls : List Int) (hl : ls.length < 2 ^ 62) : C 703 [.ptr (mshC m), .agg (ptD a), .agg (ptD b), .int .i64 n, slx c (ls.map fun n => [.int .i64 n])] (.int .i64 (cntE (lineM m a b) n ls)) [] := by
  have k1 := line1_c hC dec hI m hz a b
  have k2 := tlevel_c hC c ls hl
  simp only [ptD, mshC_eq] at k1
  refine start hC (nf := N703_transect_counted) rfl rfl ?_
  unfold cntE
  simp [N703_transect_counted, ptD, mshC_eq]
  refine callW_of k1 (.inl rfl) ?_
  clear k1
  generalize lineM m a b = e
  simp
  by_cases h : e = 0
  · subst h
    simp
    by_cases h1 : n < 1
    · simp [h1, show ¬ 1 ≤ n by omega]
    · by_cases h2 : 999 < n
      · simp [h1, h2, show ¬ n ≤ 999 by omega]
      · simp [h1, h2, show 1 ≤ n by omega, show n ≤ 999 by omega]
        refine callW_of k2 (.inl rfl) ?_
        cases h3 : ls.all lvlB
        · simp at h3 ⊢
        · simp at h3 ⊢
          omega
  · simp [h]
theorem tPoints_c (a b : Pnt) (n : Int) : C 678 [.agg (ptD a), .agg (ptD b), .int .i64 n] (.tup [ptsD a b n, .int .i64 (cntE (lineE a b) n [])]) [] := by
  have k1 := count0_c hC a b n
  simp only [ptD] at k1
  unfold ptsD
  refine start hC (nf := N678_transect_Points) rfl rfl ?_
  simp [N678_transect_Points, ptD]
  refine callW_of k1 (.inl rfl) ?_
  by_cases h : cntE (lineE a b) n [] = 0
  · obtain ⟨g0, g1, g2, _⟩ := cnt_ok (a := a) (b := b) h
    obtain ⟨ha, hb, _⟩ := lineE_ok g0
    obtain ⟨N, rfl⟩ : ∃ N : Nat, n = N := ⟨n.toNat, by omega⟩
    have k2 := tpoints_c hC a b ha hb N (by omega) (by omega)
    simp only [ptD] at k2
    simp [h]
    refine callW_of k2 (.inr rfl) ?_
    simp [ptD]
    exact h
  · simp [h]
theorem eqPtR_c (b b' : Bool) (xs : List Pnt) (hx : xs.length < 2 ^ 62) : C 680 [slx b (xs.map fun x => ptD x), slx b' (xs.map fun x => ptD x)] (.bool true) [] := by
  refine start hC (nf := N680_slices_Equal__api_Point_api_Point) rfl rfl ?_
  simp [N680_slices_Equal__api_Point_api_Point]
  refine loop_of Nat (fun i => [(0, slx b (xs.map fun x => ptD x)), (1, slx b' (xs.map fun x => ptD x)), (12, .int .i64 xs.length), (13, .int .i64 i)])
    (fun i => i ≤ xs.length) (fun i => xs.length - i) 0 (by simp) (by simp) ?_
  rintro i hi
  simp
  refine brB_of (fun h1 => ?_) (fun h1 => ?_) <;> simp at h1 <;> simp [h1]
  have hw : IntKind.wrap .i64 ((i : Int) + 1) = ((i + 1 : Nat) : Int) := wrap_i64 (by omega) (by omega)
  simp [h1, ptD, hw]
  exact ⟨indW_of (by decide +kernel), i + 1, by omega, by omega, rfl⟩
theorem eqQR_c (b b' : Bool) (xs : List Pnt) (hx : xs.length < 2 ^ 62) : C 687 [slx b (xs.map fun x => ptD x), slx b' (xs.map fun x => ptD x)] (.bool true) [] := by
  refine start hC (nf := N687_slices_Equal__api_Frac_api_Frac) rfl rfl ?_
  simp [N687_slices_Equal__api_Frac_api_Frac]
  refine loop_of Nat (fun i => [(0, slx b (xs.map fun x => ptD x)), (1, slx b' (xs.map fun x => ptD x)), (12, .int .i64 xs.length), (13, .int .i64 i)])
    (fun i => i ≤ xs.length) (fun i => xs.length - i) 0 (by simp) (by simp) ?_
  rintro i hi
  simp
  refine brB_of (fun h1 => ?_) (fun h1 => ?_) <;> simp at h1 <;> simp [h1]
  have hw : IntKind.wrap .i64 ((i : Int) + 1) = ((i + 1 : Nat) : Int) := wrap_i64 (by omega) (by omega)
  simp [h1, ptD, hw]
  exact ⟨indW_of (by decide +kernel), i + 1, by omega, by omega, rfl⟩
theorem eqFqR_c (b b' : Bool) (xs : List Frq) (hx : xs.length < 2 ^ 62) : C 687 [slx b (fqR xs), slx b' (fqR xs)] (.bool true) [] := by
  have e : fqR xs = (xs.map fun x => (x.1 : Pnt)).map fun x => ptD x := by
    unfold fqR
    rw [List.map_map]
    rfl
  rw [e]
  exact eqQR_c hC b b' _ (by rw [List.length_map]; exact hx)
end Go.Gv

set_option linter.unusedSimpArgs false
set_option maxRecDepth 4000
namespace Go.Gv
def spD (s : Int × Int) : List D := [.int .i64 s.1, .int .i64 s.2]
def lvP (m : Msh) (p : Pnt) : Int × Int := (loF m (fndF m p).toNat p, hiF m (fndF m p).toNat p)
def lvT (m : Msh) (a b : Pnt) (n k : Nat) : List (Int × Int) := (List.range k).map fun i => lvP m (atL a b n i)
def lvOk (m : Msh) (a b : Pnt) (n k : Nat) : Bool := (List.range k).all fun i => decide (onE m (atL a b n i) = 0)
def lvR (m : Msh) (a b : Pnt) (n k : Nat) : List (List D) := (lvT m a b n k).map spD
theorem lvR_len (m : Msh) (a b : Pnt) (n k : Nat) : (lvR m a b n k).length = k := by simp [lvR, lvT]
theorem lvR_zero (m : Msh) (a b : Pnt) (n : Nat) : lvR m a b n 0 = [] := rfl
theorem lvR_succ (m : Msh) (a b : Pnt) (n k : Nat) : lvR m a b n (k + 1) = lvR m a b n k ++ [[.int .i64 (lvP m (atL a b n k)).1, .int .i64 (lvP m (atL a b n k)).2]] := by simp [lvR, lvT, List.range_succ, spD]
theorem spR_V (l : List (Int × Int)) : (l.map spD).map (fun e => e.map cellV) = l.map spD := by
  rw [List.map_map]
  exact List.map_congr_left fun x _ => by simp [spD]
theorem lvOk_succ (m : Msh) (a b : Pnt) (n k : Nat) : lvOk m a b n (k + 1) = (lvOk m a b n k && decide (onE m (atL a b n k) = 0)) := by simp [lvOk, List.range_succ]
theorem lvOk_at {m : Msh} {a b : Pnt} {n k i : Nat} (h : lvOk m a b n k = true) (hi : i < k) : onE m (atL a b n i) = 0 := by
  have := List.all_eq_true.1 h i (List.mem_range.2 hi)
  exact of_decide_eq_true this
theorem onE_12 {m : Msh} {p : Pnt} (hv : validM m = true) (hp : okP p = true) (h : ¬ onE m p = 0) : onE m p = 12 := by
  unfold onE at h ⊢
  rw [if_pos ⟨hv, hp⟩] at h ⊢
  split
  · rfl
  · rename_i h1; rw [if_neg h1] at h; exact absurd rfl h
theorem ptsL_len (a b : Pnt) (n : Nat) : (ptsL a b n).length = n + 1 := by simp [ptsL]
theorem ptsL_get (a b : Pnt) (n : Nat) {k : Nat} (h : k < (ptsL a b n).length) : (ptsL a b n)[k] = atL a b n k := by simp [ptsL]
def lvD (m : Msh) (a b : Pnt) (n : Nat) : D := if lvOk m a b n (n + 1) = true then .sl (lvR m a b n (n + 1)) else .nils
def lvE (m : Msh) (a b : Pnt) (n : Nat) : Int := if lvOk m a b n (n + 1) = true then 0 else 12
variable {C : CC} (hC : Closed prog C)
include hC
set_option maxHeartbeats 1000000 in
theorem tlev_c (dec : Nat → List UInt8) (hI : ∀ n : Nat, n < 100 → C 127 [.int .i64 n] (.str (dec n)) []) (m : Msh) (hz : smallM m = true → m.s.length ≤ 100 ∧ m.f.length ≤ 100) (hv : validM m = true) (a b : Pnt) (ha : okP a = true) (hb : okP b = true) (n : Nat) (h1 : 1 ≤ n) (h2 : n ≤ 999) : C 726 [.agg (mshC m), .agg (ptD a), .agg (ptD b), .int .i64 n] (.tup [lvD m a b n, .int .i64 (lvE m a b n)]) [] := by
  have k1 := tpoints_c hC a b ha hb n h1 h2
  have hPl := ptsL_len a b n
  have hPg := fun k (h : k < (ptsL a b n).length) => ptsL_get a b n h
  have hgood : lvOk m a b n (n + 1) = true → lvD m a b n = .sl (lvR m a b n (n + 1)) ∧ lvE m a b n = 0 := fun h => ⟨by unfold lvD; rw [if_pos h], by unfold lvE; rw [if_pos h]⟩
  have hbad : ∀ k, k ≤ n → ¬ onE m (atL a b n k) = 0 → lvD m a b n = .nils ∧ lvE m a b n = 12 := fun k hk h => by
    have hn : ¬ lvOk m a b n (n + 1) = true := fun h3 => h (lvOk_at h3 (by omega))
    exact ⟨by unfold lvD; rw [if_neg hn], by unfold lvE; rw [if_neg hn]⟩
  obtain ⟨d1, hd1⟩ : ∃ d1, d1 = lvD m a b n := ⟨_, rfl⟩
  obtain ⟨e1, he1⟩ : ∃ e1, e1 = lvE m a b n := ⟨_, rfl⟩
  rw [← hd1] at hgood hbad
  rw [← he1] at hgood hbad
  rw [← hd1, ← he1]
  clear hd1 he1
  have hlv := fun k => lLevel_c hC dec hI m hz (atL a b n k)
  generalize ptsL a b n = P at *
  simp only [ptD, mshC_eq] at k1 hlv
  refine start hC (nf := N726_transect_levels) rfl rfl ?_
  simp [N726_transect_levels, ptD, mshC_eq]
  refine callW_of k1 (.inr rfl) ?_
  simp [hPl]
  refine loop_of Nat (fun k => [(4, .ptr (mshC m)), (10, .ref (.r 10160) 0 k), (18, .sl (P.map fun x => ptD x)), (19, .int .i64 ((n + 1 : Nat) : Int)), (20, .int .i64 k), (10160, .blk 2 (lvR m a b n k))])
    (fun k => k ≤ n + 1 ∧ lvOk m a b n k = true) (fun k => n + 1 - k) 0 (by simp [lvOk]) (by simp [mshC_eq, ptD, lvR_zero]) ?_
  rintro k ⟨hk, hall⟩
  simp
  refine brB_of (fun h3 => ?_) (fun h3 => ?_) <;> simp at h3
  · have hw : IntKind.wrap .i64 ((k : Int) + 1) = ((k + 1 : Nat) : Int) := wrap_i64 (by omega) (by omega)
    have hkP : k < P.length := by omega
    have hpk := hPg k hkP
    have kl := hlv k
    have hlen := lvR_len m a b n k
    have hss := lvR_succ m a b n k
    have hsk := lvOk_succ m a b n k
    by_cases h0 : onE m (atL a b n k) = 0
    · rw [if_pos h0] at kl
      simp [h3, hkP, hpk, ptD, mshC_eq]
      refine callW_of kl (.inl rfl) ?_
      simp [hw]
      have hsv : lvR m a b n k ++ [[.int .i64 (loF m (fndF m (atL a b n k)).toNat (atL a b n k)), .int .i64 (hiF m (fndF m (atL a b n k)).toNat (atL a b n k))]] = lvR m a b n (k + 1) := by rw [hss]; rfl
      have htk : List.take k (lvR m a b n k) = lvR m a b n k := List.take_of_length_le (by omega)
      refine ⟨by omega, by omega, k + 1, ⟨by omega, by rw [hsk, hall, decide_eq_true h0]; rfl⟩, by omega, by simp [mshC_eq], ?_⟩
      simp [htk, hsv]
    · rw [if_neg h0] at kl
      obtain ⟨g1, g2⟩ := hbad k (by omega) h0
      have h12 := onE_12 hv (atL_ok ha hb (show 0 < n by omega) (show k ≤ n by omega)) h0
      rw [h12] at kl
      simp only [wz] at kl
      simp [h3, hkP, hpk, ptD, mshC_eq]
      refine callW_of kl (.inl rfl) ?_
      simp [g1, g2]
  · have ek : k = n + 1 := by omega
    subst ek
    have hlen := lvR_len m a b n (n + 1)
    obtain ⟨g1, g2⟩ := hgood hall
    have hV : (lvR m a b n (n + 1)).map (fun e => e.map cellV) = lvR m a b n (n + 1) := spR_V _
    simp [h3, g1, g2, hV]
    exact ⟨by omega, (List.take_of_length_le (by omega)).symm⟩
set_option maxHeartbeats 1000000 in
theorem tlevA_c (dec : Nat → List UInt8) (hI : ∀ n : Nat, n < 100 → C 127 [.int .i64 n] (.str (dec n)) []) (m : Msh) (hz : smallM m = true → m.s.length ≤ 100 ∧ m.f.length ≤ 100) (hv : validM m = true) (a b : Pnt) (ha : okP a = true) (hb : okP b = true) (n : Nat) (h1 : 1 ≤ n) (h2 : n ≤ 999) (hok : lvOk m a b n (n + 1) = true) : C 726 [.agg (mshC m), .agg (ptD a), .agg (ptD b), .int .i64 n] (.tup [.own 2 (lvR m a b n (n + 1)), .int .i64 0]) [.nils] := by
  have k1 := tpoints_c hC a b ha hb n h1 h2
  have hPl := ptsL_len a b n
  have hPg := fun k (h : k < (ptsL a b n).length) => ptsL_get a b n h
  have hlv := fun k => lLevel_c hC dec hI m hz (atL a b n k)
  generalize ptsL a b n = P at *
  simp only [ptD, mshC_eq] at k1 hlv
  refine startA hC (nf := N726_transect_levels) rfl rfl (by simp [okR]) ?_
  simp [N726_transect_levels, ptD, mshC_eq]
  refine callW_of k1 (.inr rfl) ?_
  simp [hPl]
  refine loop_of Nat (fun k => [(4, .ptr (mshC m)), (10, .ref (.r 10160) 0 k), (18, .sl (P.map fun x => ptD x)), (19, .int .i64 ((n + 1 : Nat) : Int)), (20, .int .i64 k), (10160, .blk 2 (lvR m a b n k))])
    (fun k => k ≤ n + 1 ∧ lvOk m a b n k = true) (fun k => n + 1 - k) 0 (by simp [lvOk]) (by simp [mshC_eq, ptD, lvR_zero]) ?_
  rintro k ⟨hk, hall⟩
  simp
  refine brB_of (fun h3 => ?_) (fun h3 => ?_) <;> simp at h3
  · have hw : IntKind.wrap .i64 ((k : Int) + 1) = ((k + 1 : Nat) : Int) := wrap_i64 (by omega) (by omega)
    have hkP : k < P.length := by omega
    have hpk := hPg k hkP
    have kl := hlv k
    have hlen := lvR_len m a b n k
    have hss := lvR_succ m a b n k
    have hsk := lvOk_succ m a b n k
    by_cases h0 : onE m (atL a b n k) = 0
    · rw [if_pos h0] at kl
      simp [h3, hkP, hpk, ptD, mshC_eq]
      refine callW_of kl (.inl rfl) ?_
      simp [hw]
      have hsv : lvR m a b n k ++ [[.int .i64 (loF m (fndF m (atL a b n k)).toNat (atL a b n k)), .int .i64 (hiF m (fndF m (atL a b n k)).toNat (atL a b n k))]] = lvR m a b n (k + 1) := by rw [hss]; rfl
      have htk : List.take k (lvR m a b n k) = lvR m a b n k := List.take_of_length_le (by omega)
      refine ⟨by omega, by omega, k + 1, ⟨by omega, by rw [hsk, hall, decide_eq_true h0]; rfl⟩, by omega, by simp [mshC_eq], ?_⟩
      simp [htk, hsv]
    · rw [if_neg h0] at kl
      exact absurd (lvOk_at hok (by omega)) h0
  · have ek : k = n + 1 := by omega
    subst ek
    have hlen := lvR_len m a b n (n + 1)
    simp [h3]
    omega
end Go.Gv

set_option linter.unusedSimpArgs false
set_option maxRecDepth 4000
namespace Go.Gv
def mn2S (o s : Int × Int) : Int × Int := (min o.1 s.1, min o.2 s.2)
def lsK (l : List (Int × Int)) (k : Nat) : Int × Int := (l.take k).foldl mn2S (l.headD (0, 0))
def lsF (l : List (Int × Int)) : Int × Int := lsK l l.length
theorem lsK_zero (l : List (Int × Int)) : lsK l 0 = l.headD (0, 0) := rfl
theorem lsK_succ (l : List (Int × Int)) {k : Nat} (h : k < l.length) : lsK l (k + 1) = (min (lsK l k).1 l[k].1, min (lsK l k).2 l[k].2) := by
  unfold lsK
  rw [List.take_succ_eq_append_getElem h, List.foldl_append]
  rfl
def cvP (m : Msh) (a b : Pnt) (n : Nat) (up dn : Int) (k : Nat) : Int × Int :=
  ((lvP m (atL a b n k)).1 - (up - -((dn - up) * k) / n), (lvP m (atL a b n k)).2 - (up + (dn - up) * k / n))
def cvT (m : Msh) (a b : Pnt) (n : Nat) (up dn : Int) (k : Nat) : List (Int × Int) := (List.range (n + 1)).map fun i => if i < k then cvP m a b n up dn i else lvP m (atL a b n i)
def cvL (m : Msh) (a b : Pnt) (n : Nat) (up dn : Int) : List (Int × Int) := (List.range (n + 1)).map (cvP m a b n up dn)
theorem cvT_len (m : Msh) (a b : Pnt) (n : Nat) (up dn : Int) (k : Nat) : (cvT m a b n up dn k).length = n + 1 := by simp [cvT]
theorem cvT_zero (m : Msh) (a b : Pnt) (n : Nat) (up dn : Int) : cvT m a b n up dn 0 = lvT m a b n (n + 1) := by simp [cvT, lvT]
theorem cvT_end (m : Msh) (a b : Pnt) (n : Nat) (up dn : Int) : cvT m a b n up dn (n + 1) = cvL m a b n up dn := by
  unfold cvT cvL
  exact List.map_congr_left fun i hi => by rw [if_pos (List.mem_range.1 hi)]
theorem cvT_get (m : Msh) (a b : Pnt) (n : Nat) (up dn : Int) {k : Nat} (h : k < n + 1) : (cvT m a b n up dn k)[k]? = some (lvP m (atL a b n k)) := by simp [cvT, h]
theorem cvT_set (m : Msh) (a b : Pnt) (n : Nat) (up dn : Int) (k : Nat) : (cvT m a b n up dn k).set k (cvP m a b n up dn k) = cvT m a b n up dn (k + 1) := by
  apply List.ext_getElem?
  intro i
  rw [List.getElem?_set]
  unfold cvT
  simp only [List.getElem?_map, List.length_map, List.length_range]
  by_cases hi : i < n + 1
  · by_cases hk : k = i
    · subst hk
      simp [hi]
    · simp [hk, hi]
      by_cases h2 : i < k
      · simp [h2, show i < k + 1 by omega]
      · simp [h2, show ¬ i < k + 1 by omega]
  · have : (List.range (n + 1))[i]? = none := List.getElem?_eq_none (by simp; omega)
    rw [this]
    by_cases hk : k = i
    · subst hk; simp [hi]
    · simp [hk]
theorem lvP_bd {m : Msh} {p : Pnt} (h : onE m p = 0) : (-4194304 ≤ (lvP m p).1 ∧ (lvP m p).1 ≤ 4194304) ∧ -4194304 ≤ (lvP m p).2 ∧ (lvP m p).2 ≤ 4194304 := by
  obtain ⟨hv, hp, hf⟩ := onE_at h
  obtain ⟨hi, ho⟩ := fndF_on hf
  have hO : OnF m (fndF m p).toNat p := onF_of hv hi hp ho
  exact ⟨hO.lo, hO.hi⟩
variable {C : CC} (hC : Closed prog C)
include hC
set_option maxHeartbeats 1000000 in
theorem least_c (b : Bool) (l : List (Int × Int)) (h0 : 0 < l.length) (hl : l.length < 2 ^ 40) : C 727 [slx b (l.map spD)] (.agg (spD (lsF l))) [] := by
  have e0 : l.headD (0, 0) = l[0] := by
    cases l with
    | nil => simp at h0
    | cons x r => rfl
  have e1 : l.head?.getD (0, 0) = l[0] := by
    cases l with
    | nil => simp at h0
    | cons x r => rfl
  refine start hC (nf := N727_transect_least) rfl rfl ?_
  simp [N727_transect_least, spD, h0]
  refine loop_of Nat (fun k => [(2, .adr (.r 10032) 0 0), (3, .adr (.r 10048) 0 0), (9, slx b (l.map spD)), (10, .int .i64 l.length), (11, .int .i64 k), (10032, .blk 2 [[.int .i64 0, .int .i64 0]]), (10048, .blk 2 [[.int .i64 (lsK l k).1, .int .i64 (lsK l k).2]])])
    (fun k => k ≤ l.length) (fun k => l.length - k) 0 (by simp) (by simp [lsK_zero, e1, spD]) ?_
  rintro k hk
  simp
  refine brB_of (fun h3 => ?_) (fun h3 => ?_) <;> simp at h3
  · have hw : IntKind.wrap .i64 ((k : Int) + 1) = ((k + 1 : Nat) : Int) := wrap_i64 (by omega) (by omega)
    have hs := lsK_succ l h3
    simp [h3, spD, mnE]
    refine ⟨indW_of (by decide +kernel), ?_⟩
    simp [hw]
    exact ⟨k + 1, by omega, by omega, by simp [hs]⟩
  · have ek : k = l.length := by omega
    subst ek
    simp [lsF]
end Go.Gv

set_option linter.unusedSimpArgs false
set_option maxRecDepth 4000
namespace Go.Gv
def cvS (m : Msh) (a b : Pnt) (n : Nat) (up dn : Int) : Int × Int := if lvOk m a b n (n + 1) = true then lsF (cvL m a b n up dn) else (0, 0)
def cvR (m : Msh) (a b : Pnt) (n : Nat) (up dn : Int) (k : Nat) : List (List D) := (cvT m a b n up dn k).map spD
theorem cvR_len (m : Msh) (a b : Pnt) (n : Nat) (up dn : Int) (k : Nat) : (cvR m a b n up dn k).length = n + 1 := by simp [cvR, cvT_len]
theorem cvR_get (m : Msh) (a b : Pnt) (n : Nat) (up dn : Int) {k : Nat} (h : k < n + 1) : (cvR m a b n up dn k)[k]? = some [.int .i64 (lvP m (atL a b n k)).1, .int .i64 (lvP m (atL a b n k)).2] := by
  unfold cvR
  rw [List.getElem?_map, cvT_get m a b n up dn h]
  rfl
theorem cvR_set (m : Msh) (a b : Pnt) (n : Nat) (up dn : Int) (k : Nat) : (cvR m a b n up dn k).set k [.int .i64 (cvP m a b n up dn k).1, .int .i64 (cvP m a b n up dn k).2] = cvR m a b n up dn (k + 1) := by
  unfold cvR
  rw [← cvT_set, List.map_set]
  rfl
theorem cvR_zero (m : Msh) (a b : Pnt) (n : Nat) (up dn : Int) : cvR m a b n up dn 0 = lvR m a b n (n + 1) := by unfold cvR lvR; rw [cvT_zero]
theorem cvR_end (m : Msh) (a b : Pnt) (n : Nat) (up dn : Int) : cvR m a b n up dn (n + 1) = (cvL m a b n up dn).map spD := by unfold cvR; rw [cvT_end]
theorem ediv_rng {x c B : Int} (hc : 0 < c) (h : -B ≤ x ∧ x ≤ B) : -B - 1 ≤ x / c ∧ x / c ≤ B := by
  have b := tdiv_bdJ hc h
  rw [tdivJ hc]
  split <;> omega
variable {C : CC} (hC : Closed prog C)
include hC
set_option maxHeartbeats 2000000 in
theorem cover_c (dec : Nat → List UInt8) (hI : ∀ n : Nat, n < 100 → C 127 [.int .i64 n] (.str (dec n)) []) (m : Msh) (hz : smallM m = true → m.s.length ≤ 100 ∧ m.f.length ≤ 100) (hv : validM m = true) (a b : Pnt) (ha : okP a = true) (hb : okP b = true) (n : Nat) (h1 : 1 ≤ n) (h2 : n ≤ 999) (up dn : Int) (hu : lvlB up = true) (hd : lvlB dn = true) : C 723 [.agg (mshC m), .agg (ptD a), .agg (ptD b), .int .i64 n, .int .i64 up, .int .i64 dn] (.tup [.agg (spD (cvS m a b n up dn)), .int .i64 (lvE m a b n)]) [] := by
  simp only [lvlB, Bool.and_eq_true, decide_eq_true_eq] at hu hd
  by_cases hok : lvOk m a b n (n + 1) = true
  rotate_left
  · have k1 := tlev_c hC dec hI m hz hv a b ha hb n h1 h2
    have e1 : lvE m a b n = 12 := by unfold lvE; rw [if_neg hok]
    have e2 : lvD m a b n = .nils := by unfold lvD; rw [if_neg hok]
    have e3 : cvS m a b n up dn = (0, 0) := by unfold cvS; rw [if_neg hok]
    rw [e1, e2] at k1
    rw [e1, e3]
    simp only [mshC_eq, ptD] at k1
    refine start hC (nf := N723_transect_cover) rfl rfl ?_
    simp [N723_transect_cover, mshC_eq, ptD]
    refine callAP_of k1 ?_
    simp [spD]
  have k1 := tlevA_c hC dec hI m hz hv a b ha hb n h1 h2 hok
  have e1 : lvE m a b n = 0 := by unfold lvE; rw [if_pos hok]
  have e3 : cvS m a b n up dn = lsF (cvL m a b n up dn) := by unfold cvS; rw [if_pos hok]
  rw [e1, e3]
  simp only [mshC_eq, ptD] at k1
  have ws : IntKind.wrap .i64 (dn - up) = dn - up := wrap_i64 rfl (by omega)
  refine start hC (nf := N723_transect_cover) rfl rfl ?_
  simp [N723_transect_cover, mshC_eq, ptD]
  refine callAW_of k1 rfl ?_
  simp [hostD, hostR, hostK, lvR_len]
  refine loop_of Nat (fun k => [(3, .int .i64 n), (4, .int .i64 up), (5, .int .i64 dn), (12, .adr (.r 10192) 0 0), (14, .ref (.r 10224) 0 (n + 1)), (33, .int .i64 ((n + 1 : Nat) : Int)), (34, .int .i64 k), (10192, .blk 2 [[.int .i64 0, .int .i64 0]]), (10224, .blk 2 (cvR m a b n up dn k))])
    (fun k => k ≤ n + 1) (fun k => n + 1 - k) 0 (by simp) (by simp [cvR_zero]) ?_
  rintro k hk
  simp
  refine brB_of (fun h3 => ?_) (fun h3 => ?_) <;> simp at h3
  · have hw : IntKind.wrap .i64 ((k : Int) + 1) = ((k + 1 : Nat) : Int) := wrap_i64 (by omega) (by omega)
    have hkn : k < n + 1 := by omega
    have hlen := cvR_len m a b n up dn k
    have hg := cvR_get m a b n up dn hkn
    have hset := cvR_set m a b n up dn k
    obtain ⟨bl, bh⟩ := lvP_bd (lvOk_at hok hkn)
    have m1 := mul_bd (a := dn - up) (b := (k : Int)) (k := 8388608) (l := 999) (by omega) (by omega) (by omega) (by omega)
    have w1 : IntKind.wrap .i64 ((dn - up) * k) = (dn - up) * k := wrap_i64 rfl (by omega)
    have w2 : IntKind.wrap .i64 (-((dn - up) * k)) = -((dn - up) * k) := wrap_i64 rfl (by omega)
    have f1 := tfloor_c hC ((dn - up) * k) n (by omega) (by omega)
    have f2 := tfloor_c hC (-((dn - up) * k)) n (by omega) (by omega)
    have q1 := ediv_rng (x := (dn - up) * k) (c := (n : Int)) (B := 8380219392) (by omega) (by omega)
    have q2 := ediv_rng (x := -((dn - up) * k)) (c := (n : Int)) (B := 8380219392) (by omega) (by omega)
    have hc : cvP m a b n up dn k = ((lvP m (atL a b n k)).1 - (up - -((dn - up) * k) / n), (lvP m (atL a b n k)).2 - (up + (dn - up) * k / n)) := rfl
    rw [hc] at hset
    generalize hp : (dn - up) * (k : Int) = p at *
    generalize p / (n : Int) = x at *
    generalize -p / (n : Int) = y at *
    generalize lvP m (atL a b n k) = v at *
    have w3 : IntKind.wrap .i64 (up + x) = up + x := wrap_i64 rfl (by omega)
    have w4 : IntKind.wrap .i64 (up - y) = up - y := wrap_i64 rfl (by omega)
    have w5 : IntKind.wrap .i64 (v.1 - (up - y)) = v.1 - (up - y) := wrap_i64 rfl (by omega)
    have w6 : IntKind.wrap .i64 (v.2 - (up + x)) = v.2 - (up + x) := wrap_i64 rfl (by omega)
    simp [h3, ws, hp, w1, w2]
    refine callW_of f1 (.inl rfl) ?_
    simp [w2, w3]
    refine callW_of f2 (.inl rfl) ?_
    have hge : (cvR m a b n up dn k)[k]'(by omega) = [.int .i64 v.1, .int .i64 v.2] := (List.getElem?_eq_some_iff.1 hg).2
    simp at hset
    simp [w3, w4, rowW_some hg, w5, w6, hkn, hw, hlen, hge]
    exact ⟨indW_of (by decide +kernel), k + 1, by omega, by omega, by omega, hset⟩
  · have ek : k = n + 1 := by omega
    subst ek
    have kl := least_c hC false (cvL m a b n up dn) (by simp [cvL]) (by simp [cvL]; omega)
    have hlen : (cvL m a b n up dn).length = n + 1 := by simp [cvL]
    rw [cvR_end]
    simp at kl
    generalize cvL m a b n up dn = L at *
    simp [h3]
    refine ⟨by omega, ?_⟩
    have hV : List.take (n + 1) (List.map ((fun e => List.map cellV e) ∘ spD) L) = List.map spD L := by
      rw [List.take_of_length_le (by simp; omega)]
      exact List.map_congr_left fun x _ => by simp [spD]
    rw [hV]
    refine callW_of kl (.inl rfl) ?_
    simp [spD]
def covE (m : Msh) (a b : Pnt) (n up dn : Int) : Int := if cntE (lineM m a b) n [up, dn] = 0 then lvE m a b n.toNat else cntE (lineM m a b) n [up, dn]
def covS (m : Msh) (a b : Pnt) (n up dn : Int) : Int × Int := if cntE (lineM m a b) n [up, dn] = 0 then cvS m a b n.toNat up dn else (0, 0)
theorem tCover_c (dec : Nat → List UInt8) (hI : ∀ n : Nat, n < 100 → C 127 [.int .i64 n] (.str (dec n)) []) (m : Msh) (hz : smallM m = true → m.s.length ≤ 100 ∧ m.f.length ≤ 100) (a b : Pnt) (n up dn : Int) : C 691 [.agg (mshC m), .agg (ptD a), .agg (ptD b), .int .i64 n, .int .i64 up, .int .i64 dn] (.tup [.agg (spD (covS m a b n up dn)), .int .i64 (covE m a b n up dn)]) [] := by
  have k1 := count1_c hC dec hI m hz a b n false [up, dn] (by simp)
  unfold covS covE
  by_cases h : cntE (lineM m a b) n [up, dn] = 0
  · obtain ⟨g0, g1, g2, g3⟩ := cnt_ok (a := a) (b := b) h
    obtain ⟨hv, hl⟩ := lineM_ok g0
    obtain ⟨ha, hb, _⟩ := lineE_ok hl
    simp only [List.all_cons, List.all_nil, Bool.and_true, Bool.and_eq_true] at g3
    obtain ⟨N, rfl⟩ : ∃ N : Nat, n = N := ⟨n.toNat, by omega⟩
    have k2 := cover_c hC dec hI m hz hv a b ha hb N (by omega) (by omega) up dn g3.1 g3.2
    rw [if_pos h, if_pos h, Int.toNat_natCast]
    rw [h] at k1
    simp only [mshC_eq, ptD] at k1 k2
    simp at k1
    refine start hC (nf := N691_transect_Cover) rfl rfl ?_
    simp [N691_transect_Cover, mshC_eq, ptD]
    refine callW_of k1 (.inl rfl) ?_
    simp
    refine callW_of k2 (.inl rfl) ?_
    simp [spD]
  · rw [if_neg h, if_neg h]
    simp only [mshC_eq, ptD] at k1
    simp at k1
    refine start hC (nf := N691_transect_Cover) rfl rfl ?_
    simp [N691_transect_Cover, mshC_eq, ptD]
    refine callW_of k1 (.inl rfl) ?_
    simp [h, spD]
end Go.Gv

set_option linter.unusedSimpArgs false
set_option maxRecDepth 4000
namespace Go.Gv
def exT : Msh := ⟨false, [⟨0, 0, 90⟩, ⟨30, 0, 90⟩, ⟨30, 30, 90⟩, ⟨0, 30, 90⟩], false, [⟨0, 1, 2, 0⟩, ⟨0, 2, 3, 0⟩]⟩
theorem exT_v : validM exT = true := by decide +kernel
theorem exT_l : lineM exT (20, 0) (0, 20) = 0 := by rw [lineM, exT_v]; decide
theorem exT_f : facT exT (20, 0) (0, 20) 2 = [0, 1] := by decide +kernel
theorem exT_c : cdL exT (20, 0) (0, 20) 2 = [(600, -600), (-600, 600)] := by decide +kernel
theorem exT_ok : (cdL exT (20, 0) (0, 20) exT.f.length).all cutOk = true := by
  rw [show exT.f.length = 2 from rfl, exT_c]; decide +kernel
theorem exT_q : fqs (cdL exT (20, 0) (0, 20) exT.f.length) = [mkFq (1, 2), mkFq (1, 2)] := by
  rw [show exT.f.length = 2 from rfl, exT_c]
  unfold fqs
  simp only [List.map_cons, List.map_nil]
  rw [show cutQ 600 (600 - -600) = (1, 2) by decide +kernel, show cutQ (-600) (-600 - 600) = (1, 2) by decide +kernel]
theorem exT_cut : cutS exT (20, 0) (0, 20) = [mkFq (1, 2)] := by
  unfold cutS
  rw [exT_q]
  exact canL_eq fqC_tc (List.pairwise_singleton _ _) (by simp)
theorem exT_fq : fqR [mkFq (1, 2)] = [[.int .i64 1, .int .i64 2]] := by
  have : (mkFq (1, 2)).1 = (1, 2) := mkFq_val (by unfold fqOk; decide)
  simp [fqR, fqD, this]
theorem exT_p : ptsL (20, 0) (0, 20) 2 = [(20, 0), (10, 10), (0, 20)] := by decide +kernel
theorem exT_e : cntE (lineE (20, 0) (0, 20)) 2 [] = 0 := by decide +kernel
theorem exT_k : cntE (lineM exT (20, 0) (0, 20)) 2 [10, 20] = 0 := by rw [exT_l]; decide +kernel
theorem exT_lv : lvOk exT (20, 0) (0, 20) 2 3 = true := by decide +kernel
theorem exT_cv : lsF (cvL exT (20, 0) (0, 20) 2 10 20) = (70, 70) := by decide +kernel
end Go.Gv

set_option linter.unusedSimpArgs false
set_option maxRecDepth 4000
namespace Go.Gv
theorem atL_first (a b : Pnt) (n : Nat) : (ptsL a b n)[0]? = some a := by
  have : 0 < (ptsL a b n).length := by rw [ptsL_len]; omega
  rw [List.getElem?_eq_getElem this, ptsL_get, atL_0]
theorem atL_last (a b : Pnt) {n : Nat} (h : 0 < n) : (ptsL a b n)[n]? = some b := by
  have : n < (ptsL a b n).length := by rw [ptsL_len]; omega
  rw [List.getElem?_eq_getElem this, ptsL_get, atL_n a b h]
variable {C : CC} (hC : Closed prog C)
include hC
theorem eqIJ_c (b b' : Bool) (xs ys : List Int) (hx : xs.length < 2 ^ 62) (hy : ys.length < 2 ^ 62) : C 19 [slx b (xs.map fun n => [.int .i64 n]), slx b' (ys.map fun n => [.int .i64 n])] (.bool (decide (xs = ys))) [] := by
  refine start hC (nf := N19_slices_Equal__int_int) rfl rfl ?_
  simp [N19_slices_Equal__int_int]
  refine brB_of (fun h => ?_) (fun h => ?_) <;> simp at h <;> simp [h]
  · rintro rfl; exact h rfl
  have h' : xs.length = ys.length := by omega
  refine loop_of Nat (fun i => [(0, slx b (xs.map fun n => [.int .i64 n])), (1, slx b' (ys.map fun n => [.int .i64 n])), (12, .int .i64 ys.length), (13, .int .i64 i)])
    (fun i => i ≤ ys.length ∧ ∀ k, k < i → xs[k]? = ys[k]?) (fun i => ys.length - i) 0 (by simp) (by simp) ?_
  rintro i ⟨hi, hok⟩
  simp
  refine brB_of (fun h1 => ?_) (fun h1 => ?_) <;> simp at h1 <;> simp [h1]
  · have hw : IntKind.wrap .i64 ((i : Int) + 1) = ((i + 1 : Nat) : Int) := wrap_i64 (by omega) (by omega)
    have hx1 : i < xs.length := by omega
    simp [h1, hx1]
    refine ⟨indW_of (by decide +kernel), ?_⟩
    refine brB_of (fun h2 => ?_) (fun h2 => ?_) <;> simp [h1, hx1] at h2 <;> simp [h1, hx1, h2, hw]
    · rintro rfl
      exact h2 rfl
    · refine ⟨i + 1, ⟨by omega, fun k hk => ?_⟩, by omega, rfl⟩
      rcases Nat.lt_succ_iff_lt_or_eq.1 hk with h5 | rfl
      · exact hok k h5
      · rw [List.getElem?_eq_getElem h1, List.getElem?_eq_getElem hx1, h2]
  · refine List.ext_getElem? fun k => ?_
    rcases Nat.lt_or_ge k i with h2 | h2
    · exact hok k h2
    · rw [List.getElem?_eq_none (by omega), List.getElem?_eq_none (by omega)]
theorem exampleT_c : C 702 [] (.agg (mshC exT)) [] := by
  refine start hC (nf := N702_law14_example) rfl rfl ?_
  simp [N702_law14_example, mshC_eq, exT, sptC_eq, fceC_eq]
set_option maxHeartbeats 2000000 in
theorem awakeT_c (hS : SrtQ C) (dec : Nat → List UInt8) (hI : ∀ n : Nat, n < 100 → C 127 [.int .i64 n] (.str (dec n)) []) : C 677 [] (.bool true) [] := by
  have hz : smallM exT = true → exT.s.length ≤ 100 ∧ exT.f.length ≤ 100 := fun _ => by simp [exT]
  have ke := exampleT_c hC
  have k1 := tFaces_c hC dec hI exT hz (20, 0) (0, 20) exT_l
  have k2 := tCuts_c hC hS dec hI exT hz (20, 0) (0, 20) exT_l
  have k3 := tPoints_c hC (20, 0) (0, 20) 2
  have k4 := tCover_c hC dec hI exT hz (20, 0) (0, 20) 2 10 20
  have q1 := eqIJ_c hC false false [0, 1] [0, 1] (by simp) (by simp)
  have q2 := eqFqR_c hC false false [mkFq (1, 2)] (by simp)
  have q3 := eqPtR_c hC false false [(20, 0), (10, 10), (0, 20)] (by simp)
  have e1 : facR exT (20, 0) (0, 20) exT.f.length = [[.int .i64 0], [.int .i64 1]] := by
    unfold facR
    rw [show exT.f.length = 2 from rfl, exT_f]; rfl
  have e2 : cutsD exT (20, 0) (0, 20) = .sl [[.int .i64 1, .int .i64 2]] := by unfold cutsD; rw [if_pos exT_ok, exT_cut, exT_fq]
  have e3 : cutsE exT (20, 0) (0, 20) = 0 := by unfold cutsE; rw [if_pos exT_ok]
  have e4 : ptsD (20, 0) (0, 20) 2 = .sl [[.int .i64 20, .int .i64 0], [.int .i64 10, .int .i64 10], [.int .i64 0, .int .i64 20]] := by
    unfold ptsD
    rw [if_pos exT_e, show (2 : Int).toNat = 2 from rfl, exT_p]; rfl
  have e5 : covE exT (20, 0) (0, 20) 2 10 20 = 0 := by
    unfold covE lvE
    rw [if_pos exT_k, show (2 : Int).toNat + 1 = 3 from rfl, show (2 : Int).toNat = 2 from rfl, if_pos exT_lv]
  have e6 : covS exT (20, 0) (0, 20) 2 10 20 = (70, 70) := by
    unfold covS cvS
    rw [if_pos exT_k, show (2 : Int).toNat + 1 = 3 from rfl, show (2 : Int).toNat = 2 from rfl, if_pos exT_lv, exT_cv]
  rw [e1] at k1
  rw [e2, e3] at k2
  rw [e4, exT_e] at k3
  rw [e5, e6] at k4
  rw [exT_fq] at q2
  simp [exT, mshC_eq, sptC_eq, fceC_eq, ptD, spD] at ke k1 k2 k3 k4 q1 q2 q3
  refine start hC (nf := N677_law14_awake) rfl rfl ?_
  simp [N677_law14_awake]
  refine callW_of ke (.inr rfl) ?_
  simp
  refine callW_of k1 (.inr rfl) ?_
  simp
  refine ⟨indW_of (by decide +kernel), ?_⟩
  refine callW_of ke (.inr rfl) ?_
  simp
  refine callW_of k2 (.inr rfl) ?_
  simp
  refine ⟨indW_of (by decide +kernel), ?_⟩
  refine callW_of k3 (.inr rfl) ?_
  simp
  refine callW_of ke (.inr rfl) ?_
  simp
  refine callW_of k4 (.inl rfl) ?_
  simp
  refine ⟨indW_of (by decide +kernel), ?_⟩
  refine callW_of q1 (.inl rfl) ?_
  simp
  refine callW_of q2 (.inl rfl) ?_
  simp
  refine callW_of q3 (.inl rfl) ?_
  simp
set_option maxHeartbeats 2000000 in
theorem TransectPoints_c (hS : SrtQ C) (dec : Nat → List UInt8) (hI : ∀ n : Nat, n < 100 → C 127 [.int .i64 n] (.str (dec n)) []) (a b : Pnt) (n : Int) : C 669 [.agg (ptD a), .agg (ptD b), .int .i64 n] (.bool true) [] := by
  have k0 := awakeT_c hC hS dec hI
  have k1 := tPoints_c hC a b n
  have k2 := rPoints_c hC a b n
  unfold ptsD at k1 k2
  by_cases h : cntE (lineE a b) n [] = 0
  · obtain ⟨g0, g1, g2, _⟩ := cnt_ok (a := a) (b := b) h
    obtain ⟨N, rfl⟩ : ∃ N : Nat, n = N := ⟨n.toNat, by omega⟩
    rw [if_pos h, h, Int.toNat_natCast] at k1 k2
    have q := eqPtR_c hC false false (ptsL a b N) (by rw [ptsL_len]; omega)
    have hw : IntKind.wrap .i64 ((N : Int) + 1) = (N : Int) + 1 := wrap_i64 rfl (by omega)
    have hl := ptsL_len a b N
    have ga := atL_first a b N
    have gb := atL_last a b (show 0 < N by omega)
    generalize ptsL a b N = P at *
    have hP0 : 0 < P.length := by omega
    have hPN : N < P.length := by omega
    rw [List.getElem?_eq_getElem hP0] at ga
    rw [List.getElem?_eq_getElem hPN] at gb
    have ga' := Option.some.inj ga
    have gb' := Option.some.inj gb
    simp only [ptD] at k1 k2 q
    simp at q
    refine start hC (nf := N669_law14_TransectPoints) rfl rfl ?_
    simp [N669_law14_TransectPoints, ptD]
    refine callW_of k0 (.inl rfl) ?_
    simp
    refine callW_of k1 (.inr rfl) ?_
    simp
    refine callW_of k2 (.inr rfl) ?_
    simp
    refine callW_of q (.inl rfl) ?_
    simp [hl, hw, hP0, hPN, ga', gb']
    exact indW_of (by decide +kernel)
  · rw [if_neg h] at k1 k2
    have q := eqPtR_c hC true true [] (by simp)
    simp only [ptD] at k1 k2 q
    simp at q
    refine start hC (nf := N669_law14_TransectPoints) rfl rfl ?_
    simp [N669_law14_TransectPoints, ptD]
    refine callW_of k0 (.inl rfl) ?_
    simp
    refine callW_of k1 (.inr rfl) ?_
    simp
    refine callW_of k2 (.inr rfl) ?_
    simp
    refine callW_of q (.inl rfl) ?_
    simp [h]
    exact indW_of (by decide +kernel)
end Go.Gv
