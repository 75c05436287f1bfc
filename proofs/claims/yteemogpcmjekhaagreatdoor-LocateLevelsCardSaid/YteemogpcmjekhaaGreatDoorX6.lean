/-
  Texts of the proof: I1, V1, M3, M4, P3, Z1, Z2, V2, Z3, K3, H1, H2, H3, H4, H5, H6.
-/
import Derived.Test.YteemogpcmjekhaaGreatDoorX5
set_option linter.all false
set_option linter.unusedSimpArgs false
namespace Go.Gv
open Go.Lib
variable {C : CC} (hC : Closed prog C)
include hC
theorem qSize_c (n : Nat) (h : n < 9223372036854775808) : C 86 [.int .i64 n] (.int .u64 (n : Int)) [] := by
  refine start hC (nf := N86_ref03_Size) rfl rfl ?_
  simp [N86_ref03_Size, wrapN n (by omega)]
  refine brB_of (fun h1 => ?_) (fun h1 => ?_) <;> simp at h1 <;> simp [h1, wrapN n (by omega)]
  omega
theorem qLess_c (a b c d : Nat) : C 87 [.agg [.int .u64 a, .int .u64 b], .agg [.int .u64 c, .int .u64 d]] (.bool (decide (a < c ∨ (a = c ∧ b < d)))) [] := by
  refine start hC (nf := N87_ref03_Less) rfl rfl ?_
  simp [N87_ref03_Less]
  refine brB_of (fun h => ?_) (fun h => ?_) <;> simp at h <;> simp [h]
  have h3 : ¬ a < c := by omega
  refine brB_of (fun h2 => ?_) (fun h2 => ?_) <;> simp at h2 <;> simp [h2, h3]
  · have h4 : a = c := by omega
    simp [h4]
  · omega
theorem qMinus_c (a b c d p q : Nat) (ha : a < 18446744073709551616) (hb : b < 18446744073709551616) (hd : d < 18446744073709551616) (hq : q < 18446744073709551616) (h : p * 18446744073709551616 + q + (c * 18446744073709551616 + d) = a * 18446744073709551616 + b) : C 95 [.agg [.int .u64 a, .int .u64 b], .agg [.int .u64 c, .int .u64 d]] (.agg [.int .u64 p, .int .u64 q]) [] := by
  refine start hC (nf := N95_ref03_Minus) rfl rfl ?_
  simp [N95_ref03_Minus]
  have e3 : IntKind.u64.wrap ((b : Int) - (d : Int)) = (q : Int) := uw (by omega) hq
  refine brB_of (fun h1 => ?_) (fun h1 => ?_) <;> simp at h1 <;> simp [h1, e3]
  · have e1 : IntKind.u64.wrap ((a : Int) - (c : Int)) = ((p + 1 : Nat) : Int) := uw (by omega) (by omega)
    rw [e1]
    exact uw (by omega) (by omega)
  · exact uw (by omega) (by omega)
theorem qMul_c (x y : Nat) (hx : x < 18446744073709551616) (hy : y < 18446744073709551616) : C 85 [.int .u64 x, .int .u64 y] (wideD (x * y)) [] := by
  refine start hC (nf := N85_ref03_Mul) rfl rfl ?_
  obtain ⟨bd, bt, bw, hhi⟩ := Lib.mul64_hi x y hx hy
  have ba := Lib.half_mul_le (a := x / 4294967296) (b := y / 4294967296) (by omega) (by omega)
  have bb := Lib.half_mul_le (a := x / 4294967296) (b := y % 4294967296) (by omega) (by omega)
  have bc := Lib.half_mul_le (a := x % 4294967296) (b := y / 4294967296) (by omega) (by omega)
  have hxy : x * y = x / 4294967296 * (y / 4294967296) * 18446744073709551616 + (x / 4294967296 * (y % 4294967296) + x % 4294967296 * (y / 4294967296)) * 4294967296 + x % 4294967296 * (y % 4294967296) := by
    have e1 : x = x / 4294967296 * 4294967296 + x % 4294967296 := by omega
    have e2 : y = y / 4294967296 * 4294967296 + y % 4294967296 := by omega
    generalize x / 4294967296 = ah at *
    generalize x % 4294967296 = al at *
    generalize y / 4294967296 = bh at *
    generalize y % 4294967296 = bl at *
    rw [e1, e2, Nat.add_mul, Nat.mul_add, Nat.mul_add, Nat.add_mul]
    rw [show ah * 4294967296 * (bh * 4294967296) = ah * bh * 18446744073709551616 by rw [Nat.mul_assoc, Nat.mul_left_comm 4294967296, ← Nat.mul_assoc]]
    rw [show ah * 4294967296 * bl = ah * bl * 4294967296 by rw [Nat.mul_right_comm], show al * (bh * 4294967296) = al * bh * 4294967296 by rw [Nat.mul_assoc]]
    omega
  obtain ⟨P, hP⟩ : ∃ P, P = x / 4294967296 * (y / 4294967296) := ⟨_, rfl⟩
  obtain ⟨Q, hQ⟩ : ∃ Q, Q = x / 4294967296 * (y % 4294967296) := ⟨_, rfl⟩
  obtain ⟨R, hR⟩ : ∃ R, R = x % 4294967296 * (y / 4294967296) := ⟨_, rfl⟩
  obtain ⟨L, hL⟩ : ∃ L, L = x % 4294967296 * (y % 4294967296) := ⟨_, rfl⟩
  obtain ⟨Z, hZ⟩ : ∃ Z, Z = x * y := ⟨_, rfl⟩
  rw [← hP, ← hQ, ← hR, ← hL, ← hZ] at hxy
  rw [← hP] at ba
  rw [← hQ] at bb
  rw [← hR] at bc
  rw [← hL] at bd
  obtain ⟨zh, hzh⟩ : ∃ zh, zh = Z / 18446744073709551616 := ⟨_, rfl⟩
  obtain ⟨zl, hzl⟩ : ∃ zl, zl = Z % 18446744073709551616 := ⟨_, rfl⟩
  rw [← hZ, wideD, ← hzh, ← hzl]
  simp [N85_ref03_Mul]
  simp only [maskN x hx, maskN y hy, shr32, mulN, ← hP, ← hQ, ← hR, ← hL, wrapN L bd, wrapN P (by omega), wrapN Q (by omega), wrapN R (by omega), addN]
  obtain ⟨M, hM⟩ : ∃ M, M = Q + L / 4294967296 := ⟨_, rfl⟩
  have hM1 : M < 18446744073709551616 := by omega
  rw [← hM, wrapN M hM1, shr32, maskN M hM1, maskN L bd, addN]
  obtain ⟨O, hO⟩ : ∃ O, O = R + M % 4294967296 := ⟨_, rfl⟩
  have hO1 : O < 18446744073709551616 := by omega
  obtain ⟨O2, hO2⟩ : ∃ O2, O2 = O * 4294967296 % 18446744073709551616 := ⟨_, rfl⟩
  simp only [addN R, ← hO, wrapN O hO1, shr32, shl32 O O2 hO2]
  rw [wrapN (P + M / 4294967296) (by omega), addN, addN, wrapN _ (by omega), wrapN _ (by omega)]
  clear hP hQ hR hL hZ bt bw hhi
  exact ⟨by omega, by omega⟩
theorem qMade_c (a b : Nat) : C 84 [.agg [.int .u64 a, .int .u64 b], .bool false] (.agg [.int .u64 a, .int .u64 b, .bool false]) [] := by
  refine start hC (nf := N84_ref03_Made) rfl rfl ?_
  simp [N84_ref03_Made]
  exact indW_of (by decide +kernel)
theorem qTimes_c (x y : Nat) (hx : x < 9223372036854775808) (hy : y < 9223372036854775808) : C 67 [.int .i64 x, .int .i64 y] (.agg [.int .u64 ((x * y / 18446744073709551616 : Nat) : Int), .int .u64 ((x * y % 18446744073709551616 : Nat) : Int), .bool false]) [] := by
  refine start hC (nf := N67_ref03_Times) rfl rfl ?_
  have h0 : ¬ (x : Int) < 0 := by omega
  have h1 : ¬ (y : Int) < 0 := by omega
  have hm := qMul_c hC x y (by omega) (by omega)
  rw [wideD] at hm
  obtain ⟨zh, hzh⟩ : ∃ zh, zh = x * y / 18446744073709551616 := ⟨_, rfl⟩
  obtain ⟨zl, hzl⟩ : ∃ zl, zl = x * y % 18446744073709551616 := ⟨_, rfl⟩
  rw [← hzh, ← hzl] at hm ⊢
  simp [N67_ref03_Times]
  refine callW_of (qSize_c hC x hx) (.inl rfl) ?_
  simp
  refine callW_of (qSize_c hC y hy) (.inl rfl) ?_
  simp
  refine callW_of hm (.inl rfl) ?_
  simp [h0, h1]
  refine callW_of (qMade_c hC zh zl) (.inl rfl) ?_
  simp
theorem qMadeT_c (a b : Nat) : C 84 [.agg [.int .u64 a, .int .u64 b], .bool true] (.agg [.int .u64 a, .int .u64 b, .bool (!(decide (a = 0) && decide (b = 0)))]) [] := by
  refine start hC (nf := N84_ref03_Made) rfl rfl ?_
  simp [N84_ref03_Made]
  exact indW_of (by decide +kernel)
theorem qOpp_c (a b : Nat) : C 338 [.agg [.int .u64 a, .int .u64 b, .bool false]] (.agg [.int .u64 a, .int .u64 b, .bool (!(decide (a = 0) && decide (b = 0)))]) [] := by
  have k := qMadeT_c hC a b
  obtain ⟨n, hn⟩ : ∃ n, n = !(decide (a = 0) && decide (b = 0)) := ⟨_, rfl⟩
  rw [← hn] at k ⊢
  refine start hC (nf := N338_ref03_Opposite) rfl rfl ?_
  simp [N338_ref03_Opposite]
  refine callW_of k (.inl rfl) ?_
  simp
theorem qPlus0_c (a b : Nat) (ha : a < 18446744073709551616) (hb : b < 18446744073709551616) : C 83 [.agg [.int .u64 a, .int .u64 b], .agg [.int .u64 0, .int .u64 0]] (.agg [.int .u64 a, .int .u64 b]) [] := by
  have w1 := wrapN a ha
  have w2 := wrapN b hb
  refine start hC (nf := N83_ref03_Plus) rfl rfl ?_
  simp [N83_ref03_Plus, w1, w2]
theorem qSum0_c (a b : Nat) (ha : a < 18446744073709551616) (hb : b < 18446744073709551616) : C 337 [.agg [.int .u64 a, .int .u64 b, .bool false], .agg [.int .u64 0, .int .u64 0, .bool false]] (.agg [.int .u64 a, .int .u64 b, .bool false]) [] := by
  refine start hC (nf := N337_ref03_Sum) rfl rfl ?_
  simp [N337_ref03_Sum]
  refine callW_of (qPlus0_c hC a b ha hb) (.inl rfl) ?_
  simp
  refine callW_of (qMade_c hC a b) (.inl rfl) ?_
  simp
  exact indW_of (by decide +kernel)
theorem qSumL_c (a b c d p q : Nat) (ha : c < 18446744073709551616) (hb : d < 18446744073709551616) (hd : b < 18446744073709551616) (hq : q < 18446744073709551616) (h : p * 18446744073709551616 + q + (a * 18446744073709551616 + b) = c * 18446744073709551616 + d) (hl : a < c ∨ (a = c ∧ b < d)) : C 337 [.agg [.int .u64 a, .int .u64 b, .bool false], .agg [.int .u64 c, .int .u64 d, .bool true]] (.agg [.int .u64 p, .int .u64 q, .bool true]) [] := by
  have k1 := qLess_c hC a b c d
  rw [decide_eq_true hl] at k1
  have k2 := qMinus_c hC c d a b p q ha hb hd hq h
  have k3 := qMadeT_c hC p q
  rw [show (!(decide (p = 0) && decide (q = 0))) = true by simp; omega] at k3
  refine start hC (nf := N337_ref03_Sum) rfl rfl ?_
  simp [N337_ref03_Sum]
  refine callW_of k1 (.inl rfl) ?_
  simp
  refine callW_of k2 (.inl rfl) ?_
  simp
  refine callW_of k3 (.inl rfl) ?_
  simp
  exact indW_of (by decide +kernel)
theorem qSumG_c (a b c d p q : Nat) (ha : a < 18446744073709551616) (hb : b < 18446744073709551616) (hd : d < 18446744073709551616) (hq : q < 18446744073709551616) (h : p * 18446744073709551616 + q + (c * 18446744073709551616 + d) = a * 18446744073709551616 + b) (hl : ¬ (a < c ∨ (a = c ∧ b < d))) : C 337 [.agg [.int .u64 a, .int .u64 b, .bool false], .agg [.int .u64 c, .int .u64 d, .bool true]] (.agg [.int .u64 p, .int .u64 q, .bool false]) [] := by
  have k1 := qLess_c hC a b c d
  rw [decide_eq_false hl] at k1
  have k2 := qMinus_c hC a b c d p q ha hb hd hq h
  have k3 := qMade_c hC p q
  refine start hC (nf := N337_ref03_Sum) rfl rfl ?_
  simp [N337_ref03_Sum]
  refine callW_of k1 (.inl rfl) ?_
  simp
  refine callW_of k2 (.inl rfl) ?_
  simp
  refine callW_of k3 (.inl rfl) ?_
  simp
  exact indW_of (by decide +kernel)
def nmD (x : Nat) : D := .agg [.int .u64 ((x / 18446744073709551616 : Nat) : Int), .int .u64 ((x % 18446744073709551616 : Nat) : Int), .bool false]
end Go.Gv

set_option linter.unusedSimpArgs false
namespace Go.Gv
open Go.Lib
/-- A wide integer. -/
def wiS (v : Int) : D := .agg [.int .i64 (v / 1152921504606846976), .int .i64 (v % 1152921504606846976)]
theorem wiS_nat (p : Nat) : wiS p = wiD p := by simp [wiS, wiD]
theorem cmp3_div (p r : Int) : (if cmp3 (p / 1152921504606846976) (r / 1152921504606846976) ≠ 0 then cmp3 (p / 1152921504606846976) (r / 1152921504606846976) else cmp3 (p % 1152921504606846976) (r % 1152921504606846976)) = cmp3 p r := by
  unfold cmp3
  have h1 := Int.mul_ediv_add_emod p 1152921504606846976
  have h2 := Int.mul_ediv_add_emod r 1152921504606846976
  have h3 := Int.emod_nonneg p (show (1152921504606846976 : Int) ≠ 0 by decide)
  have h4 := Int.emod_nonneg r (show (1152921504606846976 : Int) ≠ 0 by decide)
  have h5 := Int.emod_lt_of_pos p (show (0 : Int) < 1152921504606846976 by decide)
  have h6 := Int.emod_lt_of_pos r (show (0 : Int) < 1152921504606846976 by decide)
  obtain ⟨a, ha⟩ : ∃ a, a = p / 1152921504606846976 := ⟨_, rfl⟩
  obtain ⟨b, hb⟩ : ∃ b, b = r / 1152921504606846976 := ⟨_, rfl⟩
  obtain ⟨c, hc⟩ : ∃ c, c = p % 1152921504606846976 := ⟨_, rfl⟩
  obtain ⟨d, hd⟩ : ∃ d, d = r % 1152921504606846976 := ⟨_, rfl⟩
  rw [← ha, ← hb, ← hc, ← hd]
  rw [← ha, ← hc] at h1
  rw [← hb, ← hd] at h2
  rw [← hc] at h3 h5
  rw [← hd] at h4 h6
  clear ha hb hc hd
  by_cases e1 : a < b
  · rw [if_pos e1, if_pos (by decide), if_pos (by omega)]
  · rw [if_neg e1]
    by_cases e2 : b < a
    · rw [if_pos e2, if_pos (by decide), if_neg (by omega), if_pos (by omega)]
    · have : a = b := by omega
      subst this
      rw [if_neg e2, if_neg (show ¬ (0 : Int) ≠ 0 by decide)]
      by_cases e3 : c < d
      · rw [if_pos e3, if_pos (by omega)]
      · rw [if_neg e3]
        by_cases e4 : d < c
        · rw [if_pos e4, if_neg (by omega), if_pos (by omega)]
        · rw [if_neg e4, if_neg (by omega), if_neg (by omega)]
variable {C : CC} (hC : Closed prog C)
include hC
theorem wsizeN_c (n : Nat) (h0 : 0 < n) (h : n < 9223372036854775808) : C 112 [.int .i64 (-(n : Int))] (.int .u64 (n : Int)) [] := by
  have e1 : IntKind.u64.wrap (-(n : Int)) = ((18446744073709551616 - n : Nat) : Int) := uw (by omega) (by omega)
  have e2 : IntKind.u64.wrap (-((18446744073709551616 - n : Nat) : Int)) = (n : Int) := uw (by omega) (by omega)
  have h1 : (-(n : Int)) < 0 := by omega
  refine start hC (nf := N112_wide_size) rfl rfl ?_
  obtain ⟨z, hz⟩ : ∃ z, z = -(n : Int) := ⟨_, rfl⟩
  obtain ⟨y, hy⟩ : ∃ y, y = ((18446744073709551616 - n : Nat) : Int) := ⟨_, rfl⟩
  rw [← hz] at e1 h1 ⊢
  rw [← hy] at e1 e2
  simp [N112_wide_size, h1, e1, e2]
theorem placedN_c (p : Nat) (h0 : 0 < p) (h : p < 1329227995784915872903807060280344576) : C 105 [numD p true] (.tup [wiS (-(p : Int)), .int .i64 0]) [] := by
  obtain ⟨ph, hph⟩ : ∃ z, z = p / 1152921504606846976 := ⟨_, rfl⟩
  obtain ⟨pl, hpl⟩ : ∃ z, z = p % 1152921504606846976 := ⟨_, rfl⟩
  obtain ⟨zh, hzh⟩ : ∃ z, z = p / 18446744073709551616 := ⟨_, rfl⟩
  obtain ⟨zl, hzl⟩ : ∃ z, z = p % 18446744073709551616 := ⟨_, rfl⟩
  obtain ⟨qh, hqh⟩ : ∃ z, z = (-(p : Int)) / 1152921504606846976 := ⟨_, rfl⟩
  obtain ⟨ql, hql⟩ : ∃ z, z = (-(p : Int)) % 1152921504606846976 := ⟨_, rfl⟩
  rw [wiS, numD, ← hzh, ← hzl, ← hqh, ← hql]
  obtain ⟨zt, hzt⟩ : ∃ z, z = zl / 1152921504606846976 := ⟨_, rfl⟩
  have h1 : ¬ (72057594037927936 : Int) < zh := by omega
  have h2 : ¬ (zh : Int) = 72057594037927936 := by omega
  have e1 := shl4 zh (zh * 16) (by omega)
  have e2 := shr60 zl
  rw [← hzt] at e2
  have e3 := or16 zh zt (by omega) (by omega)
  have e4 : IntKind.i64.wrap ((zh * 16 + zt : Nat) : Int) = (ph : Int) := wrap_i64 (by omega) (by omega)
  have e5 := mask60 zl (by omega)
  have e6 : IntKind.i64.wrap ((zl % 1152921504606846976 : Nat) : Int) = (pl : Int) := wrap_i64 (by omega) (by omega)
  have e7 : IntKind.i64.wrap (-(ph : Int)) = -(ph : Int) := wrap_i64 rfl (by omega)
  have e8 : IntKind.i64.wrap (-(ph : Int) - 1) = -(ph : Int) - 1 := wrap_i64 rfl (by omega)
  have e9 : IntKind.i64.wrap (1152921504606846976 - (pl : Int)) = 1152921504606846976 - (pl : Int) := wrap_i64 rfl (by omega)
  refine start hC (nf := N105_wide_placed) rfl rfl ?_
  simp [N105_wide_placed, h1, h2, e2, -Int.natCast_mul, -Int.natCast_emod]
  refine ⟨indW_of (by decide +kernel), ?_⟩
  rw [e1, e3, e4, e5, e6]
  simp
  refine brB_of (fun c1 => ?_) (fun c1 => ?_) <;> simp at c1
  · simp [c1, e7]
    omega
  · simp [c1, e7, e8, e9]
    omega
theorem wvalidS_c (v : Int) (h : -1329227995784915872903807060280344576 ≤ v ∧ v < 1329227995784915872903807060280344576) : C 106 [wiS v] (.bool true) [] := by
  obtain ⟨ph, hph⟩ : ∃ z, z = v / 1152921504606846976 := ⟨_, rfl⟩
  obtain ⟨pl, hpl⟩ : ∃ z, z = v % 1152921504606846976 := ⟨_, rfl⟩
  rw [wiS, ← hph, ← hpl]
  have h1 : (-1152921504606846976 : Int) ≤ ph := by omega
  have h2 : ph < 1152921504606846976 := by omega
  have h3 : 0 ≤ pl := by omega
  have h4 : pl < 1152921504606846976 := by omega
  refine start hC (nf := N106_wide_Valid) rfl rfl ?_
  simp [N106_wide_Valid, h1, h2, h3, h4]
end Go.Gv

set_option linter.unusedSimpArgs false
namespace Go.Gv
open Go.Lib

variable {C : CC} (hC : Closed prog C)
include hC
theorem rSize_c (n : Nat) (h : n < 9223372036854775808) : C 86 [.int .i64 n] (.int .u64 (n : Int)) [] := by
  refine start hC (nf := N86_ref03_Size) rfl rfl ?_
  simp [N86_ref03_Size, wrapN n (by omega)]
  refine brB_of (fun h1 => ?_) (fun h1 => ?_) <;> simp at h1 <;> simp [h1, wrapN n (by omega)]
  omega
theorem rLess_c (a b c d : Nat) : C 87 [.agg [.int .u64 a, .int .u64 b], .agg [.int .u64 c, .int .u64 d]] (.bool (decide (a < c ∨ (a = c ∧ b < d)))) [] := by
  refine start hC (nf := N87_ref03_Less) rfl rfl ?_
  simp [N87_ref03_Less]
  refine brB_of (fun h => ?_) (fun h => ?_) <;> simp at h <;> simp [h]
  have h3 : ¬ a < c := by omega
  refine brB_of (fun h2 => ?_) (fun h2 => ?_) <;> simp at h2 <;> simp [h2, h3]
  · have h4 : a = c := by omega
    simp [h4]
  · omega
theorem rMinus_c (a b c d p q : Nat) (ha : a < 18446744073709551616) (hb : b < 18446744073709551616) (hd : d < 18446744073709551616) (hq : q < 18446744073709551616) (h : p * 18446744073709551616 + q + (c * 18446744073709551616 + d) = a * 18446744073709551616 + b) : C 95 [.agg [.int .u64 a, .int .u64 b], .agg [.int .u64 c, .int .u64 d]] (.agg [.int .u64 p, .int .u64 q]) [] := by
  refine start hC (nf := N95_ref03_Minus) rfl rfl ?_
  simp [N95_ref03_Minus]
  have e3 : IntKind.u64.wrap ((b : Int) - (d : Int)) = (q : Int) := uw (by omega) hq
  refine brB_of (fun h1 => ?_) (fun h1 => ?_) <;> simp at h1 <;> simp [h1, e3]
  · have e1 : IntKind.u64.wrap ((a : Int) - (c : Int)) = ((p + 1 : Nat) : Int) := uw (by omega) (by omega)
    rw [e1]
    exact uw (by omega) (by omega)
  · exact uw (by omega) (by omega)
theorem rShift_c (a b w t p q : Nat) (hb : b < 18446744073709551616) (hw : w ≤ 1) (hp : p < 18446744073709551616) (hq : q < 18446744073709551616) (ht : (a * 18446744073709551616 + b) * 2 + w = (t * 18446744073709551616 + p) * 18446744073709551616 + q) : C 94 [.agg [.int .u64 a, .int .u64 b], .int .u64 w] (.agg [.int .u64 p, .int .u64 q]) [] := by
  refine start hC (nf := N94_ref03_Shift) rfl rfl ?_
  simp [N94_ref03_Shift]
  obtain ⟨a2, ha2⟩ : ∃ a2, a2 = a * 2 % 18446744073709551616 := ⟨_, rfl⟩
  obtain ⟨b2, hb2⟩ : ∃ b2, b2 = b * 2 % 18446744073709551616 := ⟨_, rfl⟩
  obtain ⟨c, hc⟩ : ∃ c, c = b / 9223372036854775808 := ⟨_, rfl⟩
  rw [shr63, shl1 a a2 ha2, shl1 b b2 hb2, ← hc]
  exact ⟨uw (by omega) hp, uw (by omega) hq⟩
theorem rMul_c (x y : Nat) (hx : x < 18446744073709551616) (hy : y < 18446744073709551616) : C 85 [.int .u64 x, .int .u64 y] (wideD (x * y)) [] := by
  refine start hC (nf := N85_ref03_Mul) rfl rfl ?_
  obtain ⟨bd, bt, bw, hhi⟩ := Lib.mul64_hi x y hx hy
  have ba := Lib.half_mul_le (a := x / 4294967296) (b := y / 4294967296) (by omega) (by omega)
  have bb := Lib.half_mul_le (a := x / 4294967296) (b := y % 4294967296) (by omega) (by omega)
  have bc := Lib.half_mul_le (a := x % 4294967296) (b := y / 4294967296) (by omega) (by omega)
  have hxy : x * y = x / 4294967296 * (y / 4294967296) * 18446744073709551616 + (x / 4294967296 * (y % 4294967296) + x % 4294967296 * (y / 4294967296)) * 4294967296 + x % 4294967296 * (y % 4294967296) := by
    have e1 : x = x / 4294967296 * 4294967296 + x % 4294967296 := by omega
    have e2 : y = y / 4294967296 * 4294967296 + y % 4294967296 := by omega
    generalize x / 4294967296 = ah at *
    generalize x % 4294967296 = al at *
    generalize y / 4294967296 = bh at *
    generalize y % 4294967296 = bl at *
    rw [e1, e2, Nat.add_mul, Nat.mul_add, Nat.mul_add, Nat.add_mul]
    rw [show ah * 4294967296 * (bh * 4294967296) = ah * bh * 18446744073709551616 by rw [Nat.mul_assoc, Nat.mul_left_comm 4294967296, ← Nat.mul_assoc]]
    rw [show ah * 4294967296 * bl = ah * bl * 4294967296 by rw [Nat.mul_right_comm], show al * (bh * 4294967296) = al * bh * 4294967296 by rw [Nat.mul_assoc]]
    omega
  obtain ⟨P, hP⟩ : ∃ P, P = x / 4294967296 * (y / 4294967296) := ⟨_, rfl⟩
  obtain ⟨Q, hQ⟩ : ∃ Q, Q = x / 4294967296 * (y % 4294967296) := ⟨_, rfl⟩
  obtain ⟨R, hR⟩ : ∃ R, R = x % 4294967296 * (y / 4294967296) := ⟨_, rfl⟩
  obtain ⟨L, hL⟩ : ∃ L, L = x % 4294967296 * (y % 4294967296) := ⟨_, rfl⟩
  obtain ⟨Z, hZ⟩ : ∃ Z, Z = x * y := ⟨_, rfl⟩
  rw [← hP, ← hQ, ← hR, ← hL, ← hZ] at hxy
  rw [← hP] at ba
  rw [← hQ] at bb
  rw [← hR] at bc
  rw [← hL] at bd
  obtain ⟨zh, hzh⟩ : ∃ zh, zh = Z / 18446744073709551616 := ⟨_, rfl⟩
  obtain ⟨zl, hzl⟩ : ∃ zl, zl = Z % 18446744073709551616 := ⟨_, rfl⟩
  rw [← hZ, wideD, ← hzh, ← hzl]
  simp [N85_ref03_Mul]
  simp only [maskN x hx, maskN y hy, shr32, mulN, ← hP, ← hQ, ← hR, ← hL, wrapN L bd, wrapN P (by omega), wrapN Q (by omega), wrapN R (by omega), addN]
  obtain ⟨M, hM⟩ : ∃ M, M = Q + L / 4294967296 := ⟨_, rfl⟩
  have hM1 : M < 18446744073709551616 := by omega
  rw [← hM, wrapN M hM1, shr32, maskN M hM1, maskN L bd, addN]
  obtain ⟨O, hO⟩ : ∃ O, O = R + M % 4294967296 := ⟨_, rfl⟩
  have hO1 : O < 18446744073709551616 := by omega
  obtain ⟨O2, hO2⟩ : ∃ O2, O2 = O * 4294967296 % 18446744073709551616 := ⟨_, rfl⟩
  simp only [addN R, ← hO, wrapN O hO1, shr32, shl32 O O2 hO2]
  rw [wrapN (P + M / 4294967296) (by omega), addN, addN, wrapN _ (by omega), wrapN _ (by omega)]
  clear hP hQ hR hL hZ bt bw hhi
  exact ⟨by omega, by omega⟩
end Go.Gv

set_option linter.unusedSimpArgs false
namespace Go.Gv

/-- A quotient, bit by bit: a is what is left of x, shifted. -/
def DvS (x b i a q r : Nat) : Prop := i ≤ 128 ∧ r < b ∧ ∃ c, a = c * 2 ^ i ∧ c < 2 ^ (128 - i) ∧ (q * b + r) * 2 ^ (128 - i) + c = x
theorem DvS.step {x b i a q r : Nat} (h : DvS x b i a q r) (hi : i < 128) (hb : 0 < b) :
    a < 340282366920938463463374607431768211456 ∧ 2 * q ≤ x ∧
    ∀ w r' a', 2 * r + a / 170141183460469231731687303715884105728 = w * b + r' → r' < b → a' = 2 * a % 340282366920938463463374607431768211456 → DvS x b (i + 1) a' (2 * q + w) r' ∧ 2 * q + w ≤ x := by
  obtain ⟨_, hr, c, h1, h2, h3⟩ := h
  obtain ⟨m, hm⟩ : ∃ m, m + 1 = 128 - i := ⟨127 - i, by omega⟩
  have hm2 : m = 128 - (i + 1) := by omega
  rw [← hm, Nat.pow_succ] at h2 h3
  obtain ⟨V, hV⟩ : ∃ V, V = 2 ^ m := ⟨_, rfl⟩
  obtain ⟨W, hW⟩ : ∃ W, W = 2 ^ i := ⟨_, rfl⟩
  have hVW : V * W = 170141183460469231731687303715884105728 := by
    rw [hV, hW, ← Nat.pow_add, show m + i = 127 by omega]
  have hVp : 0 < V := by rw [hV]; exact Nat.two_pow_pos m
  rw [← hV] at h2 h3
  rw [← hW] at h1
  obtain ⟨t, ht⟩ : ∃ t, t = c / V := ⟨_, rfl⟩
  obtain ⟨d, hd⟩ : ∃ d, d = c % V := ⟨_, rfl⟩
  have hc : c = t * V + d := by rw [ht, hd, Nat.mul_comm]; exact (Nat.div_add_mod c V).symm
  have hdV : d < V := by rw [hd]; exact Nat.mod_lt _ hVp
  have ht1 : t ≤ 1 := by
    have : t < 2 := by rw [ht, Nat.div_lt_iff_lt_mul hVp]; omega
    omega
  have ha : a = t * 170141183460469231731687303715884105728 + d * W := by
    rw [h1, hc, Nat.add_mul, Nat.mul_assoc, hVW]
  have hdW : d * W < 170141183460469231731687303715884105728 := by
    have : (d + 1) * W ≤ V * W := Nat.mul_le_mul_right _ hdV
    rw [hVW, Nat.add_mul] at this
    have hWp : 0 < W := by rw [hW]; exact Nat.two_pow_pos i
    omega
  have hbit : a / 170141183460469231731687303715884105728 = t := by
    rw [ha]; generalize d * W = z at *; omega
  have fin : ∀ w r', 2 * r + t = w * b + r' → ((2 * q + w) * b + r') * V + d = x := fun w r' e => by
    have e1 : (2 * q + w) * b + r' = 2 * (q * b + r) + t := by
      rw [Nat.add_mul, Nat.mul_assoc]
      generalize q * b = z at *
      generalize w * b = z' at *
      omega
    rw [e1, ← h3, hc, Nat.add_mul, Nat.mul_comm V 2, ← Nat.mul_assoc, Nat.mul_comm (q * b + r) 2]
    omega
  have big : ∀ w r', 2 * r + t = w * b + r' → 2 * q + w ≤ x := fun w r' e => by
    have e1 := fin w r' e
    have e2 : 2 * q + w ≤ (2 * q + w) * b := Nat.le_mul_of_pos_right _ hb
    have e3 : (2 * q + w) * b + r' ≤ ((2 * q + w) * b + r') * V := Nat.le_mul_of_pos_right _ hVp
    omega
  refine ⟨?_, ?_, ?_⟩
  · rw [ha]; generalize d * W = z at *; omega
  · exact Nat.le_trans (Nat.le_add_right _ _) (big _ _ (Nat.div_add_mod' (2 * r + t) b).symm)
  · intro w r' a' e hr' ha'
    rw [hbit] at e
    refine ⟨⟨by omega, hr', d, ?_, ?_, ?_⟩, big w r' e⟩
    · rw [ha', ha, Nat.pow_succ, ← hW, Nat.mul_comm W 2, Nat.mul_left_comm]
      generalize d * W = z at *
      omega
    · rw [← hm2, ← hV]; exact hdV
    · rw [← hm2, ← hV]; exact fin w r' e
theorem DvS.last {x b a q r : Nat} (h : DvS x b 128 a q r) : q = x / b ∧ r = x % b := by
  obtain ⟨_, hr, c, h1, h2, h3⟩ := h
  simp at h2 h3
  subst h2
  simp at h3
  subst h3
  have hb : 0 < b := by omega
  rw [Nat.mul_comm, Nat.mul_add_div hb, Nat.div_eq_of_lt hr, Nat.mul_add_mod, Nat.mod_eq_of_lt hr]
  exact ⟨rfl, rfl⟩

variable {C : CC} (hC : Closed prog C)
include hC
theorem rMade_c (a b : Nat) : C 84 [.agg [.int .u64 a, .int .u64 b], .bool false] (.agg [.int .u64 a, .int .u64 b, .bool false]) [] := by
  refine start hC (nf := N84_ref03_Made) rfl rfl ?_
  simp [N84_ref03_Made]
  exact indW_of (by decide +kernel)
theorem rOfInt_c (n : Nat) (h : n < 9223372036854775808) : C 68 [.int .i64 n] (.agg [.int .u64 0, .int .u64 n, .bool false]) [] := by
  refine start hC (nf := N68_ref03_OfInt) rfl rfl ?_
  simp [N68_ref03_OfInt]
  refine callW_of (rSize_c hC n h) (.inl rfl) ?_
  have hm := rMade_c hC 0 n
  have h0 : ¬ (n : Int) < 0 := by omega
  simp [h0]
  refine callW_of hm (.inl rfl) ?_
  simp
theorem rTimes_c (x y : Nat) (hx : x < 9223372036854775808) (hy : y < 9223372036854775808) : C 67 [.int .i64 x, .int .i64 y] (.agg [.int .u64 ((x * y / 18446744073709551616 : Nat) : Int), .int .u64 ((x * y % 18446744073709551616 : Nat) : Int), .bool false]) [] := by
  refine start hC (nf := N67_ref03_Times) rfl rfl ?_
  have h0 : ¬ (x : Int) < 0 := by omega
  have h1 : ¬ (y : Int) < 0 := by omega
  have hm := rMul_c hC x y (by omega) (by omega)
  rw [wideD] at hm
  obtain ⟨zh, hzh⟩ : ∃ zh, zh = x * y / 18446744073709551616 := ⟨_, rfl⟩
  obtain ⟨zl, hzl⟩ : ∃ zl, zl = x * y % 18446744073709551616 := ⟨_, rfl⟩
  rw [← hzh, ← hzl] at hm ⊢
  simp [N67_ref03_Times]
  refine callW_of (rSize_c hC x hx) (.inl rfl) ?_
  simp
  refine callW_of (rSize_c hC y hy) (.inl rfl) ?_
  simp
  refine callW_of hm (.inl rfl) ?_
  simp [h0, h1]
  refine callW_of (rMade_c hC zh zl) (.inl rfl) ?_
  simp
set_option maxHeartbeats 2000000 in
theorem rDiv_c (x b : Nat) (hx : x < 340282366920938463463374607431768211456) (hb0 : 0 < b) (hb : b < 9223372036854775808) : C 82 [.agg [.int .u64 ((x / 18446744073709551616 : Nat) : Int), .int .u64 ((x % 18446744073709551616 : Nat) : Int)], .agg [.int .u64 0, .int .u64 b]]
    (.tup [.agg [.int .u64 ((x / b / 18446744073709551616 : Nat) : Int), .int .u64 ((x / b % 18446744073709551616 : Nat) : Int)], .agg [.int .u64 0, .int .u64 ((x % b : Nat) : Int)]]) [] := by
  obtain ⟨xh, hxh⟩ : ∃ xh, xh = x / 18446744073709551616 := ⟨_, rfl⟩
  obtain ⟨xl, hxl⟩ : ∃ xl, xl = x % 18446744073709551616 := ⟨_, rfl⟩
  obtain ⟨yh, hyh⟩ : ∃ yh, yh = x / b / 18446744073709551616 := ⟨_, rfl⟩
  obtain ⟨yl, hyl⟩ : ∃ yl, yl = x / b % 18446744073709551616 := ⟨_, rfl⟩
  obtain ⟨z, hz⟩ : ∃ z, z = x % b := ⟨_, rfl⟩
  rw [← hxh, ← hxl, ← hyh, ← hyl, ← hz]
  refine start hC (nf := N82_ref03_Div) rfl rfl ?_
  simp [N82_ref03_Div]
  refine loop_of (Nat × Nat × Nat × Nat × Nat × Nat) (fun s => [(2, .adr (.r 10032) 0 0), (3, .ptr [.int .u64 0, .int .u64 b]), (4, .adr (.r 10064) 0 0), (5, .adr (.r 10080) 0 0), (6, .adr (.r 10096) 0 0), (7, .adr (.r 10112) 0 0), (8, .int .i64 s.1),
      (10032, .blk 2 [[.int .u64 s.2.1, .int .u64 s.2.2.1]]), (10064, .blk 2 [[.int .u64 0, .int .u64 0]]), (10080, .blk 2 [[.int .u64 0, .int .u64 0]]), (10096, .blk 2 [[.int .u64 s.2.2.2.1, .int .u64 s.2.2.2.2.1]]), (10112, .blk 2 [[.int .u64 0, .int .u64 s.2.2.2.2.2]])])
    (fun s => s.2.2.1 < 18446744073709551616 ∧ s.2.2.2.2.1 < 18446744073709551616 ∧ DvS x b s.1 (s.2.1 * 18446744073709551616 + s.2.2.1) (s.2.2.2.1 * 18446744073709551616 + s.2.2.2.2.1) s.2.2.2.2.2) (fun s => 128 - s.1) (0, xh, xl, 0, 0, 0) ⟨by simp; omega, by simp, by omega, by simpa using hb0, x, by simp; omega, by simp; exact hx, by simp⟩ (by simp) ?_
  rintro ⟨i, ah, al, qh, ql, r⟩ ⟨hal, hql, hS⟩
  simp only at hal hql hS
  simp
  refine brB_of (fun c => ?_) (fun c => ?_) <;> simp at c <;> simp [c]
  · have hrb := hS.2.1
    have hw1 : IntKind.wrap .i64 ((i : Int) + 1) = ((i + 1 : Nat) : Int) := wrap_i64 (by omega) (by omega)
    obtain ⟨g1, g2, g3⟩ := hS.step (by omega) hb0
    obtain ⟨A, hA⟩ : ∃ A, A = ah * 18446744073709551616 + al := ⟨_, rfl⟩
    obtain ⟨Q, hQ⟩ : ∃ Q, Q = qh * 18446744073709551616 + ql := ⟨_, rfl⟩
    rw [← hA] at g1 g3
    rw [← hQ] at g2 g3
    obtain ⟨t, ht⟩ : ∃ t, t = ah / 9223372036854775808 := ⟨_, rfl⟩
    have ht2 : A / 170141183460469231731687303715884105728 = t := by omega
    rw [ht2] at g3
    obtain ⟨p, hp⟩ : ∃ p, p = 2 * A % 340282366920938463463374607431768211456 / 18446744073709551616 := ⟨_, rfl⟩
    obtain ⟨o, ho⟩ : ∃ o, o = 2 * A % 340282366920938463463374607431768211456 % 18446744073709551616 := ⟨_, rfl⟩
    have k1 := rShift_c hC ah al 0 t p o (by omega) (by omega) (by omega) (by omega) (by omega)
    have k2 := rShift_c hC 0 r t 0 0 (2 * r + t) (by omega) (by omega) (by omega) (by omega) (by omega)
    obtain ⟨u, hu⟩ : ∃ u, u = 2 * Q / 18446744073709551616 := ⟨_, rfl⟩
    obtain ⟨v, hv⟩ : ∃ v, v = 2 * Q % 18446744073709551616 := ⟨_, rfl⟩
    have k3 := rShift_c hC qh ql 0 0 u v (by omega) (by omega) (by omega) (by omega) (by omega)
    obtain ⟨r2, hr2⟩ : ∃ r2, r2 = 2 * r + t := ⟨_, rfl⟩
    rw [← hr2] at k2 g3
    have k4 := rLess_c hC 0 r2 0 b
    simp only [Int.natCast_zero] at k1 k2 k3 k4
    have hsh : Int.fdiv (ah : Int) (2 ^ min 63 IntKind.u64.bits) = (t : Int) := by rw [shr63, ht]
    have hsh0 : Int.fdiv 0 (2 ^ min 63 IntKind.u64.bits) = 0 := by simpa using shr63 0
    have e1 : p * 18446744073709551616 + o = 2 * A % 340282366920938463463374607431768211456 := by rw [hp, ho]; exact Nat.div_add_mod' _ _
    have e2 : u * 18446744073709551616 + v = 2 * Q := by rw [hu, hv]; exact Nat.div_add_mod' _ _
    simp [hsh]
    refine callW_of k1 (.inl rfl) ?_
    simp [hsh0]
    refine callW_of k2 (.inl rfl) ?_
    simp
    refine callW_of k3 (.inl rfl) ?_
    simp
    refine callW_of k4 (.inl rfl) ?_
    simp
    refine brB_of (fun d => ?_) (fun d => ?_) <;> simp at d <;> simp [d, hw1]
    · obtain ⟨r3, hr3⟩ : ∃ r3, r3 = r2 - b := ⟨_, rfl⟩
      have k5 := rMinus_c hC 0 r2 0 b 0 r3 (by omega) (by omega) (by omega) (by omega) (by clear g3 hp ho hu hv g1 g2 hx k1 k2 k3 k4 e1 e2; omega)
      simp only [Int.natCast_zero] at k5
      obtain ⟨m1, m2⟩ := g3 1 r3 (2 * A % 340282366920938463463374607431768211456) (by omega) (by omega) rfl
      have hve : v % 2 = 0 ∧ v < 18446744073709551616 := by
        clear g3 m1 m2 k1 k2 k3 k4 k5 hS e1 e2 hp ho g1 hA
        omega
      have hv1 : IntKind.u64.wrap ((v : Int) + 1) = ((v + 1 : Nat) : Int) := uw (.inl (by push_cast; rfl)) (by clear g3 m1 m2 hp ho hu hv; omega)
      refine callW_of k5 (.inl rfl) ?_
      simp [hv1, hw1]
      refine ⟨i + 1, p, o, u, v + 1, r3, ⟨by clear g3 m1 m2 hu hv; omega, by clear g3 m1 m2 hp ho hu hv; omega, ?_⟩, by omega, ?_⟩
      · rw [e1, ← Nat.add_assoc, e2]; exact m1
      · simp
    · obtain ⟨m1, m2⟩ := g3 0 r2 (2 * A % 340282366920938463463374607431768211456) (by omega) (by omega) rfl
      refine ⟨i + 1, p, o, u, v, r2, ⟨by omega, by omega, ?_⟩, by omega, ?_⟩
      · rw [e1, e2]; exact m1
      · simp
  · obtain rfl : i = 128 := by have := hS.1; omega
    obtain ⟨e1, e2⟩ := hS.last
    refine ⟨indW_of (by decide +kernel), ?_⟩
    rw [← hz] at e2
    subst e2
    obtain ⟨Y, hY⟩ : ∃ Y, Y = x / b := ⟨_, rfl⟩
    rw [← hY] at e1 hyh hyl
    have e3 : qh = yh := by omega
    have e4 : ql = yl := by omega
    subst e3 e4
    simp
end Go.Gv

set_option linter.unusedSimpArgs false
namespace Go.Gv
variable {C : CC} (hC : Closed prog C)
include hC
set_option maxRecDepth 8000 in
set_option maxHeartbeats 4000000 in
theorem rDivW_c (x b : Nat) (hx : x < 340282366920938463463374607431768211456) (hb0 : 0 < b) (hb : b < 170141183460469231731687303715884105728) : C 82 [.agg [.int .u64 ((x / 18446744073709551616 : Nat) : Int), .int .u64 ((x % 18446744073709551616 : Nat) : Int)], .agg [.int .u64 ((b / 18446744073709551616 : Nat) : Int), .int .u64 ((b % 18446744073709551616 : Nat) : Int)]]
    (.tup [.agg [.int .u64 ((x / b / 18446744073709551616 : Nat) : Int), .int .u64 ((x / b % 18446744073709551616 : Nat) : Int)], .agg [.int .u64 ((x % b / 18446744073709551616 : Nat) : Int), .int .u64 ((x % b % 18446744073709551616 : Nat) : Int)]]) [] := by
  obtain ⟨xh, hxh⟩ : ∃ xh, xh = x / 18446744073709551616 := ⟨_, rfl⟩
  obtain ⟨xl, hxl⟩ : ∃ xl, xl = x % 18446744073709551616 := ⟨_, rfl⟩
  obtain ⟨bh, hbh⟩ : ∃ bh, bh = b / 18446744073709551616 := ⟨_, rfl⟩
  obtain ⟨bl, hbl⟩ : ∃ bl, bl = b % 18446744073709551616 := ⟨_, rfl⟩
  obtain ⟨yh, hyh⟩ : ∃ yh, yh = x / b / 18446744073709551616 := ⟨_, rfl⟩
  obtain ⟨yl, hyl⟩ : ∃ yl, yl = x / b % 18446744073709551616 := ⟨_, rfl⟩
  obtain ⟨zh, hzh⟩ : ∃ z, z = x % b / 18446744073709551616 := ⟨_, rfl⟩
  obtain ⟨zl, hzl⟩ : ∃ z, z = x % b % 18446744073709551616 := ⟨_, rfl⟩
  rw [← hxh, ← hxl, ← hyh, ← hyl, ← hzh, ← hzl, ← hbh, ← hbl]
  have hbb : bh * 18446744073709551616 + bl = b := by rw [hbh, hbl]; exact Nat.div_add_mod' _ _
  have hbl2 : bl < 18446744073709551616 := by rw [hbl]; exact Nat.mod_lt _ (by decide)
  have hxl2 : xl < 18446744073709551616 := by rw [hxl]; exact Nat.mod_lt _ (by decide)
  have h00 : (0 : Nat) < 18446744073709551616 := by decide
  have hxx : xh * 18446744073709551616 + xl = x := by rw [hxh, hxl]; exact Nat.div_add_mod' _ _
  have hS0 : DvS x b 0 (xh * 18446744073709551616 + xl) (0 * 18446744073709551616 + 0) (0 * 18446744073709551616 + 0) := by
    rw [hxx]
    have hpow : (2 : Nat) ^ 128 = 340282366920938463463374607431768211456 := by decide +kernel
    exact ⟨by omega, by simpa using hb0, x, by simp, by rw [Nat.sub_zero, hpow]; exact hx, by simp⟩
  refine start hC (nf := N82_ref03_Div) rfl rfl ?_
  simp [N82_ref03_Div]
  refine loop_of (Nat × Nat × Nat × Nat × Nat × Nat × Nat) (fun s => [(2, .adr (.r 10032) 0 0), (3, .ptr [.int .u64 bh, .int .u64 bl]), (4, .adr (.r 10064) 0 0), (5, .adr (.r 10080) 0 0), (6, .adr (.r 10096) 0 0), (7, .adr (.r 10112) 0 0), (8, .int .i64 s.1),
      (10032, .blk 2 [[.int .u64 s.2.1, .int .u64 s.2.2.1]]), (10064, .blk 2 [[.int .u64 0, .int .u64 0]]), (10080, .blk 2 [[.int .u64 0, .int .u64 0]]), (10096, .blk 2 [[.int .u64 s.2.2.2.1, .int .u64 s.2.2.2.2.1]]), (10112, .blk 2 [[.int .u64 s.2.2.2.2.2.1, .int .u64 s.2.2.2.2.2.2]])])
    (fun s => s.2.2.1 < 18446744073709551616 ∧ s.2.2.2.2.1 < 18446744073709551616 ∧ s.2.2.2.2.2.2 < 18446744073709551616 ∧ DvS x b s.1 (s.2.1 * 18446744073709551616 + s.2.2.1) (s.2.2.2.1 * 18446744073709551616 + s.2.2.2.2.1) (s.2.2.2.2.2.1 * 18446744073709551616 + s.2.2.2.2.2.2)) (fun s => 128 - s.1) (0, xh, xl, 0, 0, 0, 0) ⟨hxl2, h00, h00, hS0⟩ (by simp) ?_
  rintro ⟨i, ah, al, qh, ql, rh, rl⟩ ⟨hal, hql, hrl, hS⟩
  simp only at hal hql hrl hS
  simp
  refine brB_of (fun c => ?_) (fun c => ?_) <;> simp at c <;> simp [c]
  · have hrb := hS.2.1
    have hw1 : IntKind.wrap .i64 ((i : Int) + 1) = ((i + 1 : Nat) : Int) := wrap_i64 (by omega) (by omega)
    obtain ⟨g1, g2, g3⟩ := hS.step (by omega) hb0
    obtain ⟨A, hA⟩ : ∃ A, A = ah * 18446744073709551616 + al := ⟨_, rfl⟩
    obtain ⟨Q, hQ⟩ : ∃ Q, Q = qh * 18446744073709551616 + ql := ⟨_, rfl⟩
    obtain ⟨r, hr⟩ : ∃ r, r = rh * 18446744073709551616 + rl := ⟨_, rfl⟩
    rw [← hA] at g1 g3
    rw [← hQ] at g2 g3
    rw [← hr] at g3 hrb
    obtain ⟨t, ht⟩ : ∃ t, t = ah / 9223372036854775808 := ⟨_, rfl⟩
    have ht2 : A / 170141183460469231731687303715884105728 = t := by omega
    rw [ht2] at g3
    have ht1 : t ≤ 1 := by omega
    have hrh : rh / 9223372036854775808 = 0 := by omega
    obtain ⟨p, hp⟩ : ∃ p, p = 2 * A % 340282366920938463463374607431768211456 / 18446744073709551616 := ⟨_, rfl⟩
    obtain ⟨o, ho⟩ : ∃ o, o = 2 * A % 340282366920938463463374607431768211456 % 18446744073709551616 := ⟨_, rfl⟩
    have k1 := rShift_c hC ah al 0 t p o (by omega) (by omega) (by omega) (by omega) (by omega)
    obtain ⟨R, hR⟩ : ∃ R, R = 2 * r + t := ⟨_, rfl⟩
    obtain ⟨Rh, hRh⟩ : ∃ z, z = R / 18446744073709551616 := ⟨_, rfl⟩
    obtain ⟨Rl, hRl⟩ : ∃ z, z = R % 18446744073709551616 := ⟨_, rfl⟩
    have k2 := rShift_c hC rh rl t 0 Rh Rl (by omega) (by omega) (by omega) (by omega) (by omega)
    obtain ⟨u, hu⟩ : ∃ u, u = 2 * Q / 18446744073709551616 := ⟨_, rfl⟩
    obtain ⟨v, hv⟩ : ∃ v, v = 2 * Q % 18446744073709551616 := ⟨_, rfl⟩
    have k3 := rShift_c hC qh ql 0 0 u v (by omega) (by omega) (by omega) (by omega) (by omega)
    rw [← hR] at g3
    have k4 := rLess_c hC Rh Rl bh bl
    have hlt : decide (Rh < bh ∨ (Rh = bh ∧ Rl < bl)) = decide (R < b) := by
      rw [Bool.eq_iff_iff, decide_eq_true_eq, decide_eq_true_eq]
      omega
    rw [hlt] at k4
    simp only [Int.natCast_zero] at k1 k3
    have hsh : Int.fdiv (ah : Int) (2 ^ min 63 IntKind.u64.bits) = (t : Int) := by rw [shr63, ht]
    have hsh0 : Int.fdiv (rh : Int) (2 ^ min 63 IntKind.u64.bits) = 0 := by rw [shr63, hrh]; rfl
    have e1 : p * 18446744073709551616 + o = 2 * A % 340282366920938463463374607431768211456 := by rw [hp, ho]; exact Nat.div_add_mod' _ _
    have e2 : u * 18446744073709551616 + v = 2 * Q := by rw [hu, hv]; exact Nat.div_add_mod' _ _
    have e3 : Rh * 18446744073709551616 + Rl = R := by rw [hRh, hRl]; exact Nat.div_add_mod' _ _
    simp [hsh]
    refine callW_of k1 (.inl rfl) ?_
    simp [hsh0]
    refine callW_of k2 (.inl rfl) ?_
    simp
    refine callW_of k3 (.inl rfl) ?_
    simp
    refine callW_of k4 (.inl rfl) ?_
    by_cases d : R < b
    · simp [d, hw1]
      obtain ⟨m1, m2⟩ := g3 0 R (2 * A % 340282366920938463463374607431768211456) (by omega) (by omega) rfl
      refine ⟨i + 1, p, o, u, v, Rh, Rl, ⟨by clear g3 m1 m2; omega, by clear g3 m1 m2; omega, by clear g3 m1 m2; omega, ?_⟩, by omega, ?_⟩
      · rw [e1, e2, e3]; exact m1
      · simp
    · simp [d, hw1]
      obtain ⟨r3, hr3⟩ : ∃ r3, r3 = R - b := ⟨_, rfl⟩
      obtain ⟨r3h, hr3h⟩ : ∃ z, z = r3 / 18446744073709551616 := ⟨_, rfl⟩
      obtain ⟨r3l, hr3l⟩ : ∃ z, z = r3 % 18446744073709551616 := ⟨_, rfl⟩
      obtain ⟨m1, m2⟩ := g3 1 r3 (2 * A % 340282366920938463463374607431768211456) (by omega) (by omega) rfl
      have hr3l2 : r3l < 18446744073709551616 := by rw [hr3l]; exact Nat.mod_lt _ (by decide)
      have e4 : r3h * 18446744073709551616 + r3l = r3 := by rw [hr3h, hr3l]; exact Nat.div_add_mod' _ _
      have hRl2 : Rl < 18446744073709551616 := by rw [hRl]; exact Nat.mod_lt _ (by decide)
      have k5 := rMinus_c hC Rh Rl bh bl r3h r3l (by clear g3 m1 m2 hp ho hu hv hS g1 g2 k1 k2 k3 k4 e1 e2; omega) hRl2 hbl2 hr3l2 (by rw [e4, hbb, e3, hr3]; exact Nat.sub_add_cancel (Nat.le_of_not_lt d))
      have hve : v % 2 = 0 ∧ v < 18446744073709551616 := by
        clear g3 m1 m2 k1 k2 k3 k4 k5 hS e1 e2 hp ho g1 hA
        omega
      have hv1 : IntKind.u64.wrap ((v : Int) + 1) = ((v + 1 : Nat) : Int) := uw (.inl (by push_cast; rfl)) (by clear g3 m1 m2 hp ho hu hv; omega)
      refine callW_of k5 (.inl rfl) ?_
      simp [hv1, hw1]
      refine ⟨i + 1, p, o, u, v + 1, r3h, r3l, ⟨by clear g3 m1 m2 hu hv; omega, by clear g3 m1 m2 hp ho hu hv; omega, hr3l2, ?_⟩, by omega, ?_⟩
      · rw [e1, ← Nat.add_assoc, e2, e4]; exact m1
      · simp
  · obtain rfl : i = 128 := by have := hS.1; omega
    obtain ⟨e1, e2⟩ := hS.last
    refine ⟨indW_of (by decide +kernel), ?_⟩
    obtain ⟨Y, hY⟩ : ∃ Y, Y = x / b := ⟨_, rfl⟩
    obtain ⟨Z, hZ⟩ : ∃ Z, Z = x % b := ⟨_, rfl⟩
    rw [← hY] at e1 hyh hyl
    rw [← hZ] at e2 hzh hzl
    have e3 : qh = yh := by omega
    have e4 : ql = yl := by omega
    have e5 : rh = zh := by omega
    have e6 : rl = zl := by omega
    subst e3 e4 e5 e6
    simp
end Go.Gv

set_option linter.unusedSimpArgs false
namespace Go.Gv
open Go.Lib
/-- An integer, as the reference has it. -/
def numS (v : Int) : D := numD v.natAbs (decide (v < 0))
theorem numS_at {v : Int} {p : Nat} {b : Bool} (h1 : v.natAbs = p) (h2 : decide (v < 0) = b) : numS v = numD p b := by rw [numS, h1, h2]
theorem numD_wide (p : Nat) (b : Bool) : ∃ x y : Nat, x = p / 18446744073709551616 ∧ y = p % 18446744073709551616 ∧ numD p b = .agg [.int .u64 x, .int .u64 y, .bool b] := ⟨_, _, rfl, rfl, rfl⟩
theorem wideD_parts (p : Nat) : ∃ x y : Nat, x = p / 18446744073709551616 ∧ y = p % 18446744073709551616 ∧ wideD p = .agg [.int .u64 x, .int .u64 y] := ⟨_, _, rfl, rfl, rfl⟩
theorem iw {n m : Int} (h : n = m ∨ n = m + 18446744073709551616) (h2 : -9223372036854775808 ≤ m ∧ m < 9223372036854775808) : IntKind.i64.wrap n = m := by
  have e1 : IntKind.i64.signed = true := rfl
  have e2 : (2 ^ (IntKind.i64.bits - 1) : Int) = 9223372036854775808 := rfl
  have e3 : (2 ^ IntKind.i64.bits : Int) = 18446744073709551616 := rfl
  unfold IntKind.wrap
  simp only [e1, e2, e3, Bool.true_and, decide_eq_true_eq]
  split <;> omega
variable {C : CC} (hC : Closed prog C)
include hC
theorem qSizeS_c (v : Int) (h : -9223372036854775808 ≤ v ∧ v < 9223372036854775808) : C 86 [.int .i64 v] (.int .u64 (v.natAbs : Int)) [] := by
  obtain ⟨n, hn⟩ : ∃ n, n = v.natAbs := ⟨_, rfl⟩
  rw [← hn]
  refine start hC (nf := N86_ref03_Size) rfl rfl ?_
  by_cases h0 : v < 0
  · have e1 : IntKind.u64.wrap v = ((18446744073709551616 - n : Nat) : Int) := uw (by omega) (by omega)
    have e2 : IntKind.u64.wrap (-((18446744073709551616 - n : Nat) : Int)) = (n : Int) := uw (by omega) (by omega)
    obtain ⟨y, hy⟩ : ∃ y, y = ((18446744073709551616 - n : Nat) : Int) := ⟨_, rfl⟩
    rw [← hy] at e1 e2
    simp [N86_ref03_Size, h0, e1, e2]
  · have e1 : IntKind.u64.wrap v = (n : Int) := uw (by omega) (by omega)
    simp [N86_ref03_Size, h0, e1]
theorem qMadeB_c (a b : Nat) (t : Bool) : C 84 [.agg [.int .u64 a, .int .u64 b], .bool t] (.agg [.int .u64 a, .int .u64 b, .bool (t && !(decide (a = 0) && decide (b = 0)))]) [] := by
  cases t
  · exact qMade_c hC a b
  · rw [Bool.true_and]; exact qMadeT_c hC a b
theorem qMadeN_c (p : Nat) (t : Bool) : C 84 [wideD p, .bool t] (numD p (t && !decide (p = 0))) [] := by
  obtain ⟨x, y, hx, hy, e⟩ := wideD_parts p
  have k := qMadeB_c hC x y t
  rw [show (decide (x = 0) && decide (y = 0)) = decide (p = 0) by rw [Bool.eq_iff_iff]; simp; omega] at k
  rw [e, numD, ← hx, ← hy]
  exact k
theorem qLessN_c (p r : Nat) : C 87 [wideD p, wideD r] (.bool (decide (p < r))) [] := by
  obtain ⟨x, y, hx, hy, e⟩ := wideD_parts p
  obtain ⟨z, w, hz, hw, e2⟩ := wideD_parts r
  have k := qLess_c hC x y z w
  rw [show decide (x < z ∨ (x = z ∧ y < w)) = decide (p < r) by rw [decide_eq_decide]; omega] at k
  rw [e, e2]
  exact k
theorem qMinusN_c (p r : Nat) (h : r ≤ p) (hp : p < 340282366920938463463374607431768211456) : C 95 [wideD p, wideD r] (wideD (p - r)) [] := by
  obtain ⟨x, y, hx, hy, e⟩ := wideD_parts p
  obtain ⟨z, w, hz, hw, e2⟩ := wideD_parts r
  obtain ⟨s, t, hs, ht, e3⟩ := wideD_parts (p - r)
  rw [e, e2, e3]
  exact qMinus_c hC x y z w s t (by omega) (by omega) (by omega) (by omega) (by omega)
theorem qPlusN_c (p r : Nat) (h : p + r < 340282366920938463463374607431768211456) : C 83 [wideD p, wideD r] (wideD (p + r)) [] := by
  obtain ⟨x, y, hx, hy, e⟩ := wideD_parts p
  obtain ⟨z, w, hz, hw, e2⟩ := wideD_parts r
  obtain ⟨s, t, hs, ht, e3⟩ := wideD_parts (p + r)
  rw [e, e2, e3]
  have e4 : IntKind.u64.wrap ((y : Int) + (w : Int)) = (t : Int) := uw (by omega) (by omega)
  refine start hC (nf := N83_ref03_Plus) rfl rfl ?_
  by_cases c : t < y
  · have e5 : IntKind.u64.wrap ((x : Int) + (z : Int)) = ((x + z : Nat) : Int) := uw (by omega) (by omega)
    have e6 : IntKind.u64.wrap (((x + z : Nat) : Int) + 1) = (s : Int) := uw (by omega) (by omega)
    have c2 : (t : Int) < y := by omega
    obtain ⟨u, hu⟩ : ∃ u, u = ((x + z : Nat) : Int) := ⟨_, rfl⟩
    rw [← hu] at e5 e6
    simp [N83_ref03_Plus, e4, e5, e6, c]
  · have e5 : IntKind.u64.wrap ((x : Int) + (z : Int)) = (s : Int) := uw (by omega) (by omega)
    have c2 : ¬ (t : Int) < y := by omega
    simp [N83_ref03_Plus, e4, e5, c]
theorem qSumS_c (x y : Int) (hx : x.natAbs < 170141183460469231731687303715884105728) (hy : y.natAbs < 170141183460469231731687303715884105728) : C 337 [numS x, numS y] (numS (x + y)) [] := by
  obtain ⟨p, hp⟩ : ∃ p, p = x.natAbs := ⟨_, rfl⟩
  obtain ⟨r, hr⟩ : ∃ r, r = y.natAbs := ⟨_, rfl⟩
  obtain ⟨s, hs⟩ : ∃ s, s = decide (x < 0) := ⟨_, rfl⟩
  obtain ⟨t, ht⟩ : ∃ t, t = decide (y < 0) := ⟨_, rfl⟩
  have k1 := qPlusN_c hC p r (by omega)
  have k2 := qMadeN_c hC (p + r) s
  have k3 := qLessN_c hC p r
  have k4 := fun h => qMinusN_c hC r p h (by omega)
  have k5 := qMadeN_c hC (r - p) t
  have k6 := fun h => qMinusN_c hC p r h (by omega)
  have k7 := qMadeN_c hC (p - r) s
  rw [numS_at hp.symm hs.symm, numS_at hr.symm ht.symm]
  obtain ⟨a1, a2, _, _, ea⟩ := wideD_parts p
  obtain ⟨b1, b2, _, _, eb⟩ := wideD_parts r
  have en : ∀ (q : Nat) (b : Bool) (c1 c2 : Nat), wideD q = .agg [.int .u64 c1, .int .u64 c2] → numD q b = .agg [.int .u64 c1, .int .u64 c2, .bool b] := fun q b c1 c2 h => by
    simp only [wideD, D.agg.injEq, List.cons.injEq, D.int.injEq, true_and, and_true] at h
    rw [numD, h.1, h.2]
  rw [en _ _ _ _ ea, en _ _ _ _ eb]
  rw [ea, eb] at k1 k3
  rw [ea, eb] at k4 k6
  by_cases c : s = t
  · have e : numS (x + y) = numD (p + r) (s && !decide (p + r = 0)) := numS_at (by
      subst c
      rw [hs, decide_eq_decide] at ht
      omega) (by
      subst c
      rw [hs] at ht ⊢
      rw [decide_eq_decide] at ht
      rw [Bool.eq_iff_iff]
      simp
      omega)
    rw [e]
    obtain ⟨d1, d2, _, _, ed⟩ := wideD_parts (p + r)
    rw [en _ _ _ _ ed]
    rw [en _ _ _ _ ed] at k2
    rw [ed] at k1 k2
    obtain ⟨w, hw⟩ : ∃ w, w = (s && !decide (p + r = 0)) := ⟨_, rfl⟩
    rw [← hw] at k2 ⊢
    subst c
    clear hs ht hw
    refine start hC (nf := N337_ref03_Sum) rfl rfl ?_
    simp [N337_ref03_Sum]
    refine callW_of k1 (.inl rfl) ?_
    simp
    refine callW_of k2 (.inl rfl) ?_
    simp
    exact indW_of (by decide +kernel)
  · have c3 : (s == t) = false := by simpa using c
    by_cases l : p < r
    · have e : numS (x + y) = numD (r - p) (t && !decide (r - p = 0)) := numS_at (by
        rw [hs, ht, decide_eq_decide] at c
        omega) (by
        rw [hs, ht, decide_eq_decide] at c
        rw [Bool.eq_iff_iff, ht]
        simp
        omega)
      have k4 := k4 (by omega)
      rw [e]
      obtain ⟨d1, d2, _, _, ed⟩ := wideD_parts (r - p)
      rw [en _ _ _ _ ed]
      rw [en _ _ _ _ ed] at k5
      rw [ed] at k4 k5
      obtain ⟨w, hw⟩ : ∃ w, w = (t && !decide (r - p = 0)) := ⟨_, rfl⟩
      rw [← hw] at k5 ⊢
      rw [decide_eq_true l] at k3
      clear hs ht hw
      refine start hC (nf := N337_ref03_Sum) rfl rfl ?_
      simp [N337_ref03_Sum, c3]
      refine callW_of k3 (.inl rfl) ?_
      simp
      refine callW_of k4 (.inl rfl) ?_
      simp
      refine callW_of k5 (.inl rfl) ?_
      simp
      exact indW_of (by decide +kernel)
    · have e : numS (x + y) = numD (p - r) (s && !decide (p - r = 0)) := numS_at (by
        rw [hs, ht, decide_eq_decide] at c
        omega) (by
        rw [hs, ht, decide_eq_decide] at c
        rw [Bool.eq_iff_iff, hs]
        simp
        omega)
      have k6 := k6 (by omega)
      rw [e]
      obtain ⟨d1, d2, _, _, ed⟩ := wideD_parts (p - r)
      rw [en _ _ _ _ ed]
      rw [en _ _ _ _ ed] at k7
      rw [ed] at k6 k7
      obtain ⟨w, hw⟩ : ∃ w, w = (s && !decide (p - r = 0)) := ⟨_, rfl⟩
      rw [← hw] at k7 ⊢
      rw [decide_eq_false l] at k3
      clear hs ht hw
      refine start hC (nf := N337_ref03_Sum) rfl rfl ?_
      simp [N337_ref03_Sum, c3]
      refine callW_of k3 (.inl rfl) ?_
      simp
      refine callW_of k6 (.inl rfl) ?_
      simp
      refine callW_of k7 (.inl rfl) ?_
      simp
      exact indW_of (by decide +kernel)
theorem qOppS_c (x : Int) : C 338 [numS x] (numS (-x)) [] := by
  obtain ⟨p, hp⟩ : ∃ p, p = x.natAbs := ⟨_, rfl⟩
  obtain ⟨s, hs⟩ : ∃ s, s = decide (x < 0) := ⟨_, rfl⟩
  have k := qMadeN_c hC p (!s)
  rw [numS_at hp.symm hs.symm, numS_at (v := -x) (p := p) (b := !s && !decide (p = 0)) (by omega) (by rw [hs, Bool.eq_iff_iff]; simp; omega)]
  obtain ⟨w, hw⟩ : ∃ w, w = (!s && !decide (p = 0)) := ⟨_, rfl⟩
  rw [← hw] at k ⊢
  rw [numD, numD]
  rw [numD, wideD] at k
  obtain ⟨a, ha⟩ : ∃ a, a = p / 18446744073709551616 := ⟨_, rfl⟩
  obtain ⟨b, hb⟩ : ∃ b, b = p % 18446744073709551616 := ⟨_, rfl⟩
  rw [← ha, ← hb] at k ⊢
  clear hw hs
  refine start hC (nf := N338_ref03_Opposite) rfl rfl ?_
  simp [N338_ref03_Opposite]
  refine callW_of k (.inl rfl) ?_
  simp
theorem qTimesS_c (x y : Int) (hx : -9223372036854775808 ≤ x ∧ x < 9223372036854775808) (hy : -9223372036854775808 ≤ y ∧ y < 9223372036854775808) : C 67 [.int .i64 x, .int .i64 y] (numS (x * y)) [] := by
  have k1 := qSizeS_c hC x hx
  have k2 := qSizeS_c hC y hy
  have k3 := qMul_c hC x.natAbs y.natAbs (by omega) (by omega)
  obtain ⟨p, hp⟩ : ∃ p, p = x.natAbs * y.natAbs := ⟨_, rfl⟩
  obtain ⟨s, hs⟩ : ∃ s, s = (decide (x < 0) != decide (y < 0)) := ⟨_, rfl⟩
  have k4 := qMadeN_c hC p s
  have e : numS (x * y) = numD p (s && !decide (p = 0)) := numS_at (by rw [Int.natAbs_mul, hp]) (by
    rw [hs, hp, Bool.eq_iff_iff]
    simp only [decide_eq_true_eq, Bool.and_eq_true, bne_iff_ne, ne_eq, decide_eq_decide, Bool.not_eq_true', decide_eq_false_iff_not, Nat.mul_eq_zero, Int.natAbs_eq_zero]
    constructor
    · intro h
      refine ⟨fun h2 => ?_, fun h2 => ?_⟩
      · by_cases x0 : x < 0
        · have := Int.mul_nonneg_of_nonpos_of_nonpos (show x ≤ 0 by omega) (show y ≤ 0 by have := h2.1 x0; omega)
          omega
        · have := Int.mul_nonneg (show 0 ≤ x by omega) (show 0 ≤ y by have := mt h2.2 x0; omega)
          omega
      · rcases h2 with rfl | rfl <;> simp at h
    · rintro ⟨h1, h2⟩
      by_cases x0 : x < 0
      · exact Int.mul_neg_of_neg_of_pos x0 (by by_cases y0 : y < 0; exact absurd (iff_of_true x0 y0) h1; omega)
      · exact Int.mul_neg_of_pos_of_neg (by omega) (by by_cases y0 : y < 0; exact y0; exact absurd (iff_of_false x0 y0) h1))
  rw [e]
  rw [← hp] at k3
  obtain ⟨w, hw⟩ : ∃ w, w = (s && !decide (p = 0)) := ⟨_, rfl⟩
  rw [← hw] at k4 ⊢
  rw [numD]
  rw [numD, wideD] at k4
  rw [wideD] at k3
  obtain ⟨a, ha⟩ : ∃ a, a = p / 18446744073709551616 := ⟨_, rfl⟩
  obtain ⟨b, hb⟩ : ∃ b, b = p % 18446744073709551616 := ⟨_, rfl⟩
  rw [← ha, ← hb] at k3 k4 ⊢
  obtain ⟨x1, hx1⟩ : ∃ n : Nat, n = x.natAbs := ⟨_, rfl⟩
  obtain ⟨y1, hy1⟩ : ∃ n : Nat, n = y.natAbs := ⟨_, rfl⟩
  rw [← hx1] at k1 k3
  rw [← hy1] at k2 k3
  clear hw hp
  refine start hC (nf := N67_ref03_Times) rfl rfl ?_
  simp [N67_ref03_Times]
  refine callW_of k1 (.inl rfl) ?_
  simp
  refine callW_of k2 (.inl rfl) ?_
  simp
  refine callW_of k3 (.inl rfl) ?_
  by_cases x0 : x < 0 <;> by_cases y0 : y < 0 <;> simp [x0, y0] at hs <;> subst hs <;> simp [x0, y0] <;> refine callW_of k4 (.inl rfl) ?_ <;> simp
theorem qOfIntS_c (v : Int) (h : -9223372036854775808 ≤ v ∧ v < 9223372036854775808) : C 68 [.int .i64 v] (numS v) [] := by
  have k1 := qSizeS_c hC v h
  obtain ⟨p, hp⟩ : ∃ p, p = v.natAbs := ⟨_, rfl⟩
  obtain ⟨s, hs⟩ : ∃ s, s = decide (v < 0) := ⟨_, rfl⟩
  have k2 := qMadeB_c hC 0 p s
  rw [numS_at hp.symm hs.symm, numD, show p / 18446744073709551616 = 0 by omega, show p % 18446744073709551616 = p by omega]
  rw [show (s && !(decide (0 = 0) && decide (p = 0))) = s by rw [hs, Bool.eq_iff_iff]; simp; omega] at k2
  rw [← hp] at k1
  simp only [Int.natCast_zero] at k2 ⊢
  refine start hC (nf := N68_ref03_OfInt) rfl rfl ?_
  simp [N68_ref03_OfInt]
  refine callW_of k1 (.inl rfl) ?_
  by_cases v0 : v < 0 <;> simp [v0] at hs <;> subst hs <;> simp [v0] <;> refine callW_of k2 (.inl rfl) ?_ <;> simp
theorem qIsIntS_c (v : Int) (h : -9223372036854775808 ≤ v ∧ v < 9223372036854775808) : C 93 [numS v] (.tup [.int .i64 v, .bool true]) [] := by
  obtain ⟨p, hp⟩ : ∃ p, p = v.natAbs := ⟨_, rfl⟩
  obtain ⟨s, hs⟩ : ∃ s, s = decide (v < 0) := ⟨_, rfl⟩
  rw [numS_at hp.symm hs.symm, numD, show p / 18446744073709551616 = 0 by omega, show p % 18446744073709551616 = p by omega]
  refine start hC (nf := N93_ref03_IsInt) rfl rfl ?_
  by_cases v0 : v < 0
  · simp [v0] at hs
    subst hs
    have e1 : IntKind.u64.wrap (-(p : Int)) = ((18446744073709551616 - p : Nat) : Int) := uw (by omega) (by omega)
    have e2 : IntKind.i64.wrap ((18446744073709551616 - p : Nat) : Int) = v := iw (by omega) (by omega)
    have e3 : (p : Int) ≤ 9223372036854775808 := by omega
    obtain ⟨y, hy⟩ : ∃ y, y = ((18446744073709551616 - p : Nat) : Int) := ⟨_, rfl⟩
    rw [← hy] at e1 e2
    simp [N93_ref03_IsInt, e1, e2, e3]
    exact indW_of (by decide +kernel)
  · simp [v0] at hs
    subst hs
    have e1 : IntKind.i64.wrap (p : Int) = v := wrap_i64 (by omega) (by omega)
    have e3 : (p : Int) < 9223372036854775808 := by omega
    simp [N93_ref03_IsInt, e1, e3]
    exact indW_of (by decide +kernel)
end Go.Gv

set_option linter.unusedSimpArgs false
namespace Go.Gv
open Go.Lib
theorem neg_div_nat (n b : Nat) (hb : 0 < b) : (-(n : Int)) / (b : Int) = -((if n % b = 0 then n / b else n / b + 1 : Nat) : Int) := by
  have h1 := Nat.div_add_mod n b
  have h2 := Nat.mod_lt n hb
  obtain ⟨q, hq⟩ : ∃ q, q = n / b := ⟨_, rfl⟩
  obtain ⟨r, hr⟩ : ∃ r, r = n % b := ⟨_, rfl⟩
  rw [← hq, ← hr] at h1
  rw [← hr] at h2
  rw [← hq, ← hr]
  clear hq hr
  subst h1
  split
  · rename_i h
    subst h
    rw [Nat.add_zero, Int.natCast_mul, ← Int.mul_neg]
    exact Int.mul_ediv_cancel_left _ (by omega)
  · rename_i h
    have e : -((b * q + r : Nat) : Int) = ((b : Int) - r) + b * (-((q + 1 : Nat) : Int)) := by
      rw [Int.natCast_add, Int.natCast_mul, Int.natCast_add, Int.mul_neg, Int.mul_add]
      omega
    rw [e, Int.add_mul_ediv_left _ _ (by omega), Int.ediv_eq_zero_of_lt (by omega) (by omega)]
    omega
variable {C : CC} (hC : Closed prog C)
include hC
theorem qDownS_c (a : Int) (b : Nat) (ha : a.natAbs < 170141183460469231731687303715884105728) (hb0 : 0 < b) (hb : b < 170141183460469231731687303715884105728) : C 66 [numS a, numS b] (numS (a / b)) [] := by
  obtain ⟨p, hp⟩ : ∃ p, p = a.natAbs := ⟨_, rfl⟩
  obtain ⟨s, hs⟩ : ∃ s, s = decide (a < 0) := ⟨_, rfl⟩
  have k1 : C 82 [wideD p, wideD b] (.tup [wideD (p / b), wideD (p % b)]) [] := rDivW_c hC p b (by omega) hb0 hb
  have hle : p / b ≤ p := Nat.div_le_self p b
  obtain ⟨q, hq⟩ : ∃ q, q = p / b := ⟨_, rfl⟩
  obtain ⟨r, hr⟩ : ∃ r, r = p % b := ⟨_, rfl⟩
  have k2 := qPlusN_c hC q 1 (by omega)
  have k3 := qMadeN_c hC q s
  have k4 := qMadeN_c hC (q + 1) s
  have eb : numS (b : Int) = numD b false := numS_at (by omega) (by simp)
  rw [← hq, ← hr] at k1
  rw [numS_at hp.symm hs.symm, eb]
  obtain ⟨p1, p2, _, _, ep⟩ := wideD_parts p
  obtain ⟨b1, b2, _, _, ebb⟩ := wideD_parts b
  obtain ⟨q1, q2, _, _, eq⟩ := wideD_parts q
  obtain ⟨r1, r2, hr1, hr2, er⟩ := wideD_parts r
  have en : ∀ (q : Nat) (b : Bool) (c1 c2 : Nat), wideD q = .agg [.int .u64 c1, .int .u64 c2] → numD q b = .agg [.int .u64 c1, .int .u64 c2, .bool b] := fun q b c1 c2 h => by
    simp only [wideD, D.agg.injEq, List.cons.injEq, D.int.injEq, true_and, and_true] at h
    rw [numD, h.1, h.2]
  rw [en _ _ _ _ ep, en _ _ _ _ ebb]
  have e1 : wideD 1 = .agg [.int .u64 0, .int .u64 1] := by simp [wideD]
  rw [ep, ebb, eq, er] at k1
  by_cases c : s = true ∧ r ≠ 0
  · obtain ⟨c1, c2⟩ := c
    subst c1
    have a0 := of_decide_eq_true hs.symm
    have e : numS (a / b) = numD (q + 1) (true && !decide (q + 1 = 0)) := by
      have : a / (b : Int) = -((q + 1 : Nat) : Int) := by
        rw [show a = -(p : Int) by omega, neg_div_nat p b hb0, ← hr, if_neg c2, hq]
      exact numS_at (by omega) (by simp; omega)
    rw [e]
    obtain ⟨d1, d2, _, _, ed⟩ := wideD_parts (q + 1)
    rw [en _ _ _ _ ed] at k4 ⊢
    rw [eq, ed, e1] at k2
    rw [ed] at k4
    obtain ⟨w, hw⟩ : ∃ w, w = (true && !decide (q + 1 = 0)) := ⟨_, rfl⟩
    rw [← hw] at k4 ⊢
    clear hw hs
    have c3 : ¬ (r1 = 0 ∧ r2 = 0) := by omega
    have c4 : (decide (r1 = 0) && decide (r2 = 0)) = false := by simpa using c3
    refine start hC (nf := N66_ref03_Down) rfl rfl ?_
    simp [N66_ref03_Down]
    refine callW_of k1 (.inr rfl) ?_
    simp [c4]
    refine callW_of k2 (.inl rfl) ?_
    simp
    refine callW_of k4 (.inl rfl) ?_
    simp
  · have e : numS (a / b) = numD q (s && !decide (q = 0)) := by
      by_cases a0 : a < 0
      · have hs' : s = true := by rw [hs]; exact decide_eq_true a0
        subst hs'
        have c2 : r = 0 := by
          by_cases c2 : r = 0
          · exact c2
          · exact absurd ⟨rfl, c2⟩ c
        have : a / (b : Int) = -(q : Int) := by
          rw [show a = -(p : Int) by omega, neg_div_nat p b hb0, ← hr, if_pos c2, hq]
        exact numS_at (by omega) (by rw [Bool.eq_iff_iff]; simp; omega)
      · have hs' : s = false := by rw [hs]; exact decide_eq_false a0
        subst hs'
        have : a / (b : Int) = (q : Int) := by
          rw [show a = (p : Int) by omega, hq]; simp
        exact numS_at (by omega) (by simp; omega)
    rw [e]
    obtain ⟨w, hw⟩ : ∃ w, w = (s && !decide (q = 0)) := ⟨_, rfl⟩
    rw [← hw] at k3 ⊢
    rw [en _ _ _ _ eq] at k3 ⊢
    rw [eq] at k3
    clear hw hs
    have c4 : s = true → (r1 = 0 ∧ r2 = 0) := fun h => by
      have : r = 0 := by
        by_cases c2 : r = 0
        · exact c2
        · exact absurd ⟨h, c2⟩ c
      omega
    refine start hC (nf := N66_ref03_Down) rfl rfl ?_
    simp [N66_ref03_Down]
    refine callW_of k1 (.inr rfl) ?_
    cases s
    · simp
      refine callW_of k3 (.inl rfl) ?_
      simp
    · obtain ⟨z1, z2⟩ := c4 rfl
      simp [z1, z2]
      refine callW_of k3 (.inl rfl) ?_
      simp
theorem qUpS_c (a : Int) (b : Nat) (ha : a.natAbs < 170141183460469231731687303715884105728) (hb0 : 0 < b) (hb : b < 170141183460469231731687303715884105728) : C 351 [numS a, numS b] (numS (-(-a / b))) [] := by
  have k1 := qOppS_c hC a
  have k2 := qDownS_c hC (-a) b (by omega) hb0 hb
  have k3 := qOppS_c hC (-a / b)
  obtain ⟨a1, a2, _, _, ea⟩ := numD_wide a.natAbs (decide (a < 0))
  obtain ⟨b1, b2, _, _, eb⟩ := numD_wide (b : Int).natAbs (decide ((b : Int) < 0))
  obtain ⟨c1, c2, _, _, ec⟩ := numD_wide (-a).natAbs (decide (-a < 0))
  obtain ⟨d1, d2, _, _, ed⟩ := numD_wide (-a / b).natAbs (decide (-a / b < 0))
  obtain ⟨x1, x2, _, _, ex⟩ := numD_wide (-(-a / b)).natAbs (decide (-(-a / b) < 0))
  rw [numS, numS] at k1 k2 k3 ⊢
  rw [numS] at k2 ⊢
  rw [ea, ec] at k1
  rw [ec, eb, ed] at k2
  rw [ed, ex] at k3
  rw [ea, eb, ex]
  obtain ⟨n1, hn1⟩ : ∃ n, n = decide (a < 0) := ⟨_, rfl⟩
  obtain ⟨n2, hn2⟩ : ∃ n, n = decide ((b : Int) < 0) := ⟨_, rfl⟩
  obtain ⟨n3, hn3⟩ : ∃ n, n = decide (-a < 0) := ⟨_, rfl⟩
  obtain ⟨n4, hn4⟩ : ∃ n, n = decide (-a / b < 0) := ⟨_, rfl⟩
  obtain ⟨n5, hn5⟩ : ∃ n, n = decide (-(-a / b) < 0) := ⟨_, rfl⟩
  rw [← hn1, ← hn3] at k1
  rw [← hn2, ← hn3, ← hn4] at k2
  rw [← hn4, ← hn5] at k3
  rw [← hn1, ← hn2, ← hn5]
  clear hn1 hn2 hn3 hn4 hn5
  refine start hC (nf := N351_ref03_Up) rfl rfl ?_
  simp [N351_ref03_Up]
  refine callW_of k1 (.inl rfl) ?_
  simp
  refine callW_of k2 (.inl rfl) ?_
  simp
  refine callW_of k3 (.inl rfl) ?_
  simp
  exact indW_of (by decide +kernel)
theorem qToWide_c (v : Int) (h : -1329227995784915872903807060280344576 ≤ v ∧ v < 1329227995784915872903807060280344576) : C 347 [numS v] (.tup [wiS v, .int .i64 0]) [] := by
  obtain ⟨q, hq⟩ : ∃ q, q = v / 1152921504606846976 := ⟨_, rfl⟩
  obtain ⟨r, hr⟩ : ∃ r, r = v % 1152921504606846976 := ⟨_, rfl⟩
  have k1 := qOfIntS_c hC 1152921504606846976 (by omega)
  have k2 := qDownS_c hC v 1152921504606846976 (by omega) (by omega) (by omega)
  rw [show v / ((1152921504606846976 : Nat) : Int) = q from hq.symm] at k2
  rw [show ((1152921504606846976 : Nat) : Int) = 1152921504606846976 from rfl] at k2
  have k3 := qIsIntS_c hC q (by omega)
  have k4 := qSizeS_c hC q (by omega)
  have k5 := qMul_c hC q.natAbs 1152921504606846976 (by omega) (by omega)
  have k6 := qMadeN_c hC (q.natAbs * 1152921504606846976) (decide (q < 0))
  have e6 : numD (q.natAbs * 1152921504606846976) (decide (q < 0) && !decide (q.natAbs * 1152921504606846976 = 0)) = numS (q * 1152921504606846976) := (numS_at (by omega) (by rw [Bool.eq_iff_iff]; simp; omega)).symm
  rw [e6] at k6
  have k7 := qOppS_c hC (q * 1152921504606846976)
  have k8 := qSumS_c hC v (-(q * 1152921504606846976)) (by omega) (by omega)
  have e8 : v + -(q * 1152921504606846976) = r := by omega
  rw [e8] at k8
  have k9 := qIsIntS_c hC r (by omega)
  have u1 : ¬ q < -1152921504606846976 := by omega
  have u2 : ¬ 1152921504606846976 ≤ q := by omega
  rw [wiS, ← hq, ← hr]
  obtain ⟨a1, a2, a3, ea⟩ : ∃ (a1 a2 : Nat) (a3 : Bool), numS v = .agg [.int .u64 a1, .int .u64 a2, .bool a3] := ⟨_, _, _, rfl⟩
  obtain ⟨b1, b2, b3, eb⟩ : ∃ (a1 a2 : Nat) (a3 : Bool), numS 1152921504606846976 = .agg [.int .u64 a1, .int .u64 a2, .bool a3] := ⟨_, _, _, rfl⟩
  obtain ⟨c1, c2, c3, ec⟩ : ∃ (a1 a2 : Nat) (a3 : Bool), numS q = .agg [.int .u64 a1, .int .u64 a2, .bool a3] := ⟨_, _, _, rfl⟩
  obtain ⟨d1, d2, d3, ed⟩ : ∃ (a1 a2 : Nat) (a3 : Bool), numS (q * 1152921504606846976) = .agg [.int .u64 a1, .int .u64 a2, .bool a3] := ⟨_, _, _, rfl⟩
  obtain ⟨f1, f2, f3, ef⟩ : ∃ (a1 a2 : Nat) (a3 : Bool), numS (-(q * 1152921504606846976)) = .agg [.int .u64 a1, .int .u64 a2, .bool a3] := ⟨_, _, _, rfl⟩
  obtain ⟨g1, g2, g3, eg⟩ : ∃ (a1 a2 : Nat) (a3 : Bool), numS r = .agg [.int .u64 a1, .int .u64 a2, .bool a3] := ⟨_, _, _, rfl⟩
  obtain ⟨h1, h2, eh⟩ : ∃ (a1 a2 : Nat), wideD (q.natAbs * 1152921504606846976) = .agg [.int .u64 a1, .int .u64 a2] := ⟨_, _, rfl⟩
  rw [eb] at k1
  rw [ea, eb, ec] at k2
  rw [ec] at k3
  rw [eh] at k5 k6
  rw [ed] at k6 k7
  rw [ef] at k7 k8
  rw [ea, eg] at k8
  rw [eg] at k9
  rw [ea]
  obtain ⟨n, hn⟩ : ∃ n : Nat, n = q.natAbs := ⟨_, rfl⟩
  rw [← hn] at k4 k5
  clear e6 ea eb ec ed ef eg eh hn
  refine start hC (nf := N347_ref03_ToWide) rfl rfl ?_
  simp [N347_ref03_ToWide]
  refine callW_of k1 (.inl rfl) ?_
  simp
  refine callW_of k2 (.inl rfl) ?_
  simp
  refine callW_of k3 (.inl rfl) ?_
  simp [u1, u2]
  refine ⟨indW_of (by decide +kernel), ?_⟩
  refine callW_of k4 (.inl rfl) ?_
  simp
  refine callW_of k5 (.inl rfl) ?_
  simp
  refine callW_of k6 (.inl rfl) ?_
  simp
  refine callW_of k7 (.inl rfl) ?_
  simp
  refine callW_of k8 (.inl rfl) ?_
  simp
  refine callW_of k9 (.inl rfl) ?_
  simp
  exact indW_of (by decide +kernel)
end Go.Gv

set_option linter.unusedSimpArgs false
namespace Go.Gv
variable {C : CC} (hC : Closed prog C)
include hC
theorem wtimesN_c (x y : Nat) (hx0 : 0 < x) (hx : x < 9223372036854775808) (hy : y < 9223372036854775808) : C 103 [.int .i64 (-(x : Int)), .int .i64 y] (numD (x * y) (decide (x * y ≠ 0))) [] := by
  have h0 : (-(x : Int)) < 0 := by omega
  have h1 : ¬ (y : Int) < 0 := by omega
  have hm := Mul64_c hC x y (by omega) (by omega)
  have k1 := wsizeN_c hC x hx0 hx
  have k2 := wsize_c hC y hy
  rw [numD]
  obtain ⟨Z, hZ⟩ : ∃ Z, Z = x * y := ⟨_, rfl⟩
  rw [← hZ] at hm ⊢
  obtain ⟨zh, hzh⟩ : ∃ zh, zh = Z / 18446744073709551616 := ⟨_, rfl⟩
  obtain ⟨zl, hzl⟩ : ∃ zl, zl = Z % 18446744073709551616 := ⟨_, rfl⟩
  have k3 := signed_c hC zh zl true
  rw [show (true && (!decide ((zh : Int) = 0) || !decide ((zl : Int) = 0))) = decide (Z ≠ 0) by
    rw [Bool.eq_iff_iff]; simp; omega] at k3
  rw [← hzh, ← hzl] at hm ⊢
  obtain ⟨z, hz⟩ : ∃ z, z = -(x : Int) := ⟨_, rfl⟩
  rw [← hz] at k1 h0 ⊢
  obtain ⟨b, hb⟩ : ∃ b, b = decide (Z ≠ 0) := ⟨_, rfl⟩
  rw [← hb] at k3 ⊢
  refine start hC (nf := N103_wide_times) rfl rfl ?_
  simp [N103_wide_times]
  refine callW_of k1 (.inl rfl) ?_
  simp
  refine callW_of k2 (.inl rfl) ?_
  simp
  refine callW_of hm (.inl rfl) ?_
  simp [h0, h1]
  refine callW_of k3 (.inl rfl) ?_
  simp
theorem ProductS_c (x : Int) (y : Nat) (hx : -9223372036854775808 < x ∧ x < 9223372036854775808) (hy : y < 9223372036854775808) (h : x.natAbs * y < 1329227995784915872903807060280344576) : C 99 [.int .i64 x, .int .i64 y] (.tup [wiS (x * y), .int .i64 0]) [] := by
  by_cases h0 : x < 0
  · obtain ⟨n, rfl⟩ : ∃ n : Nat, x = -(n : Int) := ⟨x.natAbs, by omega⟩
    rw [Int.natAbs_neg, Int.natAbs_natCast] at h
    have k1 := wtimesN_c hC n y (by omega) (by omega) hy
    have e : -(n : Int) * (y : Int) = -((n * y : Nat) : Int) := by rw [Int.neg_mul, Int.natCast_mul]
    rw [e]
    obtain ⟨Z, hZ⟩ : ∃ Z, Z = n * y := ⟨_, rfl⟩
    rw [← hZ] at k1 h ⊢
    have k2 : C 105 [numD Z (decide (Z ≠ 0))] (.tup [wiS (-(Z : Int)), .int .i64 0]) [] := by
      by_cases z0 : Z = 0
      · subst z0
        have := placed_c hC 0 (by omega)
        rw [← wiS_nat] at this
        simpa using this
      · rw [decide_eq_true z0]
        exact placedN_c hC Z (by omega) h
    obtain ⟨c1, c2, e3⟩ : ∃ a b : Int, wiS (-(Z : Int)) = .agg [.int .i64 a, .int .i64 b] := ⟨_, _, rfl⟩
    obtain ⟨i1, i2, i3, e7⟩ : ∃ a b c, numD Z (decide (Z ≠ 0)) = .agg [.int .u64 a, .int .u64 b, .bool c] := ⟨_, _, _, rfl⟩
    rw [e7] at k1 k2
    rw [e3] at k2 ⊢
    obtain ⟨z, hz⟩ : ∃ z, z = -(n : Int) := ⟨_, rfl⟩
    rw [← hz] at k1 ⊢
    refine start hC (nf := N99_wide_Product) rfl rfl ?_
    simp [N99_wide_Product]
    refine callW_of k1 (.inl rfl) ?_
    simp
    refine callW_of k2 (.inr rfl) ?_
    simp
  · obtain ⟨n, rfl⟩ : ∃ n : Nat, x = (n : Int) := ⟨x.natAbs, by omega⟩
    rw [Int.natAbs_natCast] at h
    have k := Product_c hC n y (by omega) hy h
    rw [← wiS_nat] at k
    simpa using k
end Go.Gv

set_option linter.unusedSimpArgs false
namespace Go.Gv
open Go.Lib
theorem wiS_parts (v : Int) : ∃ h l : Int, h = v / 1152921504606846976 ∧ l = v % 1152921504606846976 ∧ wiS v = .agg [.int .i64 h, .int .i64 l] := ⟨_, _, rfl, rfl, rfl⟩
variable {C : CC} (hC : Closed prog C)
include hC
theorem placedS_c (v : Int) (h : -1329227995784915872903807060280344576 < v ∧ v < 1329227995784915872903807060280344576) : C 105 [numS v] (.tup [wiS v, .int .i64 0]) [] := by
  by_cases v0 : v < 0
  · have k := placedN_c hC v.natAbs (by omega) (by omega)
    rw [show -((v.natAbs : Nat) : Int) = v by omega] at k
    rw [numS, decide_eq_true v0]
    exact k
  · have k := placed_c hC v.natAbs (by omega)
    rw [← wiS_nat, show ((v.natAbs : Nat) : Int) = v by omega] at k
    rw [numS, decide_eq_false v0]
    exact k
set_option maxHeartbeats 2000000 in
theorem valueS_c (v : Int) (h : -1329227995784915872903807060280344576 ≤ v ∧ v < 1329227995784915872903807060280344576) : C 108 [wiS v] (numS v) [] := by
  by_cases v0 : v < 0
  · obtain ⟨ph, pl, hph, hpl, e0⟩ := wiS_parts v
    obtain ⟨n, hn⟩ : ∃ n : Nat, n = ph.natAbs := ⟨_, rfl⟩
    obtain ⟨l, hl⟩ : ∃ l : Nat, l = pl.natAbs := ⟨_, rfl⟩
    obtain ⟨p, hp⟩ : ∃ p, p = v.natAbs := ⟨_, rfl⟩
    obtain ⟨zh, zl, hzh, hzl, e1⟩ := numD_wide p true
    have epl : pl = (l : Int) := by omega
    have eph : ph = -(n : Int) := by omega
    have k1 := wsizeN_c hC n (by omega) (by omega)
    rw [numS_at hp.symm (decide_eq_true v0), e0, e1, epl, eph]
    have h1 : ¬ (0 : Int) ≤ -(n : Int) := by omega
    obtain ⟨w, hw⟩ : ∃ z, z = n % 16 := ⟨_, rfl⟩
    obtain ⟨t, ht⟩ : ∃ z, z = n / 16 := ⟨_, rfl⟩
    have s1 : Int.fdiv (n : Int) (2 ^ min 4 IntKind.u64.bits) = (t : Int) := by rw [shr4, ht]
    have s2 : IntKind.u64.wrap ((n : Int) * 2 ^ min 60 IntKind.u64.bits) = ((w * 1152921504606846976 : Nat) : Int) := shl60 n _ (by omega)
    have s3 : IntKind.u64.wrap (l : Int) = (l : Int) := wrapN l (by omega)
    have c1 : (l : Int) < 18446744073709551616 := by omega
    have c2 : ((w * 1152921504606846976 : Nat) : Int) < 18446744073709551616 := by omega
    have s4 : (((w * 1152921504606846976 : Nat) : Int) - (l : Int)) % 18446744073709551616 = (zl : Int) := by omega
    have s5 : IntKind.u64.wrap ((t : Int) - (if w * 1152921504606846976 < l then 1 else 0)) = (zh : Int) := by
      split <;> exact uw (by omega) (by omega)
    obtain ⟨W, hW⟩ : ∃ W, W = w * 1152921504606846976 := ⟨_, rfl⟩
    rw [← hW] at s2 s4 s5 c2
    obtain ⟨z, hz⟩ : ∃ z, z = -(n : Int) := ⟨_, rfl⟩
    rw [← hz] at k1 h1 ⊢
    have c3 : (0 : Int) ≤ W := by omega
    have c4 : (0 : Int) ≤ l := by omega
    refine start hC (nf := N108_wide_value) rfl rfl ?_
    simp [N108_wide_value]
    refine callW_of k1 (.inl rfl) ?_
    simp [h1]
    rw [s1, s2, s3]
    simp [c1, c2, s4, s5]
  · have k := value_c hC v.natAbs (by omega)
    rw [← wiS_nat, show ((v.natAbs : Nat) : Int) = v by omega] at k
    rw [numS, decide_eq_false v0]
    exact k
set_option maxRecDepth 20000 in
set_option maxHeartbeats 4000000 in
theorem sumS_c (x y : Int) (hx : x.natAbs < 170141183460469231731687303715884105728) (hy : y.natAbs < 170141183460469231731687303715884105728) : C 107 [numS x, numS y] (numS (x + y)) [] := by
  obtain ⟨p, hp⟩ : ∃ p, p = x.natAbs := ⟨_, rfl⟩
  obtain ⟨r, hr⟩ : ∃ r, r = y.natAbs := ⟨_, rfl⟩
  obtain ⟨s, hs⟩ : ∃ s, s = decide (x < 0) := ⟨_, rfl⟩
  obtain ⟨t, ht⟩ : ∃ t, t = decide (y < 0) := ⟨_, rfl⟩
  rw [numS_at hp.symm hs.symm, numS_at hr.symm ht.symm]
  obtain ⟨ph, pl, hph, hpl, ep⟩ := numD_wide p s
  obtain ⟨rh, rl, hrh, hrl, er⟩ := numD_wide r t
  rw [ep, er]
  have k0 : (0 : Int) ≤ pl := by omega
  have k1 : (0 : Int) ≤ rl := by omega
  have k3 : (pl : Int) < 18446744073709551616 := by omega
  have k4 : (rl : Int) < 18446744073709551616 := by omega
  by_cases c : s = t
  · have e : numS (x + y) = numD (p + r) (s && !decide (p + r = 0)) := numS_at (by
      subst c
      rw [hs, decide_eq_decide] at ht
      omega) (by
      subst c
      rw [hs] at ht ⊢
      rw [decide_eq_decide] at ht
      rw [Bool.eq_iff_iff]
      simp
      omega)
    obtain ⟨dh, dl, hdh, hdl, ed⟩ := numD_wide (p + r) (s && !decide (p + r = 0))
    rw [e, ed]
    have kk := signed_c hC dh dl s
    rw [show (s && (!decide ((dh : Int) = 0) || !decide ((dl : Int) = 0))) = (s && !decide (p + r = 0)) by
      congr 1; rw [Bool.eq_iff_iff]; simp; omega] at kk
    obtain ⟨w, hw⟩ : ∃ w, w = (s && !decide (p + r = 0)) := ⟨_, rfl⟩
    rw [← hw] at kk ⊢
    subst c
    clear hs ht hw e ed
    have e1 : ((pl : Int) + rl) % 18446744073709551616 = (dl : Int) := by omega
    have e2 : IntKind.u64.wrap ((ph : Int) + rh) = (ph : Int) + rh := uw (m := ph + rh) (by omega) (by omega)
    have e3 : IntKind.u64.wrap ((ph : Int) + rh + ((pl : Int) + rl) / 18446744073709551616) = (dh : Int) := uw (by omega) (by omega)
    obtain ⟨g, hg⟩ : ∃ g, g = ((pl : Int) + rl) / 18446744073709551616 := ⟨_, rfl⟩
    rw [← hg] at e3
    refine start hC (nf := N107_wide_sum) rfl rfl ?_
    simp [N107_wide_sum, k0, k1, k3, k4, e1, e2, e3, ← hg]
    refine callW_of kk (.inl rfl) ?_
    simp
  · have c3 : (s == t) = false := by simpa using c
    rw [hs, ht, decide_eq_decide] at c
    by_cases l : p < r
    · have e : numS (x + y) = numD (r - p) (t && !decide (r - p = 0)) := numS_at (by
        omega) (by
        rw [Bool.eq_iff_iff, ht]
        simp
        omega)
      obtain ⟨dh, dl, hdh, hdl, ed⟩ := numD_wide (r - p) (t && !decide (r - p = 0))
      rw [e, ed]
      have kk := signed_c hC dh dl t
      rw [show (t && (!decide ((dh : Int) = 0) || !decide ((dl : Int) = 0))) = (t && !decide (r - p = 0)) by
        congr 1; rw [Bool.eq_iff_iff]; simp; omega] at kk
      obtain ⟨w, hw⟩ : ∃ w, w = (t && !decide (r - p = 0)) := ⟨_, rfl⟩
      rw [← hw] at kk ⊢
      have e1 : ((rl : Int) - pl) % 18446744073709551616 = (dl : Int) := by omega
      have e2 : IntKind.u64.wrap ((rh : Int) - ph) = ((rh - ph : Nat) : Int) := uw (by omega) (by omega)
      have e3 : IntKind.u64.wrap (((rh - ph : Nat) : Int) - (if rl < pl then 1 else 0)) = (dh : Int) := by
        split <;> exact uw (by omega) (by omega)
      have c5 : ph < rh ∨ (ph = rh ∧ pl < rl) := by omega
      clear hs ht hw e ed c
      refine start hC (nf := N107_wide_sum) rfl rfl ?_
      simp [N107_wide_sum, c3]
      rcases c5 with c5 | ⟨c5, c6⟩
      · simp [c5, k3, k4, e1, e2]
        rw [e3]
        refine callW_of kk (.inl rfl) ?_
        simp
      · have c7 : ¬ rl < pl := by omega
        have hd : dh = 0 := by omega
        have hz : IntKind.u64.wrap 0 = 0 := wrapN 0 (by omega)
        subst hd
        clear hph hpl hrh hrl hdh hdl k0 k1
        subst c5
        refine brB_of (fun c4 => ?_) (fun c4 => ?_) <;> simp at c4
        simp
        refine brB_of (fun c4 => ?_) (fun c4 => ?_) <;> simp at c4
        · simp [c4, c7, k3, k4, e1, hz]
          refine callW_of kk (.inl rfl) ?_
          simp
        · omega
    · have e : numS (x + y) = numD (p - r) (s && !decide (p - r = 0)) := numS_at (by
        omega) (by
        rw [Bool.eq_iff_iff, hs]
        simp
        omega)
      obtain ⟨dh, dl, hdh, hdl, ed⟩ := numD_wide (p - r) (s && !decide (p - r = 0))
      rw [e, ed]
      have kk := signed_c hC dh dl s
      rw [show (s && (!decide ((dh : Int) = 0) || !decide ((dl : Int) = 0))) = (s && !decide (p - r = 0)) by
        congr 1; rw [Bool.eq_iff_iff]; simp; omega] at kk
      obtain ⟨w, hw⟩ : ∃ w, w = (s && !decide (p - r = 0)) := ⟨_, rfl⟩
      rw [← hw] at kk ⊢
      have e1 : ((pl : Int) - rl) % 18446744073709551616 = (dl : Int) := by omega
      have e2 : IntKind.u64.wrap ((ph : Int) - rh) = ((ph - rh : Nat) : Int) := uw (by omega) (by omega)
      have e3 : IntKind.u64.wrap (((ph - rh : Nat) : Int) - (if pl < rl then 1 else 0)) = (dh : Int) := by
        split <;> exact uw (by omega) (by omega)
      have c5 : ¬ ph < rh := by omega
      have c6 : ph = rh → ¬ pl < rl := by omega
      clear hs ht hw e ed c
      refine start hC (nf := N107_wide_sum) rfl rfl ?_
      simp [N107_wide_sum, c3]
      simp [c5]
      refine brB_of (fun c7 => ?_) (fun c7 => ?_) <;> simp at c7 <;> simp [c7]
      · have c8 : ¬ pl < rl := c6 (by omega)
        have hd : dh = 0 := by omega
        have hz : IntKind.u64.wrap 0 = 0 := wrapN 0 (by omega)
        subst hd
        refine brB_of (fun c4 => ?_) (fun c4 => ?_) <;> simp at c4 <;> simp [c4]
        · omega
        simp [c8, k3, k4, e1, hz]
        refine callW_of kk (.inl rfl) ?_
        simp
      · simp [k3, k4, e1, e2]
        rw [e3]
        refine callW_of kk (.inl rfl) ?_
        simp
theorem AddS_c (x y : Int) (hx : -664613997892457936451903530140172288 ≤ x ∧ x ≤ 664613997892457936451903530140172287) (hy : -664613997892457936451903530140172288 < y ∧ y ≤ 664613997892457936451903530140172287) : C 327 [wiS x, wiS y] (.tup [wiS (x + y), .int .i64 0]) [] := by
  have k1 := wvalidS_c hC x (by omega)
  have k2 := wvalidS_c hC y (by omega)
  have k3 := valueS_c hC x (by omega)
  have k4 := valueS_c hC y (by omega)
  have k5 := sumS_c hC x y (by omega) (by omega)
  have k6 := placedS_c hC (x + y) (by omega)
  obtain ⟨a1, a2, _, _, ea⟩ := wiS_parts x
  obtain ⟨b1, b2, _, _, eb⟩ := wiS_parts y
  obtain ⟨c1, c2, _, _, ec⟩ := wiS_parts (x + y)
  obtain ⟨f1, f2, f3, ef⟩ : ∃ (a1 a2 : Nat) (a3 : Bool), numS x = .agg [.int .u64 a1, .int .u64 a2, .bool a3] := ⟨_, _, _, rfl⟩
  obtain ⟨g1, g2, g3, eg⟩ : ∃ (a1 a2 : Nat) (a3 : Bool), numS y = .agg [.int .u64 a1, .int .u64 a2, .bool a3] := ⟨_, _, _, rfl⟩
  obtain ⟨h1, h2, h3, eh⟩ : ∃ (a1 a2 : Nat) (a3 : Bool), numS (x + y) = .agg [.int .u64 a1, .int .u64 a2, .bool a3] := ⟨_, _, _, rfl⟩
  rw [ea] at k1 k3 ⊢
  rw [eb] at k2 k4 ⊢
  rw [ef] at k3 k5
  rw [eg] at k4 k5
  rw [eh] at k5 k6
  rw [ec] at k6 ⊢
  clear ea eb ec ef eg eh
  refine start hC (nf := N327_wide_Add) rfl rfl ?_
  simp [N327_wide_Add]
  refine callW_of k1 (.inl rfl) ?_
  simp
  refine callW_of k2 (.inl rfl) ?_
  simp
  refine callW_of k3 (.inl rfl) ?_
  simp
  refine callW_of k4 (.inl rfl) ?_
  simp
  refine callW_of k5 (.inl rfl) ?_
  simp
  refine callW_of k6 (.inr rfl) ?_
  simp
  exact indW_of (by decide +kernel)
theorem wholeS_c (n : Nat) (h : n < 9223372036854775808) (b : Bool) : C 110 [.int .u64 n, .bool b] (.tup [.int .i64 (if b then -(n : Int) else n), .int .i64 0]) [] := by
  cases b
  · exact whole_c hC n h
  · by_cases h0 : n = 0
    · subst h0
      refine start hC (nf := N110_wide_whole) rfl rfl ?_
      have hz : IntKind.u64.wrap 0 = 0 := by decide
      have hz2 : IntKind.i64.wrap 0 = 0 := by decide
      simp [N110_wide_whole, hz, hz2]
    · have h1 : (n : Int) ≤ 9223372036854775808 := by omega
      have h2 : IntKind.u64.wrap (-(n : Int)) = ((18446744073709551616 - n : Nat) : Int) := uw (by omega) (by omega)
      have h3 : IntKind.i64.wrap ((18446744073709551616 - n : Nat) : Int) = -(n : Int) := iw (by omega) (by omega)
      obtain ⟨y, hy⟩ : ∃ y, y = ((18446744073709551616 - n : Nat) : Int) := ⟨_, rfl⟩
      rw [← hy] at h2 h3
      refine start hC (nf := N110_wide_whole) rfl rfl ?_
      simp [N110_wide_whole, h1, h2, h3]
/-- The quotient of a negative number. -/
theorem quotientN_c (p d : Nat) (up : Bool) (q : Nat) (hp0 : 0 < p) (hd : d < 9223372036854775808) (hp : p / 18446744073709551616 < d) (hq : q < 9223372036854775808) (hv : q = if up then p / d else if p % d = 0 then p / d else p / d + 1) (hqd : p / d + 1 < 9223372036854775808) : C 104 [numD p true, .int .i64 d, .bool up] (.tup [.int .i64 (-(q : Int)), .int .i64 0]) [] := by
  obtain ⟨ph, hph⟩ : ∃ z, z = p / 18446744073709551616 := ⟨_, rfl⟩
  obtain ⟨pl, hpl⟩ : ∃ z, z = p % 18446744073709551616 := ⟨_, rfl⟩
  have hpp : ph * 18446744073709551616 + pl = p := by omega
  obtain ⟨q0, hq0⟩ : ∃ z, z = p / d := ⟨_, rfl⟩
  obtain ⟨r0, hr0⟩ : ∃ z, z = p % d := ⟨_, rfl⟩
  have hdiv := Div64_c hC ph pl d (by omega) (by omega) (by omega)
  rw [hpp, ← hq0, ← hr0] at hdiv
  rw [← hq0, ← hr0] at hv
  rw [numD, ← hph, ← hpl]
  have h1 : ¬ (d : Int) ≤ (ph : Int) := by omega
  have h2 : ¬ (d : Int) < 0 := by omega
  have h3 : IntKind.u64.wrap ((q0 : Int) + 1) = ((q0 + 1 : Nat) : Int) := uw (by omega) (by omega)
  have kw := wholeS_c hC q hq (decide (0 < q))
  have kq : (if decide (0 < q) = true then -(q : Int) else (q : Int)) = -(q : Int) := by
    by_cases h : 0 < q
    · simp [h]
    · have : q = 0 := by omega
      subst this
      simp
  rw [kq] at kw
  obtain ⟨Q, hQ⟩ : ∃ Q, Q = -(q : Int) := ⟨_, rfl⟩
  rw [← hQ] at kw ⊢
  refine start hC (nf := N104_wide_quotient) rfl rfl ?_
  simp [N104_wide_quotient]
  refine callW_of (wsize_c hC d hd) (.inl rfl) ?_
  simp [h1]
  refine callW_of hdiv (.inl rfl) ?_
  simp [h2]
  cases up
  · by_cases h : 0 < r0
    · have hi : (0 : Int) < r0 := by omega
      have e : q = q0 + 1 := by rw [hv]; simp; omega
      subst e
      have h4 : ¬ ((q0 : Int) + 1 = 0) := by omega
      simp [hi, h3, h4, h]
      simp at kw
      refine callW_of kw (.inl rfl) ?_
      simp
    · have hi : ¬ (0 : Int) < r0 := by omega
      have e : q = q0 := by rw [hv]; simp; omega
      subst e
      simp [hi, h]
      refine callW_of kw (.inl rfl) ?_
      simp
  · have e : q = q0 := by rw [hv]; simp
    subst e
    by_cases h : 0 < r0
    · have hi : (0 : Int) < r0 := by omega
      simp [hi, h]
      refine callW_of kw (.inl rfl) ?_
      simp
    · have hi : ¬ (0 : Int) < r0 := by omega
      simp [hi, h]
      refine callW_of kw (.inl rfl) ?_
      simp
end Go.Gv

set_option linter.unusedSimpArgs false
namespace Go.Gv

/-- A slice of integers: whether it is nil if it is empty, and the integers. -/
structure SlI where
  n : Bool
  l : List Int
  deriving Inhabited
def slI (x : SlI) : D := slx x.n (x.l.map fun n => [.int .i64 n])
def knD (k : Int × Int) : List D := [.int .i64 k.1, .int .i64 k.2]
/-- A section. -/
structure Sec where
  name : List UInt8
  height : Int
  price : Int
  areaN : Bool
  area : List (Int × Int)
  convN : Bool
  conv : List (Int × Int)
  deriving Inhabited
def secC (s : Sec) : List D := [.str s.name, .int .i64 s.height, .int .i64 s.price, slx s.areaN (s.area.map knD), slx s.convN (s.conv.map knD)]

def idxD {α : Type} (p : α → Bool) (xs : List α) : Int := match xs.findIdx? p with
  | some i => i
  | none => -1
theorem idxD_step {α : Type} {p : α → Bool} {xs : List α} {i : Nat} (hj : ∀ (j : Nat) (h : j < xs.length), j < i → p xs[j] = false) (hi : i < xs.length) (h : p xs[i] = true) : idxD p xs = i := by
  have : xs.findIdx? p = some i := by
    rw [List.findIdx?_eq_some_iff_getElem]
    exact ⟨hi, h, fun j hji => by simp [hj j (by omega) hji]⟩
  simp [idxD, this]
theorem idxD_none {α : Type} {p : α → Bool} {xs : List α} (hj : ∀ (j : Nat) (h : j < xs.length), p xs[j] = false) : idxD p xs = -1 := by
  have : xs.findIdx? p = none := by
    rw [List.findIdx?_eq_none_iff]
    intro x hx
    obtain ⟨j, h, rfl⟩ := List.mem_iff_getElem.1 hx
    exact hj j h
  simp [idxD, this]
theorem idxD_any {α : Type} (p : α → Bool) (xs : List α) : decide (0 ≤ idxD p xs) = xs.any p := by
  unfold idxD
  split
  · rename_i i h
    rw [List.findIdx?_eq_some_iff_getElem] at h
    obtain ⟨h1, h2, _⟩ := h
    have : xs.any p = true := List.any_eq_true.2 ⟨_, List.getElem_mem h1, h2⟩
    simp [this]
  · rename_i h
    rw [List.findIdx?_eq_none_iff] at h
    have : xs.any p = false := by rw [List.any_eq_false]; intro x hx; simp [h x hx]
    simp [this]

variable {C : CC} (hC : Closed prog C)
include hC
theorem idxInt_c {b : Bool} {xs : List Int} {g : Nat} {cs : List D} (p : Int → Bool) (hs : xs.length < 2 ^ 62) (hp : ∀ x ∈ xs, C g (.int .i64 x :: cs) (.bool (p x)) []) : C 35 [slx b (xs.map fun x => [.int .i64 x]), .fn g cs] (.int .i64 (idxD p xs)) [] := by
  refine start hC (nf := N35_slices_IndexFunc__int_int) rfl rfl ?_
  simp [N35_slices_IndexFunc__int_int]
  refine loop_of Nat (fun i => [(0, slx b (xs.map fun x => [.int .i64 x])), (1, .fn g cs), (7, .int .i64 xs.length), (8, .int .i64 i)]) (fun i => i ≤ xs.length ∧ ∀ (j : Nat) (h : j < xs.length), j < i → p xs[j] = false) (fun i => xs.length - i) 0 (by simp) (by simp) ?_
  rintro i ⟨hi, hj⟩
  simp
  refine brB_of (fun h => ?_) (fun h => ?_) <;> simp [h] <;> simp at h
  · have hw : IntKind.wrap .i64 ((i : Int) + 1) = ((i + 1 : Nat) : Int) := wrap_i64 (by omega) (by omega)
    have hc := hp _ (List.getElem_mem h)
    simp [h, List.getElem_map] at hc ⊢
    refine callW_of hc (.inl rfl) ?_
    simp
    refine brB_of (fun h1 => ?_) (fun h1 => ?_) <;> simp [h1, hw]
    · rw [idxD_step hj h h1]
    · refine ⟨i + 1, ⟨by omega, fun j hl hjj => ?_⟩, by omega, rfl⟩
      rcases Nat.lt_succ_iff_lt_or_eq.1 hjj with h2 | rfl
      · exact hj j hl h2
      · exact h1
  · rw [idxD_none (fun j hl => hj j hl (by omega))]
theorem hasInt_c {b : Bool} {xs : List Int} {g : Nat} {cs : List D} (p : Int → Bool) (hs : xs.length < 2 ^ 62) (hp : ∀ x ∈ xs, C g (.int .i64 x :: cs) (.bool (p x)) []) : C 11 [slx b (xs.map fun x => [.int .i64 x]), .fn g cs] (.bool (xs.any p)) [] := by
  refine start hC (nf := N11_slices_ContainsFunc__int_int) rfl rfl ?_
  simp [N11_slices_ContainsFunc__int_int]
  refine callW_of (idxInt_c hC p hs hp) (.inl rfl) ?_
  simp [idxD_any]
end Go.Gv

set_option linter.unusedSimpArgs false
namespace Go.Gv
structure Spt where
  x : Int
  y : Int
  z : Int
  deriving Inhabited, DecidableEq
structure Fce where
  a : Int
  b : Int
  c : Int
  k : Int
  deriving Inhabited, DecidableEq
structure Msh where
  sn : Bool
  s : List Spt
  fn : Bool
  f : List Fce
def sptC (s : Spt) : List D := [.int .i64 s.x, .int .i64 s.y, .int .i64 s.z]
def fceC (f : Fce) : List D := [.int .i64 f.a, .int .i64 f.b, .int .i64 f.c, .int .i64 f.k]
def mshC (m : Msh) : List D := [slx m.sn (m.s.map sptC), slx m.fn (m.f.map fceC)]
theorem sptC_eq (s : Spt) : sptC s = [.int .i64 s.x, .int .i64 s.y, .int .i64 s.z] := _root_.id rfl
theorem fceC_eq (f : Fce) : fceC f = [.int .i64 f.a, .int .i64 f.b, .int .i64 f.c, .int .i64 f.k] := _root_.id rfl
theorem mshC_eq (m : Msh) : mshC m = [slx m.sn (m.s.map sptC), slx m.fn (m.f.map fceC)] := _root_.id rfl
def spt (m : Msh) (i : Nat) : Spt := m.s[i]!
def fce (m : Msh) (i : Nat) : Fce := m.f[i]!
@[simp high] theorem spt_gb (m : Msh) (i : Nat) : m.s[i]! = spt m i := _root_.id rfl
@[simp high] theorem fce_gb (m : Msh) (i : Nat) : m.f[i]! = fce m i := _root_.id rfl
@[simp high] theorem spt_gd (m : Msh) (i : Nat) : m.s[i]?.getD default = spt m i := by simp only [spt, List.getElem!_eq_getElem?_getD]
@[simp high] theorem fce_gd (m : Msh) (i : Nat) : m.f[i]?.getD default = fce m i := by simp only [fce, List.getElem!_eq_getElem?_getD]
@[simp] theorem spt_g (m : Msh) (i : Nat) (h : i < m.s.length) : m.s[i] = spt m i := (getElem!_pos m.s i h).symm
@[simp] theorem fce_g (m : Msh) (i : Nat) (h : i < m.f.length) : m.f[i] = fce m i := (getElem!_pos m.f i h).symm
/-- Points. -/
abbrev Pnt := Int × Int
def ptD (p : Pnt) : List D := [.int .i64 p.1, .int .i64 p.2]
def ptS (s : Spt) : Pnt := (s.x, s.y)
def okP (p : Pnt) : Bool := -16777216 ≤ p.1 && p.1 ≤ 16777216 && -16777216 ≤ p.2 && p.2 ≤ 16777216
def rightS (s : Spt) : Bool := -16777216 ≤ s.x && s.x ≤ 16777216 && -16777216 ≤ s.y && s.y ≤ 16777216 && -4194304 ≤ s.z && s.z ≤ 4194304
theorem okP_of {s : Spt} (h : rightS s = true) : okP (ptS s) = true := by
  simp only [rightS, Bool.and_eq_true, decide_eq_true_eq] at h
  show okP (s.x, s.y) = true
  simp [okP]
  omega
def turnP (a b c : Pnt) : Int := (b.1 - a.1) * (c.2 - a.2) - (b.2 - a.2) * (c.1 - a.1)
theorem mul_bd {a b k l : Int} (h1 : -k ≤ a) (h2 : a ≤ k) (h3 : -l ≤ b) (h4 : b ≤ l) : -(k * l) ≤ a * b ∧ a * b ≤ k * l := by
  have hk : 0 ≤ k := by omega
  have hl : 0 ≤ l := by omega
  have e1 := Int.mul_nonneg (show 0 ≤ k - a by omega) (show 0 ≤ l - b by omega)
  have e2 := Int.mul_nonneg (show 0 ≤ k + a by omega) (show 0 ≤ l + b by omega)
  have e3 := Int.mul_nonneg (show 0 ≤ k - a by omega) (show 0 ≤ l + b by omega)
  have e4 := Int.mul_nonneg (show 0 ≤ k + a by omega) (show 0 ≤ l - b by omega)
  simp only [Int.sub_mul, Int.mul_sub, Int.add_mul, Int.mul_add] at e1 e2 e3 e4
  omega
theorem okP_bd {p : Pnt} (h : okP p = true) : -16777216 ≤ p.1 ∧ p.1 ≤ 16777216 ∧ -16777216 ≤ p.2 ∧ p.2 ≤ 16777216 := by
  simp only [okP, Bool.and_eq_true, decide_eq_true_eq] at h
  omega
/-- The parts of a turn. -/
theorem turn_bd {a b c : Pnt} (ha : okP a = true) (hb : okP b = true) (hc : okP c = true) :
    (-1125899906842624 ≤ (b.1 - a.1) * (c.2 - a.2) ∧ (b.1 - a.1) * (c.2 - a.2) ≤ 1125899906842624) ∧ (-1125899906842624 ≤ (b.2 - a.2) * (c.1 - a.1) ∧ (b.2 - a.2) * (c.1 - a.1) ≤ 1125899906842624) := by
  have := okP_bd ha
  have := okP_bd hb
  have := okP_bd hc
  exact ⟨mul_bd (k := 33554432) (l := 33554432) (by omega) (by omega) (by omega) (by omega), mul_bd (k := 33554432) (l := 33554432) (by omega) (by omega) (by omega) (by omega)⟩
/-- Triangles. -/
abbrev Tri := Pnt × Pnt × Pnt
def triD (t : Tri) : List D := [.int .i64 t.1.1, .int .i64 t.1.2, .int .i64 t.2.1.1, .int .i64 t.2.1.2, .int .i64 t.2.2.1, .int .i64 t.2.2.2]
def okT (t : Tri) : Bool := okP t.1 && okP t.2.1 && okP t.2.2
def turnT (t : Tri) : Int := turnP t.1 t.2.1 t.2.2
def sep1 (p q : Pnt) (u : Tri) : Bool := turnP p q u.1 ≤ 0 && turnP p q u.2.1 ≤ 0 && turnP p q u.2.2 ≤ 0
def sepT (t u : Tri) : Bool := sep1 t.1 t.2.1 u || sep1 t.2.1 t.2.2 u || sep1 t.2.2 t.1 u
def ovT (t u : Tri) : Bool := !sepT t u && !sepT u t
def triF (m : Msh) (f : Fce) : Tri := (ptS (spt m f.a.toNat), ptS (spt m f.b.toNat), ptS (spt m f.c.toNat))
/-- Corners, counted around. -/
def crn (f : Fce) : Nat → Int
  | 0 => f.a
  | 1 => f.b
  | 2 => f.c
  | 3 => f.a
  | 4 => f.b
  | _ => f.c
def inR1 (n : Nat) (a : Int) : Bool := 0 ≤ a && a < n
/-- Its corners are spots. -/
def inS (m : Msh) (f : Fce) : Bool := inR1 m.s.length f.a && inR1 m.s.length f.b && inR1 m.s.length f.c
theorem inS_bd {m : Msh} {f : Fce} (h : inS m f = true) : (0 ≤ f.a ∧ f.a.toNat < m.s.length) ∧ (0 ≤ f.b ∧ f.b.toNat < m.s.length) ∧ (0 ≤ f.c ∧ f.c.toNat < m.s.length) := by
  simp only [inS, inR1, Bool.and_eq_true, decide_eq_true_eq] at h
  omega
variable {C : CC} (hC : Closed prog C)
include hC
theorem pValid_c (p : Pnt) : C 313 [.agg (ptD p)] (.bool (okP p)) [] := by
  refine start hC (nf := N313_plane_Valid) rfl rfl ?_
  simp [N313_plane_Valid, ptD, okP]
  repeat' (refine brB_of (fun h => ?_) (fun h => ?_) <;> simp at h <;> simp [h] <;> try omega)
theorem mright_c (s : Spt) : C 303 [.agg (sptC s)] (.bool (rightS s)) [] := by
  have k := pValid_c hC (s.x, s.y)
  simp [ptD, okP] at k
  refine start hC (nf := N303_mesh_right) rfl rfl ?_
  simp [N303_mesh_right, sptC, rightS]
  refine callW_of k (.inl rfl) ?_
  simp
  repeat' (refine brB_of (fun h => ?_) (fun h => ?_) <;> simp at h <;> simp [h] <;> try omega)
theorem rSpot_c (s : Spt) : C 289 [.agg (sptC s)] (.bool (rightS s)) [] := by
  refine start hC (nf := N289_ref09_Spot) rfl rfl ?_
  simp [N289_ref09_Spot, sptC, rightS]
  repeat' (refine brB_of (fun h => ?_) (fun h => ?_) <;> simp at h <;> simp [h] <;> try omega)
theorem rPoint_c (s : Spt) : C 291 [.agg (sptC s)] (.agg (ptD (ptS s))) [] := by
  refine start hC (nf := N291_ref09_Point) rfl rfl ?_
  simp [N291_ref09_Point, sptC, ptD, ptS]
theorem msmall_c (m : Msh) : C 302 [.agg (mshC m)] (.bool (decide (m.s.length ≤ 2000) && decide (m.f.length ≤ 4000))) [] := by
  refine start hC (nf := N302_mesh_small) rfl rfl ?_
  simp [N302_mesh_small, mshC]
  refine brB_of (fun h => ?_) (fun h => ?_) <;> simp at h <;> simp [h]
  · rw [decide_eq_true (show m.s.length ≤ 2000 by omega)]
    simp
    exact Iff.intro (fun h2 => by omega) (fun h2 => by omega)
  · omega
theorem rsmall_c (m : Msh) : C 257 [.agg (mshC m)] (.bool (decide (m.s.length ≤ 2000) && decide (m.f.length ≤ 4000))) [] := by
  refine start hC (nf := N257_ref09_Small) rfl rfl ?_
  simp [N257_ref09_Small, mshC]
  refine brB_of (fun h => ?_) (fun h => ?_) <;> simp at h <;> simp [h]
  · rw [decide_eq_true (show m.s.length ≤ 2000 by omega)]
    simp
    exact Iff.intro (fun h2 => by omega) (fun h2 => by omega)
  · omega
theorem mpoint_c (m : Msh) (i : Nat) (h : i < m.s.length) : C 304 [.agg (mshC m), .int .i64 i] (.agg (ptD (ptS (spt m i)))) [] := by
  refine start hC (nf := N304_mesh_point) rfl rfl ?_
  simp [N304_mesh_point, mshC, h, sptC_eq, ptD, ptS]
  exact indW_of (by decide +kernel)
theorem mcorners_c (f : Fce) : C 305 [.agg (fceC f)] (.agg [.int .i64 f.a, .int .i64 f.b, .int .i64 f.c]) [] := by
  refine start hC (nf := N305_mesh_corners) rfl rfl ?_
  simp [N305_mesh_corners, fceC]
theorem mside_c (f : Fce) (k : Nat) (hk : k < 3) : C 298 [.agg (fceC f), .int .i64 k] (.agg [.int .i64 (crn f k), .int .i64 (crn f (k + 1))]) [] := by
  have k1 := mcorners_c hC f
  refine start hC (nf := N298_mesh_side) rfl rfl ?_
  rw [fceC] at k1 ⊢
  simp [N298_mesh_side]
  refine callW_of k1 (.inl rfl) ?_
  have w : IntKind.wrap .i64 ((k : Int) + 1) = ((k + 1 : Nat) : Int) := wrap_i64 (by omega) (by omega)
  have w0 : IntKind.wrap .i64 1 = 1 := by decide
  have w1 : IntKind.wrap .i64 2 = 2 := by decide
  have w2 : IntKind.wrap .i64 3 = 3 := by decide
  rcases (by omega : k = 0 ∨ k = 1 ∨ k = 2) with rfl | rfl | rfl <;> simp [crn, w0, w1, w2] <;> exact indW_of (by decide +kernel)
theorem mturn_c {a b c : Pnt} (ha : okP a = true) (hb : okP b = true) (hc : okP c = true) : C 308 [.agg (ptD a), .agg (ptD b), .agg (ptD c)] (.int .i64 (turnP a b c)) [] := by
  have := okP_bd ha
  have := okP_bd hb
  have := okP_bd hc
  have h4 := turn_bd ha hb hc
  refine start hC (nf := N308_mesh_turn) rfl rfl ?_
  have w1 : IntKind.wrap .i64 (b.1 - a.1) = b.1 - a.1 := wrap_i64 rfl (by omega)
  have w2 : IntKind.wrap .i64 (c.2 - a.2) = c.2 - a.2 := wrap_i64 rfl (by omega)
  have w3 : IntKind.wrap .i64 (b.2 - a.2) = b.2 - a.2 := wrap_i64 rfl (by omega)
  have w4 : IntKind.wrap .i64 (c.1 - a.1) = c.1 - a.1 := wrap_i64 rfl (by omega)
  have w5 : IntKind.wrap .i64 ((b.1 - a.1) * (c.2 - a.2)) = (b.1 - a.1) * (c.2 - a.2) := wrap_i64 rfl (by omega)
  have w6 : IntKind.wrap .i64 ((b.2 - a.2) * (c.1 - a.1)) = (b.2 - a.2) * (c.1 - a.1) := wrap_i64 rfl (by omega)
  have w7 : IntKind.wrap .i64 ((b.1 - a.1) * (c.2 - a.2) - (b.2 - a.2) * (c.1 - a.1)) = turnP a b c := wrap_i64 rfl (by rw [turnP]; omega)
  simp [N308_mesh_turn, ptD, w1, w2, w3, w4, w5, w6, w7]
theorem rTurn_c {a b c : Pnt} (ha : okP a = true) (hb : okP b = true) (hc : okP c = true) : C 286 [.agg (ptD a), .agg (ptD b), .agg (ptD c)] (.int .i64 (turnP a b c)) [] := by
  have := okP_bd ha
  have := okP_bd hb
  have := okP_bd hc
  have h4 := turn_bd ha hb hc
  refine start hC (nf := N286_ref07_Turn) rfl rfl ?_
  have w1 : IntKind.wrap .i64 (b.1 - a.1) = b.1 - a.1 := wrap_i64 rfl (by omega)
  have w2 : IntKind.wrap .i64 (c.2 - a.2) = c.2 - a.2 := wrap_i64 rfl (by omega)
  have w3 : IntKind.wrap .i64 (b.2 - a.2) = b.2 - a.2 := wrap_i64 rfl (by omega)
  have w4 : IntKind.wrap .i64 (c.1 - a.1) = c.1 - a.1 := wrap_i64 rfl (by omega)
  have w5 : IntKind.wrap .i64 ((b.1 - a.1) * (c.2 - a.2)) = (b.1 - a.1) * (c.2 - a.2) := wrap_i64 rfl (by omega)
  have w6 : IntKind.wrap .i64 ((b.2 - a.2) * (c.1 - a.1)) = (b.2 - a.2) * (c.1 - a.1) := wrap_i64 rfl (by omega)
  have w7 : IntKind.wrap .i64 ((b.1 - a.1) * (c.2 - a.2) - (b.2 - a.2) * (c.1 - a.1)) = turnP a b c := wrap_i64 rfl (by rw [turnP]; omega)
  simp [N286_ref07_Turn, ptD, w1, w2, w3, w4, w5, w6, w7]
theorem mtri_c (m : Msh) (f : Fce) (h : inS m f = true) : C 307 [.agg (mshC m), .agg (fceC f)] (.agg (triD (triF m f))) [] := by
  obtain ⟨⟨a1, a2⟩, ⟨b1, b2⟩, ⟨c1, c2⟩⟩ := inS_bd h
  have ka := mpoint_c hC m f.a.toNat a2
  have kb := mpoint_c hC m f.b.toNat b2
  have kc := mpoint_c hC m f.c.toNat c2
  rw [Int.toNat_of_nonneg a1] at ka
  rw [Int.toNat_of_nonneg b1] at kb
  rw [Int.toNat_of_nonneg c1] at kc
  refine start hC (nf := N307_mesh_triangle) rfl rfl ?_
  rw [mshC] at ka kb kc ⊢
  simp [N307_mesh_triangle, fceC]
  simp [ptD] at ka kb kc
  refine callW_of ka (.inl rfl) ?_
  simp
  refine callW_of kb (.inl rfl) ?_
  simp
  refine callW_of kc (.inl rfl) ?_
  simp [triD, triF]
  exact indW_of (by decide +kernel)
theorem rCorner_c (f : Fce) (k : Nat) (hk : k < 4) : C 323 [.agg (fceC f), .int .i64 k] (.int .i64 (crn f k)) [] := by
  refine start hC (nf := N323_ref09_Corner) rfl rfl ?_
  rcases (by omega : k = 0 ∨ k = 1 ∨ k = 2 ∨ k = 3) with rfl | rfl | rfl | rfl <;> simp [N323_ref09_Corner, fceC, crn] <;> (refine rowW_of (r := [.int .i64 _]) rfl (by simp) ?_; simp)
theorem rtri_c (m : Msh) (f : Fce) (h : inS m f = true) : C 285 [.agg (mshC m), .agg (fceC f)] (.sl [ptD (triF m f).1, ptD (triF m f).2.1, ptD (triF m f).2.2]) [] := by
  obtain ⟨⟨a1, a2⟩, ⟨b1, b2⟩, ⟨c1, c2⟩⟩ := inS_bd h
  have ka := rPoint_c hC (spt m f.a.toNat)
  have kb := rPoint_c hC (spt m f.b.toNat)
  have kc := rPoint_c hC (spt m f.c.toNat)
  rw [sptC] at ka kb kc
  refine start hC (nf := N285_ref09_Triangle) rfl rfl ?_
  simp [N285_ref09_Triangle, fceC, mshC, a1, a2, sptC_eq]
  refine callW_of ka (.inl rfl) ?_
  simp [b1, b2, sptC_eq]
  refine callW_of kb (.inl rfl) ?_
  simp [c1, c2, sptC_eq]
  refine callW_of kc (.inl rfl) ?_
  simp [triF, ptD]
  exact indW_of (by decide +kernel)
end Go.Gv

set_option linter.unusedSimpArgs false
namespace Go.Gv
theorem w64_1 : IntKind.wrap .i64 1 = 1 := by decide
theorem w64_2 : IntKind.wrap .i64 2 = 2 := by decide
theorem w64_3 : IntKind.wrap .i64 3 = 3 := by decide
variable {C : CC} (hC : Closed prog C)
include hC
set_option maxHeartbeats 1000000 in
theorem sep_c {t u : Tri} (ht : okT t = true) (hu : okT u = true) : C 311 [.agg (triD t), .agg (triD u)] (.bool (sepT t u)) [] := by
  simp only [okT, Bool.and_eq_true] at ht hu
  obtain ⟨⟨t1, t2⟩, t3⟩ := ht
  obtain ⟨⟨u1, u2⟩, u3⟩ := hu
  have kk := fun (p q r : Pnt) (hp : okP p = true) (hq : okP q = true) (hr : okP r = true) => mturn_c hC hp hq hr
  simp only [ptD] at kk
  have E : sepT t u = (sep1 t.1 t.2.1 u || sep1 t.2.1 t.2.2 u || sep1 t.2.2 t.1 u) := rfl
  rw [E]
  clear E
  have S : ∀ p q, sep1 p q u = (decide (turnP p q u.1 ≤ 0) && decide (turnP p q u.2.1 ≤ 0) && decide (turnP p q u.2.2 ≤ 0)) := fun p q => rfl
  refine start hC (nf := N311_mesh_separates) rfl rfl ?_
  rw [triD, triD]
  simp [N311_mesh_separates]
  refine loop_of Nat (fun i => [(2, .ptr (triD t)), (3, .ptr (triD u)), (8, .int .i64 i)]) (fun i => i ≤ 3 ∧ (1 ≤ i → sep1 t.1 t.2.1 u = false) ∧ (2 ≤ i → sep1 t.2.1 t.2.2 u = false) ∧ (3 ≤ i → sep1 t.2.2 t.1 u = false)) (fun i => 3 - i) 0 (by simp) (by simp [triD]) ?_
  rintro i ⟨hi, s1, s2, s3⟩
  rcases (by omega : i = 0 ∨ i = 1 ∨ i = 2 ∨ i = 3) with rfl | rfl | rfl | rfl
  · simp [triD, w64_1, w64_2, w64_3]
    refine ⟨indW_of (by decide +kernel), ?_⟩
    refine callW_of (kk t.1 t.2.1 u.1 t1 t2 u1) (.inl rfl) ?_
    simp
    refine brB_of (fun h1 => ?_) (fun h1 => ?_) <;> simp at h1
    · simp [h1]
      refine callW_of (kk t.1 t.2.1 u.2.1 t1 t2 u2) (.inl rfl) ?_
      simp
      refine brB_of (fun h2 => ?_) (fun h2 => ?_) <;> simp at h2
      · simp [h2]
        refine callW_of (kk t.1 t.2.1 u.2.2 t1 t2 u3) (.inl rfl) ?_
        simp
        refine brB_of (fun h3 => ?_) (fun h3 => ?_) <;> simp at h3 <;> simp [h3]
        · simp [S, h1, h2, h3]
        · refine ⟨1, ⟨by omega, fun _ => by simp only [S, Bool.and_eq_false_iff, decide_eq_false_iff_not]; omega, fun h => by omega, fun h => by omega⟩, by omega, ?_⟩ <;> simp [w64_1, w64_2, w64_3]
      · simp [Int.not_le.2 h2]
        refine ⟨1, ⟨by omega, fun _ => by simp only [S, Bool.and_eq_false_iff, decide_eq_false_iff_not]; omega, fun h => by omega, fun h => by omega⟩, by omega, ?_⟩ <;> simp [w64_1, w64_2, w64_3]
    · simp [Int.not_le.2 h1]
      refine ⟨1, ⟨by omega, fun _ => by simp only [S, Bool.and_eq_false_iff, decide_eq_false_iff_not]; omega, fun h => by omega, fun h => by omega⟩, by omega, ?_⟩ <;> simp [w64_1, w64_2, w64_3]
  · simp [triD, w64_1, w64_2, w64_3]
    refine ⟨indW_of (by decide +kernel), ?_⟩
    refine callW_of (kk t.2.1 t.2.2 u.1 t2 t3 u1) (.inl rfl) ?_
    simp
    refine brB_of (fun h1 => ?_) (fun h1 => ?_) <;> simp at h1
    · simp [h1]
      refine callW_of (kk t.2.1 t.2.2 u.2.1 t2 t3 u2) (.inl rfl) ?_
      simp
      refine brB_of (fun h2 => ?_) (fun h2 => ?_) <;> simp at h2
      · simp [h2]
        refine callW_of (kk t.2.1 t.2.2 u.2.2 t2 t3 u3) (.inl rfl) ?_
        simp
        refine brB_of (fun h3 => ?_) (fun h3 => ?_) <;> simp at h3 <;> simp [h3]
        · simp [S, h1, h2, h3]
        · refine ⟨2, ⟨by omega, fun _ => s1 (by omega), fun _ => by simp only [S, Bool.and_eq_false_iff, decide_eq_false_iff_not]; omega, fun h => by omega⟩, by omega, ?_⟩ <;> simp [w64_1, w64_2, w64_3]
      · simp [Int.not_le.2 h2]
        refine ⟨2, ⟨by omega, fun _ => s1 (by omega), fun _ => by simp only [S, Bool.and_eq_false_iff, decide_eq_false_iff_not]; omega, fun h => by omega⟩, by omega, ?_⟩ <;> simp [w64_1, w64_2, w64_3]
    · simp [Int.not_le.2 h1]
      refine ⟨2, ⟨by omega, fun _ => s1 (by omega), fun _ => by simp only [S, Bool.and_eq_false_iff, decide_eq_false_iff_not]; omega, fun h => by omega⟩, by omega, ?_⟩ <;> simp [w64_1, w64_2, w64_3]
  · simp [triD, w64_1, w64_2, w64_3]
    refine ⟨indW_of (by decide +kernel), ?_⟩
    refine callW_of (kk t.2.2 t.1 u.1 t3 t1 u1) (.inl rfl) ?_
    simp
    refine brB_of (fun h1 => ?_) (fun h1 => ?_) <;> simp at h1
    · simp [h1]
      refine callW_of (kk t.2.2 t.1 u.2.1 t3 t1 u2) (.inl rfl) ?_
      simp
      refine brB_of (fun h2 => ?_) (fun h2 => ?_) <;> simp at h2
      · simp [h2]
        refine callW_of (kk t.2.2 t.1 u.2.2 t3 t1 u3) (.inl rfl) ?_
        simp
        refine brB_of (fun h3 => ?_) (fun h3 => ?_) <;> simp at h3 <;> simp [h3]
        · simp [S, h1, h2, h3]
        · refine ⟨3, ⟨by omega, fun _ => s1 (by omega), fun _ => s2 (by omega), fun _ => by simp only [S, Bool.and_eq_false_iff, decide_eq_false_iff_not]; omega⟩, by omega, ?_⟩ <;> simp [w64_1, w64_2, w64_3]
      · simp [Int.not_le.2 h2]
        refine ⟨3, ⟨by omega, fun _ => s1 (by omega), fun _ => s2 (by omega), fun _ => by simp only [S, Bool.and_eq_false_iff, decide_eq_false_iff_not]; omega⟩, by omega, ?_⟩ <;> simp [w64_1, w64_2, w64_3]
    · simp [Int.not_le.2 h1]
      refine ⟨3, ⟨by omega, fun _ => s1 (by omega), fun _ => s2 (by omega), fun _ => by simp only [S, Bool.and_eq_false_iff, decide_eq_false_iff_not]; omega⟩, by omega, ?_⟩ <;> simp [w64_1, w64_2, w64_3]
  · simp [s1 (by omega), s2 (by omega), s3 (by omega)]
def triR (t : Tri) : List (List D) := [ptD t.1, ptD t.2.1, ptD t.2.2]
set_option maxHeartbeats 1000000 in
theorem rapart_c {t u : Tri} (ht : okT t = true) (hu : okT u = true) : C 324 [.sl (triR t), .sl (triR u)] (.bool (sepT t u)) [] := by
  simp only [okT, Bool.and_eq_true] at ht hu
  obtain ⟨⟨t1, t2⟩, t3⟩ := ht
  obtain ⟨⟨u1, u2⟩, u3⟩ := hu
  have kk := fun (p q r : Pnt) (hp : okP p = true) (hq : okP q = true) (hr : okP r = true) => rTurn_c hC hp hq hr
  simp only [ptD] at kk
  have E : sepT t u = (sep1 t.1 t.2.1 u || sep1 t.2.1 t.2.2 u || sep1 t.2.2 t.1 u) := rfl
  rw [E]
  clear E
  have S : ∀ p q, sep1 p q u = (decide (turnP p q u.1 ≤ 0) && decide (turnP p q u.2.1 ≤ 0) && decide (turnP p q u.2.2 ≤ 0)) := fun p q => rfl
  refine start hC (nf := N324_ref09_apart) rfl rfl ?_
  simp only [triR, ptD]
  simp [N324_ref09_apart]
  refine loop_of Nat (fun i => [(0, .sl (triR t)), (1, .sl (triR u)), (5, .int .i64 i)]) (fun i => i ≤ 3 ∧ (1 ≤ i → sep1 t.1 t.2.1 u = false) ∧ (2 ≤ i → sep1 t.2.1 t.2.2 u = false) ∧ (3 ≤ i → sep1 t.2.2 t.1 u = false)) (fun i => 3 - i) 0 (by simp) (by simp [triR, ptD]) ?_
  rintro i ⟨hi, s1, s2, s3⟩
  rcases (by omega : i = 0 ∨ i = 1 ∨ i = 2 ∨ i = 3) with rfl | rfl | rfl | rfl
  · simp [triR, ptD, w64_1, w64_2, w64_3]
    refine ⟨indW_of (by decide +kernel), ?_⟩
    refine callW_of (kk t.1 t.2.1 u.1 t1 t2 u1) (.inl rfl) ?_
    simp
    refine brB_of (fun h1 => ?_) (fun h1 => ?_) <;> simp at h1
    · simp [h1]
      refine callW_of (kk t.1 t.2.1 u.2.1 t1 t2 u2) (.inl rfl) ?_
      simp
      refine brB_of (fun h2 => ?_) (fun h2 => ?_) <;> simp at h2
      · simp [h2]
        refine callW_of (kk t.1 t.2.1 u.2.2 t1 t2 u3) (.inl rfl) ?_
        simp
        refine ⟨indW_of (by decide +kernel), ?_⟩
        refine brB_of (fun h3 => ?_) (fun h3 => ?_) <;> simp at h3 <;> simp [h3]
        · simp [S, h1, h2, h3]
        · refine ⟨1, ⟨by omega, fun _ => by simp only [S, Bool.and_eq_false_iff, decide_eq_false_iff_not]; omega, fun h => by omega, fun h => by omega⟩, by omega, ?_⟩ <;> simp [w64_1, w64_2, w64_3]
      · simp [Int.not_le.2 h2]
        refine ⟨indW_of (by decide +kernel), ?_⟩
        refine ⟨1, ⟨by omega, fun _ => by simp only [S, Bool.and_eq_false_iff, decide_eq_false_iff_not]; omega, fun h => by omega, fun h => by omega⟩, by omega, ?_⟩ <;> simp [w64_1, w64_2, w64_3]
    · simp [Int.not_le.2 h1]
      refine ⟨indW_of (by decide +kernel), ?_⟩
      refine ⟨1, ⟨by omega, fun _ => by simp only [S, Bool.and_eq_false_iff, decide_eq_false_iff_not]; omega, fun h => by omega, fun h => by omega⟩, by omega, ?_⟩ <;> simp [w64_1, w64_2, w64_3]
  · simp [triR, ptD, w64_1, w64_2, w64_3]
    refine ⟨indW_of (by decide +kernel), ?_⟩
    refine callW_of (kk t.2.1 t.2.2 u.1 t2 t3 u1) (.inl rfl) ?_
    simp
    refine brB_of (fun h1 => ?_) (fun h1 => ?_) <;> simp at h1
    · simp [h1]
      refine callW_of (kk t.2.1 t.2.2 u.2.1 t2 t3 u2) (.inl rfl) ?_
      simp
      refine brB_of (fun h2 => ?_) (fun h2 => ?_) <;> simp at h2
      · simp [h2]
        refine callW_of (kk t.2.1 t.2.2 u.2.2 t2 t3 u3) (.inl rfl) ?_
        simp
        refine ⟨indW_of (by decide +kernel), ?_⟩
        refine brB_of (fun h3 => ?_) (fun h3 => ?_) <;> simp at h3 <;> simp [h3]
        · simp [S, h1, h2, h3]
        · refine ⟨2, ⟨by omega, fun _ => s1 (by omega), fun _ => by simp only [S, Bool.and_eq_false_iff, decide_eq_false_iff_not]; omega, fun h => by omega⟩, by omega, ?_⟩ <;> simp [w64_1, w64_2, w64_3]
      · simp [Int.not_le.2 h2]
        refine ⟨indW_of (by decide +kernel), ?_⟩
        refine ⟨2, ⟨by omega, fun _ => s1 (by omega), fun _ => by simp only [S, Bool.and_eq_false_iff, decide_eq_false_iff_not]; omega, fun h => by omega⟩, by omega, ?_⟩ <;> simp [w64_1, w64_2, w64_3]
    · simp [Int.not_le.2 h1]
      refine ⟨indW_of (by decide +kernel), ?_⟩
      refine ⟨2, ⟨by omega, fun _ => s1 (by omega), fun _ => by simp only [S, Bool.and_eq_false_iff, decide_eq_false_iff_not]; omega, fun h => by omega⟩, by omega, ?_⟩ <;> simp [w64_1, w64_2, w64_3]
  · simp [triR, ptD, w64_1, w64_2, w64_3]
    refine ⟨indW_of (by decide +kernel), ?_⟩
    refine callW_of (kk t.2.2 t.1 u.1 t3 t1 u1) (.inl rfl) ?_
    simp
    refine brB_of (fun h1 => ?_) (fun h1 => ?_) <;> simp at h1
    · simp [h1]
      refine callW_of (kk t.2.2 t.1 u.2.1 t3 t1 u2) (.inl rfl) ?_
      simp
      refine brB_of (fun h2 => ?_) (fun h2 => ?_) <;> simp at h2
      · simp [h2]
        refine callW_of (kk t.2.2 t.1 u.2.2 t3 t1 u3) (.inl rfl) ?_
        simp
        refine ⟨indW_of (by decide +kernel), ?_⟩
        refine brB_of (fun h3 => ?_) (fun h3 => ?_) <;> simp at h3 <;> simp [h3]
        · simp [S, h1, h2, h3]
        · refine ⟨3, ⟨by omega, fun _ => s1 (by omega), fun _ => s2 (by omega), fun _ => by simp only [S, Bool.and_eq_false_iff, decide_eq_false_iff_not]; omega⟩, by omega, ?_⟩ <;> simp [w64_1, w64_2, w64_3]
      · simp [Int.not_le.2 h2]
        refine ⟨indW_of (by decide +kernel), ?_⟩
        refine ⟨3, ⟨by omega, fun _ => s1 (by omega), fun _ => s2 (by omega), fun _ => by simp only [S, Bool.and_eq_false_iff, decide_eq_false_iff_not]; omega⟩, by omega, ?_⟩ <;> simp [w64_1, w64_2, w64_3]
    · simp [Int.not_le.2 h1]
      refine ⟨indW_of (by decide +kernel), ?_⟩
      refine ⟨3, ⟨by omega, fun _ => s1 (by omega), fun _ => s2 (by omega), fun _ => by simp only [S, Bool.and_eq_false_iff, decide_eq_false_iff_not]; omega⟩, by omega, ?_⟩ <;> simp [w64_1, w64_2, w64_3]
  · simp [s1 (by omega), s2 (by omega), s3 (by omega)]
end Go.Gv

set_option linter.unusedSimpArgs false
namespace Go.Gv
/-- Its corners are spots that are right. -/
def okc (m : Msh) (a b : Int) : Bool := inR1 m.s.length a && decide (a ≠ b) && rightS (spt m a.toNat)
def okF (m : Msh) (f : Fce) : Bool := okc m f.a f.b && okc m f.b f.c && okc m f.c f.a && decide (0 ≤ f.k) && decide (f.k < 16)
def mtc (f g : Fce) (i k : Nat) : Bool := decide (crn f i = crn g k) && decide (crn f (i + 1) = crn g (k + 1))
def shareB (f g : Fce) : Bool := (List.range 3).any fun i => (List.range 3).any fun k => mtc f g i k
theorem okF_inS {m : Msh} {f : Fce} (h : okF m f = true) : inS m f = true := by
  simp only [okF, okc, Bool.and_eq_true] at h
  simp only [inS, Bool.and_eq_true]
  exact ⟨⟨h.1.1.1.1.1.1, h.1.1.1.2.1.1⟩, h.1.1.2.1.1⟩
theorem okF_okT {m : Msh} {f : Fce} (h : okF m f = true) : okT (triF m f) = true := by
  simp only [okF, okc, Bool.and_eq_true] at h
  simp only [okT, triF, Bool.and_eq_true]
  exact ⟨⟨okP_of h.1.1.1.1.2, okP_of h.1.1.1.2.2⟩, okP_of h.1.1.2.2⟩
def digB (n : Nat) : UInt8 := UInt8.ofNat (48 + n % 10)
def decL (n : Nat) (out : List UInt8) : List UInt8 := if n < 10 then digB n :: out else decL (n / 10) (digB n :: out)
def decR (n : Nat) (out : List UInt8) : List UInt8 := if n = 0 then out else decL n out
theorem decL_step (n : Nat) (out : List UInt8) : decL n out = decR (n / 10) (digB n :: out) := by
  rw [decL, decR]
  by_cases h : n < 10
  · rw [if_pos h, if_pos (by omega)]
  · rw [if_neg h, if_neg (by omega)]
variable {C : CC} (hC : Closed prog C)
include hC
theorem rturn_c (m : Msh) (f : Fce) (hs : inS m f = true) (ht : okT (triF m f) = true) : C 293 [.agg (mshC m), .agg (fceC f)] (.int .i64 (turnT (triF m f))) [] := by
  have k1 := rtri_c hC m f hs
  have k2 := ht
  simp only [okT, Bool.and_eq_true] at k2
  have k3 := rTurn_c hC k2.1.1 k2.1.2 k2.2
  obtain ⟨t, e⟩ : ∃ t, t = triF m f := ⟨_, rfl⟩
  rw [← e] at k1 k3 ⊢
  refine start hC (nf := N293_ref09_turn) rfl rfl ?_
  rw [mshC, fceC] at k1 ⊢
  simp only [ptD] at k1 k3
  simp [N293_ref09_turn]
  refine callW_of k1 (.inr rfl) ?_
  simp
  refine callW_of k3 (.inl rfl) ?_
  simp [turnT]
  exact indW_of (by decide +kernel)
theorem roverlap_c (m : Msh) (f g : Fce) (hs : inS m f = true) (ht : okT (triF m f) = true) (hs' : inS m g = true) (ht' : okT (triF m g) = true) : C 295 [.agg (mshC m), .agg (fceC f), .agg (fceC g)] (.bool (ovT (triF m f) (triF m g))) [] := by
  have k1 := rtri_c hC m f hs
  have k2 := rtri_c hC m g hs'
  have k3 := rapart_c hC ht ht'
  have k4 := rapart_c hC ht' ht
  obtain ⟨t, e⟩ : ∃ t, t = triF m f := ⟨_, rfl⟩
  obtain ⟨u, e'⟩ : ∃ u, u = triF m g := ⟨_, rfl⟩
  rw [← e] at k1 k3 k4 ⊢
  rw [← e'] at k2 k3 k4 ⊢
  refine start hC (nf := N295_ref09_overlap) rfl rfl ?_
  rw [mshC, fceC] at k1 k2 ⊢
  rw [fceC]
  simp only [triR, ptD] at k1 k2 k3 k4
  simp [N295_ref09_overlap]
  refine callW_of k1 (.inr rfl) ?_
  simp
  refine callW_of k2 (.inr rfl) ?_
  simp
  refine ⟨indW_of (by decide +kernel), ?_⟩
  refine callW_of k3 (.inl rfl) ?_
  simp
  cases h1 : sepT t u <;> simp [ovT, h1]
  refine callW_of k4 (.inl rfl) ?_
  simp
  exact fun _ => h1
theorem rsame_c (f g : Fce) : C 294 [.agg (fceC f), .agg (fceC g)] (.bool (shareB f g)) [] := by
  have kf := fun k (h : k < 4) => rCorner_c hC f k h
  have kg := fun k (h : k < 4) => rCorner_c hC g k h
  refine start hC (nf := N294_ref09_sameSide) rfl rfl ?_
  rw [fceC] at kf ⊢
  rw [fceC] at kg ⊢
  simp [N294_ref09_sameSide]
  refine loop_of Nat (fun i => [(2, .ptr (fceC f)), (3, .ptr (fceC g)), (5, .int .i64 i)]) (fun i => i ≤ 3 ∧ ∀ a, a < i → ∀ b, b < 3 → mtc f g a b = false) (fun i => 3 - i) 0 (by simp) (by simp [fceC]) ?_
  rintro i ⟨hi, hI⟩
  simp [fceC]
  refine brB_of (fun c1 => ?_) (fun c1 => ?_) <;> simp at c1 <;> simp [c1]
  · have hw : IntKind.wrap .i64 ((i : Int) + 1) = ((i + 1 : Nat) : Int) := wrap_i64 (by omega) (by omega)
    refine loop_of Nat (fun k => [(2, .ptr (fceC f)), (3, .ptr (fceC g)), (5, .int .i64 i), (6, .int .i64 k)]) (fun k => k ≤ 3 ∧ ∀ b, b < k → mtc f g i b = false) (fun k => 3 - k) 0 (by simp) (by simp [fceC]) ?_
    rintro k ⟨hk, hK⟩
    simp [fceC]
    refine brB_of (fun c2 => ?_) (fun c2 => ?_) <;> simp at c2 <;> simp [c2]
    · have hw2 : IntKind.wrap .i64 ((k : Int) + 1) = ((k + 1 : Nat) : Int) := wrap_i64 (by omega) (by omega)
      refine callW_of (kf i (by omega)) (.inl rfl) ?_
      simp
      refine callW_of (kg k (by omega)) (.inl rfl) ?_
      simp
      by_cases h1 : crn f i = crn g k
      · simp [h1, hw, hw2]
        refine callW_of (kf (i + 1) (by omega)) (.inl rfl) ?_
        simp [hw2]
        refine callW_of (kg (k + 1) (by omega)) (.inl rfl) ?_
        simp
        refine ⟨indW_of (by decide +kernel), ?_⟩
        by_cases h2 : crn f (i + 1) = crn g (k + 1)
        · simp [h2]
          refine List.any_eq_true.2 ⟨i, List.mem_range.2 (by omega), List.any_eq_true.2 ⟨k, List.mem_range.2 (by omega), ?_⟩⟩
          simp [mtc, h1, h2]
        · simp [h2, hw2]
          refine ⟨k + 1, ⟨by omega, fun b hb => ?_⟩, by omega, ?_⟩
          rotate_left
          · omega
          rcases Nat.lt_succ_iff_lt_or_eq.1 hb with h | rfl
          · exact hK b h
          · simp [mtc, h2]
      · simp [h1, hw2]
        refine ⟨indW_of (by decide +kernel), ?_⟩
        refine ⟨k + 1, ⟨by omega, fun b hb => ?_⟩, by omega, ?_⟩
        rotate_left
        · omega
        rcases Nat.lt_succ_iff_lt_or_eq.1 hb with h | rfl
        · exact hK b h
        · simp [mtc, h1]
    · simp [hw]
      refine ⟨i + 1, ⟨by omega, fun a ha b hb => ?_⟩, by omega, ?_⟩
      rotate_left
      · omega
      rcases Nat.lt_succ_iff_lt_or_eq.1 ha with h | rfl
      · exact hI a h b hb
      · exact hK b (by omega)
  · rw [shareB]
    rw [Bool.eq_false_iff]
    intro h
    rw [List.any_eq_true] at h
    obtain ⟨a, ha, h⟩ := h
    rw [List.any_eq_true] at h
    obtain ⟨b, hb, h⟩ := h
    rw [hI a (by have := List.mem_range.1 ha; omega) b (List.mem_range.1 hb)] at h
    cases h
set_option maxHeartbeats 2000000 in
theorem rcor_c (m : Msh) (f : Fce) (hn : m.s.length < 2 ^ 40) : C 292 [.agg (mshC m), .agg (fceC f)] (.bool (okF m f)) [] := by
  have ks := fun s => rSpot_c hC s
  have E : ∀ a b : Int, okc m a b = (decide (0 ≤ a) && decide (a < m.s.length) && decide (a ≠ b) && rightS (spt m a.toNat)) := fun a b => rfl
  have E2 : okF m f = (okc m f.a f.b && okc m f.b f.c && okc m f.c f.a && decide (0 ≤ f.k) && decide (f.k < 16)) := rfl
  refine start hC (nf := N292_ref09_corners) rfl rfl ?_
  rw [mshC, fceC]
  simp only [sptC] at ks
  simp [N292_ref09_corners]
  refine loop_of Nat (fun i => [(2, .ptr (mshC m)), (3, .ptr (fceC f)), (5, .ref (.r 10080) 0 3), (10080, .blk 1 [[.int .i64 f.a], [.int .i64 f.b], [.int .i64 f.c]]), (6, .int .i64 i)]) (fun i => i ≤ 3 ∧ (1 ≤ i → okc m f.a f.b = true) ∧ (2 ≤ i → okc m f.b f.c = true) ∧ (3 ≤ i → okc m f.c f.a = true)) (fun i => 3 - i) 0 (by simp) (by simp [fceC, mshC]) ?_
  rintro i ⟨hi, s1, s2, s3⟩
  rcases (by omega : i = 0 ∨ i = 1 ∨ i = 2 ∨ i = 3) with rfl | rfl | rfl | rfl
  · have no : okc m f.a f.b = false → okF m f = false := fun h => by simp [E2, h]
    simp [fceC, mshC, w64_1, w64_2, w64_3]
    refine brB_of (fun c1 => ?_) (fun c1 => ?_) <;> simp at c1
    · simp [c1]
      exact ⟨indW_of (by decide +kernel), no (by rw [E, decide_eq_false (by omega)]; simp)⟩
    · simp [Int.not_lt.2 c1]
      refine brB_of (fun c2 => ?_) (fun c2 => ?_) <;> simp at c2
      · simp [c2]
        exact ⟨indW_of (by decide +kernel), no (by rw [E, decide_eq_false (show ¬ f.a < m.s.length by omega)]; simp)⟩
      · simp [Int.not_le.2 c2, w64_1, w64_2, w64_3]
        by_cases c3 : f.a = f.b
        · simp [c3, w64_1, w64_2, w64_3]
          exact ⟨indW_of (by decide +kernel), no (by rw [E, decide_eq_false (show ¬ f.a ≠ f.b by omega)]; simp)⟩
        · simp [c3, c1, w64_1, w64_2, w64_3]
          refine ⟨by omega, by simp [sptC], ?_⟩
          simp [sptC_eq]
          refine callW_of (ks (spt m f.a.toNat)) (.inl rfl) ?_
          cases c4 : rightS (spt m f.a.toNat)
          · simp
            exact ⟨indW_of (by decide +kernel), no (by rw [E, c4]; simp)⟩
          · simp
            refine ⟨indW_of (by decide +kernel), ?_⟩
            refine ⟨1, ⟨by omega, fun _ => by rw [E]; simp [c1, c3, c4]; omega, fun h => by omega, fun h => by omega⟩, by omega, ?_⟩ <;> simp [w64_1, w64_2, w64_3]
  · have no : okc m f.b f.c = false → okF m f = false := fun h => by simp [E2, h]
    simp [fceC, mshC, w64_1, w64_2, w64_3]
    refine brB_of (fun c1 => ?_) (fun c1 => ?_) <;> simp at c1
    · simp [c1]
      exact ⟨indW_of (by decide +kernel), no (by rw [E, decide_eq_false (by omega)]; simp)⟩
    · simp [Int.not_lt.2 c1]
      refine brB_of (fun c2 => ?_) (fun c2 => ?_) <;> simp at c2
      · simp [c2]
        exact ⟨indW_of (by decide +kernel), no (by rw [E, decide_eq_false (show ¬ f.b < m.s.length by omega)]; simp)⟩
      · simp [Int.not_le.2 c2, w64_1, w64_2, w64_3]
        by_cases c3 : f.b = f.c
        · simp [c3, w64_1, w64_2, w64_3]
          exact ⟨indW_of (by decide +kernel), no (by rw [E, decide_eq_false (show ¬ f.b ≠ f.c by omega)]; simp)⟩
        · simp [c3, c1, w64_1, w64_2, w64_3]
          refine ⟨by omega, by simp [sptC], ?_⟩
          simp [sptC_eq]
          refine callW_of (ks (spt m f.b.toNat)) (.inl rfl) ?_
          cases c4 : rightS (spt m f.b.toNat)
          · simp
            exact ⟨indW_of (by decide +kernel), no (by rw [E, c4]; simp)⟩
          · simp
            refine ⟨indW_of (by decide +kernel), ?_⟩
            refine ⟨2, ⟨by omega, fun _ => s1 (by omega), fun _ => by rw [E]; simp [c1, c3, c4]; omega, fun h => by omega⟩, by omega, ?_⟩ <;> simp [w64_1, w64_2, w64_3]
  · have no : okc m f.c f.a = false → okF m f = false := fun h => by simp [E2, h]
    simp [fceC, mshC, w64_1, w64_2, w64_3]
    refine brB_of (fun c1 => ?_) (fun c1 => ?_) <;> simp at c1
    · simp [c1]
      exact ⟨indW_of (by decide +kernel), no (by rw [E, decide_eq_false (by omega)]; simp)⟩
    · simp [Int.not_lt.2 c1]
      refine brB_of (fun c2 => ?_) (fun c2 => ?_) <;> simp at c2
      · simp [c2]
        exact ⟨indW_of (by decide +kernel), no (by rw [E, decide_eq_false (show ¬ f.c < m.s.length by omega)]; simp)⟩
      · simp [Int.not_le.2 c2, w64_1, w64_2, w64_3]
        by_cases c3 : f.c = f.a
        · simp [c3, w64_1, w64_2, w64_3]
          exact ⟨indW_of (by decide +kernel), no (by rw [E, decide_eq_false (show ¬ f.c ≠ f.a by omega)]; simp)⟩
        · simp [c3, c1, w64_1, w64_2, w64_3]
          refine ⟨by omega, by simp [sptC], ?_⟩
          simp [sptC_eq]
          refine callW_of (ks (spt m f.c.toNat)) (.inl rfl) ?_
          cases c4 : rightS (spt m f.c.toNat)
          · simp
            exact ⟨indW_of (by decide +kernel), no (by rw [E, c4]; simp)⟩
          · simp
            refine ⟨indW_of (by decide +kernel), ?_⟩
            refine ⟨3, ⟨by omega, fun _ => s1 (by omega), fun _ => s2 (by omega), fun _ => by rw [E]; simp [c1, c3, c4]; omega⟩, by omega, ?_⟩ <;> simp [w64_1, w64_2, w64_3]
  · have t1 := s1 (by omega)
    have t2 := s2 (by omega)
    have t3 := s3 (by omega)
    simp [fceC, mshC, E2, t1, t2, t3]
    refine brB_of (fun c1 => ?_) (fun c1 => ?_) <;> simp at c1 <;> simp [c1] <;> rw [E2, t1, t2, t3] <;> simp [c1]
    omega
theorem rDec_c (n : Nat) (hn : n < 100) : C 290 [.int .i64 n] (.str (decL n [])) [] := by
  refine start hC (nf := N290_ref09_Decimal) rfl rfl ?_
  simp [N290_ref09_Decimal]
  refine loop_of (Nat × List UInt8) (fun s => [(0, .int .i64 s.1), (3, .str s.2)]) (fun s => s.1 + s.2.length ≤ n + 1 ∧ ((s.2 = [] ∧ s.1 = n) ∨ (s.2 ≠ [] ∧ decR s.1 s.2 = decL n []))) (fun s => s.1 + if s.2 = [] then 1 else 0) (n, []) (by simp) (by simp) ?_
  rintro ⟨k, out⟩ ⟨hl, hI⟩
  simp only at hl hI
  have ww : IntKind.wrap .i64 ((k : Int) / 10) = ((k / 10 : Nat) : Int) := wrap_i64 (by omega) (by omega)
  have wq : IntKind.wrap .i64 (48 + (k : Int) % 10) = 48 + (k : Int) % 10 := wrap_i64 rfl (by omega)
  have et : (k : Int).tmod 10 = (k : Int) % 10 := Int.tmod_eq_emod_of_nonneg (by omega)
  have wd : IntKind.u8.wrap (48 + (k : Int) % 10) = 48 + (k : Int) % 10 := by
    have e1 : IntKind.u8.signed = false := rfl
    have e3 : (2 ^ IntKind.u8.bits : Int) = 256 := rfl
    unfold IntKind.wrap
    simp only [e1, e3, Bool.false_and]
    simp
    omega
  have wdd : IntKind.u8.wrap (IntKind.wrap .i64 (48 + (k : Int).tmod 10)) = 48 + (k : Int) % 10 := by rw [et, wq, wd]
  have hda : (k : Int) / 10 = ((k / 10 : Nat) : Int) := by omega
  have wb : byteOf [.int .u8 (48 + (k : Int) % 10)] = digB k := by
    have : (48 + (k : Int) % 10).toNat = 48 + k % 10 := by omega
    simp only [byteOf, digB, this]
  have hstep : decR (k / 10) (digB k :: out) = decL n [] ∨ (k = 0 ∧ out ≠ []) := by
    rcases hI with ⟨rfl, rfl⟩ | ⟨h1, h2⟩
    · exact .inl (decL_step _ _).symm
    · by_cases h : k = 0
      · exact .inr ⟨h, h1⟩
      · rw [decR, if_neg h] at h2
        rw [← decL_step, h2]
        exact .inl rfl
  by_cases hk : 0 < k
  · have h3 : decR (k / 10) (digB k :: out) = decL n [] := by
      rcases hstep with h | h
      · exact h
      · omega
    simp [hk, wdd, ww]
    refine ⟨⟨48 + k % 10, by omega, by omega⟩, by omega, k / 10, _, ⟨by simp; omega, .inr ⟨by simp, ?_⟩⟩, ?_, hda, rfl⟩
    · rw [wb]; exact h3
    · simp
      split <;> omega
  · have h0 : k = 0 := by omega
    subst h0
    by_cases ho : out = []
    · subst ho
      simp at hstep
      have w48 : IntKind.u8.wrap (IntKind.wrap .i64 48) = 48 := by decide
      simp [w48]
      refine ⟨⟨48, rfl, by omega⟩, 0, _, ⟨by simp, .inr ⟨by simp, ?_⟩⟩, ⟨rfl, by simp⟩, by decide, rfl⟩
      have : byteOf [.int .u8 48] = digB 0 := by decide
      rw [this]
      exact hstep
    · rcases hI with ⟨h1, _⟩ | ⟨_, h2⟩
      · exact absurd h1 ho
      · rw [decR, if_pos rfl] at h2
        rw [← h2]
        simp [ho]
end Go.Gv

set_option linter.unusedSimpArgs false
namespace Go.Gv
def sptP (m : Msh) (i : Nat) : Pnt := ptS (spt m i)
def fil (p : Nat → Bool) (n : Nat) : List Nat := (List.range n).filter p
theorem fil_zero (p : Nat → Bool) : fil p 0 = [] := rfl
theorem fil_yes {p : Nat → Bool} {n : Nat} (h : p n = true) : fil p (n + 1) = fil p n ++ [n] := by
  rw [fil, List.range_succ, List.filter_append]
  simp [h, fil]
theorem fil_no {p : Nat → Bool} {n : Nat} (h : p n = false) : fil p (n + 1) = fil p n := by
  rw [fil, List.range_succ, List.filter_append]
  simp [h, fil]
theorem fil_le (p : Nat → Bool) (n : Nat) : (fil p n).length ≤ n := by
  have := List.length_filter_le p (List.range n)
  rw [fil]
  simpa using this
theorem fil_lt {p : Nat → Bool} {n i : Nat} (h : i ∈ fil p n) : i < n ∧ p i = true := by
  rw [fil, List.mem_filter, List.mem_range] at h
  exact h
theorem fil_nil {p : Nat → Bool} {n : Nat} : fil p n = [] ↔ ∀ i, i < n → p i = false := by
  rw [fil, List.filter_eq_nil_iff]
  simp
def farB (m : Msh) (i : Nat) : Bool := !rightS (spt m i)
def sameB (m : Msh) (i : Nat) : Bool := rightS (spt m i) && (List.range i).any fun k => rightS (spt m k) && decide (sptP m k = sptP m i)
def badB (m : Msh) (i : Nat) : Bool := !okF m (fce m i)
def flatB (m : Msh) (i : Nat) : Bool := okF m (fce m i) && decide (turnT (triF m (fce m i)) ≤ 0)
def sndB (m : Msh) (i : Nat) : Bool := okF m (fce m i) && decide (0 < turnT (triF m (fce m i)))
def sideB (m : Msh) (i : Nat) : Bool := sndB m i && (List.range i).any fun k => sndB m k && shareB (fce m i) (fce m k)
def overB (m : Msh) (i : Nat) : Bool := sndB m i && (List.range i).any fun k => sndB m k && ovT (triF m (fce m i)) (triF m (fce m k))
/-- The lists of a check, by kinds. -/
def LL (m : Msh) : List (List Nat) := [[], fil (farB m) m.s.length, fil (sameB m) m.s.length, fil (badB m) m.f.length, fil (flatB m) m.f.length, fil (sideB m) m.f.length, fil (overB m) m.f.length]
def outF (dec : Nat → List UInt8) : Nat → List (List Nat) → List (Int × List UInt8)
  | _, [] => []
  | k, l :: r => (l.map fun i => ((k : Int), dec i)) ++ outF dec (k + 1) r
def fnD (x : Int × List UInt8) : List D := [.int .i64 x.1, .str x.2]
theorem fnD_eq (x : Int × List UInt8) : fnD x = [.int .i64 x.1, .str x.2] := _root_.id rfl
def smallM (m : Msh) : Bool := decide (m.s.length ≤ 2000) && decide (m.f.length ≤ 4000)
def validM (m : Msh) : Bool := smallM m && (LL m).all fun l => decide (l = [])
theorem outF_nil (dec : Nat → List UInt8) : ∀ (k : Nat) (ls : List (List Nat)), outF dec k ls = [] ↔ (ls.all fun l => decide (l = [])) = true
  | _, [] => by simp [outF]
  | k, l :: r => by simp [outF, outF_nil dec (k + 1) r]
theorem outF_len (dec : Nat → List UInt8) : ∀ (k : Nat) (ls : List (List Nat)), (outF dec k ls).length = (ls.map List.length).sum
  | _, [] => by simp [outF]
  | k, l :: r => by simp [outF, outF_len dec (k + 1) r]
/-- The points of a surface's right spots, as keys. -/
def ptKs (m : Msh) : Nat → List D
  | 0 => []
  | i + 1 => if rightS (spt m i) then .agg (ptD (sptP m i)) :: ptKs m i else ptKs m i
def ptVs (m : Msh) : Nat → List D
  | 0 => []
  | i + 1 => if rightS (spt m i) then .bool true :: ptVs m i else ptVs m i
theorem ptKs_len (m : Msh) : ∀ i, (ptKs m i).length ≤ i
  | 0 => by simp [ptKs]
  | i + 1 => by
    have := ptKs_len m i
    rw [ptKs]
    split <;> simp <;> omega
theorem eqD_pt (p q : Pnt) : eqD (.agg (ptD p)) (.agg (ptD q)) = decide (q = p) := by
  obtain ⟨a, b⟩ := p
  obtain ⟨c, d⟩ := q
  simp [eqD, eqDs, eqD1, ptD]
  rw [Bool.eq_iff_iff]
  simp
  exact ⟨fun h => ⟨h.1.symm, h.2.symm⟩, fun h => ⟨h.1.symm, h.2.symm⟩⟩
theorem pt_get (m : Msh) (p : Pnt) : ∀ i, (mpGet (ptKs m i) (ptVs m i) (.agg (ptD p))).getD (.bool false) = .bool ((List.range i).any fun k => rightS (spt m k) && decide (sptP m k = p))
  | 0 => rfl
  | i + 1 => by
    rw [ptKs, ptVs, List.range_succ, List.any_append]
    by_cases h : rightS (spt m i) = true
    · rw [if_pos h, if_pos h, mpGet, eqD_pt]
      by_cases h2 : sptP m i = p
      · simp [h, h2]
      · simp [h2, pt_get m p i]
    · rw [if_neg h, if_neg h, pt_get m p i]
      simp [h]
/-- Which spots are found to be far, when i of them are looked at. -/
def farR (m : Msh) (i : Nat) : List Bool := (List.range m.s.length).map fun j => decide (j < i) && farB m j
theorem farR_len (m : Msh) (i : Nat) : (farR m i).length = m.s.length := by simp [farR]
theorem farR_zero (m : Msh) : farR m 0 = List.replicate m.s.length false := by
  refine List.ext_getElem (by simp [farR]) fun k h1 h2 => ?_
  simp [farR]
theorem farR_set (m : Msh) {i : Nat} (h : i < m.s.length) : (farR m i).set i (farB m i) = farR m (i + 1) := by
  refine List.ext_getElem (by simp [farR]) fun k h1 h2 => ?_
  rw [List.getElem_set]
  simp only [farR, List.getElem_map, List.getElem_range]
  by_cases e : i = k
  · subst e; simp
  · rw [if_neg e]
    by_cases e2 : k < i
    · simp [e2, show k < i + 1 by omega]
    · simp [e2, show ¬ k < i + 1 by omega]
theorem farR_all (m : Msh) {k : Nat} (h : k < m.s.length) : (farR m m.s.length)[k]'(by rw [farR_len]; exact h) = farB m k := by simp [farR, h]
variable {C : CC} (hC : Closed prog C)
include hC
theorem idxTri_c {b : Bool} {xs : List Tri} {g : Nat} {cs : List D} (p : Tri → Bool) (hs : xs.length < 2 ^ 62) (hp : ∀ x ∈ xs, C g (.agg (triD x) :: cs) (.bool (p x)) []) : C 328 [slx b (xs.map triD), .fn g cs] (.int .i64 (idxD p xs)) [] := by
  refine start hC (nf := N328_slices_IndexFunc___3api_Point__3api_Point) rfl rfl ?_
  simp [N328_slices_IndexFunc___3api_Point__3api_Point]
  refine loop_of Nat (fun i => [(0, slx b (xs.map triD)), (1, .fn g cs), (7, .int .i64 xs.length), (8, .int .i64 i)]) (fun i => i ≤ xs.length ∧ ∀ (j : Nat) (h : j < xs.length), j < i → p xs[j] = false) (fun i => xs.length - i) 0 (by simp) (by simp) ?_
  rintro i ⟨hi, hj⟩
  simp
  refine brB_of (fun h => ?_) (fun h => ?_) <;> simp [h] <;> simp at h
  · have hw : IntKind.wrap .i64 ((i : Int) + 1) = ((i + 1 : Nat) : Int) := wrap_i64 (by omega) (by omega)
    have hc := hp _ (List.getElem_mem h)
    simp [h, List.getElem_map, triD] at hc ⊢
    refine callW_of hc (.inl rfl) ?_
    simp
    refine brB_of (fun h1 => ?_) (fun h1 => ?_) <;> simp [h1, hw]
    · rw [idxD_step hj h h1]
    · refine ⟨i + 1, ⟨by omega, fun j hl hjj => ?_⟩, by omega, by simp [triD]⟩
      rcases Nat.lt_succ_iff_lt_or_eq.1 hjj with h2 | rfl
      · exact hj j hl h2
      · exact h1
  · rw [idxD_none (fun j hl => hj j hl (by omega))]
theorem hasTri_c {b : Bool} {xs : List Tri} {g : Nat} {cs : List D} (p : Tri → Bool) (hs : xs.length < 2 ^ 62) (hp : ∀ x ∈ xs, C g (.agg (triD x) :: cs) (.bool (p x)) []) : C 309 [slx b (xs.map triD), .fn g cs] (.bool (xs.any p)) [] := by
  refine start hC (nf := N309_slices_ContainsFunc___3api_Point__3api_Point) rfl rfl ?_
  simp [N309_slices_ContainsFunc___3api_Point__3api_Point]
  refine callW_of (idxTri_c hC p hs hp) (.inl rfl) ?_
  simp [idxD_any]
theorem chk1_c (m : Msh) (k : Int) (hn : m.s.length < 2 ^ 40) : C 306 [.int .i64 k, .ptr (mshC m), .ptr [.sl ((farR m m.s.length).map fun b => [.bool b])]] (.bool (!(inR1 m.s.length k && rightS (spt m k.toNat)))) [] := by
  have E : inR1 m.s.length k = (decide (0 ≤ k) && decide (k < m.s.length)) := rfl
  refine start hC (nf := N306_mesh_Check_1) rfl rfl ?_
  simp [N306_mesh_Check_1, mshC]
  refine brB_of (fun c1 => ?_) (fun c1 => ?_) <;> simp at c1
  · simp [c1]
    rw [E, decide_eq_false (by omega)]; simp
  · simp [Int.not_lt.2 c1]
    refine brB_of (fun c2 => ?_) (fun c2 => ?_) <;> simp at c2
    · simp [c2]
      rw [E, decide_eq_false (show ¬ k < m.s.length by omega)]; simp
    · have c3 : k.toNat < m.s.length := by omega
      have c4 := farR_all m c3
      simp [Int.not_le.2 c2, c1, c3, farR_len]
      rw [c4, E, decide_eq_true c1, decide_eq_true c2]
      simp [farB]
theorem chk2_c {t o : Tri} (ht : okT t = true) (ho : okT o = true) : C 310 [.agg (triD o), .ptr (triD t)] (.bool (ovT t o)) [] := by
  have k1 := sep_c hC ht ho
  have k2 := sep_c hC ho ht
  refine start hC (nf := N310_mesh_Check_2) rfl rfl ?_
  rw [triD, triD] at k1 k2 ⊢
  simp [N310_mesh_Check_2]
  refine callW_of k1 (.inl rfl) ?_
  simp
  cases h1 : sepT t o <;> simp [ovT, h1]
  refine callW_of k2 (.inl rfl) ?_
  simp
  exact fun _ => h1
end Go.Gv

set_option linter.unusedSimpArgs false
namespace Go.Gv
/-- Numbers, as rows. -/
def nmR (l : List Nat) : List (List D) := l.map fun (k : Nat) => [D.int .i64 k]
theorem nmR_eq (l : List Nat) : nmR l = l.map fun (k : Nat) => [D.int .i64 k] := _root_.id rfl
theorem nmR_yes {p : Nat → Bool} {n : Nat} (h : p n = true) : nmR (fil p n) ++ [[D.int .i64 n]] = nmR (fil p (n + 1)) := by
  rw [fil_yes h]; simp [nmR]
theorem nmR_no {p : Nat → Bool} {n : Nat} (h : p n = false) : nmR (fil p n) = nmR (fil p (n + 1)) := by rw [fil_no h]
@[simp] theorem nmR_len (l : List Nat) : (nmR l).length = l.length := by simp [nmR]
@[simp] theorem nmR_c1 (l : List Nat) : (∀ e ∈ nmR l, ∀ c ∈ e, isC1 c = true) = True := by simp [nmR]
@[simp] theorem nmR_take (l : List Nat) : List.take l.length (nmR l) = nmR l := List.take_of_length_le (by simp)
@[simp] theorem nmR_c1a (l : List Nat) (x : List D) : (∀ e, e ∈ nmR l ∨ e = x → ∀ c, c ∈ e → isC1 c = true) = ∀ c, c ∈ x → isC1 c = true := by
  apply propext
  constructor
  · exact fun h => h x (.inr rfl)
  · rintro h e (he | rfl)
    · exact (nmR_c1 l).mpr trivial e he
    · exact h
@[simp] theorem nmR_nil : nmR [] = [] := rfl
def boR (l : List Bool) : List (List D) := l.map fun b => [D.bool b]
theorem boR_eq (l : List Bool) : boR l = l.map fun b => [D.bool b] := _root_.id rfl
@[simp] theorem boR_len (l : List Bool) : (boR l).length = l.length := by simp [boR]
@[simp] theorem boR_get (l : List Bool) (i : Nat) (h : i < (boR l).length) : (boR l)[i] = [D.bool (l[i]'(by simpa using h))] := by simp [boR]
@[simp] theorem boR_set (l : List Bool) (i : Nat) (b : Bool) : (boR l).set i [D.bool b] = boR (l.set i b) := by simp [boR, List.map_set]
theorem farR_set' (m : Msh) {i : Nat} (h : i < m.s.length) : (farR m i).set i (!rightS (spt m i)) = farR m (i + 1) := farR_set m h
theorem farR_at (m : Msh) {i : Nat} (h : i < m.s.length) (h' : i < (farR m (i + 1)).length) : (farR m (i + 1))[i] = !rightS (spt m i) := by simp [farR, farB]
theorem farR_rep (m : Msh) : List.replicate m.s.length [D.bool false] = boR (farR m 0) := by rw [farR_zero]; simp [boR]
def chkL1 (m : Msh) (i : Nat) : Env := [(1, .ptr (mshC m)), (4, .adr (.r 10064) 0 0), (10064, .blk 7 [[.own 1 [], .own 1 (nmR (fil (farB m) i)), .own 1 (nmR (fil (sameB m) i)), .own 1 [], .own 1 [], .own 1 [], .own 1 []]]), (5, .adr (.r 10080) 0 0), (10080, .blk 1 [[.own 1 (boR (farR m i))]]), (6, .mrf 10464), (10464, .mp 4 1 (ptKs m i) (ptVs m i)), (31, slx m.sn (m.s.map sptC)), (32, .int .i64 m.s.length), (33, .int .i64 i)]
theorem chkL1_eq (m : Msh) (i : Nat) : chkL1 m i = [(1, .ptr (mshC m)), (4, .adr (.r 10064) 0 0), (10064, .blk 7 [[.own 1 [], .own 1 (nmR (fil (farB m) i)), .own 1 (nmR (fil (sameB m) i)), .own 1 [], .own 1 [], .own 1 [], .own 1 []]]), (5, .adr (.r 10080) 0 0), (10080, .blk 1 [[.own 1 (boR (farR m i))]]), (6, .mrf 10464), (10464, .mp 4 1 (ptKs m i) (ptVs m i)), (31, slx m.sn (m.s.map sptC)), (32, .int .i64 m.s.length), (33, .int .i64 i)] := _root_.id rfl
/-- Triangles, as rows. -/
def trR (m : Msh) (l : List Nat) : List (List D) := l.map fun k => triD (triF m (fce m k))
theorem trR_eq (m : Msh) (l : List Nat) : trR m l = (l.map fun k => triF m (fce m k)).map triD := by simp [trR]
@[simp] theorem trR_len (m : Msh) (l : List Nat) : (trR m l).length = l.length := by simp [trR]
@[simp] theorem trR_take (m : Msh) (l : List Nat) : List.take l.length (trR m l) = trR m l := List.take_of_length_le (by simp)
@[simp] theorem trR_cv (m : Msh) (l : List Nat) : List.map (fun e => List.map cellV e) (trR m l) = trR m l := by simp [trR, triD]
@[simp] theorem trR_nil (m : Msh) : trR m [] = [] := rfl
theorem trR_yes {m : Msh} {i : Nat} (h : sndB m i = true) : trR m (fil (sndB m) i) ++ [triD (triF m (fce m i))] = trR m (fil (sndB m) (i + 1)) := by rw [fil_yes h]; simp [trR]
def sdK (f : Fce) : Nat → List D
  | 0 => []
  | j + 1 => .agg [.int .i64 (crn f j), .int .i64 (crn f (j + 1))] :: sdK f j
theorem sdK_len (f : Fce) : ∀ j, (sdK f j).length = j
  | 0 => rfl
  | j + 1 => by simp [sdK, sdK_len f j]
/-- The sides of a surface's sound faces, as keys. -/
def tkKs (m : Msh) : Nat → List D
  | 0 => []
  | i + 1 => if sndB m i then sdK (fce m i) 3 ++ tkKs m i else tkKs m i
def tkVs (m : Msh) : Nat → List D
  | 0 => []
  | i + 1 => if sndB m i then List.replicate 3 (.bool true) ++ tkVs m i else tkVs m i
theorem tkKs_len (m : Msh) : ∀ i, (tkKs m i).length ≤ 3 * i
  | 0 => by simp [tkKs]
  | i + 1 => by
    have := tkKs_len m i
    rw [tkKs]
    split <;> simp [sdK_len] <;> omega
def hasS (m : Msh) (i j : Nat) : Bool := (List.range i).any fun k => sndB m k && (List.range 3).any fun j' => mtc (fce m i) (fce m k) j j'
theorem eqD_2 (a b c d : Int) : eqD (.agg [.int .i64 a, .int .i64 b]) (.agg [.int .i64 c, .int .i64 d]) = (decide (a = c) && decide (b = d)) := by
  simp [eqD, eqDs, eqD1]
theorem tk_get (m : Msh) (a b : Int) : ∀ i, (mpGet (tkKs m i) (tkVs m i) (.agg [.int .i64 a, .int .i64 b])).getD (.bool false) = .bool ((List.range i).any fun k => sndB m k && (List.range 3).any fun j => decide (a = crn (fce m k) j) && decide (b = crn (fce m k) (j + 1)))
  | 0 => rfl
  | i + 1 => by
    rw [tkKs, tkVs, List.range_succ, List.any_append]
    have h3 : List.range 3 = [0, 1, 2] := rfl
    by_cases h : sndB m i = true
    · rw [if_pos h, if_pos h]
      simp only [sdK, List.replicate, List.cons_append, List.nil_append, mpGet, eqD_2]
      have ih := tk_get m a b i
      by_cases c0 : (decide (a = crn (fce m i) 2) && decide (b = crn (fce m i) (2 + 1))) = true
      · rw [if_pos c0]
        simp only [List.any_cons, List.any_nil, h, h3, c0]
        simp
      · rw [if_neg c0]
        by_cases c1 : (decide (a = crn (fce m i) 1) && decide (b = crn (fce m i) (1 + 1))) = true
        · rw [if_pos c1]
          simp only [List.any_cons, List.any_nil, h, h3, c1]
          simp
        · rw [if_neg c1]
          by_cases c2 : (decide (a = crn (fce m i) 0) && decide (b = crn (fce m i) (0 + 1))) = true
          · rw [if_pos c2]
            simp only [List.any_cons, List.any_nil, h, h3, c2]
            simp
          · rw [if_neg c2, ih]
            rw [Bool.not_eq_true] at c0 c1 c2
            simp only [List.any_cons, List.any_nil, h, h3, c0, c1, c2]
            simp
    · rw [if_neg h, if_neg h, tk_get m a b i]
      simp [h]
theorem any_or3 {α : Type} (A p q r : α → Bool) (l : List α) : (l.any fun k => A k && (p k || (q k || r k))) = ((l.any fun k => A k && p k) || ((l.any fun k => A k && q k) || (l.any fun k => A k && r k))) := by
  induction l with
  | nil => rfl
  | cons x l ih =>
    simp only [List.any_cons, ih]
    cases A x <;> cases p x <;> cases q x <;> cases r x <;> simp
theorem sideB_eq {m : Msh} {i : Nat} (h : sndB m i = true) : sideB m i = (hasS m i 0 || (hasS m i 1 || hasS m i 2)) := by
  unfold sideB shareB hasS
  rw [h, Bool.true_and, ← any_or3]
  have h3 : List.range 3 = [0, 1, 2] := rfl
  simp only [h3, List.any_cons, List.any_nil, Bool.or_false]
theorem crn_bd {m : Msh} {f : Fce} (h : inS m f = true) (j : Nat) : 0 ≤ crn f j ∧ crn f j < m.s.length := by
  have := inS_bd h
  unfold crn
  split <;> omega
def chkL3 (m : Msh) (i k : Nat) : Env := [(1, .ptr (mshC m)), (4, .adr (.r 10064) 0 0), (10064, .blk 7 [[.own 1 [], .own 1 (nmR (fil (farB m) m.s.length)), .own 1 (nmR (fil (sameB m) m.s.length)), .own 1 (nmR (fil (badB m) i)), .own 1 (nmR (fil (flatB m) i)), .own 1 (nmR (fil (sideB m) (i + 1))), .own 1 (nmR (fil (overB m) i))]]), (5, .adr (.r 10080) 0 0), (10080, .blk 1 [[.own 1 (boR (farR m m.s.length))]]), (10, .mrf 11104), (11104, .mp 3 1 (sdK (fce m i) k ++ tkKs m i) (List.replicate k (.bool true) ++ tkVs m i)), (11, .ref (.r 10176) 0 (fil (sndB m) i).length), (10176, .blk 6 (trR m (fil (sndB m) i))), (12, .int .i64 i), (13, .adr (.r 10208) 0 0), (10208, .blk 4 [fceC (fce m i)]), (15, .adr (.r 10240) 0 0), (10240, .blk 6 [triD (triF m (fce m i))]), (71, slx m.fn (m.f.map fceC)), (72, .int .i64 m.f.length), (73, .int .i64 i), (159, .int .i64 k)]
theorem chkL3_eq (m : Msh) (i k : Nat) : chkL3 m i k = [(1, .ptr (mshC m)), (4, .adr (.r 10064) 0 0), (10064, .blk 7 [[.own 1 [], .own 1 (nmR (fil (farB m) m.s.length)), .own 1 (nmR (fil (sameB m) m.s.length)), .own 1 (nmR (fil (badB m) i)), .own 1 (nmR (fil (flatB m) i)), .own 1 (nmR (fil (sideB m) (i + 1))), .own 1 (nmR (fil (overB m) i))]]), (5, .adr (.r 10080) 0 0), (10080, .blk 1 [[.own 1 (boR (farR m m.s.length))]]), (10, .mrf 11104), (11104, .mp 3 1 (sdK (fce m i) k ++ tkKs m i) (List.replicate k (.bool true) ++ tkVs m i)), (11, .ref (.r 10176) 0 (fil (sndB m) i).length), (10176, .blk 6 (trR m (fil (sndB m) i))), (12, .int .i64 i), (13, .adr (.r 10208) 0 0), (10208, .blk 4 [fceC (fce m i)]), (15, .adr (.r 10240) 0 0), (10240, .blk 6 [triD (triF m (fce m i))]), (71, slx m.fn (m.f.map fceC)), (72, .int .i64 m.f.length), (73, .int .i64 i), (159, .int .i64 k)] := _root_.id rfl
/-- Findings, as rows. -/
def fnR (l : List (Int × List UInt8)) : List (List D) := l.map fnD
@[simp] theorem fnR_len (l : List (Int × List UInt8)) : (fnR l).length = l.length := by simp [fnR]
@[simp] theorem fnR_take (l : List (Int × List UInt8)) : List.take l.length (fnR l) = fnR l := List.take_of_length_le (by simp)
@[simp] theorem fnR_cv (l : List (Int × List UInt8)) : List.map (fun e => List.map cellV e) (fnR l) = fnR l := by simp [fnR, fnD]
theorem fnR_add (l : List (Int × List UInt8)) (k : Int) (s : List UInt8) : fnR l ++ [[.int .i64 k, .str s]] = fnR (l ++ [(k, s)]) := by simp [fnR, fnD]
@[simp] theorem fnR_nil : fnR [] = [] := rfl
def agx6 (L1 L2 L3 L4 L5 L6 : List Nat) : D := .agx [.ref (.n 10064 0 0) 0 0, .ref (.n 10064 0 1) 0 L1.length, .ref (.n 10064 0 2) 0 L2.length, .ref (.n 10064 0 3) 0 L3.length, .ref (.n 10064 0 4) 0 L4.length, .ref (.n 10064 0 5) 0 L5.length, .ref (.n 10064 0 6) 0 L6.length]
theorem agx6_eq (L1 L2 L3 L4 L5 L6 : List Nat) : agx6 L1 L2 L3 L4 L5 L6 = .agx [.ref (.n 10064 0 0) 0 0, .ref (.n 10064 0 1) 0 L1.length, .ref (.n 10064 0 2) 0 L2.length, .ref (.n 10064 0 3) 0 L3.length, .ref (.n 10064 0 4) 0 L4.length, .ref (.n 10064 0 5) 0 L5.length, .ref (.n 10064 0 6) 0 L6.length] := _root_.id rfl
def blk6 (L1 L2 L3 L4 L5 L6 : List Nat) : D := .blk 7 [[.own 1 [], .own 1 (nmR L1), .own 1 (nmR L2), .own 1 (nmR L3), .own 1 (nmR L4), .own 1 (nmR L5), .own 1 (nmR L6)]]
theorem blk6_eq (L1 L2 L3 L4 L5 L6 : List Nat) : blk6 L1 L2 L3 L4 L5 L6 = .blk 7 [[.own 1 [], .own 1 (nmR L1), .own 1 (nmR L2), .own 1 (nmR L3), .own 1 (nmR L4), .own 1 (nmR L5), .own 1 (nmR L6)]] := _root_.id rfl
theorem outF_app (dec : Nat → List UInt8) : ∀ (a b : List (List Nat)) (k : Nat), outF dec k (a ++ b) = outF dec k a ++ outF dec (k + a.length) b
  | [], b, k => by simp [outF]
  | x :: a, b, k => by
    have := outF_app dec a b (k + 1)
    simp only [List.cons_append, outF, this, List.append_assoc, List.length_cons]
    rw [show k + 1 + a.length = k + (a.length + 1) by omega]
def tkD (dec : Nat → List UInt8) (k : Int) (L : List Nat) (j : Nat) : List (Int × List UInt8) := (L.take j).map fun i => (k, dec i)
theorem tkD_zero (dec : Nat → List UInt8) (k : Int) (L : List Nat) : tkD dec k L 0 = [] := by simp [tkD]
theorem tkD_succ (dec : Nat → List UInt8) (k : Int) (L : List Nat) {j : Nat} (h : j < L.length) : tkD dec k L (j + 1) = tkD dec k L j ++ [(k, dec L[j])] := by
  unfold tkD
  rw [List.take_add_one, List.getElem?_eq_getElem h, List.map_append]
  rfl
theorem tkD_len (dec : Nat → List UInt8) (k : Int) (L : List Nat) {j : Nat} (h : j ≤ L.length) : (tkD dec k L j).length = j := by simp [tkD]; omega
theorem tkD_all (dec : Nat → List UInt8) (k : Int) (L : List Nat) : tkD dec k L L.length = L.map fun i => (k, dec i) := by simp [tkD]
def chkL2 (m : Msh) (i : Nat) : Env := [(1, .ptr (mshC m)), (4, .adr (.r 10064) 0 0), (10064, .blk 7 [[.own 1 [], .own 1 (nmR (fil (farB m) m.s.length)), .own 1 (nmR (fil (sameB m) m.s.length)), .own 1 (nmR (fil (badB m) i)), .own 1 (nmR (fil (flatB m) i)), .own 1 (nmR (fil (sideB m) i)), .own 1 (nmR (fil (overB m) i))]]), (5, .adr (.r 10080) 0 0), (10080, .blk 1 [[.own 1 (boR (farR m m.s.length))]]), (10, .mrf 11104), (11104, .mp 3 1 (tkKs m i) (tkVs m i)), (11, .ref (.r 10176) 0 (fil (sndB m) i).length), (10176, .blk 6 (trR m (fil (sndB m) i))), (71, slx m.fn (m.f.map fceC)), (72, .int .i64 m.f.length), (73, .int .i64 i)]
theorem chkL2_eq (m : Msh) (i : Nat) : chkL2 m i = [(1, .ptr (mshC m)), (4, .adr (.r 10064) 0 0), (10064, .blk 7 [[.own 1 [], .own 1 (nmR (fil (farB m) m.s.length)), .own 1 (nmR (fil (sameB m) m.s.length)), .own 1 (nmR (fil (badB m) i)), .own 1 (nmR (fil (flatB m) i)), .own 1 (nmR (fil (sideB m) i)), .own 1 (nmR (fil (overB m) i))]]), (5, .adr (.r 10080) 0 0), (10080, .blk 1 [[.own 1 (boR (farR m m.s.length))]]), (10, .mrf 11104), (11104, .mp 3 1 (tkKs m i) (tkVs m i)), (11, .ref (.r 10176) 0 (fil (sndB m) i).length), (10176, .blk 6 (trR m (fil (sndB m) i))), (71, slx m.fn (m.f.map fceC)), (72, .int .i64 m.f.length), (73, .int .i64 i)] := _root_.id rfl
variable {C : CC} (hC : Closed prog C)
include hC
set_option maxHeartbeats 4000000 in
theorem Check_c (dec : Nat → List UInt8) (hI : ∀ n : Nat, n < 100 → C 127 [.int .i64 n] (.str (dec n)) []) (m : Msh) (hs : m.s.length ≤ 100) (hf : m.f.length ≤ 100) : C 273 [.agg (mshC m)] (.tup [.sl ((outF dec 0 (LL m)).map fnD), .int .i64 0]) [] := by
  have ksm := msmall_c hC m
  rw [decide_eq_true (show m.s.length ≤ 2000 by omega), decide_eq_true (show m.f.length ≤ 4000 by omega)] at ksm
  have kr := fun s => mright_c hC s
  have kp := fun i h => mpoint_c hC m i h
  refine start hC (nf := N273_mesh_Check) rfl rfl ?_
  simp only [mshC_eq] at ksm
  simp [N273_mesh_Check, mshC_eq]
  refine callW_of ksm (.inl rfl) ?_
  simp
  refine ⟨by omega, ?_⟩
  refine loop_of Nat (fun i => chkL1 m i) (fun i => i ≤ m.s.length) (fun i => m.s.length - i) 0 (by simp) (by simp [chkL1_eq, mshC_eq, fil_zero, ptKs, ptVs, farR_rep]) ?_
  rintro i hi
  simp [chkL1_eq, mshC_eq]
  refine brB_of (fun g1 => ?_) (fun g1 => ?_) <;> simp at g1 <;> simp [g1]
  · have hw : IntKind.wrap .i64 ((i : Int) + 1) = ((i + 1 : Nat) : Int) := wrap_i64 (by omega) (by omega)
    have kri := kr (spt m i)
    simp only [sptC_eq] at kri
    simp [sptC_eq]
    refine callW_of kri (.inl rfl) ?_
    simp [farR_len, g1]
    refine ⟨indW_of (by decide +kernel), ?_⟩
    rw [farR_set' m g1]
    rw [boR_eq]
    simp [farR_len, g1, farR_at]
    have kpi := kp i g1
    simp only [mshC_eq] at kpi
    have hr := okP_of (s := spt m i)
    cases hr1 : rightS (spt m i)
    · have e1 := nmR_yes (p := farB m) (n := i) (by simp [farB, hr1])
      have e2 := nmR_no (p := sameB m) (n := i) (by simp [sameB, hr1])
      have e3 : ptKs m (i + 1) = ptKs m i := by simp [ptKs, hr1]
      have e4 : ptVs m (i + 1) = ptVs m i := by simp [ptVs, hr1]
      simp [hw]
      refine ⟨by have := fil_le (farB m) i; omega, i + 1, by omega, by omega, ?_⟩
      simp [chkL1_eq, mshC_eq, e1, ← e2, e3, e4, ← boR_eq]
    · have hp := okP_bd (hr hr1)
      have e2 := nmR_no (p := farB m) (n := i) (by simp [farB, hr1])
      have e3 : ptKs m (i + 1) = .agg (ptD (sptP m i)) :: ptKs m i := by simp [ptKs, hr1]
      have e4 : ptVs m (i + 1) = .bool true :: ptVs m i := by simp [ptVs, hr1]
      have kg := pt_get m (sptP m i) i
      have kl := ptKs_len m i
      have hml : maxLen = 9223372036854775807 := rfl
      simp [mshC_eq]
      refine callW_of kpi (.inl rfl) ?_
      simp [ptD, ptS, sptP] at kg hp
      simp [ptD, ptS, kg]
      refine ⟨⟨by omega, by omega⟩, ?_⟩
      have hsame : ((List.range i).any fun k => rightS (spt m k) && (decide ((spt m k).x = (spt m i).x) && decide ((spt m k).y = (spt m i).y))) = sameB m i := by
        simp [sameB, hr1, sptP, ptS]
      rw [hsame]
      cases hs1 : sameB m i
      · have e1 := nmR_no (p := sameB m) (n := i) hs1
        simp [hw]
        refine ⟨by omega, ⟨by omega, by omega⟩, i + 1, by omega, by omega, ?_⟩
        simp [chkL1_eq, mshC_eq, ← e1, ← e2, e3, e4, ← boR_eq, ptD, sptP, ptS]
      · have e1 := nmR_yes (p := sameB m) (n := i) hs1
        simp [hw]
        refine ⟨by have := fil_le (sameB m) i; omega, by omega, ⟨by omega, by omega⟩, i + 1, by omega, by omega, ?_⟩
        simp [chkL1_eq, mshC_eq, e1, ← e2, e3, e4, ← boR_eq, ptD, sptP, ptS]
  · have hi2 : i = m.s.length := by omega
    subst hi2
    refine loop_of Nat (fun i => chkL2 m i) (fun i => i ≤ m.f.length) (fun i => m.f.length - i) 0 (by simp) (by simp [chkL2_eq, mshC_eq, fil_zero, tkKs, tkVs]) ?_
    clear hi g1 kr kp ksm
    rintro i hi
    simp [chkL2_eq, mshC_eq]
    refine brB_of (fun g1 => ?_) (fun g1 => ?_) <;> simp at g1 <;> simp [g1]
    · have hw : IntKind.wrap .i64 ((i : Int) + 1) = ((i + 1 : Nat) : Int) := wrap_i64 (by omega) (by omega)
      have kc := mcorners_c hC (fce m i)
      have k1 := hasInt_c hC (b := false) (xs := [(fce m i).a, (fce m i).b, (fce m i).c]) (g := 306) (cs := [.ptr (mshC m), .ptr [.sl (boR (farR m m.s.length))]]) (fun k => !(inR1 m.s.length k && rightS (spt m k.toNat))) (by simp) (fun x _ => chk1_c hC m x (by omega))
      simp only [mshC_eq, fceC_eq] at kc k1
      simp at k1
      simp [fceC_eq]
      refine callW_of kc (.inl rfl) ?_
      simp [chunks]
      obtain ⟨v, hv⟩ : ∃ v, v = (!inR1 m.s.length (fce m i).a || !rightS (spt m (fce m i).a.toNat) || (!inR1 m.s.length (fce m i).b || !rightS (spt m (fce m i).b.toNat) || (!inR1 m.s.length (fce m i).c || !rightS (spt m (fce m i).c.toNat)))) := ⟨_, rfl⟩
      rw [← hv] at k1
      refine callW_of k1 (.inl rfl) ?_
      have E : badB m i = !(okF m (fce m i)) := rfl
      have E2 : okF m (fce m i) = (okc m (fce m i).a (fce m i).b && okc m (fce m i).b (fce m i).c && okc m (fce m i).c (fce m i).a && decide (0 ≤ (fce m i).k) && decide ((fce m i).k < 16)) := rfl
      have E3 : ∀ a b : Int, okc m a b = (inR1 m.s.length a && decide (a ≠ b) && rightS (spt m a.toNat)) := fun a b => rfl
      have bad : badB m i = true → nmR (fil (badB m) i) ++ [[D.int .i64 i]] = nmR (fil (badB m) (i + 1)) ∧ nmR (fil (flatB m) i) = nmR (fil (flatB m) (i + 1)) ∧ nmR (fil (sideB m) i) = nmR (fil (sideB m) (i + 1)) ∧ nmR (fil (overB m) i) = nmR (fil (overB m) (i + 1)) ∧ fil (sndB m) (i + 1) = fil (sndB m) i ∧ tkKs m (i + 1) = tkKs m i ∧ tkVs m (i + 1) = tkVs m i := fun h => by
        have h0 : okF m (fce m i) = false := by rw [E] at h; simpa using h
        have h1 : sndB m i = false := by simp [sndB, h0]
        exact ⟨nmR_yes h, nmR_no (by simp [flatB, h0]), nmR_no (by simp [sideB, h1]), nmR_no (by simp [overB, h1]), fil_no h1, by simp [tkKs, h1], by simp [tkVs, h1]⟩
      cases v
      rotate_left
      · obtain ⟨e1, e2, e3, e4, e5, e6, e7⟩ := bad (by
          rw [E, E2, E3, E3, E3]
          revert hv
          cases inR1 m.s.length (fce m i).a <;> cases rightS (spt m (fce m i).a.toNat) <;> cases inR1 m.s.length (fce m i).b <;> cases rightS (spt m (fce m i).b.toNat) <;> cases inR1 m.s.length (fce m i).c <;> cases rightS (spt m (fce m i).c.toNat) <;> simp)
        simp [hw]
        refine ⟨by have := fil_le (badB m) i; omega, i + 1, by omega, by omega, ?_⟩
        simp [chkL2_eq, mshC_eq, e1, ← e2, ← e3, ← e4, e5, e6, e7]
      by_cases c1 : (fce m i).a = (fce m i).b
      · obtain ⟨e1, e2, e3, e4, e5, e6, e7⟩ := bad (by
          rw [E, E2, E3, E3, E3]
          rw [decide_eq_false (show ¬ (fce m i).a ≠ (fce m i).b by omega)]; simp)
        simp [c1, hw]
        refine ⟨by have := fil_le (badB m) i; omega, i + 1, by omega, by omega, ?_⟩
        simp [chkL2_eq, mshC_eq, e1, ← e2, ← e3, ← e4, e5, e6, e7]
      by_cases c2 : (fce m i).b = (fce m i).c
      · obtain ⟨e1, e2, e3, e4, e5, e6, e7⟩ := bad (by
          rw [E, E2, E3, E3, E3]
          rw [decide_eq_false (show ¬ (fce m i).b ≠ (fce m i).c by omega)]; simp)
        simp [(show ¬ (fce m i).a = (fce m i).c by rw [← c2]; exact c1), c2, hw]
        refine ⟨by have := fil_le (badB m) i; omega, i + 1, by omega, by omega, ?_⟩
        simp [chkL2_eq, mshC_eq, e1, ← e2, ← e3, ← e4, e5, e6, e7]
      by_cases c3 : (fce m i).c = (fce m i).a
      · obtain ⟨e1, e2, e3, e4, e5, e6, e7⟩ := bad (by
          rw [E, E2, E3, E3, E3]
          rw [decide_eq_false (show ¬ (fce m i).c ≠ (fce m i).a by omega)]; simp)
        simp [c1, c2, hw]
        refine brB_of (fun _ => ?_) (fun h => by simp [c3] at h)
        simp [hw]
        refine ⟨by have := fil_le (badB m) i; omega, i + 1, by omega, by omega, ?_⟩
        simp [chkL2_eq, mshC_eq, e1, ← e2, ← e3, ← e4, e5, e6, e7]
      have c3' : ¬ (fce m i).a = (fce m i).c := fun h => c3 h.symm
      by_cases c4 : (fce m i).k < 0
      · obtain ⟨e1, e2, e3, e4, e5, e6, e7⟩ := bad (by
          rw [E, E2, E3, E3, E3]
          rw [decide_eq_false (show ¬ 0 ≤ (fce m i).k by omega)]; simp)
        simp [c1, c2, c3, c3', c4, hw]
        refine ⟨by have := fil_le (badB m) i; omega, i + 1, by omega, by omega, ?_⟩
        simp [chkL2_eq, mshC_eq, e1, ← e2, ← e3, ← e4, e5, e6, e7]
      by_cases c5 : 16 ≤ (fce m i).k
      · obtain ⟨e1, e2, e3, e4, e5, e6, e7⟩ := bad (by
          rw [E, E2, E3, E3, E3]
          rw [decide_eq_false (show ¬ (fce m i).k < 16 by omega)]; simp)
        simp [c1, c2, c3, c3', c4, c5, hw]
        refine ⟨by have := fil_le (badB m) i; omega, i + 1, by omega, by omega, ?_⟩
        simp [chkL2_eq, mshC_eq, e1, ← e2, ← e3, ← e4, e5, e6, e7]
      have ok : okF m (fce m i) = true := by
        rw [E2, E3, E3, E3]
        simp only [Bool.and_eq_true, decide_eq_true_eq]
        have h := hv.symm
        simp only [Bool.or_eq_false_iff, Bool.not_eq_false'] at h
        exact ⟨⟨⟨⟨⟨⟨h.1.1, c1⟩, h.1.2⟩, ⟨h.2.1.1, c2⟩, h.2.1.2⟩, ⟨h.2.2.1, c3⟩, h.2.2.2⟩, by omega⟩, by omega⟩
      have nbad : badB m i = false := by rw [E, ok]; rfl
      have b1 := nmR_no nbad
      have hT := okF_okT ok
      have kt := mtri_c hC m (fce m i) (okF_inS ok)
      have kn : C 308 [.agg (ptD (triF m (fce m i)).1), .agg (ptD (triF m (fce m i)).2.1), .agg (ptD (triF m (fce m i)).2.2)] (.int .i64 (turnT (triF m (fce m i)))) [] := by
        have h := hT
        simp only [okT, Bool.and_eq_true] at h
        exact mturn_c hC h.1.1 h.1.2 h.2
      have ks := fun k h => mside_c hC (fce m i) k h
      have ks0 := ks 0 (by omega)
      have ks1 := ks 1 (by omega)
      have ks2 := ks 2 (by omega)
      have kg := fun j => tk_get m (crn (fce m i) j) (crn (fce m i) (j + 1)) i
      have kg : ∀ j, (mpGet (tkKs m i) (tkVs m i) (.agg [.int .i64 (crn (fce m i) j), .int .i64 (crn (fce m i) (j + 1))])).getD (.bool false) = .bool (hasS m i j) := kg
      have kg0 := kg 0
      have kg1 := kg 1
      have kg2 := kg 2
      simp [c1, c2, c3, c3', c4, c5]
      simp only [mshC_eq, fceC_eq] at kt
      refine callW_of kt (.inl rfl) ?_
      simp [triD]
      simp only [ptD] at kn
      refine callW_of kn (.inl rfl) ?_
      simp
      refine brB_of (fun d1 => ?_) (fun d1 => ?_) <;> simp at d1
      · have hfl : flatB m i = true := by simp [flatB, ok, d1]
        have hsn : sndB m i = false := by simp [sndB, ok]; omega
        have e1 := nmR_yes hfl
        have e2 := nmR_no (p := sideB m) (n := i) (by simp [sideB, hsn])
        have e3 := nmR_no (p := overB m) (n := i) (by simp [overB, hsn])
        have e5 := fil_no hsn
        have e6 : tkKs m (i + 1) = tkKs m i := by simp [tkKs, hsn]
        have e7 : tkVs m (i + 1) = tkVs m i := by simp [tkVs, hsn]
        simp [d1, hw]
        refine ⟨by have := fil_le (flatB m) i; omega, i + 1, by omega, by omega, ?_⟩
        simp [chkL2_eq, mshC_eq, e1, ← e2, ← e3, ← b1, e5, e6, e7]
      · have hfl : flatB m i = false := by simp [flatB, ok]; omega
        have hsn : sndB m i = true := by simp [sndB, ok, d1]
        have b2 := nmR_no hfl
        have hsd := sideB_eq hsn
        simp only [fceC_eq] at ks ks0 ks1 ks2
        simp at ks0 ks1 ks2 kg0 kg1 kg2
        simp [Int.not_le.2 d1]
        refine callW_of ks0 (.inl rfl) ?_
        simp [kg0]
        have cb := fun j => crn_bd (okF_inS ok) j
        have cb0 := cb 0
        have cb1 := cb 1
        have cb2 := cb 2
        have cb3 := cb 3
        refine ⟨⟨by omega, by omega⟩, ?_⟩
        have yes : sideB m i = true → nmR (fil (sideB m) i) ++ [[D.int .i64 i]] = nmR (fil (sideB m) (i + 1)) := nmR_yes
        have nos : sideB m i = false → nmR (fil (sideB m) i) = nmR (fil (sideB m) (i + 1)) := nmR_no
        have lsd := fil_le (sideB m) i
        have kT := hasTri_c hC (b := false) (xs := (fil (sndB m) i).map fun k => triF m (fce m k)) (g := 310) (cs := [.ptr (triD (triF m (fce m i)))]) (fun o => ovT (triF m (fce m i)) o) (by have := fil_le (sndB m) i; simp; omega) (fun x hx => by
          obtain ⟨k, hk, rfl⟩ := List.mem_map.1 hx
          have hk := (fil_lt hk).2
          simp only [sndB, Bool.and_eq_true] at hk
          exact chk2_c hC hT (okF_okT hk.1))
        rw [← trR_eq, List.any_map] at kT
        have hov : (fil (sndB m) i).any ((fun o => ovT (triF m (fce m i)) o) ∘ fun k => triF m (fce m k)) = overB m i := by
          rw [fil, List.any_filter, overB, hsn]
          rfl
        rw [hov] at kT
        rw [slx_false] at kT
        have tl := tkKs_len m i
        have hml : maxLen = 9223372036854775807 := rfl
        have e5 := trR_yes hsn
        have e6 : tkKs m (i + 1) = sdK (fce m i) 3 ++ tkKs m i := by simp [tkKs, hsn]
        have e7 : tkVs m (i + 1) = .bool true :: .bool true :: .bool true :: tkVs m i := by
          rw [tkVs, if_pos hsn]; rfl
        have e8 : (fil (sndB m) (i + 1)).length = (fil (sndB m) i).length + 1 := by rw [fil_yes hsn]; simp
        have l8 := fil_le (sndB m) i
        have lov := fil_le (overB m) i
        have kT := hasTri_c hC (b := false) (xs := (fil (sndB m) i).map fun k => triF m (fce m k)) (g := 310) (cs := [.ptr (triD (triF m (fce m i)))]) (fun o => ovT (triF m (fce m i)) o) (by have := fil_le (sndB m) i; simp; omega) (fun x hx => by
          obtain ⟨k, hk, rfl⟩ := List.mem_map.1 hx
          have hk := (fil_lt hk).2
          simp only [sndB, Bool.and_eq_true] at hk
          exact chk2_c hC hT (okF_okT hk.1))
        rw [← trR_eq, List.any_map] at kT
        have hov : (fil (sndB m) i).any ((fun o => ovT (triF m (fce m i)) o) ∘ fun k => triF m (fce m k)) = overB m i := by
          rw [fil, List.any_filter, overB, hsn]
          rfl
        rw [hov] at kT
        rw [slx_false] at kT
        have tl := tkKs_len m i
        have hml : maxLen = 9223372036854775807 := rfl
        have e5 := trR_yes hsn
        have e6 : tkKs m (i + 1) = sdK (fce m i) 3 ++ tkKs m i := by simp [tkKs, hsn]
        have e7 : tkVs m (i + 1) = .bool true :: .bool true :: .bool true :: tkVs m i := by
          rw [tkVs, if_pos hsn]; rfl
        have e8 : (fil (sndB m) (i + 1)).length = (fil (sndB m) i).length + 1 := by rw [fil_yes hsn]; simp
        have l8 := fil_le (sndB m) i
        have lov := fil_le (overB m) i
        have kT := hasTri_c hC (b := false) (xs := (fil (sndB m) i).map fun k => triF m (fce m k)) (g := 310) (cs := [.ptr (triD (triF m (fce m i)))]) (fun o => ovT (triF m (fce m i)) o) (by have := fil_le (sndB m) i; simp; omega) (fun x hx => by
          obtain ⟨k, hk, rfl⟩ := List.mem_map.1 hx
          have hk := (fil_lt hk).2
          simp only [sndB, Bool.and_eq_true] at hk
          exact chk2_c hC hT (okF_okT hk.1))
        rw [← trR_eq, List.any_map] at kT
        have hov : (fil (sndB m) i).any ((fun o => ovT (triF m (fce m i)) o) ∘ fun k => triF m (fce m k)) = overB m i := by
          rw [fil, List.any_filter, overB, hsn]
          rfl
        rw [hov] at kT
        rw [slx_false] at kT
        have tl := tkKs_len m i
        have hml : maxLen = 9223372036854775807 := rfl
        have e5 := trR_yes hsn
        have e6 : tkKs m (i + 1) = sdK (fce m i) 3 ++ tkKs m i := by simp [tkKs, hsn]
        have e7 : tkVs m (i + 1) = .bool true :: .bool true :: .bool true :: tkVs m i := by
          rw [tkVs, if_pos hsn]; rfl
        have e8 : (fil (sndB m) (i + 1)).length = (fil (sndB m) i).length + 1 := by rw [fil_yes hsn]; simp
        have l8 := fil_le (sndB m) i
        have lov := fil_le (overB m) i
        have kT := hasTri_c hC (b := false) (xs := (fil (sndB m) i).map fun k => triF m (fce m k)) (g := 310) (cs := [.ptr (triD (triF m (fce m i)))]) (fun o => ovT (triF m (fce m i)) o) (by have := fil_le (sndB m) i; simp; omega) (fun x hx => by
          obtain ⟨k, hk, rfl⟩ := List.mem_map.1 hx
          have hk := (fil_lt hk).2
          simp only [sndB, Bool.and_eq_true] at hk
          exact chk2_c hC hT (okF_okT hk.1))
        rw [← trR_eq, List.any_map] at kT
        have hov : (fil (sndB m) i).any ((fun o => ovT (triF m (fce m i)) o) ∘ fun k => triF m (fce m k)) = overB m i := by
          rw [fil, List.any_filter, overB, hsn]
          rfl
        rw [hov] at kT
        rw [slx_false] at kT
        have tl := tkKs_len m i
        have hml : maxLen = 9223372036854775807 := rfl
        have e5 := trR_yes hsn
        have e6 : tkKs m (i + 1) = sdK (fce m i) 3 ++ tkKs m i := by simp [tkKs, hsn]
        have e7 : tkVs m (i + 1) = .bool true :: .bool true :: .bool true :: tkVs m i := by
          rw [tkVs, if_pos hsn]; rfl
        have e8 : (fil (sndB m) (i + 1)).length = (fil (sndB m) i).length + 1 := by rw [fil_yes hsn]; simp
        have l8 := fil_le (sndB m) i
        have lov := fil_le (overB m) i
        have kT := hasTri_c hC (b := false) (xs := (fil (sndB m) i).map fun k => triF m (fce m k)) (g := 310) (cs := [.ptr (triD (triF m (fce m i)))]) (fun o => ovT (triF m (fce m i)) o) (by have := fil_le (sndB m) i; simp; omega) (fun x hx => by
          obtain ⟨k, hk, rfl⟩ := List.mem_map.1 hx
          have hk := (fil_lt hk).2
          simp only [sndB, Bool.and_eq_true] at hk
          exact chk2_c hC hT (okF_okT hk.1))
        rw [← trR_eq, List.any_map] at kT
        have hov : (fil (sndB m) i).any ((fun o => ovT (triF m (fce m i)) o) ∘ fun k => triF m (fce m k)) = overB m i := by
          rw [fil, List.any_filter, overB, hsn]
          rfl
        rw [hov] at kT
        rw [slx_false] at kT
        have tl := tkKs_len m i
        have hml : maxLen = 9223372036854775807 := rfl
        have e5 := trR_yes hsn
        have e6 : tkKs m (i + 1) = sdK (fce m i) 3 ++ tkKs m i := by simp [tkKs, hsn]
        have e7 : tkVs m (i + 1) = .bool true :: .bool true :: .bool true :: tkVs m i := by
          rw [tkVs, if_pos hsn]; rfl
        have e8 : (fil (sndB m) (i + 1)).length = (fil (sndB m) i).length + 1 := by rw [fil_yes hsn]; simp
        have l8 := fil_le (sndB m) i
        have lov := fil_le (overB m) i
        have kT := hasTri_c hC (b := false) (xs := (fil (sndB m) i).map fun k => triF m (fce m k)) (g := 310) (cs := [.ptr (triD (triF m (fce m i)))]) (fun o => ovT (triF m (fce m i)) o) (by have := fil_le (sndB m) i; simp; omega) (fun x hx => by
          obtain ⟨k, hk, rfl⟩ := List.mem_map.1 hx
          have hk := (fil_lt hk).2
          simp only [sndB, Bool.and_eq_true] at hk
          exact chk2_c hC hT (okF_okT hk.1))
        rw [← trR_eq, List.any_map] at kT
        have hov : (fil (sndB m) i).any ((fun o => ovT (triF m (fce m i)) o) ∘ fun k => triF m (fce m k)) = overB m i := by
          rw [fil, List.any_filter, overB, hsn]
          rfl
        rw [hov] at kT
        rw [slx_false] at kT
        have tl := tkKs_len m i
        have hml : maxLen = 9223372036854775807 := rfl
        have e5 := trR_yes hsn
        have e6 : tkKs m (i + 1) = sdK (fce m i) 3 ++ tkKs m i := by simp [tkKs, hsn]
        have e7 : tkVs m (i + 1) = .bool true :: .bool true :: .bool true :: tkVs m i := by
          rw [tkVs, if_pos hsn]; rfl
        have e8 : (fil (sndB m) (i + 1)).length = (fil (sndB m) i).length + 1 := by rw [fil_yes hsn]; simp
        have l8 := fil_le (sndB m) i
        have lov := fil_le (overB m) i
        have kT := hasTri_c hC (b := false) (xs := (fil (sndB m) i).map fun k => triF m (fce m k)) (g := 310) (cs := [.ptr (triD (triF m (fce m i)))]) (fun o => ovT (triF m (fce m i)) o) (by have := fil_le (sndB m) i; simp; omega) (fun x hx => by
          obtain ⟨k, hk, rfl⟩ := List.mem_map.1 hx
          have hk := (fil_lt hk).2
          simp only [sndB, Bool.and_eq_true] at hk
          exact chk2_c hC hT (okF_okT hk.1))
        rw [← trR_eq, List.any_map] at kT
        have hov : (fil (sndB m) i).any ((fun o => ovT (triF m (fce m i)) o) ∘ fun k => triF m (fce m k)) = overB m i := by
          rw [fil, List.any_filter, overB, hsn]
          rfl
        rw [hov] at kT
        rw [slx_false] at kT
        have tl := tkKs_len m i
        have hml : maxLen = 9223372036854775807 := rfl
        have e5 := trR_yes hsn
        have e6 : tkKs m (i + 1) = sdK (fce m i) 3 ++ tkKs m i := by simp [tkKs, hsn]
        have e7 : tkVs m (i + 1) = .bool true :: .bool true :: .bool true :: tkVs m i := by
          rw [tkVs, if_pos hsn]; rfl
        have e8 : (fil (sndB m) (i + 1)).length = (fil (sndB m) i).length + 1 := by rw [fil_yes hsn]; simp
        have l8 := fil_le (sndB m) i
        have lov := fil_le (overB m) i
        have kT := hasTri_c hC (b := false) (xs := (fil (sndB m) i).map fun k => triF m (fce m k)) (g := 310) (cs := [.ptr (triD (triF m (fce m i)))]) (fun o => ovT (triF m (fce m i)) o) (by have := fil_le (sndB m) i; simp; omega) (fun x hx => by
          obtain ⟨k, hk, rfl⟩ := List.mem_map.1 hx
          have hk := (fil_lt hk).2
          simp only [sndB, Bool.and_eq_true] at hk
          exact chk2_c hC hT (okF_okT hk.1))
        rw [← trR_eq, List.any_map] at kT
        have hov : (fil (sndB m) i).any ((fun o => ovT (triF m (fce m i)) o) ∘ fun k => triF m (fce m k)) = overB m i := by
          rw [fil, List.any_filter, overB, hsn]
          rfl
        rw [hov] at kT
        rw [slx_false] at kT
        have tl := tkKs_len m i
        have hml : maxLen = 9223372036854775807 := rfl
        have e5 := trR_yes hsn
        have e6 : tkKs m (i + 1) = sdK (fce m i) 3 ++ tkKs m i := by simp [tkKs, hsn]
        have e7 : tkVs m (i + 1) = .bool true :: .bool true :: .bool true :: tkVs m i := by
          rw [tkVs, if_pos hsn]; rfl
        have e8 : (fil (sndB m) (i + 1)).length = (fil (sndB m) i).length + 1 := by rw [fil_yes hsn]; simp
        have l8 := fil_le (sndB m) i
        have lov := fil_le (overB m) i
        have kT := hasTri_c hC (b := false) (xs := (fil (sndB m) i).map fun k => triF m (fce m k)) (g := 310) (cs := [.ptr (triD (triF m (fce m i)))]) (fun o => ovT (triF m (fce m i)) o) (by have := fil_le (sndB m) i; simp; omega) (fun x hx => by
          obtain ⟨k, hk, rfl⟩ := List.mem_map.1 hx
          have hk := (fil_lt hk).2
          simp only [sndB, Bool.and_eq_true] at hk
          exact chk2_c hC hT (okF_okT hk.1))
        rw [← trR_eq, List.any_map] at kT
        have hov : (fil (sndB m) i).any ((fun o => ovT (triF m (fce m i)) o) ∘ fun k => triF m (fce m k)) = overB m i := by
          rw [fil, List.any_filter, overB, hsn]
          rfl
        rw [hov] at kT
        rw [slx_false] at kT
        have tl := tkKs_len m i
        have hml : maxLen = 9223372036854775807 := rfl
        have e5 := trR_yes hsn
        have e6 : tkKs m (i + 1) = sdK (fce m i) 3 ++ tkKs m i := by simp [tkKs, hsn]
        have e7 : tkVs m (i + 1) = .bool true :: .bool true :: .bool true :: tkVs m i := by
          rw [tkVs, if_pos hsn]; rfl
        have e8 : (fil (sndB m) (i + 1)).length = (fil (sndB m) i).length + 1 := by rw [fil_yes hsn]; simp
        have l8 := fil_le (sndB m) i
        have lov := fil_le (overB m) i
        have kT := hasTri_c hC (b := false) (xs := (fil (sndB m) i).map fun k => triF m (fce m k)) (g := 310) (cs := [.ptr (triD (triF m (fce m i)))]) (fun o => ovT (triF m (fce m i)) o) (by have := fil_le (sndB m) i; simp; omega) (fun x hx => by
          obtain ⟨k, hk, rfl⟩ := List.mem_map.1 hx
          have hk := (fil_lt hk).2
          simp only [sndB, Bool.and_eq_true] at hk
          exact chk2_c hC hT (okF_okT hk.1))
        rw [← trR_eq, List.any_map] at kT
        have hov : (fil (sndB m) i).any ((fun o => ovT (triF m (fce m i)) o) ∘ fun k => triF m (fce m k)) = overB m i := by
          rw [fil, List.any_filter, overB, hsn]
          rfl
        rw [hov] at kT
        rw [slx_false] at kT
        have tl := tkKs_len m i
        have hml : maxLen = 9223372036854775807 := rfl
        have e5 := trR_yes hsn
        have e6 : tkKs m (i + 1) = sdK (fce m i) 3 ++ tkKs m i := by simp [tkKs, hsn]
        have e7 : tkVs m (i + 1) = .bool true :: .bool true :: .bool true :: tkVs m i := by
          rw [tkVs, if_pos hsn]; rfl
        have e8 : (fil (sndB m) (i + 1)).length = (fil (sndB m) i).length + 1 := by rw [fil_yes hsn]; simp
        have l8 := fil_le (sndB m) i
        have lov := fil_le (overB m) i
        have kT := hasTri_c hC (b := false) (xs := (fil (sndB m) i).map fun k => triF m (fce m k)) (g := 310) (cs := [.ptr (triD (triF m (fce m i)))]) (fun o => ovT (triF m (fce m i)) o) (by have := fil_le (sndB m) i; simp; omega) (fun x hx => by
          obtain ⟨k, hk, rfl⟩ := List.mem_map.1 hx
          have hk := (fil_lt hk).2
          simp only [sndB, Bool.and_eq_true] at hk
          exact chk2_c hC hT (okF_okT hk.1))
        rw [← trR_eq, List.any_map] at kT
        have hov : (fil (sndB m) i).any ((fun o => ovT (triF m (fce m i)) o) ∘ fun k => triF m (fce m k)) = overB m i := by
          rw [fil, List.any_filter, overB, hsn]
          rfl
        rw [hov] at kT
        rw [slx_false] at kT
        have tl := tkKs_len m i
        have hml : maxLen = 9223372036854775807 := rfl
        have e5 := trR_yes hsn
        have e6 : tkKs m (i + 1) = sdK (fce m i) 3 ++ tkKs m i := by simp [tkKs, hsn]
        have e7 : tkVs m (i + 1) = .bool true :: .bool true :: .bool true :: tkVs m i := by
          rw [tkVs, if_pos hsn]; rfl
        have e8 : (fil (sndB m) (i + 1)).length = (fil (sndB m) i).length + 1 := by rw [fil_yes hsn]; simp
        have l8 := fil_le (sndB m) i
        have lov := fil_le (overB m) i
        have kT := hasTri_c hC (b := false) (xs := (fil (sndB m) i).map fun k => triF m (fce m k)) (g := 310) (cs := [.ptr (triD (triF m (fce m i)))]) (fun o => ovT (triF m (fce m i)) o) (by have := fil_le (sndB m) i; simp; omega) (fun x hx => by
          obtain ⟨k, hk, rfl⟩ := List.mem_map.1 hx
          have hk := (fil_lt hk).2
          simp only [sndB, Bool.and_eq_true] at hk
          exact chk2_c hC hT (okF_okT hk.1))
        rw [← trR_eq, List.any_map] at kT
        have hov : (fil (sndB m) i).any ((fun o => ovT (triF m (fce m i)) o) ∘ fun k => triF m (fce m k)) = overB m i := by
          rw [fil, List.any_filter, overB, hsn]
          rfl
        rw [hov] at kT
        rw [slx_false] at kT
        have tl := tkKs_len m i
        have hml : maxLen = 9223372036854775807 := rfl
        have e5 := trR_yes hsn
        have e6 : tkKs m (i + 1) = sdK (fce m i) 3 ++ tkKs m i := by simp [tkKs, hsn]
        have e7 : tkVs m (i + 1) = .bool true :: .bool true :: .bool true :: tkVs m i := by
          rw [tkVs, if_pos hsn]; rfl
        have e8 : (fil (sndB m) (i + 1)).length = (fil (sndB m) i).length + 1 := by rw [fil_yes hsn]; simp
        have l8 := fil_le (sndB m) i
        have lov := fil_le (overB m) i
        rcases (by cases hasS m i 0 <;> cases hasS m i 1 <;> cases hasS m i 2 <;> simp : hasS m i 0 = true ∨ (hasS m i 0 = false ∧ hasS m i 1 = true) ∨ (hasS m i 0 = false ∧ hasS m i 1 = false ∧ hasS m i 2 = true) ∨ (hasS m i 0 = false ∧ hasS m i 1 = false ∧ hasS m i 2 = false)) with h0 | ⟨h0, h1⟩ | ⟨h0, h1, h2⟩ | ⟨h0, h1, h2⟩
        have y := yes (by rw [hsd, h0]; rfl)
        simp [h0]
        refine ⟨by omega, ?_⟩
        rw [y]
        refine loop_of Nat (fun k => chkL3 m i k) (fun k => k ≤ 3) (fun k => 3 - k) 0 (by simp) (by simp [chkL3_eq, mshC_eq, fceC_eq, triD, sdK]) ?_
        rotate_left
        have y := yes (by rw [hsd, h0, h1]; rfl)
        simp [h0]
        refine callW_of ks1 (.inl rfl) ?_
        simp [kg1, h1]
        refine ⟨⟨by omega, by omega⟩, by omega, ?_⟩
        rw [y]
        refine loop_of Nat (fun k => chkL3 m i k) (fun k => k ≤ 3) (fun k => 3 - k) 0 (by simp) (by simp [chkL3_eq, mshC_eq, fceC_eq, triD, sdK]) ?_
        rotate_left
        have y := yes (by rw [hsd, h0, h1, h2]; rfl)
        simp [h0]
        refine callW_of ks1 (.inl rfl) ?_
        simp [kg1, h1]
        refine ⟨⟨by omega, by omega⟩, ?_⟩
        refine callW_of ks2 (.inl rfl) ?_
        simp [kg2, h2]
        refine ⟨⟨by omega, by omega⟩, by omega, ?_⟩
        rw [y]
        refine loop_of Nat (fun k => chkL3 m i k) (fun k => k ≤ 3) (fun k => 3 - k) 0 (by simp) (by simp [chkL3_eq, mshC_eq, fceC_eq, triD, sdK]) ?_
        rotate_left
        have y := nos (by rw [hsd, h0, h1, h2]; rfl)
        simp [h0]
        refine callW_of ks1 (.inl rfl) ?_
        simp [kg1, h1]
        refine ⟨⟨by omega, by omega⟩, ?_⟩
        refine callW_of ks2 (.inl rfl) ?_
        simp [kg2, h2]
        refine ⟨⟨by omega, by omega⟩, ?_⟩
        rw [y]
        refine loop_of Nat (fun k => chkL3 m i k) (fun k => k ≤ 3) (fun k => 3 - k) 0 (by simp) (by simp [chkL3_eq, mshC_eq, fceC_eq, triD, sdK]) ?_
        rotate_left
        all_goals
          clear y
          rintro k hk
          simp [chkL3_eq, mshC_eq, fceC_eq, triD]
          refine brB_of (fun g2 => ?_) (fun g2 => ?_) <;> simp at g2 <;> simp [g2]
          · have hw2 : IntKind.wrap .i64 ((k : Int) + 1) = ((k + 1 : Nat) : Int) := wrap_i64 (by omega) (by omega)
            have ck := cb k
            have ck1 := cb (k + 1)
            refine callW_of (ks k (by omega)) (.inl rfl) ?_
            simp [hw2, sdK_len]
            refine ⟨by omega, ⟨⟨by omega, by omega⟩, by omega, by omega⟩, k + 1, by omega, by omega, ?_⟩
            simp [chkL3_eq, mshC_eq, fceC_eq, triD, sdK, List.replicate_succ]
          · have hk3 : k = 3 := by omega
            subst hk3
            simp only [triD] at kT
            simp
            refine callW_of kT (.inl rfl) ?_
            simp
            simp only [triD] at e5
            cases hov2 : overB m i
            · have e9 := nmR_no hov2
              simp [hw]
              refine ⟨by omega, i + 1, by omega, by omega, ?_⟩
              simp [chkL2_eq, mshC_eq, ← b1, ← b2, ← e9, e5, e6, e7, e8]
            · have e9 := nmR_yes hov2
              simp [hw]
              refine ⟨by omega, by omega, i + 1, by omega, by omega, ?_⟩
              simp [chkL2_eq, mshC_eq, ← b1, ← b2, e9, e5, e6, e7, e8]
    · have hi2 : i = m.f.length := by omega
      subst hi2
      have bd : ∀ (p : Nat → Bool) (n : Nat), n ≤ 100 → (fil p n).length ≤ 100 ∧ ∀ x ∈ fil p n, x < 100 := fun p n hn => ⟨by have := fil_le p n; omega, fun x hx => by have := (fil_lt hx).1; omega⟩
      have q1 := bd (farB m) _ hs
      have q2 := bd (sameB m) _ hs
      have q3 := bd (badB m) _ hf
      have q4 := bd (flatB m) _ hf
      have q5 := bd (sideB m) _ hf
      have q6 := bd (overB m) _ hf
      have hLL : LL m = [[], fil (farB m) m.s.length, fil (sameB m) m.s.length, fil (badB m) m.f.length, fil (flatB m) m.f.length, fil (sideB m) m.f.length, fil (overB m) m.f.length] := rfl
      rw [hLL]
      clear hLL bd
      generalize fil (farB m) m.s.length = L1 at *
      generalize fil (sameB m) m.s.length = L2 at *
      generalize fil (badB m) m.f.length = L3 at *
      generalize fil (flatB m) m.f.length = L4 at *
      generalize fil (sideB m) m.f.length = L5 at *
      generalize fil (overB m) m.f.length = L6 at *
      obtain ⟨AG, hAG⟩ : ∃ x, x = agx6 L1 L2 L3 L4 L5 L6 := ⟨_, rfl⟩
      obtain ⟨BK, hBK⟩ : ∃ x, x = blk6 L1 L2 L3 L4 L5 L6 := ⟨_, rfl⟩
      obtain ⟨U, hU⟩ : ∃ U : Nat → List (Int × List UInt8), U = fun k => outF dec 0 (([([] : List Nat), L1, L2, L3, L4, L5, L6]).take k) := ⟨_, rfl⟩
      have hU7 : U 7 = outF dec 0 [[], L1, L2, L3, L4, L5, L6] := by rw [hU]; rfl
      have hU0 : U 0 = [] := by rw [hU]; rfl
      have bdU : ∀ k (L : List Nat), L.length ≤ 100 → (U k).length ≤ 100 * k → (U k ++ L.map fun i => ((k : Int), dec i)).length ≤ 100 * (k + 1) := fun k L h1 h2 => by simp; omega
      have hU0s : U 1 = U 0 ++ (([] : List Nat)).map fun i => ((0 : Int), dec i) := by
        rw [hU]; show outF dec 0 (([([] : List Nat), L1, L2, L3, L4, L5, L6]).take 0 ++ [([] : List Nat)]) = _
        rw [outF_app]; simp [outF]
      have hU1s : U 2 = U 1 ++ (L1).map fun i => ((1 : Int), dec i) := by
        rw [hU]; show outF dec 0 (([([] : List Nat), L1, L2, L3, L4, L5, L6]).take 1 ++ [L1]) = _
        rw [outF_app]; simp [outF]
      have hU2s : U 3 = U 2 ++ (L2).map fun i => ((2 : Int), dec i) := by
        rw [hU]; show outF dec 0 (([([] : List Nat), L1, L2, L3, L4, L5, L6]).take 2 ++ [L2]) = _
        rw [outF_app]; simp [outF]
      have hU3s : U 4 = U 3 ++ (L3).map fun i => ((3 : Int), dec i) := by
        rw [hU]; show outF dec 0 (([([] : List Nat), L1, L2, L3, L4, L5, L6]).take 3 ++ [L3]) = _
        rw [outF_app]; simp [outF]
      have hU4s : U 5 = U 4 ++ (L4).map fun i => ((4 : Int), dec i) := by
        rw [hU]; show outF dec 0 (([([] : List Nat), L1, L2, L3, L4, L5, L6]).take 4 ++ [L4]) = _
        rw [outF_app]; simp [outF]
      have hU5s : U 6 = U 5 ++ (L5).map fun i => ((5 : Int), dec i) := by
        rw [hU]; show outF dec 0 (([([] : List Nat), L1, L2, L3, L4, L5, L6]).take 5 ++ [L5]) = _
        rw [outF_app]; simp [outF]
      have hU6s : U 7 = U 6 ++ (L6).map fun i => ((6 : Int), dec i) := by
        rw [hU]; show outF dec 0 (([([] : List Nat), L1, L2, L3, L4, L5, L6]).take 6 ++ [L6]) = _
        rw [outF_app]; simp [outF]
      have lU0 : (U 0).length ≤ 0 := by rw [hU0]; simp
      have lU1 : (U 1).length ≤ 100 := by rw [hU0s]; simp; omega
      have lU2 : (U 2).length ≤ 200 := by rw [hU1s]; simp; omega
      have lU3 : (U 3).length ≤ 300 := by rw [hU2s]; simp; omega
      have lU4 : (U 4).length ≤ 400 := by rw [hU3s]; simp; omega
      have lU5 : (U 5).length ≤ 500 := by rw [hU4s]; simp; omega
      have lU6 : (U 6).length ≤ 600 := by rw [hU5s]; simp; omega
      rw [← hU7]
      refine loop_of Nat (fun k => [(17, .ref (.r 10272) 0 (U k).length), (10272, .blk 2 (fnR (U k))), (181, AG), (182, .int .i64 k), (10064, BK)]) (fun k => k ≤ 7) (fun k => 7 - k) 0 (by simp) (by simp [hU0, hAG, hBK, agx6_eq, blk6_eq]) ?_
      rintro k hk
      rcases (by omega : k = 0 ∨ k = 1 ∨ k = 2 ∨ k = 3 ∨ k = 4 ∨ k = 5 ∨ k = 6 ∨ k = 7) with rfl | rfl | rfl | rfl | rfl | rfl | rfl | rfl
      · simp [hAG, agx6_eq]
        refine loop_of Nat (fun j => [(17, .ref (.r 10272) 0 ((U 0).length + j)), (10272, .blk 2 (fnR (U 0 ++ tkD dec 0 ([] : List Nat) j))), (18, .int .i64 0), (181, AG), (182, .int .i64 0), (186, .ref (.n 10064 0 0) 0 (([] : List Nat)).length), (187, .int .i64 (([] : List Nat)).length), (188, .int .i64 j), (10064, BK)]) (fun j => j ≤ (([] : List Nat)).length) (fun j => (([] : List Nat)).length - j) 0 (by simp) (by simp [hAG, hBK, agx6_eq, blk6_eq, tkD_zero]) ?_
        rintro j hj
        simp [hAG, hBK, agx6_eq, blk6_eq]
        have hj0 : j = 0 := by simpa using hj
        subst hj0
        simp [w64_1, hAG, hBK, agx6_eq, blk6_eq]
        refine ⟨1, by omega, by omega, ?_⟩
        rw [hU0s]
        simp [tkD]
      · simp [hAG, agx6_eq]
        refine loop_of Nat (fun j => [(17, .ref (.r 10272) 0 ((U 1).length + j)), (10272, .blk 2 (fnR (U 1 ++ tkD dec 1 L1 j))), (18, .int .i64 1), (181, AG), (182, .int .i64 1), (186, .ref (.n 10064 0 1) 0 (L1).length), (187, .int .i64 (L1).length), (188, .int .i64 j), (10064, BK)]) (fun j => j ≤ (L1).length) (fun j => (L1).length - j) 0 (by simp) (by simp [hAG, hBK, agx6_eq, blk6_eq, tkD_zero]) ?_
        rintro j hj
        simp [hAG, hBK, agx6_eq, blk6_eq]
        refine brB_of (fun g3 => ?_) (fun g3 => ?_) <;> simp at g3 <;> simp [g3, hAG, hBK, agx6_eq, blk6_eq]
        · have hj2 : j < L1.length := by omega
          have hw3 : IntKind.wrap .i64 ((j : Int) + 1) = ((j + 1 : Nat) : Int) := wrap_i64 (by omega) (by omega)
          have hi := hI (L1[j]) (q1.2 _ (List.getElem_mem hj2))
          have ht := tkD_succ dec 1 L1 hj2
          have hl := tkD_len dec 1 L1 (Nat.le_of_lt hj2)
          rw [nmR_eq L1]
          try simp [hj2]
          refine callW_of hi (.inl rfl) ?_
          simp
          refine ⟨by omega, by omega, j + 1, by omega, by omega, by omega, ?_, ?_, hw3, ?_⟩
          · have e : (U 1).length + j = (U 1 ++ tkD dec 1 L1 j).length := by simp [hl]
            rw [e, fnR_take, fnR_add, ht, List.append_assoc]
          · rw [hAG, agx6_eq]
          · rw [hBK, blk6_eq]; simp only [nmR_eq]
        · have hj2 : j = L1.length := by omega
          subst hj2
          refine ⟨2, by omega, by omega, ?_⟩
          rw [hU1s, tkD_all]
          simp [hAG, hBK, agx6_eq, blk6_eq]
          decide
      · simp [hAG, agx6_eq]
        refine loop_of Nat (fun j => [(17, .ref (.r 10272) 0 ((U 2).length + j)), (10272, .blk 2 (fnR (U 2 ++ tkD dec 2 L2 j))), (18, .int .i64 2), (181, AG), (182, .int .i64 2), (186, .ref (.n 10064 0 2) 0 (L2).length), (187, .int .i64 (L2).length), (188, .int .i64 j), (10064, BK)]) (fun j => j ≤ (L2).length) (fun j => (L2).length - j) 0 (by simp) (by simp [hAG, hBK, agx6_eq, blk6_eq, tkD_zero]) ?_
        rintro j hj
        simp [hAG, hBK, agx6_eq, blk6_eq]
        refine brB_of (fun g3 => ?_) (fun g3 => ?_) <;> simp at g3 <;> simp [g3, hAG, hBK, agx6_eq, blk6_eq]
        · have hj2 : j < L2.length := by omega
          have hw3 : IntKind.wrap .i64 ((j : Int) + 1) = ((j + 1 : Nat) : Int) := wrap_i64 (by omega) (by omega)
          have hi := hI (L2[j]) (q2.2 _ (List.getElem_mem hj2))
          have ht := tkD_succ dec 2 L2 hj2
          have hl := tkD_len dec 2 L2 (Nat.le_of_lt hj2)
          rw [nmR_eq L2]
          try simp [hj2]
          refine callW_of hi (.inl rfl) ?_
          simp
          refine ⟨by omega, by omega, j + 1, by omega, by omega, by omega, ?_, ?_, hw3, ?_⟩
          · have e : (U 2).length + j = (U 2 ++ tkD dec 2 L2 j).length := by simp [hl]
            rw [e, fnR_take, fnR_add, ht, List.append_assoc]
          · rw [hAG, agx6_eq]
          · rw [hBK, blk6_eq]; simp only [nmR_eq]
        · have hj2 : j = L2.length := by omega
          subst hj2
          refine ⟨3, by omega, by omega, ?_⟩
          rw [hU2s, tkD_all]
          simp [hAG, hBK, agx6_eq, blk6_eq]
          decide
      · simp [hAG, agx6_eq]
        refine loop_of Nat (fun j => [(17, .ref (.r 10272) 0 ((U 3).length + j)), (10272, .blk 2 (fnR (U 3 ++ tkD dec 3 L3 j))), (18, .int .i64 3), (181, AG), (182, .int .i64 3), (186, .ref (.n 10064 0 3) 0 (L3).length), (187, .int .i64 (L3).length), (188, .int .i64 j), (10064, BK)]) (fun j => j ≤ (L3).length) (fun j => (L3).length - j) 0 (by simp) (by simp [hAG, hBK, agx6_eq, blk6_eq, tkD_zero]) ?_
        rintro j hj
        simp [hAG, hBK, agx6_eq, blk6_eq]
        refine brB_of (fun g3 => ?_) (fun g3 => ?_) <;> simp at g3 <;> simp [g3, hAG, hBK, agx6_eq, blk6_eq]
        · have hj2 : j < L3.length := by omega
          have hw3 : IntKind.wrap .i64 ((j : Int) + 1) = ((j + 1 : Nat) : Int) := wrap_i64 (by omega) (by omega)
          have hi := hI (L3[j]) (q3.2 _ (List.getElem_mem hj2))
          have ht := tkD_succ dec 3 L3 hj2
          have hl := tkD_len dec 3 L3 (Nat.le_of_lt hj2)
          rw [nmR_eq L3]
          try simp [hj2]
          refine callW_of hi (.inl rfl) ?_
          simp
          refine ⟨by omega, by omega, j + 1, by omega, by omega, by omega, ?_, ?_, hw3, ?_⟩
          · have e : (U 3).length + j = (U 3 ++ tkD dec 3 L3 j).length := by simp [hl]
            rw [e, fnR_take, fnR_add, ht, List.append_assoc]
          · rw [hAG, agx6_eq]
          · rw [hBK, blk6_eq]; simp only [nmR_eq]
        · have hj2 : j = L3.length := by omega
          subst hj2
          refine ⟨4, by omega, by omega, ?_⟩
          rw [hU3s, tkD_all]
          simp [hAG, hBK, agx6_eq, blk6_eq]
          decide
      · simp [hAG, agx6_eq]
        refine loop_of Nat (fun j => [(17, .ref (.r 10272) 0 ((U 4).length + j)), (10272, .blk 2 (fnR (U 4 ++ tkD dec 4 L4 j))), (18, .int .i64 4), (181, AG), (182, .int .i64 4), (186, .ref (.n 10064 0 4) 0 (L4).length), (187, .int .i64 (L4).length), (188, .int .i64 j), (10064, BK)]) (fun j => j ≤ (L4).length) (fun j => (L4).length - j) 0 (by simp) (by simp [hAG, hBK, agx6_eq, blk6_eq, tkD_zero]) ?_
        rintro j hj
        simp [hAG, hBK, agx6_eq, blk6_eq]
        refine brB_of (fun g3 => ?_) (fun g3 => ?_) <;> simp at g3 <;> simp [g3, hAG, hBK, agx6_eq, blk6_eq]
        · have hj2 : j < L4.length := by omega
          have hw3 : IntKind.wrap .i64 ((j : Int) + 1) = ((j + 1 : Nat) : Int) := wrap_i64 (by omega) (by omega)
          have hi := hI (L4[j]) (q4.2 _ (List.getElem_mem hj2))
          have ht := tkD_succ dec 4 L4 hj2
          have hl := tkD_len dec 4 L4 (Nat.le_of_lt hj2)
          rw [nmR_eq L4]
          try simp [hj2]
          refine callW_of hi (.inl rfl) ?_
          simp
          refine ⟨by omega, by omega, j + 1, by omega, by omega, by omega, ?_, ?_, hw3, ?_⟩
          · have e : (U 4).length + j = (U 4 ++ tkD dec 4 L4 j).length := by simp [hl]
            rw [e, fnR_take, fnR_add, ht, List.append_assoc]
          · rw [hAG, agx6_eq]
          · rw [hBK, blk6_eq]; simp only [nmR_eq]
        · have hj2 : j = L4.length := by omega
          subst hj2
          refine ⟨5, by omega, by omega, ?_⟩
          rw [hU4s, tkD_all]
          simp [hAG, hBK, agx6_eq, blk6_eq]
          decide
      · simp [hAG, agx6_eq]
        refine loop_of Nat (fun j => [(17, .ref (.r 10272) 0 ((U 5).length + j)), (10272, .blk 2 (fnR (U 5 ++ tkD dec 5 L5 j))), (18, .int .i64 5), (181, AG), (182, .int .i64 5), (186, .ref (.n 10064 0 5) 0 (L5).length), (187, .int .i64 (L5).length), (188, .int .i64 j), (10064, BK)]) (fun j => j ≤ (L5).length) (fun j => (L5).length - j) 0 (by simp) (by simp [hAG, hBK, agx6_eq, blk6_eq, tkD_zero]) ?_
        rintro j hj
        simp [hAG, hBK, agx6_eq, blk6_eq]
        refine brB_of (fun g3 => ?_) (fun g3 => ?_) <;> simp at g3 <;> simp [g3, hAG, hBK, agx6_eq, blk6_eq]
        · have hj2 : j < L5.length := by omega
          have hw3 : IntKind.wrap .i64 ((j : Int) + 1) = ((j + 1 : Nat) : Int) := wrap_i64 (by omega) (by omega)
          have hi := hI (L5[j]) (q5.2 _ (List.getElem_mem hj2))
          have ht := tkD_succ dec 5 L5 hj2
          have hl := tkD_len dec 5 L5 (Nat.le_of_lt hj2)
          rw [nmR_eq L5]
          try simp [hj2]
          refine callW_of hi (.inl rfl) ?_
          simp
          refine ⟨by omega, by omega, j + 1, by omega, by omega, by omega, ?_, ?_, hw3, ?_⟩
          · have e : (U 5).length + j = (U 5 ++ tkD dec 5 L5 j).length := by simp [hl]
            rw [e, fnR_take, fnR_add, ht, List.append_assoc]
          · rw [hAG, agx6_eq]
          · rw [hBK, blk6_eq]; simp only [nmR_eq]
        · have hj2 : j = L5.length := by omega
          subst hj2
          refine ⟨6, by omega, by omega, ?_⟩
          rw [hU5s, tkD_all]
          simp [hAG, hBK, agx6_eq, blk6_eq]
          decide
      · simp [hAG, agx6_eq]
        refine loop_of Nat (fun j => [(17, .ref (.r 10272) 0 ((U 6).length + j)), (10272, .blk 2 (fnR (U 6 ++ tkD dec 6 L6 j))), (18, .int .i64 6), (181, AG), (182, .int .i64 6), (186, .ref (.n 10064 0 6) 0 (L6).length), (187, .int .i64 (L6).length), (188, .int .i64 j), (10064, BK)]) (fun j => j ≤ (L6).length) (fun j => (L6).length - j) 0 (by simp) (by simp [hAG, hBK, agx6_eq, blk6_eq, tkD_zero]) ?_
        rintro j hj
        simp [hAG, hBK, agx6_eq, blk6_eq]
        refine brB_of (fun g3 => ?_) (fun g3 => ?_) <;> simp at g3 <;> simp [g3, hAG, hBK, agx6_eq, blk6_eq]
        · have hj2 : j < L6.length := by omega
          have hw3 : IntKind.wrap .i64 ((j : Int) + 1) = ((j + 1 : Nat) : Int) := wrap_i64 (by omega) (by omega)
          have hi := hI (L6[j]) (q6.2 _ (List.getElem_mem hj2))
          have ht := tkD_succ dec 6 L6 hj2
          have hl := tkD_len dec 6 L6 (Nat.le_of_lt hj2)
          rw [nmR_eq L6]
          try simp [hj2]
          refine callW_of hi (.inl rfl) ?_
          simp
          refine ⟨by omega, by omega, j + 1, by omega, by omega, by omega, ?_, ?_, hw3, ?_⟩
          · have e : (U 6).length + j = (U 6 ++ tkD dec 6 L6 j).length := by simp [hl]
            rw [e, fnR_take, fnR_add, ht, List.append_assoc]
          · rw [hAG, agx6_eq]
          · rw [hBK, blk6_eq]; simp only [nmR_eq]
        · have hj2 : j = L6.length := by omega
          subst hj2
          refine ⟨7, by omega, by omega, ?_⟩
          rw [hU6s, tkD_all]
          simp [hAG, hBK, agx6_eq, blk6_eq]
          decide
      · simp [hAG, agx6_eq]
        rfl
end Go.Gv

set_option linter.unusedSimpArgs false
namespace Go.Gv
theorem valid_small {m : Msh} (h : validM m = true) : m.s.length ≤ 2000 ∧ m.f.length ≤ 4000 := by
  simp only [validM, smallM, Bool.and_eq_true, decide_eq_true_eq] at h
  exact h.1
theorem valid_LL {m : Msh} (h : validM m = true) : ∀ l ∈ LL m, l = [] := by
  simp only [validM, Bool.and_eq_true, List.all_eq_true, decide_eq_true_eq] at h
  exact h.2
theorem valid_s {m : Msh} (h : validM m = true) {i : Nat} (hi : i < m.s.length) : rightS (spt m i) = true := by
  have := fil_nil.1 (valid_LL h (fil (farB m) m.s.length) (by simp [LL])) i hi
  simpa [farB] using this
theorem valid_f {m : Msh} (h : validM m = true) {i : Nat} (hi : i < m.f.length) : okF m (fce m i) = true ∧ 0 < turnT (triF m (fce m i)) := by
  have h1 := fil_nil.1 (valid_LL h (fil (badB m) m.f.length) (by simp [LL])) i hi
  have h2 := fil_nil.1 (valid_LL h (fil (flatB m) m.f.length) (by simp [LL])) i hi
  have h3 : okF m (fce m i) = true := by simpa [badB] using h1
  refine ⟨h3, ?_⟩
  simp [flatB, h3] at h2
  omega
theorem valid_snd {m : Msh} (h : validM m = true) {i : Nat} (hi : i < m.f.length) : sndB m i = true := by
  have := valid_f h hi
  simp [sndB, this]
theorem valid_side {m : Msh} (h : validM m = true) {i k : Nat} (hi : i < m.f.length) (hk : k < i) : shareB (fce m i) (fce m k) = false := by
  have h1 := fil_nil.1 (valid_LL h (fil (sideB m) m.f.length) (by simp [LL])) i hi
  rw [sideB, valid_snd h hi, Bool.true_and, List.any_eq_false] at h1
  have := h1 k (List.mem_range.2 hk)
  rw [valid_snd h (by omega), Bool.true_and] at this
  simpa using this
theorem valid_in {m : Msh} (h : validM m = true) {i : Nat} (hi : i < m.f.length) : inS m (fce m i) = true := okF_inS (valid_f h hi).1
theorem valid_T {m : Msh} (h : validM m = true) {i : Nat} (hi : i < m.f.length) : okT (triF m (fce m i)) = true := okF_okT (valid_f h hi).1
/-- It has a side with these ends. -/
def hasSd (f : Fce) (a b : Int) : Bool := (List.range 3).any fun j => decide (crn f j = a) && decide (crn f (j + 1) = b)
/-- The face with a side; -1 if there is none. -/
def sideF (m : Msh) (a b : Int) : Int := idxD (fun f => hasSd f a b) m.f
def nbF (m : Msh) (i k : Nat) : Int := sideF m (crn (fce m i) (k + 1)) (crn (fce m i) k)
def lastF (p : Nat → Bool) : Nat → Option Nat
  | 0 => none
  | i + 1 => if p i then some i else lastF p i
theorem lastF_spec (p : Nat → Bool) : ∀ n, (lastF p n = none ∧ ∀ i, i < n → p i = false) ∨ ∃ i, lastF p n = some i ∧ i < n ∧ p i = true
  | 0 => .inl ⟨rfl, fun i h => by omega⟩
  | n + 1 => by
    rw [lastF]
    by_cases h : p n = true
    · rw [if_pos h]; exact .inr ⟨n, rfl, by omega, h⟩
    · rw [if_neg h]
      rcases lastF_spec p n with ⟨h1, h2⟩ | ⟨i, h1, h2, h3⟩
      · refine .inl ⟨h1, fun i hi => ?_⟩
        rcases Nat.lt_succ_iff_lt_or_eq.1 hi with h3 | rfl
        · exact h2 i h3
        · simpa using h
      · exact .inr ⟨i, h1, by omega, h3⟩
theorem mtc_of {f g : Fce} {a b : Int} (h1 : hasSd f a b = true) (h2 : hasSd g a b = true) : shareB f g = true := by
  simp only [hasSd, List.any_eq_true, List.mem_range, Bool.and_eq_true, decide_eq_true_eq] at h1 h2
  obtain ⟨i, hi, rfl, rfl⟩ := h1
  obtain ⟨j, hj, e1, e2⟩ := h2
  simp only [shareB, List.any_eq_true, List.mem_range]
  exact ⟨i, hi, j, hj, by simp [mtc, e1, e2]⟩
theorem hasSd_one {m : Msh} (h : validM m = true) {i k : Nat} (hi : i < m.f.length) (hk : k < m.f.length) {a b : Int} (h1 : hasSd (fce m i) a b = true) (h2 : hasSd (fce m k) a b = true) : i = k := by
  rcases Nat.lt_trichotomy i k with h3 | h3 | h3
  · have := valid_side h hk h3
    rw [mtc_of h2 h1] at this; cases this
  · exact h3
  · have := valid_side h hi h3
    rw [mtc_of h1 h2] at this; cases this
theorem sideF_last {m : Msh} (h : validM m = true) (a b : Int) : sideF m a b = match lastF (fun i => hasSd (fce m i) a b) m.f.length with
    | some i => (i : Int)
    | none => -1 := by
  rcases lastF_spec (fun i => hasSd (fce m i) a b) m.f.length with ⟨h1, h2⟩ | ⟨i, h1, h2, h3⟩
  · rw [h1]
    exact idxD_none fun j hj => by rw [fce_g]; exact h2 j hj
  · rw [h1]
    refine idxD_step (fun j hj hji => ?_) h2 (by rw [fce_g]; exact h3)
    rw [fce_g]
    cases hh : hasSd (fce m j) a b
    · rfl
    · have := hasSd_one h hj h2 hh h3
      omega
/-- All sides, as keys. -/
def nbKs (m : Msh) : Nat → List D
  | 0 => []
  | i + 1 => sdK (fce m i) 3 ++ nbKs m i
def nbVs (m : Msh) : Nat → List D
  | 0 => []
  | i + 1 => List.replicate 3 (.int .i64 i) ++ nbVs m i
theorem nbKs_len (m : Msh) : ∀ i, (nbKs m i).length = 3 * i
  | 0 => by simp [nbKs]
  | i + 1 => by
    have := nbKs_len m i
    simp [nbKs, sdK_len]; omega
theorem nb_get (m : Msh) (a b : Int) : ∀ i, mpGet (nbKs m i) (nbVs m i) (.agg [.int .i64 a, .int .i64 b]) = (lastF (fun i => hasSd (fce m i) a b) i).map fun i => .int .i64 i
  | 0 => rfl
  | i + 1 => by
    have h3 : List.range 3 = [0, 1, 2] := rfl
    simp only [nbKs, nbVs, lastF, sdK, List.replicate, List.cons_append, List.nil_append, mpGet, eqD_2]
    have ih := nb_get m a b i
    by_cases c0 : (decide (a = crn (fce m i) 2) && decide (b = crn (fce m i) (2 + 1))) = true
    · have : hasSd (fce m i) a b = true := by
        simp only [Bool.and_eq_true, decide_eq_true_eq] at c0
        simp [hasSd, h3, ← c0.1, ← c0.2]
      rw [if_pos c0, if_pos this]; rfl
    · rw [if_neg c0]
      by_cases c1 : (decide (a = crn (fce m i) 1) && decide (b = crn (fce m i) (1 + 1))) = true
      · have : hasSd (fce m i) a b = true := by
          simp only [Bool.and_eq_true, decide_eq_true_eq] at c1
          simp [hasSd, h3, ← c1.1, ← c1.2]
        rw [if_pos c1, if_pos this]; rfl
      · rw [if_neg c1]
        by_cases c2 : (decide (a = crn (fce m i) 0) && decide (b = crn (fce m i) (0 + 1))) = true
        · have : hasSd (fce m i) a b = true := by
            simp only [Bool.and_eq_true, decide_eq_true_eq] at c2
            simp [hasSd, h3, ← c2.1, ← c2.2]
          rw [if_pos c2, if_pos this]; rfl
        · have : hasSd (fce m i) a b = false := by
            simp only [Bool.and_eq_true, decide_eq_true_eq, not_and] at c0 c1 c2
            simp only [hasSd, h3, List.any_cons, List.any_nil, Bool.or_false, Bool.or_eq_false_iff, Bool.and_eq_false_iff, decide_eq_false_iff_not]
            omega
          rw [if_neg c2, if_neg (by rw [this]; decide), ih]
/-- The neighbours, when those of i faces and k more are found. -/
def nbC (m : Msh) (i k j c : Nat) : Int := if j < i ∨ (j = i ∧ c < k) then nbF m j c else 0
def nbR (m : Msh) (i k : Nat) : List (List D) := (List.range m.f.length).map fun j => [.int .i64 (nbC m i k j 0), .int .i64 (nbC m i k j 1), .int .i64 (nbC m i k j 2)]
/-- The neighbours of all faces. -/
def nbA (m : Msh) : List (List D) := (List.range m.f.length).map fun j => [.int .i64 (nbF m j 0), .int .i64 (nbF m j 1), .int .i64 (nbF m j 2)]
@[simp] theorem nbR_len (m : Msh) (i k : Nat) : (nbR m i k).length = m.f.length := by simp [nbR]
@[simp] theorem nbR_take (m : Msh) (i k : Nat) : List.take m.f.length (nbR m i k) = nbR m i k := List.take_of_length_le (by simp)
@[simp] theorem nbR_cv (m : Msh) (i k : Nat) : List.map (fun e => List.map cellV e) (nbR m i k) = nbR m i k := by simp [nbR]
theorem nbR_zero (m : Msh) : List.replicate m.f.length [D.int .i64 0, D.int .i64 0, D.int .i64 0] = nbR m 0 0 := by
  refine List.ext_getElem (by simp) fun j h1 h2 => ?_
  simp [nbR, nbC]
theorem nbR_next (m : Msh) (i : Nat) : nbR m i 3 = nbR m (i + 1) 0 := by
  unfold nbR
  refine List.map_congr_left fun j _ => ?_
  have e : ∀ c, c < 3 → nbC m i 3 j c = nbC m (i + 1) 0 j c := fun c hc => by
    unfold nbC
    by_cases h : j < i + 1
    · rw [if_pos (by omega), if_pos (by omega)]
    · rw [if_neg (by omega), if_neg (by omega)]
  rw [e 0 (by omega), e 1 (by omega), e 2 (by omega)]
theorem nbR_all (m : Msh) : nbR m m.f.length 0 = nbA m := by
  unfold nbR nbA
  refine List.map_congr_left fun j hj => ?_
  have hj := List.mem_range.1 hj
  simp [nbC, hj]
theorem nbR_get (m : Msh) {i k j : Nat} (h : j < m.f.length) : (nbR m i k)[j]? = some [.int .i64 (nbC m i k j 0), .int .i64 (nbC m i k j 1), .int .i64 (nbC m i k j 2)] := by
  simp [nbR, h]
theorem nbR_set (m : Msh) {i k : Nat} (h : i < m.f.length) (hk : k < 3) : (nbR m i k).set i (([.int .i64 (nbC m i k i 0), .int .i64 (nbC m i k i 1), .int .i64 (nbC m i k i 2)] : List D).set k (.int .i64 (nbF m i k))) = nbR m i (k + 1) := by
  refine List.ext_getElem (by simp) fun j h1 h2 => ?_
  rw [List.getElem_set]
  by_cases e : i = j
  · subst e
    rw [if_pos rfl]
    rcases (by omega : k = 0 ∨ k = 1 ∨ k = 2) with rfl | rfl | rfl <;> simp [nbR, nbC]
  · rw [if_neg e]
    simp only [nbR, List.getElem_map, List.getElem_range]
    have e2 : ∀ c, nbC m i k j c = nbC m i (k + 1) j c := fun c => by
      unfold nbC
      by_cases h : j < i
      · rw [if_pos (by omega), if_pos (by omega)]
      · rw [if_neg (by omega), if_neg (by omega)]
    rw [e2, e2, e2]
variable {C : CC} (hC : Closed prog C)
include hC
theorem CheckF_c (m : Msh) (h : smallM m = false) : C 273 [.agg (mshC m)] (.tup [.nils, .int .i64 4]) [] := by
  have ksm := msmall_c hC m
  rw [show (decide (m.s.length ≤ 2000) && decide (m.f.length ≤ 4000)) = false from h] at ksm
  refine start hC (nf := N273_mesh_Check) rfl rfl ?_
  simp only [mshC_eq] at ksm
  simp [N273_mesh_Check, mshC_eq]
  refine callW_of ksm (.inl rfl) ?_
  simp
theorem mValid_c (dec : Nat → List UInt8) (hI : ∀ n : Nat, n < 100 → C 127 [.int .i64 n] (.str (dec n)) []) (m : Msh) (hz : smallM m = true → m.s.length ≤ 100 ∧ m.f.length ≤ 100) : C 234 [.agg (mshC m)] (.bool (validM m)) [] := by
  cases hs : smallM m
  · have k := CheckF_c hC m hs
    refine start hC (nf := N234_mesh_Valid) rfl rfl ?_
    simp only [mshC_eq] at k
    simp [N234_mesh_Valid, mshC_eq]
    refine callW_of k (.inr rfl) ?_
    simp [validM, hs]
  · obtain ⟨h1, h2⟩ := hz hs
    have k := Check_c hC dec hI m h1 h2
    have e : validM m = decide ((outF dec 0 (LL m)).length = 0) := by
      rw [validM, hs, Bool.true_and, Bool.eq_iff_iff, decide_eq_true_eq, List.length_eq_zero_iff, outF_nil]
    obtain ⟨X, hX⟩ : ∃ X, X = outF dec 0 (LL m) := ⟨_, rfl⟩
    rw [e]
    rw [← hX] at k ⊢
    refine start hC (nf := N234_mesh_Valid) rfl rfl ?_
    simp only [mshC_eq] at k
    simp [N234_mesh_Valid, mshC_eq]
    refine callW_of k (.inr rfl) ?_
    simp
end Go.Gv
