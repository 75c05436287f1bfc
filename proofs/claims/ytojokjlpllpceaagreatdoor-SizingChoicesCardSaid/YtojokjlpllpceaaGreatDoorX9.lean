/-
  Texts of the proof: M4, M5, M6, E7, K24d, K21, E8, E9.
-/
import Derived.Test.YtojokjlpllpceaaGreatDoorX8
set_option linter.all false
set_option linter.unusedSimpArgs false
namespace Go.Gv

/-- A quotient, bit by bit: a is what is left of x, shifted. -/
def DvS (x b i a q r : Nat) : Prop := i ≤ 128 ∧ r < b ∧ ∃ c, a = c * 2 ^ i ∧ c < 2 ^ (128 - i) ∧ (q * b + r) * 2 ^ (128 - i) + c = x
theorem DvS.step {x b i a q r : Nat} (h : DvS x b i a q r) (hi : i < 128) (hb : 0 < b) :
    a < 340282366920938463463374607431768211456 ∧ 2 * q ≤ x ∧
    ∀ w r' a', 2 * r + a / 170141183460469231731687303715884105728 = w * b + r' → r' < b → a' = 2 * a % 340282366920938463463374607431768211456 → DvS x b (i + 1) a' (2 * q + w) r' ∧ 2 * q + w ≤ x := by
  obtain ⟨_, hr, c, h1, h2, h3⟩ := h
  obtain ⟨m, hm⟩ : ∃ m, m + 1 = 128 - i := ⟨127 - i, by omega⟩
  have hm2 : m = 128 - (i + 1) := by omega
  rw [← hm, Nat.pow_succ] at h2 h3
  obtain ⟨V, hV⟩ : ∃ V, V = 2 ^ m := ⟨_, rfl⟩
  obtain ⟨W, hW⟩ : ∃ W, W = 2 ^ i := ⟨_, rfl⟩
  have hVW : V * W = 170141183460469231731687303715884105728 := by
    rw [hV, hW, ← Nat.pow_add, show m + i = 127 by omega]
  have hVp : 0 < V := by rw [hV]; exact Nat.two_pow_pos m
  rw [← hV] at h2 h3
  rw [← hW] at h1
  obtain ⟨t, ht⟩ : ∃ t, t = c / V := ⟨_, rfl⟩
  obtain ⟨d, hd⟩ : ∃ d, d = c % V := ⟨_, rfl⟩
  have hc : c = t * V + d := by rw [ht, hd, Nat.mul_comm]; exact (Nat.div_add_mod c V).symm
  have hdV : d < V := by rw [hd]; exact Nat.mod_lt _ hVp
  have ht1 : t ≤ 1 := by
    have : t < 2 := by rw [ht, Nat.div_lt_iff_lt_mul hVp]; omega
    omega
  have ha : a = t * 170141183460469231731687303715884105728 + d * W := by
    rw [h1, hc, Nat.add_mul, Nat.mul_assoc, hVW]
  have hdW : d * W < 170141183460469231731687303715884105728 := by
    have : (d + 1) * W ≤ V * W := Nat.mul_le_mul_right _ hdV
    rw [hVW, Nat.add_mul] at this
    have hWp : 0 < W := by rw [hW]; exact Nat.two_pow_pos i
    omega
  have hbit : a / 170141183460469231731687303715884105728 = t := by
    rw [ha]; generalize d * W = z at *; omega
  have fin : ∀ w r', 2 * r + t = w * b + r' → ((2 * q + w) * b + r') * V + d = x := fun w r' e => by
    have e1 : (2 * q + w) * b + r' = 2 * (q * b + r) + t := by
      rw [Nat.add_mul, Nat.mul_assoc]
      generalize q * b = z at *
      generalize w * b = z' at *
      omega
    rw [e1, ← h3, hc, Nat.add_mul, Nat.mul_comm V 2, ← Nat.mul_assoc, Nat.mul_comm (q * b + r) 2]
    omega
  have big : ∀ w r', 2 * r + t = w * b + r' → 2 * q + w ≤ x := fun w r' e => by
    have e1 := fin w r' e
    have e2 : 2 * q + w ≤ (2 * q + w) * b := Nat.le_mul_of_pos_right _ hb
    have e3 : (2 * q + w) * b + r' ≤ ((2 * q + w) * b + r') * V := Nat.le_mul_of_pos_right _ hVp
    omega
  refine ⟨?_, ?_, ?_⟩
  · rw [ha]; generalize d * W = z at *; omega
  · exact Nat.le_trans (Nat.le_add_right _ _) (big _ _ (Nat.div_add_mod' (2 * r + t) b).symm)
  · intro w r' a' e hr' ha'
    rw [hbit] at e
    refine ⟨⟨by omega, hr', d, ?_, ?_, ?_⟩, big w r' e⟩
    · rw [ha', ha, Nat.pow_succ, ← hW, Nat.mul_comm W 2, Nat.mul_left_comm]
      generalize d * W = z at *
      omega
    · rw [← hm2, ← hV]; exact hdV
    · rw [← hm2, ← hV]; exact fin w r' e
theorem DvS.last {x b a q r : Nat} (h : DvS x b 128 a q r) : q = x / b ∧ r = x % b := by
  obtain ⟨_, hr, c, h1, h2, h3⟩ := h
  simp at h2 h3
  subst h2
  simp at h3
  subst h3
  have hb : 0 < b := by omega
  rw [Nat.mul_comm, Nat.mul_add_div hb, Nat.div_eq_of_lt hr, Nat.mul_add_mod, Nat.mod_eq_of_lt hr]
  exact ⟨rfl, rfl⟩

variable {C : CC} (hC : Closed prog C)
include hC
theorem rMade_c (a b : Nat) : C 84 [.agg [.int .u64 a, .int .u64 b], .bool false] (.agg [.int .u64 a, .int .u64 b, .bool false]) [] := by
  refine start hC (nf := N84_ref03_Made) rfl rfl ?_
  simp [N84_ref03_Made]
  exact indW_of (by decide +kernel)
theorem rOfInt_c (n : Nat) (h : n < 9223372036854775808) : C 68 [.int .i64 n] (.agg [.int .u64 0, .int .u64 n, .bool false]) [] := by
  refine start hC (nf := N68_ref03_OfInt) rfl rfl ?_
  simp [N68_ref03_OfInt]
  refine callW_of (rSize_c hC n h) (.inl rfl) ?_
  have hm := rMade_c hC 0 n
  have h0 : ¬ (n : Int) < 0 := by omega
  simp [h0]
  refine callW_of hm (.inl rfl) ?_
  simp
theorem rTimes_c (x y : Nat) (hx : x < 9223372036854775808) (hy : y < 9223372036854775808) : C 67 [.int .i64 x, .int .i64 y] (.agg [.int .u64 ((x * y / 18446744073709551616 : Nat) : Int), .int .u64 ((x * y % 18446744073709551616 : Nat) : Int), .bool false]) [] := by
  refine start hC (nf := N67_ref03_Times) rfl rfl ?_
  have h0 : ¬ (x : Int) < 0 := by omega
  have h1 : ¬ (y : Int) < 0 := by omega
  have hm := rMul_c hC x y (by omega) (by omega)
  rw [wideD] at hm
  obtain ⟨zh, hzh⟩ : ∃ zh, zh = x * y / 18446744073709551616 := ⟨_, rfl⟩
  obtain ⟨zl, hzl⟩ : ∃ zl, zl = x * y % 18446744073709551616 := ⟨_, rfl⟩
  rw [← hzh, ← hzl] at hm ⊢
  simp [N67_ref03_Times]
  refine callW_of (rSize_c hC x hx) (.inl rfl) ?_
  simp
  refine callW_of (rSize_c hC y hy) (.inl rfl) ?_
  simp
  refine callW_of hm (.inl rfl) ?_
  simp [h0, h1]
  refine callW_of (rMade_c hC zh zl) (.inl rfl) ?_
  simp
set_option maxHeartbeats 2000000 in
theorem rDiv_c (x b : Nat) (hx : x < 340282366920938463463374607431768211456) (hb0 : 0 < b) (hb : b < 9223372036854775808) : C 82 [.agg [.int .u64 ((x / 18446744073709551616 : Nat) : Int), .int .u64 ((x % 18446744073709551616 : Nat) : Int)], .agg [.int .u64 0, .int .u64 b]]
    (.tup [.agg [.int .u64 ((x / b / 18446744073709551616 : Nat) : Int), .int .u64 ((x / b % 18446744073709551616 : Nat) : Int)], .agg [.int .u64 0, .int .u64 ((x % b : Nat) : Int)]]) [] := by
  obtain ⟨xh, hxh⟩ : ∃ xh, xh = x / 18446744073709551616 := ⟨_, rfl⟩
  obtain ⟨xl, hxl⟩ : ∃ xl, xl = x % 18446744073709551616 := ⟨_, rfl⟩
  obtain ⟨yh, hyh⟩ : ∃ yh, yh = x / b / 18446744073709551616 := ⟨_, rfl⟩
  obtain ⟨yl, hyl⟩ : ∃ yl, yl = x / b % 18446744073709551616 := ⟨_, rfl⟩
  obtain ⟨z, hz⟩ : ∃ z, z = x % b := ⟨_, rfl⟩
  rw [← hxh, ← hxl, ← hyh, ← hyl, ← hz]
  refine start hC (nf := N82_ref03_Div) rfl rfl ?_
  simp [N82_ref03_Div]
  refine loop_of (Nat × Nat × Nat × Nat × Nat × Nat) (fun s => [(2, .adr (.r 10032) 0 0), (3, .ptr [.int .u64 0, .int .u64 b]), (4, .adr (.r 10064) 0 0), (5, .adr (.r 10080) 0 0), (6, .adr (.r 10096) 0 0), (7, .adr (.r 10112) 0 0), (8, .int .i64 s.1),
      (10032, .blk 2 [[.int .u64 s.2.1, .int .u64 s.2.2.1]]), (10064, .blk 2 [[.int .u64 0, .int .u64 0]]), (10080, .blk 2 [[.int .u64 0, .int .u64 0]]), (10096, .blk 2 [[.int .u64 s.2.2.2.1, .int .u64 s.2.2.2.2.1]]), (10112, .blk 2 [[.int .u64 0, .int .u64 s.2.2.2.2.2]])])
    (fun s => s.2.2.1 < 18446744073709551616 ∧ s.2.2.2.2.1 < 18446744073709551616 ∧ DvS x b s.1 (s.2.1 * 18446744073709551616 + s.2.2.1) (s.2.2.2.1 * 18446744073709551616 + s.2.2.2.2.1) s.2.2.2.2.2) (fun s => 128 - s.1) (0, xh, xl, 0, 0, 0) ⟨by simp; omega, by simp, by omega, by simpa using hb0, x, by simp; omega, by simp; exact hx, by simp⟩ (by simp) ?_
  rintro ⟨i, ah, al, qh, ql, r⟩ ⟨hal, hql, hS⟩
  simp only at hal hql hS
  simp
  refine brB_of (fun c => ?_) (fun c => ?_) <;> simp at c <;> simp [c]
  · have hrb := hS.2.1
    have hw1 : IntKind.wrap .i64 ((i : Int) + 1) = ((i + 1 : Nat) : Int) := wrap_i64 (by omega) (by omega)
    obtain ⟨g1, g2, g3⟩ := hS.step (by omega) hb0
    obtain ⟨A, hA⟩ : ∃ A, A = ah * 18446744073709551616 + al := ⟨_, rfl⟩
    obtain ⟨Q, hQ⟩ : ∃ Q, Q = qh * 18446744073709551616 + ql := ⟨_, rfl⟩
    rw [← hA] at g1 g3
    rw [← hQ] at g2 g3
    obtain ⟨t, ht⟩ : ∃ t, t = ah / 9223372036854775808 := ⟨_, rfl⟩
    have ht2 : A / 170141183460469231731687303715884105728 = t := by omega
    rw [ht2] at g3
    obtain ⟨p, hp⟩ : ∃ p, p = 2 * A % 340282366920938463463374607431768211456 / 18446744073709551616 := ⟨_, rfl⟩
    obtain ⟨o, ho⟩ : ∃ o, o = 2 * A % 340282366920938463463374607431768211456 % 18446744073709551616 := ⟨_, rfl⟩
    have k1 := rShift_c hC ah al 0 t p o (by omega) (by omega) (by omega) (by omega) (by omega)
    have k2 := rShift_c hC 0 r t 0 0 (2 * r + t) (by omega) (by omega) (by omega) (by omega) (by omega)
    obtain ⟨u, hu⟩ : ∃ u, u = 2 * Q / 18446744073709551616 := ⟨_, rfl⟩
    obtain ⟨v, hv⟩ : ∃ v, v = 2 * Q % 18446744073709551616 := ⟨_, rfl⟩
    have k3 := rShift_c hC qh ql 0 0 u v (by omega) (by omega) (by omega) (by omega) (by omega)
    obtain ⟨r2, hr2⟩ : ∃ r2, r2 = 2 * r + t := ⟨_, rfl⟩
    rw [← hr2] at k2 g3
    have k4 := rLess_c hC 0 r2 0 b
    simp only [Int.natCast_zero] at k1 k2 k3 k4
    have hsh : Int.fdiv (ah : Int) (2 ^ min 63 IntKind.u64.bits) = (t : Int) := by rw [shr63, ht]
    have hsh0 : Int.fdiv 0 (2 ^ min 63 IntKind.u64.bits) = 0 := by simpa using shr63 0
    have e1 : p * 18446744073709551616 + o = 2 * A % 340282366920938463463374607431768211456 := by rw [hp, ho]; exact Nat.div_add_mod' _ _
    have e2 : u * 18446744073709551616 + v = 2 * Q := by rw [hu, hv]; exact Nat.div_add_mod' _ _
    simp [hsh]
    refine callW_of k1 (.inl rfl) ?_
    simp [hsh0]
    refine callW_of k2 (.inl rfl) ?_
    simp
    refine callW_of k3 (.inl rfl) ?_
    simp
    refine callW_of k4 (.inl rfl) ?_
    simp
    refine brB_of (fun d => ?_) (fun d => ?_) <;> simp at d <;> simp [d, hw1]
    · obtain ⟨r3, hr3⟩ : ∃ r3, r3 = r2 - b := ⟨_, rfl⟩
      have k5 := rMinus_c hC 0 r2 0 b 0 r3 (by omega) (by omega) (by omega) (by omega) (by clear g3 hp ho hu hv g1 g2 hx k1 k2 k3 k4 e1 e2; omega)
      simp only [Int.natCast_zero] at k5
      obtain ⟨m1, m2⟩ := g3 1 r3 (2 * A % 340282366920938463463374607431768211456) (by omega) (by omega) rfl
      have hve : v % 2 = 0 ∧ v < 18446744073709551616 := by
        clear g3 m1 m2 k1 k2 k3 k4 k5 hS e1 e2 hp ho g1 hA
        omega
      have hv1 : IntKind.u64.wrap ((v : Int) + 1) = ((v + 1 : Nat) : Int) := uw (.inl (by push_cast; rfl)) (by clear g3 m1 m2 hp ho hu hv; omega)
      refine callW_of k5 (.inl rfl) ?_
      simp [hv1, hw1]
      refine ⟨i + 1, p, o, u, v + 1, r3, ⟨by clear g3 m1 m2 hu hv; omega, by clear g3 m1 m2 hp ho hu hv; omega, ?_⟩, by omega, ?_⟩
      · rw [e1, ← Nat.add_assoc, e2]; exact m1
      · simp
    · obtain ⟨m1, m2⟩ := g3 0 r2 (2 * A % 340282366920938463463374607431768211456) (by omega) (by omega) rfl
      refine ⟨i + 1, p, o, u, v, r2, ⟨by omega, by omega, ?_⟩, by omega, ?_⟩
      · rw [e1, e2]; exact m1
      · simp
  · obtain rfl : i = 128 := by have := hS.1; omega
    obtain ⟨e1, e2⟩ := hS.last
    refine ⟨indW_of (by decide +kernel), ?_⟩
    rw [← hz] at e2
    subst e2
    obtain ⟨Y, hY⟩ : ∃ Y, Y = x / b := ⟨_, rfl⟩
    rw [← hY] at e1 hyh hyl
    have e3 : qh = yh := by omega
    have e4 : ql = yl := by omega
    subst e3 e4
    simp
end Go.Gv

set_option linter.unusedSimpArgs false
namespace Go.Gv

theorem rootF_lt : ∀ (i x r : Nat), r + 2 ^ i ≤ 9223372036854775808 → rootF x i r < 9223372036854775808
  | 0, x, r, h => by simp only [rootF]; simp at h; omega
  | i + 1, x, r, h => by
    rw [rootF_step]
    have := Nat.two_pow_pos i
    rw [Nat.pow_succ] at h
    split <;> exact rootF_lt i x _ (by omega)
theorem rootN_lt (x : Nat) : rootN x < 9223372036854775808 := rootF_lt 63 x 0 (by decide)

variable {C : CC} (hC : Closed prog C)
include hC
theorem rDown_c (x b : Nat) (hx : x < 340282366920938463463374607431768211456) (hb0 : 0 < b) (hb : b < 9223372036854775808) : C 66 [.agg [.int .u64 ((x / 18446744073709551616 : Nat) : Int), .int .u64 ((x % 18446744073709551616 : Nat) : Int), .bool false], .agg [.int .u64 0, .int .u64 b, .bool false]]
    (.agg [.int .u64 ((x / b / 18446744073709551616 : Nat) : Int), .int .u64 ((x / b % 18446744073709551616 : Nat) : Int), .bool false]) [] := by
  have hd := rDiv_c hC x b hx hb0 hb
  obtain ⟨xh, hxh⟩ : ∃ xh, xh = x / 18446744073709551616 := ⟨_, rfl⟩
  obtain ⟨xl, hxl⟩ : ∃ xl, xl = x % 18446744073709551616 := ⟨_, rfl⟩
  obtain ⟨yh, hyh⟩ : ∃ yh, yh = x / b / 18446744073709551616 := ⟨_, rfl⟩
  obtain ⟨yl, hyl⟩ : ∃ yl, yl = x / b % 18446744073709551616 := ⟨_, rfl⟩
  obtain ⟨z, hz⟩ : ∃ z, z = x % b := ⟨_, rfl⟩
  rw [← hxh, ← hxl, ← hyh, ← hyl, ← hz] at hd
  rw [← hxh, ← hxl, ← hyh, ← hyl]
  refine start hC (nf := N66_ref03_Down) rfl rfl ?_
  simp [N66_ref03_Down]
  refine callW_of hd (.inr rfl) ?_
  simp
  refine callW_of (rMade_c hC yh yl) (.inl rfl) ?_
  simp
theorem rRoot_c (x : Nat) : C 69 [.agg [.int .u64 ((x / 18446744073709551616 : Nat) : Int), .int .u64 ((x % 18446744073709551616 : Nat) : Int)]] (.int .u64 (rootN x)) [] := by
  obtain ⟨h, hh⟩ : ∃ h, h = x / 18446744073709551616 := ⟨_, rfl⟩
  obtain ⟨l, hl⟩ : ∃ l, l = x % 18446744073709551616 := ⟨_, rfl⟩
  rw [← hh, ← hl]
  obtain ⟨N, hN⟩ : ∃ N, N = rootN x := ⟨_, rfl⟩
  rw [← hN]
  refine start hC (nf := N69_ref03_Root) rfl rfl ?_
  simp [N69_ref03_Root]
  refine loop_of (Nat × Nat) (fun s => [(1, .ptr [.int .u64 (h : Int), .int .u64 (l : Int)]), (3, .int .u64 s.2), (4, .int .i64 ((63 - s.1 : Nat) : Int))])
    (fun s => s.1 ≤ 63 ∧ s.2 + 2 ^ s.1 ≤ 9223372036854775808 ∧ rootF x s.1 s.2 = N) (fun s => s.1) (63, 0) ⟨by omega, by decide, by rw [hN]; rfl⟩ (by simp) ?_
  rintro ⟨i, r⟩ ⟨h1, h2, h3⟩
  simp only at h1 h2 h3
  simp
  refine brB_of (fun c => ?_) (fun c => ?_) <;> simp at c <;> simp [c]
  · obtain ⟨j, rfl⟩ : ∃ j, i = j + 1 := ⟨i - 1, by omega⟩
    have e62 : IntKind.i64.wrap (62 - ((62 - j : Nat) : Int)) = (j : Int) := wrap_i64 (by omega) (by omega)
    have ej : IntKind.u64.wrap (j : Int) = (j : Int) := wrapN j (by omega)
    have hw : IntKind.wrap .i64 (((62 - j : Nat) : Int) + 1) = ((63 - j : Nat) : Int) := wrap_i64 (by omega) (by omega)
    obtain ⟨V, hV⟩ : ∃ V, V = 2 ^ j := ⟨_, rfl⟩
    have hV2 : 2 ^ (j + 1) = 2 * V := by rw [Nat.pow_succ, hV]; omega
    rw [hV2] at h2
    have hVp : 0 < V := by rw [hV]; exact Nat.two_pow_pos j
    have hmin : min j IntKind.u64.bits = j := Nat.min_eq_left (by show j ≤ 64; omega)
    have esh : IntKind.u64.wrap (2 ^ j) = (V : Int) := by
      have : (2 : Int) ^ j = ((2 ^ j : Nat) : Int) := by push_cast; rfl
      rw [this, ← hV]; exact wrapN V (by omega)
    obtain ⟨y, hy⟩ : ∃ y, y = r + V := ⟨_, rfl⟩
    have ey : IntKind.u64.wrap ((r : Int) + (V : Int)) = (y : Int) := uw (.inl (by omega)) (by omega)
    have hm := rMul_c hC y y (by omega) (by omega)
    rw [wideD] at hm
    obtain ⟨Z, hZ⟩ : ∃ Z, Z = y * y := ⟨_, rfl⟩
    obtain ⟨zh, hzh⟩ : ∃ zh, zh = Z / 18446744073709551616 := ⟨_, rfl⟩
    obtain ⟨zl, hzl⟩ : ∃ zl, zl = Z % 18446744073709551616 := ⟨_, rfl⟩
    rw [← hZ, ← hzh, ← hzl] at hm
    have hls := rLess_c hC h l zh zl
    have hcmp : (h < zh ∨ (h = zh ∧ l < zl)) ↔ x < Z := by
      rw [hh, hl, hzh, hzl]; omega
    have hdc : decide (h < zh ∨ (h = zh ∧ l < zl)) = decide (x < Z) := decide_eq_decide.2 hcmp
    rw [hdc] at hls
    rw [rootF_step, ← hV, ← hy, ← hZ] at h3
    simp [e62, ej, hmin, esh, ey]
    refine callW_of hm (.inl rfl) ?_
    simp
    refine callW_of hls (.inl rfl) ?_
    simp
    refine ⟨indW_of (by decide +kernel), ?_⟩
    by_cases d : x < Z
    · simp [d, hw]
      rw [if_neg (show ¬ Z ≤ x by omega)] at h3
      exact ⟨j, r, ⟨by omega, by rw [← hV]; omega, h3⟩, by omega, rfl, rfl⟩
    · simp [d, hw]
      rw [if_pos (show Z ≤ x by omega)] at h3
      exact ⟨j, y, ⟨by omega, by rw [← hV]; omega, h3⟩, by omega, rfl, rfl⟩
  · obtain rfl : i = 0 := by omega
    have h4 : r = N := h3
    rw [h4]
theorem rRoot3_c (a b n : Nat) (ha : a < 9223372036854775808) (hb : b < 9223372036854775808) (hn : 0 < n) (hn2 : n < 9223372036854775808) : C 57 [.int .i64 a, .int .i64 b, .int .i64 n] (.int .i64 (rootN (a * b / n))) [] := by
  have hab : a * b < 340282366920938463463374607431768211456 := by
    have : a * b ≤ 9223372036854775808 * 9223372036854775808 := Nat.mul_le_mul (by omega) (by omega)
    omega
  have h1 := rTimes_c hC a b ha hb
  have h2 := rDown_c hC (a * b) n hab hn hn2
  have h3 := rRoot_c hC (a * b / n)
  have h4 := rootN_lt (a * b / n)
  obtain ⟨P, hP⟩ : ∃ P, P = a * b := ⟨_, rfl⟩
  rw [← hP] at h1 h2 h3 h4 ⊢
  obtain ⟨p, hp⟩ : ∃ p, p = P / 18446744073709551616 := ⟨_, rfl⟩
  obtain ⟨q, hq⟩ : ∃ q, q = P % 18446744073709551616 := ⟨_, rfl⟩
  rw [← hp, ← hq] at h1 h2
  obtain ⟨Q, hQ⟩ : ∃ Q, Q = P / n := ⟨_, rfl⟩
  rw [← hQ] at h2 h3 h4 ⊢
  obtain ⟨u, hu⟩ : ∃ u, u = Q / 18446744073709551616 := ⟨_, rfl⟩
  obtain ⟨v, hv⟩ : ∃ v, v = Q % 18446744073709551616 := ⟨_, rfl⟩
  rw [← hu, ← hv] at h2 h3
  obtain ⟨N, hN⟩ : ∃ N, N = rootN Q := ⟨_, rfl⟩
  rw [← hN] at h3 h4 ⊢
  refine start hC (nf := N57_ref28_Root) rfl rfl ?_
  have hw : IntKind.i64.wrap (N : Int) = (N : Int) := wrap_i64 rfl (by omega)
  simp [N57_ref28_Root]
  refine callW_of h1 (.inl rfl) ?_
  simp
  refine callW_of (rOfInt_c hC n hn2) (.inl rfl) ?_
  simp
  refine callW_of h2 (.inl rfl) ?_
  simp
  refine callW_of h3 (.inl rfl) ?_
  simp [hw]
end Go.Gv

set_option linter.unusedSimpArgs false
namespace Go.Gv

theorem table_asc {t : List (Int × Int)} (h : tableValid t = true) : ∀ k i, i + k < t.length → t[i]!.1 ≤ t[i + k]!.1
  | 0, i, _ => Int.le_refl _
  | k + 1, i, hk => by
    have h1 := table_asc h k i (by omega)
    simp only [tableValid, Bool.and_eq_true, List.all_eq_true, List.mem_range] at h
    have h2 := h.2 (i + (k + 1)) hk
    simp only [okAt, Bool.and_eq_true, Bool.or_eq_true, beq_iff_eq, decide_eq_true_eq] at h2
    have e : i + (k + 1) - 1 = i + k := by omega
    rw [e] at h2
    rcases h2.2 with h3 | h3 <;> omega
theorem table_last {t : List (Int × Int)} (h : tableValid t = true) {i : Nat} (hi : i < t.length) : t[i].1 ≤ (lastK t).1 := by
  have := table_asc h (t.length - 1 - i) i (by omega)
  rw [show i + (t.length - 1 - i) = t.length - 1 by omega, getElem!_pos t i hi] at this
  exact this

variable {C : CC} (hC : Closed prog C)
include hC
theorem rbefore_c (b : Bool) (t : List (Int × Int)) (x : Int) (hl : t.length < 2 ^ 62) (h : ∀ (i : Nat) (h : i < t.length), t[i].1 ≤ x) : C 80 [slx b (t.map knD), .int .i64 x] (.int .i64 ((t.length : Int) - 1)) [] := by
  refine start hC (nf := N80_ref06_before) rfl rfl ?_
  simp [N80_ref06_before]
  refine loop_of Nat (fun i => [(0, slx b (t.map knD)), (1, .int .i64 x), (5, .int .i64 ((i : Int) - 1)), (6, .int .i64 i)]) (fun i => i ≤ t.length) (fun i => t.length - i) 0 (by simp) (by simp) ?_
  rintro i hi
  simp
  refine brB_of (fun h1 => ?_) (fun h1 => ?_) <;> simp at h1 <;> simp [h1]
  · have hw : IntKind.wrap .i64 ((i : Int) + 1) = ((i + 1 : Nat) : Int) := wrap_i64 (by omega) (by omega)
    have hx := h i h1
    simp [h1, knD, hx, hw]
    exact ⟨i + 1, by omega, by omega, by omega, by omega⟩
  · omega
theorem rValue_c (b : Bool) (t : List (Int × Int)) (ht : tableValid t = true) : C 65 [slx b (t.map knD), .int .i64 (lastK t).1] (.tup [.int .i64 (lastK t).2, .int .i64 0, .int .i64 1]) [] := by
  obtain ⟨l1, l2⟩ := valid_len ht
  obtain ⟨n, hn⟩ : ∃ n, n + 1 = t.length := ⟨t.length - 1, by omega⟩
  have hb := rbefore_c hC b t (lastK t).1 (by omega) (fun i h => table_last ht h)
  have hln := lastK_get hn
  have e : (t.length : Int) - 1 = (n : Int) := by omega
  have hw : IntKind.i64.wrap ((t.length : Int) - 1) = (n : Int) := wrap_i64 (by omega) (by omega)
  rw [e] at hb
  have hnl : n < t.length := by omega
  have h0 : ¬ (n : Int) < 0 := by omega
  refine start hC (nf := N65_ref06_Value) rfl rfl ?_
  simp [N65_ref06_Value]
  refine callW_of hb (.inl rfl) ?_
  simp [h0, hw, hnl, knD, hln]
theorem rFloor_c (b : Bool) (t : List (Int × Int)) (ht : tableValid t = true) : C 56 [slx b (t.map knD), .int .i64 (lastK t).1] (.int .i64 (lastK t).2) [] := by
  refine start hC (nf := N56_ref06_Floor) rfl rfl ?_
  simp [N56_ref06_Floor]
  refine callW_of (rValue_c hC b t ht) (.inl rfl) ?_
  simp
theorem rCarried_c (s : Sec) (fall len : Int) (hs : secValid s = true) (hsl : slopeOk fall len = true) : C 50 [.agg (secC s), .int .i64 s.height, .int .i64 fall, .int .i64 len] (.int .i64 (capN s fall len)) [] := by
  obtain ⟨h1, h2, h3, h4⟩ := conv_last hs
  have hf := rFloor_c hC s.convN s.conv h1
  rw [h2] at hf
  obtain ⟨y, hy⟩ : ∃ y : Nat, (lastK s.conv).2 = (y : Int) := ⟨(lastK s.conv).2.toNat, by omega⟩
  simp only [slopeOk, Bool.and_eq_true, decide_eq_true_eq] at hsl
  obtain ⟨f, rfl⟩ : ∃ f : Nat, fall = (f : Int) := ⟨fall.toNat, by omega⟩
  obtain ⟨n, rfl⟩ : ∃ n : Nat, len = (n : Int) := ⟨len.toNat, by omega⟩
  rw [capN, hy, Int.toNat_natCast, Int.toNat_natCast, Int.toNat_natCast, Nat.mul_assoc]
  rw [hy] at hf h3 h4
  have hyf : y * f ≤ 1099511627776 * 4194304 := Nat.mul_le_mul (by omega) (by omega)
  have hr := rRoot3_c hC y (y * f) n (by omega) (by omega) (by omega) (by omega)
  have hw : IntKind.i64.wrap ((y : Int) * (f : Int)) = ((y * f : Nat) : Int) := wrap_i64 (by push_cast; rfl) (by omega)
  obtain ⟨N, hN⟩ : ∃ N, N = rootN (y * (y * f) / n) := ⟨_, rfl⟩
  rw [← hN] at hr ⊢
  obtain ⟨g, hg⟩ : ∃ g, g = y * f := ⟨_, rfl⟩
  rw [← hg] at hr hw
  refine start hC (nf := N50_ref28_Carried) rfl rfl ?_
  simp [N50_ref28_Carried, secC]
  refine callW_of hf (.inl rfl) ?_
  simp [hw]
  refine callW_of hr (.inl rfl) ?_
  simp
theorem rPossible_c (j : Job) (hv : jobValid j = true) (i s : Nat) (hi : i < j.below.l.length) (hs : s < j.secs.length) : C 36 [.agg (jobC j), .int .i64 i, .int .i64 s] (.bool (possAt j i s)) [] := by
  have hlen : j.lengths.l.length = j.below.l.length ∧ j.flows.l.length = j.below.l.length ∧ j.falls.l.length = j.below.l.length ∧ j.room.l.length = j.below.l.length := by
    simp only [jobValid, Bool.and_eq_true, decide_eq_true_eq] at hv; omega
  have g1 : i < j.lengths.l.length := by omega
  have g2 : i < j.flows.l.length := by omega
  have g3 : i < j.falls.l.length := by omega
  have g4 : i < j.room.l.length := by omega
  have hsv : secValid j.secs[s] = true := by
    have hv' := hv
    simp only [jobValid, catValid, Bool.and_eq_true, List.all_eq_true] at hv'
    exact hv'.1.2.1.2 _ (List.getElem_mem hs)
  have hsl : slopeOk j.falls.l[i] j.lengths.l[i] = true := by
    have hv' := hv
    simp only [jobValid, Bool.and_eq_true, List.all_eq_true, List.mem_range] at hv'
    have := hv'.2 i hi
    simp only [pipeOk, inRq, Bool.and_eq_true, decide_eq_true_eq, getElem!_pos j.falls.l i g3, getElem!_pos j.lengths.l i g1] at this
    simp only [slopeOk, Bool.and_eq_true, decide_eq_true_eq]
    omega
  have hc := rCarried_c hC j.secs[s] j.falls.l[i] j.lengths.l[i] hsv hsl
  rw [poss_eq hv hi hs, getElem!_pos j.secs s hs, getElem!_pos j.room.l i g4, getElem!_pos j.flows.l i g2, getElem!_pos j.falls.l i g3, getElem!_pos j.lengths.l i g1]
  obtain ⟨q, hq⟩ : ∃ q, q = capN j.secs[s] j.falls.l[i] j.lengths.l[i] := ⟨_, rfl⟩
  rw [← hq] at hc ⊢
  refine start hC (nf := N36_ref47_Possible) rfl rfl ?_
  simp [N36_ref47_Possible, jobC_eq, hs, g4, secC_eq]
  simp [secC_eq] at hc
  by_cases h1 : j.secs[s].height ≤ j.room.l[i]
  · simp [h1, g1, g2, g3, secC_eq]
    refine callW_of hc (.inl rfl) ?_
    simp [g1, g2, g3]
    exact ⟨indW_of (by decide +kernel), fun _ => h1⟩
  · simp [h1]
    exact indW_of (by decide +kernel)
end Go.Gv

set_option linter.unusedSimpArgs false
set_option maxRecDepth 4000
namespace Go.Gv
def digE (n : Nat) : UInt8 := UInt8.ofNat (48 + n % 10)
def dcE (n : Nat) (out : List UInt8) : List UInt8 := if n < 10 then digE n :: out else dcE (n / 10) (digE n :: out)
def dcR (n : Nat) (out : List UInt8) : List UInt8 := if n = 0 then out else dcE n out
theorem dcE_step (n : Nat) (out : List UInt8) : dcE n out = dcR (n / 10) (digE n :: out) := by
  rw [dcE, dcR]
  by_cases h : n < 10
  · rw [if_pos h, if_pos (by omega)]
  · rw [if_neg h, if_neg (by omega)]
def lowK (j : Job) (ch : List Int) (i s k : Nat) : Bool := decide (j.below.l[k]! = (i : Int)) && decide (j.secs[s]!.height < j.secs[secAt j ch k]!.height)
theorem lowS_lt {j : Job} (hv : jobValid j = true) {i : Nat} (hi : i ≤ j.below.l.length) (ch : List Int) (s : Nat) : lowS j ch i s = (List.range i).any (lowK j ch i s) := by
  unfold lowS
  rw [Bool.eq_iff_iff, List.any_eq_true, List.any_eq_true]
  constructor
  · rintro ⟨a, ha, h⟩
    refine ⟨a, List.mem_range.2 (above_less hv ha), ?_⟩
    simp only [aboveF, List.mem_filter, decide_eq_true_eq] at ha
    unfold lowK
    rw [decide_eq_true ha.2, Bool.true_and]; exact h
  · rintro ⟨a, ha, h⟩
    rw [List.mem_range] at ha
    unfold lowK at h
    rw [Bool.and_eq_true, decide_eq_true_eq] at h
    exact ⟨a, by simp only [aboveF, List.mem_filter, List.mem_range, decide_eq_true_eq]; exact ⟨by omega, h.1⟩, h.2⟩
/-- What is found of a pipe up to a section. -/
def cheapS (j : Job) (ch : List Int) (i s : Nat) : Bool := !decide (j.secs[secAt j ch i]!.price ≤ j.secs[s]!.price)
def fstS (j : Job) (ch : List Int) (i s : Nat) : Bool := cheapS j ch i s && (!lowS j ch i s && !highS j ch i s && !possAt j i s)
def sndS (j : Job) (ch : List Int) (i s : Nat) : Bool := cheapS j ch i s && (lowS j ch i s && possAt j i s)
def fstU (j : Job) (ch : List Int) (i : Nat) : Nat → Bool
  | 0 => false
  | s + 1 => fstU j ch i s || fstS j ch i s
def sndU (j : Job) (ch : List Int) (i : Nat) : Nat → Bool
  | 0 => false
  | s + 1 => sndU j ch i s || sndS j ch i s
theorem kind_eq (j : Job) (ch : List Int) (i : Nat) : ∀ s, kindUp j ch i s = if fstU j ch i s = true then 1 else if sndU j ch i s = true then 2 else 0
  | 0 => by simp [kindUp, fstU, sndU]
  | s + 1 => by
    have ih := kind_eq j ch i s
    simp only [kindUp, stepK, fstU, sndU, fstS, sndS, cheapS, ih]
    by_cases c1 : j.secs[secAt j ch i]!.price ≤ j.secs[s]!.price
    · simp only [if_pos c1, decide_eq_true c1, Bool.not_true, Bool.false_and, Bool.or_false]
    · simp only [if_neg c1, decide_eq_false c1, Bool.not_false, Bool.true_and]
      generalize lowS j ch i s = a
      generalize highS j ch i s = b
      generalize possAt j i s = c
      generalize fstU j ch i s = d
      generalize sndU j ch i s = e
      cases a <;> cases b <;> cases c <;> cases d <;> cases e <;> simp
variable {C : CC} (hC : Closed prog C)
include hC
theorem rSizesE_c (j : Job) (b : Bool) (ch : List Int) (hv : jobValid j = true) (hl : ch.length < 2 ^ 62) : C 144 [.agg (jobC j), slx b (ch.map fun n => [.int .i64 n])] (.int .i64 (choiceF j ch)) [] := by
  have hjs : j.secs.length ≤ 40 := by simp only [jobValid, catValid, Bool.and_eq_true, decide_eq_true_eq] at hv; omega
  have k := ranges_c hC b ch 0 ((j.secs.length : Int) - 1) hl
  have hw : IntKind.wrap .i64 ((j.secs.length : Int) - 1) = (j.secs.length : Int) - 1 := wrap_i64 rfl (by omega)
  have he : (ch.all fun n => inRq n 0 ((j.secs.length : Int) - 1)) = !ch.any (outS1 j) := by
    rw [List.not_any_eq_all_not]
    congr 1
    funext n
    rw [Bool.eq_iff_iff]
    simp [inRq, outS1]
    omega
  rw [he, ← hw] at k
  refine start hC (nf := N144_ref47_Sizes) rfl rfl ?_
  simp [N144_ref47_Sizes, jobC_eq, hw]
  refine brB_of (fun h1 => ?_) (fun h1 => ?_) <;> simp at h1 <;> simp [h1]
  · rw [choiceF, if_neg (by rw [hv]; simp), if_pos (by omega)]
  refine callW_of k (.inl rfl) ?_
  cases h2 : ch.any (outS1 j)
  · simp [choiceF, hv, h2]; omega
  · simp [choiceF, hv, h2]; omega
theorem rlower_c (j : Job) (b : Bool) (ch : List Int) (hc : choiceF j ch = 0) (i s : Nat) (hi : i < j.below.l.length) (hsl : s < j.secs.length) : C 149 [.agg (jobC j), slx b (ch.map fun n => [.int .i64 n]), .int .i64 i, .int .i64 s] (.bool (lowS j ch i s)) [] := by
  obtain ⟨hv, hl, hs⟩ := choice_ok hc
  have hm := (valid_facts hv).1
  obtain ⟨r, hr⟩ : ∃ r, r = lowS j ch i s := ⟨_, rfl⟩
  have hr' := hr
  rw [lowS_lt hv (by omega)] at hr'
  rw [← hr]
  refine start hC (nf := N149_ref47_lower) rfl rfl ?_
  simp [N149_ref47_lower, jobC_eq]
  refine loop_of Nat (fun k => [(1, slx b (ch.map fun n => [.int .i64 n])), (2, .int .i64 i), (3, .int .i64 s), (4, .ptr (jobC j)), (9, .int .i64 k)]) (fun k => k ≤ i ∧ ∀ q, q < k → lowK j ch i s q = false) (fun k => i - k) 0 (by simp) (by simp [jobC_eq]) ?_
  rintro k ⟨hk, hq⟩
  simp
  refine brB_of (fun h => ?_) (fun h => ?_) <;> simp at h <;> simp [h]
  · have hk' : k < j.below.l.length := by omega
    have hkc : k < ch.length := by omega
    obtain ⟨t, e1, e2, e3⟩ := hs k hk'
    rw [getElem!_pos ch k hkc] at e1
    have hw : IntKind.wrap .i64 ((k : Int) + 1) = ((k + 1 : Nat) : Int) := wrap_i64 (by omega) (by omega)
    have hK : lowK j ch i s k = (decide (j.below.l[k] = (i : Int)) && decide (j.secs[s].height < j.secs[t].height)) := by
      unfold lowK
      rw [e3, getElem!_pos _ k hk', getElem!_pos _ s hsl, getElem!_pos _ t e2]
    have found : lowK j ch i s k = true → r = true := fun h2 => by
      rw [hr', List.any_eq_true]
      exact ⟨k, List.mem_range.2 h, h2⟩
    have step : lowK j ch i s k = false → ∀ q, q < k + 1 → lowK j ch i s q = false := fun h2 q hqq => by
      rcases Nat.lt_succ_iff_lt_or_eq.1 hqq with h3 | rfl
      · exact hq q h3
      · exact h2
    by_cases c1 : j.below.l[k] = (i : Int)
    · by_cases c2 : j.secs[s].height < j.secs[t].height
      · have hf := found (by rw [hK, c1]; simp [c2])
        simp [jobC_eq, hk', c1, hkc, e1, e2, hsl, secC_eq, c2, hf]
        exact indW_of (by decide +kernel)
      · have hf := step (by rw [hK, c1]; simp [Int.not_lt.1 c2])
        simp [jobC_eq, hk', c1, hkc, e1, e2, hsl, secC_eq, c2, hw]
        exact ⟨indW_of (by decide +kernel), k + 1, ⟨by omega, hf⟩, by omega, rfl⟩
    · have hf := step (by rw [hK]; simp [c1])
      simp [jobC_eq, hk', c1, hw]
      exact ⟨indW_of (by decide +kernel), k + 1, ⟨by omega, hf⟩, by omega, rfl⟩
  · have : k = i := by omega
    subst this
    rw [hr', List.any_eq_false]
    intro q hqq
    rw [hq q (by simpa using hqq)]; simp
theorem rAllowed_c (j : Job) (b : Bool) (ch : List Int) (hc : choiceF j ch = 0) : C 145 [.agg (jobC j), slx b (ch.map fun n => [.int .i64 n])] (.int .i64 (allowedF j ch).2.1) [] := by
  obtain ⟨hv, hl, hs⟩ := choice_ok hc
  have hm := (valid_facts hv).1
  obtain ⟨r, hr⟩ : ∃ r, r = (allowedF j ch).2.1 := ⟨_, rfl⟩
  rw [← hr]
  refine start hC (nf := N145_ref47_Allowed) rfl rfl ?_
  simp [N145_ref47_Allowed, jobC_eq]
  refine loop_of Nat (fun i => [(1, slx b (ch.map fun n => [.int .i64 n])), (2, .ptr (jobC j)), (5, .int .i64 i)]) (fun i => i ≤ ch.length ∧ ∀ q, q < i → badA j ch q = false) (fun i => ch.length - i) 0 (by simp) (by simp [jobC_eq]) ?_
  rintro i ⟨hi, hq⟩
  simp
  refine brB_of (fun h => ?_) (fun h => ?_) <;> simp at h <;> simp [h]
  · have hi' : i < j.below.l.length := by omega
    obtain ⟨t, e1, e2, e3⟩ := hs i hi'
    rw [getElem!_pos ch i h] at e1
    have hw : IntKind.wrap .i64 ((i : Int) + 1) = ((i + 1 : Nat) : Int) := wrap_i64 (by omega) (by omega)
    have k1 := rPossible_c hC j hv i t hi' e2
    have k2 := rlower_c hC j b ch hc i t hi' e2
    simp only [jobC_eq] at k1 k2
    have hB : badA j ch i = (!possAt j i t || lowS j ch i t) := by
      unfold badA lowS upper
      rw [e3]
    have found : badA j ch i = true → r = i := fun h2 => by
      rw [hr, allowed_some hc hi' hq h2]
    have step : badA j ch i = false → ∀ q, q < i + 1 → badA j ch q = false := fun h2 q hqq => by
      rcases Nat.lt_succ_iff_lt_or_eq.1 hqq with h3 | rfl
      · exact hq q h3
      · exact h2
    simp [jobC_eq, h, e1]
    refine callW_of k1 (.inl rfl) ?_
    cases c1 : possAt j i t
    · have hf := found (by rw [hB, c1]; rfl)
      simp [hf]
      exact indW_of (by decide +kernel)
    · simp [h, e1, jobC_eq]
      refine callW_of k2 (.inl rfl) ?_
      cases c2 : lowS j ch i t
      · have hf := step (by rw [hB, c1, c2]; rfl)
        simp [hw]
        exact ⟨indW_of (by decide +kernel), i + 1, ⟨by omega, hf⟩, by omega, by simp [jobC_eq]⟩
      · have hf := found (by rw [hB, c1, c2]; rfl)
        simp [hf]
        exact indW_of (by decide +kernel)
  · have : i = ch.length := by omega
    subst this
    rw [hr, allowed_none hc (fun k hk => hq k (by omega))]
theorem rCost_c (j : Job) (b : Bool) (ch : List Int) (hc : choiceF j ch = 0) : C 146 [.agg (jobC j), slx b (ch.map fun n => [.int .i64 n])] (.int .i64 (costC j ch)) [] := by
  obtain ⟨hv, hlen, hs⟩ := choice_ok hc
  have hf := valid_facts hv
  have hbd := fun i hi => ownC_bd (i := i) (s := secAt j ch i) hv hi (by obtain ⟨s, _, e2, e3⟩ := hs i hi; omega)
  refine start hC (nf := N146_ref47_Cost) rfl rfl ?_
  simp [N146_ref47_Cost, jobC_eq]
  refine loop_of Nat (fun i => [(1, slx b (ch.map fun n => [.int .i64 n])), (2, .ptr (jobC j)), (5, .int .i64 (S (fun i => ownC j i (secAt j ch i)) i)), (6, .int .i64 i)])
    (fun i => i ≤ ch.length) (fun i => ch.length - i) 0 (by simp) (by simp [jobC_eq, S]) ?_
  rintro i hi
  simp
  refine brB_of (fun h1 => ?_) (fun h1 => ?_) <;> simp at h1 <;> simp [h1]
  · have hi' : i < j.below.l.length := by omega
    have hi2 : i < j.lengths.l.length := by omega
    obtain ⟨s, e1, e2, e3⟩ := hs i hi'
    rw [getElem!_pos ch i h1] at e1
    have hw : IntKind.wrap .i64 ((i : Int) + 1) = ((i + 1 : Nat) : Int) := wrap_i64 (by omega) (by omega)
    have hown := hbd i hi'
    have hsum := S_bd (g := fun i => ownC j i (secAt j ch i)) (b := B) i (fun a ha => hbd a (by omega))
    have hB2 : (i : Int) * B ≤ 400 * B := Int.mul_le_mul_of_nonneg_right (by omega) (by rw [B_eq]; omega)
    rw [B_eq] at hsum hown hB2
    rw [e3] at hown
    have eo : ownC j i s = j.lengths.l[i] * j.secs[s].price := by rw [ownC, getElem!_pos _ i hi2, getElem!_pos _ s e2]
    have hw1 : IntKind.wrap .i64 (j.lengths.l[i] * j.secs[s].price) = ownC j i s := by rw [← eo]; exact wrap_i64 rfl (by omega)
    have hw2 : IntKind.wrap .i64 (S (fun i => ownC j i (secAt j ch i)) i + ownC j i s) = S (fun i => ownC j i (secAt j ch i)) (i + 1) := by
      simp only [S, e3]
      exact wrap_i64 rfl (by omega)
    simp [h1, jobC_eq, hi2, e1, e2, secC_eq, hw1, hw2]
    refine ⟨indW_of (by decide +kernel), ?_⟩
    simp [hw]
    exact ⟨i + 1, by omega, by omega, by simp [jobC_eq]⟩
  · have : i = j.below.l.length := by omega
    subst this
    simp [costC]
theorem rdigits_c (n : Nat) (hn : n < 100) : C 151 [.int .i64 n, .int .i64 1] (.str (dcE n [])) [] := by
  refine start hC (nf := N151_ref01_digits) rfl rfl ?_
  simp [N151_ref01_digits]
  refine loop_of (Nat × List UInt8) (fun s => [(0, .int .i64 s.1), (1, .int .i64 1), (5, .str s.2)]) (fun s => s.1 + s.2.length ≤ n + 1 ∧ ((s.2 = [] ∧ s.1 = n) ∨ (s.2 ≠ [] ∧ dcR s.1 s.2 = dcE n []))) (fun s => s.1 + if s.2 = [] then 1 else 0) (n, []) (by simp) (by simp) ?_
  rintro ⟨k, out⟩ ⟨hl, hI⟩
  simp only at hl hI
  have ww : IntKind.wrap .i64 ((k : Int) / 10) = ((k / 10 : Nat) : Int) := wrap_i64 (by omega) (by omega)
  have wq : IntKind.wrap .i64 (48 + (k : Int) % 10) = 48 + (k : Int) % 10 := wrap_i64 rfl (by omega)
  have et : (k : Int).tmod 10 = (k : Int) % 10 := Int.tmod_eq_emod_of_nonneg (by omega)
  have wd : IntKind.u8.wrap (48 + (k : Int) % 10) = 48 + (k : Int) % 10 := by
    have e1 : IntKind.u8.signed = false := rfl
    have e3 : (2 ^ IntKind.u8.bits : Int) = 256 := rfl
    unfold IntKind.wrap
    simp only [e1, e3, Bool.false_and]
    simp
    omega
  have wdd : IntKind.u8.wrap (IntKind.wrap .i64 (48 + (k : Int).tmod 10)) = 48 + (k : Int) % 10 := by rw [et, wq, wd]
  have hda : (k : Int) / 10 = ((k / 10 : Nat) : Int) := by omega
  have wb : byteOf [.int .u8 (48 + (k : Int) % 10)] = digE k := by
    have : (48 + (k : Int) % 10).toNat = 48 + k % 10 := by omega
    simp only [byteOf, digE, this]
  have hstep : dcR (k / 10) (digE k :: out) = dcE n [] ∨ (k = 0 ∧ out ≠ []) := by
    rcases hI with ⟨rfl, rfl⟩ | ⟨h1, h2⟩
    · exact .inl (dcE_step _ _).symm
    · by_cases h : k = 0
      · exact .inr ⟨h, h1⟩
      · rw [dcR, if_neg h] at h2
        rw [← dcE_step, h2]
        exact .inl rfl
  by_cases hk : 0 < k
  · have h3 : dcR (k / 10) (digE k :: out) = dcE n [] := by
      rcases hstep with h | h
      · exact h
      · omega
    simp [hk, wdd, ww]
    refine ⟨⟨48 + k % 10, by omega, by omega⟩, by omega, k / 10, _, ⟨by simp; omega, .inr ⟨by simp, ?_⟩⟩, ?_, hda, rfl⟩
    · rw [wb]; exact h3
    · simp
      split <;> omega
  · have h0 : k = 0 := by omega
    subst h0
    by_cases ho : out = []
    · subst ho
      simp at hstep
      have w48 : IntKind.u8.wrap (IntKind.wrap .i64 48) = 48 := by decide
      simp [w48]
      refine ⟨⟨48, rfl, by omega⟩, 0, _, ⟨by simp, .inr ⟨by simp, ?_⟩⟩, ⟨rfl, by simp⟩, by decide, rfl⟩
      have : byteOf [.int .u8 48] = digE 0 := by decide
      rw [this]
      exact hstep
    · rcases hI with ⟨h1, _⟩ | ⟨_, h2⟩
      · exact absurd h1 ho
      · rw [dcR, if_pos rfl] at h2
        rw [← h2]
        have hlen : 1 ≤ out.length := by
          cases out with
          | nil => exact absurd rfl ho
          | cons x r => simp
        simp [show ¬ (out.length : Int) < 1 by omega]
theorem rFormat_c (n : Nat) (hn : n < 100) : C 150 [.int .i64 n, .int .i64 0] (.str (dcE n [])) [] := by
  have k := rdigits_c hC n hn
  have n0 : ¬ (n : Int) < 0 := by omega
  have hl : (dcE n []).length ≤ 2 := by
    rw [dcE]
    split
    · simp
    · rw [dcE, if_pos (by omega)]; simp
  refine start hC (nf := N150_ref01_Format) rfl rfl ?_
  simp [N150_ref01_Format, n0]
  refine callW_of k (.inl rfl) ?_
  simp
  omega
end Go.Gv

set_option linter.unusedSimpArgs false
namespace Go.Gv
variable {C : CC} (hC : Closed prog C)
include hC
set_option maxHeartbeats 2000000 in
theorem Cost_c (j : Job) (b : Bool) (ch : List Int) (hl : ch.length < 2 ^ 62) : C 119 [.agg (jobC j), slx b (ch.map fun n => [.int .i64 n])] (.tup [.int .i64 (costF2 j ch).1, .int .i64 (costF2 j ch).2]) [] := by
  refine start hC (nf := N119_sizing_Cost) rfl rfl ?_
  simp [N119_sizing_Cost]
  have hcc := choice_c hC j b ch hl
  simp [jobC_eq]
  simp [jobC_eq] at hcc
  refine callW_of hcc (.inl rfl) ?_
  simp
  refine brB_of (fun h => ?_) (fun h => ?_) <;> simp at h <;> simp [h]
  case' refine_1 => simp [costF2, h]
  obtain ⟨hv, hlen, hs⟩ := choice_ok h
  have hf := valid_facts hv
  have hcost : costF2 j ch = (costC j ch, 0) := by rw [costF2, if_neg (by rw [h]; simp)]
  have hbd := fun i hi => ownC_bd (i := i) (s := secAt j ch i) hv hi (by obtain ⟨s, _, e2, e3⟩ := hs i hi; omega)
  rw [hcost]
  refine loop_of Nat (fun i => [(2, .ptr (jobC j)), (7, .int .i64 (S (fun i => ownC j i (secAt j ch i)) i)), (16, slx b (ch.map fun n => [.int .i64 n])), (17, .int .i64 ch.length), (18, .int .i64 i)])
    (fun i => i ≤ ch.length) (fun i => ch.length - i) 0 (by simp) (by simp [jobC_eq, S]) ?_
  rintro i hi
  simp
  refine brB_of (fun h1 => ?_) (fun h1 => ?_) <;> simp at h1 <;> simp [h1]
  · have hi' : i < j.below.l.length := by omega
    have hi2 : i < j.lengths.l.length := by omega
    obtain ⟨s, e1, e2, e3⟩ := hs i hi'
    rw [getElem!_pos ch i h1] at e1
    have hw : IntKind.wrap .i64 ((i : Int) + 1) = ((i + 1 : Nat) : Int) := wrap_i64 (by omega) (by omega)
    have hown := hbd i hi'
    have hsum := S_bd (g := fun i => ownC j i (secAt j ch i)) (b := B) i (fun a ha => hbd a (by omega))
    have hB2 : (i : Int) * B ≤ 400 * B := Int.mul_le_mul_of_nonneg_right (by omega) (by rw [B_eq]; omega)
    rw [B_eq] at hsum hown hB2
    rw [e3] at hown
    have eo : ownC j i s = j.lengths.l[i] * j.secs[s].price := by rw [ownC, getElem!_pos _ i hi2, getElem!_pos _ s e2]
    have hw1 : IntKind.wrap .i64 (j.lengths.l[i] * j.secs[s].price) = ownC j i s := by rw [← eo]; exact wrap_i64 rfl (by omega)
    have hw2 : IntKind.wrap .i64 (S (fun i => ownC j i (secAt j ch i)) i + ownC j i s) = S (fun i => ownC j i (secAt j ch i)) (i + 1) := by
      simp only [S, e3]
      exact wrap_i64 rfl (by omega)
    simp [h1, jobC_eq, hi2, e1, e2, secC_eq, hw1, hw2]
    refine ⟨indW_of (by decide +kernel), ?_⟩
    simp [hw]
    exact ⟨i + 1, by omega, by omega, by simp [jobC_eq]⟩
  · have : i = j.below.l.length := by omega
    subst this
    simp [costC]
end Go.Gv

set_option linter.unusedSimpArgs false
namespace Go.Gv

def exSec (name : List UInt8) (h p : Int) : Sec := ⟨name, h, p, false, [(0, 0), (h, h * h)], false, [(0, 0), (h, 1000 * h)]⟩
def exJob (room : Int) : Job := ⟨⟨false, [1, -1]⟩, ⟨false, [1000, 1000]⟩, ⟨false, [1, 1]⟩, ⟨false, [10, 10]⟩, ⟨false, [room, 2000]⟩, false, [exSec [97] 200 5, exSec [98] 300 4]⟩
theorem ex400 : solveF (exJob 400) = (8000, (false, [1, 1]), 0) := by decide +kernel
theorem ex250 : solveF (exJob 250) = (9000, (false, [0, 1]), 0) := by decide +kernel
theorem ex1 : jobValid (exJob 1) = true := by decide +kernel

variable {C : CC} (hC : Closed prog C)
include hC
theorem equalI_c (b b' : Bool) (xs ys : List Int) (hx : xs.length < 2 ^ 62) (hy : ys.length < 2 ^ 62) : C 19 [slx b (xs.map fun n => [.int .i64 n]), slx b' (ys.map fun n => [.int .i64 n])] (.bool (decide (xs = ys))) [] := by
  refine start hC (nf := N19_slices_Equal__int_int) rfl rfl ?_
  simp [N19_slices_Equal__int_int]
  refine brB_of (fun h => ?_) (fun h => ?_) <;> simp at h <;> simp [h]
  · rintro rfl; exact h rfl
  have h' : xs.length = ys.length := by omega
  refine loop_of Nat (fun i => [(0, slx b (xs.map fun n => [.int .i64 n])), (1, slx b' (ys.map fun n => [.int .i64 n])), (12, .int .i64 ys.length), (13, .int .i64 i)])
    (fun i => i ≤ ys.length ∧ ∀ k, k < i → xs[k]? = ys[k]?) (fun i => ys.length - i) 0 (by simp) (by simp) ?_
  rintro i ⟨hi, hok⟩
  simp
  refine brB_of (fun h1 => ?_) (fun h1 => ?_) <;> simp at h1 <;> simp [h1]
  · have hw : IntKind.wrap .i64 ((i : Int) + 1) = ((i + 1 : Nat) : Int) := wrap_i64 (by omega) (by omega)
    have hx1 : i < xs.length := by omega
    simp [h1, hx1]
    refine ⟨indW_of (by decide +kernel), ?_⟩
    refine brB_of (fun h2 => ?_) (fun h2 => ?_) <;> simp [h1, hx1] at h2 <;> simp [h1, hx1, h2, hw]
    · rintro rfl
      exact h2 rfl
    · refine ⟨i + 1, ⟨by omega, fun k hk => ?_⟩, by omega, rfl⟩
      rcases Nat.lt_succ_iff_lt_or_eq.1 hk with h5 | rfl
      · exact hok k h5
      · rw [List.getElem?_eq_getElem h1, List.getElem?_eq_getElem hx1, h2]
  · refine List.ext_getElem? fun k => ?_
    rcases Nat.lt_or_ge k i with h2 | h2
    · exact hok k h2
    · rw [List.getElem?_eq_none (by omega), List.getElem?_eq_none (by omega)]
theorem section_c (name : List UInt8) (h p : Int) (hh : 0 ≤ h ∧ h < 1000000) : C 43 [.str name, .int .i64 h, .int .i64 p] (.agg (secC (exSec name h p))) [] := by
  have e1 : IntKind.wrap .i64 (h * h) = h * h := wrap_i64 rfl (by
    have := Int.mul_nonneg hh.1 hh.1
    have := Int.mul_le_mul (show h ≤ 1000000 by omega) (show h ≤ 1000000 by omega) hh.1 (by omega)
    omega)
  have e2 : IntKind.wrap .i64 (1000 * h) = 1000 * h := wrap_i64 rfl (by omega)
  refine start hC (nf := N43_law47_section) rfl rfl ?_
  simp [N43_law47_section, e1, e2]
  rfl
theorem example_c (room : Int) : C 23 [.int .i64 room] (.agg (jobC (exJob room))) [] := by
  refine start hC (nf := N23_law47_example) rfl rfl ?_
  have h1 := section_c hC [97] 200 5 (by omega)
  have h2 := section_c hC [98] 300 4 (by omega)
  simp [N23_law47_example]
  refine callW_of h1 (.inr rfl) ?_
  simp
  refine callW_of h2 (.inr rfl) ?_
  simp [secC_eq]
  rfl
theorem awake_c : C 3 [] (.bool true) [] := by
  refine start hC (nf := N3_law47_awake) rfl rfl ?_
  have h1 := example_c hC 400
  have h2 := example_c hC 250
  have h3 := example_c hC 1
  have s1 := Solve_c hC (exJob 400)
  have s2 := Solve_c hC (exJob 250)
  have v3 := Valid_c hC (exJob 1)
  rw [ex400] at s1
  rw [ex250] at s2
  rw [ex1] at v3
  have q1 := equalI_c hC false false [1, 1] [1, 1] (by simp) (by simp)
  have q2 := equalI_c hC false false [0, 1] [0, 1] (by simp) (by simp)
  simp [intsD] at s1 s2 q1 q2
  simp [N3_law47_awake]
  refine callW_of h1 (.inr rfl) ?_
  simp
  refine callW_of s1 (.inr rfl) ?_
  simp
  refine callW_of h2 (.inr rfl) ?_
  simp
  refine callW_of s2 (.inr rfl) ?_
  simp
  refine callW_of q1 (.inl rfl) ?_
  simp
  refine callW_of q2 (.inl rfl) ?_
  simp
  refine callW_of h3 (.inr rfl) ?_
  simp
  refine callW_of v3 (.inl rfl) ?_
  simp
end Go.Gv

set_option linter.unusedSimpArgs false
set_option maxRecDepth 4000
namespace Go.Gv
def decE (n : Nat) : List UInt8 := dcE n []
variable {C : CC} (hC : Closed prog C)
include hC
set_option maxHeartbeats 4000000 in
theorem rBinding_c (j : Job) (b : Bool) (ch : List Int) (hc : choiceF j ch = 0) (hn : j.below.l.length ≤ 12) : C 148 [.agg (jobC j), slx b (ch.map fun n => [.int .i64 n])] (.sl (bindX decE j ch j.below.l.length)) [] := by
  obtain ⟨hv, hlen, hs⟩ := choice_ok hc
  have hm : j.secs.length ≤ 40 := by simp only [jobValid, catValid, Bool.and_eq_true, decide_eq_true_eq] at hv; omega
  refine start hC (nf := N148_ref47_Binding) rfl rfl ?_
  simp [N148_ref47_Binding, jobC_eq]
  obtain ⟨R, hR⟩ : ∃ R, R = bindX decE j ch := ⟨_, rfl⟩
  have hR0 : R 0 = [] := by rw [hR]; rfl
  have hRl : ∀ i, (R i).length = (bindUp j ch i).length := fun i => by rw [hR, bindX_len]
  have hRp : ∀ i, 0 < kindF j ch i → R (i + 1) = R i ++ [[.int .i64 (kindF j ch i), .str (decE i)]] := fun i h => by rw [hR]; exact bindX_pos h
  have hRn : ∀ i, ¬ 0 < kindF j ch i → R (i + 1) = R i := fun i h => by rw [hR]; exact bindX_neg h
  have hRv : ∀ i, (R i).map (fun e => e.map cellV) = R i := fun i => by
    rw [hR, bindX, List.map_map]
    exact List.map_congr_left fun x _ => rfl
  have hRc : ∀ i, ∀ e ∈ R i, e.length = 2 ∧ ∀ c ∈ e, isC1 c = true := fun i e he => by
    rw [hR, bindX] at he
    obtain ⟨x, _, rfl⟩ := List.mem_map.1 he
    simp [fdD]
  have hRb : ∀ i, (R i).length ≤ i := fun i => by rw [hRl]; exact bindUp_len j ch i
  rw [← hR]
  refine loop_of Nat (fun i => [(1, slx b (ch.map fun n => [.int .i64 n])), (2, .ptr (jobC j)), (5, .ref (.r 10080) 0 (R i).length), (6, .int .i64 i), (10080, .blk 2 (R i))])
    (fun i => i ≤ ch.length) (fun i => ch.length - i) 0 (by simp) (by simp [jobC_eq, hR0]) ?_
  rintro i hi
  simp
  refine brB_of (fun h1 => ?_) (fun h1 => ?_) <;> simp at h1 <;> simp [h1]
  · have hi' : i < j.below.l.length := by omega
    obtain ⟨t, e1, e2, e3⟩ := hs i hi'
    rw [getElem!_pos ch i h1] at e1
    have hw : IntKind.wrap .i64 ((i : Int) + 1) = ((i + 1 : Nat) : Int) := wrap_i64 (by omega) (by omega)
    refine loop_of Nat (fun s => [(1, slx b (ch.map fun n => [.int .i64 n])), (2, .ptr (jobC j)), (5, .ref (.r 10080) 0 (R i).length), (6, .int .i64 i), (7, .bool (fstU j ch i s)), (8, .bool (sndU j ch i s)), (9, .int .i64 s), (10080, .blk 2 (R i))])
      (fun s => s ≤ j.secs.length) (fun s => j.secs.length - s) 0 (by simp) (by simp [jobC_eq, fstU, sndU]) ?_
    rintro s hs1
    simp [jobC_eq]
    refine brB_of (fun g1 => ?_) (fun g1 => ?_) <;> simp at g1 <;> simp [g1]
    · have hw2 : IntKind.wrap .i64 ((s : Int) + 1) = ((s + 1 : Nat) : Int) := wrap_i64 (by omega) (by omega)
      have kl := rlower_c hC j b ch hc i s hi' g1
      have kp := rPossible_c hC j hv i s hi' g1
      have ef : fstU j ch i (s + 1) = (fstU j ch i s || fstS j ch i s) := rfl
      have es : sndU j ch i (s + 1) = (sndU j ch i s || sndS j ch i s) := rfl
      have ech : cheapS j ch i s = !decide (j.secs[t].price ≤ j.secs[s].price) := by
        unfold cheapS
        rw [e3, getElem!_pos _ t e2, getElem!_pos _ s g1]
      have ehi : highS j ch i s = (!decide (j.below.l[i] = -1) && decide (j.secs[secAt j ch (j.below.l[i]).toNat]!.height < j.secs[s].height)) := by
        unfold highS
        rw [getElem!_pos _ i hi', getElem!_pos _ s g1]
      simp only [jobC_eq] at kl kp
      by_cases c1 : j.secs[t].price ≤ j.secs[s].price
      · have f0 : fstS j ch i s = false := by unfold fstS; rw [ech]; simp [c1]
        have s0 : sndS j ch i s = false := by unfold sndS; rw [ech]; simp [c1]
        simp [jobC_eq, g1, h1, e1, e2, secC_eq, c1]
        refine ⟨indW_of (by decide +kernel), ?_⟩
        simp [hw2]
        exact ⟨s + 1, by omega, by omega, by rw [ef, f0, Bool.or_false], by rw [es, s0, Bool.or_false], rfl⟩
      · have f0 : fstS j ch i s = (!lowS j ch i s && !highS j ch i s && !possAt j i s) := by unfold fstS; rw [ech]; simp [c1]
        have s0 : sndS j ch i s = (lowS j ch i s && possAt j i s) := by unfold sndS; rw [ech]; simp [c1]
        rw [f0] at ef
        rw [s0] at es
        simp [jobC_eq, g1, h1, e1, e2, secC_eq, c1]
        refine ⟨indW_of (by decide +kernel), ?_⟩
        try simp [jobC_eq]
        refine callW_of kl (.inl rfl) ?_
        have hbi : j.below.l[i]! = -1 ∨ ∃ p : Nat, j.below.l[i]! = (p : Int) ∧ p < j.below.l.length := by
          simp only [jobValid, Bool.and_eq_true, List.all_eq_true, List.mem_range] at hv
          have := hv.2 i hi'
          simp only [pipeOk, inRq, Bool.and_eq_true, Bool.or_eq_true, decide_eq_true_eq, beq_iff_eq] at this
          by_cases h : j.below.l[i]! = -1
          · exact .inl h
          · exact .inr ⟨(j.below.l[i]!).toNat, by omega, by omega⟩
        simp
        rcases hbi with hb | ⟨p, hb, hp⟩
        · have hh : highS j ch i s = false := by simp [highS, hb]
          rw [hh] at ef
          rw [getElem!_pos _ i hi'] at hb
          simp [hb, hi', jobC_eq]
          refine ⟨indW_of (by decide +kernel), ?_⟩
          cases fU : fstU j ch i s <;> cases hlo : lowS j ch i s <;> cases hpo : possAt j i s <;> cases sU : sndU j ch i s <;> rw [fU, hlo, hpo] at ef <;> rw [sU, hlo, hpo] at es <;> simp at ef es
          · simp [jobC_eq]
            refine callW_of kp (.inl rfl) ?_
            simp [hpo, jobC_eq, hw2]
            exact ⟨s + 1, by omega, by omega, by simp [ef], by simp [es], rfl⟩
          · simp [jobC_eq]
            refine callW_of kp (.inl rfl) ?_
            simp [hpo, jobC_eq, hw2]
            exact ⟨s + 1, by omega, by omega, by simp [ef], by simp [es], rfl⟩
          · simp [jobC_eq]
            refine callW_of kp (.inl rfl) ?_
            simp [hpo, jobC_eq, hw2]
            exact ⟨s + 1, by omega, by omega, by simp [ef], by simp [es], rfl⟩
          · simp [jobC_eq]
            refine callW_of kp (.inl rfl) ?_
            simp [hpo, jobC_eq, hw2]
            exact ⟨s + 1, by omega, by omega, by simp [ef], by simp [es], rfl⟩
          · simp [jobC_eq]
            refine callW_of kp (.inl rfl) ?_
            simp [hpo, jobC_eq, hw2]
            exact ⟨s + 1, by omega, by omega, by simp [ef], by simp [es], rfl⟩
          · simp [jobC_eq]
            try simp [hw2]
            exact ⟨s + 1, by omega, by omega, by simp [ef], by simp [es], rfl⟩
          · simp [jobC_eq]
            refine callW_of kp (.inl rfl) ?_
            simp [hpo, jobC_eq, hw2]
            exact ⟨s + 1, by omega, by omega, by simp [ef], by simp [es], rfl⟩
          · simp [jobC_eq]
            try simp [hw2]
            exact ⟨s + 1, by omega, by omega, by simp [ef], by simp [es], rfl⟩
          · simp [jobC_eq]
            try simp [hw2]
            exact ⟨s + 1, by omega, by omega, by simp [ef], by simp [es], rfl⟩
          · simp [jobC_eq]
            try simp [hw2]
            exact ⟨s + 1, by omega, by omega, by simp [ef], by simp [es], rfl⟩
          · simp [jobC_eq]
            try simp [hw2]
            exact ⟨s + 1, by omega, by omega, by simp [ef], by simp [es], rfl⟩
          · simp [jobC_eq]
            try simp [hw2]
            exact ⟨s + 1, by omega, by omega, by simp [ef], by simp [es], rfl⟩
          · simp [jobC_eq]
            refine callW_of kp (.inl rfl) ?_
            simp [hpo, jobC_eq, hw2]
            exact ⟨s + 1, by omega, by omega, by simp [ef], by simp [es], rfl⟩
          · simp [jobC_eq]
            try simp [hw2]
            exact ⟨s + 1, by omega, by omega, by simp [ef], by simp [es], rfl⟩
          · simp [jobC_eq]
            refine callW_of kp (.inl rfl) ?_
            simp [hpo, jobC_eq, hw2]
            exact ⟨s + 1, by omega, by omega, by simp [ef], by simp [es], rfl⟩
          · simp [jobC_eq]
            try simp [hw2]
            exact ⟨s + 1, by omega, by omega, by simp [ef], by simp [es], rfl⟩
        · obtain ⟨u, u1, u2, u3⟩ := hs p hp
          have hh : highS j ch i s = decide (j.secs[u].height < j.secs[s].height) := by
            rw [highS, hb, Int.toNat_natCast, u3, getElem!_pos j.secs s g1, getElem!_pos j.secs u u2]
            simp
          rw [hh] at ef
          rw [getElem!_pos _ i hi'] at hb
          rw [getElem!_pos ch p (by omega)] at u1
          have hpc : p < ch.length := by omega
          have hpn : ¬ ((p : Int) = -1) := by omega
          simp [hb, hi', jobC_eq, secC_eq, g1, hpc, hpn, u1, u2]
          refine ⟨indW_of (by decide +kernel), ?_⟩
          obtain ⟨Hb, hHb⟩ : ∃ Hb, Hb = decide (j.secs[u].height < j.secs[s].height) := ⟨_, rfl⟩
          rw [← hHb] at ef ⊢
          clear hHb hh
          cases fU : fstU j ch i s <;> cases hlo : lowS j ch i s <;> cases Hb <;> cases hpo : possAt j i s <;> cases sU : sndU j ch i s <;> rw [fU, hlo, hpo] at ef <;> rw [sU, hlo, hpo] at es <;> simp at ef es
          · simp [jobC_eq]
            refine callW_of kp (.inl rfl) ?_
            simp [hpo, jobC_eq, hw2]
            exact ⟨s + 1, by omega, by omega, by simp [ef], by simp [es], rfl⟩
          · simp [jobC_eq]
            refine callW_of kp (.inl rfl) ?_
            simp [hpo, jobC_eq, hw2]
            exact ⟨s + 1, by omega, by omega, by simp [ef], by simp [es], rfl⟩
          · simp [jobC_eq]
            refine callW_of kp (.inl rfl) ?_
            simp [hpo, jobC_eq, hw2]
            exact ⟨s + 1, by omega, by omega, by simp [ef], by simp [es], rfl⟩
          · simp [jobC_eq]
            refine callW_of kp (.inl rfl) ?_
            simp [hpo, jobC_eq, hw2]
            exact ⟨s + 1, by omega, by omega, by simp [ef], by simp [es], rfl⟩
          · simp [jobC_eq]
            try simp [hw2]
            exact ⟨s + 1, by omega, by omega, by simp [ef], by simp [es], rfl⟩
          · simp [jobC_eq]
            try simp [hw2]
            exact ⟨s + 1, by omega, by omega, by simp [ef], by simp [es], rfl⟩
          · simp [jobC_eq]
            try simp [hw2]
            exact ⟨s + 1, by omega, by omega, by simp [ef], by simp [es], rfl⟩
          · simp [jobC_eq]
            try simp [hw2]
            exact ⟨s + 1, by omega, by omega, by simp [ef], by simp [es], rfl⟩
          · simp [jobC_eq]
            refine callW_of kp (.inl rfl) ?_
            simp [hpo, jobC_eq, hw2]
            exact ⟨s + 1, by omega, by omega, by simp [ef], by simp [es], rfl⟩
          · simp [jobC_eq]
            try simp [hw2]
            exact ⟨s + 1, by omega, by omega, by simp [ef], by simp [es], rfl⟩
          · simp [jobC_eq]
            refine callW_of kp (.inl rfl) ?_
            simp [hpo, jobC_eq, hw2]
            exact ⟨s + 1, by omega, by omega, by simp [ef], by simp [es], rfl⟩
          · simp [jobC_eq]
            try simp [hw2]
            exact ⟨s + 1, by omega, by omega, by simp [ef], by simp [es], rfl⟩
          · simp [jobC_eq]
            refine callW_of kp (.inl rfl) ?_
            simp [hpo, jobC_eq, hw2]
            exact ⟨s + 1, by omega, by omega, by simp [ef], by simp [es], rfl⟩
          · simp [jobC_eq]
            try simp [hw2]
            exact ⟨s + 1, by omega, by omega, by simp [ef], by simp [es], rfl⟩
          · simp [jobC_eq]
            refine callW_of kp (.inl rfl) ?_
            simp [hpo, jobC_eq, hw2]
            exact ⟨s + 1, by omega, by omega, by simp [ef], by simp [es], rfl⟩
          · simp [jobC_eq]
            try simp [hw2]
            exact ⟨s + 1, by omega, by omega, by simp [ef], by simp [es], rfl⟩
          · simp [jobC_eq]
            try simp [hw2]
            exact ⟨s + 1, by omega, by omega, by simp [ef], by simp [es], rfl⟩
          · simp [jobC_eq]
            try simp [hw2]
            exact ⟨s + 1, by omega, by omega, by simp [ef], by simp [es], rfl⟩
          · simp [jobC_eq]
            try simp [hw2]
            exact ⟨s + 1, by omega, by omega, by simp [ef], by simp [es], rfl⟩
          · simp [jobC_eq]
            try simp [hw2]
            exact ⟨s + 1, by omega, by omega, by simp [ef], by simp [es], rfl⟩
          · simp [jobC_eq]
            try simp [hw2]
            exact ⟨s + 1, by omega, by omega, by simp [ef], by simp [es], rfl⟩
          · simp [jobC_eq]
            try simp [hw2]
            exact ⟨s + 1, by omega, by omega, by simp [ef], by simp [es], rfl⟩
          · simp [jobC_eq]
            try simp [hw2]
            exact ⟨s + 1, by omega, by omega, by simp [ef], by simp [es], rfl⟩
          · simp [jobC_eq]
            try simp [hw2]
            exact ⟨s + 1, by omega, by omega, by simp [ef], by simp [es], rfl⟩
          · simp [jobC_eq]
            refine callW_of kp (.inl rfl) ?_
            simp [hpo, jobC_eq, hw2]
            exact ⟨s + 1, by omega, by omega, by simp [ef], by simp [es], rfl⟩
          · simp [jobC_eq]
            try simp [hw2]
            exact ⟨s + 1, by omega, by omega, by simp [ef], by simp [es], rfl⟩
          · simp [jobC_eq]
            refine callW_of kp (.inl rfl) ?_
            simp [hpo, jobC_eq, hw2]
            exact ⟨s + 1, by omega, by omega, by simp [ef], by simp [es], rfl⟩
          · simp [jobC_eq]
            try simp [hw2]
            exact ⟨s + 1, by omega, by omega, by simp [ef], by simp [es], rfl⟩
          · simp [jobC_eq]
            refine callW_of kp (.inl rfl) ?_
            simp [hpo, jobC_eq, hw2]
            exact ⟨s + 1, by omega, by omega, by simp [ef], by simp [es], rfl⟩
          · simp [jobC_eq]
            try simp [hw2]
            exact ⟨s + 1, by omega, by omega, by simp [ef], by simp [es], rfl⟩
          · simp [jobC_eq]
            refine callW_of kp (.inl rfl) ?_
            simp [hpo, jobC_eq, hw2]
            exact ⟨s + 1, by omega, by omega, by simp [ef], by simp [es], rfl⟩
          · simp [jobC_eq]
            try simp [hw2]
            exact ⟨s + 1, by omega, by omega, by simp [ef], by simp [es], rfl⟩
    · have es : s = j.secs.length := by omega
      subst es
      have hk := kind_eq j ch i j.secs.length
      have hkF : kindF j ch i = kindUp j ch i j.secs.length := rfl
      have kf := rFormat_c hC i (by omega)
      have hRb := hRb i
      cases c1 : fstU j ch i j.secs.length
      · cases c2 : sndU j ch i j.secs.length
        · rw [c1, c2] at hk
          simp at hk
          simp [hw]
          exact ⟨i + 1, by omega, by omega, by simp [jobC_eq], by rw [hRn i (by omega)], rfl, by rw [hRn i (by omega)]⟩
        · rw [c1, c2] at hk
          simp at hk
          simp
          refine callW_of kf (.inl rfl) ?_
          simp
          refine ⟨by omega, i + 1, by omega, by omega, by simp [jobC_eq], by rw [hRp i (by omega)]; simp, hw, ?_⟩
          rw [hRp i (by omega), hkF, hk]; rfl
      · rw [c1] at hk
        simp at hk
        simp
        refine callW_of kf (.inl rfl) ?_
        simp
        refine ⟨by omega, i + 1, by omega, by omega, by simp [jobC_eq], by rw [hRp i (by omega)]; simp, hw, ?_⟩
        rw [hRp i (by omega), hkF, hk]; rfl
  · have : i = ch.length := by omega
    subst this
    simp [hRv, hlen]
end Go.Gv

set_option linter.unusedSimpArgs false
set_option maxRecDepth 4000
namespace Go.Gv
theorem bindX_congr {dec : Nat → List UInt8} (h : ∀ n, n < 100 → dec n = decE n) (j : Job) (ch : List Int) : ∀ i, i ≤ 100 → bindX dec j ch i = bindX decE j ch i
  | 0, _ => by rw [bindX_zero, bindX_zero]
  | i + 1, hi => by
    have ih := bindX_congr h j ch i (by omega)
    by_cases hk : 0 < kindF j ch i
    · rw [bindX_pos hk, bindX_pos hk, ih, h i (by omega)]
    · rw [bindX_neg hk, bindX_neg hk, ih]
variable {C : CC} (hC : Closed prog C)
include hC
theorem eqFdR_c (b b' : Bool) (xs : List (Int × List UInt8)) (hx : xs.length < 2 ^ 62) : C 147 [slx b (xs.map fun x => fdD x), slx b' (xs.map fun x => fdD x)] (.bool true) [] := by
  refine start hC (nf := N147_slices_Equal__api_Finding_api_Finding) rfl rfl ?_
  simp [N147_slices_Equal__api_Finding_api_Finding]
  refine loop_of Nat (fun i => [(0, slx b (xs.map fun x => fdD x)), (1, slx b' (xs.map fun x => fdD x)), (12, .int .i64 xs.length), (13, .int .i64 i)])
    (fun i => i ≤ xs.length) (fun i => xs.length - i) 0 (by simp) (by simp) ?_
  rintro i hi
  simp
  refine brB_of (fun h1 => ?_) (fun h1 => ?_) <;> simp at h1 <;> simp [h1]
  have hw : IntKind.wrap .i64 ((i : Int) + 1) = ((i + 1 : Nat) : Int) := wrap_i64 (by omega) (by omega)
  simp [h1, fdD, hw]
  exact ⟨indW_of (by decide +kernel), i + 1, by omega, by omega, rfl⟩
theorem Binding0_c (j : Job) (b : Bool) (ch : List Int) (hl : ch.length < 2 ^ 62) (ha : (allowedF j ch).1 = false) :
    C 124 [.agg (jobC j), slx b (ch.map fun n => [.int .i64 n])] (.tup [.nils, .int .i64 (if choiceF j ch = 0 then 25 else choiceF j ch)]) [] := by
  have k1 := Allowed_c hC j b ch hl
  refine start hC (nf := N124_sizing_Binding) rfl rfl ?_
  simp only [jobC_eq] at k1
  simp [N124_sizing_Binding, jobC_eq]
  refine callW_of k1 (.inl rfl) ?_
  by_cases h0 : choiceF j ch = 0
  · have h2 : (allowedF j ch).2.2 = 0 := by
      unfold allowedF
      rw [if_neg (by simp [h0])]
      split <;> rfl
    rw [h2, ha]
    simp [h0]
  · have h2 : allowedF j ch = (false, 0, choiceF j ch) := by unfold allowedF; rw [if_pos h0]
    rw [h2]
    simp [h0]
set_option maxHeartbeats 1000000 in
theorem SizingChoices_c (dec : Nat → List UInt8) (hI : ∀ n : Nat, n < 100 → C 127 [.int .i64 n] (.str (dec n)) []) (hd : ∀ n, n < 100 → dec n = decE n) (j : Job) (b : Bool) (ch : List Int) (hl : ch.length < 2 ^ 62) :
    C 143 [.agg (jobC j), slx b (ch.map fun n => [.int .i64 n])] (.bool true) [] := by
  have k0 := large_c hC j
  have k1 := Allowed_c hC j b ch hl
  have k2 := Cost_c hC j b ch hl
  have k3 := rValidJ_c hC j
  have k4 := Valid_c hC j
  refine start hC (nf := N143_law47_SizingChoices) rfl rfl ?_
  simp [N143_law47_SizingChoices]
  refine callW_of (awake_c hC) (.inl rfl) ?_
  simp only [jobC_eq] at k0 k1 k2 k3 k4
  simp [jobC_eq]
  refine callW_of k0 (.inl rfl) ?_
  cases hlg : largeF j
  rotate_left
  · simp
  have hn : j.below.l.length ≤ 12 := by
    simp only [largeF, Bool.or_eq_false_iff, decide_eq_false_iff_not] at hlg
    omega
  simp
  refine brB_of (fun h1 => ?_) (fun h1 => ?_) <;> simp at h1 <;> simp [h1]
  refine callW_of k1 (.inl rfl) ?_
  simp [jobC_eq]
  refine callW_of k2 (.inl rfl) ?_
  simp [jobC_eq]
  cases ha : (allowedF j ch).1
  · have k5 := Binding0_c hC j b ch hl ha
    simp only [jobC_eq] at k5
    refine callW_of k5 (.inr rfl) ?_
    simp [jobC_eq]
    refine callW_of k3 (.inl rfl) ?_
    cases hv : jobValid j
    · have hc : choiceF j ch = 1 := by rw [choiceF, if_pos hv]
      have ha2 : allowedF j ch = (false, 0, 1) := by rw [allowedF, hc]; rfl
      have hc2 : costF2 j ch = (0, 1) := by rw [costF2, hc]; rfl
      rw [hv] at k3 k4
      simp [jobC_eq]
      refine callW_of k4 (.inl rfl) ?_
      simp [jobC_eq]
      refine callW_of k3 (.inl rfl) ?_
      simp [hc, ha2, hc2]
      exact indW_of (by decide +kernel)
    · have k6 := rSizesE_c hC j b ch hv hl
      rw [hv] at k3 k4
      simp only [jobC_eq] at k6
      simp [jobC_eq]
      refine callW_of k6 (.inl rfl) ?_
      simp [jobC_eq]
      refine callW_of k4 (.inl rfl) ?_
      simp [jobC_eq]
      refine callW_of k3 (.inl rfl) ?_
      by_cases hc : choiceF j ch = 0
      · have k7 := rAllowed_c hC j b ch hc
        have k8 := rCost_c hC j b ch hc
        have hc2 : costF2 j ch = (costC j ch, 0) := by rw [costF2, if_neg (by simp [hc])]
        obtain ⟨i, ha2⟩ : ∃ i : Nat, allowedF j ch = (false, (i : Int), 0) := by
          unfold allowedF at ha ⊢
          rw [if_neg (by simp [hc])] at ha ⊢
          split
          · exact ⟨_, rfl⟩
          · rename_i h; rw [h] at ha; cases ha
        have hi0 : ¬ (i : Int) < 0 := by omega
        rw [ha2] at k7
        simp only [jobC_eq] at k7 k8
        simp [hc, ha2, hc2, jobC_eq]
        refine ⟨indW_of (by decide +kernel), ?_⟩
        refine callW_of k7 (.inl rfl) ?_
        simp [hi0, jobC_eq]
        refine callW_of k8 (.inl rfl) ?_
        simp
      · have ha2 : allowedF j ch = (false, 0, choiceF j ch) := by rw [allowedF, if_pos hc]
        have hc2 : costF2 j ch = (0, choiceF j ch) := by rw [costF2, if_pos hc]
        simp [hc, ha2, hc2]
        exact indW_of (by decide +kernel)
  · have hc := choice_of_allowed ha
    have ha2 : allowedF j ch = (true, -1, 0) := allowed_none hc (allowed_good hc ha)
    obtain ⟨hv, hlen, hs⟩ := choice_ok hc
    have k5 := Binding_c hC dec hI j b ch hl hn hc ha
    have k6 := rSizesE_c hC j b ch hv hl
    have k7 := rAllowed_c hC j b ch hc
    have k8 := rCost_c hC j b ch hc
    have k9 := rBinding_c hC j b ch hc hn
    have k10 := eqFdR_c hC false false (bindR decE j ch j.below.l.length) (by simp [bindR]; have := bindUp_len j ch j.below.l.length; omega)
    have hc2 : costF2 j ch = (costC j ch, 0) := by rw [costF2, if_neg (by simp [hc])]
    rw [bindX_congr hd j ch _ (by omega)] at k5
    rw [hc] at k6
    rw [ha2] at k7
    rw [hv] at k3 k4
    have hX : (bindR decE j ch j.below.l.length).map (fun x => fdD x) = bindX decE j ch j.below.l.length := rfl
    rw [hX] at k10
    obtain ⟨X, hXe⟩ : ∃ X, X = bindX decE j ch j.below.l.length := ⟨_, rfl⟩
    rw [← hXe] at k5 k9 k10
    simp at k10
    simp only [jobC_eq] at k5 k6 k7 k8 k9
    refine callW_of k5 (.inr rfl) ?_
    simp [jobC_eq]
    refine callW_of k3 (.inl rfl) ?_
    simp [jobC_eq]
    refine callW_of k6 (.inl rfl) ?_
    simp [jobC_eq]
    refine callW_of k4 (.inl rfl) ?_
    simp [jobC_eq]
    refine callW_of k3 (.inl rfl) ?_
    simp [ha2, hc2, jobC_eq]
    refine ⟨indW_of (by decide +kernel), ?_⟩
    refine callW_of k7 (.inl rfl) ?_
    simp [jobC_eq]
    refine callW_of k8 (.inl rfl) ?_
    simp [jobC_eq]
    refine callW_of k9 (.inr rfl) ?_
    simp
    refine callW_of k10 (.inl rfl) ?_
    simp
end Go.Gv
