/-
  Texts of the proof: K7, K8, K3, K2, K9, K10, K11, K12, K13, K14, K15, M6p, K16, K17, K18, L1, K19, K20, L2, K23, K24, L3, M18, E1, E2, K23c, K24c, E3, E4, M1, M2a, M2, M12, M0, M3.
-/
import Derived.Test.YtojokjlpllpceaaGreatDoorX7
set_option linter.all false
set_option linter.unusedSimpArgs false
namespace Go.Gv

theorem tdivN (a b : Nat) : Int.tdiv (a : Int) (b : Int) = ((a / b : Nat) : Int) := by
  rw [Int.tdiv_eq_ediv_of_nonneg (by omega)]; norm_cast
theorem tmodN (a b : Nat) : Int.tmod (a : Int) (b : Int) = ((a % b : Nat) : Int) := by
  rw [Int.tmod_eq_emod_of_nonneg (by omega)]; norm_cast
theorem wrapU (a : Int) : IntKind.u64.wrap a = a % 18446744073709551616 := by
  have e1 : IntKind.u64.signed = false := rfl
  have e3 : (2 ^ IntKind.u64.bits : Int) = 18446744073709551616 := rfl
  unfold IntKind.wrap
  simp only [e1, e3, Bool.false_and]
  simp
theorem orN (a b i : Nat) (hb : b < 2 ^ i) (h : a * 2 ^ i + b < 18446744073709551616) : bits .or .u64 ((a * 2 ^ i : Nat) : Int) (b : Int) = ((a * 2 ^ i + b : Nat) : Int) := by
  rw [bits_or_u64_nat _ _ (by omega) (by omega), Nat.mul_comm a, Nat.two_pow_add_eq_or_of_lt hb]

theorem mul_shift (a m b s : Nat) : (a * m + b) * s = a * s * m + b * s := by rw [Nat.add_mul, Nat.mul_right_comm]
theorem tot_l {H B W U d1 d0 : Nat} (hU : U = H + B) (h1 : d1 = W / 4294967296) (h0 : d0 = W % 4294967296) : H * 18446744073709551616 + (B * 18446744073709551616 + W) = (U * 4294967296 + d1) * 4294967296 + d0 := by omega
/-- A divisor, shifted. -/
theorem norm_y {y s : Nat} (h0 : y ≠ 0) (hy : y < 18446744073709551616) (hs : s = 64 - bitLen y) : s ≤ 63 ∧ 9223372036854775808 ≤ y * 2 ^ s ∧ y * 2 ^ s < 18446744073709551616 := by
  obtain ⟨h1, h2⟩ := bitLen_spec y
  have h3 := h2 h0
  have hb : bitLen y ≤ 64 := by
    unfold bitLen
    rw [if_neg h0]
    have := (Nat.log2_lt h0).2 (show y < 2 ^ 64 by omega)
    omega
  have hb1 : 1 ≤ bitLen y := by unfold bitLen; rw [if_neg h0]; omega
  have e : bitLen y + s = 64 := by omega
  refine ⟨by omega, ?_, ?_⟩
  · have := Nat.mul_le_mul_right (2 ^ s) h3
    rw [← Nat.pow_add, show bitLen y - 1 + s = 63 by omega] at this
    omega
  · have := Nat.mul_lt_mul_of_pos_right h1 (Nat.two_pow_pos s)
    rw [← Nat.pow_add, e] at this
    omega

variable {C : CC} (hC : Closed prog C)
include hC
theorem Div64_c (hi lo y : Nat) (h : hi < y) (hy : y < 18446744073709551616) (hl : lo < 18446744073709551616) :
    C 92 [.int .u64 hi, .int .u64 lo, .int .u64 y] (.tup [.int .u64 (((hi * 18446744073709551616 + lo) / y : Nat) : Int), .int .u64 (((hi * 18446744073709551616 + lo) % y : Nat) : Int)]) [] := by
  refine start hC (nf := N92_math_bits_Div64) rfl rfl ?_
  have h1 : ¬ y = 0 := by omega
  have h2 : ¬ y ≤ hi := by omega
  generalize hres : D.tup [D.int .u64 (((hi * 18446744073709551616 + lo) / y : Nat) : Int), .int .u64 (((hi * 18446744073709551616 + lo) % y : Nat) : Int)] = res
  simp [N92_math_bits_Div64]
  refine brB_of (fun h => ?_) (fun _ => ?_)
  · simp at h; omega
  simp
  refine brB_of (fun h => ?_) (fun _ => ?_)
  · simp at h; omega
  simp
  refine brB_of (fun h => ?_) (fun h3 => ?_)
  · simp at h
    have : hi = 0 := by omega
    subst this
    have hq : lo / y < 18446744073709551616 := by have := Nat.div_le_self lo y; omega
    obtain ⟨q, hq'⟩ : ∃ q, q = lo / y := ⟨_, rfl⟩
    obtain ⟨r, hr'⟩ : ∃ r, r = lo % y := ⟨_, rfl⟩
    have e1 : Int.tdiv (lo : Int) (y : Int) = (q : Int) := by rw [tdivN, hq']
    have e2 : Int.tmod (lo : Int) (y : Int) = (r : Int) := by rw [tmodN, hr']
    simp [h1, e1, e2, wrapN q (by omega)]
    refine ⟨indW_of (by decide +kernel), ?_⟩
    rw [← hres, hq', hr', Nat.zero_mul, Nat.zero_add]
  simp
  refine callW_of (LeadingZeros64_c hC y hy) (.inl rfl) ?_
  generalize hs : 64 - bitLen y = s
  obtain ⟨s1, s2, s3⟩ := norm_y h1 hy hs.symm
  have w1 : IntKind.u64.wrap (s : Int) = (s : Int) := wrapN _ (by omega)
  have w2 : IntKind.u64.wrap (64 - (s : Int)) = ((64 - s : Nat) : Int) := by rw [wrapU]; omega
  have m1 : min s IntKind.u64.bits = s := by show min s 64 = s; omega
  have m2 : min (64 - s) IntKind.u64.bits = 64 - s := by show min (64 - s) 64 = 64 - s; omega
  obtain ⟨Y, hY⟩ : ∃ Y, Y = y * 2 ^ s := ⟨_, rfl⟩
  obtain ⟨H, hH⟩ : ∃ H, H = hi * 2 ^ s := ⟨_, rfl⟩
  obtain ⟨W, hW⟩ : ∃ W, W = lo * 2 ^ s % 18446744073709551616 := ⟨_, rfl⟩
  obtain ⟨B, hB⟩ : ∃ B, B = lo / 2 ^ (64 - s) := ⟨_, rfl⟩
  rw [← hY] at s2 s3
  have hHY : H + 2 ^ s ≤ Y := by
    have := Nat.mul_le_mul_right (2 ^ s) h
    rw [hH, hY]
    rw [Nat.succ_mul] at this
    exact this
  have hBs : B < 2 ^ s := by
    rw [hB, Nat.div_lt_iff_lt_mul (Nat.two_pow_pos _), ← Nat.pow_add, show s + (64 - s) = 64 by omega]
    exact hl
  obtain ⟨U, hU⟩ : ∃ U, U = H + B := ⟨_, rfl⟩
  have hUY : U < Y := by omega
  have eY : IntKind.u64.wrap ((y : Int) * 2 ^ s) = (Y : Int) := by
    rw [show (y : Int) * 2 ^ s = (Y : Int) by rw [hY]; norm_cast]; exact wrapN _ s3
  have eH : IntKind.u64.wrap ((hi : Int) * 2 ^ s) = (H : Int) := by
    rw [show (hi : Int) * 2 ^ s = (H : Int) by rw [hH]; norm_cast]; exact wrapN _ (by omega)
  have eW : IntKind.u64.wrap ((lo : Int) * 2 ^ s) = (W : Int) := by
    rw [show (lo : Int) * 2 ^ s = ((lo * 2 ^ s : Nat) : Int) by norm_cast, wrapM, hW]
  have eB : Int.fdiv (lo : Int) (2 ^ (64 - s)) = (B : Int) := by rw [shrN, hB]
  have eU : bits .or .u64 (H : Int) (B : Int) = (U : Int) := by
    rw [hU, hH]; exact orN hi B s hBs (by omega)
  obtain ⟨Y1, hY1⟩ : ∃ Y1, Y1 = Y / 4294967296 := ⟨_, rfl⟩
  obtain ⟨Y0, hY0⟩ : ∃ Y0, Y0 = Y % 4294967296 := ⟨_, rfl⟩
  obtain ⟨d1, hd1⟩ : ∃ d1, d1 = W / 4294967296 := ⟨_, rfl⟩
  obtain ⟨d0, hd0⟩ : ∃ d0, d0 = W % 4294967296 := ⟨_, rfl⟩
  have eY1 : Int.fdiv (Y : Int) (2 ^ min 32 IntKind.u64.bits) = (Y1 : Int) := by rw [shr32, hY1]
  have eY0 : bits .and .u64 (Y : Int) 4294967295 = (Y0 : Int) := by rw [maskN _ s3, hY0]
  have hW64 : W < 18446744073709551616 := by rw [hW]; exact Nat.mod_lt _ (by omega)
  have ed1 : Int.fdiv (W : Int) (2 ^ min 32 IntKind.u64.bits) = (d1 : Int) := by rw [shr32, hd1]
  have ed0 : bits .and .u64 (W : Int) 4294967295 = (d0 : Int) := by rw [maskN _ hW64, hd0]
  have hY1a : 2147483648 ≤ Y1 := by omega
  have hY1b : Y1 < 4294967296 := by omega
  have hY0b : Y0 < 4294967296 := by omega
  have hd1b : d1 < 4294967296 := by omega
  have hd0b : d0 < 4294967296 := by omega
  have hYs : Y1 * 4294967296 + Y0 = Y := by omega
  have nz : ¬ Y1 = 0 := by omega
  have inv1 := DvI.first hY1a hY1b hY0b (u := U) (d := d1) (by omega) hd1b
  obtain ⟨q, hq⟩ : ∃ q, q = U / Y1 := ⟨_, rfl⟩
  obtain ⟨r, hr⟩ : ∃ r, r = U % Y1 := ⟨_, rfl⟩
  rw [← hq, ← hr] at inv1
  have eq1 : Int.tdiv (U : Int) (Y1 : Int) = (q : Int) := by rw [tdivN, hq]
  have eq2 : IntKind.u64.wrap (q : Int) = (q : Int) := wrapN _ (by have := inv1.qle; omega)
  have sub1 : ∀ (u a q r : Nat), q * a + r = u → u < 18446744073709551616 → IntKind.u64.wrap ((u : Int) - IntKind.u64.wrap ((q : Int) * (a : Int))) = (r : Int) := fun u a q r e hu => by
    rw [mulN, wrapU, wrapU]
    generalize q * a = z at *
    omega
  have er : IntKind.u64.wrap ((U : Int) - IntKind.u64.wrap ((q : Int) * (Y1 : Int))) = (r : Int) := sub1 _ _ _ _ inv1.sum (by omega)
  simp [w1, w2, m1, m2, eY, eH, eW, eB, eU, eY1, eY0, ed1, ed0, eq1, eq2, er, nz]
  have bm : ∀ {u d q r : Nat}, DvI u d Y1 Y0 q r → IntKind.u64.wrap ((q : Int) * (Y0 : Int)) = ((q * Y0 : Nat) : Int) := fun i => by rw [mulN]; exact wrapN _ (i.bnd hY0b)
  have bp : ∀ {u d q r : Nat}, d < 4294967296 → DvI u d Y1 Y0 q r → IntKind.u64.wrap (IntKind.u64.wrap (4294967296 * (r : Int)) + (d : Int)) = ((4294967296 * r + d : Nat) : Int) := fun {u d q r} hd i => by
    have := i.rlt
    rw [show (4294967296 : Int) * (r : Int) = ((4294967296 * r : Nat) : Int) by omega, wrapN (4294967296 * r) (by omega), addN]
    exact wrapN _ (by omega)
  -- the first digit
  obtain ⟨Q1, hQ1⟩ : ∃ Q1, Q1 = (U * 4294967296 + d1) / (Y1 * 4294967296 + Y0) := ⟨_, rfl⟩
  refine loop_out 0 Nat (fun x => [(2, .int .u64 Y), (8, .int .u64 s), (9, .int .u64 Y1), (10, .int .u64 Y0), (11, .int .u64 U), (13, .int .u64 d1), (14, .int .u64 d0), (15, .int .u64 x)]) (fun x => x = Q1) ?_ ?_
  · refine loop_of (Nat × Nat) (fun x => [(2, .int .u64 Y), (8, .int .u64 s), (9, .int .u64 Y1), (10, .int .u64 Y0), (11, .int .u64 U), (13, .int .u64 d1), (14, .int .u64 d0), (15, .int .u64 x.1), (16, .int .u64 x.2)]) (fun x => DvI U d1 Y1 Y0 x.1 x.2) (fun x => 4294967296 - x.2) (q, r) inv1 (by simp) ?_
    rintro ⟨a, c⟩ inv
    simp only at inv
    have b1 := bm inv
    have b2 := bp hd1b inv
    have b3 := inv.rlt
    have b4 := inv.qle
    have fin : (4294967296 ≤ a ∨ 4294967296 * c + d1 < a * Y0) → ∃ a' c' : Nat, IntKind.u64.wrap ((a : Int) - 1) = (a' : Int) ∧ IntKind.u64.wrap ((c : Int) + (Y1 : Int)) = (c' : Int) ∧ c' = c + Y1 ∧ (4294967296 ≤ c' → a' = Q1) ∧ (c' < 4294967296 → DvI U d1 Y1 Y0 a' c') := fun hc => by
      obtain ⟨n1, n2, n3, n4⟩ := inv.next (by omega) (by rw [hYs]; exact hUY) hd1b hc
      refine ⟨a - 1, c + Y1, by rw [wrapU]; omega, by rw [wrapU]; omega, rfl, fun hc => (Dv.stop n2 n3 n4 (by omega) hY0b hc).trans hQ1.symm, fun hc => ⟨n2, n3, hc, by omega⟩⟩
    simp
    refine brB_of (fun c1 => ?_) (fun c1 => ?_) <;> simp [c1] <;> simp at c1
    · obtain ⟨a', c', k1, k2, k3, k4, k5⟩ := fin (.inl (by omega))
      simp [k1, k2]
      refine brB_of (fun c2 => ?_) (fun c2 => ?_) <;> simp [c2, k1, k2] <;> simp at c2
      · rw [k4 (by omega)]
      · exact ⟨_, _, k5 (by omega), by omega, rfl, rfl⟩
    · simp [b1, b2]
      refine brB_of (fun c3 => ?_) (fun c3 => ?_) <;> simp [c3] <;> simp at c3
      · obtain ⟨a', c', k1, k2, k3, k4, k5⟩ := fin (.inr (by omega))
        simp [k1, k2]
        refine brB_of (fun c2 => ?_) (fun c2 => ?_) <;> simp [c2, k1, k2] <;> simp at c2
        · rw [k4 (by omega)]
        · exact ⟨_, _, k5 (by omega), by omega, rfl, rfl⟩
      · rw [(inv.done (by omega) (by omega)).trans hQ1.symm]
  intro q1 e hq1 hw
  subst hq1
  simp at hw
  obtain ⟨g2, g8, g9, g10, g11, g13, g14, g15⟩ := hw
  -- what is left of it
  obtain ⟨V, hV⟩ : ∃ V, V = (U * 4294967296 + d1) % (Y1 * 4294967296 + Y0) := ⟨_, rfl⟩
  have hVY : V < Y := by rw [hV, hYs]; exact Nat.mod_lt _ (by omega)
  have sum1 : q1 * Y + V = U * 4294967296 + d1 := by rw [hQ1, hV, hYs, Nat.mul_comm]; exact Nat.div_add_mod _ _
  have eV : IntKind.u64.wrap (IntKind.u64.wrap (IntKind.u64.wrap ((U : Int) * 4294967296) + (d1 : Int)) - IntKind.u64.wrap ((q1 : Int) * (Y : Int))) = (V : Int) := by
    rw [mulN q1 Y]
    simp only [wrapU]
    generalize q1 * Y = z at *
    omega
  have inv2 := DvI.first hY1a hY1b hY0b (u := V) (d := d0) (by omega) hd0b
  obtain ⟨q2, hq2⟩ : ∃ q, q = V / Y1 := ⟨_, rfl⟩
  obtain ⟨r2, hr2⟩ : ∃ r, r = V % Y1 := ⟨_, rfl⟩
  rw [← hq2, ← hr2] at inv2
  have eq3 : Int.tdiv (V : Int) (Y1 : Int) = (q2 : Int) := by rw [tdivN, hq2]
  have eq4 : IntKind.u64.wrap (q2 : Int) = (q2 : Int) := wrapN _ (by have := inv2.qle; omega)
  have er2 : IntKind.u64.wrap ((V : Int) - IntKind.u64.wrap ((q2 : Int) * (Y1 : Int))) = (r2 : Int) := sub1 _ _ _ _ inv2.sum (by omega)
  simp [g2, g8, g9, g10, g11, g13, g14, g15, eV, eq3, eq4, er2, nz]
  -- the second digit
  obtain ⟨Q0, hQ0⟩ : ∃ Q0, Q0 = (V * 4294967296 + d0) / (Y1 * 4294967296 + Y0) := ⟨_, rfl⟩
  refine loop_out 2 Nat (fun x => [(2, .int .u64 Y), (8, .int .u64 s), (14, .int .u64 d0), (15, .int .u64 q1), (17, .int .u64 V), (18, .int .u64 x)]) (fun x => x = Q0) ?_ ?_
  · refine loop_of (Nat × Nat) (fun x => [(2, .int .u64 Y), (8, .int .u64 s), (9, .int .u64 Y1), (10, .int .u64 Y0), (14, .int .u64 d0), (15, .int .u64 q1), (16, .int .u64 x.2), (17, .int .u64 V), (18, .int .u64 x.1)]) (fun x => DvI V d0 Y1 Y0 x.1 x.2) (fun x => 4294967296 - x.2) (q2, r2) inv2 (by simp) ?_
    rintro ⟨a, c⟩ inv
    simp only at inv
    have b1 := bm inv
    have b2 := bp hd0b inv
    have b3 := inv.rlt
    have b4 := inv.qle
    have fin : (4294967296 ≤ a ∨ 4294967296 * c + d0 < a * Y0) → ∃ a' c' : Nat, IntKind.u64.wrap ((a : Int) - 1) = (a' : Int) ∧ IntKind.u64.wrap ((c : Int) + (Y1 : Int)) = (c' : Int) ∧ c' = c + Y1 ∧ (4294967296 ≤ c' → a' = Q0) ∧ (c' < 4294967296 → DvI V d0 Y1 Y0 a' c') := fun hc => by
      obtain ⟨n1, n2, n3, n4⟩ := inv.next (by omega) (by rw [hYs]; exact hVY) hd0b hc
      refine ⟨a - 1, c + Y1, by rw [wrapU]; omega, by rw [wrapU]; omega, rfl, fun hc => (Dv.stop n2 n3 n4 (by omega) hY0b hc).trans hQ0.symm, fun hc => ⟨n2, n3, hc, by omega⟩⟩
    simp
    refine brB_of (fun c1 => ?_) (fun c1 => ?_) <;> simp [c1] <;> simp at c1
    · obtain ⟨a', c', k1, k2, k3, k4, k5⟩ := fin (.inl (by omega))
      simp [k1, k2]
      refine brB_of (fun c2 => ?_) (fun c2 => ?_) <;> simp [c2, k1, k2] <;> simp at c2
      · rw [k4 (by omega)]
      · exact ⟨_, _, k5 (by omega), by omega, rfl, rfl⟩
    · simp [b1, b2]
      refine brB_of (fun c3 => ?_) (fun c3 => ?_) <;> simp [c3] <;> simp at c3
      · obtain ⟨a', c', k1, k2, k3, k4, k5⟩ := fin (.inr (by omega))
        simp [k1, k2]
        refine brB_of (fun c2 => ?_) (fun c2 => ?_) <;> simp [c2, k1, k2] <;> simp at c2
        · rw [k4 (by omega)]
        · exact ⟨_, _, k5 (by omega), by omega, rfl, rfl⟩
      · rw [(inv.done (by omega) (by omega)).trans hQ0.symm]
  intro q0 e hq0 hw
  subst hq0
  simp at hw
  obtain ⟨g2, g8, g14, g15, g17, g18⟩ := hw
  -- the result
  have l1 : q1 < 4294967296 := by rw [hQ1]; exact Dv.lt (by omega) (by omega) hd1b
  have l0 : q0 < 4294967296 := by rw [hQ0]; exact Dv.lt (by omega) (by omega) hd0b
  obtain ⟨R, hR⟩ : ∃ R, R = (V * 4294967296 + d0) % (Y1 * 4294967296 + Y0) := ⟨_, rfl⟩
  have hRY : R < Y := by rw [hR, hYs]; exact Nat.mod_lt _ (by omega)
  have sum0 : q0 * Y + R = V * 4294967296 + d0 := by rw [hQ0, hR, hYs, Nat.mul_comm]; exact Nat.div_add_mod _ _
  have eR : IntKind.u64.wrap (IntKind.u64.wrap (IntKind.u64.wrap ((V : Int) * 4294967296) + (d0 : Int)) - IntKind.u64.wrap ((q0 : Int) * (Y : Int))) = (R : Int) := by
    rw [mulN q0 Y]
    simp only [wrapU]
    generalize q0 * Y = z at *
    omega
  obtain ⟨Z, hZ⟩ : ∃ Z, Z = R / 2 ^ s := ⟨_, rfl⟩
  have eZ : Int.fdiv (R : Int) (2 ^ s) = (Z : Int) := by rw [shrN, hZ]
  have eQ : IntKind.u64.wrap (IntKind.u64.wrap ((q1 : Int) * 4294967296) + (q0 : Int)) = ((q1 * 4294967296 + q0 : Nat) : Int) := by
    simp only [wrapU]
    omega
  obtain ⟨T, hT⟩ : ∃ T, T = q1 * 4294967296 + q0 := ⟨_, rfl⟩
  rw [← hT] at eQ
  simp [g2, g8, g14, g15, g17, g18, w1, m1, eR, eZ, eQ]
  have hW2 : lo * 2 ^ s = B * 18446744073709551616 + W := by
    have e1 : lo * 2 ^ s / 18446744073709551616 = B := by
      rw [hB, show (18446744073709551616 : Nat) = 2 ^ (64 - s) * 2 ^ s by rw [← Nat.pow_add, show 64 - s + s = 64 by omega], Nat.mul_div_mul_right _ _ (Nat.two_pow_pos s)]
    have e2 := Nat.div_add_mod (lo * 2 ^ s) 18446744073709551616
    omega
  have tot : (hi * 18446744073709551616 + lo) * 2 ^ s = (U * 4294967296 + d1) * 4294967296 + d0 := by
    rw [mul_shift, hW2, ← hH]
    exact tot_l hU hd1 hd0
  obtain ⟨f1, f2⟩ := dv_all (N := hi * 18446744073709551616 + lo) (y := y) (S := 2 ^ s) (A := U * 4294967296 + d1) (K := 4294967296) (un0 := d0) (y' := Y1 * 4294967296 + Y0) (by omega) (Nat.two_pow_pos s) (by rw [hYs, hY]) tot
  rw [← hV, ← hQ1, ← hQ0, ← hT] at f1
  rw [← hV, ← hR, ← hZ] at f2
  rw [← hres, f1, f2]
end Go.Gv

set_option linter.unusedSimpArgs false
namespace Go.Gv

def wideD (n : Nat) : D := .agg [.int .u64 ((n / 18446744073709551616 : Nat) : Int), .int .u64 ((n % 18446744073709551616 : Nat) : Int)]
def rootF (x : Nat) : Nat → Nat → Nat
  | 0, r => r
  | i + 1, r => rootF x i (if (r + 2 ^ i) * (r + 2 ^ i) ≤ x then r + 2 ^ i else r)
def rootN (x : Nat) : Nat := rootF x 63 0

theorem mulwide {x k : Nat} : x * k = (x / 18446744073709551616 * k + x % 18446744073709551616 * k / 18446744073709551616) * 18446744073709551616 + x % 18446744073709551616 * k % 18446744073709551616 := by
  have e1 := Nat.div_add_mod x 18446744073709551616
  have e2 := Nat.div_add_mod (x % 18446744073709551616 * k) 18446744073709551616
  have e3 : x * k = (18446744073709551616 * (x / 18446744073709551616) + x % 18446744073709551616) * k := by rw [e1]
  rw [Nat.add_mul, Nat.mul_assoc] at e3
  generalize x / 18446744073709551616 * k = A at *
  generalize x % 18446744073709551616 * k = B at *
  omega
theorem divwide {x n : Nat} (hn : 0 < n) : x / n = (x / 18446744073709551616 / n) * 18446744073709551616 + (x / 18446744073709551616 % n * 18446744073709551616 + x % 18446744073709551616) / n ∧ (x / 18446744073709551616 % n * 18446744073709551616 + x % 18446744073709551616) / n < 18446744073709551616 := by
  obtain ⟨H, hH⟩ : ∃ H, H = x / 18446744073709551616 := ⟨_, rfl⟩
  obtain ⟨L, hL⟩ : ∃ L, L = x % 18446744073709551616 := ⟨_, rfl⟩
  rw [← hH, ← hL]
  have hx : x = H * 18446744073709551616 + L := by omega
  have hl : L < 18446744073709551616 := by omega
  have e1 := Nat.div_add_mod H n
  have l1 := Nat.mod_lt H hn
  generalize H / n = a at *
  generalize H % n = b at *
  constructor
  · rw [hx, ← e1, show (n * a + b) * 18446744073709551616 + L = n * (a * 18446744073709551616) + (b * 18446744073709551616 + L) by rw [Nat.add_mul, Nat.mul_assoc, Nat.add_assoc], Nat.mul_add_div hn]
  · rw [Nat.div_lt_iff_lt_mul hn]
    have : (b + 1) * 18446744073709551616 ≤ n * 18446744073709551616 := Nat.mul_le_mul_right _ l1
    rw [Nat.mul_comm n] at this
    omega
theorem rootF_step (x i r : Nat) : rootF x (i + 1) r = rootF x i (if (r + 2 ^ i) * (r + 2 ^ i) ≤ x then r + 2 ^ i else r) := rfl

variable {C : CC} (hC : Closed prog C)
include hC
theorem product_c (a b : Nat) (ha : a < 9223372036854775808) (hb : b < 9223372036854775808) : C 74 [.int .i64 a, .int .i64 b] (wideD (a * b)) [] := by
  refine start hC (nf := N74_catalogue_product) rfl rfl ?_
  simp [N74_catalogue_product, wrapN a (by omega), wrapN b (by omega)]
  refine callW_of (Mul64_c hC a b (by omega) (by omega)) (.inl rfl) ?_
  obtain ⟨h, hh⟩ : ∃ h, h = a * b / 18446744073709551616 := ⟨_, rfl⟩
  obtain ⟨l, hl⟩ : ∃ l, l = a * b % 18446744073709551616 := ⟨_, rfl⟩
  rw [← hh, ← hl, wideD, ← hh, ← hl]
  simp
theorem times_c (x k : Nat) (hk : k < 9223372036854775808) (hx : x < 340282366920938463463374607431768211456) (hxk : x * k < 340282366920938463463374607431768211456) : C 75 [wideD x, .int .i64 k] (wideD (x * k)) [] := by
  have e := mulwide (x := x) (k := k)
  obtain ⟨h, hh⟩ : ∃ h, h = x / 18446744073709551616 := ⟨_, rfl⟩
  obtain ⟨l, hl⟩ : ∃ l, l = x % 18446744073709551616 := ⟨_, rfl⟩
  have hh' : h < 18446744073709551616 := by omega
  have hl' : l < 18446744073709551616 := by omega
  rw [← hh, ← hl] at e
  obtain ⟨p, hp⟩ : ∃ p, p = l * k / 18446744073709551616 := ⟨_, rfl⟩
  obtain ⟨q, hq⟩ : ∃ q, q = l * k % 18446744073709551616 := ⟨_, rfl⟩
  rw [← hp, ← hq] at e
  have hq' : q < 18446744073709551616 := by omega
  obtain ⟨z, hz⟩ : ∃ z, z = h * k := ⟨_, rfl⟩
  obtain ⟨y, hy⟩ : ∃ y, y = x * k := ⟨_, rfl⟩
  rw [← hz, ← hy] at e
  rw [← hy] at hxk
  obtain ⟨t, ht⟩ : ∃ t, t = z + p := ⟨_, rfl⟩
  rw [← ht] at e
  have e1 : y / 18446744073709551616 = t := by omega
  have e2 : y % 18446744073709551616 = q := by omega
  have ht' : t < 18446744073709551616 := by omega
  have et : IntKind.u64.wrap ((p : Int) + IntKind.u64.wrap ((h : Int) * (k : Int))) = (t : Int) := by
    rw [mulN h k, ← hz, wrapU, wrapU]
    clear hxk hx e e1 e2 hq hp hl hh hy hz
    omega
  have r1 : wideD (x * k) = .agg [.int .u64 (t : Int), .int .u64 (q : Int)] := by rw [wideD, ← hy, e1, e2]
  have r2 : wideD x = .agg [.int .u64 (h : Int), .int .u64 (l : Int)] := by rw [wideD, ← hh, ← hl]
  rw [r1, r2]
  clear r1 r2 e1 e2 e hh hl hx hxk
  refine start hC (nf := N75_catalogue_wide_times) rfl rfl ?_
  simp [N75_catalogue_wide_times, wrapN k (by omega)]
  refine callW_of (Mul64_c hC l k hl' (by omega)) (.inl rfl) ?_
  rw [← hp, ← hq]
  simp [et, wrapN k (by omega)]
theorem over_c (x n : Nat) (hn : 0 < n) (hn2 : n < 9223372036854775808) (hx : x < 340282366920938463463374607431768211456) : C 76 [wideD x, .int .i64 n] (wideD (x / n)) [] := by
  obtain ⟨e, e0⟩ := divwide (x := x) hn
  obtain ⟨h, hh⟩ : ∃ h, h = x / 18446744073709551616 := ⟨_, rfl⟩
  obtain ⟨l, hl⟩ : ∃ l, l = x % 18446744073709551616 := ⟨_, rfl⟩
  have hh' : h < 18446744073709551616 := by omega
  have hl' : l < 18446744073709551616 := by omega
  rw [← hh, ← hl] at e e0
  obtain ⟨p, hp⟩ : ∃ p, p = h / n := ⟨_, rfl⟩
  obtain ⟨r, hr⟩ : ∃ r, r = h % n := ⟨_, rfl⟩
  rw [← hp, ← hr] at e
  rw [← hr] at e0
  obtain ⟨q, hq⟩ : ∃ q, q = (r * 18446744073709551616 + l) / n := ⟨_, rfl⟩
  rw [← hq] at e e0
  have hrn : r < n := by rw [hr]; exact Nat.mod_lt _ hn
  have e1 : x / n / 18446744073709551616 = p := by omega
  have e2 : x / n % 18446744073709551616 = q := by omega
  have hpl : p < 18446744073709551616 := by rw [hp]; have := Nat.div_le_self h n; omega
  have ep : Int.tdiv (h : Int) (n : Int) = (p : Int) := by rw [tdivN, hp]
  have er : Int.tmod (h : Int) (n : Int) = (r : Int) := by rw [tmodN, hr]
  have r1 : wideD (x / n) = .agg [.int .u64 (p : Int), .int .u64 (q : Int)] := by rw [wideD, e1, e2]
  have r2 : wideD x = .agg [.int .u64 (h : Int), .int .u64 (l : Int)] := by rw [wideD, ← hh, ← hl]
  rw [r1, r2]
  clear r1 r2 e1 e2 e hh hl hx
  refine start hC (nf := N76_catalogue_wide_over) rfl rfl ?_
  have hn0 : ¬ n = 0 := by omega
  simp [N76_catalogue_wide_over, wrapN n (by omega), hn0, ep, er, wrapN p hpl]
  refine ⟨indW_of (by decide +kernel), ?_⟩
  refine callW_of (Div64_c hC r l n hrn (by omega) hl') (.inl rfl) ?_
  rw [← hq]
  simp
theorem root_c (x : Nat) : C 77 [wideD x] (.int .i64 (rootN x)) [] := by
  obtain ⟨h, hh⟩ : ∃ h, h = x / 18446744073709551616 := ⟨_, rfl⟩
  obtain ⟨l, hl⟩ : ∃ l, l = x % 18446744073709551616 := ⟨_, rfl⟩
  have r2 : wideD x = .agg [.int .u64 (h : Int), .int .u64 (l : Int)] := by rw [wideD, ← hh, ← hl]
  rw [r2]
  obtain ⟨N, hN⟩ : ∃ N, N = rootN x := ⟨_, rfl⟩
  rw [← hN]
  refine start hC (nf := N77_catalogue_wide_root) rfl rfl ?_
  simp [N77_catalogue_wide_root]
  refine loop_of (Nat × Nat × Nat) (fun s => [(1, .ptr [.int .u64 (h : Int), .int .u64 (l : Int)]), (3, .int .u64 s.2.1), (4, .int .u64 s.2.2)])
    (fun s => s.1 ≤ 63 ∧ (∃ a, s.2.1 = a * 2 ^ s.1) ∧ s.2.1 + 2 ^ s.1 ≤ 9223372036854775808 ∧ s.2.2 = (if s.1 = 0 then 0 else 2 ^ (s.1 - 1)) ∧ rootF x s.1 s.2.1 = N) (fun s => s.1) (63, 0, 4611686018427387904) ⟨by omega, ⟨0, by simp⟩, by decide, by decide, by rw [hN]; rfl⟩ (by simp) ?_
  rintro ⟨i, r, b⟩ ⟨h1, ⟨a, h2⟩, h3, h4, h5⟩
  simp only at h1 h2 h3 h4 h5
  simp
  refine brB_of (fun c => ?_) (fun c => ?_) <;> simp [c] <;> simp at c
  · obtain ⟨j, rfl⟩ : ∃ j, i = j + 1 := by
      cases i with
      | zero => simp at h4; omega
      | succ j => exact ⟨j, rfl⟩
    simp at h4
    have hb2 : 2 * b = 2 ^ (j + 1) := by rw [h4, Nat.pow_succ]; omega
    rw [← hb2] at h3 h2
    have hor : bits .or .u64 (r : Int) (b : Int) = ((r + b : Nat) : Int) := by
      rw [h2, show a * (2 * b) = a * 2 ^ (j + 1) by rw [hb2]]
      exact orN a b (j + 1) (by rw [← hb2]; omega) (by rw [← hb2, ← h2]; omega)
    obtain ⟨y, hy⟩ : ∃ y, y = r + b := ⟨_, rfl⟩
    rw [← hy] at hor
    have hsh : Int.fdiv (b : Int) (2 ^ min 1 IntKind.u64.bits) = ((b / 2 : Nat) : Int) := shrN b 1
    obtain ⟨b', hb'⟩ : ∃ b', b' = b / 2 := ⟨_, rfl⟩
    rw [← hb'] at hsh
    simp [hor]
    refine callW_of (Mul64_c hC y y (by omega) (by omega)) (.inl rfl) ?_
    obtain ⟨p, hp⟩ : ∃ p, p = y * y / 18446744073709551616 := ⟨_, rfl⟩
    obtain ⟨q, hq⟩ : ∃ q, q = y * y % 18446744073709551616 := ⟨_, rfl⟩
    rw [← hp, ← hq]
    have h6 : rootF x j (if y * y ≤ x then y else r) = N := by rw [← h5, rootF_step, hy, h4]
    have hb1 : b' = if j = 0 then 0 else 2 ^ (j - 1) := by
      rw [hb', h4]
      cases j with
      | zero => rfl
      | succ j => simp [Nat.pow_succ]
    have yes : y * y ≤ x → (j ≤ 63 ∧ (∃ a, y = a * 2 ^ j) ∧ y + 2 ^ j ≤ 9223372036854775808 ∧ b' = (if j = 0 then 0 else 2 ^ (j - 1)) ∧ rootF x j y = N) := fun hc => by
      rw [if_pos hc] at h6
      refine ⟨by omega, ⟨2 * a + 1, ?_⟩, by omega, hb1, h6⟩
      rw [hy, h2, ← h4, Nat.add_mul, Nat.mul_comm 2 a, Nat.mul_assoc]
      omega
    have no : ¬ y * y ≤ x → (j ≤ 63 ∧ (∃ a, r = a * 2 ^ j) ∧ r + 2 ^ j ≤ 9223372036854775808 ∧ b' = (if j = 0 then 0 else 2 ^ (j - 1)) ∧ rootF x j r = N) := fun hc => by
      rw [if_neg hc] at h6
      refine ⟨by omega, ⟨2 * a, ?_⟩, by omega, hb1, h6⟩
      rw [h2, ← h4, Nat.mul_comm 2 a, Nat.mul_assoc]
    simp
    generalize y * y = Z at *
    refine brB_of (fun c1 => ?_) (fun c1 => ?_) <;> simp [c1, hor, hsh] <;> simp at c1
    · exact ⟨j, y, b', yes (by omega), by omega, rfl, rfl⟩
    · refine brB_of (fun c2 => ?_) (fun c2 => ?_) <;> simp [c2, hor, hsh] <;> simp at c2
      · refine brB_of (fun c3 => ?_) (fun c3 => ?_) <;> simp [c3, hor, hsh] <;> simp at c3
        · exact ⟨j, y, b', yes (by omega), by omega, rfl, rfl⟩
        · exact ⟨j, r, b', no (by omega), by omega, rfl, rfl⟩
      · exact ⟨j, r, b', no (by omega), by omega, rfl, rfl⟩
  · have hi : i = 0 := by
      cases i with
      | zero => rfl
      | succ j =>
        simp at h4
        have := Nat.two_pow_pos j
        omega
    subst hi
    have : r = N := h5
    simp at h3
    have e1 : IntKind.wrap .i64 (r : Int) = (r : Int) := wrap_i64 rfl (by omega)
    rw [← this, e1]
end Go.Gv

set_option linter.unusedSimpArgs false
namespace Go.Gv

/-- A slice of integers: whether it is nil if it is empty, and the integers. -/
structure SlI where
  n : Bool
  l : List Int
  deriving Inhabited
def slI (x : SlI) : D := slx x.n (x.l.map fun n => [.int .i64 n])
def knD (k : Int × Int) : List D := [.int .i64 k.1, .int .i64 k.2]
/-- A section. -/
structure Sec where
  name : List UInt8
  height : Int
  price : Int
  areaN : Bool
  area : List (Int × Int)
  convN : Bool
  conv : List (Int × Int)
  deriving Inhabited
def secC (s : Sec) : List D := [.str s.name, .int .i64 s.height, .int .i64 s.price, slx s.areaN (s.area.map knD), slx s.convN (s.conv.map knD)]

def idxD {α : Type} (p : α → Bool) (xs : List α) : Int := match xs.findIdx? p with
  | some i => i
  | none => -1
theorem idxD_step {α : Type} {p : α → Bool} {xs : List α} {i : Nat} (hj : ∀ (j : Nat) (h : j < xs.length), j < i → p xs[j] = false) (hi : i < xs.length) (h : p xs[i] = true) : idxD p xs = i := by
  have : xs.findIdx? p = some i := by
    rw [List.findIdx?_eq_some_iff_getElem]
    exact ⟨hi, h, fun j hji => by simp [hj j (by omega) hji]⟩
  simp [idxD, this]
theorem idxD_none {α : Type} {p : α → Bool} {xs : List α} (hj : ∀ (j : Nat) (h : j < xs.length), p xs[j] = false) : idxD p xs = -1 := by
  have : xs.findIdx? p = none := by
    rw [List.findIdx?_eq_none_iff]
    intro x hx
    obtain ⟨j, h, rfl⟩ := List.mem_iff_getElem.1 hx
    exact hj j h
  simp [idxD, this]
theorem idxD_any {α : Type} (p : α → Bool) (xs : List α) : decide (0 ≤ idxD p xs) = xs.any p := by
  unfold idxD
  split
  · rename_i i h
    rw [List.findIdx?_eq_some_iff_getElem] at h
    obtain ⟨h1, h2, _⟩ := h
    have : xs.any p = true := List.any_eq_true.2 ⟨_, List.getElem_mem h1, h2⟩
    simp [this]
  · rename_i h
    rw [List.findIdx?_eq_none_iff] at h
    have : xs.any p = false := by rw [List.any_eq_false]; intro x hx; simp [h x hx]
    simp [this]

variable {C : CC} (hC : Closed prog C)
include hC
theorem idxInt_c {b : Bool} {xs : List Int} {g : Nat} {cs : List D} (p : Int → Bool) (hs : xs.length < 2 ^ 62) (hp : ∀ x ∈ xs, C g (.int .i64 x :: cs) (.bool (p x)) []) : C 35 [slx b (xs.map fun x => [.int .i64 x]), .fn g cs] (.int .i64 (idxD p xs)) [] := by
  refine start hC (nf := N35_slices_IndexFunc__int_int) rfl rfl ?_
  simp [N35_slices_IndexFunc__int_int]
  refine loop_of Nat (fun i => [(0, slx b (xs.map fun x => [.int .i64 x])), (1, .fn g cs), (7, .int .i64 xs.length), (8, .int .i64 i)]) (fun i => i ≤ xs.length ∧ ∀ (j : Nat) (h : j < xs.length), j < i → p xs[j] = false) (fun i => xs.length - i) 0 (by simp) (by simp) ?_
  rintro i ⟨hi, hj⟩
  simp
  refine brB_of (fun h => ?_) (fun h => ?_) <;> simp [h] <;> simp at h
  · have hw : IntKind.wrap .i64 ((i : Int) + 1) = ((i + 1 : Nat) : Int) := wrap_i64 (by omega) (by omega)
    have hc := hp _ (List.getElem_mem h)
    simp [h, List.getElem_map] at hc ⊢
    refine callW_of hc (.inl rfl) ?_
    simp
    refine brB_of (fun h1 => ?_) (fun h1 => ?_) <;> simp [h1, hw]
    · rw [idxD_step hj h h1]
    · refine ⟨i + 1, ⟨by omega, fun j hl hjj => ?_⟩, by omega, rfl⟩
      rcases Nat.lt_succ_iff_lt_or_eq.1 hjj with h2 | rfl
      · exact hj j hl h2
      · exact h1
  · rw [idxD_none (fun j hl => hj j hl (by omega))]
theorem hasInt_c {b : Bool} {xs : List Int} {g : Nat} {cs : List D} (p : Int → Bool) (hs : xs.length < 2 ^ 62) (hp : ∀ x ∈ xs, C g (.int .i64 x :: cs) (.bool (p x)) []) : C 11 [slx b (xs.map fun x => [.int .i64 x]), .fn g cs] (.bool (xs.any p)) [] := by
  refine start hC (nf := N11_slices_ContainsFunc__int_int) rfl rfl ?_
  simp [N11_slices_ContainsFunc__int_int]
  refine callW_of (idxInt_c hC p hs hp) (.inl rfl) ?_
  simp [idxD_any]
theorem idxSec_c {b : Bool} {xs : List Sec} {g : Nat} {cs : List D} (p : Sec → Bool) (hs : xs.length < 2 ^ 62) (hp : ∀ x ∈ xs, C g (.agg (secC x) :: cs) (.bool (p x)) []) : C 52 [slx b (xs.map fun x => secC x), .fn g cs] (.int .i64 (idxD p xs)) [] := by
  refine start hC (nf := N52_slices_IndexFunc__api_Section_api_Section) rfl rfl ?_
  simp [N52_slices_IndexFunc__api_Section_api_Section]
  refine loop_of Nat (fun i => [(0, slx b (xs.map fun x => secC x)), (1, .fn g cs), (7, .int .i64 xs.length), (8, .int .i64 i)]) (fun i => i ≤ xs.length ∧ ∀ (j : Nat) (h : j < xs.length), j < i → p xs[j] = false) (fun i => xs.length - i) 0 (by simp) (by simp) ?_
  rintro i ⟨hi, hj⟩
  simp
  refine brB_of (fun h => ?_) (fun h => ?_) <;> simp [h] <;> simp at h
  · have hw : IntKind.wrap .i64 ((i : Int) + 1) = ((i + 1 : Nat) : Int) := wrap_i64 (by omega) (by omega)
    have hc := hp _ (List.getElem_mem h)
    simp [h, secC] at hc ⊢
    refine callW_of hc (.inl rfl) ?_
    simp
    refine brB_of (fun h1 => ?_) (fun h1 => ?_) <;> simp [h1, hw]
    · rw [idxD_step hj h h1]
    · refine ⟨i + 1, ⟨by omega, fun j hl hjj => ?_⟩, by omega, rfl⟩
      rcases Nat.lt_succ_iff_lt_or_eq.1 hjj with h2 | rfl
      · exact hj j hl h2
      · exact h1
  · rw [idxD_none (fun j hl => hj j hl (by omega))]
theorem hasSec_c {b : Bool} {xs : List Sec} {g : Nat} {cs : List D} (p : Sec → Bool) (hs : xs.length < 2 ^ 62) (hp : ∀ x ∈ xs, C g (.agg (secC x) :: cs) (.bool (p x)) []) : C 45 [slx b (xs.map fun x => secC x), .fn g cs] (.bool (xs.any p)) [] := by
  refine start hC (nf := N45_slices_ContainsFunc__api_Section_api_Section) rfl rfl ?_
  simp [N45_slices_ContainsFunc__api_Section_api_Section]
  refine callW_of (idxSec_c hC p hs hp) (.inl rfl) ?_
  simp [idxD_any]
end Go.Gv

set_option linter.unusedSimpArgs false
namespace Go.Gv


def okAt (t : List (Int × Int)) (i : Nat) : Bool := fits t[i]!.1 && fits t[i]!.2 && (i == 0 || (t[i - 1]!.1 < t[i]!.1 && t[i - 1]!.2 ≤ t[i]!.2))
def tableValid (t : List (Int × Int)) : Bool := 1 ≤ t.length && t.length ≤ 100 && (List.range t.length).all (okAt t)

variable {C : CC} (hC : Closed prog C)
include hC
theorem tableValid_c (b : Bool) (t : List (Int × Int)) : C 72 [slx b (t.map knD)] (.bool (tableValid t)) [] := by
  refine start hC (nf := N72_table_Valid) rfl rfl ?_
  simp [N72_table_Valid]
  refine brB_of (fun h => ?_) (fun h => ?_) <;> simp at h
  · simp [tableValid, show t.length = 0 by omega]
  simp [h]
  refine brB_of (fun h2 => ?_) (fun h2 => ?_) <;> simp at h2
  · simp [tableValid, h, h2]
    omega
  simp
  refine loop_of Nat (fun i => [(0, slx b (t.map knD)), (13, slx b (t.map knD)), (14, .int .i64 t.length), (15, .int .i64 i)]) (fun i => i ≤ t.length ∧ ∀ j < i, okAt t j = true) (fun i => t.length - i) 0 (by simp) (by simp) ?_
  rintro i ⟨hi, hj⟩
  simp
  refine brB_of (fun h3 => ?_) (fun h3 => ?_) <;> simp at h3
  · have bad : okAt t i = false → tableValid t = false := fun hb => by
      simp only [tableValid, Bool.and_eq_false_iff, List.all_eq_false]
      exact .inr ⟨i, by simpa using h3, by simp [hb]⟩
    have e1 : t[i]! = t[i] := getElem!_pos t i h3
    have e2 : t[i - 1]! = t[i - 1] := getElem!_pos t (i - 1) (by omega)
    simp only [okAt, e1, e2] at bad
    have hw1 : IntKind.wrap .i64 ((i : Int) + 1) = ((i + 1 : Nat) : Int) := wrap_i64 (by omega) (by omega)
    have next : okAt t i = true → ∃ s' : Nat, (s' ≤ t.length ∧ ∀ j < s', okAt t j = true) ∧ t.length - s' < t.length - i ∧ s' = i + 1 := fun ho =>
      ⟨i + 1, ⟨by omega, fun j hjj => by
        rcases Nat.lt_succ_iff_lt_or_eq.1 hjj with h | rfl
        · exact hj j h
        · exact ho⟩, by omega, rfl⟩
    simp only [okAt, e1, e2] at next
    simp [h3, knD]
    refine callW_of (fits_c hC _) (.inl rfl) ?_
    cases f1 : fits t[i].1
    · simp
      exact ⟨indW_of (by decide +kernel), bad (by simp [f1])⟩
    simp
    refine callW_of (fits_c hC _) (.inl rfl) ?_
    cases f2 : fits t[i].2
    · simp
      exact ⟨indW_of (by decide +kernel), bad (by simp [f2])⟩
    simp
    refine brB_of (fun h4 => ?_) (fun h4 => ?_) <;> simp at h4
    · have hw : IntKind.wrap .i64 ((i : Int) - 1) = ((i - 1 : Nat) : Int) := wrap_i64 (by omega) (by omega)
      have h5 : i - 1 < t.length := by omega
      simp [h4, hw, h5, knD]
      refine brB_of (fun h6 => ?_) (fun h6 => ?_) <;> simp [h6, hw, h5, knD] <;> simp at h6
      · refine ⟨indW_of (by decide +kernel), bad ?_⟩
        simp [f1, f2]
        omega
      · refine ⟨indW_of (by decide +kernel), brB_of (fun h7 => ?_) (fun h7 => ?_)⟩ <;> simp [h7, hw1] <;> simp at h7
        · refine bad ?_
          simp [f1, f2]
          omega
        · obtain ⟨s', g1, g2, rfl⟩ := next (by simp [f1, f2, h6, h7])
          exact ⟨_, g1, g2, rfl⟩
    · have hi0 : i = 0 := by omega
      subst hi0
      simp at hw1
      simp [hw1]
      refine ⟨indW_of (by decide +kernel), ?_⟩
      obtain ⟨s', g1, g2, rfl⟩ := next (by simp [f1, f2])
      exact ⟨_, g1, g2, rfl⟩
  · have : i = t.length := by omega
    subst this
    simp [tableValid, h, h2]
    exact ⟨⟨by omega, by omega⟩, hj⟩
end Go.Gv

set_option linter.unusedSimpArgs false
namespace Go.Gv

theorem valid_len {t : List (Int × Int)} (h : tableValid t = true) : 1 ≤ t.length ∧ t.length ≤ 100 := by
  simp only [tableValid, Bool.and_eq_true, decide_eq_true_eq] at h
  exact h.1
theorem valid_ok {t : List (Int × Int)} (h : tableValid t = true) {i : Nat} (hi : i < t.length) : fits t[i].1 = true ∧ fits t[i].2 = true ∧ ∀ j, (hj : j + 1 = i) → t[j].1 < t[i].1 ∧ t[j].2 ≤ t[i].2 := by
  simp only [tableValid, Bool.and_eq_true, List.all_eq_true, List.mem_range] at h
  have := h.2 i hi
  simp only [okAt, getElem!_pos t i hi, Bool.and_eq_true, Bool.or_eq_true, beq_iff_eq, decide_eq_true_eq] at this
  refine ⟨this.1.1, this.1.2, fun j hj => ?_⟩
  subst hj
  have h2 := this.2
  rw [Nat.add_sub_cancel, getElem!_pos t j (by omega)] at h2
  rcases h2 with h2 | h2
  · omega
  · exact h2
theorem valid_asc {t : List (Int × Int)} (h : tableValid t = true) : ∀ (j i : Nat) (hi : i < t.length) (hj : j < i), t[j].1 < t[i].1 := by
  intro j i
  induction i with
  | zero => intro _ hj; omega
  | succ i ih =>
    intro hi hj
    have h1 := ((valid_ok h hi).2.2 i rfl).1
    by_cases e : j = i
    · subst e; exact h1
    · have := ih (by omega) (by omega)
      omega

variable {C : CC} (hC : Closed prog C)
include hC
theorem cmpKnot_c (k : Int × Int) (x : Int) : C 97 [.agg (knD k), .int .i64 x] (.int .i64 (if k.1 < x then -1 else if x < k.1 then 1 else 0)) [] := by
  refine start hC (nf := N97_table_piece_1) rfl rfl ?_
  simp [N97_table_piece_1, knD]
  refine brB_of (fun c => ?_) (fun c => ?_)
  · simp at c
    simp [c]
  · simp at c
    have c1 : ¬ k.1 < x := by omega
    simp [c1]
    refine brB_of (fun c2 => ?_) (fun c2 => ?_)
    · simp at c2
      simp [c2, c]
    · simp at c2
      have c3 : ¬ x < k.1 := by omega
      simp [c3, c]
theorem search_c (b : Bool) (t : List (Int × Int)) (x : Int) (h : tableValid t = true) (n : Nat) (hn : n + 1 = t.length) (hx : t[n].1 = x) : C 96 [slx b (t.map knD), .int .i64 x, .fn 97 []] (.tup [.int .i64 n, .bool true]) [] := by
  obtain ⟨l1, l2⟩ := valid_len h
  refine start hC (nf := N96_slices_BinarySearchFunc_api_Table_api_Knot_int) rfl rfl ?_
  simp [N96_slices_BinarySearchFunc_api_Table_api_Knot_int]
  refine loop_of (Nat × Nat) (fun s => [(0, slx b (t.map knD)), (1, .int .i64 x), (2, .fn 97 []), (8, .int .i64 t.length), (9, .int .i64 s.1), (10, .int .i64 s.2)]) (fun s => s.1 ≤ n ∧ n ≤ s.2 ∧ s.2 ≤ n + 1) (fun s => s.2 - s.1) (0, t.length) (by simp; omega) (by simp) ?_
  rintro ⟨i, j⟩ ⟨h1, h2, h3⟩
  simp only at h1 h2 h3
  simp
  refine brB_of (fun c => ?_) (fun c => ?_) <;> simp [c] <;> simp at c
  · obtain ⟨m, hm⟩ : ∃ m, m = (i + j) / 2 := ⟨_, rfl⟩
    have e1 : IntKind.wrap .i64 ((i : Int) + (j : Int)) = ((i + j : Nat) : Int) := wrap_i64 (by omega) (by omega)
    obtain ⟨s, hs⟩ : ∃ s, s = i + j := ⟨_, rfl⟩
    rw [← hs] at e1 hm
    have e2 : Int.fdiv (s : Int) (2 ^ min 1 IntKind.u64.bits) = (m : Int) := by rw [hm]; exact shrN s 1
    have e3 : IntKind.wrap .i64 (m : Int) = (m : Int) := wrap_i64 rfl (by omega)
    have e4 : IntKind.wrap .i64 ((m : Int) + 1) = ((m + 1 : Nat) : Int) := wrap_i64 (by omega) (by omega)
    have hml : m < t.length := by omega
    simp [e1, wrapN s (by omega), e2, e3, hml]
    have hc := cmpKnot_c hC t[m] x
    simp [knD] at hc ⊢
    refine callW_of hc (.inl rfl) ?_
    by_cases hmn : m < n
    · have := valid_asc h m n (by omega) hmn
      have hlt : t[m].1 < x := by omega
      simp [hlt, e4]
      exact ⟨m + 1, j, ⟨by omega, h2, h3⟩, by omega, by omega, by omega⟩
    · have : m = n := by omega
      subst this
      simp [hx]
      exact ⟨i, m, ⟨by omega, by omega, by omega⟩, by omega, by omega, by omega⟩
  · have : i = n := by omega
    subst this
    have hil : i < t.length := by omega
    simp [hil]
    have hc := cmpKnot_c hC t[i] x
    simp [knD, hil] at hc ⊢
    refine callW_of hc (.inl rfl) ?_
    simp [hx]
theorem piece_c (b : Bool) (t : List (Int × Int)) (x : Int) (h : tableValid t = true) (n : Nat) (hn : n + 1 = t.length) (hx : t[n].1 = x) : C 90 [slx b (t.map knD), .int .i64 x] (.tup [.int .i64 t[n].2, .int .i64 0, .int .i64 1]) [] := by
  refine start hC (nf := N90_table_piece) rfl rfl ?_
  have hnl : n < t.length := by omega
  simp [N90_table_piece]
  refine callW_of (search_c hC b t x h n hn hx) (.inl rfl) ?_
  simp [knD, hnl]
theorem FloorK_c (b : Bool) (t : List (Int × Int)) (x : Int) (h : tableValid t = true) (n : Nat) (hn : n + 1 = t.length) (hx : t[n].1 = x) : C 73 [slx b (t.map knD), .int .i64 x] (.tup [.int .i64 t[n].2, .int .i64 0]) [] := by
  refine start hC (nf := N73_table_Floor) rfl rfl ?_
  simp [N73_table_Floor]
  refine callW_of (tableValid_c hC b t) (.inl rfl) ?_
  simp [h]
  refine callW_of (piece_c hC b t x h n hn hx) (.inl rfl) ?_
  simp
end Go.Gv

set_option linter.unusedSimpArgs false
namespace Go.Gv

def lastK (t : List (Int × Int)) : Int × Int := t[t.length - 1]!
def curveOk (t : List (Int × Int)) (hgt most : Int) : Bool := tableValid t && (t[0]!.1 == 0 && t[0]!.2 == 0) && (lastK t).1 == hgt && (lastK t).2 ≤ most
def secValid (s : Sec) : Bool := isName s.name && 1 ≤ s.height && s.height ≤ 32768 && 0 ≤ s.price && s.price ≤ 1073741824 && curveOk s.area s.height 1073741824 && curveOk s.conv s.height 1099511627776
def slopeOk (n l : Int) : Bool := 0 ≤ n && n ≤ 4194304 && 1 ≤ l && l ≤ 16777216
/-- The capacity, without a limit. -/
def capN (s : Sec) (fall len : Int) : Nat := rootN ((lastK s.conv).2.toNat * (lastK s.conv).2.toNat * fall.toNat / len.toNat)
def fullF (s : Sec) (fall len : Int) : Int × Int := if secValid s then (if slopeOk fall len then (if 1099511627776 < capN s fall len then (0, 5) else (capN s fall len, 0)) else (0, 2)) else (0, 1)

theorem lastK_get {t : List (Int × Int)} {n : Nat} (hn : n + 1 = t.length) : lastK t = t[n] := by
  unfold lastK
  rw [show t.length - 1 = n by omega, getElem!_pos t n (by omega)]

variable {C : CC} (hC : Closed prog C)
include hC
theorem curve_c (b : Bool) (t : List (Int × Int)) (hgt most : Int) : C 59 [slx b (t.map knD), .int .i64 hgt, .int .i64 most] (.bool (curveOk t hgt most)) [] := by
  refine start hC (nf := N59_catalogue_curve) rfl rfl ?_
  simp [N59_catalogue_curve]
  refine callW_of (tableValid_c hC b t) (.inl rfl) ?_
  cases hv : tableValid t
  · simp [curveOk, hv]
  obtain ⟨l1, l2⟩ := valid_len hv
  obtain ⟨n, hn⟩ : ∃ n, n + 1 = t.length := ⟨t.length - 1, by omega⟩
  have e1 : IntKind.wrap .i64 ((t.length : Int) - 1) = (n : Int) := wrap_i64 (by omega) (by omega)
  have hnl : n < t.length := by omega
  have h0 : 0 < t.length := by omega
  have e0 : t[0]! = t[0] := getElem!_pos t 0 h0
  simp [e1, hnl, h0, knD]
  rw [curveOk, lastK_get hn, e0, hv]
  have ez : (decide (t[0].fst = 0) && decide (t[0].snd = 0)) = (t[0].1 == 0 && t[0].2 == 0) := by rw [Bool.eq_iff_iff]; simp
  rw [← ez]
  cases hz : (decide (t[0].fst = 0) && decide (t[0].snd = 0))
  · simp
  simp
  refine brB_of (fun c => ?_) (fun c => ?_)
  · simp at c
    simp [c]
  · simp at c
    simp [c]
theorem valid_c (s : Sec) : C 51 [.agg (secC s)] (.bool (secValid s)) [] := by
  refine start hC (nf := N51_catalogue_valid) rfl rfl ?_
  simp [N51_catalogue_valid, secC]
  refine callW_of (IsName_c hC s.name) (.inl rfl) ?_
  cases h1 : isName s.name
  · simp [secValid, h1]
  simp
  refine brB_of (fun c1 => ?_) (fun c1 => ?_) <;> simp [c1] <;> simp at c1
  · refine brB_of (fun c2 => ?_) (fun c2 => ?_) <;> simp [c2] <;> simp at c2
    · refine brB_of (fun c3 => ?_) (fun c3 => ?_) <;> simp [c3] <;> simp at c3
      · refine brB_of (fun c4 => ?_) (fun c4 => ?_) <;> simp [c4] <;> simp at c4
        · refine callW_of (curve_c hC _ _ _ _) (.inl rfl) ?_
          cases h5 : curveOk s.area s.height 1073741824
          · simp [secValid, h5]
          simp
          refine callW_of (curve_c hC _ _ _ _) (.inl rfl) ?_
          simp [secValid, h1, c1, c2, c3, c4, h5]
        · simp [secValid]; omega
      · simp [secValid]; omega
    · simp [secValid]; omega
  · simp [secValid]; omega
end Go.Gv

set_option linter.unusedSimpArgs false
namespace Go.Gv

theorem conv_last {s : Sec} (h : secValid s = true) : tableValid s.conv = true ∧ (lastK s.conv).1 = s.height ∧ 0 ≤ (lastK s.conv).2 ∧ (lastK s.conv).2 ≤ 1099511627776 := by
  simp only [secValid, curveOk, Bool.and_eq_true, decide_eq_true_eq, beq_iff_eq] at h
  obtain ⟨_, ⟨⟨hv, h0⟩, h1⟩, h2⟩ := h
  obtain ⟨l1, l2⟩ := valid_len hv
  have hp : ∀ i (hi : i < s.conv.length), 0 ≤ s.conv[i].2 := by
    intro i
    induction i with
    | zero => intro hi; have := h0.2; rw [getElem!_pos s.conv 0 hi] at this; omega
    | succ i ih =>
      intro hi
      have h3 := ((valid_ok hv hi).2.2 i rfl).2
      have := ih (by omega)
      omega
  obtain ⟨n, hn⟩ : ∃ n, n + 1 = s.conv.length := ⟨s.conv.length - 1, by omega⟩
  refine ⟨hv, h1, ?_, h2⟩
  rw [lastK_get hn]
  exact hp n (by omega)
theorem cap_lt {k f : Nat} (hk : k ≤ 1099511627776) (hf : f ≤ 4194304) : k * k * f ≤ 5070602400912917605986812821504 := by
  have h1 := Nat.mul_le_mul hk hk
  have h2 := Nat.mul_le_mul h1 hf
  exact h2

variable {C : CC} (hC : Closed prog C)
include hC
theorem carried_c (s : Sec) (fall len : Int) (hv : secValid s = true) (hs : slopeOk fall len = true) : C 61 [.agg (secC s), .int .i64 s.height, .int .i64 fall, .int .i64 len] (.tup [.int .i64 (capN s fall len), .int .i64 0]) [] := by
  obtain ⟨c1, c2, c3, c4⟩ := conv_last hv
  simp only [slopeOk, Bool.and_eq_true, decide_eq_true_eq] at hs
  obtain ⟨l1, l2⟩ := valid_len c1
  obtain ⟨n, hn⟩ : ∃ n, n + 1 = s.conv.length := ⟨s.conv.length - 1, by omega⟩
  rw [lastK_get hn] at c2 c3 c4
  have hF := FloorK_c hC s.convN s.conv s.height c1 n hn c2
  obtain ⟨k, hk⟩ : ∃ k : Nat, s.conv[n].2 = k := ⟨s.conv[n].2.toNat, by omega⟩
  obtain ⟨f, rfl⟩ : ∃ f : Nat, fall = f := ⟨fall.toNat, by omega⟩
  obtain ⟨l, rfl⟩ : ∃ l : Nat, len = l := ⟨len.toNat, by omega⟩
  have hcap : capN s f l = rootN (k * k * f / l) := by simp [capN, lastK_get hn, hk]
  rw [hk] at hF
  rw [hcap]
  have hb := cap_lt (k := k) (f := f) (by omega) (by omega)
  have hb0 : k * k ≤ 1208925819614629174706176 := Nat.mul_le_mul (show k ≤ 1099511627776 by omega) (show k ≤ 1099511627776 by omega)
  have hb2 := Nat.div_le_self (k * k * f) l
  refine start hC (nf := N61_catalogue_carried) rfl rfl ?_
  simp [N61_catalogue_carried, secC]
  refine callW_of hF (.inl rfl) ?_
  simp
  refine callW_of (product_c hC k k (by omega) (by omega)) (.inl rfl) ?_
  have v : ∀ x, isV (wideD x) = true ∧ (∀ f : Nat → D, dpOk f (wideD x)) ∧ (∀ f : Nat → D, dp f (wideD x) = wideD x) ∧ ∀ ks, kill1 ks (wideD x) = wideD x := fun x => ⟨rfl, fun _ => trivial, fun _ => rfl, fun _ => by simp [wideD]⟩
  simp [v]
  refine callW_of (times_c hC (k * k) f (by omega) (by omega) (by omega)) (.inl rfl) ?_
  simp [v]
  refine callW_of (over_c hC (k * k * f) l (by omega) (by omega) (by omega)) (.inl rfl) ?_
  simp [v]
  refine callW_of (root_c hC (k * k * f / l)) (.inl rfl) ?_
  simp
theorem Full_c (s : Sec) (fall len : Int) : C 47 [.agg (secC s), .int .i64 fall, .int .i64 len] (.tup [.int .i64 (fullF s fall len).1, .int .i64 (fullF s fall len).2]) [] := by
  have cap : C 53 [.agg (secC s), .int .i64 s.height, .int .i64 fall, .int .i64 len] (.tup [.int .i64 (fullF s fall len).1, .int .i64 (fullF s fall len).2]) [] := by
    refine start hC (nf := N53_catalogue_Capacity) rfl rfl ?_
    simp [N53_catalogue_Capacity, secC]
    have hvc := valid_c hC s
    rw [secC] at hvc
    refine callW_of hvc (.inl rfl) ?_
    cases hv : secValid s
    · simp [fullF, hv]
    have hh : ¬ s.height < 0 := by
      simp only [secValid, Bool.and_eq_true, decide_eq_true_eq] at hv
      omega
    simp [hh]
    refine callW_of (slope_c hC fall len) (.inl rfl) ?_
    have es : (decide (0 ≤ fall) && decide (fall ≤ 4194304) && decide (1 ≤ len) && decide (len ≤ 16777216)) = slopeOk fall len := rfl
    rw [es]
    cases hs : slopeOk fall len
    · simp [fullF, hv, hs]
    simp
    have hcc := carried_c hC s fall len hv hs
    rw [secC] at hcc
    refine callW_of hcc (.inl rfl) ?_
    simp
    refine brB_of (fun c => ?_) (fun c => ?_) <;> simp [c] <;> simp at c
    · have c' : 1099511627776 < capN s fall len := by omega
      simp [fullF, hv, hs, c']
    · have c' : ¬ 1099511627776 < capN s fall len := by omega
      simp [fullF, hv, hs, c']
  refine start hC (nf := N47_catalogue_Full) rfl rfl ?_
  simp [N47_catalogue_Full, secC]
  rw [secC] at cap
  refine callW_of cap (.inl rfl) ?_
  simp
end Go.Gv

set_option linter.unusedSimpArgs false
namespace Go.Gv

def catValid (l : List Sec) : Bool := decide (l.length ≤ 40) && l.all secValid && decide ((l.map (·.name)).Nodup)
def namesK (l : List Sec) : List D := ((l.map (·.name)).reverse).map D.str

theorem mpGet_set : ∀ (xs : List (List UInt8)) (n : Nat), n = xs.length → ∀ s, (mpGet (xs.map D.str) (List.replicate n (.bool true)) (.str s)).getD (.bool false) = .bool (decide (s ∈ xs))
  | [], n, h, s => by simp [mpGet]
  | x :: xs, n, h, s => by
    obtain ⟨m, rfl⟩ : ∃ m, n = m + 1 := ⟨n - 1, by simp at h; omega⟩
    have ih := mpGet_set xs m (by simpa using h) s
    simp only [List.map_cons, List.replicate_succ, mpGet, eqD, eqD1, decide_eq_true_eq]
    by_cases e : s = x
    · subst e; simp
    · rw [if_neg e, ih]; simp [e]

variable {C : CC} (hC : Closed prog C)
include hC
theorem catValid_c (b : Bool) (l : List Sec) : C 44 [slx b (l.map secC)] (.bool (catValid l)) [] := by
  refine start hC (nf := N44_catalogue_Valid) rfl rfl ?_
  simp [N44_catalogue_Valid]
  refine brB_of (fun h => ?_) (fun h => ?_) <;> simp at h
  · simp [catValid]; omega
  simp
  refine loop_of Nat (fun i => [(3, .mrf 10144), (10144, .mp 0 1 (namesK (l.take i)) (List.replicate i (.bool true))), (10, slx b (l.map secC)), (11, .int .i64 l.length), (12, .int .i64 i)])
    (fun i => i ≤ l.length ∧ (∀ x ∈ l.take i, secValid x = true) ∧ ((l.map (·.name)).take i).Nodup) (fun i => l.length - i) 0 (by simp) (by simp [namesK]) ?_
  rintro i ⟨hi, hv, hn⟩
  simp
  refine brB_of (fun h3 => ?_) (fun h3 => ?_) <;> simp at h3
  · have ht : l.take (i + 1) = l.take i ++ [l[i]] := List.take_succ_eq_append_getElem h3
    have hg := mpGet_set ((l.take i).map (·.name)).reverse i (by simp; omega) l[i].name
    rw [show ((l.take i).map (·.name)).reverse.map D.str = namesK (l.take i) from rfl] at hg
    have hk : D.str l[i].name :: namesK (l.take i) = namesK (l.take (i + 1)) := by
      rw [namesK, namesK, ht]
      simp only [List.map_append, List.map_cons, List.map_nil, List.reverse_append, List.reverse_cons, List.reverse_nil, List.nil_append, List.cons_append]
    have hlen : (namesK (l.take i)).length < maxLen := by
      have : (namesK (l.take i)).length ≤ 40 := by simp [namesK]; omega
      unfold maxLen; omega
    have hw : IntKind.wrap .i64 ((i : Int) + 1) = ((i + 1 : Nat) : Int) := wrap_i64 (by omega) (by omega)
    have bad1 : secValid l[i] = false → catValid l = false := fun e => by
      simp only [catValid, Bool.and_eq_false_iff, List.all_eq_false]
      exact .inl (.inr ⟨l[i], List.getElem_mem h3, by simp [e]⟩)
    have h5 : (l.map (·.name)).take (i + 1) = (l.map (·.name)).take i ++ [l[i].name] := by
      rw [List.take_succ_eq_append_getElem (by simpa using h3)]; simp
    have bad2 : l[i].name ∈ (l.map (·.name)).take i → catValid l = false := fun e => by
      simp only [catValid, Bool.and_eq_false_iff, decide_eq_false_iff_not]
      right
      intro hnd
      have h6 := (List.take_sublist (i + 1) _).nodup hnd
      rw [h5, List.nodup_append] at h6
      exact h6.2.2 _ e _ (by simp) rfl
    simp [h3, secC]
    have hvc := valid_c hC l[i]
    rw [secC] at hvc
    refine callW_of hvc (.inl rfl) ?_
    cases hvi : secValid l[i]
    · simp [bad1 hvi]
    · have hnm : l[i].name.length ≤ maxLen := by
        simp only [secValid, isName, Bool.and_eq_true, decide_eq_true_eq] at hvi
        unfold maxLen; omega
      simp [hg, hnm]
      refine brB_of (fun h4 => ?_) (fun h4 => ?_) <;> simp [h4] <;> simp at h4
      · exact bad2 h4
      · simp [hlen, hnm, hw]
        refine ⟨i + 1, ⟨by omega, ?_, ?_⟩, by omega, ⟨hk, ?_⟩, rfl⟩
        · intro x hx
          rw [ht] at hx
          rcases List.mem_append.1 hx with hx | hx
          · exact hv x hx
          · simp at hx; subst hx; exact hvi
        · rw [h5, List.nodup_append]
          refine ⟨hn, by simp, fun a ha b hb => ?_⟩
          simp at hb
          subst hb
          rintro rfl
          exact h4 ha
        · rw [List.replicate_succ]
  · have hil : i = l.length := by omega
    subst hil
    rw [List.take_of_length_le (by simp)] at hn
    simp at hv
    simp [catValid, hn]
    exact ⟨by omega, hv⟩
end Go.Gv

set_option linter.unusedSimpArgs false
namespace Go.Gv

structure Job where
  below : SlI
  lengths : SlI
  flows : SlI
  falls : SlI
  room : SlI
  secN : Bool
  secs : List Sec
  deriving Inhabited
def jobC (j : Job) : List D := [slI j.below, slI j.lengths, slI j.flows, slI j.falls, slI j.room, slx j.secN (j.secs.map secC)]
def manySec (s : Sec) : Bool := decide (20 < s.area.length) || decide (20 < s.conv.length) || decide (60 < s.name.length)
def manyF (l : List Sec) : Bool := decide (8 < l.length) || l.any manySec
def largeF (j : Job) : Bool := decide (12 < j.below.l.length) || decide (12 < j.lengths.l.length) || decide (12 < j.flows.l.length) || decide (12 < j.falls.l.length) || decide (12 < j.room.l.length) || manyF j.secs
def inRq (n a b : Int) : Bool := a ≤ n && n ≤ b
def pipeOk (j : Job) (i : Nat) : Bool := (j.below.l[i]! == -1 || (decide ((i : Int) < j.below.l[i]!) && decide (j.below.l[i]! < j.below.l.length))) && inRq j.lengths.l[i]! 1 16777216 && inRq j.flows.l[i]! 0 1099511627776 && inRq j.falls.l[i]! 0 4194304 && inRq j.room.l[i]! 0 4194304
def jobValid (j : Job) : Bool := decide (j.below.l.length ≤ 400) && decide (j.lengths.l.length = j.below.l.length) && decide (j.flows.l.length = j.below.l.length) && decide (j.falls.l.length = j.below.l.length) && decide (j.room.l.length = j.below.l.length) && decide (0 < j.secs.length) && catValid j.secs && (List.range j.below.l.length).all (pipeOk j)

@[simp] theorem slI_slx {x : SlI} : slI x = slx x.n (x.l.map fun n => [.int .i64 n]) := _root_.id rfl

variable {C : CC} (hC : Closed prog C)
include hC
theorem within_c (n a b : Int) : C 29 [.int .i64 n, .int .i64 a, .int .i64 b] (.bool (a ≤ n && n ≤ b)) [] := by
  refine start hC (nf := N29_sizing_within) rfl rfl ?_
  simp [N29_sizing_within]
  refine brB_of (fun h => ?_) (fun h => ?_) <;> simp at h <;> simp [h] <;> omega
theorem manySec_c (s : Sec) : C 46 [.agg (secC s)] (.bool (manySec s)) [] := by
  refine start hC (nf := N46_law47_many_1) rfl rfl ?_
  simp [N46_law47_many_1, secC]
  refine brB_of (fun h => ?_) (fun h => ?_) <;> simp [h] <;> simp at h
  · simp [manySec]; omega
  · refine brB_of (fun h2 => ?_) (fun h2 => ?_) <;> simp [h2] <;> simp at h2
    · simp [manySec]; omega
    · simp [manySec]
      rw [Bool.eq_iff_iff]; simp
      omega
theorem many_c (b : Bool) (l : List Sec) : C 25 [slx b (l.map secC)] (.bool (manyF l)) [] := by
  refine start hC (nf := N25_law47_many) rfl rfl ?_
  simp [N25_law47_many]
  refine brB_of (fun h => ?_) (fun h => ?_) <;> simp [h] <;> simp at h
  · simp [manyF]; omega
  · refine callW_of (hasSec_c hC manySec (by omega) (fun x _ => manySec_c hC x)) (.inl rfl) ?_
    have e : ¬ 8 < l.length := by omega
    simp [manyF, e]
theorem large_c (j : Job) : C 4 [.agg (jobC j)] (.bool (largeF j)) [] := by
  refine start hC (nf := N4_law47_large) rfl rfl ?_
  simp [N4_law47_large, jobC]
  refine brB_of (fun h => ?_) (fun h => ?_) <;> simp [h] <;> simp at h
  · simp [largeF]; omega
  refine brB_of (fun h2 => ?_) (fun h2 => ?_) <;> simp [h2] <;> simp at h2
  · simp [largeF]; omega
  refine brB_of (fun h3 => ?_) (fun h3 => ?_) <;> simp [h3] <;> simp at h3
  · simp [largeF]; omega
  refine brB_of (fun h4 => ?_) (fun h4 => ?_) <;> simp [h4] <;> simp at h4
  · simp [largeF]; omega
  refine brB_of (fun h5 => ?_) (fun h5 => ?_) <;> simp [h5] <;> simp at h5
  · simp [largeF]; omega
  refine callW_of (many_c hC _ _) (.inl rfl) ?_
  simp [largeF]
  have e1 : ¬ 12 < j.below.l.length := by omega
  have e2 : ¬ 12 < j.lengths.l.length := by omega
  have e3 : ¬ 12 < j.flows.l.length := by omega
  have e4 : ¬ 12 < j.falls.l.length := by omega
  have e5 : ¬ 12 < j.room.l.length := by omega
  simp [e1, e2, e3, e4, e5]
end Go.Gv

set_option linter.unusedSimpArgs false
namespace Go.Gv
variable {C : CC} (hC : Closed prog C)
include hC
theorem Valid_c (j : Job) : C 24 [.agg (jobC j)] (.bool (jobValid j)) [] := by
  refine start hC (nf := N24_sizing_Valid) rfl rfl ?_
  simp [N24_sizing_Valid, jobC]
  refine brB_of (fun h => ?_) (fun h => ?_) <;> simp [h] <;> simp at h
  · simp [jobValid]; omega
  refine brB_of (fun h2 => ?_) (fun h2 => ?_) <;> simp [h2] <;> simp at h2
  · simp [jobValid]; omega
  refine brB_of (fun h3 => ?_) (fun h3 => ?_) <;> simp [h3] <;> simp at h3
  · simp [jobValid]; omega
  refine brB_of (fun h4 => ?_) (fun h4 => ?_) <;> simp [h4] <;> simp at h4
  · simp [jobValid]; omega
  refine brB_of (fun h5 => ?_) (fun h5 => ?_) <;> simp [h5] <;> simp at h5
  · simp [jobValid]; omega
  refine brB_of (fun h6 => ?_) (fun h6 => ?_) <;> simp [h6] <;> simp at h6
  · simp [jobValid, h6]
  refine callW_of (catValid_c hC _ _) (.inl rfl) ?_
  cases h7 : catValid j.secs
  · simp [jobValid, h7]
  simp
  refine loop_of Nat (fun i => [(1, .ptr [slx j.below.n (List.map (fun n => [D.int IntKind.i64 n]) j.below.l),
            slx j.lengths.n (List.map (fun n => [D.int IntKind.i64 n]) j.lengths.l),
            slx j.flows.n (List.map (fun n => [D.int IntKind.i64 n]) j.flows.l),
            slx j.falls.n (List.map (fun n => [D.int IntKind.i64 n]) j.falls.l),
            slx j.room.n (List.map (fun n => [D.int IntKind.i64 n]) j.room.l), slx j.secN (List.map secC j.secs)]), (3, .int .i64 j.below.l.length), (51, .int .i64 j.below.l.length), (52, .int .i64 i)])
    (fun i => i ≤ j.below.l.length ∧ ∀ k < i, pipeOk j k = true) (fun i => j.below.l.length - i) 0 (by simp) (by simp) ?_
  rintro i ⟨hi, hp⟩
  simp
  refine brB_of (fun h8 => ?_) (fun h8 => ?_) <;> simp [h8] <;> simp at h8
  · have g2 : i < j.lengths.l.length := by omega
    have g3 : i < j.flows.l.length := by omega
    have g4 : i < j.falls.l.length := by omega
    have g5 : i < j.room.l.length := by omega
    have hw : IntKind.wrap .i64 ((i : Int) + 1) = ((i + 1 : Nat) : Int) := wrap_i64 (by omega) (by omega)
    have bad : pipeOk j i = false → jobValid j = false := fun e => by
      simp only [jobValid, Bool.and_eq_false_iff, List.all_eq_false]
      exact .inr ⟨i, by simpa using h8, by simp [e]⟩
    have next : pipeOk j i = true → ∃ s' : Nat, (s' ≤ j.below.l.length ∧ ∀ k < s', pipeOk j k = true) ∧ j.below.l.length - s' < j.below.l.length - i ∧ s' = i + 1 := fun e => ⟨i + 1, ⟨by omega, fun k hk => by
      rcases Nat.lt_succ_iff_lt_or_eq.1 hk with hk | rfl
      · exact hp k hk
      · exact e⟩, by omega, rfl⟩
    have he : pipeOk j i = ((j.below.l[i] == -1 || (decide ((i : Int) < j.below.l[i]) && decide (j.below.l[i] < j.below.l.length))) && (inRq j.lengths.l[i] 1 16777216 && inRq j.flows.l[i] 0 1099511627776 && inRq j.falls.l[i] 0 4194304 && inRq j.room.l[i] 0 4194304)) := by
      simp only [pipeOk, getElem!_pos j.below.l i h8, getElem!_pos j.lengths.l i g2, getElem!_pos j.flows.l i g3, getElem!_pos j.falls.l i g4, getElem!_pos j.room.l i g5, Bool.and_assoc]
    rw [he] at bad next
    have e1 : j.below.l[i]?.getD 0 = j.below.l[i] := by simp [h8]
    simp [h8]
    have cbs : (j.below.l[i] == -1 || (decide ((i : Int) < j.below.l[i]) && decide (j.below.l[i] < j.below.l.length))) = true → ((inRq j.lengths.l[i] 1 16777216 && inRq j.flows.l[i] 0 1099511627776 && inRq j.falls.l[i] 0 4194304 && inRq j.room.l[i] 0 4194304) = false → jobValid j = false) ∧
        ((inRq j.lengths.l[i] 1 16777216 && inRq j.flows.l[i] 0 1099511627776 && inRq j.falls.l[i] 0 4194304 && inRq j.room.l[i] 0 4194304) = true → ∃ s' : Nat, (s' ≤ j.below.l.length ∧ ∀ k < s', pipeOk j k = true) ∧ j.below.l.length - s' < j.below.l.length - i ∧ s' = i + 1) := fun cb => by
      rw [cb] at bad next
      exact ⟨fun h => bad (by rw [Bool.true_and]; exact h), fun h => next (by rw [Bool.true_and]; exact h)⟩
    refine brB_of (fun c1 => ?pa) (fun c1 => ?pb) <;> simp [h8] at c1 <;> simp [c1, h8, g2]
    case' pa =>
      refine brB_of (fun c2 => ?_) (fun c2 => ?_) <;> simp [h8] at c2 <;> simp [c2, h8, g2]
      · refine bad ?_
        have : ¬ (i : Int) < j.below.l[i] := by omega
        simp [c1, this]
      refine brB_of (fun c3 => ?_) (fun c3 => ?_) <;> simp [h8] at c3 <;> simp [c3, h8, g2]
      · refine bad ?_
        have : ¬ j.below.l[i] < (j.below.l.length : Int) := by omega
        simp [c1, this]
      obtain ⟨bad', next'⟩ := cbs (by simp [c3]; omega)
    case' pb => obtain ⟨bad', next'⟩ := cbs (by simp [c1])
    all_goals
      clear bad next cbs
      refine callW_of (within_c hC _ _ _) (.inl rfl) ?_
      cases d1 : (decide (1 ≤ j.lengths.l[i]) && decide (j.lengths.l[i] ≤ 16777216))
      · simp [d1, h8]
        exact bad' (by simp only [inRq, d1, Bool.false_and])
      simp [d1, h8, g3]
      refine callW_of (within_c hC _ _ _) (.inl rfl) ?_
      cases d2 : (decide (0 ≤ j.flows.l[i]) && decide (j.flows.l[i] ≤ 1099511627776))
      · simp [d2, h8]
        exact bad' (by simp only [inRq, d2, Bool.false_and, Bool.and_false])
      simp [d2, h8, g4]
      refine callW_of (within_c hC _ _ _) (.inl rfl) ?_
      cases d3 : (decide (0 ≤ j.falls.l[i]) && decide (j.falls.l[i] ≤ 4194304))
      · simp [d3, h8]
        exact bad' (by simp only [inRq, d3, Bool.false_and, Bool.and_false])
      simp [d3, h8, g5]
      refine callW_of (within_c hC _ _ _) (.inl rfl) ?_
      cases d4 : (decide (0 ≤ j.room.l[i]) && decide (j.room.l[i] ≤ 4194304))
      · simp [d4, h8]
        exact bad' (by simp only [inRq, d4, Bool.false_and, Bool.and_false])
      simp [d4, h8, hw]
      obtain ⟨s', q1, q2, rfl⟩ := next' (by simp only [inRq, d1, d2, d3, d4, Bool.and_true])
      exact ⟨_, q1, q2, rfl⟩
  · have : i = j.below.l.length := by omega
    subst this
    have h6' : 0 < j.secs.length := List.length_pos_iff.2 h6
    simp [jobValid, h7, h6', show j.below.l.length ≤ 400 by omega, show j.lengths.l.length = j.below.l.length by omega, show j.flows.l.length = j.below.l.length by omega, show j.falls.l.length = j.below.l.length by omega, show j.room.l.length = j.below.l.length by omega]
    exact hp
end Go.Gv

set_option linter.unusedSimpArgs false
namespace Go.Gv

def possAt (j : Job) (i s : Nat) : Bool := ((fullF j.secs[s]! j.falls.l[i]! j.lengths.l[i]!).2 == 5 || ((fullF j.secs[s]! j.falls.l[i]! j.lengths.l[i]!).2 == 0 && decide (j.flows.l[i]! ≤ (fullF j.secs[s]! j.falls.l[i]! j.lengths.l[i]!).1))) && decide (j.secs[s]!.height ≤ j.room.l[i]!)
def aboveF (j : Job) (i : Nat) : List Nat := (List.range j.below.l.length).filter fun a => decide (j.below.l[a]! = (i : Int))
def bl (b : Bool) : List D := [.bool b]
def it (n : Nat) : List D := [.int .i64 (n : Int)]
def possD (j : Job) (i : Nat) : List D := [.sl ((List.range j.secs.length).map fun s => bl (possAt j i s))]
def aboveD (j : Job) (i : Nat) : List D := [.sl ((aboveF j i).map it)]
def treeD (j : Job) : D := .ptr (jobC j ++ [.sl ((List.range j.below.l.length).map (possD j)), .sl ((List.range j.below.l.length).map (aboveD j))])

@[simp] theorem isV_treeD {j} : isV (treeD j) = true := _root_.id rfl
@[simp] theorem isK_treeD {j} : isK (treeD j) = true := _root_.id rfl
@[simp] theorem isP_treeD {j} : isP (treeD j) = true := _root_.id rfl
@[simp] theorem isS_treeD {j} : isS (treeD j) = true := _root_.id rfl
@[simp] theorem isC1_treeD {j} : isC1 (treeD j) = true := _root_.id rfl
@[simp] theorem isO_treeD {j} : isO (treeD j) = false := _root_.id rfl
@[simp] theorem isF1_treeD {j} : isF1 (treeD j) = false := _root_.id rfl
@[simp] theorem isF_treeD {j} : isF (treeD j) = false := _root_.id rfl
@[simp] theorem isB_treeD {j} : isB (treeD j) = false := _root_.id rfl
@[simp] theorem isAny_treeD {j} : isAny (treeD j) = false := _root_.id rfl
@[simp] theorem cellsOf_treeD {j} : cellsOf (treeD j) = [(treeD j)] := _root_.id rfl
@[simp] theorem aggOf_treeD {j} : aggOf (treeD j) = (treeD j) := _root_.id rfl
@[simp] theorem cellV_treeD {j} : cellV (treeD j) = (treeD j) := _root_.id rfl
@[simp] theorem mroots1_treeD {j} : mroots1 (treeD j) = [] := _root_.id rfl
@[simp] theorem mroots_treeD {j} : mroots (treeD j) = [] := _root_.id rfl
@[simp] theorem dp1_treeD {f : Nat → D} {j} : dp1 f (treeD j) = (treeD j) := _root_.id rfl
@[simp] theorem dp_treeD {f : Nat → D} {j} : dp f (treeD j) = (treeD j) := _root_.id rfl
@[simp] theorem dpOk1_treeD {f : Nat → D} {j} : dpOk1 f (treeD j) = True := _root_.id rfl
@[simp] theorem dpOk_treeD {f : Nat → D} {j} : dpOk f (treeD j) = True := _root_.id rfl
@[simp] theorem ldc_treeD {p i o} {j} : ldc p i o (treeD j) = (treeD j) := _root_.id rfl
@[simp] theorem kill1_treeD {ks} {j} : kill1 ks (treeD j) = (treeD j) := by unfold treeD; exact kill1_ptr

theorem treeD_eq {j} : treeD j = .ptr (jobC j ++ [.sl ((List.range j.below.l.length).map (possD j)), .sl ((List.range j.below.l.length).map (aboveD j))]) := _root_.id rfl
theorem jobC_eq {j} : jobC j = [slI j.below, slI j.lengths, slI j.flows, slI j.falls, slI j.room, slx j.secN (j.secs.map secC)] := _root_.id rfl
theorem secC_eq {s} : secC s = [.str s.name, .int .i64 s.height, .int .i64 s.price, slx s.areaN (s.area.map knD), slx s.convN (s.conv.map knD)] := _root_.id rfl

def leastStep (ok : Nat → Bool) (vs : List Int) (b : Int × Int) (s : Nat) : Int × Int := if vs[s]! ≠ -1 ∧ ok s = true ∧ (b.1 = -1 ∨ vs[s]! < b.1) then (vs[s]!, (s : Int)) else b
def leastF (ok : Nat → Bool) (vs : List Int) : Int × Int := (List.range vs.length).foldl (leastStep ok vs) (-1, -1)
def okF (j : Job) (pipe : Nat) (height : Int) (s : Nat) : Bool := possAt j pipe s && decide (j.secs[s]!.height ≤ height)

variable {C : CC} (hC : Closed prog C)
include hC
theorem least_c (j : Job) (b : Bool) (vs : List Int) (pipe : Nat) (height : Int) (hp : pipe < j.below.l.length) (hv : vs.length ≤ j.secs.length) (hs : j.secs.length < 2 ^ 62) :
    C 40 [treeD j, slx b (vs.map fun n => [.int .i64 n]), .int .i64 pipe, .int .i64 height] (.tup [.int .i64 (leastF (okF j pipe height) vs).1, .int .i64 (leastF (okF j pipe height) vs).2]) [] := by
  obtain ⟨r, hr⟩ : ∃ r, r = leastF (okF j pipe height) vs := ⟨_, rfl⟩
  rw [← hr]
  refine start hC (nf := N40_sizing_tree_least) rfl rfl ?_
  simp [N40_sizing_tree_least]
  refine loop_of (Nat × Int × Int) (fun s => [(0, treeD j), (2, .int .i64 pipe), (3, .int .i64 height), (10, .int .i64 s.2.1), (11, .int .i64 s.2.2), (14, slx b (vs.map fun n => [.int .i64 n])), (15, .int .i64 vs.length), (16, .int .i64 s.1)])
    (fun s => s.1 ≤ vs.length ∧ s.2 = (List.range s.1).foldl (leastStep (okF j pipe height) vs) (-1, -1)) (fun s => vs.length - s.1) (0, -1, -1) (by simp) (by simp) ?_
  rintro ⟨i, best, at_⟩ ⟨hi, hst⟩
  simp only at hi hst
  simp
  refine brB_of (fun h => ?_) (fun h => ?_) <;> simp at h <;> simp [h]
  · have hw : IntKind.wrap .i64 ((i : Int) + 1) = ((i + 1 : Nat) : Int) := wrap_i64 (by omega) (by omega)
    have his : i < j.secs.length := by omega
    have hstep : (List.range (i + 1)).foldl (leastStep (okF j pipe height) vs) (-1, -1) = leastStep (okF j pipe height) vs (best, at_) i := by
      rw [List.range_succ, List.foldl_append, ← hst]; rfl
    have eo : okF j pipe height i = (possAt j pipe i && decide (j.secs[i].height ≤ height)) := by simp only [okF, getElem!_pos j.secs i his]
    simp only [leastStep, getElem!_pos vs i h, eo] at hstep
    have next : ∀ (x y : Int), (x, y) = (List.range (i + 1)).foldl (leastStep (okF j pipe height) vs) (-1, -1) → ∃ a a_1 b_1, (a ≤ vs.length ∧ (a_1, b_1) = (List.range a).foldl (leastStep (okF j pipe height) vs) (-1, -1)) ∧ vs.length - a < vs.length - i ∧ x = a_1 ∧ y = b_1 ∧ (i : Int) + 1 = (a : Int) := fun x y e => ⟨i + 1, x, y, ⟨by omega, e⟩, by omega, rfl, rfl, rfl⟩
    refine brB_of (fun c1 => ?_) (fun c1 => ?_) <;> simp [h] at c1 <;> simp [c1, h, treeD_eq, jobC_eq, hp, possD, his, bl, secC_eq, hw]
    · refine brB_of (fun c2 => ?_) (fun c2 => ?_) <;> simp [c1, c2, h, treeD_eq, jobC_eq, hp, possD, his, bl, secC_eq, hw]
      · refine brB_of (fun c3 => ?_) (fun c3 => ?_) <;> simp at c3 <;> simp [c1, c2, c3, h, treeD_eq, jobC_eq, hp, possD, his, bl, secC_eq, hw]
        · refine brB_of (fun c4 => ?_) (fun c4 => ?_) <;> simp at c4 <;> simp [c1, c2, c3, c4, hw, treeD_eq, jobC_eq]
          · exact next vs[i] i (by rw [hstep]; simp [c1, c2, c3, c4])
          · refine brB_of (fun c5 => ?_) (fun c5 => ?_) <;> simp at c5 <;> simp [c1, c2, c3, c4, c5, hw, treeD_eq, jobC_eq]
            · exact next vs[i] i (by rw [hstep]; simp [c1, c2, c3, c4, c5])
            · exact next best at_ (by rw [hstep]; simp [c1, c2, c3, c4, show ¬ vs[i] < best by omega])
        · exact next best at_ (by rw [hstep]; simp [c1, c2, show ¬ j.secs[i].height ≤ height by omega])
      · exact next best at_ (by rw [hstep]; simp [c1, c2])
    · exact next best at_ (by rw [hstep]; simp [c1])
  · have : i = vs.length := by omega
    subst this
    rw [hr, leastF, ← hst]
    simp
end Go.Gv

set_option linter.unusedSimpArgs false
namespace Go.Gv
theorem poss_eq {j : Job} (hv : jobValid j = true) {i s : Nat} (hi : i < j.below.l.length) (hs : s < j.secs.length) :
    possAt j i s = (decide (j.secs[s]!.height ≤ j.room.l[i]!) && decide (j.flows.l[i]! ≤ (capN j.secs[s]! j.falls.l[i]! j.lengths.l[i]! : Int))) := by
  have hp : inRq j.lengths.l[i]! 1 16777216 = true ∧ inRq j.flows.l[i]! 0 1099511627776 = true ∧ inRq j.falls.l[i]! 0 4194304 = true := by
    simp only [jobValid, Bool.and_eq_true, List.all_eq_true, List.mem_range] at hv
    have := hv.2 i hi
    simp only [pipeOk, Bool.and_eq_true] at this
    exact ⟨this.1.1.1.2, this.1.1.2, this.1.2⟩
  simp only [inRq, Bool.and_eq_true, decide_eq_true_eq] at hp
  have hsv : secValid j.secs[s]! = true := by
    simp only [jobValid, catValid, Bool.and_eq_true, List.all_eq_true] at hv
    rw [getElem!_pos j.secs s hs]
    exact hv.1.2.1.2 _ (List.getElem_mem hs)
  have hsl : slopeOk j.falls.l[i]! j.lengths.l[i]! = true := by
    simp only [slopeOk, Bool.and_eq_true, decide_eq_true_eq]; omega
  rw [possAt, fullF, if_pos hsv, if_pos hsl]
  by_cases hc : 1099511627776 < capN j.secs[s]! j.falls.l[i]! j.lengths.l[i]!
  · rw [if_pos hc]
    have : decide (j.flows.l[i]! ≤ (capN j.secs[s]! j.falls.l[i]! j.lengths.l[i]! : Int)) = true := by rw [decide_eq_true_eq]; omega
    rw [this]
    simp
  · rw [if_neg hc]
    simp
    rw [Bool.and_comm]

end Go.Gv

set_option linter.unusedSimpArgs false
namespace Go.Gv

def sumG (v : Nat → Int) : List Nat → Int → Option Int
  | [], s => some s
  | a :: l, s => if v a = -1 then none else sumG v l (IntKind.wrap .i64 (s + v a))
def lv (j : Job) (val : Nat → List Int) (h : Int) (a : Nat) : Int := (leastF (okF j a h) (val a)).1
def costF (j : Job) (val : Nat → List Int) (i s : Nat) : Int := (sumG (lv j val j.secs[s]!.height) (aboveF j i) (IntKind.wrap .i64 (j.lengths.l[i]! * j.secs[s]!.price))).getD (-1)
def rowsF (vals : List SlI) (a : Nat) : List Int := vals[a]!.l

theorem above_lt {j : Job} {i a : Nat} (h : a ∈ aboveF j i) : a < j.below.l.length := by
  simp only [aboveF, List.mem_filter, List.mem_range] at h
  exact h.1
theorem above_len (j : Job) (i : Nat) : (aboveF j i).length ≤ j.below.l.length := by
  have := List.length_filter_le (fun a => decide (j.below.l[a]! = (i : Int))) (List.range j.below.l.length)
  simpa [aboveF] using this
def rootsF (j : Job) : List Nat := (List.range j.below.l.length).filter fun a => decide (j.below.l[a]! = -1)
def boundF (j : Job) (val : Nat → List Int) : Int := (sumG (lv j val 4194304) (rootsF j) 0).getD (-1)

variable {C : CC} (hC : Closed prog C)
include hC
theorem cost_c (j : Job) (b : Bool) (vals : List SlI) (pipe s : Nat) (hp : pipe < j.below.l.length) (hl : pipe < j.lengths.l.length) (hs : s < j.secs.length) (hn : j.below.l.length < 2 ^ 62) (hm : j.secs.length < 2 ^ 62) (hva : ∀ a ∈ aboveF j pipe, a < vals.length ∧ vals[a]!.l.length ≤ j.secs.length) :
    C 31 [treeD j, slx b (vals.map fun r => [slI r]), .int .i64 pipe, .int .i64 s] (.int .i64 (costF j (rowsF vals) pipe s)) [] := by
  obtain ⟨r, hr⟩ : ∃ r, r = costF j (rowsF vals) pipe s := ⟨_, rfl⟩
  rw [← hr]
  have hal := above_len j pipe
  refine start hC (nf := N31_sizing_tree_cost) rfl rfl ?_
  simp [N31_sizing_tree_cost]
  simp [treeD_eq, jobC_eq, hp, hl, hs, secC_eq, aboveD]
  refine ⟨indW_of (by decide +kernel), ?_⟩
  refine loop_of (Nat × Int) (fun s' => [(0, treeD j), (1, slx b (vals.map fun r => [slI r])), (3, .int .i64 s), (9, .int .i64 s'.2), (38, .sl ((aboveF j pipe).map it)), (39, .int .i64 (aboveF j pipe).length), (40, .int .i64 s'.1)])
    (fun s' => s'.1 ≤ (aboveF j pipe).length ∧ (sumG (lv j (rowsF vals) j.secs[s].height) ((aboveF j pipe).drop s'.1) s'.2).getD (-1) = r) (fun s' => (aboveF j pipe).length - s'.1) (0, IntKind.wrap .i64 (j.lengths.l[pipe] * j.secs[s].price)) ⟨by simp, ?_⟩ (by simp [treeD_eq, jobC_eq]) ?_
  · rw [hr, costF, getElem!_pos j.secs s hs, getElem!_pos j.lengths.l pipe hl]; rfl
  rintro ⟨k, sum⟩ ⟨hk, hsum⟩
  simp only at hk hsum
  simp
  refine brB_of (fun h => ?_) (fun h => ?_) <;> simp at h <;> simp [h]
  · have hw : IntKind.wrap .i64 ((k : Int) + 1) = ((k + 1 : Nat) : Int) := wrap_i64 (by omega) (by omega)
    obtain ⟨a, ha⟩ : ∃ a, a = (aboveF j pipe)[k] := ⟨_, rfl⟩
    have hmem : a ∈ aboveF j pipe := ha ▸ List.getElem_mem h
    obtain ⟨ha1, ha2⟩ := hva a hmem
    have hd : (aboveF j pipe).drop k = a :: (aboveF j pipe).drop (k + 1) := by rw [ha, List.drop_eq_getElem_cons h]
    rw [hd, sumG] at hsum
    rw [getElem!_pos vals a ha1] at ha2
    have hlc := least_c hC j vals[a].n vals[a].l a j.secs[s].height (above_lt hmem) ha2 hm
    have ev : (leastF (okF j a j.secs[s].height) vals[a].l).1 = lv j (rowsF vals) j.secs[s].height a := by simp only [lv, rowsF, getElem!_pos vals a ha1]
    rw [ev] at hlc
    simp [h, it, ← ha, ha1]
    simp [treeD_eq, jobC_eq, hp, hl, hs, secC_eq, h, it, ← ha, ha1]
    simp [treeD_eq, jobC_eq] at hlc
    refine callW_of hlc (.inl rfl) ?_
    simp
    refine ⟨indW_of (by decide +kernel), ?_⟩
    refine brB_of (fun c => ?_) (fun c => ?_) <;> simp at c <;> simp [c, hw, treeD_eq, jobC_eq]
    · rw [if_pos c] at hsum
      simp at hsum
      exact hsum
    · rw [if_neg c] at hsum
      exact ⟨k + 1, _, ⟨by omega, hsum⟩, by omega, rfl, rfl⟩
  · have hk' : k = (aboveF j pipe).length := by omega
    subst hk'
    simp [sumG] at hsum
    simp [hsum]
theorem bound_c (j : Job) (b : Bool) (vals : List SlI) (hn : j.below.l.length < 2 ^ 62) (hm : j.secs.length < 2 ^ 62) (hva : ∀ a ∈ rootsF j, a < vals.length ∧ vals[a]!.l.length ≤ j.secs.length) :
    C 32 [treeD j, slx b (vals.map fun r => [slI r])] (.int .i64 (boundF j (rowsF vals))) [] := by
  obtain ⟨r, hr⟩ : ∃ r, r = boundF j (rowsF vals) := ⟨_, rfl⟩
  rw [← hr]
  refine start hC (nf := N32_sizing_tree_bound) rfl rfl ?_
  simp [N32_sizing_tree_bound]
  simp [treeD_eq, jobC_eq]
  refine loop_of (Nat × Int) (fun s' => [(0, treeD j), (1, slx b (vals.map fun r => [slI r])), (5, .int .i64 s'.2), (14, slI j.below), (15, .int .i64 j.below.l.length), (16, .int .i64 s'.1)])
    (fun s' => s'.1 ≤ j.below.l.length ∧ (sumG (lv j (rowsF vals) 4194304) (((List.range j.below.l.length).drop s'.1).filter fun a => decide (j.below.l[a]! = -1)) s'.2).getD (-1) = r) (fun s' => j.below.l.length - s'.1) (0, 0) ⟨by simp, ?_⟩ (by simp [treeD_eq, jobC_eq]) ?_
  · rw [hr, boundF]; rfl
  rintro ⟨k, sum⟩ ⟨hk, hsum⟩
  simp only at hk hsum
  simp
  refine brB_of (fun h => ?_) (fun h => ?_) <;> simp at h <;> simp [h]
  · have hw : IntKind.wrap .i64 ((k : Int) + 1) = ((k + 1 : Nat) : Int) := wrap_i64 (by omega) (by omega)
    have hd : (List.range j.below.l.length).drop k = k :: (List.range j.below.l.length).drop (k + 1) := by rw [List.drop_eq_getElem_cons (by simpa using h)]; simp
    rw [hd, List.filter_cons, getElem!_pos j.below.l k h] at hsum
    refine brB_of (fun c1 => ?_) (fun c1 => ?_) <;> simp [h] at c1 <;> simp [c1, hw, h]
    · simp [c1] at hsum
      exact ⟨k + 1, sum, ⟨by omega, by simpa using hsum⟩, by omega, rfl, rfl⟩
    · have hmem : k ∈ rootsF j := by simp [rootsF, h, c1]
      obtain ⟨ha1, ha2⟩ := hva k hmem
      rw [getElem!_pos vals k ha1] at ha2
      have hlc := least_c hC j vals[k].n vals[k].l k 4194304 h ha2 hm
      have ev : (leastF (okF j k 4194304) vals[k].l).1 = lv j (rowsF vals) 4194304 k := by simp only [lv, rowsF, getElem!_pos vals k ha1]
      rw [ev] at hlc
      simp only [c1, decide_true, if_true, sumG] at hsum
      simp [treeD_eq, jobC_eq, h, ha1]
      simp [treeD_eq, jobC_eq] at hlc
      refine callW_of hlc (.inl rfl) ?_
      simp
      refine brB_of (fun c => ?_) (fun c => ?_) <;> simp at c <;> simp [c, hw, treeD_eq, jobC_eq]
      · rw [if_pos c] at hsum
        simp at hsum
        exact hsum
      · rw [if_neg c] at hsum
        exact ⟨k + 1, _, ⟨by omega, by simpa using hsum⟩, by omega, rfl, rfl⟩
  · have hk' : k = j.below.l.length := by omega
    subst hk'
    rw [List.drop_of_length_le (by simp)] at hsum
    simp [sumG] at hsum
    exact hsum
end Go.Gv

set_option linter.unusedSimpArgs false
namespace Go.Gv

def rowOf (j : Job) (val : Nat → List Int) (i : Nat) : List Int := (List.range j.secs.length).map fun s => if possAt j i s then costF j val i s else -1
def valsUp (j : Job) : Nat → List (List Int)
  | 0 => []
  | i + 1 => valsUp j i ++ [rowOf j (fun a => (valsUp j i)[a]!) i]
def valsF (j : Job) : List (List Int) := valsUp j j.below.l.length
def valN (j : Job) (a : Nat) : List Int := (valsF j)[a]!
def slR (r : List Int) : List D := [.sl (r.map fun v => [.int .i64 v])]
def valsD (j : Job) : D := .sl ((List.range j.below.l.length).map fun a => slR (valN j a))

theorem valsUp_len (j : Job) : ∀ i, (valsUp j i).length = i
  | 0 => rfl
  | i + 1 => by simp [valsUp, valsUp_len j i]
theorem valsUp_get (j : Job) (a : Nat) : ∀ i, a < i → (valsUp j i)[a]! = rowOf j (fun b => (valsUp j a)[b]!) a
  | 0, h => by omega
  | i + 1, h => by
    have hl := valsUp_len j i
    by_cases e : a = i
    · subst e
      rw [getElem!_pos _ a (by rw [valsUp_len]; omega)]
      simp only [valsUp]
      rw [List.getElem_append_right (by omega)]
      simp [hl]
    · have := valsUp_get j a i (by omega)
      rw [getElem!_pos _ a (by rw [valsUp_len]; omega)] at this ⊢
      simp only [valsUp]
      rw [List.getElem_append_left (by omega)]
      exact this
theorem sumG_congr {v v' : Nat → Int} : ∀ {l : List Nat} {s : Int}, (∀ a ∈ l, v a = v' a) → sumG v l s = sumG v' l s
  | [], s, _ => rfl
  | a :: l, s, h => by
    simp only [sumG]
    rw [h a (by simp), sumG_congr (fun b hb => h b (by simp [hb]))]
theorem costF_congr {j : Job} {val val' : Nat → List Int} {i s : Nat} (h : ∀ a ∈ aboveF j i, val a = val' a) : costF j val i s = costF j val' i s := by
  unfold costF
  rw [sumG_congr (v' := lv j val' j.secs[s]!.height) (fun a ha => by simp only [lv, h a ha])]
theorem valid_below {j : Job} (hv : jobValid j = true) {i : Nat} (hi : i < j.below.l.length) : j.below.l[i]! = -1 ∨ ((i : Int) < j.below.l[i]! ∧ j.below.l[i]! < j.below.l.length) := by
  simp only [jobValid, Bool.and_eq_true, List.all_eq_true, List.mem_range] at hv
  have := hv.2 i hi
  simp only [pipeOk, Bool.and_eq_true, Bool.or_eq_true, beq_iff_eq, decide_eq_true_eq] at this
  exact this.1.1.1.1
theorem above_less {j : Job} (hv : jobValid j = true) {i a : Nat} (h : a ∈ aboveF j i) : a < i := by
  have h1 := above_lt h
  simp only [aboveF, List.mem_filter, decide_eq_true_eq] at h
  rcases valid_below hv h1 with h2 | h2 <;> omega
/-- What the values are. -/
theorem valN_eq {j : Job} (hv : jobValid j = true) {i : Nat} (hi : i < j.below.l.length) : valN j i = rowOf j (valN j) i := by
  unfold valN valsF
  rw [valsUp_get j i _ hi]
  unfold rowOf
  refine List.map_congr_left fun s _ => ?_
  rw [costF_congr (val' := fun a => (valsUp j j.below.l.length)[a]!)]
  intro a ha
  have h1 := above_less hv ha
  rw [valsUp_get j a i h1, valsUp_get j a _ (by omega)]
theorem valN_len {j : Job} {i : Nat} (hi : i < j.below.l.length) : (valN j i).length = j.secs.length := by
  unfold valN valsF
  rw [valsUp_get j i _ hi]
  simp [rowOf]

theorem set_range_map {α : Type} (F : Nat → α) (n i : Nat) (x : α) : ((List.range n).map F).set i x = (List.range n).map (fun k => if k = i then x else F k) := by
  apply List.ext_getElem
  · simp
  · intro k h1 h2
    simp only [List.getElem_set, List.getElem_map, List.getElem_range]
    by_cases e : i = k
    · subst e; simp
    · rw [if_neg e, if_neg (Ne.symm e)]
theorem replicate_range {α : Type} (n : Nat) (x : α) : List.replicate n x = (List.range n).map fun _ => x := by
  apply List.ext_getElem <;> simp

/-- The rows that are done. -/
def outR (j : Job) (i s k : Nat) : List Int := if k < i then valN j k else if k = i then (valN j i).take s else []
def outB (j : Job) (i s : Nat) : D := .blk 1 ((List.range j.below.l.length).map fun k => [.own 1 ((outR j i s k).map fun v => [.int .i64 v])])
theorem outB_eq {j i s} : outB j i s = .blk 1 ((List.range j.below.l.length).map fun k => [.own 1 ((outR j i s k).map fun v => [.int .i64 v])]) := _root_.id rfl
theorem outB_step {j : Job} {i s : Nat} (hi : i < j.below.l.length) (hs : s < j.secs.length) :
    D.blk 1 (((List.range j.below.l.length).map fun k => [D.own 1 ((outR j i s k).map fun v => [.int .i64 v])]).set i [.own 1 (((outR j i s i).map fun v => [.int .i64 v]) ++ [[.int .i64 ((valN j i)[s]!)]])]) = outB j i (s + 1) := by
  rw [outB_eq, set_range_map]
  congr 1
  refine List.map_congr_left fun k _ => ?_
  by_cases e : k = i
  · subst e
    rw [if_pos rfl]
    have hl : s < (valN j k).length := by rw [valN_len hi]; exact hs
    simp only [outR, Nat.lt_irrefl, if_false, if_true]
    rw [getElem!_pos _ s hl, List.take_succ_eq_append_getElem hl, List.map_append]
    rfl
  · rw [if_neg e]
    simp only [outR, if_neg e]
theorem outB_next {j : Job} {i : Nat} : outB j i j.secs.length = outB j (i + 1) 0 := by
  rw [outB_eq, outB_eq]
  congr 1
  refine List.map_congr_left fun k hk => ?_
  have hk : k < j.below.l.length := by simpa using hk
  congr 3
  unfold outR
  by_cases e : k = i
  · subst e
    rw [if_neg (by omega), if_pos rfl, if_pos (by omega), List.take_of_length_le (by rw [valN_len hk]; exact Nat.le_refl _)]
  · by_cases e2 : k < i
    · rw [if_pos e2, if_pos (by omega)]
    · rw [if_neg e2, if_neg e, if_neg (by omega)]
      split <;> simp
theorem ints_c1 {xs : List Int} {v : Int} (e : List D) (h : (∃ a, a ∈ xs ∧ [D.int .i64 a] = e) ∨ e = [D.int .i64 v]) (c : D) (hc : c ∈ e) : isC1 c = true := by
  rcases h with ⟨n, _, rfl⟩ | rfl
  · simp at hc; subst hc; rfl
  · simp at hc; subst hc; rfl

variable {C : CC} (hC : Closed prog C)
include hC
theorem values_c (j : Job) (hv : jobValid j = true) : C 39 [treeD j] (valsD j) [] := by
  have hn : j.below.l.length ≤ 400 := by simp only [jobValid, Bool.and_eq_true, decide_eq_true_eq] at hv; omega
  have hm : j.secs.length ≤ 40 := by simp only [jobValid, catValid, Bool.and_eq_true, decide_eq_true_eq] at hv; omega
  have hlen : j.lengths.l.length = j.below.l.length := by simp only [jobValid, Bool.and_eq_true, decide_eq_true_eq] at hv; omega
  refine start hC (nf := N39_sizing_tree_values) rfl rfl ?_
  simp [N39_sizing_tree_values]
  simp [treeD_eq, jobC_eq]
  refine ⟨by omega, ?_⟩
  refine loop_of Nat (fun i => [(0, treeD j), (3, .ref (.r 10048) 0 j.below.l.length), (10048, outB j i 0), (15, .int .i64 j.below.l.length), (16, .int .i64 i)])
    (fun i => i ≤ j.below.l.length) (fun i => j.below.l.length - i) 0 (by simp) (by simp [treeD_eq, jobC_eq, outB, outR, replicate_range]) ?_
  intro i hi
  simp
  refine brB_of (fun h => ?_) (fun h => ?_) <;> simp at h <;> simp [h]
  · have hw : IntKind.wrap .i64 ((i : Int) + 1) = ((i + 1 : Nat) : Int) := wrap_i64 (by omega) (by omega)
    simp [treeD_eq, jobC_eq]
    refine loop_of Nat (fun s => [(0, treeD j), (3, .ref (.r 10048) 0 j.below.l.length), (10048, outB j i s), (4, .int .i64 i), (15, .int .i64 j.below.l.length), (16, .int .i64 i), (24, .int .i64 j.secs.length), (25, .int .i64 s)])
      (fun s => s ≤ j.secs.length) (fun s => j.secs.length - s) 0 (by simp) (by simp [treeD_eq, jobC_eq]) ?_
    intro s hs
    simp
    refine brB_of (fun h2 => ?_) (fun h2 => ?_) <;> simp at h2 <;> simp [h2]
    · have hw2 : IntKind.wrap .i64 ((s : Int) + 1) = ((s + 1 : Nat) : Int) := wrap_i64 (by omega) (by omega)
      simp [treeD_eq, jobC_eq, h, possD, h2, bl]
      have hval : (valN j i)[s]! = if possAt j i s then costF j (valN j) i s else -1 := by
        rw [valN_eq hv h, rowOf, getElem!_pos _ s (by simpa using h2)]
        simp
      have hst := outB_step h h2
      have ht : List.take (outR j i s i).length (List.map (fun n => [D.int IntKind.i64 n]) (outR j i s i)) = List.map (fun n => [D.int IntKind.i64 n]) (outR j i s i) := List.take_of_length_le (by simp)
      have hol : (outR j i s i).length ≤ 40 := by simp [outR]; omega
      refine brB_of (fun h3 => ?_) (fun h3 => ?_) <;> simp [h3, outB_eq]
      · have hc := cost_c hC j false ((List.range j.below.l.length).map fun k => ⟨false, outR j i s k⟩) i s h (by omega) h2 (by omega) (by omega) (fun a ha => by
          have h4 := above_less hv ha
          have h5 := above_lt ha
          rw [getElem!_pos _ a (by simpa using h5)]
          simp [h5, outR, h4, valN_len h5])
        rw [costF_congr (val' := valN j) (fun a ha => by
          have h4 := above_less hv ha
          have h5 := above_lt ha
          rw [rowsF, getElem!_pos _ a (by simpa using h5)]
          simp [outR, h4])] at hc
        rw [h3, if_pos rfl] at hval
        rw [hval] at hst
        simp [treeD_eq, jobC_eq] at hc
        refine callW_of (d := .int .i64 (costF j (valN j) i s)) ?_ (.inl rfl) ?_
        · rw [List.take_of_length_le (by simp)]
          exact hc
        · simp [h, ht, hw2]
          exact ⟨by omega, ints_c1, s + 1, by omega, by omega, by simp [treeD_eq, jobC_eq], hst, rfl⟩
      · simp [h, ht, hw2]
        rw [h3, if_neg Bool.false_ne_true] at hval
        rw [hval] at hst
        exact ⟨by omega, ints_c1, s + 1, by omega, by omega, by simp [treeD_eq, jobC_eq], hst, rfl⟩
    · have : s = j.secs.length := by omega
      subst this
      simp [hw]
      exact ⟨i + 1, by omega, by omega, outB_next, rfl⟩
  · have : i = j.below.l.length := by omega
    subst this
    simp [outB_eq, valsD, slR]
    rw [List.take_of_length_le (by simp)]
    refine List.map_congr_left fun k hk => ?_
    simp at hk
    simp [outR, hk]
end Go.Gv

set_option linter.unusedSimpArgs false
namespace Go.Gv

def possRow (j : Job) (i : Nat) : List Bool := (List.range j.secs.length).map (possAt j i)
def possR (j : Job) (i s k : Nat) : List Bool := if k < i then possRow j k else if k = i then (possRow j i).take s else []
def possB (j : Job) (i s : Nat) : D := .blk 1 ((List.range j.below.l.length).map fun k => [.own 1 ((possR j i s k).map bl)])
def abovR (j : Job) (i k : Nat) : List Nat := (List.range i).filter fun a => decide (j.below.l[a]! = (k : Int))
def abovB (j : Job) (i : Nat) : D := .blk 1 ((List.range j.below.l.length).map fun k => [.own 1 ((abovR j i k).map it)])
theorem possB_eq {j i s} : possB j i s = .blk 1 ((List.range j.below.l.length).map fun k => [.own 1 ((possR j i s k).map bl)]) := _root_.id rfl
theorem abovB_eq {j i} : abovB j i = .blk 1 ((List.range j.below.l.length).map fun k => [.own 1 ((abovR j i k).map it)]) := _root_.id rfl
@[simp] theorem jobC_mr {j : Job} : List.flatMap mroots1 (jobC j) = [] := by simp [jobC]
@[simp] theorem jobC_any {j : Job} {b : Nat} {all : Bool} : List.any (jobC j) (ment1 b all) = false := by simp [jobC]
@[simp] theorem kill1_possB {ks j i s} : kill1 ks (possB j i s) = possB j i s := by unfold possB; exact kill1_blk
@[simp] theorem kill1_abovB {ks j i} : kill1 ks (abovB j i) = abovB j i := by unfold abovB; exact kill1_blk
@[simp] theorem isB_possB {j i s} : isB (possB j i s) = true := _root_.id rfl
@[simp] theorem isB_abovB {j i} : isB (abovB j i) = true := _root_.id rfl

theorem possB_step {j : Job} {i s : Nat} (hs : s < j.secs.length) :
    D.blk 1 (((List.range j.below.l.length).map fun k => [D.own 1 ((possR j i s k).map bl)]).set i [.own 1 (((possR j i s i).map bl) ++ [[.bool (possAt j i s)]])]) = possB j i (s + 1) := by
  rw [possB_eq, set_range_map]
  congr 1
  refine List.map_congr_left fun k _ => ?_
  by_cases e : k = i
  · subst e
    rw [if_pos rfl]
    have hl : s < (possRow j k).length := by simpa [possRow] using hs
    simp only [possR, Nat.lt_irrefl, if_false, if_true]
    rw [List.take_succ_eq_append_getElem hl, List.map_append]
    simp [possRow, bl]
  · rw [if_neg e]
    simp only [possR, if_neg e]
theorem possB_next {j : Job} {i : Nat} : possB j i j.secs.length = possB j (i + 1) 0 := by
  rw [possB_eq, possB_eq]
  congr 1
  refine List.map_congr_left fun k _ => ?_
  congr 3
  unfold possR
  by_cases e : k = i
  · subst e
    rw [if_neg (by omega), if_pos rfl, if_pos (by omega), List.take_of_length_le (by simp [possRow])]
  · by_cases e2 : k < i
    · rw [if_pos e2, if_pos (by omega)]
    · rw [if_neg e2, if_neg e, if_neg (by omega)]
      split <;> simp
theorem abovR_succ {j : Job} {i k : Nat} : abovR j (i + 1) k = abovR j i k ++ (if j.below.l[i]! = (k : Int) then [i] else []) := by
  unfold abovR
  rw [List.range_succ, List.filter_append]
  congr 1
  rw [List.filter_cons, List.filter_nil]
  by_cases e : j.below.l[i]! = (k : Int)
  · rw [if_pos e, if_pos (by simp only [decide_eq_true_eq]; exact e)]
  · rw [if_neg e, if_neg (by simp only [decide_eq_true_eq]; exact e)]
theorem abovB_none {j : Job} {i : Nat} (h : j.below.l[i]! = -1) : abovB j i = abovB j (i + 1) := by
  rw [abovB_eq, abovB_eq]
  congr 1
  refine List.map_congr_left fun k _ => ?_
  rw [abovR_succ, if_neg (by omega), List.append_nil]
theorem abovB_some {j : Job} {i b : Nat} (h : j.below.l[i]! = (b : Int)) :
    D.blk 1 (((List.range j.below.l.length).map fun k => [D.own 1 ((abovR j i k).map it)]).set b [.own 1 (((abovR j i b).map it) ++ [[.int .i64 (i : Int)]])]) = abovB j (i + 1) := by
  rw [abovB_eq, set_range_map]
  congr 1
  refine List.map_congr_left fun k _ => ?_
  rw [abovR_succ]
  by_cases e : k = b
  · subst e
    rw [if_pos rfl, if_pos h, List.map_append]
    rfl
  · rw [if_neg e, if_neg (by omega), List.append_nil]
theorem abovR_len {j : Job} {i k : Nat} : (abovR j i k).length ≤ i := by
  have := List.length_filter_le (fun a => decide (j.below.l[a]! = (k : Int))) (List.range i)
  simpa [abovR] using this

variable {C : CC} (hC : Closed prog C)
include hC
set_option maxRecDepth 4000 in
set_option maxHeartbeats 4000000 in
theorem treeOf_c (j : Job) (hv : jobValid j = true) : C 30 [.agg (jobC j)] (treeD j) [] := by
  have hn : j.below.l.length ≤ 400 := by simp only [jobValid, Bool.and_eq_true, decide_eq_true_eq] at hv; omega
  have hm : j.secs.length ≤ 40 := by simp only [jobValid, catValid, Bool.and_eq_true, decide_eq_true_eq] at hv; omega
  have hlen : j.lengths.l.length = j.below.l.length := by simp only [jobValid, Bool.and_eq_true, decide_eq_true_eq] at hv; omega
  have hlen2 : j.flows.l.length = j.below.l.length := by simp only [jobValid, Bool.and_eq_true, decide_eq_true_eq] at hv; omega
  have hlen3 : j.falls.l.length = j.below.l.length := by simp only [jobValid, Bool.and_eq_true, decide_eq_true_eq] at hv; omega
  have hlen4 : j.room.l.length = j.below.l.length := by simp only [jobValid, Bool.and_eq_true, decide_eq_true_eq] at hv; omega
  refine start hC (nf := N30_sizing_treeOf) rfl rfl ?_
  simp [N30_sizing_treeOf, jobC_eq]
  refine ⟨by omega, indW_of (by decide +kernel), ?_⟩
  refine loop_of Nat (fun i => [(1, .ptr (jobC j)), (3, .ptx (jobC j ++ [.ref (.r 10224) 0 j.below.l.length, .ref (.r 10288) 0 j.below.l.length])), (10224, possB j i 0), (10288, abovB j i), (22, slI j.below), (23, .int .i64 j.below.l.length), (24, .int .i64 i)])
    (fun i => i ≤ j.below.l.length) (fun i => j.below.l.length - i) 0 (by simp) (by simp [jobC_eq, possB_eq, abovB_eq, possR, abovR, replicate_range]) ?_
  intro i hi
  simp
  refine brB_of (fun h => ?_) (fun h => ?_) <;> simp at h <;> simp [h]
  · have hw : IntKind.wrap .i64 ((i : Int) + 1) = ((i + 1 : Nat) : Int) := wrap_i64 (by omega) (by omega)
    have hb := valid_below hv h
    have hbs : j.below.l[i]! = j.below.l[i] := getElem!_pos j.below.l i h
    rw [hbs] at hb
    have inner : ∀ {Q : NExit → Env → Prop}, True := fun {Q} => trivial
    refine brB_of (fun c1 => ?pa) (fun c1 => ?pb) <;> simp at c1 <;> simp [c1]
    case' pa =>
      obtain ⟨bn, hbn⟩ : ∃ bn : Nat, j.below.l[i] = (bn : Int) := ⟨j.below.l[i].toNat, by omega⟩
      have hb1 : bn < j.below.l.length := by omega
      have hst := abovB_some (j := j) (i := i) (b := bn) (by rw [hbs, hbn])
      have hol : (abovR j i bn).length ≤ i := abovR_len
      have ht : List.take (abovR j i bn).length (List.map it (abovR j i bn)) = List.map it (abovR j i bn) := List.take_of_length_le (by simp)
      simp [abovB_eq, jobC_eq, hbn, hb1, ht]
      refine ⟨by omega, ?_, indW_of (by decide +kernel), ?_⟩
      · rintro e (⟨a, _, rfl⟩ | rfl) c hc
        · simp [it] at hc; subst hc; rfl
        · simp at hc; subst hc; rfl
      simp [hst]
    case' pb =>
      have hst := abovB_none (j := j) (i := i) (by rw [hbs, c1])
      simp [jobC_eq, hst]
    all_goals
      refine loop_of Nat (fun s => [(1, .ptr (jobC j)), (3, .ptx (jobC j ++ [.ref (.r 10224) 0 j.below.l.length, .ref (.r 10288) 0 j.below.l.length])), (10224, possB j i s), (10288, abovB j (i + 1)), (4, .int .i64 i), (22, slI j.below), (23, .int .i64 j.below.l.length), (24, .int .i64 i), (48, slx j.secN (j.secs.map secC)), (49, .int .i64 j.secs.length), (50, .int .i64 s)])
        (fun s => s ≤ j.secs.length) (fun s => j.secs.length - s) 0 (by simp) (by simp [jobC_eq]) ?_
      intro s hs
      simp
      refine brB_of (fun h2 => ?_) (fun h2 => ?_) <;> simp at h2 <;> simp [h2]
      · have hw2 : IntKind.wrap .i64 ((s : Int) + 1) = ((s + 1 : Nat) : Int) := wrap_i64 (by omega) (by omega)
        have g3 : i < j.falls.l.length := by omega
        have g2 : i < j.lengths.l.length := by omega
        have g4 : i < j.flows.l.length := by omega
        have g5 : i < j.room.l.length := by omega
        have hF := Full_c hC j.secs[s] j.falls.l[i] j.lengths.l[i]
        have hp : possAt j i s = (((fullF j.secs[s] j.falls.l[i] j.lengths.l[i]).2 == 5 || ((fullF j.secs[s] j.falls.l[i] j.lengths.l[i]).2 == 0 && decide (j.flows.l[i] ≤ (fullF j.secs[s] j.falls.l[i] j.lengths.l[i]).1))) && decide (j.secs[s].height ≤ j.room.l[i])) := by
          simp only [possAt, getElem!_pos j.secs s h2, getElem!_pos j.falls.l i g3, getElem!_pos j.lengths.l i g2, getElem!_pos j.flows.l i g4, getElem!_pos j.room.l i g5]
        obtain ⟨q, hq⟩ : ∃ q, q = (fullF j.secs[s] j.falls.l[i] j.lengths.l[i]).1 := ⟨_, rfl⟩
        obtain ⟨e, he⟩ : ∃ e, e = (fullF j.secs[s] j.falls.l[i] j.lengths.l[i]).2 := ⟨_, rfl⟩
        rw [← hq, ← he] at hF hp
        have hst2 := possB_step (i := i) h2
        rw [hp] at hst2
        have hol2 : (possR j i s i).length ≤ 40 := by simp [possR, possRow]; omega
        have ht2 : List.take (possR j i s i).length (List.map bl (possR j i s i)) = List.map bl (possR j i s i) := List.take_of_length_le (by simp)
        simp [jobC_eq, h, h2, secC_eq, g2, g3]
        simp [secC_eq] at hF
        refine callW_of hF (.inl rfl) ?_
        simp
        refine ⟨indW_of (by decide +kernel), ?_⟩
        simp [possB_eq, h, ht2, jobC_eq]
        have fin : ∀ b : Bool, possAt j i s = b → ∃ s', s' ≤ j.secs.length ∧ j.secs.length - s' < j.secs.length - s ∧ D.blk 1 (((List.range j.below.l.length).map fun k => [D.own 1 ((possR j i s k).map bl)]).set i [.own 1 (((possR j i s i).map bl) ++ [[.bool b]])]) = possB j i s' ∧ (s : Int) + 1 = s' := fun b hb => ⟨s + 1, by omega, by omega, by rw [← hb, hp]; exact hst2, rfl⟩
        rw [hp] at fin
        have bls : ∀ (b : Bool) (e : List D), (false ∈ possR j i s i ∧ bl false = e ∨ true ∈ possR j i s i ∧ bl true = e) ∨ e = [D.bool b] → ∀ c, c ∈ e → isC1 c = true := by
          rintro b e ((⟨_, rfl⟩ | ⟨_, rfl⟩) | rfl) c hc
          · simp [bl] at hc; subst hc; rfl
          · simp [bl] at hc; subst hc; rfl
          · simp at hc; subst hc; rfl
        refine brB_of (fun d1 => ?_) (fun d1 => ?_) <;> simp at d1 <;> simp [d1, jobC_eq, g5, h, ht2, hw2]
        · refine ⟨by omega, bls _, indW_of (by decide +kernel), fin _ (by simp [d1])⟩
        · refine brB_of (fun d2 => ?_) (fun d2 => ?_) <;> simp at d2 <;> simp [d2, jobC_eq, g4, g5, h, ht2, hw2]
          · refine brB_of (fun d3 => ?_) (fun d3 => ?_)
            · simp at d3
              simp [d3, jobC_eq, g4, g5, h, ht2, hw2]
              refine ⟨by omega, bls _, indW_of (by decide +kernel), fin _ (by simp [d2, d3])⟩
            · have d3' : ¬ j.flows.l[i] ≤ q := by simpa using d3
              simp [d3', jobC_eq, g4, g5, h, ht2, hw2]
              refine ⟨by omega, bls _, indW_of (by decide +kernel), fin _ (by simp [d2, d3'])⟩
          · refine ⟨by omega, bls _, indW_of (by decide +kernel), fin _ (by simp [d1, d2])⟩
      · have : s = j.secs.length := by omega
        subst this
        simp [hw, jobC_eq]
        exact ⟨i + 1, by omega, by omega, possB_next, rfl, rfl⟩
  · have : i = j.below.l.length := by omega
    subst this
    simp [jobC_eq, or_imp, forall_and, possB_eq, abovB_eq, treeD_eq]
    rw [List.take_of_length_le (by simp), List.take_of_length_le (by simp)]
    constructor
    · refine List.map_congr_left fun k hk => ?_
      simp at hk
      simp [possR, hk, possD, possRow]
    · refine List.map_congr_left fun k hk => ?_
      simp [aboveD, abovR, aboveF]
end Go.Gv

set_option linter.unusedSimpArgs false
namespace Go.Gv

theorem least_spec (ok : Nat → Bool) (vs : List Int) : (leastF ok vs = (-1, -1) ∧ ∀ s, s < vs.length → vs[s]! ≠ -1 → ok s = false) ∨
    ∃ s, s < vs.length ∧ leastF ok vs = (vs[s]!, (s : Int)) ∧ vs[s]! ≠ -1 ∧ ok s = true ∧ ∀ s', s' < vs.length → vs[s']! ≠ -1 → ok s' = true → vs[s]! ≤ vs[s']! := by
  have key : ∀ n, n ≤ vs.length → ((List.range n).foldl (leastStep ok vs) (-1, -1) = (-1, -1) ∧ ∀ s, s < n → vs[s]! ≠ -1 → ok s = false) ∨
      ∃ s, s < n ∧ (List.range n).foldl (leastStep ok vs) (-1, -1) = (vs[s]!, (s : Int)) ∧ vs[s]! ≠ -1 ∧ ok s = true ∧ ∀ s', s' < n → vs[s']! ≠ -1 → ok s' = true → vs[s]! ≤ vs[s']! := by
    intro n
    induction n with
    | zero => intro _; exact .inl ⟨rfl, fun s h => by omega⟩
    | succ n ih =>
      intro hn
      rw [List.range_succ, List.foldl_append]
      simp only [List.foldl_cons, List.foldl_nil]
      rcases ih (by omega) with ⟨h1, h2⟩ | ⟨s, h1, h2, h3, h4, h5⟩
      · rw [h1]
        unfold leastStep
        by_cases hc : vs[n]! ≠ -1 ∧ ok n = true
        · rw [if_pos ⟨hc.1, hc.2, .inl rfl⟩]
          refine .inr ⟨n, by omega, rfl, hc.1, hc.2, fun s' hs' hv ho => ?_⟩
          rcases Nat.lt_succ_iff_lt_or_eq.1 hs' with h | rfl
          · rw [h2 s' h hv] at ho; cases ho
          · exact Int.le_refl _
        · rw [if_neg (fun h => hc ⟨h.1, h.2.1⟩)]
          refine .inl ⟨rfl, fun s hs hv => ?_⟩
          rcases Nat.lt_succ_iff_lt_or_eq.1 hs with h | rfl
          · exact h2 s h hv
          · cases ho : ok s with
            | false => rfl
            | true => exact absurd ⟨hv, ho⟩ hc
      · rw [h2]
        unfold leastStep
        by_cases hc : vs[n]! ≠ -1 ∧ ok n = true ∧ vs[n]! < vs[s]!
        · rw [if_pos ⟨hc.1, hc.2.1, .inr hc.2.2⟩]
          refine .inr ⟨n, by omega, rfl, hc.1, hc.2.1, fun s' hs' hv ho => ?_⟩
          rcases Nat.lt_succ_iff_lt_or_eq.1 hs' with h | rfl
          · have := h5 s' h hv ho
            omega
          · exact Int.le_refl _
        · rw [if_neg (fun h => hc ⟨h.1, h.2.1, h.2.2.resolve_left h3⟩)]
          refine .inr ⟨s, by omega, rfl, h3, h4, fun s' hs' hv ho => ?_⟩
          rcases Nat.lt_succ_iff_lt_or_eq.1 hs' with h | rfl
          · exact h5 s' h hv ho
          · exact Int.not_lt.1 fun hlt => hc ⟨hv, ho, hlt⟩
  exact key vs.length (Nat.le_refl _)

theorem sumG_some {v : Nat → Int} : ∀ {l : List Nat} {s t : Int}, sumG v l s = some t → ∀ a ∈ l, v a ≠ -1
  | [], s, t, _, a, ha => by cases ha
  | x :: l, s, t, h, a, ha => by
    simp only [sumG] at h
    split at h
    · cases h
    · rename_i hx
      rcases List.mem_cons.1 ha with rfl | ha
      · exact hx
      · exact sumG_some h a ha
theorem getD_ne {x : Option Int} (h : x.getD (-1) ≠ -1) : ∃ t, x = some t ∧ x.getD (-1) = t := by
  cases x with
  | none => exact absurd rfl h
  | some t => exact ⟨t, rfl, rfl⟩

/-- The best choice: pipe i's section, from the last pipe on. -/
def hgt (j : Job) (ch : Nat → Int) (i : Nat) : Int := if j.below.l[i]! = -1 then 4194304 else j.secs[(ch (j.below.l[i]!).toNat).toNat]!.height
def pickG (j : Job) (ch : Nat → Int) (i : Nat) : Int := (leastF (okF j i (hgt j ch i)) (valN j i)).2
/-- The choice as it is after k pipes. -/
def chUp (j : Job) : Nat → Nat → Int
  | 0 => fun _ => 0
  | k + 1 => fun i => if i + (k + 1) = j.below.l.length then pickG j (chUp j k) i else chUp j k i
def bestF (j : Job) : List Int := (List.range j.below.l.length).map (chUp j j.below.l.length)
def costB (j : Job) : Int := boundF j (valN j)
/-- What Solve yields. -/
def solveF (j : Job) : Int × (Bool × List Int) × Int := if jobValid j then (if costB j = -1 then (0, (true, []), 28) else (costB j, (false, bestF j), 0)) else (0, (true, []), 1)
def intsD (x : Bool × List Int) : D := slx x.1 (x.2.map fun n => [.int .i64 n])

/-- Pipe i's section is there. -/
structure Good (j : Job) (ch : Nat → Int) (i : Nat) : Prop where
  sec : ∃ s : Nat, ch i = s ∧ s < j.secs.length ∧ (valN j i)[s]! ≠ -1 ∧ okF j i (hgt j ch i) s = true ∧ lv j (valN j) (hgt j ch i) i = (valN j i)[s]!

theorem valN_at {j : Job} (hv : jobValid j = true) {i s : Nat} (hi : i < j.below.l.length) (hs : s < j.secs.length) : (valN j i)[s]! = if possAt j i s then costF j (valN j) i s else -1 := by
  rw [valN_eq hv hi, rowOf, getElem!_pos _ s (by simpa using hs)]
  simp
theorem mem_above {j : Job} {i b : Nat} (hi : i < j.below.l.length) (h : j.below.l[i]! = (b : Int)) : i ∈ aboveF j b := by
  simp [aboveF, hi]
  rw [getElem!_pos j.below.l i hi] at h
  simp [hi, h]
theorem chUp_next {j : Job} {k i : Nat} (h : i + (k + 1) ≠ j.below.l.length) : chUp j (k + 1) i = chUp j k i := by
  simp only [chUp]; rw [if_neg h]
theorem chUp_at {j : Job} {k i : Nat} (h : i + (k + 1) = j.below.l.length) : chUp j (k + 1) i = pickG j (chUp j k) i := by
  simp only [chUp]; rw [if_pos h]

/-- Where a choice has good sections below pipe i, pipe i has one. -/
theorem good_pick {j : Job} (hv : jobValid j = true) (hc : costB j ≠ -1) {ch : Nat → Int} {i : Nat} (hi : i < j.below.l.length) (hb : ∀ b : Nat, j.below.l[i]! = (b : Int) → Good j ch b) :
    ∃ s : Nat, pickG j ch i = s ∧ s < j.secs.length ∧ (valN j i)[s]! ≠ -1 ∧ okF j i (hgt j ch i) s = true ∧ lv j (valN j) (hgt j ch i) i = (valN j i)[s]! := by
  have hlv : lv j (valN j) (hgt j ch i) i ≠ -1 := by
    by_cases e : j.below.l[i]! = -1
    · obtain ⟨t, h1, _⟩ := getD_ne hc
      have := sumG_some h1 i (by
        rw [getElem!_pos j.below.l i hi] at e
        simp [rootsF, hi, e])
      rw [hgt, if_pos e]
      exact this
    · rcases valid_below hv hi with h1 | ⟨h1, h2⟩
      · exact absurd h1 e
      · obtain ⟨b, hbn⟩ : ∃ b : Nat, j.below.l[i]! = (b : Int) := ⟨(j.below.l[i]!).toNat, by omega⟩
        obtain ⟨s, g1, g2, g3, _⟩ := (hb b hbn).sec
        rw [hgt, if_neg e, hbn, Int.toNat_natCast, g1, Int.toNat_natCast]
        have hbl : b < j.below.l.length := by omega
        rw [valN_at hv hbl g2] at g3
        split at g3
        · obtain ⟨t, h3, _⟩ := getD_ne g3
          exact sumG_some h3 i (mem_above hi hbn)
        · exact absurd rfl g3
  unfold pickG
  unfold lv at hlv ⊢
  rcases least_spec (okF j i (hgt j ch i)) (valN j i) with ⟨h1, _⟩ | ⟨s, h1, h2, h3, h4, _⟩
  · rw [h1] at hlv; exact absurd rfl hlv
  · rw [h2]
    exact ⟨s, rfl, by rw [valN_len hi] at h1; exact h1, h3, h4, rfl⟩

theorem hgt_congr {j : Job} {ch ch' : Nat → Int} {i : Nat} (h : ∀ b : Nat, j.below.l[i]! = (b : Int) → ch b = ch' b) (hv : j.below.l[i]! = -1 ∨ 0 ≤ j.below.l[i]!) : hgt j ch i = hgt j ch' i := by
  unfold hgt
  by_cases e : j.below.l[i]! = -1
  · rw [if_pos e, if_pos e]
  · rw [if_neg e, if_neg e, h _ (by omega)]
theorem good_up {j : Job} (hv : jobValid j = true) (hc : costB j ≠ -1) : ∀ k, k ≤ j.below.l.length → ∀ i, i < j.below.l.length → j.below.l.length ≤ i + k → Good j (chUp j k) i
  | 0, _, i, hi, h => by omega
  | k + 1, hk, i, hi, h => by
    have hbv := valid_below hv hi
    have same : ∀ b : Nat, j.below.l[i]! = (b : Int) → chUp j k b = chUp j (k + 1) b := fun b hb => (chUp_next (by rcases hbv with h1 | h1 <;> omega)).symm
    have he : hgt j (chUp j k) i = hgt j (chUp j (k + 1)) i := hgt_congr same (by rcases hbv with h1 | h1 <;> omega)
    by_cases e : i + (k + 1) = j.below.l.length
    · obtain ⟨s, g1, g2⟩ := good_pick (ch := chUp j k) hv hc hi (fun b hb => good_up hv hc k (by omega) b (by rcases hbv with h1 | h1 <;> omega) (by rcases hbv with h1 | h1 <;> omega))
      rw [he] at g2
      exact ⟨⟨s, by rw [chUp_at e]; exact g1, g2⟩⟩
    · obtain ⟨s, g1, g2⟩ := (good_up hv hc k (by omega) i hi (by omega)).sec
      rw [he] at g2
      exact ⟨⟨s, by rw [chUp_next e]; exact g1, g2⟩⟩
end Go.Gv

set_option linter.unusedSimpArgs false
namespace Go.Gv

theorem valsD_eq {j} : valsD j = .sl ((List.range j.below.l.length).map fun a => slR (valN j a)) := _root_.id rfl
theorem slR_eq {r} : slR r = [.sl (r.map fun v => [.int .i64 v])] := _root_.id rfl
@[simp] theorem isV_valsD {j} : isV (valsD j) = true := _root_.id rfl
@[simp] theorem isK_valsD {j} : isK (valsD j) = true := _root_.id rfl
@[simp] theorem isP_valsD {j} : isP (valsD j) = true := _root_.id rfl
@[simp] theorem isS_valsD {j} : isS (valsD j) = true := _root_.id rfl
@[simp] theorem isC1_valsD {j} : isC1 (valsD j) = true := _root_.id rfl
@[simp] theorem isO_valsD {j} : isO (valsD j) = false := _root_.id rfl
@[simp] theorem isF1_valsD {j} : isF1 (valsD j) = false := _root_.id rfl
@[simp] theorem isF_valsD {j} : isF (valsD j) = false := _root_.id rfl
@[simp] theorem isB_valsD {j} : isB (valsD j) = false := _root_.id rfl
@[simp] theorem isAny_valsD {j} : isAny (valsD j) = false := _root_.id rfl
@[simp] theorem cellsOf_valsD {j} : cellsOf (valsD j) = [(valsD j)] := _root_.id rfl
@[simp] theorem aggOf_valsD {j} : aggOf (valsD j) = (valsD j) := _root_.id rfl
@[simp] theorem cellV_valsD {j} : cellV (valsD j) = (valsD j) := _root_.id rfl
@[simp] theorem mroots1_valsD {j} : mroots1 (valsD j) = [] := _root_.id rfl
@[simp] theorem mroots_valsD {j} : mroots (valsD j) = [] := _root_.id rfl
@[simp] theorem dp1_valsD {f : Nat → D} {j} : dp1 f (valsD j) = (valsD j) := _root_.id rfl
@[simp] theorem dp_valsD {f : Nat → D} {j} : dp f (valsD j) = (valsD j) := _root_.id rfl
@[simp] theorem dpOk1_valsD {f : Nat → D} {j} : dpOk1 f (valsD j) = True := _root_.id rfl
@[simp] theorem dpOk_valsD {f : Nat → D} {j} : dpOk f (valsD j) = True := _root_.id rfl
@[simp] theorem ldc_valsD {p i o} {j} : ldc p i o (valsD j) = (valsD j) := _root_.id rfl
@[simp] theorem kill1_valsD {ks} {j} : kill1 ks (valsD j) = (valsD j) := by unfold valsD; exact kill1_sl
@[simp] theorem asgM_valsD {C : CC} {hs : Option (List Nat)} {K : Env → Prop} {ns : List NOper} {u : Tag (hs, K, ns)} {e : Env} {R : List Nat} {acc : List (List Nat × List Nat)} {t j} : asgM C hs K ns t u e R acc (valsD j) = doW C hs K ns ⟨⟩ e R acc [(t, valsD j)] [] := by unfold valsD; exact asgM_sl

def outS (j : Job) (k : Nat) : D := .blk 1 ((List.range j.below.l.length).map fun i => [.int .i64 (chUp j k i)])
theorem outS_eq {j k} : outS j k = .blk 1 ((List.range j.below.l.length).map fun i => [.int .i64 (chUp j k i)]) := _root_.id rfl
theorem outS_step {j : Job} {k i : Nat} (h : i + (k + 1) = j.below.l.length) : D.blk 1 (((List.range j.below.l.length).map fun i => [.int .i64 (chUp j k i)]).set i [.int .i64 (pickG j (chUp j k) i)]) = outS j (k + 1) := by
  rw [outS_eq, set_range_map]
  congr 1
  refine List.map_congr_left fun x _ => ?_
  by_cases e : x = i
  · subst e; rw [if_pos rfl, chUp_at h]
  · rw [if_neg e, chUp_next (by omega)]

variable {C : CC} (hC : Closed prog C)
include hC
set_option maxRecDepth 2000 in
set_option maxHeartbeats 1000000 in
theorem Solve_c (j : Job) : C 15 [.agg (jobC j)] (.tup [.int .i64 (solveF j).1, intsD (solveF j).2.1, .int .i64 (solveF j).2.2]) [] := by
  refine start hC (nf := N15_sizing_Solve) rfl rfl ?_
  simp [N15_sizing_Solve]
  have hv := Valid_c hC j
  cases h : jobValid j
  · rw [h] at hv
    simp [jobC_eq]
    simp [jobC_eq] at hv
    refine callW_of hv (.inl rfl) ?_
    simp [solveF, h, intsD, slx]
  have hn : j.below.l.length ≤ 400 := by simp only [jobValid, Bool.and_eq_true, decide_eq_true_eq] at h; omega
  have hm : j.secs.length ≤ 40 := by simp only [jobValid, catValid, Bool.and_eq_true, decide_eq_true_eq] at h; omega
  rw [h] at hv
  have ht := treeOf_c hC j h
  have hvals := values_c hC j h
  have hb := bound_c hC j false ((List.range j.below.l.length).map fun a => ⟨false, valN j a⟩) (by omega) (by omega) (fun a ha => by
    have h5 : a < j.below.l.length := by simp only [rootsF, List.mem_filter, List.mem_range] at ha; exact ha.1
    rw [getElem!_pos _ a (by simpa using h5)]
    simp [h5, valN_len h5])
  have eb : boundF j (rowsF ((List.range j.below.l.length).map fun a => ⟨false, valN j a⟩)) = costB j := by
    unfold costB boundF
    rw [sumG_congr (v' := lv j (valN j) 4194304) (fun a ha => by
      have h5 : a < j.below.l.length := by simp only [rootsF, List.mem_filter, List.mem_range] at ha; exact ha.1
      rw [lv, rowsF, getElem!_pos _ a (by simpa using h5)]
      simp [lv])]
  rw [eb] at hb
  obtain ⟨c, hc⟩ : ∃ c, c = costB j := ⟨_, rfl⟩
  rw [← hc] at hb
  simp [jobC_eq]
  simp [jobC_eq] at hv ht
  refine callW_of hv (.inl rfl) ?_
  simp
  refine callW_of ht (.inr rfl) ?_
  simp
  refine callW_of hvals (.inr rfl) ?_
  simp
  refine callW_of (d := .int .i64 c) ?_ (.inl rfl) ?_
  · rw [valsD_eq]
    simp at hb
    exact hb
  simp
  refine brB_of (fun h1 => ?_) (fun h1 => ?_) <;> simp at h1 <;> simp [h1]
  · simp [solveF, h, ← hc, h1, intsD, slx]
  refine ⟨by omega, ?_⟩
  refine loop_of Nat (fun k => [(1, .ptr (jobC j)), (5, treeD j), (6, valsD j), (7, .int .i64 c), (8, .ref (.r 10128) 0 j.below.l.length), (10128, outS j k), (9, .int .i64 ((j.below.l.length : Int) - 1 - k))])
    (fun k => k ≤ j.below.l.length) (fun k => j.below.l.length - k) 0 (by simp) (by simp [jobC_eq, outS_eq, chUp, replicate_range]; exact wrap_i64 rfl (by omega)) ?_
  intro k hk
  rcases Nat.lt_or_ge k j.below.l.length with hkl | hkl
  · obtain ⟨i, hi⟩ : ∃ i, i + (k + 1) = j.below.l.length := ⟨j.below.l.length - (k + 1), by omega⟩
    have e9 : (j.below.l.length : Int) - 1 - k = (i : Int) := by omega
    have hil : i < j.below.l.length := by omega
    have hw : IntKind.wrap .i64 ((i : Int) - 1) = (j.below.l.length : Int) - 1 - ((k + 1 : Nat) : Int) := wrap_i64 (by omega) (by omega)
    have hbv := valid_below h hil
    have hg : ∀ b : Nat, j.below.l[i]! = (b : Int) → Good j (chUp j k) b := fun b hb => good_up h (by rw [← hc]; exact h1) k hk b (by rcases hbv with h2 | h2 <;> omega) (by rcases hbv with h2 | h2 <;> omega)
    have hst := outS_step hi
    have hlc : ∀ y, hgt j (chUp j k) i = y → C 40 [treeD j, .sl ((valN j i).map fun n => [.int .i64 n]), .int .i64 i, .int .i64 y] (.tup [.int .i64 (leastF (okF j i y) (valN j i)).1, .int .i64 (pickG j (chUp j k) i)]) [] := fun y hy => by
      have := least_c hC j false (valN j i) i y hil (by rw [valN_len hil]; exact Nat.le_refl _) (by omega)
      rw [slx_false] at this
      rw [pickG, hy]
      exact this
    rw [e9]
    simp [hil, jobC_eq]
    refine brB_of (fun c1 => ?_) (fun c1 => ?_) <;> simp [hil] at c1 <;> simp [c1, hil]
    · obtain ⟨b, hb⟩ : ∃ b : Nat, j.below.l[i] = (b : Int) := ⟨(j.below.l[i]).toNat, by rw [getElem!_pos j.below.l i hil] at hbv; rcases hbv with h2 | h2 <;> omega⟩
      have hb! : j.below.l[i]! = (b : Int) := by rw [getElem!_pos j.below.l i hil, hb]
      have hbl : b < j.below.l.length := by rcases hbv with h2 | h2 <;> omega
      obtain ⟨s, g1, g2, _⟩ := (hg b hb!).sec
      have hh : hgt j (chUp j k) i = j.secs[s].height := by
        rw [hgt, if_neg (by rw [hb!]; omega), hb!, Int.toNat_natCast, g1, Int.toNat_natCast, getElem!_pos j.secs s g2]
      simp [hb, outS_eq, hbl, g1, g2, secC_eq]
      refine ⟨indW_of (by decide +kernel), ?_⟩
      simp [valsD_eq, hil, slR_eq]
      refine callW_of (hlc _ hh) (.inl rfl) ?_
      simp [hil, hst, hw]
      exact ⟨k + 1, by omega, by omega, by simp [jobC_eq], rfl, rfl, by omega⟩
    · have hh : hgt j (chUp j k) i = 4194304 := by rw [hgt, if_pos (by rw [getElem!_pos j.below.l i hil, c1])]
      simp [outS_eq, valsD_eq, hil, slR_eq]
      refine callW_of (hlc _ hh) (.inl rfl) ?_
      simp [hil, hst, hw]
      exact ⟨k + 1, by omega, by omega, by simp [jobC_eq], rfl, rfl, by omega⟩
  · have : k = j.below.l.length := by omega
    subst this
    have e9 : (j.below.l.length : Int) - 1 - j.below.l.length = -1 := by omega
    rw [e9]
    simp [outS_eq]
    rw [solveF, if_pos h, ← hc, if_neg h1]
    refine ⟨rfl, ?_, rfl⟩
    rw [List.take_of_length_le (by simp)]
    simp [intsD, bestF]
end Go.Gv

set_option linter.unusedSimpArgs false
namespace Go.Gv

def wideV (v : Int) : Bool := !(decide (-1 ≤ v) && decide (v ≤ 4611686018427387904))
def badV (j : Job) (vals : List SlI) (i s : Nat) : Bool := possAt j i s && ((decide (costF j (rowsF vals) i s = -1) && !decide ((rowsF vals i)[s]! = -1)) || (!decide (costF j (rowsF vals) i s = -1) && (decide ((rowsF vals i)[s]! = -1) || decide (costF j (rowsF vals) i s < (rowsF vals i)[s]!))))
def badP (j : Job) (vals : List SlI) (i : Nat) : Bool := (List.range j.secs.length).any (badV j vals i)
def checkedF (j : Job) (vals : List SlI) : Bool × Int × Int :=
  if jobValid j = false then (false, 0, 1) else
  if vals.length ≠ j.below.l.length ∨ vals.any (fun x => decide (x.l.length ≠ j.secs.length)) = true then (false, 0, 3) else
  if vals.any (fun x => x.l.any wideV) = true then (false, 0, 2) else
  match (List.range j.below.l.length).find? (badP j vals) with
  | some i => (false, i, 0)
  | none => (true, boundF j (rowsF vals), 0)

end Go.Gv

set_option linter.unusedSimpArgs false
namespace Go.Gv

/-! ### Sums -/
def S (g : Nat → Int) : Nat → Int
  | 0 => 0
  | n + 1 => S g n + g n
theorem S_congr {g g' : Nat → Int} : ∀ n, (∀ a, a < n → g a = g' a) → S g n = S g' n
  | 0, _ => rfl
  | n + 1, h => by simp only [S]; rw [S_congr n (fun a ha => h a (by omega)), h n (by omega)]
theorem S_le {g g' : Nat → Int} : ∀ n, (∀ a, a < n → g a ≤ g' a) → S g n ≤ S g' n
  | 0, _ => Int.le_refl _
  | n + 1, h => by
    simp only [S]
    have := S_le n (fun a ha => h a (by omega))
    have := h n (by omega)
    omega
theorem S_add {g g' : Nat → Int} : ∀ n, S (fun a => g a + g' a) n = S g n + S g' n
  | 0 => rfl
  | n + 1 => by simp only [S]; rw [S_add n]; omega
theorem S_zero : ∀ n, S (fun _ => 0) n = 0
  | 0 => rfl
  | n + 1 => by simp only [S]; rw [S_zero n]; rfl
theorem S_nonneg {g : Nat → Int} (n : Nat) (h : ∀ a, a < n → 0 ≤ g a) : 0 ≤ S g n := by
  have := S_le (g := fun _ => 0) (g' := g) n h
  rw [S_zero] at this
  exact this
theorem S_ext {g : Nat → Int} {m : Nat} : ∀ n, m ≤ n → (∀ a, m ≤ a → a < n → g a = 0) → S g n = S g m
  | 0, h, _ => by
    have : m = 0 := by omega
    subst this; rfl
  | n + 1, h, hz => by
    by_cases e : m = n + 1
    · subst e; rfl
    · simp only [S]
      rw [S_ext n (by omega) (fun a h1 h2 => hz a h1 (by omega)), hz n (by omega) (by omega)]
      omega
theorem sum_filter (f : Nat → Int) (p : Nat → Bool) : ∀ n, (((List.range n).filter p).map f).sum = S (fun a => if p a then f a else 0) n
  | 0 => rfl
  | n + 1 => by
    rw [List.range_succ, List.filter_append, List.map_append, List.sum_append, sum_filter f p n]
    simp only [S, List.filter_cons, List.filter_nil]
    cases p n <;> simp

theorem sumG_eq {v : Nat → Int} : ∀ {l : List Nat} {s : Int}, (∀ a ∈ l, v a ≠ -1) → (∀ a ∈ l, 0 ≤ v a) → 0 ≤ s → s + (l.map v).sum < 9223372036854775808 → sumG v l s = some (s + (l.map v).sum)
  | [], s, _, _, _, _ => by simp [sumG]
  | a :: l, s, h1, h2, h3, h4 => by
    have h5 := h2 a (by simp)
    have h6 : 0 ≤ (l.map v).sum := by
      have : ∀ l : List Nat, (∀ a ∈ l, 0 ≤ v a) → 0 ≤ (l.map v).sum := by
        intro l
        induction l with
        | nil => intro _; simp
        | cons x l ih => intro h; simp only [List.map_cons, List.sum_cons]; have := h x (by simp); have := ih (fun a ha => h a (by simp [ha])); omega
      exact this l (fun a ha => h2 a (by simp [ha]))
    simp only [List.map_cons, List.sum_cons] at h4 ⊢
    simp only [sumG]
    rw [if_neg (h1 a (by simp)), wrap_i64 rfl (by omega), sumG_eq (fun b hb => h1 b (by simp [hb])) (fun b hb => h2 b (by simp [hb])) (by omega) (by omega)]
    congr 1
    omega
theorem sumG_bad {v : Nat → Int} : ∀ {l : List Nat} {s : Int} {a : Nat}, a ∈ l → v a = -1 → sumG v l s = none
  | x :: l, s, a, h, ha => by
    simp only [sumG]
    by_cases hx : v x = -1
    · rw [if_pos hx]
    · rw [if_neg hx]
      rcases List.mem_cons.1 h with rfl | h
      · exact absurd ha hx
      · exact sumG_bad h ha

/-! ### Jobs -/
def B : Int := 18014398509481984
theorem B_eq : B = 18014398509481984 := rfl
theorem valid_facts {j : Job} (hv : jobValid j = true) : j.below.l.length ≤ 400 ∧ j.lengths.l.length = j.below.l.length ∧ j.secs.length ≤ 40 := by
  simp only [jobValid, catValid, Bool.and_eq_true, decide_eq_true_eq] at hv
  omega
/-- A pipe's own cost. -/
def ownC (j : Job) (i s : Nat) : Int := j.lengths.l[i]! * j.secs[s]!.price
theorem ownC_bd {j : Job} (hv : jobValid j = true) {i s : Nat} (hi : i < j.below.l.length) (hs : s < j.secs.length) : 0 ≤ ownC j i s ∧ ownC j i s ≤ B := by
  have h1 : 1 ≤ j.lengths.l[i]! ∧ j.lengths.l[i]! ≤ 16777216 := by
    simp only [jobValid, Bool.and_eq_true, List.all_eq_true, List.mem_range] at hv
    have := hv.2 i hi
    simp only [pipeOk, inRq, Bool.and_eq_true, decide_eq_true_eq] at this
    exact this.1.1.1.2
  have h2 : 0 ≤ j.secs[s]!.price ∧ j.secs[s]!.price ≤ 1073741824 := by
    rw [getElem!_pos j.secs s hs]
    simp only [jobValid, catValid, Bool.and_eq_true, List.all_eq_true] at hv
    have := hv.1.2.1.2 _ (List.getElem_mem hs)
    simp only [secValid, Bool.and_eq_true, decide_eq_true_eq] at this
    omega
  have h3 := Int.mul_nonneg (show 0 ≤ j.lengths.l[i]! by omega) h2.1
  have h4 := Int.mul_le_mul h1.2 h2.2 h2.1 (by omega)
  refine ⟨h3, ?_⟩
  unfold ownC B
  omega

/-- Pipe a leads out of the first i pipes. -/
def fr (j : Job) (i a : Nat) : Bool := decide (j.below.l[a]! = -1) || decide ((i : Int) ≤ j.below.l[a]!)
def FS (j : Job) (f : Nat → Int) (i : Nat) : Int := S (fun a => if fr j i a then f a else 0) i
def AS (j : Job) (f : Nat → Int) (i : Nat) : Int := S (fun a => if j.below.l[a]! = (i : Int) then f a else 0) i
theorem above_sum {j : Job} (hv : jobValid j = true) (f : Nat → Int) {i : Nat} (hi : i < j.below.l.length) : ((aboveF j i).map f).sum = AS j f i := by
  unfold aboveF AS
  rw [sum_filter, S_ext (m := i) _ (by omega)]
  · exact S_congr _ (fun a _ => by simp)
  · intro a h1 h2
    rw [if_neg]
    intro h3
    have h3 : j.below.l[a]! = (i : Int) := by simpa using h3
    rcases valid_below hv h2 with h4 | h4 <;> omega
theorem FS_step {j : Job} (hv : jobValid j = true) (f : Nat → Int) {i : Nat} (hi : i < j.below.l.length) : FS j f (i + 1) + AS j f i = FS j f i + f i := by
  unfold FS AS
  simp only [S]
  have h1 : fr j (i + 1) i = true := by
    unfold fr
    rcases valid_below hv hi with h | h
    · simp [h]
    · simp only [Bool.or_eq_true, decide_eq_true_eq]; right; omega
  rw [if_pos h1]
  have h2 : S (fun a => if fr j i a = true then f a else 0) i = S (fun a => (if fr j (i + 1) a = true then f a else 0) + (if j.below.l[a]! = (i : Int) then f a else 0)) i := by
    refine S_congr _ (fun a ha => ?_)
    unfold fr
    by_cases e1 : j.below.l[a]! = (i : Int)
    · rw [if_pos e1, if_pos (by simp only [Bool.or_eq_true, decide_eq_true_eq]; omega), if_neg (by simp only [Bool.or_eq_true, decide_eq_true_eq]; omega)]
      omega
    · rw [if_neg e1]
      by_cases e2 : j.below.l[a]! = -1
      · rw [if_pos (by simp only [Bool.or_eq_true, decide_eq_true_eq]; omega), if_pos (by simp only [Bool.or_eq_true, decide_eq_true_eq]; omega)]
        omega
      · by_cases e3 : (i : Int) ≤ j.below.l[a]!
        · rw [if_pos (by simp only [Bool.or_eq_true, decide_eq_true_eq]; omega), if_pos (by simp only [Bool.or_eq_true, decide_eq_true_eq]; omega)]
          omega
        · rw [if_neg (by simp only [Bool.or_eq_true, decide_eq_true_eq]; omega), if_neg (by simp only [Bool.or_eq_true, decide_eq_true_eq]; omega)]
          omega
  rw [h2, S_add]
  omega
theorem AS_le_FS {j : Job} {f : Nat → Int} {i : Nat} (h : ∀ a, a < i → 0 ≤ f a) : AS j f i ≤ FS j f i := by
  unfold AS FS
  refine S_le _ (fun a ha => ?_)
  have := h a ha
  by_cases e : j.below.l[a]! = (i : Int)
  · rw [if_pos e, if_pos (by simp only [fr, Bool.or_eq_true, decide_eq_true_eq]; omega)]
    exact Int.le_refl _
  · rw [if_neg e]
    split <;> omega
theorem roots_sum {j : Job} (hv : jobValid j = true) (f : Nat → Int) : ((rootsF j).map f).sum = FS j f j.below.l.length := by
  unfold rootsF FS
  rw [sum_filter]
  refine S_congr _ (fun a ha => ?_)
  have e : fr j j.below.l.length a = decide (j.below.l[a]! = -1) := by
    unfold fr
    rcases valid_below hv ha with h | h
    · rw [h]; rfl
    · rw [show decide (((j.below.l.length : Nat) : Int) ≤ j.below.l[a]!) = false by simp only [decide_eq_false_iff_not]; omega, Bool.or_false]
  rw [e]
theorem root_mem {j : Job} {a : Nat} (h : a ∈ rootsF j) : a < j.below.l.length ∧ j.below.l[a]! = -1 := by
  simp only [rootsF, List.mem_filter, List.mem_range, decide_eq_true_eq] at h
  exact h

/-! ### The least value -/
theorem lv_spec (j : Job) (val : Nat → List Int) (h : Int) (a : Nat) : (lv j val h a = -1 ∧ ∀ s, s < (val a).length → (val a)[s]! ≠ -1 → okF j a h s = false) ∨
    ∃ s, s < (val a).length ∧ lv j val h a = (val a)[s]! ∧ (val a)[s]! ≠ -1 ∧ okF j a h s = true ∧ ∀ s', s' < (val a).length → (val a)[s']! ≠ -1 → okF j a h s' = true → (val a)[s]! ≤ (val a)[s']! := by
  unfold lv
  rcases least_spec (okF j a h) (val a) with ⟨h1, h2⟩ | ⟨s, h1, h2, h3, h4, h5⟩
  · exact .inl ⟨by rw [h1], h2⟩
  · exact .inr ⟨s, h1, by rw [h2], h3, h4, h5⟩

def mx (l : List Int) : Int := l.foldl max 0
theorem mx_spec : ∀ (l : List Int) (b : Int), b ≤ l.foldl max b ∧ ∀ x ∈ l, x ≤ l.foldl max b
  | [], b => ⟨Int.le_refl _, by simp⟩
  | y :: l, b => by
    obtain ⟨h1, h2⟩ := mx_spec l (max b y)
    simp only [List.foldl_cons]
    refine ⟨by omega, fun x hx => ?_⟩
    rcases List.mem_cons.1 hx with rfl | hx
    · omega
    · exact h2 x hx
theorem mx_bd {l : List Int} {t : Int} (ht : 0 ≤ t) (h : ∀ x ∈ l, x ≤ t) : mx l ≤ t := by
  unfold mx
  have : ∀ (l : List Int) (b : Int), b ≤ t → (∀ x ∈ l, x ≤ t) → l.foldl max b ≤ t := by
    intro l
    induction l with
    | nil => intro b hb _; exact hb
    | cons y l ih =>
      intro b hb h
      simp only [List.foldl_cons]
      exact ih _ (by have := h y (by simp); omega) (fun x hx => h x (by simp [hx]))
  exact this l 0 ht h

theorem get_mem {l : List Int} {s : Nat} (h : s < l.length) : l[s]! ∈ l := by
  rw [getElem!_pos l s h]; exact List.getElem_mem h

/-- The least value of rows that are -1 or not negative. -/
theorem lv_bd {j : Job} {val : Nat → List Int} {h : Int} {a : Nat} (hp : ∀ x ∈ val a, -1 ≤ x) : lv j val h a = -1 ∨ (0 ≤ lv j val h a ∧ lv j val h a ≤ mx (val a)) := by
  rcases lv_spec j val h a with ⟨h1, _⟩ | ⟨s, h1, h2, h3, _⟩
  · exact .inl h1
  · right
    have h4 := get_mem h1
    have h5 := hp _ h4
    have h6 := (mx_spec (val a) 0).2 _ h4
    rw [h2]
    exact ⟨by omega, h6⟩

/-- A cost that is exact. -/
theorem costF_eq {j : Job} (hv : jobValid j = true) {val : Nat → List Int} {i s : Nat} (hi : i < j.below.l.length) (hs : s < j.secs.length) (hp : ∀ a ∈ aboveF j i, lv j val j.secs[s]!.height a = -1 ∨ 0 ≤ lv j val j.secs[s]!.height a)
    (hb : (∀ a ∈ aboveF j i, lv j val j.secs[s]!.height a ≠ -1) → ((aboveF j i).map (lv j val j.secs[s]!.height)).sum ≤ 9000000000000000000) :
    ((∃ a ∈ aboveF j i, lv j val j.secs[s]!.height a = -1) ∧ costF j val i s = -1) ∨ ((∀ a ∈ aboveF j i, lv j val j.secs[s]!.height a ≠ -1) ∧ costF j val i s = ownC j i s + ((aboveF j i).map (lv j val j.secs[s]!.height)).sum) := by
  obtain ⟨h1, h2⟩ := ownC_bd hv hi hs
  rw [B_eq] at h2
  by_cases hx : ∃ a ∈ aboveF j i, lv j val j.secs[s]!.height a = -1
  · obtain ⟨a, ha, h3⟩ := hx
    exact .inl ⟨⟨a, ha, h3⟩, by unfold costF; rw [sumG_bad ha h3]; rfl⟩
  · right
    have hx' : ∀ a ∈ aboveF j i, lv j val j.secs[s]!.height a ≠ -1 := fun a ha e => hx ⟨a, ha, e⟩
    refine ⟨hx', ?_⟩
    have := hb hx'
    show (sumG _ _ (IntKind.wrap .i64 (ownC j i s))).getD (-1) = _
    rw [wrap_i64 (m := ownC j i s) rfl (by omega), sumG_eq hx' (fun a ha => (hp a ha).resolve_left (hx' a ha)) h1 (by omega)]
    rfl

theorem list_sum_nn {l : List Nat} {f : Nat → Int} (h : ∀ a ∈ l, 0 ≤ f a) : 0 ≤ (l.map f).sum := by
  induction l with
  | nil => simp
  | cons x l ih =>
    simp only [List.map_cons, List.sum_cons]
    have := h x (by simp)
    have := ih (fun a ha => h a (by simp [ha]))
    omega
theorem list_sum_le {l : List Nat} {f g : Nat → Int} (h : ∀ a ∈ l, f a ≤ g a) : (l.map f).sum ≤ (l.map g).sum := by
  induction l with
  | nil => simp
  | cons x l ih =>
    simp only [List.map_cons, List.sum_cons]
    have := h x (by simp)
    have := ih (fun a ha => h a (by simp [ha]))
    omega

/-- The values are -1 or not negative, and not too great. -/
theorem vals_bd {j : Job} (hv : jobValid j = true) : ∀ i, i ≤ j.below.l.length → (∀ a, a < i → ∀ x ∈ valN j a, -1 ≤ x) ∧ FS j (fun a => mx (valN j a)) i ≤ i * B
  | 0, _ => ⟨fun a h => by omega, by simp [FS, S]⟩
  | i + 1, hi => by
    obtain ⟨h1, h2⟩ := vals_bd hv i (by omega)
    have hil : i < j.below.l.length := by omega
    have hn := (valid_facts hv).1
    have hm0 : ∀ a, a < i → 0 ≤ mx (valN j a) := fun a _ => (mx_spec (valN j a) 0).1
    have h3 := AS_le_FS (j := j) (f := fun a => mx (valN j a)) hm0
    have hsum := above_sum hv (fun a => mx (valN j a)) hil
    have hB : (i : Int) * B ≤ 400 * B := Int.mul_le_mul_of_nonneg_right (by omega) (by rw [B_eq]; omega)
    have hcell : ∀ s, s < j.secs.length → (-1 ≤ (valN j i)[s]! ∧ (valN j i)[s]! ≤ B + AS j (fun a => mx (valN j a)) i) := by
      intro s hs
      have hAS0 : 0 ≤ AS j (fun a => mx (valN j a)) i := S_nonneg _ (fun a ha => by split; exact hm0 a ha; exact Int.le_refl _)
      rw [valN_at hv hil hs]
      split
      · have hlv : ∀ a ∈ aboveF j i, lv j (valN j) j.secs[s]!.height a = -1 ∨ (0 ≤ lv j (valN j) j.secs[s]!.height a ∧ lv j (valN j) j.secs[s]!.height a ≤ mx (valN j a)) := fun a ha => lv_bd (h1 a (above_less hv ha))
        have hle : (∀ a ∈ aboveF j i, lv j (valN j) j.secs[s]!.height a ≠ -1) → ((aboveF j i).map (lv j (valN j) j.secs[s]!.height)).sum ≤ AS j (fun a => mx (valN j a)) i := fun hne => by
          rw [← hsum]
          exact list_sum_le (fun a ha => ((hlv a ha).resolve_left (hne a ha)).2)
        have hnn : (∀ a ∈ aboveF j i, lv j (valN j) j.secs[s]!.height a ≠ -1) → 0 ≤ ((aboveF j i).map (lv j (valN j) j.secs[s]!.height)).sum := fun hne => by
          exact list_sum_nn (fun a ha => ((hlv a ha).resolve_left (hne a ha)).1)
        obtain ⟨o1, o2⟩ := ownC_bd hv hil hs
        rw [B_eq] at *
        rcases costF_eq hv hil hs (fun a ha => (hlv a ha).imp id (fun h => h.1)) (fun hne => by have := hle hne; omega) with ⟨_, h4⟩ | ⟨hne, h4⟩
        · rw [h4]; omega
        · rw [h4]
          have := hle hne
          have := hnn hne
          omega
      · rw [B_eq]; omega
    have hrow : ∀ x ∈ valN j i, ∃ s, s < j.secs.length ∧ x = (valN j i)[s]! := fun x hx => by
      obtain ⟨s, hs, rfl⟩ := List.mem_iff_getElem.1 hx
      exact ⟨s, by rw [valN_len hil] at hs; exact hs, by rw [getElem!_pos _ s hs]⟩
    constructor
    · intro a ha x hx
      rcases Nat.lt_succ_iff_lt_or_eq.1 ha with h | rfl
      · exact h1 a h x hx
      · obtain ⟨s, hs, rfl⟩ := hrow x hx
        exact (hcell s hs).1
    · have h5 := FS_step hv (fun a => mx (valN j a)) hil
      have hAS0 : 0 ≤ AS j (fun a => mx (valN j a)) i := S_nonneg _ (fun a ha => by split; exact hm0 a ha; exact Int.le_refl _)
      have h6 : mx (valN j i) ≤ B + AS j (fun a => mx (valN j a)) i := mx_bd (by rw [B_eq]; omega) (fun x hx => by
        obtain ⟨s, hs, rfl⟩ := hrow x hx
        exact (hcell s hs).2)
      rw [B_eq] at *
      push_cast
      omega
end Go.Gv
namespace Go.Gv
/-- The job's values, as they are handed over. -/
def valsS (j : Job) : List SlI := (List.range j.below.l.length).map fun a => ⟨false, valN j a⟩
/-- What is known of the values of a valid job. -/
theorem vals_cell {j : Job} (hv : jobValid j = true) {i : Nat} (hi : i < j.below.l.length) : ∀ x ∈ valN j i, -1 ≤ x := (vals_bd hv (i + 1) (by omega)).1 i (by omega)
theorem lvN_bd {j : Job} (hv : jobValid j = true) {h : Int} {a : Nat} (ha : a < j.below.l.length) : lv j (valN j) h a = -1 ∨ (0 ≤ lv j (valN j) h a ∧ lv j (valN j) h a ≤ mx (valN j a)) := lv_bd (vals_cell hv ha)
theorem sum_above_bd {j : Job} (hv : jobValid j = true) {h : Int} {i : Nat} (hi : i < j.below.l.length) (hne : ∀ a ∈ aboveF j i, lv j (valN j) h a ≠ -1) : ((aboveF j i).map (lv j (valN j) h)).sum ≤ 7205759403792793600 := by
  have h1 := list_sum_le (fun a ha => ((lvN_bd hv (above_lt ha)).resolve_left (hne a ha)).2)
  rw [above_sum hv (fun a => mx (valN j a)) hi] at h1
  have h2 := AS_le_FS (j := j) (i := i) (f := fun a => mx (valN j a)) (fun a _ => (mx_spec (valN j a) 0).1)
  have h3 := (vals_bd hv i (by omega)).2
  have hn := (valid_facts hv).1
  have h4 : (i : Int) * B ≤ 400 * B := Int.mul_le_mul_of_nonneg_right (by omega) (by rw [B_eq]; omega)
  rw [B_eq] at h4 h3
  omega
/-- A value of a job. -/
theorem valN_eq' {j : Job} (hv : jobValid j = true) {i s : Nat} (hi : i < j.below.l.length) (hs : s < j.secs.length) (hp : possAt j i s = true) :
    ((∃ a ∈ aboveF j i, lv j (valN j) j.secs[s]!.height a = -1) ∧ (valN j i)[s]! = -1) ∨ ((∀ a ∈ aboveF j i, lv j (valN j) j.secs[s]!.height a ≠ -1) ∧ (valN j i)[s]! = ownC j i s + ((aboveF j i).map (lv j (valN j) j.secs[s]!.height)).sum) := by
  rw [valN_at hv hi hs, if_pos hp]
  exact costF_eq hv hi hs (fun a ha => (lvN_bd hv (above_lt ha)).imp id (fun h => h.1)) (fun hne => by have := sum_above_bd hv hi hne; omega)
/-- The bound of a job's values. -/
theorem costB_eq {j : Job} (hv : jobValid j = true) : ((∃ a ∈ rootsF j, lv j (valN j) 4194304 a = -1) ∧ costB j = -1) ∨ ((∀ a ∈ rootsF j, lv j (valN j) 4194304 a ≠ -1) ∧ costB j = ((rootsF j).map (lv j (valN j) 4194304)).sum ∧ 0 ≤ costB j) := by
  unfold costB boundF
  by_cases hx : ∃ a ∈ rootsF j, lv j (valN j) 4194304 a = -1
  · obtain ⟨a, ha, h3⟩ := hx
    exact .inl ⟨⟨a, ha, h3⟩, by rw [sumG_bad ha h3]; rfl⟩
  · right
    have hx' : ∀ a ∈ rootsF j, lv j (valN j) 4194304 a ≠ -1 := fun a ha e => hx ⟨a, ha, e⟩
    have h1 : ∀ a ∈ rootsF j, 0 ≤ lv j (valN j) 4194304 a ∧ lv j (valN j) 4194304 a ≤ mx (valN j a) := fun a ha => (lvN_bd hv (root_mem ha).1).resolve_left (hx' a ha)
    have h2 := list_sum_le (fun a ha => (h1 a ha).2)
    rw [roots_sum hv (fun a => mx (valN j a))] at h2
    have h3 := (vals_bd hv _ (Nat.le_refl _)).2
    have hn := (valid_facts hv).1
    have h4 : (j.below.l.length : Int) * B ≤ 400 * B := Int.mul_le_mul_of_nonneg_right (by omega) (by rw [B_eq]; omega)
    rw [B_eq] at h4 h3
    refine ⟨hx', ?_⟩
    rw [sumG_eq hx' (fun a ha => (h1 a ha).1) (Int.le_refl _) (by omega)]
    simp only [Option.getD_some, Int.zero_add]
    exact ⟨trivial, list_sum_nn (fun a ha => (h1 a ha).1)⟩

end Go.Gv

set_option linter.unusedSimpArgs false
namespace Go.Gv

def outS1 (j : Job) (s : Int) : Bool := decide (s < 0) || decide ((j.secs.length : Int) ≤ s)
def choiceF (j : Job) (ch : List Int) : Int := if jobValid j = false then 1 else if ch.length ≠ j.below.l.length then 3 else if ch.any (outS1 j) = true then 2 else 0
def secAt (j : Job) (ch : List Int) (i : Nat) : Nat := (ch[i]!).toNat
def upper (j : Job) (ch : List Int) (i : Nat) (a : Nat) : Bool := decide (j.secs[secAt j ch i]!.height < j.secs[secAt j ch a]!.height)
def badA (j : Job) (ch : List Int) (i : Nat) : Bool := !possAt j i (secAt j ch i) || (aboveF j i).any (upper j ch i)
def allowedF (j : Job) (ch : List Int) : Bool × Int × Int := if choiceF j ch ≠ 0 then (false, 0, choiceF j ch) else
  match (List.range j.below.l.length).find? (badA j ch) with
  | some i => (false, i, 0)
  | none => (true, -1, 0)
def costC (j : Job) (ch : List Int) : Int := S (fun i => ownC j i (secAt j ch i)) j.below.l.length
def costF2 (j : Job) (ch : List Int) : Int × Int := if choiceF j ch ≠ 0 then (0, choiceF j ch) else (costC j ch, 0)

/-- What a right choice is. -/
theorem choice_ok {j : Job} {ch : List Int} (h : choiceF j ch = 0) : jobValid j = true ∧ ch.length = j.below.l.length ∧ ∀ i, i < j.below.l.length → ∃ s : Nat, ch[i]! = s ∧ s < j.secs.length ∧ secAt j ch i = s := by
  unfold choiceF at h
  split at h
  · cases h
  rename_i h1
  split at h
  · cases h
  rename_i h2
  split at h
  · cases h
  rename_i h3
  have hl : ch.length = j.below.l.length := Classical.byContradiction fun e => h2 e
  refine ⟨by simpa using h1, hl, fun i hi => ?_⟩
  rw [Bool.not_eq_true, List.any_eq_false] at h3
  have h4 := h3 ch[i]! (by rw [getElem!_pos ch i (by omega)]; exact List.getElem_mem _)
  simp only [outS1, Bool.or_eq_true, decide_eq_true_eq, not_or] at h4
  exact ⟨(ch[i]!).toNat, by omega, by omega, rfl⟩

end Go.Gv

set_option linter.unusedSimpArgs false
namespace Go.Gv

theorem allowed_none {j : Job} {ch : List Int} (hc : choiceF j ch = 0) (h : ∀ k, k < j.below.l.length → badA j ch k = false) : allowedF j ch = (true, -1, 0) := by
  unfold allowedF
  rw [if_neg (by rw [hc]; simp)]
  have : (List.range j.below.l.length).find? (badA j ch) = none := by
    rw [List.find?_eq_none]
    intro k hk
    rw [List.mem_range] at hk
    rw [h k hk]; simp
  rw [this]
theorem allowed_some {j : Job} {ch : List Int} {i : Nat} (hc : choiceF j ch = 0) (hi : i < j.below.l.length) (h : ∀ k, k < i → badA j ch k = false) (hb : badA j ch i = true) : allowedF j ch = (false, (i : Int), 0) := by
  unfold allowedF
  rw [if_neg (by rw [hc]; simp)]
  have : (List.range j.below.l.length).find? (badA j ch) = some i := by
    rw [List.find?_eq_some_iff_getElem]
    refine ⟨hb, i, by simpa using hi, by simp, fun k hk => ?_⟩
    simp [h k hk]
  rw [this]
theorem S_bd {g : Nat → Int} {b : Int} : ∀ n, (∀ a, a < n → 0 ≤ g a ∧ g a ≤ b) → 0 ≤ S g n ∧ S g n ≤ n * b
  | 0, _ => by simp [S]
  | n + 1, h => by
    have h1 := S_bd n (fun a ha => h a (by omega))
    have h2 := h n (by omega)
    simp only [S]
    have e : ((n + 1 : Nat) : Int) * b = n * b + b := by rw [Int.natCast_add, Int.add_mul]; simp
    rw [e]; omega
end Go.Gv

set_option linter.unusedSimpArgs false
namespace Go.Gv

theorem bestF_at {j : Job} {i : Nat} (hi : i < j.below.l.length) : (bestF j)[i]! = chUp j j.below.l.length i := by
  rw [getElem!_pos _ i (by simpa [bestF] using hi)]
  simp [bestF]
theorem okF_iff {j : Job} {a s : Nat} {h : Int} : okF j a h s = true ↔ possAt j a s = true ∧ j.secs[s]!.height ≤ h := by
  simp [okF]
theorem above_mem {j : Job} {i a : Nat} (h : a ∈ aboveF j i) : j.below.l[a]! = (i : Int) := by
  simp only [aboveF, List.mem_filter, List.mem_range, decide_eq_true_eq] at h
  exact h.2

theorem best_ok {j : Job} (hv : jobValid j = true) (hc : costB j ≠ -1) : allowedF j (bestF j) = (true, -1, 0) ∧ costF2 j (bestF j) = (costB j, 0) := by
  have hG := fun i hi => (good_up hv hc j.below.l.length (Nat.le_refl _) i hi (by omega)).sec
  obtain ⟨ch, hch⟩ : ∃ ch, ch = chUp j j.below.l.length := ⟨_, rfl⟩
  rw [← hch] at hG
  have hat : ∀ i, i < j.below.l.length → (bestF j)[i]! = ch i := fun i hi => by rw [bestF_at hi, hch]
  have hlen : (bestF j).length = j.below.l.length := by simp [bestF]
  have hsec : ∀ i s, i < j.below.l.length → ch i = ((s : Nat) : Int) → secAt j (bestF j) i = s := fun i s hi e => by rw [secAt, hat i hi, e]; rfl
  have h0 : choiceF j (bestF j) = 0 := by
    rw [choiceF, if_neg (by rw [hv]; simp), if_neg (by omega), if_neg]
    rw [Bool.not_eq_true, List.any_eq_false]
    intro x hx
    obtain ⟨i, hi, rfl⟩ := List.getElem_of_mem hx
    obtain ⟨s, e1, e2, _⟩ := hG i (by omega)
    have := hat i (by omega)
    rw [getElem!_pos _ i hi, e1] at this
    rw [this]
    simp [outS1]
    omega
  have hh : ∀ i a s, i < j.below.l.length → ch i = ((s : Nat) : Int) → a ∈ aboveF j i → hgt j ch a = j.secs[s]!.height := fun i a s hi e ha => by
    have := above_mem ha
    rw [hgt, if_neg (by omega), this]
    simp [e]
  refine ⟨allowed_none h0 (fun i hi => ?_), ?_⟩
  · obtain ⟨s, e1, e2, e3, e4, e5⟩ := hG i hi
    rw [badA, hsec i s hi e1, (okF_iff.1 e4).1, Bool.not_true, Bool.false_or, List.any_eq_false]
    intro a ha
    have hal := above_lt ha
    obtain ⟨t, f1, f2, f3, f4, f5⟩ := hG a hal
    rw [upper, hsec i s hi e1, hsec a t hal f1, decide_eq_true_eq]
    have := (okF_iff.1 f4).2
    rw [hh i a s hi e1 ha] at this
    omega
  rw [costF2, if_neg (by rw [h0]; simp)]
  have hstep : ∀ i, i < j.below.l.length → lv j (valN j) (hgt j ch i) i = ownC j i (secAt j (bestF j) i) + AS j (fun a => lv j (valN j) (hgt j ch a) a) i := fun i hi => by
    obtain ⟨s, e1, e2, e3, e4, e5⟩ := hG i hi
    rw [hsec i s hi e1, e5]
    rcases valN_eq' hv hi e2 (okF_iff.1 e4).1 with ⟨_, f⟩ | ⟨_, f⟩
    · exact absurd f e3
    rw [f, ← above_sum hv _ hi]
    have : (aboveF j i).map (lv j (valN j) j.secs[s]!.height) = (aboveF j i).map (fun a => lv j (valN j) (hgt j ch a) a) := List.map_congr_left fun a ha => by rw [hh i a s hi e1 ha]
    rw [this]
  have hF : ∀ i, i ≤ j.below.l.length → FS j (fun a => lv j (valN j) (hgt j ch a) a) i = S (fun i => ownC j i (secAt j (bestF j) i)) i := by
    intro i
    induction i with
    | zero => intro _; simp [FS, S]
    | succ i ih =>
      intro hi
      have h1 := FS_step hv (fun a => lv j (valN j) (hgt j ch a) a) (i := i) (by omega)
      have h2 := hstep i (by omega)
      have h3 := ih (by omega)
      simp only [S]
      omega
  rcases costB_eq hv with ⟨_, e⟩ | ⟨e1, e2, e3⟩
  · exact absurd e hc
  have hr : (rootsF j).map (lv j (valN j) 4194304) = (rootsF j).map (fun a => lv j (valN j) (hgt j ch a) a) := List.map_congr_left fun a ha => by rw [hgt, if_pos (root_mem ha).2]
  rw [hr, roots_sum hv, hF _ (Nat.le_refl _)] at e2
  rw [e2, costC]

theorem room_le {j : Job} (hv : jobValid j = true) {i s : Nat} (hi : i < j.below.l.length) (hp : possAt j i s = true) : j.secs[s]!.height ≤ 4194304 := by
  have h1 : j.room.l[i]! ≤ 4194304 := by
    simp only [jobValid, Bool.and_eq_true, List.all_eq_true, List.mem_range] at hv
    have := hv.2 i hi
    simp only [pipeOk, inRq, Bool.and_eq_true, decide_eq_true_eq] at this
    omega
  simp only [possAt, Bool.and_eq_true, decide_eq_true_eq] at hp
  omega

theorem best_le {j : Job} {ch : List Int} (h0 : choiceF j ch = 0) (ha : (allowedF j ch).1 = true) : costB j ≠ -1 ∧ costB j ≤ costC j ch := by
  obtain ⟨hv, hlen, hs⟩ := choice_ok h0
  have hbad : ∀ i, i < j.below.l.length → badA j ch i = false := fun i hi => by
    unfold allowedF at ha
    rw [if_neg (by rw [h0]; simp)] at ha
    cases hf : (List.range j.below.l.length).find? (badA j ch) with
    | some k => rw [hf] at ha; cases ha
    | none =>
      rw [List.find?_eq_none] at hf
      simpa using hf i (by simpa using hi)
  have hsl : ∀ i, i < j.below.l.length → secAt j ch i < j.secs.length := fun i hi => by obtain ⟨s, _, e2, e3⟩ := hs i hi; omega
  have hpos : ∀ i, i < j.below.l.length → possAt j i (secAt j ch i) = true := fun i hi => by
    have := hbad i hi
    rw [badA, Bool.or_eq_false_iff] at this
    simpa using this.1
  have hle : ∀ i a, i < j.below.l.length → a ∈ aboveF j i → okF j a j.secs[secAt j ch i]!.height (secAt j ch a) = true := fun i a hi ha => by
    refine okF_iff.2 ⟨hpos a (above_lt ha), ?_⟩
    have := hbad i hi
    rw [badA, Bool.or_eq_false_iff, List.any_eq_false] at this
    have := this.2 a ha
    rw [upper, decide_eq_true_eq] at this
    omega
  have hlv : ∀ a h, a < j.below.l.length → (valN j a)[secAt j ch a]! ≠ -1 → okF j a h (secAt j ch a) = true → lv j (valN j) h a ≠ -1 ∧ lv j (valN j) h a ≤ (valN j a)[secAt j ch a]! := fun a h hal hne hok => by
    have hl : secAt j ch a < (valN j a).length := by rw [valN_len hal]; exact hsl a hal
    rcases lv_spec j (valN j) h a with ⟨_, f⟩ | ⟨s, f1, f2, f3, f4, f5⟩
    · rw [f _ hl hne] at hok; cases hok
    · have := f5 _ hl hne hok
      rw [f2]
      exact ⟨f3, this⟩
  have key : ∀ i, i < j.below.l.length → (valN j i)[secAt j ch i]! ≠ -1 ∧ (valN j i)[secAt j ch i]! ≤ ownC j i (secAt j ch i) + AS j (fun a => (valN j a)[secAt j ch a]!) i := by
    intro i
    induction i using Nat.strongRecOn with
    | _ i ih =>
      intro hi
      have hl : ∀ a ∈ aboveF j i, lv j (valN j) j.secs[secAt j ch i]!.height a ≠ -1 ∧ lv j (valN j) j.secs[secAt j ch i]!.height a ≤ (valN j a)[secAt j ch a]! := fun a ha =>
        hlv a _ (above_lt ha) (ih a (above_less hv ha) (above_lt ha)).1 (hle i a hi ha)
      rcases valN_eq' hv hi (hsl i hi) (hpos i hi) with ⟨⟨a, ha, f⟩, _⟩ | ⟨f1, f2⟩
      · exact absurd f (hl a ha).1
      have h1 := (ownC_bd hv hi (hsl i hi)).1
      have h2 := list_sum_le (fun a ha => (hl a ha).2)
      have h3 : 0 ≤ ((aboveF j i).map (lv j (valN j) j.secs[secAt j ch i]!.height)).sum := list_sum_nn (fun a ha => ((lvN_bd hv (above_lt ha)).resolve_left (hl a ha).1).1)
      rw [above_sum hv (fun a => (valN j a)[secAt j ch a]!) hi] at h2
      rw [f2]
      omega
  have hF : ∀ i, i ≤ j.below.l.length → FS j (fun a => (valN j a)[secAt j ch a]!) i ≤ S (fun i => ownC j i (secAt j ch i)) i := by
    intro i
    induction i with
    | zero => intro _; simp [FS, S]
    | succ i ih =>
      intro hi
      have h1 := FS_step hv (fun a => (valN j a)[secAt j ch a]!) (i := i) (by omega)
      have h2 := (key i (by omega)).2
      have h3 := ih (by omega)
      simp only [S]
      omega
  have hr : ∀ a ∈ rootsF j, lv j (valN j) 4194304 a ≠ -1 ∧ lv j (valN j) 4194304 a ≤ (valN j a)[secAt j ch a]! := fun a ha =>
    hlv a _ (root_mem ha).1 (key a (root_mem ha).1).1 (okF_iff.2 ⟨hpos a (root_mem ha).1, room_le hv (root_mem ha).1 (hpos a (root_mem ha).1)⟩)
  rcases costB_eq hv with ⟨⟨a, ha, e⟩, _⟩ | ⟨e1, e2, e3⟩
  · exact absurd e (hr a ha).1
  have h1 := list_sum_le (fun a ha => (hr a ha).2)
  rw [roots_sum hv (fun a => (valN j a)[secAt j ch a]!)] at h1
  have h2 := hF _ (Nat.le_refl _)
  rw [costC]
  omega
end Go.Gv


set_option linter.unusedSimpArgs false
namespace Go.Gv

def noFlow (j : Job) (p : Nat) : Job := { j with flows := ⟨false, j.flows.l.set p 0⟩ }
def cheapF (j : Job) (pipe : Int) : Int × Int := if pipe < 0 ∨ (j.below.l.length : Int) ≤ pipe then (0, 2) else if costB j = -1 then (0, 28) else (costB j - costB (noFlow j pipe.toNat), 0)
end Go.Gv

set_option linter.unusedSimpArgs false
namespace Go.Gv
/-- A job with lesser flows and greater rooms. -/
structure Easier (j k : Job) : Prop where
  below : k.below = j.below
  lengths : k.lengths = j.lengths
  falls : k.falls = j.falls
  secs : k.secs = j.secs
  flowsN : k.flows.l.length = j.flows.l.length
  roomN : k.room.l.length = j.room.l.length
  flow : ∀ i, i < j.flows.l.length → 0 ≤ k.flows.l[i]! ∧ k.flows.l[i]! ≤ j.flows.l[i]!
  room : ∀ i, i < j.room.l.length → j.room.l[i]! ≤ k.room.l[i]! ∧ k.room.l[i]! ≤ 4194304
theorem Easier.valid {j k : Job} (h : Easier j k) (hv : jobValid j = true) : jobValid k = true := by
  simp only [jobValid, Bool.and_eq_true, decide_eq_true_eq, List.all_eq_true, List.mem_range] at hv ⊢
  obtain ⟨⟨⟨⟨⟨⟨⟨a1, a2⟩, a3⟩, a4⟩, a5⟩, a6⟩, a7⟩, a8⟩ := hv
  rw [h.below, h.lengths, h.falls, h.secs, h.flowsN, h.roomN]
  refine ⟨⟨⟨⟨⟨⟨⟨a1, a2⟩, a3⟩, a4⟩, a5⟩, a6⟩, a7⟩, fun i hi => ?_⟩
  have h1 := a8 i hi
  have h2 := h.flow i (by omega)
  have h3 := h.room i (by omega)
  simp only [pipeOk, inRq, Bool.and_eq_true, decide_eq_true_eq, h.below, h.lengths, h.falls] at h1 ⊢
  refine ⟨⟨⟨⟨h1.1.1.1.1, h1.1.1.1.2⟩, ?_⟩, h1.1.2⟩, ?_⟩ <;> omega
theorem Easier.poss {j k : Job} (h : Easier j k) (hv : jobValid j = true) {i s : Nat} (hi : i < j.below.l.length) (hs : s < j.secs.length) (hp : possAt j i s = true) : possAt k i s = true := by
  rw [poss_eq hv hi hs] at hp
  rw [poss_eq (h.valid hv) (by rw [h.below]; exact hi) (by rw [h.secs]; exact hs), h.secs, h.falls, h.lengths]
  have hl : j.flows.l.length = j.below.l.length ∧ j.room.l.length = j.below.l.length := by simp only [jobValid, Bool.and_eq_true, decide_eq_true_eq] at hv; omega
  have h2 := h.flow i (by omega)
  have h3 := h.room i (by omega)
  simp only [Bool.and_eq_true, decide_eq_true_eq] at hp ⊢
  omega
theorem Easier.choice {j k : Job} (h : Easier j k) (hv : jobValid j = true) {ch : List Int} (h0 : choiceF j ch = 0) : choiceF k ch = 0 := by
  have e : outS1 k = outS1 j := by funext x; simp only [outS1, h.secs]
  rw [choiceF, if_neg (by rw [h.valid hv]; simp), h.below, e]
  rw [choiceF, if_neg (by rw [hv]; simp)] at h0
  exact h0
theorem allowed_good {j : Job} {ch : List Int} (h0 : choiceF j ch = 0) (ha : (allowedF j ch).1 = true) : ∀ i, i < j.below.l.length → badA j ch i = false := fun i hi => by
  unfold allowedF at ha
  rw [if_neg (by rw [h0]; simp)] at ha
  cases hf : (List.range j.below.l.length).find? (badA j ch) with
  | some k => rw [hf] at ha; cases ha
  | none =>
    rw [List.find?_eq_none] at hf
    simpa using hf i (by simpa using hi)
theorem choice_of_allowed {j : Job} {ch : List Int} (ha : (allowedF j ch).1 = true) : choiceF j ch = 0 := Classical.byContradiction fun e => by
  rw [allowedF, if_pos e] at ha
  cases ha
theorem Easier.allowed {j k : Job} (h : Easier j k) (hv : jobValid j = true) {ch : List Int} (ha : (allowedF j ch).1 = true) : (allowedF k ch).1 = true := by
  have h0 := choice_of_allowed ha
  have hg := allowed_good h0 ha
  obtain ⟨_, hlen, hs⟩ := choice_ok h0
  rw [allowed_none (h.choice hv h0) (fun i hi => ?_)]
  rw [h.below] at hi
  have hb := hg i hi
  rw [badA, Bool.or_eq_false_iff] at hb
  obtain ⟨s, _, e2, e3⟩ := hs i hi
  have hp : possAt j i (secAt j ch i) = true := by simpa using hb.1
  have hp2 : possAt k i (secAt k ch i) = true := h.poss hv hi (show (ch[i]!).toNat < j.secs.length by rw [show (ch[i]!).toNat = s from e3]; exact e2) hp
  have ea : aboveF k i = aboveF j i := by simp only [aboveF, h.below]
  have eu : upper k ch i = upper j ch i := by
    funext a
    simp only [upper, secAt, h.secs]
    congr
  rw [badA, hp2, ea, eu, hb.2]
  rfl
theorem Easier.costC {j k : Job} (h : Easier j k) (ch : List Int) : costC k ch = costC j ch := by
  simp only [Go.Gv.costC, ownC, secAt, h.below, h.lengths, h.secs]
theorem Easier.cost {j k : Job} (h : Easier j k) (hv : jobValid j = true) (hc : costB j ≠ -1) : costB k ≠ -1 ∧ costB k ≤ costB j := by
  obtain ⟨h1, h2⟩ := best_ok hv hc
  have ha : (allowedF j (bestF j)).1 = true := by rw [h1]
  have h0 := choice_of_allowed ha
  have := best_le (h.choice hv h0) (h.allowed hv ha)
  rw [h.costC] at this
  rw [costF2, if_neg (by rw [h0]; simp)] at h2
  have e : Go.Gv.costC j (bestF j) = costB j := congrArg Prod.fst h2
  rw [e] at this
  exact this
end Go.Gv

set_option linter.unusedSimpArgs false
namespace Go.Gv
def lowS (j : Job) (ch : List Int) (i s : Nat) : Bool := (aboveF j i).any fun a => decide (j.secs[s]!.height < j.secs[secAt j ch a]!.height)
def highS (j : Job) (ch : List Int) (i s : Nat) : Bool := !decide (j.below.l[i]! = -1) && decide (j.secs[secAt j ch (j.below.l[i]!).toNat]!.height < j.secs[s]!.height)
def stepK (j : Job) (ch : List Int) (i : Nat) (k : Int) (s : Nat) : Int :=
  if j.secs[secAt j ch i]!.price ≤ j.secs[s]!.price then k else if (!lowS j ch i s && !highS j ch i s && !possAt j i s) = true then 1 else if (decide (k = 0) && possAt j i s && lowS j ch i s) = true then 2 else k
def kindUp (j : Job) (ch : List Int) (i : Nat) : Nat → Int
  | 0 => 0
  | s + 1 => stepK j ch i (kindUp j ch i s) s
def kindF (j : Job) (ch : List Int) (i : Nat) : Int := kindUp j ch i j.secs.length
theorem stepK_one (j : Job) (ch : List Int) (i s : Nat) : stepK j ch i 1 s = 1 := by
  unfold stepK
  split
  · rfl
  · split
    · rfl
    · simp
theorem kindUp_one {j : Job} {ch : List Int} {i s : Nat} (h : kindUp j ch i s = 1) : ∀ n, kindUp j ch i (s + n) = 1
  | 0 => h
  | n + 1 => by
    show stepK j ch i (kindUp j ch i (s + n)) (s + n) = 1
    rw [kindUp_one h n, stepK_one]
theorem kindF_one {j : Job} {ch : List Int} {i s : Nat} (hs : s ≤ j.secs.length) (h : kindUp j ch i s = 1) : kindF j ch i = 1 := by
  have := kindUp_one h (j.secs.length - s)
  rwa [show s + (j.secs.length - s) = j.secs.length by omega] at this
def bindUp (j : Job) (ch : List Int) : Nat → List (Int × Nat)
  | 0 => []
  | i + 1 => if 0 < kindF j ch i then bindUp j ch i ++ [(kindF j ch i, i)] else bindUp j ch i
theorem bindUp_len (j : Job) (ch : List Int) : ∀ i, (bindUp j ch i).length ≤ i
  | 0 => Nat.le_refl _
  | i + 1 => by
    have := bindUp_len j ch i
    unfold bindUp
    split
    · simp; omega
    · omega
theorem kindUp_range (j : Job) (ch : List Int) (i : Nat) : ∀ s, 0 ≤ kindUp j ch i s ∧ kindUp j ch i s ≤ 2
  | 0 => by simp [kindUp]
  | s + 1 => by
    have := kindUp_range j ch i s
    simp only [kindUp, stepK]
    split
    · exact this
    · split
      · omega
      · split <;> omega
end Go.Gv

set_option linter.unusedSimpArgs false
namespace Go.Gv
variable {C : CC} (hC : Closed prog C)
include hC
theorem outS1_c (j : Job) (s : Int) : C 122 [.int .i64 s, .ptr (jobC j)] (.bool (outS1 j s)) [] := by
  refine start hC (nf := N122_sizing_choice_1) rfl rfl ?_
  simp [N122_sizing_choice_1, jobC_eq]
  refine brB_of (fun h => ?_) (fun h => ?_) <;> simp at h <;> simp [h, outS1]
  omega
theorem choice_c (j : Job) (b : Bool) (ch : List Int) (hl : ch.length < 2 ^ 62) : C 120 [.agg (jobC j), slx b (ch.map fun n => [.int .i64 n])] (.int .i64 (choiceF j ch)) [] := by
  refine start hC (nf := N120_sizing_choice) rfl rfl ?_
  simp [N120_sizing_choice]
  have hv := Valid_c hC j
  have hh := hasInt_c hC (b := b) (xs := ch) (g := 122) (cs := [.ptr (jobC j)]) (outS1 j) hl (fun s _ => outS1_c hC j s)
  simp [jobC_eq]
  simp [jobC_eq] at hv hh
  refine callW_of hv (.inl rfl) ?_
  cases h : jobValid j
  · simp [choiceF, h]
  simp
  refine brB_of (fun h1 => ?_) (fun h1 => ?_) <;> simp at h1 <;> simp [h1]
  · rw [choiceF, if_neg (by rw [h]; simp), if_pos (by omega)]
  refine callW_of hh (.inl rfl) ?_
  cases h2 : ch.any (outS1 j)
  · simp [choiceF, h, h2]; omega
  · simp [choiceF, h, h2]; omega
theorem upper_c (j : Job) (b : Bool) (ch : List Int) (a i : Nat) (hc : choiceF j ch = 0) (ha : a < j.below.l.length) (hi : i < j.below.l.length) : C 121 [.int .i64 a, .ptr (jobC j), .ptr [slx b (ch.map fun n => [.int .i64 n])], .ptr [.int .i64 ch[i]!]] (.bool (upper j ch i a)) [] := by
  obtain ⟨hv, hl, hs⟩ := choice_ok hc
  obtain ⟨s, e1, e2, e3⟩ := hs i hi
  obtain ⟨t, f1, f2, f3⟩ := hs a ha
  rw [getElem!_pos ch a (by omega)] at f1
  have hal : a < ch.length := by omega
  refine start hC (nf := N121_sizing_Allowed_1) rfl rfl ?_
  rw [e1, upper, e3, f3, getElem!_pos j.secs s e2, getElem!_pos j.secs t f2]
  simp [N121_sizing_Allowed_1, jobC_eq, hal, f1, f2, e2, secC_eq]
  exact indW_of (by decide +kernel)
end Go.Gv

set_option linter.unusedSimpArgs false
namespace Go.Gv
variable {C : CC} (hC : Closed prog C)
include hC
set_option maxHeartbeats 2000000 in
theorem Allowed_c (j : Job) (b : Bool) (ch : List Int) (hl : ch.length < 2 ^ 62) : C 118 [.agg (jobC j), slx b (ch.map fun n => [.int .i64 n])] (.tup [.bool (allowedF j ch).1, .int .i64 (allowedF j ch).2.1, .int .i64 (allowedF j ch).2.2]) [] := by
  refine start hC (nf := N118_sizing_Allowed) rfl rfl ?_
  simp [N118_sizing_Allowed]
  have hcc := choice_c hC j b ch hl
  have ht := fun hv => treeOf_c hC j hv
  simp [jobC_eq]
  simp [jobC_eq] at hcc ht
  refine callW_of hcc (.inl rfl) ?_
  simp
  refine brB_of (fun h => ?_) (fun h => ?_) <;> simp at h <;> simp [h]
  case' refine_1 => simp [allowedF, h]
  obtain ⟨hv, hlen, hs⟩ := choice_ok h
  refine callW_of (ht hv) (.inr rfl) ?_
  simp
  refine loop_of Nat (fun i => [(2, .ptr (jobC j)), (3, .ptr [slx b (ch.map fun n => [.int .i64 n])]), (8, treeD j), (20, slx b (ch.map fun n => [.int .i64 n])), (21, .int .i64 ch.length), (22, .int .i64 i)])
    (fun i => i ≤ ch.length ∧ ∀ k, k < i → badA j ch k = false) (fun i => ch.length - i) 0 (by simp) (by simp [jobC_eq]) ?_
  rintro i ⟨hi, hok⟩
  simp
  refine brB_of (fun h1 => ?_) (fun h1 => ?_) <;> simp at h1 <;> simp [h1]
  · have hi' : i < j.below.l.length := by omega
    have hu := fun a ha => upper_c hC j b ch a i h ha hi'
    simp [h1, treeD_eq, jobC_eq, aboveD, hi']
    have hci : i < ch.length := h1
    have hh : C 11 [.sl ((aboveF j i).map it), .fn 121 [.ptr (jobC j), .ptr [slx b (ch.map fun n => [.int .i64 n])], .ptr [.int .i64 ch[i]!]]] (.bool ((aboveF j i).any (upper j ch i))) [] := by
      have hh := hasInt_c hC (b := false) (xs := (aboveF j i).map fun a => ((a : Nat) : Int)) (g := 121) (cs := [.ptr (jobC j), .ptr [slx b (ch.map fun n => [.int .i64 n])], .ptr [.int .i64 ch[i]!]]) (fun a => upper j ch i a.toNat) (by
        have := above_len j i
        simp; omega) (fun x hx => by
          obtain ⟨a, ha, rfl⟩ := List.mem_map.1 hx
          exact hu a (above_lt ha))
      rw [slx_false, List.map_map, List.any_map] at hh
      exact hh
    rw [getElem!_pos ch i hci] at hh
    simp only [jobC_eq, slI_slx] at hh
    obtain ⟨s, e1, e2, e3⟩ := hs i hi'
    have hw : IntKind.wrap .i64 ((i : Int) + 1) = ((i + 1 : Nat) : Int) := wrap_i64 (by omega) (by omega)
    refine callW_of hh (.inl rfl) ?_
    rw [getElem!_pos ch i hci] at e1
    have hbad : badA j ch i = (!possAt j i s || (aboveF j i).any (upper j ch i)) := by rw [badA, e3]
    have done : badA j ch i = true → allowedF j ch = (false, (i : Int), 0) := fun hb => allowed_some h hi' hok hb
    have next : badA j ch i = false → ∀ k, k < i + 1 → badA j ch k = false := fun hb k hk => by
      rcases Nat.lt_succ_iff_lt_or_eq.1 hk with h5 | rfl
      · exact hok k h5
      · exact hb
    rw [hbad] at done next
    cases hp : possAt j i s
    · simp [h1, treeD_eq, jobC_eq, possD, hi', e1, e2, bl, hp]
      refine ⟨indW_of (by decide +kernel), ?_⟩
      simp [done (by simp [hp])]
    · simp [h1, treeD_eq, jobC_eq, possD, hi', e1, e2, bl, hp]
      refine ⟨indW_of (by decide +kernel), ?_⟩
      cases hb : (aboveF j i).any (upper j ch i)
      · simp [hw]
        exact ⟨i + 1, ⟨by omega, next (by rw [hb, hp]; rfl)⟩, by omega, by simp [treeD_eq, jobC_eq]⟩
      · simp [done (by rw [hb, hp]; rfl)]
  · rw [allowed_none h (fun k hk => hok k (by omega))]
    simp
end Go.Gv

set_option linter.unusedSimpArgs false
namespace Go.Gv
def fdD (x : Int × List UInt8) : List D := [.int .i64 x.1, .str x.2]
variable {C : CC} (hC : Closed prog C)
include hC
theorem lowS_c (j : Job) (b : Bool) (ch : List Int) (a s : Nat) (hc : choiceF j ch = 0) (ha : a < j.below.l.length) : C 128 [.int .i64 a, .ptr (jobC j), .ptr [slx b (ch.map fun n => [.int .i64 n])], .ptr (secC j.secs[s]!)] (.bool (decide (j.secs[s]!.height < j.secs[secAt j ch a]!.height))) [] := by
  obtain ⟨hv, hl, hs⟩ := choice_ok hc
  obtain ⟨t, f1, f2, f3⟩ := hs a ha
  rw [getElem!_pos ch a (by omega)] at f1
  have hal : a < ch.length := by omega
  obtain ⟨x, hx⟩ : ∃ x, x = j.secs[s]! := ⟨_, rfl⟩
  rw [← hx]
  refine start hC (nf := N128_sizing_Binding_1) rfl rfl ?_
  rw [f3, getElem!_pos j.secs t f2]
  simp [N128_sizing_Binding_1, jobC_eq, hal, f1, f2, secC_eq]
  exact indW_of (by decide +kernel)
end Go.Gv

set_option linter.unusedSimpArgs false
namespace Go.Gv
def bindR (dec : Nat → List UInt8) (j : Job) (ch : List Int) (i : Nat) : List (Int × List UInt8) := (bindUp j ch i).map fun x => (x.1, dec x.2)
def bindX (dec : Nat → List UInt8) (j : Job) (ch : List Int) (i : Nat) : List (List D) := (bindR dec j ch i).map fun x => fdD x
theorem bindX_zero {dec j ch} : bindX dec j ch 0 = [] := _root_.id rfl
theorem bindX_len {dec j ch i} : (bindX dec j ch i).length = (bindUp j ch i).length := by simp [bindX, bindR]
theorem bindX_pos {dec j ch i} (h : 0 < kindF j ch i) : bindX dec j ch (i + 1) = bindX dec j ch i ++ [fdD (kindF j ch i, dec i)] := by
  simp only [bindX, bindR, bindUp, if_pos h, List.map_append, List.map_cons, List.map_nil]
theorem bindX_neg {dec j ch i} (h : ¬ 0 < kindF j ch i) : bindX dec j ch (i + 1) = bindX dec j ch i := by
  simp only [bindX, bindR, bindUp, if_neg h]
variable {C : CC} (hC : Closed prog C)
include hC
set_option maxRecDepth 4000 in
set_option maxHeartbeats 4000000 in
theorem Binding_c (dec : Nat → List UInt8) (hI : ∀ n : Nat, n < 100 → C 127 [.int .i64 n] (.str (dec n)) []) (j : Job) (b : Bool) (ch : List Int) (hl : ch.length < 2 ^ 62) (hn : j.below.l.length ≤ 12) (h0 : choiceF j ch = 0) (ha : (allowedF j ch).1 = true) :
    C 124 [.agg (jobC j), slx b (ch.map fun n => [.int .i64 n])] (.tup [.sl (bindX dec j ch j.below.l.length), .int .i64 0]) [] := by
  obtain ⟨hv, hlen, hs⟩ := choice_ok h0
  have ha2 : allowedF j ch = (true, -1, 0) := allowed_none h0 (allowed_good h0 ha)
  have hm : j.secs.length ≤ 40 := by simp only [jobValid, catValid, Bool.and_eq_true, decide_eq_true_eq] at hv; omega
  have k1 := Allowed_c hC j b ch hl
  rw [ha2] at k1
  have ht := treeOf_c hC j hv
  simp only [jobC_eq] at k1 ht
  refine start hC (nf := N124_sizing_Binding) rfl rfl ?_
  simp [N124_sizing_Binding, jobC_eq]
  simp at k1 ht
  refine callW_of k1 (.inl rfl) ?_
  simp
  refine callW_of ht (.inr rfl) ?_
  simp
  obtain ⟨R, hR⟩ : ∃ R, R = bindX dec j ch := ⟨_, rfl⟩
  have hR0 : R 0 = [] := by rw [hR]; rfl
  have hRl : ∀ i, (R i).length = (bindUp j ch i).length := fun i => by rw [hR, bindX_len]
  have hRp : ∀ i, 0 < kindF j ch i → R (i + 1) = R i ++ [[.int .i64 (kindF j ch i), .str (dec i)]] := fun i h => by rw [hR]; exact bindX_pos h
  have hRn : ∀ i, ¬ 0 < kindF j ch i → R (i + 1) = R i := fun i h => by rw [hR]; exact bindX_neg h
  have hRv : ∀ i, (R i).map (fun e => e.map cellV) = R i := fun i => by
    rw [hR, bindX, List.map_map]
    exact List.map_congr_left fun x _ => rfl
  rw [← hR]
  refine loop_of Nat (fun i => [(2, .ptr (jobC j)), (3, .ptr [slx b (ch.map fun n => [.int .i64 n])]), (9, treeD j), (10, .ref (.r 10160) 0 (R i).length), (10160, .blk 2 (R i)), (32, slx b (ch.map fun n => [.int .i64 n])), (33, .int .i64 ch.length), (34, .int .i64 i)])
    (fun i => i ≤ ch.length) (fun i => ch.length - i) 0 (by simp) (by simp [jobC_eq, treeD_eq, hR0]) ?_
  rintro i hi
  simp
  refine brB_of (fun h1 => ?_) (fun h1 => ?_) <;> simp at h1 <;> simp [h1]
  · have hi' : i < j.below.l.length := by omega
    obtain ⟨t, e1, e2, e3⟩ := hs i hi'
    rw [getElem!_pos ch i h1] at e1
    have hw : IntKind.wrap .i64 ((i : Int) + 1) = ((i + 1 : Nat) : Int) := wrap_i64 (by omega) (by omega)
    simp [jobC_eq]
    refine loop_out 2 Int (fun k => [(2, .ptr (jobC j)), (3, .ptr [slx b (ch.map fun n => [.int .i64 n])]), (9, treeD j), (10, .ref (.r 10160) 0 (R i).length), (10160, .blk 2 (R i)), (11, .int .i64 i), (13, .int .i64 k), (32, slx b (ch.map fun n => [.int .i64 n])), (33, .int .i64 ch.length), (34, .int .i64 i)]) (fun k => k = kindF j ch i) ?_ ?_
    · refine loop_of Nat (fun s => [(2, .ptr (jobC j)), (3, .ptr [slx b (ch.map fun n => [.int .i64 n])]), (9, treeD j), (10, .ref (.r 10160) 0 (R i).length), (10160, .blk 2 (R i)), (11, .int .i64 i), (12, .int .i64 t), (13, .int .i64 (kindUp j ch i s)), (32, slx b (ch.map fun n => [.int .i64 n])), (33, .int .i64 ch.length), (34, .int .i64 i), (40, slx j.secN (j.secs.map secC)), (41, .int .i64 j.secs.length), (42, .int .i64 s)])
        (fun s => s ≤ j.secs.length ∧ kindUp j ch i s ≠ 1) (fun s => j.secs.length - s) 0 (by simp [kindUp]) (by simp [jobC_eq, treeD_eq, e1, kindUp]) ?_
      rintro s ⟨hs1, hs2⟩
      simp
      refine brB_of (fun g1 => ?_) (fun g1 => ?_) <;> simp at g1 <;> simp [g1]
      rotate_left
      · have : s = j.secs.length := by omega
        subst this
        rfl
      have hw2 : IntKind.wrap .i64 ((s : Int) + 1) = ((s + 1 : Nat) : Int) := wrap_i64 (by omega) (by omega)
      have hlow : C 11 [.sl ((aboveF j i).map it), .fn 128 [.ptr (jobC j), .ptr [slx b (ch.map fun n => [.int .i64 n])], .ptr (secC j.secs[s]!)]] (.bool (lowS j ch i s)) [] := by
        have hh := hasInt_c hC (b := false) (xs := (aboveF j i).map fun a => ((a : Nat) : Int)) (g := 128) (cs := [.ptr (jobC j), .ptr [slx b (ch.map fun n => [.int .i64 n])], .ptr (secC j.secs[s]!)]) (fun a => decide (j.secs[s]!.height < j.secs[secAt j ch a.toNat]!.height)) (by
          have := above_len j i
          simp; omega) (fun x hx => by
            obtain ⟨a, ha, rfl⟩ := List.mem_map.1 hx
            exact lowS_c hC j b ch a s h0 (above_lt ha))
        rw [slx_false, List.map_map, List.any_map] at hh
        exact hh
      rw [getElem!_pos j.secs s g1] at hlow
      simp only [jobC_eq, secC_eq] at hlow
      have hki := kindUp_range j ch i s
      have step : kindUp j ch i (s + 1) = stepK j ch i (kindUp j ch i s) s := rfl
      have nextS : ∀ k, stepK j ch i (kindUp j ch i s) s = k → k ≠ 1 → kindUp j ch i (s + 1) = k ∧ kindUp j ch i (s + 1) ≠ 1 := fun k h1 h2 => by
        rw [step, h1]; exact ⟨rfl, h2⟩
      have e3' : (ch[i]!).toNat = t := e3
      unfold stepK at nextS step
      rw [e3, getElem!_pos j.secs s g1, getElem!_pos j.secs t e2] at nextS step
      simp [treeD_eq, jobC_eq, secC_eq, g1, e2]
      refine ⟨indW_of (by decide +kernel), ?_⟩
      refine brB_of (fun g2 => ?_) (fun g2 => ?_) <;> simp at g2 <;> simp [g2]
      · rw [if_pos g2] at step nextS
        refine ⟨s + 1, ⟨by omega, by rw [step]; exact hs2⟩, by omega, by simp [jobC_eq], by simp [treeD_eq, jobC_eq], by rw [step], hw2⟩
      rw [if_neg (by omega)] at step nextS
      simp [hi', aboveD]
      refine callW_of hlow (.inl rfl) ?_
      have hfin1 : stepK j ch i (kindUp j ch i s) s = 1 → (1 : Int) = kindF j ch i := fun h => (kindF_one (s := s + 1) (by omega) (by show stepK j ch i _ s = 1; exact h)).symm
      unfold stepK at hfin1
      rw [e3, getElem!_pos j.secs s g1, getElem!_pos j.secs t e2, if_neg (by omega)] at hfin1
      have hbi : j.below.l[i]! = -1 ∨ ∃ p : Nat, j.below.l[i]! = (p : Int) ∧ p < j.below.l.length := by
        simp only [jobValid, Bool.and_eq_true, List.all_eq_true, List.mem_range] at hv
        have := hv.2 i hi'
        simp only [pipeOk, inRq, Bool.and_eq_true, Bool.or_eq_true, decide_eq_true_eq, beq_iff_eq] at this
        by_cases h : j.below.l[i]! = -1
        · exact .inl h
        · exact .inr ⟨(j.below.l[i]!).toNat, by omega, by omega⟩
      have hhi : ∀ v, highS j ch i s = v → highS j ch i s = v := fun _ h => h
      simp
      rcases hbi with hb | ⟨p, hb, hp⟩
      · have hh : highS j ch i s = false := by simp [highS, hb]
        rw [hh] at step nextS hfin1
        rw [getElem!_pos _ i hi'] at hb
        simp [hb, hi', treeD_eq, jobC_eq, secC_eq, g1, e2]
        refine ⟨indW_of (by decide +kernel), ?_⟩
        cases hlo : lowS j ch i s <;> cases hpo : possAt j i s <;> rw [hlo, hpo] at step nextS hfin1 <;> simp at step hfin1
        · simp [hi', treeD_eq, jobC_eq, secC_eq, g1, possD, bl, hpo]
          exact hfin1
        · simp [hi', treeD_eq, jobC_eq, secC_eq, g1, possD, bl, hpo]
          refine brB_of (fun g3 => ?_) (fun g3 => ?_) <;> simp at g3 <;> simp [g3, hi', treeD_eq, jobC_eq, secC_eq, g1, possD, bl, hpo, hs2, hw2]
          · exact ⟨s + 1, ⟨by omega, by omega⟩, by omega, by omega⟩
          · exact ⟨s + 1, ⟨by omega, by omega⟩, by omega, by omega⟩
        · simp [hi', treeD_eq, jobC_eq, secC_eq, g1, possD, bl, hpo]
          refine brB_of (fun g3 => ?_) (fun g3 => ?_) <;> simp at g3 <;> simp [g3, hi', treeD_eq, jobC_eq, secC_eq, g1, possD, bl, hpo, hs2, hw2]
          · exact ⟨s + 1, ⟨by omega, by omega⟩, by omega, by omega⟩
          · exact ⟨s + 1, ⟨by omega, by omega⟩, by omega, by omega⟩
        · simp [hi', treeD_eq, jobC_eq, secC_eq, g1, possD, bl, hpo]
          refine brB_of (fun g3 => ?_) (fun g3 => ?_) <;> simp at g3 <;> simp [g3, hi', treeD_eq, jobC_eq, secC_eq, g1, possD, bl, hpo, hs2, hw2]
          · rw [if_pos g3] at step
            exact ⟨s + 1, ⟨by omega, by omega⟩, by omega, by omega⟩
          · rw [if_neg g3] at step
            exact ⟨s + 1, ⟨by omega, by omega⟩, by omega, by omega⟩
      · obtain ⟨u, u1, u2, u3⟩ := hs p hp
        have hh : highS j ch i s = decide (j.secs[u].height < j.secs[s].height) := by
          rw [highS, hb, Int.toNat_natCast, u3, getElem!_pos j.secs s g1, getElem!_pos j.secs u u2]
          simp
        rw [hh] at step nextS hfin1
        rw [getElem!_pos _ i hi'] at hb
        rw [getElem!_pos ch p (by omega)] at u1
        have hpc : p < ch.length := by omega
        have hpn : ¬ ((p : Int) = -1) := by omega
        simp [hb, hi', treeD_eq, jobC_eq, secC_eq, g1, e2, hpc, hpn, u1, u2]
        refine ⟨indW_of (by decide +kernel), ?_⟩
        obtain ⟨hg, hge⟩ : ∃ hg, hg = decide (j.secs[u].height < j.secs[s].height) := ⟨_, rfl⟩
        rw [← hge] at step hfin1 ⊢
        clear hge nextS
        cases hg <;> cases hlo : lowS j ch i s <;> cases hpo : possAt j i s <;> rw [hlo, hpo] at step hfin1 <;> simp at step hfin1
        · simp [hi', treeD_eq, jobC_eq, secC_eq, g1, possD, bl, hpo]
          exact hfin1
        · simp [hi', treeD_eq, jobC_eq, secC_eq, g1, possD, bl, hpo]
          refine brB_of (fun g3 => ?_) (fun g3 => ?_) <;> simp at g3 <;> simp [g3, hi', treeD_eq, jobC_eq, secC_eq, g1, possD, bl, hpo, hs2, hw2]
          · exact ⟨s + 1, ⟨by omega, by omega⟩, by omega, by omega⟩
          · exact ⟨s + 1, ⟨by omega, by omega⟩, by omega, by omega⟩
        · simp [hi', treeD_eq, jobC_eq, secC_eq, g1, possD, bl, hpo]
          refine brB_of (fun g3 => ?_) (fun g3 => ?_) <;> simp at g3 <;> simp [g3, hi', treeD_eq, jobC_eq, secC_eq, g1, possD, bl, hpo, hs2, hw2]
          · exact ⟨s + 1, ⟨by omega, by omega⟩, by omega, by omega⟩
          · exact ⟨s + 1, ⟨by omega, by omega⟩, by omega, by omega⟩
        · simp [hi', treeD_eq, jobC_eq, secC_eq, g1, possD, bl, hpo]
          refine brB_of (fun g3 => ?_) (fun g3 => ?_) <;> simp at g3 <;> simp [g3, hi', treeD_eq, jobC_eq, secC_eq, g1, possD, bl, hpo, hs2, hw2]
          · rw [if_pos g3] at step
            exact ⟨s + 1, ⟨by omega, by omega⟩, by omega, by omega⟩
          · rw [if_neg g3] at step
            exact ⟨s + 1, ⟨by omega, by omega⟩, by omega, by omega⟩
        · simp [hi', treeD_eq, jobC_eq, secC_eq, g1, possD, bl, hpo]
          refine brB_of (fun g3 => ?_) (fun g3 => ?_) <;> simp at g3 <;> simp [g3, hi', treeD_eq, jobC_eq, secC_eq, g1, possD, bl, hpo, hs2, hw2]
          · exact ⟨s + 1, ⟨by omega, by omega⟩, by omega, by omega⟩
          · exact ⟨s + 1, ⟨by omega, by omega⟩, by omega, by omega⟩
        · simp [hi', treeD_eq, jobC_eq, secC_eq, g1, possD, bl, hpo]
          refine brB_of (fun g3 => ?_) (fun g3 => ?_) <;> simp at g3 <;> simp [g3, hi', treeD_eq, jobC_eq, secC_eq, g1, possD, bl, hpo, hs2, hw2]
          · exact ⟨s + 1, ⟨by omega, by omega⟩, by omega, by omega⟩
          · exact ⟨s + 1, ⟨by omega, by omega⟩, by omega, by omega⟩
        · simp [hi', treeD_eq, jobC_eq, secC_eq, g1, possD, bl, hpo]
          refine brB_of (fun g3 => ?_) (fun g3 => ?_) <;> simp at g3 <;> simp [g3, hi', treeD_eq, jobC_eq, secC_eq, g1, possD, bl, hpo, hs2, hw2]
          · exact ⟨s + 1, ⟨by omega, by omega⟩, by omega, by omega⟩
          · exact ⟨s + 1, ⟨by omega, by omega⟩, by omega, by omega⟩
        · simp [hi', treeD_eq, jobC_eq, secC_eq, g1, possD, bl, hpo]
          refine brB_of (fun g3 => ?_) (fun g3 => ?_) <;> simp at g3 <;> simp [g3, hi', treeD_eq, jobC_eq, secC_eq, g1, possD, bl, hpo, hs2, hw2]
          · rw [if_pos g3] at step
            exact ⟨s + 1, ⟨by omega, by omega⟩, by omega, by omega⟩
          · rw [if_neg g3] at step
            exact ⟨s + 1, ⟨by omega, by omega⟩, by omega, by omega⟩
    · intro k e hk hwk
      subst hk
      simp at hwk
      obtain ⟨g2, g3, g9, g10, gr, g11, g13, g32, g33, g34⟩ := hwk
      simp [g2, g3, g9, g10, gr, g11, g13, g32, g33, g34]
      have hRb : (bindUp j ch i).length ≤ i := bindUp_len j ch i
      have hRi := hRl i
      refine brB_of (fun c1 => ?_) (fun c1 => ?_) <;> simp at c1 <;> simp [c1]
      · refine callW_of (hI i (by omega)) (.inl rfl) ?_
        simp
        refine ⟨by omega, i + 1, by omega, by omega, ?_, (hRp i c1).symm, hw⟩
        rw [hRp i c1]; simp
      · simp [hw]
        exact ⟨i + 1, by omega, by omega, by rw [hRn i (by omega)], by rw [hRn i (by omega)], by omega⟩
  · have : i = j.below.l.length := by omega
    subst this
    exact (hRv _).symm
end Go.Gv

set_option linter.unusedSimpArgs false
namespace Go.Gv
variable {C : CC} (hC : Closed prog C)
include hC
theorem rDigit_c (c : Int) : C 78 [.int .u8 c] (.bool (isDigit c)) [] := by
  refine start hC (nf := N78_ref01_Digit) rfl rfl ?_
  simp [N78_ref01_Digit, isDigit]
  refine brB_of (fun h => ?_) (fun h => ?_) <;> simp at h <;> simp [h] <;> omega
theorem rLetter_c (c : Int) : C 62 [.int .u8 c] (.bool (isLetter c)) [] := by
  refine start hC (nf := N62_ref01_Letter) rfl rfl ?_
  simp [N62_ref01_Letter, isLetter]
  repeat' (refine brB_of (fun h => ?_) (fun h => ?_) <;> simp at h <;> simp [h] <;> try omega)
theorem rword_c (s : List UInt8) (hs : s.length < 2 ^ 62) : C 63 [.str s, .int .i64 0] (.int .i64 (wordLen s)) [] := by
  refine start hC (nf := N63_ref01_word) rfl rfl ?_
  simp [N63_ref01_word]
  refine loop_of Nat (fun i => [(0, .str s), (1, .int .i64 i)]) (fun i => i ≤ wordLen s) (fun i => wordLen s - i) 0 (by simp) (by simp) ?_
  intro i hi
  have hle : wordLen s ≤ s.length := wordLen_le s
  by_cases hl : i < s.length
  · simp [hl]
    refine callW_of (rLetter_c hC _) (.inl rfl) ?_
    have hstep : isWordB s[i] = true → i + 1 ≤ wordLen s := wordLen_more hl hi
    have hstop : isWordB s[i] = false → i = wordLen s := wordLen_stop hl hi
    simp only [isWordB] at hstep hstop
    have hw : IntKind.wrap .i64 ((i : Int) + 1) = ((i + 1 : Nat) : Int) := wrap_i64 (by omega) (by omega)
    cases h1 : isLetter s[i].toNat with
    | true => 
      simp [h1, hw] at hstep ⊢
      exact ⟨i + 1, by omega, by omega, rfl⟩
    | false =>
      simp [h1, hl]
      refine callW_of (rDigit_c hC _) (.inl rfl) ?_
      cases h2 : isDigit s[i].toNat with
      | true =>
        simp [h1, h2, hw] at hstep ⊢
        exact ⟨i + 1, by omega, by omega, rfl⟩
      | false =>
        simp [hl]
        refine brB_of (fun h3 => ?_) (fun h3 => ?_) <;> simp at h3
        · simp [hw, hl]
          have := hstep (by simp [show s[i].toNat = 95 by omega])
          exact ⟨i + 1, this, by omega, rfl⟩
        · have h4 : ¬ s[i].toNat = 95 := by omega
          simp [h1, h2, h4] at hstop ⊢
          omega
  · simp [hl]
    have : i = wordLen s := by omega
    omega
theorem rIsName_c (s : List UInt8) : C 54 [.str s] (.bool (isName s)) [] := by
  refine start hC (nf := N54_ref01_IsName) rfl rfl ?_
  simp [N54_ref01_IsName]
  refine brB_of (fun h => ?_) (fun h => ?_) <;> simp at h
  · subst h
    simp [isName]
  · have hp : 0 < s.length := List.length_pos_iff.2 h
    simp [h, hp]
    refine brB_of (fun h2 => ?_) (fun h2 => ?_) <;> simp at h2
    · simp [h2, isName]
      omega
    · simp [h2, hp]
      refine callW_of (rLetter_c hC _) (.inl rfl) ?_
      simp
      cases h3 : isLetter s[0].toNat
      · simp [h3, isName, h, hp]
      · simp [h3, h2]
        refine callW_of (rword_c hC s (by omega)) (.inl rfl) ?_
        simp [isName, h, h3, show s.length ≤ 20 by omega, hp, Int.ofNat_inj]
        rw [Bool.eq_iff_iff]; simp
theorem rNumber_c (n : Int) : C 79 [.int .i64 n] (.bool (fits n)) [] := by
  refine start hC (nf := N79_ref06_Number) rfl rfl ?_
  simp [N79_ref06_Number, fits]
  refine brB_of (fun h => ?_) (fun h => ?_) <;> simp at h <;> simp [h] <;> omega
theorem rTable_c (b : Bool) (t : List (Int × Int)) : C 64 [slx b (t.map knD)] (.bool (tableValid t)) [] := by
  refine start hC (nf := N64_ref06_Valid) rfl rfl ?_
  simp [N64_ref06_Valid]
  refine brB_of (fun h => ?_) (fun h => ?_) <;> simp at h
  · simp [tableValid, show t.length = 0 by omega]
  simp [h]
  refine brB_of (fun h2 => ?_) (fun h2 => ?_) <;> simp at h2
  · simp [tableValid, h, h2]
    omega
  simp
  refine loop_of Nat (fun i => [(0, slx b (t.map knD)), (3, .int .i64 i)]) (fun i => i ≤ t.length ∧ ∀ j < i, okAt t j = true) (fun i => t.length - i) 0 (by simp) (by simp) ?_
  rintro i ⟨hi, hj⟩
  simp
  refine brB_of (fun h3 => ?_) (fun h3 => ?_) <;> simp at h3
  · have bad : okAt t i = false → tableValid t = false := fun hb => by
      simp only [tableValid, Bool.and_eq_false_iff, List.all_eq_false]
      exact .inr ⟨i, by simpa using h3, by simp [hb]⟩
    have e1 : t[i]! = t[i] := getElem!_pos t i h3
    have e2 : t[i - 1]! = t[i - 1] := getElem!_pos t (i - 1) (by omega)
    simp only [okAt, e1, e2] at bad
    have hw1 : IntKind.wrap .i64 ((i : Int) + 1) = ((i + 1 : Nat) : Int) := wrap_i64 (by omega) (by omega)
    have next : okAt t i = true → ∃ s' : Nat, (s' ≤ t.length ∧ ∀ j < s', okAt t j = true) ∧ t.length - s' < t.length - i ∧ s' = i + 1 := fun ho =>
      ⟨i + 1, ⟨by omega, fun j hjj => by
        rcases Nat.lt_succ_iff_lt_or_eq.1 hjj with h | rfl
        · exact hj j h
        · exact ho⟩, by omega, rfl⟩
    simp only [okAt, e1, e2] at next
    simp [h3, knD]
    refine callW_of (rNumber_c hC _) (.inl rfl) ?_
    cases f1 : fits t[i].1
    · simp
      exact bad (by simp [f1])
    simp [h3, knD]
    refine callW_of (rNumber_c hC _) (.inl rfl) ?_
    cases f2 : fits t[i].2
    · simp
      exact bad (by simp [f2])
    simp [h3, knD]
    refine brB_of (fun h4 => ?_) (fun h4 => ?_) <;> simp at h4
    · have hw : IntKind.wrap .i64 ((i : Int) - 1) = ((i - 1 : Nat) : Int) := wrap_i64 (by omega) (by omega)
      have h5 : i - 1 < t.length := by omega
      simp [h4, hw, h5, h3, knD]
      refine brB_of (fun h6 => ?_) (fun h6 => ?_) <;> simp [h6, hw, h5, h3, knD] <;> simp at h6
      · refine ⟨indW_of (by decide +kernel), bad ?_⟩
        simp [f1, f2]
        omega
      · refine ⟨indW_of (by decide +kernel), ?_⟩
        refine brB_of (fun h7 => ?_) (fun h7 => ?_) <;> simp [h7, hw1] <;> simp at h7
        · refine bad ?_
          simp [f1, f2]
          omega
        · obtain ⟨s', g1, g2, rfl⟩ := next (by simp [f1, f2, h6, h7])
          exact ⟨_, g1, g2, rfl⟩
    · have hi0 : i = 0 := by omega
      subst hi0
      simp at hw1
      simp [hw1]
      refine ⟨indW_of (by decide +kernel), ?_⟩
      obtain ⟨s', g1, g2, rfl⟩ := next (by simp [f1, f2])
      exact ⟨_, g1, g2, rfl⟩
  · have : i = t.length := by omega
    subst this
    simp [tableValid, h, h2]
    exact ⟨⟨by omega, by omega⟩, hj⟩
end Go.Gv

set_option linter.unusedSimpArgs false
namespace Go.Gv
variable {C : CC} (hC : Closed prog C)
include hC
theorem rfits_c (b : Bool) (t : List (Int × Int)) (hgt most : Int) : C 55 [slx b (t.map knD), .int .i64 hgt, .int .i64 most] (.bool (curveOk t hgt most)) [] := by
  refine start hC (nf := N55_ref28_fits) rfl rfl ?_
  simp [N55_ref28_fits]
  refine callW_of (rTable_c hC b t) (.inl rfl) ?_
  cases hv : tableValid t
  · simp [curveOk, hv]
  obtain ⟨l1, l2⟩ := valid_len hv
  obtain ⟨n, hn⟩ : ∃ n, n + 1 = t.length := ⟨t.length - 1, by omega⟩
  have e1 : IntKind.wrap .i64 ((t.length : Int) - 1) = (n : Int) := wrap_i64 (by omega) (by omega)
  have hnl : n < t.length := by omega
  have h0 : 0 < t.length := by omega
  have e0 : t[0]! = t[0] := getElem!_pos t 0 h0
  simp [e1, hnl, h0, knD]
  rw [curveOk, lastK_get hn, e0, hv]
  refine brB_of (fun c => ?_) (fun c => ?_) <;> simp [h0, knD] at c <;> simp [c, h0, hnl, knD]
  refine brB_of (fun c2 => ?_) (fun c2 => ?_) <;> simp [h0, knD] at c2 <;> simp [c2, h0, hnl, knD]
  refine brB_of (fun c3 => ?_) (fun c3 => ?_) <;> simp [h0, knD] at c3 <;> simp [c3, h0, hnl, knD]
  exact fun _ => ⟨c, c2⟩
theorem rRight_c (s : Sec) : C 48 [.agg (secC s)] (.bool (secValid s)) [] := by
  refine start hC (nf := N48_ref28_Right) rfl rfl ?_
  simp [N48_ref28_Right, secC]
  refine callW_of (rIsName_c hC s.name) (.inl rfl) ?_
  cases h1 : isName s.name
  · simp [secValid, h1]
  simp
  refine brB_of (fun c1 => ?_) (fun c1 => ?_) <;> simp [c1] <;> simp at c1
  · simp [secValid]; omega
  refine brB_of (fun c2 => ?_) (fun c2 => ?_) <;> simp [c2] <;> simp at c2
  · simp [secValid]; omega
  refine brB_of (fun c3 => ?_) (fun c3 => ?_) <;> simp [c3] <;> simp at c3
  · simp [secValid]; omega
  refine brB_of (fun c4 => ?_) (fun c4 => ?_) <;> simp [c4] <;> simp at c4
  · simp [secValid]; omega
  refine callW_of (rfits_c hC _ _ _ _) (.inl rfl) ?_
  cases h5 : curveOk s.area s.height 1073741824
  · simp [secValid, h5]
  simp
  refine callW_of (rfits_c hC _ _ _ _) (.inl rfl) ?_
  have d1 : 1 ≤ s.height := by omega
  simp [secValid, h1, d1, c2, c3, c4, h5]
end Go.Gv

set_option linter.unusedSimpArgs false
namespace Go.Gv

def nameIs (nm : List UInt8) (s : Sec) : Bool := s.name == nm
/-- A catalogue is valid if each section is, and is the first one with its name. -/
theorem catValid_iff (l : List Sec) : catValid l = true ↔ l.length ≤ 40 ∧ (∀ (i : Nat) (h : i < l.length), secValid l[i] = true ∧ idxD (nameIs l[i].name) l = i) := by
  simp only [catValid, Bool.and_eq_true, decide_eq_true_eq, List.all_eq_true]
  constructor
  · rintro ⟨⟨h1, h2⟩, h3⟩
    refine ⟨h1, fun i h => ⟨h2 _ (List.getElem_mem h), ?_⟩⟩
    refine idxD_step (fun k hk hki => ?_) h (by simp [nameIs])
    rw [nameIs, beq_eq_false_iff_ne]
    intro e
    exact List.pairwise_iff_getElem.1 h3 k i (by simpa using hk) (by simpa using h) hki (by simpa using e)
  · rintro ⟨h1, h2⟩
    refine ⟨⟨h1, fun x hx => ?_⟩, ?_⟩
    · obtain ⟨i, h, rfl⟩ := List.getElem_of_mem hx
      exact (h2 i h).1
    · refine List.pairwise_iff_getElem.2 fun a b ha hb hab e => ?_
      simp only [List.length_map] at ha hb
      simp only [List.getElem_map] at e
      have h3 := (h2 b hb).2
      have h4 : ∃ k, k ≤ a ∧ idxD (nameIs l[b].name) l = (k : Int) := by
        unfold idxD
        cases hf : l.findIdx? (nameIs l[b].name) with
        | none =>
          rw [List.findIdx?_eq_none_iff] at hf
          have := hf l[a] (List.getElem_mem _)
          simp [nameIs, e] at this
        | some k =>
          refine ⟨k, ?_, rfl⟩
          rw [List.findIdx?_eq_some_iff_getElem] at hf
          obtain ⟨q1, q2, q3⟩ := hf
          rcases Nat.lt_or_ge a k with hak | hak
          · exact absurd (by simp [nameIs, e]) (q3 a hak)
          · exact hak
      obtain ⟨k, h5, h6⟩ := h4
      omega

variable {C : CC} (hC : Closed prog C)
include hC
theorem rFind_c (b : Bool) (l : List Sec) (nm : List UInt8) (hl : l.length < 2 ^ 62) : C 49 [slx b (l.map secC), .str nm] (.int .i64 (idxD (nameIs nm) l)) [] := by
  refine start hC (nf := N49_ref28_Find) rfl rfl ?_
  simp [N49_ref28_Find]
  refine loop_of Nat (fun i => [(0, slx b (l.map secC)), (1, .str nm), (5, .int .i64 i)]) (fun i => i ≤ l.length ∧ ∀ (k : Nat) (h : k < l.length), k < i → nameIs nm l[k] = false) (fun i => l.length - i) 0 (by simp) (by simp) ?_
  rintro i ⟨hi, hj⟩
  simp
  refine brB_of (fun h => ?_) (fun h => ?_) <;> simp at h <;> simp [h]
  · have hw : IntKind.wrap .i64 ((i : Int) + 1) = ((i + 1 : Nat) : Int) := wrap_i64 (by omega) (by omega)
    simp [h, secC]
    refine brB_of (fun h2 => ?_) (fun h2 => ?_) <;> simp at h2 <;> simp [h2, hw]
    · rw [idxD_step hj h (by simp [nameIs, h2])]
    · refine ⟨i + 1, ⟨by omega, fun k hk hki => ?_⟩, by omega, by simp⟩
      rcases Nat.lt_succ_iff_lt_or_eq.1 hki with h5 | rfl
      · exact hj k hk h5
      · simp [nameIs, h2]
  · rw [idxD_none (fun k hk => hj k hk (by omega))]
theorem rcat_c (b : Bool) (l : List Sec) : C 33 [slx b (l.map secC)] (.bool (catValid l)) [] := by
  refine start hC (nf := N33_ref28_Valid) rfl rfl ?_
  simp [N33_ref28_Valid]
  refine brB_of (fun h => ?_) (fun h => ?_) <;> simp at h
  · simp [catValid]; omega
  simp
  have hcv := catValid_iff l
  refine loop_of Nat (fun i => [(0, slx b (l.map secC)), (3, .int .i64 i)]) (fun i => i ≤ l.length ∧ ∀ (k : Nat) (h : k < l.length), k < i → secValid l[k] = true ∧ idxD (nameIs l[k].name) l = k) (fun i => l.length - i) 0 (by simp) (by simp) ?_
  rintro i ⟨hi, hj⟩
  simp
  refine brB_of (fun h3 => ?_) (fun h3 => ?_) <;> simp at h3 <;> simp [h3]
  · have hw : IntKind.wrap .i64 ((i : Int) + 1) = ((i + 1 : Nat) : Int) := wrap_i64 (by omega) (by omega)
    have bad : ¬ (secValid l[i] = true ∧ idxD (nameIs l[i].name) l = i) → catValid l = false := fun e => by
      rw [← Bool.not_eq_true]
      exact fun e2 => e ((hcv.1 e2).2 i h3)
    have hr := rRight_c hC l[i]
    have hf := rFind_c hC b l l[i].name (by omega)
    simp [h3, secC]
    simp [secC] at hr
    refine callW_of hr (.inl rfl) ?_
    cases hs : secValid l[i]
    · simp
      exact bad (by simp [hs])
    simp [h3, secC]
    refine callW_of hf (.inl rfl) ?_
    simp
    refine brB_of (fun h4 => ?_) (fun h4 => ?_) <;> simp at h4 <;> simp [h4]
    · exact bad (fun e => h4 e.2)
    · simp [hw]
      refine ⟨i + 1, ⟨by omega, fun k hk hki => ?_⟩, by omega, by simp⟩
      rcases Nat.lt_succ_iff_lt_or_eq.1 hki with h5 | rfl
      · exact hj k hk h5
      · exact ⟨hs, h4⟩
  · rw [hcv.2 ⟨by omega, fun k hk => hj k hk (by omega)⟩]
theorem ranges_c (b : Bool) (l : List Int) (lo hi : Int) (hl : l.length < 2 ^ 62) : C 34 [slx b (l.map fun n => [.int .i64 n]), .int .i64 lo, .int .i64 hi] (.bool (l.all fun n => inRq n lo hi)) [] := by
  refine start hC (nf := N34_ref47_ranges) rfl rfl ?_
  simp [N34_ref47_ranges]
  refine loop_of Nat (fun i => [(0, slx b (l.map fun n => [.int .i64 n])), (1, .int .i64 lo), (2, .int .i64 hi), (7, .int .i64 i)]) (fun i => i ≤ l.length ∧ ∀ (k : Nat) (h : k < l.length), k < i → inRq l[k] lo hi = true) (fun i => l.length - i) 0 (by simp) (by simp) ?_
  rintro i ⟨hi', hj⟩
  simp
  have bad : ∀ (h : i < l.length), inRq l[i] lo hi = false → (l.all fun n => inRq n lo hi) = false := fun h e => by
    rw [List.all_eq_false]
    exact ⟨l[i], List.getElem_mem h, by simp [e]⟩
  refine brB_of (fun h => ?_) (fun h => ?_) <;> simp at h <;> simp [h]
  · have hw : IntKind.wrap .i64 ((i : Int) + 1) = ((i + 1 : Nat) : Int) := wrap_i64 (by omega) (by omega)
    refine brB_of (fun h2 => ?_) (fun h2 => ?_) <;> simp [h] at h2 <;> simp [h, h2]
    · have := bad h (by simp [inRq]; omega)
      rw [List.all_eq_false] at this
      simpa using this
    refine brB_of (fun h3 => ?_) (fun h3 => ?_) <;> simp [h] at h3 <;> simp [h, h3]
    · have := bad h (by simp [inRq]; omega)
      rw [List.all_eq_false] at this
      simpa using this
    · simp [hw]
      refine ⟨i + 1, ⟨by omega, fun k hk hki => ?_⟩, by omega, by simp⟩
      rcases Nat.lt_succ_iff_lt_or_eq.1 hki with h5 | rfl
      · exact hj k hk h5
      · simp [inRq]; omega
  · intro x hx
    obtain ⟨k, hk, rfl⟩ := List.getElem_of_mem hx
    exact hj k hk (by omega)
end Go.Gv

set_option linter.unusedSimpArgs false
namespace Go.Gv

def belowOk (j : Job) (i : Nat) : Bool := j.below.l[i]! == -1 || (decide ((i : Int) < j.below.l[i]!) && decide (j.below.l[i]! < j.below.l.length))
theorem all_idx {l : List Int} {lo hi : Int} : (l.all fun n => inRq n lo hi) = true ↔ ∀ i, i < l.length → inRq l[i]! lo hi = true := by
  rw [List.all_eq_true]
  constructor
  · intro h i hi
    rw [getElem!_pos l i hi]
    exact h _ (List.getElem_mem hi)
  · intro h x hx
    obtain ⟨i, hi, rfl⟩ := List.getElem_of_mem hx
    have := h i hi
    rwa [getElem!_pos l i hi] at this
theorem pipes_iff {j : Job} (h1 : j.lengths.l.length = j.below.l.length) (h2 : j.flows.l.length = j.below.l.length) (h3 : j.falls.l.length = j.below.l.length) (h4 : j.room.l.length = j.below.l.length) (hb : ∀ i, i < j.below.l.length → belowOk j i = true) :
    (List.range j.below.l.length).all (pipeOk j) = ((j.lengths.l.all fun n => inRq n 1 16777216) && (j.flows.l.all fun n => inRq n 0 1099511627776) && (j.falls.l.all fun n => inRq n 0 4194304) && (j.room.l.all fun n => inRq n 0 4194304)) := by
  rw [Bool.eq_iff_iff, Bool.and_eq_true, Bool.and_eq_true, Bool.and_eq_true, all_idx, all_idx, all_idx, all_idx, List.all_eq_true, h1, h2, h3, h4]
  constructor
  · intro h
    have key : ∀ i, i < j.below.l.length → inRq j.lengths.l[i]! 1 16777216 = true ∧ inRq j.flows.l[i]! 0 1099511627776 = true ∧ inRq j.falls.l[i]! 0 4194304 = true ∧ inRq j.room.l[i]! 0 4194304 = true := fun i hi => by
      have := h i (by simpa using hi)
      simp only [pipeOk, Bool.and_eq_true] at this
      exact ⟨this.1.1.1.2, this.1.1.2, this.1.2, this.2⟩
    exact ⟨⟨⟨fun i hi => (key i hi).1, fun i hi => (key i hi).2.1⟩, fun i hi => (key i hi).2.2.1⟩, fun i hi => (key i hi).2.2.2⟩
  · rintro ⟨⟨⟨k1, k2⟩, k3⟩, k4⟩ i hi
    rw [List.mem_range] at hi
    have h0 := hb i hi
    rw [belowOk] at h0
    rw [pipeOk, h0, k1 i hi, k2 i hi, k3 i hi, k4 i hi]
    rfl
variable {C : CC} (hC : Closed prog C)
include hC
set_option maxHeartbeats 2000000 in
theorem rValidJ_c (j : Job) : C 8 [.agg (jobC j)] (.bool (jobValid j)) [] := by
  refine start hC (nf := N8_ref47_Valid) rfl rfl ?_
  simp [N8_ref47_Valid, jobC_eq]
  refine brB_of (fun h => ?_) (fun h => ?_) <;> simp [h] <;> simp at h
  · simp [jobValid]; omega
  refine brB_of (fun h2 => ?_) (fun h2 => ?_) <;> simp at h2 <;> simp [h2]
  · rw [jobValid]; simp; omega
  refine brB_of (fun h3 => ?_) (fun h3 => ?_) <;> simp at h3 <;> simp [h3]
  · rw [jobValid]; simp; omega
  refine brB_of (fun h4 => ?_) (fun h4 => ?_) <;> simp at h4 <;> simp [h4]
  · rw [jobValid]; simp; omega
  refine brB_of (fun h5 => ?_) (fun h5 => ?_) <;> simp at h5 <;> simp [h5]
  · rw [jobValid]; simp; omega
  refine brB_of (fun h6 => ?_) (fun h6 => ?_) <;> simp at h6 <;> simp [h6]
  · have h6' : ¬ 0 < j.secs.length := by omega
    simp [jobValid, h6']
  refine callW_of (rcat_c hC _ _) (.inl rfl) ?_
  cases h7 : catValid j.secs
  · simp [jobValid, h7]
  simp
  have bad : ∀ i, i < j.below.l.length → belowOk j i = false → jobValid j = false := fun i hi e => by
    simp only [jobValid, Bool.and_eq_false_iff, List.all_eq_false]
    refine .inr ⟨i, by simpa using hi, ?_⟩
    rw [belowOk] at e
    rw [pipeOk, e]
    simp
  have next : ∀ i, belowOk j i = true → (∀ k, k < i → belowOk j k = true) → ∀ k, k < i + 1 → belowOk j k = true := fun i e hk k hk2 => by
    rcases Nat.lt_succ_iff_lt_or_eq.1 hk2 with h5 | rfl
    · exact hk k h5
    · exact e
  refine loop_of Nat (fun i => [(1, .ptr (jobC j)), (3, .int .i64 j.below.l.length), (4, .int .i64 i)]) (fun i => i ≤ j.below.l.length ∧ ∀ k, k < i → belowOk j k = true) (fun i => j.below.l.length - i) 0 (by simp) (by simp [jobC_eq]) ?_
  rintro i ⟨hi, hok⟩
  simp [jobC_eq]
  refine brB_of (fun h8 => ?_) (fun h8 => ?_) <;> simp at h8 <;> simp [h8]
  · have hw : IntKind.wrap .i64 ((i : Int) + 1) = ((i + 1 : Nat) : Int) := wrap_i64 (by omega) (by omega)
    have hb1 : j.below.l[i]! = j.below.l[i] := getElem!_pos j.below.l i h8
    have bo : belowOk j i = (j.below.l[i] == -1 || (decide ((i : Int) < j.below.l[i]) && decide (j.below.l[i] < j.below.l.length))) := by rw [belowOk, hb1]
    by_cases c1 : j.below.l[i] = -1
    · simp [h8, c1, hw]
      exact ⟨i + 1, ⟨by omega, next i (by rw [bo, c1]; rfl) hok⟩, by omega, by simp [jobC_eq], by simp⟩
    · by_cases c2 : j.below.l[i] ≤ (i : Int)
      · simp [h8, c1, c2]
        exact bad i h8 (by rw [bo]; simp [c1]; omega)
      · by_cases c3 : (j.below.l.length : Int) ≤ j.below.l[i]
        · simp [h8, c1, c2, c3]
          exact bad i h8 (by rw [bo]; simp [c1]; omega)
        · simp [h8, c1, c2, c3, hw]
          exact ⟨i + 1, ⟨by omega, next i (by rw [bo]; simp; omega) hok⟩, by omega, by simp [jobC_eq], by simp⟩
  · have hp := pipes_iff (j := j) (by omega) (by omega) (by omega) (by omega) (fun k hk => hok k (by omega))
    have hvd : jobValid j = (List.range j.below.l.length).all (pipeOk j) := by
      rw [jobValid, h7, decide_eq_true (show j.below.l.length ≤ 400 by omega), decide_eq_true (show j.lengths.l.length = j.below.l.length by omega), decide_eq_true (show j.flows.l.length = j.below.l.length by omega), decide_eq_true (show j.falls.l.length = j.below.l.length by omega), decide_eq_true (show j.room.l.length = j.below.l.length by omega), decide_eq_true (show 0 < j.secs.length by omega)]
      simp only [Bool.true_and]
    rw [hvd, hp]
    have r1 := ranges_c hC j.lengths.n j.lengths.l 1 16777216 (by omega)
    have r2 := ranges_c hC j.flows.n j.flows.l 0 1099511627776 (by omega)
    have r3 := ranges_c hC j.falls.n j.falls.l 0 4194304 (by omega)
    have r4 := ranges_c hC j.room.n j.room.l 0 4194304 (by omega)
    obtain ⟨q1, e1⟩ : ∃ q1, q1 = j.lengths.l.all fun n => inRq n 1 16777216 := ⟨_, rfl⟩
    obtain ⟨q2, e2⟩ : ∃ q2, q2 = j.flows.l.all fun n => inRq n 0 1099511627776 := ⟨_, rfl⟩
    obtain ⟨q3, e3⟩ : ∃ q3, q3 = j.falls.l.all fun n => inRq n 0 4194304 := ⟨_, rfl⟩
    obtain ⟨q4, e4⟩ : ∃ q4, q4 = j.room.l.all fun n => inRq n 0 4194304 := ⟨_, rfl⟩
    rw [← e1] at r1 ⊢
    rw [← e2] at r2 ⊢
    rw [← e3] at r3 ⊢
    rw [← e4] at r4 ⊢
    refine callW_of r1 (.inl rfl) ?_
    cases q1
    · simp
    simp
    refine callW_of r2 (.inl rfl) ?_
    cases q2
    · simp
    simp
    refine callW_of r3 (.inl rfl) ?_
    cases q3
    · simp
    simp
    refine callW_of r4 (.inl rfl) ?_
    cases q4 <;> simp
end Go.Gv

set_option linter.unusedSimpArgs false
namespace Go.Gv
open Go.Lib

theorem shlN (a k m : Nat) (hm : m = a * 2 ^ k % 18446744073709551616) : IntKind.u64.wrap ((a : Int) * 2 ^ k) = (m : Int) := by
  have e : (a : Int) * 2 ^ k = ((a * 2 ^ k : Nat) : Int) := by push_cast; rfl
  rw [e, wrapM, hm]
theorem shl1 (a m : Nat) (hm : m = a * 2 % 18446744073709551616) : IntKind.u64.wrap ((a : Int) * 2 ^ min 1 IntKind.u64.bits) = (m : Int) := shlN a 1 m hm
theorem shl32 (a m : Nat) (hm : m = a * 4294967296 % 18446744073709551616) : IntKind.u64.wrap ((a : Int) * 2 ^ min 32 IntKind.u64.bits) = (m : Int) := shlN a 32 m hm
theorem shr63 (a : Nat) : Int.fdiv (a : Int) (2 ^ min 63 IntKind.u64.bits) = ((a / 9223372036854775808 : Nat) : Int) := shrN a 63
theorem uw {n : Int} {m : Nat} (h : n = m ∨ n = m + 18446744073709551616 ∨ n = m - 18446744073709551616) (hm : m < 18446744073709551616) : IntKind.u64.wrap n = (m : Int) := by
  rw [wrapU]; omega

end Go.Gv

set_option linter.unusedSimpArgs false
namespace Go.Gv
open Go.Lib

variable {C : CC} (hC : Closed prog C)
include hC
theorem rSize_c (n : Nat) (h : n < 9223372036854775808) : C 86 [.int .i64 n] (.int .u64 (n : Int)) [] := by
  refine start hC (nf := N86_ref03_Size) rfl rfl ?_
  simp [N86_ref03_Size, wrapN n (by omega)]
  refine brB_of (fun h1 => ?_) (fun h1 => ?_) <;> simp at h1 <;> simp [h1, wrapN n (by omega)]
  omega
theorem rLess_c (a b c d : Nat) : C 87 [.agg [.int .u64 a, .int .u64 b], .agg [.int .u64 c, .int .u64 d]] (.bool (decide (a < c ∨ (a = c ∧ b < d)))) [] := by
  refine start hC (nf := N87_ref03_Less) rfl rfl ?_
  simp [N87_ref03_Less]
  refine brB_of (fun h => ?_) (fun h => ?_) <;> simp at h <;> simp [h]
  have h3 : ¬ a < c := by omega
  refine brB_of (fun h2 => ?_) (fun h2 => ?_) <;> simp at h2 <;> simp [h2, h3]
  · have h4 : a = c := by omega
    simp [h4]
  · omega
theorem rMinus_c (a b c d p q : Nat) (ha : a < 18446744073709551616) (hb : b < 18446744073709551616) (hd : d < 18446744073709551616) (hq : q < 18446744073709551616) (h : p * 18446744073709551616 + q + (c * 18446744073709551616 + d) = a * 18446744073709551616 + b) : C 95 [.agg [.int .u64 a, .int .u64 b], .agg [.int .u64 c, .int .u64 d]] (.agg [.int .u64 p, .int .u64 q]) [] := by
  refine start hC (nf := N95_ref03_Minus) rfl rfl ?_
  simp [N95_ref03_Minus]
  have e3 : IntKind.u64.wrap ((b : Int) - (d : Int)) = (q : Int) := uw (by omega) hq
  refine brB_of (fun h1 => ?_) (fun h1 => ?_) <;> simp at h1 <;> simp [h1, e3]
  · have e1 : IntKind.u64.wrap ((a : Int) - (c : Int)) = ((p + 1 : Nat) : Int) := uw (by omega) (by omega)
    rw [e1]
    exact uw (by omega) (by omega)
  · exact uw (by omega) (by omega)
theorem rShift_c (a b w t p q : Nat) (hb : b < 18446744073709551616) (hw : w ≤ 1) (hp : p < 18446744073709551616) (hq : q < 18446744073709551616) (ht : (a * 18446744073709551616 + b) * 2 + w = (t * 18446744073709551616 + p) * 18446744073709551616 + q) : C 94 [.agg [.int .u64 a, .int .u64 b], .int .u64 w] (.agg [.int .u64 p, .int .u64 q]) [] := by
  refine start hC (nf := N94_ref03_Shift) rfl rfl ?_
  simp [N94_ref03_Shift]
  obtain ⟨a2, ha2⟩ : ∃ a2, a2 = a * 2 % 18446744073709551616 := ⟨_, rfl⟩
  obtain ⟨b2, hb2⟩ : ∃ b2, b2 = b * 2 % 18446744073709551616 := ⟨_, rfl⟩
  obtain ⟨c, hc⟩ : ∃ c, c = b / 9223372036854775808 := ⟨_, rfl⟩
  rw [shr63, shl1 a a2 ha2, shl1 b b2 hb2, ← hc]
  exact ⟨uw (by omega) hp, uw (by omega) hq⟩
theorem rMul_c (x y : Nat) (hx : x < 18446744073709551616) (hy : y < 18446744073709551616) : C 85 [.int .u64 x, .int .u64 y] (wideD (x * y)) [] := by
  refine start hC (nf := N85_ref03_Mul) rfl rfl ?_
  obtain ⟨bd, bt, bw, hhi⟩ := Lib.mul64_hi x y hx hy
  have ba := Lib.half_mul_le (a := x / 4294967296) (b := y / 4294967296) (by omega) (by omega)
  have bb := Lib.half_mul_le (a := x / 4294967296) (b := y % 4294967296) (by omega) (by omega)
  have bc := Lib.half_mul_le (a := x % 4294967296) (b := y / 4294967296) (by omega) (by omega)
  have hxy : x * y = x / 4294967296 * (y / 4294967296) * 18446744073709551616 + (x / 4294967296 * (y % 4294967296) + x % 4294967296 * (y / 4294967296)) * 4294967296 + x % 4294967296 * (y % 4294967296) := by
    have e1 : x = x / 4294967296 * 4294967296 + x % 4294967296 := by omega
    have e2 : y = y / 4294967296 * 4294967296 + y % 4294967296 := by omega
    generalize x / 4294967296 = ah at *
    generalize x % 4294967296 = al at *
    generalize y / 4294967296 = bh at *
    generalize y % 4294967296 = bl at *
    rw [e1, e2, Nat.add_mul, Nat.mul_add, Nat.mul_add, Nat.add_mul]
    rw [show ah * 4294967296 * (bh * 4294967296) = ah * bh * 18446744073709551616 by rw [Nat.mul_assoc, Nat.mul_left_comm 4294967296, ← Nat.mul_assoc]]
    rw [show ah * 4294967296 * bl = ah * bl * 4294967296 by rw [Nat.mul_right_comm], show al * (bh * 4294967296) = al * bh * 4294967296 by rw [Nat.mul_assoc]]
    omega
  obtain ⟨P, hP⟩ : ∃ P, P = x / 4294967296 * (y / 4294967296) := ⟨_, rfl⟩
  obtain ⟨Q, hQ⟩ : ∃ Q, Q = x / 4294967296 * (y % 4294967296) := ⟨_, rfl⟩
  obtain ⟨R, hR⟩ : ∃ R, R = x % 4294967296 * (y / 4294967296) := ⟨_, rfl⟩
  obtain ⟨L, hL⟩ : ∃ L, L = x % 4294967296 * (y % 4294967296) := ⟨_, rfl⟩
  obtain ⟨Z, hZ⟩ : ∃ Z, Z = x * y := ⟨_, rfl⟩
  rw [← hP, ← hQ, ← hR, ← hL, ← hZ] at hxy
  rw [← hP] at ba
  rw [← hQ] at bb
  rw [← hR] at bc
  rw [← hL] at bd
  obtain ⟨zh, hzh⟩ : ∃ zh, zh = Z / 18446744073709551616 := ⟨_, rfl⟩
  obtain ⟨zl, hzl⟩ : ∃ zl, zl = Z % 18446744073709551616 := ⟨_, rfl⟩
  rw [← hZ, wideD, ← hzh, ← hzl]
  simp [N85_ref03_Mul]
  simp only [maskN x hx, maskN y hy, shr32, mulN, ← hP, ← hQ, ← hR, ← hL, wrapN L bd, wrapN P (by omega), wrapN Q (by omega), wrapN R (by omega), addN]
  obtain ⟨M, hM⟩ : ∃ M, M = Q + L / 4294967296 := ⟨_, rfl⟩
  have hM1 : M < 18446744073709551616 := by omega
  rw [← hM, wrapN M hM1, shr32, maskN M hM1, maskN L bd, addN]
  obtain ⟨O, hO⟩ : ∃ O, O = R + M % 4294967296 := ⟨_, rfl⟩
  have hO1 : O < 18446744073709551616 := by omega
  obtain ⟨O2, hO2⟩ : ∃ O2, O2 = O * 4294967296 % 18446744073709551616 := ⟨_, rfl⟩
  simp only [addN R, ← hO, wrapN O hO1, shr32, shl32 O O2 hO2]
  rw [wrapN (P + M / 4294967296) (by omega), addN, addN, wrapN _ (by omega), wrapN _ (by omega)]
  clear hP hQ hR hL hZ bt bw hhi
  exact ⟨by omega, by omega⟩
end Go.Gv
