/-
  Texts of the proof: M1, P4, M0, W1, W2, W3, W4, K11, W5, P4b, Q8, Q30, Q9, Q10, K12, M2a, K13, M2, M3, M4, P3, B6, B7, P5, M5, P1, P2, B8, P6, Q14, Q15, Q16, Q17, B9, P7, Q19, Q23, Q25, Q31, Q32, Q33, Q11, Q13, Q18, Q20.
-/
import Derived.Test.YtcaifeolkhchoaaGreatX7
import Derived.Test.YtcaifeolkhchoaaGreatX6
set_option linter.all false
set_option linter.unusedSimpArgs false
namespace Go.Gv
variable {C : CC} (hC : Closed prog C)
include hC
theorem rDigit_c (c : Int) : C 78 [.int .u8 c] (.bool (isDigit c)) [] := by
  refine start hC (nf := N78_ref01_Digit) rfl rfl ?_
  simp [N78_ref01_Digit, isDigit]
  refine brB_of (fun h => ?_) (fun h => ?_) <;> simp at h <;> simp [h] <;> omega
theorem rLetter_c (c : Int) : C 62 [.int .u8 c] (.bool (isLetter c)) [] := by
  refine start hC (nf := N62_ref01_Letter) rfl rfl ?_
  simp [N62_ref01_Letter, isLetter]
  repeat' (refine brB_of (fun h => ?_) (fun h => ?_) <;> simp at h <;> simp [h] <;> try omega)
theorem rword_c (s : List UInt8) (hs : s.length < 2 ^ 62) : C 63 [.str s, .int .i64 0] (.int .i64 (wordLen s)) [] := by
  refine start hC (nf := N63_ref01_word) rfl rfl ?_
  simp [N63_ref01_word]
  refine loop_of Nat (fun i => [(0, .str s), (1, .int .i64 i)]) (fun i => i ≤ wordLen s) (fun i => wordLen s - i) 0 (by simp) (by simp) ?_
  intro i hi
  have hle : wordLen s ≤ s.length := wordLen_le s
  by_cases hl : i < s.length
  · simp [hl]
    refine callW_of (rLetter_c hC _) (.inl rfl) ?_
    have hstep : isWordB s[i] = true → i + 1 ≤ wordLen s := wordLen_more hl hi
    have hstop : isWordB s[i] = false → i = wordLen s := wordLen_stop hl hi
    simp only [isWordB] at hstep hstop
    have hw : IntKind.wrap .i64 ((i : Int) + 1) = ((i + 1 : Nat) : Int) := wrap_i64 (by omega) (by omega)
    cases h1 : isLetter s[i].toNat with
    | true => 
      simp [h1, hw] at hstep ⊢
      exact ⟨i + 1, by omega, by omega, rfl⟩
    | false =>
      simp [h1, hl]
      refine callW_of (rDigit_c hC _) (.inl rfl) ?_
      cases h2 : isDigit s[i].toNat with
      | true =>
        simp [h1, h2, hw] at hstep ⊢
        exact ⟨i + 1, by omega, by omega, rfl⟩
      | false =>
        simp [hl]
        refine brB_of (fun h3 => ?_) (fun h3 => ?_) <;> simp at h3
        · simp [hw, hl]
          have := hstep (by simp [show s[i].toNat = 95 by omega])
          exact ⟨i + 1, this, by omega, rfl⟩
        · have h4 : ¬ s[i].toNat = 95 := by omega
          simp [h1, h2, h4] at hstop ⊢
          omega
  · simp [hl]
    have : i = wordLen s := by omega
    omega
theorem rIsName_c (s : List UInt8) : C 54 [.str s] (.bool (isName s)) [] := by
  refine start hC (nf := N54_ref01_IsName) rfl rfl ?_
  simp [N54_ref01_IsName]
  refine brB_of (fun h => ?_) (fun h => ?_) <;> simp at h
  · subst h
    simp [isName]
  · have hp : 0 < s.length := List.length_pos_iff.2 h
    simp [h, hp]
    refine brB_of (fun h2 => ?_) (fun h2 => ?_) <;> simp at h2
    · simp [h2, isName]
      omega
    · simp [h2, hp]
      refine callW_of (rLetter_c hC _) (.inl rfl) ?_
      simp
      cases h3 : isLetter s[0].toNat
      · simp [h3, isName, h, hp]
      · simp [h3, h2]
        refine callW_of (rword_c hC s (by omega)) (.inl rfl) ?_
        simp [isName, h, h3, show s.length ≤ 20 by omega, hp, Int.ofNat_inj]
        rw [Bool.eq_iff_iff]; simp
theorem rNumber_c (n : Int) : C 79 [.int .i64 n] (.bool (fits n)) [] := by
  refine start hC (nf := N79_ref06_Number) rfl rfl ?_
  simp [N79_ref06_Number, fits]
  refine brB_of (fun h => ?_) (fun h => ?_) <;> simp at h <;> simp [h] <;> omega
theorem rTable_c (b : Bool) (t : List (Int × Int)) : C 64 [slx b (t.map knD)] (.bool (tableValid t)) [] := by
  refine start hC (nf := N64_ref06_Valid) rfl rfl ?_
  simp [N64_ref06_Valid]
  refine brB_of (fun h => ?_) (fun h => ?_) <;> simp at h
  · simp [tableValid, show t.length = 0 by omega]
  simp [h]
  refine brB_of (fun h2 => ?_) (fun h2 => ?_) <;> simp at h2
  · simp [tableValid, h, h2]
    omega
  simp
  refine loop_of Nat (fun i => [(0, slx b (t.map knD)), (3, .int .i64 i)]) (fun i => i ≤ t.length ∧ ∀ j < i, okAt t j = true) (fun i => t.length - i) 0 (by simp) (by simp) ?_
  rintro i ⟨hi, hj⟩
  simp
  refine brB_of (fun h3 => ?_) (fun h3 => ?_) <;> simp at h3
  · have bad : okAt t i = false → tableValid t = false := fun hb => by
      simp only [tableValid, Bool.and_eq_false_iff, List.all_eq_false]
      exact .inr ⟨i, by simpa using h3, by simp [hb]⟩
    have e1 : t[i]! = t[i] := getElem!_pos t i h3
    have e2 : t[i - 1]! = t[i - 1] := getElem!_pos t (i - 1) (by omega)
    simp only [okAt, e1, e2] at bad
    have hw1 : IntKind.wrap .i64 ((i : Int) + 1) = ((i + 1 : Nat) : Int) := wrap_i64 (by omega) (by omega)
    have next : okAt t i = true → ∃ s' : Nat, (s' ≤ t.length ∧ ∀ j < s', okAt t j = true) ∧ t.length - s' < t.length - i ∧ s' = i + 1 := fun ho =>
      ⟨i + 1, ⟨by omega, fun j hjj => by
        rcases Nat.lt_succ_iff_lt_or_eq.1 hjj with h | rfl
        · exact hj j h
        · exact ho⟩, by omega, rfl⟩
    simp only [okAt, e1, e2] at next
    simp [h3, knD]
    refine callW_of (rNumber_c hC _) (.inl rfl) ?_
    cases f1 : fits t[i].1
    · simp
      exact bad (by simp [f1])
    simp [h3, knD]
    refine callW_of (rNumber_c hC _) (.inl rfl) ?_
    cases f2 : fits t[i].2
    · simp
      exact bad (by simp [f2])
    simp [h3, knD]
    refine brB_of (fun h4 => ?_) (fun h4 => ?_) <;> simp at h4
    · have hw : IntKind.wrap .i64 ((i : Int) - 1) = ((i - 1 : Nat) : Int) := wrap_i64 (by omega) (by omega)
      have h5 : i - 1 < t.length := by omega
      simp [h4, hw, h5, h3, knD]
      refine brB_of (fun h6 => ?_) (fun h6 => ?_) <;> simp [h6, hw, h5, h3, knD] <;> simp at h6
      · refine ⟨indW_of (by decide +kernel), bad ?_⟩
        simp [f1, f2]
        omega
      · refine ⟨indW_of (by decide +kernel), ?_⟩
        refine brB_of (fun h7 => ?_) (fun h7 => ?_) <;> simp [h7, hw1] <;> simp at h7
        · refine bad ?_
          simp [f1, f2]
          omega
        · obtain ⟨s', g1, g2, rfl⟩ := next (by simp [f1, f2, h6, h7])
          exact ⟨_, g1, g2, rfl⟩
    · have hi0 : i = 0 := by omega
      subst hi0
      simp at hw1
      simp [hw1]
      refine ⟨indW_of (by decide +kernel), ?_⟩
      obtain ⟨s', g1, g2, rfl⟩ := next (by simp [f1, f2])
      exact ⟨_, g1, g2, rfl⟩
  · have : i = t.length := by omega
    subst this
    simp [tableValid, h, h2]
    exact ⟨⟨by omega, by omega⟩, hj⟩
end Go.Gv

set_option linter.unusedSimpArgs false
namespace Go.Gv
def curveR (l : List (Int × Int)) : Bool := tableValid l && decide (0 ≤ l[0]!.1) && decide ((lastK l).1 ≤ 4194304) && decide (0 ≤ l[0]!.2) && decide ((lastK l).2 ≤ 1099511627776)
def kindR (l : Lnk) : Bool :=
  if l.kind = 1 then lowHigh l.len 1 16777216 && isName l.sect && decide (l.width = 0) && decide (l.height = 0) && decide (l.curve.length = 0)
  else if l.kind = 2 then decide (l.len = 0) && decide (l.down = 0) && decide (l.sect = []) && lowHigh l.width 1 1048576 && decide (l.height = 0) && decide (l.curve.length = 0)
  else if l.kind = 3 then decide (l.len = 0) && decide (l.down = 0) && decide (l.sect = []) && lowHigh l.width 1 32768 && lowHigh l.height 1 32768 && decide (l.curve.length = 0)
  else if l.kind = 4 then decide (l.len = 0) && decide (l.down < l.up) && decide (l.sect = []) && decide (l.width = 0) && decide (l.height = 0) && curveR l.curve
  else false
def linkR (l : Lnk) : Bool := isName l.name && isName l.src && isName l.dst && !decide (l.src = l.dst) && lvlOk l.up && lvlOk l.down && kindR l
variable {C : CC} (hC : Closed prog C)
include hC
theorem rLevel_c (n : Int) : C 199 [.int .i64 n] (.bool (lvlOk n)) [] := by
  refine start hC (nf := N199_ref26_level) rfl rfl ?_
  simp [N199_ref26_level, lvlOk]
  refine brB_of (fun h => ?_) (fun h => ?_) <;> simp at h <;> simp [h] <;> omega
theorem rWithin_c (n a : Int) : C 200 [.int .i64 n, .int .i64 a] (.bool (lowHigh n 1 a)) [] := by
  refine start hC (nf := N200_ref26_within) rfl rfl ?_
  simp [N200_ref26_within, lowHigh]
  refine brB_of (fun h => ?_) (fun h => ?_) <;> simp at h <;> simp [h] <;> omega
theorem rCurve_c (b : Bool) (t : List (Int × Int)) : C 201 [slx b (t.map knD)] (.bool (curveR t)) [] := by
  refine start hC (nf := N201_ref26_curve) rfl rfl ?_
  simp [N201_ref26_curve]
  refine callW_of (rTable_c hC b t) (.inl rfl) ?_
  cases hv : tableValid t
  · simp [curveR, hv]
  obtain ⟨l1, l2⟩ := valid_len hv
  obtain ⟨n, hn⟩ : ∃ n, n + 1 = t.length := ⟨t.length - 1, by omega⟩
  have e1 : IntKind.wrap .i64 ((t.length : Int) - 1) = (n : Int) := wrap_i64 (by omega) (by omega)
  have hnl : n < t.length := by omega
  have h0 : 0 < t.length := by omega
  have e0 : t[0]! = t[0] := getElem!_pos t 0 h0
  rw [curveR, hv, e0, lastK_get hn]
  simp [h0, knD]
  refine brB_of (fun c1 => ?_) (fun c1 => ?_) <;> simp at c1 <;> simp [c1, e1, hnl, knD, h0]
  · refine brB_of (fun c2 => ?_) (fun c2 => ?_) <;> simp at c2 <;> simp [c2, e1, hnl, knD, h0]
    · refine brB_of (fun c3 => ?_) (fun c3 => ?_) <;> simp at c3 <;> simp [c3, e1, hnl, knD, h0]
      · omega
      · intro _ _ _; omega
    · omega
  · omega
theorem linkR_c (l : Lnk) : C 194 [.agg (lnkC l)] (.bool (linkR l)) [] := by
  have k1 := rIsName_c hC l.name
  have k2 := rIsName_c hC l.src
  have k3 := rIsName_c hC l.dst
  have k4 := rLevel_c hC l.up
  have k5 := rLevel_c hC l.down
  have k6 := rIsName_c hC l.sect
  obtain ⟨r, hr⟩ : ∃ r, r = linkR l := ⟨_, rfl⟩
  rw [← hr]
  unfold linkR at hr
  refine start hC (nf := N194_ref26_RightLink) rfl rfl ?_
  simp [N194_ref26_RightLink, lnkC]
  refine callW_of k1 (.inl rfl) ?_
  cases h1 : isName l.name
  · simp [hr, h1]
  simp
  refine callW_of k2 (.inl rfl) ?_
  cases h2 : isName l.src
  · simp [hr, h2]
  simp
  refine callW_of k3 (.inl rfl) ?_
  cases h3 : isName l.dst
  · simp [hr, h3]
  simp
  refine brB_of (fun h4 => ?_) (fun h4 => ?_) <;> simp at h4 <;> simp [h4]
  · simp [hr, h4]
  refine callW_of k4 (.inl rfl) ?_
  cases h5 : lvlOk l.up
  · simp [hr, h5]
  simp
  refine callW_of k5 (.inl rfl) ?_
  cases h6 : lvlOk l.down
  · simp [hr, h6]
  simp
  rw [h1, h2, h3, decide_eq_false h4, h5, h6] at hr
  simp only [Bool.true_and, Bool.not_false] at hr
  unfold kindR at hr
  clear k1 k2 k3 k4 k5 h1 h2 h3 h4 h5 h6
  refine brB_of (fun h7 => ?_) (fun h7 => ?_) <;> simp at h7 <;> simp [h7]
  · rw [if_pos h7] at hr
    refine callW_of (rWithin_c hC l.len 16777216) (.inl rfl) ?_
    cases a1 : lowHigh l.len 1 16777216
    · simp [hr, a1]
    simp
    refine callW_of k6 (.inl rfl) ?_
    cases a2 : isName l.sect
    · simp [hr, a2]
    simp
    refine brB_of (fun a3 => ?_) (fun a3 => ?_) <;> simp at a3 <;> simp [a3]
    rotate_left
    · simp [hr, a3]
    refine brB_of (fun a4 => ?_) (fun a4 => ?_) <;> simp at a4 <;> simp [a4]
    rotate_left
    · simp [hr, a4]
    simp [hr, a1, a2, a3, a4]
  rw [if_neg h7] at hr
  refine brB_of (fun h8 => ?_) (fun h8 => ?_) <;> simp at h8 <;> simp [h8]
  · rw [if_pos h8] at hr
    refine brB_of (fun a1 => ?_) (fun a1 => ?_) <;> simp at a1 <;> simp [a1]
    rotate_left
    · simp [hr, a1]
    refine brB_of (fun a2 => ?_) (fun a2 => ?_) <;> simp at a2 <;> simp [a2]
    rotate_left
    · simp [hr, a2]
    refine brB_of (fun a3 => ?_) (fun a3 => ?_) <;> simp at a3 <;> simp [a3]
    rotate_left
    · simp [hr, a3]
    refine callW_of (rWithin_c hC l.width 1048576) (.inl rfl) ?_
    cases a4 : lowHigh l.width 1 1048576
    · simp [hr, a4]
    simp
    refine brB_of (fun a5 => ?_) (fun a5 => ?_) <;> simp at a5 <;> simp [a5]
    rotate_left
    · simp [hr, a5]
    simp [hr, a1, a2, a3, a4, a5]
  rw [if_neg h8] at hr
  refine brB_of (fun h9 => ?_) (fun h9 => ?_) <;> simp at h9 <;> simp [h9]
  · rw [if_pos h9] at hr
    refine brB_of (fun a1 => ?_) (fun a1 => ?_) <;> simp at a1 <;> simp [a1]
    rotate_left
    · simp [hr, a1]
    refine brB_of (fun a2 => ?_) (fun a2 => ?_) <;> simp at a2 <;> simp [a2]
    rotate_left
    · simp [hr, a2]
    refine brB_of (fun a3 => ?_) (fun a3 => ?_) <;> simp at a3 <;> simp [a3]
    rotate_left
    · simp [hr, a3]
    refine callW_of (rWithin_c hC l.width 32768) (.inl rfl) ?_
    cases a4 : lowHigh l.width 1 32768
    · simp [hr, a4]
    simp
    refine callW_of (rWithin_c hC l.height 32768) (.inl rfl) ?_
    cases a5 : lowHigh l.height 1 32768
    · simp [hr, a5]
    simp [hr, a1, a2, a3, a4, a5]
  rw [if_neg h9] at hr
  refine brB_of (fun h10 => ?_) (fun h10 => ?_) <;> simp at h10 <;> simp [h10]
  · rw [if_pos h10] at hr
    refine brB_of (fun a1 => ?_) (fun a1 => ?_) <;> simp at a1 <;> simp [a1]
    rotate_left
    · simp [hr, a1]
    refine brB_of (fun a2 => ?_) (fun a2 => ?_) <;> simp at a2 <;> simp [a2]
    rotate_left
    · simp [hr, show ¬ l.down < l.up by omega]
    refine brB_of (fun a3 => ?_) (fun a3 => ?_) <;> simp at a3 <;> simp [a3]
    rotate_left
    · simp [hr, a3]
    refine brB_of (fun a4 => ?_) (fun a4 => ?_) <;> simp at a4 <;> simp [a4]
    rotate_left
    · simp [hr, a4]
    refine brB_of (fun a5 => ?_) (fun a5 => ?_) <;> simp at a5 <;> simp [a5]
    rotate_left
    · simp [hr, a5]
    refine callW_of (rCurve_c hC l.curveN l.curve) (.inl rfl) ?_
    simp [hr, a1, a2, a3, a4, a5]
  · rw [if_neg h10] at hr
    simp [hr]
end Go.Gv

set_option linter.unusedSimpArgs false
namespace Go.Gv
open Go.Lib
theorem shlN (a k m : Nat) (hm : m = a * 2 ^ k % 18446744073709551616) : IntKind.u64.wrap ((a : Int) * 2 ^ k) = (m : Int) := by
  have e : (a : Int) * 2 ^ k = ((a * 2 ^ k : Nat) : Int) := by push_cast; rfl
  rw [e, wrapM, hm]
theorem shl1 (a m : Nat) (hm : m = a * 2 % 18446744073709551616) : IntKind.u64.wrap ((a : Int) * 2 ^ min 1 IntKind.u64.bits) = (m : Int) := shlN a 1 m hm
theorem shl32 (a m : Nat) (hm : m = a * 4294967296 % 18446744073709551616) : IntKind.u64.wrap ((a : Int) * 2 ^ min 32 IntKind.u64.bits) = (m : Int) := shlN a 32 m hm
theorem shr63 (a : Nat) : Int.fdiv (a : Int) (2 ^ min 63 IntKind.u64.bits) = ((a / 9223372036854775808 : Nat) : Int) := shrN a 63
theorem uw {n : Int} {m : Nat} (h : n = m ∨ n = m + 18446744073709551616 ∨ n = m - 18446744073709551616) (hm : m < 18446744073709551616) : IntKind.u64.wrap n = (m : Int) := by
  rw [wrapU]; omega
end Go.Gv

set_option linter.unusedSimpArgs false
namespace Go.Gv
open Go.Lib
theorem shl4 (a m : Nat) (hm : m = a * 16 % 18446744073709551616) : IntKind.u64.wrap ((a : Int) * 2 ^ min 4 IntKind.u64.bits) = (m : Int) := shlN a 4 m hm
theorem shl60 (a m : Nat) (hm : m = a * 1152921504606846976 % 18446744073709551616) : IntKind.u64.wrap ((a : Int) * 2 ^ min 60 IntKind.u64.bits) = (m : Int) := shlN a 60 m hm
theorem shr60 (a : Nat) : Int.fdiv (a : Int) (2 ^ min 60 IntKind.u64.bits) = ((a / 1152921504606846976 : Nat) : Int) := shrN a 60
theorem shr4 (a : Nat) : Int.fdiv (a : Int) (2 ^ min 4 IntKind.u64.bits) = ((a / 16 : Nat) : Int) := shrN a 4
theorem mask60 (a : Nat) (ha : a < 18446744073709551616) : bits .and .u64 (a : Int) 1152921504606846975 = ((a % 1152921504606846976 : Nat) : Int) := by
  have h := bits_and_u64_nat a 1152921504606846975 ha (by omega)
  have e : a &&& 1152921504606846975 = a % 1152921504606846976 := Nat.and_two_pow_sub_one_eq_mod a 60
  rw [e] at h
  exact h
theorem or16 (a b : Nat) (hb : b < 16) (h : a * 16 + b < 18446744073709551616) : bits .or .u64 ((a * 16 : Nat) : Int) (b : Int) = ((a * 16 + b : Nat) : Int) := orN a b 4 hb h
theorem or60 (a b : Nat) (hb : b < 1152921504606846976) (h : a * 1152921504606846976 + b < 18446744073709551616) : bits .or .u64 ((a * 1152921504606846976 : Nat) : Int) (b : Int) = ((a * 1152921504606846976 + b : Nat) : Int) := orN a b 60 hb h
def numD (p : Nat) (neg : Bool) : D := .agg [.int .u64 ((p / 18446744073709551616 : Nat) : Int), .int .u64 ((p % 18446744073709551616 : Nat) : Int), .bool neg]
def wiD (p : Nat) : D := .agg [.int .i64 ((p / 1152921504606846976 : Nat) : Int), .int .i64 ((p % 1152921504606846976 : Nat) : Int)]
variable {C : CC} (hC : Closed prog C)
include hC
theorem wsize_c (n : Nat) (h : n < 9223372036854775808) : C 112 [.int .i64 n] (.int .u64 (n : Int)) [] := by
  refine start hC (nf := N112_wide_size) rfl rfl ?_
  have h0 : ¬ (n : Int) < 0 := by omega
  simp [N112_wide_size, h0, wrapN n (by omega)]
theorem signed_c (a b : Int) (n : Bool) : C 113 [.int .u64 a, .int .u64 b, .bool n] (.agg [.int .u64 a, .int .u64 b, .bool (n && (!decide (a = 0) || !decide (b = 0)))]) [] := by
  refine start hC (nf := N113_wide_signed) rfl rfl ?_
  simp [N113_wide_signed]
  cases n <;> simp
  by_cases h : a = 0 <;> simp [h]
theorem wtimes_c (x y : Nat) (hx : x < 9223372036854775808) (hy : y < 9223372036854775808) : C 103 [.int .i64 x, .int .i64 y] (numD (x * y) false) [] := by
  refine start hC (nf := N103_wide_times) rfl rfl ?_
  have h0 : ¬ (x : Int) < 0 := by omega
  have h1 : ¬ (y : Int) < 0 := by omega
  have hm := Mul64_c hC x y (by omega) (by omega)
  rw [numD]
  obtain ⟨zh, hzh⟩ : ∃ zh, zh = x * y / 18446744073709551616 := ⟨_, rfl⟩
  obtain ⟨zl, hzl⟩ : ∃ zl, zl = x * y % 18446744073709551616 := ⟨_, rfl⟩
  rw [← hzh, ← hzl] at hm ⊢
  simp [N103_wide_times]
  refine callW_of (wsize_c hC x hx) (.inl rfl) ?_
  simp
  refine callW_of (wsize_c hC y hy) (.inl rfl) ?_
  simp
  refine callW_of hm (.inl rfl) ?_
  simp [h0, h1]
  refine callW_of (signed_c hC zh zl false) (.inl rfl) ?_
  simp
theorem whole_c (n : Nat) (h : n < 9223372036854775808) : C 110 [.int .u64 n, .bool false] (.tup [.int .i64 n, .int .i64 0]) [] := by
  refine start hC (nf := N110_wide_whole) rfl rfl ?_
  have h1 : (n : Int) ≤ 9223372036854775807 := by omega
  have h2 : IntKind.i64.wrap (n : Int) = (n : Int) := wrap_i64 rfl (by omega)
  simp [N110_wide_whole, h1, h2]
theorem quotient_c (p d : Nat) (up : Bool) (q : Nat) (hd : d < 9223372036854775808) (hp : p / 18446744073709551616 < d) (hq : q < 9223372036854775808) (hv : q = if up then (p + d - 1) / d else p / d) (hqd : p / d + 1 < 9223372036854775808) : C 104 [numD p false, .int .i64 d, .bool up] (.tup [.int .i64 q, .int .i64 0]) [] := by
  obtain ⟨ph, hph⟩ : ∃ z, z = p / 18446744073709551616 := ⟨_, rfl⟩
  obtain ⟨pl, hpl⟩ : ∃ z, z = p % 18446744073709551616 := ⟨_, rfl⟩
  have hpp : ph * 18446744073709551616 + pl = p := by omega
  obtain ⟨q0, hq0⟩ : ∃ z, z = p / d := ⟨_, rfl⟩
  obtain ⟨r0, hr0⟩ : ∃ z, z = p % d := ⟨_, rfl⟩
  have hdiv := Div64_c hC ph pl d (by omega) (by omega) (by omega)
  rw [hpp, ← hq0, ← hr0] at hdiv
  have hd0 : 0 < d := by omega
  have hdp : d * q0 + r0 = p := by rw [hq0, hr0]; exact Nat.div_add_mod p d
  have hrd : r0 < d := by rw [hr0]; exact Nat.mod_lt _ hd0
  have hup : up = true → q = if 0 < r0 then q0 + 1 else q0 := by
    rintro rfl
    simp only [if_true] at hv
    rw [hv, ← hdp]
    by_cases h : 0 < r0
    · rw [if_pos h, show d * q0 + r0 + d - 1 = d * q0 + (d + (r0 - 1)) by omega, Nat.mul_add_div hd0, Nat.add_div_left _ hd0, Nat.div_eq_of_lt (by omega)]
    · rw [if_neg h, show d * q0 + r0 + d - 1 = d * q0 + (d - 1) by omega, Nat.mul_add_div hd0, Nat.div_eq_of_lt (by omega)]
      rfl
  rw [numD, ← hph, ← hpl]
  have h1 : ¬ (d : Int) ≤ (ph : Int) := by omega
  have h2 : ¬ (d : Int) < 0 := by omega
  have h3 : IntKind.u64.wrap ((q0 : Int) + 1) = ((q0 + 1 : Nat) : Int) := uw (by omega) (by omega)
  refine start hC (nf := N104_wide_quotient) rfl rfl ?_
  simp [N104_wide_quotient]
  refine callW_of (wsize_c hC d hd) (.inl rfl) ?_
  simp [h1]
  refine callW_of hdiv (.inl rfl) ?_
  simp [h2]
  cases up
  · have e : q = q0 := by rw [hv, hq0]; rfl
    subst e
    refine brB_of (fun h => ?_) (fun h => ?_) <;> simp at h <;> simp [h]
    · refine callW_of (whole_c hC q hq) (.inl rfl) ?_
      simp
    · refine callW_of (whole_c hC q hq) (.inl rfl) ?_
      simp
  · have hv := hup rfl
    by_cases h : 0 < r0
    · have hi : (0 : Int) < r0 := by omega
      rw [if_pos h] at hv
      subst hv
      have h4 : ¬ ((q0 : Int) + 1 = 0) := by omega
      simp [hi, h3, h4, h]
      refine callW_of (whole_c hC (q0 + 1) hq) (.inl rfl) ?_
      simp
    · have hi : ¬ (0 : Int) < r0 := by omega
      rw [if_neg h] at hv
      subst hv
      simp [hi, h]
      refine callW_of (whole_c hC q hq) (.inl rfl) ?_
      simp
end Go.Gv

set_option linter.unusedSimpArgs false
namespace Go.Gv
open Go.Lib
variable {C : CC} (hC : Closed prog C)
include hC
theorem wvalid_c (p : Nat) (h : p < 1329227995784915872903807060280344576) : C 106 [wiD p] (.bool true) [] := by
  obtain ⟨ph, hph⟩ : ∃ z, z = p / 1152921504606846976 := ⟨_, rfl⟩
  obtain ⟨pl, hpl⟩ : ∃ z, z = p % 1152921504606846976 := ⟨_, rfl⟩
  rw [wiD, ← hph, ← hpl]
  have h1 : (-1152921504606846976 : Int) ≤ ph := by omega
  have h2 : (ph : Int) < 1152921504606846976 := by omega
  have h3 : (0 : Int) ≤ pl := by omega
  have h4 : (pl : Int) < 1152921504606846976 := by omega
  refine start hC (nf := N106_wide_Valid) rfl rfl ?_
  simp [N106_wide_Valid, h1, h2, h3, h4]
theorem placed_c (p : Nat) (h : p < 1329227995784915872903807060280344576) : C 105 [numD p false] (.tup [wiD p, .int .i64 0]) [] := by
  obtain ⟨ph, hph⟩ : ∃ z, z = p / 1152921504606846976 := ⟨_, rfl⟩
  obtain ⟨pl, hpl⟩ : ∃ z, z = p % 1152921504606846976 := ⟨_, rfl⟩
  obtain ⟨zh, hzh⟩ : ∃ z, z = p / 18446744073709551616 := ⟨_, rfl⟩
  obtain ⟨zl, hzl⟩ : ∃ z, z = p % 18446744073709551616 := ⟨_, rfl⟩
  rw [wiD, numD, ← hph, ← hpl, ← hzh, ← hzl]
  obtain ⟨zt, hzt⟩ : ∃ z, z = zl / 1152921504606846976 := ⟨_, rfl⟩
  have h1 : ¬ (72057594037927936 : Int) < zh := by omega
  have h2 : ¬ (zh : Int) = 72057594037927936 := by omega
  have e1 := shl4 zh (zh * 16) (by omega)
  have e2 := shr60 zl
  rw [← hzt] at e2
  have e3 := or16 zh zt (by omega) (by omega)
  have e4 : IntKind.i64.wrap ((zh * 16 + zt : Nat) : Int) = (ph : Int) := wrap_i64 (by omega) (by omega)
  have e5 := mask60 zl (by omega)
  have e6 : IntKind.i64.wrap ((zl % 1152921504606846976 : Nat) : Int) = (pl : Int) := wrap_i64 (by omega) (by omega)
  refine start hC (nf := N105_wide_placed) rfl rfl ?_
  simp [N105_wide_placed, h1, h2, e2, -Int.natCast_mul, -Int.natCast_emod]
  refine ⟨indW_of (by decide +kernel), ?_⟩
  rw [e1, e3, e4, e5, e6]
  simp
theorem value_c (p : Nat) (h : p < 1329227995784915872903807060280344576) : C 108 [wiD p] (numD p false) [] := by
  obtain ⟨ph, hph⟩ : ∃ z, z = p / 1152921504606846976 := ⟨_, rfl⟩
  obtain ⟨pl, hpl⟩ : ∃ z, z = p % 1152921504606846976 := ⟨_, rfl⟩
  obtain ⟨zh, hzh⟩ : ∃ z, z = p / 18446744073709551616 := ⟨_, rfl⟩
  obtain ⟨zl, hzl⟩ : ∃ z, z = p % 18446744073709551616 := ⟨_, rfl⟩
  rw [wiD, numD, ← hph, ← hpl, ← hzh, ← hzl]
  have h1 : (0 : Int) ≤ ph := by omega
  obtain ⟨w, hw⟩ : ∃ z, z = ph % 16 := ⟨_, rfl⟩
  have e1 : Int.fdiv (ph : Int) (2 ^ min 4 IntKind.u64.bits) = (zh : Int) := by rw [shr4]; omega
  have e2 : IntKind.u64.wrap ((ph : Int) * 2 ^ min 60 IntKind.u64.bits) = ((w * 1152921504606846976 : Nat) : Int) := shl60 ph _ (by omega)
  have e3 : IntKind.u64.wrap (pl : Int) = (pl : Int) := wrapN pl (by omega)
  have e4 : bits .or .u64 ((w * 1152921504606846976 : Nat) : Int) (pl : Int) = (zl : Int) := by
    rw [or60 w pl (by omega) (by omega)]; omega
  refine start hC (nf := N108_wide_value) rfl rfl ?_
  simp [N108_wide_value]
  refine callW_of (wsize_c hC ph (by omega)) (.inl rfl) ?_
  simp [h1]
  rw [e1, e2, e3, e4]
  simp
theorem minus_c (p : Nat) : C 109 [numD p false] (numD p (decide (p ≠ 0))) [] := by
  obtain ⟨zh, hzh⟩ : ∃ z, z = p / 18446744073709551616 := ⟨_, rfl⟩
  obtain ⟨zl, hzl⟩ : ∃ z, z = p % 18446744073709551616 := ⟨_, rfl⟩
  have e : decide (p ≠ 0) = (true && (!decide ((zh : Int) = 0) || !decide ((zl : Int) = 0))) := by
    rw [Bool.eq_iff_iff]; simp; omega
  rw [numD, numD, ← hzh, ← hzl, e]
  refine start hC (nf := N109_wide_minus) rfl rfl ?_
  simp [N109_wide_minus]
  refine callW_of (signed_c hC zh zl true) (.inl rfl) ?_
  simp
set_option maxHeartbeats 4000000 in
theorem sum_c (p r : Nat) (hr : r ≤ p) (hp : p < 1329227995784915872903807060280344576) : C 107 [numD p false, numD r (decide (r ≠ 0))] (numD (p - r) false) [] := by
  obtain ⟨ph, hph⟩ : ∃ z, z = p / 18446744073709551616 := ⟨_, rfl⟩
  obtain ⟨pl, hpl⟩ : ∃ z, z = p % 18446744073709551616 := ⟨_, rfl⟩
  obtain ⟨rh, hrh⟩ : ∃ z, z = r / 18446744073709551616 := ⟨_, rfl⟩
  obtain ⟨rl, hrl⟩ : ∃ z, z = r % 18446744073709551616 := ⟨_, rfl⟩
  obtain ⟨dh, hdh⟩ : ∃ z, z = (p - r) / 18446744073709551616 := ⟨_, rfl⟩
  obtain ⟨dl, hdl⟩ : ∃ z, z = (p - r) % 18446744073709551616 := ⟨_, rfl⟩
  have k0 : (0 : Int) ≤ ph := by omega
  have k1 : (0 : Int) ≤ pl := by omega
  have k2 : (0 : Int) ≤ rl := by omega
  have k3 : (pl : Int) < 18446744073709551616 := by omega
  have k4 : (rl : Int) < 18446744073709551616 := by omega
  by_cases h0 : r = 0
  · subst h0
    have hrh0 : rh = 0 := by omega
    have hrl0 : rl = 0 := by omega
    subst hrh0 hrl0
    rw [numD, numD, numD, ← hph, ← hpl, ← hrh, ← hrl, ← hdh, ← hdl]
    have e1 : (pl : Int) % 18446744073709551616 = (pl : Int) := by omega
    have e2 : (pl : Int) / 18446744073709551616 = 0 := by omega
    have e3 : IntKind.u64.wrap (ph : Int) = (ph : Int) := wrapN ph (by omega)
    have e4 : dh = ph := by omega
    have e5 : dl = pl := by omega
    refine start hC (nf := N107_wide_sum) rfl rfl ?_
    simp [N107_wide_sum, k3, e1, e2, e3]
    refine callW_of (signed_c hC ph pl false) (.inl rfl) ?_
    simp [e4, e5]
  · have hne : decide (r ≠ 0) = true := by simp [h0]
    rw [hne, numD, numD, numD, ← hph, ← hpl, ← hrh, ← hrl, ← hdh, ← hdl]
    have c1 : ¬ (ph : Int) < rh := by omega
    have c2 : (ph : Int) = rh → ¬ (pl : Int) < rl := by omega
    have e1 : ((pl : Int) - rl) % 18446744073709551616 = (dl : Int) := by omega
    have e2 : IntKind.u64.wrap ((ph : Int) - rh) = ((ph - rh : Nat) : Int) := uw (by omega) (by omega)
    have e3 : IntKind.u64.wrap (((ph - rh : Nat) : Int) - (if pl < rl then 1 else 0)) = (dh : Int) := by
      split <;> exact uw (by omega) (by omega)
    refine start hC (nf := N107_wide_sum) rfl rfl ?_
    simp [N107_wide_sum, c1, k3, k4, e1, e2]
    refine brB_of (fun c => ?_) (fun c => ?_) <;> simp at c <;> simp [c]
    · have c3 := c2 (by omega)
      refine brB_of (fun c4 => ?_) (fun c4 => ?_) <;> simp at c4 <;> simp [c4]
      · omega
      have hd0 : dh = 0 := by omega
      have c5 : ¬ pl < rl := by omega
      have hz : IntKind.u64.wrap 0 = 0 := wrapN 0 (by omega)
      simp [k3, k4, e1, hz, c5]
      refine callW_of (signed_c hC 0 dl false) (.inl rfl) ?_
      simp [hd0]
    · simp [k3, k4, e1, e2]
      rw [e3]
      refine callW_of (signed_c hC dh dl false) (.inl rfl) ?_
      simp
end Go.Gv

set_option linter.unusedSimpArgs false
namespace Go.Gv
theorem numD_ex (p : Nat) : ∃ a b : Int, numD p false = .agg [.int .u64 a, .int .u64 b, .bool false] := ⟨_, _, rfl⟩
theorem numD_ex2 (p : Nat) (n : Bool) : ∃ a b : Int, numD p n = .agg [.int .u64 a, .int .u64 b, .bool n] := ⟨_, _, rfl⟩
theorem wiD_ex (p : Nat) : ∃ a b : Int, wiD p = .agg [.int .i64 a, .int .i64 b] := ⟨_, _, rfl⟩
variable {C : CC} (hC : Closed prog C)
include hC
theorem Product_c (x y : Nat) (hx : x < 9223372036854775808) (hy : y < 9223372036854775808) (h : x * y < 1329227995784915872903807060280344576) : C 99 [.int .i64 x, .int .i64 y] (.tup [wiD (x * y), .int .i64 0]) [] := by
  have k1 := wtimes_c hC x y hx hy
  have k2 := placed_c hC (x * y) h
  obtain ⟨a, b, e1⟩ := numD_ex (x * y)
  obtain ⟨c, d, e2⟩ := wiD_ex (x * y)
  rw [e1] at k1 k2
  rw [e2] at k2 ⊢
  refine start hC (nf := N99_wide_Product) rfl rfl ?_
  simp [N99_wide_Product]
  refine callW_of k1 (.inl rfl) ?_
  simp
  refine callW_of k2 (.inr rfl) ?_
  simp
theorem Int_c (p : Nat) (h : p < 9223372036854775808) : C 101 [wiD p] (.tup [.int .i64 p, .int .i64 0]) [] := by
  have k1 := wvalid_c hC p (by omega)
  have k2 := value_c hC p (by omega)
  have e1 : numD p false = .agg [.int .u64 0, .int .u64 p, .bool false] := by
    rw [numD, show p / 18446744073709551616 = 0 by omega, show p % 18446744073709551616 = p by omega]; rfl
  obtain ⟨c, d, e2⟩ := wiD_ex p
  rw [e1] at k2
  rw [e2] at k1 k2 ⊢
  refine start hC (nf := N101_wide_Int) rfl rfl ?_
  simp [N101_wide_Int]
  refine callW_of k1 (.inl rfl) ?_
  simp
  refine callW_of k2 (.inl rfl) ?_
  simp
  refine callW_of (whole_c hC p h) (.inl rfl) ?_
  simp
theorem Sub_c (p r : Nat) (hr : r ≤ p) (h : p < 1329227995784915872903807060280344576) : C 100 [wiD p, wiD r] (.tup [wiD (p - r), .int .i64 0]) [] := by
  have k1 := wvalid_c hC p h
  have k2 := wvalid_c hC r (by omega)
  have k3 := value_c hC p h
  have k4 := value_c hC r (by omega)
  have k5 := minus_c hC r
  have k6 := sum_c hC p r hr h
  have k7 := placed_c hC (p - r) (by omega)
  obtain ⟨a1, a2, e1⟩ := wiD_ex p
  obtain ⟨b1, b2, e2⟩ := wiD_ex r
  obtain ⟨c1, c2, e3⟩ := wiD_ex (p - r)
  obtain ⟨d1, d2, e4⟩ := numD_ex p
  obtain ⟨f1, f2, e5⟩ := numD_ex r
  obtain ⟨g1, g2, e6⟩ := numD_ex2 r (decide (r ≠ 0))
  obtain ⟨i1, i2, e7⟩ := numD_ex (p - r)
  obtain ⟨z, hz⟩ : ∃ z, z = decide (r ≠ 0) := ⟨_, rfl⟩
  rw [← hz] at k5 k6 e6
  rw [e1] at k1 k3 ⊢
  rw [e2] at k2 k4 ⊢
  rw [e3] at k7 ⊢
  rw [e4] at k3 k6
  rw [e5] at k4 k5
  rw [e6] at k5 k6
  rw [e7] at k6 k7
  refine start hC (nf := N100_wide_Sub) rfl rfl ?_
  simp [N100_wide_Sub]
  refine callW_of k1 (.inl rfl) ?_
  simp
  refine callW_of k2 (.inl rfl) ?_
  simp
  refine callW_of k3 (.inl rfl) ?_
  simp
  refine callW_of k4 (.inl rfl) ?_
  simp
  refine callW_of k5 (.inl rfl) ?_
  simp
  refine callW_of k6 (.inl rfl) ?_
  simp
  refine callW_of k7 (.inr rfl) ?_
  simp
  exact indW_of (by decide +kernel)
theorem Scale_c (u a d : Nat) (hu : u < 4503599627370496) (ha : a < d) (hd : d < 4503599627370496) : C 98 [.int .i64 u, .int .i64 a, .int .i64 d] (.tup [.int .i64 (u * a / d : Nat), .int .i64 ((u * a + d - 1) / d : Nat), .int .i64 0]) [] := by
  have h1 : u * a ≤ u * d := Nat.mul_le_mul_left _ (by omega)
  have h1' : u * d = d * u := Nat.mul_comm _ _
  have h2 : u * a / d ≤ u := Nat.le_of_lt_succ (Nat.div_lt_of_lt_mul (by rw [Nat.succ_eq_add_one, Nat.mul_add]; omega))
  have h3 : (u * a + d - 1) / d ≤ u := Nat.le_of_lt_succ (Nat.div_lt_of_lt_mul (by rw [Nat.succ_eq_add_one, Nat.mul_add]; omega))
  have h4 : u * a / 18446744073709551616 < d := by
    have h5 : u * d ≤ 4503599627370496 * d := Nat.mul_le_mul_right _ (by omega)
    omega
  have k1 := wtimes_c hC u a (by omega) (by omega)
  have k2 := quotient_c hC (u * a) d false (u * a / d) (by omega) h4 (by omega) rfl (by omega)
  have k3 := quotient_c hC (u * a) d true ((u * a + d - 1) / d) (by omega) h4 (by omega) rfl (by omega)
  obtain ⟨q1, e1⟩ : ∃ q, q = u * a / d := ⟨_, rfl⟩
  obtain ⟨q2, e2⟩ : ∃ q, q = (u * a + d - 1) / d := ⟨_, rfl⟩
  obtain ⟨a1, a2, e3⟩ := numD_ex (u * a)
  rw [e3] at k1 k2 k3
  rw [← e1] at k2 ⊢
  rw [← e2] at k3 ⊢
  have hd0 : ¬ (d : Int) = 0 := by omega
  clear h1 h1' h2 h3 h4 e1 e2 e3
  refine start hC (nf := N98_wide_Scale) rfl rfl ?_
  simp [N98_wide_Scale]
  refine brB_of (fun c => ?_) (fun c => ?_) <;> simp at c <;> simp [c]
  · omega
  refine callW_of k1 (.inr rfl) ?_
  simp
  refine callW_of k2 (.inl rfl) ?_
  simp
  refine callW_of k3 (.inl rfl) ?_
  simp
end Go.Gv

set_option linter.unusedSimpArgs false
namespace Go.Gv
def posK (t : List (Int × Int)) (x : Int) : Nat := t.findIdx fun k => decide (x ≤ k.1)
def atK (t : List (Int × Int)) (x : Int) : Bool := decide (posK t x < t.length) && decide (t[posK t x]!.1 = x)
def betK (a b : Int × Int) (x : Int) : Int × Int × Int := (a.2 + (b.2 - a.2) * (x - a.1) / (b.1 - a.1), (b.2 - a.2) * (x - a.1) % (b.1 - a.1), b.1 - a.1)
def pieceF (t : List (Int × Int)) (x : Int) : Int × Int × Int :=
  if atK t x || decide (posK t x = 0) then (t[posK t x]!.2, 0, 1)
  else if posK t x = t.length then (t[posK t x - 1]!.2, 0, 1)
  else betK t[posK t x - 1]! t[posK t x]! x
theorem posK_le (t : List (Int × Int)) (x : Int) : posK t x ≤ t.length := List.findIdx_le_length
theorem posK_lt {t : List (Int × Int)} {x : Int} {j : Nat} (h : j < posK t x) (hl : j < t.length) : t[j].1 < x := by
  have := List.not_of_lt_findIdx h
  simp at this
  exact this
theorem posK_ge {t : List (Int × Int)} {x : Int} (h : posK t x < t.length) : x ≤ t[posK t x].1 := by
  have h2 := List.findIdx_getElem (w := h)
  exact of_decide_eq_true h2
theorem posK_of_le {t : List (Int × Int)} {x : Int} {j : Nat} (hl : j < t.length) (h : x ≤ t[j].1) : posK t x ≤ j := by
  apply Nat.le_of_not_lt
  intro hj
  have := posK_lt hj hl
  omega
theorem valid_le {t : List (Int × Int)} (h : tableValid t = true) {j i : Nat} (hi : i < t.length) (hj : j ≤ i) : t[j].1 ≤ t[i].1 := by
  rcases Nat.lt_or_eq_of_le hj with h1 | rfl
  · have := valid_asc h j i hi h1; omega
  · exact Int.le_refl _
theorem posK_of_lt {t : List (Int × Int)} (hv : tableValid t = true) {x : Int} {j : Nat} (hl : j < t.length) (h : t[j].1 < x) : j < posK t x := by
  apply Nat.lt_of_not_le
  intro hj
  have h1 := posK_ge (t := t) (x := x) (by omega)
  have h2 := valid_le hv hl hj
  omega
theorem between_facts {t : List (Int × Int)} {x : Int} (h : tableValid t = true) (h0 : posK t x ≠ 0) (h1 : posK t x < t.length) (h2 : atK t x = false) :
    ∃ k u a d : Nat, posK t x = k + 1 ∧ k + 1 < t.length ∧ ∃ (g0 : k < t.length) (g1 : k + 1 < t.length), t[k + 1].2 - t[k].2 = u ∧ x - t[k].1 = a ∧ t[k + 1].1 - t[k].1 = d ∧ u < 4503599627370496 ∧ 0 < a ∧ a < d ∧ d < 4503599627370496 ∧ -1125899906842624 ≤ t[k].2 ∧ t[k].2 ≤ 1125899906842624 ∧ t[k].2 + u ≤ 1125899906842624 ∧ t[posK t x - 1]! = t[k] ∧ t[posK t x]! = t[k + 1] ∧ -1125899906842624 ≤ t[k].1 ∧ t[k].1 ≤ 1125899906842624 ∧ t[k + 1].1 ≤ 1125899906842624 := by
  obtain ⟨k, hk⟩ : ∃ k, posK t x = k + 1 := ⟨posK t x - 1, by omega⟩
  have hlt : t[k].1 < x := posK_lt (by omega) (by omega)
  have hge := posK_ge h1
  have e1 : t[posK t x]! = t[posK t x] := getElem!_pos t _ h1
  simp only [atK, h1, decide_true, Bool.true_and, decide_eq_false_iff_not, e1] at h2
  rw [hk] at h1
  simp only [hk] at hge h2 e1
  obtain ⟨f1, f2, f3⟩ := valid_ok h (show k < t.length by omega)
  obtain ⟨f4, f5, f6⟩ := valid_ok h h1
  have f7 := f6 k rfl
  simp only [fits, Bool.and_eq_true, decide_eq_true_eq] at f1 f2 f4 f5
  refine ⟨k, (t[k + 1].2 - t[k].2).toNat, (x - t[k].1).toNat, (t[k + 1].1 - t[k].1).toNat, hk, h1, by omega, h1, by omega, by omega, by omega, by omega, by omega, by omega, by omega, by omega, by omega, by omega, ?_, ?_, by omega, by omega, by omega⟩
  · rw [hk]; exact getElem!_pos t k (by omega)
  · rw [hk]; exact e1
theorem betN {p q : Int × Int} {u a d : Nat} {x : Int} (h1 : q.2 - p.2 = u) (h2 : x - p.1 = a) (h3 : q.1 - p.1 = d) : betK p q x = (p.2 + ((u * a / d : Nat) : Int), ((u * a % d : Nat) : Int), (d : Int)) := by
  simp only [betK, h1, h2, h3]
  push_cast
  rfl
variable {C : CC} (hC : Closed prog C)
include hC
theorem find_c (b : Bool) (t : List (Int × Int)) (x : Int) (h : tableValid t = true) : C 96 [slx b (t.map knD), .int .i64 x, .fn 97 []] (.tup [.int .i64 (posK t x), .bool (atK t x)]) [] := by
  obtain ⟨l1, l2⟩ := valid_len h
  have hpl := posK_le t x
  obtain ⟨n, hn⟩ : ∃ n, n = posK t x := ⟨_, rfl⟩
  obtain ⟨r, hr⟩ : ∃ r, r = atK t x := ⟨_, rfl⟩
  have hlt : ∀ j, (hj : j < t.length) → t[j].1 < x → j < n := fun j hj h1 => hn ▸ posK_of_lt h hj h1
  have hle : ∀ j, (hj : j < t.length) → x ≤ t[j].1 → n ≤ j := fun j hj h1 => hn ▸ posK_of_le hj h1
  rw [← hn] at hpl ⊢
  rw [← hr]
  rw [atK, ← hn] at hr
  refine start hC (nf := N96_slices_BinarySearchFunc_api_Table_api_Knot_int) rfl rfl ?_
  simp [N96_slices_BinarySearchFunc_api_Table_api_Knot_int]
  refine loop_of (Nat × Nat) (fun s => [(0, slx b (t.map knD)), (1, .int .i64 x), (2, .fn 97 []), (8, .int .i64 t.length), (9, .int .i64 s.1), (10, .int .i64 s.2)]) (fun s => s.1 ≤ n ∧ n ≤ s.2 ∧ s.2 ≤ t.length) (fun s => s.2 - s.1) (0, t.length) (by simp; omega) (by simp) ?_
  rintro ⟨i, j⟩ ⟨h1, h2, h3⟩
  simp only at h1 h2 h3
  simp
  refine brB_of (fun c => ?_) (fun c => ?_) <;> simp [c] <;> simp at c
  · obtain ⟨m, hm⟩ : ∃ m, m = (i + j) / 2 := ⟨_, rfl⟩
    have e1 : IntKind.wrap .i64 ((i : Int) + (j : Int)) = ((i + j : Nat) : Int) := wrap_i64 (by omega) (by omega)
    obtain ⟨s, hs⟩ : ∃ s, s = i + j := ⟨_, rfl⟩
    rw [← hs] at e1 hm
    have e2 : Int.fdiv (s : Int) (2 ^ min 1 IntKind.u64.bits) = (m : Int) := by rw [hm]; exact shrN s 1
    have e3 : IntKind.wrap .i64 (m : Int) = (m : Int) := wrap_i64 rfl (by omega)
    have e4 : IntKind.wrap .i64 ((m : Int) + 1) = ((m + 1 : Nat) : Int) := wrap_i64 (by omega) (by omega)
    have hml : m < t.length := by omega
    simp [e1, wrapN s (by omega), e2, e3, hml]
    have hc := cmpKnot_c hC t[m] x
    simp [knD] at hc ⊢
    refine callW_of hc (.inl rfl) ?_
    by_cases hmn : t[m].1 < x
    · have := hlt m hml hmn
      simp [hmn, e4]
      exact ⟨m + 1, j, ⟨by omega, h2, h3⟩, by omega, by omega, by omega⟩
    · have := hle m hml (by omega)
      have hz : ¬ (if x < t[m].1 then (1 : Int) else 0) < 0 := by split <;> omega
      simp [hmn, hz]
      exact ⟨i, m, ⟨by omega, by omega, by omega⟩, by omega, by omega, by omega⟩
  · have : i = n := by omega
    subst this
    refine brB_of (fun c2 => ?_) (fun c2 => ?_) <;> simp at c2 <;> simp [c2]
    · have hc := cmpKnot_c hC t[i] x
      have hge : ¬ t[i].1 < x := fun e => by have := hlt i c2 e; omega
      have e1 : t[i]! = t[i] := getElem!_pos t i c2
      simp [knD] at hc ⊢
      refine callW_of hc (.inl rfl) ?_
      simp [hge, hr, c2, e1]
      omega
    · have : ¬ i < t.length := by omega
      simp [hr, this]
set_option maxHeartbeats 4000000 in
theorem pieceG_c (b : Bool) (t : List (Int × Int)) (x : Int) (h : tableValid t = true) : C 90 [slx b (t.map knD), .int .i64 x] (.tup [.int .i64 (pieceF t x).1, .int .i64 (pieceF t x).2.1, .int .i64 (pieceF t x).2.2]) [] := by
  obtain ⟨l1, l2⟩ := valid_len h
  have hpl := posK_le t x
  have hk := find_c hC b t x h
  obtain ⟨p1, hp1⟩ : ∃ z, z = (pieceF t x).1 := ⟨_, rfl⟩
  obtain ⟨p2, hp2⟩ : ∃ z, z = (pieceF t x).2.1 := ⟨_, rfl⟩
  obtain ⟨p3, hp3⟩ : ∃ z, z = (pieceF t x).2.2 := ⟨_, rfl⟩
  rw [← hp1, ← hp2, ← hp3]
  unfold pieceF at hp1 hp2 hp3
  refine start hC (nf := N90_table_piece) rfl rfl ?_
  simp [N90_table_piece]
  refine callW_of hk (.inl rfl) ?_
  cases ha : atK t x
  · simp
    refine brB_of (fun c => ?_) (fun c => ?_) <;> simp at c <;> simp [c]
    · have h0 : 0 < t.length := by omega
      have e0 : t[0]! = t[0] := getElem!_pos t 0 h0
      rw [if_pos (by simp [c]), c, e0] at hp1 hp2 hp3
      simp [h0, knD, hp1, hp2, hp3]
    refine brB_of (fun c2 => ?_) (fun c2 => ?_) <;> simp at c2 <;> simp [c2]
    · obtain ⟨n, hn⟩ : ∃ n, n + 1 = t.length := ⟨t.length - 1, by omega⟩
      have e1 : IntKind.wrap .i64 ((t.length : Int) - 1) = (n : Int) := wrap_i64 (by omega) (by omega)
      have hnl : n < t.length := by omega
      have e0 : t[posK t x - 1]! = t[n] := by rw [show posK t x - 1 = n by omega]; exact getElem!_pos t n hnl
      rw [if_neg (by simp [ha, c]), if_pos (by omega), e0] at hp1 hp2 hp3
      simp [e1, hnl, knD, hp1, hp2, hp3]
    · obtain ⟨k, u, a, d, q1, q2, g0, g1, r1, r2, r3, r4, r5, r6, r7, r8, r9, r10, s1, s2, r11, r12, r13⟩ := between_facts h c (by omega) ha
      rw [if_neg (by simp [ha, c]), if_neg (by omega), s1, s2, betN r1 r2 r3] at hp1 hp2 hp3
      simp only at hp1 hp2 hp3
      have ew1 : IntKind.wrap .i64 (k : Int) = (k : Int) := wrap_i64 rfl (by omega)
      have ew2 : IntKind.wrap .i64 (t[k + 1].2 - t[k].2) = (u : Int) := wrap_i64 r1 (by omega)
      have ew3 : IntKind.wrap .i64 (x - t[k].1) = (a : Int) := wrap_i64 r2 (by omega)
      have ew4 : IntKind.wrap .i64 (t[k + 1].1 - t[k].1) = (d : Int) := wrap_i64 r3 (by omega)
      have b1 : u * a < 1329227995784915872903807060280344576 := by
        have := Nat.mul_le_mul (show u ≤ 4503599627370496 by omega) (show a ≤ 4503599627370496 by omega)
        omega
      have b2 : u * a / d * d ≤ u * a := Nat.div_mul_le_self _ _
      have b3 : u * a - u * a / d * d = u * a % d := by
        have := Nat.div_add_mod' (u * a) d
        omega
      have b4 : u * a % d < d := Nat.mod_lt _ (by omega)
      have b5 : u * a / d ≤ u := by
        have h1 : u * a ≤ u * d := Nat.mul_le_mul_left _ (by omega)
        have h1' : u * d = d * u := Nat.mul_comm _ _
        exact Nat.le_of_lt_succ (Nat.div_lt_of_lt_mul (by rw [Nat.succ_eq_add_one, Nat.mul_add]; omega))
      have k1 := Scale_c hC u a d r4 r6 r7
      have k2 := Product_c hC u a (by omega) (by omega) b1
      have k3 := Product_c hC (u * a / d) d (by omega) (by omega) (by omega)
      have k4 := Sub_c hC (u * a) (u * a / d * d) b2 b1
      have k5 := Int_c hC (u * a % d) (by omega)
      rw [b3] at k4
      obtain ⟨v1, v2, f1⟩ := wiD_ex (u * a)
      obtain ⟨v3, v4, f2⟩ := wiD_ex (u * a / d * d)
      obtain ⟨v5, v6, f3⟩ := wiD_ex (u * a % d)
      rw [f1] at k2 k4
      rw [f2] at k3 k4
      rw [f3] at k4 k5
      clear b1 b2 b3 f1 f2 f3
      obtain ⟨q, eq⟩ : ∃ q, q = u * a / d := ⟨_, rfl⟩
      obtain ⟨q', eq'⟩ : ∃ q, q = (u * a + d - 1) / d := ⟨_, rfl⟩
      obtain ⟨m, em⟩ : ∃ q, q = u * a % d := ⟨_, rfl⟩
      rw [← eq] at k1 k3 b5 hp1
      rw [← eq'] at k1
      rw [← em] at k5 hp2
      have ew5 : IntKind.wrap .i64 (t[k].2 + (q : Int)) = t[k].2 + (q : Int) := wrap_i64 rfl (by omega)
      simp [ew1, q1, g0, g1, knD]
      refine ⟨indW_of (by decide +kernel), ?_⟩
      simp [ew2, ew3, ew4]
      refine ⟨indW_of (by decide +kernel), ?_⟩
      refine callW_of k1 (.inl rfl) ?_
      simp
      refine callW_of k2 (.inr rfl) ?_
      simp
      refine callW_of k3 (.inr rfl) ?_
      simp
      refine callW_of k4 (.inr rfl) ?_
      simp
      refine callW_of k5 (.inl rfl) ?_
      simp [ew5, hp1, hp2, hp3]
  · have hlt : posK t x < t.length := by simp [atK] at ha; exact ha.1
    have e0 : t[posK t x]! = t[posK t x] := getElem!_pos t _ hlt
    rw [if_pos (by simp [ha]), e0] at hp1 hp2 hp3
    simp [hlt, knD, hp1, hp2, hp3]
theorem FloorG_c (b : Bool) (t : List (Int × Int)) (x : Int) (h : tableValid t = true) : C 73 [slx b (t.map knD), .int .i64 x] (.tup [.int .i64 (pieceF t x).1, .int .i64 0]) [] := by
  refine start hC (nf := N73_table_Floor) rfl rfl ?_
  simp [N73_table_Floor]
  refine callW_of (tableValid_c hC b t) (.inl rfl) ?_
  simp [h]
  refine callW_of (pieceG_c hC b t x h) (.inl rfl) ?_
  simp
end Go.Gv

set_option linter.unusedSimpArgs false
namespace Go.Gv
theorem conv_last {s : Sec} (h : secValid s = true) : tableValid s.conv = true ∧ (lastK s.conv).1 = s.height ∧ 0 ≤ (lastK s.conv).2 ∧ (lastK s.conv).2 ≤ 1099511627776 := by
  simp only [secValid, curveOk, Bool.and_eq_true, decide_eq_true_eq, beq_iff_eq] at h
  obtain ⟨_, ⟨⟨hv, h0⟩, h1⟩, h2⟩ := h
  obtain ⟨l1, l2⟩ := valid_len hv
  have hp : ∀ i (hi : i < s.conv.length), 0 ≤ s.conv[i].2 := by
    intro i
    induction i with
    | zero => intro hi; have := h0.2; rw [getElem!_pos s.conv 0 hi] at this; omega
    | succ i ih =>
      intro hi
      have h3 := ((valid_ok hv hi).2.2 i rfl).2
      have := ih (by omega)
      omega
  obtain ⟨n, hn⟩ : ∃ n, n + 1 = s.conv.length := ⟨s.conv.length - 1, by omega⟩
  refine ⟨hv, h1, ?_, h2⟩
  rw [lastK_get hn]
  exact hp n (by omega)
theorem cap_lt {k f : Nat} (hk : k ≤ 1099511627776) (hf : f ≤ 4194304) : k * k * f ≤ 5070602400912917605986812821504 := by
  have h1 := Nat.mul_le_mul hk hk
  have h2 := Nat.mul_le_mul h1 hf
  exact h2
variable {C : CC} (hC : Closed prog C)
include hC
end Go.Gv

set_option linter.unusedSimpArgs false
namespace Go.Gv
def bis (p : Nat → Bool) : Nat → Nat → Nat → Nat
  | 0, lo, _ => lo
  | f + 1, lo, hi => if lo < hi then (if p ((lo + hi) / 2) then bis p f lo ((lo + hi) / 2) else bis p f ((lo + hi) / 2 + 1) hi) else lo
theorem valid_val {t : List (Int × Int)} (h : tableValid t = true) : ∀ {i j : Nat} (hi : i < t.length) (hj : j ≤ i), t[j].2 ≤ t[i].2 := by
  intro i
  induction i with
  | zero => intro j hi hj; have : j = 0 := by omega
            subst this; exact Int.le_refl _
  | succ i ih =>
    intro j hi hj
    rcases Nat.lt_or_eq_of_le hj with h1 | rfl
    · have h2 := ((valid_ok h hi).2.2 i rfl).2
      have := ih (by omega) (show j ≤ i by omega)
      omega
    · exact Int.le_refl _
theorem pieceF_knots {t : List (Int × Int)} (h : tableValid t = true) (x : Int) : ∃ i j : Nat, ∃ (hi : i < t.length) (hj : j < t.length), t[i].2 ≤ (pieceF t x).1 ∧ (pieceF t x).1 ≤ t[j].2 := by
  obtain ⟨l1, l2⟩ := valid_len h
  have hpl := posK_le t x
  unfold pieceF
  cases ha : atK t x
  · by_cases c : posK t x = 0
    · have h0 : 0 < t.length := by omega
      rw [if_pos (by simp [c]), c, getElem!_pos t 0 h0]
      exact ⟨0, 0, h0, h0, Int.le_refl _, Int.le_refl _⟩
    rw [if_neg (by simp [c])]
    by_cases c2 : posK t x = t.length
    · obtain ⟨n, hn⟩ : ∃ n, n + 1 = t.length := ⟨t.length - 1, by omega⟩
      have hnl : n < t.length := by omega
      rw [if_pos c2, show posK t x - 1 = n by omega, getElem!_pos t n hnl]
      exact ⟨n, n, hnl, hnl, Int.le_refl _, Int.le_refl _⟩
    · obtain ⟨k, u, a, d, q1, q2, g0, g1, r1, r2, r3, r4, r5, r6, r7, r8, r9, r10, s1, s2, r11, r12, r13⟩ := between_facts h c (by omega) ha
      rw [if_neg c2, s1, s2, betN r1 r2 r3]
      have b5 : u * a / d ≤ u := by
        have h1 : u * a ≤ u * d := Nat.mul_le_mul_left _ (by omega)
        have h1' : u * d = d * u := Nat.mul_comm _ _
        exact Nat.le_of_lt_succ (Nat.div_lt_of_lt_mul (by rw [Nat.succ_eq_add_one, Nat.mul_add]; omega))
      generalize u * a / d = q at b5
      exact ⟨k, k + 1, g0, g1, by simp only; omega, by simp only; omega⟩
  · have hlt : posK t x < t.length := by simp [atK] at ha; exact ha.1
    rw [if_pos (by simp), getElem!_pos t _ hlt]
    exact ⟨_, _, hlt, hlt, Int.le_refl _, Int.le_refl _⟩
theorem pieceF_range {t : List (Int × Int)} (h : tableValid t = true) (x : Int) : t[0]!.2 ≤ (pieceF t x).1 ∧ (pieceF t x).1 ≤ (lastK t).2 := by
  obtain ⟨l1, l2⟩ := valid_len h
  obtain ⟨i, j, hi, hj, h1, h2⟩ := pieceF_knots h x
  obtain ⟨n, hn⟩ : ∃ n, n + 1 = t.length := ⟨t.length - 1, by omega⟩
  have h0 : 0 < t.length := by omega
  rw [lastK_get hn, getElem!_pos t 0 h0]
  have k1 := valid_val h hi (show 0 ≤ i by omega)
  have k2 := valid_val h (show n < t.length by omega) (show j ≤ n by omega)
  omega
def carF (s : Sec) (depth fall len : Int) : Nat := rootN ((pieceF s.conv depth).1.toNat * (pieceF s.conv depth).1.toNat * fall.toNat / len.toNat)
def enoughD (s : Sec) (flow fall len : Int) (m : Nat) : Bool := decide (flow ≤ (carF s m fall len : Int))
def leastD (s : Sec) (flow fall len : Int) : Nat := bis (enoughD s flow fall len) 40 0 (s.height.toNat + 1)
def depthF (s : Sec) (flow fall len : Int) : Int × Int :=
  if secValid s then (if 0 ≤ flow ∧ flow ≤ 1099511627776 ∧ slopeOk fall len = true then (if s.height.toNat < leastD s flow fall len then (0, 28) else (leastD s flow fall len, 0)) else (0, 2)) else (0, 1)
theorem conv_any {s : Sec} (h : secValid s = true) (x : Int) : 0 ≤ (pieceF s.conv x).1 ∧ (pieceF s.conv x).1 ≤ 1099511627776 := by
  obtain ⟨h1, h2, h3, h4⟩ := conv_last h
  have hr := pieceF_range h1 x
  simp only [secValid, curveOk, Bool.and_eq_true, decide_eq_true_eq, beq_iff_eq] at h
  have h0 := h.2.1.1.2.2
  omega
variable {C : CC} (hC : Closed prog C)
include hC
theorem carriedG_c (s : Sec) (depth fall len : Int) (hv : secValid s = true) (hs : slopeOk fall len = true) : C 61 [.agg (secC s), .int .i64 depth, .int .i64 fall, .int .i64 len] (.tup [.int .i64 (carF s depth fall len), .int .i64 0]) [] := by
  obtain ⟨c1, _, _, _⟩ := conv_last hv
  obtain ⟨c3, c4⟩ := conv_any hv depth
  simp only [slopeOk, Bool.and_eq_true, decide_eq_true_eq] at hs
  have hF := FloorG_c hC s.convN s.conv depth c1
  obtain ⟨k, hk⟩ : ∃ k : Nat, (pieceF s.conv depth).1 = k := ⟨(pieceF s.conv depth).1.toNat, by omega⟩
  obtain ⟨f, rfl⟩ : ∃ f : Nat, fall = f := ⟨fall.toNat, by omega⟩
  obtain ⟨l, rfl⟩ : ∃ l : Nat, len = l := ⟨len.toNat, by omega⟩
  have hcap : carF s depth f l = rootN (k * k * f / l) := by simp [carF, hk]
  rw [hk] at hF
  rw [hcap]
  have hb := cap_lt (k := k) (f := f) (by omega) (by omega)
  have hb0 : k * k ≤ 1208925819614629174706176 := Nat.mul_le_mul (show k ≤ 1099511627776 by omega) (show k ≤ 1099511627776 by omega)
  have hb2 := Nat.div_le_self (k * k * f) l
  refine start hC (nf := N61_catalogue_carried) rfl rfl ?_
  simp [N61_catalogue_carried, secC]
  refine callW_of hF (.inl rfl) ?_
  simp
  refine callW_of (product_c hC k k (by omega) (by omega)) (.inl rfl) ?_
  have v : ∀ x, isV (wideD x) = true ∧ (∀ f : Nat → D, dpOk f (wideD x)) ∧ (∀ f : Nat → D, dp f (wideD x) = wideD x) ∧ ∀ ks, kill1 ks (wideD x) = wideD x := fun x => ⟨rfl, fun _ => trivial, fun _ => rfl, fun _ => by simp [wideD]⟩
  simp [v]
  refine callW_of (times_c hC (k * k) f (by omega) (by omega) (by omega)) (.inl rfl) ?_
  simp [v]
  refine callW_of (over_c hC (k * k * f) l (by omega) (by omega) (by omega)) (.inl rfl) ?_
  simp [v]
  refine callW_of (root_c hC (k * k * f / l)) (.inl rfl) ?_
  simp
end Go.Gv

set_option linter.unusedSimpArgs false
namespace Go.Gv
theorem pump_eq (l : List (Int × Int)) : (tableValid l && !(l.any fun k => !pumpOk k)) = curveR l := by
  by_cases hv : tableValid l = true
  · obtain ⟨l1, l2⟩ := valid_len hv
    obtain ⟨n, hn⟩ : ∃ n, n + 1 = l.length := ⟨l.length - 1, by omega⟩
    have h0 : 0 < l.length := by omega
    have hnl : n < l.length := by omega
    have hany : (!(l.any fun k => !pumpOk k)) = l.all pumpOk := by rw [Bool.eq_iff_iff]; simp
    rw [hany, curveR, hv, lastK_get hn, getElem!_pos l 0 h0, Bool.eq_iff_iff]
    simp only [Bool.true_and, List.all_eq_true, Bool.and_eq_true, decide_eq_true_eq]
    constructor
    · intro h
      have ha := h l[0] (List.getElem_mem h0)
      have hb := h l[n] (List.getElem_mem hnl)
      simp only [pumpOk, lowHigh, Bool.and_eq_true, decide_eq_true_eq] at ha hb
      omega
    · intro h k hk
      obtain ⟨i, hi, rfl⟩ := List.getElem_of_mem hk
      have a1 := valid_le hv hi (show 0 ≤ i by omega)
      have a2 := valid_le hv hnl (show i ≤ n by omega)
      have a3 := valid_val hv hi (show 0 ≤ i by omega)
      have a4 := valid_val hv hnl (show i ≤ n by omega)
      simp only [pumpOk, lowHigh, Bool.and_eq_true, decide_eq_true_eq]
      omega
  · simp [curveR, hv]
theorem linkR_eq (l : Lnk) : linkR l = linkOk l := by
  have hcur : ∀ x : List (Int × Int), decide (x.length = 0) = decide (x = []) := fun x => by
    rw [Bool.eq_iff_iff]; simp
  have hp := pump_eq l.curve
  unfold linkR linkOk kindR kindOk sameL plainF
  simp only [hcur]
  have l0 : lvlOk 0 = true := by decide
  by_cases h1 : l.kind = 1
  · simp [h1]
    ac_rfl
  by_cases h2 : l.kind = 2
  · by_cases hd : l.down = 0
    · simp [h2, hd, l0]
      ac_rfl
    · simp [h2, hd]
  by_cases h3 : l.kind = 3
  · by_cases hd : l.down = 0
    · simp [h3, hd, l0]
      ac_rfl
    · simp [h3, hd]
  by_cases h4 : l.kind = 4
  · simp [h4]
    rw [← hp]
    ac_rfl
  · simp [h1, h2, h3, h4]
end Go.Gv

set_option linter.unusedSimpArgs false
namespace Go.Gv
variable {C : CC} (hC : Closed prog C)
include hC
theorem rPos_c (n : Int) : C 507 [.int .i64 n] (.bool (lowHigh n (-16777216) 16777216)) [] := by
  refine start hC (nf := N507_ref26_position) rfl rfl ?_
  simp [N507_ref26_position, lowHigh]
  refine brB_of (fun h => ?_) (fun h => ?_) <;> simp at h <;> simp [h] <;> omega
theorem rShape_c (b : Bool) (t : List (Int × Int)) (hgt : Int) : C 508 [slx b (t.map knD), .int .i64 hgt] (.bool (curveOk t hgt 1125899906842624)) [] := by
  refine start hC (nf := N508_ref26_shape) rfl rfl ?_
  simp [N508_ref26_shape]
  refine callW_of (rTable_c hC b t) (.inl rfl) ?_
  cases hv : tableValid t
  · simp [curveOk, hv]
  obtain ⟨l1, l2⟩ := valid_len hv
  obtain ⟨n, hn⟩ : ∃ n, n + 1 = t.length := ⟨t.length - 1, by omega⟩
  have e1 : IntKind.wrap .i64 ((t.length : Int) - 1) = (n : Int) := wrap_i64 (by omega) (by omega)
  have hnl : n < t.length := by omega
  have h0 : 0 < t.length := by omega
  have e0 : t[0]! = t[0] := getElem!_pos t 0 h0
  rw [curveOk, lastK_get hn, e0, hv]
  simp [e1, hnl, h0, knD]
  refine brB_of (fun c => ?_) (fun c => ?_) <;> simp at c
  · simp [c, h0, knD]
    refine brB_of (fun c2 => ?_) (fun c2 => ?_) <;> simp at c2
    · simp [c2]
      refine brB_of (fun c3 => ?_) (fun c3 => ?_) <;> simp at c3 <;> simp [c3, c, c2]
    · simp [c2]
  · simp [c]
theorem nodR_c (n : Nod) : C 488 [.agg (nodC n)] (.bool (nodOk n)) [] := by
  have k1 := rIsName_c hC n.name
  have k2 := rPos_c hC n.x
  have k3 := rPos_c hC n.y
  have k4 := rLevel_c hC n.invert
  have k5 := rLevel_c hC n.ground
  obtain ⟨q, hq⟩ : ∃ q, q = nodOk n := ⟨_, rfl⟩
  rw [← hq]
  unfold nodOk at hq
  refine start hC (nf := N488_ref26_RightNode) rfl rfl ?_
  simp [N488_ref26_RightNode, nodC]
  refine callW_of k1 (.inl rfl) ?_
  cases h1 : isName n.name
  · simp [hq, h1]
  simp
  refine callW_of k2 (.inl rfl) ?_
  cases h2 : lowHigh n.x (-16777216) 16777216
  · simp [hq, h2]
  simp
  refine callW_of k3 (.inl rfl) ?_
  cases h3 : lowHigh n.y (-16777216) 16777216
  · simp [hq, h3]
  simp
  refine callW_of k4 (.inl rfl) ?_
  cases h4 : lvlOk n.invert
  · simp [hq, h4]
  simp
  refine callW_of k5 (.inl rfl) ?_
  cases h5 : lvlOk n.ground
  · simp [hq, h5]
  simp
  rw [h1, h2, h3, h4, h5] at hq
  simp only [Bool.true_and] at hq
  have b1 : -4194304 ≤ n.invert ∧ n.invert ≤ 4194304 := by simpa [lvlOk] using h4
  have b2 : -4194304 ≤ n.ground ∧ n.ground ≤ 4194304 := by simpa [lvlOk] using h5
  have e1 : IntKind.wrap .i64 (n.ground - n.invert) = n.ground - n.invert := wrap_i64 rfl (by omega)
  by_cases hk3 : n.kind = 3
  · rw [if_neg (by omega), if_pos hk3, outOk] at hq
    simp [hk3]
    refine brB_of (fun c1 => ?_) (fun c1 => ?_) <;> simp at c1
    · simp [c1]
      refine brB_of (fun c2 => ?_) (fun c2 => ?_) <;> simp at c2
      · cases c3 : n.prot
        · simp [hq, c1, c2, c3]
        · simp [hq, c2, c3]
      · simp [hq, c2]
    · have : ¬ n.invert ≤ n.ground := by omega
      simp [hq, this]
  · by_cases hk : n.kind = 1 ∨ n.kind = 2
    · rw [if_pos hk, storeOk] at hq
      have kb := rShape_c hC n.shapeN n.shape (n.ground - n.invert)
      rcases hk with hk | hk
      · simp [hk]
        refine brB_of (fun c1 => ?_) (fun c1 => ?_) <;> simp at c1
        · simp [c1, hq]
        have c1' : ¬ n.ground ≤ n.invert := by omega
        simp [c1', e1]
        refine callW_of kb (.inl rfl) ?_
        cases c2 : curveOk n.shape (n.ground - n.invert) 1125899906842624
        · simp [hq, c2]
        simp [hk]
        cases c3 : n.prot
        · simp [hq, c1', c2, c3, hk]
        · simp [hq, c3, hk]
          exact indW_of (by decide +kernel)
      · simp [hk]
        refine brB_of (fun c1 => ?_) (fun c1 => ?_) <;> simp at c1
        · simp [c1, hq]
        have c1' : ¬ n.ground ≤ n.invert := by omega
        simp [c1', e1]
        refine callW_of kb (.inl rfl) ?_
        cases c2 : curveOk n.shape (n.ground - n.invert) 1125899906842624
        · simp [hq, c2]
        simp [hk]
        cases c3 : n.prot
        · simp [hq, c1', c2, c3, hk]
        have hv : tableValid n.shape = true := by
          simp only [curveOk, Bool.and_eq_true] at c2
          exact c2.1.1.1
        obtain ⟨l1, l2⟩ := valid_len hv
        obtain ⟨m, hm⟩ : ∃ m, m + 1 = n.shape.length := ⟨n.shape.length - 1, by omega⟩
        have e2 : IntKind.wrap .i64 ((n.shape.length : Int) - 1) = (m : Int) := wrap_i64 (by omega) (by omega)
        have hml : m < n.shape.length := by omega
        have e3 := lastK_get hm
        by_cases c4 : 0 ≤ n.reserve
        · simp [hq, c1', c2, c3, c4, hk, e2, hml, knD, e3, lowHigh]
          exact indW_of (by decide +kernel)
        · simp [hq, c1', c2, c3, c4, hk, e2, hml, knD, e3, lowHigh]
          exact indW_of (by decide +kernel)
    · rw [if_neg hk, if_neg hk3] at hq
      have a1 : ¬ n.kind = 1 := fun e => hk (.inl e)
      have a2 : ¬ n.kind = 2 := fun e => hk (.inr e)
      simp [hk3, a1, a2, hq]
theorem rNode_c (b1 b2 : Bool) (ns : List Nod) (ls : List Lnk) (nm : List UInt8) (hn : ns.length < 2 ^ 62) : C 462 [.agg [slx b1 (ns.map nodC), slx b2 (ls.map lnkC)], .str nm] (.int .i64 (idxD (nodIs nm) ns)) [] := by
  refine start hC (nf := N462_ref26_FindNode) rfl rfl ?_
  simp [N462_ref26_FindNode]
  refine loop_of Nat (fun i => [(1, .str nm), (2, .ptr [slx b1 (ns.map nodC), slx b2 (ls.map lnkC)]), (5, .int .i64 i)]) (fun i => i ≤ ns.length ∧ ∀ (j : Nat) (h : j < ns.length), j < i → nodIs nm ns[j] = false) (fun i => ns.length - i) 0 (by simp) (by simp) ?_
  rintro i ⟨hi, hj⟩
  simp
  refine brB_of (fun h => ?_) (fun h => ?_) <;> simp [h] <;> simp at h
  · have hw : IntKind.wrap .i64 ((i : Int) + 1) = ((i + 1 : Nat) : Int) := wrap_i64 (by omega) (by omega)
    simp [h, nodC]
    refine brB_of (fun h1 => ?_) (fun h1 => ?_) <;> simp at h1 <;> simp [h1, hw]
    · rw [idxD_step hj h (by simpa [nodIs] using h1)]
    · refine ⟨i + 1, ⟨by omega, fun j hl hjj => ?_⟩, by omega, rfl⟩
      rcases Nat.lt_succ_iff_lt_or_eq.1 hjj with h2 | rfl
      · exact hj j hl h2
      · simpa [nodIs] using h1
  · rw [idxD_none (fun j hl => hj j hl (by omega))]
theorem rLink_c (b1 b2 : Bool) (ns : List Nod) (ls : List Lnk) (nm : List UInt8) (hn : ls.length < 2 ^ 62) : C 467 [.agg [slx b1 (ns.map nodC), slx b2 (ls.map lnkC)], .str nm] (.int .i64 (idxD (lnkIs nm) ls)) [] := by
  refine start hC (nf := N467_ref26_FindLink) rfl rfl ?_
  simp [N467_ref26_FindLink]
  refine loop_of Nat (fun i => [(1, .str nm), (2, .ptr [slx b1 (ns.map nodC), slx b2 (ls.map lnkC)]), (5, .int .i64 i)]) (fun i => i ≤ ls.length ∧ ∀ (j : Nat) (h : j < ls.length), j < i → lnkIs nm ls[j] = false) (fun i => ls.length - i) 0 (by simp) (by simp) ?_
  rintro i ⟨hi, hj⟩
  simp
  refine brB_of (fun h => ?_) (fun h => ?_) <;> simp [h] <;> simp at h
  · have hw : IntKind.wrap .i64 ((i : Int) + 1) = ((i + 1 : Nat) : Int) := wrap_i64 (by omega) (by omega)
    simp [h, lnkC]
    refine brB_of (fun h1 => ?_) (fun h1 => ?_) <;> simp at h1 <;> simp [h1, hw]
    · rw [idxD_step hj h (by simpa [lnkIs] using h1)]
    · refine ⟨i + 1, ⟨by omega, fun j hl hjj => ?_⟩, by omega, rfl⟩
      rcases Nat.lt_succ_iff_lt_or_eq.1 hjj with h2 | rfl
      · exact hj j hl h2
      · simpa [lnkIs] using h1
  · rw [idxD_none (fun j hl => hj j hl (by omega))]
theorem rEdges_c (b1 b2 : Bool) (ns : List Nod) (ls : List Lnk) (hv : netOk ns ls = true) : C 429 [.agg [slx b1 (ns.map nodC), slx b2 (ls.map lnkC)]] (.sl ((edgN ns ls).map edK)) [] := by
  obtain ⟨hl1, hl2⟩ := netOk_len hv
  refine start hC (nf := N429_ref26_Edges) rfl rfl ?_
  simp [N429_ref26_Edges]
  refine loop_of Nat (fun j => [(1, .ptr [slx b1 (ns.map nodC), slx b2 (ls.map lnkC)]), (3, .ref (.r 10048) 0 j), (10048, .blk 2 (edT (edgN ns ls) j)), (4, .int .i64 j)]) (fun j => j ≤ ls.length) (fun j => ls.length - j) 0 (by simp) (by simp) ?_
  rintro j hj
  simp
  refine brB_of (fun h => ?_) (fun h => ?_) <;> simp [h] <;> simp at h
  · have hw : IntKind.wrap .i64 ((j : Int) + 1) = ((j + 1 : Nat) : Int) := wrap_i64 (by omega) (by omega)
    obtain ⟨_, _, g1, g2⟩ := netOk_lnk hv h
    have k1 := rNode_c hC b1 b2 ns ls ls[j].src (by omega)
    have k2 := rNode_c hC b1 b2 ns ls ls[j].dst (by omega)
    have hjl : j < (edgN ns ls).length := by rw [edgN_len]; exact h
    have el := edT_len (es := edgN ns ls) (j := j) (by omega)
    simp [h, lnkC, el]
    refine callW_of k1 (.inl rfl) ?_
    simp [h, lnkC]
    refine callW_of k2 (.inl rfl) ?_
    simp [el]
    refine ⟨by omega, indW_of (by decide +kernel), j + 1, by omega, by omega, rfl, ?_, hw⟩
    have e2 : (edT (edgN ns ls) j).take j = edT (edgN ns ls) j := List.take_of_length_le (by omega)
    rw [e2, edT_succ hjl]
    congr 2
    simp only [edgN, List.getElem_map, edK, knD]
    rw [Int.toNat_of_nonneg g1, Int.toNat_of_nonneg g2]
  · have ej : j = ls.length := by omega
    subst ej
    have e0 := edT_end (edgN ns ls)
    have el := edT_len (es := edgN ns ls) (j := ls.length) (by rw [edgN_len]; exact Nat.le_refl _)
    rw [edgN_len] at e0
    simp [edT_V, el]
    rw [← e0, List.take_of_length_le (by omega)]
end Go.Gv

set_option linter.unusedSimpArgs false
namespace Go.Gv
variable {C : CC} (hC : Closed prog C)
include hC
theorem rEdgesF_c (b1 b2 : Bool) (ns : List Nod) (ls : List Lnk) (hv : netOk ns ls = true) : C 429 [.agg [slx b1 (ns.map nodC), slx b2 (ls.map lnkC)]] .any [.own 2 ((edgN ns ls).map edK)] := by
  obtain ⟨hl1, hl2⟩ := netOk_len hv
  refine startF hC (nf := N429_ref26_Edges) rfl rfl ?_
  simp [N429_ref26_Edges]
  refine loop_of Nat (fun j => [(1, .ptr [slx b1 (ns.map nodC), slx b2 (ls.map lnkC)]), (3, .ref (.r 10048) 0 j), (10048, .blk 2 (edT (edgN ns ls) j)), (4, .int .i64 j)]) (fun j => j ≤ ls.length) (fun j => ls.length - j) 0 (by simp) (by simp) ?_
  rintro j hj
  simp
  refine brB_of (fun h => ?_) (fun h => ?_) <;> simp [h] <;> simp at h
  · have hw : IntKind.wrap .i64 ((j : Int) + 1) = ((j + 1 : Nat) : Int) := wrap_i64 (by omega) (by omega)
    obtain ⟨_, _, g1, g2⟩ := netOk_lnk hv h
    have k1 := rNode_c hC b1 b2 ns ls ls[j].src (by omega)
    have k2 := rNode_c hC b1 b2 ns ls ls[j].dst (by omega)
    have hjl : j < (edgN ns ls).length := by rw [edgN_len]; exact h
    have el := edT_len (es := edgN ns ls) (j := j) (by omega)
    simp [h, lnkC, el]
    refine callW_of k1 (.inl rfl) ?_
    simp [h, lnkC]
    refine callW_of k2 (.inl rfl) ?_
    simp [el]
    refine ⟨by omega, indW_of (by decide +kernel), j + 1, by omega, by omega, rfl, ?_, hw⟩
    have e2 : (edT (edgN ns ls) j).take j = edT (edgN ns ls) j := List.take_of_length_le (by omega)
    rw [e2, edT_succ hjl]
    congr 2
    simp only [edgN, List.getElem_map, edK, knD]
    rw [Int.toNat_of_nonneg g1, Int.toNat_of_nonneg g2]
  · have ej : j = ls.length := by omega
    subst ej
    have e0 := edT_end (edgN ns ls)
    have el := edT_len (es := edgN ns ls) (j := ls.length) (by rw [edgN_len]; exact Nat.le_refl _)
    rw [edgN_len] at e0
    simp [el, ← e0]
    exact ⟨fun r x y _ e c hc => by subst e; simp [edK, knD] at hc; rcases hc with rfl | rfl <;> rfl, (edgN_len ns ls).symm⟩
end Go.Gv

set_option linter.unusedSimpArgs false
namespace Go.Gv
def srcsA (n : Nat) (out : List Nat) : List (List D) := (List.range n).map fun v => [.bool (decide (v ∈ out))]
theorem srcsA_get {n v : Nat} (out : List Nat) (h : v < n) : (srcsA n out)[v]? = some [.bool (decide (v ∈ out))] := by simp [srcsA, h]
theorem srcsA_set {n : Nat} (out : List Nat) (v : Nat) : (srcsA n out).set v [.bool true] = srcsA n (out ++ [v]) := by
  unfold srcsA
  rw [set_rm]
  apply List.map_congr_left
  intro u _
  by_cases e : u = v <;> simp [e]
def lowR (es : List Edg) (out : List Nat) : Nat → Int
  | 0 => -1
  | v + 1 => if lowR es out v < 0 then (if !out.contains v && prOk es out v then (v : Int) else -1) else lowR es out v
theorem lowR_neg {es : List Edg} {out : List Nat} : ∀ {v : Nat}, lowR es out v < 0 → rdyL v es out = []
  | 0, _ => by simp [rdyL]
  | v + 1, h => by
    unfold lowR at h
    by_cases h1 : lowR es out v < 0
    · rw [if_pos h1] at h
      have ih := lowR_neg h1
      unfold rdyL at ih ⊢
      rw [List.range_succ, List.filter_append, ih]
      by_cases h2 : (!out.contains v && prOk es out v) = true
      · rw [if_pos h2] at h; omega
      · simp only [List.filter_cons, h2, List.filter_nil, List.append_nil]; rfl
    · rw [if_neg h1] at h
      exact absurd h h1
theorem lowR_pos {es : List Edg} {out : List Nat} : ∀ {v : Nat}, 0 ≤ lowR es out v → ∃ (i : Nat) (r : List Nat), lowR es out v = i ∧ rdyL v es out = i :: r ∧ i < v
  | 0, h => by simp [lowR] at h
  | v + 1, h => by
    by_cases h1 : lowR es out v < 0
    · have ih := lowR_neg h1
      unfold lowR at h ⊢
      rw [if_pos h1] at h ⊢
      by_cases h2 : (!out.contains v && prOk es out v) = true
      · rw [if_pos h2]
        refine ⟨v, [], rfl, ?_, by omega⟩
        unfold rdyL at ih ⊢
        rw [List.range_succ, List.filter_append, ih]
        simp only [List.filter_cons, h2, List.filter_nil, List.nil_append]; rfl
      · rw [if_neg h2] at h; omega
    · obtain ⟨i, r, e1, e2, e3⟩ := lowR_pos (v := v) (es := es) (out := out) (by omega)
      unfold lowR
      rw [if_neg h1]
      refine ⟨i, r ++ (([v]).filter fun u => !out.contains u && prOk es out u), e1, ?_, by omega⟩
      unfold rdyL at e2 ⊢
      rw [List.range_succ, List.filter_append, e2]
      rfl
def prT (es : List Edg) (out : List Nat) (v j : Nat) : Bool := prOk (es.take j) out v
theorem prT_succ {es : List Edg} {out : List Nat} {v j : Nat} (h : j < es.length) : prT es out v (j + 1) = (prT es out v j && !(decide (es[j].2 = v) && !decide (es[j].1 ∈ out))) := by
  unfold prT prOk
  rw [List.take_succ_eq_append_getElem h, List.all_append]
  congr 1
  by_cases a : es[j].2 = v <;> by_cases b : es[j].1 ∈ out <;> simp [a, b]
theorem prT_end (es : List Edg) (out : List Nat) (v : Nat) : prT es out v es.length = prOk es out v := by simp [prT]
variable {C : CC} (hC : Closed prog C)
include hC
theorem rValid_c (b1 b2 : Bool) (ns : List Nod) (ls : List Lnk) : C 458 [.agg [slx b1 (ns.map nodC), slx b2 (ls.map lnkC)]] (.bool (netOk ns ls)) [] := by
  obtain ⟨r, hr⟩ : ∃ r, r = netOk ns ls := ⟨_, rfl⟩
  rw [← hr]
  unfold netOk at hr
  refine start hC (nf := N458_ref26_Valid) rfl rfl ?_
  simp [N458_ref26_Valid]
  by_cases c : (300 : Int) < ns.length
  · simp [c, hr, show ¬ ns.length ≤ 300 by omega]
  by_cases c2 : (400 : Int) < ls.length
  · simp [c, c2, hr, show ¬ ls.length ≤ 400 by omega]
  simp [c, c2]
  rw [decide_eq_true (show ns.length ≤ 300 by omega), decide_eq_true (show ls.length ≤ 400 by omega)] at hr
  simp only [Bool.true_and] at hr
  have badN : ∀ i, i < ns.length → nodAt ns i = false → r = false := fun i hi h => by
    rw [hr, Bool.and_eq_false_iff]
    exact .inl (List.all_eq_false.2 ⟨i, by simpa using hi, by simp [h]⟩)
  have badL : ∀ i, i < ls.length → lnkAt ns ls i = false → r = false := fun i hi h => by
    rw [hr, Bool.and_eq_false_iff]
    exact .inr (List.all_eq_false.2 ⟨i, by simpa using hi, by simp [h]⟩)
  refine loop_of Nat (fun i => [(1, .ptr [slx b1 (ns.map nodC), slx b2 (ls.map lnkC)]), (3, .int .i64 i)]) (fun i => i ≤ ns.length ∧ ∀ j < i, nodAt ns j = true) (fun i => ns.length - i) 0 (by simp) (by simp) ?_
  rintro i ⟨hi, hj⟩
  simp
  refine brB_of (fun h => ?_) (fun h => ?_) <;> simp at h <;> simp [h]
  · have hw : IntKind.wrap .i64 ((i : Int) + 1) = ((i + 1 : Nat) : Int) := wrap_i64 (by omega) (by omega)
    have bad := badN i h
    have e1 : ns[i]! = ns[i] := getElem!_pos ns i h
    simp only [nodAt, e1] at bad
    have k1 := nodR_c hC ns[i]
    have k2 := rNode_c hC b1 b2 ns ls ns[i].name (by omega)
    simp only [nodC] at k1
    simp [nodC, h]
    refine callW_of k1 (.inl rfl) ?_
    cases g1 : nodOk ns[i]
    · simp
      refine ⟨indW_of (by decide +kernel), ?_⟩
      exact bad (by simp [g1])
    simp [nodC, h]
    refine callW_of k2 (.inl rfl) ?_
    simp
    refine ⟨indW_of (by decide +kernel), ?_⟩
    refine brB_of (fun g2 => ?_) (fun g2 => ?_) <;> simp at g2 <;> simp [g2]
    · exact bad (by simp [g2])
    · simp [hw]
      refine ⟨i + 1, ⟨by omega, fun k hk => ?_⟩, by omega, by simp⟩
      rcases Nat.lt_succ_iff_lt_or_eq.1 hk with h5 | rfl
      · exact hj k h5
      · simp [nodAt, e1, g1, g2]
  have hall : (List.range ns.length).all (nodAt ns) = true := by
    rw [List.all_eq_true]
    intro k hk
    exact hj k (by simp at hk; omega)
  rw [hall, Bool.true_and] at hr
  clear badN hall hj
  refine loop_of Nat (fun i => [(1, .ptr [slx b1 (ns.map nodC), slx b2 (ls.map lnkC)]), (4, .int .i64 i)]) (fun i => i ≤ ls.length ∧ ∀ j < i, lnkAt ns ls j = true) (fun i => ls.length - i) 0 (by simp) (by simp) ?_
  clear h hi i
  rintro i ⟨hi, hj⟩
  simp
  refine brB_of (fun h => ?_) (fun h => ?_) <;> simp at h <;> simp [h]
  · have hw : IntKind.wrap .i64 ((i : Int) + 1) = ((i + 1 : Nat) : Int) := wrap_i64 (by omega) (by omega)
    have bad := badL i h
    have e1 : ls[i]! = ls[i] := getElem!_pos ls i h
    simp only [lnkAt, e1] at bad
    have k1 := linkR_c hC ls[i]
    rw [linkR_eq] at k1
    have k2 := rLink_c hC b1 b2 ns ls ls[i].name (by omega)
    have k3 := rNode_c hC b1 b2 ns ls ls[i].src (by omega)
    have k4 := rNode_c hC b1 b2 ns ls ls[i].dst (by omega)
    have next : lnkAt ns ls i = true → ∃ s' : Nat, (s' ≤ ls.length ∧ ∀ j < s', lnkAt ns ls j = true) ∧ ls.length - s' < ls.length - i ∧ (i : Int) + 1 = s' := fun hl => by
      refine ⟨i + 1, ⟨by omega, fun k hk => ?_⟩, by omega, by simp⟩
      rcases Nat.lt_succ_iff_lt_or_eq.1 hk with h5 | rfl
      · exact hj k h5
      · exact hl
    simp only [lnkAt, e1] at next
    simp only [lnkC] at k1
    simp [lnkC, h]
    refine callW_of k1 (.inl rfl) ?_
    cases g1 : linkOk ls[i]
    · simp
      exact bad (by simp [g1])
    simp
    refine callW_of k2 (.inl rfl) ?_
    simp
    refine brB_of (fun g2 => ?_) (fun g2 => ?_) <;> simp at g2 <;> simp [g2]
    · exact bad (by simp [g2])
    refine callW_of k4 (.inl rfl) ?_
    simp
    refine brB_of (fun g4 => ?_) (fun g4 => ?_) <;> simp at g4 <;> simp [g4]
    · exact bad (by simp [show ¬ 0 ≤ idxD (nodIs ls[i].dst) ns by omega])
    have g4' : ¬ idxD (nodIs ls[i].dst) ns < 0 := by omega
    refine callW_of k3 (.inl rfl) ?_
    simp
    by_cases g3 : idxD (nodIs ls[i].src) ns < 0
    · simp [g3]
      exact bad (by simp [fromOk, show ¬ 0 ≤ idxD (nodIs ls[i].src) ns by omega])
    have g3' : 0 ≤ idxD (nodIs ls[i].src) ns := by omega
    have hf := idxD_lt g3'
    obtain ⟨f, hfe⟩ := Int.eq_ofNat_of_zero_le g3'
    rw [hfe] at hf ⊢
    simp at hf
    have e2 : ns[f]! = ns[f] := getElem!_pos ns f hf
    have hfo : fromOk ns ls[i].src = !decide (ns[f].kind = 3) := by
      simp [fromOk, hfe, e2]
    have g3'' : ¬ (f : Int) < 0 := by omega
    simp [hf, nodC, g3'']
    refine brB_of (fun g5 => ?_) (fun g5 => ?_) <;> simp at g5 <;> simp [g5]
    · exact bad (by simp [hfo, g5])
    · simp [hw]
      exact next (by simp [hfo, g5, g1, g2, g4])
  · have hall : (List.range ls.length).all (lnkAt ns ls) = true := by
      rw [List.all_eq_true]
      intro k hk
      exact hj k (by simp at hk; omega)
    rw [hr, hall]
end Go.Gv

set_option linter.unusedSimpArgs false
namespace Go.Gv
theorem lowR_stab {es : List Edg} {out : List Nat} {v : Nat} (h : 0 ≤ lowR es out v) : ∀ k, lowR es out (v + k) = lowR es out v
  | 0 => rfl
  | k + 1 => by
    have ih := lowR_stab h k
    show lowR es out (v + k + 1) = _
    unfold lowR
    rw [ih, if_neg (by omega)]
    cases v with
    | zero => rfl
    | succ v => rfl
theorem lowR_m1 {es : List Edg} {out : List Nat} : ∀ {v : Nat}, lowR es out v < 0 → lowR es out v = -1
  | 0, _ => rfl
  | v + 1, h => by
    unfold lowR at h ⊢
    by_cases h1 : lowR es out v < 0
    · rw [if_pos h1] at h ⊢
      split at h
      · omega
      · rename_i h2; rw [if_neg h2]
    · rw [if_neg h1] at h; exact absurd h h1
def rOrdV (n : Nat) (es : List Edg) : D := if (ordF n es).length = n then ndD (ordF n es) else .nils
variable {C : CC} (hC : Closed prog C)
include hC
theorem rgValid_c {b : Bool} {n : Nat} {es : List Edg} (hn : n ≤ 300) (he : es.length ≤ 1000) (hg : inG n es) : C 489 [.int .i64 n, slx b (es.map edK)] (.bool true) [] := by
  refine start hC (nf := N489_ref08_Valid) rfl rfl ?_
  simp [N489_ref08_Valid]
  have a1 : ¬ (n : Int) < 0 := by omega
  have a2 : ¬ (300 : Int) < n := by omega
  have a3 : ¬ (1000 : Int) < es.length := by omega
  simp [a1, a2, a3]
  refine loop_of Nat (fun j => [(0, .int .i64 n), (1, slx b (es.map edK)), (5, .int .i64 j)]) (fun j => j ≤ es.length) (fun j => es.length - j) 0 (by simp) (by simp) ?_
  rintro j hj
  simp
  refine brB_of (fun h => ?_) (fun h => ?_) <;> simp [h] <;> simp at h
  · have hw : IntKind.wrap .i64 ((j : Int) + 1) = ((j + 1 : Nat) : Int) := wrap_i64 (by omega) (by omega)
    obtain ⟨g1, g2⟩ := hg _ (List.getElem_mem h)
    have b1 : ¬ (es[j].1 : Int) < 0 := by omega
    have b2 : ¬ (n : Int) ≤ es[j].1 := by omega
    have b3 : ¬ (es[j].2 : Int) < 0 := by omega
    have b4 : ¬ (n : Int) ≤ es[j].2 := by omega
    simp [h, edK, knD, b1, b2, b3, b4, hw, show ¬ n ≤ es[j].1 by omega, show ¬ n ≤ es[j].2 by omega]
    exact ⟨j + 1, by omega, by omega, by omega⟩
set_option maxHeartbeats 1000000 in
theorem rgOrder_c {b : Bool} {n : Nat} {es : List Edg} (hn : n ≤ 300) (he : es.length ≤ 1000) (hg : inG n es) : C 490 [.int .i64 n, slx b (es.map edK)] (.tup [rOrdV n es, .bool (decide ((ordF n es).length = n))]) [] := by
  refine start hC (nf := N490_ref08_Order) rfl rfl ?_
  simp [N490_ref08_Order]
  refine ⟨by omega, ?_⟩
  refine loop_of Nat (fun m => [(0, .int .i64 n), (1, slx b (es.map edK)), (6, .ref (.r 10096) 0 n), (10096, .blk 1 (srcsA n (ordN n es m))), (7, .ref (.r 10112) 0 m), (10112, .blk 1 (intL (ordN n es m)))]) (fun m => (ordN n es m).length = m) (fun m => n - m) 0 (by simp [ordN]) (by simp [ordN, intL, srcsA, rep_map]) ?_
  rintro m hm
  have hI := ordN_I n es m
  have hmn := hI.len
  simp
  refine brB_of (fun h => ?_) (fun h => ?_) <;> simp at h
  · simp [h]
    refine loop_of Nat (fun v => [(0, .int .i64 n), (1, slx b (es.map edK)), (6, .ref (.r 10096) 0 n), (10096, .blk 1 (srcsA n (ordN n es m))), (7, .ref (.r 10112) 0 m), (10112, .blk 1 (intL (ordN n es m))), (8, .int .i64 (lowR es (ordN n es m) v)), (9, .int .i64 v)]) (fun v => v ≤ n) (fun v => n - v) 0 (by simp) (by simp [lowR]) ?_
    rintro v hv
    simp
    by_cases g1 : v < n
    · by_cases g2 : lowR es (ordN n es m) v < 0
      · have hw : IntKind.wrap .i64 ((v : Int) + 1) = ((v + 1 : Nat) : Int) := wrap_i64 (by omega) (by omega)
        simp [g1, g2, rowW_some (srcsA_get _ g1)]
        refine brB_of (fun c => ?_) (fun c => ?_) <;> simp at c <;> simp [c]
        · have e1 : lowR es (ordN n es m) (v + 1) = -1 := by rw [lowR, if_pos g2, if_neg (by simp [c])]
          exact ⟨v + 1, by omega, by omega, by rw [e1, lowR_m1 g2], hw⟩
        · refine loop_of Nat (fun j => [(0, .int .i64 n), (1, slx b (es.map edK)), (6, .ref (.r 10096) 0 n), (10096, .blk 1 (srcsA n (ordN n es m))), (7, .ref (.r 10112) 0 m), (10112, .blk 1 (intL (ordN n es m))), (8, .int .i64 (lowR es (ordN n es m) v)), (9, .int .i64 v), (10, .bool (prT es (ordN n es m) v j)), (11, .int .i64 j)]) (fun j => j ≤ es.length) (fun j => es.length - j) 0 (by simp) (by simp [prT, prOk]) ?_
          rintro j hj
          simp
          refine brB_of (fun k => ?_) (fun k => ?_) <;> simp at k <;> simp [k]
          · have hw2 : IntKind.wrap .i64 ((j : Int) + 1) = ((j + 1 : Nat) : Int) := wrap_i64 (by omega) (by omega)
            obtain ⟨i1, i2⟩ := hg _ (List.getElem_mem k)
            have es1 := prT_succ (out := ordN n es m) (v := v) k
            have p1 : (srcsA n (ordN n es m))[es[j].1]? = some [.bool (decide (es[j].1 ∈ ordN n es m))] := srcsA_get _ i1
            by_cases k1 : es[j].2 = v
            · have k1i : (es[j].2 : Int) = v := by omega
              by_cases k2 : es[j].1 ∈ ordN n es m
              · have e3 : prT es (ordN n es m) v (j + 1) = prT es (ordN n es m) v j := by rw [es1]; simp [k2]
                simp [k, edK, knD, k1, k1i, i1, rowW_some p1, k2, hw2]
                exact ⟨j + 1, by omega, by omega, e3.symm, by omega⟩
              · have e3 : prT es (ordN n es m) v (j + 1) = false := by rw [es1]; simp [k1, k2]
                simp [k, edK, knD, k1, k1i, i1, rowW_some p1, k2, hw2]
                exact ⟨j + 1, by omega, by omega, e3, by omega⟩
            · have k1i : ¬ (es[j].2 : Int) = v := by omega
              have e3 : prT es (ordN n es m) v (j + 1) = prT es (ordN n es m) v j := by rw [es1]; simp [k1]
              simp [k, edK, knD, k1, k1i, hw2]
              exact ⟨j + 1, by omega, by omega, by rw [e3], by omega⟩
          · have ej : j = es.length := by omega
            subst ej
            rw [prT_end]
            cases hp : prOk es (ordN n es m) v
            · simp [hw]
              have e1 : lowR es (ordN n es m) (v + 1) = -1 := by rw [lowR, if_pos g2, if_neg (by simp [hp])]
              exact ⟨v + 1, by omega, by omega, by rw [e1, lowR_m1 g2], by omega⟩
            · simp [hw]
              have e1 : lowR es (ordN n es m) (v + 1) = v := by rw [lowR, if_pos g2, if_pos (by simp [hp, c])]
              exact ⟨v + 1, by omega, by omega, by rw [e1], by omega⟩
      · have e1 : lowR es (ordN n es m) n = lowR es (ordN n es m) v := by
          have := lowR_stab (es := es) (out := ordN n es m) (v := v) (by omega) (n - v)
          rwa [show v + (n - v) = n by omega] at this
        obtain ⟨i, r, e2, e3, e4⟩ := lowR_pos (v := n) (es := es) (out := ordN n es m) (by omega)
        have eN := ordN_succ e3
        have e5 : (intL (ordN n es m)).take m = intL (ordN n es m) := List.take_of_length_le (by rw [intL_len]; omega)
        rw [e1] at e2
        have hlt : ¬ (i : Int) < 0 := by omega
        have hsl : (srcsA n (ordN n es m)).length = n := by simp [srcsA]
        have hst : (srcsA n (ordN n es m)).set i [.bool true] = srcsA n (ordN n es (m + 1)) := by rw [srcsA_set, eN]
        simp [g1, e2, hlt, e4, srcsA_get _ e4, intL_len, hm]
        refine ⟨by omega, m + 1, by rw [eN]; simp [hm], by omega, ?_⟩
        rw [e5, intL_app, ← eN, hst]
        simp
    · have ev : v = n := by omega
      rw [ev]
      by_cases g2 : lowR es (ordN n es m) n < 0
      · have e3 := lowR_neg g2
        have eF := ordF_of hm e3
        simp [g2]
        rw [rOrdV, eF, hm, if_neg (by omega)]
        simp
        omega
      · obtain ⟨i, r, e2, e3, e4⟩ := lowR_pos (v := n) (es := es) (out := ordN n es m) (by omega)
        have eN := ordN_succ e3
        have e5 : (intL (ordN n es m)).take m = intL (ordN n es m) := List.take_of_length_le (by rw [intL_len]; omega)
        have hlt : ¬ (i : Int) < 0 := by omega
        have hsl : (srcsA n (ordN n es m)).length = n := by simp [srcsA]
        have hst : (srcsA n (ordN n es m)).set i [.bool true] = srcsA n (ordN n es (m + 1)) := by rw [srcsA_set, eN]
        simp [e2, hlt, e4, srcsA_get _ e4, intL_len, hm]
        refine ⟨by omega, m + 1, by rw [eN]; simp [hm], by omega, ?_⟩
        rw [e5, intL_app, ← eN, hst]
        simp
  · have em : n = m := by omega
    subst em
    have e1 : (intL (ordN n es n)).map (fun e => e.map cellV) = intL (ordN n es n) := by simp [intL, cellV]
    have e2 : (intL (ordN n es n)).take n = intL (ordN n es n) := List.take_of_length_le (by rw [intL_len]; omega)
    have e3 : (ordF n es).length = n := hm
    simp
    rw [e1, e2, rOrdV, if_pos e3, intL_len]
    exact ⟨by omega, rfl, e3⟩
theorem rgTree_c {b : Bool} {n : Nat} {es : List Edg} (hn : n ≤ 300) (he : es.length ≤ 1000) (hg : inG n es) : C 459 [.int .i64 n, slx b (es.map edK)] (.bool (treeF n es)) [] := by
  have k1 := rgValid_c hC (b := b) hn he hg
  have k2 := rgOrder_c hC (b := b) hn he hg
  obtain ⟨r, hr⟩ : ∃ r, r = treeF n es := ⟨_, rfl⟩
  rw [← hr]
  unfold treeF at hr
  refine start hC (nf := N459_ref08_Tree) rfl rfl ?_
  simp [N459_ref08_Tree]
  refine callW_of k1 (.inl rfl) ?_
  simp
  refine loop_of Nat (fun j => [(0, .int .i64 n), (1, slx b (es.map edK)), (5, .int .i64 j)]) (fun j => j ≤ es.length ∧ (srcT es j).Nodup) (fun j => es.length - j) 0 (by simp) (by simp) ?_
  rintro j ⟨hj, hnd⟩
  simp
  refine brB_of (fun h => ?_) (fun h => ?_) <;> simp [h] <;> simp at h
  · have hw : IntKind.wrap .i64 ((j : Int) + 1) = ((j + 1 : Nat) : Int) := wrap_i64 (by omega) (by omega)
    refine loop_of Nat (fun k => [(0, .int .i64 n), (1, slx b (es.map edK)), (5, .int .i64 j), (6, .int .i64 k)]) (fun k => k ≤ j ∧ es[j].1 ∉ srcT es k) (fun k => j - k) 0 (by simp) (by simp) ?_
    rintro k ⟨hk, hnk⟩
    simp
    refine brB_of (fun g => ?_) (fun g => ?_) <;> simp [g] <;> simp at g
    · have hw2 : IntKind.wrap .i64 ((k : Int) + 1) = ((k + 1 : Nat) : Int) := wrap_i64 (by omega) (by omega)
      have hkl : k < es.length := by omega
      simp [h, hkl, edK, knD]
      refine ⟨indW_of (by decide +kernel), ?_⟩
      refine brB_of (fun c => ?_) (fun c => ?_) <;> simp at c <;> simp [c]
      · have c' : es[j].1 = es[k].1 := by omega
        have hbad : ¬ (srcT es (j + 1)).Nodup := by
          rw [srcT_succ h, List.nodup_append]
          rintro ⟨_, _, h3⟩
          refine h3 es[k].1 ?_ _ (by simp) c'.symm
          unfold srcT
          rw [List.mem_map]
          exact ⟨es[k], by rw [List.mem_take_iff_getElem]; exact ⟨k, by omega, rfl⟩, rfl⟩
        simp [hr, srcT_nd hbad]
      · have c' : ¬ es[j].1 = es[k].1 := by omega
        simp [hw2]
        refine ⟨k + 1, ⟨by omega, ?_⟩, by omega, by omega⟩
        rw [srcT_succ hkl]
        simp [hnk, c']
    · have ek : k = j := by omega
      subst ek
      have hnd2 : (srcT es (k + 1)).Nodup := by
        rw [srcT_succ h, List.nodup_append]
        refine ⟨hnd, by simp, fun a ha b hb => ?_⟩
        simp at hb
        subst hb
        rintro rfl
        exact hnk ha
      simp [hw]
      exact ⟨k + 1, ⟨by omega, hnd2⟩, by omega, by omega⟩
  · have ej : j = es.length := by omega
    rw [ej, srcT_end] at hnd
    refine callW_of k2 (.inr rfl) ?_
    unfold rOrdV ndD
    split <;> simp [hr, hnd]
theorem rTree_c (b1 b2 : Bool) (ns : List Nod) (ls : List Lnk) : C 427 [.agg [slx b1 (ns.map nodC), slx b2 (ls.map lnkC)]] (.bool (treeN ns ls)) [] := by
  have k1 := rValid_c hC b1 b2 ns ls
  obtain ⟨r, hr⟩ : ∃ r, r = treeN ns ls := ⟨_, rfl⟩
  rw [← hr]
  unfold treeN at hr
  refine start hC (nf := N427_ref30_Tree) rfl rfl ?_
  simp [N427_ref30_Tree]
  refine callW_of k1 (.inl rfl) ?_
  cases hv : netOk ns ls
  · simp [hr, hv]
  obtain ⟨l1, l2⟩ := netOk_len hv
  have k2 := rEdges_c hC b1 b2 ns ls hv
  have k3 := rgTree_c hC (b := false) (n := ns.length) (es := edgN ns ls) l1 (by rw [edgN_len]; omega) (edgN_in hv)
  rw [hv, Bool.true_and] at hr
  simp
  refine loop_of Nat (fun j => [(1, .ptr [slx b1 (ns.map nodC), slx b2 (ls.map lnkC)]), (3, .int .i64 j)]) (fun j => j ≤ ls.length ∧ ∀ k, (h : k < ls.length) → k < j → ls[k].kind = 1) (fun j => ls.length - j) 0 (by simp) (by simp) ?_
  rintro j ⟨hj, hok⟩
  simp
  refine brB_of (fun h => ?_) (fun h => ?_) <;> simp [h] <;> simp at h
  · have hw : IntKind.wrap .i64 ((j : Int) + 1) = ((j + 1 : Nat) : Int) := wrap_i64 (by omega) (by omega)
    simp [h, lnkC]
    refine brB_of (fun c => ?_) (fun c => ?_) <;> simp at c <;> simp [c]
    · have : ls.all (fun l => decide (l.kind = 1)) = false := by
        rw [List.all_eq_false]
        exact ⟨ls[j], List.getElem_mem h, by simpa using c⟩
      rw [this] at hr
      simpa using hr
    · simp [hw]
      refine ⟨j + 1, ⟨by omega, fun k hk1 hk2 => ?_⟩, by omega, by omega⟩
      rcases Nat.lt_succ_iff_lt_or_eq.1 hk2 with h2 | rfl
      · exact hok k hk1 h2
      · exact c
  · have hall : ls.all (fun l => decide (l.kind = 1)) = true := by
      rw [List.all_eq_true]
      intro l hl
      obtain ⟨k, hk, rfl⟩ := List.mem_iff_getElem.1 hl
      simpa using hok k hk (by omega)
    rw [hall, Bool.true_and] at hr
    refine callW_of k2 (.inr rfl) ?_
    simp at k3 ⊢
    refine callW_of k3 (.inl rfl) ?_
    simp
    exact ⟨indW_of (by decide +kernel), hr.symm⟩
end Go.Gv

set_option linter.unusedSimpArgs false
namespace Go.Gv
def catValid (l : List Sec) : Bool := decide (l.length ≤ 40) && l.all secValid && decide ((l.map (·.name)).Nodup)
def namesK (l : List Sec) : List D := ((l.map (·.name)).reverse).map D.str
theorem mpGet_set : ∀ (xs : List (List UInt8)) (n : Nat), n = xs.length → ∀ s, (mpGet (xs.map D.str) (List.replicate n (.bool true)) (.str s)).getD (.bool false) = .bool (decide (s ∈ xs))
  | [], n, h, s => by simp [mpGet]
  | x :: xs, n, h, s => by
    obtain ⟨m, rfl⟩ : ∃ m, n = m + 1 := ⟨n - 1, by simp at h; omega⟩
    have ih := mpGet_set xs m (by simpa using h) s
    simp only [List.map_cons, List.replicate_succ, mpGet, eqD, eqD1, decide_eq_true_eq]
    by_cases e : s = x
    · subst e; simp
    · rw [if_neg e, ih]; simp [e]
variable {C : CC} (hC : Closed prog C)
include hC
theorem catValid_c (b : Bool) (l : List Sec) : C 44 [slx b (l.map secC)] (.bool (catValid l)) [] := by
  refine start hC (nf := N44_catalogue_Valid) rfl rfl ?_
  simp [N44_catalogue_Valid]
  refine brB_of (fun h => ?_) (fun h => ?_) <;> simp at h
  · simp [catValid]; omega
  simp
  refine loop_of Nat (fun i => [(3, .mrf 10144), (10144, .mp 0 1 (namesK (l.take i)) (List.replicate i (.bool true))), (10, slx b (l.map secC)), (11, .int .i64 l.length), (12, .int .i64 i)])
    (fun i => i ≤ l.length ∧ (∀ x ∈ l.take i, secValid x = true) ∧ ((l.map (·.name)).take i).Nodup) (fun i => l.length - i) 0 (by simp) (by simp [namesK]) ?_
  rintro i ⟨hi, hv, hn⟩
  simp
  refine brB_of (fun h3 => ?_) (fun h3 => ?_) <;> simp at h3
  · have ht : l.take (i + 1) = l.take i ++ [l[i]] := List.take_succ_eq_append_getElem h3
    have hg := mpGet_set ((l.take i).map (·.name)).reverse i (by simp; omega) l[i].name
    rw [show ((l.take i).map (·.name)).reverse.map D.str = namesK (l.take i) from rfl] at hg
    have hk : D.str l[i].name :: namesK (l.take i) = namesK (l.take (i + 1)) := by
      rw [namesK, namesK, ht]
      simp only [List.map_append, List.map_cons, List.map_nil, List.reverse_append, List.reverse_cons, List.reverse_nil, List.nil_append, List.cons_append]
    have hlen : (namesK (l.take i)).length < maxLen := by
      have : (namesK (l.take i)).length ≤ 40 := by simp [namesK]; omega
      unfold maxLen; omega
    have hw : IntKind.wrap .i64 ((i : Int) + 1) = ((i + 1 : Nat) : Int) := wrap_i64 (by omega) (by omega)
    have bad1 : secValid l[i] = false → catValid l = false := fun e => by
      simp only [catValid, Bool.and_eq_false_iff, List.all_eq_false]
      exact .inl (.inr ⟨l[i], List.getElem_mem h3, by simp [e]⟩)
    have h5 : (l.map (·.name)).take (i + 1) = (l.map (·.name)).take i ++ [l[i].name] := by
      rw [List.take_succ_eq_append_getElem (by simpa using h3)]; simp
    have bad2 : l[i].name ∈ (l.map (·.name)).take i → catValid l = false := fun e => by
      simp only [catValid, Bool.and_eq_false_iff, decide_eq_false_iff_not]
      right
      intro hnd
      have h6 := (List.take_sublist (i + 1) _).nodup hnd
      rw [h5, List.nodup_append] at h6
      exact h6.2.2 _ e _ (by simp) rfl
    simp [h3, secC]
    have hvc := valid_c hC l[i]
    rw [secC] at hvc
    refine callW_of hvc (.inl rfl) ?_
    cases hvi : secValid l[i]
    · simp [bad1 hvi]
    · have hnm : l[i].name.length ≤ maxLen := by
        simp only [secValid, isName, Bool.and_eq_true, decide_eq_true_eq] at hvi
        unfold maxLen; omega
      simp [hg, hnm]
      refine brB_of (fun h4 => ?_) (fun h4 => ?_) <;> simp [h4] <;> simp at h4
      · exact bad2 h4
      · simp [hlen, hnm, hw]
        refine ⟨i + 1, ⟨by omega, ?_, ?_⟩, by omega, ⟨hk, ?_⟩, rfl⟩
        · intro x hx
          rw [ht] at hx
          rcases List.mem_append.1 hx with hx | hx
          · exact hv x hx
          · simp at hx; subst hx; exact hvi
        · rw [h5, List.nodup_append]
          refine ⟨hn, by simp, fun a ha b hb => ?_⟩
          simp at hb
          subst hb
          rintro rfl
          exact h4 ha
        · rw [List.replicate_succ]
  · have hil : i = l.length := by omega
    subst hil
    rw [List.take_of_length_le (by simp)] at hn
    simp at hv
    simp [catValid, hn]
    exact ⟨by omega, hv⟩
end Go.Gv

set_option linter.unusedSimpArgs false
namespace Go.Gv
variable {C : CC} (hC : Closed prog C)
include hC
theorem rfits_c (b : Bool) (t : List (Int × Int)) (hgt most : Int) : C 55 [slx b (t.map knD), .int .i64 hgt, .int .i64 most] (.bool (curveOk t hgt most)) [] := by
  refine start hC (nf := N55_ref28_fits) rfl rfl ?_
  simp [N55_ref28_fits]
  refine callW_of (rTable_c hC b t) (.inl rfl) ?_
  cases hv : tableValid t
  · simp [curveOk, hv]
  obtain ⟨l1, l2⟩ := valid_len hv
  obtain ⟨n, hn⟩ : ∃ n, n + 1 = t.length := ⟨t.length - 1, by omega⟩
  have e1 : IntKind.wrap .i64 ((t.length : Int) - 1) = (n : Int) := wrap_i64 (by omega) (by omega)
  have hnl : n < t.length := by omega
  have h0 : 0 < t.length := by omega
  have e0 : t[0]! = t[0] := getElem!_pos t 0 h0
  simp [e1, hnl, h0, knD]
  rw [curveOk, lastK_get hn, e0, hv]
  refine brB_of (fun c => ?_) (fun c => ?_) <;> simp [h0, knD] at c <;> simp [c, h0, hnl, knD]
  refine brB_of (fun c2 => ?_) (fun c2 => ?_) <;> simp [h0, knD] at c2 <;> simp [c2, h0, hnl, knD]
  refine brB_of (fun c3 => ?_) (fun c3 => ?_) <;> simp [h0, knD] at c3 <;> simp [c3, h0, hnl, knD]
  exact fun _ => ⟨c, c2⟩
theorem rRight_c (s : Sec) : C 48 [.agg (secC s)] (.bool (secValid s)) [] := by
  refine start hC (nf := N48_ref28_Right) rfl rfl ?_
  simp [N48_ref28_Right, secC]
  refine callW_of (rIsName_c hC s.name) (.inl rfl) ?_
  cases h1 : isName s.name
  · simp [secValid, h1]
  simp
  refine brB_of (fun c1 => ?_) (fun c1 => ?_) <;> simp [c1] <;> simp at c1
  · simp [secValid]; omega
  refine brB_of (fun c2 => ?_) (fun c2 => ?_) <;> simp [c2] <;> simp at c2
  · simp [secValid]; omega
  refine brB_of (fun c3 => ?_) (fun c3 => ?_) <;> simp [c3] <;> simp at c3
  · simp [secValid]; omega
  refine brB_of (fun c4 => ?_) (fun c4 => ?_) <;> simp [c4] <;> simp at c4
  · simp [secValid]; omega
  refine callW_of (rfits_c hC _ _ _ _) (.inl rfl) ?_
  cases h5 : curveOk s.area s.height 1073741824
  · simp [secValid, h5]
  simp
  refine callW_of (rfits_c hC _ _ _ _) (.inl rfl) ?_
  have d1 : 1 ≤ s.height := by omega
  simp [secValid, h1, d1, c2, c3, c4, h5]
end Go.Gv

set_option linter.unusedSimpArgs false
namespace Go.Gv
structure Job where
  below : SlI
  lengths : SlI
  flows : SlI
  falls : SlI
  room : SlI
  secN : Bool
  secs : List Sec
  deriving Inhabited
def jobC (j : Job) : List D := [slI j.below, slI j.lengths, slI j.flows, slI j.falls, slI j.room, slx j.secN (j.secs.map secC)]
def manySec (s : Sec) : Bool := decide (20 < s.area.length) || decide (20 < s.conv.length) || decide (60 < s.name.length)
def manyF (l : List Sec) : Bool := decide (8 < l.length) || l.any manySec
def largeF (j : Job) : Bool := decide (12 < j.below.l.length) || decide (12 < j.lengths.l.length) || decide (12 < j.flows.l.length) || decide (12 < j.falls.l.length) || decide (12 < j.room.l.length) || manyF j.secs
def inR (n a b : Int) : Bool := a ≤ n && n ≤ b
def pipeOk (j : Job) (i : Nat) : Bool := (j.below.l[i]! == -1 || (decide ((i : Int) < j.below.l[i]!) && decide (j.below.l[i]! < j.below.l.length))) && inR j.lengths.l[i]! 1 16777216 && inR j.flows.l[i]! 0 1099511627776 && inR j.falls.l[i]! 0 4194304 && inR j.room.l[i]! 0 4194304
def jobValid (j : Job) : Bool := decide (j.below.l.length ≤ 400) && decide (j.lengths.l.length = j.below.l.length) && decide (j.flows.l.length = j.below.l.length) && decide (j.falls.l.length = j.below.l.length) && decide (j.room.l.length = j.below.l.length) && decide (0 < j.secs.length) && catValid j.secs && (List.range j.below.l.length).all (pipeOk j)
@[simp] theorem slI_slx {x : SlI} : slI x = slx x.n (x.l.map fun n => [.int .i64 n]) := _root_.id rfl
variable {C : CC} (hC : Closed prog C)
include hC
end Go.Gv

set_option linter.unusedSimpArgs false
namespace Go.Gv
def nameIs (nm : List UInt8) (s : Sec) : Bool := s.name == nm
theorem catValid_iff (l : List Sec) : catValid l = true ↔ l.length ≤ 40 ∧ (∀ (i : Nat) (h : i < l.length), secValid l[i] = true ∧ idxD (nameIs l[i].name) l = i) := by
  simp only [catValid, Bool.and_eq_true, decide_eq_true_eq, List.all_eq_true]
  constructor
  · rintro ⟨⟨h1, h2⟩, h3⟩
    refine ⟨h1, fun i h => ⟨h2 _ (List.getElem_mem h), ?_⟩⟩
    refine idxD_step (fun k hk hki => ?_) h (by simp [nameIs])
    rw [nameIs, beq_eq_false_iff_ne]
    intro e
    exact List.pairwise_iff_getElem.1 h3 k i (by simpa using hk) (by simpa using h) hki (by simpa using e)
  · rintro ⟨h1, h2⟩
    refine ⟨⟨h1, fun x hx => ?_⟩, ?_⟩
    · obtain ⟨i, h, rfl⟩ := List.getElem_of_mem hx
      exact (h2 i h).1
    · refine List.pairwise_iff_getElem.2 fun a b ha hb hab e => ?_
      simp only [List.length_map] at ha hb
      simp only [List.getElem_map] at e
      have h3 := (h2 b hb).2
      have h4 : ∃ k, k ≤ a ∧ idxD (nameIs l[b].name) l = (k : Int) := by
        unfold idxD
        cases hf : l.findIdx? (nameIs l[b].name) with
        | none =>
          rw [List.findIdx?_eq_none_iff] at hf
          have := hf l[a] (List.getElem_mem _)
          simp [nameIs, e] at this
        | some k =>
          refine ⟨k, ?_, rfl⟩
          rw [List.findIdx?_eq_some_iff_getElem] at hf
          obtain ⟨q1, q2, q3⟩ := hf
          rcases Nat.lt_or_ge a k with hak | hak
          · exact absurd (by simp [nameIs, e]) (q3 a hak)
          · exact hak
      obtain ⟨k, h5, h6⟩ := h4
      omega
variable {C : CC} (hC : Closed prog C)
include hC
theorem rFind_c (b : Bool) (l : List Sec) (nm : List UInt8) (hl : l.length < 2 ^ 62) : C 49 [slx b (l.map secC), .str nm] (.int .i64 (idxD (nameIs nm) l)) [] := by
  refine start hC (nf := N49_ref28_Find) rfl rfl ?_
  simp [N49_ref28_Find]
  refine loop_of Nat (fun i => [(0, slx b (l.map secC)), (1, .str nm), (5, .int .i64 i)]) (fun i => i ≤ l.length ∧ ∀ (k : Nat) (h : k < l.length), k < i → nameIs nm l[k] = false) (fun i => l.length - i) 0 (by simp) (by simp) ?_
  rintro i ⟨hi, hj⟩
  simp
  refine brB_of (fun h => ?_) (fun h => ?_) <;> simp at h <;> simp [h]
  · have hw : IntKind.wrap .i64 ((i : Int) + 1) = ((i + 1 : Nat) : Int) := wrap_i64 (by omega) (by omega)
    simp [h, secC]
    refine brB_of (fun h2 => ?_) (fun h2 => ?_) <;> simp at h2 <;> simp [h2, hw]
    · rw [idxD_step hj h (by simp [nameIs, h2])]
    · refine ⟨i + 1, ⟨by omega, fun k hk hki => ?_⟩, by omega, by simp⟩
      rcases Nat.lt_succ_iff_lt_or_eq.1 hki with h5 | rfl
      · exact hj k hk h5
      · simp [nameIs, h2]
  · rw [idxD_none (fun k hk => hj k hk (by omega))]
theorem rcat_c (b : Bool) (l : List Sec) : C 33 [slx b (l.map secC)] (.bool (catValid l)) [] := by
  refine start hC (nf := N33_ref28_Valid) rfl rfl ?_
  simp [N33_ref28_Valid]
  refine brB_of (fun h => ?_) (fun h => ?_) <;> simp at h
  · simp [catValid]; omega
  simp
  have hcv := catValid_iff l
  refine loop_of Nat (fun i => [(0, slx b (l.map secC)), (3, .int .i64 i)]) (fun i => i ≤ l.length ∧ ∀ (k : Nat) (h : k < l.length), k < i → secValid l[k] = true ∧ idxD (nameIs l[k].name) l = k) (fun i => l.length - i) 0 (by simp) (by simp) ?_
  rintro i ⟨hi, hj⟩
  simp
  refine brB_of (fun h3 => ?_) (fun h3 => ?_) <;> simp at h3 <;> simp [h3]
  · have hw : IntKind.wrap .i64 ((i : Int) + 1) = ((i + 1 : Nat) : Int) := wrap_i64 (by omega) (by omega)
    have bad : ¬ (secValid l[i] = true ∧ idxD (nameIs l[i].name) l = i) → catValid l = false := fun e => by
      rw [← Bool.not_eq_true]
      exact fun e2 => e ((hcv.1 e2).2 i h3)
    have hr := rRight_c hC l[i]
    have hf := rFind_c hC b l l[i].name (by omega)
    simp [h3, secC]
    simp [secC] at hr
    refine callW_of hr (.inl rfl) ?_
    cases hs : secValid l[i]
    · simp
      exact bad (by simp [hs])
    simp [h3, secC]
    refine callW_of hf (.inl rfl) ?_
    simp
    refine brB_of (fun h4 => ?_) (fun h4 => ?_) <;> simp at h4 <;> simp [h4]
    · exact bad (fun e => h4 e.2)
    · simp [hw]
      refine ⟨i + 1, ⟨by omega, fun k hk hki => ?_⟩, by omega, by simp⟩
      rcases Nat.lt_succ_iff_lt_or_eq.1 hki with h5 | rfl
      · exact hj k hk h5
      · exact ⟨hs, h4⟩
  · rw [hcv.2 ⟨by omega, fun k hk => hj k hk (by omega)⟩]
end Go.Gv

set_option linter.unusedSimpArgs false
namespace Go.Gv
open Go.Lib
variable {C : CC} (hC : Closed prog C)
include hC
theorem rSize_c (n : Nat) (h : n < 9223372036854775808) : C 86 [.int .i64 n] (.int .u64 (n : Int)) [] := by
  refine start hC (nf := N86_ref03_Size) rfl rfl ?_
  simp [N86_ref03_Size, wrapN n (by omega)]
  refine brB_of (fun h1 => ?_) (fun h1 => ?_) <;> simp at h1 <;> simp [h1, wrapN n (by omega)]
  omega
theorem rLess_c (a b c d : Nat) : C 87 [.agg [.int .u64 a, .int .u64 b], .agg [.int .u64 c, .int .u64 d]] (.bool (decide (a < c ∨ (a = c ∧ b < d)))) [] := by
  refine start hC (nf := N87_ref03_Less) rfl rfl ?_
  simp [N87_ref03_Less]
  refine brB_of (fun h => ?_) (fun h => ?_) <;> simp at h <;> simp [h]
  have h3 : ¬ a < c := by omega
  refine brB_of (fun h2 => ?_) (fun h2 => ?_) <;> simp at h2 <;> simp [h2, h3]
  · have h4 : a = c := by omega
    simp [h4]
  · omega
theorem rMinus_c (a b c d p q : Nat) (ha : a < 18446744073709551616) (hb : b < 18446744073709551616) (hd : d < 18446744073709551616) (hq : q < 18446744073709551616) (h : p * 18446744073709551616 + q + (c * 18446744073709551616 + d) = a * 18446744073709551616 + b) : C 95 [.agg [.int .u64 a, .int .u64 b], .agg [.int .u64 c, .int .u64 d]] (.agg [.int .u64 p, .int .u64 q]) [] := by
  refine start hC (nf := N95_ref03_Minus) rfl rfl ?_
  simp [N95_ref03_Minus]
  have e3 : IntKind.u64.wrap ((b : Int) - (d : Int)) = (q : Int) := uw (by omega) hq
  refine brB_of (fun h1 => ?_) (fun h1 => ?_) <;> simp at h1 <;> simp [h1, e3]
  · have e1 : IntKind.u64.wrap ((a : Int) - (c : Int)) = ((p + 1 : Nat) : Int) := uw (by omega) (by omega)
    rw [e1]
    exact uw (by omega) (by omega)
  · exact uw (by omega) (by omega)
theorem rShift_c (a b w t p q : Nat) (hb : b < 18446744073709551616) (hw : w ≤ 1) (hp : p < 18446744073709551616) (hq : q < 18446744073709551616) (ht : (a * 18446744073709551616 + b) * 2 + w = (t * 18446744073709551616 + p) * 18446744073709551616 + q) : C 94 [.agg [.int .u64 a, .int .u64 b], .int .u64 w] (.agg [.int .u64 p, .int .u64 q]) [] := by
  refine start hC (nf := N94_ref03_Shift) rfl rfl ?_
  simp [N94_ref03_Shift]
  obtain ⟨a2, ha2⟩ : ∃ a2, a2 = a * 2 % 18446744073709551616 := ⟨_, rfl⟩
  obtain ⟨b2, hb2⟩ : ∃ b2, b2 = b * 2 % 18446744073709551616 := ⟨_, rfl⟩
  obtain ⟨c, hc⟩ : ∃ c, c = b / 9223372036854775808 := ⟨_, rfl⟩
  rw [shr63, shl1 a a2 ha2, shl1 b b2 hb2, ← hc]
  exact ⟨uw (by omega) hp, uw (by omega) hq⟩
theorem rMul_c (x y : Nat) (hx : x < 18446744073709551616) (hy : y < 18446744073709551616) : C 85 [.int .u64 x, .int .u64 y] (wideD (x * y)) [] := by
  refine start hC (nf := N85_ref03_Mul) rfl rfl ?_
  obtain ⟨bd, bt, bw, hhi⟩ := Lib.mul64_hi x y hx hy
  have ba := Lib.half_mul_le (a := x / 4294967296) (b := y / 4294967296) (by omega) (by omega)
  have bb := Lib.half_mul_le (a := x / 4294967296) (b := y % 4294967296) (by omega) (by omega)
  have bc := Lib.half_mul_le (a := x % 4294967296) (b := y / 4294967296) (by omega) (by omega)
  have hxy : x * y = x / 4294967296 * (y / 4294967296) * 18446744073709551616 + (x / 4294967296 * (y % 4294967296) + x % 4294967296 * (y / 4294967296)) * 4294967296 + x % 4294967296 * (y % 4294967296) := by
    have e1 : x = x / 4294967296 * 4294967296 + x % 4294967296 := by omega
    have e2 : y = y / 4294967296 * 4294967296 + y % 4294967296 := by omega
    generalize x / 4294967296 = ah at *
    generalize x % 4294967296 = al at *
    generalize y / 4294967296 = bh at *
    generalize y % 4294967296 = bl at *
    rw [e1, e2, Nat.add_mul, Nat.mul_add, Nat.mul_add, Nat.add_mul]
    rw [show ah * 4294967296 * (bh * 4294967296) = ah * bh * 18446744073709551616 by rw [Nat.mul_assoc, Nat.mul_left_comm 4294967296, ← Nat.mul_assoc]]
    rw [show ah * 4294967296 * bl = ah * bl * 4294967296 by rw [Nat.mul_right_comm], show al * (bh * 4294967296) = al * bh * 4294967296 by rw [Nat.mul_assoc]]
    omega
  obtain ⟨P, hP⟩ : ∃ P, P = x / 4294967296 * (y / 4294967296) := ⟨_, rfl⟩
  obtain ⟨Q, hQ⟩ : ∃ Q, Q = x / 4294967296 * (y % 4294967296) := ⟨_, rfl⟩
  obtain ⟨R, hR⟩ : ∃ R, R = x % 4294967296 * (y / 4294967296) := ⟨_, rfl⟩
  obtain ⟨L, hL⟩ : ∃ L, L = x % 4294967296 * (y % 4294967296) := ⟨_, rfl⟩
  obtain ⟨Z, hZ⟩ : ∃ Z, Z = x * y := ⟨_, rfl⟩
  rw [← hP, ← hQ, ← hR, ← hL, ← hZ] at hxy
  rw [← hP] at ba
  rw [← hQ] at bb
  rw [← hR] at bc
  rw [← hL] at bd
  obtain ⟨zh, hzh⟩ : ∃ zh, zh = Z / 18446744073709551616 := ⟨_, rfl⟩
  obtain ⟨zl, hzl⟩ : ∃ zl, zl = Z % 18446744073709551616 := ⟨_, rfl⟩
  rw [← hZ, wideD, ← hzh, ← hzl]
  simp [N85_ref03_Mul]
  simp only [maskN x hx, maskN y hy, shr32, mulN, ← hP, ← hQ, ← hR, ← hL, wrapN L bd, wrapN P (by omega), wrapN Q (by omega), wrapN R (by omega), addN]
  obtain ⟨M, hM⟩ : ∃ M, M = Q + L / 4294967296 := ⟨_, rfl⟩
  have hM1 : M < 18446744073709551616 := by omega
  rw [← hM, wrapN M hM1, shr32, maskN M hM1, maskN L bd, addN]
  obtain ⟨O, hO⟩ : ∃ O, O = R + M % 4294967296 := ⟨_, rfl⟩
  have hO1 : O < 18446744073709551616 := by omega
  obtain ⟨O2, hO2⟩ : ∃ O2, O2 = O * 4294967296 % 18446744073709551616 := ⟨_, rfl⟩
  simp only [addN R, ← hO, wrapN O hO1, shr32, shl32 O O2 hO2]
  rw [wrapN (P + M / 4294967296) (by omega), addN, addN, wrapN _ (by omega), wrapN _ (by omega)]
  clear hP hQ hR hL hZ bt bw hhi
  exact ⟨by omega, by omega⟩
end Go.Gv

set_option linter.unusedSimpArgs false
namespace Go.Gv
def DvS (x b i a q r : Nat) : Prop := i ≤ 128 ∧ r < b ∧ ∃ c, a = c * 2 ^ i ∧ c < 2 ^ (128 - i) ∧ (q * b + r) * 2 ^ (128 - i) + c = x
theorem DvS.step {x b i a q r : Nat} (h : DvS x b i a q r) (hi : i < 128) (hb : 0 < b) :
    a < 340282366920938463463374607431768211456 ∧ 2 * q ≤ x ∧
    ∀ w r' a', 2 * r + a / 170141183460469231731687303715884105728 = w * b + r' → r' < b → a' = 2 * a % 340282366920938463463374607431768211456 → DvS x b (i + 1) a' (2 * q + w) r' ∧ 2 * q + w ≤ x := by
  obtain ⟨_, hr, c, h1, h2, h3⟩ := h
  obtain ⟨m, hm⟩ : ∃ m, m + 1 = 128 - i := ⟨127 - i, by omega⟩
  have hm2 : m = 128 - (i + 1) := by omega
  rw [← hm, Nat.pow_succ] at h2 h3
  obtain ⟨V, hV⟩ : ∃ V, V = 2 ^ m := ⟨_, rfl⟩
  obtain ⟨W, hW⟩ : ∃ W, W = 2 ^ i := ⟨_, rfl⟩
  have hVW : V * W = 170141183460469231731687303715884105728 := by
    rw [hV, hW, ← Nat.pow_add, show m + i = 127 by omega]
  have hVp : 0 < V := by rw [hV]; exact Nat.two_pow_pos m
  rw [← hV] at h2 h3
  rw [← hW] at h1
  obtain ⟨t, ht⟩ : ∃ t, t = c / V := ⟨_, rfl⟩
  obtain ⟨d, hd⟩ : ∃ d, d = c % V := ⟨_, rfl⟩
  have hc : c = t * V + d := by rw [ht, hd, Nat.mul_comm]; exact (Nat.div_add_mod c V).symm
  have hdV : d < V := by rw [hd]; exact Nat.mod_lt _ hVp
  have ht1 : t ≤ 1 := by
    have : t < 2 := by rw [ht, Nat.div_lt_iff_lt_mul hVp]; omega
    omega
  have ha : a = t * 170141183460469231731687303715884105728 + d * W := by
    rw [h1, hc, Nat.add_mul, Nat.mul_assoc, hVW]
  have hdW : d * W < 170141183460469231731687303715884105728 := by
    have : (d + 1) * W ≤ V * W := Nat.mul_le_mul_right _ hdV
    rw [hVW, Nat.add_mul] at this
    have hWp : 0 < W := by rw [hW]; exact Nat.two_pow_pos i
    omega
  have hbit : a / 170141183460469231731687303715884105728 = t := by
    rw [ha]; generalize d * W = z at *; omega
  have fin : ∀ w r', 2 * r + t = w * b + r' → ((2 * q + w) * b + r') * V + d = x := fun w r' e => by
    have e1 : (2 * q + w) * b + r' = 2 * (q * b + r) + t := by
      rw [Nat.add_mul, Nat.mul_assoc]
      generalize q * b = z at *
      generalize w * b = z' at *
      omega
    rw [e1, ← h3, hc, Nat.add_mul, Nat.mul_comm V 2, ← Nat.mul_assoc, Nat.mul_comm (q * b + r) 2]
    omega
  have big : ∀ w r', 2 * r + t = w * b + r' → 2 * q + w ≤ x := fun w r' e => by
    have e1 := fin w r' e
    have e2 : 2 * q + w ≤ (2 * q + w) * b := Nat.le_mul_of_pos_right _ hb
    have e3 : (2 * q + w) * b + r' ≤ ((2 * q + w) * b + r') * V := Nat.le_mul_of_pos_right _ hVp
    omega
  refine ⟨?_, ?_, ?_⟩
  · rw [ha]; generalize d * W = z at *; omega
  · exact Nat.le_trans (Nat.le_add_right _ _) (big _ _ (Nat.div_add_mod' (2 * r + t) b).symm)
  · intro w r' a' e hr' ha'
    rw [hbit] at e
    refine ⟨⟨by omega, hr', d, ?_, ?_, ?_⟩, big w r' e⟩
    · rw [ha', ha, Nat.pow_succ, ← hW, Nat.mul_comm W 2, Nat.mul_left_comm]
      generalize d * W = z at *
      omega
    · rw [← hm2, ← hV]; exact hdV
    · rw [← hm2, ← hV]; exact fin w r' e
theorem DvS.last {x b a q r : Nat} (h : DvS x b 128 a q r) : q = x / b ∧ r = x % b := by
  obtain ⟨_, hr, c, h1, h2, h3⟩ := h
  simp at h2 h3
  subst h2
  simp at h3
  subst h3
  have hb : 0 < b := by omega
  rw [Nat.mul_comm, Nat.mul_add_div hb, Nat.div_eq_of_lt hr, Nat.mul_add_mod, Nat.mod_eq_of_lt hr]
  exact ⟨rfl, rfl⟩
variable {C : CC} (hC : Closed prog C)
include hC
theorem rMade_c (a b : Nat) : C 84 [.agg [.int .u64 a, .int .u64 b], .bool false] (.agg [.int .u64 a, .int .u64 b, .bool false]) [] := by
  refine start hC (nf := N84_ref03_Made) rfl rfl ?_
  simp [N84_ref03_Made]
  exact indW_of (by decide +kernel)
theorem rOfInt_c (n : Nat) (h : n < 9223372036854775808) : C 68 [.int .i64 n] (.agg [.int .u64 0, .int .u64 n, .bool false]) [] := by
  refine start hC (nf := N68_ref03_OfInt) rfl rfl ?_
  simp [N68_ref03_OfInt]
  refine callW_of (rSize_c hC n h) (.inl rfl) ?_
  have hm := rMade_c hC 0 n
  have h0 : ¬ (n : Int) < 0 := by omega
  simp [h0]
  refine callW_of hm (.inl rfl) ?_
  simp
theorem rTimes_c (x y : Nat) (hx : x < 9223372036854775808) (hy : y < 9223372036854775808) : C 67 [.int .i64 x, .int .i64 y] (.agg [.int .u64 ((x * y / 18446744073709551616 : Nat) : Int), .int .u64 ((x * y % 18446744073709551616 : Nat) : Int), .bool false]) [] := by
  refine start hC (nf := N67_ref03_Times) rfl rfl ?_
  have h0 : ¬ (x : Int) < 0 := by omega
  have h1 : ¬ (y : Int) < 0 := by omega
  have hm := rMul_c hC x y (by omega) (by omega)
  rw [wideD] at hm
  obtain ⟨zh, hzh⟩ : ∃ zh, zh = x * y / 18446744073709551616 := ⟨_, rfl⟩
  obtain ⟨zl, hzl⟩ : ∃ zl, zl = x * y % 18446744073709551616 := ⟨_, rfl⟩
  rw [← hzh, ← hzl] at hm ⊢
  simp [N67_ref03_Times]
  refine callW_of (rSize_c hC x hx) (.inl rfl) ?_
  simp
  refine callW_of (rSize_c hC y hy) (.inl rfl) ?_
  simp
  refine callW_of hm (.inl rfl) ?_
  simp [h0, h1]
  refine callW_of (rMade_c hC zh zl) (.inl rfl) ?_
  simp
set_option maxHeartbeats 2000000 in
theorem rDiv_c (x b : Nat) (hx : x < 340282366920938463463374607431768211456) (hb0 : 0 < b) (hb : b < 9223372036854775808) : C 82 [.agg [.int .u64 ((x / 18446744073709551616 : Nat) : Int), .int .u64 ((x % 18446744073709551616 : Nat) : Int)], .agg [.int .u64 0, .int .u64 b]]
    (.tup [.agg [.int .u64 ((x / b / 18446744073709551616 : Nat) : Int), .int .u64 ((x / b % 18446744073709551616 : Nat) : Int)], .agg [.int .u64 0, .int .u64 ((x % b : Nat) : Int)]]) [] := by
  obtain ⟨xh, hxh⟩ : ∃ xh, xh = x / 18446744073709551616 := ⟨_, rfl⟩
  obtain ⟨xl, hxl⟩ : ∃ xl, xl = x % 18446744073709551616 := ⟨_, rfl⟩
  obtain ⟨yh, hyh⟩ : ∃ yh, yh = x / b / 18446744073709551616 := ⟨_, rfl⟩
  obtain ⟨yl, hyl⟩ : ∃ yl, yl = x / b % 18446744073709551616 := ⟨_, rfl⟩
  obtain ⟨z, hz⟩ : ∃ z, z = x % b := ⟨_, rfl⟩
  rw [← hxh, ← hxl, ← hyh, ← hyl, ← hz]
  refine start hC (nf := N82_ref03_Div) rfl rfl ?_
  simp [N82_ref03_Div]
  refine loop_of (Nat × Nat × Nat × Nat × Nat × Nat) (fun s => [(2, .adr (.r 10032) 0 0), (3, .ptr [.int .u64 0, .int .u64 b]), (4, .adr (.r 10064) 0 0), (5, .adr (.r 10080) 0 0), (6, .adr (.r 10096) 0 0), (7, .adr (.r 10112) 0 0), (8, .int .i64 s.1),
      (10032, .blk 2 [[.int .u64 s.2.1, .int .u64 s.2.2.1]]), (10064, .blk 2 [[.int .u64 0, .int .u64 0]]), (10080, .blk 2 [[.int .u64 0, .int .u64 0]]), (10096, .blk 2 [[.int .u64 s.2.2.2.1, .int .u64 s.2.2.2.2.1]]), (10112, .blk 2 [[.int .u64 0, .int .u64 s.2.2.2.2.2]])])
    (fun s => s.2.2.1 < 18446744073709551616 ∧ s.2.2.2.2.1 < 18446744073709551616 ∧ DvS x b s.1 (s.2.1 * 18446744073709551616 + s.2.2.1) (s.2.2.2.1 * 18446744073709551616 + s.2.2.2.2.1) s.2.2.2.2.2) (fun s => 128 - s.1) (0, xh, xl, 0, 0, 0) ⟨by simp; omega, by simp, by omega, by simpa using hb0, x, by simp; omega, by simp; exact hx, by simp⟩ (by simp) ?_
  rintro ⟨i, ah, al, qh, ql, r⟩ ⟨hal, hql, hS⟩
  simp only at hal hql hS
  simp
  refine brB_of (fun c => ?_) (fun c => ?_) <;> simp at c <;> simp [c]
  · have hrb := hS.2.1
    have hw1 : IntKind.wrap .i64 ((i : Int) + 1) = ((i + 1 : Nat) : Int) := wrap_i64 (by omega) (by omega)
    obtain ⟨g1, g2, g3⟩ := hS.step (by omega) hb0
    obtain ⟨A, hA⟩ : ∃ A, A = ah * 18446744073709551616 + al := ⟨_, rfl⟩
    obtain ⟨Q, hQ⟩ : ∃ Q, Q = qh * 18446744073709551616 + ql := ⟨_, rfl⟩
    rw [← hA] at g1 g3
    rw [← hQ] at g2 g3
    obtain ⟨t, ht⟩ : ∃ t, t = ah / 9223372036854775808 := ⟨_, rfl⟩
    have ht2 : A / 170141183460469231731687303715884105728 = t := by omega
    rw [ht2] at g3
    obtain ⟨p, hp⟩ : ∃ p, p = 2 * A % 340282366920938463463374607431768211456 / 18446744073709551616 := ⟨_, rfl⟩
    obtain ⟨o, ho⟩ : ∃ o, o = 2 * A % 340282366920938463463374607431768211456 % 18446744073709551616 := ⟨_, rfl⟩
    have k1 := rShift_c hC ah al 0 t p o (by omega) (by omega) (by omega) (by omega) (by omega)
    have k2 := rShift_c hC 0 r t 0 0 (2 * r + t) (by omega) (by omega) (by omega) (by omega) (by omega)
    obtain ⟨u, hu⟩ : ∃ u, u = 2 * Q / 18446744073709551616 := ⟨_, rfl⟩
    obtain ⟨v, hv⟩ : ∃ v, v = 2 * Q % 18446744073709551616 := ⟨_, rfl⟩
    have k3 := rShift_c hC qh ql 0 0 u v (by omega) (by omega) (by omega) (by omega) (by omega)
    obtain ⟨r2, hr2⟩ : ∃ r2, r2 = 2 * r + t := ⟨_, rfl⟩
    rw [← hr2] at k2 g3
    have k4 := rLess_c hC 0 r2 0 b
    simp only [Int.natCast_zero] at k1 k2 k3 k4
    have hsh : Int.fdiv (ah : Int) (2 ^ min 63 IntKind.u64.bits) = (t : Int) := by rw [shr63, ht]
    have hsh0 : Int.fdiv 0 (2 ^ min 63 IntKind.u64.bits) = 0 := by simpa using shr63 0
    have e1 : p * 18446744073709551616 + o = 2 * A % 340282366920938463463374607431768211456 := by rw [hp, ho]; exact Nat.div_add_mod' _ _
    have e2 : u * 18446744073709551616 + v = 2 * Q := by rw [hu, hv]; exact Nat.div_add_mod' _ _
    simp [hsh]
    refine callW_of k1 (.inl rfl) ?_
    simp [hsh0]
    refine callW_of k2 (.inl rfl) ?_
    simp
    refine callW_of k3 (.inl rfl) ?_
    simp
    refine callW_of k4 (.inl rfl) ?_
    simp
    refine brB_of (fun d => ?_) (fun d => ?_) <;> simp at d <;> simp [d, hw1]
    · obtain ⟨r3, hr3⟩ : ∃ r3, r3 = r2 - b := ⟨_, rfl⟩
      have k5 := rMinus_c hC 0 r2 0 b 0 r3 (by omega) (by omega) (by omega) (by omega) (by clear g3 hp ho hu hv g1 g2 hx k1 k2 k3 k4 e1 e2; omega)
      simp only [Int.natCast_zero] at k5
      obtain ⟨m1, m2⟩ := g3 1 r3 (2 * A % 340282366920938463463374607431768211456) (by omega) (by omega) rfl
      have hve : v % 2 = 0 ∧ v < 18446744073709551616 := by
        clear g3 m1 m2 k1 k2 k3 k4 k5 hS e1 e2 hp ho g1 hA
        omega
      have hv1 : IntKind.u64.wrap ((v : Int) + 1) = ((v + 1 : Nat) : Int) := uw (.inl (by push_cast; rfl)) (by clear g3 m1 m2 hp ho hu hv; omega)
      refine callW_of k5 (.inl rfl) ?_
      simp [hv1, hw1]
      refine ⟨i + 1, p, o, u, v + 1, r3, ⟨by clear g3 m1 m2 hu hv; omega, by clear g3 m1 m2 hp ho hu hv; omega, ?_⟩, by omega, ?_⟩
      · rw [e1, ← Nat.add_assoc, e2]; exact m1
      · simp
    · obtain ⟨m1, m2⟩ := g3 0 r2 (2 * A % 340282366920938463463374607431768211456) (by omega) (by omega) rfl
      refine ⟨i + 1, p, o, u, v, r2, ⟨by omega, by omega, ?_⟩, by omega, ?_⟩
      · rw [e1, e2]; exact m1
      · simp
  · obtain rfl : i = 128 := by have := hS.1; omega
    obtain ⟨e1, e2⟩ := hS.last
    refine ⟨indW_of (by decide +kernel), ?_⟩
    rw [← hz] at e2
    subst e2
    obtain ⟨Y, hY⟩ : ∃ Y, Y = x / b := ⟨_, rfl⟩
    rw [← hY] at e1 hyh hyl
    have e3 : qh = yh := by omega
    have e4 : ql = yl := by omega
    subst e3 e4
    simp
end Go.Gv

set_option linter.unusedSimpArgs false
namespace Go.Gv
variable {C : CC} (hC : Closed prog C)
include hC
end Go.Gv

set_option linter.unusedSimpArgs false
namespace Go.Gv
def nodA (nm : List UInt8) : Nod := { name := nm, kind := 1, x := 0, y := 0, invert := 0, ground := 1, shapeN := false, shape := [(0, 0), (1, 1)], prot := false, reserve := 0 }
def nodB (nm : List UInt8) : Nod := { name := nm, kind := 3, x := 0, y := 0, invert := 0, ground := 0, shapeN := true, shape := [], prot := false, reserve := 0 }
def pipeE (l : Lnk) (s : Sec) : Int := if linkOk l && secValid s then (if l.kind = 1 then (if l.sect = s.name then 0 else 25) else 11) else 1
variable {C : CC} (hC : Closed prog C)
include hC
end Go.Gv

set_option linter.unusedSimpArgs false
namespace Go.Gv
def enoughL (k flow len n : Nat) : Bool := decide (flow * flow * len ≤ k * k * n)
def lossN (k flow len : Nat) : Int × Int := if flow = 0 then (0, 0) else if k = 0 then (0, 16) else if enoughL k flow len 1073741824 then (bis (enoughL k flow len) 40 0 1073741824, 0) else (0, 5)
def lossF (l : Lnk) (s : Sec) (flow : Int) : Int × Int := lossN (lastK s.conv).2.toNat flow.toNat l.len.toNat
variable {C : CC} (hC : Closed prog C)
include hC
end Go.Gv

set_option linter.unusedSimpArgs false
namespace Go.Gv
def ceilN (x b : Nat) : Nat := if x % b = 0 then x / b else x / b + 1
def lostN (k f n : Nat) : Int × Int := if f = 0 then (0, 0) else if k = 0 then (0, 16) else if 1073741824 < ceilN (f * f * n) (k * k) then (0, 5) else (ceilN (f * f * n) (k * k), 0)
def lostF (l : Lnk) (s : Sec) (flow : Int) : Int × Int := lostN (lastK s.conv).2.toNat flow.toNat l.len.toNat
variable {C : CC} (hC : Closed prog C)
include hC
end Go.Gv

set_option linter.unusedSimpArgs false
namespace Go.Gv
theorem rootF_lt : ∀ (i x r : Nat), r + 2 ^ i ≤ 9223372036854775808 → rootF x i r < 9223372036854775808
  | 0, x, r, h => by simp only [rootF]; simp at h; omega
  | i + 1, x, r, h => by
    rw [rootF_step]
    have := Nat.two_pow_pos i
    rw [Nat.pow_succ] at h
    split <;> exact rootF_lt i x _ (by omega)
theorem rootN_lt (x : Nat) : rootN x < 9223372036854775808 := rootF_lt 63 x 0 (by decide)
variable {C : CC} (hC : Closed prog C)
include hC
theorem rDown_c (x b : Nat) (hx : x < 340282366920938463463374607431768211456) (hb0 : 0 < b) (hb : b < 9223372036854775808) : C 66 [.agg [.int .u64 ((x / 18446744073709551616 : Nat) : Int), .int .u64 ((x % 18446744073709551616 : Nat) : Int), .bool false], .agg [.int .u64 0, .int .u64 b, .bool false]]
    (.agg [.int .u64 ((x / b / 18446744073709551616 : Nat) : Int), .int .u64 ((x / b % 18446744073709551616 : Nat) : Int), .bool false]) [] := by
  have hd := rDiv_c hC x b hx hb0 hb
  obtain ⟨xh, hxh⟩ : ∃ xh, xh = x / 18446744073709551616 := ⟨_, rfl⟩
  obtain ⟨xl, hxl⟩ : ∃ xl, xl = x % 18446744073709551616 := ⟨_, rfl⟩
  obtain ⟨yh, hyh⟩ : ∃ yh, yh = x / b / 18446744073709551616 := ⟨_, rfl⟩
  obtain ⟨yl, hyl⟩ : ∃ yl, yl = x / b % 18446744073709551616 := ⟨_, rfl⟩
  obtain ⟨z, hz⟩ : ∃ z, z = x % b := ⟨_, rfl⟩
  rw [← hxh, ← hxl, ← hyh, ← hyl, ← hz] at hd
  rw [← hxh, ← hxl, ← hyh, ← hyl]
  refine start hC (nf := N66_ref03_Down) rfl rfl ?_
  simp [N66_ref03_Down]
  refine callW_of hd (.inr rfl) ?_
  simp
  refine callW_of (rMade_c hC yh yl) (.inl rfl) ?_
  simp
theorem rRoot_c (x : Nat) : C 69 [.agg [.int .u64 ((x / 18446744073709551616 : Nat) : Int), .int .u64 ((x % 18446744073709551616 : Nat) : Int)]] (.int .u64 (rootN x)) [] := by
  obtain ⟨h, hh⟩ : ∃ h, h = x / 18446744073709551616 := ⟨_, rfl⟩
  obtain ⟨l, hl⟩ : ∃ l, l = x % 18446744073709551616 := ⟨_, rfl⟩
  rw [← hh, ← hl]
  obtain ⟨N, hN⟩ : ∃ N, N = rootN x := ⟨_, rfl⟩
  rw [← hN]
  refine start hC (nf := N69_ref03_Root) rfl rfl ?_
  simp [N69_ref03_Root]
  refine loop_of (Nat × Nat) (fun s => [(1, .ptr [.int .u64 (h : Int), .int .u64 (l : Int)]), (3, .int .u64 s.2), (4, .int .i64 ((63 - s.1 : Nat) : Int))])
    (fun s => s.1 ≤ 63 ∧ s.2 + 2 ^ s.1 ≤ 9223372036854775808 ∧ rootF x s.1 s.2 = N) (fun s => s.1) (63, 0) ⟨by omega, by decide, by rw [hN]; rfl⟩ (by simp) ?_
  rintro ⟨i, r⟩ ⟨h1, h2, h3⟩
  simp only at h1 h2 h3
  simp
  refine brB_of (fun c => ?_) (fun c => ?_) <;> simp at c <;> simp [c]
  · obtain ⟨j, rfl⟩ : ∃ j, i = j + 1 := ⟨i - 1, by omega⟩
    have e62 : IntKind.i64.wrap (62 - ((62 - j : Nat) : Int)) = (j : Int) := wrap_i64 (by omega) (by omega)
    have ej : IntKind.u64.wrap (j : Int) = (j : Int) := wrapN j (by omega)
    have hw : IntKind.wrap .i64 (((62 - j : Nat) : Int) + 1) = ((63 - j : Nat) : Int) := wrap_i64 (by omega) (by omega)
    obtain ⟨V, hV⟩ : ∃ V, V = 2 ^ j := ⟨_, rfl⟩
    have hV2 : 2 ^ (j + 1) = 2 * V := by rw [Nat.pow_succ, hV]; omega
    rw [hV2] at h2
    have hVp : 0 < V := by rw [hV]; exact Nat.two_pow_pos j
    have hmin : min j IntKind.u64.bits = j := Nat.min_eq_left (by show j ≤ 64; omega)
    have esh : IntKind.u64.wrap (2 ^ j) = (V : Int) := by
      have : (2 : Int) ^ j = ((2 ^ j : Nat) : Int) := by push_cast; rfl
      rw [this, ← hV]; exact wrapN V (by omega)
    obtain ⟨y, hy⟩ : ∃ y, y = r + V := ⟨_, rfl⟩
    have ey : IntKind.u64.wrap ((r : Int) + (V : Int)) = (y : Int) := uw (.inl (by omega)) (by omega)
    have hm := rMul_c hC y y (by omega) (by omega)
    rw [wideD] at hm
    obtain ⟨Z, hZ⟩ : ∃ Z, Z = y * y := ⟨_, rfl⟩
    obtain ⟨zh, hzh⟩ : ∃ zh, zh = Z / 18446744073709551616 := ⟨_, rfl⟩
    obtain ⟨zl, hzl⟩ : ∃ zl, zl = Z % 18446744073709551616 := ⟨_, rfl⟩
    rw [← hZ, ← hzh, ← hzl] at hm
    have hls := rLess_c hC h l zh zl
    have hcmp : (h < zh ∨ (h = zh ∧ l < zl)) ↔ x < Z := by
      rw [hh, hl, hzh, hzl]; omega
    have hdc : decide (h < zh ∨ (h = zh ∧ l < zl)) = decide (x < Z) := decide_eq_decide.2 hcmp
    rw [hdc] at hls
    rw [rootF_step, ← hV, ← hy, ← hZ] at h3
    simp [e62, ej, hmin, esh, ey]
    refine callW_of hm (.inl rfl) ?_
    simp
    refine callW_of hls (.inl rfl) ?_
    simp
    refine ⟨indW_of (by decide +kernel), ?_⟩
    by_cases d : x < Z
    · simp [d, hw]
      rw [if_neg (show ¬ Z ≤ x by omega)] at h3
      exact ⟨j, r, ⟨by omega, by rw [← hV]; omega, h3⟩, by omega, rfl, rfl⟩
    · simp [d, hw]
      rw [if_pos (show Z ≤ x by omega)] at h3
      exact ⟨j, y, ⟨by omega, by rw [← hV]; omega, h3⟩, by omega, rfl, rfl⟩
  · obtain rfl : i = 0 := by omega
    have h4 : r = N := h3
    rw [h4]
theorem rRoot3_c (a b n : Nat) (ha : a < 9223372036854775808) (hb : b < 9223372036854775808) (hn : 0 < n) (hn2 : n < 9223372036854775808) : C 57 [.int .i64 a, .int .i64 b, .int .i64 n] (.int .i64 (rootN (a * b / n))) [] := by
  have hab : a * b < 340282366920938463463374607431768211456 := by
    have : a * b ≤ 9223372036854775808 * 9223372036854775808 := Nat.mul_le_mul (by omega) (by omega)
    omega
  have h1 := rTimes_c hC a b ha hb
  have h2 := rDown_c hC (a * b) n hab hn hn2
  have h3 := rRoot_c hC (a * b / n)
  have h4 := rootN_lt (a * b / n)
  obtain ⟨P, hP⟩ : ∃ P, P = a * b := ⟨_, rfl⟩
  rw [← hP] at h1 h2 h3 h4 ⊢
  obtain ⟨p, hp⟩ : ∃ p, p = P / 18446744073709551616 := ⟨_, rfl⟩
  obtain ⟨q, hq⟩ : ∃ q, q = P % 18446744073709551616 := ⟨_, rfl⟩
  rw [← hp, ← hq] at h1 h2
  obtain ⟨Q, hQ⟩ : ∃ Q, Q = P / n := ⟨_, rfl⟩
  rw [← hQ] at h2 h3 h4 ⊢
  obtain ⟨u, hu⟩ : ∃ u, u = Q / 18446744073709551616 := ⟨_, rfl⟩
  obtain ⟨v, hv⟩ : ∃ v, v = Q % 18446744073709551616 := ⟨_, rfl⟩
  rw [← hu, ← hv] at h2 h3
  obtain ⟨N, hN⟩ : ∃ N, N = rootN Q := ⟨_, rfl⟩
  rw [← hN] at h3 h4 ⊢
  refine start hC (nf := N57_ref28_Root) rfl rfl ?_
  have hw : IntKind.i64.wrap (N : Int) = (N : Int) := wrap_i64 rfl (by omega)
  simp [N57_ref28_Root]
  refine callW_of h1 (.inl rfl) ?_
  simp
  refine callW_of (rOfInt_c hC n hn2) (.inl rfl) ?_
  simp
  refine callW_of h2 (.inl rfl) ?_
  simp
  refine callW_of h3 (.inl rfl) ?_
  simp [hw]
end Go.Gv

set_option linter.unusedSimpArgs false
namespace Go.Gv
def valF (t : List (Int × Int)) (x : Int) : Int :=
  if posK t (x + 1) = 0 then t[0]!.2 else if posK t (x + 1) = t.length then t[posK t (x + 1) - 1]!.2 else (betK t[posK t (x + 1) - 1]! t[posK t (x + 1)]! x).1
theorem posK_next {t : List (Int × Int)} (hv : tableValid t = true) (x : Int) : posK t (x + 1) = if atK t x then posK t x + 1 else posK t x := by
  have h1 := posK_le t x
  have h2 := posK_le t (x + 1)
  cases ha : atK t x
  · rw [if_neg (by simp)]
    apply Nat.le_antisymm
    · by_cases hl : posK t x < t.length
      · have h3 := posK_ge hl
        have e : t[posK t x]! = t[posK t x] := getElem!_pos t _ hl
        simp only [atK, hl, decide_true, Bool.true_and, decide_eq_false_iff_not, e] at ha
        exact posK_of_le hl (by omega)
      · omega
    · apply Nat.le_of_not_lt
      intro h
      have h4 := posK_ge (t := t) (x := x + 1) (by omega)
      have h5 := posK_lt (t := t) (x := x) h (by omega)
      omega
  · rw [if_pos rfl]
    have hl : posK t x < t.length := by simp [atK] at ha; exact ha.1
    have e : t[posK t x]! = t[posK t x] := getElem!_pos t _ hl
    simp only [atK, hl, decide_true, Bool.true_and, decide_eq_true_eq, e] at ha
    apply Nat.le_antisymm
    · by_cases hl2 : posK t x + 1 < t.length
      · have := valid_asc hv (posK t x) (posK t x + 1) hl2 (by omega)
        exact posK_of_le hl2 (by omega)
      · omega
    · have := posK_of_lt hv (x := x + 1) hl (by omega)
      omega
theorem pieceF_at {t : List (Int × Int)} {x : Int} (h : atK t x = true ∨ posK t x = 0) : (pieceF t x).1 = t[posK t x]!.2 := by
  unfold pieceF; rw [if_pos (by rcases h with h | h <;> simp [h])]
theorem pieceF_end {t : List (Int × Int)} {x : Int} (h : ¬ atK t x = true) (h0 : ¬ posK t x = 0) (h1 : posK t x = t.length) : (pieceF t x).1 = t[posK t x - 1]!.2 := by
  unfold pieceF; rw [if_neg (by simp [h, h0]), if_pos h1]
theorem pieceF_bet {t : List (Int × Int)} {x : Int} (h : ¬ atK t x = true) (h0 : ¬ posK t x = 0) (h1 : ¬ posK t x = t.length) : (pieceF t x).1 = (betK t[posK t x - 1]! t[posK t x]! x).1 := by
  unfold pieceF; rw [if_neg (by simp [h, h0]), if_neg h1]
theorem valF_eq {t : List (Int × Int)} (hv : tableValid t = true) (x : Int) : valF t x = (pieceF t x).1 := by
  obtain ⟨l1, l2⟩ := valid_len hv
  have hn := posK_next hv x
  unfold valF
  by_cases ha : atK t x = true
  · rw [if_pos ha] at hn
    rw [pieceF_at (.inl ha)]
    have hl : posK t x < t.length := by simp [atK] at ha; exact ha.1
    have e : t[posK t x]! = t[posK t x] := getElem!_pos t _ hl
    simp only [atK, hl, decide_true, Bool.true_and, decide_eq_true_eq, e] at ha
    rw [hn, if_neg (by omega), Nat.add_sub_cancel, e]
    by_cases h1 : posK t x + 1 = t.length
    · rw [if_pos h1]
    · rw [if_neg h1]
      simp only [betK, ha, Int.sub_self, Int.mul_zero, Int.zero_ediv, Int.add_zero]
  · rw [if_neg ha] at hn
    rw [hn]
    by_cases h0 : posK t x = 0
    · rw [if_pos h0, pieceF_at (.inr h0), h0]
    · rw [if_neg h0]
      by_cases h1 : posK t x = t.length
      · rw [if_pos h1, pieceF_end ha h0 h1]
      · rw [if_neg h1, pieceF_bet ha h0 h1]
variable {C : CC} (hC : Closed prog C)
include hC
theorem rbeforeG_c (b : Bool) (t : List (Int × Int)) (x : Int) (hv : tableValid t = true) : C 80 [slx b (t.map knD), .int .i64 x] (.int .i64 ((posK t (x + 1) : Int) - 1)) [] := by
  obtain ⟨l1, l2⟩ := valid_len hv
  have hpl := posK_le t (x + 1)
  have hlt : ∀ j, (hj : j < t.length) → t[j].1 ≤ x → j < posK t (x + 1) := fun j hj h1 => posK_of_lt hv hj (by omega)
  have hge : ∀ j, (hj : j < t.length) → ¬ t[j].1 ≤ x → posK t (x + 1) ≤ j := fun j hj h1 => posK_of_le hj (by omega)
  obtain ⟨p, hp⟩ : ∃ p, p = posK t (x + 1) := ⟨_, rfl⟩
  rw [← hp] at hpl ⊢
  simp only [← hp] at hlt hge
  refine start hC (nf := N80_ref06_before) rfl rfl ?_
  simp [N80_ref06_before]
  refine loop_of Nat (fun i => [(0, slx b (t.map knD)), (1, .int .i64 x), (5, .int .i64 (((if i ≤ p then i else p : Nat) : Int) - 1)), (6, .int .i64 i)]) (fun i => i ≤ t.length) (fun i => t.length - i) 0 (by simp) (by simp) ?_
  rintro i hi
  simp
  refine brB_of (fun h1 => ?_) (fun h1 => ?_) <;> simp at h1 <;> simp [h1]
  · have hw : IntKind.wrap .i64 ((i : Int) + 1) = ((i + 1 : Nat) : Int) := wrap_i64 (by omega) (by omega)
    simp [h1, knD]
    refine brB_of (fun h2 => ?_) (fun h2 => ?_) <;> simp at h2 <;> simp [h2, hw]
    · have := hlt i h1 h2
      exact ⟨i + 1, by omega, by omega, by rw [if_pos (by omega)]; omega, by omega⟩
    · have := hge i h1 (by omega)
      refine ⟨i + 1, by omega, by omega, ?_, by omega⟩
      rw [if_neg (show ¬ i + 1 ≤ p by omega)]
      split <;> omega
  · split <;> omega
theorem rIsInt_c (q : Nat) (h : q < 9223372036854775808) : C 93 [.agg [.int .u64 0, .int .u64 q, .bool false]] (.tup [.int .i64 q, .bool true]) [] := by
  have e1 : IntKind.i64.wrap (q : Int) = (q : Int) := wrap_i64 rfl (by omega)
  have e2 : (q : Int) < 9223372036854775808 := by omega
  refine start hC (nf := N93_ref03_IsInt) rfl rfl ?_
  simp [N93_ref03_IsInt, e1, e2]
  exact indW_of (by decide +kernel)
theorem rFloorOf_c (u a d : Nat) (hu : u < 9223372036854775808) (ha : a < 9223372036854775808) (hd0 : 0 < d) (hd : d < 9223372036854775808) (hq : u * a / d < 9223372036854775808) : C 81 [.int .i64 u, .int .i64 a, .int .i64 d] (.int .i64 (u * a / d : Nat)) [] := by
  have hx : u * a < 340282366920938463463374607431768211456 := by
    have := Nat.mul_le_mul (show u ≤ 9223372036854775808 by omega) (show a ≤ 9223372036854775808 by omega)
    omega
  have k1 := rTimes_c hC u a hu ha
  have k2 := rOfInt_c hC d hd
  have k3 := rDown_c hC (u * a) d hx hd0 hd
  have k4 := rIsInt_c hC (u * a / d) hq
  obtain ⟨q, e⟩ : ∃ q, q = u * a / d := ⟨_, rfl⟩
  obtain ⟨xh, hxh⟩ : ∃ z, z = u * a / 18446744073709551616 := ⟨_, rfl⟩
  obtain ⟨xl, hxl⟩ : ∃ z, z = u * a % 18446744073709551616 := ⟨_, rfl⟩
  rw [← e] at k3 k4 hq ⊢
  rw [← hxh, ← hxl] at k1 k3
  rw [show q / 18446744073709551616 = 0 by omega, show q % 18446744073709551616 = q by omega] at k3
  clear hx hq
  simp only [Int.natCast_zero] at k3
  refine start hC (nf := N81_ref03_FloorOf) rfl rfl ?_
  simp [N81_ref03_FloorOf]
  refine callW_of k1 (.inr rfl) ?_
  simp
  refine callW_of k2 (.inr rfl) ?_
  simp
  refine callW_of k3 (.inr rfl) ?_
  simp
  refine callW_of k4 (.inl rfl) ?_
  simp
set_option maxRecDepth 8000 in
set_option maxHeartbeats 2000000 in
theorem rValueG_c (b : Bool) (t : List (Int × Int)) (x : Int) (hv : tableValid t = true) : ∃ y z : Int, C 65 [slx b (t.map knD), .int .i64 x] (.tup [.int .i64 (valF t x), .int .i64 y, .int .i64 z]) [] := by
  obtain ⟨l1, l2⟩ := valid_len hv
  have hb := rbeforeG_c hC b t x hv
  have hpl := posK_le t (x + 1)
  have hn := posK_next hv x
  obtain ⟨r, hr⟩ : ∃ r, r = valF t x := ⟨_, rfl⟩
  rw [← hr]
  unfold valF at hr
  have hw : IntKind.i64.wrap ((t.length : Int) - 1) = (t.length : Int) - 1 := wrap_i64 rfl (by omega)
  have st : ∀ y z : Int, (∀ K : Prop, K → K) → True := fun _ _ _ => trivial
  by_cases h0 : posK t (x + 1) = 0
  · refine ⟨0, 1, ?_⟩
    rw [if_pos h0] at hr
    rw [h0] at hb
    have hl0 : 0 < t.length := by omega
    have e0 : t[0]! = t[0] := getElem!_pos t 0 hl0
    rw [e0] at hr
    refine start hC (nf := N65_ref06_Value) rfl rfl ?_
    simp [N65_ref06_Value]
    refine callW_of hb (.inl rfl) ?_
    simp [hl0, knD, hr]
  rw [if_neg h0] at hr
  obtain ⟨k, hk⟩ : ∃ k, posK t (x + 1) = k + 1 := ⟨posK t (x + 1) - 1, by omega⟩
  have hkl : k < t.length := by omega
  have e1 : t[k]! = t[k] := getElem!_pos t k hkl
  have h2 : ¬ (k : Int) < 0 := by omega
  rw [hk] at hb
  simp only [hk, Nat.add_sub_cancel, e1] at hr
  have e2 : ((k + 1 : Nat) : Int) - 1 = (k : Int) := by omega
  rw [e2] at hb
  by_cases h1 : k + 1 = t.length
  · refine ⟨0, 1, ?_⟩
    rw [if_pos h1] at hr
    have h3 : (k : Int) = (t.length : Int) - 1 := by omega
    refine start hC (nf := N65_ref06_Value) rfl rfl ?_
    simp [N65_ref06_Value]
    refine callW_of hb (.inl rfl) ?_
    have hw' : IntKind.i64.wrap ((t.length : Int) - 1) = (k : Int) := wrap_i64 (by omega) (by omega)
    simp [h2, hw', hkl, knD, hr]
  · rw [if_neg h1] at hr
    have hkl2 : k + 1 < t.length := by omega
    have e3 : t[k + 1]! = t[k + 1] := getElem!_pos t (k + 1) hkl2
    rw [e3] at hr
    have f7 := (valid_ok hv hkl2).2.2 k rfl
    have f1 := (valid_ok hv hkl).1
    have f2 := (valid_ok hv hkl).2.1
    have f4 := (valid_ok hv hkl2).1
    have f5 := (valid_ok hv hkl2).2.1
    simp only [fits, Bool.and_eq_true, decide_eq_true_eq] at f1 f2 f4 f5
    have hx1 : t[k].1 < x + 1 := posK_lt (by omega) hkl
    have hx2 : x + 1 ≤ t[k + 1].1 := by
      have := posK_ge (t := t) (x := x + 1) (by omega)
      simp only [hk] at this
      exact this
    obtain ⟨u, hu⟩ : ∃ u : Nat, t[k + 1].2 - t[k].2 = u := ⟨(t[k + 1].2 - t[k].2).toNat, by omega⟩
    obtain ⟨a, ha⟩ : ∃ a : Nat, x - t[k].1 = a := ⟨(x - t[k].1).toNat, by omega⟩
    obtain ⟨d, hd⟩ : ∃ d : Nat, t[k + 1].1 - t[k].1 = d := ⟨(t[k + 1].1 - t[k].1).toNat, by omega⟩
    rw [betN hu ha hd] at hr
    simp only at hr
    have b5 : u * a / d ≤ u := by
      have h1 : u * a ≤ u * d := Nat.mul_le_mul_left _ (by omega)
      have h1' : u * d = d * u := Nat.mul_comm _ _
      exact Nat.le_of_lt_succ (Nat.div_lt_of_lt_mul (by rw [Nat.succ_eq_add_one, Nat.mul_add]; omega))
    have kf := rFloorOf_c hC u a d (by omega) (by omega) (by omega) (by omega) (by omega)
    obtain ⟨q, hq⟩ : ∃ q, q = u * a / d := ⟨_, rfl⟩
    rw [← hq] at kf hr b5
    have w1 : IntKind.i64.wrap ((k : Int) + 1) = ((k + 1 : Nat) : Int) := wrap_i64 (by omega) (by omega)
    have w2 : IntKind.i64.wrap (t[k + 1].2 - t[k].2) = (u : Int) := wrap_i64 hu (by omega)
    have w3 : IntKind.i64.wrap (t[k + 1].1 - t[k].1) = (d : Int) := wrap_i64 hd (by omega)
    have w4 : IntKind.i64.wrap (x - t[k].1) = (a : Int) := wrap_i64 ha (by omega)
    have w5 : IntKind.i64.wrap (t[k].2 + (q : Int)) = t[k].2 + (q : Int) := wrap_i64 rfl (by omega)
    have h4 : ¬ (k : Int) = (t.length : Int) - 1 := by omega
    refine ⟨IntKind.i64.wrap (IntKind.i64.wrap ((u : Int) * (a : Int)) - IntKind.i64.wrap ((q : Int) * (d : Int))), (d : Int), ?_⟩
    refine start hC (nf := N65_ref06_Value) rfl rfl ?_
    simp [N65_ref06_Value]
    refine callW_of hb (.inl rfl) ?_
    simp [h2, hw, h4, w1, hkl, hkl2, knD]
    refine ⟨by omega, indW_of (by decide +kernel), by omega, indW_of (by decide +kernel), ?_⟩
    rw [w2, w3, w4]
    refine callW_of kf (.inl rfl) ?_
    simp [hkl, knD, w5, hr]
    exact ⟨indW_of (by decide +kernel), by rw [w4]⟩
theorem rFloorG_c (b : Bool) (t : List (Int × Int)) (x : Int) (hv : tableValid t = true) : C 56 [slx b (t.map knD), .int .i64 x] (.int .i64 (pieceF t x).1) [] := by
  obtain ⟨y, z, h⟩ := rValueG_c hC b t x hv
  rw [valF_eq hv] at h
  refine start hC (nf := N56_ref06_Floor) rfl rfl ?_
  simp [N56_ref06_Floor]
  refine callW_of h (.inl rfl) ?_
  simp
end Go.Gv

set_option linter.unusedSimpArgs false
namespace Go.Gv
def depthR (s : Sec) (flow fall len : Int) : Int × Int :=
  if secValid s then (if 0 ≤ flow ∧ flow ≤ 1099511627776 ∧ slopeOk fall len = true then (if (carF s s.height fall len : Int) < flow then (0, 28) else (bis (enoughD s flow fall len) 40 0 s.height.toNat, 0)) else (0, 2)) else (0, 1)
variable {C : CC} (hC : Closed prog C)
include hC
theorem rSlope_c (n l : Int) : C 202 [.int .i64 n, .int .i64 l] (.bool (slopeOk n l)) [] := by
  refine start hC (nf := N202_ref28_Slope) rfl rfl ?_
  simp [N202_ref28_Slope, slopeOk]
  refine brB_of (fun h => ?_) (fun h => ?_) <;> simp at h <;> simp [h]
  · refine brB_of (fun h2 => ?_) (fun h2 => ?_) <;> simp at h2 <;> simp [h2]
    · refine brB_of (fun h3 => ?_) (fun h3 => ?_) <;> simp at h3 <;> simp [h3] <;> omega
    · omega
  · omega
theorem rCarriedG_c (s : Sec) (depth fall len : Int) (hs : secValid s = true) (hsl : slopeOk fall len = true) : C 50 [.agg (secC s), .int .i64 depth, .int .i64 fall, .int .i64 len] (.int .i64 (carF s depth fall len)) [] := by
  obtain ⟨h1, _, _, _⟩ := conv_last hs
  obtain ⟨h3, h4⟩ := conv_any hs depth
  have hf := rFloorG_c hC s.convN s.conv depth h1
  obtain ⟨y, hy⟩ : ∃ y : Nat, (pieceF s.conv depth).1 = (y : Int) := ⟨(pieceF s.conv depth).1.toNat, by omega⟩
  simp only [slopeOk, Bool.and_eq_true, decide_eq_true_eq] at hsl
  obtain ⟨f, rfl⟩ : ∃ f : Nat, fall = (f : Int) := ⟨fall.toNat, by omega⟩
  obtain ⟨n, rfl⟩ : ∃ n : Nat, len = (n : Int) := ⟨len.toNat, by omega⟩
  rw [carF, hy, Int.toNat_natCast, Int.toNat_natCast, Int.toNat_natCast, Nat.mul_assoc]
  rw [hy] at hf h3 h4
  have hyf : y * f ≤ 1099511627776 * 4194304 := Nat.mul_le_mul (by omega) (by omega)
  have hr := rRoot3_c hC y (y * f) n (by omega) (by omega) (by omega) (by omega)
  have hw : IntKind.i64.wrap ((y : Int) * (f : Int)) = ((y * f : Nat) : Int) := wrap_i64 (by push_cast; rfl) (by omega)
  obtain ⟨N, hN⟩ : ∃ N, N = rootN (y * (y * f) / n) := ⟨_, rfl⟩
  rw [← hN] at hr ⊢
  obtain ⟨g, hg⟩ : ∃ g, g = y * f := ⟨_, rfl⟩
  rw [← hg] at hr hw
  refine start hC (nf := N50_ref28_Carried) rfl rfl ?_
  simp [N50_ref28_Carried, secC]
  refine callW_of hf (.inl rfl) ?_
  simp [hw]
  refine callW_of hr (.inl rfl) ?_
  simp
end Go.Gv

set_option linter.unusedSimpArgs false
namespace Go.Gv
def mxI (a b : Int) : Int := if a < b then b else a
def fallF (l : Lnk) : Int := if 4194304 < l.up - l.down then 4194304 else l.up - l.down
def lowB (l : Lnk) (s : Sec) (flow level : Int) : Bool := decide (level < l.down + s.height) && (decide ((fullF s (fallF l) l.len).2 = 5) || (decide ((fullF s (fallF l) l.len).2 = 0) && decide (flow ≤ (fullF s (fallF l) l.len).1)))
def highF (l : Lnk) (s : Sec) (flow level : Int) : Int × Int :=
  if (lossF l s flow).2 = 0 then (if 1099511627776 < mxI (l.up + s.height) (level + (lossF l s flow).1) then (0, 5) else (mxI (l.up + s.height) (level + (lossF l s flow).1), 0)) else (0, (lossF l s flow).2)
def lowF (l : Lnk) (s : Sec) (flow level : Int) : Int × Int :=
  if (depthF s flow (fallF l) l.len).2 = 0 then (mxI (l.up + (depthF s flow (fallF l) l.len).1) level, 0) else (0, (depthF s flow (fallF l) l.len).2)
def aboveF (l : Lnk) (s : Sec) (flow level : Int) : Int × Int := if lowB l s flow level then lowF l s flow level else highF l s flow level
def upF (l : Lnk) (s : Sec) (flow level : Int) : Int × Int :=
  if pipeE l s = 0 then (if l.up < l.down then (0, 23) else if lowHigh flow 0 1099511627776 && lowHigh level (-4194304) 1099511627776 then aboveF l s flow level else (0, 2)) else (0, pipeE l s)
def lossU (l : Lnk) (s : Sec) (flow : Int) : Int × Int :=
  if pipeE l s = 0 then (if lowHigh flow 0 1099511627776 then lossF l s flow else (0, 2)) else (0, pipeE l s)
variable {C : CC} (hC : Closed prog C)
include hC
end Go.Gv

set_option linter.unusedSimpArgs false
namespace Go.Gv
def grI (a b : Int) : Int := if b < a then a else b
def givenE (l : Lnk) (s : Sec) : Int := if linkR l && secValid s then (if l.kind = 1 then (if l.sect = s.name then 0 else 25) else 11) else 1
def highR (l : Lnk) (s : Sec) (flow level : Int) : Int × Int :=
  if (lostF l s flow).2 = 0 then (if 1099511627776 < grI (l.up + s.height) (level + (lostF l s flow).1) then (0, 5) else (grI (l.up + s.height) (level + (lostF l s flow).1), 0)) else (0, (lostF l s flow).2)
def aboveR (l : Lnk) (s : Sec) (flow level : Int) : Int × Int :=
  if (depthR s flow (fallF l) l.len).2 = 0 ∧ level < l.down + s.height then (grI (l.up + (depthR s flow (fallF l) l.len).1) level, 0) else highR l s flow level
def upR (l : Lnk) (s : Sec) (flow level : Int) : Int × Int :=
  if givenE l s = 0 then (if l.up < l.down then (0, 23) else if lowHigh flow 0 1099511627776 && lowHigh level (-4194304) 1099511627776 then aboveR l s flow level else (0, 2)) else (0, givenE l s)
def lossR (l : Lnk) (s : Sec) (flow : Int) : Int × Int :=
  if givenE l s = 0 then (if lowHigh flow 0 1099511627776 then lostF l s flow else (0, 2)) else (0, givenE l s)
variable {C : CC} (hC : Closed prog C)
include hC
theorem rFall_c (l : Lnk) (h : -9223372036854775808 ≤ l.up - l.down ∧ l.up - l.down < 9223372036854775808) : C 196 [.agg (lnkC l)] (.int .i64 (fallF l)) [] := by
  have w : IntKind.wrap .i64 (l.up - l.down) = l.up - l.down := wrap_i64 rfl h
  refine start hC (nf := N196_ref30_Fall) rfl rfl ?_
  simp [N196_ref30_Fall, lnkC, w, fallF]
  refine brB_of (fun h => ?_) (fun h => ?_) <;> simp at h <;> simp [h]
  rw [w, if_neg (by omega)]
end Go.Gv

set_option linter.unusedSimpArgs false
namespace Go.Gv
def secI (ss : List Sec) (nm : List UInt8) : Int := idxD (nameIs nm) ss
def findF (ss : List Sec) (nm : List UInt8) : Int × Int := if catValid ss then (if 0 ≤ secI ss nm then (secI ss nm, 0) else (0, 9)) else (0, 1)
def noSec (ss : List Sec) (l : Lnk) : Bool := decide (secI ss l.sect < 0)
def uphill (l : Lnk) : Bool := decide (l.up < l.down)
def pipE (ls : List Lnk) (ss : List Sec) : Int := if ls.any (noSec ss) then 9 else if ls.any uphill then 23 else 0
def givE (ns : List Nod) (ls : List Lnk) (ss : List Sec) (q : List Sp) (count : Int) : Int := if treeN ns ls && catValid ss then (if spsE q count = 0 then pipE ls ss else spsE q count) else 1
structure PipOk (ss : List Sec) (l : Lnk) : Prop where
  idx : ∃ k, secI ss l.sect = (k : Nat) ∧ k < ss.length
  le : l.down ≤ l.up
  up : -4194304 ≤ l.up ∧ l.up ≤ 4194304
  down : -4194304 ≤ l.down ∧ l.down ≤ 4194304
  len : 1 ≤ l.len ∧ l.len ≤ 16777216
theorem treeN_lnk {ns : List Nod} {ls : List Lnk} (h : treeN ns ls = true) {l : Lnk} (hl : l ∈ ls) : lvlOk l.up = true ∧ lvlOk l.down = true ∧ lowHigh l.len 1 16777216 = true ∧ isName l.sect = true := by
  simp only [treeN, Bool.and_eq_true, List.all_eq_true, decide_eq_true_eq] at h
  obtain ⟨⟨hv, hk⟩, _⟩ := h
  obtain ⟨i, hi, rfl⟩ := List.getElem_of_mem hl
  have h1 := (netOk_lnk hv hi).1
  have h2 := hk _ hl
  simp only [linkOk, kindOk, h2, if_true, Bool.and_eq_true] at h1
  exact ⟨h1.1.1.2, h1.2.1.2, h1.2.1.1, h1.2.2⟩
theorem pipE_ok {ns : List Nod} {ls : List Lnk} {ss : List Sec} (ht : treeN ns ls = true) (h : pipE ls ss = 0) : ∀ l ∈ ls, PipOk ss l := by
  intro l hl
  obtain ⟨a, b, c, _⟩ := treeN_lnk ht hl
  simp only [lvlOk, lowHigh, Bool.and_eq_true, decide_eq_true_eq] at a b c
  unfold pipE at h
  split at h
  · cases h
  rename_i h1
  split at h
  · cases h
  rename_i h2
  simp only [Bool.not_eq_true, List.any_eq_false, noSec, uphill, decide_eq_true_eq] at h1 h2
  have e1 := h1 l hl
  have e2 := h2 l hl
  have hi : 0 ≤ secI ss l.sect := by omega
  refine ⟨⟨(secI ss l.sect).toNat, by omega, idxD_lt hi⟩, by omega, a, b, c⟩
theorem PipOk.fall {ss : List Sec} {l : Lnk} (h : PipOk ss l) : slopeOk (fallF l) l.len = true := by
  have := h.le; have := h.len; have := h.up; have := h.down
  by_cases h : 4194304 < l.up - l.down <;> simp [slopeOk, fallF, h] <;> omega
theorem givE_ok {ns : List Nod} {ls : List Lnk} {ss : List Sec} {q : List Sp} {count : Int} (h : givE ns ls ss q count = 0) : treeN ns ls = true ∧ catValid ss = true ∧ spsE q count = 0 ∧ pipE ls ss = 0 := by
  unfold givE at h
  split at h
  · rename_i h1
    simp only [Bool.and_eq_true] at h1
    split at h
    · rename_i h2
      exact ⟨h1.1, h1.2, h2, h⟩
    · rename_i h2
      exact absurd h h2
  · cases h
theorem catValid_sec {ss : List Sec} (h : catValid ss = true) {k : Nat} (hk : k < ss.length) : secValid ss[k] = true := ((catValid_iff ss).1 h).2 k hk |>.1
theorem catValid_len {ss : List Sec} (h : catValid ss = true) : ss.length ≤ 40 := ((catValid_iff ss).1 h).1
variable {C : CC} (hC : Closed prog C)
include hC
theorem Find_c (b : Bool) (ss : List Sec) (nm : List UInt8) : C 441 [slx b (ss.map secC), .str nm] (.tup [.int .i64 (findF ss nm).1, .int .i64 (findF ss nm).2]) [] := by
  have h1 : ∀ x ∈ ss, C 480 (.agg (secC x) :: [.ptr [.str nm]]) (.bool (nameIs nm x)) [] := fun x _ => by
    refine start hC (nf := N480_catalogue_Find_1) rfl rfl ?_
    simp [N480_catalogue_Find_1, secC, nameIs]
    rw [Bool.eq_iff_iff]; simp
  refine start hC (nf := N441_catalogue_Find) rfl rfl ?_
  simp [N441_catalogue_Find]
  refine callW_of (catValid_c hC b ss) (.inl rfl) ?_
  unfold findF
  cases hv : catValid ss
  · simp
  simp
  have := catValid_len hv
  refine callW_of (idxSec_c hC (b := b) _ (by omega) h1) (.inl rfl) ?_
  simp
  have e : idxD (nameIs nm) ss = secI ss nm := rfl
  rw [e]
  refine brB_of (fun h => ?_) (fun h => ?_) <;> simp at h <;> simp [h]
  rw [if_neg (by omega)]; simp
theorem uphill_c (l : Lnk) : C 506 [.agg (lnkC l)] (.bool (uphill l)) [] := by
  refine start hC (nf := N506_steady_sections_1) rfl rfl ?_
  simp [N506_steady_sections_1, lnkC, uphill]
theorem sections_c (b1 b2 b : Bool) (ns : List Nod) (ls : List Lnk) (ss : List Sec) (hls : ls.length < 2 ^ 62) (hv : catValid ss = true) : C 481 [.agg [slx b1 (ns.map nodC), slx b2 (ls.map lnkC)], slx b (ss.map secC)] (.int .i64 (pipE ls ss)) [] := by
  have k1 := fun nm => Find_c hC b ss nm
  have k2 := hasLnk_c hC (b := b2) (xs := ls) (g := 506) (cs := []) uphill hls (fun x _ => uphill_c hC x)
  refine start hC (nf := N481_steady_sections) rfl rfl ?_
  simp [N481_steady_sections]
  refine loop_of Nat (fun i => [(1, slx b (ss.map secC)), (2, .ptr [slx b1 (ns.map nodC), slx b2 (ls.map lnkC)]), (10, slx b2 (ls.map lnkC)), (11, .int .i64 ls.length), (12, .int .i64 i)]) (fun i => i ≤ ls.length ∧ ∀ (j : Nat) (h : j < ls.length), j < i → noSec ss ls[j] = false) (fun i => ls.length - i) 0 (by simp) (by simp) ?_
  rintro i ⟨hi, hj⟩
  simp
  refine brB_of (fun h => ?_) (fun h => ?_) <;> simp [h] <;> simp at h
  · have hw : IntKind.wrap .i64 ((i : Int) + 1) = ((i + 1 : Nat) : Int) := wrap_i64 (by omega) (by omega)
    simp [h, lnkC]
    refine callW_of (k1 _) (.inl rfl) ?_
    unfold findF
    rw [hv]
    by_cases h1 : 0 ≤ secI ss ls[i].sect
    · simp [h1, hw]
      refine ⟨i + 1, ⟨by omega, fun j hl hjj => ?_⟩, by omega, by omega⟩
      rcases Nat.lt_succ_iff_lt_or_eq.1 hjj with h2 | rfl
      · exact hj j hl h2
      · simp [noSec]; omega
    · simp [h1]
      have : ls.any (noSec ss) = true := List.any_eq_true.2 ⟨ls[i], List.getElem_mem h, by simp [noSec]; omega⟩
      rw [pipE, if_pos this]
  · have hno : ls.any (noSec ss) = false := by
      rw [List.any_eq_false]
      intro x hx
      obtain ⟨j, hjl, rfl⟩ := List.getElem_of_mem hx
      simp [hj j hjl (by omega)]
    refine callW_of k2 (.inl rfl) ?_
    unfold pipE
    rw [hno]
    cases hu : ls.any uphill <;> simp
end Go.Gv

set_option linter.unusedSimpArgs false
namespace Go.Gv
def capF (s : Sec) (depth fall len : Int) : Int × Int := if secValid s then (if 0 ≤ depth ∧ depth ≤ s.height ∧ slopeOk fall len = true then (if 1099511627776 < (carF s depth fall len : Int) then (0, 5) else (carF s depth fall len, 0)) else (0, 2)) else (0, 1)
def secL (ss : List Sec) (l : Lnk) : Sec := ss[(secI ss l.sect).toNat]?.getD ⟨[], 0, 0, true, [], true, []⟩
def fulF (ss : List Sec) (l : Lnk) : Int := if (capF (secL ss l) (secL ss l).height (fallF l) l.len).2 = 5 then 1099511627776 else (capF (secL ss l) (secL ss l).height (fallF l) l.len).1
theorem PipOk.sec {ss : List Sec} {l : Lnk} (h : PipOk ss l) : ∃ k, secI ss l.sect = (k : Nat) ∧ ∃ hk : k < ss.length, secL ss l = ss[k] := by
  obtain ⟨k, hk, hl⟩ := h.idx
  refine ⟨k, hk, hl, ?_⟩
  simp [secL, hk, hl]
theorem PipOk.find {ss : List Sec} {l : Lnk} (hv : catValid ss = true) (h : PipOk ss l) : findF ss l.sect = (secI ss l.sect, 0) := by
  obtain ⟨k, hk, hl⟩ := h.idx
  simp [findF, hv, hk]
theorem PipOk.valid {ss : List Sec} {l : Lnk} (hv : catValid ss = true) (h : PipOk ss l) : secValid (secL ss l) = true := by
  obtain ⟨k, hk, hl, e⟩ := h.sec
  rw [e]
  exact catValid_sec hv hl
theorem PipOk.wrap {ss : List Sec} {l : Lnk} (h : PipOk ss l) : IntKind.wrap .i64 (l.up - l.down) = l.up - l.down := by
  have := h.up; have := h.down
  exact wrap_i64 rfl (by omega)
variable {C : CC} (hC : Closed prog C)
include hC
theorem pipes_c (hS : SlC C) (b1 b2 b b' : Bool) (ns : List Nod) (ls : List Lnk) (ss : List Sec) (q : List Sp) (count : Int) (hls : ls.length < 2 ^ 62) (hq : q.length < 2 ^ 62) (hcv : ∀ l ∈ ls, l.curve.length < 2 ^ 62) : C 473 [.agg [slx b1 (ns.map nodC), slx b2 (ls.map lnkC)], slx b (ss.map secC), slx b' (q.map knD), .int .i64 count] (.int .i64 (givE ns ls ss q count)) [] := by
  have k1 := sTree_c hC hS b1 b2 ns ls hls hcv
  have k2 := catValid_c hC b ss
  have k3 := spans_c hC b' q count hq
  have k4 := sections_c hC b1 b2 b ns ls ss hls
  refine start hC (nf := N473_steady_pipes) rfl rfl ?_
  simp [N473_steady_pipes]
  refine callW_of k1 (.inl rfl) ?_
  unfold givE
  cases ht : treeN ns ls
  · simp
  simp
  refine callW_of k2 (.inl rfl) ?_
  cases hv : catValid ss
  · simp
  simp
  refine callW_of k3 (.inl rfl) ?_
  by_cases h0 : spsE q count = 0
  · simp [h0]
    refine callW_of (k4 hv) (.inl rfl) ?_
    simp [h0]
  · simp [h0]
theorem sFall_c (l : Lnk) (w : IntKind.wrap .i64 (l.up - l.down) = l.up - l.down) : C 474 [.agg (lnkC l)] (.int .i64 (fallF l)) [] := by
  refine start hC (nf := N474_steady_fall) rfl rfl ?_
  simp [N474_steady_fall, lnkC, w, fallF]
theorem Capacity_c (s : Sec) (depth fall len : Int) : C 53 [.agg (secC s), .int .i64 depth, .int .i64 fall, .int .i64 len] (.tup [.int .i64 (capF s depth fall len).1, .int .i64 (capF s depth fall len).2]) [] := by
  have hvc := valid_c hC s
  have hsl := slope_c hC fall len
  have es : (decide (0 ≤ fall) && decide (fall ≤ 4194304) && decide (1 ≤ len) && decide (len ≤ 16777216)) = slopeOk fall len := rfl
  rw [es] at hsl
  obtain ⟨r, hr⟩ : ∃ r, r = capF s depth fall len := ⟨_, rfl⟩
  rw [← hr]
  unfold capF at hr
  have hcc := fun hv hs => carriedG_c hC s depth fall len hv hs
  simp only [secC] at hvc hcc
  refine start hC (nf := N53_catalogue_Capacity) rfl rfl ?_
  simp [N53_catalogue_Capacity, secC]
  refine callW_of hvc (.inl rfl) ?_
  cases hv : secValid s
  · rw [if_neg (by simp [hv])] at hr
    simp [hr]
  rw [if_pos hv] at hr
  simp
  refine brB_of (fun c1 => ?_) (fun c1 => ?_) <;> simp at c1 <;> simp [c1]
  · rw [if_neg (by omega)] at hr
    simp [hr]
  refine brB_of (fun c2 => ?_) (fun c2 => ?_) <;> simp at c2 <;> simp [c2]
  · rw [if_neg (by omega)] at hr
    simp [hr]
  refine callW_of hsl (.inl rfl) ?_
  cases hs : slopeOk fall len
  · rw [if_neg (by simp [hs])] at hr
    simp [hr]
  rw [if_pos ⟨by omega, by omega, hs⟩] at hr
  simp
  refine callW_of (hcc hv hs) (.inl rfl) ?_
  simp
  refine brB_of (fun c3 => ?_) (fun c3 => ?_) <;> simp at c3 <;> simp [c3]
  · rw [if_pos (by omega)] at hr
    simp [hr]
  · rw [if_neg (by omega)] at hr
    simp [hr]
theorem FullG_c (s : Sec) (fall len : Int) : C 47 [.agg (secC s), .int .i64 fall, .int .i64 len] (.tup [.int .i64 (capF s s.height fall len).1, .int .i64 (capF s s.height fall len).2]) [] := by
  have cap := Capacity_c hC s s.height fall len
  rw [secC] at cap
  refine start hC (nf := N47_catalogue_Full) rfl rfl ?_
  simp [N47_catalogue_Full, secC]
  refine callW_of cap (.inl rfl) ?_
  simp
theorem full_c (b : Bool) (ss : List Sec) (l : Lnk) (hv : catValid ss = true) (h : PipOk ss l) : C 475 [slx b (ss.map secC), .agg (lnkC l)] (.tup [.int .i64 (fulF ss l), .int .i64 0]) [] := by
  have k1 := Find_c hC b ss l.sect
  rw [h.find hv] at k1
  have k2 := sFall_c hC l h.wrap
  have k3 := FullG_c hC (secL ss l) (fallF l) l.len
  have hf := h.fall
  have hva := h.valid hv
  obtain ⟨k, hk, hl, e⟩ := h.sec
  obtain ⟨r, hr⟩ : ∃ r, r = fulF ss l := ⟨_, rfl⟩
  rw [← hr]
  unfold fulF at hr
  have h5 : (capF (secL ss l) (secL ss l).height (fallF l) l.len).2 = 5 ∨ (capF (secL ss l) (secL ss l).height (fallF l) l.len).2 = 0 := by
    have : 1 ≤ (secL ss l).height := by simp only [secValid, Bool.and_eq_true, decide_eq_true_eq] at hva; omega
    unfold capF
    rw [if_pos hva, if_pos ⟨by omega, by omega, hf⟩]
    split <;> simp
  generalize capF (secL ss l) (secL ss l).height (fallF l) l.len = c at *
  simp only at k1
  rw [hk] at k1
  rw [e] at k3
  simp only [lnkC, secC] at k2 k3
  refine start hC (nf := N475_steady_full) rfl rfl ?_
  simp [N475_steady_full, lnkC]
  refine callW_of k1 (.inl rfl) ?_
  simp [hl, secC]
  refine callW_of k2 (.inl rfl) ?_
  simp
  refine callW_of k3 (.inl rfl) ?_
  simp
  refine ⟨indW_of (by decide +kernel), ?_⟩
  rcases h5 with h5 | h5 <;> simp [h5] at hr ⊢
  · simp [hr]
  · simp [hr]
end Go.Gv

set_option linter.unusedSimpArgs false
namespace Go.Gv
variable {C : CC} (hC : Closed prog C)
include hC
theorem rSpOk_c (s : Sp) : C 501 [.agg (knD s)] (.bool (spOk s)) [] := by
  refine start hC (nf := N501_ref04_Valid) rfl rfl ?_
  simp [N501_ref04_Valid, knD]
  by_cases h1 : s.1 ≤ s.2 <;> by_cases h2 : -72057594037927936 ≤ s.1 <;> by_cases h3 : s.2 ≤ 72057594037927936 <;> simp [spOk, fitS, h1, h2, h3]
  constructor <;> omega
theorem rSpans_c (b : Bool) (l : List Sp) (count : Int) (hl : l.length < 2 ^ 62) : C 465 [slx b (l.map knD), .int .i64 count] (.int .i64 (spsE l count)) [] := by
  have k1 := fun s => rSpOk_c hC s
  simp only [knD] at k1
  refine start hC (nf := N465_ref30_spans) rfl rfl ?_
  simp [N465_ref30_spans]
  refine loop_of Nat (fun i => [(0, slx b (l.map knD)), (1, .int .i64 count), (5, .int .i64 i)]) (fun i => i ≤ l.length ∧ ∀ (j : Nat) (h : j < l.length), j < i → spOk l[j] = true) (fun i => l.length - i) 0 (by simp) (by simp) ?_
  rintro i ⟨hi, hj⟩
  simp
  refine brB_of (fun h => ?_) (fun h => ?_) <;> simp [h] <;> simp at h
  · have hw : IntKind.wrap .i64 ((i : Int) + 1) = ((i + 1 : Nat) : Int) := wrap_i64 (by omega) (by omega)
    simp [h, knD]
    refine callW_of (k1 _) (.inl rfl) ?_
    cases h1 : spOk l[i]
    · simp
      have : l.any (fun s => !spOk s) = true := List.any_eq_true.2 ⟨l[i], List.getElem_mem h, by simp [h1]⟩
      rw [spsE, if_pos this]
    · simp [hw]
      refine ⟨i + 1, ⟨by omega, fun j hl hjj => ?_⟩, by omega, by omega⟩
      rcases Nat.lt_succ_iff_lt_or_eq.1 hjj with h2 | rfl
      · exact hj j hl h2
      · exact h1
  · have hno : l.any (fun s => !spOk s) = false := by
      rw [List.any_eq_false]
      intro x hx
      obtain ⟨j, hjl, rfl⟩ := List.getElem_of_mem hx
      simp [hj j hjl (by omega)]
    clear hj h hi
    unfold spsE
    rw [hno]
    by_cases h : (l.length : Int) = count
    rotate_left
    · simp [h]
    simp [h]
    refine loop_of Nat (fun i => [(0, slx b (l.map knD)), (6, .int .i64 i)]) (fun i => i ≤ l.length ∧ ∀ (j : Nat) (h : j < l.length), j < i → spRg l[j] = false) (fun i => l.length - i) 0 (by simp) (by simp) ?_
    rintro i ⟨hi, hj⟩
    simp
    refine brB_of (fun g => ?_) (fun g => ?_) <;> simp [g] <;> simp at g
    · have hw : IntKind.wrap .i64 ((i : Int) + 1) = ((i + 1 : Nat) : Int) := wrap_i64 (by omega) (by omega)
      have yes : spRg l[i] = true → l.any spRg = true := fun e => List.any_eq_true.2 ⟨l[i], List.getElem_mem g, e⟩
      have no : spRg l[i] = false → ∃ i' : Nat, (i' ≤ l.length ∧ ∀ (j : Nat) (h : j < l.length), j < i' → spRg l[j] = false) ∧ l.length - i' < l.length - i ∧ (i : Int) + 1 = i' := fun e => by
        refine ⟨i + 1, ⟨by omega, fun j hl hjj => ?_⟩, by omega, by omega⟩
        rcases Nat.lt_succ_iff_lt_or_eq.1 hjj with h2 | rfl
        · exact hj j hl h2
        · exact e
      simp [g, knD]
      by_cases a1 : l[i].1 < 0
      · have := yes (by simp [spRg, a1])
        simp [a1, this, h]
      · by_cases a2 : 1099511627776 < l[i].2
        · have := yes (by simp [spRg, a2])
          simp [a1, a2, this, h, g, knD]
        · obtain ⟨i', b1, b2, b3⟩ := no (by simp [spRg, a1, a2])
          simp [a1, a2, hw, g, knD]
          exact ⟨i', b1, b2, by omega⟩
    · have hno : l.any spRg = false := by
        rw [List.any_eq_false]
        intro x hx
        obtain ⟨j, hjl, rfl⟩ := List.getElem_of_mem hx
        simp [hj j hjl (by omega)]
      simp [hno, h]
theorem rPipes_c (b1 b2 b : Bool) (ns : List Nod) (ls : List Lnk) (ss : List Sec) (hls : ls.length < 2 ^ 62) (hss : ss.length < 2 ^ 62) : C 479 [.agg [slx b1 (ns.map nodC), slx b2 (ls.map lnkC)], slx b (ss.map secC)] (.int .i64 (pipE ls ss)) [] := by
  have k1 := fun nm => rFind_c hC b ss nm hss
  refine start hC (nf := N479_ref30_pipes) rfl rfl ?_
  simp [N479_ref30_pipes]
  refine loop_of Nat (fun i => [(1, slx b (ss.map secC)), (2, .ptr [slx b1 (ns.map nodC), slx b2 (ls.map lnkC)]), (5, .int .i64 i)]) (fun i => i ≤ ls.length ∧ ∀ (j : Nat) (h : j < ls.length), j < i → noSec ss ls[j] = false) (fun i => ls.length - i) 0 (by simp) (by simp) ?_
  rintro i ⟨hi, hj⟩
  simp
  refine brB_of (fun h => ?_) (fun h => ?_) <;> simp [h] <;> simp at h
  · have hw : IntKind.wrap .i64 ((i : Int) + 1) = ((i + 1 : Nat) : Int) := wrap_i64 (by omega) (by omega)
    simp [h, lnkC]
    refine callW_of (k1 _) (.inl rfl) ?_
    have e : idxD (nameIs ls[i].sect) ss = secI ss ls[i].sect := rfl
    rw [e]
    simp
    refine brB_of (fun h1 => ?_) (fun h1 => ?_) <;> simp [h1] <;> simp at h1
    · have : ls.any (noSec ss) = true := List.any_eq_true.2 ⟨ls[i], List.getElem_mem h, by simp [noSec]; omega⟩
      rw [pipE, if_pos this]
    · simp [hw]
      refine ⟨i + 1, ⟨by omega, fun j hl hjj => ?_⟩, by omega, by omega⟩
      rcases Nat.lt_succ_iff_lt_or_eq.1 hjj with h2 | rfl
      · exact hj j hl h2
      · simp [noSec]; omega
  · have hno : ls.any (noSec ss) = false := by
      rw [List.any_eq_false]
      intro x hx
      obtain ⟨j, hjl, rfl⟩ := List.getElem_of_mem hx
      simp [hj j hjl (by omega)]
    clear hj h hi
    unfold pipE
    rw [hno]
    refine loop_of Nat (fun i => [(2, .ptr [slx b1 (ns.map nodC), slx b2 (ls.map lnkC)]), (6, .int .i64 i)]) (fun i => i ≤ ls.length ∧ ∀ (j : Nat) (h : j < ls.length), j < i → uphill ls[j] = false) (fun i => ls.length - i) 0 (by simp) (by simp) ?_
    rintro i ⟨hi, hj⟩
    simp
    refine brB_of (fun g => ?_) (fun g => ?_) <;> simp [g] <;> simp at g
    · have hw : IntKind.wrap .i64 ((i : Int) + 1) = ((i + 1 : Nat) : Int) := wrap_i64 (by omega) (by omega)
      simp [g, lnkC]
      refine ⟨indW_of (by decide +kernel), ?_⟩
      refine brB_of (fun h1 => ?_) (fun h1 => ?_) <;> simp [h1] <;> simp at h1
      · have : ls.any uphill = true := List.any_eq_true.2 ⟨ls[i], List.getElem_mem g, by simp [uphill]; omega⟩
        exact ⟨_, List.getElem_mem g, by simp [uphill]; omega⟩
      · simp [hw]
        refine ⟨i + 1, ⟨by omega, fun j hl hjj => ?_⟩, by omega, by omega⟩
        rcases Nat.lt_succ_iff_lt_or_eq.1 hjj with h2 | rfl
        · exact hj j hl h2
        · simp [uphill]; omega
    · have hno : ls.any uphill = false := by
        rw [List.any_eq_false]
        intro x hx
        obtain ⟨j, hjl, rfl⟩ := List.getElem_of_mem hx
        simp [hj j hjl (by omega)]
      simpa using hno
theorem rGiven_c (b1 b2 b b' nodes : Bool) (ns : List Nod) (ls : List Lnk) (ss : List Sec) (q : List Sp) (hls : ls.length < 2 ^ 62) (hss : ss.length < 2 ^ 62) (hq : q.length < 2 ^ 62) : C 440 [.agg [slx b1 (ns.map nodC), slx b2 (ls.map lnkC)], slx b (ss.map secC), slx b' (q.map knD), .bool nodes] (.int .i64 (givE ns ls ss q (if nodes then (ns.length : Int) else ls.length))) [] := by
  have k1 := rTree_c hC b1 b2 ns ls
  have k2 := rcat_c hC b ss
  have k3 := fun count => rSpans_c hC b' q count hq
  have k4 := rPipes_c hC b1 b2 b ns ls ss hls hss
  refine start hC (nf := N440_ref30_Given) rfl rfl ?_
  simp [N440_ref30_Given]
  refine callW_of k1 (.inl rfl) ?_
  unfold givE
  cases ht : treeN ns ls
  · simp
  simp
  refine callW_of k2 (.inl rfl) ?_
  cases hv : catValid ss
  · simp
  simp
  cases nodes
  · simp
    refine callW_of (k3 _) (.inl rfl) ?_
    by_cases h0 : spsE q ls.length = 0
    · simp [h0]
      refine callW_of k4 (.inl rfl) ?_
      simp [h0]
    · simp [h0]
  · simp
    refine callW_of (k3 _) (.inl rfl) ?_
    by_cases h0 : spsE q ns.length = 0
    · simp [h0]
      refine callW_of k4 (.inl rfl) ?_
      simp [h0]
    · simp [h0]
end Go.Gv

set_option linter.unusedSimpArgs false
namespace Go.Gv
def dRes (ss : List Sec) (l : Lnk) (n : Int) : Int × Int := depthF (secL ss l) n (fallF l) l.len
def dBad (ss : List Sec) (l : Lnk) (s : Sp) : Bool := !decide ((dRes ss l s.1).2 = 0) || !decide ((dRes ss l s.2).2 = 0)
def dSp (ss : List Sec) (l : Lnk) (s : Sp) : Sp := ((dRes ss l s.1).1, (dRes ss l s.2).1)
def anyBad (ss : List Sec) (ls : List Lnk) (q : List Sp) : Bool := (ls.zip q).any fun p => dBad ss p.1 p.2
def depL (ss : List Sec) (ls : List Lnk) (q : List Sp) : List Sp := List.zipWith (dSp ss) ls q
def DepE (ns : List Nod) (ls : List Lnk) (ss : List Sec) (q : List Sp) : Int := if givE ns ls ss q ls.length = 0 then (if anyBad ss ls q then 28 else 0) else givE ns ls ss q ls.length
def DepV (ns : List Nod) (ls : List Lnk) (ss : List Sec) (q : List Sp) : D := if DepE ns ls ss q = 0 then .sl ((depL ss ls q).map knD) else .nils
def spT (l : List Sp) (j : Nat) : List (List D) := (l.take j).map knD
theorem spT_succ {l : List Sp} {j : Nat} (h : j < l.length) : spT l (j + 1) = spT l j ++ [knD l[j]] := by
  rw [spT, List.take_succ_eq_append_getElem h, List.map_append]; rfl
theorem spT_len {l : List Sp} {j : Nat} (h : j ≤ l.length) : (spT l j).length = j := by simp [spT]; omega
theorem spT_end (l : List Sp) : spT l l.length = l.map knD := by simp [spT]
theorem spT_V (l : List Sp) (j : Nat) : (spT l j).map (fun e => e.map cellV) = spT l j := by
  unfold spT
  rw [List.map_map]
  apply List.map_congr_left
  intro v _
  simp [knD, cellV]
theorem spsE_get {q : List Sp} {n : Nat} (h : spsE q n = 0) : q.length = n ∧ ∀ s ∈ q, 0 ≤ s.1 ∧ s.1 ≤ s.2 ∧ s.2 ≤ 1099511627776 := by
  unfold spsE at h
  split at h
  · cases h
  rename_i h1
  split at h
  · rename_i h0
    split at h
    · cases h
    · rename_i h2
      refine ⟨by omega, fun s hs => ?_⟩
      simp only [Bool.not_eq_true, List.any_eq_false] at h1 h2
      have a := h1 s hs
      have b := h2 s hs
      simp only [spOk, spRg, Bool.not_eq_true', Bool.not_eq_false', Bool.and_eq_true, decide_eq_true_eq, Bool.or_eq_true, not_or] at a b
      simp at a b
      omega
  · cases h
variable {C : CC} (hC : Closed prog C)
include hC
end Go.Gv

set_option linter.unusedSimpArgs false
namespace Go.Gv
end Go.Gv

set_option linter.unusedSimpArgs false
namespace Go.Gv
end Go.Gv

set_option linter.unusedSimpArgs false
namespace Go.Gv
def ldSp (ss : List Sec) (l : Lnk) (s : Sp) : Sp := (1000 * s.1 / fulF ss l, (1000 * s.2 + fulF ss l - 1) / fulF ss l)
def zeroL (ss : List Sec) (l : Lnk) : Bool := decide (fulF ss l = 0)
def ldL (ss : List Sec) (ls : List Lnk) (q : List Sp) : List Sp := List.zipWith (ldSp ss) ls q
def anyZ (ss : List Sec) (ls : List Lnk) : Bool := ls.any (zeroL ss)
def LdE (ns : List Nod) (ls : List Lnk) (ss : List Sec) (q : List Sp) : Int := if givE ns ls ss q ls.length = 0 then (if anyZ ss ls then 16 else 0) else givE ns ls ss q ls.length
def LdV (ns : List Nod) (ls : List Lnk) (ss : List Sec) (q : List Sp) : D := if LdE ns ls ss q = 0 then .sl ((ldL ss ls q).map knD) else .nils
theorem capF_cases {s : Sec} {fall len : Int} (hv : secValid s = true) (hf : slopeOk fall len = true) : (capF s s.height fall len).2 = 5 ∨ ((capF s s.height fall len).2 = 0 ∧ ∃ n : Nat, n ≤ 1099511627776 ∧ (capF s s.height fall len).1 = n) := by
  have : 1 ≤ s.height := by simp only [secValid, Bool.and_eq_true, decide_eq_true_eq] at hv; omega
  unfold capF
  rw [if_pos hv, if_pos ⟨by omega, by omega, hf⟩]
  split
  · exact .inl rfl
  · exact .inr ⟨rfl, _, by omega, rfl⟩
theorem fulF_rng {ss : List Sec} {l : Lnk} (hv : catValid ss = true) (h : PipOk ss l) : ∃ n : Nat, n ≤ 1099511627776 ∧ fulF ss l = n := by
  unfold fulF
  rcases capF_cases (h.valid hv) h.fall with e | ⟨e, n, hn, e2⟩
  · exact ⟨1099511627776, by omega, by rw [if_pos e]; rfl⟩
  · exact ⟨n, hn, by rw [if_neg (by omega)]; exact e2⟩
variable {C : CC} (hC : Closed prog C)
include hC
theorem rCapacity_c (s : Sec) (depth fall len : Int) : C 505 [.agg (secC s), .int .i64 depth, .int .i64 fall, .int .i64 len] (.tup [.int .i64 (capF s depth fall len).1, .int .i64 (capF s depth fall len).2]) [] := by
  have hvc := rRight_c hC s
  have hsl := rSlope_c hC fall len
  obtain ⟨r, hr⟩ : ∃ r, r = capF s depth fall len := ⟨_, rfl⟩
  rw [← hr]
  unfold capF at hr
  have hcc := fun hv hs => rCarriedG_c hC s depth fall len hv hs
  simp only [secC] at hvc hcc
  refine start hC (nf := N505_ref28_Capacity) rfl rfl ?_
  simp [N505_ref28_Capacity, secC]
  refine callW_of hvc (.inl rfl) ?_
  cases hv : secValid s
  · rw [if_neg (by simp [hv])] at hr
    simp [hr]
  rw [if_pos hv] at hr
  simp
  refine brB_of (fun c1 => ?_) (fun c1 => ?_) <;> simp at c1 <;> simp [c1]
  · rw [if_neg (by omega)] at hr
    simp [hr]
  refine brB_of (fun c2 => ?_) (fun c2 => ?_) <;> simp at c2 <;> simp [c2]
  · rw [if_neg (by omega)] at hr
    simp [hr]
  refine callW_of hsl (.inl rfl) ?_
  cases hs : slopeOk fall len
  · rw [if_neg (by simp [hs])] at hr
    simp [hr]
  rw [if_pos ⟨by omega, by omega, hs⟩] at hr
  simp
  refine callW_of (hcc hv hs) (.inl rfl) ?_
  simp
  refine brB_of (fun c3 => ?_) (fun c3 => ?_) <;> simp at c3 <;> simp [c3]
  · rw [if_pos (by omega)] at hr
    simp [hr]
  · rw [if_neg (by omega)] at hr
    simp [hr]
theorem rFull_c (b : Bool) (ss : List Sec) (l : Lnk) (hv : catValid ss = true) (h : PipOk ss l) : C 476 [.agg (lnkC l), slx b (ss.map secC)] (.int .i64 (fulF ss l)) [] := by
  have k1 := rFind_c hC b ss l.sect (by have := catValid_len hv; omega)
  have k2 := rFall_c hC l (by have := h.up; have := h.down; omega)
  have k3 := rCapacity_c hC (secL ss l) (secL ss l).height (fallF l) l.len
  have h5 := capF_cases (h.valid hv) h.fall
  have e0 : idxD (nameIs l.sect) ss = secI ss l.sect := rfl
  rw [e0] at k1
  obtain ⟨k, hk, hl, e⟩ := h.sec
  obtain ⟨r, hr⟩ : ∃ r, r = fulF ss l := ⟨_, rfl⟩
  rw [← hr]
  unfold fulF at hr
  generalize capF (secL ss l) (secL ss l).height (fallF l) l.len = c at *
  rw [hk] at k1
  rw [e] at k3
  simp only [lnkC, secC] at k2 k3
  refine start hC (nf := N476_ref30_Full) rfl rfl ?_
  simp [N476_ref30_Full, lnkC]
  refine callW_of k1 (.inl rfl) ?_
  simp [hl, secC]
  refine callW_of k2 (.inl rfl) ?_
  simp
  refine callW_of k3 (.inl rfl) ?_
  simp
  refine ⟨indW_of (by decide +kernel), ?_⟩
  rcases h5 with h5 | ⟨h5, _⟩ <;> simp [h5] at hr ⊢
  · simp [hr]
  · simp [hr]
end Go.Gv

set_option linter.unusedSimpArgs false
namespace Go.Gv
def ovG (ss : List Sec) (f : Sp → Int) (p : Lnk × Sp) : Option (List UInt8) := if fulF ss p.1 < f p.2 then some p.1.name else none
def ovT (ss : List Sec) (f : Sp → Int) (ls : List Lnk) (fl : List Sp) (i : Nat) : List (List UInt8) := ((ls.zip fl).take i).filterMap (ovG ss f)
theorem ovT_succ {ss : List Sec} {f : Sp → Int} {ls : List Lnk} {fl : List Sp} {i : Nat} (h1 : i < ls.length) (h2 : i < fl.length) : ovT ss f ls fl (i + 1) = ovT ss f ls fl i ++ (if fulF ss ls[i] < f fl[i] then [ls[i].name] else []) := by
  have h3 : i < (ls.zip fl).length := by simp; omega
  unfold ovT
  rw [List.take_succ_eq_append_getElem h3, List.filterMap_append]
  congr 1
  have e : (ls.zip fl)[i] = (ls[i], fl[i]) := by simp
  rw [e]
  by_cases c : fulF ss ls[i] < f fl[i] <;> simp [ovG, c]
theorem ovT_len (ss : List Sec) (f : Sp → Int) (ls : List Lnk) (fl : List Sp) (i : Nat) : (ovT ss f ls fl i).length ≤ i := by
  unfold ovT
  have := List.length_filterMap_le (ovG ss f) ((ls.zip fl).take i)
  simp at this
  omega
def strR (l : List (List UInt8)) : List (List D) := l.map fun s => [.str s]
theorem strR_len (l : List (List UInt8)) : (strR l).length = l.length := by simp [strR]
theorem strR_V (l : List (List UInt8)) : (strR l).map (fun e => e.map cellV) = strR l := by
  unfold strR
  rw [List.map_map]
  apply List.map_congr_left
  intro v _
  simp [cellV]
theorem strR_app (l : List (List UInt8)) (s : List UInt8) : strR l ++ [[.str s]] = strR (l ++ [s]) := by simp [strR]
def OvE (ns : List Nod) (ls : List Lnk) (ss : List Sec) (q : List Sp) : Int := if givE ns ls ss q ns.length = 0 then flowsE ns.length (edgN ns ls) q else givE ns ls ss q ns.length
def OvV (f : Sp → Int) (ns : List Nod) (ls : List Lnk) (ss : List Sec) (q : List Sp) : D := if OvE ns ls ss q = 0 then .sl (strR (ovT ss f ls (flowsF ns.length (edgN ns ls) q) ls.length)) else .nils
variable {C : CC} (hC : Closed prog C)
include hC
set_option maxHeartbeats 2000000 in
theorem Overloaded_c (hS : SlC C) (b1 b2 b b' : Bool) (ns : List Nod) (ls : List Lnk) (ss : List Sec) (q : List Sp) (hls : ls.length < 2 ^ 62) (hq : q.length < 2 ^ 62) (hcv : ∀ l ∈ ls, l.curve.length < 2 ^ 62) : C 442 [.agg [slx b1 (ns.map nodC), slx b2 (ls.map lnkC)], slx b (ss.map secC), slx b' (q.map knD)] (.tup [OvV (·.1) ns ls ss q, OvV (·.2) ns ls ss q, .int .i64 (OvE ns ls ss q)]) [] := by
  have k0 := pipes_c hC hS b1 b2 b b' ns ls ss q ns.length hls hq hcv
  refine start hC (nf := N442_steady_Overloaded) rfl rfl ?_
  simp [N442_steady_Overloaded]
  refine callW_of k0 (.inl rfl) ?_
  unfold OvV OvE
  by_cases hg : givE ns ls ss q ns.length = 0
  rotate_left
  · simp [hg]
  obtain ⟨ht, hv, hsp, hpe⟩ := givE_ok hg
  have hpip := pipE_ok ht hpe
  have hql := (spsE_get hsp).1
  have hl4 : ls.length ≤ 400 := by
    simp only [treeN, Bool.and_eq_true] at ht
    exact (netOk_len ht.1.1).2
  have k1 := sFlows_c hC hS b1 b2 b' ns ls q hcv ht hql
  have hfl : (flowsF ns.length (edgN ns ls) q).length = ls.length := by simp [flowsF, edgN_len]
  unfold flowsV flowsE at k1
  unfold flowsE
  simp [hg]
  refine callW_of k1 (.inr rfl) ?_
  generalize flowsF ns.length (edgN ns ls) q = fl at *
  cases hb : bigF fl
  rotate_left
  · simp [hg]
  simp [hg]
  refine loop_of Nat (fun i => [(1, slx b (ss.map secC)), (10, .sl (fl.map knD)), (12, .ref (.r 10192) 0 (ovT ss (·.1) ls fl i).length), (10192, .blk 1 (strR (ovT ss (·.1) ls fl i))), (13, .ref (.r 10208) 0 (ovT ss (·.2) ls fl i).length), (10208, .blk 1 (strR (ovT ss (·.2) ls fl i))), (38, slx b2 (ls.map lnkC)), (39, .int .i64 ls.length), (40, .int .i64 i)]) (fun i => i ≤ ls.length) (fun i => ls.length - i) 0 (by simp) (by simp [ovT, strR]) ?_
  rintro i hi
  simp
  refine brB_of (fun h => ?_) (fun h => ?_) <;> simp [h] <;> simp at h
  · have hw : IntKind.wrap .i64 ((i : Int) + 1) = ((i + 1 : Nat) : Int) := wrap_i64 (by omega) (by omega)
    have hif : i < fl.length := by omega
    have hp := hpip _ (List.getElem_mem h)
    have k2 := full_c hC b ss ls[i] hv hp
    have s1 := ovT_succ (ss := ss) (f := (·.1)) h hif
    have s2 := ovT_succ (ss := ss) (f := (·.2)) h hif
    have n1 := ovT_len ss (·.1) ls fl i
    have n2 := ovT_len ss (·.2) ls fl i
    simp only [lnkC] at k2
    simp [h, lnkC]
    refine callW_of k2 (.inl rfl) ?_
    simp [hif, knD]
    generalize fulF ss ls[i] = c at *
    generalize hT1 : ovT ss (·.1) ls fl i = T1 at *
    generalize hT2 : ovT ss (·.2) ls fl i = T2 at *
    have t1 : (strR T1).take T1.length = strR T1 := List.take_of_length_le (by rw [strR_len]; exact Nat.le_refl _)
    have t2 : (strR T2).take T2.length = strR T2 := List.take_of_length_le (by rw [strR_len]; exact Nat.le_refl _)
    refine brB_of (fun a => ?_) (fun a => ?_) <;> simp at a <;> simp [a, hif, knD]
    · refine ⟨by simp [strR_len], by omega, ?_⟩
      refine brB_of (fun g => ?_) (fun g => ?_) <;> simp at g <;> simp [g, hif, knD]
      · refine ⟨by simp [strR_len], by omega, ?_⟩
        simp [hw]
        refine ⟨i + 1, by omega, by omega, ?_⟩
        rw [s1, s2, if_pos a, if_pos g, t1, t2, strR_app, strR_app]
        simp
      · simp [hw]
        refine ⟨i + 1, by omega, by omega, ?_⟩
        rw [s1, s2, if_pos a, if_neg (by omega), t1, strR_app]
        simp
    · refine brB_of (fun g => ?_) (fun g => ?_) <;> simp at g <;> simp [g, hif, knD]
      · refine ⟨by simp [strR_len], by omega, ?_⟩
        simp [hw]
        refine ⟨i + 1, by omega, by omega, ?_⟩
        rw [s1, s2, if_neg (by omega), if_pos g, t2, strR_app]
        simp
      · simp [hw]
        refine ⟨i + 1, by omega, by omega, ?_⟩
        rw [s1, s2, if_neg (by omega), if_neg (by omega)]
        simp
  · have ek : i = ls.length := by omega
    subst ek
    have hgi : ¬ givE ns ls ss q ns.length = 0 → givE ns ls ss q ns.length = 0 := fun _ => hg
    rw [if_pos hgi, if_pos hgi, strR_V, strR_V, List.take_of_length_le (by rw [strR_len]; exact Nat.le_refl _), List.take_of_length_le (by rw [strR_len]; exact Nat.le_refl _)]
    exact ⟨⟨by simp [strR_len], by simp [strR_len]⟩, rfl, rfl, hgi⟩
end Go.Gv

set_option linter.unusedSimpArgs false
namespace Go.Gv
variable {C : CC} (hC : Closed prog C)
include hC
theorem eqStr_c (b b' : Bool) (xs ys : List (List UInt8)) (hx : xs.length < 2 ^ 62) (hy : ys.length < 2 ^ 62) : C 435 [slx b (strR xs), slx b' (strR ys)] (.bool (decide (xs = ys))) [] := by
  obtain ⟨r, hr⟩ : ∃ r, r = decide (xs = ys) := ⟨_, rfl⟩
  rw [← hr]
  refine start hC (nf := N435_slices_Equal__string_string) rfl rfl ?_
  simp [N435_slices_Equal__string_string, strR]
  refine brB_of (fun h => ?_) (fun h => ?_) <;> simp at h <;> simp [h]
  · rw [hr, decide_eq_false]
    intro e
    exact h (by rw [e])
  have h' : xs.length = ys.length := by omega
  refine loop_of Nat (fun i => [(0, slx b (strR xs)), (1, slx b' (strR ys)), (12, .int .i64 xs.length), (13, .int .i64 i)])
    (fun i => i ≤ xs.length ∧ ∀ (k : Nat) (h1 : k < xs.length) (h2 : k < ys.length), k < i → xs[k] = ys[k]) (fun i => xs.length - i) 0 (by simp) (by simp [h', strR]) ?_
  rintro i ⟨hi, hok⟩
  simp [strR]
  refine brB_of (fun h1 => ?_) (fun h1 => ?_) <;> simp at h1 <;> simp [h1]
  · have hw : IntKind.wrap .i64 ((i : Int) + 1) = ((i + 1 : Nat) : Int) := wrap_i64 (by omega) (by omega)
    have hy1 : i < ys.length := by omega
    simp [h1, hy1]
    refine ⟨indW_of (by decide +kernel), ?_⟩
    by_cases h2 : xs[i] = ys[i]
    · simp [h2, hw]
      refine ⟨i + 1, ⟨by omega, fun k hk hk' hki => ?_⟩, by omega, by omega⟩
      rcases Nat.lt_succ_iff_lt_or_eq.1 hki with h3 | rfl
      · exact hok k hk hk' h3
      · exact h2
    · simp [h2]
      rw [hr, decide_eq_false]
      intro e
      subst e
      exact h2 rfl
  · rw [hr]
    have : xs = ys := by
      apply List.ext_getElem h'
      intro k a1 a2
      exact hok k a1 a2 (by omega)
    simp [this]
end Go.Gv

set_option linter.unusedSimpArgs false
namespace Go.Gv
def trn (es : List Edg) : List Edg := es.map fun e => (e.2, e.1)
theorem trn_len (es : List Edg) : (trn es).length = es.length := by simp [trn]
theorem trn_in {n : Nat} {es : List Edg} (h : inG n es) : inG n (trn es) := fun e he => by
  obtain ⟨x, hx, rfl⟩ := List.mem_map.1 he
  exact ⟨(h x hx).2, (h x hx).1⟩
def nodNm (ns : List Nod) (k : Nat) : List UInt8 := (ns[k]?.map (·.name)).getD []
def nmT (ns : List Nod) (f : Nat → Bool) : Nat → List (List UInt8)
  | 0 => []
  | k + 1 => nmT ns f k ++ (if f k = true then [nodNm ns k] else [])
def trA (es : List Edg) (j : Nat) : List (List D) := (List.range es.length).map fun k => edK (if k < j then (es[k]!.2, es[k]!.1) else es[k]!)
theorem trA_len (es : List Edg) (j : Nat) : (trA es j).length = es.length := by simp [trA]
theorem trA_0 (es : List Edg) : trA es 0 = es.map edK := by
  apply List.ext_getElem
  · simp [trA]
  · intro i h1 h2
    have h3 : i < es.length := by simpa using h2
    simp [trA, h3]
theorem trA_end (es : List Edg) : trA es es.length = (trn es).map edK := by
  apply List.ext_getElem
  · simp [trA, trn]
  · intro i h1 h2
    have h3 : i < es.length := by simpa [trn] using h2
    simp [trA, trn, h3]
theorem trA_get {es : List Edg} {j : Nat} (h : j < es.length) : (trA es j)[j]? = some [.int .i64 es[j].1, .int .i64 es[j].2] := by
  simp [trA, h, edK, knD]
theorem trA_set {es : List Edg} {j : Nat} (h : j < es.length) : (trA es j).set j [.int .i64 es[j].2, .int .i64 es[j].1] = trA es (j + 1) := by
  unfold trA
  rw [set_rm]
  apply List.map_congr_left
  intro k hk
  by_cases e : k = j
  · subst e
    simp [h, edK, knD]
  · have : (k < j) = (k < j + 1) := by apply propext; omega
    simp only [if_neg e, this]
theorem trA_V (es : List Edg) (j : Nat) : (trA es j).map (fun e => e.map cellV) = trA es j := by
  unfold trA
  rw [List.map_map]
  apply List.map_congr_left
  intro v _
  simp [edK, knD, cellV]
def waysE (ns : List Nod) (nm : List UInt8) : Int := if 0 ≤ idxD (nodIs nm) ns then 0 else 9
noncomputable def waysL (ns : List Nod) (te : List Edg) (nm : List UInt8) : List (List UInt8) := nmT ns (rB te (tgs te (idxD (nodIs nm) ns).toNat)) ns.length
noncomputable def waysV (ns : List Nod) (te : List Edg) (nm : List UInt8) : D := if 0 ≤ idxD (nodIs nm) ns then .sl (strR (waysL ns te nm)) else .nils
variable {C : CC} (hC : Closed prog C)
include hC
theorem found_c (d : List D) (i : Int) : C 498 [.agg d, .int .i64 i] (.tup [.int .i64 (if i < 0 then 0 else i), .int .i64 (if i < 0 then 9 else 0)]) [] := by
  refine start hC (nf := N498_network_found) rfl rfl ?_
  simp [N498_network_found]
  refine brB_of (fun h => ?_) (fun h => ?_) <;> simp at h <;> simp [h]
  omega
def AboveE (ns : List Nod) (ls : List Lnk) (nm : List UInt8) : Int := if netOk ns ls = true then waysE ns nm else 1
noncomputable def AboveV (ns : List Nod) (ls : List Lnk) (nm : List UInt8) : D := if netOk ns ls = true then waysV ns (trn (edgN ns ls)) nm else .nils
end Go.Gv

set_option linter.unusedSimpArgs false
namespace Go.Gv
def noutW (n : Nat) (out : Nat → Bool) : Nat := wtS (fun v => if out v = true then 0 else 1) n
theorem noutW_step {n : Nat} {out : Nat → Bool} {i : Nat} (hi : i < n) (ho : out i = false) : noutW n out = noutW n (fun u => if u = i then true else out u) + 1 := by
  unfold noutW
  rw [wtS_upd (f := fun v => if out v = true then 0 else 1) (g := fun v => if (if v = i then true else out v) = true then 0 else 1) hi (fun k hk => by simp only [if_neg hk]) (by simp)]
  simp [ho]
variable {C : CC} (hC : Closed prog C)
include hC
set_option maxHeartbeats 4000000 in
theorem rReachF_c {b b' : Bool} {n : Nat} {es : List Edg} (hn : n ≤ 300) (he : es.length ≤ 1000) (hg : inG n es) (fr : List Nat) (hf : ∀ s ∈ fr, s < n) (hl : fr.length ≤ 1000) : C 513 [.int .i64 n, slx b (es.map edK), slx b' (intL fr)] .any [.own 1 (boolA n (rB es fr))] := by
  refine startF hC (nf := N513_ref08_Reach) rfl rfl ?_
  simp [N513_ref08_Reach]
  refine ⟨by omega, ?_⟩
  refine loop_of Nat (fun j => [(1, slx b (es.map edK)), (2, slx b' (intL fr)), (7, .ref (.r 10112) 0 n), (10112, .blk 1 (boolA n fun v => decide (v ∈ fr.take j))), (8, .int .i64 j)]) (fun j => j ≤ fr.length) (fun j => fr.length - j) 0 (by simp) (by simp [boolA, rep_map]) ?_
  rintro j hj
  simp [intL_len]
  refine brB_of (fun h => ?_) (fun h => ?_) <;> simp [h] <;> simp at h
  · have hw : IntKind.wrap .i64 ((j : Int) + 1) = ((j + 1 : Nat) : Int) := wrap_i64 (by omega) (by omega)
    have hfj := hf _ (List.getElem_mem h)
    have hgj : (intL fr)[j]? = some [.int .i64 (fr[j] : Int)] := by simp [intL, h]
    have hb1 : 1 ≤ ((boolA n fun v => decide (v ∈ fr.take j))[fr[j]]'(by rw [boolA_len]; exact hfj)).length := by simp [boolA]
    have hb2 : ((boolA n fun v => decide (v ∈ fr.take j))[fr[j]]'(by rw [boolA_len]; exact hfj)).tail = [] := by simp [boolA]
    have hset := boolA_set (n := n) (v := fr[j]) (fun v => decide (v ∈ fr.take j)) true
    have hnx : (boolA n fun u => if u = fr[j] then true else decide (u ∈ fr.take j)) = boolA n fun v => decide (v ∈ fr.take (j + 1)) := boolA_congr fun v _ => by
      have e0 : decide (v ∈ fr.take (j + 1)) = decide (v ∈ fr.take j ∨ v = fr[j]) := decide_eq_decide.2 (mem_tk h)
      rw [e0]
      by_cases e : v = fr[j]
      · rw [if_pos e]; exact (decide_eq_true (.inr e)).symm
      · rw [if_neg e]; exact decide_eq_decide.2 ⟨.inl, fun h => h.resolve_right e⟩
    simp [idxW_some hgj, hgj, h, intL_len, hfj, boolA_len, hb1, hb2, hw]
    exact ⟨j + 1, by omega, by omega, by rw [← hnx]; exact hset, by omega⟩
  have ej : j = fr.length := by omega
  subst ej
  clear h hj
  rw [List.take_of_length_le (Nat.le_refl fr.length)]
  refine loop_of ((Nat → Bool) × Nat) (fun s => [(1, slx b (es.map edK)), (7, .ref (.r 10112) 0 n), (10112, .blk 1 (boolA n s.1)), (9, .bool (decide (s.2 = 1)))])
    (fun s => (∀ v, s.1 v = true → RR es fr v) ∧ (∀ v ∈ fr, s.1 v = true) ∧ (s.2 ≠ 1 → ∀ u w, (u, w) ∈ es → s.1 u = true → s.1 w = true))
    (fun s => 2 * noutW n s.1 + if s.2 = 1 then 1 else 0) ((fun v => decide (v ∈ fr)), 1) ⟨fun v hv => ⟨v, by simpa using hv, .refl v⟩, fun v hv => by simpa using hv, fun h => absurd rfl h⟩ (by simp) ?_
  rintro ⟨out, more⟩ ⟨i1, i2, i3⟩
  simp only at i1 i2 i3
  simp
  by_cases hmo : more = 1
  rotate_left
  · have hcl := rB_closed i1 i2 (i3 hmo)
    simp [hmo]
    exact ⟨fun r hr c hc => by
      obtain ⟨v, _, rfl⟩ := List.mem_map.1 hr
      simp at hc; subst hc; rfl, by rw [boolA_len], boolA_congr fun v _ => hcl v⟩
  · simp [hmo]
    refine loop_of ((Nat → Bool) × Nat × Nat) (fun s => [(1, slx b (es.map edK)), (7, .ref (.r 10112) 0 n), (10112, .blk 1 (boolA n s.1)), (9, .bool (decide (s.2.1 = 1))), (10, .int .i64 s.2.2)])
      (fun s => s.2.2 ≤ es.length ∧ (∀ v, s.1 v = true → RR es fr v) ∧ (∀ v ∈ fr, s.1 v = true) ∧ (s.2.1 ≠ 1 → noutW n s.1 = noutW n out ∧ ∀ (j : Nat) (h : j < es.length), j < s.2.2 → s.1 es[j].1 = true → s.1 es[j].2 = true) ∧ (s.2.1 = 1 → noutW n s.1 < noutW n out))
      (fun s => es.length - s.2.2) (out, 0, 0) ⟨Nat.zero_le _, i1, i2, fun _ => ⟨rfl, fun j h h2 => absurd h2 (Nat.not_lt_zero _)⟩, fun h => by simp at h⟩ (by simp) ?_
    clear i1 i2 i3
    rintro ⟨o2, m, k⟩ ⟨j0, j1, j2, j3, j4⟩
    simp only at j0 j1 j2 j3 j4
    simp
    refine brB_of (fun h => ?_) (fun h => ?_) <;> simp [h] <;> simp at h
    · have hw : IntKind.wrap .i64 ((k : Int) + 1) = ((k + 1 : Nat) : Int) := wrap_i64 (by omega) (by omega)
      obtain ⟨g1, g2⟩ := hg _ (List.getElem_mem h)
      simp [h, edK, knD, g1, g2, boolA_len, rowW_some (boolA_get o2 g1), boolA_get o2 g1]
      have e1 : (es[k].1, es[k].2) ∈ es := List.getElem_mem h
      cases c1 : o2 es[k].1
      · simp [hw]
        refine ⟨o2, m, k + 1, ⟨by omega, j1, j2, fun hm => ⟨(j3 hm).1, fun j hj hjk h2 => ?_⟩, j4⟩, by omega, rfl, Iff.rfl, by omega⟩
        rcases Nat.lt_succ_iff_lt_or_eq.1 hjk with h3 | rfl
        · exact (j3 hm).2 j hj h3 h2
        · rw [c1] at h2; cases h2
      · simp [h, edK, knD, g1, g2, boolA_len, rowW_some (boolA_get o2 g2), boolA_get o2 g2]
        cases c2 : o2 es[k].2
        · have hb1 : 1 ≤ ((boolA n o2)[es[k].2]'(by rw [boolA_len]; exact g2)).length := by simp [boolA]
          have hb2 : ((boolA n o2)[es[k].2]'(by rw [boolA_len]; exact g2)).tail = [] := by simp [boolA]
          have hset := boolA_set (n := n) (v := es[k].2) o2 true
          have hst := noutW_step g2 c2
          simp [h, edK, knD, g2, boolA_len, hb1, hb2, hw]
          refine ⟨fun u => if u = es[k].2 then true else o2 u, 1, k + 1, ⟨by omega, fun v hv => ?_, fun v hv => ?_, fun hm => absurd rfl hm, fun _ => ?_⟩, by omega, hset, rfl, by omega⟩
          · by_cases e : v = es[k].2
            · rw [e]
              obtain ⟨s0, hs0, hp⟩ := j1 _ c1
              exact ⟨s0, hs0, hp.snoc e1⟩
            · simp only [if_neg e] at hv; exact j1 v hv
          · simp only; split
            · rfl
            · exact j2 v hv
          · by_cases e : m = 1
            · have := j4 e; omega
            · have := (j3 e).1; omega
        · simp [hw]
          refine ⟨o2, m, k + 1, ⟨by omega, j1, j2, fun hm => ⟨(j3 hm).1, fun j hj hjk h2 => ?_⟩, j4⟩, by omega, rfl, Iff.rfl, by omega⟩
          rcases Nat.lt_succ_iff_lt_or_eq.1 hjk with h3 | rfl
          · exact (j3 hm).2 j hj h3 h2
          · exact c2
    · have ek : k = es.length := by omega
      subst ek
      refine ⟨o2, m, ⟨j1, j2, fun hm u w e hu => ?_⟩, ?_, rfl, Iff.rfl⟩
      · obtain ⟨j, hj, ej⟩ := List.getElem_of_mem e
        have := (j3 hm).2 j hj hj
        rw [ej] at this
        exact this hu
      · by_cases e : m = 1
        · have := j4 e; simp only [if_pos e, if_pos hmo]; omega
        · have := (j3 e).1; simp only [if_neg e, if_pos hmo]; omega
end Go.Gv

set_option linter.unusedSimpArgs false
namespace Go.Gv
theorem trA_get2 {es : List Edg} {j : Nat} (h : j < es.length) : (trA es (j + 1))[j]? = some [.int .i64 es[j].2, .int .i64 es[j].1] := by
  simp [trA, h, edK, knD]
theorem intL_V (l : List Nat) : List.map (fun e => List.map cellV e) (intL l) = intL l := by
  unfold intL
  rw [List.map_map]
  apply List.map_congr_left
  intro v _
  simp [cellV]
noncomputable def upsR (es : List Edg) (x : Nat) : Nat → Bool := rB (trn es) (tgs (trn es) x)
variable {C : CC} (hC : Closed prog C)
include hC
set_option maxHeartbeats 2000000 in
theorem rWaysF_c (b1 b2 : Bool) (ns : List Nod) (ls : List Lnk) (x : Nat) (hv : netOk ns ls = true) : C 502 [.agg [slx b1 (ns.map nodC), slx b2 (ls.map lnkC)], .int .i64 x, .bool true] .any [.own 1 (boolA ns.length (upsR (edgN ns ls) x))] := by
  have k2 := rEdgesF_c hC b1 b2 ns ls hv
  obtain ⟨l1, l2⟩ := netOk_len hv
  have hg := trn_in (edgN_in hv)
  have hel := edgN_len ns ls
  have hgl := tgs_len (trn (edgN ns ls)) x
  have htl := trn_len (edgN ns ls)
  have k3 := rReachF_c hC (b := false) (b' := false) l1 (es := trn (edgN ns ls)) (by omega) hg (tgs (trn (edgN ns ls)) x) (fun s hs => (hg _ (mem_tgs.1 hs)).2) (by omega)
  simp only [slx_false] at k3
  unfold upsR
  generalize edgN ns ls = es at *
  refine startF hC (nf := N502_ref26_Ways) rfl rfl ?_
  simp [N502_ref26_Ways]
  refine callFW_of k2 ?_
  simp
  refine loop_of Nat (fun j => [(1, .int .i64 x), (2, .bool true), (3, .ptr [slx b1 (ns.map nodC), slx b2 (ls.map lnkC)]), (7, .ref (.r 10112) 0 es.length), (10112, .blk 2 (trA es j)), (8, .ref (.r 10128) 0 (tgs ((trn es).take j) x).length), (10128, .blk 1 (intL (tgs ((trn es).take j) x))), (9, .int .i64 j)]) (fun j => j ≤ es.length) (fun j => es.length - j) 0 (by simp) (by simp [trA_0, tgs, intL]) ?_
  rintro j hj
  simp
  refine brB_of (fun h => ?_) (fun h => ?_) <;> simp [h] <;> simp at h
  · have hw : IntKind.wrap .i64 ((j : Int) + 1) = ((j + 1 : Nat) : Int) := wrap_i64 (by omega) (by omega)
    have hs := trA_set h
    have hgj : (trA es j)[j]'(by rw [trA_len]; exact h) = [.int .i64 es[j].1, .int .i64 es[j].2] := by
      have := trA_get h
      rw [List.getElem?_eq_getElem (by rw [trA_len]; exact h)] at this
      exact Option.some.inj this
    have hjt : j < (trn es).length := by omega
    have ht := tgs_take hjt x
    have e0 : (trn es)[j] = (es[j].2, es[j].1) := by simp [trn]
    rw [e0] at ht
    have hl1 := tgs_len ((trn es).take j) x
    have hl2 : ((trn es).take j).length = j := by simp; omega
    generalize tgs ((trn es).take j) x = T at *
    have hT : (intL T).take T.length = intL T := List.take_of_length_le (by rw [intL_len]; exact Nat.le_refl _)
    simp [h, trA_len, rowW_some (trA_get h), trA_get h, hgj, hs]
    refine ⟨indW_of (by decide +kernel), ?_⟩
    simp [rowW_some (trA_get2 h), trA_get2 h]
    by_cases c : es[j].2 = x
    · rw [if_pos c] at ht
      simp [c, h, trA_len, rowW_some (trA_get2 h), trA_get2 h]
      refine ⟨by rw [intL_len]; exact Nat.le_refl _, by omega, ?_⟩
      simp [hw]
      refine ⟨j + 1, by omega, by omega, ?_⟩
      rw [ht, hT]
      simp [intL]
    · rw [if_neg c, List.append_nil] at ht
      have c' : ¬ (es[j].2 : Int) = x := by omega
      simp [c, c', hw]
      exact ⟨j + 1, by omega, by omega, by rw [ht]; simp⟩
  · have ej : j = es.length := by omega
    subst ej
    have e1 : (trn es).take es.length = trn es := by rw [← htl, List.take_length]
    have hV : List.take es.length (List.map (fun e => List.map cellV e) (trA es es.length)) = List.map edK (trn es) := by
      rw [trA_V, List.take_of_length_le (by rw [trA_len]; exact Nat.le_refl _), trA_end]
    have hV2 : List.take (tgs (trn es) x).length (List.map (fun e => List.map cellV e) (intL (tgs (trn es) x))) = intL (tgs (trn es) x) := by
      rw [intL_V, List.take_of_length_le (by rw [intL_len]; exact Nat.le_refl _)]
    simp [trA_len, intL_len, e1, hV, hV2]
    refine callFW_of k3 ?_
    simp [boolA_len]
    exact fun r hr c hc => by
      obtain ⟨v, _, rfl⟩ := List.mem_map.1 hr
      simp at hc; subst hc; rfl
noncomputable def upX (ns : List Nod) (ls : List Lnk) (x v : Nat) : Bool := if v = x then true else upsR (edgN ns ls) x v
theorem edgN_src {ns : List Nod} {ls : List Lnk} (hv : netOk ns ls = true) {k : Nat} (hk : k < ls.length) : idxD (nodIs ls[k].src) ns = (((edgN ns ls)[k]'(by rw [edgN_len]; exact hk)).1 : Nat) := by
  obtain ⟨_, _, g1, g2⟩ := netOk_lnk hv hk
  simp only [edgN, List.getElem_map]
  omega
set_option maxHeartbeats 2000000 in
theorem rUpper_c (b1 b2 : Bool) (ns : List Nod) (ls : List Lnk) (k : Nat) (hv : netOk ns ls = true) (hk : k < ls.length) : C 468 [.agg [slx b1 (ns.map nodC), slx b2 (ls.map lnkC)], .int .i64 k] (.sl (boolA ns.length (upX ns ls ((edgN ns ls)[k]'(by rw [edgN_len]; exact hk)).1))) [] := by
  obtain ⟨l1, l2⟩ := netOk_len hv
  have k1 := rNode_c hC b1 b2 ns ls ls[k].src (by omega)
  have hx := (edgN_in hv _ (List.getElem_mem (show k < (edgN ns ls).length by rw [edgN_len]; exact hk))).1
  rw [edgN_src hC hv hk] at k1
  have k2 := rWaysF_c hC b1 b2 ns ls ((edgN ns ls)[k]'(by rw [edgN_len]; exact hk)).1 hv
  unfold upX
  generalize ((edgN ns ls)[k]'(by rw [edgN_len]; exact hk)).1 = x at *
  generalize upsR (edgN ns ls) x = f at *
  have hb1 : 1 ≤ ((boolA ns.length f)[x]'(by rw [boolA_len]; exact hx)).length := by simp [boolA]
  have hb2 : ((boolA ns.length f)[x]'(by rw [boolA_len]; exact hx)).tail = [] := by simp [boolA]
  have hset := boolA_set (n := ns.length) (v := x) f true
  refine start hC (nf := N468_ref30_Upper) rfl rfl ?_
  simp [N468_ref30_Upper, hk, lnkC]
  refine callW_of k1 (.inl rfl) ?_
  simp
  refine ⟨indW_of (by decide +kernel), ?_⟩
  refine callFW_of k2 ?_
  simp [boolA_len, hx, hb1, hb2, hset]
  rw [boolA_V, List.take_of_length_le (by rw [boolA_len]; exact Nat.le_refl _)]
end Go.Gv

set_option linter.unusedSimpArgs false
namespace Go.Gv
def bigNod (n : Nod) : Bool := decide (110 < n.shape.length) || decide (100 < n.name.length)
def bigLnk (l : Lnk) : Bool := decide (110 < l.curve.length) || decide (100 < l.name.length) || decide (100 < l.src.length) || decide (100 < l.dst.length) || decide (100 < l.sect.length)
def bigSec (s : Sec) : Bool := decide (110 < s.area.length) || decide (110 < s.conv.length) || decide (100 < s.name.length)
def large30 (ns : List Nod) (ls : List Lnk) (ss : List Sec) (k : Nat) : Bool := decide (12 < ns.length) || decide (20 < ls.length) || decide (12 < ss.length) || decide (25 < k) || ns.any bigNod || ls.any bigLnk || ss.any bigSec
def exNod (nm : UInt8) : Nod := ⟨[nm], 1, 0, 0, 0, 9, false, [(0, 0), (9, 5)], false, 0⟩
def exLnk (nm a b : UInt8) : Lnk := ⟨[nm], [a], [b], 1, 5, 3, 0, [115], 0, 0, true, []⟩
def exN : List Nod := [exNod 97, exNod 98, ⟨[111], 3, 0, 0, 0, 0, true, [], false, 0⟩]
def exL : List Lnk := [exLnk 112 97 98, exLnk 113 98 111]
variable {C : CC} (hC : Closed prog C)
include hC
theorem bigNod_c (n : Nod) : C 454 [.agg (nodC n)] (.bool (bigNod n)) [] := by
  refine start hC (nf := N454_law30_large_1) rfl rfl ?_
  simp [N454_law30_large_1, nodC]
  unfold bigNod
  by_cases h1 : (110 : Int) < n.shape.length
  · simp [h1, show 110 < n.shape.length by omega]
  · simp [h1, show ¬ 110 < n.shape.length by omega]
    omega
theorem bigLnk_c (l : Lnk) : C 456 [.agg (lnkC l)] (.bool (bigLnk l)) [] := by
  refine start hC (nf := N456_law30_large_2) rfl rfl ?_
  simp [N456_law30_large_2, lnkC]
  unfold bigLnk
  by_cases h1 : (110 : Int) < l.curve.length
  · simp [h1, show 110 < l.curve.length by omega]
  by_cases h2 : (100 : Int) < l.name.length
  · simp [h1, h2, show 100 < l.name.length by omega]
  by_cases h3 : (100 : Int) < l.src.length
  · simp [h1, h2, h3, show 100 < l.src.length by omega]
  by_cases h4 : (100 : Int) < l.dst.length
  · simp [h1, h2, h3, h4, show 100 < l.dst.length by omega]
  simp [h1, h2, h3, h4, show ¬ 110 < l.curve.length by omega, show ¬ 100 < l.name.length by omega, show ¬ 100 < l.src.length by omega, show ¬ 100 < l.dst.length by omega]
  omega
theorem bigSec_c (s : Sec) : C 457 [.agg (secC s)] (.bool (bigSec s)) [] := by
  refine start hC (nf := N457_law30_large_3) rfl rfl ?_
  simp [N457_law30_large_3, secC]
  unfold bigSec
  by_cases h1 : (110 : Int) < s.area.length
  · simp [h1, show 110 < s.area.length by omega]
  by_cases h2 : (110 : Int) < s.conv.length
  · simp [h1, h2, show 110 < s.conv.length by omega]
  simp [h1, h2, show ¬ 110 < s.area.length by omega, show ¬ 110 < s.conv.length by omega]
  omega
theorem large30_c (b1 b2 b3 b4 : Bool) (ns : List Nod) (ls : List Lnk) (ss : List Sec) (q : List Sp) (h1 : ns.length < 2 ^ 62) (h2 : ls.length < 2 ^ 62) (h3 : ss.length < 2 ^ 62) : C 426 [.agg [slx b1 (ns.map nodC), slx b2 (ls.map lnkC)], slx b3 (ss.map secC), slx b4 (q.map knD)] (.bool (large30 ns ls ss q.length)) [] := by
  have k1 := hasNod_c hC (b := b1) (xs := ns) (g := 454) (cs := []) bigNod h1 (fun x _ => bigNod_c hC x)
  have k2 := hasLnk_c hC (b := b2) (xs := ls) (g := 456) (cs := []) bigLnk h2 (fun x _ => bigLnk_c hC x)
  have k3 := hasSec_c hC (b := b3) (xs := ss) (g := 457) (cs := []) bigSec h3 (fun x _ => bigSec_c hC x)
  refine start hC (nf := N426_law30_large) rfl rfl ?_
  simp [N426_law30_large]
  unfold large30
  by_cases c1 : (12 : Int) < ns.length
  · simp [c1, show 12 < ns.length by omega]
  by_cases c2 : (20 : Int) < ls.length
  · simp [c1, c2, show 20 < ls.length by omega]
  by_cases c3 : (12 : Int) < ss.length
  · simp [c1, c2, c3, show 12 < ss.length by omega]
  by_cases c4 : (25 : Int) < q.length
  · simp [c1, c2, c3, c4, show 25 < q.length by omega]
  simp [c1, c2, c3, c4, show ¬ 12 < ns.length by omega, show ¬ 20 < ls.length by omega, show ¬ 12 < ss.length by omega, show ¬ 25 < q.length by omega]
  refine callW_of k1 (.inl rfl) ?_
  cases d1 : ns.any bigNod
  · simp
    refine callW_of k2 (.inl rfl) ?_
    cases d2 : ls.any bigLnk
    · simp
      refine callW_of k3 (.inl rfl) ?_
      simp
      intro h; omega
    · simp
  · simp
theorem exNode_c (nm : UInt8) : C 486 [.str [nm]] (.agg (nodC (exNod nm))) [] := by
  refine start hC (nf := N486_law30_example_1) rfl rfl ?_
  simp [N486_law30_example_1, nodC, exNod, knD]
theorem exLink_c (nm a b : UInt8) : C 487 [.str [nm], .str [a], .str [b]] (.agg (lnkC (exLnk nm a b))) [] := by
  refine start hC (nf := N487_law30_example_2) rfl rfl ?_
  simp [N487_law30_example_2, lnkC, exLnk, knD]
  rfl
theorem ex30_c : C 452 [] (.agg [.sl (exN.map nodC), .sl (exL.map lnkC)]) [] := by
  have k1 := exNode_c hC 97
  have k2 := exNode_c hC 98
  have k3 := exLink_c hC 112 97 98
  have k4 := exLink_c hC 113 98 111
  have e0 : slx true ([] : List (List D)) = .nils := rfl
  simp [nodC, exNod, knD] at k1 k2
  simp [lnkC, exLnk, e0] at k3 k4
  refine start hC (nf := N452_law30_example) rfl rfl ?_
  simp [N452_law30_example]
  refine callW_of k1 (.inr rfl) ?_
  simp
  refine callW_of k2 (.inr rfl) ?_
  simp
  refine callW_of k3 (.inr rfl) ?_
  simp
  refine callW_of k4 (.inr rfl) ?_
  simp
  exact ⟨rfl, rfl⟩
theorem eqSp_c (b b' : Bool) (xs ys : List (Int × Int)) (hx : xs.length < 2 ^ 62) (hy : ys.length < 2 ^ 62) : C 434 [slx b (xs.map knD), slx b' (ys.map knD)] (.bool (decide (xs = ys))) [] := by
  obtain ⟨r, hr⟩ : ∃ r, r = decide (xs = ys) := ⟨_, rfl⟩
  rw [← hr]
  refine start hC (nf := N434_slices_Equal__api_Span_api_Span) rfl rfl ?_
  simp [N434_slices_Equal__api_Span_api_Span]
  refine brB_of (fun h => ?_) (fun h => ?_) <;> simp at h <;> simp [h]
  · rw [hr, decide_eq_false]
    intro e
    exact h (by rw [e])
  have h' : xs.length = ys.length := by omega
  refine loop_of Nat (fun i => [(0, slx b (xs.map knD)), (1, slx b' (ys.map knD)), (12, .int .i64 xs.length), (13, .int .i64 i)])
    (fun i => i ≤ xs.length ∧ ∀ (k : Nat) (h1 : k < xs.length) (h2 : k < ys.length), k < i → xs[k] = ys[k]) (fun i => xs.length - i) 0 (by simp) (by simp [h']) ?_
  rintro i ⟨hi, hok⟩
  simp
  refine brB_of (fun h1 => ?_) (fun h1 => ?_) <;> simp at h1 <;> simp [h1]
  · have hw : IntKind.wrap .i64 ((i : Int) + 1) = ((i + 1 : Nat) : Int) := wrap_i64 (by omega) (by omega)
    have hy1 : i < ys.length := by omega
    simp [h1, hy1, knD]
    refine ⟨indW_of (by decide +kernel), ?_⟩
    by_cases h2 : xs[i] = ys[i]
    · simp [h2, hw]
      refine ⟨i + 1, ⟨by omega, fun k k1 k2 hk => ?_⟩, by omega, rfl⟩
      rcases Nat.lt_succ_iff_lt_or_eq.1 hk with h5 | rfl
      · exact hok k k1 k2 h5
      · exact h2
    · have h3 : ¬ (xs[i].1 = ys[i].1 ∧ xs[i].2 = ys[i].2) := fun e => h2 (Prod.ext e.1 e.2)
      refine brB_of (fun h4 => ?_) (fun h4 => ?_) <;> simp at h4 <;> simp [h4]
      · rw [hr, decide_eq_false]
        intro e
        exact h2 (by simp [e])
      · exact absurd h4 h3
  · rw [hr, decide_eq_true]
    exact List.ext_getElem h' fun k k1 k2 => hok k k1 k2 (by omega)
theorem awake30_c (hS : SlC C) : C 425 [] (.bool true) [] := by
  have k1 := ex30_c hC
  have k2 := Flows_c hC hS false false false exN exL [(1, 2), (3, 5), (0, 9)] (by decide) (by decide) (by decide)
  have k3 := sTree_c hC hS false false exN exL (by decide) (by decide)
  have e1 : FlowsE exN exL [(1, 2), (3, 5), (0, 9)] = 0 := by decide +kernel
  have e2 : flowsF exN.length (edgN exN exL) [(1, 2), (3, 5), (0, 9)] = [(1, 2), (4, 7)] := by decide +kernel
  have e3 : treeN exN exL = true := by decide +kernel
  have k4 := eqSp_c hC false false [(1, 2), (4, 7)] [(1, 2), (4, 7)] (by decide) (by decide)
  rw [FlowsV, e1, if_pos rfl, e2] at k2
  rw [e3] at k3
  simp only [slx_false] at k2 k3 k4
  refine start hC (nf := N425_law30_awake) rfl rfl ?_
  simp [N425_law30_awake]
  refine callW_of k1 (.inr rfl) ?_
  simp [knD] at k2 ⊢
  refine callW_of k2 (.inr rfl) ?_
  simp
  refine callW_of k1 (.inr rfl) ?_
  simp
  refine callW_of k3 (.inl rfl) ?_
  simp [knD] at k4 ⊢
  refine callW_of k4 (.inl rfl) ?_
  simp
end Go.Gv

set_option linter.unusedSimpArgs false
namespace Go.Gv
variable {C : CC} (hC : Closed prog C)
include hC
end Go.Gv

set_option linter.unusedSimpArgs false
namespace Go.Gv
structure DepthOk (s : Sec) (fall len : Int) (y : Sp) : Prop where
  lo : 0 ≤ y.1
  hi : y.1 ≤ s.height
  fl : y.2 ≤ 1099511627776
  yes : y.2 ≤ (carF s y.1 fall len : Int)
  no : 0 < y.1 → (carF s (y.1 - 1) fall len : Int) < y.2
theorem DepthOk.cap {s : Sec} {fall len : Int} {y : Sp} (h : DepthOk s fall len y) (hs : secValid s = true) (hf : slopeOk fall len = true) : (capF s y.1 fall len).2 = 5 ∨ ((capF s y.1 fall len).2 = 0 ∧ y.2 ≤ (capF s y.1 fall len).1) := by
  have := h.yes
  unfold capF
  rw [if_pos hs, if_pos ⟨h.lo, h.hi, hf⟩]
  split
  · exact .inl rfl
  · exact .inr ⟨rfl, this⟩
variable {C : CC} (hC : Closed prog C)
include hC
end Go.Gv

set_option linter.unusedSimpArgs false
namespace Go.Gv
variable {C : CC} (hC : Closed prog C)
include hC
end Go.Gv
