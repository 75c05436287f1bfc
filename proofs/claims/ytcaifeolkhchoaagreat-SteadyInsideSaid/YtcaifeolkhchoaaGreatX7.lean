/-
  Texts of the proof: K4, K5, K6, GvW, K7, K8, K9, K10, B3, P4, M0, W1, W2, W3, W4, K11, W5, P4b, Q0, Q1, GvX, GvX2, Q2, Q3, Q4, Q5, B4, B5.
-/
import Derived.Test.YtcaifeolkhchoaaGreatX6
import Derived.Lib.Mul64
import Derived.Laws.Bits64b
import Derived.Laws.MathBits
import Derived.Lib.SlicesCompact
set_option linter.all false
set_option linter.unusedSimpArgs false
namespace Go.Gv
open Go.Lib

theorem maskN (a : Nat) (ha : a < 18446744073709551616) : bits .and .u64 (a : Int) 4294967295 = ((a % 4294967296 : Nat) : Int) := by
  have h := bits_and_u64_nat a 4294967295 ha (by omega)
  have e : a &&& 4294967295 = a % 4294967296 := Nat.and_two_pow_sub_one_eq_mod a 32
  rw [e] at h
  exact h
theorem shrN (a k : Nat) : Int.fdiv (a : Int) (2 ^ k) = ((a / 2 ^ k : Nat) : Int) := by
  rw [Int.fdiv_eq_ediv_of_nonneg _ (by exact Int.pow_nonneg (by omega))]
  norm_cast
theorem shr32 (a : Nat) : Int.fdiv (a : Int) (2 ^ min 32 IntKind.u64.bits) = ((a / 4294967296 : Nat) : Int) := shrN a 32
theorem mulN (a b : Nat) : (a : Int) * (b : Int) = ((a * b : Nat) : Int) := (Int.natCast_mul a b).symm
theorem addN (a b : Nat) : (a : Int) + (b : Int) = ((a + b : Nat) : Int) := (Int.natCast_add a b).symm
theorem wrapN (a : Nat) (ha : a < 18446744073709551616) : IntKind.u64.wrap (a : Int) = (a : Int) := by
  have e1 : IntKind.u64.signed = false := rfl
  have e3 : (2 ^ IntKind.u64.bits : Int) = 18446744073709551616 := rfl
  unfold IntKind.wrap
  simp only [e1, e3, Bool.false_and]
  simp
  omega
theorem wrapM (a : Nat) : IntKind.u64.wrap (a : Int) = ((a % 18446744073709551616 : Nat) : Int) := by
  have e1 : IntKind.u64.signed = false := rfl
  have e3 : (2 ^ IntKind.u64.bits : Int) = 18446744073709551616 := rfl
  unfold IntKind.wrap
  simp only [e1, e3, Bool.false_and]
  simp

variable {C : CC} (hC : Closed prog C)
include hC
theorem Mul64_c (x y : Nat) (hx : x < 18446744073709551616) (hy : y < 18446744073709551616) : C 91 [.int .u64 x, .int .u64 y] (.tup [.int .u64 ((x * y / 18446744073709551616 : Nat) : Int), .int .u64 ((x * y % 18446744073709551616 : Nat) : Int)]) [] := by
  refine start hC (nf := N91_math_bits_Mul64) rfl rfl ?_
  obtain ⟨bd, bt, bw, hhi⟩ := Lib.mul64_hi x y hx hy
  have ba := Lib.half_mul_le (a := x / 4294967296) (b := y / 4294967296) (by omega) (by omega)
  have bb := Lib.half_mul_le (a := x / 4294967296) (b := y % 4294967296) (by omega) (by omega)
  have bc := Lib.half_mul_le (a := x % 4294967296) (b := y / 4294967296) (by omega) (by omega)
  have ba' : x / 4294967296 * (y / 4294967296) < 18446744073709551616 := by omega
  have bb' : x / 4294967296 * (y % 4294967296) < 18446744073709551616 := by omega
  have bc' : x % 4294967296 * (y / 4294967296) < 18446744073709551616 := by omega
  have bh1 : x / 4294967296 * (y / 4294967296) + (x / 4294967296 * (y % 4294967296) + x % 4294967296 * (y % 4294967296) / 4294967296) / 4294967296 < 18446744073709551616 := by omega
  have bh : x / 4294967296 * (y / 4294967296) + (x / 4294967296 * (y % 4294967296) + x % 4294967296 * (y % 4294967296) / 4294967296) / 4294967296 + ((x / 4294967296 * (y % 4294967296) + x % 4294967296 * (y % 4294967296) / 4294967296) % 4294967296 + x % 4294967296 * (y / 4294967296)) / 4294967296 < 18446744073709551616 := by omega
  simp [N91_math_bits_Mul64]
  simp only [maskN x hx, maskN y hy, shr32, mulN, addN, wrapN _ bd, wrapN _ bb', wrapN _ bt, maskN _ bt, wrapN _ bc', wrapN _ bw, wrapN _ ba', wrapN _ bh1, wrapN _ bh, wrapM (x * y)]
  rw [hhi]
  exact ⟨by omega, by omega⟩
end Go.Gv

set_option linter.unusedSimpArgs false
namespace Go.Gv

theorem shr16 (a : Nat) : Int.fdiv (a : Int) (2 ^ min 16 IntKind.u64.bits) = ((a / 65536 : Nat) : Int) := shrN a 16
theorem shr8 (a : Nat) : Int.fdiv (a : Int) (2 ^ min 8 IntKind.u64.bits) = ((a / 256 : Nat) : Int) := shrN a 8
theorem wrap8 (a : Nat) (h : a < 256) : IntKind.u8.wrap (a : Int) = (a : Int) := by
  have e1 : IntKind.u8.signed = false := rfl
  have e3 : (2 ^ IntKind.u8.bits : Int) = 256 := rfl
  unfold IntKind.wrap
  simp only [e1, e3, Bool.false_and]
  simp
  omega
theorem len8t_spec : S1.length = 256 ∧ ∀ n : Fin 256, S1[n.val]?.getD 0 = UInt8.ofNat (bitLen n.val) ∧ bitLen n.val ≤ 8 := by decide +kernel

theorem len8_fin {x n z : Nat} {m : Int} (hz : z < 256) (hm : m = n) (hn : n ≤ 56) (h : n + bitLen z = bitLen x) : 0 ≤ IntKind.u8.wrap (z : Int) ∧ (IntKind.u8.wrap (z : Int)).toNat < S1.length ∧ IntKind.i64.wrap (m + IntKind.i64.wrap ↑(S1[(IntKind.u8.wrap (z : Int)).toNat]?.getD default).toNat) = (bitLen x : Int) := by
  rw [wrap8 z hz]
  obtain ⟨h1, h2⟩ := len8t_spec
  obtain ⟨h3, h4⟩ := h2 ⟨z, hz⟩
  have e : (S1[(z : Int).toNat]?.getD default).toNat = bitLen z := by
    show (S1[z]?.getD 0).toNat = bitLen z
    simp only at h3 h4
    rw [h3, UInt8.toNat_ofNat']
    omega
  simp only at h4
  rw [e]
  have e2 : IntKind.i64.wrap (bitLen z : Int) = (bitLen z : Int) := wrap_i64 rfl (by omega)
  refine ⟨by omega, by omega, ?_⟩
  rw [e2, hm]
  exact wrap_i64 (by omega) (by omega)
variable {C : CC} (hC : Closed prog C)
include hC
theorem Len64_c (x : Nat) (hx : x < 18446744073709551616) : C 111 [.int .u64 x] (.int .i64 (bitLen x)) [] := by
  refine start hC (nf := N111_math_bits_Len64) rfl rfl ?_
  have key : ∀ (b z : Nat), 2 ^ b ≤ z → bitLen z = b + bitLen (z / 2 ^ b) := fun b z h => bitLen_shift z b (by
    have := Nat.div_pos h (Nat.two_pow_pos b)
    omega)
  simp [N111_math_bits_Len64]
  refine brB_of (fun h1 => ?_) (fun h1 => ?_) <;> simp at h1
  · obtain ⟨y, hy⟩ : ∃ y : Nat, y = x / 4294967296 := ⟨_, rfl⟩
    have e1 : Int.fdiv (x : Int) (2 ^ min 32 IntKind.u64.bits) = (y : Int) := by rw [shr32, hy]
    have k1 := key 32 x (by omega)
    simp [e1]
    refine brB_of (fun h2 => ?_) (fun h2 => ?_) <;> simp at h2
    · obtain ⟨z, hz⟩ : ∃ z : Nat, z = y / 65536 := ⟨_, rfl⟩
      have e2 : Int.fdiv (y : Int) (2 ^ min 16 IntKind.u64.bits) = (z : Int) := by rw [shr16, hz]
      have k2 := key 16 y (by omega)
      simp [e2]
      refine brB_of (fun h3 => ?_) (fun h3 => ?_) <;> simp at h3
      · obtain ⟨v, hv⟩ : ∃ v : Nat, v = z / 256 := ⟨_, rfl⟩
        have e3 : Int.fdiv (z : Int) (2 ^ min 8 IntKind.u64.bits) = (v : Int) := by rw [shr8, hv]
        have k3 := key 8 z (by omega)
        simp [e3]
        refine len8_fin (n := 56) (by omega) ?_ (by omega) ?_
        · decide
        · simp only [Nat.reducePow] at k1 k2 k3
          rw [← hy] at k1; rw [← hz] at k2; rw [← hv] at k3; omega
      · simp
        refine len8_fin (n := 48) (by omega) ?_ (by omega) ?_
        · decide
        · simp only [Nat.reducePow] at k1 k2
          rw [← hy] at k1; rw [← hz] at k2; omega
    · simp
      refine brB_of (fun h3 => ?_) (fun h3 => ?_) <;> simp at h3
      · obtain ⟨v, hv⟩ : ∃ v : Nat, v = y / 256 := ⟨_, rfl⟩
        have e3 : Int.fdiv (y : Int) (2 ^ min 8 IntKind.u64.bits) = (v : Int) := by rw [shr8, hv]
        have k3 := key 8 y (by omega)
        simp [e3]
        refine len8_fin (n := 40) (by omega) ?_ (by omega) ?_
        · decide
        · simp only [Nat.reducePow] at k1 k3
          rw [← hy] at k1; rw [← hv] at k3; omega
      · simp
        refine len8_fin (n := 32) (by omega) ?_ (by omega) ?_
        · decide
        · simp only [Nat.reducePow] at k1
          rw [← hy] at k1; omega
  · simp
    refine brB_of (fun h2 => ?_) (fun h2 => ?_) <;> simp at h2
    · obtain ⟨z, hz⟩ : ∃ z : Nat, z = x / 65536 := ⟨_, rfl⟩
      have e2 : Int.fdiv (x : Int) (2 ^ min 16 IntKind.u64.bits) = (z : Int) := by rw [shr16, hz]
      have k2 := key 16 x (by omega)
      simp [e2]
      refine brB_of (fun h3 => ?_) (fun h3 => ?_) <;> simp at h3
      · obtain ⟨v, hv⟩ : ∃ v : Nat, v = z / 256 := ⟨_, rfl⟩
        have e3 : Int.fdiv (z : Int) (2 ^ min 8 IntKind.u64.bits) = (v : Int) := by rw [shr8, hv]
        have k3 := key 8 z (by omega)
        simp [e3]
        refine len8_fin (n := 24) (by omega) ?_ (by omega) ?_
        · decide
        · simp only [Nat.reducePow] at k2 k3
          rw [← hz] at k2; rw [← hv] at k3; omega
      · simp
        refine len8_fin (n := 16) (by omega) ?_ (by omega) ?_
        · decide
        · simp only [Nat.reducePow] at k2
          rw [← hz] at k2; omega
    · simp
      refine brB_of (fun h3 => ?_) (fun h3 => ?_) <;> simp at h3
      · obtain ⟨v, hv⟩ : ∃ v : Nat, v = x / 256 := ⟨_, rfl⟩
        have e3 : Int.fdiv (x : Int) (2 ^ min 8 IntKind.u64.bits) = (v : Int) := by rw [shr8, hv]
        have k3 := key 8 x (by omega)
        simp [e3]
        refine len8_fin (n := 8) (by omega) ?_ (by omega) ?_
        · decide
        · simp only [Nat.reducePow] at k3
          rw [← hv] at k3; omega
      · simp
        have := len8_fin (x := x) (n := 0) (m := 0) (z := x) (by omega) rfl (by omega) (by omega)
        simpa using this
theorem LeadingZeros64_c (x : Nat) (hx : x < 18446744073709551616) : C 102 [.int .u64 x] (.int .i64 ((64 - bitLen x : Nat) : Int)) [] := by
  have hb : bitLen x ≤ 64 := by
    unfold bitLen
    split
    · omega
    · rename_i h
      have := (Nat.log2_lt h).2 (show x < 2 ^ 64 by omega)
      omega
  refine start hC (nf := N102_math_bits_LeadingZeros64) rfl rfl ?_
  simp [N102_math_bits_LeadingZeros64]
  refine callW_of (Len64_c hC x hx) (.inl rfl) ?_
  have e : IntKind.wrap .i64 (64 - (bitLen x : Int)) = ((64 - bitLen x : Nat) : Int) := wrap_i64 (by omega) (by omega)
  simp [e]
end Go.Gv

namespace Go.Gv

/-- A digit's quotient so far: u is what is divided, d the next digit, y = a K + b. -/
structure DvI (u d a b q r : Nat) : Prop where
  sum : q * a + r = u
  ge : (u * 4294967296 + d) / (a * 4294967296 + b) ≤ q
  rlt : r < 4294967296
  qle : q ≤ 4294967297

section
variable {u d a b q r : Nat}
theorem Dv.mul (h : q * a + r = u) : q * (a * 4294967296 + b) + r * 4294967296 = u * 4294967296 + q * b := by
  subst h
  rw [Nat.mul_add, ← Nat.mul_assoc, Nat.add_mul]
  omega
theorem Dv.lt (_ : 0 < a) (hu : u < a * 4294967296 + b) (hd : d < 4294967296) : (u * 4294967296 + d) / (a * 4294967296 + b) < 4294967296 := by
  rw [Nat.div_lt_iff_lt_mul (by omega)]
  have : (u + 1) * 4294967296 ≤ (a * 4294967296 + b) * 4294967296 := Nat.mul_le_mul_right _ hu
  omega
theorem DvI.first (ha : 2147483648 ≤ a) (ha2 : a < 4294967296) (hb : b < 4294967296) (hu : u < a * 4294967296 + b) (hd : d < 4294967296) : DvI u d a b (u / a) (u % a) where
  sum := by rw [Nat.mul_comm]; exact Nat.div_add_mod u a
  rlt := by have := Nat.mod_lt u (show 0 < a by omega); omega
  ge := by
    rw [Nat.le_div_iff_mul_le (by omega)]
    have h := Nat.div_mul_le_self (u * 4294967296 + d) (a * 4294967296 + b)
    generalize (u * 4294967296 + d) / (a * 4294967296 + b) = Q at *
    rw [Nat.mul_add, ← Nat.mul_assoc] at h
    generalize Q * b = z at *
    generalize Q * a = x at *
    omega
  qle := by
    have : u / a < 4294967298 := by
      rw [Nat.div_lt_iff_lt_mul (by omega)]
      omega
    omega
theorem DvI.more (h : DvI u d a b q r) (ha : 0 < a) (hu : u < a * 4294967296 + b) (hd : d < 4294967296) (hc : 4294967296 ≤ q ∨ 4294967296 * r + d < q * b) : (u * 4294967296 + d) / (a * 4294967296 + b) + 1 ≤ q := by
  rcases hc with hc | hc
  · have := Dv.lt (d := d) ha hu hd
    omega
  · have h1 := Dv.mul (b := b) h.sum
    have : (u * 4294967296 + d) / (a * 4294967296 + b) < q := by
      rw [Nat.div_lt_iff_lt_mul (by omega)]
      generalize q * (a * 4294967296 + b) = z at *
      generalize q * b = x at *
      omega
    omega
theorem DvI.done (h : DvI u d a b q r) (ha : 0 < a) (hc : q * b ≤ 4294967296 * r + d) : q = (u * 4294967296 + d) / (a * 4294967296 + b) := by
  have h1 := Dv.mul (b := b) h.sum
  have h2 := h.ge
  have : q ≤ (u * 4294967296 + d) / (a * 4294967296 + b) := by
    rw [Nat.le_div_iff_mul_le (by omega)]
    generalize q * (a * 4294967296 + b) = z at *
    generalize q * b = x at *
    omega
  omega
/-- One less; and what is left is more. -/
theorem DvI.next (h : DvI u d a b q r) (ha : 0 < a) (hu : u < a * 4294967296 + b) (hd : d < 4294967296) (hc : 4294967296 ≤ q ∨ 4294967296 * r + d < q * b) :
    1 ≤ q ∧ (q - 1) * a + (r + a) = u ∧ (u * 4294967296 + d) / (a * 4294967296 + b) ≤ q - 1 ∧ q - 1 ≤ 4294967296 := by
  have h1 := h.more ha hu hd hc
  have h2 := h.qle
  have h3 := h.sum
  generalize (u * 4294967296 + d) / (a * 4294967296 + b) = Q at *
  obtain ⟨q', rfl⟩ : ∃ q', q = q' + 1 := ⟨q - 1, by omega⟩
  refine ⟨by omega, ?_, by omega, by omega⟩
  rw [Nat.add_mul] at h3
  simp only [Nat.add_sub_cancel]
  omega
theorem Dv.stop (hs : q * a + r = u) (hg : (u * 4294967296 + d) / (a * 4294967296 + b) ≤ q) (hq : q ≤ 4294967296) (ha : 0 < a) (hb : b < 4294967296) (hr : 4294967296 ≤ r) : q = (u * 4294967296 + d) / (a * 4294967296 + b) := by
  have h1 := Dv.mul (b := b) hs
  have h3 : q * b ≤ 4294967296 * 4294967295 := Nat.mul_le_mul hq (by omega)
  have : q ≤ (u * 4294967296 + d) / (a * 4294967296 + b) := by
    rw [Nat.le_div_iff_mul_le (by omega)]
    generalize q * (a * 4294967296 + b) = z at *
    generalize q * b = x at *
    omega
  omega
theorem DvI.bnd (h : DvI u d a b q r) (hb : b < 4294967296) : q * b < 18446744073709551616 := by
  have := Nat.mul_le_mul h.qle (show b ≤ 4294967295 by omega)
  omega
end

/-- The digits together. -/
theorem dv_all {N y S A K un0 y' : Nat} (hy : 0 < y) (hs : 0 < S) (hy' : y' = y * S) (hn : N * S = A * K + un0) :
    A / y' * K + (A % y' * K + un0) / y' = N / y ∧ (A % y' * K + un0) % y' / S = N % y := by
  have hyp : 0 < y' := by rw [hy']; exact Nat.mul_pos hy hs
  have e1 := Nat.div_add_mod A y'
  have e2 := Nat.div_add_mod (A % y' * K + un0) y'
  have l2 := Nat.mod_lt (A % y' * K + un0) hyp
  have tot : y' * (A / y' * K + (A % y' * K + un0) / y') + (A % y' * K + un0) % y' = N * S := by
    rw [hn, Nat.mul_add, Nat.add_assoc, e2, ← Nat.mul_assoc, ← Nat.add_assoc, ← Nat.add_mul, e1]
  have hq : N * S / y' = A / y' * K + (A % y' * K + un0) / y' := by
    rw [← tot, Nat.mul_add_div hyp, Nat.div_eq_of_lt l2, Nat.add_zero]
  have hr : N * S % y' = (A % y' * K + un0) % y' := by
    rw [← tot, Nat.mul_add_mod, Nat.mod_eq_of_lt l2]
  rw [hy', Nat.mul_div_mul_right _ _ hs] at hq
  rw [hy', Nat.mul_mod_mul_right] at hr
  rw [hy'] at *
  exact ⟨hq.symm, by rw [← hr, Nat.mul_div_cancel _ hs]⟩
end Go.Gv

namespace Go.Gv

section
variable {C : CC}
theorem resX_mono {f : Nat → D} {dst : Option Nat} {K K' : KT} {o : NOp} (h : resX C f dst K o) (hk : ∀ ws ks, K ws ks → K' ws ks) : resX C f dst K' o := by
  obtain ⟨ws, ks, h1, h2⟩ := resX_one h
  exact h2 K' (hk ws ks h1)
theorem skipE_mono {e : Env} {dst : Option Nat} {K K' : Env → Prop} (h : skipE e dst K) (hk : ∀ e, K e → K' e) : skipE e dst K' := by
  unfold skipE at h ⊢
  split at h
  · exact hk _ h
  · exact hk _ h
theorem wpNs_mono {K K' : Env → Prop} (hk : ∀ e, K e → K' e) : ∀ (ns : List NOper) (e : Env), wpNs C K ns e → wpNs C K' ns e
  | [], e, h => hk e h
  | o :: os, e, h => by
    rw [wpNs] at h ⊢
    split at h
    · exact resX_mono h (fun ws ks h1 => wpNs_mono hk os _ h1)
    · split at h
      · exact ⟨fun hb => resX_mono (h.1 hb) (fun ws ks h1 => wpNs_mono hk os _ h1), fun hb => skipE_mono (h.2 hb) (fun e h1 => wpNs_mono hk os e h1)⟩
      · exact skipE_mono h (fun e h1 => wpNs_mono hk os e h1)
      · exact h.elim
theorem wpNd_mono {hs : List Nat} {K K' : Env → Prop} (hk : ∀ e, K e → K' e) : ∀ (ns : List NOper) (e : Env) (acc : List (List Nat × List Nat)), wpNd C hs K ns e acc → wpNd C hs K' ns e acc
  | [], e, acc, h => ⟨h.1, hk e h.2⟩
  | o :: os, e, acc, h => by
    rw [wpNd] at h ⊢
    refine ⟨h.1, ?_⟩
    have h := h.2
    split at h
    · exact resX_mono h (fun ws ks h1 => ⟨h1.1, wpNd_mono hk os _ _ h1.2⟩)
    · split at h
      · exact ⟨fun hb => resX_mono (h.1 hb) (fun ws ks h1 => ⟨h1.1, wpNd_mono hk os _ _ h1.2⟩), fun hb => skipE_mono (h.2 hb) (fun e h1 => wpNd_mono hk os e _ h1)⟩
      · exact skipE_mono h (fun e h1 => wpNd_mono hk os e _ h1)
      · exact h.elim
theorem wpN_mono : ∀ (c : NCode) (Q Q' : NExit → Env → Prop) (e : Env), (∀ t e, Q t e → Q' t e) → wpN C c Q e → wpN C c Q' e
  | .skip, Q, Q', e, hq, h => hq _ _ h
  | .reg dr hs keep ops, Q, Q', e, hq, h => by
    cases dr with
    | false => exact wpNs_mono (fun e h => hq _ _ h) ops e h
    | true => exact wpNd_mono (fun e h => hq _ _ h) ops e [] h
  | .seq x y, Q, Q', e, hq, h => wpN_mono x _ _ e (fun t e h => by
      cases t with
      | nrm => exact wpN_mono y Q Q' e hq h
      | ext i => exact hq _ _ h
      | ret => exact hq _ _ h) h
  | .cond c x y, Q, Q', e, hq, h => by
    rw [wpN] at h ⊢
    split at h
    · exact ⟨fun hb => wpN_mono x Q Q' e hq (h.1 hb), fun hb => wpN_mono y Q Q' e hq (h.2 hb)⟩
    · exact ⟨wpN_mono x Q Q' e hq h.1, wpN_mono y Q Q' e hq h.2⟩
    · exact h.elim
  | .block id c, Q, Q', e, hq, h => wpN_mono c _ _ e (fun t e h => by
      cases t with
      | nrm => exact hq _ _ h
      | ext i =>
        simp only at h ⊢
        split
        · rename_i hi; rw [if_pos hi] at h; exact hq _ _ h
        · rename_i hi; rw [if_neg hi] at h; exact hq _ _ h
      | ret => exact hq _ _ h) h
  | .loop c, Q, Q', e, hq, h => by
    obtain ⟨S, G, I, m, s0, h1, h2, h3⟩ := h
    refine ⟨S, G, I, m, s0, h1, h2, fun s hs => wpN_mono c _ _ _ (fun t e h => ?_) (h3 s hs)⟩
    cases t with
    | nrm => exact h
    | ext i => exact hq _ _ h
    | ret => exact hq _ _ h
  | .exit id, Q, Q', e, hq, h => hq _ _ h
  | .ret, Q, Q', e, hq, h => hq _ _ h

/-- Behind a loop: one of the states J, seen through G. -/
def outK (id : Nat) (S : Type) (G : S → Env) (J : S → Prop) (Q : NExit → Env → Prop) : NExit → Env → Prop := fun t e => match t with
  | .ext i => if i = id then ∃ s, J s ∧ Weak e (G s) else Q (.ext i) e
  | t => Q t e
variable {Q : NExit → Env → Prop} {e : Env}
@[simp] theorem endW_out_nrm {id S G J u} : endW (outK id S G J Q) u .nrm e = endW Q ⟨⟩ .nrm e := _root_.id rfl
@[simp] theorem endW_out_ret {id S G J u} : endW (outK id S G J Q) u .ret e = endW Q ⟨⟩ .ret e := _root_.id rfl
@[simp] theorem endW_out_ext {id S G J u i} : endW (outK id S G J Q) u (.ext i) e = if i = id then ∃ s, J s ∧ Weak e (G s) else endW Q ⟨⟩ (.ext i) e := _root_.id rfl
theorem loop_out {c : NCode} {u : Tag (c, Q)} (id : Nat) (S : Type) (G : S → Env) (J : S → Prop) (h : loopW C c (outK id S G J Q) ⟨⟩ e) (hr : ∀ s e, J s → Weak e (G s) → endW Q ⟨⟩ (.ext id) e) : loopW C c Q u e :=
  wpN_mono (.loop c) (outK id S G J Q) Q e (fun t e g => by
    cases t with
    | nrm => exact g
    | ret => exact g
    | ext i =>
      simp only [outK] at g
      by_cases hi : i = id
      · rw [if_pos hi] at g
        obtain ⟨s, h1, h2⟩ := g
        rw [hi]
        exact hr s e h1 h2
      · rw [if_neg hi] at g
        exact g) h
/-- The same for a piece of code: behind it is one of the states J. -/
def midK (S : Type) (G : S → Env) (J : S → Prop) (Q : NExit → Env → Prop) : NExit → Env → Prop := fun t e => match t with
  | .nrm => ∃ s, J s ∧ Weak e (G s)
  | t => Q t e
@[simp] theorem endW_mid_nrm {S G J u} : endW (midK S G J Q) u .nrm e = ∃ s, J s ∧ Weak e (G s) := _root_.id rfl
@[simp] theorem endW_mid_ret {S G J u} : endW (midK S G J Q) u .ret e = endW Q ⟨⟩ .ret e := _root_.id rfl
@[simp] theorem endW_mid_ext {S G J u i} : endW (midK S G J Q) u (.ext i) e = endW Q ⟨⟩ (.ext i) e := _root_.id rfl
end
@[simp] theorem rowW_map {C : CC} {hs : Option (List Nat)} {K : Env → Prop} {ns : List NOper} {dst : Option Nat} {u : Tag (hs, K, ns)} {e : Env} {R : List Nat} {acc : List (List Nat × List Nat)} {α : Type} [Inhabited α] {n : Nat} {ag : Bool} {p : Pa} {xs : List α} {f : α → List D} {i off : Nat} :
    rowW C hs K ns dst u e R acc n ag p (xs.map f) i off = (i < xs.length ∧ off + n ≤ (f xs[i]!).length ∧ match ag with
        | true => ((((f xs[i]!).drop off).take n).all isV = true → dW C hs K ns dst ⟨⟩ e R acc (.agg (((f xs[i]!).drop off).take n))) ∧
            ((((f xs[i]!).drop off).take n).all isV = false → dW C hs K ns dst ⟨⟩ e R acc (.agx ((((f xs[i]!).drop off).take n).mapIdx fun j c => ldc p i (off + j) c)))
        | false => dW C hs K ns dst ⟨⟩ e R acc (ldc p i off (((f xs[i]!).drop off).headD .any))) := by
  apply propext
  constructor
  · rintro ⟨r, h, h1, h2⟩
    rw [List.getElem?_map, Option.map_eq_some_iff] at h
    obtain ⟨x, hx, rfl⟩ := h
    obtain ⟨hi, rfl⟩ := List.getElem?_eq_some_iff.1 hx
    rw [getElem!_pos xs i hi]
    refine ⟨hi, h1, ?_⟩
    cases ag <;> exact h2
  · rintro ⟨hi, h1, h2⟩
    rw [getElem!_pos xs i hi] at h1 h2
    refine rowW_of (r := f xs[i]) (by rw [List.getElem?_map, List.getElem?_eq_getElem hi]; rfl) h1 ?_
    cases ag <;> exact h2
@[simp] theorem kill1_ptx {b all ks n} : kill1 ((b, all) :: ks) (.ptx n) = if n.any (ment1 b all) then .any else kill1 ks (.ptx n) := by
  have h : kill1 ((b, all) :: ks) (.ptx n) = bif (n.any (ment1 b all) || mentL ks (.ptx n)) then .any else .ptx n := kill1_eq ..
  rw [h, kill1_eq]
  cases n.any (ment1 b all) <;> rfl
@[simp] theorem kill1_tpx {b all ks n} : kill1 ((b, all) :: ks) (.tpx n) = if n.any (ment1 b all) then .any else kill1 ks (.tpx n) := by
  have h : kill1 ((b, all) :: ks) (.tpx n) = bif (n.any (ment1 b all) || mentL ks (.tpx n)) then .any else .tpx n := kill1_eq ..
  rw [h, kill1_eq]
  cases n.any (ment1 b all) <;> rfl
@[simp] theorem ment1_slx {b all n es} : ment1 b all (slx n es) = false := by cases n <;> cases es <;> rfl
@[simp] theorem ment1_ref {b all p k n} : ment1 b all (.ref p k n) = mentP b all p := _root_.id rfl
@[simp] theorem ment1_adr {b all p k n} : ment1 b all (.adr p k n) = mentP b all p := _root_.id rfl
@[simp] theorem ment1_mrf {b all c} : ment1 b all (.mrf c) = (all && c == b) := _root_.id rfl
@[simp] theorem ment1_int {b all k n} : ment1 b all (.int k n) = false := _root_.id rfl
@[simp] theorem ment1_bool {b all n} : ment1 b all (.bool n) = false := _root_.id rfl
@[simp] theorem ment1_str {b all n} : ment1 b all (.str n) = false := _root_.id rfl
@[simp] theorem ment1_nils {b all} : ment1 b all .nils = false := _root_.id rfl
@[simp] theorem ment1_nilp {b all} : ment1 b all .nilp = false := _root_.id rfl
@[simp] theorem ment1_sl {b all n} : ment1 b all (.sl n) = false := _root_.id rfl
@[simp] theorem ment1_ptr {b all n} : ment1 b all (.ptr n) = false := _root_.id rfl
@[simp] theorem ment1_fn {b all g n} : ment1 b all (.fn g n) = false := _root_.id rfl
@[simp] theorem kill1_mrf {b all ks c} : kill1 ((b, all) :: ks) (.mrf c) = if (all && c == b) then .any else kill1 ks (.mrf c) := by
  have h : kill1 ((b, all) :: ks) (.mrf c) = bif ((all && c == b) || mentL ks (.mrf c)) then .any else .mrf c := kill1_eq ..
  rw [h, kill1_eq]
  cases all && c == b <;> rfl
end Go.Gv

set_option linter.unusedSimpArgs false
namespace Go.Gv

theorem tdivN (a b : Nat) : Int.tdiv (a : Int) (b : Int) = ((a / b : Nat) : Int) := by
  rw [Int.tdiv_eq_ediv_of_nonneg (by omega)]; norm_cast
theorem tmodN (a b : Nat) : Int.tmod (a : Int) (b : Int) = ((a % b : Nat) : Int) := by
  rw [Int.tmod_eq_emod_of_nonneg (by omega)]; norm_cast
theorem wrapU (a : Int) : IntKind.u64.wrap a = a % 18446744073709551616 := by
  have e1 : IntKind.u64.signed = false := rfl
  have e3 : (2 ^ IntKind.u64.bits : Int) = 18446744073709551616 := rfl
  unfold IntKind.wrap
  simp only [e1, e3, Bool.false_and]
  simp
theorem orN (a b i : Nat) (hb : b < 2 ^ i) (h : a * 2 ^ i + b < 18446744073709551616) : bits .or .u64 ((a * 2 ^ i : Nat) : Int) (b : Int) = ((a * 2 ^ i + b : Nat) : Int) := by
  rw [bits_or_u64_nat _ _ (by omega) (by omega), Nat.mul_comm a, Nat.two_pow_add_eq_or_of_lt hb]

theorem mul_shift (a m b s : Nat) : (a * m + b) * s = a * s * m + b * s := by rw [Nat.add_mul, Nat.mul_right_comm]
theorem tot_l {H B W U d1 d0 : Nat} (hU : U = H + B) (h1 : d1 = W / 4294967296) (h0 : d0 = W % 4294967296) : H * 18446744073709551616 + (B * 18446744073709551616 + W) = (U * 4294967296 + d1) * 4294967296 + d0 := by omega
/-- A divisor, shifted. -/
theorem norm_y {y s : Nat} (h0 : y ≠ 0) (hy : y < 18446744073709551616) (hs : s = 64 - bitLen y) : s ≤ 63 ∧ 9223372036854775808 ≤ y * 2 ^ s ∧ y * 2 ^ s < 18446744073709551616 := by
  obtain ⟨h1, h2⟩ := bitLen_spec y
  have h3 := h2 h0
  have hb : bitLen y ≤ 64 := by
    unfold bitLen
    rw [if_neg h0]
    have := (Nat.log2_lt h0).2 (show y < 2 ^ 64 by omega)
    omega
  have hb1 : 1 ≤ bitLen y := by unfold bitLen; rw [if_neg h0]; omega
  have e : bitLen y + s = 64 := by omega
  refine ⟨by omega, ?_, ?_⟩
  · have := Nat.mul_le_mul_right (2 ^ s) h3
    rw [← Nat.pow_add, show bitLen y - 1 + s = 63 by omega] at this
    omega
  · have := Nat.mul_lt_mul_of_pos_right h1 (Nat.two_pow_pos s)
    rw [← Nat.pow_add, e] at this
    omega

variable {C : CC} (hC : Closed prog C)
include hC
theorem Div64_c (hi lo y : Nat) (h : hi < y) (hy : y < 18446744073709551616) (hl : lo < 18446744073709551616) :
    C 92 [.int .u64 hi, .int .u64 lo, .int .u64 y] (.tup [.int .u64 (((hi * 18446744073709551616 + lo) / y : Nat) : Int), .int .u64 (((hi * 18446744073709551616 + lo) % y : Nat) : Int)]) [] := by
  refine start hC (nf := N92_math_bits_Div64) rfl rfl ?_
  have h1 : ¬ y = 0 := by omega
  have h2 : ¬ y ≤ hi := by omega
  generalize hres : D.tup [D.int .u64 (((hi * 18446744073709551616 + lo) / y : Nat) : Int), .int .u64 (((hi * 18446744073709551616 + lo) % y : Nat) : Int)] = res
  simp [N92_math_bits_Div64]
  refine brB_of (fun h => ?_) (fun _ => ?_)
  · simp at h; omega
  simp
  refine brB_of (fun h => ?_) (fun _ => ?_)
  · simp at h; omega
  simp
  refine brB_of (fun h => ?_) (fun h3 => ?_)
  · simp at h
    have : hi = 0 := by omega
    subst this
    have hq : lo / y < 18446744073709551616 := by have := Nat.div_le_self lo y; omega
    obtain ⟨q, hq'⟩ : ∃ q, q = lo / y := ⟨_, rfl⟩
    obtain ⟨r, hr'⟩ : ∃ r, r = lo % y := ⟨_, rfl⟩
    have e1 : Int.tdiv (lo : Int) (y : Int) = (q : Int) := by rw [tdivN, hq']
    have e2 : Int.tmod (lo : Int) (y : Int) = (r : Int) := by rw [tmodN, hr']
    simp [h1, e1, e2, wrapN q (by omega)]
    refine ⟨indW_of (by decide +kernel), ?_⟩
    rw [← hres, hq', hr', Nat.zero_mul, Nat.zero_add]
  simp
  refine callW_of (LeadingZeros64_c hC y hy) (.inl rfl) ?_
  generalize hs : 64 - bitLen y = s
  obtain ⟨s1, s2, s3⟩ := norm_y h1 hy hs.symm
  have w1 : IntKind.u64.wrap (s : Int) = (s : Int) := wrapN _ (by omega)
  have w2 : IntKind.u64.wrap (64 - (s : Int)) = ((64 - s : Nat) : Int) := by rw [wrapU]; omega
  have m1 : min s IntKind.u64.bits = s := by show min s 64 = s; omega
  have m2 : min (64 - s) IntKind.u64.bits = 64 - s := by show min (64 - s) 64 = 64 - s; omega
  obtain ⟨Y, hY⟩ : ∃ Y, Y = y * 2 ^ s := ⟨_, rfl⟩
  obtain ⟨H, hH⟩ : ∃ H, H = hi * 2 ^ s := ⟨_, rfl⟩
  obtain ⟨W, hW⟩ : ∃ W, W = lo * 2 ^ s % 18446744073709551616 := ⟨_, rfl⟩
  obtain ⟨B, hB⟩ : ∃ B, B = lo / 2 ^ (64 - s) := ⟨_, rfl⟩
  rw [← hY] at s2 s3
  have hHY : H + 2 ^ s ≤ Y := by
    have := Nat.mul_le_mul_right (2 ^ s) h
    rw [hH, hY]
    rw [Nat.succ_mul] at this
    exact this
  have hBs : B < 2 ^ s := by
    rw [hB, Nat.div_lt_iff_lt_mul (Nat.two_pow_pos _), ← Nat.pow_add, show s + (64 - s) = 64 by omega]
    exact hl
  obtain ⟨U, hU⟩ : ∃ U, U = H + B := ⟨_, rfl⟩
  have hUY : U < Y := by omega
  have eY : IntKind.u64.wrap ((y : Int) * 2 ^ s) = (Y : Int) := by
    rw [show (y : Int) * 2 ^ s = (Y : Int) by rw [hY]; norm_cast]; exact wrapN _ s3
  have eH : IntKind.u64.wrap ((hi : Int) * 2 ^ s) = (H : Int) := by
    rw [show (hi : Int) * 2 ^ s = (H : Int) by rw [hH]; norm_cast]; exact wrapN _ (by omega)
  have eW : IntKind.u64.wrap ((lo : Int) * 2 ^ s) = (W : Int) := by
    rw [show (lo : Int) * 2 ^ s = ((lo * 2 ^ s : Nat) : Int) by norm_cast, wrapM, hW]
  have eB : Int.fdiv (lo : Int) (2 ^ (64 - s)) = (B : Int) := by rw [shrN, hB]
  have eU : bits .or .u64 (H : Int) (B : Int) = (U : Int) := by
    rw [hU, hH]; exact orN hi B s hBs (by omega)
  obtain ⟨Y1, hY1⟩ : ∃ Y1, Y1 = Y / 4294967296 := ⟨_, rfl⟩
  obtain ⟨Y0, hY0⟩ : ∃ Y0, Y0 = Y % 4294967296 := ⟨_, rfl⟩
  obtain ⟨d1, hd1⟩ : ∃ d1, d1 = W / 4294967296 := ⟨_, rfl⟩
  obtain ⟨d0, hd0⟩ : ∃ d0, d0 = W % 4294967296 := ⟨_, rfl⟩
  have eY1 : Int.fdiv (Y : Int) (2 ^ min 32 IntKind.u64.bits) = (Y1 : Int) := by rw [shr32, hY1]
  have eY0 : bits .and .u64 (Y : Int) 4294967295 = (Y0 : Int) := by rw [maskN _ s3, hY0]
  have hW64 : W < 18446744073709551616 := by rw [hW]; exact Nat.mod_lt _ (by omega)
  have ed1 : Int.fdiv (W : Int) (2 ^ min 32 IntKind.u64.bits) = (d1 : Int) := by rw [shr32, hd1]
  have ed0 : bits .and .u64 (W : Int) 4294967295 = (d0 : Int) := by rw [maskN _ hW64, hd0]
  have hY1a : 2147483648 ≤ Y1 := by omega
  have hY1b : Y1 < 4294967296 := by omega
  have hY0b : Y0 < 4294967296 := by omega
  have hd1b : d1 < 4294967296 := by omega
  have hd0b : d0 < 4294967296 := by omega
  have hYs : Y1 * 4294967296 + Y0 = Y := by omega
  have nz : ¬ Y1 = 0 := by omega
  have inv1 := DvI.first hY1a hY1b hY0b (u := U) (d := d1) (by omega) hd1b
  obtain ⟨q, hq⟩ : ∃ q, q = U / Y1 := ⟨_, rfl⟩
  obtain ⟨r, hr⟩ : ∃ r, r = U % Y1 := ⟨_, rfl⟩
  rw [← hq, ← hr] at inv1
  have eq1 : Int.tdiv (U : Int) (Y1 : Int) = (q : Int) := by rw [tdivN, hq]
  have eq2 : IntKind.u64.wrap (q : Int) = (q : Int) := wrapN _ (by have := inv1.qle; omega)
  have sub1 : ∀ (u a q r : Nat), q * a + r = u → u < 18446744073709551616 → IntKind.u64.wrap ((u : Int) - IntKind.u64.wrap ((q : Int) * (a : Int))) = (r : Int) := fun u a q r e hu => by
    rw [mulN, wrapU, wrapU]
    generalize q * a = z at *
    omega
  have er : IntKind.u64.wrap ((U : Int) - IntKind.u64.wrap ((q : Int) * (Y1 : Int))) = (r : Int) := sub1 _ _ _ _ inv1.sum (by omega)
  simp [w1, w2, m1, m2, eY, eH, eW, eB, eU, eY1, eY0, ed1, ed0, eq1, eq2, er, nz]
  have bm : ∀ {u d q r : Nat}, DvI u d Y1 Y0 q r → IntKind.u64.wrap ((q : Int) * (Y0 : Int)) = ((q * Y0 : Nat) : Int) := fun i => by rw [mulN]; exact wrapN _ (i.bnd hY0b)
  have bp : ∀ {u d q r : Nat}, d < 4294967296 → DvI u d Y1 Y0 q r → IntKind.u64.wrap (IntKind.u64.wrap (4294967296 * (r : Int)) + (d : Int)) = ((4294967296 * r + d : Nat) : Int) := fun {u d q r} hd i => by
    have := i.rlt
    rw [show (4294967296 : Int) * (r : Int) = ((4294967296 * r : Nat) : Int) by omega, wrapN (4294967296 * r) (by omega), addN]
    exact wrapN _ (by omega)
  -- the first digit
  obtain ⟨Q1, hQ1⟩ : ∃ Q1, Q1 = (U * 4294967296 + d1) / (Y1 * 4294967296 + Y0) := ⟨_, rfl⟩
  refine loop_out 0 Nat (fun x => [(2, .int .u64 Y), (8, .int .u64 s), (9, .int .u64 Y1), (10, .int .u64 Y0), (11, .int .u64 U), (13, .int .u64 d1), (14, .int .u64 d0), (15, .int .u64 x)]) (fun x => x = Q1) ?_ ?_
  · refine loop_of (Nat × Nat) (fun x => [(2, .int .u64 Y), (8, .int .u64 s), (9, .int .u64 Y1), (10, .int .u64 Y0), (11, .int .u64 U), (13, .int .u64 d1), (14, .int .u64 d0), (15, .int .u64 x.1), (16, .int .u64 x.2)]) (fun x => DvI U d1 Y1 Y0 x.1 x.2) (fun x => 4294967296 - x.2) (q, r) inv1 (by simp) ?_
    rintro ⟨a, c⟩ inv
    simp only at inv
    have b1 := bm inv
    have b2 := bp hd1b inv
    have b3 := inv.rlt
    have b4 := inv.qle
    have fin : (4294967296 ≤ a ∨ 4294967296 * c + d1 < a * Y0) → ∃ a' c' : Nat, IntKind.u64.wrap ((a : Int) - 1) = (a' : Int) ∧ IntKind.u64.wrap ((c : Int) + (Y1 : Int)) = (c' : Int) ∧ c' = c + Y1 ∧ (4294967296 ≤ c' → a' = Q1) ∧ (c' < 4294967296 → DvI U d1 Y1 Y0 a' c') := fun hc => by
      obtain ⟨n1, n2, n3, n4⟩ := inv.next (by omega) (by rw [hYs]; exact hUY) hd1b hc
      refine ⟨a - 1, c + Y1, by rw [wrapU]; omega, by rw [wrapU]; omega, rfl, fun hc => (Dv.stop n2 n3 n4 (by omega) hY0b hc).trans hQ1.symm, fun hc => ⟨n2, n3, hc, by omega⟩⟩
    simp
    refine brB_of (fun c1 => ?_) (fun c1 => ?_) <;> simp [c1] <;> simp at c1
    · obtain ⟨a', c', k1, k2, k3, k4, k5⟩ := fin (.inl (by omega))
      simp [k1, k2]
      refine brB_of (fun c2 => ?_) (fun c2 => ?_) <;> simp [c2, k1, k2] <;> simp at c2
      · rw [k4 (by omega)]
      · exact ⟨_, _, k5 (by omega), by omega, rfl, rfl⟩
    · simp [b1, b2]
      refine brB_of (fun c3 => ?_) (fun c3 => ?_) <;> simp [c3] <;> simp at c3
      · obtain ⟨a', c', k1, k2, k3, k4, k5⟩ := fin (.inr (by omega))
        simp [k1, k2]
        refine brB_of (fun c2 => ?_) (fun c2 => ?_) <;> simp [c2, k1, k2] <;> simp at c2
        · rw [k4 (by omega)]
        · exact ⟨_, _, k5 (by omega), by omega, rfl, rfl⟩
      · rw [(inv.done (by omega) (by omega)).trans hQ1.symm]
  intro q1 e hq1 hw
  subst hq1
  simp at hw
  obtain ⟨g2, g8, g9, g10, g11, g13, g14, g15⟩ := hw
  -- what is left of it
  obtain ⟨V, hV⟩ : ∃ V, V = (U * 4294967296 + d1) % (Y1 * 4294967296 + Y0) := ⟨_, rfl⟩
  have hVY : V < Y := by rw [hV, hYs]; exact Nat.mod_lt _ (by omega)
  have sum1 : q1 * Y + V = U * 4294967296 + d1 := by rw [hQ1, hV, hYs, Nat.mul_comm]; exact Nat.div_add_mod _ _
  have eV : IntKind.u64.wrap (IntKind.u64.wrap (IntKind.u64.wrap ((U : Int) * 4294967296) + (d1 : Int)) - IntKind.u64.wrap ((q1 : Int) * (Y : Int))) = (V : Int) := by
    rw [mulN q1 Y]
    simp only [wrapU]
    generalize q1 * Y = z at *
    omega
  have inv2 := DvI.first hY1a hY1b hY0b (u := V) (d := d0) (by omega) hd0b
  obtain ⟨q2, hq2⟩ : ∃ q, q = V / Y1 := ⟨_, rfl⟩
  obtain ⟨r2, hr2⟩ : ∃ r, r = V % Y1 := ⟨_, rfl⟩
  rw [← hq2, ← hr2] at inv2
  have eq3 : Int.tdiv (V : Int) (Y1 : Int) = (q2 : Int) := by rw [tdivN, hq2]
  have eq4 : IntKind.u64.wrap (q2 : Int) = (q2 : Int) := wrapN _ (by have := inv2.qle; omega)
  have er2 : IntKind.u64.wrap ((V : Int) - IntKind.u64.wrap ((q2 : Int) * (Y1 : Int))) = (r2 : Int) := sub1 _ _ _ _ inv2.sum (by omega)
  simp [g2, g8, g9, g10, g11, g13, g14, g15, eV, eq3, eq4, er2, nz]
  -- the second digit
  obtain ⟨Q0, hQ0⟩ : ∃ Q0, Q0 = (V * 4294967296 + d0) / (Y1 * 4294967296 + Y0) := ⟨_, rfl⟩
  refine loop_out 2 Nat (fun x => [(2, .int .u64 Y), (8, .int .u64 s), (14, .int .u64 d0), (15, .int .u64 q1), (17, .int .u64 V), (18, .int .u64 x)]) (fun x => x = Q0) ?_ ?_
  · refine loop_of (Nat × Nat) (fun x => [(2, .int .u64 Y), (8, .int .u64 s), (9, .int .u64 Y1), (10, .int .u64 Y0), (14, .int .u64 d0), (15, .int .u64 q1), (16, .int .u64 x.2), (17, .int .u64 V), (18, .int .u64 x.1)]) (fun x => DvI V d0 Y1 Y0 x.1 x.2) (fun x => 4294967296 - x.2) (q2, r2) inv2 (by simp) ?_
    rintro ⟨a, c⟩ inv
    simp only at inv
    have b1 := bm inv
    have b2 := bp hd0b inv
    have b3 := inv.rlt
    have b4 := inv.qle
    have fin : (4294967296 ≤ a ∨ 4294967296 * c + d0 < a * Y0) → ∃ a' c' : Nat, IntKind.u64.wrap ((a : Int) - 1) = (a' : Int) ∧ IntKind.u64.wrap ((c : Int) + (Y1 : Int)) = (c' : Int) ∧ c' = c + Y1 ∧ (4294967296 ≤ c' → a' = Q0) ∧ (c' < 4294967296 → DvI V d0 Y1 Y0 a' c') := fun hc => by
      obtain ⟨n1, n2, n3, n4⟩ := inv.next (by omega) (by rw [hYs]; exact hVY) hd0b hc
      refine ⟨a - 1, c + Y1, by rw [wrapU]; omega, by rw [wrapU]; omega, rfl, fun hc => (Dv.stop n2 n3 n4 (by omega) hY0b hc).trans hQ0.symm, fun hc => ⟨n2, n3, hc, by omega⟩⟩
    simp
    refine brB_of (fun c1 => ?_) (fun c1 => ?_) <;> simp [c1] <;> simp at c1
    · obtain ⟨a', c', k1, k2, k3, k4, k5⟩ := fin (.inl (by omega))
      simp [k1, k2]
      refine brB_of (fun c2 => ?_) (fun c2 => ?_) <;> simp [c2, k1, k2] <;> simp at c2
      · rw [k4 (by omega)]
      · exact ⟨_, _, k5 (by omega), by omega, rfl, rfl⟩
    · simp [b1, b2]
      refine brB_of (fun c3 => ?_) (fun c3 => ?_) <;> simp [c3] <;> simp at c3
      · obtain ⟨a', c', k1, k2, k3, k4, k5⟩ := fin (.inr (by omega))
        simp [k1, k2]
        refine brB_of (fun c2 => ?_) (fun c2 => ?_) <;> simp [c2, k1, k2] <;> simp at c2
        · rw [k4 (by omega)]
        · exact ⟨_, _, k5 (by omega), by omega, rfl, rfl⟩
      · rw [(inv.done (by omega) (by omega)).trans hQ0.symm]
  intro q0 e hq0 hw
  subst hq0
  simp at hw
  obtain ⟨g2, g8, g14, g15, g17, g18⟩ := hw
  -- the result
  have l1 : q1 < 4294967296 := by rw [hQ1]; exact Dv.lt (by omega) (by omega) hd1b
  have l0 : q0 < 4294967296 := by rw [hQ0]; exact Dv.lt (by omega) (by omega) hd0b
  obtain ⟨R, hR⟩ : ∃ R, R = (V * 4294967296 + d0) % (Y1 * 4294967296 + Y0) := ⟨_, rfl⟩
  have hRY : R < Y := by rw [hR, hYs]; exact Nat.mod_lt _ (by omega)
  have sum0 : q0 * Y + R = V * 4294967296 + d0 := by rw [hQ0, hR, hYs, Nat.mul_comm]; exact Nat.div_add_mod _ _
  have eR : IntKind.u64.wrap (IntKind.u64.wrap (IntKind.u64.wrap ((V : Int) * 4294967296) + (d0 : Int)) - IntKind.u64.wrap ((q0 : Int) * (Y : Int))) = (R : Int) := by
    rw [mulN q0 Y]
    simp only [wrapU]
    generalize q0 * Y = z at *
    omega
  obtain ⟨Z, hZ⟩ : ∃ Z, Z = R / 2 ^ s := ⟨_, rfl⟩
  have eZ : Int.fdiv (R : Int) (2 ^ s) = (Z : Int) := by rw [shrN, hZ]
  have eQ : IntKind.u64.wrap (IntKind.u64.wrap ((q1 : Int) * 4294967296) + (q0 : Int)) = ((q1 * 4294967296 + q0 : Nat) : Int) := by
    simp only [wrapU]
    omega
  obtain ⟨T, hT⟩ : ∃ T, T = q1 * 4294967296 + q0 := ⟨_, rfl⟩
  rw [← hT] at eQ
  simp [g2, g8, g14, g15, g17, g18, w1, m1, eR, eZ, eQ]
  have hW2 : lo * 2 ^ s = B * 18446744073709551616 + W := by
    have e1 : lo * 2 ^ s / 18446744073709551616 = B := by
      rw [hB, show (18446744073709551616 : Nat) = 2 ^ (64 - s) * 2 ^ s by rw [← Nat.pow_add, show 64 - s + s = 64 by omega], Nat.mul_div_mul_right _ _ (Nat.two_pow_pos s)]
    have e2 := Nat.div_add_mod (lo * 2 ^ s) 18446744073709551616
    omega
  have tot : (hi * 18446744073709551616 + lo) * 2 ^ s = (U * 4294967296 + d1) * 4294967296 + d0 := by
    rw [mul_shift, hW2, ← hH]
    exact tot_l hU hd1 hd0
  obtain ⟨f1, f2⟩ := dv_all (N := hi * 18446744073709551616 + lo) (y := y) (S := 2 ^ s) (A := U * 4294967296 + d1) (K := 4294967296) (un0 := d0) (y' := Y1 * 4294967296 + Y0) (by omega) (Nat.two_pow_pos s) (by rw [hYs, hY]) tot
  rw [← hV, ← hQ1, ← hQ0, ← hT] at f1
  rw [← hV, ← hR, ← hZ] at f2
  rw [← hres, f1, f2]
end Go.Gv

set_option linter.unusedSimpArgs false
namespace Go.Gv

def wideD (n : Nat) : D := .agg [.int .u64 ((n / 18446744073709551616 : Nat) : Int), .int .u64 ((n % 18446744073709551616 : Nat) : Int)]
def rootF (x : Nat) : Nat → Nat → Nat
  | 0, r => r
  | i + 1, r => rootF x i (if (r + 2 ^ i) * (r + 2 ^ i) ≤ x then r + 2 ^ i else r)
def rootN (x : Nat) : Nat := rootF x 63 0

theorem mulwide {x k : Nat} : x * k = (x / 18446744073709551616 * k + x % 18446744073709551616 * k / 18446744073709551616) * 18446744073709551616 + x % 18446744073709551616 * k % 18446744073709551616 := by
  have e1 := Nat.div_add_mod x 18446744073709551616
  have e2 := Nat.div_add_mod (x % 18446744073709551616 * k) 18446744073709551616
  have e3 : x * k = (18446744073709551616 * (x / 18446744073709551616) + x % 18446744073709551616) * k := by rw [e1]
  rw [Nat.add_mul, Nat.mul_assoc] at e3
  generalize x / 18446744073709551616 * k = A at *
  generalize x % 18446744073709551616 * k = B at *
  omega
theorem divwide {x n : Nat} (hn : 0 < n) : x / n = (x / 18446744073709551616 / n) * 18446744073709551616 + (x / 18446744073709551616 % n * 18446744073709551616 + x % 18446744073709551616) / n ∧ (x / 18446744073709551616 % n * 18446744073709551616 + x % 18446744073709551616) / n < 18446744073709551616 := by
  obtain ⟨H, hH⟩ : ∃ H, H = x / 18446744073709551616 := ⟨_, rfl⟩
  obtain ⟨L, hL⟩ : ∃ L, L = x % 18446744073709551616 := ⟨_, rfl⟩
  rw [← hH, ← hL]
  have hx : x = H * 18446744073709551616 + L := by omega
  have hl : L < 18446744073709551616 := by omega
  have e1 := Nat.div_add_mod H n
  have l1 := Nat.mod_lt H hn
  generalize H / n = a at *
  generalize H % n = b at *
  constructor
  · rw [hx, ← e1, show (n * a + b) * 18446744073709551616 + L = n * (a * 18446744073709551616) + (b * 18446744073709551616 + L) by rw [Nat.add_mul, Nat.mul_assoc, Nat.add_assoc], Nat.mul_add_div hn]
  · rw [Nat.div_lt_iff_lt_mul hn]
    have : (b + 1) * 18446744073709551616 ≤ n * 18446744073709551616 := Nat.mul_le_mul_right _ l1
    rw [Nat.mul_comm n] at this
    omega
theorem rootF_step (x i r : Nat) : rootF x (i + 1) r = rootF x i (if (r + 2 ^ i) * (r + 2 ^ i) ≤ x then r + 2 ^ i else r) := rfl

variable {C : CC} (hC : Closed prog C)
include hC
theorem product_c (a b : Nat) (ha : a < 9223372036854775808) (hb : b < 9223372036854775808) : C 74 [.int .i64 a, .int .i64 b] (wideD (a * b)) [] := by
  refine start hC (nf := N74_catalogue_product) rfl rfl ?_
  simp [N74_catalogue_product, wrapN a (by omega), wrapN b (by omega)]
  refine callW_of (Mul64_c hC a b (by omega) (by omega)) (.inl rfl) ?_
  obtain ⟨h, hh⟩ : ∃ h, h = a * b / 18446744073709551616 := ⟨_, rfl⟩
  obtain ⟨l, hl⟩ : ∃ l, l = a * b % 18446744073709551616 := ⟨_, rfl⟩
  rw [← hh, ← hl, wideD, ← hh, ← hl]
  simp
theorem times_c (x k : Nat) (hk : k < 9223372036854775808) (hx : x < 340282366920938463463374607431768211456) (hxk : x * k < 340282366920938463463374607431768211456) : C 75 [wideD x, .int .i64 k] (wideD (x * k)) [] := by
  have e := mulwide (x := x) (k := k)
  obtain ⟨h, hh⟩ : ∃ h, h = x / 18446744073709551616 := ⟨_, rfl⟩
  obtain ⟨l, hl⟩ : ∃ l, l = x % 18446744073709551616 := ⟨_, rfl⟩
  have hh' : h < 18446744073709551616 := by omega
  have hl' : l < 18446744073709551616 := by omega
  rw [← hh, ← hl] at e
  obtain ⟨p, hp⟩ : ∃ p, p = l * k / 18446744073709551616 := ⟨_, rfl⟩
  obtain ⟨q, hq⟩ : ∃ q, q = l * k % 18446744073709551616 := ⟨_, rfl⟩
  rw [← hp, ← hq] at e
  have hq' : q < 18446744073709551616 := by omega
  obtain ⟨z, hz⟩ : ∃ z, z = h * k := ⟨_, rfl⟩
  obtain ⟨y, hy⟩ : ∃ y, y = x * k := ⟨_, rfl⟩
  rw [← hz, ← hy] at e
  rw [← hy] at hxk
  obtain ⟨t, ht⟩ : ∃ t, t = z + p := ⟨_, rfl⟩
  rw [← ht] at e
  have e1 : y / 18446744073709551616 = t := by omega
  have e2 : y % 18446744073709551616 = q := by omega
  have ht' : t < 18446744073709551616 := by omega
  have et : IntKind.u64.wrap ((p : Int) + IntKind.u64.wrap ((h : Int) * (k : Int))) = (t : Int) := by
    rw [mulN h k, ← hz, wrapU, wrapU]
    clear hxk hx e e1 e2 hq hp hl hh hy hz
    omega
  have r1 : wideD (x * k) = .agg [.int .u64 (t : Int), .int .u64 (q : Int)] := by rw [wideD, ← hy, e1, e2]
  have r2 : wideD x = .agg [.int .u64 (h : Int), .int .u64 (l : Int)] := by rw [wideD, ← hh, ← hl]
  rw [r1, r2]
  clear r1 r2 e1 e2 e hh hl hx hxk
  refine start hC (nf := N75_catalogue_wide_times) rfl rfl ?_
  simp [N75_catalogue_wide_times, wrapN k (by omega)]
  refine callW_of (Mul64_c hC l k hl' (by omega)) (.inl rfl) ?_
  rw [← hp, ← hq]
  simp [et, wrapN k (by omega)]
theorem over_c (x n : Nat) (hn : 0 < n) (hn2 : n < 9223372036854775808) (hx : x < 340282366920938463463374607431768211456) : C 76 [wideD x, .int .i64 n] (wideD (x / n)) [] := by
  obtain ⟨e, e0⟩ := divwide (x := x) hn
  obtain ⟨h, hh⟩ : ∃ h, h = x / 18446744073709551616 := ⟨_, rfl⟩
  obtain ⟨l, hl⟩ : ∃ l, l = x % 18446744073709551616 := ⟨_, rfl⟩
  have hh' : h < 18446744073709551616 := by omega
  have hl' : l < 18446744073709551616 := by omega
  rw [← hh, ← hl] at e e0
  obtain ⟨p, hp⟩ : ∃ p, p = h / n := ⟨_, rfl⟩
  obtain ⟨r, hr⟩ : ∃ r, r = h % n := ⟨_, rfl⟩
  rw [← hp, ← hr] at e
  rw [← hr] at e0
  obtain ⟨q, hq⟩ : ∃ q, q = (r * 18446744073709551616 + l) / n := ⟨_, rfl⟩
  rw [← hq] at e e0
  have hrn : r < n := by rw [hr]; exact Nat.mod_lt _ hn
  have e1 : x / n / 18446744073709551616 = p := by omega
  have e2 : x / n % 18446744073709551616 = q := by omega
  have hpl : p < 18446744073709551616 := by rw [hp]; have := Nat.div_le_self h n; omega
  have ep : Int.tdiv (h : Int) (n : Int) = (p : Int) := by rw [tdivN, hp]
  have er : Int.tmod (h : Int) (n : Int) = (r : Int) := by rw [tmodN, hr]
  have r1 : wideD (x / n) = .agg [.int .u64 (p : Int), .int .u64 (q : Int)] := by rw [wideD, e1, e2]
  have r2 : wideD x = .agg [.int .u64 (h : Int), .int .u64 (l : Int)] := by rw [wideD, ← hh, ← hl]
  rw [r1, r2]
  clear r1 r2 e1 e2 e hh hl hx
  refine start hC (nf := N76_catalogue_wide_over) rfl rfl ?_
  have hn0 : ¬ n = 0 := by omega
  simp [N76_catalogue_wide_over, wrapN n (by omega), hn0, ep, er, wrapN p hpl]
  refine ⟨indW_of (by decide +kernel), ?_⟩
  refine callW_of (Div64_c hC r l n hrn (by omega) hl') (.inl rfl) ?_
  rw [← hq]
  simp
theorem root_c (x : Nat) : C 77 [wideD x] (.int .i64 (rootN x)) [] := by
  obtain ⟨h, hh⟩ : ∃ h, h = x / 18446744073709551616 := ⟨_, rfl⟩
  obtain ⟨l, hl⟩ : ∃ l, l = x % 18446744073709551616 := ⟨_, rfl⟩
  have r2 : wideD x = .agg [.int .u64 (h : Int), .int .u64 (l : Int)] := by rw [wideD, ← hh, ← hl]
  rw [r2]
  obtain ⟨N, hN⟩ : ∃ N, N = rootN x := ⟨_, rfl⟩
  rw [← hN]
  refine start hC (nf := N77_catalogue_wide_root) rfl rfl ?_
  simp [N77_catalogue_wide_root]
  refine loop_of (Nat × Nat × Nat) (fun s => [(1, .ptr [.int .u64 (h : Int), .int .u64 (l : Int)]), (3, .int .u64 s.2.1), (4, .int .u64 s.2.2)])
    (fun s => s.1 ≤ 63 ∧ (∃ a, s.2.1 = a * 2 ^ s.1) ∧ s.2.1 + 2 ^ s.1 ≤ 9223372036854775808 ∧ s.2.2 = (if s.1 = 0 then 0 else 2 ^ (s.1 - 1)) ∧ rootF x s.1 s.2.1 = N) (fun s => s.1) (63, 0, 4611686018427387904) ⟨by omega, ⟨0, by simp⟩, by decide, by decide, by rw [hN]; rfl⟩ (by simp) ?_
  rintro ⟨i, r, b⟩ ⟨h1, ⟨a, h2⟩, h3, h4, h5⟩
  simp only at h1 h2 h3 h4 h5
  simp
  refine brB_of (fun c => ?_) (fun c => ?_) <;> simp [c] <;> simp at c
  · obtain ⟨j, rfl⟩ : ∃ j, i = j + 1 := by
      cases i with
      | zero => simp at h4; omega
      | succ j => exact ⟨j, rfl⟩
    simp at h4
    have hb2 : 2 * b = 2 ^ (j + 1) := by rw [h4, Nat.pow_succ]; omega
    rw [← hb2] at h3 h2
    have hor : bits .or .u64 (r : Int) (b : Int) = ((r + b : Nat) : Int) := by
      rw [h2, show a * (2 * b) = a * 2 ^ (j + 1) by rw [hb2]]
      exact orN a b (j + 1) (by rw [← hb2]; omega) (by rw [← hb2, ← h2]; omega)
    obtain ⟨y, hy⟩ : ∃ y, y = r + b := ⟨_, rfl⟩
    rw [← hy] at hor
    have hsh : Int.fdiv (b : Int) (2 ^ min 1 IntKind.u64.bits) = ((b / 2 : Nat) : Int) := shrN b 1
    obtain ⟨b', hb'⟩ : ∃ b', b' = b / 2 := ⟨_, rfl⟩
    rw [← hb'] at hsh
    simp [hor]
    refine callW_of (Mul64_c hC y y (by omega) (by omega)) (.inl rfl) ?_
    obtain ⟨p, hp⟩ : ∃ p, p = y * y / 18446744073709551616 := ⟨_, rfl⟩
    obtain ⟨q, hq⟩ : ∃ q, q = y * y % 18446744073709551616 := ⟨_, rfl⟩
    rw [← hp, ← hq]
    have h6 : rootF x j (if y * y ≤ x then y else r) = N := by rw [← h5, rootF_step, hy, h4]
    have hb1 : b' = if j = 0 then 0 else 2 ^ (j - 1) := by
      rw [hb', h4]
      cases j with
      | zero => rfl
      | succ j => simp [Nat.pow_succ]
    have yes : y * y ≤ x → (j ≤ 63 ∧ (∃ a, y = a * 2 ^ j) ∧ y + 2 ^ j ≤ 9223372036854775808 ∧ b' = (if j = 0 then 0 else 2 ^ (j - 1)) ∧ rootF x j y = N) := fun hc => by
      rw [if_pos hc] at h6
      refine ⟨by omega, ⟨2 * a + 1, ?_⟩, by omega, hb1, h6⟩
      rw [hy, h2, ← h4, Nat.add_mul, Nat.mul_comm 2 a, Nat.mul_assoc]
      omega
    have no : ¬ y * y ≤ x → (j ≤ 63 ∧ (∃ a, r = a * 2 ^ j) ∧ r + 2 ^ j ≤ 9223372036854775808 ∧ b' = (if j = 0 then 0 else 2 ^ (j - 1)) ∧ rootF x j r = N) := fun hc => by
      rw [if_neg hc] at h6
      refine ⟨by omega, ⟨2 * a, ?_⟩, by omega, hb1, h6⟩
      rw [h2, ← h4, Nat.mul_comm 2 a, Nat.mul_assoc]
    simp
    generalize y * y = Z at *
    refine brB_of (fun c1 => ?_) (fun c1 => ?_) <;> simp [c1, hor, hsh] <;> simp at c1
    · exact ⟨j, y, b', yes (by omega), by omega, rfl, rfl⟩
    · refine brB_of (fun c2 => ?_) (fun c2 => ?_) <;> simp [c2, hor, hsh] <;> simp at c2
      · refine brB_of (fun c3 => ?_) (fun c3 => ?_) <;> simp [c3, hor, hsh] <;> simp at c3
        · exact ⟨j, y, b', yes (by omega), by omega, rfl, rfl⟩
        · exact ⟨j, r, b', no (by omega), by omega, rfl, rfl⟩
      · exact ⟨j, r, b', no (by omega), by omega, rfl, rfl⟩
  · have hi : i = 0 := by
      cases i with
      | zero => rfl
      | succ j =>
        simp at h4
        have := Nat.two_pow_pos j
        omega
    subst hi
    have : r = N := h5
    simp at h3
    have e1 : IntKind.wrap .i64 (r : Int) = (r : Int) := wrap_i64 rfl (by omega)
    rw [← this, e1]
end Go.Gv

set_option linter.unusedSimpArgs false
namespace Go.Gv

theorem valid_len {t : List (Int × Int)} (h : tableValid t = true) : 1 ≤ t.length ∧ t.length ≤ 100 := by
  simp only [tableValid, Bool.and_eq_true, decide_eq_true_eq] at h
  exact h.1
theorem valid_ok {t : List (Int × Int)} (h : tableValid t = true) {i : Nat} (hi : i < t.length) : fits t[i].1 = true ∧ fits t[i].2 = true ∧ ∀ j, (hj : j + 1 = i) → t[j].1 < t[i].1 ∧ t[j].2 ≤ t[i].2 := by
  simp only [tableValid, Bool.and_eq_true, List.all_eq_true, List.mem_range] at h
  have := h.2 i hi
  simp only [okAt, getElem!_pos t i hi, Bool.and_eq_true, Bool.or_eq_true, beq_iff_eq, decide_eq_true_eq] at this
  refine ⟨this.1.1, this.1.2, fun j hj => ?_⟩
  subst hj
  have h2 := this.2
  rw [Nat.add_sub_cancel, getElem!_pos t j (by omega)] at h2
  rcases h2 with h2 | h2
  · omega
  · exact h2
theorem valid_asc {t : List (Int × Int)} (h : tableValid t = true) : ∀ (j i : Nat) (hi : i < t.length) (hj : j < i), t[j].1 < t[i].1 := by
  intro j i
  induction i with
  | zero => intro _ hj; omega
  | succ i ih =>
    intro hi hj
    have h1 := ((valid_ok h hi).2.2 i rfl).1
    by_cases e : j = i
    · subst e; exact h1
    · have := ih (by omega) (by omega)
      omega

variable {C : CC} (hC : Closed prog C)
include hC
theorem cmpKnot_c (k : Int × Int) (x : Int) : C 97 [.agg (knD k), .int .i64 x] (.int .i64 (if k.1 < x then -1 else if x < k.1 then 1 else 0)) [] := by
  refine start hC (nf := N97_table_piece_1) rfl rfl ?_
  simp [N97_table_piece_1, knD]
  refine brB_of (fun c => ?_) (fun c => ?_)
  · simp at c
    simp [c]
  · simp at c
    have c1 : ¬ k.1 < x := by omega
    simp [c1]
    refine brB_of (fun c2 => ?_) (fun c2 => ?_)
    · simp at c2
      simp [c2, c]
    · simp at c2
      have c3 : ¬ x < k.1 := by omega
      simp [c3, c]
end Go.Gv

set_option linter.unusedSimpArgs false
namespace Go.Gv

def lastK (t : List (Int × Int)) : Int × Int := t[t.length - 1]!
def curveOk (t : List (Int × Int)) (hgt most : Int) : Bool := tableValid t && (t[0]!.1 == 0 && t[0]!.2 == 0) && (lastK t).1 == hgt && (lastK t).2 ≤ most
def secValid (s : Sec) : Bool := isName s.name && 1 ≤ s.height && s.height ≤ 32768 && 0 ≤ s.price && s.price ≤ 1073741824 && curveOk s.area s.height 1073741824 && curveOk s.conv s.height 1099511627776
def slopeOk (n l : Int) : Bool := 0 ≤ n && n ≤ 4194304 && 1 ≤ l && l ≤ 16777216
/-- The capacity, without a limit. -/
def capN (s : Sec) (fall len : Int) : Nat := rootN ((lastK s.conv).2.toNat * (lastK s.conv).2.toNat * fall.toNat / len.toNat)
def fullF (s : Sec) (fall len : Int) : Int × Int := if secValid s then (if slopeOk fall len then (if 1099511627776 < capN s fall len then (0, 5) else (capN s fall len, 0)) else (0, 2)) else (0, 1)

theorem lastK_get {t : List (Int × Int)} {n : Nat} (hn : n + 1 = t.length) : lastK t = t[n] := by
  unfold lastK
  rw [show t.length - 1 = n by omega, getElem!_pos t n (by omega)]

variable {C : CC} (hC : Closed prog C)
include hC
theorem curve_c (b : Bool) (t : List (Int × Int)) (hgt most : Int) : C 59 [slx b (t.map knD), .int .i64 hgt, .int .i64 most] (.bool (curveOk t hgt most)) [] := by
  refine start hC (nf := N59_catalogue_curve) rfl rfl ?_
  simp [N59_catalogue_curve]
  refine callW_of (tableValid_c hC b t) (.inl rfl) ?_
  cases hv : tableValid t
  · simp [curveOk, hv]
  obtain ⟨l1, l2⟩ := valid_len hv
  obtain ⟨n, hn⟩ : ∃ n, n + 1 = t.length := ⟨t.length - 1, by omega⟩
  have e1 : IntKind.wrap .i64 ((t.length : Int) - 1) = (n : Int) := wrap_i64 (by omega) (by omega)
  have hnl : n < t.length := by omega
  have h0 : 0 < t.length := by omega
  have e0 : t[0]! = t[0] := getElem!_pos t 0 h0
  simp [e1, hnl, h0, knD]
  rw [curveOk, lastK_get hn, e0, hv]
  have ez : (decide (t[0].fst = 0) && decide (t[0].snd = 0)) = (t[0].1 == 0 && t[0].2 == 0) := by rw [Bool.eq_iff_iff]; simp
  rw [← ez]
  cases hz : (decide (t[0].fst = 0) && decide (t[0].snd = 0))
  · simp
  simp
  refine brB_of (fun c => ?_) (fun c => ?_)
  · simp at c
    simp [c]
  · simp at c
    simp [c]
theorem valid_c (s : Sec) : C 51 [.agg (secC s)] (.bool (secValid s)) [] := by
  refine start hC (nf := N51_catalogue_valid) rfl rfl ?_
  simp [N51_catalogue_valid, secC]
  refine callW_of (IsName_c hC s.name) (.inl rfl) ?_
  cases h1 : isName s.name
  · simp [secValid, h1]
  simp
  refine brB_of (fun c1 => ?_) (fun c1 => ?_) <;> simp [c1] <;> simp at c1
  · refine brB_of (fun c2 => ?_) (fun c2 => ?_) <;> simp [c2] <;> simp at c2
    · refine brB_of (fun c3 => ?_) (fun c3 => ?_) <;> simp [c3] <;> simp at c3
      · refine brB_of (fun c4 => ?_) (fun c4 => ?_) <;> simp [c4] <;> simp at c4
        · refine callW_of (curve_c hC _ _ _ _) (.inl rfl) ?_
          cases h5 : curveOk s.area s.height 1073741824
          · simp [secValid, h5]
          simp
          refine callW_of (curve_c hC _ _ _ _) (.inl rfl) ?_
          simp [secValid, h1, c1, c2, c3, c4, h5]
        · simp [secValid]; omega
      · simp [secValid]; omega
    · simp [secValid]; omega
  · simp [secValid]; omega
end Go.Gv

set_option linter.unusedSimpArgs false
namespace Go.Gv
def lowHigh (n a b : Int) : Bool := decide (a ≤ n) && decide (n ≤ b)
def plainF (l : Lnk) : Lnk where
  name := l.name
  src := l.src
  dst := l.dst
  kind := l.kind
  len := if l.kind = 1 then l.len else 0
  up := l.up
  down := if l.kind = 1 ∨ l.kind = 4 then l.down else 0
  sect := if l.kind = 1 then l.sect else []
  width := if l.kind = 2 ∨ l.kind = 3 then l.width else 0
  height := if l.kind = 3 then l.height else 0
  curveN := if l.kind = 4 then l.curveN else true
  curve := if l.kind = 4 then l.curve else []
def sameL (a b : Lnk) : Bool := decide (a.name = b.name) && decide (a.src = b.src) && decide (a.dst = b.dst) && decide (a.kind = b.kind) && decide (a.len = b.len) && decide (a.up = b.up) && decide (a.down = b.down) && decide (a.sect = b.sect) && decide (a.width = b.width) && decide (a.height = b.height) && decide (a.curve = b.curve)
def pumpOk (k : Int × Int) : Bool := lowHigh k.1 0 4194304 && lowHigh k.2 0 1099511627776
def kindOk (l : Lnk) : Bool :=
  if l.kind = 1 then lowHigh l.len 1 16777216 && lvlOk l.down && isName l.sect
  else if l.kind = 2 then lowHigh l.width 1 1048576
  else if l.kind = 3 then lowHigh l.width 1 32768 && lowHigh l.height 1 32768
  else if l.kind = 4 then lvlOk l.down && decide (l.down < l.up) && tableValid l.curve && !(l.curve.any fun k => !pumpOk k)
  else false
def linkOk (l : Lnk) : Bool := isName l.name && isName l.src && isName l.dst && !decide (l.src = l.dst) && lvlOk l.up && sameL l (plainF l) && kindOk l
variable {C : CC} (hC : Closed prog C)
include hC
theorem plain_c (l : Lnk) : C 178 [.agg (lnkC l)] (.agg (lnkC (plainF l))) [] := by
  have hs : slx l.curveN (l.curve.map knD) = .nils ∨ slx l.curveN (l.curve.map knD) = .sl (l.curve.map knD) := by
    unfold slx; split
    · exact .inl rfl
    · exact .inr rfl
  have e0 : D.nils = slx true [] := rfl
  refine start hC (nf := N178_network_plain) rfl rfl ?_
  simp [N178_network_plain, lnkC, plainF]
  refine brB_of (fun h => ?_) (fun h => ?_) <;> simp at h <;> simp [h]
  · exact ⟨indW_of (by decide +kernel), e0⟩
  refine brB_of (fun h2 => ?_) (fun h2 => ?_) <;> simp at h2 <;> simp [h, h2]
  · exact e0
  refine brB_of (fun h3 => ?_) (fun h3 => ?_) <;> simp at h3 <;> simp [h, h2, h3]
  · exact ⟨indW_of (by decide +kernel), e0⟩
  refine brB_of (fun h4 => ?_) (fun h4 => ?_) <;> simp at h4 <;> simp [h, h2, h3, h4]
  · rcases hs with hs | hs <;> rw [hs] <;> simp
    · refine ⟨indW_of (by decide +kernel), ?_⟩
      simp [h4, hs]
    · refine ⟨indW_of (by decide +kernel), ?_⟩
      simp [h4, hs]
  · exact e0
set_option maxRecDepth 8000 in
set_option maxHeartbeats 2000000 in
theorem sameL_c (a b : Lnk) (ha : a.curve.length < 2 ^ 62) (hb : b.curve.length < 2 ^ 62) : C 177 [.agg (lnkC a), .agg (lnkC b)] (.bool (sameL a b)) [] := by
  have he := eqKn_c hC a.curveN b.curveN a.curve b.curve ha hb
  refine start hC (nf := N177_network_sameLink) rfl rfl ?_
  simp [N177_network_sameLink, lnkC]
  refine brB_of (fun h0 => ?_) (fun h0 => ?_) <;> simp at h0 <;> simp [h0]
  rotate_left
  · simp [sameL, h0]
  refine brB_of (fun h1 => ?_) (fun h1 => ?_) <;> simp at h1 <;> simp [h1]
  rotate_left
  · simp [sameL, h1]
  refine brB_of (fun h2 => ?_) (fun h2 => ?_) <;> simp at h2 <;> simp [h2]
  rotate_left
  · simp [sameL, h2]
  refine brB_of (fun h3 => ?_) (fun h3 => ?_) <;> simp at h3 <;> simp [h3]
  rotate_left
  · simp [sameL, h3]
  refine brB_of (fun h4 => ?_) (fun h4 => ?_) <;> simp at h4 <;> simp [h4]
  rotate_left
  · simp [sameL, h4]
  refine brB_of (fun h5 => ?_) (fun h5 => ?_) <;> simp at h5 <;> simp [h5]
  rotate_left
  · simp [sameL, h5]
  refine brB_of (fun h6 => ?_) (fun h6 => ?_) <;> simp at h6 <;> simp [h6]
  rotate_left
  · simp [sameL, h6]
  refine brB_of (fun h7 => ?_) (fun h7 => ?_) <;> simp at h7 <;> simp [h7]
  rotate_left
  · simp [sameL, h7]
  refine brB_of (fun h8 => ?_) (fun h8 => ?_) <;> simp at h8 <;> simp [h8]
  rotate_left
  · simp [sameL, h8]
  refine brB_of (fun h9 => ?_) (fun h9 => ?_) <;> simp at h9 <;> simp [h9]
  rotate_left
  · simp [sameL, h9]
  refine callW_of he (.inl rfl) ?_
  simp [sameL, h0, h1, h2, h3, h4, h5, h6, h7, h8, h9]
theorem pumpBad_c (k : Int × Int) : C 180 [.agg (knD k)] (.bool (!pumpOk k)) [] := by
  refine start hC (nf := N180_network_rightLink_1) rfl rfl ?_
  simp [N180_network_rightLink_1, knD]
  refine callW_of (between_c hC k.1 0 4194304) (.inl rfl) ?_
  have e1 : (decide (0 ≤ k.1) && decide (k.1 ≤ 4194304)) = lowHigh k.1 0 4194304 := rfl
  rw [e1]
  cases h : lowHigh k.1 0 4194304
  · simp [pumpOk, h]
  simp
  refine callW_of (between_c hC k.2 0 1099511627776) (.inl rfl) ?_
  have e2 : (decide (0 ≤ k.2) && decide (k.2 ≤ 1099511627776)) = lowHigh k.2 0 1099511627776 := rfl
  rw [e2]
  simp [pumpOk, h]
theorem linkOk_c (l : Lnk) (hc : l.curve.length < 2 ^ 62) : C 170 [.agg (lnkC l)] (.bool (linkOk l)) [] := by
  have hp : (plainF l).curve.length < 2 ^ 62 := by
    simp only [plainF]; split
    · exact hc
    · simp
  have k1 := IsName_c hC l.name
  have k2 := IsName_c hC l.src
  have k3 := IsName_c hC l.dst
  have k4 := level_c hC [l.up] (by simp)
  have k5 := plain_c hC l
  have k6 := sameL_c hC l (plainF l) hc hp
  obtain ⟨q, hq⟩ : ∃ q, q = sameL l (plainF l) := ⟨_, rfl⟩
  rw [← hq] at k6
  simp only [lnkC] at k5 k6
  have kf : ∀ b, kindOk l = b → (b = false ∨ (isName l.name = true ∧ isName l.src = true ∧ isName l.dst = true ∧ ¬ l.src = l.dst ∧ lvlOk l.up = true ∧ q = true)) → linkOk l = b := fun b h1 h2 => by
    rcases h2 with rfl | ⟨a1, a2, a3, a4, a5, a6⟩
    · simp [linkOk, h1]
    · simp [linkOk, h1, a1, a2, a3, a4, a5, ← hq, a6]
  refine start hC (nf := N170_network_rightLink) rfl rfl ?_
  simp [N170_network_rightLink, lnkC]
  refine callW_of k1 (.inl rfl) ?_
  cases h1 : isName l.name
  · simp
    refine ⟨indW_of (by decide +kernel), ?_⟩
    simp [linkOk, h1]
  simp
  refine callW_of k2 (.inl rfl) ?_
  cases h2 : isName l.src
  · simp
    refine ⟨indW_of (by decide +kernel), ?_⟩
    simp [linkOk, h2]
  simp
  refine callW_of k3 (.inl rfl) ?_
  cases h3 : isName l.dst
  · simp
    refine ⟨indW_of (by decide +kernel), ?_⟩
    simp [linkOk, h3]
  simp
  refine brB_of (fun h4 => ?_) (fun h4 => ?_) <;> simp at h4 <;> simp [h4]
  · refine ⟨indW_of (by decide +kernel), ?_⟩
    simp [linkOk, h4]
  refine callW_of k4 (.inl rfl) ?_
  cases h5 : lvlOk l.up
  · simp [h5]
    refine ⟨indW_of (by decide +kernel), ?_⟩
    simp [linkOk, h5]
  simp [h5]
  refine callW_of k5 (.inr rfl) ?_
  simp
  refine callW_of k6 (.inl rfl) ?_
  cases h6 : q
  · simp
    refine ⟨indW_of (by decide +kernel), ?_⟩
    simp [linkOk, ← hq, h6]
  simp
  refine ⟨indW_of (by decide +kernel), ?_⟩
  have hk : linkOk l = kindOk l := kf _ rfl (.inr ⟨h1, h2, h3, h4, h5, h6⟩)
  rw [hk]
  obtain ⟨r, hr⟩ : ∃ r, r = kindOk l := ⟨_, rfl⟩
  rw [← hr]
  unfold kindOk at hr
  clear k1 k2 k3 k4 k5 k6 hk kf
  have lh : ∀ n a b : Int, (decide (a ≤ n) && decide (n ≤ b)) = lowHigh n a b := fun _ _ _ => rfl
  have kd := level_c hC [l.down] (by simp)
  refine brB_of (fun h7 => ?_) (fun h7 => ?_) <;> simp at h7 <;> simp [h7]
  · rw [if_pos h7] at hr
    refine callW_of (between_c hC l.len 1 16777216) (.inl rfl) ?_
    rw [lh]
    cases a1 : lowHigh l.len 1 16777216
    · simp [hr, a1]
    simp
    refine callW_of kd (.inl rfl) ?_
    cases a2 : lvlOk l.down
    · simp [a2, hr]
    simp [a2]
    refine callW_of (IsName_c hC l.sect) (.inl rfl) ?_
    simp [hr, a1, a2]
  rw [if_neg h7] at hr
  refine brB_of (fun h8 => ?_) (fun h8 => ?_) <;> simp at h8 <;> simp [h8]
  · rw [if_pos h8] at hr
    refine callW_of (between_c hC l.width 1 1048576) (.inl rfl) ?_
    rw [lh]
    simp [hr]
  rw [if_neg h8] at hr
  refine brB_of (fun h9 => ?_) (fun h9 => ?_) <;> simp at h9 <;> simp [h9]
  · rw [if_pos h9] at hr
    refine callW_of (between_c hC l.width 1 32768) (.inl rfl) ?_
    rw [lh]
    cases a1 : lowHigh l.width 1 32768
    · simp [hr, a1]
    simp
    refine callW_of (between_c hC l.height 1 32768) (.inl rfl) ?_
    rw [lh]
    simp [hr, a1]
  rw [if_neg h9] at hr
  refine brB_of (fun h10 => ?_) (fun h10 => ?_) <;> simp at h10 <;> simp [h10]
  · rw [if_pos h10] at hr
    refine callW_of kd (.inl rfl) ?_
    cases a2 : lvlOk l.down
    · simp [a2, hr]
    simp [a2]
    refine brB_of (fun h11 => ?_) (fun h11 => ?_) <;> simp at h11 <;> simp [h11]
    · refine callW_of (tableValid_c hC l.curveN l.curve) (.inl rfl) ?_
      cases a3 : tableValid l.curve
      · simp [hr, a3]
      simp
      refine callW_of (hasKn_c hC (b := l.curveN) (xs := l.curve) (g := 180) (cs := []) (fun k => !pumpOk k) hc (fun k _ => pumpBad_c hC k)) (.inl rfl) ?_
      simp [hr, a2, h11, a3]
    · have : ¬ l.down < l.up := by omega
      simp [hr, this]
  · rw [if_neg h10] at hr
    simp [hr]
end Go.Gv

set_option linter.unusedSimpArgs false
namespace Go.Gv
def curveR (l : List (Int × Int)) : Bool := tableValid l && decide (0 ≤ l[0]!.1) && decide ((lastK l).1 ≤ 4194304) && decide (0 ≤ l[0]!.2) && decide ((lastK l).2 ≤ 1099511627776)
def kindR (l : Lnk) : Bool :=
  if l.kind = 1 then lowHigh l.len 1 16777216 && isName l.sect && decide (l.width = 0) && decide (l.height = 0) && decide (l.curve.length = 0)
  else if l.kind = 2 then decide (l.len = 0) && decide (l.down = 0) && decide (l.sect = []) && lowHigh l.width 1 1048576 && decide (l.height = 0) && decide (l.curve.length = 0)
  else if l.kind = 3 then decide (l.len = 0) && decide (l.down = 0) && decide (l.sect = []) && lowHigh l.width 1 32768 && lowHigh l.height 1 32768 && decide (l.curve.length = 0)
  else if l.kind = 4 then decide (l.len = 0) && decide (l.down < l.up) && decide (l.sect = []) && decide (l.width = 0) && decide (l.height = 0) && curveR l.curve
  else false
def linkR (l : Lnk) : Bool := isName l.name && isName l.src && isName l.dst && !decide (l.src = l.dst) && lvlOk l.up && lvlOk l.down && kindR l
variable {C : CC} (hC : Closed prog C)
include hC
theorem rLevel_c (n : Int) : C 199 [.int .i64 n] (.bool (lvlOk n)) [] := by
  refine start hC (nf := N199_ref26_level) rfl rfl ?_
  simp [N199_ref26_level, lvlOk]
  refine brB_of (fun h => ?_) (fun h => ?_) <;> simp at h <;> simp [h] <;> omega
theorem rWithin_c (n a : Int) : C 200 [.int .i64 n, .int .i64 a] (.bool (lowHigh n 1 a)) [] := by
  refine start hC (nf := N200_ref26_within) rfl rfl ?_
  simp [N200_ref26_within, lowHigh]
  refine brB_of (fun h => ?_) (fun h => ?_) <;> simp at h <;> simp [h] <;> omega
theorem rCurve_c (b : Bool) (t : List (Int × Int)) : C 201 [slx b (t.map knD)] (.bool (curveR t)) [] := by
  refine start hC (nf := N201_ref26_curve) rfl rfl ?_
  simp [N201_ref26_curve]
  refine callW_of (rTable_c hC b t) (.inl rfl) ?_
  cases hv : tableValid t
  · simp [curveR, hv]
  obtain ⟨l1, l2⟩ := valid_len hv
  obtain ⟨n, hn⟩ : ∃ n, n + 1 = t.length := ⟨t.length - 1, by omega⟩
  have e1 : IntKind.wrap .i64 ((t.length : Int) - 1) = (n : Int) := wrap_i64 (by omega) (by omega)
  have hnl : n < t.length := by omega
  have h0 : 0 < t.length := by omega
  have e0 : t[0]! = t[0] := getElem!_pos t 0 h0
  rw [curveR, hv, e0, lastK_get hn]
  simp [h0, knD]
  refine brB_of (fun c1 => ?_) (fun c1 => ?_) <;> simp at c1 <;> simp [c1, e1, hnl, knD, h0]
  · refine brB_of (fun c2 => ?_) (fun c2 => ?_) <;> simp at c2 <;> simp [c2, e1, hnl, knD, h0]
    · refine brB_of (fun c3 => ?_) (fun c3 => ?_) <;> simp at c3 <;> simp [c3, e1, hnl, knD, h0]
      · omega
      · intro _ _ _; omega
    · omega
  · omega
theorem linkR_c (l : Lnk) : C 194 [.agg (lnkC l)] (.bool (linkR l)) [] := by
  have k1 := rIsName_c hC l.name
  have k2 := rIsName_c hC l.src
  have k3 := rIsName_c hC l.dst
  have k4 := rLevel_c hC l.up
  have k5 := rLevel_c hC l.down
  have k6 := rIsName_c hC l.sect
  obtain ⟨r, hr⟩ : ∃ r, r = linkR l := ⟨_, rfl⟩
  rw [← hr]
  unfold linkR at hr
  refine start hC (nf := N194_ref26_RightLink) rfl rfl ?_
  simp [N194_ref26_RightLink, lnkC]
  refine callW_of k1 (.inl rfl) ?_
  cases h1 : isName l.name
  · simp [hr, h1]
  simp
  refine callW_of k2 (.inl rfl) ?_
  cases h2 : isName l.src
  · simp [hr, h2]
  simp
  refine callW_of k3 (.inl rfl) ?_
  cases h3 : isName l.dst
  · simp [hr, h3]
  simp
  refine brB_of (fun h4 => ?_) (fun h4 => ?_) <;> simp at h4 <;> simp [h4]
  · simp [hr, h4]
  refine callW_of k4 (.inl rfl) ?_
  cases h5 : lvlOk l.up
  · simp [hr, h5]
  simp
  refine callW_of k5 (.inl rfl) ?_
  cases h6 : lvlOk l.down
  · simp [hr, h6]
  simp
  rw [h1, h2, h3, decide_eq_false h4, h5, h6] at hr
  simp only [Bool.true_and, Bool.not_false] at hr
  unfold kindR at hr
  clear k1 k2 k3 k4 k5 h1 h2 h3 h4 h5 h6
  refine brB_of (fun h7 => ?_) (fun h7 => ?_) <;> simp at h7 <;> simp [h7]
  · rw [if_pos h7] at hr
    refine callW_of (rWithin_c hC l.len 16777216) (.inl rfl) ?_
    cases a1 : lowHigh l.len 1 16777216
    · simp [hr, a1]
    simp
    refine callW_of k6 (.inl rfl) ?_
    cases a2 : isName l.sect
    · simp [hr, a2]
    simp
    refine brB_of (fun a3 => ?_) (fun a3 => ?_) <;> simp at a3 <;> simp [a3]
    rotate_left
    · simp [hr, a3]
    refine brB_of (fun a4 => ?_) (fun a4 => ?_) <;> simp at a4 <;> simp [a4]
    rotate_left
    · simp [hr, a4]
    simp [hr, a1, a2, a3, a4]
  rw [if_neg h7] at hr
  refine brB_of (fun h8 => ?_) (fun h8 => ?_) <;> simp at h8 <;> simp [h8]
  · rw [if_pos h8] at hr
    refine brB_of (fun a1 => ?_) (fun a1 => ?_) <;> simp at a1 <;> simp [a1]
    rotate_left
    · simp [hr, a1]
    refine brB_of (fun a2 => ?_) (fun a2 => ?_) <;> simp at a2 <;> simp [a2]
    rotate_left
    · simp [hr, a2]
    refine brB_of (fun a3 => ?_) (fun a3 => ?_) <;> simp at a3 <;> simp [a3]
    rotate_left
    · simp [hr, a3]
    refine callW_of (rWithin_c hC l.width 1048576) (.inl rfl) ?_
    cases a4 : lowHigh l.width 1 1048576
    · simp [hr, a4]
    simp
    refine brB_of (fun a5 => ?_) (fun a5 => ?_) <;> simp at a5 <;> simp [a5]
    rotate_left
    · simp [hr, a5]
    simp [hr, a1, a2, a3, a4, a5]
  rw [if_neg h8] at hr
  refine brB_of (fun h9 => ?_) (fun h9 => ?_) <;> simp at h9 <;> simp [h9]
  · rw [if_pos h9] at hr
    refine brB_of (fun a1 => ?_) (fun a1 => ?_) <;> simp at a1 <;> simp [a1]
    rotate_left
    · simp [hr, a1]
    refine brB_of (fun a2 => ?_) (fun a2 => ?_) <;> simp at a2 <;> simp [a2]
    rotate_left
    · simp [hr, a2]
    refine brB_of (fun a3 => ?_) (fun a3 => ?_) <;> simp at a3 <;> simp [a3]
    rotate_left
    · simp [hr, a3]
    refine callW_of (rWithin_c hC l.width 32768) (.inl rfl) ?_
    cases a4 : lowHigh l.width 1 32768
    · simp [hr, a4]
    simp
    refine callW_of (rWithin_c hC l.height 32768) (.inl rfl) ?_
    cases a5 : lowHigh l.height 1 32768
    · simp [hr, a5]
    simp [hr, a1, a2, a3, a4, a5]
  rw [if_neg h9] at hr
  refine brB_of (fun h10 => ?_) (fun h10 => ?_) <;> simp at h10 <;> simp [h10]
  · rw [if_pos h10] at hr
    refine brB_of (fun a1 => ?_) (fun a1 => ?_) <;> simp at a1 <;> simp [a1]
    rotate_left
    · simp [hr, a1]
    refine brB_of (fun a2 => ?_) (fun a2 => ?_) <;> simp at a2 <;> simp [a2]
    rotate_left
    · simp [hr, show ¬ l.down < l.up by omega]
    refine brB_of (fun a3 => ?_) (fun a3 => ?_) <;> simp at a3 <;> simp [a3]
    rotate_left
    · simp [hr, a3]
    refine brB_of (fun a4 => ?_) (fun a4 => ?_) <;> simp at a4 <;> simp [a4]
    rotate_left
    · simp [hr, a4]
    refine brB_of (fun a5 => ?_) (fun a5 => ?_) <;> simp at a5 <;> simp [a5]
    rotate_left
    · simp [hr, a5]
    refine callW_of (rCurve_c hC l.curveN l.curve) (.inl rfl) ?_
    simp [hr, a1, a2, a3, a4, a5]
  · rw [if_neg h10] at hr
    simp [hr]
end Go.Gv

set_option linter.unusedSimpArgs false
namespace Go.Gv
open Go.Lib

theorem shlN (a k m : Nat) (hm : m = a * 2 ^ k % 18446744073709551616) : IntKind.u64.wrap ((a : Int) * 2 ^ k) = (m : Int) := by
  have e : (a : Int) * 2 ^ k = ((a * 2 ^ k : Nat) : Int) := by push_cast; rfl
  rw [e, wrapM, hm]
theorem uw {n : Int} {m : Nat} (h : n = m ∨ n = m + 18446744073709551616 ∨ n = m - 18446744073709551616) (hm : m < 18446744073709551616) : IntKind.u64.wrap n = (m : Int) := by
  rw [wrapU]; omega

end Go.Gv

set_option linter.unusedSimpArgs false
namespace Go.Gv
open Go.Lib

theorem shl4 (a m : Nat) (hm : m = a * 16 % 18446744073709551616) : IntKind.u64.wrap ((a : Int) * 2 ^ min 4 IntKind.u64.bits) = (m : Int) := shlN a 4 m hm
theorem shl60 (a m : Nat) (hm : m = a * 1152921504606846976 % 18446744073709551616) : IntKind.u64.wrap ((a : Int) * 2 ^ min 60 IntKind.u64.bits) = (m : Int) := shlN a 60 m hm
theorem shr60 (a : Nat) : Int.fdiv (a : Int) (2 ^ min 60 IntKind.u64.bits) = ((a / 1152921504606846976 : Nat) : Int) := shrN a 60
theorem shr4 (a : Nat) : Int.fdiv (a : Int) (2 ^ min 4 IntKind.u64.bits) = ((a / 16 : Nat) : Int) := shrN a 4
theorem mask60 (a : Nat) (ha : a < 18446744073709551616) : bits .and .u64 (a : Int) 1152921504606846975 = ((a % 1152921504606846976 : Nat) : Int) := by
  have h := bits_and_u64_nat a 1152921504606846975 ha (by omega)
  have e : a &&& 1152921504606846975 = a % 1152921504606846976 := Nat.and_two_pow_sub_one_eq_mod a 60
  rw [e] at h
  exact h
theorem or16 (a b : Nat) (hb : b < 16) (h : a * 16 + b < 18446744073709551616) : bits .or .u64 ((a * 16 : Nat) : Int) (b : Int) = ((a * 16 + b : Nat) : Int) := orN a b 4 hb h
theorem or60 (a b : Nat) (hb : b < 1152921504606846976) (h : a * 1152921504606846976 + b < 18446744073709551616) : bits .or .u64 ((a * 1152921504606846976 : Nat) : Int) (b : Int) = ((a * 1152921504606846976 + b : Nat) : Int) := orN a b 60 hb h
/-- A number that is not negative, in two parts of 64 bits. -/
def numD (p : Nat) (neg : Bool) : D := .agg [.int .u64 ((p / 18446744073709551616 : Nat) : Int), .int .u64 ((p % 18446744073709551616 : Nat) : Int), .bool neg]
/-- A wide integer that is not negative. -/
def wiD (p : Nat) : D := .agg [.int .i64 ((p / 1152921504606846976 : Nat) : Int), .int .i64 ((p % 1152921504606846976 : Nat) : Int)]

variable {C : CC} (hC : Closed prog C)
include hC
theorem wsize_c (n : Nat) (h : n < 9223372036854775808) : C 112 [.int .i64 n] (.int .u64 (n : Int)) [] := by
  refine start hC (nf := N112_wide_size) rfl rfl ?_
  have h0 : ¬ (n : Int) < 0 := by omega
  simp [N112_wide_size, h0, wrapN n (by omega)]
theorem signed_c (a b : Int) (n : Bool) : C 113 [.int .u64 a, .int .u64 b, .bool n] (.agg [.int .u64 a, .int .u64 b, .bool (n && (!decide (a = 0) || !decide (b = 0)))]) [] := by
  refine start hC (nf := N113_wide_signed) rfl rfl ?_
  simp [N113_wide_signed]
  cases n <;> simp
  by_cases h : a = 0 <;> simp [h]
theorem wtimes_c (x y : Nat) (hx : x < 9223372036854775808) (hy : y < 9223372036854775808) : C 103 [.int .i64 x, .int .i64 y] (numD (x * y) false) [] := by
  refine start hC (nf := N103_wide_times) rfl rfl ?_
  have h0 : ¬ (x : Int) < 0 := by omega
  have h1 : ¬ (y : Int) < 0 := by omega
  have hm := Mul64_c hC x y (by omega) (by omega)
  rw [numD]
  obtain ⟨zh, hzh⟩ : ∃ zh, zh = x * y / 18446744073709551616 := ⟨_, rfl⟩
  obtain ⟨zl, hzl⟩ : ∃ zl, zl = x * y % 18446744073709551616 := ⟨_, rfl⟩
  rw [← hzh, ← hzl] at hm ⊢
  simp [N103_wide_times]
  refine callW_of (wsize_c hC x hx) (.inl rfl) ?_
  simp
  refine callW_of (wsize_c hC y hy) (.inl rfl) ?_
  simp
  refine callW_of hm (.inl rfl) ?_
  simp [h0, h1]
  refine callW_of (signed_c hC zh zl false) (.inl rfl) ?_
  simp
theorem whole_c (n : Nat) (h : n < 9223372036854775808) : C 110 [.int .u64 n, .bool false] (.tup [.int .i64 n, .int .i64 0]) [] := by
  refine start hC (nf := N110_wide_whole) rfl rfl ?_
  have h1 : (n : Int) ≤ 9223372036854775807 := by omega
  have h2 : IntKind.i64.wrap (n : Int) = (n : Int) := wrap_i64 rfl (by omega)
  simp [N110_wide_whole, h1, h2]
theorem quotient_c (p d : Nat) (up : Bool) (q : Nat) (hd : d < 9223372036854775808) (hp : p / 18446744073709551616 < d) (hq : q < 9223372036854775808) (hv : q = if up then (p + d - 1) / d else p / d) (hqd : p / d + 1 < 9223372036854775808) : C 104 [numD p false, .int .i64 d, .bool up] (.tup [.int .i64 q, .int .i64 0]) [] := by
  obtain ⟨ph, hph⟩ : ∃ z, z = p / 18446744073709551616 := ⟨_, rfl⟩
  obtain ⟨pl, hpl⟩ : ∃ z, z = p % 18446744073709551616 := ⟨_, rfl⟩
  have hpp : ph * 18446744073709551616 + pl = p := by omega
  obtain ⟨q0, hq0⟩ : ∃ z, z = p / d := ⟨_, rfl⟩
  obtain ⟨r0, hr0⟩ : ∃ z, z = p % d := ⟨_, rfl⟩
  have hdiv := Div64_c hC ph pl d (by omega) (by omega) (by omega)
  rw [hpp, ← hq0, ← hr0] at hdiv
  have hd0 : 0 < d := by omega
  have hdp : d * q0 + r0 = p := by rw [hq0, hr0]; exact Nat.div_add_mod p d
  have hrd : r0 < d := by rw [hr0]; exact Nat.mod_lt _ hd0
  have hup : up = true → q = if 0 < r0 then q0 + 1 else q0 := by
    rintro rfl
    simp only [if_true] at hv
    rw [hv, ← hdp]
    by_cases h : 0 < r0
    · rw [if_pos h, show d * q0 + r0 + d - 1 = d * q0 + (d + (r0 - 1)) by omega, Nat.mul_add_div hd0, Nat.add_div_left _ hd0, Nat.div_eq_of_lt (by omega)]
    · rw [if_neg h, show d * q0 + r0 + d - 1 = d * q0 + (d - 1) by omega, Nat.mul_add_div hd0, Nat.div_eq_of_lt (by omega)]
      rfl
  rw [numD, ← hph, ← hpl]
  have h1 : ¬ (d : Int) ≤ (ph : Int) := by omega
  have h2 : ¬ (d : Int) < 0 := by omega
  have h3 : IntKind.u64.wrap ((q0 : Int) + 1) = ((q0 + 1 : Nat) : Int) := uw (by omega) (by omega)
  refine start hC (nf := N104_wide_quotient) rfl rfl ?_
  simp [N104_wide_quotient]
  refine callW_of (wsize_c hC d hd) (.inl rfl) ?_
  simp [h1]
  refine callW_of hdiv (.inl rfl) ?_
  simp [h2]
  cases up
  · have e : q = q0 := by rw [hv, hq0]; rfl
    subst e
    refine brB_of (fun h => ?_) (fun h => ?_) <;> simp at h <;> simp [h]
    · refine callW_of (whole_c hC q hq) (.inl rfl) ?_
      simp
    · refine callW_of (whole_c hC q hq) (.inl rfl) ?_
      simp
  · have hv := hup rfl
    by_cases h : 0 < r0
    · have hi : (0 : Int) < r0 := by omega
      rw [if_pos h] at hv
      subst hv
      have h4 : ¬ ((q0 : Int) + 1 = 0) := by omega
      simp [hi, h3, h4, h]
      refine callW_of (whole_c hC (q0 + 1) hq) (.inl rfl) ?_
      simp
    · have hi : ¬ (0 : Int) < r0 := by omega
      rw [if_neg h] at hv
      subst hv
      simp [hi, h]
      refine callW_of (whole_c hC q hq) (.inl rfl) ?_
      simp
end Go.Gv

set_option linter.unusedSimpArgs false
namespace Go.Gv
open Go.Lib

variable {C : CC} (hC : Closed prog C)
include hC
theorem wvalid_c (p : Nat) (h : p < 1329227995784915872903807060280344576) : C 106 [wiD p] (.bool true) [] := by
  obtain ⟨ph, hph⟩ : ∃ z, z = p / 1152921504606846976 := ⟨_, rfl⟩
  obtain ⟨pl, hpl⟩ : ∃ z, z = p % 1152921504606846976 := ⟨_, rfl⟩
  rw [wiD, ← hph, ← hpl]
  have h1 : (-1152921504606846976 : Int) ≤ ph := by omega
  have h2 : (ph : Int) < 1152921504606846976 := by omega
  have h3 : (0 : Int) ≤ pl := by omega
  have h4 : (pl : Int) < 1152921504606846976 := by omega
  refine start hC (nf := N106_wide_Valid) rfl rfl ?_
  simp [N106_wide_Valid, h1, h2, h3, h4]
theorem placed_c (p : Nat) (h : p < 1329227995784915872903807060280344576) : C 105 [numD p false] (.tup [wiD p, .int .i64 0]) [] := by
  obtain ⟨ph, hph⟩ : ∃ z, z = p / 1152921504606846976 := ⟨_, rfl⟩
  obtain ⟨pl, hpl⟩ : ∃ z, z = p % 1152921504606846976 := ⟨_, rfl⟩
  obtain ⟨zh, hzh⟩ : ∃ z, z = p / 18446744073709551616 := ⟨_, rfl⟩
  obtain ⟨zl, hzl⟩ : ∃ z, z = p % 18446744073709551616 := ⟨_, rfl⟩
  rw [wiD, numD, ← hph, ← hpl, ← hzh, ← hzl]
  obtain ⟨zt, hzt⟩ : ∃ z, z = zl / 1152921504606846976 := ⟨_, rfl⟩
  have h1 : ¬ (72057594037927936 : Int) < zh := by omega
  have h2 : ¬ (zh : Int) = 72057594037927936 := by omega
  have e1 := shl4 zh (zh * 16) (by omega)
  have e2 := shr60 zl
  rw [← hzt] at e2
  have e3 := or16 zh zt (by omega) (by omega)
  have e4 : IntKind.i64.wrap ((zh * 16 + zt : Nat) : Int) = (ph : Int) := wrap_i64 (by omega) (by omega)
  have e5 := mask60 zl (by omega)
  have e6 : IntKind.i64.wrap ((zl % 1152921504606846976 : Nat) : Int) = (pl : Int) := wrap_i64 (by omega) (by omega)
  refine start hC (nf := N105_wide_placed) rfl rfl ?_
  simp [N105_wide_placed, h1, h2, e2, -Int.natCast_mul, -Int.natCast_emod]
  refine ⟨indW_of (by decide +kernel), ?_⟩
  rw [e1, e3, e4, e5, e6]
  simp
theorem value_c (p : Nat) (h : p < 1329227995784915872903807060280344576) : C 108 [wiD p] (numD p false) [] := by
  obtain ⟨ph, hph⟩ : ∃ z, z = p / 1152921504606846976 := ⟨_, rfl⟩
  obtain ⟨pl, hpl⟩ : ∃ z, z = p % 1152921504606846976 := ⟨_, rfl⟩
  obtain ⟨zh, hzh⟩ : ∃ z, z = p / 18446744073709551616 := ⟨_, rfl⟩
  obtain ⟨zl, hzl⟩ : ∃ z, z = p % 18446744073709551616 := ⟨_, rfl⟩
  rw [wiD, numD, ← hph, ← hpl, ← hzh, ← hzl]
  have h1 : (0 : Int) ≤ ph := by omega
  obtain ⟨w, hw⟩ : ∃ z, z = ph % 16 := ⟨_, rfl⟩
  have e1 : Int.fdiv (ph : Int) (2 ^ min 4 IntKind.u64.bits) = (zh : Int) := by rw [shr4]; omega
  have e2 : IntKind.u64.wrap ((ph : Int) * 2 ^ min 60 IntKind.u64.bits) = ((w * 1152921504606846976 : Nat) : Int) := shl60 ph _ (by omega)
  have e3 : IntKind.u64.wrap (pl : Int) = (pl : Int) := wrapN pl (by omega)
  have e4 : bits .or .u64 ((w * 1152921504606846976 : Nat) : Int) (pl : Int) = (zl : Int) := by
    rw [or60 w pl (by omega) (by omega)]; omega
  refine start hC (nf := N108_wide_value) rfl rfl ?_
  simp [N108_wide_value]
  refine callW_of (wsize_c hC ph (by omega)) (.inl rfl) ?_
  simp [h1]
  rw [e1, e2, e3, e4]
  simp
theorem minus_c (p : Nat) : C 109 [numD p false] (numD p (decide (p ≠ 0))) [] := by
  obtain ⟨zh, hzh⟩ : ∃ z, z = p / 18446744073709551616 := ⟨_, rfl⟩
  obtain ⟨zl, hzl⟩ : ∃ z, z = p % 18446744073709551616 := ⟨_, rfl⟩
  have e : decide (p ≠ 0) = (true && (!decide ((zh : Int) = 0) || !decide ((zl : Int) = 0))) := by
    rw [Bool.eq_iff_iff]; simp; omega
  rw [numD, numD, ← hzh, ← hzl, e]
  refine start hC (nf := N109_wide_minus) rfl rfl ?_
  simp [N109_wide_minus]
  refine callW_of (signed_c hC zh zl true) (.inl rfl) ?_
  simp
set_option maxHeartbeats 4000000 in
theorem sum_c (p r : Nat) (hr : r ≤ p) (hp : p < 1329227995784915872903807060280344576) : C 107 [numD p false, numD r (decide (r ≠ 0))] (numD (p - r) false) [] := by
  obtain ⟨ph, hph⟩ : ∃ z, z = p / 18446744073709551616 := ⟨_, rfl⟩
  obtain ⟨pl, hpl⟩ : ∃ z, z = p % 18446744073709551616 := ⟨_, rfl⟩
  obtain ⟨rh, hrh⟩ : ∃ z, z = r / 18446744073709551616 := ⟨_, rfl⟩
  obtain ⟨rl, hrl⟩ : ∃ z, z = r % 18446744073709551616 := ⟨_, rfl⟩
  obtain ⟨dh, hdh⟩ : ∃ z, z = (p - r) / 18446744073709551616 := ⟨_, rfl⟩
  obtain ⟨dl, hdl⟩ : ∃ z, z = (p - r) % 18446744073709551616 := ⟨_, rfl⟩
  have k0 : (0 : Int) ≤ ph := by omega
  have k1 : (0 : Int) ≤ pl := by omega
  have k2 : (0 : Int) ≤ rl := by omega
  have k3 : (pl : Int) < 18446744073709551616 := by omega
  have k4 : (rl : Int) < 18446744073709551616 := by omega
  by_cases h0 : r = 0
  · subst h0
    have hrh0 : rh = 0 := by omega
    have hrl0 : rl = 0 := by omega
    subst hrh0 hrl0
    rw [numD, numD, numD, ← hph, ← hpl, ← hrh, ← hrl, ← hdh, ← hdl]
    have e1 : (pl : Int) % 18446744073709551616 = (pl : Int) := by omega
    have e2 : (pl : Int) / 18446744073709551616 = 0 := by omega
    have e3 : IntKind.u64.wrap (ph : Int) = (ph : Int) := wrapN ph (by omega)
    have e4 : dh = ph := by omega
    have e5 : dl = pl := by omega
    refine start hC (nf := N107_wide_sum) rfl rfl ?_
    simp [N107_wide_sum, k3, e1, e2, e3]
    refine callW_of (signed_c hC ph pl false) (.inl rfl) ?_
    simp [e4, e5]
  · have hne : decide (r ≠ 0) = true := by simp [h0]
    rw [hne, numD, numD, numD, ← hph, ← hpl, ← hrh, ← hrl, ← hdh, ← hdl]
    have c1 : ¬ (ph : Int) < rh := by omega
    have c2 : (ph : Int) = rh → ¬ (pl : Int) < rl := by omega
    have e1 : ((pl : Int) - rl) % 18446744073709551616 = (dl : Int) := by omega
    have e2 : IntKind.u64.wrap ((ph : Int) - rh) = ((ph - rh : Nat) : Int) := uw (by omega) (by omega)
    have e3 : IntKind.u64.wrap (((ph - rh : Nat) : Int) - (if pl < rl then 1 else 0)) = (dh : Int) := by
      split <;> exact uw (by omega) (by omega)
    refine start hC (nf := N107_wide_sum) rfl rfl ?_
    simp [N107_wide_sum, c1, k3, k4, e1, e2]
    refine brB_of (fun c => ?_) (fun c => ?_) <;> simp at c <;> simp [c]
    · have c3 := c2 (by omega)
      refine brB_of (fun c4 => ?_) (fun c4 => ?_) <;> simp at c4 <;> simp [c4]
      · omega
      have hd0 : dh = 0 := by omega
      have c5 : ¬ pl < rl := by omega
      have hz : IntKind.u64.wrap 0 = 0 := wrapN 0 (by omega)
      simp [k3, k4, e1, hz, c5]
      refine callW_of (signed_c hC 0 dl false) (.inl rfl) ?_
      simp [hd0]
    · simp [k3, k4, e1, e2]
      rw [e3]
      refine callW_of (signed_c hC dh dl false) (.inl rfl) ?_
      simp
end Go.Gv

set_option linter.unusedSimpArgs false
namespace Go.Gv
theorem numD_ex (p : Nat) : ∃ a b : Int, numD p false = .agg [.int .u64 a, .int .u64 b, .bool false] := ⟨_, _, rfl⟩
theorem numD_ex2 (p : Nat) (n : Bool) : ∃ a b : Int, numD p n = .agg [.int .u64 a, .int .u64 b, .bool n] := ⟨_, _, rfl⟩
theorem wiD_ex (p : Nat) : ∃ a b : Int, wiD p = .agg [.int .i64 a, .int .i64 b] := ⟨_, _, rfl⟩
variable {C : CC} (hC : Closed prog C)
include hC
theorem Product_c (x y : Nat) (hx : x < 9223372036854775808) (hy : y < 9223372036854775808) (h : x * y < 1329227995784915872903807060280344576) : C 99 [.int .i64 x, .int .i64 y] (.tup [wiD (x * y), .int .i64 0]) [] := by
  have k1 := wtimes_c hC x y hx hy
  have k2 := placed_c hC (x * y) h
  obtain ⟨a, b, e1⟩ := numD_ex (x * y)
  obtain ⟨c, d, e2⟩ := wiD_ex (x * y)
  rw [e1] at k1 k2
  rw [e2] at k2 ⊢
  refine start hC (nf := N99_wide_Product) rfl rfl ?_
  simp [N99_wide_Product]
  refine callW_of k1 (.inl rfl) ?_
  simp
  refine callW_of k2 (.inr rfl) ?_
  simp
theorem Int_c (p : Nat) (h : p < 9223372036854775808) : C 101 [wiD p] (.tup [.int .i64 p, .int .i64 0]) [] := by
  have k1 := wvalid_c hC p (by omega)
  have k2 := value_c hC p (by omega)
  have e1 : numD p false = .agg [.int .u64 0, .int .u64 p, .bool false] := by
    rw [numD, show p / 18446744073709551616 = 0 by omega, show p % 18446744073709551616 = p by omega]; rfl
  obtain ⟨c, d, e2⟩ := wiD_ex p
  rw [e1] at k2
  rw [e2] at k1 k2 ⊢
  refine start hC (nf := N101_wide_Int) rfl rfl ?_
  simp [N101_wide_Int]
  refine callW_of k1 (.inl rfl) ?_
  simp
  refine callW_of k2 (.inl rfl) ?_
  simp
  refine callW_of (whole_c hC p h) (.inl rfl) ?_
  simp
theorem Sub_c (p r : Nat) (hr : r ≤ p) (h : p < 1329227995784915872903807060280344576) : C 100 [wiD p, wiD r] (.tup [wiD (p - r), .int .i64 0]) [] := by
  have k1 := wvalid_c hC p h
  have k2 := wvalid_c hC r (by omega)
  have k3 := value_c hC p h
  have k4 := value_c hC r (by omega)
  have k5 := minus_c hC r
  have k6 := sum_c hC p r hr h
  have k7 := placed_c hC (p - r) (by omega)
  obtain ⟨a1, a2, e1⟩ := wiD_ex p
  obtain ⟨b1, b2, e2⟩ := wiD_ex r
  obtain ⟨c1, c2, e3⟩ := wiD_ex (p - r)
  obtain ⟨d1, d2, e4⟩ := numD_ex p
  obtain ⟨f1, f2, e5⟩ := numD_ex r
  obtain ⟨g1, g2, e6⟩ := numD_ex2 r (decide (r ≠ 0))
  obtain ⟨i1, i2, e7⟩ := numD_ex (p - r)
  obtain ⟨z, hz⟩ : ∃ z, z = decide (r ≠ 0) := ⟨_, rfl⟩
  rw [← hz] at k5 k6 e6
  rw [e1] at k1 k3 ⊢
  rw [e2] at k2 k4 ⊢
  rw [e3] at k7 ⊢
  rw [e4] at k3 k6
  rw [e5] at k4 k5
  rw [e6] at k5 k6
  rw [e7] at k6 k7
  refine start hC (nf := N100_wide_Sub) rfl rfl ?_
  simp [N100_wide_Sub]
  refine callW_of k1 (.inl rfl) ?_
  simp
  refine callW_of k2 (.inl rfl) ?_
  simp
  refine callW_of k3 (.inl rfl) ?_
  simp
  refine callW_of k4 (.inl rfl) ?_
  simp
  refine callW_of k5 (.inl rfl) ?_
  simp
  refine callW_of k6 (.inl rfl) ?_
  simp
  refine callW_of k7 (.inr rfl) ?_
  simp
  exact indW_of (by decide +kernel)
theorem Scale_c (u a d : Nat) (hu : u < 4503599627370496) (ha : a < d) (hd : d < 4503599627370496) : C 98 [.int .i64 u, .int .i64 a, .int .i64 d] (.tup [.int .i64 (u * a / d : Nat), .int .i64 ((u * a + d - 1) / d : Nat), .int .i64 0]) [] := by
  have h1 : u * a ≤ u * d := Nat.mul_le_mul_left _ (by omega)
  have h1' : u * d = d * u := Nat.mul_comm _ _
  have h2 : u * a / d ≤ u := Nat.le_of_lt_succ (Nat.div_lt_of_lt_mul (by rw [Nat.succ_eq_add_one, Nat.mul_add]; omega))
  have h3 : (u * a + d - 1) / d ≤ u := Nat.le_of_lt_succ (Nat.div_lt_of_lt_mul (by rw [Nat.succ_eq_add_one, Nat.mul_add]; omega))
  have h4 : u * a / 18446744073709551616 < d := by
    have h5 : u * d ≤ 4503599627370496 * d := Nat.mul_le_mul_right _ (by omega)
    omega
  have k1 := wtimes_c hC u a (by omega) (by omega)
  have k2 := quotient_c hC (u * a) d false (u * a / d) (by omega) h4 (by omega) rfl (by omega)
  have k3 := quotient_c hC (u * a) d true ((u * a + d - 1) / d) (by omega) h4 (by omega) rfl (by omega)
  obtain ⟨q1, e1⟩ : ∃ q, q = u * a / d := ⟨_, rfl⟩
  obtain ⟨q2, e2⟩ : ∃ q, q = (u * a + d - 1) / d := ⟨_, rfl⟩
  obtain ⟨a1, a2, e3⟩ := numD_ex (u * a)
  rw [e3] at k1 k2 k3
  rw [← e1] at k2 ⊢
  rw [← e2] at k3 ⊢
  have hd0 : ¬ (d : Int) = 0 := by omega
  clear h1 h1' h2 h3 h4 e1 e2 e3
  refine start hC (nf := N98_wide_Scale) rfl rfl ?_
  simp [N98_wide_Scale]
  refine brB_of (fun c => ?_) (fun c => ?_) <;> simp at c <;> simp [c]
  · omega
  refine callW_of k1 (.inr rfl) ?_
  simp
  refine callW_of k2 (.inl rfl) ?_
  simp
  refine callW_of k3 (.inl rfl) ?_
  simp
end Go.Gv

set_option linter.unusedSimpArgs false
namespace Go.Gv
/-- The number of knots before a number. -/
def posK (t : List (Int × Int)) (x : Int) : Nat := t.findIdx fun k => decide (x ≤ k.1)
def atK (t : List (Int × Int)) (x : Int) : Bool := decide (posK t x < t.length) && decide (t[posK t x]!.1 = x)
/-- The value between two knots: the part below it, the rest, and the denominator. -/
def betK (a b : Int × Int) (x : Int) : Int × Int × Int := (a.2 + (b.2 - a.2) * (x - a.1) / (b.1 - a.1), (b.2 - a.2) * (x - a.1) % (b.1 - a.1), b.1 - a.1)
def pieceF (t : List (Int × Int)) (x : Int) : Int × Int × Int :=
  if atK t x || decide (posK t x = 0) then (t[posK t x]!.2, 0, 1)
  else if posK t x = t.length then (t[posK t x - 1]!.2, 0, 1)
  else betK t[posK t x - 1]! t[posK t x]! x
theorem posK_le (t : List (Int × Int)) (x : Int) : posK t x ≤ t.length := List.findIdx_le_length
theorem posK_lt {t : List (Int × Int)} {x : Int} {j : Nat} (h : j < posK t x) (hl : j < t.length) : t[j].1 < x := by
  have := List.not_of_lt_findIdx h
  simp at this
  exact this
theorem posK_ge {t : List (Int × Int)} {x : Int} (h : posK t x < t.length) : x ≤ t[posK t x].1 := by
  have h2 := List.findIdx_getElem (w := h)
  exact of_decide_eq_true h2
theorem posK_of_le {t : List (Int × Int)} {x : Int} {j : Nat} (hl : j < t.length) (h : x ≤ t[j].1) : posK t x ≤ j := by
  apply Nat.le_of_not_lt
  intro hj
  have := posK_lt hj hl
  omega
theorem valid_le {t : List (Int × Int)} (h : tableValid t = true) {j i : Nat} (hi : i < t.length) (hj : j ≤ i) : t[j].1 ≤ t[i].1 := by
  rcases Nat.lt_or_eq_of_le hj with h1 | rfl
  · have := valid_asc h j i hi h1; omega
  · exact Int.le_refl _
theorem posK_of_lt {t : List (Int × Int)} (hv : tableValid t = true) {x : Int} {j : Nat} (hl : j < t.length) (h : t[j].1 < x) : j < posK t x := by
  apply Nat.lt_of_not_le
  intro hj
  have h1 := posK_ge (t := t) (x := x) (by omega)
  have h2 := valid_le hv hl hj
  omega
theorem between_facts {t : List (Int × Int)} {x : Int} (h : tableValid t = true) (h0 : posK t x ≠ 0) (h1 : posK t x < t.length) (h2 : atK t x = false) :
    ∃ k u a d : Nat, posK t x = k + 1 ∧ k + 1 < t.length ∧ ∃ (g0 : k < t.length) (g1 : k + 1 < t.length), t[k + 1].2 - t[k].2 = u ∧ x - t[k].1 = a ∧ t[k + 1].1 - t[k].1 = d ∧ u < 4503599627370496 ∧ 0 < a ∧ a < d ∧ d < 4503599627370496 ∧ -1125899906842624 ≤ t[k].2 ∧ t[k].2 ≤ 1125899906842624 ∧ t[k].2 + u ≤ 1125899906842624 ∧ t[posK t x - 1]! = t[k] ∧ t[posK t x]! = t[k + 1] ∧ -1125899906842624 ≤ t[k].1 ∧ t[k].1 ≤ 1125899906842624 ∧ t[k + 1].1 ≤ 1125899906842624 := by
  obtain ⟨k, hk⟩ : ∃ k, posK t x = k + 1 := ⟨posK t x - 1, by omega⟩
  have hlt : t[k].1 < x := posK_lt (by omega) (by omega)
  have hge := posK_ge h1
  have e1 : t[posK t x]! = t[posK t x] := getElem!_pos t _ h1
  simp only [atK, h1, decide_true, Bool.true_and, decide_eq_false_iff_not, e1] at h2
  rw [hk] at h1
  simp only [hk] at hge h2 e1
  obtain ⟨f1, f2, f3⟩ := valid_ok h (show k < t.length by omega)
  obtain ⟨f4, f5, f6⟩ := valid_ok h h1
  have f7 := f6 k rfl
  simp only [fits, Bool.and_eq_true, decide_eq_true_eq] at f1 f2 f4 f5
  refine ⟨k, (t[k + 1].2 - t[k].2).toNat, (x - t[k].1).toNat, (t[k + 1].1 - t[k].1).toNat, hk, h1, by omega, h1, by omega, by omega, by omega, by omega, by omega, by omega, by omega, by omega, by omega, by omega, ?_, ?_, by omega, by omega, by omega⟩
  · rw [hk]; exact getElem!_pos t k (by omega)
  · rw [hk]; exact e1
theorem betN {p q : Int × Int} {u a d : Nat} {x : Int} (h1 : q.2 - p.2 = u) (h2 : x - p.1 = a) (h3 : q.1 - p.1 = d) : betK p q x = (p.2 + ((u * a / d : Nat) : Int), ((u * a % d : Nat) : Int), (d : Int)) := by
  simp only [betK, h1, h2, h3]
  push_cast
  rfl
variable {C : CC} (hC : Closed prog C)
include hC
theorem find_c (b : Bool) (t : List (Int × Int)) (x : Int) (h : tableValid t = true) : C 96 [slx b (t.map knD), .int .i64 x, .fn 97 []] (.tup [.int .i64 (posK t x), .bool (atK t x)]) [] := by
  obtain ⟨l1, l2⟩ := valid_len h
  have hpl := posK_le t x
  obtain ⟨n, hn⟩ : ∃ n, n = posK t x := ⟨_, rfl⟩
  obtain ⟨r, hr⟩ : ∃ r, r = atK t x := ⟨_, rfl⟩
  have hlt : ∀ j, (hj : j < t.length) → t[j].1 < x → j < n := fun j hj h1 => hn ▸ posK_of_lt h hj h1
  have hle : ∀ j, (hj : j < t.length) → x ≤ t[j].1 → n ≤ j := fun j hj h1 => hn ▸ posK_of_le hj h1
  rw [← hn] at hpl ⊢
  rw [← hr]
  rw [atK, ← hn] at hr
  refine start hC (nf := N96_slices_BinarySearchFunc_api_Table_api_Knot_int) rfl rfl ?_
  simp [N96_slices_BinarySearchFunc_api_Table_api_Knot_int]
  refine loop_of (Nat × Nat) (fun s => [(0, slx b (t.map knD)), (1, .int .i64 x), (2, .fn 97 []), (8, .int .i64 t.length), (9, .int .i64 s.1), (10, .int .i64 s.2)]) (fun s => s.1 ≤ n ∧ n ≤ s.2 ∧ s.2 ≤ t.length) (fun s => s.2 - s.1) (0, t.length) (by simp; omega) (by simp) ?_
  rintro ⟨i, j⟩ ⟨h1, h2, h3⟩
  simp only at h1 h2 h3
  simp
  refine brB_of (fun c => ?_) (fun c => ?_) <;> simp [c] <;> simp at c
  · obtain ⟨m, hm⟩ : ∃ m, m = (i + j) / 2 := ⟨_, rfl⟩
    have e1 : IntKind.wrap .i64 ((i : Int) + (j : Int)) = ((i + j : Nat) : Int) := wrap_i64 (by omega) (by omega)
    obtain ⟨s, hs⟩ : ∃ s, s = i + j := ⟨_, rfl⟩
    rw [← hs] at e1 hm
    have e2 : Int.fdiv (s : Int) (2 ^ min 1 IntKind.u64.bits) = (m : Int) := by rw [hm]; exact shrN s 1
    have e3 : IntKind.wrap .i64 (m : Int) = (m : Int) := wrap_i64 rfl (by omega)
    have e4 : IntKind.wrap .i64 ((m : Int) + 1) = ((m + 1 : Nat) : Int) := wrap_i64 (by omega) (by omega)
    have hml : m < t.length := by omega
    simp [e1, wrapN s (by omega), e2, e3, hml]
    have hc := cmpKnot_c hC t[m] x
    simp [knD] at hc ⊢
    refine callW_of hc (.inl rfl) ?_
    by_cases hmn : t[m].1 < x
    · have := hlt m hml hmn
      simp [hmn, e4]
      exact ⟨m + 1, j, ⟨by omega, h2, h3⟩, by omega, by omega, by omega⟩
    · have := hle m hml (by omega)
      have hz : ¬ (if x < t[m].1 then (1 : Int) else 0) < 0 := by split <;> omega
      simp [hmn, hz]
      exact ⟨i, m, ⟨by omega, by omega, by omega⟩, by omega, by omega, by omega⟩
  · have : i = n := by omega
    subst this
    refine brB_of (fun c2 => ?_) (fun c2 => ?_) <;> simp at c2 <;> simp [c2]
    · have hc := cmpKnot_c hC t[i] x
      have hge : ¬ t[i].1 < x := fun e => by have := hlt i c2 e; omega
      have e1 : t[i]! = t[i] := getElem!_pos t i c2
      simp [knD] at hc ⊢
      refine callW_of hc (.inl rfl) ?_
      simp [hge, hr, c2, e1]
      omega
    · have : ¬ i < t.length := by omega
      simp [hr, this]
set_option maxHeartbeats 4000000 in
theorem pieceG_c (b : Bool) (t : List (Int × Int)) (x : Int) (h : tableValid t = true) : C 90 [slx b (t.map knD), .int .i64 x] (.tup [.int .i64 (pieceF t x).1, .int .i64 (pieceF t x).2.1, .int .i64 (pieceF t x).2.2]) [] := by
  obtain ⟨l1, l2⟩ := valid_len h
  have hpl := posK_le t x
  have hk := find_c hC b t x h
  obtain ⟨p1, hp1⟩ : ∃ z, z = (pieceF t x).1 := ⟨_, rfl⟩
  obtain ⟨p2, hp2⟩ : ∃ z, z = (pieceF t x).2.1 := ⟨_, rfl⟩
  obtain ⟨p3, hp3⟩ : ∃ z, z = (pieceF t x).2.2 := ⟨_, rfl⟩
  rw [← hp1, ← hp2, ← hp3]
  unfold pieceF at hp1 hp2 hp3
  refine start hC (nf := N90_table_piece) rfl rfl ?_
  simp [N90_table_piece]
  refine callW_of hk (.inl rfl) ?_
  cases ha : atK t x
  · simp
    refine brB_of (fun c => ?_) (fun c => ?_) <;> simp at c <;> simp [c]
    · have h0 : 0 < t.length := by omega
      have e0 : t[0]! = t[0] := getElem!_pos t 0 h0
      rw [if_pos (by simp [c]), c, e0] at hp1 hp2 hp3
      simp [h0, knD, hp1, hp2, hp3]
    refine brB_of (fun c2 => ?_) (fun c2 => ?_) <;> simp at c2 <;> simp [c2]
    · obtain ⟨n, hn⟩ : ∃ n, n + 1 = t.length := ⟨t.length - 1, by omega⟩
      have e1 : IntKind.wrap .i64 ((t.length : Int) - 1) = (n : Int) := wrap_i64 (by omega) (by omega)
      have hnl : n < t.length := by omega
      have e0 : t[posK t x - 1]! = t[n] := by rw [show posK t x - 1 = n by omega]; exact getElem!_pos t n hnl
      rw [if_neg (by simp [ha, c]), if_pos (by omega), e0] at hp1 hp2 hp3
      simp [e1, hnl, knD, hp1, hp2, hp3]
    · obtain ⟨k, u, a, d, q1, q2, g0, g1, r1, r2, r3, r4, r5, r6, r7, r8, r9, r10, s1, s2, r11, r12, r13⟩ := between_facts h c (by omega) ha
      rw [if_neg (by simp [ha, c]), if_neg (by omega), s1, s2, betN r1 r2 r3] at hp1 hp2 hp3
      simp only at hp1 hp2 hp3
      have ew1 : IntKind.wrap .i64 (k : Int) = (k : Int) := wrap_i64 rfl (by omega)
      have ew2 : IntKind.wrap .i64 (t[k + 1].2 - t[k].2) = (u : Int) := wrap_i64 r1 (by omega)
      have ew3 : IntKind.wrap .i64 (x - t[k].1) = (a : Int) := wrap_i64 r2 (by omega)
      have ew4 : IntKind.wrap .i64 (t[k + 1].1 - t[k].1) = (d : Int) := wrap_i64 r3 (by omega)
      have b1 : u * a < 1329227995784915872903807060280344576 := by
        have := Nat.mul_le_mul (show u ≤ 4503599627370496 by omega) (show a ≤ 4503599627370496 by omega)
        omega
      have b2 : u * a / d * d ≤ u * a := Nat.div_mul_le_self _ _
      have b3 : u * a - u * a / d * d = u * a % d := by
        have := Nat.div_add_mod' (u * a) d
        omega
      have b4 : u * a % d < d := Nat.mod_lt _ (by omega)
      have b5 : u * a / d ≤ u := by
        have h1 : u * a ≤ u * d := Nat.mul_le_mul_left _ (by omega)
        have h1' : u * d = d * u := Nat.mul_comm _ _
        exact Nat.le_of_lt_succ (Nat.div_lt_of_lt_mul (by rw [Nat.succ_eq_add_one, Nat.mul_add]; omega))
      have k1 := Scale_c hC u a d r4 r6 r7
      have k2 := Product_c hC u a (by omega) (by omega) b1
      have k3 := Product_c hC (u * a / d) d (by omega) (by omega) (by omega)
      have k4 := Sub_c hC (u * a) (u * a / d * d) b2 b1
      have k5 := Int_c hC (u * a % d) (by omega)
      rw [b3] at k4
      obtain ⟨v1, v2, f1⟩ := wiD_ex (u * a)
      obtain ⟨v3, v4, f2⟩ := wiD_ex (u * a / d * d)
      obtain ⟨v5, v6, f3⟩ := wiD_ex (u * a % d)
      rw [f1] at k2 k4
      rw [f2] at k3 k4
      rw [f3] at k4 k5
      clear b1 b2 b3 f1 f2 f3
      obtain ⟨q, eq⟩ : ∃ q, q = u * a / d := ⟨_, rfl⟩
      obtain ⟨q', eq'⟩ : ∃ q, q = (u * a + d - 1) / d := ⟨_, rfl⟩
      obtain ⟨m, em⟩ : ∃ q, q = u * a % d := ⟨_, rfl⟩
      rw [← eq] at k1 k3 b5 hp1
      rw [← eq'] at k1
      rw [← em] at k5 hp2
      have ew5 : IntKind.wrap .i64 (t[k].2 + (q : Int)) = t[k].2 + (q : Int) := wrap_i64 rfl (by omega)
      simp [ew1, q1, g0, g1, knD]
      refine ⟨indW_of (by decide +kernel), ?_⟩
      simp [ew2, ew3, ew4]
      refine ⟨indW_of (by decide +kernel), ?_⟩
      refine callW_of k1 (.inl rfl) ?_
      simp
      refine callW_of k2 (.inr rfl) ?_
      simp
      refine callW_of k3 (.inr rfl) ?_
      simp
      refine callW_of k4 (.inr rfl) ?_
      simp
      refine callW_of k5 (.inl rfl) ?_
      simp [ew5, hp1, hp2, hp3]
  · have hlt : posK t x < t.length := by simp [atK] at ha; exact ha.1
    have e0 : t[posK t x]! = t[posK t x] := getElem!_pos t _ hlt
    rw [if_pos (by simp [ha]), e0] at hp1 hp2 hp3
    simp [hlt, knD, hp1, hp2, hp3]
theorem FloorG_c (b : Bool) (t : List (Int × Int)) (x : Int) (h : tableValid t = true) : C 73 [slx b (t.map knD), .int .i64 x] (.tup [.int .i64 (pieceF t x).1, .int .i64 0]) [] := by
  refine start hC (nf := N73_table_Floor) rfl rfl ?_
  simp [N73_table_Floor]
  refine callW_of (tableValid_c hC b t) (.inl rfl) ?_
  simp [h]
  refine callW_of (pieceG_c hC b t x h) (.inl rfl) ?_
  simp
end Go.Gv

set_option linter.unusedSimpArgs false
namespace Go.Gv

theorem conv_last {s : Sec} (h : secValid s = true) : tableValid s.conv = true ∧ (lastK s.conv).1 = s.height ∧ 0 ≤ (lastK s.conv).2 ∧ (lastK s.conv).2 ≤ 1099511627776 := by
  simp only [secValid, curveOk, Bool.and_eq_true, decide_eq_true_eq, beq_iff_eq] at h
  obtain ⟨_, ⟨⟨hv, h0⟩, h1⟩, h2⟩ := h
  obtain ⟨l1, l2⟩ := valid_len hv
  have hp : ∀ i (hi : i < s.conv.length), 0 ≤ s.conv[i].2 := by
    intro i
    induction i with
    | zero => intro hi; have := h0.2; rw [getElem!_pos s.conv 0 hi] at this; omega
    | succ i ih =>
      intro hi
      have h3 := ((valid_ok hv hi).2.2 i rfl).2
      have := ih (by omega)
      omega
  obtain ⟨n, hn⟩ : ∃ n, n + 1 = s.conv.length := ⟨s.conv.length - 1, by omega⟩
  refine ⟨hv, h1, ?_, h2⟩
  rw [lastK_get hn]
  exact hp n (by omega)
theorem cap_lt {k f : Nat} (hk : k ≤ 1099511627776) (hf : f ≤ 4194304) : k * k * f ≤ 5070602400912917605986812821504 := by
  have h1 := Nat.mul_le_mul hk hk
  have h2 := Nat.mul_le_mul h1 hf
  exact h2

variable {C : CC} (hC : Closed prog C)
include hC
end Go.Gv

set_option linter.unusedSimpArgs false
namespace Go.Gv
/-- A search by halves: the fuel, and the two ends. -/
def bis (p : Nat → Bool) : Nat → Nat → Nat → Nat
  | 0, lo, _ => lo
  | f + 1, lo, hi => if lo < hi then (if p ((lo + hi) / 2) then bis p f lo ((lo + hi) / 2) else bis p f ((lo + hi) / 2 + 1) hi) else lo
theorem bis_end (p : Nat → Bool) (f lo hi : Nat) (h : hi ≤ lo) : bis p f lo hi = lo := by
  cases f with
  | zero => rfl
  | succ f => simp only [bis]; rw [if_neg (by omega)]
theorem bis_step {p : Nat → Bool} {f lo hi : Nat} (h : lo < hi) (hf : hi - lo < 2 ^ f) : ∃ f', hi - (lo + hi) / 2 < 2 ^ f ∧ ((lo + hi) / 2 - lo < 2 ^ f') ∧ (hi - ((lo + hi) / 2 + 1) < 2 ^ f') ∧ bis p f lo hi = if p ((lo + hi) / 2) then bis p f' lo ((lo + hi) / 2) else bis p f' ((lo + hi) / 2 + 1) hi := by
  cases f with
  | zero => simp at hf; omega
  | succ f =>
    rw [Nat.pow_succ] at hf
    refine ⟨f, by rw [Nat.pow_succ]; omega, by omega, by omega, ?_⟩
    simp only [bis]
    rw [if_pos h]
theorem bis_range (p : Nat → Bool) : ∀ (f lo hi : Nat), lo ≤ hi → lo ≤ bis p f lo hi ∧ bis p f lo hi ≤ hi
  | 0, lo, hi, h => ⟨Nat.le_refl _, h⟩
  | f + 1, lo, hi, h => by
    simp only [bis]
    split
    · split
      · have := bis_range p f lo ((lo + hi) / 2) (by omega); omega
      · have := bis_range p f ((lo + hi) / 2 + 1) hi (by omega); omega
    · omega
theorem bis_mono {p q : Nat → Bool} (h : ∀ n, q n = true → p n = true) : ∀ (f lo hi : Nat), lo ≤ hi → bis p f lo hi ≤ bis q f lo hi
  | 0, lo, hi, _ => Nat.le_refl _
  | f + 1, lo, hi, hlh => by
    simp only [bis]
    split
    · cases hp : p ((lo + hi) / 2)
      · have hq : q ((lo + hi) / 2) = false := by
          cases hq : q ((lo + hi) / 2)
          · rfl
          · rw [h _ hq] at hp; cases hp
        rw [hq]
        simp only [Bool.false_eq_true, if_false]
        exact bis_mono h f _ _ (by omega)
      · cases hq : q ((lo + hi) / 2)
        · simp only [Bool.false_eq_true, if_false, if_true]
          have h1 := bis_range p f lo ((lo + hi) / 2) (by omega)
          have h2 := bis_range q f ((lo + hi) / 2 + 1) hi (by omega)
          omega
        · simp only [if_true]
          exact bis_mono h f _ _ (by omega)
    · exact Nat.le_refl _
theorem valid_val {t : List (Int × Int)} (h : tableValid t = true) : ∀ {i j : Nat} (hi : i < t.length) (hj : j ≤ i), t[j].2 ≤ t[i].2 := by
  intro i
  induction i with
  | zero => intro j hi hj; have : j = 0 := by omega
            subst this; exact Int.le_refl _
  | succ i ih =>
    intro j hi hj
    rcases Nat.lt_or_eq_of_le hj with h1 | rfl
    · have h2 := ((valid_ok h hi).2.2 i rfl).2
      have := ih (by omega) (show j ≤ i by omega)
      omega
    · exact Int.le_refl _
/-- Between which values of knots a value lies. -/
theorem pieceF_knots {t : List (Int × Int)} (h : tableValid t = true) (x : Int) : ∃ i j : Nat, ∃ (hi : i < t.length) (hj : j < t.length), t[i].2 ≤ (pieceF t x).1 ∧ (pieceF t x).1 ≤ t[j].2 := by
  obtain ⟨l1, l2⟩ := valid_len h
  have hpl := posK_le t x
  unfold pieceF
  cases ha : atK t x
  · by_cases c : posK t x = 0
    · have h0 : 0 < t.length := by omega
      rw [if_pos (by simp [c]), c, getElem!_pos t 0 h0]
      exact ⟨0, 0, h0, h0, Int.le_refl _, Int.le_refl _⟩
    rw [if_neg (by simp [c])]
    by_cases c2 : posK t x = t.length
    · obtain ⟨n, hn⟩ : ∃ n, n + 1 = t.length := ⟨t.length - 1, by omega⟩
      have hnl : n < t.length := by omega
      rw [if_pos c2, show posK t x - 1 = n by omega, getElem!_pos t n hnl]
      exact ⟨n, n, hnl, hnl, Int.le_refl _, Int.le_refl _⟩
    · obtain ⟨k, u, a, d, q1, q2, g0, g1, r1, r2, r3, r4, r5, r6, r7, r8, r9, r10, s1, s2, r11, r12, r13⟩ := between_facts h c (by omega) ha
      rw [if_neg c2, s1, s2, betN r1 r2 r3]
      have b5 : u * a / d ≤ u := by
        have h1 : u * a ≤ u * d := Nat.mul_le_mul_left _ (by omega)
        have h1' : u * d = d * u := Nat.mul_comm _ _
        exact Nat.le_of_lt_succ (Nat.div_lt_of_lt_mul (by rw [Nat.succ_eq_add_one, Nat.mul_add]; omega))
      generalize u * a / d = q at b5
      exact ⟨k, k + 1, g0, g1, by simp only; omega, by simp only; omega⟩
  · have hlt : posK t x < t.length := by simp [atK] at ha; exact ha.1
    rw [if_pos (by simp), getElem!_pos t _ hlt]
    exact ⟨_, _, hlt, hlt, Int.le_refl _, Int.le_refl _⟩
theorem pieceF_range {t : List (Int × Int)} (h : tableValid t = true) (x : Int) : t[0]!.2 ≤ (pieceF t x).1 ∧ (pieceF t x).1 ≤ (lastK t).2 := by
  obtain ⟨l1, l2⟩ := valid_len h
  obtain ⟨i, j, hi, hj, h1, h2⟩ := pieceF_knots h x
  obtain ⟨n, hn⟩ : ∃ n, n + 1 = t.length := ⟨t.length - 1, by omega⟩
  have h0 : 0 < t.length := by omega
  rw [lastK_get hn, getElem!_pos t 0 h0]
  have k1 := valid_val h hi (show 0 ≤ i by omega)
  have k2 := valid_val h (show n < t.length by omega) (show j ≤ n by omega)
  omega
def carF (s : Sec) (depth fall len : Int) : Nat := rootN ((pieceF s.conv depth).1.toNat * (pieceF s.conv depth).1.toNat * fall.toNat / len.toNat)
def enoughD (s : Sec) (flow fall len : Int) (m : Nat) : Bool := decide (flow ≤ (carF s m fall len : Int))
def leastD (s : Sec) (flow fall len : Int) : Nat := bis (enoughD s flow fall len) 40 0 (s.height.toNat + 1)
def depthF (s : Sec) (flow fall len : Int) : Int × Int :=
  if secValid s then (if 0 ≤ flow ∧ flow ≤ 1099511627776 ∧ slopeOk fall len = true then (if s.height.toNat < leastD s flow fall len then (0, 28) else (leastD s flow fall len, 0)) else (0, 2)) else (0, 1)
theorem conv_any {s : Sec} (h : secValid s = true) (x : Int) : 0 ≤ (pieceF s.conv x).1 ∧ (pieceF s.conv x).1 ≤ 1099511627776 := by
  obtain ⟨h1, h2, h3, h4⟩ := conv_last h
  have hr := pieceF_range h1 x
  simp only [secValid, curveOk, Bool.and_eq_true, decide_eq_true_eq, beq_iff_eq] at h
  have h0 := h.2.1.1.2.2
  omega

variable {C : CC} (hC : Closed prog C)
include hC
theorem carriedG_c (s : Sec) (depth fall len : Int) (hv : secValid s = true) (hs : slopeOk fall len = true) : C 61 [.agg (secC s), .int .i64 depth, .int .i64 fall, .int .i64 len] (.tup [.int .i64 (carF s depth fall len), .int .i64 0]) [] := by
  obtain ⟨c1, _, _, _⟩ := conv_last hv
  obtain ⟨c3, c4⟩ := conv_any hv depth
  simp only [slopeOk, Bool.and_eq_true, decide_eq_true_eq] at hs
  have hF := FloorG_c hC s.convN s.conv depth c1
  obtain ⟨k, hk⟩ : ∃ k : Nat, (pieceF s.conv depth).1 = k := ⟨(pieceF s.conv depth).1.toNat, by omega⟩
  obtain ⟨f, rfl⟩ : ∃ f : Nat, fall = f := ⟨fall.toNat, by omega⟩
  obtain ⟨l, rfl⟩ : ∃ l : Nat, len = l := ⟨len.toNat, by omega⟩
  have hcap : carF s depth f l = rootN (k * k * f / l) := by simp [carF, hk]
  rw [hk] at hF
  rw [hcap]
  have hb := cap_lt (k := k) (f := f) (by omega) (by omega)
  have hb0 : k * k ≤ 1208925819614629174706176 := Nat.mul_le_mul (show k ≤ 1099511627776 by omega) (show k ≤ 1099511627776 by omega)
  have hb2 := Nat.div_le_self (k * k * f) l
  refine start hC (nf := N61_catalogue_carried) rfl rfl ?_
  simp [N61_catalogue_carried, secC]
  refine callW_of hF (.inl rfl) ?_
  simp
  refine callW_of (product_c hC k k (by omega) (by omega)) (.inl rfl) ?_
  have v : ∀ x, isV (wideD x) = true ∧ (∀ f : Nat → D, dpOk f (wideD x)) ∧ (∀ f : Nat → D, dp f (wideD x) = wideD x) ∧ ∀ ks, kill1 ks (wideD x) = wideD x := fun x => ⟨rfl, fun _ => trivial, fun _ => rfl, fun _ => by simp [wideD]⟩
  simp [v]
  refine callW_of (times_c hC (k * k) f (by omega) (by omega) (by omega)) (.inl rfl) ?_
  simp [v]
  refine callW_of (over_c hC (k * k * f) l (by omega) (by omega) (by omega)) (.inl rfl) ?_
  simp [v]
  refine callW_of (root_c hC (k * k * f / l)) (.inl rfl) ?_
  simp
theorem Depth_c (s : Sec) (flow fall len : Int) : C 165 [.agg (secC s), .int .i64 flow, .int .i64 fall, .int .i64 len] (.tup [.int .i64 (depthF s flow fall len).1, .int .i64 (depthF s flow fall len).2]) [] := by
  obtain ⟨r, hr⟩ : ∃ r, r = depthF s flow fall len := ⟨_, rfl⟩
  rw [← hr]
  unfold depthF at hr
  have hvc := valid_c hC s
  have hsl := slope_c hC fall len
  have es : (decide (0 ≤ fall) && decide (fall ≤ 4194304) && decide (1 ≤ len) && decide (len ≤ 16777216)) = slopeOk fall len := rfl
  rw [es] at hsl
  rw [secC] at hvc
  refine start hC (nf := N165_catalogue_Depth) rfl rfl ?_
  simp [N165_catalogue_Depth, secC]
  refine callW_of hvc (.inl rfl) ?_
  cases hv : secValid s
  · rw [if_neg (by simp [hv])] at hr
    simp [hr]
  rw [if_pos hv] at hr
  have hh : 1 ≤ s.height ∧ s.height ≤ 32768 := by
    simp only [secValid, Bool.and_eq_true, decide_eq_true_eq] at hv
    omega
  obtain ⟨H, hH⟩ : ∃ H : Nat, s.height = H := ⟨s.height.toNat, by omega⟩
  simp
  refine brB_of (fun c1 => ?_) (fun c1 => ?_) <;> simp at c1 <;> simp [c1]
  · rw [if_neg (by omega)] at hr
    simp [hr]
  refine brB_of (fun c2 => ?_) (fun c2 => ?_) <;> simp at c2 <;> simp [c2]
  · rw [if_neg (by omega)] at hr
    simp [hr]
  refine callW_of hsl (.inl rfl) ?_
  cases hs : slopeOk fall len
  · rw [if_neg (by simp [hs])] at hr
    simp [hr]
  rw [if_pos ⟨by omega, by omega, hs⟩] at hr
  have e1 : IntKind.wrap .i64 (s.height + 1) = ((H + 1 : Nat) : Int) := wrap_i64 (by omega) (by omega)
  simp [e1]
  refine ⟨indW_of (by decide +kernel), ?_⟩
  have hl : leastD s flow fall len = bis (enoughD s flow fall len) 40 0 (H + 1) := by rw [leastD, hH]; rfl
  obtain ⟨L, hL⟩ : ∃ L, L = leastD s flow fall len := ⟨_, rfl⟩
  rw [← hL] at hl hr
  rw [hH] at hr
  have hcc := fun m : Nat => carriedG_c hC s m fall len hv hs
  simp only [secC, hH] at hcc
  simp only [hH]
  refine loop_of (Nat × Nat × Nat) (fun z => [(1, .int .i64 flow), (2, .int .i64 fall), (3, .int .i64 len), (4, .ptr [.str s.name, .int .i64 H, .int .i64 s.price, slx s.areaN (s.area.map knD), slx s.convN (s.conv.map knD)]), (10, .int .i64 z.2.1), (11, .int .i64 z.2.2)])
    (fun z => z.2.1 ≤ z.2.2 ∧ z.2.2 ≤ H + 1 ∧ z.2.2 - z.2.1 < 2 ^ z.1 ∧ bis (enoughD s flow fall len) z.1 z.2.1 z.2.2 = L) (fun z => z.2.2 - z.2.1) (40, 0, H + 1) ⟨by simp, by simp, by simp; omega, by rw [hl]⟩ (by simp) ?_
  rintro ⟨f, lo, hi⟩ ⟨i1, i2, i3, i4⟩
  simp only at i1 i2 i3 i4
  simp
  refine brB_of (fun c => ?_) (fun c => ?_) <;> simp at c <;> simp [c]
  · obtain ⟨f', _, j2, j3, j4⟩ := bis_step (p := enoughD s flow fall len) c i3
    obtain ⟨sm, hsm⟩ : ∃ sm, sm = lo + hi := ⟨_, rfl⟩
    rw [← hsm] at j2 j3 j4
    obtain ⟨m, hm⟩ : ∃ m, m = sm / 2 := ⟨_, rfl⟩
    rw [← hm] at j2 j3 j4
    have e2 : IntKind.wrap .i64 ((lo : Int) + (hi : Int)) = (sm : Int) := wrap_i64 (by omega) (by omega)
    have e3 : Int.tdiv (sm : Int) 2 = (m : Int) := by rw [hm]; exact tdivN sm 2
    have e4 : IntKind.wrap .i64 (m : Int) = (m : Int) := wrap_i64 rfl (by omega)
    have e5 : IntKind.wrap .i64 ((m : Int) + 1) = ((m + 1 : Nat) : Int) := wrap_i64 (by omega) (by omega)
    rw [i4] at j4
    simp [e2, e3, e4]
    refine callW_of (hcc m) (.inl rfl) ?_
    simp
    refine brB_of (fun c3 => ?_) (fun c3 => ?_) <;> simp at c3 <;> simp [c3]
    · rw [if_pos (by simp [enoughD, c3])] at j4
      exact ⟨f', lo, m, ⟨by omega, by omega, j2, j4.symm⟩, by omega, by omega, by omega⟩
    · rw [if_neg (by simp [enoughD]; omega)] at j4
      simp [e5]
      exact ⟨f', m + 1, hi, ⟨by omega, by omega, j3, j4.symm⟩, by omega, by omega, by omega⟩
  · rw [bis_end _ _ _ _ c] at i4
    subst i4
    refine brB_of (fun c3 => ?_) (fun c3 => ?_) <;> simp at c3 <;> simp [c3]
    · rw [if_pos (by simp; omega)] at hr
      simp [hr]
    · rw [if_neg (by simp; omega)] at hr
      simp [hr]
end Go.Gv

set_option linter.unusedSimpArgs false
namespace Go.Gv
/-! ### links -/
theorem pump_eq (l : List (Int × Int)) : (tableValid l && !(l.any fun k => !pumpOk k)) = curveR l := by
  by_cases hv : tableValid l = true
  · obtain ⟨l1, l2⟩ := valid_len hv
    obtain ⟨n, hn⟩ : ∃ n, n + 1 = l.length := ⟨l.length - 1, by omega⟩
    have h0 : 0 < l.length := by omega
    have hnl : n < l.length := by omega
    have hany : (!(l.any fun k => !pumpOk k)) = l.all pumpOk := by rw [Bool.eq_iff_iff]; simp
    rw [hany, curveR, hv, lastK_get hn, getElem!_pos l 0 h0, Bool.eq_iff_iff]
    simp only [Bool.true_and, List.all_eq_true, Bool.and_eq_true, decide_eq_true_eq]
    constructor
    · intro h
      have ha := h l[0] (List.getElem_mem h0)
      have hb := h l[n] (List.getElem_mem hnl)
      simp only [pumpOk, lowHigh, Bool.and_eq_true, decide_eq_true_eq] at ha hb
      omega
    · intro h k hk
      obtain ⟨i, hi, rfl⟩ := List.getElem_of_mem hk
      have a1 := valid_le hv hi (show 0 ≤ i by omega)
      have a2 := valid_le hv hnl (show i ≤ n by omega)
      have a3 := valid_val hv hi (show 0 ≤ i by omega)
      have a4 := valid_val hv hnl (show i ≤ n by omega)
      simp only [pumpOk, lowHigh, Bool.and_eq_true, decide_eq_true_eq]
      omega
  · simp [curveR, hv]
theorem linkR_eq (l : Lnk) : linkR l = linkOk l := by
  have hcur : ∀ x : List (Int × Int), decide (x.length = 0) = decide (x = []) := fun x => by
    rw [Bool.eq_iff_iff]; simp
  have hp := pump_eq l.curve
  unfold linkR linkOk kindR kindOk sameL plainF
  simp only [hcur]
  have l0 : lvlOk 0 = true := by decide
  by_cases h1 : l.kind = 1
  · simp [h1]
    ac_rfl
  by_cases h2 : l.kind = 2
  · by_cases hd : l.down = 0
    · simp [h2, hd, l0]
      ac_rfl
    · simp [h2, hd]
  by_cases h3 : l.kind = 3
  · by_cases hd : l.down = 0
    · simp [h3, hd, l0]
      ac_rfl
    · simp [h3, hd]
  by_cases h4 : l.kind = 4
  · simp [h4]
    rw [← hp]
    ac_rfl
  · simp [h1, h2, h3, h4]
end Go.Gv

set_option linter.unusedSimpArgs false
namespace Go.Gv
abbrev Edg := Nat × Nat
def edK (e : Edg) : List D := knD ((e.1 : Int), (e.2 : Int))
def edI (e : Edg) : Int × Int := ((e.1 : Int), (e.2 : Int))
theorem edK_map (es : List Edg) : es.map edK = (es.map edI).map knD := by simp [edK, edI]
def intL (l : List Nat) : List (List D) := l.map fun k : Nat => [.int .i64 (k : Int)]
def inG (n : Nat) (es : List Edg) : Prop := ∀ e ∈ es, e.1 < n ∧ e.2 < n
/-- To which nodes edges lead from a node, ascending. -/
def nxt (n : Nat) (es : List Edg) (i : Nat) : List Nat := (List.range n).filter fun k => es.contains (i, k)
theorem mem_nxt {n : Nat} {es : List Edg} {i k : Nat} : k ∈ nxt n es i ↔ k < n ∧ (i, k) ∈ es := by simp [nxt]
theorem nxt_nodup (n : Nat) (es : List Edg) (i : Nat) : (nxt n es i).Nodup := List.Pairwise.filter _ List.nodup_range
theorem nxt_len (n : Nat) (es : List Edg) (i : Nat) : (nxt n es i).length ≤ n := by
  have := List.length_filter_le (fun k => es.contains (i, k)) (List.range n)
  simpa [nxt] using this
theorem set_rm {α : Type} {n k : Nat} {f : Nat → α} (x : α) : ((List.range n).map f).set k x = (List.range n).map fun v => if v = k then x else f v := by
  apply List.ext_getElem
  · simp
  · intro i h1 h2
    simp only [List.getElem_set, List.getElem_map, List.getElem_range]
    by_cases e : k = i
    · rw [if_pos e, if_pos e.symm]
    · rw [if_neg e, if_neg (Ne.symm e)]
/-- The targets of edges, as they come. -/
def tgs (es : List Edg) (i : Nat) : List Nat := (es.filter fun e => e.1 == i).map (·.2)
theorem mem_tgs {es : List Edg} {i k : Nat} : k ∈ tgs es i ↔ (i, k) ∈ es := by
  unfold tgs
  simp only [List.mem_map, List.mem_filter, beq_iff_eq]
  constructor
  · rintro ⟨⟨a, b⟩, ⟨h1, h2⟩, h3⟩
    simp only at h2 h3
    subst h2 h3
    exact h1
  · intro h
    exact ⟨(i, k), ⟨h, rfl⟩, rfl⟩
theorem tgs_take {es : List Edg} {j : Nat} (hj : j < es.length) (v : Nat) : tgs (es.take (j + 1)) v = tgs (es.take j) v ++ (if es[j].1 = v then [es[j].2] else []) := by
  unfold tgs
  rw [List.take_succ_eq_append_getElem hj, List.filter_append, List.map_append]
  congr 1
  by_cases h : es[j].1 = v <;> simp [h]
theorem tgs_len (es : List Edg) (i : Nat) : (tgs es i).length ≤ es.length := by
  unfold tgs
  rw [List.length_map]
  exact List.length_filter_le _ _
/-- All predecessors of v are there. -/
def prOk (es : List Edg) (out : List Nat) (v : Nat) : Bool := es.all fun e => !(e.2 == v) || out.contains e.1
theorem prOk_iff {es : List Edg} {out : List Nat} {v : Nat} : prOk es out v = true ↔ ∀ u, (u, v) ∈ es → u ∈ out := by
  unfold prOk
  simp only [List.all_eq_true, Bool.or_eq_true, Bool.not_eq_true', beq_eq_false_iff_ne, List.contains_iff_mem]
  constructor
  · intro h u hu
    rcases h _ hu with h | h
    · exact absurd rfl h
    · exact h
  · rintro h ⟨a, b⟩ he
    by_cases e : b = v
    · subst e; exact .inr (h a he)
    · exact .inl e
def rdyL (n : Nat) (es : List Edg) (out : List Nat) : List Nat := (List.range n).filter fun v => !out.contains v && prOk es out v
theorem mem_rdyL {n : Nat} {es : List Edg} {out : List Nat} {v : Nat} : v ∈ rdyL n es out ↔ v < n ∧ v ∉ out ∧ ∀ u, (u, v) ∈ es → u ∈ out := by
  simp only [rdyL, List.mem_filter, List.mem_range, Bool.and_eq_true, Bool.not_eq_true', ← prOk_iff]
  simp
def stepO (n : Nat) (es : List Edg) (out : List Nat) : List Nat := match rdyL n es out with
  | [] => out
  | v :: _ => out ++ [v]
/-- The least order, as far as it goes: m steps of it. -/
def ordN (n : Nat) (es : List Edg) : Nat → List Nat
  | 0 => []
  | m + 1 => stepO n es (ordN n es m)
def ordF (n : Nat) (es : List Edg) : List Nat := ordN n es n
/-- How many nodes that are not there yet lead to k. -/
def cntW (n : Nat) (es : List Edg) (out : List Nat) (k : Nat) : Nat := ((List.range n).filter fun u => es.contains (u, k) && !out.contains u).length
/-- How many of the first i nodes lead to k. -/
def cntU (es : List Edg) (i k : Nat) : Nat := ((List.range i).filter fun u => es.contains (u, k)).length
theorem cntU_all (n : Nat) (es : List Edg) (k : Nat) : cntU es n k = cntW n es [] k := by
  unfold cntU cntW
  congr 1
  apply List.filter_congr
  simp
theorem cntU_succ (es : List Edg) (i k : Nat) : cntU es (i + 1) k = cntU es i k + (if (i, k) ∈ es then 1 else 0) := by
  unfold cntU
  rw [List.range_succ, List.filter_append, List.length_append]
  by_cases h : (i, k) ∈ es <;> simp [h]
theorem cntU_le (es : List Edg) (i k : Nat) : cntU es i k ≤ i := by
  have := List.length_filter_le (fun u => es.contains (u, k)) (List.range i)
  simpa [cntU] using this
theorem cntW_zero {n : Nat} {es : List Edg} (hg : inG n es) {out : List Nat} {k : Nat} : cntW n es out k = 0 ↔ prOk es out k = true := by
  rw [prOk_iff]
  unfold cntW
  rw [List.length_eq_zero_iff, List.filter_eq_nil_iff]
  constructor
  · intro h u hu
    have := h u (by simpa using (hg _ hu).1)
    simp at this
    exact this hu
  · intro h u hu
    simp
    exact fun he => h u he
theorem filter_len_split {α : Type} (l : List α) (p q : α → Bool) : (l.filter p).length = (l.filter fun a => p a && q a).length + (l.filter fun a => p a && !q a).length := by
  induction l with
  | nil => rfl
  | cons a l ih =>
    simp only [List.filter_cons]
    cases p a <;> cases q a <;> simp <;> omega
theorem cntW_step {n : Nat} {es : List Edg} {out : List Nat} {i : Nat} (hi : i < n) (ho : i ∉ out) (k : Nat) : cntW n es out k = cntW n es (out ++ [i]) k + (if (i, k) ∈ es then 1 else 0) := by
  unfold cntW
  rw [filter_len_split (List.range n) (fun u => es.contains (u, k) && !out.contains u) (fun u => !(u == i))]
  congr 1
  · congr 1
    apply List.filter_congr
    intro u _
    rw [Bool.eq_iff_iff]
    simp [and_assoc]
  · have e : (List.range n).filter (fun a => (es.contains (a, k) && !out.contains a) && !!(a == i)) = if (i, k) ∈ es then [i] else [] := by
      have h1 : (List.range n).filter (fun a => (es.contains (a, k) && !out.contains a) && !!(a == i)) = ((List.range n).filter (fun a => a == i)).filter fun a => es.contains (a, k) && !out.contains a := by
        rw [List.filter_filter]
        apply List.filter_congr
        intro u _
        simp
      have h2 : (List.range n).filter (fun a => a == i) = [i] := by
        have : (List.range n).filter (fun a => a == i) = List.replicate ((List.range n).count i) i := List.filter_beq i
        rw [this, List.nodup_range.count, if_pos (by simpa using hi)]
        rfl
      rw [h1, h2]
      by_cases h : (i, k) ∈ es <;> simp [h, ho]
    rw [e]
    split <;> rfl
end Go.Gv

set_option linter.unusedSimpArgs false
namespace Go.Gv
/-- What the library's functions on rows of whole numbers do. -/
structure SlC (C : CC) : Prop where
  sort : ∀ zs : List Int, zs.length < 2 ^ 40 → C 366 [.own 1 (zs.map fun n => [.int .i64 n])] .any [.own 1 ((zs.mergeSort fun x y => decide (x ≤ y)).map fun n => [.int .i64 n]), .nilp]
  compact : ∀ zs : List Int, zs.length < 2 ^ 40 → C 523 [.own 1 (zs.map fun n => [.int .i64 n])] .any [.own 1 ((Lib.compact zs).map fun n => [.int .i64 n]), .nils, .nils]
  insert : ∀ (zs : List Int) (i : Nat) (x : Int), i ≤ zs.length → zs.length < 2 ^ 40 → C 519 [.own 1 (zs.map fun n => [.int .i64 n]), .int .i64 i, .own 1 [[.int .i64 x]]] .any [.own 1 ((zs.take i ++ x :: zs.drop i).map fun n => [.int .i64 n]), .nils, .nils]
theorem strict_ext : ∀ {l l' : List Int}, l.Pairwise (· < ·) → l'.Pairwise (· < ·) → (∀ x, x ∈ l ↔ x ∈ l') → l = l'
  | [], [], _, _, _ => rfl
  | [], b :: _, _, _, h => by simpa using (h b).2 (by simp)
  | a :: _, [], _, _, h => by simpa using (h a).1 (by simp)
  | a :: l, b :: l', h1, h2, h => by
    rw [List.pairwise_cons] at h1 h2
    have e : a = b := by
      have x1 := (h a).1 (by simp)
      have x2 := (h b).2 (by simp)
      simp only [List.mem_cons] at x1 x2
      rcases x1 with x1 | x1
      · exact x1
      · rcases x2 with x2 | x2
        · exact x2.symm
        · have := h2.1 a x1; have := h1.1 b x2; omega
    subst e
    congr 1
    refine strict_ext h1.2 h2.2 fun x => ?_
    have := h x
    simp only [List.mem_cons] at this
    constructor
    · intro hx
      have h3 := h1.1 x hx
      rcases this.1 (.inr hx) with h4 | h4
      · omega
      · exact h4
    · intro hx
      have h3 := h2.1 x hx
      rcases this.2 (.inr hx) with h4 | h4
      · omega
      · exact h4
theorem compact_spec {d : Array Int} (hs : ∀ j, 0 < j → j < d.size → d[j - 1]! ≤ d[j]!) : ∀ m, m ≤ d.size → (Lib.compactUpTo d m).Pairwise (· < ·) ∧ (∀ x, x ∈ Lib.compactUpTo d m ↔ ∃ j, j < m ∧ d[j]! = x) ∧ ∀ x ∈ Lib.compactUpTo d m, x ≤ d[m - 1]!
  | 0, _ => by simp [Lib.compactUpTo]
  | m + 1, hm => by
    obtain ⟨h1, h2, h3⟩ := compact_spec hs m (by omega)
    rw [Lib.compactUpTo_succ]
    by_cases hk : Lib.keeps d m = true
    · rw [if_pos hk]
      have hlt : ∀ x ∈ Lib.compactUpTo d m, x < d[m]! := fun x hx => by
        have h4 := h3 x hx
        simp only [Lib.keeps, decide_eq_true_eq] at hk
        rcases hk with rfl | hk
        · obtain ⟨j, hj, _⟩ := (h2 x).1 hx; omega
        · rcases Nat.eq_zero_or_pos m with h0 | h0
          · subst h0; obtain ⟨j, hj, _⟩ := (h2 x).1 hx; omega
          · have := hs m h0 (by omega); omega
      refine ⟨List.pairwise_append.2 ⟨h1, by simp, fun a ha b hb => by simp at hb; subst hb; exact hlt a ha⟩, fun x => ?_, fun x hx => ?_⟩
      · simp only [List.mem_append, List.mem_singleton, h2]
        constructor
        · rintro (⟨j, hj, rfl⟩ | rfl)
          · exact ⟨j, by omega, rfl⟩
          · exact ⟨m, by omega, rfl⟩
        · rintro ⟨j, hj, rfl⟩
          by_cases e : j = m
          · exact .inr (by rw [e])
          · exact .inl ⟨j, by omega, rfl⟩
      · simp only [List.mem_append, List.mem_singleton] at hx
        rcases hx with hx | hx
        · exact Int.le_of_lt (hlt x hx)
        · rw [hx]; exact Int.le_refl _
    · rw [if_neg hk, List.append_nil]
      have hm0 : 0 < m := by
        rcases Nat.eq_zero_or_pos m with h | h
        · subst h; exact absurd (Lib.keeps_lt_one d 0 (by omega)) hk
        · exact h
      have he : d[m]! = d[m - 1]! := by
        apply Classical.byContradiction
        intro h
        exact hk (Lib.keeps_pos h)
      refine ⟨h1, fun x => ?_, fun x hx => ?_⟩
      · rw [h2]
        constructor
        · rintro ⟨j, hj, rfl⟩; exact ⟨j, by omega, rfl⟩
        · rintro ⟨j, hj, rfl⟩
          by_cases e : j = m
          · subst e; exact ⟨j - 1, by omega, he.symm⟩
          · exact ⟨j, by omega, rfl⟩
      · have := h3 x hx
        simp only [Nat.add_sub_cancel, he]
        exact this
/-- Sorted, each once: what follows a node. -/
theorem compact_sort {n : Nat} {es : List Edg} (hg : inG n es) (i : Nat) : Lib.compact (((tgs es i).map fun k : Nat => (k : Int)).mergeSort fun x y => decide (x ≤ y)) = (nxt n es i).map fun k : Nat => (k : Int) := by
  obtain ⟨zs, hz⟩ : ∃ zs, zs = ((tgs es i).map fun k : Nat => (k : Int)).mergeSort fun x y => decide (x ≤ y) := ⟨_, rfl⟩
  rw [← hz]
  have hp : zs.Pairwise (· ≤ ·) := by
    have h := List.pairwise_mergeSort (le := fun x y : Int => decide (x ≤ y)) (fun a b c h1 h2 => by simp at *; omega) (fun a b => by simp; omega) ((tgs es i).map fun k : Nat => (k : Int))
    rw [← hz] at h
    exact h.imp fun h => by simpa using h
  have hm : ∀ x, x ∈ zs ↔ ∃ k : Nat, (i, k) ∈ es ∧ (k : Int) = x := fun x => by
    rw [hz, List.mem_mergeSort, List.mem_map]
    simp only [mem_tgs]
  have hs : ∀ j, 0 < j → j < zs.toArray.size → zs.toArray[j - 1]! ≤ zs.toArray[j]! := fun j h1 h2 => by
    have h3 : j < zs.length := by simpa using h2
    rw [getElem!_pos zs.toArray (j - 1) (by simpa using (by omega : j - 1 < zs.length)), getElem!_pos zs.toArray j h2]
    exact List.pairwise_iff_getElem.1 hp (j - 1) j (by omega) h3 (by omega)
  obtain ⟨h1, h2, _⟩ := compact_spec hs zs.length (by simp)
  refine strict_ext h1 ?_ fun x => ?_
  · rw [List.pairwise_map]
    have : (nxt n es i).Pairwise (· < ·) := List.Pairwise.filter _ List.pairwise_lt_range
    exact this.imp fun h => by omega
  · unfold Lib.compact
    rw [h2, List.mem_map]
    constructor
    · rintro ⟨j, hj, rfl⟩
      rw [getElem!_pos zs.toArray j (by simpa using hj)]
      obtain ⟨k, k1, k2⟩ := (hm _).1 (List.getElem_mem (l := zs) hj)
      exact ⟨k, mem_nxt.2 ⟨(hg _ k1).2, k1⟩, by simpa using k2⟩
    · rintro ⟨k, hk, rfl⟩
      obtain ⟨j, hj, e⟩ := List.mem_iff_getElem.1 ((hm k).2 ⟨k, (mem_nxt.1 hk).2, rfl⟩)
      exact ⟨j, hj, by rw [getElem!_pos zs.toArray j (by simpa using hj)]; simpa using e⟩
variable {C : CC} (hC : Closed prog C)
include hC
theorem is_c (n i : Int) : C 516 [.int .i64 n, .int .i64 i] (.bool (decide (0 ≤ i) && decide (i < n))) [] := by
  refine start hC (nf := N516_digraph_is) rfl rfl ?_
  simp [N516_digraph_is]
  refine brB_of (fun h => ?_) (fun h => ?_) <;> simp at h <;> simp [h] <;> omega
theorem idxEd_c {b : Bool} {xs : List (Int × Int)} {g : Nat} {cs : List D} (p : (Int × Int) → Bool) (hs : xs.length < 2 ^ 62) (hp : ∀ x ∈ xs, C g (.agg (knD x) :: cs) (.bool (p x)) []) : C 522 [slx b (xs.map fun x => knD x), .fn g cs] (.int .i64 (idxD p xs)) [] := by
  refine start hC (nf := N522_slices_IndexFunc___2int__2int) rfl rfl ?_
  simp [N522_slices_IndexFunc___2int__2int]
  refine loop_of Nat (fun i => [(0, slx b (xs.map fun x => knD x)), (1, .fn g cs), (7, .int .i64 xs.length), (8, .int .i64 i)]) (fun i => i ≤ xs.length ∧ ∀ (j : Nat) (h : j < xs.length), j < i → p xs[j] = false) (fun i => xs.length - i) 0 (by simp) (by simp) ?_
  rintro i ⟨hi, hj⟩
  simp
  refine brB_of (fun h => ?_) (fun h => ?_) <;> simp [h] <;> simp at h
  · have hw : IntKind.wrap .i64 ((i : Int) + 1) = ((i + 1 : Nat) : Int) := wrap_i64 (by omega) (by omega)
    have hc := hp _ (List.getElem_mem h)
    simp [h, knD] at hc ⊢
    refine callW_of hc (.inl rfl) ?_
    simp
    refine brB_of (fun h1 => ?_) (fun h1 => ?_) <;> simp [h1, hw]
    · rw [idxD_step hj h h1]
    · refine ⟨i + 1, ⟨by omega, fun j hl hjj => ?_⟩, by omega, rfl⟩
      rcases Nat.lt_succ_iff_lt_or_eq.1 hjj with h2 | rfl
      · exact hj j hl h2
      · exact h1
  · rw [idxD_none (fun j hl => hj j hl (by omega))]
theorem hasEd_c {b : Bool} {xs : List (Int × Int)} {g : Nat} {cs : List D} (p : (Int × Int) → Bool) (hs : xs.length < 2 ^ 62) (hp : ∀ x ∈ xs, C g (.agg (knD x) :: cs) (.bool (p x)) []) : C 514 [slx b (xs.map fun x => knD x), .fn g cs] (.bool (xs.any p)) [] := by
  refine start hC (nf := N514_slices_ContainsFunc___2int__2int) rfl rfl ?_
  simp [N514_slices_ContainsFunc___2int__2int]
  refine callW_of (idxEd_c hC p hs hp) (.inl rfl) ?_
  simp [idxD_any]
def edBad (n : Int) (e : Int × Int) : Bool := !((decide (0 ≤ e.1) && decide (e.1 < n)) && (decide (0 ≤ e.2) && decide (e.2 < n)))
theorem edBad_c (n : Int) (e : Int × Int) : C 515 [.agg (knD e), .ptr [.int .i64 n]] (.bool (edBad n e)) [] := by
  refine start hC (nf := N515_digraph_Valid_1) rfl rfl ?_
  simp [N515_digraph_Valid_1, knD]
  refine callW_of (is_c hC n e.1) (.inl rfl) ?_
  unfold edBad
  cases h : (decide (0 ≤ e.1) && decide (e.1 < n))
  · simp
  · simp
    refine callW_of (is_c hC n e.2) (.inl rfl) ?_
    simp
def gOk (n : Int) (es : List (Int × Int)) : Bool := decide (0 ≤ n) && decide (n ≤ 300) && decide (es.length ≤ 1000) && !es.any (edBad n)
theorem gValid_c (b : Bool) (n : Int) (es : List (Int × Int)) (hl : es.length < 2 ^ 62) : C 503 [.int .i64 n, slx b (es.map knD)] (.bool (gOk n es)) [] := by
  have k1 := hasEd_c hC (b := b) (xs := es) (g := 515) (cs := [.ptr [.int .i64 n]]) (edBad n) hl (fun x _ => edBad_c hC n x)
  refine start hC (nf := N503_digraph_Valid) rfl rfl ?_
  simp [N503_digraph_Valid]
  by_cases h1 : n < 0
  · simp [h1, gOk, show ¬ 0 ≤ n by omega]
  by_cases h2 : 300 < n
  · simp [h1, h2, gOk, show ¬ n ≤ 300 by omega]
  by_cases h3 : (1000 : Int) < es.length
  · simp [h1, h2, h3, gOk, show ¬ es.length ≤ 1000 by omega]
  simp [h1, h2, h3]
  refine callW_of k1 (.inl rfl) ?_
  simp [gOk, show 0 ≤ n by omega, show n ≤ 300 by omega, show es.length ≤ 1000 by omega]
theorem gOk_of {n : Nat} {es : List Edg} (hn : n ≤ 300) (he : es.length ≤ 1000) (hg : inG n es) : gOk n (es.map edI) = true := by
  unfold gOk
  simp only [Bool.and_eq_true, decide_eq_true_eq, List.length_map, Bool.not_eq_true', List.any_eq_false, List.mem_map]
  refine ⟨⟨⟨by omega, by omega⟩, he⟩, ?_⟩
  rintro x ⟨e, h1, rfl⟩
  obtain ⟨h2, h3⟩ := hg e h1
  simp only [edBad, edI, Bool.not_eq_true', Bool.not_eq_false', Bool.and_eq_true, decide_eq_true_eq]
  simp
  omega
end Go.Gv

namespace Go.Gv
section
variable {C : CC} {hs : Option (List Nat)} {K : Env → Prop} {ns : List NOper} {dst : Option Nat} {u : Tag (hs, K, ns)} {e : Env} {R : List Nat} {acc : List (List Nat × List Nat)}
theorem idxW_some {sz : Nat} {es : List (List D)} {i : Nat} {c : List D} (h : es[i]? = some c) : idxW C hs K ns dst u e R acc sz es i = (c.length = sz ∧ dW C hs K ns dst ⟨⟩ e R acc (.ptr c)) := by
  apply propext
  unfold idxW dW
  rw [h]
  exact ⟨fun ⟨_, h1, h2⟩ => by cases h1; exact h2, fun h2 => ⟨c, rfl, h2⟩⟩
theorem rowW_some {n : Nat} {ag : Bool} {p : Pa} {es : List (List D)} {i off : Nat} {r : List D} (hr : es[i]? = some r) : rowW C hs K ns dst u e R acc n ag p es i off = (off + n ≤ r.length ∧ match ag with
        | true => (((r.drop off).take n).all isV = true → dW C hs K ns dst ⟨⟩ e R acc (.agg ((r.drop off).take n))) ∧
            (((r.drop off).take n).all isV = false → dW C hs K ns dst ⟨⟩ e R acc (.agx (((r.drop off).take n).mapIdx fun j c => ldc p i (off + j) c)))
        | false => dW C hs K ns dst ⟨⟩ e R acc (ldc p i off ((r.drop off).headD .any))) := by
  apply propext
  constructor
  · rintro ⟨r', h, h1, h2⟩
    rw [hr] at h
    cases h
    refine ⟨h1, ?_⟩
    cases ag <;> exact h2
  · rintro ⟨h1, h2⟩
    refine rowW_of hr h1 ?_
    cases ag <;> exact h2
@[simp] theorem idxW_at0 {sz : Nat} {c0 : List D} {es : List (List D)} : idxW C hs K ns dst u e R acc sz (c0 :: es) 0 = (c0.length = sz ∧ dW C hs K ns dst ⟨⟩ e R acc (.ptr c0)) := idxW_some rfl
theorem rowW_at0 {n : Nat} {ag : Bool} {p : Pa} {off : Nat} {c0 : List D} {es : List (List D)} : rowW C hs K ns dst u e R acc n ag p (c0 :: es) 0 off = (off + n ≤ c0.length ∧ match ag with
        | true => (((c0.drop off).take n).all isV = true → dW C hs K ns dst ⟨⟩ e R acc (.agg ((c0.drop off).take n))) ∧
            (((c0.drop off).take n).all isV = false → dW C hs K ns dst ⟨⟩ e R acc (.agx (((c0.drop off).take n).mapIdx fun j c => ldc p 0 (off + j) c)))
        | false => dW C hs K ns dst ⟨⟩ e R acc (ldc p 0 off ((c0.drop off).headD .any))) := rowW_some rfl
@[simp] theorem idxW_at1 {sz : Nat} {c0 c1 : List D} {es : List (List D)} : idxW C hs K ns dst u e R acc sz (c0 :: c1 :: es) 1 = (c1.length = sz ∧ dW C hs K ns dst ⟨⟩ e R acc (.ptr c1)) := idxW_some rfl
theorem rowW_at1 {n : Nat} {ag : Bool} {p : Pa} {off : Nat} {c0 c1 : List D} {es : List (List D)} : rowW C hs K ns dst u e R acc n ag p (c0 :: c1 :: es) 1 off = (off + n ≤ c1.length ∧ match ag with
        | true => (((c1.drop off).take n).all isV = true → dW C hs K ns dst ⟨⟩ e R acc (.agg ((c1.drop off).take n))) ∧
            (((c1.drop off).take n).all isV = false → dW C hs K ns dst ⟨⟩ e R acc (.agx (((c1.drop off).take n).mapIdx fun j c => ldc p 1 (off + j) c)))
        | false => dW C hs K ns dst ⟨⟩ e R acc (ldc p 1 off ((c1.drop off).headD .any))) := rowW_some rfl
@[simp] theorem idxW_at2 {sz : Nat} {c0 c1 c2 : List D} {es : List (List D)} : idxW C hs K ns dst u e R acc sz (c0 :: c1 :: c2 :: es) 2 = (c2.length = sz ∧ dW C hs K ns dst ⟨⟩ e R acc (.ptr c2)) := idxW_some rfl
theorem rowW_at2 {n : Nat} {ag : Bool} {p : Pa} {off : Nat} {c0 c1 c2 : List D} {es : List (List D)} : rowW C hs K ns dst u e R acc n ag p (c0 :: c1 :: c2 :: es) 2 off = (off + n ≤ c2.length ∧ match ag with
        | true => (((c2.drop off).take n).all isV = true → dW C hs K ns dst ⟨⟩ e R acc (.agg ((c2.drop off).take n))) ∧
            (((c2.drop off).take n).all isV = false → dW C hs K ns dst ⟨⟩ e R acc (.agx (((c2.drop off).take n).mapIdx fun j c => ldc p 2 (off + j) c)))
        | false => dW C hs K ns dst ⟨⟩ e R acc (ldc p 2 off ((c2.drop off).headD .any))) := rowW_some rfl
@[simp] theorem idxW_at3 {sz : Nat} {c0 c1 c2 c3 : List D} {es : List (List D)} : idxW C hs K ns dst u e R acc sz (c0 :: c1 :: c2 :: c3 :: es) 3 = (c3.length = sz ∧ dW C hs K ns dst ⟨⟩ e R acc (.ptr c3)) := idxW_some rfl
theorem rowW_at3 {n : Nat} {ag : Bool} {p : Pa} {off : Nat} {c0 c1 c2 c3 : List D} {es : List (List D)} : rowW C hs K ns dst u e R acc n ag p (c0 :: c1 :: c2 :: c3 :: es) 3 off = (off + n ≤ c3.length ∧ match ag with
        | true => (((c3.drop off).take n).all isV = true → dW C hs K ns dst ⟨⟩ e R acc (.agg ((c3.drop off).take n))) ∧
            (((c3.drop off).take n).all isV = false → dW C hs K ns dst ⟨⟩ e R acc (.agx (((c3.drop off).take n).mapIdx fun j c => ldc p 3 (off + j) c)))
        | false => dW C hs K ns dst ⟨⟩ e R acc (ldc p 3 off ((c3.drop off).headD .any))) := rowW_some rfl
@[simp] theorem idxW_at4 {sz : Nat} {c0 c1 c2 c3 c4 : List D} {es : List (List D)} : idxW C hs K ns dst u e R acc sz (c0 :: c1 :: c2 :: c3 :: c4 :: es) 4 = (c4.length = sz ∧ dW C hs K ns dst ⟨⟩ e R acc (.ptr c4)) := idxW_some rfl
theorem rowW_at4 {n : Nat} {ag : Bool} {p : Pa} {off : Nat} {c0 c1 c2 c3 c4 : List D} {es : List (List D)} : rowW C hs K ns dst u e R acc n ag p (c0 :: c1 :: c2 :: c3 :: c4 :: es) 4 off = (off + n ≤ c4.length ∧ match ag with
        | true => (((c4.drop off).take n).all isV = true → dW C hs K ns dst ⟨⟩ e R acc (.agg ((c4.drop off).take n))) ∧
            (((c4.drop off).take n).all isV = false → dW C hs K ns dst ⟨⟩ e R acc (.agx (((c4.drop off).take n).mapIdx fun j c => ldc p 4 (off + j) c)))
        | false => dW C hs K ns dst ⟨⟩ e R acc (ldc p 4 off ((c4.drop off).headD .any))) := rowW_some rfl
attribute [simp] rowW_at0 rowW_at1 rowW_at2 rowW_at3 rowW_at4
end
end Go.Gv

namespace Go.Gv
section
variable {C : CC} {hs : Option (List Nat)} {K : Env → Prop} {ns : List NOper} {dst : Option Nat} {u : Tag (hs, K, ns)} {e : Env} {R : List Nat} {acc : List (List Nat × List Nat)}
@[simp] theorem idxW_at5 {sz : Nat} {c0 c1 c2 c3 c4 c5 : List D} {es : List (List D)} : idxW C hs K ns dst u e R acc sz (c0 :: c1 :: c2 :: c3 :: c4 :: c5 :: es) 5 = (c5.length = sz ∧ dW C hs K ns dst ⟨⟩ e R acc (.ptr c5)) := idxW_some rfl
@[simp] theorem rowW_at5 {n : Nat} {ag : Bool} {p : Pa} {off : Nat} {c0 c1 c2 c3 c4 c5 : List D} {es : List (List D)} : rowW C hs K ns dst u e R acc n ag p (c0 :: c1 :: c2 :: c3 :: c4 :: c5 :: es) 5 off = (off + n ≤ c5.length ∧ match ag with
        | true => (((c5.drop off).take n).all isV = true → dW C hs K ns dst ⟨⟩ e R acc (.agg ((c5.drop off).take n))) ∧
            (((c5.drop off).take n).all isV = false → dW C hs K ns dst ⟨⟩ e R acc (.agx (((c5.drop off).take n).mapIdx fun j c => ldc p 5 (off + j) c)))
        | false => dW C hs K ns dst ⟨⟩ e R acc (ldc p 5 off ((c5.drop off).headD .any))) := rowW_some rfl
@[simp] theorem idxW_at6 {sz : Nat} {c0 c1 c2 c3 c4 c5 c6 : List D} {es : List (List D)} : idxW C hs K ns dst u e R acc sz (c0 :: c1 :: c2 :: c3 :: c4 :: c5 :: c6 :: es) 6 = (c6.length = sz ∧ dW C hs K ns dst ⟨⟩ e R acc (.ptr c6)) := idxW_some rfl
@[simp] theorem rowW_at6 {n : Nat} {ag : Bool} {p : Pa} {off : Nat} {c0 c1 c2 c3 c4 c5 c6 : List D} {es : List (List D)} : rowW C hs K ns dst u e R acc n ag p (c0 :: c1 :: c2 :: c3 :: c4 :: c5 :: c6 :: es) 6 off = (off + n ≤ c6.length ∧ match ag with
        | true => (((c6.drop off).take n).all isV = true → dW C hs K ns dst ⟨⟩ e R acc (.agg ((c6.drop off).take n))) ∧
            (((c6.drop off).take n).all isV = false → dW C hs K ns dst ⟨⟩ e R acc (.agx (((c6.drop off).take n).mapIdx fun j c => ldc p 6 (off + j) c)))
        | false => dW C hs K ns dst ⟨⟩ e R acc (ldc p 6 off ((c6.drop off).headD .any))) := rowW_some rfl
@[simp] theorem idxW_at7 {sz : Nat} {c0 c1 c2 c3 c4 c5 c6 c7 : List D} {es : List (List D)} : idxW C hs K ns dst u e R acc sz (c0 :: c1 :: c2 :: c3 :: c4 :: c5 :: c6 :: c7 :: es) 7 = (c7.length = sz ∧ dW C hs K ns dst ⟨⟩ e R acc (.ptr c7)) := idxW_some rfl
@[simp] theorem rowW_at7 {n : Nat} {ag : Bool} {p : Pa} {off : Nat} {c0 c1 c2 c3 c4 c5 c6 c7 : List D} {es : List (List D)} : rowW C hs K ns dst u e R acc n ag p (c0 :: c1 :: c2 :: c3 :: c4 :: c5 :: c6 :: c7 :: es) 7 off = (off + n ≤ c7.length ∧ match ag with
        | true => (((c7.drop off).take n).all isV = true → dW C hs K ns dst ⟨⟩ e R acc (.agg ((c7.drop off).take n))) ∧
            (((c7.drop off).take n).all isV = false → dW C hs K ns dst ⟨⟩ e R acc (.agx (((c7.drop off).take n).mapIdx fun j c => ldc p 7 (off + j) c)))
        | false => dW C hs K ns dst ⟨⟩ e R acc (ldc p 7 off ((c7.drop off).headD .any))) := rowW_some rfl
end
end Go.Gv

set_option linter.unusedSimpArgs false
namespace Go.Gv
theorem rep_map {α : Type} (n : Nat) (x : α) : List.replicate n x = (List.range n).map fun _ => x := by simp [List.map_const']
theorem intL_cast (l : List Nat) : intL l = (l.map fun k : Nat => (k : Int)).map fun n => [.int .i64 n] := by simp [intL]
theorem ints_C1 {l : List Int} : ∀ e ∈ (l.map fun n => [D.int .i64 n]), e.length = 1 ∧ ∀ c ∈ e, isC1 c = true := by
  intro e he
  simp only [List.mem_map] at he
  obtain ⟨k, _, rfl⟩ := he
  simp [isC1]
theorem ints_F1 {l : List Int} : ∀ e ∈ (l.map fun n => [D.int .i64 n]), e.length = 1 ∧ ∀ c ∈ e, isF1 c = true := by
  intro e he
  simp only [List.mem_map] at he
  obtain ⟨k, _, rfl⟩ := he
  simp [isF1]
def ndD (l : List Nat) : D := .sl (intL l)
def nxtD (n : Nat) (es : List Edg) : D := .sl ((List.range n).map fun v => [ndD (nxt n es v)])
/-- The rows while they are made. -/
def rowA (n : Nat) (es : List Edg) (j : Nat) : List (List D) := (List.range n).map fun v => [.own 1 (intL (tgs (es.take j) v))]
def rowC (n : Nat) (es : List Edg) (j : Nat) : List (List D) := (List.range n).map fun v => [.own 1 (intL (if v < j then nxt n es v else tgs es v))]
theorem intL_len (l : List Nat) : (intL l).length = l.length := by simp [intL]
theorem intL_take (l : List Nat) : (intL l).take l.length = intL l := by rw [← intL_len l]; exact List.take_length
theorem intL_app (l : List Nat) (k : Nat) : intL l ++ [[.int .i64 (k : Int)]] = intL (l ++ [k]) := by simp [intL]
theorem intL_C1 {l : List Nat} : ∀ e ∈ intL l, e.length = 1 ∧ ∀ c ∈ e, isC1 c = true := by
  intro e he
  simp only [intL, List.mem_map] at he
  obtain ⟨k, _, rfl⟩ := he
  simp [isC1]
theorem intL_F1 {l : List Nat} : ∀ e ∈ intL l, e.length = 1 ∧ ∀ c ∈ e, isF1 c = true := by
  intro e he
  simp only [intL, List.mem_map] at he
  obtain ⟨k, _, rfl⟩ := he
  simp [isF1]
variable {C : CC} (hC : Closed prog C)
include hC
theorem next_c (hS : SlC C) {b : Bool} {n : Nat} {es : List Edg} (hn : n ≤ 300) (he : es.length ≤ 1000) (hg : inG n es) : C 517 [.int .i64 n, slx b (es.map edK)] (nxtD n es) [] := by
  refine start hC (nf := N517_digraph_next) rfl rfl ?_
  simp [N517_digraph_next]
  refine ⟨by omega, ?_⟩
  refine loop_of Nat (fun j => [(5, .ref (.r 10080) 0 n), (10080, .blk 1 (rowA n es j)), (11, slx b (es.map edK)), (12, .int .i64 es.length), (13, .int .i64 j)]) (fun j => j ≤ es.length) (fun j => es.length - j) 0 (by simp) (by simp [rowA, tgs, intL, rep_map]) ?_
  rintro j hj
  simp
  refine brB_of (fun h => ?_) (fun h => ?_) <;> simp [h] <;> simp at h
  · have hw : IntKind.wrap .i64 ((j : Int) + 1) = ((j + 1 : Nat) : Int) := wrap_i64 (by omega) (by omega)
    have hin := hg _ (List.getElem_mem h)
    have hr : (rowA n es j)[es[j].1]? = some [.own 1 (intL (tgs (es.take j) es[j].1))] := by simp [rowA, hin.1]
    have hlt := tgs_len (es.take j) es[j].1
    have hb : (tgs (es.take j) es[j].1).length ≤ 1000 := by simp at hlt; omega
    have hrl : (rowA n es j).length = n := by simp [rowA]
    have hr2 : es[j].1 < (rowA n es j).length := by omega
    simp [h, edK, knD, rowW_some hr, hin, hr, intL_len]
    refine ⟨by omega, ?_⟩
    simp only [intL_take, intL_app]
    have e1 : ∀ e, e ∈ intL (tgs (es.take j) es[j].1) ∨ e = [.int .i64 (es[j].2 : Int)] → ∀ c ∈ e, isC1 c = true := by
      rintro e (h1 | rfl)
      · exact (intL_C1 e h1).2
      · simp [isC1]
    have e2 : (((rowA n es j).set es[j].1 [.any]).set es[j].1 [.own 1 (intL (tgs (es.take j) es[j].1 ++ [es[j].2]))]) = rowA n es (j + 1) := by
      rw [List.set_set]
      unfold rowA
      rw [set_rm]
      apply List.map_congr_left
      intro v _
      rw [tgs_take h]
      by_cases e : v = es[j].1
      · subst e; simp
      · rw [if_neg e, if_neg (Ne.symm e), List.append_nil]
    refine ⟨e1, ?_⟩
    simp [hr2, e2]
    refine ⟨indW_of (by decide +kernel), ?_⟩
    simp [hw]
    refine ⟨j + 1, by omega, by omega, ?_, by simp⟩
    simp only [intL_take, intL_app]
    rw [← e2, List.set_set]
  · have e0 : rowA n es j = rowC n es 0 := by
      unfold rowA rowC
      rw [List.take_of_length_le h]
      simp
    rw [e0]
    refine loop_of Nat (fun j => [(5, .ref (.r 10080) 0 n), (10080, .blk 1 (rowC n es j)), (32, .int .i64 n), (33, .int .i64 j)]) (fun j => j ≤ n) (fun j => n - j) 0 (by simp) (by simp) ?_
    clear e0 h hj j
    rintro j hj
    simp
    refine brB_of (fun h => ?_) (fun h => ?_) <;> simp [h] <;> simp at h
    · have hw : IntKind.wrap .i64 ((j : Int) + 1) = ((j + 1 : Nat) : Int) := wrap_i64 (by omega) (by omega)
      have hr : (rowC n es j)[j]? = some [.own 1 (intL (tgs es j))] := by simp [rowC, h]
      have hl := tgs_len es j
      simp [h, rowW_some hr, hr, intL_len]
      have ks := hS.sort ((tgs es j).map fun k : Nat => (k : Int)) (by simp; omega)
      have kc := hS.compact (((tgs es j).map fun k : Nat => (k : Int)).mergeSort fun x y => decide (x ≤ y)) (by simp [List.length_mergeSort]; omega)
      rw [compact_sort hg, ← intL_cast] at kc
      rw [← intL_cast] at ks
      have hsl : (((tgs es j).map fun k : Nat => (k : Int)).mergeSort fun x y => decide (x ≤ y)).length = (tgs es j).length := by simp [List.length_mergeSort]
      obtain ⟨zs, hz⟩ : ∃ zs, zs = ((tgs es j).map fun k : Nat => (k : Int)).mergeSort fun x y => decide (x ≤ y) := ⟨_, rfl⟩
      rw [← hz] at ks kc hsl
      have hjl : j < (rowC n es j).length := by simp [rowC, h]
      have e1 : (((rowC n es j).set j [.own 1 (zs.map fun n => [.int .i64 n])]).set j [.any]).set j [.own 1 (intL (nxt n es j))] = rowC n es (j + 1) := by
        rw [List.set_set, List.set_set]
        unfold rowC
        rw [set_rm]
        apply List.map_congr_left
        intro v _
        by_cases e : v = j
        · subst e; simp
        · rw [if_neg e]
          by_cases e2 : v < j
          · rw [if_pos e2, if_pos (by omega)]
          · rw [if_neg e2, if_neg (by omega)]
      refine cellW_of ks (by rw [List.length_map, hsl, intL_len]) ints_C1 ?_
      have hset : ∀ x, ((rowC n es j).set j x)[j]? = some x := fun x => by simp [hjl]
      simp [hr, h, rowW_some (hset _), hset]
      refine ⟨fun e he => (ints_F1 e (List.mem_of_mem_take he)).2, ?_⟩
      have e3 : (zs.map fun n => [D.int .i64 n]).take zs.length = zs.map fun n => [D.int .i64 n] := List.take_of_length_le (by simp)
      rw [e3]
      refine eatW_of kc intL_F1 ?_
      simp [hr, h, rowW_some (hset _), hset]
      rw [List.set_set, List.set_set] at e1
      exact ⟨fun e he => (intL_C1 e he).2, j + 1, by omega, by omega, e1, hw⟩
    · have e : j = n := by omega
      subst e
      simp [rowC]
      unfold nxtD
      rw [List.take_of_length_le (by simp)]
      congr 1
      apply List.map_congr_left
      intro v hv
      have : v < j := by simpa using hv
      simp [this, cellV, ndD]
end Go.Gv

set_option linter.unusedSimpArgs false
namespace Go.Gv
theorem strict_extN {l l' : List Nat} (h1 : l.Pairwise (· < ·)) (h2 : l'.Pairwise (· < ·)) (h : ∀ x, x ∈ l ↔ x ∈ l') : l = l' := by
  have e := strict_ext (l := l.map fun k : Nat => (k : Int)) (l' := l'.map fun k : Nat => (k : Int)) (by rw [List.pairwise_map]; exact h1.imp fun h => by omega) (by rw [List.pairwise_map]; exact h2.imp fun h => by omega) (fun x => by
    simp only [List.mem_map]
    exact ⟨fun ⟨a, b, c⟩ => ⟨a, (h a).1 b, c⟩, fun ⟨a, b, c⟩ => ⟨a, (h a).2 b, c⟩⟩)
  have e2 := congrArg (List.map Int.toNat) e
  rw [List.map_map, List.map_map] at e2
  have f : (Int.toNat ∘ fun k : Nat => (k : Int)) = id := by funext k; simp
  rw [f, List.map_id, List.map_id] at e2
  exact e2
def posL (l : List Nat) (x : Nat) : Nat := l.findIdx fun k => decide (x ≤ k)
theorem posL_le (l : List Nat) (x : Nat) : posL l x ≤ l.length := List.findIdx_le_length
theorem posL_lt {l : List Nat} {x j : Nat} (h : j < posL l x) (hl : j < l.length) : l[j] < x := by
  have := List.not_of_lt_findIdx h
  simp at this
  exact this
theorem posL_ge {l : List Nat} {x : Nat} (h : posL l x < l.length) : x ≤ l[posL l x] := by
  have h2 := List.findIdx_getElem (w := h)
  exact of_decide_eq_true h2
theorem posL_of_le {l : List Nat} {x j : Nat} (hl : j < l.length) (h : x ≤ l[j]) : posL l x ≤ j := by
  apply Nat.le_of_not_lt
  intro hj
  have := posL_lt hj hl
  omega
theorem posL_of_lt {l : List Nat} (hs : l.Pairwise (· < ·)) {x j : Nat} (hl : j < l.length) (h : l[j] < x) : j < posL l x := by
  apply Nat.lt_of_not_le
  intro hj
  have h1 := posL_ge (l := l) (x := x) (by omega)
  rcases Nat.lt_or_eq_of_le hj with h2 | h2
  · have := List.pairwise_iff_getElem.1 hs (posL l x) j (by omega) hl h2
    omega
  · simp only [h2] at h1; omega
/-- What comes into an ascending row. -/
theorem ins_sorted {l : List Nat} {x : Nat} (hs : l.Pairwise (· < ·)) (hx : x ∉ l) : (l.take (posL l x) ++ x :: l.drop (posL l x)).Pairwise (· < ·) := by
  have hp := hs
  rw [← List.take_append_drop (posL l x) l, List.pairwise_append] at hp
  obtain ⟨h1, h2, h3⟩ := hp
  have lo : ∀ a ∈ l.take (posL l x), a < x := fun a ha => by
    obtain ⟨i, hi, rfl⟩ := List.mem_iff_getElem.1 ha
    have h4 : i < posL l x ∧ i < l.length := by simp at hi; omega
    rw [List.getElem_take]
    exact posL_lt h4.1 h4.2
  have hi : ∀ a ∈ l.drop (posL l x), x < a := fun a ha => by
    obtain ⟨i, hi, rfl⟩ := List.mem_iff_getElem.1 ha
    have hlt : posL l x + i < l.length := by simp at hi; omega
    rw [List.getElem_drop]
    have hne : l[posL l x + i] ≠ x := fun e => hx (e ▸ List.getElem_mem hlt)
    have : ¬ l[posL l x + i] < x := fun h => by have := posL_of_lt hs hlt h; omega
    omega
  rw [List.pairwise_append, List.pairwise_cons]
  refine ⟨h1, ⟨hi, h2⟩, fun a ha b hb => ?_⟩
  rcases List.mem_cons.1 hb with rfl | hb
  · exact lo a ha
  · exact h3 a ha b hb
theorem ins_filter {n : Nat} {p q : Nat → Bool} {x : Nat} (hx : x < n) (hp : p x = false) (hq : ∀ v, v < n → q v = (p v || v == x)) : ((List.range n).filter p).take (posL ((List.range n).filter p) x) ++ x :: ((List.range n).filter p).drop (posL ((List.range n).filter p) x) = (List.range n).filter q := by
  have hs : ((List.range n).filter p).Pairwise (· < ·) := List.Pairwise.filter _ List.pairwise_lt_range
  refine strict_extN (ins_sorted hs (by simp [hp])) (List.Pairwise.filter _ List.pairwise_lt_range) fun v => ?_
  have : v ∈ (List.range n).filter p ↔ v ∈ ((List.range n).filter p).take (posL ((List.range n).filter p) x) ∨ v ∈ ((List.range n).filter p).drop (posL ((List.range n).filter p) x) := by
    rw [← List.mem_append, List.take_append_drop]
  simp only [List.mem_append, List.mem_cons]
  rw [or_left_comm, ← this]
  simp only [List.mem_filter, List.mem_range]
  constructor
  · rintro (rfl | ⟨h1, h2⟩)
    · exact ⟨hx, by rw [hq _ hx]; simp⟩
    · exact ⟨h1, by rw [hq _ h1, h2]; rfl⟩
  · rintro ⟨h1, h2⟩
    rw [hq _ h1, Bool.or_eq_true, beq_iff_eq] at h2
    rcases h2 with h2 | h2
    · exact .inr ⟨h1, h2⟩
    · exact .inl h2
/-- What is known of the order as far as it goes. -/
structure OrdI (n : Nat) (es : List Edg) (out : List Nat) : Prop where
  lt : ∀ v ∈ out, v < n
  nd : out.Nodup
  pre : ∀ v ∈ out, ∀ u, (u, v) ∈ es → u ∈ out
theorem OrdI.nil (n : Nat) (es : List Edg) : OrdI n es [] := ⟨by simp, by simp, by simp⟩
theorem OrdI.len {n : Nat} {es : List Edg} {out : List Nat} (h : OrdI n es out) : out.length ≤ n := by
  have := (List.nodup_range (n := n)).sublist (List.Sublist.refl _)
  have hsub : out ⊆ List.range n := fun v hv => by simpa using h.lt v hv
  have := List.Nodup.length_le_of_subset h.nd hsub
  simpa using this
theorem OrdI.step {n : Nat} {es : List Edg} {out : List Nat} (h : OrdI n es out) {i : Nat} (hi : i ∈ rdyL n es out) : OrdI n es (out ++ [i]) := by
  obtain ⟨h1, h2, h3⟩ := mem_rdyL.1 hi
  refine ⟨fun v hv => ?_, ?_, fun v hv u hu => ?_⟩
  · rcases List.mem_append.1 hv with hv | hv
    · exact h.lt v hv
    · simp at hv; omega
  · rw [List.nodup_append]
    refine ⟨h.nd, by simp, fun a ha b hb => ?_⟩
    simp at hb
    subst hb
    rintro rfl
    exact h2 ha
  · rcases List.mem_append.1 hv with hv | hv
    · exact List.mem_append.2 (.inl (h.pre v hv u hu))
    · simp at hv
      subst hv
      exact List.mem_append.2 (.inl (h3 u hu))
theorem ordN_I (n : Nat) (es : List Edg) : ∀ m, OrdI n es (ordN n es m)
  | 0 => .nil n es
  | m + 1 => by
    have ih := ordN_I n es m
    show OrdI n es (stepO n es (ordN n es m))
    unfold stepO
    split
    · exact ih
    · rename_i v r e
      exact ih.step (by rw [e]; simp)
theorem ordN_succ {n : Nat} {es : List Edg} {m i : Nat} {r : List Nat} (h : rdyL n es (ordN n es m) = i :: r) : ordN n es (m + 1) = ordN n es m ++ [i] := by
  show stepO n es (ordN n es m) = _
  unfold stepO
  rw [h]
theorem ordN_fix {n : Nat} {es : List Edg} {m : Nat} (h : rdyL n es (ordN n es m) = []) : ∀ k, ordN n es (m + k) = ordN n es m
  | 0 => rfl
  | k + 1 => by
    show stepO n es (ordN n es (m + k)) = _
    rw [ordN_fix h k]
    unfold stepO
    rw [h]
theorem ordF_of {n : Nat} {es : List Edg} {m : Nat} (hl : (ordN n es m).length = m) (h : rdyL n es (ordN n es m) = []) : ordF n es = ordN n es m := by
  have := (ordN_I n es m).len
  have e := ordN_fix h (n - m)
  rw [show m + (n - m) = n by omega] at e
  exact e
/-- When the i-th node is taken: what is ready then. -/
theorem rdy_step {n : Nat} {es : List Edg} {out : List Nat} (h : OrdI n es out) {i : Nat} {r : List Nat} (hr : rdyL n es out = i :: r) : rdyL n es (out ++ [i]) = (List.range n).filter fun v => (!out.contains v && prOk es out v && !(v == i)) || ((nxt n es i).contains v && prOk es (out ++ [i]) v) := by
  have hi : i ∈ rdyL n es out := by rw [hr]; simp
  obtain ⟨h1, h2, h3⟩ := mem_rdyL.1 hi
  unfold rdyL
  apply List.filter_congr
  intro v hv
  have hvn : v < n := by simpa using hv
  rw [Bool.eq_iff_iff]
  simp only [Bool.and_eq_true, Bool.or_eq_true, Bool.not_eq_true', List.contains_iff_mem, prOk_iff, mem_nxt, beq_eq_false_iff_ne, ne_eq]
  simp only [List.contains_eq_mem, decide_eq_false_iff_not, List.mem_append, List.mem_singleton, not_or]
  constructor
  · rintro ⟨⟨a1, a2⟩, a3⟩
    by_cases c : (i, v) ∈ es
    · exact .inr ⟨⟨hvn, c⟩, a3⟩
    · refine .inl ⟨⟨a1, fun u hu => ?_⟩, a2⟩
      rcases a3 u hu with b | rfl
      · exact b
      · exact absurd hu c
  · rintro (⟨⟨a1, a2⟩, a3⟩ | ⟨⟨_, a1⟩, a2⟩)
    · exact ⟨⟨a1, a3⟩, fun u hu => .inl (a2 u hu)⟩
    · refine ⟨⟨fun hv => h2 (h.pre v hv i a1), ?_⟩, a2⟩
      rintro rfl
      exact h2 (h3 _ a1)
variable {C : CC} (hC : Closed prog C)
include hC
theorem cNaN_c (x : Int) : C 299 [.int .i64 x] (.bool false) [] := by
  refine start hC (nf := N299_cmp_isNaN_int) rfl rfl ?_
  simp [N299_cmp_isNaN_int]
theorem sNaN_c (x : Int) : C 524 [.int .i64 x] (.bool false) [] := by
  refine start hC (nf := N524_slices_isNaN_int) rfl rfl ?_
  simp [N524_slices_isNaN_int]
theorem cLess_c (x y : Int) : C 411 [.int .i64 x, .int .i64 y] (.bool (decide (x < y))) [] := by
  refine start hC (nf := N411_cmp_Less_int) rfl rfl ?_
  simp [N411_cmp_Less_int]
  refine callW_of (cNaN_c hC x) (.inl rfl) ?_
  simp
theorem bsearch_c (l : List Nat) (x : Nat) (hs : l.Pairwise (· < ·)) (hl : l.length < 2 ^ 40) : C 518 [.sl (intL l), .int .i64 x] (.tup [.int .i64 (posL l x), .bool (decide (posL l x < l.length) && decide (l[posL l x]! = x))]) [] := by
  have hpl := posL_le l x
  obtain ⟨n, hn⟩ : ∃ n, n = posL l x := ⟨_, rfl⟩
  obtain ⟨r, hr⟩ : ∃ r, r = (decide (posL l x < l.length) && decide (l[posL l x]! = x)) := ⟨_, rfl⟩
  have hlt : ∀ j, (hj : j < l.length) → l[j] < x → j < n := fun j hj h1 => hn ▸ posL_of_lt hs hj h1
  have hle : ∀ j, (hj : j < l.length) → x ≤ l[j] → n ≤ j := fun j hj h1 => hn ▸ posL_of_le hj h1
  rw [← hn] at hpl ⊢
  rw [← hn] at hr
  rw [← hr]
  refine start hC (nf := N518_slices_BinarySearch__int_int) rfl rfl ?_
  simp [N518_slices_BinarySearch__int_int, intL]
  refine loop_of (Nat × Nat) (fun s => [(0, .sl (intL l)), (1, .int .i64 x), (6, .int .i64 l.length), (7, .int .i64 s.1), (8, .int .i64 s.2)]) (fun s => s.1 ≤ n ∧ n ≤ s.2 ∧ s.2 ≤ l.length) (fun s => s.2 - s.1) (0, l.length) (by simp; omega) (by simp [intL]) ?_
  rintro ⟨i, j⟩ ⟨h1, h2, h3⟩
  simp only at h1 h2 h3
  simp
  refine brB_of (fun g => ?_) (fun g => ?_) <;> simp at g <;> simp [g]
  · obtain ⟨m, hm⟩ : ∃ m, m = (i + j) / 2 := ⟨_, rfl⟩
    have e1 : IntKind.wrap .i64 ((i : Int) + (j : Int)) = ((i + j : Nat) : Int) := wrap_i64 (by omega) (by omega)
    obtain ⟨s, hsm⟩ : ∃ s, s = i + j := ⟨_, rfl⟩
    rw [← hsm] at e1 hm
    have e2 : Int.fdiv (s : Int) (2 ^ min 1 IntKind.u64.bits) = (m : Int) := by rw [hm]; exact shrN s 1
    have e3 : IntKind.wrap .i64 (m : Int) = (m : Int) := wrap_i64 rfl (by omega)
    have e4 : IntKind.wrap .i64 ((m : Int) + 1) = ((m + 1 : Nat) : Int) := wrap_i64 (by omega) (by omega)
    have hml : m < l.length := by omega
    simp [e1, wrapN s (by omega), e2, e3, hml, intL]
    refine callW_of (cLess_c hC l[m] x) (.inl rfl) ?_
    by_cases hmx : l[m] < x
    · have := hlt m hml hmx
      have hi : (l[m] : Int) < x := by omega
      simp [hmx, e4]
      exact ⟨m + 1, j, ⟨by omega, h2, h3⟩, by omega, by omega, by omega⟩
    · have := hle m hml (by omega)
      simp [hmx]
      exact ⟨i, m, ⟨h1, by omega, by omega⟩, by omega, by omega, by omega⟩
  · have e0 : i = n := by omega
    subst e0
    by_cases g2 : i < l.length
    · have eg : l[i]! = l[i] := getElem!_pos l i g2
      rw [eg] at hr
      simp [g2, intL]
      by_cases g3 : l[i] = x
      · simp [g3, g2] at hr ⊢
        exact hr
      · have g3i : ¬ (l[i] : Int) = x := by omega
        simp [g3, g3i, g2] at hr ⊢
        refine callW_of (sNaN_c hC _) (.inl rfl) ?_
        simp [hr]
    · simp [g2] at hr ⊢
      exact hr
end Go.Gv

set_option linter.unusedSimpArgs false
namespace Go.Gv
def wtA (n : Nat) (f : Nat → Nat) : List (List D) := (List.range n).map fun v => [.int .i64 (f v : Int)]
theorem wtA_get {n v : Nat} (f : Nat → Nat) (h : v < n) : (wtA n f)[v]? = some [.int .i64 (f v : Int)] := by simp [wtA, h]
theorem wtA_set {n v : Nat} (f : Nat → Nat) (x : Nat) : (wtA n f).set v [.int .i64 (x : Int)] = wtA n fun u => if u = v then x else f u := by
  unfold wtA
  rw [set_rm]
  apply List.map_congr_left
  intro u _
  by_cases h : u = v <;> simp [h]
theorem mem_tk {l : List Nat} {j v : Nat} (hj : j < l.length) : v ∈ l.take (j + 1) ↔ v ∈ l.take j ∨ v = l[j] := by
  rw [List.take_succ_eq_append_getElem hj, List.mem_append, List.mem_singleton]
theorem wtA_congr {n : Nat} {f g : Nat → Nat} (h : ∀ v, v < n → f v = g v) : wtA n f = wtA n g := by
  unfold wtA
  apply List.map_congr_left
  intro u hu
  rw [h u (by simpa using hu)]
def wt1 (n : Nat) (es : List Edg) (i j v : Nat) : Nat := cntU es i v + (if v ∈ (nxt n es i).take j then 1 else 0)
theorem wt1_end {n : Nat} {es : List Edg} {i v : Nat} (hv : v < n) : wt1 n es i (nxt n es i).length v = cntU es (i + 1) v := by
  unfold wt1
  rw [cntU_succ, List.take_length]
  simp [mem_nxt, hv]
theorem wt1_step {n : Nat} {es : List Edg} {i j : Nat} (hj : j < (nxt n es i).length) (v : Nat) : wt1 n es i (j + 1) v = if v = (nxt n es i)[j] then wt1 n es i j v + 1 else wt1 n es i j v := by
  unfold wt1
  simp only [mem_tk hj]
  have hnd : (nxt n es i)[j] ∉ (nxt n es i).take j := by
    intro h
    obtain ⟨k, hk, e⟩ := List.mem_iff_getElem.1 h
    have hk2 : k < j := by simp at hk; omega
    rw [List.getElem_take] at e
    have := (List.getElem_inj (nxt_nodup n es i)).1 e
    omega
  by_cases e : v = (nxt n es i)[j]
  · subst e
    rw [if_pos rfl, if_pos (.inr rfl), if_neg hnd]
  · rw [if_neg e]
    congr 1
    simp only [e, or_false]
/-- The nodes that are ready from the start, among the first i. -/
def rd0 (n : Nat) (es : List Edg) (i : Nat) : List Nat := (List.range i).filter fun v => decide (cntW n es [] v = 0)
theorem rd0_succ (n : Nat) (es : List Edg) (i : Nat) : rd0 n es (i + 1) = rd0 n es i ++ (if cntW n es [] i = 0 then [i] else []) := by
  unfold rd0
  rw [List.range_succ, List.filter_append]
  congr 1
  by_cases h : cntW n es [] i = 0 <;> simp [h]
theorem rd0_end {n : Nat} {es : List Edg} (hg : inG n es) : rd0 n es n = rdyL n es [] := by
  unfold rd0 rdyL
  apply List.filter_congr
  intro v _
  rw [Bool.eq_iff_iff]
  simp [cntW_zero hg]
theorem rd0_len (n : Nat) (es : List Edg) (i : Nat) : (rd0 n es i).length ≤ i := by
  have := List.length_filter_le (fun v => decide (cntW n es [] v = 0)) (List.range i)
  simpa [rd0] using this
/-- The waits, and what is ready, while what follows node i is looked at. -/
def wt2 (n : Nat) (es : List Edg) (out : List Nat) (i j v : Nat) : Nat := if v ∈ (nxt n es i).take j then cntW n es (out ++ [i]) v else cntW n es out v
def rdp (n : Nat) (es : List Edg) (out : List Nat) (i j v : Nat) : Bool := (!out.contains v && prOk es out v && !(v == i)) || (((nxt n es i).take j).contains v && prOk es (out ++ [i]) v)
def rd2 (n : Nat) (es : List Edg) (out : List Nat) (i j : Nat) : List Nat := (List.range n).filter (rdp n es out i j)
theorem rd2_len (n : Nat) (es : List Edg) (out : List Nat) (i j : Nat) : (rd2 n es out i j).length ≤ n := by
  have := List.length_filter_le (rdp n es out i j) (List.range n)
  simpa [rd2] using this
theorem nxt_new {n : Nat} {es : List Edg} {i j : Nat} (hj : j < (nxt n es i).length) : (nxt n es i)[j] ∉ (nxt n es i).take j := by
  intro h
  obtain ⟨k, hk, e⟩ := List.mem_iff_getElem.1 h
  have hk2 : k < j := by simp at hk; omega
  rw [List.getElem_take] at e
  have := (List.getElem_inj (nxt_nodup n es i)).1 e
  omega
theorem rd2_zero {n : Nat} {es : List Edg} {out : List Nat} {i : Nat} {r : List Nat} (h : rdyL n es out = i :: r) : rd2 n es out i 0 = r := by
  have hs : (rdyL n es out).Pairwise (· < ·) := List.Pairwise.filter _ List.pairwise_lt_range
  have hm : ∀ v, v ∈ rdyL n es out ↔ v = i ∨ v ∈ r := fun v => by rw [h]; simp
  rw [h, List.pairwise_cons] at hs
  refine strict_extN (List.Pairwise.filter _ List.pairwise_lt_range) hs.2 fun v => ?_
  have h2 := hm v
  simp only [rd2, rdp, List.mem_filter, List.mem_range, List.take_zero, List.contains_nil, Bool.false_and, Bool.or_false, Bool.and_eq_true, Bool.not_eq_true', beq_eq_false_iff_ne]
  simp only [rdyL, List.mem_filter, List.mem_range, Bool.and_eq_true, Bool.not_eq_true'] at h2
  constructor
  · rintro ⟨a, b, c⟩
    rcases h2.1 ⟨a, b⟩ with e | e
    · exact absurd e c
    · exact e
  · intro hv
    obtain ⟨a, b⟩ := h2.2 (.inr hv)
    refine ⟨a, b, ?_⟩
    rintro rfl
    have := hs.1 v hv
    omega
theorem rd2_end {n : Nat} {es : List Edg} {out : List Nat} (h : OrdI n es out) {i : Nat} {r : List Nat} (hr : rdyL n es out = i :: r) : rd2 n es out i (nxt n es i).length = rdyL n es (out ++ [i]) := by
  rw [rdy_step h hr]
  unfold rd2 rdp
  rw [List.take_length]
theorem wt2_end {n : Nat} {es : List Edg} {out : List Nat} {i : Nat} (hi : i < n) (ho : i ∉ out) {v : Nat} (hv : v < n) : wt2 n es out i (nxt n es i).length v = cntW n es (out ++ [i]) v := by
  unfold wt2
  rw [List.take_length]
  split
  · rfl
  · rename_i h
    rw [cntW_step hi ho, if_neg (fun e => h (mem_nxt.2 ⟨hv, e⟩)), Nat.add_zero]
theorem wt2_step {n : Nat} {es : List Edg} {out : List Nat} {i j : Nat} (hj : j < (nxt n es i).length) (v : Nat) : wt2 n es out i (j + 1) v = if v = (nxt n es i)[j] then cntW n es (out ++ [i]) v else wt2 n es out i j v := by
  unfold wt2
  simp only [mem_tk hj]
  by_cases e : v = (nxt n es i)[j]
  · rw [if_pos e, if_pos (.inr e)]
  · rw [if_neg e]
    simp only [e, or_false]
theorem rdp_step {n : Nat} {es : List Edg} {out : List Nat} {i j : Nat} (hj : j < (nxt n es i).length) (v : Nat) : rdp n es out i (j + 1) v = (rdp n es out i j v || (v == (nxt n es i)[j] && prOk es (out ++ [i]) v)) := by
  unfold rdp
  rw [List.take_succ_eq_append_getElem hj]
  rw [Bool.eq_iff_iff]
  simp only [Bool.or_eq_true, Bool.and_eq_true, List.contains_iff_mem, List.mem_append, List.mem_singleton, beq_iff_eq]
  constructor
  · rintro (h | ⟨h | h, h'⟩)
    · exact .inl (.inl h)
    · exact .inl (.inr ⟨h, h'⟩)
    · exact .inr ⟨h, h'⟩
  · rintro ((h | ⟨h, h'⟩) | ⟨h, h'⟩)
    · exact .inl h
    · exact .inr ⟨.inl h, h'⟩
    · exact .inr ⟨.inr h, h'⟩
theorem rd2_same {n : Nat} {es : List Edg} {out : List Nat} {i j : Nat} (hj : j < (nxt n es i).length) (h : prOk es (out ++ [i]) (nxt n es i)[j] = false) : rd2 n es out i (j + 1) = rd2 n es out i j := by
  unfold rd2
  apply List.filter_congr
  intro v _
  rw [rdp_step hj]
  by_cases e : v = (nxt n es i)[j]
  · subst e; simp [h]
  · simp [e]
theorem rd2_ins {n : Nat} {es : List Edg} {out : List Nat} (hI : OrdI n es out) {i : Nat} {r : List Nat} (hr : rdyL n es out = i :: r) {j : Nat} (hj : j < (nxt n es i).length) (h : prOk es (out ++ [i]) (nxt n es i)[j] = true) :
    (rd2 n es out i j).take (posL (rd2 n es out i j) (nxt n es i)[j]) ++ (nxt n es i)[j] :: (rd2 n es out i j).drop (posL (rd2 n es out i j) (nxt n es i)[j]) = rd2 n es out i (j + 1) := by
  obtain ⟨h1, h2⟩ := mem_nxt.1 (List.getElem_mem hj)
  have hi : i ∈ rdyL n es out := by rw [hr]; simp
  obtain ⟨i1, i2, i3⟩ := mem_rdyL.1 hi
  refine ins_filter h1 ?_ (fun v _ => ?_)
  · unfold rdp
    rw [Bool.or_eq_false_iff]
    constructor
    · have : prOk es out (nxt n es i)[j] = false := by
        rw [← Bool.not_eq_true, prOk_iff]
        exact fun h => i2 (h _ h2)
      simp [this]
    · have := nxt_new hj
      simp [this]
  · rw [rdp_step hj]
    by_cases e : v = (nxt n es i)[j]
    · rw [e, h, Bool.and_true]
    · have e' : (v == (nxt n es i)[j]) = false := by simpa using e
      rw [e', Bool.false_and]
theorem rd2_asc (n : Nat) (es : List Edg) (out : List Nat) (i j : Nat) : (rd2 n es out i j).Pairwise (· < ·) := List.Pairwise.filter _ List.pairwise_lt_range
theorem rdyL_len (n : Nat) (es : List Edg) (out : List Nat) : (rdyL n es out).length ≤ n := by
  have := List.length_filter_le (fun v => !out.contains v && prOk es out v) (List.range n)
  simpa [rdyL] using this
end Go.Gv

set_option linter.unusedSimpArgs false
namespace Go.Gv
def ndR (n : Nat) (es : List Edg) : List (List D) := (List.range n).map fun v => [ndD (nxt n es v)]
theorem ndR_get {n v : Nat} (es : List Edg) (h : v < n) : (ndR n es)[v]? = some [ndD (nxt n es v)] := by simp [ndR, h]
theorem wt10 (n : Nat) (es : List Edg) (i : Nat) : wt1 n es i 0 = cntU es i := by funext v; simp [wt1]
theorem wt20 (n : Nat) (es : List Edg) (out : List Nat) (i : Nat) : wt2 n es out i 0 = cntW n es out := by funext v; simp [wt2]
theorem ndR_len (n : Nat) (es : List Edg) : (ndR n es).length = n := by simp [ndR]
theorem intL_get {l : List Nat} {j : Nat} (h : j < l.length) : (intL l)[j]? = some [.int .i64 (l[j] : Int)] := by simp [intL, h]
variable {C : CC} (hC : Closed prog C)
include hC
set_option maxHeartbeats 1000000 in
theorem order_c (hS : SlC C) {b : Bool} {n : Nat} {es : List Edg} (hn : n ≤ 300) (he : es.length ≤ 1000) (hg : inG n es) : C 504 [.int .i64 n, slx b (es.map edK)] (ndD (ordF n es)) [] := by
  have kn := next_c hC hS (b := b) hn he hg
  have enx : nxtD n es = .sl (ndR n es) := rfl
  rw [enx] at kn
  refine start hC (nf := N504_digraph_order) rfl rfl ?_
  simp [N504_digraph_order]
  refine callW_of kn (.inr rfl) ?_
  simp [ndR_len]
  refine ⟨by omega, ?_⟩
  refine loop_of Nat (fun i => [(5, .sl (ndR n es)), (6, .ref (.r 10096) 0 n), (10096, .blk 1 (wtA n (cntU es i))), (25, .sl (ndR n es)), (26, .int .i64 n), (27, .int .i64 i)]) (fun i => i ≤ n) (fun i => n - i) 0 (by simp) (by simp [wtA, cntU, rep_map]) ?_
  rintro i hi
  simp
  refine brB_of (fun h => ?_) (fun h => ?_) <;> simp [h] <;> simp at h
  · have hw : IntKind.wrap .i64 ((i : Int) + 1) = ((i + 1 : Nat) : Int) := wrap_i64 (by omega) (by omega)
    have hlen := nxt_len n es i
    simp [h, idxW_some (ndR_get es h), ndD, intL_len]
    refine loop_of Nat (fun j => [(5, .sl (ndR n es)), (6, .ref (.r 10096) 0 n), (10096, .blk 1 (wtA n (wt1 n es i j))), (25, .sl (ndR n es)), (26, .int .i64 n), (27, .int .i64 i), (31, .sl (intL (nxt n es i))), (32, .int .i64 (nxt n es i).length), (33, .int .i64 j)]) (fun j => j ≤ (nxt n es i).length) (fun j => (nxt n es i).length - j) 0 (by simp) (by simp [wt10, ndD]) ?_
    rintro j hj
    simp
    refine brB_of (fun g => ?_) (fun g => ?_) <;> simp [g] <;> simp at g
    · have hw2 : IntKind.wrap .i64 ((j : Int) + 1) = ((j + 1 : Nat) : Int) := wrap_i64 (by omega) (by omega)
      obtain ⟨k1, k2⟩ := mem_nxt.1 (List.getElem_mem g)
      have kle := cntU_le es i (nxt n es i)[j]
      have hwv : IntKind.wrap .i64 ((wt1 n es i j (nxt n es i)[j] : Int) + 1) = ((wt1 n es i j (nxt n es i)[j] + 1 : Nat) : Int) := wrap_i64 (by omega) (by unfold wt1; split <;> omega)
      simp [g, idxW_some (intL_get g), k1, rowW_some (wtA_get _ k1), wtA_get _ k1, hwv]
      refine ⟨j + 1, by omega, by omega, ?_, hw2⟩
      have e1 := wtA_set (n := n) (v := (nxt n es i)[j]) (wt1 n es i j) (wt1 n es i j (nxt n es i)[j] + 1)
      rw [show ((wt1 n es i j (nxt n es i)[j] + 1 : Nat) : Int) = (wt1 n es i j (nxt n es i)[j] : Int) + 1 by omega] at e1
      rw [e1]
      refine wtA_congr fun v _ => ?_
      rw [wt1_step g]
      split
      · rename_i e; rw [e]
      · rfl
    · have ej : j = (nxt n es i).length := by omega
      subst ej
      simp [hw]
      exact ⟨i + 1, by omega, by omega, wtA_congr fun v hv => wt1_end hv, by omega⟩
  · have ei : n = i := by omega
    subst ei
    clear h hi
    have e0 : wtA n (cntU es n) = wtA n (cntW n es []) := wtA_congr fun v _ => cntU_all n es v
    rw [e0]
    refine loop_of Nat (fun i => [(5, .sl (ndR n es)), (6, .ref (.r 10096) 0 n), (10096, .blk 1 (wtA n (cntW n es []))), (11, .ref (.r 10176) 0 (rd0 n es i).length), (10176, .blk 1 (intL (rd0 n es i))), (12, .ref (.r 10192) 0 0), (10192, .blk 1 []), (45, .ref (.r 10096) 0 n), (46, .int .i64 n), (47, .int .i64 i)]) (fun i => i ≤ n) (fun i => n - i) 0 (by simp) (by simp [rd0, intL]) ?_
    rintro i hi
    simp
    refine brB_of (fun h => ?_) (fun h => ?_) <;> simp [h] <;> simp at h
    · have hw : IntKind.wrap .i64 ((i : Int) + 1) = ((i + 1 : Nat) : Int) := wrap_i64 (by omega) (by omega)
      have hrl := rd0_len n es i
      simp [h, rowW_some (wtA_get _ h), wtA_get _ h]
      refine brB_of (fun c => ?_) (fun c => ?_) <;> simp at c <;> simp [c, intL_len]
      · refine ⟨by omega, i + 1, by omega, by omega, ?_, ?_, hw⟩
        · rw [rd0_succ, if_pos c]; simp
        · rw [intL_take, intL_app, rd0_succ, if_pos c]
      · simp [hw]
        refine ⟨i + 1, by omega, by omega, ?_⟩
        rw [rd0_succ, if_neg c, List.append_nil]
        exact ⟨rfl, rfl, by omega⟩
    · have ei : i = n := by omega
      rw [ei, rd0_end hg]
      clear ei h hi i
      refine loop_of (Nat × Nat × List (List D)) (fun s => [(5, .sl (ndR n es)), (6, .ref (.r 10096) 0 n), (10096, .blk 1 (wtA n (cntW n es (ordN n es s.1)))), (11, .ref (.r 10176) s.2.1 (rdyL n es (ordN n es s.1)).length), (10176, .blk 1 s.2.2), (12, .ref (.r 10192) 0 s.1), (10192, .blk 1 (intL (ordN n es s.1)))])
        (fun s => (ordN n es s.1).length = s.1 ∧ s.2.1 + (rdyL n es (ordN n es s.1)).length ≤ s.2.2.length ∧ (s.2.2.drop s.2.1).take (rdyL n es (ordN n es s.1)).length = intL (rdyL n es (ordN n es s.1))) (fun s => n - s.1) (0, 0, intL (rdyL n es [])) (by simp [ordN, intL_len, intL_take]) (by simp [ordN, intL]) ?_
      rintro ⟨m, k, B⟩ ⟨hm, hkB, hB⟩
      simp only at hm hkB hB
      simp
      have hI := ordN_I n es m
      have hmn := hI.len
      obtain ⟨out, hout⟩ : ∃ out, out = ordN n es m := ⟨_, rfl⟩
      cases hr : rdyL n es (ordN n es m) with
      | nil =>
        have e1 : (intL (ordN n es m)).map (fun e => e.map cellV) = intL (ordN n es m) := by simp [intL, cellV]
        have e2 : (intL (ordN n es m)).take m = intL (ordN n es m) := List.take_of_length_le (by rw [intL_len]; omega)
        simp [hm]
        rw [e1, e2, ordF_of hm hr]
        exact ⟨by rw [intL_len]; omega, rfl⟩
      | cons i r =>
        have hi : i ∈ rdyL n es (ordN n es m) := by rw [hr]; simp
        obtain ⟨i1, i2, i3⟩ := mem_rdyL.1 hi
        have hrl := rdyL_len n es (ordN n es m)
        rw [hr] at hkB hB hrl
        simp only [List.length_cons] at hkB hB hrl
        have hBk : B[k]? = some [.int .i64 (i : Int)] := by
          have := congrArg (fun l => l[0]?) hB
          simpa [intL] using this
        have hBr : (B.drop (k + 1)).take r.length = intL r := by
          have := congrArg (fun l => l.drop 1) hB
          simp only [List.drop_take, List.drop_drop] at this
          simpa [intL] using this
        have hS1 := hI.step hi
        have hsl := hS1.len
        have eN := ordN_succ hr
        have e2 : (intL (ordN n es m)).take m = intL (ordN n es m) := List.take_of_length_le (by rw [intL_len]; omega)
        have hlen := nxt_len n es i
        simp only [List.length_append, List.length_singleton, hm] at hsl
        simp [rowW_some hBk]
        refine ⟨by rw [intL_len]; omega, by omega, ?_⟩
        rw [e2, intL_app, ← eN]
        simp [idxW_some (ndR_get es i1), ndD, intL_len]
        refine loop_of (Nat × Nat × List (List D)) (fun s => [(5, .sl (ndR n es)), (6, .ref (.r 10096) 0 n), (10096, .blk 1 (wtA n (wt2 n es (ordN n es m) i s.1))), (11, .ref (.r 10176) s.2.1 (rd2 n es (ordN n es m) i s.1).length), (10176, .blk 1 s.2.2), (12, .ref (.r 10192) 0 (m + 1)), (10192, .blk 1 (intL (ordN n es (m + 1)))), (74, .sl (intL (nxt n es i))), (75, .int .i64 (nxt n es i).length), (76, .int .i64 s.1)])
          (fun s => s.1 ≤ (nxt n es i).length ∧ s.2.1 + (rd2 n es (ordN n es m) i s.1).length ≤ s.2.2.length ∧ (s.2.2.drop s.2.1).take (rd2 n es (ordN n es m) i s.1).length = intL (rd2 n es (ordN n es m) i s.1)) (fun s => (nxt n es i).length - s.1) (0, k + 1, B) (by simp [rd2_zero hr]; exact ⟨by omega, hBr⟩) (by simp [rd2_zero hr, ndD, wt20]) ?_
        rintro ⟨j, k', B'⟩ ⟨hj, hkB', hB'⟩
        simp only at hj hkB' hB'
        simp
        refine brB_of (fun g => ?_) (fun g => ?_) <;> simp [g] <;> simp at g
        · have hw2 : IntKind.wrap .i64 ((j : Int) + 1) = ((j + 1 : Nat) : Int) := wrap_i64 (by omega) (by omega)
          obtain ⟨k1, k2⟩ := mem_nxt.1 (List.getElem_mem g)
          have hw0 : wt2 n es (ordN n es m) i j (nxt n es i)[j] = cntW n es (ordN n es m ++ [i]) (nxt n es i)[j] + 1 := by
            unfold wt2
            rw [if_neg (nxt_new g), cntW_step i1 i2, if_pos k2]
          have hcl : cntW n es (ordN n es m ++ [i]) (nxt n es i)[j] ≤ n := by
            have := List.length_filter_le (fun u => es.contains (u, (nxt n es i)[j]) && !(ordN n es m ++ [i]).contains u) (List.range n)
            simpa [cntW] using this
          have hwv : IntKind.wrap .i64 ((wt2 n es (ordN n es m) i j (nxt n es i)[j] : Int) - 1) = (cntW n es (ordN n es m ++ [i]) (nxt n es i)[j] : Int) := wrap_i64 (by omega) (by omega)
          have ew := wtA_set (n := n) (v := (nxt n es i)[j]) (wt2 n es (ordN n es m) i j) (cntW n es (ordN n es m ++ [i]) (nxt n es i)[j])
          have ew2 : (wtA n fun u => if u = (nxt n es i)[j] then cntW n es (ordN n es m ++ [i]) (nxt n es i)[j] else wt2 n es (ordN n es m) i j u) = wtA n (wt2 n es (ordN n es m) i (j + 1)) := wtA_congr fun v _ => by
            rw [wt2_step g]
            by_cases e : v = (nxt n es i)[j]
            · rw [if_pos e, if_pos e, e]
            · rw [if_neg e, if_neg e]
          rw [ew2] at ew
          have hwn : wt2 n es (ordN n es m) i (j + 1) (nxt n es i)[j] = cntW n es (ordN n es m ++ [i]) (nxt n es i)[j] := by rw [wt2_step g, if_pos rfl]
          simp [g, idxW_some (intL_get g), k1, rowW_some (wtA_get _ k1), wtA_get _ k1, hwv, ew, hwn]
          have hl2 := rd2_len n es (ordN n es m) i j
          have p0 := cntW_zero hg (out := ordN n es m ++ [i]) (k := (nxt n es i)[j])
          refine brB_of (fun c => ?_) (fun c => ?_) <;> simp at c
          · have pk := p0.1 c
            have hins := rd2_ins hI hr g pk
            have kb := bsearch_c hC (rd2 n es (ordN n es m) i j) (nxt n es i)[j] (rd2_asc n es _ i j) (by omega)
            have hpl := posL_le (rd2 n es (ordN n es m) i j) (nxt n es i)[j]
            have kI := hS.insert ((rd2 n es (ordN n es m) i j).map fun k : Nat => (k : Int)) (posL (rd2 n es (ordN n es m) i j) (nxt n es i)[j]) (nxt n es i)[j] (by simpa using hpl) (by simp; omega)
            have eI : ((((rd2 n es (ordN n es m) i j).map fun k : Nat => (k : Int)).take (posL (rd2 n es (ordN n es m) i j) (nxt n es i)[j]) ++ ((nxt n es i)[j] : Int) :: ((rd2 n es (ordN n es m) i j).map fun k : Nat => (k : Int)).drop (posL (rd2 n es (ordN n es m) i j) (nxt n es i)[j])).map fun n => [D.int .i64 n]) = intL (rd2 n es (ordN n es m) i (j + 1)) := by
              rw [← hins]
              simp [intL]
              rfl
            rw [eI, ← intL_cast] at kI
            have e4 : (intL (rd2 n es (ordN n es m) i j)).map (fun e => e.map cellV) = intL (rd2 n es (ordN n es m) i j) := by simp [intL, cellV]
            have e5 : (((B'.drop k').take (rd2 n es (ordN n es m) i j).length).map fun e => e.map cellV) = intL (rd2 n es (ordN n es m) i j) := by rw [hB', e4]
            simp [hkB']
            simp at e5
            rw [e5]
            refine callW_of kb (.inl rfl) ?_
            simp [hkB', hB']
            refine ⟨fun e he => (intL_F1 e he).2, ?_⟩
            refine eatW_of kI intL_F1 ?_
            simp [hw2, intL_len]
            exact ⟨j + 1, 0, intL (rd2 n es (ordN n es m) i (j + 1)), ⟨by omega, by simp [intL_len], by simp [intL_take]⟩, by omega, by simp⟩
          · have pk : prOk es (ordN n es m ++ [i]) (nxt n es i)[j] = false := by
              rw [← Bool.not_eq_true]
              exact fun e => c (p0.2 e)
            have hsame := rd2_same g pk
            simp [hw2]
            exact ⟨j + 1, k', B', ⟨by omega, by rw [hsame]; exact hkB', by rw [hsame]; exact hB'⟩, by omega, by simp [hsame]⟩
        · have ej : j = (nxt n es i).length := by omega
          subst ej
          have er := rd2_end hI hr
          rw [← eN] at er
          rw [er] at hkB' hB' ⊢
          exact ⟨m + 1, k', B', ⟨by rw [eN]; simp [hm], hkB', hB'⟩, by omega, wtA_congr fun v hv => by rw [wt2_end i1 i2 hv, eN], by simp⟩
end Go.Gv

set_option linter.unusedSimpArgs false
namespace Go.Gv
def storeOk (n : Nod) : Bool := !(decide (n.ground ≤ n.invert)) && curveOk n.shape (n.ground - n.invert) 1125899906842624 && !(decide (n.kind = 1) && n.prot) && (if n.prot then lowHigh n.reserve 0 (lastK n.shape).2 else decide (n.reserve = 0))
def outOk (n : Nod) : Bool := decide (n.invert ≤ n.ground) && decide (n.shape.length = 0) && !n.prot && decide (n.reserve = 0)
def nodOk (n : Nod) : Bool := isName n.name && lowHigh n.x (-16777216) 16777216 && lowHigh n.y (-16777216) 16777216 && lvlOk n.invert && lvlOk n.ground && (if n.kind = 1 ∨ n.kind = 2 then storeOk n else if n.kind = 3 then outOk n else false)
variable {C : CC} (hC : Closed prog C)
include hC
theorem shaped_c (b : Bool) (t : List (Int × Int)) (hgt : Int) : C 174 [slx b (t.map knD), .int .i64 hgt] (.bool (curveOk t hgt 1125899906842624)) [] := by
  refine start hC (nf := N174_network_shaped) rfl rfl ?_
  simp [N174_network_shaped]
  refine callW_of (tableValid_c hC b t) (.inl rfl) ?_
  cases hv : tableValid t
  · simp [curveOk, hv]
  obtain ⟨l1, l2⟩ := valid_len hv
  obtain ⟨n, hn⟩ : ∃ n, n + 1 = t.length := ⟨t.length - 1, by omega⟩
  have e1 : IntKind.wrap .i64 ((t.length : Int) - 1) = (n : Int) := wrap_i64 (by omega) (by omega)
  have hnl : n < t.length := by omega
  have h0 : 0 < t.length := by omega
  have e0 : t[0]! = t[0] := getElem!_pos t 0 h0
  simp [e1, hnl, h0, knD]
  rw [curveOk, lastK_get hn, e0, hv]
  have ez : (decide (t[0].fst = 0) && decide (t[0].snd = 0)) = (t[0].1 == 0 && t[0].2 == 0) := by rw [Bool.eq_iff_iff]; simp
  rw [← ez]
  cases hz : (decide (t[0].fst = 0) && decide (t[0].snd = 0))
  · simp
  simp
  refine brB_of (fun c => ?_) (fun c => ?_)
  · simp at c
    simp [c]
  · simp at c
    simp [c]
theorem nodOk_c (n : Nod) : C 168 [.agg (nodC n)] (.bool (nodOk n)) [] := by
  have lh : ∀ n a b : Int, (decide (a ≤ n) && decide (n ≤ b)) = lowHigh n a b := fun _ _ _ => rfl
  have k1 := IsName_c hC n.name
  have k2 := between_c hC n.x (-16777216) 16777216
  have k3 := between_c hC n.y (-16777216) 16777216
  have k4 := level_c hC [n.invert, n.ground] (by simp)
  rw [lh] at k2 k3
  obtain ⟨q, hq⟩ : ∃ q, q = nodOk n := ⟨_, rfl⟩
  rw [← hq]
  unfold nodOk at hq
  refine start hC (nf := N168_network_rightNode) rfl rfl ?_
  simp [N168_network_rightNode, nodC]
  refine callW_of k1 (.inl rfl) ?_
  cases h1 : isName n.name
  · simp [hq, h1]
  simp
  refine callW_of k2 (.inl rfl) ?_
  cases h2 : lowHigh n.x (-16777216) 16777216
  · simp [hq, h2]
  simp
  refine callW_of k3 (.inl rfl) ?_
  cases h3 : lowHigh n.y (-16777216) 16777216
  · simp [hq, h3]
  simp
  refine callW_of k4 (.inl rfl) ?_
  cases h4 : lvlOk n.invert
  · simp [hq, h4]
  cases h5 : lvlOk n.ground
  · simp [hq, h4, h5]
  simp [h4, h5]
  rw [h1, h2, h3, h4, h5] at hq
  simp only [Bool.true_and] at hq
  have b1 : -4194304 ≤ n.invert ∧ n.invert ≤ 4194304 := by simpa [lvlOk] using h4
  have b2 : -4194304 ≤ n.ground ∧ n.ground ≤ 4194304 := by simpa [lvlOk] using h5
  have e1 : IntKind.wrap .i64 (n.ground - n.invert) = n.ground - n.invert := wrap_i64 rfl (by omega)
  refine brB_of (fun hk1 => ?_) (fun hk1 => ?_) <;> simp at hk1 <;> simp [hk1]
  · rw [if_pos (by omega), storeOk] at hq
    refine brB_of (fun c1 => ?_) (fun c1 => ?_) <;> simp at c1 <;> simp [c1]
    · simp [hq, c1]
    have c1' : ¬ n.ground ≤ n.invert := by omega
    simp [e1]
    refine callW_of (shaped_c hC n.shapeN n.shape (n.ground - n.invert)) (.inl rfl) ?_
    cases c2 : curveOk n.shape (n.ground - n.invert) 1125899906842624
    · simp [hq, c2]
    simp [hk1]
    cases c3 : n.prot
    · simp [hq, c1', c2, c3]
    · simp [hq, c3, hk1]
  refine brB_of (fun hk2 => ?_) (fun hk2 => ?_) <;> simp at hk2 <;> simp [hk2, hk1]
  · rw [if_pos (by omega), storeOk] at hq
    refine brB_of (fun c1 => ?_) (fun c1 => ?_) <;> simp at c1 <;> simp [c1]
    · simp [hq, c1]
    have c1' : ¬ n.ground ≤ n.invert := by omega
    simp [e1]
    refine callW_of (shaped_c hC n.shapeN n.shape (n.ground - n.invert)) (.inl rfl) ?_
    cases c2 : curveOk n.shape (n.ground - n.invert) 1125899906842624
    · simp [hq, c2]
    simp [hk2]
    cases c3 : n.prot
    · simp [hq, c1', c2, c3]
    have hv : tableValid n.shape = true := by
      simp only [curveOk, Bool.and_eq_true] at c2
      exact c2.1.1.1
    obtain ⟨l1, l2⟩ := valid_len hv
    obtain ⟨m, hm⟩ : ∃ m, m + 1 = n.shape.length := ⟨n.shape.length - 1, by omega⟩
    have e2 : IntKind.wrap .i64 ((n.shape.length : Int) - 1) = (m : Int) := wrap_i64 (by omega) (by omega)
    have hml : m < n.shape.length := by omega
    simp [e2, hml, knD]
    have kb := between_c hC n.reserve 0 n.shape[m].2
    rw [lh] at kb
    refine callW_of kb (.inl rfl) ?_
    simp
    refine ⟨indW_of (by decide +kernel), ?_⟩
    simp [hq, c1', c2, c3, hk2, lastK_get hm]
  rw [if_neg (by omega)] at hq
  refine brB_of (fun hk3 => ?_) (fun hk3 => ?_) <;> simp at hk3 <;> simp [hk3]
  · rw [if_pos hk3, outOk] at hq
    refine brB_of (fun c1 => ?_) (fun c1 => ?_) <;> simp at c1 <;> simp [c1]
    · refine brB_of (fun c2 => ?_) (fun c2 => ?_) <;> simp at c2 <;> simp [c2]
      · cases c3 : n.prot
        · simp [hq, c1, c2, c3]
        · simp [hq, c3]
      · simp [hq, c2]
    · have : ¬ n.invert ≤ n.ground := by omega
      simp [hq, this]
  · rw [if_neg hk3] at hq
    simp [hq]
end Go.Gv

set_option linter.unusedSimpArgs false
namespace Go.Gv
def nodAt (ns : List Nod) (i : Nat) : Bool := nodOk ns[i]! && decide (idxD (nodIs ns[i]!.name) ns = (i : Int))
def fromOk (ns : List Nod) (nm : List UInt8) : Bool := decide (0 ≤ idxD (nodIs nm) ns) && !decide (ns[(idxD (nodIs nm) ns).toNat]!.kind = 3)
def lnkAt (ns : List Nod) (ls : List Lnk) (i : Nat) : Bool := linkOk ls[i]! && decide (idxD (lnkIs ls[i]!.name) ls = (i : Int)) && fromOk ns ls[i]!.src && decide (0 ≤ idxD (nodIs ls[i]!.dst) ns)
def netOk (ns : List Nod) (ls : List Lnk) : Bool := decide (ns.length ≤ 300) && decide (ls.length ≤ 400) && (List.range ns.length).all (nodAt ns) && (List.range ls.length).all (lnkAt ns ls)
theorem idxD_lt {α : Type} {p : α → Bool} {xs : List α} (h : 0 ≤ idxD p xs) : (idxD p xs).toNat < xs.length := by
  unfold idxD at h ⊢
  cases e : xs.findIdx? p with
  | none => rw [e] at h; simp at h
  | some i =>
    simp
    obtain ⟨h1, _⟩ := List.findIdx?_eq_some_iff_getElem.1 e
    exact h1
variable {C : CC} (hC : Closed prog C)
include hC
theorem netOk_c (b1 b2 : Bool) (ns : List Nod) (ls : List Lnk) (hcv : ∀ l ∈ ls, l.curve.length < 2 ^ 62) : C 164 [.agg [slx b1 (ns.map nodC), slx b2 (ls.map lnkC)]] (.bool (netOk ns ls)) [] := by
  obtain ⟨r, hr⟩ : ∃ r, r = netOk ns ls := ⟨_, rfl⟩
  rw [← hr]
  unfold netOk at hr
  refine start hC (nf := N164_network_Valid) rfl rfl ?_
  simp [N164_network_Valid]
  refine brB_of (fun c => ?_) (fun c => ?_) <;> simp at c <;> simp [c]
  · simp [hr, show ¬ ns.length ≤ 300 by omega]
  refine brB_of (fun c2 => ?_) (fun c2 => ?_) <;> simp at c2 <;> simp [c2]
  · simp [hr, show ¬ ls.length ≤ 400 by omega]
  rw [decide_eq_true (show ns.length ≤ 300 by omega), decide_eq_true (show ls.length ≤ 400 by omega)] at hr
  simp only [Bool.true_and] at hr
  have badN : ∀ i, i < ns.length → nodAt ns i = false → r = false := fun i hi h => by
    rw [hr, Bool.and_eq_false_iff]
    exact .inl (List.all_eq_false.2 ⟨i, by simpa using hi, by simp [h]⟩)
  have badL : ∀ i, i < ls.length → lnkAt ns ls i = false → r = false := fun i hi h => by
    rw [hr, Bool.and_eq_false_iff]
    exact .inr (List.all_eq_false.2 ⟨i, by simpa using hi, by simp [h]⟩)
  refine loop_of Nat (fun i => [(1, .ptr [slx b1 (ns.map nodC), slx b2 (ls.map lnkC)]), (19, slx b1 (ns.map nodC)), (20, .int .i64 ns.length), (21, .int .i64 i)]) (fun i => i ≤ ns.length ∧ ∀ j < i, nodAt ns j = true) (fun i => ns.length - i) 0 (by simp) (by simp) ?_
  rintro i ⟨hi, hj⟩
  simp
  refine brB_of (fun h => ?_) (fun h => ?_) <;> simp at h <;> simp [h]
  · have hw : IntKind.wrap .i64 ((i : Int) + 1) = ((i + 1 : Nat) : Int) := wrap_i64 (by omega) (by omega)
    have bad := badN i h
    have e1 : ns[i]! = ns[i] := getElem!_pos ns i h
    simp only [nodAt, e1] at bad
    have k1 := nodOk_c hC ns[i]
    have k2 := node_c hC b1 b2 ns ls ns[i].name (by omega)
    simp only [nodC] at k1
    simp [nodC, h]
    refine callW_of k1 (.inl rfl) ?_
    cases g1 : nodOk ns[i]
    · simp
      exact bad (by simp [g1])
    simp
    refine callW_of k2 (.inl rfl) ?_
    simp
    refine brB_of (fun g2 => ?_) (fun g2 => ?_) <;> simp at g2 <;> simp [g2]
    · exact bad (by simp [g2])
    · simp [hw]
      refine ⟨i + 1, ⟨by omega, fun k hk => ?_⟩, by omega, by simp⟩
      rcases Nat.lt_succ_iff_lt_or_eq.1 hk with h5 | rfl
      · exact hj k h5
      · simp [nodAt, e1, g1, g2]
  have hall : (List.range ns.length).all (nodAt ns) = true := by
    rw [List.all_eq_true]
    intro k hk
    exact hj k (by simp at hk; omega)
  rw [hall, Bool.true_and] at hr
  clear badN hall hj
  refine loop_of Nat (fun i => [(1, .ptr [slx b1 (ns.map nodC), slx b2 (ls.map lnkC)]), (39, slx b2 (ls.map lnkC)), (40, .int .i64 ls.length), (41, .int .i64 i)]) (fun i => i ≤ ls.length ∧ ∀ j < i, lnkAt ns ls j = true) (fun i => ls.length - i) 0 (by simp) (by simp) ?_
  clear h hi i
  rintro i ⟨hi, hj⟩
  simp
  refine brB_of (fun h => ?_) (fun h => ?_) <;> simp at h <;> simp [h]
  · have hw : IntKind.wrap .i64 ((i : Int) + 1) = ((i + 1 : Nat) : Int) := wrap_i64 (by omega) (by omega)
    have bad := badL i h
    have e1 : ls[i]! = ls[i] := getElem!_pos ls i h
    simp only [lnkAt, e1] at bad
    have k1 := linkOk_c hC ls[i] (hcv _ (List.getElem_mem h))
    have k2 := link_c hC b1 b2 ns ls ls[i].name (by omega)
    have k3 := node_c hC b1 b2 ns ls ls[i].src (by omega)
    have k4 := node_c hC b1 b2 ns ls ls[i].dst (by omega)
    have next : lnkAt ns ls i = true → ∃ s' : Nat, (s' ≤ ls.length ∧ ∀ j < s', lnkAt ns ls j = true) ∧ ls.length - s' < ls.length - i ∧ (i : Int) + 1 = s' := fun hl => by
      refine ⟨i + 1, ⟨by omega, fun k hk => ?_⟩, by omega, by simp⟩
      rcases Nat.lt_succ_iff_lt_or_eq.1 hk with h5 | rfl
      · exact hj k h5
      · exact hl
    simp only [lnkAt, e1] at next
    simp only [lnkC] at k1
    simp [lnkC, h]
    refine callW_of k1 (.inl rfl) ?_
    cases g1 : linkOk ls[i]
    · simp
      exact bad (by simp [g1])
    simp
    refine callW_of k2 (.inl rfl) ?_
    simp
    refine brB_of (fun g2 => ?_) (fun g2 => ?_) <;> simp at g2 <;> simp [g2]
    · exact bad (by simp [g2])
    refine callW_of k3 (.inl rfl) ?_
    simp
    refine brB_of (fun g3 => ?_) (fun g3 => ?_) <;> simp at g3 <;> simp [g3]
    · exact bad (by simp [fromOk, show ¬ 0 ≤ idxD (nodIs ls[i].src) ns by omega])
    have g3' : ¬ idxD (nodIs ls[i].src) ns < 0 := by omega
    refine callW_of k4 (.inl rfl) ?_
    simp
    refine brB_of (fun g4 => ?_) (fun g4 => ?_) <;> simp at g4 <;> simp [g4]
    · exact bad (by simp [show ¬ 0 ≤ idxD (nodIs ls[i].dst) ns by omega])
    have g4' : ¬ idxD (nodIs ls[i].dst) ns < 0 := by omega
    have hf := idxD_lt g3
    obtain ⟨f, hfe⟩ := Int.eq_ofNat_of_zero_le g3
    rw [hfe] at hf ⊢
    simp at hf
    have e2 : ns[f]! = ns[f] := getElem!_pos ns f hf
    have hfo : fromOk ns ls[i].src = !decide (ns[f].kind = 3) := by
      simp [fromOk, hfe, e2]
    simp [hf, nodC]
    refine brB_of (fun g5 => ?_) (fun g5 => ?_) <;> simp at g5 <;> simp [g5]
    · exact bad (by simp [hfo, g5])
    · simp [hw]
      exact next (by simp [hfo, g5, g1, g2, g4])
  · have hall : (List.range ls.length).all (lnkAt ns ls) = true := by
      rw [List.all_eq_true]
      intro k hk
      exact hj k (by simp at hk; omega)
    rw [hr, hall]
end Go.Gv
