/-
  Texts of the proof: W1, W2, W3, GvX, H8, I1, V1, M3, M4, P3, Z1, Z2, V2, Z3, K3, H1, H2, H3, H4, H5, H6, GvX2, H10, H7, H9, H11, H12, V3, V4, Z4, Z5, Z6, I3, Z7, Z8, JP.
-/
import Derived.Test.YtojokjlpllpceaaDoorX7
set_option linter.all false
set_option linter.unusedSimpArgs false
namespace Go.Gv
open Go.Lib

theorem shl4 (a m : Nat) (hm : m = a * 16 % 18446744073709551616) : IntKind.u64.wrap ((a : Int) * 2 ^ min 4 IntKind.u64.bits) = (m : Int) := shlN a 4 m hm
theorem shl60 (a m : Nat) (hm : m = a * 1152921504606846976 % 18446744073709551616) : IntKind.u64.wrap ((a : Int) * 2 ^ min 60 IntKind.u64.bits) = (m : Int) := shlN a 60 m hm
theorem shr60 (a : Nat) : Int.fdiv (a : Int) (2 ^ min 60 IntKind.u64.bits) = ((a / 1152921504606846976 : Nat) : Int) := shrN a 60
theorem shr4 (a : Nat) : Int.fdiv (a : Int) (2 ^ min 4 IntKind.u64.bits) = ((a / 16 : Nat) : Int) := shrN a 4
theorem mask60 (a : Nat) (ha : a < 18446744073709551616) : bits .and .u64 (a : Int) 1152921504606846975 = ((a % 1152921504606846976 : Nat) : Int) := by
  have h := bits_and_u64_nat a 1152921504606846975 ha (by omega)
  have e : a &&& 1152921504606846975 = a % 1152921504606846976 := Nat.and_two_pow_sub_one_eq_mod a 60
  rw [e] at h
  exact h
theorem or16 (a b : Nat) (hb : b < 16) (h : a * 16 + b < 18446744073709551616) : bits .or .u64 ((a * 16 : Nat) : Int) (b : Int) = ((a * 16 + b : Nat) : Int) := orN a b 4 hb h
theorem or60 (a b : Nat) (hb : b < 1152921504606846976) (h : a * 1152921504606846976 + b < 18446744073709551616) : bits .or .u64 ((a * 1152921504606846976 : Nat) : Int) (b : Int) = ((a * 1152921504606846976 + b : Nat) : Int) := orN a b 60 hb h
/-- A number that is not negative, in two parts of 64 bits. -/
def numD (p : Nat) (neg : Bool) : D := .agg [.int .u64 ((p / 18446744073709551616 : Nat) : Int), .int .u64 ((p % 18446744073709551616 : Nat) : Int), .bool neg]
/-- A wide integer that is not negative. -/
def wiD (p : Nat) : D := .agg [.int .i64 ((p / 1152921504606846976 : Nat) : Int), .int .i64 ((p % 1152921504606846976 : Nat) : Int)]

variable {C : CC} (hC : Closed prog C)
include hC
theorem wsize_c (n : Nat) (h : n < 9223372036854775808) : C 112 [.int .i64 n] (.int .u64 (n : Int)) [] := by
  refine start hC (nf := N112_wide_size) rfl rfl ?_
  have h0 : ¬ (n : Int) < 0 := by omega
  simp [N112_wide_size, h0, wrapN n (by omega)]
theorem signed_c (a b : Int) (n : Bool) : C 113 [.int .u64 a, .int .u64 b, .bool n] (.agg [.int .u64 a, .int .u64 b, .bool (n && (!decide (a = 0) || !decide (b = 0)))]) [] := by
  refine start hC (nf := N113_wide_signed) rfl rfl ?_
  simp [N113_wide_signed]
  cases n <;> simp
  by_cases h : a = 0 <;> simp [h]
theorem wtimes_c (x y : Nat) (hx : x < 9223372036854775808) (hy : y < 9223372036854775808) : C 103 [.int .i64 x, .int .i64 y] (numD (x * y) false) [] := by
  refine start hC (nf := N103_wide_times) rfl rfl ?_
  have h0 : ¬ (x : Int) < 0 := by omega
  have h1 : ¬ (y : Int) < 0 := by omega
  have hm := Mul64_c hC x y (by omega) (by omega)
  rw [numD]
  obtain ⟨zh, hzh⟩ : ∃ zh, zh = x * y / 18446744073709551616 := ⟨_, rfl⟩
  obtain ⟨zl, hzl⟩ : ∃ zl, zl = x * y % 18446744073709551616 := ⟨_, rfl⟩
  rw [← hzh, ← hzl] at hm ⊢
  simp [N103_wide_times]
  refine callW_of (wsize_c hC x hx) (.inl rfl) ?_
  simp
  refine callW_of (wsize_c hC y hy) (.inl rfl) ?_
  simp
  refine callW_of hm (.inl rfl) ?_
  simp [h0, h1]
  refine callW_of (signed_c hC zh zl false) (.inl rfl) ?_
  simp
theorem whole_c (n : Nat) (h : n < 9223372036854775808) : C 110 [.int .u64 n, .bool false] (.tup [.int .i64 n, .int .i64 0]) [] := by
  refine start hC (nf := N110_wide_whole) rfl rfl ?_
  have h1 : (n : Int) ≤ 9223372036854775807 := by omega
  have h2 : IntKind.i64.wrap (n : Int) = (n : Int) := wrap_i64 rfl (by omega)
  simp [N110_wide_whole, h1, h2]
theorem quotient_c (p d : Nat) (up : Bool) (q : Nat) (hd : d < 9223372036854775808) (hp : p / 18446744073709551616 < d) (hq : q < 9223372036854775808) (hv : q = if up then (p + d - 1) / d else p / d) (hqd : p / d + 1 < 9223372036854775808) : C 104 [numD p false, .int .i64 d, .bool up] (.tup [.int .i64 q, .int .i64 0]) [] := by
  obtain ⟨ph, hph⟩ : ∃ z, z = p / 18446744073709551616 := ⟨_, rfl⟩
  obtain ⟨pl, hpl⟩ : ∃ z, z = p % 18446744073709551616 := ⟨_, rfl⟩
  have hpp : ph * 18446744073709551616 + pl = p := by omega
  obtain ⟨q0, hq0⟩ : ∃ z, z = p / d := ⟨_, rfl⟩
  obtain ⟨r0, hr0⟩ : ∃ z, z = p % d := ⟨_, rfl⟩
  have hdiv := Div64_c hC ph pl d (by omega) (by omega) (by omega)
  rw [hpp, ← hq0, ← hr0] at hdiv
  have hd0 : 0 < d := by omega
  have hdp : d * q0 + r0 = p := by rw [hq0, hr0]; exact Nat.div_add_mod p d
  have hrd : r0 < d := by rw [hr0]; exact Nat.mod_lt _ hd0
  have hup : up = true → q = if 0 < r0 then q0 + 1 else q0 := by
    rintro rfl
    simp only [if_true] at hv
    rw [hv, ← hdp]
    by_cases h : 0 < r0
    · rw [if_pos h, show d * q0 + r0 + d - 1 = d * q0 + (d + (r0 - 1)) by omega, Nat.mul_add_div hd0, Nat.add_div_left _ hd0, Nat.div_eq_of_lt (by omega)]
    · rw [if_neg h, show d * q0 + r0 + d - 1 = d * q0 + (d - 1) by omega, Nat.mul_add_div hd0, Nat.div_eq_of_lt (by omega)]
      rfl
  rw [numD, ← hph, ← hpl]
  have h1 : ¬ (d : Int) ≤ (ph : Int) := by omega
  have h2 : ¬ (d : Int) < 0 := by omega
  have h3 : IntKind.u64.wrap ((q0 : Int) + 1) = ((q0 + 1 : Nat) : Int) := uw (by omega) (by omega)
  refine start hC (nf := N104_wide_quotient) rfl rfl ?_
  simp [N104_wide_quotient]
  refine callW_of (wsize_c hC d hd) (.inl rfl) ?_
  simp [h1]
  refine callW_of hdiv (.inl rfl) ?_
  simp [h2]
  cases up
  · have e : q = q0 := by rw [hv, hq0]; rfl
    subst e
    refine brB_of (fun h => ?_) (fun h => ?_) <;> simp at h <;> simp [h]
    · refine callW_of (whole_c hC q hq) (.inl rfl) ?_
      simp
    · refine callW_of (whole_c hC q hq) (.inl rfl) ?_
      simp
  · have hv := hup rfl
    by_cases h : 0 < r0
    · have hi : (0 : Int) < r0 := by omega
      rw [if_pos h] at hv
      subst hv
      have h4 : ¬ ((q0 : Int) + 1 = 0) := by omega
      simp [hi, h3, h4, h]
      refine callW_of (whole_c hC (q0 + 1) hq) (.inl rfl) ?_
      simp
    · have hi : ¬ (0 : Int) < r0 := by omega
      rw [if_neg h] at hv
      subst hv
      simp [hi, h]
      refine callW_of (whole_c hC q hq) (.inl rfl) ?_
      simp
end Go.Gv

set_option linter.unusedSimpArgs false
namespace Go.Gv
open Go.Lib

variable {C : CC} (hC : Closed prog C)
include hC
theorem wvalid_c (p : Nat) (h : p < 1329227995784915872903807060280344576) : C 106 [wiD p] (.bool true) [] := by
  obtain ⟨ph, hph⟩ : ∃ z, z = p / 1152921504606846976 := ⟨_, rfl⟩
  obtain ⟨pl, hpl⟩ : ∃ z, z = p % 1152921504606846976 := ⟨_, rfl⟩
  rw [wiD, ← hph, ← hpl]
  have h1 : (-1152921504606846976 : Int) ≤ ph := by omega
  have h2 : (ph : Int) < 1152921504606846976 := by omega
  have h3 : (0 : Int) ≤ pl := by omega
  have h4 : (pl : Int) < 1152921504606846976 := by omega
  refine start hC (nf := N106_wide_Valid) rfl rfl ?_
  simp [N106_wide_Valid, h1, h2, h3, h4]
theorem placed_c (p : Nat) (h : p < 1329227995784915872903807060280344576) : C 105 [numD p false] (.tup [wiD p, .int .i64 0]) [] := by
  obtain ⟨ph, hph⟩ : ∃ z, z = p / 1152921504606846976 := ⟨_, rfl⟩
  obtain ⟨pl, hpl⟩ : ∃ z, z = p % 1152921504606846976 := ⟨_, rfl⟩
  obtain ⟨zh, hzh⟩ : ∃ z, z = p / 18446744073709551616 := ⟨_, rfl⟩
  obtain ⟨zl, hzl⟩ : ∃ z, z = p % 18446744073709551616 := ⟨_, rfl⟩
  rw [wiD, numD, ← hph, ← hpl, ← hzh, ← hzl]
  obtain ⟨zt, hzt⟩ : ∃ z, z = zl / 1152921504606846976 := ⟨_, rfl⟩
  have h1 : ¬ (72057594037927936 : Int) < zh := by omega
  have h2 : ¬ (zh : Int) = 72057594037927936 := by omega
  have e1 := shl4 zh (zh * 16) (by omega)
  have e2 := shr60 zl
  rw [← hzt] at e2
  have e3 := or16 zh zt (by omega) (by omega)
  have e4 : IntKind.i64.wrap ((zh * 16 + zt : Nat) : Int) = (ph : Int) := wrap_i64 (by omega) (by omega)
  have e5 := mask60 zl (by omega)
  have e6 : IntKind.i64.wrap ((zl % 1152921504606846976 : Nat) : Int) = (pl : Int) := wrap_i64 (by omega) (by omega)
  refine start hC (nf := N105_wide_placed) rfl rfl ?_
  simp [N105_wide_placed, h1, h2, e2, -Int.natCast_mul, -Int.natCast_emod]
  refine ⟨indW_of (by decide +kernel), ?_⟩
  rw [e1, e3, e4, e5, e6]
  simp
theorem value_c (p : Nat) (h : p < 1329227995784915872903807060280344576) : C 108 [wiD p] (numD p false) [] := by
  obtain ⟨ph, hph⟩ : ∃ z, z = p / 1152921504606846976 := ⟨_, rfl⟩
  obtain ⟨pl, hpl⟩ : ∃ z, z = p % 1152921504606846976 := ⟨_, rfl⟩
  obtain ⟨zh, hzh⟩ : ∃ z, z = p / 18446744073709551616 := ⟨_, rfl⟩
  obtain ⟨zl, hzl⟩ : ∃ z, z = p % 18446744073709551616 := ⟨_, rfl⟩
  rw [wiD, numD, ← hph, ← hpl, ← hzh, ← hzl]
  have h1 : (0 : Int) ≤ ph := by omega
  obtain ⟨w, hw⟩ : ∃ z, z = ph % 16 := ⟨_, rfl⟩
  have e1 : Int.fdiv (ph : Int) (2 ^ min 4 IntKind.u64.bits) = (zh : Int) := by rw [shr4]; omega
  have e2 : IntKind.u64.wrap ((ph : Int) * 2 ^ min 60 IntKind.u64.bits) = ((w * 1152921504606846976 : Nat) : Int) := shl60 ph _ (by omega)
  have e3 : IntKind.u64.wrap (pl : Int) = (pl : Int) := wrapN pl (by omega)
  have e4 : bits .or .u64 ((w * 1152921504606846976 : Nat) : Int) (pl : Int) = (zl : Int) := by
    rw [or60 w pl (by omega) (by omega)]; omega
  refine start hC (nf := N108_wide_value) rfl rfl ?_
  simp [N108_wide_value]
  refine callW_of (wsize_c hC ph (by omega)) (.inl rfl) ?_
  simp [h1]
  rw [e1, e2, e3, e4]
  simp
end Go.Gv

set_option linter.unusedSimpArgs false
namespace Go.Gv
theorem numD_ex (p : Nat) : ∃ a b : Int, numD p false = .agg [.int .u64 a, .int .u64 b, .bool false] := ⟨_, _, rfl⟩
theorem wiD_ex (p : Nat) : ∃ a b : Int, wiD p = .agg [.int .i64 a, .int .i64 b] := ⟨_, _, rfl⟩
variable {C : CC} (hC : Closed prog C)
include hC
theorem Product_c (x y : Nat) (hx : x < 9223372036854775808) (hy : y < 9223372036854775808) (h : x * y < 1329227995784915872903807060280344576) : C 99 [.int .i64 x, .int .i64 y] (.tup [wiD (x * y), .int .i64 0]) [] := by
  have k1 := wtimes_c hC x y hx hy
  have k2 := placed_c hC (x * y) h
  obtain ⟨a, b, e1⟩ := numD_ex (x * y)
  obtain ⟨c, d, e2⟩ := wiD_ex (x * y)
  rw [e1] at k1 k2
  rw [e2] at k2 ⊢
  refine start hC (nf := N99_wide_Product) rfl rfl ?_
  simp [N99_wide_Product]
  refine callW_of k1 (.inl rfl) ?_
  simp
  refine callW_of k2 (.inr rfl) ?_
  simp
theorem Int_c (p : Nat) (h : p < 9223372036854775808) : C 101 [wiD p] (.tup [.int .i64 p, .int .i64 0]) [] := by
  have k1 := wvalid_c hC p (by omega)
  have k2 := value_c hC p (by omega)
  have e1 : numD p false = .agg [.int .u64 0, .int .u64 p, .bool false] := by
    rw [numD, show p / 18446744073709551616 = 0 by omega, show p % 18446744073709551616 = p by omega]; rfl
  obtain ⟨c, d, e2⟩ := wiD_ex p
  rw [e1] at k2
  rw [e2] at k1 k2 ⊢
  refine start hC (nf := N101_wide_Int) rfl rfl ?_
  simp [N101_wide_Int]
  refine callW_of k1 (.inl rfl) ?_
  simp
  refine callW_of k2 (.inl rfl) ?_
  simp
  refine callW_of (whole_c hC p h) (.inl rfl) ?_
  simp
end Go.Gv

namespace Go.Gv
section
variable {C : CC} {hs : Option (List Nat)} {K : Env → Prop} {ns : List NOper} {dst : Option Nat} {u : Tag (hs, K, ns)} {e : Env} {R : List Nat} {acc : List (List Nat × List Nat)}
theorem idxW_some {sz : Nat} {es : List (List D)} {i : Nat} {c : List D} (h : es[i]? = some c) : idxW C hs K ns dst u e R acc sz es i = (c.length = sz ∧ dW C hs K ns dst ⟨⟩ e R acc (.ptr c)) := by
  apply propext
  unfold idxW dW
  rw [h]
  exact ⟨fun ⟨_, h1, h2⟩ => by cases h1; exact h2, fun h2 => ⟨c, rfl, h2⟩⟩
theorem rowW_some {n : Nat} {ag : Bool} {p : Pa} {es : List (List D)} {i off : Nat} {r : List D} (hr : es[i]? = some r) : rowW C hs K ns dst u e R acc n ag p es i off = (off + n ≤ r.length ∧ match ag with
        | true => (((r.drop off).take n).all isV = true → dW C hs K ns dst ⟨⟩ e R acc (.agg ((r.drop off).take n))) ∧
            (((r.drop off).take n).all isV = false → dW C hs K ns dst ⟨⟩ e R acc (.agx (((r.drop off).take n).mapIdx fun j c => ldc p i (off + j) c)))
        | false => dW C hs K ns dst ⟨⟩ e R acc (ldc p i off ((r.drop off).headD .any))) := by
  apply propext
  constructor
  · rintro ⟨r', h, h1, h2⟩
    rw [hr] at h
    cases h
    refine ⟨h1, ?_⟩
    cases ag <;> exact h2
  · rintro ⟨h1, h2⟩
    refine rowW_of hr h1 ?_
    cases ag <;> exact h2
@[simp] theorem idxW_at0 {sz : Nat} {c0 : List D} {es : List (List D)} : idxW C hs K ns dst u e R acc sz (c0 :: es) 0 = (c0.length = sz ∧ dW C hs K ns dst ⟨⟩ e R acc (.ptr c0)) := idxW_some rfl
theorem rowW_at0 {n : Nat} {ag : Bool} {p : Pa} {off : Nat} {c0 : List D} {es : List (List D)} : rowW C hs K ns dst u e R acc n ag p (c0 :: es) 0 off = (off + n ≤ c0.length ∧ match ag with
        | true => (((c0.drop off).take n).all isV = true → dW C hs K ns dst ⟨⟩ e R acc (.agg ((c0.drop off).take n))) ∧
            (((c0.drop off).take n).all isV = false → dW C hs K ns dst ⟨⟩ e R acc (.agx (((c0.drop off).take n).mapIdx fun j c => ldc p 0 (off + j) c)))
        | false => dW C hs K ns dst ⟨⟩ e R acc (ldc p 0 off ((c0.drop off).headD .any))) := rowW_some rfl
@[simp] theorem idxW_at1 {sz : Nat} {c0 c1 : List D} {es : List (List D)} : idxW C hs K ns dst u e R acc sz (c0 :: c1 :: es) 1 = (c1.length = sz ∧ dW C hs K ns dst ⟨⟩ e R acc (.ptr c1)) := idxW_some rfl
theorem rowW_at1 {n : Nat} {ag : Bool} {p : Pa} {off : Nat} {c0 c1 : List D} {es : List (List D)} : rowW C hs K ns dst u e R acc n ag p (c0 :: c1 :: es) 1 off = (off + n ≤ c1.length ∧ match ag with
        | true => (((c1.drop off).take n).all isV = true → dW C hs K ns dst ⟨⟩ e R acc (.agg ((c1.drop off).take n))) ∧
            (((c1.drop off).take n).all isV = false → dW C hs K ns dst ⟨⟩ e R acc (.agx (((c1.drop off).take n).mapIdx fun j c => ldc p 1 (off + j) c)))
        | false => dW C hs K ns dst ⟨⟩ e R acc (ldc p 1 off ((c1.drop off).headD .any))) := rowW_some rfl
@[simp] theorem idxW_at2 {sz : Nat} {c0 c1 c2 : List D} {es : List (List D)} : idxW C hs K ns dst u e R acc sz (c0 :: c1 :: c2 :: es) 2 = (c2.length = sz ∧ dW C hs K ns dst ⟨⟩ e R acc (.ptr c2)) := idxW_some rfl
theorem rowW_at2 {n : Nat} {ag : Bool} {p : Pa} {off : Nat} {c0 c1 c2 : List D} {es : List (List D)} : rowW C hs K ns dst u e R acc n ag p (c0 :: c1 :: c2 :: es) 2 off = (off + n ≤ c2.length ∧ match ag with
        | true => (((c2.drop off).take n).all isV = true → dW C hs K ns dst ⟨⟩ e R acc (.agg ((c2.drop off).take n))) ∧
            (((c2.drop off).take n).all isV = false → dW C hs K ns dst ⟨⟩ e R acc (.agx (((c2.drop off).take n).mapIdx fun j c => ldc p 2 (off + j) c)))
        | false => dW C hs K ns dst ⟨⟩ e R acc (ldc p 2 off ((c2.drop off).headD .any))) := rowW_some rfl
@[simp] theorem idxW_at3 {sz : Nat} {c0 c1 c2 c3 : List D} {es : List (List D)} : idxW C hs K ns dst u e R acc sz (c0 :: c1 :: c2 :: c3 :: es) 3 = (c3.length = sz ∧ dW C hs K ns dst ⟨⟩ e R acc (.ptr c3)) := idxW_some rfl
theorem rowW_at3 {n : Nat} {ag : Bool} {p : Pa} {off : Nat} {c0 c1 c2 c3 : List D} {es : List (List D)} : rowW C hs K ns dst u e R acc n ag p (c0 :: c1 :: c2 :: c3 :: es) 3 off = (off + n ≤ c3.length ∧ match ag with
        | true => (((c3.drop off).take n).all isV = true → dW C hs K ns dst ⟨⟩ e R acc (.agg ((c3.drop off).take n))) ∧
            (((c3.drop off).take n).all isV = false → dW C hs K ns dst ⟨⟩ e R acc (.agx (((c3.drop off).take n).mapIdx fun j c => ldc p 3 (off + j) c)))
        | false => dW C hs K ns dst ⟨⟩ e R acc (ldc p 3 off ((c3.drop off).headD .any))) := rowW_some rfl
@[simp] theorem idxW_at4 {sz : Nat} {c0 c1 c2 c3 c4 : List D} {es : List (List D)} : idxW C hs K ns dst u e R acc sz (c0 :: c1 :: c2 :: c3 :: c4 :: es) 4 = (c4.length = sz ∧ dW C hs K ns dst ⟨⟩ e R acc (.ptr c4)) := idxW_some rfl
theorem rowW_at4 {n : Nat} {ag : Bool} {p : Pa} {off : Nat} {c0 c1 c2 c3 c4 : List D} {es : List (List D)} : rowW C hs K ns dst u e R acc n ag p (c0 :: c1 :: c2 :: c3 :: c4 :: es) 4 off = (off + n ≤ c4.length ∧ match ag with
        | true => (((c4.drop off).take n).all isV = true → dW C hs K ns dst ⟨⟩ e R acc (.agg ((c4.drop off).take n))) ∧
            (((c4.drop off).take n).all isV = false → dW C hs K ns dst ⟨⟩ e R acc (.agx (((c4.drop off).take n).mapIdx fun j c => ldc p 4 (off + j) c)))
        | false => dW C hs K ns dst ⟨⟩ e R acc (ldc p 4 off ((c4.drop off).headD .any))) := rowW_some rfl
attribute [simp] rowW_at0 rowW_at1 rowW_at2 rowW_at3 rowW_at4
end
end Go.Gv

set_option linter.unusedSimpArgs false
namespace Go.Gv
def cmp3 (x y : Int) : Int := if x < y then -1 else if y < x then 1 else 0
variable {C : CC} (hC : Closed prog C)
include hC
end Go.Gv

set_option linter.unusedSimpArgs false
namespace Go.Gv
open Go.Lib
variable {C : CC} (hC : Closed prog C)
include hC
def nmD (x : Nat) : D := .agg [.int .u64 ((x / 18446744073709551616 : Nat) : Int), .int .u64 ((x % 18446744073709551616 : Nat) : Int), .bool false]
end Go.Gv

set_option linter.unusedSimpArgs false
namespace Go.Gv
open Go.Lib
/-- A wide integer. -/
def wiS (v : Int) : D := .agg [.int .i64 (v / 1152921504606846976), .int .i64 (v % 1152921504606846976)]
theorem wiS_nat (p : Nat) : wiS p = wiD p := by simp [wiS, wiD]
variable {C : CC} (hC : Closed prog C)
include hC
theorem wsizeN_c (n : Nat) (h0 : 0 < n) (h : n < 9223372036854775808) : C 112 [.int .i64 (-(n : Int))] (.int .u64 (n : Int)) [] := by
  have e1 : IntKind.u64.wrap (-(n : Int)) = ((18446744073709551616 - n : Nat) : Int) := uw (by omega) (by omega)
  have e2 : IntKind.u64.wrap (-((18446744073709551616 - n : Nat) : Int)) = (n : Int) := uw (by omega) (by omega)
  have h1 : (-(n : Int)) < 0 := by omega
  refine start hC (nf := N112_wide_size) rfl rfl ?_
  obtain ⟨z, hz⟩ : ∃ z, z = -(n : Int) := ⟨_, rfl⟩
  obtain ⟨y, hy⟩ : ∃ y, y = ((18446744073709551616 - n : Nat) : Int) := ⟨_, rfl⟩
  rw [← hz] at e1 h1 ⊢
  rw [← hy] at e1 e2
  simp [N112_wide_size, h1, e1, e2]
theorem placedN_c (p : Nat) (h0 : 0 < p) (h : p < 1329227995784915872903807060280344576) : C 105 [numD p true] (.tup [wiS (-(p : Int)), .int .i64 0]) [] := by
  obtain ⟨ph, hph⟩ : ∃ z, z = p / 1152921504606846976 := ⟨_, rfl⟩
  obtain ⟨pl, hpl⟩ : ∃ z, z = p % 1152921504606846976 := ⟨_, rfl⟩
  obtain ⟨zh, hzh⟩ : ∃ z, z = p / 18446744073709551616 := ⟨_, rfl⟩
  obtain ⟨zl, hzl⟩ : ∃ z, z = p % 18446744073709551616 := ⟨_, rfl⟩
  obtain ⟨qh, hqh⟩ : ∃ z, z = (-(p : Int)) / 1152921504606846976 := ⟨_, rfl⟩
  obtain ⟨ql, hql⟩ : ∃ z, z = (-(p : Int)) % 1152921504606846976 := ⟨_, rfl⟩
  rw [wiS, numD, ← hzh, ← hzl, ← hqh, ← hql]
  obtain ⟨zt, hzt⟩ : ∃ z, z = zl / 1152921504606846976 := ⟨_, rfl⟩
  have h1 : ¬ (72057594037927936 : Int) < zh := by omega
  have h2 : ¬ (zh : Int) = 72057594037927936 := by omega
  have e1 := shl4 zh (zh * 16) (by omega)
  have e2 := shr60 zl
  rw [← hzt] at e2
  have e3 := or16 zh zt (by omega) (by omega)
  have e4 : IntKind.i64.wrap ((zh * 16 + zt : Nat) : Int) = (ph : Int) := wrap_i64 (by omega) (by omega)
  have e5 := mask60 zl (by omega)
  have e6 : IntKind.i64.wrap ((zl % 1152921504606846976 : Nat) : Int) = (pl : Int) := wrap_i64 (by omega) (by omega)
  have e7 : IntKind.i64.wrap (-(ph : Int)) = -(ph : Int) := wrap_i64 rfl (by omega)
  have e8 : IntKind.i64.wrap (-(ph : Int) - 1) = -(ph : Int) - 1 := wrap_i64 rfl (by omega)
  have e9 : IntKind.i64.wrap (1152921504606846976 - (pl : Int)) = 1152921504606846976 - (pl : Int) := wrap_i64 rfl (by omega)
  refine start hC (nf := N105_wide_placed) rfl rfl ?_
  simp [N105_wide_placed, h1, h2, e2, -Int.natCast_mul, -Int.natCast_emod]
  refine ⟨indW_of (by decide +kernel), ?_⟩
  rw [e1, e3, e4, e5, e6]
  simp
  refine brB_of (fun c1 => ?_) (fun c1 => ?_) <;> simp at c1
  · simp [c1, e7]
    omega
  · simp [c1, e7, e8, e9]
    omega
theorem wvalidS_c (v : Int) (h : -1329227995784915872903807060280344576 ≤ v ∧ v < 1329227995784915872903807060280344576) : C 106 [wiS v] (.bool true) [] := by
  obtain ⟨ph, hph⟩ : ∃ z, z = v / 1152921504606846976 := ⟨_, rfl⟩
  obtain ⟨pl, hpl⟩ : ∃ z, z = v % 1152921504606846976 := ⟨_, rfl⟩
  rw [wiS, ← hph, ← hpl]
  have h1 : (-1152921504606846976 : Int) ≤ ph := by omega
  have h2 : ph < 1152921504606846976 := by omega
  have h3 : 0 ≤ pl := by omega
  have h4 : pl < 1152921504606846976 := by omega
  refine start hC (nf := N106_wide_Valid) rfl rfl ?_
  simp [N106_wide_Valid, h1, h2, h3, h4]
end Go.Gv

set_option linter.unusedSimpArgs false
namespace Go.Gv
open Go.Lib

variable {C : CC} (hC : Closed prog C)
include hC
end Go.Gv

set_option linter.unusedSimpArgs false
namespace Go.Gv

/-- A quotient, bit by bit: a is what is left of x, shifted. -/
def DvS (x b i a q r : Nat) : Prop := i ≤ 128 ∧ r < b ∧ ∃ c, a = c * 2 ^ i ∧ c < 2 ^ (128 - i) ∧ (q * b + r) * 2 ^ (128 - i) + c = x
theorem DvS.step {x b i a q r : Nat} (h : DvS x b i a q r) (hi : i < 128) (hb : 0 < b) :
    a < 340282366920938463463374607431768211456 ∧ 2 * q ≤ x ∧
    ∀ w r' a', 2 * r + a / 170141183460469231731687303715884105728 = w * b + r' → r' < b → a' = 2 * a % 340282366920938463463374607431768211456 → DvS x b (i + 1) a' (2 * q + w) r' ∧ 2 * q + w ≤ x := by
  obtain ⟨_, hr, c, h1, h2, h3⟩ := h
  obtain ⟨m, hm⟩ : ∃ m, m + 1 = 128 - i := ⟨127 - i, by omega⟩
  have hm2 : m = 128 - (i + 1) := by omega
  rw [← hm, Nat.pow_succ] at h2 h3
  obtain ⟨V, hV⟩ : ∃ V, V = 2 ^ m := ⟨_, rfl⟩
  obtain ⟨W, hW⟩ : ∃ W, W = 2 ^ i := ⟨_, rfl⟩
  have hVW : V * W = 170141183460469231731687303715884105728 := by
    rw [hV, hW, ← Nat.pow_add, show m + i = 127 by omega]
  have hVp : 0 < V := by rw [hV]; exact Nat.two_pow_pos m
  rw [← hV] at h2 h3
  rw [← hW] at h1
  obtain ⟨t, ht⟩ : ∃ t, t = c / V := ⟨_, rfl⟩
  obtain ⟨d, hd⟩ : ∃ d, d = c % V := ⟨_, rfl⟩
  have hc : c = t * V + d := by rw [ht, hd, Nat.mul_comm]; exact (Nat.div_add_mod c V).symm
  have hdV : d < V := by rw [hd]; exact Nat.mod_lt _ hVp
  have ht1 : t ≤ 1 := by
    have : t < 2 := by rw [ht, Nat.div_lt_iff_lt_mul hVp]; omega
    omega
  have ha : a = t * 170141183460469231731687303715884105728 + d * W := by
    rw [h1, hc, Nat.add_mul, Nat.mul_assoc, hVW]
  have hdW : d * W < 170141183460469231731687303715884105728 := by
    have : (d + 1) * W ≤ V * W := Nat.mul_le_mul_right _ hdV
    rw [hVW, Nat.add_mul] at this
    have hWp : 0 < W := by rw [hW]; exact Nat.two_pow_pos i
    omega
  have hbit : a / 170141183460469231731687303715884105728 = t := by
    rw [ha]; generalize d * W = z at *; omega
  have fin : ∀ w r', 2 * r + t = w * b + r' → ((2 * q + w) * b + r') * V + d = x := fun w r' e => by
    have e1 : (2 * q + w) * b + r' = 2 * (q * b + r) + t := by
      rw [Nat.add_mul, Nat.mul_assoc]
      generalize q * b = z at *
      generalize w * b = z' at *
      omega
    rw [e1, ← h3, hc, Nat.add_mul, Nat.mul_comm V 2, ← Nat.mul_assoc, Nat.mul_comm (q * b + r) 2]
    omega
  have big : ∀ w r', 2 * r + t = w * b + r' → 2 * q + w ≤ x := fun w r' e => by
    have e1 := fin w r' e
    have e2 : 2 * q + w ≤ (2 * q + w) * b := Nat.le_mul_of_pos_right _ hb
    have e3 : (2 * q + w) * b + r' ≤ ((2 * q + w) * b + r') * V := Nat.le_mul_of_pos_right _ hVp
    omega
  refine ⟨?_, ?_, ?_⟩
  · rw [ha]; generalize d * W = z at *; omega
  · exact Nat.le_trans (Nat.le_add_right _ _) (big _ _ (Nat.div_add_mod' (2 * r + t) b).symm)
  · intro w r' a' e hr' ha'
    rw [hbit] at e
    refine ⟨⟨by omega, hr', d, ?_, ?_, ?_⟩, big w r' e⟩
    · rw [ha', ha, Nat.pow_succ, ← hW, Nat.mul_comm W 2, Nat.mul_left_comm]
      generalize d * W = z at *
      omega
    · rw [← hm2, ← hV]; exact hdV
    · rw [← hm2, ← hV]; exact fin w r' e
theorem DvS.last {x b a q r : Nat} (h : DvS x b 128 a q r) : q = x / b ∧ r = x % b := by
  obtain ⟨_, hr, c, h1, h2, h3⟩ := h
  simp at h2 h3
  subst h2
  simp at h3
  subst h3
  have hb : 0 < b := by omega
  rw [Nat.mul_comm, Nat.mul_add_div hb, Nat.div_eq_of_lt hr, Nat.mul_add_mod, Nat.mod_eq_of_lt hr]
  exact ⟨rfl, rfl⟩

variable {C : CC} (hC : Closed prog C)
include hC
end Go.Gv

set_option linter.unusedSimpArgs false
namespace Go.Gv
variable {C : CC} (hC : Closed prog C)
include hC
end Go.Gv

set_option linter.unusedSimpArgs false
namespace Go.Gv
open Go.Lib
/-- An integer, as the reference has it. -/
def numS (v : Int) : D := numD v.natAbs (decide (v < 0))
theorem numS_at {v : Int} {p : Nat} {b : Bool} (h1 : v.natAbs = p) (h2 : decide (v < 0) = b) : numS v = numD p b := by rw [numS, h1, h2]
theorem numD_wide (p : Nat) (b : Bool) : ∃ x y : Nat, x = p / 18446744073709551616 ∧ y = p % 18446744073709551616 ∧ numD p b = .agg [.int .u64 x, .int .u64 y, .bool b] := ⟨_, _, rfl, rfl, rfl⟩
theorem iw {n m : Int} (h : n = m ∨ n = m + 18446744073709551616) (h2 : -9223372036854775808 ≤ m ∧ m < 9223372036854775808) : IntKind.i64.wrap n = m := by
  have e1 : IntKind.i64.signed = true := rfl
  have e2 : (2 ^ (IntKind.i64.bits - 1) : Int) = 9223372036854775808 := rfl
  have e3 : (2 ^ IntKind.i64.bits : Int) = 18446744073709551616 := rfl
  unfold IntKind.wrap
  simp only [e1, e2, e3, Bool.true_and, decide_eq_true_eq]
  split <;> omega
variable {C : CC} (hC : Closed prog C)
include hC
end Go.Gv

set_option linter.unusedSimpArgs false
namespace Go.Gv
open Go.Lib
theorem neg_div_nat (n b : Nat) (hb : 0 < b) : (-(n : Int)) / (b : Int) = -((if n % b = 0 then n / b else n / b + 1 : Nat) : Int) := by
  have h1 := Nat.div_add_mod n b
  have h2 := Nat.mod_lt n hb
  obtain ⟨q, hq⟩ : ∃ q, q = n / b := ⟨_, rfl⟩
  obtain ⟨r, hr⟩ : ∃ r, r = n % b := ⟨_, rfl⟩
  rw [← hq, ← hr] at h1
  rw [← hr] at h2
  rw [← hq, ← hr]
  clear hq hr
  subst h1
  split
  · rename_i h
    subst h
    rw [Nat.add_zero, Int.natCast_mul, ← Int.mul_neg]
    exact Int.mul_ediv_cancel_left _ (by omega)
  · rename_i h
    have e : -((b * q + r : Nat) : Int) = ((b : Int) - r) + b * (-((q + 1 : Nat) : Int)) := by
      rw [Int.natCast_add, Int.natCast_mul, Int.natCast_add, Int.mul_neg, Int.mul_add]
      omega
    rw [e, Int.add_mul_ediv_left _ _ (by omega), Int.ediv_eq_zero_of_lt (by omega) (by omega)]
    omega
variable {C : CC} (hC : Closed prog C)
include hC
end Go.Gv

set_option linter.unusedSimpArgs false
namespace Go.Gv
variable {C : CC} (hC : Closed prog C)
include hC
theorem wtimesN_c (x y : Nat) (hx0 : 0 < x) (hx : x < 9223372036854775808) (hy : y < 9223372036854775808) : C 103 [.int .i64 (-(x : Int)), .int .i64 y] (numD (x * y) (decide (x * y ≠ 0))) [] := by
  have h0 : (-(x : Int)) < 0 := by omega
  have h1 : ¬ (y : Int) < 0 := by omega
  have hm := Mul64_c hC x y (by omega) (by omega)
  have k1 := wsizeN_c hC x hx0 hx
  have k2 := wsize_c hC y hy
  rw [numD]
  obtain ⟨Z, hZ⟩ : ∃ Z, Z = x * y := ⟨_, rfl⟩
  rw [← hZ] at hm ⊢
  obtain ⟨zh, hzh⟩ : ∃ zh, zh = Z / 18446744073709551616 := ⟨_, rfl⟩
  obtain ⟨zl, hzl⟩ : ∃ zl, zl = Z % 18446744073709551616 := ⟨_, rfl⟩
  have k3 := signed_c hC zh zl true
  rw [show (true && (!decide ((zh : Int) = 0) || !decide ((zl : Int) = 0))) = decide (Z ≠ 0) by
    rw [Bool.eq_iff_iff]; simp; omega] at k3
  rw [← hzh, ← hzl] at hm ⊢
  obtain ⟨z, hz⟩ : ∃ z, z = -(x : Int) := ⟨_, rfl⟩
  rw [← hz] at k1 h0 ⊢
  obtain ⟨b, hb⟩ : ∃ b, b = decide (Z ≠ 0) := ⟨_, rfl⟩
  rw [← hb] at k3 ⊢
  refine start hC (nf := N103_wide_times) rfl rfl ?_
  simp [N103_wide_times]
  refine callW_of k1 (.inl rfl) ?_
  simp
  refine callW_of k2 (.inl rfl) ?_
  simp
  refine callW_of hm (.inl rfl) ?_
  simp [h0, h1]
  refine callW_of k3 (.inl rfl) ?_
  simp
theorem ProductS_c (x : Int) (y : Nat) (hx : -9223372036854775808 < x ∧ x < 9223372036854775808) (hy : y < 9223372036854775808) (h : x.natAbs * y < 1329227995784915872903807060280344576) : C 99 [.int .i64 x, .int .i64 y] (.tup [wiS (x * y), .int .i64 0]) [] := by
  by_cases h0 : x < 0
  · obtain ⟨n, rfl⟩ : ∃ n : Nat, x = -(n : Int) := ⟨x.natAbs, by omega⟩
    rw [Int.natAbs_neg, Int.natAbs_natCast] at h
    have k1 := wtimesN_c hC n y (by omega) (by omega) hy
    have e : -(n : Int) * (y : Int) = -((n * y : Nat) : Int) := by rw [Int.neg_mul, Int.natCast_mul]
    rw [e]
    obtain ⟨Z, hZ⟩ : ∃ Z, Z = n * y := ⟨_, rfl⟩
    rw [← hZ] at k1 h ⊢
    have k2 : C 105 [numD Z (decide (Z ≠ 0))] (.tup [wiS (-(Z : Int)), .int .i64 0]) [] := by
      by_cases z0 : Z = 0
      · subst z0
        have := placed_c hC 0 (by omega)
        rw [← wiS_nat] at this
        simpa using this
      · rw [decide_eq_true z0]
        exact placedN_c hC Z (by omega) h
    obtain ⟨c1, c2, e3⟩ : ∃ a b : Int, wiS (-(Z : Int)) = .agg [.int .i64 a, .int .i64 b] := ⟨_, _, rfl⟩
    obtain ⟨i1, i2, i3, e7⟩ : ∃ a b c, numD Z (decide (Z ≠ 0)) = .agg [.int .u64 a, .int .u64 b, .bool c] := ⟨_, _, _, rfl⟩
    rw [e7] at k1 k2
    rw [e3] at k2 ⊢
    obtain ⟨z, hz⟩ : ∃ z, z = -(n : Int) := ⟨_, rfl⟩
    rw [← hz] at k1 ⊢
    refine start hC (nf := N99_wide_Product) rfl rfl ?_
    simp [N99_wide_Product]
    refine callW_of k1 (.inl rfl) ?_
    simp
    refine callW_of k2 (.inr rfl) ?_
    simp
  · obtain ⟨n, rfl⟩ : ∃ n : Nat, x = (n : Int) := ⟨x.natAbs, by omega⟩
    rw [Int.natAbs_natCast] at h
    have k := Product_c hC n y (by omega) hy h
    rw [← wiS_nat] at k
    simpa using k
end Go.Gv

set_option linter.unusedSimpArgs false
namespace Go.Gv
open Go.Lib
theorem wiS_parts (v : Int) : ∃ h l : Int, h = v / 1152921504606846976 ∧ l = v % 1152921504606846976 ∧ wiS v = .agg [.int .i64 h, .int .i64 l] := ⟨_, _, rfl, rfl, rfl⟩
variable {C : CC} (hC : Closed prog C)
include hC
theorem placedS_c (v : Int) (h : -1329227995784915872903807060280344576 < v ∧ v < 1329227995784915872903807060280344576) : C 105 [numS v] (.tup [wiS v, .int .i64 0]) [] := by
  by_cases v0 : v < 0
  · have k := placedN_c hC v.natAbs (by omega) (by omega)
    rw [show -((v.natAbs : Nat) : Int) = v by omega] at k
    rw [numS, decide_eq_true v0]
    exact k
  · have k := placed_c hC v.natAbs (by omega)
    rw [← wiS_nat, show ((v.natAbs : Nat) : Int) = v by omega] at k
    rw [numS, decide_eq_false v0]
    exact k
set_option maxHeartbeats 2000000 in
theorem valueS_c (v : Int) (h : -1329227995784915872903807060280344576 ≤ v ∧ v < 1329227995784915872903807060280344576) : C 108 [wiS v] (numS v) [] := by
  by_cases v0 : v < 0
  · obtain ⟨ph, pl, hph, hpl, e0⟩ := wiS_parts v
    obtain ⟨n, hn⟩ : ∃ n : Nat, n = ph.natAbs := ⟨_, rfl⟩
    obtain ⟨l, hl⟩ : ∃ l : Nat, l = pl.natAbs := ⟨_, rfl⟩
    obtain ⟨p, hp⟩ : ∃ p, p = v.natAbs := ⟨_, rfl⟩
    obtain ⟨zh, zl, hzh, hzl, e1⟩ := numD_wide p true
    have epl : pl = (l : Int) := by omega
    have eph : ph = -(n : Int) := by omega
    have k1 := wsizeN_c hC n (by omega) (by omega)
    rw [numS_at hp.symm (decide_eq_true v0), e0, e1, epl, eph]
    have h1 : ¬ (0 : Int) ≤ -(n : Int) := by omega
    obtain ⟨w, hw⟩ : ∃ z, z = n % 16 := ⟨_, rfl⟩
    obtain ⟨t, ht⟩ : ∃ z, z = n / 16 := ⟨_, rfl⟩
    have s1 : Int.fdiv (n : Int) (2 ^ min 4 IntKind.u64.bits) = (t : Int) := by rw [shr4, ht]
    have s2 : IntKind.u64.wrap ((n : Int) * 2 ^ min 60 IntKind.u64.bits) = ((w * 1152921504606846976 : Nat) : Int) := shl60 n _ (by omega)
    have s3 : IntKind.u64.wrap (l : Int) = (l : Int) := wrapN l (by omega)
    have c1 : (l : Int) < 18446744073709551616 := by omega
    have c2 : ((w * 1152921504606846976 : Nat) : Int) < 18446744073709551616 := by omega
    have s4 : (((w * 1152921504606846976 : Nat) : Int) - (l : Int)) % 18446744073709551616 = (zl : Int) := by omega
    have s5 : IntKind.u64.wrap ((t : Int) - (if w * 1152921504606846976 < l then 1 else 0)) = (zh : Int) := by
      split <;> exact uw (by omega) (by omega)
    obtain ⟨W, hW⟩ : ∃ W, W = w * 1152921504606846976 := ⟨_, rfl⟩
    rw [← hW] at s2 s4 s5 c2
    obtain ⟨z, hz⟩ : ∃ z, z = -(n : Int) := ⟨_, rfl⟩
    rw [← hz] at k1 h1 ⊢
    have c3 : (0 : Int) ≤ W := by omega
    have c4 : (0 : Int) ≤ l := by omega
    refine start hC (nf := N108_wide_value) rfl rfl ?_
    simp [N108_wide_value]
    refine callW_of k1 (.inl rfl) ?_
    simp [h1]
    rw [s1, s2, s3]
    simp [c1, c2, s4, s5]
  · have k := value_c hC v.natAbs (by omega)
    rw [← wiS_nat, show ((v.natAbs : Nat) : Int) = v by omega] at k
    rw [numS, decide_eq_false v0]
    exact k
set_option maxRecDepth 20000 in
set_option maxHeartbeats 4000000 in
theorem sumS_c (x y : Int) (hx : x.natAbs < 170141183460469231731687303715884105728) (hy : y.natAbs < 170141183460469231731687303715884105728) : C 107 [numS x, numS y] (numS (x + y)) [] := by
  obtain ⟨p, hp⟩ : ∃ p, p = x.natAbs := ⟨_, rfl⟩
  obtain ⟨r, hr⟩ : ∃ r, r = y.natAbs := ⟨_, rfl⟩
  obtain ⟨s, hs⟩ : ∃ s, s = decide (x < 0) := ⟨_, rfl⟩
  obtain ⟨t, ht⟩ : ∃ t, t = decide (y < 0) := ⟨_, rfl⟩
  rw [numS_at hp.symm hs.symm, numS_at hr.symm ht.symm]
  obtain ⟨ph, pl, hph, hpl, ep⟩ := numD_wide p s
  obtain ⟨rh, rl, hrh, hrl, er⟩ := numD_wide r t
  rw [ep, er]
  have k0 : (0 : Int) ≤ pl := by omega
  have k1 : (0 : Int) ≤ rl := by omega
  have k3 : (pl : Int) < 18446744073709551616 := by omega
  have k4 : (rl : Int) < 18446744073709551616 := by omega
  by_cases c : s = t
  · have e : numS (x + y) = numD (p + r) (s && !decide (p + r = 0)) := numS_at (by
      subst c
      rw [hs, decide_eq_decide] at ht
      omega) (by
      subst c
      rw [hs] at ht ⊢
      rw [decide_eq_decide] at ht
      rw [Bool.eq_iff_iff]
      simp
      omega)
    obtain ⟨dh, dl, hdh, hdl, ed⟩ := numD_wide (p + r) (s && !decide (p + r = 0))
    rw [e, ed]
    have kk := signed_c hC dh dl s
    rw [show (s && (!decide ((dh : Int) = 0) || !decide ((dl : Int) = 0))) = (s && !decide (p + r = 0)) by
      congr 1; rw [Bool.eq_iff_iff]; simp; omega] at kk
    obtain ⟨w, hw⟩ : ∃ w, w = (s && !decide (p + r = 0)) := ⟨_, rfl⟩
    rw [← hw] at kk ⊢
    subst c
    clear hs ht hw e ed
    have e1 : ((pl : Int) + rl) % 18446744073709551616 = (dl : Int) := by omega
    have e2 : IntKind.u64.wrap ((ph : Int) + rh) = (ph : Int) + rh := uw (m := ph + rh) (by omega) (by omega)
    have e3 : IntKind.u64.wrap ((ph : Int) + rh + ((pl : Int) + rl) / 18446744073709551616) = (dh : Int) := uw (by omega) (by omega)
    obtain ⟨g, hg⟩ : ∃ g, g = ((pl : Int) + rl) / 18446744073709551616 := ⟨_, rfl⟩
    rw [← hg] at e3
    refine start hC (nf := N107_wide_sum) rfl rfl ?_
    simp [N107_wide_sum, k0, k1, k3, k4, e1, e2, e3, ← hg]
    refine callW_of kk (.inl rfl) ?_
    simp
  · have c3 : (s == t) = false := by simpa using c
    rw [hs, ht, decide_eq_decide] at c
    by_cases l : p < r
    · have e : numS (x + y) = numD (r - p) (t && !decide (r - p = 0)) := numS_at (by
        omega) (by
        rw [Bool.eq_iff_iff, ht]
        simp
        omega)
      obtain ⟨dh, dl, hdh, hdl, ed⟩ := numD_wide (r - p) (t && !decide (r - p = 0))
      rw [e, ed]
      have kk := signed_c hC dh dl t
      rw [show (t && (!decide ((dh : Int) = 0) || !decide ((dl : Int) = 0))) = (t && !decide (r - p = 0)) by
        congr 1; rw [Bool.eq_iff_iff]; simp; omega] at kk
      obtain ⟨w, hw⟩ : ∃ w, w = (t && !decide (r - p = 0)) := ⟨_, rfl⟩
      rw [← hw] at kk ⊢
      have e1 : ((rl : Int) - pl) % 18446744073709551616 = (dl : Int) := by omega
      have e2 : IntKind.u64.wrap ((rh : Int) - ph) = ((rh - ph : Nat) : Int) := uw (by omega) (by omega)
      have e3 : IntKind.u64.wrap (((rh - ph : Nat) : Int) - (if rl < pl then 1 else 0)) = (dh : Int) := by
        split <;> exact uw (by omega) (by omega)
      have c5 : ph < rh ∨ (ph = rh ∧ pl < rl) := by omega
      clear hs ht hw e ed c
      refine start hC (nf := N107_wide_sum) rfl rfl ?_
      simp [N107_wide_sum, c3]
      rcases c5 with c5 | ⟨c5, c6⟩
      · simp [c5, k3, k4, e1, e2]
        rw [e3]
        refine callW_of kk (.inl rfl) ?_
        simp
      · have c7 : ¬ rl < pl := by omega
        have hd : dh = 0 := by omega
        have hz : IntKind.u64.wrap 0 = 0 := wrapN 0 (by omega)
        subst hd
        clear hph hpl hrh hrl hdh hdl k0 k1
        subst c5
        refine brB_of (fun c4 => ?_) (fun c4 => ?_) <;> simp at c4
        simp
        refine brB_of (fun c4 => ?_) (fun c4 => ?_) <;> simp at c4
        · simp [c4, c7, k3, k4, e1, hz]
          refine callW_of kk (.inl rfl) ?_
          simp
        · omega
    · have e : numS (x + y) = numD (p - r) (s && !decide (p - r = 0)) := numS_at (by
        omega) (by
        rw [Bool.eq_iff_iff, hs]
        simp
        omega)
      obtain ⟨dh, dl, hdh, hdl, ed⟩ := numD_wide (p - r) (s && !decide (p - r = 0))
      rw [e, ed]
      have kk := signed_c hC dh dl s
      rw [show (s && (!decide ((dh : Int) = 0) || !decide ((dl : Int) = 0))) = (s && !decide (p - r = 0)) by
        congr 1; rw [Bool.eq_iff_iff]; simp; omega] at kk
      obtain ⟨w, hw⟩ : ∃ w, w = (s && !decide (p - r = 0)) := ⟨_, rfl⟩
      rw [← hw] at kk ⊢
      have e1 : ((pl : Int) - rl) % 18446744073709551616 = (dl : Int) := by omega
      have e2 : IntKind.u64.wrap ((ph : Int) - rh) = ((ph - rh : Nat) : Int) := uw (by omega) (by omega)
      have e3 : IntKind.u64.wrap (((ph - rh : Nat) : Int) - (if pl < rl then 1 else 0)) = (dh : Int) := by
        split <;> exact uw (by omega) (by omega)
      have c5 : ¬ ph < rh := by omega
      have c6 : ph = rh → ¬ pl < rl := by omega
      clear hs ht hw e ed c
      refine start hC (nf := N107_wide_sum) rfl rfl ?_
      simp [N107_wide_sum, c3]
      simp [c5]
      refine brB_of (fun c7 => ?_) (fun c7 => ?_) <;> simp at c7 <;> simp [c7]
      · have c8 : ¬ pl < rl := c6 (by omega)
        have hd : dh = 0 := by omega
        have hz : IntKind.u64.wrap 0 = 0 := wrapN 0 (by omega)
        subst hd
        refine brB_of (fun c4 => ?_) (fun c4 => ?_) <;> simp at c4 <;> simp [c4]
        · omega
        simp [c8, k3, k4, e1, hz]
        refine callW_of kk (.inl rfl) ?_
        simp
      · simp [k3, k4, e1, e2]
        rw [e3]
        refine callW_of kk (.inl rfl) ?_
        simp
theorem AddS_c (x y : Int) (hx : -664613997892457936451903530140172288 ≤ x ∧ x ≤ 664613997892457936451903530140172287) (hy : -664613997892457936451903530140172288 < y ∧ y ≤ 664613997892457936451903530140172287) : C 327 [wiS x, wiS y] (.tup [wiS (x + y), .int .i64 0]) [] := by
  have k1 := wvalidS_c hC x (by omega)
  have k2 := wvalidS_c hC y (by omega)
  have k3 := valueS_c hC x (by omega)
  have k4 := valueS_c hC y (by omega)
  have k5 := sumS_c hC x y (by omega) (by omega)
  have k6 := placedS_c hC (x + y) (by omega)
  obtain ⟨a1, a2, _, _, ea⟩ := wiS_parts x
  obtain ⟨b1, b2, _, _, eb⟩ := wiS_parts y
  obtain ⟨c1, c2, _, _, ec⟩ := wiS_parts (x + y)
  obtain ⟨f1, f2, f3, ef⟩ : ∃ (a1 a2 : Nat) (a3 : Bool), numS x = .agg [.int .u64 a1, .int .u64 a2, .bool a3] := ⟨_, _, _, rfl⟩
  obtain ⟨g1, g2, g3, eg⟩ : ∃ (a1 a2 : Nat) (a3 : Bool), numS y = .agg [.int .u64 a1, .int .u64 a2, .bool a3] := ⟨_, _, _, rfl⟩
  obtain ⟨h1, h2, h3, eh⟩ : ∃ (a1 a2 : Nat) (a3 : Bool), numS (x + y) = .agg [.int .u64 a1, .int .u64 a2, .bool a3] := ⟨_, _, _, rfl⟩
  rw [ea] at k1 k3 ⊢
  rw [eb] at k2 k4 ⊢
  rw [ef] at k3 k5
  rw [eg] at k4 k5
  rw [eh] at k5 k6
  rw [ec] at k6 ⊢
  clear ea eb ec ef eg eh
  refine start hC (nf := N327_wide_Add) rfl rfl ?_
  simp [N327_wide_Add]
  refine callW_of k1 (.inl rfl) ?_
  simp
  refine callW_of k2 (.inl rfl) ?_
  simp
  refine callW_of k3 (.inl rfl) ?_
  simp
  refine callW_of k4 (.inl rfl) ?_
  simp
  refine callW_of k5 (.inl rfl) ?_
  simp
  refine callW_of k6 (.inr rfl) ?_
  simp
  exact indW_of (by decide +kernel)
theorem wholeS_c (n : Nat) (h : n < 9223372036854775808) (b : Bool) : C 110 [.int .u64 n, .bool b] (.tup [.int .i64 (if b then -(n : Int) else n), .int .i64 0]) [] := by
  cases b
  · exact whole_c hC n h
  · by_cases h0 : n = 0
    · subst h0
      refine start hC (nf := N110_wide_whole) rfl rfl ?_
      have hz : IntKind.u64.wrap 0 = 0 := by decide
      have hz2 : IntKind.i64.wrap 0 = 0 := by decide
      simp [N110_wide_whole, hz, hz2]
    · have h1 : (n : Int) ≤ 9223372036854775808 := by omega
      have h2 : IntKind.u64.wrap (-(n : Int)) = ((18446744073709551616 - n : Nat) : Int) := uw (by omega) (by omega)
      have h3 : IntKind.i64.wrap ((18446744073709551616 - n : Nat) : Int) = -(n : Int) := iw (by omega) (by omega)
      obtain ⟨y, hy⟩ : ∃ y, y = ((18446744073709551616 - n : Nat) : Int) := ⟨_, rfl⟩
      rw [← hy] at h2 h3
      refine start hC (nf := N110_wide_whole) rfl rfl ?_
      simp [N110_wide_whole, h1, h2, h3]
/-- The quotient of a negative number. -/
theorem quotientN_c (p d : Nat) (up : Bool) (q : Nat) (hp0 : 0 < p) (hd : d < 9223372036854775808) (hp : p / 18446744073709551616 < d) (hq : q < 9223372036854775808) (hv : q = if up then p / d else if p % d = 0 then p / d else p / d + 1) (hqd : p / d + 1 < 9223372036854775808) : C 104 [numD p true, .int .i64 d, .bool up] (.tup [.int .i64 (-(q : Int)), .int .i64 0]) [] := by
  obtain ⟨ph, hph⟩ : ∃ z, z = p / 18446744073709551616 := ⟨_, rfl⟩
  obtain ⟨pl, hpl⟩ : ∃ z, z = p % 18446744073709551616 := ⟨_, rfl⟩
  have hpp : ph * 18446744073709551616 + pl = p := by omega
  obtain ⟨q0, hq0⟩ : ∃ z, z = p / d := ⟨_, rfl⟩
  obtain ⟨r0, hr0⟩ : ∃ z, z = p % d := ⟨_, rfl⟩
  have hdiv := Div64_c hC ph pl d (by omega) (by omega) (by omega)
  rw [hpp, ← hq0, ← hr0] at hdiv
  rw [← hq0, ← hr0] at hv
  rw [numD, ← hph, ← hpl]
  have h1 : ¬ (d : Int) ≤ (ph : Int) := by omega
  have h2 : ¬ (d : Int) < 0 := by omega
  have h3 : IntKind.u64.wrap ((q0 : Int) + 1) = ((q0 + 1 : Nat) : Int) := uw (by omega) (by omega)
  have kw := wholeS_c hC q hq (decide (0 < q))
  have kq : (if decide (0 < q) = true then -(q : Int) else (q : Int)) = -(q : Int) := by
    by_cases h : 0 < q
    · simp [h]
    · have : q = 0 := by omega
      subst this
      simp
  rw [kq] at kw
  obtain ⟨Q, hQ⟩ : ∃ Q, Q = -(q : Int) := ⟨_, rfl⟩
  rw [← hQ] at kw ⊢
  refine start hC (nf := N104_wide_quotient) rfl rfl ?_
  simp [N104_wide_quotient]
  refine callW_of (wsize_c hC d hd) (.inl rfl) ?_
  simp [h1]
  refine callW_of hdiv (.inl rfl) ?_
  simp [h2]
  cases up
  · by_cases h : 0 < r0
    · have hi : (0 : Int) < r0 := by omega
      have e : q = q0 + 1 := by rw [hv]; simp; omega
      subst e
      have h4 : ¬ ((q0 : Int) + 1 = 0) := by omega
      simp [hi, h3, h4, h]
      simp at kw
      refine callW_of kw (.inl rfl) ?_
      simp
    · have hi : ¬ (0 : Int) < r0 := by omega
      have e : q = q0 := by rw [hv]; simp; omega
      subst e
      simp [hi, h]
      refine callW_of kw (.inl rfl) ?_
      simp
  · have e : q = q0 := by rw [hv]; simp
    subst e
    by_cases h : 0 < r0
    · have hi : (0 : Int) < r0 := by omega
      simp [hi, h]
      refine callW_of kw (.inl rfl) ?_
      simp
    · have hi : ¬ (0 : Int) < r0 := by omega
      simp [hi, h]
      refine callW_of kw (.inl rfl) ?_
      simp
end Go.Gv

set_option linter.unusedSimpArgs false
namespace Go.Gv

/-- A slice of integers: whether it is nil if it is empty, and the integers. -/
structure SlI where
  n : Bool
  l : List Int
  deriving Inhabited
def slI (x : SlI) : D := slx x.n (x.l.map fun n => [.int .i64 n])
def knD (k : Int × Int) : List D := [.int .i64 k.1, .int .i64 k.2]
/-- A section. -/
structure Sec where
  name : List UInt8
  height : Int
  price : Int
  areaN : Bool
  area : List (Int × Int)
  convN : Bool
  conv : List (Int × Int)
  deriving Inhabited
def secC (s : Sec) : List D := [.str s.name, .int .i64 s.height, .int .i64 s.price, slx s.areaN (s.area.map knD), slx s.convN (s.conv.map knD)]

def idxD {α : Type} (p : α → Bool) (xs : List α) : Int := match xs.findIdx? p with
  | some i => i
  | none => -1
theorem idxD_step {α : Type} {p : α → Bool} {xs : List α} {i : Nat} (hj : ∀ (j : Nat) (h : j < xs.length), j < i → p xs[j] = false) (hi : i < xs.length) (h : p xs[i] = true) : idxD p xs = i := by
  have : xs.findIdx? p = some i := by
    rw [List.findIdx?_eq_some_iff_getElem]
    exact ⟨hi, h, fun j hji => by simp [hj j (by omega) hji]⟩
  simp [idxD, this]
theorem idxD_none {α : Type} {p : α → Bool} {xs : List α} (hj : ∀ (j : Nat) (h : j < xs.length), p xs[j] = false) : idxD p xs = -1 := by
  have : xs.findIdx? p = none := by
    rw [List.findIdx?_eq_none_iff]
    intro x hx
    obtain ⟨j, h, rfl⟩ := List.mem_iff_getElem.1 hx
    exact hj j h
  simp [idxD, this]
theorem idxD_any {α : Type} (p : α → Bool) (xs : List α) : decide (0 ≤ idxD p xs) = xs.any p := by
  unfold idxD
  split
  · rename_i i h
    rw [List.findIdx?_eq_some_iff_getElem] at h
    obtain ⟨h1, h2, _⟩ := h
    have : xs.any p = true := List.any_eq_true.2 ⟨_, List.getElem_mem h1, h2⟩
    simp [this]
  · rename_i h
    rw [List.findIdx?_eq_none_iff] at h
    have : xs.any p = false := by rw [List.any_eq_false]; intro x hx; simp [h x hx]
    simp [this]

variable {C : CC} (hC : Closed prog C)
include hC
theorem idxInt_c {b : Bool} {xs : List Int} {g : Nat} {cs : List D} (p : Int → Bool) (hs : xs.length < 2 ^ 62) (hp : ∀ x ∈ xs, C g (.int .i64 x :: cs) (.bool (p x)) []) : C 35 [slx b (xs.map fun x => [.int .i64 x]), .fn g cs] (.int .i64 (idxD p xs)) [] := by
  refine start hC (nf := N35_slices_IndexFunc__int_int) rfl rfl ?_
  simp [N35_slices_IndexFunc__int_int]
  refine loop_of Nat (fun i => [(0, slx b (xs.map fun x => [.int .i64 x])), (1, .fn g cs), (7, .int .i64 xs.length), (8, .int .i64 i)]) (fun i => i ≤ xs.length ∧ ∀ (j : Nat) (h : j < xs.length), j < i → p xs[j] = false) (fun i => xs.length - i) 0 (by simp) (by simp) ?_
  rintro i ⟨hi, hj⟩
  simp
  refine brB_of (fun h => ?_) (fun h => ?_) <;> simp [h] <;> simp at h
  · have hw : IntKind.wrap .i64 ((i : Int) + 1) = ((i + 1 : Nat) : Int) := wrap_i64 (by omega) (by omega)
    have hc := hp _ (List.getElem_mem h)
    simp [h, List.getElem_map] at hc ⊢
    refine callW_of hc (.inl rfl) ?_
    simp
    refine brB_of (fun h1 => ?_) (fun h1 => ?_) <;> simp [h1, hw]
    · rw [idxD_step hj h h1]
    · refine ⟨i + 1, ⟨by omega, fun j hl hjj => ?_⟩, by omega, rfl⟩
      rcases Nat.lt_succ_iff_lt_or_eq.1 hjj with h2 | rfl
      · exact hj j hl h2
      · exact h1
  · rw [idxD_none (fun j hl => hj j hl (by omega))]
theorem hasInt_c {b : Bool} {xs : List Int} {g : Nat} {cs : List D} (p : Int → Bool) (hs : xs.length < 2 ^ 62) (hp : ∀ x ∈ xs, C g (.int .i64 x :: cs) (.bool (p x)) []) : C 11 [slx b (xs.map fun x => [.int .i64 x]), .fn g cs] (.bool (xs.any p)) [] := by
  refine start hC (nf := N11_slices_ContainsFunc__int_int) rfl rfl ?_
  simp [N11_slices_ContainsFunc__int_int]
  refine callW_of (idxInt_c hC p hs hp) (.inl rfl) ?_
  simp [idxD_any]
end Go.Gv

set_option linter.unusedSimpArgs false
namespace Go.Gv
structure Spt where
  x : Int
  y : Int
  z : Int
  deriving Inhabited, DecidableEq
structure Fce where
  a : Int
  b : Int
  c : Int
  k : Int
  deriving Inhabited, DecidableEq
structure Msh where
  sn : Bool
  s : List Spt
  fn : Bool
  f : List Fce
def sptC (s : Spt) : List D := [.int .i64 s.x, .int .i64 s.y, .int .i64 s.z]
def fceC (f : Fce) : List D := [.int .i64 f.a, .int .i64 f.b, .int .i64 f.c, .int .i64 f.k]
def mshC (m : Msh) : List D := [slx m.sn (m.s.map sptC), slx m.fn (m.f.map fceC)]
theorem sptC_eq (s : Spt) : sptC s = [.int .i64 s.x, .int .i64 s.y, .int .i64 s.z] := _root_.id rfl
theorem fceC_eq (f : Fce) : fceC f = [.int .i64 f.a, .int .i64 f.b, .int .i64 f.c, .int .i64 f.k] := _root_.id rfl
theorem mshC_eq (m : Msh) : mshC m = [slx m.sn (m.s.map sptC), slx m.fn (m.f.map fceC)] := _root_.id rfl
def spt (m : Msh) (i : Nat) : Spt := m.s[i]!
def fce (m : Msh) (i : Nat) : Fce := m.f[i]!
@[simp high] theorem spt_gb (m : Msh) (i : Nat) : m.s[i]! = spt m i := _root_.id rfl
@[simp high] theorem fce_gb (m : Msh) (i : Nat) : m.f[i]! = fce m i := _root_.id rfl
@[simp high] theorem spt_gd (m : Msh) (i : Nat) : m.s[i]?.getD default = spt m i := by simp only [spt, List.getElem!_eq_getElem?_getD]
@[simp high] theorem fce_gd (m : Msh) (i : Nat) : m.f[i]?.getD default = fce m i := by simp only [fce, List.getElem!_eq_getElem?_getD]
@[simp] theorem spt_g (m : Msh) (i : Nat) (h : i < m.s.length) : m.s[i] = spt m i := (getElem!_pos m.s i h).symm
@[simp] theorem fce_g (m : Msh) (i : Nat) (h : i < m.f.length) : m.f[i] = fce m i := (getElem!_pos m.f i h).symm
/-- Points. -/
abbrev Pnt := Int × Int
def ptD (p : Pnt) : List D := [.int .i64 p.1, .int .i64 p.2]
def ptS (s : Spt) : Pnt := (s.x, s.y)
def okP (p : Pnt) : Bool := -16777216 ≤ p.1 && p.1 ≤ 16777216 && -16777216 ≤ p.2 && p.2 ≤ 16777216
def rightS (s : Spt) : Bool := -16777216 ≤ s.x && s.x ≤ 16777216 && -16777216 ≤ s.y && s.y ≤ 16777216 && -4194304 ≤ s.z && s.z ≤ 4194304
theorem okP_of {s : Spt} (h : rightS s = true) : okP (ptS s) = true := by
  simp only [rightS, Bool.and_eq_true, decide_eq_true_eq] at h
  show okP (s.x, s.y) = true
  simp [okP]
  omega
def turnP (a b c : Pnt) : Int := (b.1 - a.1) * (c.2 - a.2) - (b.2 - a.2) * (c.1 - a.1)
theorem mul_bd {a b k l : Int} (h1 : -k ≤ a) (h2 : a ≤ k) (h3 : -l ≤ b) (h4 : b ≤ l) : -(k * l) ≤ a * b ∧ a * b ≤ k * l := by
  have hk : 0 ≤ k := by omega
  have hl : 0 ≤ l := by omega
  have e1 := Int.mul_nonneg (show 0 ≤ k - a by omega) (show 0 ≤ l - b by omega)
  have e2 := Int.mul_nonneg (show 0 ≤ k + a by omega) (show 0 ≤ l + b by omega)
  have e3 := Int.mul_nonneg (show 0 ≤ k - a by omega) (show 0 ≤ l + b by omega)
  have e4 := Int.mul_nonneg (show 0 ≤ k + a by omega) (show 0 ≤ l - b by omega)
  simp only [Int.sub_mul, Int.mul_sub, Int.add_mul, Int.mul_add] at e1 e2 e3 e4
  omega
theorem okP_bd {p : Pnt} (h : okP p = true) : -16777216 ≤ p.1 ∧ p.1 ≤ 16777216 ∧ -16777216 ≤ p.2 ∧ p.2 ≤ 16777216 := by
  simp only [okP, Bool.and_eq_true, decide_eq_true_eq] at h
  omega
/-- The parts of a turn. -/
theorem turn_bd {a b c : Pnt} (ha : okP a = true) (hb : okP b = true) (hc : okP c = true) :
    (-1125899906842624 ≤ (b.1 - a.1) * (c.2 - a.2) ∧ (b.1 - a.1) * (c.2 - a.2) ≤ 1125899906842624) ∧ (-1125899906842624 ≤ (b.2 - a.2) * (c.1 - a.1) ∧ (b.2 - a.2) * (c.1 - a.1) ≤ 1125899906842624) := by
  have := okP_bd ha
  have := okP_bd hb
  have := okP_bd hc
  exact ⟨mul_bd (k := 33554432) (l := 33554432) (by omega) (by omega) (by omega) (by omega), mul_bd (k := 33554432) (l := 33554432) (by omega) (by omega) (by omega) (by omega)⟩
/-- Triangles. -/
abbrev Tri := Pnt × Pnt × Pnt
def triD (t : Tri) : List D := [.int .i64 t.1.1, .int .i64 t.1.2, .int .i64 t.2.1.1, .int .i64 t.2.1.2, .int .i64 t.2.2.1, .int .i64 t.2.2.2]
def okT (t : Tri) : Bool := okP t.1 && okP t.2.1 && okP t.2.2
def turnT (t : Tri) : Int := turnP t.1 t.2.1 t.2.2
def sep1 (p q : Pnt) (u : Tri) : Bool := turnP p q u.1 ≤ 0 && turnP p q u.2.1 ≤ 0 && turnP p q u.2.2 ≤ 0
def sepT (t u : Tri) : Bool := sep1 t.1 t.2.1 u || sep1 t.2.1 t.2.2 u || sep1 t.2.2 t.1 u
def ovT (t u : Tri) : Bool := !sepT t u && !sepT u t
def triF (m : Msh) (f : Fce) : Tri := (ptS (spt m f.a.toNat), ptS (spt m f.b.toNat), ptS (spt m f.c.toNat))
/-- Corners, counted around. -/
def crn (f : Fce) : Nat → Int
  | 0 => f.a
  | 1 => f.b
  | 2 => f.c
  | 3 => f.a
  | 4 => f.b
  | _ => f.c
def inR1 (n : Nat) (a : Int) : Bool := 0 ≤ a && a < n
/-- Its corners are spots. -/
def inS (m : Msh) (f : Fce) : Bool := inR1 m.s.length f.a && inR1 m.s.length f.b && inR1 m.s.length f.c
theorem inS_bd {m : Msh} {f : Fce} (h : inS m f = true) : (0 ≤ f.a ∧ f.a.toNat < m.s.length) ∧ (0 ≤ f.b ∧ f.b.toNat < m.s.length) ∧ (0 ≤ f.c ∧ f.c.toNat < m.s.length) := by
  simp only [inS, inR1, Bool.and_eq_true, decide_eq_true_eq] at h
  omega
variable {C : CC} (hC : Closed prog C)
include hC
theorem pValid_c (p : Pnt) : C 313 [.agg (ptD p)] (.bool (okP p)) [] := by
  refine start hC (nf := N313_plane_Valid) rfl rfl ?_
  simp [N313_plane_Valid, ptD, okP]
  repeat' (refine brB_of (fun h => ?_) (fun h => ?_) <;> simp at h <;> simp [h] <;> try omega)
theorem mright_c (s : Spt) : C 303 [.agg (sptC s)] (.bool (rightS s)) [] := by
  have k := pValid_c hC (s.x, s.y)
  simp [ptD, okP] at k
  refine start hC (nf := N303_mesh_right) rfl rfl ?_
  simp [N303_mesh_right, sptC, rightS]
  refine callW_of k (.inl rfl) ?_
  simp
  repeat' (refine brB_of (fun h => ?_) (fun h => ?_) <;> simp at h <;> simp [h] <;> try omega)
theorem msmall_c (m : Msh) : C 302 [.agg (mshC m)] (.bool (decide (m.s.length ≤ 2000) && decide (m.f.length ≤ 4000))) [] := by
  refine start hC (nf := N302_mesh_small) rfl rfl ?_
  simp [N302_mesh_small, mshC]
  refine brB_of (fun h => ?_) (fun h => ?_) <;> simp at h <;> simp [h]
  · rw [decide_eq_true (show m.s.length ≤ 2000 by omega)]
    simp
    exact Iff.intro (fun h2 => by omega) (fun h2 => by omega)
  · omega
theorem mpoint_c (m : Msh) (i : Nat) (h : i < m.s.length) : C 304 [.agg (mshC m), .int .i64 i] (.agg (ptD (ptS (spt m i)))) [] := by
  refine start hC (nf := N304_mesh_point) rfl rfl ?_
  simp [N304_mesh_point, mshC, h, sptC_eq, ptD, ptS]
  exact indW_of (by decide +kernel)
theorem mcorners_c (f : Fce) : C 305 [.agg (fceC f)] (.agg [.int .i64 f.a, .int .i64 f.b, .int .i64 f.c]) [] := by
  refine start hC (nf := N305_mesh_corners) rfl rfl ?_
  simp [N305_mesh_corners, fceC]
theorem mside_c (f : Fce) (k : Nat) (hk : k < 3) : C 298 [.agg (fceC f), .int .i64 k] (.agg [.int .i64 (crn f k), .int .i64 (crn f (k + 1))]) [] := by
  have k1 := mcorners_c hC f
  refine start hC (nf := N298_mesh_side) rfl rfl ?_
  rw [fceC] at k1 ⊢
  simp [N298_mesh_side]
  refine callW_of k1 (.inl rfl) ?_
  have w : IntKind.wrap .i64 ((k : Int) + 1) = ((k + 1 : Nat) : Int) := wrap_i64 (by omega) (by omega)
  have w0 : IntKind.wrap .i64 1 = 1 := by decide
  have w1 : IntKind.wrap .i64 2 = 2 := by decide
  have w2 : IntKind.wrap .i64 3 = 3 := by decide
  rcases (by omega : k = 0 ∨ k = 1 ∨ k = 2) with rfl | rfl | rfl <;> simp [crn, w0, w1, w2] <;> exact indW_of (by decide +kernel)
theorem mturn_c {a b c : Pnt} (ha : okP a = true) (hb : okP b = true) (hc : okP c = true) : C 308 [.agg (ptD a), .agg (ptD b), .agg (ptD c)] (.int .i64 (turnP a b c)) [] := by
  have := okP_bd ha
  have := okP_bd hb
  have := okP_bd hc
  have h4 := turn_bd ha hb hc
  refine start hC (nf := N308_mesh_turn) rfl rfl ?_
  have w1 : IntKind.wrap .i64 (b.1 - a.1) = b.1 - a.1 := wrap_i64 rfl (by omega)
  have w2 : IntKind.wrap .i64 (c.2 - a.2) = c.2 - a.2 := wrap_i64 rfl (by omega)
  have w3 : IntKind.wrap .i64 (b.2 - a.2) = b.2 - a.2 := wrap_i64 rfl (by omega)
  have w4 : IntKind.wrap .i64 (c.1 - a.1) = c.1 - a.1 := wrap_i64 rfl (by omega)
  have w5 : IntKind.wrap .i64 ((b.1 - a.1) * (c.2 - a.2)) = (b.1 - a.1) * (c.2 - a.2) := wrap_i64 rfl (by omega)
  have w6 : IntKind.wrap .i64 ((b.2 - a.2) * (c.1 - a.1)) = (b.2 - a.2) * (c.1 - a.1) := wrap_i64 rfl (by omega)
  have w7 : IntKind.wrap .i64 ((b.1 - a.1) * (c.2 - a.2) - (b.2 - a.2) * (c.1 - a.1)) = turnP a b c := wrap_i64 rfl (by rw [turnP]; omega)
  simp [N308_mesh_turn, ptD, w1, w2, w3, w4, w5, w6, w7]
theorem mtri_c (m : Msh) (f : Fce) (h : inS m f = true) : C 307 [.agg (mshC m), .agg (fceC f)] (.agg (triD (triF m f))) [] := by
  obtain ⟨⟨a1, a2⟩, ⟨b1, b2⟩, ⟨c1, c2⟩⟩ := inS_bd h
  have ka := mpoint_c hC m f.a.toNat a2
  have kb := mpoint_c hC m f.b.toNat b2
  have kc := mpoint_c hC m f.c.toNat c2
  rw [Int.toNat_of_nonneg a1] at ka
  rw [Int.toNat_of_nonneg b1] at kb
  rw [Int.toNat_of_nonneg c1] at kc
  refine start hC (nf := N307_mesh_triangle) rfl rfl ?_
  rw [mshC] at ka kb kc ⊢
  simp [N307_mesh_triangle, fceC]
  simp [ptD] at ka kb kc
  refine callW_of ka (.inl rfl) ?_
  simp
  refine callW_of kb (.inl rfl) ?_
  simp
  refine callW_of kc (.inl rfl) ?_
  simp [triD, triF]
  exact indW_of (by decide +kernel)
end Go.Gv

set_option linter.unusedSimpArgs false
namespace Go.Gv
theorem w64_1 : IntKind.wrap .i64 1 = 1 := by decide
theorem w64_2 : IntKind.wrap .i64 2 = 2 := by decide
theorem w64_3 : IntKind.wrap .i64 3 = 3 := by decide
variable {C : CC} (hC : Closed prog C)
include hC
set_option maxHeartbeats 1000000 in
theorem sep_c {t u : Tri} (ht : okT t = true) (hu : okT u = true) : C 311 [.agg (triD t), .agg (triD u)] (.bool (sepT t u)) [] := by
  simp only [okT, Bool.and_eq_true] at ht hu
  obtain ⟨⟨t1, t2⟩, t3⟩ := ht
  obtain ⟨⟨u1, u2⟩, u3⟩ := hu
  have kk := fun (p q r : Pnt) (hp : okP p = true) (hq : okP q = true) (hr : okP r = true) => mturn_c hC hp hq hr
  simp only [ptD] at kk
  have E : sepT t u = (sep1 t.1 t.2.1 u || sep1 t.2.1 t.2.2 u || sep1 t.2.2 t.1 u) := rfl
  rw [E]
  clear E
  have S : ∀ p q, sep1 p q u = (decide (turnP p q u.1 ≤ 0) && decide (turnP p q u.2.1 ≤ 0) && decide (turnP p q u.2.2 ≤ 0)) := fun p q => rfl
  refine start hC (nf := N311_mesh_separates) rfl rfl ?_
  rw [triD, triD]
  simp [N311_mesh_separates]
  refine loop_of Nat (fun i => [(2, .ptr (triD t)), (3, .ptr (triD u)), (8, .int .i64 i)]) (fun i => i ≤ 3 ∧ (1 ≤ i → sep1 t.1 t.2.1 u = false) ∧ (2 ≤ i → sep1 t.2.1 t.2.2 u = false) ∧ (3 ≤ i → sep1 t.2.2 t.1 u = false)) (fun i => 3 - i) 0 (by simp) (by simp [triD]) ?_
  rintro i ⟨hi, s1, s2, s3⟩
  rcases (by omega : i = 0 ∨ i = 1 ∨ i = 2 ∨ i = 3) with rfl | rfl | rfl | rfl
  · simp [triD, w64_1, w64_2, w64_3]
    refine ⟨indW_of (by decide +kernel), ?_⟩
    refine callW_of (kk t.1 t.2.1 u.1 t1 t2 u1) (.inl rfl) ?_
    simp
    refine brB_of (fun h1 => ?_) (fun h1 => ?_) <;> simp at h1
    · simp [h1]
      refine callW_of (kk t.1 t.2.1 u.2.1 t1 t2 u2) (.inl rfl) ?_
      simp
      refine brB_of (fun h2 => ?_) (fun h2 => ?_) <;> simp at h2
      · simp [h2]
        refine callW_of (kk t.1 t.2.1 u.2.2 t1 t2 u3) (.inl rfl) ?_
        simp
        refine brB_of (fun h3 => ?_) (fun h3 => ?_) <;> simp at h3 <;> simp [h3]
        · simp [S, h1, h2, h3]
        · refine ⟨1, ⟨by omega, fun _ => by simp only [S, Bool.and_eq_false_iff, decide_eq_false_iff_not]; omega, fun h => by omega, fun h => by omega⟩, by omega, ?_⟩ <;> simp [w64_1, w64_2, w64_3]
      · simp [Int.not_le.2 h2]
        refine ⟨1, ⟨by omega, fun _ => by simp only [S, Bool.and_eq_false_iff, decide_eq_false_iff_not]; omega, fun h => by omega, fun h => by omega⟩, by omega, ?_⟩ <;> simp [w64_1, w64_2, w64_3]
    · simp [Int.not_le.2 h1]
      refine ⟨1, ⟨by omega, fun _ => by simp only [S, Bool.and_eq_false_iff, decide_eq_false_iff_not]; omega, fun h => by omega, fun h => by omega⟩, by omega, ?_⟩ <;> simp [w64_1, w64_2, w64_3]
  · simp [triD, w64_1, w64_2, w64_3]
    refine ⟨indW_of (by decide +kernel), ?_⟩
    refine callW_of (kk t.2.1 t.2.2 u.1 t2 t3 u1) (.inl rfl) ?_
    simp
    refine brB_of (fun h1 => ?_) (fun h1 => ?_) <;> simp at h1
    · simp [h1]
      refine callW_of (kk t.2.1 t.2.2 u.2.1 t2 t3 u2) (.inl rfl) ?_
      simp
      refine brB_of (fun h2 => ?_) (fun h2 => ?_) <;> simp at h2
      · simp [h2]
        refine callW_of (kk t.2.1 t.2.2 u.2.2 t2 t3 u3) (.inl rfl) ?_
        simp
        refine brB_of (fun h3 => ?_) (fun h3 => ?_) <;> simp at h3 <;> simp [h3]
        · simp [S, h1, h2, h3]
        · refine ⟨2, ⟨by omega, fun _ => s1 (by omega), fun _ => by simp only [S, Bool.and_eq_false_iff, decide_eq_false_iff_not]; omega, fun h => by omega⟩, by omega, ?_⟩ <;> simp [w64_1, w64_2, w64_3]
      · simp [Int.not_le.2 h2]
        refine ⟨2, ⟨by omega, fun _ => s1 (by omega), fun _ => by simp only [S, Bool.and_eq_false_iff, decide_eq_false_iff_not]; omega, fun h => by omega⟩, by omega, ?_⟩ <;> simp [w64_1, w64_2, w64_3]
    · simp [Int.not_le.2 h1]
      refine ⟨2, ⟨by omega, fun _ => s1 (by omega), fun _ => by simp only [S, Bool.and_eq_false_iff, decide_eq_false_iff_not]; omega, fun h => by omega⟩, by omega, ?_⟩ <;> simp [w64_1, w64_2, w64_3]
  · simp [triD, w64_1, w64_2, w64_3]
    refine ⟨indW_of (by decide +kernel), ?_⟩
    refine callW_of (kk t.2.2 t.1 u.1 t3 t1 u1) (.inl rfl) ?_
    simp
    refine brB_of (fun h1 => ?_) (fun h1 => ?_) <;> simp at h1
    · simp [h1]
      refine callW_of (kk t.2.2 t.1 u.2.1 t3 t1 u2) (.inl rfl) ?_
      simp
      refine brB_of (fun h2 => ?_) (fun h2 => ?_) <;> simp at h2
      · simp [h2]
        refine callW_of (kk t.2.2 t.1 u.2.2 t3 t1 u3) (.inl rfl) ?_
        simp
        refine brB_of (fun h3 => ?_) (fun h3 => ?_) <;> simp at h3 <;> simp [h3]
        · simp [S, h1, h2, h3]
        · refine ⟨3, ⟨by omega, fun _ => s1 (by omega), fun _ => s2 (by omega), fun _ => by simp only [S, Bool.and_eq_false_iff, decide_eq_false_iff_not]; omega⟩, by omega, ?_⟩ <;> simp [w64_1, w64_2, w64_3]
      · simp [Int.not_le.2 h2]
        refine ⟨3, ⟨by omega, fun _ => s1 (by omega), fun _ => s2 (by omega), fun _ => by simp only [S, Bool.and_eq_false_iff, decide_eq_false_iff_not]; omega⟩, by omega, ?_⟩ <;> simp [w64_1, w64_2, w64_3]
    · simp [Int.not_le.2 h1]
      refine ⟨3, ⟨by omega, fun _ => s1 (by omega), fun _ => s2 (by omega), fun _ => by simp only [S, Bool.and_eq_false_iff, decide_eq_false_iff_not]; omega⟩, by omega, ?_⟩ <;> simp [w64_1, w64_2, w64_3]
  · simp [s1 (by omega), s2 (by omega), s3 (by omega)]
def triR (t : Tri) : List (List D) := [ptD t.1, ptD t.2.1, ptD t.2.2]
end Go.Gv

set_option linter.unusedSimpArgs false
namespace Go.Gv
/-- Its corners are spots that are right. -/
def okc (m : Msh) (a b : Int) : Bool := inR1 m.s.length a && decide (a ≠ b) && rightS (spt m a.toNat)
def okF (m : Msh) (f : Fce) : Bool := okc m f.a f.b && okc m f.b f.c && okc m f.c f.a && decide (0 ≤ f.k) && decide (f.k < 16)
def mtc (f g : Fce) (i k : Nat) : Bool := decide (crn f i = crn g k) && decide (crn f (i + 1) = crn g (k + 1))
def shareB (f g : Fce) : Bool := (List.range 3).any fun i => (List.range 3).any fun k => mtc f g i k
theorem okF_inS {m : Msh} {f : Fce} (h : okF m f = true) : inS m f = true := by
  simp only [okF, okc, Bool.and_eq_true] at h
  simp only [inS, Bool.and_eq_true]
  exact ⟨⟨h.1.1.1.1.1.1, h.1.1.1.2.1.1⟩, h.1.1.2.1.1⟩
theorem okF_okT {m : Msh} {f : Fce} (h : okF m f = true) : okT (triF m f) = true := by
  simp only [okF, okc, Bool.and_eq_true] at h
  simp only [okT, triF, Bool.and_eq_true]
  exact ⟨⟨okP_of h.1.1.1.1.2, okP_of h.1.1.1.2.2⟩, okP_of h.1.1.2.2⟩
def digB (n : Nat) : UInt8 := UInt8.ofNat (48 + n % 10)
def decL (n : Nat) (out : List UInt8) : List UInt8 := if n < 10 then digB n :: out else decL (n / 10) (digB n :: out)
def decR (n : Nat) (out : List UInt8) : List UInt8 := if n = 0 then out else decL n out
variable {C : CC} (hC : Closed prog C)
include hC
end Go.Gv

set_option linter.unusedSimpArgs false
namespace Go.Gv
def sptP (m : Msh) (i : Nat) : Pnt := ptS (spt m i)
def fil (p : Nat → Bool) (n : Nat) : List Nat := (List.range n).filter p
theorem fil_zero (p : Nat → Bool) : fil p 0 = [] := rfl
theorem fil_yes {p : Nat → Bool} {n : Nat} (h : p n = true) : fil p (n + 1) = fil p n ++ [n] := by
  rw [fil, List.range_succ, List.filter_append]
  simp [h, fil]
theorem fil_no {p : Nat → Bool} {n : Nat} (h : p n = false) : fil p (n + 1) = fil p n := by
  rw [fil, List.range_succ, List.filter_append]
  simp [h, fil]
theorem fil_le (p : Nat → Bool) (n : Nat) : (fil p n).length ≤ n := by
  have := List.length_filter_le p (List.range n)
  rw [fil]
  simpa using this
theorem fil_lt {p : Nat → Bool} {n i : Nat} (h : i ∈ fil p n) : i < n ∧ p i = true := by
  rw [fil, List.mem_filter, List.mem_range] at h
  exact h
theorem fil_nil {p : Nat → Bool} {n : Nat} : fil p n = [] ↔ ∀ i, i < n → p i = false := by
  rw [fil, List.filter_eq_nil_iff]
  simp
def farB (m : Msh) (i : Nat) : Bool := !rightS (spt m i)
def sameB (m : Msh) (i : Nat) : Bool := rightS (spt m i) && (List.range i).any fun k => rightS (spt m k) && decide (sptP m k = sptP m i)
def badB (m : Msh) (i : Nat) : Bool := !okF m (fce m i)
def flatB (m : Msh) (i : Nat) : Bool := okF m (fce m i) && decide (turnT (triF m (fce m i)) ≤ 0)
def sndB (m : Msh) (i : Nat) : Bool := okF m (fce m i) && decide (0 < turnT (triF m (fce m i)))
def sideB (m : Msh) (i : Nat) : Bool := sndB m i && (List.range i).any fun k => sndB m k && shareB (fce m i) (fce m k)
def overB (m : Msh) (i : Nat) : Bool := sndB m i && (List.range i).any fun k => sndB m k && ovT (triF m (fce m i)) (triF m (fce m k))
/-- The lists of a check, by kinds. -/
def LL (m : Msh) : List (List Nat) := [[], fil (farB m) m.s.length, fil (sameB m) m.s.length, fil (badB m) m.f.length, fil (flatB m) m.f.length, fil (sideB m) m.f.length, fil (overB m) m.f.length]
def outF (dec : Nat → List UInt8) : Nat → List (List Nat) → List (Int × List UInt8)
  | _, [] => []
  | k, l :: r => (l.map fun i => ((k : Int), dec i)) ++ outF dec (k + 1) r
def fnD (x : Int × List UInt8) : List D := [.int .i64 x.1, .str x.2]
def smallM (m : Msh) : Bool := decide (m.s.length ≤ 2000) && decide (m.f.length ≤ 4000)
def validM (m : Msh) : Bool := smallM m && (LL m).all fun l => decide (l = [])
theorem outF_nil (dec : Nat → List UInt8) : ∀ (k : Nat) (ls : List (List Nat)), outF dec k ls = [] ↔ (ls.all fun l => decide (l = [])) = true
  | _, [] => by simp [outF]
  | k, l :: r => by simp [outF, outF_nil dec (k + 1) r]
/-- The points of a surface's right spots, as keys. -/
def ptKs (m : Msh) : Nat → List D
  | 0 => []
  | i + 1 => if rightS (spt m i) then .agg (ptD (sptP m i)) :: ptKs m i else ptKs m i
def ptVs (m : Msh) : Nat → List D
  | 0 => []
  | i + 1 => if rightS (spt m i) then .bool true :: ptVs m i else ptVs m i
theorem ptKs_len (m : Msh) : ∀ i, (ptKs m i).length ≤ i
  | 0 => by simp [ptKs]
  | i + 1 => by
    have := ptKs_len m i
    rw [ptKs]
    split <;> simp <;> omega
theorem eqD_pt (p q : Pnt) : eqD (.agg (ptD p)) (.agg (ptD q)) = decide (q = p) := by
  obtain ⟨a, b⟩ := p
  obtain ⟨c, d⟩ := q
  simp [eqD, eqDs, eqD1, ptD]
  rw [Bool.eq_iff_iff]
  simp
  exact ⟨fun h => ⟨h.1.symm, h.2.symm⟩, fun h => ⟨h.1.symm, h.2.symm⟩⟩
theorem pt_get (m : Msh) (p : Pnt) : ∀ i, (mpGet (ptKs m i) (ptVs m i) (.agg (ptD p))).getD (.bool false) = .bool ((List.range i).any fun k => rightS (spt m k) && decide (sptP m k = p))
  | 0 => rfl
  | i + 1 => by
    rw [ptKs, ptVs, List.range_succ, List.any_append]
    by_cases h : rightS (spt m i) = true
    · rw [if_pos h, if_pos h, mpGet, eqD_pt]
      by_cases h2 : sptP m i = p
      · simp [h, h2]
      · simp [h2, pt_get m p i]
    · rw [if_neg h, if_neg h, pt_get m p i]
      simp [h]
/-- Which spots are found to be far, when i of them are looked at. -/
def farR (m : Msh) (i : Nat) : List Bool := (List.range m.s.length).map fun j => decide (j < i) && farB m j
theorem farR_len (m : Msh) (i : Nat) : (farR m i).length = m.s.length := by simp [farR]
theorem farR_zero (m : Msh) : farR m 0 = List.replicate m.s.length false := by
  refine List.ext_getElem (by simp [farR]) fun k h1 h2 => ?_
  simp [farR]
theorem farR_set (m : Msh) {i : Nat} (h : i < m.s.length) : (farR m i).set i (farB m i) = farR m (i + 1) := by
  refine List.ext_getElem (by simp [farR]) fun k h1 h2 => ?_
  rw [List.getElem_set]
  simp only [farR, List.getElem_map, List.getElem_range]
  by_cases e : i = k
  · subst e; simp
  · rw [if_neg e]
    by_cases e2 : k < i
    · simp [e2, show k < i + 1 by omega]
    · simp [e2, show ¬ k < i + 1 by omega]
theorem farR_all (m : Msh) {k : Nat} (h : k < m.s.length) : (farR m m.s.length)[k]'(by rw [farR_len]; exact h) = farB m k := by simp [farR, h]
variable {C : CC} (hC : Closed prog C)
include hC
theorem idxTri_c {b : Bool} {xs : List Tri} {g : Nat} {cs : List D} (p : Tri → Bool) (hs : xs.length < 2 ^ 62) (hp : ∀ x ∈ xs, C g (.agg (triD x) :: cs) (.bool (p x)) []) : C 328 [slx b (xs.map triD), .fn g cs] (.int .i64 (idxD p xs)) [] := by
  refine start hC (nf := N328_slices_IndexFunc___3api_Point__3api_Point) rfl rfl ?_
  simp [N328_slices_IndexFunc___3api_Point__3api_Point]
  refine loop_of Nat (fun i => [(0, slx b (xs.map triD)), (1, .fn g cs), (7, .int .i64 xs.length), (8, .int .i64 i)]) (fun i => i ≤ xs.length ∧ ∀ (j : Nat) (h : j < xs.length), j < i → p xs[j] = false) (fun i => xs.length - i) 0 (by simp) (by simp) ?_
  rintro i ⟨hi, hj⟩
  simp
  refine brB_of (fun h => ?_) (fun h => ?_) <;> simp [h] <;> simp at h
  · have hw : IntKind.wrap .i64 ((i : Int) + 1) = ((i + 1 : Nat) : Int) := wrap_i64 (by omega) (by omega)
    have hc := hp _ (List.getElem_mem h)
    simp [h, List.getElem_map, triD] at hc ⊢
    refine callW_of hc (.inl rfl) ?_
    simp
    refine brB_of (fun h1 => ?_) (fun h1 => ?_) <;> simp [h1, hw]
    · rw [idxD_step hj h h1]
    · refine ⟨i + 1, ⟨by omega, fun j hl hjj => ?_⟩, by omega, by simp [triD]⟩
      rcases Nat.lt_succ_iff_lt_or_eq.1 hjj with h2 | rfl
      · exact hj j hl h2
      · exact h1
  · rw [idxD_none (fun j hl => hj j hl (by omega))]
theorem hasTri_c {b : Bool} {xs : List Tri} {g : Nat} {cs : List D} (p : Tri → Bool) (hs : xs.length < 2 ^ 62) (hp : ∀ x ∈ xs, C g (.agg (triD x) :: cs) (.bool (p x)) []) : C 309 [slx b (xs.map triD), .fn g cs] (.bool (xs.any p)) [] := by
  refine start hC (nf := N309_slices_ContainsFunc___3api_Point__3api_Point) rfl rfl ?_
  simp [N309_slices_ContainsFunc___3api_Point__3api_Point]
  refine callW_of (idxTri_c hC p hs hp) (.inl rfl) ?_
  simp [idxD_any]
theorem chk1_c (m : Msh) (k : Int) (hn : m.s.length < 2 ^ 40) : C 306 [.int .i64 k, .ptr (mshC m), .ptr [.sl ((farR m m.s.length).map fun b => [.bool b])]] (.bool (!(inR1 m.s.length k && rightS (spt m k.toNat)))) [] := by
  have E : inR1 m.s.length k = (decide (0 ≤ k) && decide (k < m.s.length)) := rfl
  refine start hC (nf := N306_mesh_Check_1) rfl rfl ?_
  simp [N306_mesh_Check_1, mshC]
  refine brB_of (fun c1 => ?_) (fun c1 => ?_) <;> simp at c1
  · simp [c1]
    rw [E, decide_eq_false (by omega)]; simp
  · simp [Int.not_lt.2 c1]
    refine brB_of (fun c2 => ?_) (fun c2 => ?_) <;> simp at c2
    · simp [c2]
      rw [E, decide_eq_false (show ¬ k < m.s.length by omega)]; simp
    · have c3 : k.toNat < m.s.length := by omega
      have c4 := farR_all m c3
      simp [Int.not_le.2 c2, c1, c3, farR_len]
      rw [c4, E, decide_eq_true c1, decide_eq_true c2]
      simp [farB]
theorem chk2_c {t o : Tri} (ht : okT t = true) (ho : okT o = true) : C 310 [.agg (triD o), .ptr (triD t)] (.bool (ovT t o)) [] := by
  have k1 := sep_c hC ht ho
  have k2 := sep_c hC ho ht
  refine start hC (nf := N310_mesh_Check_2) rfl rfl ?_
  rw [triD, triD] at k1 k2 ⊢
  simp [N310_mesh_Check_2]
  refine callW_of k1 (.inl rfl) ?_
  simp
  cases h1 : sepT t o <;> simp [ovT, h1]
  refine callW_of k2 (.inl rfl) ?_
  simp
  exact fun _ => h1
end Go.Gv

set_option linter.unusedSimpArgs false
namespace Go.Gv
/-- Numbers, as rows. -/
def nmR (l : List Nat) : List (List D) := l.map fun (k : Nat) => [D.int .i64 k]
theorem nmR_eq (l : List Nat) : nmR l = l.map fun (k : Nat) => [D.int .i64 k] := _root_.id rfl
theorem nmR_yes {p : Nat → Bool} {n : Nat} (h : p n = true) : nmR (fil p n) ++ [[D.int .i64 n]] = nmR (fil p (n + 1)) := by
  rw [fil_yes h]; simp [nmR]
theorem nmR_no {p : Nat → Bool} {n : Nat} (h : p n = false) : nmR (fil p n) = nmR (fil p (n + 1)) := by rw [fil_no h]
@[simp] theorem nmR_len (l : List Nat) : (nmR l).length = l.length := by simp [nmR]
@[simp] theorem nmR_c1 (l : List Nat) : (∀ e ∈ nmR l, ∀ c ∈ e, isC1 c = true) = True := by simp [nmR]
@[simp] theorem nmR_take (l : List Nat) : List.take l.length (nmR l) = nmR l := List.take_of_length_le (by simp)
@[simp] theorem nmR_c1a (l : List Nat) (x : List D) : (∀ e, e ∈ nmR l ∨ e = x → ∀ c, c ∈ e → isC1 c = true) = ∀ c, c ∈ x → isC1 c = true := by
  apply propext
  constructor
  · exact fun h => h x (.inr rfl)
  · rintro h e (he | rfl)
    · exact (nmR_c1 l).mpr trivial e he
    · exact h
@[simp] theorem nmR_nil : nmR [] = [] := rfl
def boR (l : List Bool) : List (List D) := l.map fun b => [D.bool b]
theorem boR_eq (l : List Bool) : boR l = l.map fun b => [D.bool b] := _root_.id rfl
@[simp] theorem boR_len (l : List Bool) : (boR l).length = l.length := by simp [boR]
@[simp] theorem boR_get (l : List Bool) (i : Nat) (h : i < (boR l).length) : (boR l)[i] = [D.bool (l[i]'(by simpa using h))] := by simp [boR]
@[simp] theorem boR_set (l : List Bool) (i : Nat) (b : Bool) : (boR l).set i [D.bool b] = boR (l.set i b) := by simp [boR, List.map_set]
theorem farR_set' (m : Msh) {i : Nat} (h : i < m.s.length) : (farR m i).set i (!rightS (spt m i)) = farR m (i + 1) := farR_set m h
theorem farR_at (m : Msh) {i : Nat} (h : i < m.s.length) (h' : i < (farR m (i + 1)).length) : (farR m (i + 1))[i] = !rightS (spt m i) := by simp [farR, farB]
theorem farR_rep (m : Msh) : List.replicate m.s.length [D.bool false] = boR (farR m 0) := by rw [farR_zero]; simp [boR]
def chkL1 (m : Msh) (i : Nat) : Env := [(1, .ptr (mshC m)), (4, .adr (.r 10064) 0 0), (10064, .blk 7 [[.own 1 [], .own 1 (nmR (fil (farB m) i)), .own 1 (nmR (fil (sameB m) i)), .own 1 [], .own 1 [], .own 1 [], .own 1 []]]), (5, .adr (.r 10080) 0 0), (10080, .blk 1 [[.own 1 (boR (farR m i))]]), (6, .mrf 10464), (10464, .mp 4 1 (ptKs m i) (ptVs m i)), (31, slx m.sn (m.s.map sptC)), (32, .int .i64 m.s.length), (33, .int .i64 i)]
theorem chkL1_eq (m : Msh) (i : Nat) : chkL1 m i = [(1, .ptr (mshC m)), (4, .adr (.r 10064) 0 0), (10064, .blk 7 [[.own 1 [], .own 1 (nmR (fil (farB m) i)), .own 1 (nmR (fil (sameB m) i)), .own 1 [], .own 1 [], .own 1 [], .own 1 []]]), (5, .adr (.r 10080) 0 0), (10080, .blk 1 [[.own 1 (boR (farR m i))]]), (6, .mrf 10464), (10464, .mp 4 1 (ptKs m i) (ptVs m i)), (31, slx m.sn (m.s.map sptC)), (32, .int .i64 m.s.length), (33, .int .i64 i)] := _root_.id rfl
/-- Triangles, as rows. -/
def trR (m : Msh) (l : List Nat) : List (List D) := l.map fun k => triD (triF m (fce m k))
theorem trR_eq (m : Msh) (l : List Nat) : trR m l = (l.map fun k => triF m (fce m k)).map triD := by simp [trR]
@[simp] theorem trR_len (m : Msh) (l : List Nat) : (trR m l).length = l.length := by simp [trR]
@[simp] theorem trR_take (m : Msh) (l : List Nat) : List.take l.length (trR m l) = trR m l := List.take_of_length_le (by simp)
@[simp] theorem trR_cv (m : Msh) (l : List Nat) : List.map (fun e => List.map cellV e) (trR m l) = trR m l := by simp [trR, triD]
@[simp] theorem trR_nil (m : Msh) : trR m [] = [] := rfl
theorem trR_yes {m : Msh} {i : Nat} (h : sndB m i = true) : trR m (fil (sndB m) i) ++ [triD (triF m (fce m i))] = trR m (fil (sndB m) (i + 1)) := by rw [fil_yes h]; simp [trR]
def sdK (f : Fce) : Nat → List D
  | 0 => []
  | j + 1 => .agg [.int .i64 (crn f j), .int .i64 (crn f (j + 1))] :: sdK f j
theorem sdK_len (f : Fce) : ∀ j, (sdK f j).length = j
  | 0 => rfl
  | j + 1 => by simp [sdK, sdK_len f j]
/-- The sides of a surface's sound faces, as keys. -/
def tkKs (m : Msh) : Nat → List D
  | 0 => []
  | i + 1 => if sndB m i then sdK (fce m i) 3 ++ tkKs m i else tkKs m i
def tkVs (m : Msh) : Nat → List D
  | 0 => []
  | i + 1 => if sndB m i then List.replicate 3 (.bool true) ++ tkVs m i else tkVs m i
theorem tkKs_len (m : Msh) : ∀ i, (tkKs m i).length ≤ 3 * i
  | 0 => by simp [tkKs]
  | i + 1 => by
    have := tkKs_len m i
    rw [tkKs]
    split <;> simp [sdK_len] <;> omega
def hasS (m : Msh) (i j : Nat) : Bool := (List.range i).any fun k => sndB m k && (List.range 3).any fun j' => mtc (fce m i) (fce m k) j j'
theorem eqD_2 (a b c d : Int) : eqD (.agg [.int .i64 a, .int .i64 b]) (.agg [.int .i64 c, .int .i64 d]) = (decide (a = c) && decide (b = d)) := by
  simp [eqD, eqDs, eqD1]
theorem tk_get (m : Msh) (a b : Int) : ∀ i, (mpGet (tkKs m i) (tkVs m i) (.agg [.int .i64 a, .int .i64 b])).getD (.bool false) = .bool ((List.range i).any fun k => sndB m k && (List.range 3).any fun j => decide (a = crn (fce m k) j) && decide (b = crn (fce m k) (j + 1)))
  | 0 => rfl
  | i + 1 => by
    rw [tkKs, tkVs, List.range_succ, List.any_append]
    have h3 : List.range 3 = [0, 1, 2] := rfl
    by_cases h : sndB m i = true
    · rw [if_pos h, if_pos h]
      simp only [sdK, List.replicate, List.cons_append, List.nil_append, mpGet, eqD_2]
      have ih := tk_get m a b i
      by_cases c0 : (decide (a = crn (fce m i) 2) && decide (b = crn (fce m i) (2 + 1))) = true
      · rw [if_pos c0]
        simp only [List.any_cons, List.any_nil, h, h3, c0]
        simp
      · rw [if_neg c0]
        by_cases c1 : (decide (a = crn (fce m i) 1) && decide (b = crn (fce m i) (1 + 1))) = true
        · rw [if_pos c1]
          simp only [List.any_cons, List.any_nil, h, h3, c1]
          simp
        · rw [if_neg c1]
          by_cases c2 : (decide (a = crn (fce m i) 0) && decide (b = crn (fce m i) (0 + 1))) = true
          · rw [if_pos c2]
            simp only [List.any_cons, List.any_nil, h, h3, c2]
            simp
          · rw [if_neg c2, ih]
            rw [Bool.not_eq_true] at c0 c1 c2
            simp only [List.any_cons, List.any_nil, h, h3, c0, c1, c2]
            simp
    · rw [if_neg h, if_neg h, tk_get m a b i]
      simp [h]
theorem any_or3 {α : Type} (A p q r : α → Bool) (l : List α) : (l.any fun k => A k && (p k || (q k || r k))) = ((l.any fun k => A k && p k) || ((l.any fun k => A k && q k) || (l.any fun k => A k && r k))) := by
  induction l with
  | nil => rfl
  | cons x l ih =>
    simp only [List.any_cons, ih]
    cases A x <;> cases p x <;> cases q x <;> cases r x <;> simp
theorem sideB_eq {m : Msh} {i : Nat} (h : sndB m i = true) : sideB m i = (hasS m i 0 || (hasS m i 1 || hasS m i 2)) := by
  unfold sideB shareB hasS
  rw [h, Bool.true_and, ← any_or3]
  have h3 : List.range 3 = [0, 1, 2] := rfl
  simp only [h3, List.any_cons, List.any_nil, Bool.or_false]
theorem crn_bd {m : Msh} {f : Fce} (h : inS m f = true) (j : Nat) : 0 ≤ crn f j ∧ crn f j < m.s.length := by
  have := inS_bd h
  unfold crn
  split <;> omega
def chkL3 (m : Msh) (i k : Nat) : Env := [(1, .ptr (mshC m)), (4, .adr (.r 10064) 0 0), (10064, .blk 7 [[.own 1 [], .own 1 (nmR (fil (farB m) m.s.length)), .own 1 (nmR (fil (sameB m) m.s.length)), .own 1 (nmR (fil (badB m) i)), .own 1 (nmR (fil (flatB m) i)), .own 1 (nmR (fil (sideB m) (i + 1))), .own 1 (nmR (fil (overB m) i))]]), (5, .adr (.r 10080) 0 0), (10080, .blk 1 [[.own 1 (boR (farR m m.s.length))]]), (10, .mrf 11104), (11104, .mp 3 1 (sdK (fce m i) k ++ tkKs m i) (List.replicate k (.bool true) ++ tkVs m i)), (11, .ref (.r 10176) 0 (fil (sndB m) i).length), (10176, .blk 6 (trR m (fil (sndB m) i))), (12, .int .i64 i), (13, .adr (.r 10208) 0 0), (10208, .blk 4 [fceC (fce m i)]), (15, .adr (.r 10240) 0 0), (10240, .blk 6 [triD (triF m (fce m i))]), (71, slx m.fn (m.f.map fceC)), (72, .int .i64 m.f.length), (73, .int .i64 i), (159, .int .i64 k)]
theorem chkL3_eq (m : Msh) (i k : Nat) : chkL3 m i k = [(1, .ptr (mshC m)), (4, .adr (.r 10064) 0 0), (10064, .blk 7 [[.own 1 [], .own 1 (nmR (fil (farB m) m.s.length)), .own 1 (nmR (fil (sameB m) m.s.length)), .own 1 (nmR (fil (badB m) i)), .own 1 (nmR (fil (flatB m) i)), .own 1 (nmR (fil (sideB m) (i + 1))), .own 1 (nmR (fil (overB m) i))]]), (5, .adr (.r 10080) 0 0), (10080, .blk 1 [[.own 1 (boR (farR m m.s.length))]]), (10, .mrf 11104), (11104, .mp 3 1 (sdK (fce m i) k ++ tkKs m i) (List.replicate k (.bool true) ++ tkVs m i)), (11, .ref (.r 10176) 0 (fil (sndB m) i).length), (10176, .blk 6 (trR m (fil (sndB m) i))), (12, .int .i64 i), (13, .adr (.r 10208) 0 0), (10208, .blk 4 [fceC (fce m i)]), (15, .adr (.r 10240) 0 0), (10240, .blk 6 [triD (triF m (fce m i))]), (71, slx m.fn (m.f.map fceC)), (72, .int .i64 m.f.length), (73, .int .i64 i), (159, .int .i64 k)] := _root_.id rfl
/-- Findings, as rows. -/
def fnR (l : List (Int × List UInt8)) : List (List D) := l.map fnD
@[simp] theorem fnR_len (l : List (Int × List UInt8)) : (fnR l).length = l.length := by simp [fnR]
@[simp] theorem fnR_take (l : List (Int × List UInt8)) : List.take l.length (fnR l) = fnR l := List.take_of_length_le (by simp)
@[simp] theorem fnR_cv (l : List (Int × List UInt8)) : List.map (fun e => List.map cellV e) (fnR l) = fnR l := by simp [fnR, fnD]
theorem fnR_add (l : List (Int × List UInt8)) (k : Int) (s : List UInt8) : fnR l ++ [[.int .i64 k, .str s]] = fnR (l ++ [(k, s)]) := by simp [fnR, fnD]
@[simp] theorem fnR_nil : fnR [] = [] := rfl
def agx6 (L1 L2 L3 L4 L5 L6 : List Nat) : D := .agx [.ref (.n 10064 0 0) 0 0, .ref (.n 10064 0 1) 0 L1.length, .ref (.n 10064 0 2) 0 L2.length, .ref (.n 10064 0 3) 0 L3.length, .ref (.n 10064 0 4) 0 L4.length, .ref (.n 10064 0 5) 0 L5.length, .ref (.n 10064 0 6) 0 L6.length]
theorem agx6_eq (L1 L2 L3 L4 L5 L6 : List Nat) : agx6 L1 L2 L3 L4 L5 L6 = .agx [.ref (.n 10064 0 0) 0 0, .ref (.n 10064 0 1) 0 L1.length, .ref (.n 10064 0 2) 0 L2.length, .ref (.n 10064 0 3) 0 L3.length, .ref (.n 10064 0 4) 0 L4.length, .ref (.n 10064 0 5) 0 L5.length, .ref (.n 10064 0 6) 0 L6.length] := _root_.id rfl
def blk6 (L1 L2 L3 L4 L5 L6 : List Nat) : D := .blk 7 [[.own 1 [], .own 1 (nmR L1), .own 1 (nmR L2), .own 1 (nmR L3), .own 1 (nmR L4), .own 1 (nmR L5), .own 1 (nmR L6)]]
theorem blk6_eq (L1 L2 L3 L4 L5 L6 : List Nat) : blk6 L1 L2 L3 L4 L5 L6 = .blk 7 [[.own 1 [], .own 1 (nmR L1), .own 1 (nmR L2), .own 1 (nmR L3), .own 1 (nmR L4), .own 1 (nmR L5), .own 1 (nmR L6)]] := _root_.id rfl
theorem outF_app (dec : Nat → List UInt8) : ∀ (a b : List (List Nat)) (k : Nat), outF dec k (a ++ b) = outF dec k a ++ outF dec (k + a.length) b
  | [], b, k => by simp [outF]
  | x :: a, b, k => by
    have := outF_app dec a b (k + 1)
    simp only [List.cons_append, outF, this, List.append_assoc, List.length_cons]
    rw [show k + 1 + a.length = k + (a.length + 1) by omega]
def tkD (dec : Nat → List UInt8) (k : Int) (L : List Nat) (j : Nat) : List (Int × List UInt8) := (L.take j).map fun i => (k, dec i)
theorem tkD_zero (dec : Nat → List UInt8) (k : Int) (L : List Nat) : tkD dec k L 0 = [] := by simp [tkD]
theorem tkD_succ (dec : Nat → List UInt8) (k : Int) (L : List Nat) {j : Nat} (h : j < L.length) : tkD dec k L (j + 1) = tkD dec k L j ++ [(k, dec L[j])] := by
  unfold tkD
  rw [List.take_add_one, List.getElem?_eq_getElem h, List.map_append]
  rfl
theorem tkD_len (dec : Nat → List UInt8) (k : Int) (L : List Nat) {j : Nat} (h : j ≤ L.length) : (tkD dec k L j).length = j := by simp [tkD]; omega
theorem tkD_all (dec : Nat → List UInt8) (k : Int) (L : List Nat) : tkD dec k L L.length = L.map fun i => (k, dec i) := by simp [tkD]
def chkL2 (m : Msh) (i : Nat) : Env := [(1, .ptr (mshC m)), (4, .adr (.r 10064) 0 0), (10064, .blk 7 [[.own 1 [], .own 1 (nmR (fil (farB m) m.s.length)), .own 1 (nmR (fil (sameB m) m.s.length)), .own 1 (nmR (fil (badB m) i)), .own 1 (nmR (fil (flatB m) i)), .own 1 (nmR (fil (sideB m) i)), .own 1 (nmR (fil (overB m) i))]]), (5, .adr (.r 10080) 0 0), (10080, .blk 1 [[.own 1 (boR (farR m m.s.length))]]), (10, .mrf 11104), (11104, .mp 3 1 (tkKs m i) (tkVs m i)), (11, .ref (.r 10176) 0 (fil (sndB m) i).length), (10176, .blk 6 (trR m (fil (sndB m) i))), (71, slx m.fn (m.f.map fceC)), (72, .int .i64 m.f.length), (73, .int .i64 i)]
theorem chkL2_eq (m : Msh) (i : Nat) : chkL2 m i = [(1, .ptr (mshC m)), (4, .adr (.r 10064) 0 0), (10064, .blk 7 [[.own 1 [], .own 1 (nmR (fil (farB m) m.s.length)), .own 1 (nmR (fil (sameB m) m.s.length)), .own 1 (nmR (fil (badB m) i)), .own 1 (nmR (fil (flatB m) i)), .own 1 (nmR (fil (sideB m) i)), .own 1 (nmR (fil (overB m) i))]]), (5, .adr (.r 10080) 0 0), (10080, .blk 1 [[.own 1 (boR (farR m m.s.length))]]), (10, .mrf 11104), (11104, .mp 3 1 (tkKs m i) (tkVs m i)), (11, .ref (.r 10176) 0 (fil (sndB m) i).length), (10176, .blk 6 (trR m (fil (sndB m) i))), (71, slx m.fn (m.f.map fceC)), (72, .int .i64 m.f.length), (73, .int .i64 i)] := _root_.id rfl
variable {C : CC} (hC : Closed prog C)
include hC
set_option maxHeartbeats 4000000 in
theorem Check_c (dec : Nat → List UInt8) (hI : ∀ n : Nat, n < 100 → C 127 [.int .i64 n] (.str (dec n)) []) (m : Msh) (hs : m.s.length ≤ 100) (hf : m.f.length ≤ 100) : C 273 [.agg (mshC m)] (.tup [.sl ((outF dec 0 (LL m)).map fnD), .int .i64 0]) [] := by
  have ksm := msmall_c hC m
  rw [decide_eq_true (show m.s.length ≤ 2000 by omega), decide_eq_true (show m.f.length ≤ 4000 by omega)] at ksm
  have kr := fun s => mright_c hC s
  have kp := fun i h => mpoint_c hC m i h
  refine start hC (nf := N273_mesh_Check) rfl rfl ?_
  simp only [mshC_eq] at ksm
  simp [N273_mesh_Check, mshC_eq]
  refine callW_of ksm (.inl rfl) ?_
  simp
  refine ⟨by omega, ?_⟩
  refine loop_of Nat (fun i => chkL1 m i) (fun i => i ≤ m.s.length) (fun i => m.s.length - i) 0 (by simp) (by simp [chkL1_eq, mshC_eq, fil_zero, ptKs, ptVs, farR_rep]) ?_
  rintro i hi
  simp [chkL1_eq, mshC_eq]
  refine brB_of (fun g1 => ?_) (fun g1 => ?_) <;> simp at g1 <;> simp [g1]
  · have hw : IntKind.wrap .i64 ((i : Int) + 1) = ((i + 1 : Nat) : Int) := wrap_i64 (by omega) (by omega)
    have kri := kr (spt m i)
    simp only [sptC_eq] at kri
    simp [sptC_eq]
    refine callW_of kri (.inl rfl) ?_
    simp [farR_len, g1]
    refine ⟨indW_of (by decide +kernel), ?_⟩
    rw [farR_set' m g1]
    rw [boR_eq]
    simp [farR_len, g1, farR_at]
    have kpi := kp i g1
    simp only [mshC_eq] at kpi
    have hr := okP_of (s := spt m i)
    cases hr1 : rightS (spt m i)
    · have e1 := nmR_yes (p := farB m) (n := i) (by simp [farB, hr1])
      have e2 := nmR_no (p := sameB m) (n := i) (by simp [sameB, hr1])
      have e3 : ptKs m (i + 1) = ptKs m i := by simp [ptKs, hr1]
      have e4 : ptVs m (i + 1) = ptVs m i := by simp [ptVs, hr1]
      simp [hw]
      refine ⟨by have := fil_le (farB m) i; omega, i + 1, by omega, by omega, ?_⟩
      simp [chkL1_eq, mshC_eq, e1, ← e2, e3, e4, ← boR_eq]
    · have hp := okP_bd (hr hr1)
      have e2 := nmR_no (p := farB m) (n := i) (by simp [farB, hr1])
      have e3 : ptKs m (i + 1) = .agg (ptD (sptP m i)) :: ptKs m i := by simp [ptKs, hr1]
      have e4 : ptVs m (i + 1) = .bool true :: ptVs m i := by simp [ptVs, hr1]
      have kg := pt_get m (sptP m i) i
      have kl := ptKs_len m i
      have hml : maxLen = 9223372036854775807 := rfl
      simp [mshC_eq]
      refine callW_of kpi (.inl rfl) ?_
      simp [ptD, ptS, sptP] at kg hp
      simp [ptD, ptS, kg]
      refine ⟨⟨by omega, by omega⟩, ?_⟩
      have hsame : ((List.range i).any fun k => rightS (spt m k) && (decide ((spt m k).x = (spt m i).x) && decide ((spt m k).y = (spt m i).y))) = sameB m i := by
        simp [sameB, hr1, sptP, ptS]
      rw [hsame]
      cases hs1 : sameB m i
      · have e1 := nmR_no (p := sameB m) (n := i) hs1
        simp [hw]
        refine ⟨by omega, ⟨by omega, by omega⟩, i + 1, by omega, by omega, ?_⟩
        simp [chkL1_eq, mshC_eq, ← e1, ← e2, e3, e4, ← boR_eq, ptD, sptP, ptS]
      · have e1 := nmR_yes (p := sameB m) (n := i) hs1
        simp [hw]
        refine ⟨by have := fil_le (sameB m) i; omega, by omega, ⟨by omega, by omega⟩, i + 1, by omega, by omega, ?_⟩
        simp [chkL1_eq, mshC_eq, e1, ← e2, e3, e4, ← boR_eq, ptD, sptP, ptS]
  · have hi2 : i = m.s.length := by omega
    subst hi2
    refine loop_of Nat (fun i => chkL2 m i) (fun i => i ≤ m.f.length) (fun i => m.f.length - i) 0 (by simp) (by simp [chkL2_eq, mshC_eq, fil_zero, tkKs, tkVs]) ?_
    clear hi g1 kr kp ksm
    rintro i hi
    simp [chkL2_eq, mshC_eq]
    refine brB_of (fun g1 => ?_) (fun g1 => ?_) <;> simp at g1 <;> simp [g1]
    · have hw : IntKind.wrap .i64 ((i : Int) + 1) = ((i + 1 : Nat) : Int) := wrap_i64 (by omega) (by omega)
      have kc := mcorners_c hC (fce m i)
      have k1 := hasInt_c hC (b := false) (xs := [(fce m i).a, (fce m i).b, (fce m i).c]) (g := 306) (cs := [.ptr (mshC m), .ptr [.sl (boR (farR m m.s.length))]]) (fun k => !(inR1 m.s.length k && rightS (spt m k.toNat))) (by simp) (fun x _ => chk1_c hC m x (by omega))
      simp only [mshC_eq, fceC_eq] at kc k1
      simp at k1
      simp [fceC_eq]
      refine callW_of kc (.inl rfl) ?_
      simp [chunks]
      obtain ⟨v, hv⟩ : ∃ v, v = (!inR1 m.s.length (fce m i).a || !rightS (spt m (fce m i).a.toNat) || (!inR1 m.s.length (fce m i).b || !rightS (spt m (fce m i).b.toNat) || (!inR1 m.s.length (fce m i).c || !rightS (spt m (fce m i).c.toNat)))) := ⟨_, rfl⟩
      rw [← hv] at k1
      refine callW_of k1 (.inl rfl) ?_
      have E : badB m i = !(okF m (fce m i)) := rfl
      have E2 : okF m (fce m i) = (okc m (fce m i).a (fce m i).b && okc m (fce m i).b (fce m i).c && okc m (fce m i).c (fce m i).a && decide (0 ≤ (fce m i).k) && decide ((fce m i).k < 16)) := rfl
      have E3 : ∀ a b : Int, okc m a b = (inR1 m.s.length a && decide (a ≠ b) && rightS (spt m a.toNat)) := fun a b => rfl
      have bad : badB m i = true → nmR (fil (badB m) i) ++ [[D.int .i64 i]] = nmR (fil (badB m) (i + 1)) ∧ nmR (fil (flatB m) i) = nmR (fil (flatB m) (i + 1)) ∧ nmR (fil (sideB m) i) = nmR (fil (sideB m) (i + 1)) ∧ nmR (fil (overB m) i) = nmR (fil (overB m) (i + 1)) ∧ fil (sndB m) (i + 1) = fil (sndB m) i ∧ tkKs m (i + 1) = tkKs m i ∧ tkVs m (i + 1) = tkVs m i := fun h => by
        have h0 : okF m (fce m i) = false := by rw [E] at h; simpa using h
        have h1 : sndB m i = false := by simp [sndB, h0]
        exact ⟨nmR_yes h, nmR_no (by simp [flatB, h0]), nmR_no (by simp [sideB, h1]), nmR_no (by simp [overB, h1]), fil_no h1, by simp [tkKs, h1], by simp [tkVs, h1]⟩
      cases v
      rotate_left
      · obtain ⟨e1, e2, e3, e4, e5, e6, e7⟩ := bad (by
          rw [E, E2, E3, E3, E3]
          revert hv
          cases inR1 m.s.length (fce m i).a <;> cases rightS (spt m (fce m i).a.toNat) <;> cases inR1 m.s.length (fce m i).b <;> cases rightS (spt m (fce m i).b.toNat) <;> cases inR1 m.s.length (fce m i).c <;> cases rightS (spt m (fce m i).c.toNat) <;> simp)
        simp [hw]
        refine ⟨by have := fil_le (badB m) i; omega, i + 1, by omega, by omega, ?_⟩
        simp [chkL2_eq, mshC_eq, e1, ← e2, ← e3, ← e4, e5, e6, e7]
      by_cases c1 : (fce m i).a = (fce m i).b
      · obtain ⟨e1, e2, e3, e4, e5, e6, e7⟩ := bad (by
          rw [E, E2, E3, E3, E3]
          rw [decide_eq_false (show ¬ (fce m i).a ≠ (fce m i).b by omega)]; simp)
        simp [c1, hw]
        refine ⟨by have := fil_le (badB m) i; omega, i + 1, by omega, by omega, ?_⟩
        simp [chkL2_eq, mshC_eq, e1, ← e2, ← e3, ← e4, e5, e6, e7]
      by_cases c2 : (fce m i).b = (fce m i).c
      · obtain ⟨e1, e2, e3, e4, e5, e6, e7⟩ := bad (by
          rw [E, E2, E3, E3, E3]
          rw [decide_eq_false (show ¬ (fce m i).b ≠ (fce m i).c by omega)]; simp)
        simp [(show ¬ (fce m i).a = (fce m i).c by rw [← c2]; exact c1), c2, hw]
        refine ⟨by have := fil_le (badB m) i; omega, i + 1, by omega, by omega, ?_⟩
        simp [chkL2_eq, mshC_eq, e1, ← e2, ← e3, ← e4, e5, e6, e7]
      by_cases c3 : (fce m i).c = (fce m i).a
      · obtain ⟨e1, e2, e3, e4, e5, e6, e7⟩ := bad (by
          rw [E, E2, E3, E3, E3]
          rw [decide_eq_false (show ¬ (fce m i).c ≠ (fce m i).a by omega)]; simp)
        simp [c1, c2, hw]
        refine brB_of (fun _ => ?_) (fun h => by simp [c3] at h)
        simp [hw]
        refine ⟨by have := fil_le (badB m) i; omega, i + 1, by omega, by omega, ?_⟩
        simp [chkL2_eq, mshC_eq, e1, ← e2, ← e3, ← e4, e5, e6, e7]
      have c3' : ¬ (fce m i).a = (fce m i).c := fun h => c3 h.symm
      by_cases c4 : (fce m i).k < 0
      · obtain ⟨e1, e2, e3, e4, e5, e6, e7⟩ := bad (by
          rw [E, E2, E3, E3, E3]
          rw [decide_eq_false (show ¬ 0 ≤ (fce m i).k by omega)]; simp)
        simp [c1, c2, c3, c3', c4, hw]
        refine ⟨by have := fil_le (badB m) i; omega, i + 1, by omega, by omega, ?_⟩
        simp [chkL2_eq, mshC_eq, e1, ← e2, ← e3, ← e4, e5, e6, e7]
      by_cases c5 : 16 ≤ (fce m i).k
      · obtain ⟨e1, e2, e3, e4, e5, e6, e7⟩ := bad (by
          rw [E, E2, E3, E3, E3]
          rw [decide_eq_false (show ¬ (fce m i).k < 16 by omega)]; simp)
        simp [c1, c2, c3, c3', c4, c5, hw]
        refine ⟨by have := fil_le (badB m) i; omega, i + 1, by omega, by omega, ?_⟩
        simp [chkL2_eq, mshC_eq, e1, ← e2, ← e3, ← e4, e5, e6, e7]
      have ok : okF m (fce m i) = true := by
        rw [E2, E3, E3, E3]
        simp only [Bool.and_eq_true, decide_eq_true_eq]
        have h := hv.symm
        simp only [Bool.or_eq_false_iff, Bool.not_eq_false'] at h
        exact ⟨⟨⟨⟨⟨⟨h.1.1, c1⟩, h.1.2⟩, ⟨h.2.1.1, c2⟩, h.2.1.2⟩, ⟨h.2.2.1, c3⟩, h.2.2.2⟩, by omega⟩, by omega⟩
      have nbad : badB m i = false := by rw [E, ok]; rfl
      have b1 := nmR_no nbad
      have hT := okF_okT ok
      have kt := mtri_c hC m (fce m i) (okF_inS ok)
      have kn : C 308 [.agg (ptD (triF m (fce m i)).1), .agg (ptD (triF m (fce m i)).2.1), .agg (ptD (triF m (fce m i)).2.2)] (.int .i64 (turnT (triF m (fce m i)))) [] := by
        have h := hT
        simp only [okT, Bool.and_eq_true] at h
        exact mturn_c hC h.1.1 h.1.2 h.2
      have ks := fun k h => mside_c hC (fce m i) k h
      have ks0 := ks 0 (by omega)
      have ks1 := ks 1 (by omega)
      have ks2 := ks 2 (by omega)
      have kg := fun j => tk_get m (crn (fce m i) j) (crn (fce m i) (j + 1)) i
      have kg : ∀ j, (mpGet (tkKs m i) (tkVs m i) (.agg [.int .i64 (crn (fce m i) j), .int .i64 (crn (fce m i) (j + 1))])).getD (.bool false) = .bool (hasS m i j) := kg
      have kg0 := kg 0
      have kg1 := kg 1
      have kg2 := kg 2
      simp [c1, c2, c3, c3', c4, c5]
      simp only [mshC_eq, fceC_eq] at kt
      refine callW_of kt (.inl rfl) ?_
      simp [triD]
      simp only [ptD] at kn
      refine callW_of kn (.inl rfl) ?_
      simp
      refine brB_of (fun d1 => ?_) (fun d1 => ?_) <;> simp at d1
      · have hfl : flatB m i = true := by simp [flatB, ok, d1]
        have hsn : sndB m i = false := by simp [sndB, ok]; omega
        have e1 := nmR_yes hfl
        have e2 := nmR_no (p := sideB m) (n := i) (by simp [sideB, hsn])
        have e3 := nmR_no (p := overB m) (n := i) (by simp [overB, hsn])
        have e5 := fil_no hsn
        have e6 : tkKs m (i + 1) = tkKs m i := by simp [tkKs, hsn]
        have e7 : tkVs m (i + 1) = tkVs m i := by simp [tkVs, hsn]
        simp [d1, hw]
        refine ⟨by have := fil_le (flatB m) i; omega, i + 1, by omega, by omega, ?_⟩
        simp [chkL2_eq, mshC_eq, e1, ← e2, ← e3, ← b1, e5, e6, e7]
      · have hfl : flatB m i = false := by simp [flatB, ok]; omega
        have hsn : sndB m i = true := by simp [sndB, ok, d1]
        have b2 := nmR_no hfl
        have hsd := sideB_eq hsn
        simp only [fceC_eq] at ks ks0 ks1 ks2
        simp at ks0 ks1 ks2 kg0 kg1 kg2
        simp [Int.not_le.2 d1]
        refine callW_of ks0 (.inl rfl) ?_
        simp [kg0]
        have cb := fun j => crn_bd (okF_inS ok) j
        have cb0 := cb 0
        have cb1 := cb 1
        have cb2 := cb 2
        have cb3 := cb 3
        refine ⟨⟨by omega, by omega⟩, ?_⟩
        have yes : sideB m i = true → nmR (fil (sideB m) i) ++ [[D.int .i64 i]] = nmR (fil (sideB m) (i + 1)) := nmR_yes
        have nos : sideB m i = false → nmR (fil (sideB m) i) = nmR (fil (sideB m) (i + 1)) := nmR_no
        have lsd := fil_le (sideB m) i
        have kT := hasTri_c hC (b := false) (xs := (fil (sndB m) i).map fun k => triF m (fce m k)) (g := 310) (cs := [.ptr (triD (triF m (fce m i)))]) (fun o => ovT (triF m (fce m i)) o) (by have := fil_le (sndB m) i; simp; omega) (fun x hx => by
          obtain ⟨k, hk, rfl⟩ := List.mem_map.1 hx
          have hk := (fil_lt hk).2
          simp only [sndB, Bool.and_eq_true] at hk
          exact chk2_c hC hT (okF_okT hk.1))
        rw [← trR_eq, List.any_map] at kT
        have hov : (fil (sndB m) i).any ((fun o => ovT (triF m (fce m i)) o) ∘ fun k => triF m (fce m k)) = overB m i := by
          rw [fil, List.any_filter, overB, hsn]
          rfl
        rw [hov] at kT
        rw [slx_false] at kT
        have tl := tkKs_len m i
        have hml : maxLen = 9223372036854775807 := rfl
        have e5 := trR_yes hsn
        have e6 : tkKs m (i + 1) = sdK (fce m i) 3 ++ tkKs m i := by simp [tkKs, hsn]
        have e7 : tkVs m (i + 1) = .bool true :: .bool true :: .bool true :: tkVs m i := by
          rw [tkVs, if_pos hsn]; rfl
        have e8 : (fil (sndB m) (i + 1)).length = (fil (sndB m) i).length + 1 := by rw [fil_yes hsn]; simp
        have l8 := fil_le (sndB m) i
        have lov := fil_le (overB m) i
        have kT := hasTri_c hC (b := false) (xs := (fil (sndB m) i).map fun k => triF m (fce m k)) (g := 310) (cs := [.ptr (triD (triF m (fce m i)))]) (fun o => ovT (triF m (fce m i)) o) (by have := fil_le (sndB m) i; simp; omega) (fun x hx => by
          obtain ⟨k, hk, rfl⟩ := List.mem_map.1 hx
          have hk := (fil_lt hk).2
          simp only [sndB, Bool.and_eq_true] at hk
          exact chk2_c hC hT (okF_okT hk.1))
        rw [← trR_eq, List.any_map] at kT
        have hov : (fil (sndB m) i).any ((fun o => ovT (triF m (fce m i)) o) ∘ fun k => triF m (fce m k)) = overB m i := by
          rw [fil, List.any_filter, overB, hsn]
          rfl
        rw [hov] at kT
        rw [slx_false] at kT
        have tl := tkKs_len m i
        have hml : maxLen = 9223372036854775807 := rfl
        have e5 := trR_yes hsn
        have e6 : tkKs m (i + 1) = sdK (fce m i) 3 ++ tkKs m i := by simp [tkKs, hsn]
        have e7 : tkVs m (i + 1) = .bool true :: .bool true :: .bool true :: tkVs m i := by
          rw [tkVs, if_pos hsn]; rfl
        have e8 : (fil (sndB m) (i + 1)).length = (fil (sndB m) i).length + 1 := by rw [fil_yes hsn]; simp
        have l8 := fil_le (sndB m) i
        have lov := fil_le (overB m) i
        have kT := hasTri_c hC (b := false) (xs := (fil (sndB m) i).map fun k => triF m (fce m k)) (g := 310) (cs := [.ptr (triD (triF m (fce m i)))]) (fun o => ovT (triF m (fce m i)) o) (by have := fil_le (sndB m) i; simp; omega) (fun x hx => by
          obtain ⟨k, hk, rfl⟩ := List.mem_map.1 hx
          have hk := (fil_lt hk).2
          simp only [sndB, Bool.and_eq_true] at hk
          exact chk2_c hC hT (okF_okT hk.1))
        rw [← trR_eq, List.any_map] at kT
        have hov : (fil (sndB m) i).any ((fun o => ovT (triF m (fce m i)) o) ∘ fun k => triF m (fce m k)) = overB m i := by
          rw [fil, List.any_filter, overB, hsn]
          rfl
        rw [hov] at kT
        rw [slx_false] at kT
        have tl := tkKs_len m i
        have hml : maxLen = 9223372036854775807 := rfl
        have e5 := trR_yes hsn
        have e6 : tkKs m (i + 1) = sdK (fce m i) 3 ++ tkKs m i := by simp [tkKs, hsn]
        have e7 : tkVs m (i + 1) = .bool true :: .bool true :: .bool true :: tkVs m i := by
          rw [tkVs, if_pos hsn]; rfl
        have e8 : (fil (sndB m) (i + 1)).length = (fil (sndB m) i).length + 1 := by rw [fil_yes hsn]; simp
        have l8 := fil_le (sndB m) i
        have lov := fil_le (overB m) i
        have kT := hasTri_c hC (b := false) (xs := (fil (sndB m) i).map fun k => triF m (fce m k)) (g := 310) (cs := [.ptr (triD (triF m (fce m i)))]) (fun o => ovT (triF m (fce m i)) o) (by have := fil_le (sndB m) i; simp; omega) (fun x hx => by
          obtain ⟨k, hk, rfl⟩ := List.mem_map.1 hx
          have hk := (fil_lt hk).2
          simp only [sndB, Bool.and_eq_true] at hk
          exact chk2_c hC hT (okF_okT hk.1))
        rw [← trR_eq, List.any_map] at kT
        have hov : (fil (sndB m) i).any ((fun o => ovT (triF m (fce m i)) o) ∘ fun k => triF m (fce m k)) = overB m i := by
          rw [fil, List.any_filter, overB, hsn]
          rfl
        rw [hov] at kT
        rw [slx_false] at kT
        have tl := tkKs_len m i
        have hml : maxLen = 9223372036854775807 := rfl
        have e5 := trR_yes hsn
        have e6 : tkKs m (i + 1) = sdK (fce m i) 3 ++ tkKs m i := by simp [tkKs, hsn]
        have e7 : tkVs m (i + 1) = .bool true :: .bool true :: .bool true :: tkVs m i := by
          rw [tkVs, if_pos hsn]; rfl
        have e8 : (fil (sndB m) (i + 1)).length = (fil (sndB m) i).length + 1 := by rw [fil_yes hsn]; simp
        have l8 := fil_le (sndB m) i
        have lov := fil_le (overB m) i
        have kT := hasTri_c hC (b := false) (xs := (fil (sndB m) i).map fun k => triF m (fce m k)) (g := 310) (cs := [.ptr (triD (triF m (fce m i)))]) (fun o => ovT (triF m (fce m i)) o) (by have := fil_le (sndB m) i; simp; omega) (fun x hx => by
          obtain ⟨k, hk, rfl⟩ := List.mem_map.1 hx
          have hk := (fil_lt hk).2
          simp only [sndB, Bool.and_eq_true] at hk
          exact chk2_c hC hT (okF_okT hk.1))
        rw [← trR_eq, List.any_map] at kT
        have hov : (fil (sndB m) i).any ((fun o => ovT (triF m (fce m i)) o) ∘ fun k => triF m (fce m k)) = overB m i := by
          rw [fil, List.any_filter, overB, hsn]
          rfl
        rw [hov] at kT
        rw [slx_false] at kT
        have tl := tkKs_len m i
        have hml : maxLen = 9223372036854775807 := rfl
        have e5 := trR_yes hsn
        have e6 : tkKs m (i + 1) = sdK (fce m i) 3 ++ tkKs m i := by simp [tkKs, hsn]
        have e7 : tkVs m (i + 1) = .bool true :: .bool true :: .bool true :: tkVs m i := by
          rw [tkVs, if_pos hsn]; rfl
        have e8 : (fil (sndB m) (i + 1)).length = (fil (sndB m) i).length + 1 := by rw [fil_yes hsn]; simp
        have l8 := fil_le (sndB m) i
        have lov := fil_le (overB m) i
        have kT := hasTri_c hC (b := false) (xs := (fil (sndB m) i).map fun k => triF m (fce m k)) (g := 310) (cs := [.ptr (triD (triF m (fce m i)))]) (fun o => ovT (triF m (fce m i)) o) (by have := fil_le (sndB m) i; simp; omega) (fun x hx => by
          obtain ⟨k, hk, rfl⟩ := List.mem_map.1 hx
          have hk := (fil_lt hk).2
          simp only [sndB, Bool.and_eq_true] at hk
          exact chk2_c hC hT (okF_okT hk.1))
        rw [← trR_eq, List.any_map] at kT
        have hov : (fil (sndB m) i).any ((fun o => ovT (triF m (fce m i)) o) ∘ fun k => triF m (fce m k)) = overB m i := by
          rw [fil, List.any_filter, overB, hsn]
          rfl
        rw [hov] at kT
        rw [slx_false] at kT
        have tl := tkKs_len m i
        have hml : maxLen = 9223372036854775807 := rfl
        have e5 := trR_yes hsn
        have e6 : tkKs m (i + 1) = sdK (fce m i) 3 ++ tkKs m i := by simp [tkKs, hsn]
        have e7 : tkVs m (i + 1) = .bool true :: .bool true :: .bool true :: tkVs m i := by
          rw [tkVs, if_pos hsn]; rfl
        have e8 : (fil (sndB m) (i + 1)).length = (fil (sndB m) i).length + 1 := by rw [fil_yes hsn]; simp
        have l8 := fil_le (sndB m) i
        have lov := fil_le (overB m) i
        have kT := hasTri_c hC (b := false) (xs := (fil (sndB m) i).map fun k => triF m (fce m k)) (g := 310) (cs := [.ptr (triD (triF m (fce m i)))]) (fun o => ovT (triF m (fce m i)) o) (by have := fil_le (sndB m) i; simp; omega) (fun x hx => by
          obtain ⟨k, hk, rfl⟩ := List.mem_map.1 hx
          have hk := (fil_lt hk).2
          simp only [sndB, Bool.and_eq_true] at hk
          exact chk2_c hC hT (okF_okT hk.1))
        rw [← trR_eq, List.any_map] at kT
        have hov : (fil (sndB m) i).any ((fun o => ovT (triF m (fce m i)) o) ∘ fun k => triF m (fce m k)) = overB m i := by
          rw [fil, List.any_filter, overB, hsn]
          rfl
        rw [hov] at kT
        rw [slx_false] at kT
        have tl := tkKs_len m i
        have hml : maxLen = 9223372036854775807 := rfl
        have e5 := trR_yes hsn
        have e6 : tkKs m (i + 1) = sdK (fce m i) 3 ++ tkKs m i := by simp [tkKs, hsn]
        have e7 : tkVs m (i + 1) = .bool true :: .bool true :: .bool true :: tkVs m i := by
          rw [tkVs, if_pos hsn]; rfl
        have e8 : (fil (sndB m) (i + 1)).length = (fil (sndB m) i).length + 1 := by rw [fil_yes hsn]; simp
        have l8 := fil_le (sndB m) i
        have lov := fil_le (overB m) i
        have kT := hasTri_c hC (b := false) (xs := (fil (sndB m) i).map fun k => triF m (fce m k)) (g := 310) (cs := [.ptr (triD (triF m (fce m i)))]) (fun o => ovT (triF m (fce m i)) o) (by have := fil_le (sndB m) i; simp; omega) (fun x hx => by
          obtain ⟨k, hk, rfl⟩ := List.mem_map.1 hx
          have hk := (fil_lt hk).2
          simp only [sndB, Bool.and_eq_true] at hk
          exact chk2_c hC hT (okF_okT hk.1))
        rw [← trR_eq, List.any_map] at kT
        have hov : (fil (sndB m) i).any ((fun o => ovT (triF m (fce m i)) o) ∘ fun k => triF m (fce m k)) = overB m i := by
          rw [fil, List.any_filter, overB, hsn]
          rfl
        rw [hov] at kT
        rw [slx_false] at kT
        have tl := tkKs_len m i
        have hml : maxLen = 9223372036854775807 := rfl
        have e5 := trR_yes hsn
        have e6 : tkKs m (i + 1) = sdK (fce m i) 3 ++ tkKs m i := by simp [tkKs, hsn]
        have e7 : tkVs m (i + 1) = .bool true :: .bool true :: .bool true :: tkVs m i := by
          rw [tkVs, if_pos hsn]; rfl
        have e8 : (fil (sndB m) (i + 1)).length = (fil (sndB m) i).length + 1 := by rw [fil_yes hsn]; simp
        have l8 := fil_le (sndB m) i
        have lov := fil_le (overB m) i
        have kT := hasTri_c hC (b := false) (xs := (fil (sndB m) i).map fun k => triF m (fce m k)) (g := 310) (cs := [.ptr (triD (triF m (fce m i)))]) (fun o => ovT (triF m (fce m i)) o) (by have := fil_le (sndB m) i; simp; omega) (fun x hx => by
          obtain ⟨k, hk, rfl⟩ := List.mem_map.1 hx
          have hk := (fil_lt hk).2
          simp only [sndB, Bool.and_eq_true] at hk
          exact chk2_c hC hT (okF_okT hk.1))
        rw [← trR_eq, List.any_map] at kT
        have hov : (fil (sndB m) i).any ((fun o => ovT (triF m (fce m i)) o) ∘ fun k => triF m (fce m k)) = overB m i := by
          rw [fil, List.any_filter, overB, hsn]
          rfl
        rw [hov] at kT
        rw [slx_false] at kT
        have tl := tkKs_len m i
        have hml : maxLen = 9223372036854775807 := rfl
        have e5 := trR_yes hsn
        have e6 : tkKs m (i + 1) = sdK (fce m i) 3 ++ tkKs m i := by simp [tkKs, hsn]
        have e7 : tkVs m (i + 1) = .bool true :: .bool true :: .bool true :: tkVs m i := by
          rw [tkVs, if_pos hsn]; rfl
        have e8 : (fil (sndB m) (i + 1)).length = (fil (sndB m) i).length + 1 := by rw [fil_yes hsn]; simp
        have l8 := fil_le (sndB m) i
        have lov := fil_le (overB m) i
        have kT := hasTri_c hC (b := false) (xs := (fil (sndB m) i).map fun k => triF m (fce m k)) (g := 310) (cs := [.ptr (triD (triF m (fce m i)))]) (fun o => ovT (triF m (fce m i)) o) (by have := fil_le (sndB m) i; simp; omega) (fun x hx => by
          obtain ⟨k, hk, rfl⟩ := List.mem_map.1 hx
          have hk := (fil_lt hk).2
          simp only [sndB, Bool.and_eq_true] at hk
          exact chk2_c hC hT (okF_okT hk.1))
        rw [← trR_eq, List.any_map] at kT
        have hov : (fil (sndB m) i).any ((fun o => ovT (triF m (fce m i)) o) ∘ fun k => triF m (fce m k)) = overB m i := by
          rw [fil, List.any_filter, overB, hsn]
          rfl
        rw [hov] at kT
        rw [slx_false] at kT
        have tl := tkKs_len m i
        have hml : maxLen = 9223372036854775807 := rfl
        have e5 := trR_yes hsn
        have e6 : tkKs m (i + 1) = sdK (fce m i) 3 ++ tkKs m i := by simp [tkKs, hsn]
        have e7 : tkVs m (i + 1) = .bool true :: .bool true :: .bool true :: tkVs m i := by
          rw [tkVs, if_pos hsn]; rfl
        have e8 : (fil (sndB m) (i + 1)).length = (fil (sndB m) i).length + 1 := by rw [fil_yes hsn]; simp
        have l8 := fil_le (sndB m) i
        have lov := fil_le (overB m) i
        have kT := hasTri_c hC (b := false) (xs := (fil (sndB m) i).map fun k => triF m (fce m k)) (g := 310) (cs := [.ptr (triD (triF m (fce m i)))]) (fun o => ovT (triF m (fce m i)) o) (by have := fil_le (sndB m) i; simp; omega) (fun x hx => by
          obtain ⟨k, hk, rfl⟩ := List.mem_map.1 hx
          have hk := (fil_lt hk).2
          simp only [sndB, Bool.and_eq_true] at hk
          exact chk2_c hC hT (okF_okT hk.1))
        rw [← trR_eq, List.any_map] at kT
        have hov : (fil (sndB m) i).any ((fun o => ovT (triF m (fce m i)) o) ∘ fun k => triF m (fce m k)) = overB m i := by
          rw [fil, List.any_filter, overB, hsn]
          rfl
        rw [hov] at kT
        rw [slx_false] at kT
        have tl := tkKs_len m i
        have hml : maxLen = 9223372036854775807 := rfl
        have e5 := trR_yes hsn
        have e6 : tkKs m (i + 1) = sdK (fce m i) 3 ++ tkKs m i := by simp [tkKs, hsn]
        have e7 : tkVs m (i + 1) = .bool true :: .bool true :: .bool true :: tkVs m i := by
          rw [tkVs, if_pos hsn]; rfl
        have e8 : (fil (sndB m) (i + 1)).length = (fil (sndB m) i).length + 1 := by rw [fil_yes hsn]; simp
        have l8 := fil_le (sndB m) i
        have lov := fil_le (overB m) i
        have kT := hasTri_c hC (b := false) (xs := (fil (sndB m) i).map fun k => triF m (fce m k)) (g := 310) (cs := [.ptr (triD (triF m (fce m i)))]) (fun o => ovT (triF m (fce m i)) o) (by have := fil_le (sndB m) i; simp; omega) (fun x hx => by
          obtain ⟨k, hk, rfl⟩ := List.mem_map.1 hx
          have hk := (fil_lt hk).2
          simp only [sndB, Bool.and_eq_true] at hk
          exact chk2_c hC hT (okF_okT hk.1))
        rw [← trR_eq, List.any_map] at kT
        have hov : (fil (sndB m) i).any ((fun o => ovT (triF m (fce m i)) o) ∘ fun k => triF m (fce m k)) = overB m i := by
          rw [fil, List.any_filter, overB, hsn]
          rfl
        rw [hov] at kT
        rw [slx_false] at kT
        have tl := tkKs_len m i
        have hml : maxLen = 9223372036854775807 := rfl
        have e5 := trR_yes hsn
        have e6 : tkKs m (i + 1) = sdK (fce m i) 3 ++ tkKs m i := by simp [tkKs, hsn]
        have e7 : tkVs m (i + 1) = .bool true :: .bool true :: .bool true :: tkVs m i := by
          rw [tkVs, if_pos hsn]; rfl
        have e8 : (fil (sndB m) (i + 1)).length = (fil (sndB m) i).length + 1 := by rw [fil_yes hsn]; simp
        have l8 := fil_le (sndB m) i
        have lov := fil_le (overB m) i
        rcases (by cases hasS m i 0 <;> cases hasS m i 1 <;> cases hasS m i 2 <;> simp : hasS m i 0 = true ∨ (hasS m i 0 = false ∧ hasS m i 1 = true) ∨ (hasS m i 0 = false ∧ hasS m i 1 = false ∧ hasS m i 2 = true) ∨ (hasS m i 0 = false ∧ hasS m i 1 = false ∧ hasS m i 2 = false)) with h0 | ⟨h0, h1⟩ | ⟨h0, h1, h2⟩ | ⟨h0, h1, h2⟩
        have y := yes (by rw [hsd, h0]; rfl)
        simp [h0]
        refine ⟨by omega, ?_⟩
        rw [y]
        refine loop_of Nat (fun k => chkL3 m i k) (fun k => k ≤ 3) (fun k => 3 - k) 0 (by simp) (by simp [chkL3_eq, mshC_eq, fceC_eq, triD, sdK]) ?_
        rotate_left
        have y := yes (by rw [hsd, h0, h1]; rfl)
        simp [h0]
        refine callW_of ks1 (.inl rfl) ?_
        simp [kg1, h1]
        refine ⟨⟨by omega, by omega⟩, by omega, ?_⟩
        rw [y]
        refine loop_of Nat (fun k => chkL3 m i k) (fun k => k ≤ 3) (fun k => 3 - k) 0 (by simp) (by simp [chkL3_eq, mshC_eq, fceC_eq, triD, sdK]) ?_
        rotate_left
        have y := yes (by rw [hsd, h0, h1, h2]; rfl)
        simp [h0]
        refine callW_of ks1 (.inl rfl) ?_
        simp [kg1, h1]
        refine ⟨⟨by omega, by omega⟩, ?_⟩
        refine callW_of ks2 (.inl rfl) ?_
        simp [kg2, h2]
        refine ⟨⟨by omega, by omega⟩, by omega, ?_⟩
        rw [y]
        refine loop_of Nat (fun k => chkL3 m i k) (fun k => k ≤ 3) (fun k => 3 - k) 0 (by simp) (by simp [chkL3_eq, mshC_eq, fceC_eq, triD, sdK]) ?_
        rotate_left
        have y := nos (by rw [hsd, h0, h1, h2]; rfl)
        simp [h0]
        refine callW_of ks1 (.inl rfl) ?_
        simp [kg1, h1]
        refine ⟨⟨by omega, by omega⟩, ?_⟩
        refine callW_of ks2 (.inl rfl) ?_
        simp [kg2, h2]
        refine ⟨⟨by omega, by omega⟩, ?_⟩
        rw [y]
        refine loop_of Nat (fun k => chkL3 m i k) (fun k => k ≤ 3) (fun k => 3 - k) 0 (by simp) (by simp [chkL3_eq, mshC_eq, fceC_eq, triD, sdK]) ?_
        rotate_left
        all_goals
          clear y
          rintro k hk
          simp [chkL3_eq, mshC_eq, fceC_eq, triD]
          refine brB_of (fun g2 => ?_) (fun g2 => ?_) <;> simp at g2 <;> simp [g2]
          · have hw2 : IntKind.wrap .i64 ((k : Int) + 1) = ((k + 1 : Nat) : Int) := wrap_i64 (by omega) (by omega)
            have ck := cb k
            have ck1 := cb (k + 1)
            refine callW_of (ks k (by omega)) (.inl rfl) ?_
            simp [hw2, sdK_len]
            refine ⟨by omega, ⟨⟨by omega, by omega⟩, by omega, by omega⟩, k + 1, by omega, by omega, ?_⟩
            simp [chkL3_eq, mshC_eq, fceC_eq, triD, sdK, List.replicate_succ]
          · have hk3 : k = 3 := by omega
            subst hk3
            simp only [triD] at kT
            simp
            refine callW_of kT (.inl rfl) ?_
            simp
            simp only [triD] at e5
            cases hov2 : overB m i
            · have e9 := nmR_no hov2
              simp [hw]
              refine ⟨by omega, i + 1, by omega, by omega, ?_⟩
              simp [chkL2_eq, mshC_eq, ← b1, ← b2, ← e9, e5, e6, e7, e8]
            · have e9 := nmR_yes hov2
              simp [hw]
              refine ⟨by omega, by omega, i + 1, by omega, by omega, ?_⟩
              simp [chkL2_eq, mshC_eq, ← b1, ← b2, e9, e5, e6, e7, e8]
    · have hi2 : i = m.f.length := by omega
      subst hi2
      have bd : ∀ (p : Nat → Bool) (n : Nat), n ≤ 100 → (fil p n).length ≤ 100 ∧ ∀ x ∈ fil p n, x < 100 := fun p n hn => ⟨by have := fil_le p n; omega, fun x hx => by have := (fil_lt hx).1; omega⟩
      have q1 := bd (farB m) _ hs
      have q2 := bd (sameB m) _ hs
      have q3 := bd (badB m) _ hf
      have q4 := bd (flatB m) _ hf
      have q5 := bd (sideB m) _ hf
      have q6 := bd (overB m) _ hf
      have hLL : LL m = [[], fil (farB m) m.s.length, fil (sameB m) m.s.length, fil (badB m) m.f.length, fil (flatB m) m.f.length, fil (sideB m) m.f.length, fil (overB m) m.f.length] := rfl
      rw [hLL]
      clear hLL bd
      generalize fil (farB m) m.s.length = L1 at *
      generalize fil (sameB m) m.s.length = L2 at *
      generalize fil (badB m) m.f.length = L3 at *
      generalize fil (flatB m) m.f.length = L4 at *
      generalize fil (sideB m) m.f.length = L5 at *
      generalize fil (overB m) m.f.length = L6 at *
      obtain ⟨AG, hAG⟩ : ∃ x, x = agx6 L1 L2 L3 L4 L5 L6 := ⟨_, rfl⟩
      obtain ⟨BK, hBK⟩ : ∃ x, x = blk6 L1 L2 L3 L4 L5 L6 := ⟨_, rfl⟩
      obtain ⟨U, hU⟩ : ∃ U : Nat → List (Int × List UInt8), U = fun k => outF dec 0 (([([] : List Nat), L1, L2, L3, L4, L5, L6]).take k) := ⟨_, rfl⟩
      have hU7 : U 7 = outF dec 0 [[], L1, L2, L3, L4, L5, L6] := by rw [hU]; rfl
      have hU0 : U 0 = [] := by rw [hU]; rfl
      have bdU : ∀ k (L : List Nat), L.length ≤ 100 → (U k).length ≤ 100 * k → (U k ++ L.map fun i => ((k : Int), dec i)).length ≤ 100 * (k + 1) := fun k L h1 h2 => by simp; omega
      have hU0s : U 1 = U 0 ++ (([] : List Nat)).map fun i => ((0 : Int), dec i) := by
        rw [hU]; show outF dec 0 (([([] : List Nat), L1, L2, L3, L4, L5, L6]).take 0 ++ [([] : List Nat)]) = _
        rw [outF_app]; simp [outF]
      have hU1s : U 2 = U 1 ++ (L1).map fun i => ((1 : Int), dec i) := by
        rw [hU]; show outF dec 0 (([([] : List Nat), L1, L2, L3, L4, L5, L6]).take 1 ++ [L1]) = _
        rw [outF_app]; simp [outF]
      have hU2s : U 3 = U 2 ++ (L2).map fun i => ((2 : Int), dec i) := by
        rw [hU]; show outF dec 0 (([([] : List Nat), L1, L2, L3, L4, L5, L6]).take 2 ++ [L2]) = _
        rw [outF_app]; simp [outF]
      have hU3s : U 4 = U 3 ++ (L3).map fun i => ((3 : Int), dec i) := by
        rw [hU]; show outF dec 0 (([([] : List Nat), L1, L2, L3, L4, L5, L6]).take 3 ++ [L3]) = _
        rw [outF_app]; simp [outF]
      have hU4s : U 5 = U 4 ++ (L4).map fun i => ((4 : Int), dec i) := by
        rw [hU]; show outF dec 0 (([([] : List Nat), L1, L2, L3, L4, L5, L6]).take 4 ++ [L4]) = _
        rw [outF_app]; simp [outF]
      have hU5s : U 6 = U 5 ++ (L5).map fun i => ((5 : Int), dec i) := by
        rw [hU]; show outF dec 0 (([([] : List Nat), L1, L2, L3, L4, L5, L6]).take 5 ++ [L5]) = _
        rw [outF_app]; simp [outF]
      have hU6s : U 7 = U 6 ++ (L6).map fun i => ((6 : Int), dec i) := by
        rw [hU]; show outF dec 0 (([([] : List Nat), L1, L2, L3, L4, L5, L6]).take 6 ++ [L6]) = _
        rw [outF_app]; simp [outF]
      have lU0 : (U 0).length ≤ 0 := by rw [hU0]; simp
      have lU1 : (U 1).length ≤ 100 := by rw [hU0s]; simp; omega
      have lU2 : (U 2).length ≤ 200 := by rw [hU1s]; simp; omega
      have lU3 : (U 3).length ≤ 300 := by rw [hU2s]; simp; omega
      have lU4 : (U 4).length ≤ 400 := by rw [hU3s]; simp; omega
      have lU5 : (U 5).length ≤ 500 := by rw [hU4s]; simp; omega
      have lU6 : (U 6).length ≤ 600 := by rw [hU5s]; simp; omega
      rw [← hU7]
      refine loop_of Nat (fun k => [(17, .ref (.r 10272) 0 (U k).length), (10272, .blk 2 (fnR (U k))), (181, AG), (182, .int .i64 k), (10064, BK)]) (fun k => k ≤ 7) (fun k => 7 - k) 0 (by simp) (by simp [hU0, hAG, hBK, agx6_eq, blk6_eq]) ?_
      rintro k hk
      rcases (by omega : k = 0 ∨ k = 1 ∨ k = 2 ∨ k = 3 ∨ k = 4 ∨ k = 5 ∨ k = 6 ∨ k = 7) with rfl | rfl | rfl | rfl | rfl | rfl | rfl | rfl
      · simp [hAG, agx6_eq]
        refine loop_of Nat (fun j => [(17, .ref (.r 10272) 0 ((U 0).length + j)), (10272, .blk 2 (fnR (U 0 ++ tkD dec 0 ([] : List Nat) j))), (18, .int .i64 0), (181, AG), (182, .int .i64 0), (186, .ref (.n 10064 0 0) 0 (([] : List Nat)).length), (187, .int .i64 (([] : List Nat)).length), (188, .int .i64 j), (10064, BK)]) (fun j => j ≤ (([] : List Nat)).length) (fun j => (([] : List Nat)).length - j) 0 (by simp) (by simp [hAG, hBK, agx6_eq, blk6_eq, tkD_zero]) ?_
        rintro j hj
        simp [hAG, hBK, agx6_eq, blk6_eq]
        have hj0 : j = 0 := by simpa using hj
        subst hj0
        simp [w64_1, hAG, hBK, agx6_eq, blk6_eq]
        refine ⟨1, by omega, by omega, ?_⟩
        rw [hU0s]
        simp [tkD]
      · simp [hAG, agx6_eq]
        refine loop_of Nat (fun j => [(17, .ref (.r 10272) 0 ((U 1).length + j)), (10272, .blk 2 (fnR (U 1 ++ tkD dec 1 L1 j))), (18, .int .i64 1), (181, AG), (182, .int .i64 1), (186, .ref (.n 10064 0 1) 0 (L1).length), (187, .int .i64 (L1).length), (188, .int .i64 j), (10064, BK)]) (fun j => j ≤ (L1).length) (fun j => (L1).length - j) 0 (by simp) (by simp [hAG, hBK, agx6_eq, blk6_eq, tkD_zero]) ?_
        rintro j hj
        simp [hAG, hBK, agx6_eq, blk6_eq]
        refine brB_of (fun g3 => ?_) (fun g3 => ?_) <;> simp at g3 <;> simp [g3, hAG, hBK, agx6_eq, blk6_eq]
        · have hj2 : j < L1.length := by omega
          have hw3 : IntKind.wrap .i64 ((j : Int) + 1) = ((j + 1 : Nat) : Int) := wrap_i64 (by omega) (by omega)
          have hi := hI (L1[j]) (q1.2 _ (List.getElem_mem hj2))
          have ht := tkD_succ dec 1 L1 hj2
          have hl := tkD_len dec 1 L1 (Nat.le_of_lt hj2)
          rw [nmR_eq L1]
          try simp [hj2]
          refine callW_of hi (.inl rfl) ?_
          simp
          refine ⟨by omega, by omega, j + 1, by omega, by omega, by omega, ?_, ?_, hw3, ?_⟩
          · have e : (U 1).length + j = (U 1 ++ tkD dec 1 L1 j).length := by simp [hl]
            rw [e, fnR_take, fnR_add, ht, List.append_assoc]
          · rw [hAG, agx6_eq]
          · rw [hBK, blk6_eq]; simp only [nmR_eq]
        · have hj2 : j = L1.length := by omega
          subst hj2
          refine ⟨2, by omega, by omega, ?_⟩
          rw [hU1s, tkD_all]
          simp [hAG, hBK, agx6_eq, blk6_eq]
          decide
      · simp [hAG, agx6_eq]
        refine loop_of Nat (fun j => [(17, .ref (.r 10272) 0 ((U 2).length + j)), (10272, .blk 2 (fnR (U 2 ++ tkD dec 2 L2 j))), (18, .int .i64 2), (181, AG), (182, .int .i64 2), (186, .ref (.n 10064 0 2) 0 (L2).length), (187, .int .i64 (L2).length), (188, .int .i64 j), (10064, BK)]) (fun j => j ≤ (L2).length) (fun j => (L2).length - j) 0 (by simp) (by simp [hAG, hBK, agx6_eq, blk6_eq, tkD_zero]) ?_
        rintro j hj
        simp [hAG, hBK, agx6_eq, blk6_eq]
        refine brB_of (fun g3 => ?_) (fun g3 => ?_) <;> simp at g3 <;> simp [g3, hAG, hBK, agx6_eq, blk6_eq]
        · have hj2 : j < L2.length := by omega
          have hw3 : IntKind.wrap .i64 ((j : Int) + 1) = ((j + 1 : Nat) : Int) := wrap_i64 (by omega) (by omega)
          have hi := hI (L2[j]) (q2.2 _ (List.getElem_mem hj2))
          have ht := tkD_succ dec 2 L2 hj2
          have hl := tkD_len dec 2 L2 (Nat.le_of_lt hj2)
          rw [nmR_eq L2]
          try simp [hj2]
          refine callW_of hi (.inl rfl) ?_
          simp
          refine ⟨by omega, by omega, j + 1, by omega, by omega, by omega, ?_, ?_, hw3, ?_⟩
          · have e : (U 2).length + j = (U 2 ++ tkD dec 2 L2 j).length := by simp [hl]
            rw [e, fnR_take, fnR_add, ht, List.append_assoc]
          · rw [hAG, agx6_eq]
          · rw [hBK, blk6_eq]; simp only [nmR_eq]
        · have hj2 : j = L2.length := by omega
          subst hj2
          refine ⟨3, by omega, by omega, ?_⟩
          rw [hU2s, tkD_all]
          simp [hAG, hBK, agx6_eq, blk6_eq]
          decide
      · simp [hAG, agx6_eq]
        refine loop_of Nat (fun j => [(17, .ref (.r 10272) 0 ((U 3).length + j)), (10272, .blk 2 (fnR (U 3 ++ tkD dec 3 L3 j))), (18, .int .i64 3), (181, AG), (182, .int .i64 3), (186, .ref (.n 10064 0 3) 0 (L3).length), (187, .int .i64 (L3).length), (188, .int .i64 j), (10064, BK)]) (fun j => j ≤ (L3).length) (fun j => (L3).length - j) 0 (by simp) (by simp [hAG, hBK, agx6_eq, blk6_eq, tkD_zero]) ?_
        rintro j hj
        simp [hAG, hBK, agx6_eq, blk6_eq]
        refine brB_of (fun g3 => ?_) (fun g3 => ?_) <;> simp at g3 <;> simp [g3, hAG, hBK, agx6_eq, blk6_eq]
        · have hj2 : j < L3.length := by omega
          have hw3 : IntKind.wrap .i64 ((j : Int) + 1) = ((j + 1 : Nat) : Int) := wrap_i64 (by omega) (by omega)
          have hi := hI (L3[j]) (q3.2 _ (List.getElem_mem hj2))
          have ht := tkD_succ dec 3 L3 hj2
          have hl := tkD_len dec 3 L3 (Nat.le_of_lt hj2)
          rw [nmR_eq L3]
          try simp [hj2]
          refine callW_of hi (.inl rfl) ?_
          simp
          refine ⟨by omega, by omega, j + 1, by omega, by omega, by omega, ?_, ?_, hw3, ?_⟩
          · have e : (U 3).length + j = (U 3 ++ tkD dec 3 L3 j).length := by simp [hl]
            rw [e, fnR_take, fnR_add, ht, List.append_assoc]
          · rw [hAG, agx6_eq]
          · rw [hBK, blk6_eq]; simp only [nmR_eq]
        · have hj2 : j = L3.length := by omega
          subst hj2
          refine ⟨4, by omega, by omega, ?_⟩
          rw [hU3s, tkD_all]
          simp [hAG, hBK, agx6_eq, blk6_eq]
          decide
      · simp [hAG, agx6_eq]
        refine loop_of Nat (fun j => [(17, .ref (.r 10272) 0 ((U 4).length + j)), (10272, .blk 2 (fnR (U 4 ++ tkD dec 4 L4 j))), (18, .int .i64 4), (181, AG), (182, .int .i64 4), (186, .ref (.n 10064 0 4) 0 (L4).length), (187, .int .i64 (L4).length), (188, .int .i64 j), (10064, BK)]) (fun j => j ≤ (L4).length) (fun j => (L4).length - j) 0 (by simp) (by simp [hAG, hBK, agx6_eq, blk6_eq, tkD_zero]) ?_
        rintro j hj
        simp [hAG, hBK, agx6_eq, blk6_eq]
        refine brB_of (fun g3 => ?_) (fun g3 => ?_) <;> simp at g3 <;> simp [g3, hAG, hBK, agx6_eq, blk6_eq]
        · have hj2 : j < L4.length := by omega
          have hw3 : IntKind.wrap .i64 ((j : Int) + 1) = ((j + 1 : Nat) : Int) := wrap_i64 (by omega) (by omega)
          have hi := hI (L4[j]) (q4.2 _ (List.getElem_mem hj2))
          have ht := tkD_succ dec 4 L4 hj2
          have hl := tkD_len dec 4 L4 (Nat.le_of_lt hj2)
          rw [nmR_eq L4]
          try simp [hj2]
          refine callW_of hi (.inl rfl) ?_
          simp
          refine ⟨by omega, by omega, j + 1, by omega, by omega, by omega, ?_, ?_, hw3, ?_⟩
          · have e : (U 4).length + j = (U 4 ++ tkD dec 4 L4 j).length := by simp [hl]
            rw [e, fnR_take, fnR_add, ht, List.append_assoc]
          · rw [hAG, agx6_eq]
          · rw [hBK, blk6_eq]; simp only [nmR_eq]
        · have hj2 : j = L4.length := by omega
          subst hj2
          refine ⟨5, by omega, by omega, ?_⟩
          rw [hU4s, tkD_all]
          simp [hAG, hBK, agx6_eq, blk6_eq]
          decide
      · simp [hAG, agx6_eq]
        refine loop_of Nat (fun j => [(17, .ref (.r 10272) 0 ((U 5).length + j)), (10272, .blk 2 (fnR (U 5 ++ tkD dec 5 L5 j))), (18, .int .i64 5), (181, AG), (182, .int .i64 5), (186, .ref (.n 10064 0 5) 0 (L5).length), (187, .int .i64 (L5).length), (188, .int .i64 j), (10064, BK)]) (fun j => j ≤ (L5).length) (fun j => (L5).length - j) 0 (by simp) (by simp [hAG, hBK, agx6_eq, blk6_eq, tkD_zero]) ?_
        rintro j hj
        simp [hAG, hBK, agx6_eq, blk6_eq]
        refine brB_of (fun g3 => ?_) (fun g3 => ?_) <;> simp at g3 <;> simp [g3, hAG, hBK, agx6_eq, blk6_eq]
        · have hj2 : j < L5.length := by omega
          have hw3 : IntKind.wrap .i64 ((j : Int) + 1) = ((j + 1 : Nat) : Int) := wrap_i64 (by omega) (by omega)
          have hi := hI (L5[j]) (q5.2 _ (List.getElem_mem hj2))
          have ht := tkD_succ dec 5 L5 hj2
          have hl := tkD_len dec 5 L5 (Nat.le_of_lt hj2)
          rw [nmR_eq L5]
          try simp [hj2]
          refine callW_of hi (.inl rfl) ?_
          simp
          refine ⟨by omega, by omega, j + 1, by omega, by omega, by omega, ?_, ?_, hw3, ?_⟩
          · have e : (U 5).length + j = (U 5 ++ tkD dec 5 L5 j).length := by simp [hl]
            rw [e, fnR_take, fnR_add, ht, List.append_assoc]
          · rw [hAG, agx6_eq]
          · rw [hBK, blk6_eq]; simp only [nmR_eq]
        · have hj2 : j = L5.length := by omega
          subst hj2
          refine ⟨6, by omega, by omega, ?_⟩
          rw [hU5s, tkD_all]
          simp [hAG, hBK, agx6_eq, blk6_eq]
          decide
      · simp [hAG, agx6_eq]
        refine loop_of Nat (fun j => [(17, .ref (.r 10272) 0 ((U 6).length + j)), (10272, .blk 2 (fnR (U 6 ++ tkD dec 6 L6 j))), (18, .int .i64 6), (181, AG), (182, .int .i64 6), (186, .ref (.n 10064 0 6) 0 (L6).length), (187, .int .i64 (L6).length), (188, .int .i64 j), (10064, BK)]) (fun j => j ≤ (L6).length) (fun j => (L6).length - j) 0 (by simp) (by simp [hAG, hBK, agx6_eq, blk6_eq, tkD_zero]) ?_
        rintro j hj
        simp [hAG, hBK, agx6_eq, blk6_eq]
        refine brB_of (fun g3 => ?_) (fun g3 => ?_) <;> simp at g3 <;> simp [g3, hAG, hBK, agx6_eq, blk6_eq]
        · have hj2 : j < L6.length := by omega
          have hw3 : IntKind.wrap .i64 ((j : Int) + 1) = ((j + 1 : Nat) : Int) := wrap_i64 (by omega) (by omega)
          have hi := hI (L6[j]) (q6.2 _ (List.getElem_mem hj2))
          have ht := tkD_succ dec 6 L6 hj2
          have hl := tkD_len dec 6 L6 (Nat.le_of_lt hj2)
          rw [nmR_eq L6]
          try simp [hj2]
          refine callW_of hi (.inl rfl) ?_
          simp
          refine ⟨by omega, by omega, j + 1, by omega, by omega, by omega, ?_, ?_, hw3, ?_⟩
          · have e : (U 6).length + j = (U 6 ++ tkD dec 6 L6 j).length := by simp [hl]
            rw [e, fnR_take, fnR_add, ht, List.append_assoc]
          · rw [hAG, agx6_eq]
          · rw [hBK, blk6_eq]; simp only [nmR_eq]
        · have hj2 : j = L6.length := by omega
          subst hj2
          refine ⟨7, by omega, by omega, ?_⟩
          rw [hU6s, tkD_all]
          simp [hAG, hBK, agx6_eq, blk6_eq]
          decide
      · simp [hAG, agx6_eq]
        rfl
end Go.Gv

set_option linter.unusedSimpArgs false
namespace Go.Gv
theorem valid_LL {m : Msh} (h : validM m = true) : ∀ l ∈ LL m, l = [] := by
  simp only [validM, Bool.and_eq_true, List.all_eq_true, decide_eq_true_eq] at h
  exact h.2
theorem valid_s {m : Msh} (h : validM m = true) {i : Nat} (hi : i < m.s.length) : rightS (spt m i) = true := by
  have := fil_nil.1 (valid_LL h (fil (farB m) m.s.length) (by simp [LL])) i hi
  simpa [farB] using this
theorem valid_f {m : Msh} (h : validM m = true) {i : Nat} (hi : i < m.f.length) : okF m (fce m i) = true ∧ 0 < turnT (triF m (fce m i)) := by
  have h1 := fil_nil.1 (valid_LL h (fil (badB m) m.f.length) (by simp [LL])) i hi
  have h2 := fil_nil.1 (valid_LL h (fil (flatB m) m.f.length) (by simp [LL])) i hi
  have h3 : okF m (fce m i) = true := by simpa [badB] using h1
  refine ⟨h3, ?_⟩
  simp [flatB, h3] at h2
  omega
theorem valid_in {m : Msh} (h : validM m = true) {i : Nat} (hi : i < m.f.length) : inS m (fce m i) = true := okF_inS (valid_f h hi).1
/-- It has a side with these ends. -/
def hasSd (f : Fce) (a b : Int) : Bool := (List.range 3).any fun j => decide (crn f j = a) && decide (crn f (j + 1) = b)
/-- The face with a side; -1 if there is none. -/
def sideF (m : Msh) (a b : Int) : Int := idxD (fun f => hasSd f a b) m.f
def nbF (m : Msh) (i k : Nat) : Int := sideF m (crn (fce m i) (k + 1)) (crn (fce m i) k)
def lastF (p : Nat → Bool) : Nat → Option Nat
  | 0 => none
  | i + 1 => if p i then some i else lastF p i
/-- All sides, as keys. -/
def nbKs (m : Msh) : Nat → List D
  | 0 => []
  | i + 1 => sdK (fce m i) 3 ++ nbKs m i
def nbVs (m : Msh) : Nat → List D
  | 0 => []
  | i + 1 => List.replicate 3 (.int .i64 i) ++ nbVs m i
/-- The neighbours, when those of i faces and k more are found. -/
def nbC (m : Msh) (i k j c : Nat) : Int := if j < i ∨ (j = i ∧ c < k) then nbF m j c else 0
def nbR (m : Msh) (i k : Nat) : List (List D) := (List.range m.f.length).map fun j => [.int .i64 (nbC m i k j 0), .int .i64 (nbC m i k j 1), .int .i64 (nbC m i k j 2)]
/-- The neighbours of all faces. -/
def nbA (m : Msh) : List (List D) := (List.range m.f.length).map fun j => [.int .i64 (nbF m j 0), .int .i64 (nbF m j 1), .int .i64 (nbF m j 2)]
@[simp] theorem nbR_len (m : Msh) (i k : Nat) : (nbR m i k).length = m.f.length := by simp [nbR]
@[simp] theorem nbR_take (m : Msh) (i k : Nat) : List.take m.f.length (nbR m i k) = nbR m i k := List.take_of_length_le (by simp)
@[simp] theorem nbR_cv (m : Msh) (i k : Nat) : List.map (fun e => List.map cellV e) (nbR m i k) = nbR m i k := by simp [nbR]
variable {C : CC} (hC : Closed prog C)
include hC
theorem CheckF_c (m : Msh) (h : smallM m = false) : C 273 [.agg (mshC m)] (.tup [.nils, .int .i64 4]) [] := by
  have ksm := msmall_c hC m
  rw [show (decide (m.s.length ≤ 2000) && decide (m.f.length ≤ 4000)) = false from h] at ksm
  refine start hC (nf := N273_mesh_Check) rfl rfl ?_
  simp only [mshC_eq] at ksm
  simp [N273_mesh_Check, mshC_eq]
  refine callW_of ksm (.inl rfl) ?_
  simp
theorem mValid_c (dec : Nat → List UInt8) (hI : ∀ n : Nat, n < 100 → C 127 [.int .i64 n] (.str (dec n)) []) (m : Msh) (hz : smallM m = true → m.s.length ≤ 100 ∧ m.f.length ≤ 100) : C 234 [.agg (mshC m)] (.bool (validM m)) [] := by
  cases hs : smallM m
  · have k := CheckF_c hC m hs
    refine start hC (nf := N234_mesh_Valid) rfl rfl ?_
    simp only [mshC_eq] at k
    simp [N234_mesh_Valid, mshC_eq]
    refine callW_of k (.inr rfl) ?_
    simp [validM, hs]
  · obtain ⟨h1, h2⟩ := hz hs
    have k := Check_c hC dec hI m h1 h2
    have e : validM m = decide ((outF dec 0 (LL m)).length = 0) := by
      rw [validM, hs, Bool.true_and, Bool.eq_iff_iff, decide_eq_true_eq, List.length_eq_zero_iff, outF_nil]
    obtain ⟨X, hX⟩ : ∃ X, X = outF dec 0 (LL m) := ⟨_, rfl⟩
    rw [e]
    rw [← hX] at k ⊢
    refine start hC (nf := N234_mesh_Valid) rfl rfl ?_
    simp only [mshC_eq] at k
    simp [N234_mesh_Valid, mshC_eq]
    refine callW_of k (.inr rfl) ?_
    simp
end Go.Gv

namespace Go.Gv
section
variable {C : CC} {hs : Option (List Nat)} {K : Env → Prop} {ns : List NOper} {dst : Option Nat} {u : Tag (hs, K, ns)} {e : Env} {R : List Nat} {acc : List (List Nat × List Nat)}
@[simp] theorem idxW_at5 {sz : Nat} {c0 c1 c2 c3 c4 c5 : List D} {es : List (List D)} : idxW C hs K ns dst u e R acc sz (c0 :: c1 :: c2 :: c3 :: c4 :: c5 :: es) 5 = (c5.length = sz ∧ dW C hs K ns dst ⟨⟩ e R acc (.ptr c5)) := idxW_some rfl
@[simp] theorem rowW_at5 {n : Nat} {ag : Bool} {p : Pa} {off : Nat} {c0 c1 c2 c3 c4 c5 : List D} {es : List (List D)} : rowW C hs K ns dst u e R acc n ag p (c0 :: c1 :: c2 :: c3 :: c4 :: c5 :: es) 5 off = (off + n ≤ c5.length ∧ match ag with
        | true => (((c5.drop off).take n).all isV = true → dW C hs K ns dst ⟨⟩ e R acc (.agg ((c5.drop off).take n))) ∧
            (((c5.drop off).take n).all isV = false → dW C hs K ns dst ⟨⟩ e R acc (.agx (((c5.drop off).take n).mapIdx fun j c => ldc p 5 (off + j) c)))
        | false => dW C hs K ns dst ⟨⟩ e R acc (ldc p 5 off ((c5.drop off).headD .any))) := rowW_some rfl
@[simp] theorem idxW_at6 {sz : Nat} {c0 c1 c2 c3 c4 c5 c6 : List D} {es : List (List D)} : idxW C hs K ns dst u e R acc sz (c0 :: c1 :: c2 :: c3 :: c4 :: c5 :: c6 :: es) 6 = (c6.length = sz ∧ dW C hs K ns dst ⟨⟩ e R acc (.ptr c6)) := idxW_some rfl
@[simp] theorem rowW_at6 {n : Nat} {ag : Bool} {p : Pa} {off : Nat} {c0 c1 c2 c3 c4 c5 c6 : List D} {es : List (List D)} : rowW C hs K ns dst u e R acc n ag p (c0 :: c1 :: c2 :: c3 :: c4 :: c5 :: c6 :: es) 6 off = (off + n ≤ c6.length ∧ match ag with
        | true => (((c6.drop off).take n).all isV = true → dW C hs K ns dst ⟨⟩ e R acc (.agg ((c6.drop off).take n))) ∧
            (((c6.drop off).take n).all isV = false → dW C hs K ns dst ⟨⟩ e R acc (.agx (((c6.drop off).take n).mapIdx fun j c => ldc p 6 (off + j) c)))
        | false => dW C hs K ns dst ⟨⟩ e R acc (ldc p 6 off ((c6.drop off).headD .any))) := rowW_some rfl
@[simp] theorem idxW_at7 {sz : Nat} {c0 c1 c2 c3 c4 c5 c6 c7 : List D} {es : List (List D)} : idxW C hs K ns dst u e R acc sz (c0 :: c1 :: c2 :: c3 :: c4 :: c5 :: c6 :: c7 :: es) 7 = (c7.length = sz ∧ dW C hs K ns dst ⟨⟩ e R acc (.ptr c7)) := idxW_some rfl
@[simp] theorem rowW_at7 {n : Nat} {ag : Bool} {p : Pa} {off : Nat} {c0 c1 c2 c3 c4 c5 c6 c7 : List D} {es : List (List D)} : rowW C hs K ns dst u e R acc n ag p (c0 :: c1 :: c2 :: c3 :: c4 :: c5 :: c6 :: c7 :: es) 7 off = (off + n ≤ c7.length ∧ match ag with
        | true => (((c7.drop off).take n).all isV = true → dW C hs K ns dst ⟨⟩ e R acc (.agg ((c7.drop off).take n))) ∧
            (((c7.drop off).take n).all isV = false → dW C hs K ns dst ⟨⟩ e R acc (.agx (((c7.drop off).take n).mapIdx fun j c => ldc p 7 (off + j) c)))
        | false => dW C hs K ns dst ⟨⟩ e R acc (ldc p 7 off ((c7.drop off).headD .any))) := rowW_some rfl
end
end Go.Gv

set_option linter.unusedSimpArgs false
namespace Go.Gv
def decF (n : Nat) : List UInt8 := decL n []
/-- The findings of a kind. -/
def fdL (k : Int) (l : List Nat) : List (Int × List UInt8) := l.map fun i => (k, decF i)
@[simp] theorem fdL_len (k : Int) (l : List Nat) : (fdL k l).length = l.length := by simp [fdL]
def fdR (k : Int) (l : List Nat) : List (List D) := fnR (fdL k l)
@[simp] theorem fdR_len (k : Int) (l : List Nat) : (fdR k l).length = l.length := by simp [fdR]
@[simp] theorem fdR_take (k : Int) (l : List Nat) : List.take l.length (fdR k l) = fdR k l := List.take_of_length_le (by simp)
@[simp] theorem fdR_c1 (k : Int) (l : List Nat) : (∀ e ∈ fdR k l, ∀ c ∈ e, isC1 c = true) = True := by simp [fdR, fnR, fnD, fdL]
@[simp] theorem fdR_c1a (k : Int) (l : List Nat) (x : List D) : (∀ e, e ∈ fdR k l ∨ e = x → ∀ c, c ∈ e → isC1 c = true) = ∀ c, c ∈ x → isC1 c = true := by
  apply propext
  constructor
  · exact fun h => h x (.inr rfl)
  · rintro h e (he | rfl)
    · exact (fdR_c1 k l).mpr trivial e he
    · exact h
@[simp] theorem fdR_nil (k : Int) : fdR k [] = [] := rfl
/-- Faces, as rows. -/
def fcR (m : Msh) (l : List Nat) : List (List D) := l.map fun k => fceC (fce m k)
@[simp] theorem fcR_len (m : Msh) (l : List Nat) : (fcR m l).length = l.length := by simp [fcR]
@[simp] theorem fcR_take (m : Msh) (l : List Nat) : List.take l.length (fcR m l) = fcR m l := List.take_of_length_le (by simp)
@[simp] theorem fcR_nil (m : Msh) : fcR m [] = [] := rfl
def anyT (p : Nat → Bool) (l : List Nat) (k : Nat) : Bool := (l.take k).any p
def shP (m : Msh) (i k : Nat) : Bool := shareB (fce m i) (fce m k)
def ovP (m : Msh) (i k : Nat) : Bool := ovT (triF m (fce m i)) (triF m (fce m k))
def rcE4 (m : Msh) (i k : Nat) : Env := [(1, .ptr (mshC m)), (3, .ref (.r 10048) 0 7), (10048, .blk 1 [[.own 2 []], [.own 2 (fdR 1 (fil (farB m) m.s.length))], [.own 2 (fdR 2 (fil (sameB m) m.s.length))], [.own 2 (fdR 3 (fil (badB m) i))], [.own 2 (fdR 4 (fil (flatB m) i))], [.own 2 (fdR 5 (fil (sideB m) i))], [.own 2 (fdR 6 (fil (overB m) i))]]), (7, .ref (.r 10112) 0 (fil (sndB m) i).length), (10112, .blk 4 (fcR m (fil (sndB m) i))), (8, .int .i64 i), (9, .adr (.r 10144) 0 0), (10144, .blk 4 [fceC (fce m i)]), (10, .bool (anyT (shP m i) (fil (sndB m) i) k)), (11, .bool (anyT (ovP m i) (fil (sndB m) i) k)), (12, .int .i64 k)]
def rcE1 (m : Msh) (i : Nat) : Env := [(1, .ptr (mshC m)), (3, .ref (.r 10048) 0 7), (10048, .blk 1 [[.own 2 []], [.own 2 (fdR 1 (fil (farB m) i))], [.own 2 (fdR 2 (fil (sameB m) i))], [.own 2 []], [.own 2 []], [.own 2 []], [.own 2 []]]), (4, .int .i64 i)]
def rcE2 (m : Msh) (i k : Nat) : Env := [(1, .ptr (mshC m)), (3, .ref (.r 10048) 0 7), (10048, .blk 1 [[.own 2 []], [.own 2 (fdR 1 (fil (farB m) i))], [.own 2 (fdR 2 (fil (sameB m) i))], [.own 2 []], [.own 2 []], [.own 2 []], [.own 2 []]]), (4, .int .i64 i), (5, .adr (.r 10080) 0 0), (10080, .blk 3 [sptC (spt m i)]), (6, .int .i64 k)]
def rcE3 (m : Msh) (i : Nat) : Env := [(1, .ptr (mshC m)), (3, .ref (.r 10048) 0 7), (10048, .blk 1 [[.own 2 []], [.own 2 (fdR 1 (fil (farB m) m.s.length))], [.own 2 (fdR 2 (fil (sameB m) m.s.length))], [.own 2 (fdR 3 (fil (badB m) i))], [.own 2 (fdR 4 (fil (flatB m) i))], [.own 2 (fdR 5 (fil (sideB m) i))], [.own 2 (fdR 6 (fil (overB m) i))]]), (7, .ref (.r 10112) 0 (fil (sndB m) i).length), (10112, .blk 4 (fcR m (fil (sndB m) i))), (8, .int .i64 i)]
variable {C : CC} (hC : Closed prog C)
include hC
end Go.Gv

set_option linter.unusedSimpArgs false
namespace Go.Gv
def nbE1 (m : Msh) (i : Nat) : Env := [(1, .ptr (mshC m)), (3, .mrf 10224), (10224, .mp 3 2 (nbKs m i) (nbVs m i)), (16, slx m.fn (m.f.map fceC)), (17, .int .i64 m.f.length), (18, .int .i64 i)]
def nbE2 (m : Msh) (i k : Nat) : Env := [(1, .ptr (mshC m)), (3, .mrf 10224), (10224, .mp 3 2 (sdK (fce m i) k ++ nbKs m i) (List.replicate k (.int .i64 i) ++ nbVs m i)), (4, .int .i64 i), (5, .adr (.r 10080) 0 0), (10080, .blk 4 [fceC (fce m i)]), (16, slx m.fn (m.f.map fceC)), (17, .int .i64 m.f.length), (18, .int .i64 i), (23, .int .i64 k)]
def nbE3 (m : Msh) (i : Nat) : Env := [(3, .mrf 10224), (10224, .mp 3 2 (nbKs m m.f.length) (nbVs m m.f.length)), (7, .ref (.r 10112) 0 m.f.length), (10112, .blk 3 (nbR m i 0)), (38, slx m.fn (m.f.map fceC)), (39, .int .i64 m.f.length), (40, .int .i64 i)]
def nbE4 (m : Msh) (i k : Nat) : Env := [(3, .mrf 10224), (10224, .mp 3 2 (nbKs m m.f.length) (nbVs m m.f.length)), (7, .ref (.r 10112) 0 m.f.length), (10112, .blk 3 (nbR m i k)), (8, .int .i64 i), (9, .adr (.r 10144) 0 0), (10144, .blk 4 [fceC (fce m i)]), (38, slx m.fn (m.f.map fceC)), (39, .int .i64 m.f.length), (40, .int .i64 i), (45, .int .i64 k)]
variable {C : CC} (hC : Closed prog C)
include hC
end Go.Gv

set_option linter.unusedSimpArgs false
namespace Go.Gv
theorem rightS_bd {s : Spt} (h : rightS s = true) : -16777216 ≤ s.x ∧ s.x ≤ 16777216 ∧ -16777216 ≤ s.y ∧ s.y ≤ 16777216 ∧ -4194304 ≤ s.z ∧ s.z ≤ 4194304 := by
  simp only [rightS, Bool.and_eq_true, decide_eq_true_eq] at h
  omega
def spA (m : Msh) (i : Nat) : Spt := spt m (fce m i).a.toNat
def spB (m : Msh) (i : Nat) : Spt := spt m (fce m i).b.toNat
def spC (m : Msh) (i : Nat) : Spt := spt m (fce m i).c.toNat
def sumF (m : Msh) (i : Nat) : Int := (spA m i).z + (spB m i).z + (spC m i).z
def cenX (m : Msh) (i : Nat) : Int := (spA m i).x + (spB m i).x + (spC m i).x
def cenY (m : Msh) (i : Nat) : Int := (spA m i).y + (spB m i).y + (spC m i).y
theorem sp_bd {m : Msh} (hv : validM m = true) {i : Nat} (hi : i < m.f.length) : rightS (spA m i) = true ∧ rightS (spB m i) = true ∧ rightS (spC m i) = true := by
  obtain ⟨⟨_, h1⟩, ⟨_, h2⟩, ⟨_, h3⟩⟩ := inS_bd (valid_in hv hi)
  exact ⟨valid_s hv h1, valid_s hv h2, valid_s hv h3⟩
def smR (m : Msh) (i : Nat) : List (List D) := (List.range i).map fun j => [.int .i64 (sumF m j)]
def ctR (m : Msh) (i : Nat) : List (List D) := (List.range i).map fun j => [.int .i64 (cenX m j), .int .i64 (cenY m j)]
@[simp] theorem smR_len (m : Msh) (i : Nat) : (smR m i).length = i := by simp [smR]
@[simp] theorem ctR_len (m : Msh) (i : Nat) : (ctR m i).length = i := by simp [ctR]
@[simp] theorem smR_take (m : Msh) (i : Nat) : List.take i (smR m i) = smR m i := List.take_of_length_le (by simp)
@[simp] theorem ctR_take (m : Msh) (i : Nat) : List.take i (ctR m i) = ctR m i := List.take_of_length_le (by simp)
@[simp] theorem smR_c1a (m : Msh) (i : Nat) (x : List D) : (∀ e, e ∈ smR m i ∨ e = x → ∀ c, c ∈ e → isC1 c = true) = ∀ c, c ∈ x → isC1 c = true := by
  apply propext
  constructor
  · exact fun h => h x (.inr rfl)
  · rintro h e (he | rfl)
    · obtain ⟨j, _, rfl⟩ := List.mem_map.1 he
      simp
    · exact h
@[simp] theorem ctR_c1a (m : Msh) (i : Nat) (x : List D) : (∀ e, e ∈ ctR m i ∨ e = x → ∀ c, c ∈ e → isC1 c = true) = ∀ c, c ∈ x → isC1 c = true := by
  apply propext
  constructor
  · exact fun h => h x (.inr rfl)
  · rintro h e (he | rfl)
    · obtain ⟨j, _, rfl⟩ := List.mem_map.1 he
      simp
    · exact h
/-- A cell that is nil at first. -/
def cN (sz : Nat) (es : List (List D)) : D := match es with
  | [] => .nils
  | e :: r => .own sz (e :: r)
@[simp] theorem cellV_cN (sz : Nat) (es : List (List D)) : cellV (cN sz es) = slx true es := by cases es <;> rfl
/-- A ground. -/
def grC (m : Msh) : List D := [.sl (nbA m), slx true (smR m m.f.length), slx true (ctR m m.f.length)]
def mdE (m : Msh) (i : Nat) : Env := [(1, .ptr (mshC m)), (6, .adr (.r 10352) 0 0), (10352, .blk 3 [[.sl (nbA m), cN 1 (smR m i), cN 2 (ctR m i)]]), (24, slx m.fn (m.f.map fceC)), (25, .int .i64 m.f.length), (26, .int .i64 i)]
variable {C : CC} (hC : Closed prog C)
include hC
end Go.Gv

set_option linter.unusedSimpArgs false
namespace Go.Gv
/-- It is beside it. -/
def bsd (m : Msh) (i : Nat) (o : Int) : Bool := decide (o = nbF m i 0) || (decide (o = nbF m i 1) || decide (o = nbF m i 2))
def difF (m : Msh) (i j : Nat) : Int := sumF m i - sumF m j
def numF (m : Msh) (i j : Nat) : Int := difF m i j * (if difF m i j < -difF m i j then -difF m i j else difF m i j)
def denF (m : Msh) (i j : Nat) : Int := (cenX m i - cenX m j) * (cenX m i - cenX m j) + (cenY m i - cenY m j) * (cenY m i - cenY m j)
def cmpF (m : Msh) (i a b : Nat) : Int := cmp3 (numF m i a * denF m i b) (numF m i b * denF m i a)
def stpF (m : Msh) (i : Nat) (best n : Int) : Int := if n < 0 ∨ sumF m i ≤ sumF m n.toNat then best else if best < 0 then n else if 0 < cmpF m i n.toNat best.toNat ∨ (cmpF m i n.toNat best.toNat = 0 ∧ n < best) then n else best
def upF (m : Msh) (i : Nat) : Nat → Int
  | 0 => -2
  | k + 1 => stpF m i (upF m i k) (nbF m i k)
def runF (m : Msh) (i : Nat) : Int := if upF m i 3 = -2 ∧ bsd m i (-1) = true then -1 else upF m i 3
variable {C : CC} (hC : Closed prog C)
include hC
end Go.Gv

set_option linter.unusedSimpArgs false
namespace Go.Gv
def inR (l : List Int) : List (List D) := l.map fun n => [.int .i64 n]
@[simp] theorem inR_len (l : List Int) : (inR l).length = l.length := by simp [inR]
@[simp] theorem inR_take (l : List Int) : List.take l.length (inR l) = inR l := List.take_of_length_le (by simp)
@[simp] theorem inR_cv (l : List Int) : List.map (fun e => List.map cellV e) (inR l) = inR l := by simp [inR]
@[simp] theorem inR_nil : inR [] = [] := rfl
def sumL (m : Msh) : List Int := (List.range m.f.length).map fun j => sumF m j
def flowL (m : Msh) : List Int := (List.range m.f.length).map fun j => runF m j
def flT (m : Msh) (i : Nat) : List Int := (List.range i).map fun j => runF m j
/-- The row of the flow, with its room. -/
def flB (m : Msh) : Nat → List (List D)
  | 0 => List.replicate m.f.length [.int .i64 0]
  | i + 1 => inR (flT m (i + 1))
/-- Along a path. -/
def pth (m : Msh) : Nat → Int → List Int
  | 0, _ => []
  | k + 1, f => if f < 0 then [] else f :: pth m k (runF m f.toNat)
def rnk (m : Msh) (i : Nat) : Nat := ((List.range m.f.length).filter fun j => decide (sumF m j < sumF m i)).length
def pathL (m : Msh) (f : Int) : List Int := pth m m.f.length f
def lakT (m : Msh) (i : Nat) : List Int := ((List.range i).filter fun j => decide (runF m j = -2)).map fun (j : Nat) => (j : Int)
def lakL (m : Msh) : List Int := lakT m m.f.length
variable {C : CC} (hC : Closed prog C)
include hC
end Go.Gv

set_option linter.unusedSimpArgs false
namespace Go.Gv
/-- What Slope finds wrong. -/
def slE (m : Msh) (a b : Int) : Int := if validM m = false then 1 else if inR1 m.f.length a = false ∨ inR1 m.f.length b = false then 2 else if bsd m a.toNat b = false then 25 else 0
def stE (m : Msh) (i a b : Int) : Int := if validM m = false then 1 else if inR1 m.f.length i = false ∨ inR1 m.f.length a = false ∨ inR1 m.f.length b = false then 2 else if bsd m i.toNat a = false ∨ bsd m i.toNat b = false then 25 else 0
variable {C : CC} (hC : Closed prog C)
include hC
end Go.Gv

set_option linter.unusedSimpArgs false
namespace Go.Gv
theorem idxD_at {α : Type} {p : α → Bool} {xs : List α} {i : Nat} (h : idxD p xs = (i : Int)) : ∃ h : i < xs.length, p xs[i] = true := by
  unfold idxD at h
  cases e : xs.findIdx? p with
  | none => rw [e] at h; simp at h
  | some k =>
    rw [e] at h
    have h : k = i := by have h : (k : Int) = (i : Int) := h; omega
    subst h
    rw [List.findIdx?_eq_some_iff_getElem] at e
    exact ⟨e.1, e.2.1⟩
/-- A corner's point. -/
def cpt (m : Msh) (f : Fce) (k : Nat) : Pnt := ptS (spt m (crn f k).toNat)
end Go.Gv

set_option linter.unusedSimpArgs false
namespace Go.Gv
/-- The turns of a face's sides and a point. -/
def tn0 (m : Msh) (i : Nat) (p : Pnt) : Int := turnP (ptS (spA m i)) (ptS (spB m i)) p
def tn1 (m : Msh) (i : Nat) (p : Pnt) : Int := turnP (ptS (spB m i)) (ptS (spC m i)) p
def tn2 (m : Msh) (i : Nat) (p : Pnt) : Int := turnP (ptS (spC m i)) (ptS (spA m i)) p
/-- The first side on the right of which a point is. -/
def osF (m : Msh) (i : Nat) (p : Pnt) : Int := if tn0 m i p < 0 then 0 else if tn1 m i p < 0 then 1 else if tn2 m i p < 0 then 2 else -1
/-- The face of a point. -/
def fndF (m : Msh) (p : Pnt) : Int := idxD (fun i => decide (osF m i p < 0)) (List.range m.f.length)
theorem fndF_on {m : Msh} {p : Pnt} (h : 0 ≤ fndF m p) : (fndF m p).toNat < m.f.length ∧ osF m (fndF m p).toNat p < 0 := by
  have e : fndF m p = ((fndF m p).toNat : Int) := by omega
  obtain ⟨h1, h2⟩ := idxD_at (p := fun i => decide (osF m i p < 0)) (xs := List.range m.f.length) e
  simp at h1 h2
  exact ⟨h1, h2⟩
theorem osF_on {m : Msh} {i : Nat} {p : Pnt} (h : osF m i p < 0) : 0 ≤ tn0 m i p ∧ 0 ≤ tn1 m i p ∧ 0 ≤ tn2 m i p := by
  unfold osF at h
  split at h
  · omega
  · split at h
    · omega
    · split at h
      · omega
      · omega
def cor9 (m : Msh) (i : Nat) : List D := [.int .i64 (spA m i).x, .int .i64 (spA m i).y, .int .i64 (spA m i).z, .int .i64 (spB m i).x, .int .i64 (spB m i).y, .int .i64 (spB m i).z, .int .i64 (spC m i).x, .int .i64 (spC m i).y, .int .i64 (spC m i).z]
theorem cor9_eq (m : Msh) (i : Nat) : cor9 m i = [.int .i64 (spA m i).x, .int .i64 (spA m i).y, .int .i64 (spA m i).z, .int .i64 (spB m i).x, .int .i64 (spB m i).y, .int .i64 (spB m i).z, .int .i64 (spC m i).x, .int .i64 (spC m i).y, .int .i64 (spC m i).z] := _root_.id rfl
theorem sp_okP {m : Msh} (hv : validM m = true) {i : Nat} (hi : i < m.f.length) : okP (ptS (spA m i)) = true ∧ okP (ptS (spB m i)) = true ∧ okP (ptS (spC m i)) = true := by
  obtain ⟨h1, h2, h3⟩ := sp_bd hv hi
  exact ⟨okP_of h1, okP_of h2, okP_of h3⟩
@[simp] theorem ptD_len (p : Pnt) : (ptD p).length = 2 := _root_.id rfl
@[simp] theorem ptD_take (p : Pnt) : List.take 2 (ptD p) = ptD p := _root_.id rfl
@[simp] theorem ptD_v (p : Pnt) : (∀ x, x ∈ ptD p → isV x = true) = True := by simp [ptD]
@[simp] theorem ptD_c (p : Pnt) : (∀ x, x ∈ ptD p → isC1 x = true) = True := by simp [ptD]
variable {C : CC} (hC : Closed prog C)
include hC
theorem lcorners_c (m : Msh) (i : Nat) (hi : i < m.f.length) (h : inS m (fce m i) = true) : C 319 [.agg (mshC m), .int .i64 i] (.agg (cor9 m i)) [] := by
  obtain ⟨⟨a1, a2⟩, ⟨b1, b2⟩, ⟨c1, c2⟩⟩ := inS_bd h
  refine start hC (nf := N319_locate_corners) rfl rfl ?_
  simp [N319_locate_corners, mshC_eq, hi, fceC_eq, a1, a2, b1, b2, c1, c2, sptC_eq, cor9, spA, spB, spC]
  exact indW_of (by decide +kernel)
theorem lat_c (s : Spt) : C 321 [.agg (sptC s)] (.agg (ptD (ptS s))) [] := by
  refine start hC (nf := N321_locate_at) rfl rfl ?_
  simp [N321_locate_at, sptC, ptD, ptS]
theorem lturn_c {a b c : Pnt} (ha : okP a = true) (hb : okP b = true) (hc : okP c = true) : C 320 [.agg (ptD a), .agg (ptD b), .agg (ptD c)] (.int .i64 (turnP a b c)) [] := by
  have := okP_bd ha
  have := okP_bd hb
  have := okP_bd hc
  have h4 := turn_bd ha hb hc
  refine start hC (nf := N320_locate_turn) rfl rfl ?_
  have w1 : IntKind.wrap .i64 (b.1 - a.1) = b.1 - a.1 := wrap_i64 rfl (by omega)
  have w2 : IntKind.wrap .i64 (c.2 - a.2) = c.2 - a.2 := wrap_i64 rfl (by omega)
  have w3 : IntKind.wrap .i64 (b.2 - a.2) = b.2 - a.2 := wrap_i64 rfl (by omega)
  have w4 : IntKind.wrap .i64 (c.1 - a.1) = c.1 - a.1 := wrap_i64 rfl (by omega)
  have w5 : IntKind.wrap .i64 ((b.1 - a.1) * (c.2 - a.2)) = (b.1 - a.1) * (c.2 - a.2) := wrap_i64 rfl (by omega)
  have w6 : IntKind.wrap .i64 ((b.2 - a.2) * (c.1 - a.1)) = (b.2 - a.2) * (c.1 - a.1) := wrap_i64 rfl (by omega)
  have w7 : IntKind.wrap .i64 ((b.1 - a.1) * (c.2 - a.2) - (b.2 - a.2) * (c.1 - a.1)) = turnP a b c := wrap_i64 rfl (by rw [turnP]; omega)
  simp [N320_locate_turn, ptD, w1, w2, w3, w4, w5, w6, w7]
set_option maxHeartbeats 2000000 in
theorem louter_c (m : Msh) (hv : validM m = true) (i : Nat) (hi : i < m.f.length) (p : Pnt) (hp : okP p = true) : C 284 [.agg (mshC m), .int .i64 i, .agg (ptD p)] (.int .i64 (osF m i p)) [] := by
  obtain ⟨oa, ob, oc⟩ := sp_okP hv hi
  have k0 := lcorners_c hC m i hi (valid_in hv hi)
  have ka := lat_c hC (spA m i)
  have kb := lat_c hC (spB m i)
  have kc := lat_c hC (spC m i)
  have t0 : C 320 [.agg (ptD (ptS (spA m i))), .agg (ptD (ptS (spB m i))), .agg (ptD p)] (.int .i64 (tn0 m i p)) [] := lturn_c hC oa ob hp
  have t1 : C 320 [.agg (ptD (ptS (spB m i))), .agg (ptD (ptS (spC m i))), .agg (ptD p)] (.int .i64 (tn1 m i p)) [] := lturn_c hC ob oc hp
  have t2 : C 320 [.agg (ptD (ptS (spC m i))), .agg (ptD (ptS (spA m i))), .agg (ptD p)] (.int .i64 (tn2 m i p)) [] := lturn_c hC oc oa hp
  have w1 : IntKind.wrap .i64 1 = 1 := by decide
  have w2 : IntKind.wrap .i64 2 = 2 := by decide
  have w3 : IntKind.wrap .i64 3 = 3 := by decide
  have m1 : Int.tmod 1 3 = 1 := by decide
  have m2 : Int.tmod 2 3 = 2 := by decide
  have m3 : Int.tmod 3 3 = 0 := by decide
  simp only [mshC_eq, sptC_eq, cor9_eq] at k0 ka kb kc
  refine start hC (nf := N284_locate_outer) rfl rfl ?_
  simp [N284_locate_outer, mshC_eq]
  refine callW_of k0 (.inl rfl) ?_
  simp
  refine loop_of Nat (fun k => [(5, .ptr (ptD p)), (7, .adr (.r 10112) 0 0), (12, .int .i64 k), (10112, .blk 9 [cor9 m i])]) (fun k => k ≤ 3 ∧ (1 ≤ k → ¬ tn0 m i p < 0) ∧ (2 ≤ k → ¬ tn1 m i p < 0) ∧ (3 ≤ k → ¬ tn2 m i p < 0)) (fun k => 3 - k) 0 (by simp) (by simp [cor9_eq]) ?_
  rintro k ⟨hk, h0, h1, h2⟩
  rcases (by omega : k = 0 ∨ k = 1 ∨ k = 2 ∨ k = 3) with rfl | rfl | rfl | rfl
  · simp [cor9_eq, w1]
    refine callW_of ka (.inl rfl) ?_
    simp [w1, m1]
    refine callW_of kb (.inl rfl) ?_
    simp
    refine callW_of t0 (.inl rfl) ?_
    simp
    refine ⟨indW_of (by decide +kernel), ?_⟩
    refine brB_of (fun c => ?_) (fun c => ?_) <;> simp at c
    · simp [c, osF]
    · simp [c]
      exact ⟨1, by omega, by omega, by simp [cor9_eq, w1]⟩
  · have h0 := h0 (by omega)
    simp [cor9_eq, w2]
    refine callW_of kb (.inl rfl) ?_
    simp [w2, m2]
    refine callW_of kc (.inl rfl) ?_
    simp
    refine callW_of t1 (.inl rfl) ?_
    simp
    refine ⟨indW_of (by decide +kernel), ?_⟩
    refine brB_of (fun c => ?_) (fun c => ?_) <;> simp at c
    · simp [c, osF, h0]
    · simp [c]
      exact ⟨2, by omega, by omega, by simp [cor9_eq, w2]⟩
  · have h0 := h0 (by omega)
    have h1 := h1 (by omega)
    simp [cor9_eq, w3]
    refine callW_of kc (.inl rfl) ?_
    simp [w3, m3]
    refine callW_of ka (.inl rfl) ?_
    simp
    refine callW_of t2 (.inl rfl) ?_
    simp
    refine ⟨indW_of (by decide +kernel), ?_⟩
    refine brB_of (fun c => ?_) (fun c => ?_) <;> simp at c
    · simp [c, osF, h0, h1]
    · simp [c]
      exact ⟨3, by omega, by omega, by simp [cor9_eq, w3]⟩
  · have h0 := h0 (by omega)
    have h1 := h1 (by omega)
    have h2 := h2 (by omega)
    simp [osF, h0, h1, h2]
set_option maxHeartbeats 2000000 in
theorem lfind_c (m : Msh) (hv : validM m = true) (hm : m.f.length ≤ 100) (p : Pnt) (hp : okP p = true) : C 276 [.agg (mshC m), .agg (ptD p)] (.int .i64 (fndF m p)) [] := by
  have ko := fun i hi => louter_c hC m hv i hi p hp
  simp only [mshC_eq] at ko
  refine start hC (nf := N276_locate_find) rfl rfl ?_
  simp [N276_locate_find, mshC_eq]
  refine loop_of Nat (fun i => [(2, .ptr (mshC m)), (3, .ptr (ptD p)), (8, .int .i64 m.f.length), (9, .int .i64 i)]) (fun i => i ≤ m.f.length ∧ ∀ j, j < i → ¬ osF m j p < 0) (fun i => m.f.length - i) 0 (by simp) (by simp [mshC_eq]) ?_
  rintro i ⟨hi, hj⟩
  simp [mshC_eq]
  refine brB_of (fun g1 => ?_) (fun g1 => ?_) <;> simp at g1 <;> simp [g1]
  · have hw : IntKind.wrap .i64 ((i : Int) + 1) = ((i + 1 : Nat) : Int) := wrap_i64 (by omega) (by omega)
    refine callW_of (ko i g1) (.inl rfl) ?_
    simp
    refine brB_of (fun c => ?_) (fun c => ?_) <;> simp at c
    · simp [c]
      refine (idxD_step (fun j hl hji => ?_) (by simpa using g1) ?_).symm
      · have := hj j hji
        simpa using this
      · simpa using c
    · simp [c]
      refine ⟨i + 1, ⟨by omega, fun j hji => ?_⟩, by omega, by simp [mshC_eq, hw]⟩
      rcases Nat.lt_succ_iff_lt_or_eq.1 hji with h | rfl
      · exact Int.not_lt.1 (hj j h)
      · exact c
  · refine (idxD_none (fun j hl => ?_)).symm
    rw [List.length_range] at hl
    have := hj j (by omega)
    simpa using this
theorem idxPnt_c {b : Bool} {xs : List Pnt} {g : Nat} {cs : List D} (p : Pnt → Bool) (hs : xs.length < 2 ^ 62) (hp : ∀ x ∈ xs, C g (.agg (ptD x) :: cs) (.bool (p x)) []) : C 278 [slx b (xs.map fun x => ptD x), .fn g cs] (.int .i64 (idxD p xs)) [] := by
  refine start hC (nf := N278_slices_IndexFunc__api_Point_api_Point) rfl rfl ?_
  simp [N278_slices_IndexFunc__api_Point_api_Point]
  refine loop_of Nat (fun i => [(0, slx b (xs.map fun x => ptD x)), (1, .fn g cs), (7, .int .i64 xs.length), (8, .int .i64 i)]) (fun i => i ≤ xs.length ∧ ∀ (j : Nat) (h : j < xs.length), j < i → p xs[j] = false) (fun i => xs.length - i) 0 (by simp) (by simp) ?_
  rintro i ⟨hi, hj⟩
  simp
  refine brB_of (fun h => ?_) (fun h => ?_) <;> simp [h] <;> simp at h
  · have hw : IntKind.wrap .i64 ((i : Int) + 1) = ((i + 1 : Nat) : Int) := wrap_i64 (by omega) (by omega)
    have hc := hp _ (List.getElem_mem h)
    simp [h, ptD] at hc ⊢
    refine callW_of hc (.inl rfl) ?_
    simp
    refine brB_of (fun h1 => ?_) (fun h1 => ?_) <;> simp [h1, hw]
    · rw [idxD_step hj h h1]
    · refine ⟨i + 1, ⟨by omega, fun j hl hjj => ?_⟩, by omega, rfl⟩
      rcases Nat.lt_succ_iff_lt_or_eq.1 hjj with h2 | rfl
      · exact hj j hl h2
      · exact h1
  · rw [idxD_none (fun j hl => hj j hl (by omega))]
theorem hasPnt_c {b : Bool} {xs : List Pnt} {g : Nat} {cs : List D} (p : Pnt → Bool) (hs : xs.length < 2 ^ 62) (hp : ∀ x ∈ xs, C g (.agg (ptD x) :: cs) (.bool (p x)) []) : C 239 [slx b (xs.map fun x => ptD x), .fn g cs] (.bool (xs.any p)) [] := by
  refine start hC (nf := N239_slices_ContainsFunc__api_Point_api_Point) rfl rfl ?_
  simp [N239_slices_ContainsFunc__api_Point_api_Point]
  refine callW_of (idxPnt_c hC p hs hp) (.inl rfl) ?_
  simp [idxD_any]
theorem lvalid1_c (p : Pnt) : C 312 [.agg (ptD p)] (.bool (!okP p)) [] := by
  have k := pValid_c hC p
  simp only [ptD] at k
  refine start hC (nf := N312_locate_valid_1) rfl rfl ?_
  simp [N312_locate_valid_1, ptD]
  refine callW_of k (.inl rfl) ?_
  simp
end Go.Gv

set_option linter.unusedSimpArgs false
namespace Go.Gv
def onE (m : Msh) (p : Pnt) : Int := if validM m = true ∧ okP p = true then (if fndF m p < 0 then 12 else 0) else 1
def onV (m : Msh) (p : Pnt) : Int := if onE m p = 0 then fndF m p else 0
theorem onE_at {m : Msh} {p : Pnt} (h : onE m p = 0) : validM m = true ∧ okP p = true ∧ 0 ≤ fndF m p := by
  unfold onE at h
  split at h
  · rename_i h1
    refine ⟨h1.1, h1.2, ?_⟩
    split at h
    · omega
    · omega
  · omega
/-- A walk: the rest of the steps, and the face. -/
def wlk (m : Msh) (p : Pnt) : Nat → Nat → Int × Int × Int
  | r, f => if osF m f p < 0 then ((f : Int), ((m.f.length - r : Nat) : Int), 0) else if nbF m f (osF m f p).toNat < 0 then (0, 0, 12) else match r with
    | 0 => (0, 0, 6)
    | r + 1 => wlk m p r (nbF m f (osF m f p).toNat).toNat
def wkR (m : Msh) (from_ : Int) (p : Pnt) : Int × Int × Int := if validM m = true ∧ okP p = true then (if inR1 m.f.length from_ = true then wlk m p m.f.length from_.toNat else (0, 0, 2)) else (0, 0, 1)
def trpD (t : Int × Int × Int) : D := .tup [.int .i64 t.1, .int .i64 t.2.1, .int .i64 t.2.2]
variable {C : CC} (hC : Closed prog C)
include hC
theorem lvalid_c (dec : Nat → List UInt8) (hI : ∀ n : Nat, n < 100 → C 127 [.int .i64 n] (.str (dec n)) []) (m : Msh) (hz : smallM m = true → m.s.length ≤ 100 ∧ m.f.length ≤ 100) (b : Bool) (ps : List Pnt) (hp : ps.length < 2 ^ 62) :
    C 275 [.agg (mshC m), slx b (ps.map fun x => ptD x)] (.bool (validM m && ps.all okP)) [] := by
  have k1 := mValid_c hC dec hI m hz
  have k2 := hasPnt_c hC (b := b) (xs := ps) (g := 312) (cs := []) (fun x => !okP x) hp (fun x _ => lvalid1_c hC x)
  have e : (ps.any fun x => !okP x) = !ps.all okP := by rw [List.all_eq_not_any_not, Bool.not_not]
  rw [e] at k2
  refine start hC (nf := N275_locate_valid) rfl rfl ?_
  simp only [mshC_eq] at k1
  simp [N275_locate_valid, mshC_eq]
  refine callW_of k1 (.inl rfl) ?_
  cases validM m
  · simp
  · simp
    refine callW_of k2 (.inl rfl) ?_
    simp
theorem lon_c (dec : Nat → List UInt8) (hI : ∀ n : Nat, n < 100 → C 127 [.int .i64 n] (.str (dec n)) []) (m : Msh) (hz : smallM m = true → m.s.length ≤ 100 ∧ m.f.length ≤ 100) (p : Pnt) :
    C 274 [.agg (mshC m), .agg (ptD p)] (.tup [.int .i64 (onV m p), .int .i64 (onE m p)]) [] := by
  have k1 := lvalid_c hC dec hI m hz false [p] (by simp)
  simp at k1
  refine start hC (nf := N274_locate_on) rfl rfl ?_
  simp only [mshC_eq] at k1
  simp only [ptD] at k1
  simp [N274_locate_on, mshC_eq, ptD]
  refine callW_of k1 (.inl rfl) ?_
  by_cases hv : validM m = true ∧ okP p = true
  · have hm := (hz (by have := hv.1; simp only [validM, Bool.and_eq_true] at this; exact this.1)).2
    have k2 := lfind_c hC m hv.1 hm p hv.2
    simp only [mshC_eq, ptD] at k2
    simp [hv.1, hv.2]
    refine callW_of k2 (.inl rfl) ?_
    simp
    refine brB_of (fun c => ?_) (fun c => ?_) <;> simp at c <;> simp [c, onE, onV, hv.1, hv.2]
  · have e : (validM m && okP p) = false := by
      cases h1 : validM m <;> cases h2 : okP p <;> simp [h1, h2] at hv ⊢
    simp [e, onE, onV, hv]
end Go.Gv

set_option linter.unusedSimpArgs false
namespace Go.Gv
open Go.Lib
/-- The numerator and the denominator of a level. -/
def numL (m : Msh) (i : Nat) (p : Pnt) : Int := (spA m i).z * tn1 m i p + (spB m i).z * tn2 m i p + (spC m i).z * tn0 m i p
def denL (m : Msh) (i : Nat) : Int := turnP (ptS (spA m i)) (ptS (spB m i)) (ptS (spC m i))
theorem tn_sum (m : Msh) (i : Nat) (p : Pnt) : tn0 m i p + tn1 m i p + tn2 m i p = denL m i := by
  unfold tn0 tn1 tn2 denL turnP ptS
  grind
theorem tn_rot1 (m : Msh) (i : Nat) (p : Pnt) : turnP p (ptS (spB m i)) (ptS (spC m i)) = tn1 m i p := by
  unfold tn1 turnP; grind
theorem tn_rot2 (m : Msh) (i : Nat) (p : Pnt) : turnP p (ptS (spC m i)) (ptS (spA m i)) = tn2 m i p := by
  unfold tn2 turnP; grind
theorem tn_rot0 (m : Msh) (i : Nat) (p : Pnt) : turnP p (ptS (spA m i)) (ptS (spB m i)) = tn0 m i p := by
  unfold tn0 turnP; grind
theorem turnP_bd {a b c : Pnt} (ha : okP a = true) (hb : okP b = true) (hc : okP c = true) : -2251799813685248 ≤ turnP a b c ∧ turnP a b c ≤ 2251799813685248 := by
  have := turn_bd ha hb hc
  unfold turnP
  omega
/-- What is known of a point on a face. -/
structure OnF (m : Msh) (i : Nat) (p : Pnt) : Prop where
  z0 : -4194304 ≤ (spA m i).z ∧ (spA m i).z ≤ 4194304
  z1 : -4194304 ≤ (spB m i).z ∧ (spB m i).z ≤ 4194304
  z2 : -4194304 ≤ (spC m i).z ∧ (spC m i).z ≤ 4194304
  t0 : 0 ≤ tn0 m i p ∧ tn0 m i p ≤ 2251799813685248
  t1 : 0 ≤ tn1 m i p ∧ tn1 m i p ≤ 2251799813685248
  t2 : 0 ≤ tn2 m i p ∧ tn2 m i p ≤ 2251799813685248
  d : 0 < denL m i ∧ denL m i ≤ 2251799813685248
theorem onF_of {m : Msh} (hv : validM m = true) {i : Nat} (hi : i < m.f.length) {p : Pnt} (hp : okP p = true) (h : osF m i p < 0) : OnF m i p := by
  obtain ⟨oa, ob, oc⟩ := sp_okP hv hi
  obtain ⟨r1, r2, r3⟩ := sp_bd hv hi
  have := rightS_bd r1
  have := rightS_bd r2
  have := rightS_bd r3
  obtain ⟨n0, n1, n2⟩ := osF_on h
  have b0 : tn0 m i p ≤ 2251799813685248 := (turnP_bd oa ob hp).2
  have b1 : tn1 m i p ≤ 2251799813685248 := (turnP_bd ob oc hp).2
  have b2 : tn2 m i p ≤ 2251799813685248 := (turnP_bd oc oa hp).2
  have bd : denL m i ≤ 2251799813685248 := (turnP_bd oa ob oc).2
  have hd : 0 < denL m i := (valid_f hv hi).2
  exact ⟨by omega, by omega, by omega, by omega, by omega, by omega, by omega⟩
theorem mulz_bd {z t : Int} (hz : -4194304 ≤ z ∧ z ≤ 4194304) (ht : 0 ≤ t) : -(4194304 * t) ≤ z * t ∧ z * t ≤ 4194304 * t := by
  have h1 := Int.mul_nonneg (show 0 ≤ 4194304 - z by omega) ht
  have h2 := Int.mul_nonneg (show 0 ≤ 4194304 + z by omega) ht
  rw [Int.sub_mul] at h1
  rw [Int.add_mul] at h2
  omega
theorem OnF.num {m : Msh} {i : Nat} {p : Pnt} (h : OnF m i p) : -(4194304 * denL m i) ≤ numL m i p ∧ numL m i p ≤ 4194304 * denL m i := by
  have e := tn_sum m i p
  have h1 := mulz_bd h.z0 h.t1.1
  have h2 := mulz_bd h.z1 h.t2.1
  have h3 := mulz_bd h.z2 h.t0.1
  unfold numL
  rw [← e]
  omega
theorem div_bd {n d k : Int} (hd : 0 < d) (h : -(k * d) ≤ n ∧ n ≤ k * d) : -k ≤ n / d ∧ n / d ≤ k := by
  constructor
  · exact (Int.le_ediv_iff_mul_le hd).2 (by rw [Int.neg_mul]; exact h.1)
  · exact Int.le_of_lt_add_one ((Int.ediv_lt_iff_lt_mul hd).2 (by rw [Int.add_mul]; omega))
def loF (m : Msh) (i : Nat) (p : Pnt) : Int := numL m i p / denL m i
def hiF (m : Msh) (i : Nat) (p : Pnt) : Int := -(-numL m i p / denL m i)
theorem OnF.lo {m : Msh} {i : Nat} {p : Pnt} (h : OnF m i p) : -4194304 ≤ loF m i p ∧ loF m i p ≤ 4194304 := div_bd h.d.1 h.num
theorem OnF.hi {m : Msh} {i : Nat} {p : Pnt} (h : OnF m i p) : -4194304 ≤ hiF m i p ∧ hiF m i p ≤ 4194304 := by
  have := div_bd (n := -numL m i p) (k := 4194304) h.d.1 (by have := h.num; omega)
  unfold hiF
  omega
variable {C : CC} (hC : Closed prog C)
include hC
theorem ProductT_c (z t : Int) (hz : -4194304 ≤ z ∧ z ≤ 4194304) (ht : 0 ≤ t ∧ t ≤ 2251799813685248) : C 99 [.int .i64 z, .int .i64 t] (.tup [wiS (z * t), .int .i64 0]) [] := by
  obtain ⟨n, rfl⟩ : ∃ n : Nat, t = n := ⟨t.toNat, by omega⟩
  have h3 : z.natAbs * n ≤ 4194304 * 2251799813685248 := Nat.mul_le_mul (by omega) (by omega)
  exact ProductS_c hC z n (by omega) (by omega) (by omega)
set_option maxHeartbeats 4000000 in
theorem lexact_c (m : Msh) (hv : validM m = true) (i : Nat) (hi : i < m.f.length) (p : Pnt) (hp : okP p = true) (h : osF m i p < 0) :
    C 300 [.agg (mshC m), .int .i64 i, .agg (ptD p)] (.tup [wiS (numL m i p), .int .i64 (denL m i), .int .i64 0]) [] := by
  have H := onF_of hv hi hp h
  obtain ⟨oa, ob, oc⟩ := sp_okP hv hi
  have k0 := lcorners_c hC m i hi (valid_in hv hi)
  have ka := lat_c hC (spA m i)
  have kb := lat_c hC (spB m i)
  have kc := lat_c hC (spC m i)
  have t1 := lturn_c hC hp ob oc
  have t2 := lturn_c hC hp oc oa
  have t0 := lturn_c hC hp oa ob
  have td : C 320 _ (.int .i64 (denL m i)) [] := lturn_c hC oa ob oc
  rw [tn_rot1] at t1
  rw [tn_rot2] at t2
  rw [tn_rot0] at t0
  have x1 := ProductT_c hC _ _ H.z0 H.t1
  have x2 := ProductT_c hC _ _ H.z1 H.t2
  have x0 := ProductT_c hC _ _ H.z2 H.t0
  have b1 := mulz_bd H.z0 H.t1.1
  have b2 := mulz_bd H.z1 H.t2.1
  have b0 := mulz_bd H.z2 H.t0.1
  have c0 := H.t0
  have c1 := H.t1
  have c2 := H.t2
  have en : numL m i p = (spA m i).z * tn1 m i p + (spB m i).z * tn2 m i p + (spC m i).z * tn0 m i p := rfl
  obtain ⟨u1, hu1⟩ : ∃ u, u = (spA m i).z * tn1 m i p := ⟨_, rfl⟩
  obtain ⟨u2, hu2⟩ : ∃ u, u = (spB m i).z * tn2 m i p := ⟨_, rfl⟩
  obtain ⟨u0, hu0⟩ : ∃ u, u = (spC m i).z * tn0 m i p := ⟨_, rfl⟩
  rw [← hu1] at x1 b1 en
  rw [← hu2] at x2 b2 en
  rw [← hu0] at x0 b0 en
  have y1 := AddS_c hC 0 u1 (by omega) (by omega)
  have y2 := AddS_c hC u1 u2 (by omega) (by omega)
  have y3 := AddS_c hC (u1 + u2) u0 (by omega) (by omega)
  rw [Int.zero_add] at y1
  rw [← en] at y3
  have ez : wiS 0 = .agg [.int .i64 0, .int .i64 0] := by simp [wiS]
  obtain ⟨p1, q1, _, _, e1⟩ := wiS_parts u1
  obtain ⟨p2, q2, _, _, e2⟩ := wiS_parts u2
  obtain ⟨p3, q3, _, _, e3⟩ := wiS_parts u0
  obtain ⟨p4, q4, _, _, e4⟩ := wiS_parts (u1 + u2)
  obtain ⟨p5, q5, _, _, e5⟩ := wiS_parts (numL m i p)
  rw [e1] at x1
  rw [e2] at x2
  rw [e3] at x0
  rw [ez, e1] at y1
  rw [e1, e2, e4] at y2
  rw [e4, e3, e5] at y3
  rw [e5]
  have w0 : IntKind.wrap .i64 0 = 0 := by decide
  have w1 : IntKind.wrap .i64 1 = 1 := by decide
  have w2 : IntKind.wrap .i64 2 = 2 := by decide
  have w3 : IntKind.wrap .i64 3 = 3 := by decide
  have w4 : IntKind.wrap .i64 4 = 4 := by decide
  have m1 : Int.tmod 1 3 = 1 := by decide
  have m2 : Int.tmod 2 3 = 2 := by decide
  have m3 : Int.tmod 3 3 = 0 := by decide
  have m4 : Int.tmod 4 3 = 1 := by decide
  clear e1 e2 e3 e4 e5 en hu0 hu1 hu2 b0 b1 b2 c0 c1 c2 H
  simp only [mshC_eq, sptC_eq, cor9_eq] at k0 ka kb kc
  refine start hC (nf := N300_locate_exact) rfl rfl ?_
  simp [N300_locate_exact, mshC_eq]
  refine callW_of k0 (.inl rfl) ?_
  simp
  refine loop_of Nat (fun k => [(5, .ptr (ptD p)), (6, .adr (.r 10096) 0 0), (9, .adr (.r 10144) 0 0), (17, .agg (cor9 m i)), (18, .int .i64 k), (10144, .blk 9 [cor9 m i]),
    (10096, .blk 2 [if k = 0 then [.int .i64 0, .int .i64 0] else if k = 1 then [.int .i64 p1, .int .i64 q1] else if k = 2 then [.int .i64 p4, .int .i64 q4] else [.int .i64 p5, .int .i64 q5]])]) (fun k => k ≤ 3) (fun k => 3 - k) 0 (by simp) (by simp [cor9_eq]) ?_
  rintro k hk
  rcases (by omega : k = 0 ∨ k = 1 ∨ k = 2 ∨ k = 3) with rfl | rfl | rfl | rfl
  · simp [cor9_eq, w1, m1]
    refine callW_of kb (.inl rfl) ?_
    simp [w2, m2]
    refine callW_of kc (.inl rfl) ?_
    simp
    refine callW_of t1 (.inl rfl) ?_
    simp
    refine callW_of x1 (.inr rfl) ?_
    simp
    refine ⟨indW_of (by decide +kernel), ?_⟩
    refine callW_of y1 (.inr rfl) ?_
    simp
    exact ⟨1, by omega, by omega, by simp [cor9_eq, w1]⟩
  · simp [cor9_eq, w2, m2]
    refine callW_of kc (.inl rfl) ?_
    simp [w3, m3]
    refine callW_of ka (.inl rfl) ?_
    simp
    refine callW_of t2 (.inl rfl) ?_
    simp
    refine callW_of x2 (.inr rfl) ?_
    simp
    refine ⟨indW_of (by decide +kernel), ?_⟩
    refine callW_of y2 (.inr rfl) ?_
    simp
    exact ⟨2, by omega, by omega, by simp [cor9_eq, w2]⟩
  · simp [cor9_eq, w3, m3]
    refine callW_of ka (.inl rfl) ?_
    simp [w4, m4]
    refine callW_of kb (.inl rfl) ?_
    simp
    refine callW_of t0 (.inl rfl) ?_
    simp
    refine callW_of x0 (.inr rfl) ?_
    simp
    refine ⟨indW_of (by decide +kernel), ?_⟩
    refine callW_of y3 (.inr rfl) ?_
    simp
    exact ⟨3, by omega, by omega, by simp [cor9_eq, w3]⟩
  · simp [cor9_eq]
    refine callW_of ka (.inl rfl) ?_
    simp
    refine callW_of kb (.inl rfl) ?_
    simp
    refine callW_of kc (.inl rfl) ?_
    simp
    refine callW_of td (.inl rfl) ?_
    simp
    exact indW_of (by decide +kernel)
/-- Floor and ceiling of a wide number, by a positive one. -/
theorem floorW_c (v : Int) (d : Nat) (up : Bool) (hd0 : 0 < d) (hd : d ≤ 2251799813685248) (hv : v.natAbs ≤ 4194304 * d) : C 301 [wiS v, .int .i64 d, .bool up] (.tup [.int .i64 (if up then -(-v / d) else v / d), .int .i64 0]) [] := by
  have k1 := wvalidS_c hC v (by omega)
  have k2 := valueS_c hC v (by omega)
  obtain ⟨Q, hQ⟩ : ∃ Q, Q = (if up then -(-v / (d : Int)) else v / (d : Int)) := ⟨_, rfl⟩
  have hdiv : v.natAbs / d ≤ 4194304 := Nat.div_le_of_le_mul (by rw [Nat.mul_comm]; exact hv)
  have k3 : C 104 [numS v, .int .i64 d, .bool up] (.tup [.int .i64 Q, .int .i64 0]) [] := by
    by_cases v0 : v < 0
    · obtain ⟨n, rfl⟩ : ∃ n : Nat, v = -(n : Int) := ⟨v.natAbs, by omega⟩
      rw [Int.natAbs_neg, Int.natAbs_natCast] at hv hdiv
      have k := quotientN_c hC n d up (if up then n / d else if n % d = 0 then n / d else n / d + 1) (by omega) (by omega) (by omega) (by split; omega; split <;> omega) rfl (by omega)
      have e1 : numS (-(n : Int)) = numD n true := numS_at (by omega) (decide_eq_true v0)
      have e2 : Q = -((if up then n / d else if n % d = 0 then n / d else n / d + 1 : Nat) : Int) := by
        rw [hQ]
        cases up
        · simp only [Bool.false_eq_true, if_false]
          exact neg_div_nat n d hd0
        · simp
      rw [e1, e2]
      exact k
    · obtain ⟨n, rfl⟩ : ∃ n : Nat, v = (n : Int) := ⟨v.natAbs, by omega⟩
      rw [Int.natAbs_natCast] at hv hdiv
      have hle : (n + d - 1) / d ≤ n / d + 1 := by
        have : (n + d - 1) / d ≤ (n + d) / d := Nat.div_le_div_right (by omega)
        rw [Nat.add_div_right _ hd0] at this
        exact this
      have k := quotient_c hC n d up (if up then (n + d - 1) / d else n / d) (by omega) (by omega) (by split <;> omega) rfl (by omega)
      have e1 : numS (n : Int) = numD n false := numS_at (by omega) (decide_eq_false v0)
      have e2 : Q = ((if up then (n + d - 1) / d else n / d : Nat) : Int) := by
        rw [hQ]
        cases up
        · simp
        · simp only [if_true]
          rw [neg_div_nat n d hd0, Int.neg_neg]
          congr 1
          have h1 := Nat.div_add_mod n d
          have h2 := Nat.mod_lt n hd0
          split
          · rename_i h
            have : n + d - 1 = d * (n / d) + (d - 1) := by omega
            rw [this, Nat.mul_add_div hd0, Nat.div_eq_of_lt (show d - 1 < d by omega)]
            rfl
          · rename_i h
            have : n + d - 1 = d * (n / d) + (d + (n % d - 1)) := by omega
            rw [this, Nat.mul_add_div hd0, Nat.add_div_left _ hd0, Nat.div_eq_of_lt (show n % d - 1 < d by omega)]
      rw [e1, e2]
      exact k
  rw [← hQ]
  obtain ⟨a1, a2, _, _, ea⟩ := wiS_parts v
  obtain ⟨f1, f2, f3, ef⟩ : ∃ (a1 a2 : Nat) (a3 : Bool), numS v = .agg [.int .u64 a1, .int .u64 a2, .bool a3] := ⟨_, _, _, rfl⟩
  rw [ea] at k1 k2 ⊢
  rw [ef] at k2 k3
  have h1 : ¬ d = 0 := by omega
  clear hQ ea ef
  refine start hC (nf := N301_wide_divided) rfl rfl ?_
  simp [N301_wide_divided]
  refine callW_of k1 (.inl rfl) ?_
  simp [h1]
  refine callW_of k2 (.inl rfl) ?_
  simp
  refine callW_of k3 (.inr rfl) ?_
  simp
theorem Floor_c (v : Int) (d : Nat) (hd0 : 0 < d) (hd : d ≤ 2251799813685248) (hv : v.natAbs ≤ 4194304 * d) : C 271 [wiS v, .int .i64 d] (.tup [.int .i64 (v / d), .int .i64 0]) [] := by
  have k := floorW_c hC v d false hd0 hd hv
  simp at k
  obtain ⟨Q, hQ⟩ : ∃ Q, Q = v / (d : Int) := ⟨_, rfl⟩
  rw [← hQ] at k ⊢
  obtain ⟨a1, a2, _, _, ea⟩ := wiS_parts v
  rw [ea] at k ⊢
  refine start hC (nf := N271_wide_Floor) rfl rfl ?_
  simp [N271_wide_Floor]
  refine callW_of k (.inl rfl) ?_
  simp
theorem Ceil_c (v : Int) (d : Nat) (hd0 : 0 < d) (hd : d ≤ 2251799813685248) (hv : v.natAbs ≤ 4194304 * d) : C 272 [wiS v, .int .i64 d] (.tup [.int .i64 (-(-v / d)), .int .i64 0]) [] := by
  have k := floorW_c hC v d true hd0 hd hv
  simp only [if_true] at k
  obtain ⟨Q, hQ⟩ : ∃ Q, Q = -(-v / (d : Int)) := ⟨_, rfl⟩
  rw [← hQ] at k ⊢
  obtain ⟨a1, a2, _, _, ea⟩ := wiS_parts v
  rw [ea] at k ⊢
  refine start hC (nf := N272_wide_Ceil) rfl rfl ?_
  simp [N272_wide_Ceil]
  refine callW_of k (.inl rfl) ?_
  simp
def wz : D := .agg [.int .i64 0, .int .i64 0]
theorem lExact_c (dec : Nat → List UInt8) (hI : ∀ n : Nat, n < 100 → C 127 [.int .i64 n] (.str (dec n)) []) (m : Msh) (hz : smallM m = true → m.s.length ≤ 100 ∧ m.f.length ≤ 100) (p : Pnt) :
    C 269 [.agg (mshC m), .agg (ptD p)] (if onE m p = 0 then .tup [wiS (numL m (fndF m p).toNat p), .int .i64 (denL m (fndF m p).toNat), .int .i64 0] else .tup [wz, .int .i64 0, .int .i64 (onE m p)]) [] := by
  have k1 := lon_c hC dec hI m hz p
  by_cases h0 : onE m p = 0
  · obtain ⟨hv, hp, hf⟩ := onE_at h0
    obtain ⟨hi, ho⟩ := fndF_on hf
    have k2 := lexact_c hC m hv _ hi p hp ho
    rw [if_pos h0]
    have e : onV m p = fndF m p := by rw [onV, if_pos h0]
    rw [h0, e] at k1
    rw [show (((fndF m p).toNat : Nat) : Int) = fndF m p by omega] at k2
    obtain ⟨a1, a2, _, _, ea⟩ := wiS_parts (numL m (fndF m p).toNat p)
    rw [ea] at k2 ⊢
    simp only [mshC_eq, ptD] at k1 k2
    refine start hC (nf := N269_locate_Exact) rfl rfl ?_
    simp [N269_locate_Exact, mshC_eq, ptD]
    refine callW_of k1 (.inl rfl) ?_
    simp
    refine callW_of k2 (.inr rfl) ?_
    simp
  · rw [if_neg h0]
    simp only [mshC_eq, ptD] at k1
    refine start hC (nf := N269_locate_Exact) rfl rfl ?_
    simp [N269_locate_Exact, mshC_eq, ptD]
    refine callW_of k1 (.inl rfl) ?_
    simp [h0, wz]
theorem lLevel_c (dec : Nat → List UInt8) (hI : ∀ n : Nat, n < 100 → C 127 [.int .i64 n] (.str (dec n)) []) (m : Msh) (hz : smallM m = true → m.s.length ≤ 100 ∧ m.f.length ≤ 100) (p : Pnt) :
    C 233 [.agg (mshC m), .agg (ptD p)] (if onE m p = 0 then .tup [.agg [.int .i64 (loF m (fndF m p).toNat p), .int .i64 (hiF m (fndF m p).toNat p)], .int .i64 0] else .tup [wz, .int .i64 (onE m p)]) [] := by
  have k1 := lExact_c hC dec hI m hz p
  by_cases h0 : onE m p = 0
  · obtain ⟨hv, hp, hf⟩ := onE_at h0
    obtain ⟨hi, ho⟩ := fndF_on hf
    have H := onF_of hv hi hp ho
    obtain ⟨i, hi2⟩ : ∃ i, i = (fndF m p).toNat := ⟨_, rfl⟩
    rw [if_pos h0] at k1 ⊢
    rw [← hi2] at k1 H ⊢
    obtain ⟨d, hd⟩ : ∃ d : Nat, denL m i = d := ⟨(denL m i).toNat, by have := H.d; omega⟩
    have b1 := H.num
    have b2 := H.d
    rw [hd] at b1 b2
    have k2 := Floor_c hC (numL m i p) d (by omega) (by omega) (by omega)
    have k3 := Ceil_c hC (numL m i p) d (by omega) (by omega) (by omega)
    rw [show numL m i p / (d : Int) = loF m i p by rw [loF, hd]] at k2
    rw [show -(-numL m i p / (d : Int)) = hiF m i p by rw [hiF, hd]] at k3
    rw [hd] at k1
    obtain ⟨a1, a2, _, _, ea⟩ := wiS_parts (numL m i p)
    rw [ea] at k1 k2 k3
    simp only [mshC_eq, ptD] at k1
    clear b1 b2 H
    refine start hC (nf := N233_locate_Level) rfl rfl ?_
    simp [N233_locate_Level, mshC_eq, ptD]
    refine callW_of k1 (.inr rfl) ?_
    simp
    refine callW_of k2 (.inl rfl) ?_
    simp
    refine callW_of k3 (.inl rfl) ?_
    simp
  · rw [if_neg h0] at k1 ⊢
    simp only [mshC_eq, ptD, wz] at k1
    refine start hC (nf := N233_locate_Level) rfl rfl ?_
    simp [N233_locate_Level, mshC_eq, ptD]
    refine callW_of k1 (.inr rfl) ?_
    simp [h0, wz]
end Go.Gv

set_option linter.unusedSimpArgs false
namespace Go.Gv
/-- The side. -/
def sidK (m : Msh) (a b : Int) : Int := if sideF m a b < 0 then 0 else idxD (fun j => decide (crn (fce m (sideF m a b).toNat) j = a) && decide (crn (fce m (sideF m a b).toNat) (j + 1) = b)) (List.range 3)
def acK (m : Msh) (i k : Nat) : Int := sidK m (crn (fce m i) (k + 1)) (crn (fce m i) k)
def nbT (m : Msh) (i : Nat) : List (List D) := (List.range i).map fun j => [.int .i64 (nbF m j 0), .int .i64 (nbF m j 1), .int .i64 (nbF m j 2)]
@[simp] theorem nbT_len (m : Msh) (i : Nat) : (nbT m i).length = i := by simp [nbT]
@[simp] theorem nbT_take (m : Msh) (i : Nat) : List.take i (nbT m i) = nbT m i := List.take_of_length_le (by simp)
@[simp] theorem nbT_cv (m : Msh) (i : Nat) : List.map (fun e => List.map cellV e) (nbT m i) = nbT m i := by simp [nbT]
variable {C : CC} (hC : Closed prog C)
include hC
end Go.Gv

set_option linter.unusedSimpArgs false
namespace Go.Gv
open Go.Lib
def tr3 (m : Msh) (i : Nat) : List (List D) := [ptD (ptS (spA m i)), ptD (ptS (spB m i)), ptD (ptS (spC m i))]
/-- The side that is found among the first k. -/
def sdF (m : Msh) (i : Nat) (p : Pnt) (k : Nat) : Int := if 0 ≤ osF m i p ∧ osF m i p < k then osF m i p else -1
variable {C : CC} (hC : Closed prog C)
include hC
def fewM (m : Msh) : Bool := decide ((m.s.length : Int) ≤ 60) && decide ((m.f.length : Int) ≤ 60)
theorem few_c (m : Msh) : C 229 [.agg (mshC m)] (.bool (fewM m)) [] := by
  refine start hC (nf := N229_law13_few) rfl rfl ?_
  simp [N229_law13_few, mshC_eq]
  refine brB_of (fun h => ?_) (fun h => ?_)
  · simp at h; simp [h, fewM]
  · have h2 : ¬ (m.s.length : Int) ≤ 60 := of_decide_eq_false h
    rw [show fewM m = false by rw [fewM, decide_eq_false h2]; rfl]
    simp
end Go.Gv

set_option linter.unusedSimpArgs false
namespace Go.Gv
open Go.Lib
def exL : Msh := ⟨false, [⟨0, 0, 100⟩, ⟨1000, 0, 200⟩, ⟨0, 1000, 400⟩], false, [⟨0, 1, 2, 0⟩]⟩
theorem exL_v : validM exL = true := by decide +kernel
theorem exL_f1 : fndF exL (250, 500) = 0 := by decide +kernel
theorem exL_f2 : fndF exL (1, 1) = 0 := by decide +kernel
theorem exL_n : numL exL 0 (250, 500) = 275000000 := by decide +kernel
theorem exL_d : denL exL 0 = 1000000 := by decide +kernel
theorem exL_lo : loF exL 0 (1, 1) = 100 := by decide +kernel
theorem exL_hi : hiF exL 0 (1, 1) = 101 := by decide +kernel
theorem exL_o1 : onE exL (250, 500) = 0 := by rw [onE, exL_f1, exL_v]; decide
theorem exL_o2 : onE exL (1, 1) = 0 := by rw [onE, exL_f2, exL_v]; decide
variable {C : CC} (hC : Closed prog C)
include hC
set_option maxHeartbeats 2000000 in
theorem awake13_c (dec : Nat → List UInt8) (hI : ∀ n : Nat, n < 100 → C 127 [.int .i64 n] (.str (dec n)) []) : C 227 [] (.bool true) [] := by
  have hz : smallM exL = true → exL.s.length ≤ 100 ∧ exL.f.length ≤ 100 := fun _ => by simp [exL]
  have k1 := lExact_c hC dec hI exL hz (250, 500)
  have k2 := Int_c hC 275000000 (by decide)
  have k3 := lLevel_c hC dec hI exL hz (1, 1)
  rw [if_pos exL_o1, exL_f1, show (0 : Int).toNat = 0 from rfl, exL_n, exL_d] at k1
  rw [if_pos exL_o2, exL_f2, show (0 : Int).toNat = 0 from rfl, exL_lo, exL_hi] at k3
  rw [show wiS 275000000 = .agg [.int .i64 0, .int .i64 275000000] by simp [wiS]] at k1
  rw [show wiD 275000000 = .agg [.int .i64 0, .int .i64 275000000] by simp [wiD]] at k2
  simp [exL, mshC_eq, sptC_eq, fceC_eq, ptD] at k1 k3
  refine start hC (nf := N227_law13_awake) rfl rfl ?_
  simp [N227_law13_awake]
  refine callW_of k1 (.inl rfl) ?_
  simp
  refine callW_of k2 (.inl rfl) ?_
  simp
  refine callW_of k3 (.inl rfl) ?_
  simp
end Go.Gv

set_option linter.unusedSimpArgs false
set_option maxRecDepth 4000
namespace Go.Gv
def farPB (x y : Int) : Bool := decide (x < -1048576) || decide (1048576 < x) || decide (y < -1048576) || decide (1048576 < y)
def plZ (u v c : Int) (s : Spt) : Spt := { s with z := u * s.x + v * s.y + c }
def planeM (m : Msh) (u v c : Int) : Msh := ⟨false, m.s.map (plZ u v c), false, m.f⟩
def plRw (u v c : Int) (ss : List Spt) (i : Nat) : List Spt := (ss.take i).map (plZ u v c) ++ ss.drop i
def plR (u v c : Int) (ss : List Spt) (i : Nat) : List (List D) := (plRw u v c ss i).map sptC
theorem plR_len (u v c : Int) (ss : List Spt) (i : Nat) : (plR u v c ss i).length = ss.length := by simp [plR, plRw]; omega
theorem plR_zero (u v c : Int) (ss : List Spt) : plR u v c ss 0 = ss.map sptC := by simp [plR, plRw]
theorem plR_end (u v c : Int) (ss : List Spt) : plR u v c ss ss.length = (ss.map (plZ u v c)).map sptC := by simp [plR, plRw]
theorem plR_get (u v c : Int) {ss : List Spt} {i : Nat} (h : i < ss.length) : (plR u v c ss i)[i]? = some (sptC ss[i]) := by
  unfold plR plRw
  rw [List.getElem?_map, List.getElem?_append_right (by simp; omega)]
  simp [Nat.min_eq_left (Nat.le_of_lt h), h]
theorem plRw_set (u v c : Int) {ss : List Spt} {i : Nat} (h : i < ss.length) : (plRw u v c ss i).set i (plZ u v c ss[i]) = plRw u v c ss (i + 1) := by
  unfold plRw
  rw [List.set_append_right _ _ (by simp; omega)]
  have e1 : i - ((ss.take i).map (plZ u v c)).length = 0 := by simp; omega
  rw [e1, List.drop_eq_getElem_cons h, List.set_cons_zero, List.take_succ_eq_append_getElem h, List.map_append, List.append_assoc]
  rfl
theorem plR_set (u v c : Int) {ss : List Spt} {i : Nat} (h : i < ss.length) : (plR u v c ss i).set i (sptC (plZ u v c ss[i])) = plR u v c ss (i + 1) := by
  unfold plR
  rw [← List.map_set, plRw_set u v c h]
theorem spt_V (l : List Spt) : (l.map sptC).map (fun e => e.map cellV) = l.map sptC := by
  rw [List.map_map]
  exact List.map_congr_left fun s _ => by simp [sptC]
theorem fce_V (l : List Fce) : (l.map fceC).map (fun e => e.map cellV) = l.map fceC := by
  rw [List.map_map]
  exact List.map_congr_left fun s _ => by simp [fceC]
/-- On a plane a point has the plane's level. -/
theorem plane_num {m : Msh} {u v c : Int} {i : Nat} {p : Pnt} (ha : (spA m i).z = u * (spA m i).x + v * (spA m i).y + c) (hb : (spB m i).z = u * (spB m i).x + v * (spB m i).y + c) (hc : (spC m i).z = u * (spC m i).x + v * (spC m i).y + c) :
    numL m i p = (u * p.1 + v * p.2 + c) * denL m i := by
  unfold numL denL tn0 tn1 tn2 turnP ptS
  rw [ha, hb, hc]
  grind
theorem spt_plane (m : Msh) (u v c : Int) {k : Nat} (hk : k < m.s.length) : (spt (planeM m u v c) k).z = u * (spt (planeM m u v c) k).x + v * (spt (planeM m u v c) k).y + c := by
  unfold spt planeM
  simp only
  rw [getElem!_pos _ k (by simpa using hk), List.getElem_map]
  rfl
theorem plane_lvl {m : Msh} {u v c : Int} (hv : validM (planeM m u v c) = true) {i : Nat} (hi : i < m.f.length) (p : Pnt) : loF (planeM m u v c) i p = u * p.1 + v * p.2 + c ∧ hiF (planeM m u v c) i p = u * p.1 + v * p.2 + c := by
  have hi' : i < (planeM m u v c).f.length := hi
  obtain ⟨⟨_, b1⟩, ⟨_, b2⟩, ⟨_, b3⟩⟩ := inS_bd (valid_in hv hi')
  have hl : (planeM m u v c).s.length = m.s.length := by simp [planeM]
  have h := plane_num (p := p) (spt_plane m u v c (k := (fce (planeM m u v c) i).a.toNat) (by omega)) (spt_plane m u v c (k := (fce (planeM m u v c) i).b.toNat) (by omega)) (spt_plane m u v c (k := (fce (planeM m u v c) i).c.toNat) (by omega))
  have hd0 : 0 < denL (planeM m u v c) i := (valid_f hv hi').2
  have hd : denL (planeM m u v c) i ≠ 0 := by omega
  unfold loF hiF
  have h' : numL (planeM m u v c) i p = (u * p.1 + v * p.2 + c) * denL (planeM m u v c) i := h
  rw [h', ← Int.neg_mul, Int.mul_ediv_cancel _ hd, Int.mul_ediv_cancel _ hd]
  exact ⟨rfl, by omega⟩
variable {C : CC} (hC : Closed prog C)
include hC
theorem far_c (x y : Int) : C 228 [.int .i64 x, .int .i64 y] (.bool (farPB x y)) [] := by
  refine start hC (nf := N228_law13_LocatePlane_1) rfl rfl ?_
  unfold farPB
  simp [N228_law13_LocatePlane_1]
  by_cases h1 : x < -1048576
  · simp [h1]
  · by_cases h2 : 1048576 < x
    · simp [h1, h2]
    · by_cases h3 : y < -1048576
      · simp [h1, h2, h3]
      · simp [h1, h2, h3]
theorem far2_c (s : Spt) : C 231 [.agg (sptC s), .ptr [.fn 228 []]] (.bool (farPB s.x s.y)) [] := by
  have k := far_c hC s.x s.y
  refine start hC (nf := N231_law13_LocatePlane_2) rfl rfl ?_
  simp [N231_law13_LocatePlane_2, sptC]
  refine callW_of k (.inl rfl) ?_
  simp
theorem idxSpt_c {b : Bool} {xs : List Spt} {g : Nat} {cs : List D} (p : Spt → Bool) (hs : xs.length < 2 ^ 62) (hp : ∀ x ∈ xs, C g (.agg (sptC x) :: cs) (.bool (p x)) []) : C 270 [slx b (xs.map sptC), .fn g cs] (.int .i64 (idxD p xs)) [] := by
  refine start hC (nf := N270_slices_IndexFunc__api_Spot_api_Spot) rfl rfl ?_
  simp [N270_slices_IndexFunc__api_Spot_api_Spot]
  refine loop_of Nat (fun i => [(0, slx b (xs.map sptC)), (1, .fn g cs), (7, .int .i64 xs.length), (8, .int .i64 i)]) (fun i => i ≤ xs.length ∧ ∀ (j : Nat) (h : j < xs.length), j < i → p xs[j] = false) (fun i => xs.length - i) 0 (by simp) (by simp) ?_
  rintro i ⟨hi, hj⟩
  simp
  refine brB_of (fun h => ?_) (fun h => ?_) <;> simp [h] <;> simp at h
  · have hw : IntKind.wrap .i64 ((i : Int) + 1) = ((i + 1 : Nat) : Int) := wrap_i64 (by omega) (by omega)
    have hc := hp _ (List.getElem_mem h)
    simp [h, sptC] at hc ⊢
    refine callW_of hc (.inl rfl) ?_
    simp
    refine brB_of (fun h1 => ?_) (fun h1 => ?_) <;> simp [h1, hw]
    · rw [idxD_step hj h h1]
    · refine ⟨i + 1, ⟨by omega, fun j hl hjj => ?_⟩, by omega, rfl⟩
      rcases Nat.lt_succ_iff_lt_or_eq.1 hjj with h2 | rfl
      · exact hj j hl h2
      · exact h1
  · rw [idxD_none (fun j hl => hj j hl (by omega))]
theorem hasSpt_c {b : Bool} {xs : List Spt} {g : Nat} {cs : List D} (p : Spt → Bool) (hs : xs.length < 2 ^ 62) (hp : ∀ x ∈ xs, C g (.agg (sptC x) :: cs) (.bool (p x)) []) : C 230 [slx b (xs.map sptC), .fn g cs] (.bool (xs.any p)) [] := by
  refine start hC (nf := N230_slices_ContainsFunc__api_Spot_api_Spot) rfl rfl ?_
  simp [N230_slices_ContainsFunc__api_Spot_api_Spot]
  refine callW_of (idxSpt_c hC p hs hp) (.inl rfl) ?_
  simp [idxD_any]
theorem mcopy_c (m : Msh) (h1 : m.s.length ≤ 60) (h2 : m.f.length ≤ 60) : C 232 [.agg (mshC m)] (.agg [.own 3 (m.s.map sptC), .own 4 (m.f.map fceC)]) [.nils] := by
  refine startA hC (nf := N232_ref09_Copy) rfl rfl rfl ?_
  simp [N232_ref09_Copy, mshC_eq]
  exact ⟨fun s _ => by simp [sptC], by omega, fun f _ => by simp [fceC], by omega, fun s _ c hc => by simp [sptC] at hc; rcases hc with rfl | rfl | rfl <;> rfl, fun f _ c hc => by simp [fceC] at hc; rcases hc with rfl | rfl | rfl | rfl <;> rfl, indW_of (by decide +kernel)⟩
set_option maxHeartbeats 2000000 in
theorem LocatePlane_c (dec : Nat → List UInt8) (hI : ∀ n : Nat, n < 100 → C 127 [.int .i64 n] (.str (dec n)) []) (m : Msh) (a : Int) (ha : -128 ≤ a ∧ a ≤ 127) (b : Int) (hb : -128 ≤ b ∧ b ≤ 127) (c : Int) (hc : -128 ≤ c ∧ c ≤ 127) (p : Pnt) :
    C 206 [.agg (mshC m), .int .i8 a, .int .i8 b, .int .i8 c, .agg (ptD p)] (.bool true) [] := by
  have k0 := awake13_c hC dec hI
  have k1 := few_c hC m
  have k2 := far_c hC p.1 p.2
  by_cases hf : fewM m = true
  · have hf' : m.s.length ≤ 60 ∧ m.f.length ≤ 60 := by
      simp only [fewM, Bool.and_eq_true, decide_eq_true_eq] at hf; omega
    have k3 := hasSpt_c hC (b := m.sn) (xs := m.s) (g := 231) (cs := [.ptr [.fn 228 []]]) (fun s => farPB s.x s.y) (by omega) (fun s _ => far2_c hC s)
    have k4 := mcopy_c hC m hf'.1 hf'.2
    obtain ⟨u, hu⟩ : ∃ u, u = a.tmod 2 := ⟨_, rfl⟩
    obtain ⟨v, hv⟩ : ∃ v, v = b.tmod 2 := ⟨_, rfl⟩
    have k5 := lLevel_c hC dec hI (planeM m u v c) (fun _ => by simp [planeM]; omega) p
    have k6 := mValid_c hC dec hI (planeM m u v c) (fun _ => by simp [planeM]; omega)
    simp only [mshC_eq] at k1 k4 k5 k6
    refine start hC (nf := N206_law13_LocatePlane) rfl rfl ?_
    simp [N206_law13_LocatePlane, mshC_eq, ptD]
    refine callW_of k0 (.inl rfl) ?_
    simp [mshC_eq]
    refine callW_of k1 (.inl rfl) ?_
    simp [hf, ptD]
    refine callW_of k2 (.inl rfl) ?_
    cases hfp : farPB p.1 p.2
    rotate_left
    · simp
    simp
    refine callW_of k3 (.inl rfl) ?_
    cases hfs : (m.s.any fun s => farPB s.x s.y)
    rotate_left
    · simp
    simp [mshC_eq]
    refine callAW_of k4 rfl ?_
    simp
    have pb : (-1048576 ≤ p.1 ∧ p.1 ≤ 1048576) ∧ -1048576 ≤ p.2 ∧ p.2 ≤ 1048576 := by
      simp only [farPB, Bool.or_eq_false_iff, decide_eq_false_iff_not] at hfp; omega
    have sb : ∀ s ∈ m.s, (-1048576 ≤ s.x ∧ s.x ≤ 1048576) ∧ -1048576 ≤ s.y ∧ s.y ≤ 1048576 := fun s hs => by
      have := List.any_eq_false.1 hfs s hs
      simp only [farPB, Bool.or_eq_true, decide_eq_true_eq, not_or] at this; omega
    have ub : -1 ≤ u ∧ u ≤ 1 := by
      have h1 := Int.tmod_lt_of_pos a (show (0 : Int) < 2 by omega)
      have h2 := Int.tmod_lt_of_pos (-a) (show (0 : Int) < 2 by omega)
      rw [Int.neg_tmod] at h2
      omega
    have vb : -1 ≤ v ∧ v ≤ 1 := by
      have h1 := Int.tmod_lt_of_pos b (show (0 : Int) < 2 by omega)
      have h2 := Int.tmod_lt_of_pos (-b) (show (0 : Int) < 2 by omega)
      rw [Int.neg_tmod] at h2
      omega
    have val : ∀ x y : Int, (-1048576 ≤ x ∧ x ≤ 1048576) ∧ -1048576 ≤ y ∧ y ≤ 1048576 → IntKind.wrap .i64 (u * x) = u * x ∧ IntKind.wrap .i64 (v * y) = v * y ∧ IntKind.wrap .i64 (u * x + v * y) = u * x + v * y ∧ IntKind.wrap .i64 (u * x + v * y + c) = u * x + v * y + c := by
      intro x y h
      have m1 := mul_bd (a := u) (b := x) (k := 1) (l := 1048576) (by omega) (by omega) (by omega) (by omega)
      have m2 := mul_bd (a := v) (b := y) (k := 1) (l := 1048576) (by omega) (by omega) (by omega) (by omega)
      exact ⟨wrap_i64 rfl (by omega), wrap_i64 rfl (by omega), wrap_i64 rfl (by omega), wrap_i64 rfl (by omega)⟩
    have wa : IntKind.wrap .i64 a = a := wrap_i64 rfl (by omega)
    have wb : IntKind.wrap .i64 b = b := wrap_i64 rfl (by omega)
    have wc : IntKind.wrap .i64 c = c := wrap_i64 rfl (by omega)
    simp [wa, wb, ← hu, ← hv]
    refine ⟨fun s _ c hc => by simp [sptC] at hc; rcases hc with rfl | rfl | rfl <;> rfl, fun f _ c hc => by simp [fceC] at hc; rcases hc with rfl | rfl | rfl | rfl <;> rfl, ?_⟩
    refine loop_of Nat (fun i => [(3, .int .i8 c), (9, .ptr (ptD p)), (12, .adr (.r 10192) 0 0), (13, .int .i64 u), (14, .int .i64 v), (48, .ref (.n 10192 0 0) 0 m.s.length), (49, .int .i64 m.s.length), (50, .int .i64 i), (10192, .blk 2 [[.own 3 (plR u v c m.s i), .own 4 (m.f.map fceC)]])]) (fun i => i ≤ m.s.length) (fun i => m.s.length - i) 0 (by simp) (by simp [plR_zero, ptD]) ?_
    intro i hi
    simp
    refine brB_of (fun h => ?_) (fun h => ?_) <;> simp at h
    · have hw : IntKind.wrap .i64 ((i : Int) + 1) = ((i + 1 : Nat) : Int) := wrap_i64 (by omega) (by omega)
      have hg := plR_get u v c h
      have hln := plR_len u v c m.s i
      have hset := plR_set u v c h
      have esp : m.s[i] = spt m i := (getElem!_pos m.s i h).symm
      obtain ⟨w1, w2, w3, w4⟩ := val _ _ (sb _ (List.getElem_mem h))
      rw [esp] at w1 w2 w3 w4 hg hset
      generalize plR u v c m.s i = R at *
      have hR : i < R.length := by omega
      simp only [sptC, plZ] at hg hset
      obtain ⟨_, hgi⟩ := List.getElem?_eq_some_iff.1 hg
      simp [h, hln, rowW_some hg, wc, w1, w2, w3, w4, hgi]
      exact ⟨i + 1, by omega, by omega, by omega, by rw [← hset]⟩
    · have ei : i = m.s.length := by omega
      subst ei
      have e2 := plR_end u v c m.s
      have hl := plR_len u v c m.s m.s.length
      have hV : (plR u v c m.s m.s.length).map (fun e => e.map cellV) = plR u v c m.s m.s.length := by rw [e2]; exact spt_V _
      have hlv := fun hv i hi => plane_lvl (m := m) (u := u) (v := v) (c := c) hv (i := i) hi p
      have p1 : (planeM m u v c).s.map sptC = plR u v c m.s m.s.length := e2.symm
      have p2 : (planeM m u v c).f = m.f := rfl
      have p3 : (planeM m u v c).sn = false := rfl
      have p4 : (planeM m u v c).fn = false := rfl
      rw [p1, p2, p3, p4, slx_false, slx_false] at k5 k6
      clear e2 p1
      generalize plR u v c m.s m.s.length = R at *
      have hfV := fce_V m.f
      obtain ⟨w1, w2, w3, w4⟩ := val _ _ pb
      have tk : R.take m.s.length = R := List.take_of_length_le (by omega)
      have hfl : (m.f.map fceC).length = m.f.length := List.length_map _
      generalize m.f.map fceC = FF at *
      have tk2 : FF.take m.f.length = FF := List.take_of_length_le (by omega)
      simp [h, hV, hl, hfV, hfl, tk, tk2]
      by_cases e0 : onE (planeM m u v c) p = 0
      · rw [if_pos e0] at k5
        obtain ⟨hvm, hp, hfd⟩ := onE_at e0
        obtain ⟨hi2, ho⟩ := fndF_on hfd
        obtain ⟨l1, l2⟩ := hlv hvm _ hi2
        rw [l1, l2] at k5
        refine callW_of k5 (.inl rfl) ?_
        simp [ptD, w1, w2, w3, w4, wc]
      · rw [if_neg e0] at k5
        refine callW_of k5 (.inl rfl) ?_
        by_cases e1 : onE (planeM m u v c) p = 12
        · rw [e1]
          simp [wz]
        · have hnv : validM (planeM m u v c) = false := by
            rw [Bool.eq_false_iff]
            intro hvm
            unfold onE at e0 e1
            have hok : okP p = true := by simp [okP]; omega
            rw [if_pos ⟨hvm, hok⟩] at e0 e1
            split at e0
            · rename_i q; rw [if_pos q] at e1; exact e1 rfl
            · exact e0 rfl
          rw [hnv] at k6
          simp [wz, e0, e1, hV, hl, hfV, hfl, tk, tk2]
          refine callW_of k6 (.inl rfl) ?_
          simp
  · simp only [mshC_eq] at k1
    refine start hC (nf := N206_law13_LocatePlane) rfl rfl ?_
    simp [N206_law13_LocatePlane, mshC_eq]
    refine callW_of k0 (.inl rfl) ?_
    simp [mshC_eq]
    refine callW_of k1 (.inl rfl) ?_
    simp [hf]
end Go.Gv
