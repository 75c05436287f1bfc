/-
  Texts of the proof: K4, K5, K6, K7, K8, M0, W1, W2, W3, H8, I1, V1, M3, M4, P3, Z1, Z2, V2, Z3, H2, H3, H4, H5, H6, GvX2, H10, H7, H9, H11, H12, V3, V4, Z4, Z5, Z6, I3, Z7, Z8, Z9.
-/
import Derived.Test.YteaonmajblajnaaGreatDoorX6
import Derived.Lib.Mul64
import Derived.Laws.Bits64b
import Derived.Laws.MathBits
set_option linter.all false
namespace Go.Gv
open Go.Lib
theorem o5 (a : Nat) (ha : a < 18446744073709551616) : bits .and .u64 (a : Int) 4294967295=((a % 4294967296 : Nat) : Int):=by
 have h:=bits_and_u64_nat a 4294967295 ha (by omega)
 have e : a &&& 4294967295=a % 4294967296:=Nat.and_two_pow_sub_one_eq_mod a 32
 rw [e] at h
 exact h
theorem qB (a k : Nat) : Int.fdiv (a : Int) (2 ^ k)=((a / 2 ^ k : Nat) : Int):=by
 rw [Int.fdiv_eq_ediv_of_nonneg _ (by exact Int.pow_nonneg (by omega))]
 norm_cast
theorem rp (a : Nat) : Int.fdiv (a : Int) (2 ^ min 32 IntKind.u64.bits)=((a / 4294967296 : Nat) : Int):=qB a 32
theorem uD (a b : Nat) : (a : Int) * (b : Int)=((a * b : Nat) : Int):=(Int.natCast_mul a b).symm
theorem EV (a b : Nat) : (a : Int) + (b : Int)=((a + b : Nat) : Int):=(Int.natCast_add a b).symm
theorem de (a : Nat) (ha : a < 18446744073709551616) : IntKind.u64.wrap (a : Int)=(a : Int):=by
 have e1 : IntKind.u64.signed=false:=rfl
 have e3 : (2 ^ IntKind.u64.bits : Int)=18446744073709551616:=rfl
 unfold IntKind.wrap
 simp only [e1,e3,Bool.false_and]
 simp
 omega
theorem vA (a : Nat) : IntKind.u64.wrap (a : Int)=((a % 18446744073709551616 : Nat) : Int):=by
 have e1 : IntKind.u64.signed=false:=rfl
 have e3 : (2 ^ IntKind.u64.bits : Int)=18446744073709551616:=rfl
 unfold IntKind.wrap
 simp only [e1,e3,Bool.false_and]
 simp
variable {C : CC} (hC : aA prog C)
include hC
theorem qJ (x y : Nat) (hx : x < 18446744073709551616) (hy : y < 18446744073709551616) : C 91 [.int .u64 x,.int .u64 y] (.tup [.int .u64 ((x * y / 18446744073709551616 : Nat) : Int),.int .u64 ((x * y % 18446744073709551616 : Nat) : Int)]) []:=by
 refine start hC (nf:=N91) rfl rfl ?_
 obtain ⟨bd,bt,bw,hhi⟩:=Lib.mul64_hi x y hx hy
 have ba:=Lib.half_mul_le (a:=x / 4294967296) (b:=y / 4294967296) (by omega) (by omega)
 have bb:=Lib.half_mul_le (a:=x / 4294967296) (b:=y % 4294967296) (by omega) (by omega)
 have bc:=Lib.half_mul_le (a:=x % 4294967296) (b:=y / 4294967296) (by omega) (by omega)
 have ba' : x / 4294967296 * (y / 4294967296) < 18446744073709551616:=by omega
 have bb' : x / 4294967296 * (y % 4294967296) < 18446744073709551616:=by omega
 have bc' : x % 4294967296 * (y / 4294967296) < 18446744073709551616:=by omega
 have bh1 : x / 4294967296 * (y / 4294967296) + (x / 4294967296 * (y % 4294967296) + x % 4294967296 * (y % 4294967296) / 4294967296) / 4294967296 < 18446744073709551616:=by omega
 have bh : x / 4294967296 * (y / 4294967296) + (x / 4294967296 * (y % 4294967296) + x % 4294967296 * (y % 4294967296) / 4294967296) / 4294967296 + ((x / 4294967296 * (y % 4294967296) + x % 4294967296 * (y % 4294967296) / 4294967296) % 4294967296 + x % 4294967296 * (y / 4294967296)) / 4294967296 < 18446744073709551616:=by omega
 simp [N91]
 simp only [o5 x hx,o5 y hy,rp,uD,EV,de _ bd,de _ bb',de _ bt,o5 _ bt,de _ bc',de _ bw,de _ ba',de _ bh1,de _ bh,vA (x * y)]
 rw [hhi]
 exact ⟨by omega,by omega⟩
end Go.Gv

namespace Go.Gv
theorem zF (a : Nat) : Int.fdiv (a : Int) (2 ^ min 16 IntKind.u64.bits)=((a / 65536 : Nat) : Int):=qB a 16
theorem xJ (a : Nat) : Int.fdiv (a : Int) (2 ^ min 8 IntKind.u64.bits)=((a / 256 : Nat) : Int):=qB a 8
theorem Jv (a : Nat) (h : a < 256) : IntKind.u8.wrap (a : Int)=(a : Int):=by
 have e1 : IntKind.u8.signed=false:=rfl
 have e3 : (2 ^ IntKind.u8.bits : Int)=256:=rfl
 unfold IntKind.wrap
 simp only [e1,e3,Bool.false_and]
 simp
 omega
theorem qf : S1.length=256 /\ ∀ n : Fin 256,S1[n.val]?.getD 0=UInt8.ofNat (bitLen n.val) /\ bitLen n.val <= 8:=by decide +kernel
theorem ee {x n z : Nat} {m : Int} (hz : z < 256) (hm : m=n) (hn : n <= 56) (h : n + bitLen z=bitLen x) : 0 <= IntKind.u8.wrap (z : Int) /\ (IntKind.u8.wrap (z : Int)).toNat < S1.length /\ IntKind.i64.wrap (m + IntKind.i64.wrap ↑(S1[(IntKind.u8.wrap (z : Int)).toNat]?.getD default).toNat)=(bitLen x : Int):=by
 rw [Jv z hz]
 obtain ⟨h1,h2⟩:=qf
 obtain ⟨h3,h4⟩:=h2 ⟨z,hz⟩
 have e : (S1[(z : Int).toNat]?.getD default).toNat=bitLen z:=by
  show (S1[z]?.getD 0).toNat=bitLen z
  simp only at h3 h4
  rw [h3,UInt8.toNat_ofNat']
  omega
 simp only at h4
 rw [e]
 have e2 : IntKind.i64.wrap (bitLen z : Int)=(bitLen z : Int):=ae rfl (by omega)
 refine ⟨by omega,by omega,?_⟩
 rw [e2,hm]
 exact ae (by omega) (by omega)
variable {C : CC} (hC : aA prog C)
include hC
theorem vQ (x : Nat) (hx : x < 18446744073709551616) : C 111 [.int .u64 x] (.int .i64 (bitLen x)) []:=by
 refine start hC (nf:=N111) rfl rfl ?_
 have key : ∀ (b z : Nat),2 ^ b <= z -> bitLen z=b + bitLen (z / 2 ^ b):=fun b z h=>bitLen_shift z b (by
  have:=Nat.div_pos h (Nat.two_pow_pos b)
  omega)
 simp [N111]
 refine al (fun h1=>?_) (fun h1=>?_) <;> simp at h1
 ·obtain ⟨y,hy⟩ : ∃ y : Nat,y=x / 4294967296:=⟨_,rfl⟩
  have e1 : Int.fdiv (x : Int) (2 ^ min 32 IntKind.u64.bits)=(y : Int):=by rw [rp,hy]
  have k1:=key 32 x (by omega)
  simp [e1]
  refine al (fun h2=>?_) (fun h2=>?_) <;> simp at h2
  ·obtain ⟨z,hz⟩ : ∃ z : Nat,z=y / 65536:=⟨_,rfl⟩
   have e2 : Int.fdiv (y : Int) (2 ^ min 16 IntKind.u64.bits)=(z : Int):=by rw [zF,hz]
   have k2:=key 16 y (by omega)
   simp [e2]
   refine al (fun h3=>?_) (fun h3=>?_) <;> simp at h3
   ·obtain ⟨v,hv⟩ : ∃ v : Nat,v=z / 256:=⟨_,rfl⟩
    have e3 : Int.fdiv (z : Int) (2 ^ min 8 IntKind.u64.bits)=(v : Int):=by rw [xJ,hv]
    have k3:=key 8 z (by omega)
    simp [e3]
    refine ee (n:=56) (by omega) ?_ (by omega) ?_
    ·decide
    ·simp only [Nat.reducePow] at k1 k2 k3
     rw [<- hy] at k1;rw [<- hz] at k2;rw [<- hv] at k3;omega
   ·simp
    refine ee (n:=48) (by omega) ?_ (by omega) ?_
    ·decide
    ·simp only [Nat.reducePow] at k1 k2
     rw [<- hy] at k1;rw [<- hz] at k2;omega
  ·simp
   refine al (fun h3=>?_) (fun h3=>?_) <;> simp at h3
   ·obtain ⟨v,hv⟩ : ∃ v : Nat,v=y / 256:=⟨_,rfl⟩
    have e3 : Int.fdiv (y : Int) (2 ^ min 8 IntKind.u64.bits)=(v : Int):=by rw [xJ,hv]
    have k3:=key 8 y (by omega)
    simp [e3]
    refine ee (n:=40) (by omega) ?_ (by omega) ?_
    ·decide
    ·simp only [Nat.reducePow] at k1 k3
     rw [<- hy] at k1;rw [<- hv] at k3;omega
   ·simp
    refine ee (n:=32) (by omega) ?_ (by omega) ?_
    ·decide
    ·simp only [Nat.reducePow] at k1
     rw [<- hy] at k1;omega
 ·simp
  refine al (fun h2=>?_) (fun h2=>?_) <;> simp at h2
  ·obtain ⟨z,hz⟩ : ∃ z : Nat,z=x / 65536:=⟨_,rfl⟩
   have e2 : Int.fdiv (x : Int) (2 ^ min 16 IntKind.u64.bits)=(z : Int):=by rw [zF,hz]
   have k2:=key 16 x (by omega)
   simp [e2]
   refine al (fun h3=>?_) (fun h3=>?_) <;> simp at h3
   ·obtain ⟨v,hv⟩ : ∃ v : Nat,v=z / 256:=⟨_,rfl⟩
    have e3 : Int.fdiv (z : Int) (2 ^ min 8 IntKind.u64.bits)=(v : Int):=by rw [xJ,hv]
    have k3:=key 8 z (by omega)
    simp [e3]
    refine ee (n:=24) (by omega) ?_ (by omega) ?_
    ·decide
    ·simp only [Nat.reducePow] at k2 k3
     rw [<- hz] at k2;rw [<- hv] at k3;omega
   ·simp
    refine ee (n:=16) (by omega) ?_ (by omega) ?_
    ·decide
    ·simp only [Nat.reducePow] at k2
     rw [<- hz] at k2;omega
  ·simp
   refine al (fun h3=>?_) (fun h3=>?_) <;> simp at h3
   ·obtain ⟨v,hv⟩ : ∃ v : Nat,v=x / 256:=⟨_,rfl⟩
    have e3 : Int.fdiv (x : Int) (2 ^ min 8 IntKind.u64.bits)=(v : Int):=by rw [xJ,hv]
    have k3:=key 8 x (by omega)
    simp [e3]
    refine ee (n:=8) (by omega) ?_ (by omega) ?_
    ·decide
    ·simp only [Nat.reducePow] at k3
     rw [<- hv] at k3;omega
   ·simp
    have:=ee (x:=x) (n:=0) (m:=0) (z:=x) (by omega) rfl (by omega) (by omega)
    simpa using this
theorem jV (x : Nat) (hx : x < 18446744073709551616) : C 102 [.int .u64 x] (.int .i64 ((64 - bitLen x : Nat) : Int)) []:=by
 have hb : bitLen x <= 64:=by
  unfold bitLen
  split
  ·omega
  ·rename_i h
   have:=(Nat.log2_lt h).2 (show x < 2 ^ 64 by omega)
   omega
 refine start hC (nf:=N102) rfl rfl ?_
 simp [N102]
 refine aa (vQ hC x hx) (.inl rfl) ?_
 have e : IntKind.wrap .i64 (64 - (bitLen x : Int))=((64 - bitLen x : Nat) : Int):=ae (by omega) (by omega)
 simp [e]
end Go.Gv

namespace Go.Gv
structure DvI (u d a b q r : Nat) : Prop where
 sum : q * a + r=u
 ge : (u * 4294967296 + d) / (a * 4294967296 + b) <= q
 rlt : r < 4294967296
 qle : q <= 4294967297
section
variable {u d a b q r : Nat}
theorem Dv.mul (h : q * a + r=u) : q * (a * 4294967296 + b) + r * 4294967296=u * 4294967296 + q * b:=by
 subst h
 rw [Nat.mul_add,<- Nat.mul_assoc,Nat.add_mul]
 omega
theorem Dv.lt (_ : 0 < a) (hu : u < a * 4294967296 + b) (hd : d < 4294967296) : (u * 4294967296 + d) / (a * 4294967296 + b) < 4294967296:=by
 rw [Nat.div_lt_iff_lt_mul (by omega)]
 have : (u + 1) * 4294967296 <= (a * 4294967296 + b) * 4294967296:=Nat.mul_le_mul_right _ hu
 omega
theorem DvI.first (ha : 2147483648 <= a) (ha2 : a < 4294967296) (hb : b < 4294967296) (hu : u < a * 4294967296 + b) (hd : d < 4294967296) : DvI u d a b (u / a) (u % a) where
 sum:=by rw [Nat.mul_comm];exact Nat.div_add_mod u a
 rlt:=by have:=Nat.mod_lt u (show 0 < a by omega);omega
 ge:=by
  rw [Nat.le_div_iff_mul_le (by omega)]
  have h:=Nat.div_mul_le_self (u * 4294967296 + d) (a * 4294967296 + b)
  generalize (u * 4294967296 + d) / (a * 4294967296 + b)=Q at *
  rw [Nat.mul_add,<- Nat.mul_assoc] at h
  generalize Q * b=z at *
  generalize Q * a=x at *
  omega
 qle:=by
  have : u / a < 4294967298:=by
   rw [Nat.div_lt_iff_lt_mul (by omega)]
   omega
  omega
theorem DvI.more (h : DvI u d a b q r) (ha : 0 < a) (hu : u < a * 4294967296 + b) (hd : d < 4294967296) (hc : 4294967296 <= q \/ 4294967296 * r + d < q * b) : (u * 4294967296 + d) / (a * 4294967296 + b) + 1 <= q:=by
 rcases hc with hc | hc
 ·have:=Dv.lt (d:=d) ha hu hd
  omega
 ·have h1:=Dv.mul (b:=b) h.sum
  have : (u * 4294967296 + d) / (a * 4294967296 + b) < q:=by
   rw [Nat.div_lt_iff_lt_mul (by omega)]
   generalize q * (a * 4294967296 + b)=z at *
   generalize q * b=x at *
   omega
  omega
theorem DvI.done (h : DvI u d a b q r) (ha : 0 < a) (hc : q * b <= 4294967296 * r + d) : q=(u * 4294967296 + d) / (a * 4294967296 + b):=by
 have h1:=Dv.mul (b:=b) h.sum
 have h2:=h.ge
 have : q <= (u * 4294967296 + d) / (a * 4294967296 + b):=by
  rw [Nat.le_div_iff_mul_le (by omega)]
  generalize q * (a * 4294967296 + b)=z at *
  generalize q * b=x at *
  omega
 omega
theorem DvI.next (h : DvI u d a b q r) (ha : 0 < a) (hu : u < a * 4294967296 + b) (hd : d < 4294967296) (hc : 4294967296 <= q \/ 4294967296 * r + d < q * b) :
  1 <= q /\ (q - 1) * a + (r + a)=u /\ (u * 4294967296 + d) / (a * 4294967296 + b) <= q - 1 /\ q - 1 <= 4294967296:=by
 have h1:=h.more ha hu hd hc
 have h2:=h.qle
 have h3:=h.sum
 generalize (u * 4294967296 + d) / (a * 4294967296 + b)=Q at *
 obtain ⟨q',rfl⟩ : ∃ q',q=q' + 1:=⟨q - 1,by omega⟩
 refine ⟨by omega,?_,by omega,by omega⟩
 rw [Nat.add_mul] at h3
 simp only [Nat.add_sub_cancel]
 omega
theorem Dv.stop (hs : q * a + r=u) (hg : (u * 4294967296 + d) / (a * 4294967296 + b) <= q) (hq : q <= 4294967296) (ha : 0 < a) (hb : b < 4294967296) (hr : 4294967296 <= r) : q=(u * 4294967296 + d) / (a * 4294967296 + b):=by
 have h1:=Dv.mul (b:=b) hs
 have h3 : q * b <= 4294967296 * 4294967295:=Nat.mul_le_mul hq (by omega)
 have : q <= (u * 4294967296 + d) / (a * 4294967296 + b):=by
  rw [Nat.le_div_iff_mul_le (by omega)]
  generalize q * (a * 4294967296 + b)=z at *
  generalize q * b=x at *
  omega
 omega
theorem DvI.bnd (h : DvI u d a b q r) (hb : b < 4294967296) : q * b < 18446744073709551616:=by
 have:=Nat.mul_le_mul h.qle (show b <= 4294967295 by omega)
 omega
end
theorem Ao {N y S A K un0 y' : Nat} (hy : 0 < y) (hs : 0 < S) (hy' : y'=y * S) (hn : N * S=A * K + un0) :
  A / y' * K + (A % y' * K + un0) / y'=N / y /\ (A % y' * K + un0) % y' / S=N % y:=by
 have hyp : 0 < y':=by rw [hy'];exact Nat.mul_pos hy hs
 have e1:=Nat.div_add_mod A y'
 have e2:=Nat.div_add_mod (A % y' * K + un0) y'
 have l2:=Nat.mod_lt (A % y' * K + un0) hyp
 have tot : y' * (A / y' * K + (A % y' * K + un0) / y') + (A % y' * K + un0) % y'=N * S:=by
  rw [hn,Nat.mul_add,Nat.add_assoc,e2,<- Nat.mul_assoc,<- Nat.add_assoc,<- Nat.add_mul,e1]
 have hq : N * S / y'=A / y' * K + (A % y' * K + un0) / y':=by
  rw [<- tot,Nat.mul_add_div hyp,Nat.div_eq_of_lt l2,Nat.add_zero]
 have hr : N * S % y'=(A % y' * K + un0) % y':=by
  rw [<- tot,Nat.mul_add_mod,Nat.mod_eq_of_lt l2]
 rw [hy',Nat.mul_div_mul_right _ _ hs] at hq
 rw [hy',Nat.mul_mod_mul_right] at hr
 rw [hy'] at *
 exact ⟨hq.symm,by rw [<- hr,Nat.mul_div_cancel _ hs]⟩
end Go.Gv

namespace Go.Gv
theorem vu (a b : Nat) : Int.tdiv (a : Int) (b : Int)=((a / b : Nat) : Int):=by
 rw [Int.tdiv_eq_ediv_of_nonneg (by omega)];norm_cast
theorem Jq (a b : Nat) : Int.tmod (a : Int) (b : Int)=((a % b : Nat) : Int):=by
 rw [Int.tmod_eq_emod_of_nonneg (by omega)];norm_cast
theorem iz (a : Int) : IntKind.u64.wrap a=a % 18446744073709551616:=by
 have e1 : IntKind.u64.signed=false:=rfl
 have e3 : (2 ^ IntKind.u64.bits : Int)=18446744073709551616:=rfl
 unfold IntKind.wrap
 simp only [e1,e3,Bool.false_and]
 simp
theorem orN (a b i : Nat) (hb : b < 2 ^ i) (h : a * 2 ^ i + b < 18446744073709551616) : bits .or .u64 ((a * 2 ^ i : Nat) : Int) (b : Int)=((a * 2 ^ i + b : Nat) : Int):=by
 rw [bits_or_u64_nat _ _ (by omega) (by omega),Nat.mul_comm a,Nat.two_pow_add_eq_or_of_lt hb]
theorem sr (a m b s : Nat) : (a * m + b) * s=a * s * m + b * s:=by rw [Nat.add_mul,Nat.mul_right_comm]
theorem Jr {H B W U d1 d0 : Nat} (hU : U=H + B) (h1 : d1=W / 4294967296) (h0 : d0=W % 4294967296) : H * 18446744073709551616 + (B * 18446744073709551616 + W)=(U * 4294967296 + d1) * 4294967296 + d0:=by omega
theorem Bl {y s : Nat} (h0 : y ≠ 0) (hy : y < 18446744073709551616) (hs : s=64 - bitLen y) : s <= 63 /\ 9223372036854775808 <= y * 2 ^ s /\ y * 2 ^ s < 18446744073709551616:=by
 obtain ⟨h1,h2⟩:=bitLen_spec y
 have h3:=h2 h0
 have hb : bitLen y <= 64:=by
  unfold bitLen
  rw [if_neg h0]
  have:=(Nat.log2_lt h0).2 (show y < 2 ^ 64 by omega)
  omega
 have hb1 : 1 <= bitLen y:=by unfold bitLen;rw [if_neg h0];omega
 have e : bitLen y + s=64:=by omega
 refine ⟨by omega,?_,?_⟩
 ·have:=Nat.mul_le_mul_right (2 ^ s) h3
  rw [<- Nat.pow_add,show bitLen y - 1 + s=63 by omega] at this
  omega
 ·have:=Nat.mul_lt_mul_of_pos_right h1 (Nat.two_pow_pos s)
  rw [<- Nat.pow_add,e] at this
  omega
variable {C : CC} (hC : aA prog C)
include hC
theorem qI (hi lo y : Nat) (h : hi < y) (hy : y < 18446744073709551616) (hl : lo < 18446744073709551616) :
  C 92 [.int .u64 hi,.int .u64 lo,.int .u64 y] (.tup [.int .u64 (((hi * 18446744073709551616 + lo) / y : Nat) : Int),.int .u64 (((hi * 18446744073709551616 + lo) % y : Nat) : Int)]) []:=by
 refine start hC (nf:=N92) rfl rfl ?_
 have h1 : ¬ y=0:=by omega
 have h2 : ¬ y <= hi:=by omega
 generalize hres : D.tup [D.int .u64 (((hi * 18446744073709551616 + lo) / y : Nat) : Int),.int .u64 (((hi * 18446744073709551616 + lo) % y : Nat) : Int)]=res
 simp [N92]
 refine al (fun h=>?_) (fun _=>?_)
 ·simp at h;omega
 simp
 refine al (fun h=>?_) (fun _=>?_)
 ·simp at h;omega
 simp
 refine al (fun h=>?_) (fun h3=>?_)
 ·simp at h
  have : hi=0:=by omega
  subst this
  have hq : lo / y < 18446744073709551616:=by have:=Nat.div_le_self lo y;omega
  obtain ⟨q,hq'⟩ : ∃ q,q=lo / y:=⟨_,rfl⟩
  obtain ⟨r,hr'⟩ : ∃ r,r=lo % y:=⟨_,rfl⟩
  have e1 : Int.tdiv (lo : Int) (y : Int)=(q : Int):=by rw [vu,hq']
  have e2 : Int.tmod (lo : Int) (y : Int)=(r : Int):=by rw [Jq,hr']
  simp [h1,e1,e2,de q (by omega)]
  refine ⟨ah (by decide +kernel),?_⟩
  rw [<- hres,hq',hr',Nat.zero_mul,Nat.zero_add]
 simp
 refine aa (jV hC y hy) (.inl rfl) ?_
 generalize hs : 64 - bitLen y=s
 obtain ⟨s1,s2,s3⟩:=Bl h1 hy hs.symm
 have w1 : IntKind.u64.wrap (s : Int)=(s : Int):=de _ (by omega)
 have w2 : IntKind.u64.wrap (64 - (s : Int))=((64 - s : Nat) : Int):=by rw [iz];omega
 have m1 : min s IntKind.u64.bits=s:=by show min s 64=s;omega
 have m2 : min (64 - s) IntKind.u64.bits=64 - s:=by show min (64 - s) 64=64 - s;omega
 obtain ⟨Y,hY⟩ : ∃ Y,Y=y * 2 ^ s:=⟨_,rfl⟩
 obtain ⟨H,hH⟩ : ∃ H,H=hi * 2 ^ s:=⟨_,rfl⟩
 obtain ⟨W,hW⟩ : ∃ W,W=lo * 2 ^ s % 18446744073709551616:=⟨_,rfl⟩
 obtain ⟨B,hB⟩ : ∃ B,B=lo / 2 ^ (64 - s):=⟨_,rfl⟩
 rw [<- hY] at s2 s3
 have hHY : H + 2 ^ s <= Y:=by
  have:=Nat.mul_le_mul_right (2 ^ s) h
  rw [hH,hY]
  rw [Nat.succ_mul] at this
  exact this
 have hBs : B < 2 ^ s:=by
  rw [hB,Nat.div_lt_iff_lt_mul (Nat.two_pow_pos _),<- Nat.pow_add,show s + (64 - s)=64 by omega]
  exact hl
 obtain ⟨U,hU⟩ : ∃ U,U=H + B:=⟨_,rfl⟩
 have hUY : U < Y:=by omega
 have eY : IntKind.u64.wrap ((y : Int) * 2 ^ s)=(Y : Int):=by
  rw [show (y : Int) * 2 ^ s=(Y : Int) by rw [hY];norm_cast];exact de _ s3
 have eH : IntKind.u64.wrap ((hi : Int) * 2 ^ s)=(H : Int):=by
  rw [show (hi : Int) * 2 ^ s=(H : Int) by rw [hH];norm_cast];exact de _ (by omega)
 have eW : IntKind.u64.wrap ((lo : Int) * 2 ^ s)=(W : Int):=by
  rw [show (lo : Int) * 2 ^ s=((lo * 2 ^ s : Nat) : Int) by norm_cast,vA,hW]
 have eB : Int.fdiv (lo : Int) (2 ^ (64 - s))=(B : Int):=by rw [qB,hB]
 have eU : bits .or .u64 (H : Int) (B : Int)=(U : Int):=by
  rw [hU,hH];exact orN hi B s hBs (by omega)
 obtain ⟨Y1,hY1⟩ : ∃ Y1,Y1=Y / 4294967296:=⟨_,rfl⟩
 obtain ⟨Y0,hY0⟩ : ∃ Y0,Y0=Y % 4294967296:=⟨_,rfl⟩
 obtain ⟨d1,hd1⟩ : ∃ d1,d1=W / 4294967296:=⟨_,rfl⟩
 obtain ⟨d0,hd0⟩ : ∃ d0,d0=W % 4294967296:=⟨_,rfl⟩
 have eY1 : Int.fdiv (Y : Int) (2 ^ min 32 IntKind.u64.bits)=(Y1 : Int):=by rw [rp,hY1]
 have eY0 : bits .and .u64 (Y : Int) 4294967295=(Y0 : Int):=by rw [o5 _ s3,hY0]
 have hW64 : W < 18446744073709551616:=by rw [hW];exact Nat.mod_lt _ (by omega)
 have ed1 : Int.fdiv (W : Int) (2 ^ min 32 IntKind.u64.bits)=(d1 : Int):=by rw [rp,hd1]
 have ed0 : bits .and .u64 (W : Int) 4294967295=(d0 : Int):=by rw [o5 _ hW64,hd0]
 have hY1a : 2147483648 <= Y1:=by omega
 have hY1b : Y1 < 4294967296:=by omega
 have hY0b : Y0 < 4294967296:=by omega
 have hd1b : d1 < 4294967296:=by omega
 have hd0b : d0 < 4294967296:=by omega
 have hYs : Y1 * 4294967296 + Y0=Y:=by omega
 have nz : ¬ Y1=0:=by omega
 have inv1:=DvI.first hY1a hY1b hY0b (u:=U) (d:=d1) (by omega) hd1b
 obtain ⟨q,hq⟩ : ∃ q,q=U / Y1:=⟨_,rfl⟩
 obtain ⟨r,hr⟩ : ∃ r,r=U % Y1:=⟨_,rfl⟩
 rw [<- hq,<- hr] at inv1
 have eq1 : Int.tdiv (U : Int) (Y1 : Int)=(q : Int):=by rw [vu,hq]
 have eq2 : IntKind.u64.wrap (q : Int)=(q : Int):=de _ (by have:=inv1.qle;omega)
 have sub1 : ∀ (u a q r : Nat),q * a + r=u -> u < 18446744073709551616 -> IntKind.u64.wrap ((u : Int) - IntKind.u64.wrap ((q : Int) * (a : Int)))=(r : Int):=fun u a q r e hu=>by
  rw [uD,iz,iz]
  generalize q * a=z at *
  omega
 have er : IntKind.u64.wrap ((U : Int) - IntKind.u64.wrap ((q : Int) * (Y1 : Int)))=(r : Int):=sub1 _ _ _ _ inv1.sum (by omega)
 simp [w1,w2,m1,m2,eY,eH,eW,eB,eU,eY1,eY0,ed1,ed0,eq1,eq2,er,nz]
 have bm : ∀ {u d q r : Nat},DvI u d Y1 Y0 q r -> IntKind.u64.wrap ((q : Int) * (Y0 : Int))=((q * Y0 : Nat) : Int):=fun i=>by rw [uD];exact de _ (i.bnd hY0b)
 have bp : ∀ {u d q r : Nat},d < 4294967296 -> DvI u d Y1 Y0 q r -> IntKind.u64.wrap (IntKind.u64.wrap (4294967296 * (r : Int)) + (d : Int))=((4294967296 * r + d : Nat) : Int):=fun {u d q r} hd i=>by
  have:=i.rlt
  rw [show (4294967296 : Int) * (r : Int)=((4294967296 * r : Nat) : Int) by omega,de (4294967296 * r) (by omega),EV]
  exact de _ (by omega)
 obtain ⟨Q1,hQ1⟩ : ∃ Q1,Q1=(U * 4294967296 + d1) / (Y1 * 4294967296 + Y0):=⟨_,rfl⟩
 refine oW 0 Nat (fun x=>[(2,.int .u64 Y),(8,.int .u64 s),(9,.int .u64 Y1),(10,.int .u64 Y0),(11,.int .u64 U),(13,.int .u64 d1),(14,.int .u64 d0),(15,.int .u64 x)]) (fun x=>x=Q1) ?_ ?_
 ·refine au (Nat × Nat) (fun x=>[(2,.int .u64 Y),(8,.int .u64 s),(9,.int .u64 Y1),(10,.int .u64 Y0),(11,.int .u64 U),(13,.int .u64 d1),(14,.int .u64 d0),(15,.int .u64 x.1),(16,.int .u64 x.2)]) (fun x=>DvI U d1 Y1 Y0 x.1 x.2) (fun x=>4294967296 - x.2) (q,r) inv1 (by simp) ?_
  rintro ⟨a,c⟩ inv
  simp only at inv
  have b1:=bm inv
  have b2:=bp hd1b inv
  have b3:=inv.rlt
  have b4:=inv.qle
  have fin : (4294967296 <= a \/ 4294967296 * c + d1 < a * Y0) -> ∃ a' c' : Nat,IntKind.u64.wrap ((a : Int) - 1)=(a' : Int) /\ IntKind.u64.wrap ((c : Int) + (Y1 : Int))=(c' : Int) /\ c'=c + Y1 /\ (4294967296 <= c' -> a'=Q1) /\ (c' < 4294967296 -> DvI U d1 Y1 Y0 a' c'):=fun hc=>by
   obtain ⟨n1,n2,n3,n4⟩:=inv.next (by omega) (by rw [hYs];exact hUY) hd1b hc
   refine ⟨a - 1,c + Y1,by rw [iz];omega,by rw [iz];omega,rfl,fun hc=>(Dv.stop n2 n3 n4 (by omega) hY0b hc).trans hQ1.symm,fun hc=>⟨n2,n3,hc,by omega⟩⟩
  simp
  refine al (fun c1=>?_) (fun c1=>?_) <;> simp [c1] <;> simp at c1
  ·obtain ⟨a',c',k1,k2,k3,k4,k5⟩:=fin (.inl (by omega))
   simp [k1,k2]
   refine al (fun c2=>?_) (fun c2=>?_) <;> simp [c2,k1,k2] <;> simp at c2
   ·rw [k4 (by omega)]
   ·exact ⟨_,_,k5 (by omega),by omega,rfl,rfl⟩
  ·simp [b1,b2]
   refine al (fun c3=>?_) (fun c3=>?_) <;> simp [c3] <;> simp at c3
   ·obtain ⟨a',c',k1,k2,k3,k4,k5⟩:=fin (.inr (by omega))
    simp [k1,k2]
    refine al (fun c2=>?_) (fun c2=>?_) <;> simp [c2,k1,k2] <;> simp at c2
    ·rw [k4 (by omega)]
    ·exact ⟨_,_,k5 (by omega),by omega,rfl,rfl⟩
   ·rw [(inv.done (by omega) (by omega)).trans hQ1.symm]
 intro q1 e hq1 hw
 subst hq1
 simp at hw
 obtain ⟨g2,g8,g9,g10,g11,g13,g14,g15⟩:=hw
 obtain ⟨V,hV⟩ : ∃ V,V=(U * 4294967296 + d1) % (Y1 * 4294967296 + Y0):=⟨_,rfl⟩
 have hVY : V < Y:=by rw [hV,hYs];exact Nat.mod_lt _ (by omega)
 have sum1 : q1 * Y + V=U * 4294967296 + d1:=by rw [hQ1,hV,hYs,Nat.mul_comm];exact Nat.div_add_mod _ _
 have eV : IntKind.u64.wrap (IntKind.u64.wrap (IntKind.u64.wrap ((U : Int) * 4294967296) + (d1 : Int)) - IntKind.u64.wrap ((q1 : Int) * (Y : Int)))=(V : Int):=by
  rw [uD q1 Y]
  simp only [iz]
  generalize q1 * Y=z at *
  omega
 have inv2:=DvI.first hY1a hY1b hY0b (u:=V) (d:=d0) (by omega) hd0b
 obtain ⟨q2,hq2⟩ : ∃ q,q=V / Y1:=⟨_,rfl⟩
 obtain ⟨r2,hr2⟩ : ∃ r,r=V % Y1:=⟨_,rfl⟩
 rw [<- hq2,<- hr2] at inv2
 have eq3 : Int.tdiv (V : Int) (Y1 : Int)=(q2 : Int):=by rw [vu,hq2]
 have eq4 : IntKind.u64.wrap (q2 : Int)=(q2 : Int):=de _ (by have:=inv2.qle;omega)
 have er2 : IntKind.u64.wrap ((V : Int) - IntKind.u64.wrap ((q2 : Int) * (Y1 : Int)))=(r2 : Int):=sub1 _ _ _ _ inv2.sum (by omega)
 simp [g2,g8,g9,g10,g11,g13,g14,g15,eV,eq3,eq4,er2,nz]
 obtain ⟨Q0,hQ0⟩ : ∃ Q0,Q0=(V * 4294967296 + d0) / (Y1 * 4294967296 + Y0):=⟨_,rfl⟩
 refine oW 2 Nat (fun x=>[(2,.int .u64 Y),(8,.int .u64 s),(14,.int .u64 d0),(15,.int .u64 q1),(17,.int .u64 V),(18,.int .u64 x)]) (fun x=>x=Q0) ?_ ?_
 ·refine au (Nat × Nat) (fun x=>[(2,.int .u64 Y),(8,.int .u64 s),(9,.int .u64 Y1),(10,.int .u64 Y0),(14,.int .u64 d0),(15,.int .u64 q1),(16,.int .u64 x.2),(17,.int .u64 V),(18,.int .u64 x.1)]) (fun x=>DvI V d0 Y1 Y0 x.1 x.2) (fun x=>4294967296 - x.2) (q2,r2) inv2 (by simp) ?_
  rintro ⟨a,c⟩ inv
  simp only at inv
  have b1:=bm inv
  have b2:=bp hd0b inv
  have b3:=inv.rlt
  have b4:=inv.qle
  have fin : (4294967296 <= a \/ 4294967296 * c + d0 < a * Y0) -> ∃ a' c' : Nat,IntKind.u64.wrap ((a : Int) - 1)=(a' : Int) /\ IntKind.u64.wrap ((c : Int) + (Y1 : Int))=(c' : Int) /\ c'=c + Y1 /\ (4294967296 <= c' -> a'=Q0) /\ (c' < 4294967296 -> DvI V d0 Y1 Y0 a' c'):=fun hc=>by
   obtain ⟨n1,n2,n3,n4⟩:=inv.next (by omega) (by rw [hYs];exact hVY) hd0b hc
   refine ⟨a - 1,c + Y1,by rw [iz];omega,by rw [iz];omega,rfl,fun hc=>(Dv.stop n2 n3 n4 (by omega) hY0b hc).trans hQ0.symm,fun hc=>⟨n2,n3,hc,by omega⟩⟩
  simp
  refine al (fun c1=>?_) (fun c1=>?_) <;> simp [c1] <;> simp at c1
  ·obtain ⟨a',c',k1,k2,k3,k4,k5⟩:=fin (.inl (by omega))
   simp [k1,k2]
   refine al (fun c2=>?_) (fun c2=>?_) <;> simp [c2,k1,k2] <;> simp at c2
   ·rw [k4 (by omega)]
   ·exact ⟨_,_,k5 (by omega),by omega,rfl,rfl⟩
  ·simp [b1,b2]
   refine al (fun c3=>?_) (fun c3=>?_) <;> simp [c3] <;> simp at c3
   ·obtain ⟨a',c',k1,k2,k3,k4,k5⟩:=fin (.inr (by omega))
    simp [k1,k2]
    refine al (fun c2=>?_) (fun c2=>?_) <;> simp [c2,k1,k2] <;> simp at c2
    ·rw [k4 (by omega)]
    ·exact ⟨_,_,k5 (by omega),by omega,rfl,rfl⟩
   ·rw [(inv.done (by omega) (by omega)).trans hQ0.symm]
 intro q0 e hq0 hw
 subst hq0
 simp at hw
 obtain ⟨g2,g8,g14,g15,g17,g18⟩:=hw
 have l1 : q1 < 4294967296:=by rw [hQ1];exact Dv.lt (by omega) (by omega) hd1b
 have l0 : q0 < 4294967296:=by rw [hQ0];exact Dv.lt (by omega) (by omega) hd0b
 obtain ⟨R,hR⟩ : ∃ R,R=(V * 4294967296 + d0) % (Y1 * 4294967296 + Y0):=⟨_,rfl⟩
 have hRY : R < Y:=by rw [hR,hYs];exact Nat.mod_lt _ (by omega)
 have sum0 : q0 * Y + R=V * 4294967296 + d0:=by rw [hQ0,hR,hYs,Nat.mul_comm];exact Nat.div_add_mod _ _
 have eR : IntKind.u64.wrap (IntKind.u64.wrap (IntKind.u64.wrap ((V : Int) * 4294967296) + (d0 : Int)) - IntKind.u64.wrap ((q0 : Int) * (Y : Int)))=(R : Int):=by
  rw [uD q0 Y]
  simp only [iz]
  generalize q0 * Y=z at *
  omega
 obtain ⟨Z,hZ⟩ : ∃ Z,Z=R / 2 ^ s:=⟨_,rfl⟩
 have eZ : Int.fdiv (R : Int) (2 ^ s)=(Z : Int):=by rw [qB,hZ]
 have eQ : IntKind.u64.wrap (IntKind.u64.wrap ((q1 : Int) * 4294967296) + (q0 : Int))=((q1 * 4294967296 + q0 : Nat) : Int):=by
  simp only [iz]
  omega
 obtain ⟨T,hT⟩ : ∃ T,T=q1 * 4294967296 + q0:=⟨_,rfl⟩
 rw [<- hT] at eQ
 simp [g2,g8,g14,g15,g17,g18,w1,m1,eR,eZ,eQ]
 have hW2 : lo * 2 ^ s=B * 18446744073709551616 + W:=by
  have e1 : lo * 2 ^ s / 18446744073709551616=B:=by
   rw [hB,show (18446744073709551616 : Nat)=2 ^ (64 - s) * 2 ^ s by rw [<- Nat.pow_add,show 64 - s + s=64 by omega],Nat.mul_div_mul_right _ _ (Nat.two_pow_pos s)]
  have e2:=Nat.div_add_mod (lo * 2 ^ s) 18446744073709551616
  omega
 have tot : (hi * 18446744073709551616 + lo) * 2 ^ s=(U * 4294967296 + d1) * 4294967296 + d0:=by
  rw [sr,hW2,<- hH]
  exact Jr hU hd1 hd0
 obtain ⟨f1,f2⟩:=Ao (N:=hi * 18446744073709551616 + lo) (y:=y) (S:=2 ^ s) (A:=U * 4294967296 + d1) (K:=4294967296) (un0:=d0) (y':=Y1 * 4294967296 + Y0) (by omega) (Nat.two_pow_pos s) (by rw [hYs,hY]) tot
 rw [<- hV,<- hQ1,<- hQ0,<- hT] at f1
 rw [<- hV,<- hR,<- hZ] at f2
 rw [<- hres,f1,f2]
end Go.Gv

namespace Go.Gv
def PH (n : Nat) : D:=.agg [.int .u64 ((n / 18446744073709551616 : Nat) : Int),.int .u64 ((n % 18446744073709551616 : Nat) : Int)]
def zz (x : Nat) : Nat -> Nat -> Nat
 | 0,r=>r
 | i + 1,r=>zz x i (if (r + 2 ^ i) * (r + 2 ^ i) <= x then r + 2 ^ i else r)
def PC (x : Nat) : Nat:=zz x 63 0
variable {C : CC} (hC : aA prog C)
include hC
end Go.Gv

namespace Go.Gv
open Go.Lib
theorem Je (a k m : Nat) (hm : m=a * 2 ^ k % 18446744073709551616) : IntKind.u64.wrap ((a : Int) * 2 ^ k)=(m : Int):=by
 have e : (a : Int) * 2 ^ k=((a * 2 ^ k : Nat) : Int):=by push_cast;rfl
 rw [e,vA,hm]
theorem uw {n : Int} {m : Nat} (h : n=m \/ n=m + 18446744073709551616 \/ n=m - 18446744073709551616) (hm : m < 18446744073709551616) : IntKind.u64.wrap n=(m : Int):=by
 rw [iz];omega
end Go.Gv

namespace Go.Gv
open Go.Lib
theorem Jd (a m : Nat) (hm : m=a * 16 % 18446744073709551616) : IntKind.u64.wrap ((a : Int) * 2 ^ min 4 IntKind.u64.bits)=(m : Int):=Je a 4 m hm
theorem zD (a m : Nat) (hm : m=a * 1152921504606846976 % 18446744073709551616) : IntKind.u64.wrap ((a : Int) * 2 ^ min 60 IntKind.u64.bits)=(m : Int):=Je a 60 m hm
theorem zG (a : Nat) : Int.fdiv (a : Int) (2 ^ min 60 IntKind.u64.bits)=((a / 1152921504606846976 : Nat) : Int):=qB a 60
theorem Jf (a : Nat) : Int.fdiv (a : Int) (2 ^ min 4 IntKind.u64.bits)=((a / 16 : Nat) : Int):=qB a 4
theorem uB (a : Nat) (ha : a < 18446744073709551616) : bits .and .u64 (a : Int) 1152921504606846975=((a % 1152921504606846976 : Nat) : Int):=by
 have h:=bits_and_u64_nat a 1152921504606846975 ha (by omega)
 have e : a &&& 1152921504606846975=a % 1152921504606846976:=Nat.and_two_pow_sub_one_eq_mod a 60
 rw [e] at h
 exact h
theorem IU (a b : Nat) (hb : b < 16) (h : a * 16 + b < 18446744073709551616) : bits .or .u64 ((a * 16 : Nat) : Int) (b : Int)=((a * 16 + b : Nat) : Int):=orN a b 4 hb h
theorem Pi (a b : Nat) (hb : b < 1152921504606846976) (h : a * 1152921504606846976 + b < 18446744073709551616) : bits .or .u64 ((a * 1152921504606846976 : Nat) : Int) (b : Int)=((a * 1152921504606846976 + b : Nat) : Int):=orN a b 60 hb h
def eI (p : Nat) (neg : Bool) : D:=.agg [.int .u64 ((p / 18446744073709551616 : Nat) : Int),.int .u64 ((p % 18446744073709551616 : Nat) : Int),.bool neg]
def wiD (p : Nat) : D:=.agg [.int .i64 ((p / 1152921504606846976 : Nat) : Int),.int .i64 ((p % 1152921504606846976 : Nat) : Int)]
variable {C : CC} (hC : aA prog C)
include hC
theorem iW (n : Nat) (h : n < 9223372036854775808) : C 112 [.int .i64 n] (.int .u64 (n : Int)) []:=by
 refine start hC (nf:=N112) rfl rfl ?_
 have h0 : ¬ (n : Int) < 0:=by omega
 simp [N112,h0,de n (by omega)]
theorem ix (a b : Int) (n : Bool) : C 113 [.int .u64 a,.int .u64 b,.bool n] (.agg [.int .u64 a,.int .u64 b,.bool (n && (!decide (a=0) || !decide (b=0)))]) []:=by
 refine start hC (nf:=N113) rfl rfl ?_
 simp [N113]
 cases n <;> simp
 by_cases h : a=0 <;> simp [h]
theorem vC (x y : Nat) (hx : x < 9223372036854775808) (hy : y < 9223372036854775808) : C 103 [.int .i64 x,.int .i64 y] (eI (x * y) false) []:=by
 refine start hC (nf:=N103) rfl rfl ?_
 have h0 : ¬ (x : Int) < 0:=by omega
 have h1 : ¬ (y : Int) < 0:=by omega
 have hm:=qJ hC x y (by omega) (by omega)
 rw [eI]
 obtain ⟨zh,hzh⟩ : ∃ zh,zh=x * y / 18446744073709551616:=⟨_,rfl⟩
 obtain ⟨zl,hzl⟩ : ∃ zl,zl=x * y % 18446744073709551616:=⟨_,rfl⟩
 rw [<- hzh,<- hzl] at hm ⊢
 simp [N103]
 refine aa (iW hC x hx) (.inl rfl) ?_
 simp
 refine aa (iW hC y hy) (.inl rfl) ?_
 simp
 refine aa hm (.inl rfl) ?_
 simp [h0,h1]
 refine aa (ix hC zh zl false) (.inl rfl) ?_
 simp
theorem jU (n : Nat) (h : n < 9223372036854775808) : C 110 [.int .u64 n,.bool false] (.tup [.int .i64 n,.int .i64 0]) []:=by
 refine start hC (nf:=N110) rfl rfl ?_
 have h1 : (n : Int) <= 9223372036854775807:=by omega
 have h2 : IntKind.i64.wrap (n : Int)=(n : Int):=ae rfl (by omega)
 simp [N110,h1,h2]
theorem qr (p d : Nat) (up : Bool) (q : Nat) (hd : d < 9223372036854775808) (hp : p / 18446744073709551616 < d) (hq : q < 9223372036854775808) (hv : q=if up then (p + d - 1) / d else p / d) (hqd : p / d + 1 < 9223372036854775808) : C 104 [eI p false,.int .i64 d,.bool up] (.tup [.int .i64 q,.int .i64 0]) []:=by
 obtain ⟨ph,hph⟩ : ∃ z,z=p / 18446744073709551616:=⟨_,rfl⟩
 obtain ⟨pl,hpl⟩ : ∃ z,z=p % 18446744073709551616:=⟨_,rfl⟩
 have hpp : ph * 18446744073709551616 + pl=p:=by omega
 obtain ⟨q0,hq0⟩ : ∃ z,z=p / d:=⟨_,rfl⟩
 obtain ⟨r0,hr0⟩ : ∃ z,z=p % d:=⟨_,rfl⟩
 have hdiv:=qI hC ph pl d (by omega) (by omega) (by omega)
 rw [hpp,<- hq0,<- hr0] at hdiv
 have hd0 : 0 < d:=by omega
 have hdp : d * q0 + r0=p:=by rw [hq0,hr0];exact Nat.div_add_mod p d
 have hrd : r0 < d:=by rw [hr0];exact Nat.mod_lt _ hd0
 have hup : up=true -> q=if 0 < r0 then q0 + 1 else q0:=by
  rintro rfl
  simp only [if_true] at hv
  rw [hv,<- hdp]
  by_cases h : 0 < r0
  ·rw [if_pos h,show d * q0 + r0 + d - 1=d * q0 + (d + (r0 - 1)) by omega,Nat.mul_add_div hd0,Nat.add_div_left _ hd0,Nat.div_eq_of_lt (by omega)]
  ·rw [if_neg h,show d * q0 + r0 + d - 1=d * q0 + (d - 1) by omega,Nat.mul_add_div hd0,Nat.div_eq_of_lt (by omega)]
   rfl
 rw [eI,<- hph,<- hpl]
 have h1 : ¬ (d : Int) <= (ph : Int):=by omega
 have h2 : ¬ (d : Int) < 0:=by omega
 have h3 : IntKind.u64.wrap ((q0 : Int) + 1)=((q0 + 1 : Nat) : Int):=uw (by omega) (by omega)
 refine start hC (nf:=N104) rfl rfl ?_
 simp [N104]
 refine aa (iW hC d hd) (.inl rfl) ?_
 simp [h1]
 refine aa hdiv (.inl rfl) ?_
 simp [h2]
 cases up
 ·have e : q=q0:=by rw [hv,hq0];rfl
  subst e
  refine al (fun h=>?_) (fun h=>?_) <;> simp at h <;> simp [h]
  ·refine aa (jU hC q hq) (.inl rfl) ?_
   simp
  ·refine aa (jU hC q hq) (.inl rfl) ?_
   simp
 ·have hv:=hup rfl
  by_cases h : 0 < r0
  ·have hi : (0 : Int) < r0:=by omega
   rw [if_pos h] at hv
   subst hv
   have h4 : ¬ ((q0 : Int) + 1=0):=by omega
   simp [hi,h3,h4,h]
   refine aa (jU hC (q0 + 1) hq) (.inl rfl) ?_
   simp
  ·have hi : ¬ (0 : Int) < r0:=by omega
   rw [if_neg h] at hv
   subst hv
   simp [hi,h]
   refine aa (jU hC q hq) (.inl rfl) ?_
   simp
end Go.Gv

namespace Go.Gv
open Go.Lib
variable {C : CC} (hC : aA prog C)
include hC
theorem lZ (p : Nat) (h : p < 1329227995784915872903807060280344576) : C 105 [eI p false] (.tup [wiD p,.int .i64 0]) []:=by
 obtain ⟨ph,hph⟩ : ∃ z,z=p / 1152921504606846976:=⟨_,rfl⟩
 obtain ⟨pl,hpl⟩ : ∃ z,z=p % 1152921504606846976:=⟨_,rfl⟩
 obtain ⟨zh,hzh⟩ : ∃ z,z=p / 18446744073709551616:=⟨_,rfl⟩
 obtain ⟨zl,hzl⟩ : ∃ z,z=p % 18446744073709551616:=⟨_,rfl⟩
 rw [wiD,eI,<- hph,<- hpl,<- hzh,<- hzl]
 obtain ⟨zt,hzt⟩ : ∃ z,z=zl / 1152921504606846976:=⟨_,rfl⟩
 have h1 : ¬ (72057594037927936 : Int) < zh:=by omega
 have h2 : ¬ (zh : Int)=72057594037927936:=by omega
 have e1:=Jd zh (zh * 16) (by omega)
 have e2:=zG zl
 rw [<- hzt] at e2
 have e3:=IU zh zt (by omega) (by omega)
 have e4 : IntKind.i64.wrap ((zh * 16 + zt : Nat) : Int)=(ph : Int):=ae (by omega) (by omega)
 have e5:=uB zl (by omega)
 have e6 : IntKind.i64.wrap ((zl % 1152921504606846976 : Nat) : Int)=(pl : Int):=ae (by omega) (by omega)
 refine start hC (nf:=N105) rfl rfl ?_
 simp [N105,h1,h2,e2,-Int.natCast_mul,-Int.natCast_emod]
 refine ⟨ah (by decide +kernel),?_⟩
 rw [e1,e3,e4,e5,e6]
 simp
theorem yf (p : Nat) (h : p < 1329227995784915872903807060280344576) : C 108 [wiD p] (eI p false) []:=by
 obtain ⟨ph,hph⟩ : ∃ z,z=p / 1152921504606846976:=⟨_,rfl⟩
 obtain ⟨pl,hpl⟩ : ∃ z,z=p % 1152921504606846976:=⟨_,rfl⟩
 obtain ⟨zh,hzh⟩ : ∃ z,z=p / 18446744073709551616:=⟨_,rfl⟩
 obtain ⟨zl,hzl⟩ : ∃ z,z=p % 18446744073709551616:=⟨_,rfl⟩
 rw [wiD,eI,<- hph,<- hpl,<- hzh,<- hzl]
 have h1 : (0 : Int) <= ph:=by omega
 obtain ⟨w,hw⟩ : ∃ z,z=ph % 16:=⟨_,rfl⟩
 have e1 : Int.fdiv (ph : Int) (2 ^ min 4 IntKind.u64.bits)=(zh : Int):=by rw [Jf];omega
 have e2 : IntKind.u64.wrap ((ph : Int) * 2 ^ min 60 IntKind.u64.bits)=((w * 1152921504606846976 : Nat) : Int):=zD ph _ (by omega)
 have e3 : IntKind.u64.wrap (pl : Int)=(pl : Int):=de pl (by omega)
 have e4 : bits .or .u64 ((w * 1152921504606846976 : Nat) : Int) (pl : Int)=(zl : Int):=by
  rw [Pi w pl (by omega) (by omega)];omega
 refine start hC (nf:=N108) rfl rfl ?_
 simp [N108]
 refine aa (iW hC ph (by omega)) (.inl rfl) ?_
 simp [h1]
 rw [e1,e2,e3,e4]
 simp
end Go.Gv

namespace Go.Gv
theorem xg (p : Nat) : ∃ a b : Int,eI p false=.agg [.int .u64 a,.int .u64 b,.bool false]:=⟨_,_,rfl⟩
theorem BQ (p : Nat) : ∃ a b : Int,wiD p=.agg [.int .i64 a,.int .i64 b]:=⟨_,_,rfl⟩
variable {C : CC} (hC : aA prog C)
include hC
theorem rF (x y : Nat) (hx : x < 9223372036854775808) (hy : y < 9223372036854775808) (h : x * y < 1329227995784915872903807060280344576) : C 99 [.int .i64 x,.int .i64 y] (.tup [wiD (x * y),.int .i64 0]) []:=by
 have k1:=vC hC x y hx hy
 have k2:=lZ hC (x * y) h
 obtain ⟨a,b,e1⟩:=xg (x * y)
 obtain ⟨c,d,e2⟩:=BQ (x * y)
 rw [e1] at k1 k2
 rw [e2] at k2 ⊢
 refine start hC (nf:=N99) rfl rfl ?_
 simp [N99]
 refine aa k1 (.inl rfl) ?_
 simp
 refine aa k2 (.inr rfl) ?_
 simp
end Go.Gv

namespace Go.Gv
def go (x y : Int) : Int:=if x < y then -1 else if y < x then 1 else 0
variable {C : CC} (hC : aA prog C)
include hC
theorem qZ (x : Int) : C 299 [.int .i64 x] (.bool false) []:=by
 refine start hC (nf:=N299) rfl rfl ?_
 simp [N299]
theorem iC (x y : Int) : C 267 [.int .i64 x,.int .i64 y] (.int .i64 (go x y)) []:=by
 have k1:=qZ hC x
 have k2:=qZ hC y
 refine start hC (nf:=N267) rfl rfl ?_
 simp [N267]
 refine aa k1 (.inl rfl) ?_
 simp
 refine aa k2 (.inl rfl) ?_
 simp
 refine al (fun c1=>?_) (fun c1=>?_) <;> simp at c1 <;> simp [c1]
 ·rw [go,if_pos c1]
 ·refine al (fun c2=>?_) (fun c2=>?_) <;> simp at c2 <;> simp [c2]
  ·rw [go,if_neg (by omega),if_pos c2]
  ·rw [go,if_neg (by omega),if_neg (by omega)]
end Go.Gv

namespace Go.Gv
open Go.Lib
variable {C : CC} (hC : aA prog C)
include hC
def nmD (x : Nat) : D:=.agg [.int .u64 ((x / 18446744073709551616 : Nat) : Int),.int .u64 ((x % 18446744073709551616 : Nat) : Int),.bool false]
end Go.Gv

namespace Go.Gv
open Go.Lib
def wiS (v : Int) : D:=.agg [.int .i64 (v / 1152921504606846976),.int .i64 (v % 1152921504606846976)]
theorem lz (p : Nat) : wiS p=wiD p:=by simp [wiS,wiD]
variable {C : CC} (hC : aA prog C)
include hC
theorem pF (n : Nat) (h0 : 0 < n) (h : n < 9223372036854775808) : C 112 [.int .i64 (-(n : Int))] (.int .u64 (n : Int)) []:=by
 have e1 : IntKind.u64.wrap (-(n : Int))=((18446744073709551616 - n : Nat) : Int):=uw (by omega) (by omega)
 have e2 : IntKind.u64.wrap (-((18446744073709551616 - n : Nat) : Int))=(n : Int):=uw (by omega) (by omega)
 have h1 : (-(n : Int)) < 0:=by omega
 refine start hC (nf:=N112) rfl rfl ?_
 obtain ⟨z,hz⟩ : ∃ z,z=-(n : Int):=⟨_,rfl⟩
 obtain ⟨y,hy⟩ : ∃ y,y=((18446744073709551616 - n : Nat) : Int):=⟨_,rfl⟩
 rw [<- hz] at e1 h1 ⊢
 rw [<- hy] at e1 e2
 simp [N112,h1,e1,e2]
theorem m5 (p : Nat) (h0 : 0 < p) (h : p < 1329227995784915872903807060280344576) : C 105 [eI p true] (.tup [wiS (-(p : Int)),.int .i64 0]) []:=by
 obtain ⟨ph,hph⟩ : ∃ z,z=p / 1152921504606846976:=⟨_,rfl⟩
 obtain ⟨pl,hpl⟩ : ∃ z,z=p % 1152921504606846976:=⟨_,rfl⟩
 obtain ⟨zh,hzh⟩ : ∃ z,z=p / 18446744073709551616:=⟨_,rfl⟩
 obtain ⟨zl,hzl⟩ : ∃ z,z=p % 18446744073709551616:=⟨_,rfl⟩
 obtain ⟨qh,hqh⟩ : ∃ z,z=(-(p : Int)) / 1152921504606846976:=⟨_,rfl⟩
 obtain ⟨ql,hql⟩ : ∃ z,z=(-(p : Int)) % 1152921504606846976:=⟨_,rfl⟩
 rw [wiS,eI,<- hzh,<- hzl,<- hqh,<- hql]
 obtain ⟨zt,hzt⟩ : ∃ z,z=zl / 1152921504606846976:=⟨_,rfl⟩
 have h1 : ¬ (72057594037927936 : Int) < zh:=by omega
 have h2 : ¬ (zh : Int)=72057594037927936:=by omega
 have e1:=Jd zh (zh * 16) (by omega)
 have e2:=zG zl
 rw [<- hzt] at e2
 have e3:=IU zh zt (by omega) (by omega)
 have e4 : IntKind.i64.wrap ((zh * 16 + zt : Nat) : Int)=(ph : Int):=ae (by omega) (by omega)
 have e5:=uB zl (by omega)
 have e6 : IntKind.i64.wrap ((zl % 1152921504606846976 : Nat) : Int)=(pl : Int):=ae (by omega) (by omega)
 have e7 : IntKind.i64.wrap (-(ph : Int))=-(ph : Int):=ae rfl (by omega)
 have e8 : IntKind.i64.wrap (-(ph : Int) - 1)=-(ph : Int) - 1:=ae rfl (by omega)
 have e9 : IntKind.i64.wrap (1152921504606846976 - (pl : Int))=1152921504606846976 - (pl : Int):=ae rfl (by omega)
 refine start hC (nf:=N105) rfl rfl ?_
 simp [N105,h1,h2,e2,-Int.natCast_mul,-Int.natCast_emod]
 refine ⟨ah (by decide +kernel),?_⟩
 rw [e1,e3,e4,e5,e6]
 simp
 refine al (fun c1=>?_) (fun c1=>?_) <;> simp at c1
 ·simp [c1,e7]
  omega
 ·simp [c1,e7,e8,e9]
  omega
theorem kI (v : Int) (h : -1329227995784915872903807060280344576 <= v /\ v < 1329227995784915872903807060280344576) : C 106 [wiS v] (.bool true) []:=by
 obtain ⟨ph,hph⟩ : ∃ z,z=v / 1152921504606846976:=⟨_,rfl⟩
 obtain ⟨pl,hpl⟩ : ∃ z,z=v % 1152921504606846976:=⟨_,rfl⟩
 rw [wiS,<- hph,<- hpl]
 have h1 : (-1152921504606846976 : Int) <= ph:=by omega
 have h2 : ph < 1152921504606846976:=by omega
 have h3 : 0 <= pl:=by omega
 have h4 : pl < 1152921504606846976:=by omega
 refine start hC (nf:=N106) rfl rfl ?_
 simp [N106,h1,h2,h3,h4]
end Go.Gv

namespace Go.Gv
open Go.Lib
variable {C : CC} (hC : aA prog C)
include hC
end Go.Gv

namespace Go.Gv
def DvS (x b i a q r : Nat) : Prop:=i <= 128 /\ r < b /\ ∃ c,a=c * 2 ^ i /\ c < 2 ^ (128 - i) /\ (q * b + r) * 2 ^ (128 - i) + c=x
theorem DvS.step {x b i a q r : Nat} (h : DvS x b i a q r) (hi : i < 128) (hb : 0 < b) :
  a < 340282366920938463463374607431768211456 /\ 2 * q <= x /\
  ∀ w r' a',2 * r + a / 170141183460469231731687303715884105728=w * b + r' -> r' < b -> a'=2 * a % 340282366920938463463374607431768211456 -> DvS x b (i + 1) a' (2 * q + w) r' /\ 2 * q + w <= x:=by
 obtain ⟨_,hr,c,h1,h2,h3⟩:=h
 obtain ⟨m,hm⟩ : ∃ m,m + 1=128 - i:=⟨127 - i,by omega⟩
 have hm2 : m=128 - (i + 1):=by omega
 rw [<- hm,Nat.pow_succ] at h2 h3
 obtain ⟨V,hV⟩ : ∃ V,V=2 ^ m:=⟨_,rfl⟩
 obtain ⟨W,hW⟩ : ∃ W,W=2 ^ i:=⟨_,rfl⟩
 have hVW : V * W=170141183460469231731687303715884105728:=by
  rw [hV,hW,<- Nat.pow_add,show m + i=127 by omega]
 have hVp : 0 < V:=by rw [hV];exact Nat.two_pow_pos m
 rw [<- hV] at h2 h3
 rw [<- hW] at h1
 obtain ⟨t,ht⟩ : ∃ t,t=c / V:=⟨_,rfl⟩
 obtain ⟨d,hd⟩ : ∃ d,d=c % V:=⟨_,rfl⟩
 have hc : c=t * V + d:=by rw [ht,hd,Nat.mul_comm];exact (Nat.div_add_mod c V).symm
 have hdV : d < V:=by rw [hd];exact Nat.mod_lt _ hVp
 have ht1 : t <= 1:=by
  have : t < 2:=by rw [ht,Nat.div_lt_iff_lt_mul hVp];omega
  omega
 have ha : a=t * 170141183460469231731687303715884105728 + d * W:=by
  rw [h1,hc,Nat.add_mul,Nat.mul_assoc,hVW]
 have hdW : d * W < 170141183460469231731687303715884105728:=by
  have : (d + 1) * W <= V * W:=Nat.mul_le_mul_right _ hdV
  rw [hVW,Nat.add_mul] at this
  have hWp : 0 < W:=by rw [hW];exact Nat.two_pow_pos i
  omega
 have hbit : a / 170141183460469231731687303715884105728=t:=by
  rw [ha];generalize d * W=z at *;omega
 have fin : ∀ w r',2 * r + t=w * b + r' -> ((2 * q + w) * b + r') * V + d=x:=fun w r' e=>by
  have e1 : (2 * q + w) * b + r'=2 * (q * b + r) + t:=by
   rw [Nat.add_mul,Nat.mul_assoc]
   generalize q * b=z at *
   generalize w * b=z' at *
   omega
  rw [e1,<- h3,hc,Nat.add_mul,Nat.mul_comm V 2,<- Nat.mul_assoc,Nat.mul_comm (q * b + r) 2]
  omega
 have big : ∀ w r',2 * r + t=w * b + r' -> 2 * q + w <= x:=fun w r' e=>by
  have e1:=fin w r' e
  have e2 : 2 * q + w <= (2 * q + w) * b:=Nat.le_mul_of_pos_right _ hb
  have e3 : (2 * q + w) * b + r' <= ((2 * q + w) * b + r') * V:=Nat.le_mul_of_pos_right _ hVp
  omega
 refine ⟨?_,?_,?_⟩
 ·rw [ha];generalize d * W=z at *;omega
 ·exact Nat.le_trans (Nat.le_add_right _ _) (big _ _ (Nat.div_add_mod' (2 * r + t) b).symm)
 ·intro w r' a' e hr' ha'
  rw [hbit] at e
  refine ⟨⟨by omega,hr',d,?_,?_,?_⟩,big w r' e⟩
  ·rw [ha',ha,Nat.pow_succ,<- hW,Nat.mul_comm W 2,Nat.mul_left_comm]
   generalize d * W=z at *
   omega
  ·rw [<- hm2,<- hV];exact hdV
  ·rw [<- hm2,<- hV];exact fin w r' e
theorem DvS.last {x b a q r : Nat} (h : DvS x b 128 a q r) : q=x / b /\ r=x % b:=by
 obtain ⟨_,hr,c,h1,h2,h3⟩:=h
 simp at h2 h3
 subst h2
 simp at h3
 subst h3
 have hb : 0 < b:=by omega
 rw [Nat.mul_comm,Nat.mul_add_div hb,Nat.div_eq_of_lt hr,Nat.mul_add_mod,Nat.mod_eq_of_lt hr]
 exact ⟨rfl,rfl⟩
variable {C : CC} (hC : aA prog C)
include hC
end Go.Gv

namespace Go.Gv
variable {C : CC} (hC : aA prog C)
include hC
end Go.Gv

namespace Go.Gv
open Go.Lib
def f8 (v : Int) : D:=eI v.natAbs (decide (v < 0))
theorem fF {v : Int} {p : Nat} {b : Bool} (h1 : v.natAbs=p) (h2 : decide (v < 0)=b) : f8 v=eI p b:=by rw [f8,h1,h2]
theorem fd (p : Nat) (b : Bool) : ∃ x y : Nat,x=p / 18446744073709551616 /\ y=p % 18446744073709551616 /\ eI p b=.agg [.int .u64 x,.int .u64 y,.bool b]:=⟨_,_,rfl,rfl,rfl⟩
theorem iw {n m : Int} (h : n=m \/ n=m + 18446744073709551616) (h2 : -9223372036854775808 <= m /\ m < 9223372036854775808) : IntKind.i64.wrap n=m:=by
 have e1 : IntKind.i64.signed=true:=rfl
 have e2 : (2 ^ (IntKind.i64.bits - 1) : Int)=9223372036854775808:=rfl
 have e3 : (2 ^ IntKind.i64.bits : Int)=18446744073709551616:=rfl
 unfold IntKind.wrap
 simp only [e1,e2,e3,Bool.true_and,decide_eq_true_eq]
 split <;> omega
variable {C : CC} (hC : aA prog C)
include hC
end Go.Gv

namespace Go.Gv
open Go.Lib
theorem kV (n b : Nat) (hb : 0 < b) : (-(n : Int)) / (b : Int)=-((if n % b=0 then n / b else n / b + 1 : Nat) : Int):=by
 have h1:=Nat.div_add_mod n b
 have h2:=Nat.mod_lt n hb
 obtain ⟨q,hq⟩ : ∃ q,q=n / b:=⟨_,rfl⟩
 obtain ⟨r,hr⟩ : ∃ r,r=n % b:=⟨_,rfl⟩
 rw [<- hq,<- hr] at h1
 rw [<- hr] at h2
 rw [<- hq,<- hr]
 clear hq hr
 subst h1
 split
 ·rename_i h
  subst h
  rw [Nat.add_zero,Int.natCast_mul,<- Int.mul_neg]
  exact Int.mul_ediv_cancel_left _ (by omega)
 ·rename_i h
  have e : -((b * q + r : Nat) : Int)=((b : Int) - r) + b * (-((q + 1 : Nat) : Int)):=by
   rw [Int.natCast_add,Int.natCast_mul,Int.natCast_add,Int.mul_neg,Int.mul_add]
   omega
  rw [e,Int.add_mul_ediv_left _ _ (by omega),Int.ediv_eq_zero_of_lt (by omega) (by omega)]
  omega
variable {C : CC} (hC : aA prog C)
include hC
end Go.Gv

namespace Go.Gv
variable {C : CC} (hC : aA prog C)
include hC
theorem sW (x y : Nat) (hx0 : 0 < x) (hx : x < 9223372036854775808) (hy : y < 9223372036854775808) : C 103 [.int .i64 (-(x : Int)),.int .i64 y] (eI (x * y) (decide (x * y ≠ 0))) []:=by
 have h0 : (-(x : Int)) < 0:=by omega
 have h1 : ¬ (y : Int) < 0:=by omega
 have hm:=qJ hC x y (by omega) (by omega)
 have k1:=pF hC x hx0 hx
 have k2:=iW hC y hy
 rw [eI]
 obtain ⟨Z,hZ⟩ : ∃ Z,Z=x * y:=⟨_,rfl⟩
 rw [<- hZ] at hm ⊢
 obtain ⟨zh,hzh⟩ : ∃ zh,zh=Z / 18446744073709551616:=⟨_,rfl⟩
 obtain ⟨zl,hzl⟩ : ∃ zl,zl=Z % 18446744073709551616:=⟨_,rfl⟩
 have k3:=ix hC zh zl true
 rw [show (true && (!decide ((zh : Int)=0) || !decide ((zl : Int)=0)))=decide (Z ≠ 0) by
  rw [Bool.eq_iff_iff];simp;omega] at k3
 rw [<- hzh,<- hzl] at hm ⊢
 obtain ⟨z,hz⟩ : ∃ z,z=-(x : Int):=⟨_,rfl⟩
 rw [<- hz] at k1 h0 ⊢
 obtain ⟨b,hb⟩ : ∃ b,b=decide (Z ≠ 0):=⟨_,rfl⟩
 rw [<- hb] at k3 ⊢
 refine start hC (nf:=N103) rfl rfl ?_
 simp [N103]
 refine aa k1 (.inl rfl) ?_
 simp
 refine aa k2 (.inl rfl) ?_
 simp
 refine aa hm (.inl rfl) ?_
 simp [h0,h1]
 refine aa k3 (.inl rfl) ?_
 simp
theorem pI (x : Int) (y : Nat) (hx : -9223372036854775808 < x /\ x < 9223372036854775808) (hy : y < 9223372036854775808) (h : x.natAbs * y < 1329227995784915872903807060280344576) : C 99 [.int .i64 x,.int .i64 y] (.tup [wiS (x * y),.int .i64 0]) []:=by
 by_cases h0 : x < 0
 ·obtain ⟨n,rfl⟩ : ∃ n : Nat,x=-(n : Int):=⟨x.natAbs,by omega⟩
  rw [Int.natAbs_neg,Int.natAbs_natCast] at h
  have k1:=sW hC n y (by omega) (by omega) hy
  have e : -(n : Int) * (y : Int)=-((n * y : Nat) : Int):=by rw [Int.neg_mul,Int.natCast_mul]
  rw [e]
  obtain ⟨Z,hZ⟩ : ∃ Z,Z=n * y:=⟨_,rfl⟩
  rw [<- hZ] at k1 h ⊢
  have k2 : C 105 [eI Z (decide (Z ≠ 0))] (.tup [wiS (-(Z : Int)),.int .i64 0]) []:=by
   by_cases z0 : Z=0
   ·subst z0
    have:=lZ hC 0 (by omega)
    rw [<- lz] at this
    simpa using this
   ·rw [decide_eq_true z0]
    exact m5 hC Z (by omega) h
  obtain ⟨c1,c2,e3⟩ : ∃ a b : Int,wiS (-(Z : Int))=.agg [.int .i64 a,.int .i64 b]:=⟨_,_,rfl⟩
  obtain ⟨i1,i2,i3,e7⟩ : ∃ a b c,eI Z (decide (Z ≠ 0))=.agg [.int .u64 a,.int .u64 b,.bool c]:=⟨_,_,_,rfl⟩
  rw [e7] at k1 k2
  rw [e3] at k2 ⊢
  obtain ⟨z,hz⟩ : ∃ z,z=-(n : Int):=⟨_,rfl⟩
  rw [<- hz] at k1 ⊢
  refine start hC (nf:=N99) rfl rfl ?_
  simp [N99]
  refine aa k1 (.inl rfl) ?_
  simp
  refine aa k2 (.inr rfl) ?_
  simp
 ·obtain ⟨n,rfl⟩ : ∃ n : Nat,x=(n : Int):=⟨x.natAbs,by omega⟩
  rw [Int.natAbs_natCast] at h
  have k:=rF hC n y (by omega) hy h
  rw [<- lz] at k
  simpa using k
end Go.Gv

namespace Go.Gv
open Go.Lib
theorem b6 (v : Int) : ∃ h l : Int,h=v / 1152921504606846976 /\ l=v % 1152921504606846976 /\ wiS v=.agg [.int .i64 h,.int .i64 l]:=⟨_,_,rfl,rfl,rfl⟩
variable {C : CC} (hC : aA prog C)
include hC
theorem sA (v : Int) (h : -1329227995784915872903807060280344576 < v /\ v < 1329227995784915872903807060280344576) : C 105 [f8 v] (.tup [wiS v,.int .i64 0]) []:=by
 by_cases v0 : v < 0
 ·have k:=m5 hC v.natAbs (by omega) (by omega)
  rw [show -((v.natAbs : Nat) : Int)=v by omega] at k
  rw [f8,decide_eq_true v0]
  exact k
 ·have k:=lZ hC v.natAbs (by omega)
  rw [<- lz,show ((v.natAbs : Nat) : Int)=v by omega] at k
  rw [f8,decide_eq_false v0]
  exact k
set_option maxHeartbeats 2000000 in
theorem mr (v : Int) (h : -1329227995784915872903807060280344576 <= v /\ v < 1329227995784915872903807060280344576) : C 108 [wiS v] (f8 v) []:=by
 by_cases v0 : v < 0
 ·obtain ⟨ph,pl,hph,hpl,e0⟩:=b6 v
  obtain ⟨n,hn⟩ : ∃ n : Nat,n=ph.natAbs:=⟨_,rfl⟩
  obtain ⟨l,hl⟩ : ∃ l : Nat,l=pl.natAbs:=⟨_,rfl⟩
  obtain ⟨p,hp⟩ : ∃ p,p=v.natAbs:=⟨_,rfl⟩
  obtain ⟨zh,zl,hzh,hzl,e1⟩:=fd p true
  have epl : pl=(l : Int):=by omega
  have eph : ph=-(n : Int):=by omega
  have k1:=pF hC n (by omega) (by omega)
  rw [fF hp.symm (decide_eq_true v0),e0,e1,epl,eph]
  have h1 : ¬ (0 : Int) <= -(n : Int):=by omega
  obtain ⟨w,hw⟩ : ∃ z,z=n % 16:=⟨_,rfl⟩
  obtain ⟨t,ht⟩ : ∃ z,z=n / 16:=⟨_,rfl⟩
  have s1 : Int.fdiv (n : Int) (2 ^ min 4 IntKind.u64.bits)=(t : Int):=by rw [Jf,ht]
  have s2 : IntKind.u64.wrap ((n : Int) * 2 ^ min 60 IntKind.u64.bits)=((w * 1152921504606846976 : Nat) : Int):=zD n _ (by omega)
  have s3 : IntKind.u64.wrap (l : Int)=(l : Int):=de l (by omega)
  have c1 : (l : Int) < 18446744073709551616:=by omega
  have c2 : ((w * 1152921504606846976 : Nat) : Int) < 18446744073709551616:=by omega
  have s4 : (((w * 1152921504606846976 : Nat) : Int) - (l : Int)) % 18446744073709551616=(zl : Int):=by omega
  have s5 : IntKind.u64.wrap ((t : Int) - (if w * 1152921504606846976 < l then 1 else 0))=(zh : Int):=by
   split <;> exact uw (by omega) (by omega)
  obtain ⟨W,hW⟩ : ∃ W,W=w * 1152921504606846976:=⟨_,rfl⟩
  rw [<- hW] at s2 s4 s5 c2
  obtain ⟨z,hz⟩ : ∃ z,z=-(n : Int):=⟨_,rfl⟩
  rw [<- hz] at k1 h1 ⊢
  have c3 : (0 : Int) <= W:=by omega
  have c4 : (0 : Int) <= l:=by omega
  refine start hC (nf:=N108) rfl rfl ?_
  simp [N108]
  refine aa k1 (.inl rfl) ?_
  simp [h1]
  rw [s1,s2,s3]
  simp [c1,c2,s4,s5]
 ·have k:=yf hC v.natAbs (by omega)
  rw [<- lz,show ((v.natAbs : Nat) : Int)=v by omega] at k
  rw [f8,decide_eq_false v0]
  exact k
set_option maxRecDepth 20000 in
set_option maxHeartbeats 4000000 in
theorem BI (x y : Int) (hx : x.natAbs < 170141183460469231731687303715884105728) (hy : y.natAbs < 170141183460469231731687303715884105728) : C 107 [f8 x,f8 y] (f8 (x + y)) []:=by
 obtain ⟨p,hp⟩ : ∃ p,p=x.natAbs:=⟨_,rfl⟩
 obtain ⟨r,hr⟩ : ∃ r,r=y.natAbs:=⟨_,rfl⟩
 obtain ⟨s,hs⟩ : ∃ s,s=decide (x < 0):=⟨_,rfl⟩
 obtain ⟨t,ht⟩ : ∃ t,t=decide (y < 0):=⟨_,rfl⟩
 rw [fF hp.symm hs.symm,fF hr.symm ht.symm]
 obtain ⟨ph,pl,hph,hpl,ep⟩:=fd p s
 obtain ⟨rh,rl,hrh,hrl,er⟩:=fd r t
 rw [ep,er]
 have k0 : (0 : Int) <= pl:=by omega
 have k1 : (0 : Int) <= rl:=by omega
 have k3 : (pl : Int) < 18446744073709551616:=by omega
 have k4 : (rl : Int) < 18446744073709551616:=by omega
 by_cases c : s=t
 ·have e : f8 (x + y)=eI (p + r) (s && !decide (p + r=0)):=fF (by
   subst c
   rw [hs,decide_eq_decide] at ht
   omega) (by
   subst c
   rw [hs] at ht ⊢
   rw [decide_eq_decide] at ht
   rw [Bool.eq_iff_iff]
   simp
   omega)
  obtain ⟨dh,dl,hdh,hdl,ed⟩:=fd (p + r) (s && !decide (p + r=0))
  rw [e,ed]
  have kk:=ix hC dh dl s
  rw [show (s && (!decide ((dh : Int)=0) || !decide ((dl : Int)=0)))=(s && !decide (p + r=0)) by
   congr 1;rw [Bool.eq_iff_iff];simp;omega] at kk
  obtain ⟨w,hw⟩ : ∃ w,w=(s && !decide (p + r=0)):=⟨_,rfl⟩
  rw [<- hw] at kk ⊢
  subst c
  clear hs ht hw e ed
  have e1 : ((pl : Int) + rl) % 18446744073709551616=(dl : Int):=by omega
  have e2 : IntKind.u64.wrap ((ph : Int) + rh)=(ph : Int) + rh:=uw (m:=ph + rh) (by omega) (by omega)
  have e3 : IntKind.u64.wrap ((ph : Int) + rh + ((pl : Int) + rl) / 18446744073709551616)=(dh : Int):=uw (by omega) (by omega)
  obtain ⟨g,hg⟩ : ∃ g,g=((pl : Int) + rl) / 18446744073709551616:=⟨_,rfl⟩
  rw [<- hg] at e3
  refine start hC (nf:=N107) rfl rfl ?_
  simp [N107,k0,k1,k3,k4,e1,e2,e3,<- hg]
  refine aa kk (.inl rfl) ?_
  simp
 ·have c3 : (s == t)=false:=by simpa using c
  rw [hs,ht,decide_eq_decide] at c
  by_cases l : p < r
  ·have e : f8 (x + y)=eI (r - p) (t && !decide (r - p=0)):=fF (by
    omega) (by
    rw [Bool.eq_iff_iff,ht]
    simp
    omega)
   obtain ⟨dh,dl,hdh,hdl,ed⟩:=fd (r - p) (t && !decide (r - p=0))
   rw [e,ed]
   have kk:=ix hC dh dl t
   rw [show (t && (!decide ((dh : Int)=0) || !decide ((dl : Int)=0)))=(t && !decide (r - p=0)) by
    congr 1;rw [Bool.eq_iff_iff];simp;omega] at kk
   obtain ⟨w,hw⟩ : ∃ w,w=(t && !decide (r - p=0)):=⟨_,rfl⟩
   rw [<- hw] at kk ⊢
   have e1 : ((rl : Int) - pl) % 18446744073709551616=(dl : Int):=by omega
   have e2 : IntKind.u64.wrap ((rh : Int) - ph)=((rh - ph : Nat) : Int):=uw (by omega) (by omega)
   have e3 : IntKind.u64.wrap (((rh - ph : Nat) : Int) - (if rl < pl then 1 else 0))=(dh : Int):=by
    split <;> exact uw (by omega) (by omega)
   have c5 : ph < rh \/ (ph=rh /\ pl < rl):=by omega
   clear hs ht hw e ed c
   refine start hC (nf:=N107) rfl rfl ?_
   simp [N107,c3]
   rcases c5 with c5 | ⟨c5,c6⟩
   ·simp [c5,k3,k4,e1,e2]
    rw [e3]
    refine aa kk (.inl rfl) ?_
    simp
   ·have c7 : ¬ rl < pl:=by omega
    have hd : dh=0:=by omega
    have hz : IntKind.u64.wrap 0=0:=de 0 (by omega)
    subst hd
    clear hph hpl hrh hrl hdh hdl k0 k1
    subst c5
    refine al (fun c4=>?_) (fun c4=>?_) <;> simp at c4
    simp
    refine al (fun c4=>?_) (fun c4=>?_) <;> simp at c4
    ·simp [c4,c7,k3,k4,e1,hz]
     refine aa kk (.inl rfl) ?_
     simp
    ·omega
  ·have e : f8 (x + y)=eI (p - r) (s && !decide (p - r=0)):=fF (by
    omega) (by
    rw [Bool.eq_iff_iff,hs]
    simp
    omega)
   obtain ⟨dh,dl,hdh,hdl,ed⟩:=fd (p - r) (s && !decide (p - r=0))
   rw [e,ed]
   have kk:=ix hC dh dl s
   rw [show (s && (!decide ((dh : Int)=0) || !decide ((dl : Int)=0)))=(s && !decide (p - r=0)) by
    congr 1;rw [Bool.eq_iff_iff];simp;omega] at kk
   obtain ⟨w,hw⟩ : ∃ w,w=(s && !decide (p - r=0)):=⟨_,rfl⟩
   rw [<- hw] at kk ⊢
   have e1 : ((pl : Int) - rl) % 18446744073709551616=(dl : Int):=by omega
   have e2 : IntKind.u64.wrap ((ph : Int) - rh)=((ph - rh : Nat) : Int):=uw (by omega) (by omega)
   have e3 : IntKind.u64.wrap (((ph - rh : Nat) : Int) - (if pl < rl then 1 else 0))=(dh : Int):=by
    split <;> exact uw (by omega) (by omega)
   have c5 : ¬ ph < rh:=by omega
   have c6 : ph=rh -> ¬ pl < rl:=by omega
   clear hs ht hw e ed c
   refine start hC (nf:=N107) rfl rfl ?_
   simp [N107,c3]
   simp [c5]
   refine al (fun c7=>?_) (fun c7=>?_) <;> simp at c7 <;> simp [c7]
   ·have c8 : ¬ pl < rl:=c6 (by omega)
    have hd : dh=0:=by omega
    have hz : IntKind.u64.wrap 0=0:=de 0 (by omega)
    subst hd
    refine al (fun c4=>?_) (fun c4=>?_) <;> simp at c4 <;> simp [c4]
    ·omega
    simp [c8,k3,k4,e1,hz]
    refine aa kk (.inl rfl) ?_
    simp
   ·simp [k3,k4,e1,e2]
    rw [e3]
    refine aa kk (.inl rfl) ?_
    simp
theorem pH (x y : Int) (hx : -664613997892457936451903530140172288 <= x /\ x <= 664613997892457936451903530140172287) (hy : -664613997892457936451903530140172288 < y /\ y <= 664613997892457936451903530140172287) : C 327 [wiS x,wiS y] (.tup [wiS (x + y),.int .i64 0]) []:=by
 have k1:=kI hC x (by omega)
 have k2:=kI hC y (by omega)
 have k3:=mr hC x (by omega)
 have k4:=mr hC y (by omega)
 have k5:=BI hC x y (by omega) (by omega)
 have k6:=sA hC (x + y) (by omega)
 obtain ⟨a1,a2,_,_,ea⟩:=b6 x
 obtain ⟨b1,b2,_,_,eb⟩:=b6 y
 obtain ⟨c1,c2,_,_,ec⟩:=b6 (x + y)
 obtain ⟨f1,f2,f3,ef⟩ : ∃ (a1 a2 : Nat) (a3 : Bool),f8 x=.agg [.int .u64 a1,.int .u64 a2,.bool a3]:=⟨_,_,_,rfl⟩
 obtain ⟨g1,g2,g3,eg⟩ : ∃ (a1 a2 : Nat) (a3 : Bool),f8 y=.agg [.int .u64 a1,.int .u64 a2,.bool a3]:=⟨_,_,_,rfl⟩
 obtain ⟨h1,h2,h3,eh⟩ : ∃ (a1 a2 : Nat) (a3 : Bool),f8 (x + y)=.agg [.int .u64 a1,.int .u64 a2,.bool a3]:=⟨_,_,_,rfl⟩
 rw [ea] at k1 k3 ⊢
 rw [eb] at k2 k4 ⊢
 rw [ef] at k3 k5
 rw [eg] at k4 k5
 rw [eh] at k5 k6
 rw [ec] at k6 ⊢
 clear ea eb ec ef eg eh
 refine start hC (nf:=N327) rfl rfl ?_
 simp [N327]
 refine aa k1 (.inl rfl) ?_
 simp
 refine aa k2 (.inl rfl) ?_
 simp
 refine aa k3 (.inl rfl) ?_
 simp
 refine aa k4 (.inl rfl) ?_
 simp
 refine aa k5 (.inl rfl) ?_
 simp
 refine aa k6 (.inr rfl) ?_
 simp
 exact ah (by decide +kernel)
theorem vz (n : Nat) (h : n < 9223372036854775808) (b : Bool) : C 110 [.int .u64 n,.bool b] (.tup [.int .i64 (if b then -(n : Int) else n),.int .i64 0]) []:=by
 cases b
 ·exact jU hC n h
 ·by_cases h0 : n=0
  ·subst h0
   refine start hC (nf:=N110) rfl rfl ?_
   have hz : IntKind.u64.wrap 0=0:=by decide
   have hz2 : IntKind.i64.wrap 0=0:=by decide
   simp [N110,hz,hz2]
  ·have h1 : (n : Int) <= 9223372036854775808:=by omega
   have h2 : IntKind.u64.wrap (-(n : Int))=((18446744073709551616 - n : Nat) : Int):=uw (by omega) (by omega)
   have h3 : IntKind.i64.wrap ((18446744073709551616 - n : Nat) : Int)=-(n : Int):=iw (by omega) (by omega)
   obtain ⟨y,hy⟩ : ∃ y,y=((18446744073709551616 - n : Nat) : Int):=⟨_,rfl⟩
   rw [<- hy] at h2 h3
   refine start hC (nf:=N110) rfl rfl ?_
   simp [N110,h1,h2,h3]
theorem pf (p d : Nat) (up : Bool) (q : Nat) (hp0 : 0 < p) (hd : d < 9223372036854775808) (hp : p / 18446744073709551616 < d) (hq : q < 9223372036854775808) (hv : q=if up then p / d else if p % d=0 then p / d else p / d + 1) (hqd : p / d + 1 < 9223372036854775808) : C 104 [eI p true,.int .i64 d,.bool up] (.tup [.int .i64 (-(q : Int)),.int .i64 0]) []:=by
 obtain ⟨ph,hph⟩ : ∃ z,z=p / 18446744073709551616:=⟨_,rfl⟩
 obtain ⟨pl,hpl⟩ : ∃ z,z=p % 18446744073709551616:=⟨_,rfl⟩
 have hpp : ph * 18446744073709551616 + pl=p:=by omega
 obtain ⟨q0,hq0⟩ : ∃ z,z=p / d:=⟨_,rfl⟩
 obtain ⟨r0,hr0⟩ : ∃ z,z=p % d:=⟨_,rfl⟩
 have hdiv:=qI hC ph pl d (by omega) (by omega) (by omega)
 rw [hpp,<- hq0,<- hr0] at hdiv
 rw [<- hq0,<- hr0] at hv
 rw [eI,<- hph,<- hpl]
 have h1 : ¬ (d : Int) <= (ph : Int):=by omega
 have h2 : ¬ (d : Int) < 0:=by omega
 have h3 : IntKind.u64.wrap ((q0 : Int) + 1)=((q0 + 1 : Nat) : Int):=uw (by omega) (by omega)
 have kw:=vz hC q hq (decide (0 < q))
 have kq : (if decide (0 < q)=true then -(q : Int) else (q : Int))=-(q : Int):=by
  by_cases h : 0 < q
  ·simp [h]
  ·have : q=0:=by omega
   subst this
   simp
 rw [kq] at kw
 obtain ⟨Q,hQ⟩ : ∃ Q,Q=-(q : Int):=⟨_,rfl⟩
 rw [<- hQ] at kw ⊢
 refine start hC (nf:=N104) rfl rfl ?_
 simp [N104]
 refine aa (iW hC d hd) (.inl rfl) ?_
 simp [h1]
 refine aa hdiv (.inl rfl) ?_
 simp [h2]
 cases up
 ·by_cases h : 0 < r0
  ·have hi : (0 : Int) < r0:=by omega
   have e : q=q0 + 1:=by rw [hv];simp;omega
   subst e
   have h4 : ¬ ((q0 : Int) + 1=0):=by omega
   simp [hi,h3,h4,h]
   simp at kw
   refine aa kw (.inl rfl) ?_
   simp
  ·have hi : ¬ (0 : Int) < r0:=by omega
   have e : q=q0:=by rw [hv];simp;omega
   subst e
   simp [hi,h]
   refine aa kw (.inl rfl) ?_
   simp
 ·have e : q=q0:=by rw [hv];simp
  subst e
  by_cases h : 0 < r0
  ·have hi : (0 : Int) < r0:=by omega
   simp [hi,h]
   refine aa kw (.inl rfl) ?_
   simp
  ·have hi : ¬ (0 : Int) < r0:=by omega
   simp [hi,h]
   refine aa kw (.inl rfl) ?_
   simp
end Go.Gv

namespace Go.Gv
theorem bG : IntKind.wrap .i64 1=1:=by decide
theorem bK : IntKind.wrap .i64 2=2:=by decide
theorem bL : IntKind.wrap .i64 3=3:=by decide
variable {C : CC} (hC : aA prog C)
include hC
set_option maxHeartbeats 1000000 in
theorem zB {t u : Tri} (ht : okT t=true) (hu : okT u=true) : C 311 [.agg (ci t),.agg (ci u)] (.bool (pt t u)) []:=by
 simp only [okT,Bool.and_eq_true] at ht hu
 obtain ⟨⟨t1,t2⟩,t3⟩:=ht
 obtain ⟨⟨u1,u2⟩,u3⟩:=hu
 have kk:=fun (p q r : Pnt) (hp : okP p=true) (hq : okP q=true) (hr : okP r=true)=>rf hC hp hq hr
 simp only [ptD] at kk
 have E : pt t u=(iv t.1 t.2.1 u || iv t.2.1 t.2.2 u || iv t.2.2 t.1 u):=rfl
 rw [E]
 clear E
 have S : ∀ p q,iv p q u=(decide (ao p q u.1 <= 0) && decide (ao p q u.2.1 <= 0) && decide (ao p q u.2.2 <= 0)):=fun p q=>rfl
 refine start hC (nf:=N311) rfl rfl ?_
 rw [ci,ci]
 simp [N311]
 refine au Nat (fun i=>[(2,.ptr (ci t)),(3,.ptr (ci u)),(8,.int .i64 i)]) (fun i=>i <= 3 /\ (1 <= i -> iv t.1 t.2.1 u=false) /\ (2 <= i -> iv t.2.1 t.2.2 u=false) /\ (3 <= i -> iv t.2.2 t.1 u=false)) (fun i=>3 - i) 0 (by simp) (by simp [ci]) ?_
 rintro i ⟨hi,s1,s2,s3⟩
 rcases (by omega : i=0 \/ i=1 \/ i=2 \/ i=3) with rfl | rfl | rfl | rfl
 ·simp [ci,bG,bK,bL]
  refine ⟨ah (by decide +kernel),?_⟩
  refine aa (kk t.1 t.2.1 u.1 t1 t2 u1) (.inl rfl) ?_
  simp
  refine al (fun h1=>?_) (fun h1=>?_) <;> simp at h1
  ·simp [h1]
   refine aa (kk t.1 t.2.1 u.2.1 t1 t2 u2) (.inl rfl) ?_
   simp
   refine al (fun h2=>?_) (fun h2=>?_) <;> simp at h2
   ·simp [h2]
    refine aa (kk t.1 t.2.1 u.2.2 t1 t2 u3) (.inl rfl) ?_
    simp
    refine al (fun h3=>?_) (fun h3=>?_) <;> simp at h3 <;> simp [h3]
    ·simp [S,h1,h2,h3]
    ·refine ⟨1,⟨by omega,fun _=>by simp only [S,Bool.and_eq_false_iff,decide_eq_false_iff_not];omega,fun h=>by omega,fun h=>by omega⟩,by omega,?_⟩ <;> simp [bG,bK,bL]
   ·simp [Int.not_le.2 h2]
    refine ⟨1,⟨by omega,fun _=>by simp only [S,Bool.and_eq_false_iff,decide_eq_false_iff_not];omega,fun h=>by omega,fun h=>by omega⟩,by omega,?_⟩ <;> simp [bG,bK,bL]
  ·simp [Int.not_le.2 h1]
   refine ⟨1,⟨by omega,fun _=>by simp only [S,Bool.and_eq_false_iff,decide_eq_false_iff_not];omega,fun h=>by omega,fun h=>by omega⟩,by omega,?_⟩ <;> simp [bG,bK,bL]
 ·simp [ci,bG,bK,bL]
  refine ⟨ah (by decide +kernel),?_⟩
  refine aa (kk t.2.1 t.2.2 u.1 t2 t3 u1) (.inl rfl) ?_
  simp
  refine al (fun h1=>?_) (fun h1=>?_) <;> simp at h1
  ·simp [h1]
   refine aa (kk t.2.1 t.2.2 u.2.1 t2 t3 u2) (.inl rfl) ?_
   simp
   refine al (fun h2=>?_) (fun h2=>?_) <;> simp at h2
   ·simp [h2]
    refine aa (kk t.2.1 t.2.2 u.2.2 t2 t3 u3) (.inl rfl) ?_
    simp
    refine al (fun h3=>?_) (fun h3=>?_) <;> simp at h3 <;> simp [h3]
    ·simp [S,h1,h2,h3]
    ·refine ⟨2,⟨by omega,fun _=>s1 (by omega),fun _=>by simp only [S,Bool.and_eq_false_iff,decide_eq_false_iff_not];omega,fun h=>by omega⟩,by omega,?_⟩ <;> simp [bG,bK,bL]
   ·simp [Int.not_le.2 h2]
    refine ⟨2,⟨by omega,fun _=>s1 (by omega),fun _=>by simp only [S,Bool.and_eq_false_iff,decide_eq_false_iff_not];omega,fun h=>by omega⟩,by omega,?_⟩ <;> simp [bG,bK,bL]
  ·simp [Int.not_le.2 h1]
   refine ⟨2,⟨by omega,fun _=>s1 (by omega),fun _=>by simp only [S,Bool.and_eq_false_iff,decide_eq_false_iff_not];omega,fun h=>by omega⟩,by omega,?_⟩ <;> simp [bG,bK,bL]
 ·simp [ci,bG,bK,bL]
  refine ⟨ah (by decide +kernel),?_⟩
  refine aa (kk t.2.2 t.1 u.1 t3 t1 u1) (.inl rfl) ?_
  simp
  refine al (fun h1=>?_) (fun h1=>?_) <;> simp at h1
  ·simp [h1]
   refine aa (kk t.2.2 t.1 u.2.1 t3 t1 u2) (.inl rfl) ?_
   simp
   refine al (fun h2=>?_) (fun h2=>?_) <;> simp at h2
   ·simp [h2]
    refine aa (kk t.2.2 t.1 u.2.2 t3 t1 u3) (.inl rfl) ?_
    simp
    refine al (fun h3=>?_) (fun h3=>?_) <;> simp at h3 <;> simp [h3]
    ·simp [S,h1,h2,h3]
    ·refine ⟨3,⟨by omega,fun _=>s1 (by omega),fun _=>s2 (by omega),fun _=>by simp only [S,Bool.and_eq_false_iff,decide_eq_false_iff_not];omega⟩,by omega,?_⟩ <;> simp [bG,bK,bL]
   ·simp [Int.not_le.2 h2]
    refine ⟨3,⟨by omega,fun _=>s1 (by omega),fun _=>s2 (by omega),fun _=>by simp only [S,Bool.and_eq_false_iff,decide_eq_false_iff_not];omega⟩,by omega,?_⟩ <;> simp [bG,bK,bL]
  ·simp [Int.not_le.2 h1]
   refine ⟨3,⟨by omega,fun _=>s1 (by omega),fun _=>s2 (by omega),fun _=>by simp only [S,Bool.and_eq_false_iff,decide_eq_false_iff_not];omega⟩,by omega,?_⟩ <;> simp [bG,bK,bL]
 ·simp [s1 (by omega),s2 (by omega),s3 (by omega)]
def mD (t : Tri) : List (List D):=[ptD t.1,ptD t.2.1,ptD t.2.2]
set_option maxHeartbeats 1000000 in
theorem pg {t u : Tri} (ht : okT t=true) (hu : okT u=true) : C 324 [.sl (mD t),.sl (mD u)] (.bool (pt t u)) []:=by
 simp only [okT,Bool.and_eq_true] at ht hu
 obtain ⟨⟨t1,t2⟩,t3⟩:=ht
 obtain ⟨⟨u1,u2⟩,u3⟩:=hu
 have kk:=fun (p q r : Pnt) (hp : okP p=true) (hq : okP q=true) (hr : okP r=true)=>d6 hC hp hq hr
 simp only [ptD] at kk
 have E : pt t u=(iv t.1 t.2.1 u || iv t.2.1 t.2.2 u || iv t.2.2 t.1 u):=rfl
 rw [E]
 clear E
 have S : ∀ p q,iv p q u=(decide (ao p q u.1 <= 0) && decide (ao p q u.2.1 <= 0) && decide (ao p q u.2.2 <= 0)):=fun p q=>rfl
 refine start hC (nf:=N324) rfl rfl ?_
 simp only [mD,ptD]
 simp [N324]
 refine au Nat (fun i=>[(0,.sl (mD t)),(1,.sl (mD u)),(5,.int .i64 i)]) (fun i=>i <= 3 /\ (1 <= i -> iv t.1 t.2.1 u=false) /\ (2 <= i -> iv t.2.1 t.2.2 u=false) /\ (3 <= i -> iv t.2.2 t.1 u=false)) (fun i=>3 - i) 0 (by simp) (by simp [mD,ptD]) ?_
 rintro i ⟨hi,s1,s2,s3⟩
 rcases (by omega : i=0 \/ i=1 \/ i=2 \/ i=3) with rfl | rfl | rfl | rfl
 ·simp [mD,ptD,bG,bK,bL]
  refine ⟨ah (by decide +kernel),?_⟩
  refine aa (kk t.1 t.2.1 u.1 t1 t2 u1) (.inl rfl) ?_
  simp
  refine al (fun h1=>?_) (fun h1=>?_) <;> simp at h1
  ·simp [h1]
   refine aa (kk t.1 t.2.1 u.2.1 t1 t2 u2) (.inl rfl) ?_
   simp
   refine al (fun h2=>?_) (fun h2=>?_) <;> simp at h2
   ·simp [h2]
    refine aa (kk t.1 t.2.1 u.2.2 t1 t2 u3) (.inl rfl) ?_
    simp
    refine ⟨ah (by decide +kernel),?_⟩
    refine al (fun h3=>?_) (fun h3=>?_) <;> simp at h3 <;> simp [h3]
    ·simp [S,h1,h2,h3]
    ·refine ⟨1,⟨by omega,fun _=>by simp only [S,Bool.and_eq_false_iff,decide_eq_false_iff_not];omega,fun h=>by omega,fun h=>by omega⟩,by omega,?_⟩ <;> simp [bG,bK,bL]
   ·simp [Int.not_le.2 h2]
    refine ⟨ah (by decide +kernel),?_⟩
    refine ⟨1,⟨by omega,fun _=>by simp only [S,Bool.and_eq_false_iff,decide_eq_false_iff_not];omega,fun h=>by omega,fun h=>by omega⟩,by omega,?_⟩ <;> simp [bG,bK,bL]
  ·simp [Int.not_le.2 h1]
   refine ⟨ah (by decide +kernel),?_⟩
   refine ⟨1,⟨by omega,fun _=>by simp only [S,Bool.and_eq_false_iff,decide_eq_false_iff_not];omega,fun h=>by omega,fun h=>by omega⟩,by omega,?_⟩ <;> simp [bG,bK,bL]
 ·simp [mD,ptD,bG,bK,bL]
  refine ⟨ah (by decide +kernel),?_⟩
  refine aa (kk t.2.1 t.2.2 u.1 t2 t3 u1) (.inl rfl) ?_
  simp
  refine al (fun h1=>?_) (fun h1=>?_) <;> simp at h1
  ·simp [h1]
   refine aa (kk t.2.1 t.2.2 u.2.1 t2 t3 u2) (.inl rfl) ?_
   simp
   refine al (fun h2=>?_) (fun h2=>?_) <;> simp at h2
   ·simp [h2]
    refine aa (kk t.2.1 t.2.2 u.2.2 t2 t3 u3) (.inl rfl) ?_
    simp
    refine ⟨ah (by decide +kernel),?_⟩
    refine al (fun h3=>?_) (fun h3=>?_) <;> simp at h3 <;> simp [h3]
    ·simp [S,h1,h2,h3]
    ·refine ⟨2,⟨by omega,fun _=>s1 (by omega),fun _=>by simp only [S,Bool.and_eq_false_iff,decide_eq_false_iff_not];omega,fun h=>by omega⟩,by omega,?_⟩ <;> simp [bG,bK,bL]
   ·simp [Int.not_le.2 h2]
    refine ⟨ah (by decide +kernel),?_⟩
    refine ⟨2,⟨by omega,fun _=>s1 (by omega),fun _=>by simp only [S,Bool.and_eq_false_iff,decide_eq_false_iff_not];omega,fun h=>by omega⟩,by omega,?_⟩ <;> simp [bG,bK,bL]
  ·simp [Int.not_le.2 h1]
   refine ⟨ah (by decide +kernel),?_⟩
   refine ⟨2,⟨by omega,fun _=>s1 (by omega),fun _=>by simp only [S,Bool.and_eq_false_iff,decide_eq_false_iff_not];omega,fun h=>by omega⟩,by omega,?_⟩ <;> simp [bG,bK,bL]
 ·simp [mD,ptD,bG,bK,bL]
  refine ⟨ah (by decide +kernel),?_⟩
  refine aa (kk t.2.2 t.1 u.1 t3 t1 u1) (.inl rfl) ?_
  simp
  refine al (fun h1=>?_) (fun h1=>?_) <;> simp at h1
  ·simp [h1]
   refine aa (kk t.2.2 t.1 u.2.1 t3 t1 u2) (.inl rfl) ?_
   simp
   refine al (fun h2=>?_) (fun h2=>?_) <;> simp at h2
   ·simp [h2]
    refine aa (kk t.2.2 t.1 u.2.2 t3 t1 u3) (.inl rfl) ?_
    simp
    refine ⟨ah (by decide +kernel),?_⟩
    refine al (fun h3=>?_) (fun h3=>?_) <;> simp at h3 <;> simp [h3]
    ·simp [S,h1,h2,h3]
    ·refine ⟨3,⟨by omega,fun _=>s1 (by omega),fun _=>s2 (by omega),fun _=>by simp only [S,Bool.and_eq_false_iff,decide_eq_false_iff_not];omega⟩,by omega,?_⟩ <;> simp [bG,bK,bL]
   ·simp [Int.not_le.2 h2]
    refine ⟨ah (by decide +kernel),?_⟩
    refine ⟨3,⟨by omega,fun _=>s1 (by omega),fun _=>s2 (by omega),fun _=>by simp only [S,Bool.and_eq_false_iff,decide_eq_false_iff_not];omega⟩,by omega,?_⟩ <;> simp [bG,bK,bL]
  ·simp [Int.not_le.2 h1]
   refine ⟨ah (by decide +kernel),?_⟩
   refine ⟨3,⟨by omega,fun _=>s1 (by omega),fun _=>s2 (by omega),fun _=>by simp only [S,Bool.and_eq_false_iff,decide_eq_false_iff_not];omega⟩,by omega,?_⟩ <;> simp [bG,bK,bL]
 ·simp [s1 (by omega),s2 (by omega),s3 (by omega)]
end Go.Gv

namespace Go.Gv
def okc (m : Msh) (a b : Int) : Bool:=fQ m.s.length a && decide (a ≠ b) && aW (spt m a.toNat)
def okF (m : Msh) (f : Fce) : Bool:=okc m f.a f.b && okc m f.b f.c && okc m f.c f.a && decide (0 <= f.k) && decide (f.k < 16)
def mtc (f g : Fce) (i k : Nat) : Bool:=decide (crn f i=crn g k) && decide (crn f (i + 1)=crn g (k + 1))
def kE (f g : Fce) : Bool:=(List.range 3).any fun i=>(List.range 3).any fun k=>mtc f g i k
theorem iN {m : Msh} {f : Fce} (h : okF m f=true) : inS m f=true:=by
 simp only [okF,okc,Bool.and_eq_true] at h
 simp only [inS,Bool.and_eq_true]
 exact ⟨⟨h.1.1.1.1.1.1,h.1.1.1.2.1.1⟩,h.1.1.2.1.1⟩
theorem cJ {m : Msh} {f : Fce} (h : okF m f=true) : okT (aQ m f)=true:=by
 simp only [okF,okc,Bool.and_eq_true] at h
 simp only [okT,aQ,Bool.and_eq_true]
 exact ⟨⟨jm h.1.1.1.1.2,jm h.1.1.1.2.2⟩,jm h.1.1.2.2⟩
def oA (n : Nat) : UInt8:=UInt8.ofNat (48 + n % 10)
def ny (n : Nat) (out : List UInt8) : List UInt8:=if n < 10 then oA n::out else ny (n / 10) (oA n::out)
def pT (n : Nat) (out : List UInt8) : List UInt8:=if n=0 then out else ny n out
theorem mN (n : Nat) (out : List UInt8) : ny n out=pT (n / 10) (oA n::out):=by
 rw [ny,pT]
 by_cases h : n < 10
 ·rw [if_pos h,if_pos (by omega)]
 ·rw [if_neg h,if_neg (by omega)]
variable {C : CC} (hC : aA prog C)
include hC
theorem xE (m : Msh) (f : Fce) (hs : inS m f=true) (ht : okT (aQ m f)=true) : C 293 [.agg (aY m),.agg (bx f)] (.int .i64 (ni (aQ m f))) []:=by
 have k1:=nU hC m f hs
 have k2:=ht
 simp only [okT,Bool.and_eq_true] at k2
 have k3:=d6 hC k2.1.1 k2.1.2 k2.2
 obtain ⟨t,e⟩ : ∃ t,t=aQ m f:=⟨_,rfl⟩
 rw [<- e] at k1 k3 ⊢
 refine start hC (nf:=N293) rfl rfl ?_
 rw [aY,bx] at k1 ⊢
 simp only [ptD] at k1 k3
 simp [N293]
 refine aa k1 (.inr rfl) ?_
 simp
 refine aa k3 (.inl rfl) ?_
 simp [ni]
 exact ah (by decide +kernel)
theorem qw (m : Msh) (f g : Fce) (hs : inS m f=true) (ht : okT (aQ m f)=true) (hs' : inS m g=true) (ht' : okT (aQ m g)=true) : C 295 [.agg (aY m),.agg (bx f),.agg (bx g)] (.bool (ovT (aQ m f) (aQ m g))) []:=by
 have k1:=nU hC m f hs
 have k2:=nU hC m g hs'
 have k3:=pg hC ht ht'
 have k4:=pg hC ht' ht
 obtain ⟨t,e⟩ : ∃ t,t=aQ m f:=⟨_,rfl⟩
 obtain ⟨u,e'⟩ : ∃ u,u=aQ m g:=⟨_,rfl⟩
 rw [<- e] at k1 k3 k4 ⊢
 rw [<- e'] at k2 k3 k4 ⊢
 refine start hC (nf:=N295) rfl rfl ?_
 rw [aY,bx] at k1 k2 ⊢
 rw [bx]
 simp only [mD,ptD] at k1 k2 k3 k4
 simp [N295]
 refine aa k1 (.inr rfl) ?_
 simp
 refine aa k2 (.inr rfl) ?_
 simp
 refine ⟨ah (by decide +kernel),?_⟩
 refine aa k3 (.inl rfl) ?_
 simp
 cases h1 : pt t u <;> simp [ovT,h1]
 refine aa k4 (.inl rfl) ?_
 simp
 exact fun _=>h1
theorem xB (f g : Fce) : C 294 [.agg (bx f),.agg (bx g)] (.bool (kE f g)) []:=by
 have kf:=fun k (h : k < 4)=>m9 hC f k h
 have kg:=fun k (h : k < 4)=>m9 hC g k h
 refine start hC (nf:=N294) rfl rfl ?_
 rw [bx] at kf ⊢
 rw [bx] at kg ⊢
 simp [N294]
 refine au Nat (fun i=>[(2,.ptr (bx f)),(3,.ptr (bx g)),(5,.int .i64 i)]) (fun i=>i <= 3 /\ ∀ a,a < i -> ∀ b,b < 3 -> mtc f g a b=false) (fun i=>3 - i) 0 (by simp) (by simp [bx]) ?_
 rintro i ⟨hi,hI⟩
 simp [bx]
 refine al (fun c1=>?_) (fun c1=>?_) <;> simp at c1 <;> simp [c1]
 ·have hw : IntKind.wrap .i64 ((i : Int) + 1)=((i + 1 : Nat) : Int):=ae (by omega) (by omega)
  refine au Nat (fun k=>[(2,.ptr (bx f)),(3,.ptr (bx g)),(5,.int .i64 i),(6,.int .i64 k)]) (fun k=>k <= 3 /\ ∀ b,b < k -> mtc f g i b=false) (fun k=>3 - k) 0 (by simp) (by simp [bx]) ?_
  rintro k ⟨hk,hK⟩
  simp [bx]
  refine al (fun c2=>?_) (fun c2=>?_) <;> simp at c2 <;> simp [c2]
  ·have hw2 : IntKind.wrap .i64 ((k : Int) + 1)=((k + 1 : Nat) : Int):=ae (by omega) (by omega)
   refine aa (kf i (by omega)) (.inl rfl) ?_
   simp
   refine aa (kg k (by omega)) (.inl rfl) ?_
   simp
   by_cases h1 : crn f i=crn g k
   ·simp [h1,hw,hw2]
    refine aa (kf (i + 1) (by omega)) (.inl rfl) ?_
    simp [hw2]
    refine aa (kg (k + 1) (by omega)) (.inl rfl) ?_
    simp
    refine ⟨ah (by decide +kernel),?_⟩
    by_cases h2 : crn f (i + 1)=crn g (k + 1)
    ·simp [h2]
     refine List.any_eq_true.2 ⟨i,List.mem_range.2 (by omega),List.any_eq_true.2 ⟨k,List.mem_range.2 (by omega),?_⟩⟩
     simp [mtc,h1,h2]
    ·simp [h2,hw2]
     refine ⟨k + 1,⟨by omega,fun b hb=>?_⟩,by omega,?_⟩
     rotate_left
     ·omega
     rcases Nat.lt_succ_iff_lt_or_eq.1 hb with h | rfl
     ·exact hK b h
     ·simp [mtc,h2]
   ·simp [h1,hw2]
    refine ⟨ah (by decide +kernel),?_⟩
    refine ⟨k + 1,⟨by omega,fun b hb=>?_⟩,by omega,?_⟩
    rotate_left
    ·omega
    rcases Nat.lt_succ_iff_lt_or_eq.1 hb with h | rfl
    ·exact hK b h
    ·simp [mtc,h1]
  ·simp [hw]
   refine ⟨i + 1,⟨by omega,fun a ha b hb=>?_⟩,by omega,?_⟩
   rotate_left
   ·omega
   rcases Nat.lt_succ_iff_lt_or_eq.1 ha with h | rfl
   ·exact hI a h b hb
   ·exact hK b (by omega)
 ·rw [kE]
  rw [Bool.eq_false_iff]
  intro h
  rw [List.any_eq_true] at h
  obtain ⟨a,ha,h⟩:=h
  rw [List.any_eq_true] at h
  obtain ⟨b,hb,h⟩:=h
  rw [hI a (by have:=List.mem_range.1 ha;omega) b (List.mem_range.1 hb)] at h
  cases h
set_option maxHeartbeats 2000000 in
theorem Bt (m : Msh) (f : Fce) (hn : m.s.length < 2 ^ 40) : C 292 [.agg (aY m),.agg (bx f)] (.bool (okF m f)) []:=by
 have ks:=fun s=>rk hC s
 have E : ∀ a b : Int,okc m a b=(decide (0 <= a) && decide (a < m.s.length) && decide (a ≠ b) && aW (spt m a.toNat)):=fun a b=>rfl
 have E2 : okF m f=(okc m f.a f.b && okc m f.b f.c && okc m f.c f.a && decide (0 <= f.k) && decide (f.k < 16)):=rfl
 refine start hC (nf:=N292) rfl rfl ?_
 rw [aY,bx]
 simp only [ft] at ks
 simp [N292]
 refine au Nat (fun i=>[(2,.ptr (aY m)),(3,.ptr (bx f)),(5,.ref (.r 10080) 0 3),(10080,.blk 1 [[.int .i64 f.a],[.int .i64 f.b],[.int .i64 f.c]]),(6,.int .i64 i)]) (fun i=>i <= 3 /\ (1 <= i -> okc m f.a f.b=true) /\ (2 <= i -> okc m f.b f.c=true) /\ (3 <= i -> okc m f.c f.a=true)) (fun i=>3 - i) 0 (by simp) (by simp [bx,aY]) ?_
 rintro i ⟨hi,s1,s2,s3⟩
 rcases (by omega : i=0 \/ i=1 \/ i=2 \/ i=3) with rfl | rfl | rfl | rfl
 ·have no : okc m f.a f.b=false -> okF m f=false:=fun h=>by simp [E2,h]
  simp [bx,aY,bG,bK,bL]
  refine al (fun c1=>?_) (fun c1=>?_) <;> simp at c1
  ·simp [c1]
   exact ⟨ah (by decide +kernel),no (by rw [E,decide_eq_false (by omega)];simp)⟩
  ·simp [Int.not_lt.2 c1]
   refine al (fun c2=>?_) (fun c2=>?_) <;> simp at c2
   ·simp [c2]
    exact ⟨ah (by decide +kernel),no (by rw [E,decide_eq_false (show ¬ f.a < m.s.length by omega)];simp)⟩
   ·simp [Int.not_le.2 c2,bG,bK,bL]
    by_cases c3 : f.a=f.b
    ·simp [c3,bG,bK,bL]
     exact ⟨ah (by decide +kernel),no (by rw [E,decide_eq_false (show ¬ f.a ≠ f.b by omega)];simp)⟩
    ·simp [c3,c1,bG,bK,bL]
     refine ⟨by omega,by simp [ft],?_⟩
     simp [bq]
     refine aa (ks (spt m f.a.toNat)) (.inl rfl) ?_
     cases c4 : aW (spt m f.a.toNat)
     ·simp
      exact ⟨ah (by decide +kernel),no (by rw [E,c4];simp)⟩
     ·simp
      refine ⟨ah (by decide +kernel),?_⟩
      refine ⟨1,⟨by omega,fun _=>by rw [E];simp [c1,c3,c4];omega,fun h=>by omega,fun h=>by omega⟩,by omega,?_⟩ <;> simp [bG,bK,bL]
 ·have no : okc m f.b f.c=false -> okF m f=false:=fun h=>by simp [E2,h]
  simp [bx,aY,bG,bK,bL]
  refine al (fun c1=>?_) (fun c1=>?_) <;> simp at c1
  ·simp [c1]
   exact ⟨ah (by decide +kernel),no (by rw [E,decide_eq_false (by omega)];simp)⟩
  ·simp [Int.not_lt.2 c1]
   refine al (fun c2=>?_) (fun c2=>?_) <;> simp at c2
   ·simp [c2]
    exact ⟨ah (by decide +kernel),no (by rw [E,decide_eq_false (show ¬ f.b < m.s.length by omega)];simp)⟩
   ·simp [Int.not_le.2 c2,bG,bK,bL]
    by_cases c3 : f.b=f.c
    ·simp [c3,bG,bK,bL]
     exact ⟨ah (by decide +kernel),no (by rw [E,decide_eq_false (show ¬ f.b ≠ f.c by omega)];simp)⟩
    ·simp [c3,c1,bG,bK,bL]
     refine ⟨by omega,by simp [ft],?_⟩
     simp [bq]
     refine aa (ks (spt m f.b.toNat)) (.inl rfl) ?_
     cases c4 : aW (spt m f.b.toNat)
     ·simp
      exact ⟨ah (by decide +kernel),no (by rw [E,c4];simp)⟩
     ·simp
      refine ⟨ah (by decide +kernel),?_⟩
      refine ⟨2,⟨by omega,fun _=>s1 (by omega),fun _=>by rw [E];simp [c1,c3,c4];omega,fun h=>by omega⟩,by omega,?_⟩ <;> simp [bG,bK,bL]
 ·have no : okc m f.c f.a=false -> okF m f=false:=fun h=>by simp [E2,h]
  simp [bx,aY,bG,bK,bL]
  refine al (fun c1=>?_) (fun c1=>?_) <;> simp at c1
  ·simp [c1]
   exact ⟨ah (by decide +kernel),no (by rw [E,decide_eq_false (by omega)];simp)⟩
  ·simp [Int.not_lt.2 c1]
   refine al (fun c2=>?_) (fun c2=>?_) <;> simp at c2
   ·simp [c2]
    exact ⟨ah (by decide +kernel),no (by rw [E,decide_eq_false (show ¬ f.c < m.s.length by omega)];simp)⟩
   ·simp [Int.not_le.2 c2,bG,bK,bL]
    by_cases c3 : f.c=f.a
    ·simp [c3,bG,bK,bL]
     exact ⟨ah (by decide +kernel),no (by rw [E,decide_eq_false (show ¬ f.c ≠ f.a by omega)];simp)⟩
    ·simp [c3,c1,bG,bK,bL]
     refine ⟨by omega,by simp [ft],?_⟩
     simp [bq]
     refine aa (ks (spt m f.c.toNat)) (.inl rfl) ?_
     cases c4 : aW (spt m f.c.toNat)
     ·simp
      exact ⟨ah (by decide +kernel),no (by rw [E,c4];simp)⟩
     ·simp
      refine ⟨ah (by decide +kernel),?_⟩
      refine ⟨3,⟨by omega,fun _=>s1 (by omega),fun _=>s2 (by omega),fun _=>by rw [E];simp [c1,c3,c4];omega⟩,by omega,?_⟩ <;> simp [bG,bK,bL]
 ·have t1:=s1 (by omega)
  have t2:=s2 (by omega)
  have t3:=s3 (by omega)
  simp [bx,aY,E2,t1,t2,t3]
  refine al (fun c1=>?_) (fun c1=>?_) <;> simp at c1 <;> simp [c1] <;> rw [E2,t1,t2,t3] <;> simp [c1]
  omega
theorem Bs (n : Nat) (hn : n < 100) : C 290 [.int .i64 n] (.str (ny n [])) []:=by
 refine start hC (nf:=N290) rfl rfl ?_
 simp [N290]
 refine au (Nat × List UInt8) (fun s=>[(0,.int .i64 s.1),(3,.str s.2)]) (fun s=>s.1 + s.2.length <= n + 1 /\ ((s.2=[] /\ s.1=n) \/ (s.2 ≠ [] /\ pT s.1 s.2=ny n []))) (fun s=>s.1 + if s.2=[] then 1 else 0) (n,[]) (by simp) (by simp) ?_
 rintro ⟨k,out⟩ ⟨hl,hI⟩
 simp only at hl hI
 have ww : IntKind.wrap .i64 ((k : Int) / 10)=((k / 10 : Nat) : Int):=ae (by omega) (by omega)
 have wq : IntKind.wrap .i64 (48 + (k : Int) % 10)=48 + (k : Int) % 10:=ae rfl (by omega)
 have et : (k : Int).tmod 10=(k : Int) % 10:=Int.tmod_eq_emod_of_nonneg (by omega)
 have wd : IntKind.u8.wrap (48 + (k : Int) % 10)=48 + (k : Int) % 10:=by
  have e1 : IntKind.u8.signed=false:=rfl
  have e3 : (2 ^ IntKind.u8.bits : Int)=256:=rfl
  unfold IntKind.wrap
  simp only [e1,e3,Bool.false_and]
  simp
  omega
 have wdd : IntKind.u8.wrap (IntKind.wrap .i64 (48 + (k : Int).tmod 10))=48 + (k : Int) % 10:=by rw [et,wq,wd]
 have hda : (k : Int) / 10=((k / 10 : Nat) : Int):=by omega
 have wb : fL [.int .u8 (48 + (k : Int) % 10)]=oA k:=by
  have : (48 + (k : Int) % 10).toNat=48 + k % 10:=by omega
  simp only [fL,oA,this]
 have hstep : pT (k / 10) (oA k::out)=ny n [] \/ (k=0 /\ out ≠ []):=by
  rcases hI with ⟨rfl,rfl⟩ | ⟨h1,h2⟩
  ·exact .inl (mN _ _).symm
  ·by_cases h : k=0
   ·exact .inr ⟨h,h1⟩
   ·rw [pT,if_neg h] at h2
    rw [<- mN,h2]
    exact .inl rfl
 by_cases hk : 0 < k
 ·have h3 : pT (k / 10) (oA k::out)=ny n []:=by
   rcases hstep with h | h
   ·exact h
   ·omega
  simp [hk,wdd,ww]
  refine ⟨⟨48 + k % 10,by omega,by omega⟩,by omega,k / 10,_,⟨by simp;omega,.inr ⟨by simp,?_⟩⟩,?_,hda,rfl⟩
  ·rw [wb];exact h3
  ·simp
   split <;> omega
 ·have h0 : k=0:=by omega
  subst h0
  by_cases ho : out=[]
  ·subst ho
   simp at hstep
   have w48 : IntKind.u8.wrap (IntKind.wrap .i64 48)=48:=by decide
   simp [w48]
   refine ⟨⟨48,rfl,by omega⟩,0,_,⟨by simp,.inr ⟨by simp,?_⟩⟩,⟨rfl,by simp⟩,by decide,rfl⟩
   have : fL [.int .u8 48]=oA 0:=by decide
   rw [this]
   exact hstep
  ·rcases hI with ⟨h1,_⟩ | ⟨_,h2⟩
   ·exact absurd h1 ho
   ·rw [pT,if_pos rfl] at h2
    rw [<- h2]
    simp [ho]
end Go.Gv

namespace Go.Gv
def fS (m : Msh) (i : Nat) : Pnt:=ptS (spt m i)
def fil (p : Nat -> Bool) (n : Nat) : List Nat:=(List.range n).filter p
theorem jA (p : Nat -> Bool) : fil p 0=[]:=rfl
theorem cx {p : Nat -> Bool} {n : Nat} (h : p n=true) : fil p (n + 1)=fil p n++[n]:=by
 rw [fil,List.range_succ,List.filter_append]
 simp [h,fil]
theorem j7 {p : Nat -> Bool} {n : Nat} (h : p n=false) : fil p (n + 1)=fil p n:=by
 rw [fil,List.range_succ,List.filter_append]
 simp [h,fil]
theorem aD (p : Nat -> Bool) (n : Nat) : (fil p n).length <= n:=by
 have:=List.length_filter_le p (List.range n)
 rw [fil]
 simpa using this
theorem dP {p : Nat -> Bool} {n i : Nat} (h : i ∈ fil p n) : i < n /\ p i=true:=by
 rw [fil,List.mem_filter,List.mem_range] at h
 exact h
theorem nE {p : Nat -> Bool} {n : Nat} : fil p n=[] ↔ ∀ i,i < n -> p i=false:=by
 rw [fil,List.filter_eq_nil_iff]
 simp
def cO (m : Msh) (i : Nat) : Bool:=!aW (spt m i)
def bO (m : Msh) (i : Nat) : Bool:=aW (spt m i) && (List.range i).any fun k=>aW (spt m k) && decide (fS m k=fS m i)
def dg (m : Msh) (i : Nat) : Bool:=!okF m (fce m i)
def cj (m : Msh) (i : Nat) : Bool:=okF m (fce m i) && decide (ni (aQ m (fce m i)) <= 0)
def ar (m : Msh) (i : Nat) : Bool:=okF m (fce m i) && decide (0 < ni (aQ m (fce m i)))
def bR (m : Msh) (i : Nat) : Bool:=ar m i && (List.range i).any fun k=>ar m k && kE (fce m i) (fce m k)
def aO (m : Msh) (i : Nat) : Bool:=ar m i && (List.range i).any fun k=>ar m k && ovT (aQ m (fce m i)) (aQ m (fce m k))
def LL (m : Msh) : List (List Nat):=[[],fil (cO m) m.s.length,fil (bO m) m.s.length,fil (dg m) m.f.length,fil (cj m) m.f.length,fil (bR m) m.f.length,fil (aO m) m.f.length]
def co (dec : Nat -> List UInt8) : Nat -> List (List Nat) -> List (Int × List UInt8)
 | _,[]=>[]
 | k,l::r=>(l.map fun i=>((k : Int),dec i))++co dec (k + 1) r
def fnD (x : Int × List UInt8) : List D:=[.int .i64 x.1,.str x.2]
def bW (m : Msh) : Bool:=decide (m.s.length <= 2000) && decide (m.f.length <= 4000)
def aF (m : Msh) : Bool:=bW m && (LL m).all fun l=>decide (l=[])
theorem lX (dec : Nat -> List UInt8) : ∀ (k : Nat) (ls : List (List Nat)),co dec k ls=[] ↔ (ls.all fun l=>decide (l=[]))=true
 | _,[]=>by simp [co]
 | k,l::r=>by simp [co,lX dec (k + 1) r]
def i7 (m : Msh) : Nat -> List D
 | 0=>[]
 | i + 1=>if aW (spt m i) then .agg (ptD (fS m i))::i7 m i else i7 m i
def kB (m : Msh) : Nat -> List D
 | 0=>[]
 | i + 1=>if aW (spt m i) then .bool true::kB m i else kB m i
theorem pc (m : Msh) : ∀ i,(i7 m i).length <= i
 | 0=>by simp [i7]
 | i + 1=>by
  have:=pc m i
  rw [i7]
  split <;> simp <;> omega
theorem Aq (p q : Pnt) : eqD (.agg (ptD p)) (.agg (ptD q))=decide (q=p):=by
 obtain ⟨a,b⟩:=p
 obtain ⟨c,d⟩:=q
 simp [eqD,nB,nA,ptD]
 rw [Bool.eq_iff_iff]
 simp
 exact ⟨fun h=>⟨h.1.symm,h.2.symm⟩,fun h=>⟨h.1.symm,h.2.symm⟩⟩
theorem qp (m : Msh) (p : Pnt) : ∀ i,(dz (i7 m i) (kB m i) (.agg (ptD p))).getD (.bool false)=.bool ((List.range i).any fun k=>aW (spt m k) && decide (fS m k=p))
 | 0=>rfl
 | i + 1=>by
  rw [i7,kB,List.range_succ,List.any_append]
  by_cases h : aW (spt m i)=true
  ·rw [if_pos h,if_pos h,dz,Aq]
   by_cases h2 : fS m i=p
   ·simp [h,h2]
   ·simp [h2,qp m p i]
  ·rw [if_neg h,if_neg h,qp m p i]
   simp [h]
def eA (m : Msh) (i : Nat) : List Bool:=(List.range m.s.length).map fun j=>decide (j < i) && cO m j
theorem jz (m : Msh) (i : Nat) : (eA m i).length=m.s.length:=by simp [eA]
theorem r7 (m : Msh) : eA m 0=List.replicate m.s.length false:=by
 refine List.ext_getElem (by simp [eA]) fun k h1 h2=>?_
 simp [eA]
theorem ub (m : Msh) {i : Nat} (h : i < m.s.length) : (eA m i).set i (cO m i)=eA m (i + 1):=by
 refine List.ext_getElem (by simp [eA]) fun k h1 h2=>?_
 rw [List.getElem_set]
 simp only [eA,List.getElem_map,List.getElem_range]
 by_cases e : i=k
 ·subst e;simp
 ·rw [if_neg e]
  by_cases e2 : k < i
  ·simp [e2,show k < i + 1 by omega]
  ·simp [e2,show ¬ k < i + 1 by omega]
theorem t8 (m : Msh) {k : Nat} (h : k < m.s.length) : (eA m m.s.length)[k]'(by rw [jz];exact h)=cO m k:=by simp [eA,h]
variable {C : CC} (hC : aA prog C)
include hC
theorem uo {b : Bool} {xs : List Tri} {g : Nat} {cs : List D} (p : Tri -> Bool) (hs : xs.length < 2 ^ 62) (hp : ∀ x ∈ xs,C g (.agg (ci x)::cs) (.bool (p x)) []) : C 328 [slx b (xs.map ci),.fn g cs] (.int .i64 (jC p xs)) []:=by
 refine start hC (nf:=N328) rfl rfl ?_
 simp [N328]
 refine au Nat (fun i=>[(0,slx b (xs.map ci)),(1,.fn g cs),(7,.int .i64 xs.length),(8,.int .i64 i)]) (fun i=>i <= xs.length /\ ∀ (j : Nat) (h : j < xs.length),j < i -> p xs[j]=false) (fun i=>xs.length - i) 0 (by simp) (by simp) ?_
 rintro i ⟨hi,hj⟩
 simp
 refine al (fun h=>?_) (fun h=>?_) <;> simp [h] <;> simp at h
 ·have hw : IntKind.wrap .i64 ((i : Int) + 1)=((i + 1 : Nat) : Int):=ae (by omega) (by omega)
  have hc:=hp _ (List.getElem_mem h)
  simp [h,List.getElem_map,ci] at hc ⊢
  refine aa hc (.inl rfl) ?_
  simp
  refine al (fun h1=>?_) (fun h1=>?_) <;> simp [h1,hw]
  ·rw [iK hj h h1]
  ·refine ⟨i + 1,⟨by omega,fun j hl hjj=>?_⟩,by omega,by simp [ci]⟩
   rcases Nat.lt_succ_iff_lt_or_eq.1 hjj with h2 | rfl
   ·exact hj j hl h2
   ·exact h1
 ·rw [iJ (fun j hl=>hj j hl (by omega))]
theorem cP {b : Bool} {xs : List Tri} {g : Nat} {cs : List D} (p : Tri -> Bool) (hs : xs.length < 2 ^ 62) (hp : ∀ x ∈ xs,C g (.agg (ci x)::cs) (.bool (p x)) []) : C 309 [slx b (xs.map ci),.fn g cs] (.bool (xs.any p)) []:=by
 refine start hC (nf:=N309) rfl rfl ?_
 simp [N309]
 refine aa (uo hC p hs hp) (.inl rfl) ?_
 simp [lP]
theorem Ah (m : Msh) (k : Int) (hn : m.s.length < 2 ^ 40) : C 306 [.int .i64 k,.ptr (aY m),.ptr [.sl ((eA m m.s.length).map fun b=>[.bool b])]] (.bool (!(fQ m.s.length k && aW (spt m k.toNat)))) []:=by
 have E : fQ m.s.length k=(decide (0 <= k) && decide (k < m.s.length)):=rfl
 refine start hC (nf:=N306) rfl rfl ?_
 simp [N306,aY]
 refine al (fun c1=>?_) (fun c1=>?_) <;> simp at c1
 ·simp [c1]
  rw [E,decide_eq_false (by omega)];simp
 ·simp [Int.not_lt.2 c1]
  refine al (fun c2=>?_) (fun c2=>?_) <;> simp at c2
  ·simp [c2]
   rw [E,decide_eq_false (show ¬ k < m.s.length by omega)];simp
  ·have c3 : k.toNat < m.s.length:=by omega
   have c4:=t8 m c3
   simp [Int.not_le.2 c2,c1,c3,jz]
   rw [c4,E,decide_eq_true c1,decide_eq_true c2]
   simp [cO]
theorem ew {t o : Tri} (ht : okT t=true) (ho : okT o=true) : C 310 [.agg (ci o),.ptr (ci t)] (.bool (ovT t o)) []:=by
 have k1:=zB hC ht ho
 have k2:=zB hC ho ht
 refine start hC (nf:=N310) rfl rfl ?_
 rw [ci,ci] at k1 k2 ⊢
 simp [N310]
 refine aa k1 (.inl rfl) ?_
 simp
 cases h1 : pt t o <;> simp [ovT,h1]
 refine aa k2 (.inl rfl) ?_
 simp
 exact fun _=>h1
end Go.Gv

namespace Go.Gv
def nmR (l : List Nat) : List (List D):=l.map fun (k : Nat)=>[D.int .i64 k]
theorem eF (l : List Nat) : nmR l=l.map fun (k : Nat)=>[D.int .i64 k]:=_root_.id rfl
theorem iM {p : Nat -> Bool} {n : Nat} (h : p n=true) : nmR (fil p n)++[[D.int .i64 n]]=nmR (fil p (n + 1)):=by
 rw [cx h];simp [nmR]
theorem eG {p : Nat -> Bool} {n : Nat} (h : p n=false) : nmR (fil p n)=nmR (fil p (n + 1)):=by rw [j7 h]
@[simp] theorem Nj (l : List Nat) : (nmR l).length=l.length:=by simp [nmR]
@[simp] theorem Bk (l : List Nat) : (∀ e ∈ nmR l,∀ c ∈ e,aw c=true)=True:=by simp [nmR]
@[simp] theorem IC (l : List Nat) : List.take l.length (nmR l)=nmR l:=List.take_of_length_le (by simp)
@[simp] theorem Ni (l : List Nat) (x : List D) : (∀ e,e ∈ nmR l \/ e=x -> ∀ c,c ∈ e -> aw c=true)=∀ c,c ∈ x -> aw c=true:=by
 apply propext
 constructor
 ·exact fun h=>h x (.inr rfl)
 ·rintro h e (he | rfl)
  ·exact (Bk l).mpr trivial e he
  ·exact h
@[simp] theorem Nk : nmR []=[]:=rfl
def boR (l : List Bool) : List (List D):=l.map fun b=>[D.bool b]
theorem nq (l : List Bool) : boR l=l.map fun b=>[D.bool b]:=_root_.id rfl
@[simp] theorem JC (l : List Bool) : (boR l).length=l.length:=by simp [boR]
@[simp] theorem JB (l : List Bool) (i : Nat) (h : i < (boR l).length) : (boR l)[i]=[D.bool (l[i]'(by simpa using h))]:=by simp [boR]
@[simp] theorem JD (l : List Bool) (i : Nat) (b : Bool) : (boR l).set i [D.bool b]=boR (l.set i b):=by simp [boR,List.map_set]
theorem r6 (m : Msh) {i : Nat} (h : i < m.s.length) : (eA m i).set i (!aW (spt m i))=eA m (i + 1):=ub m h
theorem wO (m : Msh) {i : Nat} (h : i < m.s.length) (h' : i < (eA m (i + 1)).length) : (eA m (i + 1))[i]=!aW (spt m i):=by simp [eA,cO]
theorem ua (m : Msh) : List.replicate m.s.length [D.bool false]=boR (eA m 0):=by rw [r7];simp [boR]
def yE (m : Msh) (i : Nat) : Env:=[(1,.ptr (aY m)),(4,.adr (.r 10064) 0 0),(10064,.blk 7 [[.own 1 [],.own 1 (nmR (fil (cO m) i)),.own 1 (nmR (fil (bO m) i)),.own 1 [],.own 1 [],.own 1 [],.own 1 []]]),(5,.adr (.r 10080) 0 0),(10080,.blk 1 [[.own 1 (boR (eA m i))]]),(6,.mrf 10464),(10464,.mp 4 1 (i7 m i) (kB m i)),(31,slx m.sn (m.s.map ft)),(32,.int .i64 m.s.length),(33,.int .i64 i)]
theorem gV (m : Msh) (i : Nat) : yE m i=[(1,.ptr (aY m)),(4,.adr (.r 10064) 0 0),(10064,.blk 7 [[.own 1 [],.own 1 (nmR (fil (cO m) i)),.own 1 (nmR (fil (bO m) i)),.own 1 [],.own 1 [],.own 1 [],.own 1 []]]),(5,.adr (.r 10080) 0 0),(10080,.blk 1 [[.own 1 (boR (eA m i))]]),(6,.mrf 10464),(10464,.mp 4 1 (i7 m i) (kB m i)),(31,slx m.sn (m.s.map ft)),(32,.int .i64 m.s.length),(33,.int .i64 i)]:=_root_.id rfl
def trR (m : Msh) (l : List Nat) : List (List D):=l.map fun k=>ci (aQ m (fce m k))
theorem eM (m : Msh) (l : List Nat) : trR m l=(l.map fun k=>aQ m (fce m k)).map ci:=by simp [trR]
@[simp] theorem NT (m : Msh) (l : List Nat) : (trR m l).length=l.length:=by simp [trR]
@[simp] theorem Js (m : Msh) (l : List Nat) : List.take l.length (trR m l)=trR m l:=List.take_of_length_le (by simp)
@[simp] theorem Pq (m : Msh) (l : List Nat) : List.map (fun e=>List.map aR e) (trR m l)=trR m l:=by simp [trR,ci]
@[simp] theorem NU (m : Msh) : trR m []=[]:=rfl
theorem dA {m : Msh} {i : Nat} (h : ar m i=true) : trR m (fil (ar m) i)++[ci (aQ m (fce m i))]=trR m (fil (ar m) (i + 1)):=by rw [cx h];simp [trR]
def sdK (f : Fce) : Nat -> List D
 | 0=>[]
 | j + 1=>.agg [.int .i64 (crn f j),.int .i64 (crn f (j + 1))]::sdK f j
theorem nV (f : Fce) : ∀ j,(sdK f j).length=j
 | 0=>rfl
 | j + 1=>by simp [sdK,nV f j]
def bU (m : Msh) : Nat -> List D
 | 0=>[]
 | i + 1=>if ar m i then sdK (fce m i) 3++bU m i else bU m i
def bX (m : Msh) : Nat -> List D
 | 0=>[]
 | i + 1=>if ar m i then List.replicate 3 (.bool true)++bX m i else bX m i
theorem cE (m : Msh) : ∀ i,(bU m i).length <= 3 * i
 | 0=>by simp [bU]
 | i + 1=>by
  have:=cE m i
  rw [bU]
  split <;> simp [nV] <;> omega
def ii (m : Msh) (i j : Nat) : Bool:=(List.range i).any fun k=>ar m k && (List.range 3).any fun j'=>mtc (fce m i) (fce m k) j j'
theorem FZ (a b c d : Int) : eqD (.agg [.int .i64 a,.int .i64 b]) (.agg [.int .i64 c,.int .i64 d])=(decide (a=c) && decide (b=d)):=by
 simp [eqD,nB,nA]
theorem qE (m : Msh) (a b : Int) : ∀ i,(dz (bU m i) (bX m i) (.agg [.int .i64 a,.int .i64 b])).getD (.bool false)=.bool ((List.range i).any fun k=>ar m k && (List.range 3).any fun j=>decide (a=crn (fce m k) j) && decide (b=crn (fce m k) (j + 1)))
 | 0=>rfl
 | i + 1=>by
  rw [bU,bX,List.range_succ,List.any_append]
  have h3 : List.range 3=[0,1,2]:=rfl
  by_cases h : ar m i=true
  ·rw [if_pos h,if_pos h]
   simp only [sdK,List.replicate,List.cons_append,List.nil_append,dz,FZ]
   have ih:=qE m a b i
   by_cases c0 : (decide (a=crn (fce m i) 2) && decide (b=crn (fce m i) (2 + 1)))=true
   ·rw [if_pos c0]
    simp only [List.any_cons,List.any_nil,h,h3,c0]
    simp
   ·rw [if_neg c0]
    by_cases c1 : (decide (a=crn (fce m i) 1) && decide (b=crn (fce m i) (1 + 1)))=true
    ·rw [if_pos c1]
     simp only [List.any_cons,List.any_nil,h,h3,c1]
     simp
    ·rw [if_neg c1]
     by_cases c2 : (decide (a=crn (fce m i) 0) && decide (b=crn (fce m i) (0 + 1)))=true
     ·rw [if_pos c2]
      simp only [List.any_cons,List.any_nil,h,h3,c2]
      simp
     ·rw [if_neg c2,ih]
      rw [Bool.not_eq_true] at c0 c1 c2
      simp only [List.any_cons,List.any_nil,h,h3,c0,c1,c2]
      simp
  ·rw [if_neg h,if_neg h,qE m a b i]
   simp [h]
theorem vS {α : Type} (A p q r : α -> Bool) (l : List α) : (l.any fun k=>A k && (p k || (q k || r k)))=((l.any fun k=>A k && p k) || ((l.any fun k=>A k && q k) || (l.any fun k=>A k && r k))):=by
 induction l with
 | nil=>rfl
 | cons x l ih =>
  simp only [List.any_cons,ih]
  cases A x <;> cases p x <;> cases q x <;> cases r x <;> simp
theorem vb {m : Msh} {i : Nat} (h : ar m i=true) : bR m i=(ii m i 0 || (ii m i 1 || ii m i 2)):=by
 unfold bR kE ii
 rw [h,Bool.true_and,<- vS]
 have h3 : List.range 3=[0,1,2]:=rfl
 simp only [h3,List.any_cons,List.any_nil,Bool.or_false]
theorem Ak {m : Msh} {f : Fce} (h : inS m f=true) (j : Nat) : 0 <= crn f j /\ crn f j < m.s.length:=by
 have:=ki h
 unfold crn
 split <;> omega
def ot (m : Msh) (i k : Nat) : Env:=[(1,.ptr (aY m)),(4,.adr (.r 10064) 0 0),(10064,.blk 7 [[.own 1 [],.own 1 (nmR (fil (cO m) m.s.length)),.own 1 (nmR (fil (bO m) m.s.length)),.own 1 (nmR (fil (dg m) i)),.own 1 (nmR (fil (cj m) i)),.own 1 (nmR (fil (bR m) (i + 1))),.own 1 (nmR (fil (aO m) i))]]),(5,.adr (.r 10080) 0 0),(10080,.blk 1 [[.own 1 (boR (eA m m.s.length))]]),(10,.mrf 11104),(11104,.mp 3 1 (sdK (fce m i) k++bU m i) (List.replicate k (.bool true)++bX m i)),(11,.ref (.r 10176) 0 (fil (ar m) i).length),(10176,.blk 6 (trR m (fil (ar m) i))),(12,.int .i64 i),(13,.adr (.r 10208) 0 0),(10208,.blk 4 [bx (fce m i)]),(15,.adr (.r 10240) 0 0),(10240,.blk 6 [ci (aQ m (fce m i))]),(71,slx m.fn (m.f.map bx)),(72,.int .i64 m.f.length),(73,.int .i64 i),(159,.int .i64 k)]
theorem fV (m : Msh) (i k : Nat) : ot m i k=[(1,.ptr (aY m)),(4,.adr (.r 10064) 0 0),(10064,.blk 7 [[.own 1 [],.own 1 (nmR (fil (cO m) m.s.length)),.own 1 (nmR (fil (bO m) m.s.length)),.own 1 (nmR (fil (dg m) i)),.own 1 (nmR (fil (cj m) i)),.own 1 (nmR (fil (bR m) (i + 1))),.own 1 (nmR (fil (aO m) i))]]),(5,.adr (.r 10080) 0 0),(10080,.blk 1 [[.own 1 (boR (eA m m.s.length))]]),(10,.mrf 11104),(11104,.mp 3 1 (sdK (fce m i) k++bU m i) (List.replicate k (.bool true)++bX m i)),(11,.ref (.r 10176) 0 (fil (ar m) i).length),(10176,.blk 6 (trR m (fil (ar m) i))),(12,.int .i64 i),(13,.adr (.r 10208) 0 0),(10208,.blk 4 [bx (fce m i)]),(15,.adr (.r 10240) 0 0),(10240,.blk 6 [ci (aQ m (fce m i))]),(71,slx m.fn (m.f.map bx)),(72,.int .i64 m.f.length),(73,.int .i64 i),(159,.int .i64 k)]:=_root_.id rfl
def fnR (l : List (Int × List UInt8)) : List (List D):=l.map fnD
@[simp] theorem Kn (l : List (Int × List UInt8)) : (fnR l).length=l.length:=by simp [fnR]
@[simp] theorem fZ (l : List (Int × List UInt8)) : List.take l.length (fnR l)=fnR l:=List.take_of_length_le (by simp)
@[simp] theorem OA (l : List (Int × List UInt8)) : List.map (fun e=>List.map aR e) (fnR l)=fnR l:=by simp [fnR,fnD]
theorem gz (l : List (Int × List UInt8)) (k : Int) (s : List UInt8) : fnR l++[[.int .i64 k,.str s]]=fnR (l++[(k,s)]):=by simp [fnR,fnD]
@[simp] theorem Ko : fnR []=[]:=rfl
def E0 (L1 L2 L3 L4 L5 L6 : List Nat) : D:=.agx [.ref (.n 10064 0 0) 0 0,.ref (.n 10064 0 1) 0 L1.length,.ref (.n 10064 0 2) 0 L2.length,.ref (.n 10064 0 3) 0 L3.length,.ref (.n 10064 0 4) 0 L4.length,.ref (.n 10064 0 5) 0 L5.length,.ref (.n 10064 0 6) 0 L6.length]
theorem aH (L1 L2 L3 L4 L5 L6 : List Nat) : E0 L1 L2 L3 L4 L5 L6=.agx [.ref (.n 10064 0 0) 0 0,.ref (.n 10064 0 1) 0 L1.length,.ref (.n 10064 0 2) 0 L2.length,.ref (.n 10064 0 3) 0 L3.length,.ref (.n 10064 0 4) 0 L4.length,.ref (.n 10064 0 5) 0 L5.length,.ref (.n 10064 0 6) 0 L6.length]:=_root_.id rfl
def Fb (L1 L2 L3 L4 L5 L6 : List Nat) : D:=.blk 7 [[.own 1 [],.own 1 (nmR L1),.own 1 (nmR L2),.own 1 (nmR L3),.own 1 (nmR L4),.own 1 (nmR L5),.own 1 (nmR L6)]]
theorem aX (L1 L2 L3 L4 L5 L6 : List Nat) : Fb L1 L2 L3 L4 L5 L6=.blk 7 [[.own 1 [],.own 1 (nmR L1),.own 1 (nmR L2),.own 1 (nmR L3),.own 1 (nmR L4),.own 1 (nmR L5),.own 1 (nmR L6)]]:=_root_.id rfl
theorem cp (dec : Nat -> List UInt8) : ∀ (a b : List (List Nat)) (k : Nat),co dec k (a++b)=co dec k a++co dec (k + a.length) b
 | [],b,k=>by simp [co]
 | x::a,b,k=>by
  have:=cp dec a b (k + 1)
  simp only [List.cons_append,co,this,List.append_assoc,List.length_cons]
  rw [show k + 1 + a.length=k + (a.length + 1) by omega]
def tkD (dec : Nat -> List UInt8) (k : Int) (L : List Nat) (j : Nat) : List (Int × List UInt8):=(L.take j).map fun i=>(k,dec i)
theorem fu (dec : Nat -> List UInt8) (k : Int) (L : List Nat) : tkD dec k L 0=[]:=by simp [tkD]
theorem gh (dec : Nat -> List UInt8) (k : Int) (L : List Nat) {j : Nat} (h : j < L.length) : tkD dec k L (j + 1)=tkD dec k L j++[(k,dec L[j])]:=by
 unfold tkD
 rw [List.take_add_one,List.getElem?_eq_getElem h,List.map_append]
 rfl
theorem iV (dec : Nat -> List UInt8) (k : Int) (L : List Nat) {j : Nat} (h : j <= L.length) : (tkD dec k L j).length=j:=by simp [tkD];omega
theorem iU (dec : Nat -> List UInt8) (k : Int) (L : List Nat) : tkD dec k L L.length=L.map fun i=>(k,dec i):=by simp [tkD]
def yF (m : Msh) (i : Nat) : Env:=[(1,.ptr (aY m)),(4,.adr (.r 10064) 0 0),(10064,.blk 7 [[.own 1 [],.own 1 (nmR (fil (cO m) m.s.length)),.own 1 (nmR (fil (bO m) m.s.length)),.own 1 (nmR (fil (dg m) i)),.own 1 (nmR (fil (cj m) i)),.own 1 (nmR (fil (bR m) i)),.own 1 (nmR (fil (aO m) i))]]),(5,.adr (.r 10080) 0 0),(10080,.blk 1 [[.own 1 (boR (eA m m.s.length))]]),(10,.mrf 11104),(11104,.mp 3 1 (bU m i) (bX m i)),(11,.ref (.r 10176) 0 (fil (ar m) i).length),(10176,.blk 6 (trR m (fil (ar m) i))),(71,slx m.fn (m.f.map bx)),(72,.int .i64 m.f.length),(73,.int .i64 i)]
theorem cT (m : Msh) (i : Nat) : yF m i=[(1,.ptr (aY m)),(4,.adr (.r 10064) 0 0),(10064,.blk 7 [[.own 1 [],.own 1 (nmR (fil (cO m) m.s.length)),.own 1 (nmR (fil (bO m) m.s.length)),.own 1 (nmR (fil (dg m) i)),.own 1 (nmR (fil (cj m) i)),.own 1 (nmR (fil (bR m) i)),.own 1 (nmR (fil (aO m) i))]]),(5,.adr (.r 10080) 0 0),(10080,.blk 1 [[.own 1 (boR (eA m m.s.length))]]),(10,.mrf 11104),(11104,.mp 3 1 (bU m i) (bX m i)),(11,.ref (.r 10176) 0 (fil (ar m) i).length),(10176,.blk 6 (trR m (fil (ar m) i))),(71,slx m.fn (m.f.map bx)),(72,.int .i64 m.f.length),(73,.int .i64 i)]:=_root_.id rfl
variable {C : CC} (hC : aA prog C)
include hC
set_option maxHeartbeats 4000000 in
theorem vO (dec : Nat -> List UInt8) (hI : ∀ n : Nat,n < 100 -> C 127 [.int .i64 n] (.str (dec n)) []) (m : Msh) (hs : m.s.length <= 100) (hf : m.f.length <= 100) : C 273 [.agg (aY m)] (.tup [.sl ((co dec 0 (LL m)).map fnD),.int .i64 0]) []:=by
 have ksm:=o7 hC m
 rw [decide_eq_true (show m.s.length <= 2000 by omega),decide_eq_true (show m.f.length <= 4000 by omega)] at ksm
 have kr:=fun s=>uC hC s
 have kp:=fun i h=>jG hC m i h
 refine start hC (nf:=N273) rfl rfl ?_
 simp only [ab] at ksm
 simp [N273,ab]
 refine aa ksm (.inl rfl) ?_
 simp
 refine ⟨by omega,?_⟩
 refine au Nat (fun i=>yE m i) (fun i=>i <= m.s.length) (fun i=>m.s.length - i) 0 (by simp) (by simp [gV,ab,jA,i7,kB,ua]) ?_
 rintro i hi
 simp [gV,ab]
 refine al (fun g1=>?_) (fun g1=>?_) <;> simp at g1 <;> simp [g1]
 ·have hw : IntKind.wrap .i64 ((i : Int) + 1)=((i + 1 : Nat) : Int):=ae (by omega) (by omega)
  have kri:=kr (spt m i)
  simp only [bq] at kri
  simp [bq]
  refine aa kri (.inl rfl) ?_
  simp [jz,g1]
  refine ⟨ah (by decide +kernel),?_⟩
  rw [r6 m g1]
  rw [nq]
  simp [jz,g1,wO]
  have kpi:=kp i g1
  simp only [ab] at kpi
  have hr:=jm (s:=spt m i)
  cases hr1 : aW (spt m i)
  ·have e1:=iM (p:=cO m) (n:=i) (by simp [cO,hr1])
   have e2:=eG (p:=bO m) (n:=i) (by simp [bO,hr1])
   have e3 : i7 m (i + 1)=i7 m i:=by simp [i7,hr1]
   have e4 : kB m (i + 1)=kB m i:=by simp [kB,hr1]
   simp [hw]
   refine ⟨by have:=aD (cO m) i;omega,i + 1,by omega,by omega,?_⟩
   simp [gV,ab,e1,<- e2,e3,e4,<- nq]
  ·have hp:=cm (hr hr1)
   have e2:=eG (p:=cO m) (n:=i) (by simp [cO,hr1])
   have e3 : i7 m (i + 1)=.agg (ptD (fS m i))::i7 m i:=by simp [i7,hr1]
   have e4 : kB m (i + 1)=.bool true::kB m i:=by simp [kB,hr1]
   have kg:=qp m (fS m i) i
   have kl:=pc m i
   have hml : maxLen=9223372036854775807:=rfl
   simp [ab]
   refine aa kpi (.inl rfl) ?_
   simp [ptD,ptS,fS] at kg hp
   simp [ptD,ptS,kg]
   refine ⟨⟨by omega,by omega⟩,?_⟩
   have hsame : ((List.range i).any fun k=>aW (spt m k) && (decide ((spt m k).x=(spt m i).x) && decide ((spt m k).y=(spt m i).y)))=bO m i:=by
    simp [bO,hr1,fS,ptS]
   rw [hsame]
   cases hs1 : bO m i
   ·have e1:=eG (p:=bO m) (n:=i) hs1
    simp [hw]
    refine ⟨by omega,⟨by omega,by omega⟩,i + 1,by omega,by omega,?_⟩
    simp [gV,ab,<- e1,<- e2,e3,e4,<- nq,ptD,fS,ptS]
   ·have e1:=iM (p:=bO m) (n:=i) hs1
    simp [hw]
    refine ⟨by have:=aD (bO m) i;omega,by omega,⟨by omega,by omega⟩,i + 1,by omega,by omega,?_⟩
    simp [gV,ab,e1,<- e2,e3,e4,<- nq,ptD,fS,ptS]
 ·have hi2 : i=m.s.length:=by omega
  subst hi2
  refine au Nat (fun i=>yF m i) (fun i=>i <= m.f.length) (fun i=>m.f.length - i) 0 (by simp) (by simp [cT,ab,jA,bU,bX]) ?_
  clear hi g1 kr kp ksm
  rintro i hi
  simp [cT,ab]
  refine al (fun g1=>?_) (fun g1=>?_) <;> simp at g1 <;> simp [g1]
  ·have hw : IntKind.wrap .i64 ((i : Int) + 1)=((i + 1 : Nat) : Int):=ae (by omega) (by omega)
   have kc:=lS hC (fce m i)
   have k1:=oK hC (b:=false) (xs:=[(fce m i).a,(fce m i).b,(fce m i).c]) (g:=306) (cs:=[.ptr (aY m),.ptr [.sl (boR (eA m m.s.length))]]) (fun k=>!(fQ m.s.length k && aW (spt m k.toNat))) (by simp) (fun x _=>Ah hC m x (by omega))
   simp only [ab,aP] at kc k1
   simp at k1
   simp [aP]
   refine aa kc (.inl rfl) ?_
   simp [b9]
   obtain ⟨v,hv⟩ : ∃ v,v=(!fQ m.s.length (fce m i).a || !aW (spt m (fce m i).a.toNat) || (!fQ m.s.length (fce m i).b || !aW (spt m (fce m i).b.toNat) || (!fQ m.s.length (fce m i).c || !aW (spt m (fce m i).c.toNat)))):=⟨_,rfl⟩
   rw [<- hv] at k1
   refine aa k1 (.inl rfl) ?_
   have E : dg m i=!(okF m (fce m i)):=rfl
   have E2 : okF m (fce m i)=(okc m (fce m i).a (fce m i).b && okc m (fce m i).b (fce m i).c && okc m (fce m i).c (fce m i).a && decide (0 <= (fce m i).k) && decide ((fce m i).k < 16)):=rfl
   have E3 : ∀ a b : Int,okc m a b=(fQ m.s.length a && decide (a ≠ b) && aW (spt m a.toNat)):=fun a b=>rfl
   have bad : dg m i=true -> nmR (fil (dg m) i)++[[D.int .i64 i]]=nmR (fil (dg m) (i + 1)) /\ nmR (fil (cj m) i)=nmR (fil (cj m) (i + 1)) /\ nmR (fil (bR m) i)=nmR (fil (bR m) (i + 1)) /\ nmR (fil (aO m) i)=nmR (fil (aO m) (i + 1)) /\ fil (ar m) (i + 1)=fil (ar m) i /\ bU m (i + 1)=bU m i /\ bX m (i + 1)=bX m i:=fun h=>by
    have h0 : okF m (fce m i)=false:=by rw [E] at h;simpa using h
    have h1 : ar m i=false:=by simp [ar,h0]
    exact ⟨iM h,eG (by simp [cj,h0]),eG (by simp [bR,h1]),eG (by simp [aO,h1]),j7 h1,by simp [bU,h1],by simp [bX,h1]⟩
   cases v
   rotate_left
   ·obtain ⟨e1,e2,e3,e4,e5,e6,e7⟩:=bad (by
     rw [E,E2,E3,E3,E3]
     revert hv
     cases fQ m.s.length (fce m i).a <;> cases aW (spt m (fce m i).a.toNat) <;> cases fQ m.s.length (fce m i).b <;> cases aW (spt m (fce m i).b.toNat) <;> cases fQ m.s.length (fce m i).c <;> cases aW (spt m (fce m i).c.toNat) <;> simp)
    simp [hw]
    refine ⟨by have:=aD (dg m) i;omega,i + 1,by omega,by omega,?_⟩
    simp [cT,ab,e1,<- e2,<- e3,<- e4,e5,e6,e7]
   by_cases c1 : (fce m i).a=(fce m i).b
   ·obtain ⟨e1,e2,e3,e4,e5,e6,e7⟩:=bad (by
     rw [E,E2,E3,E3,E3]
     rw [decide_eq_false (show ¬ (fce m i).a ≠ (fce m i).b by omega)];simp)
    simp [c1,hw]
    refine ⟨by have:=aD (dg m) i;omega,i + 1,by omega,by omega,?_⟩
    simp [cT,ab,e1,<- e2,<- e3,<- e4,e5,e6,e7]
   by_cases c2 : (fce m i).b=(fce m i).c
   ·obtain ⟨e1,e2,e3,e4,e5,e6,e7⟩:=bad (by
     rw [E,E2,E3,E3,E3]
     rw [decide_eq_false (show ¬ (fce m i).b ≠ (fce m i).c by omega)];simp)
    simp [(show ¬ (fce m i).a=(fce m i).c by rw [<- c2];exact c1),c2,hw]
    refine ⟨by have:=aD (dg m) i;omega,i + 1,by omega,by omega,?_⟩
    simp [cT,ab,e1,<- e2,<- e3,<- e4,e5,e6,e7]
   by_cases c3 : (fce m i).c=(fce m i).a
   ·obtain ⟨e1,e2,e3,e4,e5,e6,e7⟩:=bad (by
     rw [E,E2,E3,E3,E3]
     rw [decide_eq_false (show ¬ (fce m i).c ≠ (fce m i).a by omega)];simp)
    simp [c1,c2,hw]
    refine al (fun _=>?_) (fun h=>by simp [c3] at h)
    simp [hw]
    refine ⟨by have:=aD (dg m) i;omega,i + 1,by omega,by omega,?_⟩
    simp [cT,ab,e1,<- e2,<- e3,<- e4,e5,e6,e7]
   have c3' : ¬ (fce m i).a=(fce m i).c:=fun h=>c3 h.symm
   by_cases c4 : (fce m i).k < 0
   ·obtain ⟨e1,e2,e3,e4,e5,e6,e7⟩:=bad (by
     rw [E,E2,E3,E3,E3]
     rw [decide_eq_false (show ¬ 0 <= (fce m i).k by omega)];simp)
    simp [c1,c2,c3,c3',c4,hw]
    refine ⟨by have:=aD (dg m) i;omega,i + 1,by omega,by omega,?_⟩
    simp [cT,ab,e1,<- e2,<- e3,<- e4,e5,e6,e7]
   by_cases c5 : 16 <= (fce m i).k
   ·obtain ⟨e1,e2,e3,e4,e5,e6,e7⟩:=bad (by
     rw [E,E2,E3,E3,E3]
     rw [decide_eq_false (show ¬ (fce m i).k < 16 by omega)];simp)
    simp [c1,c2,c3,c3',c4,c5,hw]
    refine ⟨by have:=aD (dg m) i;omega,i + 1,by omega,by omega,?_⟩
    simp [cT,ab,e1,<- e2,<- e3,<- e4,e5,e6,e7]
   have ok : okF m (fce m i)=true:=by
    rw [E2,E3,E3,E3]
    simp only [Bool.and_eq_true,decide_eq_true_eq]
    have h:=hv.symm
    simp only [Bool.or_eq_false_iff,Bool.not_eq_false'] at h
    exact ⟨⟨⟨⟨⟨⟨h.1.1,c1⟩,h.1.2⟩,⟨h.2.1.1,c2⟩,h.2.1.2⟩,⟨h.2.2.1,c3⟩,h.2.2.2⟩,by omega⟩,by omega⟩
   have nbad : dg m i=false:=by rw [E,ok];rfl
   have b1:=eG nbad
   have hT:=cJ ok
   have kt:=Bj hC m (fce m i) (iN ok)
   have kn : C 308 [.agg (ptD (aQ m (fce m i)).1),.agg (ptD (aQ m (fce m i)).2.1),.agg (ptD (aQ m (fce m i)).2.2)] (.int .i64 (ni (aQ m (fce m i)))) []:=by
    have h:=hT
    simp only [okT,Bool.and_eq_true] at h
    exact rf hC h.1.1 h.1.2 h.2
   have ks:=fun k h=>xf hC (fce m i) k h
   have ks0:=ks 0 (by omega)
   have ks1:=ks 1 (by omega)
   have ks2:=ks 2 (by omega)
   have kg:=fun j=>qE m (crn (fce m i) j) (crn (fce m i) (j + 1)) i
   have kg : ∀ j,(dz (bU m i) (bX m i) (.agg [.int .i64 (crn (fce m i) j),.int .i64 (crn (fce m i) (j + 1))])).getD (.bool false)=.bool (ii m i j):=kg
   have kg0:=kg 0
   have kg1:=kg 1
   have kg2:=kg 2
   simp [c1,c2,c3,c3',c4,c5]
   simp only [ab,aP] at kt
   refine aa kt (.inl rfl) ?_
   simp [ci]
   simp only [ptD] at kn
   refine aa kn (.inl rfl) ?_
   simp
   refine al (fun d1=>?_) (fun d1=>?_) <;> simp at d1
   ·have hfl : cj m i=true:=by simp [cj,ok,d1]
    have hsn : ar m i=false:=by simp [ar,ok];omega
    have e1:=iM hfl
    have e2:=eG (p:=bR m) (n:=i) (by simp [bR,hsn])
    have e3:=eG (p:=aO m) (n:=i) (by simp [aO,hsn])
    have e5:=j7 hsn
    have e6 : bU m (i + 1)=bU m i:=by simp [bU,hsn]
    have e7 : bX m (i + 1)=bX m i:=by simp [bX,hsn]
    simp [d1,hw]
    refine ⟨by have:=aD (cj m) i;omega,i + 1,by omega,by omega,?_⟩
    simp [cT,ab,e1,<- e2,<- e3,<- b1,e5,e6,e7]
   ·have hfl : cj m i=false:=by simp [cj,ok];omega
    have hsn : ar m i=true:=by simp [ar,ok,d1]
    have b2:=eG hfl
    have hsd:=vb hsn
    simp only [aP] at ks ks0 ks1 ks2
    simp at ks0 ks1 ks2 kg0 kg1 kg2
    simp [Int.not_le.2 d1]
    refine aa ks0 (.inl rfl) ?_
    simp [kg0]
    have cb:=fun j=>Ak (iN ok) j
    have cb0:=cb 0
    have cb1:=cb 1
    have cb2:=cb 2
    have cb3:=cb 3
    refine ⟨⟨by omega,by omega⟩,?_⟩
    have yes : bR m i=true -> nmR (fil (bR m) i)++[[D.int .i64 i]]=nmR (fil (bR m) (i + 1)):=iM
    have nos : bR m i=false -> nmR (fil (bR m) i)=nmR (fil (bR m) (i + 1)):=eG
    have lsd:=aD (bR m) i
    have kT:=cP hC (b:=false) (xs:=(fil (ar m) i).map fun k=>aQ m (fce m k)) (g:=310) (cs:=[.ptr (ci (aQ m (fce m i)))]) (fun o=>ovT (aQ m (fce m i)) o) (by have:=aD (ar m) i;simp;omega) (fun x hx=>by
     obtain ⟨k,hk,rfl⟩:=List.mem_map.1 hx
     have hk:=(dP hk).2
     simp only [ar,Bool.and_eq_true] at hk
     exact ew hC hT (cJ hk.1))
    rw [<- eM,List.any_map] at kT
    have hov : (fil (ar m) i).any ((fun o=>ovT (aQ m (fce m i)) o) ∘ fun k=>aQ m (fce m k))=aO m i:=by
     rw [fil,List.any_filter,aO,hsn]
     rfl
    rw [hov] at kT
    rw [ct] at kT
    have tl:=cE m i
    have hml : maxLen=9223372036854775807:=rfl
    have e5:=dA hsn
    have e6 : bU m (i + 1)=sdK (fce m i) 3++bU m i:=by simp [bU,hsn]
    have e7 : bX m (i + 1)=.bool true::.bool true::.bool true::bX m i:=by
     rw [bX,if_pos hsn];rfl
    have e8 : (fil (ar m) (i + 1)).length=(fil (ar m) i).length + 1:=by rw [cx hsn];simp
    have l8:=aD (ar m) i
    have lov:=aD (aO m) i
    have kT:=cP hC (b:=false) (xs:=(fil (ar m) i).map fun k=>aQ m (fce m k)) (g:=310) (cs:=[.ptr (ci (aQ m (fce m i)))]) (fun o=>ovT (aQ m (fce m i)) o) (by have:=aD (ar m) i;simp;omega) (fun x hx=>by
     obtain ⟨k,hk,rfl⟩:=List.mem_map.1 hx
     have hk:=(dP hk).2
     simp only [ar,Bool.and_eq_true] at hk
     exact ew hC hT (cJ hk.1))
    rw [<- eM,List.any_map] at kT
    have hov : (fil (ar m) i).any ((fun o=>ovT (aQ m (fce m i)) o) ∘ fun k=>aQ m (fce m k))=aO m i:=by
     rw [fil,List.any_filter,aO,hsn]
     rfl
    rw [hov] at kT
    rw [ct] at kT
    have tl:=cE m i
    have hml : maxLen=9223372036854775807:=rfl
    have e5:=dA hsn
    have e6 : bU m (i + 1)=sdK (fce m i) 3++bU m i:=by simp [bU,hsn]
    have e7 : bX m (i + 1)=.bool true::.bool true::.bool true::bX m i:=by
     rw [bX,if_pos hsn];rfl
    have e8 : (fil (ar m) (i + 1)).length=(fil (ar m) i).length + 1:=by rw [cx hsn];simp
    have l8:=aD (ar m) i
    have lov:=aD (aO m) i
    have kT:=cP hC (b:=false) (xs:=(fil (ar m) i).map fun k=>aQ m (fce m k)) (g:=310) (cs:=[.ptr (ci (aQ m (fce m i)))]) (fun o=>ovT (aQ m (fce m i)) o) (by have:=aD (ar m) i;simp;omega) (fun x hx=>by
     obtain ⟨k,hk,rfl⟩:=List.mem_map.1 hx
     have hk:=(dP hk).2
     simp only [ar,Bool.and_eq_true] at hk
     exact ew hC hT (cJ hk.1))
    rw [<- eM,List.any_map] at kT
    have hov : (fil (ar m) i).any ((fun o=>ovT (aQ m (fce m i)) o) ∘ fun k=>aQ m (fce m k))=aO m i:=by
     rw [fil,List.any_filter,aO,hsn]
     rfl
    rw [hov] at kT
    rw [ct] at kT
    have tl:=cE m i
    have hml : maxLen=9223372036854775807:=rfl
    have e5:=dA hsn
    have e6 : bU m (i + 1)=sdK (fce m i) 3++bU m i:=by simp [bU,hsn]
    have e7 : bX m (i + 1)=.bool true::.bool true::.bool true::bX m i:=by
     rw [bX,if_pos hsn];rfl
    have e8 : (fil (ar m) (i + 1)).length=(fil (ar m) i).length + 1:=by rw [cx hsn];simp
    have l8:=aD (ar m) i
    have lov:=aD (aO m) i
    have kT:=cP hC (b:=false) (xs:=(fil (ar m) i).map fun k=>aQ m (fce m k)) (g:=310) (cs:=[.ptr (ci (aQ m (fce m i)))]) (fun o=>ovT (aQ m (fce m i)) o) (by have:=aD (ar m) i;simp;omega) (fun x hx=>by
     obtain ⟨k,hk,rfl⟩:=List.mem_map.1 hx
     have hk:=(dP hk).2
     simp only [ar,Bool.and_eq_true] at hk
     exact ew hC hT (cJ hk.1))
    rw [<- eM,List.any_map] at kT
    have hov : (fil (ar m) i).any ((fun o=>ovT (aQ m (fce m i)) o) ∘ fun k=>aQ m (fce m k))=aO m i:=by
     rw [fil,List.any_filter,aO,hsn]
     rfl
    rw [hov] at kT
    rw [ct] at kT
    have tl:=cE m i
    have hml : maxLen=9223372036854775807:=rfl
    have e5:=dA hsn
    have e6 : bU m (i + 1)=sdK (fce m i) 3++bU m i:=by simp [bU,hsn]
    have e7 : bX m (i + 1)=.bool true::.bool true::.bool true::bX m i:=by
     rw [bX,if_pos hsn];rfl
    have e8 : (fil (ar m) (i + 1)).length=(fil (ar m) i).length + 1:=by rw [cx hsn];simp
    have l8:=aD (ar m) i
    have lov:=aD (aO m) i
    have kT:=cP hC (b:=false) (xs:=(fil (ar m) i).map fun k=>aQ m (fce m k)) (g:=310) (cs:=[.ptr (ci (aQ m (fce m i)))]) (fun o=>ovT (aQ m (fce m i)) o) (by have:=aD (ar m) i;simp;omega) (fun x hx=>by
     obtain ⟨k,hk,rfl⟩:=List.mem_map.1 hx
     have hk:=(dP hk).2
     simp only [ar,Bool.and_eq_true] at hk
     exact ew hC hT (cJ hk.1))
    rw [<- eM,List.any_map] at kT
    have hov : (fil (ar m) i).any ((fun o=>ovT (aQ m (fce m i)) o) ∘ fun k=>aQ m (fce m k))=aO m i:=by
     rw [fil,List.any_filter,aO,hsn]
     rfl
    rw [hov] at kT
    rw [ct] at kT
    have tl:=cE m i
    have hml : maxLen=9223372036854775807:=rfl
    have e5:=dA hsn
    have e6 : bU m (i + 1)=sdK (fce m i) 3++bU m i:=by simp [bU,hsn]
    have e7 : bX m (i + 1)=.bool true::.bool true::.bool true::bX m i:=by
     rw [bX,if_pos hsn];rfl
    have e8 : (fil (ar m) (i + 1)).length=(fil (ar m) i).length + 1:=by rw [cx hsn];simp
    have l8:=aD (ar m) i
    have lov:=aD (aO m) i
    have kT:=cP hC (b:=false) (xs:=(fil (ar m) i).map fun k=>aQ m (fce m k)) (g:=310) (cs:=[.ptr (ci (aQ m (fce m i)))]) (fun o=>ovT (aQ m (fce m i)) o) (by have:=aD (ar m) i;simp;omega) (fun x hx=>by
     obtain ⟨k,hk,rfl⟩:=List.mem_map.1 hx
     have hk:=(dP hk).2
     simp only [ar,Bool.and_eq_true] at hk
     exact ew hC hT (cJ hk.1))
    rw [<- eM,List.any_map] at kT
    have hov : (fil (ar m) i).any ((fun o=>ovT (aQ m (fce m i)) o) ∘ fun k=>aQ m (fce m k))=aO m i:=by
     rw [fil,List.any_filter,aO,hsn]
     rfl
    rw [hov] at kT
    rw [ct] at kT
    have tl:=cE m i
    have hml : maxLen=9223372036854775807:=rfl
    have e5:=dA hsn
    have e6 : bU m (i + 1)=sdK (fce m i) 3++bU m i:=by simp [bU,hsn]
    have e7 : bX m (i + 1)=.bool true::.bool true::.bool true::bX m i:=by
     rw [bX,if_pos hsn];rfl
    have e8 : (fil (ar m) (i + 1)).length=(fil (ar m) i).length + 1:=by rw [cx hsn];simp
    have l8:=aD (ar m) i
    have lov:=aD (aO m) i
    have kT:=cP hC (b:=false) (xs:=(fil (ar m) i).map fun k=>aQ m (fce m k)) (g:=310) (cs:=[.ptr (ci (aQ m (fce m i)))]) (fun o=>ovT (aQ m (fce m i)) o) (by have:=aD (ar m) i;simp;omega) (fun x hx=>by
     obtain ⟨k,hk,rfl⟩:=List.mem_map.1 hx
     have hk:=(dP hk).2
     simp only [ar,Bool.and_eq_true] at hk
     exact ew hC hT (cJ hk.1))
    rw [<- eM,List.any_map] at kT
    have hov : (fil (ar m) i).any ((fun o=>ovT (aQ m (fce m i)) o) ∘ fun k=>aQ m (fce m k))=aO m i:=by
     rw [fil,List.any_filter,aO,hsn]
     rfl
    rw [hov] at kT
    rw [ct] at kT
    have tl:=cE m i
    have hml : maxLen=9223372036854775807:=rfl
    have e5:=dA hsn
    have e6 : bU m (i + 1)=sdK (fce m i) 3++bU m i:=by simp [bU,hsn]
    have e7 : bX m (i + 1)=.bool true::.bool true::.bool true::bX m i:=by
     rw [bX,if_pos hsn];rfl
    have e8 : (fil (ar m) (i + 1)).length=(fil (ar m) i).length + 1:=by rw [cx hsn];simp
    have l8:=aD (ar m) i
    have lov:=aD (aO m) i
    have kT:=cP hC (b:=false) (xs:=(fil (ar m) i).map fun k=>aQ m (fce m k)) (g:=310) (cs:=[.ptr (ci (aQ m (fce m i)))]) (fun o=>ovT (aQ m (fce m i)) o) (by have:=aD (ar m) i;simp;omega) (fun x hx=>by
     obtain ⟨k,hk,rfl⟩:=List.mem_map.1 hx
     have hk:=(dP hk).2
     simp only [ar,Bool.and_eq_true] at hk
     exact ew hC hT (cJ hk.1))
    rw [<- eM,List.any_map] at kT
    have hov : (fil (ar m) i).any ((fun o=>ovT (aQ m (fce m i)) o) ∘ fun k=>aQ m (fce m k))=aO m i:=by
     rw [fil,List.any_filter,aO,hsn]
     rfl
    rw [hov] at kT
    rw [ct] at kT
    have tl:=cE m i
    have hml : maxLen=9223372036854775807:=rfl
    have e5:=dA hsn
    have e6 : bU m (i + 1)=sdK (fce m i) 3++bU m i:=by simp [bU,hsn]
    have e7 : bX m (i + 1)=.bool true::.bool true::.bool true::bX m i:=by
     rw [bX,if_pos hsn];rfl
    have e8 : (fil (ar m) (i + 1)).length=(fil (ar m) i).length + 1:=by rw [cx hsn];simp
    have l8:=aD (ar m) i
    have lov:=aD (aO m) i
    have kT:=cP hC (b:=false) (xs:=(fil (ar m) i).map fun k=>aQ m (fce m k)) (g:=310) (cs:=[.ptr (ci (aQ m (fce m i)))]) (fun o=>ovT (aQ m (fce m i)) o) (by have:=aD (ar m) i;simp;omega) (fun x hx=>by
     obtain ⟨k,hk,rfl⟩:=List.mem_map.1 hx
     have hk:=(dP hk).2
     simp only [ar,Bool.and_eq_true] at hk
     exact ew hC hT (cJ hk.1))
    rw [<- eM,List.any_map] at kT
    have hov : (fil (ar m) i).any ((fun o=>ovT (aQ m (fce m i)) o) ∘ fun k=>aQ m (fce m k))=aO m i:=by
     rw [fil,List.any_filter,aO,hsn]
     rfl
    rw [hov] at kT
    rw [ct] at kT
    have tl:=cE m i
    have hml : maxLen=9223372036854775807:=rfl
    have e5:=dA hsn
    have e6 : bU m (i + 1)=sdK (fce m i) 3++bU m i:=by simp [bU,hsn]
    have e7 : bX m (i + 1)=.bool true::.bool true::.bool true::bX m i:=by
     rw [bX,if_pos hsn];rfl
    have e8 : (fil (ar m) (i + 1)).length=(fil (ar m) i).length + 1:=by rw [cx hsn];simp
    have l8:=aD (ar m) i
    have lov:=aD (aO m) i
    have kT:=cP hC (b:=false) (xs:=(fil (ar m) i).map fun k=>aQ m (fce m k)) (g:=310) (cs:=[.ptr (ci (aQ m (fce m i)))]) (fun o=>ovT (aQ m (fce m i)) o) (by have:=aD (ar m) i;simp;omega) (fun x hx=>by
     obtain ⟨k,hk,rfl⟩:=List.mem_map.1 hx
     have hk:=(dP hk).2
     simp only [ar,Bool.and_eq_true] at hk
     exact ew hC hT (cJ hk.1))
    rw [<- eM,List.any_map] at kT
    have hov : (fil (ar m) i).any ((fun o=>ovT (aQ m (fce m i)) o) ∘ fun k=>aQ m (fce m k))=aO m i:=by
     rw [fil,List.any_filter,aO,hsn]
     rfl
    rw [hov] at kT
    rw [ct] at kT
    have tl:=cE m i
    have hml : maxLen=9223372036854775807:=rfl
    have e5:=dA hsn
    have e6 : bU m (i + 1)=sdK (fce m i) 3++bU m i:=by simp [bU,hsn]
    have e7 : bX m (i + 1)=.bool true::.bool true::.bool true::bX m i:=by
     rw [bX,if_pos hsn];rfl
    have e8 : (fil (ar m) (i + 1)).length=(fil (ar m) i).length + 1:=by rw [cx hsn];simp
    have l8:=aD (ar m) i
    have lov:=aD (aO m) i
    have kT:=cP hC (b:=false) (xs:=(fil (ar m) i).map fun k=>aQ m (fce m k)) (g:=310) (cs:=[.ptr (ci (aQ m (fce m i)))]) (fun o=>ovT (aQ m (fce m i)) o) (by have:=aD (ar m) i;simp;omega) (fun x hx=>by
     obtain ⟨k,hk,rfl⟩:=List.mem_map.1 hx
     have hk:=(dP hk).2
     simp only [ar,Bool.and_eq_true] at hk
     exact ew hC hT (cJ hk.1))
    rw [<- eM,List.any_map] at kT
    have hov : (fil (ar m) i).any ((fun o=>ovT (aQ m (fce m i)) o) ∘ fun k=>aQ m (fce m k))=aO m i:=by
     rw [fil,List.any_filter,aO,hsn]
     rfl
    rw [hov] at kT
    rw [ct] at kT
    have tl:=cE m i
    have hml : maxLen=9223372036854775807:=rfl
    have e5:=dA hsn
    have e6 : bU m (i + 1)=sdK (fce m i) 3++bU m i:=by simp [bU,hsn]
    have e7 : bX m (i + 1)=.bool true::.bool true::.bool true::bX m i:=by
     rw [bX,if_pos hsn];rfl
    have e8 : (fil (ar m) (i + 1)).length=(fil (ar m) i).length + 1:=by rw [cx hsn];simp
    have l8:=aD (ar m) i
    have lov:=aD (aO m) i
    have kT:=cP hC (b:=false) (xs:=(fil (ar m) i).map fun k=>aQ m (fce m k)) (g:=310) (cs:=[.ptr (ci (aQ m (fce m i)))]) (fun o=>ovT (aQ m (fce m i)) o) (by have:=aD (ar m) i;simp;omega) (fun x hx=>by
     obtain ⟨k,hk,rfl⟩:=List.mem_map.1 hx
     have hk:=(dP hk).2
     simp only [ar,Bool.and_eq_true] at hk
     exact ew hC hT (cJ hk.1))
    rw [<- eM,List.any_map] at kT
    have hov : (fil (ar m) i).any ((fun o=>ovT (aQ m (fce m i)) o) ∘ fun k=>aQ m (fce m k))=aO m i:=by
     rw [fil,List.any_filter,aO,hsn]
     rfl
    rw [hov] at kT
    rw [ct] at kT
    have tl:=cE m i
    have hml : maxLen=9223372036854775807:=rfl
    have e5:=dA hsn
    have e6 : bU m (i + 1)=sdK (fce m i) 3++bU m i:=by simp [bU,hsn]
    have e7 : bX m (i + 1)=.bool true::.bool true::.bool true::bX m i:=by
     rw [bX,if_pos hsn];rfl
    have e8 : (fil (ar m) (i + 1)).length=(fil (ar m) i).length + 1:=by rw [cx hsn];simp
    have l8:=aD (ar m) i
    have lov:=aD (aO m) i
    rcases (by cases ii m i 0 <;> cases ii m i 1 <;> cases ii m i 2 <;> simp : ii m i 0=true \/ (ii m i 0=false /\ ii m i 1=true) \/ (ii m i 0=false /\ ii m i 1=false /\ ii m i 2=true) \/ (ii m i 0=false /\ ii m i 1=false /\ ii m i 2=false)) with h0 | ⟨h0,h1⟩ | ⟨h0,h1,h2⟩ | ⟨h0,h1,h2⟩
    have y:=yes (by rw [hsd,h0];rfl)
    simp [h0]
    refine ⟨by omega,?_⟩
    rw [y]
    refine au Nat (fun k=>ot m i k) (fun k=>k <= 3) (fun k=>3 - k) 0 (by simp) (by simp [fV,ab,aP,ci,sdK]) ?_
    rotate_left
    have y:=yes (by rw [hsd,h0,h1];rfl)
    simp [h0]
    refine aa ks1 (.inl rfl) ?_
    simp [kg1,h1]
    refine ⟨⟨by omega,by omega⟩,by omega,?_⟩
    rw [y]
    refine au Nat (fun k=>ot m i k) (fun k=>k <= 3) (fun k=>3 - k) 0 (by simp) (by simp [fV,ab,aP,ci,sdK]) ?_
    rotate_left
    have y:=yes (by rw [hsd,h0,h1,h2];rfl)
    simp [h0]
    refine aa ks1 (.inl rfl) ?_
    simp [kg1,h1]
    refine ⟨⟨by omega,by omega⟩,?_⟩
    refine aa ks2 (.inl rfl) ?_
    simp [kg2,h2]
    refine ⟨⟨by omega,by omega⟩,by omega,?_⟩
    rw [y]
    refine au Nat (fun k=>ot m i k) (fun k=>k <= 3) (fun k=>3 - k) 0 (by simp) (by simp [fV,ab,aP,ci,sdK]) ?_
    rotate_left
    have y:=nos (by rw [hsd,h0,h1,h2];rfl)
    simp [h0]
    refine aa ks1 (.inl rfl) ?_
    simp [kg1,h1]
    refine ⟨⟨by omega,by omega⟩,?_⟩
    refine aa ks2 (.inl rfl) ?_
    simp [kg2,h2]
    refine ⟨⟨by omega,by omega⟩,?_⟩
    rw [y]
    refine au Nat (fun k=>ot m i k) (fun k=>k <= 3) (fun k=>3 - k) 0 (by simp) (by simp [fV,ab,aP,ci,sdK]) ?_
    rotate_left
    all_goals
     clear y
     rintro k hk
     simp [fV,ab,aP,ci]
     refine al (fun g2=>?_) (fun g2=>?_) <;> simp at g2 <;> simp [g2]
     ·have hw2 : IntKind.wrap .i64 ((k : Int) + 1)=((k + 1 : Nat) : Int):=ae (by omega) (by omega)
      have ck:=cb k
      have ck1:=cb (k + 1)
      refine aa (ks k (by omega)) (.inl rfl) ?_
      simp [hw2,nV]
      refine ⟨by omega,⟨⟨by omega,by omega⟩,by omega,by omega⟩,k + 1,by omega,by omega,?_⟩
      simp [fV,ab,aP,ci,sdK,List.replicate_succ]
     ·have hk3 : k=3:=by omega
      subst hk3
      simp only [ci] at kT
      simp
      refine aa kT (.inl rfl) ?_
      simp
      simp only [ci] at e5
      cases hov2 : aO m i
      ·have e9:=eG hov2
       simp [hw]
       refine ⟨by omega,i + 1,by omega,by omega,?_⟩
       simp [cT,ab,<- b1,<- b2,<- e9,e5,e6,e7,e8]
      ·have e9:=iM hov2
       simp [hw]
       refine ⟨by omega,by omega,i + 1,by omega,by omega,?_⟩
       simp [cT,ab,<- b1,<- b2,e9,e5,e6,e7,e8]
  ·have hi2 : i=m.f.length:=by omega
   subst hi2
   have bd : ∀ (p : Nat -> Bool) (n : Nat),n <= 100 -> (fil p n).length <= 100 /\ ∀ x ∈ fil p n,x < 100:=fun p n hn=>⟨by have:=aD p n;omega,fun x hx=>by have:=(dP hx).1;omega⟩
   have q1:=bd (cO m) _ hs
   have q2:=bd (bO m) _ hs
   have q3:=bd (dg m) _ hf
   have q4:=bd (cj m) _ hf
   have q5:=bd (bR m) _ hf
   have q6:=bd (aO m) _ hf
   have hLL : LL m=[[],fil (cO m) m.s.length,fil (bO m) m.s.length,fil (dg m) m.f.length,fil (cj m) m.f.length,fil (bR m) m.f.length,fil (aO m) m.f.length]:=rfl
   rw [hLL]
   clear hLL bd
   generalize fil (cO m) m.s.length=L1 at *
   generalize fil (bO m) m.s.length=L2 at *
   generalize fil (dg m) m.f.length=L3 at *
   generalize fil (cj m) m.f.length=L4 at *
   generalize fil (bR m) m.f.length=L5 at *
   generalize fil (aO m) m.f.length=L6 at *
   obtain ⟨AG,hAG⟩ : ∃ x,x=E0 L1 L2 L3 L4 L5 L6:=⟨_,rfl⟩
   obtain ⟨BK,hBK⟩ : ∃ x,x=Fb L1 L2 L3 L4 L5 L6:=⟨_,rfl⟩
   obtain ⟨U,hU⟩ : ∃ U : Nat -> List (Int × List UInt8),U=fun k=>co dec 0 (([([] : List Nat),L1,L2,L3,L4,L5,L6]).take k):=⟨_,rfl⟩
   have hU7 : U 7=co dec 0 [[],L1,L2,L3,L4,L5,L6]:=by rw [hU];rfl
   have hU0 : U 0=[]:=by rw [hU];rfl
   have bdU : ∀ k (L : List Nat),L.length <= 100 -> (U k).length <= 100 * k -> (U k++L.map fun i=>((k : Int),dec i)).length <= 100 * (k + 1):=fun k L h1 h2=>by simp;omega
   have hU0s : U 1=U 0++(([] : List Nat)).map fun i=>((0 : Int),dec i):=by
    rw [hU];show co dec 0 (([([] : List Nat),L1,L2,L3,L4,L5,L6]).take 0++[([] : List Nat)])=_
    rw [cp];simp [co]
   have hU1s : U 2=U 1++(L1).map fun i=>((1 : Int),dec i):=by
    rw [hU];show co dec 0 (([([] : List Nat),L1,L2,L3,L4,L5,L6]).take 1++[L1])=_
    rw [cp];simp [co]
   have hU2s : U 3=U 2++(L2).map fun i=>((2 : Int),dec i):=by
    rw [hU];show co dec 0 (([([] : List Nat),L1,L2,L3,L4,L5,L6]).take 2++[L2])=_
    rw [cp];simp [co]
   have hU3s : U 4=U 3++(L3).map fun i=>((3 : Int),dec i):=by
    rw [hU];show co dec 0 (([([] : List Nat),L1,L2,L3,L4,L5,L6]).take 3++[L3])=_
    rw [cp];simp [co]
   have hU4s : U 5=U 4++(L4).map fun i=>((4 : Int),dec i):=by
    rw [hU];show co dec 0 (([([] : List Nat),L1,L2,L3,L4,L5,L6]).take 4++[L4])=_
    rw [cp];simp [co]
   have hU5s : U 6=U 5++(L5).map fun i=>((5 : Int),dec i):=by
    rw [hU];show co dec 0 (([([] : List Nat),L1,L2,L3,L4,L5,L6]).take 5++[L5])=_
    rw [cp];simp [co]
   have hU6s : U 7=U 6++(L6).map fun i=>((6 : Int),dec i):=by
    rw [hU];show co dec 0 (([([] : List Nat),L1,L2,L3,L4,L5,L6]).take 6++[L6])=_
    rw [cp];simp [co]
   have lU0 : (U 0).length <= 0:=by rw [hU0];simp
   have lU1 : (U 1).length <= 100:=by rw [hU0s];simp;omega
   have lU2 : (U 2).length <= 200:=by rw [hU1s];simp;omega
   have lU3 : (U 3).length <= 300:=by rw [hU2s];simp;omega
   have lU4 : (U 4).length <= 400:=by rw [hU3s];simp;omega
   have lU5 : (U 5).length <= 500:=by rw [hU4s];simp;omega
   have lU6 : (U 6).length <= 600:=by rw [hU5s];simp;omega
   rw [<- hU7]
   refine au Nat (fun k=>[(17,.ref (.r 10272) 0 (U k).length),(10272,.blk 2 (fnR (U k))),(181,AG),(182,.int .i64 k),(10064,BK)]) (fun k=>k <= 7) (fun k=>7 - k) 0 (by simp) (by simp [hU0,hAG,hBK,aH,aX]) ?_
   rintro k hk
   rcases (by omega : k=0 \/ k=1 \/ k=2 \/ k=3 \/ k=4 \/ k=5 \/ k=6 \/ k=7) with rfl | rfl | rfl | rfl | rfl | rfl | rfl | rfl
   ·simp [hAG,aH]
    refine au Nat (fun j=>[(17,.ref (.r 10272) 0 ((U 0).length + j)),(10272,.blk 2 (fnR (U 0++tkD dec 0 ([] : List Nat) j))),(18,.int .i64 0),(181,AG),(182,.int .i64 0),(186,.ref (.n 10064 0 0) 0 (([] : List Nat)).length),(187,.int .i64 (([] : List Nat)).length),(188,.int .i64 j),(10064,BK)]) (fun j=>j <= (([] : List Nat)).length) (fun j=>(([] : List Nat)).length - j) 0 (by simp) (by simp [hAG,hBK,aH,aX,fu]) ?_
    rintro j hj
    simp [hAG,hBK,aH,aX]
    have hj0 : j=0:=by simpa using hj
    subst hj0
    simp [bG,hAG,hBK,aH,aX]
    refine ⟨1,by omega,by omega,?_⟩
    rw [hU0s]
    simp [tkD]
   ·simp [hAG,aH]
    refine au Nat (fun j=>[(17,.ref (.r 10272) 0 ((U 1).length + j)),(10272,.blk 2 (fnR (U 1++tkD dec 1 L1 j))),(18,.int .i64 1),(181,AG),(182,.int .i64 1),(186,.ref (.n 10064 0 1) 0 (L1).length),(187,.int .i64 (L1).length),(188,.int .i64 j),(10064,BK)]) (fun j=>j <= (L1).length) (fun j=>(L1).length - j) 0 (by simp) (by simp [hAG,hBK,aH,aX,fu]) ?_
    rintro j hj
    simp [hAG,hBK,aH,aX]
    refine al (fun g3=>?_) (fun g3=>?_) <;> simp at g3 <;> simp [g3,hAG,hBK,aH,aX]
    ·have hj2 : j < L1.length:=by omega
     have hw3 : IntKind.wrap .i64 ((j : Int) + 1)=((j + 1 : Nat) : Int):=ae (by omega) (by omega)
     have hi:=hI (L1[j]) (q1.2 _ (List.getElem_mem hj2))
     have ht:=gh dec 1 L1 hj2
     have hl:=iV dec 1 L1 (Nat.le_of_lt hj2)
     rw [eF L1]
     try simp [hj2]
     refine aa hi (.inl rfl) ?_
     simp
     refine ⟨by omega,by omega,j + 1,by omega,by omega,by omega,?_,?_,hw3,?_⟩
     ·have e : (U 1).length + j=(U 1++tkD dec 1 L1 j).length:=by simp [hl]
      rw [e,fZ,gz,ht,List.append_assoc]
     ·rw [hAG,aH]
     ·rw [hBK,aX];simp only [eF]
    ·have hj2 : j=L1.length:=by omega
     subst hj2
     refine ⟨2,by omega,by omega,?_⟩
     rw [hU1s,iU]
     simp [hAG,hBK,aH,aX]
     decide
   ·simp [hAG,aH]
    refine au Nat (fun j=>[(17,.ref (.r 10272) 0 ((U 2).length + j)),(10272,.blk 2 (fnR (U 2++tkD dec 2 L2 j))),(18,.int .i64 2),(181,AG),(182,.int .i64 2),(186,.ref (.n 10064 0 2) 0 (L2).length),(187,.int .i64 (L2).length),(188,.int .i64 j),(10064,BK)]) (fun j=>j <= (L2).length) (fun j=>(L2).length - j) 0 (by simp) (by simp [hAG,hBK,aH,aX,fu]) ?_
    rintro j hj
    simp [hAG,hBK,aH,aX]
    refine al (fun g3=>?_) (fun g3=>?_) <;> simp at g3 <;> simp [g3,hAG,hBK,aH,aX]
    ·have hj2 : j < L2.length:=by omega
     have hw3 : IntKind.wrap .i64 ((j : Int) + 1)=((j + 1 : Nat) : Int):=ae (by omega) (by omega)
     have hi:=hI (L2[j]) (q2.2 _ (List.getElem_mem hj2))
     have ht:=gh dec 2 L2 hj2
     have hl:=iV dec 2 L2 (Nat.le_of_lt hj2)
     rw [eF L2]
     try simp [hj2]
     refine aa hi (.inl rfl) ?_
     simp
     refine ⟨by omega,by omega,j + 1,by omega,by omega,by omega,?_,?_,hw3,?_⟩
     ·have e : (U 2).length + j=(U 2++tkD dec 2 L2 j).length:=by simp [hl]
      rw [e,fZ,gz,ht,List.append_assoc]
     ·rw [hAG,aH]
     ·rw [hBK,aX];simp only [eF]
    ·have hj2 : j=L2.length:=by omega
     subst hj2
     refine ⟨3,by omega,by omega,?_⟩
     rw [hU2s,iU]
     simp [hAG,hBK,aH,aX]
     decide
   ·simp [hAG,aH]
    refine au Nat (fun j=>[(17,.ref (.r 10272) 0 ((U 3).length + j)),(10272,.blk 2 (fnR (U 3++tkD dec 3 L3 j))),(18,.int .i64 3),(181,AG),(182,.int .i64 3),(186,.ref (.n 10064 0 3) 0 (L3).length),(187,.int .i64 (L3).length),(188,.int .i64 j),(10064,BK)]) (fun j=>j <= (L3).length) (fun j=>(L3).length - j) 0 (by simp) (by simp [hAG,hBK,aH,aX,fu]) ?_
    rintro j hj
    simp [hAG,hBK,aH,aX]
    refine al (fun g3=>?_) (fun g3=>?_) <;> simp at g3 <;> simp [g3,hAG,hBK,aH,aX]
    ·have hj2 : j < L3.length:=by omega
     have hw3 : IntKind.wrap .i64 ((j : Int) + 1)=((j + 1 : Nat) : Int):=ae (by omega) (by omega)
     have hi:=hI (L3[j]) (q3.2 _ (List.getElem_mem hj2))
     have ht:=gh dec 3 L3 hj2
     have hl:=iV dec 3 L3 (Nat.le_of_lt hj2)
     rw [eF L3]
     try simp [hj2]
     refine aa hi (.inl rfl) ?_
     simp
     refine ⟨by omega,by omega,j + 1,by omega,by omega,by omega,?_,?_,hw3,?_⟩
     ·have e : (U 3).length + j=(U 3++tkD dec 3 L3 j).length:=by simp [hl]
      rw [e,fZ,gz,ht,List.append_assoc]
     ·rw [hAG,aH]
     ·rw [hBK,aX];simp only [eF]
    ·have hj2 : j=L3.length:=by omega
     subst hj2
     refine ⟨4,by omega,by omega,?_⟩
     rw [hU3s,iU]
     simp [hAG,hBK,aH,aX]
     decide
   ·simp [hAG,aH]
    refine au Nat (fun j=>[(17,.ref (.r 10272) 0 ((U 4).length + j)),(10272,.blk 2 (fnR (U 4++tkD dec 4 L4 j))),(18,.int .i64 4),(181,AG),(182,.int .i64 4),(186,.ref (.n 10064 0 4) 0 (L4).length),(187,.int .i64 (L4).length),(188,.int .i64 j),(10064,BK)]) (fun j=>j <= (L4).length) (fun j=>(L4).length - j) 0 (by simp) (by simp [hAG,hBK,aH,aX,fu]) ?_
    rintro j hj
    simp [hAG,hBK,aH,aX]
    refine al (fun g3=>?_) (fun g3=>?_) <;> simp at g3 <;> simp [g3,hAG,hBK,aH,aX]
    ·have hj2 : j < L4.length:=by omega
     have hw3 : IntKind.wrap .i64 ((j : Int) + 1)=((j + 1 : Nat) : Int):=ae (by omega) (by omega)
     have hi:=hI (L4[j]) (q4.2 _ (List.getElem_mem hj2))
     have ht:=gh dec 4 L4 hj2
     have hl:=iV dec 4 L4 (Nat.le_of_lt hj2)
     rw [eF L4]
     try simp [hj2]
     refine aa hi (.inl rfl) ?_
     simp
     refine ⟨by omega,by omega,j + 1,by omega,by omega,by omega,?_,?_,hw3,?_⟩
     ·have e : (U 4).length + j=(U 4++tkD dec 4 L4 j).length:=by simp [hl]
      rw [e,fZ,gz,ht,List.append_assoc]
     ·rw [hAG,aH]
     ·rw [hBK,aX];simp only [eF]
    ·have hj2 : j=L4.length:=by omega
     subst hj2
     refine ⟨5,by omega,by omega,?_⟩
     rw [hU4s,iU]
     simp [hAG,hBK,aH,aX]
     decide
   ·simp [hAG,aH]
    refine au Nat (fun j=>[(17,.ref (.r 10272) 0 ((U 5).length + j)),(10272,.blk 2 (fnR (U 5++tkD dec 5 L5 j))),(18,.int .i64 5),(181,AG),(182,.int .i64 5),(186,.ref (.n 10064 0 5) 0 (L5).length),(187,.int .i64 (L5).length),(188,.int .i64 j),(10064,BK)]) (fun j=>j <= (L5).length) (fun j=>(L5).length - j) 0 (by simp) (by simp [hAG,hBK,aH,aX,fu]) ?_
    rintro j hj
    simp [hAG,hBK,aH,aX]
    refine al (fun g3=>?_) (fun g3=>?_) <;> simp at g3 <;> simp [g3,hAG,hBK,aH,aX]
    ·have hj2 : j < L5.length:=by omega
     have hw3 : IntKind.wrap .i64 ((j : Int) + 1)=((j + 1 : Nat) : Int):=ae (by omega) (by omega)
     have hi:=hI (L5[j]) (q5.2 _ (List.getElem_mem hj2))
     have ht:=gh dec 5 L5 hj2
     have hl:=iV dec 5 L5 (Nat.le_of_lt hj2)
     rw [eF L5]
     try simp [hj2]
     refine aa hi (.inl rfl) ?_
     simp
     refine ⟨by omega,by omega,j + 1,by omega,by omega,by omega,?_,?_,hw3,?_⟩
     ·have e : (U 5).length + j=(U 5++tkD dec 5 L5 j).length:=by simp [hl]
      rw [e,fZ,gz,ht,List.append_assoc]
     ·rw [hAG,aH]
     ·rw [hBK,aX];simp only [eF]
    ·have hj2 : j=L5.length:=by omega
     subst hj2
     refine ⟨6,by omega,by omega,?_⟩
     rw [hU5s,iU]
     simp [hAG,hBK,aH,aX]
     decide
   ·simp [hAG,aH]
    refine au Nat (fun j=>[(17,.ref (.r 10272) 0 ((U 6).length + j)),(10272,.blk 2 (fnR (U 6++tkD dec 6 L6 j))),(18,.int .i64 6),(181,AG),(182,.int .i64 6),(186,.ref (.n 10064 0 6) 0 (L6).length),(187,.int .i64 (L6).length),(188,.int .i64 j),(10064,BK)]) (fun j=>j <= (L6).length) (fun j=>(L6).length - j) 0 (by simp) (by simp [hAG,hBK,aH,aX,fu]) ?_
    rintro j hj
    simp [hAG,hBK,aH,aX]
    refine al (fun g3=>?_) (fun g3=>?_) <;> simp at g3 <;> simp [g3,hAG,hBK,aH,aX]
    ·have hj2 : j < L6.length:=by omega
     have hw3 : IntKind.wrap .i64 ((j : Int) + 1)=((j + 1 : Nat) : Int):=ae (by omega) (by omega)
     have hi:=hI (L6[j]) (q6.2 _ (List.getElem_mem hj2))
     have ht:=gh dec 6 L6 hj2
     have hl:=iV dec 6 L6 (Nat.le_of_lt hj2)
     rw [eF L6]
     try simp [hj2]
     refine aa hi (.inl rfl) ?_
     simp
     refine ⟨by omega,by omega,j + 1,by omega,by omega,by omega,?_,?_,hw3,?_⟩
     ·have e : (U 6).length + j=(U 6++tkD dec 6 L6 j).length:=by simp [hl]
      rw [e,fZ,gz,ht,List.append_assoc]
     ·rw [hAG,aH]
     ·rw [hBK,aX];simp only [eF]
    ·have hj2 : j=L6.length:=by omega
     subst hj2
     refine ⟨7,by omega,by omega,?_⟩
     rw [hU6s,iU]
     simp [hAG,hBK,aH,aX]
     decide
   ·simp [hAG,aH]
    rfl
end Go.Gv

namespace Go.Gv
theorem dM {m : Msh} (h : aF m=true) : m.s.length <= 2000 /\ m.f.length <= 4000:=by
 simp only [aF,bW,Bool.and_eq_true,decide_eq_true_eq] at h
 exact h.1
theorem mq {m : Msh} (h : aF m=true) : ∀ l ∈ LL m,l=[]:=by
 simp only [aF,Bool.and_eq_true,List.all_eq_true,decide_eq_true_eq] at h
 exact h.2
theorem n8 {m : Msh} (h : aF m=true) {i : Nat} (hi : i < m.s.length) : aW (spt m i)=true:=by
 have:=nE.1 (mq h (fil (cO m) m.s.length) (by simp [LL])) i hi
 simpa [cO] using this
theorem ly {m : Msh} (h : aF m=true) {i : Nat} (hi : i < m.f.length) : okF m (fce m i)=true /\ 0 < ni (aQ m (fce m i)):=by
 have h1:=nE.1 (mq h (fil (dg m) m.f.length) (by simp [LL])) i hi
 have h2:=nE.1 (mq h (fil (cj m) m.f.length) (by simp [LL])) i hi
 have h3 : okF m (fce m i)=true:=by simpa [dg] using h1
 refine ⟨h3,?_⟩
 simp [cj,h3] at h2
 omega
theorem gi {m : Msh} (h : aF m=true) {i : Nat} (hi : i < m.f.length) : inS m (fce m i)=true:=iN (ly h hi).1
def Ge (f : Fce) (a b : Int) : Bool:=(List.range 3).any fun j=>decide (crn f j=a) && decide (crn f (j + 1)=b)
def rq (m : Msh) (a b : Int) : Int:=jC (fun f=>Ge f a b) m.f
def nbF (m : Msh) (i k : Nat) : Int:=rq m (crn (fce m i) (k + 1)) (crn (fce m i) k)
def HO (p : Nat -> Bool) : Nat -> Option Nat
 | 0=>none
 | i + 1=>if p i then some i else HO p i
def uE (m : Msh) : Nat -> List D
 | 0=>[]
 | i + 1=>sdK (fce m i) 3++uE m i
def uF (m : Msh) : Nat -> List D
 | 0=>[]
 | i + 1=>List.replicate 3 (.int .i64 i)++uF m i
def nbC (m : Msh) (i k j c : Nat) : Int:=if j < i \/ (j=i /\ c < k) then nbF m j c else 0
def nbR (m : Msh) (i k : Nat) : List (List D):=(List.range m.f.length).map fun j=>[.int .i64 (nbC m i k j 0),.int .i64 (nbC m i k j 1),.int .i64 (nbC m i k j 2)]
def nbA (m : Msh) : List (List D):=(List.range m.f.length).map fun j=>[.int .i64 (nbF m j 0),.int .i64 (nbF m j 1),.int .i64 (nbF m j 2)]
@[simp] theorem Nc (m : Msh) (i k : Nat) : (nbR m i k).length=m.f.length:=by simp [nbR]
@[simp] theorem Ik (m : Msh) (i k : Nat) : List.take m.f.length (nbR m i k)=nbR m i k:=List.take_of_length_le (by simp)
@[simp] theorem O9 (m : Msh) (i k : Nat) : List.map (fun e=>List.map aR e) (nbR m i k)=nbR m i k:=by simp [nbR]
variable {C : CC} (hC : aA prog C)
include hC
theorem sY (m : Msh) (h : bW m=false) : C 273 [.agg (aY m)] (.tup [.nils,.int .i64 4]) []:=by
 have ksm:=o7 hC m
 rw [show (decide (m.s.length <= 2000) && decide (m.f.length <= 4000))=false from h] at ksm
 refine start hC (nf:=N273) rfl rfl ?_
 simp only [ab] at ksm
 simp [N273,ab]
 refine aa ksm (.inl rfl) ?_
 simp
theorem oZ (dec : Nat -> List UInt8) (hI : ∀ n : Nat,n < 100 -> C 127 [.int .i64 n] (.str (dec n)) []) (m : Msh) (hz : bW m=true -> m.s.length <= 100 /\ m.f.length <= 100) : C 234 [.agg (aY m)] (.bool (aF m)) []:=by
 cases hs : bW m
 ·have k:=sY hC m hs
  refine start hC (nf:=N234) rfl rfl ?_
  simp only [ab] at k
  simp [N234,ab]
  refine aa k (.inr rfl) ?_
  simp [aF,hs]
 ·obtain ⟨h1,h2⟩:=hz hs
  have k:=vO hC dec hI m h1 h2
  have e : aF m=decide ((co dec 0 (LL m)).length=0):=by
   rw [aF,hs,Bool.true_and,Bool.eq_iff_iff,decide_eq_true_eq,List.length_eq_zero_iff,lX]
  obtain ⟨X,hX⟩ : ∃ X,X=co dec 0 (LL m):=⟨_,rfl⟩
  rw [e]
  rw [<- hX] at k ⊢
  refine start hC (nf:=N234) rfl rfl ?_
  simp only [ab] at k
  simp [N234,ab]
  refine aa k (.inr rfl) ?_
  simp
end Go.Gv

namespace Go.Gv
section
variable {C : CC} {hs : Option (List Nat)} {K : Env -> Prop} {ns : List aq} {dst : Option Nat} {u : Tag (hs,K,ns)} {e : Env} {R : List Nat} {acc : List (List Nat × List Nat)}
@[simp] theorem Gn {sz : Nat} {c0 c1 c2 c3 c4 c5 : List D} {es : List (List D)} : iZ C hs K ns dst u e R acc sz (c0::c1::c2::c3::c4::c5::es) 5=(c5.length=sz /\ dW C hs K ns dst ⟨⟩ e R acc (.ptr c5)):=cD rfl
@[simp] theorem I6 {n : Nat} {ag : Bool} {p : Pa} {off : Nat} {c0 c1 c2 c3 c4 c5 : List D} {es : List (List D)} : kD C hs K ns dst u e R acc n ag p (c0::c1::c2::c3::c4::c5::es) 5 off=(off + n <= c5.length /\ match ag with
    | true=>(((c5.drop off).take n).all isV=true -> dW C hs K ns dst ⟨⟩ e R acc (.agg ((c5.drop off).take n))) /\
      (((c5.drop off).take n).all isV=false -> dW C hs K ns dst ⟨⟩ e R acc (.agx (((c5.drop off).take n).mapIdx fun j c=>ldc p 5 (off + j) c)))
    | false=>dW C hs K ns dst ⟨⟩ e R acc (ldc p 5 off ((c5.drop off).headD .any))):=bB rfl
@[simp] theorem Gp {sz : Nat} {c0 c1 c2 c3 c4 c5 c6 : List D} {es : List (List D)} : iZ C hs K ns dst u e R acc sz (c0::c1::c2::c3::c4::c5::c6::es) 6=(c6.length=sz /\ dW C hs K ns dst ⟨⟩ e R acc (.ptr c6)):=cD rfl
@[simp] theorem I7 {n : Nat} {ag : Bool} {p : Pa} {off : Nat} {c0 c1 c2 c3 c4 c5 c6 : List D} {es : List (List D)} : kD C hs K ns dst u e R acc n ag p (c0::c1::c2::c3::c4::c5::c6::es) 6 off=(off + n <= c6.length /\ match ag with
    | true=>(((c6.drop off).take n).all isV=true -> dW C hs K ns dst ⟨⟩ e R acc (.agg ((c6.drop off).take n))) /\
      (((c6.drop off).take n).all isV=false -> dW C hs K ns dst ⟨⟩ e R acc (.agx (((c6.drop off).take n).mapIdx fun j c=>ldc p 6 (off + j) c)))
    | false=>dW C hs K ns dst ⟨⟩ e R acc (ldc p 6 off ((c6.drop off).headD .any))):=bB rfl
@[simp] theorem Gq {sz : Nat} {c0 c1 c2 c3 c4 c5 c6 c7 : List D} {es : List (List D)} : iZ C hs K ns dst u e R acc sz (c0::c1::c2::c3::c4::c5::c6::c7::es) 7=(c7.length=sz /\ dW C hs K ns dst ⟨⟩ e R acc (.ptr c7)):=cD rfl
@[simp] theorem I8 {n : Nat} {ag : Bool} {p : Pa} {off : Nat} {c0 c1 c2 c3 c4 c5 c6 c7 : List D} {es : List (List D)} : kD C hs K ns dst u e R acc n ag p (c0::c1::c2::c3::c4::c5::c6::c7::es) 7 off=(off + n <= c7.length /\ match ag with
    | true=>(((c7.drop off).take n).all isV=true -> dW C hs K ns dst ⟨⟩ e R acc (.agg ((c7.drop off).take n))) /\
      (((c7.drop off).take n).all isV=false -> dW C hs K ns dst ⟨⟩ e R acc (.agx (((c7.drop off).take n).mapIdx fun j c=>ldc p 7 (off + j) c)))
    | false=>dW C hs K ns dst ⟨⟩ e R acc (ldc p 7 off ((c7.drop off).headD .any))):=bB rfl
end
end Go.Gv

namespace Go.Gv
def fN (n : Nat) : List UInt8:=ny n []
def fdL (k : Int) (l : List Nat) : List (Int × List UInt8):=l.map fun i=>(k,fN i)
@[simp] theorem Kj (k : Int) (l : List Nat) : (fdL k l).length=l.length:=by simp [fdL]
def fdR (k : Int) (l : List Nat) : List (List D):=fnR (fdL k l)
@[simp] theorem Kl (k : Int) (l : List Nat) : (fdR k l).length=l.length:=by simp [fdR]
@[simp] theorem F5 (k : Int) (l : List Nat) : List.take l.length (fdR k l)=fdR k l:=List.take_of_length_le (by simp)
theorem gw {p : Nat -> Bool} {n : Nat} {k : Int} (h : p n=true) : fdR k (fil p n)++[[D.int .i64 k,.str (fN n)]]=fdR k (fil p (n + 1)):=by
 rw [cx h];simp [fdR,gz,fdL]
theorem dZ {p : Nat -> Bool} {n : Nat} {k : Int} (h : p n=false) : fdR k (fil p n)=fdR k (fil p (n + 1)):=by rw [j7 h]
@[simp] theorem Au (k : Int) (l : List Nat) : (∀ e ∈ fdR k l,∀ c ∈ e,aw c=true)=True:=by simp [fdR,fnR,fnD,fdL]
@[simp] theorem Kk (k : Int) (l : List Nat) (x : List D) : (∀ e,e ∈ fdR k l \/ e=x -> ∀ c,c ∈ e -> aw c=true)=∀ c,c ∈ x -> aw c=true:=by
 apply propext
 constructor
 ·exact fun h=>h x (.inr rfl)
 ·rintro h e (he | rfl)
  ·exact (Au k l).mpr trivial e he
  ·exact h
@[simp] theorem Km (k : Int) : fdR k []=[]:=rfl
def fcR (m : Msh) (l : List Nat) : List (List D):=l.map fun k=>bx (fce m k)
@[simp] theorem Kh (m : Msh) (l : List Nat) : (fcR m l).length=l.length:=by simp [fcR]
@[simp] theorem F4 (m : Msh) (l : List Nat) : List.take l.length (fcR m l)=fcR m l:=List.take_of_length_le (by simp)
@[simp] theorem Ki (m : Msh) : fcR m []=[]:=rfl
theorem wP {m : Msh} {i : Nat} (h : ar m i=true) : fcR m (fil (ar m) i)++[bx (fce m i)]=fcR m (fil (ar m) (i + 1)):=by rw [cx h];simp [fcR]
theorem ia (m : Msh) (l : List Nat) : fcR m l=l.map fun k=>bx (fce m k):=rfl
def jY (p : Nat -> Bool) (l : List Nat) (k : Nat) : Bool:=(l.take k).any p
theorem rJ (p : Nat -> Bool) (l : List Nat) : jY p l 0=false:=by simp [jY]
theorem mG (p : Nat -> Bool) {l : List Nat} {k : Nat} (h : k < l.length) : jY p l (k + 1)=(jY p l k || p l[k]):=by
 unfold jY
 rw [List.take_add_one,List.getElem?_eq_getElem h,List.any_append]
 simp
theorem og (p : Nat -> Bool) (l : List Nat) : jY p l l.length=l.any p:=by simp [jY]
def shP (m : Msh) (i k : Nat) : Bool:=kE (fce m i) (fce m k)
def ovP (m : Msh) (i k : Nat) : Bool:=ovT (aQ m (fce m i)) (aQ m (fce m k))
theorem sF {m : Msh} {i : Nat} (h : ar m i=true) : bR m i=(fil (ar m) i).any (shP m i):=by
 rw [fil,List.any_filter,bR,h];rfl
theorem sy {m : Msh} {i : Nat} (h : ar m i=true) : aO m i=(fil (ar m) i).any (ovP m i):=by
 rw [fil,List.any_filter,aO,h];rfl
def I4 (m : Msh) (i k : Nat) : Env:=[(1,.ptr (aY m)),(3,.ref (.r 10048) 0 7),(10048,.blk 1 [[.own 2 []],[.own 2 (fdR 1 (fil (cO m) m.s.length))],[.own 2 (fdR 2 (fil (bO m) m.s.length))],[.own 2 (fdR 3 (fil (dg m) i))],[.own 2 (fdR 4 (fil (cj m) i))],[.own 2 (fdR 5 (fil (bR m) i))],[.own 2 (fdR 6 (fil (aO m) i))]]),(7,.ref (.r 10112) 0 (fil (ar m) i).length),(10112,.blk 4 (fcR m (fil (ar m) i))),(8,.int .i64 i),(9,.adr (.r 10144) 0 0),(10144,.blk 4 [bx (fce m i)]),(10,.bool (jY (shP m i) (fil (ar m) i) k)),(11,.bool (jY (ovP m i) (fil (ar m) i) k)),(12,.int .i64 k)]
theorem iQ (m : Msh) (i k : Nat) : I4 m i k=[(1,.ptr (aY m)),(3,.ref (.r 10048) 0 7),(10048,.blk 1 [[.own 2 []],[.own 2 (fdR 1 (fil (cO m) m.s.length))],[.own 2 (fdR 2 (fil (bO m) m.s.length))],[.own 2 (fdR 3 (fil (dg m) i))],[.own 2 (fdR 4 (fil (cj m) i))],[.own 2 (fdR 5 (fil (bR m) i))],[.own 2 (fdR 6 (fil (aO m) i))]]),(7,.ref (.r 10112) 0 (fil (ar m) i).length),(10112,.blk 4 (fcR m (fil (ar m) i))),(8,.int .i64 i),(9,.adr (.r 10144) 0 0),(10144,.blk 4 [bx (fce m i)]),(10,.bool (jY (shP m i) (fil (ar m) i) k)),(11,.bool (jY (ovP m i) (fil (ar m) i) k)),(12,.int .i64 k)]:=_root_.id rfl
def IZ (m : Msh) (i : Nat) : Env:=[(1,.ptr (aY m)),(3,.ref (.r 10048) 0 7),(10048,.blk 1 [[.own 2 []],[.own 2 (fdR 1 (fil (cO m) i))],[.own 2 (fdR 2 (fil (bO m) i))],[.own 2 []],[.own 2 []],[.own 2 []],[.own 2 []]]),(4,.int .i64 i)]
theorem jN (m : Msh) (i : Nat) : IZ m i=[(1,.ptr (aY m)),(3,.ref (.r 10048) 0 7),(10048,.blk 1 [[.own 2 []],[.own 2 (fdR 1 (fil (cO m) i))],[.own 2 (fdR 2 (fil (bO m) i))],[.own 2 []],[.own 2 []],[.own 2 []],[.own 2 []]]),(4,.int .i64 i)]:=_root_.id rfl
def I0 (m : Msh) (i k : Nat) : Env:=[(1,.ptr (aY m)),(3,.ref (.r 10048) 0 7),(10048,.blk 1 [[.own 2 []],[.own 2 (fdR 1 (fil (cO m) i))],[.own 2 (fdR 2 (fil (bO m) i))],[.own 2 []],[.own 2 []],[.own 2 []],[.own 2 []]]),(4,.int .i64 i),(5,.adr (.r 10080) 0 0),(10080,.blk 3 [ft (spt m i)]),(6,.int .i64 k)]
theorem lu (m : Msh) (i k : Nat) : I0 m i k=[(1,.ptr (aY m)),(3,.ref (.r 10048) 0 7),(10048,.blk 1 [[.own 2 []],[.own 2 (fdR 1 (fil (cO m) i))],[.own 2 (fdR 2 (fil (bO m) i))],[.own 2 []],[.own 2 []],[.own 2 []],[.own 2 []]]),(4,.int .i64 i),(5,.adr (.r 10080) 0 0),(10080,.blk 3 [ft (spt m i)]),(6,.int .i64 k)]:=_root_.id rfl
def I2 (m : Msh) (i : Nat) : Env:=[(1,.ptr (aY m)),(3,.ref (.r 10048) 0 7),(10048,.blk 1 [[.own 2 []],[.own 2 (fdR 1 (fil (cO m) m.s.length))],[.own 2 (fdR 2 (fil (bO m) m.s.length))],[.own 2 (fdR 3 (fil (dg m) i))],[.own 2 (fdR 4 (fil (cj m) i))],[.own 2 (fdR 5 (fil (bR m) i))],[.own 2 (fdR 6 (fil (aO m) i))]]),(7,.ref (.r 10112) 0 (fil (ar m) i).length),(10112,.blk 4 (fcR m (fil (ar m) i))),(8,.int .i64 i)]
theorem fH (m : Msh) (i : Nat) : I2 m i=[(1,.ptr (aY m)),(3,.ref (.r 10048) 0 7),(10048,.blk 1 [[.own 2 []],[.own 2 (fdR 1 (fil (cO m) m.s.length))],[.own 2 (fdR 2 (fil (bO m) m.s.length))],[.own 2 (fdR 3 (fil (dg m) i))],[.own 2 (fdR 4 (fil (cj m) i))],[.own 2 (fdR 5 (fil (bR m) i))],[.own 2 (fdR 6 (fil (aO m) i))]]),(7,.ref (.r 10112) 0 (fil (ar m) i).length),(10112,.blk 4 (fcR m (fil (ar m) i))),(8,.int .i64 i)]:=_root_.id rfl
variable {C : CC} (hC : aA prog C)
include hC
set_option maxRecDepth 4000 in
set_option maxHeartbeats 4000000 in
theorem uQ (m : Msh) (hs : m.s.length <= 100) (hf : m.f.length <= 100) : C 258 [.agg (aY m)] (.sl ((co fN 0 (LL m)).map fnD)) []:=by
 have kr:=fun s=>rk hC s
 have kd:=fun n h=>Bs hC n h
 have kp:=fun s=>jM hC s
 refine start hC (nf:=N258) rfl rfl ?_
 simp [N258,ab]
 refine au Nat (fun i=>IZ m i) (fun i=>i <= m.s.length) (fun i=>m.s.length - i) 0 (by simp) (by simp [jN,ab,jA,List.replicate]) ?_
 rintro i hi
 simp [jN,ab]
 refine al (fun g1=>?_) (fun g1=>?_) <;> simp at g1 <;> simp [g1]
 ·have hw : IntKind.wrap .i64 ((i : Int) + 1)=((i + 1 : Nat) : Int):=ae (by omega) (by omega)
  have kri:=kr (spt m i)
  simp only [bq] at kri
  have kdi:=kd i (by omega)
  have l1:=aD (cO m) i
  have l2:=aD (bO m) i
  simp [bq]
  refine aa kri (.inl rfl) ?_
  simp
  cases hr1 : aW (spt m i)
  ·have e1:=gw (p:=cO m) (n:=i) (k:=1) (by simp [cO,hr1])
   have e2:=dZ (p:=bO m) (n:=i) (k:=2) (by simp [bO,hr1])
   simp
   refine aa kdi (.inl rfl) ?_
   simp
   simp only [fN] at e1
   refine ⟨by omega,ah (by decide +kernel),i + 1,by omega,by omega,?_⟩
   simp [jN,ab,hw,e1,<- e2]
  ·have e0:=dZ (p:=cO m) (n:=i) (k:=1) (by simp [cO,hr1])
   have hsame : bO m i=(List.range i).any fun k=>aW (spt m k) && decide (fS m k=fS m i):=by rw [bO,hr1,Bool.true_and]
   simp
   refine au Nat (fun k=>I0 m i k) (fun k=>k <= i /\ ∀ j,j < k -> aW (spt m j)=true -> ¬ fS m j=fS m i) (fun k=>i - k) 0 (by simp) (by simp [lu,ab,bq]) ?_
   rintro k ⟨hk,hK⟩
   simp [lu,ab,bq]
   refine al (fun g2=>?_) (fun g2=>?_) <;> simp at g2 <;> simp [g2]
   ·have hw2 : IntKind.wrap .i64 ((k : Int) + 1)=((k + 1 : Nat) : Int):=ae (by omega) (by omega)
    have krk:=kr (spt m k)
    have kpk:=kp (spt m k)
    have kpi:=kp (spt m i)
    simp only [bq,ptD] at krk kpk kpi
    have hks : k < m.s.length:=by omega
    simp [hks,bq]
    refine aa krk (.inl rfl) ?_
    simp
    have next : (aW (spt m k)=true -> ¬ fS m k=fS m i) -> ∀ j,j < k + 1 -> aW (spt m j)=true -> ¬ fS m j=fS m i:=fun h j hj=>by
     rcases Nat.lt_succ_iff_lt_or_eq.1 hj with h2 | rfl
     ·exact hK j h2
     ·exact h
    cases hr2 : aW (spt m k)
    ·simp
     refine ⟨ah (by decide +kernel),?_⟩
     refine ⟨k + 1,⟨by omega,next (by rw [hr2];simp)⟩,by omega,?_⟩
     simp [lu,ab,bq,hw2]
    ·simp [hks,bq]
     refine aa kpk (.inl rfl) ?_
     simp
     refine aa kpi (.inl rfl) ?_
     simp
     refine ⟨ah (by decide +kernel),?_⟩
     by_cases hp : fS m k=fS m i
     ·have hs1 : bO m i=true:=by
       rw [hsame,List.any_eq_true]
       exact ⟨k,List.mem_range.2 g2,by simp [hr2,hp]⟩
      have e2:=gw (p:=bO m) (n:=i) (k:=2) hs1
      simp only [fN] at e2
      have hp1 : (ptS (spt m k)).1=(ptS (spt m i)).1:=congrArg Prod.fst hp
      have hp2 : (ptS (spt m k)).2=(ptS (spt m i)).2:=congrArg Prod.snd hp
      simp [hp1,hp2]
      refine aa kdi (.inl rfl) ?_
      simp
      refine ⟨by omega,ah (by decide +kernel),i + 1,by omega,by omega,?_⟩
      simp [jN,ab,hw,<- e0,e2]
     ·have hp1 : ¬ ((ptS (spt m k)).1=(ptS (spt m i)).1 /\ (ptS (spt m k)).2=(ptS (spt m i)).2):=fun h=>hp (Prod.ext h.1 h.2)
      have hp2 : (decide ((ptS (spt m k)).1=(ptS (spt m i)).1) && decide ((ptS (spt m k)).2=(ptS (spt m i)).2))=false:=by
       rw [Bool.eq_false_iff];simpa using hp1
      simp [hp2]
      refine ⟨k + 1,⟨by omega,next (fun _=>hp)⟩,by omega,?_⟩
      simp [lu,ab,bq,hw2]
   ·have hk2 : k=i:=by omega
    subst hk2
    have hs1 : bO m k=false:=by
     rw [hsame,List.any_eq_false]
     intro j hj
     have:=hK j (List.mem_range.1 hj)
     simpa using this
    have e2:=dZ (p:=bO m) (n:=k) (k:=2) hs1
    refine ⟨k + 1,by omega,by omega,?_⟩
    simp [jN,ab,hw,<- e0,<- e2]
 ·have hi2 : i=m.s.length:=by omega
  subst hi2
  clear kr kp
  have kc:=fun f=>Bt hC m f (by omega)
  refine au Nat (fun i=>I2 m i) (fun i=>i <= m.f.length) (fun i=>m.f.length - i) 0 (by simp) (by simp [fH,ab,jA]) ?_
  clear hi g1
  rintro i hi
  simp [fH,ab]
  refine al (fun g1=>?_) (fun g1=>?_) <;> simp at g1 <;> simp [g1]
  ·have hw : IntKind.wrap .i64 ((i : Int) + 1)=((i + 1 : Nat) : Int):=ae (by omega) (by omega)
   have kci:=kc (fce m i)
   have kdi:=kd i (by omega)
   simp only [ab,aP] at kci
   have l3:=aD (dg m) i
   have l4:=aD (cj m) i
   have l5:=aD (bR m) i
   have l6:=aD (aO m) i
   simp [aP]
   refine aa kci (.inl rfl) ?_
   simp
   cases ok : okF m (fce m i)
   ·have hsn : ar m i=false:=by simp [ar,ok]
    have e1:=gw (p:=dg m) (n:=i) (k:=3) (by simp [dg,ok])
    have e2:=dZ (p:=cj m) (n:=i) (k:=4) (by simp [cj,ok])
    have e3:=dZ (p:=bR m) (n:=i) (k:=5) (by simp [bR,hsn])
    have e4:=dZ (p:=aO m) (n:=i) (k:=6) (by simp [aO,hsn])
    have e5:=j7 hsn
    simp only [fN] at e1
    simp
    refine aa kdi (.inl rfl) ?_
    simp
    refine ⟨by omega,ah (by decide +kernel),i + 1,by omega,by omega,?_⟩
    simp [fH,ab,hw,e1,<- e2,<- e3,<- e4,e5]
   ·have hT:=cJ ok
    have kt:=xE hC m (fce m i) (iN ok) hT
    simp only [ab,aP] at kt
    have e1:=dZ (p:=dg m) (n:=i) (k:=3) (by simp [dg,ok])
    simp
    refine aa kt (.inl rfl) ?_
    simp
    refine al (fun d1=>?_) (fun d1=>?_) <;> simp at d1 <;> simp [d1]
    ·have hfl : cj m i=true:=by simp [cj,ok,d1]
     have hsn : ar m i=false:=by simp [ar,ok];omega
     have e2:=gw (k:=4) hfl
     have e3:=dZ (p:=bR m) (n:=i) (k:=5) (by simp [bR,hsn])
     have e4:=dZ (p:=aO m) (n:=i) (k:=6) (by simp [aO,hsn])
     have e5:=j7 hsn
     simp only [fN] at e2
     refine aa kdi (.inl rfl) ?_
     simp
     refine ⟨by omega,ah (by decide +kernel),i + 1,by omega,by omega,?_⟩
     simp [fH,ab,hw,<- e1,e2,<- e3,<- e4,e5]
    ·have hfl : cj m i=false:=by simp [cj,ok];omega
     have hsn : ar m i=true:=by simp [ar,ok,d1]
     have e2:=dZ (k:=4) hfl
     have lsn:=aD (ar m) i
     have hsd:=sF hsn
     have hov:=sy hsn
     refine au Nat (fun k=>I4 m i k) (fun k=>k <= (fil (ar m) i).length) (fun k=>(fil (ar m) i).length - k) 0 (by simp) (by simp [iQ,ab,aP,rJ]) ?_
     rintro k hk
     simp [iQ,ab,aP]
     refine al (fun g2=>?_) (fun g2=>?_) <;> simp at g2 <;> simp [g2]
     ·have hw2 : IntKind.wrap .i64 ((k : Int) + 1)=((k + 1 : Nat) : Int):=ae (by omega) (by omega)
      have hq:=(dP (List.getElem_mem g2)).2
      simp only [ar,Bool.and_eq_true] at hq
      have ks:=xB hC (fce m i) (fce m (fil (ar m) i)[k])
      have ko:=qw hC m (fce m i) (fce m (fil (ar m) i)[k]) (iN ok) hT (iN hq.1) (cJ hq.1)
      have a1:=mG (shP m i) g2
      have a2:=mG (ovP m i) g2
      rw [show shP m i (fil (ar m) i)[k]=kE (fce m i) (fce m (fil (ar m) i)[k]) from rfl] at a1
      rw [show ovP m i (fil (ar m) i)[k]=ovT (aQ m (fce m i)) (aQ m (fce m (fil (ar m) i)[k])) from rfl] at a2
      simp only [ab,aP] at ks ko
      cases h1 : jY (shP m i) (fil (ar m) i) k <;> cases h2 : jY (ovP m i) (fil (ar m) i) k <;> rw [h1] at a1 <;> rw [h2] at a2 <;> simp at a1 a2
      ·simp [ia,g2,aP]
       refine aa ks (.inl rfl) ?_
       simp
       refine ⟨ah (by decide +kernel),?_⟩
       simp [ia,g2,aP]
       refine aa ko (.inl rfl) ?_
       simp
       refine ⟨ah (by decide +kernel),?_⟩
       refine ⟨k + 1,by omega,by omega,?_⟩
       simp [iQ,ab,aP,hw2,a1,a2,ia]
      ·simp [ia,g2,aP]
       refine aa ks (.inl rfl) ?_
       simp
       refine ⟨ah (by decide +kernel),ah (by decide +kernel),?_⟩
       refine ⟨k + 1,by omega,by omega,?_⟩
       simp [iQ,ab,aP,hw2,a1,a2,ia]
      ·simp
       refine ⟨ah (by decide +kernel),?_⟩
       simp [ia,g2,aP]
       refine aa ko (.inl rfl) ?_
       simp
       refine ⟨ah (by decide +kernel),?_⟩
       refine ⟨k + 1,by omega,by omega,?_⟩
       simp [iQ,ab,aP,hw2,a1,a2,ia]
      ·simp
       refine ⟨ah (by decide +kernel),ah (by decide +kernel),?_⟩
       refine ⟨k + 1,by omega,by omega,?_⟩
       simp [iQ,ab,aP,hw2,a1,a2,ia]
     ·have hk2 : k=(fil (ar m) i).length:=by omega
      subst hk2
      rw [og,og,<- hsd,<- hov]
      have e5:=wP hsn
      have e8 : (fil (ar m) (i + 1)).length=(fil (ar m) i).length + 1:=by rw [cx hsn];simp
      simp only [aP] at e5
      cases h1 : bR m i
      ·have e3:=dZ (k:=5) h1
       simp
       cases h2 : aO m i
       ·have e4:=dZ (k:=6) h2
        simp
        refine ⟨by omega,i + 1,by omega,by omega,?_⟩
        simp [fH,ab,hw,<- e1,<- e2,<- e3,<- e4,e5,e8]
       ·have e4:=gw (k:=6) h2
        simp only [fN] at e4
        simp
        refine aa kdi (.inl rfl) ?_
        simp
        refine ⟨by omega,ah (by decide +kernel),?_⟩
        refine ⟨by omega,i + 1,by omega,by omega,?_⟩
        simp [fH,ab,hw,<- e1,<- e2,<- e3,e4,e5,e8]
      ·have e3:=gw (k:=5) h1
       simp only [fN] at e3
       simp
       refine aa kdi (.inl rfl) ?_
       simp
       refine ⟨by omega,ah (by decide +kernel),?_⟩
       cases h2 : aO m i
       ·have e4:=dZ (k:=6) h2
        simp
        refine ⟨by omega,i + 1,by omega,by omega,?_⟩
        simp [fH,ab,hw,<- e1,<- e2,e3,<- e4,e5,e8]
       ·have e4:=gw (k:=6) h2
        simp only [fN] at e4
        simp
        refine aa kdi (.inl rfl) ?_
        simp
        refine ⟨by omega,ah (by decide +kernel),?_⟩
        refine ⟨by omega,i + 1,by omega,by omega,?_⟩
        simp [fH,ab,hw,<- e1,<- e2,e3,e4,e5,e8]
  ·have hi2 : i=m.f.length:=by omega
   subst hi2
   have bd : ∀ (p : Nat -> Bool) (n : Nat),n <= 100 -> (fil p n).length <= 100:=fun p n hn=>by have:=aD p n;omega
   have q1:=bd (cO m) _ hs
   have q2:=bd (bO m) _ hs
   have q3:=bd (dg m) _ hf
   have q4:=bd (cj m) _ hf
   have q5:=bd (bR m) _ hf
   have q6:=bd (aO m) _ hf
   have hLL : LL m=[[],fil (cO m) m.s.length,fil (bO m) m.s.length,fil (dg m) m.f.length,fil (cj m) m.f.length,fil (bR m) m.f.length,fil (aO m) m.f.length]:=rfl
   rw [hLL]
   clear hLL bd
   generalize fil (cO m) m.s.length=L1 at *
   generalize fil (bO m) m.s.length=L2 at *
   generalize fil (dg m) m.f.length=L3 at *
   generalize fil (cj m) m.f.length=L4 at *
   generalize fil (bR m) m.f.length=L5 at *
   generalize fil (aO m) m.f.length=L6 at *
   obtain ⟨BK,hBK⟩ : ∃ x : D,x=.blk 1 [[.own 2 []],[.own 2 (fdR 1 L1)],[.own 2 (fdR 2 L2)],[.own 2 (fdR 3 L3)],[.own 2 (fdR 4 L4)],[.own 2 (fdR 5 L5)],[.own 2 (fdR 6 L6)]]:=⟨_,rfl⟩
   obtain ⟨U,hU⟩ : ∃ U : Nat -> List (Int × List UInt8),U=fun k=>co fN 0 (([([] : List Nat),L1,L2,L3,L4,L5,L6]).take k):=⟨_,rfl⟩
   have hU7 : U 7=co fN 0 [[],L1,L2,L3,L4,L5,L6]:=by rw [hU];rfl
   have hU0 : U 0=[]:=by rw [hU];rfl
   have hU0s : U 1=U 0++fdL 0 ([] : List Nat):=by
    rw [hU];show co fN 0 (([([] : List Nat),L1,L2,L3,L4,L5,L6]).take 0++[([] : List Nat)])=_
    rw [cp];simp [co,fdL]
   have hU1s : U 2=U 1++fdL 1 L1:=by
    rw [hU];show co fN 0 (([([] : List Nat),L1,L2,L3,L4,L5,L6]).take 1++[L1])=_
    rw [cp];simp [co,fdL]
   have hU2s : U 3=U 2++fdL 2 L2:=by
    rw [hU];show co fN 0 (([([] : List Nat),L1,L2,L3,L4,L5,L6]).take 2++[L2])=_
    rw [cp];simp [co,fdL]
   have hU3s : U 4=U 3++fdL 3 L3:=by
    rw [hU];show co fN 0 (([([] : List Nat),L1,L2,L3,L4,L5,L6]).take 3++[L3])=_
    rw [cp];simp [co,fdL]
   have hU4s : U 5=U 4++fdL 4 L4:=by
    rw [hU];show co fN 0 (([([] : List Nat),L1,L2,L3,L4,L5,L6]).take 4++[L4])=_
    rw [cp];simp [co,fdL]
   have hU5s : U 6=U 5++fdL 5 L5:=by
    rw [hU];show co fN 0 (([([] : List Nat),L1,L2,L3,L4,L5,L6]).take 5++[L5])=_
    rw [cp];simp [co,fdL]
   have hU6s : U 7=U 6++fdL 6 L6:=by
    rw [hU];show co fN 0 (([([] : List Nat),L1,L2,L3,L4,L5,L6]).take 6++[L6])=_
    rw [cp];simp [co,fdL]
   have lU0 : (U 0).length <= 0:=by rw [hU0];simp
   have lU1 : (U 1).length <= 100:=by rw [hU0s];simp;omega
   have lU2 : (U 2).length <= 200:=by rw [hU1s];simp;omega
   have lU3 : (U 3).length <= 300:=by rw [hU2s];simp;omega
   have lU4 : (U 4).length <= 400:=by rw [hU3s];simp;omega
   have lU5 : (U 5).length <= 500:=by rw [hU4s];simp;omega
   have lU6 : (U 6).length <= 600:=by rw [hU5s];simp;omega
   rw [<- hU7]
   refine au Nat (fun k=>[(3,.ref (.r 10048) 0 7),(10048,BK),(13,.ref (.r 10208) 0 (U k).length),(10208,.blk 2 (fnR (U k))),(14,.int .i64 k)]) (fun k=>k <= 7) (fun k=>7 - k) 0 (by simp) (by simp [hU0,hBK]) ?_
   rintro k hk
   rcases (by omega : k=0 \/ k=1 \/ k=2 \/ k=3 \/ k=4 \/ k=5 \/ k=6 \/ k=7) with rfl | rfl | rfl | rfl | rfl | rfl | rfl | rfl
   ·have e : fnR (U 0)++fdR 0 ([] : List Nat)=fnR (U 1):=by rw [hU0s];simp [fnR,fdR]
    have e' : (U 1).length=(U 0).length + (([] : List Nat)).length:=by rw [hU0s];simp
    simp [hBK]
    refine ⟨by omega,1,by omega,by omega,?_,?_,by decide⟩
    ·simpa using e'.symm
    ·simpa using e
   ·have e : fnR (U 1)++fdR 1 L1=fnR (U 2):=by rw [hU1s];simp [fnR,fdR]
    have e' : (U 2).length=(U 1).length + (L1).length:=by rw [hU1s];simp
    simp [hBK]
    refine ⟨by omega,2,by omega,by omega,?_,?_,by decide⟩
    ·simpa using e'.symm
    ·simpa using e
   ·have e : fnR (U 2)++fdR 2 L2=fnR (U 3):=by rw [hU2s];simp [fnR,fdR]
    have e' : (U 3).length=(U 2).length + (L2).length:=by rw [hU2s];simp
    simp [hBK]
    refine ⟨by omega,3,by omega,by omega,?_,?_,by decide⟩
    ·simpa using e'.symm
    ·simpa using e
   ·have e : fnR (U 3)++fdR 3 L3=fnR (U 4):=by rw [hU3s];simp [fnR,fdR]
    have e' : (U 4).length=(U 3).length + (L3).length:=by rw [hU3s];simp
    simp [hBK]
    refine ⟨by omega,4,by omega,by omega,?_,?_,by decide⟩
    ·simpa using e'.symm
    ·simpa using e
   ·have e : fnR (U 4)++fdR 4 L4=fnR (U 5):=by rw [hU4s];simp [fnR,fdR]
    have e' : (U 5).length=(U 4).length + (L4).length:=by rw [hU4s];simp
    simp [hBK]
    refine ⟨by omega,5,by omega,by omega,?_,?_,by decide⟩
    ·simpa using e'.symm
    ·simpa using e
   ·have e : fnR (U 5)++fdR 5 L5=fnR (U 6):=by rw [hU5s];simp [fnR,fdR]
    have e' : (U 6).length=(U 5).length + (L5).length:=by rw [hU5s];simp
    simp [hBK]
    refine ⟨by omega,6,by omega,by omega,?_,?_,by decide⟩
    ·simpa using e'.symm
    ·simpa using e
   ·have e : fnR (U 6)++fdR 6 L6=fnR (U 7):=by rw [hU6s];simp [fnR,fdR]
    have e' : (U 7).length=(U 6).length + (L6).length:=by rw [hU6s];simp
    simp [hBK]
    refine ⟨by omega,7,by omega,by omega,?_,?_,by decide⟩
    ·simpa using e'.symm
    ·simpa using e
   ·simp [hBK]
    rfl
end Go.Gv

namespace Go.Gv
def PN (m : Msh) (i : Nat) : Env:=[(1,.ptr (aY m)),(3,.mrf 10224),(10224,.mp 3 2 (uE m i) (uF m i)),(16,slx m.fn (m.f.map bx)),(17,.int .i64 m.f.length),(18,.int .i64 i)]
def PO (m : Msh) (i k : Nat) : Env:=[(1,.ptr (aY m)),(3,.mrf 10224),(10224,.mp 3 2 (sdK (fce m i) k++uE m i) (List.replicate k (.int .i64 i)++uF m i)),(4,.int .i64 i),(5,.adr (.r 10080) 0 0),(10080,.blk 4 [bx (fce m i)]),(16,slx m.fn (m.f.map bx)),(17,.int .i64 m.f.length),(18,.int .i64 i),(23,.int .i64 k)]
def PP (m : Msh) (i : Nat) : Env:=[(3,.mrf 10224),(10224,.mp 3 2 (uE m m.f.length) (uF m m.f.length)),(7,.ref (.r 10112) 0 m.f.length),(10112,.blk 3 (nbR m i 0)),(38,slx m.fn (m.f.map bx)),(39,.int .i64 m.f.length),(40,.int .i64 i)]
def PQ (m : Msh) (i k : Nat) : Env:=[(3,.mrf 10224),(10224,.mp 3 2 (uE m m.f.length) (uF m m.f.length)),(7,.ref (.r 10112) 0 m.f.length),(10112,.blk 3 (nbR m i k)),(8,.int .i64 i),(9,.adr (.r 10144) 0 0),(10144,.blk 4 [bx (fce m i)]),(38,slx m.fn (m.f.map bx)),(39,.int .i64 m.f.length),(40,.int .i64 i),(45,.int .i64 k)]
variable {C : CC} (hC : aA prog C)
include hC
end Go.Gv

namespace Go.Gv
theorem kC {s : Spt} (h : aW s=true) : -16777216 <= s.x /\ s.x <= 16777216 /\ -16777216 <= s.y /\ s.y <= 16777216 /\ -4194304 <= s.z /\ s.z <= 4194304:=by
 simp only [aW,Bool.and_eq_true,decide_eq_true_eq] at h
 omega
def spA (m : Msh) (i : Nat) : Spt:=spt m (fce m i).a.toNat
def spB (m : Msh) (i : Nat) : Spt:=spt m (fce m i).b.toNat
def spC (m : Msh) (i : Nat) : Spt:=spt m (fce m i).c.toNat
def pw (m : Msh) (i : Nat) : Int:=(spA m i).z + (spB m i).z + (spC m i).z
def tt (m : Msh) (i : Nat) : Int:=(spA m i).x + (spB m i).x + (spC m i).x
def tu (m : Msh) (i : Nat) : Int:=(spA m i).y + (spB m i).y + (spC m i).y
theorem zH {m : Msh} (hv : aF m=true) {i : Nat} (hi : i < m.f.length) : aW (spA m i)=true /\ aW (spB m i)=true /\ aW (spC m i)=true:=by
 obtain ⟨⟨_,h1⟩,⟨_,h2⟩,⟨_,h3⟩⟩:=ki (gi hv hi)
 exact ⟨n8 hv h1,n8 hv h2,n8 hv h3⟩
def smR (m : Msh) (i : Nat) : List (List D):=(List.range i).map fun j=>[.int .i64 (pw m j)]
def ctR (m : Msh) (i : Nat) : List (List D):=(List.range i).map fun j=>[.int .i64 (tt m j),.int .i64 (tu m j)]
@[simp] theorem NS (m : Msh) (i : Nat) : (smR m i).length=i:=by simp [smR]
@[simp] theorem JI (m : Msh) (i : Nat) : (ctR m i).length=i:=by simp [ctR]
@[simp] theorem Jl (m : Msh) (i : Nat) : List.take i (smR m i)=smR m i:=List.take_of_length_le (by simp)
@[simp] theorem Fx (m : Msh) (i : Nat) : List.take i (ctR m i)=ctR m i:=List.take_of_length_le (by simp)
@[simp] theorem NR (m : Msh) (i : Nat) (x : List D) : (∀ e,e ∈ smR m i \/ e=x -> ∀ c,c ∈ e -> aw c=true)=∀ c,c ∈ x -> aw c=true:=by
 apply propext
 constructor
 ·exact fun h=>h x (.inr rfl)
 ·rintro h e (he | rfl)
  ·obtain ⟨j,_,rfl⟩:=List.mem_map.1 he
   simp
  ·exact h
@[simp] theorem JH (m : Msh) (i : Nat) (x : List D) : (∀ e,e ∈ ctR m i \/ e=x -> ∀ c,c ∈ e -> aw c=true)=∀ c,c ∈ x -> aw c=true:=by
 apply propext
 constructor
 ·exact fun h=>h x (.inr rfl)
 ·rintro h e (he | rfl)
  ·obtain ⟨j,_,rfl⟩:=List.mem_map.1 he
   simp
  ·exact h
def cN (sz : Nat) (es : List (List D)) : D:=match es with
 | []=>.nils
 | e::r=>.own sz (e::r)
@[simp] theorem Fn (sz : Nat) (es : List (List D)) : aR (cN sz es)=slx true es:=by cases es <;> rfl
def grC (m : Msh) : List D:=[.sl (nbA m),slx true (smR m m.f.length),slx true (ctR m m.f.length)]
def mdE (m : Msh) (i : Nat) : Env:=[(1,.ptr (aY m)),(6,.adr (.r 10352) 0 0),(10352,.blk 3 [[.sl (nbA m),cN 1 (smR m i),cN 2 (ctR m i)]]),(24,slx m.fn (m.f.map bx)),(25,.int .i64 m.f.length),(26,.int .i64 i)]
variable {C : CC} (hC : aA prog C)
include hC
end Go.Gv

namespace Go.Gv
def bsd (m : Msh) (i : Nat) (o : Int) : Bool:=decide (o=nbF m i 0) || (decide (o=nbF m i 1) || decide (o=nbF m i 2))
def tI (m : Msh) (i j : Nat) : Int:=pw m i - pw m j
def ID (m : Msh) (i j : Nat) : Int:=tI m i j * (if tI m i j < -tI m i j then -tI m i j else tI m i j)
def Fy (m : Msh) (i j : Nat) : Int:=(tt m i - tt m j) * (tt m i - tt m j) + (tu m i - tu m j) * (tu m i - tu m j)
def Fr (m : Msh) (i a b : Nat) : Int:=go (ID m i a * Fy m i b) (ID m i b * Fy m i a)
def Pp (m : Msh) (i : Nat) (best n : Int) : Int:=if n < 0 \/ pw m i <= pw m n.toNat then best else if best < 0 then n else if 0 < Fr m i n.toNat best.toNat \/ (Fr m i n.toNat best.toNat=0 /\ n < best) then n else best
def upF (m : Msh) (i : Nat) : Nat -> Int
 | 0=>-2
 | k + 1=>Pp m i (upF m i k) (nbF m i k)
def xF (m : Msh) (i : Nat) : Int:=if upF m i 3=-2 /\ bsd m i (-1)=true then -1 else upF m i 3
variable {C : CC} (hC : aA prog C)
include hC
end Go.Gv

namespace Go.Gv
def inR (l : List Int) : List (List D):=l.map fun n=>[.int .i64 n]
@[simp] theorem Kr (l : List Int) : (inR l).length=l.length:=by simp [inR]
@[simp] theorem Gt (l : List Int) : List.take l.length (inR l)=inR l:=List.take_of_length_le (by simp)
@[simp] theorem OB (l : List Int) : List.map (fun e=>List.map aR e) (inR l)=inR l:=by simp [inR]
@[simp] theorem Ks : inR []=[]:=rfl
def PS (m : Msh) : List Int:=(List.range m.f.length).map fun j=>pw m j
def Py (m : Msh) : List Int:=(List.range m.f.length).map fun j=>xF m j
def flT (m : Msh) (i : Nat) : List Int:=(List.range i).map fun j=>xF m j
def flB (m : Msh) : Nat -> List (List D)
 | 0=>List.replicate m.f.length [.int .i64 0]
 | i + 1=>inR (flT m (i + 1))
def pth (m : Msh) : Nat -> Int -> List Int
 | 0,_=>[]
 | k + 1,f=>if f < 0 then [] else f::pth m k (xF m f.toNat)
def rnk (m : Msh) (i : Nat) : Nat:=((List.range m.f.length).filter fun j=>decide (pw m j < pw m i)).length
def Pz (m : Msh) (f : Int) : List Int:=pth m m.f.length f
def O2 (m : Msh) (i : Nat) : List Int:=((List.range i).filter fun j=>decide (xF m j=-2)).map fun (j : Nat)=>(j : Int)
def PM (m : Msh) : List Int:=O2 m m.f.length
variable {C : CC} (hC : aA prog C)
include hC
theorem uS (m : Msh) (hz : bW m=true -> m.s.length <= 100 /\ m.f.length <= 100) : C 215 [.agg (aY m)] (.bool (aF m)) []:=by
 have ks:=uZ hC m
 rw [show (decide (m.s.length <= 2000) && decide (m.f.length <= 4000))=bW m from rfl] at ks
 refine start hC (nf:=N215) rfl rfl ?_
 simp only [ab] at ks
 simp [N215,ab]
 refine aa ks (.inl rfl) ?_
 cases hs : bW m
 ·simp [aF,hs]
 ·obtain ⟨h1,h2⟩:=hz hs
  have k:=uQ hC m h1 h2
  have e : aF m=decide ((co fN 0 (LL m)).length=0):=by
   rw [aF,hs,Bool.true_and,Bool.eq_iff_iff,decide_eq_true_eq,List.length_eq_zero_iff,lX]
  rw [e]
  obtain ⟨X,hX⟩ : ∃ X,X=co fN 0 (LL m):=⟨_,rfl⟩
  rw [<- hX] at k ⊢
  simp only [ab] at k
  simp
  refine aa k (.inr rfl) ?_
  simp
end Go.Gv

namespace Go.Gv
def slE (m : Msh) (a b : Int) : Int:=if aF m=false then 1 else if fQ m.f.length a=false \/ fQ m.f.length b=false then 2 else if bsd m a.toNat b=false then 25 else 0
def stE (m : Msh) (i a b : Int) : Int:=if aF m=false then 1 else if fQ m.f.length i=false \/ fQ m.f.length a=false \/ fQ m.f.length b=false then 2 else if bsd m i.toNat a=false \/ bsd m i.toNat b=false then 25 else 0
variable {C : CC} (hC : aA prog C)
include hC
end Go.Gv

namespace Go.Gv
theorem wT {α : Type} {p : α -> Bool} {xs : List α} {i : Nat} (h : jC p xs=(i : Int)) : ∃ h : i < xs.length,p xs[i]=true:=by
 unfold jC at h
 cases e : xs.findIdx? p with
 | none=>rw [e] at h;simp at h
 | some k =>
  rw [e] at h
  have h : k=i:=by have h : (k : Int)=(i : Int):=h;omega
  subst h
  rw [List.findIdx?_eq_some_iff_getElem] at e
  exact ⟨e.1,e.2.1⟩
def cpt (m : Msh) (f : Fce) (k : Nat) : Pnt:=ptS (spt m (crn f k).toNat)
end Go.Gv

namespace Go.Gv
def tn0 (m : Msh) (i : Nat) (p : Pnt) : Int:=ao (ptS (spA m i)) (ptS (spB m i)) p
def tn1 (m : Msh) (i : Nat) (p : Pnt) : Int:=ao (ptS (spB m i)) (ptS (spC m i)) p
def tn2 (m : Msh) (i : Nat) (p : Pnt) : Int:=ao (ptS (spC m i)) (ptS (spA m i)) p
def osF (m : Msh) (i : Nat) (p : Pnt) : Int:=if tn0 m i p < 0 then 0 else if tn1 m i p < 0 then 1 else if tn2 m i p < 0 then 2 else -1
def eC (m : Msh) (p : Pnt) : Int:=jC (fun i=>decide (osF m i p < 0)) (List.range m.f.length)
theorem nG {m : Msh} {p : Pnt} (h : 0 <= eC m p) : (eC m p).toNat < m.f.length /\ osF m (eC m p).toNat p < 0:=by
 have e : eC m p=((eC m p).toNat : Int):=by omega
 obtain ⟨h1,h2⟩:=wT (p:=fun i=>decide (osF m i p < 0)) (xs:=List.range m.f.length) e
 simp at h1 h2
 exact ⟨h1,h2⟩
theorem Bp {m : Msh} {i : Nat} {p : Pnt} (h : osF m i p < 0) : 0 <= tn0 m i p /\ 0 <= tn1 m i p /\ 0 <= tn2 m i p:=by
 unfold osF at h
 split at h
 ·omega
 ·split at h
  ·omega
  ·split at h
   ·omega
   ·omega
def rX (m : Msh) (i : Nat) : List D:=[.int .i64 (spA m i).x,.int .i64 (spA m i).y,.int .i64 (spA m i).z,.int .i64 (spB m i).x,.int .i64 (spB m i).y,.int .i64 (spB m i).z,.int .i64 (spC m i).x,.int .i64 (spC m i).y,.int .i64 (spC m i).z]
theorem cv (m : Msh) (i : Nat) : rX m i=[.int .i64 (spA m i).x,.int .i64 (spA m i).y,.int .i64 (spA m i).z,.int .i64 (spB m i).x,.int .i64 (spB m i).y,.int .i64 (spB m i).z,.int .i64 (spC m i).x,.int .i64 (spC m i).y,.int .i64 (spC m i).z]:=_root_.id rfl
theorem kF {m : Msh} (hv : aF m=true) {i : Nat} (hi : i < m.f.length) : okP (ptS (spA m i))=true /\ okP (ptS (spB m i))=true /\ okP (ptS (spC m i))=true:=by
 obtain ⟨h1,h2,h3⟩:=zH hv hi
 exact ⟨jm h1,jm h2,jm h3⟩
@[simp] theorem NP (p : Pnt) : (ptD p).length=2:=_root_.id rfl
@[simp] theorem IX (p : Pnt) : List.take 2 (ptD p)=ptD p:=_root_.id rfl
@[simp] theorem PB (p : Pnt) : (∀ x,x ∈ ptD p -> isV x=true)=True:=by simp [ptD]
@[simp] theorem PA (p : Pnt) : (∀ x,x ∈ ptD p -> aw x=true)=True:=by simp [ptD]
variable {C : CC} (hC : aA prog C)
include hC
theorem lQ (m : Msh) (i : Nat) (hi : i < m.f.length) (h : inS m (fce m i)=true) : C 319 [.agg (aY m),.int .i64 i] (.agg (rX m i)) []:=by
 obtain ⟨⟨a1,a2⟩,⟨b1,b2⟩,⟨c1,c2⟩⟩:=ki h
 refine start hC (nf:=N319) rfl rfl ?_
 simp [N319,ab,hi,aP,a1,a2,b1,b2,c1,c2,bq,rX,spA,spB,spC]
 exact ah (by decide +kernel)
theorem mS (s : Spt) : C 321 [.agg (ft s)] (.agg (ptD (ptS s))) []:=by
 refine start hC (nf:=N321) rfl rfl ?_
 simp [N321,ft,ptD,ptS]
theorem gC {a b c : Pnt} (ha : okP a=true) (hb : okP b=true) (hc : okP c=true) : C 320 [.agg (ptD a),.agg (ptD b),.agg (ptD c)] (.int .i64 (ao a b c)) []:=by
 have:=cm ha
 have:=cm hb
 have:=cm hc
 have h4:=jS ha hb hc
 refine start hC (nf:=N320) rfl rfl ?_
 have w1 : IntKind.wrap .i64 (b.1 - a.1)=b.1 - a.1:=ae rfl (by omega)
 have w2 : IntKind.wrap .i64 (c.2 - a.2)=c.2 - a.2:=ae rfl (by omega)
 have w3 : IntKind.wrap .i64 (b.2 - a.2)=b.2 - a.2:=ae rfl (by omega)
 have w4 : IntKind.wrap .i64 (c.1 - a.1)=c.1 - a.1:=ae rfl (by omega)
 have w5 : IntKind.wrap .i64 ((b.1 - a.1) * (c.2 - a.2))=(b.1 - a.1) * (c.2 - a.2):=ae rfl (by omega)
 have w6 : IntKind.wrap .i64 ((b.2 - a.2) * (c.1 - a.1))=(b.2 - a.2) * (c.1 - a.1):=ae rfl (by omega)
 have w7 : IntKind.wrap .i64 ((b.1 - a.1) * (c.2 - a.2) - (b.2 - a.2) * (c.1 - a.1))=ao a b c:=ae rfl (by rw [ao];omega)
 simp [N320,ptD,w1,w2,w3,w4,w5,w6,w7]
set_option maxHeartbeats 2000000 in
theorem ux (m : Msh) (hv : aF m=true) (i : Nat) (hi : i < m.f.length) (p : Pnt) (hp : okP p=true) : C 284 [.agg (aY m),.int .i64 i,.agg (ptD p)] (.int .i64 (osF m i p)) []:=by
 obtain ⟨oa,ob,oc⟩:=kF hv hi
 have k0:=lQ hC m i hi (gi hv hi)
 have ka:=mS hC (spA m i)
 have kb:=mS hC (spB m i)
 have kc:=mS hC (spC m i)
 have t0 : C 320 [.agg (ptD (ptS (spA m i))),.agg (ptD (ptS (spB m i))),.agg (ptD p)] (.int .i64 (tn0 m i p)) []:=gC hC oa ob hp
 have t1 : C 320 [.agg (ptD (ptS (spB m i))),.agg (ptD (ptS (spC m i))),.agg (ptD p)] (.int .i64 (tn1 m i p)) []:=gC hC ob oc hp
 have t2 : C 320 [.agg (ptD (ptS (spC m i))),.agg (ptD (ptS (spA m i))),.agg (ptD p)] (.int .i64 (tn2 m i p)) []:=gC hC oc oa hp
 have w1 : IntKind.wrap .i64 1=1:=by decide
 have w2 : IntKind.wrap .i64 2=2:=by decide
 have w3 : IntKind.wrap .i64 3=3:=by decide
 have m1 : Int.tmod 1 3=1:=by decide
 have m2 : Int.tmod 2 3=2:=by decide
 have m3 : Int.tmod 3 3=0:=by decide
 simp only [ab,bq,cv] at k0 ka kb kc
 refine start hC (nf:=N284) rfl rfl ?_
 simp [N284,ab]
 refine aa k0 (.inl rfl) ?_
 simp
 refine au Nat (fun k=>[(5,.ptr (ptD p)),(7,.adr (.r 10112) 0 0),(12,.int .i64 k),(10112,.blk 9 [rX m i])]) (fun k=>k <= 3 /\ (1 <= k -> ¬ tn0 m i p < 0) /\ (2 <= k -> ¬ tn1 m i p < 0) /\ (3 <= k -> ¬ tn2 m i p < 0)) (fun k=>3 - k) 0 (by simp) (by simp [cv]) ?_
 rintro k ⟨hk,h0,h1,h2⟩
 rcases (by omega : k=0 \/ k=1 \/ k=2 \/ k=3) with rfl | rfl | rfl | rfl
 ·simp [cv,w1]
  refine aa ka (.inl rfl) ?_
  simp [w1,m1]
  refine aa kb (.inl rfl) ?_
  simp
  refine aa t0 (.inl rfl) ?_
  simp
  refine ⟨ah (by decide +kernel),?_⟩
  refine al (fun c=>?_) (fun c=>?_) <;> simp at c
  ·simp [c,osF]
  ·simp [c]
   exact ⟨1,by omega,by omega,by simp [cv,w1]⟩
 ·have h0:=h0 (by omega)
  simp [cv,w2]
  refine aa kb (.inl rfl) ?_
  simp [w2,m2]
  refine aa kc (.inl rfl) ?_
  simp
  refine aa t1 (.inl rfl) ?_
  simp
  refine ⟨ah (by decide +kernel),?_⟩
  refine al (fun c=>?_) (fun c=>?_) <;> simp at c
  ·simp [c,osF,h0]
  ·simp [c]
   exact ⟨2,by omega,by omega,by simp [cv,w2]⟩
 ·have h0:=h0 (by omega)
  have h1:=h1 (by omega)
  simp [cv,w3]
  refine aa kc (.inl rfl) ?_
  simp [w3,m3]
  refine aa ka (.inl rfl) ?_
  simp
  refine aa t2 (.inl rfl) ?_
  simp
  refine ⟨ah (by decide +kernel),?_⟩
  refine al (fun c=>?_) (fun c=>?_) <;> simp at c
  ·simp [c,osF,h0,h1]
  ·simp [c]
   exact ⟨3,by omega,by omega,by simp [cv,w3]⟩
 ·have h0:=h0 (by omega)
  have h1:=h1 (by omega)
  have h2:=h2 (by omega)
  simp [osF,h0,h1,h2]
set_option maxHeartbeats 2000000 in
theorem w8 (m : Msh) (hv : aF m=true) (hm : m.f.length <= 100) (p : Pnt) (hp : okP p=true) : C 276 [.agg (aY m),.agg (ptD p)] (.int .i64 (eC m p)) []:=by
 have ko:=fun i hi=>ux hC m hv i hi p hp
 simp only [ab] at ko
 refine start hC (nf:=N276) rfl rfl ?_
 simp [N276,ab]
 refine au Nat (fun i=>[(2,.ptr (aY m)),(3,.ptr (ptD p)),(8,.int .i64 m.f.length),(9,.int .i64 i)]) (fun i=>i <= m.f.length /\ ∀ j,j < i -> ¬ osF m j p < 0) (fun i=>m.f.length - i) 0 (by simp) (by simp [ab]) ?_
 rintro i ⟨hi,hj⟩
 simp [ab]
 refine al (fun g1=>?_) (fun g1=>?_) <;> simp at g1 <;> simp [g1]
 ·have hw : IntKind.wrap .i64 ((i : Int) + 1)=((i + 1 : Nat) : Int):=ae (by omega) (by omega)
  refine aa (ko i g1) (.inl rfl) ?_
  simp
  refine al (fun c=>?_) (fun c=>?_) <;> simp at c
  ·simp [c]
   refine (iK (fun j hl hji=>?_) (by simpa using g1) ?_).symm
   ·have:=hj j hji
    simpa using this
   ·simpa using c
  ·simp [c]
   refine ⟨i + 1,⟨by omega,fun j hji=>?_⟩,by omega,by simp [ab,hw]⟩
   rcases Nat.lt_succ_iff_lt_or_eq.1 hji with h | rfl
   ·exact Int.not_lt.1 (hj j h)
   ·exact c
 ·refine (iJ (fun j hl=>?_)).symm
  rw [List.length_range] at hl
  have:=hj j (by omega)
  simpa using this
theorem um {b : Bool} {xs : List Pnt} {g : Nat} {cs : List D} (p : Pnt -> Bool) (hs : xs.length < 2 ^ 62) (hp : ∀ x ∈ xs,C g (.agg (ptD x)::cs) (.bool (p x)) []) : C 278 [slx b (xs.map fun x=>ptD x),.fn g cs] (.int .i64 (jC p xs)) []:=by
 refine start hC (nf:=N278) rfl rfl ?_
 simp [N278]
 refine au Nat (fun i=>[(0,slx b (xs.map fun x=>ptD x)),(1,.fn g cs),(7,.int .i64 xs.length),(8,.int .i64 i)]) (fun i=>i <= xs.length /\ ∀ (j : Nat) (h : j < xs.length),j < i -> p xs[j]=false) (fun i=>xs.length - i) 0 (by simp) (by simp) ?_
 rintro i ⟨hi,hj⟩
 simp
 refine al (fun h=>?_) (fun h=>?_) <;> simp [h] <;> simp at h
 ·have hw : IntKind.wrap .i64 ((i : Int) + 1)=((i + 1 : Nat) : Int):=ae (by omega) (by omega)
  have hc:=hp _ (List.getElem_mem h)
  simp [h,ptD] at hc ⊢
  refine aa hc (.inl rfl) ?_
  simp
  refine al (fun h1=>?_) (fun h1=>?_) <;> simp [h1,hw]
  ·rw [iK hj h h1]
  ·refine ⟨i + 1,⟨by omega,fun j hl hjj=>?_⟩,by omega,rfl⟩
   rcases Nat.lt_succ_iff_lt_or_eq.1 hjj with h2 | rfl
   ·exact hj j hl h2
   ·exact h1
 ·rw [iJ (fun j hl=>hj j hl (by omega))]
theorem oL {b : Bool} {xs : List Pnt} {g : Nat} {cs : List D} (p : Pnt -> Bool) (hs : xs.length < 2 ^ 62) (hp : ∀ x ∈ xs,C g (.agg (ptD x)::cs) (.bool (p x)) []) : C 239 [slx b (xs.map fun x=>ptD x),.fn g cs] (.bool (xs.any p)) []:=by
 refine start hC (nf:=N239) rfl rfl ?_
 simp [N239]
 refine aa (um hC p hs hp) (.inl rfl) ?_
 simp [lP]
theorem sq (p : Pnt) : C 312 [.agg (ptD p)] (.bool (!okP p)) []:=by
 have k:=fp hC p
 simp only [ptD] at k
 refine start hC (nf:=N312) rfl rfl ?_
 simp [N312,ptD]
 refine aa k (.inl rfl) ?_
 simp
end Go.Gv

namespace Go.Gv
def onE (m : Msh) (p : Pnt) : Int:=if aF m=true /\ okP p=true then (if eC m p < 0 then 12 else 0) else 1
def onV (m : Msh) (p : Pnt) : Int:=if onE m p=0 then eC m p else 0
theorem qk {m : Msh} {p : Pnt} (h : onE m p=0) : aF m=true /\ okP p=true /\ 0 <= eC m p:=by
 unfold onE at h
 split at h
 ·rename_i h1
  refine ⟨h1.1,h1.2,?_⟩
  split at h
  ·omega
  ·omega
 ·omega
def wlk (m : Msh) (p : Pnt) : Nat -> Nat -> Int × Int × Int
 | r,f=>if osF m f p < 0 then ((f : Int),((m.f.length - r : Nat) : Int),0) else if nbF m f (osF m f p).toNat < 0 then (0,0,12) else match r with
  | 0=>(0,0,6)
  | r + 1=>wlk m p r (nbF m f (osF m f p).toNat).toNat
def wkR (m : Msh) (from_ : Int) (p : Pnt) : Int × Int × Int:=if aF m=true /\ okP p=true then (if fQ m.f.length from_=true then wlk m p m.f.length from_.toNat else (0,0,2)) else (0,0,1)
def PT (t : Int × Int × Int) : D:=.tup [.int .i64 t.1,.int .i64 t.2.1,.int .i64 t.2.2]
variable {C : CC} (hC : aA prog C)
include hC
theorem uA (dec : Nat -> List UInt8) (hI : ∀ n : Nat,n < 100 -> C 127 [.int .i64 n] (.str (dec n)) []) (m : Msh) (hz : bW m=true -> m.s.length <= 100 /\ m.f.length <= 100) (b : Bool) (ps : List Pnt) (hp : ps.length < 2 ^ 62) :
  C 275 [.agg (aY m),slx b (ps.map fun x=>ptD x)] (.bool (aF m && ps.all okP)) []:=by
 have k1:=oZ hC dec hI m hz
 have k2:=oL hC (b:=b) (xs:=ps) (g:=312) (cs:=[]) (fun x=>!okP x) hp (fun x _=>sq hC x)
 have e : (ps.any fun x=>!okP x)=!ps.all okP:=by rw [List.all_eq_not_any_not,Bool.not_not]
 rw [e] at k2
 refine start hC (nf:=N275) rfl rfl ?_
 simp only [ab] at k1
 simp [N275,ab]
 refine aa k1 (.inl rfl) ?_
 cases aF m
 ·simp
 ·simp
  refine aa k2 (.inl rfl) ?_
  simp
theorem Ig (dec : Nat -> List UInt8) (hI : ∀ n : Nat,n < 100 -> C 127 [.int .i64 n] (.str (dec n)) []) (m : Msh) (hz : bW m=true -> m.s.length <= 100 /\ m.f.length <= 100) (p : Pnt) :
  C 274 [.agg (aY m),.agg (ptD p)] (.tup [.int .i64 (onV m p),.int .i64 (onE m p)]) []:=by
 have k1:=uA hC dec hI m hz false [p] (by simp)
 simp at k1
 refine start hC (nf:=N274) rfl rfl ?_
 simp only [ab] at k1
 simp only [ptD] at k1
 simp [N274,ab,ptD]
 refine aa k1 (.inl rfl) ?_
 by_cases hv : aF m=true /\ okP p=true
 ·have hm:=(hz (by have:=hv.1;simp only [aF,Bool.and_eq_true] at this;exact this.1)).2
  have k2:=w8 hC m hv.1 hm p hv.2
  simp only [ab,ptD] at k2
  simp [hv.1,hv.2]
  refine aa k2 (.inl rfl) ?_
  simp
  refine al (fun c=>?_) (fun c=>?_) <;> simp at c <;> simp [c,onE,onV,hv.1,hv.2]
 ·have e : (aF m && okP p)=false:=by
   cases h1 : aF m <;> cases h2 : okP p <;> simp [h1,h2] at hv ⊢
  simp [e,onE,onV,hv]
end Go.Gv

namespace Go.Gv
open Go.Lib
def i6 (m : Msh) (i : Nat) (p : Pnt) : Int:=(spA m i).z * tn1 m i p + (spB m i).z * tn2 m i p + (spC m i).z * tn0 m i p
def fx (m : Msh) (i : Nat) : Int:=ao (ptS (spA m i)) (ptS (spB m i)) (ptS (spC m i))
theorem BM (m : Msh) (i : Nat) (p : Pnt) : tn0 m i p + tn1 m i p + tn2 m i p=fx m i:=by
 unfold tn0 tn1 tn2 fx ao ptS
 grind
theorem yb (m : Msh) (i : Nat) (p : Pnt) : ao p (ptS (spB m i)) (ptS (spC m i))=tn1 m i p:=by
 unfold tn1 ao;grind
theorem yc (m : Msh) (i : Nat) (p : Pnt) : ao p (ptS (spC m i)) (ptS (spA m i))=tn2 m i p:=by
 unfold tn2 ao;grind
theorem ya (m : Msh) (i : Nat) (p : Pnt) : ao p (ptS (spA m i)) (ptS (spB m i))=tn0 m i p:=by
 unfold tn0 ao;grind
theorem ev {a b c : Pnt} (ha : okP a=true) (hb : okP b=true) (hc : okP c=true) : -2251799813685248 <= ao a b c /\ ao a b c <= 2251799813685248:=by
 have:=jS ha hb hc
 unfold ao
 omega
structure OnF (m : Msh) (i : Nat) (p : Pnt) : Prop where
 z0 : -4194304 <= (spA m i).z /\ (spA m i).z <= 4194304
 z1 : -4194304 <= (spB m i).z /\ (spB m i).z <= 4194304
 z2 : -4194304 <= (spC m i).z /\ (spC m i).z <= 4194304
 t0 : 0 <= tn0 m i p /\ tn0 m i p <= 2251799813685248
 t1 : 0 <= tn1 m i p /\ tn1 m i p <= 2251799813685248
 t2 : 0 <= tn2 m i p /\ tn2 m i p <= 2251799813685248
 d : 0 < fx m i /\ fx m i <= 2251799813685248
theorem qm {m : Msh} (hv : aF m=true) {i : Nat} (hi : i < m.f.length) {p : Pnt} (hp : okP p=true) (h : osF m i p < 0) : OnF m i p:=by
 obtain ⟨oa,ob,oc⟩:=kF hv hi
 obtain ⟨r1,r2,r3⟩:=zH hv hi
 have:=kC r1
 have:=kC r2
 have:=kC r3
 obtain ⟨n0,n1,n2⟩:=Bp h
 have b0 : tn0 m i p <= 2251799813685248:=(ev oa ob hp).2
 have b1 : tn1 m i p <= 2251799813685248:=(ev ob oc hp).2
 have b2 : tn2 m i p <= 2251799813685248:=(ev oc oa hp).2
 have bd : fx m i <= 2251799813685248:=(ev oa ob oc).2
 have hd : 0 < fx m i:=(ly hv hi).2
 exact ⟨by omega,by omega,by omega,by omega,by omega,by omega,by omega⟩
theorem iL {z t : Int} (hz : -4194304 <= z /\ z <= 4194304) (ht : 0 <= t) : -(4194304 * t) <= z * t /\ z * t <= 4194304 * t:=by
 have h1:=Int.mul_nonneg (show 0 <= 4194304 - z by omega) ht
 have h2:=Int.mul_nonneg (show 0 <= 4194304 + z by omega) ht
 rw [Int.sub_mul] at h1
 rw [Int.add_mul] at h2
 omega
theorem OnF.num {m : Msh} {i : Nat} {p : Pnt} (h : OnF m i p) : -(4194304 * fx m i) <= i6 m i p /\ i6 m i p <= 4194304 * fx m i:=by
 have e:=BM m i p
 have h1:=iL h.z0 h.t1.1
 have h2:=iL h.z1 h.t2.1
 have h3:=iL h.z2 h.t0.1
 unfold i6
 rw [<- e]
 omega
theorem tJ {n d k : Int} (hd : 0 < d) (h : -(k * d) <= n /\ n <= k * d) : -k <= n / d /\ n / d <= k:=by
 constructor
 ·exact (Int.le_ediv_iff_mul_le hd).2 (by rw [Int.neg_mul];exact h.1)
 ·exact Int.le_of_lt_add_one ((Int.ediv_lt_iff_lt_mul hd).2 (by rw [Int.add_mul];omega))
def loF (m : Msh) (i : Nat) (p : Pnt) : Int:=i6 m i p / fx m i
def hiF (m : Msh) (i : Nat) (p : Pnt) : Int:=-(-i6 m i p / fx m i)
theorem OnF.lo {m : Msh} {i : Nat} {p : Pnt} (h : OnF m i p) : -4194304 <= loF m i p /\ loF m i p <= 4194304:=tJ h.d.1 h.num
theorem OnF.hi {m : Msh} {i : Nat} {p : Pnt} (h : OnF m i p) : -4194304 <= hiF m i p /\ hiF m i p <= 4194304:=by
 have:=tJ (n:=-i6 m i p) (k:=4194304) h.d.1 (by have:=h.num;omega)
 unfold hiF
 omega
variable {C : CC} (hC : aA prog C)
include hC
theorem jb (z t : Int) (hz : -4194304 <= z /\ z <= 4194304) (ht : 0 <= t /\ t <= 2251799813685248) : C 99 [.int .i64 z,.int .i64 t] (.tup [wiS (z * t),.int .i64 0]) []:=by
 obtain ⟨n,rfl⟩ : ∃ n : Nat,t=n:=⟨t.toNat,by omega⟩
 have h3 : z.natAbs * n <= 4194304 * 2251799813685248:=Nat.mul_le_mul (by omega) (by omega)
 exact pI hC z n (by omega) (by omega) (by omega)
set_option maxHeartbeats 4000000 in
theorem ut (m : Msh) (hv : aF m=true) (i : Nat) (hi : i < m.f.length) (p : Pnt) (hp : okP p=true) (h : osF m i p < 0) :
  C 300 [.agg (aY m),.int .i64 i,.agg (ptD p)] (.tup [wiS (i6 m i p),.int .i64 (fx m i),.int .i64 0]) []:=by
 have H:=qm hv hi hp h
 obtain ⟨oa,ob,oc⟩:=kF hv hi
 have k0:=lQ hC m i hi (gi hv hi)
 have ka:=mS hC (spA m i)
 have kb:=mS hC (spB m i)
 have kc:=mS hC (spC m i)
 have t1:=gC hC hp ob oc
 have t2:=gC hC hp oc oa
 have t0:=gC hC hp oa ob
 have td : C 320 _ (.int .i64 (fx m i)) []:=gC hC oa ob oc
 rw [yb] at t1
 rw [yc] at t2
 rw [ya] at t0
 have x1:=jb hC _ _ H.z0 H.t1
 have x2:=jb hC _ _ H.z1 H.t2
 have x0:=jb hC _ _ H.z2 H.t0
 have b1:=iL H.z0 H.t1.1
 have b2:=iL H.z1 H.t2.1
 have b0:=iL H.z2 H.t0.1
 have c0:=H.t0
 have c1:=H.t1
 have c2:=H.t2
 have en : i6 m i p=(spA m i).z * tn1 m i p + (spB m i).z * tn2 m i p + (spC m i).z * tn0 m i p:=rfl
 obtain ⟨u1,hu1⟩ : ∃ u,u=(spA m i).z * tn1 m i p:=⟨_,rfl⟩
 obtain ⟨u2,hu2⟩ : ∃ u,u=(spB m i).z * tn2 m i p:=⟨_,rfl⟩
 obtain ⟨u0,hu0⟩ : ∃ u,u=(spC m i).z * tn0 m i p:=⟨_,rfl⟩
 rw [<- hu1] at x1 b1 en
 rw [<- hu2] at x2 b2 en
 rw [<- hu0] at x0 b0 en
 have y1:=pH hC 0 u1 (by omega) (by omega)
 have y2:=pH hC u1 u2 (by omega) (by omega)
 have y3:=pH hC (u1 + u2) u0 (by omega) (by omega)
 rw [Int.zero_add] at y1
 rw [<- en] at y3
 have ez : wiS 0=.agg [.int .i64 0,.int .i64 0]:=by simp [wiS]
 obtain ⟨p1,q1,_,_,e1⟩:=b6 u1
 obtain ⟨p2,q2,_,_,e2⟩:=b6 u2
 obtain ⟨p3,q3,_,_,e3⟩:=b6 u0
 obtain ⟨p4,q4,_,_,e4⟩:=b6 (u1 + u2)
 obtain ⟨p5,q5,_,_,e5⟩:=b6 (i6 m i p)
 rw [e1] at x1
 rw [e2] at x2
 rw [e3] at x0
 rw [ez,e1] at y1
 rw [e1,e2,e4] at y2
 rw [e4,e3,e5] at y3
 rw [e5]
 have w0 : IntKind.wrap .i64 0=0:=by decide
 have w1 : IntKind.wrap .i64 1=1:=by decide
 have w2 : IntKind.wrap .i64 2=2:=by decide
 have w3 : IntKind.wrap .i64 3=3:=by decide
 have w4 : IntKind.wrap .i64 4=4:=by decide
 have m1 : Int.tmod 1 3=1:=by decide
 have m2 : Int.tmod 2 3=2:=by decide
 have m3 : Int.tmod 3 3=0:=by decide
 have m4 : Int.tmod 4 3=1:=by decide
 clear e1 e2 e3 e4 e5 en hu0 hu1 hu2 b0 b1 b2 c0 c1 c2 H
 simp only [ab,bq,cv] at k0 ka kb kc
 refine start hC (nf:=N300) rfl rfl ?_
 simp [N300,ab]
 refine aa k0 (.inl rfl) ?_
 simp
 refine au Nat (fun k=>[(5,.ptr (ptD p)),(6,.adr (.r 10096) 0 0),(9,.adr (.r 10144) 0 0),(17,.agg (rX m i)),(18,.int .i64 k),(10144,.blk 9 [rX m i]),
  (10096,.blk 2 [if k=0 then [.int .i64 0,.int .i64 0] else if k=1 then [.int .i64 p1,.int .i64 q1] else if k=2 then [.int .i64 p4,.int .i64 q4] else [.int .i64 p5,.int .i64 q5]])]) (fun k=>k <= 3) (fun k=>3 - k) 0 (by simp) (by simp [cv]) ?_
 rintro k hk
 rcases (by omega : k=0 \/ k=1 \/ k=2 \/ k=3) with rfl | rfl | rfl | rfl
 ·simp [cv,w1,m1]
  refine aa kb (.inl rfl) ?_
  simp [w2,m2]
  refine aa kc (.inl rfl) ?_
  simp
  refine aa t1 (.inl rfl) ?_
  simp
  refine aa x1 (.inr rfl) ?_
  simp
  refine ⟨ah (by decide +kernel),?_⟩
  refine aa y1 (.inr rfl) ?_
  simp
  exact ⟨1,by omega,by omega,by simp [cv,w1]⟩
 ·simp [cv,w2,m2]
  refine aa kc (.inl rfl) ?_
  simp [w3,m3]
  refine aa ka (.inl rfl) ?_
  simp
  refine aa t2 (.inl rfl) ?_
  simp
  refine aa x2 (.inr rfl) ?_
  simp
  refine ⟨ah (by decide +kernel),?_⟩
  refine aa y2 (.inr rfl) ?_
  simp
  exact ⟨2,by omega,by omega,by simp [cv,w2]⟩
 ·simp [cv,w3,m3]
  refine aa ka (.inl rfl) ?_
  simp [w4,m4]
  refine aa kb (.inl rfl) ?_
  simp
  refine aa t0 (.inl rfl) ?_
  simp
  refine aa x0 (.inr rfl) ?_
  simp
  refine ⟨ah (by decide +kernel),?_⟩
  refine aa y3 (.inr rfl) ?_
  simp
  exact ⟨3,by omega,by omega,by simp [cv,w3]⟩
 ·simp [cv]
  refine aa ka (.inl rfl) ?_
  simp
  refine aa kb (.inl rfl) ?_
  simp
  refine aa kc (.inl rfl) ?_
  simp
  refine aa td (.inl rfl) ?_
  simp
  exact ah (by decide +kernel)
theorem oH (v : Int) (d : Nat) (up : Bool) (hd0 : 0 < d) (hd : d <= 2251799813685248) (hv : v.natAbs <= 4194304 * d) : C 301 [wiS v,.int .i64 d,.bool up] (.tup [.int .i64 (if up then -(-v / d) else v / d),.int .i64 0]) []:=by
 have k1:=kI hC v (by omega)
 have k2:=mr hC v (by omega)
 obtain ⟨Q,hQ⟩ : ∃ Q,Q=(if up then -(-v / (d : Int)) else v / (d : Int)):=⟨_,rfl⟩
 have hdiv : v.natAbs / d <= 4194304:=Nat.div_le_of_le_mul (by rw [Nat.mul_comm];exact hv)
 have k3 : C 104 [f8 v,.int .i64 d,.bool up] (.tup [.int .i64 Q,.int .i64 0]) []:=by
  by_cases v0 : v < 0
  ·obtain ⟨n,rfl⟩ : ∃ n : Nat,v=-(n : Int):=⟨v.natAbs,by omega⟩
   rw [Int.natAbs_neg,Int.natAbs_natCast] at hv hdiv
   have k:=pf hC n d up (if up then n / d else if n % d=0 then n / d else n / d + 1) (by omega) (by omega) (by omega) (by split;omega;split <;> omega) rfl (by omega)
   have e1 : f8 (-(n : Int))=eI n true:=fF (by omega) (decide_eq_true v0)
   have e2 : Q=-((if up then n / d else if n % d=0 then n / d else n / d + 1 : Nat) : Int):=by
    rw [hQ]
    cases up
    ·simp only [Bool.false_eq_true,if_false]
     exact kV n d hd0
    ·simp
   rw [e1,e2]
   exact k
  ·obtain ⟨n,rfl⟩ : ∃ n : Nat,v=(n : Int):=⟨v.natAbs,by omega⟩
   rw [Int.natAbs_natCast] at hv hdiv
   have hle : (n + d - 1) / d <= n / d + 1:=by
    have : (n + d - 1) / d <= (n + d) / d:=Nat.div_le_div_right (by omega)
    rw [Nat.add_div_right _ hd0] at this
    exact this
   have k:=qr hC n d up (if up then (n + d - 1) / d else n / d) (by omega) (by omega) (by split <;> omega) rfl (by omega)
   have e1 : f8 (n : Int)=eI n false:=fF (by omega) (decide_eq_false v0)
   have e2 : Q=((if up then (n + d - 1) / d else n / d : Nat) : Int):=by
    rw [hQ]
    cases up
    ·simp
    ·simp only [if_true]
     rw [kV n d hd0,Int.neg_neg]
     congr 1
     have h1:=Nat.div_add_mod n d
     have h2:=Nat.mod_lt n hd0
     split
     ·rename_i h
      have : n + d - 1=d * (n / d) + (d - 1):=by omega
      rw [this,Nat.mul_add_div hd0,Nat.div_eq_of_lt (show d - 1 < d by omega)]
      rfl
     ·rename_i h
      have : n + d - 1=d * (n / d) + (d + (n % d - 1)):=by omega
      rw [this,Nat.mul_add_div hd0,Nat.add_div_left _ hd0,Nat.div_eq_of_lt (show n % d - 1 < d by omega)]
   rw [e1,e2]
   exact k
 rw [<- hQ]
 obtain ⟨a1,a2,_,_,ea⟩:=b6 v
 obtain ⟨f1,f2,f3,ef⟩ : ∃ (a1 a2 : Nat) (a3 : Bool),f8 v=.agg [.int .u64 a1,.int .u64 a2,.bool a3]:=⟨_,_,_,rfl⟩
 rw [ea] at k1 k2 ⊢
 rw [ef] at k2 k3
 have h1 : ¬ d=0:=by omega
 clear hQ ea ef
 refine start hC (nf:=N301) rfl rfl ?_
 simp [N301]
 refine aa k1 (.inl rfl) ?_
 simp [h1]
 refine aa k2 (.inl rfl) ?_
 simp
 refine aa k3 (.inr rfl) ?_
 simp
theorem vP (v : Int) (d : Nat) (hd0 : 0 < d) (hd : d <= 2251799813685248) (hv : v.natAbs <= 4194304 * d) : C 271 [wiS v,.int .i64 d] (.tup [.int .i64 (v / d),.int .i64 0]) []:=by
 have k:=oH hC v d false hd0 hd hv
 simp at k
 obtain ⟨Q,hQ⟩ : ∃ Q,Q=v / (d : Int):=⟨_,rfl⟩
 rw [<- hQ] at k ⊢
 obtain ⟨a1,a2,_,_,ea⟩:=b6 v
 rw [ea] at k ⊢
 refine start hC (nf:=N271) rfl rfl ?_
 simp [N271]
 refine aa k (.inl rfl) ?_
 simp
theorem zP (v : Int) (d : Nat) (hd0 : 0 < d) (hd : d <= 2251799813685248) (hv : v.natAbs <= 4194304 * d) : C 272 [wiS v,.int .i64 d] (.tup [.int .i64 (-(-v / d)),.int .i64 0]) []:=by
 have k:=oH hC v d true hd0 hd hv
 simp only [if_true] at k
 obtain ⟨Q,hQ⟩ : ∃ Q,Q=-(-v / (d : Int)):=⟨_,rfl⟩
 rw [<- hQ] at k ⊢
 obtain ⟨a1,a2,_,_,ea⟩:=b6 v
 rw [ea] at k ⊢
 refine start hC (nf:=N272) rfl rfl ?_
 simp [N272]
 refine aa k (.inl rfl) ?_
 simp
def wz : D:=.agg [.int .i64 0,.int .i64 0]
theorem uq (dec : Nat -> List UInt8) (hI : ∀ n : Nat,n < 100 -> C 127 [.int .i64 n] (.str (dec n)) []) (m : Msh) (hz : bW m=true -> m.s.length <= 100 /\ m.f.length <= 100) (p : Pnt) :
  C 269 [.agg (aY m),.agg (ptD p)] (if onE m p=0 then .tup [wiS (i6 m (eC m p).toNat p),.int .i64 (fx m (eC m p).toNat),.int .i64 0] else .tup [wz,.int .i64 0,.int .i64 (onE m p)]) []:=by
 have k1:=Ig hC dec hI m hz p
 by_cases h0 : onE m p=0
 ·obtain ⟨hv,hp,hf⟩:=qk h0
  obtain ⟨hi,ho⟩:=nG hf
  have k2:=ut hC m hv _ hi p hp ho
  rw [if_pos h0]
  have e : onV m p=eC m p:=by rw [onV,if_pos h0]
  rw [h0,e] at k1
  rw [show (((eC m p).toNat : Nat) : Int)=eC m p by omega] at k2
  obtain ⟨a1,a2,_,_,ea⟩:=b6 (i6 m (eC m p).toNat p)
  rw [ea] at k2 ⊢
  simp only [ab,ptD] at k1 k2
  refine start hC (nf:=N269) rfl rfl ?_
  simp [N269,ab,ptD]
  refine aa k1 (.inl rfl) ?_
  simp
  refine aa k2 (.inr rfl) ?_
  simp
 ·rw [if_neg h0]
  simp only [ab,ptD] at k1
  refine start hC (nf:=N269) rfl rfl ?_
  simp [N269,ab,ptD]
  refine aa k1 (.inl rfl) ?_
  simp [h0,wz]
theorem oQ (dec : Nat -> List UInt8) (hI : ∀ n : Nat,n < 100 -> C 127 [.int .i64 n] (.str (dec n)) []) (m : Msh) (hz : bW m=true -> m.s.length <= 100 /\ m.f.length <= 100) (p : Pnt) :
  C 233 [.agg (aY m),.agg (ptD p)] (if onE m p=0 then .tup [.agg [.int .i64 (loF m (eC m p).toNat p),.int .i64 (hiF m (eC m p).toNat p)],.int .i64 0] else .tup [wz,.int .i64 (onE m p)]) []:=by
 have k1:=uq hC dec hI m hz p
 by_cases h0 : onE m p=0
 ·obtain ⟨hv,hp,hf⟩:=qk h0
  obtain ⟨hi,ho⟩:=nG hf
  have H:=qm hv hi hp ho
  obtain ⟨i,hi2⟩ : ∃ i,i=(eC m p).toNat:=⟨_,rfl⟩
  rw [if_pos h0] at k1 ⊢
  rw [<- hi2] at k1 H ⊢
  obtain ⟨d,hd⟩ : ∃ d : Nat,fx m i=d:=⟨(fx m i).toNat,by have:=H.d;omega⟩
  have b1:=H.num
  have b2:=H.d
  rw [hd] at b1 b2
  have k2:=vP hC (i6 m i p) d (by omega) (by omega) (by omega)
  have k3:=zP hC (i6 m i p) d (by omega) (by omega) (by omega)
  rw [show i6 m i p / (d : Int)=loF m i p by rw [loF,hd]] at k2
  rw [show -(-i6 m i p / (d : Int))=hiF m i p by rw [hiF,hd]] at k3
  rw [hd] at k1
  obtain ⟨a1,a2,_,_,ea⟩:=b6 (i6 m i p)
  rw [ea] at k1 k2 k3
  simp only [ab,ptD] at k1
  clear b1 b2 H
  refine start hC (nf:=N233) rfl rfl ?_
  simp [N233,ab,ptD]
  refine aa k1 (.inr rfl) ?_
  simp
  refine aa k2 (.inl rfl) ?_
  simp
  refine aa k3 (.inl rfl) ?_
  simp
 ·rw [if_neg h0] at k1 ⊢
  simp only [ab,ptD,wz] at k1
  refine start hC (nf:=N233) rfl rfl ?_
  simp [N233,ab,ptD]
  refine aa k1 (.inr rfl) ?_
  simp [h0,wz]
end Go.Gv

namespace Go.Gv
def Pm (m : Msh) (a b : Int) : Int:=if rq m a b < 0 then 0 else jC (fun j=>decide (crn (fce m (rq m a b).toNat) j=a) && decide (crn (fce m (rq m a b).toNat) (j + 1)=b)) (List.range 3)
def acK (m : Msh) (i k : Nat) : Int:=Pm m (crn (fce m i) (k + 1)) (crn (fce m i) k)
def nbT (m : Msh) (i : Nat) : List (List D):=(List.range i).map fun j=>[.int .i64 (nbF m j 0),.int .i64 (nbF m j 1),.int .i64 (nbF m j 2)]
@[simp] theorem Nd (m : Msh) (i : Nat) : (nbT m i).length=i:=by simp [nbT]
@[simp] theorem Il (m : Msh) (i : Nat) : List.take i (nbT m i)=nbT m i:=List.take_of_length_le (by simp)
@[simp] theorem Pb (m : Msh) (i : Nat) : List.map (fun e=>List.map aR e) (nbT m i)=nbT m i:=by simp [nbT]
variable {C : CC} (hC : aA prog C)
include hC
end Go.Gv

namespace Go.Gv
open Go.Lib
def tr3 (m : Msh) (i : Nat) : List (List D):=[ptD (ptS (spA m i)),ptD (ptS (spB m i)),ptD (ptS (spC m i))]
theorem kH (m : Msh) (i : Nat) : tr3 m i=[ptD (ptS (spA m i)),ptD (ptS (spB m i)),ptD (ptS (spC m i))]:=_root_.id rfl
theorem sw (m : Msh) (i : Nat) (p : Pnt) : (osF m i p=0 /\ tn0 m i p < 0) \/ (osF m i p=1 /\ ¬ tn0 m i p < 0 /\ tn1 m i p < 0) \/ (osF m i p=2 /\ ¬ tn0 m i p < 0 /\ ¬ tn1 m i p < 0 /\ tn2 m i p < 0) \/ (osF m i p=-1 /\ ¬ tn0 m i p < 0 /\ ¬ tn1 m i p < 0 /\ ¬ tn2 m i p < 0):=by
 unfold osF
 split
 ·exact .inl ⟨rfl,‹_›⟩
 ·split
  ·exact .inr (.inl ⟨rfl,‹_›,‹_›⟩)
  ·split
   ·exact .inr (.inr (.inl ⟨rfl,‹_›,‹_›,‹_›⟩))
   ·exact .inr (.inr (.inr ⟨rfl,‹_›,‹_›,‹_›⟩))
def sdF (m : Msh) (i : Nat) (p : Pnt) (k : Nat) : Int:=if 0 <= osF m i p /\ osF m i p < k then osF m i p else -1
variable {C : CC} (hC : aA prog C)
include hC
theorem qq (m : Msh) (hv : aF m=true) (i : Nat) (hi : i < m.f.length) : C 285 [.agg (aY m),.agg (bx (fce m i))] (.sl (tr3 m i)) []:=nU hC m (fce m i) (gi hv hi)
set_option maxHeartbeats 2000000 in
theorem zy (m : Msh) (hv : aF m=true) (i : Nat) (hi : i < m.f.length) (p : Pnt) (hp : okP p=true) : C 277 [.agg (aY m),.int .i64 i,.agg (ptD p)] (.bool (decide (osF m i p < 0))) []:=by
 obtain ⟨oa,ob,oc⟩:=kF hv hi
 have k0:=qq hC m hv i hi
 have t0 : C 286 [.agg (ptD (ptS (spA m i))),.agg (ptD (ptS (spB m i))),.agg (ptD p)] (.int .i64 (tn0 m i p)) []:=d6 hC oa ob hp
 have t1 : C 286 [.agg (ptD (ptS (spB m i))),.agg (ptD (ptS (spC m i))),.agg (ptD p)] (.int .i64 (tn1 m i p)) []:=d6 hC ob oc hp
 have t2 : C 286 [.agg (ptD (ptS (spC m i))),.agg (ptD (ptS (spA m i))),.agg (ptD p)] (.int .i64 (tn2 m i p)) []:=d6 hC oc oa hp
 have w1 : IntKind.wrap .i64 1=1:=by decide
 have w2 : IntKind.wrap .i64 2=2:=by decide
 have w3 : IntKind.wrap .i64 3=3:=by decide
 have m1 : Int.tmod 1 3=1:=by decide
 have m2 : Int.tmod 2 3=2:=by decide
 have m3 : Int.tmod 3 3=0:=by decide
 simp only [ab,aP] at k0
 refine start hC (nf:=N277) rfl rfl ?_
 simp [N277,ab,hi,aP]
 refine aa k0 (.inr rfl) ?_
 simp
 refine ⟨ah (by decide +kernel),?_⟩
 refine au Nat (fun k=>[(5,.ptr (ptD p)),(7,.sl (tr3 m i)),(8,.int .i64 k)]) (fun k=>k <= 3 /\ (1 <= k -> ¬ tn0 m i p < 0) /\ (2 <= k -> ¬ tn1 m i p < 0) /\ (3 <= k -> ¬ tn2 m i p < 0)) (fun k=>3 - k) 0 (by simp) (by simp) ?_
 rintro k ⟨hk,h0,h1,h2⟩
 rcases (by omega : k=0 \/ k=1 \/ k=2 \/ k=3) with rfl | rfl | rfl | rfl
 ·simp [kH,w1,m1]
  refine aa t0 (.inl rfl) ?_
  simp
  refine ⟨ah (by decide +kernel),?_⟩
  refine al (fun c=>?_) (fun c=>?_) <;> simp at c
  ·simp [c,osF]
  ·simp [c]
   exact ⟨1,by omega,by omega,by simp [kH,w1]⟩
 ·have h0:=h0 (by omega)
  simp [kH,w2,m2]
  refine aa t1 (.inl rfl) ?_
  simp
  refine ⟨ah (by decide +kernel),?_⟩
  refine al (fun c=>?_) (fun c=>?_) <;> simp at c
  ·simp [c,osF,h0]
  ·simp [c]
   exact ⟨2,by omega,by omega,by simp [kH,w2]⟩
 ·have h0:=h0 (by omega)
  have h1:=h1 (by omega)
  simp [kH,w3,m3]
  refine aa t2 (.inl rfl) ?_
  simp
  refine ⟨ah (by decide +kernel),?_⟩
  refine al (fun c=>?_) (fun c=>?_) <;> simp at c
  ·simp [c,osF,h0,h1]
  ·simp [c]
   exact ⟨3,by omega,by omega,by simp [kH,w3]⟩
 ·have h0:=h0 (by omega)
  have h1:=h1 (by omega)
  have h2:=h2 (by omega)
  simp [osF,h0,h1,h2]
theorem m8 (p : Pnt) : C 237 [.agg (ptD p)] (.bool (okP p)) []:=by
 refine start hC (nf:=N237) rfl rfl ?_
 simp [N237,ptD,okP]
 repeat' (refine al (fun h=>?_) (fun h=>?_) <;> simp at h <;> simp [h] <;> try omega)
def PK (m : Msh) : Bool:=decide ((m.s.length : Int) <= 60) && decide ((m.f.length : Int) <= 60)
end Go.Gv

namespace Go.Gv
open Go.Lib
def exL : Msh:=⟨false,[⟨0,0,100⟩,⟨1000,0,200⟩,⟨0,1000,400⟩],false,[⟨0,1,2,0⟩]⟩
variable {C : CC} (hC : aA prog C)
include hC
end Go.Gv

namespace Go.Gv
variable {C : CC} (hC : aA prog C)
include hC
end Go.Gv
