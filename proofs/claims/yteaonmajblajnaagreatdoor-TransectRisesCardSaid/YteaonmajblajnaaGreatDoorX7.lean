/-
  Texts of the proof: K4, K5, K6, K7, K8, M0, W1, W2, W3, H8, I1, V1, M3, M4, P3, Z1, Z2, V2, Z3, H2, H3, H4, H5, H6, GvX2, H10, H7, H9, H11, H12, V3, V4, Z4, Z5, Z6, I3, Z7, Z8, Z9.
-/
import Derived.Test.YteaonmajblajnaaGreatDoorX6
import Derived.Lib.Mul64
import Derived.Laws.Bits64b
import Derived.Laws.MathBits
set_option linter.all false
namespace Go.Gv
open Go.Lib
theorem oX (a : Nat) (ha : a < 18446744073709551616) : bits .and .u64 (a : Int) 4294967295=((a % 4294967296 : Nat) : Int):=by
 have h:=bits_and_u64_nat a 4294967295 ha (by omega)
 have e : a &&& 4294967295=a % 4294967296:=Nat.and_two_pow_sub_one_eq_mod a 32
 rw [e] at h
 exact h
theorem qF (a k : Nat) : Int.fdiv (a : Int) (2 ^ k)=((a / 2 ^ k : Nat) : Int):=by
 rw [Int.fdiv_eq_ediv_of_nonneg _ (by exact Int.pow_nonneg (by omega))]
 norm_cast
theorem rF (a : Nat) : Int.fdiv (a : Int) (2 ^ min 32 IntKind.u64.bits)=((a / 4294967296 : Nat) : Int):=qF a 32
theorem uO (a b : Nat) : (a : Int) * (b : Int)=((a * b : Nat) : Int):=(Int.natCast_mul a b).symm
theorem FC (a b : Nat) : (a : Int) + (b : Int)=((a + b : Nat) : Int):=(Int.natCast_add a b).symm
theorem dg (a : Nat) (ha : a < 18446744073709551616) : IntKind.u64.wrap (a : Int)=(a : Int):=by
 have e1 : IntKind.u64.signed=false:=rfl
 have e3 : (2 ^ IntKind.u64.bits : Int)=18446744073709551616:=rfl
 unfold IntKind.wrap
 simp only [e1,e3,Bool.false_and]
 simp
 omega
theorem vR (a : Nat) : IntKind.u64.wrap (a : Int)=((a % 18446744073709551616 : Nat) : Int):=by
 have e1 : IntKind.u64.signed=false:=rfl
 have e3 : (2 ^ IntKind.u64.bits : Int)=18446744073709551616:=rfl
 unfold IntKind.wrap
 simp only [e1,e3,Bool.false_and]
 simp
variable {C : CC} (hC : aw prog C)
include hC
theorem qP (x y : Nat) (hx : x < 18446744073709551616) (hy : y < 18446744073709551616) : C 91 [.int .u64 x,.int .u64 y] (.tup [.int .u64 ((x * y / 18446744073709551616 : Nat) : Int),.int .u64 ((x * y % 18446744073709551616 : Nat) : Int)]) []:=by
 refine start hC (nf:=N91) rfl rfl ?_
 obtain ⟨bd,bt,bw,hhi⟩:=Lib.mul64_hi x y hx hy
 have ba:=Lib.half_mul_le (a:=x / 4294967296) (b:=y / 4294967296) (by omega) (by omega)
 have bb:=Lib.half_mul_le (a:=x / 4294967296) (b:=y % 4294967296) (by omega) (by omega)
 have bc:=Lib.half_mul_le (a:=x % 4294967296) (b:=y / 4294967296) (by omega) (by omega)
 have ba' : x / 4294967296 * (y / 4294967296) < 18446744073709551616:=by omega
 have bb' : x / 4294967296 * (y % 4294967296) < 18446744073709551616:=by omega
 have bc' : x % 4294967296 * (y / 4294967296) < 18446744073709551616:=by omega
 have bh1 : x / 4294967296 * (y / 4294967296) + (x / 4294967296 * (y % 4294967296) + x % 4294967296 * (y % 4294967296) / 4294967296) / 4294967296 < 18446744073709551616:=by omega
 have bh : x / 4294967296 * (y / 4294967296) + (x / 4294967296 * (y % 4294967296) + x % 4294967296 * (y % 4294967296) / 4294967296) / 4294967296 + ((x / 4294967296 * (y % 4294967296) + x % 4294967296 * (y % 4294967296) / 4294967296) % 4294967296 + x % 4294967296 * (y / 4294967296)) / 4294967296 < 18446744073709551616:=by omega
 simp [N91]
 simp only [oX x hx,oX y hy,rF,uO,FC,dg _ bd,dg _ bb',dg _ bt,oX _ bt,dg _ bc',dg _ bw,dg _ ba',dg _ bh1,dg _ bh,vR (x * y)]
 rw [hhi]
 exact ⟨by omega,by omega⟩
end Go.Gv

namespace Go.Gv
theorem Af (a : Nat) : Int.fdiv (a : Int) (2 ^ min 16 IntKind.u64.bits)=((a / 65536 : Nat) : Int):=qF a 16
theorem yb (a : Nat) : Int.fdiv (a : Int) (2 ^ min 8 IntKind.u64.bits)=((a / 256 : Nat) : Int):=qF a 8
theorem Km (a : Nat) (h : a < 256) : IntKind.u8.wrap (a : Int)=(a : Int):=by
 have e1 : IntKind.u8.signed=false:=rfl
 have e3 : (2 ^ IntKind.u8.bits : Int)=256:=rfl
 unfold IntKind.wrap
 simp only [e1,e3,Bool.false_and]
 simp
 omega
theorem qk : S1.length=256 /\ ∀ n : Fin 256,S1[n.val]?.getD 0=UInt8.ofNat (bitLen n.val) /\ bitLen n.val <= 8:=by decide +kernel
theorem ee {x n z : Nat} {m : Int} (hz : z < 256) (hm : m=n) (hn : n <= 56) (h : n + bitLen z=bitLen x) : 0 <= IntKind.u8.wrap (z : Int) /\ (IntKind.u8.wrap (z : Int)).toNat < S1.length /\ IntKind.i64.wrap (m + IntKind.i64.wrap ↑(S1[(IntKind.u8.wrap (z : Int)).toNat]?.getD default).toNat)=(bitLen x : Int):=by
 rw [Km z hz]
 obtain ⟨h1,h2⟩:=qk
 obtain ⟨h3,h4⟩:=h2 ⟨z,hz⟩
 have e : (S1[(z : Int).toNat]?.getD default).toNat=bitLen z:=by
  show (S1[z]?.getD 0).toNat=bitLen z
  simp only at h3 h4
  rw [h3,UInt8.toNat_ofNat']
  omega
 simp only at h4
 rw [e]
 have e2 : IntKind.i64.wrap (bitLen z : Int)=(bitLen z : Int):=ae rfl (by omega)
 refine ⟨by omega,by omega,?_⟩
 rw [e2,hm]
 exact ae (by omega) (by omega)
variable {C : CC} (hC : aw prog C)
include hC
theorem wh (x : Nat) (hx : x < 18446744073709551616) : C 111 [.int .u64 x] (.int .i64 (bitLen x)) []:=by
 refine start hC (nf:=N111) rfl rfl ?_
 have key : ∀ (b z : Nat),2 ^ b <= z -> bitLen z=b + bitLen (z / 2 ^ b):=fun b z h=>bitLen_shift z b (by
  have:=Nat.div_pos h (Nat.two_pow_pos b)
  omega)
 simp [N111]
 refine al (fun h1=>?_) (fun h1=>?_) <;> simp at h1
 ·obtain ⟨y,hy⟩ : ∃ y : Nat,y=x / 4294967296:=⟨_,rfl⟩
  have e1 : Int.fdiv (x : Int) (2 ^ min 32 IntKind.u64.bits)=(y : Int):=by rw [rF,hy]
  have k1:=key 32 x (by omega)
  simp [e1]
  refine al (fun h2=>?_) (fun h2=>?_) <;> simp at h2
  ·obtain ⟨z,hz⟩ : ∃ z : Nat,z=y / 65536:=⟨_,rfl⟩
   have e2 : Int.fdiv (y : Int) (2 ^ min 16 IntKind.u64.bits)=(z : Int):=by rw [Af,hz]
   have k2:=key 16 y (by omega)
   simp [e2]
   refine al (fun h3=>?_) (fun h3=>?_) <;> simp at h3
   ·obtain ⟨v,hv⟩ : ∃ v : Nat,v=z / 256:=⟨_,rfl⟩
    have e3 : Int.fdiv (z : Int) (2 ^ min 8 IntKind.u64.bits)=(v : Int):=by rw [yb,hv]
    have k3:=key 8 z (by omega)
    simp [e3]
    refine ee (n:=56) (by omega) ?_ (by omega) ?_
    ·decide
    ·simp only [Nat.reducePow] at k1 k2 k3
     rw [<- hy] at k1;rw [<- hz] at k2;rw [<- hv] at k3;omega
   ·simp
    refine ee (n:=48) (by omega) ?_ (by omega) ?_
    ·decide
    ·simp only [Nat.reducePow] at k1 k2
     rw [<- hy] at k1;rw [<- hz] at k2;omega
  ·simp
   refine al (fun h3=>?_) (fun h3=>?_) <;> simp at h3
   ·obtain ⟨v,hv⟩ : ∃ v : Nat,v=y / 256:=⟨_,rfl⟩
    have e3 : Int.fdiv (y : Int) (2 ^ min 8 IntKind.u64.bits)=(v : Int):=by rw [yb,hv]
    have k3:=key 8 y (by omega)
    simp [e3]
    refine ee (n:=40) (by omega) ?_ (by omega) ?_
    ·decide
    ·simp only [Nat.reducePow] at k1 k3
     rw [<- hy] at k1;rw [<- hv] at k3;omega
   ·simp
    refine ee (n:=32) (by omega) ?_ (by omega) ?_
    ·decide
    ·simp only [Nat.reducePow] at k1
     rw [<- hy] at k1;omega
 ·simp
  refine al (fun h2=>?_) (fun h2=>?_) <;> simp at h2
  ·obtain ⟨z,hz⟩ : ∃ z : Nat,z=x / 65536:=⟨_,rfl⟩
   have e2 : Int.fdiv (x : Int) (2 ^ min 16 IntKind.u64.bits)=(z : Int):=by rw [Af,hz]
   have k2:=key 16 x (by omega)
   simp [e2]
   refine al (fun h3=>?_) (fun h3=>?_) <;> simp at h3
   ·obtain ⟨v,hv⟩ : ∃ v : Nat,v=z / 256:=⟨_,rfl⟩
    have e3 : Int.fdiv (z : Int) (2 ^ min 8 IntKind.u64.bits)=(v : Int):=by rw [yb,hv]
    have k3:=key 8 z (by omega)
    simp [e3]
    refine ee (n:=24) (by omega) ?_ (by omega) ?_
    ·decide
    ·simp only [Nat.reducePow] at k2 k3
     rw [<- hz] at k2;rw [<- hv] at k3;omega
   ·simp
    refine ee (n:=16) (by omega) ?_ (by omega) ?_
    ·decide
    ·simp only [Nat.reducePow] at k2
     rw [<- hz] at k2;omega
  ·simp
   refine al (fun h3=>?_) (fun h3=>?_) <;> simp at h3
   ·obtain ⟨v,hv⟩ : ∃ v : Nat,v=x / 256:=⟨_,rfl⟩
    have e3 : Int.fdiv (x : Int) (2 ^ min 8 IntKind.u64.bits)=(v : Int):=by rw [yb,hv]
    have k3:=key 8 x (by omega)
    simp [e3]
    refine ee (n:=8) (by omega) ?_ (by omega) ?_
    ·decide
    ·simp only [Nat.reducePow] at k3
     rw [<- hv] at k3;omega
   ·simp
    have:=ee (x:=x) (n:=0) (m:=0) (z:=x) (by omega) rfl (by omega) (by omega)
    simpa using this
theorem jH (x : Nat) (hx : x < 18446744073709551616) : C 102 [.int .u64 x] (.int .i64 ((64 - bitLen x : Nat) : Int)) []:=by
 have hb : bitLen x <= 64:=by
  unfold bitLen
  split
  ·omega
  ·rename_i h
   have:=(Nat.log2_lt h).2 (show x < 2 ^ 64 by omega)
   omega
 refine start hC (nf:=N102) rfl rfl ?_
 simp [N102]
 refine aa (wh hC x hx) (.inl rfl) ?_
 have e : IntKind.wrap .i64 (64 - (bitLen x : Int))=((64 - bitLen x : Nat) : Int):=ae (by omega) (by omega)
 simp [e]
end Go.Gv

namespace Go.Gv
structure DvI (u d a b q r : Nat) : Prop where
 sum : q * a + r=u
 ge : (u * 4294967296 + d) / (a * 4294967296 + b) <= q
 rlt : r < 4294967296
 qle : q <= 4294967297
section
variable {u d a b q r : Nat}
theorem Dv.mul (h : q * a + r=u) : q * (a * 4294967296 + b) + r * 4294967296=u * 4294967296 + q * b:=by
 subst h
 rw [Nat.mul_add,<- Nat.mul_assoc,Nat.add_mul]
 omega
theorem Dv.lt (_ : 0 < a) (hu : u < a * 4294967296 + b) (hd : d < 4294967296) : (u * 4294967296 + d) / (a * 4294967296 + b) < 4294967296:=by
 rw [Nat.div_lt_iff_lt_mul (by omega)]
 have : (u + 1) * 4294967296 <= (a * 4294967296 + b) * 4294967296:=Nat.mul_le_mul_right _ hu
 omega
theorem DvI.first (ha : 2147483648 <= a) (ha2 : a < 4294967296) (hb : b < 4294967296) (hu : u < a * 4294967296 + b) (hd : d < 4294967296) : DvI u d a b (u / a) (u % a) where
 sum:=by rw [Nat.mul_comm];exact Nat.div_add_mod u a
 rlt:=by have:=Nat.mod_lt u (show 0 < a by omega);omega
 ge:=by
  rw [Nat.le_div_iff_mul_le (by omega)]
  have h:=Nat.div_mul_le_self (u * 4294967296 + d) (a * 4294967296 + b)
  generalize (u * 4294967296 + d) / (a * 4294967296 + b)=Q at *
  rw [Nat.mul_add,<- Nat.mul_assoc] at h
  generalize Q * b=z at *
  generalize Q * a=x at *
  omega
 qle:=by
  have : u / a < 4294967298:=by
   rw [Nat.div_lt_iff_lt_mul (by omega)]
   omega
  omega
theorem DvI.more (h : DvI u d a b q r) (ha : 0 < a) (hu : u < a * 4294967296 + b) (hd : d < 4294967296) (hc : 4294967296 <= q \/ 4294967296 * r + d < q * b) : (u * 4294967296 + d) / (a * 4294967296 + b) + 1 <= q:=by
 rcases hc with hc | hc
 ·have:=Dv.lt (d:=d) ha hu hd
  omega
 ·have h1:=Dv.mul (b:=b) h.sum
  have : (u * 4294967296 + d) / (a * 4294967296 + b) < q:=by
   rw [Nat.div_lt_iff_lt_mul (by omega)]
   generalize q * (a * 4294967296 + b)=z at *
   generalize q * b=x at *
   omega
  omega
theorem DvI.done (h : DvI u d a b q r) (ha : 0 < a) (hc : q * b <= 4294967296 * r + d) : q=(u * 4294967296 + d) / (a * 4294967296 + b):=by
 have h1:=Dv.mul (b:=b) h.sum
 have h2:=h.ge
 have : q <= (u * 4294967296 + d) / (a * 4294967296 + b):=by
  rw [Nat.le_div_iff_mul_le (by omega)]
  generalize q * (a * 4294967296 + b)=z at *
  generalize q * b=x at *
  omega
 omega
theorem DvI.next (h : DvI u d a b q r) (ha : 0 < a) (hu : u < a * 4294967296 + b) (hd : d < 4294967296) (hc : 4294967296 <= q \/ 4294967296 * r + d < q * b) :
  1 <= q /\ (q - 1) * a + (r + a)=u /\ (u * 4294967296 + d) / (a * 4294967296 + b) <= q - 1 /\ q - 1 <= 4294967296:=by
 have h1:=h.more ha hu hd hc
 have h2:=h.qle
 have h3:=h.sum
 generalize (u * 4294967296 + d) / (a * 4294967296 + b)=Q at *
 obtain ⟨q',rfl⟩ : ∃ q',q=q' + 1:=⟨q - 1,by omega⟩
 refine ⟨by omega,?_,by omega,by omega⟩
 rw [Nat.add_mul] at h3
 simp only [Nat.add_sub_cancel]
 omega
theorem Dv.stop (hs : q * a + r=u) (hg : (u * 4294967296 + d) / (a * 4294967296 + b) <= q) (hq : q <= 4294967296) (ha : 0 < a) (hb : b < 4294967296) (hr : 4294967296 <= r) : q=(u * 4294967296 + d) / (a * 4294967296 + b):=by
 have h1:=Dv.mul (b:=b) hs
 have h3 : q * b <= 4294967296 * 4294967295:=Nat.mul_le_mul hq (by omega)
 have : q <= (u * 4294967296 + d) / (a * 4294967296 + b):=by
  rw [Nat.le_div_iff_mul_le (by omega)]
  generalize q * (a * 4294967296 + b)=z at *
  generalize q * b=x at *
  omega
 omega
theorem DvI.bnd (h : DvI u d a b q r) (hb : b < 4294967296) : q * b < 18446744073709551616:=by
 have:=Nat.mul_le_mul h.qle (show b <= 4294967295 by omega)
 omega
end
theorem AV {N y S A K un0 y' : Nat} (hy : 0 < y) (hs : 0 < S) (hy' : y'=y * S) (hn : N * S=A * K + un0) :
  A / y' * K + (A % y' * K + un0) / y'=N / y /\ (A % y' * K + un0) % y' / S=N % y:=by
 have hyp : 0 < y':=by rw [hy'];exact Nat.mul_pos hy hs
 have e1:=Nat.div_add_mod A y'
 have e2:=Nat.div_add_mod (A % y' * K + un0) y'
 have l2:=Nat.mod_lt (A % y' * K + un0) hyp
 have tot : y' * (A / y' * K + (A % y' * K + un0) / y') + (A % y' * K + un0) % y'=N * S:=by
  rw [hn,Nat.mul_add,Nat.add_assoc,e2,<- Nat.mul_assoc,<- Nat.add_assoc,<- Nat.add_mul,e1]
 have hq : N * S / y'=A / y' * K + (A % y' * K + un0) / y':=by
  rw [<- tot,Nat.mul_add_div hyp,Nat.div_eq_of_lt l2,Nat.add_zero]
 have hr : N * S % y'=(A % y' * K + un0) % y':=by
  rw [<- tot,Nat.mul_add_mod,Nat.mod_eq_of_lt l2]
 rw [hy',Nat.mul_div_mul_right _ _ hs] at hq
 rw [hy',Nat.mul_mod_mul_right] at hr
 rw [hy'] at *
 exact ⟨hq.symm,by rw [<- hr,Nat.mul_div_cancel _ hs]⟩
end Go.Gv

namespace Go.Gv
theorem vN (a b : Nat) : Int.tdiv (a : Int) (b : Int)=((a / b : Nat) : Int):=by
 rw [Int.tdiv_eq_ediv_of_nonneg (by omega)];norm_cast
theorem Kh (a b : Nat) : Int.tmod (a : Int) (b : Int)=((a % b : Nat) : Int):=by
 rw [Int.tmod_eq_emod_of_nonneg (by omega)];norm_cast
theorem ij (a : Int) : IntKind.u64.wrap a=a % 18446744073709551616:=by
 have e1 : IntKind.u64.signed=false:=rfl
 have e3 : (2 ^ IntKind.u64.bits : Int)=18446744073709551616:=rfl
 unfold IntKind.wrap
 simp only [e1,e3,Bool.false_and]
 simp
theorem orN (a b i : Nat) (hb : b < 2 ^ i) (h : a * 2 ^ i + b < 18446744073709551616) : bits .or .u64 ((a * 2 ^ i : Nat) : Int) (b : Int)=((a * 2 ^ i + b : Nat) : Int):=by
 rw [bits_or_u64_nat _ _ (by omega) (by omega),Nat.mul_comm a,Nat.two_pow_add_eq_or_of_lt hb]
theorem sA (a m b s : Nat) : (a * m + b) * s=a * s * m + b * s:=by rw [Nat.add_mul,Nat.mul_right_comm]
theorem Ki {H B W U d1 d0 : Nat} (hU : U=H + B) (h1 : d1=W / 4294967296) (h0 : d0=W % 4294967296) : H * 18446744073709551616 + (B * 18446744073709551616 + W)=(U * 4294967296 + d1) * 4294967296 + d0:=by omega
theorem BX {y s : Nat} (h0 : y ≠ 0) (hy : y < 18446744073709551616) (hs : s=64 - bitLen y) : s <= 63 /\ 9223372036854775808 <= y * 2 ^ s /\ y * 2 ^ s < 18446744073709551616:=by
 obtain ⟨h1,h2⟩:=bitLen_spec y
 have h3:=h2 h0
 have hb : bitLen y <= 64:=by
  unfold bitLen
  rw [if_neg h0]
  have:=(Nat.log2_lt h0).2 (show y < 2 ^ 64 by omega)
  omega
 have hb1 : 1 <= bitLen y:=by unfold bitLen;rw [if_neg h0];omega
 have e : bitLen y + s=64:=by omega
 refine ⟨by omega,?_,?_⟩
 ·have:=Nat.mul_le_mul_right (2 ^ s) h3
  rw [<- Nat.pow_add,show bitLen y - 1 + s=63 by omega] at this
  omega
 ·have:=Nat.mul_lt_mul_of_pos_right h1 (Nat.two_pow_pos s)
  rw [<- Nat.pow_add,e] at this
  omega
variable {C : CC} (hC : aw prog C)
include hC
theorem qO (hi lo y : Nat) (h : hi < y) (hy : y < 18446744073709551616) (hl : lo < 18446744073709551616) :
  C 92 [.int .u64 hi,.int .u64 lo,.int .u64 y] (.tup [.int .u64 (((hi * 18446744073709551616 + lo) / y : Nat) : Int),.int .u64 (((hi * 18446744073709551616 + lo) % y : Nat) : Int)]) []:=by
 refine start hC (nf:=N92) rfl rfl ?_
 have h1 : ¬ y=0:=by omega
 have h2 : ¬ y <= hi:=by omega
 generalize hres : D.tup [D.int .u64 (((hi * 18446744073709551616 + lo) / y : Nat) : Int),.int .u64 (((hi * 18446744073709551616 + lo) % y : Nat) : Int)]=res
 simp [N92]
 refine al (fun h=>?_) (fun _=>?_)
 ·simp at h;omega
 simp
 refine al (fun h=>?_) (fun _=>?_)
 ·simp at h;omega
 simp
 refine al (fun h=>?_) (fun h3=>?_)
 ·simp at h
  have : hi=0:=by omega
  subst this
  have hq : lo / y < 18446744073709551616:=by have:=Nat.div_le_self lo y;omega
  obtain ⟨q,hq'⟩ : ∃ q,q=lo / y:=⟨_,rfl⟩
  obtain ⟨r,hr'⟩ : ∃ r,r=lo % y:=⟨_,rfl⟩
  have e1 : Int.tdiv (lo : Int) (y : Int)=(q : Int):=by rw [vN,hq']
  have e2 : Int.tmod (lo : Int) (y : Int)=(r : Int):=by rw [Kh,hr']
  simp [h1,e1,e2,dg q (by omega)]
  refine ⟨ai (by decide +kernel),?_⟩
  rw [<- hres,hq',hr',Nat.zero_mul,Nat.zero_add]
 simp
 refine aa (jH hC y hy) (.inl rfl) ?_
 generalize hs : 64 - bitLen y=s
 obtain ⟨s1,s2,s3⟩:=BX h1 hy hs.symm
 have w1 : IntKind.u64.wrap (s : Int)=(s : Int):=dg _ (by omega)
 have w2 : IntKind.u64.wrap (64 - (s : Int))=((64 - s : Nat) : Int):=by rw [ij];omega
 have m1 : min s IntKind.u64.bits=s:=by show min s 64=s;omega
 have m2 : min (64 - s) IntKind.u64.bits=64 - s:=by show min (64 - s) 64=64 - s;omega
 obtain ⟨Y,hY⟩ : ∃ Y,Y=y * 2 ^ s:=⟨_,rfl⟩
 obtain ⟨H,hH⟩ : ∃ H,H=hi * 2 ^ s:=⟨_,rfl⟩
 obtain ⟨W,hW⟩ : ∃ W,W=lo * 2 ^ s % 18446744073709551616:=⟨_,rfl⟩
 obtain ⟨B,hB⟩ : ∃ B,B=lo / 2 ^ (64 - s):=⟨_,rfl⟩
 rw [<- hY] at s2 s3
 have hHY : H + 2 ^ s <= Y:=by
  have:=Nat.mul_le_mul_right (2 ^ s) h
  rw [hH,hY]
  rw [Nat.succ_mul] at this
  exact this
 have hBs : B < 2 ^ s:=by
  rw [hB,Nat.div_lt_iff_lt_mul (Nat.two_pow_pos _),<- Nat.pow_add,show s + (64 - s)=64 by omega]
  exact hl
 obtain ⟨U,hU⟩ : ∃ U,U=H + B:=⟨_,rfl⟩
 have hUY : U < Y:=by omega
 have eY : IntKind.u64.wrap ((y : Int) * 2 ^ s)=(Y : Int):=by
  rw [show (y : Int) * 2 ^ s=(Y : Int) by rw [hY];norm_cast];exact dg _ s3
 have eH : IntKind.u64.wrap ((hi : Int) * 2 ^ s)=(H : Int):=by
  rw [show (hi : Int) * 2 ^ s=(H : Int) by rw [hH];norm_cast];exact dg _ (by omega)
 have eW : IntKind.u64.wrap ((lo : Int) * 2 ^ s)=(W : Int):=by
  rw [show (lo : Int) * 2 ^ s=((lo * 2 ^ s : Nat) : Int) by norm_cast,vR,hW]
 have eB : Int.fdiv (lo : Int) (2 ^ (64 - s))=(B : Int):=by rw [qF,hB]
 have eU : bits .or .u64 (H : Int) (B : Int)=(U : Int):=by
  rw [hU,hH];exact orN hi B s hBs (by omega)
 obtain ⟨Y1,hY1⟩ : ∃ Y1,Y1=Y / 4294967296:=⟨_,rfl⟩
 obtain ⟨Y0,hY0⟩ : ∃ Y0,Y0=Y % 4294967296:=⟨_,rfl⟩
 obtain ⟨d1,hd1⟩ : ∃ d1,d1=W / 4294967296:=⟨_,rfl⟩
 obtain ⟨d0,hd0⟩ : ∃ d0,d0=W % 4294967296:=⟨_,rfl⟩
 have eY1 : Int.fdiv (Y : Int) (2 ^ min 32 IntKind.u64.bits)=(Y1 : Int):=by rw [rF,hY1]
 have eY0 : bits .and .u64 (Y : Int) 4294967295=(Y0 : Int):=by rw [oX _ s3,hY0]
 have hW64 : W < 18446744073709551616:=by rw [hW];exact Nat.mod_lt _ (by omega)
 have ed1 : Int.fdiv (W : Int) (2 ^ min 32 IntKind.u64.bits)=(d1 : Int):=by rw [rF,hd1]
 have ed0 : bits .and .u64 (W : Int) 4294967295=(d0 : Int):=by rw [oX _ hW64,hd0]
 have hY1a : 2147483648 <= Y1:=by omega
 have hY1b : Y1 < 4294967296:=by omega
 have hY0b : Y0 < 4294967296:=by omega
 have hd1b : d1 < 4294967296:=by omega
 have hd0b : d0 < 4294967296:=by omega
 have hYs : Y1 * 4294967296 + Y0=Y:=by omega
 have nz : ¬ Y1=0:=by omega
 have inv1:=DvI.first hY1a hY1b hY0b (u:=U) (d:=d1) (by omega) hd1b
 obtain ⟨q,hq⟩ : ∃ q,q=U / Y1:=⟨_,rfl⟩
 obtain ⟨r,hr⟩ : ∃ r,r=U % Y1:=⟨_,rfl⟩
 rw [<- hq,<- hr] at inv1
 have eq1 : Int.tdiv (U : Int) (Y1 : Int)=(q : Int):=by rw [vN,hq]
 have eq2 : IntKind.u64.wrap (q : Int)=(q : Int):=dg _ (by have:=inv1.qle;omega)
 have sub1 : ∀ (u a q r : Nat),q * a + r=u -> u < 18446744073709551616 -> IntKind.u64.wrap ((u : Int) - IntKind.u64.wrap ((q : Int) * (a : Int)))=(r : Int):=fun u a q r e hu=>by
  rw [uO,ij,ij]
  generalize q * a=z at *
  omega
 have er : IntKind.u64.wrap ((U : Int) - IntKind.u64.wrap ((q : Int) * (Y1 : Int)))=(r : Int):=sub1 _ _ _ _ inv1.sum (by omega)
 simp [w1,w2,m1,m2,eY,eH,eW,eB,eU,eY1,eY0,ed1,ed0,eq1,eq2,er,nz]
 have bm : ∀ {u d q r : Nat},DvI u d Y1 Y0 q r -> IntKind.u64.wrap ((q : Int) * (Y0 : Int))=((q * Y0 : Nat) : Int):=fun i=>by rw [uO];exact dg _ (i.bnd hY0b)
 have bp : ∀ {u d q r : Nat},d < 4294967296 -> DvI u d Y1 Y0 q r -> IntKind.u64.wrap (IntKind.u64.wrap (4294967296 * (r : Int)) + (d : Int))=((4294967296 * r + d : Nat) : Int):=fun {u d q r} hd i=>by
  have:=i.rlt
  rw [show (4294967296 : Int) * (r : Int)=((4294967296 * r : Nat) : Int) by omega,dg (4294967296 * r) (by omega),FC]
  exact dg _ (by omega)
 obtain ⟨Q1,hQ1⟩ : ∃ Q1,Q1=(U * 4294967296 + d1) / (Y1 * 4294967296 + Y0):=⟨_,rfl⟩
 refine oU 0 Nat (fun x=>[(2,.int .u64 Y),(8,.int .u64 s),(9,.int .u64 Y1),(10,.int .u64 Y0),(11,.int .u64 U),(13,.int .u64 d1),(14,.int .u64 d0),(15,.int .u64 x)]) (fun x=>x=Q1) ?_ ?_
 ·refine av (Nat × Nat) (fun x=>[(2,.int .u64 Y),(8,.int .u64 s),(9,.int .u64 Y1),(10,.int .u64 Y0),(11,.int .u64 U),(13,.int .u64 d1),(14,.int .u64 d0),(15,.int .u64 x.1),(16,.int .u64 x.2)]) (fun x=>DvI U d1 Y1 Y0 x.1 x.2) (fun x=>4294967296 - x.2) (q,r) inv1 (by simp) ?_
  rintro ⟨a,c⟩ inv
  simp only at inv
  have b1:=bm inv
  have b2:=bp hd1b inv
  have b3:=inv.rlt
  have b4:=inv.qle
  have fin : (4294967296 <= a \/ 4294967296 * c + d1 < a * Y0) -> ∃ a' c' : Nat,IntKind.u64.wrap ((a : Int) - 1)=(a' : Int) /\ IntKind.u64.wrap ((c : Int) + (Y1 : Int))=(c' : Int) /\ c'=c + Y1 /\ (4294967296 <= c' -> a'=Q1) /\ (c' < 4294967296 -> DvI U d1 Y1 Y0 a' c'):=fun hc=>by
   obtain ⟨n1,n2,n3,n4⟩:=inv.next (by omega) (by rw [hYs];exact hUY) hd1b hc
   refine ⟨a - 1,c + Y1,by rw [ij];omega,by rw [ij];omega,rfl,fun hc=>(Dv.stop n2 n3 n4 (by omega) hY0b hc).trans hQ1.symm,fun hc=>⟨n2,n3,hc,by omega⟩⟩
  simp
  refine al (fun c1=>?_) (fun c1=>?_) <;> simp [c1] <;> simp at c1
  ·obtain ⟨a',c',k1,k2,k3,k4,k5⟩:=fin (.inl (by omega))
   simp [k1,k2]
   refine al (fun c2=>?_) (fun c2=>?_) <;> simp [c2,k1,k2] <;> simp at c2
   ·rw [k4 (by omega)]
   ·exact ⟨_,_,k5 (by omega),by omega,rfl,rfl⟩
  ·simp [b1,b2]
   refine al (fun c3=>?_) (fun c3=>?_) <;> simp [c3] <;> simp at c3
   ·obtain ⟨a',c',k1,k2,k3,k4,k5⟩:=fin (.inr (by omega))
    simp [k1,k2]
    refine al (fun c2=>?_) (fun c2=>?_) <;> simp [c2,k1,k2] <;> simp at c2
    ·rw [k4 (by omega)]
    ·exact ⟨_,_,k5 (by omega),by omega,rfl,rfl⟩
   ·rw [(inv.done (by omega) (by omega)).trans hQ1.symm]
 intro q1 e hq1 hw
 subst hq1
 simp at hw
 obtain ⟨g2,g8,g9,g10,g11,g13,g14,g15⟩:=hw
 obtain ⟨V,hV⟩ : ∃ V,V=(U * 4294967296 + d1) % (Y1 * 4294967296 + Y0):=⟨_,rfl⟩
 have hVY : V < Y:=by rw [hV,hYs];exact Nat.mod_lt _ (by omega)
 have sum1 : q1 * Y + V=U * 4294967296 + d1:=by rw [hQ1,hV,hYs,Nat.mul_comm];exact Nat.div_add_mod _ _
 have eV : IntKind.u64.wrap (IntKind.u64.wrap (IntKind.u64.wrap ((U : Int) * 4294967296) + (d1 : Int)) - IntKind.u64.wrap ((q1 : Int) * (Y : Int)))=(V : Int):=by
  rw [uO q1 Y]
  simp only [ij]
  generalize q1 * Y=z at *
  omega
 have inv2:=DvI.first hY1a hY1b hY0b (u:=V) (d:=d0) (by omega) hd0b
 obtain ⟨q2,hq2⟩ : ∃ q,q=V / Y1:=⟨_,rfl⟩
 obtain ⟨r2,hr2⟩ : ∃ r,r=V % Y1:=⟨_,rfl⟩
 rw [<- hq2,<- hr2] at inv2
 have eq3 : Int.tdiv (V : Int) (Y1 : Int)=(q2 : Int):=by rw [vN,hq2]
 have eq4 : IntKind.u64.wrap (q2 : Int)=(q2 : Int):=dg _ (by have:=inv2.qle;omega)
 have er2 : IntKind.u64.wrap ((V : Int) - IntKind.u64.wrap ((q2 : Int) * (Y1 : Int)))=(r2 : Int):=sub1 _ _ _ _ inv2.sum (by omega)
 simp [g2,g8,g9,g10,g11,g13,g14,g15,eV,eq3,eq4,er2,nz]
 obtain ⟨Q0,hQ0⟩ : ∃ Q0,Q0=(V * 4294967296 + d0) / (Y1 * 4294967296 + Y0):=⟨_,rfl⟩
 refine oU 2 Nat (fun x=>[(2,.int .u64 Y),(8,.int .u64 s),(14,.int .u64 d0),(15,.int .u64 q1),(17,.int .u64 V),(18,.int .u64 x)]) (fun x=>x=Q0) ?_ ?_
 ·refine av (Nat × Nat) (fun x=>[(2,.int .u64 Y),(8,.int .u64 s),(9,.int .u64 Y1),(10,.int .u64 Y0),(14,.int .u64 d0),(15,.int .u64 q1),(16,.int .u64 x.2),(17,.int .u64 V),(18,.int .u64 x.1)]) (fun x=>DvI V d0 Y1 Y0 x.1 x.2) (fun x=>4294967296 - x.2) (q2,r2) inv2 (by simp) ?_
  rintro ⟨a,c⟩ inv
  simp only at inv
  have b1:=bm inv
  have b2:=bp hd0b inv
  have b3:=inv.rlt
  have b4:=inv.qle
  have fin : (4294967296 <= a \/ 4294967296 * c + d0 < a * Y0) -> ∃ a' c' : Nat,IntKind.u64.wrap ((a : Int) - 1)=(a' : Int) /\ IntKind.u64.wrap ((c : Int) + (Y1 : Int))=(c' : Int) /\ c'=c + Y1 /\ (4294967296 <= c' -> a'=Q0) /\ (c' < 4294967296 -> DvI V d0 Y1 Y0 a' c'):=fun hc=>by
   obtain ⟨n1,n2,n3,n4⟩:=inv.next (by omega) (by rw [hYs];exact hVY) hd0b hc
   refine ⟨a - 1,c + Y1,by rw [ij];omega,by rw [ij];omega,rfl,fun hc=>(Dv.stop n2 n3 n4 (by omega) hY0b hc).trans hQ0.symm,fun hc=>⟨n2,n3,hc,by omega⟩⟩
  simp
  refine al (fun c1=>?_) (fun c1=>?_) <;> simp [c1] <;> simp at c1
  ·obtain ⟨a',c',k1,k2,k3,k4,k5⟩:=fin (.inl (by omega))
   simp [k1,k2]
   refine al (fun c2=>?_) (fun c2=>?_) <;> simp [c2,k1,k2] <;> simp at c2
   ·rw [k4 (by omega)]
   ·exact ⟨_,_,k5 (by omega),by omega,rfl,rfl⟩
  ·simp [b1,b2]
   refine al (fun c3=>?_) (fun c3=>?_) <;> simp [c3] <;> simp at c3
   ·obtain ⟨a',c',k1,k2,k3,k4,k5⟩:=fin (.inr (by omega))
    simp [k1,k2]
    refine al (fun c2=>?_) (fun c2=>?_) <;> simp [c2,k1,k2] <;> simp at c2
    ·rw [k4 (by omega)]
    ·exact ⟨_,_,k5 (by omega),by omega,rfl,rfl⟩
   ·rw [(inv.done (by omega) (by omega)).trans hQ0.symm]
 intro q0 e hq0 hw
 subst hq0
 simp at hw
 obtain ⟨g2,g8,g14,g15,g17,g18⟩:=hw
 have l1 : q1 < 4294967296:=by rw [hQ1];exact Dv.lt (by omega) (by omega) hd1b
 have l0 : q0 < 4294967296:=by rw [hQ0];exact Dv.lt (by omega) (by omega) hd0b
 obtain ⟨R,hR⟩ : ∃ R,R=(V * 4294967296 + d0) % (Y1 * 4294967296 + Y0):=⟨_,rfl⟩
 have hRY : R < Y:=by rw [hR,hYs];exact Nat.mod_lt _ (by omega)
 have sum0 : q0 * Y + R=V * 4294967296 + d0:=by rw [hQ0,hR,hYs,Nat.mul_comm];exact Nat.div_add_mod _ _
 have eR : IntKind.u64.wrap (IntKind.u64.wrap (IntKind.u64.wrap ((V : Int) * 4294967296) + (d0 : Int)) - IntKind.u64.wrap ((q0 : Int) * (Y : Int)))=(R : Int):=by
  rw [uO q0 Y]
  simp only [ij]
  generalize q0 * Y=z at *
  omega
 obtain ⟨Z,hZ⟩ : ∃ Z,Z=R / 2 ^ s:=⟨_,rfl⟩
 have eZ : Int.fdiv (R : Int) (2 ^ s)=(Z : Int):=by rw [qF,hZ]
 have eQ : IntKind.u64.wrap (IntKind.u64.wrap ((q1 : Int) * 4294967296) + (q0 : Int))=((q1 * 4294967296 + q0 : Nat) : Int):=by
  simp only [ij]
  omega
 obtain ⟨T,hT⟩ : ∃ T,T=q1 * 4294967296 + q0:=⟨_,rfl⟩
 rw [<- hT] at eQ
 simp [g2,g8,g14,g15,g17,g18,w1,m1,eR,eZ,eQ]
 have hW2 : lo * 2 ^ s=B * 18446744073709551616 + W:=by
  have e1 : lo * 2 ^ s / 18446744073709551616=B:=by
   rw [hB,show (18446744073709551616 : Nat)=2 ^ (64 - s) * 2 ^ s by rw [<- Nat.pow_add,show 64 - s + s=64 by omega],Nat.mul_div_mul_right _ _ (Nat.two_pow_pos s)]
  have e2:=Nat.div_add_mod (lo * 2 ^ s) 18446744073709551616
  omega
 have tot : (hi * 18446744073709551616 + lo) * 2 ^ s=(U * 4294967296 + d1) * 4294967296 + d0:=by
  rw [sA,hW2,<- hH]
  exact Ki hU hd1 hd0
 obtain ⟨f1,f2⟩:=AV (N:=hi * 18446744073709551616 + lo) (y:=y) (S:=2 ^ s) (A:=U * 4294967296 + d1) (K:=4294967296) (un0:=d0) (y':=Y1 * 4294967296 + Y0) (by omega) (Nat.two_pow_pos s) (by rw [hYs,hY]) tot
 rw [<- hV,<- hQ1,<- hQ0,<- hT] at f1
 rw [<- hV,<- hR,<- hZ] at f2
 rw [<- hres,f1,f2]
end Go.Gv

namespace Go.Gv
def Qq (n : Nat) : D:=.agg [.int .u64 ((n / 18446744073709551616 : Nat) : Int),.int .u64 ((n % 18446744073709551616 : Nat) : Int)]
def Ab (x : Nat) : Nat -> Nat -> Nat
 | 0,r=>r
 | i + 1,r=>Ab x i (if (r + 2 ^ i) * (r + 2 ^ i) <= x then r + 2 ^ i else r)
def Ql (x : Nat) : Nat:=Ab x 63 0
variable {C : CC} (hC : aw prog C)
include hC
end Go.Gv

namespace Go.Gv
open Go.Lib
theorem JX (a k m : Nat) (hm : m=a * 2 ^ k % 18446744073709551616) : IntKind.u64.wrap ((a : Int) * 2 ^ k)=(m : Int):=by
 have e : (a : Int) * 2 ^ k=((a * 2 ^ k : Nat) : Int):=by push_cast;rfl
 rw [e,vR,hm]
theorem uw {n : Int} {m : Nat} (h : n=m \/ n=m + 18446744073709551616 \/ n=m - 18446744073709551616) (hm : m < 18446744073709551616) : IntKind.u64.wrap n=(m : Int):=by
 rw [ij];omega
end Go.Gv

namespace Go.Gv
open Go.Lib
theorem JW (a m : Nat) (hm : m=a * 16 % 18446744073709551616) : IntKind.u64.wrap ((a : Int) * 2 ^ min 4 IntKind.u64.bits)=(m : Int):=JX a 4 m hm
theorem Ae (a m : Nat) (hm : m=a * 1152921504606846976 % 18446744073709551616) : IntKind.u64.wrap ((a : Int) * 2 ^ min 60 IntKind.u64.bits)=(m : Int):=JX a 60 m hm
theorem Ag (a : Nat) : Int.fdiv (a : Int) (2 ^ min 60 IntKind.u64.bits)=((a / 1152921504606846976 : Nat) : Int):=qF a 60
theorem JY (a : Nat) : Int.fdiv (a : Int) (2 ^ min 4 IntKind.u64.bits)=((a / 16 : Nat) : Int):=qF a 4
theorem uM (a : Nat) (ha : a < 18446744073709551616) : bits .and .u64 (a : Int) 1152921504606846975=((a % 1152921504606846976 : Nat) : Int):=by
 have h:=bits_and_u64_nat a 1152921504606846975 ha (by omega)
 have e : a &&& 1152921504606846975=a % 1152921504606846976:=Nat.and_two_pow_sub_one_eq_mod a 60
 rw [e] at h
 exact h
theorem JF (a b : Nat) (hb : b < 16) (h : a * 16 + b < 18446744073709551616) : bits .or .u64 ((a * 16 : Nat) : Int) (b : Int)=((a * 16 + b : Nat) : Int):=orN a b 4 hb h
theorem P0 (a b : Nat) (hb : b < 1152921504606846976) (h : a * 1152921504606846976 + b < 18446744073709551616) : bits .or .u64 ((a * 1152921504606846976 : Nat) : Int) (b : Int)=((a * 1152921504606846976 + b : Nat) : Int):=orN a b 60 hb h
def eJ (p : Nat) (neg : Bool) : D:=.agg [.int .u64 ((p / 18446744073709551616 : Nat) : Int),.int .u64 ((p % 18446744073709551616 : Nat) : Int),.bool neg]
def wiD (p : Nat) : D:=.agg [.int .i64 ((p / 1152921504606846976 : Nat) : Int),.int .i64 ((p % 1152921504606846976 : Nat) : Int)]
variable {C : CC} (hC : aw prog C)
include hC
theorem iK (n : Nat) (h : n < 9223372036854775808) : C 112 [.int .i64 n] (.int .u64 (n : Int)) []:=by
 refine start hC (nf:=N112) rfl rfl ?_
 have h0 : ¬ (n : Int) < 0:=by omega
 simp [N112,h0,dg n (by omega)]
theorem ig (a b : Int) (n : Bool) : C 113 [.int .u64 a,.int .u64 b,.bool n] (.agg [.int .u64 a,.int .u64 b,.bool (n && (!decide (a=0) || !decide (b=0)))]) []:=by
 refine start hC (nf:=N113) rfl rfl ?_
 simp [N113]
 cases n <;> simp
 by_cases h : a=0 <;> simp [h]
theorem vT (x y : Nat) (hx : x < 9223372036854775808) (hy : y < 9223372036854775808) : C 103 [.int .i64 x,.int .i64 y] (eJ (x * y) false) []:=by
 refine start hC (nf:=N103) rfl rfl ?_
 have h0 : ¬ (x : Int) < 0:=by omega
 have h1 : ¬ (y : Int) < 0:=by omega
 have hm:=qP hC x y (by omega) (by omega)
 rw [eJ]
 obtain ⟨zh,hzh⟩ : ∃ zh,zh=x * y / 18446744073709551616:=⟨_,rfl⟩
 obtain ⟨zl,hzl⟩ : ∃ zl,zl=x * y % 18446744073709551616:=⟨_,rfl⟩
 rw [<- hzh,<- hzl] at hm ⊢
 simp [N103]
 refine aa (iK hC x hx) (.inl rfl) ?_
 simp
 refine aa (iK hC y hy) (.inl rfl) ?_
 simp
 refine aa hm (.inl rfl) ?_
 simp [h0,h1]
 refine aa (ig hC zh zl false) (.inl rfl) ?_
 simp
theorem jG (n : Nat) (h : n < 9223372036854775808) : C 110 [.int .u64 n,.bool false] (.tup [.int .i64 n,.int .i64 0]) []:=by
 refine start hC (nf:=N110) rfl rfl ?_
 have h1 : (n : Int) <= 9223372036854775807:=by omega
 have h2 : IntKind.i64.wrap (n : Int)=(n : Int):=ae rfl (by omega)
 simp [N110,h1,h2]
theorem qw (p d : Nat) (up : Bool) (q : Nat) (hd : d < 9223372036854775808) (hp : p / 18446744073709551616 < d) (hq : q < 9223372036854775808) (hv : q=if up then (p + d - 1) / d else p / d) (hqd : p / d + 1 < 9223372036854775808) : C 104 [eJ p false,.int .i64 d,.bool up] (.tup [.int .i64 q,.int .i64 0]) []:=by
 obtain ⟨ph,hph⟩ : ∃ z,z=p / 18446744073709551616:=⟨_,rfl⟩
 obtain ⟨pl,hpl⟩ : ∃ z,z=p % 18446744073709551616:=⟨_,rfl⟩
 have hpp : ph * 18446744073709551616 + pl=p:=by omega
 obtain ⟨q0,hq0⟩ : ∃ z,z=p / d:=⟨_,rfl⟩
 obtain ⟨r0,hr0⟩ : ∃ z,z=p % d:=⟨_,rfl⟩
 have hdiv:=qO hC ph pl d (by omega) (by omega) (by omega)
 rw [hpp,<- hq0,<- hr0] at hdiv
 have hd0 : 0 < d:=by omega
 have hdp : d * q0 + r0=p:=by rw [hq0,hr0];exact Nat.div_add_mod p d
 have hrd : r0 < d:=by rw [hr0];exact Nat.mod_lt _ hd0
 have hup : up=true -> q=if 0 < r0 then q0 + 1 else q0:=by
  rintro rfl
  simp only [if_true] at hv
  rw [hv,<- hdp]
  by_cases h : 0 < r0
  ·rw [if_pos h,show d * q0 + r0 + d - 1=d * q0 + (d + (r0 - 1)) by omega,Nat.mul_add_div hd0,Nat.add_div_left _ hd0,Nat.div_eq_of_lt (by omega)]
  ·rw [if_neg h,show d * q0 + r0 + d - 1=d * q0 + (d - 1) by omega,Nat.mul_add_div hd0,Nat.div_eq_of_lt (by omega)]
   rfl
 rw [eJ,<- hph,<- hpl]
 have h1 : ¬ (d : Int) <= (ph : Int):=by omega
 have h2 : ¬ (d : Int) < 0:=by omega
 have h3 : IntKind.u64.wrap ((q0 : Int) + 1)=((q0 + 1 : Nat) : Int):=uw (by omega) (by omega)
 refine start hC (nf:=N104) rfl rfl ?_
 simp [N104]
 refine aa (iK hC d hd) (.inl rfl) ?_
 simp [h1]
 refine aa hdiv (.inl rfl) ?_
 simp [h2]
 cases up
 ·have e : q=q0:=by rw [hv,hq0];rfl
  subst e
  refine al (fun h=>?_) (fun h=>?_) <;> simp at h <;> simp [h]
  ·refine aa (jG hC q hq) (.inl rfl) ?_
   simp
  ·refine aa (jG hC q hq) (.inl rfl) ?_
   simp
 ·have hv:=hup rfl
  by_cases h : 0 < r0
  ·have hi : (0 : Int) < r0:=by omega
   rw [if_pos h] at hv
   subst hv
   have h4 : ¬ ((q0 : Int) + 1=0):=by omega
   simp [hi,h3,h4,h]
   refine aa (jG hC (q0 + 1) hq) (.inl rfl) ?_
   simp
  ·have hi : ¬ (0 : Int) < r0:=by omega
   rw [if_neg h] at hv
   subst hv
   simp [hi,h]
   refine aa (jG hC q hq) (.inl rfl) ?_
   simp
end Go.Gv

namespace Go.Gv
open Go.Lib
variable {C : CC} (hC : aw prog C)
include hC
theorem lT (p : Nat) (h : p < 1329227995784915872903807060280344576) : C 105 [eJ p false] (.tup [wiD p,.int .i64 0]) []:=by
 obtain ⟨ph,hph⟩ : ∃ z,z=p / 1152921504606846976:=⟨_,rfl⟩
 obtain ⟨pl,hpl⟩ : ∃ z,z=p % 1152921504606846976:=⟨_,rfl⟩
 obtain ⟨zh,hzh⟩ : ∃ z,z=p / 18446744073709551616:=⟨_,rfl⟩
 obtain ⟨zl,hzl⟩ : ∃ z,z=p % 18446744073709551616:=⟨_,rfl⟩
 rw [wiD,eJ,<- hph,<- hpl,<- hzh,<- hzl]
 obtain ⟨zt,hzt⟩ : ∃ z,z=zl / 1152921504606846976:=⟨_,rfl⟩
 have h1 : ¬ (72057594037927936 : Int) < zh:=by omega
 have h2 : ¬ (zh : Int)=72057594037927936:=by omega
 have e1:=JW zh (zh * 16) (by omega)
 have e2:=Ag zl
 rw [<- hzt] at e2
 have e3:=JF zh zt (by omega) (by omega)
 have e4 : IntKind.i64.wrap ((zh * 16 + zt : Nat) : Int)=(ph : Int):=ae (by omega) (by omega)
 have e5:=uM zl (by omega)
 have e6 : IntKind.i64.wrap ((zl % 1152921504606846976 : Nat) : Int)=(pl : Int):=ae (by omega) (by omega)
 refine start hC (nf:=N105) rfl rfl ?_
 simp [N105,h1,h2,e2,-Int.natCast_mul,-Int.natCast_emod]
 refine ⟨ai (by decide +kernel),?_⟩
 rw [e1,e3,e4,e5,e6]
 simp
theorem yG (p : Nat) (h : p < 1329227995784915872903807060280344576) : C 108 [wiD p] (eJ p false) []:=by
 obtain ⟨ph,hph⟩ : ∃ z,z=p / 1152921504606846976:=⟨_,rfl⟩
 obtain ⟨pl,hpl⟩ : ∃ z,z=p % 1152921504606846976:=⟨_,rfl⟩
 obtain ⟨zh,hzh⟩ : ∃ z,z=p / 18446744073709551616:=⟨_,rfl⟩
 obtain ⟨zl,hzl⟩ : ∃ z,z=p % 18446744073709551616:=⟨_,rfl⟩
 rw [wiD,eJ,<- hph,<- hpl,<- hzh,<- hzl]
 have h1 : (0 : Int) <= ph:=by omega
 obtain ⟨w,hw⟩ : ∃ z,z=ph % 16:=⟨_,rfl⟩
 have e1 : Int.fdiv (ph : Int) (2 ^ min 4 IntKind.u64.bits)=(zh : Int):=by rw [JY];omega
 have e2 : IntKind.u64.wrap ((ph : Int) * 2 ^ min 60 IntKind.u64.bits)=((w * 1152921504606846976 : Nat) : Int):=Ae ph _ (by omega)
 have e3 : IntKind.u64.wrap (pl : Int)=(pl : Int):=dg pl (by omega)
 have e4 : bits .or .u64 ((w * 1152921504606846976 : Nat) : Int) (pl : Int)=(zl : Int):=by
  rw [P0 w pl (by omega) (by omega)];omega
 refine start hC (nf:=N108) rfl rfl ?_
 simp [N108]
 refine aa (iK hC ph (by omega)) (.inl rfl) ?_
 simp [h1]
 rw [e1,e2,e3,e4]
 simp
end Go.Gv

namespace Go.Gv
theorem xL (p : Nat) : ∃ a b : Int,eJ p false=.agg [.int .u64 a,.int .u64 b,.bool false]:=⟨_,_,rfl⟩
theorem Cx (p : Nat) : ∃ a b : Int,wiD p=.agg [.int .i64 a,.int .i64 b]:=⟨_,_,rfl⟩
variable {C : CC} (hC : aw prog C)
include hC
theorem rM (x y : Nat) (hx : x < 9223372036854775808) (hy : y < 9223372036854775808) (h : x * y < 1329227995784915872903807060280344576) : C 99 [.int .i64 x,.int .i64 y] (.tup [wiD (x * y),.int .i64 0]) []:=by
 have k1:=vT hC x y hx hy
 have k2:=lT hC (x * y) h
 obtain ⟨a,b,e1⟩:=xL (x * y)
 obtain ⟨c,d,e2⟩:=Cx (x * y)
 rw [e1] at k1 k2
 rw [e2] at k2 ⊢
 refine start hC (nf:=N99) rfl rfl ?_
 simp [N99]
 refine aa k1 (.inl rfl) ?_
 simp
 refine aa k2 (.inr rfl) ?_
 simp
end Go.Gv

namespace Go.Gv
def gh (x y : Int) : Int:=if x < y then -1 else if y < x then 1 else 0
variable {C : CC} (hC : aw prog C)
include hC
theorem rj (x : Int) : C 299 [.int .i64 x] (.bool false) []:=by
 refine start hC (nf:=N299) rfl rfl ?_
 simp [N299]
theorem il (x y : Int) : C 267 [.int .i64 x,.int .i64 y] (.int .i64 (gh x y)) []:=by
 have k1:=rj hC x
 have k2:=rj hC y
 refine start hC (nf:=N267) rfl rfl ?_
 simp [N267]
 refine aa k1 (.inl rfl) ?_
 simp
 refine aa k2 (.inl rfl) ?_
 simp
 refine al (fun c1=>?_) (fun c1=>?_) <;> simp at c1 <;> simp [c1]
 ·rw [gh,if_pos c1]
 ·refine al (fun c2=>?_) (fun c2=>?_) <;> simp at c2 <;> simp [c2]
  ·rw [gh,if_neg (by omega),if_pos c2]
  ·rw [gh,if_neg (by omega),if_neg (by omega)]
end Go.Gv

namespace Go.Gv
open Go.Lib
variable {C : CC} (hC : aw prog C)
include hC
def nmD (x : Nat) : D:=.agg [.int .u64 ((x / 18446744073709551616 : Nat) : Int),.int .u64 ((x % 18446744073709551616 : Nat) : Int),.bool false]
end Go.Gv

namespace Go.Gv
open Go.Lib
def wiS (v : Int) : D:=.agg [.int .i64 (v / 1152921504606846976),.int .i64 (v % 1152921504606846976)]
theorem li (p : Nat) : wiS p=wiD p:=by simp [wiS,wiD]
variable {C : CC} (hC : aw prog C)
include hC
theorem pH (n : Nat) (h0 : 0 < n) (h : n < 9223372036854775808) : C 112 [.int .i64 (-(n : Int))] (.int .u64 (n : Int)) []:=by
 have e1 : IntKind.u64.wrap (-(n : Int))=((18446744073709551616 - n : Nat) : Int):=uw (by omega) (by omega)
 have e2 : IntKind.u64.wrap (-((18446744073709551616 - n : Nat) : Int))=(n : Int):=uw (by omega) (by omega)
 have h1 : (-(n : Int)) < 0:=by omega
 refine start hC (nf:=N112) rfl rfl ?_
 obtain ⟨z,hz⟩ : ∃ z,z=-(n : Int):=⟨_,rfl⟩
 obtain ⟨y,hy⟩ : ∃ y,y=((18446744073709551616 - n : Nat) : Int):=⟨_,rfl⟩
 rw [<- hz] at e1 h1 ⊢
 rw [<- hy] at e1 e2
 simp [N112,h1,e1,e2]
theorem ne (p : Nat) (h0 : 0 < p) (h : p < 1329227995784915872903807060280344576) : C 105 [eJ p true] (.tup [wiS (-(p : Int)),.int .i64 0]) []:=by
 obtain ⟨ph,hph⟩ : ∃ z,z=p / 1152921504606846976:=⟨_,rfl⟩
 obtain ⟨pl,hpl⟩ : ∃ z,z=p % 1152921504606846976:=⟨_,rfl⟩
 obtain ⟨zh,hzh⟩ : ∃ z,z=p / 18446744073709551616:=⟨_,rfl⟩
 obtain ⟨zl,hzl⟩ : ∃ z,z=p % 18446744073709551616:=⟨_,rfl⟩
 obtain ⟨qh,hqh⟩ : ∃ z,z=(-(p : Int)) / 1152921504606846976:=⟨_,rfl⟩
 obtain ⟨ql,hql⟩ : ∃ z,z=(-(p : Int)) % 1152921504606846976:=⟨_,rfl⟩
 rw [wiS,eJ,<- hzh,<- hzl,<- hqh,<- hql]
 obtain ⟨zt,hzt⟩ : ∃ z,z=zl / 1152921504606846976:=⟨_,rfl⟩
 have h1 : ¬ (72057594037927936 : Int) < zh:=by omega
 have h2 : ¬ (zh : Int)=72057594037927936:=by omega
 have e1:=JW zh (zh * 16) (by omega)
 have e2:=Ag zl
 rw [<- hzt] at e2
 have e3:=JF zh zt (by omega) (by omega)
 have e4 : IntKind.i64.wrap ((zh * 16 + zt : Nat) : Int)=(ph : Int):=ae (by omega) (by omega)
 have e5:=uM zl (by omega)
 have e6 : IntKind.i64.wrap ((zl % 1152921504606846976 : Nat) : Int)=(pl : Int):=ae (by omega) (by omega)
 have e7 : IntKind.i64.wrap (-(ph : Int))=-(ph : Int):=ae rfl (by omega)
 have e8 : IntKind.i64.wrap (-(ph : Int) - 1)=-(ph : Int) - 1:=ae rfl (by omega)
 have e9 : IntKind.i64.wrap (1152921504606846976 - (pl : Int))=1152921504606846976 - (pl : Int):=ae rfl (by omega)
 refine start hC (nf:=N105) rfl rfl ?_
 simp [N105,h1,h2,e2,-Int.natCast_mul,-Int.natCast_emod]
 refine ⟨ai (by decide +kernel),?_⟩
 rw [e1,e3,e4,e5,e6]
 simp
 refine al (fun c1=>?_) (fun c1=>?_) <;> simp at c1
 ·simp [c1,e7]
  omega
 ·simp [c1,e7,e8,e9]
  omega
theorem j9 (v : Int) (h : -1329227995784915872903807060280344576 <= v /\ v < 1329227995784915872903807060280344576) : C 106 [wiS v] (.bool true) []:=by
 obtain ⟨ph,hph⟩ : ∃ z,z=v / 1152921504606846976:=⟨_,rfl⟩
 obtain ⟨pl,hpl⟩ : ∃ z,z=v % 1152921504606846976:=⟨_,rfl⟩
 rw [wiS,<- hph,<- hpl]
 have h1 : (-1152921504606846976 : Int) <= ph:=by omega
 have h2 : ph < 1152921504606846976:=by omega
 have h3 : 0 <= pl:=by omega
 have h4 : pl < 1152921504606846976:=by omega
 refine start hC (nf:=N106) rfl rfl ?_
 simp [N106,h1,h2,h3,h4]
end Go.Gv

namespace Go.Gv
open Go.Lib
variable {C : CC} (hC : aw prog C)
include hC
end Go.Gv

namespace Go.Gv
def DvS (x b i a q r : Nat) : Prop:=i <= 128 /\ r < b /\ ∃ c,a=c * 2 ^ i /\ c < 2 ^ (128 - i) /\ (q * b + r) * 2 ^ (128 - i) + c=x
theorem DvS.step {x b i a q r : Nat} (h : DvS x b i a q r) (hi : i < 128) (hb : 0 < b) :
  a < 340282366920938463463374607431768211456 /\ 2 * q <= x /\
  ∀ w r' a',2 * r + a / 170141183460469231731687303715884105728=w * b + r' -> r' < b -> a'=2 * a % 340282366920938463463374607431768211456 -> DvS x b (i + 1) a' (2 * q + w) r' /\ 2 * q + w <= x:=by
 obtain ⟨_,hr,c,h1,h2,h3⟩:=h
 obtain ⟨m,hm⟩ : ∃ m,m + 1=128 - i:=⟨127 - i,by omega⟩
 have hm2 : m=128 - (i + 1):=by omega
 rw [<- hm,Nat.pow_succ] at h2 h3
 obtain ⟨V,hV⟩ : ∃ V,V=2 ^ m:=⟨_,rfl⟩
 obtain ⟨W,hW⟩ : ∃ W,W=2 ^ i:=⟨_,rfl⟩
 have hVW : V * W=170141183460469231731687303715884105728:=by
  rw [hV,hW,<- Nat.pow_add,show m + i=127 by omega]
 have hVp : 0 < V:=by rw [hV];exact Nat.two_pow_pos m
 rw [<- hV] at h2 h3
 rw [<- hW] at h1
 obtain ⟨t,ht⟩ : ∃ t,t=c / V:=⟨_,rfl⟩
 obtain ⟨d,hd⟩ : ∃ d,d=c % V:=⟨_,rfl⟩
 have hc : c=t * V + d:=by rw [ht,hd,Nat.mul_comm];exact (Nat.div_add_mod c V).symm
 have hdV : d < V:=by rw [hd];exact Nat.mod_lt _ hVp
 have ht1 : t <= 1:=by
  have : t < 2:=by rw [ht,Nat.div_lt_iff_lt_mul hVp];omega
  omega
 have ha : a=t * 170141183460469231731687303715884105728 + d * W:=by
  rw [h1,hc,Nat.add_mul,Nat.mul_assoc,hVW]
 have hdW : d * W < 170141183460469231731687303715884105728:=by
  have : (d + 1) * W <= V * W:=Nat.mul_le_mul_right _ hdV
  rw [hVW,Nat.add_mul] at this
  have hWp : 0 < W:=by rw [hW];exact Nat.two_pow_pos i
  omega
 have hbit : a / 170141183460469231731687303715884105728=t:=by
  rw [ha];generalize d * W=z at *;omega
 have fin : ∀ w r',2 * r + t=w * b + r' -> ((2 * q + w) * b + r') * V + d=x:=fun w r' e=>by
  have e1 : (2 * q + w) * b + r'=2 * (q * b + r) + t:=by
   rw [Nat.add_mul,Nat.mul_assoc]
   generalize q * b=z at *
   generalize w * b=z' at *
   omega
  rw [e1,<- h3,hc,Nat.add_mul,Nat.mul_comm V 2,<- Nat.mul_assoc,Nat.mul_comm (q * b + r) 2]
  omega
 have big : ∀ w r',2 * r + t=w * b + r' -> 2 * q + w <= x:=fun w r' e=>by
  have e1:=fin w r' e
  have e2 : 2 * q + w <= (2 * q + w) * b:=Nat.le_mul_of_pos_right _ hb
  have e3 : (2 * q + w) * b + r' <= ((2 * q + w) * b + r') * V:=Nat.le_mul_of_pos_right _ hVp
  omega
 refine ⟨?_,?_,?_⟩
 ·rw [ha];generalize d * W=z at *;omega
 ·exact Nat.le_trans (Nat.le_add_right _ _) (big _ _ (Nat.div_add_mod' (2 * r + t) b).symm)
 ·intro w r' a' e hr' ha'
  rw [hbit] at e
  refine ⟨⟨by omega,hr',d,?_,?_,?_⟩,big w r' e⟩
  ·rw [ha',ha,Nat.pow_succ,<- hW,Nat.mul_comm W 2,Nat.mul_left_comm]
   generalize d * W=z at *
   omega
  ·rw [<- hm2,<- hV];exact hdV
  ·rw [<- hm2,<- hV];exact fin w r' e
theorem DvS.last {x b a q r : Nat} (h : DvS x b 128 a q r) : q=x / b /\ r=x % b:=by
 obtain ⟨_,hr,c,h1,h2,h3⟩:=h
 simp at h2 h3
 subst h2
 simp at h3
 subst h3
 have hb : 0 < b:=by omega
 rw [Nat.mul_comm,Nat.mul_add_div hb,Nat.div_eq_of_lt hr,Nat.mul_add_mod,Nat.mod_eq_of_lt hr]
 exact ⟨rfl,rfl⟩
variable {C : CC} (hC : aw prog C)
include hC
end Go.Gv

namespace Go.Gv
variable {C : CC} (hC : aw prog C)
include hC
end Go.Gv

namespace Go.Gv
open Go.Lib
def fY (v : Int) : D:=eJ v.natAbs (decide (v < 0))
theorem fE {v : Int} {p : Nat} {b : Bool} (h1 : v.natAbs=p) (h2 : decide (v < 0)=b) : fY v=eJ p b:=by rw [fY,h1,h2]
theorem fe (p : Nat) (b : Bool) : ∃ x y : Nat,x=p / 18446744073709551616 /\ y=p % 18446744073709551616 /\ eJ p b=.agg [.int .u64 x,.int .u64 y,.bool b]:=⟨_,_,rfl,rfl,rfl⟩
theorem iw {n m : Int} (h : n=m \/ n=m + 18446744073709551616) (h2 : -9223372036854775808 <= m /\ m < 9223372036854775808) : IntKind.i64.wrap n=m:=by
 have e1 : IntKind.i64.signed=true:=rfl
 have e2 : (2 ^ (IntKind.i64.bits - 1) : Int)=9223372036854775808:=rfl
 have e3 : (2 ^ IntKind.i64.bits : Int)=18446744073709551616:=rfl
 unfold IntKind.wrap
 simp only [e1,e2,e3,Bool.true_and,decide_eq_true_eq]
 split <;> omega
variable {C : CC} (hC : aw prog C)
include hC
end Go.Gv

namespace Go.Gv
open Go.Lib
theorem kH (n b : Nat) (hb : 0 < b) : (-(n : Int)) / (b : Int)=-((if n % b=0 then n / b else n / b + 1 : Nat) : Int):=by
 have h1:=Nat.div_add_mod n b
 have h2:=Nat.mod_lt n hb
 obtain ⟨q,hq⟩ : ∃ q,q=n / b:=⟨_,rfl⟩
 obtain ⟨r,hr⟩ : ∃ r,r=n % b:=⟨_,rfl⟩
 rw [<- hq,<- hr] at h1
 rw [<- hr] at h2
 rw [<- hq,<- hr]
 clear hq hr
 subst h1
 split
 ·rename_i h
  subst h
  rw [Nat.add_zero,Int.natCast_mul,<- Int.mul_neg]
  exact Int.mul_ediv_cancel_left _ (by omega)
 ·rename_i h
  have e : -((b * q + r : Nat) : Int)=((b : Int) - r) + b * (-((q + 1 : Nat) : Int)):=by
   rw [Int.natCast_add,Int.natCast_mul,Int.natCast_add,Int.mul_neg,Int.mul_add]
   omega
  rw [e,Int.add_mul_ediv_left _ _ (by omega),Int.ediv_eq_zero_of_lt (by omega) (by omega)]
  omega
variable {C : CC} (hC : aw prog C)
include hC
end Go.Gv

namespace Go.Gv
variable {C : CC} (hC : aw prog C)
include hC
theorem s7 (x y : Nat) (hx0 : 0 < x) (hx : x < 9223372036854775808) (hy : y < 9223372036854775808) : C 103 [.int .i64 (-(x : Int)),.int .i64 y] (eJ (x * y) (decide (x * y ≠ 0))) []:=by
 have h0 : (-(x : Int)) < 0:=by omega
 have h1 : ¬ (y : Int) < 0:=by omega
 have hm:=qP hC x y (by omega) (by omega)
 have k1:=pH hC x hx0 hx
 have k2:=iK hC y hy
 rw [eJ]
 obtain ⟨Z,hZ⟩ : ∃ Z,Z=x * y:=⟨_,rfl⟩
 rw [<- hZ] at hm ⊢
 obtain ⟨zh,hzh⟩ : ∃ zh,zh=Z / 18446744073709551616:=⟨_,rfl⟩
 obtain ⟨zl,hzl⟩ : ∃ zl,zl=Z % 18446744073709551616:=⟨_,rfl⟩
 have k3:=ig hC zh zl true
 rw [show (true && (!decide ((zh : Int)=0) || !decide ((zl : Int)=0)))=decide (Z ≠ 0) by
  rw [Bool.eq_iff_iff];simp;omega] at k3
 rw [<- hzh,<- hzl] at hm ⊢
 obtain ⟨z,hz⟩ : ∃ z,z=-(x : Int):=⟨_,rfl⟩
 rw [<- hz] at k1 h0 ⊢
 obtain ⟨b,hb⟩ : ∃ b,b=decide (Z ≠ 0):=⟨_,rfl⟩
 rw [<- hb] at k3 ⊢
 refine start hC (nf:=N103) rfl rfl ?_
 simp [N103]
 refine aa k1 (.inl rfl) ?_
 simp
 refine aa k2 (.inl rfl) ?_
 simp
 refine aa hm (.inl rfl) ?_
 simp [h0,h1]
 refine aa k3 (.inl rfl) ?_
 simp
theorem pK (x : Int) (y : Nat) (hx : -9223372036854775808 < x /\ x < 9223372036854775808) (hy : y < 9223372036854775808) (h : x.natAbs * y < 1329227995784915872903807060280344576) : C 99 [.int .i64 x,.int .i64 y] (.tup [wiS (x * y),.int .i64 0]) []:=by
 by_cases h0 : x < 0
 ·obtain ⟨n,rfl⟩ : ∃ n : Nat,x=-(n : Int):=⟨x.natAbs,by omega⟩
  rw [Int.natAbs_neg,Int.natAbs_natCast] at h
  have k1:=s7 hC n y (by omega) (by omega) hy
  have e : -(n : Int) * (y : Int)=-((n * y : Nat) : Int):=by rw [Int.neg_mul,Int.natCast_mul]
  rw [e]
  obtain ⟨Z,hZ⟩ : ∃ Z,Z=n * y:=⟨_,rfl⟩
  rw [<- hZ] at k1 h ⊢
  have k2 : C 105 [eJ Z (decide (Z ≠ 0))] (.tup [wiS (-(Z : Int)),.int .i64 0]) []:=by
   by_cases z0 : Z=0
   ·subst z0
    have:=lT hC 0 (by omega)
    rw [<- li] at this
    simpa using this
   ·rw [decide_eq_true z0]
    exact ne hC Z (by omega) h
  obtain ⟨c1,c2,e3⟩ : ∃ a b : Int,wiS (-(Z : Int))=.agg [.int .i64 a,.int .i64 b]:=⟨_,_,rfl⟩
  obtain ⟨i1,i2,i3,e7⟩ : ∃ a b c,eJ Z (decide (Z ≠ 0))=.agg [.int .u64 a,.int .u64 b,.bool c]:=⟨_,_,_,rfl⟩
  rw [e7] at k1 k2
  rw [e3] at k2 ⊢
  obtain ⟨z,hz⟩ : ∃ z,z=-(n : Int):=⟨_,rfl⟩
  rw [<- hz] at k1 ⊢
  refine start hC (nf:=N99) rfl rfl ?_
  simp [N99]
  refine aa k1 (.inl rfl) ?_
  simp
  refine aa k2 (.inr rfl) ?_
  simp
 ·obtain ⟨n,rfl⟩ : ∃ n : Nat,x=(n : Int):=⟨x.natAbs,by omega⟩
  rw [Int.natAbs_natCast] at h
  have k:=rM hC n y (by omega) hy h
  rw [<- li] at k
  simpa using k
end Go.Gv

namespace Go.Gv
open Go.Lib
theorem b8 (v : Int) : ∃ h l : Int,h=v / 1152921504606846976 /\ l=v % 1152921504606846976 /\ wiS v=.agg [.int .i64 h,.int .i64 l]:=⟨_,_,rfl,rfl,rfl⟩
variable {C : CC} (hC : aw prog C)
include hC
theorem sG (v : Int) (h : -1329227995784915872903807060280344576 < v /\ v < 1329227995784915872903807060280344576) : C 105 [fY v] (.tup [wiS v,.int .i64 0]) []:=by
 by_cases v0 : v < 0
 ·have k:=ne hC v.natAbs (by omega) (by omega)
  rw [show -((v.natAbs : Nat) : Int)=v by omega] at k
  rw [fY,decide_eq_true v0]
  exact k
 ·have k:=lT hC v.natAbs (by omega)
  rw [<- li,show ((v.natAbs : Nat) : Int)=v by omega] at k
  rw [fY,decide_eq_false v0]
  exact k
set_option maxHeartbeats 2000000 in
theorem mo (v : Int) (h : -1329227995784915872903807060280344576 <= v /\ v < 1329227995784915872903807060280344576) : C 108 [wiS v] (fY v) []:=by
 by_cases v0 : v < 0
 ·obtain ⟨ph,pl,hph,hpl,e0⟩:=b8 v
  obtain ⟨n,hn⟩ : ∃ n : Nat,n=ph.natAbs:=⟨_,rfl⟩
  obtain ⟨l,hl⟩ : ∃ l : Nat,l=pl.natAbs:=⟨_,rfl⟩
  obtain ⟨p,hp⟩ : ∃ p,p=v.natAbs:=⟨_,rfl⟩
  obtain ⟨zh,zl,hzh,hzl,e1⟩:=fe p true
  have epl : pl=(l : Int):=by omega
  have eph : ph=-(n : Int):=by omega
  have k1:=pH hC n (by omega) (by omega)
  rw [fE hp.symm (decide_eq_true v0),e0,e1,epl,eph]
  have h1 : ¬ (0 : Int) <= -(n : Int):=by omega
  obtain ⟨w,hw⟩ : ∃ z,z=n % 16:=⟨_,rfl⟩
  obtain ⟨t,ht⟩ : ∃ z,z=n / 16:=⟨_,rfl⟩
  have s1 : Int.fdiv (n : Int) (2 ^ min 4 IntKind.u64.bits)=(t : Int):=by rw [JY,ht]
  have s2 : IntKind.u64.wrap ((n : Int) * 2 ^ min 60 IntKind.u64.bits)=((w * 1152921504606846976 : Nat) : Int):=Ae n _ (by omega)
  have s3 : IntKind.u64.wrap (l : Int)=(l : Int):=dg l (by omega)
  have c1 : (l : Int) < 18446744073709551616:=by omega
  have c2 : ((w * 1152921504606846976 : Nat) : Int) < 18446744073709551616:=by omega
  have s4 : (((w * 1152921504606846976 : Nat) : Int) - (l : Int)) % 18446744073709551616=(zl : Int):=by omega
  have s5 : IntKind.u64.wrap ((t : Int) - (if w * 1152921504606846976 < l then 1 else 0))=(zh : Int):=by
   split <;> exact uw (by omega) (by omega)
  obtain ⟨W,hW⟩ : ∃ W,W=w * 1152921504606846976:=⟨_,rfl⟩
  rw [<- hW] at s2 s4 s5 c2
  obtain ⟨z,hz⟩ : ∃ z,z=-(n : Int):=⟨_,rfl⟩
  rw [<- hz] at k1 h1 ⊢
  have c3 : (0 : Int) <= W:=by omega
  have c4 : (0 : Int) <= l:=by omega
  refine start hC (nf:=N108) rfl rfl ?_
  simp [N108]
  refine aa k1 (.inl rfl) ?_
  simp [h1]
  rw [s1,s2,s3]
  simp [c1,c2,s4,s5]
 ·have k:=yG hC v.natAbs (by omega)
  rw [<- li,show ((v.natAbs : Nat) : Int)=v by omega] at k
  rw [fY,decide_eq_false v0]
  exact k
set_option maxRecDepth 20000 in
set_option maxHeartbeats 4000000 in
theorem Cs (x y : Int) (hx : x.natAbs < 170141183460469231731687303715884105728) (hy : y.natAbs < 170141183460469231731687303715884105728) : C 107 [fY x,fY y] (fY (x + y)) []:=by
 obtain ⟨p,hp⟩ : ∃ p,p=x.natAbs:=⟨_,rfl⟩
 obtain ⟨r,hr⟩ : ∃ r,r=y.natAbs:=⟨_,rfl⟩
 obtain ⟨s,hs⟩ : ∃ s,s=decide (x < 0):=⟨_,rfl⟩
 obtain ⟨t,ht⟩ : ∃ t,t=decide (y < 0):=⟨_,rfl⟩
 rw [fE hp.symm hs.symm,fE hr.symm ht.symm]
 obtain ⟨ph,pl,hph,hpl,ep⟩:=fe p s
 obtain ⟨rh,rl,hrh,hrl,er⟩:=fe r t
 rw [ep,er]
 have k0 : (0 : Int) <= pl:=by omega
 have k1 : (0 : Int) <= rl:=by omega
 have k3 : (pl : Int) < 18446744073709551616:=by omega
 have k4 : (rl : Int) < 18446744073709551616:=by omega
 by_cases c : s=t
 ·have e : fY (x + y)=eJ (p + r) (s && !decide (p + r=0)):=fE (by
   subst c
   rw [hs,decide_eq_decide] at ht
   omega) (by
   subst c
   rw [hs] at ht ⊢
   rw [decide_eq_decide] at ht
   rw [Bool.eq_iff_iff]
   simp
   omega)
  obtain ⟨dh,dl,hdh,hdl,ed⟩:=fe (p + r) (s && !decide (p + r=0))
  rw [e,ed]
  have kk:=ig hC dh dl s
  rw [show (s && (!decide ((dh : Int)=0) || !decide ((dl : Int)=0)))=(s && !decide (p + r=0)) by
   congr 1;rw [Bool.eq_iff_iff];simp;omega] at kk
  obtain ⟨w,hw⟩ : ∃ w,w=(s && !decide (p + r=0)):=⟨_,rfl⟩
  rw [<- hw] at kk ⊢
  subst c
  clear hs ht hw e ed
  have e1 : ((pl : Int) + rl) % 18446744073709551616=(dl : Int):=by omega
  have e2 : IntKind.u64.wrap ((ph : Int) + rh)=(ph : Int) + rh:=uw (m:=ph + rh) (by omega) (by omega)
  have e3 : IntKind.u64.wrap ((ph : Int) + rh + ((pl : Int) + rl) / 18446744073709551616)=(dh : Int):=uw (by omega) (by omega)
  obtain ⟨g,hg⟩ : ∃ g,g=((pl : Int) + rl) / 18446744073709551616:=⟨_,rfl⟩
  rw [<- hg] at e3
  refine start hC (nf:=N107) rfl rfl ?_
  simp [N107,k0,k1,k3,k4,e1,e2,e3,<- hg]
  refine aa kk (.inl rfl) ?_
  simp
 ·have c3 : (s == t)=false:=by simpa using c
  rw [hs,ht,decide_eq_decide] at c
  by_cases l : p < r
  ·have e : fY (x + y)=eJ (r - p) (t && !decide (r - p=0)):=fE (by
    omega) (by
    rw [Bool.eq_iff_iff,ht]
    simp
    omega)
   obtain ⟨dh,dl,hdh,hdl,ed⟩:=fe (r - p) (t && !decide (r - p=0))
   rw [e,ed]
   have kk:=ig hC dh dl t
   rw [show (t && (!decide ((dh : Int)=0) || !decide ((dl : Int)=0)))=(t && !decide (r - p=0)) by
    congr 1;rw [Bool.eq_iff_iff];simp;omega] at kk
   obtain ⟨w,hw⟩ : ∃ w,w=(t && !decide (r - p=0)):=⟨_,rfl⟩
   rw [<- hw] at kk ⊢
   have e1 : ((rl : Int) - pl) % 18446744073709551616=(dl : Int):=by omega
   have e2 : IntKind.u64.wrap ((rh : Int) - ph)=((rh - ph : Nat) : Int):=uw (by omega) (by omega)
   have e3 : IntKind.u64.wrap (((rh - ph : Nat) : Int) - (if rl < pl then 1 else 0))=(dh : Int):=by
    split <;> exact uw (by omega) (by omega)
   have c5 : ph < rh \/ (ph=rh /\ pl < rl):=by omega
   clear hs ht hw e ed c
   refine start hC (nf:=N107) rfl rfl ?_
   simp [N107,c3]
   rcases c5 with c5 | ⟨c5,c6⟩
   ·simp [c5,k3,k4,e1,e2]
    rw [e3]
    refine aa kk (.inl rfl) ?_
    simp
   ·have c7 : ¬ rl < pl:=by omega
    have hd : dh=0:=by omega
    have hz : IntKind.u64.wrap 0=0:=dg 0 (by omega)
    subst hd
    clear hph hpl hrh hrl hdh hdl k0 k1
    subst c5
    refine al (fun c4=>?_) (fun c4=>?_) <;> simp at c4
    simp
    refine al (fun c4=>?_) (fun c4=>?_) <;> simp at c4
    ·simp [c4,c7,k3,k4,e1,hz]
     refine aa kk (.inl rfl) ?_
     simp
    ·omega
  ·have e : fY (x + y)=eJ (p - r) (s && !decide (p - r=0)):=fE (by
    omega) (by
    rw [Bool.eq_iff_iff,hs]
    simp
    omega)
   obtain ⟨dh,dl,hdh,hdl,ed⟩:=fe (p - r) (s && !decide (p - r=0))
   rw [e,ed]
   have kk:=ig hC dh dl s
   rw [show (s && (!decide ((dh : Int)=0) || !decide ((dl : Int)=0)))=(s && !decide (p - r=0)) by
    congr 1;rw [Bool.eq_iff_iff];simp;omega] at kk
   obtain ⟨w,hw⟩ : ∃ w,w=(s && !decide (p - r=0)):=⟨_,rfl⟩
   rw [<- hw] at kk ⊢
   have e1 : ((pl : Int) - rl) % 18446744073709551616=(dl : Int):=by omega
   have e2 : IntKind.u64.wrap ((ph : Int) - rh)=((ph - rh : Nat) : Int):=uw (by omega) (by omega)
   have e3 : IntKind.u64.wrap (((ph - rh : Nat) : Int) - (if pl < rl then 1 else 0))=(dh : Int):=by
    split <;> exact uw (by omega) (by omega)
   have c5 : ¬ ph < rh:=by omega
   have c6 : ph=rh -> ¬ pl < rl:=by omega
   clear hs ht hw e ed c
   refine start hC (nf:=N107) rfl rfl ?_
   simp [N107,c3]
   simp [c5]
   refine al (fun c7=>?_) (fun c7=>?_) <;> simp at c7 <;> simp [c7]
   ·have c8 : ¬ pl < rl:=c6 (by omega)
    have hd : dh=0:=by omega
    have hz : IntKind.u64.wrap 0=0:=dg 0 (by omega)
    subst hd
    refine al (fun c4=>?_) (fun c4=>?_) <;> simp at c4 <;> simp [c4]
    ·omega
    simp [c8,k3,k4,e1,hz]
    refine aa kk (.inl rfl) ?_
    simp
   ·simp [k3,k4,e1,e2]
    rw [e3]
    refine aa kk (.inl rfl) ?_
    simp
theorem pJ (x y : Int) (hx : -664613997892457936451903530140172288 <= x /\ x <= 664613997892457936451903530140172287) (hy : -664613997892457936451903530140172288 < y /\ y <= 664613997892457936451903530140172287) : C 327 [wiS x,wiS y] (.tup [wiS (x + y),.int .i64 0]) []:=by
 have k1:=j9 hC x (by omega)
 have k2:=j9 hC y (by omega)
 have k3:=mo hC x (by omega)
 have k4:=mo hC y (by omega)
 have k5:=Cs hC x y (by omega) (by omega)
 have k6:=sG hC (x + y) (by omega)
 obtain ⟨a1,a2,_,_,ea⟩:=b8 x
 obtain ⟨b1,b2,_,_,eb⟩:=b8 y
 obtain ⟨c1,c2,_,_,ec⟩:=b8 (x + y)
 obtain ⟨f1,f2,f3,ef⟩ : ∃ (a1 a2 : Nat) (a3 : Bool),fY x=.agg [.int .u64 a1,.int .u64 a2,.bool a3]:=⟨_,_,_,rfl⟩
 obtain ⟨g1,g2,g3,eg⟩ : ∃ (a1 a2 : Nat) (a3 : Bool),fY y=.agg [.int .u64 a1,.int .u64 a2,.bool a3]:=⟨_,_,_,rfl⟩
 obtain ⟨h1,h2,h3,eh⟩ : ∃ (a1 a2 : Nat) (a3 : Bool),fY (x + y)=.agg [.int .u64 a1,.int .u64 a2,.bool a3]:=⟨_,_,_,rfl⟩
 rw [ea] at k1 k3 ⊢
 rw [eb] at k2 k4 ⊢
 rw [ef] at k3 k5
 rw [eg] at k4 k5
 rw [eh] at k5 k6
 rw [ec] at k6 ⊢
 clear ea eb ec ef eg eh
 refine start hC (nf:=N327) rfl rfl ?_
 simp [N327]
 refine aa k1 (.inl rfl) ?_
 simp
 refine aa k2 (.inl rfl) ?_
 simp
 refine aa k3 (.inl rfl) ?_
 simp
 refine aa k4 (.inl rfl) ?_
 simp
 refine aa k5 (.inl rfl) ?_
 simp
 refine aa k6 (.inr rfl) ?_
 simp
 exact ai (by decide +kernel)
theorem vQ (n : Nat) (h : n < 9223372036854775808) (b : Bool) : C 110 [.int .u64 n,.bool b] (.tup [.int .i64 (if b then -(n : Int) else n),.int .i64 0]) []:=by
 cases b
 ·exact jG hC n h
 ·by_cases h0 : n=0
  ·subst h0
   refine start hC (nf:=N110) rfl rfl ?_
   have hz : IntKind.u64.wrap 0=0:=by decide
   have hz2 : IntKind.i64.wrap 0=0:=by decide
   simp [N110,hz,hz2]
  ·have h1 : (n : Int) <= 9223372036854775808:=by omega
   have h2 : IntKind.u64.wrap (-(n : Int))=((18446744073709551616 - n : Nat) : Int):=uw (by omega) (by omega)
   have h3 : IntKind.i64.wrap ((18446744073709551616 - n : Nat) : Int)=-(n : Int):=iw (by omega) (by omega)
   obtain ⟨y,hy⟩ : ∃ y,y=((18446744073709551616 - n : Nat) : Int):=⟨_,rfl⟩
   rw [<- hy] at h2 h3
   refine start hC (nf:=N110) rfl rfl ?_
   simp [N110,h1,h2,h3]
theorem pg (p d : Nat) (up : Bool) (q : Nat) (hp0 : 0 < p) (hd : d < 9223372036854775808) (hp : p / 18446744073709551616 < d) (hq : q < 9223372036854775808) (hv : q=if up then p / d else if p % d=0 then p / d else p / d + 1) (hqd : p / d + 1 < 9223372036854775808) : C 104 [eJ p true,.int .i64 d,.bool up] (.tup [.int .i64 (-(q : Int)),.int .i64 0]) []:=by
 obtain ⟨ph,hph⟩ : ∃ z,z=p / 18446744073709551616:=⟨_,rfl⟩
 obtain ⟨pl,hpl⟩ : ∃ z,z=p % 18446744073709551616:=⟨_,rfl⟩
 have hpp : ph * 18446744073709551616 + pl=p:=by omega
 obtain ⟨q0,hq0⟩ : ∃ z,z=p / d:=⟨_,rfl⟩
 obtain ⟨r0,hr0⟩ : ∃ z,z=p % d:=⟨_,rfl⟩
 have hdiv:=qO hC ph pl d (by omega) (by omega) (by omega)
 rw [hpp,<- hq0,<- hr0] at hdiv
 rw [<- hq0,<- hr0] at hv
 rw [eJ,<- hph,<- hpl]
 have h1 : ¬ (d : Int) <= (ph : Int):=by omega
 have h2 : ¬ (d : Int) < 0:=by omega
 have h3 : IntKind.u64.wrap ((q0 : Int) + 1)=((q0 + 1 : Nat) : Int):=uw (by omega) (by omega)
 have kw:=vQ hC q hq (decide (0 < q))
 have kq : (if decide (0 < q)=true then -(q : Int) else (q : Int))=-(q : Int):=by
  by_cases h : 0 < q
  ·simp [h]
  ·have : q=0:=by omega
   subst this
   simp
 rw [kq] at kw
 obtain ⟨Q,hQ⟩ : ∃ Q,Q=-(q : Int):=⟨_,rfl⟩
 rw [<- hQ] at kw ⊢
 refine start hC (nf:=N104) rfl rfl ?_
 simp [N104]
 refine aa (iK hC d hd) (.inl rfl) ?_
 simp [h1]
 refine aa hdiv (.inl rfl) ?_
 simp [h2]
 cases up
 ·by_cases h : 0 < r0
  ·have hi : (0 : Int) < r0:=by omega
   have e : q=q0 + 1:=by rw [hv];simp;omega
   subst e
   have h4 : ¬ ((q0 : Int) + 1=0):=by omega
   simp [hi,h3,h4,h]
   simp at kw
   refine aa kw (.inl rfl) ?_
   simp
  ·have hi : ¬ (0 : Int) < r0:=by omega
   have e : q=q0:=by rw [hv];simp;omega
   subst e
   simp [hi,h]
   refine aa kw (.inl rfl) ?_
   simp
 ·have e : q=q0:=by rw [hv];simp
  subst e
  by_cases h : 0 < r0
  ·have hi : (0 : Int) < r0:=by omega
   simp [hi,h]
   refine aa kw (.inl rfl) ?_
   simp
  ·have hi : ¬ (0 : Int) < r0:=by omega
   simp [hi,h]
   refine aa kw (.inl rfl) ?_
   simp
end Go.Gv

namespace Go.Gv
theorem bH : IntKind.wrap .i64 1=1:=by decide
theorem bM : IntKind.wrap .i64 2=2:=by decide
theorem bN : IntKind.wrap .i64 3=3:=by decide
variable {C : CC} (hC : aw prog C)
include hC
set_option maxHeartbeats 1000000 in
theorem Ad {t u : Tri} (ht : okT t=true) (hu : okT u=true) : C 311 [.agg (cl t),.agg (cl u)] (.bool (pv t u)) []:=by
 simp only [okT,Bool.and_eq_true] at ht hu
 obtain ⟨⟨t1,t2⟩,t3⟩:=ht
 obtain ⟨⟨u1,u2⟩,u3⟩:=hu
 have kk:=fun (p q r : Pnt) (hp : okP p=true) (hq : okP q=true) (hr : okP r=true)=>rq hC hp hq hr
 simp only [ptD] at kk
 have E : pv t u=(ic t.1 t.2.1 u || ic t.2.1 t.2.2 u || ic t.2.2 t.1 u):=rfl
 rw [E]
 clear E
 have S : ∀ p q,ic p q u=(decide (aF p q u.1 <= 0) && decide (aF p q u.2.1 <= 0) && decide (aF p q u.2.2 <= 0)):=fun p q=>rfl
 refine start hC (nf:=N311) rfl rfl ?_
 rw [cl,cl]
 simp [N311]
 refine av Nat (fun i=>[(2,.ptr (cl t)),(3,.ptr (cl u)),(8,.int .i64 i)]) (fun i=>i <= 3 /\ (1 <= i -> ic t.1 t.2.1 u=false) /\ (2 <= i -> ic t.2.1 t.2.2 u=false) /\ (3 <= i -> ic t.2.2 t.1 u=false)) (fun i=>3 - i) 0 (by simp) (by simp [cl]) ?_
 rintro i ⟨hi,s1,s2,s3⟩
 rcases (by omega : i=0 \/ i=1 \/ i=2 \/ i=3) with rfl | rfl | rfl | rfl
 ·simp [cl,bH,bM,bN]
  refine ⟨ai (by decide +kernel),?_⟩
  refine aa (kk t.1 t.2.1 u.1 t1 t2 u1) (.inl rfl) ?_
  simp
  refine al (fun h1=>?_) (fun h1=>?_) <;> simp at h1
  ·simp [h1]
   refine aa (kk t.1 t.2.1 u.2.1 t1 t2 u2) (.inl rfl) ?_
   simp
   refine al (fun h2=>?_) (fun h2=>?_) <;> simp at h2
   ·simp [h2]
    refine aa (kk t.1 t.2.1 u.2.2 t1 t2 u3) (.inl rfl) ?_
    simp
    refine al (fun h3=>?_) (fun h3=>?_) <;> simp at h3 <;> simp [h3]
    ·simp [S,h1,h2,h3]
    ·refine ⟨1,⟨by omega,fun _=>by simp only [S,Bool.and_eq_false_iff,decide_eq_false_iff_not];omega,fun h=>by omega,fun h=>by omega⟩,by omega,?_⟩ <;> simp [bH,bM,bN]
   ·simp [Int.not_le.2 h2]
    refine ⟨1,⟨by omega,fun _=>by simp only [S,Bool.and_eq_false_iff,decide_eq_false_iff_not];omega,fun h=>by omega,fun h=>by omega⟩,by omega,?_⟩ <;> simp [bH,bM,bN]
  ·simp [Int.not_le.2 h1]
   refine ⟨1,⟨by omega,fun _=>by simp only [S,Bool.and_eq_false_iff,decide_eq_false_iff_not];omega,fun h=>by omega,fun h=>by omega⟩,by omega,?_⟩ <;> simp [bH,bM,bN]
 ·simp [cl,bH,bM,bN]
  refine ⟨ai (by decide +kernel),?_⟩
  refine aa (kk t.2.1 t.2.2 u.1 t2 t3 u1) (.inl rfl) ?_
  simp
  refine al (fun h1=>?_) (fun h1=>?_) <;> simp at h1
  ·simp [h1]
   refine aa (kk t.2.1 t.2.2 u.2.1 t2 t3 u2) (.inl rfl) ?_
   simp
   refine al (fun h2=>?_) (fun h2=>?_) <;> simp at h2
   ·simp [h2]
    refine aa (kk t.2.1 t.2.2 u.2.2 t2 t3 u3) (.inl rfl) ?_
    simp
    refine al (fun h3=>?_) (fun h3=>?_) <;> simp at h3 <;> simp [h3]
    ·simp [S,h1,h2,h3]
    ·refine ⟨2,⟨by omega,fun _=>s1 (by omega),fun _=>by simp only [S,Bool.and_eq_false_iff,decide_eq_false_iff_not];omega,fun h=>by omega⟩,by omega,?_⟩ <;> simp [bH,bM,bN]
   ·simp [Int.not_le.2 h2]
    refine ⟨2,⟨by omega,fun _=>s1 (by omega),fun _=>by simp only [S,Bool.and_eq_false_iff,decide_eq_false_iff_not];omega,fun h=>by omega⟩,by omega,?_⟩ <;> simp [bH,bM,bN]
  ·simp [Int.not_le.2 h1]
   refine ⟨2,⟨by omega,fun _=>s1 (by omega),fun _=>by simp only [S,Bool.and_eq_false_iff,decide_eq_false_iff_not];omega,fun h=>by omega⟩,by omega,?_⟩ <;> simp [bH,bM,bN]
 ·simp [cl,bH,bM,bN]
  refine ⟨ai (by decide +kernel),?_⟩
  refine aa (kk t.2.2 t.1 u.1 t3 t1 u1) (.inl rfl) ?_
  simp
  refine al (fun h1=>?_) (fun h1=>?_) <;> simp at h1
  ·simp [h1]
   refine aa (kk t.2.2 t.1 u.2.1 t3 t1 u2) (.inl rfl) ?_
   simp
   refine al (fun h2=>?_) (fun h2=>?_) <;> simp at h2
   ·simp [h2]
    refine aa (kk t.2.2 t.1 u.2.2 t3 t1 u3) (.inl rfl) ?_
    simp
    refine al (fun h3=>?_) (fun h3=>?_) <;> simp at h3 <;> simp [h3]
    ·simp [S,h1,h2,h3]
    ·refine ⟨3,⟨by omega,fun _=>s1 (by omega),fun _=>s2 (by omega),fun _=>by simp only [S,Bool.and_eq_false_iff,decide_eq_false_iff_not];omega⟩,by omega,?_⟩ <;> simp [bH,bM,bN]
   ·simp [Int.not_le.2 h2]
    refine ⟨3,⟨by omega,fun _=>s1 (by omega),fun _=>s2 (by omega),fun _=>by simp only [S,Bool.and_eq_false_iff,decide_eq_false_iff_not];omega⟩,by omega,?_⟩ <;> simp [bH,bM,bN]
  ·simp [Int.not_le.2 h1]
   refine ⟨3,⟨by omega,fun _=>s1 (by omega),fun _=>s2 (by omega),fun _=>by simp only [S,Bool.and_eq_false_iff,decide_eq_false_iff_not];omega⟩,by omega,?_⟩ <;> simp [bH,bM,bN]
 ·simp [s1 (by omega),s2 (by omega),s3 (by omega)]
def mB (t : Tri) : List (List D):=[ptD t.1,ptD t.2.1,ptD t.2.2]
set_option maxHeartbeats 1000000 in
theorem pi {t u : Tri} (ht : okT t=true) (hu : okT u=true) : C 324 [.sl (mB t),.sl (mB u)] (.bool (pv t u)) []:=by
 simp only [okT,Bool.and_eq_true] at ht hu
 obtain ⟨⟨t1,t2⟩,t3⟩:=ht
 obtain ⟨⟨u1,u2⟩,u3⟩:=hu
 have kk:=fun (p q r : Pnt) (hp : okP p=true) (hq : okP q=true) (hr : okP r=true)=>rC hC hp hq hr
 simp only [ptD] at kk
 have E : pv t u=(ic t.1 t.2.1 u || ic t.2.1 t.2.2 u || ic t.2.2 t.1 u):=rfl
 rw [E]
 clear E
 have S : ∀ p q,ic p q u=(decide (aF p q u.1 <= 0) && decide (aF p q u.2.1 <= 0) && decide (aF p q u.2.2 <= 0)):=fun p q=>rfl
 refine start hC (nf:=N324) rfl rfl ?_
 simp only [mB,ptD]
 simp [N324]
 refine av Nat (fun i=>[(0,.sl (mB t)),(1,.sl (mB u)),(5,.int .i64 i)]) (fun i=>i <= 3 /\ (1 <= i -> ic t.1 t.2.1 u=false) /\ (2 <= i -> ic t.2.1 t.2.2 u=false) /\ (3 <= i -> ic t.2.2 t.1 u=false)) (fun i=>3 - i) 0 (by simp) (by simp [mB,ptD]) ?_
 rintro i ⟨hi,s1,s2,s3⟩
 rcases (by omega : i=0 \/ i=1 \/ i=2 \/ i=3) with rfl | rfl | rfl | rfl
 ·simp [mB,ptD,bH,bM,bN]
  refine ⟨ai (by decide +kernel),?_⟩
  refine aa (kk t.1 t.2.1 u.1 t1 t2 u1) (.inl rfl) ?_
  simp
  refine al (fun h1=>?_) (fun h1=>?_) <;> simp at h1
  ·simp [h1]
   refine aa (kk t.1 t.2.1 u.2.1 t1 t2 u2) (.inl rfl) ?_
   simp
   refine al (fun h2=>?_) (fun h2=>?_) <;> simp at h2
   ·simp [h2]
    refine aa (kk t.1 t.2.1 u.2.2 t1 t2 u3) (.inl rfl) ?_
    simp
    refine ⟨ai (by decide +kernel),?_⟩
    refine al (fun h3=>?_) (fun h3=>?_) <;> simp at h3 <;> simp [h3]
    ·simp [S,h1,h2,h3]
    ·refine ⟨1,⟨by omega,fun _=>by simp only [S,Bool.and_eq_false_iff,decide_eq_false_iff_not];omega,fun h=>by omega,fun h=>by omega⟩,by omega,?_⟩ <;> simp [bH,bM,bN]
   ·simp [Int.not_le.2 h2]
    refine ⟨ai (by decide +kernel),?_⟩
    refine ⟨1,⟨by omega,fun _=>by simp only [S,Bool.and_eq_false_iff,decide_eq_false_iff_not];omega,fun h=>by omega,fun h=>by omega⟩,by omega,?_⟩ <;> simp [bH,bM,bN]
  ·simp [Int.not_le.2 h1]
   refine ⟨ai (by decide +kernel),?_⟩
   refine ⟨1,⟨by omega,fun _=>by simp only [S,Bool.and_eq_false_iff,decide_eq_false_iff_not];omega,fun h=>by omega,fun h=>by omega⟩,by omega,?_⟩ <;> simp [bH,bM,bN]
 ·simp [mB,ptD,bH,bM,bN]
  refine ⟨ai (by decide +kernel),?_⟩
  refine aa (kk t.2.1 t.2.2 u.1 t2 t3 u1) (.inl rfl) ?_
  simp
  refine al (fun h1=>?_) (fun h1=>?_) <;> simp at h1
  ·simp [h1]
   refine aa (kk t.2.1 t.2.2 u.2.1 t2 t3 u2) (.inl rfl) ?_
   simp
   refine al (fun h2=>?_) (fun h2=>?_) <;> simp at h2
   ·simp [h2]
    refine aa (kk t.2.1 t.2.2 u.2.2 t2 t3 u3) (.inl rfl) ?_
    simp
    refine ⟨ai (by decide +kernel),?_⟩
    refine al (fun h3=>?_) (fun h3=>?_) <;> simp at h3 <;> simp [h3]
    ·simp [S,h1,h2,h3]
    ·refine ⟨2,⟨by omega,fun _=>s1 (by omega),fun _=>by simp only [S,Bool.and_eq_false_iff,decide_eq_false_iff_not];omega,fun h=>by omega⟩,by omega,?_⟩ <;> simp [bH,bM,bN]
   ·simp [Int.not_le.2 h2]
    refine ⟨ai (by decide +kernel),?_⟩
    refine ⟨2,⟨by omega,fun _=>s1 (by omega),fun _=>by simp only [S,Bool.and_eq_false_iff,decide_eq_false_iff_not];omega,fun h=>by omega⟩,by omega,?_⟩ <;> simp [bH,bM,bN]
  ·simp [Int.not_le.2 h1]
   refine ⟨ai (by decide +kernel),?_⟩
   refine ⟨2,⟨by omega,fun _=>s1 (by omega),fun _=>by simp only [S,Bool.and_eq_false_iff,decide_eq_false_iff_not];omega,fun h=>by omega⟩,by omega,?_⟩ <;> simp [bH,bM,bN]
 ·simp [mB,ptD,bH,bM,bN]
  refine ⟨ai (by decide +kernel),?_⟩
  refine aa (kk t.2.2 t.1 u.1 t3 t1 u1) (.inl rfl) ?_
  simp
  refine al (fun h1=>?_) (fun h1=>?_) <;> simp at h1
  ·simp [h1]
   refine aa (kk t.2.2 t.1 u.2.1 t3 t1 u2) (.inl rfl) ?_
   simp
   refine al (fun h2=>?_) (fun h2=>?_) <;> simp at h2
   ·simp [h2]
    refine aa (kk t.2.2 t.1 u.2.2 t3 t1 u3) (.inl rfl) ?_
    simp
    refine ⟨ai (by decide +kernel),?_⟩
    refine al (fun h3=>?_) (fun h3=>?_) <;> simp at h3 <;> simp [h3]
    ·simp [S,h1,h2,h3]
    ·refine ⟨3,⟨by omega,fun _=>s1 (by omega),fun _=>s2 (by omega),fun _=>by simp only [S,Bool.and_eq_false_iff,decide_eq_false_iff_not];omega⟩,by omega,?_⟩ <;> simp [bH,bM,bN]
   ·simp [Int.not_le.2 h2]
    refine ⟨ai (by decide +kernel),?_⟩
    refine ⟨3,⟨by omega,fun _=>s1 (by omega),fun _=>s2 (by omega),fun _=>by simp only [S,Bool.and_eq_false_iff,decide_eq_false_iff_not];omega⟩,by omega,?_⟩ <;> simp [bH,bM,bN]
  ·simp [Int.not_le.2 h1]
   refine ⟨ai (by decide +kernel),?_⟩
   refine ⟨3,⟨by omega,fun _=>s1 (by omega),fun _=>s2 (by omega),fun _=>by simp only [S,Bool.and_eq_false_iff,decide_eq_false_iff_not];omega⟩,by omega,?_⟩ <;> simp [bH,bM,bN]
 ·simp [s1 (by omega),s2 (by omega),s3 (by omega)]
end Go.Gv

namespace Go.Gv
def okc (m : Msh) (a b : Int) : Bool:=fO m.s.length a && decide (a ≠ b) && aA (spt m a.toNat)
def okF (m : Msh) (f : Fce) : Bool:=okc m f.a f.b && okc m f.b f.c && okc m f.c f.a && decide (0 <= f.k) && decide (f.k < 16)
def mtc (f g : Fce) (i k : Nat) : Bool:=decide (crn f i=crn g k) && decide (crn f (i + 1)=crn g (k + 1))
def j6 (f g : Fce) : Bool:=(List.range 3).any fun i=>(List.range 3).any fun k=>mtc f g i k
theorem iz {m : Msh} {f : Fce} (h : okF m f=true) : inS m f=true:=by
 simp only [okF,okc,Bool.and_eq_true] at h
 simp only [inS,Bool.and_eq_true]
 exact ⟨⟨h.1.1.1.1.1.1,h.1.1.1.2.1.1⟩,h.1.1.2.1.1⟩
theorem cH {m : Msh} {f : Fce} (h : okF m f=true) : okT (aQ m f)=true:=by
 simp only [okF,okc,Bool.and_eq_true] at h
 simp only [okT,aQ,Bool.and_eq_true]
 exact ⟨⟨i7 h.1.1.1.1.2,i7 h.1.1.1.2.2⟩,i7 h.1.1.2.2⟩
def oD (n : Nat) : UInt8:=UInt8.ofNat (48 + n % 10)
def nG (n : Nat) (out : List UInt8) : List UInt8:=if n < 10 then oD n::out else nG (n / 10) (oD n::out)
def pV (n : Nat) (out : List UInt8) : List UInt8:=if n=0 then out else nG n out
theorem mQ (n : Nat) (out : List UInt8) : nG n out=pV (n / 10) (oD n::out):=by
 rw [nG,pV]
 by_cases h : n < 10
 ·rw [if_pos h,if_pos (by omega)]
 ·rw [if_neg h,if_neg (by omega)]
variable {C : CC} (hC : aw prog C)
include hC
theorem x6 (m : Msh) (f : Fce) (hs : inS m f=true) (ht : okT (aQ m f)=true) : C 293 [.agg (aZ m),.agg (aY f)] (.int .i64 (nr (aQ m f))) []:=by
 have k1:=qA hC m f hs
 have k2:=ht
 simp only [okT,Bool.and_eq_true] at k2
 have k3:=rC hC k2.1.1 k2.1.2 k2.2
 obtain ⟨t,e⟩ : ∃ t,t=aQ m f:=⟨_,rfl⟩
 rw [<- e] at k1 k3 ⊢
 refine start hC (nf:=N293) rfl rfl ?_
 rw [aZ,aY] at k1 ⊢
 simp only [ptD] at k1 k3
 simp [N293]
 refine aa k1 (.inr rfl) ?_
 simp
 refine aa k3 (.inl rfl) ?_
 simp [nr]
 exact ai (by decide +kernel)
theorem qy (m : Msh) (f g : Fce) (hs : inS m f=true) (ht : okT (aQ m f)=true) (hs' : inS m g=true) (ht' : okT (aQ m g)=true) : C 295 [.agg (aZ m),.agg (aY f),.agg (aY g)] (.bool (ovT (aQ m f) (aQ m g))) []:=by
 have k1:=qA hC m f hs
 have k2:=qA hC m g hs'
 have k3:=pi hC ht ht'
 have k4:=pi hC ht' ht
 obtain ⟨t,e⟩ : ∃ t,t=aQ m f:=⟨_,rfl⟩
 obtain ⟨u,e'⟩ : ∃ u,u=aQ m g:=⟨_,rfl⟩
 rw [<- e] at k1 k3 k4 ⊢
 rw [<- e'] at k2 k3 k4 ⊢
 refine start hC (nf:=N295) rfl rfl ?_
 rw [aZ,aY] at k1 k2 ⊢
 rw [aY]
 simp only [mB,ptD] at k1 k2 k3 k4
 simp [N295]
 refine aa k1 (.inr rfl) ?_
 simp
 refine aa k2 (.inr rfl) ?_
 simp
 refine ⟨ai (by decide +kernel),?_⟩
 refine aa k3 (.inl rfl) ?_
 simp
 cases h1 : pv t u <;> simp [ovT,h1]
 refine aa k4 (.inl rfl) ?_
 simp
 exact fun _=>h1
theorem x3 (f g : Fce) : C 294 [.agg (aY f),.agg (aY g)] (.bool (j6 f g)) []:=by
 have kf:=fun k (h : k < 4)=>nh hC f k h
 have kg:=fun k (h : k < 4)=>nh hC g k h
 refine start hC (nf:=N294) rfl rfl ?_
 rw [aY] at kf ⊢
 rw [aY] at kg ⊢
 simp [N294]
 refine av Nat (fun i=>[(2,.ptr (aY f)),(3,.ptr (aY g)),(5,.int .i64 i)]) (fun i=>i <= 3 /\ ∀ a,a < i -> ∀ b,b < 3 -> mtc f g a b=false) (fun i=>3 - i) 0 (by simp) (by simp [aY]) ?_
 rintro i ⟨hi,hI⟩
 simp [aY]
 refine al (fun c1=>?_) (fun c1=>?_) <;> simp at c1 <;> simp [c1]
 ·have hw : IntKind.wrap .i64 ((i : Int) + 1)=((i + 1 : Nat) : Int):=ae (by omega) (by omega)
  refine av Nat (fun k=>[(2,.ptr (aY f)),(3,.ptr (aY g)),(5,.int .i64 i),(6,.int .i64 k)]) (fun k=>k <= 3 /\ ∀ b,b < k -> mtc f g i b=false) (fun k=>3 - k) 0 (by simp) (by simp [aY]) ?_
  rintro k ⟨hk,hK⟩
  simp [aY]
  refine al (fun c2=>?_) (fun c2=>?_) <;> simp at c2 <;> simp [c2]
  ·have hw2 : IntKind.wrap .i64 ((k : Int) + 1)=((k + 1 : Nat) : Int):=ae (by omega) (by omega)
   refine aa (kf i (by omega)) (.inl rfl) ?_
   simp
   refine aa (kg k (by omega)) (.inl rfl) ?_
   simp
   by_cases h1 : crn f i=crn g k
   ·simp [h1,hw,hw2]
    refine aa (kf (i + 1) (by omega)) (.inl rfl) ?_
    simp [hw2]
    refine aa (kg (k + 1) (by omega)) (.inl rfl) ?_
    simp
    refine ⟨ai (by decide +kernel),?_⟩
    by_cases h2 : crn f (i + 1)=crn g (k + 1)
    ·simp [h2]
     refine List.any_eq_true.2 ⟨i,List.mem_range.2 (by omega),List.any_eq_true.2 ⟨k,List.mem_range.2 (by omega),?_⟩⟩
     simp [mtc,h1,h2]
    ·simp [h2,hw2]
     refine ⟨k + 1,⟨by omega,fun b hb=>?_⟩,by omega,?_⟩
     rotate_left
     ·omega
     rcases Nat.lt_succ_iff_lt_or_eq.1 hb with h | rfl
     ·exact hK b h
     ·simp [mtc,h2]
   ·simp [h1,hw2]
    refine ⟨ai (by decide +kernel),?_⟩
    refine ⟨k + 1,⟨by omega,fun b hb=>?_⟩,by omega,?_⟩
    rotate_left
    ·omega
    rcases Nat.lt_succ_iff_lt_or_eq.1 hb with h | rfl
    ·exact hK b h
    ·simp [mtc,h1]
  ·simp [hw]
   refine ⟨i + 1,⟨by omega,fun a ha b hb=>?_⟩,by omega,?_⟩
   rotate_left
   ·omega
   rcases Nat.lt_succ_iff_lt_or_eq.1 ha with h | rfl
   ·exact hI a h b hb
   ·exact hK b (by omega)
 ·rw [j6]
  rw [Bool.eq_false_iff]
  intro h
  rw [List.any_eq_true] at h
  obtain ⟨a,ha,h⟩:=h
  rw [List.any_eq_true] at h
  obtain ⟨b,hb,h⟩:=h
  rw [hI a (by have:=List.mem_range.1 ha;omega) b (List.mem_range.1 hb)] at h
  cases h
set_option maxHeartbeats 2000000 in
theorem B6 (m : Msh) (f : Fce) (hn : m.s.length < 2 ^ 40) : C 292 [.agg (aZ m),.agg (aY f)] (.bool (okF m f)) []:=by
 have ks:=fun s=>rB hC s
 have E : ∀ a b : Int,okc m a b=(decide (0 <= a) && decide (a < m.s.length) && decide (a ≠ b) && aA (spt m a.toNat)):=fun a b=>rfl
 have E2 : okF m f=(okc m f.a f.b && okc m f.b f.c && okc m f.c f.a && decide (0 <= f.k) && decide (f.k < 16)):=rfl
 refine start hC (nf:=N292) rfl rfl ?_
 rw [aZ,aY]
 simp only [bk] at ks
 simp [N292]
 refine av Nat (fun i=>[(2,.ptr (aZ m)),(3,.ptr (aY f)),(5,.ref (.r 10080) 0 3),(10080,.blk 1 [[.int .i64 f.a],[.int .i64 f.b],[.int .i64 f.c]]),(6,.int .i64 i)]) (fun i=>i <= 3 /\ (1 <= i -> okc m f.a f.b=true) /\ (2 <= i -> okc m f.b f.c=true) /\ (3 <= i -> okc m f.c f.a=true)) (fun i=>3 - i) 0 (by simp) (by simp [aY,aZ]) ?_
 rintro i ⟨hi,s1,s2,s3⟩
 rcases (by omega : i=0 \/ i=1 \/ i=2 \/ i=3) with rfl | rfl | rfl | rfl
 ·have no : okc m f.a f.b=false -> okF m f=false:=fun h=>by simp [E2,h]
  simp [aY,aZ,bH,bM,bN]
  refine al (fun c1=>?_) (fun c1=>?_) <;> simp at c1
  ·simp [c1]
   exact ⟨ai (by decide +kernel),no (by rw [E,decide_eq_false (by omega)];simp)⟩
  ·simp [Int.not_lt.2 c1]
   refine al (fun c2=>?_) (fun c2=>?_) <;> simp at c2
   ·simp [c2]
    exact ⟨ai (by decide +kernel),no (by rw [E,decide_eq_false (show ¬ f.a < m.s.length by omega)];simp)⟩
   ·simp [Int.not_le.2 c2,bH,bM,bN]
    by_cases c3 : f.a=f.b
    ·simp [c3,bH,bM,bN]
     exact ⟨ai (by decide +kernel),no (by rw [E,decide_eq_false (show ¬ f.a ≠ f.b by omega)];simp)⟩
    ·simp [c3,c1,bH,bM,bN]
     refine ⟨by omega,by simp [bk],?_⟩
     simp [bq]
     refine aa (ks (spt m f.a.toNat)) (.inl rfl) ?_
     cases c4 : aA (spt m f.a.toNat)
     ·simp
      exact ⟨ai (by decide +kernel),no (by rw [E,c4];simp)⟩
     ·simp
      refine ⟨ai (by decide +kernel),?_⟩
      refine ⟨1,⟨by omega,fun _=>by rw [E];simp [c1,c3,c4];omega,fun h=>by omega,fun h=>by omega⟩,by omega,?_⟩ <;> simp [bH,bM,bN]
 ·have no : okc m f.b f.c=false -> okF m f=false:=fun h=>by simp [E2,h]
  simp [aY,aZ,bH,bM,bN]
  refine al (fun c1=>?_) (fun c1=>?_) <;> simp at c1
  ·simp [c1]
   exact ⟨ai (by decide +kernel),no (by rw [E,decide_eq_false (by omega)];simp)⟩
  ·simp [Int.not_lt.2 c1]
   refine al (fun c2=>?_) (fun c2=>?_) <;> simp at c2
   ·simp [c2]
    exact ⟨ai (by decide +kernel),no (by rw [E,decide_eq_false (show ¬ f.b < m.s.length by omega)];simp)⟩
   ·simp [Int.not_le.2 c2,bH,bM,bN]
    by_cases c3 : f.b=f.c
    ·simp [c3,bH,bM,bN]
     exact ⟨ai (by decide +kernel),no (by rw [E,decide_eq_false (show ¬ f.b ≠ f.c by omega)];simp)⟩
    ·simp [c3,c1,bH,bM,bN]
     refine ⟨by omega,by simp [bk],?_⟩
     simp [bq]
     refine aa (ks (spt m f.b.toNat)) (.inl rfl) ?_
     cases c4 : aA (spt m f.b.toNat)
     ·simp
      exact ⟨ai (by decide +kernel),no (by rw [E,c4];simp)⟩
     ·simp
      refine ⟨ai (by decide +kernel),?_⟩
      refine ⟨2,⟨by omega,fun _=>s1 (by omega),fun _=>by rw [E];simp [c1,c3,c4];omega,fun h=>by omega⟩,by omega,?_⟩ <;> simp [bH,bM,bN]
 ·have no : okc m f.c f.a=false -> okF m f=false:=fun h=>by simp [E2,h]
  simp [aY,aZ,bH,bM,bN]
  refine al (fun c1=>?_) (fun c1=>?_) <;> simp at c1
  ·simp [c1]
   exact ⟨ai (by decide +kernel),no (by rw [E,decide_eq_false (by omega)];simp)⟩
  ·simp [Int.not_lt.2 c1]
   refine al (fun c2=>?_) (fun c2=>?_) <;> simp at c2
   ·simp [c2]
    exact ⟨ai (by decide +kernel),no (by rw [E,decide_eq_false (show ¬ f.c < m.s.length by omega)];simp)⟩
   ·simp [Int.not_le.2 c2,bH,bM,bN]
    by_cases c3 : f.c=f.a
    ·simp [c3,bH,bM,bN]
     exact ⟨ai (by decide +kernel),no (by rw [E,decide_eq_false (show ¬ f.c ≠ f.a by omega)];simp)⟩
    ·simp [c3,c1,bH,bM,bN]
     refine ⟨by omega,by simp [bk],?_⟩
     simp [bq]
     refine aa (ks (spt m f.c.toNat)) (.inl rfl) ?_
     cases c4 : aA (spt m f.c.toNat)
     ·simp
      exact ⟨ai (by decide +kernel),no (by rw [E,c4];simp)⟩
     ·simp
      refine ⟨ai (by decide +kernel),?_⟩
      refine ⟨3,⟨by omega,fun _=>s1 (by omega),fun _=>s2 (by omega),fun _=>by rw [E];simp [c1,c3,c4];omega⟩,by omega,?_⟩ <;> simp [bH,bM,bN]
 ·have t1:=s1 (by omega)
  have t2:=s2 (by omega)
  have t3:=s3 (by omega)
  simp [aY,aZ,E2,t1,t2,t3]
  refine al (fun c1=>?_) (fun c1=>?_) <;> simp at c1 <;> simp [c1] <;> rw [E2,t1,t2,t3] <;> simp [c1]
  omega
theorem B5 (n : Nat) (hn : n < 100) : C 290 [.int .i64 n] (.str (nG n [])) []:=by
 refine start hC (nf:=N290) rfl rfl ?_
 simp [N290]
 refine av (Nat × List UInt8) (fun s=>[(0,.int .i64 s.1),(3,.str s.2)]) (fun s=>s.1 + s.2.length <= n + 1 /\ ((s.2=[] /\ s.1=n) \/ (s.2 ≠ [] /\ pV s.1 s.2=nG n []))) (fun s=>s.1 + if s.2=[] then 1 else 0) (n,[]) (by simp) (by simp) ?_
 rintro ⟨k,out⟩ ⟨hl,hI⟩
 simp only at hl hI
 have ww : IntKind.wrap .i64 ((k : Int) / 10)=((k / 10 : Nat) : Int):=ae (by omega) (by omega)
 have wq : IntKind.wrap .i64 (48 + (k : Int) % 10)=48 + (k : Int) % 10:=ae rfl (by omega)
 have et : (k : Int).tmod 10=(k : Int) % 10:=Int.tmod_eq_emod_of_nonneg (by omega)
 have wd : IntKind.u8.wrap (48 + (k : Int) % 10)=48 + (k : Int) % 10:=by
  have e1 : IntKind.u8.signed=false:=rfl
  have e3 : (2 ^ IntKind.u8.bits : Int)=256:=rfl
  unfold IntKind.wrap
  simp only [e1,e3,Bool.false_and]
  simp
  omega
 have wdd : IntKind.u8.wrap (IntKind.wrap .i64 (48 + (k : Int).tmod 10))=48 + (k : Int) % 10:=by rw [et,wq,wd]
 have hda : (k : Int) / 10=((k / 10 : Nat) : Int):=by omega
 have wb : fK [.int .u8 (48 + (k : Int) % 10)]=oD k:=by
  have : (48 + (k : Int) % 10).toNat=48 + k % 10:=by omega
  simp only [fK,oD,this]
 have hstep : pV (k / 10) (oD k::out)=nG n [] \/ (k=0 /\ out ≠ []):=by
  rcases hI with ⟨rfl,rfl⟩ | ⟨h1,h2⟩
  ·exact .inl (mQ _ _).symm
  ·by_cases h : k=0
   ·exact .inr ⟨h,h1⟩
   ·rw [pV,if_neg h] at h2
    rw [<- mQ,h2]
    exact .inl rfl
 by_cases hk : 0 < k
 ·have h3 : pV (k / 10) (oD k::out)=nG n []:=by
   rcases hstep with h | h
   ·exact h
   ·omega
  simp [hk,wdd,ww]
  refine ⟨⟨48 + k % 10,by omega,by omega⟩,by omega,k / 10,_,⟨by simp;omega,.inr ⟨by simp,?_⟩⟩,?_,hda,rfl⟩
  ·rw [wb];exact h3
  ·simp
   split <;> omega
 ·have h0 : k=0:=by omega
  subst h0
  by_cases ho : out=[]
  ·subst ho
   simp at hstep
   have w48 : IntKind.u8.wrap (IntKind.wrap .i64 48)=48:=by decide
   simp [w48]
   refine ⟨⟨48,rfl,by omega⟩,0,_,⟨by simp,.inr ⟨by simp,?_⟩⟩,⟨rfl,by simp⟩,by decide,rfl⟩
   have : fK [.int .u8 48]=oD 0:=by decide
   rw [this]
   exact hstep
  ·rcases hI with ⟨h1,_⟩ | ⟨_,h2⟩
   ·exact absurd h1 ho
   ·rw [pV,if_pos rfl] at h2
    rw [<- h2]
    simp [ho]
end Go.Gv

namespace Go.Gv
def fw (m : Msh) (i : Nat) : Pnt:=ptS (spt m i)
def fil (p : Nat -> Bool) (n : Nat) : List Nat:=(List.range n).filter p
theorem jm (p : Nat -> Bool) : fil p 0=[]:=rfl
theorem cy {p : Nat -> Bool} {n : Nat} (h : p n=true) : fil p (n + 1)=fil p n++[n]:=by
 rw [fil,List.range_succ,List.filter_append]
 simp [h,fil]
theorem jQ {p : Nat -> Bool} {n : Nat} (h : p n=false) : fil p (n + 1)=fil p n:=by
 rw [fil,List.range_succ,List.filter_append]
 simp [h,fil]
theorem aG (p : Nat -> Bool) (n : Nat) : (fil p n).length <= n:=by
 have:=List.length_filter_le p (List.range n)
 rw [fil]
 simpa using this
theorem dP {p : Nat -> Bool} {n i : Nat} (h : i ∈ fil p n) : i < n /\ p i=true:=by
 rw [fil,List.mem_filter,List.mem_range] at h
 exact h
theorem nK {p : Nat -> Bool} {n : Nat} : fil p n=[] ↔ ∀ i,i < n -> p i=false:=by
 rw [fil,List.filter_eq_nil_iff]
 simp
def cB (m : Msh) (i : Nat) : Bool:=!aA (spt m i)
def bB (m : Msh) (i : Nat) : Bool:=aA (spt m i) && (List.range i).any fun k=>aA (spt m k) && decide (fw m k=fw m i)
def cT (m : Msh) (i : Nat) : Bool:=!okF m (fce m i)
def bX (m : Msh) (i : Nat) : Bool:=okF m (fce m i) && decide (nr (aQ m (fce m i)) <= 0)
def aq (m : Msh) (i : Nat) : Bool:=okF m (fce m i) && decide (0 < nr (aQ m (fce m i)))
def bG (m : Msh) (i : Nat) : Bool:=aq m i && (List.range i).any fun k=>aq m k && j6 (fce m i) (fce m k)
def aM (m : Msh) (i : Nat) : Bool:=aq m i && (List.range i).any fun k=>aq m k && ovT (aQ m (fce m i)) (aQ m (fce m k))
def LL (m : Msh) : List (List Nat):=[[],fil (cB m) m.s.length,fil (bB m) m.s.length,fil (cT m) m.f.length,fil (bX m) m.f.length,fil (bG m) m.f.length,fil (aM m) m.f.length]
def co (dec : Nat -> List UInt8) : Nat -> List (List Nat) -> List (Int × List UInt8)
 | _,[]=>[]
 | k,l::r=>(l.map fun i=>((k : Int),dec i))++co dec (k + 1) r
def fnD (x : Int × List UInt8) : List D:=[.int .i64 x.1,.str x.2]
def bL (m : Msh) : Bool:=decide (m.s.length <= 2000) && decide (m.f.length <= 4000)
def aC (m : Msh) : Bool:=bL m && (LL m).all fun l=>decide (l=[])
theorem lR (dec : Nat -> List UInt8) : ∀ (k : Nat) (ls : List (List Nat)),co dec k ls=[] ↔ (ls.all fun l=>decide (l=[]))=true
 | _,[]=>by simp [co]
 | k,l::r=>by simp [co,lR dec (k + 1) r]
def iP (m : Msh) : Nat -> List D
 | 0=>[]
 | i + 1=>if aA (spt m i) then .agg (ptD (fw m i))::iP m i else iP m i
def j4 (m : Msh) : Nat -> List D
 | 0=>[]
 | i + 1=>if aA (spt m i) then .bool true::j4 m i else j4 m i
theorem pd (m : Msh) : ∀ i,(iP m i).length <= i
 | 0=>by simp [iP]
 | i + 1=>by
  have:=pd m i
  rw [iP]
  split <;> simp <;> omega
theorem AX (p q : Pnt) : eqD (.agg (ptD p)) (.agg (ptD q))=decide (q=p):=by
 obtain ⟨a,b⟩:=p
 obtain ⟨c,d⟩:=q
 simp [eqD,nI,nH,ptD]
 rw [Bool.eq_iff_iff]
 simp
 exact ⟨fun h=>⟨h.1.symm,h.2.symm⟩,fun h=>⟨h.1.symm,h.2.symm⟩⟩
theorem qv (m : Msh) (p : Pnt) : ∀ i,(dz (iP m i) (j4 m i) (.agg (ptD p))).getD (.bool false)=.bool ((List.range i).any fun k=>aA (spt m k) && decide (fw m k=p))
 | 0=>rfl
 | i + 1=>by
  rw [iP,j4,List.range_succ,List.any_append]
  by_cases h : aA (spt m i)=true
  ·rw [if_pos h,if_pos h,dz,AX]
   by_cases h2 : fw m i=p
   ·simp [h,h2]
   ·simp [h2,qv m p i]
  ·rw [if_neg h,if_neg h,qv m p i]
   simp [h]
def eC (m : Msh) (i : Nat) : List Bool:=(List.range m.s.length).map fun j=>decide (j < i) && cB m j
theorem jl (m : Msh) (i : Nat) : (eC m i).length=m.s.length:=by simp [eC]
theorem sf (m : Msh) : eC m 0=List.replicate m.s.length false:=by
 refine List.ext_getElem (by simp [eC]) fun k h1 h2=>?_
 simp [eC]
theorem ul (m : Msh) {i : Nat} (h : i < m.s.length) : (eC m i).set i (cB m i)=eC m (i + 1):=by
 refine List.ext_getElem (by simp [eC]) fun k h1 h2=>?_
 rw [List.getElem_set]
 simp only [eC,List.getElem_map,List.getElem_range]
 by_cases e : i=k
 ·subst e;simp
 ·rw [if_neg e]
  by_cases e2 : k < i
  ·simp [e2,show k < i + 1 by omega]
  ·simp [e2,show ¬ k < i + 1 by omega]
theorem uj (m : Msh) {k : Nat} (h : k < m.s.length) : (eC m m.s.length)[k]'(by rw [jl];exact h)=cB m k:=by simp [eC,h]
variable {C : CC} (hC : aw prog C)
include hC
theorem uB {b : Bool} {xs : List Tri} {g : Nat} {cs : List D} (p : Tri -> Bool) (hs : xs.length < 2 ^ 62) (hp : ∀ x ∈ xs,C g (.agg (cl x)::cs) (.bool (p x)) []) : C 328 [slx b (xs.map cl),.fn g cs] (.int .i64 (jo p xs)) []:=by
 refine start hC (nf:=N328) rfl rfl ?_
 simp [N328]
 refine av Nat (fun i=>[(0,slx b (xs.map cl)),(1,.fn g cs),(7,.int .i64 xs.length),(8,.int .i64 i)]) (fun i=>i <= xs.length /\ ∀ (j : Nat) (h : j < xs.length),j < i -> p xs[j]=false) (fun i=>xs.length - i) 0 (by simp) (by simp) ?_
 rintro i ⟨hi,hj⟩
 simp
 refine al (fun h=>?_) (fun h=>?_) <;> simp [h] <;> simp at h
 ·have hw : IntKind.wrap .i64 ((i : Int) + 1)=((i + 1 : Nat) : Int):=ae (by omega) (by omega)
  have hc:=hp _ (List.getElem_mem h)
  simp [h,List.getElem_map,cl] at hc ⊢
  refine aa hc (.inl rfl) ?_
  simp
  refine al (fun h1=>?_) (fun h1=>?_) <;> simp [h1,hw]
  ·rw [iv hj h h1]
  ·refine ⟨i + 1,⟨by omega,fun j hl hjj=>?_⟩,by omega,by simp [cl]⟩
   rcases Nat.lt_succ_iff_lt_or_eq.1 hjj with h2 | rfl
   ·exact hj j hl h2
   ·exact h1
 ·rw [iu (fun j hl=>hj j hl (by omega))]
theorem cM {b : Bool} {xs : List Tri} {g : Nat} {cs : List D} (p : Tri -> Bool) (hs : xs.length < 2 ^ 62) (hp : ∀ x ∈ xs,C g (.agg (cl x)::cs) (.bool (p x)) []) : C 309 [slx b (xs.map cl),.fn g cs] (.bool (xs.any p)) []:=by
 refine start hC (nf:=N309) rfl rfl ?_
 simp [N309]
 refine aa (uB hC p hs hp) (.inl rfl) ?_
 simp [lF]
theorem AL (m : Msh) (k : Int) (hn : m.s.length < 2 ^ 40) : C 306 [.int .i64 k,.ptr (aZ m),.ptr [.sl ((eC m m.s.length).map fun b=>[.bool b])]] (.bool (!(fO m.s.length k && aA (spt m k.toNat)))) []:=by
 have E : fO m.s.length k=(decide (0 <= k) && decide (k < m.s.length)):=rfl
 refine start hC (nf:=N306) rfl rfl ?_
 simp [N306,aZ]
 refine al (fun c1=>?_) (fun c1=>?_) <;> simp at c1
 ·simp [c1]
  rw [E,decide_eq_false (by omega)];simp
 ·simp [Int.not_lt.2 c1]
  refine al (fun c2=>?_) (fun c2=>?_) <;> simp at c2
  ·simp [c2]
   rw [E,decide_eq_false (show ¬ k < m.s.length by omega)];simp
  ·have c3 : k.toNat < m.s.length:=by omega
   have c4:=uj m c3
   simp [Int.not_le.2 c2,c1,c3,jl]
   rw [c4,E,decide_eq_true c1,decide_eq_true c2]
   simp [cB]
theorem ew {t o : Tri} (ht : okT t=true) (ho : okT o=true) : C 310 [.agg (cl o),.ptr (cl t)] (.bool (ovT t o)) []:=by
 have k1:=Ad hC ht ho
 have k2:=Ad hC ho ht
 refine start hC (nf:=N310) rfl rfl ?_
 rw [cl,cl] at k1 k2 ⊢
 simp [N310]
 refine aa k1 (.inl rfl) ?_
 simp
 cases h1 : pv t o <;> simp [ovT,h1]
 refine aa k2 (.inl rfl) ?_
 simp
 exact fun _=>h1
end Go.Gv

namespace Go.Gv
def nmR (l : List Nat) : List (List D):=l.map fun (k : Nat)=>[D.int .i64 k]
theorem eG (l : List Nat) : nmR l=l.map fun (k : Nat)=>[D.int .i64 k]:=_root_.id rfl
theorem iy {p : Nat -> Bool} {n : Nat} (h : p n=true) : nmR (fil p n)++[[D.int .i64 n]]=nmR (fil p (n + 1)):=by
 rw [cy h];simp [nmR]
theorem eI {p : Nat -> Bool} {n : Nat} (h : p n=false) : nmR (fil p n)=nmR (fil p (n + 1)):=by rw [jQ h]
@[simp] theorem N2 (l : List Nat) : (nmR l).length=l.length:=by simp [nmR]
@[simp] theorem BW (l : List Nat) : (∀ e ∈ nmR l,∀ c ∈ e,au c=true)=True:=by simp [nmR]
@[simp] theorem Jo (l : List Nat) : List.take l.length (nmR l)=nmR l:=List.take_of_length_le (by simp)
@[simp] theorem N1 (l : List Nat) (x : List D) : (∀ e,e ∈ nmR l \/ e=x -> ∀ c,c ∈ e -> au c=true)=∀ c,c ∈ x -> au c=true:=by
 apply propext
 constructor
 ·exact fun h=>h x (.inr rfl)
 ·rintro h e (he | rfl)
  ·exact (BW l).mpr trivial e he
  ·exact h
@[simp] theorem N3 : nmR []=[]:=rfl
def boR (l : List Bool) : List (List D):=l.map fun b=>[D.bool b]
theorem nx (l : List Bool) : boR l=l.map fun b=>[D.bool b]:=_root_.id rfl
@[simp] theorem Kt (l : List Bool) : (boR l).length=l.length:=by simp [boR]
@[simp] theorem Ks (l : List Bool) (i : Nat) (h : i < (boR l).length) : (boR l)[i]=[D.bool (l[i]'(by simpa using h))]:=by simp [boR]
@[simp] theorem Ku (l : List Bool) (i : Nat) (b : Bool) : (boR l).set i [D.bool b]=boR (l.set i b):=by simp [boR,List.map_set]
theorem se (m : Msh) {i : Nat} (h : i < m.s.length) : (eC m i).set i (!aA (spt m i))=eC m (i + 1):=ul m h
theorem xe (m : Msh) {i : Nat} (h : i < m.s.length) (h' : i < (eC m (i + 1)).length) : (eC m (i + 1))[i]=!aA (spt m i):=by simp [eC,cB]
theorem uk (m : Msh) : List.replicate m.s.length [D.bool false]=boR (eC m 0):=by rw [sf];simp [boR]
def y9 (m : Msh) (i : Nat) : Env:=[(1,.ptr (aZ m)),(4,.adr (.r 10064) 0 0),(10064,.blk 7 [[.own 1 [],.own 1 (nmR (fil (cB m) i)),.own 1 (nmR (fil (bB m) i)),.own 1 [],.own 1 [],.own 1 [],.own 1 []]]),(5,.adr (.r 10080) 0 0),(10080,.blk 1 [[.own 1 (boR (eC m i))]]),(6,.mrf 10464),(10464,.mp 4 1 (iP m i) (j4 m i)),(31,slx m.sn (m.s.map bk)),(32,.int .i64 m.s.length),(33,.int .i64 i)]
theorem gK (m : Msh) (i : Nat) : y9 m i=[(1,.ptr (aZ m)),(4,.adr (.r 10064) 0 0),(10064,.blk 7 [[.own 1 [],.own 1 (nmR (fil (cB m) i)),.own 1 (nmR (fil (bB m) i)),.own 1 [],.own 1 [],.own 1 [],.own 1 []]]),(5,.adr (.r 10080) 0 0),(10080,.blk 1 [[.own 1 (boR (eC m i))]]),(6,.mrf 10464),(10464,.mp 4 1 (iP m i) (j4 m i)),(31,slx m.sn (m.s.map bk)),(32,.int .i64 m.s.length),(33,.int .i64 i)]:=_root_.id rfl
def trR (m : Msh) (l : List Nat) : List (List D):=l.map fun k=>cl (aQ m (fce m k))
theorem eO (m : Msh) (l : List Nat) : trR m l=(l.map fun k=>aQ m (fce m k)).map cl:=by simp [trR]
@[simp] theorem OG (m : Msh) (l : List Nat) : (trR m l).length=l.length:=by simp [trR]
@[simp] theorem Kj (m : Msh) (l : List Nat) : List.take l.length (trR m l)=trR m l:=List.take_of_length_le (by simp)
@[simp] theorem P9 (m : Msh) (l : List Nat) : List.map (fun e=>List.map aR e) (trR m l)=trR m l:=by simp [trR,cl]
@[simp] theorem OH (m : Msh) : trR m []=[]:=rfl
theorem dA {m : Msh} {i : Nat} (h : aq m i=true) : trR m (fil (aq m) i)++[cl (aQ m (fce m i))]=trR m (fil (aq m) (i + 1)):=by rw [cy h];simp [trR]
def sdK (f : Fce) : Nat -> List D
 | 0=>[]
 | j + 1=>.agg [.int .i64 (crn f j),.int .i64 (crn f (j + 1))]::sdK f j
theorem n6 (f : Fce) : ∀ j,(sdK f j).length=j
 | 0=>rfl
 | j + 1=>by simp [sdK,n6 f j]
def bW (m : Msh) : Nat -> List D
 | 0=>[]
 | i + 1=>if aq m i then sdK (fce m i) 3++bW m i else bW m i
def bZ (m : Msh) : Nat -> List D
 | 0=>[]
 | i + 1=>if aq m i then List.replicate 3 (.bool true)++bZ m i else bZ m i
theorem cD (m : Msh) : ∀ i,(bW m i).length <= 3 * i
 | 0=>by simp [bW]
 | i + 1=>by
  have:=cD m i
  rw [bW]
  split <;> simp [n6] <;> omega
def gV (m : Msh) (i j : Nat) : Bool:=(List.range i).any fun k=>aq m k && (List.range 3).any fun j'=>mtc (fce m i) (fce m k) j j'
theorem GI (a b c d : Int) : eqD (.agg [.int .i64 a,.int .i64 b]) (.agg [.int .i64 c,.int .i64 d])=(decide (a=c) && decide (b=d)):=by
 simp [eqD,nI,nH]
theorem qH (m : Msh) (a b : Int) : ∀ i,(dz (bW m i) (bZ m i) (.agg [.int .i64 a,.int .i64 b])).getD (.bool false)=.bool ((List.range i).any fun k=>aq m k && (List.range 3).any fun j=>decide (a=crn (fce m k) j) && decide (b=crn (fce m k) (j + 1)))
 | 0=>rfl
 | i + 1=>by
  rw [bW,bZ,List.range_succ,List.any_append]
  have h3 : List.range 3=[0,1,2]:=rfl
  by_cases h : aq m i=true
  ·rw [if_pos h,if_pos h]
   simp only [sdK,List.replicate,List.cons_append,List.nil_append,dz,GI]
   have ih:=qH m a b i
   by_cases c0 : (decide (a=crn (fce m i) 2) && decide (b=crn (fce m i) (2 + 1)))=true
   ·rw [if_pos c0]
    simp only [List.any_cons,List.any_nil,h,h3,c0]
    simp
   ·rw [if_neg c0]
    by_cases c1 : (decide (a=crn (fce m i) 1) && decide (b=crn (fce m i) (1 + 1)))=true
    ·rw [if_pos c1]
     simp only [List.any_cons,List.any_nil,h,h3,c1]
     simp
    ·rw [if_neg c1]
     by_cases c2 : (decide (a=crn (fce m i) 0) && decide (b=crn (fce m i) (0 + 1)))=true
     ·rw [if_pos c2]
      simp only [List.any_cons,List.any_nil,h,h3,c2]
      simp
     ·rw [if_neg c2,ih]
      rw [Bool.not_eq_true] at c0 c1 c2
      simp only [List.any_cons,List.any_nil,h,h3,c0,c1,c2]
      simp
  ·rw [if_neg h,if_neg h,qH m a b i]
   simp [h]
theorem wj {α : Type} (A p q r : α -> Bool) (l : List α) : (l.any fun k=>A k && (p k || (q k || r k)))=((l.any fun k=>A k && p k) || ((l.any fun k=>A k && q k) || (l.any fun k=>A k && r k))):=by
 induction l with
 | nil=>rfl
 | cons x l ih =>
  simp only [List.any_cons,ih]
  cases A x <;> cases p x <;> cases q x <;> cases r x <;> simp
theorem vw {m : Msh} {i : Nat} (h : aq m i=true) : bG m i=(gV m i 0 || (gV m i 1 || gV m i 2)):=by
 unfold bG j6 gV
 rw [h,Bool.true_and,<- wj]
 have h3 : List.range 3=[0,1,2]:=rfl
 simp only [h3,List.any_cons,List.any_nil,Bool.or_false]
theorem AO {m : Msh} {f : Fce} (h : inS m f=true) (j : Nat) : 0 <= crn f j /\ crn f j < m.s.length:=by
 have:=gm h
 unfold crn
 split <;> omega
def ov (m : Msh) (i k : Nat) : Env:=[(1,.ptr (aZ m)),(4,.adr (.r 10064) 0 0),(10064,.blk 7 [[.own 1 [],.own 1 (nmR (fil (cB m) m.s.length)),.own 1 (nmR (fil (bB m) m.s.length)),.own 1 (nmR (fil (cT m) i)),.own 1 (nmR (fil (bX m) i)),.own 1 (nmR (fil (bG m) (i + 1))),.own 1 (nmR (fil (aM m) i))]]),(5,.adr (.r 10080) 0 0),(10080,.blk 1 [[.own 1 (boR (eC m m.s.length))]]),(10,.mrf 11104),(11104,.mp 3 1 (sdK (fce m i) k++bW m i) (List.replicate k (.bool true)++bZ m i)),(11,.ref (.r 10176) 0 (fil (aq m) i).length),(10176,.blk 6 (trR m (fil (aq m) i))),(12,.int .i64 i),(13,.adr (.r 10208) 0 0),(10208,.blk 4 [aY (fce m i)]),(15,.adr (.r 10240) 0 0),(10240,.blk 6 [cl (aQ m (fce m i))]),(71,slx m.fn (m.f.map aY)),(72,.int .i64 m.f.length),(73,.int .i64 i),(159,.int .i64 k)]
theorem fS (m : Msh) (i k : Nat) : ov m i k=[(1,.ptr (aZ m)),(4,.adr (.r 10064) 0 0),(10064,.blk 7 [[.own 1 [],.own 1 (nmR (fil (cB m) m.s.length)),.own 1 (nmR (fil (bB m) m.s.length)),.own 1 (nmR (fil (cT m) i)),.own 1 (nmR (fil (bX m) i)),.own 1 (nmR (fil (bG m) (i + 1))),.own 1 (nmR (fil (aM m) i))]]),(5,.adr (.r 10080) 0 0),(10080,.blk 1 [[.own 1 (boR (eC m m.s.length))]]),(10,.mrf 11104),(11104,.mp 3 1 (sdK (fce m i) k++bW m i) (List.replicate k (.bool true)++bZ m i)),(11,.ref (.r 10176) 0 (fil (aq m) i).length),(10176,.blk 6 (trR m (fil (aq m) i))),(12,.int .i64 i),(13,.adr (.r 10208) 0 0),(10208,.blk 4 [aY (fce m i)]),(15,.adr (.r 10240) 0 0),(10240,.blk 6 [cl (aQ m (fce m i))]),(71,slx m.fn (m.f.map aY)),(72,.int .i64 m.f.length),(73,.int .i64 i),(159,.int .i64 k)]:=_root_.id rfl
def fnR (l : List (Int × List UInt8)) : List (List D):=l.map fnD
@[simp] theorem Le (l : List (Int × List UInt8)) : (fnR l).length=l.length:=by simp [fnR]
@[simp] theorem fV (l : List (Int × List UInt8)) : List.take l.length (fnR l)=fnR l:=List.take_of_length_le (by simp)
@[simp] theorem Pj (l : List (Int × List UInt8)) : List.map (fun e=>List.map aR e) (fnR l)=fnR l:=by simp [fnR,fnD]
theorem gk (l : List (Int × List UInt8)) (k : Int) (s : List UInt8) : fnR l++[[.int .i64 k,.str s]]=fnR (l++[(k,s)]):=by simp [fnR,fnD]
@[simp] theorem Lf : fnR []=[]:=rfl
def FI (L1 L2 L3 L4 L5 L6 : List Nat) : D:=.agx [.ref (.n 10064 0 0) 0 0,.ref (.n 10064 0 1) 0 L1.length,.ref (.n 10064 0 2) 0 L2.length,.ref (.n 10064 0 3) 0 L3.length,.ref (.n 10064 0 4) 0 L4.length,.ref (.n 10064 0 5) 0 L5.length,.ref (.n 10064 0 6) 0 L6.length]
theorem aI (L1 L2 L3 L4 L5 L6 : List Nat) : FI L1 L2 L3 L4 L5 L6=.agx [.ref (.n 10064 0 0) 0 0,.ref (.n 10064 0 1) 0 L1.length,.ref (.n 10064 0 2) 0 L2.length,.ref (.n 10064 0 3) 0 L3.length,.ref (.n 10064 0 4) 0 L4.length,.ref (.n 10064 0 5) 0 L5.length,.ref (.n 10064 0 6) 0 L6.length]:=_root_.id rfl
def FR (L1 L2 L3 L4 L5 L6 : List Nat) : D:=.blk 7 [[.own 1 [],.own 1 (nmR L1),.own 1 (nmR L2),.own 1 (nmR L3),.own 1 (nmR L4),.own 1 (nmR L5),.own 1 (nmR L6)]]
theorem aW (L1 L2 L3 L4 L5 L6 : List Nat) : FR L1 L2 L3 L4 L5 L6=.blk 7 [[.own 1 [],.own 1 (nmR L1),.own 1 (nmR L2),.own 1 (nmR L3),.own 1 (nmR L4),.own 1 (nmR L5),.own 1 (nmR L6)]]:=_root_.id rfl
theorem cp (dec : Nat -> List UInt8) : ∀ (a b : List (List Nat)) (k : Nat),co dec k (a++b)=co dec k a++co dec (k + a.length) b
 | [],b,k=>by simp [co]
 | x::a,b,k=>by
  have:=cp dec a b (k + 1)
  simp only [List.cons_append,co,this,List.append_assoc,List.length_cons]
  rw [show k + 1 + a.length=k + (a.length + 1) by omega]
def tkD (dec : Nat -> List UInt8) (k : Int) (L : List Nat) (j : Nat) : List (Int × List UInt8):=(L.take j).map fun i=>(k,dec i)
theorem ft (dec : Nat -> List UInt8) (k : Int) (L : List Nat) : tkD dec k L 0=[]:=by simp [tkD]
theorem f9 (dec : Nat -> List UInt8) (k : Int) (L : List Nat) {j : Nat} (h : j < L.length) : tkD dec k L (j + 1)=tkD dec k L j++[(k,dec L[j])]:=by
 unfold tkD
 rw [List.take_add_one,List.getElem?_eq_getElem h,List.map_append]
 rfl
theorem iI (dec : Nat -> List UInt8) (k : Int) (L : List Nat) {j : Nat} (h : j <= L.length) : (tkD dec k L j).length=j:=by simp [tkD];omega
theorem iH (dec : Nat -> List UInt8) (k : Int) (L : List Nat) : tkD dec k L L.length=L.map fun i=>(k,dec i):=by simp [tkD]
def za (m : Msh) (i : Nat) : Env:=[(1,.ptr (aZ m)),(4,.adr (.r 10064) 0 0),(10064,.blk 7 [[.own 1 [],.own 1 (nmR (fil (cB m) m.s.length)),.own 1 (nmR (fil (bB m) m.s.length)),.own 1 (nmR (fil (cT m) i)),.own 1 (nmR (fil (bX m) i)),.own 1 (nmR (fil (bG m) i)),.own 1 (nmR (fil (aM m) i))]]),(5,.adr (.r 10080) 0 0),(10080,.blk 1 [[.own 1 (boR (eC m m.s.length))]]),(10,.mrf 11104),(11104,.mp 3 1 (bW m i) (bZ m i)),(11,.ref (.r 10176) 0 (fil (aq m) i).length),(10176,.blk 6 (trR m (fil (aq m) i))),(71,slx m.fn (m.f.map aY)),(72,.int .i64 m.f.length),(73,.int .i64 i)]
theorem cU (m : Msh) (i : Nat) : za m i=[(1,.ptr (aZ m)),(4,.adr (.r 10064) 0 0),(10064,.blk 7 [[.own 1 [],.own 1 (nmR (fil (cB m) m.s.length)),.own 1 (nmR (fil (bB m) m.s.length)),.own 1 (nmR (fil (cT m) i)),.own 1 (nmR (fil (bX m) i)),.own 1 (nmR (fil (bG m) i)),.own 1 (nmR (fil (aM m) i))]]),(5,.adr (.r 10080) 0 0),(10080,.blk 1 [[.own 1 (boR (eC m m.s.length))]]),(10,.mrf 11104),(11104,.mp 3 1 (bW m i) (bZ m i)),(11,.ref (.r 10176) 0 (fil (aq m) i).length),(10176,.blk 6 (trR m (fil (aq m) i))),(71,slx m.fn (m.f.map aY)),(72,.int .i64 m.f.length),(73,.int .i64 i)]:=_root_.id rfl
variable {C : CC} (hC : aw prog C)
include hC
set_option maxHeartbeats 4000000 in
theorem we (dec : Nat -> List UInt8) (hI : ∀ n : Nat,n < 100 -> C 127 [.int .i64 n] (.str (dec n)) []) (m : Msh) (hs : m.s.length <= 100) (hf : m.f.length <= 100) : C 273 [.agg (aZ m)] (.tup [.sl ((co dec 0 (LL m)).map fnD),.int .i64 0]) []:=by
 have ksm:=o6 hC m
 rw [decide_eq_true (show m.s.length <= 2000 by omega),decide_eq_true (show m.f.length <= 4000 by omega)] at ksm
 have kr:=fun s=>o5 hC s
 have kp:=fun i h=>jr hC m i h
 refine start hC (nf:=N273) rfl rfl ?_
 simp only [ab] at ksm
 simp [N273,ab]
 refine aa ksm (.inl rfl) ?_
 simp
 refine ⟨by omega,?_⟩
 refine av Nat (fun i=>y9 m i) (fun i=>i <= m.s.length) (fun i=>m.s.length - i) 0 (by simp) (by simp [gK,ab,jm,iP,j4,uk]) ?_
 rintro i hi
 simp [gK,ab]
 refine al (fun g1=>?_) (fun g1=>?_) <;> simp at g1 <;> simp [g1]
 ·have hw : IntKind.wrap .i64 ((i : Int) + 1)=((i + 1 : Nat) : Int):=ae (by omega) (by omega)
  have kri:=kr (spt m i)
  simp only [bq] at kri
  simp [bq]
  refine aa kri (.inl rfl) ?_
  simp [jl,g1]
  refine ⟨ai (by decide +kernel),?_⟩
  rw [se m g1]
  rw [nx]
  simp [jl,g1,xe]
  have kpi:=kp i g1
  simp only [ab] at kpi
  have hr:=i7 (s:=spt m i)
  cases hr1 : aA (spt m i)
  ·have e1:=iy (p:=cB m) (n:=i) (by simp [cB,hr1])
   have e2:=eI (p:=bB m) (n:=i) (by simp [bB,hr1])
   have e3 : iP m (i + 1)=iP m i:=by simp [iP,hr1]
   have e4 : j4 m (i + 1)=j4 m i:=by simp [j4,hr1]
   simp [hw]
   refine ⟨by have:=aG (cB m) i;omega,i + 1,by omega,by omega,?_⟩
   simp [gK,ab,e1,<- e2,e3,e4,<- nx]
  ·have hp:=cI (hr hr1)
   have e2:=eI (p:=cB m) (n:=i) (by simp [cB,hr1])
   have e3 : iP m (i + 1)=.agg (ptD (fw m i))::iP m i:=by simp [iP,hr1]
   have e4 : j4 m (i + 1)=.bool true::j4 m i:=by simp [j4,hr1]
   have kg:=qv m (fw m i) i
   have kl:=pd m i
   have hml : maxLen=9223372036854775807:=rfl
   simp [ab]
   refine aa kpi (.inl rfl) ?_
   simp [ptD,ptS,fw] at kg hp
   simp [ptD,ptS,kg]
   refine ⟨⟨by omega,by omega⟩,?_⟩
   have hsame : ((List.range i).any fun k=>aA (spt m k) && (decide ((spt m k).x=(spt m i).x) && decide ((spt m k).y=(spt m i).y)))=bB m i:=by
    simp [bB,hr1,fw,ptS]
   rw [hsame]
   cases hs1 : bB m i
   ·have e1:=eI (p:=bB m) (n:=i) hs1
    simp [hw]
    refine ⟨by omega,⟨by omega,by omega⟩,i + 1,by omega,by omega,?_⟩
    simp [gK,ab,<- e1,<- e2,e3,e4,<- nx,ptD,fw,ptS]
   ·have e1:=iy (p:=bB m) (n:=i) hs1
    simp [hw]
    refine ⟨by have:=aG (bB m) i;omega,by omega,⟨by omega,by omega⟩,i + 1,by omega,by omega,?_⟩
    simp [gK,ab,e1,<- e2,e3,e4,<- nx,ptD,fw,ptS]
 ·have hi2 : i=m.s.length:=by omega
  subst hi2
  refine av Nat (fun i=>za m i) (fun i=>i <= m.f.length) (fun i=>m.f.length - i) 0 (by simp) (by simp [cU,ab,jm,bW,bZ]) ?_
  clear hi g1 kr kp ksm
  rintro i hi
  simp [cU,ab]
  refine al (fun g1=>?_) (fun g1=>?_) <;> simp at g1 <;> simp [g1]
  ·have hw : IntKind.wrap .i64 ((i : Int) + 1)=((i + 1 : Nat) : Int):=ae (by omega) (by omega)
   have kc:=lK hC (fce m i)
   have k1:=lA hC (b:=false) (xs:=[(fce m i).a,(fce m i).b,(fce m i).c]) (g:=306) (cs:=[.ptr (aZ m),.ptr [.sl (boR (eC m m.s.length))]]) (fun k=>!(fO m.s.length k && aA (spt m k.toNat))) (by simp) (fun x _=>AL hC m x (by omega))
   simp only [ab,aX] at kc k1
   simp at k1
   simp [aX]
   refine aa kc (.inl rfl) ?_
   simp [cc]
   obtain ⟨v,hv⟩ : ∃ v,v=(!fO m.s.length (fce m i).a || !aA (spt m (fce m i).a.toNat) || (!fO m.s.length (fce m i).b || !aA (spt m (fce m i).b.toNat) || (!fO m.s.length (fce m i).c || !aA (spt m (fce m i).c.toNat)))):=⟨_,rfl⟩
   rw [<- hv] at k1
   refine aa k1 (.inl rfl) ?_
   have E : cT m i=!(okF m (fce m i)):=rfl
   have E2 : okF m (fce m i)=(okc m (fce m i).a (fce m i).b && okc m (fce m i).b (fce m i).c && okc m (fce m i).c (fce m i).a && decide (0 <= (fce m i).k) && decide ((fce m i).k < 16)):=rfl
   have E3 : ∀ a b : Int,okc m a b=(fO m.s.length a && decide (a ≠ b) && aA (spt m a.toNat)):=fun a b=>rfl
   have bad : cT m i=true -> nmR (fil (cT m) i)++[[D.int .i64 i]]=nmR (fil (cT m) (i + 1)) /\ nmR (fil (bX m) i)=nmR (fil (bX m) (i + 1)) /\ nmR (fil (bG m) i)=nmR (fil (bG m) (i + 1)) /\ nmR (fil (aM m) i)=nmR (fil (aM m) (i + 1)) /\ fil (aq m) (i + 1)=fil (aq m) i /\ bW m (i + 1)=bW m i /\ bZ m (i + 1)=bZ m i:=fun h=>by
    have h0 : okF m (fce m i)=false:=by rw [E] at h;simpa using h
    have h1 : aq m i=false:=by simp [aq,h0]
    exact ⟨iy h,eI (by simp [bX,h0]),eI (by simp [bG,h1]),eI (by simp [aM,h1]),jQ h1,by simp [bW,h1],by simp [bZ,h1]⟩
   cases v
   rotate_left
   ·obtain ⟨e1,e2,e3,e4,e5,e6,e7⟩:=bad (by
     rw [E,E2,E3,E3,E3]
     revert hv
     cases fO m.s.length (fce m i).a <;> cases aA (spt m (fce m i).a.toNat) <;> cases fO m.s.length (fce m i).b <;> cases aA (spt m (fce m i).b.toNat) <;> cases fO m.s.length (fce m i).c <;> cases aA (spt m (fce m i).c.toNat) <;> simp)
    simp [hw]
    refine ⟨by have:=aG (cT m) i;omega,i + 1,by omega,by omega,?_⟩
    simp [cU,ab,e1,<- e2,<- e3,<- e4,e5,e6,e7]
   by_cases c1 : (fce m i).a=(fce m i).b
   ·obtain ⟨e1,e2,e3,e4,e5,e6,e7⟩:=bad (by
     rw [E,E2,E3,E3,E3]
     rw [decide_eq_false (show ¬ (fce m i).a ≠ (fce m i).b by omega)];simp)
    simp [c1,hw]
    refine ⟨by have:=aG (cT m) i;omega,i + 1,by omega,by omega,?_⟩
    simp [cU,ab,e1,<- e2,<- e3,<- e4,e5,e6,e7]
   by_cases c2 : (fce m i).b=(fce m i).c
   ·obtain ⟨e1,e2,e3,e4,e5,e6,e7⟩:=bad (by
     rw [E,E2,E3,E3,E3]
     rw [decide_eq_false (show ¬ (fce m i).b ≠ (fce m i).c by omega)];simp)
    simp [(show ¬ (fce m i).a=(fce m i).c by rw [<- c2];exact c1),c2,hw]
    refine ⟨by have:=aG (cT m) i;omega,i + 1,by omega,by omega,?_⟩
    simp [cU,ab,e1,<- e2,<- e3,<- e4,e5,e6,e7]
   by_cases c3 : (fce m i).c=(fce m i).a
   ·obtain ⟨e1,e2,e3,e4,e5,e6,e7⟩:=bad (by
     rw [E,E2,E3,E3,E3]
     rw [decide_eq_false (show ¬ (fce m i).c ≠ (fce m i).a by omega)];simp)
    simp [c1,c2,hw]
    refine al (fun _=>?_) (fun h=>by simp [c3] at h)
    simp [hw]
    refine ⟨by have:=aG (cT m) i;omega,i + 1,by omega,by omega,?_⟩
    simp [cU,ab,e1,<- e2,<- e3,<- e4,e5,e6,e7]
   have c3' : ¬ (fce m i).a=(fce m i).c:=fun h=>c3 h.symm
   by_cases c4 : (fce m i).k < 0
   ·obtain ⟨e1,e2,e3,e4,e5,e6,e7⟩:=bad (by
     rw [E,E2,E3,E3,E3]
     rw [decide_eq_false (show ¬ 0 <= (fce m i).k by omega)];simp)
    simp [c1,c2,c3,c3',c4,hw]
    refine ⟨by have:=aG (cT m) i;omega,i + 1,by omega,by omega,?_⟩
    simp [cU,ab,e1,<- e2,<- e3,<- e4,e5,e6,e7]
   by_cases c5 : 16 <= (fce m i).k
   ·obtain ⟨e1,e2,e3,e4,e5,e6,e7⟩:=bad (by
     rw [E,E2,E3,E3,E3]
     rw [decide_eq_false (show ¬ (fce m i).k < 16 by omega)];simp)
    simp [c1,c2,c3,c3',c4,c5,hw]
    refine ⟨by have:=aG (cT m) i;omega,i + 1,by omega,by omega,?_⟩
    simp [cU,ab,e1,<- e2,<- e3,<- e4,e5,e6,e7]
   have ok : okF m (fce m i)=true:=by
    rw [E2,E3,E3,E3]
    simp only [Bool.and_eq_true,decide_eq_true_eq]
    have h:=hv.symm
    simp only [Bool.or_eq_false_iff,Bool.not_eq_false'] at h
    exact ⟨⟨⟨⟨⟨⟨h.1.1,c1⟩,h.1.2⟩,⟨h.2.1.1,c2⟩,h.2.1.2⟩,⟨h.2.2.1,c3⟩,h.2.2.2⟩,by omega⟩,by omega⟩
   have nbad : cT m i=false:=by rw [E,ok];rfl
   have b1:=eI nbad
   have hT:=cH ok
   have kt:=BU hC m (fce m i) (iz ok)
   have kn : C 308 [.agg (ptD (aQ m (fce m i)).1),.agg (ptD (aQ m (fce m i)).2.1),.agg (ptD (aQ m (fce m i)).2.2)] (.int .i64 (nr (aQ m (fce m i)))) []:=by
    have h:=hT
    simp only [okT,Bool.and_eq_true] at h
    exact rq hC h.1.1 h.1.2 h.2
   have ks:=fun k h=>xF hC (fce m i) k h
   have ks0:=ks 0 (by omega)
   have ks1:=ks 1 (by omega)
   have ks2:=ks 2 (by omega)
   have kg:=fun j=>qH m (crn (fce m i) j) (crn (fce m i) (j + 1)) i
   have kg : ∀ j,(dz (bW m i) (bZ m i) (.agg [.int .i64 (crn (fce m i) j),.int .i64 (crn (fce m i) (j + 1))])).getD (.bool false)=.bool (gV m i j):=kg
   have kg0:=kg 0
   have kg1:=kg 1
   have kg2:=kg 2
   simp [c1,c2,c3,c3',c4,c5]
   simp only [ab,aX] at kt
   refine aa kt (.inl rfl) ?_
   simp [cl]
   simp only [ptD] at kn
   refine aa kn (.inl rfl) ?_
   simp
   refine al (fun d1=>?_) (fun d1=>?_) <;> simp at d1
   ·have hfl : bX m i=true:=by simp [bX,ok,d1]
    have hsn : aq m i=false:=by simp [aq,ok];omega
    have e1:=iy hfl
    have e2:=eI (p:=bG m) (n:=i) (by simp [bG,hsn])
    have e3:=eI (p:=aM m) (n:=i) (by simp [aM,hsn])
    have e5:=jQ hsn
    have e6 : bW m (i + 1)=bW m i:=by simp [bW,hsn]
    have e7 : bZ m (i + 1)=bZ m i:=by simp [bZ,hsn]
    simp [d1,hw]
    refine ⟨by have:=aG (bX m) i;omega,i + 1,by omega,by omega,?_⟩
    simp [cU,ab,e1,<- e2,<- e3,<- b1,e5,e6,e7]
   ·have hfl : bX m i=false:=by simp [bX,ok];omega
    have hsn : aq m i=true:=by simp [aq,ok,d1]
    have b2:=eI hfl
    have hsd:=vw hsn
    simp only [aX] at ks ks0 ks1 ks2
    simp at ks0 ks1 ks2 kg0 kg1 kg2
    simp [Int.not_le.2 d1]
    refine aa ks0 (.inl rfl) ?_
    simp [kg0]
    have cb:=fun j=>AO (iz ok) j
    have cb0:=cb 0
    have cb1:=cb 1
    have cb2:=cb 2
    have cb3:=cb 3
    refine ⟨⟨by omega,by omega⟩,?_⟩
    have yes : bG m i=true -> nmR (fil (bG m) i)++[[D.int .i64 i]]=nmR (fil (bG m) (i + 1)):=iy
    have nos : bG m i=false -> nmR (fil (bG m) i)=nmR (fil (bG m) (i + 1)):=eI
    have lsd:=aG (bG m) i
    have kT:=cM hC (b:=false) (xs:=(fil (aq m) i).map fun k=>aQ m (fce m k)) (g:=310) (cs:=[.ptr (cl (aQ m (fce m i)))]) (fun o=>ovT (aQ m (fce m i)) o) (by have:=aG (aq m) i;simp;omega) (fun x hx=>by
     obtain ⟨k,hk,rfl⟩:=List.mem_map.1 hx
     have hk:=(dP hk).2
     simp only [aq,Bool.and_eq_true] at hk
     exact ew hC hT (cH hk.1))
    rw [<- eO,List.any_map] at kT
    have hov : (fil (aq m) i).any ((fun o=>ovT (aQ m (fce m i)) o) ∘ fun k=>aQ m (fce m k))=aM m i:=by
     rw [fil,List.any_filter,aM,hsn]
     rfl
    rw [hov] at kT
    rw [cv] at kT
    have tl:=cD m i
    have hml : maxLen=9223372036854775807:=rfl
    have e5:=dA hsn
    have e6 : bW m (i + 1)=sdK (fce m i) 3++bW m i:=by simp [bW,hsn]
    have e7 : bZ m (i + 1)=.bool true::.bool true::.bool true::bZ m i:=by
     rw [bZ,if_pos hsn];rfl
    have e8 : (fil (aq m) (i + 1)).length=(fil (aq m) i).length + 1:=by rw [cy hsn];simp
    have l8:=aG (aq m) i
    have lov:=aG (aM m) i
    have kT:=cM hC (b:=false) (xs:=(fil (aq m) i).map fun k=>aQ m (fce m k)) (g:=310) (cs:=[.ptr (cl (aQ m (fce m i)))]) (fun o=>ovT (aQ m (fce m i)) o) (by have:=aG (aq m) i;simp;omega) (fun x hx=>by
     obtain ⟨k,hk,rfl⟩:=List.mem_map.1 hx
     have hk:=(dP hk).2
     simp only [aq,Bool.and_eq_true] at hk
     exact ew hC hT (cH hk.1))
    rw [<- eO,List.any_map] at kT
    have hov : (fil (aq m) i).any ((fun o=>ovT (aQ m (fce m i)) o) ∘ fun k=>aQ m (fce m k))=aM m i:=by
     rw [fil,List.any_filter,aM,hsn]
     rfl
    rw [hov] at kT
    rw [cv] at kT
    have tl:=cD m i
    have hml : maxLen=9223372036854775807:=rfl
    have e5:=dA hsn
    have e6 : bW m (i + 1)=sdK (fce m i) 3++bW m i:=by simp [bW,hsn]
    have e7 : bZ m (i + 1)=.bool true::.bool true::.bool true::bZ m i:=by
     rw [bZ,if_pos hsn];rfl
    have e8 : (fil (aq m) (i + 1)).length=(fil (aq m) i).length + 1:=by rw [cy hsn];simp
    have l8:=aG (aq m) i
    have lov:=aG (aM m) i
    have kT:=cM hC (b:=false) (xs:=(fil (aq m) i).map fun k=>aQ m (fce m k)) (g:=310) (cs:=[.ptr (cl (aQ m (fce m i)))]) (fun o=>ovT (aQ m (fce m i)) o) (by have:=aG (aq m) i;simp;omega) (fun x hx=>by
     obtain ⟨k,hk,rfl⟩:=List.mem_map.1 hx
     have hk:=(dP hk).2
     simp only [aq,Bool.and_eq_true] at hk
     exact ew hC hT (cH hk.1))
    rw [<- eO,List.any_map] at kT
    have hov : (fil (aq m) i).any ((fun o=>ovT (aQ m (fce m i)) o) ∘ fun k=>aQ m (fce m k))=aM m i:=by
     rw [fil,List.any_filter,aM,hsn]
     rfl
    rw [hov] at kT
    rw [cv] at kT
    have tl:=cD m i
    have hml : maxLen=9223372036854775807:=rfl
    have e5:=dA hsn
    have e6 : bW m (i + 1)=sdK (fce m i) 3++bW m i:=by simp [bW,hsn]
    have e7 : bZ m (i + 1)=.bool true::.bool true::.bool true::bZ m i:=by
     rw [bZ,if_pos hsn];rfl
    have e8 : (fil (aq m) (i + 1)).length=(fil (aq m) i).length + 1:=by rw [cy hsn];simp
    have l8:=aG (aq m) i
    have lov:=aG (aM m) i
    have kT:=cM hC (b:=false) (xs:=(fil (aq m) i).map fun k=>aQ m (fce m k)) (g:=310) (cs:=[.ptr (cl (aQ m (fce m i)))]) (fun o=>ovT (aQ m (fce m i)) o) (by have:=aG (aq m) i;simp;omega) (fun x hx=>by
     obtain ⟨k,hk,rfl⟩:=List.mem_map.1 hx
     have hk:=(dP hk).2
     simp only [aq,Bool.and_eq_true] at hk
     exact ew hC hT (cH hk.1))
    rw [<- eO,List.any_map] at kT
    have hov : (fil (aq m) i).any ((fun o=>ovT (aQ m (fce m i)) o) ∘ fun k=>aQ m (fce m k))=aM m i:=by
     rw [fil,List.any_filter,aM,hsn]
     rfl
    rw [hov] at kT
    rw [cv] at kT
    have tl:=cD m i
    have hml : maxLen=9223372036854775807:=rfl
    have e5:=dA hsn
    have e6 : bW m (i + 1)=sdK (fce m i) 3++bW m i:=by simp [bW,hsn]
    have e7 : bZ m (i + 1)=.bool true::.bool true::.bool true::bZ m i:=by
     rw [bZ,if_pos hsn];rfl
    have e8 : (fil (aq m) (i + 1)).length=(fil (aq m) i).length + 1:=by rw [cy hsn];simp
    have l8:=aG (aq m) i
    have lov:=aG (aM m) i
    have kT:=cM hC (b:=false) (xs:=(fil (aq m) i).map fun k=>aQ m (fce m k)) (g:=310) (cs:=[.ptr (cl (aQ m (fce m i)))]) (fun o=>ovT (aQ m (fce m i)) o) (by have:=aG (aq m) i;simp;omega) (fun x hx=>by
     obtain ⟨k,hk,rfl⟩:=List.mem_map.1 hx
     have hk:=(dP hk).2
     simp only [aq,Bool.and_eq_true] at hk
     exact ew hC hT (cH hk.1))
    rw [<- eO,List.any_map] at kT
    have hov : (fil (aq m) i).any ((fun o=>ovT (aQ m (fce m i)) o) ∘ fun k=>aQ m (fce m k))=aM m i:=by
     rw [fil,List.any_filter,aM,hsn]
     rfl
    rw [hov] at kT
    rw [cv] at kT
    have tl:=cD m i
    have hml : maxLen=9223372036854775807:=rfl
    have e5:=dA hsn
    have e6 : bW m (i + 1)=sdK (fce m i) 3++bW m i:=by simp [bW,hsn]
    have e7 : bZ m (i + 1)=.bool true::.bool true::.bool true::bZ m i:=by
     rw [bZ,if_pos hsn];rfl
    have e8 : (fil (aq m) (i + 1)).length=(fil (aq m) i).length + 1:=by rw [cy hsn];simp
    have l8:=aG (aq m) i
    have lov:=aG (aM m) i
    have kT:=cM hC (b:=false) (xs:=(fil (aq m) i).map fun k=>aQ m (fce m k)) (g:=310) (cs:=[.ptr (cl (aQ m (fce m i)))]) (fun o=>ovT (aQ m (fce m i)) o) (by have:=aG (aq m) i;simp;omega) (fun x hx=>by
     obtain ⟨k,hk,rfl⟩:=List.mem_map.1 hx
     have hk:=(dP hk).2
     simp only [aq,Bool.and_eq_true] at hk
     exact ew hC hT (cH hk.1))
    rw [<- eO,List.any_map] at kT
    have hov : (fil (aq m) i).any ((fun o=>ovT (aQ m (fce m i)) o) ∘ fun k=>aQ m (fce m k))=aM m i:=by
     rw [fil,List.any_filter,aM,hsn]
     rfl
    rw [hov] at kT
    rw [cv] at kT
    have tl:=cD m i
    have hml : maxLen=9223372036854775807:=rfl
    have e5:=dA hsn
    have e6 : bW m (i + 1)=sdK (fce m i) 3++bW m i:=by simp [bW,hsn]
    have e7 : bZ m (i + 1)=.bool true::.bool true::.bool true::bZ m i:=by
     rw [bZ,if_pos hsn];rfl
    have e8 : (fil (aq m) (i + 1)).length=(fil (aq m) i).length + 1:=by rw [cy hsn];simp
    have l8:=aG (aq m) i
    have lov:=aG (aM m) i
    have kT:=cM hC (b:=false) (xs:=(fil (aq m) i).map fun k=>aQ m (fce m k)) (g:=310) (cs:=[.ptr (cl (aQ m (fce m i)))]) (fun o=>ovT (aQ m (fce m i)) o) (by have:=aG (aq m) i;simp;omega) (fun x hx=>by
     obtain ⟨k,hk,rfl⟩:=List.mem_map.1 hx
     have hk:=(dP hk).2
     simp only [aq,Bool.and_eq_true] at hk
     exact ew hC hT (cH hk.1))
    rw [<- eO,List.any_map] at kT
    have hov : (fil (aq m) i).any ((fun o=>ovT (aQ m (fce m i)) o) ∘ fun k=>aQ m (fce m k))=aM m i:=by
     rw [fil,List.any_filter,aM,hsn]
     rfl
    rw [hov] at kT
    rw [cv] at kT
    have tl:=cD m i
    have hml : maxLen=9223372036854775807:=rfl
    have e5:=dA hsn
    have e6 : bW m (i + 1)=sdK (fce m i) 3++bW m i:=by simp [bW,hsn]
    have e7 : bZ m (i + 1)=.bool true::.bool true::.bool true::bZ m i:=by
     rw [bZ,if_pos hsn];rfl
    have e8 : (fil (aq m) (i + 1)).length=(fil (aq m) i).length + 1:=by rw [cy hsn];simp
    have l8:=aG (aq m) i
    have lov:=aG (aM m) i
    have kT:=cM hC (b:=false) (xs:=(fil (aq m) i).map fun k=>aQ m (fce m k)) (g:=310) (cs:=[.ptr (cl (aQ m (fce m i)))]) (fun o=>ovT (aQ m (fce m i)) o) (by have:=aG (aq m) i;simp;omega) (fun x hx=>by
     obtain ⟨k,hk,rfl⟩:=List.mem_map.1 hx
     have hk:=(dP hk).2
     simp only [aq,Bool.and_eq_true] at hk
     exact ew hC hT (cH hk.1))
    rw [<- eO,List.any_map] at kT
    have hov : (fil (aq m) i).any ((fun o=>ovT (aQ m (fce m i)) o) ∘ fun k=>aQ m (fce m k))=aM m i:=by
     rw [fil,List.any_filter,aM,hsn]
     rfl
    rw [hov] at kT
    rw [cv] at kT
    have tl:=cD m i
    have hml : maxLen=9223372036854775807:=rfl
    have e5:=dA hsn
    have e6 : bW m (i + 1)=sdK (fce m i) 3++bW m i:=by simp [bW,hsn]
    have e7 : bZ m (i + 1)=.bool true::.bool true::.bool true::bZ m i:=by
     rw [bZ,if_pos hsn];rfl
    have e8 : (fil (aq m) (i + 1)).length=(fil (aq m) i).length + 1:=by rw [cy hsn];simp
    have l8:=aG (aq m) i
    have lov:=aG (aM m) i
    have kT:=cM hC (b:=false) (xs:=(fil (aq m) i).map fun k=>aQ m (fce m k)) (g:=310) (cs:=[.ptr (cl (aQ m (fce m i)))]) (fun o=>ovT (aQ m (fce m i)) o) (by have:=aG (aq m) i;simp;omega) (fun x hx=>by
     obtain ⟨k,hk,rfl⟩:=List.mem_map.1 hx
     have hk:=(dP hk).2
     simp only [aq,Bool.and_eq_true] at hk
     exact ew hC hT (cH hk.1))
    rw [<- eO,List.any_map] at kT
    have hov : (fil (aq m) i).any ((fun o=>ovT (aQ m (fce m i)) o) ∘ fun k=>aQ m (fce m k))=aM m i:=by
     rw [fil,List.any_filter,aM,hsn]
     rfl
    rw [hov] at kT
    rw [cv] at kT
    have tl:=cD m i
    have hml : maxLen=9223372036854775807:=rfl
    have e5:=dA hsn
    have e6 : bW m (i + 1)=sdK (fce m i) 3++bW m i:=by simp [bW,hsn]
    have e7 : bZ m (i + 1)=.bool true::.bool true::.bool true::bZ m i:=by
     rw [bZ,if_pos hsn];rfl
    have e8 : (fil (aq m) (i + 1)).length=(fil (aq m) i).length + 1:=by rw [cy hsn];simp
    have l8:=aG (aq m) i
    have lov:=aG (aM m) i
    have kT:=cM hC (b:=false) (xs:=(fil (aq m) i).map fun k=>aQ m (fce m k)) (g:=310) (cs:=[.ptr (cl (aQ m (fce m i)))]) (fun o=>ovT (aQ m (fce m i)) o) (by have:=aG (aq m) i;simp;omega) (fun x hx=>by
     obtain ⟨k,hk,rfl⟩:=List.mem_map.1 hx
     have hk:=(dP hk).2
     simp only [aq,Bool.and_eq_true] at hk
     exact ew hC hT (cH hk.1))
    rw [<- eO,List.any_map] at kT
    have hov : (fil (aq m) i).any ((fun o=>ovT (aQ m (fce m i)) o) ∘ fun k=>aQ m (fce m k))=aM m i:=by
     rw [fil,List.any_filter,aM,hsn]
     rfl
    rw [hov] at kT
    rw [cv] at kT
    have tl:=cD m i
    have hml : maxLen=9223372036854775807:=rfl
    have e5:=dA hsn
    have e6 : bW m (i + 1)=sdK (fce m i) 3++bW m i:=by simp [bW,hsn]
    have e7 : bZ m (i + 1)=.bool true::.bool true::.bool true::bZ m i:=by
     rw [bZ,if_pos hsn];rfl
    have e8 : (fil (aq m) (i + 1)).length=(fil (aq m) i).length + 1:=by rw [cy hsn];simp
    have l8:=aG (aq m) i
    have lov:=aG (aM m) i
    have kT:=cM hC (b:=false) (xs:=(fil (aq m) i).map fun k=>aQ m (fce m k)) (g:=310) (cs:=[.ptr (cl (aQ m (fce m i)))]) (fun o=>ovT (aQ m (fce m i)) o) (by have:=aG (aq m) i;simp;omega) (fun x hx=>by
     obtain ⟨k,hk,rfl⟩:=List.mem_map.1 hx
     have hk:=(dP hk).2
     simp only [aq,Bool.and_eq_true] at hk
     exact ew hC hT (cH hk.1))
    rw [<- eO,List.any_map] at kT
    have hov : (fil (aq m) i).any ((fun o=>ovT (aQ m (fce m i)) o) ∘ fun k=>aQ m (fce m k))=aM m i:=by
     rw [fil,List.any_filter,aM,hsn]
     rfl
    rw [hov] at kT
    rw [cv] at kT
    have tl:=cD m i
    have hml : maxLen=9223372036854775807:=rfl
    have e5:=dA hsn
    have e6 : bW m (i + 1)=sdK (fce m i) 3++bW m i:=by simp [bW,hsn]
    have e7 : bZ m (i + 1)=.bool true::.bool true::.bool true::bZ m i:=by
     rw [bZ,if_pos hsn];rfl
    have e8 : (fil (aq m) (i + 1)).length=(fil (aq m) i).length + 1:=by rw [cy hsn];simp
    have l8:=aG (aq m) i
    have lov:=aG (aM m) i
    have kT:=cM hC (b:=false) (xs:=(fil (aq m) i).map fun k=>aQ m (fce m k)) (g:=310) (cs:=[.ptr (cl (aQ m (fce m i)))]) (fun o=>ovT (aQ m (fce m i)) o) (by have:=aG (aq m) i;simp;omega) (fun x hx=>by
     obtain ⟨k,hk,rfl⟩:=List.mem_map.1 hx
     have hk:=(dP hk).2
     simp only [aq,Bool.and_eq_true] at hk
     exact ew hC hT (cH hk.1))
    rw [<- eO,List.any_map] at kT
    have hov : (fil (aq m) i).any ((fun o=>ovT (aQ m (fce m i)) o) ∘ fun k=>aQ m (fce m k))=aM m i:=by
     rw [fil,List.any_filter,aM,hsn]
     rfl
    rw [hov] at kT
    rw [cv] at kT
    have tl:=cD m i
    have hml : maxLen=9223372036854775807:=rfl
    have e5:=dA hsn
    have e6 : bW m (i + 1)=sdK (fce m i) 3++bW m i:=by simp [bW,hsn]
    have e7 : bZ m (i + 1)=.bool true::.bool true::.bool true::bZ m i:=by
     rw [bZ,if_pos hsn];rfl
    have e8 : (fil (aq m) (i + 1)).length=(fil (aq m) i).length + 1:=by rw [cy hsn];simp
    have l8:=aG (aq m) i
    have lov:=aG (aM m) i
    rcases (by cases gV m i 0 <;> cases gV m i 1 <;> cases gV m i 2 <;> simp : gV m i 0=true \/ (gV m i 0=false /\ gV m i 1=true) \/ (gV m i 0=false /\ gV m i 1=false /\ gV m i 2=true) \/ (gV m i 0=false /\ gV m i 1=false /\ gV m i 2=false)) with h0 | ⟨h0,h1⟩ | ⟨h0,h1,h2⟩ | ⟨h0,h1,h2⟩
    have y:=yes (by rw [hsd,h0];rfl)
    simp [h0]
    refine ⟨by omega,?_⟩
    rw [y]
    refine av Nat (fun k=>ov m i k) (fun k=>k <= 3) (fun k=>3 - k) 0 (by simp) (by simp [fS,ab,aX,cl,sdK]) ?_
    rotate_left
    have y:=yes (by rw [hsd,h0,h1];rfl)
    simp [h0]
    refine aa ks1 (.inl rfl) ?_
    simp [kg1,h1]
    refine ⟨⟨by omega,by omega⟩,by omega,?_⟩
    rw [y]
    refine av Nat (fun k=>ov m i k) (fun k=>k <= 3) (fun k=>3 - k) 0 (by simp) (by simp [fS,ab,aX,cl,sdK]) ?_
    rotate_left
    have y:=yes (by rw [hsd,h0,h1,h2];rfl)
    simp [h0]
    refine aa ks1 (.inl rfl) ?_
    simp [kg1,h1]
    refine ⟨⟨by omega,by omega⟩,?_⟩
    refine aa ks2 (.inl rfl) ?_
    simp [kg2,h2]
    refine ⟨⟨by omega,by omega⟩,by omega,?_⟩
    rw [y]
    refine av Nat (fun k=>ov m i k) (fun k=>k <= 3) (fun k=>3 - k) 0 (by simp) (by simp [fS,ab,aX,cl,sdK]) ?_
    rotate_left
    have y:=nos (by rw [hsd,h0,h1,h2];rfl)
    simp [h0]
    refine aa ks1 (.inl rfl) ?_
    simp [kg1,h1]
    refine ⟨⟨by omega,by omega⟩,?_⟩
    refine aa ks2 (.inl rfl) ?_
    simp [kg2,h2]
    refine ⟨⟨by omega,by omega⟩,?_⟩
    rw [y]
    refine av Nat (fun k=>ov m i k) (fun k=>k <= 3) (fun k=>3 - k) 0 (by simp) (by simp [fS,ab,aX,cl,sdK]) ?_
    rotate_left
    all_goals
     clear y
     rintro k hk
     simp [fS,ab,aX,cl]
     refine al (fun g2=>?_) (fun g2=>?_) <;> simp at g2 <;> simp [g2]
     ·have hw2 : IntKind.wrap .i64 ((k : Int) + 1)=((k + 1 : Nat) : Int):=ae (by omega) (by omega)
      have ck:=cb k
      have ck1:=cb (k + 1)
      refine aa (ks k (by omega)) (.inl rfl) ?_
      simp [hw2,n6]
      refine ⟨by omega,⟨⟨by omega,by omega⟩,by omega,by omega⟩,k + 1,by omega,by omega,?_⟩
      simp [fS,ab,aX,cl,sdK,List.replicate_succ]
     ·have hk3 : k=3:=by omega
      subst hk3
      simp only [cl] at kT
      simp
      refine aa kT (.inl rfl) ?_
      simp
      simp only [cl] at e5
      cases hov2 : aM m i
      ·have e9:=eI hov2
       simp [hw]
       refine ⟨by omega,i + 1,by omega,by omega,?_⟩
       simp [cU,ab,<- b1,<- b2,<- e9,e5,e6,e7,e8]
      ·have e9:=iy hov2
       simp [hw]
       refine ⟨by omega,by omega,i + 1,by omega,by omega,?_⟩
       simp [cU,ab,<- b1,<- b2,e9,e5,e6,e7,e8]
  ·have hi2 : i=m.f.length:=by omega
   subst hi2
   have bd : ∀ (p : Nat -> Bool) (n : Nat),n <= 100 -> (fil p n).length <= 100 /\ ∀ x ∈ fil p n,x < 100:=fun p n hn=>⟨by have:=aG p n;omega,fun x hx=>by have:=(dP hx).1;omega⟩
   have q1:=bd (cB m) _ hs
   have q2:=bd (bB m) _ hs
   have q3:=bd (cT m) _ hf
   have q4:=bd (bX m) _ hf
   have q5:=bd (bG m) _ hf
   have q6:=bd (aM m) _ hf
   have hLL : LL m=[[],fil (cB m) m.s.length,fil (bB m) m.s.length,fil (cT m) m.f.length,fil (bX m) m.f.length,fil (bG m) m.f.length,fil (aM m) m.f.length]:=rfl
   rw [hLL]
   clear hLL bd
   generalize fil (cB m) m.s.length=L1 at *
   generalize fil (bB m) m.s.length=L2 at *
   generalize fil (cT m) m.f.length=L3 at *
   generalize fil (bX m) m.f.length=L4 at *
   generalize fil (bG m) m.f.length=L5 at *
   generalize fil (aM m) m.f.length=L6 at *
   obtain ⟨AG,hAG⟩ : ∃ x,x=FI L1 L2 L3 L4 L5 L6:=⟨_,rfl⟩
   obtain ⟨BK,hBK⟩ : ∃ x,x=FR L1 L2 L3 L4 L5 L6:=⟨_,rfl⟩
   obtain ⟨U,hU⟩ : ∃ U : Nat -> List (Int × List UInt8),U=fun k=>co dec 0 (([([] : List Nat),L1,L2,L3,L4,L5,L6]).take k):=⟨_,rfl⟩
   have hU7 : U 7=co dec 0 [[],L1,L2,L3,L4,L5,L6]:=by rw [hU];rfl
   have hU0 : U 0=[]:=by rw [hU];rfl
   have bdU : ∀ k (L : List Nat),L.length <= 100 -> (U k).length <= 100 * k -> (U k++L.map fun i=>((k : Int),dec i)).length <= 100 * (k + 1):=fun k L h1 h2=>by simp;omega
   have hU0s : U 1=U 0++(([] : List Nat)).map fun i=>((0 : Int),dec i):=by
    rw [hU];show co dec 0 (([([] : List Nat),L1,L2,L3,L4,L5,L6]).take 0++[([] : List Nat)])=_
    rw [cp];simp [co]
   have hU1s : U 2=U 1++(L1).map fun i=>((1 : Int),dec i):=by
    rw [hU];show co dec 0 (([([] : List Nat),L1,L2,L3,L4,L5,L6]).take 1++[L1])=_
    rw [cp];simp [co]
   have hU2s : U 3=U 2++(L2).map fun i=>((2 : Int),dec i):=by
    rw [hU];show co dec 0 (([([] : List Nat),L1,L2,L3,L4,L5,L6]).take 2++[L2])=_
    rw [cp];simp [co]
   have hU3s : U 4=U 3++(L3).map fun i=>((3 : Int),dec i):=by
    rw [hU];show co dec 0 (([([] : List Nat),L1,L2,L3,L4,L5,L6]).take 3++[L3])=_
    rw [cp];simp [co]
   have hU4s : U 5=U 4++(L4).map fun i=>((4 : Int),dec i):=by
    rw [hU];show co dec 0 (([([] : List Nat),L1,L2,L3,L4,L5,L6]).take 4++[L4])=_
    rw [cp];simp [co]
   have hU5s : U 6=U 5++(L5).map fun i=>((5 : Int),dec i):=by
    rw [hU];show co dec 0 (([([] : List Nat),L1,L2,L3,L4,L5,L6]).take 5++[L5])=_
    rw [cp];simp [co]
   have hU6s : U 7=U 6++(L6).map fun i=>((6 : Int),dec i):=by
    rw [hU];show co dec 0 (([([] : List Nat),L1,L2,L3,L4,L5,L6]).take 6++[L6])=_
    rw [cp];simp [co]
   have lU0 : (U 0).length <= 0:=by rw [hU0];simp
   have lU1 : (U 1).length <= 100:=by rw [hU0s];simp;omega
   have lU2 : (U 2).length <= 200:=by rw [hU1s];simp;omega
   have lU3 : (U 3).length <= 300:=by rw [hU2s];simp;omega
   have lU4 : (U 4).length <= 400:=by rw [hU3s];simp;omega
   have lU5 : (U 5).length <= 500:=by rw [hU4s];simp;omega
   have lU6 : (U 6).length <= 600:=by rw [hU5s];simp;omega
   rw [<- hU7]
   refine av Nat (fun k=>[(17,.ref (.r 10272) 0 (U k).length),(10272,.blk 2 (fnR (U k))),(181,AG),(182,.int .i64 k),(10064,BK)]) (fun k=>k <= 7) (fun k=>7 - k) 0 (by simp) (by simp [hU0,hAG,hBK,aI,aW]) ?_
   rintro k hk
   rcases (by omega : k=0 \/ k=1 \/ k=2 \/ k=3 \/ k=4 \/ k=5 \/ k=6 \/ k=7) with rfl | rfl | rfl | rfl | rfl | rfl | rfl | rfl
   ·simp [hAG,aI]
    refine av Nat (fun j=>[(17,.ref (.r 10272) 0 ((U 0).length + j)),(10272,.blk 2 (fnR (U 0++tkD dec 0 ([] : List Nat) j))),(18,.int .i64 0),(181,AG),(182,.int .i64 0),(186,.ref (.n 10064 0 0) 0 (([] : List Nat)).length),(187,.int .i64 (([] : List Nat)).length),(188,.int .i64 j),(10064,BK)]) (fun j=>j <= (([] : List Nat)).length) (fun j=>(([] : List Nat)).length - j) 0 (by simp) (by simp [hAG,hBK,aI,aW,ft]) ?_
    rintro j hj
    simp [hAG,hBK,aI,aW]
    have hj0 : j=0:=by simpa using hj
    subst hj0
    simp [bH,hAG,hBK,aI,aW]
    refine ⟨1,by omega,by omega,?_⟩
    rw [hU0s]
    simp [tkD]
   ·simp [hAG,aI]
    refine av Nat (fun j=>[(17,.ref (.r 10272) 0 ((U 1).length + j)),(10272,.blk 2 (fnR (U 1++tkD dec 1 L1 j))),(18,.int .i64 1),(181,AG),(182,.int .i64 1),(186,.ref (.n 10064 0 1) 0 (L1).length),(187,.int .i64 (L1).length),(188,.int .i64 j),(10064,BK)]) (fun j=>j <= (L1).length) (fun j=>(L1).length - j) 0 (by simp) (by simp [hAG,hBK,aI,aW,ft]) ?_
    rintro j hj
    simp [hAG,hBK,aI,aW]
    refine al (fun g3=>?_) (fun g3=>?_) <;> simp at g3 <;> simp [g3,hAG,hBK,aI,aW]
    ·have hj2 : j < L1.length:=by omega
     have hw3 : IntKind.wrap .i64 ((j : Int) + 1)=((j + 1 : Nat) : Int):=ae (by omega) (by omega)
     have hi:=hI (L1[j]) (q1.2 _ (List.getElem_mem hj2))
     have ht:=f9 dec 1 L1 hj2
     have hl:=iI dec 1 L1 (Nat.le_of_lt hj2)
     rw [eG L1]
     try simp [hj2]
     refine aa hi (.inl rfl) ?_
     simp
     refine ⟨by omega,by omega,j + 1,by omega,by omega,by omega,?_,?_,hw3,?_⟩
     ·have e : (U 1).length + j=(U 1++tkD dec 1 L1 j).length:=by simp [hl]
      rw [e,fV,gk,ht,List.append_assoc]
     ·rw [hAG,aI]
     ·rw [hBK,aW];simp only [eG]
    ·have hj2 : j=L1.length:=by omega
     subst hj2
     refine ⟨2,by omega,by omega,?_⟩
     rw [hU1s,iH]
     simp [hAG,hBK,aI,aW]
     decide
   ·simp [hAG,aI]
    refine av Nat (fun j=>[(17,.ref (.r 10272) 0 ((U 2).length + j)),(10272,.blk 2 (fnR (U 2++tkD dec 2 L2 j))),(18,.int .i64 2),(181,AG),(182,.int .i64 2),(186,.ref (.n 10064 0 2) 0 (L2).length),(187,.int .i64 (L2).length),(188,.int .i64 j),(10064,BK)]) (fun j=>j <= (L2).length) (fun j=>(L2).length - j) 0 (by simp) (by simp [hAG,hBK,aI,aW,ft]) ?_
    rintro j hj
    simp [hAG,hBK,aI,aW]
    refine al (fun g3=>?_) (fun g3=>?_) <;> simp at g3 <;> simp [g3,hAG,hBK,aI,aW]
    ·have hj2 : j < L2.length:=by omega
     have hw3 : IntKind.wrap .i64 ((j : Int) + 1)=((j + 1 : Nat) : Int):=ae (by omega) (by omega)
     have hi:=hI (L2[j]) (q2.2 _ (List.getElem_mem hj2))
     have ht:=f9 dec 2 L2 hj2
     have hl:=iI dec 2 L2 (Nat.le_of_lt hj2)
     rw [eG L2]
     try simp [hj2]
     refine aa hi (.inl rfl) ?_
     simp
     refine ⟨by omega,by omega,j + 1,by omega,by omega,by omega,?_,?_,hw3,?_⟩
     ·have e : (U 2).length + j=(U 2++tkD dec 2 L2 j).length:=by simp [hl]
      rw [e,fV,gk,ht,List.append_assoc]
     ·rw [hAG,aI]
     ·rw [hBK,aW];simp only [eG]
    ·have hj2 : j=L2.length:=by omega
     subst hj2
     refine ⟨3,by omega,by omega,?_⟩
     rw [hU2s,iH]
     simp [hAG,hBK,aI,aW]
     decide
   ·simp [hAG,aI]
    refine av Nat (fun j=>[(17,.ref (.r 10272) 0 ((U 3).length + j)),(10272,.blk 2 (fnR (U 3++tkD dec 3 L3 j))),(18,.int .i64 3),(181,AG),(182,.int .i64 3),(186,.ref (.n 10064 0 3) 0 (L3).length),(187,.int .i64 (L3).length),(188,.int .i64 j),(10064,BK)]) (fun j=>j <= (L3).length) (fun j=>(L3).length - j) 0 (by simp) (by simp [hAG,hBK,aI,aW,ft]) ?_
    rintro j hj
    simp [hAG,hBK,aI,aW]
    refine al (fun g3=>?_) (fun g3=>?_) <;> simp at g3 <;> simp [g3,hAG,hBK,aI,aW]
    ·have hj2 : j < L3.length:=by omega
     have hw3 : IntKind.wrap .i64 ((j : Int) + 1)=((j + 1 : Nat) : Int):=ae (by omega) (by omega)
     have hi:=hI (L3[j]) (q3.2 _ (List.getElem_mem hj2))
     have ht:=f9 dec 3 L3 hj2
     have hl:=iI dec 3 L3 (Nat.le_of_lt hj2)
     rw [eG L3]
     try simp [hj2]
     refine aa hi (.inl rfl) ?_
     simp
     refine ⟨by omega,by omega,j + 1,by omega,by omega,by omega,?_,?_,hw3,?_⟩
     ·have e : (U 3).length + j=(U 3++tkD dec 3 L3 j).length:=by simp [hl]
      rw [e,fV,gk,ht,List.append_assoc]
     ·rw [hAG,aI]
     ·rw [hBK,aW];simp only [eG]
    ·have hj2 : j=L3.length:=by omega
     subst hj2
     refine ⟨4,by omega,by omega,?_⟩
     rw [hU3s,iH]
     simp [hAG,hBK,aI,aW]
     decide
   ·simp [hAG,aI]
    refine av Nat (fun j=>[(17,.ref (.r 10272) 0 ((U 4).length + j)),(10272,.blk 2 (fnR (U 4++tkD dec 4 L4 j))),(18,.int .i64 4),(181,AG),(182,.int .i64 4),(186,.ref (.n 10064 0 4) 0 (L4).length),(187,.int .i64 (L4).length),(188,.int .i64 j),(10064,BK)]) (fun j=>j <= (L4).length) (fun j=>(L4).length - j) 0 (by simp) (by simp [hAG,hBK,aI,aW,ft]) ?_
    rintro j hj
    simp [hAG,hBK,aI,aW]
    refine al (fun g3=>?_) (fun g3=>?_) <;> simp at g3 <;> simp [g3,hAG,hBK,aI,aW]
    ·have hj2 : j < L4.length:=by omega
     have hw3 : IntKind.wrap .i64 ((j : Int) + 1)=((j + 1 : Nat) : Int):=ae (by omega) (by omega)
     have hi:=hI (L4[j]) (q4.2 _ (List.getElem_mem hj2))
     have ht:=f9 dec 4 L4 hj2
     have hl:=iI dec 4 L4 (Nat.le_of_lt hj2)
     rw [eG L4]
     try simp [hj2]
     refine aa hi (.inl rfl) ?_
     simp
     refine ⟨by omega,by omega,j + 1,by omega,by omega,by omega,?_,?_,hw3,?_⟩
     ·have e : (U 4).length + j=(U 4++tkD dec 4 L4 j).length:=by simp [hl]
      rw [e,fV,gk,ht,List.append_assoc]
     ·rw [hAG,aI]
     ·rw [hBK,aW];simp only [eG]
    ·have hj2 : j=L4.length:=by omega
     subst hj2
     refine ⟨5,by omega,by omega,?_⟩
     rw [hU4s,iH]
     simp [hAG,hBK,aI,aW]
     decide
   ·simp [hAG,aI]
    refine av Nat (fun j=>[(17,.ref (.r 10272) 0 ((U 5).length + j)),(10272,.blk 2 (fnR (U 5++tkD dec 5 L5 j))),(18,.int .i64 5),(181,AG),(182,.int .i64 5),(186,.ref (.n 10064 0 5) 0 (L5).length),(187,.int .i64 (L5).length),(188,.int .i64 j),(10064,BK)]) (fun j=>j <= (L5).length) (fun j=>(L5).length - j) 0 (by simp) (by simp [hAG,hBK,aI,aW,ft]) ?_
    rintro j hj
    simp [hAG,hBK,aI,aW]
    refine al (fun g3=>?_) (fun g3=>?_) <;> simp at g3 <;> simp [g3,hAG,hBK,aI,aW]
    ·have hj2 : j < L5.length:=by omega
     have hw3 : IntKind.wrap .i64 ((j : Int) + 1)=((j + 1 : Nat) : Int):=ae (by omega) (by omega)
     have hi:=hI (L5[j]) (q5.2 _ (List.getElem_mem hj2))
     have ht:=f9 dec 5 L5 hj2
     have hl:=iI dec 5 L5 (Nat.le_of_lt hj2)
     rw [eG L5]
     try simp [hj2]
     refine aa hi (.inl rfl) ?_
     simp
     refine ⟨by omega,by omega,j + 1,by omega,by omega,by omega,?_,?_,hw3,?_⟩
     ·have e : (U 5).length + j=(U 5++tkD dec 5 L5 j).length:=by simp [hl]
      rw [e,fV,gk,ht,List.append_assoc]
     ·rw [hAG,aI]
     ·rw [hBK,aW];simp only [eG]
    ·have hj2 : j=L5.length:=by omega
     subst hj2
     refine ⟨6,by omega,by omega,?_⟩
     rw [hU5s,iH]
     simp [hAG,hBK,aI,aW]
     decide
   ·simp [hAG,aI]
    refine av Nat (fun j=>[(17,.ref (.r 10272) 0 ((U 6).length + j)),(10272,.blk 2 (fnR (U 6++tkD dec 6 L6 j))),(18,.int .i64 6),(181,AG),(182,.int .i64 6),(186,.ref (.n 10064 0 6) 0 (L6).length),(187,.int .i64 (L6).length),(188,.int .i64 j),(10064,BK)]) (fun j=>j <= (L6).length) (fun j=>(L6).length - j) 0 (by simp) (by simp [hAG,hBK,aI,aW,ft]) ?_
    rintro j hj
    simp [hAG,hBK,aI,aW]
    refine al (fun g3=>?_) (fun g3=>?_) <;> simp at g3 <;> simp [g3,hAG,hBK,aI,aW]
    ·have hj2 : j < L6.length:=by omega
     have hw3 : IntKind.wrap .i64 ((j : Int) + 1)=((j + 1 : Nat) : Int):=ae (by omega) (by omega)
     have hi:=hI (L6[j]) (q6.2 _ (List.getElem_mem hj2))
     have ht:=f9 dec 6 L6 hj2
     have hl:=iI dec 6 L6 (Nat.le_of_lt hj2)
     rw [eG L6]
     try simp [hj2]
     refine aa hi (.inl rfl) ?_
     simp
     refine ⟨by omega,by omega,j + 1,by omega,by omega,by omega,?_,?_,hw3,?_⟩
     ·have e : (U 6).length + j=(U 6++tkD dec 6 L6 j).length:=by simp [hl]
      rw [e,fV,gk,ht,List.append_assoc]
     ·rw [hAG,aI]
     ·rw [hBK,aW];simp only [eG]
    ·have hj2 : j=L6.length:=by omega
     subst hj2
     refine ⟨7,by omega,by omega,?_⟩
     rw [hU6s,iH]
     simp [hAG,hBK,aI,aW]
     decide
   ·simp [hAG,aI]
    rfl
end Go.Gv

namespace Go.Gv
theorem ii {m : Msh} (h : aC m=true) : m.s.length <= 2000 /\ m.f.length <= 4000:=by
 simp only [aC,bL,Bool.and_eq_true,decide_eq_true_eq] at h
 exact h.1
theorem mm {m : Msh} (h : aC m=true) : ∀ l ∈ LL m,l=[]:=by
 simp only [aC,Bool.and_eq_true,List.all_eq_true,decide_eq_true_eq] at h
 exact h.2
theorem iJ {m : Msh} (h : aC m=true) {i : Nat} (hi : i < m.s.length) : aA (spt m i)=true:=by
 have:=nK.1 (mm h (fil (cB m) m.s.length) (by simp [LL])) i hi
 simpa [cB] using this
theorem lh {m : Msh} (h : aC m=true) {i : Nat} (hi : i < m.f.length) : okF m (fce m i)=true /\ 0 < nr (aQ m (fce m i)):=by
 have h1:=nK.1 (mm h (fil (cT m) m.f.length) (by simp [LL])) i hi
 have h2:=nK.1 (mm h (fil (bX m) m.f.length) (by simp [LL])) i hi
 have h3 : okF m (fce m i)=true:=by simpa [cT] using h1
 refine ⟨h3,?_⟩
 simp [bX,h3] at h2
 omega
theorem ev {m : Msh} (h : aC m=true) {i : Nat} (hi : i < m.f.length) : inS m (fce m i)=true:=iz (lh h hi).1
def GY (f : Fce) (a b : Int) : Bool:=(List.range 3).any fun j=>decide (crn f j=a) && decide (crn f (j + 1)=b)
def rG (m : Msh) (a b : Int) : Int:=jo (fun f=>GY f a b) m.f
def nbF (m : Msh) (i k : Nat) : Int:=rG m (crn (fce m i) (k + 1)) (crn (fce m i) k)
def IF (p : Nat -> Bool) : Nat -> Option Nat
 | 0=>none
 | i + 1=>if p i then some i else IF p i
def uS (m : Msh) : Nat -> List D
 | 0=>[]
 | i + 1=>sdK (fce m i) 3++uS m i
def uT (m : Msh) : Nat -> List D
 | 0=>[]
 | i + 1=>List.replicate 3 (.int .i64 i)++uT m i
def nbC (m : Msh) (i k j c : Nat) : Int:=if j < i \/ (j=i /\ c < k) then nbF m j c else 0
def nbR (m : Msh) (i k : Nat) : List (List D):=(List.range m.f.length).map fun j=>[.int .i64 (nbC m i k j 0),.int .i64 (nbC m i k j 1),.int .i64 (nbC m i k j 2)]
def nbA (m : Msh) : List (List D):=(List.range m.f.length).map fun j=>[.int .i64 (nbF m j 0),.int .i64 (nbF m j 1),.int .i64 (nbF m j 2)]
@[simp] theorem NW (m : Msh) (i k : Nat) : (nbR m i k).length=m.f.length:=by simp [nbR]
@[simp] theorem I6 (m : Msh) (i k : Nat) : List.take m.f.length (nbR m i k)=nbR m i k:=List.take_of_length_le (by simp)
@[simp] theorem PS (m : Msh) (i k : Nat) : List.map (fun e=>List.map aR e) (nbR m i k)=nbR m i k:=by simp [nbR]
variable {C : CC} (hC : aw prog C)
include hC
theorem s9 (m : Msh) (h : bL m=false) : C 273 [.agg (aZ m)] (.tup [.nils,.int .i64 4]) []:=by
 have ksm:=o6 hC m
 rw [show (decide (m.s.length <= 2000) && decide (m.f.length <= 4000))=false from h] at ksm
 refine start hC (nf:=N273) rfl rfl ?_
 simp only [ab] at ksm
 simp [N273,ab]
 refine aa ksm (.inl rfl) ?_
 simp
theorem lJ (dec : Nat -> List UInt8) (hI : ∀ n : Nat,n < 100 -> C 127 [.int .i64 n] (.str (dec n)) []) (m : Msh) (hz : bL m=true -> m.s.length <= 100 /\ m.f.length <= 100) : C 234 [.agg (aZ m)] (.bool (aC m)) []:=by
 cases hs : bL m
 ·have k:=s9 hC m hs
  refine start hC (nf:=N234) rfl rfl ?_
  simp only [ab] at k
  simp [N234,ab]
  refine aa k (.inr rfl) ?_
  simp [aC,hs]
 ·obtain ⟨h1,h2⟩:=hz hs
  have k:=we hC dec hI m h1 h2
  have e : aC m=decide ((co dec 0 (LL m)).length=0):=by
   rw [aC,hs,Bool.true_and,Bool.eq_iff_iff,decide_eq_true_eq,List.length_eq_zero_iff,lR]
  obtain ⟨X,hX⟩ : ∃ X,X=co dec 0 (LL m):=⟨_,rfl⟩
  rw [e]
  rw [<- hX] at k ⊢
  refine start hC (nf:=N234) rfl rfl ?_
  simp only [ab] at k
  simp [N234,ab]
  refine aa k (.inr rfl) ?_
  simp
end Go.Gv

namespace Go.Gv
section
variable {C : CC} {hs : Option (List Nat)} {K : Env -> Prop} {ns : List ao} {dst : Option Nat} {u : Tag (hs,K,ns)} {e : Env} {R : List Nat} {acc : List (List Nat × List Nat)}
@[simp] theorem G7 {sz : Nat} {c0 c1 c2 c3 c4 c5 : List D} {es : List (List D)} : iM C hs K ns dst u e R acc sz (c0::c1::c2::c3::c4::c5::es) 5=(c5.length=sz /\ dW C hs K ns dst ⟨⟩ e R acc (.ptr c5)):=cP rfl
@[simp] theorem JP {n : Nat} {ag : Bool} {p : Pa} {off : Nat} {c0 c1 c2 c3 c4 c5 : List D} {es : List (List D)} : j5 C hs K ns dst u e R acc n ag p (c0::c1::c2::c3::c4::c5::es) 5 off=(off + n <= c5.length /\ match ag with
    | true=>(((c5.drop off).take n).all isV=true -> dW C hs K ns dst ⟨⟩ e R acc (.agg ((c5.drop off).take n))) /\
      (((c5.drop off).take n).all isV=false -> dW C hs K ns dst ⟨⟩ e R acc (.agx (((c5.drop off).take n).mapIdx fun j c=>ldc p 5 (off + j) c)))
    | false=>dW C hs K ns dst ⟨⟩ e R acc (ldc p 5 off ((c5.drop off).headD .any))):=bO rfl
@[simp] theorem G8 {sz : Nat} {c0 c1 c2 c3 c4 c5 c6 : List D} {es : List (List D)} : iM C hs K ns dst u e R acc sz (c0::c1::c2::c3::c4::c5::c6::es) 6=(c6.length=sz /\ dW C hs K ns dst ⟨⟩ e R acc (.ptr c6)):=cP rfl
@[simp] theorem JQ {n : Nat} {ag : Bool} {p : Pa} {off : Nat} {c0 c1 c2 c3 c4 c5 c6 : List D} {es : List (List D)} : j5 C hs K ns dst u e R acc n ag p (c0::c1::c2::c3::c4::c5::c6::es) 6 off=(off + n <= c6.length /\ match ag with
    | true=>(((c6.drop off).take n).all isV=true -> dW C hs K ns dst ⟨⟩ e R acc (.agg ((c6.drop off).take n))) /\
      (((c6.drop off).take n).all isV=false -> dW C hs K ns dst ⟨⟩ e R acc (.agx (((c6.drop off).take n).mapIdx fun j c=>ldc p 6 (off + j) c)))
    | false=>dW C hs K ns dst ⟨⟩ e R acc (ldc p 6 off ((c6.drop off).headD .any))):=bO rfl
@[simp] theorem G9 {sz : Nat} {c0 c1 c2 c3 c4 c5 c6 c7 : List D} {es : List (List D)} : iM C hs K ns dst u e R acc sz (c0::c1::c2::c3::c4::c5::c6::c7::es) 7=(c7.length=sz /\ dW C hs K ns dst ⟨⟩ e R acc (.ptr c7)):=cP rfl
@[simp] theorem JR {n : Nat} {ag : Bool} {p : Pa} {off : Nat} {c0 c1 c2 c3 c4 c5 c6 c7 : List D} {es : List (List D)} : j5 C hs K ns dst u e R acc n ag p (c0::c1::c2::c3::c4::c5::c6::c7::es) 7 off=(off + n <= c7.length /\ match ag with
    | true=>(((c7.drop off).take n).all isV=true -> dW C hs K ns dst ⟨⟩ e R acc (.agg ((c7.drop off).take n))) /\
      (((c7.drop off).take n).all isV=false -> dW C hs K ns dst ⟨⟩ e R acc (.agx (((c7.drop off).take n).mapIdx fun j c=>ldc p 7 (off + j) c)))
    | false=>dW C hs K ns dst ⟨⟩ e R acc (ldc p 7 off ((c7.drop off).headD .any))):=bO rfl
end
end Go.Gv

namespace Go.Gv
def fL (n : Nat) : List UInt8:=nG n []
def fdL (k : Int) (l : List Nat) : List (Int × List UInt8):=l.map fun i=>(k,fL i)
@[simp] theorem La (k : Int) (l : List Nat) : (fdL k l).length=l.length:=by simp [fdL]
def fdR (k : Int) (l : List Nat) : List (List D):=fnR (fdL k l)
@[simp] theorem Lc (k : Int) (l : List Nat) : (fdR k l).length=l.length:=by simp [fdR]
@[simp] theorem GO (k : Int) (l : List Nat) : List.take l.length (fdR k l)=fdR k l:=List.take_of_length_le (by simp)
theorem gj {p : Nat -> Bool} {n : Nat} {k : Int} (h : p n=true) : fdR k (fil p n)++[[D.int .i64 k,.str (fL n)]]=fdR k (fil p (n + 1)):=by
 rw [cy h];simp [fdR,gk,fdL]
theorem d5 {p : Nat -> Bool} {n : Nat} {k : Int} (h : p n=false) : fdR k (fil p n)=fdR k (fil p (n + 1)):=by rw [jQ h]
@[simp] theorem A6 (k : Int) (l : List Nat) : (∀ e ∈ fdR k l,∀ c ∈ e,au c=true)=True:=by simp [fdR,fnR,fnD,fdL]
@[simp] theorem Lb (k : Int) (l : List Nat) (x : List D) : (∀ e,e ∈ fdR k l \/ e=x -> ∀ c,c ∈ e -> au c=true)=∀ c,c ∈ x -> au c=true:=by
 apply propext
 constructor
 ·exact fun h=>h x (.inr rfl)
 ·rintro h e (he | rfl)
  ·exact (A6 k l).mpr trivial e he
  ·exact h
@[simp] theorem Ld (k : Int) : fdR k []=[]:=rfl
def fcR (m : Msh) (l : List Nat) : List (List D):=l.map fun k=>aY (fce m k)
@[simp] theorem K2 (m : Msh) (l : List Nat) : (fcR m l).length=l.length:=by simp [fcR]
@[simp] theorem GN (m : Msh) (l : List Nat) : List.take l.length (fcR m l)=fcR m l:=List.take_of_length_le (by simp)
@[simp] theorem K9 (m : Msh) : fcR m []=[]:=rfl
theorem xf {m : Msh} {i : Nat} (h : aq m i=true) : fcR m (fil (aq m) i)++[aY (fce m i)]=fcR m (fil (aq m) (i + 1)):=by rw [cy h];simp [fcR]
theorem gR (m : Msh) (l : List Nat) : fcR m l=l.map fun k=>aY (fce m k):=rfl
def jK (p : Nat -> Bool) (l : List Nat) (k : Nat) : Bool:=(l.take k).any p
theorem rS (p : Nat -> Bool) (l : List Nat) : jK p l 0=false:=by simp [jK]
theorem mE (p : Nat -> Bool) {l : List Nat} {k : Nat} (h : k < l.length) : jK p l (k + 1)=(jK p l k || p l[k]):=by
 unfold jK
 rw [List.take_add_one,List.getElem?_eq_getElem h,List.any_append]
 simp
theorem ol (p : Nat -> Bool) (l : List Nat) : jK p l l.length=l.any p:=by simp [jK]
def shP (m : Msh) (i k : Nat) : Bool:=j6 (fce m i) (fce m k)
def ovP (m : Msh) (i k : Nat) : Bool:=ovT (aQ m (fce m i)) (aQ m (fce m k))
theorem sK {m : Msh} {i : Nat} (h : aq m i=true) : bG m i=(fil (aq m) i).any (shP m i):=by
 rw [fil,List.any_filter,bG,h];rfl
theorem sF {m : Msh} {i : Nat} (h : aq m i=true) : aM m i=(fil (aq m) i).any (ovP m i):=by
 rw [fil,List.any_filter,aM,h];rfl
def JN (m : Msh) (i k : Nat) : Env:=[(1,.ptr (aZ m)),(3,.ref (.r 10048) 0 7),(10048,.blk 1 [[.own 2 []],[.own 2 (fdR 1 (fil (cB m) m.s.length))],[.own 2 (fdR 2 (fil (bB m) m.s.length))],[.own 2 (fdR 3 (fil (cT m) i))],[.own 2 (fdR 4 (fil (bX m) i))],[.own 2 (fdR 5 (fil (bG m) i))],[.own 2 (fdR 6 (fil (aM m) i))]]),(7,.ref (.r 10112) 0 (fil (aq m) i).length),(10112,.blk 4 (fcR m (fil (aq m) i))),(8,.int .i64 i),(9,.adr (.r 10144) 0 0),(10144,.blk 4 [aY (fce m i)]),(10,.bool (jK (shP m i) (fil (aq m) i) k)),(11,.bool (jK (ovP m i) (fil (aq m) i) k)),(12,.int .i64 k)]
theorem iC (m : Msh) (i k : Nat) : JN m i k=[(1,.ptr (aZ m)),(3,.ref (.r 10048) 0 7),(10048,.blk 1 [[.own 2 []],[.own 2 (fdR 1 (fil (cB m) m.s.length))],[.own 2 (fdR 2 (fil (bB m) m.s.length))],[.own 2 (fdR 3 (fil (cT m) i))],[.own 2 (fdR 4 (fil (bX m) i))],[.own 2 (fdR 5 (fil (bG m) i))],[.own 2 (fdR 6 (fil (aM m) i))]]),(7,.ref (.r 10112) 0 (fil (aq m) i).length),(10112,.blk 4 (fcR m (fil (aq m) i))),(8,.int .i64 i),(9,.adr (.r 10144) 0 0),(10144,.blk 4 [aY (fce m i)]),(10,.bool (jK (shP m i) (fil (aq m) i) k)),(11,.bool (jK (ovP m i) (fil (aq m) i) k)),(12,.int .i64 k)]:=_root_.id rfl
def JK (m : Msh) (i : Nat) : Env:=[(1,.ptr (aZ m)),(3,.ref (.r 10048) 0 7),(10048,.blk 1 [[.own 2 []],[.own 2 (fdR 1 (fil (cB m) i))],[.own 2 (fdR 2 (fil (bB m) i))],[.own 2 []],[.own 2 []],[.own 2 []],[.own 2 []]]),(4,.int .i64 i)]
theorem jx (m : Msh) (i : Nat) : JK m i=[(1,.ptr (aZ m)),(3,.ref (.r 10048) 0 7),(10048,.blk 1 [[.own 2 []],[.own 2 (fdR 1 (fil (cB m) i))],[.own 2 (fdR 2 (fil (bB m) i))],[.own 2 []],[.own 2 []],[.own 2 []],[.own 2 []]]),(4,.int .i64 i)]:=_root_.id rfl
def JL (m : Msh) (i k : Nat) : Env:=[(1,.ptr (aZ m)),(3,.ref (.r 10048) 0 7),(10048,.blk 1 [[.own 2 []],[.own 2 (fdR 1 (fil (cB m) i))],[.own 2 (fdR 2 (fil (bB m) i))],[.own 2 []],[.own 2 []],[.own 2 []],[.own 2 []]]),(4,.int .i64 i),(5,.adr (.r 10080) 0 0),(10080,.blk 3 [bk (spt m i)]),(6,.int .i64 k)]
theorem k8 (m : Msh) (i k : Nat) : JL m i k=[(1,.ptr (aZ m)),(3,.ref (.r 10048) 0 7),(10048,.blk 1 [[.own 2 []],[.own 2 (fdR 1 (fil (cB m) i))],[.own 2 (fdR 2 (fil (bB m) i))],[.own 2 []],[.own 2 []],[.own 2 []],[.own 2 []]]),(4,.int .i64 i),(5,.adr (.r 10080) 0 0),(10080,.blk 3 [bk (spt m i)]),(6,.int .i64 k)]:=_root_.id rfl
def JM (m : Msh) (i : Nat) : Env:=[(1,.ptr (aZ m)),(3,.ref (.r 10048) 0 7),(10048,.blk 1 [[.own 2 []],[.own 2 (fdR 1 (fil (cB m) m.s.length))],[.own 2 (fdR 2 (fil (bB m) m.s.length))],[.own 2 (fdR 3 (fil (cT m) i))],[.own 2 (fdR 4 (fil (bX m) i))],[.own 2 (fdR 5 (fil (bG m) i))],[.own 2 (fdR 6 (fil (aM m) i))]]),(7,.ref (.r 10112) 0 (fil (aq m) i).length),(10112,.blk 4 (fcR m (fil (aq m) i))),(8,.int .i64 i)]
theorem fG (m : Msh) (i : Nat) : JM m i=[(1,.ptr (aZ m)),(3,.ref (.r 10048) 0 7),(10048,.blk 1 [[.own 2 []],[.own 2 (fdR 1 (fil (cB m) m.s.length))],[.own 2 (fdR 2 (fil (bB m) m.s.length))],[.own 2 (fdR 3 (fil (cT m) i))],[.own 2 (fdR 4 (fil (bX m) i))],[.own 2 (fdR 5 (fil (bG m) i))],[.own 2 (fdR 6 (fil (aM m) i))]]),(7,.ref (.r 10112) 0 (fil (aq m) i).length),(10112,.blk 4 (fcR m (fil (aq m) i))),(8,.int .i64 i)]:=_root_.id rfl
variable {C : CC} (hC : aw prog C)
include hC
set_option maxRecDepth 4000 in
set_option maxHeartbeats 4000000 in
theorem u9 (m : Msh) (hs : m.s.length <= 100) (hf : m.f.length <= 100) : C 258 [.agg (aZ m)] (.sl ((co fL 0 (LL m)).map fnD)) []:=by
 have kr:=fun s=>rB hC s
 have kd:=fun n h=>B5 hC n h
 have kp:=fun s=>jw hC s
 refine start hC (nf:=N258) rfl rfl ?_
 simp [N258,ab]
 refine av Nat (fun i=>JK m i) (fun i=>i <= m.s.length) (fun i=>m.s.length - i) 0 (by simp) (by simp [jx,ab,jm,List.replicate]) ?_
 rintro i hi
 simp [jx,ab]
 refine al (fun g1=>?_) (fun g1=>?_) <;> simp at g1 <;> simp [g1]
 ·have hw : IntKind.wrap .i64 ((i : Int) + 1)=((i + 1 : Nat) : Int):=ae (by omega) (by omega)
  have kri:=kr (spt m i)
  simp only [bq] at kri
  have kdi:=kd i (by omega)
  have l1:=aG (cB m) i
  have l2:=aG (bB m) i
  simp [bq]
  refine aa kri (.inl rfl) ?_
  simp
  cases hr1 : aA (spt m i)
  ·have e1:=gj (p:=cB m) (n:=i) (k:=1) (by simp [cB,hr1])
   have e2:=d5 (p:=bB m) (n:=i) (k:=2) (by simp [bB,hr1])
   simp
   refine aa kdi (.inl rfl) ?_
   simp
   simp only [fL] at e1
   refine ⟨by omega,ai (by decide +kernel),i + 1,by omega,by omega,?_⟩
   simp [jx,ab,hw,e1,<- e2]
  ·have e0:=d5 (p:=cB m) (n:=i) (k:=1) (by simp [cB,hr1])
   have hsame : bB m i=(List.range i).any fun k=>aA (spt m k) && decide (fw m k=fw m i):=by rw [bB,hr1,Bool.true_and]
   simp
   refine av Nat (fun k=>JL m i k) (fun k=>k <= i /\ ∀ j,j < k -> aA (spt m j)=true -> ¬ fw m j=fw m i) (fun k=>i - k) 0 (by simp) (by simp [k8,ab,bq]) ?_
   rintro k ⟨hk,hK⟩
   simp [k8,ab,bq]
   refine al (fun g2=>?_) (fun g2=>?_) <;> simp at g2 <;> simp [g2]
   ·have hw2 : IntKind.wrap .i64 ((k : Int) + 1)=((k + 1 : Nat) : Int):=ae (by omega) (by omega)
    have krk:=kr (spt m k)
    have kpk:=kp (spt m k)
    have kpi:=kp (spt m i)
    simp only [bq,ptD] at krk kpk kpi
    have hks : k < m.s.length:=by omega
    simp [hks,bq]
    refine aa krk (.inl rfl) ?_
    simp
    have next : (aA (spt m k)=true -> ¬ fw m k=fw m i) -> ∀ j,j < k + 1 -> aA (spt m j)=true -> ¬ fw m j=fw m i:=fun h j hj=>by
     rcases Nat.lt_succ_iff_lt_or_eq.1 hj with h2 | rfl
     ·exact hK j h2
     ·exact h
    cases hr2 : aA (spt m k)
    ·simp
     refine ⟨ai (by decide +kernel),?_⟩
     refine ⟨k + 1,⟨by omega,next (by rw [hr2];simp)⟩,by omega,?_⟩
     simp [k8,ab,bq,hw2]
    ·simp [hks,bq]
     refine aa kpk (.inl rfl) ?_
     simp
     refine aa kpi (.inl rfl) ?_
     simp
     refine ⟨ai (by decide +kernel),?_⟩
     by_cases hp : fw m k=fw m i
     ·have hs1 : bB m i=true:=by
       rw [hsame,List.any_eq_true]
       exact ⟨k,List.mem_range.2 g2,by simp [hr2,hp]⟩
      have e2:=gj (p:=bB m) (n:=i) (k:=2) hs1
      simp only [fL] at e2
      have hp1 : (ptS (spt m k)).1=(ptS (spt m i)).1:=congrArg Prod.fst hp
      have hp2 : (ptS (spt m k)).2=(ptS (spt m i)).2:=congrArg Prod.snd hp
      simp [hp1,hp2]
      refine aa kdi (.inl rfl) ?_
      simp
      refine ⟨by omega,ai (by decide +kernel),i + 1,by omega,by omega,?_⟩
      simp [jx,ab,hw,<- e0,e2]
     ·have hp1 : ¬ ((ptS (spt m k)).1=(ptS (spt m i)).1 /\ (ptS (spt m k)).2=(ptS (spt m i)).2):=fun h=>hp (Prod.ext h.1 h.2)
      have hp2 : (decide ((ptS (spt m k)).1=(ptS (spt m i)).1) && decide ((ptS (spt m k)).2=(ptS (spt m i)).2))=false:=by
       rw [Bool.eq_false_iff];simpa using hp1
      simp [hp2]
      refine ⟨k + 1,⟨by omega,next (fun _=>hp)⟩,by omega,?_⟩
      simp [k8,ab,bq,hw2]
   ·have hk2 : k=i:=by omega
    subst hk2
    have hs1 : bB m k=false:=by
     rw [hsame,List.any_eq_false]
     intro j hj
     have:=hK j (List.mem_range.1 hj)
     simpa using this
    have e2:=d5 (p:=bB m) (n:=k) (k:=2) hs1
    refine ⟨k + 1,by omega,by omega,?_⟩
    simp [jx,ab,hw,<- e0,<- e2]
 ·have hi2 : i=m.s.length:=by omega
  subst hi2
  clear kr kp
  have kc:=fun f=>B6 hC m f (by omega)
  refine av Nat (fun i=>JM m i) (fun i=>i <= m.f.length) (fun i=>m.f.length - i) 0 (by simp) (by simp [fG,ab,jm]) ?_
  clear hi g1
  rintro i hi
  simp [fG,ab]
  refine al (fun g1=>?_) (fun g1=>?_) <;> simp at g1 <;> simp [g1]
  ·have hw : IntKind.wrap .i64 ((i : Int) + 1)=((i + 1 : Nat) : Int):=ae (by omega) (by omega)
   have kci:=kc (fce m i)
   have kdi:=kd i (by omega)
   simp only [ab,aX] at kci
   have l3:=aG (cT m) i
   have l4:=aG (bX m) i
   have l5:=aG (bG m) i
   have l6:=aG (aM m) i
   simp [aX]
   refine aa kci (.inl rfl) ?_
   simp
   cases ok : okF m (fce m i)
   ·have hsn : aq m i=false:=by simp [aq,ok]
    have e1:=gj (p:=cT m) (n:=i) (k:=3) (by simp [cT,ok])
    have e2:=d5 (p:=bX m) (n:=i) (k:=4) (by simp [bX,ok])
    have e3:=d5 (p:=bG m) (n:=i) (k:=5) (by simp [bG,hsn])
    have e4:=d5 (p:=aM m) (n:=i) (k:=6) (by simp [aM,hsn])
    have e5:=jQ hsn
    simp only [fL] at e1
    simp
    refine aa kdi (.inl rfl) ?_
    simp
    refine ⟨by omega,ai (by decide +kernel),i + 1,by omega,by omega,?_⟩
    simp [fG,ab,hw,e1,<- e2,<- e3,<- e4,e5]
   ·have hT:=cH ok
    have kt:=x6 hC m (fce m i) (iz ok) hT
    simp only [ab,aX] at kt
    have e1:=d5 (p:=cT m) (n:=i) (k:=3) (by simp [cT,ok])
    simp
    refine aa kt (.inl rfl) ?_
    simp
    refine al (fun d1=>?_) (fun d1=>?_) <;> simp at d1 <;> simp [d1]
    ·have hfl : bX m i=true:=by simp [bX,ok,d1]
     have hsn : aq m i=false:=by simp [aq,ok];omega
     have e2:=gj (k:=4) hfl
     have e3:=d5 (p:=bG m) (n:=i) (k:=5) (by simp [bG,hsn])
     have e4:=d5 (p:=aM m) (n:=i) (k:=6) (by simp [aM,hsn])
     have e5:=jQ hsn
     simp only [fL] at e2
     refine aa kdi (.inl rfl) ?_
     simp
     refine ⟨by omega,ai (by decide +kernel),i + 1,by omega,by omega,?_⟩
     simp [fG,ab,hw,<- e1,e2,<- e3,<- e4,e5]
    ·have hfl : bX m i=false:=by simp [bX,ok];omega
     have hsn : aq m i=true:=by simp [aq,ok,d1]
     have e2:=d5 (k:=4) hfl
     have lsn:=aG (aq m) i
     have hsd:=sK hsn
     have hov:=sF hsn
     refine av Nat (fun k=>JN m i k) (fun k=>k <= (fil (aq m) i).length) (fun k=>(fil (aq m) i).length - k) 0 (by simp) (by simp [iC,ab,aX,rS]) ?_
     rintro k hk
     simp [iC,ab,aX]
     refine al (fun g2=>?_) (fun g2=>?_) <;> simp at g2 <;> simp [g2]
     ·have hw2 : IntKind.wrap .i64 ((k : Int) + 1)=((k + 1 : Nat) : Int):=ae (by omega) (by omega)
      have hq:=(dP (List.getElem_mem g2)).2
      simp only [aq,Bool.and_eq_true] at hq
      have ks:=x3 hC (fce m i) (fce m (fil (aq m) i)[k])
      have ko:=qy hC m (fce m i) (fce m (fil (aq m) i)[k]) (iz ok) hT (iz hq.1) (cH hq.1)
      have a1:=mE (shP m i) g2
      have a2:=mE (ovP m i) g2
      rw [show shP m i (fil (aq m) i)[k]=j6 (fce m i) (fce m (fil (aq m) i)[k]) from rfl] at a1
      rw [show ovP m i (fil (aq m) i)[k]=ovT (aQ m (fce m i)) (aQ m (fce m (fil (aq m) i)[k])) from rfl] at a2
      simp only [ab,aX] at ks ko
      cases h1 : jK (shP m i) (fil (aq m) i) k <;> cases h2 : jK (ovP m i) (fil (aq m) i) k <;> rw [h1] at a1 <;> rw [h2] at a2 <;> simp at a1 a2
      ·simp [gR,g2,aX]
       refine aa ks (.inl rfl) ?_
       simp
       refine ⟨ai (by decide +kernel),?_⟩
       simp [gR,g2,aX]
       refine aa ko (.inl rfl) ?_
       simp
       refine ⟨ai (by decide +kernel),?_⟩
       refine ⟨k + 1,by omega,by omega,?_⟩
       simp [iC,ab,aX,hw2,a1,a2,gR]
      ·simp [gR,g2,aX]
       refine aa ks (.inl rfl) ?_
       simp
       refine ⟨ai (by decide +kernel),ai (by decide +kernel),?_⟩
       refine ⟨k + 1,by omega,by omega,?_⟩
       simp [iC,ab,aX,hw2,a1,a2,gR]
      ·simp
       refine ⟨ai (by decide +kernel),?_⟩
       simp [gR,g2,aX]
       refine aa ko (.inl rfl) ?_
       simp
       refine ⟨ai (by decide +kernel),?_⟩
       refine ⟨k + 1,by omega,by omega,?_⟩
       simp [iC,ab,aX,hw2,a1,a2,gR]
      ·simp
       refine ⟨ai (by decide +kernel),ai (by decide +kernel),?_⟩
       refine ⟨k + 1,by omega,by omega,?_⟩
       simp [iC,ab,aX,hw2,a1,a2,gR]
     ·have hk2 : k=(fil (aq m) i).length:=by omega
      subst hk2
      rw [ol,ol,<- hsd,<- hov]
      have e5:=xf hsn
      have e8 : (fil (aq m) (i + 1)).length=(fil (aq m) i).length + 1:=by rw [cy hsn];simp
      simp only [aX] at e5
      cases h1 : bG m i
      ·have e3:=d5 (k:=5) h1
       simp
       cases h2 : aM m i
       ·have e4:=d5 (k:=6) h2
        simp
        refine ⟨by omega,i + 1,by omega,by omega,?_⟩
        simp [fG,ab,hw,<- e1,<- e2,<- e3,<- e4,e5,e8]
       ·have e4:=gj (k:=6) h2
        simp only [fL] at e4
        simp
        refine aa kdi (.inl rfl) ?_
        simp
        refine ⟨by omega,ai (by decide +kernel),?_⟩
        refine ⟨by omega,i + 1,by omega,by omega,?_⟩
        simp [fG,ab,hw,<- e1,<- e2,<- e3,e4,e5,e8]
      ·have e3:=gj (k:=5) h1
       simp only [fL] at e3
       simp
       refine aa kdi (.inl rfl) ?_
       simp
       refine ⟨by omega,ai (by decide +kernel),?_⟩
       cases h2 : aM m i
       ·have e4:=d5 (k:=6) h2
        simp
        refine ⟨by omega,i + 1,by omega,by omega,?_⟩
        simp [fG,ab,hw,<- e1,<- e2,e3,<- e4,e5,e8]
       ·have e4:=gj (k:=6) h2
        simp only [fL] at e4
        simp
        refine aa kdi (.inl rfl) ?_
        simp
        refine ⟨by omega,ai (by decide +kernel),?_⟩
        refine ⟨by omega,i + 1,by omega,by omega,?_⟩
        simp [fG,ab,hw,<- e1,<- e2,e3,e4,e5,e8]
  ·have hi2 : i=m.f.length:=by omega
   subst hi2
   have bd : ∀ (p : Nat -> Bool) (n : Nat),n <= 100 -> (fil p n).length <= 100:=fun p n hn=>by have:=aG p n;omega
   have q1:=bd (cB m) _ hs
   have q2:=bd (bB m) _ hs
   have q3:=bd (cT m) _ hf
   have q4:=bd (bX m) _ hf
   have q5:=bd (bG m) _ hf
   have q6:=bd (aM m) _ hf
   have hLL : LL m=[[],fil (cB m) m.s.length,fil (bB m) m.s.length,fil (cT m) m.f.length,fil (bX m) m.f.length,fil (bG m) m.f.length,fil (aM m) m.f.length]:=rfl
   rw [hLL]
   clear hLL bd
   generalize fil (cB m) m.s.length=L1 at *
   generalize fil (bB m) m.s.length=L2 at *
   generalize fil (cT m) m.f.length=L3 at *
   generalize fil (bX m) m.f.length=L4 at *
   generalize fil (bG m) m.f.length=L5 at *
   generalize fil (aM m) m.f.length=L6 at *
   obtain ⟨BK,hBK⟩ : ∃ x : D,x=.blk 1 [[.own 2 []],[.own 2 (fdR 1 L1)],[.own 2 (fdR 2 L2)],[.own 2 (fdR 3 L3)],[.own 2 (fdR 4 L4)],[.own 2 (fdR 5 L5)],[.own 2 (fdR 6 L6)]]:=⟨_,rfl⟩
   obtain ⟨U,hU⟩ : ∃ U : Nat -> List (Int × List UInt8),U=fun k=>co fL 0 (([([] : List Nat),L1,L2,L3,L4,L5,L6]).take k):=⟨_,rfl⟩
   have hU7 : U 7=co fL 0 [[],L1,L2,L3,L4,L5,L6]:=by rw [hU];rfl
   have hU0 : U 0=[]:=by rw [hU];rfl
   have hU0s : U 1=U 0++fdL 0 ([] : List Nat):=by
    rw [hU];show co fL 0 (([([] : List Nat),L1,L2,L3,L4,L5,L6]).take 0++[([] : List Nat)])=_
    rw [cp];simp [co,fdL]
   have hU1s : U 2=U 1++fdL 1 L1:=by
    rw [hU];show co fL 0 (([([] : List Nat),L1,L2,L3,L4,L5,L6]).take 1++[L1])=_
    rw [cp];simp [co,fdL]
   have hU2s : U 3=U 2++fdL 2 L2:=by
    rw [hU];show co fL 0 (([([] : List Nat),L1,L2,L3,L4,L5,L6]).take 2++[L2])=_
    rw [cp];simp [co,fdL]
   have hU3s : U 4=U 3++fdL 3 L3:=by
    rw [hU];show co fL 0 (([([] : List Nat),L1,L2,L3,L4,L5,L6]).take 3++[L3])=_
    rw [cp];simp [co,fdL]
   have hU4s : U 5=U 4++fdL 4 L4:=by
    rw [hU];show co fL 0 (([([] : List Nat),L1,L2,L3,L4,L5,L6]).take 4++[L4])=_
    rw [cp];simp [co,fdL]
   have hU5s : U 6=U 5++fdL 5 L5:=by
    rw [hU];show co fL 0 (([([] : List Nat),L1,L2,L3,L4,L5,L6]).take 5++[L5])=_
    rw [cp];simp [co,fdL]
   have hU6s : U 7=U 6++fdL 6 L6:=by
    rw [hU];show co fL 0 (([([] : List Nat),L1,L2,L3,L4,L5,L6]).take 6++[L6])=_
    rw [cp];simp [co,fdL]
   have lU0 : (U 0).length <= 0:=by rw [hU0];simp
   have lU1 : (U 1).length <= 100:=by rw [hU0s];simp;omega
   have lU2 : (U 2).length <= 200:=by rw [hU1s];simp;omega
   have lU3 : (U 3).length <= 300:=by rw [hU2s];simp;omega
   have lU4 : (U 4).length <= 400:=by rw [hU3s];simp;omega
   have lU5 : (U 5).length <= 500:=by rw [hU4s];simp;omega
   have lU6 : (U 6).length <= 600:=by rw [hU5s];simp;omega
   rw [<- hU7]
   refine av Nat (fun k=>[(3,.ref (.r 10048) 0 7),(10048,BK),(13,.ref (.r 10208) 0 (U k).length),(10208,.blk 2 (fnR (U k))),(14,.int .i64 k)]) (fun k=>k <= 7) (fun k=>7 - k) 0 (by simp) (by simp [hU0,hBK]) ?_
   rintro k hk
   rcases (by omega : k=0 \/ k=1 \/ k=2 \/ k=3 \/ k=4 \/ k=5 \/ k=6 \/ k=7) with rfl | rfl | rfl | rfl | rfl | rfl | rfl | rfl
   ·have e : fnR (U 0)++fdR 0 ([] : List Nat)=fnR (U 1):=by rw [hU0s];simp [fnR,fdR]
    have e' : (U 1).length=(U 0).length + (([] : List Nat)).length:=by rw [hU0s];simp
    simp [hBK]
    refine ⟨by omega,1,by omega,by omega,?_,?_,by decide⟩
    ·simpa using e'.symm
    ·simpa using e
   ·have e : fnR (U 1)++fdR 1 L1=fnR (U 2):=by rw [hU1s];simp [fnR,fdR]
    have e' : (U 2).length=(U 1).length + (L1).length:=by rw [hU1s];simp
    simp [hBK]
    refine ⟨by omega,2,by omega,by omega,?_,?_,by decide⟩
    ·simpa using e'.symm
    ·simpa using e
   ·have e : fnR (U 2)++fdR 2 L2=fnR (U 3):=by rw [hU2s];simp [fnR,fdR]
    have e' : (U 3).length=(U 2).length + (L2).length:=by rw [hU2s];simp
    simp [hBK]
    refine ⟨by omega,3,by omega,by omega,?_,?_,by decide⟩
    ·simpa using e'.symm
    ·simpa using e
   ·have e : fnR (U 3)++fdR 3 L3=fnR (U 4):=by rw [hU3s];simp [fnR,fdR]
    have e' : (U 4).length=(U 3).length + (L3).length:=by rw [hU3s];simp
    simp [hBK]
    refine ⟨by omega,4,by omega,by omega,?_,?_,by decide⟩
    ·simpa using e'.symm
    ·simpa using e
   ·have e : fnR (U 4)++fdR 4 L4=fnR (U 5):=by rw [hU4s];simp [fnR,fdR]
    have e' : (U 5).length=(U 4).length + (L4).length:=by rw [hU4s];simp
    simp [hBK]
    refine ⟨by omega,5,by omega,by omega,?_,?_,by decide⟩
    ·simpa using e'.symm
    ·simpa using e
   ·have e : fnR (U 5)++fdR 5 L5=fnR (U 6):=by rw [hU5s];simp [fnR,fdR]
    have e' : (U 6).length=(U 5).length + (L5).length:=by rw [hU5s];simp
    simp [hBK]
    refine ⟨by omega,6,by omega,by omega,?_,?_,by decide⟩
    ·simpa using e'.symm
    ·simpa using e
   ·have e : fnR (U 6)++fdR 6 L6=fnR (U 7):=by rw [hU6s];simp [fnR,fdR]
    have e' : (U 7).length=(U 6).length + (L6).length:=by rw [hU6s];simp
    simp [hBK]
    refine ⟨by omega,7,by omega,by omega,?_,?_,by decide⟩
    ·simpa using e'.symm
    ·simpa using e
   ·simp [hBK]
    rfl
end Go.Gv

namespace Go.Gv
def Qx (m : Msh) (i : Nat) : Env:=[(1,.ptr (aZ m)),(3,.mrf 10224),(10224,.mp 3 2 (uS m i) (uT m i)),(16,slx m.fn (m.f.map aY)),(17,.int .i64 m.f.length),(18,.int .i64 i)]
def Qy (m : Msh) (i k : Nat) : Env:=[(1,.ptr (aZ m)),(3,.mrf 10224),(10224,.mp 3 2 (sdK (fce m i) k++uS m i) (List.replicate k (.int .i64 i)++uT m i)),(4,.int .i64 i),(5,.adr (.r 10080) 0 0),(10080,.blk 4 [aY (fce m i)]),(16,slx m.fn (m.f.map aY)),(17,.int .i64 m.f.length),(18,.int .i64 i),(23,.int .i64 k)]
def Qz (m : Msh) (i : Nat) : Env:=[(3,.mrf 10224),(10224,.mp 3 2 (uS m m.f.length) (uT m m.f.length)),(7,.ref (.r 10112) 0 m.f.length),(10112,.blk 3 (nbR m i 0)),(38,slx m.fn (m.f.map aY)),(39,.int .i64 m.f.length),(40,.int .i64 i)]
def QA (m : Msh) (i k : Nat) : Env:=[(3,.mrf 10224),(10224,.mp 3 2 (uS m m.f.length) (uT m m.f.length)),(7,.ref (.r 10112) 0 m.f.length),(10112,.blk 3 (nbR m i k)),(8,.int .i64 i),(9,.adr (.r 10144) 0 0),(10144,.blk 4 [aY (fce m i)]),(38,slx m.fn (m.f.map aY)),(39,.int .i64 m.f.length),(40,.int .i64 i),(45,.int .i64 k)]
variable {C : CC} (hC : aw prog C)
include hC
end Go.Gv

namespace Go.Gv
theorem iF {s : Spt} (h : aA s=true) : -16777216 <= s.x /\ s.x <= 16777216 /\ -16777216 <= s.y /\ s.y <= 16777216 /\ -4194304 <= s.z /\ s.z <= 4194304:=by
 simp only [aA,Bool.and_eq_true,decide_eq_true_eq] at h
 omega
def spA (m : Msh) (i : Nat) : Spt:=spt m (fce m i).a.toNat
def spB (m : Msh) (i : Nat) : Spt:=spt m (fce m i).b.toNat
def spC (m : Msh) (i : Nat) : Spt:=spt m (fce m i).c.toNat
def pC (m : Msh) (i : Nat) : Int:=(spA m i).z + (spB m i).z + (spC m i).z
def tB (m : Msh) (i : Nat) : Int:=(spA m i).x + (spB m i).x + (spC m i).x
def tC (m : Msh) (i : Nat) : Int:=(spA m i).y + (spB m i).y + (spC m i).y
theorem Ai {m : Msh} (hv : aC m=true) {i : Nat} (hi : i < m.f.length) : aA (spA m i)=true /\ aA (spB m i)=true /\ aA (spC m i)=true:=by
 obtain ⟨⟨_,h1⟩,⟨_,h2⟩,⟨_,h3⟩⟩:=gm (ev hv hi)
 exact ⟨iJ hv h1,iJ hv h2,iJ hv h3⟩
def smR (m : Msh) (i : Nat) : List (List D):=(List.range i).map fun j=>[.int .i64 (pC m j)]
def ctR (m : Msh) (i : Nat) : List (List D):=(List.range i).map fun j=>[.int .i64 (tB m j),.int .i64 (tC m j)]
@[simp] theorem OF (m : Msh) (i : Nat) : (smR m i).length=i:=by simp [smR]
@[simp] theorem Kz (m : Msh) (i : Nat) : (ctR m i).length=i:=by simp [ctR]
@[simp] theorem Kd (m : Msh) (i : Nat) : List.take i (smR m i)=smR m i:=List.take_of_length_le (by simp)
@[simp] theorem Gd (m : Msh) (i : Nat) : List.take i (ctR m i)=ctR m i:=List.take_of_length_le (by simp)
@[simp] theorem OE (m : Msh) (i : Nat) (x : List D) : (∀ e,e ∈ smR m i \/ e=x -> ∀ c,c ∈ e -> au c=true)=∀ c,c ∈ x -> au c=true:=by
 apply propext
 constructor
 ·exact fun h=>h x (.inr rfl)
 ·rintro h e (he | rfl)
  ·obtain ⟨j,_,rfl⟩:=List.mem_map.1 he
   simp
  ·exact h
@[simp] theorem Ky (m : Msh) (i : Nat) (x : List D) : (∀ e,e ∈ ctR m i \/ e=x -> ∀ c,c ∈ e -> au c=true)=∀ c,c ∈ x -> au c=true:=by
 apply propext
 constructor
 ·exact fun h=>h x (.inr rfl)
 ·rintro h e (he | rfl)
  ·obtain ⟨j,_,rfl⟩:=List.mem_map.1 he
   simp
  ·exact h
def cN (sz : Nat) (es : List (List D)) : D:=match es with
 | []=>.nils
 | e::r=>.own sz (e::r)
@[simp] theorem F3 (sz : Nat) (es : List (List D)) : aR (cN sz es)=slx true es:=by cases es <;> rfl
def grC (m : Msh) : List D:=[.sl (nbA m),slx true (smR m m.f.length),slx true (ctR m m.f.length)]
def mdE (m : Msh) (i : Nat) : Env:=[(1,.ptr (aZ m)),(6,.adr (.r 10352) 0 0),(10352,.blk 3 [[.sl (nbA m),cN 1 (smR m i),cN 2 (ctR m i)]]),(24,slx m.fn (m.f.map aY)),(25,.int .i64 m.f.length),(26,.int .i64 i)]
variable {C : CC} (hC : aw prog C)
include hC
end Go.Gv

namespace Go.Gv
def bsd (m : Msh) (i : Nat) (o : Int) : Bool:=decide (o=nbF m i 0) || (decide (o=nbF m i 1) || decide (o=nbF m i 2))
def tR (m : Msh) (i j : Nat) : Int:=pC m i - pC m j
def Jp (m : Msh) (i j : Nat) : Int:=tR m i j * (if tR m i j < -tR m i j then -tR m i j else tR m i j)
def Ge (m : Msh) (i j : Nat) : Int:=(tB m i - tB m j) * (tB m i - tB m j) + (tC m i - tC m j) * (tC m i - tC m j)
def F7 (m : Msh) (i a b : Nat) : Int:=gh (Jp m i a * Ge m i b) (Jp m i b * Ge m i a)
def P8 (m : Msh) (i : Nat) (best n : Int) : Int:=if n < 0 \/ pC m i <= pC m n.toNat then best else if best < 0 then n else if 0 < F7 m i n.toNat best.toNat \/ (F7 m i n.toNat best.toNat=0 /\ n < best) then n else best
def upF (m : Msh) (i : Nat) : Nat -> Int
 | 0=>-2
 | k + 1=>P8 m i (upF m i k) (nbF m i k)
def x7 (m : Msh) (i : Nat) : Int:=if upF m i 3=-2 /\ bsd m i (-1)=true then -1 else upF m i 3
variable {C : CC} (hC : aw prog C)
include hC
end Go.Gv

namespace Go.Gv
def inR (l : List Int) : List (List D):=l.map fun n=>[.int .i64 n]
@[simp] theorem Li (l : List Int) : (inR l).length=l.length:=by simp [inR]
@[simp] theorem Hc (l : List Int) : List.take l.length (inR l)=inR l:=List.take_of_length_le (by simp)
@[simp] theorem Pk (l : List Int) : List.map (fun e=>List.map aR e) (inR l)=inR l:=by simp [inR]
@[simp] theorem Lj : inR []=[]:=rfl
def QD (m : Msh) : List Int:=(List.range m.f.length).map fun j=>pC m j
def Qh (m : Msh) : List Int:=(List.range m.f.length).map fun j=>x7 m j
def flT (m : Msh) (i : Nat) : List Int:=(List.range i).map fun j=>x7 m j
def flB (m : Msh) : Nat -> List (List D)
 | 0=>List.replicate m.f.length [.int .i64 0]
 | i + 1=>inR (flT m (i + 1))
def pth (m : Msh) : Nat -> Int -> List Int
 | 0,_=>[]
 | k + 1,f=>if f < 0 then [] else f::pth m k (x7 m f.toNat)
def rnk (m : Msh) (i : Nat) : Nat:=((List.range m.f.length).filter fun j=>decide (pC m j < pC m i)).length
def Qi (m : Msh) (f : Int) : List Int:=pth m m.f.length f
def PL (m : Msh) (i : Nat) : List Int:=((List.range i).filter fun j=>decide (x7 m j=-2)).map fun (j : Nat)=>(j : Int)
def Qv (m : Msh) : List Int:=PL m m.f.length
variable {C : CC} (hC : aw prog C)
include hC
theorem vb (m : Msh) (hz : bL m=true -> m.s.length <= 100 /\ m.f.length <= 100) : C 215 [.agg (aZ m)] (.bool (aC m)) []:=by
 have ks:=vp hC m
 rw [show (decide (m.s.length <= 2000) && decide (m.f.length <= 4000))=bL m from rfl] at ks
 refine start hC (nf:=N215) rfl rfl ?_
 simp only [ab] at ks
 simp [N215,ab]
 refine aa ks (.inl rfl) ?_
 cases hs : bL m
 ·simp [aC,hs]
 ·obtain ⟨h1,h2⟩:=hz hs
  have k:=u9 hC m h1 h2
  have e : aC m=decide ((co fL 0 (LL m)).length=0):=by
   rw [aC,hs,Bool.true_and,Bool.eq_iff_iff,decide_eq_true_eq,List.length_eq_zero_iff,lR]
  rw [e]
  obtain ⟨X,hX⟩ : ∃ X,X=co fL 0 (LL m):=⟨_,rfl⟩
  rw [<- hX] at k ⊢
  simp only [ab] at k
  simp
  refine aa k (.inr rfl) ?_
  simp
end Go.Gv

namespace Go.Gv
def slE (m : Msh) (a b : Int) : Int:=if aC m=false then 1 else if fO m.f.length a=false \/ fO m.f.length b=false then 2 else if bsd m a.toNat b=false then 25 else 0
def stE (m : Msh) (i a b : Int) : Int:=if aC m=false then 1 else if fO m.f.length i=false \/ fO m.f.length a=false \/ fO m.f.length b=false then 2 else if bsd m i.toNat a=false \/ bsd m i.toNat b=false then 25 else 0
variable {C : CC} (hC : aw prog C)
include hC
end Go.Gv

namespace Go.Gv
theorem xi {α : Type} {p : α -> Bool} {xs : List α} {i : Nat} (h : jo p xs=(i : Int)) : ∃ h : i < xs.length,p xs[i]=true:=by
 unfold jo at h
 cases e : xs.findIdx? p with
 | none=>rw [e] at h;simp at h
 | some k =>
  rw [e] at h
  have h : k=i:=by have h : (k : Int)=(i : Int):=h;omega
  subst h
  rw [List.findIdx?_eq_some_iff_getElem] at e
  exact ⟨e.1,e.2.1⟩
def cpt (m : Msh) (f : Fce) (k : Nat) : Pnt:=ptS (spt m (crn f k).toNat)
end Go.Gv

namespace Go.Gv
def tn0 (m : Msh) (i : Nat) (p : Pnt) : Int:=aF (ptS (spA m i)) (ptS (spB m i)) p
def tn1 (m : Msh) (i : Nat) (p : Pnt) : Int:=aF (ptS (spB m i)) (ptS (spC m i)) p
def tn2 (m : Msh) (i : Nat) (p : Pnt) : Int:=aF (ptS (spC m i)) (ptS (spA m i)) p
def osF (m : Msh) (i : Nat) (p : Pnt) : Int:=if tn0 m i p < 0 then 0 else if tn1 m i p < 0 then 1 else if tn2 m i p < 0 then 2 else -1
def cu (m : Msh) (p : Pnt) : Int:=jo (fun i=>decide (osF m i p < 0)) (List.range m.f.length)
theorem gl {m : Msh} {p : Pnt} (h : 0 <= cu m p) : (cu m p).toNat < m.f.length /\ osF m (cu m p).toNat p < 0:=by
 have e : cu m p=((cu m p).toNat : Int):=by omega
 obtain ⟨h1,h2⟩:=xi (p:=fun i=>decide (osF m i p < 0)) (xs:=List.range m.f.length) e
 simp at h1 h2
 exact ⟨h1,h2⟩
theorem B2 {m : Msh} {i : Nat} {p : Pnt} (h : osF m i p < 0) : 0 <= tn0 m i p /\ 0 <= tn1 m i p /\ 0 <= tn2 m i p:=by
 unfold osF at h
 split at h
 ·omega
 ·split at h
  ·omega
  ·split at h
   ·omega
   ·omega
def r9 (m : Msh) (i : Nat) : List D:=[.int .i64 (spA m i).x,.int .i64 (spA m i).y,.int .i64 (spA m i).z,.int .i64 (spB m i).x,.int .i64 (spB m i).y,.int .i64 (spB m i).z,.int .i64 (spC m i).x,.int .i64 (spC m i).y,.int .i64 (spC m i).z]
theorem cx (m : Msh) (i : Nat) : r9 m i=[.int .i64 (spA m i).x,.int .i64 (spA m i).y,.int .i64 (spA m i).z,.int .i64 (spB m i).x,.int .i64 (spB m i).y,.int .i64 (spB m i).z,.int .i64 (spC m i).x,.int .i64 (spC m i).y,.int .i64 (spC m i).z]:=_root_.id rfl
theorem me {m : Msh} (hv : aC m=true) {i : Nat} (hi : i < m.f.length) : okP (ptS (spA m i))=true /\ okP (ptS (spB m i))=true /\ okP (ptS (spC m i))=true:=by
 obtain ⟨h1,h2,h3⟩:=Ai hv hi
 exact ⟨i7 h1,i7 h2,i7 h3⟩
@[simp] theorem OC (p : Pnt) : (ptD p).length=2:=_root_.id rfl
@[simp] theorem JI (p : Pnt) : List.take 2 (ptD p)=ptD p:=_root_.id rfl
@[simp] theorem Qk (p : Pnt) : (∀ x,x ∈ ptD p -> isV x=true)=True:=by simp [ptD]
@[simp] theorem Qj (p : Pnt) : (∀ x,x ∈ ptD p -> au x=true)=True:=by simp [ptD]
variable {C : CC} (hC : aw prog C)
include hC
theorem lG (m : Msh) (i : Nat) (hi : i < m.f.length) (h : inS m (fce m i)=true) : C 319 [.agg (aZ m),.int .i64 i] (.agg (r9 m i)) []:=by
 obtain ⟨⟨a1,a2⟩,⟨b1,b2⟩,⟨c1,c2⟩⟩:=gm h
 refine start hC (nf:=N319) rfl rfl ?_
 simp [N319,ab,hi,aX,a1,a2,b1,b2,c1,c2,bq,r9,spA,spB,spC]
 exact ai (by decide +kernel)
theorem mX (s : Spt) : C 321 [.agg (bk s)] (.agg (ptD (ptS s))) []:=by
 refine start hC (nf:=N321) rfl rfl ?_
 simp [N321,bk,ptD,ptS]
theorem go {a b c : Pnt} (ha : okP a=true) (hb : okP b=true) (hc : okP c=true) : C 320 [.agg (ptD a),.agg (ptD b),.agg (ptD c)] (.int .i64 (aF a b c)) []:=by
 have:=cI ha
 have:=cI hb
 have:=cI hc
 have h4:=jE ha hb hc
 refine start hC (nf:=N320) rfl rfl ?_
 have w1 : IntKind.wrap .i64 (b.1 - a.1)=b.1 - a.1:=ae rfl (by omega)
 have w2 : IntKind.wrap .i64 (c.2 - a.2)=c.2 - a.2:=ae rfl (by omega)
 have w3 : IntKind.wrap .i64 (b.2 - a.2)=b.2 - a.2:=ae rfl (by omega)
 have w4 : IntKind.wrap .i64 (c.1 - a.1)=c.1 - a.1:=ae rfl (by omega)
 have w5 : IntKind.wrap .i64 ((b.1 - a.1) * (c.2 - a.2))=(b.1 - a.1) * (c.2 - a.2):=ae rfl (by omega)
 have w6 : IntKind.wrap .i64 ((b.2 - a.2) * (c.1 - a.1))=(b.2 - a.2) * (c.1 - a.1):=ae rfl (by omega)
 have w7 : IntKind.wrap .i64 ((b.1 - a.1) * (c.2 - a.2) - (b.2 - a.2) * (c.1 - a.1))=aF a b c:=ae rfl (by rw [aF];omega)
 simp [N320,ptD,w1,w2,w3,w4,w5,w6,w7]
set_option maxHeartbeats 2000000 in
theorem uG (m : Msh) (hv : aC m=true) (i : Nat) (hi : i < m.f.length) (p : Pnt) (hp : okP p=true) : C 284 [.agg (aZ m),.int .i64 i,.agg (ptD p)] (.int .i64 (osF m i p)) []:=by
 obtain ⟨oa,ob,oc⟩:=me hv hi
 have k0:=lG hC m i hi (ev hv hi)
 have ka:=mX hC (spA m i)
 have kb:=mX hC (spB m i)
 have kc:=mX hC (spC m i)
 have t0 : C 320 [.agg (ptD (ptS (spA m i))),.agg (ptD (ptS (spB m i))),.agg (ptD p)] (.int .i64 (tn0 m i p)) []:=go hC oa ob hp
 have t1 : C 320 [.agg (ptD (ptS (spB m i))),.agg (ptD (ptS (spC m i))),.agg (ptD p)] (.int .i64 (tn1 m i p)) []:=go hC ob oc hp
 have t2 : C 320 [.agg (ptD (ptS (spC m i))),.agg (ptD (ptS (spA m i))),.agg (ptD p)] (.int .i64 (tn2 m i p)) []:=go hC oc oa hp
 have w1 : IntKind.wrap .i64 1=1:=by decide
 have w2 : IntKind.wrap .i64 2=2:=by decide
 have w3 : IntKind.wrap .i64 3=3:=by decide
 have m1 : Int.tmod 1 3=1:=by decide
 have m2 : Int.tmod 2 3=2:=by decide
 have m3 : Int.tmod 3 3=0:=by decide
 simp only [ab,bq,cx] at k0 ka kb kc
 refine start hC (nf:=N284) rfl rfl ?_
 simp [N284,ab]
 refine aa k0 (.inl rfl) ?_
 simp
 refine av Nat (fun k=>[(5,.ptr (ptD p)),(7,.adr (.r 10112) 0 0),(12,.int .i64 k),(10112,.blk 9 [r9 m i])]) (fun k=>k <= 3 /\ (1 <= k -> ¬ tn0 m i p < 0) /\ (2 <= k -> ¬ tn1 m i p < 0) /\ (3 <= k -> ¬ tn2 m i p < 0)) (fun k=>3 - k) 0 (by simp) (by simp [cx]) ?_
 rintro k ⟨hk,h0,h1,h2⟩
 rcases (by omega : k=0 \/ k=1 \/ k=2 \/ k=3) with rfl | rfl | rfl | rfl
 ·simp [cx,w1]
  refine aa ka (.inl rfl) ?_
  simp [w1,m1]
  refine aa kb (.inl rfl) ?_
  simp
  refine aa t0 (.inl rfl) ?_
  simp
  refine ⟨ai (by decide +kernel),?_⟩
  refine al (fun c=>?_) (fun c=>?_) <;> simp at c
  ·simp [c,osF]
  ·simp [c]
   exact ⟨1,by omega,by omega,by simp [cx,w1]⟩
 ·have h0:=h0 (by omega)
  simp [cx,w2]
  refine aa kb (.inl rfl) ?_
  simp [w2,m2]
  refine aa kc (.inl rfl) ?_
  simp
  refine aa t1 (.inl rfl) ?_
  simp
  refine ⟨ai (by decide +kernel),?_⟩
  refine al (fun c=>?_) (fun c=>?_) <;> simp at c
  ·simp [c,osF,h0]
  ·simp [c]
   exact ⟨2,by omega,by omega,by simp [cx,w2]⟩
 ·have h0:=h0 (by omega)
  have h1:=h1 (by omega)
  simp [cx,w3]
  refine aa kc (.inl rfl) ?_
  simp [w3,m3]
  refine aa ka (.inl rfl) ?_
  simp
  refine aa t2 (.inl rfl) ?_
  simp
  refine ⟨ai (by decide +kernel),?_⟩
  refine al (fun c=>?_) (fun c=>?_) <;> simp at c
  ·simp [c,osF,h0,h1]
  ·simp [c]
   exact ⟨3,by omega,by omega,by simp [cx,w3]⟩
 ·have h0:=h0 (by omega)
  have h1:=h1 (by omega)
  have h2:=h2 (by omega)
  simp [osF,h0,h1,h2]
set_option maxHeartbeats 2000000 in
theorem xq (m : Msh) (hv : aC m=true) (hm : m.f.length <= 100) (p : Pnt) (hp : okP p=true) : C 276 [.agg (aZ m),.agg (ptD p)] (.int .i64 (cu m p)) []:=by
 have ko:=fun i hi=>uG hC m hv i hi p hp
 simp only [ab] at ko
 refine start hC (nf:=N276) rfl rfl ?_
 simp [N276,ab]
 refine av Nat (fun i=>[(2,.ptr (aZ m)),(3,.ptr (ptD p)),(8,.int .i64 m.f.length),(9,.int .i64 i)]) (fun i=>i <= m.f.length /\ ∀ j,j < i -> ¬ osF m j p < 0) (fun i=>m.f.length - i) 0 (by simp) (by simp [ab]) ?_
 rintro i ⟨hi,hj⟩
 simp [ab]
 refine al (fun g1=>?_) (fun g1=>?_) <;> simp at g1 <;> simp [g1]
 ·have hw : IntKind.wrap .i64 ((i : Int) + 1)=((i + 1 : Nat) : Int):=ae (by omega) (by omega)
  refine aa (ko i g1) (.inl rfl) ?_
  simp
  refine al (fun c=>?_) (fun c=>?_) <;> simp at c
  ·simp [c]
   refine (iv (fun j hl hji=>?_) (by simpa using g1) ?_).symm
   ·have:=hj j hji
    simpa using this
   ·simpa using c
  ·simp [c]
   refine ⟨i + 1,⟨by omega,fun j hji=>?_⟩,by omega,by simp [ab,hw]⟩
   rcases Nat.lt_succ_iff_lt_or_eq.1 hji with h | rfl
   ·exact Int.not_lt.1 (hj j h)
   ·exact c
 ·refine (iu (fun j hl=>?_)).symm
  rw [List.length_range] at hl
  have:=hj j (by omega)
  simpa using this
theorem uA {b : Bool} {xs : List Pnt} {g : Nat} {cs : List D} (p : Pnt -> Bool) (hs : xs.length < 2 ^ 62) (hp : ∀ x ∈ xs,C g (.agg (ptD x)::cs) (.bool (p x)) []) : C 278 [slx b (xs.map fun x=>ptD x),.fn g cs] (.int .i64 (jo p xs)) []:=by
 refine start hC (nf:=N278) rfl rfl ?_
 simp [N278]
 refine av Nat (fun i=>[(0,slx b (xs.map fun x=>ptD x)),(1,.fn g cs),(7,.int .i64 xs.length),(8,.int .i64 i)]) (fun i=>i <= xs.length /\ ∀ (j : Nat) (h : j < xs.length),j < i -> p xs[j]=false) (fun i=>xs.length - i) 0 (by simp) (by simp) ?_
 rintro i ⟨hi,hj⟩
 simp
 refine al (fun h=>?_) (fun h=>?_) <;> simp [h] <;> simp at h
 ·have hw : IntKind.wrap .i64 ((i : Int) + 1)=((i + 1 : Nat) : Int):=ae (by omega) (by omega)
  have hc:=hp _ (List.getElem_mem h)
  simp [h,ptD] at hc ⊢
  refine aa hc (.inl rfl) ?_
  simp
  refine al (fun h1=>?_) (fun h1=>?_) <;> simp [h1,hw]
  ·rw [iv hj h h1]
  ·refine ⟨i + 1,⟨by omega,fun j hl hjj=>?_⟩,by omega,rfl⟩
   rcases Nat.lt_succ_iff_lt_or_eq.1 hjj with h2 | rfl
   ·exact hj j hl h2
   ·exact h1
 ·rw [iu (fun j hl=>hj j hl (by omega))]
theorem oK {b : Bool} {xs : List Pnt} {g : Nat} {cs : List D} (p : Pnt -> Bool) (hs : xs.length < 2 ^ 62) (hp : ∀ x ∈ xs,C g (.agg (ptD x)::cs) (.bool (p x)) []) : C 239 [slx b (xs.map fun x=>ptD x),.fn g cs] (.bool (xs.any p)) []:=by
 refine start hC (nf:=N239) rfl rfl ?_
 simp [N239]
 refine aa (uA hC p hs hp) (.inl rfl) ?_
 simp [lF]
theorem sy (p : Pnt) : C 312 [.agg (ptD p)] (.bool (!okP p)) []:=by
 have k:=fp hC p
 simp only [ptD] at k
 refine start hC (nf:=N312) rfl rfl ?_
 simp [N312,ptD]
 refine aa k (.inl rfl) ?_
 simp
end Go.Gv

namespace Go.Gv
def onE (m : Msh) (p : Pnt) : Int:=if aC m=true /\ okP p=true then (if cu m p < 0 then 12 else 0) else 1
def onV (m : Msh) (p : Pnt) : Int:=if onE m p=0 then cu m p else 0
theorem i8 {m : Msh} {p : Pnt} (h : onE m p=0) : aC m=true /\ okP p=true /\ 0 <= cu m p:=by
 unfold onE at h
 split at h
 ·rename_i h1
  refine ⟨h1.1,h1.2,?_⟩
  split at h
  ·omega
  ·omega
 ·omega
def wlk (m : Msh) (p : Pnt) : Nat -> Nat -> Int × Int × Int
 | r,f=>if osF m f p < 0 then ((f : Int),((m.f.length - r : Nat) : Int),0) else if nbF m f (osF m f p).toNat < 0 then (0,0,12) else match r with
  | 0=>(0,0,6)
  | r + 1=>wlk m p r (nbF m f (osF m f p).toNat).toNat
def wkR (m : Msh) (from_ : Int) (p : Pnt) : Int × Int × Int:=if aC m=true /\ okP p=true then (if fO m.f.length from_=true then wlk m p m.f.length from_.toNat else (0,0,2)) else (0,0,1)
def QE (t : Int × Int × Int) : D:=.tup [.int .i64 t.1,.int .i64 t.2.1,.int .i64 t.2.2]
variable {C : CC} (hC : aw prog C)
include hC
theorem uL (dec : Nat -> List UInt8) (hI : ∀ n : Nat,n < 100 -> C 127 [.int .i64 n] (.str (dec n)) []) (m : Msh) (hz : bL m=true -> m.s.length <= 100 /\ m.f.length <= 100) (b : Bool) (ps : List Pnt) (hp : ps.length < 2 ^ 62) :
  C 275 [.agg (aZ m),slx b (ps.map fun x=>ptD x)] (.bool (aC m && ps.all okP)) []:=by
 have k1:=lJ hC dec hI m hz
 have k2:=oK hC (b:=b) (xs:=ps) (g:=312) (cs:=[]) (fun x=>!okP x) hp (fun x _=>sy hC x)
 have e : (ps.any fun x=>!okP x)=!ps.all okP:=by rw [List.all_eq_not_any_not,Bool.not_not]
 rw [e] at k2
 refine start hC (nf:=N275) rfl rfl ?_
 simp only [ab] at k1
 simp [N275,ab]
 refine aa k1 (.inl rfl) ?_
 cases aC m
 ·simp
 ·simp
  refine aa k2 (.inl rfl) ?_
  simp
theorem IZ (dec : Nat -> List UInt8) (hI : ∀ n : Nat,n < 100 -> C 127 [.int .i64 n] (.str (dec n)) []) (m : Msh) (hz : bL m=true -> m.s.length <= 100 /\ m.f.length <= 100) (p : Pnt) :
  C 274 [.agg (aZ m),.agg (ptD p)] (.tup [.int .i64 (onV m p),.int .i64 (onE m p)]) []:=by
 have k1:=uL hC dec hI m hz false [p] (by simp)
 simp at k1
 refine start hC (nf:=N274) rfl rfl ?_
 simp only [ab] at k1
 simp only [ptD] at k1
 simp [N274,ab,ptD]
 refine aa k1 (.inl rfl) ?_
 by_cases hv : aC m=true /\ okP p=true
 ·have hm:=(hz (by have:=hv.1;simp only [aC,Bool.and_eq_true] at this;exact this.1)).2
  have k2:=xq hC m hv.1 hm p hv.2
  simp only [ab,ptD] at k2
  simp [hv.1,hv.2]
  refine aa k2 (.inl rfl) ?_
  simp
  refine al (fun c=>?_) (fun c=>?_) <;> simp at c <;> simp [c,onE,onV,hv.1,hv.2]
 ·have e : (aC m && okP p)=false:=by
   cases h1 : aC m <;> cases h2 : okP p <;> simp [h1,h2] at hv ⊢
  simp [e,onE,onV,hv]
end Go.Gv

namespace Go.Gv
open Go.Lib
def eq (m : Msh) (i : Nat) (p : Pnt) : Int:=(spA m i).z * tn1 m i p + (spB m i).z * tn2 m i p + (spC m i).z * tn0 m i p
def db (m : Msh) (i : Nat) : Int:=aF (ptS (spA m i)) (ptS (spB m i)) (ptS (spC m i))
theorem qK (m : Msh) (i : Nat) (p : Pnt) : tn0 m i p + tn1 m i p + tn2 m i p=db m i:=by
 unfold tn0 tn1 tn2 db aF ptS
 grind
theorem yD (m : Msh) (i : Nat) (p : Pnt) : aF p (ptS (spB m i)) (ptS (spC m i))=tn1 m i p:=by
 unfold tn1 aF;grind
theorem yE (m : Msh) (i : Nat) (p : Pnt) : aF p (ptS (spC m i)) (ptS (spA m i))=tn2 m i p:=by
 unfold tn2 aF;grind
theorem yC (m : Msh) (i : Nat) (p : Pnt) : aF p (ptS (spA m i)) (ptS (spB m i))=tn0 m i p:=by
 unfold tn0 aF;grind
theorem ga {a b c : Pnt} (ha : okP a=true) (hb : okP b=true) (hc : okP c=true) : -2251799813685248 <= aF a b c /\ aF a b c <= 2251799813685248:=by
 have:=jE ha hb hc
 unfold aF
 omega
structure OnF (m : Msh) (i : Nat) (p : Pnt) : Prop where
 z0 : -4194304 <= (spA m i).z /\ (spA m i).z <= 4194304
 z1 : -4194304 <= (spB m i).z /\ (spB m i).z <= 4194304
 z2 : -4194304 <= (spC m i).z /\ (spC m i).z <= 4194304
 t0 : 0 <= tn0 m i p /\ tn0 m i p <= 2251799813685248
 t1 : 0 <= tn1 m i p /\ tn1 m i p <= 2251799813685248
 t2 : 0 <= tn2 m i p /\ tn2 m i p <= 2251799813685248
 d : 0 < db m i /\ db m i <= 2251799813685248
theorem jZ {m : Msh} (hv : aC m=true) {i : Nat} (hi : i < m.f.length) {p : Pnt} (hp : okP p=true) (h : osF m i p < 0) : OnF m i p:=by
 obtain ⟨oa,ob,oc⟩:=me hv hi
 obtain ⟨r1,r2,r3⟩:=Ai hv hi
 have:=iF r1
 have:=iF r2
 have:=iF r3
 obtain ⟨n0,n1,n2⟩:=B2 h
 have b0 : tn0 m i p <= 2251799813685248:=(ga oa ob hp).2
 have b1 : tn1 m i p <= 2251799813685248:=(ga ob oc hp).2
 have b2 : tn2 m i p <= 2251799813685248:=(ga oc oa hp).2
 have bd : db m i <= 2251799813685248:=(ga oa ob oc).2
 have hd : 0 < db m i:=(lh hv hi).2
 exact ⟨by omega,by omega,by omega,by omega,by omega,by omega,by omega⟩
theorem ix {z t : Int} (hz : -4194304 <= z /\ z <= 4194304) (ht : 0 <= t) : -(4194304 * t) <= z * t /\ z * t <= 4194304 * t:=by
 have h1:=Int.mul_nonneg (show 0 <= 4194304 - z by omega) ht
 have h2:=Int.mul_nonneg (show 0 <= 4194304 + z by omega) ht
 rw [Int.sub_mul] at h1
 rw [Int.add_mul] at h2
 omega
theorem OnF.num {m : Msh} {i : Nat} {p : Pnt} (h : OnF m i p) : -(4194304 * db m i) <= eq m i p /\ eq m i p <= 4194304 * db m i:=by
 have e:=qK m i p
 have h1:=ix h.z0 h.t1.1
 have h2:=ix h.z1 h.t2.1
 have h3:=ix h.z2 h.t0.1
 unfold eq
 rw [<- e]
 omega
theorem tS {n d k : Int} (hd : 0 < d) (h : -(k * d) <= n /\ n <= k * d) : -k <= n / d /\ n / d <= k:=by
 constructor
 ·exact (Int.le_ediv_iff_mul_le hd).2 (by rw [Int.neg_mul];exact h.1)
 ·exact Int.le_of_lt_add_one ((Int.ediv_lt_iff_lt_mul hd).2 (by rw [Int.add_mul];omega))
def loF (m : Msh) (i : Nat) (p : Pnt) : Int:=eq m i p / db m i
def hiF (m : Msh) (i : Nat) (p : Pnt) : Int:=-(-eq m i p / db m i)
theorem OnF.lo {m : Msh} {i : Nat} {p : Pnt} (h : OnF m i p) : -4194304 <= loF m i p /\ loF m i p <= 4194304:=tS h.d.1 h.num
theorem OnF.hi {m : Msh} {i : Nat} {p : Pnt} (h : OnF m i p) : -4194304 <= hiF m i p /\ hiF m i p <= 4194304:=by
 have:=tS (n:=-eq m i p) (k:=4194304) h.d.1 (by have:=h.num;omega)
 unfold hiF
 omega
variable {C : CC} (hC : aw prog C)
include hC
theorem iU (z t : Int) (hz : -4194304 <= z /\ z <= 4194304) (ht : 0 <= t /\ t <= 2251799813685248) : C 99 [.int .i64 z,.int .i64 t] (.tup [wiS (z * t),.int .i64 0]) []:=by
 obtain ⟨n,rfl⟩ : ∃ n : Nat,t=n:=⟨t.toNat,by omega⟩
 have h3 : z.natAbs * n <= 4194304 * 2251799813685248:=Nat.mul_le_mul (by omega) (by omega)
 exact pK hC z n (by omega) (by omega) (by omega)
set_option maxHeartbeats 4000000 in
theorem uD (m : Msh) (hv : aC m=true) (i : Nat) (hi : i < m.f.length) (p : Pnt) (hp : okP p=true) (h : osF m i p < 0) :
  C 300 [.agg (aZ m),.int .i64 i,.agg (ptD p)] (.tup [wiS (eq m i p),.int .i64 (db m i),.int .i64 0]) []:=by
 have H:=jZ hv hi hp h
 obtain ⟨oa,ob,oc⟩:=me hv hi
 have k0:=lG hC m i hi (ev hv hi)
 have ka:=mX hC (spA m i)
 have kb:=mX hC (spB m i)
 have kc:=mX hC (spC m i)
 have t1:=go hC hp ob oc
 have t2:=go hC hp oc oa
 have t0:=go hC hp oa ob
 have td : C 320 _ (.int .i64 (db m i)) []:=go hC oa ob oc
 rw [yD] at t1
 rw [yE] at t2
 rw [yC] at t0
 have x1:=iU hC _ _ H.z0 H.t1
 have x2:=iU hC _ _ H.z1 H.t2
 have x0:=iU hC _ _ H.z2 H.t0
 have b1:=ix H.z0 H.t1.1
 have b2:=ix H.z1 H.t2.1
 have b0:=ix H.z2 H.t0.1
 have c0:=H.t0
 have c1:=H.t1
 have c2:=H.t2
 have en : eq m i p=(spA m i).z * tn1 m i p + (spB m i).z * tn2 m i p + (spC m i).z * tn0 m i p:=rfl
 obtain ⟨u1,hu1⟩ : ∃ u,u=(spA m i).z * tn1 m i p:=⟨_,rfl⟩
 obtain ⟨u2,hu2⟩ : ∃ u,u=(spB m i).z * tn2 m i p:=⟨_,rfl⟩
 obtain ⟨u0,hu0⟩ : ∃ u,u=(spC m i).z * tn0 m i p:=⟨_,rfl⟩
 rw [<- hu1] at x1 b1 en
 rw [<- hu2] at x2 b2 en
 rw [<- hu0] at x0 b0 en
 have y1:=pJ hC 0 u1 (by omega) (by omega)
 have y2:=pJ hC u1 u2 (by omega) (by omega)
 have y3:=pJ hC (u1 + u2) u0 (by omega) (by omega)
 rw [Int.zero_add] at y1
 rw [<- en] at y3
 have ez : wiS 0=.agg [.int .i64 0,.int .i64 0]:=by simp [wiS]
 obtain ⟨p1,q1,_,_,e1⟩:=b8 u1
 obtain ⟨p2,q2,_,_,e2⟩:=b8 u2
 obtain ⟨p3,q3,_,_,e3⟩:=b8 u0
 obtain ⟨p4,q4,_,_,e4⟩:=b8 (u1 + u2)
 obtain ⟨p5,q5,_,_,e5⟩:=b8 (eq m i p)
 rw [e1] at x1
 rw [e2] at x2
 rw [e3] at x0
 rw [ez,e1] at y1
 rw [e1,e2,e4] at y2
 rw [e4,e3,e5] at y3
 rw [e5]
 have w0 : IntKind.wrap .i64 0=0:=by decide
 have w1 : IntKind.wrap .i64 1=1:=by decide
 have w2 : IntKind.wrap .i64 2=2:=by decide
 have w3 : IntKind.wrap .i64 3=3:=by decide
 have w4 : IntKind.wrap .i64 4=4:=by decide
 have m1 : Int.tmod 1 3=1:=by decide
 have m2 : Int.tmod 2 3=2:=by decide
 have m3 : Int.tmod 3 3=0:=by decide
 have m4 : Int.tmod 4 3=1:=by decide
 clear e1 e2 e3 e4 e5 en hu0 hu1 hu2 b0 b1 b2 c0 c1 c2 H
 simp only [ab,bq,cx] at k0 ka kb kc
 refine start hC (nf:=N300) rfl rfl ?_
 simp [N300,ab]
 refine aa k0 (.inl rfl) ?_
 simp
 refine av Nat (fun k=>[(5,.ptr (ptD p)),(6,.adr (.r 10096) 0 0),(9,.adr (.r 10144) 0 0),(17,.agg (r9 m i)),(18,.int .i64 k),(10144,.blk 9 [r9 m i]),
  (10096,.blk 2 [if k=0 then [.int .i64 0,.int .i64 0] else if k=1 then [.int .i64 p1,.int .i64 q1] else if k=2 then [.int .i64 p4,.int .i64 q4] else [.int .i64 p5,.int .i64 q5]])]) (fun k=>k <= 3) (fun k=>3 - k) 0 (by simp) (by simp [cx]) ?_
 rintro k hk
 rcases (by omega : k=0 \/ k=1 \/ k=2 \/ k=3) with rfl | rfl | rfl | rfl
 ·simp [cx,w1,m1]
  refine aa kb (.inl rfl) ?_
  simp [w2,m2]
  refine aa kc (.inl rfl) ?_
  simp
  refine aa t1 (.inl rfl) ?_
  simp
  refine aa x1 (.inr rfl) ?_
  simp
  refine ⟨ai (by decide +kernel),?_⟩
  refine aa y1 (.inr rfl) ?_
  simp
  exact ⟨1,by omega,by omega,by simp [cx,w1]⟩
 ·simp [cx,w2,m2]
  refine aa kc (.inl rfl) ?_
  simp [w3,m3]
  refine aa ka (.inl rfl) ?_
  simp
  refine aa t2 (.inl rfl) ?_
  simp
  refine aa x2 (.inr rfl) ?_
  simp
  refine ⟨ai (by decide +kernel),?_⟩
  refine aa y2 (.inr rfl) ?_
  simp
  exact ⟨2,by omega,by omega,by simp [cx,w2]⟩
 ·simp [cx,w3,m3]
  refine aa ka (.inl rfl) ?_
  simp [w4,m4]
  refine aa kb (.inl rfl) ?_
  simp
  refine aa t0 (.inl rfl) ?_
  simp
  refine aa x0 (.inr rfl) ?_
  simp
  refine ⟨ai (by decide +kernel),?_⟩
  refine aa y3 (.inr rfl) ?_
  simp
  exact ⟨3,by omega,by omega,by simp [cx,w3]⟩
 ·simp [cx]
  refine aa ka (.inl rfl) ?_
  simp
  refine aa kb (.inl rfl) ?_
  simp
  refine aa kc (.inl rfl) ?_
  simp
  refine aa td (.inl rfl) ?_
  simp
  exact ai (by decide +kernel)
theorem oI (v : Int) (d : Nat) (up : Bool) (hd0 : 0 < d) (hd : d <= 2251799813685248) (hv : v.natAbs <= 4194304 * d) : C 301 [wiS v,.int .i64 d,.bool up] (.tup [.int .i64 (if up then -(-v / d) else v / d),.int .i64 0]) []:=by
 have k1:=j9 hC v (by omega)
 have k2:=mo hC v (by omega)
 obtain ⟨Q,hQ⟩ : ∃ Q,Q=(if up then -(-v / (d : Int)) else v / (d : Int)):=⟨_,rfl⟩
 have hdiv : v.natAbs / d <= 4194304:=Nat.div_le_of_le_mul (by rw [Nat.mul_comm];exact hv)
 have k3 : C 104 [fY v,.int .i64 d,.bool up] (.tup [.int .i64 Q,.int .i64 0]) []:=by
  by_cases v0 : v < 0
  ·obtain ⟨n,rfl⟩ : ∃ n : Nat,v=-(n : Int):=⟨v.natAbs,by omega⟩
   rw [Int.natAbs_neg,Int.natAbs_natCast] at hv hdiv
   have k:=pg hC n d up (if up then n / d else if n % d=0 then n / d else n / d + 1) (by omega) (by omega) (by omega) (by split;omega;split <;> omega) rfl (by omega)
   have e1 : fY (-(n : Int))=eJ n true:=fE (by omega) (decide_eq_true v0)
   have e2 : Q=-((if up then n / d else if n % d=0 then n / d else n / d + 1 : Nat) : Int):=by
    rw [hQ]
    cases up
    ·simp only [Bool.false_eq_true,if_false]
     exact kH n d hd0
    ·simp
   rw [e1,e2]
   exact k
  ·obtain ⟨n,rfl⟩ : ∃ n : Nat,v=(n : Int):=⟨v.natAbs,by omega⟩
   rw [Int.natAbs_natCast] at hv hdiv
   have hle : (n + d - 1) / d <= n / d + 1:=by
    have : (n + d - 1) / d <= (n + d) / d:=Nat.div_le_div_right (by omega)
    rw [Nat.add_div_right _ hd0] at this
    exact this
   have k:=qw hC n d up (if up then (n + d - 1) / d else n / d) (by omega) (by omega) (by split <;> omega) rfl (by omega)
   have e1 : fY (n : Int)=eJ n false:=fE (by omega) (decide_eq_false v0)
   have e2 : Q=((if up then (n + d - 1) / d else n / d : Nat) : Int):=by
    rw [hQ]
    cases up
    ·simp
    ·simp only [if_true]
     rw [kH n d hd0,Int.neg_neg]
     congr 1
     have h1:=Nat.div_add_mod n d
     have h2:=Nat.mod_lt n hd0
     split
     ·rename_i h
      have : n + d - 1=d * (n / d) + (d - 1):=by omega
      rw [this,Nat.mul_add_div hd0,Nat.div_eq_of_lt (show d - 1 < d by omega)]
      rfl
     ·rename_i h
      have : n + d - 1=d * (n / d) + (d + (n % d - 1)):=by omega
      rw [this,Nat.mul_add_div hd0,Nat.add_div_left _ hd0,Nat.div_eq_of_lt (show n % d - 1 < d by omega)]
   rw [e1,e2]
   exact k
 rw [<- hQ]
 obtain ⟨a1,a2,_,_,ea⟩:=b8 v
 obtain ⟨f1,f2,f3,ef⟩ : ∃ (a1 a2 : Nat) (a3 : Bool),fY v=.agg [.int .u64 a1,.int .u64 a2,.bool a3]:=⟨_,_,_,rfl⟩
 rw [ea] at k1 k2 ⊢
 rw [ef] at k2 k3
 have h1 : ¬ d=0:=by omega
 clear hQ ea ef
 refine start hC (nf:=N301) rfl rfl ?_
 simp [N301]
 refine aa k1 (.inl rfl) ?_
 simp [h1]
 refine aa k2 (.inl rfl) ?_
 simp
 refine aa k3 (.inr rfl) ?_
 simp
theorem wg (v : Int) (d : Nat) (hd0 : 0 < d) (hd : d <= 2251799813685248) (hv : v.natAbs <= 4194304 * d) : C 271 [wiS v,.int .i64 d] (.tup [.int .i64 (v / d),.int .i64 0]) []:=by
 have k:=oI hC v d false hd0 hd hv
 simp at k
 obtain ⟨Q,hQ⟩ : ∃ Q,Q=v / (d : Int):=⟨_,rfl⟩
 rw [<- hQ] at k ⊢
 obtain ⟨a1,a2,_,_,ea⟩:=b8 v
 rw [ea] at k ⊢
 refine start hC (nf:=N271) rfl rfl ?_
 simp [N271]
 refine aa k (.inl rfl) ?_
 simp
theorem Ao (v : Int) (d : Nat) (hd0 : 0 < d) (hd : d <= 2251799813685248) (hv : v.natAbs <= 4194304 * d) : C 272 [wiS v,.int .i64 d] (.tup [.int .i64 (-(-v / d)),.int .i64 0]) []:=by
 have k:=oI hC v d true hd0 hd hv
 simp only [if_true] at k
 obtain ⟨Q,hQ⟩ : ∃ Q,Q=-(-v / (d : Int)):=⟨_,rfl⟩
 rw [<- hQ] at k ⊢
 obtain ⟨a1,a2,_,_,ea⟩:=b8 v
 rw [ea] at k ⊢
 refine start hC (nf:=N272) rfl rfl ?_
 simp [N272]
 refine aa k (.inl rfl) ?_
 simp
def wz : D:=.agg [.int .i64 0,.int .i64 0]
theorem uC (dec : Nat -> List UInt8) (hI : ∀ n : Nat,n < 100 -> C 127 [.int .i64 n] (.str (dec n)) []) (m : Msh) (hz : bL m=true -> m.s.length <= 100 /\ m.f.length <= 100) (p : Pnt) :
  C 269 [.agg (aZ m),.agg (ptD p)] (if onE m p=0 then .tup [wiS (eq m (cu m p).toNat p),.int .i64 (db m (cu m p).toNat),.int .i64 0] else .tup [wz,.int .i64 0,.int .i64 (onE m p)]) []:=by
 have k1:=IZ hC dec hI m hz p
 by_cases h0 : onE m p=0
 ·obtain ⟨hv,hp,hf⟩:=i8 h0
  obtain ⟨hi,ho⟩:=gl hf
  have k2:=uD hC m hv _ hi p hp ho
  rw [if_pos h0]
  have e : onV m p=cu m p:=by rw [onV,if_pos h0]
  rw [h0,e] at k1
  rw [show (((cu m p).toNat : Nat) : Int)=cu m p by omega] at k2
  obtain ⟨a1,a2,_,_,ea⟩:=b8 (eq m (cu m p).toNat p)
  rw [ea] at k2 ⊢
  simp only [ab,ptD] at k1 k2
  refine start hC (nf:=N269) rfl rfl ?_
  simp [N269,ab,ptD]
  refine aa k1 (.inl rfl) ?_
  simp
  refine aa k2 (.inr rfl) ?_
  simp
 ·rw [if_neg h0]
  simp only [ab,ptD] at k1
  refine start hC (nf:=N269) rfl rfl ?_
  simp [N269,ab,ptD]
  refine aa k1 (.inl rfl) ?_
  simp [h0,wz]
theorem oP (dec : Nat -> List UInt8) (hI : ∀ n : Nat,n < 100 -> C 127 [.int .i64 n] (.str (dec n)) []) (m : Msh) (hz : bL m=true -> m.s.length <= 100 /\ m.f.length <= 100) (p : Pnt) :
  C 233 [.agg (aZ m),.agg (ptD p)] (if onE m p=0 then .tup [.agg [.int .i64 (loF m (cu m p).toNat p),.int .i64 (hiF m (cu m p).toNat p)],.int .i64 0] else .tup [wz,.int .i64 (onE m p)]) []:=by
 have k1:=uC hC dec hI m hz p
 by_cases h0 : onE m p=0
 ·obtain ⟨hv,hp,hf⟩:=i8 h0
  obtain ⟨hi,ho⟩:=gl hf
  have H:=jZ hv hi hp ho
  obtain ⟨i,hi2⟩ : ∃ i,i=(cu m p).toNat:=⟨_,rfl⟩
  rw [if_pos h0] at k1 ⊢
  rw [<- hi2] at k1 H ⊢
  obtain ⟨d,hd⟩ : ∃ d : Nat,db m i=d:=⟨(db m i).toNat,by have:=H.d;omega⟩
  have b1:=H.num
  have b2:=H.d
  rw [hd] at b1 b2
  have k2:=wg hC (eq m i p) d (by omega) (by omega) (by omega)
  have k3:=Ao hC (eq m i p) d (by omega) (by omega) (by omega)
  rw [show eq m i p / (d : Int)=loF m i p by rw [loF,hd]] at k2
  rw [show -(-eq m i p / (d : Int))=hiF m i p by rw [hiF,hd]] at k3
  rw [hd] at k1
  obtain ⟨a1,a2,_,_,ea⟩:=b8 (eq m i p)
  rw [ea] at k1 k2 k3
  simp only [ab,ptD] at k1
  clear b1 b2 H
  refine start hC (nf:=N233) rfl rfl ?_
  simp [N233,ab,ptD]
  refine aa k1 (.inr rfl) ?_
  simp
  refine aa k2 (.inl rfl) ?_
  simp
  refine aa k3 (.inl rfl) ?_
  simp
 ·rw [if_neg h0] at k1 ⊢
  simp only [ab,ptD,wz] at k1
  refine start hC (nf:=N233) rfl rfl ?_
  simp [N233,ab,ptD]
  refine aa k1 (.inr rfl) ?_
  simp [h0,wz]
end Go.Gv

namespace Go.Gv
def P5 (m : Msh) (a b : Int) : Int:=if rG m a b < 0 then 0 else jo (fun j=>decide (crn (fce m (rG m a b).toNat) j=a) && decide (crn (fce m (rG m a b).toNat) (j + 1)=b)) (List.range 3)
def acK (m : Msh) (i k : Nat) : Int:=P5 m (crn (fce m i) (k + 1)) (crn (fce m i) k)
def nbT (m : Msh) (i : Nat) : List (List D):=(List.range i).map fun j=>[.int .i64 (nbF m j 0),.int .i64 (nbF m j 1),.int .i64 (nbF m j 2)]
@[simp] theorem NX (m : Msh) (i : Nat) : (nbT m i).length=i:=by simp [nbT]
@[simp] theorem I7 (m : Msh) (i : Nat) : List.take i (nbT m i)=nbT m i:=List.take_of_length_le (by simp)
@[simp] theorem PT (m : Msh) (i : Nat) : List.map (fun e=>List.map aR e) (nbT m i)=nbT m i:=by simp [nbT]
variable {C : CC} (hC : aw prog C)
include hC
end Go.Gv

namespace Go.Gv
open Go.Lib
def tr3 (m : Msh) (i : Nat) : List (List D):=[ptD (ptS (spA m i)),ptD (ptS (spB m i)),ptD (ptS (spC m i))]
theorem sD (m : Msh) (i : Nat) (p : Pnt) : (osF m i p=0 /\ tn0 m i p < 0) \/ (osF m i p=1 /\ ¬ tn0 m i p < 0 /\ tn1 m i p < 0) \/ (osF m i p=2 /\ ¬ tn0 m i p < 0 /\ ¬ tn1 m i p < 0 /\ tn2 m i p < 0) \/ (osF m i p=-1 /\ ¬ tn0 m i p < 0 /\ ¬ tn1 m i p < 0 /\ ¬ tn2 m i p < 0):=by
 unfold osF
 split
 ·exact .inl ⟨rfl,‹_›⟩
 ·split
  ·exact .inr (.inl ⟨rfl,‹_›,‹_›⟩)
  ·split
   ·exact .inr (.inr (.inl ⟨rfl,‹_›,‹_›,‹_›⟩))
   ·exact .inr (.inr (.inr ⟨rfl,‹_›,‹_›,‹_›⟩))
def sdF (m : Msh) (i : Nat) (p : Pnt) (k : Nat) : Int:=if 0 <= osF m i p /\ osF m i p < k then osF m i p else -1
variable {C : CC} (hC : aw prog C)
include hC
theorem ng (p : Pnt) : C 237 [.agg (ptD p)] (.bool (okP p)) []:=by
 refine start hC (nf:=N237) rfl rfl ?_
 simp [N237,ptD,okP]
 repeat' (refine al (fun h=>?_) (fun h=>?_) <;> simp at h <;> simp [h] <;> try omega)
def Qt (m : Msh) : Bool:=decide ((m.s.length : Int) <= 60) && decide ((m.f.length : Int) <= 60)
end Go.Gv

namespace Go.Gv
open Go.Lib
def exL : Msh:=⟨false,[⟨0,0,100⟩,⟨1000,0,200⟩,⟨0,1000,400⟩],false,[⟨0,1,2,0⟩]⟩
variable {C : CC} (hC : aw prog C)
include hC
end Go.Gv

namespace Go.Gv
variable {C : CC} (hC : aw prog C)
include hC
end Go.Gv
