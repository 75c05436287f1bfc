/-
  Texts of the proof: J2, K4, K5, K6, K7, K8, M0, W1, W2, W3, H8, I1, V1, M3, M4, P3, Z1, Z2, V2, Z3, H2, H3, H4, H5, H6, GvX2, H10, H7.
-/
import Derived.Test.YteaonmajblajnaaGreatDoorX6
import Derived.Lib.Mul64
import Derived.Laws.Bits64b
import Derived.Laws.MathBits
set_option linter.all false
namespace Go.Gv
def Frq : Type:={ q : Int × Int // 0 < q.2 /\ q.2 <= 1073741824 /\ -1073741824 <= q.1 /\ q.1 <= 1073741824 /\ Nat.gcd q.1.natAbs q.2.natAbs=1 }
instance : DecidableEq Frq:=fun a b=>decidable_of_iff (a.1=b.1) Subtype.ext_iff.symm
def fqC (x y : Frq) : Int:=if x.1.1 * y.1.2 < y.1.1 * x.1.2 then -1 else if y.1.1 * x.1.2 < x.1.1 * y.1.2 then 1 else 0
theorem It {a b c d : Int} (hb : 0 < b) (hd : 0 < d) (h1 : Nat.gcd a.natAbs b.natAbs=1) (h2 : Nat.gcd c.natAbs d.natAbs=1) (e : a * d=c * b) : a=c /\ b=d:=by
 have e1 : a.natAbs * d.natAbs=c.natAbs * b.natAbs:=by rw [<- Int.natAbs_mul,<- Int.natAbs_mul,e]
 have d1 : b.natAbs ∣ d.natAbs:=(Nat.Coprime.symm h1 : Nat.Coprime b.natAbs a.natAbs).dvd_of_dvd_mul_left (by rw [e1];exact Nat.dvd_mul_left _ _)
 have d2 : d.natAbs ∣ b.natAbs:=(Nat.Coprime.symm h2 : Nat.Coprime d.natAbs c.natAbs).dvd_of_dvd_mul_left (by rw [<- e1];exact Nat.dvd_mul_left _ _)
 have e3 : b=d:=by have:=Nat.dvd_antisymm d1 d2;omega
 subst e3
 exact ⟨Int.eq_of_mul_eq_mul_right (by omega) e,rfl⟩
theorem dA : TC fqC where
 eq0 x y h:=by
  unfold fqC at h
  split at h
  ·omega
  ·split at h
   ·omega
   ·obtain ⟨e1,e2⟩:=It x.2.1 y.2.1 x.2.2.2.2.2 y.2.2.2.2.2 (by omega)
    exact Subtype.ext (Prod.ext e1 e2)
 anti x y:=by
  unfold fqC
  by_cases h1 : x.1.1 * y.1.2 < y.1.1 * x.1.2
  ·have h2 : ¬ y.1.1 * x.1.2 < x.1.1 * y.1.2:=by omega
   rw [if_neg h2,if_pos h1,if_pos h1];rfl
  ·by_cases h2 : y.1.1 * x.1.2 < x.1.1 * y.1.2
   ·rw [if_pos h2,if_neg h1,if_pos h2]
   ·rw [if_neg h2,if_neg h1,if_neg h1,if_neg h2];rfl
 trans x y z h1 h2:=by
  have a1 : x.1.1 * y.1.2 < y.1.1 * x.1.2:=by unfold fqC at h1;split at h1 <;> first | assumption | (split at h1 <;> omega)
  have a2 : y.1.1 * z.1.2 < z.1.1 * y.1.2:=by unfold fqC at h2;split at h2 <;> first | assumption | (split at h2 <;> omega)
  have px:=x.2.1
  have py:=y.2.1
  have pz:=z.2.1
  have b1:=Int.mul_lt_mul_of_pos_right a1 pz
  have b2:=Int.mul_lt_mul_of_pos_right a2 px
  have b3 : (x.1.1 * z.1.2) * y.1.2 < (z.1.1 * x.1.2) * y.1.2:=by
   have e1 : x.1.1 * y.1.2 * z.1.2=(x.1.1 * z.1.2) * y.1.2:=by grind
   have e2 : y.1.1 * x.1.2 * z.1.2=y.1.1 * z.1.2 * x.1.2:=by grind
   have e3 : z.1.1 * y.1.2 * x.1.2=(z.1.1 * x.1.2) * y.1.2:=by grind
   omega
  have b4:=Int.lt_of_mul_lt_mul_right b3 (Int.le_of_lt py)
  unfold fqC
  rw [if_pos b4]
  omega
def dz (num den : Int) : Int × Int:=if den < 0 then (-num,-den) else (num,den)
def dK (num den : Int) : Int :=
 if den=0 then 16 else if (dz num den).1 < 0 \/ (dz num den).2 < (dz num den).1 then 2
 else if 1073741824 < (dz num den).1 / Nat.gcd (dz num den).1.natAbs (dz num den).2.natAbs \/ 1073741824 < (dz num den).2 / Nat.gcd (dz num den).1.natAbs (dz num den).2.natAbs then 5 else 0
def eO (num den : Int) : Int × Int:=if dK num den=0 then ((dz num den).1 / Nat.gcd (dz num den).1.natAbs (dz num den).2.natAbs,(dz num den).2 / Nat.gcd (dz num den).1.natAbs (dz num den).2.natAbs) else (0,0)
theorem y7 {n d : Int} (hn : 0 <= n) (hd : 0 < d) : Nat.gcd (n / Nat.gcd n.natAbs d.natAbs).natAbs (d / Nat.gcd n.natAbs d.natAbs).natAbs=1 /\ 0 < d / Nat.gcd n.natAbs d.natAbs:=by
 have g0 : 0 < Nat.gcd n.natAbs d.natAbs:=Nat.gcd_pos_of_pos_right _ (by omega)
 obtain ⟨a,rfl⟩:=Int.eq_ofNat_of_zero_le hn
 obtain ⟨b,rfl⟩:=Int.eq_ofNat_of_zero_le (Int.le_of_lt hd)
 simp only [Int.natAbs_natCast] at *
 have e1 : ((a : Int) / (Nat.gcd a b : Nat)).natAbs=a / Nat.gcd a b:=by rw [<- Int.natCast_ediv,Int.natAbs_natCast]
 have e2 : ((b : Int) / (Nat.gcd a b : Nat)).natAbs=b / Nat.gcd a b:=by rw [<- Int.natCast_ediv,Int.natAbs_natCast]
 have e3:=Nat.div_pos (Nat.le_of_dvd (by omega) (Nat.gcd_dvd_right a b)) g0
 exact ⟨by rw [e1,e2];exact Nat.coprime_div_gcd_div_gcd g0,by rw [<- Int.natCast_ediv];omega⟩
theorem lF {num den : Int} (h : dK num den=0) : (0 < (eO num den).2 /\ (eO num den).2 <= 1073741824 /\ -1073741824 <= (eO num den).1 /\ (eO num den).1 <= 1073741824 /\ Nat.gcd (eO num den).1.natAbs (eO num den).2.natAbs=1) /\ 0 <= (eO num den).1 /\ (eO num den).1 <= (eO num den).2:=by
 have h':=h
 unfold dK at h'
 split at h'
 ·omega
 ·rename_i c0
  split at h'
  ·omega
  ·rename_i c1
   split at h'
   ·omega
   ·rename_i c2
    have hd : 0 < (dz num den).2:=by
     unfold dz;split <;> simp <;> omega
    have hn : 0 <= (dz num den).1:=by omega
    obtain ⟨g1,g2⟩:=y7 hn hd
    unfold eO
    rw [if_pos h]
    have g0 : 0 < Nat.gcd (dz num den).1.natAbs (dz num den).2.natAbs:=Nat.gcd_pos_of_pos_right _ (by omega)
    have hle : (dz num den).1 / Nat.gcd (dz num den).1.natAbs (dz num den).2.natAbs <= (dz num den).2 / Nat.gcd (dz num den).1.natAbs (dz num den).2.natAbs:=Int.ediv_le_ediv (by omega) (by omega)
    have h0 : 0 <= (dz num den).1 / Nat.gcd (dz num den).1.natAbs (dz num den).2.natAbs:=Int.ediv_nonneg hn (by omega)
    simp only
    exact ⟨⟨g2,by omega,by omega,by omega,g1⟩,h0,hle⟩
theorem kG {x y : Int} (h : (x < 0 /\ 0 < y) \/ (0 < x /\ y < 0)) : dK x (x - y)=dK y (y - x) /\ (dK x (x - y)=0 \/ dK x (x - y)=5) /\ (dK x (x - y)=0 -> eO y (y - x)=((eO x (x - y)).2 - (eO x (x - y)).1,(eO x (x - y)).2)):=by
 obtain ⟨n,d,hn,hd,e1,e2,z1,z2⟩ : ∃ n d : Int,0 < n /\ n < d /\ dz x (x - y)=(n,d) /\ dz y (y - x)=(d - n,d) /\ x - y ≠ 0 /\ y - x ≠ 0:=by
  unfold dz
  rcases h with h | h
  ·refine ⟨-x,y - x,by omega,by omega,?_,?_,by omega,by omega⟩
   ·rw [if_pos (by omega)];congr 1;omega
   ·rw [if_neg (by omega)];congr 1;omega
  ·refine ⟨x,x - y,by omega,by omega,?_,?_,by omega,by omega⟩
   ·rw [if_neg (by omega)]
   ·rw [if_pos (by omega)];congr 1 <;> omega
 have hg : Nat.gcd (d - n).natAbs d.natAbs=Nat.gcd n.natAbs d.natAbs:=by
  obtain ⟨a,rfl⟩:=Int.eq_ofNat_of_zero_le (Int.le_of_lt hn)
  obtain ⟨b,rfl⟩:=Int.eq_ofNat_of_zero_le (show 0 <= d by omega)
  have e : ((b : Int) - a).natAbs=b - a:=by omega
  rw [e,Int.natAbs_natCast,Int.natAbs_natCast]
  rw [Nat.gcd_comm (b - a) b,Nat.gcd_self_sub_right (by omega),Nat.gcd_comm]
 have g0 : 0 < Nat.gcd n.natAbs d.natAbs:=Nat.gcd_pos_of_pos_right _ (by omega)
 have dn : ((Nat.gcd n.natAbs d.natAbs : Nat) : Int) ∣ n:=Int.ofNat_dvd_left.2 (Nat.gcd_dvd_left _ _)
 have dd : ((Nat.gcd n.natAbs d.natAbs : Nat) : Int) ∣ d:=Int.ofNat_dvd_left.2 (Nat.gcd_dvd_right _ _)
 have hs : (d - n) / ((Nat.gcd n.natAbs d.natAbs : Nat) : Int)=d / ((Nat.gcd n.natAbs d.natAbs : Nat) : Int) - n / ((Nat.gcd n.natAbs d.natAbs : Nat) : Int):=Int.sub_ediv_of_dvd _ dn
 have hle : n / ((Nat.gcd n.natAbs d.natAbs : Nat) : Int) <= d / ((Nat.gcd n.natAbs d.natAbs : Nat) : Int):=Int.ediv_le_ediv (by omega) (by omega)
 have h0 : 0 <= n / ((Nat.gcd n.natAbs d.natAbs : Nat) : Int):=Int.ediv_nonneg (by omega) (by omega)
 have f1 : dK x (x - y)=if 1073741824 < d / ((Nat.gcd n.natAbs d.natAbs : Nat) : Int) then 5 else 0:=by
  unfold dK
  rw [if_neg z1,e1]
  simp only
  rw [if_neg (by omega)]
  by_cases c : 1073741824 < d / ((Nat.gcd n.natAbs d.natAbs : Nat) : Int)
  ·rw [if_pos (.inr c),if_pos c]
  ·rw [if_neg (by omega),if_neg c]
 have f2 : dK y (y - x)=if 1073741824 < d / ((Nat.gcd n.natAbs d.natAbs : Nat) : Int) then 5 else 0:=by
  unfold dK
  rw [if_neg z2,e2]
  simp only
  rw [if_neg (by omega),hg,hs]
  by_cases c : 1073741824 < d / ((Nat.gcd n.natAbs d.natAbs : Nat) : Int)
  ·rw [if_pos (.inr c),if_pos c]
  ·rw [if_neg (by omega),if_neg c]
 refine ⟨by rw [f1,f2],by rw [f1];split <;> simp,fun h0=>?_⟩
 have h00 : dK y (y - x)=0:=by rw [f2,<- f1];exact h0
 unfold eO
 rw [if_pos h0,if_pos h00,e1,e2]
 simp only
 rw [hg,hs]
end Go.Gv

namespace Go.Gv
open Go.Lib
theorem kQ (a : Nat) (ha : a < 18446744073709551616) : bits .and .u64 (a : Int) 4294967295=((a % 4294967296 : Nat) : Int):=by
 have h:=bits_and_u64_nat a 4294967295 ha (by omega)
 have e : a &&& 4294967295=a % 4294967296:=Nat.and_two_pow_sub_one_eq_mod a 32
 rw [e] at h
 exact h
theorem rb (a k : Nat) : Int.fdiv (a : Int) (2 ^ k)=((a / 2 ^ k : Nat) : Int):=by
 rw [Int.fdiv_eq_ediv_of_nonneg _ (by exact Int.pow_nonneg (by omega))]
 norm_cast
theorem nH (a : Nat) : Int.fdiv (a : Int) (2 ^ min 32 IntKind.u64.bits)=((a / 4294967296 : Nat) : Int):=rb a 32
theorem uz (a b : Nat) : (a : Int) * (b : Int)=((a * b : Nat) : Int):=(Int.natCast_mul a b).symm
theorem rB (a b : Nat) : (a : Int) + (b : Int)=((a + b : Nat) : Int):=(Int.natCast_add a b).symm
theorem cE (a : Nat) (ha : a < 18446744073709551616) : IntKind.u64.wrap (a : Int)=(a : Int):=by
 have e1 : IntKind.u64.signed=false:=rfl
 have e3 : (2 ^ IntKind.u64.bits : Int)=18446744073709551616:=rfl
 unfold IntKind.wrap
 simp only [e1,e3,Bool.false_and]
 simp
 omega
theorem x5 (a : Nat) : IntKind.u64.wrap (a : Int)=((a % 18446744073709551616 : Nat) : Int):=by
 have e1 : IntKind.u64.signed=false:=rfl
 have e3 : (2 ^ IntKind.u64.bits : Int)=18446744073709551616:=rfl
 unfold IntKind.wrap
 simp only [e1,e3,Bool.false_and]
 simp
variable {C : CC} (hC : aB prog C)
include hC
theorem sH (x y : Nat) (hx : x < 18446744073709551616) (hy : y < 18446744073709551616) : C 91 [.int .u64 x,.int .u64 y] (.tup [.int .u64 ((x * y / 18446744073709551616 : Nat) : Int),.int .u64 ((x * y % 18446744073709551616 : Nat) : Int)]) []:=by
 refine start hC (nf:=N91) rfl rfl ?_
 obtain ⟨bd,bt,bw,hhi⟩:=Lib.mul64_hi x y hx hy
 have ba:=Lib.half_mul_le (a:=x / 4294967296) (b:=y / 4294967296) (by omega) (by omega)
 have bb:=Lib.half_mul_le (a:=x / 4294967296) (b:=y % 4294967296) (by omega) (by omega)
 have bc:=Lib.half_mul_le (a:=x % 4294967296) (b:=y / 4294967296) (by omega) (by omega)
 have ba' : x / 4294967296 * (y / 4294967296) < 18446744073709551616:=by omega
 have bb' : x / 4294967296 * (y % 4294967296) < 18446744073709551616:=by omega
 have bc' : x % 4294967296 * (y / 4294967296) < 18446744073709551616:=by omega
 have bh1 : x / 4294967296 * (y / 4294967296) + (x / 4294967296 * (y % 4294967296) + x % 4294967296 * (y % 4294967296) / 4294967296) / 4294967296 < 18446744073709551616:=by omega
 have bh : x / 4294967296 * (y / 4294967296) + (x / 4294967296 * (y % 4294967296) + x % 4294967296 * (y % 4294967296) / 4294967296) / 4294967296 + ((x / 4294967296 * (y % 4294967296) + x % 4294967296 * (y % 4294967296) / 4294967296) % 4294967296 + x % 4294967296 * (y / 4294967296)) / 4294967296 < 18446744073709551616:=by omega
 simp [N91]
 simp only [kQ x hx,kQ y hy,nH,uz,rB,cE _ bd,cE _ bb',cE _ bt,kQ _ bt,cE _ bc',cE _ bw,cE _ ba',cE _ bh1,cE _ bh,x5 (x * y)]
 rw [hhi]
 exact ⟨by omega,by omega⟩
end Go.Gv

namespace Go.Gv
theorem BZ (a : Nat) : Int.fdiv (a : Int) (2 ^ min 16 IntKind.u64.bits)=((a / 65536 : Nat) : Int):=rb a 16
theorem Am (a : Nat) : Int.fdiv (a : Int) (2 ^ min 8 IntKind.u64.bits)=((a / 256 : Nat) : Int):=rb a 8
theorem L9 (a : Nat) (h : a < 256) : IntKind.u8.wrap (a : Int)=(a : Int):=by
 have e1 : IntKind.u8.signed=false:=rfl
 have e3 : (2 ^ IntKind.u8.bits : Int)=256:=rfl
 unfold IntKind.wrap
 simp only [e1,e3,Bool.false_and]
 simp
 omega
theorem se : S1.length=256 /\ ∀ n : Fin 256,S1[n.val]?.getD 0=UInt8.ofNat (bitLen n.val) /\ bitLen n.val <= 8:=by decide +kernel
theorem fq {x n z : Nat} {m : Int} (hz : z < 256) (hm : m=n) (hn : n <= 56) (h : n + bitLen z=bitLen x) : 0 <= IntKind.u8.wrap (z : Int) /\ (IntKind.u8.wrap (z : Int)).toNat < S1.length /\ IntKind.i64.wrap (m + IntKind.i64.wrap ↑(S1[(IntKind.u8.wrap (z : Int)).toNat]?.getD default).toNat)=(bitLen x : Int):=by
 rw [L9 z hz]
 obtain ⟨h1,h2⟩:=se
 obtain ⟨h3,h4⟩:=h2 ⟨z,hz⟩
 have e : (S1[(z : Int).toNat]?.getD default).toNat=bitLen z:=by
  show (S1[z]?.getD 0).toNat=bitLen z
  simp only at h3 h4
  rw [h3,UInt8.toNat_ofNat']
  omega
 simp only at h4
 rw [e]
 have e2 : IntKind.i64.wrap (bitLen z : Int)=(bitLen z : Int):=ac rfl (by omega)
 refine ⟨by omega,by omega,?_⟩
 rw [e2,hm]
 exact ac (by omega) (by omega)
variable {C : CC} (hC : aB prog C)
include hC
theorem yo (x : Nat) (hx : x < 18446744073709551616) : C 111 [.int .u64 x] (.int .i64 (bitLen x)) []:=by
 refine start hC (nf:=N111) rfl rfl ?_
 have key : ∀ (b z : Nat),2 ^ b <= z -> bitLen z=b + bitLen (z / 2 ^ b):=fun b z h=>bitLen_shift z b (by
  have:=Nat.div_pos h (Nat.two_pow_pos b)
  omega)
 simp [N111]
 refine ao (fun h1=>?_) (fun h1=>?_) <;> simp at h1
 ·obtain ⟨y,hy⟩ : ∃ y : Nat,y=x / 4294967296:=⟨_,rfl⟩
  have e1 : Int.fdiv (x : Int) (2 ^ min 32 IntKind.u64.bits)=(y : Int):=by rw [nH,hy]
  have k1:=key 32 x (by omega)
  simp [e1]
  refine ao (fun h2=>?_) (fun h2=>?_) <;> simp at h2
  ·obtain ⟨z,hz⟩ : ∃ z : Nat,z=y / 65536:=⟨_,rfl⟩
   have e2 : Int.fdiv (y : Int) (2 ^ min 16 IntKind.u64.bits)=(z : Int):=by rw [BZ,hz]
   have k2:=key 16 y (by omega)
   simp [e2]
   refine ao (fun h3=>?_) (fun h3=>?_) <;> simp at h3
   ·obtain ⟨v,hv⟩ : ∃ v : Nat,v=z / 256:=⟨_,rfl⟩
    have e3 : Int.fdiv (z : Int) (2 ^ min 8 IntKind.u64.bits)=(v : Int):=by rw [Am,hv]
    have k3:=key 8 z (by omega)
    simp [e3]
    refine fq (n:=56) (by omega) ?_ (by omega) ?_
    ·decide
    ·simp only [Nat.reducePow] at k1 k2 k3
     rw [<- hy] at k1;rw [<- hz] at k2;rw [<- hv] at k3;omega
   ·simp
    refine fq (n:=48) (by omega) ?_ (by omega) ?_
    ·decide
    ·simp only [Nat.reducePow] at k1 k2
     rw [<- hy] at k1;rw [<- hz] at k2;omega
  ·simp
   refine ao (fun h3=>?_) (fun h3=>?_) <;> simp at h3
   ·obtain ⟨v,hv⟩ : ∃ v : Nat,v=y / 256:=⟨_,rfl⟩
    have e3 : Int.fdiv (y : Int) (2 ^ min 8 IntKind.u64.bits)=(v : Int):=by rw [Am,hv]
    have k3:=key 8 y (by omega)
    simp [e3]
    refine fq (n:=40) (by omega) ?_ (by omega) ?_
    ·decide
    ·simp only [Nat.reducePow] at k1 k3
     rw [<- hy] at k1;rw [<- hv] at k3;omega
   ·simp
    refine fq (n:=32) (by omega) ?_ (by omega) ?_
    ·decide
    ·simp only [Nat.reducePow] at k1
     rw [<- hy] at k1;omega
 ·simp
  refine ao (fun h2=>?_) (fun h2=>?_) <;> simp at h2
  ·obtain ⟨z,hz⟩ : ∃ z : Nat,z=x / 65536:=⟨_,rfl⟩
   have e2 : Int.fdiv (x : Int) (2 ^ min 16 IntKind.u64.bits)=(z : Int):=by rw [BZ,hz]
   have k2:=key 16 x (by omega)
   simp [e2]
   refine ao (fun h3=>?_) (fun h3=>?_) <;> simp at h3
   ·obtain ⟨v,hv⟩ : ∃ v : Nat,v=z / 256:=⟨_,rfl⟩
    have e3 : Int.fdiv (z : Int) (2 ^ min 8 IntKind.u64.bits)=(v : Int):=by rw [Am,hv]
    have k3:=key 8 z (by omega)
    simp [e3]
    refine fq (n:=24) (by omega) ?_ (by omega) ?_
    ·decide
    ·simp only [Nat.reducePow] at k2 k3
     rw [<- hz] at k2;rw [<- hv] at k3;omega
   ·simp
    refine fq (n:=16) (by omega) ?_ (by omega) ?_
    ·decide
    ·simp only [Nat.reducePow] at k2
     rw [<- hz] at k2;omega
  ·simp
   refine ao (fun h3=>?_) (fun h3=>?_) <;> simp at h3
   ·obtain ⟨v,hv⟩ : ∃ v : Nat,v=x / 256:=⟨_,rfl⟩
    have e3 : Int.fdiv (x : Int) (2 ^ min 8 IntKind.u64.bits)=(v : Int):=by rw [Am,hv]
    have k3:=key 8 x (by omega)
    simp [e3]
    refine fq (n:=8) (by omega) ?_ (by omega) ?_
    ·decide
    ·simp only [Nat.reducePow] at k3
     rw [<- hv] at k3;omega
   ·simp
    have:=fq (x:=x) (n:=0) (m:=0) (z:=x) (by omega) rfl (by omega) (by omega)
    simpa using this
theorem lm (x : Nat) (hx : x < 18446744073709551616) : C 102 [.int .u64 x] (.int .i64 ((64 - bitLen x : Nat) : Int)) []:=by
 have hb : bitLen x <= 64:=by
  unfold bitLen
  split
  ·omega
  ·rename_i h
   have:=(Nat.log2_lt h).2 (show x < 2 ^ 64 by omega)
   omega
 refine start hC (nf:=N102) rfl rfl ?_
 simp [N102]
 refine aa (yo hC x hx) (.inl rfl) ?_
 have e : IntKind.wrap .i64 (64 - (bitLen x : Int))=((64 - bitLen x : Nat) : Int):=ac (by omega) (by omega)
 simp [e]
end Go.Gv

namespace Go.Gv
structure DvI (u d a b q r : Nat) : Prop where
 sum : q * a + r=u
 ge : (u * 4294967296 + d) / (a * 4294967296 + b) <= q
 rlt : r < 4294967296
 qle : q <= 4294967297
section
variable {u d a b q r : Nat}
theorem Dv.mul (h : q * a + r=u) : q * (a * 4294967296 + b) + r * 4294967296=u * 4294967296 + q * b:=by
 subst h
 rw [Nat.mul_add,<- Nat.mul_assoc,Nat.add_mul]
 omega
theorem Dv.lt (_ : 0 < a) (hu : u < a * 4294967296 + b) (hd : d < 4294967296) : (u * 4294967296 + d) / (a * 4294967296 + b) < 4294967296:=by
 rw [Nat.div_lt_iff_lt_mul (by omega)]
 have : (u + 1) * 4294967296 <= (a * 4294967296 + b) * 4294967296:=Nat.mul_le_mul_right _ hu
 omega
theorem DvI.first (ha : 2147483648 <= a) (ha2 : a < 4294967296) (hb : b < 4294967296) (hu : u < a * 4294967296 + b) (hd : d < 4294967296) : DvI u d a b (u / a) (u % a) where
 sum:=by rw [Nat.mul_comm];exact Nat.div_add_mod u a
 rlt:=by have:=Nat.mod_lt u (show 0 < a by omega);omega
 ge:=by
  rw [Nat.le_div_iff_mul_le (by omega)]
  have h:=Nat.div_mul_le_self (u * 4294967296 + d) (a * 4294967296 + b)
  generalize (u * 4294967296 + d) / (a * 4294967296 + b)=Q at *
  rw [Nat.mul_add,<- Nat.mul_assoc] at h
  generalize Q * b=z at *
  generalize Q * a=x at *
  omega
 qle:=by
  have : u / a < 4294967298:=by
   rw [Nat.div_lt_iff_lt_mul (by omega)]
   omega
  omega
theorem DvI.more (h : DvI u d a b q r) (ha : 0 < a) (hu : u < a * 4294967296 + b) (hd : d < 4294967296) (hc : 4294967296 <= q \/ 4294967296 * r + d < q * b) : (u * 4294967296 + d) / (a * 4294967296 + b) + 1 <= q:=by
 rcases hc with hc | hc
 ·have:=Dv.lt (d:=d) ha hu hd
  omega
 ·have h1:=Dv.mul (b:=b) h.sum
  have : (u * 4294967296 + d) / (a * 4294967296 + b) < q:=by
   rw [Nat.div_lt_iff_lt_mul (by omega)]
   generalize q * (a * 4294967296 + b)=z at *
   generalize q * b=x at *
   omega
  omega
theorem DvI.done (h : DvI u d a b q r) (ha : 0 < a) (hc : q * b <= 4294967296 * r + d) : q=(u * 4294967296 + d) / (a * 4294967296 + b):=by
 have h1:=Dv.mul (b:=b) h.sum
 have h2:=h.ge
 have : q <= (u * 4294967296 + d) / (a * 4294967296 + b):=by
  rw [Nat.le_div_iff_mul_le (by omega)]
  generalize q * (a * 4294967296 + b)=z at *
  generalize q * b=x at *
  omega
 omega
theorem DvI.next (h : DvI u d a b q r) (ha : 0 < a) (hu : u < a * 4294967296 + b) (hd : d < 4294967296) (hc : 4294967296 <= q \/ 4294967296 * r + d < q * b) :
  1 <= q /\ (q - 1) * a + (r + a)=u /\ (u * 4294967296 + d) / (a * 4294967296 + b) <= q - 1 /\ q - 1 <= 4294967296:=by
 have h1:=h.more ha hu hd hc
 have h2:=h.qle
 have h3:=h.sum
 generalize (u * 4294967296 + d) / (a * 4294967296 + b)=Q at *
 obtain ⟨q',rfl⟩ : ∃ q',q=q' + 1:=⟨q - 1,by omega⟩
 refine ⟨by omega,?_,by omega,by omega⟩
 rw [Nat.add_mul] at h3
 simp only [Nat.add_sub_cancel]
 omega
theorem Dv.stop (hs : q * a + r=u) (hg : (u * 4294967296 + d) / (a * 4294967296 + b) <= q) (hq : q <= 4294967296) (ha : 0 < a) (hb : b < 4294967296) (hr : 4294967296 <= r) : q=(u * 4294967296 + d) / (a * 4294967296 + b):=by
 have h1:=Dv.mul (b:=b) hs
 have h3 : q * b <= 4294967296 * 4294967295:=Nat.mul_le_mul hq (by omega)
 have : q <= (u * 4294967296 + d) / (a * 4294967296 + b):=by
  rw [Nat.le_div_iff_mul_le (by omega)]
  generalize q * (a * 4294967296 + b)=z at *
  generalize q * b=x at *
  omega
 omega
theorem DvI.bnd (h : DvI u d a b q r) (hb : b < 4294967296) : q * b < 18446744073709551616:=by
 have:=Nat.mul_le_mul h.qle (show b <= 4294967295 by omega)
 omega
end
theorem CE {N y S A K un0 y' : Nat} (hy : 0 < y) (hs : 0 < S) (hy' : y'=y * S) (hn : N * S=A * K + un0) :
  A / y' * K + (A % y' * K + un0) / y'=N / y /\ (A % y' * K + un0) % y' / S=N % y:=by
 have hyp : 0 < y':=by rw [hy'];exact Nat.mul_pos hy hs
 have e1:=Nat.div_add_mod A y'
 have e2:=Nat.div_add_mod (A % y' * K + un0) y'
 have l2:=Nat.mod_lt (A % y' * K + un0) hyp
 have tot : y' * (A / y' * K + (A % y' * K + un0) / y') + (A % y' * K + un0) % y'=N * S:=by
  rw [hn,Nat.mul_add,Nat.add_assoc,e2,<- Nat.mul_assoc,<- Nat.add_assoc,<- Nat.add_mul,e1]
 have hq : N * S / y'=A / y' * K + (A % y' * K + un0) / y':=by
  rw [<- tot,Nat.mul_add_div hyp,Nat.div_eq_of_lt l2,Nat.add_zero]
 have hr : N * S % y'=(A % y' * K + un0) % y':=by
  rw [<- tot,Nat.mul_add_mod,Nat.mod_eq_of_lt l2]
 rw [hy',Nat.mul_div_mul_right _ _ hs] at hq
 rw [hy',Nat.mul_mod_mul_right] at hr
 rw [hy'] at *
 exact ⟨hq.symm,by rw [<- hr,Nat.mul_div_cancel _ hs]⟩
end Go.Gv

namespace Go.Gv
theorem xY (a b : Nat) : Int.tdiv (a : Int) (b : Int)=((a / b : Nat) : Int):=by
 rw [Int.tdiv_eq_ediv_of_nonneg (by omega)];norm_cast
theorem LX (a b : Nat) : Int.tmod (a : Int) (b : Int)=((a % b : Nat) : Int):=by
 rw [Int.tmod_eq_emod_of_nonneg (by omega)];norm_cast
theorem jl (a : Int) : IntKind.u64.wrap a=a % 18446744073709551616:=by
 have e1 : IntKind.u64.signed=false:=rfl
 have e3 : (2 ^ IntKind.u64.bits : Int)=18446744073709551616:=rfl
 unfold IntKind.wrap
 simp only [e1,e3,Bool.false_and]
 simp
theorem orN (a b i : Nat) (hb : b < 2 ^ i) (h : a * 2 ^ i + b < 18446744073709551616) : bits .or .u64 ((a * 2 ^ i : Nat) : Int) (b : Int)=((a * 2 ^ i + b : Nat) : Int):=by
 rw [bits_or_u64_nat _ _ (by omega) (by omega),Nat.mul_comm a,Nat.two_pow_add_eq_or_of_lt hb]
theorem uA (a m b s : Nat) : (a * m + b) * s=a * s * m + b * s:=by rw [Nat.add_mul,Nat.mul_right_comm]
theorem LY {H B W U d1 d0 : Nat} (hU : U=H + B) (h1 : d1=W / 4294967296) (h0 : d0=W % 4294967296) : H * 18446744073709551616 + (B * 18446744073709551616 + W)=(U * 4294967296 + d1) * 4294967296 + d0:=by omega
theorem Dz {y s : Nat} (h0 : y ≠ 0) (hy : y < 18446744073709551616) (hs : s=64 - bitLen y) : s <= 63 /\ 9223372036854775808 <= y * 2 ^ s /\ y * 2 ^ s < 18446744073709551616:=by
 obtain ⟨h1,h2⟩:=bitLen_spec y
 have h3:=h2 h0
 have hb : bitLen y <= 64:=by
  unfold bitLen
  rw [if_neg h0]
  have:=(Nat.log2_lt h0).2 (show y < 2 ^ 64 by omega)
  omega
 have hb1 : 1 <= bitLen y:=by unfold bitLen;rw [if_neg h0];omega
 have e : bitLen y + s=64:=by omega
 refine ⟨by omega,?_,?_⟩
 ·have:=Nat.mul_le_mul_right (2 ^ s) h3
  rw [<- Nat.pow_add,show bitLen y - 1 + s=63 by omega] at this
  omega
 ·have:=Nat.mul_lt_mul_of_pos_right h1 (Nat.two_pow_pos s)
  rw [<- Nat.pow_add,e] at this
  omega
variable {C : CC} (hC : aB prog C)
include hC
theorem sG (hi lo y : Nat) (h : hi < y) (hy : y < 18446744073709551616) (hl : lo < 18446744073709551616) :
  C 92 [.int .u64 hi,.int .u64 lo,.int .u64 y] (.tup [.int .u64 (((hi * 18446744073709551616 + lo) / y : Nat) : Int),.int .u64 (((hi * 18446744073709551616 + lo) % y : Nat) : Int)]) []:=by
 refine start hC (nf:=N92) rfl rfl ?_
 have h1 : ¬ y=0:=by omega
 have h2 : ¬ y <= hi:=by omega
 generalize hres : D.tup [D.int .u64 (((hi * 18446744073709551616 + lo) / y : Nat) : Int),.int .u64 (((hi * 18446744073709551616 + lo) % y : Nat) : Int)]=res
 simp [N92]
 refine ao (fun h=>?_) (fun _=>?_)
 ·simp at h;omega
 simp
 refine ao (fun h=>?_) (fun _=>?_)
 ·simp at h;omega
 simp
 refine ao (fun h=>?_) (fun h3=>?_)
 ·simp at h
  have : hi=0:=by omega
  subst this
  have hq : lo / y < 18446744073709551616:=by have:=Nat.div_le_self lo y;omega
  obtain ⟨q,hq'⟩ : ∃ q,q=lo / y:=⟨_,rfl⟩
  obtain ⟨r,hr'⟩ : ∃ r,r=lo % y:=⟨_,rfl⟩
  have e1 : Int.tdiv (lo : Int) (y : Int)=(q : Int):=by rw [xY,hq']
  have e2 : Int.tmod (lo : Int) (y : Int)=(r : Int):=by rw [LX,hr']
  simp [h1,e1,e2,cE q (by omega)]
  refine ⟨aj (by decide +kernel),?_⟩
  rw [<- hres,hq',hr',Nat.zero_mul,Nat.zero_add]
 simp
 refine aa (lm hC y hy) (.inl rfl) ?_
 generalize hs : 64 - bitLen y=s
 obtain ⟨s1,s2,s3⟩:=Dz h1 hy hs.symm
 have w1 : IntKind.u64.wrap (s : Int)=(s : Int):=cE _ (by omega)
 have w2 : IntKind.u64.wrap (64 - (s : Int))=((64 - s : Nat) : Int):=by rw [jl];omega
 have m1 : min s IntKind.u64.bits=s:=by show min s 64=s;omega
 have m2 : min (64 - s) IntKind.u64.bits=64 - s:=by show min (64 - s) 64=64 - s;omega
 obtain ⟨Y,hY⟩ : ∃ Y,Y=y * 2 ^ s:=⟨_,rfl⟩
 obtain ⟨H,hH⟩ : ∃ H,H=hi * 2 ^ s:=⟨_,rfl⟩
 obtain ⟨W,hW⟩ : ∃ W,W=lo * 2 ^ s % 18446744073709551616:=⟨_,rfl⟩
 obtain ⟨B,hB⟩ : ∃ B,B=lo / 2 ^ (64 - s):=⟨_,rfl⟩
 rw [<- hY] at s2 s3
 have hHY : H + 2 ^ s <= Y:=by
  have:=Nat.mul_le_mul_right (2 ^ s) h
  rw [hH,hY]
  rw [Nat.succ_mul] at this
  exact this
 have hBs : B < 2 ^ s:=by
  rw [hB,Nat.div_lt_iff_lt_mul (Nat.two_pow_pos _),<- Nat.pow_add,show s + (64 - s)=64 by omega]
  exact hl
 obtain ⟨U,hU⟩ : ∃ U,U=H + B:=⟨_,rfl⟩
 have hUY : U < Y:=by omega
 have eY : IntKind.u64.wrap ((y : Int) * 2 ^ s)=(Y : Int):=by
  rw [show (y : Int) * 2 ^ s=(Y : Int) by rw [hY];norm_cast];exact cE _ s3
 have eH : IntKind.u64.wrap ((hi : Int) * 2 ^ s)=(H : Int):=by
  rw [show (hi : Int) * 2 ^ s=(H : Int) by rw [hH];norm_cast];exact cE _ (by omega)
 have eW : IntKind.u64.wrap ((lo : Int) * 2 ^ s)=(W : Int):=by
  rw [show (lo : Int) * 2 ^ s=((lo * 2 ^ s : Nat) : Int) by norm_cast,x5,hW]
 have eB : Int.fdiv (lo : Int) (2 ^ (64 - s))=(B : Int):=by rw [rb,hB]
 have eU : bits .or .u64 (H : Int) (B : Int)=(U : Int):=by
  rw [hU,hH];exact orN hi B s hBs (by omega)
 obtain ⟨Y1,hY1⟩ : ∃ Y1,Y1=Y / 4294967296:=⟨_,rfl⟩
 obtain ⟨Y0,hY0⟩ : ∃ Y0,Y0=Y % 4294967296:=⟨_,rfl⟩
 obtain ⟨d1,hd1⟩ : ∃ d1,d1=W / 4294967296:=⟨_,rfl⟩
 obtain ⟨d0,hd0⟩ : ∃ d0,d0=W % 4294967296:=⟨_,rfl⟩
 have eY1 : Int.fdiv (Y : Int) (2 ^ min 32 IntKind.u64.bits)=(Y1 : Int):=by rw [nH,hY1]
 have eY0 : bits .and .u64 (Y : Int) 4294967295=(Y0 : Int):=by rw [kQ _ s3,hY0]
 have hW64 : W < 18446744073709551616:=by rw [hW];exact Nat.mod_lt _ (by omega)
 have ed1 : Int.fdiv (W : Int) (2 ^ min 32 IntKind.u64.bits)=(d1 : Int):=by rw [nH,hd1]
 have ed0 : bits .and .u64 (W : Int) 4294967295=(d0 : Int):=by rw [kQ _ hW64,hd0]
 have hY1a : 2147483648 <= Y1:=by omega
 have hY1b : Y1 < 4294967296:=by omega
 have hY0b : Y0 < 4294967296:=by omega
 have hd1b : d1 < 4294967296:=by omega
 have hd0b : d0 < 4294967296:=by omega
 have hYs : Y1 * 4294967296 + Y0=Y:=by omega
 have nz : ¬ Y1=0:=by omega
 have inv1:=DvI.first hY1a hY1b hY0b (u:=U) (d:=d1) (by omega) hd1b
 obtain ⟨q,hq⟩ : ∃ q,q=U / Y1:=⟨_,rfl⟩
 obtain ⟨r,hr⟩ : ∃ r,r=U % Y1:=⟨_,rfl⟩
 rw [<- hq,<- hr] at inv1
 have eq1 : Int.tdiv (U : Int) (Y1 : Int)=(q : Int):=by rw [xY,hq]
 have eq2 : IntKind.u64.wrap (q : Int)=(q : Int):=cE _ (by have:=inv1.qle;omega)
 have sub1 : ∀ (u a q r : Nat),q * a + r=u -> u < 18446744073709551616 -> IntKind.u64.wrap ((u : Int) - IntKind.u64.wrap ((q : Int) * (a : Int)))=(r : Int):=fun u a q r e hu=>by
  rw [uz,jl,jl]
  generalize q * a=z at *
  omega
 have er : IntKind.u64.wrap ((U : Int) - IntKind.u64.wrap ((q : Int) * (Y1 : Int)))=(r : Int):=sub1 _ _ _ _ inv1.sum (by omega)
 simp [w1,w2,m1,m2,eY,eH,eW,eB,eU,eY1,eY0,ed1,ed0,eq1,eq2,er,nz]
 have bm : ∀ {u d q r : Nat},DvI u d Y1 Y0 q r -> IntKind.u64.wrap ((q : Int) * (Y0 : Int))=((q * Y0 : Nat) : Int):=fun i=>by rw [uz];exact cE _ (i.bnd hY0b)
 have bp : ∀ {u d q r : Nat},d < 4294967296 -> DvI u d Y1 Y0 q r -> IntKind.u64.wrap (IntKind.u64.wrap (4294967296 * (r : Int)) + (d : Int))=((4294967296 * r + d : Nat) : Int):=fun {u d q r} hd i=>by
  have:=i.rlt
  rw [show (4294967296 : Int) * (r : Int)=((4294967296 * r : Nat) : Int) by omega,cE (4294967296 * r) (by omega),rB]
  exact cE _ (by omega)
 obtain ⟨Q1,hQ1⟩ : ∃ Q1,Q1=(U * 4294967296 + d1) / (Y1 * 4294967296 + Y0):=⟨_,rfl⟩
 refine qA 0 Nat (fun x=>[(2,.int .u64 Y),(8,.int .u64 s),(9,.int .u64 Y1),(10,.int .u64 Y0),(11,.int .u64 U),(13,.int .u64 d1),(14,.int .u64 d0),(15,.int .u64 x)]) (fun x=>x=Q1) ?_ ?_
 ·refine aw (Nat × Nat) (fun x=>[(2,.int .u64 Y),(8,.int .u64 s),(9,.int .u64 Y1),(10,.int .u64 Y0),(11,.int .u64 U),(13,.int .u64 d1),(14,.int .u64 d0),(15,.int .u64 x.1),(16,.int .u64 x.2)]) (fun x=>DvI U d1 Y1 Y0 x.1 x.2) (fun x=>4294967296 - x.2) (q,r) inv1 (by simp) ?_
  rintro ⟨a,c⟩ inv
  simp only at inv
  have b1:=bm inv
  have b2:=bp hd1b inv
  have b3:=inv.rlt
  have b4:=inv.qle
  have fin : (4294967296 <= a \/ 4294967296 * c + d1 < a * Y0) -> ∃ a' c' : Nat,IntKind.u64.wrap ((a : Int) - 1)=(a' : Int) /\ IntKind.u64.wrap ((c : Int) + (Y1 : Int))=(c' : Int) /\ c'=c + Y1 /\ (4294967296 <= c' -> a'=Q1) /\ (c' < 4294967296 -> DvI U d1 Y1 Y0 a' c'):=fun hc=>by
   obtain ⟨n1,n2,n3,n4⟩:=inv.next (by omega) (by rw [hYs];exact hUY) hd1b hc
   refine ⟨a - 1,c + Y1,by rw [jl];omega,by rw [jl];omega,rfl,fun hc=>(Dv.stop n2 n3 n4 (by omega) hY0b hc).trans hQ1.symm,fun hc=>⟨n2,n3,hc,by omega⟩⟩
  simp
  refine ao (fun c1=>?_) (fun c1=>?_) <;> simp [c1] <;> simp at c1
  ·obtain ⟨a',c',k1,k2,k3,k4,k5⟩:=fin (.inl (by omega))
   simp [k1,k2]
   refine ao (fun c2=>?_) (fun c2=>?_) <;> simp [c2,k1,k2] <;> simp at c2
   ·rw [k4 (by omega)]
   ·exact ⟨_,_,k5 (by omega),by omega,rfl,rfl⟩
  ·simp [b1,b2]
   refine ao (fun c3=>?_) (fun c3=>?_) <;> simp [c3] <;> simp at c3
   ·obtain ⟨a',c',k1,k2,k3,k4,k5⟩:=fin (.inr (by omega))
    simp [k1,k2]
    refine ao (fun c2=>?_) (fun c2=>?_) <;> simp [c2,k1,k2] <;> simp at c2
    ·rw [k4 (by omega)]
    ·exact ⟨_,_,k5 (by omega),by omega,rfl,rfl⟩
   ·rw [(inv.done (by omega) (by omega)).trans hQ1.symm]
 intro q1 e hq1 hw
 subst hq1
 simp at hw
 obtain ⟨g2,g8,g9,g10,g11,g13,g14,g15⟩:=hw
 obtain ⟨V,hV⟩ : ∃ V,V=(U * 4294967296 + d1) % (Y1 * 4294967296 + Y0):=⟨_,rfl⟩
 have hVY : V < Y:=by rw [hV,hYs];exact Nat.mod_lt _ (by omega)
 have sum1 : q1 * Y + V=U * 4294967296 + d1:=by rw [hQ1,hV,hYs,Nat.mul_comm];exact Nat.div_add_mod _ _
 have eV : IntKind.u64.wrap (IntKind.u64.wrap (IntKind.u64.wrap ((U : Int) * 4294967296) + (d1 : Int)) - IntKind.u64.wrap ((q1 : Int) * (Y : Int)))=(V : Int):=by
  rw [uz q1 Y]
  simp only [jl]
  generalize q1 * Y=z at *
  omega
 have inv2:=DvI.first hY1a hY1b hY0b (u:=V) (d:=d0) (by omega) hd0b
 obtain ⟨q2,hq2⟩ : ∃ q,q=V / Y1:=⟨_,rfl⟩
 obtain ⟨r2,hr2⟩ : ∃ r,r=V % Y1:=⟨_,rfl⟩
 rw [<- hq2,<- hr2] at inv2
 have eq3 : Int.tdiv (V : Int) (Y1 : Int)=(q2 : Int):=by rw [xY,hq2]
 have eq4 : IntKind.u64.wrap (q2 : Int)=(q2 : Int):=cE _ (by have:=inv2.qle;omega)
 have er2 : IntKind.u64.wrap ((V : Int) - IntKind.u64.wrap ((q2 : Int) * (Y1 : Int)))=(r2 : Int):=sub1 _ _ _ _ inv2.sum (by omega)
 simp [g2,g8,g9,g10,g11,g13,g14,g15,eV,eq3,eq4,er2,nz]
 obtain ⟨Q0,hQ0⟩ : ∃ Q0,Q0=(V * 4294967296 + d0) / (Y1 * 4294967296 + Y0):=⟨_,rfl⟩
 refine qA 2 Nat (fun x=>[(2,.int .u64 Y),(8,.int .u64 s),(14,.int .u64 d0),(15,.int .u64 q1),(17,.int .u64 V),(18,.int .u64 x)]) (fun x=>x=Q0) ?_ ?_
 ·refine aw (Nat × Nat) (fun x=>[(2,.int .u64 Y),(8,.int .u64 s),(9,.int .u64 Y1),(10,.int .u64 Y0),(14,.int .u64 d0),(15,.int .u64 q1),(16,.int .u64 x.2),(17,.int .u64 V),(18,.int .u64 x.1)]) (fun x=>DvI V d0 Y1 Y0 x.1 x.2) (fun x=>4294967296 - x.2) (q2,r2) inv2 (by simp) ?_
  rintro ⟨a,c⟩ inv
  simp only at inv
  have b1:=bm inv
  have b2:=bp hd0b inv
  have b3:=inv.rlt
  have b4:=inv.qle
  have fin : (4294967296 <= a \/ 4294967296 * c + d0 < a * Y0) -> ∃ a' c' : Nat,IntKind.u64.wrap ((a : Int) - 1)=(a' : Int) /\ IntKind.u64.wrap ((c : Int) + (Y1 : Int))=(c' : Int) /\ c'=c + Y1 /\ (4294967296 <= c' -> a'=Q0) /\ (c' < 4294967296 -> DvI V d0 Y1 Y0 a' c'):=fun hc=>by
   obtain ⟨n1,n2,n3,n4⟩:=inv.next (by omega) (by rw [hYs];exact hVY) hd0b hc
   refine ⟨a - 1,c + Y1,by rw [jl];omega,by rw [jl];omega,rfl,fun hc=>(Dv.stop n2 n3 n4 (by omega) hY0b hc).trans hQ0.symm,fun hc=>⟨n2,n3,hc,by omega⟩⟩
  simp
  refine ao (fun c1=>?_) (fun c1=>?_) <;> simp [c1] <;> simp at c1
  ·obtain ⟨a',c',k1,k2,k3,k4,k5⟩:=fin (.inl (by omega))
   simp [k1,k2]
   refine ao (fun c2=>?_) (fun c2=>?_) <;> simp [c2,k1,k2] <;> simp at c2
   ·rw [k4 (by omega)]
   ·exact ⟨_,_,k5 (by omega),by omega,rfl,rfl⟩
  ·simp [b1,b2]
   refine ao (fun c3=>?_) (fun c3=>?_) <;> simp [c3] <;> simp at c3
   ·obtain ⟨a',c',k1,k2,k3,k4,k5⟩:=fin (.inr (by omega))
    simp [k1,k2]
    refine ao (fun c2=>?_) (fun c2=>?_) <;> simp [c2,k1,k2] <;> simp at c2
    ·rw [k4 (by omega)]
    ·exact ⟨_,_,k5 (by omega),by omega,rfl,rfl⟩
   ·rw [(inv.done (by omega) (by omega)).trans hQ0.symm]
 intro q0 e hq0 hw
 subst hq0
 simp at hw
 obtain ⟨g2,g8,g14,g15,g17,g18⟩:=hw
 have l1 : q1 < 4294967296:=by rw [hQ1];exact Dv.lt (by omega) (by omega) hd1b
 have l0 : q0 < 4294967296:=by rw [hQ0];exact Dv.lt (by omega) (by omega) hd0b
 obtain ⟨R,hR⟩ : ∃ R,R=(V * 4294967296 + d0) % (Y1 * 4294967296 + Y0):=⟨_,rfl⟩
 have hRY : R < Y:=by rw [hR,hYs];exact Nat.mod_lt _ (by omega)
 have sum0 : q0 * Y + R=V * 4294967296 + d0:=by rw [hQ0,hR,hYs,Nat.mul_comm];exact Nat.div_add_mod _ _
 have eR : IntKind.u64.wrap (IntKind.u64.wrap (IntKind.u64.wrap ((V : Int) * 4294967296) + (d0 : Int)) - IntKind.u64.wrap ((q0 : Int) * (Y : Int)))=(R : Int):=by
  rw [uz q0 Y]
  simp only [jl]
  generalize q0 * Y=z at *
  omega
 obtain ⟨Z,hZ⟩ : ∃ Z,Z=R / 2 ^ s:=⟨_,rfl⟩
 have eZ : Int.fdiv (R : Int) (2 ^ s)=(Z : Int):=by rw [rb,hZ]
 have eQ : IntKind.u64.wrap (IntKind.u64.wrap ((q1 : Int) * 4294967296) + (q0 : Int))=((q1 * 4294967296 + q0 : Nat) : Int):=by
  simp only [jl]
  omega
 obtain ⟨T,hT⟩ : ∃ T,T=q1 * 4294967296 + q0:=⟨_,rfl⟩
 rw [<- hT] at eQ
 simp [g2,g8,g14,g15,g17,g18,w1,m1,eR,eZ,eQ]
 have hW2 : lo * 2 ^ s=B * 18446744073709551616 + W:=by
  have e1 : lo * 2 ^ s / 18446744073709551616=B:=by
   rw [hB,show (18446744073709551616 : Nat)=2 ^ (64 - s) * 2 ^ s by rw [<- Nat.pow_add,show 64 - s + s=64 by omega],Nat.mul_div_mul_right _ _ (Nat.two_pow_pos s)]
  have e2:=Nat.div_add_mod (lo * 2 ^ s) 18446744073709551616
  omega
 have tot : (hi * 18446744073709551616 + lo) * 2 ^ s=(U * 4294967296 + d1) * 4294967296 + d0:=by
  rw [uA,hW2,<- hH]
  exact LY hU hd1 hd0
 obtain ⟨f1,f2⟩:=CE (N:=hi * 18446744073709551616 + lo) (y:=y) (S:=2 ^ s) (A:=U * 4294967296 + d1) (K:=4294967296) (un0:=d0) (y':=Y1 * 4294967296 + Y0) (by omega) (Nat.two_pow_pos s) (by rw [hYs,hY]) tot
 rw [<- hV,<- hQ1,<- hQ0,<- hT] at f1
 rw [<- hV,<- hR,<- hZ] at f2
 rw [<- hres,f1,f2]
end Go.Gv

namespace Go.Gv
def dj (n : Nat) : D:=.agg [.int .u64 ((n / 18446744073709551616 : Nat) : Int),.int .u64 ((n % 18446744073709551616 : Nat) : Int)]
def BV (x : Nat) : Nat -> Nat -> Nat
 | 0,r=>r
 | i + 1,r=>BV x i (if (r + 2 ^ i) * (r + 2 ^ i) <= x then r + 2 ^ i else r)
def R0 (x : Nat) : Nat:=BV x 63 0
variable {C : CC} (hC : aB prog C)
include hC
end Go.Gv

namespace Go.Gv
open Go.Lib
theorem Al (a k m : Nat) (hm : m=a * 2 ^ k % 18446744073709551616) : IntKind.u64.wrap ((a : Int) * 2 ^ k)=(m : Int):=by
 have e : (a : Int) * 2 ^ k=((a * 2 ^ k : Nat) : Int):=by push_cast;rfl
 rw [e,x5,hm]
theorem LI (a m : Nat) (hm : m=a * 2 % 18446744073709551616) : IntKind.u64.wrap ((a : Int) * 2 ^ min 1 IntKind.u64.bits)=(m : Int):=Al a 1 m hm
theorem LJ (a m : Nat) (hm : m=a * 4294967296 % 18446744073709551616) : IntKind.u64.wrap ((a : Int) * 2 ^ min 32 IntKind.u64.bits)=(m : Int):=Al a 32 m hm
theorem xH (a : Nat) : Int.fdiv (a : Int) (2 ^ min 63 IntKind.u64.bits)=((a / 9223372036854775808 : Nat) : Int):=rb a 63
theorem uw {n : Int} {m : Nat} (h : n=m \/ n=m + 18446744073709551616 \/ n=m - 18446744073709551616) (hm : m < 18446744073709551616) : IntKind.u64.wrap n=(m : Int):=by
 rw [jl];omega
end Go.Gv

namespace Go.Gv
open Go.Lib
theorem LK (a m : Nat) (hm : m=a * 16 % 18446744073709551616) : IntKind.u64.wrap ((a : Int) * 2 ^ min 4 IntKind.u64.bits)=(m : Int):=Al a 4 m hm
theorem BY (a m : Nat) (hm : m=a * 1152921504606846976 % 18446744073709551616) : IntKind.u64.wrap ((a : Int) * 2 ^ min 60 IntKind.u64.bits)=(m : Int):=Al a 60 m hm
theorem B1 (a : Nat) : Int.fdiv (a : Int) (2 ^ min 60 IntKind.u64.bits)=((a / 1152921504606846976 : Nat) : Int):=rb a 60
theorem LM (a : Nat) : Int.fdiv (a : Int) (2 ^ min 4 IntKind.u64.bits)=((a / 16 : Nat) : Int):=rb a 4
theorem wV (a : Nat) (ha : a < 18446744073709551616) : bits .and .u64 (a : Int) 1152921504606846975=((a % 1152921504606846976 : Nat) : Int):=by
 have h:=bits_and_u64_nat a 1152921504606846975 ha (by omega)
 have e : a &&& 1152921504606846975=a % 1152921504606846976:=Nat.and_two_pow_sub_one_eq_mod a 60
 rw [e] at h
 exact h
theorem Lq (a b : Nat) (hb : b < 16) (h : a * 16 + b < 18446744073709551616) : bits .or .u64 ((a * 16 : Nat) : Int) (b : Int)=((a * 16 + b : Nat) : Int):=orN a b 4 hb h
theorem RF (a b : Nat) (hb : b < 1152921504606846976) (h : a * 1152921504606846976 + b < 18446744073709551616) : bits .or .u64 ((a * 1152921504606846976 : Nat) : Int) (b : Int)=((a * 1152921504606846976 + b : Nat) : Int):=orN a b 60 hb h
def cI (p : Nat) (neg : Bool) : D:=.agg [.int .u64 ((p / 18446744073709551616 : Nat) : Int),.int .u64 ((p % 18446744073709551616 : Nat) : Int),.bool neg]
def wiD (p : Nat) : D:=.agg [.int .i64 ((p / 1152921504606846976 : Nat) : Int),.int .i64 ((p % 1152921504606846976 : Nat) : Int)]
variable {C : CC} (hC : aB prog C)
include hC
theorem jH (n : Nat) (h : n < 9223372036854775808) : C 112 [.int .i64 n] (.int .u64 (n : Int)) []:=by
 refine start hC (nf:=N112) rfl rfl ?_
 have h0 : ¬ (n : Int) < 0:=by omega
 simp [N112,h0,cE n (by omega)]
theorem jh (a b : Int) (n : Bool) : C 113 [.int .u64 a,.int .u64 b,.bool n] (.agg [.int .u64 a,.int .u64 b,.bool (n && (!decide (a=0) || !decide (b=0)))]) []:=by
 refine start hC (nf:=N113) rfl rfl ?_
 simp [N113]
 cases n <;> simp
 by_cases h : a=0 <;> simp [h]
theorem x7 (x y : Nat) (hx : x < 9223372036854775808) (hy : y < 9223372036854775808) : C 103 [.int .i64 x,.int .i64 y] (cI (x * y) false) []:=by
 refine start hC (nf:=N103) rfl rfl ?_
 have h0 : ¬ (x : Int) < 0:=by omega
 have h1 : ¬ (y : Int) < 0:=by omega
 have hm:=sH hC x y (by omega) (by omega)
 rw [cI]
 obtain ⟨zh,hzh⟩ : ∃ zh,zh=x * y / 18446744073709551616:=⟨_,rfl⟩
 obtain ⟨zl,hzl⟩ : ∃ zl,zl=x * y % 18446744073709551616:=⟨_,rfl⟩
 rw [<- hzh,<- hzl] at hm ⊢
 simp [N103]
 refine aa (jH hC x hx) (.inl rfl) ?_
 simp
 refine aa (jH hC y hy) (.inl rfl) ?_
 simp
 refine aa hm (.inl rfl) ?_
 simp [h0,h1]
 refine aa (jh hC zh zl false) (.inl rfl) ?_
 simp
theorem ll (n : Nat) (h : n < 9223372036854775808) : C 110 [.int .u64 n,.bool false] (.tup [.int .i64 n,.int .i64 0]) []:=by
 refine start hC (nf:=N110) rfl rfl ?_
 have h1 : (n : Int) <= 9223372036854775807:=by omega
 have h2 : IntKind.i64.wrap (n : Int)=(n : Int):=ac rfl (by omega)
 simp [N110,h1,h2]
theorem so (p d : Nat) (up : Bool) (q : Nat) (hd : d < 9223372036854775808) (hp : p / 18446744073709551616 < d) (hq : q < 9223372036854775808) (hv : q=if up then (p + d - 1) / d else p / d) (hqd : p / d + 1 < 9223372036854775808) : C 104 [cI p false,.int .i64 d,.bool up] (.tup [.int .i64 q,.int .i64 0]) []:=by
 obtain ⟨ph,hph⟩ : ∃ z,z=p / 18446744073709551616:=⟨_,rfl⟩
 obtain ⟨pl,hpl⟩ : ∃ z,z=p % 18446744073709551616:=⟨_,rfl⟩
 have hpp : ph * 18446744073709551616 + pl=p:=by omega
 obtain ⟨q0,hq0⟩ : ∃ z,z=p / d:=⟨_,rfl⟩
 obtain ⟨r0,hr0⟩ : ∃ z,z=p % d:=⟨_,rfl⟩
 have hdiv:=sG hC ph pl d (by omega) (by omega) (by omega)
 rw [hpp,<- hq0,<- hr0] at hdiv
 have hd0 : 0 < d:=by omega
 have hdp : d * q0 + r0=p:=by rw [hq0,hr0];exact Nat.div_add_mod p d
 have hrd : r0 < d:=by rw [hr0];exact Nat.mod_lt _ hd0
 have hup : up=true -> q=if 0 < r0 then q0 + 1 else q0:=by
  rintro rfl
  simp only [if_true] at hv
  rw [hv,<- hdp]
  by_cases h : 0 < r0
  ·rw [if_pos h,show d * q0 + r0 + d - 1=d * q0 + (d + (r0 - 1)) by omega,Nat.mul_add_div hd0,Nat.add_div_left _ hd0,Nat.div_eq_of_lt (by omega)]
  ·rw [if_neg h,show d * q0 + r0 + d - 1=d * q0 + (d - 1) by omega,Nat.mul_add_div hd0,Nat.div_eq_of_lt (by omega)]
   rfl
 rw [cI,<- hph,<- hpl]
 have h1 : ¬ (d : Int) <= (ph : Int):=by omega
 have h2 : ¬ (d : Int) < 0:=by omega
 have h3 : IntKind.u64.wrap ((q0 : Int) + 1)=((q0 + 1 : Nat) : Int):=uw (by omega) (by omega)
 refine start hC (nf:=N104) rfl rfl ?_
 simp [N104]
 refine aa (jH hC d hd) (.inl rfl) ?_
 simp [h1]
 refine aa hdiv (.inl rfl) ?_
 simp [h2]
 cases up
 ·have e : q=q0:=by rw [hv,hq0];rfl
  subst e
  refine ao (fun h=>?_) (fun h=>?_) <;> simp at h <;> simp [h]
  ·refine aa (ll hC q hq) (.inl rfl) ?_
   simp
  ·refine aa (ll hC q hq) (.inl rfl) ?_
   simp
 ·have hv:=hup rfl
  by_cases h : 0 < r0
  ·have hi : (0 : Int) < r0:=by omega
   rw [if_pos h] at hv
   subst hv
   have h4 : ¬ ((q0 : Int) + 1=0):=by omega
   simp [hi,h3,h4,h]
   refine aa (ll hC (q0 + 1) hq) (.inl rfl) ?_
   simp
  ·have hi : ¬ (0 : Int) < r0:=by omega
   rw [if_neg h] at hv
   subst hv
   simp [hi,h]
   refine aa (ll hC q hq) (.inl rfl) ?_
   simp
end Go.Gv

namespace Go.Gv
open Go.Lib
variable {C : CC} (hC : aB prog C)
include hC
theorem nk (p : Nat) (h : p < 1329227995784915872903807060280344576) : C 105 [cI p false] (.tup [wiD p,.int .i64 0]) []:=by
 obtain ⟨ph,hph⟩ : ∃ z,z=p / 1152921504606846976:=⟨_,rfl⟩
 obtain ⟨pl,hpl⟩ : ∃ z,z=p % 1152921504606846976:=⟨_,rfl⟩
 obtain ⟨zh,hzh⟩ : ∃ z,z=p / 18446744073709551616:=⟨_,rfl⟩
 obtain ⟨zl,hzl⟩ : ∃ z,z=p % 18446744073709551616:=⟨_,rfl⟩
 rw [wiD,cI,<- hph,<- hpl,<- hzh,<- hzl]
 obtain ⟨zt,hzt⟩ : ∃ z,z=zl / 1152921504606846976:=⟨_,rfl⟩
 have h1 : ¬ (72057594037927936 : Int) < zh:=by omega
 have h2 : ¬ (zh : Int)=72057594037927936:=by omega
 have e1:=LK zh (zh * 16) (by omega)
 have e2:=B1 zl
 rw [<- hzt] at e2
 have e3:=Lq zh zt (by omega) (by omega)
 have e4 : IntKind.i64.wrap ((zh * 16 + zt : Nat) : Int)=(ph : Int):=ac (by omega) (by omega)
 have e5:=wV zl (by omega)
 have e6 : IntKind.i64.wrap ((zl % 1152921504606846976 : Nat) : Int)=(pl : Int):=ac (by omega) (by omega)
 refine start hC (nf:=N105) rfl rfl ?_
 simp [N105,h1,h2,e2,-Int.natCast_mul,-Int.natCast_emod]
 refine ⟨aj (by decide +kernel),?_⟩
 rw [e1,e3,e4,e5,e6]
 simp
theorem AR (p : Nat) (h : p < 1329227995784915872903807060280344576) : C 108 [wiD p] (cI p false) []:=by
 obtain ⟨ph,hph⟩ : ∃ z,z=p / 1152921504606846976:=⟨_,rfl⟩
 obtain ⟨pl,hpl⟩ : ∃ z,z=p % 1152921504606846976:=⟨_,rfl⟩
 obtain ⟨zh,hzh⟩ : ∃ z,z=p / 18446744073709551616:=⟨_,rfl⟩
 obtain ⟨zl,hzl⟩ : ∃ z,z=p % 18446744073709551616:=⟨_,rfl⟩
 rw [wiD,cI,<- hph,<- hpl,<- hzh,<- hzl]
 have h1 : (0 : Int) <= ph:=by omega
 obtain ⟨w,hw⟩ : ∃ z,z=ph % 16:=⟨_,rfl⟩
 have e1 : Int.fdiv (ph : Int) (2 ^ min 4 IntKind.u64.bits)=(zh : Int):=by rw [LM];omega
 have e2 : IntKind.u64.wrap ((ph : Int) * 2 ^ min 60 IntKind.u64.bits)=((w * 1152921504606846976 : Nat) : Int):=BY ph _ (by omega)
 have e3 : IntKind.u64.wrap (pl : Int)=(pl : Int):=cE pl (by omega)
 have e4 : bits .or .u64 ((w * 1152921504606846976 : Nat) : Int) (pl : Int)=(zl : Int):=by
  rw [RF w pl (by omega) (by omega)];omega
 refine start hC (nf:=N108) rfl rfl ?_
 simp [N108]
 refine aa (jH hC ph (by omega)) (.inl rfl) ?_
 simp [h1]
 rw [e1,e2,e3,e4]
 simp
end Go.Gv

namespace Go.Gv
theorem zO (p : Nat) : ∃ a b : Int,cI p false=.agg [.int .u64 a,.int .u64 b,.bool false]:=⟨_,_,rfl⟩
theorem D5 (p : Nat) : ∃ a b : Int,wiD p=.agg [.int .i64 a,.int .i64 b]:=⟨_,_,rfl⟩
variable {C : CC} (hC : aB prog C)
include hC
theorem tG (x y : Nat) (hx : x < 9223372036854775808) (hy : y < 9223372036854775808) (h : x * y < 1329227995784915872903807060280344576) : C 99 [.int .i64 x,.int .i64 y] (.tup [wiD (x * y),.int .i64 0]) []:=by
 have k1:=x7 hC x y hx hy
 have k2:=nk hC (x * y) h
 obtain ⟨a,b,e1⟩:=zO (x * y)
 obtain ⟨c,d,e2⟩:=D5 (x * y)
 rw [e1] at k1 k2
 rw [e2] at k2 ⊢
 refine start hC (nf:=N99) rfl rfl ?_
 simp [N99]
 refine aa k1 (.inl rfl) ?_
 simp
 refine aa k2 (.inr rfl) ?_
 simp
end Go.Gv

namespace Go.Gv
def iq (x y : Int) : Int:=if x < y then -1 else if y < x then 1 else 0
variable {C : CC} (hC : aB prog C)
include hC
theorem s9 (x : Int) : C 299 [.int .i64 x] (.bool false) []:=by
 refine start hC (nf:=N299) rfl rfl ?_
 simp [N299]
theorem jn (x y : Int) : C 267 [.int .i64 x,.int .i64 y] (.int .i64 (iq x y)) []:=by
 have k1:=s9 hC x
 have k2:=s9 hC y
 refine start hC (nf:=N267) rfl rfl ?_
 simp [N267]
 refine aa k1 (.inl rfl) ?_
 simp
 refine aa k2 (.inl rfl) ?_
 simp
 refine ao (fun c1=>?_) (fun c1=>?_) <;> simp at c1 <;> simp [c1]
 ·rw [iq,if_pos c1]
 ·refine ao (fun c2=>?_) (fun c2=>?_) <;> simp at c2 <;> simp [c2]
  ·rw [iq,if_neg (by omega),if_pos c2]
  ·rw [iq,if_neg (by omega),if_neg (by omega)]
end Go.Gv

namespace Go.Gv
open Go.Lib
variable {C : CC} (hC : aB prog C)
include hC
theorem zX (a b c d : Nat) : C 87 [.agg [.int .u64 a,.int .u64 b],.agg [.int .u64 c,.int .u64 d]] (.bool (decide (a < c \/ (a=c /\ b < d)))) []:=by
 refine start hC (nf:=N87) rfl rfl ?_
 simp [N87]
 refine ao (fun h=>?_) (fun h=>?_) <;> simp at h <;> simp [h]
 have h3 : ¬ a < c:=by omega
 refine ao (fun h2=>?_) (fun h2=>?_) <;> simp at h2 <;> simp [h2,h3]
 ·have h4 : a=c:=by omega
  simp [h4]
 ·omega
theorem xn (a b c d p q : Nat) (ha : a < 18446744073709551616) (hb : b < 18446744073709551616) (hd : d < 18446744073709551616) (hq : q < 18446744073709551616) (h : p * 18446744073709551616 + q + (c * 18446744073709551616 + d)=a * 18446744073709551616 + b) : C 95 [.agg [.int .u64 a,.int .u64 b],.agg [.int .u64 c,.int .u64 d]] (.agg [.int .u64 p,.int .u64 q]) []:=by
 refine start hC (nf:=N95) rfl rfl ?_
 simp [N95]
 have e3 : IntKind.u64.wrap ((b : Int) - (d : Int))=(q : Int):=uw (by omega) hq
 refine ao (fun h1=>?_) (fun h1=>?_) <;> simp at h1 <;> simp [h1,e3]
 ·have e1 : IntKind.u64.wrap ((a : Int) - (c : Int))=((p + 1 : Nat) : Int):=uw (by omega) (by omega)
  rw [e1]
  exact uw (by omega) (by omega)
 ·exact uw (by omega) (by omega)
theorem DH (x y : Nat) (hx : x < 18446744073709551616) (hy : y < 18446744073709551616) : C 85 [.int .u64 x,.int .u64 y] (dj (x * y)) []:=by
 refine start hC (nf:=N85) rfl rfl ?_
 obtain ⟨bd,bt,bw,hhi⟩:=Lib.mul64_hi x y hx hy
 have ba:=Lib.half_mul_le (a:=x / 4294967296) (b:=y / 4294967296) (by omega) (by omega)
 have bb:=Lib.half_mul_le (a:=x / 4294967296) (b:=y % 4294967296) (by omega) (by omega)
 have bc:=Lib.half_mul_le (a:=x % 4294967296) (b:=y / 4294967296) (by omega) (by omega)
 have hxy : x * y=x / 4294967296 * (y / 4294967296) * 18446744073709551616 + (x / 4294967296 * (y % 4294967296) + x % 4294967296 * (y / 4294967296)) * 4294967296 + x % 4294967296 * (y % 4294967296):=by
  have e1 : x=x / 4294967296 * 4294967296 + x % 4294967296:=by omega
  have e2 : y=y / 4294967296 * 4294967296 + y % 4294967296:=by omega
  generalize x / 4294967296=ah at *
  generalize x % 4294967296=al at *
  generalize y / 4294967296=bh at *
  generalize y % 4294967296=bl at *
  rw [e1,e2,Nat.add_mul,Nat.mul_add,Nat.mul_add,Nat.add_mul]
  rw [show ah * 4294967296 * (bh * 4294967296)=ah * bh * 18446744073709551616 by rw [Nat.mul_assoc,Nat.mul_left_comm 4294967296,<- Nat.mul_assoc]]
  rw [show ah * 4294967296 * bl=ah * bl * 4294967296 by rw [Nat.mul_right_comm],show al * (bh * 4294967296)=al * bh * 4294967296 by rw [Nat.mul_assoc]]
  omega
 obtain ⟨P,hP⟩ : ∃ P,P=x / 4294967296 * (y / 4294967296):=⟨_,rfl⟩
 obtain ⟨Q,hQ⟩ : ∃ Q,Q=x / 4294967296 * (y % 4294967296):=⟨_,rfl⟩
 obtain ⟨R,hR⟩ : ∃ R,R=x % 4294967296 * (y / 4294967296):=⟨_,rfl⟩
 obtain ⟨L,hL⟩ : ∃ L,L=x % 4294967296 * (y % 4294967296):=⟨_,rfl⟩
 obtain ⟨Z,hZ⟩ : ∃ Z,Z=x * y:=⟨_,rfl⟩
 rw [<- hP,<- hQ,<- hR,<- hL,<- hZ] at hxy
 rw [<- hP] at ba
 rw [<- hQ] at bb
 rw [<- hR] at bc
 rw [<- hL] at bd
 obtain ⟨zh,hzh⟩ : ∃ zh,zh=Z / 18446744073709551616:=⟨_,rfl⟩
 obtain ⟨zl,hzl⟩ : ∃ zl,zl=Z % 18446744073709551616:=⟨_,rfl⟩
 rw [<- hZ,dj,<- hzh,<- hzl]
 simp [N85]
 simp only [kQ x hx,kQ y hy,nH,uz,<- hP,<- hQ,<- hR,<- hL,cE L bd,cE P (by omega),cE Q (by omega),cE R (by omega),rB]
 obtain ⟨M,hM⟩ : ∃ M,M=Q + L / 4294967296:=⟨_,rfl⟩
 have hM1 : M < 18446744073709551616:=by omega
 rw [<- hM,cE M hM1,nH,kQ M hM1,kQ L bd,rB]
 obtain ⟨O,hO⟩ : ∃ O,O=R + M % 4294967296:=⟨_,rfl⟩
 have hO1 : O < 18446744073709551616:=by omega
 obtain ⟨O2,hO2⟩ : ∃ O2,O2=O * 4294967296 % 18446744073709551616:=⟨_,rfl⟩
 simp only [rB R,<- hO,cE O hO1,nH,LJ O O2 hO2]
 rw [cE (P + M / 4294967296) (by omega),rB,rB,cE _ (by omega),cE _ (by omega)]
 clear hP hQ hR hL hZ bt bw hhi
 exact ⟨by omega,by omega⟩
theorem zY (a b : Nat) : C 84 [.agg [.int .u64 a,.int .u64 b],.bool false] (.agg [.int .u64 a,.int .u64 b,.bool false]) []:=by
 refine start hC (nf:=N84) rfl rfl ?_
 simp [N84]
 exact aj (by decide +kernel)
theorem xm (a b : Nat) : C 84 [.agg [.int .u64 a,.int .u64 b],.bool true] (.agg [.int .u64 a,.int .u64 b,.bool (!(decide (a=0) && decide (b=0)))]) []:=by
 refine start hC (nf:=N84) rfl rfl ?_
 simp [N84]
 exact aj (by decide +kernel)
def nmD (x : Nat) : D:=.agg [.int .u64 ((x / 18446744073709551616 : Nat) : Int),.int .u64 ((x % 18446744073709551616 : Nat) : Int),.bool false]
end Go.Gv

namespace Go.Gv
open Go.Lib
def wiS (v : Int) : D:=.agg [.int .i64 (v / 1152921504606846976),.int .i64 (v % 1152921504606846976)]
theorem mJ (p : Nat) : wiS p=wiD p:=by simp [wiS,wiD]
variable {C : CC} (hC : aB prog C)
include hC
theorem ro (n : Nat) (h0 : 0 < n) (h : n < 9223372036854775808) : C 112 [.int .i64 (-(n : Int))] (.int .u64 (n : Int)) []:=by
 have e1 : IntKind.u64.wrap (-(n : Int))=((18446744073709551616 - n : Nat) : Int):=uw (by omega) (by omega)
 have e2 : IntKind.u64.wrap (-((18446744073709551616 - n : Nat) : Int))=(n : Int):=uw (by omega) (by omega)
 have h1 : (-(n : Int)) < 0:=by omega
 refine start hC (nf:=N112) rfl rfl ?_
 obtain ⟨z,hz⟩ : ∃ z,z=-(n : Int):=⟨_,rfl⟩
 obtain ⟨y,hy⟩ : ∃ y,y=((18446744073709551616 - n : Nat) : Int):=⟨_,rfl⟩
 rw [<- hz] at e1 h1 ⊢
 rw [<- hy] at e1 e2
 simp [N112,h1,e1,e2]
theorem oF (p : Nat) (h0 : 0 < p) (h : p < 1329227995784915872903807060280344576) : C 105 [cI p true] (.tup [wiS (-(p : Int)),.int .i64 0]) []:=by
 obtain ⟨ph,hph⟩ : ∃ z,z=p / 1152921504606846976:=⟨_,rfl⟩
 obtain ⟨pl,hpl⟩ : ∃ z,z=p % 1152921504606846976:=⟨_,rfl⟩
 obtain ⟨zh,hzh⟩ : ∃ z,z=p / 18446744073709551616:=⟨_,rfl⟩
 obtain ⟨zl,hzl⟩ : ∃ z,z=p % 18446744073709551616:=⟨_,rfl⟩
 obtain ⟨qh,hqh⟩ : ∃ z,z=(-(p : Int)) / 1152921504606846976:=⟨_,rfl⟩
 obtain ⟨ql,hql⟩ : ∃ z,z=(-(p : Int)) % 1152921504606846976:=⟨_,rfl⟩
 rw [wiS,cI,<- hzh,<- hzl,<- hqh,<- hql]
 obtain ⟨zt,hzt⟩ : ∃ z,z=zl / 1152921504606846976:=⟨_,rfl⟩
 have h1 : ¬ (72057594037927936 : Int) < zh:=by omega
 have h2 : ¬ (zh : Int)=72057594037927936:=by omega
 have e1:=LK zh (zh * 16) (by omega)
 have e2:=B1 zl
 rw [<- hzt] at e2
 have e3:=Lq zh zt (by omega) (by omega)
 have e4 : IntKind.i64.wrap ((zh * 16 + zt : Nat) : Int)=(ph : Int):=ac (by omega) (by omega)
 have e5:=wV zl (by omega)
 have e6 : IntKind.i64.wrap ((zl % 1152921504606846976 : Nat) : Int)=(pl : Int):=ac (by omega) (by omega)
 have e7 : IntKind.i64.wrap (-(ph : Int))=-(ph : Int):=ac rfl (by omega)
 have e8 : IntKind.i64.wrap (-(ph : Int) - 1)=-(ph : Int) - 1:=ac rfl (by omega)
 have e9 : IntKind.i64.wrap (1152921504606846976 - (pl : Int))=1152921504606846976 - (pl : Int):=ac rfl (by omega)
 refine start hC (nf:=N105) rfl rfl ?_
 simp [N105,h1,h2,e2,-Int.natCast_mul,-Int.natCast_emod]
 refine ⟨aj (by decide +kernel),?_⟩
 rw [e1,e3,e4,e5,e6]
 simp
 refine ao (fun c1=>?_) (fun c1=>?_) <;> simp at c1
 ·simp [c1,e7]
  omega
 ·simp [c1,e7,e8,e9]
  omega
theorem lY (v : Int) (h : -1329227995784915872903807060280344576 <= v /\ v < 1329227995784915872903807060280344576) : C 106 [wiS v] (.bool true) []:=by
 obtain ⟨ph,hph⟩ : ∃ z,z=v / 1152921504606846976:=⟨_,rfl⟩
 obtain ⟨pl,hpl⟩ : ∃ z,z=v % 1152921504606846976:=⟨_,rfl⟩
 rw [wiS,<- hph,<- hpl]
 have h1 : (-1152921504606846976 : Int) <= ph:=by omega
 have h2 : ph < 1152921504606846976:=by omega
 have h3 : 0 <= pl:=by omega
 have h4 : pl < 1152921504606846976:=by omega
 refine start hC (nf:=N106) rfl rfl ?_
 simp [N106,h1,h2,h3,h4]
end Go.Gv

namespace Go.Gv
open Go.Lib
variable {C : CC} (hC : aB prog C)
include hC
theorem z6 (a b c d : Nat) : C 87 [.agg [.int .u64 a,.int .u64 b],.agg [.int .u64 c,.int .u64 d]] (.bool (decide (a < c \/ (a=c /\ b < d)))) []:=by
 refine start hC (nf:=N87) rfl rfl ?_
 simp [N87]
 refine ao (fun h=>?_) (fun h=>?_) <;> simp at h <;> simp [h]
 have h3 : ¬ a < c:=by omega
 refine ao (fun h2=>?_) (fun h2=>?_) <;> simp at h2 <;> simp [h2,h3]
 ·have h4 : a=c:=by omega
  simp [h4]
 ·omega
theorem xu (a b c d p q : Nat) (ha : a < 18446744073709551616) (hb : b < 18446744073709551616) (hd : d < 18446744073709551616) (hq : q < 18446744073709551616) (h : p * 18446744073709551616 + q + (c * 18446744073709551616 + d)=a * 18446744073709551616 + b) : C 95 [.agg [.int .u64 a,.int .u64 b],.agg [.int .u64 c,.int .u64 d]] (.agg [.int .u64 p,.int .u64 q]) []:=by
 refine start hC (nf:=N95) rfl rfl ?_
 simp [N95]
 have e3 : IntKind.u64.wrap ((b : Int) - (d : Int))=(q : Int):=uw (by omega) hq
 refine ao (fun h1=>?_) (fun h1=>?_) <;> simp at h1 <;> simp [h1,e3]
 ·have e1 : IntKind.u64.wrap ((a : Int) - (c : Int))=((p + 1 : Nat) : Int):=uw (by omega) (by omega)
  rw [e1]
  exact uw (by omega) (by omega)
 ·exact uw (by omega) (by omega)
theorem nv (a b w t p q : Nat) (hb : b < 18446744073709551616) (hw : w <= 1) (hp : p < 18446744073709551616) (hq : q < 18446744073709551616) (ht : (a * 18446744073709551616 + b) * 2 + w=(t * 18446744073709551616 + p) * 18446744073709551616 + q) : C 94 [.agg [.int .u64 a,.int .u64 b],.int .u64 w] (.agg [.int .u64 p,.int .u64 q]) []:=by
 refine start hC (nf:=N94) rfl rfl ?_
 simp [N94]
 obtain ⟨a2,ha2⟩ : ∃ a2,a2=a * 2 % 18446744073709551616:=⟨_,rfl⟩
 obtain ⟨b2,hb2⟩ : ∃ b2,b2=b * 2 % 18446744073709551616:=⟨_,rfl⟩
 obtain ⟨c,hc⟩ : ∃ c,c=b / 9223372036854775808:=⟨_,rfl⟩
 rw [xH,LI a a2 ha2,LI b b2 hb2,<- hc]
 exact ⟨uw (by omega) hp,uw (by omega) hq⟩
end Go.Gv

namespace Go.Gv
def DvS (x b i a q r : Nat) : Prop:=i <= 128 /\ r < b /\ ∃ c,a=c * 2 ^ i /\ c < 2 ^ (128 - i) /\ (q * b + r) * 2 ^ (128 - i) + c=x
theorem DvS.step {x b i a q r : Nat} (h : DvS x b i a q r) (hi : i < 128) (hb : 0 < b) :
  a < 340282366920938463463374607431768211456 /\ 2 * q <= x /\
  ∀ w r' a',2 * r + a / 170141183460469231731687303715884105728=w * b + r' -> r' < b -> a'=2 * a % 340282366920938463463374607431768211456 -> DvS x b (i + 1) a' (2 * q + w) r' /\ 2 * q + w <= x:=by
 obtain ⟨_,hr,c,h1,h2,h3⟩:=h
 obtain ⟨m,hm⟩ : ∃ m,m + 1=128 - i:=⟨127 - i,by omega⟩
 have hm2 : m=128 - (i + 1):=by omega
 rw [<- hm,Nat.pow_succ] at h2 h3
 obtain ⟨V,hV⟩ : ∃ V,V=2 ^ m:=⟨_,rfl⟩
 obtain ⟨W,hW⟩ : ∃ W,W=2 ^ i:=⟨_,rfl⟩
 have hVW : V * W=170141183460469231731687303715884105728:=by
  rw [hV,hW,<- Nat.pow_add,show m + i=127 by omega]
 have hVp : 0 < V:=by rw [hV];exact Nat.two_pow_pos m
 rw [<- hV] at h2 h3
 rw [<- hW] at h1
 obtain ⟨t,ht⟩ : ∃ t,t=c / V:=⟨_,rfl⟩
 obtain ⟨d,hd⟩ : ∃ d,d=c % V:=⟨_,rfl⟩
 have hc : c=t * V + d:=by rw [ht,hd,Nat.mul_comm];exact (Nat.div_add_mod c V).symm
 have hdV : d < V:=by rw [hd];exact Nat.mod_lt _ hVp
 have ht1 : t <= 1:=by
  have : t < 2:=by rw [ht,Nat.div_lt_iff_lt_mul hVp];omega
  omega
 have ha : a=t * 170141183460469231731687303715884105728 + d * W:=by
  rw [h1,hc,Nat.add_mul,Nat.mul_assoc,hVW]
 have hdW : d * W < 170141183460469231731687303715884105728:=by
  have : (d + 1) * W <= V * W:=Nat.mul_le_mul_right _ hdV
  rw [hVW,Nat.add_mul] at this
  have hWp : 0 < W:=by rw [hW];exact Nat.two_pow_pos i
  omega
 have hbit : a / 170141183460469231731687303715884105728=t:=by
  rw [ha];generalize d * W=z at *;omega
 have fin : ∀ w r',2 * r + t=w * b + r' -> ((2 * q + w) * b + r') * V + d=x:=fun w r' e=>by
  have e1 : (2 * q + w) * b + r'=2 * (q * b + r) + t:=by
   rw [Nat.add_mul,Nat.mul_assoc]
   generalize q * b=z at *
   generalize w * b=z' at *
   omega
  rw [e1,<- h3,hc,Nat.add_mul,Nat.mul_comm V 2,<- Nat.mul_assoc,Nat.mul_comm (q * b + r) 2]
  omega
 have big : ∀ w r',2 * r + t=w * b + r' -> 2 * q + w <= x:=fun w r' e=>by
  have e1:=fin w r' e
  have e2 : 2 * q + w <= (2 * q + w) * b:=Nat.le_mul_of_pos_right _ hb
  have e3 : (2 * q + w) * b + r' <= ((2 * q + w) * b + r') * V:=Nat.le_mul_of_pos_right _ hVp
  omega
 refine ⟨?_,?_,?_⟩
 ·rw [ha];generalize d * W=z at *;omega
 ·exact Nat.le_trans (Nat.le_add_right _ _) (big _ _ (Nat.div_add_mod' (2 * r + t) b).symm)
 ·intro w r' a' e hr' ha'
  rw [hbit] at e
  refine ⟨⟨by omega,hr',d,?_,?_,?_⟩,big w r' e⟩
  ·rw [ha',ha,Nat.pow_succ,<- hW,Nat.mul_comm W 2,Nat.mul_left_comm]
   generalize d * W=z at *
   omega
  ·rw [<- hm2,<- hV];exact hdV
  ·rw [<- hm2,<- hV];exact fin w r' e
theorem DvS.last {x b a q r : Nat} (h : DvS x b 128 a q r) : q=x / b /\ r=x % b:=by
 obtain ⟨_,hr,c,h1,h2,h3⟩:=h
 simp at h2 h3
 subst h2
 simp at h3
 subst h3
 have hb : 0 < b:=by omega
 rw [Nat.mul_comm,Nat.mul_add_div hb,Nat.div_eq_of_lt hr,Nat.mul_add_mod,Nat.mod_eq_of_lt hr]
 exact ⟨rfl,rfl⟩
variable {C : CC} (hC : aB prog C)
include hC
end Go.Gv

namespace Go.Gv
variable {C : CC} (hC : aB prog C)
include hC
set_option maxRecDepth 8000 in
set_option maxHeartbeats 4000000 in
theorem zZ (x b : Nat) (hx : x < 340282366920938463463374607431768211456) (hb0 : 0 < b) (hb : b < 170141183460469231731687303715884105728) : C 82 [.agg [.int .u64 ((x / 18446744073709551616 : Nat) : Int),.int .u64 ((x % 18446744073709551616 : Nat) : Int)],.agg [.int .u64 ((b / 18446744073709551616 : Nat) : Int),.int .u64 ((b % 18446744073709551616 : Nat) : Int)]]
  (.tup [.agg [.int .u64 ((x / b / 18446744073709551616 : Nat) : Int),.int .u64 ((x / b % 18446744073709551616 : Nat) : Int)],.agg [.int .u64 ((x % b / 18446744073709551616 : Nat) : Int),.int .u64 ((x % b % 18446744073709551616 : Nat) : Int)]]) []:=by
 obtain ⟨xh,hxh⟩ : ∃ xh,xh=x / 18446744073709551616:=⟨_,rfl⟩
 obtain ⟨xl,hxl⟩ : ∃ xl,xl=x % 18446744073709551616:=⟨_,rfl⟩
 obtain ⟨bh,hbh⟩ : ∃ bh,bh=b / 18446744073709551616:=⟨_,rfl⟩
 obtain ⟨bl,hbl⟩ : ∃ bl,bl=b % 18446744073709551616:=⟨_,rfl⟩
 obtain ⟨yh,hyh⟩ : ∃ yh,yh=x / b / 18446744073709551616:=⟨_,rfl⟩
 obtain ⟨yl,hyl⟩ : ∃ yl,yl=x / b % 18446744073709551616:=⟨_,rfl⟩
 obtain ⟨zh,hzh⟩ : ∃ z,z=x % b / 18446744073709551616:=⟨_,rfl⟩
 obtain ⟨zl,hzl⟩ : ∃ z,z=x % b % 18446744073709551616:=⟨_,rfl⟩
 rw [<- hxh,<- hxl,<- hyh,<- hyl,<- hzh,<- hzl,<- hbh,<- hbl]
 have hbb : bh * 18446744073709551616 + bl=b:=by rw [hbh,hbl];exact Nat.div_add_mod' _ _
 have hbl2 : bl < 18446744073709551616:=by rw [hbl];exact Nat.mod_lt _ (by decide)
 have hxl2 : xl < 18446744073709551616:=by rw [hxl];exact Nat.mod_lt _ (by decide)
 have h00 : (0 : Nat) < 18446744073709551616:=by decide
 have hxx : xh * 18446744073709551616 + xl=x:=by rw [hxh,hxl];exact Nat.div_add_mod' _ _
 have hS0 : DvS x b 0 (xh * 18446744073709551616 + xl) (0 * 18446744073709551616 + 0) (0 * 18446744073709551616 + 0):=by
  rw [hxx]
  have hpow : (2 : Nat) ^ 128=340282366920938463463374607431768211456:=by decide +kernel
  exact ⟨by omega,by simpa using hb0,x,by simp,by rw [Nat.sub_zero,hpow];exact hx,by simp⟩
 refine start hC (nf:=N82) rfl rfl ?_
 simp [N82]
 refine aw (Nat × Nat × Nat × Nat × Nat × Nat × Nat) (fun s=>[(2,.adr (.r 10032) 0 0),(3,.ptr [.int .u64 bh,.int .u64 bl]),(4,.adr (.r 10064) 0 0),(5,.adr (.r 10080) 0 0),(6,.adr (.r 10096) 0 0),(7,.adr (.r 10112) 0 0),(8,.int .i64 s.1),
   (10032,.blk 2 [[.int .u64 s.2.1,.int .u64 s.2.2.1]]),(10064,.blk 2 [[.int .u64 0,.int .u64 0]]),(10080,.blk 2 [[.int .u64 0,.int .u64 0]]),(10096,.blk 2 [[.int .u64 s.2.2.2.1,.int .u64 s.2.2.2.2.1]]),(10112,.blk 2 [[.int .u64 s.2.2.2.2.2.1,.int .u64 s.2.2.2.2.2.2]])])
  (fun s=>s.2.2.1 < 18446744073709551616 /\ s.2.2.2.2.1 < 18446744073709551616 /\ s.2.2.2.2.2.2 < 18446744073709551616 /\ DvS x b s.1 (s.2.1 * 18446744073709551616 + s.2.2.1) (s.2.2.2.1 * 18446744073709551616 + s.2.2.2.2.1) (s.2.2.2.2.2.1 * 18446744073709551616 + s.2.2.2.2.2.2)) (fun s=>128 - s.1) (0,xh,xl,0,0,0,0) ⟨hxl2,h00,h00,hS0⟩ (by simp) ?_
 rintro ⟨i,ah,al,qh,ql,rh,rl⟩ ⟨hal,hql,hrl,hS⟩
 simp only at hal hql hrl hS
 simp
 refine ao (fun c=>?_) (fun c=>?_) <;> simp at c <;> simp [c]
 ·have hrb:=hS.2.1
  have hw1 : IntKind.wrap .i64 ((i : Int) + 1)=((i + 1 : Nat) : Int):=ac (by omega) (by omega)
  obtain ⟨g1,g2,g3⟩:=hS.step (by omega) hb0
  obtain ⟨A,hA⟩ : ∃ A,A=ah * 18446744073709551616 + al:=⟨_,rfl⟩
  obtain ⟨Q,hQ⟩ : ∃ Q,Q=qh * 18446744073709551616 + ql:=⟨_,rfl⟩
  obtain ⟨r,hr⟩ : ∃ r,r=rh * 18446744073709551616 + rl:=⟨_,rfl⟩
  rw [<- hA] at g1 g3
  rw [<- hQ] at g2 g3
  rw [<- hr] at g3 hrb
  obtain ⟨t,ht⟩ : ∃ t,t=ah / 9223372036854775808:=⟨_,rfl⟩
  have ht2 : A / 170141183460469231731687303715884105728=t:=by omega
  rw [ht2] at g3
  have ht1 : t <= 1:=by omega
  have hrh : rh / 9223372036854775808=0:=by omega
  obtain ⟨p,hp⟩ : ∃ p,p=2 * A % 340282366920938463463374607431768211456 / 18446744073709551616:=⟨_,rfl⟩
  obtain ⟨o,ho⟩ : ∃ o,o=2 * A % 340282366920938463463374607431768211456 % 18446744073709551616:=⟨_,rfl⟩
  have k1:=nv hC ah al 0 t p o (by omega) (by omega) (by omega) (by omega) (by omega)
  obtain ⟨R,hR⟩ : ∃ R,R=2 * r + t:=⟨_,rfl⟩
  obtain ⟨Rh,hRh⟩ : ∃ z,z=R / 18446744073709551616:=⟨_,rfl⟩
  obtain ⟨Rl,hRl⟩ : ∃ z,z=R % 18446744073709551616:=⟨_,rfl⟩
  have k2:=nv hC rh rl t 0 Rh Rl (by omega) (by omega) (by omega) (by omega) (by omega)
  obtain ⟨u,hu⟩ : ∃ u,u=2 * Q / 18446744073709551616:=⟨_,rfl⟩
  obtain ⟨v,hv⟩ : ∃ v,v=2 * Q % 18446744073709551616:=⟨_,rfl⟩
  have k3:=nv hC qh ql 0 0 u v (by omega) (by omega) (by omega) (by omega) (by omega)
  rw [<- hR] at g3
  have k4:=z6 hC Rh Rl bh bl
  have hlt : decide (Rh < bh \/ (Rh=bh /\ Rl < bl))=decide (R < b):=by
   rw [Bool.eq_iff_iff,decide_eq_true_eq,decide_eq_true_eq]
   omega
  rw [hlt] at k4
  simp only [Int.natCast_zero] at k1 k3
  have hsh : Int.fdiv (ah : Int) (2 ^ min 63 IntKind.u64.bits)=(t : Int):=by rw [xH,ht]
  have hsh0 : Int.fdiv (rh : Int) (2 ^ min 63 IntKind.u64.bits)=0:=by rw [xH,hrh];rfl
  have e1 : p * 18446744073709551616 + o=2 * A % 340282366920938463463374607431768211456:=by rw [hp,ho];exact Nat.div_add_mod' _ _
  have e2 : u * 18446744073709551616 + v=2 * Q:=by rw [hu,hv];exact Nat.div_add_mod' _ _
  have e3 : Rh * 18446744073709551616 + Rl=R:=by rw [hRh,hRl];exact Nat.div_add_mod' _ _
  simp [hsh]
  refine aa k1 (.inl rfl) ?_
  simp [hsh0]
  refine aa k2 (.inl rfl) ?_
  simp
  refine aa k3 (.inl rfl) ?_
  simp
  refine aa k4 (.inl rfl) ?_
  by_cases d : R < b
  ·simp [d,hw1]
   obtain ⟨m1,m2⟩:=g3 0 R (2 * A % 340282366920938463463374607431768211456) (by omega) (by omega) rfl
   refine ⟨i + 1,p,o,u,v,Rh,Rl,⟨by clear g3 m1 m2;omega,by clear g3 m1 m2;omega,by clear g3 m1 m2;omega,?_⟩,by omega,?_⟩
   ·rw [e1,e2,e3];exact m1
   ·simp
  ·simp [d,hw1]
   obtain ⟨r3,hr3⟩ : ∃ r3,r3=R - b:=⟨_,rfl⟩
   obtain ⟨r3h,hr3h⟩ : ∃ z,z=r3 / 18446744073709551616:=⟨_,rfl⟩
   obtain ⟨r3l,hr3l⟩ : ∃ z,z=r3 % 18446744073709551616:=⟨_,rfl⟩
   obtain ⟨m1,m2⟩:=g3 1 r3 (2 * A % 340282366920938463463374607431768211456) (by omega) (by omega) rfl
   have hr3l2 : r3l < 18446744073709551616:=by rw [hr3l];exact Nat.mod_lt _ (by decide)
   have e4 : r3h * 18446744073709551616 + r3l=r3:=by rw [hr3h,hr3l];exact Nat.div_add_mod' _ _
   have hRl2 : Rl < 18446744073709551616:=by rw [hRl];exact Nat.mod_lt _ (by decide)
   have k5:=xu hC Rh Rl bh bl r3h r3l (by clear g3 m1 m2 hp ho hu hv hS g1 g2 k1 k2 k3 k4 e1 e2;omega) hRl2 hbl2 hr3l2 (by rw [e4,hbb,e3,hr3];exact Nat.sub_add_cancel (Nat.le_of_not_lt d))
   have hve : v % 2=0 /\ v < 18446744073709551616:=by
    clear g3 m1 m2 k1 k2 k3 k4 k5 hS e1 e2 hp ho g1 hA
    omega
   have hv1 : IntKind.u64.wrap ((v : Int) + 1)=((v + 1 : Nat) : Int):=uw (.inl (by push_cast;rfl)) (by clear g3 m1 m2 hp ho hu hv;omega)
   refine aa k5 (.inl rfl) ?_
   simp [hv1,hw1]
   refine ⟨i + 1,p,o,u,v + 1,r3h,r3l,⟨by clear g3 m1 m2 hu hv;omega,by clear g3 m1 m2 hp ho hu hv;omega,hr3l2,?_⟩,by omega,?_⟩
   ·rw [e1,<- Nat.add_assoc,e2,e4];exact m1
   ·simp
 ·obtain rfl : i=128:=by have:=hS.1;omega
  obtain ⟨e1,e2⟩:=hS.last
  refine ⟨aj (by decide +kernel),?_⟩
  obtain ⟨Y,hY⟩ : ∃ Y,Y=x / b:=⟨_,rfl⟩
  obtain ⟨Z,hZ⟩ : ∃ Z,Z=x % b:=⟨_,rfl⟩
  rw [<- hY] at e1 hyh hyl
  rw [<- hZ] at e2 hzh hzl
  have e3 : qh=yh:=by omega
  have e4 : ql=yl:=by omega
  have e5 : rh=zh:=by omega
  have e6 : rl=zl:=by omega
  subst e3 e4 e5 e6
  simp
end Go.Gv

namespace Go.Gv
open Go.Lib
def cF (v : Int) : D:=cI v.natAbs (decide (v < 0))
theorem bV {v : Int} {p : Nat} {b : Bool} (h1 : v.natAbs=p) (h2 : decide (v < 0)=b) : cF v=cI p b:=by rw [cF,h1,h2]
theorem cU (p : Nat) (b : Bool) : ∃ x y : Nat,x=p / 18446744073709551616 /\ y=p % 18446744073709551616 /\ cI p b=.agg [.int .u64 x,.int .u64 y,.bool b]:=⟨_,_,rfl,rfl,rfl⟩
theorem aY (p : Nat) : ∃ x y : Nat,x=p / 18446744073709551616 /\ y=p % 18446744073709551616 /\ dj p=.agg [.int .u64 x,.int .u64 y]:=⟨_,_,rfl,rfl,rfl⟩
theorem iw {n m : Int} (h : n=m \/ n=m + 18446744073709551616) (h2 : -9223372036854775808 <= m /\ m < 9223372036854775808) : IntKind.i64.wrap n=m:=by
 have e1 : IntKind.i64.signed=true:=rfl
 have e2 : (2 ^ (IntKind.i64.bits - 1) : Int)=9223372036854775808:=rfl
 have e3 : (2 ^ IntKind.i64.bits : Int)=18446744073709551616:=rfl
 unfold IntKind.wrap
 simp only [e1,e2,e3,Bool.true_and,decide_eq_true_eq]
 split <;> omega
variable {C : CC} (hC : aB prog C)
include hC
theorem nr (v : Int) (h : -9223372036854775808 <= v /\ v < 9223372036854775808) : C 86 [.int .i64 v] (.int .u64 (v.natAbs : Int)) []:=by
 obtain ⟨n,hn⟩ : ∃ n,n=v.natAbs:=⟨_,rfl⟩
 rw [<- hn]
 refine start hC (nf:=N86) rfl rfl ?_
 by_cases h0 : v < 0
 ·have e1 : IntKind.u64.wrap v=((18446744073709551616 - n : Nat) : Int):=uw (by omega) (by omega)
  have e2 : IntKind.u64.wrap (-((18446744073709551616 - n : Nat) : Int))=(n : Int):=uw (by omega) (by omega)
  obtain ⟨y,hy⟩ : ∃ y,y=((18446744073709551616 - n : Nat) : Int):=⟨_,rfl⟩
  rw [<- hy] at e1 e2
  simp [N86,h0,e1,e2]
 ·have e1 : IntKind.u64.wrap v=(n : Int):=uw (by omega) (by omega)
  simp [N86,h0,e1]
theorem qM (a b : Nat) (t : Bool) : C 84 [.agg [.int .u64 a,.int .u64 b],.bool t] (.agg [.int .u64 a,.int .u64 b,.bool (t && !(decide (a=0) && decide (b=0)))]) []:=by
 cases t
 ·exact zY hC a b
 ·rw [Bool.true_and];exact xm hC a b
theorem gf (p : Nat) (t : Bool) : C 84 [dj p,.bool t] (cI p (t && !decide (p=0))) []:=by
 obtain ⟨x,y,hx,hy,e⟩:=aY p
 have k:=qM hC x y t
 rw [show (decide (x=0) && decide (y=0))=decide (p=0) by rw [Bool.eq_iff_iff];simp;omega] at k
 rw [e,cI,<- hx,<- hy]
 exact k
theorem xk (p r : Nat) : C 87 [dj p,dj r] (.bool (decide (p < r))) []:=by
 obtain ⟨x,y,hx,hy,e⟩:=aY p
 obtain ⟨z,w,hz,hw,e2⟩:=aY r
 have k:=zX hC x y z w
 rw [show decide (x < z \/ (x=z /\ y < w))=decide (p < r) by rw [decide_eq_decide];omega] at k
 rw [e,e2]
 exact k
theorem oI (p r : Nat) (h : r <= p) (hp : p < 340282366920938463463374607431768211456) : C 95 [dj p,dj r] (dj (p - r)) []:=by
 obtain ⟨x,y,hx,hy,e⟩:=aY p
 obtain ⟨z,w,hz,hw,e2⟩:=aY r
 obtain ⟨s,t,hs,ht,e3⟩:=aY (p - r)
 rw [e,e2,e3]
 exact xn hC x y z w s t (by omega) (by omega) (by omega) (by omega) (by omega)
theorem qN (p r : Nat) (h : p + r < 340282366920938463463374607431768211456) : C 83 [dj p,dj r] (dj (p + r)) []:=by
 obtain ⟨x,y,hx,hy,e⟩:=aY p
 obtain ⟨z,w,hz,hw,e2⟩:=aY r
 obtain ⟨s,t,hs,ht,e3⟩:=aY (p + r)
 rw [e,e2,e3]
 have e4 : IntKind.u64.wrap ((y : Int) + (w : Int))=(t : Int):=uw (by omega) (by omega)
 refine start hC (nf:=N83) rfl rfl ?_
 by_cases c : t < y
 ·have e5 : IntKind.u64.wrap ((x : Int) + (z : Int))=((x + z : Nat) : Int):=uw (by omega) (by omega)
  have e6 : IntKind.u64.wrap (((x + z : Nat) : Int) + 1)=(s : Int):=uw (by omega) (by omega)
  have c2 : (t : Int) < y:=by omega
  obtain ⟨u,hu⟩ : ∃ u,u=((x + z : Nat) : Int):=⟨_,rfl⟩
  rw [<- hu] at e5 e6
  simp [N83,e4,e5,e6,c]
 ·have e5 : IntKind.u64.wrap ((x : Int) + (z : Int))=(s : Int):=uw (by omega) (by omega)
  have c2 : ¬ (t : Int) < y:=by omega
  simp [N83,e4,e5,c]
theorem tq (x y : Int) (hx : x.natAbs < 170141183460469231731687303715884105728) (hy : y.natAbs < 170141183460469231731687303715884105728) : C 337 [cF x,cF y] (cF (x + y)) []:=by
 obtain ⟨p,hp⟩ : ∃ p,p=x.natAbs:=⟨_,rfl⟩
 obtain ⟨r,hr⟩ : ∃ r,r=y.natAbs:=⟨_,rfl⟩
 obtain ⟨s,hs⟩ : ∃ s,s=decide (x < 0):=⟨_,rfl⟩
 obtain ⟨t,ht⟩ : ∃ t,t=decide (y < 0):=⟨_,rfl⟩
 have k1:=qN hC p r (by omega)
 have k2:=gf hC (p + r) s
 have k3:=xk hC p r
 have k4:=fun h=>oI hC r p h (by omega)
 have k5:=gf hC (r - p) t
 have k6:=fun h=>oI hC p r h (by omega)
 have k7:=gf hC (p - r) s
 rw [bV hp.symm hs.symm,bV hr.symm ht.symm]
 obtain ⟨a1,a2,_,_,ea⟩:=aY p
 obtain ⟨b1,b2,_,_,eb⟩:=aY r
 have en : ∀ (q : Nat) (b : Bool) (c1 c2 : Nat),dj q=.agg [.int .u64 c1,.int .u64 c2] -> cI q b=.agg [.int .u64 c1,.int .u64 c2,.bool b]:=fun q b c1 c2 h=>by
  simp only [dj,D.agg.injEq,List.cons.injEq,D.int.injEq,true_and,and_true] at h
  rw [cI,h.1,h.2]
 rw [en _ _ _ _ ea,en _ _ _ _ eb]
 rw [ea,eb] at k1 k3
 rw [ea,eb] at k4 k6
 by_cases c : s=t
 ·have e : cF (x + y)=cI (p + r) (s && !decide (p + r=0)):=bV (by
   subst c
   rw [hs,decide_eq_decide] at ht
   omega) (by
   subst c
   rw [hs] at ht ⊢
   rw [decide_eq_decide] at ht
   rw [Bool.eq_iff_iff]
   simp
   omega)
  rw [e]
  obtain ⟨d1,d2,_,_,ed⟩:=aY (p + r)
  rw [en _ _ _ _ ed]
  rw [en _ _ _ _ ed] at k2
  rw [ed] at k1 k2
  obtain ⟨w,hw⟩ : ∃ w,w=(s && !decide (p + r=0)):=⟨_,rfl⟩
  rw [<- hw] at k2 ⊢
  subst c
  clear hs ht hw
  refine start hC (nf:=N337) rfl rfl ?_
  simp [N337]
  refine aa k1 (.inl rfl) ?_
  simp
  refine aa k2 (.inl rfl) ?_
  simp
  exact aj (by decide +kernel)
 ·have c3 : (s == t)=false:=by simpa using c
  by_cases l : p < r
  ·have e : cF (x + y)=cI (r - p) (t && !decide (r - p=0)):=bV (by
    rw [hs,ht,decide_eq_decide] at c
    omega) (by
    rw [hs,ht,decide_eq_decide] at c
    rw [Bool.eq_iff_iff,ht]
    simp
    omega)
   have k4:=k4 (by omega)
   rw [e]
   obtain ⟨d1,d2,_,_,ed⟩:=aY (r - p)
   rw [en _ _ _ _ ed]
   rw [en _ _ _ _ ed] at k5
   rw [ed] at k4 k5
   obtain ⟨w,hw⟩ : ∃ w,w=(t && !decide (r - p=0)):=⟨_,rfl⟩
   rw [<- hw] at k5 ⊢
   rw [decide_eq_true l] at k3
   clear hs ht hw
   refine start hC (nf:=N337) rfl rfl ?_
   simp [N337,c3]
   refine aa k3 (.inl rfl) ?_
   simp
   refine aa k4 (.inl rfl) ?_
   simp
   refine aa k5 (.inl rfl) ?_
   simp
   exact aj (by decide +kernel)
  ·have e : cF (x + y)=cI (p - r) (s && !decide (p - r=0)):=bV (by
    rw [hs,ht,decide_eq_decide] at c
    omega) (by
    rw [hs,ht,decide_eq_decide] at c
    rw [Bool.eq_iff_iff,hs]
    simp
    omega)
   have k6:=k6 (by omega)
   rw [e]
   obtain ⟨d1,d2,_,_,ed⟩:=aY (p - r)
   rw [en _ _ _ _ ed]
   rw [en _ _ _ _ ed] at k7
   rw [ed] at k6 k7
   obtain ⟨w,hw⟩ : ∃ w,w=(s && !decide (p - r=0)):=⟨_,rfl⟩
   rw [<- hw] at k7 ⊢
   rw [decide_eq_false l] at k3
   clear hs ht hw
   refine start hC (nf:=N337) rfl rfl ?_
   simp [N337,c3]
   refine aa k3 (.inl rfl) ?_
   simp
   refine aa k6 (.inl rfl) ?_
   simp
   refine aa k7 (.inl rfl) ?_
   simp
   exact aj (by decide +kernel)
theorem tp (x : Int) : C 338 [cF x] (cF (-x)) []:=by
 obtain ⟨p,hp⟩ : ∃ p,p=x.natAbs:=⟨_,rfl⟩
 obtain ⟨s,hs⟩ : ∃ s,s=decide (x < 0):=⟨_,rfl⟩
 have k:=gf hC p (!s)
 rw [bV hp.symm hs.symm,bV (v:=-x) (p:=p) (b:=!s && !decide (p=0)) (by omega) (by rw [hs,Bool.eq_iff_iff];simp;omega)]
 obtain ⟨w,hw⟩ : ∃ w,w=(!s && !decide (p=0)):=⟨_,rfl⟩
 rw [<- hw] at k ⊢
 rw [cI,cI]
 rw [cI,dj] at k
 obtain ⟨a,ha⟩ : ∃ a,a=p / 18446744073709551616:=⟨_,rfl⟩
 obtain ⟨b,hb⟩ : ∃ b,b=p % 18446744073709551616:=⟨_,rfl⟩
 rw [<- ha,<- hb] at k ⊢
 clear hw hs
 refine start hC (nf:=N338) rfl rfl ?_
 simp [N338]
 refine aa k (.inl rfl) ?_
 simp
theorem lS (x y : Int) (hx : -9223372036854775808 <= x /\ x < 9223372036854775808) (hy : -9223372036854775808 <= y /\ y < 9223372036854775808) : C 67 [.int .i64 x,.int .i64 y] (cF (x * y)) []:=by
 have k1:=nr hC x hx
 have k2:=nr hC y hy
 have k3:=DH hC x.natAbs y.natAbs (by omega) (by omega)
 obtain ⟨p,hp⟩ : ∃ p,p=x.natAbs * y.natAbs:=⟨_,rfl⟩
 obtain ⟨s,hs⟩ : ∃ s,s=(decide (x < 0) != decide (y < 0)):=⟨_,rfl⟩
 have k4:=gf hC p s
 have e : cF (x * y)=cI p (s && !decide (p=0)):=bV (by rw [Int.natAbs_mul,hp]) (by
  rw [hs,hp,Bool.eq_iff_iff]
  simp only [decide_eq_true_eq,Bool.and_eq_true,bne_iff_ne,ne_eq,decide_eq_decide,Bool.not_eq_true',decide_eq_false_iff_not,Nat.mul_eq_zero,Int.natAbs_eq_zero]
  constructor
  ·intro h
   refine ⟨fun h2=>?_,fun h2=>?_⟩
   ·by_cases x0 : x < 0
    ·have:=Int.mul_nonneg_of_nonpos_of_nonpos (show x <= 0 by omega) (show y <= 0 by have:=h2.1 x0;omega)
     omega
    ·have:=Int.mul_nonneg (show 0 <= x by omega) (show 0 <= y by have:=mt h2.2 x0;omega)
     omega
   ·rcases h2 with rfl | rfl <;> simp at h
  ·rintro ⟨h1,h2⟩
   by_cases x0 : x < 0
   ·exact Int.mul_neg_of_neg_of_pos x0 (by by_cases y0 : y < 0;exact absurd (iff_of_true x0 y0) h1;omega)
   ·exact Int.mul_neg_of_pos_of_neg (by omega) (by by_cases y0 : y < 0;exact y0;exact absurd (iff_of_false x0 y0) h1))
 rw [e]
 rw [<- hp] at k3
 obtain ⟨w,hw⟩ : ∃ w,w=(s && !decide (p=0)):=⟨_,rfl⟩
 rw [<- hw] at k4 ⊢
 rw [cI]
 rw [cI,dj] at k4
 rw [dj] at k3
 obtain ⟨a,ha⟩ : ∃ a,a=p / 18446744073709551616:=⟨_,rfl⟩
 obtain ⟨b,hb⟩ : ∃ b,b=p % 18446744073709551616:=⟨_,rfl⟩
 rw [<- ha,<- hb] at k3 k4 ⊢
 obtain ⟨x1,hx1⟩ : ∃ n : Nat,n=x.natAbs:=⟨_,rfl⟩
 obtain ⟨y1,hy1⟩ : ∃ n : Nat,n=y.natAbs:=⟨_,rfl⟩
 rw [<- hx1] at k1 k3
 rw [<- hy1] at k2 k3
 clear hw hp
 refine start hC (nf:=N67) rfl rfl ?_
 simp [N67]
 refine aa k1 (.inl rfl) ?_
 simp
 refine aa k2 (.inl rfl) ?_
 simp
 refine aa k3 (.inl rfl) ?_
 by_cases x0 : x < 0 <;> by_cases y0 : y < 0 <;> simp [x0,y0] at hs <;> subst hs <;> simp [x0,y0] <;> refine aa k4 (.inl rfl) ?_ <;> simp
theorem uJ (v : Int) (h : -9223372036854775808 <= v /\ v < 9223372036854775808) : C 68 [.int .i64 v] (cF v) []:=by
 have k1:=nr hC v h
 obtain ⟨p,hp⟩ : ∃ p,p=v.natAbs:=⟨_,rfl⟩
 obtain ⟨s,hs⟩ : ∃ s,s=decide (v < 0):=⟨_,rfl⟩
 have k2:=qM hC 0 p s
 rw [bV hp.symm hs.symm,cI,show p / 18446744073709551616=0 by omega,show p % 18446744073709551616=p by omega]
 rw [show (s && !(decide (0=0) && decide (p=0)))=s by rw [hs,Bool.eq_iff_iff];simp;omega] at k2
 rw [<- hp] at k1
 simp only [Int.natCast_zero] at k2 ⊢
 refine start hC (nf:=N68) rfl rfl ?_
 simp [N68]
 refine aa k1 (.inl rfl) ?_
 by_cases v0 : v < 0 <;> simp [v0] at hs <;> subst hs <;> simp [v0] <;> refine aa k2 (.inl rfl) ?_ <;> simp
theorem oH (v : Int) (h : -9223372036854775808 <= v /\ v < 9223372036854775808) : C 93 [cF v] (.tup [.int .i64 v,.bool true]) []:=by
 obtain ⟨p,hp⟩ : ∃ p,p=v.natAbs:=⟨_,rfl⟩
 obtain ⟨s,hs⟩ : ∃ s,s=decide (v < 0):=⟨_,rfl⟩
 rw [bV hp.symm hs.symm,cI,show p / 18446744073709551616=0 by omega,show p % 18446744073709551616=p by omega]
 refine start hC (nf:=N93) rfl rfl ?_
 by_cases v0 : v < 0
 ·simp [v0] at hs
  subst hs
  have e1 : IntKind.u64.wrap (-(p : Int))=((18446744073709551616 - p : Nat) : Int):=uw (by omega) (by omega)
  have e2 : IntKind.i64.wrap ((18446744073709551616 - p : Nat) : Int)=v:=iw (by omega) (by omega)
  have e3 : (p : Int) <= 9223372036854775808:=by omega
  obtain ⟨y,hy⟩ : ∃ y,y=((18446744073709551616 - p : Nat) : Int):=⟨_,rfl⟩
  rw [<- hy] at e1 e2
  simp [N93,e1,e2,e3]
  exact aj (by decide +kernel)
 ·simp [v0] at hs
  subst hs
  have e1 : IntKind.i64.wrap (p : Int)=v:=ac (by omega) (by omega)
  have e3 : (p : Int) < 9223372036854775808:=by omega
  simp [N93,e1,e3]
  exact aj (by decide +kernel)
end Go.Gv

namespace Go.Gv
open Go.Lib
theorem gB (n b : Nat) (hb : 0 < b) : (-(n : Int)) / (b : Int)=-((if n % b=0 then n / b else n / b + 1 : Nat) : Int):=by
 have h1:=Nat.div_add_mod n b
 have h2:=Nat.mod_lt n hb
 obtain ⟨q,hq⟩ : ∃ q,q=n / b:=⟨_,rfl⟩
 obtain ⟨r,hr⟩ : ∃ r,r=n % b:=⟨_,rfl⟩
 rw [<- hq,<- hr] at h1
 rw [<- hr] at h2
 rw [<- hq,<- hr]
 clear hq hr
 subst h1
 split
 ·rename_i h
  subst h
  rw [Nat.add_zero,Int.natCast_mul,<- Int.mul_neg]
  exact Int.mul_ediv_cancel_left _ (by omega)
 ·rename_i h
  have e : -((b * q + r : Nat) : Int)=((b : Int) - r) + b * (-((q + 1 : Nat) : Int)):=by
   rw [Int.natCast_add,Int.natCast_mul,Int.natCast_add,Int.mul_neg,Int.mul_add]
   omega
  rw [e,Int.add_mul_ediv_left _ _ (by omega),Int.ediv_eq_zero_of_lt (by omega) (by omega)]
  omega
variable {C : CC} (hC : aB prog C)
include hC
theorem qK (a : Int) (b : Nat) (ha : a.natAbs < 170141183460469231731687303715884105728) (hb0 : 0 < b) (hb : b < 170141183460469231731687303715884105728) : C 66 [cF a,cF b] (cF (a / b)) []:=by
 obtain ⟨p,hp⟩ : ∃ p,p=a.natAbs:=⟨_,rfl⟩
 obtain ⟨s,hs⟩ : ∃ s,s=decide (a < 0):=⟨_,rfl⟩
 have k1 : C 82 [dj p,dj b] (.tup [dj (p / b),dj (p % b)]) []:=zZ hC p b (by omega) hb0 hb
 have hle : p / b <= p:=Nat.div_le_self p b
 obtain ⟨q,hq⟩ : ∃ q,q=p / b:=⟨_,rfl⟩
 obtain ⟨r,hr⟩ : ∃ r,r=p % b:=⟨_,rfl⟩
 have k2:=qN hC q 1 (by omega)
 have k3:=gf hC q s
 have k4:=gf hC (q + 1) s
 have eb : cF (b : Int)=cI b false:=bV (by omega) (by simp)
 rw [<- hq,<- hr] at k1
 rw [bV hp.symm hs.symm,eb]
 obtain ⟨p1,p2,_,_,ep⟩:=aY p
 obtain ⟨b1,b2,_,_,ebb⟩:=aY b
 obtain ⟨q1,q2,_,_,eq⟩:=aY q
 obtain ⟨r1,r2,hr1,hr2,er⟩:=aY r
 have en : ∀ (q : Nat) (b : Bool) (c1 c2 : Nat),dj q=.agg [.int .u64 c1,.int .u64 c2] -> cI q b=.agg [.int .u64 c1,.int .u64 c2,.bool b]:=fun q b c1 c2 h=>by
  simp only [dj,D.agg.injEq,List.cons.injEq,D.int.injEq,true_and,and_true] at h
  rw [cI,h.1,h.2]
 rw [en _ _ _ _ ep,en _ _ _ _ ebb]
 have e1 : dj 1=.agg [.int .u64 0,.int .u64 1]:=by simp [dj]
 rw [ep,ebb,eq,er] at k1
 by_cases c : s=true /\ r ≠ 0
 ·obtain ⟨c1,c2⟩:=c
  subst c1
  have a0:=of_decide_eq_true hs.symm
  have e : cF (a / b)=cI (q + 1) (true && !decide (q + 1=0)):=by
   have : a / (b : Int)=-((q + 1 : Nat) : Int):=by
    rw [show a=-(p : Int) by omega,gB p b hb0,<- hr,if_neg c2,hq]
   exact bV (by omega) (by simp;omega)
  rw [e]
  obtain ⟨d1,d2,_,_,ed⟩:=aY (q + 1)
  rw [en _ _ _ _ ed] at k4 ⊢
  rw [eq,ed,e1] at k2
  rw [ed] at k4
  obtain ⟨w,hw⟩ : ∃ w,w=(true && !decide (q + 1=0)):=⟨_,rfl⟩
  rw [<- hw] at k4 ⊢
  clear hw hs
  have c3 : ¬ (r1=0 /\ r2=0):=by omega
  have c4 : (decide (r1=0) && decide (r2=0))=false:=by simpa using c3
  refine start hC (nf:=N66) rfl rfl ?_
  simp [N66]
  refine aa k1 (.inr rfl) ?_
  simp [c4]
  refine aa k2 (.inl rfl) ?_
  simp
  refine aa k4 (.inl rfl) ?_
  simp
 ·have e : cF (a / b)=cI q (s && !decide (q=0)):=by
   by_cases a0 : a < 0
   ·have hs' : s=true:=by rw [hs];exact decide_eq_true a0
    subst hs'
    have c2 : r=0:=by
     by_cases c2 : r=0
     ·exact c2
     ·exact absurd ⟨rfl,c2⟩ c
    have : a / (b : Int)=-(q : Int):=by
     rw [show a=-(p : Int) by omega,gB p b hb0,<- hr,if_pos c2,hq]
    exact bV (by omega) (by rw [Bool.eq_iff_iff];simp;omega)
   ·have hs' : s=false:=by rw [hs];exact decide_eq_false a0
    subst hs'
    have : a / (b : Int)=(q : Int):=by
     rw [show a=(p : Int) by omega,hq];simp
    exact bV (by omega) (by simp;omega)
  rw [e]
  obtain ⟨w,hw⟩ : ∃ w,w=(s && !decide (q=0)):=⟨_,rfl⟩
  rw [<- hw] at k3 ⊢
  rw [en _ _ _ _ eq] at k3 ⊢
  rw [eq] at k3
  clear hw hs
  have c4 : s=true -> (r1=0 /\ r2=0):=fun h=>by
   have : r=0:=by
    by_cases c2 : r=0
    ·exact c2
    ·exact absurd ⟨h,c2⟩ c
   omega
  refine start hC (nf:=N66) rfl rfl ?_
  simp [N66]
  refine aa k1 (.inr rfl) ?_
  cases s
  ·simp
   refine aa k3 (.inl rfl) ?_
   simp
  ·obtain ⟨z1,z2⟩:=c4 rfl
   simp [z1,z2]
   refine aa k3 (.inl rfl) ?_
   simp
theorem DI (a : Int) (b : Nat) (ha : a.natAbs < 170141183460469231731687303715884105728) (hb0 : 0 < b) (hb : b < 170141183460469231731687303715884105728) : C 351 [cF a,cF b] (cF (-(-a / b))) []:=by
 have k1:=tp hC a
 have k2:=qK hC (-a) b (by omega) hb0 hb
 have k3:=tp hC (-a / b)
 obtain ⟨a1,a2,_,_,ea⟩:=cU a.natAbs (decide (a < 0))
 obtain ⟨b1,b2,_,_,eb⟩:=cU (b : Int).natAbs (decide ((b : Int) < 0))
 obtain ⟨c1,c2,_,_,ec⟩:=cU (-a).natAbs (decide (-a < 0))
 obtain ⟨d1,d2,_,_,ed⟩:=cU (-a / b).natAbs (decide (-a / b < 0))
 obtain ⟨x1,x2,_,_,ex⟩:=cU (-(-a / b)).natAbs (decide (-(-a / b) < 0))
 rw [cF,cF] at k1 k2 k3 ⊢
 rw [cF] at k2 ⊢
 rw [ea,ec] at k1
 rw [ec,eb,ed] at k2
 rw [ed,ex] at k3
 rw [ea,eb,ex]
 obtain ⟨n1,hn1⟩ : ∃ n,n=decide (a < 0):=⟨_,rfl⟩
 obtain ⟨n2,hn2⟩ : ∃ n,n=decide ((b : Int) < 0):=⟨_,rfl⟩
 obtain ⟨n3,hn3⟩ : ∃ n,n=decide (-a < 0):=⟨_,rfl⟩
 obtain ⟨n4,hn4⟩ : ∃ n,n=decide (-a / b < 0):=⟨_,rfl⟩
 obtain ⟨n5,hn5⟩ : ∃ n,n=decide (-(-a / b) < 0):=⟨_,rfl⟩
 rw [<- hn1,<- hn3] at k1
 rw [<- hn2,<- hn3,<- hn4] at k2
 rw [<- hn4,<- hn5] at k3
 rw [<- hn1,<- hn2,<- hn5]
 clear hn1 hn2 hn3 hn4 hn5
 refine start hC (nf:=N351) rfl rfl ?_
 simp [N351]
 refine aa k1 (.inl rfl) ?_
 simp
 refine aa k2 (.inl rfl) ?_
 simp
 refine aa k3 (.inl rfl) ?_
 simp
 exact aj (by decide +kernel)
end Go.Gv

namespace Go.Gv
variable {C : CC} (hC : aB prog C)
include hC
theorem va (x y : Nat) (hx0 : 0 < x) (hx : x < 9223372036854775808) (hy : y < 9223372036854775808) : C 103 [.int .i64 (-(x : Int)),.int .i64 y] (cI (x * y) (decide (x * y ≠ 0))) []:=by
 have h0 : (-(x : Int)) < 0:=by omega
 have h1 : ¬ (y : Int) < 0:=by omega
 have hm:=sH hC x y (by omega) (by omega)
 have k1:=ro hC x hx0 hx
 have k2:=jH hC y hy
 rw [cI]
 obtain ⟨Z,hZ⟩ : ∃ Z,Z=x * y:=⟨_,rfl⟩
 rw [<- hZ] at hm ⊢
 obtain ⟨zh,hzh⟩ : ∃ zh,zh=Z / 18446744073709551616:=⟨_,rfl⟩
 obtain ⟨zl,hzl⟩ : ∃ zl,zl=Z % 18446744073709551616:=⟨_,rfl⟩
 have k3:=jh hC zh zl true
 rw [show (true && (!decide ((zh : Int)=0) || !decide ((zl : Int)=0)))=decide (Z ≠ 0) by
  rw [Bool.eq_iff_iff];simp;omega] at k3
 rw [<- hzh,<- hzl] at hm ⊢
 obtain ⟨z,hz⟩ : ∃ z,z=-(x : Int):=⟨_,rfl⟩
 rw [<- hz] at k1 h0 ⊢
 obtain ⟨b,hb⟩ : ∃ b,b=decide (Z ≠ 0):=⟨_,rfl⟩
 rw [<- hb] at k3 ⊢
 refine start hC (nf:=N103) rfl rfl ?_
 simp [N103]
 refine aa k1 (.inl rfl) ?_
 simp
 refine aa k2 (.inl rfl) ?_
 simp
 refine aa hm (.inl rfl) ?_
 simp [h0,h1]
 refine aa k3 (.inl rfl) ?_
 simp
theorem ry (x : Int) (y : Nat) (hx : -9223372036854775808 < x /\ x < 9223372036854775808) (hy : y < 9223372036854775808) (h : x.natAbs * y < 1329227995784915872903807060280344576) : C 99 [.int .i64 x,.int .i64 y] (.tup [wiS (x * y),.int .i64 0]) []:=by
 by_cases h0 : x < 0
 ·obtain ⟨n,rfl⟩ : ∃ n : Nat,x=-(n : Int):=⟨x.natAbs,by omega⟩
  rw [Int.natAbs_neg,Int.natAbs_natCast] at h
  have k1:=va hC n y (by omega) (by omega) hy
  have e : -(n : Int) * (y : Int)=-((n * y : Nat) : Int):=by rw [Int.neg_mul,Int.natCast_mul]
  rw [e]
  obtain ⟨Z,hZ⟩ : ∃ Z,Z=n * y:=⟨_,rfl⟩
  rw [<- hZ] at k1 h ⊢
  have k2 : C 105 [cI Z (decide (Z ≠ 0))] (.tup [wiS (-(Z : Int)),.int .i64 0]) []:=by
   by_cases z0 : Z=0
   ·subst z0
    have:=nk hC 0 (by omega)
    rw [<- mJ] at this
    simpa using this
   ·rw [decide_eq_true z0]
    exact oF hC Z (by omega) h
  obtain ⟨c1,c2,e3⟩ : ∃ a b : Int,wiS (-(Z : Int))=.agg [.int .i64 a,.int .i64 b]:=⟨_,_,rfl⟩
  obtain ⟨i1,i2,i3,e7⟩ : ∃ a b c,cI Z (decide (Z ≠ 0))=.agg [.int .u64 a,.int .u64 b,.bool c]:=⟨_,_,_,rfl⟩
  rw [e7] at k1 k2
  rw [e3] at k2 ⊢
  obtain ⟨z,hz⟩ : ∃ z,z=-(n : Int):=⟨_,rfl⟩
  rw [<- hz] at k1 ⊢
  refine start hC (nf:=N99) rfl rfl ?_
  simp [N99]
  refine aa k1 (.inl rfl) ?_
  simp
  refine aa k2 (.inr rfl) ?_
  simp
 ·obtain ⟨n,rfl⟩ : ∃ n : Nat,x=(n : Int):=⟨x.natAbs,by omega⟩
  rw [Int.natAbs_natCast] at h
  have k:=tG hC n y (by omega) hy h
  rw [<- mJ] at k
  simpa using k
end Go.Gv

namespace Go.Gv
open Go.Lib
theorem cq (v : Int) : ∃ h l : Int,h=v / 1152921504606846976 /\ l=v % 1152921504606846976 /\ wiS v=.agg [.int .i64 h,.int .i64 l]:=⟨_,_,rfl,rfl,rfl⟩
variable {C : CC} (hC : aB prog C)
include hC
theorem uG (v : Int) (h : -1329227995784915872903807060280344576 < v /\ v < 1329227995784915872903807060280344576) : C 105 [cF v] (.tup [wiS v,.int .i64 0]) []:=by
 by_cases v0 : v < 0
 ·have k:=oF hC v.natAbs (by omega) (by omega)
  rw [show -((v.natAbs : Nat) : Int)=v by omega] at k
  rw [cF,decide_eq_true v0]
  exact k
 ·have k:=nk hC v.natAbs (by omega)
  rw [<- mJ,show ((v.natAbs : Nat) : Int)=v by omega] at k
  rw [cF,decide_eq_false v0]
  exact k
set_option maxHeartbeats 2000000 in
theorem nQ (v : Int) (h : -1329227995784915872903807060280344576 <= v /\ v < 1329227995784915872903807060280344576) : C 108 [wiS v] (cF v) []:=by
 by_cases v0 : v < 0
 ·obtain ⟨ph,pl,hph,hpl,e0⟩:=cq v
  obtain ⟨n,hn⟩ : ∃ n : Nat,n=ph.natAbs:=⟨_,rfl⟩
  obtain ⟨l,hl⟩ : ∃ l : Nat,l=pl.natAbs:=⟨_,rfl⟩
  obtain ⟨p,hp⟩ : ∃ p,p=v.natAbs:=⟨_,rfl⟩
  obtain ⟨zh,zl,hzh,hzl,e1⟩:=cU p true
  have epl : pl=(l : Int):=by omega
  have eph : ph=-(n : Int):=by omega
  have k1:=ro hC n (by omega) (by omega)
  rw [bV hp.symm (decide_eq_true v0),e0,e1,epl,eph]
  have h1 : ¬ (0 : Int) <= -(n : Int):=by omega
  obtain ⟨w,hw⟩ : ∃ z,z=n % 16:=⟨_,rfl⟩
  obtain ⟨t,ht⟩ : ∃ z,z=n / 16:=⟨_,rfl⟩
  have s1 : Int.fdiv (n : Int) (2 ^ min 4 IntKind.u64.bits)=(t : Int):=by rw [LM,ht]
  have s2 : IntKind.u64.wrap ((n : Int) * 2 ^ min 60 IntKind.u64.bits)=((w * 1152921504606846976 : Nat) : Int):=BY n _ (by omega)
  have s3 : IntKind.u64.wrap (l : Int)=(l : Int):=cE l (by omega)
  have c1 : (l : Int) < 18446744073709551616:=by omega
  have c2 : ((w * 1152921504606846976 : Nat) : Int) < 18446744073709551616:=by omega
  have s4 : (((w * 1152921504606846976 : Nat) : Int) - (l : Int)) % 18446744073709551616=(zl : Int):=by omega
  have s5 : IntKind.u64.wrap ((t : Int) - (if w * 1152921504606846976 < l then 1 else 0))=(zh : Int):=by
   split <;> exact uw (by omega) (by omega)
  obtain ⟨W,hW⟩ : ∃ W,W=w * 1152921504606846976:=⟨_,rfl⟩
  rw [<- hW] at s2 s4 s5 c2
  obtain ⟨z,hz⟩ : ∃ z,z=-(n : Int):=⟨_,rfl⟩
  rw [<- hz] at k1 h1 ⊢
  have c3 : (0 : Int) <= W:=by omega
  have c4 : (0 : Int) <= l:=by omega
  refine start hC (nf:=N108) rfl rfl ?_
  simp [N108]
  refine aa k1 (.inl rfl) ?_
  simp [h1]
  rw [s1,s2,s3]
  simp [c1,c2,s4,s5]
 ·have k:=AR hC v.natAbs (by omega)
  rw [<- mJ,show ((v.natAbs : Nat) : Int)=v by omega] at k
  rw [cF,decide_eq_false v0]
  exact k
set_option maxRecDepth 20000 in
set_option maxHeartbeats 4000000 in
theorem DZ (x y : Int) (hx : x.natAbs < 170141183460469231731687303715884105728) (hy : y.natAbs < 170141183460469231731687303715884105728) : C 107 [cF x,cF y] (cF (x + y)) []:=by
 obtain ⟨p,hp⟩ : ∃ p,p=x.natAbs:=⟨_,rfl⟩
 obtain ⟨r,hr⟩ : ∃ r,r=y.natAbs:=⟨_,rfl⟩
 obtain ⟨s,hs⟩ : ∃ s,s=decide (x < 0):=⟨_,rfl⟩
 obtain ⟨t,ht⟩ : ∃ t,t=decide (y < 0):=⟨_,rfl⟩
 rw [bV hp.symm hs.symm,bV hr.symm ht.symm]
 obtain ⟨ph,pl,hph,hpl,ep⟩:=cU p s
 obtain ⟨rh,rl,hrh,hrl,er⟩:=cU r t
 rw [ep,er]
 have k0 : (0 : Int) <= pl:=by omega
 have k1 : (0 : Int) <= rl:=by omega
 have k3 : (pl : Int) < 18446744073709551616:=by omega
 have k4 : (rl : Int) < 18446744073709551616:=by omega
 by_cases c : s=t
 ·have e : cF (x + y)=cI (p + r) (s && !decide (p + r=0)):=bV (by
   subst c
   rw [hs,decide_eq_decide] at ht
   omega) (by
   subst c
   rw [hs] at ht ⊢
   rw [decide_eq_decide] at ht
   rw [Bool.eq_iff_iff]
   simp
   omega)
  obtain ⟨dh,dl,hdh,hdl,ed⟩:=cU (p + r) (s && !decide (p + r=0))
  rw [e,ed]
  have kk:=jh hC dh dl s
  rw [show (s && (!decide ((dh : Int)=0) || !decide ((dl : Int)=0)))=(s && !decide (p + r=0)) by
   congr 1;rw [Bool.eq_iff_iff];simp;omega] at kk
  obtain ⟨w,hw⟩ : ∃ w,w=(s && !decide (p + r=0)):=⟨_,rfl⟩
  rw [<- hw] at kk ⊢
  subst c
  clear hs ht hw e ed
  have e1 : ((pl : Int) + rl) % 18446744073709551616=(dl : Int):=by omega
  have e2 : IntKind.u64.wrap ((ph : Int) + rh)=(ph : Int) + rh:=uw (m:=ph + rh) (by omega) (by omega)
  have e3 : IntKind.u64.wrap ((ph : Int) + rh + ((pl : Int) + rl) / 18446744073709551616)=(dh : Int):=uw (by omega) (by omega)
  obtain ⟨g,hg⟩ : ∃ g,g=((pl : Int) + rl) / 18446744073709551616:=⟨_,rfl⟩
  rw [<- hg] at e3
  refine start hC (nf:=N107) rfl rfl ?_
  simp [N107,k0,k1,k3,k4,e1,e2,e3,<- hg]
  refine aa kk (.inl rfl) ?_
  simp
 ·have c3 : (s == t)=false:=by simpa using c
  rw [hs,ht,decide_eq_decide] at c
  by_cases l : p < r
  ·have e : cF (x + y)=cI (r - p) (t && !decide (r - p=0)):=bV (by
    omega) (by
    rw [Bool.eq_iff_iff,ht]
    simp
    omega)
   obtain ⟨dh,dl,hdh,hdl,ed⟩:=cU (r - p) (t && !decide (r - p=0))
   rw [e,ed]
   have kk:=jh hC dh dl t
   rw [show (t && (!decide ((dh : Int)=0) || !decide ((dl : Int)=0)))=(t && !decide (r - p=0)) by
    congr 1;rw [Bool.eq_iff_iff];simp;omega] at kk
   obtain ⟨w,hw⟩ : ∃ w,w=(t && !decide (r - p=0)):=⟨_,rfl⟩
   rw [<- hw] at kk ⊢
   have e1 : ((rl : Int) - pl) % 18446744073709551616=(dl : Int):=by omega
   have e2 : IntKind.u64.wrap ((rh : Int) - ph)=((rh - ph : Nat) : Int):=uw (by omega) (by omega)
   have e3 : IntKind.u64.wrap (((rh - ph : Nat) : Int) - (if rl < pl then 1 else 0))=(dh : Int):=by
    split <;> exact uw (by omega) (by omega)
   have c5 : ph < rh \/ (ph=rh /\ pl < rl):=by omega
   clear hs ht hw e ed c
   refine start hC (nf:=N107) rfl rfl ?_
   simp [N107,c3]
   rcases c5 with c5 | ⟨c5,c6⟩
   ·simp [c5,k3,k4,e1,e2]
    rw [e3]
    refine aa kk (.inl rfl) ?_
    simp
   ·have c7 : ¬ rl < pl:=by omega
    have hd : dh=0:=by omega
    have hz : IntKind.u64.wrap 0=0:=cE 0 (by omega)
    subst hd
    clear hph hpl hrh hrl hdh hdl k0 k1
    subst c5
    refine ao (fun c4=>?_) (fun c4=>?_) <;> simp at c4
    simp
    refine ao (fun c4=>?_) (fun c4=>?_) <;> simp at c4
    ·simp [c4,c7,k3,k4,e1,hz]
     refine aa kk (.inl rfl) ?_
     simp
    ·omega
  ·have e : cF (x + y)=cI (p - r) (s && !decide (p - r=0)):=bV (by
    omega) (by
    rw [Bool.eq_iff_iff,hs]
    simp
    omega)
   obtain ⟨dh,dl,hdh,hdl,ed⟩:=cU (p - r) (s && !decide (p - r=0))
   rw [e,ed]
   have kk:=jh hC dh dl s
   rw [show (s && (!decide ((dh : Int)=0) || !decide ((dl : Int)=0)))=(s && !decide (p - r=0)) by
    congr 1;rw [Bool.eq_iff_iff];simp;omega] at kk
   obtain ⟨w,hw⟩ : ∃ w,w=(s && !decide (p - r=0)):=⟨_,rfl⟩
   rw [<- hw] at kk ⊢
   have e1 : ((pl : Int) - rl) % 18446744073709551616=(dl : Int):=by omega
   have e2 : IntKind.u64.wrap ((ph : Int) - rh)=((ph - rh : Nat) : Int):=uw (by omega) (by omega)
   have e3 : IntKind.u64.wrap (((ph - rh : Nat) : Int) - (if pl < rl then 1 else 0))=(dh : Int):=by
    split <;> exact uw (by omega) (by omega)
   have c5 : ¬ ph < rh:=by omega
   have c6 : ph=rh -> ¬ pl < rl:=by omega
   clear hs ht hw e ed c
   refine start hC (nf:=N107) rfl rfl ?_
   simp [N107,c3]
   simp [c5]
   refine ao (fun c7=>?_) (fun c7=>?_) <;> simp at c7 <;> simp [c7]
   ·have c8 : ¬ pl < rl:=c6 (by omega)
    have hd : dh=0:=by omega
    have hz : IntKind.u64.wrap 0=0:=cE 0 (by omega)
    subst hd
    refine ao (fun c4=>?_) (fun c4=>?_) <;> simp at c4 <;> simp [c4]
    ·omega
    simp [c8,k3,k4,e1,hz]
    refine aa kk (.inl rfl) ?_
    simp
   ·simp [k3,k4,e1,e2]
    rw [e3]
    refine aa kk (.inl rfl) ?_
    simp
theorem rq (x y : Int) (hx : -664613997892457936451903530140172288 <= x /\ x <= 664613997892457936451903530140172287) (hy : -664613997892457936451903530140172288 < y /\ y <= 664613997892457936451903530140172287) : C 327 [wiS x,wiS y] (.tup [wiS (x + y),.int .i64 0]) []:=by
 have k1:=lY hC x (by omega)
 have k2:=lY hC y (by omega)
 have k3:=nQ hC x (by omega)
 have k4:=nQ hC y (by omega)
 have k5:=DZ hC x y (by omega) (by omega)
 have k6:=uG hC (x + y) (by omega)
 obtain ⟨a1,a2,_,_,ea⟩:=cq x
 obtain ⟨b1,b2,_,_,eb⟩:=cq y
 obtain ⟨c1,c2,_,_,ec⟩:=cq (x + y)
 obtain ⟨f1,f2,f3,ef⟩ : ∃ (a1 a2 : Nat) (a3 : Bool),cF x=.agg [.int .u64 a1,.int .u64 a2,.bool a3]:=⟨_,_,_,rfl⟩
 obtain ⟨g1,g2,g3,eg⟩ : ∃ (a1 a2 : Nat) (a3 : Bool),cF y=.agg [.int .u64 a1,.int .u64 a2,.bool a3]:=⟨_,_,_,rfl⟩
 obtain ⟨h1,h2,h3,eh⟩ : ∃ (a1 a2 : Nat) (a3 : Bool),cF (x + y)=.agg [.int .u64 a1,.int .u64 a2,.bool a3]:=⟨_,_,_,rfl⟩
 rw [ea] at k1 k3 ⊢
 rw [eb] at k2 k4 ⊢
 rw [ef] at k3 k5
 rw [eg] at k4 k5
 rw [eh] at k5 k6
 rw [ec] at k6 ⊢
 clear ea eb ec ef eg eh
 refine start hC (nf:=N327) rfl rfl ?_
 simp [N327]
 refine aa k1 (.inl rfl) ?_
 simp
 refine aa k2 (.inl rfl) ?_
 simp
 refine aa k3 (.inl rfl) ?_
 simp
 refine aa k4 (.inl rfl) ?_
 simp
 refine aa k5 (.inl rfl) ?_
 simp
 refine aa k6 (.inr rfl) ?_
 simp
 exact aj (by decide +kernel)
theorem x4 (n : Nat) (h : n < 9223372036854775808) (b : Bool) : C 110 [.int .u64 n,.bool b] (.tup [.int .i64 (if b then -(n : Int) else n),.int .i64 0]) []:=by
 cases b
 ·exact ll hC n h
 ·by_cases h0 : n=0
  ·subst h0
   refine start hC (nf:=N110) rfl rfl ?_
   have hz : IntKind.u64.wrap 0=0:=by decide
   have hz2 : IntKind.i64.wrap 0=0:=by decide
   simp [N110,hz,hz2]
  ·have h1 : (n : Int) <= 9223372036854775808:=by omega
   have h2 : IntKind.u64.wrap (-(n : Int))=((18446744073709551616 - n : Nat) : Int):=uw (by omega) (by omega)
   have h3 : IntKind.i64.wrap ((18446744073709551616 - n : Nat) : Int)=-(n : Int):=iw (by omega) (by omega)
   obtain ⟨y,hy⟩ : ∃ y,y=((18446744073709551616 - n : Nat) : Int):=⟨_,rfl⟩
   rw [<- hy] at h2 h3
   refine start hC (nf:=N110) rfl rfl ?_
   simp [N110,h1,h2,h3]
theorem qO (p d : Nat) (up : Bool) (q : Nat) (hp0 : 0 < p) (hd : d < 9223372036854775808) (hp : p / 18446744073709551616 < d) (hq : q < 9223372036854775808) (hv : q=if up then p / d else if p % d=0 then p / d else p / d + 1) (hqd : p / d + 1 < 9223372036854775808) : C 104 [cI p true,.int .i64 d,.bool up] (.tup [.int .i64 (-(q : Int)),.int .i64 0]) []:=by
 obtain ⟨ph,hph⟩ : ∃ z,z=p / 18446744073709551616:=⟨_,rfl⟩
 obtain ⟨pl,hpl⟩ : ∃ z,z=p % 18446744073709551616:=⟨_,rfl⟩
 have hpp : ph * 18446744073709551616 + pl=p:=by omega
 obtain ⟨q0,hq0⟩ : ∃ z,z=p / d:=⟨_,rfl⟩
 obtain ⟨r0,hr0⟩ : ∃ z,z=p % d:=⟨_,rfl⟩
 have hdiv:=sG hC ph pl d (by omega) (by omega) (by omega)
 rw [hpp,<- hq0,<- hr0] at hdiv
 rw [<- hq0,<- hr0] at hv
 rw [cI,<- hph,<- hpl]
 have h1 : ¬ (d : Int) <= (ph : Int):=by omega
 have h2 : ¬ (d : Int) < 0:=by omega
 have h3 : IntKind.u64.wrap ((q0 : Int) + 1)=((q0 + 1 : Nat) : Int):=uw (by omega) (by omega)
 have kw:=x4 hC q hq (decide (0 < q))
 have kq : (if decide (0 < q)=true then -(q : Int) else (q : Int))=-(q : Int):=by
  by_cases h : 0 < q
  ·simp [h]
  ·have : q=0:=by omega
   subst this
   simp
 rw [kq] at kw
 obtain ⟨Q,hQ⟩ : ∃ Q,Q=-(q : Int):=⟨_,rfl⟩
 rw [<- hQ] at kw ⊢
 refine start hC (nf:=N104) rfl rfl ?_
 simp [N104]
 refine aa (jH hC d hd) (.inl rfl) ?_
 simp [h1]
 refine aa hdiv (.inl rfl) ?_
 simp [h2]
 cases up
 ·by_cases h : 0 < r0
  ·have hi : (0 : Int) < r0:=by omega
   have e : q=q0 + 1:=by rw [hv];simp;omega
   subst e
   have h4 : ¬ ((q0 : Int) + 1=0):=by omega
   simp [hi,h3,h4,h]
   simp at kw
   refine aa kw (.inl rfl) ?_
   simp
  ·have hi : ¬ (0 : Int) < r0:=by omega
   have e : q=q0:=by rw [hv];simp;omega
   subst e
   simp [hi,h]
   refine aa kw (.inl rfl) ?_
   simp
 ·have e : q=q0:=by rw [hv];simp
  subst e
  by_cases h : 0 < r0
  ·have hi : (0 : Int) < r0:=by omega
   simp [hi,h]
   refine aa kw (.inl rfl) ?_
   simp
  ·have hi : ¬ (0 : Int) < r0:=by omega
   simp [hi,h]
   refine aa kw (.inl rfl) ?_
   simp
end Go.Gv

namespace Go.Gv
theorem bQ : IntKind.wrap .i64 1=1:=by decide
theorem bW : IntKind.wrap .i64 2=2:=by decide
theorem bX : IntKind.wrap .i64 3=3:=by decide
variable {C : CC} (hC : aB prog C)
include hC
set_option maxHeartbeats 1000000 in
theorem BX {t u : Tri} (ht : okT t=true) (hu : okT u=true) : C 311 [.agg (cx t),.agg (cx u)] (.bool (qZ t u)) []:=by
 simp only [okT,Bool.and_eq_true] at ht hu
 obtain ⟨⟨t1,t2⟩,t3⟩:=ht
 obtain ⟨⟨u1,u2⟩,u3⟩:=hu
 have kk:=fun (p q r : Pnt) (hp : okP p=true) (hq : okP q=true) (hr : okP r=true)=>th hC hp hq hr
 simp only [ptD] at kk
 have E : qZ t u=(jg t.1 t.2.1 u || jg t.2.1 t.2.2 u || jg t.2.2 t.1 u):=rfl
 rw [E]
 clear E
 have S : ∀ p q,jg p q u=(decide (ai p q u.1 <= 0) && decide (ai p q u.2.1 <= 0) && decide (ai p q u.2.2 <= 0)):=fun p q=>rfl
 refine start hC (nf:=N311) rfl rfl ?_
 rw [cx,cx]
 simp [N311]
 refine aw Nat (fun i=>[(2,.ptr (cx t)),(3,.ptr (cx u)),(8,.int .i64 i)]) (fun i=>i <= 3 /\ (1 <= i -> jg t.1 t.2.1 u=false) /\ (2 <= i -> jg t.2.1 t.2.2 u=false) /\ (3 <= i -> jg t.2.2 t.1 u=false)) (fun i=>3 - i) 0 (by simp) (by simp [cx]) ?_
 rintro i ⟨hi,s1,s2,s3⟩
 rcases (by omega : i=0 \/ i=1 \/ i=2 \/ i=3) with rfl | rfl | rfl | rfl
 ·simp [cx,bQ,bW,bX]
  refine ⟨aj (by decide +kernel),?_⟩
  refine aa (kk t.1 t.2.1 u.1 t1 t2 u1) (.inl rfl) ?_
  simp
  refine ao (fun h1=>?_) (fun h1=>?_) <;> simp at h1
  ·simp [h1]
   refine aa (kk t.1 t.2.1 u.2.1 t1 t2 u2) (.inl rfl) ?_
   simp
   refine ao (fun h2=>?_) (fun h2=>?_) <;> simp at h2
   ·simp [h2]
    refine aa (kk t.1 t.2.1 u.2.2 t1 t2 u3) (.inl rfl) ?_
    simp
    refine ao (fun h3=>?_) (fun h3=>?_) <;> simp at h3 <;> simp [h3]
    ·simp [S,h1,h2,h3]
    ·refine ⟨1,⟨by omega,fun _=>by simp only [S,Bool.and_eq_false_iff,decide_eq_false_iff_not];omega,fun h=>by omega,fun h=>by omega⟩,by omega,?_⟩ <;> simp [bQ,bW,bX]
   ·simp [Int.not_le.2 h2]
    refine ⟨1,⟨by omega,fun _=>by simp only [S,Bool.and_eq_false_iff,decide_eq_false_iff_not];omega,fun h=>by omega,fun h=>by omega⟩,by omega,?_⟩ <;> simp [bQ,bW,bX]
  ·simp [Int.not_le.2 h1]
   refine ⟨1,⟨by omega,fun _=>by simp only [S,Bool.and_eq_false_iff,decide_eq_false_iff_not];omega,fun h=>by omega,fun h=>by omega⟩,by omega,?_⟩ <;> simp [bQ,bW,bX]
 ·simp [cx,bQ,bW,bX]
  refine ⟨aj (by decide +kernel),?_⟩
  refine aa (kk t.2.1 t.2.2 u.1 t2 t3 u1) (.inl rfl) ?_
  simp
  refine ao (fun h1=>?_) (fun h1=>?_) <;> simp at h1
  ·simp [h1]
   refine aa (kk t.2.1 t.2.2 u.2.1 t2 t3 u2) (.inl rfl) ?_
   simp
   refine ao (fun h2=>?_) (fun h2=>?_) <;> simp at h2
   ·simp [h2]
    refine aa (kk t.2.1 t.2.2 u.2.2 t2 t3 u3) (.inl rfl) ?_
    simp
    refine ao (fun h3=>?_) (fun h3=>?_) <;> simp at h3 <;> simp [h3]
    ·simp [S,h1,h2,h3]
    ·refine ⟨2,⟨by omega,fun _=>s1 (by omega),fun _=>by simp only [S,Bool.and_eq_false_iff,decide_eq_false_iff_not];omega,fun h=>by omega⟩,by omega,?_⟩ <;> simp [bQ,bW,bX]
   ·simp [Int.not_le.2 h2]
    refine ⟨2,⟨by omega,fun _=>s1 (by omega),fun _=>by simp only [S,Bool.and_eq_false_iff,decide_eq_false_iff_not];omega,fun h=>by omega⟩,by omega,?_⟩ <;> simp [bQ,bW,bX]
  ·simp [Int.not_le.2 h1]
   refine ⟨2,⟨by omega,fun _=>s1 (by omega),fun _=>by simp only [S,Bool.and_eq_false_iff,decide_eq_false_iff_not];omega,fun h=>by omega⟩,by omega,?_⟩ <;> simp [bQ,bW,bX]
 ·simp [cx,bQ,bW,bX]
  refine ⟨aj (by decide +kernel),?_⟩
  refine aa (kk t.2.2 t.1 u.1 t3 t1 u1) (.inl rfl) ?_
  simp
  refine ao (fun h1=>?_) (fun h1=>?_) <;> simp at h1
  ·simp [h1]
   refine aa (kk t.2.2 t.1 u.2.1 t3 t1 u2) (.inl rfl) ?_
   simp
   refine ao (fun h2=>?_) (fun h2=>?_) <;> simp at h2
   ·simp [h2]
    refine aa (kk t.2.2 t.1 u.2.2 t3 t1 u3) (.inl rfl) ?_
    simp
    refine ao (fun h3=>?_) (fun h3=>?_) <;> simp at h3 <;> simp [h3]
    ·simp [S,h1,h2,h3]
    ·refine ⟨3,⟨by omega,fun _=>s1 (by omega),fun _=>s2 (by omega),fun _=>by simp only [S,Bool.and_eq_false_iff,decide_eq_false_iff_not];omega⟩,by omega,?_⟩ <;> simp [bQ,bW,bX]
   ·simp [Int.not_le.2 h2]
    refine ⟨3,⟨by omega,fun _=>s1 (by omega),fun _=>s2 (by omega),fun _=>by simp only [S,Bool.and_eq_false_iff,decide_eq_false_iff_not];omega⟩,by omega,?_⟩ <;> simp [bQ,bW,bX]
  ·simp [Int.not_le.2 h1]
   refine ⟨3,⟨by omega,fun _=>s1 (by omega),fun _=>s2 (by omega),fun _=>by simp only [S,Bool.and_eq_false_iff,decide_eq_false_iff_not];omega⟩,by omega,?_⟩ <;> simp [bQ,bW,bX]
 ·simp [s1 (by omega),s2 (by omega),s3 (by omega)]
def nX (t : Tri) : List (List D):=[ptD t.1,ptD t.2.1,ptD t.2.2]
set_option maxHeartbeats 1000000 in
theorem qR {t u : Tri} (ht : okT t=true) (hu : okT u=true) : C 324 [.sl (nX t),.sl (nX u)] (.bool (qZ t u)) []:=by
 simp only [okT,Bool.and_eq_true] at ht hu
 obtain ⟨⟨t1,t2⟩,t3⟩:=ht
 obtain ⟨⟨u1,u2⟩,u3⟩:=hu
 have kk:=fun (p q r : Pnt) (hp : okP p=true) (hq : okP q=true) (hr : okP r=true)=>gD hC hp hq hr
 simp only [ptD] at kk
 have E : qZ t u=(jg t.1 t.2.1 u || jg t.2.1 t.2.2 u || jg t.2.2 t.1 u):=rfl
 rw [E]
 clear E
 have S : ∀ p q,jg p q u=(decide (ai p q u.1 <= 0) && decide (ai p q u.2.1 <= 0) && decide (ai p q u.2.2 <= 0)):=fun p q=>rfl
 refine start hC (nf:=N324) rfl rfl ?_
 simp only [nX,ptD]
 simp [N324]
 refine aw Nat (fun i=>[(0,.sl (nX t)),(1,.sl (nX u)),(5,.int .i64 i)]) (fun i=>i <= 3 /\ (1 <= i -> jg t.1 t.2.1 u=false) /\ (2 <= i -> jg t.2.1 t.2.2 u=false) /\ (3 <= i -> jg t.2.2 t.1 u=false)) (fun i=>3 - i) 0 (by simp) (by simp [nX,ptD]) ?_
 rintro i ⟨hi,s1,s2,s3⟩
 rcases (by omega : i=0 \/ i=1 \/ i=2 \/ i=3) with rfl | rfl | rfl | rfl
 ·simp [nX,ptD,bQ,bW,bX]
  refine ⟨aj (by decide +kernel),?_⟩
  refine aa (kk t.1 t.2.1 u.1 t1 t2 u1) (.inl rfl) ?_
  simp
  refine ao (fun h1=>?_) (fun h1=>?_) <;> simp at h1
  ·simp [h1]
   refine aa (kk t.1 t.2.1 u.2.1 t1 t2 u2) (.inl rfl) ?_
   simp
   refine ao (fun h2=>?_) (fun h2=>?_) <;> simp at h2
   ·simp [h2]
    refine aa (kk t.1 t.2.1 u.2.2 t1 t2 u3) (.inl rfl) ?_
    simp
    refine ⟨aj (by decide +kernel),?_⟩
    refine ao (fun h3=>?_) (fun h3=>?_) <;> simp at h3 <;> simp [h3]
    ·simp [S,h1,h2,h3]
    ·refine ⟨1,⟨by omega,fun _=>by simp only [S,Bool.and_eq_false_iff,decide_eq_false_iff_not];omega,fun h=>by omega,fun h=>by omega⟩,by omega,?_⟩ <;> simp [bQ,bW,bX]
   ·simp [Int.not_le.2 h2]
    refine ⟨aj (by decide +kernel),?_⟩
    refine ⟨1,⟨by omega,fun _=>by simp only [S,Bool.and_eq_false_iff,decide_eq_false_iff_not];omega,fun h=>by omega,fun h=>by omega⟩,by omega,?_⟩ <;> simp [bQ,bW,bX]
  ·simp [Int.not_le.2 h1]
   refine ⟨aj (by decide +kernel),?_⟩
   refine ⟨1,⟨by omega,fun _=>by simp only [S,Bool.and_eq_false_iff,decide_eq_false_iff_not];omega,fun h=>by omega,fun h=>by omega⟩,by omega,?_⟩ <;> simp [bQ,bW,bX]
 ·simp [nX,ptD,bQ,bW,bX]
  refine ⟨aj (by decide +kernel),?_⟩
  refine aa (kk t.2.1 t.2.2 u.1 t2 t3 u1) (.inl rfl) ?_
  simp
  refine ao (fun h1=>?_) (fun h1=>?_) <;> simp at h1
  ·simp [h1]
   refine aa (kk t.2.1 t.2.2 u.2.1 t2 t3 u2) (.inl rfl) ?_
   simp
   refine ao (fun h2=>?_) (fun h2=>?_) <;> simp at h2
   ·simp [h2]
    refine aa (kk t.2.1 t.2.2 u.2.2 t2 t3 u3) (.inl rfl) ?_
    simp
    refine ⟨aj (by decide +kernel),?_⟩
    refine ao (fun h3=>?_) (fun h3=>?_) <;> simp at h3 <;> simp [h3]
    ·simp [S,h1,h2,h3]
    ·refine ⟨2,⟨by omega,fun _=>s1 (by omega),fun _=>by simp only [S,Bool.and_eq_false_iff,decide_eq_false_iff_not];omega,fun h=>by omega⟩,by omega,?_⟩ <;> simp [bQ,bW,bX]
   ·simp [Int.not_le.2 h2]
    refine ⟨aj (by decide +kernel),?_⟩
    refine ⟨2,⟨by omega,fun _=>s1 (by omega),fun _=>by simp only [S,Bool.and_eq_false_iff,decide_eq_false_iff_not];omega,fun h=>by omega⟩,by omega,?_⟩ <;> simp [bQ,bW,bX]
  ·simp [Int.not_le.2 h1]
   refine ⟨aj (by decide +kernel),?_⟩
   refine ⟨2,⟨by omega,fun _=>s1 (by omega),fun _=>by simp only [S,Bool.and_eq_false_iff,decide_eq_false_iff_not];omega,fun h=>by omega⟩,by omega,?_⟩ <;> simp [bQ,bW,bX]
 ·simp [nX,ptD,bQ,bW,bX]
  refine ⟨aj (by decide +kernel),?_⟩
  refine aa (kk t.2.2 t.1 u.1 t3 t1 u1) (.inl rfl) ?_
  simp
  refine ao (fun h1=>?_) (fun h1=>?_) <;> simp at h1
  ·simp [h1]
   refine aa (kk t.2.2 t.1 u.2.1 t3 t1 u2) (.inl rfl) ?_
   simp
   refine ao (fun h2=>?_) (fun h2=>?_) <;> simp at h2
   ·simp [h2]
    refine aa (kk t.2.2 t.1 u.2.2 t3 t1 u3) (.inl rfl) ?_
    simp
    refine ⟨aj (by decide +kernel),?_⟩
    refine ao (fun h3=>?_) (fun h3=>?_) <;> simp at h3 <;> simp [h3]
    ·simp [S,h1,h2,h3]
    ·refine ⟨3,⟨by omega,fun _=>s1 (by omega),fun _=>s2 (by omega),fun _=>by simp only [S,Bool.and_eq_false_iff,decide_eq_false_iff_not];omega⟩,by omega,?_⟩ <;> simp [bQ,bW,bX]
   ·simp [Int.not_le.2 h2]
    refine ⟨aj (by decide +kernel),?_⟩
    refine ⟨3,⟨by omega,fun _=>s1 (by omega),fun _=>s2 (by omega),fun _=>by simp only [S,Bool.and_eq_false_iff,decide_eq_false_iff_not];omega⟩,by omega,?_⟩ <;> simp [bQ,bW,bX]
  ·simp [Int.not_le.2 h1]
   refine ⟨aj (by decide +kernel),?_⟩
   refine ⟨3,⟨by omega,fun _=>s1 (by omega),fun _=>s2 (by omega),fun _=>by simp only [S,Bool.and_eq_false_iff,decide_eq_false_iff_not];omega⟩,by omega,?_⟩ <;> simp [bQ,bW,bX]
 ·simp [s1 (by omega),s2 (by omega),s3 (by omega)]
end Go.Gv

namespace Go.Gv
def okc (m : Msh) (a b : Int) : Bool:=gN m.s.length a && decide (a ≠ b) && bf (spt m a.toNat)
def okF (m : Msh) (f : Fce) : Bool:=okc m f.a f.b && okc m f.b f.c && okc m f.c f.a && decide (0 <= f.k) && decide (f.k < 16)
def mtc (f g : Fce) (i k : Nat) : Bool:=decide (crn f i=crn g k) && decide (crn f (i + 1)=crn g (k + 1))
def lW (f g : Fce) : Bool:=(List.range 3).any fun i=>(List.range 3).any fun k=>mtc f g i k
theorem jv {m : Msh} {f : Fce} (h : okF m f=true) : inS m f=true:=by
 simp only [okF,okc,Bool.and_eq_true] at h
 simp only [inS,Bool.and_eq_true]
 exact ⟨⟨h.1.1.1.1.1.1,h.1.1.1.2.1.1⟩,h.1.1.2.1.1⟩
theorem cQ {m : Msh} {f : Fce} (h : okF m f=true) : okT (aU m f)=true:=by
 simp only [okF,okc,Bool.and_eq_true] at h
 simp only [okT,aU,Bool.and_eq_true]
 exact ⟨⟨j6 h.1.1.1.1.2,j6 h.1.1.1.2.2⟩,j6 h.1.1.2.2⟩
def qd (n : Nat) : UInt8:=UInt8.ofNat (48 + n % 10)
def o7 (n : Nat) (out : List UInt8) : List UInt8:=if n < 10 then qd n::out else o7 (n / 10) (qd n::out)
def rM (n : Nat) (out : List UInt8) : List UInt8:=if n=0 then out else o7 n out
theorem oo (n : Nat) (out : List UInt8) : o7 n out=rM (n / 10) (qd n::out):=by
 rw [o7,rM]
 by_cases h : n < 10
 ·rw [if_pos h,if_pos (by omega)]
 ·rw [if_neg h,if_neg (by omega)]
variable {C : CC} (hC : aB prog C)
include hC
theorem tv (m : Msh) (f : Fce) (hs : inS m f=true) (ht : okT (aU m f)=true) : C 293 [.agg (aN m),.agg (bq f)] (.int .i64 (oR (aU m f))) []:=by
 have k1:=pC hC m f hs
 have k2:=ht
 simp only [okT,Bool.and_eq_true] at k2
 have k3:=gD hC k2.1.1 k2.1.2 k2.2
 obtain ⟨t,e⟩ : ∃ t,t=aU m f:=⟨_,rfl⟩
 rw [<- e] at k1 k3 ⊢
 refine start hC (nf:=N293) rfl rfl ?_
 rw [aN,bq] at k1 ⊢
 simp only [ptD] at k1 k3
 simp [N293]
 refine aa k1 (.inr rfl) ?_
 simp
 refine aa k3 (.inl rfl) ?_
 simp [oR]
 exact aj (by decide +kernel)
theorem sw (m : Msh) (f g : Fce) (hs : inS m f=true) (ht : okT (aU m f)=true) (hs' : inS m g=true) (ht' : okT (aU m g)=true) : C 295 [.agg (aN m),.agg (bq f),.agg (bq g)] (.bool (ovT (aU m f) (aU m g))) []:=by
 have k1:=pC hC m f hs
 have k2:=pC hC m g hs'
 have k3:=qR hC ht ht'
 have k4:=qR hC ht' ht
 obtain ⟨t,e⟩ : ∃ t,t=aU m f:=⟨_,rfl⟩
 obtain ⟨u,e'⟩ : ∃ u,u=aU m g:=⟨_,rfl⟩
 rw [<- e] at k1 k3 k4 ⊢
 rw [<- e'] at k2 k3 k4 ⊢
 refine start hC (nf:=N295) rfl rfl ?_
 rw [aN,bq] at k1 k2 ⊢
 rw [bq]
 simp only [nX,ptD] at k1 k2 k3 k4
 simp [N295]
 refine aa k1 (.inr rfl) ?_
 simp
 refine aa k2 (.inr rfl) ?_
 simp
 refine ⟨aj (by decide +kernel),?_⟩
 refine aa k3 (.inl rfl) ?_
 simp
 cases h1 : qZ t u <;> simp [ovT,h1]
 refine aa k4 (.inl rfl) ?_
 simp
 exact fun _=>h1
theorem Ae (f g : Fce) : C 294 [.agg (bq f),.agg (bq g)] (.bool (lW f g)) []:=by
 have kf:=fun k (h : k < 4)=>oJ hC f k h
 have kg:=fun k (h : k < 4)=>oJ hC g k h
 refine start hC (nf:=N294) rfl rfl ?_
 rw [bq] at kf ⊢
 rw [bq] at kg ⊢
 simp [N294]
 refine aw Nat (fun i=>[(2,.ptr (bq f)),(3,.ptr (bq g)),(5,.int .i64 i)]) (fun i=>i <= 3 /\ ∀ a,a < i -> ∀ b,b < 3 -> mtc f g a b=false) (fun i=>3 - i) 0 (by simp) (by simp [bq]) ?_
 rintro i ⟨hi,hI⟩
 simp [bq]
 refine ao (fun c1=>?_) (fun c1=>?_) <;> simp at c1 <;> simp [c1]
 ·have hw : IntKind.wrap .i64 ((i : Int) + 1)=((i + 1 : Nat) : Int):=ac (by omega) (by omega)
  refine aw Nat (fun k=>[(2,.ptr (bq f)),(3,.ptr (bq g)),(5,.int .i64 i),(6,.int .i64 k)]) (fun k=>k <= 3 /\ ∀ b,b < k -> mtc f g i b=false) (fun k=>3 - k) 0 (by simp) (by simp [bq]) ?_
  rintro k ⟨hk,hK⟩
  simp [bq]
  refine ao (fun c2=>?_) (fun c2=>?_) <;> simp at c2 <;> simp [c2]
  ·have hw2 : IntKind.wrap .i64 ((k : Int) + 1)=((k + 1 : Nat) : Int):=ac (by omega) (by omega)
   refine aa (kf i (by omega)) (.inl rfl) ?_
   simp
   refine aa (kg k (by omega)) (.inl rfl) ?_
   simp
   by_cases h1 : crn f i=crn g k
   ·simp [h1,hw,hw2]
    refine aa (kf (i + 1) (by omega)) (.inl rfl) ?_
    simp [hw2]
    refine aa (kg (k + 1) (by omega)) (.inl rfl) ?_
    simp
    refine ⟨aj (by decide +kernel),?_⟩
    by_cases h2 : crn f (i + 1)=crn g (k + 1)
    ·simp [h2]
     refine List.any_eq_true.2 ⟨i,List.mem_range.2 (by omega),List.any_eq_true.2 ⟨k,List.mem_range.2 (by omega),?_⟩⟩
     simp [mtc,h1,h2]
    ·simp [h2,hw2]
     refine ⟨k + 1,⟨by omega,fun b hb=>?_⟩,by omega,?_⟩
     rotate_left
     ·omega
     rcases Nat.lt_succ_iff_lt_or_eq.1 hb with h | rfl
     ·exact hK b h
     ·simp [mtc,h2]
   ·simp [h1,hw2]
    refine ⟨aj (by decide +kernel),?_⟩
    refine ⟨k + 1,⟨by omega,fun b hb=>?_⟩,by omega,?_⟩
    rotate_left
    ·omega
    rcases Nat.lt_succ_iff_lt_or_eq.1 hb with h | rfl
    ·exact hK b h
    ·simp [mtc,h1]
  ·simp [hw]
   refine ⟨i + 1,⟨by omega,fun a ha b hb=>?_⟩,by omega,?_⟩
   rotate_left
   ·omega
   rcases Nat.lt_succ_iff_lt_or_eq.1 ha with h | rfl
   ·exact hI a h b hb
   ·exact hK b (by omega)
 ·rw [lW]
  rw [Bool.eq_false_iff]
  intro h
  rw [List.any_eq_true] at h
  obtain ⟨a,ha,h⟩:=h
  rw [List.any_eq_true] at h
  obtain ⟨b,hb,h⟩:=h
  rw [hI a (by have:=List.mem_range.1 ha;omega) b (List.mem_range.1 hb)] at h
  cases h
set_option maxHeartbeats 2000000 in
theorem DK (m : Msh) (f : Fce) (hn : m.s.length < 2 ^ 40) : C 292 [.agg (aN m),.agg (bq f)] (.bool (okF m f)) []:=by
 have ks:=fun s=>tr hC s
 have E : ∀ a b : Int,okc m a b=(decide (0 <= a) && decide (a < m.s.length) && decide (a ≠ b) && bf (spt m a.toNat)):=fun a b=>rfl
 have E2 : okF m f=(okc m f.a f.b && okc m f.b f.c && okc m f.c f.a && decide (0 <= f.k) && decide (f.k < 16)):=rfl
 refine start hC (nf:=N292) rfl rfl ?_
 rw [aN,bq]
 simp only [eA] at ks
 simp [N292]
 refine aw Nat (fun i=>[(2,.ptr (aN m)),(3,.ptr (bq f)),(5,.ref (.r 10080) 0 3),(10080,.blk 1 [[.int .i64 f.a],[.int .i64 f.b],[.int .i64 f.c]]),(6,.int .i64 i)]) (fun i=>i <= 3 /\ (1 <= i -> okc m f.a f.b=true) /\ (2 <= i -> okc m f.b f.c=true) /\ (3 <= i -> okc m f.c f.a=true)) (fun i=>3 - i) 0 (by simp) (by simp [bq,aN]) ?_
 rintro i ⟨hi,s1,s2,s3⟩
 rcases (by omega : i=0 \/ i=1 \/ i=2 \/ i=3) with rfl | rfl | rfl | rfl
 ·have no : okc m f.a f.b=false -> okF m f=false:=fun h=>by simp [E2,h]
  simp [bq,aN,bQ,bW,bX]
  refine ao (fun c1=>?_) (fun c1=>?_) <;> simp at c1
  ·simp [c1]
   exact ⟨aj (by decide +kernel),no (by rw [E,decide_eq_false (by omega)];simp)⟩
  ·simp [Int.not_lt.2 c1]
   refine ao (fun c2=>?_) (fun c2=>?_) <;> simp at c2
   ·simp [c2]
    exact ⟨aj (by decide +kernel),no (by rw [E,decide_eq_false (show ¬ f.a < m.s.length by omega)];simp)⟩
   ·simp [Int.not_le.2 c2,bQ,bW,bX]
    by_cases c3 : f.a=f.b
    ·simp [c3,bQ,bW,bX]
     exact ⟨aj (by decide +kernel),no (by rw [E,decide_eq_false (show ¬ f.a ≠ f.b by omega)];simp)⟩
    ·simp [c3,c1,bQ,bW,bX]
     refine ⟨by omega,by simp [eA],?_⟩
     simp [bz]
     refine aa (ks (spt m f.a.toNat)) (.inl rfl) ?_
     cases c4 : bf (spt m f.a.toNat)
     ·simp
      exact ⟨aj (by decide +kernel),no (by rw [E,c4];simp)⟩
     ·simp
      refine ⟨aj (by decide +kernel),?_⟩
      refine ⟨1,⟨by omega,fun _=>by rw [E];simp [c1,c3,c4];omega,fun h=>by omega,fun h=>by omega⟩,by omega,?_⟩ <;> simp [bQ,bW,bX]
 ·have no : okc m f.b f.c=false -> okF m f=false:=fun h=>by simp [E2,h]
  simp [bq,aN,bQ,bW,bX]
  refine ao (fun c1=>?_) (fun c1=>?_) <;> simp at c1
  ·simp [c1]
   exact ⟨aj (by decide +kernel),no (by rw [E,decide_eq_false (by omega)];simp)⟩
  ·simp [Int.not_lt.2 c1]
   refine ao (fun c2=>?_) (fun c2=>?_) <;> simp at c2
   ·simp [c2]
    exact ⟨aj (by decide +kernel),no (by rw [E,decide_eq_false (show ¬ f.b < m.s.length by omega)];simp)⟩
   ·simp [Int.not_le.2 c2,bQ,bW,bX]
    by_cases c3 : f.b=f.c
    ·simp [c3,bQ,bW,bX]
     exact ⟨aj (by decide +kernel),no (by rw [E,decide_eq_false (show ¬ f.b ≠ f.c by omega)];simp)⟩
    ·simp [c3,c1,bQ,bW,bX]
     refine ⟨by omega,by simp [eA],?_⟩
     simp [bz]
     refine aa (ks (spt m f.b.toNat)) (.inl rfl) ?_
     cases c4 : bf (spt m f.b.toNat)
     ·simp
      exact ⟨aj (by decide +kernel),no (by rw [E,c4];simp)⟩
     ·simp
      refine ⟨aj (by decide +kernel),?_⟩
      refine ⟨2,⟨by omega,fun _=>s1 (by omega),fun _=>by rw [E];simp [c1,c3,c4];omega,fun h=>by omega⟩,by omega,?_⟩ <;> simp [bQ,bW,bX]
 ·have no : okc m f.c f.a=false -> okF m f=false:=fun h=>by simp [E2,h]
  simp [bq,aN,bQ,bW,bX]
  refine ao (fun c1=>?_) (fun c1=>?_) <;> simp at c1
  ·simp [c1]
   exact ⟨aj (by decide +kernel),no (by rw [E,decide_eq_false (by omega)];simp)⟩
  ·simp [Int.not_lt.2 c1]
   refine ao (fun c2=>?_) (fun c2=>?_) <;> simp at c2
   ·simp [c2]
    exact ⟨aj (by decide +kernel),no (by rw [E,decide_eq_false (show ¬ f.c < m.s.length by omega)];simp)⟩
   ·simp [Int.not_le.2 c2,bQ,bW,bX]
    by_cases c3 : f.c=f.a
    ·simp [c3,bQ,bW,bX]
     exact ⟨aj (by decide +kernel),no (by rw [E,decide_eq_false (show ¬ f.c ≠ f.a by omega)];simp)⟩
    ·simp [c3,c1,bQ,bW,bX]
     refine ⟨by omega,by simp [eA],?_⟩
     simp [bz]
     refine aa (ks (spt m f.c.toNat)) (.inl rfl) ?_
     cases c4 : bf (spt m f.c.toNat)
     ·simp
      exact ⟨aj (by decide +kernel),no (by rw [E,c4];simp)⟩
     ·simp
      refine ⟨aj (by decide +kernel),?_⟩
      refine ⟨3,⟨by omega,fun _=>s1 (by omega),fun _=>s2 (by omega),fun _=>by rw [E];simp [c1,c3,c4];omega⟩,by omega,?_⟩ <;> simp [bQ,bW,bX]
 ·have t1:=s1 (by omega)
  have t2:=s2 (by omega)
  have t3:=s3 (by omega)
  simp [bq,aN,E2,t1,t2,t3]
  refine ao (fun c1=>?_) (fun c1=>?_) <;> simp at c1 <;> simp [c1] <;> rw [E2,t1,t2,t3] <;> simp [c1]
  omega
theorem DJ (n : Nat) (hn : n < 100) : C 290 [.int .i64 n] (.str (o7 n [])) []:=by
 refine start hC (nf:=N290) rfl rfl ?_
 simp [N290]
 refine aw (Nat × List UInt8) (fun s=>[(0,.int .i64 s.1),(3,.str s.2)]) (fun s=>s.1 + s.2.length <= n + 1 /\ ((s.2=[] /\ s.1=n) \/ (s.2 ≠ [] /\ rM s.1 s.2=o7 n []))) (fun s=>s.1 + if s.2=[] then 1 else 0) (n,[]) (by simp) (by simp) ?_
 rintro ⟨k,out⟩ ⟨hl,hI⟩
 simp only at hl hI
 have ww : IntKind.wrap .i64 ((k : Int) / 10)=((k / 10 : Nat) : Int):=ac (by omega) (by omega)
 have wq : IntKind.wrap .i64 (48 + (k : Int) % 10)=48 + (k : Int) % 10:=ac rfl (by omega)
 have et : (k : Int).tmod 10=(k : Int) % 10:=Int.tmod_eq_emod_of_nonneg (by omega)
 have wd : IntKind.u8.wrap (48 + (k : Int) % 10)=48 + (k : Int) % 10:=by
  have e1 : IntKind.u8.signed=false:=rfl
  have e3 : (2 ^ IntKind.u8.bits : Int)=256:=rfl
  unfold IntKind.wrap
  simp only [e1,e3,Bool.false_and]
  simp
  omega
 have wdd : IntKind.u8.wrap (IntKind.wrap .i64 (48 + (k : Int).tmod 10))=48 + (k : Int) % 10:=by rw [et,wq,wd]
 have hda : (k : Int) / 10=((k / 10 : Nat) : Int):=by omega
 have wb : gI [.int .u8 (48 + (k : Int) % 10)]=qd k:=by
  have : (48 + (k : Int) % 10).toNat=48 + k % 10:=by omega
  simp only [gI,qd,this]
 have hstep : rM (k / 10) (qd k::out)=o7 n [] \/ (k=0 /\ out ≠ []):=by
  rcases hI with ⟨rfl,rfl⟩ | ⟨h1,h2⟩
  ·exact .inl (oo _ _).symm
  ·by_cases h : k=0
   ·exact .inr ⟨h,h1⟩
   ·rw [rM,if_neg h] at h2
    rw [<- oo,h2]
    exact .inl rfl
 by_cases hk : 0 < k
 ·have h3 : rM (k / 10) (qd k::out)=o7 n []:=by
   rcases hstep with h | h
   ·exact h
   ·omega
  simp [hk,wdd,ww]
  refine ⟨⟨48 + k % 10,by omega,by omega⟩,by omega,k / 10,_,⟨by simp;omega,.inr ⟨by simp,?_⟩⟩,?_,hda,rfl⟩
  ·rw [wb];exact h3
  ·simp
   split <;> omega
 ·have h0 : k=0:=by omega
  subst h0
  by_cases ho : out=[]
  ·subst ho
   simp at hstep
   have w48 : IntKind.u8.wrap (IntKind.wrap .i64 48)=48:=by decide
   simp [w48]
   refine ⟨⟨48,rfl,by omega⟩,0,_,⟨by simp,.inr ⟨by simp,?_⟩⟩,⟨rfl,by simp⟩,by decide,rfl⟩
   have : gI [.int .u8 48]=qd 0:=by decide
   rw [this]
   exact hstep
  ·rcases hI with ⟨h1,_⟩ | ⟨_,h2⟩
   ·exact absurd h1 ho
   ·rw [rM,if_pos rfl] at h2
    rw [<- h2]
    simp [ho]
end Go.Gv

namespace Go.Gv
def gQ (m : Msh) (i : Nat) : Pnt:=ptS (spt m i)
def fil (p : Nat -> Bool) (n : Nat) : List Nat:=(List.range n).filter p
theorem kK (p : Nat -> Bool) : fil p 0=[]:=rfl
theorem cM {p : Nat -> Bool} {n : Nat} (h : p n=true) : fil p (n + 1)=fil p n++[n]:=by
 rw [fil,List.range_succ,List.filter_append]
 simp [h,fil]
theorem lH {p : Nat -> Bool} {n : Nat} (h : p n=false) : fil p (n + 1)=fil p n:=by
 rw [fil,List.range_succ,List.filter_append]
 simp [h,fil]
theorem aH (p : Nat -> Bool) (n : Nat) : (fil p n).length <= n:=by
 have:=List.length_filter_le p (List.range n)
 rw [fil]
 simpa using this
theorem eX {p : Nat -> Bool} {n i : Nat} (h : i ∈ fil p n) : i < n /\ p i=true:=by
 rw [fil,List.mem_filter,List.mem_range] at h
 exact h
theorem pc {p : Nat -> Bool} {n : Nat} : fil p n=[] ↔ ∀ i,i < n -> p i=false:=by
 rw [fil,List.filter_eq_nil_iff]
 simp
def df (m : Msh) (i : Nat) : Bool:=!bf (spt m i)
def b5 (m : Msh) (i : Nat) : Bool:=bf (spt m i) && (List.range i).any fun k=>bf (spt m k) && decide (gQ m k=gQ m i)
def dP (m : Msh) (i : Nat) : Bool:=!okF m (fce m i)
def cy (m : Msh) (i : Nat) : Bool:=okF m (fce m i) && decide (oR (aU m (fce m i)) <= 0)
def ay (m : Msh) (i : Nat) : Bool:=okF m (fce m i) && decide (0 < oR (aU m (fce m i)))
def b8 (m : Msh) (i : Nat) : Bool:=ay m i && (List.range i).any fun k=>ay m k && lW (fce m i) (fce m k)
def aS (m : Msh) (i : Nat) : Bool:=ay m i && (List.range i).any fun k=>ay m k && ovT (aU m (fce m i)) (aU m (fce m k))
def LL (m : Msh) : List (List Nat):=[[],fil (df m) m.s.length,fil (b5 m) m.s.length,fil (dP m) m.f.length,fil (cy m) m.f.length,fil (b8 m) m.f.length,fil (aS m) m.f.length]
def cA (dec : Nat -> List UInt8) : Nat -> List (List Nat) -> List (Int × List UInt8)
 | _,[]=>[]
 | k,l::r=>(l.map fun i=>((k : Int),dec i))++cA dec (k + 1) r
def fnD (x : Int × List UInt8) : List D:=[.int .i64 x.1,.str x.2]
def bA (m : Msh) : Bool:=decide (m.s.length <= 2000) && decide (m.f.length <= 4000)
def aF (m : Msh) : Bool:=bA m && (LL m).all fun l=>decide (l=[])
theorem ni (dec : Nat -> List UInt8) : ∀ (k : Nat) (ls : List (List Nat)),cA dec k ls=[] ↔ (ls.all fun l=>decide (l=[]))=true
 | _,[]=>by simp [cA]
 | k,l::r=>by simp [cA,ni dec (k + 1) r]
def jM (m : Msh) : Nat -> List D
 | 0=>[]
 | i + 1=>if bf (spt m i) then .agg (ptD (gQ m i))::jM m i else jM m i
def lR (m : Msh) : Nat -> List D
 | 0=>[]
 | i + 1=>if bf (spt m i) then .bool true::lR m i else lR m i
theorem qJ (m : Msh) : ∀ i,(jM m i).length <= i
 | 0=>by simp [jM]
 | i + 1=>by
  have:=qJ m i
  rw [jM]
  split <;> simp <;> omega
theorem CG (p q : Pnt) : eqD (.agg (ptD p)) (.agg (ptD q))=decide (q=p):=by
 obtain ⟨a,b⟩:=p
 obtain ⟨c,d⟩:=q
 simp [eqD,o9,o8,ptD]
 rw [Bool.eq_iff_iff]
 simp
 exact ⟨fun h=>⟨h.1.symm,h.2.symm⟩,fun h=>⟨h.1.symm,h.2.symm⟩⟩
theorem sm (m : Msh) (p : Pnt) : ∀ i,(dZ (jM m i) (lR m i) (.agg (ptD p))).getD (.bool false)=.bool ((List.range i).any fun k=>bf (spt m k) && decide (gQ m k=p))
 | 0=>rfl
 | i + 1=>by
  rw [jM,lR,List.range_succ,List.any_append]
  by_cases h : bf (spt m i)=true
  ·rw [if_pos h,if_pos h,dZ,CG]
   by_cases h2 : gQ m i=p
   ·simp [h,h2]
   ·simp [h2,sm m p i]
  ·rw [if_neg h,if_neg h,sm m p i]
   simp [h]
def fA (m : Msh) (i : Nat) : List Bool:=(List.range m.s.length).map fun j=>decide (j < i) && df m j
theorem kJ (m : Msh) (i : Nat) : (fA m i).length=m.s.length:=by simp [fA]
theorem ue (m : Msh) : fA m 0=List.replicate m.s.length false:=by
 refine List.ext_getElem (by simp [fA]) fun k h1 h2=>?_
 simp [fA]
theorem wo (m : Msh) {i : Nat} (h : i < m.s.length) : (fA m i).set i (df m i)=fA m (i + 1):=by
 refine List.ext_getElem (by simp [fA]) fun k h1 h2=>?_
 rw [List.getElem_set]
 simp only [fA,List.getElem_map,List.getElem_range]
 by_cases e : i=k
 ·subst e;simp
 ·rw [if_neg e]
  by_cases e2 : k < i
  ·simp [e2,show k < i + 1 by omega]
  ·simp [e2,show ¬ k < i + 1 by omega]
theorem wl (m : Msh) {k : Nat} (h : k < m.s.length) : (fA m m.s.length)[k]'(by rw [kJ];exact h)=df m k:=by simp [fA,h]
variable {C : CC} (hC : aB prog C)
include hC
theorem wJ {b : Bool} {xs : List Tri} {g : Nat} {cs : List D} (p : Tri -> Bool) (hs : xs.length < 2 ^ 62) (hp : ∀ x ∈ xs,C g (.agg (cx x)::cs) (.bool (p x)) []) : C 328 [slx b (xs.map cx),.fn g cs] (.int .i64 (jY p xs)) []:=by
 refine start hC (nf:=N328) rfl rfl ?_
 simp [N328]
 refine aw Nat (fun i=>[(0,slx b (xs.map cx)),(1,.fn g cs),(7,.int .i64 xs.length),(8,.int .i64 i)]) (fun i=>i <= xs.length /\ ∀ (j : Nat) (h : j < xs.length),j < i -> p xs[j]=false) (fun i=>xs.length - i) 0 (by simp) (by simp) ?_
 rintro i ⟨hi,hj⟩
 simp
 refine ao (fun h=>?_) (fun h=>?_) <;> simp [h] <;> simp at h
 ·have hw : IntKind.wrap .i64 ((i : Int) + 1)=((i + 1 : Nat) : Int):=ac (by omega) (by omega)
  have hc:=hp _ (List.getElem_mem h)
  simp [h,List.getElem_map,cx] at hc ⊢
  refine aa hc (.inl rfl) ?_
  simp
  refine ao (fun h1=>?_) (fun h1=>?_) <;> simp [h1,hw]
  ·rw [fS hj h h1]
  ·refine ⟨i + 1,⟨by omega,fun j hl hjj=>?_⟩,by omega,by simp [cx]⟩
   rcases Nat.lt_succ_iff_lt_or_eq.1 hjj with h2 | rfl
   ·exact hj j hl h2
   ·exact h1
 ·rw [fR (fun j hl=>hj j hl (by omega))]
theorem dg {b : Bool} {xs : List Tri} {g : Nat} {cs : List D} (p : Tri -> Bool) (hs : xs.length < 2 ^ 62) (hp : ∀ x ∈ xs,C g (.agg (cx x)::cs) (.bool (p x)) []) : C 309 [slx b (xs.map cx),.fn g cs] (.bool (xs.any p)) []:=by
 refine start hC (nf:=N309) rfl rfl ?_
 simp [N309]
 refine aa (wJ hC p hs hp) (.inl rfl) ?_
 simp [kM]
theorem Cu (m : Msh) (k : Int) (hn : m.s.length < 2 ^ 40) : C 306 [.int .i64 k,.ptr (aN m),.ptr [.sl ((fA m m.s.length).map fun b=>[.bool b])]] (.bool (!(gN m.s.length k && bf (spt m k.toNat)))) []:=by
 have E : gN m.s.length k=(decide (0 <= k) && decide (k < m.s.length)):=rfl
 refine start hC (nf:=N306) rfl rfl ?_
 simp [N306,aN]
 refine ao (fun c1=>?_) (fun c1=>?_) <;> simp at c1
 ·simp [c1]
  rw [E,decide_eq_false (by omega)];simp
 ·simp [Int.not_lt.2 c1]
  refine ao (fun c2=>?_) (fun c2=>?_) <;> simp at c2
  ·simp [c2]
   rw [E,decide_eq_false (show ¬ k < m.s.length by omega)];simp
  ·have c3 : k.toNat < m.s.length:=by omega
   have c4:=wl m c3
   simp [Int.not_le.2 c2,c1,c3,kJ]
   rw [c4,E,decide_eq_true c1,decide_eq_true c2]
   simp [df]
theorem fz {t o : Tri} (ht : okT t=true) (ho : okT o=true) : C 310 [.agg (cx o),.ptr (cx t)] (.bool (ovT t o)) []:=by
 have k1:=BX hC ht ho
 have k2:=BX hC ho ht
 refine start hC (nf:=N310) rfl rfl ?_
 rw [cx,cx] at k1 k2 ⊢
 simp [N310]
 refine aa k1 (.inl rfl) ?_
 simp
 cases h1 : qZ t o <;> simp [ovT,h1]
 refine aa k2 (.inl rfl) ?_
 simp
 exact fun _=>h1
end Go.Gv

namespace Go.Gv
def nmR (l : List Nat) : List (List D):=l.map fun (k : Nat)=>[D.int .i64 k]
theorem fD (l : List Nat) : nmR l=l.map fun (k : Nat)=>[D.int .i64 k]:=_root_.id rfl
theorem ju {p : Nat -> Bool} {n : Nat} (h : p n=true) : nmR (fil p n)++[[D.int .i64 n]]=nmR (fil p (n + 1)):=by
 rw [cM h];simp [nmR]
theorem fE {p : Nat -> Bool} {n : Nat} (h : p n=false) : nmR (fil p n)=nmR (fil p (n + 1)):=by rw [lH h]
@[simp] theorem PG (l : List Nat) : (nmR l).length=l.length:=by simp [nmR]
@[simp] theorem Dy (l : List Nat) : (∀ e ∈ nmR l,∀ c ∈ e,aA c=true)=True:=by simp [nmR]
@[simp] theorem K2 (l : List Nat) : List.take l.length (nmR l)=nmR l:=List.take_of_length_le (by simp)
@[simp] theorem PF (l : List Nat) (x : List D) : (∀ e,e ∈ nmR l \/ e=x -> ∀ c,c ∈ e -> aA c=true)=∀ c,c ∈ x -> aA c=true:=by
 apply propext
 constructor
 ·exact fun h=>h x (.inr rfl)
 ·rintro h e (he | rfl)
  ·exact (Dy l).mpr trivial e he
  ·exact h
@[simp] theorem PH : nmR []=[]:=rfl
def boR (l : List Bool) : List (List D):=l.map fun b=>[D.bool b]
theorem oV (l : List Bool) : boR l=l.map fun b=>[D.bool b]:=_root_.id rfl
@[simp] theorem Mg (l : List Bool) : (boR l).length=l.length:=by simp [boR]
@[simp] theorem Mf (l : List Bool) (i : Nat) (h : i < (boR l).length) : (boR l)[i]=[D.bool (l[i]'(by simpa using h))]:=by simp [boR]
@[simp] theorem Mh (l : List Bool) (i : Nat) (b : Bool) : (boR l).set i [D.bool b]=boR (l.set i b):=by simp [boR,List.map_set]
theorem ud (m : Msh) {i : Nat} (h : i < m.s.length) : (fA m i).set i (!bf (spt m i))=fA m (i + 1):=wo m h
theorem yZ (m : Msh) {i : Nat} (h : i < m.s.length) (h' : i < (fA m (i + 1)).length) : (fA m (i + 1))[i]=!bf (spt m i):=by simp [fA,df]
theorem wm (m : Msh) : List.replicate m.s.length [D.bool false]=boR (fA m 0):=by rw [ue];simp [boR]
def Bi (m : Msh) (i : Nat) : Env:=[(1,.ptr (aN m)),(4,.adr (.r 10064) 0 0),(10064,.blk 7 [[.own 1 [],.own 1 (nmR (fil (df m) i)),.own 1 (nmR (fil (b5 m) i)),.own 1 [],.own 1 [],.own 1 [],.own 1 []]]),(5,.adr (.r 10080) 0 0),(10080,.blk 1 [[.own 1 (boR (fA m i))]]),(6,.mrf 10464),(10464,.mp 4 1 (jM m i) (lR m i)),(31,slx m.sn (m.s.map eA)),(32,.int .i64 m.s.length),(33,.int .i64 i)]
theorem iS (m : Msh) (i : Nat) : Bi m i=[(1,.ptr (aN m)),(4,.adr (.r 10064) 0 0),(10064,.blk 7 [[.own 1 [],.own 1 (nmR (fil (df m) i)),.own 1 (nmR (fil (b5 m) i)),.own 1 [],.own 1 [],.own 1 [],.own 1 []]]),(5,.adr (.r 10080) 0 0),(10080,.blk 1 [[.own 1 (boR (fA m i))]]),(6,.mrf 10464),(10464,.mp 4 1 (jM m i) (lR m i)),(31,slx m.sn (m.s.map eA)),(32,.int .i64 m.s.length),(33,.int .i64 i)]:=_root_.id rfl
def trR (m : Msh) (l : List Nat) : List (List D):=l.map fun k=>cx (aU m (fce m k))
theorem fH (m : Msh) (l : List Nat) : trR m l=(l.map fun k=>aU m (fce m k)).map cx:=by simp [trR]
@[simp] theorem Qg (m : Msh) (l : List Nat) : (trR m l).length=l.length:=by simp [trR]
@[simp] theorem LZ (m : Msh) (l : List Nat) : List.take l.length (trR m l)=trR m l:=List.take_of_length_le (by simp)
@[simp] theorem RO (m : Msh) (l : List Nat) : List.map (fun e=>List.map aV e) (trR m l)=trR m l:=by simp [trR,cx]
@[simp] theorem Qh (m : Msh) : trR m []=[]:=rfl
theorem d9 {m : Msh} {i : Nat} (h : ay m i=true) : trR m (fil (ay m) i)++[cx (aU m (fce m i))]=trR m (fil (ay m) (i + 1)):=by rw [cM h];simp [trR]
def sdK (f : Fce) : Nat -> List D
 | 0=>[]
 | j + 1=>.agg [.int .i64 (crn f j),.int .i64 (crn f (j + 1))]::sdK f j
theorem pD (f : Fce) : ∀ j,(sdK f j).length=j
 | 0=>rfl
 | j + 1=>by simp [sdK,pD f j]
def ce (m : Msh) : Nat -> List D
 | 0=>[]
 | i + 1=>if ay m i then sdK (fce m i) 3++ce m i else ce m i
def cj (m : Msh) : Nat -> List D
 | 0=>[]
 | i + 1=>if ay m i then List.replicate 3 (.bool true)++cj m i else cj m i
theorem cV (m : Msh) : ∀ i,(ce m i).length <= 3 * i
 | 0=>by simp [ce]
 | i + 1=>by
  have:=cV m i
  rw [ce]
  split <;> simp [pD] <;> omega
def i6 (m : Msh) (i j : Nat) : Bool:=(List.range i).any fun k=>ay m k && (List.range 3).any fun j'=>mtc (fce m i) (fce m k) j j'
theorem Il (a b c d : Int) : eqD (.agg [.int .i64 a,.int .i64 b]) (.agg [.int .i64 c,.int .i64 d])=(decide (a=c) && decide (b=d)):=by
 simp [eqD,o9,o8]
theorem sC (m : Msh) (a b : Int) : ∀ i,(dZ (ce m i) (cj m i) (.agg [.int .i64 a,.int .i64 b])).getD (.bool false)=.bool ((List.range i).any fun k=>ay m k && (List.range 3).any fun j=>decide (a=crn (fce m k) j) && decide (b=crn (fce m k) (j + 1)))
 | 0=>rfl
 | i + 1=>by
  rw [ce,cj,List.range_succ,List.any_append]
  have h3 : List.range 3=[0,1,2]:=rfl
  by_cases h : ay m i=true
  ·rw [if_pos h,if_pos h]
   simp only [sdK,List.replicate,List.cons_append,List.nil_append,dZ,Il]
   have ih:=sC m a b i
   by_cases c0 : (decide (a=crn (fce m i) 2) && decide (b=crn (fce m i) (2 + 1)))=true
   ·rw [if_pos c0]
    simp only [List.any_cons,List.any_nil,h,h3,c0]
    simp
   ·rw [if_neg c0]
    by_cases c1 : (decide (a=crn (fce m i) 1) && decide (b=crn (fce m i) (1 + 1)))=true
    ·rw [if_pos c1]
     simp only [List.any_cons,List.any_nil,h,h3,c1]
     simp
    ·rw [if_neg c1]
     by_cases c2 : (decide (a=crn (fce m i) 0) && decide (b=crn (fce m i) (0 + 1)))=true
     ·rw [if_pos c2]
      simp only [List.any_cons,List.any_nil,h,h3,c2]
      simp
     ·rw [if_neg c2,ih]
      rw [Bool.not_eq_true] at c0 c1 c2
      simp only [List.any_cons,List.any_nil,h,h3,c0,c1,c2]
      simp
  ·rw [if_neg h,if_neg h,sC m a b i]
   simp [h]
theorem yp {α : Type} (A p q r : α -> Bool) (l : List α) : (l.any fun k=>A k && (p k || (q k || r k)))=((l.any fun k=>A k && p k) || ((l.any fun k=>A k && q k) || (l.any fun k=>A k && r k))):=by
 induction l with
 | nil=>rfl
 | cons x l ih =>
  simp only [List.any_cons,ih]
  cases A x <;> cases p x <;> cases q x <;> cases r x <;> simp
theorem xI {m : Msh} {i : Nat} (h : ay m i=true) : b8 m i=(i6 m i 0 || (i6 m i 1 || i6 m i 2)):=by
 unfold b8 lW i6
 rw [h,Bool.true_and,<- yp]
 have h3 : List.range 3=[0,1,2]:=rfl
 simp only [h3,List.any_cons,List.any_nil,Bool.or_false]
theorem Cx {m : Msh} {f : Fce} (h : inS m f=true) (j : Nat) : 0 <= crn f j /\ crn f j < m.s.length:=by
 have:=jZ h
 unfold crn
 split <;> omega
def pX (m : Msh) (i k : Nat) : Env:=[(1,.ptr (aN m)),(4,.adr (.r 10064) 0 0),(10064,.blk 7 [[.own 1 [],.own 1 (nmR (fil (df m) m.s.length)),.own 1 (nmR (fil (b5 m) m.s.length)),.own 1 (nmR (fil (dP m) i)),.own 1 (nmR (fil (cy m) i)),.own 1 (nmR (fil (b8 m) (i + 1))),.own 1 (nmR (fil (aS m) i))]]),(5,.adr (.r 10080) 0 0),(10080,.blk 1 [[.own 1 (boR (fA m m.s.length))]]),(10,.mrf 11104),(11104,.mp 3 1 (sdK (fce m i) k++ce m i) (List.replicate k (.bool true)++cj m i)),(11,.ref (.r 10176) 0 (fil (ay m) i).length),(10176,.blk 6 (trR m (fil (ay m) i))),(12,.int .i64 i),(13,.adr (.r 10208) 0 0),(10208,.blk 4 [bq (fce m i)]),(15,.adr (.r 10240) 0 0),(10240,.blk 6 [cx (aU m (fce m i))]),(71,slx m.fn (m.f.map bq)),(72,.int .i64 m.f.length),(73,.int .i64 i),(159,.int .i64 k)]
theorem gT (m : Msh) (i k : Nat) : pX m i k=[(1,.ptr (aN m)),(4,.adr (.r 10064) 0 0),(10064,.blk 7 [[.own 1 [],.own 1 (nmR (fil (df m) m.s.length)),.own 1 (nmR (fil (b5 m) m.s.length)),.own 1 (nmR (fil (dP m) i)),.own 1 (nmR (fil (cy m) i)),.own 1 (nmR (fil (b8 m) (i + 1))),.own 1 (nmR (fil (aS m) i))]]),(5,.adr (.r 10080) 0 0),(10080,.blk 1 [[.own 1 (boR (fA m m.s.length))]]),(10,.mrf 11104),(11104,.mp 3 1 (sdK (fce m i) k++ce m i) (List.replicate k (.bool true)++cj m i)),(11,.ref (.r 10176) 0 (fil (ay m) i).length),(10176,.blk 6 (trR m (fil (ay m) i))),(12,.int .i64 i),(13,.adr (.r 10208) 0 0),(10208,.blk 4 [bq (fce m i)]),(15,.adr (.r 10240) 0 0),(10240,.blk 6 [cx (aU m (fce m i))]),(71,slx m.fn (m.f.map bq)),(72,.int .i64 m.f.length),(73,.int .i64 i),(159,.int .i64 k)]:=_root_.id rfl
def fnR (l : List (Int × List UInt8)) : List (List D):=l.map fnD
@[simp] theorem MS (l : List (Int × List UInt8)) : (fnR l).length=l.length:=by simp [fnR]
@[simp] theorem gX (l : List (Int × List UInt8)) : List.take l.length (fnR l)=fnR l:=List.take_of_length_le (by simp)
@[simp] theorem QT (l : List (Int × List UInt8)) : List.map (fun e=>List.map aV e) (fnR l)=fnR l:=by simp [fnR,fnD]
theorem ix (l : List (Int × List UInt8)) (k : Int) (s : List UInt8) : fnR l++[[.int .i64 k,.str s]]=fnR (l++[(k,s)]):=by simp [fnR,fnD]
@[simp] theorem MT : fnR []=[]:=rfl
def He (L1 L2 L3 L4 L5 L6 : List Nat) : D:=.agx [.ref (.n 10064 0 0) 0 0,.ref (.n 10064 0 1) 0 L1.length,.ref (.n 10064 0 2) 0 L2.length,.ref (.n 10064 0 3) 0 L3.length,.ref (.n 10064 0 4) 0 L4.length,.ref (.n 10064 0 5) 0 L5.length,.ref (.n 10064 0 6) 0 L6.length]
theorem aK (L1 L2 L3 L4 L5 L6 : List Nat) : He L1 L2 L3 L4 L5 L6=.agx [.ref (.n 10064 0 0) 0 0,.ref (.n 10064 0 1) 0 L1.length,.ref (.n 10064 0 2) 0 L2.length,.ref (.n 10064 0 3) 0 L3.length,.ref (.n 10064 0 4) 0 L4.length,.ref (.n 10064 0 5) 0 L5.length,.ref (.n 10064 0 6) 0 L6.length]:=_root_.id rfl
def Hn (L1 L2 L3 L4 L5 L6 : List Nat) : D:=.blk 7 [[.own 1 [],.own 1 (nmR L1),.own 1 (nmR L2),.own 1 (nmR L3),.own 1 (nmR L4),.own 1 (nmR L5),.own 1 (nmR L6)]]
theorem bg (L1 L2 L3 L4 L5 L6 : List Nat) : Hn L1 L2 L3 L4 L5 L6=.blk 7 [[.own 1 [],.own 1 (nmR L1),.own 1 (nmR L2),.own 1 (nmR L3),.own 1 (nmR L4),.own 1 (nmR L5),.own 1 (nmR L6)]]:=_root_.id rfl
theorem cB (dec : Nat -> List UInt8) : ∀ (a b : List (List Nat)) (k : Nat),cA dec k (a++b)=cA dec k a++cA dec (k + a.length) b
 | [],b,k=>by simp [cA]
 | x::a,b,k=>by
  have:=cB dec a b (k + 1)
  simp only [List.cons_append,cA,this,List.append_assoc,List.length_cons]
  rw [show k + 1 + a.length=k + (a.length + 1) by omega]
def tkD (dec : Nat -> List UInt8) (k : Int) (L : List Nat) (j : Nat) : List (Int × List UInt8):=(L.take j).map fun i=>(k,dec i)
theorem gk (dec : Nat -> List UInt8) (k : Int) (L : List Nat) : tkD dec k L 0=[]:=by simp [tkD]
theorem ij (dec : Nat -> List UInt8) (k : Int) (L : List Nat) {j : Nat} (h : j < L.length) : tkD dec k L (j + 1)=tkD dec k L j++[(k,dec L[j])]:=by
 unfold tkD
 rw [List.take_add_one,List.getElem?_eq_getElem h,List.map_append]
 rfl
theorem jF (dec : Nat -> List UInt8) (k : Int) (L : List Nat) {j : Nat} (h : j <= L.length) : (tkD dec k L j).length=j:=by simp [tkD];omega
theorem jE (dec : Nat -> List UInt8) (k : Int) (L : List Nat) : tkD dec k L L.length=L.map fun i=>(k,dec i):=by simp [tkD]
def Bj (m : Msh) (i : Nat) : Env:=[(1,.ptr (aN m)),(4,.adr (.r 10064) 0 0),(10064,.blk 7 [[.own 1 [],.own 1 (nmR (fil (df m) m.s.length)),.own 1 (nmR (fil (b5 m) m.s.length)),.own 1 (nmR (fil (dP m) i)),.own 1 (nmR (fil (cy m) i)),.own 1 (nmR (fil (b8 m) i)),.own 1 (nmR (fil (aS m) i))]]),(5,.adr (.r 10080) 0 0),(10080,.blk 1 [[.own 1 (boR (fA m m.s.length))]]),(10,.mrf 11104),(11104,.mp 3 1 (ce m i) (cj m i)),(11,.ref (.r 10176) 0 (fil (ay m) i).length),(10176,.blk 6 (trR m (fil (ay m) i))),(71,slx m.fn (m.f.map bq)),(72,.int .i64 m.f.length),(73,.int .i64 i)]
theorem dC (m : Msh) (i : Nat) : Bj m i=[(1,.ptr (aN m)),(4,.adr (.r 10064) 0 0),(10064,.blk 7 [[.own 1 [],.own 1 (nmR (fil (df m) m.s.length)),.own 1 (nmR (fil (b5 m) m.s.length)),.own 1 (nmR (fil (dP m) i)),.own 1 (nmR (fil (cy m) i)),.own 1 (nmR (fil (b8 m) i)),.own 1 (nmR (fil (aS m) i))]]),(5,.adr (.r 10080) 0 0),(10080,.blk 1 [[.own 1 (boR (fA m m.s.length))]]),(10,.mrf 11104),(11104,.mp 3 1 (ce m i) (cj m i)),(11,.ref (.r 10176) 0 (fil (ay m) i).length),(10176,.blk 6 (trR m (fil (ay m) i))),(71,slx m.fn (m.f.map bq)),(72,.int .i64 m.f.length),(73,.int .i64 i)]:=_root_.id rfl
variable {C : CC} (hC : aB prog C)
include hC
set_option maxHeartbeats 4000000 in
theorem ym (dec : Nat -> List UInt8) (hI : ∀ n : Nat,n < 100 -> C 127 [.int .i64 n] (.str (dec n)) []) (m : Msh) (hs : m.s.length <= 100) (hf : m.f.length <= 100) : C 273 [.agg (aN m)] (.tup [.sl ((cA dec 0 (LL m)).map fnD),.int .i64 0]) []:=by
 have ksm:=qF hC m
 rw [decide_eq_true (show m.s.length <= 2000 by omega),decide_eq_true (show m.f.length <= 4000 by omega)] at ksm
 have kr:=fun s=>wW hC s
 have kp:=fun i h=>kR hC m i h
 refine start hC (nf:=N273) rfl rfl ?_
 simp only [ab] at ksm
 simp [N273,ab]
 refine aa ksm (.inl rfl) ?_
 simp
 refine ⟨by omega,?_⟩
 refine aw Nat (fun i=>Bi m i) (fun i=>i <= m.s.length) (fun i=>m.s.length - i) 0 (by simp) (by simp [iS,ab,kK,jM,lR,wm]) ?_
 rintro i hi
 simp [iS,ab]
 refine ao (fun g1=>?_) (fun g1=>?_) <;> simp at g1 <;> simp [g1]
 ·have hw : IntKind.wrap .i64 ((i : Int) + 1)=((i + 1 : Nat) : Int):=ac (by omega) (by omega)
  have kri:=kr (spt m i)
  simp only [bz] at kri
  simp [bz]
  refine aa kri (.inl rfl) ?_
  simp [kJ,g1]
  refine ⟨aj (by decide +kernel),?_⟩
  rw [ud m g1]
  rw [oV]
  simp [kJ,g1,yZ]
  have kpi:=kp i g1
  simp only [ab] at kpi
  have hr:=j6 (s:=spt m i)
  cases hr1 : bf (spt m i)
  ·have e1:=ju (p:=df m) (n:=i) (by simp [df,hr1])
   have e2:=fE (p:=b5 m) (n:=i) (by simp [b5,hr1])
   have e3 : jM m (i + 1)=jM m i:=by simp [jM,hr1]
   have e4 : lR m (i + 1)=lR m i:=by simp [lR,hr1]
   simp [hw]
   refine ⟨by have:=aH (df m) i;omega,i + 1,by omega,by omega,?_⟩
   simp [iS,ab,e1,<- e2,e3,e4,<- oV]
  ·have hp:=cJ (hr hr1)
   have e2:=fE (p:=df m) (n:=i) (by simp [df,hr1])
   have e3 : jM m (i + 1)=.agg (ptD (gQ m i))::jM m i:=by simp [jM,hr1]
   have e4 : lR m (i + 1)=.bool true::lR m i:=by simp [lR,hr1]
   have kg:=sm m (gQ m i) i
   have kl:=qJ m i
   have hml : maxLen=9223372036854775807:=rfl
   simp [ab]
   refine aa kpi (.inl rfl) ?_
   simp [ptD,ptS,gQ] at kg hp
   simp [ptD,ptS,kg]
   refine ⟨⟨by omega,by omega⟩,?_⟩
   have hsame : ((List.range i).any fun k=>bf (spt m k) && (decide ((spt m k).x=(spt m i).x) && decide ((spt m k).y=(spt m i).y)))=b5 m i:=by
    simp [b5,hr1,gQ,ptS]
   rw [hsame]
   cases hs1 : b5 m i
   ·have e1:=fE (p:=b5 m) (n:=i) hs1
    simp [hw]
    refine ⟨by omega,⟨by omega,by omega⟩,i + 1,by omega,by omega,?_⟩
    simp [iS,ab,<- e1,<- e2,e3,e4,<- oV,ptD,gQ,ptS]
   ·have e1:=ju (p:=b5 m) (n:=i) hs1
    simp [hw]
    refine ⟨by have:=aH (b5 m) i;omega,by omega,⟨by omega,by omega⟩,i + 1,by omega,by omega,?_⟩
    simp [iS,ab,e1,<- e2,e3,e4,<- oV,ptD,gQ,ptS]
 ·have hi2 : i=m.s.length:=by omega
  subst hi2
  refine aw Nat (fun i=>Bj m i) (fun i=>i <= m.f.length) (fun i=>m.f.length - i) 0 (by simp) (by simp [dC,ab,kK,ce,cj]) ?_
  clear hi g1 kr kp ksm
  rintro i hi
  simp [dC,ab]
  refine ao (fun g1=>?_) (fun g1=>?_) <;> simp at g1 <;> simp [g1]
  ·have hw : IntKind.wrap .i64 ((i : Int) + 1)=((i + 1 : Nat) : Int):=ac (by omega) (by omega)
   have kc:=m8 hC (fce m i)
   have k1:=qk hC (b:=false) (xs:=[(fce m i).a,(fce m i).b,(fce m i).c]) (g:=306) (cs:=[.ptr (aN m),.ptr [.sl (boR (fA m m.s.length))]]) (fun k=>!(gN m.s.length k && bf (spt m k.toNat))) (by simp) (fun x _=>Cu hC m x (by omega))
   simp only [ab,aT] at kc k1
   simp at k1
   simp [aT]
   refine aa kc (.inl rfl) ?_
   simp [ct]
   obtain ⟨v,hv⟩ : ∃ v,v=(!gN m.s.length (fce m i).a || !bf (spt m (fce m i).a.toNat) || (!gN m.s.length (fce m i).b || !bf (spt m (fce m i).b.toNat) || (!gN m.s.length (fce m i).c || !bf (spt m (fce m i).c.toNat)))):=⟨_,rfl⟩
   rw [<- hv] at k1
   refine aa k1 (.inl rfl) ?_
   have E : dP m i=!(okF m (fce m i)):=rfl
   have E2 : okF m (fce m i)=(okc m (fce m i).a (fce m i).b && okc m (fce m i).b (fce m i).c && okc m (fce m i).c (fce m i).a && decide (0 <= (fce m i).k) && decide ((fce m i).k < 16)):=rfl
   have E3 : ∀ a b : Int,okc m a b=(gN m.s.length a && decide (a ≠ b) && bf (spt m a.toNat)):=fun a b=>rfl
   have bad : dP m i=true -> nmR (fil (dP m) i)++[[D.int .i64 i]]=nmR (fil (dP m) (i + 1)) /\ nmR (fil (cy m) i)=nmR (fil (cy m) (i + 1)) /\ nmR (fil (b8 m) i)=nmR (fil (b8 m) (i + 1)) /\ nmR (fil (aS m) i)=nmR (fil (aS m) (i + 1)) /\ fil (ay m) (i + 1)=fil (ay m) i /\ ce m (i + 1)=ce m i /\ cj m (i + 1)=cj m i:=fun h=>by
    have h0 : okF m (fce m i)=false:=by rw [E] at h;simpa using h
    have h1 : ay m i=false:=by simp [ay,h0]
    exact ⟨ju h,fE (by simp [cy,h0]),fE (by simp [b8,h1]),fE (by simp [aS,h1]),lH h1,by simp [ce,h1],by simp [cj,h1]⟩
   cases v
   rotate_left
   ·obtain ⟨e1,e2,e3,e4,e5,e6,e7⟩:=bad (by
     rw [E,E2,E3,E3,E3]
     revert hv
     cases gN m.s.length (fce m i).a <;> cases bf (spt m (fce m i).a.toNat) <;> cases gN m.s.length (fce m i).b <;> cases bf (spt m (fce m i).b.toNat) <;> cases gN m.s.length (fce m i).c <;> cases bf (spt m (fce m i).c.toNat) <;> simp)
    simp [hw]
    refine ⟨by have:=aH (dP m) i;omega,i + 1,by omega,by omega,?_⟩
    simp [dC,ab,e1,<- e2,<- e3,<- e4,e5,e6,e7]
   by_cases c1 : (fce m i).a=(fce m i).b
   ·obtain ⟨e1,e2,e3,e4,e5,e6,e7⟩:=bad (by
     rw [E,E2,E3,E3,E3]
     rw [decide_eq_false (show ¬ (fce m i).a ≠ (fce m i).b by omega)];simp)
    simp [c1,hw]
    refine ⟨by have:=aH (dP m) i;omega,i + 1,by omega,by omega,?_⟩
    simp [dC,ab,e1,<- e2,<- e3,<- e4,e5,e6,e7]
   by_cases c2 : (fce m i).b=(fce m i).c
   ·obtain ⟨e1,e2,e3,e4,e5,e6,e7⟩:=bad (by
     rw [E,E2,E3,E3,E3]
     rw [decide_eq_false (show ¬ (fce m i).b ≠ (fce m i).c by omega)];simp)
    simp [(show ¬ (fce m i).a=(fce m i).c by rw [<- c2];exact c1),c2,hw]
    refine ⟨by have:=aH (dP m) i;omega,i + 1,by omega,by omega,?_⟩
    simp [dC,ab,e1,<- e2,<- e3,<- e4,e5,e6,e7]
   by_cases c3 : (fce m i).c=(fce m i).a
   ·obtain ⟨e1,e2,e3,e4,e5,e6,e7⟩:=bad (by
     rw [E,E2,E3,E3,E3]
     rw [decide_eq_false (show ¬ (fce m i).c ≠ (fce m i).a by omega)];simp)
    simp [c1,c2,hw]
    refine ao (fun _=>?_) (fun h=>by simp [c3] at h)
    simp [hw]
    refine ⟨by have:=aH (dP m) i;omega,i + 1,by omega,by omega,?_⟩
    simp [dC,ab,e1,<- e2,<- e3,<- e4,e5,e6,e7]
   have c3' : ¬ (fce m i).a=(fce m i).c:=fun h=>c3 h.symm
   by_cases c4 : (fce m i).k < 0
   ·obtain ⟨e1,e2,e3,e4,e5,e6,e7⟩:=bad (by
     rw [E,E2,E3,E3,E3]
     rw [decide_eq_false (show ¬ 0 <= (fce m i).k by omega)];simp)
    simp [c1,c2,c3,c3',c4,hw]
    refine ⟨by have:=aH (dP m) i;omega,i + 1,by omega,by omega,?_⟩
    simp [dC,ab,e1,<- e2,<- e3,<- e4,e5,e6,e7]
   by_cases c5 : 16 <= (fce m i).k
   ·obtain ⟨e1,e2,e3,e4,e5,e6,e7⟩:=bad (by
     rw [E,E2,E3,E3,E3]
     rw [decide_eq_false (show ¬ (fce m i).k < 16 by omega)];simp)
    simp [c1,c2,c3,c3',c4,c5,hw]
    refine ⟨by have:=aH (dP m) i;omega,i + 1,by omega,by omega,?_⟩
    simp [dC,ab,e1,<- e2,<- e3,<- e4,e5,e6,e7]
   have ok : okF m (fce m i)=true:=by
    rw [E2,E3,E3,E3]
    simp only [Bool.and_eq_true,decide_eq_true_eq]
    have h:=hv.symm
    simp only [Bool.or_eq_false_iff,Bool.not_eq_false'] at h
    exact ⟨⟨⟨⟨⟨⟨h.1.1,c1⟩,h.1.2⟩,⟨h.2.1.1,c2⟩,h.2.1.2⟩,⟨h.2.2.1,c3⟩,h.2.2.2⟩,by omega⟩,by omega⟩
   have nbad : dP m i=false:=by rw [E,ok];rfl
   have b1:=fE nbad
   have hT:=cQ ok
   have kt:=Dx hC m (fce m i) (jv ok)
   have kn : C 308 [.agg (ptD (aU m (fce m i)).1),.agg (ptD (aU m (fce m i)).2.1),.agg (ptD (aU m (fce m i)).2.2)] (.int .i64 (oR (aU m (fce m i)))) []:=by
    have h:=hT
    simp only [okT,Bool.and_eq_true] at h
    exact th hC h.1.1 h.1.2 h.2
   have ks:=fun k h=>zN hC (fce m i) k h
   have ks0:=ks 0 (by omega)
   have ks1:=ks 1 (by omega)
   have ks2:=ks 2 (by omega)
   have kg:=fun j=>sC m (crn (fce m i) j) (crn (fce m i) (j + 1)) i
   have kg : ∀ j,(dZ (ce m i) (cj m i) (.agg [.int .i64 (crn (fce m i) j),.int .i64 (crn (fce m i) (j + 1))])).getD (.bool false)=.bool (i6 m i j):=kg
   have kg0:=kg 0
   have kg1:=kg 1
   have kg2:=kg 2
   simp [c1,c2,c3,c3',c4,c5]
   simp only [ab,aT] at kt
   refine aa kt (.inl rfl) ?_
   simp [cx]
   simp only [ptD] at kn
   refine aa kn (.inl rfl) ?_
   simp
   refine ao (fun d1=>?_) (fun d1=>?_) <;> simp at d1
   ·have hfl : cy m i=true:=by simp [cy,ok,d1]
    have hsn : ay m i=false:=by simp [ay,ok];omega
    have e1:=ju hfl
    have e2:=fE (p:=b8 m) (n:=i) (by simp [b8,hsn])
    have e3:=fE (p:=aS m) (n:=i) (by simp [aS,hsn])
    have e5:=lH hsn
    have e6 : ce m (i + 1)=ce m i:=by simp [ce,hsn]
    have e7 : cj m (i + 1)=cj m i:=by simp [cj,hsn]
    simp [d1,hw]
    refine ⟨by have:=aH (cy m) i;omega,i + 1,by omega,by omega,?_⟩
    simp [dC,ab,e1,<- e2,<- e3,<- b1,e5,e6,e7]
   ·have hfl : cy m i=false:=by simp [cy,ok];omega
    have hsn : ay m i=true:=by simp [ay,ok,d1]
    have b2:=fE hfl
    have hsd:=xI hsn
    simp only [aT] at ks ks0 ks1 ks2
    simp at ks0 ks1 ks2 kg0 kg1 kg2
    simp [Int.not_le.2 d1]
    refine aa ks0 (.inl rfl) ?_
    simp [kg0]
    have cb:=fun j=>Cx (jv ok) j
    have cb0:=cb 0
    have cb1:=cb 1
    have cb2:=cb 2
    have cb3:=cb 3
    refine ⟨⟨by omega,by omega⟩,?_⟩
    have yes : b8 m i=true -> nmR (fil (b8 m) i)++[[D.int .i64 i]]=nmR (fil (b8 m) (i + 1)):=ju
    have nos : b8 m i=false -> nmR (fil (b8 m) i)=nmR (fil (b8 m) (i + 1)):=fE
    have lsd:=aH (b8 m) i
    have kT:=dg hC (b:=false) (xs:=(fil (ay m) i).map fun k=>aU m (fce m k)) (g:=310) (cs:=[.ptr (cx (aU m (fce m i)))]) (fun o=>ovT (aU m (fce m i)) o) (by have:=aH (ay m) i;simp;omega) (fun x hx=>by
     obtain ⟨k,hk,rfl⟩:=List.mem_map.1 hx
     have hk:=(eX hk).2
     simp only [ay,Bool.and_eq_true] at hk
     exact fz hC hT (cQ hk.1))
    rw [<- fH,List.any_map] at kT
    have hov : (fil (ay m) i).any ((fun o=>ovT (aU m (fce m i)) o) ∘ fun k=>aU m (fce m k))=aS m i:=by
     rw [fil,List.any_filter,aS,hsn]
     rfl
    rw [hov] at kT
    rw [cc] at kT
    have tl:=cV m i
    have hml : maxLen=9223372036854775807:=rfl
    have e5:=d9 hsn
    have e6 : ce m (i + 1)=sdK (fce m i) 3++ce m i:=by simp [ce,hsn]
    have e7 : cj m (i + 1)=.bool true::.bool true::.bool true::cj m i:=by
     rw [cj,if_pos hsn];rfl
    have e8 : (fil (ay m) (i + 1)).length=(fil (ay m) i).length + 1:=by rw [cM hsn];simp
    have l8:=aH (ay m) i
    have lov:=aH (aS m) i
    have kT:=dg hC (b:=false) (xs:=(fil (ay m) i).map fun k=>aU m (fce m k)) (g:=310) (cs:=[.ptr (cx (aU m (fce m i)))]) (fun o=>ovT (aU m (fce m i)) o) (by have:=aH (ay m) i;simp;omega) (fun x hx=>by
     obtain ⟨k,hk,rfl⟩:=List.mem_map.1 hx
     have hk:=(eX hk).2
     simp only [ay,Bool.and_eq_true] at hk
     exact fz hC hT (cQ hk.1))
    rw [<- fH,List.any_map] at kT
    have hov : (fil (ay m) i).any ((fun o=>ovT (aU m (fce m i)) o) ∘ fun k=>aU m (fce m k))=aS m i:=by
     rw [fil,List.any_filter,aS,hsn]
     rfl
    rw [hov] at kT
    rw [cc] at kT
    have tl:=cV m i
    have hml : maxLen=9223372036854775807:=rfl
    have e5:=d9 hsn
    have e6 : ce m (i + 1)=sdK (fce m i) 3++ce m i:=by simp [ce,hsn]
    have e7 : cj m (i + 1)=.bool true::.bool true::.bool true::cj m i:=by
     rw [cj,if_pos hsn];rfl
    have e8 : (fil (ay m) (i + 1)).length=(fil (ay m) i).length + 1:=by rw [cM hsn];simp
    have l8:=aH (ay m) i
    have lov:=aH (aS m) i
    have kT:=dg hC (b:=false) (xs:=(fil (ay m) i).map fun k=>aU m (fce m k)) (g:=310) (cs:=[.ptr (cx (aU m (fce m i)))]) (fun o=>ovT (aU m (fce m i)) o) (by have:=aH (ay m) i;simp;omega) (fun x hx=>by
     obtain ⟨k,hk,rfl⟩:=List.mem_map.1 hx
     have hk:=(eX hk).2
     simp only [ay,Bool.and_eq_true] at hk
     exact fz hC hT (cQ hk.1))
    rw [<- fH,List.any_map] at kT
    have hov : (fil (ay m) i).any ((fun o=>ovT (aU m (fce m i)) o) ∘ fun k=>aU m (fce m k))=aS m i:=by
     rw [fil,List.any_filter,aS,hsn]
     rfl
    rw [hov] at kT
    rw [cc] at kT
    have tl:=cV m i
    have hml : maxLen=9223372036854775807:=rfl
    have e5:=d9 hsn
    have e6 : ce m (i + 1)=sdK (fce m i) 3++ce m i:=by simp [ce,hsn]
    have e7 : cj m (i + 1)=.bool true::.bool true::.bool true::cj m i:=by
     rw [cj,if_pos hsn];rfl
    have e8 : (fil (ay m) (i + 1)).length=(fil (ay m) i).length + 1:=by rw [cM hsn];simp
    have l8:=aH (ay m) i
    have lov:=aH (aS m) i
    have kT:=dg hC (b:=false) (xs:=(fil (ay m) i).map fun k=>aU m (fce m k)) (g:=310) (cs:=[.ptr (cx (aU m (fce m i)))]) (fun o=>ovT (aU m (fce m i)) o) (by have:=aH (ay m) i;simp;omega) (fun x hx=>by
     obtain ⟨k,hk,rfl⟩:=List.mem_map.1 hx
     have hk:=(eX hk).2
     simp only [ay,Bool.and_eq_true] at hk
     exact fz hC hT (cQ hk.1))
    rw [<- fH,List.any_map] at kT
    have hov : (fil (ay m) i).any ((fun o=>ovT (aU m (fce m i)) o) ∘ fun k=>aU m (fce m k))=aS m i:=by
     rw [fil,List.any_filter,aS,hsn]
     rfl
    rw [hov] at kT
    rw [cc] at kT
    have tl:=cV m i
    have hml : maxLen=9223372036854775807:=rfl
    have e5:=d9 hsn
    have e6 : ce m (i + 1)=sdK (fce m i) 3++ce m i:=by simp [ce,hsn]
    have e7 : cj m (i + 1)=.bool true::.bool true::.bool true::cj m i:=by
     rw [cj,if_pos hsn];rfl
    have e8 : (fil (ay m) (i + 1)).length=(fil (ay m) i).length + 1:=by rw [cM hsn];simp
    have l8:=aH (ay m) i
    have lov:=aH (aS m) i
    have kT:=dg hC (b:=false) (xs:=(fil (ay m) i).map fun k=>aU m (fce m k)) (g:=310) (cs:=[.ptr (cx (aU m (fce m i)))]) (fun o=>ovT (aU m (fce m i)) o) (by have:=aH (ay m) i;simp;omega) (fun x hx=>by
     obtain ⟨k,hk,rfl⟩:=List.mem_map.1 hx
     have hk:=(eX hk).2
     simp only [ay,Bool.and_eq_true] at hk
     exact fz hC hT (cQ hk.1))
    rw [<- fH,List.any_map] at kT
    have hov : (fil (ay m) i).any ((fun o=>ovT (aU m (fce m i)) o) ∘ fun k=>aU m (fce m k))=aS m i:=by
     rw [fil,List.any_filter,aS,hsn]
     rfl
    rw [hov] at kT
    rw [cc] at kT
    have tl:=cV m i
    have hml : maxLen=9223372036854775807:=rfl
    have e5:=d9 hsn
    have e6 : ce m (i + 1)=sdK (fce m i) 3++ce m i:=by simp [ce,hsn]
    have e7 : cj m (i + 1)=.bool true::.bool true::.bool true::cj m i:=by
     rw [cj,if_pos hsn];rfl
    have e8 : (fil (ay m) (i + 1)).length=(fil (ay m) i).length + 1:=by rw [cM hsn];simp
    have l8:=aH (ay m) i
    have lov:=aH (aS m) i
    have kT:=dg hC (b:=false) (xs:=(fil (ay m) i).map fun k=>aU m (fce m k)) (g:=310) (cs:=[.ptr (cx (aU m (fce m i)))]) (fun o=>ovT (aU m (fce m i)) o) (by have:=aH (ay m) i;simp;omega) (fun x hx=>by
     obtain ⟨k,hk,rfl⟩:=List.mem_map.1 hx
     have hk:=(eX hk).2
     simp only [ay,Bool.and_eq_true] at hk
     exact fz hC hT (cQ hk.1))
    rw [<- fH,List.any_map] at kT
    have hov : (fil (ay m) i).any ((fun o=>ovT (aU m (fce m i)) o) ∘ fun k=>aU m (fce m k))=aS m i:=by
     rw [fil,List.any_filter,aS,hsn]
     rfl
    rw [hov] at kT
    rw [cc] at kT
    have tl:=cV m i
    have hml : maxLen=9223372036854775807:=rfl
    have e5:=d9 hsn
    have e6 : ce m (i + 1)=sdK (fce m i) 3++ce m i:=by simp [ce,hsn]
    have e7 : cj m (i + 1)=.bool true::.bool true::.bool true::cj m i:=by
     rw [cj,if_pos hsn];rfl
    have e8 : (fil (ay m) (i + 1)).length=(fil (ay m) i).length + 1:=by rw [cM hsn];simp
    have l8:=aH (ay m) i
    have lov:=aH (aS m) i
    have kT:=dg hC (b:=false) (xs:=(fil (ay m) i).map fun k=>aU m (fce m k)) (g:=310) (cs:=[.ptr (cx (aU m (fce m i)))]) (fun o=>ovT (aU m (fce m i)) o) (by have:=aH (ay m) i;simp;omega) (fun x hx=>by
     obtain ⟨k,hk,rfl⟩:=List.mem_map.1 hx
     have hk:=(eX hk).2
     simp only [ay,Bool.and_eq_true] at hk
     exact fz hC hT (cQ hk.1))
    rw [<- fH,List.any_map] at kT
    have hov : (fil (ay m) i).any ((fun o=>ovT (aU m (fce m i)) o) ∘ fun k=>aU m (fce m k))=aS m i:=by
     rw [fil,List.any_filter,aS,hsn]
     rfl
    rw [hov] at kT
    rw [cc] at kT
    have tl:=cV m i
    have hml : maxLen=9223372036854775807:=rfl
    have e5:=d9 hsn
    have e6 : ce m (i + 1)=sdK (fce m i) 3++ce m i:=by simp [ce,hsn]
    have e7 : cj m (i + 1)=.bool true::.bool true::.bool true::cj m i:=by
     rw [cj,if_pos hsn];rfl
    have e8 : (fil (ay m) (i + 1)).length=(fil (ay m) i).length + 1:=by rw [cM hsn];simp
    have l8:=aH (ay m) i
    have lov:=aH (aS m) i
    have kT:=dg hC (b:=false) (xs:=(fil (ay m) i).map fun k=>aU m (fce m k)) (g:=310) (cs:=[.ptr (cx (aU m (fce m i)))]) (fun o=>ovT (aU m (fce m i)) o) (by have:=aH (ay m) i;simp;omega) (fun x hx=>by
     obtain ⟨k,hk,rfl⟩:=List.mem_map.1 hx
     have hk:=(eX hk).2
     simp only [ay,Bool.and_eq_true] at hk
     exact fz hC hT (cQ hk.1))
    rw [<- fH,List.any_map] at kT
    have hov : (fil (ay m) i).any ((fun o=>ovT (aU m (fce m i)) o) ∘ fun k=>aU m (fce m k))=aS m i:=by
     rw [fil,List.any_filter,aS,hsn]
     rfl
    rw [hov] at kT
    rw [cc] at kT
    have tl:=cV m i
    have hml : maxLen=9223372036854775807:=rfl
    have e5:=d9 hsn
    have e6 : ce m (i + 1)=sdK (fce m i) 3++ce m i:=by simp [ce,hsn]
    have e7 : cj m (i + 1)=.bool true::.bool true::.bool true::cj m i:=by
     rw [cj,if_pos hsn];rfl
    have e8 : (fil (ay m) (i + 1)).length=(fil (ay m) i).length + 1:=by rw [cM hsn];simp
    have l8:=aH (ay m) i
    have lov:=aH (aS m) i
    have kT:=dg hC (b:=false) (xs:=(fil (ay m) i).map fun k=>aU m (fce m k)) (g:=310) (cs:=[.ptr (cx (aU m (fce m i)))]) (fun o=>ovT (aU m (fce m i)) o) (by have:=aH (ay m) i;simp;omega) (fun x hx=>by
     obtain ⟨k,hk,rfl⟩:=List.mem_map.1 hx
     have hk:=(eX hk).2
     simp only [ay,Bool.and_eq_true] at hk
     exact fz hC hT (cQ hk.1))
    rw [<- fH,List.any_map] at kT
    have hov : (fil (ay m) i).any ((fun o=>ovT (aU m (fce m i)) o) ∘ fun k=>aU m (fce m k))=aS m i:=by
     rw [fil,List.any_filter,aS,hsn]
     rfl
    rw [hov] at kT
    rw [cc] at kT
    have tl:=cV m i
    have hml : maxLen=9223372036854775807:=rfl
    have e5:=d9 hsn
    have e6 : ce m (i + 1)=sdK (fce m i) 3++ce m i:=by simp [ce,hsn]
    have e7 : cj m (i + 1)=.bool true::.bool true::.bool true::cj m i:=by
     rw [cj,if_pos hsn];rfl
    have e8 : (fil (ay m) (i + 1)).length=(fil (ay m) i).length + 1:=by rw [cM hsn];simp
    have l8:=aH (ay m) i
    have lov:=aH (aS m) i
    have kT:=dg hC (b:=false) (xs:=(fil (ay m) i).map fun k=>aU m (fce m k)) (g:=310) (cs:=[.ptr (cx (aU m (fce m i)))]) (fun o=>ovT (aU m (fce m i)) o) (by have:=aH (ay m) i;simp;omega) (fun x hx=>by
     obtain ⟨k,hk,rfl⟩:=List.mem_map.1 hx
     have hk:=(eX hk).2
     simp only [ay,Bool.and_eq_true] at hk
     exact fz hC hT (cQ hk.1))
    rw [<- fH,List.any_map] at kT
    have hov : (fil (ay m) i).any ((fun o=>ovT (aU m (fce m i)) o) ∘ fun k=>aU m (fce m k))=aS m i:=by
     rw [fil,List.any_filter,aS,hsn]
     rfl
    rw [hov] at kT
    rw [cc] at kT
    have tl:=cV m i
    have hml : maxLen=9223372036854775807:=rfl
    have e5:=d9 hsn
    have e6 : ce m (i + 1)=sdK (fce m i) 3++ce m i:=by simp [ce,hsn]
    have e7 : cj m (i + 1)=.bool true::.bool true::.bool true::cj m i:=by
     rw [cj,if_pos hsn];rfl
    have e8 : (fil (ay m) (i + 1)).length=(fil (ay m) i).length + 1:=by rw [cM hsn];simp
    have l8:=aH (ay m) i
    have lov:=aH (aS m) i
    have kT:=dg hC (b:=false) (xs:=(fil (ay m) i).map fun k=>aU m (fce m k)) (g:=310) (cs:=[.ptr (cx (aU m (fce m i)))]) (fun o=>ovT (aU m (fce m i)) o) (by have:=aH (ay m) i;simp;omega) (fun x hx=>by
     obtain ⟨k,hk,rfl⟩:=List.mem_map.1 hx
     have hk:=(eX hk).2
     simp only [ay,Bool.and_eq_true] at hk
     exact fz hC hT (cQ hk.1))
    rw [<- fH,List.any_map] at kT
    have hov : (fil (ay m) i).any ((fun o=>ovT (aU m (fce m i)) o) ∘ fun k=>aU m (fce m k))=aS m i:=by
     rw [fil,List.any_filter,aS,hsn]
     rfl
    rw [hov] at kT
    rw [cc] at kT
    have tl:=cV m i
    have hml : maxLen=9223372036854775807:=rfl
    have e5:=d9 hsn
    have e6 : ce m (i + 1)=sdK (fce m i) 3++ce m i:=by simp [ce,hsn]
    have e7 : cj m (i + 1)=.bool true::.bool true::.bool true::cj m i:=by
     rw [cj,if_pos hsn];rfl
    have e8 : (fil (ay m) (i + 1)).length=(fil (ay m) i).length + 1:=by rw [cM hsn];simp
    have l8:=aH (ay m) i
    have lov:=aH (aS m) i
    have kT:=dg hC (b:=false) (xs:=(fil (ay m) i).map fun k=>aU m (fce m k)) (g:=310) (cs:=[.ptr (cx (aU m (fce m i)))]) (fun o=>ovT (aU m (fce m i)) o) (by have:=aH (ay m) i;simp;omega) (fun x hx=>by
     obtain ⟨k,hk,rfl⟩:=List.mem_map.1 hx
     have hk:=(eX hk).2
     simp only [ay,Bool.and_eq_true] at hk
     exact fz hC hT (cQ hk.1))
    rw [<- fH,List.any_map] at kT
    have hov : (fil (ay m) i).any ((fun o=>ovT (aU m (fce m i)) o) ∘ fun k=>aU m (fce m k))=aS m i:=by
     rw [fil,List.any_filter,aS,hsn]
     rfl
    rw [hov] at kT
    rw [cc] at kT
    have tl:=cV m i
    have hml : maxLen=9223372036854775807:=rfl
    have e5:=d9 hsn
    have e6 : ce m (i + 1)=sdK (fce m i) 3++ce m i:=by simp [ce,hsn]
    have e7 : cj m (i + 1)=.bool true::.bool true::.bool true::cj m i:=by
     rw [cj,if_pos hsn];rfl
    have e8 : (fil (ay m) (i + 1)).length=(fil (ay m) i).length + 1:=by rw [cM hsn];simp
    have l8:=aH (ay m) i
    have lov:=aH (aS m) i
    rcases (by cases i6 m i 0 <;> cases i6 m i 1 <;> cases i6 m i 2 <;> simp : i6 m i 0=true \/ (i6 m i 0=false /\ i6 m i 1=true) \/ (i6 m i 0=false /\ i6 m i 1=false /\ i6 m i 2=true) \/ (i6 m i 0=false /\ i6 m i 1=false /\ i6 m i 2=false)) with h0 | ⟨h0,h1⟩ | ⟨h0,h1,h2⟩ | ⟨h0,h1,h2⟩
    have y:=yes (by rw [hsd,h0];rfl)
    simp [h0]
    refine ⟨by omega,?_⟩
    rw [y]
    refine aw Nat (fun k=>pX m i k) (fun k=>k <= 3) (fun k=>3 - k) 0 (by simp) (by simp [gT,ab,aT,cx,sdK]) ?_
    rotate_left
    have y:=yes (by rw [hsd,h0,h1];rfl)
    simp [h0]
    refine aa ks1 (.inl rfl) ?_
    simp [kg1,h1]
    refine ⟨⟨by omega,by omega⟩,by omega,?_⟩
    rw [y]
    refine aw Nat (fun k=>pX m i k) (fun k=>k <= 3) (fun k=>3 - k) 0 (by simp) (by simp [gT,ab,aT,cx,sdK]) ?_
    rotate_left
    have y:=yes (by rw [hsd,h0,h1,h2];rfl)
    simp [h0]
    refine aa ks1 (.inl rfl) ?_
    simp [kg1,h1]
    refine ⟨⟨by omega,by omega⟩,?_⟩
    refine aa ks2 (.inl rfl) ?_
    simp [kg2,h2]
    refine ⟨⟨by omega,by omega⟩,by omega,?_⟩
    rw [y]
    refine aw Nat (fun k=>pX m i k) (fun k=>k <= 3) (fun k=>3 - k) 0 (by simp) (by simp [gT,ab,aT,cx,sdK]) ?_
    rotate_left
    have y:=nos (by rw [hsd,h0,h1,h2];rfl)
    simp [h0]
    refine aa ks1 (.inl rfl) ?_
    simp [kg1,h1]
    refine ⟨⟨by omega,by omega⟩,?_⟩
    refine aa ks2 (.inl rfl) ?_
    simp [kg2,h2]
    refine ⟨⟨by omega,by omega⟩,?_⟩
    rw [y]
    refine aw Nat (fun k=>pX m i k) (fun k=>k <= 3) (fun k=>3 - k) 0 (by simp) (by simp [gT,ab,aT,cx,sdK]) ?_
    rotate_left
    all_goals
     clear y
     rintro k hk
     simp [gT,ab,aT,cx]
     refine ao (fun g2=>?_) (fun g2=>?_) <;> simp at g2 <;> simp [g2]
     ·have hw2 : IntKind.wrap .i64 ((k : Int) + 1)=((k + 1 : Nat) : Int):=ac (by omega) (by omega)
      have ck:=cb k
      have ck1:=cb (k + 1)
      refine aa (ks k (by omega)) (.inl rfl) ?_
      simp [hw2,pD]
      refine ⟨by omega,⟨⟨by omega,by omega⟩,by omega,by omega⟩,k + 1,by omega,by omega,?_⟩
      simp [gT,ab,aT,cx,sdK,List.replicate_succ]
     ·have hk3 : k=3:=by omega
      subst hk3
      simp only [cx] at kT
      simp
      refine aa kT (.inl rfl) ?_
      simp
      simp only [cx] at e5
      cases hov2 : aS m i
      ·have e9:=fE hov2
       simp [hw]
       refine ⟨by omega,i + 1,by omega,by omega,?_⟩
       simp [dC,ab,<- b1,<- b2,<- e9,e5,e6,e7,e8]
      ·have e9:=ju hov2
       simp [hw]
       refine ⟨by omega,by omega,i + 1,by omega,by omega,?_⟩
       simp [dC,ab,<- b1,<- b2,e9,e5,e6,e7,e8]
  ·have hi2 : i=m.f.length:=by omega
   subst hi2
   have bd : ∀ (p : Nat -> Bool) (n : Nat),n <= 100 -> (fil p n).length <= 100 /\ ∀ x ∈ fil p n,x < 100:=fun p n hn=>⟨by have:=aH p n;omega,fun x hx=>by have:=(eX hx).1;omega⟩
   have q1:=bd (df m) _ hs
   have q2:=bd (b5 m) _ hs
   have q3:=bd (dP m) _ hf
   have q4:=bd (cy m) _ hf
   have q5:=bd (b8 m) _ hf
   have q6:=bd (aS m) _ hf
   have hLL : LL m=[[],fil (df m) m.s.length,fil (b5 m) m.s.length,fil (dP m) m.f.length,fil (cy m) m.f.length,fil (b8 m) m.f.length,fil (aS m) m.f.length]:=rfl
   rw [hLL]
   clear hLL bd
   generalize fil (df m) m.s.length=L1 at *
   generalize fil (b5 m) m.s.length=L2 at *
   generalize fil (dP m) m.f.length=L3 at *
   generalize fil (cy m) m.f.length=L4 at *
   generalize fil (b8 m) m.f.length=L5 at *
   generalize fil (aS m) m.f.length=L6 at *
   obtain ⟨AG,hAG⟩ : ∃ x,x=He L1 L2 L3 L4 L5 L6:=⟨_,rfl⟩
   obtain ⟨BK,hBK⟩ : ∃ x,x=Hn L1 L2 L3 L4 L5 L6:=⟨_,rfl⟩
   obtain ⟨U,hU⟩ : ∃ U : Nat -> List (Int × List UInt8),U=fun k=>cA dec 0 (([([] : List Nat),L1,L2,L3,L4,L5,L6]).take k):=⟨_,rfl⟩
   have hU7 : U 7=cA dec 0 [[],L1,L2,L3,L4,L5,L6]:=by rw [hU];rfl
   have hU0 : U 0=[]:=by rw [hU];rfl
   have bdU : ∀ k (L : List Nat),L.length <= 100 -> (U k).length <= 100 * k -> (U k++L.map fun i=>((k : Int),dec i)).length <= 100 * (k + 1):=fun k L h1 h2=>by simp;omega
   have hU0s : U 1=U 0++(([] : List Nat)).map fun i=>((0 : Int),dec i):=by
    rw [hU];show cA dec 0 (([([] : List Nat),L1,L2,L3,L4,L5,L6]).take 0++[([] : List Nat)])=_
    rw [cB];simp [cA]
   have hU1s : U 2=U 1++(L1).map fun i=>((1 : Int),dec i):=by
    rw [hU];show cA dec 0 (([([] : List Nat),L1,L2,L3,L4,L5,L6]).take 1++[L1])=_
    rw [cB];simp [cA]
   have hU2s : U 3=U 2++(L2).map fun i=>((2 : Int),dec i):=by
    rw [hU];show cA dec 0 (([([] : List Nat),L1,L2,L3,L4,L5,L6]).take 2++[L2])=_
    rw [cB];simp [cA]
   have hU3s : U 4=U 3++(L3).map fun i=>((3 : Int),dec i):=by
    rw [hU];show cA dec 0 (([([] : List Nat),L1,L2,L3,L4,L5,L6]).take 3++[L3])=_
    rw [cB];simp [cA]
   have hU4s : U 5=U 4++(L4).map fun i=>((4 : Int),dec i):=by
    rw [hU];show cA dec 0 (([([] : List Nat),L1,L2,L3,L4,L5,L6]).take 4++[L4])=_
    rw [cB];simp [cA]
   have hU5s : U 6=U 5++(L5).map fun i=>((5 : Int),dec i):=by
    rw [hU];show cA dec 0 (([([] : List Nat),L1,L2,L3,L4,L5,L6]).take 5++[L5])=_
    rw [cB];simp [cA]
   have hU6s : U 7=U 6++(L6).map fun i=>((6 : Int),dec i):=by
    rw [hU];show cA dec 0 (([([] : List Nat),L1,L2,L3,L4,L5,L6]).take 6++[L6])=_
    rw [cB];simp [cA]
   have lU0 : (U 0).length <= 0:=by rw [hU0];simp
   have lU1 : (U 1).length <= 100:=by rw [hU0s];simp;omega
   have lU2 : (U 2).length <= 200:=by rw [hU1s];simp;omega
   have lU3 : (U 3).length <= 300:=by rw [hU2s];simp;omega
   have lU4 : (U 4).length <= 400:=by rw [hU3s];simp;omega
   have lU5 : (U 5).length <= 500:=by rw [hU4s];simp;omega
   have lU6 : (U 6).length <= 600:=by rw [hU5s];simp;omega
   rw [<- hU7]
   refine aw Nat (fun k=>[(17,.ref (.r 10272) 0 (U k).length),(10272,.blk 2 (fnR (U k))),(181,AG),(182,.int .i64 k),(10064,BK)]) (fun k=>k <= 7) (fun k=>7 - k) 0 (by simp) (by simp [hU0,hAG,hBK,aK,bg]) ?_
   rintro k hk
   rcases (by omega : k=0 \/ k=1 \/ k=2 \/ k=3 \/ k=4 \/ k=5 \/ k=6 \/ k=7) with rfl | rfl | rfl | rfl | rfl | rfl | rfl | rfl
   ·simp [hAG,aK]
    refine aw Nat (fun j=>[(17,.ref (.r 10272) 0 ((U 0).length + j)),(10272,.blk 2 (fnR (U 0++tkD dec 0 ([] : List Nat) j))),(18,.int .i64 0),(181,AG),(182,.int .i64 0),(186,.ref (.n 10064 0 0) 0 (([] : List Nat)).length),(187,.int .i64 (([] : List Nat)).length),(188,.int .i64 j),(10064,BK)]) (fun j=>j <= (([] : List Nat)).length) (fun j=>(([] : List Nat)).length - j) 0 (by simp) (by simp [hAG,hBK,aK,bg,gk]) ?_
    rintro j hj
    simp [hAG,hBK,aK,bg]
    have hj0 : j=0:=by simpa using hj
    subst hj0
    simp [bQ,hAG,hBK,aK,bg]
    refine ⟨1,by omega,by omega,?_⟩
    rw [hU0s]
    simp [tkD]
   ·simp [hAG,aK]
    refine aw Nat (fun j=>[(17,.ref (.r 10272) 0 ((U 1).length + j)),(10272,.blk 2 (fnR (U 1++tkD dec 1 L1 j))),(18,.int .i64 1),(181,AG),(182,.int .i64 1),(186,.ref (.n 10064 0 1) 0 (L1).length),(187,.int .i64 (L1).length),(188,.int .i64 j),(10064,BK)]) (fun j=>j <= (L1).length) (fun j=>(L1).length - j) 0 (by simp) (by simp [hAG,hBK,aK,bg,gk]) ?_
    rintro j hj
    simp [hAG,hBK,aK,bg]
    refine ao (fun g3=>?_) (fun g3=>?_) <;> simp at g3 <;> simp [g3,hAG,hBK,aK,bg]
    ·have hj2 : j < L1.length:=by omega
     have hw3 : IntKind.wrap .i64 ((j : Int) + 1)=((j + 1 : Nat) : Int):=ac (by omega) (by omega)
     have hi:=hI (L1[j]) (q1.2 _ (List.getElem_mem hj2))
     have ht:=ij dec 1 L1 hj2
     have hl:=jF dec 1 L1 (Nat.le_of_lt hj2)
     rw [fD L1]
     try simp [hj2]
     refine aa hi (.inl rfl) ?_
     simp
     refine ⟨by omega,by omega,j + 1,by omega,by omega,by omega,?_,?_,hw3,?_⟩
     ·have e : (U 1).length + j=(U 1++tkD dec 1 L1 j).length:=by simp [hl]
      rw [e,gX,ix,ht,List.append_assoc]
     ·rw [hAG,aK]
     ·rw [hBK,bg];simp only [fD]
    ·have hj2 : j=L1.length:=by omega
     subst hj2
     refine ⟨2,by omega,by omega,?_⟩
     rw [hU1s,jE]
     simp [hAG,hBK,aK,bg]
     decide
   ·simp [hAG,aK]
    refine aw Nat (fun j=>[(17,.ref (.r 10272) 0 ((U 2).length + j)),(10272,.blk 2 (fnR (U 2++tkD dec 2 L2 j))),(18,.int .i64 2),(181,AG),(182,.int .i64 2),(186,.ref (.n 10064 0 2) 0 (L2).length),(187,.int .i64 (L2).length),(188,.int .i64 j),(10064,BK)]) (fun j=>j <= (L2).length) (fun j=>(L2).length - j) 0 (by simp) (by simp [hAG,hBK,aK,bg,gk]) ?_
    rintro j hj
    simp [hAG,hBK,aK,bg]
    refine ao (fun g3=>?_) (fun g3=>?_) <;> simp at g3 <;> simp [g3,hAG,hBK,aK,bg]
    ·have hj2 : j < L2.length:=by omega
     have hw3 : IntKind.wrap .i64 ((j : Int) + 1)=((j + 1 : Nat) : Int):=ac (by omega) (by omega)
     have hi:=hI (L2[j]) (q2.2 _ (List.getElem_mem hj2))
     have ht:=ij dec 2 L2 hj2
     have hl:=jF dec 2 L2 (Nat.le_of_lt hj2)
     rw [fD L2]
     try simp [hj2]
     refine aa hi (.inl rfl) ?_
     simp
     refine ⟨by omega,by omega,j + 1,by omega,by omega,by omega,?_,?_,hw3,?_⟩
     ·have e : (U 2).length + j=(U 2++tkD dec 2 L2 j).length:=by simp [hl]
      rw [e,gX,ix,ht,List.append_assoc]
     ·rw [hAG,aK]
     ·rw [hBK,bg];simp only [fD]
    ·have hj2 : j=L2.length:=by omega
     subst hj2
     refine ⟨3,by omega,by omega,?_⟩
     rw [hU2s,jE]
     simp [hAG,hBK,aK,bg]
     decide
   ·simp [hAG,aK]
    refine aw Nat (fun j=>[(17,.ref (.r 10272) 0 ((U 3).length + j)),(10272,.blk 2 (fnR (U 3++tkD dec 3 L3 j))),(18,.int .i64 3),(181,AG),(182,.int .i64 3),(186,.ref (.n 10064 0 3) 0 (L3).length),(187,.int .i64 (L3).length),(188,.int .i64 j),(10064,BK)]) (fun j=>j <= (L3).length) (fun j=>(L3).length - j) 0 (by simp) (by simp [hAG,hBK,aK,bg,gk]) ?_
    rintro j hj
    simp [hAG,hBK,aK,bg]
    refine ao (fun g3=>?_) (fun g3=>?_) <;> simp at g3 <;> simp [g3,hAG,hBK,aK,bg]
    ·have hj2 : j < L3.length:=by omega
     have hw3 : IntKind.wrap .i64 ((j : Int) + 1)=((j + 1 : Nat) : Int):=ac (by omega) (by omega)
     have hi:=hI (L3[j]) (q3.2 _ (List.getElem_mem hj2))
     have ht:=ij dec 3 L3 hj2
     have hl:=jF dec 3 L3 (Nat.le_of_lt hj2)
     rw [fD L3]
     try simp [hj2]
     refine aa hi (.inl rfl) ?_
     simp
     refine ⟨by omega,by omega,j + 1,by omega,by omega,by omega,?_,?_,hw3,?_⟩
     ·have e : (U 3).length + j=(U 3++tkD dec 3 L3 j).length:=by simp [hl]
      rw [e,gX,ix,ht,List.append_assoc]
     ·rw [hAG,aK]
     ·rw [hBK,bg];simp only [fD]
    ·have hj2 : j=L3.length:=by omega
     subst hj2
     refine ⟨4,by omega,by omega,?_⟩
     rw [hU3s,jE]
     simp [hAG,hBK,aK,bg]
     decide
   ·simp [hAG,aK]
    refine aw Nat (fun j=>[(17,.ref (.r 10272) 0 ((U 4).length + j)),(10272,.blk 2 (fnR (U 4++tkD dec 4 L4 j))),(18,.int .i64 4),(181,AG),(182,.int .i64 4),(186,.ref (.n 10064 0 4) 0 (L4).length),(187,.int .i64 (L4).length),(188,.int .i64 j),(10064,BK)]) (fun j=>j <= (L4).length) (fun j=>(L4).length - j) 0 (by simp) (by simp [hAG,hBK,aK,bg,gk]) ?_
    rintro j hj
    simp [hAG,hBK,aK,bg]
    refine ao (fun g3=>?_) (fun g3=>?_) <;> simp at g3 <;> simp [g3,hAG,hBK,aK,bg]
    ·have hj2 : j < L4.length:=by omega
     have hw3 : IntKind.wrap .i64 ((j : Int) + 1)=((j + 1 : Nat) : Int):=ac (by omega) (by omega)
     have hi:=hI (L4[j]) (q4.2 _ (List.getElem_mem hj2))
     have ht:=ij dec 4 L4 hj2
     have hl:=jF dec 4 L4 (Nat.le_of_lt hj2)
     rw [fD L4]
     try simp [hj2]
     refine aa hi (.inl rfl) ?_
     simp
     refine ⟨by omega,by omega,j + 1,by omega,by omega,by omega,?_,?_,hw3,?_⟩
     ·have e : (U 4).length + j=(U 4++tkD dec 4 L4 j).length:=by simp [hl]
      rw [e,gX,ix,ht,List.append_assoc]
     ·rw [hAG,aK]
     ·rw [hBK,bg];simp only [fD]
    ·have hj2 : j=L4.length:=by omega
     subst hj2
     refine ⟨5,by omega,by omega,?_⟩
     rw [hU4s,jE]
     simp [hAG,hBK,aK,bg]
     decide
   ·simp [hAG,aK]
    refine aw Nat (fun j=>[(17,.ref (.r 10272) 0 ((U 5).length + j)),(10272,.blk 2 (fnR (U 5++tkD dec 5 L5 j))),(18,.int .i64 5),(181,AG),(182,.int .i64 5),(186,.ref (.n 10064 0 5) 0 (L5).length),(187,.int .i64 (L5).length),(188,.int .i64 j),(10064,BK)]) (fun j=>j <= (L5).length) (fun j=>(L5).length - j) 0 (by simp) (by simp [hAG,hBK,aK,bg,gk]) ?_
    rintro j hj
    simp [hAG,hBK,aK,bg]
    refine ao (fun g3=>?_) (fun g3=>?_) <;> simp at g3 <;> simp [g3,hAG,hBK,aK,bg]
    ·have hj2 : j < L5.length:=by omega
     have hw3 : IntKind.wrap .i64 ((j : Int) + 1)=((j + 1 : Nat) : Int):=ac (by omega) (by omega)
     have hi:=hI (L5[j]) (q5.2 _ (List.getElem_mem hj2))
     have ht:=ij dec 5 L5 hj2
     have hl:=jF dec 5 L5 (Nat.le_of_lt hj2)
     rw [fD L5]
     try simp [hj2]
     refine aa hi (.inl rfl) ?_
     simp
     refine ⟨by omega,by omega,j + 1,by omega,by omega,by omega,?_,?_,hw3,?_⟩
     ·have e : (U 5).length + j=(U 5++tkD dec 5 L5 j).length:=by simp [hl]
      rw [e,gX,ix,ht,List.append_assoc]
     ·rw [hAG,aK]
     ·rw [hBK,bg];simp only [fD]
    ·have hj2 : j=L5.length:=by omega
     subst hj2
     refine ⟨6,by omega,by omega,?_⟩
     rw [hU5s,jE]
     simp [hAG,hBK,aK,bg]
     decide
   ·simp [hAG,aK]
    refine aw Nat (fun j=>[(17,.ref (.r 10272) 0 ((U 6).length + j)),(10272,.blk 2 (fnR (U 6++tkD dec 6 L6 j))),(18,.int .i64 6),(181,AG),(182,.int .i64 6),(186,.ref (.n 10064 0 6) 0 (L6).length),(187,.int .i64 (L6).length),(188,.int .i64 j),(10064,BK)]) (fun j=>j <= (L6).length) (fun j=>(L6).length - j) 0 (by simp) (by simp [hAG,hBK,aK,bg,gk]) ?_
    rintro j hj
    simp [hAG,hBK,aK,bg]
    refine ao (fun g3=>?_) (fun g3=>?_) <;> simp at g3 <;> simp [g3,hAG,hBK,aK,bg]
    ·have hj2 : j < L6.length:=by omega
     have hw3 : IntKind.wrap .i64 ((j : Int) + 1)=((j + 1 : Nat) : Int):=ac (by omega) (by omega)
     have hi:=hI (L6[j]) (q6.2 _ (List.getElem_mem hj2))
     have ht:=ij dec 6 L6 hj2
     have hl:=jF dec 6 L6 (Nat.le_of_lt hj2)
     rw [fD L6]
     try simp [hj2]
     refine aa hi (.inl rfl) ?_
     simp
     refine ⟨by omega,by omega,j + 1,by omega,by omega,by omega,?_,?_,hw3,?_⟩
     ·have e : (U 6).length + j=(U 6++tkD dec 6 L6 j).length:=by simp [hl]
      rw [e,gX,ix,ht,List.append_assoc]
     ·rw [hAG,aK]
     ·rw [hBK,bg];simp only [fD]
    ·have hj2 : j=L6.length:=by omega
     subst hj2
     refine ⟨7,by omega,by omega,?_⟩
     rw [hU6s,jE]
     simp [hAG,hBK,aK,bg]
     decide
   ·simp [hAG,aK]
    rfl
end Go.Gv

namespace Go.Gv
theorem mq {m : Msh} (h : aF m=true) : m.s.length <= 2000 /\ m.f.length <= 4000:=by
 simp only [aF,bA,Bool.and_eq_true,decide_eq_true_eq] at h
 exact h.1
theorem nP {m : Msh} (h : aF m=true) : ∀ l ∈ LL m,l=[]:=by
 simp only [aF,Bool.and_eq_true,List.all_eq_true,decide_eq_true_eq] at h
 exact h.2
theorem pM {m : Msh} (h : aF m=true) {i : Nat} (hi : i < m.s.length) : bf (spt m i)=true:=by
 have:=pc.1 (nP h (fil (df m) m.s.length) (by simp [LL])) i hi
 simpa [df] using this
theorem jG {m : Msh} (h : aF m=true) {i : Nat} (hi : i < m.f.length) : okF m (fce m i)=true /\ 0 < oR (aU m (fce m i)):=by
 have h1:=pc.1 (nP h (fil (dP m) m.f.length) (by simp [LL])) i hi
 have h2:=pc.1 (nP h (fil (cy m) m.f.length) (by simp [LL])) i hi
 have h3 : okF m (fce m i)=true:=by simpa [dP] using h1
 refine ⟨h3,?_⟩
 simp [cy,h3] at h2
 omega
theorem fy {m : Msh} (h : aF m=true) {i : Nat} (hi : i < m.f.length) : inS m (fce m i)=true:=jv (jG h hi).1
def IB (f : Fce) (a b : Int) : Bool:=(List.range 3).any fun j=>decide (crn f j=a) && decide (crn f (j + 1)=b)
def tx (m : Msh) (a b : Int) : Int:=jY (fun f=>IB f a b) m.f
def nbF (m : Msh) (i k : Nat) : Int:=tx m (crn (fce m i) (k + 1)) (crn (fce m i) k)
def Kl (p : Nat -> Bool) : Nat -> Option Nat
 | 0=>none
 | i + 1=>if p i then some i else Kl p i
def wY (m : Msh) : Nat -> List D
 | 0=>[]
 | i + 1=>sdK (fce m i) 3++wY m i
def wZ (m : Msh) : Nat -> List D
 | 0=>[]
 | i + 1=>List.replicate 3 (.int .i64 i)++wZ m i
def nbC (m : Msh) (i k j c : Nat) : Int:=if j < i \/ (j=i /\ c < k) then nbF m j c else 0
def nbR (m : Msh) (i k : Nat) : List (List D):=(List.range m.f.length).map fun j=>[.int .i64 (nbC m i k j 0),.int .i64 (nbC m i k j 1),.int .i64 (nbC m i k j 2)]
def nbA (m : Msh) : List (List D):=(List.range m.f.length).map fun j=>[.int .i64 (nbF m j 0),.int .i64 (nbF m j 1),.int .i64 (nbF m j 2)]
@[simp] theorem PA (m : Msh) (i k : Nat) : (nbR m i k).length=m.f.length:=by simp [nbR]
@[simp] theorem KH (m : Msh) (i k : Nat) : List.take m.f.length (nbR m i k)=nbR m i k:=List.take_of_length_le (by simp)
@[simp] theorem Rx (m : Msh) (i k : Nat) : List.map (fun e=>List.map aV e) (nbR m i k)=nbR m i k:=by simp [nbR]
variable {C : CC} (hC : aB prog C)
include hC
theorem vc (m : Msh) (h : bA m=false) : C 273 [.agg (aN m)] (.tup [.nils,.int .i64 4]) []:=by
 have ksm:=qF hC m
 rw [show (decide (m.s.length <= 2000) && decide (m.f.length <= 4000))=false from h] at ksm
 refine start hC (nf:=N273) rfl rfl ?_
 simp only [ab] at ksm
 simp [N273,ab]
 refine aa ksm (.inl rfl) ?_
 simp
theorem qD (dec : Nat -> List UInt8) (hI : ∀ n : Nat,n < 100 -> C 127 [.int .i64 n] (.str (dec n)) []) (m : Msh) (hz : bA m=true -> m.s.length <= 100 /\ m.f.length <= 100) : C 234 [.agg (aN m)] (.bool (aF m)) []:=by
 cases hs : bA m
 ·have k:=vc hC m hs
  refine start hC (nf:=N234) rfl rfl ?_
  simp only [ab] at k
  simp [N234,ab]
  refine aa k (.inr rfl) ?_
  simp [aF,hs]
 ·obtain ⟨h1,h2⟩:=hz hs
  have k:=ym hC dec hI m h1 h2
  have e : aF m=decide ((cA dec 0 (LL m)).length=0):=by
   rw [aF,hs,Bool.true_and,Bool.eq_iff_iff,decide_eq_true_eq,List.length_eq_zero_iff,ni]
  obtain ⟨X,hX⟩ : ∃ X,X=cA dec 0 (LL m):=⟨_,rfl⟩
  rw [e]
  rw [<- hX] at k ⊢
  refine start hC (nf:=N234) rfl rfl ?_
  simp only [ab] at k
  simp [N234,ab]
  refine aa k (.inr rfl) ?_
  simp
end Go.Gv

namespace Go.Gv
section
variable {C : CC} {hs : Option (List Nat)} {K : Env -> Prop} {ns : List av} {dst : Option Nat} {u : Tag (hs,K,ns)} {e : Env} {R : List Nat} {acc : List (List Nat × List Nat)}
@[simp] theorem IK {sz : Nat} {c0 c1 c2 c3 c4 c5 : List D} {es : List (List D)} : jK C hs K ns dst u e R acc sz (c0::c1::c2::c3::c4::c5::es) 5=(c5.length=sz /\ dW C hs K ns dst ⟨⟩ e R acc (.ptr c5)):=cT rfl
@[simp] theorem LB {n : Nat} {ag : Bool} {p : Pa} {off : Nat} {c0 c1 c2 c3 c4 c5 : List D} {es : List (List D)} : lV C hs K ns dst u e R acc n ag p (c0::c1::c2::c3::c4::c5::es) 5 off=(off + n <= c5.length /\ match ag with
    | true=>(((c5.drop off).take n).all isV=true -> dW C hs K ns dst ⟨⟩ e R acc (.agg ((c5.drop off).take n))) /\
      (((c5.drop off).take n).all isV=false -> dW C hs K ns dst ⟨⟩ e R acc (.agx (((c5.drop off).take n).mapIdx fun j c=>ldc p 5 (off + j) c)))
    | false=>dW C hs K ns dst ⟨⟩ e R acc (ldc p 5 off ((c5.drop off).headD .any))):=ca rfl
@[simp] theorem IL {sz : Nat} {c0 c1 c2 c3 c4 c5 c6 : List D} {es : List (List D)} : jK C hs K ns dst u e R acc sz (c0::c1::c2::c3::c4::c5::c6::es) 6=(c6.length=sz /\ dW C hs K ns dst ⟨⟩ e R acc (.ptr c6)):=cT rfl
@[simp] theorem LC {n : Nat} {ag : Bool} {p : Pa} {off : Nat} {c0 c1 c2 c3 c4 c5 c6 : List D} {es : List (List D)} : lV C hs K ns dst u e R acc n ag p (c0::c1::c2::c3::c4::c5::c6::es) 6 off=(off + n <= c6.length /\ match ag with
    | true=>(((c6.drop off).take n).all isV=true -> dW C hs K ns dst ⟨⟩ e R acc (.agg ((c6.drop off).take n))) /\
      (((c6.drop off).take n).all isV=false -> dW C hs K ns dst ⟨⟩ e R acc (.agx (((c6.drop off).take n).mapIdx fun j c=>ldc p 6 (off + j) c)))
    | false=>dW C hs K ns dst ⟨⟩ e R acc (ldc p 6 off ((c6.drop off).headD .any))):=ca rfl
@[simp] theorem IM {sz : Nat} {c0 c1 c2 c3 c4 c5 c6 c7 : List D} {es : List (List D)} : jK C hs K ns dst u e R acc sz (c0::c1::c2::c3::c4::c5::c6::c7::es) 7=(c7.length=sz /\ dW C hs K ns dst ⟨⟩ e R acc (.ptr c7)):=cT rfl
@[simp] theorem LD {n : Nat} {ag : Bool} {p : Pa} {off : Nat} {c0 c1 c2 c3 c4 c5 c6 c7 : List D} {es : List (List D)} : lV C hs K ns dst u e R acc n ag p (c0::c1::c2::c3::c4::c5::c6::c7::es) 7 off=(off + n <= c7.length /\ match ag with
    | true=>(((c7.drop off).take n).all isV=true -> dW C hs K ns dst ⟨⟩ e R acc (.agg ((c7.drop off).take n))) /\
      (((c7.drop off).take n).all isV=false -> dW C hs K ns dst ⟨⟩ e R acc (.agx (((c7.drop off).take n).mapIdx fun j c=>ldc p 7 (off + j) c)))
    | false=>dW C hs K ns dst ⟨⟩ e R acc (ldc p 7 off ((c7.drop off).headD .any))):=ca rfl
end
end Go.Gv

namespace Go.Gv
def gJ (n : Nat) : List UInt8:=o7 n []
def fdL (k : Int) (l : List Nat) : List (Int × List UInt8):=l.map fun i=>(k,gJ i)
@[simp] theorem MO (k : Int) (l : List Nat) : (fdL k l).length=l.length:=by simp [fdL]
def fdR (k : Int) (l : List Nat) : List (List D):=fnR (fdL k l)
@[simp] theorem MQ (k : Int) (l : List Nat) : (fdR k l).length=l.length:=by simp [fdR]
@[simp] theorem Ir (k : Int) (l : List Nat) : List.take l.length (fdR k l)=fdR k l:=List.take_of_length_le (by simp)
theorem iv {p : Nat -> Bool} {n : Nat} {k : Int} (h : p n=true) : fdR k (fil p n)++[[D.int .i64 k,.str (gJ n)]]=fdR k (fil p (n + 1)):=by
 rw [cM h];simp [fdR,ix,fdL]
theorem fj {p : Nat -> Bool} {n : Nat} {k : Int} (h : p n=false) : fdR k (fil p n)=fdR k (fil p (n + 1)):=by rw [lH h]
@[simp] theorem CL (k : Int) (l : List Nat) : (∀ e ∈ fdR k l,∀ c ∈ e,aA c=true)=True:=by simp [fdR,fnR,fnD,fdL]
@[simp] theorem MP (k : Int) (l : List Nat) (x : List D) : (∀ e,e ∈ fdR k l \/ e=x -> ∀ c,c ∈ e -> aA c=true)=∀ c,c ∈ x -> aA c=true:=by
 apply propext
 constructor
 ·exact fun h=>h x (.inr rfl)
 ·rintro h e (he | rfl)
  ·exact (CL k l).mpr trivial e he
  ·exact h
@[simp] theorem MR (k : Int) : fdR k []=[]:=rfl
def fcR (m : Msh) (l : List Nat) : List (List D):=l.map fun k=>bq (fce m k)
@[simp] theorem MM (m : Msh) (l : List Nat) : (fcR m l).length=l.length:=by simp [fcR]
@[simp] theorem Iq (m : Msh) (l : List Nat) : List.take l.length (fcR m l)=fcR m l:=List.take_of_length_le (by simp)
@[simp] theorem MN (m : Msh) : fcR m []=[]:=rfl
theorem y5 {m : Msh} {i : Nat} (h : ay m i=true) : fcR m (fil (ay m) i)++[bq (fce m i)]=fcR m (fil (ay m) (i + 1)):=by rw [cM h];simp [fcR]
theorem iY (m : Msh) (l : List Nat) : fcR m l=l.map fun k=>bq (fce m k):=rfl
def lA (p : Nat -> Bool) (l : List Nat) (k : Nat) : Bool:=(l.take k).any p
theorem tL (p : Nat -> Bool) (l : List Nat) : lA p l 0=false:=by simp [lA]
theorem n7 (p : Nat -> Bool) {l : List Nat} {k : Nat} (h : k < l.length) : lA p l (k + 1)=(lA p l k || p l[k]):=by
 unfold lA
 rw [List.take_add_one,List.getElem?_eq_getElem h,List.any_append]
 simp
theorem pP (p : Nat -> Bool) (l : List Nat) : lA p l l.length=l.any p:=by simp [lA]
def shP (m : Msh) (i k : Nat) : Bool:=lW (fce m i) (fce m k)
def ovP (m : Msh) (i k : Nat) : Bool:=ovT (aU m (fce m i)) (aU m (fce m k))
theorem uN {m : Msh} {i : Nat} (h : ay m i=true) : b8 m i=(fil (ay m) i).any (shP m i):=by
 rw [fil,List.any_filter,b8,h];rfl
theorem uF {m : Msh} {i : Nat} (h : ay m i=true) : aS m i=(fil (ay m) i).any (ovP m i):=by
 rw [fil,List.any_filter,aS,h];rfl
def Lz (m : Msh) (i k : Nat) : Env:=[(1,.ptr (aN m)),(3,.ref (.r 10048) 0 7),(10048,.blk 1 [[.own 2 []],[.own 2 (fdR 1 (fil (df m) m.s.length))],[.own 2 (fdR 2 (fil (b5 m) m.s.length))],[.own 2 (fdR 3 (fil (dP m) i))],[.own 2 (fdR 4 (fil (cy m) i))],[.own 2 (fdR 5 (fil (b8 m) i))],[.own 2 (fdR 6 (fil (aS m) i))]]),(7,.ref (.r 10112) 0 (fil (ay m) i).length),(10112,.blk 4 (fcR m (fil (ay m) i))),(8,.int .i64 i),(9,.adr (.r 10144) 0 0),(10144,.blk 4 [bq (fce m i)]),(10,.bool (lA (shP m i) (fil (ay m) i) k)),(11,.bool (lA (ovP m i) (fil (ay m) i) k)),(12,.int .i64 k)]
theorem jz (m : Msh) (i k : Nat) : Lz m i k=[(1,.ptr (aN m)),(3,.ref (.r 10048) 0 7),(10048,.blk 1 [[.own 2 []],[.own 2 (fdR 1 (fil (df m) m.s.length))],[.own 2 (fdR 2 (fil (b5 m) m.s.length))],[.own 2 (fdR 3 (fil (dP m) i))],[.own 2 (fdR 4 (fil (cy m) i))],[.own 2 (fdR 5 (fil (b8 m) i))],[.own 2 (fdR 6 (fil (aS m) i))]]),(7,.ref (.r 10112) 0 (fil (ay m) i).length),(10112,.blk 4 (fcR m (fil (ay m) i))),(8,.int .i64 i),(9,.adr (.r 10144) 0 0),(10144,.blk 4 [bq (fce m i)]),(10,.bool (lA (shP m i) (fil (ay m) i) k)),(11,.bool (lA (ovP m i) (fil (ay m) i) k)),(12,.int .i64 k)]:=_root_.id rfl
def Lw (m : Msh) (i : Nat) : Env:=[(1,.ptr (aN m)),(3,.ref (.r 10048) 0 7),(10048,.blk 1 [[.own 2 []],[.own 2 (fdR 1 (fil (df m) i))],[.own 2 (fdR 2 (fil (b5 m) i))],[.own 2 []],[.own 2 []],[.own 2 []],[.own 2 []]]),(4,.int .i64 i)]
theorem kY (m : Msh) (i : Nat) : Lw m i=[(1,.ptr (aN m)),(3,.ref (.r 10048) 0 7),(10048,.blk 1 [[.own 2 []],[.own 2 (fdR 1 (fil (df m) i))],[.own 2 (fdR 2 (fil (b5 m) i))],[.own 2 []],[.own 2 []],[.own 2 []],[.own 2 []]]),(4,.int .i64 i)]:=_root_.id rfl
def Lx (m : Msh) (i k : Nat) : Env:=[(1,.ptr (aN m)),(3,.ref (.r 10048) 0 7),(10048,.blk 1 [[.own 2 []],[.own 2 (fdR 1 (fil (df m) i))],[.own 2 (fdR 2 (fil (b5 m) i))],[.own 2 []],[.own 2 []],[.own 2 []],[.own 2 []]]),(4,.int .i64 i),(5,.adr (.r 10080) 0 0),(10080,.blk 3 [eA (spt m i)]),(6,.int .i64 k)]
theorem mF (m : Msh) (i k : Nat) : Lx m i k=[(1,.ptr (aN m)),(3,.ref (.r 10048) 0 7),(10048,.blk 1 [[.own 2 []],[.own 2 (fdR 1 (fil (df m) i))],[.own 2 (fdR 2 (fil (b5 m) i))],[.own 2 []],[.own 2 []],[.own 2 []],[.own 2 []]]),(4,.int .i64 i),(5,.adr (.r 10080) 0 0),(10080,.blk 3 [eA (spt m i)]),(6,.int .i64 k)]:=_root_.id rfl
def Ly (m : Msh) (i : Nat) : Env:=[(1,.ptr (aN m)),(3,.ref (.r 10048) 0 7),(10048,.blk 1 [[.own 2 []],[.own 2 (fdR 1 (fil (df m) m.s.length))],[.own 2 (fdR 2 (fil (b5 m) m.s.length))],[.own 2 (fdR 3 (fil (dP m) i))],[.own 2 (fdR 4 (fil (cy m) i))],[.own 2 (fdR 5 (fil (b8 m) i))],[.own 2 (fdR 6 (fil (aS m) i))]]),(7,.ref (.r 10112) 0 (fil (ay m) i).length),(10112,.blk 4 (fcR m (fil (ay m) i))),(8,.int .i64 i)]
theorem gE (m : Msh) (i : Nat) : Ly m i=[(1,.ptr (aN m)),(3,.ref (.r 10048) 0 7),(10048,.blk 1 [[.own 2 []],[.own 2 (fdR 1 (fil (df m) m.s.length))],[.own 2 (fdR 2 (fil (b5 m) m.s.length))],[.own 2 (fdR 3 (fil (dP m) i))],[.own 2 (fdR 4 (fil (cy m) i))],[.own 2 (fdR 5 (fil (b8 m) i))],[.own 2 (fdR 6 (fil (aS m) i))]]),(7,.ref (.r 10112) 0 (fil (ay m) i).length),(10112,.blk 4 (fcR m (fil (ay m) i))),(8,.int .i64 i)]:=_root_.id rfl
variable {C : CC} (hC : aB prog C)
include hC
set_option maxRecDepth 4000 in
set_option maxHeartbeats 4000000 in
theorem xt (m : Msh) (hs : m.s.length <= 100) (hf : m.f.length <= 100) : C 258 [.agg (aN m)] (.sl ((cA gJ 0 (LL m)).map fnD)) []:=by
 have kr:=fun s=>tr hC s
 have kd:=fun n h=>DJ hC n h
 have kp:=fun s=>kX hC s
 refine start hC (nf:=N258) rfl rfl ?_
 simp [N258,ab]
 refine aw Nat (fun i=>Lw m i) (fun i=>i <= m.s.length) (fun i=>m.s.length - i) 0 (by simp) (by simp [kY,ab,kK,List.replicate]) ?_
 rintro i hi
 simp [kY,ab]
 refine ao (fun g1=>?_) (fun g1=>?_) <;> simp at g1 <;> simp [g1]
 ·have hw : IntKind.wrap .i64 ((i : Int) + 1)=((i + 1 : Nat) : Int):=ac (by omega) (by omega)
  have kri:=kr (spt m i)
  simp only [bz] at kri
  have kdi:=kd i (by omega)
  have l1:=aH (df m) i
  have l2:=aH (b5 m) i
  simp [bz]
  refine aa kri (.inl rfl) ?_
  simp
  cases hr1 : bf (spt m i)
  ·have e1:=iv (p:=df m) (n:=i) (k:=1) (by simp [df,hr1])
   have e2:=fj (p:=b5 m) (n:=i) (k:=2) (by simp [b5,hr1])
   simp
   refine aa kdi (.inl rfl) ?_
   simp
   simp only [gJ] at e1
   refine ⟨by omega,aj (by decide +kernel),i + 1,by omega,by omega,?_⟩
   simp [kY,ab,hw,e1,<- e2]
  ·have e0:=fj (p:=df m) (n:=i) (k:=1) (by simp [df,hr1])
   have hsame : b5 m i=(List.range i).any fun k=>bf (spt m k) && decide (gQ m k=gQ m i):=by rw [b5,hr1,Bool.true_and]
   simp
   refine aw Nat (fun k=>Lx m i k) (fun k=>k <= i /\ ∀ j,j < k -> bf (spt m j)=true -> ¬ gQ m j=gQ m i) (fun k=>i - k) 0 (by simp) (by simp [mF,ab,bz]) ?_
   rintro k ⟨hk,hK⟩
   simp [mF,ab,bz]
   refine ao (fun g2=>?_) (fun g2=>?_) <;> simp at g2 <;> simp [g2]
   ·have hw2 : IntKind.wrap .i64 ((k : Int) + 1)=((k + 1 : Nat) : Int):=ac (by omega) (by omega)
    have krk:=kr (spt m k)
    have kpk:=kp (spt m k)
    have kpi:=kp (spt m i)
    simp only [bz,ptD] at krk kpk kpi
    have hks : k < m.s.length:=by omega
    simp [hks,bz]
    refine aa krk (.inl rfl) ?_
    simp
    have next : (bf (spt m k)=true -> ¬ gQ m k=gQ m i) -> ∀ j,j < k + 1 -> bf (spt m j)=true -> ¬ gQ m j=gQ m i:=fun h j hj=>by
     rcases Nat.lt_succ_iff_lt_or_eq.1 hj with h2 | rfl
     ·exact hK j h2
     ·exact h
    cases hr2 : bf (spt m k)
    ·simp
     refine ⟨aj (by decide +kernel),?_⟩
     refine ⟨k + 1,⟨by omega,next (by rw [hr2];simp)⟩,by omega,?_⟩
     simp [mF,ab,bz,hw2]
    ·simp [hks,bz]
     refine aa kpk (.inl rfl) ?_
     simp
     refine aa kpi (.inl rfl) ?_
     simp
     refine ⟨aj (by decide +kernel),?_⟩
     by_cases hp : gQ m k=gQ m i
     ·have hs1 : b5 m i=true:=by
       rw [hsame,List.any_eq_true]
       exact ⟨k,List.mem_range.2 g2,by simp [hr2,hp]⟩
      have e2:=iv (p:=b5 m) (n:=i) (k:=2) hs1
      simp only [gJ] at e2
      have hp1 : (ptS (spt m k)).1=(ptS (spt m i)).1:=congrArg Prod.fst hp
      have hp2 : (ptS (spt m k)).2=(ptS (spt m i)).2:=congrArg Prod.snd hp
      simp [hp1,hp2]
      refine aa kdi (.inl rfl) ?_
      simp
      refine ⟨by omega,aj (by decide +kernel),i + 1,by omega,by omega,?_⟩
      simp [kY,ab,hw,<- e0,e2]
     ·have hp1 : ¬ ((ptS (spt m k)).1=(ptS (spt m i)).1 /\ (ptS (spt m k)).2=(ptS (spt m i)).2):=fun h=>hp (Prod.ext h.1 h.2)
      have hp2 : (decide ((ptS (spt m k)).1=(ptS (spt m i)).1) && decide ((ptS (spt m k)).2=(ptS (spt m i)).2))=false:=by
       rw [Bool.eq_false_iff];simpa using hp1
      simp [hp2]
      refine ⟨k + 1,⟨by omega,next (fun _=>hp)⟩,by omega,?_⟩
      simp [mF,ab,bz,hw2]
   ·have hk2 : k=i:=by omega
    subst hk2
    have hs1 : b5 m k=false:=by
     rw [hsame,List.any_eq_false]
     intro j hj
     have:=hK j (List.mem_range.1 hj)
     simpa using this
    have e2:=fj (p:=b5 m) (n:=k) (k:=2) hs1
    refine ⟨k + 1,by omega,by omega,?_⟩
    simp [kY,ab,hw,<- e0,<- e2]
 ·have hi2 : i=m.s.length:=by omega
  subst hi2
  clear kr kp
  have kc:=fun f=>DK hC m f (by omega)
  refine aw Nat (fun i=>Ly m i) (fun i=>i <= m.f.length) (fun i=>m.f.length - i) 0 (by simp) (by simp [gE,ab,kK]) ?_
  clear hi g1
  rintro i hi
  simp [gE,ab]
  refine ao (fun g1=>?_) (fun g1=>?_) <;> simp at g1 <;> simp [g1]
  ·have hw : IntKind.wrap .i64 ((i : Int) + 1)=((i + 1 : Nat) : Int):=ac (by omega) (by omega)
   have kci:=kc (fce m i)
   have kdi:=kd i (by omega)
   simp only [ab,aT] at kci
   have l3:=aH (dP m) i
   have l4:=aH (cy m) i
   have l5:=aH (b8 m) i
   have l6:=aH (aS m) i
   simp [aT]
   refine aa kci (.inl rfl) ?_
   simp
   cases ok : okF m (fce m i)
   ·have hsn : ay m i=false:=by simp [ay,ok]
    have e1:=iv (p:=dP m) (n:=i) (k:=3) (by simp [dP,ok])
    have e2:=fj (p:=cy m) (n:=i) (k:=4) (by simp [cy,ok])
    have e3:=fj (p:=b8 m) (n:=i) (k:=5) (by simp [b8,hsn])
    have e4:=fj (p:=aS m) (n:=i) (k:=6) (by simp [aS,hsn])
    have e5:=lH hsn
    simp only [gJ] at e1
    simp
    refine aa kdi (.inl rfl) ?_
    simp
    refine ⟨by omega,aj (by decide +kernel),i + 1,by omega,by omega,?_⟩
    simp [gE,ab,hw,e1,<- e2,<- e3,<- e4,e5]
   ·have hT:=cQ ok
    have kt:=tv hC m (fce m i) (jv ok) hT
    simp only [ab,aT] at kt
    have e1:=fj (p:=dP m) (n:=i) (k:=3) (by simp [dP,ok])
    simp
    refine aa kt (.inl rfl) ?_
    simp
    refine ao (fun d1=>?_) (fun d1=>?_) <;> simp at d1 <;> simp [d1]
    ·have hfl : cy m i=true:=by simp [cy,ok,d1]
     have hsn : ay m i=false:=by simp [ay,ok];omega
     have e2:=iv (k:=4) hfl
     have e3:=fj (p:=b8 m) (n:=i) (k:=5) (by simp [b8,hsn])
     have e4:=fj (p:=aS m) (n:=i) (k:=6) (by simp [aS,hsn])
     have e5:=lH hsn
     simp only [gJ] at e2
     refine aa kdi (.inl rfl) ?_
     simp
     refine ⟨by omega,aj (by decide +kernel),i + 1,by omega,by omega,?_⟩
     simp [gE,ab,hw,<- e1,e2,<- e3,<- e4,e5]
    ·have hfl : cy m i=false:=by simp [cy,ok];omega
     have hsn : ay m i=true:=by simp [ay,ok,d1]
     have e2:=fj (k:=4) hfl
     have lsn:=aH (ay m) i
     have hsd:=uN hsn
     have hov:=uF hsn
     refine aw Nat (fun k=>Lz m i k) (fun k=>k <= (fil (ay m) i).length) (fun k=>(fil (ay m) i).length - k) 0 (by simp) (by simp [jz,ab,aT,tL]) ?_
     rintro k hk
     simp [jz,ab,aT]
     refine ao (fun g2=>?_) (fun g2=>?_) <;> simp at g2 <;> simp [g2]
     ·have hw2 : IntKind.wrap .i64 ((k : Int) + 1)=((k + 1 : Nat) : Int):=ac (by omega) (by omega)
      have hq:=(eX (List.getElem_mem g2)).2
      simp only [ay,Bool.and_eq_true] at hq
      have ks:=Ae hC (fce m i) (fce m (fil (ay m) i)[k])
      have ko:=sw hC m (fce m i) (fce m (fil (ay m) i)[k]) (jv ok) hT (jv hq.1) (cQ hq.1)
      have a1:=n7 (shP m i) g2
      have a2:=n7 (ovP m i) g2
      rw [show shP m i (fil (ay m) i)[k]=lW (fce m i) (fce m (fil (ay m) i)[k]) from rfl] at a1
      rw [show ovP m i (fil (ay m) i)[k]=ovT (aU m (fce m i)) (aU m (fce m (fil (ay m) i)[k])) from rfl] at a2
      simp only [ab,aT] at ks ko
      cases h1 : lA (shP m i) (fil (ay m) i) k <;> cases h2 : lA (ovP m i) (fil (ay m) i) k <;> rw [h1] at a1 <;> rw [h2] at a2 <;> simp at a1 a2
      ·simp [iY,g2,aT]
       refine aa ks (.inl rfl) ?_
       simp
       refine ⟨aj (by decide +kernel),?_⟩
       simp [iY,g2,aT]
       refine aa ko (.inl rfl) ?_
       simp
       refine ⟨aj (by decide +kernel),?_⟩
       refine ⟨k + 1,by omega,by omega,?_⟩
       simp [jz,ab,aT,hw2,a1,a2,iY]
      ·simp [iY,g2,aT]
       refine aa ks (.inl rfl) ?_
       simp
       refine ⟨aj (by decide +kernel),aj (by decide +kernel),?_⟩
       refine ⟨k + 1,by omega,by omega,?_⟩
       simp [jz,ab,aT,hw2,a1,a2,iY]
      ·simp
       refine ⟨aj (by decide +kernel),?_⟩
       simp [iY,g2,aT]
       refine aa ko (.inl rfl) ?_
       simp
       refine ⟨aj (by decide +kernel),?_⟩
       refine ⟨k + 1,by omega,by omega,?_⟩
       simp [jz,ab,aT,hw2,a1,a2,iY]
      ·simp
       refine ⟨aj (by decide +kernel),aj (by decide +kernel),?_⟩
       refine ⟨k + 1,by omega,by omega,?_⟩
       simp [jz,ab,aT,hw2,a1,a2,iY]
     ·have hk2 : k=(fil (ay m) i).length:=by omega
      subst hk2
      rw [pP,pP,<- hsd,<- hov]
      have e5:=y5 hsn
      have e8 : (fil (ay m) (i + 1)).length=(fil (ay m) i).length + 1:=by rw [cM hsn];simp
      simp only [aT] at e5
      cases h1 : b8 m i
      ·have e3:=fj (k:=5) h1
       simp
       cases h2 : aS m i
       ·have e4:=fj (k:=6) h2
        simp
        refine ⟨by omega,i + 1,by omega,by omega,?_⟩
        simp [gE,ab,hw,<- e1,<- e2,<- e3,<- e4,e5,e8]
       ·have e4:=iv (k:=6) h2
        simp only [gJ] at e4
        simp
        refine aa kdi (.inl rfl) ?_
        simp
        refine ⟨by omega,aj (by decide +kernel),?_⟩
        refine ⟨by omega,i + 1,by omega,by omega,?_⟩
        simp [gE,ab,hw,<- e1,<- e2,<- e3,e4,e5,e8]
      ·have e3:=iv (k:=5) h1
       simp only [gJ] at e3
       simp
       refine aa kdi (.inl rfl) ?_
       simp
       refine ⟨by omega,aj (by decide +kernel),?_⟩
       cases h2 : aS m i
       ·have e4:=fj (k:=6) h2
        simp
        refine ⟨by omega,i + 1,by omega,by omega,?_⟩
        simp [gE,ab,hw,<- e1,<- e2,e3,<- e4,e5,e8]
       ·have e4:=iv (k:=6) h2
        simp only [gJ] at e4
        simp
        refine aa kdi (.inl rfl) ?_
        simp
        refine ⟨by omega,aj (by decide +kernel),?_⟩
        refine ⟨by omega,i + 1,by omega,by omega,?_⟩
        simp [gE,ab,hw,<- e1,<- e2,e3,e4,e5,e8]
  ·have hi2 : i=m.f.length:=by omega
   subst hi2
   have bd : ∀ (p : Nat -> Bool) (n : Nat),n <= 100 -> (fil p n).length <= 100:=fun p n hn=>by have:=aH p n;omega
   have q1:=bd (df m) _ hs
   have q2:=bd (b5 m) _ hs
   have q3:=bd (dP m) _ hf
   have q4:=bd (cy m) _ hf
   have q5:=bd (b8 m) _ hf
   have q6:=bd (aS m) _ hf
   have hLL : LL m=[[],fil (df m) m.s.length,fil (b5 m) m.s.length,fil (dP m) m.f.length,fil (cy m) m.f.length,fil (b8 m) m.f.length,fil (aS m) m.f.length]:=rfl
   rw [hLL]
   clear hLL bd
   generalize fil (df m) m.s.length=L1 at *
   generalize fil (b5 m) m.s.length=L2 at *
   generalize fil (dP m) m.f.length=L3 at *
   generalize fil (cy m) m.f.length=L4 at *
   generalize fil (b8 m) m.f.length=L5 at *
   generalize fil (aS m) m.f.length=L6 at *
   obtain ⟨BK,hBK⟩ : ∃ x : D,x=.blk 1 [[.own 2 []],[.own 2 (fdR 1 L1)],[.own 2 (fdR 2 L2)],[.own 2 (fdR 3 L3)],[.own 2 (fdR 4 L4)],[.own 2 (fdR 5 L5)],[.own 2 (fdR 6 L6)]]:=⟨_,rfl⟩
   obtain ⟨U,hU⟩ : ∃ U : Nat -> List (Int × List UInt8),U=fun k=>cA gJ 0 (([([] : List Nat),L1,L2,L3,L4,L5,L6]).take k):=⟨_,rfl⟩
   have hU7 : U 7=cA gJ 0 [[],L1,L2,L3,L4,L5,L6]:=by rw [hU];rfl
   have hU0 : U 0=[]:=by rw [hU];rfl
   have hU0s : U 1=U 0++fdL 0 ([] : List Nat):=by
    rw [hU];show cA gJ 0 (([([] : List Nat),L1,L2,L3,L4,L5,L6]).take 0++[([] : List Nat)])=_
    rw [cB];simp [cA,fdL]
   have hU1s : U 2=U 1++fdL 1 L1:=by
    rw [hU];show cA gJ 0 (([([] : List Nat),L1,L2,L3,L4,L5,L6]).take 1++[L1])=_
    rw [cB];simp [cA,fdL]
   have hU2s : U 3=U 2++fdL 2 L2:=by
    rw [hU];show cA gJ 0 (([([] : List Nat),L1,L2,L3,L4,L5,L6]).take 2++[L2])=_
    rw [cB];simp [cA,fdL]
   have hU3s : U 4=U 3++fdL 3 L3:=by
    rw [hU];show cA gJ 0 (([([] : List Nat),L1,L2,L3,L4,L5,L6]).take 3++[L3])=_
    rw [cB];simp [cA,fdL]
   have hU4s : U 5=U 4++fdL 4 L4:=by
    rw [hU];show cA gJ 0 (([([] : List Nat),L1,L2,L3,L4,L5,L6]).take 4++[L4])=_
    rw [cB];simp [cA,fdL]
   have hU5s : U 6=U 5++fdL 5 L5:=by
    rw [hU];show cA gJ 0 (([([] : List Nat),L1,L2,L3,L4,L5,L6]).take 5++[L5])=_
    rw [cB];simp [cA,fdL]
   have hU6s : U 7=U 6++fdL 6 L6:=by
    rw [hU];show cA gJ 0 (([([] : List Nat),L1,L2,L3,L4,L5,L6]).take 6++[L6])=_
    rw [cB];simp [cA,fdL]
   have lU0 : (U 0).length <= 0:=by rw [hU0];simp
   have lU1 : (U 1).length <= 100:=by rw [hU0s];simp;omega
   have lU2 : (U 2).length <= 200:=by rw [hU1s];simp;omega
   have lU3 : (U 3).length <= 300:=by rw [hU2s];simp;omega
   have lU4 : (U 4).length <= 400:=by rw [hU3s];simp;omega
   have lU5 : (U 5).length <= 500:=by rw [hU4s];simp;omega
   have lU6 : (U 6).length <= 600:=by rw [hU5s];simp;omega
   rw [<- hU7]
   refine aw Nat (fun k=>[(3,.ref (.r 10048) 0 7),(10048,BK),(13,.ref (.r 10208) 0 (U k).length),(10208,.blk 2 (fnR (U k))),(14,.int .i64 k)]) (fun k=>k <= 7) (fun k=>7 - k) 0 (by simp) (by simp [hU0,hBK]) ?_
   rintro k hk
   rcases (by omega : k=0 \/ k=1 \/ k=2 \/ k=3 \/ k=4 \/ k=5 \/ k=6 \/ k=7) with rfl | rfl | rfl | rfl | rfl | rfl | rfl | rfl
   ·have e : fnR (U 0)++fdR 0 ([] : List Nat)=fnR (U 1):=by rw [hU0s];simp [fnR,fdR]
    have e' : (U 1).length=(U 0).length + (([] : List Nat)).length:=by rw [hU0s];simp
    simp [hBK]
    refine ⟨by omega,1,by omega,by omega,?_,?_,by decide⟩
    ·simpa using e'.symm
    ·simpa using e
   ·have e : fnR (U 1)++fdR 1 L1=fnR (U 2):=by rw [hU1s];simp [fnR,fdR]
    have e' : (U 2).length=(U 1).length + (L1).length:=by rw [hU1s];simp
    simp [hBK]
    refine ⟨by omega,2,by omega,by omega,?_,?_,by decide⟩
    ·simpa using e'.symm
    ·simpa using e
   ·have e : fnR (U 2)++fdR 2 L2=fnR (U 3):=by rw [hU2s];simp [fnR,fdR]
    have e' : (U 3).length=(U 2).length + (L2).length:=by rw [hU2s];simp
    simp [hBK]
    refine ⟨by omega,3,by omega,by omega,?_,?_,by decide⟩
    ·simpa using e'.symm
    ·simpa using e
   ·have e : fnR (U 3)++fdR 3 L3=fnR (U 4):=by rw [hU3s];simp [fnR,fdR]
    have e' : (U 4).length=(U 3).length + (L3).length:=by rw [hU3s];simp
    simp [hBK]
    refine ⟨by omega,4,by omega,by omega,?_,?_,by decide⟩
    ·simpa using e'.symm
    ·simpa using e
   ·have e : fnR (U 4)++fdR 4 L4=fnR (U 5):=by rw [hU4s];simp [fnR,fdR]
    have e' : (U 5).length=(U 4).length + (L4).length:=by rw [hU4s];simp
    simp [hBK]
    refine ⟨by omega,5,by omega,by omega,?_,?_,by decide⟩
    ·simpa using e'.symm
    ·simpa using e
   ·have e : fnR (U 5)++fdR 5 L5=fnR (U 6):=by rw [hU5s];simp [fnR,fdR]
    have e' : (U 6).length=(U 5).length + (L5).length:=by rw [hU5s];simp
    simp [hBK]
    refine ⟨by omega,6,by omega,by omega,?_,?_,by decide⟩
    ·simpa using e'.symm
    ·simpa using e
   ·have e : fnR (U 6)++fdR 6 L6=fnR (U 7):=by rw [hU6s];simp [fnR,fdR]
    have e' : (U 7).length=(U 6).length + (L6).length:=by rw [hU6s];simp
    simp [hBK]
    refine ⟨by omega,7,by omega,by omega,?_,?_,by decide⟩
    ·simpa using e'.symm
    ·simpa using e
   ·simp [hBK]
    rfl
end Go.Gv

namespace Go.Gv
def R9 (m : Msh) (i : Nat) : Env:=[(1,.ptr (aN m)),(3,.mrf 10224),(10224,.mp 3 2 (wY m i) (wZ m i)),(16,slx m.fn (m.f.map bq)),(17,.int .i64 m.f.length),(18,.int .i64 i)]
def Sa (m : Msh) (i k : Nat) : Env:=[(1,.ptr (aN m)),(3,.mrf 10224),(10224,.mp 3 2 (sdK (fce m i) k++wY m i) (List.replicate k (.int .i64 i)++wZ m i)),(4,.int .i64 i),(5,.adr (.r 10080) 0 0),(10080,.blk 4 [bq (fce m i)]),(16,slx m.fn (m.f.map bq)),(17,.int .i64 m.f.length),(18,.int .i64 i),(23,.int .i64 k)]
def Sb (m : Msh) (i : Nat) : Env:=[(3,.mrf 10224),(10224,.mp 3 2 (wY m m.f.length) (wZ m m.f.length)),(7,.ref (.r 10112) 0 m.f.length),(10112,.blk 3 (nbR m i 0)),(38,slx m.fn (m.f.map bq)),(39,.int .i64 m.f.length),(40,.int .i64 i)]
def Sc (m : Msh) (i k : Nat) : Env:=[(3,.mrf 10224),(10224,.mp 3 2 (wY m m.f.length) (wZ m m.f.length)),(7,.ref (.r 10112) 0 m.f.length),(10112,.blk 3 (nbR m i k)),(8,.int .i64 i),(9,.adr (.r 10144) 0 0),(10144,.blk 4 [bq (fce m i)]),(38,slx m.fn (m.f.map bq)),(39,.int .i64 m.f.length),(40,.int .i64 i),(45,.int .i64 k)]
variable {C : CC} (hC : aB prog C)
include hC
end Go.Gv
