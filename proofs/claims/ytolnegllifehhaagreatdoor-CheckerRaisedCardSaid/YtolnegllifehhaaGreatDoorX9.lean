/-
  Texts of the proof: A28.
-/
import Derived.Test.YtolnegllifehhaaGreatDoorX8
set_option linter.all false
set_option maxRecDepth 4000
namespace Go.Gv
structure yO (C : CC) : Prop where
 nilN : ∀ ds,C 667 ds .any [.own 9 []] -> C 667 ds (.sl []) []
 nilL : ∀ ds,C 609 ds .any [.own 11 []] -> C 609 ds (.sl []) []
def gN (b : Int) (ns : List Nod) (i : Nat) : List (List D):=(oA b ns i).map aQ
def gM (b : Int) (ls : List Lnk) (i : Nat) : List (List D):=(oz b ls i).map aD
theorem uU (b : Int) (ns : List Nod) (i : Nat) : (gN b ns i).length=ns.length:=by simp [gN,oA];omega
theorem uQ (b : Int) (ls : List Lnk) (i : Nat) : (gM b ls i).length=ls.length:=by simp [gM,oz];omega
theorem sb (b : Int) (ns : List Nod) : gN b ns 0=ns.map aQ:=by simp [gN,oA]
theorem sa (b : Int) (ls : List Lnk) : gM b ls 0=ls.map aD:=by simp [gM,oz]
theorem uS (b : Int) (ns : List Nod) : gN b ns ns.length=(ns.map (fc b)).map aQ:=by simp [gN,oA]
theorem uO (b : Int) (ls : List Lnk) : gM b ls ls.length=(ls.map (fz b)).map aD:=by simp [gM,oz]
theorem s6 {α : Type} (f : α -> α) {l : List α} {i : Nat} (h : i < l.length) : ((l.take i).map f++l.drop i)[i]? = some l[i]:=by
 rw [List.getElem?_append_right (by simp;omega)]
 simp [Nat.min_eq_left (Nat.le_of_lt h),h]
theorem s7 {α : Type} (f : α -> α) {l : List α} {i : Nat} (h : i < l.length) : ((l.take i).map f++l.drop i).set i (f l[i])=(l.take (i + 1)).map f++l.drop (i + 1):=by
 rw [List.set_append_right _ _ (by simp;omega)]
 have e1 : i - ((l.take i).map f).length=0:=by simp;omega
 rw [e1,List.drop_eq_getElem_cons h,List.set_cons_zero,List.take_succ_eq_append_getElem h,List.map_append,List.append_assoc]
 rfl
theorem uT (b : Int) {ns : List Nod} {i : Nat} (h : i < ns.length) : (gN b ns i)[i]? = some (aQ ns[i]):=by
 unfold gN oA
 rw [List.getElem?_map,s6 _ h];rfl
theorem uP (b : Int) {ls : List Lnk} {i : Nat} (h : i < ls.length) : (gM b ls i)[i]? = some (aD ls[i]):=by
 unfold gM oz
 rw [List.getElem?_map,s6 _ h];rfl
theorem uV (b : Int) {ns : List Nod} {i : Nat} (h : i < ns.length) : (gN b ns i).set i (aQ (fc b ns[i]))=gN b ns (i + 1):=by
 unfold gN oA
 rw [<- List.map_set,s7 _ h]
theorem uR (b : Int) {ls : List Lnk} {i : Nat} (h : i < ls.length) : (gM b ls i).set i (aD (fz b ls[i]))=gM b ls (i + 1):=by
 unfold gM oz
 rw [<- List.map_set,s7 _ h]
def uN : cy:=match N663.body with
 | .seq _ (.seq _ (.seq _ (.seq _ (.seq _ t))))=>t
 | c=>c
def xO : cy:=match uN with
 | .seq _ t=>t
 | c=>c
def raV : cy:=match xO with
 | .seq _ t=>t
 | c=>c
def raW : cy:=match raV with
 | .seq _ t=>t
 | c=>c
def raX : cy:=match raW with
 | .seq _ t=>t
 | c=>c
variable {C : CC} (hC : aj prog C)
include hC
omit hC in
theorem kI (l : List Nod) : ∀ e ∈ l.map aQ,e.length=9 /\ ∀ c ∈ e,av c=true:=by
 intro e he
 obtain ⟨n,_,rfl⟩:=List.mem_map.1 he
 refine ⟨rfl,?_⟩
 simp [aQ,oi]
theorem vS (l : List Nod) (h : 0 < l.length) (h2 : l.length <= 400) (b : Bool) : C 667 [slx b (l.map aQ)] (.own 9 (l.map aQ)) [.nils]:=by
 have e : slx b (l.map aQ)=.sl (l.map aQ):=by
  cases b with
  | false=>simp
  | true =>
   unfold slx
   cases l with
   | nil=>simp at h
   | cons x xs=>simp
 have hu:=kI l
 have hb : l.length * 96 <= 140737488355328:=by omega
 rw [e]
 obtain ⟨R,hR⟩ : ∃ R,R=l.map aQ:=⟨_,rfl⟩
 have hRl : R.length=l.length:=by rw [hR,List.length_map]
 rw [<- hR] at hu ⊢
 refine yh hC (nf:=N667) rfl rfl rfl ?_
 simp [N667,hRl,hb]
 exact ⟨fun _=>hu,fun e=>by subst e;simp at h⟩
theorem tR (hP : yO C) (b : Bool) : ∃ d,(d=.nils \/ d=.sl []) /\ C 667 [slx b (([] : List Nod).map aQ)] d []:=by
 cases b with
 | true =>
  refine ⟨.nils,.inl rfl,?_⟩
  show C 667 [.nils] .nils []
  refine start hC (nf:=N667) rfl rfl ?_
  simp [N667]
 | false =>
  refine ⟨.sl [],.inr rfl,?_⟩
  show C 667 [.sl []] (.sl []) []
  refine hP.nilN _ ?_
  refine nw hC (nf:=N667) rfl rfl ?_
  simp [N667]
omit hC in
theorem kD (l : List Lnk) : ∀ e ∈ l.map aD,e.length=11 /\ ∀ c ∈ e,av c=true:=by
 intro e he
 obtain ⟨n,_,rfl⟩:=List.mem_map.1 he
 refine ⟨rfl,?_⟩
 simp [aD,oi]
theorem mG (l : List Lnk) (h : 0 < l.length) (h2 : l.length <= 400) (b : Bool) : C 609 [slx b (l.map aD)] (.own 11 (l.map aD)) [.nils]:=by
 have e : slx b (l.map aD)=.sl (l.map aD):=by
  cases b with
  | false=>simp
  | true =>
   unfold slx
   cases l with
   | nil=>simp at h
   | cons x xs=>simp
 have hu:=kD l
 have hb : l.length * 136 <= 140737488355328:=by omega
 rw [e]
 obtain ⟨R,hR⟩ : ∃ R,R=l.map aD:=⟨_,rfl⟩
 have hRl : R.length=l.length:=by rw [hR,List.length_map]
 rw [<- hR] at hu ⊢
 refine yh hC (nf:=N609) rfl rfl rfl ?_
 simp [N609,hRl,hb]
 exact ⟨fun _=>hu,fun e=>by subst e;simp at h⟩
theorem lc (hP : yO C) (b : Bool) : ∃ d,(d=.nils \/ d=.sl []) /\ C 609 [slx b (([] : List Lnk).map aD)] d []:=by
 cases b with
 | true =>
  refine ⟨.nils,.inl rfl,?_⟩
  show C 609 [.nils] .nils []
  refine start hC (nf:=N609) rfl rfl ?_
  simp [N609]
 | false =>
  refine ⟨.sl [],.inr rfl,?_⟩
  show C 609 [.sl []] (.sl []) []
  refine hP.nilL _ ?_
  refine nw hC (nf:=N609) rfl rfl ?_
  simp [N609]
theorem uX (z : Fnd) (A : List Fnd) (hA : A.length < 2 ^ 62) : C 668 [.agg (cS z),.ptr [.sl (aX A)]] (.bool (!decide (z ∈ A))) []:=by
 have k1 : C 554 [.sl (aX A),.agg (cS z)] (.bool (decide (z ∈ A))) []:=by
  have k0:=wU hC false A z hA
  rw [bu] at k0
  have e : decide (z ∈ A)=A.any (fun y=>decide (y=z)):=by
   rw [Bool.eq_iff_iff];simp
  rw [e]
  refine start hC (nf:=N554) rfl rfl ?_
  simp only [N554]
  simp [cS] at k0 ⊢
  refine aa k0 (.inl rfl) ?_
  simp [dN]
 refine start hC (nf:=N668) rfl rfl ?_
 simp [N668,cS]
 simp [cS] at k1
 refine aa k1 (.inl rfl) ?_
 simp
set_option maxHeartbeats 8000000 in
theorem lW (hS : SlC C) (hK : qV C) (hP : yO C) (dec : Nat -> List UInt8) (hI : ∀ n : Nat,n < 100 -> C 127 [.int .i64 n] (.str (dec n)) []) (b1 b2 : Bool) (ns : List Nod) (ls : List Lnk) (hn : ns.length < 2 ^ 62) (hl : ls.length < 2 ^ 62) (hcv : ∀ l ∈ ls,l.curve.length < 2 ^ 62) (b3 : Bool) (l : List Sec) (hs : l.length < 2 ^ 62) (u : Int) (hu32 : -2147483648 <= u /\ u <= 2147483647) (m : Msh) (tol more : Int) :
  C 663 [.agg [slx b1 (ns.map aQ),slx b2 (ls.map aD)],slx b3 (l.map dS),.int .i32 u,.agg (cI m),.int .i64 tol,.int .i64 more] (.bool true) []:=by
 have k0:=tK hC hS hK
 have k1:=ul hC b1 b2 ns ls hn hl
 have k1m:=xt hC b3 l hs
 have k1':=Bf hC m
 by_cases hst : ny m=true
 ·simp only [ao] at k1'
  refine start hC (nf:=N663) rfl rfl ?_
  simp [N663,ao]
  refine aa k0 (.inl rfl) ?_
  simp
  refine aa k1 (.inl rfl) ?_
  simp
  by_cases hlg : jl ns ls=true
  ·simp [hlg]
  simp [hlg]
  refine aa k1m (.inl rfl) ?_
  simp
  by_cases hmn : pf l=true
  ·simp [hmn]
  simp [hmn,ao]
  refine aa k1' (.inl rfl) ?_
  simp [hst]
 have hst' : ny m=false:=by simpa using hst
 by_cases hlg : jl ns ls=true
 ·refine start hC (nf:=N663) rfl rfl ?_
  simp [N663,ao]
  refine aa k0 (.inl rfl) ?_
  simp
  refine aa k1 (.inl rfl) ?_
  simp [hlg]
 obtain ⟨lg1,lg2,lg3⟩:=rN (by simpa using hlg)
 have hmf : m.s.length <= 40 /\ m.f.length <= 60:=by
  simp only [ny,Bool.or_eq_false_iff,decide_eq_false_iff_not] at hst'
  omega
 have hz : gq m=true -> m.s.length <= 100 /\ m.f.length <= 100:=fun _=>by omega
 have hwu : IntKind.wrap .i64 u=u:=aR (by omega)
 have kG:=fun t=>vq hC hK dec hI b1 b2 ns ls m hz t hcv
 have kA:=qW hC hS hK b1 b2 b3 ns ls l hcv
 have hcv' : ∀ k ∈ ls.map (fz u),k.curve.length < 2 ^ 62:=by
  intro k hk
  obtain ⟨k0,h0,rfl⟩:=List.mem_map.1 hk
  exact hcv k0 h0
 have kB:=qW hC hS hK false false b3 (ns.map (fc u)) (ls.map (fz u)) l hcv'
 have kV:=jo hC b1 b2 ns ls hcv
 have kW:=jo hC false false (ns.map (fc u)) (ls.map (fz u)) hcv'
 have hLn : ∀ ns' ls',bq ns' ls'=true -> (j5 ns' ls' l).length < 2 ^ 62:=fun ns' ls' hv=>by
  unfold j5
  have:=pH eS (kP ns' ls'++lu ns' ls' l)
  have:=qM ns' ls'
  have:=qm ns' ls' l
  have:=cF hv
  have hml : (3 + ls'.length) * ls'.length <= 403 * 400:=Nat.mul_le_mul (by omega) (by omega)
  rw [List.length_append] at *
  omega
 have hAB : bq ns ls=true -> il l=true -> j5 (ns.map (fc u)) (ls.map (fz u)) l=j5 ns ls l:=fun h1 h2=>Aw hu32 h1 h2
 have two : ∀ ns' ls',∃ bA A eA,(if bq ns' ls' && il l then [D.sl (aX (j5 ns' ls' l)),D.int .i64 0] else [.nils,.int .i64 1])=[slx bA (aX A),.int .i64 eA] /\ A.length < 2 ^ 62 /\
   ((bq ns' ls' && il l)=true /\ eA=0 /\ A=j5 ns' ls' l \/ (bq ns' ls' && il l)=false /\ eA=1 /\ A=[]):=by
  intro ns' ls'
  cases hv : (bq ns' ls' && il l)
  ·exact ⟨true,[],1,by simp [aX,slx],by simp,.inr ⟨rfl,rfl,rfl⟩⟩
  ·exact ⟨false,j5 ns' ls' l,0,by simp,hLn _ _ (Bool.and_eq_true_iff.1 hv).1,.inl ⟨rfl,rfl,rfl⟩⟩
 obtain ⟨bA,A,eA,eqA,hA,hcA⟩:=two ns ls
 obtain ⟨bB,B,eB,eqB,hB,hcB⟩:=two (ns.map (fc u)) (ls.map (fz u))
 rw [eqA] at kA
 rw [eqB] at kB
 have hsame : bq ns ls=true -> bq (ns.map (fc u)) (ls.map (fz u))=true -> eA=eB /\ A=B:=by
  intro h1 h2
  rw [h1] at hcA
  rw [h2] at hcB
  simp only [Bool.true_and] at hcA hcB
  rcases hcA with ⟨a1,a2,a3⟩ | ⟨a1,a2,a3⟩
  ·rcases hcB with ⟨c1,c2,c3⟩ | ⟨c1,c2,c3⟩
   ·exact ⟨by omega,by rw [a3,c3,hAB h1 a1]⟩
   ·rw [a1] at c1;cases c1
  ·rcases hcB with ⟨c1,c2,c3⟩ | ⟨c1,c2,c3⟩
   ·rw [a1] at c1;cases c1
   ·exact ⟨by omega,by rw [a3,c3]⟩
 have kE:=sP hC bA bB A B hA hB
 clear eqA eqB hcA hcB two hAB
 obtain ⟨X,hX⟩ : ∃ T,T=raX:=⟨_,rfl⟩
 obtain ⟨V,hV⟩ : ∃ T,T=raV:=⟨_,rfl⟩
 obtain ⟨L2,hL2⟩ : ∃ T,T=xO:=⟨_,rfl⟩
 obtain ⟨L1,hL1⟩ : ∃ T,T=uN:=⟨_,rfl⟩
 simp [raX,raW,raV,xO,uN,N663] at hX
 simp [raV,xO,uN,N663] at hV
 simp [xO,uN,N663] at hL2
 simp [uN,N663] at hL1
 have tailX : ∀ (Q : bX -> Env -> Prop),0 <= more /\ more <= 4194304 -> 0 <= tol /\ tol <= 4194304 -> bC Q ⟨⟩ .ret [(12,.bool true)] ->
   wN C X Q ⟨⟩ [(4,.int .i64 tol),(5,.int .i64 more),(6,.ptr [slx b1 (ns.map aQ),slx b2 (ls.map aD)]),(9,.ptr [slx m.sn (m.s.map gr),slx m.fn (m.f.map dc)]),(154,.bool false)]:=by
  intro Q hm ht hQ
  have kx:=kG tol
  have ky:=kG (tol + more)
  have hw : IntKind.wrap .i64 (tol + more)=tol + more:=aR (by omega)
  rw [if_pos ht] at kx
  rw [hX]
  simp only [ao] at kx ky
  simp [ao]
  cases hv : (bq ns ls && bK m)
  ·rw [hv] at kx ky
   simp at kx ky
   refine aa kx (.inr rfl) ?_
   simp [hw]
   refine aa ky (.inr rfl) ?_
   simp
   exact hQ
  ·rw [hv] at kx ky
   simp at kx ky
   obtain ⟨hv1,hv2⟩:=Bool.and_eq_true_iff.1 hv
   by_cases c : tol + more <= 4194304
   ·rw [if_pos (by omega)] at ky
    have hsub:=zO hv2 ht (u:=tol + more) (by omega) hv1
    have hlen:=uE ((pJ ji (jO m (tol + more) ns)).nodup ji) hsub
    have hl1 : (iz eS (jO m tol ns)).length < 2 ^ 62:=by
     have:=pH eS (jO m tol ns)
     have h2 : (jO m tol ns).length <= 1 * ns.length:=cC (o7 m tol ns) ns.length
     omega
    generalize iz eS (jO m tol ns)=A1 at *
    generalize iz eS (jO m (tol + more) ns)=B1 at *
    have kf:=zR hC (b:=false) (xs:=B1) (g:=668) (cs:=[.ptr [.sl (aX A1)]]) (fun z=>!decide (z ∈ A1)) (by omega) (fun z _=>uX hC z A1 hl1)
    have hany : B1.any (fun z=>!decide (z ∈ A1))=false:=by
     rw [List.any_eq_false]
     intro z hz
     simp [hsub z hz]
    rw [hany] at kf
    refine aa kx (.inr rfl) ?_
    simp [hw]
    refine aa ky (.inr rfl) ?_
    simp [bf,hlen]
    simp at kf
    refine aa kf (.inl rfl) ?_
    simp
    exact hQ
   ·rw [if_neg (by omega)] at ky
    refine aa kx (.inr rfl) ?_
    simp [hw]
    refine aa ky (.inr rfl) ?_
    simp
    exact hQ
 obtain ⟨RN,hRN⟩ : ∃ R,R=(ns.map (fc u)).map aQ:=⟨_,rfl⟩
 obtain ⟨RL,hRL⟩ : ∃ R,R=(ls.map (fz u)).map aD:=⟨_,rfl⟩
 have hNV : RN.map (fun e=>e.map aH)=RN:=by rw [hRN];exact LN _
 have hLV : RL.map (fun e=>e.map aH)=RL:=by rw [hRL];exact Li _
 have hN0 : ns=[] -> RN=[]:=fun e=>by rw [hRN,e];rfl
 have hL0 : ls=[] -> RL=[]:=fun e=>by rw [hRL,e];rfl
 rw [bu,bu,<- hRN,<- hRL] at kB kW
 obtain ⟨W,hW⟩ : ∃ W,W=bq (ns.map (fc u)) (ls.map (fz u)):=⟨_,rfl⟩
 rw [<- hW] at kW hsame
 have tailV : ∀ (Q : bX -> Env -> Prop) (cN cL : D) (v1 v2 : Int),(cN=.own 9 RN \/ RN=[] /\ cN=.sl []) -> (cL=.own 11 RL \/ RL=[] /\ cL=.sl []) -> bC Q ⟨⟩ .ret [(12,.bool true)] ->
   wN C V Q ⟨⟩ [(1,slx b3 (l.map dS)),(2,.int .i32 u),(4,.int .i64 tol),(5,.int .i64 more),(6,.ptr [slx b1 (ns.map aQ),slx b2 (ls.map aD)]),(9,.ptr [slx m.sn (m.s.map gr),slx m.fn (m.f.map dc)]),(13,slx bA (aX A)),(14,.int .i64 eA),(15,.adr (.r 10240) 0 0),(81,.int .i64 v1),(82,.int .i64 v2),(83,.bool false),(10240,.blk 2 [[cN,cL]])]:=by
  intro Q cN cL v1 v2 hN hL hQ
  rw [hV,<- hX]
  clear hV hX hL1 hL2 hN0 hL0 hRN hRL hW
  rcases hN with rfl | ⟨e,rfl⟩ <;> rcases hL with rfl | ⟨e',rfl⟩
  all_goals
   simp
   refine aa kV (.inl rfl) ?_
   cases hv1 : bq ns ls
   ·simp
    by_cases c1 : more < 0
    ·simp [c1];exact hQ
    by_cases c2 : 4194304 < more
    ·simp [c1,c2];exact hQ
    by_cases c3 : tol < 0
    ·simp [c1,c2,c3];exact hQ
    by_cases c4 : 4194304 < tol
    ·simp [c1,c2,c3,c4];exact hQ
    simp [c1,c2,c3,c4]
    exact tailX Q (by omega) (by omega) hQ
   ·simp [hNV,hLV]
    (try subst e);(try subst e')
    refine aa kW (.inl rfl) ?_
    cases hw1 : W
    ·simp
     by_cases c1 : more < 0
     ·simp [c1];exact hQ
     by_cases c2 : 4194304 < more
     ·simp [c1,c2];exact hQ
     by_cases c3 : tol < 0
     ·simp [c1,c2,c3];exact hQ
     by_cases c4 : 4194304 < tol
     ·simp [c1,c2,c3,c4];exact hQ
     simp [c1,c2,c3,c4]
     exact tailX Q (by omega) (by omega) hQ
    ·simp [hNV,hLV]
     obtain ⟨hs1,hs2⟩:=hsame hv1 hw1
     refine aa kB (.inr rfl) ?_
     simp [hs1]
     refine aa kE (.inl rfl) ?_
     simp [hs2]
     by_cases c1 : more < 0
     ·simp [c1];exact hQ
     by_cases c2 : 4194304 < more
     ·simp [c1,c2];exact hQ
     by_cases c3 : tol < 0
     ·simp [c1,c2,c3];exact hQ
     by_cases c4 : 4194304 < tol
     ·simp [c1,c2,c3,c4];exact hQ
     simp [c1,c2,c3,c4]
     exact tailX Q (by omega) (by omega) hQ
 have tailL2 : ∀ (Q : bX -> Env -> Prop) (cN cL : D) (v1 v2 : Int),(cN=.own 9 RN \/ RN=[] /\ cN=.sl []) -> (cL=.own 11 (ls.map aD) \/ ls=[] /\ cL=.sl []) -> bC Q ⟨⟩ .ret [(12,.bool true)] ->
   wN C L2 Q ⟨⟩ [(1,slx b3 (l.map dS)),(2,.int .i32 u),(4,.int .i64 tol),(5,.int .i64 more),(6,.ptr [slx b1 (ns.map aQ),slx b2 (ls.map aD)]),(9,.ptr [slx m.sn (m.s.map gr),slx m.fn (m.f.map dc)]),(13,slx bA (aX A)),(14,.int .i64 eA),(15,.adr (.r 10240) 0 0),(52,.int .i64 v1),(53,.int .i64 v2),(54,.bool false),(10240,.blk 2 [[cN,cL]])]:=by
  intro Q cN cL v1 v2 hN hL hQ
  rw [hL2,<- hV]
  clear hV hX tailX hL1 hL2
  rcases hL with rfl | ⟨e,rfl⟩
  ·simp
   refine ar Nat (fun i=>[(1,slx b3 (l.map dS)),(2,.int .i32 u),(4,.int .i64 tol),(5,.int .i64 more),(6,.ptr [slx b1 (ns.map aQ),slx b2 (ls.map aD)]),(9,.ptr [slx m.sn (m.s.map gr),slx m.fn (m.f.map dc)]),(13,slx bA (aX A)),(14,.int .i64 eA),(15,.adr (.r 10240) 0 0),(81,.int .i64 ls.length),(82,.int .i64 i),(10240,.blk 2 [[cN,.own 11 (gM u ls i)]])]) (fun i=>i <= ls.length) (fun i=>ls.length - i) 0 (by simp) (by simp [sa]) ?_
   intro i hi
   simp
   refine ac (fun h=>?_) (fun h=>?_) <;> simp at h
   ·have hw : IntKind.wrap .i64 ((i : Int) + 1)=((i + 1 : Nat) : Int):=ah (by omega) (by omega)
    have hg:=uP u h
    have hln:=uQ u ls i
    have hset:=uR u h
    generalize gM u ls i=R at *
    have hR : i < R.length:=by omega
    simp only [aD,fz] at hg hset
    obtain ⟨_,hgi⟩:=List.getElem?_eq_some_iff.1 hg
    have hs1 : ∀ X,(R.set i X)[i]? = some X:=fun X=>by simp [hR]
    by_cases c1 : ls[i].kind=1
    ·simp [c1] at hg hset hgi
     simp [h,hln,az hg,hwu,c1,hgi]
     rw [az (hs1 _)]
     simp [c1,hln,hR,h]
     rw [az (hs1 _)]
     simp [hln,hR,h,hwu,hw]
     exact ⟨i + 1,by omega,by omega,by omega,by rw [<- hset]⟩
    ·by_cases c4 : ls[i].kind=4
     ·simp [c4] at hg hset hgi
      simp [h,hln,az hg,hwu,c4,hgi]
      rw [az (hs1 _)]
      simp [c4,hln,hR,h]
      rw [az (hs1 _)]
      simp [hln,hR,h,hwu,hw]
      exact ⟨i + 1,by omega,by omega,by omega,by rw [<- hset]⟩
     ·simp [c1,c4] at hset
      simp [h,hln,az hg,hwu,c1,c4,hgi]
      rw [az (hs1 _)]
      simp [c1,c4,hln,hR,h,hw]
      exact ⟨i + 1,by omega,by omega,by omega,by rw [<- hset]⟩
   ·have ei : i=ls.length:=by omega
    subst ei
    simp [h]
    exact tailV Q cN _ _ _ hN (.inl (by rw [uO,<- hRL])) hQ
  ·simp
   refine ar Nat (fun i=>[(1,slx b3 (l.map dS)),(2,.int .i32 u),(4,.int .i64 tol),(5,.int .i64 more),(6,.ptr [slx b1 (ns.map aQ),slx b2 (ls.map aD)]),(9,.ptr [slx m.sn (m.s.map gr),slx m.fn (m.f.map dc)]),(13,slx bA (aX A)),(14,.int .i64 eA),(15,.adr (.r 10240) 0 0),(81,.int .i64 0),(82,.int .i64 0),(10240,.blk 2 [[cN,.sl []]])]) (fun i=>i=0) (fun i=>0) 0 rfl (by simp) ?_
   rintro i rfl
   simp
   exact tailV Q cN _ _ _ hN (.inr ⟨hL0 e,rfl⟩) hQ
 have tailL1 : ∀ (Q : bX -> Env -> Prop) (cN cL : D),(cN=.own 9 (ns.map aQ) \/ ns=[] /\ cN=.sl []) -> (cL=.own 11 (ls.map aD) \/ ls=[] /\ cL=.sl []) -> bC Q ⟨⟩ .ret [(12,.bool true)] ->
   wN C L1 Q ⟨⟩ [(1,slx b3 (l.map dS)),(2,.int .i32 u),(4,.int .i64 tol),(5,.int .i64 more),(6,.ptr [slx b1 (ns.map aQ),slx b2 (ls.map aD)]),(9,.ptr [slx m.sn (m.s.map gr),slx m.fn (m.f.map dc)]),(13,slx bA (aX A)),(14,.int .i64 eA),(15,.adr (.r 10240) 0 0),(10240,.blk 2 [[cN,cL]])]:=by
  intro Q cN cL hN hL hQ
  rw [hL1,<- hL2]
  clear hV hX tailX hL1 hL2 tailV
  rcases hN with rfl | ⟨e,rfl⟩
  ·simp
   refine ar Nat (fun i=>[(1,slx b3 (l.map dS)),(2,.int .i32 u),(4,.int .i64 tol),(5,.int .i64 more),(6,.ptr [slx b1 (ns.map aQ),slx b2 (ls.map aD)]),(9,.ptr [slx m.sn (m.s.map gr),slx m.fn (m.f.map dc)]),(13,slx bA (aX A)),(14,.int .i64 eA),(15,.adr (.r 10240) 0 0),(52,.int .i64 ns.length),(53,.int .i64 i),(10240,.blk 2 [[.own 9 (gN u ns i),cL]])]) (fun i=>i <= ns.length) (fun i=>ns.length - i) 0 (by simp) (by simp [sb]) ?_
   intro i hi
   simp
   refine ac (fun h=>?_) (fun h=>?_) <;> simp at h
   ·have hw : IntKind.wrap .i64 ((i : Int) + 1)=((i + 1 : Nat) : Int):=ah (by omega) (by omega)
    have hg:=uT u h
    have hln:=uU u ns i
    have hset:=uV u h
    generalize gN u ns i=R at *
    have hR : i < R.length:=by omega
    simp only [aQ,fc] at hg hset
    obtain ⟨_,hgi⟩:=List.getElem?_eq_some_iff.1 hg
    have hs1 : ∀ X,(R.set i X)[i]? = some X:=fun X=>by simp [hR]
    simp [h,hln,az hg,hwu,hgi]
    rw [az (hs1 _)]
    simp [hln,hR,h,hwu,hw]
    exact ⟨i + 1,by omega,by omega,by omega,by rw [<- hset]⟩
   ·have ei : i=ns.length:=by omega
    subst ei
    simp [h]
    exact tailL2 Q _ cL _ _ (.inl (by rw [uS,<- hRN])) hL hQ
  ·simp
   refine ar Nat (fun i=>[(1,slx b3 (l.map dS)),(2,.int .i32 u),(4,.int .i64 tol),(5,.int .i64 more),(6,.ptr [slx b1 (ns.map aQ),slx b2 (ls.map aD)]),(9,.ptr [slx m.sn (m.s.map gr),slx m.fn (m.f.map dc)]),(13,slx bA (aX A)),(14,.int .i64 eA),(15,.adr (.r 10240) 0 0),(52,.int .i64 0),(53,.int .i64 0),(10240,.blk 2 [[.sl [],cL]])]) (fun i=>i=0) (fun i=>0) 0 rfl (by simp) ?_
   rintro i rfl
   simp
   exact tailL2 Q _ cL _ _ (.inr ⟨hN0 e,rfl⟩) hL hQ
 refine start hC (nf:=N663) rfl rfl ?_
 simp [N663,ao]
 rw [<- hL1]
 refine aa k0 (.inl rfl) ?_
 simp
 refine aa k1 (.inl rfl) ?_
 simp [hlg]
 refine aa k1m (.inl rfl) ?_
 simp
 by_cases hmn : pf l=true
 ·simp [hmn]
 simp only [ao] at k1'
 simp [hmn,ao]
 refine aa k1' (.inl rfl) ?_
 simp [hst']
 refine aa kA (.inr rfl) ?_
 simp
 clear hV hX tailX hL1 hL2 tailV tailL2
 rcases Nat.eq_zero_or_pos ns.length with n0 | n0
 ·have hn00 : ns=[]:=List.eq_nil_of_length_eq_zero n0
  obtain ⟨d,hd,kn⟩ : ∃ d,(d=.nils \/ d=.sl []) /\ C 667 [slx b1 (ns.map aQ)] d []:=by rw [hn00];exact tR hC hP b1
  refine jc kn ?_
  rcases hd with rfl | rfl
  ·simp
   rcases Nat.eq_zero_or_pos ls.length with l0 | l0
   ·have hl00 : ls=[]:=List.eq_nil_of_length_eq_zero l0
    obtain ⟨d,hd,kl⟩ : ∃ d,(d=.nils \/ d=.sl []) /\ C 609 [slx b2 (ls.map aD)] d []:=by rw [hl00];exact lc hC hP b2
    refine jc kl ?_
    rcases hd with rfl | rfl
    ·simp
     refine kN (ds:=[.nils,.nils]) (b:=10240) (i:=0) (off:=0) (sz:=2) (es:=[[.own 9 [],.own 11 []]]) (r:=[.own 9 [],.own 11 []]) (by simp) (by simp [av]) rfl rfl (by simp) (by simp) rfl (by simp) ?_
     simp [cT,dJ]
     refine ⟨am (by decide +kernel),?_⟩
     exact tailL1 _ _ _ (.inl (by rw [hn00];rfl)) (.inl (by rw [hl00];rfl)) (by simp)
    ·simp
     refine kN (ds:=[.nils,.sl []]) (b:=10240) (i:=0) (off:=0) (sz:=2) (es:=[[.own 9 [],.own 11 []]]) (r:=[.own 9 [],.own 11 []]) (by simp) (by simp [av]) rfl rfl (by simp) (by simp) rfl (by simp) ?_
     simp [cT,dJ]
     refine ⟨am (by decide +kernel),?_⟩
     exact tailL1 _ _ _ (.inl (by rw [hn00];rfl)) (.inr ⟨hl00,rfl⟩) (by simp)
   ·refine jd (mG hC ls l0 (by omega) b2) rfl ?_
    simp
    refine ja (ds:=[.nils,.ref (.r 10769) 0 ls.length]) (cs:=[.nils,.own 11 (ls.map aD)]) (bs:=[10769]) (b:=10240) (i:=0) (off:=0) (sz:=2) (es:=[[.own 9 [],.own 11 []]]) (r:=[.own 9 [],.own 11 []]) (by simp) rfl ?_ (by simp) (by simp) rfl (by simp) (by simp) rfl (by simp) ?_
    ·intro Q hQ
     simp [f6,cV,av]
     exact ⟨fun a ha=>(kD ls _ (List.mem_map_of_mem ha)).2,hQ⟩
    simp [cT,dJ]
    refine ⟨am (by decide +kernel),?_⟩
    exact tailL1 _ _ _ (.inl (by rw [hn00];rfl)) (.inl rfl) (by simp)
  ·simp
   rcases Nat.eq_zero_or_pos ls.length with l0 | l0
   ·have hl00 : ls=[]:=List.eq_nil_of_length_eq_zero l0
    obtain ⟨d,hd,kl⟩ : ∃ d,(d=.nils \/ d=.sl []) /\ C 609 [slx b2 (ls.map aD)] d []:=by rw [hl00];exact lc hC hP b2
    refine jc kl ?_
    rcases hd with rfl | rfl
    ·simp
     refine kN (ds:=[.sl [],.nils]) (b:=10240) (i:=0) (off:=0) (sz:=2) (es:=[[.own 9 [],.own 11 []]]) (r:=[.own 9 [],.own 11 []]) (by simp) (by simp [av]) rfl rfl (by simp) (by simp) rfl (by simp) ?_
     simp [cT,dJ]
     refine ⟨am (by decide +kernel),?_⟩
     exact tailL1 _ _ _ (.inr ⟨hn00,rfl⟩) (.inl (by rw [hl00];rfl)) (by simp)
    ·simp
     refine kN (ds:=[.sl [],.sl []]) (b:=10240) (i:=0) (off:=0) (sz:=2) (es:=[[.own 9 [],.own 11 []]]) (r:=[.own 9 [],.own 11 []]) (by simp) (by simp [av]) rfl rfl (by simp) (by simp) rfl (by simp) ?_
     simp [cT,dJ]
     refine ⟨am (by decide +kernel),?_⟩
     exact tailL1 _ _ _ (.inr ⟨hn00,rfl⟩) (.inr ⟨hl00,rfl⟩) (by simp)
   ·refine jd (mG hC ls l0 (by omega) b2) rfl ?_
    simp
    refine ja (ds:=[.sl [],.ref (.r 10769) 0 ls.length]) (cs:=[.sl [],.own 11 (ls.map aD)]) (bs:=[10769]) (b:=10240) (i:=0) (off:=0) (sz:=2) (es:=[[.own 9 [],.own 11 []]]) (r:=[.own 9 [],.own 11 []]) (by simp) rfl ?_ (by simp) (by simp) rfl (by simp) (by simp) rfl (by simp) ?_
    ·intro Q hQ
     simp [f6,cV,av]
     exact ⟨fun a ha=>(kD ls _ (List.mem_map_of_mem ha)).2,hQ⟩
    simp [cT,dJ]
    refine ⟨am (by decide +kernel),?_⟩
    exact tailL1 _ _ _ (.inr ⟨hn00,rfl⟩) (.inl rfl) (by simp)
 ·refine jd (vS hC ns n0 (by omega) b1) rfl ?_
  simp
  rcases Nat.eq_zero_or_pos ls.length with l0 | l0
  ·have hl00 : ls=[]:=List.eq_nil_of_length_eq_zero l0
   obtain ⟨d,hd,kl⟩ : ∃ d,(d=.nils \/ d=.sl []) /\ C 609 [slx b2 (ls.map aD)] d []:=by rw [hl00];exact lc hC hP b2
   refine jc kl ?_
   rcases hd with rfl | rfl
   ·simp
    refine ja (ds:=[.ref (.r 10721) 0 ns.length,.nils]) (cs:=[.own 9 (ns.map aQ),.nils]) (bs:=[10721]) (b:=10240) (i:=0) (off:=0) (sz:=2) (es:=[[.own 9 [],.own 11 []]]) (r:=[.own 9 [],.own 11 []]) (by simp) rfl ?_ (by simp) (by simp) rfl (by simp) (by simp) rfl (by simp) ?_
    ·intro Q hQ
     simp [f6,cV,av]
     exact ⟨fun a ha=>(kI ns _ (List.mem_map_of_mem ha)).2,hQ⟩
    simp [cT,dJ]
    refine ⟨am (by decide +kernel),?_⟩
    exact tailL1 _ _ _ (.inl rfl) (.inl (by rw [hl00];rfl)) (by simp)
   ·simp
    refine ja (ds:=[.ref (.r 10721) 0 ns.length,.sl []]) (cs:=[.own 9 (ns.map aQ),.sl []]) (bs:=[10721]) (b:=10240) (i:=0) (off:=0) (sz:=2) (es:=[[.own 9 [],.own 11 []]]) (r:=[.own 9 [],.own 11 []]) (by simp) rfl ?_ (by simp) (by simp) rfl (by simp) (by simp) rfl (by simp) ?_
    ·intro Q hQ
     simp [f6,cV,av]
     exact ⟨fun a ha=>(kI ns _ (List.mem_map_of_mem ha)).2,hQ⟩
    simp [cT,dJ]
    refine ⟨am (by decide +kernel),?_⟩
    exact tailL1 _ _ _ (.inl rfl) (.inr ⟨hl00,rfl⟩) (by simp)
  ·refine jd (mG hC ls l0 (by omega) b2) rfl ?_
   simp
   refine ja (ds:=[.ref (.r 10721) 0 ns.length,.ref (.r 10769) 0 ls.length]) (cs:=[.own 9 (ns.map aQ),.own 11 (ls.map aD)]) (bs:=[10721,10769]) (b:=10240) (i:=0) (off:=0) (sz:=2) (es:=[[.own 9 [],.own 11 []]]) (r:=[.own 9 [],.own 11 []]) (by simp) rfl ?_ (by simp) (by simp) rfl (by simp) (by simp) rfl (by simp) ?_
   ·intro Q hQ
    simp [f6,cV,av]
    exact ⟨fun a ha=>(kI ns _ (List.mem_map_of_mem ha)).2,fun a ha=>(kD ls _ (List.mem_map_of_mem ha)).2,hQ⟩
   simp [cT,dJ]
   refine ⟨am (by decide +kernel),?_⟩
   exact tailL1 _ _ _ (.inl rfl) (.inl rfl) (by simp)
end Go.Gv
