/-
  Texts of the proof: GvI, GvJ.
-/
import Derived.Test.YteaonmajblajnaaGreatDoorX3
import Derived.Orders
set_option linter.all false
namespace Go.Gv
open Go.RowKit
def io : Opd -> List Nat
 | .t s=>[s]
 | .c _=>[]
def oJ : Option (Nat × Bool) -> List Nat
 | some (s,_)=>[s]
 | none=>[]
def rdS (n : aq) : List Nat:=(ai n.op).flatMap io++oJ n.guard
def Bo : NOp -> List Opd
 | .mov _=>[]
 | .nck _=>[]
 | .pick _ _ _=>[]
 | .bin _ _ _=>[]
 | .un _ _=>[]
 | .conv _ _=>[]
 | .fld _ _ _ _=>[]
 | .ext _ _=>[]
 | .fad _ _=>[]
 | .ld _ _ _=>[]
 | .ldQ _ _=>[]
 | .mk _ _=>[]
 | .bld _ _=>[]
 | .boxF _=>[]
 | .blsF _ _ _ _=>[]
 | .blsX _ _ _ _=>[]
 | .len _=>[]
 | .iadA _ _ _ _=>[]
 | o=>ai o
def ldN : NOp -> List Opd
 | .ld _ _ x=>[x]
 | _=>[]
def rdR (f : Nat -> D) (n : aq) : List Nat:=((Bo n.op).flatMap fun x=>bz (vd f x))++((ldN n.op).flatMap fun x=>aG (vd f x))
def mnR (f : Nat -> D) (n : aq) : List Nat:=(ai n.op).flatMap fun x=>bz (vd f x)
def frR (f : Nat -> D) (n : aq) : List (Nat × Nat):=match n.op with
 | .ldQ o x=>match vd f x with
  | .adr (.r c) _ _=>[(c,o)]
  | _=>[]
 | _=>[]
def fwR (f : Nat -> D) (n : aq) : List (Nat × Nat):=match n.op with
 | .appQ o _ _ x _=>match vd f x with
  | .ref (.n c _ _) _ _=>[(c,o)]
  | _=>[]
 | _=>[]
abbrev Rds:=List Nat × List Nat × List (Nat × Nat) × List (Nat × Nat)
def fO (x : Rds) : List Nat:=x.1.map (4 * ·)++x.2.1.map (4 * · + 1)++x.2.2.1.map (fun p=>4 * (64 * p.1 + p.2 % 64) + 2)++x.2.2.2.map (fun p=>4 * (64 * p.1 + p.2 % 64) + 3)
def rdN (f : Nat -> D) (n : aq) : Rds:=(rdS n++rdR f n,mnR f n,frR f n,fwR f n)
def hJ (f : Nat -> D) (n : aq) : List Nat:=fO (rdN f n)
def wrK (ws : List (Nat × D)) (ks : List (Nat × Bool)) : List Nat:=(ws.map fun p=>4 * p.1)++ks.map fun k=>4 * k.1 + 1
def cH : D -> Bool
 | .any=>true
 | _=>false
def chk (f : Nat -> D) (n : aq) : Bool:=((rdS n).all fun s=>!cH (f s)) && ((rdR f n).all fun b=>isB (f b)) && ((frR f n).all fun p=>!(n.dst == some p.1)) && (fwR f n).all fun p=>!(n.dst == some p.1)
def wOk (R : List Nat) (ws : List (Nat × D)) (ks : List (Nat × Bool)) : Bool :=
 (ks.all fun k=>(ws.map (·.1)).contains k.1) && ws.all fun p=>(bz p.2).all fun b=>R.contains (4 * b + 1) || (ws.map (·.1)).contains b
def tw (q : Nat) (r0 : List Nat) : Bool:=r0.any fun z=>decide (z % 4=3) && decide (z / 256=q / 256) && !decide (z / 4 % 64=q / 4 % 64)
def pK (x r0 : List Nat) (r w : List Nat) : Bool:=x.all fun k=>!r.contains k && !w.contains k && r.all fun q=>!(decide (q % 4=2) && decide (k=4 * (q / 256))) || tw q r0
def jD (hs : List Nat) (rw : List (List Nat × List Nat)) : Bool :=
 rw.zipIdx.all fun p=>rw.zipIdx.all fun q=>!decide (p.2 < q.2) || (hs.getD q.2 0).testBit p.2 || (pK p.1.2 p.1.1 q.1.1 q.1.2 && pK q.1.2 q.1.1 p.1.1 p.1.2)
def rZ : Option Nat -> List Nat
 | some t=>[4 * t]
 | none=>[]
def i9 (C : Nat -> List D -> D -> List D -> Prop) (hs : List Nat) (K : Env -> Prop) : List aq -> Env -> List (List Nat × List Nat) -> Prop
 | [],e,acc=>jD hs acc.reverse=true /\ K e
 | o::os,e,acc=>chk (ac e) o=true /\ match o.guard with
  | none=>ay C (ac e) o.dst (fun ws ks=>wOk (hJ (ac e) o) ws ks=true /\ i9 C hs K os (ws++dJ ks e) ((hJ (ac e) o,wrK ws ks)::acc)) o.op
  | some (s,want)=>match ac e s with
   | .bool b=>(b=want -> ay C (ac e) o.dst (fun ws ks=>wOk (hJ (ac e) o) ws ks=true /\ i9 C hs K os (ws++dJ ks e) ((hJ (ac e) o,wrK ws ks)::acc)) o.op) /\
     (b=!want -> gd e o.dst fun e'=>i9 C hs K os e' ((hJ (ac e) o,rZ o.dst)::acc))
   | .tup []=>gd e o.dst fun e'=>i9 C hs K os e' ((hJ (ac e) o,rZ o.dst)::acc)
   | _=>False
def dE (n : aq) : Option (List (Nat × D) × List (Nat × Bool)) -> List (Nat × D)
 | some (ws,_)=>ws
 | none=>match n.dst with
  | some t=>[(t,.tup [])]
  | none=>[]
def d9 : Option (List (Nat × D) × List (Nat × Bool)) -> List (Nat × Bool)
 | some (_,ks)=>ks
 | none=>[]
theorem wy (n : aq) (x : Option (List (Nat × D) × List (Nat × Bool))) (f : Nat -> D) : my n x f=eff (dE n x) (d9 x) f:=by
 cases x with
 | some y=>rfl
 | none =>
  unfold my dE d9
  cases n.dst with
  | some t=>rfl
  | none=>exact (iG f).symm
abbrev fy:=aq × Option (List (Nat × D) × List (Nat × Bool)) × Rds
def Tr (C : Nat -> List D -> D -> List D -> Prop) : List fy -> (Nat -> D) -> (Nat -> D) -> Prop
 | [],f,f'=>f'=f
 | (n,x,rd)::ts,f,f'=>gS C n f x /\ chk f n=true /\ wOk (hJ f n) (dE n x) (d9 x)=true /\ rd=rdN f n /\ Tr C ts (eff (dE n x) (d9 x) f) f'
section
variable {C : Nat -> List D -> D -> List D -> Prop}
theorem zN {hs : List Nat} {K : Env -> Prop} : ∀ (ns : List aq) (e : Env) (acc : List (List Nat × List Nat)),i9 C hs K ns e acc -> ∃ (ts : List fy) (e' : Env),ts.map (·.1)=ns /\ Tr C ts (ac e) (ac e') /\ jD hs (acc.reverse++ts.map fun t=>(fO t.2.2,wrK (dE t.1 t.2.1) (d9 t.2.1)))=true /\ K e'
 | [],e,acc,h=>⟨[],e,rfl,rfl,by simpa using h.1,h.2⟩
 | n::ns,e,acc,h=>by
  obtain ⟨h0,h⟩:=h
  have fin : ∀ (x : Option (List (Nat × D) × List (Nat × Bool))) (e1 : Env),gS C n (ac e) x -> wOk (hJ (ac e) n) (dE n x) (d9 x)=true -> ac e1=eff (dE n x) (d9 x) (ac e) -> i9 C hs K ns e1 ((hJ (ac e) n,wrK (dE n x) (d9 x))::acc) ->
    ∃ (ts : List fy) (e' : Env),ts.map (·.1)=n::ns /\ Tr C ts (ac e) (ac e') /\ jD hs (acc.reverse++ts.map fun t=>(fO t.2.2,wrK (dE t.1 t.2.1) (d9 t.2.1)))=true /\ K e':=by
   intro x e1 h1 h2 h3 h4
   obtain ⟨ts,e',g1,g2,g3,g4⟩:=zN ns e1 _ h4
   refine ⟨(n,x,rdN (ac e) n)::ts,e',by simp [g1],⟨h1,h0,h2,rfl,by rw [<- h3];exact g2⟩,?_,g4⟩
   simpa [hJ] using g3
  have run : (∀ s b,n.guard=some (s,b) -> ac e s=.bool b) -> ay C (ac e) n.dst (fun ws ks=>wOk (hJ (ac e) n) ws ks=true /\ i9 C hs K ns (ws++dJ ks e) ((hJ (ac e) n,wrK ws ks)::acc)) n.op ->
    ∃ (ts : List fy) (e' : Env),ts.map (·.1)=n::ns /\ Tr C ts (ac e) (ac e') /\ jD hs (acc.reverse++ts.map fun t=>(fO t.2.2,wrK (dE t.1 t.2.1) (d9 t.2.1)))=true /\ K e':=by
   intro hg h1
   obtain ⟨ws,ks,⟨h2,h3⟩,h4⟩:=md h1
   exact fin (some (ws,ks)) _ ⟨hg,h4 _ ⟨rfl,rfl⟩⟩ h2 (ik ws ks e) h3
  have skp : ∀ s want,n.guard=some (s,want) -> Skp want (ac e s) -> gd e n.dst (fun e'=>i9 C hs K ns e' ((hJ (ac e) n,rZ n.dst)::acc)) ->
    ∃ (ts : List fy) (e' : Env),ts.map (·.1)=n::ns /\ Tr C ts (ac e) (ac e') /\ jD hs (acc.reverse++ts.map fun t=>(fO t.2.2,wrK (dE t.1 t.2.1) (d9 t.2.1)))=true /\ K e':=by
   intro s want hg hb h1
   unfold gd at h1
   split at h1
   ·rename_i hd
    refine fin none e ⟨s,want,hg,hb⟩ (by simp [wOk,dE,d9,hd]) (by simp [dE,d9,hd,iG]) ?_
    simpa [dE,d9,wrK,hd,rZ] using h1
   ·rename_i t hd
    refine fin none ((t,.tup [])::e) ⟨s,want,hg,hb⟩ (by simp [wOk,dE,d9,hd,bz,aG]) ?_ ?_
    ·have:=ik [(t,.tup [])] [] e
     simp only [dJ,if_true] at this
     simpa [dE,d9,hd] using this
    ·simpa [dE,d9,wrK,hd,rZ] using h1
  split at h
  ·rename_i hg
   exact run (fun s b e'=>(by rw [hg] at e';cases e')) h
  ·rename_i s want hg
   split at h
   ·rename_i b hb
    by_cases hbw : b=want
    ·subst hbw
     exact run (fun s' b' e'=>(by rw [hg] at e';cases e';exact hb)) (h.1 rfl)
    ·have hb' : b=!want:=by cases b <;> cases want <;> simp_all
     have h1:=h.2 hb'
     rw [hb'] at hb
     exact skp s want hg (.inl hb) h1
   ·rename_i hb
    exact skp s want hg (.inr hb) h
   ·exact h.elim
def aS (hs : List Nat) (ts : List fy) (f : Nat -> D) : Fam where
 n:=ts.length
 ws i:=match ts[i]? with
  | some t=>dE t.1 t.2.1
  | none=>[]
 ks i:=match ts[i]? with
  | some t=>d9 t.2.1
  | none=>[]
 rd i:=match ts[i]? with
  | some t=>t.2.2.1
  | none=>[]
 mn i:=match ts[i]? with
  | some t=>t.2.2.2.1
  | none=>[]
 fr i:=match ts[i]? with
  | some t=>t.2.2.2.2.1
  | none=>[]
 bef j i:=(hs.getD j 0).testBit i
 f0:=f
theorem j6 (hs : List Nat) (t : fy) (ts : List fy) (f : Nat -> D) : ∀ i,(aS hs (t::ts) f).St (i + 1)=(aS hs ts (eff (dE t.1 t.2.1) (d9 t.2.1) f)).St i
 | 0=>by simp [Fam.St,Fam.G,Fam.E,aS]
 | i + 1=>by
  have ih:=j6 hs t ts f i
  have e1 : ∀ (A : Fam) (m : Nat),A.St (m + 1)=A.E m (A.St m):=fun A m=>by simp [Fam.St,Fam.G]
  rw [e1,ih,e1]
  simp [Fam.E,aS]
theorem nZ (hs : List Nat) : ∀ (ts : List fy) (f f' : Nat -> D),Tr C ts f f' -> f'=(aS hs ts f).St ts.length /\ ∀ (i : Nat) (t : fy),ts[i]? = some t -> gS C t.1 ((aS hs ts f).St i) t.2.1 /\ chk ((aS hs ts f).St i) t.1=true /\ wOk (fO t.2.2) (dE t.1 t.2.1) (d9 t.2.1)=true /\ t.2.2=rdN ((aS hs ts f).St i) t.1
 | [],f,f',h=>⟨h,fun i t h=>by simp at h⟩
 | (n,x,rd)::ts,f,f',h=>by
  obtain ⟨h1,h2,h3,rfl,h4⟩:=h
  obtain ⟨g1,g2⟩:=nZ hs ts _ f' h4
  refine ⟨by rw [List.length_cons,j6];exact g1,fun i t hi=>?_⟩
  cases i with
  | zero=>simp at hi;subst hi;exact ⟨h1,h2,by simpa [hJ] using h3,rfl⟩
  | succ i=>rw [j6];exact g2 i t (by simpa using hi)
theorem vB {f : Nat -> D} {n : aq} {x : Option (List (Nat × D) × List (Nat × Bool))} {c : Nat} (h2 : (n.dst == some c)=false) (hx : x=none \/ ∃ d ks,x=some ((match n.dst with | some t=>[(t,d)] | none=>[]),ks)) : c ∉ (dE n x).map (·.1):=by
 have h3 : n.dst ≠ some c:=by simpa using h2
 rcases hx with rfl | ⟨d,ks,rfl⟩
 ·simp only [dE]
  split
  ·rename_i t e
   rw [e] at h3
   simp only [List.map_cons,List.map_nil,List.mem_cons,List.not_mem_nil,or_false]
   exact fun e=>h3 (by rw [e])
  ·simp
 ·simp only [dE]
  split
  ·rename_i t e
   rw [e] at h3
   simp only [List.map_cons,List.map_nil,List.mem_cons,List.not_mem_nil,or_false]
   exact fun e=>h3 (by rw [e])
  ·simp
theorem Ax {f : Nat -> D} {n : aq} {x : Option (List (Nat × D) × List (Nat × Bool))} (h : gS C n f x) (h2 : chk f n=true) {p : Nat × Nat} (hp : p ∈ frR f n) : p.1 ∉ (dE n x).map (·.1):=by
 have h3 : (n.dst == some p.1)=false:=by
  simp only [chk,Bool.and_eq_true,List.all_eq_true] at h2
  simpa using h2.1.2 p hp
 refine vB (f:=f) h3 ?_
 cases x with
 | none=>exact .inl rfl
 | some y =>
  obtain ⟨ws,ks⟩:=y
  right
  have h:=h.2
  unfold frR at hp
  split at hp
  ·rename_i q x0 heq
   rw [heq] at h
   simp only [ay] at h
   split at h
   ·obtain ⟨_,h⟩:=h
    split at h
    ·obtain ⟨r,_,d,_,h⟩:=h
     unfold da at h
     split at h
     ·rename_i t e
      obtain ⟨rfl,rfl⟩:=h
      exact ⟨_,_,by rw [e]⟩
     ·rename_i e
      obtain ⟨rfl,rfl⟩:=h
      exact ⟨.any,_,by rw [e]⟩
    ·exact h.elim
   ·exact h.elim
  ·cases hp
theorem rV {es : List (List D)} {sz i o m : Nat} {row : List D} (h : es[i]? = some row) (ho : o < row.length) (hm : o ≠ m) : fw m (.blk sz (bj es i o 1 [.any]))=fw m (.blk sz es):=by
 simp only [fw,bj,h,Option.getD_some,Option.some.injEq]
 apply List.ext_getElem?
 intro j
 rw [List.getElem?_map,List.getElem?_map,List.getElem?_set]
 split
 ·rename_i e
  subst e
  split
  ·rw [h]
   simp only [Option.map_some,Option.some.injEq]
   have hl : (row.take o).length=o:=by simp;omega
   rw [List.append_assoc]
   by_cases h1 : m < o
   ·rw [List.getElem?_append_left (by omega),List.getElem?_take_of_lt h1]
   ·rw [List.getElem?_append_right (by omega),hl,List.getElem?_append_right (by simp;omega),List.getElem?_drop]
    congr 1;simp only [List.length_cons,List.length_nil];omega
  ·rename_i h1
   rw [List.getElem?_eq_none (by omega)]
 ·rfl
theorem Aw {f : Nat -> D} {n : aq} {x : Option (List (Nat × D) × List (Nat × Bool))} (h : gS C n f x) (h2 : chk f n=true) {p : Nat × Nat} (hp : p ∈ fwR f n) {m : Nat} (hm : p.2 ≠ m) : fw m (eff (dE n x) (d9 x) f p.1)=fw m (f p.1):=by
 have h3 : (n.dst == some p.1)=false:=by
  simp only [chk,Bool.and_eq_true,List.all_eq_true] at h2
  simpa using h2.2 p hp
 cases x with
 | none =>
  rw [cM (fm (vB (f:=f) h3 (.inl rfl)))]
  exact mJ _ _ _
 | some y =>
  obtain ⟨ws,ks⟩:=y
  have h:=h.2
  have h30 : n.dst ≠ some p.1:=by simpa using h3
  unfold fwR at hp
  split at hp
  ·rename_i q sz by_ x0 y0 heq
   rw [heq] at h
   simp only [ay] at h
   split at h
   ·rename_i t hd
    split at h
    ·rename_i c i o' k n' ex
     rw [ex] at hp
     simp only [List.mem_cons,List.not_mem_nil,or_false] at hp
     subst hp
     simp only at hm h30 ⊢
     obtain ⟨rfl,h⟩:=h
     obtain ⟨rows,bs,⟨h4,h5,h⟩,_⟩:=dK h
     split at h
     ·rename_i sz0 es0 hf
      obtain ⟨row0,h6,es,h7,h8,h9,h10,h11⟩:=h
      subst h10 h11
      have e1 : (c == t)=false:=by simp only [beq_eq_false_iff_ne,ne_eq];exact fun e=>h30 (by rw [hd,e])
      have e2 : (c == rt t 0)=false:=by simpa using h5
      simp only [dE]
      rw [aJ (d:=.blk sz0 (bj es0 i o' 1 [.any])) (by simp [List.lookup_cons,e1,e2]),hf]
      exact rV h6 (List.getElem?_eq_some_iff.1 h7).1 hm
     ·exact h.elim
    ·exact h.elim
   ·exact h.elim
  ·cases hp
theorem At {hs : List Nat} {ts : List fy} {f f' : Nat -> D} (h : Tr C ts f f') (hi : jD hs (ts.map fun t=>(fO t.2.2,wrK (dE t.1 t.2.1) (d9 t.2.1)))=true) : (aS hs ts f).Ok:=by
 obtain ⟨_,hs'⟩:=nZ hs ts f f' h
 have get : ∀ i,i < ts.length -> ∃ t,ts[i]? = some t:=fun i hi=>⟨_,List.getElem?_eq_getElem hi⟩
 have e4 : ∀ {x : Rds} {z : Nat},z ∈ fO x -> (∃ k ∈ x.1,z=4 * k) \/ (∃ k ∈ x.2.1,z=4 * k + 1) \/ (∃ p ∈ x.2.2.1,z=4 * (64 * p.1 + p.2 % 64) + 2) \/ ∃ p ∈ x.2.2.2,z=4 * (64 * p.1 + p.2 % 64) + 3:=by
  intro x z hz
  simp only [fO,List.mem_append,List.mem_map] at hz
  rcases hz with ((⟨k,h1,h2⟩ | ⟨k,h1,h2⟩) | ⟨p,h1,h2⟩) | ⟨p,h1,h2⟩
  ·exact .inl ⟨k,h1,h2.symm⟩
  ·exact .inr (.inl ⟨k,h1,h2.symm⟩)
  ·exact .inr (.inr (.inl ⟨p,h1,h2.symm⟩))
  ·exact .inr (.inr (.inr ⟨p,h1,h2.symm⟩))
 have e1 : ∀ {x : Rds} {k : Nat},k ∈ x.1 -> 4 * k ∈ fO x:=fun {x k} hk=>by
  simp only [fO,List.mem_append,List.mem_map];exact .inl (.inl (.inl ⟨k,hk,rfl⟩))
 have e2 : ∀ {x : Rds} {k : Nat},k ∈ x.2.1 -> 4 * k + 1 ∈ fO x:=fun {x k} hk=>by
  simp only [fO,List.mem_append,List.mem_map];exact .inl (.inl (.inr ⟨k,hk,rfl⟩))
 have e3 : ∀ {x : Rds} {p : Nat × Nat},p ∈ x.2.2.1 -> 4 * (64 * p.1 + p.2 % 64) + 2 ∈ fO x:=fun {x p} hk=>by
  simp only [fO,List.mem_append,List.mem_map];exact .inl (.inr ⟨p,hk,rfl⟩)
 refine ⟨fun i hn k hk=>?_,fun i hn p hp b all hb=>?_,fun i hn k hk b all hb=>?_,fun i hn p hp hk=>?_,fun i hn k hk=>?_,fun i j hij hn=>?_⟩
 ·obtain ⟨t,ht⟩:=get i hn
  obtain ⟨_,_,h3,_⟩:=hs' i t ht
  simp only [aS,ht] at hk
  simp only [Fam.W,aS,ht]
  simp only [wOk,Bool.and_eq_true,List.all_eq_true] at h3
  exact List.contains_iff_mem.1 (h3.1 k hk)
 ·obtain ⟨t,ht⟩:=get i hn
  obtain ⟨_,_,h3,_⟩:=hs' i t ht
  simp only [aS,ht] at hp
  simp only [Fam.W,aS,ht]
  simp only [wOk,Bool.and_eq_true,List.all_eq_true,Bool.or_eq_true] at h3
  rcases h3.2 p hp b (jl hb) with h4 | h4
  ·left
   have h5:=List.contains_iff_mem.1 h4
   rcases e4 h5 with ⟨x,_,h6⟩ | ⟨x,h7,h6⟩ | ⟨x,_,h6⟩ | ⟨x,_,h6⟩
   ·omega
   ·have : x=b:=by omega
    subst this;exact h7
   ·omega
   ·omega
  ·exact .inr (List.contains_iff_mem.1 h4)
 ·obtain ⟨t,ht⟩:=get i hn
  obtain ⟨h1,h2,_,h4⟩:=hs' i t ht
  simp only [aS,ht] at hk ⊢
  rw [h4] at hk ⊢
  simp only [chk,Bool.and_eq_true,List.all_eq_true] at h2
  rcases List.mem_append.1 hk with h5 | h5
  ·simp only [rdS] at h5
   rcases List.mem_append.1 h5 with h6 | h6
   ·obtain ⟨x,h7,h8⟩:=List.mem_flatMap.1 h6
    cases x with
    | t s =>
     simp only [io,List.mem_singleton] at h8
     subst h8
     refine List.mem_flatMap.2 ⟨_,h7,?_⟩
     exact jl hb
    | c d=>simp [io] at h8
   ·
    have : (∃ bb,(aS hs ts f).St i k=.bool bb) \/ (aS hs ts f).St i k=.tup []:=by
     cases hg : t.1.guard with
     | none=>rw [hg] at h6;simp [oJ] at h6
     | some q =>
      obtain ⟨s,want⟩:=q
      rw [hg] at h6
      simp only [oJ,List.mem_singleton] at h6
      subst h6
      unfold gS at h1
      split at h1
      ·exact .inl ⟨want,h1.1 k want hg⟩
      ·obtain ⟨s',b',h7,h8⟩:=h1
       rw [hg] at h7;cases h7
       exact h8.imp (fun h8=>⟨_,h8⟩) id
    simp only [aS] at this hb
    rcases this with ⟨bb,hbb⟩ | hbb <;> rw [hbb] at hb <;> simp [dt,aI] at hb
  ·have h6:=h2.1.1.2 k h5
   simp only [aS] at h6 hb
   have h7 : ∀ d : D,isB d=true -> dt b all d=false:=fun d hd=>by cases d <;> first | rfl | (simp [isB] at hd)
   rw [h7 _ h6] at hb;cases hb
 ·
  obtain ⟨t,ht⟩:=get i hn
  obtain ⟨h1,h2,h3,h4⟩:=hs' i t ht
  simp only [aS,ht] at hp
  simp only [Fam.W,aS,ht] at hk
  rw [h4] at hp
  simp only [rdN] at hp
  exact Ax h1 h2 hp hk
 ·obtain ⟨t,ht⟩:=get i hn
  obtain ⟨h1,h2,_,h4⟩:=hs' i t ht
  simp only [aS,ht] at hk ⊢
  rw [h4] at hk
  simp only [chk,Bool.and_eq_true,List.all_eq_true] at h2
  rcases List.mem_append.1 hk with h5 | h5
  ·have:=h2.1.1.1 k h5
   intro e
   simp only [aS] at this
   rw [e] at this
   simp [cH] at this
  ·have:=h2.1.1.2 k h5
   intro e
   simp only [aS] at this
   rw [e] at this
   simp [isB] at this
 ·obtain ⟨t,ht⟩:=get i (Nat.lt_trans hij hn)
  obtain ⟨u,hu⟩:=get j hn
  simp only [jD,List.all_eq_true] at hi
  have h1:=hi ((fO t.2.2,wrK (dE t.1 t.2.1) (d9 t.2.1)),i) (List.mem_zipIdx_iff_getElem?.2 (by simp [ht])) ((fO u.2.2,wrK (dE u.1 u.2.1) (d9 u.2.1)),j) (List.mem_zipIdx_iff_getElem?.2 (by simp [hu]))
  simp only [Bool.or_eq_true,Bool.not_eq_true',decide_eq_false_iff_not,Bool.and_eq_true] at h1
  rcases h1 with (h1 | h1) | h1
  ·exact absurd hij h1
  ·exact .inl h1
  ·right
   simp only [pK,List.all_eq_true,Bool.and_eq_true,Bool.not_eq_true'] at h1
   have nm : ∀ {l : List Nat} {k : Nat},l.contains k=false -> k ∉ l:=fun h hm=>by
    have:=List.contains_iff_mem.2 hm
    rw [h] at this;cases this
   have one : ∀ (a b : fy) (x y : Nat),ts[x]? = some a -> ts[y]? = some b -> (∀ k ∈ wrK (dE a.1 a.2.1) (d9 a.2.1),((fO b.2.2).contains k=false /\ (wrK (dE b.1 b.2.1) (d9 b.2.1)).contains k=false) /\ ∀ q ∈ fO b.2.2,(!(decide (q % 4=2) && decide (k=4 * (q / 256))) || tw q (fO a.2.2))=true) -> (aS hs ts f).Apart x y:=by
    intro a b x y ha hb hab
    refine ⟨fun k hk=>?_,fun k hk hm=>?_⟩
    ·have hk0:=hk
     simp only [Fam.W,aS,ha] at hk
     obtain ⟨p,hp,rfl⟩:=List.mem_map.1 hk
     obtain ⟨⟨h2,h3⟩,h4⟩:=hab (4 * p.1) (List.mem_append.2 (.inl (List.mem_map.2 ⟨p,hp,rfl⟩)))
     refine ⟨fun hr=>nm h2 (e1 (by simp only [aS,hb] at hr;exact hr)),fun hw=>nm h3 (List.mem_append.2 (.inl ?_)),fun m hm=>?_⟩
     ·simp only [Fam.W,aS,hb] at hw
      obtain ⟨q,hq,e⟩:=List.mem_map.1 hw
      exact List.mem_map.2 ⟨q,hq,by rw [e]⟩
     ·simp only [aS,hb] at hm
      have h5:=h4 _ (e3 hm)
      have h6 : (4 * (64 * p.1 + m % 64) + 2) % 4=2:=by omega
      have h7 : (4 * (64 * p.1 + m % 64) + 2) / 256=p.1:=by omega
      have h8 : (4 * (64 * p.1 + m % 64) + 2) / 4 % 64=m % 64:=by omega
      simp only [h6,h7,decide_true,Bool.and_self,Bool.not_true,Bool.false_or,tw,h8,List.any_eq_true,Bool.and_eq_true,decide_eq_true_eq,Bool.not_eq_true',decide_eq_false_iff_not] at h5
      obtain ⟨z,hz,⟨hz3,hzc⟩,hzo⟩:=h5
      obtain ⟨g1,g2,_,g4⟩:=hs' x a ha
      rcases e4 hz with ⟨_,_,h9⟩ | ⟨_,_,h9⟩ | ⟨_,_,h9⟩ | ⟨p',hp',h9⟩
      ·omega
      ·omega
      ·omega
      ·have e5 : p'.1=p.1:=by omega
       have e6 : p'.2 % 64 ≠ m % 64:=fun e=>hzo (by omega)
       rw [g4] at hp'
       simp only [rdN] at hp'
       have:=Aw g1 g2 hp' (m:=m) (fun e=>e6 (by rw [e]))
       unfold Fam.Pres
       rw [js]
       unfold Fam.E
       simp only [aS,ha] at this ⊢
       rw [e5] at this
       exact this
    ·simp only [aS,ha] at hk
     obtain ⟨⟨h2,_⟩,_⟩:=hab (4 * k.1 + 1) (List.mem_append.2 (.inr (List.mem_map.2 ⟨k,hk,rfl⟩)))
     refine nm h2 (e2 ?_)
     simp only [aS,hb] at hm;exact hm
   exact ⟨one t u i j ht hu h1.1,one u t j i hu ht h1.2⟩
end
def uH (ops : Array Oper) (H : Array Nat) (j : Nat) : Nat:=match ops[j]? with
 | some o=>o.after.toList.foldl (fun s e=>if Region.binds .any e then s ||| 2 ^ e.on ||| H.getD e.on 0 else s) 0
 | none=>0
def qT (ops : Array Oper) (j : Nat) : Bool:=match ops[j]? with
 | some o=>o.after.toList.all fun e=>!Region.binds .any e || decide (e.on < j)
 | none=>true
theorem lJ (H : Array Nat) (i : Nat) : ∀ (l : List Edge) (s : Nat),(l.foldl (fun s e=>if Region.binds .any e then s ||| 2 ^ e.on ||| H.getD e.on 0 else s) s).testBit i=true ->
  s.testBit i=true \/ ∃ e ∈ l,Region.binds .any e=true /\ (i=e.on \/ (H.getD e.on 0).testBit i=true)
 | [],s,h=>.inl h
 | e::l,s,h=>by
  simp only [List.foldl_cons] at h
  rcases lJ H i l _ h with h1 | ⟨e',h1,h2⟩
  ·split at h1
   ·rename_i hb
    simp only [Nat.testBit_or,Bool.or_eq_true,Nat.testBit_two_pow,decide_eq_true_eq] at h1
    rcases h1 with (h1 | h1) | h1
    ·exact .inl h1
    ·exact .inr ⟨e,by simp,hb,.inl h1.symm⟩
    ·exact .inr ⟨e,by simp,hb,.inr h1⟩
   ·exact .inl h1
  ·exact .inr ⟨e',by simp [h1],h2⟩
theorem ye {ops : Array Oper} {H : Array Nat} {j i : Nat} (h : (uH ops H j).testBit i=true) : ∃ o,ops[j]? = some o /\ ∃ e ∈ o.after.toList,Region.binds .any e=true /\ (i=e.on \/ (H.getD e.on 0).testBit i=true):=by
 unfold uH at h
 split at h
 ·rename_i o ho
  rcases lJ H i _ 0 h with h1 | h1
  ·simp at h1
  ·exact ⟨o,ho,h1⟩
 ·simp at h
def pU (hs : List Nat) (ops : Array Oper) : Bool:=(List.range ops.size).all fun j=>hs.getD j 0 == uH ops hs.toArray j && qT ops j
def left (n : Nat) (l : Nat -> Bool) : Nat:=((List.range n).filter fun i=>!l i).length
theorem mO {p q : Nat -> Bool} {j : Nat} (hpq : ∀ i,q i=true -> p i=true) (hp : p j=true) (hq : q j=false) : ∀ (l : List Nat),j ∈ l -> (l.filter q).length < (l.filter p).length
 | [],h=>by simp at h
 | i::l,h=>by
  have hle : (l.filter q).length <= (l.filter p).length:=by
   clear h
   induction l with
   | nil=>simp
   | cons x l ih =>
    simp only [List.filter_cons]
    cases hqx : q x with
    | true=>simp [hpq x hqx,ih]
    | false=>cases p x <;> simp <;> omega
  by_cases hij : i=j
  ·subst hij
   simp [hp,hq]
   omega
  ·have:=mO hpq hp hq l (by simpa [Ne.symm hij] using h)
   simp only [List.filter_cons]
   cases hqx : q i with
   | true=>simp [hpq i hqx,this]
   | false=>cases p i <;> simp <;> omega
section
variable {P : Program} {F : Fid} {C : Nat -> List D -> D -> List D -> Prop} {nt : Nat} {S : Nat -> Prop} {L : Nat -> Option Loc} {w0 : World} {M0 : Mem} {f : Nat -> D} {M : Mem} {a : Act} {w : World} {Q : Exit -> Act -> World -> Prop}
def lst (listed : Array Bool) : Nat -> Bool:=fun i=>listed.getD i true
theorem jk {ops : Array Oper} {listed : Array Bool} {i : Nat} : i ∈ Region.ready .any ops listed ↔ i < ops.size /\ lst listed i=false /\ ∃ o,ops[i]? = some o /\ ∀ e ∈ o.after,Region.binds .any e=true -> listed.getD e.on false=true:=by
 simp only [Region.ready,List.mem_filter,List.mem_range,Bool.and_eq_true,Bool.not_eq_true',lst]
 constructor
 ·rintro ⟨h1,h2,h3⟩
  refine ⟨h1,h2,ops[i],Array.getElem?_eq_getElem h1,fun e he hb=>?_⟩
  rw [Array.getElem?_eq_getElem h1] at h3
  simp only [Option.map_some,Option.getD_some,Array.all_eq_true_iff_forall_mem,Bool.or_eq_true,Bool.not_eq_true'] at h3
  rcases h3 e he with h4 | h4
  ·rw [hb] at h4;cases h4
  ·exact h4
 ·rintro ⟨h1,h2,o,h3,h4⟩
  refine ⟨h1,h2,?_⟩
  rw [h3]
  simp only [Option.map_some,Option.getD_some,Array.all_eq_true_iff_forall_mem,Bool.or_eq_true,Bool.not_eq_true']
  intro e he
  cases hb : Region.binds .any e with
  | false=>exact .inl rfl
  | true=>exact .inr (h4 e he hb)
theorem uj (hs : List Nat) (j : Nat) : hs.toArray.getD j 0=hs.getD j 0:=by
 simp [Array.getD_eq_getD_getElem?,List.getD_eq_getElem?_getD]
theorem sC {f g : Nat -> D} {n : aq} {dst : Option Nat} {K : List (Nat × D) -> List (Nat × Bool) -> Prop} (hv : ∀ x ∈ ai n.op,vd g x=vd f x) (hr : ∀ b ∈ rdR f n,g b=f b) (hc : ∀ p ∈ frR f n,fw p.2 (g p.1)=fw p.2 (f p.1)) (h : ay C f dst K n.op) : ay C g dst K n.op:=by
 obtain ⟨d0,o,g0⟩:=n
 simp only at hv h ⊢
 have full : (∀ x ∈ ai o,x ∈ Bo o) -> ay C g dst K o:=fun hN=>qv hv (fun x hx b hb=>hr b (List.mem_append.2 (.inl (List.mem_flatMap.2 ⟨x,hN x hx,jl hb⟩)))) h
 cases o with
 | mov x=>simp only [ay,res,hv x (by simp [ai])] at h ⊢;exact h
 | nck x=>simp only [ay,res,hv x (by simp [ai])] at h ⊢;exact h
 | un op x=>simp only [ay,res,hv x (by simp [ai])] at h ⊢;exact h
 | conv k x=>simp only [ay,res,hv x (by simp [ai])] at h ⊢;exact h
 | fld a b c x=>simp only [ay,res,hv x (by simp [ai])] at h ⊢;exact h
 | ext i x=>simp only [ay,res,hv x (by simp [ai])] at h ⊢;exact h
 | fad i x=>simp only [ay,res,hv x (by simp [ai])] at h ⊢;exact h
 | boxF x=>simp only [ay,res,hv x (by simp [ai])] at h ⊢;exact h
 | blsF sz len zs ps =>
  have e : ∀ p ∈ ps,vd g p.2=vd f p.2:=fun p hp=>hv _ (List.mem_map.2 ⟨p,hp,rfl⟩)
  simp only [ay,res] at h ⊢
  rw [ic e]
  exact ⟨fun p hp=>by rw [e p hp];exact h.1 p hp,h.2⟩
 | blsX sz len zs ps =>
  have e : ∀ p ∈ ps,vd g p.2=vd f p.2:=fun p hp=>hv _ (List.mem_map.2 ⟨p,hp,rfl⟩)
  simp only [ay,res] at h ⊢
  rw [jw e]
  exact ⟨h.1,fun p hp=>by rw [e p hp];exact h.2.1 p hp,h.2.2⟩
 | len x=>simp only [ay,res,hv x (by simp [ai])] at h ⊢;exact h
 | pick c x y=>simp only [ay,res,hv c (by simp [ai]),hv x (by simp [ai]),hv y (by simp [ai])] at h ⊢;exact h
 | bin op x y=>simp only [ay,res,hv x (by simp [ai]),hv y (by simp [ai])] at h ⊢;exact h
 | iadA l s x i=>simp only [ay,res,hv x (by simp [ai]),hv i (by simp [ai])] at h ⊢;exact h
 | bld zs ps =>
  have e : ∀ p ∈ ps,vd g p.2.2=vd f p.2.2:=fun p hp=>hv _ (List.mem_map.2 ⟨p,hp,rfl⟩)
  simp only [ay,res] at h ⊢
  obtain ⟨h1,h2,h3⟩:=h
  have e2 : (ps.all fun p=>isV (vd g p.2.2))=(ps.all fun p=>isV (vd f p.2.2)):=by
   rw [Bool.eq_iff_iff,List.all_eq_true,List.all_eq_true]
   exact ⟨fun h p hp=>by rw [<- e p hp];exact h p hp,fun h p hp=>by rw [e p hp];exact h p hp⟩
  have m1 : (ps.map fun p=>(p.1,p.2.1,vd g p.2.2))=ps.map fun p=>(p.1,p.2.1,vd f p.2.2):=List.map_congr_left fun p hp=>by rw [e p hp]
  have m2 : (ps.map fun p=>(p.1,p.2.1,bZ (vd g p.2.2)))=ps.map fun p=>(p.1,p.2.1,bZ (vd f p.2.2)):=List.map_congr_left fun p hp=>by rw [e p hp]
  rw [e2,m1,m2]
  exact ⟨fun p hp=>by rw [e p hp];exact h1 p hp,h2,h3⟩
 | mk k xs =>
  have e : ∀ x ∈ xs,vd g x=vd f x:=fun x hx=>hv x hx
  simp only [ay,res] at h ⊢
  obtain ⟨h1,h2,h3⟩:=h
  have e2 : (xs.all fun x=>isV (vd g x))=(xs.all fun x=>isV (vd f x)):=by
   rw [Bool.eq_iff_iff,List.all_eq_true,List.all_eq_true]
   exact ⟨fun h p hp=>by rw [<- e p hp];exact h p hp,fun h p hp=>by rw [e p hp];exact h p hp⟩
  rw [e2,List.map_congr_left e]
  exact ⟨fun p hp=>by rw [e p hp];exact h1 p hp,h2,h3⟩
 | ldQ q x =>
  have e:=hv x (by simp [ai])
  simp only [ay,e] at h ⊢
  split at h
  ·rename_i c i off ex
   obtain ⟨rfl,h⟩:=h
   split at h
   ·rename_i sz es hf
    obtain ⟨r,h1,d,h2,h3⟩:=h
    have h4:=hc (c,off) (by simp [frR,ex])
    simp only [hf,fw] at h4
    refine ⟨rfl,?_⟩
    split at h4
    ·rename_i sz' es' hg
     simp only [Option.some.injEq] at h4
     have h5:=congrArg (fun l=>l[i]?) h4
     simp only [List.getElem?_map,h1,Option.map_some] at h5
     rw [Option.map_eq_some_iff] at h5
     obtain ⟨r',h6,h7⟩:=h5
     simp only [hg]
     exact ⟨r',h6,d,by rw [h7];exact h2,h3⟩
    ·cases h4
   ·exact h.elim
  ·exact h.elim
 | ld n ag x =>
  have e:=hv x (by simp [ai])
  simp only [ay,res,e] at h ⊢
  split at h
  ·rename_i p i off ex
   rw [cW (p:=p) (hr _ (List.mem_append.2 (.inr (List.mem_flatMap.2 ⟨x,by simp [ldN],by rw [ex];simp [aG]⟩))))]
   exact h
  ·exact h
  ·exact h
  ·exact h
 | _=>exact full (fun x hx=>hx)
theorem rK (hC : bS P F C) (hL : NoL L) {hs : List Nat} {ops : Array Oper} {ts : List fy} {f' : Nat -> D} (htr : Tr C ts f f') (hok : (aS hs ts f).Ok) (hlen : ts.length=ops.size) (hb : ∀ j,j < ops.size -> hs.getD j 0=uH ops hs.toArray j) (hed : ∀ (j : Nat) (o : Oper),ops[j]? = some o -> ∀ e ∈ o.after,Region.binds .any e=true -> e.on < j)
  (hk : ∀ (j : Nat) (t : fy) (o : Oper),ts[j]? = some t -> ops[j]? = some o -> o9 P F nt ops t.1 o=true)
  (hQ : ∀ M a w,SR F nt S L w0 M0 f' M a w -> Q .normal a w) : ∀ (fuel : Nat) (listed : Array Bool) (M : Mem) (a : Act) (w : World),listed.size=ops.size -> left ops.size (lst listed) <= fuel ->
   (∀ j,j < ops.size -> lst listed j=true -> ∀ i,(hs.getD j 0).testBit i=true -> i < ops.size /\ lst listed i=true) -> SR F nt S L w0 M0 ((aS hs ts f).G (lst listed) ts.length) M a w -> wpAny P .any ops Q fuel listed a w:=by
 obtain ⟨hf',hsp⟩:=nZ hs ts f f' htr
 have hall : ∀ (listed : Array Bool),(∀ i,i < ops.size -> lst listed i=true) -> (aS hs ts f).G (lst listed) ts.length=f':=by
  intro listed h
  rw [hf']
  unfold Fam.St
  have : ∀ m,m <= ts.length -> (aS hs ts f).G (lst listed) m=(aS hs ts f).G (fun _=>true) m:=by
   intro m
   induction m with
   | zero=>intro _;rfl
   | succ m ih =>
    intro hm
    simp only [Fam.G]
    rw [h m (by omega),ih (by omega)]
    rfl
  exact this _ (Nat.le_refl _)
 intro fuel
 induction fuel with
 | zero =>
  intro listed M a w hs' hf hcl h
  have hal : ∀ i,i < ops.size -> lst listed i=true:=by
   intro i hi
   cases hl : lst listed i with
   | true=>rfl
   | false =>
    have : i ∈ (List.range ops.size).filter fun i=>!lst listed i:=by simp [hi,hl]
    have:=List.length_pos_of_mem this
    unfold left at hf
    omega
  refine ⟨?_,hQ M a w (by rw [<- hall listed hal];exact h)⟩
  rw [List.eq_nil_iff_forall_not_mem]
  intro i hi
  obtain ⟨h1,h2,_⟩:=jk.1 hi
  rw [hal i h1] at h2
  cases h2
 | succ fuel ih =>
  intro listed M a w hs' hf hcl h
  refine ⟨fun hr=>hQ M a w ?_,fun j hj=>?_⟩
  ·have hal : ∀ i,i < ops.size -> lst listed i=true:=by
    intro i
    induction i using Nat.strongRecOn with
    | _ i ihi =>
     intro hi
     cases hl : lst listed i with
     | true=>rfl
     | false =>
      have : i ∈ Region.ready .any ops listed:=jk.2 ⟨hi,hl,ops[i],Array.getElem?_eq_getElem hi,fun e he hb=>by
       have h1:=hed i _ (Array.getElem?_eq_getElem hi) e he hb
       have h2:=ihi e.on h1 (by omega)
       unfold lst at h2
       rw [Array.getD_eq_getD_getElem?] at h2 ⊢
       rw [Array.getElem?_eq_getElem (by omega)] at h2 ⊢
       simpa using h2⟩
      rw [hr] at this
      cases this
   rw [<- hall listed hal]
   exact h
  ·obtain ⟨h1,h2,o,h3,h4⟩:=jk.1 hj
   obtain ⟨t,ht⟩ : ∃ t,ts[j]? = some t:=⟨ts[j]'(by omega),List.getElem?_eq_getElem (by omega)⟩
   have hanc : ∀ i,(hs.getD j 0).testBit i=true -> i < ops.size /\ lst listed i=true:=by
    intro i hi
    rw [hb j h1] at hi
    obtain ⟨o',ho',e,he,hbd,h5⟩:=ye hi
    rw [h3] at ho'
    cases ho'
    have h6:=hed j o h3 e (by simpa using he) hbd
    have h7:=h4 e (by simpa using he) hbd
    have h8 : lst listed e.on=true:=by
     unfold lst
     rw [Array.getD_eq_getD_getElem?] at h7 ⊢
     rw [Array.getElem?_eq_getElem (by omega)] at h7 ⊢
     simpa using h7
    rcases h5 with rfl | h5
    ·exact ⟨by omega,h8⟩
    ·rw [uj] at h5
     exact hcl e.on (by omega) h8 i h5
   have hshut : tf (aS hs ts f) (lst listed):=fun j' hj' hl' i _ hbf=>(hcl j' (by simpa [aS,hlen] using hj') hl' i hbf).2
   have hjn : j < (aS hs ts f).n:=by simp only [aS];omega
   have hreads:=hok.reads hshut hjn h2 (fun i _ hbf=>(hanc i hbf).2)
   have hcols:=hok.readsC hshut hjn h2 (fun i _ hbf=>(hanc i hbf).2)
   obtain ⟨g1,g2,g3,g4⟩:=hsp j t ht
   have hrd : (aS hs ts f).rd j=t.2.2.1:=by simp [aS,ht]
   have hn : (aS hs ts f).n=ts.length:=rfl
   rw [hrd,hn,g4] at hreads
   have hfr : (aS hs ts f).fr j=frR ((aS hs ts f).St j) t.1:=by
    have : (aS hs ts f).fr j=t.2.2.2.2.1:=by simp [aS,ht]
    rw [this,g4];rfl
   rw [hfr,hn] at hcols
   have hstep : gS C t.1 ((aS hs ts f).G (lst listed) ts.length) t.2.1:=by
    have hv : ∀ x ∈ ai t.1.op,vd ((aS hs ts f).G (lst listed) ts.length) x=vd ((aS hs ts f).St j) x:=fun x hx=>by
     cases x with
     | t s=>exact hreads s (List.mem_append.2 (.inl (List.mem_append.2 (.inl (List.mem_flatMap.2 ⟨_,hx,by simp [io]⟩)))))
     | c d=>rfl
    have ha : ∀ b ∈ rdR ((aS hs ts f).St j) t.1,(aS hs ts f).G (lst listed) ts.length b=(aS hs ts f).St j b:=fun b hb=>hreads b (List.mem_append.2 (.inr hb))
    have hg : ∀ s b,t.1.guard=some (s,b) -> (aS hs ts f).G (lst listed) ts.length s=(aS hs ts f).St j s:=fun s b e =>
     hreads s (List.mem_append.2 (.inl (List.mem_append.2 (.inr (by rw [e];simp [oJ])))))
    unfold gS at g1 ⊢
    split at g1
    ·exact ⟨fun s b e=>by rw [hg s b e];exact g1.1 s b e,sC hv ha hcols g1.2⟩
    ·obtain ⟨s,b,e1,e2⟩:=g1
     exact ⟨s,b,e1,by rw [hg s b e1];exact e2⟩
   have hlst : ∀ i,lst (listed.setIfInBounds j true) i=(if i=j then true else lst listed i):=by
    intro i
    unfold lst
    rw [Array.getD_eq_getD_getElem?,Array.getD_eq_getD_getElem?,Array.getElem?_setIfInBounds]
    by_cases hij : i=j
    ·subst hij;simp [show i < listed.size from by omega]
    ·simp [hij,Ne.symm hij]
   have hlst' : ∀ i,i ≠ j -> lst (listed.setIfInBounds j true) i=lst listed i:=fun i hi=>by rw [hlst,if_neg hi]
   have hlstj : lst (listed.setIfInBounds j true) j=true:=by rw [hlst,if_pos rfl]
   have hmore : (aS hs ts f).G (lst (listed.setIfInBounds j true)) ts.length=my t.1 t.2.1 ((aS hs ts f).G (lst listed) ts.length):=by
    rw [wy]
    have:=hok.more hshut hjn h2 hlstj hlst'
    rw [hn] at this
    rw [this]
    simp [Fam.E,aS,ht]
   have hfin : ∀ M' a' w',SR F nt S L w0 M0 (my t.1 t.2.1 ((aS hs ts f).G (lst listed) ts.length)) M' a' w' -> wpAny P .any ops Q fuel (listed.setIfInBounds j true) a' w':=by
    intro M' a' w' h'
    refine ih _ M' a' w' (by simpa using hs') ?_ (fun j' hj' hl' i hi=>?_) (by rw [hmore];exact h')
    ·have : left ops.size (lst (listed.setIfInBounds j true)) < left ops.size (lst listed):=by
      refine mO (j:=j) (fun i hi=>?_) (by simp [h2]) (by simp [hlstj]) _ (by simpa using h1)
      by_cases hij : i=j
      ·subst hij;simp [h2]
      ·rw [hlst' i hij] at hi;exact hi
     omega
    ·by_cases hjj : j'=j
     ·subst hjj
      obtain ⟨q1,q2⟩:=hanc i hi
      refine ⟨q1,?_⟩
      rw [hlst];split
      ·rfl
      ·exact q2
     ·rw [hlst' j' hjj] at hl'
      obtain ⟨q1,q2⟩:=hcl j' hj' hl' i hi
      refine ⟨q1,?_⟩
      rw [hlst];split
      ·rfl
      ·exact q2
   have:=zJ hC hL (hk j t o ht h3) h hstep (R:=wpAny P .any ops Q fuel (listed.setIfInBounds j true)) hfin (Q:=Q)
   unfold wpOp
   rw [h3]
   exact this
theorem pj (hC : bS P F C) (hL : NoL L) (hm : P.follows .mixedOrders=true) {hs : List Nat} {ops : Array Oper} {ns : List aq} (hk : pi P F nt ns ops=true) (hdr : pU hs ops=true) {id : Nat} {K : Env -> Prop} {e : Env} (h : SR F nt S L w0 M0 (ac e) M a w) (hr : i9 C hs K ns e [])
  (hQ : ∀ e M a w,SR F nt S L w0 M0 (ac e) M a w -> K e -> Q .normal a w) : (Code.region id ops true).wp P Q a w:=by
 simp only [pi,Bool.and_eq_true,beq_iff_eq,List.all_eq_true] at hk
 obtain ⟨ts,e',g1,g2,g3,g4⟩:=zN ns e [] hr
 have hlen : ts.length=ops.size:=by
  have : ts.length=ns.length:=by rw [<- g1];simp
  rw [this];simpa using hk.1
 have hok:=At g2 (by simpa using g3)
 simp only [pU,List.all_eq_true,List.mem_range,Bool.and_eq_true,beq_iff_eq] at hdr
 refine wp_region_any hm (rK hC hL (hs:=hs) g2 hok hlen (fun j hj=>(hdr j hj).1) (fun j o ho e he hb=>?_) (fun j t o ht ho=>?_) (fun M a w hs=>hQ e' M a w hs g4) _ _ M a _ (by simp) ?_ ?_ ?_)
 ·obtain ⟨hj,_⟩:=Array.getElem?_eq_some_iff.1 ho
  have:=(hdr j hj).2
  simp only [qT,ho,List.all_eq_true,Bool.or_eq_true,Bool.not_eq_true',decide_eq_true_eq] at this
  rcases this e (by simpa using he) with h5 | h5
  ·rw [hb] at h5;cases h5
  ·exact h5
 ·refine hk.2 (t.1,o) ?_
  rw [List.mem_iff_getElem?]
  refine ⟨j,?_⟩
  rw [List.getElem?_zip_eq_some]
  refine ⟨?_,by simpa using ho⟩
  rw [<- g1]
  simp [ht]
 ·have:=List.length_filter_le (fun i=>!lst (Array.replicate ops.size false) i) (List.range ops.size)
  simpa [left] using this
 ·intro j hj hl
  simp [lst,hj] at hl
 ·have h0 : ∀ m,m <= ts.length -> (aS hs ts (ac e)).G (lst (Array.replicate ops.size false)) m=ac e:=by
   intro m
   induction m with
   | zero=>intro _;rfl
   | succ m ih =>
    intro hm
    simp only [Fam.G]
    rw [ih (by omega)]
    have : lst (Array.replicate ops.size false) m=false:=by simp [lst,show m < ops.size from by omega]
    rw [this];rfl
  rw [h0 _ (Nat.le_refl _)]
  exact h.grow (Bel.drew _)
end
end Go.Gv

namespace Go.Gv
open Go.RowKit
inductive cr where
 | nrm
 | ext (id : Nat)
 | ret
inductive dF where
 | skip
 | reg (draw : Bool) (hs : List Nat) (keep : List Nat) (ops : List aq)
 | seq (a b : dF)
 | cond (c : Opd) (x y : dF)
 | block (id : Nat) (c : dF)
 | loop (c : dF)
 | exit (id : Nat)
 | ret
 deriving Inhabited
def oP (keep : List Nat) (e : Env) : Env:=keep.map fun t=>(t,ac e t)
def lv (ks : Env) : List Nat:=ks.flatMap fun p=>bz p.2
def rI (e : Env) : List Nat -> Env -> Env
 | [],ks=>ks
 | r::rs,ks=>rI e rs (if (ks.map (·.1)).contains r then ks else ks++[(r,ac e r)])
def prune (keep : List Nat) (e : Env) : Env:=rI e (lv (oP keep e)) (oP keep e)
def jt (e : Env) : Env -> Prop
 | []=>True
 | (t,d)::r=>ac e t=d /\ jt e r
def wpN (C : Nat -> List D -> D -> List D -> Prop) : dF -> (cr -> Env -> Prop) -> Env -> Prop
 | .skip,Q,e=>Q .nrm e
 | .reg dr hs keep ops,Q,e=>match dr with
  | false=>gI C (fun e'=>Q .nrm (prune keep e')) ops e
  | true=>i9 C hs (fun e'=>Q .nrm (prune keep e')) ops e []
 | .seq x y,Q,e=>wpN C x (fun t e'=>match t with
  | .nrm=>wpN C y Q e'
  | t=>Q t e') e
 | .cond c x y,Q,e=>match vd (ac e) c with
  | .bool b=>(b=true -> wpN C x Q e) /\ (b=false -> wpN C y Q e)
  | .bb=>wpN C x Q e /\ wpN C y Q e
  | _=>False
 | .block id c,Q,e=>wpN C c (fun t e'=>match t with
  | .ext i=>if i=id then Q .nrm e' else Q (.ext i) e'
  | t=>Q t e') e
 | .loop c,Q,e=>∃ (S : Type) (G : S -> Env) (I : S -> Prop) (m : S -> Nat) (s0 : S),I s0 /\ jt e (G s0) /\
   ∀ s,I s -> wpN C c (fun t e'=>match t with
    | .nrm=>∃ s',I s' /\ m s' < m s /\ jt e' (G s')
    | t=>Q t e') (G s)
 | .exit id,Q,e=>Q (.ext id) e
 | .ret,Q,e=>Q .ret e
structure az where
 np : Nat
 nt : Nat
 res : List (Nat × Option (Nat × Bool))
 body : dF
 deriving Inhabited
def params : Nat -> List D -> Env
 | _,[]=>[]
 | k,d::ds=>(k,d)::params (k + 1) ds
def mc (e : Env) : Nat × Option (Nat × Bool) -> D
 | (t,none)=>dp (ac e) (ac e t)
 | (t,some (n,ag))=>match ac e t with
  | .adr p i off=>match aT (ac e) p with
   | some (_,es)=>li ag n (((es[i]?.getD []).drop off).map aR)
   | none=>.any
  | _=>.any
def uT (e : Env) : Nat × Option (Nat × Bool) -> Prop
 | (t,none)=>t < 10000 /\ bu (ac e) (ac e t)
 | (t,some (n,ag))=>t < 10000 /\ match ac e t with
  | .adr p i off=>match aT (ac e) p with
   | some (_,es)=>off + n <= (es[i]?.getD []).length
   | none=>False
  | _=>False
def fJ (rs : List (Nat × Option (Nat × Bool))) (d : D) (e : Env) : Prop :=
 (∀ r ∈ rs,uT e r) /\ match rs with
 | [r]=>mc e r=d
 | rs=>d=.tup (rs.map (mc e))
def jq (rs : List (Nat × Option (Nat × Bool))) (sz : Nat) (es : List (List D)) (e : Env) : Prop :=
 0 < sz /\ (∀ r ∈ es,∀ c ∈ r,bk c=true) /\ match rs with
 | [(t,none)]=>t < 10000 /\ match ac e t with
  | .ref (.r b) k n=>k=0 /\ n=es.length /\ ac e b=.blk sz es
  | .nils=>es=[]
  | _=>False
 | _=>False
def jp (rs : List (Nat × Option (Nat × Bool))) (d : D) (e : Env) : Prop :=
 fJ rs d (prune (rs.map (·.1)) e) /\ ∀ p ∈ prune (rs.map (·.1)) e,lI p.2 /\ (p.1 < 10000 -> isB p.2=false)
def fC (x : D) (sz : Nat) (es : List (List D)) (ds : List D) : Env:=(0,x)::(params 1 ds++[(aB,.blk sz es)])
def jr (rs : List (Nat × Option (Nat × Bool))) (sz : Nat) (es : List (List D)) (e : Env) : Prop :=
 0 < sz /\ (∀ r ∈ es,∀ c ∈ r,bk c=true) /\ match rs with
 | [(t,none)]=>t < 10000 /\ match ac e t with
  | .ref (.r b) k n=>match ac e b with
   | .blk sz' es'=>sz'=sz /\ k + n <= es'.length /\ (es'.drop k).take n=es
   | _=>False
  | .nils=>es=[]
  | _=>False
 | _=>False
def b5 (f : Nat -> D) : D -> D -> Prop
 | .ref (.r b) k n,.own sz es=>k=0 /\ n=es.length /\ f b=.blk sz es
 | .adr (.r b) i off,.blk sz es=>i=0 /\ off=0 /\ f b=.blk sz es
 | d,r=>isV d=true /\ r=d
def kP (f : Nat -> D) : List D -> List D -> Prop
 | [],[]=>True
 | d::ds,r::rs=>b5 f d r /\ kP f ds rs
 | _,_=>False
def cG : D -> List Nat
 | .ref (.r b) _ _=>[b]
 | .adr (.r b) _ _=>[b]
 | _=>[]
def pm (rs : List (Nat × Option (Nat × Bool))) (R : D) (e : Env) : Prop:=match rs with
 | [(t,none)]=>t < 10000 /\ match ac e t,R with
  | .agx ds,.agg Rs=>kP (ac e) ds Rs /\ bE (ds.flatMap cG)=true
  | .ref p k n,.own sz es=>b5 (ac e) (.ref p k n) (.own sz es)
  | .adr p k n,.blk sz es=>b5 (ac e) (.adr p k n) (.blk sz es)
  | _,_=>False
 | [(t,some (n,true))]=>t < 10000 /\ match ac e t,R with
  | .adr (.r c) i off,.agg Rs=>i=0 /\ off=0 /\ (∃ sz,ac e c=.blk sz [Rs]) /\ Rs.length=n /\ okR (.agg Rs)=true /\ (aM t (.agg Rs)).all (fun p=>p.1 != c)=true
  | _,_=>False
 | rs=>rs.length ≠ 1 /\ (∀ r ∈ rs,r.1 < 10000 /\ r.2=none) /\ match R with
  | .tup Rs=>kP (ac e) (rs.map fun r=>ac e r.1) Rs /\ bE ((rs.map fun r=>ac e r.1).flatMap cG)=true
  | _=>False
def aA (prog : Nat -> Option az) (C : Nat -> List D -> D -> List D -> Prop) : Prop :=
 (∀ g nf ds d,prog g=some nf -> ds.length=nf.np -> wpN C nf.body (fun t e=>(match t with
  | .ext _=>False
  | _=>True) /\ fJ nf.res d e) (params 0 ds) -> C g ds d []) /\ (∀ g ds d,C g ds d [] -> C g ds (pZ d) []) /\
 (∀ g nf ds sz es,prog g=some nf -> ds.length=nf.np -> wpN C nf.body (fun t e=>(match t with
  | .ext _=>False
  | _=>True) /\ jq nf.res sz es e) (params 0 ds) -> C g ds .any [.own sz es]) /\
 (∀ g nf ds d,prog g=some nf -> ds.length=nf.np -> wpN C nf.body (fun t e=>(match t with
  | .ext _=>False
  | _=>True) /\ jp nf.res d e) (params 0 ds) -> C g ds d [.nilp]) /\
 (∀ g nf ds d sz es es',prog g=some nf -> ds.length + 1=nf.np -> wpN C nf.body (fun t e=>(match t with
  | .ext _=>False
  | _=>True) /\ (0 < es'.length /\ ac e aB=.blk sz es') /\ fJ nf.res d ((aB,.any)::e)) (fC (.adr (.r aB) 0 0) sz es ds) -> C g (.blk sz es::ds) d [.blk sz es']) /\
 (∀ g nf ds sz es es',prog g=some nf -> ds.length + 1=nf.np -> (∀ d ∈ ds,isO d=false) -> 0 < sz -> wpN C nf.body (fun t e=>(match t with
  | .ext _=>False
  | _=>True) /\ jr nf.res sz es' e) (fC (.ref (.r aB) 0 es.length) sz es ds) -> C g (.own sz es::ds) .any [.own sz es',.nils,.nils]) /\
 ∀ g nf ds R,prog g=some nf -> ds.length=nf.np -> okR R=true -> wpN C nf.body (fun t e=>(match t with
  | .ext _=>False
  | _=>True) /\ pm nf.res R e) (params 0 ds) -> C g ds R [.nils]
def dj (P : Program) (F : Fid) (nt : Nat) : dF -> Code -> Bool
 | .skip,.skip=>true
 | .reg dr hs _ ns,.region _ ops dr'=>dr == dr' && pi P F nt ns ops && (!dr || pU hs ops)
 | .seq x y,.seq x' y'=>dj P F nt x x' && dj P F nt y y'
 | .cond c x y,.cond c' x' y'=>aj F c c' && dj P F nt x x' && dj P F nt y y'
 | .block i c,.block i' c'=>i == i' && dj P F nt c c'
 | .loop c,.loop c'=>dj P F nt c c'
 | .exit i,.exit i'=>i == i'
 | .ret,.ret=>true
 | _,_=>false
def fI (P : Program) : Nat × Option (Nat × Bool) -> ResultVar -> Bool
 | (t,none),.tmp t'=>t == t'
 | (t,some (n,ag)),.cell t' ty=>t == t' && tyS P ty n ag
 | _,_=>false
def fj (P : Program) (F : Fid) (fi : Nat) (nf : az) : Bool:=match P.funcs[fi]? with
 | some fn=>fn.ntmps == nf.nt && fn.params.size + fn.nfree == nf.np && decide (nf.np <= nf.nt) && decide (nf.nt <= 10000) && nf.res.length == fn.results.toList.length && ((nf.res.zip fn.results.toList).all fun p=>fI P p.1 p.2) &&
  !(fn.name == "runtime.NumGoroutine") && match fn.body with
  | some c=>dj P F nf.nt nf.body c
  | none=>false
 | none=>false
section
variable {P : Program} {F : Fid} {C : Nat -> List D -> D -> List D -> Prop} {nt : Nat} {S : Nat -> Prop} {L : Nat -> Option Loc} {w0 : World} {M0 : Mem} {f : Nat -> D} {M : Mem} {a : Act} {w : World} {Q : Exit -> Act -> World -> Prop} {ρ : Pa -> Loc} {ω : Nat -> Option Pa}
theorem uv {e : Env} {t : Nat} {d : D} (h : ac e t=d) (hd : d ≠ .any) : (t,d) ∈ e:=by
 induction e with
 | nil=>exact absurd h.symm hd
 | cons p e ih =>
  obtain ⟨s,x⟩:=p
  simp only [ac] at h
  split at h
  ·rename_i e1;subst e1;subst h;simp
  ·simp [ih h]
theorem ku {e : Env} : ∀ {e' : Env},(∀ p ∈ e',ac e p.1=p.2) -> ∀ t,ac e' t=.any \/ ac e' t=ac e t
 | [],_,t=>.inl rfl
 | (s,d)::r,h,t=>by
  simp only [ac]
  by_cases hs : s=t
  ·subst hs
   rw [if_pos rfl]
   exact .inr (h (s,d) (by simp)).symm
  ·rw [if_neg hs]
   exact ku (fun p hp=>h p (by simp [hp])) t
theorem oe {e : Env} : ∀ (rs : List Nat) (ks : Env),(∀ p ∈ ks,ac e p.1=p.2) -> ∀ p ∈ rI e rs ks,ac e p.1=p.2
 | [],ks,h=>h
 | r::rs,ks,h=>by
  refine oe rs _ ?_
  split
  ·exact h
  ·intro p hp
   rcases List.mem_append.1 hp with h1 | h1
   ·exact h p h1
   ·simp at h1;subst h1;rfl
theorem SR.prune {e : Env} (h : SR F nt S L w0 M0 (ac e) M a w) (keep : List Nat) : SR F nt S L w0 M0 (ac (prune keep e)) M a w :=
 h.weak (ku (oe _ _ (fun p hp=>by obtain ⟨t,_,rfl⟩:=List.mem_map.1 hp;rfl)))
theorem pD {e : Env} : ∀ {e' : Env},jt e e' -> ∀ p ∈ e',ac e p.1=p.2
 | [],_,p,hp=>by cases hp
 | (s,d)::r,h,p,hp=>by
  rcases List.mem_cons.1 hp with rfl | hp
  ·exact h.1
  ·exact pD h.2 p hp
theorem SR.weakL {e e' : Env} (h : SR F nt S L w0 M0 (ac e) M a w) (hw : jt e e') : SR F nt S L w0 M0 (ac e') M a w:=h.weak (ku (pD hw))
def QM (F : Fid) (nt : Nat) (S : Nat -> Prop) (L : Nat -> Option Loc) (w0 : World) (M0 : Mem) (Q : cr -> Env -> Prop) : Exit -> Act -> World -> Prop
 | .normal,a,w=>∃ e M,SR F nt S L w0 M0 (ac e) M a w /\ Q .nrm e
 | .exit id,a,w=>∃ e M,SR F nt S L w0 M0 (ac e) M a w /\ Q (.ext id) e
 | .ret,a,w=>∃ e M,SR F nt S L w0 M0 (ac e) M a w /\ Q .ret e
 | _,_,_=>False
theorem b7 (hC : bS P F C) (hL : NoL L) (hm : P.follows .mixedOrders=true) : ∀ (nc : dF) (c : Code),dj P F nt nc c=true -> ∀ (Q : cr -> Env -> Prop) (e : Env) (M : Mem) (a : Act) (w : World),
  SR F nt S L w0 M0 (ac e) M a w -> wpN C nc Q e -> c.wp P (QM F nt S L w0 M0 Q) a w
 | .skip,c,hk,Q,e,M,a,w,h,hw=>by
  cases c <;> simp only [dj,Bool.false_eq_true] at hk
  exact wp_skip ⟨e,M,h,hw⟩
 | .reg dr hs keep ns,c,hk,Q,e,M,a,w,h,hw=>by
  cases c <;> simp only [dj,Bool.false_eq_true] at hk
  rename_i id ops dr'
  simp only [Bool.and_eq_true,beq_iff_eq,Bool.or_eq_true,Bool.not_eq_true'] at hk
  obtain ⟨⟨rfl,h1⟩,h2⟩:=hk
  have hQ : ∀ e M a w,SR F nt S L w0 M0 (ac e) M a w -> Q .nrm (prune keep e) -> QM F nt S L w0 M0 Q .normal a w:=fun e M a w hs hq=>⟨_,M,hs.prune keep,hq⟩
  cases dr with
  | false=>exact pk hC hL h1 h hw hQ
  | true=>exact pj hC hL hm h1 (by simpa using h2) h hw hQ
 | .seq x y,c,hk,Q,e,M,a,w,h,hw=>by
  cases c <;> simp only [dj,Bool.false_eq_true] at hk
  rename_i x' y'
  simp only [Bool.and_eq_true] at hk
  refine wp_seq (wp_mono (b7 hC hL hm x x' hk.1 _ e M a w h hw) ?_)
  intro t a' w' hq
  cases t <;> simp only [QM,Exit.then] at hq ⊢
  ·obtain ⟨e',M',h1,h2⟩:=hq
   exact b7 hC hL hm y y' hk.2 Q e' M' a' w' h1 h2
  all_goals exact hq
 | .cond c x y,c',hk,Q,e,M,a,w,h,hw=>by
  cases c' <;> simp only [dj,Bool.false_eq_true] at hk
  rename_i c' x' y'
  simp only [Bool.and_eq_true] at hk
  simp only [wpN] at hw
  split at hw
  ·rename_i b hb
   have h1:=h.opd hk.1.1 (by rw [hb];rfl)
   rw [hb] at h1
   simp only [af] at h1
   cases b with
   | true=>exact wp_cond_true h1 (b7 hC hL hm x x' hk.1.2 Q e M a w h (hw.1 rfl))
   | false=>exact wp_cond_false h1 (b7 hC hL hm y y' hk.2 Q e M a w h (hw.2 rfl))
  ·rename_i hb
   have h1:=h.opd hk.1.1 (by rw [hb];rfl)
   rw [hb] at h1
   simp only [af] at h1
   obtain ⟨b,h1⟩:=h1
   cases b with
   | true=>exact wp_cond_true h1 (b7 hC hL hm x x' hk.1.2 Q e M a w h hw.1)
   | false=>exact wp_cond_false h1 (b7 hC hL hm y y' hk.2 Q e M a w h hw.2)
  ·exact hw.elim
 | .block i x,c,hk,Q,e,M,a,w,h,hw=>by
  cases c <;> simp only [dj,Bool.false_eq_true] at hk
  rename_i i' x'
  simp only [Bool.and_eq_true,beq_iff_eq] at hk
  obtain ⟨rfl,hk⟩:=hk
  refine wp_block (wp_mono (b7 hC hL hm x x' hk _ e M a w h hw) ?_)
  intro t a' w' hq
  cases t <;> simp only [QM,Exit.inBlock] at hq ⊢
  case exit j =>
   obtain ⟨e',M',h1,h2⟩:=hq
   split at h2
   ·rename_i hj;rw [if_pos hj];exact ⟨e',M',h1,h2⟩
   ·rename_i hj;rw [if_neg hj];exact ⟨e',M',h1,h2⟩
  all_goals exact hq
 | .loop x,c,hk,Q,e,M,a,w,h,hw=>by
  cases c <;> simp only [dj,Bool.false_eq_true] at hk
  rename_i x'
  obtain ⟨ST,G,I,m,s0,h0,hw0,hround⟩:=hw
  let lg : Act -> World -> Nat -> Prop:=fun a w n=>∃ s M,I s /\ SR F nt S L w0 M0 (ac (G s)) M a w /\ m s=n
  have hmin : ∀ a w n,lg a w n -> ∃ k,lg a w k /\ ∀ k',lg a w k' -> k <= k':=by
   intro a w n
   induction n using Nat.strongRecOn with
   | _ n ih =>
    intro hn
    by_cases hl : ∃ k,k < n /\ lg a w k
    ·obtain ⟨k,hk,hf⟩:=hl
     exact ih k hk hf
    ·exact ⟨n,hn,fun k' hk'=>Nat.le_of_not_lt fun hlt=>hl ⟨k',hlt,hk'⟩⟩
  let mu : Act -> World -> Nat:=fun a w=>Classical.epsilon fun k=>lg a w k /\ ∀ k',lg a w k' -> k <= k'
  have hmu : ∀ a w n,lg a w n -> lg a w (mu a w) /\ ∀ k',lg a w k' -> mu a w <= k':=fun a w n hn=>Classical.epsilon_spec (hmin a w n hn)
  refine wp_loop (fun a w=>∃ n,lg a w n) mu ⟨_,s0,M,h0,h.weakL hw0,rfl⟩ ?_
  rintro a w ⟨n,hn⟩
  obtain ⟨⟨s,M,hI,hs,hms⟩,_⟩:=hmu a w n hn
  refine wp_mono (b7 hC hL hm x x' hk _ (G s) M a w hs (hround s hI)) ?_
  intro t a' w' hq
  cases t <;> simp only [QM,Exit.then] at hq ⊢
  ·obtain ⟨e',M',h1,s',h2,h3,h4⟩:=hq
   have hf : lg a' w' (m s'):=⟨s',M',h2,h1.weakL h4,rfl⟩
   exact ⟨⟨_,hf⟩,Nat.lt_of_le_of_lt ((hmu a' w' _ hf).2 _ hf) (by omega)⟩
  all_goals exact hq
 | .exit i,c,hk,Q,e,M,a,w,h,hw=>by
  cases c <;> simp only [dj,Bool.false_eq_true] at hk
  rename_i i'
  simp only [beq_iff_eq] at hk
  subst hk
  exact wp_exit ⟨e,M,h,hw⟩
 | .ret,c,hk,Q,e,M,a,w,h,hw=>by
  cases c <;> simp only [dj,Bool.false_eq_true] at hk
  exact wp_ret ⟨e,M,h,hw⟩
theorem fD : ∀ (ds : List D) (k t : Nat),ac (params k ds) t=if k <= t then (ds[t - k]?).getD .any else .any
 | [],k,t=>by simp [params,ac]
 | d::ds,k,t=>by
  simp only [params,ac]
  by_cases h : k=t
  ·subst h;simp
  ·rw [if_neg h,fD ds (k + 1) t]
   by_cases hk : k <= t
   ·rw [if_pos hk,if_pos (by omega)]
    rw [show t - k=(t - (k + 1)) + 1 from by omega]
    simp
   ·rw [if_neg hk,if_neg (by omega)]
theorem jP {ds : List D} {vs : List Value} (r : ap F M ds vs) (hh : ∀ p v,M p=some v -> w.cell? p=some v) (hl : ds.length <= nt) (hnt : nt <= 10000) :
  SR F nt (fun _=>False) (fun _=>none) w M (ac (params 0 ds)) M { tmps:=vs.toArray++Array.replicate (nt - vs.toArray.size) undef,defers:=[] } w where
 hnt:=hnt
 size:=by have:=r.length;simp;omega
 defers:=rfl
 ch:=Ch.refl _ _
 holds:=hh
 ext:=Mem.le_refl _
 fresh p h1 h2:=absurd h1 h2
 own:=by
  have big : ∀ b,10000 <= b -> ac (params 0 ds) b=.any:=fun b hb=>by
   rw [fD]
   simp [List.getElem?_eq_none (show ds.length <= b by omega)]
  refine ⟨fun _=>default,fun _=>none,⟨fun t _=>?_,fun b sz es hb e=>?_,fun b kt et ks vs hb e=>?_,fun k p e=>(by cases e),fun k p e=>(by cases e),fun p q e=>(by cases e),fun b l _ e=>(by cases e)⟩⟩
  ·by_cases ht : t < ds.length
   ·have hd : ac (params 0 ds) t=ds[t]:=by rw [fD];simp [ht]
    obtain ⟨v,hv,rv⟩:=r.get (List.getElem?_eq_getElem ht)
    refine .inr ⟨v,?_,by rw [hd];exact bg.of_pure rv⟩
    have : t < vs.length:=by rw [r.length];exact ht
    simp only [Array.getElem?_append,List.size_toArray,this,if_true,List.getElem?_toArray]
    exact hv
   ·exact .inl (by rw [fD];simp [ht])
  ·rw [big b hb] at e;cases e
  ·rw [big b hb] at e;cases e
theorem fK {e : Env} (h : SR F nt S L w0 M0 (ac e) M a w) (hO : Own F L (mt S w0) (ac e) M a w ρ ω) (g : ResultVar -> Sem Value) (hg1 : ∀ t,g (.tmp t)=pure (a.tmps.getD t undef)) (hg2 : ∀ x t,g (.cell x t)=(do loadVar t (<- asAddr (a.tmps.getD x undef)))) :
  ∀ (rs : List (Nat × Option (Nat × Bool))) (rvs : List ResultVar),rs.length=rvs.length -> (∀ p ∈ rs.zip rvs,fI P p.1 p.2=true) -> (∀ r ∈ rs,uT e r) ->
  ∃ vs : List Value,(rvs.mapM g).run P w=.ok vs w /\ ap F (a8 ω M w) (rs.map (mc e)) vs
 | [],[],_,_,_=>⟨[],rfl,by simp [ap]⟩
 | r::rs,rv::rvs,hl,hk,hv=>by
  obtain ⟨vs,h1,h2⟩:=fK h hO g hg1 hg2 rs rvs (by simpa using hl) (fun p hp=>hk p (by simp [hp])) (fun r hr=>hv r (by simp [hr]))
  have hr:=hk (r,rv) (by simp)
  have hvr:=hv r (by simp)
  have one : ∃ v,(g rv).run P w=.ok v w /\ af F (a8 ω M w) (mc e r) v:=by
   unfold fI at hr
   split at hr
   ·rename_i t t' e1 e2
    simp only [beq_iff_eq] at hr
    subst hr
    simp only at e1
    subst e1
    simp only at e2
    rw [e2,hg1]
    refine ⟨_,rfl,?_⟩
    simp only [uT] at hvr
    have:=hO.opd (x:=.t t) (y:=.tmp t) (by simp [aj,hvr.1])
    simp only [vd] at this
    exact tL hO this hvr.2
   ·rename_i t n ag t' ty e1 e2
    simp only [Bool.and_eq_true,beq_iff_eq] at hr
    obtain ⟨rfl,hty⟩:=hr
    simp only at e1
    subst e1
    simp only [uT] at hvr
    obtain ⟨ht,hvr⟩:=hvr
    split at hvr
    ·rename_i p i off ex
     split at hvr
     ·rename_i sz es hg
      have hx:=hO.opd (x:=.t t) (y:=.tmp t) (by simp [aj,ht])
      simp only [vd] at hx
      rw [ex,am rfl] at hx
      simp only [av] at hx
      have hpos : 0 < n \/ n=0:=by omega
      cases hi : es[i]? with
      | none =>
       rw [hi] at hvr
       simp at hvr
       obtain ⟨rfl,rfl⟩:=hvr
       cases ag with
       | false=>have:=gH hty;omega
       | true =>
        refine ⟨.agg #[],?_,?_⟩
        ·have:=c9 (P:=P) (w:=w) hty (a:=⟨(ρ p).blk,(ρ p).base + i * (ρ p).sz + 0,none⟩) (vs:=[]) (by simp) (by simp)
         simp only [Instr.loadAt,Instr.sureAddr,Sem.run_bind,Sem.run_pure,Result.andThen_ok] at this
         simp only at e2
         have ea : a.tmps.getD t undef=a.eval (.tmp t):=rfl
         rw [e2,hg2,ea,hx]
         simp only [asAddr,Sem.run_bind,Sem.run_pure,Result.andThen_ok,this]
         simp
        ·simp [mc,ex,hg,hi,li,af,ap]
      | some r =>
       rw [hi] at hvr
       simp only [Option.getD_some] at hvr
       obtain ⟨us,T,hω,h0,hl,g1,g2,g3,g4⟩:=hO.row (bV hO hg) hg hi
       rw [h0] at hx
       refine ⟨if ag then .agg ((us.drop ((ρ p).base + i * sz + off)).take n).toArray else (us.drop ((ρ p).base + i * sz + off)).headD undef,?_,?_⟩
       ·have:=c9 (P:=P) (w:=w) hty (a:=⟨(ρ p).blk,(ρ p).base + i * sz + off,none⟩) (vs:=us.drop ((ρ p).base + i * sz + off)) (fun j v hj=>by
         rw [cB]
         rw [List.getElem?_drop] at hj
         simp [World.cell?,g1,hj]) (by simp;omega)
        simp only [Instr.loadAt,Instr.sureAddr,Sem.run_bind,Sem.run_pure,Result.andThen_ok] at this
        simp only at e2
        have ea : a.tmps.getD t undef=a.eval (.tmp t):=rfl
        rw [e2,hg2,ea,hx]
        simp only [asAddr,Sem.run_bind,Sem.run_pure,Result.andThen_ok,this]
       ·simp only [mc,ex,hg,hi,Option.getD_some]
        have hrl : ap F (a8 ω M w) ((r.drop off).map aR) ((us.drop ((ρ p).base + i * sz + off)).take (sz - off)):=ap.of_forall' (by simp;omega) (fun j d v e1 e3=>by
         rw [List.getElem?_map,Option.map_eq_some_iff] at e1
         obtain ⟨d',e1,rfl⟩:=e1
         rw [List.getElem?_drop] at e1
         obtain ⟨u,k1,k2⟩:=g4 _ _ e1
         rw [List.getElem?_take] at e3
         split at e3
         ·rw [List.getElem?_drop,Nat.add_assoc] at e3
          rw [k1] at e3;cases e3
          exact j4 hO k2
         ·cases e3)
        have hpk:=jI hrl ag n
        cases ag with
        | true =>
         simp only [if_true] at hpk ⊢
         rw [List.take_take,Nat.min_eq_left (by omega)] at hpk
         exact hpk
        | false =>
         have:=gH hty
         simp only [Bool.false_eq_true,if_false] at hpk ⊢
         have e3 : ((us.drop ((ρ p).base + i * sz + off)).take (sz - off)).headD undef=(us.drop ((ρ p).base + i * sz + off)).headD undef:=by
          cases us.drop ((ρ p).base + i * sz + off) with
          | nil=>simp
          | cons x xs =>
           rw [show sz - off=(sz - off - 1) + 1 from by omega]
           simp
         rw [e3] at hpk
         exact hpk
     ·exact hvr.elim
    ·exact hvr.elim
   ·cases hr
  obtain ⟨v,h3,h4⟩:=one
  refine ⟨v::vs,by simp [List.mapM_cons,h3,h1],?_⟩
  simp only [List.map_cons,ap]
  exact ⟨v,vs,rfl,h4,h2⟩
theorem sd (hC : bS P F C) (hm : P.follows .mixedOrders=true) {fi : Nat} {nf : az} (hk : fj P F fi nf=true) {ds : List D} {d : D} (hl : ds.length=nf.np)
  (hw : wpN C nf.body (fun t e=>(match t with
   | .ext _=>False
   | _=>True) /\ fJ nf.res d e) (params 0 ds)) : s8 P F fi ds d:=by
 intro M w vs hh r
 unfold fj at hk
 split at hk
 ·rename_i fn hfn
  simp only [Bool.and_eq_true,beq_iff_eq,List.all_eq_true,decide_eq_true_eq,Bool.not_eq_true'] at hk
  obtain ⟨⟨⟨⟨⟨⟨⟨h1,h2⟩,h3⟩,h3'⟩,h4⟩,h5⟩,h6⟩,h7⟩:=hk
  split at h7
  ·rename_i c hc
   have hs:=jP (nt:=nf.nt) r hh (by omega) h3'
   have hwp:=b7 hC (fun _ _ _=>rfl) hm nf.body c h7 _ _ M _ w hs hw
   refine calls_of_wp hfn hc ?_
   rw [h1]
   refine wp_mono hwp ?_
   have fin : ∀ (a' : Act) (w' : World),(∃ e M',SR F nf.nt (fun _=>False) (fun _=>none) w M (ac e) M' a' w' /\ fJ nf.res d e) -> a'.defers=[] /\ ∃ v,(results fn a'.tmps).run P w'=.ok v w' /\
     (∃ v' M',Ending.returned v=.returned v' /\ Bel w w' /\ M.le M' /\ (∀ p,M p=none -> M' p ≠ none -> w.heap.size <= p.block) /\ (∀ p v,M' p=some v -> w'.cell? p=some v) /\ af F M' d v'):=by
    rintro a' w' ⟨e,M',hs',hr1,hr2⟩
    refine ⟨hs'.defers,?_⟩
    obtain ⟨ρ,ω,hO⟩:=hs'.own
    obtain ⟨us,k1,k2⟩:=fK (P:=P) hs' hO (fun
     | .tmp t=>pure (a'.tmps.getD t undef)
     | .cell x t=>do loadVar t (<- asAddr (a'.tmps.getD x undef))) (fun _=>rfl) (fun _ _=>rfl) nf.res fn.results.toList h4 h5 hr1
    have hrun : (results fn a'.tmps).run P w'=.ok (if h : us.toArray.size=1 then us.toArray[0] else .tuple us.toArray) w':=by
     unfold results
     rw [Sem.run_bind,Array.mapM_eq_mapM_toList]
     have k1' : ((fn.results.toList.mapM fun
      | .tmp t=>pure (a'.tmps.getD t undef)
      | .cell x t=>do loadVar t (<- asAddr (a'.tmps.getD x undef)) : Sem (List Value))).run P w'=.ok us w':=k1
     simp only [Sem.run_map]
     erw [k1']
     rfl
    refine ⟨_,hrun,_,a8 ω M' w',rfl,hs'.ch.below (fun _ _ h=>h),Mem.le_trans hs'.ext (ca hO),fun p hp hq=>?_,bN hs'.holds,?_⟩
    ·unfold a8 at hq
     split at hq
     ·rename_i q hq'
      rcases hO.new _ _ hq' with h | h
      ·exact h.elim
      ·exact h
     ·exact (hs'.fresh p hp hq).elim False.elim id
    have hlen:=k2.length
    simp only [List.length_map] at hlen
    split at hr2
    ·rename_i r1 hres
     rw [hres] at k2 hlen
     simp only [List.map_cons,List.map_nil,ap] at k2
     obtain ⟨v,r',rfl,k3,rfl⟩:=k2
     rw [<- hr2]
     simpa using k3
    ·rename_i hne
     have : ¬ us.toArray.size=1:=by
      intro h'
      have : nf.res.length=1:=by rw [<- hlen];simpa using h'
      match hq : nf.res,this with
      | [x],_=>exact hne x hq
     rw [dif_neg this,hr2]
     simp only [af]
     exact ⟨us,rfl,k2⟩
   intro t a' w' hq
   cases t <;> simp only [QM] at hq
   ·obtain ⟨e,M',q1,_,q2⟩:=hq
    exact fin a' w' ⟨e,M',q1,q2⟩
   ·obtain ⟨e,M',q1,q2,_⟩:=hq
    exact q2.elim
   ·obtain ⟨e,M',q1,_,q2⟩:=hq
    exact fin a' w' ⟨e,M',q1,q2⟩
  ·cases h7
 ·cases hk
theorem qb (hC : bS P F C) (hm : P.follows .mixedOrders=true) {fi : Nat} {nf : az} (hk : fj P F fi nf=true) {ds : List D} {d : D} (hl : ds.length=nf.np)
  (hw : wpN C nf.body (fun t e=>(match t with
   | .ext _=>False
   | _=>True) /\ jp nf.res d e) (params 0 ds)) : ta P F fi ds d:=by
 intro M w vs hh r
 unfold fj at hk
 split at hk
 ·rename_i fn hfn
  simp only [Bool.and_eq_true,beq_iff_eq,List.all_eq_true,decide_eq_true_eq,Bool.not_eq_true'] at hk
  obtain ⟨⟨⟨⟨⟨⟨⟨h1,h2⟩,h3⟩,h3'⟩,h4⟩,h5⟩,h6⟩,h7⟩:=hk
  split at h7
  ·rename_i c hc
   have hs:=jP (nt:=nf.nt) r hh (by omega) h3'
   have hwp:=b7 hC (fun _ _ _=>rfl) hm nf.body c h7 _ _ M _ w hs hw
   refine calls_of_wp hfn hc ?_
   rw [h1]
   refine wp_mono hwp ?_
   have fin : ∀ (a' : Act) (w' : World),(∃ e M',SR F nf.nt (fun _=>False) (fun _=>none) w M (ac e) M' a' w' /\ jp nf.res d e) -> a'.defers=[] /\ ∃ v,(results fn a'.tmps).run P w'=.ok v w' /\
     (∃ v' M2,Ending.returned v=.returned v' /\ Bel w w' /\ (∀ p,M2 p ≠ none -> w.heap.size <= p.block) /\ (∀ p v,M2 p=some v -> w'.cell? p=some v) /\ af F M2 d v'):=by
    rintro a' w' ⟨e0,M1,hs0,⟨hr1,hr2⟩,hfl⟩
    obtain ⟨e,he⟩ : ∃ e,e=prune (nf.res.map (·.1)) e0:=⟨_,rfl⟩
    rw [<- he] at hr1 hr2 hfl
    have hlk : ∀ t,ac e t=.any \/ (t,ac e t) ∈ e:=fun t=>by
     by_cases h : ac e t=.any
     ·exact .inl h
     ·exact .inr (uv rfl h)
    have hs1 : SR F nf.nt (fun _=>False) (fun _=>none) w M (ac e) M1 a' w':=by rw [he];exact hs0.prune _
    have hs':=hs1.flat (fun t=>by
     rcases hlk t with h | h
     ·rw [h];trivial
     ·exact (hfl _ h).1) (fun t ht=>by
     rcases hlk t with h | h
     ·rw [h];rfl
     ·exact (hfl _ h).2 ht)
    refine ⟨hs'.defers,?_⟩
    obtain ⟨ρ,ω,hO⟩:=hs'.own
    obtain ⟨us,k1,k2⟩:=fK (P:=P) hs' hO (fun
     | .tmp t=>pure (a'.tmps.getD t undef)
     | .cell x t=>do loadVar t (<- asAddr (a'.tmps.getD x undef))) (fun _=>rfl) (fun _ _=>rfl) nf.res fn.results.toList h4 h5 hr1
    have hrun : (results fn a'.tmps).run P w'=.ok (if h : us.toArray.size=1 then us.toArray[0] else .tuple us.toArray) w':=by
     unfold results
     rw [Sem.run_bind,Array.mapM_eq_mapM_toList]
     have k1' : ((fn.results.toList.mapM fun
      | .tmp t=>pure (a'.tmps.getD t undef)
      | .cell x t=>do loadVar t (<- asAddr (a'.tmps.getD x undef)) : Sem (List Value))).run P w'=.ok us w':=k1
     simp only [Sem.run_map]
     erw [k1']
     rfl
    refine ⟨_,hrun,_,a8 ω (fun _=>none) w',rfl,hs'.ch.below (fun _ _ h=>h),fun p hq=>?_,bN hs'.holds,?_⟩
    ·unfold a8 at hq
     split at hq
     ·rename_i q hq'
      rcases hO.new _ _ hq' with h | h
      ·exact h.elim
      ·exact h
     ·exact absurd rfl hq
    have hlen:=k2.length
    simp only [List.length_map] at hlen
    split at hr2
    ·rename_i r1 hres
     rw [hres] at k2 hlen
     simp only [List.map_cons,List.map_nil,ap] at k2
     obtain ⟨v,r',rfl,k3,rfl⟩:=k2
     rw [<- hr2]
     simpa using k3
    ·rename_i hne
     have : ¬ us.toArray.size=1:=by
      intro h'
      have : nf.res.length=1:=by rw [<- hlen];simpa using h'
      match hq : nf.res,this with
      | [x],_=>exact hne x hq
     rw [dif_neg this,hr2]
     simp only [af]
     exact ⟨us,rfl,k2⟩
   intro t a' w' hq
   cases t <;> simp only [QM] at hq
   ·obtain ⟨e,M',q1,_,q2⟩:=hq
    exact fin a' w' ⟨e,M',q1,q2⟩
   ·obtain ⟨e,M',q1,q2,_⟩:=hq
    exact q2.elim
   ·obtain ⟨e,M',q1,_,q2⟩:=hq
    exact fin a' w' ⟨e,M',q1,q2⟩
  ·cases h7
 ·cases hk
theorem qa (hC : bS P F C) (hm : P.follows .mixedOrders=true) {fi : Nat} {nf : az} (hk : fj P F fi nf=true) {ds : List D} {sz : Nat} {es : List (List D)} (hl : ds.length=nf.np)
  (hw : wpN C nf.body (fun t e=>(match t with
   | .ext _=>False
   | _=>True) /\ jq nf.res sz es e) (params 0 ds)) : s9 P F fi ds sz es:=by
 intro M w vs hh r
 unfold fj at hk
 split at hk
 ·rename_i fn hfn
  simp only [Bool.and_eq_true,beq_iff_eq,List.all_eq_true,decide_eq_true_eq,Bool.not_eq_true'] at hk
  obtain ⟨⟨⟨⟨⟨⟨⟨h1,h2⟩,h3⟩,h3'⟩,h4⟩,h5⟩,h6⟩,h7⟩:=hk
  split at h7
  ·rename_i c hc
   have hs:=jP (nt:=nf.nt) r hh (by omega) h3'
   have hwp:=b7 hC (fun _ _ _=>rfl) hm nf.body c h7 _ _ M _ w hs hw
   refine calls_of_wp hfn hc ?_
   rw [h1]
   refine wp_mono hwp ?_
   have fin : ∀ (a' : Act) (w' : World),(∃ e M',SR F nf.nt (fun _=>False) (fun _=>none) w M (ac e) M' a' w' /\ jq nf.res sz es e) -> a'.defers=[] /\ ∃ v,(results fn a'.tmps).run P w'=.ok v w' /\
     ((es=[] /\ 0 < sz /\ ∃ A : Option Addr,Ending.returned v=.returned (.slice A 0 0) /\ Bel w w') \/ ∃ (b o : Nat) (T : TypeId) (us : List Value) (cap : Nat),Ending.returned v=.returned (.slice (some ⟨b,o,none⟩) es.length cap) /\ Bel w w' /\ w.heap.size <= b /\
      w'.heap[b]? = some (.cells us.toArray T (0,0)) /\ es.length <= cap /\ (o + cap * sz <= us.length /\ cap <= 9223372036854775807) /\ (∀ e ∈ es,e.length=sz) /\
      ∀ i r off d,es[i]? = some r -> r[off]? = some d -> bk d=true /\ ∃ u,us[o + i * sz + off]? = some u /\ af F M d u):=by
    rintro a' w' ⟨e,M',hs',hsz0,hflat,hr⟩
    refine ⟨hs'.defers,?_⟩
    obtain ⟨ρ,ω,hO⟩:=hs'.own
    split at hr
    ·rename_i t hres
     obtain ⟨ht,hr⟩:=hr
     have hrun : (results fn a'.tmps).run P w'=.ok (a'.tmps.getD t undef) w':=by
      rw [hres] at h4 h5
      obtain ⟨rv,hrv⟩ : ∃ rv,fn.results.toList=[rv]:=by
       match hq : fn.results.toList,h4 with
       | [x],_=>exact ⟨x,rfl⟩
      have hok:=h5 ((t,none),rv) (by rw [hrv];simp)
      unfold results
      rw [Sem.run_bind,Array.mapM_eq_mapM_toList]
      simp only [Sem.run_map]
      rw [hrv]
      cases rv with
      | tmp t' =>
       simp only [fI,beq_iff_eq] at hok
       subst hok
       rfl
      | cell t' ty=>simp [fI] at hok
     have hev : a'.tmps.getD t undef=a'.eval (.tmp t):=rfl
     have hx:=hO.opd (x:=.t t) (y:=.tmp t) (by simp [aj,ht])
     simp only [vd] at hx
     split at hr
     ·rename_i b k n hlk
      obtain ⟨rfl,rfl,hb⟩:=hr
      rw [hlk,am rfl] at hx
      simp only [av] at hx
      have hrow:=hO.roots b sz es (hO.big hb) hb
      unfold bY at hrow
      refine ⟨_,hrun,?_⟩
      rcases hx with ⟨h0,A,hv⟩ | ⟨cap,hv,hcap,hcl,hmc⟩
      ·exact .inl ⟨List.eq_nil_of_length_eq_zero h0,hsz0,A,by rw [hev,hv],hs'.ch.below (fun _ _ h=>h)⟩
      rcases hrow with hrow | ⟨hω,hrows⟩
      ·obtain ⟨v1,v2,v3,v4⟩:=hrow
       have hc0 : cap=0:=by
        rw [v2,v3] at hcl
        simp only [Nat.zero_add] at hcl
        rcases Nat.eq_zero_or_pos cap with h | h
        ·exact h
        ·have:=Nat.mul_pos h v4;omega
       subst hc0
       have hl0 : es.length=0:=by rw [v1];rfl
       exact .inl ⟨v1,hsz0,_,by rw [hev,hv,hl0],hs'.ch.below (fun _ _ h=>h)⟩
      obtain ⟨hsz,us,T,g1,g2,g3,g4,g5⟩:=hrows
      refine .inr ⟨(ρ (.r b)).blk,(ρ (.r b)).base,T,us,cap,?_,hs'.ch.below (fun _ _ h=>h),?_,g1,hcap,⟨?_,hmc⟩,g4,fun i r off d e1 e2=>?_⟩
      ·rw [hev,hv]
       simp
      ·rcases hO.new _ _ hω with h | h
       ·exact h.elim
       ·exact h
      ·rw [g2,<- hsz]
       simpa using hcl
      ·obtain ⟨u,k1,k2⟩:=g5 i r off d e1 e2
       have hf1:=hflat r (List.mem_of_getElem? e1) d (List.mem_of_getElem? e2)
       rw [aV (dQ hf1)] at k2
       exact ⟨hf1,u,k1,fb hf1 k2⟩
     ·rename_i hlk
      rw [hlk,am rfl] at hx
      simp only [av,af] at hx
      exact ⟨_,hrun,.inl ⟨hr,hsz0,none,by rw [hev,hx],hs'.ch.below (fun _ _ h=>h)⟩⟩
     ·exact hr.elim
    ·exact hr.elim
   intro t a' w' hq
   cases t <;> simp only [QM] at hq
   ·obtain ⟨e,M',q1,_,q2⟩:=hq
    exact fin a' w' ⟨e,M',q1,q2⟩
   ·obtain ⟨e,M',q1,q2,_⟩:=hq
    exact q2.elim
   ·obtain ⟨e,M',q1,_,q2⟩:=hq
    exact fin a' w' ⟨e,M',q1,q2⟩
  ·cases h7
 ·cases hk
theorem sk {x : D} {sz : Nat} {es : List (List D)} : ∀ {ds : List D} {t : Nat},ds.length < 10000 -> ac (fC x sz es ds) t=if t=0 then x else if t=aB then .blk sz es else (ds[t - 1]?).getD .any:=by
 intro ds t hl
 have key : ∀ (ds : List D) (k : Nat),k + ds.length <= 10000 -> ac (params k ds++[(aB,.blk sz es)]) t=if t=aB then .blk sz es else if k <= t then (ds[t - k]?).getD .any else .any:=by
  intro ds
  induction ds with
  | nil =>
   intro k _
   simp only [params,List.nil_append,ac]
   by_cases h : aB=t
   ·rw [if_pos h,if_pos h.symm]
   ·rw [if_neg h,if_neg (Ne.symm h)];simp
  | cons d ds ih =>
   intro k hk
   simp only [List.length_cons] at hk
   simp only [params,List.cons_append,ac]
   by_cases h : k=t
   ·subst h
    rw [if_pos rfl,if_neg (by unfold aB;omega)]
    simp
   ·rw [if_neg h,ih (k + 1) (by omega)]
    by_cases h2 : t=aB
    ·rw [if_pos h2,if_pos h2]
    ·rw [if_neg h2,if_neg h2]
     by_cases h3 : k <= t
     ·rw [if_pos h3,if_pos (by omega),show t - k=(t - (k + 1)) + 1 from by omega]
      simp
     ·rw [if_neg h3,if_neg (by omega)]
 unfold fC
 simp only [ac]
 by_cases h : t=0
 ·subst h;rw [if_pos rfl,if_pos rfl]
 ·rw [if_neg (Ne.symm h),if_neg h,key ds 1 (by omega)]
  by_cases h2 : t=aB
  ·rw [if_pos h2,if_pos h2]
  ·rw [if_neg h2,if_neg h2,if_pos (by omega)]
theorem ml {x : D} {v0 : Value} {sz : Nat} {es : List (List D)} {ds : List D} {vs : List Value} (r : ap F M ds vs) (hh : ∀ p v,M p=some v -> w.cell? p=some v) (hl : ds.length + 1 <= nt) (hnt : nt <= 10000)
  (hv0 : bg F M ρ x v0) (hroot : dw F M ω ρ w aB sz es) (hlt : ∀ k p,ω k=some p -> k < w.heap.size) (hap : ∀ (p : Addr) (q : Pa),ω p.block=some q -> M p=none) (hS : ∀ k p,ω k=some p -> S k) (hLt : ∀ b l,L b=some l -> b=aB /\ l=ρ (.r aB)) :
  SR F nt S L w M (ac (fC x sz es ds)) M { tmps:=(v0::vs).toArray++Array.replicate (nt - (v0::vs).toArray.size) undef,defers:=[] } w where
 hnt:=hnt
 size:=by have:=r.length;simp;omega
 defers:=rfl
 ch:=Ch.refl _ _
 holds:=hh
 ext:=Mem.le_refl _
 fresh p h1 h2:=absurd h1 h2
 own:=by
  have lk:=fun t=>sk (x:=x) (sz:=sz) (es:=es) (ds:=ds) (t:=t) (by omega)
  have big : ∀ b,10000 <= b -> b ≠ aB -> ac (fC x sz es ds) b=.any:=fun b hb hne=>by
   rw [lk,if_neg (by omega),if_neg hne]
   simp [List.getElem?_eq_none (show ds.length <= b - 1 by omega)]
  refine ⟨ρ,ω,⟨fun t ht=>?_,fun b sz' es' hb e=>?_,fun b kt et ks vs hb e=>?_,hlt,fun k p e=>.inl (hS k p e),hap,fun b l hb e _=>by obtain ⟨rfl,rfl⟩:=hLt b l e;rfl⟩⟩
  ·unfold rG
   rw [lk]
   by_cases h0 : t=0
   ·subst h0
    rw [if_pos rfl]
    exact .inr ⟨v0,by simp [Array.getElem?_append],hv0⟩
   ·rw [if_neg h0,if_neg (by unfold aB;omega)]
    by_cases ht2 : t - 1 < ds.length
    ·obtain ⟨v,hv,rv⟩:=r.get (List.getElem?_eq_getElem ht2)
     refine .inr ⟨v,?_,by rw [List.getElem?_eq_getElem ht2];exact bg.of_pure rv⟩
     have h3 : t < (v0::vs).length:=by have:=r.length;simp;omega
     simp only [Array.getElem?_append,List.size_toArray,h3,if_true,List.getElem?_toArray]
     rw [show t=(t - 1) + 1 from by omega,List.getElem?_cons_succ]
     simpa using hv
    ·exact .inl (by rw [List.getElem?_eq_none (by omega)];rfl)
  ·by_cases e1 : b=aB
   ·subst e1
    rw [lk,if_neg (by unfold aB;omega),if_pos rfl] at e
    cases e
    exact hroot
   ·rw [big b hb e1] at e;cases e
  ·by_cases e1 : b=aB
   ·subst e1
    rw [lk,if_neg (by unfold aB;omega),if_pos rfl] at e
    cases e
   ·rw [big b hb e1] at e;cases e
theorem xD (t i : Nat) (hi : i < 15) : rt t i ≠ aB:=by unfold rt aB;omega
theorem qd (hC : bS P F C) (hm : P.follows .mixedOrders=true) {fi : Nat} {nf : az} (hk : fj P F fi nf=true) {ds : List D} {d : D} {sz : Nat} {es es' : List (List D)} (hl : ds.length + 1=nf.np)
  (hw : wpN C nf.body (fun t e=>(match t with
   | .ext _=>False
   | _=>True) /\ (0 < es'.length /\ ac e aB=.blk sz es') /\ fJ nf.res d ((aB,.any)::e)) (fC (.adr (.r aB) 0 0) sz es ds)) : tc P F fi sz es ds d es':=by
 intro M w vs ρ0 ω0 hh r hlent
 unfold fj at hk
 split at hk
 ·rename_i fn hfn
  simp only [Bool.and_eq_true,beq_iff_eq,List.all_eq_true,decide_eq_true_eq,Bool.not_eq_true'] at hk
  obtain ⟨⟨⟨⟨⟨⟨⟨h1,h2⟩,h3⟩,h3'⟩,h4⟩,h5⟩,h6⟩,h7⟩:=hk
  split at h7
  ·rename_i c hc
   obtain ⟨S,hS⟩ : ∃ S : Nat -> Prop,S=fun k=>∃ p,ω0 k=some p:=⟨_,rfl⟩
   obtain ⟨L,hL⟩ : ∃ L : Nat -> Option Loc,L=fun b=>if b=aB then some (ρ0 (.r aB)) else none:=⟨_,rfl⟩
   have hs:=ml (nt:=nf.nt) (S:=S) (L:=L) (x:=.adr (.r aB) 0 0) (v0:=.pointer (some ⟨(ρ0 (.r aB)).blk,(ρ0 (.r aB)).base,none⟩)) r hh (by omega) h3' (by rw [am rfl];simp [av]) hlent.rows hlent.lt hlent.apart (fun k p e=>by rw [hS];exact ⟨p,e⟩) (fun b l e=>by
    rw [hL] at e
    simp only at e
    split at e
    ·rename_i h;cases e;exact ⟨h,rfl⟩
    ·cases e)
   have hwp:=b7 hC (fun t i hi=>by rw [hL];simp only [if_neg (xD t i hi)]) hm nf.body c h7 _ _ M _ w hs hw
   refine calls_of_wp hfn hc ?_
   rw [h1]
   refine wp_mono hwp ?_
   have fin : ∀ (a' : Act) (w' : World),(∃ e M',SR F nf.nt S L w M (ac e) M' a' w' /\ (0 < es'.length /\ ac e aB=.blk sz es') /\ fJ nf.res d ((aB,.any)::e)) -> a'.defers=[] /\ ∃ v,(results fn a'.tmps).run P w'=.ok v w' /\
     (∃ v' M' ρ' ω',Ending.returned v=.returned v' /\ Ch (fun k=>∃ p,ω0 k=some p) w w' /\ M.le M' /\ (∀ p,M p=none -> M' p ≠ none -> (∃ q,ω0 p.block=some q) \/ w.heap.size <= p.block) /\ (∀ p v,M' p=some v -> w'.cell? p=some v) /\ af F M' d v' /\ ρ' (.r aB)=ρ0 (.r aB) /\ sZ F M' w' ρ' ω' aB sz es' /\ ∀ k p,ω' k=some p -> (∃ q,ω0 k=some q) \/ w.heap.size <= k):=by
    rintro a' w' ⟨e,M',hs',⟨hpos,hlk⟩,hr1,hr2⟩
    refine ⟨hs'.defers,?_⟩
    obtain ⟨ρ,ω,hO⟩:=hs'.own
    have hbig : 10000 <= aB:=by unfold aB;omega
    have hfE : ac ((aB,.any)::e)=fbE (ac e) aB:=by
     funext t
     unfold fbE
     simp only [ac]
     by_cases h : t=aB
     ·rw [if_pos h,if_pos h.symm]
     ·rw [if_neg h,if_neg (Ne.symm h)]
    have hE : Own F L (mt S w) (ac ((aB,.any)::e)) M' a' w' ρ (fX ω aB):=by
     rw [hfE];exact hO.erase hbig
    have hs2 : SR F nf.nt S L w M (ac ((aB,.any)::e)) M' a' w':=⟨hs'.hnt,hs'.size,hs'.defers,hs'.ch,hs'.holds,hs'.ext,hs'.fresh,ρ,fX ω aB,hE⟩
    obtain ⟨us,k1,k2⟩:=fK (P:=P) hs2 hE (fun
     | .tmp t=>pure (a'.tmps.getD t undef)
     | .cell x t=>do loadVar t (<- asAddr (a'.tmps.getD x undef))) (fun _=>rfl) (fun _ _=>rfl) nf.res fn.results.toList h4 h5 hr1
    have hrun : (results fn a'.tmps).run P w'=.ok (if h : us.toArray.size=1 then us.toArray[0] else .tuple us.toArray) w':=by
     unfold results
     rw [Sem.run_bind,Array.mapM_eq_mapM_toList]
     have k1' : ((fn.results.toList.mapM fun
      | .tmp t=>pure (a'.tmps.getD t undef)
      | .cell x t=>do loadVar t (<- asAddr (a'.tmps.getD x undef)) : Sem (List Value))).run P w'=.ok us w':=k1
     simp only [Sem.run_map]
     erw [k1']
     rfl
    have hroot:=hO.roots aB sz es' hbig hlk
    have hρ : ρ (.r aB)=ρ0 (.r aB):=hO.lent aB _ hbig (by rw [hL];simp) (by rw [hlk];rfl)
    have hω : ω (ρ (.r aB)).blk=some (.r aB):=by
     rcases hroot with ⟨e0,_⟩ | ⟨hω,_⟩
     ·rw [e0] at hpos;simp at hpos
     ·exact hω
    have hle : M'.le (a8 (fX ω aB) M' w'):=ca hE
    have hnew : ∀ k p,ω k=some p -> (∃ q,ω0 k=some q) \/ w.heap.size <= k:=fun k p e=>by
     have h8:=hO.new k p e
     rwa [hS] at h8
    refine ⟨_,hrun,_,a8 (fX ω aB) M' w',ρ,cZ ω aB,rfl,by rw [<- hS];exact hs'.ch,Mem.le_trans hs'.ext hle,fun p hp hq=>?_,bN hs'.holds,?_,hρ,⟨lW hω rfl,dw.frame hroot hle (fun p hp=>⟨rfl,fun e=>⟨lW e hp,rfl⟩⟩),fun k p e=>hO.lt k p (cK e).1,fun k p e=>(cK e).2,fun p q e=>?_⟩,fun k p e=>hnew k p (cK e).1⟩
    ·unfold a8 at hq
     split at hq
     ·rename_i q hq'
      exact hnew _ _ (dY hq').1
     ·have h8:=hs'.fresh p hp hq
      rwa [hS] at h8
    ·have hlen:=k2.length
     simp only [List.length_map] at hlen
     split at hr2
     ·rename_i r1 hres
      rw [hres] at k2 hlen
      simp only [List.map_cons,List.map_nil,ap] at k2
      obtain ⟨v,r',rfl,k3,rfl⟩:=k2
      rw [<- hr2]
      simpa using k3
     ·rename_i hne
      have : ¬ us.toArray.size=1:=by
       intro h'
       have : nf.res.length=1:=by rw [<- hlen];simpa using h'
       match hq : nf.res,this with
       | [x],_=>exact hne x hq
      rw [dif_neg this,hr2]
      simp only [af]
      exact ⟨us,rfl,k2⟩
    ·obtain ⟨e1,e2⟩:=cK e
     have e3 : fX ω aB p.block=none:=by simp only [fX,e1,e2,if_true]
     unfold a8
     rw [e3]
     exact hO.apart p q e1
   intro t a' w' hq
   cases t <;> simp only [QM] at hq
   ·obtain ⟨e,M',q1,_,q2⟩:=hq
    exact fin a' w' ⟨e,M',q1,q2⟩
   ·obtain ⟨e,M',q1,q2,_⟩:=hq
    exact q2.elim
   ·obtain ⟨e,M',q1,_,q2⟩:=hq
    exact fin a' w' ⟨e,M',q1,q2⟩
  ·cases h7
 ·cases hk
theorem qc (hC : bS P F C) (hm : P.follows .mixedOrders=true) {fi : Nat} {nf : az} (hk : fj P F fi nf=true) {ds : List D} {sz : Nat} {es es' : List (List D)} (hl : ds.length + 1=nf.np) (hpure : ∀ d ∈ ds,isO d=false) (hsz : 0 < sz)
  (hw : wpN C nf.body (fun t e=>(match t with
   | .ext _=>False
   | _=>True) /\ jr nf.res sz es' e) (fC (.ref (.r aB) 0 es.length) sz es ds)) : qK P F fi sz es ds es':=by
 unfold fj at hk
 split at hk
 case h_2=>cases hk
 rename_i fn hfn
 simp only [Bool.and_eq_true,beq_iff_eq,List.all_eq_true,decide_eq_true_eq,Bool.not_eq_true'] at hk
 obtain ⟨⟨⟨⟨⟨⟨⟨h1,h2⟩,h3⟩,h3'⟩,h4⟩,h5⟩,h6⟩,h7⟩:=hk
 split at h7
 case h_2=>cases h7
 rename_i c hc
 have fin : ∀ (S : Nat -> Prop) (L : Nat -> Option Loc) (M : Mem) (w : World) (b : Nat),(∀ k,S k -> k=b) -> ∀ (a' : Act) (w' : World),(∃ e M',SR F nf.nt S L w M (ac e) M' a' w' /\ jr nf.res sz es' e) -> a'.defers=[] /\ ∃ v,(results fn a'.tmps).run P w'=.ok v w' /\ ∃ v',Ending.returned v=.returned v' /\ Ch S w w' /\
   ((es'=[] /\ ∃ A,v'=.slice A 0 0) \/ ∃ (B o2 cap2 : Nat) (T2 : TypeId) (us2 : List Value),(S B \/ w.heap.size <= B) /\ v'=.slice (some ⟨B,o2,none⟩) es'.length cap2 /\ w'.heap[B]? = some (.cells us2.toArray T2 (0,0)) /\ es'.length <= cap2 /\ cap2 <= 9223372036854775807 /\ o2 + cap2 * sz <= us2.length /\
    ∀ i r off d,es'[i]? = some r -> r[off]? = some d -> ∃ u,us2[o2 + i * sz + off]? = some u /\ af F M d u):=by
  rintro S L M w b hSb a' w' ⟨e,M',hs',hsz0,hflat,hr⟩
  refine ⟨hs'.defers,?_⟩
  obtain ⟨ρ,ω,hO⟩:=hs'.own
  split at hr
  ·rename_i t hres
   obtain ⟨ht,hr⟩:=hr
   have hrun : (results fn a'.tmps).run P w'=.ok (a'.tmps.getD t undef) w':=by
    rw [hres] at h4 h5
    obtain ⟨rv,hrv⟩ : ∃ rv,fn.results.toList=[rv]:=by
     match hq : fn.results.toList,h4 with
     | [x],_=>exact ⟨x,rfl⟩
    have hok:=h5 ((t,none),rv) (by rw [hrv];simp)
    unfold results
    rw [Sem.run_bind,Array.mapM_eq_mapM_toList]
    simp only [Sem.run_map]
    rw [hrv]
    cases rv with
    | tmp t' =>
     simp only [fI,beq_iff_eq] at hok
     subst hok
     rfl
    | cell t' ty=>simp [fI] at hok
   have hev : a'.tmps.getD t undef=a'.eval (.tmp t):=rfl
   have hx:=hO.opd (x:=.t t) (y:=.tmp t) (by simp [aj,ht])
   simp only [vd] at hx
   refine ⟨_,hrun,_,rfl,hs'.ch,?_⟩
   split at hr
   ·rename_i b' k n hlk
    split at hr
    ·rename_i sz2 es2 hb
     obtain ⟨rfl,hkn,hes⟩:=hr
     rw [hlk,am rfl] at hx
     have hgp : aT (ac e) (.r b')=some (sz2,es2):=by simp [aT,hb]
     rcases ig hO hgp hkn hx (fun e he c hc=>dQ (hflat e (by rw [<- hes];exact he) c hc)) with ⟨A,hv,hn0⟩ | ⟨cap,us,T,hv,⟨hcap,hmc⟩,hcl,hω,g0,g1,g2,g4,g5⟩
     ·exact .inl ⟨by rw [<- hes,hn0];simp,A,by rw [hev];exact hv⟩
     ·have hn : es'.length=n:=by rw [<- hes];simp;omega
      refine .inr ⟨(ρ (.r b')).blk,(ρ (.r b')).base + k * sz2,cap,T,us,hO.new _ _ hω,by rw [hev,hn];exact hv,g1,by rw [hn];exact hcap,hmc,by rw [g2];exact hcl,fun i r off d e1 e2=>?_⟩
      obtain ⟨u,k1,k2⟩:=g5 i r off d (by rw [hes];exact e1) e2
      exact ⟨u,k1,fb (hflat r (List.mem_of_getElem? e1) d (List.mem_of_getElem? e2)) k2⟩
    ·exact hr.elim
   ·rename_i hlk
    rw [hlk,am rfl] at hx
    simp only [av,af] at hx
    exact .inl ⟨hr,none,by rw [hev];exact hx⟩
   ·exact hr.elim
  ·exact hr.elim
 have run : ∀ (S : Nat -> Prop) (L : Nat -> Option Loc) (M : Mem) (w : World) (b : Nat) (v0 : Value) (vs : List Value) (ρ0 : Pa -> Loc) (ω0 : Nat -> Option Pa),(∀ k,S k -> k=b) -> NoL L -> ap F M ds vs -> (∀ p v,M p=some v -> w.cell? p=some v) -> bg F M ρ0 (.ref (.r aB) 0 es.length) v0 -> dw F M ω0 ρ0 w aB sz es -> (∀ k p,ω0 k=some p -> k < w.heap.size) -> (∀ (p : Addr) (q : Pa),ω0 p.block=some q -> M p=none) -> (∀ k p,ω0 k=some p -> S k) -> (∀ b l,L b=some l -> b=aB /\ l=ρ0 (.r aB)) ->
   Calls P fi (v0::vs).toArray w (fun e w'=>∃ v',e=.returned v' /\ Ch S w w' /\
   ((es'=[] /\ ∃ A,v'=.slice A 0 0) \/ ∃ (B o2 cap2 : Nat) (T2 : TypeId) (us2 : List Value),(S B \/ w.heap.size <= B) /\ v'=.slice (some ⟨B,o2,none⟩) es'.length cap2 /\ w'.heap[B]? = some (.cells us2.toArray T2 (0,0)) /\ es'.length <= cap2 /\ cap2 <= 9223372036854775807 /\ o2 + cap2 * sz <= us2.length /\
    ∀ i r off d,es'[i]? = some r -> r[off]? = some d -> ∃ u,us2[o2 + i * sz + off]? = some u /\ af F M d u)):=by
  intro S L M w b v0 vs ρ0 ω0 hSb hLr r hh hv0 hroot hlt hap hS hLt
  have hs:=ml (nt:=nf.nt) (S:=S) (L:=L) r hh (by omega) h3' hv0 hroot hlt hap hS hLt
  have hwp:=b7 hC hLr hm nf.body c h7 _ _ M _ w hs hw
  refine calls_of_wp hfn hc ?_
  rw [h1]
  refine wp_mono hwp ?_
  intro t a' w' hq
  cases t <;> simp only [QM] at hq
  ·obtain ⟨e,M',q1,_,q2⟩:=hq
   exact fin S L M w b hSb a' w' ⟨e,M',q1,q2⟩
  ·obtain ⟨e,M',q1,q2,_⟩:=hq
   exact q2.elim
  ·obtain ⟨e,M',q1,_,q2⟩:=hq
   exact fin S L M w b hSb a' w' ⟨e,M',q1,q2⟩
 have pure : ∀ {M : Mem} {w : World} {b : Option Nat} {vs : List Value},mF F M w b ds vs -> ap F M ds vs:=fun {M w b vs} h=>ap.of_forall' h.1 (fun i d v e1 e2=>(rn (hpure d (List.mem_of_getElem? e1))).1 (h.2 i d v e1 e2))
 intro M w vs hh
 refine ⟨fun e A r=>?_,fun b o T us cap r hM hb hcell hcap hmc hle hu hc=>?_⟩
 ·refine (run (fun _=>False) (fun _=>none) M w 0 (.slice A 0 0) vs (fun _=>⟨0,0,sz,0⟩) (fun _=>none) (fun k h=>h.elim) (fun _ _ _=>rfl) (pure r) hh (by
   rw [am rfl];simp only [av];exact .inl ⟨by rw [e];rfl,A,rfl⟩) (.inl ⟨e,rfl,rfl,hsz⟩) (fun k p h=>by cases h) (fun p q h=>by cases h) (fun k p h=>by cases h) (fun b l h=>by cases h)).mono ?_
  rintro e0 w' ⟨v',rfl,hch,h | ⟨B,o2,cap2,T2,us2,hB,q1,q2,q3,q4,q5,q6⟩⟩
  ·exact ⟨_,rfl,hch.below (fun _ _ h=>h),.inl h⟩
  ·exact ⟨_,rfl,hch.below (fun _ _ h=>h),.inr ⟨B,o2,T2,us2,cap2,q1,hB.elim False.elim id,q2,q3,⟨q5,q4⟩,q6⟩⟩
 ·have hO : ∀ i r off d,es[i]? = some r -> r[off]? = some d -> isO d=false:=fun i r off d h1 h2=>by
   obtain ⟨u,_,k2⟩:=hc i r off d h1 h2
   exact ra (xz k2)
  have hle2 : es.length * sz <= cap * sz:=Nat.mul_le_mul_right _ hcap
  refine (run (fun k=>k=b) (fun _=>none) M w b (.slice (some ⟨b,o,none⟩) es.length cap) vs (fun _=>⟨b,o,sz,us.length⟩) (fun k=>if k=b then some (.r aB) else none) (fun k h=>h) (fun _ _ _=>rfl) (pure r) hh (by
   rw [am rfl];simp only [av,Nat.zero_mul,Nat.add_zero,Nat.zero_add];exact .inr ⟨cap,rfl,hcap,hle,hmc⟩) (.inr ⟨by simp,rfl,us,T,hcell,rfl,by show o + es.length * sz <= us.length;omega,hu,fun i r off d h1 h2=>by
    obtain ⟨u,k1,k2⟩:=hc i r off d h1 h2
    refine ⟨u,k1,?_⟩
    show bP F M _ _ w aB i off d u
    rw [aV (hO i r off d h1 h2)]
    exact k2⟩) (fun k p h=>by
    split at h
    ·rename_i e;rw [e];exact hb
    ·cases h) (fun p q h=>by
    split at h
    ·rename_i e;exact hM p e
    ·cases h) (fun k p h=>by
    split at h
    ·assumption
    ·cases h) (fun b l h=>by cases h)).mono ?_
  rintro e0 w' ⟨v',rfl,hch,h | ⟨B,o2,cap2,T2,us2,hB,q1,q2,q3,q4,q5,q6⟩⟩
  ·exact ⟨_,rfl,hch,.inl h⟩
  ·rcases hB with rfl | hB
   ·exact ⟨_,rfl,hch,.inr (.inl ⟨o2,cap2,T2,us2,q1,q2,q3,q4,q5,q6⟩)⟩
   ·exact ⟨_,rfl,hch,.inr (.inr ⟨B,o2,T2,us2,cap2,q1,hB,q2,q3,⟨q5,q4⟩,q6⟩)⟩
theorem j8 {f : Nat -> D} : ∀ {ds Rs : List D},kP f ds Rs -> ds.length=Rs.length /\ ∀ (j : Nat) (d r : D),ds[j]? = some d -> Rs[j]? = some r -> b5 f d r
 | [],[],_=>⟨rfl,fun j d r h=>by simp at h⟩
 | [],_::_,h=>h.elim
 | _::_,[],h=>h.elim
 | d::ds,r::rs,h=>by
  obtain ⟨h1,h2⟩:=j8 h.2
  refine ⟨by simp [h1],fun j d' r' e1 e2=>?_⟩
  cases j with
  | zero=>simp at e1 e2;subst e1 e2;exact h.1
  | succ j=>exact h2 j d' r' (by simpa using e1) (by simpa using e2)
theorem mQ {t : Nat} : ∀ {ds : List D} {i j : Nat},(bJ t i ds)[j]? = (ds[j]?).map (fk t (i + j))
 | [],i,j=>by simp [bJ]
 | d::ds,i,j=>by
  cases j with
  | zero=>simp [bJ]
  | succ j =>
   simp only [bJ,List.getElem?_cons_succ]
   rw [mQ,show i + 1 + j=i + (j + 1) by omega]
theorem j9 {t : Nat} : ∀ {ds : List D} {i : Nat},(bJ t i ds).length=ds.length
 | [],i=>rfl
 | d::ds,i=>by simp [bJ,j9]
theorem lN {t b : Nat} {x : D} : ∀ {ds : List D} {i : Nat},(b,x) ∈ bD t i ds -> ∃ j d,ds[j]? = some d /\ (b,x) ∈ cC t (i + j) d
 | [],i,h=>by simp [bD] at h
 | d::ds,i,h=>by
  simp only [bD,List.mem_append] at h
  rcases h with h | h
  ·exact ⟨0,d,by simp,h⟩
  ·obtain ⟨j,d',h1,h2⟩:=lN h
   exact ⟨j + 1,d',by simpa using h1,by rwa [show i + (j + 1)=i + 1 + j by omega]⟩
theorem kh {t b : Nat} {x : D} : ∀ {ds : List D} {i j : Nat} {d : D},ds[j]? = some d -> (b,x) ∈ cC t (i + j) d -> (b,x) ∈ bD t i ds
 | [],i,j,d,h,_=>by simp at h
 | d0::ds,i,j,d,h,hx=>by
  simp only [bD,List.mem_append]
  cases j with
  | zero=>simp at h;subst h;exact .inl hx
  | succ j=>exact .inr (kh (j:=j) (by simpa using h) (by rwa [show i + (j + 1)=i + 1 + j by omega] at hx))
theorem jH : ∀ {l : List Nat},bE l=true -> l.Nodup
 | [],_=>List.nodup_nil
 | x::l,h=>by
  simp only [bE,Bool.and_eq_true,Bool.not_eq_true'] at h
  refine List.nodup_cons.2 ⟨fun hx=>?_,jH h.2⟩
  have:=List.contains_iff_mem.2 hx
  rw [h.1] at this;cases this
theorem gE : ∀ {l : List Nat},l.Nodup -> bE l=true
 | [],_=>rfl
 | x::l,h=>by
  obtain ⟨h1,h2⟩:=List.nodup_cons.1 h
  simp only [bE,Bool.and_eq_true,Bool.not_eq_true']
  exact ⟨by cases e : l.contains x;rfl;exact absurd (List.contains_iff_mem.1 e) h1,gE h2⟩
def kA (b : Nat) : Nat -> List D -> Option Nat
 | _,[]=>none
 | i,d::ds=>if (cG d).contains b then some i else kA b (i + 1) ds
theorem kW {b : Nat} : ∀ {ds : List D} {i c : Nat},kA b i ds=some c -> ∃ j d,c=i + j /\ ds[j]? = some d /\ b ∈ cG d
 | [],i,c,h=>by cases h
 | d::ds,i,c,h=>by
  unfold kA at h
  split at h
  ·rename_i e
   cases h
   exact ⟨0,d,by simp,by simp,by simpa using e⟩
  ·obtain ⟨j,d',h1,h2,h3⟩:=kW h
   exact ⟨j + 1,d',by omega,by simpa using h2,h3⟩
theorem mY {b : Nat} : ∀ {ds : List D} {i j : Nat} {d : D},bE (ds.flatMap cG)=true -> ds[j]? = some d -> b ∈ cG d -> kA b i ds=some (i + j)
 | [],i,j,d,_,h,_=>by simp at h
 | d0::ds,i,j,d,hn,h,hb=>by
  have hnd : ((d0::ds).flatMap cG).Nodup:=jH hn
  rw [List.flatMap_cons,List.nodup_append] at hnd
  unfold kA
  cases j with
  | zero =>
   simp at h;subst h
   rw [if_pos (by simpa using hb)];rfl
  | succ j =>
   have h' : ds[j]? = some d:=by simpa using h
   have hm : b ∈ ds.flatMap cG:=List.mem_flatMap.2 ⟨d,List.mem_of_getElem? h',hb⟩
   rw [if_neg (fun e=>hnd.2.2 b (by simpa using e) b hm rfl),mY (gE hnd.2.1) h' hb]
   congr 1;omega
theorem f5 {e : Nat -> D} (hO : Own F (fun _=>none) (fun k=>False \/ w0.heap.size <= k) e M a w ρ ω) {ds Rs : List D} {us : List Value} (hh : kP e ds Rs) (hn : bE (ds.flatMap cG)=true) (hus : cS F M ρ ds us) :
  ∃ ρ' ω',cS F M ρ' (bJ 0 1 Rs) us /\ (∀ b sz es,(b,D.blk sz es) ∈ bD 0 1 Rs -> dw F M ω' ρ' w b sz es) /\ (∀ k p,ω' k=some p -> w0.heap.size <= k /\ k < w.heap.size /\ ∃ x,(p.root,x) ∈ bD 0 1 Rs) /\ (∀ (p : Addr) (q : Pa),ω' p.block=some q -> M p=none):=by
 obtain ⟨hlen,hget⟩:=j8 hh
 obtain ⟨nb,hnb⟩ : ∃ nb : Nat -> Nat,nb=fun c=>match ds[c - 10001]? with
  | some d=>(cG d).headD c
  | none=>c:=⟨_,rfl⟩
 obtain ⟨ρ',hρ'⟩ : ∃ ρ' : Pa -> Loc,ρ'=fun p=>ρ (p.to (nb p.root)):=⟨_,rfl⟩
 obtain ⟨ω',hω'⟩ : ∃ ω' : Nat -> Option Pa,ω'=fun k=>match ω k with
  | some p=>match kA p.root 10001 ds with
   | some c=>some (p.to c)
   | none=>none
  | none=>none:=⟨_,rfl⟩
 have nbOf : ∀ j d b,ds[j]? = some d -> cG d=[b] -> nb (rt 0 (1 + j))=b:=fun j d b h1 h2=>by
  have : rt 0 (1 + j) - 10001=j:=by unfold rt;omega
  rw [hnb];simp only [this,h1,h2];rfl
 have part : ∀ j d r,ds[j]? = some d -> Rs[j]? = some r -> ∀ b x,(b,x) ∈ cC 0 (1 + j) r -> ∃ c,cG d=[c] /\ b=rt 0 (1 + j) /\ e c=x /\ 10000 <= c:=by
  intro j d r h1 h2 b x hx
  have hp:=hget j d r h1 h2
  have big : ∀ {c sz es},e c=.blk sz es -> 10000 <= c:=fun h=>hO.big h
  cases r <;> simp only [cC,List.mem_cons,List.not_mem_nil,or_false,Prod.mk.injEq] at hx
  case own sz es =>
   cases d <;> try (simp [b5,isV] at hp;done)
   rename_i p k n
   cases p with
   | r c=>exact ⟨c,rfl,hx.1,by rw [hx.2];exact hp.2.2,big hp.2.2⟩
   | n c i o=>simp [b5,isV] at hp
  case blk sz es =>
   cases d <;> try (simp [b5,isV] at hp;done)
   rename_i p k n
   cases p with
   | r c=>exact ⟨c,rfl,hx.1,by rw [hx.2];exact hp.2.2,big hp.2.2⟩
   | n c i o=>simp [b5,isV] at hp
 refine ⟨ρ',ω',⟨by rw [j9,<- hlen];exact hus.1,fun j x v h1 h2=>?_⟩,fun b sz es hb=>?_,fun k p hk=>?_,fun p q hq=>?_⟩
 ·rw [mQ,Option.map_eq_some_iff] at h1
  obtain ⟨r,hr,rfl⟩:=h1
  have hj : j < ds.length:=by rw [hlen];exact (List.getElem?_eq_some_iff.1 hr).1
  have hd:=List.getElem?_eq_getElem hj
  have hv:=hus.2 j _ v hd h2
  have hp:=hget j _ r hd hr
  generalize ds[j]=d at hd hv hp
  have pure : isV d=true -> r=d -> av F M ρ' (fk 0 (1 + j) r) v:=fun h3 h4=>by
   subst h4
   cases r <;> first | (simp [isV] at h3;done) | exact hv
  cases d with
  | ref p k n =>
   cases p with
   | r c =>
    cases r <;> try (simp [b5,isV] at hp;done)
    rename_i sz es
    obtain ⟨rfl,rfl,h3⟩:=hp
    have e1 : ρ' (.r (rt 0 (1 + j)))=ρ (.r c):=by
     rw [hρ'];simp only [Pa.root,nbOf j _ c hd rfl,Pa.to]
    simp only [fk,av] at hv ⊢
    rw [e1];exact hv
   | n c i o=>cases r <;> simp [b5,isV] at hp
  | adr p k n =>
   cases p with
   | r c =>
    cases r <;> try (simp [b5,isV] at hp;done)
    rename_i sz es
    obtain ⟨rfl,rfl,h3⟩:=hp
    have e1 : ρ' (.r (rt 0 (1 + j)))=ρ (.r c):=by
     rw [hρ'];simp only [Pa.root,nbOf j _ c hd rfl,Pa.to]
    simp only [fk,av] at hv ⊢
    rw [e1];exact hv
   | n c i o=>cases r <;> simp [b5,isV] at hp
  | _=>first | (simp [b5,isV] at hp;done) | (simp only [b5] at hp;exact pure hp.1 hp.2)
 ·obtain ⟨j,r,hr,hx⟩:=lN hb
  have hj : j < ds.length:=by rw [hlen];exact (List.getElem?_eq_some_iff.1 hr).1
  have hd:=List.getElem?_eq_getElem hj
  obtain ⟨c,h1,rfl,h3,h4⟩:=part j _ r hd hr _ _ hx
  refine (hO.roots c sz es h4 h3).carry (Mem.le_refl _) (fun p hp=>⟨?_,fun hw=>⟨?_,rfl⟩⟩)
  ·rw [hρ'];simp only [Pa.to_root,nbOf j _ c hd h1]
   rw [Pa.to_to c _ p hp]
  ·rw [hω'];simp only [hw,hp]
   rw [mY hn hd (by rw [h1];simp)]
   simp only [Option.some.injEq]
   congr 1
   unfold rt;omega
 ·rw [hω'] at hk
  simp only at hk
  split at hk
  ·rename_i p' hp'
   split at hk
   ·rename_i c hc
    cases hk
    have hnew:=hO.new _ _ hp'
    refine ⟨by rcases hnew with h | h;exact h.elim;exact h,hO.lt _ _ hp',?_⟩
    obtain ⟨j,d,rfl,hd,hb⟩:=kW hc
    have hj : j < Rs.length:=by rw [<- hlen];exact (List.getElem?_eq_some_iff.1 hd).1
    have hr:=List.getElem?_eq_getElem hj
    have hp:=hget j d _ hd hr
    have e1 : 10001 + j=rt 0 (1 + j):=by unfold rt;omega
    rw [Pa.to_root,e1]
    generalize Rs[j]=r at hr hp
    cases d <;> simp only [cG,List.not_mem_nil] at hb
    case ref p k n =>
     cases p with
     | r c =>
      cases r <;> try (simp [b5,isV] at hp;done)
      rename_i sz0 es0
      exact ⟨.blk sz0 es0,kh hr (by simp [cC])⟩
     | n c i o=>simp [cG] at hb
    case adr p k n =>
     cases p with
     | r c =>
      cases r <;> try (simp [b5,isV] at hp;done)
      rename_i sz0 es0
      exact ⟨.blk sz0 es0,kh hr (by simp [cC])⟩
     | n c i o=>simp [cG] at hb
   ·cases hk
  ·cases hk
 ·rw [hω'] at hq
  simp only at hq
  split at hq
  ·rename_i p' hp'
   exact hO.apart p p' hp'
  ·cases hq
theorem se {f : Nat -> D} {d r : D} (h : b5 f d r) : isX d=false:=by
 cases d <;> first | rfl | (cases r <;> simp [b5,isV] at h)
theorem pp {P : Program} {a' : Act} {w' : World} (g : ResultVar -> Sem Value) (hg1 : ∀ t,g (.tmp t)=pure (a'.tmps.getD t undef)) : ∀ (rs : List (Nat × Option (Nat × Bool))) (rvs : List ResultVar),rs.length=rvs.length -> (∀ p ∈ rs.zip rvs,fI P p.1 p.2=true) -> (∀ r ∈ rs,r.2=none) ->
  (rvs.mapM g).run P w'=.ok (rs.map fun r=>a'.tmps.getD r.1 undef) w'
 | [],[],_,_,_=>rfl
 | r::rs,rv::rvs,hl,hk,hn=>by
  have ih:=pp (P:=P) (w':=w') g hg1 rs rvs (by simpa using hl) (fun p hp=>hk p (by simp [hp])) (fun r hr=>hn r (by simp [hr]))
  have hr:=hk (r,rv) (by simp)
  have hn0:=hn r (by simp)
  obtain ⟨t,o⟩:=r
  simp only at hn0
  subst hn0
  cases rv with
  | tmp t' =>
   simp only [fI,beq_iff_eq] at hr
   subst hr
   simp [List.mapM_cons,hg1,ih]
  | cell t' ty=>simp [fI] at hr
theorem p9 (hC : bS P F C) (hm : P.follows .mixedOrders=true) {fi : Nat} {nf : az} (hk : fj P F fi nf=true) {ds : List D} {R : D} (hl : ds.length=nf.np)
  (hw : wpN C nf.body (fun t e=>(match t with
   | .ext _=>False
   | _=>True) /\ pm nf.res R e) (params 0 ds)) : s7 P F fi ds R:=by
 intro M w vs hh r
 unfold fj at hk
 split at hk
 ·rename_i fn hfn
  simp only [Bool.and_eq_true,beq_iff_eq,List.all_eq_true,decide_eq_true_eq,Bool.not_eq_true'] at hk
  obtain ⟨⟨⟨⟨⟨⟨⟨h1,h2⟩,h3⟩,h3'⟩,h4⟩,h5⟩,h6⟩,h7⟩:=hk
  split at h7
  ·rename_i c hc
   have hs:=jP (nt:=nf.nt) r hh (by omega) h3'
   have hwp:=b7 hC (fun _ _ _=>rfl) hm nf.body c h7 _ _ M _ w hs hw
   refine calls_of_wp hfn hc ?_
   rw [h1]
   refine wp_mono hwp ?_
   have fin : ∀ (a' : Act) (w' : World),(∃ e M',SR F nf.nt (fun _=>False) (fun _=>none) w M (ac e) M' a' w' /\ pm nf.res R e) -> a'.defers=[] /\ ∃ v,(results fn a'.tmps).run P w'=.ok v w' /\
     (∃ v' M' ρ ω us,Ending.returned v=.returned v' /\ Bel w w' /\ M.le M' /\ (∀ p,M p=none -> M' p ≠ none -> w.heap.size <= p.block) /\ (∀ p v,M' p=some v -> w'.cell? p=some v) /\
      qA R us v' /\ cS F M' ρ (bJ 0 1 (ip R)) us /\ (∀ b sz es,(b,D.blk sz es) ∈ aM 0 R -> dw F M' ω ρ w' b sz es) /\ (∀ k p,ω k=some p -> w.heap.size <= k /\ k < w'.heap.size /\ ∃ x,(p.root,x) ∈ aM 0 R) /\ (∀ (p : Addr) (q : Pa),ω p.block=some q -> M' p=none)):=by
    rintro a' w' ⟨e,M',hs',hr⟩
    refine ⟨hs'.defers,?_⟩
    obtain ⟨ρ,ω,hO⟩:=hs'.own
    have hbel : Bel w w':=hs'.ch.below (fun _ _ h=>h)
    have hfr : ∀ p,M p=none -> M' p ≠ none -> w.heap.size <= p.block:=fun p h1 h2=>(hs'.fresh p h1 h2).elim False.elim id
    have one : ∀ t,nf.res=[(t,none)] -> (results fn a'.tmps).run P w'=.ok (a'.tmps.getD t undef) w':=fun t hres=>by
     rw [hres] at h4 h5
     obtain ⟨rv,hrv⟩ : ∃ rv,fn.results.toList=[rv]:=by
      match hq : fn.results.toList,h4 with
      | [x],_=>exact ⟨x,rfl⟩
     have hok:=h5 ((t,none),rv) (by rw [hrv];simp)
     unfold results
     rw [Sem.run_bind,Array.mapM_eq_mapM_toList]
     simp only [Sem.run_map]
     rw [hrv]
     cases rv with
     | tmp t' =>
      simp only [fI,beq_iff_eq] at hok
      subst hok
      rfl
     | cell t' ty=>simp [fI] at hok
    have val : ∀ t,t < 10000 -> bg F M' ρ (ac e t) (a'.tmps.getD t undef):=fun t ht=>by
     exact hO.opd (x:=.t t) (y:=.tmp t) (by simp [aj,ht])
    unfold pm at hr
    split at hr
    ·rename_i t hres
     obtain ⟨ht,hr⟩:=hr
     have hv:=val t ht
     split at hr
     ·rename_i ds' Rs hlk
      rw [hlk] at hv
      obtain ⟨us,hv,hrl⟩:=hv
      obtain ⟨ρ',ω',k1,k2,k3,k4⟩:=f5 hO hr.1 hr.2 hrl
      exact ⟨_,one t hres,_,M',ρ',ω',us,rfl,hbel,hs'.ext,hfr,hs'.holds,hv,k1,k2,k3,k4⟩
     ·rename_i p k n sz es hlk
      rw [hlk,am rfl] at hv
      have hn : bE ([D.ref p k n].flatMap cG)=true:=by cases p <;> simp [cG,bE]
      obtain ⟨ρ',ω',k1,k2,k3,k4⟩:=f5 hO (ds:=[.ref p k n]) (Rs:=[.own sz es]) (us:=[a'.tmps.getD t undef]) ⟨hr,trivial⟩ hn ⟨rfl,fun j d v e1 e2=>by
       cases j with
       | zero=>simp only [List.getElem?_cons_zero,Option.some.injEq] at e1 e2;subst e1 e2;exact hv
       | succ j=>simp at e1⟩
      exact ⟨_,one t hres,_,M',ρ',ω',_,rfl,hbel,hs'.ext,hfr,hs'.holds,rfl,k1,k2,k3,k4⟩
     ·rename_i p k n sz es hlk
      rw [hlk,am rfl] at hv
      have hn : bE ([D.adr p k n].flatMap cG)=true:=by cases p <;> simp [cG,bE]
      obtain ⟨ρ',ω',k1,k2,k3,k4⟩:=f5 hO (ds:=[.adr p k n]) (Rs:=[.blk sz es]) (us:=[a'.tmps.getD t undef]) ⟨hr,trivial⟩ hn ⟨rfl,fun j d v e1 e2=>by
       cases j with
       | zero=>simp only [List.getElem?_cons_zero,Option.some.injEq] at e1 e2;subst e1 e2;exact hv
       | succ j=>simp at e1⟩
      exact ⟨_,one t hres,_,M',ρ',ω',_,rfl,hbel,hs'.ext,hfr,hs'.holds,rfl,k1,k2,k3,k4⟩
     ·exact hr.elim
    ·rename_i t n hres
     obtain ⟨ht,hr⟩:=hr
     split at hr
     ·rename_i c i off Rs hlk
      obtain ⟨rfl,rfl,⟨sz,hg⟩,hn,hok,hcn⟩:=hr
      have htn : t < nf.nt:=by
       rcases hO.slots t ht with h1 | ⟨v,h1,_⟩
       ·rw [hlk] at h1;cases h1
       ·have:=(Array.getElem?_eq_some_iff.1 h1).1
        have:=hs'.size
        omega
      obtain ⟨ty,hrv,hty⟩ : ∃ ty,fn.results.toList=[.cell t ty] /\ tyS P ty n true=true:=by
       rw [hres] at h4 h5
       obtain ⟨rv,hrv⟩ : ∃ rv,fn.results.toList=[rv]:=by
        match hq : fn.results.toList,h4 with
        | [x],_=>exact ⟨x,rfl⟩
       have hok:=h5 ((t,some (n,true)),rv) (by rw [hrv];simp)
       cases rv with
       | tmp t'=>simp [fI] at hok
       | cell t' ty =>
        simp only [fI,Bool.and_eq_true,beq_iff_eq] at hok
        obtain ⟨rfl,hok⟩:=hok
        exact ⟨ty,hrv,hok⟩
      have gp : aT (ac e) (.r c)=some (sz,[Rs]):=by simp only [aT,hg]
      have hc : 10000 <= c:=bV hO gp
      have one' : ∀ ρ ω,Own F (fun _=>none) (fun k=>False \/ w.heap.size <= k) (ac e) M' a' w' ρ ω -> ∃ v,(results fn a'.tmps).run P w'=.ok v w' /\ ∃ vs : List Value,v=.agg vs.toArray /\ vs.length=Rs.length /\ ∀ (j : Nat) (d : D) (u : Value),Rs[j]? = some d -> vs[j]? = some u -> bP F M' ω ρ w' c 0 j d u:=by
       intro ρ ω hO
       have hx:=hO.opd (x:=.t t) (y:=.tmp t) (by simp [aj,ht])
       simp only [vd] at hx
       rw [hlk,am rfl] at hx
       simp only [av] at hx
       obtain ⟨us,T,hω,h0,hl',g1,g2,g3,g4⟩:=hO.row (p:=.r c) hc gp (i:=0) (r:=Rs) rfl
       rw [h0] at hx
       refine ⟨.agg ((us.drop ((ρ (.r c)).base + 0 * sz + 0)).take n).toArray,?_,_,rfl,by rw [List.length_take,List.length_drop];omega,fun j d u k1 k2=>?_⟩
       ·have hld:=c9 (P:=P) (w:=w') hty (a:=⟨(ρ (.r c)).blk,(ρ (.r c)).base + 0 * sz + 0,none⟩) (vs:=us.drop ((ρ (.r c)).base + 0 * sz + 0)) (fun j v hj=>by
         rw [cB]
         rw [List.getElem?_drop] at hj
         simp only [Nat.zero_mul,Nat.add_zero] at hj
         simp [World.cell?,g1,hj]) (by simp;omega)
        simp only [Instr.loadAt,Instr.sureAddr,Sem.run_bind,Sem.run_pure,Result.andThen_ok,if_true] at hld
        unfold results
        rw [Sem.run_bind,Array.mapM_eq_mapM_toList]
        simp only [Sem.run_map]
        rw [hrv]
        have ea : a'.tmps.getD t undef=a'.eval (.tmp t):=rfl
        simp only [List.mapM_cons,List.mapM_nil,ea,hx,asAddr,Sem.run_bind,Sem.run_pure,Result.andThen_ok,hld]
        rfl
       ·have hj : j < n:=by
         have:=(List.getElem?_eq_some_iff.1 k2).1
         simp only [List.length_take] at this;omega
        rw [List.getElem?_take_of_lt hj,List.getElem?_drop] at k2
        obtain ⟨v',k3,k4⟩:=g4 j d k1
        rw [show (ρ (.r c)).base + 0 * sz + 0 + j=(ρ (.r c)).base + 0 * sz + j by omega,k3] at k2
        cases k2
        exact k4
      obtain ⟨v,hv,_⟩:=one' ρ ω hO
      have hU:=hs'.unpack (fun _ _ _=>rfl) htn hg hok (fun x hx=>by
       have:=List.all_eq_true.1 hcn _ hx
       simp at this) (v:=v) (fun ρ ω hO=>by
       obtain ⟨v',hv',h2⟩:=one' ρ ω hO
       rw [hv] at hv'
       cases hv'
       exact h2)
      obtain ⟨ρ1,ω1,hO1⟩:=hU.own
      obtain ⟨f1,hf1⟩ : ∃ f1,f1=eff ((t,dy t (.agg Rs))::(c,.any)::aM t (.agg Rs)) (db t (.agg Rs)) (ac e):=⟨_,rfl⟩
      rw [<- hf1] at hU hO1
      have ht1 : f1 t=.agx (bJ t 1 Rs):=by rw [hf1];exact aJ (by simp [dy])
      have hval:=hO1.opd (x:=.t t) (y:=.tmp t) (by simp [aj,ht])
      simp only [vd] at hval
      have hev : (a'.put (some t) v).eval (.tmp t)=v:=by
       show (a'.put (some t) v).tmps.getD t undef=v
       have:=getElem?_put_same (a:=a') (t:=t) (v:=v) (by rw [hs'.size];exact htn)
       simp [Array.getD_eq_getD_getElem?,this]
      rw [ht1,hev] at hval
      obtain ⟨us,hv2,hrl⟩:=hval
      have hRs : ∀ j d,Rs[j]? = some d -> ∃ u,us[j]? = some u /\ (isV d=true \/ ∃ sz' es',d=.own sz' es'):=fun j d hj=>by
       obtain ⟨_,_,vs,hv3,hvl,hcell⟩:=one' ρ ω hO
       have hj' : j < us.length:=by
        have:=hrl.1
        rw [j9] at this
        have:=(List.getElem?_eq_some_iff.1 hj).1
        omega
       refine ⟨_,List.getElem?_eq_getElem hj',?_⟩
       have hj2 : j < vs.length:=by rw [hvl];exact (List.getElem?_eq_some_iff.1 hj).1
       have:=hcell j d _ hj (List.getElem?_eq_getElem hj2)
       cases d <;> first | exact .inl rfl | exact .inr ⟨_,_,rfl⟩ | (simp [bP,af] at this;done)
      have hhand : kP f1 (bJ t 1 Rs) Rs:=by
       have key : ∀ (l : List D) (i : Nat),(∀ j d,l[j]? = some d -> Rs[i + j]? = some d) -> kP f1 (bJ t (1 + i) l) l:=by
        intro l
        induction l with
        | nil=>intro i _;trivial
        | cons d l ih =>
         intro i hl
         have h0:=hl 0 d rfl
         refine ⟨?_,by
          have:=ih (i + 1) (fun j d' hj=>by
           have:=hl (j + 1) d' (by simpa using hj)
           rwa [show i + (j + 1)=i + 1 + j by omega] at this)
          rwa [show 1 + (i + 1)=1 + i + 1 by omega] at this⟩
         obtain ⟨u,_,hd | ⟨sz',es',rfl⟩⟩:=hRs (i + 0) d h0
         ·cases d <;> first | exact ⟨rfl,rfl⟩ | (simp [isV] at hd;done)
         ·refine ⟨rfl,rfl,?_⟩
          have hm : (rt t (1 + i),D.blk sz' es') ∈ aM t (.agg Rs):=lO (show Rs[i]? = _ by simpa using h0)
          rw [hf1]
          refine aJ ?_
          have hct : (rt t (1 + i) == t)=false:=by simp;unfold rt;omega
          have hcc : (rt t (1 + i) == c)=false:=by
           have:=List.all_eq_true.1 hcn _ hm
           simpa using this
          simp only [List.lookup_cons,hct,hcc]
          exact rb (fun y hy=>(fB hm hy).symm) hm
       exact key Rs 0 (fun j d hj=>by rwa [Nat.zero_add])
      have hnd : bE ((bJ t 1 Rs).flatMap cG)=true:=by
       refine gE ?_
       have key : ∀ (l : List D) (i : Nat),(∀ d ∈ l,isV d=true \/ ∃ sz' es',d=.own sz' es') -> ((bJ t i l).flatMap cG).Nodup /\ ∀ x ∈ (bJ t i l).flatMap cG,rt t i <= x:=by
        intro l
        induction l with
        | nil=>intro i _;exact ⟨List.nodup_nil,by simp [bJ]⟩
        | cons d l ih =>
         intro i hl
         obtain ⟨g1,g2⟩:=ih (i + 1) (fun d' hd'=>hl d' (by simp [hd']))
         have g3 : ∀ x ∈ (bJ t (i + 1) l).flatMap cG,rt t i < x:=fun x hx=>by
          have:=g2 x hx
          unfold rt at this ⊢;omega
         simp only [bJ,List.flatMap_cons]
         rcases hl d (by simp) with hd | ⟨sz',es',rfl⟩
         ·have : cG (fk t i d)=[]:=by cases d <;> first | rfl | (simp [isV] at hd;done)
          rw [this,List.nil_append]
          exact ⟨g1,fun x hx=>Nat.le_of_lt (g3 x hx)⟩
         ·have : cG (fk t i (.own sz' es'))=[rt t i]:=rfl
          rw [this]
          refine ⟨?_,fun x hx=>?_⟩
          ·rw [List.singleton_append,List.nodup_cons]
           exact ⟨fun hx=>absurd (g3 _ hx) (by omega),g1⟩
          ·rcases List.mem_append.1 hx with h | h
           ·simp at h;omega
           ·exact Nat.le_of_lt (g3 x h)
       exact (key Rs 1 (fun d hd=>by
        obtain ⟨j,hj⟩:=List.getElem?_of_mem hd
        obtain ⟨_,_,h⟩:=hRs j d hj
        exact h)).1
      obtain ⟨ρ',ω',k1,k2,k3,k4⟩:=f5 hO1 hhand hnd hrl
      exact ⟨_,hv,_,M',ρ',ω',us,rfl,hbel,hs'.ext,hfr,hs'.holds,hv2,k1,k2,k3,k4⟩
     ·exact hr.elim
    ·obtain ⟨hne,hall,hr⟩:=hr
     split at hr
     ·rename_i Rs
      have hrun : (results fn a'.tmps).run P w'=.ok (.tuple (nf.res.map fun r=>a'.tmps.getD r.1 undef).toArray) w':=by
       unfold results
       rw [Sem.run_bind,Array.mapM_eq_mapM_toList]
       have k1' : ((fn.results.toList.mapM fun
        | .tmp t=>pure (a'.tmps.getD t undef)
        | .cell x t=>do loadVar t (<- asAddr (a'.tmps.getD x undef)) : Sem (List Value))).run P w'=.ok (nf.res.map fun r=>a'.tmps.getD r.1 undef) w':=pp (P:=P) (fun
        | .tmp t=>pure (a'.tmps.getD t undef)
        | .cell x t=>do loadVar t (<- asAddr (a'.tmps.getD x undef))) (fun _=>rfl) nf.res fn.results.toList h4 h5 (fun r hr=>(hall r hr).2)
       simp only [Sem.run_map]
       erw [k1']
       have : ¬ (nf.res.map fun r=>a'.tmps.getD r.1 undef).toArray.size=1:=by simpa using hne
       simp [Result.andThen,hne]
      obtain ⟨hlen,hget⟩:=j8 hr.1
      obtain ⟨ρ',ω',k1,k2,k3,k4⟩:=f5 hO (us:=nf.res.map fun r=>a'.tmps.getD r.1 undef) hr.1 hr.2 ⟨by simp,fun j d v e1 e2=>by
       rw [List.getElem?_map,Option.map_eq_some_iff] at e1 e2
       obtain ⟨r1,g1,rfl⟩:=e1
       obtain ⟨r2,g2,rfl⟩:=e2
       rw [g1] at g2;cases g2
       have hv:=val r1.1 (hall r1 (List.mem_of_getElem? g1)).1
       have hj : j < Rs.length:=by
        rw [<- hlen];simp;exact (List.getElem?_eq_some_iff.1 g1).1
       have hp:=hget j (ac e r1.1) _ (by simp [g1]) (List.getElem?_eq_getElem hj)
       rwa [am (se hp)] at hv⟩
      exact ⟨_,hrun,_,M',ρ',ω',_,rfl,hbel,hs'.ext,hfr,hs'.holds,rfl,k1,k2,k3,k4⟩
     ·exact hr.elim
   intro t a' w' hq
   cases t <;> simp only [QM] at hq
   ·obtain ⟨e,M',q1,_,q2⟩:=hq
    exact fin a' w' ⟨e,M',q1,q2⟩
   ·obtain ⟨e,M',q1,q2,_⟩:=hq
    exact q2.elim
   ·obtain ⟨e,M',q1,_,q2⟩:=hq
    exact fin a' w' ⟨e,M',q1,q2⟩
  ·cases h7
 ·cases hk
theorem kO {F : Fid} {M : Mem} : ∀ (ds : List D) (vs : List Value),ap F M ds vs -> ap F M (ds.map nH) vs
 | [],vs,x=>by simpa only [List.map_nil,ap] using x
 | d::ds,vs,x=>by
  simp only [List.map_cons,ap] at x ⊢
  obtain ⟨v,r,e,x1,x2⟩:=x
  refine ⟨v,r,e,?_,kO ds r x2⟩
  unfold nH
  split
  ·exact x1
  ·simp only [af]
theorem p6 {F : Fid} {M : Mem} {d : D} {v : Value} (h : af F M d v) : af F M (pZ d) v:=by
 cases d
 case tup ds =>
  simp only [pZ,af] at h ⊢
  obtain ⟨vs,e,r⟩:=h
  exact ⟨vs,e,kO ds vs r⟩
 all_goals exact h
def gN (P : Program) (F : Fid) (g : Nat) (ds : List D) (d : D) : List D -> Prop
 | []=>True /\ ∀ f,F g=some f -> s8 P F f ds d
 | [.own sz es]=>True /\ ∀ f,F g=some f -> s9 P F f ds sz es
 | [.nilp]=>True /\ ∀ f,F g=some f -> ta P F f ds d
 | [.nils]=>True /\ ∀ f,F g=some f -> s7 P F f ds d
 | [.own sz es',.nilp]=>True /\ ∀ f,F g=some f -> match ds with
  | .own sz0 es::ds'=>sz0=sz /\ te P F f sz es ds' es'
  | _=>False
 | [.own sz es',.nils]=>True /\ ∀ f,F g=some f -> match ds with
  | .own sz0 es::ds'=>sz0=sz /\ yh P F f sz es ds' es'
  | _=>False
 | [.own sz es',.nils,.nils]=>True /\ ∀ f,F g=some f -> match ds with
  | .own sz0 es::ds'=>sz0=sz /\ qK P F f sz es ds' es'
  | _=>False
 | [.blk sz es']=>True /\ ∀ f,F g=some f -> match ds with
  | .blk sz0 es::ds'=>sz0=sz /\ tc P F f sz es ds' d es'
  | _=>False
 | _=>False
theorem pq (hm : P.follows .mixedOrders=true) {prog : Nat -> Option az} (hnamed : ∀ g f,F g=some f -> lV P f=true) (hlaid : laidOutB F.P=true) (hP : P=F.P) (hall : ∀ g f nf,F g=some f -> prog g=some nf -> fj P F f nf=true) : bS P F (gN P F) /\ aA prog (gN P F):=by
 have hs : bS P F (gN P F):=⟨fun g f ds d hg h=>h.2 f hg,fun g f ds sz es hg h=>h.2 f hg,fun g f sz es ds es' hg h=>(h.2 f hg).2,fun g f sz es ds es' hg h=>(h.2 f hg).2,fun g f sz es ds es' hg h=>(h.2 f hg).2,fun g f ds d hg h=>h.2 f hg,fun g f ds R hg h=>h.2 f hg,fun g f sz es ds d es' hg h=>(h.2 f hg).2,hnamed,hlaid,hP⟩
 refine ⟨hs,fun g nf ds d hp hl hw=>⟨trivial,fun f hf=>sd hs hm (hall g f nf hf hp) hl hw⟩,fun g ds d h=>⟨trivial,fun f hf M w vs hh r=>?_⟩,fun g nf ds sz es hp hl hw=>⟨trivial,fun f hf=>qa hs hm (hall g f nf hf hp) hl hw⟩,fun g nf ds d hp hl hw=>⟨trivial,fun f hf=>qb hs hm (hall g f nf hf hp) hl hw⟩,fun g nf ds d sz es es' hp hl hw=>⟨trivial,fun f hf=>⟨rfl,qd hs hm (hall g f nf hf hp) hl hw⟩⟩,fun g nf ds sz es es' hp hl hpu hsz hw=>⟨trivial,fun f hf=>⟨rfl,qc hs hm (hall g f nf hf hp) hl hpu hsz hw⟩⟩,fun g nf ds R hp hl hok hw=>⟨trivial,fun f hf=>p9 hs hm (hall g f nf hf hp) hl hw⟩⟩
 exact (h.2 f hf M w vs hh r).mono fun e w' ⟨v,M',q1,q2,q3,q4,q5,q6⟩=>⟨v,M',q1,q2,q3,q4,q5,p6 q6⟩
end
end Go.Gv
