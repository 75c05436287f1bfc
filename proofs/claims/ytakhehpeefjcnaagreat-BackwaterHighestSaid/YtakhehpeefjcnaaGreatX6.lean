/-
  Texts of the proof: GvR, GvEbh, ItB, GvT, GvT4, GvU, K1, K4, K5, K6, GvW, K7, K8, M0, M3, M4, P3, K3, K2, B1.
-/
import Derived.Test.YtakhehpeefjcnaaGreatX4
import Derived.SizedLaws
import Derived.ProofKit
import Derived.Test.YtakhehpeefjcnaaGreatX5
import Derived.Test.YtakhehpeefjcnaaGreatProg
import Derived.KernelRfl
import Derived.Shelf.Sort.Plain
import Derived.Shelf.Slices.CompactI
import Derived.Shelf.Spec.SlicesInsert
import Derived.Sort.Row
import Derived.Sort.Grow
import Derived.Shelf.Slices.In.SortNone
import Derived.Shelf.Spec.SlicesInsertGrow
import Derived.Lib.Mul64
import Derived.Laws.Bits64b
import Derived.Laws.MathBits
set_option linter.all false
namespace Go.Gv
open Go.RowKit Go.ChangeShapes Go.WideShapes Go.ChangeAt
inductive Sh where
 | int (k:IntKind)
 | bool
 | str
 | sl (row:List Sh)
mutual
def dw:Sh->D->Prop
 | .int k,d=>∃n,d=.int k n/\(Lit.int k n).wf=true
 | .bool,d=>∃b,d=.bool b
 | .str,d=>∃s,d=.str s/\s.length<140737488355328
 | .sl row,d=>∃es,(d=.sl es\/(d=.nils/\es=[]))/\es.length<140737488355328/\∀e∈es,bN row e
def bN:List Sh->List D->Prop
 | [],ds=>ds=[]
 | s::ss,ds=>∃d r,ds=d::r/\dw s d/\bN ss r
end
theorem bN.length:∀{ss:List Sh} {ds:List D},bN ss ds->ds.length=ss.length
 | [],ds,h=>by simp only[bN]at h;simp[h]
 | s::ss,ds,h=>by
  simp only[bN]at h
  obtain⟨d,r,rfl,_,h2⟩:=h
  simp[bN.length h2]
theorem bN.append:∀{ss ts:List Sh} {ds es:List D},bN ss ds->bN ts es->bN (ss++ts) (ds++es)
 | [],ts,ds,es,h,h'=>by simp only[bN]at h;subst h;exact h'
 | s::ss,ts,ds,es,h,h'=>by
  simp only[bN]at h
  obtain⟨d,r,rfl,h1,h2⟩:=h
  exact⟨d,r++es,rfl,h1,bN.append h2 h'⟩
def pr(P:Program)(rec:TypeId->Option (List Sh)):List Field->Nat->Option (List Sh)
 | [],_=>some []
 | f::fs,off=>if f.offset=off then(match rec f.type with
   | some l=>if l.length=P.cellsOf f.type then(match pr P rec fs (off+l.length) with
    | some r=>some (l++r)
    | none=>none) else none
   | none=>none) else none
def nL(P:Program):Nat->TypeId->Option (List Sh)
 | 0,_=>none
 | n+1,t=>match P.underlying t with
  | some .bool=>some [.bool]
  | some (.int k)=>some [.int k]
  | some .string=>some [.str]
  | some (.slice e)=>(match nL P n e with
   | some l=>if l.length=P.cellsOf e/\1<=P.bytesOf e then some [.sl l] else none
   | none=>none)
  | some (.struct fs)=>(match pr P (nL P n) fs.toList 0 with
   | some l=>if l.length=P.cellsOf t then some l else none
   | none=>none)
  | _=>none
section
variable{H:Type}{enc:TypeId×Value->H}{P:Program}{F:Fid}{w:World}{sp:Nat->Bool}
abbrev mA(w:World):Mem:=fun p=>w.cell? p
def vz(enc:TypeId×Value->H)(P:Program)(F:Fid)(w:World)(sp:Nat->Bool)(n:Nat)(t:TypeId)(shs:List Sh):Prop :=
 ∀(cs:List Value) (d:DataW H) (ps:List MemPlace),DataW.trod enc P w 0 sp true n t cs=some (d,ps)->(d.weights P t).all (·<=reachBytes)=true->∃ds,bN shs ds/\aq F (mA w) ds cs
theorem iB{α β:Type}{f:α->Option β}{x:α}{l:List α}{ys:List β}(h:(x::l).mapM f=some ys):∃y r,f x=some y/\l.mapM f=some r/\ys=y::r:=by
 rw[List.mapM_cons]at h
 cases hx:f x with
 | none=>rw[hx]at h;cases h
 | some y =>
  cases hl:l.mapM f with
  | none=>rw[hx,hl]at h;cases h
  | some r =>
   rw[hx,hl]at h
   exact⟨y,r,rfl,rfl,by cases h;rfl⟩
theorem nh{n m:Nat}(ih:∀t shs,nL P m t=some shs->vz enc P F w sp n t shs){cs:List Value}:∀(fs:List Field) (off:Nat) (xs:List (DataW H×List MemPlace)) (shs:List Sh),
  (fs.mapM fun f=>DataW.trod enc P w 0 sp true n f.type ((cs.drop f.offset).take (P.cellsOf f.type)))=some xs->pr P (nL P m) fs off=some shs->(DataW.weightsEach P (fs.map (·.type)) (xs.map (·.1))).all (·<=reachBytes)=true->cs.length=off+shs.length ->
   ∃ds,bN shs ds/\aq F (mA w) ds (cs.drop off)
 | [],off,xs,shs,_,h2,_,h4=>by
  cases h2
  exact⟨[],rfl,by simp only[aq];exact List.drop_of_length_le (by simpa using Nat.le_of_eq h4)⟩
 | f::fs,off,xs,shs,h1,h2,h3,h4=>by
  obtain⟨y,r,e1,e2,rfl⟩:=iB h1
  simp only[pr]at h2
  split at h2
  case isFalse=>cases h2
  rename_i ho
  split at h2
  case h_2=>cases h2
  rename_i l hl
  split at h2
  case isFalse=>cases h2
  rename_i hlen
  split at h2
  case h_2=>cases h2
  rename_i rs hr
  cases h2
  simp only[x0I,DataW.weightsEach,List.all_append,x0a]at h3
  rw[x0L]at h4
  obtain⟨ds1,g1,g2⟩:=ih f.type l hl _ y.1 y.2 e1 h3.1
  obtain⟨ds2,g3,g4⟩:=nh ih fs (off+l.length) r rs e2 hr h3.2 (by omega)
  refine⟨ds1++ds2,g1.append g3,?_⟩
  rw[ho,<- hlen]at g2
  have:=g2.append g4
  rwa[<- List.drop_drop,List.take_append_drop]at this
theorem ni{n k:Nat}{e:TypeId}{l:List Sh}{a:Addr}(hl:l.length=k)(ih:vz enc P F w sp n e l):∀(c s:Nat) (xs:List (DataW H×List MemPlace)),
  ((List.range' s c).mapM fun i=>(w.cells? 0 (a.add (i*k)) k).bind (DataW.trod enc P w 0 sp true n e))=some xs->(DataW.weightsAll P e (xs.map (·.1))).all (·<=reachBytes)=true ->
   ∃(es:List (List D)) (vs:List Value),es.length=c/\xs.length=c/\(∀r∈es,bN l r)/\aW F (mA w) es vs/\∀j v,vs[j]? = some v->w.cell? (a.add (s*k+j))=some v
 | 0,s,xs,h,_=>by
  cases h
  exact⟨[],[],rfl,rfl,by simp,by simp[aW],fun j v h=>by simp at h⟩
 | c+1,s,xs,h,hw=>by
  rw[List.range'_succ]at h
  obtain⟨y,r,e1,e2,rfl⟩:=iB h
  rw[Option.bind_eq_some_iff]at e1
  obtain⟨row,c1,c2⟩:=e1
  simp only[x0I,DataW.weightsAll,List.all_append,x0a]at hw
  obtain⟨ds,g1,g2⟩:=ih row y.1 y.2 c2 hw.1
  obtain⟨es,vs,h1,h2,h3,h4,h5⟩:=ni hl ih c (s+1) r e2 hw.2
  have hrow:=World.cells?_some c1
  refine⟨ds::es,row++vs,by simp[h1],by simp[h2],?_,⟨row,vs,rfl,g2,h4⟩,fun j v hj=>?_⟩
  ·intro x hx
   rcases x0M.1 hx with rfl|hx
   ·exact g1
   ·exact h3 x hx
  ·have hrl:row.length=k:=by rw[g2.length,g1.length,hl]
   have addadd:∀i j,(a.add i).add j=a.add (i+j):=fun i j=>by
    unfold Addr.add
    by_cases hi:i=0<;>by_cases hj:j=0<;>simp[hi,hj,x0N]
   by_cases hjk:j<k
   ·rw[x0t (by omega)]at hj
    have:=hrow.2.2 j hjk
    rw[hj,addadd]at this
    exact this
   ·rw[x0v (by omega)]at hj
    have:=h5 (j-row.length) v hj
    rw[hrl]at this
    rwa[show(s+1)*k+(j-k)=s*k+j by rw[x0T];omega]at this
theorem mj:∀(m:Nat) (n:Nat) (t:TypeId) (shs:List Sh),nL P m t=some shs->vz enc P F w sp n t shs
 | 0,_,_,_,h=>by cases h
 | m+1,0,t,shs,_=>fun cs d ps h _=>by simp[DataW.trod]at h
 | m+1,n+1,t,shs,h=>by
  intro cs d ps ht hw
  rw[nL]at h
  split at h
  ·rename_i hu
   cases h
   unfold DataW.trod at ht;rw[hu]at ht
   split at ht<;>try (simp_all;done)
   rename_i b _
   refine⟨[.bool b],⟨_,_,rfl,⟨b,rfl⟩,rfl⟩,by simp[aq,af]⟩
  ·rename_i k hu
   cases h
   unfold DataW.trod at ht;rw[hu]at ht
   split at ht<;>try (simp_all;done)
   rename_i k1 k2 x h1
   simp only[x0k,TypeDesc.int.injEq]at h1
   subst h1
   split at ht
   ·rename_i hk
    obtain⟨rfl,hwf⟩:=hk
    exact⟨[.int _ x],⟨_,_,rfl,⟨x,rfl,hwf⟩,rfl⟩,by simp[aq,af]⟩
   ·cases ht
  ·rename_i hu
   cases h
   unfold DataW.trod at ht;rw[hu]at ht
   split at ht<;>try (simp_all;done)
   rename_i s _
   split at ht
   ·rename_i hs
    simp only[x0k,Prod.mk.injEq]at ht
    obtain⟨rfl,rfl⟩:=ht
    simp only[DataW.weights,List.all_cons,List.all_nil,Bool.and_true,x0d]at hw
    refine⟨[.str s.data.toList],⟨_,_,rfl,⟨_,rfl,?_⟩,rfl⟩,?_⟩
    ·have:=reachBytes_lt;omega
    ·obtain⟨s⟩:=s
     simp[aq,af]
   ·cases ht
  ·rename_i e hu
   split at h
   case h_2=>cases h
   rename_i l hl
   split at h
   case isFalse=>cases h
   rename_i hk
   cases h
   unfold DataW.trod at ht;rw[hu]at ht
   split at ht<;>try (simp_all;done)
   ·refine⟨[.nils],⟨_,_,rfl,⟨[],.inr ⟨rfl,rfl⟩,by simp,by simp⟩,rfl⟩,by simp[aq,af]⟩
   ·rename_i e' a len cap h1
    simp only[x0k,TypeDesc.slice.injEq]at h1
    subst h1
    simp only at ht
    split at ht
    case isFalse=>cases ht
    rename_i hb
    rw[Option.bind_eq_some_iff]at ht
    obtain⟨xs,e1,e2⟩:=ht
    rw[x0j]at e2
    obtain⟨rest,e3,e4⟩:=e2
    simp only[Prod.mk.injEq]at e4
    obtain⟨rfl,rfl⟩:=e4
    simp only[DataW.weights,hu,List.all_cons,List.all_append,x0a,x0d]at hw
    obtain⟨w1,w2,w3⟩:=hw
    rw[List.range_eq_range']at e1
    obtain⟨es,vs,g1,g2,g3,g4,g5⟩:=ni (F:=F) hk.1 (mj m n e l hl) len 0 xs e1 w2
    refine⟨[.sl es],⟨_,_,rfl,⟨es,.inl rfl,?_,g3⟩,rfl⟩,?_⟩
    ·have h5:=reachBytes_lt
     have h6:es.length*1<=(xs.length+rest.length)*P.bytesOf e:=x06 (by omega) hk.2
     simp only[x08]at w1
     omega
    ·simp only[aq]
     refine⟨_,_,rfl,?_,rfl⟩
     simp only[af]
     refine⟨some a,cap,vs,P.cellsOf e,by rw[g1],by omega,g4,fun r hr=>by rw[(g3 r hr).length,hk.1],fun _=>⟨a,rfl,fun j v hj=>?_⟩⟩
     have:=g5 j v hj
     simpa using this
  ·rename_i fs hu
   split at h
   case h_2=>cases h
   rename_i l hl
   split at h
   case isFalse=>cases h
   rename_i hk
   cases h
   unfold DataW.trod at ht;rw[hu]at ht
   split at ht<;>try (simp_all;done)
   rename_i fs' h1
   simp only[x0k,TypeDesc.struct.injEq]at h1
   subst h1
   split at ht
   case isFalse=>cases ht
   rename_i hc
   rw[x0j]at ht
   obtain⟨xs,e1,e2⟩:=ht
   simp only[Prod.mk.injEq]at e2
   obtain⟨rfl,rfl⟩:=e2
   simp only[DataW.weights,hu]at hw
   obtain⟨ds,g1,g2⟩:=nh (F:=F) (n:=n) (fun t shs h=>mj m n t shs h) fs.toList 0 xs _ e1 hl hw (by omega)
   exact⟨ds,g1,by simpa using g2⟩
  ·cases h
theorem rE{t:TypeId}{fs:Array Field}{m:Nat}{shs:List Sh}{base:Nat}{v:Value}{d:DataW H}{ps:List MemPlace}(hu:P.underlying t=some (.struct fs))(hsh:nL P m t=some shs)(hv:Value.okWide P w .any base t v)(h:DataW.Trod enc P w 0 sp true t v d ps)(hw:(d.weights P t).all (·<=reachBytes)=true) :
  ∃ds,bN shs ds/\af F (mA w) (.agg ds) v:=by
 obtain⟨cs,rfl,_⟩:=okWide_struct hu hv
 obtain⟨n,hn⟩:=h
 obtain⟨ds,g1,g2⟩:=mj (F:=F) m n t shs hsh _ d ps hn hw
 exact⟨ds,g1,by simp only[af];exact⟨cs.toList,by simp,g2⟩⟩
theorem od{t e:TypeId}{m:Nat}{sh:Sh}{base:Nat}{v:Value}{d:DataW H}{ps:List MemPlace}(hu:P.underlying t=some (.slice e))(hsh:nL P m t=some [sh])(hv:Value.okWide P w .any base t v)(h:DataW.Trod enc P w 0 sp true t v d ps)(hw:(d.weights P t).all (·<=reachBytes)=true) :
  ∃x,dw sh x/\af F (mA w) x v:=by
 obtain⟨a,len,cap,rfl⟩:=okWide_slice hu hv
 obtain⟨n,hn⟩:=h
 obtain⟨ds,g1,g2⟩:=mj (F:=F) m n t [sh] hsh _ d ps hn hw
 simp only[bN]at g1
 obtain⟨x,r,rfl,g3,rfl⟩:=g1
 simp only[Value.cells,aq]at g2
 obtain⟨v',r',e,g4,rfl⟩:=g2
 simp at e
 exact⟨x,g3,by rw[e];exact g4⟩
end
theorem nx{α:Type}{f:α->List D}{es:List (List D)}(h:∀e∈es,∃x,e=f x):∃xs:List α,es=xs.map f:=by
 induction es with
 | nil=>exact⟨[],rfl⟩
 | cons e es ih =>
  obtain⟨x,rfl⟩:=h e (by simp)
  obtain⟨xs,rfl⟩:=ih (fun e he=>h e (by simp[he]))
  exact⟨x::xs,rfl⟩
end Go.Gv
namespace Go.Gv
def BT(P:Program)(F:Fid)(prog:Nat->Option ar)(tbl:List (Nat×Nat)):Bool:=tbl.all fun p=>mZ P p.2&&match prog p.1 with
 | some nf=>dz P F p.2 nf
 | none=>true
theorem uL{tbl:List (Nat×Nat)}{g f:Nat}(h:tbl.lookup g=some f):(g,f)∈tbl:=by
 induction tbl with
 | nil=>cases h
 | cons p r ih =>
  obtain⟨a,b⟩:=p
  rw[x0i]at h
  cases e:g==a with
  | true=>rw[e]at h;simp at e h;subst e;subst h;simp
  | false=>rw[e]at h;simp[ih h]
theorem seat{P:Program}{tbl:List (Nat×Nat)}{ty:Nat->TypeId}{prog:Nat->Option ar}(hm:P.follows .mixedOrders=true)(hl:laidOutB P=true)(h:BT P ⟨P,fun g=>tbl.lookup g,ty,fun _=>.nilIface⟩ prog tbl=true) :
  bD P ⟨P,fun g=>tbl.lookup g,ty,fun _=>.nilIface⟩ (gy P ⟨P,fun g=>tbl.lookup g,ty,fun _=>.nilIface⟩)/\al prog (gy P ⟨P,fun g=>tbl.lookup g,ty,fun _=>.nilIface⟩):=by
 have key:∀g f,tbl.lookup g=some f->mZ P f=true/\∀nf,prog g=some nf->dz P ⟨P,fun g=>tbl.lookup g,ty,fun _=>.nilIface⟩ f nf=true:=fun g f e=>by
  have:=x0f.1 h _ (uL e)
  simp only[x0a]at this
  refine⟨this.1,fun nf hnf=>?_⟩
  have:=this.2
  rw[hnf]at this
  exact this
 exact qX hm (fun g f e=>(key g f e).1) hl rfl (fun g f nf e hp=>(key g f e).2 nf hp)
end Go.Gv

namespace Go.Gv
open Go.Proofs
def TryzTbl : List (Nat × Nat) := [(0, 2), (539, 4), (153, 5), (572, 6), (155, 7), (578, 8), (579, 9), (482, 13), (573, 14), (574, 15), (450, 16), (158, 17), (157, 18), (156, 19), (453, 20), (617, 21), (455, 22), (154, 23), (45, 24), (159, 25), (164, 26), (491, 27), (622, 28), (493, 29), (623, 30), (618, 31), (624, 32), (175, 33), (625, 34), (626, 35), (619, 36), (498, 44), (169, 45), (485, 46), (160, 47), (161, 48), (163, 49), (162, 50), (181, 51), (52, 52), (168, 53), (170, 54), (171, 55), (509, 56), (510, 57), (433, 58), (44, 59), (641, 60), (642, 61), (315, 62), (643, 63), (644, 64), (471, 65), (428, 66), (176, 77), (166, 78), (167, 79), (47, 80), (165, 81), (58, 82), (172, 83), (173, 84), (174, 85), (177, 86), (178, 87), (72, 88), (179, 89), (180, 90), (182, 91), (470, 92), (472, 93), (51, 94), (333, 95), (499, 96), (460, 97), (461, 98), (91, 117), (53, 118), (60, 119), (61, 120), (70, 121), (71, 122), (11, 123), (183, 124), (184, 125), (89, 126), (185, 127), (503, 128), (504, 129), (59, 130), (339, 131), (492, 132), (494, 133), (495, 134), (496, 135), (497, 136), (73, 149), (74, 150), (75, 151), (76, 152), (77, 153), (88, 154), (35, 155), (514, 156), (515, 157), (516, 158), (517, 159), (518, 160), (519, 161), (511, 162), (90, 171), (92, 172), (522, 173), (366, 174), (523, 175), (411, 176), (524, 177), (96, 186), (97, 187), (98, 188), (99, 189), (100, 190), (101, 191), (102, 192), (299, 195), (103, 201), (104, 202), (105, 203), (106, 204), (107, 205), (108, 206), (109, 207), (110, 208), (111, 209), (112, 221), (113, 222)]
def TryzTys : List (Nat × Nat) := [(0, 9), (1, 4)]
set_option maxRecDepth 100000 in
theorem Tryz_all : BT Tryz.prog ⟨Tryz.prog, fun g => TryzTbl.lookup g, fun t => (TryzTys.lookup t).getD 0, fun _ => .nilIface⟩ prog TryzTbl = true := by kernel_rfl
end Go.Gv

namespace Go.Proofs
open Go.Shelf
def Tryz.lays189_ren : Go.Shelf.Ren := ⟨fun | 189 => 174 | 125 => 194 | 257 => 193 | 128 => 218 | 129 => 209 | 294 => 210 | 295 => 211 | 296 => 212 | 297 => 213 | 298 => 214 | 299 => 215 | 216 => 176 | 300 => 216 | 301 => 217 | 328 => 225 | 329 => 226 | 330 => 227 | 331 => 228 | 332 => 229 | 215 => 195 | 343 => 230 | n => n, fun | 28 => 45 | 3 => 3 | 46 => 126 | 0 => 0 | 51 => 155 | 53 => 111 | 4 => 4 | 183 => 229 | 182 => 228 | 131 => 176 | 5 => 5 | 9 => 9 | 218 => 237 | 222 => 103 | 228 => 242 | 229 => 38 | n => n, fun | n => n⟩
theorem Tryz.lays189 : Go.Proofs.Lays.n189 Tryz.prog Tryz.lays189_ren := {
 mixed := by kernel_rfl
 f125 := Tryz.func194.trans (congrArg some (by kernel_rfl))
 f128 := Tryz.func218.trans (congrArg some (by kernel_rfl))
 f129 := Tryz.func209.trans (congrArg some (by kernel_rfl))
 f189 := Tryz.func174.trans (congrArg some (by kernel_rfl))
 f215 := Tryz.func195.trans (congrArg some (by kernel_rfl))
 f216 := Tryz.func176.trans (congrArg some (by kernel_rfl))
 f257 := Tryz.func193.trans (congrArg some (by kernel_rfl))
 f294 := Tryz.func210.trans (congrArg some (by kernel_rfl))
 f295 := Tryz.func211.trans (congrArg some (by kernel_rfl))
 f296 := Tryz.func212.trans (congrArg some (by kernel_rfl))
 f297 := Tryz.func213.trans (congrArg some (by kernel_rfl))
 f298 := Tryz.func214.trans (congrArg some (by kernel_rfl))
 f299 := Tryz.func215.trans (congrArg some (by kernel_rfl))
 f300 := Tryz.func216.trans (congrArg some (by kernel_rfl))
 f301 := Tryz.func217.trans (congrArg some (by kernel_rfl))
 f328 := Tryz.func225.trans (congrArg some (by kernel_rfl))
 f329 := Tryz.func226.trans (congrArg some (by kernel_rfl))
 f330 := Tryz.func227.trans (congrArg some (by kernel_rfl))
 f331 := Tryz.func228.trans (congrArg some (by kernel_rfl))
 f332 := Tryz.func229.trans (congrArg some (by kernel_rfl))
 f343 := Tryz.func230.trans (congrArg some (by kernel_rfl))
 t0 := Tryz.underlying0
 a0 := Tryz.isAgg0
 z0 := Tryz.sizeOf0
 v0 := Tryz.zeroValue0
 t3 := Tryz.underlying3
 a3 := Tryz.isAgg3
 z3 := Tryz.sizeOf3
 v3 := Tryz.zeroValue3
 t4 := Tryz.underlying4
 a4 := Tryz.isAgg4
 z4 := Tryz.sizeOf4
 v4 := Tryz.zeroValue4
 t5 := Tryz.underlying5
 a5 := Tryz.isAgg5
 z5 := Tryz.sizeOf5
 v5 := Tryz.zeroValue5
 t9 := Tryz.underlying9
 a9 := Tryz.isAgg9
 z9 := Tryz.sizeOf9
 v9 := Tryz.zeroValue9
 t28 := Tryz.underlying45
 a28 := Tryz.isAgg45
 z28 := Tryz.sizeOf45
 v28 := Tryz.zeroValue45
 t46 := Tryz.underlying126
 a46 := Tryz.isAgg126
 z46 := Tryz.sizeOf126
 v46 := Tryz.zeroValue126
 t51 := Tryz.underlying155
 a51 := Tryz.isAgg155
 z51 := Tryz.sizeOf155
 v51 := Tryz.zeroValue155
 t53 := Tryz.underlying111
 a53 := Tryz.isAgg111
 z53 := Tryz.sizeOf111
 v53 := Tryz.zeroValue111
 t131 := Tryz.underlying176
 a131 := Tryz.isAgg176
 z131 := Tryz.sizeOf176
 v131 := Tryz.zeroValue176
 t182 := Tryz.underlying228
 a182 := Tryz.isAgg228
 z182 := Tryz.sizeOf228
 v182 := Tryz.zeroValue228
 t183 := Tryz.underlying229
 a183 := Tryz.isAgg229
 z183 := Tryz.sizeOf229
 v183 := Tryz.zeroValue229
 t218 := Tryz.underlying237
 a218 := Tryz.isAgg237
 z218 := Tryz.sizeOf237
 v218 := Tryz.zeroValue237
 t222 := Tryz.underlying103
 a222 := Tryz.isAgg103
 z222 := Tryz.sizeOf103
 v222 := Tryz.zeroValue103
 t228 := Tryz.underlying242
 a228 := Tryz.isAgg242
 z228 := Tryz.sizeOf242
 v228 := Tryz.zeroValue242
 t229 := Tryz.underlying38
 a229 := Tryz.isAgg38
 z229 := Tryz.sizeOf38
 v229 := Tryz.zeroValue38 }
def Tryz.laysNm220_ren : Go.Shelf.Ren := ⟨fun | 20 => 175 | n => n, fun | 22 => 45 | 3 => 3 | 4 => 4 | 0 => 0 | n => n, fun | n => n⟩
theorem Tryz.laysNm220 : Go.Proofs.Lays2.n20 Tryz.prog Tryz.laysNm220_ren := {
 mixed := by kernel_rfl
 f20 := Tryz.func175.trans (congrArg some (by kernel_rfl))
 t0 := Tryz.underlying0
 a0 := Tryz.isAgg0
 z0 := Tryz.sizeOf0
 v0 := Tryz.zeroValue0
 t3 := Tryz.underlying3
 a3 := Tryz.isAgg3
 z3 := Tryz.sizeOf3
 v3 := Tryz.zeroValue3
 t4 := Tryz.underlying4
 a4 := Tryz.isAgg4
 z4 := Tryz.sizeOf4
 v4 := Tryz.zeroValue4
 t22 := Tryz.underlying45
 a22 := Tryz.isAgg45
 z22 := Tryz.sizeOf45
 v22 := Tryz.zeroValue45
 i3 := by kernel_rfl }
def Tryz.laysNm221_ren : Go.Shelf.Ren := ⟨fun | 21 => 161 | 27 => 178 | 28 => 179 | 35 => 196 | 39 => 219 | n => n, fun | 22 => 45 | 3 => 3 | 4 => 4 | 0 => 0 | n => n, fun | n => n⟩
theorem Tryz.laysNm221 : Go.Proofs.Lays2.n21 Tryz.prog Tryz.laysNm221_ren := {
 mixed := by kernel_rfl
 f21 := Tryz.func161.trans (congrArg some (by kernel_rfl))
 f27 := Tryz.func178.trans (congrArg some (by kernel_rfl))
 f28 := Tryz.func179.trans (congrArg some (by kernel_rfl))
 f35 := Tryz.func196.trans (congrArg some (by kernel_rfl))
 f39 := Tryz.func219.trans (congrArg some (by kernel_rfl))
 t0 := Tryz.underlying0
 a0 := Tryz.isAgg0
 z0 := Tryz.sizeOf0
 v0 := Tryz.zeroValue0
 t3 := Tryz.underlying3
 a3 := Tryz.isAgg3
 z3 := Tryz.sizeOf3
 v3 := Tryz.zeroValue3
 t4 := Tryz.underlying4
 a4 := Tryz.isAgg4
 z4 := Tryz.sizeOf4
 v4 := Tryz.zeroValue4
 t22 := Tryz.underlying45
 a22 := Tryz.isAgg45
 z22 := Tryz.sizeOf45
 v22 := Tryz.zeroValue45
 i3 := by kernel_rfl }
end Go.Proofs

namespace Go.Gv
open Go.Sort
section
variable{P:Program}{F:Fid}{α:Type}[Inhabited α]
def jH(encD:α->D)(d:Array α):List (List D):=d.toList.map fun x=>[encD x]
theorem nY{f:FuncId}(enc:α->Value)(encD:α->D)(hflat:∀M x u,af F M (encD x) u->u=enc x)(hrep:∀M x,af F M (encD x) (enc x))(d d':Array α)(hsz:d'.size=d.size)(ds:List D)
  (hnone:d.size=0->∀(M:Mem) (w:World) (vs:List Value) (A:Option Addr),(∀p v,M p=some v->w.cell? p=some v)->aq F M ds vs->Calls P f (.slice A 0 0::vs).toArray w fun e w'=>e=.returned (.tuple #[])/\∃n os,w'=grow (Sort.ahead w n) os)
  (hrun:∀(M:Mem) (w:World) (vs:List Value) (blk off cap:Nat),(∀p v,M p=some v->w.cell? p=some v)->(∀p:Addr,p.block=blk->M p=none)->aq F M ds vs->Holds enc w blk off d->blk<w.heap.size ->
   Calls P f (.slice (some ⟨blk,off,none⟩) d.size cap::vs).toArray w fun e w'=>e=.returned (.tuple #[])/\∃n os,w'=grow (putRow enc (Sort.ahead w n) blk off d') os):vF P F f 1 (jH encD d) ds (jH encD d'):=by
 intro M w vs hh r
 have hl:(jH encD d).length=d.size:=by simp[jH]
 refine⟨fun e A=>?_,fun b o T us cap hM hb hcell hcap hle hu hc=>?_⟩
 ·have h0:d.size=0:=by rw[<- hl,e];rfl
  refine(hnone h0 M w vs A hh r).mono ?_
  rintro e0 w' ⟨rfl,n,os,rfl⟩
  exact⟨rfl,rfl,rfl,rfl,by simp[grow,Sort.ahead],fun k hk=>by simp only[grow,Sort.ahead];rw[Array.getElem?_append_left hk],Nat.le_add_right _ _⟩
 ·rw[hl]at hcap ⊢
  have hH:Holds enc w b o d:=fun j hj=>by
   obtain⟨u,k1,k2⟩:=hc j [encD d[j]] 0 (encD d[j]) (by simp[jH,hj]) rfl
   have:=hflat _ _ _ k2
   subst this
   have e1:d[j]! = d[j]:=x0g d j hj
   rw[e1]
   have k3:us[o+j]? = some (enc d[j]):=by simpa using k1
   constructor
   ·simp[World.cell?,hcell,k3]
   ·simp[World.frozen?,hcell]
  refine(hrun M w vs b o cap hh hM r hH hb).mono ?_
  rintro e0 w' ⟨rfl,n,os,rfl⟩
  have hput:(grow (putRow enc (Sort.ahead w n) b o d') os).heap[b]? = some (.cells (putCells enc o d' us.toArray) T (0,0)):=by
   simp only[grow,putRow,mapBlock,Sort.ahead]
   rw[Array.getElem?_append_left (by simpa using hb),x1E,if_pos rfl,hcell]
   rfl
  refine⟨rfl,(putCells enc o d' us.toArray).toList,by rw[x0P];exact hput,by simp[putCells],fun i r off x hi hr=>?_,⟨rfl,rfl,rfl,by simp[grow,putRow,mapBlock,Sort.ahead],fun k hk hne=>?_,Nat.le_add_right _ _⟩⟩
  ·simp only[jH,x0x,x0j]at hi
   obtain⟨y,h1,rfl⟩:=hi
   have ho:off=0:=by
    have:=(x0b.1 hr).1
    simpa using this
   subst ho
   simp only[x0X,x0k]at hr
   subst hr
   have hi2:i<d'.size:=by have:=(x0b.1 h1).1;simpa using this
   have hy:d'[i]! = y:=by
    rw[x0g d' i hi2]
    have:=(x0b.1 h1).2
    simpa using this
   refine⟨enc y,?_,hrep _ _⟩
   have hlt:o+i<us.length:=by
    have:o+cap*1<=us.length:=hle
    omega
   rw[Nat.mul_one,x0U,Array.getElem?_toList]
   simp only[putCells,Array.getElem?_mapIdx,x1a]
   rw[x0e hlt]
   simp only[x1b]
   rw[if_pos ⟨by omega,by omega⟩,show o+i-o=i by omega,hy]
  ·simp only[grow,putRow,mapBlock,Sort.ahead]
   rw[Array.getElem?_append_left (by simpa using hk),x1E,if_neg (Ne.symm hne)]
end
end Go.Gv

namespace Go.Gv
open Go.Sort Go.Proofs Go.Shelf
section
variable{P:Program}{F:Fid}{ρ:Ren}
def ze(zs:List Int):List (List D):=zs.map fun n=>[.int .i64 n]
theorem iw{zs:List Int}{i:Nat}{r:List D}{off:Nat}{d:D}(h1:(ze zs)[i]? = some r)(h2:r[off]? = some d):∃x,zs[i]? = some x/\off=0/\d=.int .i64 x:=by
 simp only[ze,x0x,x0j]at h1
 obtain⟨x,h1,rfl⟩:=h1
 have ho:off=0:=by have:=(x0b.1 h2).1;simpa using this
 subst ho
 simp only[x0X,x0k]at h2
 exact⟨x,h1,rfl,h2.symm⟩
theorem mS{M:Mem}{zs:List Int}{us:List Value}{o:Nat}(hc:∀i r off d,(ze zs)[i]? = some r->r[off]? = some d->∃u,us[o+i*1+off]? = some u/\af F M d u):∀j x,zs[j]? = some x->us[o+j]? = some (.int .i64 x):=by
 intro j x hj
 obtain⟨u,k1,k2⟩:=hc j [.int .i64 x] 0 (.int .i64 x) (by simp[ze,hj]) rfl
 simp only[af]at k2
 subst k2
 simpa using k1
theorem nC(Ly:Lays.n189 P ρ){g:Nat}(hg:∀f,F g=some f->f=ρ.f 189)(zs:List Int)(hz:zs.length<2^40) :
  gy P F g [.own 1 (zs.map fun n=>[.int .i64 n])] .any [.own 1 ((zs.mergeSort fun x y=>decide (x<=y)).map fun n=>[.int .i64 n]),.nilp]:=by
 refine⟨trivial,fun f hf=>⟨rfl,?_⟩⟩
 obtain rfl:=hg f hf
 have k:=nY (P:=P) (F:=F) (f:=ρ.f 189) (Value.int .i64) (D.int .i64) (fun M x u h=>by simpa only[af]using h) (fun M x=>by simp only[af]) zs.toArray (zs.mergeSort fun x y=>decide (x<=y)).toArray (by simp[List.length_mergeSort]) []
  (fun h M w vs A hh r=>by
   simp only[aq]at r
   subst r
   refine(Any.slices_Sort_int_none Ly A 0 w).mono ?_
   rintro e w' ⟨rfl,rfl⟩
   exact⟨rfl,0,#[],by simp[grow,Sort.ahead]⟩)
  (fun M w vs blk off cap hh hM r hH hb=>by
   simp only[aq]at r
   subst r
   have:=Any.slices_Sort_int Ly blk off cap zs w hH hb (by omega)
   simpa using this)
 simpa[jH]using k
theorem nX(L:Lays2.n20 P ρ){g:Nat}(hg:∀f,F g=some f->f=ρ.f 20)(zs:List Int)(hz:zs.length<2^40) :
  gy P F g [.own 1 (zs.map fun n=>[.int .i64 n])] .any [.own 1 ((Lib.compact zs).map fun n=>[.int .i64 n]),.nils,.nils]:=by
 refine⟨trivial,fun f hf=>⟨rfl,?_⟩⟩
 obtain rfl:=hg f hf
 refine o6.to ?_
 intro M w vs hh
 have nil:∀{b:Option Nat},ly F M w b [] vs->vs=[]:=fun h=>x0K h.1.symm
 refine⟨fun e A r=>?_,fun b o T us cap r hM hb hcell hcap hmc hle hu hc=>?_⟩
 ·rw[nil r]
  have h0:zs=[]:=by simpa using e
  subst h0
  refine(Any.slices_Compact_int_empty L A 0 w).mono ?_
  rintro e w' ⟨rfl,rfl⟩
  exact⟨_,rfl,Bel.refl _,.inl ⟨rfl,A,rfl⟩⟩
 ·rw[nil r]
  have hget:=mS hc
  have hl:(zs.map fun n=>[D.int .i64 n]).length=zs.length:=by simp
  rw[hl]at hcap ⊢
  have hH:Holds (Value.int .i64) w b o zs.toArray:=fun j hj=>by
   have hj2:j<zs.length:=by simpa using hj
   have e1:zs.toArray[j]! = zs[j]:=by rw[x0g zs.toArray j hj];simp
   have k3:=hget j zs[j] (x0e hj2)
   rw[e1]
   exact⟨by simp[World.cell?,hcell,k3],by simp[World.frozen?,hcell]⟩
  obtain⟨d',hd'⟩:∃d',d'=(Lib.compact zs++List.replicate (zs.length-(Lib.compact zs).length) 0).toArray:=⟨_,rfl⟩
  have hcl:(Lib.compact zs).length<=zs.length:=by
   unfold Lib.compact Lib.compactUpTo
   rw[x08]
   have:=x05 (Lib.keeps zs.toArray) (List.range zs.length)
   simpa using this
  have hsz:d'.size=zs.length:=by rw[hd'];simp;omega
  refine(Any.slices_Compact_int L b o cap zs w hH (by omega) hcap).mono ?_
  rintro e w' ⟨rfl,q,rfl⟩
  rw[<- hd']
  have hput:(putRow (Value.int .i64) (Sort.ahead w q) b o d').heap[b]? = some (.cells (putCells (Value.int .i64) o d' us.toArray) T (0,0)):=by
   simp only[putRow,mapBlock,Sort.ahead]
   rw[x1E,if_pos rfl,hcell]
   rfl
  refine⟨_,rfl,(putCells (Value.int .i64) o d' us.toArray).toList,by rw[x0P];exact hput,by simp[putCells],⟨rfl,rfl,rfl,by simp[putRow,mapBlock,Sort.ahead],fun k hk hne=>?_,Nat.le_add_right _ _⟩,.inl ⟨by simp,by simp;omega,fun i r off d h1 h2=>?_⟩⟩
  ·simp only[putRow,mapBlock,Sort.ahead]
   rw[x1E,if_neg (Ne.symm hne)]
  ·obtain⟨x,h3,rfl,rfl⟩:=iw h1 h2
   have hi:i<(Lib.compact zs).length:=(x0b.1 h3).1
   refine⟨.int .i64 x,?_,by simp only[af]⟩
   have hlt:o+i<us.length:=by omega
   have hy:d'[i]! = x:=by
    rw[x0g d' i (by omega)]
    have:d'[i]? = some x:=by rw[hd'];simp[x0t hi,h3]
    exact(Array.getElem?_eq_some_iff.1 this).2
   rw[Nat.mul_one,x0U,Array.getElem?_toList]
   simp only[putCells,Array.getElem?_mapIdx,x1a]
   rw[x0e hlt]
   simp only[x1b]
   rw[if_pos ⟨by omega,by omega⟩,show o+i-o=i by omega,hy]
theorem l9{zs:List Int}{i:Nat}(hi:i<=zs.length)(x:Int)(j:Nat):(zs.take i++x::zs.drop i)[j]? = if j<i then zs[j]? else if j=i then some x else zs[j-1]?:=by
 have hl:(zs.take i).length=i:=by simp;omega
 by_cases h1:j<i
 ·rw[if_pos h1,x0t (by omega),x0B h1]
 ·rw[if_neg h1,x0v (by omega),hl]
  by_cases h2:j=i
  ·subst h2;simp
  ·rw[if_neg h2,show j-i=(j-i-1)+1 by omega,List.getElem?_cons_succ,x0u]
   congr 1
   omega
theorem pL(L:Lays2.n21 P ρ){g:Nat}(hg:∀f,F g=some f->f=ρ.f 21)(zs:List Int)(i:Nat)(x:Int)(hi:i<=zs.length)(hz:zs.length<2^40) :
  gy P F g [.own 1 (zs.map fun n=>[.int .i64 n]),.int .i64 i,.own 1 [[.int .i64 x]]] .any [.own 1 ((zs.take i++x::zs.drop i).map fun n=>[.int .i64 n]),.nils,.nils]:=by
 refine⟨trivial,fun f hf=>⟨rfl,?_⟩⟩
 obtain rfl:=hg f hf
 refine o6.to ?_
 intro M w vs hh
 have args:∀{b:Option Nat},ly F M w b [.int .i64 i,.own 1 [[.int .i64 x]]] vs->∃(B o:Nat) (T:TypeId) (us:List Value) (cap:Nat),vs=[.int .i64 i,.slice (some ⟨B,o,none⟩) 1 cap]/\b≠some B/\w.heap[B]? = some (.cells us.toArray T (0,0))/\us[o]? = some (.int .i64 x):=by
  rintro b ⟨h1,h2⟩
  match vs,h1 with
  | [v0,v1],_ =>
   have a:=h2 0 _ _ rfl rfl
   have c:=h2 1 _ _ rfl rfl
   simp only[Ca,af]at a
   subst a
   rcases c with ⟨e,_⟩|⟨B,o,T,us,cap,rfl,h3,h4,h5,h6,h7⟩
   ·cases e
   ·obtain⟨u,k1,k2⟩:=h7 0 [.int .i64 x] 0 (.int .i64 x) rfl rfl
    simp only[af]at k2
    subst k2
    exact⟨B,o,T,us,cap,rfl,h3,h4,by simpa using k1⟩
 have cellOf:∀{w:World} {b:Nat} {us:List Value} {T:TypeId} {k:Nat} {v:Value},w.heap[b]? = some (.cells us.toArray T (0,0))->us[k]? = some v->w.cell? ⟨b,k,none⟩=some v:=fun h1 h2=>by simp[World.cell?,h1,h2]
 have frz:∀{w:World} {b:Nat} {us:List Value} {T:TypeId} {k:Nat},w.heap[b]? = some (.cells us.toArray T (0,0))->w.frozen? ⟨b,k,none⟩=false:=fun h1=>by simp[World.frozen?,h1]
 have one:∀v∈[Value.int .i64 x],v.oneCell'=true:=by intro v hv;simp at hv;subst hv;rfl
 have hzc:(Value.int .i64 0).cells.size=1:=rfl
 refine⟨fun e A r=>?_,fun b o T us cap r hM hb hcell hcap hmc hle hu hc=>?_⟩
 ·obtain⟨B,o,T,us,cap,rfl,_,h4,h5⟩:=args r
  have h0:zs=[]:=by simpa using e
  subst h0
  have hi0:i=0:=by simpa using hi
  subst hi0
  refine(Any2.slices_Insert_int_end_grow L A 0 0 B o 1 cap [] [.int .i64 x] w (by omega) (by omega) (by omega) (by omega) rfl rfl (fun _=>rfl) (fun a _ j v hj=>by simp at hj) (fun j v hj=>by
   cases j with
   | zero=>simp at hj;subst hj;exact cellOf h4 (by simpa using h5)
   | succ j=>simp at hj) one).mono ?_
  rintro e w' ⟨rfl,rfl⟩
  obtain⟨G,hG⟩:∃G,G=grownCap w (0+1) 0 (ρ.t 3):=⟨_,rfl⟩
  have g1:=grownCap_ge w (0+1) 0 (ρ.t 3)
  have g2:=grownCap_le_maxLen w (0+1) 0 (ρ.t 3) (by decide)
  rw[<- hG]at g1 g2 ⊢
  refine⟨_,rfl,Bel.drewAlloc _ _,.inr ⟨w.heap.size,0,ρ.t 3,(([]++[Value.int .i64 x]).toArray++Builtin.zeroCells (Value.int .i64 0).cells (G-(0+1))).toList,G,by simp,x0r _,?_,by simpa using g1,⟨?_,g2⟩,fun j r' off d h1 h2=>?_⟩⟩
  ·rw[x0P];exact heap_alloc_new w.drew _
  ·simp[size_zeroCells,hzc];omega
  ·obtain⟨y,h3,rfl,rfl⟩:=iw h1 h2
   cases j with
   | zero=>simp at h3;subst h3;exact⟨.int .i64 x,by simp,by simp only[af]⟩
   | succ j=>simp at h3
 ·obtain⟨B,o',T',us',cap',rfl,hne,h4,h5⟩:=args r
  have hBb:B≠b:=fun e=>hne (by rw[e])
  have hget:=mS hc
  have hl:(zs.map fun n=>[D.int .i64 n]).length=zs.length:=by simp
  have hlr:((zs.take i++x::zs.drop i).map fun n=>[D.int .i64 n]).length=zs.length+1:=by simp;omega
  rw[hl]at hcap ⊢
  rw[hlr]
  have hcs:∀j v,(zs.map (Value.int .i64))[j]? = some v->w.cell? ⟨b,o+j,none⟩=some v:=fun j v hj=>by
   rw[x0x,x0j]at hj
   obtain⟨y,hj,rfl⟩:=hj
   exact cellOf hcell (hget j y hj)
  have hvs:∀j v,[Value.int .i64 x][j]? = some v->w.cell? ⟨B,o'+j,none⟩=some v:=fun j v hj=>by
   cases j with
   | zero=>simp at hj;subst hj;exact cellOf h4 (by simpa using h5)
   | succ j=>simp at hj
  have h1c:∀v∈zs.map (Value.int .i64),v.oneCell'=true:=by
   intro v hv
   obtain⟨y,_,rfl⟩:=x0s.1 hv
   rfl
  have hus:o+cap<=us.length:=by simpa using hle
  have here:∀j,j<zs.length+1->zs.length+1<=cap->(w.cell? ⟨b,o+j,none⟩).isSome=true:=fun j hj hr=>by
   have hlt:o+j<us.length:=by omega
   rw[cellOf hcell (x0e hlt)];rfl
  by_cases hroom:zs.length+1<=cap
  ·-- in place
   have fin:∀(w':World) (us2:List Value) (n:Nat),us2.length=us.length->w'.heap[b]? = some (.cells us2.toArray T (0,0))->(∀k,k≠b->w'.heap[k]? = w.heap[k]?)->w'.heap.size=w.heap.size->w'.os=w.os->w'.tape=w.tape->w'.output=w.output->w'.drawn=w.drawn+n ->
     (∀j y,(zs.take i++x::zs.drop i)[j]? = some y->us2[o+j]? = some (.int .i64 y)) ->
     ∃v,Ending.returned (Value.slice (some ⟨b,o,none⟩) (zs.length+1) cap)=.returned v/\∃us2:List Value,w'.heap[b]? = some (.cells us2.toArray T (0,0))/\us2.length=us.length/\Ch (fun k=>k=b) w w' /\
      ((v=.slice (some ⟨b,o,none⟩) (zs.length+1) cap/\zs.length+1<=cap/\∀i' r off d,((zs.take i++x::zs.drop i).map fun n=>[D.int .i64 n])[i']? = some r->r[off]? = some d->∃u,us2[o+i'*1+off]? = some u/\af F M d u)\/fV F M w w' 1 ((zs.take i++x::zs.drop i).map fun n=>[D.int .i64 n]) v):=by
    intro w' us2 n e1 e2 e3 e4 e5 e6 e7 e8 e9
    refine⟨_,rfl,us2,e2,e1,⟨e5,e6,e7,Nat.le_of_eq e4.symm,fun k _ hk=>e3 k hk,by omega⟩,.inl ⟨rfl,hroom,fun j r' off d h1 h2=>?_⟩⟩
    obtain⟨y,h3,rfl,rfl⟩:=iw h1 h2
    exact⟨.int .i64 y,by simpa using e9 j y h3,by simp only[af]⟩
   rcases Nat.lt_or_eq_of_le hi with hlt|heq
   ·refine(Any2.slices_Insert_int_shift L b o zs.length cap i B o' 1 cap' (zs.map (Value.int .i64)) [.int .i64 x] w hlt (by omega) hroom hmc hBb (by simp) rfl hcs (fun j hj=>here j hj hroom) (fun j _=>frz hcell) hvs h1c one T' T us'.length us.length
     (by simp[World.shape?,h4]) (by simp[World.shape?,hcell]) (by omega) (frz h4) (frz h4)).mono ?_
    rintro e w' ⟨rfl,rfl⟩
    have hdl:((zs.map (Value.int .i64)).drop i).length=zs.length-i:=by simp
    obtain⟨s1,s2,s3,s4,s5,s6,s7⟩:=bO b T ((zs.map (Value.int .i64)).drop i) (o+(i+1)) us w.drew (by exact hcell) (by rw[hdl];omega)
    obtain⟨us1,hu1⟩:∃us1,us1=us.take (o+(i+1))++(zs.map (Value.int .i64)).drop i++us.drop (o+(i+1)+((zs.map (Value.int .i64)).drop i).length):=⟨_,rfl⟩
    rw[<- hu1]at s1
    have hl1:us1.length=us.length:=by rw[hu1];simp;omega
    obtain⟨t1,t2,t3,t4,t5,t6,t7⟩:=bO b T [Value.int .i64 x] (o+i) us1 _ s1 (by simp;omega)
    have g1:=fun y=>cp (vs:=us) (us:=(zs.map (Value.int .i64)).drop i) (q:=o+(i+1)) (n:=zs.length-i) (x:=y) hdl (by omega)
    have g2:=fun y=>cp (vs:=us1) (us:=[Value.int .i64 x]) (q:=o+i) (n:=1) (x:=y) rfl (by omega)
    rw[hdl]at hu1
    rw[<- hu1]at g1
    refine fin _ _ 1 (by simp;omega) t1 (fun k hk=>(t2 k hk).trans (s2 k hk)) (t3.trans s3) (t4.trans s4) (t5.trans s5) (t6.trans s6) (t7.trans s7) (fun j y hj=>?_)
    have hjl:j<zs.length+1:=by have:=(x0b.1 hj).1;simp at this;omega
    rw[l9 hi]at hj
    show(us1.take (o+i)++[Value.int .i64 x]++us1.drop (o+i+1))[o+j]? = _
    rw[g2]
    by_cases c1:j<i
    ·rw[if_pos c1]at hj
     rw[if_neg (by omega),g1,if_neg (by omega)]
     exact hget j y hj
    ·rw[if_neg c1]at hj
     by_cases c2:j=i
     ·subst c2
      rw[if_pos rfl]at hj
      rw[if_pos (by omega)]
      cases hj
      simp
     ·rw[if_neg c2]at hj
      rw[if_neg (by omega),g1,if_pos (by omega),x0u,show i+(o+j-(o+(i+1)))=j-1 by omega,x0x,hj]
      rfl
   ·subst heq
    refine(Any2.slices_Insert_int_end_room L b o zs.length cap B o' 1 cap' [.int .i64 x] w (by omega) hroom hmc rfl (fun j hj=>by
     have:=here (zs.length+j) (by omega) hroom
     rwa[<- x0N]at this) (fun j _=>frz hcell) hvs one).mono ?_
    rintro e w' ⟨rfl,rfl⟩
    obtain⟨t1,t2,t3,t4,t5,t6,t7⟩:=bO b T [Value.int .i64 x] (o+zs.length) us w hcell (by simp;omega)
    have g2:=fun y=>cp (vs:=us) (us:=[Value.int .i64 x]) (q:=o+zs.length) (n:=1) (x:=y) rfl (by omega)
    refine fin _ _ 0 (by simp;omega) t1 t2 t3 t4 t5 t6 t7 (fun j y hj=>?_)
    have hjl:j<zs.length+1:=by have:=(x0b.1 hj).1;simp at this;omega
    rw[l9 (x0r _)]at hj
    show(us.take (o+zs.length)++[Value.int .i64 x]++us.drop (o+zs.length+1))[o+j]? = _
    rw[g2]
    by_cases c1:j<zs.length
    ·rw[if_pos c1]at hj
     rw[if_neg (by omega)]
     exact hget j y hj
    ·have c2:j=zs.length:=by omega
     rw[if_neg c1,if_pos c2]at hj
     rw[if_pos (by omega)]
     cases hj
     rw[c2]
     simp
  ·-- a new row
   have hroom':cap<zs.length+1:=by omega
   obtain⟨G,hG⟩:∃G,G=grownCap w (zs.length+1) cap (ρ.t 3):=⟨_,rfl⟩
   have g1:=grownCap_ge w (zs.length+1) cap (ρ.t 3)
   have g2:=grownCap_le_maxLen w (zs.length+1) cap (ρ.t 3) (by unfold maxLen;omega)
   rcases Nat.lt_or_eq_of_le hi with hlt|heq
   ·refine(Any2.slices_Insert_int_grow L b o zs.length cap i B o' 1 cap' (zs.map (Value.int .i64)) [.int .i64 x] w hlt (by omega) hcap hroom' (by omega) (by simp) rfl hcs hvs h1c one).mono ?_
    rintro e w' ⟨rfl,rfl⟩
    rw[<- hG]at g1 g2 ⊢
    have hdl:((zs.map (Value.int .i64)).drop i).length=zs.length-i:=by simp
    obtain⟨row,hrow⟩:∃row:Array Value,row=((zs.map (Value.int .i64)).take i).toArray++Builtin.zeroCells (Value.int .i64 0).cells (zs.length+1-i)++Builtin.zeroCells (Value.int .i64 0).cells (G-(zs.length+1)):=⟨_,rfl⟩
    rw[<- hrow]
    have hrl:row.toList.length=G:=by rw[hrow];simp[size_zeroCells,hzc];omega
    have hnew:((w.alloc (.cells row (ρ.t 3))).drew).heap[w.heap.size]? = some (.cells row.toList.toArray (ρ.t 3) (0,0)):=by
     rw[x0P];exact heap_alloc_new w _
    obtain⟨s1,s2,s3,s4,s5,s6,s7⟩:=bO w.heap.size (ρ.t 3) [Value.int .i64 x] i row.toList ((w.alloc (.cells row (ρ.t 3))).drew) hnew (by simp only[List.length_singleton];omega)
    obtain⟨us1,hu1⟩:∃us1,us1=row.toList.take i++[Value.int .i64 x]++row.toList.drop (i+[Value.int .i64 x].length):=⟨_,rfl⟩
    rw[<- hu1]at s1
    have hl1:us1.length=G:=by rw[hu1];simp only[x0L,x09,x1B,List.length_singleton,hrl];omega
    obtain⟨t1,t2,t3,t4,t5,t6,t7⟩:=bO w.heap.size (ρ.t 3) ((zs.map (Value.int .i64)).drop i) (i+1) us1 ((((w.alloc (.cells row (ρ.t 3))).drew).setCells w.heap.size i [Value.int .i64 x]).drew) s1 (by rw[hdl];omega)
    have gA:=fun y=>cp (vs:=row.toList) (us:=[Value.int .i64 x]) (q:=i) (n:=1) (x:=y) rfl (by omega)
    have gB:=fun y=>cp (vs:=us1) (us:=(zs.map (Value.int .i64)).drop i) (q:=i+1) (n:=zs.length-i) (x:=y) hdl (by omega)
    have ex:∀k,k≠w.heap.size->(w.alloc (.cells row (ρ.t 3))).heap[k]? = w.heap[k]?:=fun k hk=>by
     simp only[World.alloc]
     rw[Array.getElem?_push,if_neg hk]
    have exs:(w.alloc (.cells row (ρ.t 3))).heap.size=w.heap.size+1:=by simp only[World.alloc,Array.size_push]
    have hall:∀k,k≠w.heap.size->(((((w.alloc (.cells row (ρ.t 3))).drew).setCells w.heap.size i [Value.int .i64 x]).drew).setCells w.heap.size (i+1) ((zs.map (Value.int .i64)).drop i)).heap[k]? = w.heap[k]?:=fun k hk=>(t2 k hk).trans ((s2 k hk).trans (ex k hk))
    refine⟨_,rfl,us,(hall b (by omega)).trans hcell,rfl,⟨t4.trans s4,t5.trans s5,t6.trans s6,?_,fun k hk _=>hall k (by omega),?_⟩,.inr ⟨w.heap.size,0,ρ.t 3,_,G,by rw[hlr],x0r _,t1,by rw[hlr];exact g1,⟨?_,g2⟩,fun j r' off d h1 h2=>?_⟩⟩
    ·have:((((w.alloc (.cells row (ρ.t 3))).drew).setCells w.heap.size i [Value.int .i64 x]).drew).heap.size=w.heap.size+1:=s3.trans exs
     rw[t3,this];omega
    ·rw[t7]
     show w.drawn<=(((w.alloc (.cells row (ρ.t 3))).drew).setCells w.heap.size i [Value.int .i64 x]).drawn+1
     rw[s7]
     show w.drawn<=w.drawn+1+1
     omega
    ·simp only[x0L,x09,x1B,hl1,x08];omega
    ·obtain⟨y,hj,rfl,rfl⟩:=iw h1 h2
     refine⟨.int .i64 y,?_,by simp only[af]⟩
     have hjl:j<zs.length+1:=by have:=(x0b.1 hj).1;simp at this;omega
     rw[l9 hi]at hj
     rw[x07,Nat.mul_one,x0U,hdl,gB]
     by_cases c1:j<i
     ·rw[if_pos c1]at hj
      rw[if_neg (by omega),hu1]
      show(row.toList.take i++[Value.int .i64 x]++row.toList.drop (i+1))[j]? = _
      rw[gA,if_neg (by omega),hrow]
      have hj2:j<zs.length:=(x0b.1 hj).1
      simp only[Array.toList_append,x1t]
      rw[x0t (by simp;omega)]
      simp only[x0B c1,x0x,hj]
      rfl
     ·rw[if_neg c1]at hj
      by_cases c2:j=i
      ·subst c2
       rw[if_pos rfl]at hj
       rw[if_neg (by omega),hu1]
       show(row.toList.take j++[Value.int .i64 x]++row.toList.drop (j+1))[j]? = _
       rw[gA,if_pos (by omega)]
       cases hj
       simp
      ·rw[if_neg c2]at hj
       rw[if_pos (by omega),x0u,show i+(j+0-(i+1))=j-1 by omega,x0x,hj]
       rfl
   ·subst heq
    refine(Any2.slices_Insert_int_end_grow L (some ⟨b,o,none⟩) zs.length cap B o' 1 cap' (zs.map (Value.int .i64)) [.int .i64 x] w (by omega) hcap hroom' (by omega) (by simp) rfl (fun e=>by cases e) (fun a ha j v hj=>by
     cases ha
     rw[Addr.add_lit]
     exact hcs j v hj) hvs one).mono ?_
    rintro e w' ⟨rfl,rfl⟩
    rw[<- hG]at g1 g2 ⊢
    obtain⟨row,hrow⟩:∃row:Array Value,row=(zs.map (Value.int .i64)++[Value.int .i64 x]).toArray++Builtin.zeroCells (Value.int .i64 0).cells (G-(zs.length+1)):=⟨_,rfl⟩
    rw[<- hrow]
    have hrl:row.toList.length=G:=by rw[hrow];simp[size_zeroCells,hzc];omega
    have hbel:=Bel.drewAlloc w (.cells row (ρ.t 3))
    refine⟨_,rfl,us,(hbel.block b hb).trans hcell,rfl,Ch.of_below hbel _,.inr ⟨w.heap.size,0,ρ.t 3,row.toList,G,by rw[hlr],x0r _,by rw[x0P];exact heap_alloc_new w.drew _,by rw[hlr];exact g1,⟨by omega,g2⟩,fun j r' off d h1 h2=>?_⟩⟩
    obtain⟨y,hj,rfl,rfl⟩:=iw h1 h2
    refine⟨.int .i64 y,?_,by simp only[af]⟩
    have hjl:j<zs.length+1:=by have:=(x0b.1 hj).1;simp at this;omega
    rw[l9 (x0r _)]at hj
    rw[x07,Nat.mul_one,x0U,hrow]
    simp only[Array.toList_append]
    rw[x0t (by simp;omega)]
    by_cases c1:j<zs.length
    ·rw[if_pos c1]at hj
     rw[x0t (by simpa using c1),x0x,hj]
     rfl
    ·have c2:j=zs.length:=by omega
     rw[if_neg c1,if_pos c2]at hj
     cases hj
     rw[x0v (by simp;omega)]
     simp[c2]
end
end Go.Gv

namespace Go.Gv
structure Tag {α:Type _} (x:α):Type where
@[simp] theorem O6:isV (.any)=true:=zR
@[simp] theorem Pd{k n}:isV (.int k n)=true:=zR
@[simp] theorem Kx{b}:isV (.bool b)=true:=zR
@[simp] theorem Pm{s}:isV (.str s)=true:=zR
@[simp] theorem Ky:isV (.nilp)=true:=zR
@[simp] theorem Kz:isV (.nils)=true:=zR
@[simp] theorem O4{ds}:isV (.agg ds)=true:=zR
@[simp] theorem Po{ds}:isV (.tup ds)=true:=zR
@[simp] theorem RB{es}:isV (.sl es)=true:=zR
@[simp] theorem Pg{ds}:isV (.ptr ds)=true:=zR
@[simp] theorem Rz{g ds}:isV (.fn g ds)=true:=zR
@[simp] theorem Pf{sz es}:isV (.own sz es)=false:=zR
@[simp] theorem O7{sz es}:isV (.blk sz es)=false:=zR
@[simp] theorem RA{kt et ks vs}:isV (.mp kt et ks vs)=false:=zR
@[simp] theorem Pe{b}:isV (.mrf b)=false:=zR
@[simp] theorem Pi{p k n}:isV (.ref p k n)=false:=zR
@[simp] theorem O3{p i off}:isV (.adr p i off)=false:=zR
@[simp] theorem O5{ds}:isV (.agx ds)=false:=zR
@[simp] theorem Pn{ds}:isV (.tpx ds)=false:=zR
@[simp] theorem Ph{ds}:isV (.ptx ds)=false:=zR
@[simp] theorem Pj{n sz ds}:isV (.rfx n sz ds)=false:=zR
@[simp] theorem O8{g ds}:isV (.fnx g ds)=false:=zR
@[simp] theorem Pb{T p i off}:isV (.ifa T p i off)=false:=zR
@[simp] theorem Pc{T n}:isV (.ifi T n)=true:=zR
@[simp] theorem Pk{k es}:isV (.slv k es)=true:=zR
@[simp] theorem O9{g ds cs}:isV (.fny g ds cs)=false:=zR
@[simp] theorem NG:isK (.any)=false:=zR
@[simp] theorem NM{k n}:isK (.int k n)=true:=zR
@[simp] theorem Kl{b}:isK (.bool b)=true:=zR
@[simp] theorem NV{s}:isK (.str s)=true:=zR
@[simp] theorem Km:isK (.nilp)=true:=zR
@[simp] theorem Kn:isK (.nils)=true:=zR
@[simp] theorem NE{ds}:isK (.agg ds)=true:=zR
@[simp] theorem NX{ds}:isK (.tup ds)=true:=zR
@[simp] theorem Rl{es}:isK (.sl es)=true:=zR
@[simp] theorem NP{ds}:isK (.ptr ds)=true:=zR
@[simp] theorem Rj{g ds}:isK (.fn g ds)=true:=zR
@[simp] theorem NO{sz es}:isK (.own sz es)=false:=zR
@[simp] theorem NH{sz es}:isK (.blk sz es)=false:=zR
@[simp] theorem Rk{kt et ks vs}:isK (.mp kt et ks vs)=false:=zR
@[simp] theorem NN{b}:isK (.mrf b)=false:=zR
@[simp] theorem NR{p k n}:isK (.ref p k n)=false:=zR
@[simp] theorem ND{p i off}:isK (.adr p i off)=false:=zR
@[simp] theorem NF{ds}:isK (.agx ds)=false:=zR
@[simp] theorem NW{ds}:isK (.tpx ds)=false:=zR
@[simp] theorem NQ{ds}:isK (.ptx ds)=false:=zR
@[simp] theorem NS{n sz ds}:isK (.rfx n sz ds)=false:=zR
@[simp] theorem NI{g ds}:isK (.fnx g ds)=false:=zR
@[simp] theorem NK{T p i off}:isK (.ifa T p i off)=false:=zR
@[simp] theorem NL{T n}:isK (.ifi T n)=true:=zR
@[simp] theorem NT{k es}:isK (.slv k es)=true:=zR
@[simp] theorem NJ{g ds cs}:isK (.fny g ds cs)=false:=zR
@[simp] theorem On:isP (.any)=true:=zR
@[simp] theorem Ow{k n}:isP (.int k n)=true:=zR
@[simp] theorem Kr{b}:isP (.bool b)=true:=zR
@[simp] theorem OF{s}:isP (.str s)=true:=zR
@[simp] theorem Ks:isP (.nilp)=true:=zR
@[simp] theorem Kt:isP (.nils)=true:=zR
@[simp] theorem Ol{ds}:isP (.agg ds)=true:=zR
@[simp] theorem OH{ds}:isP (.tup ds)=true:=zR
@[simp] theorem Rt{es}:isP (.sl es)=true:=zR
@[simp] theorem Oz{ds}:isP (.ptr ds)=true:=zR
@[simp] theorem Rq{g ds}:isP (.fn g ds)=true:=zR
@[simp] theorem Oy{sz es}:isP (.own sz es)=false:=zR
@[simp] theorem Oo{sz es}:isP (.blk sz es)=false:=zR
@[simp] theorem Rr{kt et ks vs}:isP (.mp kt et ks vs)=false:=zR
@[simp] theorem Ox{b}:isP (.mrf b)=true:=zR
@[simp] theorem OB{p k n}:isP (.ref p k n)=true:=zR
@[simp] theorem Oj{p i off}:isP (.adr p i off)=true:=zR
@[simp] theorem Om{ds}:isP (.agx ds)=false:=zR
@[simp] theorem OG{ds}:isP (.tpx ds)=false:=zR
@[simp] theorem OA{ds}:isP (.ptx ds)=false:=zR
@[simp] theorem OC{n sz ds}:isP (.rfx n sz ds)=false:=zR
@[simp] theorem Oq{g ds}:isP (.fnx g ds)=false:=zR
@[simp] theorem Ou{T p i off}:isP (.ifa T p i off)=true:=zR
@[simp] theorem Ov{T n}:isP (.ifi T n)=true:=zR
@[simp] theorem OD{k es}:isP (.slv k es)=true:=zR
@[simp] theorem Ot{g ds cs}:isP (.fny g ds cs)=false:=zR
@[simp] theorem OL:isS (.any)=true:=zR
@[simp] theorem Ry:isV (.bb)=true:=zR
@[simp] theorem Ru:isS (.bb)=true:=zR
@[simp] theorem Rp:isP (.bb)=true:=zR
@[simp] theorem Rc:isB (.bb)=false:=zR
@[simp] theorem Jc:ci (.bb)=false:=zR
@[simp] theorem GZ:a7 (.bb)=[]:=zR
@[simp] theorem Df:aA (.bb)=[]:=zR
@[simp] theorem OR{k n}:isS (.int k n)=true:=zR
@[simp] theorem Ku{b}:isS (.bool b)=true:=zR
@[simp] theorem O0{s}:isS (.str s)=true:=zR
@[simp] theorem Kv:isS (.nilp)=true:=zR
@[simp] theorem Kw:isS (.nils)=true:=zR
@[simp] theorem OJ{ds}:isS (.agg ds)=true:=zR
@[simp] theorem O2{ds}:isS (.tup ds)=true:=zR
@[simp] theorem Rx{es}:isS (.sl es)=true:=zR
@[simp] theorem OU{ds}:isS (.ptr ds)=true:=zR
@[simp] theorem Rv{g ds}:isS (.fn g ds)=true:=zR
@[simp] theorem OT{sz es}:isS (.own sz es)=false:=zR
@[simp] theorem OM{sz es}:isS (.blk sz es)=false:=zR
@[simp] theorem Rw{kt et ks vs}:isS (.mp kt et ks vs)=false:=zR
@[simp] theorem OS{b}:isS (.mrf b)=true:=zR
@[simp] theorem OW{p k n}:isS (.ref p k n)=true:=zR
@[simp] theorem OI{p i off}:isS (.adr p i off)=true:=zR
@[simp] theorem OK{ds}:isS (.agx ds)=ds.all isP:=zR
@[simp] theorem O1{ds}:isS (.tpx ds)=ds.all isP:=zR
@[simp] theorem OV{ds}:isS (.ptx ds)=ds.all isP:=zR
@[simp] theorem OX{n sz ds}:isS (.rfx n sz ds)=ds.all isP:=zR
@[simp] theorem ON{g ds}:isS (.fnx g ds)=ds.all isP:=zR
@[simp] theorem OP{T p i off}:isS (.ifa T p i off)=true:=zR
@[simp] theorem OQ{T n}:isS (.ifi T n)=true:=zR
@[simp] theorem OY{k es}:isS (.slv k es)=true:=zR
@[simp] theorem OO{g ds cs}:isS (.fny g ds cs)=(ds.all isP&&cs.all isP):=zR
@[simp] theorem Jm:az (.any)=false:=zR
@[simp] theorem Js{k n}:az (.int k n)=true:=zR
@[simp] theorem Gc{b}:az (.bool b)=true:=zR
@[simp] theorem JB{s}:az (.str s)=true:=zR
@[simp] theorem Gd:az (.nilp)=true:=zR
@[simp] theorem Ge:az (.nils)=true:=zR
@[simp] theorem Jk{ds}:az (.agg ds)=false:=zR
@[simp] theorem JD{ds}:az (.tup ds)=false:=zR
@[simp] theorem Na{es}:az (.sl es)=true:=zR
@[simp] theorem Jv{ds}:az (.ptr ds)=true:=zR
@[simp] theorem M8{g ds}:az (.fn g ds)=true:=zR
@[simp] theorem Ju{sz es}:az (.own sz es)=false:=zR
@[simp] theorem Jn{sz es}:az (.blk sz es)=false:=zR
@[simp] theorem M9{kt et ks vs}:az (.mp kt et ks vs)=false:=zR
@[simp] theorem Jt{b}:az (.mrf b)=false:=zR
@[simp] theorem Jx{p k n}:az (.ref p k n)=false:=zR
@[simp] theorem Jj{p i off}:az (.adr p i off)=false:=zR
@[simp] theorem Jl{ds}:az (.agx ds)=false:=zR
@[simp] theorem JC{ds}:az (.tpx ds)=false:=zR
@[simp] theorem Jw{ds}:az (.ptx ds)=false:=zR
@[simp] theorem Jy{n sz ds}:az (.rfx n sz ds)=false:=zR
@[simp] theorem Jo{g ds}:az (.fnx g ds)=false:=zR
@[simp] theorem Jq{T p i off}:az (.ifa T p i off)=false:=zR
@[simp] theorem Jr{T n}:az (.ifi T n)=false:=zR
@[simp] theorem Jz{k es}:az (.slv k es)=false:=zR
@[simp] theorem Jp{g ds cs}:az (.fny g ds cs)=false:=zR
@[simp] theorem N1:isO (.any)=false:=zR
@[simp] theorem N7{k n}:isO (.int k n)=false:=zR
@[simp] theorem Ko{b}:isO (.bool b)=false:=zR
@[simp] theorem Og{s}:isO (.str s)=false:=zR
@[simp] theorem Kp:isO (.nilp)=false:=zR
@[simp] theorem Kq:isO (.nils)=false:=zR
@[simp] theorem NZ{ds}:isO (.agg ds)=false:=zR
@[simp] theorem Oi{ds}:isO (.tup ds)=false:=zR
@[simp] theorem Ro{es}:isO (.sl es)=false:=zR
@[simp] theorem Oa{ds}:isO (.ptr ds)=false:=zR
@[simp] theorem Rm{g ds}:isO (.fn g ds)=false:=zR
@[simp] theorem N9{sz es}:isO (.own sz es)=true:=zR
@[simp] theorem N2{sz es}:isO (.blk sz es)=false:=zR
@[simp] theorem Rn{kt et ks vs}:isO (.mp kt et ks vs)=false:=zR
@[simp] theorem N8{b}:isO (.mrf b)=false:=zR
@[simp] theorem Oc{p k n}:isO (.ref p k n)=false:=zR
@[simp] theorem NY{p i off}:isO (.adr p i off)=false:=zR
@[simp] theorem N0{ds}:isO (.agx ds)=false:=zR
@[simp] theorem Oh{ds}:isO (.tpx ds)=false:=zR
@[simp] theorem Ob{ds}:isO (.ptx ds)=false:=zR
@[simp] theorem Od{n sz ds}:isO (.rfx n sz ds)=false:=zR
@[simp] theorem N3{g ds}:isO (.fnx g ds)=false:=zR
@[simp] theorem N5{T p i off}:isO (.ifa T p i off)=false:=zR
@[simp] theorem N6{T n}:isO (.ifi T n)=false:=zR
@[simp] theorem Oe{k es}:isO (.slv k es)=false:=zR
@[simp] theorem N4{g ds cs}:isO (.fny g ds cs)=false:=zR
@[simp] theorem JH:bl (.any)=true:=zR
@[simp] theorem JN{k n}:bl (.int k n)=true:=zR
@[simp] theorem Gf{b}:bl (.bool b)=true:=zR
@[simp] theorem JV{s}:bl (.str s)=true:=zR
@[simp] theorem Gg:bl (.nilp)=true:=zR
@[simp] theorem Gh:bl (.nils)=true:=zR
@[simp] theorem JF{ds}:bl (.agg ds)=false:=zR
@[simp] theorem JX{ds}:bl (.tup ds)=false:=zR
@[simp] theorem Nd{es}:bl (.sl es)=false:=zR
@[simp] theorem JQ{ds}:bl (.ptr ds)=false:=zR
@[simp] theorem Nb{g ds}:bl (.fn g ds)=false:=zR
@[simp] theorem JP{sz es}:bl (.own sz es)=false:=zR
@[simp] theorem JI{sz es}:bl (.blk sz es)=false:=zR
@[simp] theorem Nc{kt et ks vs}:bl (.mp kt et ks vs)=false:=zR
@[simp] theorem JO{b}:bl (.mrf b)=false:=zR
@[simp] theorem JS{p k n}:bl (.ref p k n)=false:=zR
@[simp] theorem JE{p i off}:bl (.adr p i off)=false:=zR
@[simp] theorem JG{ds}:bl (.agx ds)=false:=zR
@[simp] theorem JW{ds}:bl (.tpx ds)=false:=zR
@[simp] theorem JR{ds}:bl (.ptx ds)=false:=zR
@[simp] theorem JT{n sz ds}:bl (.rfx n sz ds)=false:=zR
@[simp] theorem JJ{g ds}:bl (.fnx g ds)=false:=zR
@[simp] theorem JL{T p i off}:bl (.ifa T p i off)=false:=zR
@[simp] theorem JM{T n}:bl (.ifi T n)=true:=zR
@[simp] theorem JU{k es}:bl (.slv k es)=false:=zR
@[simp] theorem JK{g ds cs}:bl (.fny g ds cs)=false:=zR
@[simp] theorem J1:cY (.any)=true:=zR
@[simp] theorem J7{k n}:cY (.int k n)=true:=zR
@[simp] theorem Gi{b}:cY (.bool b)=true:=zR
@[simp] theorem Kf{s}:cY (.str s)=true:=zR
@[simp] theorem Gj:cY (.nilp)=true:=zR
@[simp] theorem Gk:cY (.nils)=true:=zR
@[simp] theorem JZ{ds}:cY (.agg ds)=ds.all bl:=zR
@[simp] theorem Kh{ds}:cY (.tup ds)=false:=zR
@[simp] theorem Nh{es}:cY (.sl es)=false:=zR
@[simp] theorem Ka{ds}:cY (.ptr ds)=false:=zR
@[simp] theorem Nf{g ds}:cY (.fn g ds)=false:=zR
@[simp] theorem J9{sz es}:cY (.own sz es)=false:=zR
@[simp] theorem J2{sz es}:cY (.blk sz es)=false:=zR
@[simp] theorem Ng{kt et ks vs}:cY (.mp kt et ks vs)=false:=zR
@[simp] theorem J8{b}:cY (.mrf b)=false:=zR
@[simp] theorem Kc{p k n}:cY (.ref p k n)=false:=zR
@[simp] theorem JY{p i off}:cY (.adr p i off)=false:=zR
@[simp] theorem J0{ds}:cY (.agx ds)=false:=zR
@[simp] theorem Kg{ds}:cY (.tpx ds)=false:=zR
@[simp] theorem Kb{ds}:cY (.ptx ds)=false:=zR
@[simp] theorem Kd{n sz ds}:cY (.rfx n sz ds)=false:=zR
@[simp] theorem J3{g ds}:cY (.fnx g ds)=false:=zR
@[simp] theorem J5{T p i off}:cY (.ifa T p i off)=false:=zR
@[simp] theorem J6{T n}:cY (.ifi T n)=true:=zR
@[simp] theorem Ke{k es}:cY (.slv k es)=false:=zR
@[simp] theorem J4{g ds cs}:cY (.fny g ds cs)=false:=zR
@[simp] theorem Nl:isF (.any)=true:=zR
@[simp] theorem Ns{k n}:isF (.int k n)=true:=zR
@[simp] theorem Ki{b}:isF (.bool b)=true:=zR
@[simp] theorem NA{s}:isF (.str s)=true:=zR
@[simp] theorem Kj:isF (.nilp)=true:=zR
@[simp] theorem Kk:isF (.nils)=true:=zR
@[simp] theorem Nj{ds}:isF (.agg ds)=ds.all bl:=zR
@[simp] theorem NC{ds}:isF (.tup ds)=ds.all cY:=zR
@[simp] theorem Ri{es}:isF (.sl es)=false:=zR
@[simp] theorem Nv{ds}:isF (.ptr ds)=false:=zR
@[simp] theorem Rg{g ds}:isF (.fn g ds)=false:=zR
@[simp] theorem Nu{sz es}:isF (.own sz es)=false:=zR
@[simp] theorem Nm{sz es}:isF (.blk sz es)=false:=zR
@[simp] theorem Rh{kt et ks vs}:isF (.mp kt et ks vs)=false:=zR
@[simp] theorem Nt{b}:isF (.mrf b)=false:=zR
@[simp] theorem Nx{p k n}:isF (.ref p k n)=false:=zR
@[simp] theorem Ni{p i off}:isF (.adr p i off)=false:=zR
@[simp] theorem Nk{ds}:isF (.agx ds)=false:=zR
@[simp] theorem NB{ds}:isF (.tpx ds)=false:=zR
@[simp] theorem Nw{ds}:isF (.ptx ds)=false:=zR
@[simp] theorem Ny{n sz ds}:isF (.rfx n sz ds)=false:=zR
@[simp] theorem Nn{g ds}:isF (.fnx g ds)=false:=zR
@[simp] theorem Nq{T p i off}:isF (.ifa T p i off)=false:=zR
@[simp] theorem Nr{T n}:isF (.ifi T n)=true:=zR
@[simp] theorem Nz{k es}:isF (.slv k es)=false:=zR
@[simp] theorem Np{g ds cs}:isF (.fny g ds cs)=false:=zR
@[simp] theorem MK:isB (.any)=false:=zR
@[simp] theorem MQ{k n}:isB (.int k n)=false:=zR
@[simp] theorem Jg{b}:isB (.bool b)=false:=zR
@[simp] theorem MZ{s}:isB (.str s)=false:=zR
@[simp] theorem Jh:isB (.nilp)=false:=zR
@[simp] theorem Ji:isB (.nils)=false:=zR
@[simp] theorem MI{ds}:isB (.agg ds)=false:=zR
@[simp] theorem M7{ds}:isB (.tup ds)=false:=zR
@[simp] theorem Rf{es}:isB (.sl es)=false:=zR
@[simp] theorem MT{ds}:isB (.ptr ds)=false:=zR
@[simp] theorem Rd{g ds}:isB (.fn g ds)=false:=zR
@[simp] theorem MS{sz es}:isB (.own sz es)=false:=zR
@[simp] theorem ML{sz es}:isB (.blk sz es)=true:=zR
@[simp] theorem Re{kt et ks vs}:isB (.mp kt et ks vs)=true:=zR
@[simp] theorem MR{b}:isB (.mrf b)=false:=zR
@[simp] theorem MV{p k n}:isB (.ref p k n)=false:=zR
@[simp] theorem MH{p i off}:isB (.adr p i off)=false:=zR
@[simp] theorem MJ{ds}:isB (.agx ds)=false:=zR
@[simp] theorem M6{ds}:isB (.tpx ds)=false:=zR
@[simp] theorem MU{ds}:isB (.ptx ds)=false:=zR
@[simp] theorem MW{n sz ds}:isB (.rfx n sz ds)=false:=zR
@[simp] theorem MM{g ds}:isB (.fnx g ds)=false:=zR
@[simp] theorem MO{T p i off}:isB (.ifa T p i off)=false:=zR
@[simp] theorem MP{T n}:isB (.ifi T n)=false:=zR
@[simp] theorem MX{k es}:isB (.slv k es)=false:=zR
@[simp] theorem MN{g ds cs}:isB (.fny g ds cs)=false:=zR
@[simp] theorem FU:ci (.any)=true:=zR
@[simp] theorem F0{k n}:ci (.int k n)=false:=zR
@[simp] theorem CQ{b}:ci (.bool b)=false:=zR
@[simp] theorem F9{s}:ci (.str s)=false:=zR
@[simp] theorem CR:ci (.nilp)=false:=zR
@[simp] theorem CS:ci (.nils)=false:=zR
@[simp] theorem FS{ds}:ci (.agg ds)=false:=zR
@[simp] theorem Gb{ds}:ci (.tup ds)=false:=zR
@[simp] theorem Jf{es}:ci (.sl es)=false:=zR
@[simp] theorem F3{ds}:ci (.ptr ds)=false:=zR
@[simp] theorem Jd{g ds}:ci (.fn g ds)=false:=zR
@[simp] theorem F2{sz es}:ci (.own sz es)=false:=zR
@[simp] theorem FV{sz es}:ci (.blk sz es)=false:=zR
@[simp] theorem Je{kt et ks vs}:ci (.mp kt et ks vs)=false:=zR
@[simp] theorem F1{b}:ci (.mrf b)=false:=zR
@[simp] theorem F5{p k n}:ci (.ref p k n)=false:=zR
@[simp] theorem FR{p i off}:ci (.adr p i off)=false:=zR
@[simp] theorem FT{ds}:ci (.agx ds)=false:=zR
@[simp] theorem Ga{ds}:ci (.tpx ds)=false:=zR
@[simp] theorem F4{ds}:ci (.ptx ds)=false:=zR
@[simp] theorem F6{n sz ds}:ci (.rfx n sz ds)=false:=zR
@[simp] theorem FW{g ds}:ci (.fnx g ds)=false:=zR
@[simp] theorem FY{T p i off}:ci (.ifa T p i off)=false:=zR
@[simp] theorem FZ{T n}:ci (.ifi T n)=false:=zR
@[simp] theorem F7{k es}:ci (.slv k es)=false:=zR
@[simp] theorem FX{g ds cs}:ci (.fny g ds cs)=false:=zR
@[simp] theorem AU:cellsOf (.any)=[.any]:=zR
@[simp] theorem A0{k n}:cellsOf (.int k n)=[.int k n]:=zR
@[simp] theorem yy{b}:cellsOf (.bool b)=[.bool b]:=zR
@[simp] theorem Ba{s}:cellsOf (.str s)=[.str s]:=zR
@[simp] theorem yz:cellsOf (.nilp)=[.nilp]:=zR
@[simp] theorem yA:cellsOf (.nils)=[.nils]:=zR
@[simp] theorem AR{ds}:cellsOf (.agg ds)=ds:=zR
@[simp] theorem Bc{ds}:cellsOf (.tup ds)=[.tup ds]:=zR
@[simp] theorem Cs{es}:cellsOf (.sl es)=[.sl es]:=zR
@[simp] theorem A4{ds}:cellsOf (.ptr ds)=[.ptr ds]:=zR
@[simp] theorem Cq{g ds}:cellsOf (.fn g ds)=[.fn g ds]:=zR
@[simp] theorem A3{sz es}:cellsOf (.own sz es)=[.own sz es]:=zR
@[simp] theorem AV{sz es}:cellsOf (.blk sz es)=[.blk sz es]:=zR
@[simp] theorem Cr{kt et ks vs}:cellsOf (.mp kt et ks vs)=[.mp kt et ks vs]:=zR
@[simp] theorem A1{b}:cellsOf (.mrf b)=[.mrf b]:=zR
@[simp] theorem A6{p k n}:cellsOf (.ref p k n)=[.ref p k n]:=zR
@[simp] theorem AQ{p i off}:cellsOf (.adr p i off)=[.adr p i off]:=zR
@[simp] theorem AS{ds}:cellsOf (.agx ds)=[.agx ds]:=zR
@[simp] theorem Bb{ds}:cellsOf (.tpx ds)=[.tpx ds]:=zR
@[simp] theorem A5{ds}:cellsOf (.ptx ds)=[.ptx ds]:=zR
@[simp] theorem A7{n sz ds}:cellsOf (.rfx n sz ds)=[.rfx n sz ds]:=zR
@[simp] theorem AW{g ds}:cellsOf (.fnx g ds)=[.fnx g ds]:=zR
@[simp] theorem AY{T p i off}:cellsOf (.ifa T p i off)=[.ifa T p i off]:=zR
@[simp] theorem AZ{T n}:cellsOf (.ifi T n)=[.ifi T n]:=zR
@[simp] theorem A8{k es}:cellsOf (.slv k es)=[.slv k es]:=zR
@[simp] theorem AX{g ds cs}:cellsOf (.fny g ds cs)=[.fny g ds cs]:=zR
@[simp] theorem Et:bI (.any)=.any:=zR
@[simp] theorem Ez{k n}:bI (.int k n)=.int k n:=zR
@[simp] theorem Cf{b}:bI (.bool b)=.bool b:=zR
@[simp] theorem EI{s}:bI (.str s)=.str s:=zR
@[simp] theorem Cg:bI (.nilp)=.nilp:=zR
@[simp] theorem Ci:bI (.nils)=.nils:=zR
@[simp] theorem Er{ds}:bI (.agg ds)=.agg ds:=zR
@[simp] theorem EK{ds}:bI (.tup ds)=.tup ds:=zR
@[simp] theorem HP{es}:bI (.sl es)=.sl es:=zR
@[simp] theorem EC{ds}:bI (.ptr ds)=.ptr ds:=zR
@[simp] theorem HN{g ds}:bI (.fn g ds)=.fn g ds:=zR
@[simp] theorem EB{sz es}:bI (.own sz es)=.own sz es:=zR
@[simp] theorem Eu{sz es}:bI (.blk sz es)=.blk sz es:=zR
@[simp] theorem HO{kt et ks vs}:bI (.mp kt et ks vs)=.mp kt et ks vs:=zR
@[simp] theorem EA{b}:bI (.mrf b)=.mrf b:=zR
@[simp] theorem EE{p k n}:bI (.ref p k n)=.ref p k n:=zR
@[simp] theorem Ep{p i off}:bI (.adr p i off)=.adr p i off:=zR
@[simp] theorem Es{ds}:bI (.agx ds)=.agg ds:=zR
@[simp] theorem EJ{ds}:bI (.tpx ds)=.tpx ds:=zR
@[simp] theorem ED{ds}:bI (.ptx ds)=.ptx ds:=zR
@[simp] theorem EF{n sz ds}:bI (.rfx n sz ds)=.rfx n sz ds:=zR
@[simp] theorem Ev{g ds}:bI (.fnx g ds)=.fnx g ds:=zR
@[simp] theorem Ex{T p i off}:bI (.ifa T p i off)=.ifa T p i off:=zR
@[simp] theorem Ey{T n}:bI (.ifi T n)=.ifi T n:=zR
@[simp] theorem EG{k es}:bI (.slv k es)=.slv k es:=zR
@[simp] theorem Ew{g ds cs}:bI (.fny g ds cs)=.fny g ds cs:=zR
@[simp] theorem EZ:aU (.any)=.any:=zR
@[simp] theorem E5{k n}:aU (.int k n)=.int k n:=zR
@[simp] theorem Cn{b}:aU (.bool b)=.bool b:=zR
@[simp] theorem Fe{s}:aU (.str s)=.str s:=zR
@[simp] theorem Co:aU (.nilp)=.nilp:=zR
@[simp] theorem Cp:aU (.nils)=.nils:=zR
@[simp] theorem EX{ds}:aU (.agg ds)=.agg ds:=zR
@[simp] theorem Fg{ds}:aU (.tup ds)=.tup ds:=zR
@[simp] theorem Ib{es}:aU (.sl es)=.sl es:=zR
@[simp] theorem E8{ds}:aU (.ptr ds)=.ptr ds:=zR
@[simp] theorem H9{g ds}:aU (.fn g ds)=.fn g ds:=zR
@[simp] theorem E7{sz es}:aU (.own sz es)=.sl es:=zR
@[simp] theorem E0{sz es}:aU (.blk sz es)=.blk sz es:=zR
@[simp] theorem Ia{kt et ks vs}:aU (.mp kt et ks vs)=.mp kt et ks vs:=zR
@[simp] theorem E6{b}:aU (.mrf b)=.mrf b:=zR
@[simp] theorem Fa{p k n}:aU (.ref p k n)=.ref p k n:=zR
@[simp] theorem EW{p i off}:aU (.adr p i off)=.adr p i off:=zR
@[simp] theorem EY{ds}:aU (.agx ds)=.agx ds:=zR
@[simp] theorem Ff{ds}:aU (.tpx ds)=.tpx ds:=zR
@[simp] theorem E9{ds}:aU (.ptx ds)=.ptx ds:=zR
@[simp] theorem Fb{n sz ds}:aU (.rfx n sz ds)=.rfx n sz ds:=zR
@[simp] theorem E1{g ds}:aU (.fnx g ds)=.fnx g ds:=zR
@[simp] theorem E3{T p i off}:aU (.ifa T p i off)=.ifa T p i off:=zR
@[simp] theorem E4{T n}:aU (.ifi T n)=.ifi T n:=zR
@[simp] theorem Fc{k es}:aU (.slv k es)=.slv k es:=zR
@[simp] theorem E2{g ds cs}:aU (.fny g ds cs)=.fny g ds cs:=zR
@[simp] theorem Bp:aA (.any)=[]:=zR
@[simp] theorem Bv{k n}:aA (.int k n)=[]:=zR
@[simp] theorem zG{b}:aA (.bool b)=[]:=zR
@[simp] theorem BE{s}:aA (.str s)=[]:=zR
@[simp] theorem zH:aA (.nilp)=[]:=zR
@[simp] theorem zJ:aA (.nils)=[]:=zR
@[simp] theorem Bn{ds}:aA (.agg ds)=[]:=zR
@[simp] theorem BG{ds}:aA (.tup ds)=[]:=zR
@[simp] theorem Di{es}:aA (.sl es)=[]:=zR
@[simp] theorem By{ds}:aA (.ptr ds)=[]:=zR
@[simp] theorem Dg{g ds}:aA (.fn g ds)=[]:=zR
@[simp] theorem Bx{sz es}:aA (.own sz es)=[]:=zR
@[simp] theorem Bq{sz es}:aA (.blk sz es)=[]:=zR
@[simp] theorem Dh{kt et ks vs}:aA (.mp kt et ks vs)=[]:=zR
@[simp] theorem Bw{b}:aA (.mrf b)=[b]:=zR
@[simp] theorem BA{p k n}:aA (.ref p k n)=[p.root]:=zR
@[simp] theorem Bm{p i off}:aA (.adr p i off)=[p.root]:=zR
@[simp] theorem Bo{ds}:aA (.agx ds)=[]:=zR
@[simp] theorem BF{ds}:aA (.tpx ds)=[]:=zR
@[simp] theorem Bz{ds}:aA (.ptx ds)=[]:=zR
@[simp] theorem BB{n sz ds}:aA (.rfx n sz ds)=[]:=zR
@[simp] theorem Br{g ds}:aA (.fnx g ds)=[]:=zR
@[simp] theorem Bt{T p i off}:aA (.ifa T p i off)=[p.root]:=zR
@[simp] theorem Bu{T n}:aA (.ifi T n)=[]:=zR
@[simp] theorem BC{k es}:aA (.slv k es)=[]:=zR
@[simp] theorem Bs{g ds cs}:aA (.fny g ds cs)=[]:=zR
@[simp] theorem Dm:a7 (.any)=[]:=zR
@[simp] theorem Ds{k n}:a7 (.int k n)=[]:=zR
@[simp] theorem BH{b}:a7 (.bool b)=[]:=zR
@[simp] theorem DC{s}:a7 (.str s)=[]:=zR
@[simp] theorem BI:a7 (.nilp)=[]:=zR
@[simp] theorem BJ:a7 (.nils)=[]:=zR
@[simp] theorem Dk{ds}:a7 (.agg ds)=[]:=zR
@[simp] theorem DE{ds}:a7 (.tup ds)=[]:=zR
@[simp] theorem G2{es}:a7 (.sl es)=[]:=zR
@[simp] theorem Dw{ds}:a7 (.ptr ds)=[]:=zR
@[simp] theorem G0{g ds}:a7 (.fn g ds)=[]:=zR
@[simp] theorem Du{sz es}:a7 (.own sz es)=[]:=zR
@[simp] theorem Dn{sz es}:a7 (.blk sz es)=[]:=zR
@[simp] theorem G1{kt et ks vs}:a7 (.mp kt et ks vs)=[]:=zR
@[simp] theorem Dt{b}:a7 (.mrf b)=[b]:=zR
@[simp] theorem Dy{p k n}:a7 (.ref p k n)=[p.root]:=zR
@[simp] theorem Dj{p i off}:a7 (.adr p i off)=[p.root]:=zR
@[simp] theorem Dl{ds}:a7 (.agx ds)=ds.flatMap aA:=zR
@[simp] theorem DD{ds}:a7 (.tpx ds)=ds.flatMap aA:=zR
@[simp] theorem Dx{ds}:a7 (.ptx ds)=ds.flatMap aA:=zR
@[simp] theorem Dz{n sz ds}:a7 (.rfx n sz ds)=ds.flatMap aA:=zR
@[simp] theorem Do{g ds}:a7 (.fnx g ds)=ds.flatMap aA:=zR
@[simp] theorem Dq{T p i off}:a7 (.ifa T p i off)=[p.root]:=zR
@[simp] theorem Dr{T n}:a7 (.ifi T n)=[]:=zR
@[simp] theorem DA{k es}:a7 (.slv k es)=[]:=zR
@[simp] theorem Dp{g ds cs}:a7 (.fny g ds cs)=(ds.flatMap aA++cs.flatMap aA):=zR
@[simp] theorem Mi{f:Nat->D}:dp1 f (.any)=(.any):=zR
@[simp] theorem Mo{f:Nat->D}{k n}:dp1 f (.int k n)=(.int k n):=zR
@[simp] theorem Ij{f:Nat->D}{b}:dp1 f (.bool b)=(.bool b):=zR
@[simp] theorem Mx{f:Nat->D}{s}:dp1 f (.str s)=(.str s):=zR
@[simp] theorem Ik{f:Nat->D}:dp1 f (.nilp)=(.nilp):=zR
@[simp] theorem Il{f:Nat->D}:dp1 f (.nils)=(.nils):=zR
@[simp] theorem Mg{f:Nat->D}{ds}:dp1 f (.agg ds)=(.agg ds):=zR
@[simp] theorem Mz{f:Nat->D}{ds}:dp1 f (.tup ds)=(.tup ds):=zR
@[simp] theorem QC{f:Nat->D}{es}:dp1 f (.sl es)=(.sl es):=zR
@[simp] theorem Mr{f:Nat->D}{ds}:dp1 f (.ptr ds)=(.ptr ds):=zR
@[simp] theorem QA{f:Nat->D}{g ds}:dp1 f (.fn g ds)=(.fn g ds):=zR
@[simp] theorem Mq{f:Nat->D}{sz es}:dp1 f (.own sz es)=(.own sz es):=zR
@[simp] theorem Mj{f:Nat->D}{sz es}:dp1 f (.blk sz es)=(.blk sz es):=zR
@[simp] theorem QB{f:Nat->D}{kt et ks vs}:dp1 f (.mp kt et ks vs)=(.mp kt et ks vs):=zR
@[simp] theorem Mp{f:Nat->D}{b}:dp1 f (.mrf b)=(.mrf b):=zR
@[simp] theorem Mt{f:Nat->D}{p k n}:dp1 f (.ref p k n)=(match aR f p with|some (_,es)=>.sl (((es.drop k).take n).map fun e=>e.map aU)|none=>.any):=zR
@[simp] theorem Mf{f:Nat->D}{p i off}:dp1 f (.adr p i off)=(match aR f p with|some (_,es)=>.ptr (((es[i]?.getD []).drop off).map aU)|none=>.any):=zR
@[simp] theorem Mh{f:Nat->D}{ds}:dp1 f (.agx ds)=(.agx ds):=zR
@[simp] theorem My{f:Nat->D}{ds}:dp1 f (.tpx ds)=(.tpx ds):=zR
@[simp] theorem Ms{f:Nat->D}{ds}:dp1 f (.ptx ds)=(.ptx ds):=zR
@[simp] theorem Mu{f:Nat->D}{n sz ds}:dp1 f (.rfx n sz ds)=(.rfx n sz ds):=zR
@[simp] theorem Mk{f:Nat->D}{g ds}:dp1 f (.fnx g ds)=(.fnx g ds):=zR
@[simp] theorem Mm{f:Nat->D}{T p i off}:dp1 f (.ifa T p i off)=(.ifa T p i off):=zR
@[simp] theorem Mn{f:Nat->D}{T n}:dp1 f (.ifi T n)=(.ifi T n):=zR
@[simp] theorem Mv{f:Nat->D}{k es}:dp1 f (.slv k es)=(.slv k es):=zR
@[simp] theorem Ml{f:Nat->D}{g ds cs}:dp1 f (.fny g ds cs)=(.fny g ds cs):=zR
@[simp] theorem QG{f:Nat->D}:dp f (.any)=(.any):=zR
@[simp] theorem QN{f:Nat->D}{k n}:dp f (.int k n)=(.int k n):=zR
@[simp] theorem MD{f:Nat->D}{b}:dp f (.bool b)=(.bool b):=zR
@[simp] theorem QW{f:Nat->D}{s}:dp f (.str s)=(.str s):=zR
@[simp] theorem ME{f:Nat->D}:dp f (.nilp)=(.nilp):=zR
@[simp] theorem MF{f:Nat->D}:dp f (.nils)=(.nils):=zR
@[simp] theorem QE{f:Nat->D}{ds}:dp f (.agg ds)=(.agg ds):=zR
@[simp] theorem QY{f:Nat->D}{ds}:dp f (.tup ds)=(.tup ds):=zR
@[simp] theorem R1{f:Nat->D}{es}:dp f (.sl es)=(.sl es):=zR
@[simp] theorem QQ{f:Nat->D}{ds}:dp f (.ptr ds)=(.ptr ds):=zR
@[simp] theorem RZ{f:Nat->D}{g ds}:dp f (.fn g ds)=(.fn g ds):=zR
@[simp] theorem QP{f:Nat->D}{sz es}:dp f (.own sz es)=(.own sz es):=zR
@[simp] theorem QH{f:Nat->D}{sz es}:dp f (.blk sz es)=(.blk sz es):=zR
@[simp] theorem R0{f:Nat->D}{kt et ks vs}:dp f (.mp kt et ks vs)=(.mp kt et ks vs):=zR
@[simp] theorem QO{f:Nat->D}{b}:dp f (.mrf b)=(.mrf b):=zR
@[simp] theorem QS{f:Nat->D}{p k n}:dp f (.ref p k n)=(match aR f p with|some (_,es)=>.sl (((es.drop k).take n).map fun e=>e.map aU)|none=>.any):=zR
@[simp] theorem QD{f:Nat->D}{p i off}:dp f (.adr p i off)=(match aR f p with|some (_,es)=>.ptr (((es[i]?.getD []).drop off).map aU)|none=>.any):=zR
@[simp] theorem QF{f:Nat->D}{ds}:dp f (.agx ds)=(.agg (ds.map (dp1 f))):=zR
@[simp] theorem QX{f:Nat->D}{ds}:dp f (.tpx ds)=(.tup (ds.map (dp1 f))):=zR
@[simp] theorem QR{f:Nat->D}{ds}:dp f (.ptx ds)=(.ptr (ds.map (dp1 f))):=zR
@[simp] theorem QT{f:Nat->D}{n sz ds}:dp f (.rfx n sz ds)=.rfx n sz ds:=zR
@[simp] theorem QI{f:Nat->D}{g ds}:dp f (.fnx g ds)=(.fn g (ds.map (dp1 f))):=zR
@[simp] theorem QK{f:Nat->D}{T p i off}:dp f (.ifa T p i off)=(.ifa T p i off):=zR
@[simp] theorem QL{f:Nat->D}{T n}:dp f (.ifi T n)=(.ifi T n):=zR
@[simp] theorem QU{f:Nat->D}{k es}:dp f (.slv k es)=(.slv k es):=zR
@[simp] theorem QJ{f:Nat->D}{g ds cs}:dp f (.fny g ds cs)=(.fny g ds cs):=zR
@[simp] theorem Fm{f:Nat->D}:aN f (.any)=(True):=zR
@[simp] theorem Fs{f:Nat->D}{k n}:aN f (.int k n)=(True):=zR
@[simp] theorem CB{f:Nat->D}{b}:aN f (.bool b)=(True):=zR
@[simp] theorem FB{f:Nat->D}{s}:aN f (.str s)=(True):=zR
@[simp] theorem CD{f:Nat->D}:aN f (.nilp)=(True):=zR
@[simp] theorem CE{f:Nat->D}:aN f (.nils)=(True):=zR
@[simp] theorem Fk{f:Nat->D}{ds}:aN f (.agg ds)=(True):=zR
@[simp] theorem FD{f:Nat->D}{ds}:aN f (.tup ds)=(True):=zR
@[simp] theorem Ip{f:Nat->D}{es}:aN f (.sl es)=(True):=zR
@[simp] theorem Fv{f:Nat->D}{ds}:aN f (.ptr ds)=(True):=zR
@[simp] theorem Im{f:Nat->D}{g ds}:aN f (.fn g ds)=(True):=zR
@[simp] theorem Fu{f:Nat->D}{sz es}:aN f (.own sz es)=(True):=zR
@[simp] theorem Fn{f:Nat->D}{sz es}:aN f (.blk sz es)=(True):=zR
@[simp] theorem Io{f:Nat->D}{kt et ks vs}:aN f (.mp kt et ks vs)=(True):=zR
@[simp] theorem Ft{f:Nat->D}{b}:aN f (.mrf b)=(False):=zR
@[simp] theorem Fx{f:Nat->D}{p k n}:aN f (.ref p k n)=(match aR f p with|some (_,es)=>k+n<=es.length|none=>False):=zR
@[simp] theorem Fj{f:Nat->D}{p i off}:aN f (.adr p i off)=(match aR f p with|some _=>True|none=>False):=zR
@[simp] theorem Fl{f:Nat->D}{ds}:aN f (.agx ds)=(True):=zR
@[simp] theorem FC{f:Nat->D}{ds}:aN f (.tpx ds)=(True):=zR
@[simp] theorem Fw{f:Nat->D}{ds}:aN f (.ptx ds)=(True):=zR
@[simp] theorem Fy{f:Nat->D}{n sz ds}:aN f (.rfx n sz ds)=(True):=zR
@[simp] theorem Fo{f:Nat->D}{g ds}:aN f (.fnx g ds)=(True):=zR
@[simp] theorem Fq{f:Nat->D}{T p i off}:aN f (.ifa T p i off)=False:=zR
@[simp] theorem Fr{f:Nat->D}{T n}:aN f (.ifi T n)=True:=zR
@[simp] theorem Fz{f:Nat->D}{k es}:aN f (.slv k es)=True:=zR
@[simp] theorem Fp{f:Nat->D}{g ds cs}:aN f (.fny g ds cs)=True:=zR
@[simp] theorem It{f:Nat->D}:bE f (.any)=(True):=zR
@[simp] theorem Iz{f:Nat->D}{k n}:bE f (.int k n)=(True):=zR
@[simp] theorem FE{f:Nat->D}{b}:bE f (.bool b)=(True):=zR
@[simp] theorem II{f:Nat->D}{s}:bE f (.str s)=(True):=zR
@[simp] theorem FF{f:Nat->D}:bE f (.nilp)=(True):=zR
@[simp] theorem FG{f:Nat->D}:bE f (.nils)=(True):=zR
@[simp] theorem Ir{f:Nat->D}{ds}:bE f (.agg ds)=(True):=zR
@[simp] theorem IK{f:Nat->D}{ds}:bE f (.tup ds)=(True):=zR
@[simp] theorem MC{f:Nat->D}{es}:bE f (.sl es)=(True):=zR
@[simp] theorem IC{f:Nat->D}{ds}:bE f (.ptr ds)=(True):=zR
@[simp] theorem MA{f:Nat->D}{g ds}:bE f (.fn g ds)=(True):=zR
@[simp] theorem IB{f:Nat->D}{sz es}:bE f (.own sz es)=(True):=zR
@[simp] theorem Iu{f:Nat->D}{sz es}:bE f (.blk sz es)=(True):=zR
@[simp] theorem MB{f:Nat->D}{kt et ks vs}:bE f (.mp kt et ks vs)=(True):=zR
@[simp] theorem IA{f:Nat->D}{b}:bE f (.mrf b)=(False):=zR
@[simp] theorem IE{f:Nat->D}{p k n}:bE f (.ref p k n)=(match aR f p with|some (_,es)=>k+n<=es.length|none=>False):=zR
@[simp] theorem Iq{f:Nat->D}{p i off}:bE f (.adr p i off)=(match aR f p with|some _=>True|none=>False):=zR
@[simp] theorem Is{f:Nat->D}{ds}:bE f (.agx ds)=(∀d∈ds,aN f d):=zR
@[simp] theorem IJ{f:Nat->D}{ds}:bE f (.tpx ds)=(∀d∈ds,aN f d):=zR
@[simp] theorem ID{f:Nat->D}{ds}:bE f (.ptx ds)=(∀d∈ds,aN f d):=zR
@[simp] theorem IF{f:Nat->D}{n sz ds}:bE f (.rfx n sz ds)=False:=zR
@[simp] theorem Iv{f:Nat->D}{g ds}:bE f (.fnx g ds)=(∀d∈ds,aN f d):=zR
@[simp] theorem Ix{f:Nat->D}{T p i off}:bE f (.ifa T p i off)=False:=zR
@[simp] theorem Iy{f:Nat->D}{T n}:bE f (.ifi T n)=True:=zR
@[simp] theorem IG{f:Nat->D}{k es}:bE f (.slv k es)=True:=zR
@[simp] theorem Iw{f:Nat->D}{g ds cs}:bE f (.fny g ds cs)=False:=zR
@[simp] theorem Ps{p i0 o}:ldc p i0 o (.any)=.any:=zR
@[simp] theorem La{m}:cZ m (.any)=.any:=zR
@[simp] theorem Py{p i0 o k n}:ldc p i0 o (.int k n)=.int k n:=zR
@[simp] theorem Lg{m k n}:cZ m (.int k n)=.int k n:=zR
@[simp] theorem KH{p i0 o b}:ldc p i0 o (.bool b)=.bool b:=zR
@[simp] theorem G3{m b}:cZ m (.bool b)=.bool b:=zR
@[simp] theorem PH{p i0 o s}:ldc p i0 o (.str s)=.str s:=zR
@[simp] theorem Lo{m s}:cZ m (.str s)=.str s:=zR
@[simp] theorem KI{p i0 o}:ldc p i0 o (.nilp)=.nilp:=zR
@[simp] theorem G4{m}:cZ m (.nilp)=.nilp:=zR
@[simp] theorem KJ{p i0 o}:ldc p i0 o (.nils)=.nils:=zR
@[simp] theorem Pq{p i0 o ds}:ldc p i0 o (.agg ds)=.agg ds:=zR
@[simp] theorem KZ{m ds}:cZ m (.agg ds)=.agg ds:=zR
@[simp] theorem PJ{p i0 o ds}:ldc p i0 o (.tup ds)=.tup ds:=zR
@[simp] theorem Lq{m ds}:cZ m (.tup ds)=.tup ds:=zR
@[simp] theorem RE{p i0 o es}:ldc p i0 o (.sl es)=.sl es:=zR
@[simp] theorem PQ{m es}:cZ m (.sl es)=.sl es:=zR
@[simp] theorem PB{p i0 o ds}:ldc p i0 o (.ptr ds)=.ptr ds:=zR
@[simp] theorem Lj{m ds}:cZ m (.ptr ds)=.ptr ds:=zR
@[simp] theorem RC{p i0 o g ds}:ldc p i0 o (.fn g ds)=.fn g ds:=zR
@[simp] theorem PO{m g ds}:cZ m (.fn g ds)=.fn g ds:=zR
@[simp] theorem PA{c i o sz es}:ldc (.r c) i o (.own sz es)=.ref (.n c i o) 0 es.length:=zR
@[simp] theorem Li{m sz es}:cZ m (.own sz es)=.own sz es:=zR
@[simp] theorem Pt{p i0 o sz es}:ldc p i0 o (.blk sz es)=.blk sz es:=zR
@[simp] theorem Lb{m sz es}:cZ m (.blk sz es)=.blk sz es:=zR
@[simp] theorem RD{p i0 o kt et ks vs}:ldc p i0 o (.mp kt et ks vs)=.mp kt et ks vs:=zR
@[simp] theorem PP{m kt et ks vs}:cZ m (.mp kt et ks vs)=.mp kt et ks vs:=zR
@[simp] theorem Pz{p i0 o b}:ldc p i0 o (.mrf b)=.mrf b:=zR
@[simp] theorem Lh{m b}:cZ m (.mrf b)=.mrf b:=zR
@[simp] theorem PD{p i0 o q k n}:ldc p i0 o (.ref q k n)=.ref q k n:=zR
@[simp] theorem Ll{m q k n}:cZ m (.ref q k n)=.ref q k n:=zR
@[simp] theorem Pp{p i0 o q i off}:ldc p i0 o (.adr q i off)=.adr q i off:=zR
@[simp] theorem KY{m q i off}:cZ m (.adr q i off)=.adr q i off:=zR
@[simp] theorem Pr{p i0 o ds}:ldc p i0 o (.agx ds)=.agx ds:=zR
@[simp] theorem K0{m ds}:cZ m (.agx ds)=.agx ds:=zR
@[simp] theorem PI{p i0 o ds}:ldc p i0 o (.tpx ds)=.tpx ds:=zR
@[simp] theorem Lp{m ds}:cZ m (.tpx ds)=.tpx ds:=zR
@[simp] theorem PC{p i0 o ds}:ldc p i0 o (.ptx ds)=.ptx ds:=zR
@[simp] theorem PE{p i0 o n sz ds}:ldc p i0 o (.rfx n sz ds)=.rfx n sz ds:=zR
@[simp] theorem Lk{m ds}:cZ m (.ptx ds)=.ptx ds:=zR
@[simp] theorem Lm{m n sz ds}:cZ m (.rfx n sz ds)=.rfx n sz ds:=zR
@[simp] theorem Pu{p i0 o g ds}:ldc p i0 o (.fnx g ds)=.fnx g ds:=zR
@[simp] theorem Pw{p0 i0 o T p i off}:ldc p0 i0 o (.ifa T p i off)=.ifa T p i off:=zR
@[simp] theorem Px{p0 i0 o T n}:ldc p0 i0 o (.ifi T n)=.ifi T n:=zR
@[simp] theorem PF{p0 i0 o k es}:ldc p0 i0 o (.slv k es)=.slv k es:=zR
@[simp] theorem Pv{p0 i0 o g ds cs}:ldc p0 i0 o (.fny g ds cs)=.fny g ds cs:=zR
@[simp] theorem Lc{m g ds}:cZ m (.fnx g ds)=.fnx g ds:=zR
@[simp] theorem Le{m T p i off}:cZ m (.ifa T p i off)=.ifa T p i off:=zR
@[simp] theorem Lf{m T n}:cZ m (.ifi T n)=.ifi T n:=zR
@[simp] theorem Ln{m k es}:cZ m (.slv k es)=.slv k es:=zR
@[simp] theorem Ld{m g ds cs}:cZ m (.fny g ds cs)=.fny g ds cs:=zR
@[simp] theorem G5{m}:cZ m .nils=if m=0 then .nils else .own m []:=zR
def slx(b:Bool)(es:List (List D)):D:=match b,es with
 | true,[]=>.nils
 | _,es=>.sl es
@[simp] theorem iZ{es}:slx false es=.sl es:=by cases es<;>rfl
@[simp] theorem LY{b x es}:slx b (x::es)=.sl (x::es):=by cases b<;>rfl
theorem fp(b:Bool)(es:List (List D)):slx b es=.sl es\/(slx b es=.nils/\es=[]):=by cases b<;>cases es<;>simp[slx]
@[simp] theorem Pl{b es}:isV (slx b es)=true:=by cases b<;>cases es<;>rfl
@[simp] theorem NU{b es}:isK (slx b es)=true:=by cases b<;>cases es<;>rfl
@[simp] theorem OE{b es}:isP (slx b es)=true:=by cases b<;>cases es<;>rfl
@[simp] theorem OZ{b es}:isS (slx b es)=true:=by cases b<;>cases es<;>rfl
@[simp] theorem JA{b es}:az (slx b es)=true:=by cases b<;>cases es<;>rfl
@[simp] theorem Of{b es}:isO (slx b es)=false:=by cases b<;>cases es<;>rfl
@[simp] theorem F8{b es}:ci (slx b es)=false:=by cases b<;>cases es<;>rfl
@[simp] theorem MY{b es}:isB (slx b es)=false:=by cases b<;>cases es<;>rfl
@[simp] theorem A9{b es}:cellsOf (slx b es)=[slx b es]:=by cases b<;>cases es<;>rfl
@[simp] theorem EH{b es}:bI (slx b es)=slx b es:=by cases b<;>cases es<;>rfl
@[simp] theorem Fd{b es}:aU (slx b es)=slx b es:=by cases b<;>cases es<;>rfl
@[simp] theorem BD{b es}:aA (slx b es)=[]:=by cases b<;>cases es<;>rfl
@[simp] theorem DB{b es}:a7 (slx b es)=[]:=by cases b<;>cases es<;>rfl
@[simp] theorem Mw{f:Nat->D}{b es}:dp1 f (slx b es)=slx b es:=by cases b<;>cases es<;>rfl
@[simp] theorem QV{f:Nat->D}{b es}:dp f (slx b es)=slx b es:=by cases b<;>cases es<;>rfl
@[simp] theorem FA{f:Nat->D}{b es}:aN f (slx b es)=True:=by cases b<;>cases es<;>rfl
@[simp] theorem IH{f:Nat->D}{b es}:bE f (slx b es)=True:=by cases b<;>cases es<;>rfl
@[simp] theorem PG{p i o b es}:ldc p i o (slx b es)=slx b es:=by cases b<;>cases es<;>rfl
def so(d:D)(K:Nat->Prop)(_:Tag K):Prop:=match d with
 | .sl es=>K es.length
 | .nils=>K 0
 | .ref _ _ n=>K n
 | .rfx n _ _=>K n
 | _=>False
@[simp] theorem KP{n sz ds K u}:so (.rfx n sz ds) K u=K n:=zR
@[simp] theorem PK{es K u}:so (.sl es) K u=K es.length:=zR
@[simp] theorem GN{K u}:so .nils K u=K 0:=zR
@[simp] theorem KO{p k n K u}:so (.ref p k n) K u=K n:=zR
@[simp] theorem KQ{b es K u}:so (slx b es) K u=K es.length:=by cases b<;>cases es<;>rfl
@[simp] theorem Hl{n ds}:nW true n ds=.agg (ds.take n):=zR
@[simp] theorem DN{n ds}:nW false n ds=ds.headD .any:=zR
@[simp] theorem KU{t}:ac [] t=.any:=rfl
def lk(b:Bool)(d:D)(r:Env)(t:Nat):D:=match b with
 | true=>d
 | false=>ac r t
@[simp] theorem PL{d r t}:lk true d r t=d:=rfl
@[simp] theorem KR{d r t}:lk false d r t=ac r t:=rfl
@[simp] theorem GO{s d r t}:ac ((s,d)::r) t=lk (s==t) d r t:=by
 by_cases h:s=t
 ·subst h;simp[ac]
 ·rw[show(s==t)=false by simp[h]];simp[ac,h]
@[simp] theorem Gn{e}:qw [] e=[]:=zR
@[simp] theorem CW{t ts e}:qw (t::ts) e=(t,ac e t)::qw ts e:=zR
@[simp] theorem BN:me []=[]:=zR
@[simp] theorem Ab{t d r}:me ((t,d)::r)=a7 d++me r:=zR
@[simp] theorem HM{e ks}:ud e [] ks=ks:=zR
@[simp] theorem Eo{e r rs ks}:ud e (r::rs) ks=ud e rs (if (ks.map (·.1)).contains r then ks else ks++[(r,ac e r)]):=zR
def gb(f:Nat->D)(d:D)(ns:List Nat)(K:List D->List Nat->Prop)(_:Tag K):Prop:=eT f d ns K
def fH(f:Nat->D)(d:D)(K:D->List Nat->Prop)(_:Tag K):Prop:=cT f d K
def p6(f:Nat->D)(ds:List D)(K:List D->List Nat->Prop)(_:Tag K):Prop:=ik f ds K
def vJ(b n:Nat)(x:D)(K:D->List Nat->Prop)(_:Tag K):Prop:=match x with
 | .blk sz es=>es.length=n/\(∀e∈es,∀c∈e,az c=true)/\K (.own sz es) [b]
 | _=>False
@[simp] theorem HB{b n sz es K u}:vJ b n (.blk sz es) K u=(es.length=n/\(∀e∈es,∀c∈e,az c=true)/\K (.own sz es) [b]):=zR
theorem dG{f:Nat->D}{d:D}{K:D->List Nat->Prop}{u}(h:az d=true):fH f d K u=K d []:=by
 cases d<;>simp[az]at h<;>simp[fH,cT,az]
@[simp] theorem Eh{f b k n K u}:fH f (.ref (.r b) k n) K u=(k=0/\vJ b n (f b) K ⟨⟩):=by
 simp only[fH,cT,vJ]
 cases f b<;>rfl
theorem eS{f:Nat->D}{d:D}{K:List D->List Nat->Prop}{u}(h:az d=true):gb f d [] K u=K [d] []:=by
 cases d<;>simp[az]at h<;>simp[gb,eT,cT,az,dP]
@[simp] theorem HE{f ds K u}:gb f (.agg ds) [] K u=((∀c∈ds,az c=true)/\K ds []):=by simp[gb,eT,dP]
@[simp] theorem HF{f ds K u}:gb f (.agx ds) [] K u=p6 f ds (fun cs bs=>bu bs=true/\K cs bs) ⟨⟩:=by simp[gb,p6,eT,dP]
@[simp] theorem HI{f b k n K u}:gb f (.ref (.r b) k n) [] K u=(k=0/\vJ b n (f b) (fun c bs=>K [c] bs) ⟨⟩):=by
 simp only[gb,eT,cT,vJ,dP,if_true,true_or,true_and]
 cases f b<;>rfl
@[simp] theorem Ek{f K u}:p6 f [] K u=K [] []:=zR
@[simp] theorem Ce{f d ds K u}:p6 f (d::ds) K u=fH f d (fun c bs=>p6 f ds (fun cs bs'=>K (c::cs) (bs++bs')) ⟨⟩) ⟨⟩:=zR
@[simp] theorem Ef{f k n K u}:fH f (.int k n) K u=K (.int k n) []:=dG rfl
@[simp] theorem HG{f k n K u}:gb f (.int k n) [] K u=K [.int k n] []:=eS rfl
@[simp] theorem Cb{f n K u}:fH f (.bool n) K u=K (.bool n) []:=dG rfl
@[simp] theorem El{f n K u}:gb f (.bool n) [] K u=K [.bool n] []:=eS rfl
@[simp] theorem Ej{f n K u}:fH f (.str n) K u=K (.str n) []:=dG rfl
@[simp] theorem HK{f n K u}:gb f (.str n) [] K u=K [.str n] []:=eS rfl
@[simp] theorem Cc{f  K u}:fH f .nilp K u=K .nilp []:=dG rfl
@[simp] theorem Em{f  K u}:gb f .nilp [] K u=K [.nilp] []:=eS rfl
@[simp] theorem Cd{f  K u}:fH f .nils K u=K .nils []:=dG rfl
@[simp] theorem En{f  K u}:gb f .nils [] K u=K [.nils] []:=eS rfl
@[simp] theorem HD{f n K u}:fH f (.sl n) K u=K (.sl n) []:=dG rfl
@[simp] theorem L6{f n K u}:gb f (.sl n) [] K u=K [.sl n] []:=eS rfl
@[simp] theorem Eg{f n K u}:fH f (.ptr n) K u=K (.ptr n) []:=dG rfl
@[simp] theorem HH{f n K u}:gb f (.ptr n) [] K u=K [.ptr n] []:=eS rfl
@[simp] theorem HC{f g n K u}:fH f (.fn g n) K u=K (.fn g n) []:=dG rfl
@[simp] theorem L5{f g n K u}:gb f (.fn g n) [] K u=K [.fn g n] []:=eS rfl
@[simp] theorem Ei{f b n K u}:fH f (slx b n) K u=K (slx b n) []:=dG (by simp)
@[simp] theorem HJ{f b n K u}:gb f (slx b n) [] K u=K [slx b n] []:=eS (by simp)
def pF(f:Nat->D)(sz:Nat)(ps:List (Nat×Opd))(es:List (List D))(bs:List Nat)(K:List (List D)->List Nat->Prop)(_:Tag K):Prop:=eE f sz [] ps es bs K
@[simp] theorem DO{f sz es bs K u}:pF f sz [] es bs K u=K es bs:=zR
@[simp] theorem BL{f sz i x ps es bs K u}:pF f sz ((i,x)::ps) es bs K u=(i<es.length/\gb f (vd f x) [] (fun cs bs'=>cs.length=sz/\pF f sz ps (es.set i cs) (bs++bs') K ⟨⟩) ⟨⟩):=zR
def iG(f:Nat->D)(mv:Bool)(d:D)(sz:Nat)(K:List (List D)->List Nat->Prop)(_:Tag K):Prop:=eP f mv d sz K
def DP(b n sz:Nat)(x:D)(K:List (List D)->List Nat->Prop)(_:Tag K):Prop:=match x with
 | .blk sz' es=>sz'=sz/\es.length=n/\(∀e∈es,∀c∈e,isC c=true)/\K es [b]
 | _=>False
@[simp] theorem LM{b n sz sz' es K u}:DP b n sz (.blk sz' es) K u=(sz'=sz/\es.length=n/\(∀e∈es,∀c∈e,isC c=true)/\K es [b]):=zR
def DQ(k n sz:Nat)(x:Option (Nat×List (List D)))(K:List (List D)->List Nat->Prop)(_:Tag K):Prop:=match x with
 | some (sz',es)=>sz'=sz/\k+n<=es.length/\(∀e∈(es.drop k).take n,∀c∈e,az c=true)/\K ((es.drop k).take n) []
 | none=>False
@[simp] theorem Ho{k n sz sz' es K u}:DQ k n sz (some (sz',es)) K u=(sz'=sz/\k+n<=es.length/\(∀e∈(es.drop k).take n,∀c∈e,az c=true)/\K ((es.drop k).take n) []):=zR
@[simp] theorem DR{f mv sz K u}:iG f mv .nils sz K u=K [] []:=zR
@[simp] theorem LT{f mv es sz K u}:iG f mv (.sl es) sz K u=((∀e∈es,e.length=sz/\∀c∈e,az c=true)/\K es []):=zR
@[simp] theorem Hs{f mv b es sz K u}:iG f mv (slx b es) sz K u=((∀e∈es,e.length=sz/\∀c∈e,az c=true)/\K es []):=by
 rcases fp b es with h|⟨h,rfl⟩<;>rw[h]<;>simp
@[simp] theorem LS{f b k n sz K u}:iG f true (.ref (.r b) k n) sz K u=(k=0/\DP b n sz (f b) K ⟨⟩):=by
 simp only[iG,eP,DP]
 cases f b<;>rfl
@[simp] theorem Hr{f p k n sz K u}:iG f false (.ref p k n) sz K u=DQ k n sz (aR f p) K ⟨⟩:=by
 simp only[iG,eP,DQ]
 cases aR f p<;>rfl
def dH(f:Nat->D)(o:Option Opd)(dflt:Nat)(K:Nat->Prop)(_:Tag K):Prop:=dQ f o dflt K
def HZ(d:D)(K:Nat->Prop)(_:Tag K):Prop:=match d with
 | .int _ n=>0<=n/\K n.toNat
 | _=>False
@[simp] theorem H0{k n K u}:HZ (.int k n) K u=(0<=n/\K n.toNat):=zR
@[simp] theorem AO{f n K u}:dH f none n K u=K n:=zR
@[simp] theorem AP{f x n K u}:dH f (some x) n K u=HZ (vd f x) K ⟨⟩:=zR
def gx(x:Option (List D))(K:List D->Prop)(_:Tag K):Prop:=match x with
 | some r=>K r
 | none=>False
@[simp] theorem Hq{r K u}:gx (some r) K u=K r:=zR
@[simp] theorem Hp{K u}:gx none K u=False:=zR
theorem fS{x:Option (List D)}{K:List D->Prop}{u}:gx x K u=∃r,x=some r/\K r:=by
 cases x<;>simp[gx]
def jw(x:Option D)(K:Nat->List (List D)->Prop)(_:Tag K):Prop:=match x with
 | some (.own sz es)=>K sz es
 | _=>False
@[simp] theorem LI{sz es K u}:jw (some (.own sz es)) K u=K sz es:=zR
theorem iW{x:Option D}{K:Nat->List (List D)->Prop}{u}:jw x K u=∃sz es,x=some (.own sz es)/\K sz es:=by
 cases x with
 | none=>simp[jw]
 | some d =>
  cases d<;>simp[jw]
  exact⟨fun h=>⟨_,_,⟨rfl,rfl⟩,h⟩,by rintro⟨_,_,⟨rfl,rfl⟩,h⟩;exact h⟩
def yw(x:Option D)(K:D->Prop)(_:Tag K):Prop:=match x with
 | some d=>K d
 | none=>False
@[simp] theorem EV{d K u}:yw (some d) K u=K d:=zR
theorem yx{x:Option D}{K:D->Prop}{u}:yw x K u=∃d,x=some d/\K d:=by
 cases x<;>simp[yw]
def cX(x:D)(K:Nat->List (List D)->Prop)(_:Tag K):Prop:=match x with
 | .blk sz es=>K sz es
 | _=>False
@[simp] theorem HY{sz es K u}:cX (.blk sz es) K u=K sz es:=zR
abbrev CC:=Nat->List D->D->List D->Prop
abbrev KT:=List (Nat×D)->List (Nat×Bool)->Prop
section
variable{C:CC}{Q:b6->Env->Prop}{e e':Env}{d:D}
def wN(C:CC)(c:cW)(Q:b6->Env->Prop)(_:Tag (c,Q))(e:Env):Prop:=wpN C c Q e
def tu(C:CC)(c:cW)(Q:b6->Env->Prop)(_:Tag (c,Q))(e:Env):Prop:=wpN C (.loop c) Q e
def uX(C:CC)(K:Env->Prop)(ns:List ao)(_:Tag (K,ns))(e:Env):Prop:=ig C K ns e
def sE(C:CC)(hs:List Nat)(K:Env->Prop)(ns:List ao)(_:Tag (K,ns))(e:Env)(acc:List (List Nat×List Nat)):Prop:=jh C hs K ns e acc
def Jb(hs:List Nat)(acc:List (List Nat×List Nat)):Prop:=j1 hs acc.reverse=true
theorem aw{hs:List Nat}{acc:List (List Nat×List Nat)}(h:j1 hs acc.reverse=true):Jb hs acc:=h
def Be(C:CC)(K:Env->Prop)(ns:List ao)(e:Env):KT:=fun ws ks=>ig C K ns (ws++dJ ks e)
def Id(C:CC)(hs:List Nat)(K:Env->Prop)(ns:List ao)(e:Env)(R:List Nat)(acc:List (List Nat×List Nat)):KT:=fun ws ks=>wOk R ws ks=true/\jh C hs K ns (ws++dJ ks e) ((R,wrK ws ks)::acc)
def br(Q:b6->Env->Prop)(_:Tag Q)(t:b6)(e:Env):Prop:=Q t e
def fin(res:List (Nat×Option (Nat×Bool)))(d:D):b6->Env->Prop:=fun t e=>(match t with
   | .ext _=>False
   | _=>True)/\eM res d e
def Ag(C:CC)(y:cW)(Q:b6->Env->Prop):b6->Env->Prop:=fun t e'=>match t with
  | .nrm=>wpN C y Q e'
  | t=>Q t e'
def pf(id:Nat)(Q:b6->Env->Prop):b6->Env->Prop:=fun t e'=>match t with
  | .ext i=>if i=id then Q .nrm e' else Q (.ext i) e'
  | t=>Q t e'
def z8(keep:List Nat)(Q:b6->Env->Prop):Env->Prop:=fun e'=>Q .nrm (prune keep e')
def kOf(C:CC)(hs:Option (List Nat))(K:Env->Prop)(ns:List ao)(e:Env)(R:List Nat)(acc:List (List Nat×List Nat)):KT :=
 match hs with
 | none=>Be C K ns e
 | some hs=>Id C hs K ns e R acc
def doW(C:CC)(hs:Option (List Nat))(K:Env->Prop)(ns:List ao)(_:Tag (hs,K,ns))(e:Env)(R:List Nat)(acc:List (List Nat×List Nat))(ws:List (Nat×D))(ks:List (Nat×Bool)):Prop:=kOf C hs K ns e R acc ws ks
def opW(C:CC)(hs:Option (List Nat))(K:Env->Prop)(ns:List ao)(dst:Option Nat)(op:NOp)(_:Tag (hs,K,ns,dst,op))(e:Env)(R:List Nat)(acc:List (List Nat×List Nat)):Prop:=aC C (ac e) dst (kOf C hs K ns e R acc) op
def dW(C:CC)(hs:Option (List Nat))(K:Env->Prop)(ns:List ao)(dst:Option Nat)(_:Tag (hs,K,ns))(e:Env)(R:List Nat)(acc:List (List Nat×List Nat))(d:D):Prop:=dc dst (kOf C hs K ns e R acc) d
def qc(C:CC)(g:Nat)(hs:Option (List Nat))(K:Env->Prop)(ns:List ao)(dst:Option Nat)(_:Tag (hs,K,ns))(e:Env)(R:List Nat)(acc:List (List Nat×List Nat))(pure:Bool)(ds:List D):Prop :=
 ∃d,C g ds d []/\(isF d=true\/pure=true)/\dc dst (kOf C hs K ns e R acc) d
theorem aj{prog:Nat->Option ar}(hC:al prog C){g:Nat}{nf:ar}{ds:List D}(hp:prog g=some nf)(hl:ds.length=nf.np)(h:wN C nf.body (fin nf.res d) ⟨⟩ (params 0 ds)):C g ds d []:=hC.1.1 g nf ds d hp hl h
def rT(res:List (Nat×Option (Nat×Bool)))(sz:Nat)(es:List (List D)):b6->Env->Prop:=fun t e=>(match t with
   | .ext _=>False
   | _=>True)/\jE res sz es e
theorem pO{prog:Nat->Option ar}(hC:al prog C){g:Nat}{nf:ar}{ds:List D}{sz:Nat}{es:List (List D)}(hp:prog g=some nf)(hl:ds.length=nf.np)(h:wN C nf.body (rT nf.res sz es) ⟨⟩ (params 0 ds)):C g ds .any [.own sz es]:=hC.1.2.2.1 g nf ds sz es hp hl h
def uB(res:List (Nat×Option (Nat×Bool)))(d:D):b6->Env->Prop:=fun t e=>(match t with
   | .ext _=>False
   | _=>True)/\jD res d e
def pq(res:List (Nat×Option (Nat×Bool)))(d:D)(sz:Nat)(es':List (List D)):b6->Env->Prop:=fun t e=>(match t with
   | .ext _=>False
   | _=>True)/\(0<es'.length/\ac e 10015=.blk sz es')/\eM res d ((10015,.any)::e)
theorem sP{prog:Nat->Option ar}(hC:al prog C){g:Nat}{nf:ar}{ds:List D}{d:D}{sz:Nat}{es es':List (List D)}(hp:prog g=some nf)(hl:ds.length+1=nf.np)(h:wN C nf.body (pq nf.res d sz es') ⟨⟩ ((0,.adr (.r 10015) 0 0)::(params 1 ds++[(10015,.blk sz es)]))):C g (.blk sz es::ds) d [.blk sz es']:=hC.1.2.2.2.2.1 g nf ds d sz es es' hp hl h
theorem D4{prog:Nat->Option ar}(hC:lZ prog C){g:Nat}{nf:ar}{W:List D}{d:D}{sz:Nat}{es es':List (List D)}(hp:prog g=some nf)(hl:W.length=nf.np)(h:wN C nf.body (pq nf.res d sz es') ⟨⟩ (params 0 W++[(10015,.blk sz es)])):C g (.blk sz es::W) d [.blk sz es',.nilp]:=hC.2.2.2.2.2.1 g nf W d sz es es' hp hl h
def uC(res:List (Nat×Option (Nat×Bool)))(sz:Nat)(es:List (List D)):b6->Env->Prop:=fun t e=>(match t with
   | .ext _=>False
   | _=>True)/\jF res sz es e
def rS(res:List (Nat×Option (Nat×Bool)))(R:D):b6->Env->Prop:=fun t e=>(match t with
   | .ext _=>False
   | _=>True)/\qU res R e
theorem D3{prog:Nat->Option ar}(hC:al prog C){g:Nat}{nf:ar}{ds:List D}{R:D}(hp:prog g=some nf)(hl:ds.length=nf.np)(hok:okR R=true)(h:wN C nf.body (rS nf.res R) ⟨⟩ (params 0 ds)):C g ds R [.nils]:=hC.1.2.2.2.2.2.2.2 g nf ds R hp hl hok h
def rG(C:CC)(g:Nat)(hs:Option (List Nat))(K:Env->Prop)(ns:List ao)(t:Nat)(_:Tag (hs,K,ns))(e:Env)(R:List Nat)(acc:List (List Nat×List Nat))(ds:List D):Prop :=
 (∃d,C g ds d []/\dc (some t) (kOf C hs K ns e R acc) d)\/∃d,okR d=true/\C g ds d [.nils]/\kOf C hs K ns e R acc ((t,eL t d)::aQ t d) (en t d)
theorem oh{g:Nat}{hs:Option (List Nat)}{K:Env->Prop}{ns:List ao}{t:Nat}{u:Tag (hs,K,ns)}{R:List Nat}{acc:List (List Nat×List Nat)}{ds:List D}{d:D}(h:C g ds d [.nils])(hok:okR d=true)(hk:doW C hs K ns ⟨⟩ e R acc ((t,eL t d)::aQ t d) (en t d)):rG C g hs K ns t u e R acc ds:=.inr ⟨d,hok,h,hk⟩
theorem og{g:Nat}{hs:Option (List Nat)}{K:Env->Prop}{ns:List ao}{t:Nat}{u:Tag (hs,K,ns)}{R:List Nat}{acc:List (List Nat×List Nat)}{ds:List D}{d:D}(h:C g ds d [])(hk:dW C hs K ns (some t) ⟨⟩ e R acc d):rG C g hs K ns t u e R acc ds:=.inl ⟨d,h,hk⟩
def vO(C:CC)(g:Nat)(hs:Option (List Nat))(K:Env->Prop)(ns:List ao)(t:Nat)(_:Tag (hs,K,ns))(e:Env)(R:List Nat)(acc:List (List Nat×List Nat))(ds:List D):Prop :=
 ∃sz es,C g ds .any [.own sz es]/\kOf C hs K ns e R acc [(t,.ref (.r (rt t 0)) 0 es.length),(rt t 0,.blk sz es)] [(rt t 0,true)]
theorem oi{g:Nat}{hs:Option (List Nat)}{K:Env->Prop}{ns:List ao}{t:Nat}{u:Tag (hs,K,ns)}{R:List Nat}{acc:List (List Nat×List Nat)}{ds:List D}{sz:Nat}{es:List (List D)}(h:C g ds .any [.own sz es])(hk:doW C hs K ns ⟨⟩ e R acc [(t,.ref (.r (rt t 0)) 0 es.length),(rt t 0,.blk sz es)] [(rt t 0,true)]):vO C g hs K ns t u e R acc ds:=⟨sz,es,h,hk⟩
@[simp] theorem Rb{f:Nat->D}{b t:Nat}:fbE f b t=if t=b then .any else f t:=zR
theorem aa{g:Nat}{hs:Option (List Nat)}{K:Env->Prop}{ns:List ao}{dst:Option Nat}{u:Tag (hs,K,ns)}{R:List Nat}{acc:List (List Nat×List Nat)}{p:Bool}{ds:List D}(h:C g ds d [])(hf:isF d=true\/p=true)(hk:dW C hs K ns dst ⟨⟩ e R acc d):qc C g hs K ns dst u e R acc p ds:=⟨d,h,hf,hk⟩
def pK(S:Type)(G:S->Env)(I:S->Prop)(m:S->Nat)(s:S)(Q:b6->Env->Prop):b6->Env->Prop:=fun t e'=>match t with
    | .nrm=>∃s',I s'/\m s'<m s/\jM e' (G s')
    | t=>Q t e'
theorem aF{c:cW}{u:Tag (c,Q)}(S:Type)(G:S->Env)(I:S->Prop)(m:S->Nat)(s0:S)(h0:I s0)(hw:jM e (G s0))
  (h:∀s,I s->wN C c (pK S G I m s Q) ⟨⟩ (G s)):tu C c Q u e:=⟨S,G,I,m,s0,h0,hw,h⟩
@[simp] theorem Qr{u}:wN C .skip Q u e=br Q ⟨⟩ .nrm e:=zR
@[simp] theorem RU{hs keep ops u}:wN C (.reg false hs keep ops) Q u e=uX C (z8 keep Q) ops ⟨⟩ e:=zR
@[simp] theorem Qo{hs keep ops u}:wN C (.reg true hs keep ops) Q u e=sE C hs (z8 keep Q) ops ⟨⟩ e []:=zR
@[simp] theorem RW{x y u}:wN C (.seq x y) Q u e=wN C x (Ag C y Q) ⟨⟩ e:=zR
def brB(b:Bool)(X Y:Prop)(_:Tag (X,Y)):Prop:=(b=true->X)/\(b=false->Y)
theorem ae{b:Bool}{X Y:Prop}{u}(h1:b=true->X)(h2:b=false->Y):brB b X Y u:=⟨h1,h2⟩
@[simp] theorem H7{X Y:Prop}{u}:brB true X Y u=X:=by simp[brB]
@[simp] theorem EU{X Y:Prop}{u}:brB false X Y u=Y:=by simp[brB]
def cdW(C:CC)(x y:cW)(Q:b6->Env->Prop)(_:Tag (x,y,Q))(e:Env)(d:D):Prop:=match d with
 | .bool b=>brB b (wN C x Q ⟨⟩ e) (wN C y Q ⟨⟩ e) ⟨⟩
 | .bb=>wN C x Q ⟨⟩ e/\wN C y Q ⟨⟩ e
 | _=>False
@[simp] theorem Qv{x y u}:cdW C x y Q u e .bb=(wN C x Q ⟨⟩ e/\wN C y Q ⟨⟩ e):=zR
@[simp] theorem H8{x y u b}:cdW C x y Q u e (.bool b)=brB b (wN C x Q ⟨⟩ e) (wN C y Q ⟨⟩ e) ⟨⟩:=zR
@[simp] theorem Qn{c x y u}:wN C (.cond c x y) Q u e=cdW C x y Q ⟨⟩ e (vd (ac e) c):=zR
@[simp] theorem L3{id c u}:wN C (.block id c) Q u e=wN C c (pf id Q) ⟨⟩ e:=zR
@[simp] theorem Qq{c u}:wN C (.loop c) Q u e=tu C c Q ⟨⟩ e:=zR
@[simp] theorem Qp{id u}:wN C (.exit id) Q u e=br Q ⟨⟩ (.ext id) e:=zR
@[simp] theorem RV{u}:wN C .ret Q u e=br Q ⟨⟩ .ret e:=zR
@[simp] theorem yS{y u}:br (Ag C y Q) u .nrm e=wN C y Q ⟨⟩ e:=zR
@[simp] theorem yR{y u i}:br (Ag C y Q) u (.ext i) e=br Q ⟨⟩ (.ext i) e:=zR
@[simp] theorem yT{y u}:br (Ag C y Q) u .ret e=br Q ⟨⟩ .ret e:=zR
@[simp] theorem wi{id u}:br (pf id Q) u .nrm e=br Q ⟨⟩ .nrm e:=zR
@[simp] theorem wh{id u i}:br (pf id Q) u (.ext i) e=if i=id then br Q ⟨⟩ .nrm e else br Q ⟨⟩ (.ext i) e:=zR
@[simp] theorem wj{id u}:br (pf id Q) u .ret e=br Q ⟨⟩ .ret e:=zR
@[simp] theorem yJ{r u}:br (fin r d) u .nrm e=eM r d e:=by simp[br,fin]
@[simp] theorem yK{r u}:br (fin r d) u .ret e=eM r d e:=by simp[br,fin]
@[simp] theorem yb{r d}{u:Tag (uB r d)}:br (uB r d) u .nrm e=jD r d e:=by simp[br,uB]
@[simp] theorem yc{r d}{u:Tag (uB r d)}:br (uB r d) u .ret e=jD r d e:=by simp[br,uB]
@[simp] theorem x9{r sz es}{u:Tag (rT r sz es)}:br (rT r sz es) u .nrm e=jE r sz es e:=by simp[br,rT]
@[simp] theorem ya{r sz es}{u:Tag (rT r sz es)}:br (rT r sz es) u .ret e=jE r sz es e:=by simp[br,rT]
@[simp] theorem yg{r d sz es}{u:Tag (pq r d sz es)}:br (pq r d sz es) u .nrm e=((0<es.length/\ac e 10015=.blk sz es)/\eM r d ((10015,.any)::e)):=by simp[br,pq]
@[simp] theorem yh{r d sz es}{u:Tag (pq r d sz es)}:br (pq r d sz es) u .ret e=((0<es.length/\ac e 10015=.blk sz es)/\eM r d ((10015,.any)::e)):=by simp[br,pq]
@[simp] theorem ye{r sz es}{u:Tag (uC r sz es)}:br (uC r sz es) u .nrm e=jF r sz es e:=by simp[br,uC]
@[simp] theorem yf{r sz es}{u:Tag (uC r sz es)}:br (uC r sz es) u .ret e=jF r sz es e:=by simp[br,uC]
@[simp] theorem x7{r d}{u:Tag (rS r d)}:br (rS r d) u .nrm e=qU r d e:=by simp[br,rS]
@[simp] theorem x8{r d}{u:Tag (rS r d)}:br (rS r d) u .ret e=qU r d e:=by simp[br,rS]
@[simp] theorem wl{S G I m s u}:br (pK S G I m s Q) u .nrm e=∃s',I s'/\m s'<m s/\jM e (G s'):=zR
@[simp] theorem wk{S G I m s u i}:br (pK S G I m s Q) u (.ext i) e=br Q ⟨⟩ (.ext i) e:=zR
@[simp] theorem wm{S G I m s u}:br (pK S G I m s Q) u .ret e=br Q ⟨⟩ .ret e:=zR
end
section
variable{C:CC}{Q:b6->Env->Prop}{e:Env}{K:Env->Prop}{dst:Option Nat}{d:D}{hs:Option (List Nat)}{ns:List ao}{R:List Nat}{acc:List (List Nat×List Nat)}{u:Tag (hs,K,ns)}
@[simp] theorem LG{keep u}:uX C (z8 keep Q) [] u e=br Q ⟨⟩ .nrm (prune keep e):=zR
@[simp] theorem LF{h keep u}:sE C h (z8 keep Q) [] u e acc=(Jb h acc/\br Q ⟨⟩ .nrm (prune keep e)):=zR
@[simp] theorem Hh{dst op ns u}:uX C K (⟨dst,op,none⟩::ns) u e=opW C none K ns dst op ⟨⟩ e [] []:=zR
@[simp] theorem Hf{h dst op ns u}:sE C h K (⟨dst,op,none⟩::ns) u e acc=(chk (ac e) ⟨dst,op,none⟩=true/\opW C (some h) K ns dst op ⟨⟩ e (iq (ac e) ⟨dst,op,none⟩) acc):=zR
def nF(C:CC)(h:List Nat)(K:Env->Prop)(ns:List ao)(_:Tag (h,K,ns))(e:Env)(dst:Option Nat)(R:List Nat)(acc:List (List Nat×List Nat)):Prop:=gC e dst fun e'=>jh C h K ns e' ((R,uz dst)::acc)
@[simp] theorem DV{h t ns u}:nF C h K ns u e (some t) R acc=sE C h K ns ⟨⟩ ((t,.tup [])::e) ((R,[4*t])::acc):=zR
@[simp] theorem DU{h ns u}:nF C h K ns u e none R acc=sE C h K ns ⟨⟩ e ((R,[])::acc):=zR
def gdT(C:CC)(K:Env->Prop)(ns:List ao)(dst:Option Nat)(op:NOp)(s:Nat)(want:Bool)(_:Tag (K,ns))(e:Env)(d:D):Prop:=match d with
 | .bool b=>(b=want->opW C none K ns dst op ⟨⟩ ((s,.bool want)::e) [] [])/\(b=!want->dW C none K ns dst ⟨⟩ ((s,.bool !want)::e) [] [] (.tup []))
 | .tup []=>dW C none K ns dst ⟨⟩ e [] [] (.tup [])
 | _=>False
@[simp] theorem IV{op s b u}:gdT C K ns dst op s true u e (.bool b)=brB b (opW C none K ns dst op ⟨⟩ ((s,.bool true)::e) [] []) (dW C none K ns dst ⟨⟩ ((s,.bool false)::e) [] [] (.tup [])) ⟨⟩:=zR
@[simp] theorem FL{op s b u}:gdT C K ns dst op s false u e (.bool b)=brB b (dW C none K ns dst ⟨⟩ ((s,.bool true)::e) [] [] (.tup [])) (opW C none K ns dst op ⟨⟩ ((s,.bool false)::e) [] []) ⟨⟩:=by
 simp only[gdT,brB,Bool.not_false];exact propext ⟨fun h=>⟨h.2,h.1⟩,fun h=>⟨h.2,h.1⟩⟩
@[simp] theorem IU{op s want u}:gdT C K ns dst op s want u e (.tup [])=dW C none K ns dst ⟨⟩ e [] [] (.tup []):=zR
@[simp] theorem Hi{dst op s want ns u}:uX C K (⟨dst,op,some (s,want)⟩::ns) u e=gdT C K ns dst op s want ⟨⟩ e (ac e s):=by
 simp only[uX,ig,opW,rq,gC,gdT,dW,dc,kOf,Be,dJ]
 cases ac e s<;>cases dst<;>(first|rfl|(rename_i x _ ;cases x<;>rfl)|(rename_i x;cases x<;>rfl))
def gdD(C:CC)(h:List Nat)(K:Env->Prop)(ns:List ao)(dst:Option Nat)(op:NOp)(want:Bool)(_:Tag (K,ns))(e:Env)(R:List Nat)(acc:List (List Nat×List Nat))(d:D):Prop:=match d with
 | .bool b=>(b=want->opW C (some h) K ns dst op ⟨⟩ e R acc)/\(b=!want->nF C h K ns ⟨⟩ e dst R acc)
 | .tup []=>nF C h K ns ⟨⟩ e dst R acc
 | _=>False
@[simp] theorem IT{h op b u}:gdD C h K ns dst op true u e R acc (.bool b)=brB b (opW C (some h) K ns dst op ⟨⟩ e R acc) (nF C h K ns ⟨⟩ e dst R acc) ⟨⟩:=zR
@[simp] theorem FK{h op b u}:gdD C h K ns dst op false u e R acc (.bool b)=brB b (nF C h K ns ⟨⟩ e dst R acc) (opW C (some h) K ns dst op ⟨⟩ e R acc) ⟨⟩:=by
 simp only[gdD,brB,Bool.not_false];exact propext ⟨fun h=>⟨h.2,h.1⟩,fun h=>⟨h.2,h.1⟩⟩
@[simp] theorem IS{h op want u}:gdD C h K ns dst op want u e R acc (.tup [])=nF C h K ns ⟨⟩ e dst R acc:=zR
@[simp] theorem Hg{h dst op s want ns u}:sE C h K (⟨dst,op,some (s,want)⟩::ns) u e acc=(chk (ac e) ⟨dst,op,some (s,want)⟩=true/\gdD C h K ns dst op want ⟨⟩ e (iq (ac e) ⟨dst,op,some (s,want)⟩) acc (ac e s)):=zR
@[simp] theorem Ii{K ns u ws ks}:doW C none K ns u e R acc ws ks=uX C K ns ⟨⟩ (ws++dJ ks e):=zR
@[simp] theorem Ih{h K ns u ws ks}:doW C (some h) K ns u e R acc ws ks=(wOk R ws ks=true/\sE C h K ns ⟨⟩ (ws++dJ ks e) ((R,wrK ws ks)::acc)):=zR
@[simp] theorem Me{t}:dW C hs K ns (some t) u e R acc d=doW C hs K ns ⟨⟩ e R acc [(t,d)] []:=zR
@[simp] theorem Md:dW C hs K ns none u e R acc d=doW C hs K ns ⟨⟩ e R acc [] []:=zR
def aH(ks:List (Nat×Bool))(d:D):D:=if aD ks d then .any else d
theorem bz(ks:List (Nat×Bool))(d:D):aH ks d=bif aD ks d then .any else d:=by
 unfold aH;cases aD ks d<;>rfl
@[simp] theorem GM:dJ [] e=e:=zR
@[simp] theorem GL{k ks}:dJ (k::ks) []=[]:=zR
@[simp] theorem C2{k ks s d}:dJ (k::ks) ((s,d)::e)=(s,aH (k::ks) d)::dJ (k::ks) e:=zR
@[simp] theorem Gs{ks}:aH ks .any=.any:=by simp[aH]
@[simp] theorem Gz{ks k n}:aH ks (.int k n)=.int k n:=by simp[aH,aD,cF,aB]
@[simp] theorem CZ{ks n}:aH ks (.bool n)=.bool n:=by simp[aH,aD,cF,aB]
@[simp] theorem GI{ks n}:aH ks (.str n)=.str n:=by simp[aH,aD,cF,aB]
@[simp] theorem KD{ks}:aH ks .bb=.bb:=by simp[aH,aD,cF,aB]
@[simp] theorem C0{ks}:aH ks .nilp=.nilp:=by simp[aH,aD,cF,aB]
@[simp] theorem C1{ks}:aH ks .nils=.nils:=by simp[aH,aD,cF,aB]
@[simp] theorem Gq{ks n}:aH ks (.agg n)=.agg n:=by simp[aH,aD,cF,aB]
@[simp] theorem GK{ks n}:aH ks (.tup n)=.tup n:=by simp[aH,aD,cF,aB]
@[simp] theorem KG{ks n}:aH ks (.sl n)=.sl n:=by simp[aH,aD,cF,aB]
@[simp] theorem GC{ks n}:aH ks (.ptr n)=.ptr n:=by simp[aH,aD,cF,aB]
@[simp] theorem KE{ks g n}:aH ks (.fn g n)=.fn g n:=by simp[aH,aD,cF,aB]
@[simp] theorem Gt{ks g n}:aH ks (.blk g n)=.blk g n:=by simp[aH,aD,cF,aB]
@[simp] theorem KF{ks kt et xs vs}:aH ks (.mp kt et xs vs)=.mp kt et xs vs:=by simp[aH,aD,cF,aB]
@[simp] theorem GE{b all ks p k n}:aH ((b,all)::ks) (.ref p k n)=if bA b all p then .any else aH ks (.ref p k n):=by
 have h:aH ((b,all)::ks) (.ref p k n)=bif (bA b all p||aD ks (.ref p k n)) then .any else .ref p k n:=bz ..
 rw[h,bz]
 cases bA b all p<;>rfl
@[simp] theorem Gp{b all ks p k n}:aH ((b,all)::ks) (.adr p k n)=if bA b all p then .any else aH ks (.adr p k n):=by
 have h:aH ((b,all)::ks) (.adr p k n)=bif (bA b all p||aD ks (.adr p k n)) then .any else .adr p k n:=bz ..
 rw[h,bz]
 cases bA b all p<;>rfl
@[simp] theorem Gr{b all ks n}:aH ((b,all)::ks) (.agx n)=if n.any (aB b all) then .any else aH ks (.agx n):=by
 have h:aH ((b,all)::ks) (.agx n)=bif (n.any (aB b all)||aD ks (.agx n)) then .any else .agx n:=bz ..
 rw[h,bz]
 cases n.any (aB b all)<;>rfl
@[simp] theorem Gu{b all ks g n}:aH ((b,all)::ks) (.fnx g n)=if n.any (aB b all) then .any else aH ks (.fnx g n):=by
 have h:aH ((b,all)::ks) (.fnx g n)=bif (n.any (aB b all)||aD ks (.fnx g n)) then .any else .fnx g n:=bz ..
 rw[h,bz]
 cases n.any (aB b all)<;>rfl
@[simp] theorem Gy{ks T n}:aH ks (.ifi T n)=.ifi T n:=by simp[aH,aD,cF,aB]
@[simp] theorem GG{ks q n}:aH ks (.slv q n)=.slv q n:=by simp[aH,aD,cF,aB]
@[simp] theorem Gx{b all ks T p k n}:aH ((b,all)::ks) (.ifa T p k n)=if bA b all p then .any else aH ks (.ifa T p k n):=by
 have h:aH ((b,all)::ks) (.ifa T p k n)=bif (bA b all p||aD ks (.ifa T p k n)) then .any else .ifa T p k n:=bz ..
 rw[h,bz]
 cases bA b all p<;>rfl
@[simp] theorem Gw{b all ks g ds cs}:aH ((b,all)::ks) (.fny g ds cs)=if ds.any (aB b all)||cs.any (aB b all) then .any else aH ks (.fny g ds cs):=by
 have h:aH ((b,all)::ks) (.fny g ds cs)=bif ((ds.any (aB b all)||cs.any (aB b all))||aD ks (.fny g ds cs)) then .any else .fny g ds cs:=bz ..
 rw[h,bz]
 cases ds.any (aB b all)<;>cases cs.any (aB b all)<;>rfl
@[simp] theorem GB{d}:aH [] d=d:=by simp[aH,aD]
@[simp] theorem GH{ks b es}:aH ks (slx b es)=slx b es:=by cases b<;>cases es<;>simp[slx]
def hJ(C:CC)(hs:Option (List Nat))(K:Env->Prop)(ns:List ao)(dst:Option Nat)(_:Tag (hs,K,ns))(e:Env)(R:List Nat)(acc:List (List Nat×List Nat))(sz:Nat)(es:List (List D))(i:Nat):Prop :=
 ∃c,es[i]? = some c/\c.length=sz/\dc dst (kOf C hs K ns e R acc) (.ptr c)
@[simp] theorem I9{α:Type}[Inhabited α]{sz:Nat}{xs:List α}{f:α->List D}{i:Nat}:hJ C hs K ns dst u e R acc sz (xs.map f) i=(i<xs.length/\(f xs[i]!).length=sz/\dW C hs K ns dst ⟨⟩ e R acc (.ptr (f xs[i]!))):=by
 apply propext
 unfold hJ dW
 constructor
 ·rintro⟨c,h,h1,h2⟩
  rw[x0x,x0j]at h
  obtain⟨x,hx,rfl⟩:=h
  obtain⟨hi,rfl⟩:=x0b.1 hx
  rw[x0g xs i hi]
  exact⟨hi,h1,h2⟩
 ·rintro⟨hi,h1,h2⟩
  rw[x0g xs i hi]at h1 h2
  exact⟨_,by rw[x0x,x0e hi];rfl,h1,h2⟩
def Ck(C:CC)(hs:Option (List Nat))(K:Env->Prop)(ns:List ao)(dst:Option Nat)(_:Tag (hs,K,ns))(e:Env)(R:List Nat)(acc:List (List Nat×List Nat))(s:List UInt8)(i:Nat):Prop :=
 ∃b,s[i]? = some b/\dc dst (kOf C hs K ns e R acc) (.int .u8 b.toNat)
@[simp] theorem Mc{s:List UInt8}{i:Nat}:Ck C hs K ns dst u e R acc s i=(i<s.length/\dW C hs K ns dst ⟨⟩ e R acc (.int .u8 (s[i]!).toNat)):=by
 apply propext
 unfold Ck dW
 constructor
 ·rintro⟨b,h,h2⟩
  obtain⟨hi,rfl⟩:=x0b.1 h
  rw[x0g s i hi]
  exact⟨hi,h2⟩
 ·rintro⟨hi,h2⟩
  rw[x0g s i hi]at h2
  exact⟨_,x0e hi,h2⟩
def li(C:CC)(hs:Option (List Nat))(K:Env->Prop)(ns:List ao)(dst:Option Nat)(_:Tag (hs,K,ns))(e:Env)(R:List Nat)(acc:List (List Nat×List Nat))(n:Nat)(ag:Bool)(p:Pa)(es:List (List D))(i off:Nat):Prop :=
 ∃r,es[i]? = some r/\off+n<=r.length/\match ag with
    | true=>(((r.drop off).take n).all isV=true->dc dst (kOf C hs K ns e R acc) (.agg ((r.drop off).take n))) /\
      (((r.drop off).take n).all isV=false->dc dst (kOf C hs K ns e R acc) (.agx (((r.drop off).take n).mapIdx fun j c=>ldc p i (off+j) c)))
    | false=>dc dst (kOf C hs K ns e R acc) (ldc p i off ((r.drop off).headD .any))
theorem tH{n:Nat}{ag:Bool}{p:Pa}{es:List (List D)}{i off:Nat}{r:List D}(hr:es[i]? = some r)(hl:off+n<=r.length)(hk:match ag with
    | true=>(((r.drop off).take n).all isV=true->dW C hs K ns dst ⟨⟩ e R acc (.agg ((r.drop off).take n))) /\
      (((r.drop off).take n).all isV=false->dW C hs K ns dst ⟨⟩ e R acc (.agx (((r.drop off).take n).mapIdx fun j c=>ldc p i (off+j) c)))
    | false=>dW C hs K ns dst ⟨⟩ e R acc (ldc p i off ((r.drop off).headD .any))):li C hs K ns dst u e R acc n ag p es i off:=by
 refine⟨r,hr,hl,?_⟩
 cases ag<;>exact hk
@[simp] theorem LR{n:Nat}{ag:Bool}{p:Pa}{r:List D}{off:Nat}:li C hs K ns dst u e R acc n ag p [r] 0 off=(off+n<=r.length/\match ag with
    | true=>(((r.drop off).take n).all isV=true->dW C hs K ns dst ⟨⟩ e R acc (.agg ((r.drop off).take n))) /\
      (((r.drop off).take n).all isV=false->dW C hs K ns dst ⟨⟩ e R acc (.agx (((r.drop off).take n).mapIdx fun j c=>ldc p 0 (off+j) c)))
    | false=>dW C hs K ns dst ⟨⟩ e R acc (ldc p 0 off ((r.drop off).headD .any))):=by
 apply propext
 constructor
 ·rintro⟨r',h1,h2,h3⟩
  simp at h1;subst h1
  refine⟨h2,?_⟩
  cases ag<;>exact h3
 ·rintro⟨h2,h3⟩
  refine⟨r,rfl,h2,?_⟩
  cases ag<;>exact h3
end
section
variable{C:CC}{Q:b6->Env->Prop}{e:Env}{K:Env->Prop}{dst:Option Nat}{hs:Option (List Nat)}{ns:List ao}{R:List Nat}{acc:List (List Nat×List Nat)}{u:Tag (hs,K,ns)}
@[simp] theorem Qf{x v1}:opW C hs K ns dst (.mov x) v1 e R acc=(isS (vd (ac e) x)=true/\dW C hs K ns dst ⟨⟩ e R acc (vd (ac e) x)):=zR
@[simp] theorem Qi{x v1}:opW C hs K ns dst (.nck x) v1 e R acc=(match (generalizing:=false) vd (ac e) x with
  | .ptr ds=>dW C hs K ns dst ⟨⟩ e R acc (.ptr ds)
  | .adr p i off=>dW C hs K ns dst ⟨⟩ e R acc (.adr p i off)
  | .ptx ds=>dW C hs K ns dst ⟨⟩ e R acc (.ptx ds)
  | _=>False):=zR
@[simp] theorem LE{c a b v1}:opW C hs K ns dst (.pick c a b) v1 e R acc=(match (generalizing:=false) vd (ac e) c with
  | .bool v=>(v=true->isS (vd (ac e) a)=true/\dW C hs K ns dst ⟨⟩ e R acc (vd (ac e) a))/\(v=false->isS (vd (ac e) b)=true/\dW C hs K ns dst ⟨⟩ e R acc (vd (ac e) b))
  | _=>False):=zR
@[simp] theorem PV{op x y v1}:opW C hs K ns dst (.bin op x y) v1 e R acc=(match (generalizing:=false) vd (ac e) x,vd (ac e) y with
  | .int k a,.int k' b=>match (generalizing:=false) op with
   | .add=>k=k'/\dW C hs K ns dst ⟨⟩ e R acc (.int k (k.wrap (a+b)))
   | .sub=>k=k'/\dW C hs K ns dst ⟨⟩ e R acc (.int k (k.wrap (a-b)))
   | .mul=>k=k'/\dW C hs K ns dst ⟨⟩ e R acc (.int k (k.wrap (a*b)))
   | .quo=>k=k'/\b≠0/\dW C hs K ns dst ⟨⟩ e R acc (.int k (k.wrap (a.tdiv b)))
   | .rem=>k=k'/\b≠0/\dW C hs K ns dst ⟨⟩ e R acc (.int k (a.tmod b))
   | .and=>k=k'/\dW C hs K ns dst ⟨⟩ e R acc (.int k (bits .and k a b))
   | .or=>k=k'/\dW C hs K ns dst ⟨⟩ e R acc (.int k (bits .or k a b))
   | .xor=>k=k'/\dW C hs K ns dst ⟨⟩ e R acc (.int k (bits .xor k a b))
   | .andNot=>k=k'/\dW C hs K ns dst ⟨⟩ e R acc (.int k (bits .andNot k a b))
   | .shl=>0<=b/\dW C hs K ns dst ⟨⟩ e R acc (.int k (k.wrap (a*2^(min b.toNat k.bits))))
   | .shr=>0<=b/\dW C hs K ns dst ⟨⟩ e R acc (.int k (a.fdiv (2^(min b.toNat k.bits))))
   | .eql=>k=k'/\dW C hs K ns dst ⟨⟩ e R acc (.bool (decide (a=b)))
   | .neq=>k=k'/\dW C hs K ns dst ⟨⟩ e R acc (.bool (!decide (a=b)))
   | .lss=>k=k'/\dW C hs K ns dst ⟨⟩ e R acc (.bool (decide (a<b)))
   | .leq=>k=k'/\dW C hs K ns dst ⟨⟩ e R acc (.bool (decide (a<=b)))
   | .gtr=>k=k'/\dW C hs K ns dst ⟨⟩ e R acc (.bool (decide (b<a)))
   | .geq=>k=k'/\dW C hs K ns dst ⟨⟩ e R acc (.bool (decide (b<=a)))
  | .str a,.str b=>match (generalizing:=false) op with
   | .eql=>dW C hs K ns dst ⟨⟩ e R acc (.bool (decide (a=b)))
   | .neq=>dW C hs K ns dst ⟨⟩ e R acc (.bool (!decide (a=b)))
   | .add=>((a++b).length:Int)<=9223372036854775807/\dW C hs K ns dst ⟨⟩ e R acc (.str (a++b))
   | .lss=>dW C hs K ns dst ⟨⟩ e R acc (.bool (Op.bytesLess a b))
   | .leq=>dW C hs K ns dst ⟨⟩ e R acc (.bool (Op.bytesLess a b||a==b))
   | .gtr=>dW C hs K ns dst ⟨⟩ e R acc (.bool !(Op.bytesLess a b||a==b))
   | .geq=>dW C hs K ns dst ⟨⟩ e R acc (.bool !(Op.bytesLess a b))
   | _=>False
  | _,_=>False):=zR
@[simp] theorem RN{op x v1}:opW C hs K ns dst (.un op x) v1 e R acc=(match (generalizing:=false) vd (ac e) x with
  | .bool b=>match (generalizing:=false) op with
   | .not=>dW C hs K ns dst ⟨⟩ e R acc (.bool (!b))
   | _=>False
  | .int k n=>match (generalizing:=false) op with
   | .neg=>dW C hs K ns dst ⟨⟩ e R acc (.int k (k.wrap (0-n)))
   | _=>False
  | _=>False):=zR
@[simp] theorem Lw{k x v1}:opW C hs K ns dst (.conv k x) v1 e R acc=(match (generalizing:=false) vd (ac e) x with
  | .int _ n=>dW C hs K ns dst ⟨⟩ e R acc (.int k (k.wrap n))
  | _=>False):=zR
@[simp] theorem PU{neg ks x y v1}:opW C hs K ns dst (.beq neg ks x y) v1 e R acc=(match (generalizing:=false) vd (ac e) x,vd (ac e) y with
  | .bool a,.bool b=>ks=[]/\dW C hs K ns dst ⟨⟩ e R acc (.bool ((a==b) != neg))
  | .agg a,.agg b=>ks≠[]/\match (generalizing:=false) cd ks a b with
   | some r=>dW C hs K ns dst ⟨⟩ e R acc (.bool (r != neg))
   | none=>False
  | .nils,.nils=>ks=[9]/\dW C hs K ns dst ⟨⟩ e R acc (.bool (!neg))
  | .sl es,.nils=>ks=[9]/\(0<es.length->dW C hs K ns dst ⟨⟩ e R acc (.bool neg))/\(es.length=0->dW C hs K ns dst ⟨⟩ e R acc .bb)
  | .nilp,.nilp=>ks=[8]/\dW C hs K ns dst ⟨⟩ e R acc (.bool (!neg))
  | .ptr _,.nilp=>ks=[8]/\dW C hs K ns dst ⟨⟩ e R acc (.bool neg)
  | _,_=>False):=zR
@[simp] theorem LA{len sz ag x i v1}:opW C hs K ns dst (.idxA len sz ag x i) v1 e R acc=(match (generalizing:=false) vd (ac e) x,vd (ac e) i with
  | .agg ds,.int _ j=>0<=j/\j<len/\j.toNat*sz+sz<=ds.length/\dW C hs K ns dst ⟨⟩ e R acc (nW ag sz (ds.drop (j.toNat*sz)))
  | .agx ds,.int _ j=>0<=j/\j<len/\j.toNat*sz+sz<=ds.length/\match (generalizing:=false) ag with
   | true=>dW C hs K ns dst ⟨⟩ e R acc (.agx ((ds.drop (j.toNat*sz)).take sz))
   | false=>dW C hs K ns dst ⟨⟩ e R acc ((ds.drop (j.toNat*sz)).headD .any)
  | _,_=>False):=zR
@[simp] theorem LB{x i v1}:opW C hs K ns dst (.idxS x i) v1 e R acc=(match (generalizing:=false) vd (ac e) x,vd (ac e) i with
  | .str s,.int _ j=>0<=j/\Ck C hs K ns dst ⟨⟩ e R acc s j.toNat
  | _,_=>False):=zR
@[simp] theorem P8{i x v1}:opW C hs K ns dst (.ext i x) v1 e R acc=(match (generalizing:=false) vd (ac e) x with
  | .tup ds=>∃d,ds[i]? = some d/\dW C hs K ns dst ⟨⟩ e R acc d
  | .tpx ds=>∃d,ds[i]? = some d/\dW C hs K ns dst ⟨⟩ e R acc d
  | _=>False):=zR
@[simp] theorem P9{off x v1}:opW C hs K ns dst (.fad off x) v1 e R acc=(match (generalizing:=false) vd (ac e) x with
  | .adr p i o=>dW C hs K ns dst ⟨⟩ e R acc (.adr p i (o+off))
  | .ptr ds=>dW C hs K ns dst ⟨⟩ e R acc (.ptr (ds.drop off))
  | .ptx ds=>dW C hs K ns dst ⟨⟩ e R acc (.ptx (ds.drop off))
  | _=>False):=zR
@[simp] theorem Lx{len sz x i v1}:opW C hs K ns dst (.iadA len sz x i) v1 e R acc=(match (generalizing:=false) vd (ac e) x,vd (ac e) i with
  | .adr p r o,.int _ j=>0<=j/\j<len/\dW C hs K ns dst ⟨⟩ e R acc (.adr p r (o+j.toNat*sz))
  | .ptr ds,.int _ j=>0<=j/\j<len/\dW C hs K ns dst ⟨⟩ e R acc (.ptr (ds.drop (j.toNat*sz)))
  | _,_=>False):=zR
@[simp] theorem RH{n ag x v1}:opW C hs K ns dst (.ld n ag x) v1 e R acc=(match (generalizing:=false) vd (ac e) x with
  | .adr p i off=>match (generalizing:=false) aR (ac e) p with
   | some (_,es)=>li C hs K ns dst ⟨⟩ e R acc n ag p es i off
   | none=>False
  | .ptr ds=>n<=ds.length/\dW C hs K ns dst ⟨⟩ e R acc (nW ag n ds)
  | .ptx ds=>n<=ds.length/\match (generalizing:=false) ag with
   | true=>((ds.take n).all isV=true->dW C hs K ns dst ⟨⟩ e R acc (.agg (ds.take n)))/\((ds.take n).all isV=false->dW C hs K ns dst ⟨⟩ e R acc (.agx (ds.take n)))
   | false=>0<n/\dW C hs K ns dst ⟨⟩ e R acc (ds.headD .any)
  | _=>False):=zR
@[simp] theorem PW{zs parts v1}:opW C hs K ns dst (.bld zs parts) v1 e R acc=((∀p∈parts,isS (vd (ac e) p.2.2)=true/\p.1+p.2.1<=zs.length/\match (generalizing:=false) vd (ac e) p.2.2 with
    | .agg ds=>ds.length=p.2.1
    | .agx ds=>ds.length=p.2.1
    | .any=>False
    | .tpx _=>False
    | .ptx _=>False
    | .rfx _ _ _=>False
    | .fny _ _ _=>False
    | .fnx _ _=>False
    | _=>p.2.1=1) /\
   ((parts.all fun p=>isV (vd (ac e) p.2.2))=true->dW C hs K ns dst ⟨⟩ e R acc (.agg (ir zs (parts.map fun p=>(p.1,p.2.1,vd (ac e) p.2.2))))) /\
   ((parts.all fun p=>isV (vd (ac e) p.2.2))=false->dW C hs K ns dst ⟨⟩ e R acc (.agx (ir zs (parts.map fun p=>(p.1,p.2.1,bI (vd (ac e) p.2.2))))))):=zR
@[simp] theorem LC{x v1}:opW C hs K ns dst (.lens x) v1 e R acc=(match (generalizing:=false) vd (ac e) x with
  | .str s=>dW C hs K ns dst ⟨⟩ e R acc (.int .i64 s.length)
  | _=>False):=zR
@[simp] theorem RI{g xs v1}:opW C hs K ns dst (.mk g xs) v1 e R acc=((∀x∈xs,isP (vd (ac e) x)=true)/\((xs.all fun x=>isV (vd (ac e) x))=true->dW C hs K ns dst ⟨⟩ e R acc (.fn g (xs.map (vd (ac e)))))/\((xs.all fun x=>isV (vd (ac e) x))=false->dW C hs K ns dst ⟨⟩ e R acc (.fnx g (xs.map (vd (ac e)))))):=zR
@[simp] theorem RJ{x y v1}:opW C hs K ns dst (.mn x y) v1 e R acc=(match (generalizing:=false) vd (ac e) x,vd (ac e) y with
  | .int k a,.int k' b=>k=k'/\dW C hs K ns dst ⟨⟩ e R acc (.int k (if b<a then b else a))
  | _,_=>False):=zR
@[simp] theorem RK{x y v1}:opW C hs K ns dst (.mx x y) v1 e R acc=(match (generalizing:=false) vd (ac e) x,vd (ac e) y with
  | .int k a,.int k' b=>k=k'/\dW C hs K ns dst ⟨⟩ e R acc (.int k (if a<b then b else a))
  | _,_=>False):=zR
@[simp] theorem G6{x y c v1}:opW C hs K ns dst (.add64 x y c) v1 e R acc=(match (generalizing:=false) vd (ac e) x,vd (ac e) y,vd (ac e) c with
  | .int .u64 a,.int .u64 b,.int .u64 k=>0<=a/\a<18446744073709551616/\0<=b/\b<18446744073709551616/\0<=k/\k<=1 /\
    dW C hs K ns dst ⟨⟩ e R acc (.tup [.int .u64 ((a+b+k)%18446744073709551616),.int .u64 ((a+b+k)/18446744073709551616)])
  | _,_,_=>False):=zR
@[simp] theorem He{x y c v1}:opW C hs K ns dst (.sub64 x y c) v1 e R acc=(match (generalizing:=false) vd (ac e) x,vd (ac e) y,vd (ac e) c with
  | .int .u64 a,.int .u64 b,.int .u64 k=>0<=a/\a<18446744073709551616/\0<=b/\b<18446744073709551616/\0<=k/\k<=1 /\
    dW C hs K ns dst ⟨⟩ e R acc (.tup [.int .u64 ((a-b-k)%18446744073709551616),.int .u64 (if a<b+k then 1 else 0)])
  | _,_,_=>False):=zR
@[simp] theorem LD{sz v1}:opW C hs K ns dst (.nilo sz) v1 e R acc=(match (generalizing:=false) dst with
  | some t=>0<sz/\doW C hs K ns ⟨⟩ e R acc [(t,.ref (.r (rt t 0)) 0 0),(rt t 0,.blk sz [])] [(rt t 0,true)]
  | none=>False):=zR
@[simp] theorem PY{x t v1}:opW C hs K ns (some t) (.box [] x) v1 e R acc=gb (ac e) (vd (ac e) x) [] (fun cs bs=>bs.contains (rt t 0)=false/\doW C hs K ns ⟨⟩ e R acc ((t,.adr (.r (rt t 0)) 0 0)::(rt t 0,.blk cs.length [cs])::bW bs) [(rt t 0,true)]) ⟨⟩:=zR
@[simp] theorem PR{zs v1}:opW C hs K ns dst (.alc zs) v1 e R acc=(match (generalizing:=false) dst with
  | some t=>doW C hs K ns ⟨⟩ e R acc [(t,.adr (.r (rt t 0)) 0 0),(rt t 0,.blk zs.length [zs])] [(rt t 0,true)]
  | none=>False):=zR
@[simp] theorem PX{sz len zs parts t v1}:opW C hs K ns (some t) (.bls sz len zs [] parts) v1 e R acc=pF (ac e) sz parts (List.replicate len zs) [] (fun es bs=>bu bs=true/\bs.contains (rt t 0)=false/\doW C hs K ns ⟨⟩ e R acc ((t,.ref (.r (rt t 0)) 0 len)::(rt t 0,.blk sz es)::bW bs) [(rt t 0,true)]) ⟨⟩:=zR
@[simp] theorem Qe{sz by_ zs n c v1}:opW C hs K ns dst (.mks sz by_ zs n c) v1 e R acc=(match (generalizing:=false) dst with
  | some t=>match (generalizing:=false) vd (ac e) n,vd (ac e) c with
   | .int _ n,.int _ c=>0<=n/\n<=c/\c*by_<=140737488355328/\doW C hs K ns ⟨⟩ e R acc [(t,.ref (.r (rt t 0)) 0 n.toNat),(rt t 0,.blk sz (List.replicate c.toNat zs))] [(rt t 0,true)]
   | _,_=>False
  | none=>False):=zR
def stM(C:CC)(hs:Option (List Nat))(K:Env->Prop)(ns:List ao)(_:Tag (hs,K,ns))(e:Env)(R:List Nat)(acc:List (List Nat×List Nat))(n:Nat)(v:D)(cs:List D)(bs:List Nat)(a:D):Prop:=match a with
 | .adr (.r b) i off=>bs.contains b=false/\cX (ac e b) (fun sz es=>gx es[i]? (fun r=>off+n<=r.length/\doW C hs K ns ⟨⟩ e R acc ((b,.blk sz (aV es i off n cs))::bW bs) (stK v [] b)) ⟨⟩) ⟨⟩
 | .adr (.n b i0 o0) i off=>bs=[]/\(∀c∈cs,az c=true)/\cX (ac e b) (fun sz0 es0=>gx es0[i0]? (fun row0=>jw row0[o0]? (fun sz es=>gx es[i]? (fun r=>off+n<=r.length/\doW C hs K ns ⟨⟩ e R acc [(b,.blk sz0 (aV es0 i0 o0 1 [.own sz (aV es i off n cs)]))] []) ⟨⟩) ⟨⟩) ⟨⟩) ⟨⟩
 | _=>False
@[simp] theorem R4{n v cs bs b i off}:stM C hs K ns u e R acc n v cs bs (.adr (.r b) i off)=(bs.contains b=false/\cX (ac e b) (fun sz es=>gx es[i]? (fun r=>off+n<=r.length/\doW C hs K ns ⟨⟩ e R acc ((b,.blk sz (aV es i off n cs))::bW bs) (stK v [] b)) ⟨⟩) ⟨⟩):=zR
@[simp] theorem R3{n v cs bs b i0 o0 i off}:stM C hs K ns u e R acc n v cs bs (.adr (.n b i0 o0) i off)=(bs=[]/\(∀c∈cs,az c=true)/\cX (ac e b) (fun sz0 es0=>gx es0[i0]? (fun row0=>jw row0[o0]? (fun sz es=>gx es[i]? (fun r=>off+n<=r.length/\doW C hs K ns ⟨⟩ e R acc [(b,.blk sz0 (aV es0 i0 o0 1 [.own sz (aV es i off n cs)]))] []) ⟨⟩) ⟨⟩) ⟨⟩) ⟨⟩):=zR
@[simp] theorem RM{n a v v1}:opW C hs K ns dst (.st n [] a v) v1 e R acc=(dst=none/\gb (ac e) (vd (ac e) v) [] (fun cs bs=>cs.length=n/\stM C hs K ns ⟨⟩ e R acc n (vd (ac e) v) cs bs (vd (ac e) a)) ⟨⟩):=by
 show(dst=none/\eT (ac e) (vd (ac e) v) [] _)=(dst=none/\eT (ac e) (vd (ac e) v) [] _)
 congr 1
 congr 1
 funext cs bs
 cases vd (ac e) a<;>try rfl
 rename_i p i off
 cases p with
 | r b =>
  simp only[stM,cX,fS]
  cases ac e b<;>rfl
 | n b i0 o0 =>
  simp only[stM,cX,fS,iW]
  cases ac e b<;>rfl
def uf(C:CC)(hs:Option (List Nat))(K:Env->Prop)(ns:List ao)(_:Tag (hs,K,ns))(e:Env)(R:List Nat)(acc:List (List Nat×List Nat))(t sz by_:Nat)(rowsY:List (List D))(bs:List Nat)(x:D):Prop:=match x with
 | .nils=>rowsY.length*by_<=140737488355328/\doW C hs K ns ⟨⟩ e R acc ((t,.ref (.r (rt t 0)) 0 rowsY.length)::(rt t 0,.blk sz rowsY)::bW bs) [(rt t 0,true)]
 | .ref (.r c) k n=>c≠rt t 0/\bs.contains c=false/\cX (ac e c) (fun sz' es=>sz'=sz/\k+n<=es.length/\(n+rowsY.length)*by_<=140737488355328 /\
      doW C hs K ns ⟨⟩ e R acc ((t,.ref (.r (rt t 0)) 0 (n+rowsY.length))::(rt t 0,.blk sz ((es.drop k).take n++rowsY))::(c,.any)::bW bs) [(rt t 0,true)]) ⟨⟩
 | .ref (.n c i o) k n=>c≠rt t 0/\bs.contains c=false/\cX (ac e c) (fun sz0 es0=>gx es0[i]? (fun row0=>jw row0[o]? (fun sz' es=>sz'=sz/\k+n<=es.length/\(n+rowsY.length)*by_<=140737488355328 /\
      doW C hs K ns ⟨⟩ e R acc ((t,.ref (.r (rt t 0)) 0 (n+rowsY.length))::(rt t 0,.blk sz ((es.drop k).take n++rowsY))::(c,.blk sz0 (aV es0 i o 1 [.any]))::bW bs) [(rt t 0,true)]) ⟨⟩) ⟨⟩) ⟨⟩
 | _=>False
@[simp] theorem EL{t sz by_ rowsY bs}:uf C hs K ns u e R acc t sz by_ rowsY bs .nils=(rowsY.length*by_<=140737488355328/\doW C hs K ns ⟨⟩ e R acc ((t,.ref (.r (rt t 0)) 0 rowsY.length)::(rt t 0,.blk sz rowsY)::bW bs) [(rt t 0,true)]):=zR
@[simp] theorem Qu{t sz by_ rowsY bs c k n}:uf C hs K ns u e R acc t sz by_ rowsY bs (.ref (.r c) k n)=(c≠rt t 0/\bs.contains c=false/\cX (ac e c) (fun sz' es=>sz'=sz/\k+n<=es.length/\(n+rowsY.length)*by_<=140737488355328 /\
      doW C hs K ns ⟨⟩ e R acc ((t,.ref (.r (rt t 0)) 0 (n+rowsY.length))::(rt t 0,.blk sz ((es.drop k).take n++rowsY))::(c,.any)::bW bs) [(rt t 0,true)]) ⟨⟩):=zR
@[simp] theorem Qt{t sz by_ rowsY bs c i o k n}:uf C hs K ns u e R acc t sz by_ rowsY bs (.ref (.n c i o) k n)=(c≠rt t 0/\bs.contains c=false/\cX (ac e c) (fun sz0 es0=>gx es0[i]? (fun row0=>jw row0[o]? (fun sz' es=>sz'=sz/\k+n<=es.length/\(n+rowsY.length)*by_<=140737488355328 /\
      doW C hs K ns ⟨⟩ e R acc ((t,.ref (.r (rt t 0)) 0 (n+rowsY.length))::(rt t 0,.blk sz ((es.drop k).take n++rowsY))::(c,.blk sz0 (aV es0 i o 1 [.any]))::bW bs) [(rt t 0,true)]) ⟨⟩) ⟨⟩) ⟨⟩):=zR
@[simp] theorem PS{sz by_ mv x y t v1}:opW C hs K ns (some t) (.app sz by_ mv x y) v1 e R acc=iG (ac e) mv (vd (ac e) y) sz (fun rowsY bs=>bs.contains (rt t 0)=false/\uf C hs K ns ⟨⟩ e R acc t sz by_ rowsY bs (vd (ac e) x)) ⟨⟩:=by
 unfold opW iG
 simp only[aC]
 congr 1
 funext rowsY bs
 congr 1
 cases vd (ac e) x<;>try rfl
 rename_i p k n
 cases p with
 | r c =>
  simp only[uf,cX]
  cases ac e c<;>rfl
 | n c i o =>
  simp only[uf,cX,fS,iW]
  cases hl:ac e c<;>try rfl
  rename_i sz0 es0
  refine congrArg _ (congrArg _ (propext ⟨?_,?_⟩))
  ·rintro⟨row0,h1,es,h2,h3⟩
   exact⟨row0,h1,sz,es,h2,rfl,h3⟩
  ·rintro⟨row0,h1,sz',es,h2,rfl,h3⟩
   exact⟨row0,h1,es,h2,h3⟩
def yp(n:Nat)(d:D):Prop:=match d with
 | .blk _ es=>es.length=n/\∀e∈es,∀c∈e,bl c=true
 | _=>False
def p8(f:Nat->D)(b:Nat)(d:D):Prop:=match d with
 | .ref (.r c) k n=>k=0/\c≠b/\yp n (f c)
 | d=>isV d=true
def zQ(d:D):D:=match d with
 | .blk sz es=>.own sz es
 | _=>.any
def sY(f:Nat->D)(d:D):D:=match d with
 | .ref (.r c) _ _=>zQ (f c)
 | d=>d
@[simp] theorem HT{n sz es}:yp n (.blk sz es)=(es.length=n/\∀e∈es,∀c∈e,bl c=true):=zR
@[simp] theorem LH{sz es}:zQ (.blk sz es)=.own sz es:=zR
@[simp] theorem L7{f:Nat->D}{b:Nat}{x:Opd}:lT f b x=p8 f b (vd f x):=by
 unfold lT p8 yp
 cases vd f x<;>rfl
@[simp] theorem L8{f:Nat->D}{x:Opd}:kC f x=sY f (vd f x):=by
 unfold kC sY zQ
 cases vd f x<;>rfl
@[simp] theorem EN{f:Nat->D}{b c k n}:p8 f b (.ref (.r c) k n)=(k=0/\c≠b/\yp n (f c)):=zR
@[simp] theorem EP{f:Nat->D}{c k n}:sY f (.ref (.r c) k n)=zQ (f c):=zR
@[simp] theorem EM{f:Nat->D}{b k n}:p8 f b (.int k n)=True:=by simp[p8,isV]
@[simp] theorem EO{f:Nat->D}{k n}:sY f (.int k n)=.int k n:=zR
def wd(C:CC)(g:Nat)(hs:Option (List Nat))(K:Env->Prop)(ns:List ao)(t:Nat)(_:Tag (hs,K,ns))(e:Env)(R:List Nat)(acc:List (List Nat×List Nat))(sz:Nat)(W:List (List D))(ds:List D)(q:Nat×D):Prop :=
 ∃es':List (List D),(∀e∈es',e.length=sz/\∀c∈e,bl c=true)/\C g (.own sz W::ds) .any [.own sz es',.nils,.nils]/\doW C hs K ns ⟨⟩ e R acc [(t,.ref (.r (rt t 0)) 0 es'.length),(rt t 0,.blk sz es'),q] [(rt t 0,true)]
theorem ta{g:Nat}{hs:Option (List Nat)}{K:Env->Prop}{ns:List ao}{t:Nat}{u:Tag (hs,K,ns)}{e:Env}{R:List Nat}{acc:List (List Nat×List Nat)}{sz:Nat}{W es':List (List D)}{ds:List D}{q:Nat×D}(h:C g (.own sz W::ds) .any [.own sz es',.nils,.nils])(hu:∀e∈es',e.length=sz/\∀c∈e,bl c=true)
  (hk:doW C hs K ns ⟨⟩ e R acc [(t,.ref (.r (rt t 0)) 0 es'.length),(rt t 0,.blk sz es'),q] [(rt t 0,true)]):wd C g hs K ns t u e R acc sz W ds q:=⟨es',hu,h,hk⟩
def wc(C:CC)(g:Nat)(hs:Option (List Nat))(K:Env->Prop)(ns:List ao)(t:Nat)(_:Tag (hs,K,ns))(e:Env)(R:List Nat)(acc:List (List Nat×List Nat))(xs:List Opd)(d:D):Prop:=match d with
 | .ref (.r b) k n=>cX (ac e b) (fun sz es=>k+n<=es.length/\b≠rt t 0/\0<sz/\(∀e∈(es.drop k).take n,∀c∈e,bl c=true)/\(∀x∈xs,lT (ac e) b x)/\wd C g hs K ns t ⟨⟩ e R acc sz ((es.drop k).take n) (xs.map (kC (ac e))) (b,.any)) ⟨⟩
 | .ref (.n b i o) k n=>cX (ac e b) (fun sz0 es0=>gx es0[i]? (fun row0=>jw row0[o]? (fun sz es=>k+n<=es.length/\b≠rt t 0/\0<sz/\(∀e∈(es.drop k).take n,∀c∈e,bl c=true)/\(∀x∈xs,lT (ac e) b x) /\
   wd C g hs K ns t ⟨⟩ e R acc sz ((es.drop k).take n) (xs.map (kC (ac e))) (b,.blk sz0 (aV es0 i o 1 [.any]))) ⟨⟩) ⟨⟩) ⟨⟩
 | _=>False
@[simp] theorem Ra{g xs t b k n}:wc C g hs K ns t u e R acc xs (.ref (.r b) k n)=cX (ac e b) (fun sz es=>k+n<=es.length/\b≠rt t 0/\0<sz/\(∀e∈(es.drop k).take n,∀c∈e,bl c=true)/\(∀x∈xs,lT (ac e) b x)/\wd C g hs K ns t ⟨⟩ e R acc sz ((es.drop k).take n) (xs.map (kC (ac e))) (b,.any)) ⟨⟩:=zR
@[simp] theorem QZ{g xs t b i o k n}:wc C g hs K ns t u e R acc xs (.ref (.n b i o) k n)=cX (ac e b) (fun sz0 es0=>gx es0[i]? (fun row0=>jw row0[o]? (fun sz es=>k+n<=es.length/\b≠rt t 0/\0<sz/\(∀e∈(es.drop k).take n,∀c∈e,bl c=true)/\(∀x∈xs,lT (ac e) b x) /\
   wd C g hs K ns t ⟨⟩ e R acc sz ((es.drop k).take n) (xs.map (kC (ac e))) (b,.blk sz0 (aV es0 i o 1 [.any]))) ⟨⟩) ⟨⟩) ⟨⟩:=zR
@[simp] theorem G8{g x xs t v1}:opW C hs K ns (some t) (.callE g x xs) v1 e R acc=wc C g hs K ns t ⟨⟩ e R acc xs (vd (ac e) x):=by
 unfold opW
 simp only[aC]
 cases vd (ac e) x<;>try rfl
 rename_i p k n
 cases p with
 | r b =>
  simp only[wc,cX,aR,Pa.root,cJ]
  cases ac e b<;>rfl
 | n b i o =>
  simp only[wc,cX,fS,iW,aR,Pa.root,cJ]
  cases hl:ac e b<;>try rfl
  rename_i sz0 es0
  simp only
  cases hi:es0[i]? with
  | none=>simp
  | some row0 =>
   simp only[x1r,x0k,exists_eq_left']
   cases ho:row0[o]? with
   | none=>simp
   | some d =>
    cases d
    case own sz es=>exact propext ⟨fun h=>⟨sz,es,rfl,h⟩,fun⟨sz',es',h0,h⟩=>by cases h0;exact h⟩
    all_goals simp
@[simp] theorem FP{f:Nat->D}{b k n sz es}:bS f (.ref (.r b) k n) (.own sz es)=(k=0/\n=es.length/\f b=.blk sz es):=zR
@[simp] theorem FN{f:Nat->D}{b k n sz es}:bS f (.adr (.r b) k n) (.blk sz es)=(k=0/\n=0/\f b=.blk sz es):=zR
@[simp] theorem FO{f:Nat->D}{k n r}:bS f (.int k n) r=(r=.int k n):=by simp[bS]
@[simp] theorem CN{f:Nat->D}{n r}:bS f (.bool n) r=(r=.bool n):=by simp[bS]
@[simp] theorem FQ{f:Nat->D}{n r}:bS f (.str n) r=(r=.str n):=by simp[bS]
@[simp] theorem CP{f:Nat->D}{r}:bS f .nils r=(r=.nils):=by simp[bS]
@[simp] theorem CO{f:Nat->D}{r}:bS f .nilp r=(r=.nilp):=by simp[bS]
@[simp] theorem IW{f:Nat->D}{n r}:bS f (.sl n) r=(r=.sl n):=by simp[bS]
@[simp] theorem FM{f:Nat->D}{n r}:bS f (.agg n) r=(r=.agg n):=by simp[bS]
@[simp] theorem Hv{t d}:fc (some t) d=[(t,d)]:=zR
@[simp] theorem Hu{d}:fc none d=[]:=zR
@[simp] theorem D9{t}:cU (some t)=[(t,.tup [])]:=zR
@[simp] theorem D8:cU none=[]:=zR
def C5(C:CC)(g:Nat)(hs:Option (List Nat))(K:Env->Prop)(ns:List ao)(dst:Option Nat)(_:Tag (hs,K,ns))(e:Env)(R:List Nat)(acc:List (List Nat×List Nat))(b sz:Nat)(es:List (List D))(ds:List D):Prop :=
 ∃d,∃es':List (List D),0<es'.length/\C g (.blk sz es::ds) d [.blk sz es']/\doW C hs K ns ⟨⟩ e R acc (fc dst d++[(b,.blk sz es')]) [(b,false)]
theorem pB{g:Nat}{hs:Option (List Nat)}{K:Env->Prop}{ns:List ao}{dst:Option Nat}{u:Tag (hs,K,ns)}{e:Env}{R:List Nat}{acc:List (List Nat×List Nat)}{b sz:Nat}{es es':List (List D)}{ds:List D}{d:D}(h:C g (.blk sz es::ds) d [.blk sz es'])(hp:0<es'.length)
  (hk:doW C hs K ns ⟨⟩ e R acc (fc dst d++[(b,.blk sz es')]) [(b,false)]):C5 C g hs K ns dst u e R acc b sz es ds:=⟨d,es',hp,h,hk⟩
def KS(C:CC)(g:Nat)(hs:Option (List Nat))(K:Env->Prop)(ns:List ao)(dst:Option Nat)(_:Tag (hs,K,ns))(e:Env)(R:List Nat)(acc:List (List Nat×List Nat))(xs:List Opd)(d:D):Prop:=match d with
 | .adr (.r b) i off=>i=0/\off=0/\cX (ac e b) (fun sz es=>0<es.length/\(∀x∈xs,isV (vd (ac e) x)=true)/\C5 C g hs K ns dst ⟨⟩ e R acc b sz es (xs.map (vd (ac e)))) ⟨⟩
 | _=>False
@[simp] theorem RF{g xs b i off}:KS C g hs K ns dst u e R acc xs (.adr (.r b) i off)=(i=0/\off=0/\cX (ac e b) (fun sz es=>0<es.length/\(∀x∈xs,isV (vd (ac e) x)=true)/\C5 C g hs K ns dst ⟨⟩ e R acc b sz es (xs.map (vd (ac e)))) ⟨⟩):=zR
@[simp] theorem Ha{g x xs v1}:opW C hs K ns dst (.callL g x xs) v1 e R acc=KS C g hs K ns dst ⟨⟩ e R acc xs (vd (ac e) x):=by
 unfold opW
 simp only[aC]
 cases vd (ac e) x<;>first|rfl|skip
def uq(C:CC)(hs:Option (List Nat))(K:Env->Prop)(ns:List ao)(dst:Option Nat)(_:Tag (hs,K,ns))(e:Env)(R:List Nat)(acc:List (List Nat×List Nat))(zs:List D)(d:D):Prop:=match d with
 | .nils=>doW C hs K ns ⟨⟩ e R acc (cU dst) []
 | .ref (.r b) k n=>cX (ac e b) (fun sz es=>k+n<=es.length/\zs.length=sz/\(∀e∈es,∀c∈e,az c=true)/\(∀c∈zs,az c=true)/\doW C hs K ns ⟨⟩ e R acc (cU dst++[(b,.blk sz (cV es k n zs))]) []) ⟨⟩
 | .ref (.n b i o) k n=>cX (ac e b) (fun sz0 es0=>gx es0[i]? (fun row0=>jw row0[o]? (fun sz es=>k+n<=es.length/\zs.length=sz/\(∀c∈zs,az c=true)/\doW C hs K ns ⟨⟩ e R acc (cU dst++[(b,.blk sz0 (aV es0 i o 1 [.own sz (cV es k n zs)]))]) []) ⟨⟩) ⟨⟩) ⟨⟩
 | _=>False
@[simp] theorem Qy{zs b k n}:uq C hs K ns dst u e R acc zs (.ref (.r b) k n)=cX (ac e b) (fun sz es=>k+n<=es.length/\zs.length=sz/\(∀e∈es,∀c∈e,az c=true)/\(∀c∈zs,az c=true)/\doW C hs K ns ⟨⟩ e R acc (cU dst++[(b,.blk sz (cV es k n zs))]) []) ⟨⟩:=zR
@[simp] theorem Qx{zs b i o k n}:uq C hs K ns dst u e R acc zs (.ref (.n b i o) k n)=cX (ac e b) (fun sz0 es0=>gx es0[i]? (fun row0=>jw row0[o]? (fun sz es=>k+n<=es.length/\zs.length=sz/\(∀c∈zs,az c=true)/\doW C hs K ns ⟨⟩ e R acc (cU dst++[(b,.blk sz0 (aV es0 i o 1 [.own sz (cV es k n zs)]))]) []) ⟨⟩) ⟨⟩) ⟨⟩:=zR
@[simp] theorem Fi{zs}:uq C hs K ns dst u e R acc zs .nils=doW C hs K ns ⟨⟩ e R acc (cU dst) []:=zR
@[simp] theorem PZ{zs x v1}:opW C hs K ns dst (.clr zs x) v1 e R acc=uq C hs K ns dst ⟨⟩ e R acc zs (vd (ac e) x):=by
 unfold opW
 simp only[aC]
 cases vd (ac e) x<;>try rfl
 rename_i p k n
 cases p with
 | r b =>
  simp only[uq,cX]
  cases ac e b<;>rfl
 | n b i o =>
  simp only[uq,cX,fS,iW]
  cases ac e b<;>rfl
def vS(C:CC)(g:Nat)(hs:Option (List Nat))(K:Env->Prop)(ns:List ao)(dst:Option Nat)(_:Tag (hs,K,ns))(e:Env)(R:List Nat)(acc:List (List Nat×List Nat))(b i o sz0 sz:Nat)(es0 es:List (List D))(ds:List D):Prop :=
 ∃es':List (List D),es'.length=es.length/\(∀e∈es',e.length=sz/\∀c∈e,az c=true)/\C g (.own sz es::ds) .any [.own sz es',.nilp]/\doW C hs K ns ⟨⟩ e R acc (cU dst++[(b,.blk sz0 (aV es0 i o 1 [.own sz es']))]) []
theorem vT{g:Nat}{hs:Option (List Nat)}{K:Env->Prop}{ns:List ao}{t:Nat}{u:Tag (hs,K,ns)}{e:Env}{R:List Nat}{acc:List (List Nat×List Nat)}{b i o sz0 sz:Nat}{es0 es es':List (List D)}{ds:List D}(h:C g (.own sz es::ds) .any [.own sz es',.nilp])(hl:es'.length=es.length)(hu:∀e∈es',e.length=sz/\∀c∈e,az c=true)
  (hk:doW C hs K ns ⟨⟩ e R acc [(t,.tup []),(b,.blk sz0 (aV es0 i o 1 [.own sz es']))] []):vS C g hs K ns (some t) u e R acc b i o sz0 sz es0 es ds:=⟨es',hl,hu,h,hk⟩
def Cw(C:CC)(g:Nat)(hs:Option (List Nat))(K:Env->Prop)(ns:List ao)(dst:Option Nat)(_:Tag (hs,K,ns))(e:Env)(R:List Nat)(acc:List (List Nat×List Nat))(xs:List Opd)(d:D):Prop:=match d with
 | .ref (.n b i o) k n=>k=0/\cX (ac e b) (fun sz0 es0=>gx es0[i]? (fun row0=>jw row0[o]? (fun sz es=>es.length=n/\(∀x∈xs,isV (vd (ac e) x)=true)/\vS C g hs K ns dst ⟨⟩ e R acc b i o sz0 sz es0 es (xs.map (vd (ac e)))) ⟨⟩) ⟨⟩) ⟨⟩
 | _=>False
@[simp] theorem Qw{g xs b i o k n}:Cw C g hs K ns dst u e R acc xs (.ref (.n b i o) k n)=(k=0/\cX (ac e b) (fun sz0 es0=>gx es0[i]? (fun row0=>jw row0[o]? (fun sz es=>es.length=n/\(∀x∈xs,isV (vd (ac e) x)=true)/\vS C g hs K ns dst ⟨⟩ e R acc b i o sz0 sz es0 es (xs.map (vd (ac e)))) ⟨⟩) ⟨⟩) ⟨⟩):=zR
@[simp] theorem Hb{g x xs v1}:opW C hs K ns dst (.callN g x xs) v1 e R acc=Cw C g hs K ns dst ⟨⟩ e R acc xs (vd (ac e) x):=by
 unfold opW
 simp only[aC]
 cases vd (ac e) x<;>try rfl
 rename_i p k n
 cases p with
 | r b=>rfl
 | n b i o =>
  simp only[Cw,cX,fS,iW]
  cases ac e b<;>rfl
@[simp] theorem G7{g xs t v1}:opW C hs K ns (some t) (.callA g xs) v1 e R acc=((∀x∈xs,isV (vd (ac e) x)=true)/\rG C g hs K ns t ⟨⟩ e R acc (xs.map (vd (ac e)))):=zR
@[simp] theorem G9{g xs t v1}:opW C hs K ns (some t) (.callF g xs) v1 e R acc=((∀x∈xs,bE (ac e) (vd (ac e) x))/\vO C g hs K ns t ⟨⟩ e R acc (xs.map (dpv (ac e)))):=zR
@[simp] theorem Lv{g xs x0 v1}:opW C hs K ns dst (.call g xs x0) v1 e R acc=((∀x∈xs,bE (ac e) (vd (ac e) x))/\qc C g hs K ns dst ⟨⟩ e R acc (xs.all fun x=>isV (vd (ac e) x)) (xs.map (dpv (ac e)))):=zR
def kD(C:CC)(hs:Option (List Nat))(K:Env->Prop)(ns:List ao)(t:Nat)(_:Tag (hs,K,ns))(e:Env)(R:List Nat)(acc:List (List Nat×List Nat))(d:D):Prop:=match d with
 | .ref (.r c) k n=>if c=rt t 0 then doW C hs K ns ⟨⟩ e R acc [(t,.ref (.r c) k n)] [] else match ac e c with
  | .blk sz es=>doW C hs K ns ⟨⟩ e R acc [(t,.ref (.r (rt t 0)) k n),(rt t 0,.blk sz es),(c,.any)] [(rt t 0,true)]
  | _=>False
 | d=>isS d=true/\doW C hs K ns ⟨⟩ e R acc [(t,d)] []
@[simp] theorem PT{t x v1}:opW C hs K ns (some t) (.asg x) v1 e R acc=kD C hs K ns t ⟨⟩ e R acc (vd (ac e) x):=zR
@[simp] theorem HV{t c k n}:kD C hs K ns t u e R acc (.ref (.r c) k n)=(if c=rt t 0 then doW C hs K ns ⟨⟩ e R acc [(t,.ref (.r c) k n)] [] else match ac e c with
  | .blk sz es=>doW C hs K ns ⟨⟩ e R acc [(t,.ref (.r (rt t 0)) k n),(rt t 0,.blk sz es),(c,.any)] [(rt t 0,true)]
  | _=>False):=zR
@[simp] theorem ER{t b i o k n}:kD C hs K ns t u e R acc (.ref (.n b i o) k n)=doW C hs K ns ⟨⟩ e R acc [(t,.ref (.n b i o) k n)] []:=by simp[kD]
@[simp] theorem EQ{t}:kD C hs K ns t u e R acc .nils=doW C hs K ns ⟨⟩ e R acc [(t,.nils)] []:=by simp[kD]
@[simp] theorem L9{t es}:kD C hs K ns t u e R acc (.sl es)=doW C hs K ns ⟨⟩ e R acc [(t,.sl es)] []:=by simp[kD]
@[simp] theorem HW{t b es}:kD C hs K ns t u e R acc (slx b es)=doW C hs K ns ⟨⟩ e R acc [(t,slx b es)] []:=by
 rcases fp b es with h|⟨h,_⟩<;>rw[h]<;>simp
@[simp] theorem HU{t}:kD C hs K ns t u e R acc .any=doW C hs K ns ⟨⟩ e R acc [(t,.any)] []:=by simp[kD]
@[simp] theorem HX{t ds}:kD C hs K ns t u e R acc (.tup ds)=doW C hs K ns ⟨⟩ e R acc [(t,.tup ds)] []:=by simp[kD]
def zA(C:CC)(hs:Option (List Nat))(K:Env->Prop)(ns:List ao)(dst:Option Nat)(_:Tag (hs,K,ns))(e:Env)(R:List Nat)(acc:List (List Nat×List Nat))(c i off:Nat)(d:D):Prop:=match d with
 | .blk _ es=>∃r,es[i]? = some r/\∃d,r[off]? = some d/\dc dst (kOf C hs K ns e R acc) (ldc (.r c) i off d)
 | _=>False
@[simp] theorem KL{c i off sz es}:zA C hs K ns dst u e R acc c i off (.blk sz es)=gx es[i]? (fun r=>yw r[off]? (fun d=>dW C hs K ns dst ⟨⟩ e R acc (ldc (.r c) i off d)) ⟨⟩) ⟨⟩:=by
 simp only[zA,fS,yx];rfl
def KM(C:CC)(hs:Option (List Nat))(K:Env->Prop)(ns:List ao)(dst:Option Nat)(_:Tag (hs,K,ns))(e:Env)(R:List Nat)(acc:List (List Nat×List Nat))(q:Nat)(d:D):Prop:=match d with
 | .adr (.r c) i off=>off=q/\zA C hs K ns dst ⟨⟩ e R acc c i off (ac e c)
 | _=>False
@[simp] theorem KN{q c i off}:KM C hs K ns dst u e R acc q (.adr (.r c) i off)=(off=q/\zA C hs K ns dst ⟨⟩ e R acc c i off (ac e c)):=zR
@[simp] theorem Qa{q x v1}:opW C hs K ns dst (.ldQ q x) v1 e R acc=KM C hs K ns dst ⟨⟩ e R acc q (vd (ac e) x):=zR
def yo(C:CC)(hs:Option (List Nat))(K:Env->Prop)(ns:List ao)(t:Nat)(_:Tag (hs,K,ns))(e:Env)(R:List Nat)(acc:List (List Nat×List Nat))(sz by_:Nat)(rowsY:List (List D))(c i o k n:Nat)(d:D):Prop:=match d with
 | .blk sz0 es0=>∃row0,es0[i]? = some row0/\∃es,row0[o]? = some (.own sz es)/\k+n<=es.length/\(n+rowsY.length)*by_<=140737488355328 /\
   kOf C hs K ns e R acc [(t,.ref (.r (rt t 0)) 0 (n+rowsY.length)),(rt t 0,.blk sz ((es.drop k).take n++rowsY)),(c,.blk sz0 (aV es0 i o 1 [.any]))] [(rt t 0,true)]
 | _=>False
@[simp] theorem HQ{t sz by_ rowsY c i o k n sz0 es0}:yo C hs K ns t u e R acc sz by_ rowsY c i o k n (.blk sz0 es0)=gx es0[i]? (fun row0=>jw row0[o]? (fun sz' es=>sz'=sz/\k+n<=es.length/\(n+rowsY.length)*by_<=140737488355328 /\
   doW C hs K ns ⟨⟩ e R acc [(t,.ref (.r (rt t 0)) 0 (n+rowsY.length)),(rt t 0,.blk sz ((es.drop k).take n++rowsY)),(c,.blk sz0 (aV es0 i o 1 [.any]))] [(rt t 0,true)]) ⟨⟩) ⟨⟩:=by
 simp only[yo,fS,iW]
 refine propext ⟨?_,?_⟩
 ·rintro⟨row0,h1,es,h2,h3,h4,h5⟩
  exact⟨row0,h1,sz,es,h2,rfl,h3,h4,h5⟩
 ·rintro⟨row0,h1,sz',es,h2,rfl,h3,h4,h5⟩
  exact⟨row0,h1,es,h2,h3,h4,h5⟩
def HR(C:CC)(hs:Option (List Nat))(K:Env->Prop)(ns:List ao)(t:Nat)(_:Tag (hs,K,ns))(e:Env)(R:List Nat)(acc:List (List Nat×List Nat))(q sz by_:Nat)(yd:D)(d:D):Prop:=match d with
 | .ref (.n c i o') k n=>o'=q/\eP (ac e) false yd sz fun rowsY bs=>bs=[]/\c≠rt t 0/\yo C hs K ns t ⟨⟩ e R acc sz by_ rowsY c i o' k n (ac e c)
 | _=>False
@[simp] theorem HS{t q sz by_ yd c i o k n}:HR C hs K ns t u e R acc q sz by_ yd (.ref (.n c i o) k n)=(o=q/\iG (ac e) false yd sz (fun rowsY bs=>bs=[]/\c≠rt t 0/\yo C hs K ns t ⟨⟩ e R acc sz by_ rowsY c i o k n (ac e c)) ⟨⟩):=zR
@[simp] theorem Lr{t q sz by_ x y v1}:opW C hs K ns (some t) (.appQ q sz by_ x y) v1 e R acc=HR C hs K ns t ⟨⟩ e R acc q sz by_ (vd (ac e) y) (vd (ac e) x):=zR
def Cx(C:CC)(hs:Option (List Nat))(K:Env->Prop)(ns:List ao)(t:Nat)(_:Tag (hs,K,ns))(e:Env)(R:List Nat)(acc:List (List Nat×List Nat))(sz:Nat)(rows:List (List D))(b k n:Nat)(d:D):Prop:=match d with
 | .blk sz' es=>sz'=sz/\k+n<=es.length/\(∀e∈es,∀c∈e,az c=true)/\(∀e∈rows,∀c∈e,az c=true)/\kOf C hs K ns e R acc [(t,.int .i64 (min rows.length n:Nat)),(b,.blk sz (io es k (rows.take n)))] []
 | _=>False
@[simp] theorem Ie{t sz rows b k n sz' es}:Cx C hs K ns t u e R acc sz rows b k n (.blk sz' es)=(sz'=sz/\k+n<=es.length/\(∀e∈es,∀c∈e,az c=true)/\(∀e∈rows,∀c∈e,az c=true)/\doW C hs K ns ⟨⟩ e R acc [(t,.int .i64 (min rows.length n:Nat)),(b,.blk sz (io es k (rows.take n)))] []):=zR
def If(C:CC)(hs:Option (List Nat))(K:Env->Prop)(ns:List ao)(t:Nat)(_:Tag (hs,K,ns))(e:Env)(R:List Nat)(acc:List (List Nat×List Nat))(sz:Nat)(rows:List (List D))(d:D):Prop:=match d with
 | .ref (.r b) k n=>(n=0->kOf C hs K ns e R acc [(t,.int .i64 0)] [])/\(0<n->Cx C hs K ns t ⟨⟩ e R acc sz rows b k n (ac e b))
 | _=>False
@[simp] theorem Ig{t sz rows b k n}:If C hs K ns t u e R acc sz rows (.ref (.r b) k n)=((n=0->doW C hs K ns ⟨⟩ e R acc [(t,.int .i64 0)] [])/\(0<n->Cx C hs K ns t ⟨⟩ e R acc sz rows b k n (ac e b))):=zR
@[simp] theorem P0{t sz x y v1}:opW C hs K ns (some t) (.cpy sz x y) v1 e R acc=iG (ac e) false (vd (ac e) y) sz (fun rows bs=>bs=[]/\0<rows.length/\If C hs K ns t ⟨⟩ e R acc sz rows (vd (ac e) x)) ⟨⟩:=zR
def gY(C:CC)(hs:Option (List Nat))(K:Env->Prop)(ns:List ao)(dst:Option Nat)(_:Tag (hs,K,ns))(e:Env)(R:List Nat)(acc:List (List Nat×List Nat))(d:D):Prop:=match d with
 | .agx ds=>dW C hs K ns dst ⟨⟩ e R acc (.ptx ds)
 | .agg ds=>dW C hs K ns dst ⟨⟩ e R acc (.ptr ds)
 | d=>az d=true/\dW C hs K ns dst ⟨⟩ e R acc (.ptr [d])
@[simp] theorem Ct{ds:List D}:db (.agg ds)=ds:=zR
@[simp] theorem Cu{k n}:db (.int k n)=[.int k n]:=zR
@[simp] theorem Cv{n}:db (.str n)=[.str n]:=zR
@[simp] theorem Bd{n}:db (.bool n)=[.bool n]:=zR
@[simp] theorem Fh{n}:db (.sl n)=[.sl n]:=zR
@[simp] theorem FJ{f:Nat->D}{es}:gf f [] es=es:=zR
@[simp] theorem CJ{f:Nat->D}{p ps es}:gf f (p::ps) es=gf f ps (es.set p.1 (db (vd f p.2))):=zR
@[simp] theorem Ls{sz len zs parts v1}:opW C hs K ns dst (.blsF sz len zs parts) v1 e R acc=((∀p∈parts,p.1<len/\(db (vd (ac e) p.2)).length=sz/\∀c∈db (vd (ac e) p.2),az c=true)/\0<len /\
   (∀r∈gf (ac e) parts (List.replicate len zs),∀c∈r,az c=true)/\dW C hs K ns dst ⟨⟩ e R acc (.sl (gf (ac e) parts (List.replicate len zs)))):=zR
@[simp] theorem Lt{sz len zs parts v1}:opW C hs K ns dst (.blsX sz len zs parts) v1 e R acc=(zs.all az=true/\(∀p∈parts,p.1<len/\match (generalizing:=false) vd (ac e) p.2 with
    | .agg ds=>ds.length=sz
    | .agx ds=>ds.length=sz
    | _=>False)/\dW C hs K ns dst ⟨⟩ e R acc (.rfx len sz (jo (ac e) sz len zs parts))):=zR
attribute [simp] jo
@[simp] theorem Lu{x v1}:opW C hs K ns dst (.boxF x) v1 e R acc=gY C hs K ns dst ⟨⟩ e R acc (vd (ac e) x):=zR
@[simp] theorem H2{ds}:gY C hs K ns dst u e R acc (.agx ds)=dW C hs K ns dst ⟨⟩ e R acc (.ptx ds):=zR
@[simp] theorem H1{ds}:gY C hs K ns dst u e R acc (.agg ds)=dW C hs K ns dst ⟨⟩ e R acc (.ptr ds):=zR
@[simp] theorem H3{k n}:gY C hs K ns dst u e R acc (.int k n)=dW C hs K ns dst ⟨⟩ e R acc (.ptr [.int k n]):=by simp[gY]
@[simp] theorem ES{n}:gY C hs K ns dst u e R acc (.bool n)=dW C hs K ns dst ⟨⟩ e R acc (.ptr [.bool n]):=by simp[gY]
@[simp] theorem H6{n}:gY C hs K ns dst u e R acc (.str n)=dW C hs K ns dst ⟨⟩ e R acc (.ptr [.str n]):=by simp[gY]
@[simp] theorem ET:gY C hs K ns dst u e R acc .nils=dW C hs K ns dst ⟨⟩ e R acc (.ptr [.nils]):=by simp[gY]
@[simp] theorem Mb{es}:gY C hs K ns dst u e R acc (.sl es)=dW C hs K ns dst ⟨⟩ e R acc (.ptr [.sl es]):=by simp[gY]
@[simp] theorem H5{b es}:gY C hs K ns dst u e R acc (slx b es)=dW C hs K ns dst ⟨⟩ e R acc (.ptr [slx b es]):=by
 rcases fp b es with h|⟨h,_⟩<;>rw[h]<;>simp
@[simp] theorem H4{es}:gY C hs K ns dst u e R acc (.ptr es)=dW C hs K ns dst ⟨⟩ e R acc (.ptr [.ptr es]):=by simp[gY]
@[simp] theorem Ma{g es}:gY C hs K ns dst u e R acc (.fn g es)=dW C hs K ns dst ⟨⟩ e R acc (.ptr [.fn g es]):=by simp[gY]
@[simp] theorem Qb{x v1}:opW C hs K ns dst (.len x) v1 e R acc=so (vd (ac e) x) (fun n=>dW C hs K ns dst ⟨⟩ e R acc (.int .i64 n)) ⟨⟩:=by
 show res (ac e) _ (.len x)=_
 simp only[res,so]
 cases vd (ac e) x<;>rfl
def sf(C:CC)(hs:Option (List Nat))(K:Env->Prop)(ns:List ao)(dst:Option Nat)(_:Tag (hs,K,ns))(e:Env)(R:List Nat)(acc:List (List Nat×List Nat))(sz:Nat)(x i:D):Prop:=match (generalizing:=false) x,i with
  | .sl es,.int _ j=>0<=j/\hJ C hs K ns dst ⟨⟩ e R acc sz es j.toNat
  | .slv _ es,.int _ j=>0<=j/\hJ C hs K ns dst ⟨⟩ e R acc sz es j.toNat
  | .rfx n sz' ds,.int _ j=>0<=j/\j.toNat<n/\sz'=sz/\dW C hs K ns dst ⟨⟩ e R acc (.ptx (ds.drop (j.toNat*sz)))
  | .ref p k n,.int _ j=>0<=j/\j.toNat<n/\match (generalizing:=false) aR (ac e) p with
   | some (sz',_)=>sz'=sz/\dW C hs K ns dst ⟨⟩ e R acc (.adr p (k+j.toNat) 0)
   | none=>False
  | _,_=>False
@[simp] theorem Lz{sz x i v1}:opW C hs K ns dst (.iadS sz x i) v1 e R acc=sf C hs K ns dst ⟨⟩ e R acc sz (vd (ac e) x) (vd (ac e) i):=zR
@[simp] theorem IY{sz sz' n ds k j}:sf C hs K ns dst u e R acc sz (.rfx n sz' ds) (.int k j)=(0<=j/\j.toNat<n/\sz'=sz/\dW C hs K ns dst ⟨⟩ e R acc (.ptx (ds.drop (j.toNat*sz)))):=zR
@[simp] theorem MG{sz es k j}:sf C hs K ns dst u e R acc sz (.sl es) (.int k j)=(0<=j/\hJ C hs K ns dst ⟨⟩ e R acc sz es j.toNat):=zR
@[simp] theorem IZ{sz q es k j}:sf C hs K ns dst u e R acc sz (.slv q es) (.int k j)=(0<=j/\hJ C hs K ns dst ⟨⟩ e R acc sz es j.toNat):=zR
@[simp] theorem I0{sz b es k j}:sf C hs K ns dst u e R acc sz (slx b es) (.int k j)=(0<=j/\hJ C hs K ns dst ⟨⟩ e R acc sz es j.toNat):=by
 rcases fp b es with h|⟨h,rfl⟩
 ·rw[h];rfl
 ·rw[h];simp[sf,hJ]
@[simp] theorem IX{sz p k n k' j}:sf C hs K ns dst u e R acc sz (.ref p k n) (.int k' j)=(0<=j/\j.toNat<n/\match (generalizing:=false) aR (ac e) p with
   | some (sz',_)=>sz'=sz/\dW C hs K ns dst ⟨⟩ e R acc (.adr p (k+j.toNat) 0)
   | none=>False):=zR
def Aj(C:CC)(hs:Option (List Nat))(K:Env->Prop)(ns:List ao)(dst:Option Nat)(_:Tag (hs,K,ns))(e:Env)(R:List Nat)(acc:List (List Nat×List Nat))(sz:Nat)(x:D)(lo hi:Option Opd):Prop:=match (generalizing:=false) x with
  | .sl es=>(∀e∈es,e.length=sz)/\dH (ac e) hi es.length (fun h=>dH (ac e) lo 0 (fun l=>l<=h/\h<=es.length/\dW C hs K ns dst ⟨⟩ e R acc (.sl ((es.take h).drop l))) ⟨⟩) ⟨⟩
  | .nils=>dH (ac e) hi 0 (fun h=>dH (ac e) lo 0 (fun l=>l<=h/\h<=0/\dW C hs K ns dst ⟨⟩ e R acc (.sl [])) ⟨⟩) ⟨⟩
  | .ref p k n=>match (generalizing:=false) aR (ac e) p with
   | some (sz',_)=>sz'=sz/\dH (ac e) hi n (fun h=>dH (ac e) lo 0 (fun l=>l<=h/\h<=n/\dW C hs K ns dst ⟨⟩ e R acc (.ref p (k+l) (h-l))) ⟨⟩) ⟨⟩
   | none=>False
  | _=>False
@[simp] theorem Qj{sz x lo hi v1}:opW C hs K ns dst (.slc sz x lo hi) v1 e R acc=Aj C hs K ns dst ⟨⟩ e R acc sz (vd (ac e) x) lo hi:=zR
@[simp] theorem Qm{sz es lo hi}:Aj C hs K ns dst u e R acc sz (.sl es) lo hi=((∀e∈es,e.length=sz)/\dH (ac e) hi es.length (fun h=>dH (ac e) lo 0 (fun l=>l<=h/\h<=es.length/\dW C hs K ns dst ⟨⟩ e R acc (.sl ((es.take h).drop l))) ⟨⟩) ⟨⟩):=zR
@[simp] theorem Ht{sz lo hi}:Aj C hs K ns dst u e R acc sz .nils lo hi=dH (ac e) hi 0 (fun h=>dH (ac e) lo 0 (fun l=>l<=h/\h<=0/\dW C hs K ns dst ⟨⟩ e R acc (.sl [])) ⟨⟩) ⟨⟩:=zR
@[simp] theorem LX{sz p k n lo hi}:Aj C hs K ns dst u e R acc sz (.ref p k n) lo hi=(match (generalizing:=false) aR (ac e) p with
   | some (sz',_)=>sz'=sz/\dH (ac e) hi n (fun h=>dH (ac e) lo 0 (fun l=>l<=h/\h<=n/\dW C hs K ns dst ⟨⟩ e R acc (.ref p (k+l) (h-l))) ⟨⟩) ⟨⟩
   | none=>False):=zR
@[simp] theorem Hd{x xs v1}:opW C hs K ns dst (.callv x xs) v1 e R acc=(match (generalizing:=false) vd (ac e) x with
  | .fn g cs=>(∀x∈xs,bE (ac e) (vd (ac e) x))/\qc C g hs K ns dst ⟨⟩ e R acc (xs.all fun x=>isV (vd (ac e) x)) (xs.map (dpv (ac e))++cs)
  | .fnx g cs=>(∀x∈xs,bE (ac e) (vd (ac e) x))/\(∀c∈cs,aN (ac e) c)/\qc C g hs K ns dst ⟨⟩ e R acc false (xs.map (dpv (ac e))++cs.map (dp1 (ac e)))
  | _=>False):=by
 simp only[opW,aC,qc,dc,x0n,or_false]
 cases vd (ac e) x<;>rfl
def mpT(x:D)(K:Nat->Nat->List D->List D->Prop)(_:Tag K):Prop:=match x with
 | .mp kt et ks vs=>K kt et ks vs
 | _=>False
@[simp] theorem RG{kt et ks vs K u}:mpT (.mp kt et ks vs) K u=K kt et ks vs:=zR
@[simp] theorem Qd{kt et t v1}:opW C hs K ns (some t) (.mkm kt et) v1 e R acc=doW C hs K ns ⟨⟩ e R acc [(t,.mrf (rt t 0)),(rt t 0,.mp kt et [] [])] [(rt t 0,true)]:=zR
def mlM(C:CC)(hs:Option (List Nat))(K:Env->Prop)(ns:List ao)(dst:Option Nat)(_:Tag (hs,K,ns))(e:Env)(R:List Nat)(acc:List (List Nat×List Nat))(sh:KSh)(kt et:Nat)(ok:Bool)(z x m:D):Prop:=match m with
 | .mrf b=>mpT (ac e b) (fun kt' et' ks vs=>kt'=kt/\et'=et/\cL sh x/\match ok with
    | true=>dW C hs K ns dst ⟨⟩ e R acc (.tup [(dK ks vs x).getD z,.bool (dK ks vs x).isSome])
    | false=>dW C hs K ns dst ⟨⟩ e R acc ((dK ks vs x).getD z)) ⟨⟩
 | _=>False
@[simp] theorem PM{sh kt et ok z x b}:mlM C hs K ns dst u e R acc sh kt et ok z x (.mrf b)=mpT (ac e b) (fun kt' et' ks vs=>kt'=kt/\et'=et/\cL sh x/\match ok with
    | true=>dW C hs K ns dst ⟨⟩ e R acc (.tup [(dK ks vs x).getD z,.bool (dK ks vs x).isSome])
    | false=>dW C hs K ns dst ⟨⟩ e R acc ((dK ks vs x).getD z)) ⟨⟩:=zR
@[simp] theorem Qg{sh kt et ok z m x v1}:opW C hs K ns dst (.mpl sh kt et ok z m x) v1 e R acc=mlM C hs K ns dst ⟨⟩ e R acc sh kt et ok z (vd (ac e) x) (vd (ac e) m):=by
 show res (ac e) _ (.mpl sh kt et ok z m x)=_
 simp only[res,mlM]
 cases vd (ac e) m<;>rfl
def muM(C:CC)(hs:Option (List Nat))(K:Env->Prop)(ns:List ao)(_:Tag (hs,K,ns))(e:Env)(R:List Nat)(acc:List (List Nat×List Nat))(sh:KSh)(kt et:Nat)(z x v m:D):Prop:=match m with
 | .mrf b=>mpT (ac e b) (fun kt' et' ks vs=>kt'=kt/\et'=et/\ks.length<maxLen/\cL sh x/\ip z v/\doW C hs K ns ⟨⟩ e R acc [(b,.mp kt et (x::ks) (v::vs))] []) ⟨⟩
 | _=>False
@[simp] theorem PN{sh kt et z x v b}:muM C hs K ns u e R acc sh kt et z x v (.mrf b)=mpT (ac e b) (fun kt' et' ks vs=>kt'=kt/\et'=et/\ks.length<maxLen/\cL sh x/\ip z v/\doW C hs K ns ⟨⟩ e R acc [(b,.mp kt et (x::ks) (v::vs))] []) ⟨⟩:=zR
@[simp] theorem Qh{sh kt et z m x v v1}:opW C hs K ns dst (.mpu sh kt et z m x v) v1 e R acc=(dst=none/\muM C hs K ns ⟨⟩ e R acc sh kt et z (vd (ac e) x) (vd (ac e) v) (vd (ac e) m)):=by
 show(dst=none/\_)=_
 congr 1
end
@[simp] theorem CY{s}:cL .str (.str s)=(s.length<=maxLen):=zR
@[simp] theorem Bi{b}:cL .bool (.bool b)=True:=zR
@[simp] theorem CX{q q' n}:cL (.int q) (.int q' n)=(q'=q/\qu q n):=zR
@[simp] theorem Bj{q n ds}:cL (.ints q n) (.agg ds)=(ds.length=n/\∀d∈ds,∃x,d=.int q x/\qu q x):=zR
@[simp] theorem FI{s z}:ip (.str z) (.str s)=(s.length<=maxLen):=zR
@[simp] theorem CG{b z}:ip (.bool z) (.bool b)=True:=zR
@[simp] theorem FH{q q' n z}:ip (.int q z) (.int q' n)=(q'=q/\qu q n):=zR
@[simp] theorem Ja{n:Int}:qu .i64 n=(-9223372036854775808<=n/\n<=9223372036854775807):=by
 have e1:IntKind.i64.min=-9223372036854775808:=rfl
 have e2:IntKind.i64.max=9223372036854775807:=rfl
 simp[qu,Lit.wf,e1,e2]
attribute [simp] iE fx bF eL cx bB aQ en wZ okR qU lD cB
attribute [simp] vd params eM jE jF jD mI nl xk prune jM isC ir aR RQ aV dpv bW stK bA rt chk rdS rdR frR fwR fW rdN iq wrK mnR DM ldN ah iC qo wOk Pa.root cd bu
end Go.Gv

namespace Go.Gv
def ix(c:Int):Bool:=(97<=c&&c<=122)||(65<=c&&c<=90)
def ma(c:Int):Bool:=48<=c&&c<=57
def fK(c:UInt8):Bool:=ix c.toNat||ma c.toNat||c.toNat==95
def cG(s:List UInt8):Nat:=(s.takeWhile fK).length
def fX(n:Int):Bool:=-1125899906842624<=n&&n<=1125899906842624
def co(s:List UInt8):Bool:=s≠[]&&s.length<=20&&ix (s[0]!).toNat&&cG s==s.length
theorem sS(s:List UInt8):cG s<=s.length:=by unfold cG;exact(List.takeWhile_prefix _).length_le
theorem sR{α:Type}(p:α->Bool):∀(s:List α) (i:Nat) (h:i<s.length),i<=(s.takeWhile p).length->(p s[i]=true->i+1<=(s.takeWhile p).length)/\(p s[i]=false->i=(s.takeWhile p).length)
 | [],i,h,_=>by simp at h
 | x::s,0,h,_=>by
  constructor<;>intro h1<;>simp at h1<;>simp[h1]
 | x::s,i+1,h,h2=>by
  rw[List.takeWhile_cons]at h2 ⊢
  split at h2
  ·rename_i hp
   simp only[hp,if_true,x0Q,List.getElem_cons_succ]at h2 ⊢
   have:=sR p s i (by simpa using h) (by omega)
   exact⟨fun e=>by have:=this.1 e;omega,fun e=>by have:=this.2 e;omega⟩
  ·simp at h2
theorem pW{s:List UInt8}{i:Nat}(h:i<s.length)(hi:i<=cG s):fK s[i]=true->i+1<=cG s:=(sR fK s i h hi).1
theorem pX{s:List UInt8}{i:Nat}(h:i<s.length)(hi:i<=cG s):fK s[i]=false->i=cG s:=(sR fK s i h hi).2
theorem wrap_i64{n m:Int}(h:n=m)(h2:-9223372036854775808<=m/\m<9223372036854775808):IntKind.wrap .i64 n=m:=by
 subst h
 have e1:IntKind.i64.signed=true:=rfl
 have e2:(2^(IntKind.i64.bits-1):Int)=9223372036854775808:=rfl
 have e3:(2^IntKind.i64.bits:Int)=18446744073709551616:=rfl
 unfold IntKind.wrap
 simp only[e1,e2,e3,Bool.true_and,x0d]
 split<;>omega
variable{C:CC}(hC:al prog C)
include hC
theorem ww(n:Int):C 89 [.int .i64 n] (.bool (fX n)) []:=by
 refine aj hC (nf:=N89) rfl rfl ?_
 simp[N89,fX]
 refine ae (fun h=>?_) (fun h=>?_)<;>simp at h<;>simp[h]<;>omega
theorem tL(n l:Int):C 60 [.int .i64 n,.int .i64 l] (.bool (0<=n&&n<=4194304&&1<=l&&l<=16777216)) []:=by
 refine aj hC (nf:=N60) rfl rfl ?_
 simp[N60]
 repeat' (refine ae (fun h=>?_) (fun h=>?_)<;>simp at h<;>simp[h]<;>try omega)
theorem yC(c:Int):C 88 [.int .u8 c] (.bool (ma c)) []:=by
 refine aj hC (nf:=N88) rfl rfl ?_
 simp[N88,ma]
 refine ae (fun h=>?_) (fun h=>?_)<;>simp at h<;>simp[h]<;>omega
theorem qz(c:Int):C 70 [.int .u8 c] (.bool (ix c)) []:=by
 refine aj hC (nf:=N70) rfl rfl ?_
 simp[N70,ix]
 repeat' (refine ae (fun h=>?_) (fun h=>?_)<;>simp at h<;>simp[h]<;>try omega)
theorem Ec(s:List UInt8)(hs:s.length<2^62):C 71 [.str s] (.int .i64 (cG s)) []:=by
 refine aj hC (nf:=N71) rfl rfl ?_
 simp[N71]
 refine aF Nat (fun i=>[(0,.str s),(3,.int .i64 i)]) (fun i=>i<=cG s) (fun i=>cG s-i) 0 (by simp) (by simp) ?_
 intro i hi
 have hle:cG s<=s.length:=sS s
 by_cases hl:i<s.length
 ·simp[hl]
  refine aa (qz hC _) (.inl rfl) ?_
  have hstep:fK s[i]=true->i+1<=cG s:=pW hl hi
  have hstop:fK s[i]=false->i=cG s:=pX hl hi
  simp only[fK]at hstep hstop
  have hw:IntKind.wrap .i64 ((i:Int)+1)=((i+1:Nat):Int):=wrap_i64 (by omega) (by omega)
  cases h1:ix s[i].toNat with
  | true =>
   simp[h1,hw]at hstep ⊢
   exact⟨i+1,by omega,by omega,rfl⟩
  | false =>
   simp[h1,hl]
   refine aa (yC hC _) (.inl rfl) ?_
   cases h2:ma s[i].toNat with
   | true =>
    simp[h1,h2,hw]at hstep ⊢
    exact⟨i+1,by omega,by omega,rfl⟩
   | false =>
    simp[hl]
    refine ae (fun h3=>?_) (fun h3=>?_)<;>simp at h3
    ·simp[hw,hl]
     have:=hstep (by simp[show s[i].toNat=95 by omega])
     exact⟨i+1,this,by omega,rfl⟩
    ·have h4:¬s[i].toNat=95:=by omega
     simp[h1,h2,h4]at hstop ⊢
     omega
 ·simp[hl]
  have:i=cG s:=by omega
  omega
theorem f9(s:List UInt8):C 58 [.str s] (.bool (co s)) []:=by
 refine aj hC (nf:=N58) rfl rfl ?_
 simp[N58]
 refine ae (fun h=>?_) (fun h=>?_)<;>simp at h
 ·have hp:0<s.length:=List.length_pos_iff.2 h
  simp[h,hp]
  refine ae (fun h2=>?_) (fun h2=>?_)<;>simp at h2
  ·simp[h2,hp]
   refine aa (qz hC _) (.inl rfl) ?_
   simp
   refine ae (fun h3=>?_) (fun h3=>?_)
   ·simp[h3,h2]
    refine aa (Ec hC s (by omega)) (.inl rfl) ?_
    simp[co,h,h3,show s.length<=20 by omega,hp,Int.ofNat_inj]
    rw[x0z];simp
   ·simp[co,h,h3,hp]
  ·simp[h2,co]
   omega
 ·subst h
  simp[co]
end Go.Gv

namespace Go.Gv
open Go.Lib
theorem qH(a:Nat)(ha:a<18446744073709551616):bits .and .u64 (a:Int) 4294967295=((a%4294967296:Nat):Int):=by
 have h:=bits_and_u64_nat a 4294967295 ha (by omega)
 have e:a &&& 4294967295=a%4294967296:=Nat.and_two_pow_sub_one_eq_mod a 32
 rw[e]at h
 exact h
theorem nE(a k:Nat):Int.fdiv (a:Int) (2^k)=((a/2^k:Nat):Int):=by
 rw[Int.fdiv_eq_ediv_of_nonneg _ (by exact Int.pow_nonneg (by omega))]
 norm_cast
theorem tK(a:Nat):Int.fdiv (a:Int) (2^min 32 IntKind.u64.bits)=((a/4294967296:Nat):Int):=nE a 32
theorem sB(a b:Nat):(a:Int)*(b:Int)=((a*b:Nat):Int):=(Int.natCast_mul a b).symm
theorem HL(a b:Nat):(a:Int)+(b:Int)=((a+b:Nat):Int):=(Int.natCast_add a b).symm
theorem bV(a:Nat)(ha:a<18446744073709551616):IntKind.u64.wrap (a:Int)=(a:Int):=by
 have e1:IntKind.u64.signed=false:=rfl
 have e3:(2^IntKind.u64.bits:Int)=18446744073709551616:=rfl
 unfold IntKind.wrap
 simp only[e1,e3,Bool.false_and]
 simp
 omega
theorem x3(a:Nat):IntKind.u64.wrap (a:Int)=((a%18446744073709551616:Nat):Int):=by
 have e1:IntKind.u64.signed=false:=rfl
 have e3:(2^IntKind.u64.bits:Int)=18446744073709551616:=rfl
 unfold IntKind.wrap
 simp only[e1,e3,Bool.false_and]
 simp
variable{C:CC}(hC:al prog C)
include hC
theorem gJ(x y:Nat)(hx:x<18446744073709551616)(hy:y<18446744073709551616):C 91 [.int .u64 x,.int .u64 y] (.tup [.int .u64 ((x*y/18446744073709551616:Nat):Int),.int .u64 ((x*y%18446744073709551616:Nat):Int)]) []:=by
 refine aj hC (nf:=N91) rfl rfl ?_
 obtain⟨bd,bt,bw,hhi⟩:=Lib.mul64_hi x y hx hy
 have ba:=Lib.half_mul_le (a:=x/4294967296) (b:=y/4294967296) (by omega) (by omega)
 have bb:=Lib.half_mul_le (a:=x/4294967296) (b:=y%4294967296) (by omega) (by omega)
 have bc:=Lib.half_mul_le (a:=x%4294967296) (b:=y/4294967296) (by omega) (by omega)
 have ba':x/4294967296*(y/4294967296)<18446744073709551616:=by omega
 have bb':x/4294967296*(y%4294967296)<18446744073709551616:=by omega
 have bc':x%4294967296*(y/4294967296)<18446744073709551616:=by omega
 have bh1:x/4294967296*(y/4294967296)+(x/4294967296*(y%4294967296)+x%4294967296*(y%4294967296)/4294967296)/4294967296<18446744073709551616:=by omega
 have bh:x/4294967296*(y/4294967296)+(x/4294967296*(y%4294967296)+x%4294967296*(y%4294967296)/4294967296)/4294967296+((x/4294967296*(y%4294967296)+x%4294967296*(y%4294967296)/4294967296)%4294967296+x%4294967296*(y/4294967296))/4294967296<18446744073709551616:=by omega
 simp[N91]
 simp only[qH x hx,qH y hy,tK,sB,HL,bV _ bd,bV _ bb',bV _ bt,qH _ bt,bV _ bc',bV _ bw,bV _ ba',bV _ bh1,bV _ bh,x3 (x*y)]
 rw[hhi]
 exact⟨by omega,by omega⟩
end Go.Gv

namespace Go.Gv
theorem BO(a:Nat):Int.fdiv (a:Int) (2^min 16 IntKind.u64.bits)=((a/65536:Nat):Int):=nE a 16
theorem Ai(a:Nat):Int.fdiv (a:Int) (2^min 8 IntKind.u64.bits)=((a/256:Nat):Int):=nE a 8
theorem L4(a:Nat)(h:a<256):IntKind.u8.wrap (a:Int)=(a:Int):=by
 have e1:IntKind.u8.signed=false:=rfl
 have e3:(2^IntKind.u8.bits:Int)=256:=rfl
 unfold IntKind.wrap
 simp only[e1,e3,Bool.false_and]
 simp
 omega
theorem sn:S1.length=256/\∀n:Fin 256,S1[n.val]?.getD 0=UInt8.ofNat (bitLen n.val)/\bitLen n.val<=8:=by decide +kernel
theorem eA{x n z:Nat}{m:Int}(hz:z<256)(hm:m=n)(hn:n<=56)(h:n+bitLen z=bitLen x):0<=IntKind.u8.wrap (z:Int)/\(IntKind.u8.wrap (z:Int)).toNat<S1.length/\IntKind.i64.wrap (m+IntKind.i64.wrap ↑(S1[(IntKind.u8.wrap (z:Int)).toNat]?.getD default).toNat)=(bitLen x:Int):=by
 rw[L4 z hz]
 obtain⟨h1,h2⟩:=sn
 obtain⟨h3,h4⟩:=h2 ⟨z,hz⟩
 have e:(S1[(z:Int).toNat]?.getD default).toNat=bitLen z:=by
  show(S1[z]?.getD 0).toNat=bitLen z
  simp only at h3 h4
  rw[h3,UInt8.toNat_ofNat']
  omega
 simp only at h4
 rw[e]
 have e2:IntKind.i64.wrap (bitLen z:Int)=(bitLen z:Int):=wrap_i64 rfl (by omega)
 refine⟨by omega,by omega,?_⟩
 rw[e2,hm]
 exact wrap_i64 (by omega) (by omega)
variable{C:CC}(hC:al prog C)
include hC
theorem yl(x:Nat)(hx:x<18446744073709551616):C 111 [.int .u64 x] (.int .i64 (bitLen x)) []:=by
 refine aj hC (nf:=N111) rfl rfl ?_
 have key:∀(b z:Nat),2^b<=z->bitLen z=b+bitLen (z/2^b):=fun b z h=>bitLen_shift z b (by
  have:=Nat.div_pos h (x1H b)
  omega)
 simp[N111]
 refine ae (fun h1=>?_) (fun h1=>?_)<;>simp at h1
 ·obtain⟨y,hy⟩:∃y:Nat,y=x/4294967296:=⟨_,rfl⟩
  have e1:Int.fdiv (x:Int) (2^min 32 IntKind.u64.bits)=(y:Int):=by rw[tK,hy]
  have k1:=key 32 x (by omega)
  simp[e1]
  refine ae (fun h2=>?_) (fun h2=>?_)<;>simp at h2
  ·obtain⟨z,hz⟩:∃z:Nat,z=y/65536:=⟨_,rfl⟩
   have e2:Int.fdiv (y:Int) (2^min 16 IntKind.u64.bits)=(z:Int):=by rw[BO,hz]
   have k2:=key 16 y (by omega)
   simp[e2]
   refine ae (fun h3=>?_) (fun h3=>?_)<;>simp at h3
   ·obtain⟨v,hv⟩:∃v:Nat,v=z/256:=⟨_,rfl⟩
    have e3:Int.fdiv (z:Int) (2^min 8 IntKind.u64.bits)=(v:Int):=by rw[Ai,hv]
    have k3:=key 8 z (by omega)
    simp[e3]
    refine eA (n:=56) (by omega) ?_ (by omega) ?_
    ·decide
    ·simp only[Nat.reducePow]at k1 k2 k3
     rw[<- hy]at k1;rw[<- hz]at k2;rw[<- hv]at k3;omega
   ·simp
    refine eA (n:=48) (by omega) ?_ (by omega) ?_
    ·decide
    ·simp only[Nat.reducePow]at k1 k2
     rw[<- hy]at k1;rw[<- hz]at k2;omega
  ·simp
   refine ae (fun h3=>?_) (fun h3=>?_)<;>simp at h3
   ·obtain⟨v,hv⟩:∃v:Nat,v=y/256:=⟨_,rfl⟩
    have e3:Int.fdiv (y:Int) (2^min 8 IntKind.u64.bits)=(v:Int):=by rw[Ai,hv]
    have k3:=key 8 y (by omega)
    simp[e3]
    refine eA (n:=40) (by omega) ?_ (by omega) ?_
    ·decide
    ·simp only[Nat.reducePow]at k1 k3
     rw[<- hy]at k1;rw[<- hv]at k3;omega
   ·simp
    refine eA (n:=32) (by omega) ?_ (by omega) ?_
    ·decide
    ·simp only[Nat.reducePow]at k1
     rw[<- hy]at k1;omega
 ·simp
  refine ae (fun h2=>?_) (fun h2=>?_)<;>simp at h2
  ·obtain⟨z,hz⟩:∃z:Nat,z=x/65536:=⟨_,rfl⟩
   have e2:Int.fdiv (x:Int) (2^min 16 IntKind.u64.bits)=(z:Int):=by rw[BO,hz]
   have k2:=key 16 x (by omega)
   simp[e2]
   refine ae (fun h3=>?_) (fun h3=>?_)<;>simp at h3
   ·obtain⟨v,hv⟩:∃v:Nat,v=z/256:=⟨_,rfl⟩
    have e3:Int.fdiv (z:Int) (2^min 8 IntKind.u64.bits)=(v:Int):=by rw[Ai,hv]
    have k3:=key 8 z (by omega)
    simp[e3]
    refine eA (n:=24) (by omega) ?_ (by omega) ?_
    ·decide
    ·simp only[Nat.reducePow]at k2 k3
     rw[<- hz]at k2;rw[<- hv]at k3;omega
   ·simp
    refine eA (n:=16) (by omega) ?_ (by omega) ?_
    ·decide
    ·simp only[Nat.reducePow]at k2
     rw[<- hz]at k2;omega
  ·simp
   refine ae (fun h3=>?_) (fun h3=>?_)<;>simp at h3
   ·obtain⟨v,hv⟩:∃v:Nat,v=x/256:=⟨_,rfl⟩
    have e3:Int.fdiv (x:Int) (2^min 8 IntKind.u64.bits)=(v:Int):=by rw[Ai,hv]
    have k3:=key 8 x (by omega)
    simp[e3]
    refine eA (n:=8) (by omega) ?_ (by omega) ?_
    ·decide
    ·simp only[Nat.reducePow]at k3
     rw[<- hv]at k3;omega
   ·simp
    have:=eA (x:=x) (n:=0) (m:=0) (z:=x) (by omega) rfl (by omega) (by omega)
    simpa using this
theorem kz(x:Nat)(hx:x<18446744073709551616):C 102 [.int .u64 x] (.int .i64 ((64-bitLen x:Nat):Int)) []:=by
 have hb:bitLen x<=64:=by
  unfold bitLen
  split
  ·omega
  ·rename_i h
   have:=(Nat.log2_lt h).2 (show x<2^64 by omega)
   omega
 refine aj hC (nf:=N102) rfl rfl ?_
 simp[N102]
 refine aa (yl hC x hx) (.inl rfl) ?_
 have e:IntKind.wrap .i64 (64-(bitLen x:Int))=((64-bitLen x:Nat):Int):=wrap_i64 (by omega) (by omega)
 simp[e]
end Go.Gv

namespace Go.Gv
structure DvI (u d a b q r:Nat):Prop where
 sum:q*a+r=u
 ge:(u*4294967296+d)/(a*4294967296+b)<=q
 rlt:r<4294967296
 qle:q<=4294967297
section
variable{u d a b q r:Nat}
theorem Dv.mul(h:q*a+r=u):q*(a*4294967296+b)+r*4294967296=u*4294967296+q*b:=by
 subst h
 rw[Nat.mul_add,<- x1z,x0A]
 omega
theorem Dv.lt(_:0<a)(hu:u<a*4294967296+b)(hd:d<4294967296):(u*4294967296+d)/(a*4294967296+b)<4294967296:=by
 rw[x1q (by omega)]
 have:(u+1)*4294967296<=(a*4294967296+b)*4294967296:=x0h _ hu
 omega
theorem DvI.first(ha:2147483648<=a)(ha2:a<4294967296)(hb:b<4294967296)(hu:u<a*4294967296+b)(hd:d<4294967296):DvI u d a b (u/a) (u%a) where
 sum:=by rw[x0S];exact x1c u a
 rlt:=by have:=x1y u (show 0<a by omega);omega
 ge:=by
  rw[Nat.le_div_iff_mul_le (by omega)]
  have h:=Nat.div_mul_le_self (u*4294967296+d) (a*4294967296+b)
  generalize (u*4294967296+d)/(a*4294967296+b)=Q at *
  rw[Nat.mul_add,<- x1z]at h
  generalize Q*b=z at *
  generalize Q*a=x at *
  omega
 qle:=by
  have:u/a<4294967298:=by
   rw[x1q (by omega)]
   omega
  omega
theorem DvI.more(h:DvI u d a b q r)(ha:0<a)(hu:u<a*4294967296+b)(hd:d<4294967296)(hc:4294967296<=q\/4294967296*r+d<q*b):(u*4294967296+d)/(a*4294967296+b)+1<=q:=by
 rcases hc with hc|hc
 ·have:=Dv.lt (d:=d) ha hu hd
  omega
 ·have h1:=Dv.mul (b:=b) h.sum
  have:(u*4294967296+d)/(a*4294967296+b)<q:=by
   rw[x1q (by omega)]
   generalize q*(a*4294967296+b)=z at *
   generalize q*b=x at *
   omega
  omega
theorem DvI.done(h:DvI u d a b q r)(ha:0<a)(hc:q*b<=4294967296*r+d):q=(u*4294967296+d)/(a*4294967296+b):=by
 have h1:=Dv.mul (b:=b) h.sum
 have h2:=h.ge
 have:q<=(u*4294967296+d)/(a*4294967296+b):=by
  rw[Nat.le_div_iff_mul_le (by omega)]
  generalize q*(a*4294967296+b)=z at *
  generalize q*b=x at *
  omega
 omega
theorem DvI.next(h:DvI u d a b q r)(ha:0<a)(hu:u<a*4294967296+b)(hd:d<4294967296)(hc:4294967296<=q\/4294967296*r+d<q*b) :
  1<=q/\(q-1)*a+(r+a)=u/\(u*4294967296+d)/(a*4294967296+b)<=q-1/\q-1<=4294967296:=by
 have h1:=h.more ha hu hd hc
 have h2:=h.qle
 have h3:=h.sum
 generalize (u*4294967296+d)/(a*4294967296+b)=Q at *
 obtain⟨q',rfl⟩:∃q',q=q'+1:=⟨q-1,by omega⟩
 refine⟨by omega,?_,by omega,by omega⟩
 rw[x0A]at h3
 simp only[Nat.add_sub_cancel]
 omega
theorem Dv.stop(hs:q*a+r=u)(hg:(u*4294967296+d)/(a*4294967296+b)<=q)(hq:q<=4294967296)(ha:0<a)(hb:b<4294967296)(hr:4294967296<=r):q=(u*4294967296+d)/(a*4294967296+b):=by
 have h1:=Dv.mul (b:=b) hs
 have h3:q*b<=4294967296*4294967295:=x06 hq (by omega)
 have:q<=(u*4294967296+d)/(a*4294967296+b):=by
  rw[Nat.le_div_iff_mul_le (by omega)]
  generalize q*(a*4294967296+b)=z at *
  generalize q*b=x at *
  omega
 omega
theorem DvI.bnd(h:DvI u d a b q r)(hb:b<4294967296):q*b<18446744073709551616:=by
 have:=x06 h.qle (show b<=4294967295 by omega)
 omega
end
theorem CF{N y S A K un0 y':Nat}(hy:0<y)(hs:0<S)(hy':y'=y*S)(hn:N*S=A*K+un0) :
  A/y'*K+(A%y'*K+un0)/y'=N/y/\(A%y'*K+un0)%y'/S=N%y:=by
 have hyp:0<y':=by rw[hy'];exact Nat.mul_pos hy hs
 have e1:=x1c A y'
 have e2:=x1c (A%y'*K+un0) y'
 have l2:=x1y (A%y'*K+un0) hyp
 have tot:y'*(A/y'*K+(A%y'*K+un0)/y')+(A%y'*K+un0)%y'=N*S:=by
  rw[hn,Nat.mul_add,x0N,e2,<- x1z,<- x0N,<- x0A,e1]
 have hq:N*S/y'=A/y'*K+(A%y'*K+un0)/y':=by
  rw[<- tot,Nat.mul_add_div hyp,Nat.div_eq_of_lt l2,x0U]
 have hr:N*S%y'=(A%y'*K+un0)%y':=by
  rw[<- tot,Nat.mul_add_mod,Nat.mod_eq_of_lt l2]
 rw[hy',Nat.mul_div_mul_right _ _ hs]at hq
 rw[hy',Nat.mul_mod_mul_right]at hr
 rw[hy']at *
 exact⟨hq.symm,by rw[<- hr,Nat.mul_div_cancel _ hs]⟩
end Go.Gv

namespace Go.Gv
section
variable{C:CC}
theorem iX{f:Nat->D}{dst:Option Nat}{K K':KT}{o:NOp}(h:aC C f dst K o)(hk:∀ws ks,K ws ks->K' ws ks):aC C f dst K' o:=by
 obtain⟨ws,ks,h1,h2⟩:=nq h
 exact h2 K' (hk ws ks h1)
theorem gS{e:Env}{dst:Option Nat}{K K':Env->Prop}(h:gC e dst K)(hk:∀e,K e->K' e):gC e dst K':=by
 unfold gC at h ⊢
 split at h
 ·exact hk _ h
 ·exact hk _ h
theorem gH{K K':Env->Prop}(hk:∀e,K e->K' e):∀(ns:List ao) (e:Env),ig C K ns e->ig C K' ns e
 | [],e,h=>hk e h
 | o::os,e,h=>by
  rw[ig]at h ⊢
  split at h
  ·exact iX h (fun ws ks h1=>gH hk os _ h1)
  ·split at h
   ·exact⟨fun hb=>iX (h.1 hb) (fun ws ks h1=>gH hk os _ h1),fun hb=>gS (h.2 hb) (fun e h1=>gH hk os e h1)⟩
   ·exact gS h (fun e h1=>gH hk os e h1)
   ·exact h.elim
theorem gG{hs:List Nat}{K K':Env->Prop}(hk:∀e,K e->K' e):∀(ns:List ao) (e:Env) (acc:List (List Nat×List Nat)),jh C hs K ns e acc->jh C hs K' ns e acc
 | [],e,acc,h=>⟨h.1,hk e h.2⟩
 | o::os,e,acc,h=>by
  rw[jh]at h ⊢
  refine⟨h.1,?_⟩
  have h:=h.2
  split at h
  ·exact iX h (fun ws ks h1=>⟨h1.1,gG hk os _ _ h1.2⟩)
  ·split at h
   ·exact⟨fun hb=>iX (h.1 hb) (fun ws ks h1=>⟨h1.1,gG hk os _ _ h1.2⟩),fun hb=>gS (h.2 hb) (fun e h1=>gG hk os e _ h1)⟩
   ·exact gS h (fun e h1=>gG hk os e _ h1)
   ·exact h.elim
theorem dN:∀(c:cW) (Q Q':b6->Env->Prop) (e:Env),(∀t e,Q t e->Q' t e)->wpN C c Q e->wpN C c Q' e
 | .skip,Q,Q',e,hq,h=>hq _ _ h
 | .reg dr hs keep ops,Q,Q',e,hq,h=>by
  cases dr with
  | false=>exact gH (fun e h=>hq _ _ h) ops e h
  | true=>exact gG (fun e h=>hq _ _ h) ops e [] h
 | .seq x y,Q,Q',e,hq,h=>dN x _ _ e (fun t e h=>by
   cases t with
   | nrm=>exact dN y Q Q' e hq h
   | ext i=>exact hq _ _ h
   | ret=>exact hq _ _ h) h
 | .cond c x y,Q,Q',e,hq,h=>by
  rw[wpN]at h ⊢
  split at h
  ·exact⟨fun hb=>dN x Q Q' e hq (h.1 hb),fun hb=>dN y Q Q' e hq (h.2 hb)⟩
  ·exact⟨dN x Q Q' e hq h.1,dN y Q Q' e hq h.2⟩
  ·exact h.elim
 | .block id c,Q,Q',e,hq,h=>dN c _ _ e (fun t e h=>by
   cases t with
   | nrm=>exact hq _ _ h
   | ext i =>
    simp only at h ⊢
    split
    ·rename_i hi;rw[if_pos hi]at h;exact hq _ _ h
    ·rename_i hi;rw[if_neg hi]at h;exact hq _ _ h
   | ret=>exact hq _ _ h) h
 | .loop c,Q,Q',e,hq,h=>by
  obtain⟨S,G,I,m,s0,h1,h2,h3⟩:=h
  refine⟨S,G,I,m,s0,h1,h2,fun s hs=>dN c _ _ _ (fun t e h=>?_) (h3 s hs)⟩
  cases t with
  | nrm=>exact h
  | ext i=>exact hq _ _ h
  | ret=>exact hq _ _ h
 | .exit id,Q,Q',e,hq,h=>hq _ _ h
 | .ret,Q,Q',e,hq,h=>hq _ _ h
def uY(id:Nat)(S:Type)(G:S->Env)(J:S->Prop)(Q:b6->Env->Prop):b6->Env->Prop:=fun t e=>match t with
 | .ext i=>if i=id then ∃s,J s/\jM e (G s) else Q (.ext i) e
 | t=>Q t e
variable{Q:b6->Env->Prop}{e:Env}
@[simp] theorem yP{id S G J u}:br (uY id S G J Q) u .nrm e=br Q ⟨⟩ .nrm e:=zR
@[simp] theorem yQ{id S G J u}:br (uY id S G J Q) u .ret e=br Q ⟨⟩ .ret e:=zR
@[simp] theorem yO{id S G J u i}:br (uY id S G J Q) u (.ext i) e=if i=id then ∃s,J s/\jM e (G s) else br Q ⟨⟩ (.ext i) e:=zR
theorem qD{c:cW}{u:Tag (c,Q)}(id:Nat)(S:Type)(G:S->Env)(J:S->Prop)(h:tu C c (uY id S G J Q) ⟨⟩ e)(hr:∀s e,J s->jM e (G s)->br Q ⟨⟩ (.ext id) e):tu C c Q u e :=
 dN (.loop c) (uY id S G J Q) Q e (fun t e g=>by
  cases t with
  | nrm=>exact g
  | ret=>exact g
  | ext i =>
   simp only[uY]at g
   by_cases hi:i=id
   ·rw[if_pos hi]at g
    obtain⟨s,h1,h2⟩:=g
    rw[hi]
    exact hr s e h1 h2
   ·rw[if_neg hi]at g
    exact g) h
def Dc(S:Type)(G:S->Env)(J:S->Prop)(Q:b6->Env->Prop):b6->Env->Prop:=fun t e=>match t with
 | .nrm=>∃s,J s/\jM e (G s)
 | t=>Q t e
@[simp] theorem yM{S G J u}:br (Dc S G J Q) u .nrm e=∃s,J s/\jM e (G s):=zR
@[simp] theorem yN{S G J u}:br (Dc S G J Q) u .ret e=br Q ⟨⟩ .ret e:=zR
@[simp] theorem yL{S G J u i}:br (Dc S G J Q) u (.ext i) e=br Q ⟨⟩ (.ext i) e:=zR
end
@[simp] theorem LQ{C:CC}{hs:Option (List Nat)}{K:Env->Prop}{ns:List ao}{dst:Option Nat}{u:Tag (hs,K,ns)}{e:Env}{R:List Nat}{acc:List (List Nat×List Nat)}{α:Type}[Inhabited α]{n:Nat}{ag:Bool}{p:Pa}{xs:List α}{f:α->List D}{i off:Nat} :
  li C hs K ns dst u e R acc n ag p (xs.map f) i off=(i<xs.length/\off+n<=(f xs[i]!).length/\match ag with
    | true=>((((f xs[i]!).drop off).take n).all isV=true->dW C hs K ns dst ⟨⟩ e R acc (.agg (((f xs[i]!).drop off).take n))) /\
      ((((f xs[i]!).drop off).take n).all isV=false->dW C hs K ns dst ⟨⟩ e R acc (.agx ((((f xs[i]!).drop off).take n).mapIdx fun j c=>ldc p i (off+j) c)))
    | false=>dW C hs K ns dst ⟨⟩ e R acc (ldc p i off (((f xs[i]!).drop off).headD .any))):=by
 apply propext
 constructor
 ·rintro⟨r,h,h1,h2⟩
  rw[x0x,x0j]at h
  obtain⟨x,hx,rfl⟩:=h
  obtain⟨hi,rfl⟩:=x0b.1 hx
  rw[x0g xs i hi]
  refine⟨hi,h1,?_⟩
  cases ag<;>exact h2
 ·rintro⟨hi,h1,h2⟩
  rw[x0g xs i hi]at h1 h2
  refine tH (r:=f xs[i]) (by rw[x0x,x0e hi];rfl) h1 ?_
  cases ag<;>exact h2
@[simp] theorem GD{b all ks n}:aH ((b,all)::ks) (.ptx n)=if n.any (aB b all) then .any else aH ks (.ptx n):=by
 have h:aH ((b,all)::ks) (.ptx n)=bif (n.any (aB b all)||aD ks (.ptx n)) then .any else .ptx n:=bz ..
 rw[h,bz]
 cases n.any (aB b all)<;>rfl
@[simp] theorem GF{b all ks k sz n}:aH ((b,all)::ks) (.rfx k sz n)=if n.any (aB b all) then .any else aH ks (.rfx k sz n):=by
 have h:aH ((b,all)::ks) (.rfx k sz n)=bif (n.any (aB b all)||aD ks (.rfx k sz n)) then .any else .rfx k sz n:=bz ..
 rw[h,bz]
 cases n.any (aB b all)<;>rfl
@[simp] theorem GJ{b all ks n}:aH ((b,all)::ks) (.tpx n)=if n.any (aB b all) then .any else aH ks (.tpx n):=by
 have h:aH ((b,all)::ks) (.tpx n)=bif (n.any (aB b all)||aD ks (.tpx n)) then .any else .tpx n:=bz ..
 rw[h,bz]
 cases n.any (aB b all)<;>rfl
@[simp] theorem GX{b all n es}:aB b all (slx n es)=false:=by cases n<;>cases es<;>rfl
@[simp] theorem GV{b all p k n}:aB b all (.ref p k n)=bA b all p:=zR
@[simp] theorem GP{b all p k n}:aB b all (.adr p k n)=bA b all p:=zR
@[simp] theorem GQ{b all T p k n}:aB b all (.ifa T p k n)=bA b all p:=zR
@[simp] theorem GR{b all T n}:aB b all (.ifi T n)=false:=zR
@[simp] theorem GW{b all k n}:aB b all (.slv k n)=false:=zR
@[simp] theorem GT{b all c}:aB b all (.mrf c)=(all&&c==b):=zR
@[simp] theorem GS{b all k n}:aB b all (.int k n)=false:=zR
@[simp] theorem C9{b all n}:aB b all (.bool n)=false:=zR
@[simp] theorem GY{b all n}:aB b all (.str n)=false:=zR
@[simp] theorem Db{b all}:aB b all .nils=false:=zR
@[simp] theorem Da{b all}:aB b all .nilp=false:=zR
@[simp] theorem KW{b all n}:aB b all (.sl n)=false:=zR
@[simp] theorem GU{b all n}:aB b all (.ptr n)=false:=zR
@[simp] theorem KV{b all g n}:aB b all (.fn g n)=false:=zR
@[simp] theorem GA{b all ks c}:aH ((b,all)::ks) (.mrf c)=if (all&&c==b) then .any else aH ks (.mrf c):=by
 have h:aH ((b,all)::ks) (.mrf c)=bif ((all&&c==b)||aD ks (.mrf c)) then .any else .mrf c:=bz ..
 rw[h,bz]
 cases all&&c==b<;>rfl
end Go.Gv

namespace Go.Gv
theorem oY(a b:Nat):Int.tdiv (a:Int) (b:Int)=((a/b:Nat):Int):=by
 rw[Int.tdiv_eq_ediv_of_nonneg (by omega)];norm_cast
theorem BU(a b:Nat):Int.tmod (a:Int) (b:Int)=((a%b:Nat):Int):=by
 rw[Int.tmod_eq_emod_of_nonneg (by omega)];norm_cast
theorem fC(a:Int):IntKind.u64.wrap a=a%18446744073709551616:=by
 have e1:IntKind.u64.signed=false:=rfl
 have e3:(2^IntKind.u64.bits:Int)=18446744073709551616:=rfl
 unfold IntKind.wrap
 simp only[e1,e3,Bool.false_and]
 simp
theorem orN(a b i:Nat)(hb:b<2^i)(h:a*2^i+b<18446744073709551616):bits .or .u64 ((a*2^i:Nat):Int) (b:Int)=((a*2^i+b:Nat):Int):=by
 rw[bits_or_u64_nat _ _ (by omega) (by omega),x0S a,Nat.two_pow_add_eq_or_of_lt hb]
theorem uR(a m b s:Nat):(a*m+b)*s=a*s*m+b*s:=by rw[x0A,Nat.mul_right_comm]
theorem L1{H B W U d1 d0:Nat}(hU:U=H+B)(h1:d1=W/4294967296)(h0:d0=W%4294967296):H*18446744073709551616+(B*18446744073709551616+W)=(U*4294967296+d1)*4294967296+d0:=by omega
theorem DJ{y s:Nat}(h0:y≠0)(hy:y<18446744073709551616)(hs:s=64-bitLen y):s<=63/\9223372036854775808<=y*2^s/\y*2^s<18446744073709551616:=by
 obtain⟨h1,h2⟩:=bitLen_spec y
 have h3:=h2 h0
 have hb:bitLen y<=64:=by
  unfold bitLen
  rw[if_neg h0]
  have:=(Nat.log2_lt h0).2 (show y<2^64 by omega)
  omega
 have hb1:1<=bitLen y:=by unfold bitLen;rw[if_neg h0];omega
 have e:bitLen y+s=64:=by omega
 refine⟨by omega,?_,?_⟩
 ·have:=x0h (2^s) h3
  rw[<- Nat.pow_add,show bitLen y-1+s=63 by omega]at this
  omega
 ·have:=Nat.mul_lt_mul_of_pos_right h1 (x1H s)
  rw[<- Nat.pow_add,e]at this
  omega
variable{C:CC}(hC:al prog C)
include hC
theorem sV(hi lo y:Nat)(h:hi<y)(hy:y<18446744073709551616)(hl:lo<18446744073709551616) :
  C 92 [.int .u64 hi,.int .u64 lo,.int .u64 y] (.tup [.int .u64 (((hi*18446744073709551616+lo)/y:Nat):Int),.int .u64 (((hi*18446744073709551616+lo)%y:Nat):Int)]) []:=by
 refine aj hC (nf:=N92) rfl rfl ?_
 have h1:¬y=0:=by omega
 have h2:¬y<=hi:=by omega
 generalize hres:D.tup [D.int .u64 (((hi*18446744073709551616+lo)/y:Nat):Int),.int .u64 (((hi*18446744073709551616+lo)%y:Nat):Int)]=res
 simp[N92]
 refine ae (fun h=>?_) (fun _=>?_)
 ·simp at h;omega
 simp
 refine ae (fun h=>?_) (fun _=>?_)
 ·simp at h;omega
 simp
 refine ae (fun h=>?_) (fun h3=>?_)
 ·simp at h
  have:hi=0:=by omega
  subst this
  have hq:lo/y<18446744073709551616:=by have:=Nat.div_le_self lo y;omega
  obtain⟨q,hq'⟩:∃q,q=lo/y:=⟨_,rfl⟩
  obtain⟨r,hr'⟩:∃r,r=lo%y:=⟨_,rfl⟩
  have e1:Int.tdiv (lo:Int) (y:Int)=(q:Int):=by rw[oY,hq']
  have e2:Int.tmod (lo:Int) (y:Int)=(r:Int):=by rw[BU,hr']
  simp[h1,e1,e2,bV q (by omega)]
  refine⟨aw (by decide +kernel),?_⟩
  rw[<- hres,hq',hr',x1s,x07]
 simp
 refine aa (kz hC y hy) (.inl rfl) ?_
 generalize hs:64-bitLen y=s
 obtain⟨s1,s2,s3⟩:=DJ h1 hy hs.symm
 have w1:IntKind.u64.wrap (s:Int)=(s:Int):=bV _ (by omega)
 have w2:IntKind.u64.wrap (64-(s:Int))=((64-s:Nat):Int):=by rw[fC];omega
 have m1:min s IntKind.u64.bits=s:=by show min s 64=s;omega
 have m2:min (64-s) IntKind.u64.bits=64-s:=by show min (64-s) 64=64-s;omega
 obtain⟨Y,hY⟩:∃Y,Y=y*2^s:=⟨_,rfl⟩
 obtain⟨H,hH⟩:∃H,H=hi*2^s:=⟨_,rfl⟩
 obtain⟨W,hW⟩:∃W,W=lo*2^s%18446744073709551616:=⟨_,rfl⟩
 obtain⟨B,hB⟩:∃B,B=lo/2^(64-s):=⟨_,rfl⟩
 rw[<- hY]at s2 s3
 have hHY:H+2^s<=Y:=by
  have:=x0h (2^s) h
  rw[hH,hY]
  rw[x0T]at this
  exact this
 have hBs:B<2^s:=by
  rw[hB,x1q (x1H _),<- Nat.pow_add,show s+(64-s)=64 by omega]
  exact hl
 obtain⟨U,hU⟩:∃U,U=H+B:=⟨_,rfl⟩
 have hUY:U<Y:=by omega
 have eY:IntKind.u64.wrap ((y:Int)*2^s)=(Y:Int):=by
  rw[show(y:Int)*2^s=(Y:Int) by rw[hY];norm_cast];exact bV _ s3
 have eH:IntKind.u64.wrap ((hi:Int)*2^s)=(H:Int):=by
  rw[show(hi:Int)*2^s=(H:Int) by rw[hH];norm_cast];exact bV _ (by omega)
 have eW:IntKind.u64.wrap ((lo:Int)*2^s)=(W:Int):=by
  rw[show(lo:Int)*2^s=((lo*2^s:Nat):Int) by norm_cast,x3,hW]
 have eB:Int.fdiv (lo:Int) (2^(64-s))=(B:Int):=by rw[nE,hB]
 have eU:bits .or .u64 (H:Int) (B:Int)=(U:Int):=by
  rw[hU,hH];exact orN hi B s hBs (by omega)
 obtain⟨Y1,hY1⟩:∃Y1,Y1=Y/4294967296:=⟨_,rfl⟩
 obtain⟨Y0,hY0⟩:∃Y0,Y0=Y%4294967296:=⟨_,rfl⟩
 obtain⟨d1,hd1⟩:∃d1,d1=W/4294967296:=⟨_,rfl⟩
 obtain⟨d0,hd0⟩:∃d0,d0=W%4294967296:=⟨_,rfl⟩
 have eY1:Int.fdiv (Y:Int) (2^min 32 IntKind.u64.bits)=(Y1:Int):=by rw[tK,hY1]
 have eY0:bits .and .u64 (Y:Int) 4294967295=(Y0:Int):=by rw[qH _ s3,hY0]
 have hW64:W<18446744073709551616:=by rw[hW];exact x1y _ (by omega)
 have ed1:Int.fdiv (W:Int) (2^min 32 IntKind.u64.bits)=(d1:Int):=by rw[tK,hd1]
 have ed0:bits .and .u64 (W:Int) 4294967295=(d0:Int):=by rw[qH _ hW64,hd0]
 have hY1a:2147483648<=Y1:=by omega
 have hY1b:Y1<4294967296:=by omega
 have hY0b:Y0<4294967296:=by omega
 have hd1b:d1<4294967296:=by omega
 have hd0b:d0<4294967296:=by omega
 have hYs:Y1*4294967296+Y0=Y:=by omega
 have nz:¬Y1=0:=by omega
 have inv1:=DvI.first hY1a hY1b hY0b (u:=U) (d:=d1) (by omega) hd1b
 obtain⟨q,hq⟩:∃q,q=U/Y1:=⟨_,rfl⟩
 obtain⟨r,hr⟩:∃r,r=U%Y1:=⟨_,rfl⟩
 rw[<- hq,<- hr]at inv1
 have eq1:Int.tdiv (U:Int) (Y1:Int)=(q:Int):=by rw[oY,hq]
 have eq2:IntKind.u64.wrap (q:Int)=(q:Int):=bV _ (by have:=inv1.qle;omega)
 have sub1:∀(u a q r:Nat),q*a+r=u->u<18446744073709551616->IntKind.u64.wrap ((u:Int)-IntKind.u64.wrap ((q:Int)*(a:Int)))=(r:Int):=fun u a q r e hu=>by
  rw[sB,fC,fC]
  generalize q*a=z at *
  omega
 have er:IntKind.u64.wrap ((U:Int)-IntKind.u64.wrap ((q:Int)*(Y1:Int)))=(r:Int):=sub1 _ _ _ _ inv1.sum (by omega)
 simp[w1,w2,m1,m2,eY,eH,eW,eB,eU,eY1,eY0,ed1,ed0,eq1,eq2,er,nz]
 have bm:∀{u d q r:Nat},DvI u d Y1 Y0 q r->IntKind.u64.wrap ((q:Int)*(Y0:Int))=((q*Y0:Nat):Int):=fun i=>by rw[sB];exact bV _ (i.bnd hY0b)
 have bp:∀{u d q r:Nat},d<4294967296->DvI u d Y1 Y0 q r->IntKind.u64.wrap (IntKind.u64.wrap (4294967296*(r:Int))+(d:Int))=((4294967296*r+d:Nat):Int):=fun{u d q r} hd i=>by
  have:=i.rlt
  rw[show(4294967296:Int)*(r:Int)=((4294967296*r:Nat):Int) by omega,bV (4294967296*r) (by omega),HL]
  exact bV _ (by omega)
 obtain⟨Q1,hQ1⟩:∃Q1,Q1=(U*4294967296+d1)/(Y1*4294967296+Y0):=⟨_,rfl⟩
 refine qD 0 Nat (fun x=>[(2,.int .u64 Y),(8,.int .u64 s),(9,.int .u64 Y1),(10,.int .u64 Y0),(11,.int .u64 U),(13,.int .u64 d1),(14,.int .u64 d0),(15,.int .u64 x)]) (fun x=>x=Q1) ?_ ?_
 ·refine aF (Nat×Nat) (fun x=>[(2,.int .u64 Y),(8,.int .u64 s),(9,.int .u64 Y1),(10,.int .u64 Y0),(11,.int .u64 U),(13,.int .u64 d1),(14,.int .u64 d0),(15,.int .u64 x.1),(16,.int .u64 x.2)]) (fun x=>DvI U d1 Y1 Y0 x.1 x.2) (fun x=>4294967296-x.2) (q,r) inv1 (by simp) ?_
  rintro⟨a,c⟩ inv
  simp only at inv
  have b1:=bm inv
  have b2:=bp hd1b inv
  have b3:=inv.rlt
  have b4:=inv.qle
  have fin:(4294967296<=a\/4294967296*c+d1<a*Y0)->∃a' c':Nat,IntKind.u64.wrap ((a:Int)-1)=(a':Int)/\IntKind.u64.wrap ((c:Int)+(Y1:Int))=(c':Int)/\c'=c+Y1/\(4294967296<=c'->a'=Q1)/\(c'<4294967296->DvI U d1 Y1 Y0 a' c'):=fun hc=>by
   obtain⟨n1,n2,n3,n4⟩:=inv.next (by omega) (by rw[hYs];exact hUY) hd1b hc
   refine⟨a-1,c+Y1,by rw[fC];omega,by rw[fC];omega,rfl,fun hc=>(Dv.stop n2 n3 n4 (by omega) hY0b hc).trans hQ1.symm,fun hc=>⟨n2,n3,hc,by omega⟩⟩
  simp
  refine ae (fun c1=>?_) (fun c1=>?_)<;>simp[c1]<;>simp at c1
  ·obtain⟨a',c',k1,k2,k3,k4,k5⟩:=fin (.inl (by omega))
   simp[k1,k2]
   refine ae (fun c2=>?_) (fun c2=>?_)<;>simp[c2,k1,k2]<;>simp at c2
   ·rw[k4 (by omega)]
   ·exact⟨_,_,k5 (by omega),by omega,rfl,rfl⟩
  ·simp[b1,b2]
   refine ae (fun c3=>?_) (fun c3=>?_)<;>simp[c3]<;>simp at c3
   ·obtain⟨a',c',k1,k2,k3,k4,k5⟩:=fin (.inr (by omega))
    simp[k1,k2]
    refine ae (fun c2=>?_) (fun c2=>?_)<;>simp[c2,k1,k2]<;>simp at c2
    ·rw[k4 (by omega)]
    ·exact⟨_,_,k5 (by omega),by omega,rfl,rfl⟩
   ·rw[(inv.done (by omega) (by omega)).trans hQ1.symm]
 intro q1 e hq1 hw
 subst hq1
 simp at hw
 obtain⟨g2,g8,g9,g10,g11,g13,g14,g15⟩:=hw
 obtain⟨V,hV⟩:∃V,V=(U*4294967296+d1)%(Y1*4294967296+Y0):=⟨_,rfl⟩
 have hVY:V<Y:=by rw[hV,hYs];exact x1y _ (by omega)
 have sum1:q1*Y+V=U*4294967296+d1:=by rw[hQ1,hV,hYs,x0S];exact x1c _ _
 have eV:IntKind.u64.wrap (IntKind.u64.wrap (IntKind.u64.wrap ((U:Int)*4294967296)+(d1:Int))-IntKind.u64.wrap ((q1:Int)*(Y:Int)))=(V:Int):=by
  rw[sB q1 Y]
  simp only[fC]
  generalize q1*Y=z at *
  omega
 have inv2:=DvI.first hY1a hY1b hY0b (u:=V) (d:=d0) (by omega) hd0b
 obtain⟨q2,hq2⟩:∃q,q=V/Y1:=⟨_,rfl⟩
 obtain⟨r2,hr2⟩:∃r,r=V%Y1:=⟨_,rfl⟩
 rw[<- hq2,<- hr2]at inv2
 have eq3:Int.tdiv (V:Int) (Y1:Int)=(q2:Int):=by rw[oY,hq2]
 have eq4:IntKind.u64.wrap (q2:Int)=(q2:Int):=bV _ (by have:=inv2.qle;omega)
 have er2:IntKind.u64.wrap ((V:Int)-IntKind.u64.wrap ((q2:Int)*(Y1:Int)))=(r2:Int):=sub1 _ _ _ _ inv2.sum (by omega)
 simp[g2,g8,g9,g10,g11,g13,g14,g15,eV,eq3,eq4,er2,nz]
 obtain⟨Q0,hQ0⟩:∃Q0,Q0=(V*4294967296+d0)/(Y1*4294967296+Y0):=⟨_,rfl⟩
 refine qD 2 Nat (fun x=>[(2,.int .u64 Y),(8,.int .u64 s),(14,.int .u64 d0),(15,.int .u64 q1),(17,.int .u64 V),(18,.int .u64 x)]) (fun x=>x=Q0) ?_ ?_
 ·refine aF (Nat×Nat) (fun x=>[(2,.int .u64 Y),(8,.int .u64 s),(9,.int .u64 Y1),(10,.int .u64 Y0),(14,.int .u64 d0),(15,.int .u64 q1),(16,.int .u64 x.2),(17,.int .u64 V),(18,.int .u64 x.1)]) (fun x=>DvI V d0 Y1 Y0 x.1 x.2) (fun x=>4294967296-x.2) (q2,r2) inv2 (by simp) ?_
  rintro⟨a,c⟩ inv
  simp only at inv
  have b1:=bm inv
  have b2:=bp hd0b inv
  have b3:=inv.rlt
  have b4:=inv.qle
  have fin:(4294967296<=a\/4294967296*c+d0<a*Y0)->∃a' c':Nat,IntKind.u64.wrap ((a:Int)-1)=(a':Int)/\IntKind.u64.wrap ((c:Int)+(Y1:Int))=(c':Int)/\c'=c+Y1/\(4294967296<=c'->a'=Q0)/\(c'<4294967296->DvI V d0 Y1 Y0 a' c'):=fun hc=>by
   obtain⟨n1,n2,n3,n4⟩:=inv.next (by omega) (by rw[hYs];exact hVY) hd0b hc
   refine⟨a-1,c+Y1,by rw[fC];omega,by rw[fC];omega,rfl,fun hc=>(Dv.stop n2 n3 n4 (by omega) hY0b hc).trans hQ0.symm,fun hc=>⟨n2,n3,hc,by omega⟩⟩
  simp
  refine ae (fun c1=>?_) (fun c1=>?_)<;>simp[c1]<;>simp at c1
  ·obtain⟨a',c',k1,k2,k3,k4,k5⟩:=fin (.inl (by omega))
   simp[k1,k2]
   refine ae (fun c2=>?_) (fun c2=>?_)<;>simp[c2,k1,k2]<;>simp at c2
   ·rw[k4 (by omega)]
   ·exact⟨_,_,k5 (by omega),by omega,rfl,rfl⟩
  ·simp[b1,b2]
   refine ae (fun c3=>?_) (fun c3=>?_)<;>simp[c3]<;>simp at c3
   ·obtain⟨a',c',k1,k2,k3,k4,k5⟩:=fin (.inr (by omega))
    simp[k1,k2]
    refine ae (fun c2=>?_) (fun c2=>?_)<;>simp[c2,k1,k2]<;>simp at c2
    ·rw[k4 (by omega)]
    ·exact⟨_,_,k5 (by omega),by omega,rfl,rfl⟩
   ·rw[(inv.done (by omega) (by omega)).trans hQ0.symm]
 intro q0 e hq0 hw
 subst hq0
 simp at hw
 obtain⟨g2,g8,g14,g15,g17,g18⟩:=hw
 have l1:q1<4294967296:=by rw[hQ1];exact Dv.lt (by omega) (by omega) hd1b
 have l0:q0<4294967296:=by rw[hQ0];exact Dv.lt (by omega) (by omega) hd0b
 obtain⟨R,hR⟩:∃R,R=(V*4294967296+d0)%(Y1*4294967296+Y0):=⟨_,rfl⟩
 have hRY:R<Y:=by rw[hR,hYs];exact x1y _ (by omega)
 have sum0:q0*Y+R=V*4294967296+d0:=by rw[hQ0,hR,hYs,x0S];exact x1c _ _
 have eR:IntKind.u64.wrap (IntKind.u64.wrap (IntKind.u64.wrap ((V:Int)*4294967296)+(d0:Int))-IntKind.u64.wrap ((q0:Int)*(Y:Int)))=(R:Int):=by
  rw[sB q0 Y]
  simp only[fC]
  generalize q0*Y=z at *
  omega
 obtain⟨Z,hZ⟩:∃Z,Z=R/2^s:=⟨_,rfl⟩
 have eZ:Int.fdiv (R:Int) (2^s)=(Z:Int):=by rw[nE,hZ]
 have eQ:IntKind.u64.wrap (IntKind.u64.wrap ((q1:Int)*4294967296)+(q0:Int))=((q1*4294967296+q0:Nat):Int):=by
  simp only[fC]
  omega
 obtain⟨T,hT⟩:∃T,T=q1*4294967296+q0:=⟨_,rfl⟩
 rw[<- hT]at eQ
 simp[g2,g8,g14,g15,g17,g18,w1,m1,eR,eZ,eQ]
 have hW2:lo*2^s=B*18446744073709551616+W:=by
  have e1:lo*2^s/18446744073709551616=B:=by
   rw[hB,show(18446744073709551616:Nat)=2^(64-s)*2^s by rw[<- Nat.pow_add,show 64-s+s=64 by omega],Nat.mul_div_mul_right _ _ (x1H s)]
  have e2:=x1c (lo*2^s) 18446744073709551616
  omega
 have tot:(hi*18446744073709551616+lo)*2^s=(U*4294967296+d1)*4294967296+d0:=by
  rw[uR,hW2,<- hH]
  exact L1 hU hd1 hd0
 obtain⟨f1,f2⟩:=CF (N:=hi*18446744073709551616+lo) (y:=y) (S:=2^s) (A:=U*4294967296+d1) (K:=4294967296) (un0:=d0) (y':=Y1*4294967296+Y0) (by omega) (x1H s) (by rw[hYs,hY]) tot
 rw[<- hV,<- hQ1,<- hQ0,<- hT]at f1
 rw[<- hV,<- hR,<- hZ]at f2
 rw[<- hres,f1,f2]
end Go.Gv

namespace Go.Gv
def cf(n:Nat):D:=.agg [.int .u64 ((n/18446744073709551616:Nat):Int),.int .u64 ((n%18446744073709551616:Nat):Int)]
def gW(x:Nat):Nat->Nat->Nat
 | 0,r=>r
 | i+1,r=>gW x i (if (r+2^i)*(r+2^i)<=x then r+2^i else r)
def eO(x:Nat):Nat:=gW x 63 0
theorem tx{x k:Nat}:x*k=(x/18446744073709551616*k+x%18446744073709551616*k/18446744073709551616)*18446744073709551616+x%18446744073709551616*k%18446744073709551616:=by
 have e1:=x1c x 18446744073709551616
 have e2:=x1c (x%18446744073709551616*k) 18446744073709551616
 have e3:x*k=(18446744073709551616*(x/18446744073709551616)+x%18446744073709551616)*k:=by rw[e1]
 rw[x0A,x1z]at e3
 generalize x/18446744073709551616*k=A at *
 generalize x%18446744073709551616*k=B at *
 omega
theorem yD{x n:Nat}(hn:0<n):x/n=(x/18446744073709551616/n)*18446744073709551616+(x/18446744073709551616%n*18446744073709551616+x%18446744073709551616)/n/\(x/18446744073709551616%n*18446744073709551616+x%18446744073709551616)/n<18446744073709551616:=by
 obtain⟨H,hH⟩:∃H,H=x/18446744073709551616:=⟨_,rfl⟩
 obtain⟨L,hL⟩:∃L,L=x%18446744073709551616:=⟨_,rfl⟩
 rw[<- hH,<- hL]
 have hx:x=H*18446744073709551616+L:=by omega
 have hl:L<18446744073709551616:=by omega
 have e1:=x1c H n
 have l1:=x1y H hn
 generalize H/n=a at *
 generalize H%n=b at *
 constructor
 ·rw[hx,<- e1,show(n*a+b)*18446744073709551616+L=n*(a*18446744073709551616)+(b*18446744073709551616+L) by rw[x0A,x1z,x0N],Nat.mul_add_div hn]
 ·rw[x1q hn]
  have:(b+1)*18446744073709551616<=n*18446744073709551616:=x0h _ l1
  rw[x0S n]at this
  omega
theorem nu(x i r:Nat):gW x (i+1) r=gW x i (if (r+2^i)*(r+2^i)<=x then r+2^i else r):=rfl
variable{C:CC}(hC:al prog C)
include hC
theorem oP(a b:Nat)(ha:a<9223372036854775808)(hb:b<9223372036854775808):C 74 [.int .i64 a,.int .i64 b] (cf (a*b)) []:=by
 refine aj hC (nf:=N74) rfl rfl ?_
 simp[N74,bV a (by omega),bV b (by omega)]
 refine aa (gJ hC a b (by omega) (by omega)) (.inl rfl) ?_
 obtain⟨h,hh⟩:∃h,h=a*b/18446744073709551616:=⟨_,rfl⟩
 obtain⟨l,hl⟩:∃l,l=a*b%18446744073709551616:=⟨_,rfl⟩
 rw[<- hh,<- hl,cf,<- hh,<- hl]
 simp
theorem tU(x k:Nat)(hk:k<9223372036854775808)(hx:x<340282366920938463463374607431768211456)(hxk:x*k<340282366920938463463374607431768211456):C 75 [cf x,.int .i64 k] (cf (x*k)) []:=by
 have e:=tx (x:=x) (k:=k)
 obtain⟨h,hh⟩:∃h,h=x/18446744073709551616:=⟨_,rfl⟩
 obtain⟨l,hl⟩:∃l,l=x%18446744073709551616:=⟨_,rfl⟩
 have hh':h<18446744073709551616:=by omega
 have hl':l<18446744073709551616:=by omega
 rw[<- hh,<- hl]at e
 obtain⟨p,hp⟩:∃p,p=l*k/18446744073709551616:=⟨_,rfl⟩
 obtain⟨q,hq⟩:∃q,q=l*k%18446744073709551616:=⟨_,rfl⟩
 rw[<- hp,<- hq]at e
 have hq':q<18446744073709551616:=by omega
 obtain⟨z,hz⟩:∃z,z=h*k:=⟨_,rfl⟩
 obtain⟨y,hy⟩:∃y,y=x*k:=⟨_,rfl⟩
 rw[<- hz,<- hy]at e
 rw[<- hy]at hxk
 obtain⟨t,ht⟩:∃t,t=z+p:=⟨_,rfl⟩
 rw[<- ht]at e
 have e1:y/18446744073709551616=t:=by omega
 have e2:y%18446744073709551616=q:=by omega
 have ht':t<18446744073709551616:=by omega
 have et:IntKind.u64.wrap ((p:Int)+IntKind.u64.wrap ((h:Int)*(k:Int)))=(t:Int):=by
  rw[sB h k,<- hz,fC,fC]
  clear hxk hx e e1 e2 hq hp hl hh hy hz
  omega
 have r1:cf (x*k)=.agg [.int .u64 (t:Int),.int .u64 (q:Int)]:=by rw[cf,<- hy,e1,e2]
 have r2:cf x=.agg [.int .u64 (h:Int),.int .u64 (l:Int)]:=by rw[cf,<- hh,<- hl]
 rw[r1,r2]
 clear r1 r2 e1 e2 e hh hl hx hxk
 refine aj hC (nf:=N75) rfl rfl ?_
 simp[N75,bV k (by omega)]
 refine aa (gJ hC l k hl' (by omega)) (.inl rfl) ?_
 rw[<- hp,<- hq]
 simp[et,bV k (by omega)]
theorem xc(x n:Nat)(hn:0<n)(hn2:n<9223372036854775808)(hx:x<340282366920938463463374607431768211456):C 76 [cf x,.int .i64 n] (cf (x/n)) []:=by
 obtain⟨e,e0⟩:=yD (x:=x) hn
 obtain⟨h,hh⟩:∃h,h=x/18446744073709551616:=⟨_,rfl⟩
 obtain⟨l,hl⟩:∃l,l=x%18446744073709551616:=⟨_,rfl⟩
 have hh':h<18446744073709551616:=by omega
 have hl':l<18446744073709551616:=by omega
 rw[<- hh,<- hl]at e e0
 obtain⟨p,hp⟩:∃p,p=h/n:=⟨_,rfl⟩
 obtain⟨r,hr⟩:∃r,r=h%n:=⟨_,rfl⟩
 rw[<- hp,<- hr]at e
 rw[<- hr]at e0
 obtain⟨q,hq⟩:∃q,q=(r*18446744073709551616+l)/n:=⟨_,rfl⟩
 rw[<- hq]at e e0
 have hrn:r<n:=by rw[hr];exact x1y _ hn
 have e1:x/n/18446744073709551616=p:=by omega
 have e2:x/n%18446744073709551616=q:=by omega
 have hpl:p<18446744073709551616:=by rw[hp];have:=Nat.div_le_self h n;omega
 have ep:Int.tdiv (h:Int) (n:Int)=(p:Int):=by rw[oY,hp]
 have er:Int.tmod (h:Int) (n:Int)=(r:Int):=by rw[BU,hr]
 have r1:cf (x/n)=.agg [.int .u64 (p:Int),.int .u64 (q:Int)]:=by rw[cf,e1,e2]
 have r2:cf x=.agg [.int .u64 (h:Int),.int .u64 (l:Int)]:=by rw[cf,<- hh,<- hl]
 rw[r1,r2]
 clear r1 r2 e1 e2 e hh hl hx
 refine aj hC (nf:=N76) rfl rfl ?_
 have hn0:¬n=0:=by omega
 simp[N76,bV n (by omega),hn0,ep,er,bV p hpl]
 refine⟨aw (by decide +kernel),?_⟩
 refine aa (sV hC r l n hrn (by omega) hl') (.inl rfl) ?_
 rw[<- hq]
 simp
theorem xm(x:Nat):C 77 [cf x] (.int .i64 (eO x)) []:=by
 obtain⟨h,hh⟩:∃h,h=x/18446744073709551616:=⟨_,rfl⟩
 obtain⟨l,hl⟩:∃l,l=x%18446744073709551616:=⟨_,rfl⟩
 have r2:cf x=.agg [.int .u64 (h:Int),.int .u64 (l:Int)]:=by rw[cf,<- hh,<- hl]
 rw[r2]
 obtain⟨N,hN⟩:∃N,N=eO x:=⟨_,rfl⟩
 rw[<- hN]
 refine aj hC (nf:=N77) rfl rfl ?_
 simp[N77]
 refine aF (Nat×Nat×Nat) (fun s=>[(1,.ptr [.int .u64 (h:Int),.int .u64 (l:Int)]),(3,.int .u64 s.2.1),(4,.int .u64 s.2.2)])
  (fun s=>s.1<=63/\(∃a,s.2.1=a*2^s.1)/\s.2.1+2^s.1<=9223372036854775808/\s.2.2=(if s.1=0 then 0 else 2^(s.1-1))/\gW x s.1 s.2.1=N) (fun s=>s.1) (63,0,4611686018427387904) ⟨by omega,⟨0,by simp⟩,by decide,by decide,by rw[hN];rfl⟩ (by simp) ?_
 rintro⟨i,r,b⟩ ⟨h1,⟨a,h2⟩,h3,h4,h5⟩
 simp only at h1 h2 h3 h4 h5
 simp
 refine ae (fun c=>?_) (fun c=>?_)<;>simp[c]<;>simp at c
 ·obtain⟨j,rfl⟩:∃j,i=j+1:=by
   cases i with
   | zero=>simp at h4;omega
   | succ j=>exact⟨j,rfl⟩
  simp at h4
  have hb2:2*b=2^(j+1):=by rw[h4,Nat.pow_succ];omega
  rw[<- hb2]at h3 h2
  have hor:bits .or .u64 (r:Int) (b:Int)=((r+b:Nat):Int):=by
   rw[h2,show a*(2*b)=a*2^(j+1) by rw[hb2]]
   exact orN a b (j+1) (by rw[<- hb2];omega) (by rw[<- hb2,<- h2];omega)
  obtain⟨y,hy⟩:∃y,y=r+b:=⟨_,rfl⟩
  rw[<- hy]at hor
  have hsh:Int.fdiv (b:Int) (2^min 1 IntKind.u64.bits)=((b/2:Nat):Int):=nE b 1
  obtain⟨b',hb'⟩:∃b',b'=b/2:=⟨_,rfl⟩
  rw[<- hb']at hsh
  simp[hor]
  refine aa (gJ hC y y (by omega) (by omega)) (.inl rfl) ?_
  obtain⟨p,hp⟩:∃p,p=y*y/18446744073709551616:=⟨_,rfl⟩
  obtain⟨q,hq⟩:∃q,q=y*y%18446744073709551616:=⟨_,rfl⟩
  rw[<- hp,<- hq]
  have h6:gW x j (if y*y<=x then y else r)=N:=by rw[<- h5,nu,hy,h4]
  have hb1:b'=if j=0 then 0 else 2^(j-1):=by
   rw[hb',h4]
   cases j with
   | zero=>rfl
   | succ j=>simp[Nat.pow_succ]
  have yes:y*y<=x->(j<=63/\(∃a,y=a*2^j)/\y+2^j<=9223372036854775808/\b'=(if j=0 then 0 else 2^(j-1))/\gW x j y=N):=fun hc=>by
   rw[if_pos hc]at h6
   refine⟨by omega,⟨2*a+1,?_⟩,by omega,hb1,h6⟩
   rw[hy,h2,<- h4,x0A,x0S 2 a,x1z]
   omega
  have no:¬y*y<=x->(j<=63/\(∃a,r=a*2^j)/\r+2^j<=9223372036854775808/\b'=(if j=0 then 0 else 2^(j-1))/\gW x j r=N):=fun hc=>by
   rw[if_neg hc]at h6
   refine⟨by omega,⟨2*a,?_⟩,by omega,hb1,h6⟩
   rw[h2,<- h4,x0S 2 a,x1z]
  simp
  generalize y*y=Z at *
  refine ae (fun c1=>?_) (fun c1=>?_)<;>simp[c1,hor,hsh]<;>simp at c1
  ·exact⟨j,y,b',yes (by omega),by omega,rfl,rfl⟩
  ·refine ae (fun c2=>?_) (fun c2=>?_)<;>simp[c2,hor,hsh]<;>simp at c2
   ·refine ae (fun c3=>?_) (fun c3=>?_)<;>simp[c3,hor,hsh]<;>simp at c3
    ·exact⟨j,y,b',yes (by omega),by omega,rfl,rfl⟩
    ·exact⟨j,r,b',no (by omega),by omega,rfl,rfl⟩
   ·exact⟨j,r,b',no (by omega),by omega,rfl,rfl⟩
 ·have hi:i=0:=by
   cases i with
   | zero=>rfl
   | succ j =>
    simp at h4
    have:=x1H j
    omega
  subst hi
  have:r=N:=h5
  simp at h3
  have e1:IntKind.wrap .i64 (r:Int)=(r:Int):=wrap_i64 rfl (by omega)
  rw[<- this,e1]
end Go.Gv

namespace Go.Gv
open Go.Lib
theorem LV(a k m:Nat)(hm:m=a*2^k%18446744073709551616):IntKind.u64.wrap ((a:Int)*2^k)=(m:Int):=by
 have e:(a:Int)*2^k=((a*2^k:Nat):Int):=by push_cast;rfl
 rw[e,x3,hm]
theorem uw{n:Int}{m:Nat}(h:n=m\/n=m+18446744073709551616\/n=m-18446744073709551616)(hm:m<18446744073709551616):IntKind.u64.wrap n=(m:Int):=by
 rw[fC];omega
end Go.Gv

namespace Go.Gv
open Go.Lib
variable{C:CC}(hC:al prog C)
include hC
end Go.Gv

namespace Go.Gv
def DvS(x b i a q r:Nat):Prop:=i<=128/\r<b/\∃c,a=c*2^i/\c<2^(128-i)/\(q*b+r)*2^(128-i)+c=x
theorem DvS.step{x b i a q r:Nat}(h:DvS x b i a q r)(hi:i<128)(hb:0<b) :
  a<340282366920938463463374607431768211456/\2*q<=x /\
  ∀w r' a',2*r+a/170141183460469231731687303715884105728=w*b+r'->r'<b->a'=2*a%340282366920938463463374607431768211456->DvS x b (i+1) a' (2*q+w) r'/\2*q+w<=x:=by
 obtain⟨_,hr,c,h1,h2,h3⟩:=h
 obtain⟨m,hm⟩:∃m,m+1=128-i:=⟨127-i,by omega⟩
 have hm2:m=128-(i+1):=by omega
 rw[<- hm,Nat.pow_succ]at h2 h3
 obtain⟨V,hV⟩:∃V,V=2^m:=⟨_,rfl⟩
 obtain⟨W,hW⟩:∃W,W=2^i:=⟨_,rfl⟩
 have hVW:V*W=170141183460469231731687303715884105728:=by
  rw[hV,hW,<- Nat.pow_add,show m+i=127 by omega]
 have hVp:0<V:=by rw[hV];exact x1H m
 rw[<- hV]at h2 h3
 rw[<- hW]at h1
 obtain⟨t,ht⟩:∃t,t=c/V:=⟨_,rfl⟩
 obtain⟨d,hd⟩:∃d,d=c%V:=⟨_,rfl⟩
 have hc:c=t*V+d:=by rw[ht,hd,x0S];exact(x1c c V).symm
 have hdV:d<V:=by rw[hd];exact x1y _ hVp
 have ht1:t<=1:=by
  have:t<2:=by rw[ht,x1q hVp];omega
  omega
 have ha:a=t*170141183460469231731687303715884105728+d*W:=by
  rw[h1,hc,x0A,x1z,hVW]
 have hdW:d*W<170141183460469231731687303715884105728:=by
  have:(d+1)*W<=V*W:=x0h _ hdV
  rw[hVW,x0A]at this
  have hWp:0<W:=by rw[hW];exact x1H i
  omega
 have hbit:a/170141183460469231731687303715884105728=t:=by
  rw[ha];generalize d*W=z at *;omega
 have fin:∀w r',2*r+t=w*b+r'->((2*q+w)*b+r')*V+d=x:=fun w r' e=>by
  have e1:(2*q+w)*b+r'=2*(q*b+r)+t:=by
   rw[x0A,x1z]
   generalize q*b=z at *
   generalize w*b=z' at *
   omega
  rw[e1,<- h3,hc,x0A,x0S V 2,<- x1z,x0S (q*b+r) 2]
  omega
 have big:∀w r',2*r+t=w*b+r'->2*q+w<=x:=fun w r' e=>by
  have e1:=fin w r' e
  have e2:2*q+w<=(2*q+w)*b:=Nat.le_mul_of_pos_right _ hb
  have e3:(2*q+w)*b+r'<=((2*q+w)*b+r')*V:=Nat.le_mul_of_pos_right _ hVp
  omega
 refine⟨?_,?_,?_⟩
 ·rw[ha];generalize d*W=z at *;omega
 ·exact x1h (Nat.le_add_right _ _) (big _ _ (Nat.div_add_mod' (2*r+t) b).symm)
 ·intro w r' a' e hr' ha'
  rw[hbit]at e
  refine⟨⟨by omega,hr',d,?_,?_,?_⟩,big w r' e⟩
  ·rw[ha',ha,Nat.pow_succ,<- hW,x0S W 2,Nat.mul_left_comm]
   generalize d*W=z at *
   omega
  ·rw[<- hm2,<- hV];exact hdV
  ·rw[<- hm2,<- hV];exact fin w r' e
theorem DvS.last{x b a q r:Nat}(h:DvS x b 128 a q r):q=x/b/\r=x%b:=by
 obtain⟨_,hr,c,h1,h2,h3⟩:=h
 simp at h2 h3
 subst h2
 simp at h3
 subst h3
 have hb:0<b:=by omega
 rw[x0S,Nat.mul_add_div hb,Nat.div_eq_of_lt hr,Nat.mul_add_mod,Nat.mod_eq_of_lt hr]
 exact⟨rfl,rfl⟩
variable{C:CC}(hC:al prog C)
include hC
end Go.Gv

namespace Go.Gv
variable{C:CC}(hC:al prog C)
include hC
end Go.Gv

namespace Go.Gv
structure SlI where
 n:Bool
 l:List Int
 deriving Inhabited
def slI(x:SlI):D:=slx x.n (x.l.map fun n=>[.int .i64 n])
def knD(k:Int×Int):List D:=[.int .i64 k.1,.int .i64 k.2]
structure Sec where
 name:List UInt8
 height:Int
 price:Int
 areaN:Bool
 area:List (Int×Int)
 convN:Bool
 conv:List (Int×Int)
 deriving Inhabited
def bf(s:Sec):List D:=[.str s.name,.int .i64 s.height,.int .i64 s.price,slx s.areaN (s.area.map knD),slx s.convN (s.conv.map knD)]
def bk{α:Type}(p:α->Bool)(xs:List α):Int:=match xs.findIdx? p with
 | some i=>i
 | none=>-1
theorem cQ{α:Type}{p:α->Bool}{xs:List α}{i:Nat}(hj:∀(j:Nat) (h:j<xs.length),j<i->p xs[j]=false)(hi:i<xs.length)(h:p xs[i]=true):bk p xs=i:=by
 have:xs.findIdx? p=some i:=by
  rw[x0W]
  exact⟨hi,h,fun j hji=>by simp[hj j (by omega) hji]⟩
 simp[bk,this]
theorem dA{α:Type}{p:α->Bool}{xs:List α}(hj:∀(j:Nat) (h:j<xs.length),p xs[j]=false):bk p xs=-1:=by
 have:xs.findIdx? p=none:=by
  rw[List.findIdx?_eq_none_iff]
  intro x hx
  obtain⟨j,h,rfl⟩:=x0C.1 hx
  exact hj j h
 simp[bk,this]
theorem eu{α:Type}(p:α->Bool)(xs:List α):decide (0<=bk p xs)=xs.any p:=by
 unfold bk
 split
 ·rename_i i h
  rw[x0W]at h
  obtain⟨h1,h2,_⟩:=h
  have:xs.any p=true:=x0O.2 ⟨_,x0p h1,h2⟩
  simp[this]
 ·rename_i h
  rw[List.findIdx?_eq_none_iff]at h
  have:xs.any p=false:=by rw[x02];intro x hx;simp[h x hx]
  simp[this]
variable{C:CC}(hC:al prog C)
include hC
theorem wK{b:Bool}{xs:List Int}{g:Nat}{cs:List D}(p:Int->Bool)(hs:xs.length<2^62)(hp:∀x∈xs,C g (.int .i64 x::cs) (.bool (p x)) []):C 35 [slx b (xs.map fun x=>[.int .i64 x]),.fn g cs] (.int .i64 (bk p xs)) []:=by
 refine aj hC (nf:=N35) rfl rfl ?_
 simp[N35]
 refine aF Nat (fun i=>[(0,slx b (xs.map fun x=>[.int .i64 x])),(1,.fn g cs),(7,.int .i64 xs.length),(8,.int .i64 i)]) (fun i=>i<=xs.length/\∀(j:Nat) (h:j<xs.length),j<i->p xs[j]=false) (fun i=>xs.length-i) 0 (by simp) (by simp) ?_
 rintro i ⟨hi,hj⟩
 simp
 refine ae (fun h=>?_) (fun h=>?_)<;>simp[h]<;>simp at h
 ·have hw:IntKind.wrap .i64 ((i:Int)+1)=((i+1:Nat):Int):=wrap_i64 (by omega) (by omega)
  have hc:=hp _ (x0p h)
  simp[h,List.getElem_map]at hc ⊢
  refine aa hc (.inl rfl) ?_
  simp
  refine ae (fun h1=>?_) (fun h1=>?_)<;>simp[h1,hw]
  ·rw[cQ hj h h1]
  ·refine⟨i+1,⟨by omega,fun j hl hjj=>?_⟩,by omega,rfl⟩
   rcases x0D.1 hjj with h2|rfl
   ·exact hj j hl h2
   ·exact h1
 ·rw[dA (fun j hl=>hj j hl (by omega))]
theorem wF{b:Bool}{xs:List Int}{g:Nat}{cs:List D}(p:Int->Bool)(hs:xs.length<2^62)(hp:∀x∈xs,C g (.int .i64 x::cs) (.bool (p x)) []):C 11 [slx b (xs.map fun x=>[.int .i64 x]),.fn g cs] (.bool (xs.any p)) []:=by
 refine aj hC (nf:=N11) rfl rfl ?_
 simp[N11]
 refine aa (wK hC p hs hp) (.inl rfl) ?_
 simp[eu]
theorem qt{b:Bool}{xs:List Sec}{g:Nat}{cs:List D}(p:Sec->Bool)(hs:xs.length<2^62)(hp:∀x∈xs,C g (.agg (bf x)::cs) (.bool (p x)) []):C 52 [slx b (xs.map fun x=>bf x),.fn g cs] (.int .i64 (bk p xs)) []:=by
 refine aj hC (nf:=N52) rfl rfl ?_
 simp[N52]
 refine aF Nat (fun i=>[(0,slx b (xs.map fun x=>bf x)),(1,.fn g cs),(7,.int .i64 xs.length),(8,.int .i64 i)]) (fun i=>i<=xs.length/\∀(j:Nat) (h:j<xs.length),j<i->p xs[j]=false) (fun i=>xs.length-i) 0 (by simp) (by simp) ?_
 rintro i ⟨hi,hj⟩
 simp
 refine ae (fun h=>?_) (fun h=>?_)<;>simp[h]<;>simp at h
 ·have hw:IntKind.wrap .i64 ((i:Int)+1)=((i+1:Nat):Int):=wrap_i64 (by omega) (by omega)
  have hc:=hp _ (x0p h)
  simp[h,bf]at hc ⊢
  refine aa hc (.inl rfl) ?_
  simp
  refine ae (fun h1=>?_) (fun h1=>?_)<;>simp[h1,hw]
  ·rw[cQ hj h h1]
  ·refine⟨i+1,⟨by omega,fun j hl hjj=>?_⟩,by omega,rfl⟩
   rcases x0D.1 hjj with h2|rfl
   ·exact hj j hl h2
   ·exact h1
 ·rw[dA (fun j hl=>hj j hl (by omega))]
theorem wH{b:Bool}{xs:List Sec}{g:Nat}{cs:List D}(p:Sec->Bool)(hs:xs.length<2^62)(hp:∀x∈xs,C g (.agg (bf x)::cs) (.bool (p x)) []):C 45 [slx b (xs.map fun x=>bf x),.fn g cs] (.bool (xs.any p)) []:=by
 refine aj hC (nf:=N45) rfl rfl ?_
 simp[N45]
 refine aa (qt hC p hs hp) (.inl rfl) ?_
 simp[eu]
end Go.Gv

namespace Go.Gv
def qK(t:List (Int×Int))(i:Nat):Bool:=fX t[i]!.1&&fX t[i]!.2&&(i==0||(t[i-1]!.1<t[i]!.1&&t[i-1]!.2<=t[i]!.2))
def ay(t:List (Int×Int)):Bool:=1<=t.length&&t.length<=100&&(List.range t.length).all (qK t)
variable{C:CC}(hC:al prog C)
include hC
theorem dM(b:Bool)(t:List (Int×Int)):C 72 [slx b (t.map knD)] (.bool (ay t)) []:=by
 refine aj hC (nf:=N72) rfl rfl ?_
 simp[N72]
 refine ae (fun h=>?_) (fun h=>?_)<;>simp at h
 ·simp[ay,show t.length=0 by omega]
 simp[h]
 refine ae (fun h2=>?_) (fun h2=>?_)<;>simp at h2
 ·simp[ay,h,h2]
  omega
 simp
 refine aF Nat (fun i=>[(0,slx b (t.map knD)),(13,slx b (t.map knD)),(14,.int .i64 t.length),(15,.int .i64 i)]) (fun i=>i<=t.length/\∀j<i,qK t j=true) (fun i=>t.length-i) 0 (by simp) (by simp) ?_
 rintro i ⟨hi,hj⟩
 simp
 refine ae (fun h3=>?_) (fun h3=>?_)<;>simp at h3
 ·have bad:qK t i=false->ay t=false:=fun hb=>by
   simp only[ay,x1F,List.all_eq_false]
   exact .inr ⟨i,by simpa using h3,by simp[hb]⟩
  have e1:t[i]! = t[i]:=x0g t i h3
  have e2:t[i-1]! = t[i-1]:=x0g t (i-1) (by omega)
  simp only[qK,e1,e2]at bad
  have hw1:IntKind.wrap .i64 ((i:Int)+1)=((i+1:Nat):Int):=wrap_i64 (by omega) (by omega)
  have next:qK t i=true->∃s':Nat,(s'<=t.length/\∀j<s',qK t j=true)/\t.length-s'<t.length-i/\s'=i+1:=fun ho =>
   ⟨i+1,⟨by omega,fun j hjj=>by
    rcases x0D.1 hjj with h|rfl
    ·exact hj j h
    ·exact ho⟩,by omega,rfl⟩
  simp only[qK,e1,e2]at next
  simp[h3,knD]
  refine aa (ww hC _) (.inl rfl) ?_
  cases f1:fX t[i].1
  ·simp
   exact⟨aw (by decide +kernel),bad (by simp[f1])⟩
  simp
  refine aa (ww hC _) (.inl rfl) ?_
  cases f2:fX t[i].2
  ·simp
   exact⟨aw (by decide +kernel),bad (by simp[f2])⟩
  simp
  refine ae (fun h4=>?_) (fun h4=>?_)<;>simp at h4
  ·have hw:IntKind.wrap .i64 ((i:Int)-1)=((i-1:Nat):Int):=wrap_i64 (by omega) (by omega)
   have h5:i-1<t.length:=by omega
   simp[h4,hw,h5,knD]
   refine ae (fun h6=>?_) (fun h6=>?_)<;>simp[h6,hw,h5,knD]<;>simp at h6
   ·refine⟨aw (by decide +kernel),bad ?_⟩
    simp[f1,f2]
    omega
   ·refine⟨aw (by decide +kernel),ae (fun h7=>?_) (fun h7=>?_)⟩<;>simp[h7,hw1]<;>simp at h7
    ·refine bad ?_
     simp[f1,f2]
     omega
    ·obtain⟨s',g1,g2,rfl⟩:=next (by simp[f1,f2,h6,h7])
     exact⟨_,g1,g2,rfl⟩
  ·have hi0:i=0:=by omega
   subst hi0
   simp at hw1
   simp[hw1]
   refine⟨aw (by decide +kernel),?_⟩
   obtain⟨s',g1,g2,rfl⟩:=next (by simp[f1,f2])
   exact⟨_,g1,g2,rfl⟩
 ·have:i=t.length:=by omega
  subst this
  simp[ay,h,h2]
  exact⟨⟨by omega,by omega⟩,hj⟩
end Go.Gv

namespace Go.Gv
structure Lnk where
 name:List UInt8
 src:List UInt8
 dst:List UInt8
 kind:Int
 len:Int
 up:Int
 down:Int
 sect:List UInt8
 width:Int
 height:Int
 curveN:Bool
 curve:List (Int×Int)
 deriving Inhabited
def aJ(l:Lnk):List D:=[.str l.name,.str l.src,.str l.dst,.int .i64 l.kind,.int .i64 l.len,.int .i64 l.up,.int .i64 l.down,.str l.sect,.int .i64 l.width,.int .i64 l.height,slx l.curveN (l.curve.map knD)]
structure Nod where
 name:List UInt8
 kind:Int
 x:Int
 y:Int
 invert:Int
 ground:Int
 shapeN:Bool
 shape:List (Int×Int)
 prot:Bool
 reserve:Int
 deriving Inhabited
def a8(n:Nod):List D:=[.str n.name,.int .i64 n.kind,.int .i64 n.x,.int .i64 n.y,.int .i64 n.invert,.int .i64 n.ground,slx n.shapeN (n.shape.map knD),.bool n.prot,.int .i64 n.reserve]
def bP(n:Int):Bool:=decide (-4194304<=n)&&decide (n<=4194304)
variable{C:CC}(hC:al prog C)
include hC
theorem cP(n a b:Int):C 172 [.int .i64 n,.int .i64 a,.int .i64 b] (.bool (decide (a<=n)&&decide (n<=b))) []:=by
 refine aj hC (nf:=N172) rfl rfl ?_
 simp[N172]
 refine ae (fun h=>?_) (fun h=>?_)<;>simp at h<;>simp[h]<;>omega
theorem wR(n:Int):C 183 [.int .i64 n] (.bool (!bP n)) []:=by
 have e:(!bP n)=(decide (n < -4194304)||decide (4194304<n)):=by
  rw[bP,x0z]
  simp only[x0q,x1F,x0J,x0H,x0d]
  omega
 rw[e]
 refine aj hC (nf:=N183) rfl rfl ?_
 simp[N183]
 refine ae (fun h=>?_) (fun h=>?_)<;>simp at h<;>simp[h]
 intro _;omega
theorem pA(xs:List Int)(hl:xs.length<2^62):C 173 [.sl (xs.map fun n=>[.int .i64 n])] (.bool (xs.all bP)) []:=by
 refine aj hC (nf:=N173) rfl rfl ?_
 simp[N173]
 have h:=wF hC (b:=false) (xs:=xs) (g:=183) (cs:=[]) (fun n=>!bP n) hl (fun n _=>wR hC n)
 rw[iZ]at h
 refine aa h (.inl rfl) ?_
 simp
 rw[x0z];simp
end Go.Gv
