/-
  Texts of the proof: GvR, GvEbd, ItB, GvT, GvT4, GvU, K1, K4, K5, K6, GvW, K7, K8, M0, M3.
-/
import Derived.Test.YtakhehpeefjcnaaGreatX4
import Derived.SizedLaws
import Derived.ProofKit
import Derived.Test.YtakhehpeefjcnaaGreatX5
import Derived.Test.YtakhehpeefjcnaaGreatProg
import Derived.KernelRfl
import Derived.Shelf.Sort.Plain
import Derived.Shelf.Slices.CompactI
import Derived.Shelf.Spec.SlicesInsert
import Derived.Sort.Row
import Derived.Sort.Grow
import Derived.Shelf.Slices.In.SortNone
import Derived.Shelf.Spec.SlicesInsertGrow
import Derived.Lib.Mul64
import Derived.Laws.Bits64b
import Derived.Laws.MathBits
set_option linter.all false
namespace Go.Gv
open Go.RowKit Go.ChangeShapes Go.WideShapes Go.ChangeAt
inductive Sh where
 | int (k:IntKind)
 | bool
 | str
 | sl (row:List Sh)
mutual
def dO:Sh->D->Prop
 | .int k,d=>∃n,d=.int k n/\(Lit.int k n).wf=true
 | .bool,d=>∃b,d=.bool b
 | .str,d=>∃s,d=.str s/\s.length<140737488355328
 | .sl row,d=>∃es,(d=.sl es\/(d=.nils/\es=[]))/\es.length<140737488355328/\∀e∈es,cb row e
def cb:List Sh->List D->Prop
 | [],ds=>ds=[]
 | s::ss,ds=>∃d r,ds=d::r/\dO s d/\cb ss r
end
theorem cb.length:∀{ss:List Sh} {ds:List D},cb ss ds->ds.length=ss.length
 | [],ds,h=>by simp only[cb]at h;simp[h]
 | s::ss,ds,h=>by
  simp only[cb]at h
  obtain⟨d,r,rfl,_,h2⟩:=h
  simp[cb.length h2]
theorem cb.append:∀{ss ts:List Sh} {ds es:List D},cb ss ds->cb ts es->cb (ss++ts) (ds++es)
 | [],ts,ds,es,h,h'=>by simp only[cb]at h;subst h;exact h'
 | s::ss,ts,ds,es,h,h'=>by
  simp only[cb]at h
  obtain⟨d,r,rfl,h1,h2⟩:=h
  exact⟨d,r++es,rfl,h1,cb.append h2 h'⟩
def qu(P:Program)(rec:TypeId->Option (List Sh)):List Field->Nat->Option (List Sh)
 | [],_=>some []
 | f::fs,off=>if f.offset=off then(match rec f.type with
   | some l=>if l.length=P.cellsOf f.type then(match qu P rec fs (off+l.length) with
    | some r=>some (l++r)
    | none=>none) else none
   | none=>none) else none
def oN(P:Program):Nat->TypeId->Option (List Sh)
 | 0,_=>none
 | n+1,t=>match P.underlying t with
  | some .bool=>some [.bool]
  | some (.int k)=>some [.int k]
  | some .string=>some [.str]
  | some (.slice e)=>(match oN P n e with
   | some l=>if l.length=P.cellsOf e/\1<=P.bytesOf e then some [.sl l] else none
   | none=>none)
  | some (.struct fs)=>(match qu P (oN P n) fs.toList 0 with
   | some l=>if l.length=P.cellsOf t then some l else none
   | none=>none)
  | _=>none
section
variable{H:Type}{enc:TypeId×Value->H}{P:Program}{F:Fid}{w:World}{sp:Nat->Bool}
abbrev nC(w:World):Mem:=fun p=>w.cell? p
def xx(enc:TypeId×Value->H)(P:Program)(F:Fid)(w:World)(sp:Nat->Bool)(n:Nat)(t:TypeId)(shs:List Sh):Prop :=
 ∀(cs:List Value) (d:DataW H) (ps:List MemPlace),DataW.trod enc P w 0 sp true n t cs=some (d,ps)->(d.weights P t).all (·<=reachBytes)=true->∃ds,cb shs ds/\aC F (nC w) ds cs
theorem jn{α β:Type}{f:α->Option β}{x:α}{l:List α}{ys:List β}(h:(x::l).mapM f=some ys):∃y r,f x=some y/\l.mapM f=some r/\ys=y::r:=by
 rw[List.mapM_cons]at h
 cases hx:f x with
 | none=>rw[hx]at h;cases h
 | some y =>
  cases hl:l.mapM f with
  | none=>rw[hx,hl]at h;cases h
  | some r =>
   rw[hx,hl]at h
   exact⟨y,r,rfl,rfl,by cases h;rfl⟩
theorem ot{n m:Nat}(ih:∀t shs,oN P m t=some shs->xx enc P F w sp n t shs){cs:List Value}:∀(fs:List Field) (off:Nat) (xs:List (DataW H×List MemPlace)) (shs:List Sh),
  (fs.mapM fun f=>DataW.trod enc P w 0 sp true n f.type ((cs.drop f.offset).take (P.cellsOf f.type)))=some xs->qu P (oN P m) fs off=some shs->(DataW.weightsEach P (fs.map (·.type)) (xs.map (·.1))).all (·<=reachBytes)=true->cs.length=off+shs.length ->
   ∃ds,cb shs ds/\aC F (nC w) ds (cs.drop off)
 | [],off,xs,shs,_,h2,_,h4=>by
  cases h2
  exact⟨[],rfl,by simp only[aC];exact List.drop_of_length_le (by simpa using Nat.le_of_eq h4)⟩
 | f::fs,off,xs,shs,h1,h2,h3,h4=>by
  obtain⟨y,r,e1,e2,rfl⟩:=jn h1
  simp only[qu]at h2
  split at h2
  case isFalse=>cases h2
  rename_i ho
  split at h2
  case h_2=>cases h2
  rename_i l hl
  split at h2
  case isFalse=>cases h2
  rename_i hlen
  split at h2
  case h_2=>cases h2
  rename_i rs hr
  cases h2
  simp only[x0I,DataW.weightsEach,List.all_append,x0a]at h3
  rw[x0Q]at h4
  obtain⟨ds1,g1,g2⟩:=ih f.type l hl _ y.1 y.2 e1 h3.1
  obtain⟨ds2,g3,g4⟩:=ot ih fs (off+l.length) r rs e2 hr h3.2 (by omega)
  refine⟨ds1++ds2,g1.append g3,?_⟩
  rw[ho,<- hlen]at g2
  have:=g2.append g4
  rwa[<- List.drop_drop,List.take_append_drop]at this
theorem ou{n k:Nat}{e:TypeId}{l:List Sh}{a:Addr}(hl:l.length=k)(ih:xx enc P F w sp n e l):∀(c s:Nat) (xs:List (DataW H×List MemPlace)),
  ((List.range' s c).mapM fun i=>(w.cells? 0 (a.add (i*k)) k).bind (DataW.trod enc P w 0 sp true n e))=some xs->(DataW.weightsAll P e (xs.map (·.1))).all (·<=reachBytes)=true ->
   ∃(es:List (List D)) (vs:List Value),es.length=c/\xs.length=c/\(∀r∈es,cb l r)/\bv F (nC w) es vs/\∀j v,vs[j]? = some v->w.cell? (a.add (s*k+j))=some v
 | 0,s,xs,h,_=>by
  cases h
  exact⟨[],[],rfl,rfl,by simp,by simp[bv],fun j v h=>by simp at h⟩
 | c+1,s,xs,h,hw=>by
  rw[List.range'_succ]at h
  obtain⟨y,r,e1,e2,rfl⟩:=jn h
  rw[Option.bind_eq_some_iff]at e1
  obtain⟨row,c1,c2⟩:=e1
  simp only[x0I,DataW.weightsAll,List.all_append,x0a]at hw
  obtain⟨ds,g1,g2⟩:=ih row y.1 y.2 c2 hw.1
  obtain⟨es,vs,h1,h2,h3,h4,h5⟩:=ou hl ih c (s+1) r e2 hw.2
  have hrow:=World.cells?_some c1
  refine⟨ds::es,row++vs,by simp[h1],by simp[h2],?_,⟨row,vs,rfl,g2,h4⟩,fun j v hj=>?_⟩
  ·intro x hx
   rcases x0S.1 hx with rfl|hx
   ·exact g1
   ·exact h3 x hx
  ·have hrl:row.length=k:=by rw[g2.length,g1.length,hl]
   have addadd:∀i j,(a.add i).add j=a.add (i+j):=fun i j=>by
    unfold Addr.add
    by_cases hi:i=0<;>by_cases hj:j=0<;>simp[hi,hj,x0N]
   by_cases hjk:j<k
   ·rw[x0w (by omega)]at hj
    have:=hrow.2.2 j hjk
    rw[hj,addadd]at this
    exact this
   ·rw[x0y (by omega)]at hj
    have:=h5 (j-row.length) v hj
    rw[hrl]at this
    rwa[show(s+1)*k+(j-k)=s*k+j by rw[x0Y];omega]at this
theorem nl:∀(m:Nat) (n:Nat) (t:TypeId) (shs:List Sh),oN P m t=some shs->xx enc P F w sp n t shs
 | 0,_,_,_,h=>by cases h
 | m+1,0,t,shs,_=>fun cs d ps h _=>by simp[DataW.trod]at h
 | m+1,n+1,t,shs,h=>by
  intro cs d ps ht hw
  rw[oN]at h
  split at h
  ·rename_i hu
   cases h
   unfold DataW.trod at ht;rw[hu]at ht
   split at ht<;>try (simp_all;done)
   rename_i b _
   refine⟨[.bool b],⟨_,_,rfl,⟨b,rfl⟩,rfl⟩,by simp[aC,af]⟩
  ·rename_i k hu
   cases h
   unfold DataW.trod at ht;rw[hu]at ht
   split at ht<;>try (simp_all;done)
   rename_i k1 k2 x h1
   simp only[x0o,TypeDesc.int.injEq]at h1
   subst h1
   split at ht
   ·rename_i hk
    obtain⟨rfl,hwf⟩:=hk
    exact⟨[.int _ x],⟨_,_,rfl,⟨x,rfl,hwf⟩,rfl⟩,by simp[aC,af]⟩
   ·cases ht
  ·rename_i hu
   cases h
   unfold DataW.trod at ht;rw[hu]at ht
   split at ht<;>try (simp_all;done)
   rename_i s _
   split at ht
   ·rename_i hs
    simp only[x0o,Prod.mk.injEq]at ht
    obtain⟨rfl,rfl⟩:=ht
    simp only[DataW.weights,List.all_cons,List.all_nil,Bool.and_true,x0c]at hw
    refine⟨[.str s.data.toList],⟨_,_,rfl,⟨_,rfl,?_⟩,rfl⟩,?_⟩
    ·have:=reachBytes_lt;omega
    ·obtain⟨s⟩:=s
     simp[aC,af]
   ·cases ht
  ·rename_i e hu
   split at h
   case h_2=>cases h
   rename_i l hl
   split at h
   case isFalse=>cases h
   rename_i hk
   cases h
   unfold DataW.trod at ht;rw[hu]at ht
   split at ht<;>try (simp_all;done)
   ·refine⟨[.nils],⟨_,_,rfl,⟨[],.inr ⟨rfl,rfl⟩,by simp,by simp⟩,rfl⟩,by simp[aC,af]⟩
   ·rename_i e' a len cap h1
    simp only[x0o,TypeDesc.slice.injEq]at h1
    subst h1
    simp only at ht
    split at ht
    case isFalse=>cases ht
    rename_i hb
    rw[Option.bind_eq_some_iff]at ht
    obtain⟨xs,e1,e2⟩:=ht
    rw[x0n]at e2
    obtain⟨rest,e3,e4⟩:=e2
    simp only[Prod.mk.injEq]at e4
    obtain⟨rfl,rfl⟩:=e4
    simp only[DataW.weights,hu,List.all_cons,List.all_append,x0a,x0c]at hw
    obtain⟨w1,w2,w3⟩:=hw
    rw[List.range_eq_range']at e1
    obtain⟨es,vs,g1,g2,g3,g4,g5⟩:=ou (F:=F) hk.1 (nl m n e l hl) len 0 xs e1 w2
    refine⟨[.sl es],⟨_,_,rfl,⟨es,.inl rfl,?_,g3⟩,rfl⟩,?_⟩
    ·have h5:=reachBytes_lt
     have h6:es.length*1<=(xs.length+rest.length)*P.bytesOf e:=x0U (by omega) hk.2
     simp only[x1w]at w1
     omega
    ·simp only[aC]
     refine⟨_,_,rfl,?_,rfl⟩
     simp only[af]
     refine⟨some a,cap,vs,P.cellsOf e,by rw[g1],by omega,g4,fun r hr=>by rw[(g3 r hr).length,hk.1],fun _=>⟨a,rfl,fun j v hj=>?_⟩⟩
     have:=g5 j v hj
     simpa using this
  ·rename_i fs hu
   split at h
   case h_2=>cases h
   rename_i l hl
   split at h
   case isFalse=>cases h
   rename_i hk
   cases h
   unfold DataW.trod at ht;rw[hu]at ht
   split at ht<;>try (simp_all;done)
   rename_i fs' h1
   simp only[x0o,TypeDesc.struct.injEq]at h1
   subst h1
   split at ht
   case isFalse=>cases ht
   rename_i hc
   rw[x0n]at ht
   obtain⟨xs,e1,e2⟩:=ht
   simp only[Prod.mk.injEq]at e2
   obtain⟨rfl,rfl⟩:=e2
   simp only[DataW.weights,hu]at hw
   obtain⟨ds,g1,g2⟩:=ot (F:=F) (n:=n) (fun t shs h=>nl m n t shs h) fs.toList 0 xs _ e1 hl hw (by omega)
   exact⟨ds,g1,by simpa using g2⟩
  ·cases h
theorem tj{t:TypeId}{fs:Array Field}{m:Nat}{shs:List Sh}{base:Nat}{v:Value}{d:DataW H}{ps:List MemPlace}(hu:P.underlying t=some (.struct fs))(hsh:oN P m t=some shs)(hv:Value.okWide P w .any base t v)(h:DataW.Trod enc P w 0 sp true t v d ps)(hw:(d.weights P t).all (·<=reachBytes)=true) :
  ∃ds,cb shs ds/\af F (nC w) (.agg ds) v:=by
 obtain⟨cs,rfl,_⟩:=okWide_struct hu hv
 obtain⟨n,hn⟩:=h
 obtain⟨ds,g1,g2⟩:=nl (F:=F) m n t shs hsh _ d ps hn hw
 exact⟨ds,g1,by simp only[af];exact⟨cs.toList,by simp,g2⟩⟩
theorem lL{t e:TypeId}{m:Nat}{sh:Sh}{base:Nat}{v:Value}{d:DataW H}{ps:List MemPlace}(hu:P.underlying t=some (.slice e))(hsh:oN P m t=some [sh])(hv:Value.okWide P w .any base t v)(h:DataW.Trod enc P w 0 sp true t v d ps)(hw:(d.weights P t).all (·<=reachBytes)=true) :
  ∃x,dO sh x/\af F (nC w) x v:=by
 obtain⟨a,len,cap,rfl⟩:=okWide_slice hu hv
 obtain⟨n,hn⟩:=h
 obtain⟨ds,g1,g2⟩:=nl (F:=F) m n t [sh] hsh _ d ps hn hw
 simp only[cb]at g1
 obtain⟨x,r,rfl,g3,rfl⟩:=g1
 simp only[Value.cells,aC]at g2
 obtain⟨v',r',e,g4,rfl⟩:=g2
 simp at e
 exact⟨x,g3,by rw[e];exact g4⟩
end
theorem oA{α:Type}{f:α->List D}{es:List (List D)}(h:∀e∈es,∃x,e=f x):∃xs:List α,es=xs.map f:=by
 induction es with
 | nil=>exact⟨[],rfl⟩
 | cons e es ih =>
  obtain⟨x,rfl⟩:=h e (by simp)
  obtain⟨xs,rfl⟩:=ih (fun e he=>h e (by simp[he]))
  exact⟨x::xs,rfl⟩
end Go.Gv
namespace Go.Gv
def Ek(P:Program)(F:Fid)(prog:Nat->Option ap)(tbl:List (Nat×Nat)):Bool:=tbl.all fun p=>nY P p.2&&match prog p.1 with
 | some nf=>dS P F p.2 nf
 | none=>true
theorem wu{tbl:List (Nat×Nat)}{g f:Nat}(h:tbl.lookup g=some f):(g,f)∈tbl:=by
 induction tbl with
 | nil=>cases h
 | cons p r ih =>
  obtain⟨a,b⟩:=p
  rw[x0l]at h
  cases e:g==a with
  | true=>rw[e]at h;simp at e h;subst e;subst h;simp
  | false=>rw[e]at h;simp[ih h]
theorem seat{P:Program}{tbl:List (Nat×Nat)}{ty:Nat->TypeId}{prog:Nat->Option ap}(hm:P.follows .mixedOrders=true)(hl:laidOutB P=true)(h:Ek P ⟨P,fun g=>tbl.lookup g,ty,fun _=>.nilIface⟩ prog tbl=true) :
  bU P ⟨P,fun g=>tbl.lookup g,ty,fun _=>.nilIface⟩ (im P ⟨P,fun g=>tbl.lookup g,ty,fun _=>.nilIface⟩)/\ay prog (im P ⟨P,fun g=>tbl.lookup g,ty,fun _=>.nilIface⟩):=by
 have key:∀g f,tbl.lookup g=some f->nY P f=true/\∀nf,prog g=some nf->dS P ⟨P,fun g=>tbl.lookup g,ty,fun _=>.nilIface⟩ f nf=true:=fun g f e=>by
  have:=x0g.1 h _ (wu e)
  simp only[x0a]at this
  refine⟨this.1,fun nf hnf=>?_⟩
  have:=this.2
  rw[hnf]at this
  exact this
 exact sP hm (fun g f e=>(key g f e).1) hl rfl (fun g f nf e hp=>(key g f e).2 nf hp)
end Go.Gv

namespace Go.Gv
open Go.Proofs
def TryzTbl : List (Nat × Nat) := [(0, 2), (537, 3), (153, 5), (572, 6), (155, 7), (578, 8), (579, 9), (580, 10), (581, 11), (434, 12), (158, 17), (157, 18), (156, 19), (453, 20), (617, 21), (455, 22), (154, 23), (45, 24), (159, 25), (164, 26), (491, 27), (622, 28), (493, 29), (623, 30), (618, 31), (624, 32), (175, 33), (625, 34), (626, 35), (619, 36), (458, 37), (501, 38), (192, 39), (620, 40), (462, 41), (477, 42), (621, 43), (169, 45), (160, 47), (161, 48), (163, 49), (162, 50), (181, 51), (52, 52), (168, 53), (170, 54), (171, 55), (509, 56), (510, 57), (433, 58), (44, 59), (641, 60), (642, 61), (315, 62), (643, 63), (644, 64), (471, 65), (428, 66), (488, 67), (194, 68), (467, 69), (440, 70), (645, 71), (431, 72), (191, 73), (646, 74), (198, 75), (193, 76), (176, 77), (166, 78), (167, 79), (47, 80), (165, 81), (58, 82), (172, 83), (173, 84), (174, 85), (177, 86), (178, 87), (72, 88), (179, 89), (180, 90), (182, 91), (470, 92), (472, 93), (51, 94), (333, 95), (499, 96), (460, 97), (461, 98), (54, 99), (507, 100), (199, 101), (508, 102), (200, 103), (201, 104), (427, 105), (33, 106), (465, 107), (479, 108), (466, 109), (195, 110), (85, 111), (82, 112), (83, 113), (49, 114), (196, 115), (197, 116), (91, 117), (53, 118), (60, 119), (61, 120), (70, 121), (71, 122), (11, 123), (183, 124), (184, 125), (89, 126), (185, 127), (503, 128), (504, 129), (59, 130), (339, 131), (492, 132), (494, 133), (495, 134), (496, 135), (497, 136), (62, 137), (63, 138), (64, 139), (459, 140), (429, 141), (48, 142), (468, 143), (94, 144), (87, 145), (95, 146), (202, 147), (50, 148), (73, 149), (74, 150), (75, 151), (76, 152), (77, 153), (88, 154), (35, 155), (514, 156), (515, 157), (516, 158), (517, 159), (518, 160), (519, 161), (511, 162), (78, 163), (79, 164), (489, 165), (490, 166), (55, 167), (502, 168), (56, 169), (57, 170), (90, 171), (92, 172), (522, 173), (366, 174), (523, 175), (411, 176), (524, 177), (513, 180), (65, 181), (66, 182), (67, 183), (68, 184), (69, 185), (96, 186), (97, 187), (98, 188), (99, 189), (100, 190), (101, 191), (102, 192), (299, 195), (80, 197), (81, 198), (84, 199), (86, 200), (103, 201), (104, 202), (105, 203), (106, 204), (107, 205), (108, 206), (109, 207), (110, 208), (111, 209), (93, 220), (112, 221), (113, 222)]
def TryzTys : List (Nat × Nat) := [(0, 9), (1, 4)]
set_option maxRecDepth 100000 in
theorem Tryz_all : Ek Tryz.prog ⟨Tryz.prog, fun g => TryzTbl.lookup g, fun t => (TryzTys.lookup t).getD 0, fun _ => .nilIface⟩ prog TryzTbl = true := by kernel_rfl
end Go.Gv

namespace Go.Proofs
open Go.Shelf
def Tryz.lays189_ren : Go.Shelf.Ren := ⟨fun | 189 => 174 | 125 => 194 | 257 => 193 | 128 => 218 | 129 => 209 | 294 => 210 | 295 => 211 | 296 => 212 | 297 => 213 | 298 => 214 | 299 => 215 | 216 => 176 | 300 => 216 | 301 => 217 | 328 => 225 | 329 => 226 | 330 => 227 | 331 => 228 | 332 => 229 | 215 => 195 | 343 => 230 | n => n, fun | 28 => 45 | 3 => 3 | 46 => 126 | 0 => 0 | 51 => 155 | 53 => 111 | 4 => 4 | 183 => 229 | 182 => 228 | 131 => 176 | 5 => 5 | 9 => 9 | 218 => 237 | 222 => 103 | 228 => 242 | 229 => 38 | n => n, fun | n => n⟩
theorem Tryz.lays189 : Go.Proofs.Lays.n189 Tryz.prog Tryz.lays189_ren := {
 mixed := by kernel_rfl
 f125 := Tryz.func194.trans (congrArg some (by kernel_rfl))
 f128 := Tryz.func218.trans (congrArg some (by kernel_rfl))
 f129 := Tryz.func209.trans (congrArg some (by kernel_rfl))
 f189 := Tryz.func174.trans (congrArg some (by kernel_rfl))
 f215 := Tryz.func195.trans (congrArg some (by kernel_rfl))
 f216 := Tryz.func176.trans (congrArg some (by kernel_rfl))
 f257 := Tryz.func193.trans (congrArg some (by kernel_rfl))
 f294 := Tryz.func210.trans (congrArg some (by kernel_rfl))
 f295 := Tryz.func211.trans (congrArg some (by kernel_rfl))
 f296 := Tryz.func212.trans (congrArg some (by kernel_rfl))
 f297 := Tryz.func213.trans (congrArg some (by kernel_rfl))
 f298 := Tryz.func214.trans (congrArg some (by kernel_rfl))
 f299 := Tryz.func215.trans (congrArg some (by kernel_rfl))
 f300 := Tryz.func216.trans (congrArg some (by kernel_rfl))
 f301 := Tryz.func217.trans (congrArg some (by kernel_rfl))
 f328 := Tryz.func225.trans (congrArg some (by kernel_rfl))
 f329 := Tryz.func226.trans (congrArg some (by kernel_rfl))
 f330 := Tryz.func227.trans (congrArg some (by kernel_rfl))
 f331 := Tryz.func228.trans (congrArg some (by kernel_rfl))
 f332 := Tryz.func229.trans (congrArg some (by kernel_rfl))
 f343 := Tryz.func230.trans (congrArg some (by kernel_rfl))
 t0 := Tryz.underlying0
 a0 := Tryz.isAgg0
 z0 := Tryz.sizeOf0
 v0 := Tryz.zeroValue0
 t3 := Tryz.underlying3
 a3 := Tryz.isAgg3
 z3 := Tryz.sizeOf3
 v3 := Tryz.zeroValue3
 t4 := Tryz.underlying4
 a4 := Tryz.isAgg4
 z4 := Tryz.sizeOf4
 v4 := Tryz.zeroValue4
 t5 := Tryz.underlying5
 a5 := Tryz.isAgg5
 z5 := Tryz.sizeOf5
 v5 := Tryz.zeroValue5
 t9 := Tryz.underlying9
 a9 := Tryz.isAgg9
 z9 := Tryz.sizeOf9
 v9 := Tryz.zeroValue9
 t28 := Tryz.underlying45
 a28 := Tryz.isAgg45
 z28 := Tryz.sizeOf45
 v28 := Tryz.zeroValue45
 t46 := Tryz.underlying126
 a46 := Tryz.isAgg126
 z46 := Tryz.sizeOf126
 v46 := Tryz.zeroValue126
 t51 := Tryz.underlying155
 a51 := Tryz.isAgg155
 z51 := Tryz.sizeOf155
 v51 := Tryz.zeroValue155
 t53 := Tryz.underlying111
 a53 := Tryz.isAgg111
 z53 := Tryz.sizeOf111
 v53 := Tryz.zeroValue111
 t131 := Tryz.underlying176
 a131 := Tryz.isAgg176
 z131 := Tryz.sizeOf176
 v131 := Tryz.zeroValue176
 t182 := Tryz.underlying228
 a182 := Tryz.isAgg228
 z182 := Tryz.sizeOf228
 v182 := Tryz.zeroValue228
 t183 := Tryz.underlying229
 a183 := Tryz.isAgg229
 z183 := Tryz.sizeOf229
 v183 := Tryz.zeroValue229
 t218 := Tryz.underlying237
 a218 := Tryz.isAgg237
 z218 := Tryz.sizeOf237
 v218 := Tryz.zeroValue237
 t222 := Tryz.underlying103
 a222 := Tryz.isAgg103
 z222 := Tryz.sizeOf103
 v222 := Tryz.zeroValue103
 t228 := Tryz.underlying242
 a228 := Tryz.isAgg242
 z228 := Tryz.sizeOf242
 v228 := Tryz.zeroValue242
 t229 := Tryz.underlying38
 a229 := Tryz.isAgg38
 z229 := Tryz.sizeOf38
 v229 := Tryz.zeroValue38 }
def Tryz.laysNm220_ren : Go.Shelf.Ren := ⟨fun | 20 => 175 | n => n, fun | 22 => 45 | 3 => 3 | 4 => 4 | 0 => 0 | n => n, fun | n => n⟩
theorem Tryz.laysNm220 : Go.Proofs.Lays2.n20 Tryz.prog Tryz.laysNm220_ren := {
 mixed := by kernel_rfl
 f20 := Tryz.func175.trans (congrArg some (by kernel_rfl))
 t0 := Tryz.underlying0
 a0 := Tryz.isAgg0
 z0 := Tryz.sizeOf0
 v0 := Tryz.zeroValue0
 t3 := Tryz.underlying3
 a3 := Tryz.isAgg3
 z3 := Tryz.sizeOf3
 v3 := Tryz.zeroValue3
 t4 := Tryz.underlying4
 a4 := Tryz.isAgg4
 z4 := Tryz.sizeOf4
 v4 := Tryz.zeroValue4
 t22 := Tryz.underlying45
 a22 := Tryz.isAgg45
 z22 := Tryz.sizeOf45
 v22 := Tryz.zeroValue45
 i3 := by kernel_rfl }
def Tryz.laysNm221_ren : Go.Shelf.Ren := ⟨fun | 21 => 161 | 27 => 178 | 28 => 179 | 35 => 196 | 39 => 219 | n => n, fun | 22 => 45 | 3 => 3 | 4 => 4 | 0 => 0 | n => n, fun | n => n⟩
theorem Tryz.laysNm221 : Go.Proofs.Lays2.n21 Tryz.prog Tryz.laysNm221_ren := {
 mixed := by kernel_rfl
 f21 := Tryz.func161.trans (congrArg some (by kernel_rfl))
 f27 := Tryz.func178.trans (congrArg some (by kernel_rfl))
 f28 := Tryz.func179.trans (congrArg some (by kernel_rfl))
 f35 := Tryz.func196.trans (congrArg some (by kernel_rfl))
 f39 := Tryz.func219.trans (congrArg some (by kernel_rfl))
 t0 := Tryz.underlying0
 a0 := Tryz.isAgg0
 z0 := Tryz.sizeOf0
 v0 := Tryz.zeroValue0
 t3 := Tryz.underlying3
 a3 := Tryz.isAgg3
 z3 := Tryz.sizeOf3
 v3 := Tryz.zeroValue3
 t4 := Tryz.underlying4
 a4 := Tryz.isAgg4
 z4 := Tryz.sizeOf4
 v4 := Tryz.zeroValue4
 t22 := Tryz.underlying45
 a22 := Tryz.isAgg45
 z22 := Tryz.sizeOf45
 v22 := Tryz.zeroValue45
 i3 := by kernel_rfl }
end Go.Proofs

namespace Go.Gv
open Go.Sort
section
variable{P:Program}{F:Fid}{α:Type}[Inhabited α]
def kD(encD:α->D)(d:Array α):List (List D):=d.toList.map fun x=>[encD x]
theorem o7{f:FuncId}(enc:α->Value)(encD:α->D)(hflat:∀M x u,af F M (encD x) u->u=enc x)(hrep:∀M x,af F M (encD x) (enc x))(d d':Array α)(hsz:d'.size=d.size)(ds:List D)
  (hnone:d.size=0->∀(M:Mem) (w:World) (vs:List Value) (A:Option Addr),(∀p v,M p=some v->w.cell? p=some v)->aC F M ds vs->Calls P f (.slice A 0 0::vs).toArray w fun e w'=>e=.returned (.tuple #[])/\∃n os,w'=grow (Sort.ahead w n) os)
  (hrun:∀(M:Mem) (w:World) (vs:List Value) (blk off cap:Nat),(∀p v,M p=some v->w.cell? p=some v)->(∀p:Addr,p.block=blk->M p=none)->aC F M ds vs->Holds enc w blk off d->blk<w.heap.size ->
   Calls P f (.slice (some ⟨blk,off,none⟩) d.size cap::vs).toArray w fun e w'=>e=.returned (.tuple #[])/\∃n os,w'=grow (putRow enc (Sort.ahead w n) blk off d') os):xD P F f 1 (kD encD d) ds (kD encD d'):=by
 intro M w vs hh r
 have hl:(kD encD d).length=d.size:=by simp[kD]
 refine⟨fun e A=>?_,fun b o T us cap hM hb hcell hcap hle hu hc=>?_⟩
 ·have h0:d.size=0:=by rw[<- hl,e];rfl
  refine(hnone h0 M w vs A hh r).mono ?_
  rintro e0 w' ⟨rfl,n,os,rfl⟩
  exact⟨rfl,rfl,rfl,rfl,by simp[grow,Sort.ahead],fun k hk=>by simp only[grow,Sort.ahead];rw[Array.getElem?_append_left hk],Nat.le_add_right _ _⟩
 ·rw[hl]at hcap ⊢
  have hH:Holds enc w b o d:=fun j hj=>by
   obtain⟨u,k1,k2⟩:=hc j [encD d[j]] 0 (encD d[j]) (by simp[kD,hj]) rfl
   have:=hflat _ _ _ k2
   subst this
   have e1:d[j]! = d[j]:=x0f d j hj
   rw[e1]
   have k3:us[o+j]? = some (enc d[j]):=by simpa using k1
   constructor
   ·simp[World.cell?,hcell,k3]
   ·simp[World.frozen?,hcell]
  refine(hrun M w vs b o cap hh hM r hH hb).mono ?_
  rintro e0 w' ⟨rfl,n,os,rfl⟩
  have hput:(grow (putRow enc (Sort.ahead w n) b o d') os).heap[b]? = some (.cells (putCells enc o d' us.toArray) T (0,0)):=by
   simp only[grow,putRow,mapBlock,Sort.ahead]
   rw[Array.getElem?_append_left (by simpa using hb),x1P,if_pos rfl,hcell]
   rfl
  refine⟨rfl,(putCells enc o d' us.toArray).toList,by rw[x0W];exact hput,by simp[putCells],fun i r off x hi hr=>?_,⟨rfl,rfl,rfl,by simp[grow,putRow,mapBlock,Sort.ahead],fun k hk hne=>?_,Nat.le_add_right _ _⟩⟩
  ·simp only[kD,x0B,x0n]at hi
   obtain⟨y,h1,rfl⟩:=hi
   have ho:off=0:=by
    have:=(x0b.1 hr).1
    simpa using this
   subst ho
   simp only[x01,x0o]at hr
   subst hr
   have hi2:i<d'.size:=by have:=(x0b.1 h1).1;simpa using this
   have hy:d'[i]! = y:=by
    rw[x0f d' i hi2]
    have:=(x0b.1 h1).2
    simpa using this
   refine⟨enc y,?_,hrep _ _⟩
   have hlt:o+i<us.length:=by
    have:o+cap*1<=us.length:=hle
    omega
   rw[Nat.mul_one,x0Z,Array.getElem?_toList]
   simp only[putCells,Array.getElem?_mapIdx,x1d]
   rw[x0e hlt]
   simp only[x1h]
   rw[if_pos ⟨by omega,by omega⟩,show o+i-o=i by omega,hy]
  ·simp only[grow,putRow,mapBlock,Sort.ahead]
   rw[Array.getElem?_append_left (by simpa using hk),x1P,if_neg (Ne.symm hne)]
end
end Go.Gv

namespace Go.Gv
open Go.Sort Go.Proofs Go.Shelf
section
variable{P:Program}{F:Fid}{ρ:Ren}
def BO(zs:List Int):List (List D):=zs.map fun n=>[.int .i64 n]
theorem jg{zs:List Int}{i:Nat}{r:List D}{off:Nat}{d:D}(h1:(BO zs)[i]? = some r)(h2:r[off]? = some d):∃x,zs[i]? = some x/\off=0/\d=.int .i64 x:=by
 simp only[BO,x0B,x0n]at h1
 obtain⟨x,h1,rfl⟩:=h1
 have ho:off=0:=by have:=(x0b.1 h2).1;simpa using this
 subst ho
 simp only[x01,x0o]at h2
 exact⟨x,h1,rfl,h2.symm⟩
theorem nR{M:Mem}{zs:List Int}{us:List Value}{o:Nat}(hc:∀i r off d,(BO zs)[i]? = some r->r[off]? = some d->∃u,us[o+i*1+off]? = some u/\af F M d u):∀j x,zs[j]? = some x->us[o+j]? = some (.int .i64 x):=by
 intro j x hj
 obtain⟨u,k1,k2⟩:=hc j [.int .i64 x] 0 (.int .i64 x) (by simp[BO,hj]) rfl
 simp only[af]at k2
 subst k2
 simpa using k1
theorem oE(Ly:Lays.n189 P ρ){g:Nat}(hg:∀f,F g=some f->f=ρ.f 189)(zs:List Int)(hz:zs.length<2^40) :
  im P F g [.own 1 (zs.map fun n=>[.int .i64 n])] .any [.own 1 ((zs.mergeSort fun x y=>decide (x<=y)).map fun n=>[.int .i64 n]),.nilp]:=by
 refine⟨trivial,fun f hf=>⟨rfl,?_⟩⟩
 obtain rfl:=hg f hf
 have k:=o7 (P:=P) (F:=F) (f:=ρ.f 189) (Value.int .i64) (D.int .i64) (fun M x u h=>by simpa only[af]using h) (fun M x=>by simp only[af]) zs.toArray (zs.mergeSort fun x y=>decide (x<=y)).toArray (by simp[List.length_mergeSort]) []
  (fun h M w vs A hh r=>by
   simp only[aC]at r
   subst r
   refine(Any.slices_Sort_int_none Ly A 0 w).mono ?_
   rintro e w' ⟨rfl,rfl⟩
   exact⟨rfl,0,#[],by simp[grow,Sort.ahead]⟩)
  (fun M w vs blk off cap hh hM r hH hb=>by
   simp only[aC]at r
   subst r
   have:=Any.slices_Sort_int Ly blk off cap zs w hH hb (by omega)
   simpa using this)
 simpa[kD]using k
theorem o6(L:Lays2.n20 P ρ){g:Nat}(hg:∀f,F g=some f->f=ρ.f 20)(zs:List Int)(hz:zs.length<2^40) :
  im P F g [.own 1 (zs.map fun n=>[.int .i64 n])] .any [.own 1 ((Lib.compact zs).map fun n=>[.int .i64 n]),.nils,.nils]:=by
 refine⟨trivial,fun f hf=>⟨rfl,?_⟩⟩
 obtain rfl:=hg f hf
 refine qc.to ?_
 intro M w vs hh
 have nil:∀{b:Option Nat},mo F M w b [] vs->vs=[]:=fun h=>x0P h.1.symm
 refine⟨fun e A r=>?_,fun b o T us cap r hM hb hcell hcap hmc hle hu hc=>?_⟩
 ·rw[nil r]
  have h0:zs=[]:=by simpa using e
  subst h0
  refine(Any.slices_Compact_int_empty L A 0 w).mono ?_
  rintro e w' ⟨rfl,rfl⟩
  exact⟨_,rfl,Bel.refl _,.inl ⟨rfl,A,rfl⟩⟩
 ·rw[nil r]
  have hget:=nR hc
  have hl:(zs.map fun n=>[D.int .i64 n]).length=zs.length:=by simp
  rw[hl]at hcap ⊢
  have hH:Holds (Value.int .i64) w b o zs.toArray:=fun j hj=>by
   have hj2:j<zs.length:=by simpa using hj
   have e1:zs.toArray[j]! = zs[j]:=by rw[x0f zs.toArray j hj];simp
   have k3:=hget j zs[j] (x0e hj2)
   rw[e1]
   exact⟨by simp[World.cell?,hcell,k3],by simp[World.frozen?,hcell]⟩
  obtain⟨d',hd'⟩:∃d',d'=(Lib.compact zs++List.replicate (zs.length-(Lib.compact zs).length) 0).toArray:=⟨_,rfl⟩
  have hcl:(Lib.compact zs).length<=zs.length:=by
   unfold Lib.compact Lib.compactUpTo
   rw[x1w]
   have:=x1e (Lib.keeps zs.toArray) (List.range zs.length)
   simpa using this
  have hsz:d'.size=zs.length:=by rw[hd'];simp;omega
  refine(Any.slices_Compact_int L b o cap zs w hH (by omega) hcap).mono ?_
  rintro e w' ⟨rfl,q,rfl⟩
  rw[<- hd']
  have hput:(putRow (Value.int .i64) (Sort.ahead w q) b o d').heap[b]? = some (.cells (putCells (Value.int .i64) o d' us.toArray) T (0,0)):=by
   simp only[putRow,mapBlock,Sort.ahead]
   rw[x1P,if_pos rfl,hcell]
   rfl
  refine⟨_,rfl,(putCells (Value.int .i64) o d' us.toArray).toList,by rw[x0W];exact hput,by simp[putCells],⟨rfl,rfl,rfl,by simp[putRow,mapBlock,Sort.ahead],fun k hk hne=>?_,Nat.le_add_right _ _⟩,.inl ⟨by simp,by simp;omega,fun i r off d h1 h2=>?_⟩⟩
  ·simp only[putRow,mapBlock,Sort.ahead]
   rw[x1P,if_neg (Ne.symm hne)]
  ·obtain⟨x,h3,rfl,rfl⟩:=jg h1 h2
   have hi:i<(Lib.compact zs).length:=(x0b.1 h3).1
   refine⟨.int .i64 x,?_,by simp only[af]⟩
   have hlt:o+i<us.length:=by omega
   have hy:d'[i]! = x:=by
    rw[x0f d' i (by omega)]
    have:d'[i]? = some x:=by rw[hd'];simp[x0w hi,h3]
    exact(Array.getElem?_eq_some_iff.1 this).2
   rw[Nat.mul_one,x0Z,Array.getElem?_toList]
   simp only[putCells,Array.getElem?_mapIdx,x1d]
   rw[x0e hlt]
   simp only[x1h]
   rw[if_pos ⟨by omega,by omega⟩,show o+i-o=i by omega,hy]
theorem m5{zs:List Int}{i:Nat}(hi:i<=zs.length)(x:Int)(j:Nat):(zs.take i++x::zs.drop i)[j]? = if j<i then zs[j]? else if j=i then some x else zs[j-1]?:=by
 have hl:(zs.take i).length=i:=by simp;omega
 by_cases h1:j<i
 ·rw[if_pos h1,x0w (by omega),x0D h1]
 ·rw[if_neg h1,x0y (by omega),hl]
  by_cases h2:j=i
  ·subst h2;simp
  ·rw[if_neg h2,show j-i=(j-i-1)+1 by omega,List.getElem?_cons_succ,x0x]
   congr 1
   omega
theorem qV(L:Lays2.n21 P ρ){g:Nat}(hg:∀f,F g=some f->f=ρ.f 21)(zs:List Int)(i:Nat)(x:Int)(hi:i<=zs.length)(hz:zs.length<2^40) :
  im P F g [.own 1 (zs.map fun n=>[.int .i64 n]),.int .i64 i,.own 1 [[.int .i64 x]]] .any [.own 1 ((zs.take i++x::zs.drop i).map fun n=>[.int .i64 n]),.nils,.nils]:=by
 refine⟨trivial,fun f hf=>⟨rfl,?_⟩⟩
 obtain rfl:=hg f hf
 refine qc.to ?_
 intro M w vs hh
 have args:∀{b:Option Nat},mo F M w b [.int .i64 i,.own 1 [[.int .i64 x]]] vs->∃(B o:Nat) (T:TypeId) (us:List Value) (cap:Nat),vs=[.int .i64 i,.slice (some ⟨B,o,none⟩) 1 cap]/\b≠some B/\w.heap[B]? = some (.cells us.toArray T (0,0))/\us[o]? = some (.int .i64 x):=by
  rintro b ⟨h1,h2⟩
  match vs,h1 with
  | [v0,v1],_ =>
   have a:=h2 0 _ _ rfl rfl
   have c:=h2 1 _ _ rfl rfl
   simp only[Er,af]at a
   subst a
   rcases c with ⟨e,_⟩|⟨B,o,T,us,cap,rfl,h3,h4,h5,h6,h7⟩
   ·cases e
   ·obtain⟨u,k1,k2⟩:=h7 0 [.int .i64 x] 0 (.int .i64 x) rfl rfl
    simp only[af]at k2
    subst k2
    exact⟨B,o,T,us,cap,rfl,h3,h4,by simpa using k1⟩
 have cellOf:∀{w:World} {b:Nat} {us:List Value} {T:TypeId} {k:Nat} {v:Value},w.heap[b]? = some (.cells us.toArray T (0,0))->us[k]? = some v->w.cell? ⟨b,k,none⟩=some v:=fun h1 h2=>by simp[World.cell?,h1,h2]
 have frz:∀{w:World} {b:Nat} {us:List Value} {T:TypeId} {k:Nat},w.heap[b]? = some (.cells us.toArray T (0,0))->w.frozen? ⟨b,k,none⟩=false:=fun h1=>by simp[World.frozen?,h1]
 have one:∀v∈[Value.int .i64 x],v.oneCell'=true:=by intro v hv;simp at hv;subst hv;rfl
 have hzc:(Value.int .i64 0).cells.size=1:=rfl
 refine⟨fun e A r=>?_,fun b o T us cap r hM hb hcell hcap hmc hle hu hc=>?_⟩
 ·obtain⟨B,o,T,us,cap,rfl,_,h4,h5⟩:=args r
  have h0:zs=[]:=by simpa using e
  subst h0
  have hi0:i=0:=by simpa using hi
  subst hi0
  refine(Any2.slices_Insert_int_end_grow L A 0 0 B o 1 cap [] [.int .i64 x] w (by omega) (by omega) (by omega) (by omega) rfl rfl (fun _=>rfl) (fun a _ j v hj=>by simp at hj) (fun j v hj=>by
   cases j with
   | zero=>simp at hj;subst hj;exact cellOf h4 (by simpa using h5)
   | succ j=>simp at hj) one).mono ?_
  rintro e w' ⟨rfl,rfl⟩
  obtain⟨G,hG⟩:∃G,G=grownCap w (0+1) 0 (ρ.t 3):=⟨_,rfl⟩
  have g1:=grownCap_ge w (0+1) 0 (ρ.t 3)
  have g2:=grownCap_le_maxLen w (0+1) 0 (ρ.t 3) (by decide)
  rw[<- hG]at g1 g2 ⊢
  refine⟨_,rfl,Bel.drewAlloc _ _,.inr ⟨w.heap.size,0,ρ.t 3,(([]++[Value.int .i64 x]).toArray++Builtin.zeroCells (Value.int .i64 0).cells (G-(0+1))).toList,G,by simp,x0r _,?_,by simpa using g1,⟨?_,g2⟩,fun j r' off d h1 h2=>?_⟩⟩
  ·rw[x0W];exact heap_alloc_new w.drew _
  ·simp[size_zeroCells,hzc];omega
  ·obtain⟨y,h3,rfl,rfl⟩:=jg h1 h2
   cases j with
   | zero=>simp at h3;subst h3;exact⟨.int .i64 x,by simp,by simp only[af]⟩
   | succ j=>simp at h3
 ·obtain⟨B,o',T',us',cap',rfl,hne,h4,h5⟩:=args r
  have hBb:B≠b:=fun e=>hne (by rw[e])
  have hget:=nR hc
  have hl:(zs.map fun n=>[D.int .i64 n]).length=zs.length:=by simp
  have hlr:((zs.take i++x::zs.drop i).map fun n=>[D.int .i64 n]).length=zs.length+1:=by simp;omega
  rw[hl]at hcap ⊢
  rw[hlr]
  have hcs:∀j v,(zs.map (Value.int .i64))[j]? = some v->w.cell? ⟨b,o+j,none⟩=some v:=fun j v hj=>by
   rw[x0B,x0n]at hj
   obtain⟨y,hj,rfl⟩:=hj
   exact cellOf hcell (hget j y hj)
  have hvs:∀j v,[Value.int .i64 x][j]? = some v->w.cell? ⟨B,o'+j,none⟩=some v:=fun j v hj=>by
   cases j with
   | zero=>simp at hj;subst hj;exact cellOf h4 (by simpa using h5)
   | succ j=>simp at hj
  have h1c:∀v∈zs.map (Value.int .i64),v.oneCell'=true:=by
   intro v hv
   obtain⟨y,_,rfl⟩:=x0v.1 hv
   rfl
  have hus:o+cap<=us.length:=by simpa using hle
  have here:∀j,j<zs.length+1->zs.length+1<=cap->(w.cell? ⟨b,o+j,none⟩).isSome=true:=fun j hj hr=>by
   have hlt:o+j<us.length:=by omega
   rw[cellOf hcell (x0e hlt)];rfl
  by_cases hroom:zs.length+1<=cap
  ·-- in place
   have fin:∀(w':World) (us2:List Value) (n:Nat),us2.length=us.length->w'.heap[b]? = some (.cells us2.toArray T (0,0))->(∀k,k≠b->w'.heap[k]? = w.heap[k]?)->w'.heap.size=w.heap.size->w'.os=w.os->w'.tape=w.tape->w'.output=w.output->w'.drawn=w.drawn+n ->
     (∀j y,(zs.take i++x::zs.drop i)[j]? = some y->us2[o+j]? = some (.int .i64 y)) ->
     ∃v,Ending.returned (Value.slice (some ⟨b,o,none⟩) (zs.length+1) cap)=.returned v/\∃us2:List Value,w'.heap[b]? = some (.cells us2.toArray T (0,0))/\us2.length=us.length/\Ch (fun k=>k=b) w w' /\
      ((v=.slice (some ⟨b,o,none⟩) (zs.length+1) cap/\zs.length+1<=cap/\∀i' r off d,((zs.take i++x::zs.drop i).map fun n=>[D.int .i64 n])[i']? = some r->r[off]? = some d->∃u,us2[o+i'*1+off]? = some u/\af F M d u)\/gH F M w w' 1 ((zs.take i++x::zs.drop i).map fun n=>[D.int .i64 n]) v):=by
    intro w' us2 n e1 e2 e3 e4 e5 e6 e7 e8 e9
    refine⟨_,rfl,us2,e2,e1,⟨e5,e6,e7,Nat.le_of_eq e4.symm,fun k _ hk=>e3 k hk,by omega⟩,.inl ⟨rfl,hroom,fun j r' off d h1 h2=>?_⟩⟩
    obtain⟨y,h3,rfl,rfl⟩:=jg h1 h2
    exact⟨.int .i64 y,by simpa using e9 j y h3,by simp only[af]⟩
   rcases Nat.lt_or_eq_of_le hi with hlt|heq
   ·refine(Any2.slices_Insert_int_shift L b o zs.length cap i B o' 1 cap' (zs.map (Value.int .i64)) [.int .i64 x] w hlt (by omega) hroom hmc hBb (by simp) rfl hcs (fun j hj=>here j hj hroom) (fun j _=>frz hcell) hvs h1c one T' T us'.length us.length
     (by simp[World.shape?,h4]) (by simp[World.shape?,hcell]) (by omega) (frz h4) (frz h4)).mono ?_
    rintro e w' ⟨rfl,rfl⟩
    have hdl:((zs.map (Value.int .i64)).drop i).length=zs.length-i:=by simp
    obtain⟨s1,s2,s3,s4,s5,s6,s7⟩:=ce b T ((zs.map (Value.int .i64)).drop i) (o+(i+1)) us w.drew (by exact hcell) (by rw[hdl];omega)
    obtain⟨us1,hu1⟩:∃us1,us1=us.take (o+(i+1))++(zs.map (Value.int .i64)).drop i++us.drop (o+(i+1)+((zs.map (Value.int .i64)).drop i).length):=⟨_,rfl⟩
    rw[<- hu1]at s1
    have hl1:us1.length=us.length:=by rw[hu1];simp;omega
    obtain⟨t1,t2,t3,t4,t5,t6,t7⟩:=ce b T [Value.int .i64 x] (o+i) us1 _ s1 (by simp;omega)
    have g1:=fun y=>cG (vs:=us) (us:=(zs.map (Value.int .i64)).drop i) (q:=o+(i+1)) (n:=zs.length-i) (x:=y) hdl (by omega)
    have g2:=fun y=>cG (vs:=us1) (us:=[Value.int .i64 x]) (q:=o+i) (n:=1) (x:=y) rfl (by omega)
    rw[hdl]at hu1
    rw[<- hu1]at g1
    refine fin _ _ 1 (by simp;omega) t1 (fun k hk=>(t2 k hk).trans (s2 k hk)) (t3.trans s3) (t4.trans s4) (t5.trans s5) (t6.trans s6) (t7.trans s7) (fun j y hj=>?_)
    have hjl:j<zs.length+1:=by have:=(x0b.1 hj).1;simp at this;omega
    rw[m5 hi]at hj
    show(us1.take (o+i)++[Value.int .i64 x]++us1.drop (o+i+1))[o+j]? = _
    rw[g2]
    by_cases c1:j<i
    ·rw[if_pos c1]at hj
     rw[if_neg (by omega),g1,if_neg (by omega)]
     exact hget j y hj
    ·rw[if_neg c1]at hj
     by_cases c2:j=i
     ·subst c2
      rw[if_pos rfl]at hj
      rw[if_pos (by omega)]
      cases hj
      simp
     ·rw[if_neg c2]at hj
      rw[if_neg (by omega),g1,if_pos (by omega),x0x,show i+(o+j-(o+(i+1)))=j-1 by omega,x0B,hj]
      rfl
   ·subst heq
    refine(Any2.slices_Insert_int_end_room L b o zs.length cap B o' 1 cap' [.int .i64 x] w (by omega) hroom hmc rfl (fun j hj=>by
     have:=here (zs.length+j) (by omega) hroom
     rwa[<- x0N]at this) (fun j _=>frz hcell) hvs one).mono ?_
    rintro e w' ⟨rfl,rfl⟩
    obtain⟨t1,t2,t3,t4,t5,t6,t7⟩:=ce b T [Value.int .i64 x] (o+zs.length) us w hcell (by simp;omega)
    have g2:=fun y=>cG (vs:=us) (us:=[Value.int .i64 x]) (q:=o+zs.length) (n:=1) (x:=y) rfl (by omega)
    refine fin _ _ 0 (by simp;omega) t1 t2 t3 t4 t5 t6 t7 (fun j y hj=>?_)
    have hjl:j<zs.length+1:=by have:=(x0b.1 hj).1;simp at this;omega
    rw[m5 (x0r _)]at hj
    show(us.take (o+zs.length)++[Value.int .i64 x]++us.drop (o+zs.length+1))[o+j]? = _
    rw[g2]
    by_cases c1:j<zs.length
    ·rw[if_pos c1]at hj
     rw[if_neg (by omega)]
     exact hget j y hj
    ·have c2:j=zs.length:=by omega
     rw[if_neg c1,if_pos c2]at hj
     rw[if_pos (by omega)]
     cases hj
     rw[c2]
     simp
  ·-- a new row
   have hroom':cap<zs.length+1:=by omega
   obtain⟨G,hG⟩:∃G,G=grownCap w (zs.length+1) cap (ρ.t 3):=⟨_,rfl⟩
   have g1:=grownCap_ge w (zs.length+1) cap (ρ.t 3)
   have g2:=grownCap_le_maxLen w (zs.length+1) cap (ρ.t 3) (by unfold maxLen;omega)
   rcases Nat.lt_or_eq_of_le hi with hlt|heq
   ·refine(Any2.slices_Insert_int_grow L b o zs.length cap i B o' 1 cap' (zs.map (Value.int .i64)) [.int .i64 x] w hlt (by omega) hcap hroom' (by omega) (by simp) rfl hcs hvs h1c one).mono ?_
    rintro e w' ⟨rfl,rfl⟩
    rw[<- hG]at g1 g2 ⊢
    have hdl:((zs.map (Value.int .i64)).drop i).length=zs.length-i:=by simp
    obtain⟨row,hrow⟩:∃row:Array Value,row=((zs.map (Value.int .i64)).take i).toArray++Builtin.zeroCells (Value.int .i64 0).cells (zs.length+1-i)++Builtin.zeroCells (Value.int .i64 0).cells (G-(zs.length+1)):=⟨_,rfl⟩
    rw[<- hrow]
    have hrl:row.toList.length=G:=by rw[hrow];simp[size_zeroCells,hzc];omega
    have hnew:((w.alloc (.cells row (ρ.t 3))).drew).heap[w.heap.size]? = some (.cells row.toList.toArray (ρ.t 3) (0,0)):=by
     rw[x0W];exact heap_alloc_new w _
    obtain⟨s1,s2,s3,s4,s5,s6,s7⟩:=ce w.heap.size (ρ.t 3) [Value.int .i64 x] i row.toList ((w.alloc (.cells row (ρ.t 3))).drew) hnew (by simp only[List.length_singleton];omega)
    obtain⟨us1,hu1⟩:∃us1,us1=row.toList.take i++[Value.int .i64 x]++row.toList.drop (i+[Value.int .i64 x].length):=⟨_,rfl⟩
    rw[<- hu1]at s1
    have hl1:us1.length=G:=by rw[hu1];simp only[x0Q,x1c,x1L,List.length_singleton,hrl];omega
    obtain⟨t1,t2,t3,t4,t5,t6,t7⟩:=ce w.heap.size (ρ.t 3) ((zs.map (Value.int .i64)).drop i) (i+1) us1 ((((w.alloc (.cells row (ρ.t 3))).drew).setCells w.heap.size i [Value.int .i64 x]).drew) s1 (by rw[hdl];omega)
    have gA:=fun y=>cG (vs:=row.toList) (us:=[Value.int .i64 x]) (q:=i) (n:=1) (x:=y) rfl (by omega)
    have gB:=fun y=>cG (vs:=us1) (us:=(zs.map (Value.int .i64)).drop i) (q:=i+1) (n:=zs.length-i) (x:=y) hdl (by omega)
    have ex:∀k,k≠w.heap.size->(w.alloc (.cells row (ρ.t 3))).heap[k]? = w.heap[k]?:=fun k hk=>by
     simp only[World.alloc]
     rw[Array.getElem?_push,if_neg hk]
    have exs:(w.alloc (.cells row (ρ.t 3))).heap.size=w.heap.size+1:=by simp only[World.alloc,Array.size_push]
    have hall:∀k,k≠w.heap.size->(((((w.alloc (.cells row (ρ.t 3))).drew).setCells w.heap.size i [Value.int .i64 x]).drew).setCells w.heap.size (i+1) ((zs.map (Value.int .i64)).drop i)).heap[k]? = w.heap[k]?:=fun k hk=>(t2 k hk).trans ((s2 k hk).trans (ex k hk))
    refine⟨_,rfl,us,(hall b (by omega)).trans hcell,rfl,⟨t4.trans s4,t5.trans s5,t6.trans s6,?_,fun k hk _=>hall k (by omega),?_⟩,.inr ⟨w.heap.size,0,ρ.t 3,_,G,by rw[hlr],x0r _,t1,by rw[hlr];exact g1,⟨?_,g2⟩,fun j r' off d h1 h2=>?_⟩⟩
    ·have:((((w.alloc (.cells row (ρ.t 3))).drew).setCells w.heap.size i [Value.int .i64 x]).drew).heap.size=w.heap.size+1:=s3.trans exs
     rw[t3,this];omega
    ·rw[t7]
     show w.drawn<=(((w.alloc (.cells row (ρ.t 3))).drew).setCells w.heap.size i [Value.int .i64 x]).drawn+1
     rw[s7]
     show w.drawn<=w.drawn+1+1
     omega
    ·simp only[x0Q,x1c,x1L,hl1,x1w];omega
    ·obtain⟨y,hj,rfl,rfl⟩:=jg h1 h2
     refine⟨.int .i64 y,?_,by simp only[af]⟩
     have hjl:j<zs.length+1:=by have:=(x0b.1 hj).1;simp at this;omega
     rw[m5 hi]at hj
     rw[x09,Nat.mul_one,x0Z,hdl,gB]
     by_cases c1:j<i
     ·rw[if_pos c1]at hj
      rw[if_neg (by omega),hu1]
      show(row.toList.take i++[Value.int .i64 x]++row.toList.drop (i+1))[j]? = _
      rw[gA,if_neg (by omega),hrow]
      have hj2:j<zs.length:=(x0b.1 hj).1
      simp only[Array.toList_append,x1E]
      rw[x0w (by simp;omega)]
      simp only[x0D c1,x0B,hj]
      rfl
     ·rw[if_neg c1]at hj
      by_cases c2:j=i
      ·subst c2
       rw[if_pos rfl]at hj
       rw[if_neg (by omega),hu1]
       show(row.toList.take j++[Value.int .i64 x]++row.toList.drop (j+1))[j]? = _
       rw[gA,if_pos (by omega)]
       cases hj
       simp
      ·rw[if_neg c2]at hj
       rw[if_pos (by omega),x0x,show i+(j+0-(i+1))=j-1 by omega,x0B,hj]
       rfl
   ·subst heq
    refine(Any2.slices_Insert_int_end_grow L (some ⟨b,o,none⟩) zs.length cap B o' 1 cap' (zs.map (Value.int .i64)) [.int .i64 x] w (by omega) hcap hroom' (by omega) (by simp) rfl (fun e=>by cases e) (fun a ha j v hj=>by
     cases ha
     rw[Addr.add_lit]
     exact hcs j v hj) hvs one).mono ?_
    rintro e w' ⟨rfl,rfl⟩
    rw[<- hG]at g1 g2 ⊢
    obtain⟨row,hrow⟩:∃row:Array Value,row=(zs.map (Value.int .i64)++[Value.int .i64 x]).toArray++Builtin.zeroCells (Value.int .i64 0).cells (G-(zs.length+1)):=⟨_,rfl⟩
    rw[<- hrow]
    have hrl:row.toList.length=G:=by rw[hrow];simp[size_zeroCells,hzc];omega
    have hbel:=Bel.drewAlloc w (.cells row (ρ.t 3))
    refine⟨_,rfl,us,(hbel.block b hb).trans hcell,rfl,Ch.of_below hbel _,.inr ⟨w.heap.size,0,ρ.t 3,row.toList,G,by rw[hlr],x0r _,by rw[x0W];exact heap_alloc_new w.drew _,by rw[hlr];exact g1,⟨by omega,g2⟩,fun j r' off d h1 h2=>?_⟩⟩
    obtain⟨y,hj,rfl,rfl⟩:=jg h1 h2
    refine⟨.int .i64 y,?_,by simp only[af]⟩
    have hjl:j<zs.length+1:=by have:=(x0b.1 hj).1;simp at this;omega
    rw[m5 (x0r _)]at hj
    rw[x09,Nat.mul_one,x0Z,hrow]
    simp only[Array.toList_append]
    rw[x0w (by simp;omega)]
    by_cases c1:j<zs.length
    ·rw[if_pos c1]at hj
     rw[x0w (by simpa using c1),x0B,hj]
     rfl
    ·have c2:j=zs.length:=by omega
     rw[if_neg c1,if_pos c2]at hj
     cases hj
     rw[x0y (by simp;omega)]
     simp[c2]
end
end Go.Gv

namespace Go.Gv
structure Tag {α:Type _} (x:α):Type where
@[simp] theorem RP:isV (.any)=true:=zR
@[simp] theorem RW{k n}:isV (.int k n)=true:=zR
@[simp] theorem MX{b}:isV (.bool b)=true:=zR
@[simp] theorem R5{s}:isV (.str s)=true:=zR
@[simp] theorem MY:isV (.nilp)=true:=zR
@[simp] theorem MZ:isV (.nils)=true:=zR
@[simp] theorem RN{ds}:isV (.agg ds)=true:=zR
@[simp] theorem R7{ds}:isV (.tup ds)=true:=zR
@[simp] theorem Uf{es}:isV (.sl es)=true:=zR
@[simp] theorem RZ{ds}:isV (.ptr ds)=true:=zR
@[simp] theorem Ud{g ds}:isV (.fn g ds)=true:=zR
@[simp] theorem RY{sz es}:isV (.own sz es)=false:=zR
@[simp] theorem RQ{sz es}:isV (.blk sz es)=false:=zR
@[simp] theorem Ue{kt et ks vs}:isV (.mp kt et ks vs)=false:=zR
@[simp] theorem RX{b}:isV (.mrf b)=false:=zR
@[simp] theorem R1{p k n}:isV (.ref p k n)=false:=zR
@[simp] theorem RM{p i off}:isV (.adr p i off)=false:=zR
@[simp] theorem RO{ds}:isV (.agx ds)=false:=zR
@[simp] theorem R6{ds}:isV (.tpx ds)=false:=zR
@[simp] theorem R0{ds}:isV (.ptx ds)=false:=zR
@[simp] theorem R2{n sz ds}:isV (.rfx n sz ds)=false:=zR
@[simp] theorem RS{g ds}:isV (.fnx g ds)=false:=zR
@[simp] theorem RU{T p i off}:isV (.ifa T p i off)=false:=zR
@[simp] theorem RV{T n}:isV (.ifi T n)=true:=zR
@[simp] theorem R3{k es}:isV (.slv k es)=true:=zR
@[simp] theorem RT{g ds cs}:isV (.fny g ds cs)=false:=zR
@[simp] theorem Qe:isK (.any)=false:=zR
@[simp] theorem Qk{k n}:isK (.int k n)=true:=zR
@[simp] theorem ML{b}:isK (.bool b)=true:=zR
@[simp] theorem Qt{s}:isK (.str s)=true:=zR
@[simp] theorem MM:isK (.nilp)=true:=zR
@[simp] theorem MN:isK (.nils)=true:=zR
@[simp] theorem Qc{ds}:isK (.agg ds)=true:=zR
@[simp] theorem Qv{ds}:isK (.tup ds)=true:=zR
@[simp] theorem TX{es}:isK (.sl es)=true:=zR
@[simp] theorem Qn{ds}:isK (.ptr ds)=true:=zR
@[simp] theorem TV{g ds}:isK (.fn g ds)=true:=zR
@[simp] theorem Qm{sz es}:isK (.own sz es)=false:=zR
@[simp] theorem Qf{sz es}:isK (.blk sz es)=false:=zR
@[simp] theorem TW{kt et ks vs}:isK (.mp kt et ks vs)=false:=zR
@[simp] theorem Ql{b}:isK (.mrf b)=false:=zR
@[simp] theorem Qp{p k n}:isK (.ref p k n)=false:=zR
@[simp] theorem Qb{p i off}:isK (.adr p i off)=false:=zR
@[simp] theorem Qd{ds}:isK (.agx ds)=false:=zR
@[simp] theorem Qu{ds}:isK (.tpx ds)=false:=zR
@[simp] theorem Qo{ds}:isK (.ptx ds)=false:=zR
@[simp] theorem Qq{n sz ds}:isK (.rfx n sz ds)=false:=zR
@[simp] theorem Qg{g ds}:isK (.fnx g ds)=false:=zR
@[simp] theorem Qi{T p i off}:isK (.ifa T p i off)=false:=zR
@[simp] theorem Qj{T n}:isK (.ifi T n)=true:=zR
@[simp] theorem Qr{k es}:isK (.slv k es)=true:=zR
@[simp] theorem Qh{g ds cs}:isK (.fny g ds cs)=false:=zR
@[simp] theorem QV:isP (.any)=true:=zR
@[simp] theorem Rb{k n}:isP (.int k n)=true:=zR
@[simp] theorem MR{b}:isP (.bool b)=true:=zR
@[simp] theorem Rm{s}:isP (.str s)=true:=zR
@[simp] theorem MS:isP (.nilp)=true:=zR
@[simp] theorem MT:isP (.nils)=true:=zR
@[simp] theorem QT{ds}:isP (.agg ds)=true:=zR
@[simp] theorem Ro{ds}:isP (.tup ds)=true:=zR
@[simp] theorem T7{es}:isP (.sl es)=true:=zR
@[simp] theorem Re{ds}:isP (.ptr ds)=true:=zR
@[simp] theorem T5{g ds}:isP (.fn g ds)=true:=zR
@[simp] theorem Rd{sz es}:isP (.own sz es)=false:=zR
@[simp] theorem QW{sz es}:isP (.blk sz es)=false:=zR
@[simp] theorem T6{kt et ks vs}:isP (.mp kt et ks vs)=false:=zR
@[simp] theorem Rc{b}:isP (.mrf b)=true:=zR
@[simp] theorem Rg{p k n}:isP (.ref p k n)=true:=zR
@[simp] theorem QS{p i off}:isP (.adr p i off)=true:=zR
@[simp] theorem QU{ds}:isP (.agx ds)=false:=zR
@[simp] theorem Rn{ds}:isP (.tpx ds)=false:=zR
@[simp] theorem Rf{ds}:isP (.ptx ds)=false:=zR
@[simp] theorem Ri{n sz ds}:isP (.rfx n sz ds)=false:=zR
@[simp] theorem QX{g ds}:isP (.fnx g ds)=false:=zR
@[simp] theorem QZ{T p i off}:isP (.ifa T p i off)=true:=zR
@[simp] theorem Ra{T n}:isP (.ifi T n)=true:=zR
@[simp] theorem Rj{k es}:isP (.slv k es)=true:=zR
@[simp] theorem QY{g ds cs}:isP (.fny g ds cs)=false:=zR
@[simp] theorem Rt:isS (.any)=true:=zR
@[simp] theorem Uc:isV (.bb)=true:=zR
@[simp] theorem T8:isS (.bb)=true:=zR
@[simp] theorem T4:isP (.bb)=true:=zR
@[simp] theorem TO:isB (.bb)=false:=zR
@[simp] theorem LC:cA (.bb)=false:=zR
@[simp] theorem Jf:bC (.bb)=[]:=zR
@[simp] theorem Fs:aJ (.bb)=[]:=zR
@[simp] theorem Rz{k n}:isS (.int k n)=true:=zR
@[simp] theorem MU{b}:isS (.bool b)=true:=zR
@[simp] theorem RI{s}:isS (.str s)=true:=zR
@[simp] theorem MV:isS (.nilp)=true:=zR
@[simp] theorem MW:isS (.nils)=true:=zR
@[simp] theorem Rq{ds}:isS (.agg ds)=true:=zR
@[simp] theorem RK{ds}:isS (.tup ds)=true:=zR
@[simp] theorem Ub{es}:isS (.sl es)=true:=zR
@[simp] theorem RC{ds}:isS (.ptr ds)=true:=zR
@[simp] theorem T9{g ds}:isS (.fn g ds)=true:=zR
@[simp] theorem RB{sz es}:isS (.own sz es)=false:=zR
@[simp] theorem Ru{sz es}:isS (.blk sz es)=false:=zR
@[simp] theorem Ua{kt et ks vs}:isS (.mp kt et ks vs)=false:=zR
@[simp] theorem RA{b}:isS (.mrf b)=true:=zR
@[simp] theorem RE{p k n}:isS (.ref p k n)=true:=zR
@[simp] theorem Rp{p i off}:isS (.adr p i off)=true:=zR
@[simp] theorem Rr{ds}:isS (.agx ds)=ds.all isP:=zR
@[simp] theorem RJ{ds}:isS (.tpx ds)=ds.all isP:=zR
@[simp] theorem RD{ds}:isS (.ptx ds)=ds.all isP:=zR
@[simp] theorem RF{n sz ds}:isS (.rfx n sz ds)=ds.all isP:=zR
@[simp] theorem Rv{g ds}:isS (.fnx g ds)=ds.all isP:=zR
@[simp] theorem Rx{T p i off}:isS (.ifa T p i off)=true:=zR
@[simp] theorem Ry{T n}:isS (.ifi T n)=true:=zR
@[simp] theorem RG{k es}:isS (.slv k es)=true:=zR
@[simp] theorem Rw{g ds cs}:isS (.fny g ds cs)=(ds.all isP&&cs.all isP):=zR
@[simp] theorem LM:aI (.any)=false:=zR
@[simp] theorem LS{k n}:aI (.int k n)=true:=zR
@[simp] theorem It{b}:aI (.bool b)=true:=zR
@[simp] theorem L1{s}:aI (.str s)=true:=zR
@[simp] theorem Iu:aI (.nilp)=true:=zR
@[simp] theorem Iv:aI (.nils)=true:=zR
@[simp] theorem LK{ds}:aI (.agg ds)=false:=zR
@[simp] theorem L3{ds}:aI (.tup ds)=false:=zR
@[simp] theorem PD{es}:aI (.sl es)=true:=zR
@[simp] theorem LV{ds}:aI (.ptr ds)=true:=zR
@[simp] theorem PB{g ds}:aI (.fn g ds)=true:=zR
@[simp] theorem LU{sz es}:aI (.own sz es)=false:=zR
@[simp] theorem LN{sz es}:aI (.blk sz es)=false:=zR
@[simp] theorem PC{kt et ks vs}:aI (.mp kt et ks vs)=false:=zR
@[simp] theorem LT{b}:aI (.mrf b)=false:=zR
@[simp] theorem LX{p k n}:aI (.ref p k n)=false:=zR
@[simp] theorem LJ{p i off}:aI (.adr p i off)=false:=zR
@[simp] theorem LL{ds}:aI (.agx ds)=false:=zR
@[simp] theorem L2{ds}:aI (.tpx ds)=false:=zR
@[simp] theorem LW{ds}:aI (.ptx ds)=false:=zR
@[simp] theorem LY{n sz ds}:aI (.rfx n sz ds)=false:=zR
@[simp] theorem LO{g ds}:aI (.fnx g ds)=false:=zR
@[simp] theorem LQ{T p i off}:aI (.ifa T p i off)=false:=zR
@[simp] theorem LR{T n}:aI (.ifi T n)=false:=zR
@[simp] theorem LZ{k es}:aI (.slv k es)=false:=zR
@[simp] theorem LP{g ds cs}:aI (.fny g ds cs)=false:=zR
@[simp] theorem Qz:isO (.any)=false:=zR
@[simp] theorem QF{k n}:isO (.int k n)=false:=zR
@[simp] theorem MO{b}:isO (.bool b)=false:=zR
@[simp] theorem QP{s}:isO (.str s)=false:=zR
@[simp] theorem MP:isO (.nilp)=false:=zR
@[simp] theorem MQ:isO (.nils)=false:=zR
@[simp] theorem Qx{ds}:isO (.agg ds)=false:=zR
@[simp] theorem QR{ds}:isO (.tup ds)=false:=zR
@[simp] theorem T3{es}:isO (.sl es)=false:=zR
@[simp] theorem QI{ds}:isO (.ptr ds)=false:=zR
@[simp] theorem TY{g ds}:isO (.fn g ds)=false:=zR
@[simp] theorem QH{sz es}:isO (.own sz es)=true:=zR
@[simp] theorem QA{sz es}:isO (.blk sz es)=false:=zR
@[simp] theorem TZ{kt et ks vs}:isO (.mp kt et ks vs)=false:=zR
@[simp] theorem QG{b}:isO (.mrf b)=false:=zR
@[simp] theorem QK{p k n}:isO (.ref p k n)=false:=zR
@[simp] theorem Qw{p i off}:isO (.adr p i off)=false:=zR
@[simp] theorem Qy{ds}:isO (.agx ds)=false:=zR
@[simp] theorem QQ{ds}:isO (.tpx ds)=false:=zR
@[simp] theorem QJ{ds}:isO (.ptx ds)=false:=zR
@[simp] theorem QL{n sz ds}:isO (.rfx n sz ds)=false:=zR
@[simp] theorem QB{g ds}:isO (.fnx g ds)=false:=zR
@[simp] theorem QD{T p i off}:isO (.ifa T p i off)=false:=zR
@[simp] theorem QE{T n}:isO (.ifi T n)=false:=zR
@[simp] theorem QN{k es}:isO (.slv k es)=false:=zR
@[simp] theorem QC{g ds cs}:isO (.fny g ds cs)=false:=zR
@[simp] theorem L7:bF (.any)=true:=zR
@[simp] theorem Md{k n}:bF (.int k n)=true:=zR
@[simp] theorem Iw{b}:bF (.bool b)=true:=zR
@[simp] theorem Ml{s}:bF (.str s)=true:=zR
@[simp] theorem Ix:bF (.nilp)=true:=zR
@[simp] theorem Iy:bF (.nils)=true:=zR
@[simp] theorem L5{ds}:bF (.agg ds)=false:=zR
@[simp] theorem Mn{ds}:bF (.tup ds)=false:=zR
@[simp] theorem PG{es}:bF (.sl es)=false:=zR
@[simp] theorem Mg{ds}:bF (.ptr ds)=false:=zR
@[simp] theorem PE{g ds}:bF (.fn g ds)=false:=zR
@[simp] theorem Mf{sz es}:bF (.own sz es)=false:=zR
@[simp] theorem L8{sz es}:bF (.blk sz es)=false:=zR
@[simp] theorem PF{kt et ks vs}:bF (.mp kt et ks vs)=false:=zR
@[simp] theorem Me{b}:bF (.mrf b)=false:=zR
@[simp] theorem Mi{p k n}:bF (.ref p k n)=false:=zR
@[simp] theorem L4{p i off}:bF (.adr p i off)=false:=zR
@[simp] theorem L6{ds}:bF (.agx ds)=false:=zR
@[simp] theorem Mm{ds}:bF (.tpx ds)=false:=zR
@[simp] theorem Mh{ds}:bF (.ptx ds)=false:=zR
@[simp] theorem Mj{n sz ds}:bF (.rfx n sz ds)=false:=zR
@[simp] theorem L9{g ds}:bF (.fnx g ds)=false:=zR
@[simp] theorem Mb{T p i off}:bF (.ifa T p i off)=false:=zR
@[simp] theorem Mc{T n}:bF (.ifi T n)=true:=zR
@[simp] theorem Mk{k es}:bF (.slv k es)=false:=zR
@[simp] theorem Ma{g ds cs}:bF (.fny g ds cs)=false:=zR
@[simp] theorem Mr:dD (.any)=true:=zR
@[simp] theorem Mx{k n}:dD (.int k n)=true:=zR
@[simp] theorem Iz{b}:dD (.bool b)=true:=zR
@[simp] theorem MF{s}:dD (.str s)=true:=zR
@[simp] theorem IA:dD (.nilp)=true:=zR
@[simp] theorem IB:dD (.nils)=true:=zR
@[simp] theorem Mp{ds}:dD (.agg ds)=ds.all bF:=zR
@[simp] theorem MH{ds}:dD (.tup ds)=false:=zR
@[simp] theorem PJ{es}:dD (.sl es)=false:=zR
@[simp] theorem MA{ds}:dD (.ptr ds)=false:=zR
@[simp] theorem PH{g ds}:dD (.fn g ds)=false:=zR
@[simp] theorem Mz{sz es}:dD (.own sz es)=false:=zR
@[simp] theorem Ms{sz es}:dD (.blk sz es)=false:=zR
@[simp] theorem PI{kt et ks vs}:dD (.mp kt et ks vs)=false:=zR
@[simp] theorem My{b}:dD (.mrf b)=false:=zR
@[simp] theorem MC{p k n}:dD (.ref p k n)=false:=zR
@[simp] theorem Mo{p i off}:dD (.adr p i off)=false:=zR
@[simp] theorem Mq{ds}:dD (.agx ds)=false:=zR
@[simp] theorem MG{ds}:dD (.tpx ds)=false:=zR
@[simp] theorem MB{ds}:dD (.ptx ds)=false:=zR
@[simp] theorem MD{n sz ds}:dD (.rfx n sz ds)=false:=zR
@[simp] theorem Mt{g ds}:dD (.fnx g ds)=false:=zR
@[simp] theorem Mv{T p i off}:dD (.ifa T p i off)=false:=zR
@[simp] theorem Mw{T n}:dD (.ifi T n)=true:=zR
@[simp] theorem ME{k es}:dD (.slv k es)=false:=zR
@[simp] theorem Mu{g ds cs}:dD (.fny g ds cs)=false:=zR
@[simp] theorem PN:isF (.any)=true:=zR
@[simp] theorem PT{k n}:isF (.int k n)=true:=zR
@[simp] theorem MI{b}:isF (.bool b)=true:=zR
@[simp] theorem P8{s}:isF (.str s)=true:=zR
@[simp] theorem MJ:isF (.nilp)=true:=zR
@[simp] theorem MK:isF (.nils)=true:=zR
@[simp] theorem PL{ds}:isF (.agg ds)=ds.all bF:=zR
@[simp] theorem Qa{ds}:isF (.tup ds)=ds.all dD:=zR
@[simp] theorem TU{es}:isF (.sl es)=false:=zR
@[simp] theorem PW{ds}:isF (.ptr ds)=false:=zR
@[simp] theorem TS{g ds}:isF (.fn g ds)=false:=zR
@[simp] theorem PV{sz es}:isF (.own sz es)=false:=zR
@[simp] theorem PO{sz es}:isF (.blk sz es)=false:=zR
@[simp] theorem TT{kt et ks vs}:isF (.mp kt et ks vs)=false:=zR
@[simp] theorem PU{b}:isF (.mrf b)=false:=zR
@[simp] theorem PY{p k n}:isF (.ref p k n)=false:=zR
@[simp] theorem PK{p i off}:isF (.adr p i off)=false:=zR
@[simp] theorem PM{ds}:isF (.agx ds)=false:=zR
@[simp] theorem P9{ds}:isF (.tpx ds)=false:=zR
@[simp] theorem PX{ds}:isF (.ptx ds)=false:=zR
@[simp] theorem PZ{n sz ds}:isF (.rfx n sz ds)=false:=zR
@[simp] theorem PP{g ds}:isF (.fnx g ds)=false:=zR
@[simp] theorem PR{T p i off}:isF (.ifa T p i off)=false:=zR
@[simp] theorem PS{T n}:isF (.ifi T n)=true:=zR
@[simp] theorem P0{k es}:isF (.slv k es)=false:=zR
@[simp] theorem PQ{g ds cs}:isF (.fny g ds cs)=false:=zR
@[simp] theorem Pj:isB (.any)=false:=zR
@[simp] theorem Pp{k n}:isB (.int k n)=false:=zR
@[simp] theorem LG{b}:isB (.bool b)=false:=zR
@[simp] theorem Py{s}:isB (.str s)=false:=zR
@[simp] theorem LH:isB (.nilp)=false:=zR
@[simp] theorem LI:isB (.nils)=false:=zR
@[simp] theorem Ph{ds}:isB (.agg ds)=false:=zR
@[simp] theorem PA{ds}:isB (.tup ds)=false:=zR
@[simp] theorem TR{es}:isB (.sl es)=false:=zR
@[simp] theorem Ps{ds}:isB (.ptr ds)=false:=zR
@[simp] theorem TP{g ds}:isB (.fn g ds)=false:=zR
@[simp] theorem Pr{sz es}:isB (.own sz es)=false:=zR
@[simp] theorem Pk{sz es}:isB (.blk sz es)=true:=zR
@[simp] theorem TQ{kt et ks vs}:isB (.mp kt et ks vs)=true:=zR
@[simp] theorem Pq{b}:isB (.mrf b)=false:=zR
@[simp] theorem Pu{p k n}:isB (.ref p k n)=false:=zR
@[simp] theorem Pg{p i off}:isB (.adr p i off)=false:=zR
@[simp] theorem Pi{ds}:isB (.agx ds)=false:=zR
@[simp] theorem Pz{ds}:isB (.tpx ds)=false:=zR
@[simp] theorem Pt{ds}:isB (.ptx ds)=false:=zR
@[simp] theorem Pv{n sz ds}:isB (.rfx n sz ds)=false:=zR
@[simp] theorem Pl{g ds}:isB (.fnx g ds)=false:=zR
@[simp] theorem Pn{T p i off}:isB (.ifa T p i off)=false:=zR
@[simp] theorem Po{T n}:isB (.ifi T n)=false:=zR
@[simp] theorem Pw{k es}:isB (.slv k es)=false:=zR
@[simp] theorem Pm{g ds cs}:isB (.fny g ds cs)=false:=zR
@[simp] theorem Ia:cA (.any)=true:=zR
@[simp] theorem Ig{k n}:cA (.int k n)=false:=zR
@[simp] theorem E3{b}:cA (.bool b)=false:=zR
@[simp] theorem Iq{s}:cA (.str s)=false:=zR
@[simp] theorem E4:cA (.nilp)=false:=zR
@[simp] theorem E5:cA (.nils)=false:=zR
@[simp] theorem H8{ds}:cA (.agg ds)=false:=zR
@[simp] theorem Is{ds}:cA (.tup ds)=false:=zR
@[simp] theorem LF{es}:cA (.sl es)=false:=zR
@[simp] theorem Ij{ds}:cA (.ptr ds)=false:=zR
@[simp] theorem LD{g ds}:cA (.fn g ds)=false:=zR
@[simp] theorem Ii{sz es}:cA (.own sz es)=false:=zR
@[simp] theorem Ib{sz es}:cA (.blk sz es)=false:=zR
@[simp] theorem LE{kt et ks vs}:cA (.mp kt et ks vs)=false:=zR
@[simp] theorem Ih{b}:cA (.mrf b)=false:=zR
@[simp] theorem Il{p k n}:cA (.ref p k n)=false:=zR
@[simp] theorem H7{p i off}:cA (.adr p i off)=false:=zR
@[simp] theorem H9{ds}:cA (.agx ds)=false:=zR
@[simp] theorem Ir{ds}:cA (.tpx ds)=false:=zR
@[simp] theorem Ik{ds}:cA (.ptx ds)=false:=zR
@[simp] theorem Im{n sz ds}:cA (.rfx n sz ds)=false:=zR
@[simp] theorem Ic{g ds}:cA (.fnx g ds)=false:=zR
@[simp] theorem Ie{T p i off}:cA (.ifa T p i off)=false:=zR
@[simp] theorem If{T n}:cA (.ifi T n)=false:=zR
@[simp] theorem Io{k es}:cA (.slv k es)=false:=zR
@[simp] theorem Id{g ds cs}:cA (.fny g ds cs)=false:=zR
@[simp] theorem Dk:cellsOf (.any)=[.any]:=zR
@[simp] theorem Dq{k n}:cellsOf (.int k n)=[.int k n]:=zR
@[simp] theorem Bk{b}:cellsOf (.bool b)=[.bool b]:=zR
@[simp] theorem DA{s}:cellsOf (.str s)=[.str s]:=zR
@[simp] theorem Bl:cellsOf (.nilp)=[.nilp]:=zR
@[simp] theorem Bm:cellsOf (.nils)=[.nils]:=zR
@[simp] theorem Di{ds}:cellsOf (.agg ds)=ds:=zR
@[simp] theorem DC{ds}:cellsOf (.tup ds)=[.tup ds]:=zR
@[simp] theorem EG{es}:cellsOf (.sl es)=[.sl es]:=zR
@[simp] theorem Dt{ds}:cellsOf (.ptr ds)=[.ptr ds]:=zR
@[simp] theorem EE{g ds}:cellsOf (.fn g ds)=[.fn g ds]:=zR
@[simp] theorem Ds{sz es}:cellsOf (.own sz es)=[.own sz es]:=zR
@[simp] theorem Dl{sz es}:cellsOf (.blk sz es)=[.blk sz es]:=zR
@[simp] theorem EF{kt et ks vs}:cellsOf (.mp kt et ks vs)=[.mp kt et ks vs]:=zR
@[simp] theorem Dr{b}:cellsOf (.mrf b)=[.mrf b]:=zR
@[simp] theorem Dw{p k n}:cellsOf (.ref p k n)=[.ref p k n]:=zR
@[simp] theorem Dh{p i off}:cellsOf (.adr p i off)=[.adr p i off]:=zR
@[simp] theorem Dj{ds}:cellsOf (.agx ds)=[.agx ds]:=zR
@[simp] theorem DB{ds}:cellsOf (.tpx ds)=[.tpx ds]:=zR
@[simp] theorem Du{ds}:cellsOf (.ptx ds)=[.ptx ds]:=zR
@[simp] theorem Dx{n sz ds}:cellsOf (.rfx n sz ds)=[.rfx n sz ds]:=zR
@[simp] theorem Dm{g ds}:cellsOf (.fnx g ds)=[.fnx g ds]:=zR
@[simp] theorem Do{T p i off}:cellsOf (.ifa T p i off)=[.ifa T p i off]:=zR
@[simp] theorem Dp{T n}:cellsOf (.ifi T n)=[.ifi T n]:=zR
@[simp] theorem Dy{k es}:cellsOf (.slv k es)=[.slv k es]:=zR
@[simp] theorem Dn{g ds cs}:cellsOf (.fny g ds cs)=[.fny g ds cs]:=zR
@[simp] theorem GI:b6 (.any)=.any:=zR
@[simp] theorem GO{k n}:b6 (.int k n)=.int k n:=zR
@[simp] theorem Ew{b}:b6 (.bool b)=.bool b:=zR
@[simp] theorem GX{s}:b6 (.str s)=.str s:=zR
@[simp] theorem Ex:b6 (.nilp)=.nilp:=zR
@[simp] theorem Ey:b6 (.nils)=.nils:=zR
@[simp] theorem GG{ds}:b6 (.agg ds)=.agg ds:=zR
@[simp] theorem GZ{ds}:b6 (.tup ds)=.tup ds:=zR
@[simp] theorem J4{es}:b6 (.sl es)=.sl es:=zR
@[simp] theorem GR{ds}:b6 (.ptr ds)=.ptr ds:=zR
@[simp] theorem J2{g ds}:b6 (.fn g ds)=.fn g ds:=zR
@[simp] theorem GQ{sz es}:b6 (.own sz es)=.own sz es:=zR
@[simp] theorem GJ{sz es}:b6 (.blk sz es)=.blk sz es:=zR
@[simp] theorem J3{kt et ks vs}:b6 (.mp kt et ks vs)=.mp kt et ks vs:=zR
@[simp] theorem GP{b}:b6 (.mrf b)=.mrf b:=zR
@[simp] theorem GT{p k n}:b6 (.ref p k n)=.ref p k n:=zR
@[simp] theorem GF{p i off}:b6 (.adr p i off)=.adr p i off:=zR
@[simp] theorem GH{ds}:b6 (.agx ds)=.agg ds:=zR
@[simp] theorem GY{ds}:b6 (.tpx ds)=.tpx ds:=zR
@[simp] theorem GS{ds}:b6 (.ptx ds)=.ptx ds:=zR
@[simp] theorem GU{n sz ds}:b6 (.rfx n sz ds)=.rfx n sz ds:=zR
@[simp] theorem GK{g ds}:b6 (.fnx g ds)=.fnx g ds:=zR
@[simp] theorem GM{T p i off}:b6 (.ifa T p i off)=.ifa T p i off:=zR
@[simp] theorem GN{T n}:b6 (.ifi T n)=.ifi T n:=zR
@[simp] theorem GV{k es}:b6 (.slv k es)=.slv k es:=zR
@[simp] theorem GL{g ds cs}:b6 (.fny g ds cs)=.fny g ds cs:=zR
@[simp] theorem He:aT (.any)=.any:=zR
@[simp] theorem Hk{k n}:aT (.int k n)=.int k n:=zR
@[simp] theorem EB{b}:aT (.bool b)=.bool b:=zR
@[simp] theorem Ht{s}:aT (.str s)=.str s:=zR
@[simp] theorem EC:aT (.nilp)=.nilp:=zR
@[simp] theorem ED:aT (.nils)=.nils:=zR
@[simp] theorem Hc{ds}:aT (.agg ds)=.agg ds:=zR
@[simp] theorem Hv{ds}:aT (.tup ds)=.tup ds:=zR
@[simp] theorem Kq{es}:aT (.sl es)=.sl es:=zR
@[simp] theorem Hn{ds}:aT (.ptr ds)=.ptr ds:=zR
@[simp] theorem Ko{g ds}:aT (.fn g ds)=.fn g ds:=zR
@[simp] theorem Hm{sz es}:aT (.own sz es)=.sl es:=zR
@[simp] theorem Hf{sz es}:aT (.blk sz es)=.blk sz es:=zR
@[simp] theorem Kp{kt et ks vs}:aT (.mp kt et ks vs)=.mp kt et ks vs:=zR
@[simp] theorem Hl{b}:aT (.mrf b)=.mrf b:=zR
@[simp] theorem Hp{p k n}:aT (.ref p k n)=.ref p k n:=zR
@[simp] theorem Hb{p i off}:aT (.adr p i off)=.adr p i off:=zR
@[simp] theorem Hd{ds}:aT (.agx ds)=.agx ds:=zR
@[simp] theorem Hu{ds}:aT (.tpx ds)=.tpx ds:=zR
@[simp] theorem Ho{ds}:aT (.ptx ds)=.ptx ds:=zR
@[simp] theorem Hq{n sz ds}:aT (.rfx n sz ds)=.rfx n sz ds:=zR
@[simp] theorem Hg{g ds}:aT (.fnx g ds)=.fnx g ds:=zR
@[simp] theorem Hi{T p i off}:aT (.ifa T p i off)=.ifa T p i off:=zR
@[simp] theorem Hj{T n}:aT (.ifi T n)=.ifi T n:=zR
@[simp] theorem Hr{k es}:aT (.slv k es)=.slv k es:=zR
@[simp] theorem Hh{g ds cs}:aT (.fny g ds cs)=.fny g ds cs:=zR
@[simp] theorem DS:aJ (.any)=[]:=zR
@[simp] theorem DY{k n}:aJ (.int k n)=[]:=zR
@[simp] theorem BW{b}:aJ (.bool b)=[]:=zR
@[simp] theorem D7{s}:aJ (.str s)=[]:=zR
@[simp] theorem BX:aJ (.nilp)=[]:=zR
@[simp] theorem BY:aJ (.nils)=[]:=zR
@[simp] theorem DQ{ds}:aJ (.agg ds)=[]:=zR
@[simp] theorem D9{ds}:aJ (.tup ds)=[]:=zR
@[simp] theorem Fv{es}:aJ (.sl es)=[]:=zR
@[simp] theorem D1{ds}:aJ (.ptr ds)=[]:=zR
@[simp] theorem Ft{g ds}:aJ (.fn g ds)=[]:=zR
@[simp] theorem D0{sz es}:aJ (.own sz es)=[]:=zR
@[simp] theorem DT{sz es}:aJ (.blk sz es)=[]:=zR
@[simp] theorem Fu{kt et ks vs}:aJ (.mp kt et ks vs)=[]:=zR
@[simp] theorem DZ{b}:aJ (.mrf b)=[b]:=zR
@[simp] theorem D3{p k n}:aJ (.ref p k n)=[p.root]:=zR
@[simp] theorem DP{p i off}:aJ (.adr p i off)=[p.root]:=zR
@[simp] theorem DR{ds}:aJ (.agx ds)=[]:=zR
@[simp] theorem D8{ds}:aJ (.tpx ds)=[]:=zR
@[simp] theorem D2{ds}:aJ (.ptx ds)=[]:=zR
@[simp] theorem D4{n sz ds}:aJ (.rfx n sz ds)=[]:=zR
@[simp] theorem DU{g ds}:aJ (.fnx g ds)=[]:=zR
@[simp] theorem DW{T p i off}:aJ (.ifa T p i off)=[p.root]:=zR
@[simp] theorem DX{T n}:aJ (.ifi T n)=[]:=zR
@[simp] theorem D5{k es}:aJ (.slv k es)=[]:=zR
@[simp] theorem DV{g ds cs}:aJ (.fny g ds cs)=[]:=zR
@[simp] theorem Fz:bC (.any)=[]:=zR
@[simp] theorem FF{k n}:bC (.int k n)=[]:=zR
@[simp] theorem Ea{b}:bC (.bool b)=[]:=zR
@[simp] theorem FO{s}:bC (.str s)=[]:=zR
@[simp] theorem Eb:bC (.nilp)=[]:=zR
@[simp] theorem Ec:bC (.nils)=[]:=zR
@[simp] theorem Fx{ds}:bC (.agg ds)=[]:=zR
@[simp] theorem FQ{ds}:bC (.tup ds)=[]:=zR
@[simp] theorem Ji{es}:bC (.sl es)=[]:=zR
@[simp] theorem FI{ds}:bC (.ptr ds)=[]:=zR
@[simp] theorem Jg{g ds}:bC (.fn g ds)=[]:=zR
@[simp] theorem FH{sz es}:bC (.own sz es)=[]:=zR
@[simp] theorem FA{sz es}:bC (.blk sz es)=[]:=zR
@[simp] theorem Jh{kt et ks vs}:bC (.mp kt et ks vs)=[]:=zR
@[simp] theorem FG{b}:bC (.mrf b)=[b]:=zR
@[simp] theorem FK{p k n}:bC (.ref p k n)=[p.root]:=zR
@[simp] theorem Fw{p i off}:bC (.adr p i off)=[p.root]:=zR
@[simp] theorem Fy{ds}:bC (.agx ds)=ds.flatMap aJ:=zR
@[simp] theorem FP{ds}:bC (.tpx ds)=ds.flatMap aJ:=zR
@[simp] theorem FJ{ds}:bC (.ptx ds)=ds.flatMap aJ:=zR
@[simp] theorem FL{n sz ds}:bC (.rfx n sz ds)=ds.flatMap aJ:=zR
@[simp] theorem FB{g ds}:bC (.fnx g ds)=ds.flatMap aJ:=zR
@[simp] theorem FD{T p i off}:bC (.ifa T p i off)=[p.root]:=zR
@[simp] theorem FE{T n}:bC (.ifi T n)=[]:=zR
@[simp] theorem FM{k es}:bC (.slv k es)=[]:=zR
@[simp] theorem FC{g ds cs}:bC (.fny g ds cs)=(ds.flatMap aJ++cs.flatMap aJ):=zR
@[simp] theorem OO{f:Nat->D}:dp1 f (.any)=(.any):=zR
@[simp] theorem OU{f:Nat->D}{k n}:dp1 f (.int k n)=(.int k n):=zR
@[simp] theorem Ky{f:Nat->D}{b}:dp1 f (.bool b)=(.bool b):=zR
@[simp] theorem O4{f:Nat->D}{s}:dp1 f (.str s)=(.str s):=zR
@[simp] theorem Kz{f:Nat->D}:dp1 f (.nilp)=(.nilp):=zR
@[simp] theorem KA{f:Nat->D}:dp1 f (.nils)=(.nils):=zR
@[simp] theorem OM{f:Nat->D}{ds}:dp1 f (.agg ds)=(.agg ds):=zR
@[simp] theorem O6{f:Nat->D}{ds}:dp1 f (.tup ds)=(.tup ds):=zR
@[simp] theorem To{f:Nat->D}{es}:dp1 f (.sl es)=(.sl es):=zR
@[simp] theorem OX{f:Nat->D}{ds}:dp1 f (.ptr ds)=(.ptr ds):=zR
@[simp] theorem Tm{f:Nat->D}{g ds}:dp1 f (.fn g ds)=(.fn g ds):=zR
@[simp] theorem OW{f:Nat->D}{sz es}:dp1 f (.own sz es)=(.own sz es):=zR
@[simp] theorem OP{f:Nat->D}{sz es}:dp1 f (.blk sz es)=(.blk sz es):=zR
@[simp] theorem Tn{f:Nat->D}{kt et ks vs}:dp1 f (.mp kt et ks vs)=(.mp kt et ks vs):=zR
@[simp] theorem OV{f:Nat->D}{b}:dp1 f (.mrf b)=(.mrf b):=zR
@[simp] theorem OZ{f:Nat->D}{p k n}:dp1 f (.ref p k n)=(match aY f p with|some (_,es)=>.sl (((es.drop k).take n).map fun e=>e.map aT)|none=>.any):=zR
@[simp] theorem OL{f:Nat->D}{p i off}:dp1 f (.adr p i off)=(match aY f p with|some (_,es)=>.ptr (((es[i]?.getD []).drop off).map aT)|none=>.any):=zR
@[simp] theorem ON{f:Nat->D}{ds}:dp1 f (.agx ds)=(.agx ds):=zR
@[simp] theorem O5{f:Nat->D}{ds}:dp1 f (.tpx ds)=(.tpx ds):=zR
@[simp] theorem OY{f:Nat->D}{ds}:dp1 f (.ptx ds)=(.ptx ds):=zR
@[simp] theorem O0{f:Nat->D}{n sz ds}:dp1 f (.rfx n sz ds)=(.rfx n sz ds):=zR
@[simp] theorem OQ{f:Nat->D}{g ds}:dp1 f (.fnx g ds)=(.fnx g ds):=zR
@[simp] theorem OS{f:Nat->D}{T p i off}:dp1 f (.ifa T p i off)=(.ifa T p i off):=zR
@[simp] theorem OT{f:Nat->D}{T n}:dp1 f (.ifi T n)=(.ifi T n):=zR
@[simp] theorem O1{f:Nat->D}{k es}:dp1 f (.slv k es)=(.slv k es):=zR
@[simp] theorem OR{f:Nat->D}{g ds cs}:dp1 f (.fny g ds cs)=(.fny g ds cs):=zR
@[simp] theorem Tt{f:Nat->D}:dp f (.any)=(.any):=zR
@[simp] theorem Tz{f:Nat->D}{k n}:dp f (.int k n)=(.int k n):=zR
@[simp] theorem Pb{f:Nat->D}{b}:dp f (.bool b)=(.bool b):=zR
@[simp] theorem TI{f:Nat->D}{s}:dp f (.str s)=(.str s):=zR
@[simp] theorem Pc{f:Nat->D}:dp f (.nilp)=(.nilp):=zR
@[simp] theorem Pd{f:Nat->D}:dp f (.nils)=(.nils):=zR
@[simp] theorem Tq{f:Nat->D}{ds}:dp f (.agg ds)=(.agg ds):=zR
@[simp] theorem TK{f:Nat->D}{ds}:dp f (.tup ds)=(.tup ds):=zR
@[simp] theorem UE{f:Nat->D}{es}:dp f (.sl es)=(.sl es):=zR
@[simp] theorem TC{f:Nat->D}{ds}:dp f (.ptr ds)=(.ptr ds):=zR
@[simp] theorem UC{f:Nat->D}{g ds}:dp f (.fn g ds)=(.fn g ds):=zR
@[simp] theorem TB{f:Nat->D}{sz es}:dp f (.own sz es)=(.own sz es):=zR
@[simp] theorem Tu{f:Nat->D}{sz es}:dp f (.blk sz es)=(.blk sz es):=zR
@[simp] theorem UD{f:Nat->D}{kt et ks vs}:dp f (.mp kt et ks vs)=(.mp kt et ks vs):=zR
@[simp] theorem TA{f:Nat->D}{b}:dp f (.mrf b)=(.mrf b):=zR
@[simp] theorem TE{f:Nat->D}{p k n}:dp f (.ref p k n)=(match aY f p with|some (_,es)=>.sl (((es.drop k).take n).map fun e=>e.map aT)|none=>.any):=zR
@[simp] theorem Tp{f:Nat->D}{p i off}:dp f (.adr p i off)=(match aY f p with|some (_,es)=>.ptr (((es[i]?.getD []).drop off).map aT)|none=>.any):=zR
@[simp] theorem Ts{f:Nat->D}{ds}:dp f (.agx ds)=(.agg (ds.map (dp1 f))):=zR
@[simp] theorem TJ{f:Nat->D}{ds}:dp f (.tpx ds)=(.tup (ds.map (dp1 f))):=zR
@[simp] theorem TD{f:Nat->D}{ds}:dp f (.ptx ds)=(.ptr (ds.map (dp1 f))):=zR
@[simp] theorem TF{f:Nat->D}{n sz ds}:dp f (.rfx n sz ds)=.rfx n sz ds:=zR
@[simp] theorem Tv{f:Nat->D}{g ds}:dp f (.fnx g ds)=(.fn g (ds.map (dp1 f))):=zR
@[simp] theorem Tx{f:Nat->D}{T p i off}:dp f (.ifa T p i off)=(.ifa T p i off):=zR
@[simp] theorem Ty{f:Nat->D}{T n}:dp f (.ifi T n)=(.ifi T n):=zR
@[simp] theorem TG{f:Nat->D}{k es}:dp f (.slv k es)=(.slv k es):=zR
@[simp] theorem Tw{f:Nat->D}{g ds cs}:dp f (.fny g ds cs)=(.fny g ds cs):=zR
@[simp] theorem HB{f:Nat->D}:aQ f (.any)=(True):=zR
@[simp] theorem HH{f:Nat->D}{k n}:aQ f (.int k n)=(True):=zR
@[simp] theorem EN{f:Nat->D}{b}:aQ f (.bool b)=(True):=zR
@[simp] theorem HQ{f:Nat->D}{s}:aQ f (.str s)=(True):=zR
@[simp] theorem EO{f:Nat->D}:aQ f (.nilp)=(True):=zR
@[simp] theorem EP{f:Nat->D}:aQ f (.nils)=(True):=zR
@[simp] theorem Hz{f:Nat->D}{ds}:aQ f (.agg ds)=(True):=zR
@[simp] theorem HS{f:Nat->D}{ds}:aQ f (.tup ds)=(True):=zR
@[simp] theorem KD{f:Nat->D}{es}:aQ f (.sl es)=(True):=zR
@[simp] theorem HK{f:Nat->D}{ds}:aQ f (.ptr ds)=(True):=zR
@[simp] theorem KB{f:Nat->D}{g ds}:aQ f (.fn g ds)=(True):=zR
@[simp] theorem HJ{f:Nat->D}{sz es}:aQ f (.own sz es)=(True):=zR
@[simp] theorem HC{f:Nat->D}{sz es}:aQ f (.blk sz es)=(True):=zR
@[simp] theorem KC{f:Nat->D}{kt et ks vs}:aQ f (.mp kt et ks vs)=(True):=zR
@[simp] theorem HI{f:Nat->D}{b}:aQ f (.mrf b)=(False):=zR
@[simp] theorem HM{f:Nat->D}{p k n}:aQ f (.ref p k n)=(match aY f p with|some (_,es)=>k+n<=es.length|none=>False):=zR
@[simp] theorem Hy{f:Nat->D}{p i off}:aQ f (.adr p i off)=(match aY f p with|some _=>True|none=>False):=zR
@[simp] theorem HA{f:Nat->D}{ds}:aQ f (.agx ds)=(True):=zR
@[simp] theorem HR{f:Nat->D}{ds}:aQ f (.tpx ds)=(True):=zR
@[simp] theorem HL{f:Nat->D}{ds}:aQ f (.ptx ds)=(True):=zR
@[simp] theorem HN{f:Nat->D}{n sz ds}:aQ f (.rfx n sz ds)=(True):=zR
@[simp] theorem HD{f:Nat->D}{g ds}:aQ f (.fnx g ds)=(True):=zR
@[simp] theorem HF{f:Nat->D}{T p i off}:aQ f (.ifa T p i off)=False:=zR
@[simp] theorem HG{f:Nat->D}{T n}:aQ f (.ifi T n)=True:=zR
@[simp] theorem HO{f:Nat->D}{k es}:aQ f (.slv k es)=True:=zR
@[simp] theorem HE{f:Nat->D}{g ds cs}:aQ f (.fny g ds cs)=True:=zR
@[simp] theorem KH{f:Nat->D}:bW f (.any)=(True):=zR
@[simp] theorem KO{f:Nat->D}{k n}:bW f (.int k n)=(True):=zR
@[simp] theorem HT{f:Nat->D}{b}:bW f (.bool b)=(True):=zR
@[simp] theorem KY{f:Nat->D}{s}:bW f (.str s)=(True):=zR
@[simp] theorem HU{f:Nat->D}:bW f (.nilp)=(True):=zR
@[simp] theorem HV{f:Nat->D}:bW f (.nils)=(True):=zR
@[simp] theorem KF{f:Nat->D}{ds}:bW f (.agg ds)=(True):=zR
@[simp] theorem K0{f:Nat->D}{ds}:bW f (.tup ds)=(True):=zR
@[simp] theorem O9{f:Nat->D}{es}:bW f (.sl es)=(True):=zR
@[simp] theorem KR{f:Nat->D}{ds}:bW f (.ptr ds)=(True):=zR
@[simp] theorem O7{f:Nat->D}{g ds}:bW f (.fn g ds)=(True):=zR
@[simp] theorem KQ{f:Nat->D}{sz es}:bW f (.own sz es)=(True):=zR
@[simp] theorem KI{f:Nat->D}{sz es}:bW f (.blk sz es)=(True):=zR
@[simp] theorem O8{f:Nat->D}{kt et ks vs}:bW f (.mp kt et ks vs)=(True):=zR
@[simp] theorem KP{f:Nat->D}{b}:bW f (.mrf b)=(False):=zR
@[simp] theorem KU{f:Nat->D}{p k n}:bW f (.ref p k n)=(match aY f p with|some (_,es)=>k+n<=es.length|none=>False):=zR
@[simp] theorem KE{f:Nat->D}{p i off}:bW f (.adr p i off)=(match aY f p with|some _=>True|none=>False):=zR
@[simp] theorem KG{f:Nat->D}{ds}:bW f (.agx ds)=(∀d∈ds,aQ f d):=zR
@[simp] theorem KZ{f:Nat->D}{ds}:bW f (.tpx ds)=(∀d∈ds,aQ f d):=zR
@[simp] theorem KS{f:Nat->D}{ds}:bW f (.ptx ds)=(∀d∈ds,aQ f d):=zR
@[simp] theorem KV{f:Nat->D}{n sz ds}:bW f (.rfx n sz ds)=False:=zR
@[simp] theorem KJ{f:Nat->D}{g ds}:bW f (.fnx g ds)=(∀d∈ds,aQ f d):=zR
@[simp] theorem KM{f:Nat->D}{T p i off}:bW f (.ifa T p i off)=False:=zR
@[simp] theorem KN{f:Nat->D}{T n}:bW f (.ifi T n)=True:=zR
@[simp] theorem KW{f:Nat->D}{k es}:bW f (.slv k es)=True:=zR
@[simp] theorem KL{f:Nat->D}{g ds cs}:bW f (.fny g ds cs)=False:=zR
@[simp] theorem Sb{p i0 o}:ldc p i0 o (.any)=.any:=zR
@[simp] theorem Nx{m}:dE m (.any)=.any:=zR
@[simp] theorem Si{p i0 o k n}:ldc p i0 o (.int k n)=.int k n:=zR
@[simp] theorem ND{m k n}:dE m (.int k n)=.int k n:=zR
@[simp] theorem Nd{p i0 o b}:ldc p i0 o (.bool b)=.bool b:=zR
@[simp] theorem Jj{m b}:dE m (.bool b)=.bool b:=zR
@[simp] theorem Ss{p i0 o s}:ldc p i0 o (.str s)=.str s:=zR
@[simp] theorem NL{m s}:dE m (.str s)=.str s:=zR
@[simp] theorem Nf{p i0 o}:ldc p i0 o (.nilp)=.nilp:=zR
@[simp] theorem Jk{m}:dE m (.nilp)=.nilp:=zR
@[simp] theorem Ng{p i0 o}:ldc p i0 o (.nils)=.nils:=zR
@[simp] theorem R9{p i0 o ds}:ldc p i0 o (.agg ds)=.agg ds:=zR
@[simp] theorem Nv{m ds}:dE m (.agg ds)=.agg ds:=zR
@[simp] theorem Sv{p i0 o ds}:ldc p i0 o (.tup ds)=.tup ds:=zR
@[simp] theorem NN{m ds}:dE m (.tup ds)=.tup ds:=zR
@[simp] theorem Ui{p i0 o es}:ldc p i0 o (.sl es)=.sl es:=zR
@[simp] theorem SC{m es}:dE m (.sl es)=.sl es:=zR
@[simp] theorem Sl{p i0 o ds}:ldc p i0 o (.ptr ds)=.ptr ds:=zR
@[simp] theorem NG{m ds}:dE m (.ptr ds)=.ptr ds:=zR
@[simp] theorem Ug{p i0 o g ds}:ldc p i0 o (.fn g ds)=.fn g ds:=zR
@[simp] theorem SA{m g ds}:dE m (.fn g ds)=.fn g ds:=zR
@[simp] theorem Sk{c i o sz es}:ldc (.r c) i o (.own sz es)=.ref (.n c i o) 0 es.length:=zR
@[simp] theorem NF{m sz es}:dE m (.own sz es)=.own sz es:=zR
@[simp] theorem Sc{p i0 o sz es}:ldc p i0 o (.blk sz es)=.blk sz es:=zR
@[simp] theorem Ny{m sz es}:dE m (.blk sz es)=.blk sz es:=zR
@[simp] theorem Uh{p i0 o kt et ks vs}:ldc p i0 o (.mp kt et ks vs)=.mp kt et ks vs:=zR
@[simp] theorem SB{m kt et ks vs}:dE m (.mp kt et ks vs)=.mp kt et ks vs:=zR
@[simp] theorem Sj{p i0 o b}:ldc p i0 o (.mrf b)=.mrf b:=zR
@[simp] theorem NE{m b}:dE m (.mrf b)=.mrf b:=zR
@[simp] theorem Sn{p i0 o q k n}:ldc p i0 o (.ref q k n)=.ref q k n:=zR
@[simp] theorem NI{m q k n}:dE m (.ref q k n)=.ref q k n:=zR
@[simp] theorem R8{p i0 o q i off}:ldc p i0 o (.adr q i off)=.adr q i off:=zR
@[simp] theorem Nu{m q i off}:dE m (.adr q i off)=.adr q i off:=zR
@[simp] theorem Sa{p i0 o ds}:ldc p i0 o (.agx ds)=.agx ds:=zR
@[simp] theorem Nw{m ds}:dE m (.agx ds)=.agx ds:=zR
@[simp] theorem Su{p i0 o ds}:ldc p i0 o (.tpx ds)=.tpx ds:=zR
@[simp] theorem NM{m ds}:dE m (.tpx ds)=.tpx ds:=zR
@[simp] theorem Sm{p i0 o ds}:ldc p i0 o (.ptx ds)=.ptx ds:=zR
@[simp] theorem So{p i0 o n sz ds}:ldc p i0 o (.rfx n sz ds)=.rfx n sz ds:=zR
@[simp] theorem NH{m ds}:dE m (.ptx ds)=.ptx ds:=zR
@[simp] theorem NJ{m n sz ds}:dE m (.rfx n sz ds)=.rfx n sz ds:=zR
@[simp] theorem Sd{p i0 o g ds}:ldc p i0 o (.fnx g ds)=.fnx g ds:=zR
@[simp] theorem Sf{p0 i0 o T p i off}:ldc p0 i0 o (.ifa T p i off)=.ifa T p i off:=zR
@[simp] theorem Sg{p0 i0 o T n}:ldc p0 i0 o (.ifi T n)=.ifi T n:=zR
@[simp] theorem Sq{p0 i0 o k es}:ldc p0 i0 o (.slv k es)=.slv k es:=zR
@[simp] theorem Se{p0 i0 o g ds cs}:ldc p0 i0 o (.fny g ds cs)=.fny g ds cs:=zR
@[simp] theorem Nz{m g ds}:dE m (.fnx g ds)=.fnx g ds:=zR
@[simp] theorem NB{m T p i off}:dE m (.ifa T p i off)=.ifa T p i off:=zR
@[simp] theorem NC{m T n}:dE m (.ifi T n)=.ifi T n:=zR
@[simp] theorem NK{m k es}:dE m (.slv k es)=.slv k es:=zR
@[simp] theorem NA{m g ds cs}:dE m (.fny g ds cs)=.fny g ds cs:=zR
@[simp] theorem Jl{m}:dE m .nils=if m=0 then .nils else .own m []:=zR
def slx(b:Bool)(es:List (List D)):D:=match b,es with
 | true,[]=>.nils
 | _,es=>.sl es
@[simp] theorem jQ{es}:slx false es=.sl es:=by cases es<;>rfl
@[simp] theorem Oo{b x es}:slx b (x::es)=.sl (x::es):=by cases b<;>rfl
theorem fe(b:Bool)(es:List (List D)):slx b es=.sl es\/(slx b es=.nils/\es=[]):=by cases b<;>cases es<;>simp[slx]
@[simp] theorem R4{b es}:isV (slx b es)=true:=by cases b<;>cases es<;>rfl
@[simp] theorem Qs{b es}:isK (slx b es)=true:=by cases b<;>cases es<;>rfl
@[simp] theorem Rk{b es}:isP (slx b es)=true:=by cases b<;>cases es<;>rfl
@[simp] theorem RH{b es}:isS (slx b es)=true:=by cases b<;>cases es<;>rfl
@[simp] theorem L0{b es}:aI (slx b es)=true:=by cases b<;>cases es<;>rfl
@[simp] theorem QO{b es}:isO (slx b es)=false:=by cases b<;>cases es<;>rfl
@[simp] theorem Ip{b es}:cA (slx b es)=false:=by cases b<;>cases es<;>rfl
@[simp] theorem Px{b es}:isB (slx b es)=false:=by cases b<;>cases es<;>rfl
@[simp] theorem Dz{b es}:cellsOf (slx b es)=[slx b es]:=by cases b<;>cases es<;>rfl
@[simp] theorem GW{b es}:b6 (slx b es)=slx b es:=by cases b<;>cases es<;>rfl
@[simp] theorem Hs{b es}:aT (slx b es)=slx b es:=by cases b<;>cases es<;>rfl
@[simp] theorem D6{b es}:aJ (slx b es)=[]:=by cases b<;>cases es<;>rfl
@[simp] theorem FN{b es}:bC (slx b es)=[]:=by cases b<;>cases es<;>rfl
@[simp] theorem O3{f:Nat->D}{b es}:dp1 f (slx b es)=slx b es:=by cases b<;>cases es<;>rfl
@[simp] theorem TH{f:Nat->D}{b es}:dp f (slx b es)=slx b es:=by cases b<;>cases es<;>rfl
@[simp] theorem HP{f:Nat->D}{b es}:aQ f (slx b es)=True:=by cases b<;>cases es<;>rfl
@[simp] theorem KX{f:Nat->D}{b es}:bW f (slx b es)=True:=by cases b<;>cases es<;>rfl
@[simp] theorem Sr{p i o b es}:ldc p i o (slx b es)=slx b es:=by cases b<;>cases es<;>rfl
def tP(d:D)(K:Nat->Prop)(_:Tag K):Prop:=match d with
 | .sl es=>K es.length
 | .nils=>K 0
 | .ref _ _ n=>K n
 | .rfx n _ _=>K n
 | _=>False
@[simp] theorem Nl{n sz ds K u}:tP (.rfx n sz ds) K u=K n:=zR
@[simp] theorem Sw{es K u}:tP (.sl es) K u=K es.length:=zR
@[simp] theorem I3{K u}:tP .nils K u=K 0:=zR
@[simp] theorem Nk{p k n K u}:tP (.ref p k n) K u=K n:=zR
@[simp] theorem Nm{b es K u}:tP (slx b es) K u=K es.length:=by cases b<;>cases es<;>rfl
@[simp] theorem JB{n ds}:o5 true n ds=.agg (ds.take n):=zR
@[simp] theorem F0{n ds}:o5 false n ds=ds.headD .any:=zR
@[simp] theorem Nq{t}:ae [] t=.any:=rfl
def lk(b:Bool)(d:D)(r:Env)(t:Nat):D:=match b with
 | true=>d
 | false=>ae r t
@[simp] theorem Sx{d r t}:lk true d r t=d:=rfl
@[simp] theorem Nn{d r t}:lk false d r t=ae r t:=rfl
@[simp] theorem I4{s d r t}:ae ((s,d)::r) t=lk (s==t) d r t:=by
 by_cases h:s=t
 ·subst h;simp[ae]
 ·rw[show(s==t)=false by simp[h]];simp[ae,h]
@[simp] theorem IE{e}:rX [] e=[]:=zR
@[simp] theorem E9{t ts e}:rX (t::ts) e=(t,ae e t)::rX ts e:=zR
@[simp] theorem Ef:na []=[]:=zR
@[simp] theorem Cz{t d r}:na ((t,d)::r)=bC d++na r:=zR
@[simp] theorem J1{e ks}:vL e [] ks=ks:=zR
@[simp] theorem GE{e r rs ks}:vL e (r::rs) ks=vL e rs (if (ks.map (·.1)).contains r then ks else ks++[(r,ae e r)]):=zR
def gR(f:Nat->D)(d:D)(ns:List Nat)(K:List D->List Nat->Prop)(_:Tag K):Prop:=fK f d ns K
def gn(f:Nat->D)(d:D)(K:D->List Nat->Prop)(_:Tag K):Prop:=dj f d K
def rj(f:Nat->D)(ds:List D)(K:List D->List Nat->Prop)(_:Tag K):Prop:=iX f ds K
def xH(b n:Nat)(x:D)(K:D->List Nat->Prop)(_:Tag K):Prop:=match x with
 | .blk sz es=>es.length=n/\(∀e∈es,∀c∈e,aI c=true)/\K (.own sz es) [b]
 | _=>False
@[simp] theorem JR{b n sz es K u}:xH b n (.blk sz es) K u=(es.length=n/\(∀e∈es,∀c∈e,aI c=true)/\K (.own sz es) [b]):=zR
theorem dX{f:Nat->D}{d:D}{K:D->List Nat->Prop}{u}(h:aI d=true):gn f d K u=K d []:=by
 cases d<;>simp[aI]at h<;>simp[gn,dj,aI]
@[simp] theorem Gx{f b k n K u}:gn f (.ref (.r b) k n) K u=(k=0/\xH b n (f b) K ⟨⟩):=by
 simp only[gn,dj,xH]
 cases f b<;>rfl
theorem fJ{f:Nat->D}{d:D}{K:List D->List Nat->Prop}{u}(h:aI d=true):gR f d [] K u=K [d] []:=by
 cases d<;>simp[aI]at h<;>simp[gR,fK,dj,aI,eJ]
@[simp] theorem JU{f ds K u}:gR f (.agg ds) [] K u=((∀c∈ds,aI c=true)/\K ds []):=by simp[gR,fK,eJ]
@[simp] theorem JV{f ds K u}:gR f (.agx ds) [] K u=rj f ds (fun cs bs=>bN bs=true/\K cs bs) ⟨⟩:=by simp[gR,rj,fK,eJ]
@[simp] theorem JY{f b k n K u}:gR f (.ref (.r b) k n) [] K u=(k=0/\xH b n (f b) (fun c bs=>K [c] bs) ⟨⟩):=by
 simp only[gR,fK,dj,xH,eJ,if_true,true_or,true_and]
 cases f b<;>rfl
@[simp] theorem GA{f K u}:rj f [] K u=K [] []:=zR
@[simp] theorem Ev{f d ds K u}:rj f (d::ds) K u=gn f d (fun c bs=>rj f ds (fun cs bs'=>K (c::cs) (bs++bs')) ⟨⟩) ⟨⟩:=zR
@[simp] theorem Gu{f k n K u}:gn f (.int k n) K u=K (.int k n) []:=dX rfl
@[simp] theorem JW{f k n K u}:gR f (.int k n) [] K u=K [.int k n] []:=fJ rfl
@[simp] theorem Es{f n K u}:gn f (.bool n) K u=K (.bool n) []:=dX rfl
@[simp] theorem GB{f n K u}:gR f (.bool n) [] K u=K [.bool n] []:=fJ rfl
@[simp] theorem Gz{f n K u}:gn f (.str n) K u=K (.str n) []:=dX rfl
@[simp] theorem J0{f n K u}:gR f (.str n) [] K u=K [.str n] []:=fJ rfl
@[simp] theorem Et{f  K u}:gn f .nilp K u=K .nilp []:=dX rfl
@[simp] theorem GC{f  K u}:gR f .nilp [] K u=K [.nilp] []:=fJ rfl
@[simp] theorem Eu{f  K u}:gn f .nils K u=K .nils []:=dX rfl
@[simp] theorem GD{f  K u}:gR f .nils [] K u=K [.nils] []:=fJ rfl
@[simp] theorem JT{f n K u}:gn f (.sl n) K u=K (.sl n) []:=dX rfl
@[simp] theorem OC{f n K u}:gR f (.sl n) [] K u=K [.sl n] []:=fJ rfl
@[simp] theorem Gw{f n K u}:gn f (.ptr n) K u=K (.ptr n) []:=dX rfl
@[simp] theorem JX{f n K u}:gR f (.ptr n) [] K u=K [.ptr n] []:=fJ rfl
@[simp] theorem JS{f g n K u}:gn f (.fn g n) K u=K (.fn g n) []:=dX rfl
@[simp] theorem OB{f g n K u}:gR f (.fn g n) [] K u=K [.fn g n] []:=fJ rfl
@[simp] theorem Gy{f b n K u}:gn f (slx b n) K u=K (slx b n) []:=dX (by simp)
@[simp] theorem JZ{f b n K u}:gR f (slx b n) [] K u=K [slx b n] []:=fJ (by simp)
def qJ(f:Nat->D)(sz:Nat)(ps:List (Nat×Opd))(es:List (List D))(bs:List Nat)(K:List (List D)->List Nat->Prop)(_:Tag K):Prop:=fA f sz [] ps es bs K
@[simp] theorem F1{f sz es bs K u}:qJ f sz [] es bs K u=K es bs:=zR
@[simp] theorem Ee{f sz i x ps es bs K u}:qJ f sz ((i,x)::ps) es bs K u=(i<es.length/\gR f (vd f x) [] (fun cs bs'=>cs.length=sz/\qJ f sz ps (es.set i cs) (bs++bs') K ⟨⟩) ⟨⟩):=zR
def jt(f:Nat->D)(mv:Bool)(d:D)(sz:Nat)(K:List (List D)->List Nat->Prop)(_:Tag K):Prop:=fH f mv d sz K
def F6(b n sz:Nat)(x:D)(K:List (List D)->List Nat->Prop)(_:Tag K):Prop:=match x with
 | .blk sz' es=>sz'=sz/\es.length=n/\(∀e∈es,∀c∈e,isC c=true)/\K es [b]
 | _=>False
@[simp] theorem Oa{b n sz sz' es K u}:F6 b n sz (.blk sz' es) K u=(sz'=sz/\es.length=n/\(∀e∈es,∀c∈e,isC c=true)/\K es [b]):=zR
def F7(k n sz:Nat)(x:Option (Nat×List (List D)))(K:List (List D)->List Nat->Prop)(_:Tag K):Prop:=match x with
 | some (sz',es)=>sz'=sz/\k+n<=es.length/\(∀e∈(es.drop k).take n,∀c∈e,aI c=true)/\K ((es.drop k).take n) []
 | none=>False
@[simp] theorem JE{k n sz sz' es K u}:F7 k n sz (some (sz',es)) K u=(sz'=sz/\k+n<=es.length/\(∀e∈(es.drop k).take n,∀c∈e,aI c=true)/\K ((es.drop k).take n) []):=zR
@[simp] theorem F8{f mv sz K u}:jt f mv .nils sz K u=K [] []:=zR
@[simp] theorem Oh{f mv es sz K u}:jt f mv (.sl es) sz K u=((∀e∈es,e.length=sz/\∀c∈e,aI c=true)/\K es []):=zR
@[simp] theorem JI{f mv b es sz K u}:jt f mv (slx b es) sz K u=((∀e∈es,e.length=sz/\∀c∈e,aI c=true)/\K es []):=by
 rcases fe b es with h|⟨h,rfl⟩<;>rw[h]<;>simp
@[simp] theorem Og{f b k n sz K u}:jt f true (.ref (.r b) k n) sz K u=(k=0/\F6 b n sz (f b) K ⟨⟩):=by
 simp only[jt,fH,F6]
 cases f b<;>rfl
@[simp] theorem JH{f p k n sz K u}:jt f false (.ref p k n) sz K u=F7 k n sz (aY f p) K ⟨⟩:=by
 simp only[jt,fH,F7]
 cases aY f p<;>rfl
def dY(f:Nat->D)(o:Option Opd)(dflt:Nat)(K:Nat->Prop)(_:Tag K):Prop:=eL f o dflt K
def Ke(d:D)(K:Nat->Prop)(_:Tag K):Prop:=match d with
 | .int _ n=>0<=n/\K n.toNat
 | _=>False
@[simp] theorem Kf{k n K u}:Ke (.int k n) K u=(0<=n/\K n.toNat):=zR
@[simp] theorem Df{f n K u}:dY f none n K u=K n:=zR
@[simp] theorem Dg{f x n K u}:dY f (some x) n K u=Ke (vd f x) K ⟨⟩:=zR
def il(x:Option (List D))(K:List D->Prop)(_:Tag K):Prop:=match x with
 | some r=>K r
 | none=>False
@[simp] theorem JG{r K u}:il (some r) K u=K r:=zR
@[simp] theorem JF{K u}:il none K u=False:=zR
theorem gF{x:Option (List D)}{K:List D->Prop}{u}:il x K u=∃r,x=some r/\K r:=by
 cases x<;>simp[il]
def kw(x:Option D)(K:Nat->List (List D)->Prop)(_:Tag K):Prop:=match x with
 | some (.own sz es)=>K sz es
 | _=>False
@[simp] theorem N5{sz es K u}:kw (some (.own sz es)) K u=K sz es:=zR
theorem jL{x:Option D}{K:Nat->List (List D)->Prop}{u}:kw x K u=∃sz es,x=some (.own sz es)/\K sz es:=by
 cases x with
 | none=>simp[kw]
 | some d =>
  cases d<;>simp[kw]
  exact⟨fun h=>⟨_,_,⟨rfl,rfl⟩,h⟩,by rintro⟨_,_,⟨rfl,rfl⟩,h⟩;exact h⟩
def Bi(x:Option D)(K:D->Prop)(_:Tag K):Prop:=match x with
 | some d=>K d
 | none=>False
@[simp] theorem Ha{d K u}:Bi (some d) K u=K d:=zR
theorem Bj{x:Option D}{K:D->Prop}{u}:Bi x K u=∃d,x=some d/\K d:=by
 cases x<;>simp[Bi]
def dC(x:D)(K:Nat->List (List D)->Prop)(_:Tag K):Prop:=match x with
 | .blk sz es=>K sz es
 | _=>False
@[simp] theorem Kd{sz es K u}:dC (.blk sz es) K u=K sz es:=zR
abbrev CC:=Nat->List D->D->List D->Prop
abbrev KT:=List (Nat×D)->List (Nat×Bool)->Prop
section
variable{C:CC}{Q:cu->Env->Prop}{e e':Env}{d:D}
def wN(C:CC)(c:dB)(Q:cu->Env->Prop)(_:Tag (c,Q))(e:Env):Prop:=wpN C c Q e
def uU(C:CC)(c:dB)(Q:cu->Env->Prop)(_:Tag (c,Q))(e:Env):Prop:=wpN C (.loop c) Q e
def wE(C:CC)(K:Env->Prop)(ns:List az)(_:Tag (K,ns))(e:Env):Prop:=iU C K ns e
def ub(C:CC)(hs:List Nat)(K:Env->Prop)(ns:List az)(_:Tag (K,ns))(e:Env)(acc:List (List Nat×List Nat)):Prop:=j6 C hs K ns e acc
def LB(hs:List Nat)(acc:List (List Nat×List Nat)):Prop:=kX hs acc.reverse=true
theorem ao{hs:List Nat}{acc:List (List Nat×List Nat)}(h:kX hs acc.reverse=true):LB hs acc:=h
def DE(C:CC)(K:Env->Prop)(ns:List az)(e:Env):KT:=fun ws ks=>iU C K ns (ws++ef ks e)
def Ks(C:CC)(hs:List Nat)(K:Env->Prop)(ns:List az)(e:Env)(R:List Nat)(acc:List (List Nat×List Nat)):KT:=fun ws ks=>wOk R ws ks=true/\j6 C hs K ns (ws++ef ks e) ((R,wrK ws ks)::acc)
def bL(Q:cu->Env->Prop)(_:Tag Q)(t:cu)(e:Env):Prop:=Q t e
def fin(res:List (Nat×Option (Nat×Bool)))(d:D):cu->Env->Prop:=fun t e=>(match t with
   | .ext _=>False
   | _=>True)/\fG res d e
def CG(C:CC)(y:dB)(Q:cu->Env->Prop):cu->Env->Prop:=fun t e'=>match t with
  | .nrm=>wpN C y Q e'
  | t=>Q t e'
def qi(id:Nat)(Q:cu->Env->Prop):cu->Env->Prop:=fun t e'=>match t with
  | .ext i=>if i=id then Q .nrm e' else Q (.ext i) e'
  | t=>Q t e'
def Cw(keep:List Nat)(Q:cu->Env->Prop):Env->Prop:=fun e'=>Q .nrm (prune keep e')
def kOf(C:CC)(hs:Option (List Nat))(K:Env->Prop)(ns:List az)(e:Env)(R:List Nat)(acc:List (List Nat×List Nat)):KT :=
 match hs with
 | none=>DE C K ns e
 | some hs=>Ks C hs K ns e R acc
def doW(C:CC)(hs:Option (List Nat))(K:Env->Prop)(ns:List az)(_:Tag (hs,K,ns))(e:Env)(R:List Nat)(acc:List (List Nat×List Nat))(ws:List (Nat×D))(ks:List (Nat×Bool)):Prop:=kOf C hs K ns e R acc ws ks
def opW(C:CC)(hs:Option (List Nat))(K:Env->Prop)(ns:List az)(dst:Option Nat)(op:NOp)(_:Tag (hs,K,ns,dst,op))(e:Env)(R:List Nat)(acc:List (List Nat×List Nat)):Prop:=aL C (ae e) dst (kOf C hs K ns e R acc) op
def dW(C:CC)(hs:Option (List Nat))(K:Env->Prop)(ns:List az)(dst:Option Nat)(_:Tag (hs,K,ns))(e:Env)(R:List Nat)(acc:List (List Nat×List Nat))(d:D):Prop:=dJ dst (kOf C hs K ns e R acc) d
def rr(C:CC)(g:Nat)(hs:Option (List Nat))(K:Env->Prop)(ns:List az)(dst:Option Nat)(_:Tag (hs,K,ns))(e:Env)(R:List Nat)(acc:List (List Nat×List Nat))(pure:Bool)(ds:List D):Prop :=
 ∃d,C g ds d []/\(isF d=true\/pure=true)/\dJ dst (kOf C hs K ns e R acc) d
theorem ai{prog:Nat->Option ap}(hC:ay prog C){g:Nat}{nf:ap}{ds:List D}(hp:prog g=some nf)(hl:ds.length=nf.np)(h:wN C nf.body (fin nf.res d) ⟨⟩ (params 0 ds)):C g ds d []:=hC.1.1 g nf ds d hp hl h
def tx(res:List (Nat×Option (Nat×Bool)))(sz:Nat)(es:List (List D)):cu->Env->Prop:=fun t e=>(match t with
   | .ext _=>False
   | _=>True)/\kA res sz es e
theorem kE{prog:Nat->Option ap}(hC:ay prog C){g:Nat}{nf:ap}{ds:List D}{sz:Nat}{es:List (List D)}(hp:prog g=some nf)(hl:ds.length=nf.np)(h:wN C nf.body (tx nf.res sz es) ⟨⟩ (params 0 ds)):C g ds .any [.own sz es]:=hC.1.2.2.1 g nf ds sz es hp hl h
def wh(res:List (Nat×Option (Nat×Bool)))(d:D):cu->Env->Prop:=fun t e=>(match t with
   | .ext _=>False
   | _=>True)/\kz res d e
def qt(res:List (Nat×Option (Nat×Bool)))(d:D)(sz:Nat)(es':List (List D)):cu->Env->Prop:=fun t e=>(match t with
   | .ext _=>False
   | _=>True)/\(0<es'.length/\ae e 10015=.blk sz es')/\fG res d ((10015,.any)::e)
theorem uo{prog:Nat->Option ap}(hC:ay prog C){g:Nat}{nf:ap}{ds:List D}{d:D}{sz:Nat}{es es':List (List D)}(hp:prog g=some nf)(hl:ds.length+1=nf.np)(h:wN C nf.body (qt nf.res d sz es') ⟨⟩ ((0,.adr (.r 10015) 0 0)::(params 1 ds++[(10015,.blk sz es)]))):C g (.blk sz es::ds) d [.blk sz es']:=hC.1.2.2.2.2.1 g nf ds d sz es es' hp hl h
theorem Gl{prog:Nat->Option ap}(hC:mX prog C){g:Nat}{nf:ap}{W:List D}{d:D}{sz:Nat}{es es':List (List D)}(hp:prog g=some nf)(hl:W.length=nf.np)(h:wN C nf.body (qt nf.res d sz es') ⟨⟩ (params 0 W++[(10015,.blk sz es)])):C g (.blk sz es::W) d [.blk sz es',.nilp]:=hC.2.2.2.2.2.1 g nf W d sz es es' hp hl h
def wi(res:List (Nat×Option (Nat×Bool)))(sz:Nat)(es:List (List D)):cu->Env->Prop:=fun t e=>(match t with
   | .ext _=>False
   | _=>True)/\kB res sz es e
def tw(res:List (Nat×Option (Nat×Bool)))(R:D):cu->Env->Prop:=fun t e=>(match t with
   | .ext _=>False
   | _=>True)/\sL res R e
theorem Gk{prog:Nat->Option ap}(hC:ay prog C){g:Nat}{nf:ap}{ds:List D}{R:D}(hp:prog g=some nf)(hl:ds.length=nf.np)(hok:okR R=true)(h:wN C nf.body (tw nf.res R) ⟨⟩ (params 0 ds)):C g ds R [.nils]:=hC.1.2.2.2.2.2.2.2 g nf ds R hp hl hok h
def tk(C:CC)(g:Nat)(hs:Option (List Nat))(K:Env->Prop)(ns:List az)(t:Nat)(_:Tag (hs,K,ns))(e:Env)(R:List Nat)(acc:List (List Nat×List Nat))(ds:List D):Prop :=
 (∃d,C g ds d []/\dJ (some t) (kOf C hs K ns e R acc) d)\/∃d,okR d=true/\C g ds d [.nils]/\kOf C hs K ns e R acc ((t,fD t d)::aZ t d) (fq t d)
theorem vW{g:Nat}{hs:Option (List Nat)}{K:Env->Prop}{ns:List az}{t:Nat}{u:Tag (hs,K,ns)}{R:List Nat}{acc:List (List Nat×List Nat)}{ds:List D}{d:D}(h:C g ds d [.nils])(hok:okR d=true)(hk:doW C hs K ns ⟨⟩ e R acc ((t,fD t d)::aZ t d) (fq t d)):tk C g hs K ns t u e R acc ds:=.inr ⟨d,hok,h,hk⟩
theorem vV{g:Nat}{hs:Option (List Nat)}{K:Env->Prop}{ns:List az}{t:Nat}{u:Tag (hs,K,ns)}{R:List Nat}{acc:List (List Nat×List Nat)}{ds:List D}{d:D}(h:C g ds d [])(hk:dW C hs K ns (some t) ⟨⟩ e R acc d):tk C g hs K ns t u e R acc ds:=.inl ⟨d,h,hk⟩
def xN(C:CC)(g:Nat)(hs:Option (List Nat))(K:Env->Prop)(ns:List az)(t:Nat)(_:Tag (hs,K,ns))(e:Env)(R:List Nat)(acc:List (List Nat×List Nat))(ds:List D):Prop :=
 ∃sz es,C g ds .any [.own sz es]/\kOf C hs K ns e R acc [(t,.ref (.r (rt t 0)) 0 es.length),(rt t 0,.blk sz es)] [(rt t 0,true)]
theorem gU{g:Nat}{hs:Option (List Nat)}{K:Env->Prop}{ns:List az}{t:Nat}{u:Tag (hs,K,ns)}{R:List Nat}{acc:List (List Nat×List Nat)}{ds:List D}{sz:Nat}{es:List (List D)}(h:C g ds .any [.own sz es])(hk:doW C hs K ns ⟨⟩ e R acc [(t,.ref (.r (rt t 0)) 0 es.length),(rt t 0,.blk sz es)] [(rt t 0,true)]):xN C g hs K ns t u e R acc ds:=⟨sz,es,h,hk⟩
@[simp] theorem TN{f:Nat->D}{b t:Nat}:fbE f b t=if t=b then .any else f t:=zR
theorem aa{g:Nat}{hs:Option (List Nat)}{K:Env->Prop}{ns:List az}{dst:Option Nat}{u:Tag (hs,K,ns)}{R:List Nat}{acc:List (List Nat×List Nat)}{p:Bool}{ds:List D}(h:C g ds d [])(hf:isF d=true\/p=true)(hk:dW C hs K ns dst ⟨⟩ e R acc d):rr C g hs K ns dst u e R acc p ds:=⟨d,h,hf,hk⟩
def qU(S:Type)(G:S->Env)(I:S->Prop)(m:S->Nat)(s:S)(Q:cu->Env->Prop):cu->Env->Prop:=fun t e'=>match t with
    | .nrm=>∃s',I s'/\m s'<m s/\kJ e' (G s')
    | t=>Q t e'
theorem au{c:dB}{u:Tag (c,Q)}(S:Type)(G:S->Env)(I:S->Prop)(m:S->Nat)(s0:S)(h0:I s0)(hw:kJ e (G s0))
  (h:∀s,I s->wN C c (qU S G I m s Q) ⟨⟩ (G s)):uU C c Q u e:=⟨S,G,I,m,s0,h0,hw,h⟩
@[simp] theorem Td{u}:wN C .skip Q u e=bL Q ⟨⟩ .nrm e:=zR
@[simp] theorem Ux{hs keep ops u}:wN C (.reg false hs keep ops) Q u e=wE C (Cw keep Q) ops ⟨⟩ e:=zR
@[simp] theorem Ta{hs keep ops u}:wN C (.reg true hs keep ops) Q u e=ub C hs (Cw keep Q) ops ⟨⟩ e []:=zR
@[simp] theorem Uz{x y u}:wN C (.seq x y) Q u e=wN C x (CG C y Q) ⟨⟩ e:=zR
def brB(b:Bool)(X Y:Prop)(_:Tag (X,Y)):Prop:=(b=true->X)/\(b=false->Y)
theorem ac{b:Bool}{X Y:Prop}{u}(h1:b=true->X)(h2:b=false->Y):brB b X Y u:=⟨h1,h2⟩
@[simp] theorem Km{X Y:Prop}{u}:brB true X Y u=X:=by simp[brB]
@[simp] theorem G9{X Y:Prop}{u}:brB false X Y u=Y:=by simp[brB]
def cdW(C:CC)(x y:dB)(Q:cu->Env->Prop)(_:Tag (x,y,Q))(e:Env)(d:D):Prop:=match d with
 | .bool b=>brB b (wN C x Q ⟨⟩ e) (wN C y Q ⟨⟩ e) ⟨⟩
 | .bb=>wN C x Q ⟨⟩ e/\wN C y Q ⟨⟩ e
 | _=>False
@[simp] theorem Th{x y u}:cdW C x y Q u e .bb=(wN C x Q ⟨⟩ e/\wN C y Q ⟨⟩ e):=zR
@[simp] theorem Kn{x y u b}:cdW C x y Q u e (.bool b)=brB b (wN C x Q ⟨⟩ e) (wN C y Q ⟨⟩ e) ⟨⟩:=zR
@[simp] theorem S9{c x y u}:wN C (.cond c x y) Q u e=cdW C x y Q ⟨⟩ e (vd (ae e) c):=zR
@[simp] theorem Oz{id c u}:wN C (.block id c) Q u e=wN C c (qi id Q) ⟨⟩ e:=zR
@[simp] theorem Tc{c u}:wN C (.loop c) Q u e=uU C c Q ⟨⟩ e:=zR
@[simp] theorem Tb{id u}:wN C (.exit id) Q u e=bL Q ⟨⟩ (.ext id) e:=zR
@[simp] theorem Uy{u}:wN C .ret Q u e=bL Q ⟨⟩ .ret e:=zR
@[simp] theorem BC{y u}:bL (CG C y Q) u .nrm e=wN C y Q ⟨⟩ e:=zR
@[simp] theorem BB{y u i}:bL (CG C y Q) u (.ext i) e=bL Q ⟨⟩ (.ext i) e:=zR
@[simp] theorem BD{y u}:bL (CG C y Q) u .ret e=bL Q ⟨⟩ .ret e:=zR
@[simp] theorem ye{id u}:bL (qi id Q) u .nrm e=bL Q ⟨⟩ .nrm e:=zR
@[simp] theorem yc{id u i}:bL (qi id Q) u (.ext i) e=if i=id then bL Q ⟨⟩ .nrm e else bL Q ⟨⟩ (.ext i) e:=zR
@[simp] theorem yf{id u}:bL (qi id Q) u .ret e=bL Q ⟨⟩ .ret e:=zR
@[simp] theorem Bt{r u}:bL (fin r d) u .nrm e=fG r d e:=by simp[bL,fin]
@[simp] theorem Bu{r u}:bL (fin r d) u .ret e=fG r d e:=by simp[bL,fin]
@[simp] theorem AY{r d}{u:Tag (wh r d)}:bL (wh r d) u .nrm e=kz r d e:=by simp[bL,wh]
@[simp] theorem AZ{r d}{u:Tag (wh r d)}:bL (wh r d) u .ret e=kz r d e:=by simp[bL,wh]
@[simp] theorem AW{r sz es}{u:Tag (tx r sz es)}:bL (tx r sz es) u .nrm e=kA r sz es e:=by simp[bL,tx]
@[simp] theorem AX{r sz es}{u:Tag (tx r sz es)}:bL (tx r sz es) u .ret e=kA r sz es e:=by simp[bL,tx]
@[simp] theorem A3{r d sz es}{u:Tag (qt r d sz es)}:bL (qt r d sz es) u .nrm e=((0<es.length/\ae e 10015=.blk sz es)/\fG r d ((10015,.any)::e)):=by simp[bL,qt]
@[simp] theorem A4{r d sz es}{u:Tag (qt r d sz es)}:bL (qt r d sz es) u .ret e=((0<es.length/\ae e 10015=.blk sz es)/\fG r d ((10015,.any)::e)):=by simp[bL,qt]
@[simp] theorem A0{r sz es}{u:Tag (wi r sz es)}:bL (wi r sz es) u .nrm e=kB r sz es e:=by simp[bL,wi]
@[simp] theorem A1{r sz es}{u:Tag (wi r sz es)}:bL (wi r sz es) u .ret e=kB r sz es e:=by simp[bL,wi]
@[simp] theorem AU{r d}{u:Tag (tw r d)}:bL (tw r d) u .nrm e=sL r d e:=by simp[bL,tw]
@[simp] theorem AV{r d}{u:Tag (tw r d)}:bL (tw r d) u .ret e=sL r d e:=by simp[bL,tw]
@[simp] theorem yi{S G I m s u}:bL (qU S G I m s Q) u .nrm e=∃s',I s'/\m s'<m s/\kJ e (G s'):=zR
@[simp] theorem yg{S G I m s u i}:bL (qU S G I m s Q) u (.ext i) e=bL Q ⟨⟩ (.ext i) e:=zR
@[simp] theorem yj{S G I m s u}:bL (qU S G I m s Q) u .ret e=bL Q ⟨⟩ .ret e:=zR
end
section
variable{C:CC}{Q:cu->Env->Prop}{e:Env}{K:Env->Prop}{dst:Option Nat}{d:D}{hs:Option (List Nat)}{ns:List az}{R:List Nat}{acc:List (List Nat×List Nat)}{u:Tag (hs,K,ns)}
@[simp] theorem N3{keep u}:wE C (Cw keep Q) [] u e=bL Q ⟨⟩ .nrm (prune keep e):=zR
@[simp] theorem N2{h keep u}:ub C h (Cw keep Q) [] u e acc=(LB h acc/\bL Q ⟨⟩ .nrm (prune keep e)):=zR
@[simp] theorem Jx{dst op ns u}:wE C K (⟨dst,op,none⟩::ns) u e=opW C none K ns dst op ⟨⟩ e [] []:=zR
@[simp] theorem Jv{h dst op ns u}:ub C h K (⟨dst,op,none⟩::ns) u e acc=(chk (ae e) ⟨dst,op,none⟩=true/\opW C (some h) K ns dst op ⟨⟩ e (jb (ae e) ⟨dst,op,none⟩) acc):=zR
def oH(C:CC)(h:List Nat)(K:Env->Prop)(ns:List az)(_:Tag (h,K,ns))(e:Env)(dst:Option Nat)(R:List Nat)(acc:List (List Nat×List Nat)):Prop:=ip e dst fun e'=>j6 C h K ns e' ((R,we dst)::acc)
@[simp] theorem Gc{h t ns u}:oH C h K ns u e (some t) R acc=ub C h K ns ⟨⟩ ((t,.tup [])::e) ((R,[4*t])::acc):=zR
@[simp] theorem Gb{h ns u}:oH C h K ns u e none R acc=ub C h K ns ⟨⟩ e ((R,[])::acc):=zR
def gdT(C:CC)(K:Env->Prop)(ns:List az)(dst:Option Nat)(op:NOp)(s:Nat)(want:Bool)(_:Tag (K,ns))(e:Env)(d:D):Prop:=match d with
 | .bool b=>(b=want->opW C none K ns dst op ⟨⟩ ((s,.bool want)::e) [] [])/\(b=!want->dW C none K ns dst ⟨⟩ ((s,.bool !want)::e) [] [] (.tup []))
 | .tup []=>dW C none K ns dst ⟨⟩ e [] [] (.tup [])
 | _=>False
@[simp] theorem Lk{op s b u}:gdT C K ns dst op s true u e (.bool b)=brB b (opW C none K ns dst op ⟨⟩ ((s,.bool true)::e) [] []) (dW C none K ns dst ⟨⟩ ((s,.bool false)::e) [] [] (.tup [])) ⟨⟩:=zR
@[simp] theorem H1{op s b u}:gdT C K ns dst op s false u e (.bool b)=brB b (dW C none K ns dst ⟨⟩ ((s,.bool true)::e) [] [] (.tup [])) (opW C none K ns dst op ⟨⟩ ((s,.bool false)::e) [] []) ⟨⟩:=by
 simp only[gdT,brB,Bool.not_false];exact propext ⟨fun h=>⟨h.2,h.1⟩,fun h=>⟨h.2,h.1⟩⟩
@[simp] theorem Lj{op s want u}:gdT C K ns dst op s want u e (.tup [])=dW C none K ns dst ⟨⟩ e [] [] (.tup []):=zR
@[simp] theorem Jy{dst op s want ns u}:wE C K (⟨dst,op,some (s,want)⟩::ns) u e=gdT C K ns dst op s want ⟨⟩ e (ae e s):=by
 simp only[wE,iU,opW,tc,ip,gdT,dW,dJ,kOf,DE,ef]
 cases ae e s<;>cases dst<;>(first|rfl|(rename_i x _ ;cases x<;>rfl)|(rename_i x;cases x<;>rfl))
def gdD(C:CC)(h:List Nat)(K:Env->Prop)(ns:List az)(dst:Option Nat)(op:NOp)(want:Bool)(_:Tag (K,ns))(e:Env)(R:List Nat)(acc:List (List Nat×List Nat))(d:D):Prop:=match d with
 | .bool b=>(b=want->opW C (some h) K ns dst op ⟨⟩ e R acc)/\(b=!want->oH C h K ns ⟨⟩ e dst R acc)
 | .tup []=>oH C h K ns ⟨⟩ e dst R acc
 | _=>False
@[simp] theorem Li{h op b u}:gdD C h K ns dst op true u e R acc (.bool b)=brB b (opW C (some h) K ns dst op ⟨⟩ e R acc) (oH C h K ns ⟨⟩ e dst R acc) ⟨⟩:=zR
@[simp] theorem H0{h op b u}:gdD C h K ns dst op false u e R acc (.bool b)=brB b (oH C h K ns ⟨⟩ e dst R acc) (opW C (some h) K ns dst op ⟨⟩ e R acc) ⟨⟩:=by
 simp only[gdD,brB,Bool.not_false];exact propext ⟨fun h=>⟨h.2,h.1⟩,fun h=>⟨h.2,h.1⟩⟩
@[simp] theorem Lh{h op want u}:gdD C h K ns dst op want u e R acc (.tup [])=oH C h K ns ⟨⟩ e dst R acc:=zR
@[simp] theorem Jw{h dst op s want ns u}:ub C h K (⟨dst,op,some (s,want)⟩::ns) u e acc=(chk (ae e) ⟨dst,op,some (s,want)⟩=true/\gdD C h K ns dst op want ⟨⟩ e (jb (ae e) ⟨dst,op,some (s,want)⟩) acc (ae e s)):=zR
@[simp] theorem Kx{K ns u ws ks}:doW C none K ns u e R acc ws ks=wE C K ns ⟨⟩ (ws++ef ks e):=zR
@[simp] theorem Kw{h K ns u ws ks}:doW C (some h) K ns u e R acc ws ks=(wOk R ws ks=true/\ub C h K ns ⟨⟩ (ws++ef ks e) ((R,wrK ws ks)::acc)):=zR
@[simp] theorem OK{t}:dW C hs K ns (some t) u e R acc d=doW C hs K ns ⟨⟩ e R acc [(t,d)] []:=zR
@[simp] theorem OJ:dW C hs K ns none u e R acc d=doW C hs K ns ⟨⟩ e R acc [] []:=zR
def aP(ks:List (Nat×Bool))(d:D):D:=if aN ks d then .any else d
theorem bP(ks:List (Nat×Bool))(d:D):aP ks d=bif aN ks d then .any else d:=by
 unfold aP;cases aN ks d<;>rfl
@[simp] theorem I2:ef [] e=e:=zR
@[simp] theorem I1{k ks}:ef (k::ks) []=[]:=zR
@[simp] theorem Ff{k ks s d}:ef (k::ks) ((s,d)::e)=(s,aP (k::ks) d)::ef (k::ks) e:=zR
@[simp] theorem II{ks}:aP ks .any=.any:=by simp[aP]
@[simp] theorem IP{ks k n}:aP ks (.int k n)=.int k n:=by simp[aP,aN,cT,aK]
@[simp] theorem Fc{ks n}:aP ks (.bool n)=.bool n:=by simp[aP,aN,cT,aK]
@[simp] theorem IY{ks n}:aP ks (.str n)=.str n:=by simp[aP,aN,cT,aK]
@[simp] theorem M9{ks}:aP ks .bb=.bb:=by simp[aP,aN,cT,aK]
@[simp] theorem Fd{ks}:aP ks .nilp=.nilp:=by simp[aP,aN,cT,aK]
@[simp] theorem Fe{ks}:aP ks .nils=.nils:=by simp[aP,aN,cT,aK]
@[simp] theorem IG{ks n}:aP ks (.agg n)=.agg n:=by simp[aP,aN,cT,aK]
@[simp] theorem I0{ks n}:aP ks (.tup n)=.tup n:=by simp[aP,aN,cT,aK]
@[simp] theorem Nc{ks n}:aP ks (.sl n)=.sl n:=by simp[aP,aN,cT,aK]
@[simp] theorem IS{ks n}:aP ks (.ptr n)=.ptr n:=by simp[aP,aN,cT,aK]
@[simp] theorem Na{ks g n}:aP ks (.fn g n)=.fn g n:=by simp[aP,aN,cT,aK]
@[simp] theorem IJ{ks g n}:aP ks (.blk g n)=.blk g n:=by simp[aP,aN,cT,aK]
@[simp] theorem Nb{ks kt et xs vs}:aP ks (.mp kt et xs vs)=.mp kt et xs vs:=by simp[aP,aN,cT,aK]
@[simp] theorem IU{b all ks p k n}:aP ((b,all)::ks) (.ref p k n)=if bQ b all p then .any else aP ks (.ref p k n):=by
 have h:aP ((b,all)::ks) (.ref p k n)=bif (bQ b all p||aN ks (.ref p k n)) then .any else .ref p k n:=bP ..
 rw[h,bP]
 cases bQ b all p<;>rfl
@[simp] theorem IF{b all ks p k n}:aP ((b,all)::ks) (.adr p k n)=if bQ b all p then .any else aP ks (.adr p k n):=by
 have h:aP ((b,all)::ks) (.adr p k n)=bif (bQ b all p||aN ks (.adr p k n)) then .any else .adr p k n:=bP ..
 rw[h,bP]
 cases bQ b all p<;>rfl
@[simp] theorem IH{b all ks n}:aP ((b,all)::ks) (.agx n)=if n.any (aK b all) then .any else aP ks (.agx n):=by
 have h:aP ((b,all)::ks) (.agx n)=bif (n.any (aK b all)||aN ks (.agx n)) then .any else .agx n:=bP ..
 rw[h,bP]
 cases n.any (aK b all)<;>rfl
@[simp] theorem IK{b all ks g n}:aP ((b,all)::ks) (.fnx g n)=if n.any (aK b all) then .any else aP ks (.fnx g n):=by
 have h:aP ((b,all)::ks) (.fnx g n)=bif (n.any (aK b all)||aN ks (.fnx g n)) then .any else .fnx g n:=bP ..
 rw[h,bP]
 cases n.any (aK b all)<;>rfl
@[simp] theorem IO{ks T n}:aP ks (.ifi T n)=.ifi T n:=by simp[aP,aN,cT,aK]
@[simp] theorem IW{ks q n}:aP ks (.slv q n)=.slv q n:=by simp[aP,aN,cT,aK]
@[simp] theorem IM{b all ks T p k n}:aP ((b,all)::ks) (.ifa T p k n)=if bQ b all p then .any else aP ks (.ifa T p k n):=by
 have h:aP ((b,all)::ks) (.ifa T p k n)=bif (bQ b all p||aN ks (.ifa T p k n)) then .any else .ifa T p k n:=bP ..
 rw[h,bP]
 cases bQ b all p<;>rfl
@[simp] theorem IL{b all ks g ds cs}:aP ((b,all)::ks) (.fny g ds cs)=if ds.any (aK b all)||cs.any (aK b all) then .any else aP ks (.fny g ds cs):=by
 have h:aP ((b,all)::ks) (.fny g ds cs)=bif ((ds.any (aK b all)||cs.any (aK b all))||aN ks (.fny g ds cs)) then .any else .fny g ds cs:=bP ..
 rw[h,bP]
 cases ds.any (aK b all)<;>cases cs.any (aK b all)<;>rfl
@[simp] theorem IR{d}:aP [] d=d:=by simp[aP,aN]
@[simp] theorem IX{ks b es}:aP ks (slx b es)=slx b es:=by cases b<;>cases es<;>simp[slx]
def iQ(C:CC)(hs:Option (List Nat))(K:Env->Prop)(ns:List az)(dst:Option Nat)(_:Tag (hs,K,ns))(e:Env)(R:List Nat)(acc:List (List Nat×List Nat))(sz:Nat)(es:List (List D))(i:Nat):Prop :=
 ∃c,es[i]? = some c/\c.length=sz/\dJ dst (kOf C hs K ns e R acc) (.ptr c)
@[simp] theorem Lz{α:Type}[Inhabited α]{sz:Nat}{xs:List α}{f:α->List D}{i:Nat}:iQ C hs K ns dst u e R acc sz (xs.map f) i=(i<xs.length/\(f xs[i]!).length=sz/\dW C hs K ns dst ⟨⟩ e R acc (.ptr (f xs[i]!))):=by
 apply propext
 unfold iQ dW
 constructor
 ·rintro⟨c,h,h1,h2⟩
  rw[x0B,x0n]at h
  obtain⟨x,hx,rfl⟩:=h
  obtain⟨hi,rfl⟩:=x0b.1 hx
  rw[x0f xs i hi]
  exact⟨hi,h1,h2⟩
 ·rintro⟨hi,h1,h2⟩
  rw[x0f xs i hi]at h1 h2
  exact⟨_,by rw[x0B,x0e hi];rfl,h1,h2⟩
def Ez(C:CC)(hs:Option (List Nat))(K:Env->Prop)(ns:List az)(dst:Option Nat)(_:Tag (hs,K,ns))(e:Env)(R:List Nat)(acc:List (List Nat×List Nat))(s:List UInt8)(i:Nat):Prop :=
 ∃b,s[i]? = some b/\dJ dst (kOf C hs K ns e R acc) (.int .u8 b.toNat)
@[simp] theorem OI{s:List UInt8}{i:Nat}:Ez C hs K ns dst u e R acc s i=(i<s.length/\dW C hs K ns dst ⟨⟩ e R acc (.int .u8 (s[i]!).toNat)):=by
 apply propext
 unfold Ez dW
 constructor
 ·rintro⟨b,h,h2⟩
  obtain⟨hi,rfl⟩:=x0b.1 h
  rw[x0f s i hi]
  exact⟨hi,h2⟩
 ·rintro⟨hi,h2⟩
  rw[x0f s i hi]at h2
  exact⟨_,x0e hi,h2⟩
def md(C:CC)(hs:Option (List Nat))(K:Env->Prop)(ns:List az)(dst:Option Nat)(_:Tag (hs,K,ns))(e:Env)(R:List Nat)(acc:List (List Nat×List Nat))(n:Nat)(ag:Bool)(p:Pa)(es:List (List D))(i off:Nat):Prop :=
 ∃r,es[i]? = some r/\off+n<=r.length/\match ag with
    | true=>(((r.drop off).take n).all isV=true->dJ dst (kOf C hs K ns e R acc) (.agg ((r.drop off).take n))) /\
      (((r.drop off).take n).all isV=false->dJ dst (kOf C hs K ns e R acc) (.agx (((r.drop off).take n).mapIdx fun j c=>ldc p i (off+j) c)))
    | false=>dJ dst (kOf C hs K ns e R acc) (ldc p i off ((r.drop off).headD .any))
theorem vg{n:Nat}{ag:Bool}{p:Pa}{es:List (List D)}{i off:Nat}{r:List D}(hr:es[i]? = some r)(hl:off+n<=r.length)(hk:match ag with
    | true=>(((r.drop off).take n).all isV=true->dW C hs K ns dst ⟨⟩ e R acc (.agg ((r.drop off).take n))) /\
      (((r.drop off).take n).all isV=false->dW C hs K ns dst ⟨⟩ e R acc (.agx (((r.drop off).take n).mapIdx fun j c=>ldc p i (off+j) c)))
    | false=>dW C hs K ns dst ⟨⟩ e R acc (ldc p i off ((r.drop off).headD .any))):md C hs K ns dst u e R acc n ag p es i off:=by
 refine⟨r,hr,hl,?_⟩
 cases ag<;>exact hk
@[simp] theorem Of{n:Nat}{ag:Bool}{p:Pa}{r:List D}{off:Nat}:md C hs K ns dst u e R acc n ag p [r] 0 off=(off+n<=r.length/\match ag with
    | true=>(((r.drop off).take n).all isV=true->dW C hs K ns dst ⟨⟩ e R acc (.agg ((r.drop off).take n))) /\
      (((r.drop off).take n).all isV=false->dW C hs K ns dst ⟨⟩ e R acc (.agx (((r.drop off).take n).mapIdx fun j c=>ldc p 0 (off+j) c)))
    | false=>dW C hs K ns dst ⟨⟩ e R acc (ldc p 0 off ((r.drop off).headD .any))):=by
 apply propext
 constructor
 ·rintro⟨r',h1,h2,h3⟩
  simp at h1;subst h1
  refine⟨h2,?_⟩
  cases ag<;>exact h3
 ·rintro⟨h2,h3⟩
  refine⟨r,rfl,h2,?_⟩
  cases ag<;>exact h3
end
section
variable{C:CC}{Q:cu->Env->Prop}{e:Env}{K:Env->Prop}{dst:Option Nat}{hs:Option (List Nat)}{ns:List az}{R:List Nat}{acc:List (List Nat×List Nat)}{u:Tag (hs,K,ns)}
@[simp] theorem SX{x v1}:opW C hs K ns dst (.mov x) v1 e R acc=(isS (vd (ae e) x)=true/\dW C hs K ns dst ⟨⟩ e R acc (vd (ae e) x)):=zR
@[simp] theorem S2{x v1}:opW C hs K ns dst (.nck x) v1 e R acc=(match (generalizing:=false) vd (ae e) x with
  | .ptr ds=>dW C hs K ns dst ⟨⟩ e R acc (.ptr ds)
  | .adr p i off=>dW C hs K ns dst ⟨⟩ e R acc (.adr p i off)
  | .ptx ds=>dW C hs K ns dst ⟨⟩ e R acc (.ptx ds)
  | _=>False):=zR
@[simp] theorem N1{c a b v1}:opW C hs K ns dst (.pick c a b) v1 e R acc=(match (generalizing:=false) vd (ae e) c with
  | .bool v=>(v=true->isS (vd (ae e) a)=true/\dW C hs K ns dst ⟨⟩ e R acc (vd (ae e) a))/\(v=false->isS (vd (ae e) b)=true/\dW C hs K ns dst ⟨⟩ e R acc (vd (ae e) b))
  | _=>False):=zR
@[simp] theorem SH{op x y v1}:opW C hs K ns dst (.bin op x y) v1 e R acc=(match (generalizing:=false) vd (ae e) x,vd (ae e) y with
  | .int k a,.int k' b=>match (generalizing:=false) op with
   | .add=>k=k'/\dW C hs K ns dst ⟨⟩ e R acc (.int k (k.wrap (a+b)))
   | .sub=>k=k'/\dW C hs K ns dst ⟨⟩ e R acc (.int k (k.wrap (a-b)))
   | .mul=>k=k'/\dW C hs K ns dst ⟨⟩ e R acc (.int k (k.wrap (a*b)))
   | .quo=>k=k'/\b≠0/\dW C hs K ns dst ⟨⟩ e R acc (.int k (k.wrap (a.tdiv b)))
   | .rem=>k=k'/\b≠0/\dW C hs K ns dst ⟨⟩ e R acc (.int k (a.tmod b))
   | .and=>k=k'/\dW C hs K ns dst ⟨⟩ e R acc (.int k (bits .and k a b))
   | .or=>k=k'/\dW C hs K ns dst ⟨⟩ e R acc (.int k (bits .or k a b))
   | .xor=>k=k'/\dW C hs K ns dst ⟨⟩ e R acc (.int k (bits .xor k a b))
   | .andNot=>k=k'/\dW C hs K ns dst ⟨⟩ e R acc (.int k (bits .andNot k a b))
   | .shl=>0<=b/\dW C hs K ns dst ⟨⟩ e R acc (.int k (k.wrap (a*2^(min b.toNat k.bits))))
   | .shr=>0<=b/\dW C hs K ns dst ⟨⟩ e R acc (.int k (a.fdiv (2^(min b.toNat k.bits))))
   | .eql=>k=k'/\dW C hs K ns dst ⟨⟩ e R acc (.bool (decide (a=b)))
   | .neq=>k=k'/\dW C hs K ns dst ⟨⟩ e R acc (.bool (!decide (a=b)))
   | .lss=>k=k'/\dW C hs K ns dst ⟨⟩ e R acc (.bool (decide (a<b)))
   | .leq=>k=k'/\dW C hs K ns dst ⟨⟩ e R acc (.bool (decide (a<=b)))
   | .gtr=>k=k'/\dW C hs K ns dst ⟨⟩ e R acc (.bool (decide (b<a)))
   | .geq=>k=k'/\dW C hs K ns dst ⟨⟩ e R acc (.bool (decide (b<=a)))
  | .str a,.str b=>match (generalizing:=false) op with
   | .eql=>dW C hs K ns dst ⟨⟩ e R acc (.bool (decide (a=b)))
   | .neq=>dW C hs K ns dst ⟨⟩ e R acc (.bool (!decide (a=b)))
   | .add=>((a++b).length:Int)<=9223372036854775807/\dW C hs K ns dst ⟨⟩ e R acc (.str (a++b))
   | .lss=>dW C hs K ns dst ⟨⟩ e R acc (.bool (Op.bytesLess a b))
   | .leq=>dW C hs K ns dst ⟨⟩ e R acc (.bool (Op.bytesLess a b||a==b))
   | .gtr=>dW C hs K ns dst ⟨⟩ e R acc (.bool !(Op.bytesLess a b||a==b))
   | .geq=>dW C hs K ns dst ⟨⟩ e R acc (.bool !(Op.bytesLess a b))
   | _=>False
  | _,_=>False):=zR
@[simp] theorem Uq{op x v1}:opW C hs K ns dst (.un op x) v1 e R acc=(match (generalizing:=false) vd (ae e) x with
  | .bool b=>match (generalizing:=false) op with
   | .not=>dW C hs K ns dst ⟨⟩ e R acc (.bool (!b))
   | _=>False
  | .int k n=>match (generalizing:=false) op with
   | .neg=>dW C hs K ns dst ⟨⟩ e R acc (.int k (k.wrap (0-n)))
   | _=>False
  | _=>False):=zR
@[simp] theorem NU{k x v1}:opW C hs K ns dst (.conv k x) v1 e R acc=(match (generalizing:=false) vd (ae e) x with
  | .int _ n=>dW C hs K ns dst ⟨⟩ e R acc (.int k (k.wrap n))
  | _=>False):=zR
@[simp] theorem SG{neg ks x y v1}:opW C hs K ns dst (.beq neg ks x y) v1 e R acc=(match (generalizing:=false) vd (ae e) x,vd (ae e) y with
  | .bool a,.bool b=>ks=[]/\dW C hs K ns dst ⟨⟩ e R acc (.bool ((a==b) != neg))
  | .agg a,.agg b=>ks≠[]/\match (generalizing:=false) cx ks a b with
   | some r=>dW C hs K ns dst ⟨⟩ e R acc (.bool (r != neg))
   | none=>False
  | .nils,.nils=>ks=[9]/\dW C hs K ns dst ⟨⟩ e R acc (.bool (!neg))
  | .sl es,.nils=>ks=[9]/\(0<es.length->dW C hs K ns dst ⟨⟩ e R acc (.bool neg))/\(es.length=0->dW C hs K ns dst ⟨⟩ e R acc .bb)
  | .nilp,.nilp=>ks=[8]/\dW C hs K ns dst ⟨⟩ e R acc (.bool (!neg))
  | .ptr _,.nilp=>ks=[8]/\dW C hs K ns dst ⟨⟩ e R acc (.bool neg)
  | _,_=>False):=zR
@[simp] theorem NX{len sz ag x i v1}:opW C hs K ns dst (.idxA len sz ag x i) v1 e R acc=(match (generalizing:=false) vd (ae e) x,vd (ae e) i with
  | .agg ds,.int _ j=>0<=j/\j<len/\j.toNat*sz+sz<=ds.length/\dW C hs K ns dst ⟨⟩ e R acc (o5 ag sz (ds.drop (j.toNat*sz)))
  | .agx ds,.int _ j=>0<=j/\j<len/\j.toNat*sz+sz<=ds.length/\match (generalizing:=false) ag with
   | true=>dW C hs K ns dst ⟨⟩ e R acc (.agx ((ds.drop (j.toNat*sz)).take sz))
   | false=>dW C hs K ns dst ⟨⟩ e R acc ((ds.drop (j.toNat*sz)).headD .any)
  | _,_=>False):=zR
@[simp] theorem NY{x i v1}:opW C hs K ns dst (.idxS x i) v1 e R acc=(match (generalizing:=false) vd (ae e) x,vd (ae e) i with
  | .str s,.int _ j=>0<=j/\Ez C hs K ns dst ⟨⟩ e R acc s j.toNat
  | _,_=>False):=zR
@[simp] theorem SN{i x v1}:opW C hs K ns dst (.ext i x) v1 e R acc=(match (generalizing:=false) vd (ae e) x with
  | .tup ds=>∃d,ds[i]? = some d/\dW C hs K ns dst ⟨⟩ e R acc d
  | .tpx ds=>∃d,ds[i]? = some d/\dW C hs K ns dst ⟨⟩ e R acc d
  | _=>False):=zR
@[simp] theorem SO{off x v1}:opW C hs K ns dst (.fad off x) v1 e R acc=(match (generalizing:=false) vd (ae e) x with
  | .adr p i o=>dW C hs K ns dst ⟨⟩ e R acc (.adr p i (o+off))
  | .ptr ds=>dW C hs K ns dst ⟨⟩ e R acc (.ptr (ds.drop off))
  | .ptx ds=>dW C hs K ns dst ⟨⟩ e R acc (.ptx (ds.drop off))
  | _=>False):=zR
@[simp] theorem NV{len sz x i v1}:opW C hs K ns dst (.iadA len sz x i) v1 e R acc=(match (generalizing:=false) vd (ae e) x,vd (ae e) i with
  | .adr p r o,.int _ j=>0<=j/\j<len/\dW C hs K ns dst ⟨⟩ e R acc (.adr p r (o+j.toNat*sz))
  | .ptr ds,.int _ j=>0<=j/\j<len/\dW C hs K ns dst ⟨⟩ e R acc (.ptr (ds.drop (j.toNat*sz)))
  | _,_=>False):=zR
@[simp] theorem Ul{n ag x v1}:opW C hs K ns dst (.ld n ag x) v1 e R acc=(match (generalizing:=false) vd (ae e) x with
  | .adr p i off=>match (generalizing:=false) aY (ae e) p with
   | some (_,es)=>md C hs K ns dst ⟨⟩ e R acc n ag p es i off
   | none=>False
  | .ptr ds=>n<=ds.length/\dW C hs K ns dst ⟨⟩ e R acc (o5 ag n ds)
  | .ptx ds=>n<=ds.length/\match (generalizing:=false) ag with
   | true=>((ds.take n).all isV=true->dW C hs K ns dst ⟨⟩ e R acc (.agg (ds.take n)))/\((ds.take n).all isV=false->dW C hs K ns dst ⟨⟩ e R acc (.agx (ds.take n)))
   | false=>0<n/\dW C hs K ns dst ⟨⟩ e R acc (ds.headD .any)
  | _=>False):=zR
@[simp] theorem SI{zs parts v1}:opW C hs K ns dst (.bld zs parts) v1 e R acc=((∀p∈parts,isS (vd (ae e) p.2.2)=true/\p.1+p.2.1<=zs.length/\match (generalizing:=false) vd (ae e) p.2.2 with
    | .agg ds=>ds.length=p.2.1
    | .agx ds=>ds.length=p.2.1
    | .any=>False
    | .tpx _=>False
    | .ptx _=>False
    | .rfx _ _ _=>False
    | .fny _ _ _=>False
    | .fnx _ _=>False
    | _=>p.2.1=1) /\
   ((parts.all fun p=>isV (vd (ae e) p.2.2))=true->dW C hs K ns dst ⟨⟩ e R acc (.agg (jc zs (parts.map fun p=>(p.1,p.2.1,vd (ae e) p.2.2))))) /\
   ((parts.all fun p=>isV (vd (ae e) p.2.2))=false->dW C hs K ns dst ⟨⟩ e R acc (.agx (jc zs (parts.map fun p=>(p.1,p.2.1,b6 (vd (ae e) p.2.2))))))):=zR
@[simp] theorem NZ{x v1}:opW C hs K ns dst (.lens x) v1 e R acc=(match (generalizing:=false) vd (ae e) x with
  | .str s=>dW C hs K ns dst ⟨⟩ e R acc (.int .i64 s.length)
  | _=>False):=zR
@[simp] theorem Um{g xs v1}:opW C hs K ns dst (.mk g xs) v1 e R acc=((∀x∈xs,isP (vd (ae e) x)=true)/\((xs.all fun x=>isV (vd (ae e) x))=true->dW C hs K ns dst ⟨⟩ e R acc (.fn g (xs.map (vd (ae e)))))/\((xs.all fun x=>isV (vd (ae e) x))=false->dW C hs K ns dst ⟨⟩ e R acc (.fnx g (xs.map (vd (ae e)))))):=zR
@[simp] theorem Un{x y v1}:opW C hs K ns dst (.mn x y) v1 e R acc=(match (generalizing:=false) vd (ae e) x,vd (ae e) y with
  | .int k a,.int k' b=>k=k'/\dW C hs K ns dst ⟨⟩ e R acc (.int k (if b<a then b else a))
  | _,_=>False):=zR
@[simp] theorem Uo{x y v1}:opW C hs K ns dst (.mx x y) v1 e R acc=(match (generalizing:=false) vd (ae e) x,vd (ae e) y with
  | .int k a,.int k' b=>k=k'/\dW C hs K ns dst ⟨⟩ e R acc (.int k (if a<b then b else a))
  | _,_=>False):=zR
@[simp] theorem Jm{x y c v1}:opW C hs K ns dst (.add64 x y c) v1 e R acc=(match (generalizing:=false) vd (ae e) x,vd (ae e) y,vd (ae e) c with
  | .int .u64 a,.int .u64 b,.int .u64 k=>0<=a/\a<18446744073709551616/\0<=b/\b<18446744073709551616/\0<=k/\k<=1 /\
    dW C hs K ns dst ⟨⟩ e R acc (.tup [.int .u64 ((a+b+k)%18446744073709551616),.int .u64 ((a+b+k)/18446744073709551616)])
  | _,_,_=>False):=zR
@[simp] theorem Ju{x y c v1}:opW C hs K ns dst (.sub64 x y c) v1 e R acc=(match (generalizing:=false) vd (ae e) x,vd (ae e) y,vd (ae e) c with
  | .int .u64 a,.int .u64 b,.int .u64 k=>0<=a/\a<18446744073709551616/\0<=b/\b<18446744073709551616/\0<=k/\k<=1 /\
    dW C hs K ns dst ⟨⟩ e R acc (.tup [.int .u64 ((a-b-k)%18446744073709551616),.int .u64 (if a<b+k then 1 else 0)])
  | _,_,_=>False):=zR
@[simp] theorem N0{sz v1}:opW C hs K ns dst (.nilo sz) v1 e R acc=(match (generalizing:=false) dst with
  | some t=>0<sz/\doW C hs K ns ⟨⟩ e R acc [(t,.ref (.r (rt t 0)) 0 0),(rt t 0,.blk sz [])] [(rt t 0,true)]
  | none=>False):=zR
@[simp] theorem SK{x t v1}:opW C hs K ns (some t) (.box [] x) v1 e R acc=gR (ae e) (vd (ae e) x) [] (fun cs bs=>bs.contains (rt t 0)=false/\doW C hs K ns ⟨⟩ e R acc ((t,.adr (.r (rt t 0)) 0 0)::(rt t 0,.blk cs.length [cs])::cp bs) [(rt t 0,true)]) ⟨⟩:=zR
@[simp] theorem SD{zs v1}:opW C hs K ns dst (.alc zs) v1 e R acc=(match (generalizing:=false) dst with
  | some t=>doW C hs K ns ⟨⟩ e R acc [(t,.adr (.r (rt t 0)) 0 0),(rt t 0,.blk zs.length [zs])] [(rt t 0,true)]
  | none=>False):=zR
@[simp] theorem SJ{sz len zs parts t v1}:opW C hs K ns (some t) (.bls sz len zs [] parts) v1 e R acc=qJ (ae e) sz parts (List.replicate len zs) [] (fun es bs=>bN bs=true/\bs.contains (rt t 0)=false/\doW C hs K ns ⟨⟩ e R acc ((t,.ref (.r (rt t 0)) 0 len)::(rt t 0,.blk sz es)::cp bs) [(rt t 0,true)]) ⟨⟩:=zR
@[simp] theorem SW{sz by_ zs n c v1}:opW C hs K ns dst (.mks sz by_ zs n c) v1 e R acc=(match (generalizing:=false) dst with
  | some t=>match (generalizing:=false) vd (ae e) n,vd (ae e) c with
   | .int _ n,.int _ c=>0<=n/\n<=c/\c*by_<=140737488355328/\doW C hs K ns ⟨⟩ e R acc [(t,.ref (.r (rt t 0)) 0 n.toNat),(rt t 0,.blk sz (List.replicate c.toNat zs))] [(rt t 0,true)]
   | _,_=>False
  | none=>False):=zR
def stM(C:CC)(hs:Option (List Nat))(K:Env->Prop)(ns:List az)(_:Tag (hs,K,ns))(e:Env)(R:List Nat)(acc:List (List Nat×List Nat))(n:Nat)(v:D)(cs:List D)(bs:List Nat)(a:D):Prop:=match a with
 | .adr (.r b) i off=>bs.contains b=false/\dC (ae e b) (fun sz es=>il es[i]? (fun r=>off+n<=r.length/\doW C hs K ns ⟨⟩ e R acc ((b,.blk sz (br es i off n cs))::cp bs) (stK v [] b)) ⟨⟩) ⟨⟩
 | .adr (.n b i0 o0) i off=>bs=[]/\(∀c∈cs,aI c=true)/\dC (ae e b) (fun sz0 es0=>il es0[i0]? (fun row0=>kw row0[o0]? (fun sz es=>il es[i]? (fun r=>off+n<=r.length/\doW C hs K ns ⟨⟩ e R acc [(b,.blk sz0 (br es0 i0 o0 1 [.own sz (br es i off n cs)]))] []) ⟨⟩) ⟨⟩) ⟨⟩) ⟨⟩
 | _=>False
@[simp] theorem UH{n v cs bs b i off}:stM C hs K ns u e R acc n v cs bs (.adr (.r b) i off)=(bs.contains b=false/\dC (ae e b) (fun sz es=>il es[i]? (fun r=>off+n<=r.length/\doW C hs K ns ⟨⟩ e R acc ((b,.blk sz (br es i off n cs))::cp bs) (stK v [] b)) ⟨⟩) ⟨⟩):=zR
@[simp] theorem UG{n v cs bs b i0 o0 i off}:stM C hs K ns u e R acc n v cs bs (.adr (.n b i0 o0) i off)=(bs=[]/\(∀c∈cs,aI c=true)/\dC (ae e b) (fun sz0 es0=>il es0[i0]? (fun row0=>kw row0[o0]? (fun sz es=>il es[i]? (fun r=>off+n<=r.length/\doW C hs K ns ⟨⟩ e R acc [(b,.blk sz0 (br es0 i0 o0 1 [.own sz (br es i off n cs)]))] []) ⟨⟩) ⟨⟩) ⟨⟩) ⟨⟩):=zR
@[simp] theorem Up{n a v v1}:opW C hs K ns dst (.st n [] a v) v1 e R acc=(dst=none/\gR (ae e) (vd (ae e) v) [] (fun cs bs=>cs.length=n/\stM C hs K ns ⟨⟩ e R acc n (vd (ae e) v) cs bs (vd (ae e) a)) ⟨⟩):=by
 show(dst=none/\fK (ae e) (vd (ae e) v) [] _)=(dst=none/\fK (ae e) (vd (ae e) v) [] _)
 congr 1
 congr 1
 funext cs bs
 cases vd (ae e) a<;>try rfl
 rename_i p i off
 cases p with
 | r b =>
  simp only[stM,dC,gF]
  cases ae e b<;>rfl
 | n b i0 o0 =>
  simp only[stM,dC,gF,jL]
  cases ae e b<;>rfl
def vN(C:CC)(hs:Option (List Nat))(K:Env->Prop)(ns:List az)(_:Tag (hs,K,ns))(e:Env)(R:List Nat)(acc:List (List Nat×List Nat))(t sz by_:Nat)(rowsY:List (List D))(bs:List Nat)(x:D):Prop:=match x with
 | .nils=>rowsY.length*by_<=140737488355328/\doW C hs K ns ⟨⟩ e R acc ((t,.ref (.r (rt t 0)) 0 rowsY.length)::(rt t 0,.blk sz rowsY)::cp bs) [(rt t 0,true)]
 | .ref (.r c) k n=>c≠rt t 0/\bs.contains c=false/\dC (ae e c) (fun sz' es=>sz'=sz/\k+n<=es.length/\(n+rowsY.length)*by_<=140737488355328 /\
      doW C hs K ns ⟨⟩ e R acc ((t,.ref (.r (rt t 0)) 0 (n+rowsY.length))::(rt t 0,.blk sz ((es.drop k).take n++rowsY))::(c,.any)::cp bs) [(rt t 0,true)]) ⟨⟩
 | .ref (.n c i o) k n=>c≠rt t 0/\bs.contains c=false/\dC (ae e c) (fun sz0 es0=>il es0[i]? (fun row0=>kw row0[o]? (fun sz' es=>sz'=sz/\k+n<=es.length/\(n+rowsY.length)*by_<=140737488355328 /\
      doW C hs K ns ⟨⟩ e R acc ((t,.ref (.r (rt t 0)) 0 (n+rowsY.length))::(rt t 0,.blk sz ((es.drop k).take n++rowsY))::(c,.blk sz0 (br es0 i o 1 [.any]))::cp bs) [(rt t 0,true)]) ⟨⟩) ⟨⟩) ⟨⟩
 | _=>False
@[simp] theorem G0{t sz by_ rowsY bs}:vN C hs K ns u e R acc t sz by_ rowsY bs .nils=(rowsY.length*by_<=140737488355328/\doW C hs K ns ⟨⟩ e R acc ((t,.ref (.r (rt t 0)) 0 rowsY.length)::(rt t 0,.blk sz rowsY)::cp bs) [(rt t 0,true)]):=zR
@[simp] theorem Tg{t sz by_ rowsY bs c k n}:vN C hs K ns u e R acc t sz by_ rowsY bs (.ref (.r c) k n)=(c≠rt t 0/\bs.contains c=false/\dC (ae e c) (fun sz' es=>sz'=sz/\k+n<=es.length/\(n+rowsY.length)*by_<=140737488355328 /\
      doW C hs K ns ⟨⟩ e R acc ((t,.ref (.r (rt t 0)) 0 (n+rowsY.length))::(rt t 0,.blk sz ((es.drop k).take n++rowsY))::(c,.any)::cp bs) [(rt t 0,true)]) ⟨⟩):=zR
@[simp] theorem Tf{t sz by_ rowsY bs c i o k n}:vN C hs K ns u e R acc t sz by_ rowsY bs (.ref (.n c i o) k n)=(c≠rt t 0/\bs.contains c=false/\dC (ae e c) (fun sz0 es0=>il es0[i]? (fun row0=>kw row0[o]? (fun sz' es=>sz'=sz/\k+n<=es.length/\(n+rowsY.length)*by_<=140737488355328 /\
      doW C hs K ns ⟨⟩ e R acc ((t,.ref (.r (rt t 0)) 0 (n+rowsY.length))::(rt t 0,.blk sz ((es.drop k).take n++rowsY))::(c,.blk sz0 (br es0 i o 1 [.any]))::cp bs) [(rt t 0,true)]) ⟨⟩) ⟨⟩) ⟨⟩):=zR
@[simp] theorem SE{sz by_ mv x y t v1}:opW C hs K ns (some t) (.app sz by_ mv x y) v1 e R acc=jt (ae e) mv (vd (ae e) y) sz (fun rowsY bs=>bs.contains (rt t 0)=false/\vN C hs K ns ⟨⟩ e R acc t sz by_ rowsY bs (vd (ae e) x)) ⟨⟩:=by
 unfold opW jt
 simp only[aL]
 congr 1
 funext rowsY bs
 congr 1
 cases vd (ae e) x<;>try rfl
 rename_i p k n
 cases p with
 | r c =>
  simp only[vN,dC]
  cases ae e c<;>rfl
 | n c i o =>
  simp only[vN,dC,gF,jL]
  cases hl:ae e c<;>try rfl
  rename_i sz0 es0
  refine congrArg _ (congrArg _ (propext ⟨?_,?_⟩))
  ·rintro⟨row0,h1,es,h2,h3⟩
   exact⟨row0,h1,sz,es,h2,rfl,h3⟩
  ·rintro⟨row0,h1,sz',es,h2,rfl,h3⟩
   exact⟨row0,h1,es,h2,h3⟩
def Bc(n:Nat)(d:D):Prop:=match d with
 | .blk _ es=>es.length=n/\∀e∈es,∀c∈e,bF c=true
 | _=>False
def rn(f:Nat->D)(b:Nat)(d:D):Prop:=match d with
 | .ref (.r c) k n=>k=0/\c≠b/\Bc n (f c)
 | d=>isV d=true
def Ce(d:D):D:=match d with
 | .blk sz es=>.own sz es
 | _=>.any
def uA(f:Nat->D)(d:D):D:=match d with
 | .ref (.r c) _ _=>Ce (f c)
 | d=>d
@[simp] theorem J8{n sz es}:Bc n (.blk sz es)=(es.length=n/\∀e∈es,∀c∈e,bF c=true):=zR
@[simp] theorem N4{sz es}:Ce (.blk sz es)=.own sz es:=zR
@[simp] theorem OD{f:Nat->D}{b:Nat}{x:Opd}:mR f b x=rn f b (vd f x):=by
 unfold mR rn Bc
 cases vd f x<;>rfl
@[simp] theorem OE{f:Nat->D}{x:Opd}:lK f x=uA f (vd f x):=by
 unfold lK uA Ce
 cases vd f x<;>rfl
@[simp] theorem G2{f:Nat->D}{b c k n}:rn f b (.ref (.r c) k n)=(k=0/\c≠b/\Bc n (f c)):=zR
@[simp] theorem G4{f:Nat->D}{c k n}:uA f (.ref (.r c) k n)=Ce (f c):=zR
@[simp] theorem G1{f:Nat->D}{b k n}:rn f b (.int k n)=True:=by simp[rn,isV]
@[simp] theorem G3{f:Nat->D}{k n}:uA f (.int k n)=.int k n:=zR
def x9(C:CC)(g:Nat)(hs:Option (List Nat))(K:Env->Prop)(ns:List az)(t:Nat)(_:Tag (hs,K,ns))(e:Env)(R:List Nat)(acc:List (List Nat×List Nat))(sz:Nat)(W:List (List D))(ds:List D)(q:Nat×D):Prop :=
 ∃es':List (List D),(∀e∈es',e.length=sz/\∀c∈e,bF c=true)/\C g (.own sz W::ds) .any [.own sz es',.nils,.nils]/\doW C hs K ns ⟨⟩ e R acc [(t,.ref (.r (rt t 0)) 0 es'.length),(rt t 0,.blk sz es'),q] [(rt t 0,true)]
theorem uD{g:Nat}{hs:Option (List Nat)}{K:Env->Prop}{ns:List az}{t:Nat}{u:Tag (hs,K,ns)}{e:Env}{R:List Nat}{acc:List (List Nat×List Nat)}{sz:Nat}{W es':List (List D)}{ds:List D}{q:Nat×D}(h:C g (.own sz W::ds) .any [.own sz es',.nils,.nils])(hu:∀e∈es',e.length=sz/\∀c∈e,bF c=true)
  (hk:doW C hs K ns ⟨⟩ e R acc [(t,.ref (.r (rt t 0)) 0 es'.length),(rt t 0,.blk sz es'),q] [(rt t 0,true)]):x9 C g hs K ns t u e R acc sz W ds q:=⟨es',hu,h,hk⟩
def x8(C:CC)(g:Nat)(hs:Option (List Nat))(K:Env->Prop)(ns:List az)(t:Nat)(_:Tag (hs,K,ns))(e:Env)(R:List Nat)(acc:List (List Nat×List Nat))(xs:List Opd)(d:D):Prop:=match d with
 | .ref (.r b) k n=>dC (ae e b) (fun sz es=>k+n<=es.length/\b≠rt t 0/\0<sz/\(∀e∈(es.drop k).take n,∀c∈e,bF c=true)/\(∀x∈xs,mR (ae e) b x)/\x9 C g hs K ns t ⟨⟩ e R acc sz ((es.drop k).take n) (xs.map (lK (ae e))) (b,.any)) ⟨⟩
 | .ref (.n b i o) k n=>dC (ae e b) (fun sz0 es0=>il es0[i]? (fun row0=>kw row0[o]? (fun sz es=>k+n<=es.length/\b≠rt t 0/\0<sz/\(∀e∈(es.drop k).take n,∀c∈e,bF c=true)/\(∀x∈xs,mR (ae e) b x) /\
   x9 C g hs K ns t ⟨⟩ e R acc sz ((es.drop k).take n) (xs.map (lK (ae e))) (b,.blk sz0 (br es0 i o 1 [.any]))) ⟨⟩) ⟨⟩) ⟨⟩
 | _=>False
@[simp] theorem TM{g xs t b k n}:x8 C g hs K ns t u e R acc xs (.ref (.r b) k n)=dC (ae e b) (fun sz es=>k+n<=es.length/\b≠rt t 0/\0<sz/\(∀e∈(es.drop k).take n,∀c∈e,bF c=true)/\(∀x∈xs,mR (ae e) b x)/\x9 C g hs K ns t ⟨⟩ e R acc sz ((es.drop k).take n) (xs.map (lK (ae e))) (b,.any)) ⟨⟩:=zR
@[simp] theorem TL{g xs t b i o k n}:x8 C g hs K ns t u e R acc xs (.ref (.n b i o) k n)=dC (ae e b) (fun sz0 es0=>il es0[i]? (fun row0=>kw row0[o]? (fun sz es=>k+n<=es.length/\b≠rt t 0/\0<sz/\(∀e∈(es.drop k).take n,∀c∈e,bF c=true)/\(∀x∈xs,mR (ae e) b x) /\
   x9 C g hs K ns t ⟨⟩ e R acc sz ((es.drop k).take n) (xs.map (lK (ae e))) (b,.blk sz0 (br es0 i o 1 [.any]))) ⟨⟩) ⟨⟩) ⟨⟩:=zR
@[simp] theorem Jo{g x xs t v1}:opW C hs K ns (some t) (.callE g x xs) v1 e R acc=x8 C g hs K ns t ⟨⟩ e R acc xs (vd (ae e) x):=by
 unfold opW
 simp only[aL]
 cases vd (ae e) x<;>try rfl
 rename_i p k n
 cases p with
 | r b =>
  simp only[x8,dC,aY,Pa.root,cY]
  cases ae e b<;>rfl
 | n b i o =>
  simp only[x8,dC,gF,jL,aY,Pa.root,cY]
  cases hl:ae e b<;>try rfl
  rename_i sz0 es0
  simp only
  cases hi:es0[i]? with
  | none=>simp
  | some row0 =>
   simp only[x1A,x0o,exists_eq_left']
   cases ho:row0[o]? with
   | none=>simp
   | some d =>
    cases d
    case own sz es=>exact propext ⟨fun h=>⟨sz,es,rfl,h⟩,fun⟨sz',es',h0,h⟩=>by cases h0;exact h⟩
    all_goals simp
@[simp] theorem H5{f:Nat->D}{b k n sz es}:cn f (.ref (.r b) k n) (.own sz es)=(k=0/\n=es.length/\f b=.blk sz es):=zR
@[simp] theorem H3{f:Nat->D}{b k n sz es}:cn f (.adr (.r b) k n) (.blk sz es)=(k=0/\n=0/\f b=.blk sz es):=zR
@[simp] theorem H4{f:Nat->D}{k n r}:cn f (.int k n) r=(r=.int k n):=by simp[cn]
@[simp] theorem EZ{f:Nat->D}{n r}:cn f (.bool n) r=(r=.bool n):=by simp[cn]
@[simp] theorem H6{f:Nat->D}{n r}:cn f (.str n) r=(r=.str n):=by simp[cn]
@[simp] theorem E1{f:Nat->D}{r}:cn f .nils r=(r=.nils):=by simp[cn]
@[simp] theorem E0{f:Nat->D}{r}:cn f .nilp r=(r=.nilp):=by simp[cn]
@[simp] theorem Ll{f:Nat->D}{n r}:cn f (.sl n) r=(r=.sl n):=by simp[cn]
@[simp] theorem H2{f:Nat->D}{n r}:cn f (.agg n) r=(r=.agg n):=by simp[cn]
@[simp] theorem JL{t d}:fQ (some t) d=[(t,d)]:=zR
@[simp] theorem JK{d}:fQ none d=[]:=zR
@[simp] theorem Gp{t}:dx (some t)=[(t,.tup [])]:=zR
@[simp] theorem Gn:dx none=[]:=zR
def Fj(C:CC)(g:Nat)(hs:Option (List Nat))(K:Env->Prop)(ns:List az)(dst:Option Nat)(_:Tag (hs,K,ns))(e:Env)(R:List Nat)(acc:List (List Nat×List Nat))(b sz:Nat)(es:List (List D))(ds:List D):Prop :=
 ∃d,∃es':List (List D),0<es'.length/\C g (.blk sz es::ds) d [.blk sz es']/\doW C hs K ns ⟨⟩ e R acc (fQ dst d++[(b,.blk sz es')]) [(b,false)]
theorem uR{g:Nat}{hs:Option (List Nat)}{K:Env->Prop}{ns:List az}{dst:Option Nat}{u:Tag (hs,K,ns)}{e:Env}{R:List Nat}{acc:List (List Nat×List Nat)}{b sz:Nat}{es es':List (List D)}{ds:List D}{d:D}(h:C g (.blk sz es::ds) d [.blk sz es'])(hp:0<es'.length)
  (hk:doW C hs K ns ⟨⟩ e R acc (fQ dst d++[(b,.blk sz es')]) [(b,false)]):Fj C g hs K ns dst u e R acc b sz es ds:=⟨d,es',hp,h,hk⟩
def Np(C:CC)(g:Nat)(hs:Option (List Nat))(K:Env->Prop)(ns:List az)(dst:Option Nat)(_:Tag (hs,K,ns))(e:Env)(R:List Nat)(acc:List (List Nat×List Nat))(xs:List Opd)(d:D):Prop:=match d with
 | .adr (.r b) i off=>i=0/\off=0/\dC (ae e b) (fun sz es=>0<es.length/\(∀x∈xs,isV (vd (ae e) x)=true)/\Fj C g hs K ns dst ⟨⟩ e R acc b sz es (xs.map (vd (ae e)))) ⟨⟩
 | _=>False
@[simp] theorem Uj{g xs b i off}:Np C g hs K ns dst u e R acc xs (.adr (.r b) i off)=(i=0/\off=0/\dC (ae e b) (fun sz es=>0<es.length/\(∀x∈xs,isV (vd (ae e) x)=true)/\Fj C g hs K ns dst ⟨⟩ e R acc b sz es (xs.map (vd (ae e)))) ⟨⟩):=zR
@[simp] theorem Jq{g x xs v1}:opW C hs K ns dst (.callL g x xs) v1 e R acc=Np C g hs K ns dst ⟨⟩ e R acc xs (vd (ae e) x):=by
 unfold opW
 simp only[aL]
 cases vd (ae e) x<;>first|rfl|skip
def v7(C:CC)(hs:Option (List Nat))(K:Env->Prop)(ns:List az)(dst:Option Nat)(_:Tag (hs,K,ns))(e:Env)(R:List Nat)(acc:List (List Nat×List Nat))(zs:List D)(d:D):Prop:=match d with
 | .nils=>doW C hs K ns ⟨⟩ e R acc (dx dst) []
 | .ref (.r b) k n=>dC (ae e b) (fun sz es=>k+n<=es.length/\zs.length=sz/\(∀e∈es,∀c∈e,aI c=true)/\(∀c∈zs,aI c=true)/\doW C hs K ns ⟨⟩ e R acc (dx dst++[(b,.blk sz (dy es k n zs))]) []) ⟨⟩
 | .ref (.n b i o) k n=>dC (ae e b) (fun sz0 es0=>il es0[i]? (fun row0=>kw row0[o]? (fun sz es=>k+n<=es.length/\zs.length=sz/\(∀c∈zs,aI c=true)/\doW C hs K ns ⟨⟩ e R acc (dx dst++[(b,.blk sz0 (br es0 i o 1 [.own sz (dy es k n zs)]))]) []) ⟨⟩) ⟨⟩) ⟨⟩
 | _=>False
@[simp] theorem Tk{zs b k n}:v7 C hs K ns dst u e R acc zs (.ref (.r b) k n)=dC (ae e b) (fun sz es=>k+n<=es.length/\zs.length=sz/\(∀e∈es,∀c∈e,aI c=true)/\(∀c∈zs,aI c=true)/\doW C hs K ns ⟨⟩ e R acc (dx dst++[(b,.blk sz (dy es k n zs))]) []) ⟨⟩:=zR
@[simp] theorem Tj{zs b i o k n}:v7 C hs K ns dst u e R acc zs (.ref (.n b i o) k n)=dC (ae e b) (fun sz0 es0=>il es0[i]? (fun row0=>kw row0[o]? (fun sz es=>k+n<=es.length/\zs.length=sz/\(∀c∈zs,aI c=true)/\doW C hs K ns ⟨⟩ e R acc (dx dst++[(b,.blk sz0 (br es0 i o 1 [.own sz (dy es k n zs)]))]) []) ⟨⟩) ⟨⟩) ⟨⟩:=zR
@[simp] theorem Hx{zs}:v7 C hs K ns dst u e R acc zs .nils=doW C hs K ns ⟨⟩ e R acc (dx dst) []:=zR
@[simp] theorem SL{zs x v1}:opW C hs K ns dst (.clr zs x) v1 e R acc=v7 C hs K ns dst ⟨⟩ e R acc zs (vd (ae e) x):=by
 unfold opW
 simp only[aL]
 cases vd (ae e) x<;>try rfl
 rename_i p k n
 cases p with
 | r b =>
  simp only[v7,dC]
  cases ae e b<;>rfl
 | n b i o =>
  simp only[v7,dC,gF,jL]
  cases ae e b<;>rfl
def xT(C:CC)(g:Nat)(hs:Option (List Nat))(K:Env->Prop)(ns:List az)(dst:Option Nat)(_:Tag (hs,K,ns))(e:Env)(R:List Nat)(acc:List (List Nat×List Nat))(b i o sz0 sz:Nat)(es0 es:List (List D))(ds:List D):Prop :=
 ∃es':List (List D),es'.length=es.length/\(∀e∈es',e.length=sz/\∀c∈e,aI c=true)/\C g (.own sz es::ds) .any [.own sz es',.nilp]/\doW C hs K ns ⟨⟩ e R acc (dx dst++[(b,.blk sz0 (br es0 i o 1 [.own sz es']))]) []
theorem xU{g:Nat}{hs:Option (List Nat)}{K:Env->Prop}{ns:List az}{t:Nat}{u:Tag (hs,K,ns)}{e:Env}{R:List Nat}{acc:List (List Nat×List Nat)}{b i o sz0 sz:Nat}{es0 es es':List (List D)}{ds:List D}(h:C g (.own sz es::ds) .any [.own sz es',.nilp])(hl:es'.length=es.length)(hu:∀e∈es',e.length=sz/\∀c∈e,aI c=true)
  (hk:doW C hs K ns ⟨⟩ e R acc [(t,.tup []),(b,.blk sz0 (br es0 i o 1 [.own sz es']))] []):xT C g hs K ns (some t) u e R acc b i o sz0 sz es0 es ds:=⟨es',hl,hu,h,hk⟩
def EK(C:CC)(g:Nat)(hs:Option (List Nat))(K:Env->Prop)(ns:List az)(dst:Option Nat)(_:Tag (hs,K,ns))(e:Env)(R:List Nat)(acc:List (List Nat×List Nat))(xs:List Opd)(d:D):Prop:=match d with
 | .ref (.n b i o) k n=>k=0/\dC (ae e b) (fun sz0 es0=>il es0[i]? (fun row0=>kw row0[o]? (fun sz es=>es.length=n/\(∀x∈xs,isV (vd (ae e) x)=true)/\xT C g hs K ns dst ⟨⟩ e R acc b i o sz0 sz es0 es (xs.map (vd (ae e)))) ⟨⟩) ⟨⟩) ⟨⟩
 | _=>False
@[simp] theorem Ti{g xs b i o k n}:EK C g hs K ns dst u e R acc xs (.ref (.n b i o) k n)=(k=0/\dC (ae e b) (fun sz0 es0=>il es0[i]? (fun row0=>kw row0[o]? (fun sz es=>es.length=n/\(∀x∈xs,isV (vd (ae e) x)=true)/\xT C g hs K ns dst ⟨⟩ e R acc b i o sz0 sz es0 es (xs.map (vd (ae e)))) ⟨⟩) ⟨⟩) ⟨⟩):=zR
@[simp] theorem Jr{g x xs v1}:opW C hs K ns dst (.callN g x xs) v1 e R acc=EK C g hs K ns dst ⟨⟩ e R acc xs (vd (ae e) x):=by
 unfold opW
 simp only[aL]
 cases vd (ae e) x<;>try rfl
 rename_i p k n
 cases p with
 | r b=>rfl
 | n b i o =>
  simp only[EK,dC,gF,jL]
  cases ae e b<;>rfl
@[simp] theorem Jn{g xs t v1}:opW C hs K ns (some t) (.callA g xs) v1 e R acc=((∀x∈xs,isV (vd (ae e) x)=true)/\tk C g hs K ns t ⟨⟩ e R acc (xs.map (vd (ae e)))):=zR
@[simp] theorem Jp{g xs t v1}:opW C hs K ns (some t) (.callF g xs) v1 e R acc=((∀x∈xs,bW (ae e) (vd (ae e) x))/\xN C g hs K ns t ⟨⟩ e R acc (xs.map (dpv (ae e)))):=zR
@[simp] theorem NT{g xs x0 v1}:opW C hs K ns dst (.call g xs x0) v1 e R acc=((∀x∈xs,bW (ae e) (vd (ae e) x))/\rr C g hs K ns dst ⟨⟩ e R acc (xs.all fun x=>isV (vd (ae e) x)) (xs.map (dpv (ae e)))):=zR
def lM(C:CC)(hs:Option (List Nat))(K:Env->Prop)(ns:List az)(t:Nat)(_:Tag (hs,K,ns))(e:Env)(R:List Nat)(acc:List (List Nat×List Nat))(d:D):Prop:=match d with
 | .ref (.r c) k n=>if c=rt t 0 then doW C hs K ns ⟨⟩ e R acc [(t,.ref (.r c) k n)] [] else match ae e c with
  | .blk sz es=>doW C hs K ns ⟨⟩ e R acc [(t,.ref (.r (rt t 0)) k n),(rt t 0,.blk sz es),(c,.any)] [(rt t 0,true)]
  | _=>False
 | d=>isS d=true/\doW C hs K ns ⟨⟩ e R acc [(t,d)] []
@[simp] theorem SF{t x v1}:opW C hs K ns (some t) (.asg x) v1 e R acc=lM C hs K ns t ⟨⟩ e R acc (vd (ae e) x):=zR
@[simp] theorem Ka{t c k n}:lM C hs K ns t u e R acc (.ref (.r c) k n)=(if c=rt t 0 then doW C hs K ns ⟨⟩ e R acc [(t,.ref (.r c) k n)] [] else match ae e c with
  | .blk sz es=>doW C hs K ns ⟨⟩ e R acc [(t,.ref (.r (rt t 0)) k n),(rt t 0,.blk sz es),(c,.any)] [(rt t 0,true)]
  | _=>False):=zR
@[simp] theorem G6{t b i o k n}:lM C hs K ns t u e R acc (.ref (.n b i o) k n)=doW C hs K ns ⟨⟩ e R acc [(t,.ref (.n b i o) k n)] []:=by simp[lM]
@[simp] theorem G5{t}:lM C hs K ns t u e R acc .nils=doW C hs K ns ⟨⟩ e R acc [(t,.nils)] []:=by simp[lM]
@[simp] theorem OF{t es}:lM C hs K ns t u e R acc (.sl es)=doW C hs K ns ⟨⟩ e R acc [(t,.sl es)] []:=by simp[lM]
@[simp] theorem Kb{t b es}:lM C hs K ns t u e R acc (slx b es)=doW C hs K ns ⟨⟩ e R acc [(t,slx b es)] []:=by
 rcases fe b es with h|⟨h,_⟩<;>rw[h]<;>simp
@[simp] theorem J9{t}:lM C hs K ns t u e R acc .any=doW C hs K ns ⟨⟩ e R acc [(t,.any)] []:=by simp[lM]
@[simp] theorem Kc{t ds}:lM C hs K ns t u e R acc (.tup ds)=doW C hs K ns ⟨⟩ e R acc [(t,.tup ds)] []:=by simp[lM]
def tC(C:CC)(hs:Option (List Nat))(K:Env->Prop)(ns:List az)(t:Nat)(_:Tag (hs,K,ns))(e:Env)(R:List Nat)(acc:List (List Nat×List Nat))(d:D):Prop:=match d with
 | .ref (.r c) k n=>aQ (ae e) (.ref (.r c) k n)/\doW C hs K ns ⟨⟩ e R acc [(t,dp1 (ae e) (.ref (.r c) k n)),(c,.any)] []
 | d=>isS d=true/\doW C hs K ns ⟨⟩ e R acc [(t,d)] []
@[simp] theorem SP{t x v1}:opW C hs K ns (some t) (.frz x) v1 e R acc=tC C hs K ns t ⟨⟩ e R acc (vd (ae e) x):=zR
@[simp] theorem Lf{t c k n}:tC C hs K ns t u e R acc (.ref (.r c) k n)=(aQ (ae e) (.ref (.r c) k n)/\doW C hs K ns ⟨⟩ e R acc [(t,dp1 (ae e) (.ref (.r c) k n)),(c,.any)] []):=zR
@[simp] theorem HZ{t}:tC C hs K ns t u e R acc .nils=doW C hs K ns ⟨⟩ e R acc [(t,.nils)] []:=by simp[tC]
@[simp] theorem Pe{t es}:tC C hs K ns t u e R acc (.sl es)=doW C hs K ns ⟨⟩ e R acc [(t,.sl es)] []:=by simp[tC]
@[simp] theorem Lg{t b es}:tC C hs K ns t u e R acc (slx b es)=doW C hs K ns ⟨⟩ e R acc [(t,slx b es)] []:=by
 rcases fe b es with h|⟨h,_⟩<;>rw[h]<;>simp
def BS(C:CC)(hs:Option (List Nat))(K:Env->Prop)(ns:List az)(dst:Option Nat)(_:Tag (hs,K,ns))(e:Env)(R:List Nat)(acc:List (List Nat×List Nat))(c i off:Nat)(d:D):Prop:=match d with
 | .blk _ es=>∃r,es[i]? = some r/\∃d,r[off]? = some d/\dJ dst (kOf C hs K ns e R acc) (ldc (.r c) i off d)
 | _=>False
@[simp] theorem Nh{c i off sz es}:BS C hs K ns dst u e R acc c i off (.blk sz es)=il es[i]? (fun r=>Bi r[off]? (fun d=>dW C hs K ns dst ⟨⟩ e R acc (ldc (.r c) i off d)) ⟨⟩) ⟨⟩:=by
 simp only[BS,gF,Bj];rfl
def Ni(C:CC)(hs:Option (List Nat))(K:Env->Prop)(ns:List az)(dst:Option Nat)(_:Tag (hs,K,ns))(e:Env)(R:List Nat)(acc:List (List Nat×List Nat))(q:Nat)(d:D):Prop:=match d with
 | .adr (.r c) i off=>off=q/\BS C hs K ns dst ⟨⟩ e R acc c i off (ae e c)
 | _=>False
@[simp] theorem Nj{q c i off}:Ni C hs K ns dst u e R acc q (.adr (.r c) i off)=(off=q/\BS C hs K ns dst ⟨⟩ e R acc c i off (ae e c)):=zR
@[simp] theorem SQ{q x v1}:opW C hs K ns dst (.ldQ q x) v1 e R acc=Ni C hs K ns dst ⟨⟩ e R acc q (vd (ae e) x):=zR
def Bb(C:CC)(hs:Option (List Nat))(K:Env->Prop)(ns:List az)(t:Nat)(_:Tag (hs,K,ns))(e:Env)(R:List Nat)(acc:List (List Nat×List Nat))(sz by_:Nat)(rowsY:List (List D))(c i o k n:Nat)(d:D):Prop:=match d with
 | .blk sz0 es0=>∃row0,es0[i]? = some row0/\∃es,row0[o]? = some (.own sz es)/\k+n<=es.length/\(n+rowsY.length)*by_<=140737488355328 /\
   kOf C hs K ns e R acc [(t,.ref (.r (rt t 0)) 0 (n+rowsY.length)),(rt t 0,.blk sz ((es.drop k).take n++rowsY)),(c,.blk sz0 (br es0 i o 1 [.any]))] [(rt t 0,true)]
 | _=>False
@[simp] theorem J5{t sz by_ rowsY c i o k n sz0 es0}:Bb C hs K ns t u e R acc sz by_ rowsY c i o k n (.blk sz0 es0)=il es0[i]? (fun row0=>kw row0[o]? (fun sz' es=>sz'=sz/\k+n<=es.length/\(n+rowsY.length)*by_<=140737488355328 /\
   doW C hs K ns ⟨⟩ e R acc [(t,.ref (.r (rt t 0)) 0 (n+rowsY.length)),(rt t 0,.blk sz ((es.drop k).take n++rowsY)),(c,.blk sz0 (br es0 i o 1 [.any]))] [(rt t 0,true)]) ⟨⟩) ⟨⟩:=by
 simp only[Bb,gF,jL]
 refine propext ⟨?_,?_⟩
 ·rintro⟨row0,h1,es,h2,h3,h4,h5⟩
  exact⟨row0,h1,sz,es,h2,rfl,h3,h4,h5⟩
 ·rintro⟨row0,h1,sz',es,h2,rfl,h3,h4,h5⟩
  exact⟨row0,h1,es,h2,h3,h4,h5⟩
def J6(C:CC)(hs:Option (List Nat))(K:Env->Prop)(ns:List az)(t:Nat)(_:Tag (hs,K,ns))(e:Env)(R:List Nat)(acc:List (List Nat×List Nat))(q sz by_:Nat)(yd:D)(d:D):Prop:=match d with
 | .ref (.n c i o') k n=>o'=q/\fH (ae e) false yd sz fun rowsY bs=>bs=[]/\c≠rt t 0/\Bb C hs K ns t ⟨⟩ e R acc sz by_ rowsY c i o' k n (ae e c)
 | _=>False
@[simp] theorem J7{t q sz by_ yd c i o k n}:J6 C hs K ns t u e R acc q sz by_ yd (.ref (.n c i o) k n)=(o=q/\jt (ae e) false yd sz (fun rowsY bs=>bs=[]/\c≠rt t 0/\Bb C hs K ns t ⟨⟩ e R acc sz by_ rowsY c i o k n (ae e c)) ⟨⟩):=zR
@[simp] theorem NP{t q sz by_ x y v1}:opW C hs K ns (some t) (.appQ q sz by_ x y) v1 e R acc=J6 C hs K ns t ⟨⟩ e R acc q sz by_ (vd (ae e) y) (vd (ae e) x):=zR
def EL(C:CC)(hs:Option (List Nat))(K:Env->Prop)(ns:List az)(t:Nat)(_:Tag (hs,K,ns))(e:Env)(R:List Nat)(acc:List (List Nat×List Nat))(sz:Nat)(rows:List (List D))(b k n:Nat)(d:D):Prop:=match d with
 | .blk sz' es=>sz'=sz/\k+n<=es.length/\(∀e∈es,∀c∈e,aI c=true)/\(∀e∈rows,∀c∈e,aI c=true)/\kOf C hs K ns e R acc [(t,.int .i64 (min rows.length n:Nat)),(b,.blk sz (i9 es k (rows.take n)))] []
 | _=>False
@[simp] theorem Kt{t sz rows b k n sz' es}:EL C hs K ns t u e R acc sz rows b k n (.blk sz' es)=(sz'=sz/\k+n<=es.length/\(∀e∈es,∀c∈e,aI c=true)/\(∀e∈rows,∀c∈e,aI c=true)/\doW C hs K ns ⟨⟩ e R acc [(t,.int .i64 (min rows.length n:Nat)),(b,.blk sz (i9 es k (rows.take n)))] []):=zR
def Ku(C:CC)(hs:Option (List Nat))(K:Env->Prop)(ns:List az)(t:Nat)(_:Tag (hs,K,ns))(e:Env)(R:List Nat)(acc:List (List Nat×List Nat))(sz:Nat)(rows:List (List D))(d:D):Prop:=match d with
 | .ref (.r b) k n=>(n=0->kOf C hs K ns e R acc [(t,.int .i64 0)] [])/\(0<n->EL C hs K ns t ⟨⟩ e R acc sz rows b k n (ae e b))
 | _=>False
@[simp] theorem Kv{t sz rows b k n}:Ku C hs K ns t u e R acc sz rows (.ref (.r b) k n)=((n=0->doW C hs K ns ⟨⟩ e R acc [(t,.int .i64 0)] [])/\(0<n->EL C hs K ns t ⟨⟩ e R acc sz rows b k n (ae e b))):=zR
@[simp] theorem SM{t sz x y v1}:opW C hs K ns (some t) (.cpy sz x y) v1 e R acc=jt (ae e) false (vd (ae e) y) sz (fun rows bs=>bs=[]/\0<rows.length/\Ku C hs K ns t ⟨⟩ e R acc sz rows (vd (ae e) x)) ⟨⟩:=zR
def iP(C:CC)(hs:Option (List Nat))(K:Env->Prop)(ns:List az)(dst:Option Nat)(_:Tag (hs,K,ns))(e:Env)(R:List Nat)(acc:List (List Nat×List Nat))(d:D):Prop:=match d with
 | .agx ds=>dW C hs K ns dst ⟨⟩ e R acc (.ptx ds)
 | .agg ds=>dW C hs K ns dst ⟨⟩ e R acc (.ptr ds)
 | d=>aI d=true/\dW C hs K ns dst ⟨⟩ e R acc (.ptr [d])
@[simp] theorem EH{ds:List D}:dI (.agg ds)=ds:=zR
@[simp] theorem EI{k n}:dI (.int k n)=[.int k n]:=zR
@[simp] theorem EJ{n}:dI (.str n)=[.str n]:=zR
@[simp] theorem DD{n}:dI (.bool n)=[.bool n]:=zR
@[simp] theorem Hw{n}:dI (.sl n)=[.sl n]:=zR
@[simp] theorem HY{f:Nat->D}{es}:gV f [] es=es:=zR
@[simp] theorem EU{f:Nat->D}{p ps es}:gV f (p::ps) es=gV f ps (es.set p.1 (dI (vd f p.2))):=zR
@[simp] theorem NQ{sz len zs parts v1}:opW C hs K ns dst (.blsF sz len zs parts) v1 e R acc=((∀p∈parts,p.1<len/\(dI (vd (ae e) p.2)).length=sz/\∀c∈dI (vd (ae e) p.2),aI c=true)/\0<len /\
   (∀r∈gV (ae e) parts (List.replicate len zs),∀c∈r,aI c=true)/\dW C hs K ns dst ⟨⟩ e R acc (.sl (gV (ae e) parts (List.replicate len zs)))):=zR
@[simp] theorem NR{sz len zs parts v1}:opW C hs K ns dst (.blsX sz len zs parts) v1 e R acc=(zs.all aI=true/\(∀p∈parts,p.1<len/\match (generalizing:=false) vd (ae e) p.2 with
    | .agg ds=>ds.length=sz
    | .agx ds=>ds.length=sz
    | _=>False)/\dW C hs K ns dst ⟨⟩ e R acc (.rfx len sz (kh (ae e) sz len zs parts))):=zR
attribute [simp] kh
@[simp] theorem NS{x v1}:opW C hs K ns dst (.boxF x) v1 e R acc=iP C hs K ns dst ⟨⟩ e R acc (vd (ae e) x):=zR
@[simp] theorem Kh{ds}:iP C hs K ns dst u e R acc (.agx ds)=dW C hs K ns dst ⟨⟩ e R acc (.ptx ds):=zR
@[simp] theorem Kg{ds}:iP C hs K ns dst u e R acc (.agg ds)=dW C hs K ns dst ⟨⟩ e R acc (.ptr ds):=zR
@[simp] theorem Ki{k n}:iP C hs K ns dst u e R acc (.int k n)=dW C hs K ns dst ⟨⟩ e R acc (.ptr [.int k n]):=by simp[iP]
@[simp] theorem G7{n}:iP C hs K ns dst u e R acc (.bool n)=dW C hs K ns dst ⟨⟩ e R acc (.ptr [.bool n]):=by simp[iP]
@[simp] theorem Kl{n}:iP C hs K ns dst u e R acc (.str n)=dW C hs K ns dst ⟨⟩ e R acc (.ptr [.str n]):=by simp[iP]
@[simp] theorem G8:iP C hs K ns dst u e R acc .nils=dW C hs K ns dst ⟨⟩ e R acc (.ptr [.nils]):=by simp[iP]
@[simp] theorem OH{es}:iP C hs K ns dst u e R acc (.sl es)=dW C hs K ns dst ⟨⟩ e R acc (.ptr [.sl es]):=by simp[iP]
@[simp] theorem Kk{b es}:iP C hs K ns dst u e R acc (slx b es)=dW C hs K ns dst ⟨⟩ e R acc (.ptr [slx b es]):=by
 rcases fe b es with h|⟨h,_⟩<;>rw[h]<;>simp
@[simp] theorem Kj{es}:iP C hs K ns dst u e R acc (.ptr es)=dW C hs K ns dst ⟨⟩ e R acc (.ptr [.ptr es]):=by simp[iP]
@[simp] theorem OG{g es}:iP C hs K ns dst u e R acc (.fn g es)=dW C hs K ns dst ⟨⟩ e R acc (.ptr [.fn g es]):=by simp[iP]
@[simp] theorem SS{x v1}:opW C hs K ns dst (.len x) v1 e R acc=tP (vd (ae e) x) (fun n=>dW C hs K ns dst ⟨⟩ e R acc (.int .i64 n)) ⟨⟩:=by
 show res (ae e) _ (.len x)=_
 simp only[res,tP]
 cases vd (ae e) x<;>rfl
def tK(C:CC)(hs:Option (List Nat))(K:Env->Prop)(ns:List az)(dst:Option Nat)(_:Tag (hs,K,ns))(e:Env)(R:List Nat)(acc:List (List Nat×List Nat))(sz:Nat)(x i:D):Prop:=match (generalizing:=false) x,i with
  | .sl es,.int _ j=>0<=j/\iQ C hs K ns dst ⟨⟩ e R acc sz es j.toNat
  | .slv _ es,.int _ j=>0<=j/\iQ C hs K ns dst ⟨⟩ e R acc sz es j.toNat
  | .rfx n sz' ds,.int _ j=>0<=j/\j.toNat<n/\sz'=sz/\dW C hs K ns dst ⟨⟩ e R acc (.ptx (ds.drop (j.toNat*sz)))
  | .ref p k n,.int _ j=>0<=j/\j.toNat<n/\match (generalizing:=false) aY (ae e) p with
   | some (sz',_)=>sz'=sz/\dW C hs K ns dst ⟨⟩ e R acc (.adr p (k+j.toNat) 0)
   | none=>False
  | _,_=>False
@[simp] theorem NW{sz x i v1}:opW C hs K ns dst (.iadS sz x i) v1 e R acc=tK C hs K ns dst ⟨⟩ e R acc sz (vd (ae e) x) (vd (ae e) i):=zR
@[simp] theorem Ln{sz sz' n ds k j}:tK C hs K ns dst u e R acc sz (.rfx n sz' ds) (.int k j)=(0<=j/\j.toNat<n/\sz'=sz/\dW C hs K ns dst ⟨⟩ e R acc (.ptx (ds.drop (j.toNat*sz)))):=zR
@[simp] theorem Pf{sz es k j}:tK C hs K ns dst u e R acc sz (.sl es) (.int k j)=(0<=j/\iQ C hs K ns dst ⟨⟩ e R acc sz es j.toNat):=zR
@[simp] theorem Lo{sz q es k j}:tK C hs K ns dst u e R acc sz (.slv q es) (.int k j)=(0<=j/\iQ C hs K ns dst ⟨⟩ e R acc sz es j.toNat):=zR
@[simp] theorem Lp{sz b es k j}:tK C hs K ns dst u e R acc sz (slx b es) (.int k j)=(0<=j/\iQ C hs K ns dst ⟨⟩ e R acc sz es j.toNat):=by
 rcases fe b es with h|⟨h,rfl⟩
 ·rw[h];rfl
 ·rw[h];simp[tK,iQ]
@[simp] theorem Lm{sz p k n k' j}:tK C hs K ns dst u e R acc sz (.ref p k n) (.int k' j)=(0<=j/\j.toNat<n/\match (generalizing:=false) aY (ae e) p with
   | some (sz',_)=>sz'=sz/\dW C hs K ns dst ⟨⟩ e R acc (.adr p (k+j.toNat) 0)
   | none=>False):=zR
def CK(C:CC)(hs:Option (List Nat))(K:Env->Prop)(ns:List az)(dst:Option Nat)(_:Tag (hs,K,ns))(e:Env)(R:List Nat)(acc:List (List Nat×List Nat))(sz:Nat)(x:D)(lo hi:Option Opd):Prop:=match (generalizing:=false) x with
  | .sl es=>(∀e∈es,e.length=sz)/\dY (ae e) hi es.length (fun h=>dY (ae e) lo 0 (fun l=>l<=h/\h<=es.length/\dW C hs K ns dst ⟨⟩ e R acc (.sl ((es.take h).drop l))) ⟨⟩) ⟨⟩
  | .nils=>dY (ae e) hi 0 (fun h=>dY (ae e) lo 0 (fun l=>l<=h/\h<=0/\dW C hs K ns dst ⟨⟩ e R acc (.sl [])) ⟨⟩) ⟨⟩
  | .ref p k n=>match (generalizing:=false) aY (ae e) p with
   | some (sz',_)=>sz'=sz/\dY (ae e) hi n (fun h=>dY (ae e) lo 0 (fun l=>l<=h/\h<=n/\dW C hs K ns dst ⟨⟩ e R acc (.ref p (k+l) (h-l))) ⟨⟩) ⟨⟩
   | none=>False
  | _=>False
@[simp] theorem S5{sz x lo hi v1}:opW C hs K ns dst (.slc sz x lo hi) v1 e R acc=CK C hs K ns dst ⟨⟩ e R acc sz (vd (ae e) x) lo hi:=zR
@[simp] theorem S8{sz es lo hi}:CK C hs K ns dst u e R acc sz (.sl es) lo hi=((∀e∈es,e.length=sz)/\dY (ae e) hi es.length (fun h=>dY (ae e) lo 0 (fun l=>l<=h/\h<=es.length/\dW C hs K ns dst ⟨⟩ e R acc (.sl ((es.take h).drop l))) ⟨⟩) ⟨⟩):=zR
@[simp] theorem JJ{sz lo hi}:CK C hs K ns dst u e R acc sz .nils lo hi=dY (ae e) hi 0 (fun h=>dY (ae e) lo 0 (fun l=>l<=h/\h<=0/\dW C hs K ns dst ⟨⟩ e R acc (.sl [])) ⟨⟩) ⟨⟩:=zR
@[simp] theorem On{sz p k n lo hi}:CK C hs K ns dst u e R acc sz (.ref p k n) lo hi=(match (generalizing:=false) aY (ae e) p with
   | some (sz',_)=>sz'=sz/\dY (ae e) hi n (fun h=>dY (ae e) lo 0 (fun l=>l<=h/\h<=n/\dW C hs K ns dst ⟨⟩ e R acc (.ref p (k+l) (h-l))) ⟨⟩) ⟨⟩
   | none=>False):=zR
@[simp] theorem Jt{x xs v1}:opW C hs K ns dst (.callv x xs) v1 e R acc=(match (generalizing:=false) vd (ae e) x with
  | .fn g cs=>(∀x∈xs,bW (ae e) (vd (ae e) x))/\rr C g hs K ns dst ⟨⟩ e R acc (xs.all fun x=>isV (vd (ae e) x)) (xs.map (dpv (ae e))++cs)
  | .fnx g cs=>(∀x∈xs,bW (ae e) (vd (ae e) x))/\(∀c∈cs,aQ (ae e) c)/\rr C g hs K ns dst ⟨⟩ e R acc false (xs.map (dpv (ae e))++cs.map (dp1 (ae e)))
  | _=>False):=by
 simp only[opW,aL,rr,dJ,x0m,or_false]
 cases vd (ae e) x<;>rfl
def mpT(x:D)(K:Nat->Nat->List D->List D->Prop)(_:Tag K):Prop:=match x with
 | .mp kt et ks vs=>K kt et ks vs
 | _=>False
@[simp] theorem Uk{kt et ks vs K u}:mpT (.mp kt et ks vs) K u=K kt et ks vs:=zR
@[simp] theorem SV{kt et t v1}:opW C hs K ns (some t) (.mkm kt et) v1 e R acc=doW C hs K ns ⟨⟩ e R acc [(t,.mrf (rt t 0)),(rt t 0,.mp kt et [] [])] [(rt t 0,true)]:=zR
def mlM(C:CC)(hs:Option (List Nat))(K:Env->Prop)(ns:List az)(dst:Option Nat)(_:Tag (hs,K,ns))(e:Env)(R:List Nat)(acc:List (List Nat×List Nat))(sh:KSh)(kt et:Nat)(ok:Bool)(z x m:D):Prop:=match m with
 | .mrf b=>mpT (ae e b) (fun kt' et' ks vs=>kt'=kt/\et'=et/\c9 sh x/\match ok with
    | true=>dW C hs K ns dst ⟨⟩ e R acc (.tup [(en ks vs x).getD z,.bool (en ks vs x).isSome])
    | false=>dW C hs K ns dst ⟨⟩ e R acc ((en ks vs x).getD z)) ⟨⟩
 | _=>False
@[simp] theorem Sy{sh kt et ok z x b}:mlM C hs K ns dst u e R acc sh kt et ok z x (.mrf b)=mpT (ae e b) (fun kt' et' ks vs=>kt'=kt/\et'=et/\c9 sh x/\match ok with
    | true=>dW C hs K ns dst ⟨⟩ e R acc (.tup [(en ks vs x).getD z,.bool (en ks vs x).isSome])
    | false=>dW C hs K ns dst ⟨⟩ e R acc ((en ks vs x).getD z)) ⟨⟩:=zR
@[simp] theorem SY{sh kt et ok z m x v1}:opW C hs K ns dst (.mpl sh kt et ok z m x) v1 e R acc=mlM C hs K ns dst ⟨⟩ e R acc sh kt et ok z (vd (ae e) x) (vd (ae e) m):=by
 show res (ae e) _ (.mpl sh kt et ok z m x)=_
 simp only[res,mlM]
 cases vd (ae e) m<;>rfl
def muM(C:CC)(hs:Option (List Nat))(K:Env->Prop)(ns:List az)(_:Tag (hs,K,ns))(e:Env)(R:List Nat)(acc:List (List Nat×List Nat))(sh:KSh)(kt et:Nat)(z x v m:D):Prop:=match m with
 | .mrf b=>mpT (ae e b) (fun kt' et' ks vs=>kt'=kt/\et'=et/\ks.length<maxLen/\c9 sh x/\ja z v/\doW C hs K ns ⟨⟩ e R acc [(b,.mp kt et (x::ks) (v::vs))] []) ⟨⟩
 | _=>False
@[simp] theorem Sz{sh kt et z x v b}:muM C hs K ns u e R acc sh kt et z x v (.mrf b)=mpT (ae e b) (fun kt' et' ks vs=>kt'=kt/\et'=et/\ks.length<maxLen/\c9 sh x/\ja z v/\doW C hs K ns ⟨⟩ e R acc [(b,.mp kt et (x::ks) (v::vs))] []) ⟨⟩:=zR
@[simp] theorem SZ{sh kt et z m x v v1}:opW C hs K ns dst (.mpu sh kt et z m x v) v1 e R acc=(dst=none/\muM C hs K ns ⟨⟩ e R acc sh kt et z (vd (ae e) x) (vd (ae e) v) (vd (ae e) m)):=by
 show(dst=none/\_)=_
 congr 1
end
@[simp] theorem Fb{s}:c9 .str (.str s)=(s.length<=maxLen):=zR
@[simp] theorem DL{b}:c9 .bool (.bool b)=True:=zR
@[simp] theorem Fa{q q' n}:c9 (.int q) (.int q' n)=(q'=q/\rV q n):=zR
@[simp] theorem DM{q n ds}:c9 (.ints q n) (.agg ds)=(ds.length=n/\∀d∈ds,∃x,d=.int q x/\rV q x):=zR
@[simp] theorem HX{s z}:ja (.str z) (.str s)=(s.length<=maxLen):=zR
@[simp] theorem ER{b z}:ja (.bool z) (.bool b)=True:=zR
@[simp] theorem HW{q q' n z}:ja (.int q z) (.int q' n)=(q'=q/\rV q n):=zR
@[simp] theorem LA{n:Int}:rV .i64 n=(-9223372036854775808<=n/\n<=9223372036854775807):=by
 have e1:IntKind.i64.min=-9223372036854775808:=rfl
 have e2:IntKind.i64.max=9223372036854775807:=rfl
 simp[rV,Lit.wf,e1,e2]
attribute [simp] jq ga bY fD cI bS aZ fq yX okR sL mz cO
attribute [simp] vd params fG kA kB kz nH ow zV prune kJ isC jc aY Ut br dpv cp stK bQ rt chk rdS rdR frR fwR gI rdN jb wrK mnR FZ ldN aj jo rP wOk Pa.root cx bN
end Go.Gv

namespace Go.Gv
def eb(c:Int):Bool:=(97<=c&&c<=122)||(65<=c&&c<=90)
def iC(c:Int):Bool:=48<=c&&c<=57
def ee(c:UInt8):Bool:=eb c.toNat||iC c.toNat||c.toNat==95
def ci(s:List UInt8):Nat:=(s.takeWhile ee).length
def fp(n:Int):Bool:=-1125899906842624<=n&&n<=1125899906842624
def bD(s:List UInt8):Bool:=s≠[]&&s.length<=20&&eb (s[0]!).toNat&&ci s==s.length
theorem oP(s:List UInt8):ci s<=s.length:=by unfold ci;exact(List.takeWhile_prefix _).length_le
theorem ut{α:Type}(p:α->Bool):∀(s:List α) (i:Nat) (h:i<s.length),i<=(s.takeWhile p).length->(p s[i]=true->i+1<=(s.takeWhile p).length)/\(p s[i]=false->i=(s.takeWhile p).length)
 | [],i,h,_=>by simp at h
 | x::s,0,h,_=>by
  constructor<;>intro h1<;>simp at h1<;>simp[h1]
 | x::s,i+1,h,h2=>by
  rw[List.takeWhile_cons]at h2 ⊢
  split at h2
  ·rename_i hp
   simp only[hp,if_true,x1b,List.getElem_cons_succ]at h2 ⊢
   have:=ut p s i (by simpa using h) (by omega)
   exact⟨fun e=>by have:=this.1 e;omega,fun e=>by have:=this.2 e;omega⟩
  ·simp at h2
theorem lD{s:List UInt8}{i:Nat}(h:i<s.length)(hi:i<=ci s):ee s[i]=true->i+1<=ci s:=(ut ee s i h hi).1
theorem lE{s:List UInt8}{i:Nat}(h:i<s.length)(hi:i<=ci s):ee s[i]=false->i=ci s:=(ut ee s i h hi).2
theorem wrap_i64{n m:Int}(h:n=m)(h2:-9223372036854775808<=m/\m<9223372036854775808):IntKind.wrap .i64 n=m:=by
 subst h
 have e1:IntKind.i64.signed=true:=rfl
 have e2:(2^(IntKind.i64.bits-1):Int)=9223372036854775808:=rfl
 have e3:(2^IntKind.i64.bits:Int)=18446744073709551616:=rfl
 unfold IntKind.wrap
 simp only[e1,e2,e3,x0T,x0c]
 split<;>omega
variable{C:CC}(hC:ay prog C)
include hC
theorem yt(n:Int):C 89 [.int .i64 n] (.bool (fp n)) []:=by
 refine ai hC (nf:=N89) rfl rfl ?_
 simp[N89,fp]
 refine ac (fun h=>?_) (fun h=>?_)<;>simp at h<;>simp[h]<;>omega
theorem vj(n l:Int):C 60 [.int .i64 n,.int .i64 l] (.bool (0<=n&&n<=4194304&&1<=l&&l<=16777216)) []:=by
 refine ai hC (nf:=N60) rfl rfl ?_
 simp[N60]
 repeat' (refine ac (fun h=>?_) (fun h=>?_)<;>simp at h<;>simp[h]<;>try omega)
theorem Bo(c:Int):C 88 [.int .u8 c] (.bool (iC c)) []:=by
 refine ai hC (nf:=N88) rfl rfl ?_
 simp[N88,iC]
 refine ac (fun h=>?_) (fun h=>?_)<;>simp at h<;>simp[h]<;>omega
theorem sa(c:Int):C 70 [.int .u8 c] (.bool (eb c)) []:=by
 refine ai hC (nf:=N70) rfl rfl ?_
 simp[N70,eb]
 repeat' (refine ac (fun h=>?_) (fun h=>?_)<;>simp at h<;>simp[h]<;>try omega)
theorem Gt(s:List UInt8)(hs:s.length<2^62):C 71 [.str s] (.int .i64 (ci s)) []:=by
 refine ai hC (nf:=N71) rfl rfl ?_
 simp[N71]
 refine au Nat (fun i=>[(0,.str s),(3,.int .i64 i)]) (fun i=>i<=ci s) (fun i=>ci s-i) 0 (by simp) (by simp) ?_
 intro i hi
 have hle:ci s<=s.length:=oP s
 by_cases hl:i<s.length
 ·simp[hl]
  refine aa (sa hC _) (.inl rfl) ?_
  have hstep:ee s[i]=true->i+1<=ci s:=lD hl hi
  have hstop:ee s[i]=false->i=ci s:=lE hl hi
  simp only[ee]at hstep hstop
  have hw:IntKind.wrap .i64 ((i:Int)+1)=((i+1:Nat):Int):=wrap_i64 (by omega) (by omega)
  cases h1:eb s[i].toNat with
  | true =>
   simp[h1,hw]at hstep ⊢
   exact⟨i+1,by omega,by omega,rfl⟩
  | false =>
   simp[h1,hl]
   refine aa (Bo hC _) (.inl rfl) ?_
   cases h2:iC s[i].toNat with
   | true =>
    simp[h1,h2,hw]at hstep ⊢
    exact⟨i+1,by omega,by omega,rfl⟩
   | false =>
    simp[hl]
    refine ac (fun h3=>?_) (fun h3=>?_)<;>simp at h3
    ·simp[hw,hl]
     have:=hstep (by simp[show s[i].toNat=95 by omega])
     exact⟨i+1,this,by omega,rfl⟩
    ·have h4:¬s[i].toNat=95:=by omega
     simp[h1,h2,h4]at hstop ⊢
     omega
 ·simp[hl]
  have:i=ci s:=by omega
  omega
theorem gP(s:List UInt8):C 58 [.str s] (.bool (bD s)) []:=by
 refine ai hC (nf:=N58) rfl rfl ?_
 simp[N58]
 refine ac (fun h=>?_) (fun h=>?_)<;>simp at h
 ·have hp:0<s.length:=List.length_pos_iff.2 h
  simp[h,hp]
  refine ac (fun h2=>?_) (fun h2=>?_)<;>simp at h2
  ·simp[h2,hp]
   refine aa (sa hC _) (.inl rfl) ?_
   simp
   refine ac (fun h3=>?_) (fun h3=>?_)
   ·simp[h3,h2]
    refine aa (Gt hC s (by omega)) (.inl rfl) ?_
    simp[bD,h,h3,show s.length<=20 by omega,hp,Int.ofNat_inj]
    rw[x0z];simp
   ·simp[bD,h,h3,hp]
  ·simp[h2,bD]
   omega
 ·subst h
  simp[bD]
end Go.Gv

namespace Go.Gv
open Go.Lib
theorem kZ(a:Nat)(ha:a<18446744073709551616):bits .and .u64 (a:Int) 4294967295=((a%4294967296:Nat):Int):=by
 have h:=bits_and_u64_nat a 4294967295 ha (by omega)
 have e:a &&& 4294967295=a%4294967296:=Nat.and_two_pow_sub_one_eq_mod a 32
 rw[e]at h
 exact h
theorem mW(a k:Nat):Int.fdiv (a:Int) (2^k)=((a/2^k:Nat):Int):=by
 rw[Int.fdiv_eq_ediv_of_nonneg _ (by exact Int.pow_nonneg (by omega))]
 norm_cast
theorem oG(a:Nat):Int.fdiv (a:Int) (2^min 32 IntKind.u64.bits)=((a/4294967296:Nat):Int):=mW a 32
theorem qG(a b:Nat):(a:Int)*(b:Int)=((a*b:Nat):Int):=(Int.natCast_mul a b).symm
theorem th(a b:Nat):(a:Int)+(b:Int)=((a+b:Nat):Int):=(Int.natCast_add a b).symm
theorem bA(a:Nat)(ha:a<18446744073709551616):IntKind.u64.wrap (a:Int)=(a:Int):=by
 have e1:IntKind.u64.signed=false:=rfl
 have e3:(2^IntKind.u64.bits:Int)=18446744073709551616:=rfl
 unfold IntKind.wrap
 simp only[e1,e3,x1q]
 simp
 omega
theorem AN(a:Nat):IntKind.u64.wrap (a:Int)=((a%18446744073709551616:Nat):Int):=by
 have e1:IntKind.u64.signed=false:=rfl
 have e3:(2^IntKind.u64.bits:Int)=18446744073709551616:=rfl
 unfold IntKind.wrap
 simp only[e1,e3,x1q]
 simp
variable{C:CC}(hC:ay prog C)
include hC
theorem iy(x y:Nat)(hx:x<18446744073709551616)(hy:y<18446744073709551616):C 91 [.int .u64 x,.int .u64 y] (.tup [.int .u64 ((x*y/18446744073709551616:Nat):Int),.int .u64 ((x*y%18446744073709551616:Nat):Int)]) []:=by
 refine ai hC (nf:=N91) rfl rfl ?_
 obtain⟨bd,bt,bw,hhi⟩:=Lib.mul64_hi x y hx hy
 have ba:=Lib.half_mul_le (a:=x/4294967296) (b:=y/4294967296) (by omega) (by omega)
 have bb:=Lib.half_mul_le (a:=x/4294967296) (b:=y%4294967296) (by omega) (by omega)
 have bc:=Lib.half_mul_le (a:=x%4294967296) (b:=y/4294967296) (by omega) (by omega)
 have ba':x/4294967296*(y/4294967296)<18446744073709551616:=by omega
 have bb':x/4294967296*(y%4294967296)<18446744073709551616:=by omega
 have bc':x%4294967296*(y/4294967296)<18446744073709551616:=by omega
 have bh1:x/4294967296*(y/4294967296)+(x/4294967296*(y%4294967296)+x%4294967296*(y%4294967296)/4294967296)/4294967296<18446744073709551616:=by omega
 have bh:x/4294967296*(y/4294967296)+(x/4294967296*(y%4294967296)+x%4294967296*(y%4294967296)/4294967296)/4294967296+((x/4294967296*(y%4294967296)+x%4294967296*(y%4294967296)/4294967296)%4294967296+x%4294967296*(y/4294967296))/4294967296<18446744073709551616:=by omega
 simp[N91]
 simp only[kZ x hx,kZ y hy,oG,qG,th,bA _ bd,bA _ bb',bA _ bt,kZ _ bt,bA _ bc',bA _ bw,bA _ ba',bA _ bh1,bA _ bh,AN (x*y)]
 rw[hhi]
 exact⟨by omega,by omega⟩
end Go.Gv

namespace Go.Gv
theorem Eg(a:Nat):Int.fdiv (a:Int) (2^min 16 IntKind.u64.bits)=((a/65536:Nat):Int):=mW a 16
theorem CJ(a:Nat):Int.fdiv (a:Int) (2^min 8 IntKind.u64.bits)=((a/256:Nat):Int):=mW a 8
theorem OA(a:Nat)(h:a<256):IntKind.u8.wrap (a:Int)=(a:Int):=by
 have e1:IntKind.u8.signed=false:=rfl
 have e3:(2^IntKind.u8.bits:Int)=256:=rfl
 unfold IntKind.wrap
 simp only[e1,e3,x1q]
 simp
 omega
theorem tO:S1.length=256/\∀n:Fin 256,S1[n.val]?.getD 0=UInt8.ofNat (bitLen n.val)/\bitLen n.val<=8:=by decide +kernel
theorem fv{x n z:Nat}{m:Int}(hz:z<256)(hm:m=n)(hn:n<=56)(h:n+bitLen z=bitLen x):0<=IntKind.u8.wrap (z:Int)/\(IntKind.u8.wrap (z:Int)).toNat<S1.length/\IntKind.i64.wrap (m+IntKind.i64.wrap ↑(S1[(IntKind.u8.wrap (z:Int)).toNat]?.getD default).toNat)=(bitLen x:Int):=by
 rw[OA z hz]
 obtain⟨h1,h2⟩:=tO
 obtain⟨h3,h4⟩:=h2 ⟨z,hz⟩
 have e:(S1[(z:Int).toNat]?.getD default).toNat=bitLen z:=by
  show(S1[z]?.getD 0).toNat=bitLen z
  simp only at h3 h4
  rw[h3,UInt8.toNat_ofNat']
  omega
 simp only at h4
 rw[e]
 have e2:IntKind.i64.wrap (bitLen z:Int)=(bitLen z:Int):=wrap_i64 rfl (by omega)
 refine⟨by omega,by omega,?_⟩
 rw[e2,hm]
 exact wrap_i64 (by omega) (by omega)
variable{C:CC}(hC:ay prog C)
include hC
theorem A8(x:Nat)(hx:x<18446744073709551616):C 111 [.int .u64 x] (.int .i64 (bitLen x)) []:=by
 refine ai hC (nf:=N111) rfl rfl ?_
 have key:∀(b z:Nat),2^b<=z->bitLen z=b+bitLen (z/2^b):=fun b z h=>bitLen_shift z b (by
  have:=Nat.div_pos h (x1x b)
  omega)
 simp[N111]
 refine ac (fun h1=>?_) (fun h1=>?_)<;>simp at h1
 ·obtain⟨y,hy⟩:∃y:Nat,y=x/4294967296:=⟨_,rfl⟩
  have e1:Int.fdiv (x:Int) (2^min 32 IntKind.u64.bits)=(y:Int):=by rw[oG,hy]
  have k1:=key 32 x (by omega)
  simp[e1]
  refine ac (fun h2=>?_) (fun h2=>?_)<;>simp at h2
  ·obtain⟨z,hz⟩:∃z:Nat,z=y/65536:=⟨_,rfl⟩
   have e2:Int.fdiv (y:Int) (2^min 16 IntKind.u64.bits)=(z:Int):=by rw[Eg,hz]
   have k2:=key 16 y (by omega)
   simp[e2]
   refine ac (fun h3=>?_) (fun h3=>?_)<;>simp at h3
   ·obtain⟨v,hv⟩:∃v:Nat,v=z/256:=⟨_,rfl⟩
    have e3:Int.fdiv (z:Int) (2^min 8 IntKind.u64.bits)=(v:Int):=by rw[CJ,hv]
    have k3:=key 8 z (by omega)
    simp[e3]
    refine fv (n:=56) (by omega) ?_ (by omega) ?_
    ·decide
    ·simp only[Nat.reducePow]at k1 k2 k3
     rw[<- hy]at k1;rw[<- hz]at k2;rw[<- hv]at k3;omega
   ·simp
    refine fv (n:=48) (by omega) ?_ (by omega) ?_
    ·decide
    ·simp only[Nat.reducePow]at k1 k2
     rw[<- hy]at k1;rw[<- hz]at k2;omega
  ·simp
   refine ac (fun h3=>?_) (fun h3=>?_)<;>simp at h3
   ·obtain⟨v,hv⟩:∃v:Nat,v=y/256:=⟨_,rfl⟩
    have e3:Int.fdiv (y:Int) (2^min 8 IntKind.u64.bits)=(v:Int):=by rw[CJ,hv]
    have k3:=key 8 y (by omega)
    simp[e3]
    refine fv (n:=40) (by omega) ?_ (by omega) ?_
    ·decide
    ·simp only[Nat.reducePow]at k1 k3
     rw[<- hy]at k1;rw[<- hv]at k3;omega
   ·simp
    refine fv (n:=32) (by omega) ?_ (by omega) ?_
    ·decide
    ·simp only[Nat.reducePow]at k1
     rw[<- hy]at k1;omega
 ·simp
  refine ac (fun h2=>?_) (fun h2=>?_)<;>simp at h2
  ·obtain⟨z,hz⟩:∃z:Nat,z=x/65536:=⟨_,rfl⟩
   have e2:Int.fdiv (x:Int) (2^min 16 IntKind.u64.bits)=(z:Int):=by rw[Eg,hz]
   have k2:=key 16 x (by omega)
   simp[e2]
   refine ac (fun h3=>?_) (fun h3=>?_)<;>simp at h3
   ·obtain⟨v,hv⟩:∃v:Nat,v=z/256:=⟨_,rfl⟩
    have e3:Int.fdiv (z:Int) (2^min 8 IntKind.u64.bits)=(v:Int):=by rw[CJ,hv]
    have k3:=key 8 z (by omega)
    simp[e3]
    refine fv (n:=24) (by omega) ?_ (by omega) ?_
    ·decide
    ·simp only[Nat.reducePow]at k2 k3
     rw[<- hz]at k2;rw[<- hv]at k3;omega
   ·simp
    refine fv (n:=16) (by omega) ?_ (by omega) ?_
    ·decide
    ·simp only[Nat.reducePow]at k2
     rw[<- hz]at k2;omega
  ·simp
   refine ac (fun h3=>?_) (fun h3=>?_)<;>simp at h3
   ·obtain⟨v,hv⟩:∃v:Nat,v=x/256:=⟨_,rfl⟩
    have e3:Int.fdiv (x:Int) (2^min 8 IntKind.u64.bits)=(v:Int):=by rw[CJ,hv]
    have k3:=key 8 x (by omega)
    simp[e3]
    refine fv (n:=8) (by omega) ?_ (by omega) ?_
    ·decide
    ·simp only[Nat.reducePow]at k3
     rw[<- hv]at k3;omega
   ·simp
    have:=fv (x:=x) (n:=0) (m:=0) (z:=x) (by omega) rfl (by omega) (by omega)
    simpa using this
theorem lG(x:Nat)(hx:x<18446744073709551616):C 102 [.int .u64 x] (.int .i64 ((64-bitLen x:Nat):Int)) []:=by
 have hb:bitLen x<=64:=by
  unfold bitLen
  split
  ·omega
  ·rename_i h
   have:=(Nat.log2_lt h).2 (show x<2^64 by omega)
   omega
 refine ai hC (nf:=N102) rfl rfl ?_
 simp[N102]
 refine aa (A8 hC x hx) (.inl rfl) ?_
 have e:IntKind.wrap .i64 (64-(bitLen x:Int))=((64-bitLen x:Nat):Int):=wrap_i64 (by omega) (by omega)
 simp[e]
end Go.Gv

namespace Go.Gv
structure DvI (u d a b q r:Nat):Prop where
 sum:q*a+r=u
 ge:(u*4294967296+d)/(a*4294967296+b)<=q
 rlt:r<4294967296
 qle:q<=4294967297
section
variable{u d a b q r:Nat}
theorem Dv.mul(h:q*a+r=u):q*(a*4294967296+b)+r*4294967296=u*4294967296+q*b:=by
 subst h
 rw[x1I,<- x1g,x0A]
 omega
theorem Dv.lt(_:0<a)(hu:u<a*4294967296+b)(hd:d<4294967296):(u*4294967296+d)/(a*4294967296+b)<4294967296:=by
 rw[x1z (by omega)]
 have:(u+1)*4294967296<=(a*4294967296+b)*4294967296:=x0j _ hu
 omega
theorem DvI.first(ha:2147483648<=a)(ha2:a<4294967296)(hb:b<4294967296)(hu:u<a*4294967296+b)(hd:d<4294967296):DvI u d a b (u/a) (u%a) where
 sum:=by rw[x0R];exact x05 u a
 rlt:=by have:=x1a u (show 0<a by omega);omega
 ge:=by
  rw[Nat.le_div_iff_mul_le (by omega)]
  have h:=Nat.div_mul_le_self (u*4294967296+d) (a*4294967296+b)
  generalize (u*4294967296+d)/(a*4294967296+b)=Q at *
  rw[x1I,<- x1g]at h
  generalize Q*b=z at *
  generalize Q*a=x at *
  omega
 qle:=by
  have:u/a<4294967298:=by
   rw[x1z (by omega)]
   omega
  omega
theorem DvI.more(h:DvI u d a b q r)(ha:0<a)(hu:u<a*4294967296+b)(hd:d<4294967296)(hc:4294967296<=q\/4294967296*r+d<q*b):(u*4294967296+d)/(a*4294967296+b)+1<=q:=by
 rcases hc with hc|hc
 ·have:=Dv.lt (d:=d) ha hu hd
  omega
 ·have h1:=Dv.mul (b:=b) h.sum
  have:(u*4294967296+d)/(a*4294967296+b)<q:=by
   rw[x1z (by omega)]
   generalize q*(a*4294967296+b)=z at *
   generalize q*b=x at *
   omega
  omega
theorem DvI.done(h:DvI u d a b q r)(ha:0<a)(hc:q*b<=4294967296*r+d):q=(u*4294967296+d)/(a*4294967296+b):=by
 have h1:=Dv.mul (b:=b) h.sum
 have h2:=h.ge
 have:q<=(u*4294967296+d)/(a*4294967296+b):=by
  rw[Nat.le_div_iff_mul_le (by omega)]
  generalize q*(a*4294967296+b)=z at *
  generalize q*b=x at *
  omega
 omega
theorem DvI.next(h:DvI u d a b q r)(ha:0<a)(hu:u<a*4294967296+b)(hd:d<4294967296)(hc:4294967296<=q\/4294967296*r+d<q*b) :
  1<=q/\(q-1)*a+(r+a)=u/\(u*4294967296+d)/(a*4294967296+b)<=q-1/\q-1<=4294967296:=by
 have h1:=h.more ha hu hd hc
 have h2:=h.qle
 have h3:=h.sum
 generalize (u*4294967296+d)/(a*4294967296+b)=Q at *
 obtain⟨q',rfl⟩:∃q',q=q'+1:=⟨q-1,by omega⟩
 refine⟨by omega,?_,by omega,by omega⟩
 rw[x0A]at h3
 simp only[Nat.add_sub_cancel]
 omega
theorem Dv.stop(hs:q*a+r=u)(hg:(u*4294967296+d)/(a*4294967296+b)<=q)(hq:q<=4294967296)(ha:0<a)(hb:b<4294967296)(hr:4294967296<=r):q=(u*4294967296+d)/(a*4294967296+b):=by
 have h1:=Dv.mul (b:=b) hs
 have h3:q*b<=4294967296*4294967295:=x0U hq (by omega)
 have:q<=(u*4294967296+d)/(a*4294967296+b):=by
  rw[Nat.le_div_iff_mul_le (by omega)]
  generalize q*(a*4294967296+b)=z at *
  generalize q*b=x at *
  omega
 omega
theorem DvI.bnd(h:DvI u d a b q r)(hb:b<4294967296):q*b<18446744073709551616:=by
 have:=x0U h.qle (show b<=4294967295 by omega)
 omega
end
theorem EQ{N y S A K un0 y':Nat}(hy:0<y)(hs:0<S)(hy':y'=y*S)(hn:N*S=A*K+un0) :
  A/y'*K+(A%y'*K+un0)/y'=N/y/\(A%y'*K+un0)%y'/S=N%y:=by
 have hyp:0<y':=by rw[hy'];exact Nat.mul_pos hy hs
 have e1:=x05 A y'
 have e2:=x05 (A%y'*K+un0) y'
 have l2:=x1a (A%y'*K+un0) hyp
 have tot:y'*(A/y'*K+(A%y'*K+un0)/y')+(A%y'*K+un0)%y'=N*S:=by
  rw[hn,x1I,x0N,e2,<- x1g,<- x0N,<- x0A,e1]
 have hq:N*S/y'=A/y'*K+(A%y'*K+un0)/y':=by
  rw[<- tot,Nat.mul_add_div hyp,Nat.div_eq_of_lt l2,x0Z]
 have hr:N*S%y'=(A%y'*K+un0)%y':=by
  rw[<- tot,Nat.mul_add_mod,Nat.mod_eq_of_lt l2]
 rw[hy',Nat.mul_div_mul_right _ _ hs]at hq
 rw[hy',Nat.mul_mod_mul_right]at hr
 rw[hy']at *
 exact⟨hq.symm,by rw[<- hr,Nat.mul_div_cancel _ hs]⟩
end Go.Gv

namespace Go.Gv
section
variable{C:CC}
theorem jO{f:Nat->D}{dst:Option Nat}{K K':KT}{o:NOp}(h:aL C f dst K o)(hk:∀ws ks,K ws ks->K' ws ks):aL C f dst K' o:=by
 obtain⟨ws,ks,h1,h2⟩:=ox h
 exact h2 K' (hk ws ks h1)
theorem iM{e:Env}{dst:Option Nat}{K K':Env->Prop}(h:ip e dst K)(hk:∀e,K e->K' e):ip e dst K':=by
 unfold ip at h ⊢
 split at h
 ·exact hk _ h
 ·exact hk _ h
theorem iv{K K':Env->Prop}(hk:∀e,K e->K' e):∀(ns:List az) (e:Env),iU C K ns e->iU C K' ns e
 | [],e,h=>hk e h
 | o::os,e,h=>by
  rw[iU]at h ⊢
  split at h
  ·exact jO h (fun ws ks h1=>iv hk os _ h1)
  ·split at h
   ·exact⟨fun hb=>jO (h.1 hb) (fun ws ks h1=>iv hk os _ h1),fun hb=>iM (h.2 hb) (fun e h1=>iv hk os e h1)⟩
   ·exact iM h (fun e h1=>iv hk os e h1)
   ·exact h.elim
theorem iu{hs:List Nat}{K K':Env->Prop}(hk:∀e,K e->K' e):∀(ns:List az) (e:Env) (acc:List (List Nat×List Nat)),j6 C hs K ns e acc->j6 C hs K' ns e acc
 | [],e,acc,h=>⟨h.1,hk e h.2⟩
 | o::os,e,acc,h=>by
  rw[j6]at h ⊢
  refine⟨h.1,?_⟩
  have h:=h.2
  split at h
  ·exact jO h (fun ws ks h1=>⟨h1.1,iu hk os _ _ h1.2⟩)
  ·split at h
   ·exact⟨fun hb=>jO (h.1 hb) (fun ws ks h1=>⟨h1.1,iu hk os _ _ h1.2⟩),fun hb=>iM (h.2 hb) (fun e h1=>iu hk os e _ h1)⟩
   ·exact iM h (fun e h1=>iu hk os e _ h1)
   ·exact h.elim
theorem eE:∀(c:dB) (Q Q':cu->Env->Prop) (e:Env),(∀t e,Q t e->Q' t e)->wpN C c Q e->wpN C c Q' e
 | .skip,Q,Q',e,hq,h=>hq _ _ h
 | .reg dr hs keep ops,Q,Q',e,hq,h=>by
  cases dr with
  | false=>exact iv (fun e h=>hq _ _ h) ops e h
  | true=>exact iu (fun e h=>hq _ _ h) ops e [] h
 | .seq x y,Q,Q',e,hq,h=>eE x _ _ e (fun t e h=>by
   cases t with
   | nrm=>exact eE y Q Q' e hq h
   | ext i=>exact hq _ _ h
   | ret=>exact hq _ _ h) h
 | .cond c x y,Q,Q',e,hq,h=>by
  rw[wpN]at h ⊢
  split at h
  ·exact⟨fun hb=>eE x Q Q' e hq (h.1 hb),fun hb=>eE y Q Q' e hq (h.2 hb)⟩
  ·exact⟨eE x Q Q' e hq h.1,eE y Q Q' e hq h.2⟩
  ·exact h.elim
 | .block id c,Q,Q',e,hq,h=>eE c _ _ e (fun t e h=>by
   cases t with
   | nrm=>exact hq _ _ h
   | ext i =>
    simp only at h ⊢
    split
    ·rename_i hi;rw[if_pos hi]at h;exact hq _ _ h
    ·rename_i hi;rw[if_neg hi]at h;exact hq _ _ h
   | ret=>exact hq _ _ h) h
 | .loop c,Q,Q',e,hq,h=>by
  obtain⟨S,G,I,m,s0,h1,h2,h3⟩:=h
  refine⟨S,G,I,m,s0,h1,h2,fun s hs=>eE c _ _ _ (fun t e h=>?_) (h3 s hs)⟩
  cases t with
  | nrm=>exact h
  | ext i=>exact hq _ _ h
  | ret=>exact hq _ _ h
 | .exit id,Q,Q',e,hq,h=>hq _ _ h
 | .ret,Q,Q',e,hq,h=>hq _ _ h
def wF(id:Nat)(S:Type)(G:S->Env)(J:S->Prop)(Q:cu->Env->Prop):cu->Env->Prop:=fun t e=>match t with
 | .ext i=>if i=id then ∃s,J s/\kJ e (G s) else Q (.ext i) e
 | t=>Q t e
variable{Q:cu->Env->Prop}{e:Env}
@[simp] theorem Bz{id S G J u}:bL (wF id S G J Q) u .nrm e=bL Q ⟨⟩ .nrm e:=zR
@[simp] theorem BA{id S G J u}:bL (wF id S G J Q) u .ret e=bL Q ⟨⟩ .ret e:=zR
@[simp] theorem By{id S G J u i}:bL (wF id S G J Q) u (.ext i) e=if i=id then ∃s,J s/\kJ e (G s) else bL Q ⟨⟩ (.ext i) e:=zR
theorem sg{c:dB}{u:Tag (c,Q)}(id:Nat)(S:Type)(G:S->Env)(J:S->Prop)(h:uU C c (wF id S G J Q) ⟨⟩ e)(hr:∀s e,J s->kJ e (G s)->bL Q ⟨⟩ (.ext id) e):uU C c Q u e :=
 eE (.loop c) (wF id S G J Q) Q e (fun t e g=>by
  cases t with
  | nrm=>exact g
  | ret=>exact g
  | ext i =>
   simp only[wF]at g
   by_cases hi:i=id
   ·rw[if_pos hi]at g
    obtain⟨s,h1,h2⟩:=g
    rw[hi]
    exact hr s e h1 h2
   ·rw[if_neg hi]at g
    exact g) h
def Fp(S:Type)(G:S->Env)(J:S->Prop)(Q:cu->Env->Prop):cu->Env->Prop:=fun t e=>match t with
 | .nrm=>∃s,J s/\kJ e (G s)
 | t=>Q t e
@[simp] theorem Bw{S G J u}:bL (Fp S G J Q) u .nrm e=∃s,J s/\kJ e (G s):=zR
@[simp] theorem Bx{S G J u}:bL (Fp S G J Q) u .ret e=bL Q ⟨⟩ .ret e:=zR
@[simp] theorem Bv{S G J u i}:bL (Fp S G J Q) u (.ext i) e=bL Q ⟨⟩ (.ext i) e:=zR
end
@[simp] theorem Oe{C:CC}{hs:Option (List Nat)}{K:Env->Prop}{ns:List az}{dst:Option Nat}{u:Tag (hs,K,ns)}{e:Env}{R:List Nat}{acc:List (List Nat×List Nat)}{α:Type}[Inhabited α]{n:Nat}{ag:Bool}{p:Pa}{xs:List α}{f:α->List D}{i off:Nat} :
  md C hs K ns dst u e R acc n ag p (xs.map f) i off=(i<xs.length/\off+n<=(f xs[i]!).length/\match ag with
    | true=>((((f xs[i]!).drop off).take n).all isV=true->dW C hs K ns dst ⟨⟩ e R acc (.agg (((f xs[i]!).drop off).take n))) /\
      ((((f xs[i]!).drop off).take n).all isV=false->dW C hs K ns dst ⟨⟩ e R acc (.agx ((((f xs[i]!).drop off).take n).mapIdx fun j c=>ldc p i (off+j) c)))
    | false=>dW C hs K ns dst ⟨⟩ e R acc (ldc p i off (((f xs[i]!).drop off).headD .any))):=by
 apply propext
 constructor
 ·rintro⟨r,h,h1,h2⟩
  rw[x0B,x0n]at h
  obtain⟨x,hx,rfl⟩:=h
  obtain⟨hi,rfl⟩:=x0b.1 hx
  rw[x0f xs i hi]
  refine⟨hi,h1,?_⟩
  cases ag<;>exact h2
 ·rintro⟨hi,h1,h2⟩
  rw[x0f xs i hi]at h1 h2
  refine vg (r:=f xs[i]) (by rw[x0B,x0e hi];rfl) h1 ?_
  cases ag<;>exact h2
@[simp] theorem IT{b all ks n}:aP ((b,all)::ks) (.ptx n)=if n.any (aK b all) then .any else aP ks (.ptx n):=by
 have h:aP ((b,all)::ks) (.ptx n)=bif (n.any (aK b all)||aN ks (.ptx n)) then .any else .ptx n:=bP ..
 rw[h,bP]
 cases n.any (aK b all)<;>rfl
@[simp] theorem IV{b all ks k sz n}:aP ((b,all)::ks) (.rfx k sz n)=if n.any (aK b all) then .any else aP ks (.rfx k sz n):=by
 have h:aP ((b,all)::ks) (.rfx k sz n)=bif (n.any (aK b all)||aN ks (.rfx k sz n)) then .any else .rfx k sz n:=bP ..
 rw[h,bP]
 cases n.any (aK b all)<;>rfl
@[simp] theorem IZ{b all ks n}:aP ((b,all)::ks) (.tpx n)=if n.any (aK b all) then .any else aP ks (.tpx n):=by
 have h:aP ((b,all)::ks) (.tpx n)=bif (n.any (aK b all)||aN ks (.tpx n)) then .any else .tpx n:=bP ..
 rw[h,bP]
 cases n.any (aK b all)<;>rfl
@[simp] theorem Jd{b all n es}:aK b all (slx n es)=false:=by cases n<;>cases es<;>rfl
@[simp] theorem Jb{b all p k n}:aK b all (.ref p k n)=bQ b all p:=zR
@[simp] theorem I5{b all p k n}:aK b all (.adr p k n)=bQ b all p:=zR
@[simp] theorem I6{b all T p k n}:aK b all (.ifa T p k n)=bQ b all p:=zR
@[simp] theorem I7{b all T n}:aK b all (.ifi T n)=false:=zR
@[simp] theorem Jc{b all k n}:aK b all (.slv k n)=false:=zR
@[simp] theorem I9{b all c}:aK b all (.mrf c)=(all&&c==b):=zR
@[simp] theorem I8{b all k n}:aK b all (.int k n)=false:=zR
@[simp] theorem Fm{b all n}:aK b all (.bool n)=false:=zR
@[simp] theorem Je{b all n}:aK b all (.str n)=false:=zR
@[simp] theorem Fo{b all}:aK b all .nils=false:=zR
@[simp] theorem Fn{b all}:aK b all .nilp=false:=zR
@[simp] theorem Ns{b all n}:aK b all (.sl n)=false:=zR
@[simp] theorem Ja{b all n}:aK b all (.ptr n)=false:=zR
@[simp] theorem Nr{b all g n}:aK b all (.fn g n)=false:=zR
@[simp] theorem IQ{b all ks c}:aP ((b,all)::ks) (.mrf c)=if (all&&c==b) then .any else aP ks (.mrf c):=by
 have h:aP ((b,all)::ks) (.mrf c)=bif ((all&&c==b)||aN ks (.mrf c)) then .any else .mrf c:=bP ..
 rw[h,bP]
 cases all&&c==b<;>rfl
end Go.Gv

namespace Go.Gv
theorem oM(a b:Nat):Int.tdiv (a:Int) (b:Int)=((a/b:Nat):Int):=by
 rw[Int.tdiv_eq_ediv_of_nonneg (by omega)];norm_cast
theorem El(a b:Nat):Int.tmod (a:Int) (b:Int)=((a%b:Nat):Int):=by
 rw[Int.tmod_eq_emod_of_nonneg (by omega)];norm_cast
theorem fy(a:Int):IntKind.u64.wrap a=a%18446744073709551616:=by
 have e1:IntKind.u64.signed=false:=rfl
 have e3:(2^IntKind.u64.bits:Int)=18446744073709551616:=rfl
 unfold IntKind.wrap
 simp only[e1,e3,x1q]
 simp
theorem orN(a b i:Nat)(hb:b<2^i)(h:a*2^i+b<18446744073709551616):bits .or .u64 ((a*2^i:Nat):Int) (b:Int)=((a*2^i+b:Nat):Int):=by
 rw[bits_or_u64_nat _ _ (by omega) (by omega),x0R a,Nat.two_pow_add_eq_or_of_lt hb]
theorem wy(a m b s:Nat):(a*m+b)*s=a*s*m+b*s:=by rw[x0A,Nat.mul_right_comm]
theorem Ov{H B W U d1 d0:Nat}(hU:U=H+B)(h1:d1=W/4294967296)(h0:d0=W%4294967296):H*18446744073709551616+(B*18446744073709551616+W)=(U*4294967296+d1)*4294967296+d0:=by omega
theorem FW{y s:Nat}(h0:y≠0)(hy:y<18446744073709551616)(hs:s=64-bitLen y):s<=63/\9223372036854775808<=y*2^s/\y*2^s<18446744073709551616:=by
 obtain⟨h1,h2⟩:=bitLen_spec y
 have h3:=h2 h0
 have hb:bitLen y<=64:=by
  unfold bitLen
  rw[if_neg h0]
  have:=(Nat.log2_lt h0).2 (show y<2^64 by omega)
  omega
 have hb1:1<=bitLen y:=by unfold bitLen;rw[if_neg h0];omega
 have e:bitLen y+s=64:=by omega
 refine⟨by omega,?_,?_⟩
 ·have:=x0j (2^s) h3
  rw[<- Nat.pow_add,show bitLen y-1+s=63 by omega]at this
  omega
 ·have:=Nat.mul_lt_mul_of_pos_right h1 (x1x s)
  rw[<- Nat.pow_add,e]at this
  omega
variable{C:CC}(hC:ay prog C)
include hC
theorem ux(hi lo y:Nat)(h:hi<y)(hy:y<18446744073709551616)(hl:lo<18446744073709551616) :
  C 92 [.int .u64 hi,.int .u64 lo,.int .u64 y] (.tup [.int .u64 (((hi*18446744073709551616+lo)/y:Nat):Int),.int .u64 (((hi*18446744073709551616+lo)%y:Nat):Int)]) []:=by
 refine ai hC (nf:=N92) rfl rfl ?_
 have h1:¬y=0:=by omega
 have h2:¬y<=hi:=by omega
 generalize hres:D.tup [D.int .u64 (((hi*18446744073709551616+lo)/y:Nat):Int),.int .u64 (((hi*18446744073709551616+lo)%y:Nat):Int)]=res
 simp[N92]
 refine ac (fun h=>?_) (fun _=>?_)
 ·simp at h;omega
 simp
 refine ac (fun h=>?_) (fun _=>?_)
 ·simp at h;omega
 simp
 refine ac (fun h=>?_) (fun h3=>?_)
 ·simp at h
  have:hi=0:=by omega
  subst this
  have hq:lo/y<18446744073709551616:=by have:=Nat.div_le_self lo y;omega
  obtain⟨q,hq'⟩:∃q,q=lo/y:=⟨_,rfl⟩
  obtain⟨r,hr'⟩:∃r,r=lo%y:=⟨_,rfl⟩
  have e1:Int.tdiv (lo:Int) (y:Int)=(q:Int):=by rw[oM,hq']
  have e2:Int.tmod (lo:Int) (y:Int)=(r:Int):=by rw[El,hr']
  simp[h1,e1,e2,bA q (by omega)]
  refine⟨ao (by decide +kernel),?_⟩
  rw[<- hres,hq',hr',x1B,x09]
 simp
 refine aa (lG hC y hy) (.inl rfl) ?_
 generalize hs:64-bitLen y=s
 obtain⟨s1,s2,s3⟩:=FW h1 hy hs.symm
 have w1:IntKind.u64.wrap (s:Int)=(s:Int):=bA _ (by omega)
 have w2:IntKind.u64.wrap (64-(s:Int))=((64-s:Nat):Int):=by rw[fy];omega
 have m1:min s IntKind.u64.bits=s:=by show min s 64=s;omega
 have m2:min (64-s) IntKind.u64.bits=64-s:=by show min (64-s) 64=64-s;omega
 obtain⟨Y,hY⟩:∃Y,Y=y*2^s:=⟨_,rfl⟩
 obtain⟨H,hH⟩:∃H,H=hi*2^s:=⟨_,rfl⟩
 obtain⟨W,hW⟩:∃W,W=lo*2^s%18446744073709551616:=⟨_,rfl⟩
 obtain⟨B,hB⟩:∃B,B=lo/2^(64-s):=⟨_,rfl⟩
 rw[<- hY]at s2 s3
 have hHY:H+2^s<=Y:=by
  have:=x0j (2^s) h
  rw[hH,hY]
  rw[x0Y]at this
  exact this
 have hBs:B<2^s:=by
  rw[hB,x1z (x1x _),<- Nat.pow_add,show s+(64-s)=64 by omega]
  exact hl
 obtain⟨U,hU⟩:∃U,U=H+B:=⟨_,rfl⟩
 have hUY:U<Y:=by omega
 have eY:IntKind.u64.wrap ((y:Int)*2^s)=(Y:Int):=by
  rw[show(y:Int)*2^s=(Y:Int) by rw[hY];norm_cast];exact bA _ s3
 have eH:IntKind.u64.wrap ((hi:Int)*2^s)=(H:Int):=by
  rw[show(hi:Int)*2^s=(H:Int) by rw[hH];norm_cast];exact bA _ (by omega)
 have eW:IntKind.u64.wrap ((lo:Int)*2^s)=(W:Int):=by
  rw[show(lo:Int)*2^s=((lo*2^s:Nat):Int) by norm_cast,AN,hW]
 have eB:Int.fdiv (lo:Int) (2^(64-s))=(B:Int):=by rw[mW,hB]
 have eU:bits .or .u64 (H:Int) (B:Int)=(U:Int):=by
  rw[hU,hH];exact orN hi B s hBs (by omega)
 obtain⟨Y1,hY1⟩:∃Y1,Y1=Y/4294967296:=⟨_,rfl⟩
 obtain⟨Y0,hY0⟩:∃Y0,Y0=Y%4294967296:=⟨_,rfl⟩
 obtain⟨d1,hd1⟩:∃d1,d1=W/4294967296:=⟨_,rfl⟩
 obtain⟨d0,hd0⟩:∃d0,d0=W%4294967296:=⟨_,rfl⟩
 have eY1:Int.fdiv (Y:Int) (2^min 32 IntKind.u64.bits)=(Y1:Int):=by rw[oG,hY1]
 have eY0:bits .and .u64 (Y:Int) 4294967295=(Y0:Int):=by rw[kZ _ s3,hY0]
 have hW64:W<18446744073709551616:=by rw[hW];exact x1a _ (by omega)
 have ed1:Int.fdiv (W:Int) (2^min 32 IntKind.u64.bits)=(d1:Int):=by rw[oG,hd1]
 have ed0:bits .and .u64 (W:Int) 4294967295=(d0:Int):=by rw[kZ _ hW64,hd0]
 have hY1a:2147483648<=Y1:=by omega
 have hY1b:Y1<4294967296:=by omega
 have hY0b:Y0<4294967296:=by omega
 have hd1b:d1<4294967296:=by omega
 have hd0b:d0<4294967296:=by omega
 have hYs:Y1*4294967296+Y0=Y:=by omega
 have nz:¬Y1=0:=by omega
 have inv1:=DvI.first hY1a hY1b hY0b (u:=U) (d:=d1) (by omega) hd1b
 obtain⟨q,hq⟩:∃q,q=U/Y1:=⟨_,rfl⟩
 obtain⟨r,hr⟩:∃r,r=U%Y1:=⟨_,rfl⟩
 rw[<- hq,<- hr]at inv1
 have eq1:Int.tdiv (U:Int) (Y1:Int)=(q:Int):=by rw[oM,hq]
 have eq2:IntKind.u64.wrap (q:Int)=(q:Int):=bA _ (by have:=inv1.qle;omega)
 have sub1:∀(u a q r:Nat),q*a+r=u->u<18446744073709551616->IntKind.u64.wrap ((u:Int)-IntKind.u64.wrap ((q:Int)*(a:Int)))=(r:Int):=fun u a q r e hu=>by
  rw[qG,fy,fy]
  generalize q*a=z at *
  omega
 have er:IntKind.u64.wrap ((U:Int)-IntKind.u64.wrap ((q:Int)*(Y1:Int)))=(r:Int):=sub1 _ _ _ _ inv1.sum (by omega)
 simp[w1,w2,m1,m2,eY,eH,eW,eB,eU,eY1,eY0,ed1,ed0,eq1,eq2,er,nz]
 have bm:∀{u d q r:Nat},DvI u d Y1 Y0 q r->IntKind.u64.wrap ((q:Int)*(Y0:Int))=((q*Y0:Nat):Int):=fun i=>by rw[qG];exact bA _ (i.bnd hY0b)
 have bp:∀{u d q r:Nat},d<4294967296->DvI u d Y1 Y0 q r->IntKind.u64.wrap (IntKind.u64.wrap (4294967296*(r:Int))+(d:Int))=((4294967296*r+d:Nat):Int):=fun{u d q r} hd i=>by
  have:=i.rlt
  rw[show(4294967296:Int)*(r:Int)=((4294967296*r:Nat):Int) by omega,bA (4294967296*r) (by omega),th]
  exact bA _ (by omega)
 obtain⟨Q1,hQ1⟩:∃Q1,Q1=(U*4294967296+d1)/(Y1*4294967296+Y0):=⟨_,rfl⟩
 refine sg 0 Nat (fun x=>[(2,.int .u64 Y),(8,.int .u64 s),(9,.int .u64 Y1),(10,.int .u64 Y0),(11,.int .u64 U),(13,.int .u64 d1),(14,.int .u64 d0),(15,.int .u64 x)]) (fun x=>x=Q1) ?_ ?_
 ·refine au (Nat×Nat) (fun x=>[(2,.int .u64 Y),(8,.int .u64 s),(9,.int .u64 Y1),(10,.int .u64 Y0),(11,.int .u64 U),(13,.int .u64 d1),(14,.int .u64 d0),(15,.int .u64 x.1),(16,.int .u64 x.2)]) (fun x=>DvI U d1 Y1 Y0 x.1 x.2) (fun x=>4294967296-x.2) (q,r) inv1 (by simp) ?_
  rintro⟨a,c⟩ inv
  simp only at inv
  have b1:=bm inv
  have b2:=bp hd1b inv
  have b3:=inv.rlt
  have b4:=inv.qle
  have fin:(4294967296<=a\/4294967296*c+d1<a*Y0)->∃a' c':Nat,IntKind.u64.wrap ((a:Int)-1)=(a':Int)/\IntKind.u64.wrap ((c:Int)+(Y1:Int))=(c':Int)/\c'=c+Y1/\(4294967296<=c'->a'=Q1)/\(c'<4294967296->DvI U d1 Y1 Y0 a' c'):=fun hc=>by
   obtain⟨n1,n2,n3,n4⟩:=inv.next (by omega) (by rw[hYs];exact hUY) hd1b hc
   refine⟨a-1,c+Y1,by rw[fy];omega,by rw[fy];omega,rfl,fun hc=>(Dv.stop n2 n3 n4 (by omega) hY0b hc).trans hQ1.symm,fun hc=>⟨n2,n3,hc,by omega⟩⟩
  simp
  refine ac (fun c1=>?_) (fun c1=>?_)<;>simp[c1]<;>simp at c1
  ·obtain⟨a',c',k1,k2,k3,k4,k5⟩:=fin (.inl (by omega))
   simp[k1,k2]
   refine ac (fun c2=>?_) (fun c2=>?_)<;>simp[c2,k1,k2]<;>simp at c2
   ·rw[k4 (by omega)]
   ·exact⟨_,_,k5 (by omega),by omega,rfl,rfl⟩
  ·simp[b1,b2]
   refine ac (fun c3=>?_) (fun c3=>?_)<;>simp[c3]<;>simp at c3
   ·obtain⟨a',c',k1,k2,k3,k4,k5⟩:=fin (.inr (by omega))
    simp[k1,k2]
    refine ac (fun c2=>?_) (fun c2=>?_)<;>simp[c2,k1,k2]<;>simp at c2
    ·rw[k4 (by omega)]
    ·exact⟨_,_,k5 (by omega),by omega,rfl,rfl⟩
   ·rw[(inv.done (by omega) (by omega)).trans hQ1.symm]
 intro q1 e hq1 hw
 subst hq1
 simp at hw
 obtain⟨g2,g8,g9,g10,g11,g13,g14,g15⟩:=hw
 obtain⟨V,hV⟩:∃V,V=(U*4294967296+d1)%(Y1*4294967296+Y0):=⟨_,rfl⟩
 have hVY:V<Y:=by rw[hV,hYs];exact x1a _ (by omega)
 have sum1:q1*Y+V=U*4294967296+d1:=by rw[hQ1,hV,hYs,x0R];exact x05 _ _
 have eV:IntKind.u64.wrap (IntKind.u64.wrap (IntKind.u64.wrap ((U:Int)*4294967296)+(d1:Int))-IntKind.u64.wrap ((q1:Int)*(Y:Int)))=(V:Int):=by
  rw[qG q1 Y]
  simp only[fy]
  generalize q1*Y=z at *
  omega
 have inv2:=DvI.first hY1a hY1b hY0b (u:=V) (d:=d0) (by omega) hd0b
 obtain⟨q2,hq2⟩:∃q,q=V/Y1:=⟨_,rfl⟩
 obtain⟨r2,hr2⟩:∃r,r=V%Y1:=⟨_,rfl⟩
 rw[<- hq2,<- hr2]at inv2
 have eq3:Int.tdiv (V:Int) (Y1:Int)=(q2:Int):=by rw[oM,hq2]
 have eq4:IntKind.u64.wrap (q2:Int)=(q2:Int):=bA _ (by have:=inv2.qle;omega)
 have er2:IntKind.u64.wrap ((V:Int)-IntKind.u64.wrap ((q2:Int)*(Y1:Int)))=(r2:Int):=sub1 _ _ _ _ inv2.sum (by omega)
 simp[g2,g8,g9,g10,g11,g13,g14,g15,eV,eq3,eq4,er2,nz]
 obtain⟨Q0,hQ0⟩:∃Q0,Q0=(V*4294967296+d0)/(Y1*4294967296+Y0):=⟨_,rfl⟩
 refine sg 2 Nat (fun x=>[(2,.int .u64 Y),(8,.int .u64 s),(14,.int .u64 d0),(15,.int .u64 q1),(17,.int .u64 V),(18,.int .u64 x)]) (fun x=>x=Q0) ?_ ?_
 ·refine au (Nat×Nat) (fun x=>[(2,.int .u64 Y),(8,.int .u64 s),(9,.int .u64 Y1),(10,.int .u64 Y0),(14,.int .u64 d0),(15,.int .u64 q1),(16,.int .u64 x.2),(17,.int .u64 V),(18,.int .u64 x.1)]) (fun x=>DvI V d0 Y1 Y0 x.1 x.2) (fun x=>4294967296-x.2) (q2,r2) inv2 (by simp) ?_
  rintro⟨a,c⟩ inv
  simp only at inv
  have b1:=bm inv
  have b2:=bp hd0b inv
  have b3:=inv.rlt
  have b4:=inv.qle
  have fin:(4294967296<=a\/4294967296*c+d0<a*Y0)->∃a' c':Nat,IntKind.u64.wrap ((a:Int)-1)=(a':Int)/\IntKind.u64.wrap ((c:Int)+(Y1:Int))=(c':Int)/\c'=c+Y1/\(4294967296<=c'->a'=Q0)/\(c'<4294967296->DvI V d0 Y1 Y0 a' c'):=fun hc=>by
   obtain⟨n1,n2,n3,n4⟩:=inv.next (by omega) (by rw[hYs];exact hVY) hd0b hc
   refine⟨a-1,c+Y1,by rw[fy];omega,by rw[fy];omega,rfl,fun hc=>(Dv.stop n2 n3 n4 (by omega) hY0b hc).trans hQ0.symm,fun hc=>⟨n2,n3,hc,by omega⟩⟩
  simp
  refine ac (fun c1=>?_) (fun c1=>?_)<;>simp[c1]<;>simp at c1
  ·obtain⟨a',c',k1,k2,k3,k4,k5⟩:=fin (.inl (by omega))
   simp[k1,k2]
   refine ac (fun c2=>?_) (fun c2=>?_)<;>simp[c2,k1,k2]<;>simp at c2
   ·rw[k4 (by omega)]
   ·exact⟨_,_,k5 (by omega),by omega,rfl,rfl⟩
  ·simp[b1,b2]
   refine ac (fun c3=>?_) (fun c3=>?_)<;>simp[c3]<;>simp at c3
   ·obtain⟨a',c',k1,k2,k3,k4,k5⟩:=fin (.inr (by omega))
    simp[k1,k2]
    refine ac (fun c2=>?_) (fun c2=>?_)<;>simp[c2,k1,k2]<;>simp at c2
    ·rw[k4 (by omega)]
    ·exact⟨_,_,k5 (by omega),by omega,rfl,rfl⟩
   ·rw[(inv.done (by omega) (by omega)).trans hQ0.symm]
 intro q0 e hq0 hw
 subst hq0
 simp at hw
 obtain⟨g2,g8,g14,g15,g17,g18⟩:=hw
 have l1:q1<4294967296:=by rw[hQ1];exact Dv.lt (by omega) (by omega) hd1b
 have l0:q0<4294967296:=by rw[hQ0];exact Dv.lt (by omega) (by omega) hd0b
 obtain⟨R,hR⟩:∃R,R=(V*4294967296+d0)%(Y1*4294967296+Y0):=⟨_,rfl⟩
 have hRY:R<Y:=by rw[hR,hYs];exact x1a _ (by omega)
 have sum0:q0*Y+R=V*4294967296+d0:=by rw[hQ0,hR,hYs,x0R];exact x05 _ _
 have eR:IntKind.u64.wrap (IntKind.u64.wrap (IntKind.u64.wrap ((V:Int)*4294967296)+(d0:Int))-IntKind.u64.wrap ((q0:Int)*(Y:Int)))=(R:Int):=by
  rw[qG q0 Y]
  simp only[fy]
  generalize q0*Y=z at *
  omega
 obtain⟨Z,hZ⟩:∃Z,Z=R/2^s:=⟨_,rfl⟩
 have eZ:Int.fdiv (R:Int) (2^s)=(Z:Int):=by rw[mW,hZ]
 have eQ:IntKind.u64.wrap (IntKind.u64.wrap ((q1:Int)*4294967296)+(q0:Int))=((q1*4294967296+q0:Nat):Int):=by
  simp only[fy]
  omega
 obtain⟨T,hT⟩:∃T,T=q1*4294967296+q0:=⟨_,rfl⟩
 rw[<- hT]at eQ
 simp[g2,g8,g14,g15,g17,g18,w1,m1,eR,eZ,eQ]
 have hW2:lo*2^s=B*18446744073709551616+W:=by
  have e1:lo*2^s/18446744073709551616=B:=by
   rw[hB,show(18446744073709551616:Nat)=2^(64-s)*2^s by rw[<- Nat.pow_add,show 64-s+s=64 by omega],Nat.mul_div_mul_right _ _ (x1x s)]
  have e2:=x05 (lo*2^s) 18446744073709551616
  omega
 have tot:(hi*18446744073709551616+lo)*2^s=(U*4294967296+d1)*4294967296+d0:=by
  rw[wy,hW2,<- hH]
  exact Ov hU hd1 hd0
 obtain⟨f1,f2⟩:=EQ (N:=hi*18446744073709551616+lo) (y:=y) (S:=2^s) (A:=U*4294967296+d1) (K:=4294967296) (un0:=d0) (y':=Y1*4294967296+Y0) (by omega) (x1x s) (by rw[hYs,hY]) tot
 rw[<- hV,<- hQ1,<- hQ0,<- hT]at f1
 rw[<- hV,<- hR,<- hZ]at f2
 rw[<- hres,f1,f2]
end Go.Gv

namespace Go.Gv
def bz(n:Nat):D:=.agg [.int .u64 ((n/18446744073709551616:Nat):Int),.int .u64 ((n%18446744073709551616:Nat):Int)]
def gh(x:Nat):Nat->Nat->Nat
 | 0,r=>r
 | i+1,r=>gh x i (if (r+2^i)*(r+2^i)<=x then r+2^i else r)
def dw(x:Nat):Nat:=gh x 63 0
theorem qH{x k:Nat}:x*k=(x/18446744073709551616*k+x%18446744073709551616*k/18446744073709551616)*18446744073709551616+x%18446744073709551616*k%18446744073709551616:=by
 have e1:=x05 x 18446744073709551616
 have e2:=x05 (x%18446744073709551616*k) 18446744073709551616
 have e3:x*k=(18446744073709551616*(x/18446744073709551616)+x%18446744073709551616)*k:=by rw[e1]
 rw[x0A,x1g]at e3
 generalize x/18446744073709551616*k=A at *
 generalize x%18446744073709551616*k=B at *
 omega
theorem Bp{x n:Nat}(hn:0<n):x/n=(x/18446744073709551616/n)*18446744073709551616+(x/18446744073709551616%n*18446744073709551616+x%18446744073709551616)/n/\(x/18446744073709551616%n*18446744073709551616+x%18446744073709551616)/n<18446744073709551616:=by
 obtain⟨H,hH⟩:∃H,H=x/18446744073709551616:=⟨_,rfl⟩
 obtain⟨L,hL⟩:∃L,L=x%18446744073709551616:=⟨_,rfl⟩
 rw[<- hH,<- hL]
 have hx:x=H*18446744073709551616+L:=by omega
 have hl:L<18446744073709551616:=by omega
 have e1:=x05 H n
 have l1:=x1a H hn
 generalize H/n=a at *
 generalize H%n=b at *
 constructor
 ·rw[hx,<- e1,show(n*a+b)*18446744073709551616+L=n*(a*18446744073709551616)+(b*18446744073709551616+L) by rw[x0A,x1g,x0N],Nat.mul_add_div hn]
 ·rw[x1z hn]
  have:(b+1)*18446744073709551616<=n*18446744073709551616:=x0j _ l1
  rw[x0R n]at this
  omega
theorem iJ(x i r:Nat):gh x (i+1) r=gh x i (if (r+2^i)*(r+2^i)<=x then r+2^i else r):=rfl
variable{C:CC}(hC:ay prog C)
include hC
theorem pR(a b:Nat)(ha:a<9223372036854775808)(hb:b<9223372036854775808):C 74 [.int .i64 a,.int .i64 b] (bz (a*b)) []:=by
 refine ai hC (nf:=N74) rfl rfl ?_
 simp[N74,bA a (by omega),bA b (by omega)]
 refine aa (iy hC a b (by omega) (by omega)) (.inl rfl) ?_
 obtain⟨h,hh⟩:∃h,h=a*b/18446744073709551616:=⟨_,rfl⟩
 obtain⟨l,hl⟩:∃l,l=a*b%18446744073709551616:=⟨_,rfl⟩
 rw[<- hh,<- hl,bz,<- hh,<- hl]
 simp
theorem vx(x k:Nat)(hk:k<9223372036854775808)(hx:x<340282366920938463463374607431768211456)(hxk:x*k<340282366920938463463374607431768211456):C 75 [bz x,.int .i64 k] (bz (x*k)) []:=by
 have e:=qH (x:=x) (k:=k)
 obtain⟨h,hh⟩:∃h,h=x/18446744073709551616:=⟨_,rfl⟩
 obtain⟨l,hl⟩:∃l,l=x%18446744073709551616:=⟨_,rfl⟩
 have hh':h<18446744073709551616:=by omega
 have hl':l<18446744073709551616:=by omega
 rw[<- hh,<- hl]at e
 obtain⟨p,hp⟩:∃p,p=l*k/18446744073709551616:=⟨_,rfl⟩
 obtain⟨q,hq⟩:∃q,q=l*k%18446744073709551616:=⟨_,rfl⟩
 rw[<- hp,<- hq]at e
 have hq':q<18446744073709551616:=by omega
 obtain⟨z,hz⟩:∃z,z=h*k:=⟨_,rfl⟩
 obtain⟨y,hy⟩:∃y,y=x*k:=⟨_,rfl⟩
 rw[<- hz,<- hy]at e
 rw[<- hy]at hxk
 obtain⟨t,ht⟩:∃t,t=z+p:=⟨_,rfl⟩
 rw[<- ht]at e
 have e1:y/18446744073709551616=t:=by omega
 have e2:y%18446744073709551616=q:=by omega
 have ht':t<18446744073709551616:=by omega
 have et:IntKind.u64.wrap ((p:Int)+IntKind.u64.wrap ((h:Int)*(k:Int)))=(t:Int):=by
  rw[qG h k,<- hz,fy,fy]
  clear hxk hx e e1 e2 hq hp hl hh hy hz
  omega
 have r1:bz (x*k)=.agg [.int .u64 (t:Int),.int .u64 (q:Int)]:=by rw[bz,<- hy,e1,e2]
 have r2:bz x=.agg [.int .u64 (h:Int),.int .u64 (l:Int)]:=by rw[bz,<- hh,<- hl]
 rw[r1,r2]
 clear r1 r2 e1 e2 e hh hl hx hxk
 refine ai hC (nf:=N75) rfl rfl ?_
 simp[N75,bA k (by omega)]
 refine aa (iy hC l k hl' (by omega)) (.inl rfl) ?_
 rw[<- hp,<- hq]
 simp[et,bA k (by omega)]
theorem y5(x n:Nat)(hn:0<n)(hn2:n<9223372036854775808)(hx:x<340282366920938463463374607431768211456):C 76 [bz x,.int .i64 n] (bz (x/n)) []:=by
 obtain⟨e,e0⟩:=Bp (x:=x) hn
 obtain⟨h,hh⟩:∃h,h=x/18446744073709551616:=⟨_,rfl⟩
 obtain⟨l,hl⟩:∃l,l=x%18446744073709551616:=⟨_,rfl⟩
 have hh':h<18446744073709551616:=by omega
 have hl':l<18446744073709551616:=by omega
 rw[<- hh,<- hl]at e e0
 obtain⟨p,hp⟩:∃p,p=h/n:=⟨_,rfl⟩
 obtain⟨r,hr⟩:∃r,r=h%n:=⟨_,rfl⟩
 rw[<- hp,<- hr]at e
 rw[<- hr]at e0
 obtain⟨q,hq⟩:∃q,q=(r*18446744073709551616+l)/n:=⟨_,rfl⟩
 rw[<- hq]at e e0
 have hrn:r<n:=by rw[hr];exact x1a _ hn
 have e1:x/n/18446744073709551616=p:=by omega
 have e2:x/n%18446744073709551616=q:=by omega
 have hpl:p<18446744073709551616:=by rw[hp];have:=Nat.div_le_self h n;omega
 have ep:Int.tdiv (h:Int) (n:Int)=(p:Int):=by rw[oM,hp]
 have er:Int.tmod (h:Int) (n:Int)=(r:Int):=by rw[El,hr]
 have r1:bz (x/n)=.agg [.int .u64 (p:Int),.int .u64 (q:Int)]:=by rw[bz,e1,e2]
 have r2:bz x=.agg [.int .u64 (h:Int),.int .u64 (l:Int)]:=by rw[bz,<- hh,<- hl]
 rw[r1,r2]
 clear r1 r2 e1 e2 e hh hl hx
 refine ai hC (nf:=N76) rfl rfl ?_
 have hn0:¬n=0:=by omega
 simp[N76,bA n (by omega),hn0,ep,er,bA p hpl]
 refine⟨ao (by decide +kernel),?_⟩
 refine aa (ux hC r l n hrn (by omega) hl') (.inl rfl) ?_
 rw[<- hq]
 simp
theorem zZ(x:Nat):C 77 [bz x] (.int .i64 (dw x)) []:=by
 obtain⟨h,hh⟩:∃h,h=x/18446744073709551616:=⟨_,rfl⟩
 obtain⟨l,hl⟩:∃l,l=x%18446744073709551616:=⟨_,rfl⟩
 have r2:bz x=.agg [.int .u64 (h:Int),.int .u64 (l:Int)]:=by rw[bz,<- hh,<- hl]
 rw[r2]
 obtain⟨N,hN⟩:∃N,N=dw x:=⟨_,rfl⟩
 rw[<- hN]
 refine ai hC (nf:=N77) rfl rfl ?_
 simp[N77]
 refine au (Nat×Nat×Nat) (fun s=>[(1,.ptr [.int .u64 (h:Int),.int .u64 (l:Int)]),(3,.int .u64 s.2.1),(4,.int .u64 s.2.2)])
  (fun s=>s.1<=63/\(∃a,s.2.1=a*2^s.1)/\s.2.1+2^s.1<=9223372036854775808/\s.2.2=(if s.1=0 then 0 else 2^(s.1-1))/\gh x s.1 s.2.1=N) (fun s=>s.1) (63,0,4611686018427387904) ⟨by omega,⟨0,by simp⟩,by decide,by decide,by rw[hN];rfl⟩ (by simp) ?_
 rintro⟨i,r,b⟩ ⟨h1,⟨a,h2⟩,h3,h4,h5⟩
 simp only at h1 h2 h3 h4 h5
 simp
 refine ac (fun c=>?_) (fun c=>?_)<;>simp[c]<;>simp at c
 ·obtain⟨j,rfl⟩:∃j,i=j+1:=by
   cases i with
   | zero=>simp at h4;omega
   | succ j=>exact⟨j,rfl⟩
  simp at h4
  have hb2:2*b=2^(j+1):=by rw[h4,x1T];omega
  rw[<- hb2]at h3 h2
  have hor:bits .or .u64 (r:Int) (b:Int)=((r+b:Nat):Int):=by
   rw[h2,show a*(2*b)=a*2^(j+1) by rw[hb2]]
   exact orN a b (j+1) (by rw[<- hb2];omega) (by rw[<- hb2,<- h2];omega)
  obtain⟨y,hy⟩:∃y,y=r+b:=⟨_,rfl⟩
  rw[<- hy]at hor
  have hsh:Int.fdiv (b:Int) (2^min 1 IntKind.u64.bits)=((b/2:Nat):Int):=mW b 1
  obtain⟨b',hb'⟩:∃b',b'=b/2:=⟨_,rfl⟩
  rw[<- hb']at hsh
  simp[hor]
  refine aa (iy hC y y (by omega) (by omega)) (.inl rfl) ?_
  obtain⟨p,hp⟩:∃p,p=y*y/18446744073709551616:=⟨_,rfl⟩
  obtain⟨q,hq⟩:∃q,q=y*y%18446744073709551616:=⟨_,rfl⟩
  rw[<- hp,<- hq]
  have h6:gh x j (if y*y<=x then y else r)=N:=by rw[<- h5,iJ,hy,h4]
  have hb1:b'=if j=0 then 0 else 2^(j-1):=by
   rw[hb',h4]
   cases j with
   | zero=>rfl
   | succ j=>simp[x1T]
  have yes:y*y<=x->(j<=63/\(∃a,y=a*2^j)/\y+2^j<=9223372036854775808/\b'=(if j=0 then 0 else 2^(j-1))/\gh x j y=N):=fun hc=>by
   rw[if_pos hc]at h6
   refine⟨by omega,⟨2*a+1,?_⟩,by omega,hb1,h6⟩
   rw[hy,h2,<- h4,x0A,x0R 2 a,x1g]
   omega
  have no:¬y*y<=x->(j<=63/\(∃a,r=a*2^j)/\r+2^j<=9223372036854775808/\b'=(if j=0 then 0 else 2^(j-1))/\gh x j r=N):=fun hc=>by
   rw[if_neg hc]at h6
   refine⟨by omega,⟨2*a,?_⟩,by omega,hb1,h6⟩
   rw[h2,<- h4,x0R 2 a,x1g]
  simp
  generalize y*y=Z at *
  refine ac (fun c1=>?_) (fun c1=>?_)<;>simp[c1,hor,hsh]<;>simp at c1
  ·exact⟨j,y,b',yes (by omega),by omega,rfl,rfl⟩
  ·refine ac (fun c2=>?_) (fun c2=>?_)<;>simp[c2,hor,hsh]<;>simp at c2
   ·refine ac (fun c3=>?_) (fun c3=>?_)<;>simp[c3,hor,hsh]<;>simp at c3
    ·exact⟨j,y,b',yes (by omega),by omega,rfl,rfl⟩
    ·exact⟨j,r,b',no (by omega),by omega,rfl,rfl⟩
   ·exact⟨j,r,b',no (by omega),by omega,rfl,rfl⟩
 ·have hi:i=0:=by
   cases i with
   | zero=>rfl
   | succ j =>
    simp at h4
    have:=x1x j
    omega
  subst hi
  have:r=N:=h5
  simp at h3
  have e1:IntKind.wrap .i64 (r:Int)=(r:Int):=wrap_i64 rfl (by omega)
  rw[<- this,e1]
end Go.Gv

namespace Go.Gv
open Go.Lib
theorem CI(a k m:Nat)(hm:m=a*2^k%18446744073709551616):IntKind.u64.wrap ((a:Int)*2^k)=(m:Int):=by
 have e:(a:Int)*2^k=((a*2^k:Nat):Int):=by push_cast;rfl
 rw[e,AN,hm]
theorem Oi(a m:Nat)(hm:m=a*2%18446744073709551616):IntKind.u64.wrap ((a:Int)*2^min 1 IntKind.u64.bits)=(m:Int):=CI a 1 m hm
theorem Oj(a m:Nat)(hm:m=a*4294967296%18446744073709551616):IntKind.u64.wrap ((a:Int)*2^min 32 IntKind.u64.bits)=(m:Int):=CI a 32 m hm
theorem sS(a:Nat):Int.fdiv (a:Int) (2^min 63 IntKind.u64.bits)=((a/9223372036854775808:Nat):Int):=mW a 63
theorem uw{n:Int}{m:Nat}(h:n=m\/n=m+18446744073709551616\/n=m-18446744073709551616)(hm:m<18446744073709551616):IntKind.u64.wrap n=(m:Int):=by
 rw[fy];omega
end Go.Gv

namespace Go.Gv
open Go.Lib
variable{C:CC}(hC:ay prog C)
include hC
theorem qR(n:Nat)(h:n<9223372036854775808):C 86 [.int .i64 n] (.int .u64 (n:Int)) []:=by
 refine ai hC (nf:=N86) rfl rfl ?_
 simp[N86,bA n (by omega)]
 refine ac (fun h1=>?_) (fun h1=>?_)<;>simp at h1<;>simp[h1,bA n (by omega)]
 omega
theorem qP(a b c d:Nat):C 87 [.agg [.int .u64 a,.int .u64 b],.agg [.int .u64 c,.int .u64 d]] (.bool (decide (a<c\/(a=c/\b<d)))) []:=by
 refine ai hC (nf:=N87) rfl rfl ?_
 simp[N87]
 refine ac (fun h=>?_) (fun h=>?_)<;>simp at h<;>simp[h]
 have h3:¬a<c:=by omega
 refine ac (fun h2=>?_) (fun h2=>?_)<;>simp at h2<;>simp[h2,h3]
 ·have h4:a=c:=by omega
  simp[h4]
 ·omega
theorem sB(a b c d p q:Nat)(ha:a<18446744073709551616)(hb:b<18446744073709551616)(hd:d<18446744073709551616)(hq:q<18446744073709551616)(h:p*18446744073709551616+q+(c*18446744073709551616+d)=a*18446744073709551616+b):C 95 [.agg [.int .u64 a,.int .u64 b],.agg [.int .u64 c,.int .u64 d]] (.agg [.int .u64 p,.int .u64 q]) []:=by
 refine ai hC (nf:=N95) rfl rfl ?_
 simp[N95]
 have e3:IntKind.u64.wrap ((b:Int)-(d:Int))=(q:Int):=uw (by omega) hq
 refine ac (fun h1=>?_) (fun h1=>?_)<;>simp at h1<;>simp[h1,e3]
 ·have e1:IntKind.u64.wrap ((a:Int)-(c:Int))=((p+1:Nat):Int):=uw (by omega) (by omega)
  rw[e1]
  exact uw (by omega) (by omega)
 ·exact uw (by omega) (by omega)
theorem ik(a b w t p q:Nat)(hb:b<18446744073709551616)(hw:w<=1)(hp:p<18446744073709551616)(hq:q<18446744073709551616)(ht:(a*18446744073709551616+b)*2+w=(t*18446744073709551616+p)*18446744073709551616+q):C 94 [.agg [.int .u64 a,.int .u64 b],.int .u64 w] (.agg [.int .u64 p,.int .u64 q]) []:=by
 refine ai hC (nf:=N94) rfl rfl ?_
 simp[N94]
 obtain⟨a2,ha2⟩:∃a2,a2=a*2%18446744073709551616:=⟨_,rfl⟩
 obtain⟨b2,hb2⟩:∃b2,b2=b*2%18446744073709551616:=⟨_,rfl⟩
 obtain⟨c,hc⟩:∃c,c=b/9223372036854775808:=⟨_,rfl⟩
 rw[sS,Oi a a2 ha2,Oi b b2 hb2,<- hc]
 exact⟨uw (by omega) hp,uw (by omega) hq⟩
theorem om(x y:Nat)(hx:x<18446744073709551616)(hy:y<18446744073709551616):C 85 [.int .u64 x,.int .u64 y] (bz (x*y)) []:=by
 refine ai hC (nf:=N85) rfl rfl ?_
 obtain⟨bd,bt,bw,hhi⟩:=Lib.mul64_hi x y hx hy
 have ba:=Lib.half_mul_le (a:=x/4294967296) (b:=y/4294967296) (by omega) (by omega)
 have bb:=Lib.half_mul_le (a:=x/4294967296) (b:=y%4294967296) (by omega) (by omega)
 have bc:=Lib.half_mul_le (a:=x%4294967296) (b:=y/4294967296) (by omega) (by omega)
 have hxy:x*y=x/4294967296*(y/4294967296)*18446744073709551616+(x/4294967296*(y%4294967296)+x%4294967296*(y/4294967296))*4294967296+x%4294967296*(y%4294967296):=by
  have e1:x=x/4294967296*4294967296+x%4294967296:=by omega
  have e2:y=y/4294967296*4294967296+y%4294967296:=by omega
  generalize x/4294967296=ah at *
  generalize x%4294967296=al at *
  generalize y/4294967296=bh at *
  generalize y%4294967296=bl at *
  rw[e1,e2,x0A,x1I,x1I,x0A]
  rw[show ah*4294967296*(bh*4294967296)=ah*bh*18446744073709551616 by rw[x1g,Nat.mul_left_comm 4294967296,<- x1g]]
  rw[show ah*4294967296*bl=ah*bl*4294967296 by rw[Nat.mul_right_comm],show al*(bh*4294967296)=al*bh*4294967296 by rw[x1g]]
  omega
 obtain⟨P,hP⟩:∃P,P=x/4294967296*(y/4294967296):=⟨_,rfl⟩
 obtain⟨Q,hQ⟩:∃Q,Q=x/4294967296*(y%4294967296):=⟨_,rfl⟩
 obtain⟨R,hR⟩:∃R,R=x%4294967296*(y/4294967296):=⟨_,rfl⟩
 obtain⟨L,hL⟩:∃L,L=x%4294967296*(y%4294967296):=⟨_,rfl⟩
 obtain⟨Z,hZ⟩:∃Z,Z=x*y:=⟨_,rfl⟩
 rw[<- hP,<- hQ,<- hR,<- hL,<- hZ]at hxy
 rw[<- hP]at ba
 rw[<- hQ]at bb
 rw[<- hR]at bc
 rw[<- hL]at bd
 obtain⟨zh,hzh⟩:∃zh,zh=Z/18446744073709551616:=⟨_,rfl⟩
 obtain⟨zl,hzl⟩:∃zl,zl=Z%18446744073709551616:=⟨_,rfl⟩
 rw[<- hZ,bz,<- hzh,<- hzl]
 simp[N85]
 simp only[kZ x hx,kZ y hy,oG,qG,<- hP,<- hQ,<- hR,<- hL,bA L bd,bA P (by omega),bA Q (by omega),bA R (by omega),th]
 obtain⟨M,hM⟩:∃M,M=Q+L/4294967296:=⟨_,rfl⟩
 have hM1:M<18446744073709551616:=by omega
 rw[<- hM,bA M hM1,oG,kZ M hM1,kZ L bd,th]
 obtain⟨O,hO⟩:∃O,O=R+M%4294967296:=⟨_,rfl⟩
 have hO1:O<18446744073709551616:=by omega
 obtain⟨O2,hO2⟩:∃O2,O2=O*4294967296%18446744073709551616:=⟨_,rfl⟩
 simp only[th R,<- hO,bA O hO1,oG,Oj O O2 hO2]
 rw[bA (P+M/4294967296) (by omega),th,th,bA _ (by omega),bA _ (by omega)]
 clear hP hQ hR hL hZ bt bw hhi
 exact⟨by omega,by omega⟩
end Go.Gv
