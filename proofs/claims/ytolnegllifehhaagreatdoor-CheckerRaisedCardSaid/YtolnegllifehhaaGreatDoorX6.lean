/-
  Texts of the proof: GvR, GvEra, GvN, ItR, GvT, GvT4, GvT5, GvT6, GvU, A1, GvW, GvX, GvX2.
-/
import Derived.Test.YtolnegllifehhaaGreatDoorX4
import Derived.SizedLaws
import Derived.ProofKit
import Derived.Test.YtolnegllifehhaaGreatDoorX5
import Derived.Test.YtolnegllifehhaaGreatDoorProg
import Derived.KernelRfl
import Derived.Shelf.Small.Bits
import Derived.Shelf.Small.Strs
import Derived.Shelf.Small.Wraps
import Derived.Shelf.Strconv.Itoa0
import Derived.Shelf.Strconv.Itoa1
import Derived.Shelf.LaysM
import Derived.Shelf.Strconv.Itoa2
import Derived.Shelf.Strconv.Itoa3
import Derived.Shelf.Sort.Plain
import Derived.Shelf.Bits.Mul64
import Derived.Shelf.Slices.Equal
import Derived.Ground.Names2Prog
import Derived.Shelf.Slices.Clone
import Derived.Shelf.Slices.CompactI
import Derived.Shelf.Slices.SearchI
import Derived.Shelf.Slices.Cells
import Derived.Shelf.Slices.In.SortNone
import Derived.Shelf.Slices.Empties2
import Derived.Ground.SlgnProg
import Derived.Shelf.SlicesE.Clone
import Derived.Ground.SlsfProg
import Derived.Shelf.SlSortCmp.NoneTotal
import Derived.Sort.Row
import Derived.Sort.Grow
import Derived.Shelf.Spec.SlicesInsertGrow
import Derived.Shelf.SlSortCmp.WholeK
import Derived.Lib.Bytealg
set_option linter.all false
namespace Go.Gv
open Go.RowKit Go.ChangeShapes Go.WideShapes Go.ChangeAt
inductive Sh where
 | int (k : IntKind)
 | bool
 | str
 | sl (row : List Sh)
mutual
def cU : Sh -> D -> Prop
 | .int k,d=>∃ n,d=.int k n /\ (Lit.int k n).wf=true
 | .bool,d=>∃ b,d=.bool b
 | .str,d=>∃ s,d=.str s /\ s.length < 140737488355328
 | .sl row,d=>∃ es,(d=.sl es \/ (d=.nils /\ es=[])) /\ es.length < 140737488355328 /\ ∀ e ∈ es,bx row e
def bx : List Sh -> List D -> Prop
 | [],ds=>ds=[]
 | s::ss,ds=>∃ d r,ds=d::r /\ cU s d /\ bx ss r
end
theorem bx.length : ∀ {ss : List Sh} {ds : List D},bx ss ds -> ds.length=ss.length
 | [],ds,h=>by simp only [bx] at h;simp [h]
 | s::ss,ds,h=>by
  simp only [bx] at h
  obtain ⟨d,r,rfl,_,h2⟩:=h
  simp [bx.length h2]
theorem bx.append : ∀ {ss ts : List Sh} {ds es : List D},bx ss ds -> bx ts es -> bx (ss++ts) (ds++es)
 | [],ts,ds,es,h,h'=>by simp only [bx] at h;subst h;exact h'
 | s::ss,ts,ds,es,h,h'=>by
  simp only [bx] at h
  obtain ⟨d,r,rfl,h1,h2⟩:=h
  exact ⟨d,r++es,rfl,h1,bx.append h2 h'⟩
def oY (P : Program) (rec : TypeId -> Option (List Sh)) : List Field -> Nat -> Option (List Sh)
 | [],_=>some []
 | f::fs,off=>if f.offset=off then (match rec f.type with
   | some l=>if l.length=P.cellsOf f.type then (match oY P rec fs (off + l.length) with
    | some r=>some (l++r)
    | none=>none) else none
   | none=>none) else none
def nD (P : Program) : Nat -> TypeId -> Option (List Sh)
 | 0,_=>none
 | n + 1,t=>match P.underlying t with
  | some .bool=>some [.bool]
  | some (.int k)=>some [.int k]
  | some .string=>some [.str]
  | some (.slice e)=>(match nD P n e with
   | some l=>if l.length=P.cellsOf e /\ 1 <= P.bytesOf e then some [.sl l] else none
   | none=>none)
  | some (.struct fs)=>(match oY P (nD P n) fs.toList 0 with
   | some l=>if l.length=P.cellsOf t then some l else none
   | none=>none)
  | _=>none
section
variable {H : Type} {enc : TypeId × Value -> H} {P : Program} {F : Fid} {w : World} {sp : Nat -> Bool}
abbrev mE (w : World) : Mem:=fun p=>w.cell? p
def vu (enc : TypeId × Value -> H) (P : Program) (F : Fid) (w : World) (sp : Nat -> Bool) (n : Nat) (t : TypeId) (shs : List Sh) : Prop :=
 ∀ (cs : List Value) (d : DataW H) (ps : List MemPlace),DataW.trod enc P w 0 sp true n t cs=some (d,ps) -> (d.weights P t).all (· <= reachBytes)=true -> ∃ ds,bx shs ds /\ ap F (mE w) ds cs
theorem iQ {α β : Type} {f : α -> Option β} {x : α} {l : List α} {ys : List β} (h : (x::l).mapM f=some ys) : ∃ y r,f x=some y /\ l.mapM f=some r /\ ys=y::r:=by
 rw [List.mapM_cons] at h
 cases hx : f x with
 | none=>rw [hx] at h;cases h
 | some y =>
  cases hl : l.mapM f with
  | none=>rw [hx,hl] at h;cases h
  | some r =>
   rw [hx,hl] at h
   exact ⟨y,r,rfl,rfl,by cases h;rfl⟩
theorem ne {n m : Nat} (ih : ∀ t shs,nD P m t=some shs -> vu enc P F w sp n t shs) {cs : List Value} : ∀ (fs : List Field) (off : Nat) (xs : List (DataW H × List MemPlace)) (shs : List Sh),
  (fs.mapM fun f=>DataW.trod enc P w 0 sp true n f.type ((cs.drop f.offset).take (P.cellsOf f.type)))=some xs -> oY P (nD P m) fs off=some shs -> (DataW.weightsEach P (fs.map (·.type)) (xs.map (·.1))).all (· <= reachBytes)=true -> cs.length=off + shs.length ->
   ∃ ds,bx shs ds /\ ap F (mE w) ds (cs.drop off)
 | [],off,xs,shs,_,h2,_,h4=>by
  cases h2
  exact ⟨[],rfl,by simp only [ap];exact List.drop_of_length_le (by simpa using Nat.le_of_eq h4)⟩
 | f::fs,off,xs,shs,h1,h2,h3,h4=>by
  obtain ⟨y,r,e1,e2,rfl⟩:=iQ h1
  simp only [oY] at h2
  split at h2
  case isFalse=>cases h2
  rename_i ho
  split at h2
  case h_2=>cases h2
  rename_i l hl
  split at h2
  case isFalse=>cases h2
  rename_i hlen
  split at h2
  case h_2=>cases h2
  rename_i rs hr
  cases h2
  simp only [List.map_cons,DataW.weightsEach,List.all_append,Bool.and_eq_true] at h3
  rw [List.length_append] at h4
  obtain ⟨ds1,g1,g2⟩:=ih f.type l hl _ y.1 y.2 e1 h3.1
  obtain ⟨ds2,g3,g4⟩:=ne ih fs (off + l.length) r rs e2 hr h3.2 (by omega)
  refine ⟨ds1++ds2,g1.append g3,?_⟩
  rw [ho,<- hlen] at g2
  have:=g2.append g4
  rwa [<- List.drop_drop,List.take_append_drop] at this
theorem ng {n k : Nat} {e : TypeId} {l : List Sh} {a : Addr} (hl : l.length=k) (ih : vu enc P F w sp n e l) : ∀ (c s : Nat) (xs : List (DataW H × List MemPlace)),
  ((List.range' s c).mapM fun i=>(w.cells? 0 (a.add (i * k)) k).bind (DataW.trod enc P w 0 sp true n e))=some xs -> (DataW.weightsAll P e (xs.map (·.1))).all (· <= reachBytes)=true ->
   ∃ (es : List (List D)) (vs : List Value),es.length=c /\ xs.length=c /\ (∀ r ∈ es,bx l r) /\ aZ F (mE w) es vs /\ ∀ j v,vs[j]? = some v -> w.cell? (a.add (s * k + j))=some v
 | 0,s,xs,h,_=>by
  cases h
  exact ⟨[],[],rfl,rfl,by simp,by simp [aZ],fun j v h=>by simp at h⟩
 | c + 1,s,xs,h,hw=>by
  rw [List.range'_succ] at h
  obtain ⟨y,r,e1,e2,rfl⟩:=iQ h
  rw [Option.bind_eq_some_iff] at e1
  obtain ⟨row,c1,c2⟩:=e1
  simp only [List.map_cons,DataW.weightsAll,List.all_append,Bool.and_eq_true] at hw
  obtain ⟨ds,g1,g2⟩:=ih row y.1 y.2 c2 hw.1
  obtain ⟨es,vs,h1,h2,h3,h4,h5⟩:=ng hl ih c (s + 1) r e2 hw.2
  have hrow:=World.cells?_some c1
  refine ⟨ds::es,row++vs,by simp [h1],by simp [h2],?_,⟨row,vs,rfl,g2,h4⟩,fun j v hj=>?_⟩
  ·intro x hx
   rcases List.mem_cons.1 hx with rfl | hx
   ·exact g1
   ·exact h3 x hx
  ·have hrl : row.length=k:=by rw [g2.length,g1.length,hl]
   have addadd : ∀ i j,(a.add i).add j=a.add (i + j):=fun i j=>by
    unfold Addr.add
    by_cases hi : i=0 <;> by_cases hj : j=0 <;> simp [hi,hj,Nat.add_assoc]
   by_cases hjk : j < k
   ·rw [List.getElem?_append_left (by omega)] at hj
    have:=hrow.2.2 j hjk
    rw [hj,addadd] at this
    exact this
   ·rw [List.getElem?_append_right (by omega)] at hj
    have:=h5 (j - row.length) v hj
    rw [hrl] at this
    rwa [show (s + 1) * k + (j - k)=s * k + j by rw [Nat.succ_mul];omega] at this
theorem mr : ∀ (m : Nat) (n : Nat) (t : TypeId) (shs : List Sh),nD P m t=some shs -> vu enc P F w sp n t shs
 | 0,_,_,_,h=>by cases h
 | m + 1,0,t,shs,_=>fun cs d ps h _=>by simp [DataW.trod] at h
 | m + 1,n + 1,t,shs,h=>by
  intro cs d ps ht hw
  rw [nD] at h
  split at h
  ·rename_i hu
   cases h
   unfold DataW.trod at ht;rw [hu] at ht
   split at ht <;> try (simp_all;done)
   rename_i b _
   refine ⟨[.bool b],⟨_,_,rfl,⟨b,rfl⟩,rfl⟩,by simp [ap,ae]⟩
  ·rename_i k hu
   cases h
   unfold DataW.trod at ht;rw [hu] at ht
   split at ht <;> try (simp_all;done)
   rename_i k1 k2 x h1
   simp only [Option.some.injEq,TypeDesc.int.injEq] at h1
   subst h1
   split at ht
   ·rename_i hk
    obtain ⟨rfl,hwf⟩:=hk
    exact ⟨[.int _ x],⟨_,_,rfl,⟨x,rfl,hwf⟩,rfl⟩,by simp [ap,ae]⟩
   ·cases ht
  ·rename_i hu
   cases h
   unfold DataW.trod at ht;rw [hu] at ht
   split at ht <;> try (simp_all;done)
   rename_i s _
   split at ht
   ·rename_i hs
    simp only [Option.some.injEq,Prod.mk.injEq] at ht
    obtain ⟨rfl,rfl⟩:=ht
    simp only [DataW.weights,List.all_cons,List.all_nil,Bool.and_true,decide_eq_true_eq] at hw
    refine ⟨[.str s.data.toList],⟨_,_,rfl,⟨_,rfl,?_⟩,rfl⟩,?_⟩
    ·have:=reachBytes_lt;omega
    ·obtain ⟨s⟩:=s
     simp [ap,ae]
   ·cases ht
  ·rename_i e hu
   split at h
   case h_2=>cases h
   rename_i l hl
   split at h
   case isFalse=>cases h
   rename_i hk
   cases h
   unfold DataW.trod at ht;rw [hu] at ht
   split at ht <;> try (simp_all;done)
   ·refine ⟨[.nils],⟨_,_,rfl,⟨[],.inr ⟨rfl,rfl⟩,by simp,by simp⟩,rfl⟩,by simp [ap,ae]⟩
   ·rename_i e' a len cap h1
    simp only [Option.some.injEq,TypeDesc.slice.injEq] at h1
    subst h1
    simp only at ht
    split at ht
    case isFalse=>cases ht
    rename_i hb
    rw [Option.bind_eq_some_iff] at ht
    obtain ⟨xs,e1,e2⟩:=ht
    rw [Option.map_eq_some_iff] at e2
    obtain ⟨rest,e3,e4⟩:=e2
    simp only [Prod.mk.injEq] at e4
    obtain ⟨rfl,rfl⟩:=e4
    simp only [DataW.weights,hu,List.all_cons,List.all_append,Bool.and_eq_true,decide_eq_true_eq] at hw
    obtain ⟨w1,w2,w3⟩:=hw
    rw [List.range_eq_range'] at e1
    obtain ⟨es,vs,g1,g2,g3,g4,g5⟩:=ng (F:=F) hk.1 (mr m n e l hl) len 0 xs e1 w2
    refine ⟨[.sl es],⟨_,_,rfl,⟨es,.inl rfl,?_,g3⟩,rfl⟩,?_⟩
    ·have h5:=reachBytes_lt
     have h6 : es.length * 1 <= (xs.length + rest.length) * P.bytesOf e:=Nat.mul_le_mul (by omega) hk.2
     simp only [List.length_map] at w1
     omega
    ·simp only [ap]
     refine ⟨_,_,rfl,?_,rfl⟩
     simp only [ae]
     refine ⟨some a,cap,vs,P.cellsOf e,by rw [g1],by omega,g4,fun r hr=>by rw [(g3 r hr).length,hk.1],fun _=>⟨a,rfl,fun j v hj=>?_⟩⟩
     have:=g5 j v hj
     simpa using this
  ·rename_i fs hu
   split at h
   case h_2=>cases h
   rename_i l hl
   split at h
   case isFalse=>cases h
   rename_i hk
   cases h
   unfold DataW.trod at ht;rw [hu] at ht
   split at ht <;> try (simp_all;done)
   rename_i fs' h1
   simp only [Option.some.injEq,TypeDesc.struct.injEq] at h1
   subst h1
   split at ht
   case isFalse=>cases ht
   rename_i hc
   rw [Option.map_eq_some_iff] at ht
   obtain ⟨xs,e1,e2⟩:=ht
   simp only [Prod.mk.injEq] at e2
   obtain ⟨rfl,rfl⟩:=e2
   simp only [DataW.weights,hu] at hw
   obtain ⟨ds,g1,g2⟩:=ne (F:=F) (n:=n) (fun t shs h=>mr m n t shs h) fs.toList 0 xs _ e1 hl hw (by omega)
   exact ⟨ds,g1,by simpa using g2⟩
  ·cases h
theorem mB {t : TypeId} {fs : Array Field} {m : Nat} {shs : List Sh} {base : Nat} {v : Value} {d : DataW H} {ps : List MemPlace} (hu : P.underlying t=some (.struct fs)) (hsh : nD P m t=some shs) (hv : Value.okWide P w .any base t v) (h : DataW.Trod enc P w 0 sp true t v d ps) (hw : (d.weights P t).all (· <= reachBytes)=true) :
  ∃ ds,bx shs ds /\ ae F (mE w) (.agg ds) v:=by
 obtain ⟨cs,rfl,_⟩:=okWide_struct hu hv
 obtain ⟨n,hn⟩:=h
 obtain ⟨ds,g1,g2⟩:=mr (F:=F) m n t shs hsh _ d ps hn hw
 exact ⟨ds,g1,by simp only [ae];exact ⟨cs.toList,by simp,g2⟩⟩
theorem tJ {t e : TypeId} {m : Nat} {sh : Sh} {base : Nat} {v : Value} {d : DataW H} {ps : List MemPlace} (hu : P.underlying t=some (.slice e)) (hsh : nD P m t=some [sh]) (hv : Value.okWide P w .any base t v) (h : DataW.Trod enc P w 0 sp true t v d ps) (hw : (d.weights P t).all (· <= reachBytes)=true) :
  ∃ x,cU sh x /\ ae F (mE w) x v:=by
 obtain ⟨a,len,cap,rfl⟩:=okWide_slice hu hv
 obtain ⟨n,hn⟩:=h
 obtain ⟨ds,g1,g2⟩:=mr (F:=F) m n t [sh] hsh _ d ps hn hw
 simp only [bx] at g1
 obtain ⟨x,r,rfl,g3,rfl⟩:=g1
 simp only [Value.cells,ap] at g2
 obtain ⟨v',r',e,g4,rfl⟩:=g2
 simp at e
 exact ⟨x,g3,by rw [e];exact g4⟩
theorem oL {t : TypeId} {k : IntKind} {base : Nat} {v : Value} {d : DataW H} {ps : List MemPlace} (hu : P.underlying t=some (.int k)) (hv : Value.okWide P w .any base t v) (h : DataW.Trod enc P w 0 sp true t v d ps) :
  ∃ n,(Lit.int k n).wf=true /\ ae F (mE w) (.int k n) v:=by
 obtain ⟨n,rfl,_,_,hw⟩:=open_int hu hv h
 exact ⟨n,hw,rfl⟩
end
theorem iY {α : Type} {f : α -> List D} {es : List (List D)} (h : ∀ e ∈ es,∃ x,e=f x) : ∃ xs : List α,es=xs.map f:=by
 induction es with
 | nil=>exact ⟨[],rfl⟩
 | cons e es ih =>
  obtain ⟨x,rfl⟩:=h e (by simp)
  obtain ⟨xs,rfl⟩:=ih (fun e he=>h e (by simp [he]))
  exact ⟨x::xs,rfl⟩
end Go.Gv
namespace Go.Gv
def Cz (P : Program) (F : Fid) (prog : Nat -> Option aw) (tbl : List (Nat × Nat)) : Bool:=tbl.all fun p=>mX P p.2 && match prog p.1 with
 | some nf=>fT P F p.2 nf
 | none=>true
theorem uv {tbl : List (Nat × Nat)} {g f : Nat} (h : tbl.lookup g=some f) : (g,f) ∈ tbl:=by
 induction tbl with
 | nil=>cases h
 | cons p r ih =>
  obtain ⟨a,b⟩:=p
  rw [List.lookup_cons] at h
  cases e : g == a with
  | true=>rw [e] at h;simp at e h;subst e;subst h;simp
  | false=>rw [e] at h;simp [ih h]
theorem seat {P : Program} {tbl : List (Nat × Nat)} {ty : Nat -> TypeId} {prog : Nat -> Option aw} (hm : P.follows .mixedOrders=true) (hl : laidOutB P=true) (h : Cz P ⟨P,fun g=>tbl.lookup g,ty⟩ prog tbl=true) :
  bU P ⟨P,fun g=>tbl.lookup g,ty⟩ (eJ P ⟨P,fun g=>tbl.lookup g,ty⟩) /\ aj prog (eJ P ⟨P,fun g=>tbl.lookup g,ty⟩):=by
 have key : ∀ g f,tbl.lookup g=some f -> mX P f=true /\ ∀ nf,prog g=some nf -> fT P ⟨P,fun g=>tbl.lookup g,ty⟩ f nf=true:=fun g f e=>by
  have:=List.all_eq_true.1 h _ (uv e)
  simp only [Bool.and_eq_true] at this
  refine ⟨this.1,fun nf hnf=>?_⟩
  have:=this.2
  rw [hnf] at this
  exact this
 exact qH hm (fun g f e=>(key g f e).1) hl rfl (fun g f nf e hp=>(key g f e).2 nf hp)
end Go.Gv

namespace Go.Gv
open Go.Proofs
def TryzTbl : List (Nat × Nat) := [(0, 2), (663, 3), (540, 4), (541, 5), (542, 6), (664, 7), (543, 8), (667, 9), (609, 10), (164, 11), (147, 12), (665, 13), (125, 14), (668, 15), (554, 16), (583, 17), (556, 18), (435, 19), (453, 20), (584, 21), (455, 22), (585, 23), (45, 24), (586, 25), (587, 26), (588, 27), (589, 28), (590, 29), (168, 30), (169, 31), (170, 32), (171, 33), (234, 34), (233, 35), (628, 36), (129, 37), (599, 38), (601, 39), (175, 40), (181, 41), (52, 42), (58, 43), (600, 44), (627, 45), (602, 46), (629, 47), (630, 48), (631, 49), (266, 50), (267, 51), (632, 52), (633, 53), (172, 54), (173, 55), (174, 56), (176, 57), (177, 58), (178, 59), (72, 60), (179, 61), (180, 62), (182, 63), (273, 64), (269, 65), (271, 66), (272, 67), (70, 68), (71, 69), (635, 70), (471, 71), (647, 72), (299, 75), (11, 77), (183, 78), (184, 79), (89, 80), (185, 81), (302, 82), (303, 83), (304, 84), (305, 85), (306, 86), (307, 87), (308, 88), (298, 89), (309, 90), (310, 91), (311, 92), (127, 93), (274, 94), (300, 95), (301, 96), (88, 97), (503, 98), (517, 99), (521, 100), (499, 101), (111, 111), (35, 113), (313, 114), (328, 115), (275, 117), (276, 118), (319, 119), (99, 120), (320, 121), (321, 122), (327, 123), (106, 124), (104, 125), (108, 126), (514, 127), (515, 128), (516, 129), (366, 130), (523, 131), (42, 132), (239, 139), (312, 140), (284, 141), (105, 142), (103, 143), (107, 144), (112, 145), (92, 146), (110, 147), (522, 149), (278, 156), (91, 157), (113, 158), (102, 160)]
def TryzTys : List (Nat × Nat) := [(0, 9), (1, 4), (3, 95), (4, 41)]
set_option maxRecDepth 100000 in
theorem Tryz_all : Cz Tryz.prog ⟨Tryz.prog, fun g => TryzTbl.lookup g, fun t => (TryzTys.lookup t).getD 0⟩ prog TryzTbl = true := by kernel_rfl
end Go.Gv

namespace Go.Gv
open Go.RowKit
theorem sf {P : Program} {F : Fid} {g : Nat} {ds : List D} {d : D} (h : ∀ f,F g=some f -> ∀ (M : Mem) (w : World) (vs : List Value),ap F M ds vs -> ∃ v,ae F M d v /\ Calls P f vs.toArray w (fun e w'=>e=.returned v /\ w'=w)) : eJ P F g ds d []:=by
 refine ⟨trivial,fun f hf M w vs hh r=>?_⟩
 obtain ⟨v,hv,hc⟩:=h f hf M w vs r
 refine hc.mono ?_
 rintro e w' ⟨rfl,rfl⟩
 exact ⟨v,M,rfl,Bel.refl _,Mem.le_refl _,fun p h1 h2=>absurd h1 h2,hh,hv⟩
end Go.Gv

namespace Go.Proofs
open Go.Shelf
def Tryz.lays189_ren : Go.Shelf.Ren := ⟨fun | 189 => 130 | 125 => 74 | 257 => 150 | 128 => 110 | 129 => 111 | 294 => 161 | 295 => 162 | 296 => 163 | 297 => 164 | 298 => 165 | 299 => 166 | 216 => 167 | 300 => 168 | 301 => 169 | 328 => 174 | 329 => 134 | 330 => 135 | 331 => 175 | 332 => 176 | 215 => 75 | 343 => 179 | n => n, fun | 28 => 97 | 3 => 3 | 46 => 128 | 0 => 0 | 51 => 169 | 53 => 171 | 4 => 4 | 183 => 162 | 182 => 161 | 131 => 166 | 5 => 5 | 9 => 9 | 218 => 193 | 222 => 197 | 228 => 212 | 229 => 213 | n => n, fun | n => n⟩
theorem Tryz.lays189 : Go.Proofs.Lays.n189 Tryz.prog Tryz.lays189_ren := {
 mixed := by kernel_rfl
 f125 := Tryz.func74.trans (congrArg some (by kernel_rfl))
 f128 := Tryz.func110.trans (congrArg some (by kernel_rfl))
 f129 := Tryz.func111.trans (congrArg some (by kernel_rfl))
 f189 := Tryz.func130.trans (congrArg some (by kernel_rfl))
 f215 := Tryz.func75.trans (congrArg some (by kernel_rfl))
 f216 := Tryz.func167.trans (congrArg some (by kernel_rfl))
 f257 := Tryz.func150.trans (congrArg some (by kernel_rfl))
 f294 := Tryz.func161.trans (congrArg some (by kernel_rfl))
 f295 := Tryz.func162.trans (congrArg some (by kernel_rfl))
 f296 := Tryz.func163.trans (congrArg some (by kernel_rfl))
 f297 := Tryz.func164.trans (congrArg some (by kernel_rfl))
 f298 := Tryz.func165.trans (congrArg some (by kernel_rfl))
 f299 := Tryz.func166.trans (congrArg some (by kernel_rfl))
 f300 := Tryz.func168.trans (congrArg some (by kernel_rfl))
 f301 := Tryz.func169.trans (congrArg some (by kernel_rfl))
 f328 := Tryz.func174.trans (congrArg some (by kernel_rfl))
 f329 := Tryz.func134.trans (congrArg some (by kernel_rfl))
 f330 := Tryz.func135.trans (congrArg some (by kernel_rfl))
 f331 := Tryz.func175.trans (congrArg some (by kernel_rfl))
 f332 := Tryz.func176.trans (congrArg some (by kernel_rfl))
 f343 := Tryz.func179.trans (congrArg some (by kernel_rfl))
 t0 := Tryz.underlying0
 a0 := Tryz.isAgg0
 z0 := Tryz.sizeOf0
 v0 := Tryz.zeroValue0
 t3 := Tryz.underlying3
 a3 := Tryz.isAgg3
 z3 := Tryz.sizeOf3
 v3 := Tryz.zeroValue3
 t4 := Tryz.underlying4
 a4 := Tryz.isAgg4
 z4 := Tryz.sizeOf4
 v4 := Tryz.zeroValue4
 t5 := Tryz.underlying5
 a5 := Tryz.isAgg5
 z5 := Tryz.sizeOf5
 v5 := Tryz.zeroValue5
 t9 := Tryz.underlying9
 a9 := Tryz.isAgg9
 z9 := Tryz.sizeOf9
 v9 := Tryz.zeroValue9
 t28 := Tryz.underlying97
 a28 := Tryz.isAgg97
 z28 := Tryz.sizeOf97
 v28 := Tryz.zeroValue97
 t46 := Tryz.underlying128
 a46 := Tryz.isAgg128
 z46 := Tryz.sizeOf128
 v46 := Tryz.zeroValue128
 t51 := Tryz.underlying169
 a51 := Tryz.isAgg169
 z51 := Tryz.sizeOf169
 v51 := Tryz.zeroValue169
 t53 := Tryz.underlying171
 a53 := Tryz.isAgg171
 z53 := Tryz.sizeOf171
 v53 := Tryz.zeroValue171
 t131 := Tryz.underlying166
 a131 := Tryz.isAgg166
 z131 := Tryz.sizeOf166
 v131 := Tryz.zeroValue166
 t182 := Tryz.underlying161
 a182 := Tryz.isAgg161
 z182 := Tryz.sizeOf161
 v182 := Tryz.zeroValue161
 t183 := Tryz.underlying162
 a183 := Tryz.isAgg162
 z183 := Tryz.sizeOf162
 v183 := Tryz.zeroValue162
 t218 := Tryz.underlying193
 a218 := Tryz.isAgg193
 z218 := Tryz.sizeOf193
 v218 := Tryz.zeroValue193
 t222 := Tryz.underlying197
 a222 := Tryz.isAgg197
 z222 := Tryz.sizeOf197
 v222 := Tryz.zeroValue197
 t228 := Tryz.underlying212
 a228 := Tryz.isAgg212
 z228 := Tryz.sizeOf212
 v228 := Tryz.zeroValue212
 t229 := Tryz.underlying213
 a229 := Tryz.isAgg213
 z229 := Tryz.sizeOf213
 v229 := Tryz.zeroValue213 }
def Tryz.laysNm220_ren : Go.Shelf.Ren := ⟨fun | 20 => 131 | n => n, fun | 22 => 97 | 3 => 3 | 4 => 4 | 0 => 0 | n => n, fun | n => n⟩
theorem Tryz.laysNm220 : Go.Proofs.Lays2.n20 Tryz.prog Tryz.laysNm220_ren := {
 mixed := by kernel_rfl
 f20 := Tryz.func131.trans (congrArg some (by kernel_rfl))
 t0 := Tryz.underlying0
 a0 := Tryz.isAgg0
 z0 := Tryz.sizeOf0
 v0 := Tryz.zeroValue0
 t3 := Tryz.underlying3
 a3 := Tryz.isAgg3
 z3 := Tryz.sizeOf3
 v3 := Tryz.zeroValue3
 t4 := Tryz.underlying4
 a4 := Tryz.isAgg4
 z4 := Tryz.sizeOf4
 v4 := Tryz.zeroValue4
 t22 := Tryz.underlying97
 a22 := Tryz.isAgg97
 z22 := Tryz.sizeOf97
 v22 := Tryz.zeroValue97
 i3 := by kernel_rfl }
def Tryz.lays106_ren : Go.Shelf.Ren := ⟨fun | 106 => 52 | 213 => 76 | 265 => 112 | n => n, fun | 9 => 9 | 3 => 3 | n => n, fun | n => n⟩
theorem Tryz.lays106 : Go.Proofs.Lays.n106 Tryz.prog Tryz.lays106_ren := {
 mixed := by kernel_rfl
 f106 := Tryz.func52.trans (congrArg some (by kernel_rfl))
 f213 := Tryz.func76.trans (congrArg some (by kernel_rfl))
 f265 := Tryz.func112.trans (congrArg some (by kernel_rfl))
 t3 := Tryz.underlying3
 a3 := Tryz.isAgg3
 z3 := Tryz.sizeOf3
 v3 := Tryz.zeroValue3
 t9 := Tryz.underlying9
 a9 := Tryz.isAgg9
 z9 := Tryz.sizeOf9
 v9 := Tryz.zeroValue9 }
def Tryz.pdqL_ren : Go.Shelf.Ren := ⟨fun | 14 => 73 | 20 => 102 | 21 => 103 | 22 => 104 | 23 => 105 | 24 => 106 | 25 => 107 | 26 => 108 | 27 => 109 | 46 => 133 | 47 => 134 | 48 => 135 | 49 => 136 | 50 => 137 | 15 => 74 | 57 => 151 | 28 => 110 | 29 => 111 | n => n, fun | 24 => 51 | 22 => 35 | 3 => 3 | 25 => 103 | 4 => 4 | 0 => 0 | 46 => 162 | 45 => 161 | 50 => 166 | 66 => 193 | 39 => 128 | 55 => 171 | 70 => 197 | 76 => 212 | 77 => 213 | 53 => 169 | 5 => 5 | 9 => 9 | n => n, fun | n => n⟩
theorem Tryz.pdqL : Go.Proofs.SlLaysF0.n14 Tryz.prog Tryz.pdqL_ren := {
 mixed := by kernel_rfl
 f14 := ⟨Tryz.f73.name, by decide, Tryz.func73.trans (congrArg some (by kernel_rfl))⟩
 f15 := Tryz.func74.trans (congrArg some (by kernel_rfl))
 f20 := ⟨Tryz.f102.name, by decide, Tryz.func102.trans (congrArg some (by kernel_rfl))⟩
 f21 := ⟨Tryz.f103.name, by decide, Tryz.func103.trans (congrArg some (by kernel_rfl))⟩
 f22 := ⟨Tryz.f104.name, by decide, Tryz.func104.trans (congrArg some (by kernel_rfl))⟩
 f23 := ⟨Tryz.f105.name, by decide, Tryz.func105.trans (congrArg some (by kernel_rfl))⟩
 f24 := ⟨Tryz.f106.name, by decide, Tryz.func106.trans (congrArg some (by kernel_rfl))⟩
 f25 := ⟨Tryz.f107.name, by decide, Tryz.func107.trans (congrArg some (by kernel_rfl))⟩
 f26 := ⟨Tryz.f108.name, by decide, Tryz.func108.trans (congrArg some (by kernel_rfl))⟩
 f27 := ⟨Tryz.f109.name, by decide, Tryz.func109.trans (congrArg some (by kernel_rfl))⟩
 f28 := Tryz.func110.trans (congrArg some (by kernel_rfl))
 f29 := Tryz.func111.trans (congrArg some (by kernel_rfl))
 f46 := ⟨Tryz.f133.name, by decide, Tryz.func133.trans (congrArg some (by kernel_rfl))⟩
 f47 := Tryz.func134.trans (congrArg some (by kernel_rfl))
 f48 := Tryz.func135.trans (congrArg some (by kernel_rfl))
 f49 := ⟨Tryz.f136.name, by decide, Tryz.func136.trans (congrArg some (by kernel_rfl))⟩
 f50 := ⟨Tryz.f137.name, by decide, Tryz.func137.trans (congrArg some (by kernel_rfl))⟩
 f57 := ⟨Tryz.f151.name, by decide, Tryz.func151.trans (congrArg some (by kernel_rfl))⟩
 t0 := Tryz.underlying0
 a0 := Tryz.isAgg0
 z0 := Tryz.sizeOf0
 v0 := Tryz.zeroValue0
 t3 := Tryz.underlying3
 a3 := Tryz.isAgg3
 z3 := Tryz.sizeOf3
 v3 := Tryz.zeroValue3
 t4 := Tryz.underlying4
 a4 := Tryz.isAgg4
 z4 := Tryz.sizeOf4
 v4 := Tryz.zeroValue4
 t5 := Tryz.underlying5
 a5 := Tryz.isAgg5
 z5 := Tryz.sizeOf5
 v5 := Tryz.zeroValue5
 t9 := Tryz.underlying9
 a9 := Tryz.isAgg9
 z9 := Tryz.sizeOf9
 v9 := Tryz.zeroValue9
 t22 := Tryz.underlying35
 a22 := Tryz.isAgg35
 z22 := Tryz.sizeOf35
 v22 := Tryz.zeroValue35
 t25 := Tryz.underlying103
 a25 := Tryz.isAgg103
 z25 := Tryz.sizeOf103
 v25 := Tryz.zeroValue103
 t39 := Tryz.underlying128
 a39 := Tryz.isAgg128
 z39 := Tryz.sizeOf128
 v39 := Tryz.zeroValue128
 t45 := Tryz.underlying161
 a45 := Tryz.isAgg161
 z45 := Tryz.sizeOf161
 v45 := Tryz.zeroValue161
 t46 := Tryz.underlying162
 a46 := Tryz.isAgg162
 z46 := Tryz.sizeOf162
 v46 := Tryz.zeroValue162
 t50 := Tryz.underlying166
 a50 := Tryz.isAgg166
 z50 := Tryz.sizeOf166
 v50 := Tryz.zeroValue166
 t53 := Tryz.underlying169
 a53 := Tryz.isAgg169
 z53 := Tryz.sizeOf169
 v53 := Tryz.zeroValue169
 t55 := Tryz.underlying171
 a55 := Tryz.isAgg171
 z55 := Tryz.sizeOf171
 v55 := Tryz.zeroValue171
 t66 := Tryz.underlying193
 a66 := Tryz.isAgg193
 z66 := Tryz.sizeOf193
 v66 := Tryz.zeroValue193
 t70 := Tryz.underlying197
 a70 := Tryz.isAgg197
 z70 := Tryz.sizeOf197
 v70 := Tryz.zeroValue197
 t76 := Tryz.underlying212
 a76 := Tryz.isAgg212
 z76 := Tryz.sizeOf212
 v76 := Tryz.zeroValue212
 t77 := Tryz.underlying213
 a77 := Tryz.isAgg213
 z77 := Tryz.sizeOf213
 v77 := Tryz.zeroValue213 }
def Tryz.lays171_ren : Go.Shelf.Ren := ⟨fun | 171 => 93 | 243 => 116 | 246 => 138 | 283 => 152 | 284 => 153 | 285 => 154 | 286 => 155 | 129 => 111 | 317 => 170 | 318 => 171 | 319 => 172 | 320 => 173 | 337 => 177 | 338 => 178 | n => n, fun | 3 => 3 | 9 => 9 | 2 => 2 | 4 => 4 | 171 => 215 | 0 => 0 | 53 => 171 | 37 => 217 | 5 => 5 | 173 => 218 | 212 => 232 | 51 => 169 | 20 => 20 | 213 => 233 | 46 => 128 | 232 => 237 | 233 => 238 | n => n, fun | 17 => 3 | 18 => 4 | 19 => 5 | n => n⟩
theorem Tryz.lays171 : Go.Proofs.Lays.n171 Tryz.prog Tryz.lays171_ren := {
 mixed := by kernel_rfl
 f129 := Tryz.func111.trans (congrArg some (by kernel_rfl))
 f171 := Tryz.func93.trans (congrArg some (by kernel_rfl))
 f243 := Tryz.func116.trans (congrArg some (by kernel_rfl))
 f246 := Tryz.func138.trans (congrArg some (by kernel_rfl))
 f283 := Tryz.func152.trans (congrArg some (by kernel_rfl))
 f284 := Tryz.func153.trans (congrArg some (by kernel_rfl))
 f285 := Tryz.func154.trans (congrArg some (by kernel_rfl))
 f286 := Tryz.func155.trans (congrArg some (by kernel_rfl))
 f317 := Tryz.func170.trans (congrArg some (by kernel_rfl))
 f318 := Tryz.func171.trans (congrArg some (by kernel_rfl))
 f319 := Tryz.func172.trans (congrArg some (by kernel_rfl))
 f320 := Tryz.func173.trans (congrArg some (by kernel_rfl))
 f337 := Tryz.func177.trans (congrArg some (by kernel_rfl))
 f338 := Tryz.func178.trans (congrArg some (by kernel_rfl))
 t0 := Tryz.underlying0
 a0 := Tryz.isAgg0
 z0 := Tryz.sizeOf0
 v0 := Tryz.zeroValue0
 t2 := Tryz.underlying2
 a2 := Tryz.isAgg2
 z2 := Tryz.sizeOf2
 v2 := Tryz.zeroValue2
 t3 := Tryz.underlying3
 a3 := Tryz.isAgg3
 z3 := Tryz.sizeOf3
 v3 := Tryz.zeroValue3
 t4 := Tryz.underlying4
 a4 := Tryz.isAgg4
 z4 := Tryz.sizeOf4
 v4 := Tryz.zeroValue4
 t5 := Tryz.underlying5
 a5 := Tryz.isAgg5
 z5 := Tryz.sizeOf5
 v5 := Tryz.zeroValue5
 t9 := Tryz.underlying9
 a9 := Tryz.isAgg9
 z9 := Tryz.sizeOf9
 v9 := Tryz.zeroValue9
 t20 := Tryz.underlying20
 a20 := Tryz.isAgg20
 z20 := Tryz.sizeOf20
 v20 := Tryz.zeroValue20
 t37 := Tryz.underlying217
 a37 := Tryz.isAgg217
 z37 := Tryz.sizeOf217
 v37 := Tryz.zeroValue217
 t46 := Tryz.underlying128
 a46 := Tryz.isAgg128
 z46 := Tryz.sizeOf128
 v46 := Tryz.zeroValue128
 t51 := Tryz.underlying169
 a51 := Tryz.isAgg169
 z51 := Tryz.sizeOf169
 v51 := Tryz.zeroValue169
 t53 := Tryz.underlying171
 a53 := Tryz.isAgg171
 z53 := Tryz.sizeOf171
 v53 := Tryz.zeroValue171
 t171 := Tryz.underlying215
 a171 := Tryz.isAgg215
 z171 := Tryz.sizeOf215
 v171 := Tryz.zeroValue215
 t173 := Tryz.underlying218
 a173 := Tryz.isAgg218
 z173 := Tryz.sizeOf218
 v173 := Tryz.zeroValue218
 t212 := Tryz.underlying232
 a212 := Tryz.isAgg232
 z212 := Tryz.sizeOf232
 v212 := Tryz.zeroValue232
 t213 := Tryz.underlying233
 a213 := Tryz.isAgg233
 z213 := Tryz.sizeOf233
 t232 := Tryz.underlying237
 a232 := Tryz.isAgg237
 z232 := Tryz.sizeOf237
 v232 := Tryz.zeroValue237
 t233 := Tryz.underlying238
 a233 := Tryz.isAgg238
 z233 := Tryz.sizeOf238
 v233 := Tryz.zeroValue238
 g17 := by kernel_rfl
 g18 := by kernel_rfl
 g19 := by kernel_rfl }
open Go.RowKit Go.Sort Go.Lib in
theorem Tryz.strconv_Itoa_small (i : Nat) (hi : i < 100) (w : World) :
  Calls Tryz.prog 93 #[.int .i64 i] w fun e w' => e = .returned (.string ⟨(Lib.decDigits i).toArray⟩) /\ w' = w := Any.strconv_Itoa_small Tryz.lays171 i hi w
open Go.Shelf Go.Lib Go.Sort Go.RowKit
set_option maxHeartbeats 4000000 in
set_option maxRecDepth 100000 in
theorem Tryz.sortN_eq {α : Type} [Inhabited α] (k : Nat) (aE : ∀ w, (isAgg (Tryz.pdqL_ren.t 24)).run Tryz.prog w = .ok true w) (zE : ∀ w, (Go.sizeOf (Tryz.pdqL_ren.t 24)).run Tryz.prog w = .ok k w) (enc : α -> List Value) (hk : ∀ x, (enc x).length = k) (h1 : ∀ x, ∀ v ∈ enc x, v.oneCell' = true) (cf : α -> α -> Int) (hO : SWO (ltOf cf)) (g : Nat) (cb : Array Value) (blk off cap : Nat) (d : Array α) (w : World)
  (eg : ∀ args w, (callFunc g args).run Tryz.prog w = .ok (.enter g args) w) (hcmp : CmpLays Tryz.prog g cb enc k cf blk off d.size w) (hH : HoldsK enc k w blk off d) (hblk : blk < w.heap.size) (hsz : d.size < 4611686018427387904) :
  Calls Tryz.prog 48 #[.slice (some ⟨blk, off, none⟩) d.size cap, .func (.func g) #[] cb] w fun e w' =>
   e = .returned (.tuple #[]) /\ ∃ n os, w' = sortWorldK enc k w blk off n (pdq (ltOf cf) d 0 d.size (Lib.bitLen d.size) true true) os := by
 have L := Tryz.pdqL
 have e14 : ∀ args w, (callFunc 73 args).run Tryz.prog w = .ok (.enter 73 args) w := L.f14.enters rfl
 have e15 : ∀ args w, (callFunc 74 args).run Tryz.prog w = .ok (.enter 74 args) w := enters_of L.f15 (by kernel_rfl) rfl
 have hlim : Lib.bitLen d.size < 4611686018427387904 := Nat.lt_of_le_of_lt (Lib.bitLen_le d.size 62 (by omega) (by omega)) (by omega)
 have hp := AnyQ.pdqsortCmpFunc_all (P := Tryz.prog) (ρ := Tryz.pdqL_ren) L k aE zE enc cf g cb hO blk off cap d w eg hcmp ⟨hk, h1, hH, hblk⟩ (d.size + 1) 0 d.size (Lib.bitLen d.size) d w (by omega) rfl (SWK.start hH) (Nat.zero_le _) (Nat.le_refl _) hsz hlim (Or.inl rfl)
 have hl : Calls Tryz.prog 74 #[.int .u64 (d.size : Int)] w fun e w' => e = .returned (.int .i64 (Lib.bitLen d.size : Nat)) /\ w' = w := by
  have h := Any.bits_Len (SlLaysF0.n15.bits (P := Tryz.prog) (ρ := Tryz.pdqL_ren) { L with }) (d.size : Int) w (by omega) (by omega)
  rwa [Int.toNat_natCast] at h
 have wr : IntKind.u64.wrap (d.size : Int) = d.size := by simp [IntKind.wrap, IntKind.bits, IntKind.signed]; omega
 clear hH hcmp hk h1
 replace hp : Calls Tryz.prog 73 #[.slice (some ⟨blk, off, none⟩) d.size cap, .int .i64 0, .int .i64 d.size, .int .i64 (Lib.bitLen d.size : Nat), .func (.func g) #[] cb] w fun e w' => e = .returned (.tuple #[]) /\ SWK enc k w blk off (pdq (ltOf cf) d 0 d.size (Lib.bitLen d.size) true true) w' := hp
 go_enter Tryz.func48, (rfl : Tryz.f48.ntmps = 14)
 go_wp2_with (first | (go_at_fn 74; refine hl.mono ?_; rintro e w' ⟨rfl, rfl⟩) | (go_at_fn 73; refine hp.mono ?_; rintro e w' ⟨rfl, n, os, rfl⟩))
 go_end0
 exact ⟨rfl, n, os, rfl⟩
set_option maxHeartbeats 4000000 in
set_option maxRecDepth 100000 in
theorem Tryz.sortN_none (p : Option Addr) (cap : Nat) (fv : Value) (w : World) : Calls Tryz.prog 48 #[.slice p 0 cap, fv] w fun e w' => e = .returned (.tuple #[]) /\ w' = w := by
 have L := Tryz.pdqL
 have e14 : ∀ args w, (callFunc 73 args).run Tryz.prog w = .ok (.enter 73 args) w := L.f14.enters rfl
 have e15 : ∀ args w, (callFunc 74 args).run Tryz.prog w = .ok (.enter 74 args) w := enters_of L.f15 (by kernel_rfl) rfl
 have hp : ∀ lim W, Calls Tryz.prog 73 #[.slice p 0 cap, .int .i64 0, .int .i64 0, .int .i64 lim, fv] W fun e w' => e = .returned (.tuple #[]) /\ w' = W := fun lim W => AnyF.pdqsortCmpFunc_none (P := Tryz.prog) (ρ := Tryz.pdqL_ren) L p cap lim fv W
 have hl : ∀ W, Calls Tryz.prog 74 #[.int .u64 0] W fun e w' => e = .returned (.int .i64 (Lib.bitLen 0 : Nat)) /\ w' = W := fun W => by
  have h := Any.bits_Len (SlLaysF0.n15.bits (P := Tryz.prog) (ρ := Tryz.pdqL_ren) { L with }) 0 W (by omega) (by omega)
  exact h
 go_enter Tryz.func48, (rfl : Tryz.f48.ntmps = 14)
 go_wp2_with (first | (go_at_fn 74; refine (hl _).mono ?_; rintro e w' ⟨rfl, rfl⟩) | (go_at_fn 73; refine (hp _ _).mono ?_; rintro e w' ⟨rfl, rfl⟩))
 go_end0
 exact ⟨rfl, rfl⟩
end Go.Proofs

namespace Go.Gv
open Go.Sort
section
variable {P : Program} {F : Fid} {α : Type} [Inhabited α]
def j1 (encD : α -> D) (d : Array α) : List (List D):=d.toList.map fun x=>[encD x]
theorem nP {f : FuncId} (enc : α -> Value) (encD : α -> D) (hflat : ∀ M x u,ae F M (encD x) u -> u=enc x) (hrep : ∀ M x,ae F M (encD x) (enc x)) (d d' : Array α) (hsz : d'.size=d.size) (ds : List D)
  (hnone : d.size=0 -> ∀ (M : Mem) (w : World) (vs : List Value) (A : Option Addr),(∀ p v,M p=some v -> w.cell? p=some v) -> ap F M ds vs -> Calls P f (.slice A 0 0::vs).toArray w fun e w'=>e=.returned (.tuple #[]) /\ ∃ n os,w'=grow (Sort.ahead w n) os)
  (hrun : ∀ (M : Mem) (w : World) (vs : List Value) (blk off cap : Nat),(∀ p v,M p=some v -> w.cell? p=some v) -> (∀ p : Addr,p.block=blk -> M p=none) -> ap F M ds vs -> Holds enc w blk off d -> blk < w.heap.size ->
   Calls P f (.slice (some ⟨blk,off,none⟩) d.size cap::vs).toArray w fun e w'=>e=.returned (.tuple #[]) /\ ∃ n os,w'=grow (putRow enc (Sort.ahead w n) blk off d') os) : sD P F f 1 (j1 encD d) ds (j1 encD d'):=by
 intro M w vs hh r
 have hl : (j1 encD d).length=d.size:=by simp [j1]
 refine ⟨fun e A=>?_,fun b o T us cap hM hb hcell hcap hle hu hc=>?_⟩
 ·have h0 : d.size=0:=by rw [<- hl,e];rfl
  refine (hnone h0 M w vs A hh r).mono ?_
  rintro e0 w' ⟨rfl,n,os,rfl⟩
  exact ⟨rfl,rfl,rfl,rfl,by simp [grow,Sort.ahead],fun k hk=>by simp only [grow,Sort.ahead];rw [Array.getElem?_append_left hk],Nat.le_add_right _ _⟩
 ·rw [hl] at hcap ⊢
  have hH : Holds enc w b o d:=fun j hj=>by
   obtain ⟨u,k1,k2⟩:=hc j [encD d[j]] 0 (encD d[j]) (by simp [j1,hj]) rfl
   have:=hflat _ _ _ k2
   subst this
   have e1 : d[j]! = d[j]:=getElem!_pos d j hj
   rw [e1]
   have k3 : us[o + j]? = some (enc d[j]):=by simpa using k1
   constructor
   ·simp [World.cell?,hcell,k3]
   ·simp [World.frozen?,hcell]
  refine (hrun M w vs b o cap hh hM r hH hb).mono ?_
  rintro e0 w' ⟨rfl,n,os,rfl⟩
  have hput : (grow (putRow enc (Sort.ahead w n) b o d') os).heap[b]? = some (.cells (putCells enc o d' us.toArray) T (0,0)):=by
   simp only [grow,putRow,mapBlock,Sort.ahead]
   rw [Array.getElem?_append_left (by simpa using hb),Array.getElem?_modify,if_pos rfl,hcell]
   rfl
  refine ⟨rfl,(putCells enc o d' us.toArray).toList,by rw [Array.toArray_toList];exact hput,by simp [putCells],fun i r off x hi hr=>?_,⟨rfl,rfl,rfl,by simp [grow,putRow,mapBlock,Sort.ahead],fun k hk hne=>?_,Nat.le_add_right _ _⟩⟩
  ·simp only [j1,List.getElem?_map,Option.map_eq_some_iff] at hi
   obtain ⟨y,h1,rfl⟩:=hi
   have ho : off=0:=by
    have:=(List.getElem?_eq_some_iff.1 hr).1
    simpa using this
   subst ho
   simp only [List.getElem?_cons_zero,Option.some.injEq] at hr
   subst hr
   have hi2 : i < d'.size:=by have:=(List.getElem?_eq_some_iff.1 h1).1;simpa using this
   have hy : d'[i]! = y:=by
    rw [getElem!_pos d' i hi2]
    have:=(List.getElem?_eq_some_iff.1 h1).2
    simpa using this
   refine ⟨enc y,?_,hrep _ _⟩
   have hlt : o + i < us.length:=by
    have : o + cap * 1 <= us.length:=hle
    omega
   rw [Nat.mul_one,Nat.add_zero,Array.getElem?_toList]
   simp only [putCells,Array.getElem?_mapIdx,List.getElem?_toArray]
   rw [List.getElem?_eq_getElem hlt]
   simp only [Option.map_some]
   rw [if_pos ⟨by omega,by omega⟩,show o + i - o=i by omega,hy]
  ·simp only [grow,putRow,mapBlock,Sort.ahead]
   rw [Array.getElem?_append_left (by simpa using hk),Array.getElem?_modify,if_neg (Ne.symm hne)]
end
end Go.Gv

namespace Go.Gv
open Go.Sort Go.Proofs Go.Shelf
section
variable {P : Program} {F : Fid} {ρ : Ren}
def Aa (zs : List Int) : List (List D):=zs.map fun n=>[.int .i64 n]
theorem xc {zs : List Int} {i : Nat} {r : List D} {off : Nat} {d : D} (h1 : (Aa zs)[i]? = some r) (h2 : r[off]? = some d) : ∃ x,zs[i]? = some x /\ off=0 /\ d=.int .i64 x:=by
 simp only [Aa,List.getElem?_map,Option.map_eq_some_iff] at h1
 obtain ⟨x,h1,rfl⟩:=h1
 have ho : off=0:=by have:=(List.getElem?_eq_some_iff.1 h2).1;simpa using this
 subst ho
 simp only [List.getElem?_cons_zero,Option.some.injEq] at h2
 exact ⟨x,h1,rfl,h2.symm⟩
theorem rM {M : Mem} {zs : List Int} {us : List Value} {o : Nat} (hc : ∀ i r off d,(Aa zs)[i]? = some r -> r[off]? = some d -> ∃ u,us[o + i * 1 + off]? = some u /\ ae F M d u) : ∀ j x,zs[j]? = some x -> us[o + j]? = some (.int .i64 x):=by
 intro j x hj
 obtain ⟨u,k1,k2⟩:=hc j [.int .i64 x] 0 (.int .i64 x) (by simp [Aa,hj]) rfl
 simp only [ae] at k2
 subst k2
 simpa using k1
theorem nq (Ly : Lays.n189 P ρ) {g : Nat} (hg : ∀ f,F g=some f -> f=ρ.f 189) (zs : List Int) (hz : zs.length < 2 ^ 40) :
  eJ P F g [.own 1 (zs.map fun n=>[.int .i64 n])] .any [.own 1 ((zs.mergeSort fun x y=>decide (x <= y)).map fun n=>[.int .i64 n]),.nilp]:=by
 refine ⟨trivial,fun f hf=>⟨rfl,?_⟩⟩
 obtain rfl:=hg f hf
 have k:=nP (P:=P) (F:=F) (f:=ρ.f 189) (Value.int .i64) (D.int .i64) (fun M x u h=>by simpa only [ae] using h) (fun M x=>by simp only [ae]) zs.toArray (zs.mergeSort fun x y=>decide (x <= y)).toArray (by simp [List.length_mergeSort]) []
  (fun h M w vs A hh r=>by
   simp only [ap] at r
   subst r
   refine (Any.slices_Sort_int_none Ly A 0 w).mono ?_
   rintro e w' ⟨rfl,rfl⟩
   exact ⟨rfl,0,#[],by simp [grow,Sort.ahead]⟩)
  (fun M w vs blk off cap hh hM r hH hb=>by
   simp only [ap] at r
   subst r
   have:=Any.slices_Sort_int Ly blk off cap zs w hH hb (by omega)
   simpa using this)
 simpa [j1] using k
theorem nO (L : Lays2.n20 P ρ) {g : Nat} (hg : ∀ f,F g=some f -> f=ρ.f 20) (zs : List Int) (hz : zs.length < 2 ^ 40) :
  eJ P F g [.own 1 (zs.map fun n=>[.int .i64 n])] .any [.own 1 ((Lib.compact zs).map fun n=>[.int .i64 n]),.nils,.nils]:=by
 refine ⟨trivial,fun f hf=>⟨rfl,?_⟩⟩
 obtain rfl:=hg f hf
 refine qY.to ?_
 intro M w vs hh
 have nil : ∀ {b : Option Nat},mz F M w b [] vs -> vs=[]:=fun h=>List.eq_nil_of_length_eq_zero h.1.symm
 refine ⟨fun e A r=>?_,fun b o T us cap r hM hb hcell hcap hmc hle hu hc=>?_⟩
 ·rw [nil r]
  have h0 : zs=[]:=by simpa using e
  subst h0
  refine (Any.slices_Compact_int_empty L A 0 w).mono ?_
  rintro e w' ⟨rfl,rfl⟩
  exact ⟨_,rfl,Bel.refl _,.inl ⟨rfl,A,rfl⟩⟩
 ·rw [nil r]
  have hget:=rM hc
  have hl : (zs.map fun n=>[D.int .i64 n]).length=zs.length:=by simp
  rw [hl] at hcap ⊢
  have hH : Holds (Value.int .i64) w b o zs.toArray:=fun j hj=>by
   have hj2 : j < zs.length:=by simpa using hj
   have e1 : zs.toArray[j]! = zs[j]:=by rw [getElem!_pos zs.toArray j hj];simp
   have k3:=hget j zs[j] (List.getElem?_eq_getElem hj2)
   rw [e1]
   exact ⟨by simp [World.cell?,hcell,k3],by simp [World.frozen?,hcell]⟩
  obtain ⟨d',hd'⟩ : ∃ d',d'=(Lib.compact zs++List.replicate (zs.length - (Lib.compact zs).length) 0).toArray:=⟨_,rfl⟩
  have hcl : (Lib.compact zs).length <= zs.length:=by
   unfold Lib.compact Lib.compactUpTo
   rw [List.length_map]
   have:=List.length_filter_le (Lib.keeps zs.toArray) (List.range zs.length)
   simpa using this
  have hsz : d'.size=zs.length:=by rw [hd'];simp;omega
  refine (Any.slices_Compact_int L b o cap zs w hH (by omega) hcap).mono ?_
  rintro e w' ⟨rfl,q,rfl⟩
  rw [<- hd']
  have hput : (putRow (Value.int .i64) (Sort.ahead w q) b o d').heap[b]? = some (.cells (putCells (Value.int .i64) o d' us.toArray) T (0,0)):=by
   simp only [putRow,mapBlock,Sort.ahead]
   rw [Array.getElem?_modify,if_pos rfl,hcell]
   rfl
  refine ⟨_,rfl,(putCells (Value.int .i64) o d' us.toArray).toList,by rw [Array.toArray_toList];exact hput,by simp [putCells],⟨rfl,rfl,rfl,by simp [putRow,mapBlock,Sort.ahead],fun k hk hne=>?_,Nat.le_add_right _ _⟩,.inl ⟨by simp,by simp;omega,fun i r off d h1 h2=>?_⟩⟩
  ·simp only [putRow,mapBlock,Sort.ahead]
   rw [Array.getElem?_modify,if_neg (Ne.symm hne)]
  ·obtain ⟨x,h3,rfl,rfl⟩:=xc h1 h2
   have hi : i < (Lib.compact zs).length:=(List.getElem?_eq_some_iff.1 h3).1
   refine ⟨.int .i64 x,?_,by simp only [ae]⟩
   have hlt : o + i < us.length:=by omega
   have hy : d'[i]! = x:=by
    rw [getElem!_pos d' i (by omega)]
    have : d'[i]? = some x:=by rw [hd'];simp [List.getElem?_append_left hi,h3]
    exact (Array.getElem?_eq_some_iff.1 this).2
   rw [Nat.mul_one,Nat.add_zero,Array.getElem?_toList]
   simp only [putCells,Array.getElem?_mapIdx,List.getElem?_toArray]
   rw [List.getElem?_eq_getElem hlt]
   simp only [Option.map_some]
   rw [if_pos ⟨by omega,by omega⟩,show o + i - o=i by omega,hy]
end
end Go.Gv

namespace Go.Gv
open Go.Sort Go.Proofs Go.Shelf
theorem Bel.grownK {w w' : World} (h : Bel w w') : ∃ q os,w'=grow (w.drewN q) os:=by
 refine ⟨w'.drawn - w.drawn,w'.heap.extract w.heap.size w'.heap.size,?_⟩
 have hh : w'.heap=w.heap++w'.heap.extract w.heap.size w'.heap.size:=by
  apply Array.ext
  ·have:=h.size
   simp only [Array.size_append,Array.size_extract]
   omega
  ·intro i h1 h2
   by_cases hi : i < w.heap.size
   ·rw [Array.getElem_append_left hi]
    have:=h.block i hi
    rw [Array.getElem?_eq_getElem h1,Array.getElem?_eq_getElem hi] at this
    exact Option.some.inj this
   ·rw [Array.getElem_append_right (by omega),Array.getElem_extract]
    congr 1
    omega
 have hd:=h.drawn
 obtain ⟨h1,h2,h3,h4,h5,h6⟩:=h
 cases w
 cases w'
 simp only [grow,World.drewN] at *
 subst h1 h2 h3
 congr 1
 omega
theorem pq {α : Type} [Inhabited α] {enc : α -> List Value} {k : Nat} {w : World} {blk off n : Nat} {d : Array α} {os : Array Obj} {p : Addr} {v : Value} (hp : p.block ≠ blk) (h : w.cell? p=some v) : (sortWorldK enc k w blk off n d os).cell? p=some v:=by
 have hb : p.block < w.heap.size:=by
  unfold World.cell? at h
  cases e : w.heap[p.block]? with
  | none=>rw [e] at h;cases h
  | some _=>exact (Array.getElem?_eq_some_iff.1 e).1
 have e : (sortWorldK enc k w blk off n d os).heap[p.block]? = w.heap[p.block]?:=by
  simp only [sortWorldK,grow,putRowK,putRow,mapBlock,Sort.ahead]
  rw [Array.getElem?_append_left (by simpa using hb),Array.getElem?_modify,if_neg (Ne.symm hp)]
 unfold World.cell? at h ⊢
 rw [e]
 exact h
section
variable {P : Program} {F : Fid} {α : Type} [Inhabited α]
theorem nr {f : FuncId} (k : Nat) (hk0 : 0 < k) (enc : α -> List Value) (encD : α -> List D) (hk : ∀ x,(enc x).length=k) (hkD : ∀ x,(encD x).length=k) (hflat : ∀ (M : Mem) (x : α) (i : Nat) (d : D) (u : Value),(encD x)[i]? = some d -> ae F M d u -> (enc x)[i]? = some u) (hrep : ∀ M x,ap F M (encD x) (enc x)) (d d' : Array α) (hsz : d'.size=d.size) (ds : List D)
  (hnone : d.size=0 -> ∀ (M : Mem) (w : World) (vs : List Value) (A : Option Addr),(∀ p v,M p=some v -> w.cell? p=some v) -> ap F M ds vs -> Calls P f (.slice A 0 0::vs).toArray w fun e w'=>e=.returned (.tuple #[]) /\ ∃ n os,w'=grow (Sort.ahead w n) os)
  (hrun : ∀ (M : Mem) (w : World) (vs : List Value) (blk off cap : Nat),(∀ p v,M p=some v -> w.cell? p=some v) -> (∀ p : Addr,p.block=blk -> M p=none) -> ap F M ds vs -> HoldsK enc k w blk off d -> blk < w.heap.size ->
   Calls P f (.slice (some ⟨blk,off,none⟩) d.size cap::vs).toArray w fun e w'=>e=.returned (.tuple #[]) /\ ∃ n os,w'=sortWorldK enc k w blk off n d' os) : sD P F f k (d.toList.map encD) ds (d'.toList.map encD):=by
 intro M w vs hh r
 have hl : (d.toList.map encD).length=d.size:=by simp
 refine ⟨fun e A=>?_,fun b o T us cap hM hb hcell hcap hle hu hc=>?_⟩
 ·have h0 : d.size=0:=by rw [<- hl,e];rfl
  refine (hnone h0 M w vs A hh r).mono ?_
  rintro e0 w' ⟨rfl,n,os,rfl⟩
  exact ⟨rfl,rfl,rfl,rfl,by simp [grow,Sort.ahead],fun k hk=>by simp only [grow,Sort.ahead];rw [Array.getElem?_append_left hk],Nat.le_add_right _ _⟩
 ·rw [hl] at hcap ⊢
  have hH : HoldsK enc k w b o d:=fun j hj=>by
   rw [size_flatK] at hj
   have hi : j / k < d.size:=(Nat.div_lt_iff_lt_mul hk0).2 hj
   have hm : j % k < k:=Nat.mod_lt _ hk0
   have hx : (encD d[j / k])[j % k]? = some ((encD d[j / k])[j % k]'(by rw [hkD];exact hm)):=List.getElem?_eq_getElem _
   obtain ⟨u,k1,k2⟩:=hc (j / k) (encD d[j / k]) (j % k) _ (by simp [hi]) hx
   have k3:=hflat _ _ _ _ _ hx k2
   rw [Nat.add_assoc,Nat.mul_comm (j / k) k,Nat.div_add_mod] at k1
   have e1 : (flatK enc k d)[j]! = u:=by
    rw [get_flatK _ _ _ _ hj,getElem!_pos d (j / k) hi]
    have:=(List.getElem?_eq_some_iff.1 k3).2
    rw [getElem!_pos _ _ (by rw [hk];exact hm)]
    exact this
   rw [e1]
   exact ⟨by simp [World.cell?,hcell,k1],by simp [World.frozen?,hcell]⟩
  refine (hrun M w vs b o cap hh hM r hH hb).mono ?_
  rintro e0 w' ⟨rfl,n,os,rfl⟩
  have hput : (sortWorldK enc k w b o n d' os).heap[b]? = some (.cells (putCells id o (flatK enc k d') us.toArray) T (0,0)):=by
   simp only [sortWorldK,grow,putRowK,putRow,mapBlock,Sort.ahead]
   rw [Array.getElem?_append_left (by simpa using hb),Array.getElem?_modify,if_pos rfl,hcell]
   rfl
  refine ⟨rfl,(putCells id o (flatK enc k d') us.toArray).toList,by rw [Array.toArray_toList];exact hput,by simp [putCells],fun i r off x hi hr=>?_,⟨rfl,rfl,rfl,by simp [sortWorldK,grow,putRowK,putRow,mapBlock,Sort.ahead],fun q hq hne=>?_,Nat.le_add_right _ _⟩⟩
  ·simp only [List.getElem?_map,Option.map_eq_some_iff] at hi
   obtain ⟨y,h1,rfl⟩:=hi
   have ho : off < k:=by have:=(List.getElem?_eq_some_iff.1 hr).1;rwa [hkD] at this
   have hi2 : i < d'.size:=by have:=(List.getElem?_eq_some_iff.1 h1).1;simpa using this
   have hy : d'[i]! = y:=by
    rw [getElem!_pos d' i hi2]
    have:=(List.getElem?_eq_some_iff.1 h1).2
    simpa using this
   obtain ⟨u,k1,k2⟩:=(hrep M y).get hr
   have hlt : i * k + off < d'.size * k:=by
    have : i * k + k <= d'.size * k:=by rw [<- Nat.succ_mul];exact Nat.mul_le_mul_right _ hi2
    omega
   have hlt2 : o + i * k + off < us.length:=by
    have h3 : d'.size * k <= cap * k:=Nat.mul_le_mul_right _ (by omega)
    omega
   refine ⟨u,?_,k2⟩
   rw [Array.getElem?_toList]
   simp only [putCells,Array.getElem?_mapIdx,List.getElem?_toArray]
   rw [List.getElem?_eq_getElem hlt2]
   simp only [Option.map_some,size_flatK]
   rw [if_pos ⟨by omega,by omega⟩,show o + i * k + off - o=i * k + off by omega,get_flatK _ _ _ _ hlt]
   have e1 : (i * k + off) / k=i:=by rw [Nat.mul_comm,Nat.mul_add_div hk0,Nat.div_eq_of_lt ho];omega
   have e2 : (i * k + off) % k=off:=by rw [Nat.mul_comm,Nat.mul_add_mod,Nat.mod_eq_of_lt ho]
   rw [e1,e2,hy]
   obtain ⟨z1,z2⟩:=List.getElem?_eq_some_iff.1 k1
   rw [getElem!_pos (enc y) off z1]
   simp [z2]
  ·simp only [sortWorldK,grow,putRowK,putRow,mapBlock,Sort.ahead]
   rw [Array.getElem?_append_left (by simpa using hq),Array.getElem?_modify,if_neg (Ne.symm hne)]
end
end Go.Gv

namespace Go.Gv
open Go.Sort Go.Proofs Go.Shelf
section
variable {P : Program} {F : Fid} {α : Type} [Inhabited α]
theorem mc {f1 : FuncId} (k : Nat) (hk0 : 0 < k) (enc : α -> List Value) (encD : α -> List D) (hk : ∀ x,(enc x).length=k) (hkD : ∀ x,(encD x).length=k) (h1 : ∀ x,∀ v ∈ enc x,v.oneCell'=true)
  (hflat : ∀ (M : Mem) (x : α) (i : Nat) (d : D) (u : Value),(encD x)[i]? = some d -> ae F M d u -> (enc x)[i]? = some u) (hrep : ∀ M x,ap F M (encD x) (enc x)) (cf : α -> α -> Int) (hO : SWO (ltOf cf)) (hT : ∀ x y,(ltOf cf) x y=false -> (ltOf cf) y x=false -> x=y) {g cg : Nat} (hg : ∀ f,F g=some f -> f=f1)
  (hnone : ∀ (p : Option Addr) (cap : Nat) (fv : Value) (w : World),Calls P f1 #[.slice p 0 cap,fv] w fun e w'=>e=.returned (.tuple #[]) /\ w'=w)
  (htot : ∀ (g : Nat) (cb : Array Value) (blk off cap : Nat) (d : Array α) (w : World),(∀ args w,(callFunc g args).run P w=.ok (.enter g args) w) -> CmpLays P g cb enc k cf blk off d.size w -> HoldsK enc k w blk off d -> blk < w.heap.size -> d.size < 4611686018427387904 ->
   Calls P f1 #[.slice (some ⟨blk,off,none⟩) d.size cap,.func (.func g) #[] cb] w fun e w'=>e=.returned (.tuple #[]) /\ ∃ n os,w'=sortWorldK enc k w blk off n (pdq (ltOf cf) d 0 d.size (Lib.bitLen d.size) true true) os) {cs : List D}
  (hn : ∀ f,F cg=some f -> mX P f=true) (hcl : ∀ x y,eJ P F cg (.agg (encD x)::.agg (encD y)::cs) (.int .i64 (cf x y)) []) (d : List α) (hz : d.length < 2 ^ 62) :
  eJ P F g [.own k (d.map encD),.fn cg cs] .any [.own k ((d.mergeSort fun x y=>!(ltOf cf) y x).map encD),.nilp]:=by
 refine ⟨trivial,fun f hf=>⟨rfl,?_⟩⟩
 obtain rfl:=hg f hf
 have key:=nr (P:=P) (F:=F) (f:=f) k hk0 enc encD hk hkD hflat hrep d.toArray (d.mergeSort fun x y=>!(ltOf cf) y x).toArray (by simp) [.fn cg cs] (fun h M w vs A hh r=>by
  simp only [ap,ae] at r
  obtain ⟨fv,vs',rfl,⟨fi,us,hfi,rfl,hus⟩,rfl⟩:=r
  refine (hnone A 0 _ w).mono ?_
  rintro e w' ⟨rfl,rfl⟩
  exact ⟨rfl,0,#[],by simp [grow,Sort.ahead]⟩) (fun M w vs blk off cap hh hM r hH hb=>by
  simp only [ap,ae] at r
  obtain ⟨fv,vs',rfl,⟨fi,us,hfi,rfl,hus⟩,rfl⟩:=r
  have hcmp : CmpLays P fi us.toArray enc k cf blk off d.toArray.size w:=by
   intro m os dk hdk x y
   have hr:=(hcl x y).2 fi hfi M (sortWorldK enc k w blk off m dk os) (.agg (enc x).toArray::.agg (enc y).toArray::us) (fun p v hpv=>pq (fun e=>by rw [hM p e] at hpv;cases hpv) (hh p v hpv)) (by
    simp only [ap,ae]
    exact ⟨_,_,rfl,⟨_,rfl,hrep _ _⟩,_,_,rfl,⟨_,rfl,hrep _ _⟩,hus⟩)
   have e : #[Value.agg (enc x).toArray,.agg (enc y).toArray]++us.toArray=(.agg (enc x).toArray::.agg (enc y).toArray::us).toArray:=by simp
   rw [e]
   refine hr.mono ?_
   rintro e w' ⟨v,M',rfl,hbel,_,_,_,hv⟩
   simp only [ae] at hv
   subst hv
   exact ⟨rfl,hbel.grownK⟩
  have:=htot fi us.toArray blk off cap d.toArray w (bN (hn fi hfi)) hcmp hH hb (by simpa using hz)
  have hs:=pdq_sorts (ltOf cf) hO d.toArray 0 d.toArray.size (Lib.bitLen d.toArray.size) true true (Nat.zero_le _) (Nat.le_refl _) (Or.inl rfl)
  have : Calls P f #[.slice (some ⟨blk,off,none⟩) d.toArray.size cap,.func (.func fi) #[] us.toArray] w fun e w'=>e=.returned (.tuple #[]) /\ ∃ n os,w'=sortWorldK enc k w blk off n (d.toArray.toList.mergeSort fun x y=>!(ltOf cf) y x).toArray os :=
   this.mono fun _ _ ⟨he,n,os,hw⟩=>⟨he,n,os,by rw [hw,<- sorted_unique_holds hO hT d.toArray _ hs.1 hs.2]⟩
  simpa using this)
 simpa using key
end
theorem sg {P : Program} {F : Fid} {ρ : Ren} (L : Lays.n106 P ρ) {g : Nat} (hg : ∀ f,F g=some f -> f=ρ.f 106) (a b : List UInt8) : eJ P F g [.str a,.str b] (.int .i64 (Lib.compareBytes a b)) []:=by
 refine ⟨trivial,fun f hf=>?_⟩
 obtain rfl:=hg f hf
 intro M w vs hh r
 simp only [ap,ae] at r
 obtain ⟨v1,r1,rfl,rfl,v2,r2,rfl,rfl,rfl⟩:=r
 refine (Any.strings_Compare L ⟨a.toArray⟩ ⟨b.toArray⟩ w).mono ?_
 rintro e w' ⟨rfl,rfl⟩
 exact ⟨_,M,rfl,Bel.refl _,fun _ _ h=>h,fun p h1 h2=>absurd h1 h2,hh,by simp only [ae]⟩
theorem jI {P : Program} {F : Fid} {g : Nat} {ds : List D} {sz : Nat} (h : eJ P F g ds .any [.own sz []]) : eJ P F g ds (.sl []) []:=by
 refine ⟨trivial,fun f hf M w vs hh r=>?_⟩
 refine (h.2 f hf M w vs hh r).mono ?_
 have hold : ∀ {w' : World},Bel w w' -> ∀ p v,M p=some v -> w'.cell? p=some v:=fun hb p v hp=>(by rw [hb.cell (World.block_lt_of_cell? w p (hh p v hp))];exact hh p v hp)
 rintro e w' (⟨_,_,A,rfl,hb⟩ | ⟨b,o,T,us,cap,rfl,hb,_,_,hcap,_⟩)
 ·exact ⟨_,M,rfl,hb,fun _ _ h=>h,fun p h1 h2=>absurd h1 h2,hold hb,by simp only [ae];exact ⟨A,0,[],0,rfl,Nat.zero_le _,rfl,by simp,by simp⟩⟩
 ·exact ⟨_,M,rfl,hb,fun _ _ h=>h,fun p h1 h2=>absurd h1 h2,hold hb,by simp only [ae];exact ⟨_,cap,[],0,rfl,Nat.zero_le _,rfl,by simp,by simp⟩⟩
end Go.Gv

namespace Go.Gv
structure Tag {α : Type _} (x : α) : Type where
@[simp] theorem PA : isV (.any)=true:=_root_.id rfl
@[simp] theorem PD {k n} : isV (.int k n)=true:=_root_.id rfl
@[simp] theorem KE {b} : isV (.bool b)=true:=_root_.id rfl
@[simp] theorem PK {s} : isV (.str s)=true:=_root_.id rfl
@[simp] theorem KF : isV (.nilp)=true:=_root_.id rfl
@[simp] theorem KG : isV (.nils)=true:=_root_.id rfl
@[simp] theorem Py {ds} : isV (.agg ds)=true:=_root_.id rfl
@[simp] theorem PM {ds} : isV (.tup ds)=true:=_root_.id rfl
@[simp] theorem So {es} : isV (.sl es)=true:=_root_.id rfl
@[simp] theorem PG {ds} : isV (.ptr ds)=true:=_root_.id rfl
@[simp] theorem Sm {g ds} : isV (.fn g ds)=true:=_root_.id rfl
@[simp] theorem PF {sz es} : isV (.own sz es)=false:=_root_.id rfl
@[simp] theorem PB {sz es} : isV (.blk sz es)=false:=_root_.id rfl
@[simp] theorem Sn {kt et ks vs} : isV (.mp kt et ks vs)=false:=_root_.id rfl
@[simp] theorem PE {b} : isV (.mrf b)=false:=_root_.id rfl
@[simp] theorem PI {p k n} : isV (.ref p k n)=false:=_root_.id rfl
@[simp] theorem Px {p i off} : isV (.adr p i off)=false:=_root_.id rfl
@[simp] theorem Pz {ds} : isV (.agx ds)=false:=_root_.id rfl
@[simp] theorem PL {ds} : isV (.tpx ds)=false:=_root_.id rfl
@[simp] theorem PH {ds} : isV (.ptx ds)=false:=_root_.id rfl
@[simp] theorem PC {g ds} : isV (.fnx g ds)=false:=_root_.id rfl
@[simp] theorem Ox : isK (.any)=false:=_root_.id rfl
@[simp] theorem OA {k n} : isK (.int k n)=true:=_root_.id rfl
@[simp] theorem Ks {b} : isK (.bool b)=true:=_root_.id rfl
@[simp] theorem OH {s} : isK (.str s)=true:=_root_.id rfl
@[simp] theorem Kt : isK (.nilp)=true:=_root_.id rfl
@[simp] theorem Ku : isK (.nils)=true:=_root_.id rfl
@[simp] theorem Ov {ds} : isK (.agg ds)=true:=_root_.id rfl
@[simp] theorem OJ {ds} : isK (.tup ds)=true:=_root_.id rfl
@[simp] theorem R8 {es} : isK (.sl es)=true:=_root_.id rfl
@[simp] theorem OD {ds} : isK (.ptr ds)=true:=_root_.id rfl
@[simp] theorem R6 {g ds} : isK (.fn g ds)=true:=_root_.id rfl
@[simp] theorem OC {sz es} : isK (.own sz es)=false:=_root_.id rfl
@[simp] theorem Oy {sz es} : isK (.blk sz es)=false:=_root_.id rfl
@[simp] theorem R7 {kt et ks vs} : isK (.mp kt et ks vs)=false:=_root_.id rfl
@[simp] theorem OB {b} : isK (.mrf b)=false:=_root_.id rfl
@[simp] theorem OF {p k n} : isK (.ref p k n)=false:=_root_.id rfl
@[simp] theorem Ou {p i off} : isK (.adr p i off)=false:=_root_.id rfl
@[simp] theorem Ow {ds} : isK (.agx ds)=false:=_root_.id rfl
@[simp] theorem OI {ds} : isK (.tpx ds)=false:=_root_.id rfl
@[simp] theorem OE {ds} : isK (.ptx ds)=false:=_root_.id rfl
@[simp] theorem Oz {g ds} : isK (.fnx g ds)=false:=_root_.id rfl
@[simp] theorem O3 : isP (.any)=true:=_root_.id rfl
@[simp] theorem O6 {k n} : isP (.int k n)=true:=_root_.id rfl
@[simp] theorem Ky {b} : isP (.bool b)=true:=_root_.id rfl
@[simp] theorem Pe {s} : isP (.str s)=true:=_root_.id rfl
@[simp] theorem Kz : isP (.nilp)=true:=_root_.id rfl
@[simp] theorem KA : isP (.nils)=true:=_root_.id rfl
@[simp] theorem O1 {ds} : isP (.agg ds)=true:=_root_.id rfl
@[simp] theorem Pg {ds} : isP (.tup ds)=true:=_root_.id rfl
@[simp] theorem Sf {es} : isP (.sl es)=true:=_root_.id rfl
@[simp] theorem O9 {ds} : isP (.ptr ds)=true:=_root_.id rfl
@[simp] theorem Sd {g ds} : isP (.fn g ds)=true:=_root_.id rfl
@[simp] theorem O8 {sz es} : isP (.own sz es)=false:=_root_.id rfl
@[simp] theorem O4 {sz es} : isP (.blk sz es)=false:=_root_.id rfl
@[simp] theorem Se {kt et ks vs} : isP (.mp kt et ks vs)=false:=_root_.id rfl
@[simp] theorem O7 {b} : isP (.mrf b)=true:=_root_.id rfl
@[simp] theorem Pc {p k n} : isP (.ref p k n)=true:=_root_.id rfl
@[simp] theorem O0 {p i off} : isP (.adr p i off)=true:=_root_.id rfl
@[simp] theorem O2 {ds} : isP (.agx ds)=false:=_root_.id rfl
@[simp] theorem Pf {ds} : isP (.tpx ds)=false:=_root_.id rfl
@[simp] theorem Pb {ds} : isP (.ptx ds)=false:=_root_.id rfl
@[simp] theorem O5 {g ds} : isP (.fnx g ds)=false:=_root_.id rfl
@[simp] theorem Pk : isS (.any)=true:=_root_.id rfl
@[simp] theorem Sl : isV (.bb)=true:=_root_.id rfl
@[simp] theorem Sg : isS (.bb)=true:=_root_.id rfl
@[simp] theorem Sc : isP (.bb)=true:=_root_.id rfl
@[simp] theorem RZ : isB (.bb)=false:=_root_.id rfl
@[simp] theorem Jy : cQ (.bb)=false:=_root_.id rfl
@[simp] theorem G3 : bF (.bb)=[]:=_root_.id rfl
@[simp] theorem DQ : aL (.bb)=[]:=_root_.id rfl
@[simp] theorem Pn {k n} : isS (.int k n)=true:=_root_.id rfl
@[simp] theorem KB {b} : isS (.bool b)=true:=_root_.id rfl
@[simp] theorem Pu {s} : isS (.str s)=true:=_root_.id rfl
@[simp] theorem KC : isS (.nilp)=true:=_root_.id rfl
@[simp] theorem KD : isS (.nils)=true:=_root_.id rfl
@[simp] theorem Pi {ds} : isS (.agg ds)=true:=_root_.id rfl
@[simp] theorem Pw {ds} : isS (.tup ds)=true:=_root_.id rfl
@[simp] theorem Sk {es} : isS (.sl es)=true:=_root_.id rfl
@[simp] theorem Pq {ds} : isS (.ptr ds)=true:=_root_.id rfl
@[simp] theorem Si {g ds} : isS (.fn g ds)=true:=_root_.id rfl
@[simp] theorem Pp {sz es} : isS (.own sz es)=false:=_root_.id rfl
@[simp] theorem Pl {sz es} : isS (.blk sz es)=false:=_root_.id rfl
@[simp] theorem Sj {kt et ks vs} : isS (.mp kt et ks vs)=false:=_root_.id rfl
@[simp] theorem Po {b} : isS (.mrf b)=true:=_root_.id rfl
@[simp] theorem Ps {p k n} : isS (.ref p k n)=true:=_root_.id rfl
@[simp] theorem Ph {p i off} : isS (.adr p i off)=true:=_root_.id rfl
@[simp] theorem Pj {ds} : isS (.agx ds)=ds.all isP:=_root_.id rfl
@[simp] theorem Pv {ds} : isS (.tpx ds)=ds.all isP:=_root_.id rfl
@[simp] theorem Pr {ds} : isS (.ptx ds)=ds.all isP:=_root_.id rfl
@[simp] theorem Pm {g ds} : isS (.fnx g ds)=ds.all isP:=_root_.id rfl
@[simp] theorem JI : av (.any)=false:=_root_.id rfl
@[simp] theorem JL {k n} : av (.int k n)=true:=_root_.id rfl
@[simp] theorem Gr {b} : av (.bool b)=true:=_root_.id rfl
@[simp] theorem JS {s} : av (.str s)=true:=_root_.id rfl
@[simp] theorem Gs : av (.nilp)=true:=_root_.id rfl
@[simp] theorem Gt : av (.nils)=true:=_root_.id rfl
@[simp] theorem JG {ds} : av (.agg ds)=false:=_root_.id rfl
@[simp] theorem JU {ds} : av (.tup ds)=false:=_root_.id rfl
@[simp] theorem N3 {es} : av (.sl es)=true:=_root_.id rfl
@[simp] theorem JO {ds} : av (.ptr ds)=true:=_root_.id rfl
@[simp] theorem N1 {g ds} : av (.fn g ds)=true:=_root_.id rfl
@[simp] theorem JN {sz es} : av (.own sz es)=false:=_root_.id rfl
@[simp] theorem JJ {sz es} : av (.blk sz es)=false:=_root_.id rfl
@[simp] theorem N2 {kt et ks vs} : av (.mp kt et ks vs)=false:=_root_.id rfl
@[simp] theorem JM {b} : av (.mrf b)=false:=_root_.id rfl
@[simp] theorem JQ {p k n} : av (.ref p k n)=false:=_root_.id rfl
@[simp] theorem JF {p i off} : av (.adr p i off)=false:=_root_.id rfl
@[simp] theorem JH {ds} : av (.agx ds)=false:=_root_.id rfl
@[simp] theorem JT {ds} : av (.tpx ds)=false:=_root_.id rfl
@[simp] theorem JP {ds} : av (.ptx ds)=false:=_root_.id rfl
@[simp] theorem JK {g ds} : av (.fnx g ds)=false:=_root_.id rfl
@[simp] theorem ON : isO (.any)=false:=_root_.id rfl
@[simp] theorem OQ {k n} : isO (.int k n)=false:=_root_.id rfl
@[simp] theorem Kv {b} : isO (.bool b)=false:=_root_.id rfl
@[simp] theorem OX {s} : isO (.str s)=false:=_root_.id rfl
@[simp] theorem Kw : isO (.nilp)=false:=_root_.id rfl
@[simp] theorem Kx : isO (.nils)=false:=_root_.id rfl
@[simp] theorem OL {ds} : isO (.agg ds)=false:=_root_.id rfl
@[simp] theorem OZ {ds} : isO (.tup ds)=false:=_root_.id rfl
@[simp] theorem Sb {es} : isO (.sl es)=false:=_root_.id rfl
@[simp] theorem OT {ds} : isO (.ptr ds)=false:=_root_.id rfl
@[simp] theorem R9 {g ds} : isO (.fn g ds)=false:=_root_.id rfl
@[simp] theorem OS {sz es} : isO (.own sz es)=true:=_root_.id rfl
@[simp] theorem OO {sz es} : isO (.blk sz es)=false:=_root_.id rfl
@[simp] theorem Sa {kt et ks vs} : isO (.mp kt et ks vs)=false:=_root_.id rfl
@[simp] theorem OR {b} : isO (.mrf b)=false:=_root_.id rfl
@[simp] theorem OV {p k n} : isO (.ref p k n)=false:=_root_.id rfl
@[simp] theorem OK {p i off} : isO (.adr p i off)=false:=_root_.id rfl
@[simp] theorem OM {ds} : isO (.agx ds)=false:=_root_.id rfl
@[simp] theorem OY {ds} : isO (.tpx ds)=false:=_root_.id rfl
@[simp] theorem OU {ds} : isO (.ptx ds)=false:=_root_.id rfl
@[simp] theorem OP {g ds} : isO (.fnx g ds)=false:=_root_.id rfl
@[simp] theorem JY : bk (.any)=true:=_root_.id rfl
@[simp] theorem J1 {k n} : bk (.int k n)=true:=_root_.id rfl
@[simp] theorem Gu {b} : bk (.bool b)=true:=_root_.id rfl
@[simp] theorem J7 {s} : bk (.str s)=true:=_root_.id rfl
@[simp] theorem Gw : bk (.nilp)=true:=_root_.id rfl
@[simp] theorem Gx : bk (.nils)=true:=_root_.id rfl
@[simp] theorem JW {ds} : bk (.agg ds)=false:=_root_.id rfl
@[simp] theorem J9 {ds} : bk (.tup ds)=false:=_root_.id rfl
@[simp] theorem N6 {es} : bk (.sl es)=false:=_root_.id rfl
@[simp] theorem J4 {ds} : bk (.ptr ds)=false:=_root_.id rfl
@[simp] theorem N4 {g ds} : bk (.fn g ds)=false:=_root_.id rfl
@[simp] theorem J3 {sz es} : bk (.own sz es)=false:=_root_.id rfl
@[simp] theorem JZ {sz es} : bk (.blk sz es)=false:=_root_.id rfl
@[simp] theorem N5 {kt et ks vs} : bk (.mp kt et ks vs)=false:=_root_.id rfl
@[simp] theorem J2 {b} : bk (.mrf b)=false:=_root_.id rfl
@[simp] theorem J6 {p k n} : bk (.ref p k n)=false:=_root_.id rfl
@[simp] theorem JV {p i off} : bk (.adr p i off)=false:=_root_.id rfl
@[simp] theorem JX {ds} : bk (.agx ds)=false:=_root_.id rfl
@[simp] theorem J8 {ds} : bk (.tpx ds)=false:=_root_.id rfl
@[simp] theorem J5 {ds} : bk (.ptx ds)=false:=_root_.id rfl
@[simp] theorem J0 {g ds} : bk (.fnx g ds)=false:=_root_.id rfl
@[simp] theorem Kd : fa (.any)=true:=_root_.id rfl
@[simp] theorem Kg {k n} : fa (.int k n)=true:=_root_.id rfl
@[simp] theorem Gy {b} : fa (.bool b)=true:=_root_.id rfl
@[simp] theorem Km {s} : fa (.str s)=true:=_root_.id rfl
@[simp] theorem Gz : fa (.nilp)=true:=_root_.id rfl
@[simp] theorem GA : fa (.nils)=true:=_root_.id rfl
@[simp] theorem Kb {ds} : fa (.agg ds)=ds.all bk:=_root_.id rfl
@[simp] theorem Ko {ds} : fa (.tup ds)=false:=_root_.id rfl
@[simp] theorem N9 {es} : fa (.sl es)=false:=_root_.id rfl
@[simp] theorem Kj {ds} : fa (.ptr ds)=false:=_root_.id rfl
@[simp] theorem N7 {g ds} : fa (.fn g ds)=false:=_root_.id rfl
@[simp] theorem Ki {sz es} : fa (.own sz es)=false:=_root_.id rfl
@[simp] theorem Ke {sz es} : fa (.blk sz es)=false:=_root_.id rfl
@[simp] theorem N8 {kt et ks vs} : fa (.mp kt et ks vs)=false:=_root_.id rfl
@[simp] theorem Kh {b} : fa (.mrf b)=false:=_root_.id rfl
@[simp] theorem Kl {p k n} : fa (.ref p k n)=false:=_root_.id rfl
@[simp] theorem Ka {p i off} : fa (.adr p i off)=false:=_root_.id rfl
@[simp] theorem Kc {ds} : fa (.agx ds)=false:=_root_.id rfl
@[simp] theorem Kn {ds} : fa (.tpx ds)=false:=_root_.id rfl
@[simp] theorem Kk {ds} : fa (.ptx ds)=false:=_root_.id rfl
@[simp] theorem Kf {g ds} : fa (.fnx g ds)=false:=_root_.id rfl
@[simp] theorem Od : isF (.any)=true:=_root_.id rfl
@[simp] theorem Oh {k n} : isF (.int k n)=true:=_root_.id rfl
@[simp] theorem Kp {b} : isF (.bool b)=true:=_root_.id rfl
@[simp] theorem Oo {s} : isF (.str s)=true:=_root_.id rfl
@[simp] theorem Kq : isF (.nilp)=true:=_root_.id rfl
@[simp] theorem Kr : isF (.nils)=true:=_root_.id rfl
@[simp] theorem Ob {ds} : isF (.agg ds)=ds.all bk:=_root_.id rfl
@[simp] theorem Ot {ds} : isF (.tup ds)=ds.all fa:=_root_.id rfl
@[simp] theorem R5 {es} : isF (.sl es)=false:=_root_.id rfl
@[simp] theorem Ol {ds} : isF (.ptr ds)=false:=_root_.id rfl
@[simp] theorem R3 {g ds} : isF (.fn g ds)=false:=_root_.id rfl
@[simp] theorem Oj {sz es} : isF (.own sz es)=false:=_root_.id rfl
@[simp] theorem Oe {sz es} : isF (.blk sz es)=false:=_root_.id rfl
@[simp] theorem R4 {kt et ks vs} : isF (.mp kt et ks vs)=false:=_root_.id rfl
@[simp] theorem Oi {b} : isF (.mrf b)=false:=_root_.id rfl
@[simp] theorem On {p k n} : isF (.ref p k n)=false:=_root_.id rfl
@[simp] theorem Oa {p i off} : isF (.adr p i off)=false:=_root_.id rfl
@[simp] theorem Oc {ds} : isF (.agx ds)=false:=_root_.id rfl
@[simp] theorem Oq {ds} : isF (.tpx ds)=false:=_root_.id rfl
@[simp] theorem Om {ds} : isF (.ptx ds)=false:=_root_.id rfl
@[simp] theorem Og {g ds} : isF (.fnx g ds)=false:=_root_.id rfl
@[simp] theorem NO : isB (.any)=false:=_root_.id rfl
@[simp] theorem NR {k n} : isB (.int k n)=false:=_root_.id rfl
@[simp] theorem JC {b} : isB (.bool b)=false:=_root_.id rfl
@[simp] theorem NY {s} : isB (.str s)=false:=_root_.id rfl
@[simp] theorem JD : isB (.nilp)=false:=_root_.id rfl
@[simp] theorem JE : isB (.nils)=false:=_root_.id rfl
@[simp] theorem NM {ds} : isB (.agg ds)=false:=_root_.id rfl
@[simp] theorem N0 {ds} : isB (.tup ds)=false:=_root_.id rfl
@[simp] theorem R2 {es} : isB (.sl es)=false:=_root_.id rfl
@[simp] theorem NU {ds} : isB (.ptr ds)=false:=_root_.id rfl
@[simp] theorem R0 {g ds} : isB (.fn g ds)=false:=_root_.id rfl
@[simp] theorem NT {sz es} : isB (.own sz es)=false:=_root_.id rfl
@[simp] theorem NP {sz es} : isB (.blk sz es)=true:=_root_.id rfl
@[simp] theorem R1 {kt et ks vs} : isB (.mp kt et ks vs)=true:=_root_.id rfl
@[simp] theorem NS {b} : isB (.mrf b)=false:=_root_.id rfl
@[simp] theorem NW {p k n} : isB (.ref p k n)=false:=_root_.id rfl
@[simp] theorem NL {p i off} : isB (.adr p i off)=false:=_root_.id rfl
@[simp] theorem NN {ds} : isB (.agx ds)=false:=_root_.id rfl
@[simp] theorem NZ {ds} : isB (.tpx ds)=false:=_root_.id rfl
@[simp] theorem NV {ds} : isB (.ptx ds)=false:=_root_.id rfl
@[simp] theorem NQ {g ds} : isB (.fnx g ds)=false:=_root_.id rfl
@[simp] theorem Gd : cQ (.any)=true:=_root_.id rfl
@[simp] theorem Gg {k n} : cQ (.int k n)=false:=_root_.id rfl
@[simp] theorem Dx {b} : cQ (.bool b)=false:=_root_.id rfl
@[simp] theorem Gn {s} : cQ (.str s)=false:=_root_.id rfl
@[simp] theorem Dy : cQ (.nilp)=false:=_root_.id rfl
@[simp] theorem Dz : cQ (.nils)=false:=_root_.id rfl
@[simp] theorem Gb {ds} : cQ (.agg ds)=false:=_root_.id rfl
@[simp] theorem Gq {ds} : cQ (.tup ds)=false:=_root_.id rfl
@[simp] theorem JB {es} : cQ (.sl es)=false:=_root_.id rfl
@[simp] theorem Gj {ds} : cQ (.ptr ds)=false:=_root_.id rfl
@[simp] theorem Jz {g ds} : cQ (.fn g ds)=false:=_root_.id rfl
@[simp] theorem Gi {sz es} : cQ (.own sz es)=false:=_root_.id rfl
@[simp] theorem Ge {sz es} : cQ (.blk sz es)=false:=_root_.id rfl
@[simp] theorem JA {kt et ks vs} : cQ (.mp kt et ks vs)=false:=_root_.id rfl
@[simp] theorem Gh {b} : cQ (.mrf b)=false:=_root_.id rfl
@[simp] theorem Gl {p k n} : cQ (.ref p k n)=false:=_root_.id rfl
@[simp] theorem Ga {p i off} : cQ (.adr p i off)=false:=_root_.id rfl
@[simp] theorem Gc {ds} : cQ (.agx ds)=false:=_root_.id rfl
@[simp] theorem Gp {ds} : cQ (.tpx ds)=false:=_root_.id rfl
@[simp] theorem Gk {ds} : cQ (.ptx ds)=false:=_root_.id rfl
@[simp] theorem Gf {g ds} : cQ (.fnx g ds)=false:=_root_.id rfl
@[simp] theorem Bu : cellsOf (.any)=[.any]:=_root_.id rfl
@[simp] theorem Bx {k n} : cellsOf (.int k n)=[.int k n]:=_root_.id rfl
@[simp] theorem yX {b} : cellsOf (.bool b)=[.bool b]:=_root_.id rfl
@[simp] theorem BE {s} : cellsOf (.str s)=[.str s]:=_root_.id rfl
@[simp] theorem yY : cellsOf (.nilp)=[.nilp]:=_root_.id rfl
@[simp] theorem yZ : cellsOf (.nils)=[.nils]:=_root_.id rfl
@[simp] theorem Bs {ds} : cellsOf (.agg ds)=ds:=_root_.id rfl
@[simp] theorem BG {ds} : cellsOf (.tup ds)=[.tup ds]:=_root_.id rfl
@[simp] theorem C0 {es} : cellsOf (.sl es)=[.sl es]:=_root_.id rfl
@[simp] theorem BA {ds} : cellsOf (.ptr ds)=[.ptr ds]:=_root_.id rfl
@[simp] theorem CY {g ds} : cellsOf (.fn g ds)=[.fn g ds]:=_root_.id rfl
@[simp] theorem Bz {sz es} : cellsOf (.own sz es)=[.own sz es]:=_root_.id rfl
@[simp] theorem Bv {sz es} : cellsOf (.blk sz es)=[.blk sz es]:=_root_.id rfl
@[simp] theorem CZ {kt et ks vs} : cellsOf (.mp kt et ks vs)=[.mp kt et ks vs]:=_root_.id rfl
@[simp] theorem By {b} : cellsOf (.mrf b)=[.mrf b]:=_root_.id rfl
@[simp] theorem BC {p k n} : cellsOf (.ref p k n)=[.ref p k n]:=_root_.id rfl
@[simp] theorem Br {p i off} : cellsOf (.adr p i off)=[.adr p i off]:=_root_.id rfl
@[simp] theorem Bt {ds} : cellsOf (.agx ds)=[.agx ds]:=_root_.id rfl
@[simp] theorem BF {ds} : cellsOf (.tpx ds)=[.tpx ds]:=_root_.id rfl
@[simp] theorem BB {ds} : cellsOf (.ptx ds)=[.ptx ds]:=_root_.id rfl
@[simp] theorem Bw {g ds} : cellsOf (.fnx g ds)=[.fnx g ds]:=_root_.id rfl
@[simp] theorem EY : co (.any)=.any:=_root_.id rfl
@[simp] theorem E1 {k n} : co (.int k n)=.int k n:=_root_.id rfl
@[simp] theorem CL {b} : co (.bool b)=.bool b:=_root_.id rfl
@[simp] theorem Fa {s} : co (.str s)=.str s:=_root_.id rfl
@[simp] theorem CM : co (.nilp)=.nilp:=_root_.id rfl
@[simp] theorem CN : co (.nils)=.nils:=_root_.id rfl
@[simp] theorem EW {ds} : co (.agg ds)=.agg ds:=_root_.id rfl
@[simp] theorem Fc {ds} : co (.tup ds)=.tup ds:=_root_.id rfl
@[simp] theorem HO {es} : co (.sl es)=.sl es:=_root_.id rfl
@[simp] theorem E6 {ds} : co (.ptr ds)=.ptr ds:=_root_.id rfl
@[simp] theorem HM {g ds} : co (.fn g ds)=.fn g ds:=_root_.id rfl
@[simp] theorem E5 {sz es} : co (.own sz es)=.own sz es:=_root_.id rfl
@[simp] theorem EZ {sz es} : co (.blk sz es)=.blk sz es:=_root_.id rfl
@[simp] theorem HN {kt et ks vs} : co (.mp kt et ks vs)=.mp kt et ks vs:=_root_.id rfl
@[simp] theorem E4 {b} : co (.mrf b)=.mrf b:=_root_.id rfl
@[simp] theorem E8 {p k n} : co (.ref p k n)=.ref p k n:=_root_.id rfl
@[simp] theorem EV {p i off} : co (.adr p i off)=.adr p i off:=_root_.id rfl
@[simp] theorem EX {ds} : co (.agx ds)=.agg ds:=_root_.id rfl
@[simp] theorem Fb {ds} : co (.tpx ds)=.tpx ds:=_root_.id rfl
@[simp] theorem E7 {ds} : co (.ptx ds)=.ptx ds:=_root_.id rfl
@[simp] theorem E0 {g ds} : co (.fnx g ds)=.fnx g ds:=_root_.id rfl
@[simp] theorem Fr : aH (.any)=.any:=_root_.id rfl
@[simp] theorem Fu {k n} : aH (.int k n)=.int k n:=_root_.id rfl
@[simp] theorem CV {b} : aH (.bool b)=.bool b:=_root_.id rfl
@[simp] theorem FB {s} : aH (.str s)=.str s:=_root_.id rfl
@[simp] theorem CW : aH (.nilp)=.nilp:=_root_.id rfl
@[simp] theorem CX : aH (.nils)=.nils:=_root_.id rfl
@[simp] theorem Fp {ds} : aH (.agg ds)=.agg ds:=_root_.id rfl
@[simp] theorem FD {ds} : aH (.tup ds)=.tup ds:=_root_.id rfl
@[simp] theorem Is {es} : aH (.sl es)=.sl es:=_root_.id rfl
@[simp] theorem Fx {ds} : aH (.ptr ds)=.ptr ds:=_root_.id rfl
@[simp] theorem Iq {g ds} : aH (.fn g ds)=.fn g ds:=_root_.id rfl
@[simp] theorem Fw {sz es} : aH (.own sz es)=.sl es:=_root_.id rfl
@[simp] theorem Fs {sz es} : aH (.blk sz es)=.blk sz es:=_root_.id rfl
@[simp] theorem Ir {kt et ks vs} : aH (.mp kt et ks vs)=.mp kt et ks vs:=_root_.id rfl
@[simp] theorem Fv {b} : aH (.mrf b)=.mrf b:=_root_.id rfl
@[simp] theorem Fz {p k n} : aH (.ref p k n)=.ref p k n:=_root_.id rfl
@[simp] theorem Fo {p i off} : aH (.adr p i off)=.adr p i off:=_root_.id rfl
@[simp] theorem Fq {ds} : aH (.agx ds)=.agx ds:=_root_.id rfl
@[simp] theorem FC {ds} : aH (.tpx ds)=.tpx ds:=_root_.id rfl
@[simp] theorem Fy {ds} : aH (.ptx ds)=.ptx ds:=_root_.id rfl
@[simp] theorem Ft {g ds} : aH (.fnx g ds)=.fnx g ds:=_root_.id rfl
@[simp] theorem BW : aL (.any)=[]:=_root_.id rfl
@[simp] theorem BZ {k n} : aL (.int k n)=[]:=_root_.id rfl
@[simp] theorem Am {b} : aL (.bool b)=[]:=_root_.id rfl
@[simp] theorem Cg {s} : aL (.str s)=[]:=_root_.id rfl
@[simp] theorem An : aL (.nilp)=[]:=_root_.id rfl
@[simp] theorem Ao : aL (.nils)=[]:=_root_.id rfl
@[simp] theorem BU {ds} : aL (.agg ds)=[]:=_root_.id rfl
@[simp] theorem Cj {ds} : aL (.tup ds)=[]:=_root_.id rfl
@[simp] theorem DT {es} : aL (.sl es)=[]:=_root_.id rfl
@[simp] theorem Cc {ds} : aL (.ptr ds)=[]:=_root_.id rfl
@[simp] theorem DR {g ds} : aL (.fn g ds)=[]:=_root_.id rfl
@[simp] theorem Cb {sz es} : aL (.own sz es)=[]:=_root_.id rfl
@[simp] theorem BX {sz es} : aL (.blk sz es)=[]:=_root_.id rfl
@[simp] theorem DS {kt et ks vs} : aL (.mp kt et ks vs)=[]:=_root_.id rfl
@[simp] theorem Ca {b} : aL (.mrf b)=[b]:=_root_.id rfl
@[simp] theorem Ce {p k n} : aL (.ref p k n)=[p.root]:=_root_.id rfl
@[simp] theorem BT {p i off} : aL (.adr p i off)=[p.root]:=_root_.id rfl
@[simp] theorem BV {ds} : aL (.agx ds)=[]:=_root_.id rfl
@[simp] theorem Ci {ds} : aL (.tpx ds)=[]:=_root_.id rfl
@[simp] theorem Cd {ds} : aL (.ptx ds)=[]:=_root_.id rfl
@[simp] theorem BY {g ds} : aL (.fnx g ds)=[]:=_root_.id rfl
@[simp] theorem DX : bF (.any)=[]:=_root_.id rfl
@[simp] theorem D0 {k n} : bF (.int k n)=[]:=_root_.id rfl
@[simp] theorem Ck {b} : bF (.bool b)=[]:=_root_.id rfl
@[simp] theorem D7 {s} : bF (.str s)=[]:=_root_.id rfl
@[simp] theorem Cl : bF (.nilp)=[]:=_root_.id rfl
@[simp] theorem Cm : bF (.nils)=[]:=_root_.id rfl
@[simp] theorem DV {ds} : bF (.agg ds)=[]:=_root_.id rfl
@[simp] theorem D9 {ds} : bF (.tup ds)=[]:=_root_.id rfl
@[simp] theorem G6 {es} : bF (.sl es)=[]:=_root_.id rfl
@[simp] theorem D3 {ds} : bF (.ptr ds)=[]:=_root_.id rfl
@[simp] theorem G4 {g ds} : bF (.fn g ds)=[]:=_root_.id rfl
@[simp] theorem D2 {sz es} : bF (.own sz es)=[]:=_root_.id rfl
@[simp] theorem DY {sz es} : bF (.blk sz es)=[]:=_root_.id rfl
@[simp] theorem G5 {kt et ks vs} : bF (.mp kt et ks vs)=[]:=_root_.id rfl
@[simp] theorem D1 {b} : bF (.mrf b)=[b]:=_root_.id rfl
@[simp] theorem D5 {p k n} : bF (.ref p k n)=[p.root]:=_root_.id rfl
@[simp] theorem DU {p i off} : bF (.adr p i off)=[p.root]:=_root_.id rfl
@[simp] theorem DW {ds} : bF (.agx ds)=ds.flatMap aL:=_root_.id rfl
@[simp] theorem D8 {ds} : bF (.tpx ds)=ds.flatMap aL:=_root_.id rfl
@[simp] theorem D4 {ds} : bF (.ptx ds)=ds.flatMap aL:=_root_.id rfl
@[simp] theorem DZ {g ds} : bF (.fnx g ds)=ds.flatMap aL:=_root_.id rfl
@[simp] theorem Nf {f : Nat -> D} : dp1 f (.any)=(.any):=_root_.id rfl
@[simp] theorem Ni {f : Nat -> D} {k n} : dp1 f (.int k n)=(.int k n):=_root_.id rfl
@[simp] theorem IE {f : Nat -> D} {b} : dp1 f (.bool b)=(.bool b):=_root_.id rfl
@[simp] theorem Nq {f : Nat -> D} {s} : dp1 f (.str s)=(.str s):=_root_.id rfl
@[simp] theorem IF {f : Nat -> D} : dp1 f (.nilp)=(.nilp):=_root_.id rfl
@[simp] theorem IG {f : Nat -> D} : dp1 f (.nils)=(.nils):=_root_.id rfl
@[simp] theorem Nc {f : Nat -> D} {ds} : dp1 f (.agg ds)=(.agg ds):=_root_.id rfl
@[simp] theorem Ns {f : Nat -> D} {ds} : dp1 f (.tup ds)=(.tup ds):=_root_.id rfl
@[simp] theorem Rx {f : Nat -> D} {es} : dp1 f (.sl es)=(.sl es):=_root_.id rfl
@[simp] theorem Nl {f : Nat -> D} {ds} : dp1 f (.ptr ds)=(.ptr ds):=_root_.id rfl
@[simp] theorem Rv {f : Nat -> D} {g ds} : dp1 f (.fn g ds)=(.fn g ds):=_root_.id rfl
@[simp] theorem Nk {f : Nat -> D} {sz es} : dp1 f (.own sz es)=(.own sz es):=_root_.id rfl
@[simp] theorem Ng {f : Nat -> D} {sz es} : dp1 f (.blk sz es)=(.blk sz es):=_root_.id rfl
@[simp] theorem Rw {f : Nat -> D} {kt et ks vs} : dp1 f (.mp kt et ks vs)=(.mp kt et ks vs):=_root_.id rfl
@[simp] theorem Nj {f : Nat -> D} {b} : dp1 f (.mrf b)=(.mrf b):=_root_.id rfl
@[simp] theorem Nn {f : Nat -> D} {p k n} : dp1 f (.ref p k n)=(match aW f p with | some (_,es)=>.sl (((es.drop k).take n).map fun e=>e.map aH) | none=>.any):=_root_.id rfl
@[simp] theorem Nb {f : Nat -> D} {p i off} : dp1 f (.adr p i off)=(match aW f p with | some (_,es)=>.ptr (((es[i]?.getD []).drop off).map aH) | none=>.any):=_root_.id rfl
@[simp] theorem Nd {f : Nat -> D} {ds} : dp1 f (.agx ds)=(.agx ds):=_root_.id rfl
@[simp] theorem Nr {f : Nat -> D} {ds} : dp1 f (.tpx ds)=(.tpx ds):=_root_.id rfl
@[simp] theorem Nm {f : Nat -> D} {ds} : dp1 f (.ptx ds)=(.ptx ds):=_root_.id rfl
@[simp] theorem Nh {f : Nat -> D} {g ds} : dp1 f (.fnx g ds)=(.fnx g ds):=_root_.id rfl
@[simp] theorem RB {f : Nat -> D} : dp f (.any)=(.any):=_root_.id rfl
@[simp] theorem RE {f : Nat -> D} {k n} : dp f (.int k n)=(.int k n):=_root_.id rfl
@[simp] theorem Nw {f : Nat -> D} {b} : dp f (.bool b)=(.bool b):=_root_.id rfl
@[simp] theorem RM {f : Nat -> D} {s} : dp f (.str s)=(.str s):=_root_.id rfl
@[simp] theorem Nx {f : Nat -> D} : dp f (.nilp)=(.nilp):=_root_.id rfl
@[simp] theorem Ny {f : Nat -> D} : dp f (.nils)=(.nils):=_root_.id rfl
@[simp] theorem Rz {f : Nat -> D} {ds} : dp f (.agg ds)=(.agg ds):=_root_.id rfl
@[simp] theorem RP {f : Nat -> D} {ds} : dp f (.tup ds)=(.tup ds):=_root_.id rfl
@[simp] theorem Ta {f : Nat -> D} {es} : dp f (.sl es)=(.sl es):=_root_.id rfl
@[simp] theorem RH {f : Nat -> D} {ds} : dp f (.ptr ds)=(.ptr ds):=_root_.id rfl
@[simp] theorem S8 {f : Nat -> D} {g ds} : dp f (.fn g ds)=(.fn g ds):=_root_.id rfl
@[simp] theorem RG {f : Nat -> D} {sz es} : dp f (.own sz es)=(.own sz es):=_root_.id rfl
@[simp] theorem RC {f : Nat -> D} {sz es} : dp f (.blk sz es)=(.blk sz es):=_root_.id rfl
@[simp] theorem S9 {f : Nat -> D} {kt et ks vs} : dp f (.mp kt et ks vs)=(.mp kt et ks vs):=_root_.id rfl
@[simp] theorem RF {f : Nat -> D} {b} : dp f (.mrf b)=(.mrf b):=_root_.id rfl
@[simp] theorem RJ {f : Nat -> D} {p k n} : dp f (.ref p k n)=(match aW f p with | some (_,es)=>.sl (((es.drop k).take n).map fun e=>e.map aH) | none=>.any):=_root_.id rfl
@[simp] theorem Ry {f : Nat -> D} {p i off} : dp f (.adr p i off)=(match aW f p with | some (_,es)=>.ptr (((es[i]?.getD []).drop off).map aH) | none=>.any):=_root_.id rfl
@[simp] theorem RA {f : Nat -> D} {ds} : dp f (.agx ds)=(.agg (ds.map (dp1 f))):=_root_.id rfl
@[simp] theorem RO {f : Nat -> D} {ds} : dp f (.tpx ds)=(.tup (ds.map (dp1 f))):=_root_.id rfl
@[simp] theorem RI {f : Nat -> D} {ds} : dp f (.ptx ds)=(.ptr (ds.map (dp1 f))):=_root_.id rfl
@[simp] theorem RD {f : Nat -> D} {g ds} : dp f (.fnx g ds)=(.fn g (ds.map (dp1 f))):=_root_.id rfl
@[simp] theorem FJ {f : Nat -> D} : aO f (.any)=(True):=_root_.id rfl
@[simp] theorem FM {f : Nat -> D} {k n} : aO f (.int k n)=(True):=_root_.id rfl
@[simp] theorem Dc {f : Nat -> D} {b} : aO f (.bool b)=(True):=_root_.id rfl
@[simp] theorem FT {f : Nat -> D} {s} : aO f (.str s)=(True):=_root_.id rfl
@[simp] theorem Dd {f : Nat -> D} : aO f (.nilp)=(True):=_root_.id rfl
@[simp] theorem De {f : Nat -> D} : aO f (.nils)=(True):=_root_.id rfl
@[simp] theorem FH {f : Nat -> D} {ds} : aO f (.agg ds)=(True):=_root_.id rfl
@[simp] theorem FV {f : Nat -> D} {ds} : aO f (.tup ds)=(True):=_root_.id rfl
@[simp] theorem IJ {f : Nat -> D} {es} : aO f (.sl es)=(True):=_root_.id rfl
@[simp] theorem FP {f : Nat -> D} {ds} : aO f (.ptr ds)=(True):=_root_.id rfl
@[simp] theorem IH {f : Nat -> D} {g ds} : aO f (.fn g ds)=(True):=_root_.id rfl
@[simp] theorem FO {f : Nat -> D} {sz es} : aO f (.own sz es)=(True):=_root_.id rfl
@[simp] theorem FK {f : Nat -> D} {sz es} : aO f (.blk sz es)=(True):=_root_.id rfl
@[simp] theorem II {f : Nat -> D} {kt et ks vs} : aO f (.mp kt et ks vs)=(True):=_root_.id rfl
@[simp] theorem FN {f : Nat -> D} {b} : aO f (.mrf b)=(False):=_root_.id rfl
@[simp] theorem FR {f : Nat -> D} {p k n} : aO f (.ref p k n)=(match aW f p with | some (_,es)=>k + n <= es.length | none=>False):=_root_.id rfl
@[simp] theorem FG {f : Nat -> D} {p i off} : aO f (.adr p i off)=(match aW f p with | some _=>True | none=>False):=_root_.id rfl
@[simp] theorem FI {f : Nat -> D} {ds} : aO f (.agx ds)=(True):=_root_.id rfl
@[simp] theorem FU {f : Nat -> D} {ds} : aO f (.tpx ds)=(True):=_root_.id rfl
@[simp] theorem FQ {f : Nat -> D} {ds} : aO f (.ptx ds)=(True):=_root_.id rfl
@[simp] theorem FL {f : Nat -> D} {g ds} : aO f (.fnx g ds)=(True):=_root_.id rfl
@[simp] theorem IO {f : Nat -> D} : bD f (.any)=(True):=_root_.id rfl
@[simp] theorem IR {f : Nat -> D} {k n} : bD f (.int k n)=(True):=_root_.id rfl
@[simp] theorem FW {f : Nat -> D} {b} : bD f (.bool b)=(True):=_root_.id rfl
@[simp] theorem IY {f : Nat -> D} {s} : bD f (.str s)=(True):=_root_.id rfl
@[simp] theorem FX {f : Nat -> D} : bD f (.nilp)=(True):=_root_.id rfl
@[simp] theorem FY {f : Nat -> D} : bD f (.nils)=(True):=_root_.id rfl
@[simp] theorem IL {f : Nat -> D} {ds} : bD f (.agg ds)=(True):=_root_.id rfl
@[simp] theorem I0 {f : Nat -> D} {ds} : bD f (.tup ds)=(True):=_root_.id rfl
@[simp] theorem Nv {f : Nat -> D} {es} : bD f (.sl es)=(True):=_root_.id rfl
@[simp] theorem IU {f : Nat -> D} {ds} : bD f (.ptr ds)=(True):=_root_.id rfl
@[simp] theorem Nt {f : Nat -> D} {g ds} : bD f (.fn g ds)=(True):=_root_.id rfl
@[simp] theorem IT {f : Nat -> D} {sz es} : bD f (.own sz es)=(True):=_root_.id rfl
@[simp] theorem IP {f : Nat -> D} {sz es} : bD f (.blk sz es)=(True):=_root_.id rfl
@[simp] theorem Nu {f : Nat -> D} {kt et ks vs} : bD f (.mp kt et ks vs)=(True):=_root_.id rfl
@[simp] theorem IS {f : Nat -> D} {b} : bD f (.mrf b)=(False):=_root_.id rfl
@[simp] theorem IW {f : Nat -> D} {p k n} : bD f (.ref p k n)=(match aW f p with | some (_,es)=>k + n <= es.length | none=>False):=_root_.id rfl
@[simp] theorem IK {f : Nat -> D} {p i off} : bD f (.adr p i off)=(match aW f p with | some _=>True | none=>False):=_root_.id rfl
@[simp] theorem IM {f : Nat -> D} {ds} : bD f (.agx ds)=(∀ d ∈ ds,aO f d):=_root_.id rfl
@[simp] theorem IZ {f : Nat -> D} {ds} : bD f (.tpx ds)=(∀ d ∈ ds,aO f d):=_root_.id rfl
@[simp] theorem IV {f : Nat -> D} {ds} : bD f (.ptx ds)=(∀ d ∈ ds,aO f d):=_root_.id rfl
@[simp] theorem IQ {f : Nat -> D} {g ds} : bD f (.fnx g ds)=(∀ d ∈ ds,aO f d):=_root_.id rfl
@[simp] theorem PR {p i0 o} : ldc p i0 o (.any)=.any:=_root_.id rfl
@[simp] theorem Lx {m} : dJ m (.any)=.any:=_root_.id rfl
@[simp] theorem PU {p i0 o k n} : ldc p i0 o (.int k n)=.int k n:=_root_.id rfl
@[simp] theorem LB {m k n} : dJ m (.int k n)=.int k n:=_root_.id rfl
@[simp] theorem KR {p i0 o b} : ldc p i0 o (.bool b)=.bool b:=_root_.id rfl
@[simp] theorem G7 {m b} : dJ m (.bool b)=.bool b:=_root_.id rfl
@[simp] theorem P8 {p i0 o s} : ldc p i0 o (.str s)=.str s:=_root_.id rfl
@[simp] theorem LH {m s} : dJ m (.str s)=.str s:=_root_.id rfl
@[simp] theorem KS {p i0 o} : ldc p i0 o (.nilp)=.nilp:=_root_.id rfl
@[simp] theorem G8 {m} : dJ m (.nilp)=.nilp:=_root_.id rfl
@[simp] theorem KU {p i0 o} : ldc p i0 o (.nils)=.nils:=_root_.id rfl
@[simp] theorem PP {p i0 o ds} : ldc p i0 o (.agg ds)=.agg ds:=_root_.id rfl
@[simp] theorem Lv {m ds} : dJ m (.agg ds)=.agg ds:=_root_.id rfl
@[simp] theorem Qa {p i0 o ds} : ldc p i0 o (.tup ds)=.tup ds:=_root_.id rfl
@[simp] theorem LJ {m ds} : dJ m (.tup ds)=.tup ds:=_root_.id rfl
@[simp] theorem Sw {p i0 o es} : ldc p i0 o (.sl es)=.sl es:=_root_.id rfl
@[simp] theorem Qj {m es} : dJ m (.sl es)=.sl es:=_root_.id rfl
@[simp] theorem PX {p i0 o ds} : ldc p i0 o (.ptr ds)=.ptr ds:=_root_.id rfl
@[simp] theorem LE {m ds} : dJ m (.ptr ds)=.ptr ds:=_root_.id rfl
@[simp] theorem Su {p i0 o g ds} : ldc p i0 o (.fn g ds)=.fn g ds:=_root_.id rfl
@[simp] theorem Qh {m g ds} : dJ m (.fn g ds)=.fn g ds:=_root_.id rfl
@[simp] theorem PW {c i o sz es} : ldc (.r c) i o (.own sz es)=.ref (.n c i o) 0 es.length:=_root_.id rfl
@[simp] theorem LD {m sz es} : dJ m (.own sz es)=.own sz es:=_root_.id rfl
@[simp] theorem PS {p i0 o sz es} : ldc p i0 o (.blk sz es)=.blk sz es:=_root_.id rfl
@[simp] theorem Lz {m sz es} : dJ m (.blk sz es)=.blk sz es:=_root_.id rfl
@[simp] theorem Sv {p i0 o kt et ks vs} : ldc p i0 o (.mp kt et ks vs)=.mp kt et ks vs:=_root_.id rfl
@[simp] theorem Qi {m kt et ks vs} : dJ m (.mp kt et ks vs)=.mp kt et ks vs:=_root_.id rfl
@[simp] theorem PV {p i0 o b} : ldc p i0 o (.mrf b)=.mrf b:=_root_.id rfl
@[simp] theorem LC {m b} : dJ m (.mrf b)=.mrf b:=_root_.id rfl
@[simp] theorem PZ {p i0 o q k n} : ldc p i0 o (.ref q k n)=.ref q k n:=_root_.id rfl
@[simp] theorem LG {m q k n} : dJ m (.ref q k n)=.ref q k n:=_root_.id rfl
@[simp] theorem PO {p i0 o q i off} : ldc p i0 o (.adr q i off)=.adr q i off:=_root_.id rfl
@[simp] theorem Lu {m q i off} : dJ m (.adr q i off)=.adr q i off:=_root_.id rfl
@[simp] theorem PQ {p i0 o ds} : ldc p i0 o (.agx ds)=.agx ds:=_root_.id rfl
@[simp] theorem Lw {m ds} : dJ m (.agx ds)=.agx ds:=_root_.id rfl
@[simp] theorem P9 {p i0 o ds} : ldc p i0 o (.tpx ds)=.tpx ds:=_root_.id rfl
@[simp] theorem LI {m ds} : dJ m (.tpx ds)=.tpx ds:=_root_.id rfl
@[simp] theorem PY {p i0 o ds} : ldc p i0 o (.ptx ds)=.ptx ds:=_root_.id rfl
@[simp] theorem LF {m ds} : dJ m (.ptx ds)=.ptx ds:=_root_.id rfl
@[simp] theorem PT {p i0 o g ds} : ldc p i0 o (.fnx g ds)=.fnx g ds:=_root_.id rfl
@[simp] theorem LA {m g ds} : dJ m (.fnx g ds)=.fnx g ds:=_root_.id rfl
@[simp] theorem G9 {m} : dJ m .nils=if m=0 then .nils else .own m []:=_root_.id rfl
def slx (b : Bool) (es : List (List D)) : D:=match b,es with
 | true,[]=>.nils
 | _,es=>.sl es
@[simp] theorem bu {es} : slx false es=.sl es:=by cases es <;> rfl
@[simp] theorem Mu {b x es} : slx b (x::es)=.sl (x::es):=by cases b <;> rfl
theorem gR (b : Bool) (es : List (List D)) : slx b es=.sl es \/ (slx b es=.nils /\ es=[]):=by cases b <;> cases es <;> simp [slx]
@[simp] theorem PJ {b es} : isV (slx b es)=true:=by cases b <;> cases es <;> rfl
@[simp] theorem OG {b es} : isK (slx b es)=true:=by cases b <;> cases es <;> rfl
@[simp] theorem Pd {b es} : isP (slx b es)=true:=by cases b <;> cases es <;> rfl
@[simp] theorem Pt {b es} : isS (slx b es)=true:=by cases b <;> cases es <;> rfl
@[simp] theorem JR {b es} : av (slx b es)=true:=by cases b <;> cases es <;> rfl
@[simp] theorem OW {b es} : isO (slx b es)=false:=by cases b <;> cases es <;> rfl
@[simp] theorem Gm {b es} : cQ (slx b es)=false:=by cases b <;> cases es <;> rfl
@[simp] theorem NX {b es} : isB (slx b es)=false:=by cases b <;> cases es <;> rfl
@[simp] theorem BD {b es} : cellsOf (slx b es)=[slx b es]:=by cases b <;> cases es <;> rfl
@[simp] theorem E9 {b es} : co (slx b es)=slx b es:=by cases b <;> cases es <;> rfl
@[simp] theorem FA {b es} : aH (slx b es)=slx b es:=by cases b <;> cases es <;> rfl
@[simp] theorem Cf {b es} : aL (slx b es)=[]:=by cases b <;> cases es <;> rfl
@[simp] theorem D6 {b es} : bF (slx b es)=[]:=by cases b <;> cases es <;> rfl
@[simp] theorem Np {f : Nat -> D} {b es} : dp1 f (slx b es)=slx b es:=by cases b <;> cases es <;> rfl
@[simp] theorem RK {f : Nat -> D} {b es} : dp f (slx b es)=slx b es:=by cases b <;> cases es <;> rfl
@[simp] theorem FS {f : Nat -> D} {b es} : aO f (slx b es)=True:=by cases b <;> cases es <;> rfl
@[simp] theorem IX {f : Nat -> D} {b es} : bD f (slx b es)=True:=by cases b <;> cases es <;> rfl
@[simp] theorem P0 {p i o b es} : ldc p i o (slx b es)=slx b es:=by cases b <;> cases es <;> rfl
def um (d : D) (K : Nat -> Prop) (_ : Tag K) : Prop:=match d with
 | .sl es=>K es.length
 | .nils=>K 0
 | .ref _ _ n=>K n
 | _=>False
@[simp] theorem Qb {es K u} : um (.sl es) K u=K es.length:=_root_.id rfl
@[simp] theorem GU {K u} : um .nils K u=K 0:=_root_.id rfl
@[simp] theorem Ld {p k n K u} : um (.ref p k n) K u=K n:=_root_.id rfl
@[simp] theorem Le {b es K u} : um (slx b es) K u=K es.length:=by cases b <;> cases es <;> rfl
@[simp] theorem Ho {n ds} : l6 true n ds=.agg (ds.take n):=_root_.id rfl
@[simp] theorem Ei {n ds} : l6 false n ds=ds.headD .any:=_root_.id rfl
@[simp] theorem Lk {t} : ab [] t=.any:=rfl
def lk (b : Bool) (d : D) (r : Env) (t : Nat) : D:=match b with
 | true=>d
 | false=>ab r t
@[simp] theorem Qc {d r t} : lk true d r t=d:=rfl
@[simp] theorem Lg {d r t} : lk false d r t=ab r t:=rfl
@[simp] theorem GV {s d r t} : ab ((s,d)::r) t=lk (s == t) d r t:=by
 by_cases h : s=t
 ·subst h;simp [ab]
 ·rw [show (s == t)=false by simp [h]];simp [ab,h]
@[simp] theorem GB {e} : qa [] e=[]:=_root_.id rfl
@[simp] theorem DA {t ts e} : qa (t::ts) e=(t,ab e t)::qa ts e:=_root_.id rfl
@[simp] theorem Cs : mm []=[]:=_root_.id rfl
@[simp] theorem AB {t d r} : mm ((t,d)::r)=bF d++mm r:=_root_.id rfl
@[simp] theorem HL {e ks} : tG e [] ks=ks:=_root_.id rfl
@[simp] theorem EU {e r rs ks} : tG e (r::rs) ks=tG e rs (if (ks.map (·.1)).contains r then ks else ks++[(r,ab e r)]):=_root_.id rfl
def gx (f : Nat -> D) (d : D) (ns : List Nat) (K : List D -> List Nat -> Prop) (_ : Tag K) : Prop:=fF f d ns K
def f5 (f : Nat -> D) (d : D) (K : D -> List Nat -> Prop) (_ : Tag K) : Prop:=cV f d K
def pB (f : Nat -> D) (ds : List D) (K : List D -> List Nat -> Prop) (_ : Tag K) : Prop:=f6 f ds K
def vE (b n : Nat) (x : D) (K : D -> List Nat -> Prop) (_ : Tag K) : Prop:=match x with
 | .blk sz es=>es.length=n /\ (∀ e ∈ es,∀ c ∈ e,av c=true) /\ K (.own sz es) [b]
 | _=>False
@[simp] theorem Hz {b n sz es K u} : vE b n (.blk sz es) K u=(es.length=n /\ (∀ e ∈ es,∀ c ∈ e,av c=true) /\ K (.own sz es) [b]):=_root_.id rfl
theorem ew {f : Nat -> D} {d : D} {K : D -> List Nat -> Prop} {u} (h : av d=true) : f5 f d K u=K d []:=by
 cases d <;> simp [av] at h <;> simp [f5,cV,av]
@[simp] theorem EN {f b k n K u} : f5 f (.ref (.r b) k n) K u=(k=0 /\ vE b n (f b) K ⟨⟩):=by
 simp only [f5,cV,vE]
 cases f b <;> rfl
theorem fE {f : Nat -> D} {d : D} {K : List D -> List Nat -> Prop} {u} (h : av d=true) : gx f d [] K u=K [d] []:=by
 cases d <;> simp [av] at h <;> simp [gx,fF,cV,av,cT]
@[simp] theorem HC {f ds K u} : gx f (.agg ds) [] K u=((∀ c ∈ ds,av c=true) /\ K ds []):=by simp [gx,fF,cT]
@[simp] theorem HD {f ds K u} : gx f (.agx ds) [] K u=pB f ds (fun cs bs=>bG bs=true /\ K cs bs) ⟨⟩:=by simp [gx,pB,fF,cT]
@[simp] theorem HG {f b k n K u} : gx f (.ref (.r b) k n) [] K u=(k=0 /\ vE b n (f b) (fun c bs=>K [c] bs) ⟨⟩):=by
 simp only [gx,fF,cV,vE,cT,if_true,true_or,true_and]
 cases f b <;> rfl
@[simp] theorem EQ {f K u} : pB f [] K u=K [] []:=_root_.id rfl
@[simp] theorem CK {f d ds K u} : pB f (d::ds) K u=f5 f d (fun c bs=>pB f ds (fun cs bs'=>K (c::cs) (bs++bs')) ⟨⟩) ⟨⟩:=_root_.id rfl
@[simp] theorem EL {f k n K u} : f5 f (.int k n) K u=K (.int k n) []:=ew rfl
@[simp] theorem HE {f k n K u} : gx f (.int k n) [] K u=K [.int k n] []:=fE rfl
@[simp] theorem CH {f n K u} : f5 f (.bool n) K u=K (.bool n) []:=ew rfl
@[simp] theorem ER {f n K u} : gx f (.bool n) [] K u=K [.bool n] []:=fE rfl
@[simp] theorem EP {f n K u} : f5 f (.str n) K u=K (.str n) []:=ew rfl
@[simp] theorem HI {f n K u} : gx f (.str n) [] K u=K [.str n] []:=fE rfl
@[simp] theorem CI {f  K u} : f5 f .nilp K u=K .nilp []:=ew rfl
@[simp] theorem ES {f  K u} : gx f .nilp [] K u=K [.nilp] []:=fE rfl
@[simp] theorem CJ {f  K u} : f5 f .nils K u=K .nils []:=ew rfl
@[simp] theorem ET {f  K u} : gx f .nils [] K u=K [.nils] []:=fE rfl
@[simp] theorem HB {f n K u} : f5 f (.sl n) K u=K (.sl n) []:=ew rfl
@[simp] theorem MR {f n K u} : gx f (.sl n) [] K u=K [.sl n] []:=fE rfl
@[simp] theorem EM {f n K u} : f5 f (.ptr n) K u=K (.ptr n) []:=ew rfl
@[simp] theorem HF {f n K u} : gx f (.ptr n) [] K u=K [.ptr n] []:=fE rfl
@[simp] theorem HA {f g n K u} : f5 f (.fn g n) K u=K (.fn g n) []:=ew rfl
@[simp] theorem MQ {f g n K u} : gx f (.fn g n) [] K u=K [.fn g n] []:=fE rfl
@[simp] theorem EO {f b n K u} : f5 f (slx b n) K u=K (slx b n) []:=ew (by simp)
@[simp] theorem HH {f b n K u} : gx f (slx b n) [] K u=K [slx b n] []:=fE (by simp)
def pj (f : Nat -> D) (sz : Nat) (ps : List (Nat × Opd)) (es : List (List D)) (bs : List Nat) (K : List (List D) -> List Nat -> Prop) (_ : Tag K) : Prop:=fy f sz [] ps es bs K
@[simp] theorem Ej {f sz es bs K u} : pj f sz [] es bs K u=K es bs:=_root_.id rfl
@[simp] theorem Cp {f sz i x ps es bs K u} : pj f sz ((i,x)::ps) es bs K u=(i < es.length /\ gx f (vd f x) [] (fun cs bs'=>cs.length=sz /\ pj f sz ps (es.set i cs) (bs++bs') K ⟨⟩) ⟨⟩):=_root_.id rfl
def iW (f : Nat -> D) (mv : Bool) (d : D) (sz : Nat) (K : List (List D) -> List Nat -> Prop) (_ : Tag K) : Prop:=fC f mv d sz K
def En (b n sz : Nat) (x : D) (K : List (List D) -> List Nat -> Prop) (_ : Tag K) : Prop:=match x with
 | .blk sz' es=>sz'=sz /\ es.length=n /\ (∀ e ∈ es,∀ c ∈ e,isC c=true) /\ K es [b]
 | _=>False
@[simp] theorem Mf {b n sz sz' es K u} : En b n sz (.blk sz' es) K u=(sz'=sz /\ es.length=n /\ (∀ e ∈ es,∀ c ∈ e,isC c=true) /\ K es [b]):=_root_.id rfl
def Eo (k n sz : Nat) (x : Option (Nat × List (List D))) (K : List (List D) -> List Nat -> Prop) (_ : Tag K) : Prop:=match x with
 | some (sz',es)=>sz'=sz /\ k + n <= es.length /\ (∀ e ∈ (es.drop k).take n,∀ c ∈ e,av c=true) /\ K ((es.drop k).take n) []
 | none=>False
@[simp] theorem Hp {k n sz sz' es K u} : Eo k n sz (some (sz',es)) K u=(sz'=sz /\ k + n <= es.length /\ (∀ e ∈ (es.drop k).take n,∀ c ∈ e,av c=true) /\ K ((es.drop k).take n) []):=_root_.id rfl
@[simp] theorem Ep {f mv sz K u} : iW f mv .nils sz K u=K [] []:=_root_.id rfl
@[simp] theorem Mm {f mv es sz K u} : iW f mv (.sl es) sz K u=((∀ e ∈ es,e.length=sz /\ ∀ c ∈ e,av c=true) /\ K es []):=_root_.id rfl
@[simp] theorem Ht {f mv b es sz K u} : iW f mv (slx b es) sz K u=((∀ e ∈ es,e.length=sz /\ ∀ c ∈ e,av c=true) /\ K es []):=by
 rcases gR b es with h | ⟨h,rfl⟩ <;> rw [h] <;> simp
@[simp] theorem Ml {f b k n sz K u} : iW f true (.ref (.r b) k n) sz K u=(k=0 /\ En b n sz (f b) K ⟨⟩):=by
 simp only [iW,fC,En]
 cases f b <;> rfl
@[simp] theorem Hs {f p k n sz K u} : iW f false (.ref p k n) sz K u=Eo k n sz (aW f p) K ⟨⟩:=by
 simp only [iW,fC,Eo]
 cases aW f p <;> rfl
def dG (f : Nat -> D) (o : Option Opd) (dflt : Nat) (K : Nat -> Prop) (_ : Tag K) : Prop:=dU f o dflt K
def Id (d : D) (K : Nat -> Prop) (_ : Tag K) : Prop:=match d with
 | .int _ n=>0 <= n /\ K n.toNat
 | _=>False
@[simp] theorem Ie {k n K u} : Id (.int k n) K u=(0 <= n /\ K n.toNat):=_root_.id rfl
@[simp] theorem Bo {f n K u} : dG f none n K u=K n:=_root_.id rfl
@[simp] theorem Bp {f x n K u} : dG f (some x) n K u=Id (vd f x) K ⟨⟩:=_root_.id rfl
def go (x : Option (List D)) (K : List D -> Prop) (_ : Tag K) : Prop:=match x with
 | some r=>K r
 | none=>False
@[simp] theorem Hr {r K u} : go (some r) K u=K r:=_root_.id rfl
@[simp] theorem Hq {K u} : go none K u=False:=_root_.id rfl
theorem fI {x : Option (List D)} {K : List D -> Prop} {u} : go x K u=∃ r,x=some r /\ K r:=by
 cases x <;> simp [go]
def jX (x : Option D) (K : Nat -> List (List D) -> Prop) (_ : Tag K) : Prop:=match x with
 | some (.own sz es)=>K sz es
 | _=>False
@[simp] theorem Mc {sz es K u} : jX (some (.own sz es)) K u=K sz es:=_root_.id rfl
theorem js {x : Option D} {K : Nat -> List (List D) -> Prop} {u} : jX x K u=∃ sz es,x=some (.own sz es) /\ K sz es:=by
 cases x with
 | none=>simp [jX]
 | some d =>
  cases d <;> simp [jX]
  exact ⟨fun h=>⟨_,_,⟨rfl,rfl⟩,h⟩,by rintro ⟨_,_,⟨rfl,rfl⟩,h⟩;exact h⟩
def yV (x : Option D) (K : D -> Prop) (_ : Tag K) : Prop:=match x with
 | some d=>K d
 | none=>False
@[simp] theorem Fn {d K u} : yV (some d) K u=K d:=_root_.id rfl
theorem yW {x : Option D} {K : D -> Prop} {u} : yV x K u=∃ d,x=some d /\ K d:=by
 cases x <;> simp [yV]
def ev (x : D) (K : Nat -> List (List D) -> Prop) (_ : Tag K) : Prop:=match x with
 | .blk sz es=>K sz es
 | _=>False
@[simp] theorem Ic {sz es K u} : ev (.blk sz es) K u=K sz es:=_root_.id rfl
abbrev CC:=Nat -> List D -> D -> List D -> Prop
abbrev KT:=List (Nat × D) -> List (Nat × Bool) -> Prop
section
variable {C : CC} {Q : bX -> Env -> Prop} {e e' : Env} {d : D}
def wN (C : CC) (c : cy) (Q : bX -> Env -> Prop) (_ : Tag (c,Q)) (e : Env) : Prop:=wpN C c Q e
def sX (C : CC) (c : cy) (Q : bX -> Env -> Prop) (_ : Tag (c,Q)) (e : Env) : Prop:=wpN C (.loop c) Q e
def uI (C : CC) (K : Env -> Prop) (ns : List aq) (_ : Tag (K,ns)) (e : Env) : Prop:=im C K ns e
def rV (C : CC) (hs : List Nat) (K : Env -> Prop) (ns : List aq) (_ : Tag (K,ns)) (e : Env) (acc : List (List Nat × List Nat)) : Prop:=jF C hs K ns e acc
def Jx (hs : List Nat) (acc : List (List Nat × List Nat)) : Prop:=ku hs acc.reverse=true
theorem am {hs : List Nat} {acc : List (List Nat × List Nat)} (h : ku hs acc.reverse=true) : Jx hs acc:=h
def BL (C : CC) (K : Env -> Prop) (ns : List aq) (e : Env) : KT:=fun ws ks=>im C K ns (ws++dZ ks e)
def Iu (C : CC) (hs : List Nat) (K : Env -> Prop) (ns : List aq) (e : Env) (R : List Nat) (acc : List (List Nat × List Nat)) : KT:=fun ws ks=>wOk R ws ks=true /\ jF C hs K ns (ws++dZ ks e) ((R,wrK ws ks)::acc)
def doT (C : CC) (K : Env -> Prop) (ns : List aq) (_ : Tag (K,ns)) (e : Env) (ws : List (Nat × D)) (ks : List (Nat × Bool)) : Prop:=im C K ns (ws++dZ ks e)
def bC (Q : bX -> Env -> Prop) (_ : Tag Q) (t : bX) (e : Env) : Prop:=Q t e
def fin (res : List (Nat × Option (Nat × Bool))) (d : D) : bX -> Env -> Prop:=fun t e=>(match t with
   | .ext _=>False
   | _=>True) /\ gh res d e
def AH (C : CC) (y : cy) (Q : bX -> Env -> Prop) : bX -> Env -> Prop:=fun t e'=>match t with
  | .nrm=>wpN C y Q e'
  | t=>Q t e'
def oN (id : Nat) (Q : bX -> Env -> Prop) : bX -> Env -> Prop:=fun t e'=>match t with
  | .ext i=>if i=id then Q .nrm e' else Q (.ext i) e'
  | t=>Q t e'
def Az (keep : List Nat) (Q : bX -> Env -> Prop) : Env -> Prop:=fun e'=>Q .nrm (prune keep e')
def kOf (C : CC) (hs : Option (List Nat)) (K : Env -> Prop) (ns : List aq) (e : Env) (R : List Nat) (acc : List (List Nat × List Nat)) : KT :=
 match hs with
 | none=>BL C K ns e
 | some hs=>Iu C hs K ns e R acc
def doW (C : CC) (hs : Option (List Nat)) (K : Env -> Prop) (ns : List aq) (_ : Tag (hs,K,ns)) (e : Env) (R : List Nat) (acc : List (List Nat × List Nat)) (ws : List (Nat × D)) (ks : List (Nat × Bool)) : Prop:=kOf C hs K ns e R acc ws ks
def opW (C : CC) (hs : Option (List Nat)) (K : Env -> Prop) (ns : List aq) (dst : Option Nat) (op : NOp) (_ : Tag (hs,K,ns,dst,op)) (e : Env) (R : List Nat) (acc : List (List Nat × List Nat)) : Prop:=aA C (ab e) dst (kOf C hs K ns e R acc) op
def dW (C : CC) (hs : Option (List Nat)) (K : Env -> Prop) (ns : List aq) (dst : Option Nat) (_ : Tag (hs,K,ns)) (e : Env) (R : List Nat) (acc : List (List Nat × List Nat)) (d : D) : Prop:=dx dst (kOf C hs K ns e R acc) d
def pG (C : CC) (g : Nat) (hs : Option (List Nat)) (K : Env -> Prop) (ns : List aq) (dst : Option Nat) (_ : Tag (hs,K,ns)) (e : Env) (R : List Nat) (acc : List (List Nat × List Nat)) (pure : Bool) (ds : List D) : Prop :=
 ∃ d,C g ds d [] /\ (isF d=true \/ pure=true) /\ dx dst (kOf C hs K ns e R acc) d
theorem start {prog : Nat -> Option aw} (hC : aj prog C) {g : Nat} {nf : aw} {ds : List D} (hp : prog g=some nf) (hl : ds.length=nf.np) (h : wN C nf.body (fin nf.res d) ⟨⟩ (params 0 ds)) : C g ds d []:=hC.1 g nf ds d hp hl h
def ry (res : List (Nat × Option (Nat × Bool))) (sz : Nat) (es : List (List D)) : bX -> Env -> Prop:=fun t e=>(match t with
   | .ext _=>False
   | _=>True) /\ jZ res sz es e
theorem nw {prog : Nat -> Option aw} (hC : aj prog C) {g : Nat} {nf : aw} {ds : List D} {sz : Nat} {es : List (List D)} (hp : prog g=some nf) (hl : ds.length=nf.np) (h : wN C nf.body (ry nf.res sz es) ⟨⟩ (params 0 ds)) : C g ds .any [.own sz es]:=hC.2.2.1 g nf ds sz es hp hl h
def ua (res : List (Nat × Option (Nat × Bool))) (d : D) : bX -> Env -> Prop:=fun t e=>(match t with
   | .ext _=>False
   | _=>True) /\ jY res d e
def rC (res : List (Nat × Option (Nat × Bool))) (d : D) (sz : Nat) (es' : List (List D)) : bX -> Env -> Prop:=fun t e=>(match t with
   | .ext _=>False
   | _=>True) /\ (0 < es'.length /\ ab e 10015=.blk sz es') /\ gh res d ((10015,.any)::e)
theorem sq {prog : Nat -> Option aw} (hC : aj prog C) {g : Nat} {nf : aw} {ds : List D} {d : D} {sz : Nat} {es es' : List (List D)} (hp : prog g=some nf) (hl : ds.length + 1=nf.np) (h : wN C nf.body (rC nf.res d sz es') ⟨⟩ ((0,.adr (.r 10015) 0 0)::(params 1 ds++[(10015,.blk sz es)]))) : C g (.blk sz es::ds) d [.blk sz es']:=hC.2.2.2.2.1 g nf ds d sz es es' hp hl h
def rA (res : List (Nat × Option (Nat × Bool))) (sz : Nat) (es : List (List D)) : bX -> Env -> Prop:=fun t e=>(match t with
   | .ext _=>False
   | _=>True) /\ j0 res sz es e
theorem yi {prog : Nat -> Option aw} (hC : aj prog C) {g : Nat} {nf : aw} {ds : List D} {sz : Nat} {es es' : List (List D)} (hp : prog g=some nf) (hl : ds.length + 1=nf.np) (hpu : ∀ d ∈ ds,isO d=false) (hsz : 0 < sz) (h : wN C nf.body (rA nf.res sz es') ⟨⟩ ((0,.ref (.r 10015) 0 es.length)::(params 1 ds++[(10015,.blk sz es)]))) : C g (.own sz es::ds) .any [.own sz es',.nils,.nils]:=hC.2.2.2.2.2.1 g nf ds sz es es' hp hl hpu hsz h
def rq (res : List (Nat × Option (Nat × Bool))) (R : D) : bX -> Env -> Prop:=fun t e=>(match t with
   | .ext _=>False
   | _=>True) /\ qE res R e
theorem yh {prog : Nat -> Option aw} (hC : aj prog C) {g : Nat} {nf : aw} {ds : List D} {R : D} (hp : prog g=some nf) (hl : ds.length=nf.np) (hok : okR R=true) (h : wN C nf.body (rq nf.res R) ⟨⟩ (params 0 ds)) : C g ds R [.nils]:=hC.2.2.2.2.2.2 g nf ds R hp hl hok h
def rb (C : CC) (g : Nat) (hs : Option (List Nat)) (K : Env -> Prop) (ns : List aq) (t : Nat) (_ : Tag (hs,K,ns)) (e : Env) (R : List Nat) (acc : List (List Nat × List Nat)) (ds : List D) : Prop :=
 (∃ d,C g ds d [] /\ dx (some t) (kOf C hs K ns e R acc) d) \/ ∃ d,okR d=true /\ C g ds d [.nils] /\ kOf C hs K ns e R acc ((t,dY t d)::aM t d) (dM t d)
theorem jd {g : Nat} {hs : Option (List Nat)} {K : Env -> Prop} {ns : List aq} {t : Nat} {u : Tag (hs,K,ns)} {R : List Nat} {acc : List (List Nat × List Nat)} {ds : List D} {d : D} (h : C g ds d [.nils]) (hok : okR d=true) (hk : doW C hs K ns ⟨⟩ e R acc ((t,dY t d)::aM t d) (dM t d)) : rb C g hs K ns t u e R acc ds:=.inr ⟨d,hok,h,hk⟩
theorem jc {g : Nat} {hs : Option (List Nat)} {K : Env -> Prop} {ns : List aq} {t : Nat} {u : Tag (hs,K,ns)} {R : List Nat} {acc : List (List Nat × List Nat)} {ds : List D} {d : D} (h : C g ds d []) (hk : dW C hs K ns (some t) ⟨⟩ e R acc d) : rb C g hs K ns t u e R acc ds:=.inl ⟨d,h,hk⟩
def CT (C : CC) (g : Nat) (hs : Option (List Nat)) (K : Env -> Prop) (ns : List aq) (dst : Option Nat) (_ : Tag (hs,K,ns)) (e : Env) (R : List Nat) (acc : List (List Nat × List Nat)) (ds : List D) : Prop :=
 ∃ d,C g ds d [.nilp] /\ dx dst (kOf C hs K ns e R acc) d
def vN (C : CC) (g : Nat) (hs : Option (List Nat)) (K : Env -> Prop) (ns : List aq) (t : Nat) (_ : Tag (hs,K,ns)) (e : Env) (R : List Nat) (acc : List (List Nat × List Nat)) (ds : List D) : Prop :=
 ∃ sz es,C g ds .any [.own sz es] /\ kOf C hs K ns e R acc [(t,.ref (.r (rt t 0)) 0 es.length),(rt t 0,.blk sz es)] [(rt t 0,true)]
theorem tM {g : Nat} {hs : Option (List Nat)} {K : Env -> Prop} {ns : List aq} {t : Nat} {u : Tag (hs,K,ns)} {R : List Nat} {acc : List (List Nat × List Nat)} {ds : List D} {sz : Nat} {es : List (List D)} (h : C g ds .any [.own sz es]) (hk : doW C hs K ns ⟨⟩ e R acc [(t,.ref (.r (rt t 0)) 0 es.length),(rt t 0,.blk sz es)] [(rt t 0,true)]) : vN C g hs K ns t u e R acc ds:=⟨sz,es,h,hk⟩
def rf (C : CC) (g : Nat) (hs : Option (List Nat)) (K : Env -> Prop) (ns : List aq) (dst : Option Nat) (_ : Tag (hs,K,ns)) (e : Env) (R : List Nat) (acc : List (List Nat × List Nat)) (b sz : Nat) (es : List (List D)) (ds : List D) (p : Bool) : Prop:=match dst with
 | none=>∃ es' : List (List D),es'.length=es.length /\ (∀ e ∈ es',e.length=sz /\ ∀ c ∈ e,av c=true) /\ (p=true \/ ∀ e ∈ es',∀ c ∈ e,bk c=true) /\ C g (.own sz es::ds) .any [.own sz es',.nilp] /\ doW C hs K ns ⟨⟩ e R acc [(b,.blk sz es')] []
 | some t=>(∃ es' : List (List D),es'.length=es.length /\ (∀ e ∈ es',e.length=sz /\ ∀ c ∈ e,av c=true) /\ (p=true \/ ∀ e ∈ es',∀ c ∈ e,bk c=true) /\ C g (.own sz es::ds) .any [.own sz es',.nilp] /\ doW C hs K ns ⟨⟩ e R acc [(t,.tup []),(b,.blk sz es')] []) \/ (b ≠ rt t 0 /\ 0 < sz /\ ∃ es' : List (List D),(∀ e ∈ es',e.length=sz /\ ∀ c ∈ e,av c=true) /\ (p=true \/ ∀ e ∈ es',∀ c ∈ e,bk c=true) /\ C g (.own sz es::ds) .any [.own sz es',.nils] /\ doW C hs K ns ⟨⟩ e R acc [(t,.ref (.r (rt t 0)) 0 es'.length),(rt t 0,.blk sz es'),(b,.any)] [(rt t 0,true)])
theorem tN {t : Nat} {g : Nat} {hs : Option (List Nat)} {K : Env -> Prop} {ns : List aq} {u : Tag (hs,K,ns)} {R : List Nat} {acc : List (List Nat × List Nat)} {b sz : Nat} {es es' : List (List D)} {ds : List D} {p : Bool} (h : C g (.own sz es::ds) .any [.own sz es',.nilp]) (hp : (p=true \/ ∀ e ∈ es',∀ c ∈ e,bk c=true)) (hl : es'.length=es.length) (hu : (∀ e ∈ es',e.length=sz /\ ∀ c ∈ e,av c=true)) (hk : doW C hs K ns ⟨⟩ e R acc [(t,.tup []),(b,.blk sz es')] []) : rf C g hs K ns (some t) u e R acc b sz es ds p:=.inl ⟨es',hl,hu,hp,h,hk⟩
def EA (C : CC) (g : Nat) (hs : Option (List Nat)) (K : Env -> Prop) (ns : List aq) (dst : Option Nat) (_ : Tag (hs,K,ns)) (e : Env) (R : List Nat) (acc : List (List Nat × List Nat)) (b n : Nat) (xs : List Opd) (d : D) : Prop:=match d with
 | .blk sz es=>es.length=n /\ (∀ e ∈ es,∀ c ∈ e,av c=true) /\ (∀ x ∈ xs,bD (fbE (ab e) b) (vd (fbE (ab e) b) x)) /\ rf C g hs K ns dst ⟨⟩ e R acc b sz es (xs.map (dpv (fbE (ab e) b))) (xs.all fun y=>isV (vd (fbE (ab e) b) y))
 | _=>False
def Mz (C : CC) (g : Nat) (hs : Option (List Nat)) (K : Env -> Prop) (ns : List aq) (dst : Option Nat) (_ : Tag (hs,K,ns)) (e : Env) (R : List Nat) (acc : List (List Nat × List Nat)) (xs : List Opd) (d : D) : Prop:=match d with
 | .ref (.r b) k n=>k=0 /\ EA C g hs K ns dst ⟨⟩ e R acc b n xs (ab e b)
 | _=>False
@[simp] theorem RT {f : Nat -> D} {b t : Nat} : fbE f b t=if t=b then .any else f t:=_root_.id rfl
theorem aa {g : Nat} {hs : Option (List Nat)} {K : Env -> Prop} {ns : List aq} {dst : Option Nat} {u : Tag (hs,K,ns)} {R : List Nat} {acc : List (List Nat × List Nat)} {p : Bool} {ds : List D} (h : C g ds d []) (hf : isF d=true \/ p=true) (hk : dW C hs K ns dst ⟨⟩ e R acc d) : pG C g hs K ns dst u e R acc p ds:=⟨d,h,hf,hk⟩
def pn (S : Type) (G : S -> Env) (I : S -> Prop) (m : S -> Nat) (s : S) (Q : bX -> Env -> Prop) : bX -> Env -> Prop:=fun t e'=>match t with
    | .nrm=>∃ s',I s' /\ m s' < m s /\ j4 e' (G s')
    | t=>Q t e'
theorem ar {c : cy} {u : Tag (c,Q)} (S : Type) (G : S -> Env) (I : S -> Prop) (m : S -> Nat) (s0 : S) (h0 : I s0) (hw : j4 e (G s0))
  (h : ∀ s,I s -> wN C c (pn S G I m s Q) ⟨⟩ (G s)) : sX C c Q u e:=⟨S,G,I,m,s0,h0,hw,h⟩
@[simp] theorem Rc {u} : wN C .skip Q u e=bC Q ⟨⟩ .nrm e:=_root_.id rfl
@[simp] theorem S3 {hs keep ops u} : wN C (.reg false hs keep ops) Q u e=uI C (Az keep Q) ops ⟨⟩ e:=_root_.id rfl
@[simp] theorem QZ {hs keep ops u} : wN C (.reg true hs keep ops) Q u e=rV C hs (Az keep Q) ops ⟨⟩ e []:=_root_.id rfl
@[simp] theorem S5 {x y u} : wN C (.seq x y) Q u e=wN C x (AH C y Q) ⟨⟩ e:=_root_.id rfl
def brB (b : Bool) (X Y : Prop) (_ : Tag (X,Y)) : Prop:=(b=true -> X) /\ (b=false -> Y)
theorem ac {b : Bool} {X Y : Prop} {u} (h1 : b=true -> X) (h2 : b=false -> Y) : brB b X Y u:=⟨h1,h2⟩
@[simp] theorem Il {X Y : Prop} {u} : brB true X Y u=X:=by simp [brB]
@[simp] theorem Fm {X Y : Prop} {u} : brB false X Y u=Y:=by simp [brB]
def cdW (C : CC) (x y : cy) (Q : bX -> Env -> Prop) (_ : Tag (x,y,Q)) (e : Env) (d : D) : Prop:=match d with
 | .bool b=>brB b (wN C x Q ⟨⟩ e) (wN C y Q ⟨⟩ e) ⟨⟩
 | .bb=>wN C x Q ⟨⟩ e /\ wN C y Q ⟨⟩ e
 | _=>False
@[simp] theorem Rl {x y u} : cdW C x y Q u e .bb=(wN C x Q ⟨⟩ e /\ wN C y Q ⟨⟩ e):=_root_.id rfl
@[simp] theorem Io {x y u b} : cdW C x y Q u e (.bool b)=brB b (wN C x Q ⟨⟩ e) (wN C y Q ⟨⟩ e) ⟨⟩:=_root_.id rfl
@[simp] theorem QY {c x y u} : wN C (.cond c x y) Q u e=cdW C x y Q ⟨⟩ e (vd (ab e) c):=_root_.id rfl
@[simp] theorem MK {id c u} : wN C (.block id c) Q u e=wN C c (oN id Q) ⟨⟩ e:=_root_.id rfl
@[simp] theorem Rb {c u} : wN C (.loop c) Q u e=sX C c Q ⟨⟩ e:=_root_.id rfl
@[simp] theorem Ra {id u} : wN C (.exit id) Q u e=bC Q ⟨⟩ (.ext id) e:=_root_.id rfl
@[simp] theorem S4 {u} : wN C .ret Q u e=bC Q ⟨⟩ .ret e:=_root_.id rfl
@[simp] theorem zG {y u} : bC (AH C y Q) u .nrm e=wN C y Q ⟨⟩ e:=_root_.id rfl
@[simp] theorem zF {y u i} : bC (AH C y Q) u (.ext i) e=bC Q ⟨⟩ (.ext i) e:=_root_.id rfl
@[simp] theorem zH {y u} : bC (AH C y Q) u .ret e=bC Q ⟨⟩ .ret e:=_root_.id rfl
@[simp] theorem wj {id u} : bC (oN id Q) u .nrm e=bC Q ⟨⟩ .nrm e:=_root_.id rfl
@[simp] theorem wi {id u i} : bC (oN id Q) u (.ext i) e=if i=id then bC Q ⟨⟩ .nrm e else bC Q ⟨⟩ (.ext i) e:=_root_.id rfl
@[simp] theorem wk {id u} : bC (oN id Q) u .ret e=bC Q ⟨⟩ .ret e:=_root_.id rfl
@[simp] theorem zp {r u} : bC (fin r d) u .nrm e=gh r d e:=by simp [bC,fin]
@[simp] theorem zu {r u} : bC (fin r d) u .ret e=gh r d e:=by simp [bC,fin]
@[simp] theorem yD {r d} {u : Tag (ua r d)} : bC (ua r d) u .nrm e=jY r d e:=by simp [bC,ua]
@[simp] theorem yE {r d} {u : Tag (ua r d)} : bC (ua r d) u .ret e=jY r d e:=by simp [bC,ua]
@[simp] theorem yB {r sz es} {u : Tag (ry r sz es)} : bC (ry r sz es) u .nrm e=jZ r sz es e:=by simp [bC,ry]
@[simp] theorem yC {r sz es} {u : Tag (ry r sz es)} : bC (ry r sz es) u .ret e=jZ r sz es e:=by simp [bC,ry]
@[simp] theorem yH {r d sz es} {u : Tag (rC r d sz es)} : bC (rC r d sz es) u .nrm e=((0 < es.length /\ ab e 10015=.blk sz es) /\ gh r d ((10015,.any)::e)):=by simp [bC,rC]
@[simp] theorem yI {r d sz es} {u : Tag (rC r d sz es)} : bC (rC r d sz es) u .ret e=((0 < es.length /\ ab e 10015=.blk sz es) /\ gh r d ((10015,.any)::e)):=by simp [bC,rC]
@[simp] theorem yF {r sz es} {u : Tag (rA r sz es)} : bC (rA r sz es) u .nrm e=j0 r sz es e:=by simp [bC,rA]
@[simp] theorem yG {r sz es} {u : Tag (rA r sz es)} : bC (rA r sz es) u .ret e=j0 r sz es e:=by simp [bC,rA]
@[simp] theorem yz {r d} {u : Tag (rq r d)} : bC (rq r d) u .nrm e=qE r d e:=by simp [bC,rq]
@[simp] theorem yA {r d} {u : Tag (rq r d)} : bC (rq r d) u .ret e=qE r d e:=by simp [bC,rq]
@[simp] theorem wm {S G I m s u} : bC (pn S G I m s Q) u .nrm e=∃ s',I s' /\ m s' < m s /\ j4 e (G s'):=_root_.id rfl
@[simp] theorem wl {S G I m s u i} : bC (pn S G I m s Q) u (.ext i) e=bC Q ⟨⟩ (.ext i) e:=_root_.id rfl
@[simp] theorem wn {S G I m s u} : bC (pn S G I m s Q) u .ret e=bC Q ⟨⟩ .ret e:=_root_.id rfl
end
section
variable {C : CC} {Q : bX -> Env -> Prop} {e : Env} {K : Env -> Prop} {dst : Option Nat} {d : D} {hs : Option (List Nat)} {ns : List aq} {R : List Nat} {acc : List (List Nat × List Nat)} {u : Tag (hs,K,ns)}
@[simp] theorem L8 {keep u} : uI C (Az keep Q) [] u e=bC Q ⟨⟩ .nrm (prune keep e):=_root_.id rfl
@[simp] theorem L7 {h keep u} : rV C h (Az keep Q) [] u e acc=(Jx h acc /\ bC Q ⟨⟩ .nrm (prune keep e)):=_root_.id rfl
@[simp] theorem Hm {dst op ns u} : uI C K (⟨dst,op,none⟩::ns) u e=opW C none K ns dst op ⟨⟩ e [] []:=_root_.id rfl
@[simp] theorem Hk {h dst op ns u} : rV C h K (⟨dst,op,none⟩::ns) u e acc=(chk (ab e) ⟨dst,op,none⟩=true /\ opW C (some h) K ns dst op ⟨⟩ e (iJ (ab e) ⟨dst,op,none⟩) acc):=_root_.id rfl
def nu (C : CC) (h : List Nat) (K : Env -> Prop) (ns : List aq) (_ : Tag (h,K,ns)) (e : Env) (dst : Option Nat) (R : List Nat) (acc : List (List Nat × List Nat)) : Prop:=gQ e dst fun e'=>jF C h K ns e' ((R,tZ dst)::acc)
@[simp] theorem Es {h t ns u} : nu C h K ns u e (some t) R acc=rV C h K ns ⟨⟩ ((t,.tup [])::e) ((R,[4 * t])::acc):=_root_.id rfl
@[simp] theorem Er {h ns u} : nu C h K ns u e none R acc=rV C h K ns ⟨⟩ e ((R,[])::acc):=_root_.id rfl
def gdT (C : CC) (K : Env -> Prop) (ns : List aq) (dst : Option Nat) (op : NOp) (s : Nat) (want : Bool) (_ : Tag (K,ns)) (e : Env) (d : D) : Prop:=match d with
 | .bool b=>(b=want -> opW C none K ns dst op ⟨⟩ ((s,.bool want)::e) [] []) /\ (b=!want -> dW C none K ns dst ⟨⟩ ((s,.bool !want)::e) [] [] (.tup []))
 | .tup []=>dW C none K ns dst ⟨⟩ e [] [] (.tup [])
 | _=>False
@[simp] theorem Jf {op s b u} : gdT C K ns dst op s true u e (.bool b)=brB b (opW C none K ns dst op ⟨⟩ ((s,.bool true)::e) [] []) (dW C none K ns dst ⟨⟩ ((s,.bool false)::e) [] [] (.tup [])) ⟨⟩:=_root_.id rfl
@[simp] theorem F4 {op s b u} : gdT C K ns dst op s false u e (.bool b)=brB b (dW C none K ns dst ⟨⟩ ((s,.bool true)::e) [] [] (.tup [])) (opW C none K ns dst op ⟨⟩ ((s,.bool false)::e) [] []) ⟨⟩:=by
 simp only [gdT,brB,Bool.not_false];exact propext ⟨fun h=>⟨h.2,h.1⟩,fun h=>⟨h.2,h.1⟩⟩
@[simp] theorem Je {op s want u} : gdT C K ns dst op s want u e (.tup [])=dW C none K ns dst ⟨⟩ e [] [] (.tup []):=_root_.id rfl
@[simp] theorem Hn {dst op s want ns u} : uI C K (⟨dst,op,some (s,want)⟩::ns) u e=gdT C K ns dst op s want ⟨⟩ e (ab e s):=by
 simp only [uI,im,opW,qR,gQ,gdT,dW,dx,kOf,BL,dZ]
 cases ab e s <;> cases dst <;> (first | rfl | (rename_i x _ ;cases x <;> rfl) | (rename_i x;cases x <;> rfl))
def gdD (C : CC) (h : List Nat) (K : Env -> Prop) (ns : List aq) (dst : Option Nat) (op : NOp) (want : Bool) (_ : Tag (K,ns)) (e : Env) (R : List Nat) (acc : List (List Nat × List Nat)) (d : D) : Prop:=match d with
 | .bool b=>(b=want -> opW C (some h) K ns dst op ⟨⟩ e R acc) /\ (b=!want -> nu C h K ns ⟨⟩ e dst R acc)
 | .tup []=>nu C h K ns ⟨⟩ e dst R acc
 | _=>False
@[simp] theorem Jd {h op b u} : gdD C h K ns dst op true u e R acc (.bool b)=brB b (opW C (some h) K ns dst op ⟨⟩ e R acc) (nu C h K ns ⟨⟩ e dst R acc) ⟨⟩:=_root_.id rfl
@[simp] theorem F3 {h op b u} : gdD C h K ns dst op false u e R acc (.bool b)=brB b (nu C h K ns ⟨⟩ e dst R acc) (opW C (some h) K ns dst op ⟨⟩ e R acc) ⟨⟩:=by
 simp only [gdD,brB,Bool.not_false];exact propext ⟨fun h=>⟨h.2,h.1⟩,fun h=>⟨h.2,h.1⟩⟩
@[simp] theorem Jc {h op want u} : gdD C h K ns dst op want u e R acc (.tup [])=nu C h K ns ⟨⟩ e dst R acc:=_root_.id rfl
@[simp] theorem Hl {h dst op s want ns u} : rV C h K (⟨dst,op,some (s,want)⟩::ns) u e acc=(chk (ab e) ⟨dst,op,some (s,want)⟩=true /\ gdD C h K ns dst op want ⟨⟩ e (iJ (ab e) ⟨dst,op,some (s,want)⟩) acc (ab e s)):=_root_.id rfl
@[simp] theorem ID {K ns u ws ks} : doW C none K ns u e R acc ws ks=uI C K ns ⟨⟩ (ws++dZ ks e):=_root_.id rfl
@[simp] theorem IC {h K ns u ws ks} : doW C (some h) K ns u e R acc ws ks=(wOk R ws ks=true /\ rV C h K ns ⟨⟩ (ws++dZ ks e) ((R,wrK ws ks)::acc)):=_root_.id rfl
@[simp] theorem Na {t} : dW C hs K ns (some t) u e R acc d=doW C hs K ns ⟨⟩ e R acc [(t,d)] []:=_root_.id rfl
@[simp] theorem M9 : dW C hs K ns none u e R acc d=doW C hs K ns ⟨⟩ e R acc [] []:=_root_.id rfl
def aV (ks : List (Nat × Bool)) (d : D) : D:=if aF ks d then .any else d
theorem cu (ks : List (Nat × Bool)) (d : D) : aV ks d=bif aF ks d then .any else d:=by
 unfold aV;cases aF ks d <;> rfl
@[simp] theorem GT : dZ [] e=e:=_root_.id rfl
@[simp] theorem GS {k ks} : dZ (k::ks) []=[]:=_root_.id rfl
@[simp] theorem DG {k ks s d} : dZ (k::ks) ((s,d)::e)=(s,aV (k::ks) d)::dZ (k::ks) e:=_root_.id rfl
@[simp] theorem GF {ks} : aV ks .any=.any:=by simp [aV]
@[simp] theorem GI {ks k n} : aV ks (.int k n)=.int k n:=by simp [aV,aF,dI,aN]
@[simp] theorem DD {ks n} : aV ks (.bool n)=.bool n:=by simp [aV,aF,dI,aN]
@[simp] theorem GP {ks n} : aV ks (.str n)=.str n:=by simp [aV,aF,dI,aN]
@[simp] theorem KL {ks} : aV ks .bb=.bb:=by simp [aV,aF,dI,aN]
@[simp] theorem DE {ks} : aV ks .nilp=.nilp:=by simp [aV,aF,dI,aN]
@[simp] theorem DF {ks} : aV ks .nils=.nils:=by simp [aV,aF,dI,aN]
@[simp] theorem GD {ks n} : aV ks (.agg n)=.agg n:=by simp [aV,aF,dI,aN]
@[simp] theorem GR {ks n} : aV ks (.tup n)=.tup n:=by simp [aV,aF,dI,aN]
@[simp] theorem KO {ks n} : aV ks (.sl n)=.sl n:=by simp [aV,aF,dI,aN]
@[simp] theorem GL {ks n} : aV ks (.ptr n)=.ptr n:=by simp [aV,aF,dI,aN]
@[simp] theorem KM {ks g n} : aV ks (.fn g n)=.fn g n:=by simp [aV,aF,dI,aN]
@[simp] theorem GG {ks g n} : aV ks (.blk g n)=.blk g n:=by simp [aV,aF,dI,aN]
@[simp] theorem KN {ks kt et xs vs} : aV ks (.mp kt et xs vs)=.mp kt et xs vs:=by simp [aV,aF,dI,aN]
@[simp] theorem GN {b all ks p k n} : aV ((b,all)::ks) (.ref p k n)=if bT b all p then .any else aV ks (.ref p k n):=by
 have h : aV ((b,all)::ks) (.ref p k n)=bif (bT b all p || aF ks (.ref p k n)) then .any else .ref p k n:=cu ..
 rw [h,cu]
 cases bT b all p <;> rfl
@[simp] theorem GC {b all ks p k n} : aV ((b,all)::ks) (.adr p k n)=if bT b all p then .any else aV ks (.adr p k n):=by
 have h : aV ((b,all)::ks) (.adr p k n)=bif (bT b all p || aF ks (.adr p k n)) then .any else .adr p k n:=cu ..
 rw [h,cu]
 cases bT b all p <;> rfl
@[simp] theorem GE {b all ks n} : aV ((b,all)::ks) (.agx n)=if n.any (aN b all) then .any else aV ks (.agx n):=by
 have h : aV ((b,all)::ks) (.agx n)=bif (n.any (aN b all) || aF ks (.agx n)) then .any else .agx n:=cu ..
 rw [h,cu]
 cases n.any (aN b all) <;> rfl
@[simp] theorem GH {b all ks g n} : aV ((b,all)::ks) (.fnx g n)=if n.any (aN b all) then .any else aV ks (.fnx g n):=by
 have h : aV ((b,all)::ks) (.fnx g n)=bif (n.any (aN b all) || aF ks (.fnx g n)) then .any else .fnx g n:=cu ..
 rw [h,cu]
 cases n.any (aN b all) <;> rfl
@[simp] theorem GK {d} : aV [] d=d:=by simp [aV,aF]
@[simp] theorem GO {ks b es} : aV ks (slx b es)=slx b es:=by cases b <;> cases es <;> simp [slx]
def jB (C : CC) (hs : Option (List Nat)) (K : Env -> Prop) (ns : List aq) (dst : Option Nat) (_ : Tag (hs,K,ns)) (e : Env) (R : List Nat) (acc : List (List Nat × List Nat)) (sz : Nat) (es : List (List D)) (i : Nat) : Prop :=
 ∃ c,es[i]? = some c /\ c.length=sz /\ dx dst (kOf C hs K ns e R acc) (.ptr c)
@[simp] theorem Ju {α : Type} [Inhabited α] {sz : Nat} {xs : List α} {f : α -> List D} {i : Nat} : jB C hs K ns dst u e R acc sz (xs.map f) i=(i < xs.length /\ (f xs[i]!).length=sz /\ dW C hs K ns dst ⟨⟩ e R acc (.ptr (f xs[i]!))):=by
 apply propext
 unfold jB dW
 constructor
 ·rintro ⟨c,h,h1,h2⟩
  rw [List.getElem?_map,Option.map_eq_some_iff] at h
  obtain ⟨x,hx,rfl⟩:=h
  obtain ⟨hi,rfl⟩:=List.getElem?_eq_some_iff.1 hx
  rw [getElem!_pos xs i hi]
  exact ⟨hi,h1,h2⟩
 ·rintro ⟨hi,h1,h2⟩
  rw [getElem!_pos xs i hi] at h1 h2
  exact ⟨_,by rw [List.getElem?_map,List.getElem?_eq_getElem hi];rfl,h1,h2⟩
def CS (C : CC) (hs : Option (List Nat)) (K : Env -> Prop) (ns : List aq) (dst : Option Nat) (_ : Tag (hs,K,ns)) (e : Env) (R : List Nat) (acc : List (List Nat × List Nat)) (s : List UInt8) (i : Nat) : Prop :=
 ∃ b,s[i]? = some b /\ dx dst (kOf C hs K ns e R acc) (.int .u8 b.toNat)
@[simp] theorem M6 {s : List UInt8} {i : Nat} : CS C hs K ns dst u e R acc s i=(i < s.length /\ dW C hs K ns dst ⟨⟩ e R acc (.int .u8 (s[i]!).toNat)):=by
 apply propext
 unfold CS dW
 constructor
 ·rintro ⟨b,h,h2⟩
  obtain ⟨hi,rfl⟩:=List.getElem?_eq_some_iff.1 h
  rw [getElem!_pos s i hi]
  exact ⟨hi,h2⟩
 ·rintro ⟨hi,h2⟩
  rw [getElem!_pos s i hi] at h2
  exact ⟨_,List.getElem?_eq_getElem hi,h2⟩
def lC (C : CC) (hs : Option (List Nat)) (K : Env -> Prop) (ns : List aq) (dst : Option Nat) (_ : Tag (hs,K,ns)) (e : Env) (R : List Nat) (acc : List (List Nat × List Nat)) (n : Nat) (ag : Bool) (p : Pa) (es : List (List D)) (i off : Nat) : Prop :=
 ∃ r,es[i]? = some r /\ off + n <= r.length /\ match ag with
    | true=>(((r.drop off).take n).all isV=true -> dx dst (kOf C hs K ns e R acc) (.agg ((r.drop off).take n))) /\
      (((r.drop off).take n).all isV=false -> dx dst (kOf C hs K ns e R acc) (.agx (((r.drop off).take n).mapIdx fun j c=>ldc p i (off + j) c)))
    | false=>dx dst (kOf C hs K ns e R acc) (ldc p i off ((r.drop off).headD .any))
theorem th {n : Nat} {ag : Bool} {p : Pa} {es : List (List D)} {i off : Nat} {r : List D} (hr : es[i]? = some r) (hl : off + n <= r.length) (hk : match ag with
    | true=>(((r.drop off).take n).all isV=true -> dW C hs K ns dst ⟨⟩ e R acc (.agg ((r.drop off).take n))) /\
      (((r.drop off).take n).all isV=false -> dW C hs K ns dst ⟨⟩ e R acc (.agx (((r.drop off).take n).mapIdx fun j c=>ldc p i (off + j) c)))
    | false=>dW C hs K ns dst ⟨⟩ e R acc (ldc p i off ((r.drop off).headD .any))) : lC C hs K ns dst u e R acc n ag p es i off:=by
 refine ⟨r,hr,hl,?_⟩
 cases ag <;> exact hk
@[simp] theorem Mk {n : Nat} {ag : Bool} {p : Pa} {r : List D} {off : Nat} : lC C hs K ns dst u e R acc n ag p [r] 0 off=(off + n <= r.length /\ match ag with
    | true=>(((r.drop off).take n).all isV=true -> dW C hs K ns dst ⟨⟩ e R acc (.agg ((r.drop off).take n))) /\
      (((r.drop off).take n).all isV=false -> dW C hs K ns dst ⟨⟩ e R acc (.agx (((r.drop off).take n).mapIdx fun j c=>ldc p 0 (off + j) c)))
    | false=>dW C hs K ns dst ⟨⟩ e R acc (ldc p 0 off ((r.drop off).headD .any))):=by
 apply propext
 constructor
 ·rintro ⟨r',h1,h2,h3⟩
  simp at h1;subst h1
  refine ⟨h2,?_⟩
  cases ag <;> exact h3
 ·rintro ⟨h2,h3⟩
  refine ⟨r,rfl,h2,?_⟩
  cases ag <;> exact h3
end
section
variable {C : CC} {Q : bX -> Env -> Prop} {e : Env} {K : Env -> Prop} {dst : Option Nat} {hs : Option (List Nat)} {ns : List aq} {R : List Nat} {acc : List (List Nat × List Nat)} {u : Tag (hs,K,ns)}
@[simp] theorem QI {x v1} : opW C hs K ns dst (.mov x) v1 e R acc=(isS (vd (ab e) x)=true /\ dW C hs K ns dst ⟨⟩ e R acc (vd (ab e) x)):=_root_.id rfl
@[simp] theorem QL {x v1} : opW C hs K ns dst (.nck x) v1 e R acc=(match (generalizing:=false) vd (ab e) x with
  | .ptr ds=>dW C hs K ns dst ⟨⟩ e R acc (.ptr ds)
  | .adr p i off=>dW C hs K ns dst ⟨⟩ e R acc (.adr p i off)
  | .ptx ds=>dW C hs K ns dst ⟨⟩ e R acc (.ptx ds)
  | _=>False):=_root_.id rfl
@[simp] theorem L0 {c a b v1} : opW C hs K ns dst (.pick c a b) v1 e R acc=(match (generalizing:=false) vd (ab e) c with
  | .bool v=>(v=true -> isS (vd (ab e) a)=true /\ dW C hs K ns dst ⟨⟩ e R acc (vd (ab e) a)) /\ (v=false -> isS (vd (ab e) b)=true /\ dW C hs K ns dst ⟨⟩ e R acc (vd (ab e) b))
  | _=>False):=_root_.id rfl
@[simp] theorem Qr {op x y v1} : opW C hs K ns dst (.bin op x y) v1 e R acc=(match (generalizing:=false) vd (ab e) x,vd (ab e) y with
  | .int k a,.int k' b=>match (generalizing:=false) op with
   | .add=>k=k' /\ dW C hs K ns dst ⟨⟩ e R acc (.int k (k.wrap (a + b)))
   | .sub=>k=k' /\ dW C hs K ns dst ⟨⟩ e R acc (.int k (k.wrap (a - b)))
   | .mul=>k=k' /\ dW C hs K ns dst ⟨⟩ e R acc (.int k (k.wrap (a * b)))
   | .quo=>k=k' /\ b ≠ 0 /\ dW C hs K ns dst ⟨⟩ e R acc (.int k (k.wrap (a.tdiv b)))
   | .rem=>k=k' /\ b ≠ 0 /\ dW C hs K ns dst ⟨⟩ e R acc (.int k (a.tmod b))
   | .and=>k=k' /\ dW C hs K ns dst ⟨⟩ e R acc (.int k (bits .and k a b))
   | .or=>k=k' /\ dW C hs K ns dst ⟨⟩ e R acc (.int k (bits .or k a b))
   | .xor=>k=k' /\ dW C hs K ns dst ⟨⟩ e R acc (.int k (bits .xor k a b))
   | .andNot=>k=k' /\ dW C hs K ns dst ⟨⟩ e R acc (.int k (bits .andNot k a b))
   | .shl=>0 <= b /\ dW C hs K ns dst ⟨⟩ e R acc (.int k (k.wrap (a * 2 ^ (min b.toNat k.bits))))
   | .shr=>0 <= b /\ dW C hs K ns dst ⟨⟩ e R acc (.int k (a.fdiv (2 ^ (min b.toNat k.bits))))
   | .eql=>k=k' /\ dW C hs K ns dst ⟨⟩ e R acc (.bool (decide (a=b)))
   | .neq=>k=k' /\ dW C hs K ns dst ⟨⟩ e R acc (.bool (!decide (a=b)))
   | .lss=>k=k' /\ dW C hs K ns dst ⟨⟩ e R acc (.bool (decide (a < b)))
   | .leq=>k=k' /\ dW C hs K ns dst ⟨⟩ e R acc (.bool (decide (a <= b)))
   | .gtr=>k=k' /\ dW C hs K ns dst ⟨⟩ e R acc (.bool (decide (b < a)))
   | .geq=>k=k' /\ dW C hs K ns dst ⟨⟩ e R acc (.bool (decide (b <= a)))
  | .str a,.str b=>match (generalizing:=false) op with
   | .eql=>dW C hs K ns dst ⟨⟩ e R acc (.bool (decide (a=b)))
   | .neq=>dW C hs K ns dst ⟨⟩ e R acc (.bool (!decide (a=b)))
   | .add=>((a++b).length : Int) <= 9223372036854775807 /\ dW C hs K ns dst ⟨⟩ e R acc (.str (a++b))
   | .lss=>dW C hs K ns dst ⟨⟩ e R acc (.bool (Op.bytesLess a b))
   | .leq=>dW C hs K ns dst ⟨⟩ e R acc (.bool (Op.bytesLess a b || a == b))
   | .gtr=>dW C hs K ns dst ⟨⟩ e R acc (.bool !(Op.bytesLess a b || a == b))
   | .geq=>dW C hs K ns dst ⟨⟩ e R acc (.bool !(Op.bytesLess a b))
   | _=>False
  | _,_=>False):=_root_.id rfl
@[simp] theorem SI {op x v1} : opW C hs K ns dst (.un op x) v1 e R acc=(match (generalizing:=false) vd (ab e) x with
  | .bool b=>match (generalizing:=false) op with
   | .not=>dW C hs K ns dst ⟨⟩ e R acc (.bool (!b))
   | _=>False
  | .int k n=>match (generalizing:=false) op with
   | .neg=>dW C hs K ns dst ⟨⟩ e R acc (.int k (k.wrap (0 - n)))
   | _=>False
  | _=>False):=_root_.id rfl
@[simp] theorem LT {k x v1} : opW C hs K ns dst (.conv k x) v1 e R acc=(match (generalizing:=false) vd (ab e) x with
  | .int _ n=>dW C hs K ns dst ⟨⟩ e R acc (.int k (k.wrap n))
  | _=>False):=_root_.id rfl
@[simp] theorem Qq {neg ks x y v1} : opW C hs K ns dst (.beq neg ks x y) v1 e R acc=(match (generalizing:=false) vd (ab e) x,vd (ab e) y with
  | .bool a,.bool b=>ks=[] /\ dW C hs K ns dst ⟨⟩ e R acc (.bool ((a == b) != neg))
  | .agg a,.agg b=>ks ≠ [] /\ match (generalizing:=false) cp ks a b with
   | some r=>dW C hs K ns dst ⟨⟩ e R acc (.bool (r != neg))
   | none=>False
  | .nils,.nils=>ks=[9] /\ dW C hs K ns dst ⟨⟩ e R acc (.bool (!neg))
  | .sl es,.nils=>ks=[9] /\ (0 < es.length -> dW C hs K ns dst ⟨⟩ e R acc (.bool neg)) /\ (es.length=0 -> dW C hs K ns dst ⟨⟩ e R acc .bb)
  | .nilp,.nilp=>ks=[8] /\ dW C hs K ns dst ⟨⟩ e R acc (.bool (!neg))
  | .ptr _,.nilp=>ks=[8] /\ dW C hs K ns dst ⟨⟩ e R acc (.bool neg)
  | _,_=>False):=_root_.id rfl
@[simp] theorem QA {off n ag x v1} : opW C hs K ns dst (.fld off n ag x) v1 e R acc=(match (generalizing:=false) vd (ab e) x with
  | .agg ds=>off + n <= ds.length /\ dW C hs K ns dst ⟨⟩ e R acc (l6 ag n (ds.drop off))
  | .agx ds=>off + n <= ds.length /\ match (generalizing:=false) ag with
   | true=>dW C hs K ns dst ⟨⟩ e R acc (.agx ((ds.drop off).take n))
   | false=>dW C hs K ns dst ⟨⟩ e R acc ((ds.drop off).headD .any)
  | _=>False):=_root_.id rfl
@[simp] theorem LW {len sz ag x i v1} : opW C hs K ns dst (.idxA len sz ag x i) v1 e R acc=(match (generalizing:=false) vd (ab e) x,vd (ab e) i with
  | .agg ds,.int _ j=>0 <= j /\ j < len /\ j.toNat * sz + sz <= ds.length /\ dW C hs K ns dst ⟨⟩ e R acc (l6 ag sz (ds.drop (j.toNat * sz)))
  | .agx ds,.int _ j=>0 <= j /\ j < len /\ j.toNat * sz + sz <= ds.length /\ match (generalizing:=false) ag with
   | true=>dW C hs K ns dst ⟨⟩ e R acc (.agx ((ds.drop (j.toNat * sz)).take sz))
   | false=>dW C hs K ns dst ⟨⟩ e R acc ((ds.drop (j.toNat * sz)).headD .any)
  | _,_=>False):=_root_.id rfl
@[simp] theorem QN {len sz x v1} : opW C hs K ns dst (.slA len sz x) v1 e R acc=(match (generalizing:=false) vd (ab e) x with
  | .ptr ds=>0 < len /\ 0 < sz /\ len * sz <= ds.length /\ dW C hs K ns dst ⟨⟩ e R acc (.sl (ce sz len ds))
  | _=>False):=_root_.id rfl
@[simp] theorem Qx {x v1} : opW C hs K ns dst (.cvS x) v1 e R acc=(match (generalizing:=false) vd (ab e) x with
  | .sl es=>0 < es.length /\ (∀ r ∈ es,∃ n : Nat,r=[.int .u8 n] /\ n < 256) /\ dW C hs K ns dst ⟨⟩ e R acc (.str (es.map jM))
  | _=>False):=_root_.id rfl
@[simp] theorem LX {x i v1} : opW C hs K ns dst (.idxS x i) v1 e R acc=(match (generalizing:=false) vd (ab e) x,vd (ab e) i with
  | .str s,.int _ j=>0 <= j /\ CS C hs K ns dst ⟨⟩ e R acc s j.toNat
  | _,_=>False):=_root_.id rfl
@[simp] theorem Qy {i x v1} : opW C hs K ns dst (.ext i x) v1 e R acc=(match (generalizing:=false) vd (ab e) x with
  | .tup ds=>∃ d,ds[i]? = some d /\ dW C hs K ns dst ⟨⟩ e R acc d
  | .tpx ds=>∃ d,ds[i]? = some d /\ dW C hs K ns dst ⟨⟩ e R acc d
  | _=>False):=_root_.id rfl
@[simp] theorem Qz {off x v1} : opW C hs K ns dst (.fad off x) v1 e R acc=(match (generalizing:=false) vd (ab e) x with
  | .adr p i o=>dW C hs K ns dst ⟨⟩ e R acc (.adr p i (o + off))
  | .ptr ds=>dW C hs K ns dst ⟨⟩ e R acc (.ptr (ds.drop off))
  | .ptx ds=>dW C hs K ns dst ⟨⟩ e R acc (.ptx (ds.drop off))
  | _=>False):=_root_.id rfl
@[simp] theorem LU {len sz x i v1} : opW C hs K ns dst (.iadA len sz x i) v1 e R acc=(match (generalizing:=false) vd (ab e) x,vd (ab e) i with
  | .adr p r o,.int _ j=>0 <= j /\ j < len /\ dW C hs K ns dst ⟨⟩ e R acc (.adr p r (o + j.toNat * sz))
  | .ptr ds,.int _ j=>0 <= j /\ j < len /\ dW C hs K ns dst ⟨⟩ e R acc (.ptr (ds.drop (j.toNat * sz)))
  | _,_=>False):=_root_.id rfl
@[simp] theorem SD {n ag x v1} : opW C hs K ns dst (.ld n ag x) v1 e R acc=(match (generalizing:=false) vd (ab e) x with
  | .adr p i off=>match (generalizing:=false) aW (ab e) p with
   | some (_,es)=>lC C hs K ns dst ⟨⟩ e R acc n ag p es i off
   | none=>False
  | .ptr ds=>n <= ds.length /\ dW C hs K ns dst ⟨⟩ e R acc (l6 ag n ds)
  | .ptx ds=>n <= ds.length /\ match (generalizing:=false) ag with
   | true=>((ds.take n).all isV=true -> dW C hs K ns dst ⟨⟩ e R acc (.agg (ds.take n))) /\ ((ds.take n).all isV=false -> dW C hs K ns dst ⟨⟩ e R acc (.agx (ds.take n)))
   | false=>0 < n /\ dW C hs K ns dst ⟨⟩ e R acc (ds.headD .any)
  | _=>False):=_root_.id rfl
@[simp] theorem Qs {zs parts v1} : opW C hs K ns dst (.bld zs parts) v1 e R acc=((∀ p ∈ parts,isS (vd (ab e) p.2.2)=true /\ p.1 + p.2.1 <= zs.length /\ match (generalizing:=false) vd (ab e) p.2.2 with
    | .agg ds=>ds.length=p.2.1
    | .agx ds=>ds.length=p.2.1
    | .any=>False
    | .tpx _=>False
    | .ptx _=>False
    | .fnx _ _=>False
    | _=>p.2.1=1) /\
   ((parts.all fun p=>isV (vd (ab e) p.2.2))=true -> dW C hs K ns dst ⟨⟩ e R acc (.agg (jH zs (parts.map fun p=>(p.1,p.2.1,vd (ab e) p.2.2))))) /\
   ((parts.all fun p=>isV (vd (ab e) p.2.2))=false -> dW C hs K ns dst ⟨⟩ e R acc (.agx (jH zs (parts.map fun p=>(p.1,p.2.1,co (vd (ab e) p.2.2))))))):=_root_.id rfl
@[simp] theorem LY {x v1} : opW C hs K ns dst (.lens x) v1 e R acc=(match (generalizing:=false) vd (ab e) x with
  | .str s=>dW C hs K ns dst ⟨⟩ e R acc (.int .i64 s.length)
  | _=>False):=_root_.id rfl
@[simp] theorem SE {g xs v1} : opW C hs K ns dst (.mk g xs) v1 e R acc=((∀ x ∈ xs,isP (vd (ab e) x)=true) /\ ((xs.all fun x=>isV (vd (ab e) x))=true -> dW C hs K ns dst ⟨⟩ e R acc (.fn g (xs.map (vd (ab e))))) /\ ((xs.all fun x=>isV (vd (ab e) x))=false -> dW C hs K ns dst ⟨⟩ e R acc (.fnx g (xs.map (vd (ab e)))))):=_root_.id rfl
@[simp] theorem QP {x lo hi v1} : opW C hs K ns dst (.slS x lo hi) v1 e R acc=(match (generalizing:=false) vd (ab e) x with
  | .str s=>dG (ab e) hi s.length (fun h=>dG (ab e) lo 0 (fun l=>l <= h /\ h <= s.length /\ dW C hs K ns dst ⟨⟩ e R acc (.str ((s.take h).drop l))) ⟨⟩) ⟨⟩
  | _=>False):=_root_.id rfl
@[simp] theorem SF {x y v1} : opW C hs K ns dst (.mn x y) v1 e R acc=(match (generalizing:=false) vd (ab e) x,vd (ab e) y with
  | .int k a,.int k' b=>k=k' /\ dW C hs K ns dst ⟨⟩ e R acc (.int k (if b < a then b else a))
  | _,_=>False):=_root_.id rfl
@[simp] theorem SG {x y v1} : opW C hs K ns dst (.mx x y) v1 e R acc=(match (generalizing:=false) vd (ab e) x,vd (ab e) y with
  | .int k a,.int k' b=>k=k' /\ dW C hs K ns dst ⟨⟩ e R acc (.int k (if a < b then b else a))
  | _,_=>False):=_root_.id rfl
@[simp] theorem Ha {x y c v1} : opW C hs K ns dst (.add64 x y c) v1 e R acc=(match (generalizing:=false) vd (ab e) x,vd (ab e) y,vd (ab e) c with
  | .int .u64 a,.int .u64 b,.int .u64 k=>0 <= a /\ a < 18446744073709551616 /\ 0 <= b /\ b < 18446744073709551616 /\ 0 <= k /\ k <= 1 /\
    dW C hs K ns dst ⟨⟩ e R acc (.tup [.int .u64 ((a + b + k) % 18446744073709551616),.int .u64 ((a + b + k) / 18446744073709551616)])
  | _,_,_=>False):=_root_.id rfl
@[simp] theorem Hj {x y c v1} : opW C hs K ns dst (.sub64 x y c) v1 e R acc=(match (generalizing:=false) vd (ab e) x,vd (ab e) y,vd (ab e) c with
  | .int .u64 a,.int .u64 b,.int .u64 k=>0 <= a /\ a < 18446744073709551616 /\ 0 <= b /\ b < 18446744073709551616 /\ 0 <= k /\ k <= 1 /\
    dW C hs K ns dst ⟨⟩ e R acc (.tup [.int .u64 ((a - b - k) % 18446744073709551616),.int .u64 (if a < b + k then 1 else 0)])
  | _,_,_=>False):=_root_.id rfl
@[simp] theorem LZ {sz v1} : opW C hs K ns dst (.nilo sz) v1 e R acc=(match (generalizing:=false) dst with
  | some t=>0 < sz /\ doW C hs K ns ⟨⟩ e R acc [(t,.ref (.r (rt t 0)) 0 0),(rt t 0,.blk sz [])] [(rt t 0,true)]
  | none=>False):=_root_.id rfl
@[simp] theorem Qu {x t v1} : opW C hs K ns (some t) (.box [] x) v1 e R acc=gx (ab e) (vd (ab e) x) [] (fun cs bs=>bs.contains (rt t 0)=false /\ doW C hs K ns ⟨⟩ e R acc ((t,.adr (.r (rt t 0)) 0 0)::(rt t 0,.blk cs.length [cs])::cw bs) [(rt t 0,true)]) ⟨⟩:=_root_.id rfl
@[simp] theorem Qn {zs v1} : opW C hs K ns dst (.alc zs) v1 e R acc=(match (generalizing:=false) dst with
  | some t=>doW C hs K ns ⟨⟩ e R acc [(t,.adr (.r (rt t 0)) 0 0),(rt t 0,.blk zs.length [zs])] [(rt t 0,true)]
  | none=>False):=_root_.id rfl
@[simp] theorem Qt {sz len zs parts t v1} : opW C hs K ns (some t) (.bls sz len zs [] parts) v1 e R acc=pj (ab e) sz parts (List.replicate len zs) [] (fun es bs=>bG bs=true /\ bs.contains (rt t 0)=false /\ doW C hs K ns ⟨⟩ e R acc ((t,.ref (.r (rt t 0)) 0 len)::(rt t 0,.blk sz es)::cw bs) [(rt t 0,true)]) ⟨⟩:=_root_.id rfl
@[simp] theorem QH {sz by_ zs n c v1} : opW C hs K ns dst (.mks sz by_ zs n c) v1 e R acc=(match (generalizing:=false) dst with
  | some t=>match (generalizing:=false) vd (ab e) n,vd (ab e) c with
   | .int _ n,.int _ c=>0 <= n /\ n <= c /\ c * by_ <= 140737488355328 /\ doW C hs K ns ⟨⟩ e R acc [(t,.ref (.r (rt t 0)) 0 n.toNat),(rt t 0,.blk sz (List.replicate c.toNat zs))] [(rt t 0,true)]
   | _,_=>False
  | none=>False):=_root_.id rfl
def stM (C : CC) (hs : Option (List Nat)) (K : Env -> Prop) (ns : List aq) (_ : Tag (hs,K,ns)) (e : Env) (R : List Nat) (acc : List (List Nat × List Nat)) (n : Nat) (v : D) (cs : List D) (bs : List Nat) (a : D) : Prop:=match a with
 | .adr (.r b) i off=>bs.contains b=false /\ ev (ab e b) (fun sz es=>go es[i]? (fun r=>off + n <= r.length /\ doW C hs K ns ⟨⟩ e R acc ((b,.blk sz (bE es i off n cs))::cw bs) (stK v [] b)) ⟨⟩) ⟨⟩
 | .adr (.n b i0 o0) i off=>bs=[] /\ (∀ c ∈ cs,av c=true) /\ ev (ab e b) (fun sz0 es0=>go es0[i0]? (fun row0=>jX row0[o0]? (fun sz es=>go es[i]? (fun r=>off + n <= r.length /\ doW C hs K ns ⟨⟩ e R acc [(b,.blk sz0 (bE es0 i0 o0 1 [.own sz (bE es i off n cs)]))] []) ⟨⟩) ⟨⟩) ⟨⟩) ⟨⟩
 | _=>False
@[simp] theorem Ts {n v cs bs b i off} : stM C hs K ns u e R acc n v cs bs (.adr (.r b) i off)=(bs.contains b=false /\ ev (ab e b) (fun sz es=>go es[i]? (fun r=>off + n <= r.length /\ doW C hs K ns ⟨⟩ e R acc ((b,.blk sz (bE es i off n cs))::cw bs) (stK v [] b)) ⟨⟩) ⟨⟩):=_root_.id rfl
@[simp] theorem Tq {n v cs bs b i0 o0 i off} : stM C hs K ns u e R acc n v cs bs (.adr (.n b i0 o0) i off)=(bs=[] /\ (∀ c ∈ cs,av c=true) /\ ev (ab e b) (fun sz0 es0=>go es0[i0]? (fun row0=>jX row0[o0]? (fun sz es=>go es[i]? (fun r=>off + n <= r.length /\ doW C hs K ns ⟨⟩ e R acc [(b,.blk sz0 (bE es0 i0 o0 1 [.own sz (bE es i off n cs)]))] []) ⟨⟩) ⟨⟩) ⟨⟩) ⟨⟩):=_root_.id rfl
@[simp] theorem SH {n a v v1} : opW C hs K ns dst (.st n [] a v) v1 e R acc=(dst=none /\ gx (ab e) (vd (ab e) v) [] (fun cs bs=>cs.length=n /\ stM C hs K ns ⟨⟩ e R acc n (vd (ab e) v) cs bs (vd (ab e) a)) ⟨⟩):=by
 show (dst=none /\ fF (ab e) (vd (ab e) v) [] _)=(dst=none /\ fF (ab e) (vd (ab e) v) [] _)
 congr 1
 congr 1
 funext cs bs
 cases vd (ab e) a <;> try rfl
 rename_i p i off
 cases p with
 | r b =>
  simp only [stM,ev,fI]
  cases ab e b <;> rfl
 | n b i0 o0 =>
  simp only [stM,ev,fI,js]
  cases ab e b <;> rfl
def tI (C : CC) (hs : Option (List Nat)) (K : Env -> Prop) (ns : List aq) (_ : Tag (hs,K,ns)) (e : Env) (R : List Nat) (acc : List (List Nat × List Nat)) (t sz by_ : Nat) (rowsY : List (List D)) (bs : List Nat) (x : D) : Prop:=match x with
 | .nils=>rowsY.length * by_ <= 140737488355328 /\ doW C hs K ns ⟨⟩ e R acc ((t,.ref (.r (rt t 0)) 0 rowsY.length)::(rt t 0,.blk sz rowsY)::cw bs) [(rt t 0,true)]
 | .ref (.r c) k n=>c ≠ rt t 0 /\ bs.contains c=false /\ ev (ab e c) (fun sz' es=>sz'=sz /\ k + n <= es.length /\ (n + rowsY.length) * by_ <= 140737488355328 /\
      doW C hs K ns ⟨⟩ e R acc ((t,.ref (.r (rt t 0)) 0 (n + rowsY.length))::(rt t 0,.blk sz ((es.drop k).take n++rowsY))::(c,.any)::cw bs) [(rt t 0,true)]) ⟨⟩
 | .ref (.n c i o) k n=>c ≠ rt t 0 /\ bs.contains c=false /\ ev (ab e c) (fun sz0 es0=>go es0[i]? (fun row0=>jX row0[o]? (fun sz' es=>sz'=sz /\ k + n <= es.length /\ (n + rowsY.length) * by_ <= 140737488355328 /\
      doW C hs K ns ⟨⟩ e R acc ((t,.ref (.r (rt t 0)) 0 (n + rowsY.length))::(rt t 0,.blk sz ((es.drop k).take n++rowsY))::(c,.blk sz0 (bE es0 i o 1 [.any]))::cw bs) [(rt t 0,true)]) ⟨⟩) ⟨⟩) ⟨⟩
 | _=>False
@[simp] theorem Fd {t sz by_ rowsY bs} : tI C hs K ns u e R acc t sz by_ rowsY bs .nils=(rowsY.length * by_ <= 140737488355328 /\ doW C hs K ns ⟨⟩ e R acc ((t,.ref (.r (rt t 0)) 0 rowsY.length)::(rt t 0,.blk sz rowsY)::cw bs) [(rt t 0,true)]):=_root_.id rfl
@[simp] theorem Rk {t sz by_ rowsY bs c k n} : tI C hs K ns u e R acc t sz by_ rowsY bs (.ref (.r c) k n)=(c ≠ rt t 0 /\ bs.contains c=false /\ ev (ab e c) (fun sz' es=>sz'=sz /\ k + n <= es.length /\ (n + rowsY.length) * by_ <= 140737488355328 /\
      doW C hs K ns ⟨⟩ e R acc ((t,.ref (.r (rt t 0)) 0 (n + rowsY.length))::(rt t 0,.blk sz ((es.drop k).take n++rowsY))::(c,.any)::cw bs) [(rt t 0,true)]) ⟨⟩):=_root_.id rfl
@[simp] theorem Rj {t sz by_ rowsY bs c i o k n} : tI C hs K ns u e R acc t sz by_ rowsY bs (.ref (.n c i o) k n)=(c ≠ rt t 0 /\ bs.contains c=false /\ ev (ab e c) (fun sz0 es0=>go es0[i]? (fun row0=>jX row0[o]? (fun sz' es=>sz'=sz /\ k + n <= es.length /\ (n + rowsY.length) * by_ <= 140737488355328 /\
      doW C hs K ns ⟨⟩ e R acc ((t,.ref (.r (rt t 0)) 0 (n + rowsY.length))::(rt t 0,.blk sz ((es.drop k).take n++rowsY))::(c,.blk sz0 (bE es0 i o 1 [.any]))::cw bs) [(rt t 0,true)]) ⟨⟩) ⟨⟩) ⟨⟩):=_root_.id rfl
@[simp] theorem Qo {sz by_ mv x y t v1} : opW C hs K ns (some t) (.app sz by_ mv x y) v1 e R acc=iW (ab e) mv (vd (ab e) y) sz (fun rowsY bs=>bs.contains (rt t 0)=false /\ tI C hs K ns ⟨⟩ e R acc t sz by_ rowsY bs (vd (ab e) x)) ⟨⟩:=by
 unfold opW iW
 simp only [aA]
 congr 1
 funext rowsY bs
 congr 1
 cases vd (ab e) x <;> try rfl
 rename_i p k n
 cases p with
 | r c =>
  simp only [tI,ev]
  cases ab e c <;> rfl
 | n c i o =>
  simp only [tI,ev,fI,js]
  cases hl : ab e c <;> try rfl
  rename_i sz0 es0
  refine congrArg _ (congrArg _ (propext ⟨?_,?_⟩))
  ·rintro ⟨row0,h1,es,h2,h3⟩
   exact ⟨row0,h1,sz,es,h2,rfl,h3⟩
  ·rintro ⟨row0,h1,sz',es,h2,rfl,h3⟩
   exact ⟨row0,h1,es,h2,h3⟩
@[simp] theorem My {g b n xs sz es} : EA C g hs K ns dst u e R acc b n xs (.blk sz es)=(es.length=n /\ (∀ e ∈ es,∀ c ∈ e,av c=true) /\ (∀ x ∈ xs,bD (fbE (ab e) b) (vd (fbE (ab e) b) x)) /\ rf C g hs K ns dst ⟨⟩ e R acc b sz es (xs.map (dpv (fbE (ab e) b))) (xs.all fun y=>isV (vd (fbE (ab e) b) y))):=_root_.id rfl
@[simp] theorem MA {g xs b k n} : Mz C g hs K ns dst u e R acc xs (.ref (.r b) k n)=(k=0 /\ EA C g hs K ns dst ⟨⟩ e R acc b n xs (ab e b)):=_root_.id rfl
@[simp] theorem Hh {g x xs v1} : opW C hs K ns dst (.callS g x xs) v1 e R acc=(Mz C g hs K ns dst ⟨⟩ e R acc xs (vd (ab e) x)):=by
 cases dst <;> rfl
def yR (n : Nat) (d : D) : Prop:=match d with
 | .blk _ es=>es.length=n /\ ∀ e ∈ es,∀ c ∈ e,bk c=true
 | _=>False
def pD (f : Nat -> D) (b : Nat) (d : D) : Prop:=match d with
 | .ref (.r c) k n=>k=0 /\ c ≠ b /\ yR n (f c)
 | d=>isV d=true
def As (d : D) : D:=match d with
 | .blk sz es=>.own sz es
 | _=>.any
def sF (f : Nat -> D) (d : D) : D:=match d with
 | .ref (.r c) _ _=>As (f c)
 | d=>d
@[simp] theorem HU {n sz es} : yR n (.blk sz es)=(es.length=n /\ ∀ e ∈ es,∀ c ∈ e,bk c=true):=_root_.id rfl
@[simp] theorem Mb {sz es} : As (.blk sz es)=.own sz es:=_root_.id rfl
@[simp] theorem MS {f : Nat -> D} {b : Nat} {x : Opd} : lY f b x=pD f b (vd f x):=by
 unfold lY pD yR
 cases vd f x <;> rfl
@[simp] theorem MT {f : Nat -> D} {x : Opd} : k9 f x=sF f (vd f x):=by
 unfold k9 sF As
 cases vd f x <;> rfl
@[simp] theorem Ff {f : Nat -> D} {b c k n} : pD f b (.ref (.r c) k n)=(k=0 /\ c ≠ b /\ yR n (f c)):=_root_.id rfl
@[simp] theorem Fh {f : Nat -> D} {c k n} : sF f (.ref (.r c) k n)=As (f c):=_root_.id rfl
@[simp] theorem Fe {f : Nat -> D} {b k n} : pD f b (.int k n)=True:=by simp [pD,isV]
@[simp] theorem Fg {f : Nat -> D} {k n} : sF f (.int k n)=.int k n:=_root_.id rfl
def we (C : CC) (g : Nat) (hs : Option (List Nat)) (K : Env -> Prop) (ns : List aq) (t : Nat) (_ : Tag (hs,K,ns)) (e : Env) (R : List Nat) (acc : List (List Nat × List Nat)) (sz : Nat) (W : List (List D)) (ds : List D) (q : Nat × D) : Prop :=
 ∃ es' : List (List D),(∀ e ∈ es',e.length=sz /\ ∀ c ∈ e,bk c=true) /\ C g (.own sz W::ds) .any [.own sz es',.nils,.nils] /\ doW C hs K ns ⟨⟩ e R acc [(t,.ref (.r (rt t 0)) 0 es'.length),(rt t 0,.blk sz es'),q] [(rt t 0,true)]
theorem md {g : Nat} {hs : Option (List Nat)} {K : Env -> Prop} {ns : List aq} {t : Nat} {u : Tag (hs,K,ns)} {e : Env} {R : List Nat} {acc : List (List Nat × List Nat)} {sz : Nat} {W es' : List (List D)} {ds : List D} {q : Nat × D} (h : C g (.own sz W::ds) .any [.own sz es',.nils,.nils]) (hu : ∀ e ∈ es',e.length=sz /\ ∀ c ∈ e,bk c=true)
  (hk : doW C hs K ns ⟨⟩ e R acc [(t,.ref (.r (rt t 0)) 0 es'.length),(rt t 0,.blk sz es'),q] [(rt t 0,true)]) : we C g hs K ns t u e R acc sz W ds q:=⟨es',hu,h,hk⟩
def wd (C : CC) (g : Nat) (hs : Option (List Nat)) (K : Env -> Prop) (ns : List aq) (t : Nat) (_ : Tag (hs,K,ns)) (e : Env) (R : List Nat) (acc : List (List Nat × List Nat)) (xs : List Opd) (d : D) : Prop:=match d with
 | .ref (.r b) k n=>ev (ab e b) (fun sz es=>k + n <= es.length /\ b ≠ rt t 0 /\ 0 < sz /\ (∀ e ∈ (es.drop k).take n,∀ c ∈ e,bk c=true) /\ (∀ x ∈ xs,lY (ab e) b x) /\ we C g hs K ns t ⟨⟩ e R acc sz ((es.drop k).take n) (xs.map (k9 (ab e))) (b,.any)) ⟨⟩
 | .ref (.n b i o) k n=>ev (ab e b) (fun sz0 es0=>go es0[i]? (fun row0=>jX row0[o]? (fun sz es=>k + n <= es.length /\ b ≠ rt t 0 /\ 0 < sz /\ (∀ e ∈ (es.drop k).take n,∀ c ∈ e,bk c=true) /\ (∀ x ∈ xs,lY (ab e) b x) /\
   we C g hs K ns t ⟨⟩ e R acc sz ((es.drop k).take n) (xs.map (k9 (ab e))) (b,.blk sz0 (bE es0 i o 1 [.any]))) ⟨⟩) ⟨⟩) ⟨⟩
 | _=>False
@[simp] theorem RS {g xs t b k n} : wd C g hs K ns t u e R acc xs (.ref (.r b) k n)=ev (ab e b) (fun sz es=>k + n <= es.length /\ b ≠ rt t 0 /\ 0 < sz /\ (∀ e ∈ (es.drop k).take n,∀ c ∈ e,bk c=true) /\ (∀ x ∈ xs,lY (ab e) b x) /\ we C g hs K ns t ⟨⟩ e R acc sz ((es.drop k).take n) (xs.map (k9 (ab e))) (b,.any)) ⟨⟩:=_root_.id rfl
@[simp] theorem RQ {g xs t b i o k n} : wd C g hs K ns t u e R acc xs (.ref (.n b i o) k n)=ev (ab e b) (fun sz0 es0=>go es0[i]? (fun row0=>jX row0[o]? (fun sz es=>k + n <= es.length /\ b ≠ rt t 0 /\ 0 < sz /\ (∀ e ∈ (es.drop k).take n,∀ c ∈ e,bk c=true) /\ (∀ x ∈ xs,lY (ab e) b x) /\
   we C g hs K ns t ⟨⟩ e R acc sz ((es.drop k).take n) (xs.map (k9 (ab e))) (b,.blk sz0 (bE es0 i o 1 [.any]))) ⟨⟩) ⟨⟩) ⟨⟩:=_root_.id rfl
@[simp] theorem Hc {g x xs t v1} : opW C hs K ns (some t) (.callE g x xs) v1 e R acc=wd C g hs K ns t ⟨⟩ e R acc xs (vd (ab e) x):=by
 unfold opW
 simp only [aA]
 cases vd (ab e) x <;> try rfl
 rename_i p k n
 cases p with
 | r b =>
  simp only [wd,ev,aW,Pa.root,db]
  cases ab e b <;> rfl
 | n b i o =>
  simp only [wd,ev,fI,js,aW,Pa.root,db]
  cases hl : ab e b <;> try rfl
  rename_i sz0 es0
  simp only
  cases hi : es0[i]? with
  | none=>simp
  | some row0 =>
   simp only [Option.getD_some,Option.some.injEq,exists_eq_left']
   cases ho : row0[o]? with
   | none=>simp
   | some d =>
    cases d
    case own sz es=>exact propext ⟨fun h=>⟨sz,es,rfl,h⟩,fun ⟨sz',es',h0,h⟩=>by cases h0;exact h⟩
    all_goals simp
@[simp] theorem F8 {f : Nat -> D} {b k n sz es} : ca f (.ref (.r b) k n) (.own sz es)=(k=0 /\ n=es.length /\ f b=.blk sz es):=_root_.id rfl
@[simp] theorem F6 {f : Nat -> D} {b k n sz es} : ca f (.adr (.r b) k n) (.blk sz es)=(k=0 /\ n=0 /\ f b=.blk sz es):=_root_.id rfl
@[simp] theorem F7 {f : Nat -> D} {k n r} : ca f (.int k n) r=(r=.int k n):=by simp [ca]
@[simp] theorem Ds {f : Nat -> D} {n r} : ca f (.bool n) r=(r=.bool n):=by simp [ca]
@[simp] theorem F9 {f : Nat -> D} {n r} : ca f (.str n) r=(r=.str n):=by simp [ca]
@[simp] theorem Du {f : Nat -> D} {r} : ca f .nils r=(r=.nils):=by simp [ca]
@[simp] theorem Dt {f : Nat -> D} {r} : ca f .nilp r=(r=.nilp):=by simp [ca]
@[simp] theorem Jg {f : Nat -> D} {n r} : ca f (.sl n) r=(r=.sl n):=by simp [ca]
@[simp] theorem F5 {f : Nat -> D} {n r} : ca f (.agg n) r=(r=.agg n):=by simp [ca]
@[simp] theorem Hw {t d} : j2 (some t) d=[(t,d)]:=_root_.id rfl
@[simp] theorem Hv {d} : j2 none d=[]:=_root_.id rfl
@[simp] theorem EG {t} : dD (some t)=[(t,.tup [])]:=_root_.id rfl
@[simp] theorem EF : dD none=[]:=_root_.id rfl
def DK (C : CC) (g : Nat) (hs : Option (List Nat)) (K : Env -> Prop) (ns : List aq) (dst : Option Nat) (_ : Tag (hs,K,ns)) (e : Env) (R : List Nat) (acc : List (List Nat × List Nat)) (b sz : Nat) (es : List (List D)) (ds : List D) : Prop :=
 ∃ d,∃ es' : List (List D),0 < es'.length /\ C g (.blk sz es::ds) d [.blk sz es'] /\ doW C hs K ns ⟨⟩ e R acc (j2 dst d++[(b,.blk sz es')]) [(b,false)]
theorem bY {g : Nat} {hs : Option (List Nat)} {K : Env -> Prop} {ns : List aq} {dst : Option Nat} {u : Tag (hs,K,ns)} {e : Env} {R : List Nat} {acc : List (List Nat × List Nat)} {b sz : Nat} {es es' : List (List D)} {ds : List D} {d : D} (h : C g (.blk sz es::ds) d [.blk sz es']) (hp : 0 < es'.length)
  (hk : doW C hs K ns ⟨⟩ e R acc (j2 dst d++[(b,.blk sz es')]) [(b,false)]) : DK C g hs K ns dst u e R acc b sz es ds:=⟨d,es',hp,h,hk⟩
def Lh (C : CC) (g : Nat) (hs : Option (List Nat)) (K : Env -> Prop) (ns : List aq) (dst : Option Nat) (_ : Tag (hs,K,ns)) (e : Env) (R : List Nat) (acc : List (List Nat × List Nat)) (xs : List Opd) (d : D) : Prop:=match d with
 | .adr (.r b) i off=>i=0 /\ off=0 /\ ev (ab e b) (fun sz es=>0 < es.length /\ (∀ x ∈ xs,isV (vd (ab e) x)=true) /\ DK C g hs K ns dst ⟨⟩ e R acc b sz es (xs.map (vd (ab e)))) ⟨⟩
 | _=>False
@[simp] theorem Sx {g xs b i off} : Lh C g hs K ns dst u e R acc xs (.adr (.r b) i off)=(i=0 /\ off=0 /\ ev (ab e b) (fun sz es=>0 < es.length /\ (∀ x ∈ xs,isV (vd (ab e) x)=true) /\ DK C g hs K ns dst ⟨⟩ e R acc b sz es (xs.map (vd (ab e)))) ⟨⟩):=_root_.id rfl
@[simp] theorem Hf {g x xs v1} : opW C hs K ns dst (.callL g x xs) v1 e R acc=Lh C g hs K ns dst ⟨⟩ e R acc xs (vd (ab e) x):=by
 unfold opW
 simp only [aA]
 cases vd (ab e) x <;> first | rfl | skip
def tS (C : CC) (hs : Option (List Nat)) (K : Env -> Prop) (ns : List aq) (dst : Option Nat) (_ : Tag (hs,K,ns)) (e : Env) (R : List Nat) (acc : List (List Nat × List Nat)) (zs : List D) (d : D) : Prop:=match d with
 | .nils=>doW C hs K ns ⟨⟩ e R acc (dD dst) []
 | .ref (.r b) k n=>ev (ab e b) (fun sz es=>k + n <= es.length /\ zs.length=sz /\ (∀ e ∈ es,∀ c ∈ e,av c=true) /\ (∀ c ∈ zs,av c=true) /\ doW C hs K ns ⟨⟩ e R acc (dD dst++[(b,.blk sz (dF es k n zs))]) []) ⟨⟩
 | .ref (.n b i o) k n=>ev (ab e b) (fun sz0 es0=>go es0[i]? (fun row0=>jX row0[o]? (fun sz es=>k + n <= es.length /\ zs.length=sz /\ (∀ c ∈ zs,av c=true) /\ doW C hs K ns ⟨⟩ e R acc (dD dst++[(b,.blk sz0 (bE es0 i o 1 [.own sz (dF es k n zs)]))]) []) ⟨⟩) ⟨⟩) ⟨⟩
 | _=>False
@[simp] theorem Ro {zs b k n} : tS C hs K ns dst u e R acc zs (.ref (.r b) k n)=ev (ab e b) (fun sz es=>k + n <= es.length /\ zs.length=sz /\ (∀ e ∈ es,∀ c ∈ e,av c=true) /\ (∀ c ∈ zs,av c=true) /\ doW C hs K ns ⟨⟩ e R acc (dD dst++[(b,.blk sz (dF es k n zs))]) []) ⟨⟩:=_root_.id rfl
@[simp] theorem Rn {zs b i o k n} : tS C hs K ns dst u e R acc zs (.ref (.n b i o) k n)=ev (ab e b) (fun sz0 es0=>go es0[i]? (fun row0=>jX row0[o]? (fun sz es=>k + n <= es.length /\ zs.length=sz /\ (∀ c ∈ zs,av c=true) /\ doW C hs K ns ⟨⟩ e R acc (dD dst++[(b,.blk sz0 (bE es0 i o 1 [.own sz (dF es k n zs)]))]) []) ⟨⟩) ⟨⟩) ⟨⟩:=_root_.id rfl
@[simp] theorem FF {zs} : tS C hs K ns dst u e R acc zs .nils=doW C hs K ns ⟨⟩ e R acc (dD dst) []:=_root_.id rfl
@[simp] theorem Qv {zs x v1} : opW C hs K ns dst (.clr zs x) v1 e R acc=tS C hs K ns dst ⟨⟩ e R acc zs (vd (ab e) x):=by
 unfold opW
 simp only [aA]
 cases vd (ab e) x <;> try rfl
 rename_i p k n
 cases p with
 | r b =>
  simp only [tS,ev]
  cases ab e b <;> rfl
 | n b i o =>
  simp only [tS,ev,fI,js]
  cases ab e b <;> rfl
def vO (C : CC) (g : Nat) (hs : Option (List Nat)) (K : Env -> Prop) (ns : List aq) (dst : Option Nat) (_ : Tag (hs,K,ns)) (e : Env) (R : List Nat) (acc : List (List Nat × List Nat)) (b i o sz0 sz : Nat) (es0 es : List (List D)) (ds : List D) : Prop :=
 ∃ es' : List (List D),es'.length=es.length /\ (∀ e ∈ es',e.length=sz /\ ∀ c ∈ e,av c=true) /\ C g (.own sz es::ds) .any [.own sz es',.nilp] /\ doW C hs K ns ⟨⟩ e R acc (dD dst++[(b,.blk sz0 (bE es0 i o 1 [.own sz es']))]) []
theorem vP {g : Nat} {hs : Option (List Nat)} {K : Env -> Prop} {ns : List aq} {t : Nat} {u : Tag (hs,K,ns)} {e : Env} {R : List Nat} {acc : List (List Nat × List Nat)} {b i o sz0 sz : Nat} {es0 es es' : List (List D)} {ds : List D} (h : C g (.own sz es::ds) .any [.own sz es',.nilp]) (hl : es'.length=es.length) (hu : ∀ e ∈ es',e.length=sz /\ ∀ c ∈ e,av c=true)
  (hk : doW C hs K ns ⟨⟩ e R acc [(t,.tup []),(b,.blk sz0 (bE es0 i o 1 [.own sz es']))] []) : vO C g hs K ns (some t) u e R acc b i o sz0 sz es0 es ds:=⟨es',hl,hu,h,hk⟩
def C5 (C : CC) (g : Nat) (hs : Option (List Nat)) (K : Env -> Prop) (ns : List aq) (dst : Option Nat) (_ : Tag (hs,K,ns)) (e : Env) (R : List Nat) (acc : List (List Nat × List Nat)) (xs : List Opd) (d : D) : Prop:=match d with
 | .ref (.n b i o) k n=>k=0 /\ ev (ab e b) (fun sz0 es0=>go es0[i]? (fun row0=>jX row0[o]? (fun sz es=>es.length=n /\ (∀ x ∈ xs,isV (vd (ab e) x)=true) /\ vO C g hs K ns dst ⟨⟩ e R acc b i o sz0 sz es0 es (xs.map (vd (ab e)))) ⟨⟩) ⟨⟩) ⟨⟩
 | _=>False
@[simp] theorem Rm {g xs b i o k n} : C5 C g hs K ns dst u e R acc xs (.ref (.n b i o) k n)=(k=0 /\ ev (ab e b) (fun sz0 es0=>go es0[i]? (fun row0=>jX row0[o]? (fun sz es=>es.length=n /\ (∀ x ∈ xs,isV (vd (ab e) x)=true) /\ vO C g hs K ns dst ⟨⟩ e R acc b i o sz0 sz es0 es (xs.map (vd (ab e)))) ⟨⟩) ⟨⟩) ⟨⟩):=_root_.id rfl
@[simp] theorem Hg {g x xs v1} : opW C hs K ns dst (.callN g x xs) v1 e R acc=C5 C g hs K ns dst ⟨⟩ e R acc xs (vd (ab e) x):=by
 unfold opW
 simp only [aA]
 cases vd (ab e) x <;> try rfl
 rename_i p k n
 cases p with
 | r b=>rfl
 | n b i o =>
  simp only [C5,ev,fI,js]
  cases ab e b <;> rfl
@[simp] theorem He {g xs v1} : opW C hs K ns dst (.callG g xs) v1 e R acc=((∀ x ∈ xs,bD (ab e) (vd (ab e) x)) /\ CT C g hs K ns dst ⟨⟩ e R acc (xs.map (dpv (ab e)))):=_root_.id rfl
@[simp] theorem Hb {g xs t v1} : opW C hs K ns (some t) (.callA g xs) v1 e R acc=((∀ x ∈ xs,isV (vd (ab e) x)=true) /\ rb C g hs K ns t ⟨⟩ e R acc (xs.map (vd (ab e)))):=_root_.id rfl
@[simp] theorem Hd {g xs t v1} : opW C hs K ns (some t) (.callF g xs) v1 e R acc=((∀ x ∈ xs,bD (ab e) (vd (ab e) x)) /\ vN C g hs K ns t ⟨⟩ e R acc (xs.map (dpv (ab e)))):=_root_.id rfl
@[simp] theorem LS {g xs x0 v1} : opW C hs K ns dst (.call g xs x0) v1 e R acc=((∀ x ∈ xs,bD (ab e) (vd (ab e) x)) /\ pG C g hs K ns dst ⟨⟩ e R acc (xs.all fun x=>isV (vd (ab e) x)) (xs.map (dpv (ab e)))):=_root_.id rfl
def la (C : CC) (hs : Option (List Nat)) (K : Env -> Prop) (ns : List aq) (t : Nat) (_ : Tag (hs,K,ns)) (e : Env) (R : List Nat) (acc : List (List Nat × List Nat)) (d : D) : Prop:=match d with
 | .ref (.r c) k n=>if c=rt t 0 then doW C hs K ns ⟨⟩ e R acc [(t,.ref (.r c) k n)] [] else match ab e c with
  | .blk sz es=>doW C hs K ns ⟨⟩ e R acc [(t,.ref (.r (rt t 0)) k n),(rt t 0,.blk sz es),(c,.any)] [(rt t 0,true)]
  | _=>False
 | d=>isS d=true /\ doW C hs K ns ⟨⟩ e R acc [(t,d)] []
@[simp] theorem Qp {t x v1} : opW C hs K ns (some t) (.asg x) v1 e R acc=la C hs K ns t ⟨⟩ e R acc (vd (ab e) x):=_root_.id rfl
@[simp] theorem HW {t c k n} : la C hs K ns t u e R acc (.ref (.r c) k n)=(if c=rt t 0 then doW C hs K ns ⟨⟩ e R acc [(t,.ref (.r c) k n)] [] else match ab e c with
  | .blk sz es=>doW C hs K ns ⟨⟩ e R acc [(t,.ref (.r (rt t 0)) k n),(rt t 0,.blk sz es),(c,.any)] [(rt t 0,true)]
  | _=>False):=_root_.id rfl
@[simp] theorem Fj {t b i o k n} : la C hs K ns t u e R acc (.ref (.n b i o) k n)=doW C hs K ns ⟨⟩ e R acc [(t,.ref (.n b i o) k n)] []:=by simp [la]
@[simp] theorem Fi {t} : la C hs K ns t u e R acc .nils=doW C hs K ns ⟨⟩ e R acc [(t,.nils)] []:=by simp [la]
@[simp] theorem MU {t es} : la C hs K ns t u e R acc (.sl es)=doW C hs K ns ⟨⟩ e R acc [(t,.sl es)] []:=by simp [la]
@[simp] theorem HX {t b es} : la C hs K ns t u e R acc (slx b es)=doW C hs K ns ⟨⟩ e R acc [(t,slx b es)] []:=by
 rcases gR b es with h | ⟨h,_⟩ <;> rw [h] <;> simp
@[simp] theorem HV {t} : la C hs K ns t u e R acc .any=doW C hs K ns ⟨⟩ e R acc [(t,.any)] []:=by simp [la]
@[simp] theorem HY {t ds} : la C hs K ns t u e R acc (.tup ds)=doW C hs K ns ⟨⟩ e R acc [(t,.tup ds)] []:=by simp [la]
def rF (C : CC) (hs : Option (List Nat)) (K : Env -> Prop) (ns : List aq) (t : Nat) (_ : Tag (hs,K,ns)) (e : Env) (R : List Nat) (acc : List (List Nat × List Nat)) (d : D) : Prop:=match d with
 | .ref (.r c) k n=>aO (ab e) (.ref (.r c) k n) /\ doW C hs K ns ⟨⟩ e R acc [(t,dp1 (ab e) (.ref (.r c) k n)),(c,.any)] []
 | d=>isS d=true /\ doW C hs K ns ⟨⟩ e R acc [(t,d)] []
@[simp] theorem QB {t x v1} : opW C hs K ns (some t) (.frz x) v1 e R acc=rF C hs K ns t ⟨⟩ e R acc (vd (ab e) x):=_root_.id rfl
@[simp] theorem Ja {t c k n} : rF C hs K ns t u e R acc (.ref (.r c) k n)=(aO (ab e) (.ref (.r c) k n) /\ doW C hs K ns ⟨⟩ e R acc [(t,dp1 (ab e) (.ref (.r c) k n)),(c,.any)] []):=_root_.id rfl
@[simp] theorem F2 {t} : rF C hs K ns t u e R acc .nils=doW C hs K ns ⟨⟩ e R acc [(t,.nils)] []:=by simp [rF]
@[simp] theorem NH {t es} : rF C hs K ns t u e R acc (.sl es)=doW C hs K ns ⟨⟩ e R acc [(t,.sl es)] []:=by simp [rF]
@[simp] theorem Jb {t b es} : rF C hs K ns t u e R acc (slx b es)=doW C hs K ns ⟨⟩ e R acc [(t,slx b es)] []:=by
 rcases gR b es with h | ⟨h,_⟩ <;> rw [h] <;> simp
def Af (C : CC) (hs : Option (List Nat)) (K : Env -> Prop) (ns : List aq) (dst : Option Nat) (_ : Tag (hs,K,ns)) (e : Env) (R : List Nat) (acc : List (List Nat × List Nat)) (c i off : Nat) (d : D) : Prop:=match d with
 | .blk _ es=>∃ r,es[i]? = some r /\ ∃ d,r[off]? = some d /\ dx dst (kOf C hs K ns e R acc) (ldc (.r c) i off d)
 | _=>False
@[simp] theorem La {c i off sz es} : Af C hs K ns dst u e R acc c i off (.blk sz es)=go es[i]? (fun r=>yV r[off]? (fun d=>dW C hs K ns dst ⟨⟩ e R acc (ldc (.r c) i off d)) ⟨⟩) ⟨⟩:=by
 simp only [Af,fI,yW];rfl
def Lb (C : CC) (hs : Option (List Nat)) (K : Env -> Prop) (ns : List aq) (dst : Option Nat) (_ : Tag (hs,K,ns)) (e : Env) (R : List Nat) (acc : List (List Nat × List Nat)) (q : Nat) (d : D) : Prop:=match d with
 | .adr (.r c) i off=>off=q /\ Af C hs K ns dst ⟨⟩ e R acc c i off (ab e c)
 | _=>False
@[simp] theorem Lc {q c i off} : Lb C hs K ns dst u e R acc q (.adr (.r c) i off)=(off=q /\ Af C hs K ns dst ⟨⟩ e R acc c i off (ab e c)):=_root_.id rfl
@[simp] theorem QE {q x v1} : opW C hs K ns dst (.ldQ q x) v1 e R acc=Lb C hs K ns dst ⟨⟩ e R acc q (vd (ab e) x):=_root_.id rfl
def yQ (C : CC) (hs : Option (List Nat)) (K : Env -> Prop) (ns : List aq) (t : Nat) (_ : Tag (hs,K,ns)) (e : Env) (R : List Nat) (acc : List (List Nat × List Nat)) (sz by_ : Nat) (rowsY : List (List D)) (c i o k n : Nat) (d : D) : Prop:=match d with
 | .blk sz0 es0=>∃ row0,es0[i]? = some row0 /\ ∃ es,row0[o]? = some (.own sz es) /\ k + n <= es.length /\ (n + rowsY.length) * by_ <= 140737488355328 /\
   kOf C hs K ns e R acc [(t,.ref (.r (rt t 0)) 0 (n + rowsY.length)),(rt t 0,.blk sz ((es.drop k).take n++rowsY)),(c,.blk sz0 (bE es0 i o 1 [.any]))] [(rt t 0,true)]
 | _=>False
@[simp] theorem HR {t sz by_ rowsY c i o k n sz0 es0} : yQ C hs K ns t u e R acc sz by_ rowsY c i o k n (.blk sz0 es0)=go es0[i]? (fun row0=>jX row0[o]? (fun sz' es=>sz'=sz /\ k + n <= es.length /\ (n + rowsY.length) * by_ <= 140737488355328 /\
   doW C hs K ns ⟨⟩ e R acc [(t,.ref (.r (rt t 0)) 0 (n + rowsY.length)),(rt t 0,.blk sz ((es.drop k).take n++rowsY)),(c,.blk sz0 (bE es0 i o 1 [.any]))] [(rt t 0,true)]) ⟨⟩) ⟨⟩:=by
 simp only [yQ,fI,js]
 refine propext ⟨?_,?_⟩
 ·rintro ⟨row0,h1,es,h2,h3,h4,h5⟩
  exact ⟨row0,h1,sz,es,h2,rfl,h3,h4,h5⟩
 ·rintro ⟨row0,h1,sz',es,h2,rfl,h3,h4,h5⟩
  exact ⟨row0,h1,es,h2,h3,h4,h5⟩
def HS (C : CC) (hs : Option (List Nat)) (K : Env -> Prop) (ns : List aq) (t : Nat) (_ : Tag (hs,K,ns)) (e : Env) (R : List Nat) (acc : List (List Nat × List Nat)) (q sz by_ : Nat) (yd : D) (d : D) : Prop:=match d with
 | .ref (.n c i o') k n=>o'=q /\ fC (ab e) false yd sz fun rowsY bs=>bs=[] /\ c ≠ rt t 0 /\ yQ C hs K ns t ⟨⟩ e R acc sz by_ rowsY c i o' k n (ab e c)
 | _=>False
@[simp] theorem HT {t q sz by_ yd c i o k n} : HS C hs K ns t u e R acc q sz by_ yd (.ref (.n c i o) k n)=(o=q /\ iW (ab e) false yd sz (fun rowsY bs=>bs=[] /\ c ≠ rt t 0 /\ yQ C hs K ns t ⟨⟩ e R acc sz by_ rowsY c i o k n (ab e c)) ⟨⟩):=_root_.id rfl
@[simp] theorem LP {t q sz by_ x y v1} : opW C hs K ns (some t) (.appQ q sz by_ x y) v1 e R acc=HS C hs K ns t ⟨⟩ e R acc q sz by_ (vd (ab e) y) (vd (ab e) x):=_root_.id rfl
def C8 (C : CC) (hs : Option (List Nat)) (K : Env -> Prop) (ns : List aq) (t : Nat) (_ : Tag (hs,K,ns)) (e : Env) (R : List Nat) (acc : List (List Nat × List Nat)) (sz : Nat) (rows : List (List D)) (b k n : Nat) (d : D) : Prop:=match d with
 | .blk sz' es=>sz'=sz /\ k + n <= es.length /\ (∀ e ∈ es,∀ c ∈ e,av c=true) /\ (∀ e ∈ rows,∀ c ∈ e,av c=true) /\ kOf C hs K ns e R acc [(t,.int .i64 (min rows.length n : Nat)),(b,.blk sz (lf es k (rows.take n)))] []
 | _=>False
@[simp] theorem Iw {t sz rows b k n sz' es} : C8 C hs K ns t u e R acc sz rows b k n (.blk sz' es)=(sz'=sz /\ k + n <= es.length /\ (∀ e ∈ es,∀ c ∈ e,av c=true) /\ (∀ e ∈ rows,∀ c ∈ e,av c=true) /\ doW C hs K ns ⟨⟩ e R acc [(t,.int .i64 (min rows.length n : Nat)),(b,.blk sz (lf es k (rows.take n)))] []):=_root_.id rfl
def Ix (C : CC) (hs : Option (List Nat)) (K : Env -> Prop) (ns : List aq) (t : Nat) (_ : Tag (hs,K,ns)) (e : Env) (R : List Nat) (acc : List (List Nat × List Nat)) (sz : Nat) (rows : List (List D)) (d : D) : Prop:=match d with
 | .ref (.r b) k n=>(n=0 -> kOf C hs K ns e R acc [(t,.int .i64 0)] []) /\ (0 < n -> C8 C hs K ns t ⟨⟩ e R acc sz rows b k n (ab e b))
 | _=>False
@[simp] theorem Iy {t sz rows b k n} : Ix C hs K ns t u e R acc sz rows (.ref (.r b) k n)=((n=0 -> doW C hs K ns ⟨⟩ e R acc [(t,.int .i64 0)] []) /\ (0 < n -> C8 C hs K ns t ⟨⟩ e R acc sz rows b k n (ab e b))):=_root_.id rfl
@[simp] theorem Qw {t sz x y v1} : opW C hs K ns (some t) (.cpy sz x y) v1 e R acc=iW (ab e) false (vd (ab e) y) sz (fun rows bs=>bs=[] /\ 0 < rows.length /\ Ix C hs K ns t ⟨⟩ e R acc sz rows (vd (ab e) x)) ⟨⟩:=_root_.id rfl
def DI (C : CC) (hs : Option (List Nat)) (K : Env -> Prop) (ns : List aq) (t : Nat) (_ : Tag (hs,K,ns)) (e : Env) (R : List Nat) (acc : List (List Nat × List Nat)) (n c : Nat) (d : D) : Prop:=match d with
 | .blk _ [row]=>row.length=n /\ okR (.agg row)=true /\ (aM t (.agg row)).all (fun p=>p.1 != c)=true /\ doW C hs K ns ⟨⟩ e R acc ((t,dY t (.agg row))::(c,.any)::aM t (.agg row)) (dM t (.agg row))
 | _=>False
@[simp] theorem KY {t n c sz row} : DI C hs K ns t u e R acc n c (.blk sz [row])=(row.length=n /\ okR (.agg row)=true /\ (aM t (.agg row)).all (fun p=>p.1 != c)=true /\ doW C hs K ns ⟨⟩ e R acc ((t,dY t (.agg row))::(c,.any)::aM t (.agg row)) (dM t (.agg row))):=_root_.id rfl
def KZ (C : CC) (hs : Option (List Nat)) (K : Env -> Prop) (ns : List aq) (t : Nat) (_ : Tag (hs,K,ns)) (e : Env) (R : List Nat) (acc : List (List Nat × List Nat)) (n : Nat) (d : D) : Prop:=match d with
 | .adr (.r c) i off=>i=0 /\ off=0 /\ DI C hs K ns t ⟨⟩ e R acc n c (ab e c)
 | _=>False
@[simp] theorem K0 {t n c i off} : KZ C hs K ns t u e R acc n (.adr (.r c) i off)=(i=0 /\ off=0 /\ DI C hs K ns t ⟨⟩ e R acc n c (ab e c)):=_root_.id rfl
@[simp] theorem QD {t n x v1} : opW C hs K ns (some t) (.ldM n x) v1 e R acc=KZ C hs K ns t ⟨⟩ e R acc n (vd (ab e) x):=_root_.id rfl
def Ae (C : CC) (hs : Option (List Nat)) (K : Env -> Prop) (ns : List aq) (t : Nat) (_ : Tag (hs,K,ns)) (e : Env) (R : List Nat) (acc : List (List Nat × List Nat)) (n c i off : Nat) (d : D) : Prop:=match d with
 | .blk _ es=>∃ r,es[i]? = some r /\ off + n <= r.length /\ doW C hs K ns ⟨⟩ e R acc [(t,.agg (((r.drop off).take n).map aH)),(c,.any)] []
 | _=>False
@[simp] theorem KV {t n c i off sz es} : Ae C hs K ns t u e R acc n c i off (.blk sz es)=go es[i]? (fun r=>off + n <= r.length /\ doW C hs K ns ⟨⟩ e R acc [(t,.agg (((r.drop off).take n).map aH)),(c,.any)] []) ⟨⟩:=by
 simp only [Ae,fI]
def KW (C : CC) (hs : Option (List Nat)) (K : Env -> Prop) (ns : List aq) (t : Nat) (_ : Tag (hs,K,ns)) (e : Env) (R : List Nat) (acc : List (List Nat × List Nat)) (n : Nat) (d : D) : Prop:=match d with
 | .adr (.r c) i off=>Ae C hs K ns t ⟨⟩ e R acc n c i off (ab e c)
 | _=>False
@[simp] theorem KX {t n c i off} : KW C hs K ns t u e R acc n (.adr (.r c) i off)=Ae C hs K ns t ⟨⟩ e R acc n c i off (ab e c):=_root_.id rfl
@[simp] theorem QC {t n x v1} : opW C hs K ns (some t) (.ldF n x) v1 e R acc=KW C hs K ns t ⟨⟩ e R acc n (vd (ab e) x):=_root_.id rfl
def Et (C : CC) (hs : Option (List Nat)) (K : Env -> Prop) (ns : List aq) (t : Nat) (_ : Tag (hs,K,ns)) (e : Env) (R : List Nat) (acc : List (List Nat × List Nat)) (len sz c : Nat) (d : D) : Prop:=match d with
 | .blk _ [row]=>0 < len /\ 0 < sz /\ row.length=len * sz /\ (∀ d ∈ row,av d=true) /\ doW C hs K ns ⟨⟩ e R acc [(t,.ref (.r (rt t 0)) 0 len),(rt t 0,.blk sz (ce sz len row)),(c,.any)] [(rt t 0,true)]
 | _=>False
@[simp] theorem Mr {t len sz c sz0 row} : Et C hs K ns t u e R acc len sz c (.blk sz0 [row])=(0 < len /\ 0 < sz /\ row.length=len * sz /\ (∀ d ∈ row,av d=true) /\ doW C hs K ns ⟨⟩ e R acc [(t,.ref (.r (rt t 0)) 0 len),(rt t 0,.blk sz (ce sz len row)),(c,.any)] [(rt t 0,true)]):=_root_.id rfl
def Ms (C : CC) (hs : Option (List Nat)) (K : Env -> Prop) (ns : List aq) (t : Nat) (_ : Tag (hs,K,ns)) (e : Env) (R : List Nat) (acc : List (List Nat × List Nat)) (len sz : Nat) (d : D) : Prop:=match d with
 | .adr (.r c) i off=>i=0 /\ off=0 /\ c ≠ rt t 0 /\ Et C hs K ns t ⟨⟩ e R acc len sz c (ab e c)
 | _=>False
@[simp] theorem Mt {t len sz c i off} : Ms C hs K ns t u e R acc len sz (.adr (.r c) i off)=(i=0 /\ off=0 /\ c ≠ rt t 0 /\ Et C hs K ns t ⟨⟩ e R acc len sz c (ab e c)):=_root_.id rfl
@[simp] theorem QO {len sz x t v1} : opW C hs K ns (some t) (.slM len sz x) v1 e R acc=Ms C hs K ns t ⟨⟩ e R acc len sz (vd (ab e) x):=_root_.id rfl
def iy (C : CC) (hs : Option (List Nat)) (K : Env -> Prop) (ns : List aq) (dst : Option Nat) (_ : Tag (hs,K,ns)) (e : Env) (R : List Nat) (acc : List (List Nat × List Nat)) (d : D) : Prop:=match d with
 | .agx ds=>dW C hs K ns dst ⟨⟩ e R acc (.ptx ds)
 | .agg ds=>dW C hs K ns dst ⟨⟩ e R acc (.ptr ds)
 | d=>av d=true /\ dW C hs K ns dst ⟨⟩ e R acc (.ptr [d])
@[simp] theorem C1 {ds : List D} : dQ (.agg ds)=ds:=_root_.id rfl
@[simp] theorem C2 {k n} : dQ (.int k n)=[.int k n]:=_root_.id rfl
@[simp] theorem C3 {n} : dQ (.str n)=[.str n]:=_root_.id rfl
@[simp] theorem BH {n} : dQ (.bool n)=[.bool n]:=_root_.id rfl
@[simp] theorem FE {n} : dQ (.sl n)=[.sl n]:=_root_.id rfl
@[simp] theorem F1 {f : Nat -> D} {es} : gF f [] es=es:=_root_.id rfl
@[simp] theorem Dn {f : Nat -> D} {p ps es} : gF f (p::ps) es=gF f ps (es.set p.1 (dQ (vd f p.2))):=_root_.id rfl
@[simp] theorem LQ {sz len zs parts v1} : opW C hs K ns dst (.blsF sz len zs parts) v1 e R acc=((∀ p ∈ parts,p.1 < len /\ (dQ (vd (ab e) p.2)).length=sz /\ ∀ c ∈ dQ (vd (ab e) p.2),av c=true) /\ 0 < len /\
   (∀ r ∈ gF (ab e) parts (List.replicate len zs),∀ c ∈ r,av c=true) /\ dW C hs K ns dst ⟨⟩ e R acc (.sl (gF (ab e) parts (List.replicate len zs)))):=_root_.id rfl
@[simp] theorem LR {x v1} : opW C hs K ns dst (.boxF x) v1 e R acc=iy C hs K ns dst ⟨⟩ e R acc (vd (ab e) x):=_root_.id rfl
@[simp] theorem Ig {ds} : iy C hs K ns dst u e R acc (.agx ds)=dW C hs K ns dst ⟨⟩ e R acc (.ptx ds):=_root_.id rfl
@[simp] theorem If {ds} : iy C hs K ns dst u e R acc (.agg ds)=dW C hs K ns dst ⟨⟩ e R acc (.ptr ds):=_root_.id rfl
@[simp] theorem Ih {k n} : iy C hs K ns dst u e R acc (.int k n)=dW C hs K ns dst ⟨⟩ e R acc (.ptr [.int k n]):=by simp [iy]
@[simp] theorem Fk {n} : iy C hs K ns dst u e R acc (.bool n)=dW C hs K ns dst ⟨⟩ e R acc (.ptr [.bool n]):=by simp [iy]
@[simp] theorem Ik {n} : iy C hs K ns dst u e R acc (.str n)=dW C hs K ns dst ⟨⟩ e R acc (.ptr [.str n]):=by simp [iy]
@[simp] theorem Fl : iy C hs K ns dst u e R acc .nils=dW C hs K ns dst ⟨⟩ e R acc (.ptr [.nils]):=by simp [iy]
@[simp] theorem MZ {es} : iy C hs K ns dst u e R acc (.sl es)=dW C hs K ns dst ⟨⟩ e R acc (.ptr [.sl es]):=by simp [iy]
@[simp] theorem Ij {b es} : iy C hs K ns dst u e R acc (slx b es)=dW C hs K ns dst ⟨⟩ e R acc (.ptr [slx b es]):=by
 rcases gR b es with h | ⟨h,_⟩ <;> rw [h] <;> simp
@[simp] theorem Ii {es} : iy C hs K ns dst u e R acc (.ptr es)=dW C hs K ns dst ⟨⟩ e R acc (.ptr [.ptr es]):=by simp [iy]
@[simp] theorem MY {g es} : iy C hs K ns dst u e R acc (.fn g es)=dW C hs K ns dst ⟨⟩ e R acc (.ptr [.fn g es]):=by simp [iy]
@[simp] theorem QF {x v1} : opW C hs K ns dst (.len x) v1 e R acc=um (vd (ab e) x) (fun n=>dW C hs K ns dst ⟨⟩ e R acc (.int .i64 n)) ⟨⟩:=by
 show res (ab e) _ (.len x)=_
 simp only [res,um]
 cases vd (ab e) x <;> rfl
def wR (C : CC) (hs : Option (List Nat)) (K : Env -> Prop) (ns : List aq) (dst : Option Nat) (_ : Tag (hs,K,ns)) (e : Env) (R : List Nat) (acc : List (List Nat × List Nat)) (sz : Nat) (x i : D) : Prop:=match (generalizing:=false) x,i with
  | .sl es,.int _ j=>0 <= j /\ jB C hs K ns dst ⟨⟩ e R acc sz es j.toNat
  | .ref p k n,.int _ j=>0 <= j /\ j.toNat < n /\ match (generalizing:=false) aW (ab e) p with
   | some (sz',_)=>sz'=sz /\ dW C hs K ns dst ⟨⟩ e R acc (.adr p (k + j.toNat) 0)
   | none=>False
  | _,_=>False
@[simp] theorem LV {sz x i v1} : opW C hs K ns dst (.iadS sz x i) v1 e R acc=wR C hs K ns dst ⟨⟩ e R acc sz (vd (ab e) x) (vd (ab e) i):=_root_.id rfl
@[simp] theorem NI {sz es k j} : wR C hs K ns dst u e R acc sz (.sl es) (.int k j)=(0 <= j /\ jB C hs K ns dst ⟨⟩ e R acc sz es j.toNat):=_root_.id rfl
@[simp] theorem Jl {sz b es k j} : wR C hs K ns dst u e R acc sz (slx b es) (.int k j)=(0 <= j /\ jB C hs K ns dst ⟨⟩ e R acc sz es j.toNat):=by
 rcases gR b es with h | ⟨h,rfl⟩
 ·rw [h];rfl
 ·rw [h];simp [wR,jB]
@[simp] theorem Jk {sz p k n k' j} : wR C hs K ns dst u e R acc sz (.ref p k n) (.int k' j)=(0 <= j /\ j.toNat < n /\ match (generalizing:=false) aW (ab e) p with
   | some (sz',_)=>sz'=sz /\ dW C hs K ns dst ⟨⟩ e R acc (.adr p (k + j.toNat) 0)
   | none=>False):=_root_.id rfl
def AK (C : CC) (hs : Option (List Nat)) (K : Env -> Prop) (ns : List aq) (dst : Option Nat) (_ : Tag (hs,K,ns)) (e : Env) (R : List Nat) (acc : List (List Nat × List Nat)) (sz : Nat) (x : D) (lo hi : Option Opd) : Prop:=match (generalizing:=false) x with
  | .sl es=>(∀ e ∈ es,e.length=sz) /\ dG (ab e) hi es.length (fun h=>dG (ab e) lo 0 (fun l=>l <= h /\ h <= es.length /\ dW C hs K ns dst ⟨⟩ e R acc (.sl ((es.take h).drop l))) ⟨⟩) ⟨⟩
  | .nils=>dG (ab e) hi 0 (fun h=>dG (ab e) lo 0 (fun l=>l <= h /\ h <= 0 /\ dW C hs K ns dst ⟨⟩ e R acc (.sl [])) ⟨⟩) ⟨⟩
  | .ref p k n=>match (generalizing:=false) aW (ab e) p with
   | some (sz',_)=>sz'=sz /\ dG (ab e) hi n (fun h=>dG (ab e) lo 0 (fun l=>l <= h /\ h <= n /\ dW C hs K ns dst ⟨⟩ e R acc (.ref p (k + l) (h - l))) ⟨⟩) ⟨⟩
   | none=>False
  | _=>False
@[simp] theorem QQ {sz x lo hi v1} : opW C hs K ns dst (.slc sz x lo hi) v1 e R acc=AK C hs K ns dst ⟨⟩ e R acc sz (vd (ab e) x) lo hi:=_root_.id rfl
@[simp] theorem QT {sz es lo hi} : AK C hs K ns dst u e R acc sz (.sl es) lo hi=((∀ e ∈ es,e.length=sz) /\ dG (ab e) hi es.length (fun h=>dG (ab e) lo 0 (fun l=>l <= h /\ h <= es.length /\ dW C hs K ns dst ⟨⟩ e R acc (.sl ((es.take h).drop l))) ⟨⟩) ⟨⟩):=_root_.id rfl
@[simp] theorem Hu {sz lo hi} : AK C hs K ns dst u e R acc sz .nils lo hi=dG (ab e) hi 0 (fun h=>dG (ab e) lo 0 (fun l=>l <= h /\ h <= 0 /\ dW C hs K ns dst ⟨⟩ e R acc (.sl [])) ⟨⟩) ⟨⟩:=_root_.id rfl
@[simp] theorem Mq {sz p k n lo hi} : AK C hs K ns dst u e R acc sz (.ref p k n) lo hi=(match (generalizing:=false) aW (ab e) p with
   | some (sz',_)=>sz'=sz /\ dG (ab e) hi n (fun h=>dG (ab e) lo 0 (fun l=>l <= h /\ h <= n /\ dW C hs K ns dst ⟨⟩ e R acc (.ref p (k + l) (h - l))) ⟨⟩) ⟨⟩
   | none=>False):=_root_.id rfl
@[simp] theorem Hi {x xs v1} : opW C hs K ns dst (.callv x xs) v1 e R acc=(match (generalizing:=false) vd (ab e) x with
  | .fn g cs=>(∀ x ∈ xs,bD (ab e) (vd (ab e) x)) /\ pG C g hs K ns dst ⟨⟩ e R acc (xs.all fun x=>isV (vd (ab e) x)) (xs.map (dpv (ab e))++cs)
  | .fnx g cs=>(∀ x ∈ xs,bD (ab e) (vd (ab e) x)) /\ (∀ c ∈ cs,aO (ab e) c) /\ pG C g hs K ns dst ⟨⟩ e R acc false (xs.map (dpv (ab e))++cs.map (dp1 (ab e)))
  | _=>False):=by
 simp only [opW,aA,pG,dx,Bool.false_eq_true,or_false]
 cases vd (ab e) x <;> rfl
def mpT (x : D) (K : Nat -> Nat -> List D -> List D -> Prop) (_ : Tag K) : Prop:=match x with
 | .mp kt et ks vs=>K kt et ks vs
 | _=>False
@[simp] theorem SA {kt et ks vs K u} : mpT (.mp kt et ks vs) K u=K kt et ks vs:=_root_.id rfl
@[simp] theorem QG {kt et t v1} : opW C hs K ns (some t) (.mkm kt et) v1 e R acc=doW C hs K ns ⟨⟩ e R acc [(t,.mrf (rt t 0)),(rt t 0,.mp kt et [] [])] [(rt t 0,true)]:=_root_.id rfl
def mlM (C : CC) (hs : Option (List Nat)) (K : Env -> Prop) (ns : List aq) (dst : Option Nat) (_ : Tag (hs,K,ns)) (e : Env) (R : List Nat) (acc : List (List Nat × List Nat)) (sh : KSh) (kt et : Nat) (ok : Bool) (z x m : D) : Prop:=match m with
 | .mrf b=>mpT (ab e b) (fun kt' et' ks vs=>kt'=kt /\ et'=et /\ df sh x /\ match ok with
    | true=>dW C hs K ns dst ⟨⟩ e R acc (.tup [(cX ks vs x).getD z,.bool (cX ks vs x).isSome])
    | false=>dW C hs K ns dst ⟨⟩ e R acc ((cX ks vs x).getD z)) ⟨⟩
 | _=>False
@[simp] theorem Qd {sh kt et ok z x b} : mlM C hs K ns dst u e R acc sh kt et ok z x (.mrf b)=mpT (ab e b) (fun kt' et' ks vs=>kt'=kt /\ et'=et /\ df sh x /\ match ok with
    | true=>dW C hs K ns dst ⟨⟩ e R acc (.tup [(cX ks vs x).getD z,.bool (cX ks vs x).isSome])
    | false=>dW C hs K ns dst ⟨⟩ e R acc ((cX ks vs x).getD z)) ⟨⟩:=_root_.id rfl
@[simp] theorem QJ {sh kt et ok z m x v1} : opW C hs K ns dst (.mpl sh kt et ok z m x) v1 e R acc=mlM C hs K ns dst ⟨⟩ e R acc sh kt et ok z (vd (ab e) x) (vd (ab e) m):=by
 show res (ab e) _ (.mpl sh kt et ok z m x)=_
 simp only [res,mlM]
 cases vd (ab e) m <;> rfl
def muM (C : CC) (hs : Option (List Nat)) (K : Env -> Prop) (ns : List aq) (_ : Tag (hs,K,ns)) (e : Env) (R : List Nat) (acc : List (List Nat × List Nat)) (sh : KSh) (kt et : Nat) (z x v m : D) : Prop:=match m with
 | .mrf b=>mpT (ab e b) (fun kt' et' ks vs=>kt'=kt /\ et'=et /\ ks.length < maxLen /\ df sh x /\ iI z v /\ doW C hs K ns ⟨⟩ e R acc [(b,.mp kt et (x::ks) (v::vs))] []) ⟨⟩
 | _=>False
@[simp] theorem Qe {sh kt et z x v b} : muM C hs K ns u e R acc sh kt et z x v (.mrf b)=mpT (ab e b) (fun kt' et' ks vs=>kt'=kt /\ et'=et /\ ks.length < maxLen /\ df sh x /\ iI z v /\ doW C hs K ns ⟨⟩ e R acc [(b,.mp kt et (x::ks) (v::vs))] []) ⟨⟩:=_root_.id rfl
@[simp] theorem QK {sh kt et z m x v v1} : opW C hs K ns dst (.mpu sh kt et z m x v) v1 e R acc=(dst=none /\ muM C hs K ns ⟨⟩ e R acc sh kt et z (vd (ab e) x) (vd (ab e) v) (vd (ab e) m)):=by
 show (dst=none /\ _)=_
 congr 1
end
@[simp] theorem DC {s} : df .str (.str s)=(s.length <= maxLen):=_root_.id rfl
@[simp] theorem BR {b} : df .bool (.bool b)=True:=_root_.id rfl
@[simp] theorem DB {q q' n} : df (.int q) (.int q' n)=(q'=q /\ p8 q n):=_root_.id rfl
@[simp] theorem BS {q n ds} : df (.ints q n) (.agg ds)=(ds.length=n /\ ∀ d ∈ ds,∃ x,d=.int q x /\ p8 q x):=_root_.id rfl
@[simp] theorem F0 {s z} : iI (.str z) (.str s)=(s.length <= maxLen):=_root_.id rfl
@[simp] theorem Dg {b z} : iI (.bool z) (.bool b)=True:=_root_.id rfl
@[simp] theorem FZ {q q' n z} : iI (.int q z) (.int q' n)=(q'=q /\ p8 q n):=_root_.id rfl
@[simp] theorem Jv {n : Int} : p8 .i64 n=(-9223372036854775808 <= n /\ n <= 9223372036854775807):=by
 have e1 : IntKind.i64.min=-9223372036854775808:=rfl
 have e2 : IntKind.i64.max=9223372036854775807:=rfl
 simp [p8,Lit.wf,e1,e2]
attribute [simp] iU fU bP dY cD bJ aM dM xE okR qE lK cK
attribute [simp] vd params gh jZ j0 jY mH nh xQ prune j4 isC jH aW SO bE dpv cw stK bT rt chk rdS rdR frR fwR gj rdN iJ wrK mnR Ef ldN af iS pW wOk Pa.root cp bG
end Go.Gv

namespace Go.Gv
open Go.Lib Go.Sort Go.Proofs
abbrev Fnd:=Int × List UInt8
def cS (x : Fnd) : List D:=[.int .i64 x.1,.str x.2]
structure TC {α : Type} (c : α -> α -> Int) : Prop where
 eq0 : ∀ x y,c x y=0 -> x=y
 anti : ∀ x y,c y x=- c x y
 trans : ∀ x y z,c x y < 0 -> c y z < 0 -> c x z < 0
section
variable {α : Type} {c : α -> α -> Int}
theorem TC.refl (h : TC c) (x : α) : c x x=0:=by have:=h.anti x x;omega
theorem TC.swo (h : TC c) : SWO (ltOf c) where
 irrefl x:=by simp [ltOf,h.refl x]
 trans x y z h1 h2:=by
  simp only [ltOf,decide_eq_true_eq] at *
  exact h.trans x y z h1 h2
 ntrans x y z h1 h2:=by
  simp only [ltOf,decide_eq_false_iff_not] at *
  by_cases e1 : c x y=0
  ·rw [h.eq0 _ _ e1];exact h2
  by_cases e2 : c y z=0
  ·rw [<- h.eq0 _ _ e2];exact h1
  have a1:=h.anti x y
  have a2:=h.anti y z
  have a3:=h.anti x z
  have:=h.trans z y x (by omega) (by omega)
  omega
theorem TC.tot (h : TC c) (x y : α) (h1 : (ltOf c) x y=false) (h2 : (ltOf c) y x=false) : x=y:=by
 simp only [ltOf,decide_eq_false_iff_not] at *
 have:=h.anti x y
 exact h.eq0 x y (by omega)
end
theorem yn {a b : UInt8} : (a < b) ↔ a.toNat < b.toNat:=UInt8.lt_iff_toNat_lt
theorem MI {a b : UInt8} (h : a.toNat=b.toNat) : a=b:=UInt8.toNat_inj.1 h
theorem sJ : ∀ a b : List UInt8,compareBytes b a=- compareBytes a b
 | [],[]=>rfl
 | [],_::_=>rfl
 | _::_,[]=>rfl
 | a::xs,b::ys=>by
  simp only [compareBytes,yn]
  by_cases h1 : a.toNat < b.toNat
  ·rw [if_neg (show ¬ b.toNat < a.toNat by omega),if_pos h1,if_pos h1];rfl
  ·by_cases h2 : b.toNat < a.toNat
   ·rw [if_pos h2,if_neg h1,if_pos h2]
   ·rw [if_neg h2,if_neg h1,if_neg h1,if_neg h2,sJ xs ys]
theorem vL : ∀ a b : List UInt8,compareBytes a b=0 -> a=b
 | [],[],_=>rfl
 | [],_::_,h=>by simp [compareBytes] at h
 | _::_,[],h=>by simp [compareBytes] at h
 | a::xs,b::ys,h=>by
  simp only [compareBytes,yn] at h
  by_cases h1 : a.toNat < b.toNat
  ·rw [if_pos h1] at h;cases h
  ·by_cases h2 : b.toNat < a.toNat
   ·rw [if_neg h1,if_pos h2] at h;cases h
   ·rw [if_neg h1,if_neg h2] at h
    rw [vL xs ys h,MI (show a.toNat=b.toNat by omega)]
theorem pF : ∀ a b d : List UInt8,compareBytes a b < 0 -> compareBytes b d < 0 -> compareBytes a d < 0
 | [],_,[],_,h2=>by
  rename_i b _
  cases b with
  | nil=>exact h2
  | cons x xs=>simp [compareBytes] at h2
 | [],_,_::_,_,_=>by simp [compareBytes]
 | _::_,[],_,h1,_=>by simp [compareBytes] at h1
 | _::_,_::_,[],_,h2=>by simp [compareBytes] at h2
 | a::xs,b::ys,d::zs,h1,h2=>by
  simp only [compareBytes,yn] at h1 h2 ⊢
  by_cases e1 : a.toNat < b.toNat
  ·by_cases e2 : b.toNat < d.toNat
   ·rw [if_pos (show a.toNat < d.toNat by omega)];decide
   ·by_cases e3 : d.toNat < b.toNat
    ·rw [if_neg e2,if_pos e3] at h2;exact absurd h2 (by decide)
    ·rw [if_pos (show a.toNat < d.toNat by omega)];decide
  ·by_cases e4 : b.toNat < a.toNat
   ·rw [if_neg e1,if_pos e4] at h1;exact absurd h1 (by decide)
   ·rw [if_neg e1,if_neg e4] at h1
    by_cases e2 : b.toNat < d.toNat
    ·rw [if_pos (show a.toNat < d.toNat by omega)];decide
    ·by_cases e3 : d.toNat < b.toNat
     ·rw [if_neg e2,if_pos e3] at h2;exact absurd h2 (by decide)
     ·rw [if_neg e2,if_neg e3] at h2
      rw [if_neg (show ¬ a.toNat < d.toNat by omega),if_neg (show ¬ d.toNat < a.toNat by omega)]
      exact pF xs ys zs h1 h2
def mQ (a b : Int) : Int:=if a < b then -1 else if b < a then 1 else 0
def eS (x y : Fnd) : Int:=if mQ x.1 y.1=0 then compareBytes x.2 y.2 else mQ x.1 y.1
theorem kz : TC mQ:=by
 refine ⟨fun x y h=>?_,fun x y=>?_,fun x y z h1 h2=>?_⟩ <;> unfold mQ at * <;> (repeat' split at *) <;> first | omega | (simp at *;done) | (simp at *;omega)
theorem ji : TC eS:=by
 refine ⟨fun x y h=>?_,fun x y=>?_,fun x y z h1 h2=>?_⟩
 ·unfold eS at h
  split at h
  ·rename_i e
   exact Prod.ext (kz.eq0 _ _ e) (vL _ _ h)
  ·rename_i e;exact absurd h e
 ·unfold eS
  rw [kz.anti x.1 y.1,sJ x.2 y.2]
  by_cases e : mQ x.1 y.1=0
  ·rw [if_pos e,if_pos (by omega)]
  ·rw [if_neg e,if_neg (by omega)]
 ·unfold eS at *
  by_cases e1 : mQ x.1 y.1=0
  ·rw [if_pos e1] at h1
   rw [<- kz.eq0 _ _ e1] at h2
   by_cases e2 : mQ x.1 z.1=0
   ·rw [if_pos e2] at h2 ⊢
    exact pF _ _ _ h1 h2
   ·rw [if_neg e2] at h2 ⊢
    exact h2
  ·rw [if_neg e1] at h1
   by_cases e2 : mQ y.1 z.1=0
   ·rw [if_pos e2] at h2
    rw [<- kz.eq0 _ _ e2,if_neg e1]
    exact h1
   ·rw [if_neg e2] at h2
    have h3:=kz.trans _ _ _ h1 h2
    rw [if_neg (by omega)]
    exact h3
section
variable {α : Type} {c : α -> α -> Int}
def nH (c : α -> α -> Int) (l : List α) : Prop:=l.Pairwise fun x y=>c x y < 0
theorem nH.nodup (h : TC c) {l : List α} (hs : nH c l) : l.Nodup:=hs.imp fun {x y} hxy e=>by subst e;have:=h.refl x;omega
theorem nH.unique (h : TC c) : ∀ {l l' : List α},nH c l -> nH c l' -> (∀ x,x ∈ l ↔ x ∈ l') -> l=l'
 | [],[],_,_,_=>rfl
 | [],y::_,_,_,hm=>absurd ((hm y).2 (by simp)) (by simp)
 | x::_,[],_,_,hm=>absurd ((hm x).1 (by simp)) (by simp)
 | x::l,y::l',hs,hs',hm=>by
  obtain ⟨a1,a2⟩:=List.pairwise_cons.1 hs
  obtain ⟨b1,b2⟩:=List.pairwise_cons.1 hs'
  have e : x=y:=by
   rcases List.mem_cons.1 ((hm x).1 (by simp)) with e | e
   ·exact e
   ·rcases List.mem_cons.1 ((hm y).2 (by simp)) with e' | e'
    ·exact e'.symm
    ·have h1:=b1 x e
     have h2:=a1 y e'
     have:=h.anti x y
     omega
  subst e
  rw [nH.unique h a2 b2 (fun z=>⟨fun hz=>?_,fun hz=>?_⟩)]
  ·rcases List.mem_cons.1 ((hm z).1 (by simp [hz])) with e | e
   ·subst e;have:=a1 z hz;have:=h.refl z;omega
   ·exact e
  ·rcases List.mem_cons.1 ((hm z).2 (by simp [hz])) with e | e
   ·subst e;have:=b1 z hz;have:=h.refl z;omega
   ·exact e
def ddL [DecidableEq α] : List α -> List α
 | []=>[]
 | [x]=>[x]
 | x::y::r=>if x=y then ddL (y::r) else x::ddL (y::r)
theorem gC [DecidableEq α] (x y : α) (r : List α) : ddL (x::y::r)=if x=y then ddL (y::r) else x::ddL (y::r):=rfl
theorem oT [DecidableEq α] : ∀ (l : List α) (x : α),x ∈ ddL l ↔ x ∈ l
 | [],x=>by simp [ddL]
 | [y],x=>by simp [ddL]
 | y::z::r,x=>by
  rw [gC]
  have ih:=oT (z::r) x
  by_cases e : y=z
  ·rw [if_pos e,ih];subst e;simp
  ·rw [if_neg e,List.mem_cons,ih];simp
theorem sK [DecidableEq α] (h : TC c) : ∀ {l : List α},(l.Pairwise fun x y=>¬ c y x < 0) -> nH c (ddL l)
 | [],_=>List.Pairwise.nil
 | [y],_=>by simp [ddL,nH]
 | y::z::r,hp=>by
  obtain ⟨a1,a2⟩:=List.pairwise_cons.1 hp
  have ih:=sK h a2
  rw [gC]
  by_cases e : y=z
  ·rw [if_pos e];exact ih
  ·rw [if_neg e]
   refine List.pairwise_cons.2 ⟨fun w hw=>?_,ih⟩
   have hw2:=(oT _ _).1 hw
   have h1:=a1 w hw2
   have hyz : c y z < 0:=by
    have h2:=a1 z (by simp)
    have h3:=h.anti y z
    have : c y z ≠ 0:=fun e'=>e (h.eq0 _ _ e')
    omega
   rcases List.mem_cons.1 hw2 with e1 | e1
   ·subst e1;exact hyz
   ·have h4:=(List.pairwise_cons.1 a2).1 w e1
    have h5:=h.anti z w
    by_cases e2 : c z w=0
    ·rw [<- h.eq0 _ _ e2];exact hyz
    ·exact h.trans y z w hyz (by omega)
def nR (c : α -> α -> Int) (l : List α) : List α:=l.mergeSort fun x y=>!(ltOf c) y x
theorem yg {l : List α} {x : α} : x ∈ nR c l ↔ x ∈ l:=by unfold nR;exact List.mem_mergeSort
theorem i9 {l : List α} : (nR c l).length=l.length:=by unfold nR;exact List.length_mergeSort l
theorem Be (h : TC c) (l : List α) : (nR c l).Pairwise fun x y=>¬ c y x < 0:=by
 have h1:=List.pairwise_mergeSort (le:=fun x y : α=>!(ltOf c) y x) (fun a b d h1 h2=>by
  simp only [Bool.not_eq_true'] at *
  exact h.swo.ntrans _ _ _ h2 h1) (fun a b=>by
  simp only [Bool.or_eq_true,Bool.not_eq_true',ltOf,decide_eq_false_iff_not]
  have:=h.anti a b
  omega) l
 exact h1.imp fun {x y} hxy=>by simpa [ltOf] using hxy
def iz [DecidableEq α] (c : α -> α -> Int) (l : List α) : List α:=ddL (nR c l)
theorem pI [DecidableEq α] {l : List α} {x : α} : x ∈ iz c l ↔ x ∈ l:=by unfold iz;rw [oT,yg]
theorem pJ [DecidableEq α] (h : TC c) (l : List α) : nH c (iz c l):=sK h (Be h l)
theorem yU [DecidableEq α] (h : TC c) {l l' : List α} (hs : nH c l') (hm : ∀ x,x ∈ l ↔ x ∈ l') : iz c l=l':=(pJ h l).unique h hs fun x=>by rw [pI];exact hm x
def TS (c : α -> α -> Int) (l : List α) (x : α) : List α:=l.filter (fun y=>decide (c y x < 0))++x::l.filter (fun y=>decide (c x y < 0))
end
end Go.Gv

namespace Go.Gv
section
variable {C : CC}
theorem jt {f : Nat -> D} {dst : Option Nat} {K K' : KT} {o : NOp} (h : aA C f dst K o) (hk : ∀ ws ks,K ws ks -> K' ws ks) : aA C f dst K' o:=by
 obtain ⟨ws,ks,h1,h2⟩:=ni h
 exact h2 K' (hk ws ks h1)
theorem ii {e : Env} {dst : Option Nat} {K K' : Env -> Prop} (h : gQ e dst K) (hk : ∀ e,K e -> K' e) : gQ e dst K':=by
 unfold gQ at h ⊢
 split at h
 ·exact hk _ h
 ·exact hk _ h
theorem gW {K K' : Env -> Prop} (hk : ∀ e,K e -> K' e) : ∀ (ns : List aq) (e : Env),im C K ns e -> im C K' ns e
 | [],e,h=>hk e h
 | o::os,e,h=>by
  rw [im] at h ⊢
  split at h
  ·exact jt h (fun ws ks h1=>gW hk os _ h1)
  ·split at h
   ·exact ⟨fun hb=>jt (h.1 hb) (fun ws ks h1=>gW hk os _ h1),fun hb=>ii (h.2 hb) (fun e h1=>gW hk os e h1)⟩
   ·exact ii h (fun e h1=>gW hk os e h1)
   ·exact h.elim
theorem gV {hs : List Nat} {K K' : Env -> Prop} (hk : ∀ e,K e -> K' e) : ∀ (ns : List aq) (e : Env) (acc : List (List Nat × List Nat)),jF C hs K ns e acc -> jF C hs K' ns e acc
 | [],e,acc,h=>⟨h.1,hk e h.2⟩
 | o::os,e,acc,h=>by
  rw [jF] at h ⊢
  refine ⟨h.1,?_⟩
  have h:=h.2
  split at h
  ·exact jt h (fun ws ks h1=>⟨h1.1,gV hk os _ _ h1.2⟩)
  ·split at h
   ·exact ⟨fun hb=>jt (h.1 hb) (fun ws ks h1=>⟨h1.1,gV hk os _ _ h1.2⟩),fun hb=>ii (h.2 hb) (fun e h1=>gV hk os e _ h1)⟩
   ·exact ii h (fun e h1=>gV hk os e _ h1)
   ·exact h.elim
theorem eK : ∀ (c : cy) (Q Q' : bX -> Env -> Prop) (e : Env),(∀ t e,Q t e -> Q' t e) -> wpN C c Q e -> wpN C c Q' e
 | .skip,Q,Q',e,hq,h=>hq _ _ h
 | .reg dr hs keep ops,Q,Q',e,hq,h=>by
  cases dr with
  | false=>exact gW (fun e h=>hq _ _ h) ops e h
  | true=>exact gV (fun e h=>hq _ _ h) ops e [] h
 | .seq x y,Q,Q',e,hq,h=>eK x _ _ e (fun t e h=>by
   cases t with
   | nrm=>exact eK y Q Q' e hq h
   | ext i=>exact hq _ _ h
   | ret=>exact hq _ _ h) h
 | .cond c x y,Q,Q',e,hq,h=>by
  rw [wpN] at h ⊢
  split at h
  ·exact ⟨fun hb=>eK x Q Q' e hq (h.1 hb),fun hb=>eK y Q Q' e hq (h.2 hb)⟩
  ·exact ⟨eK x Q Q' e hq h.1,eK y Q Q' e hq h.2⟩
  ·exact h.elim
 | .block id c,Q,Q',e,hq,h=>eK c _ _ e (fun t e h=>by
   cases t with
   | nrm=>exact hq _ _ h
   | ext i =>
    simp only at h ⊢
    split
    ·rename_i hi;rw [if_pos hi] at h;exact hq _ _ h
    ·rename_i hi;rw [if_neg hi] at h;exact hq _ _ h
   | ret=>exact hq _ _ h) h
 | .loop c,Q,Q',e,hq,h=>by
  obtain ⟨S,G,I,m,s0,h1,h2,h3⟩:=h
  refine ⟨S,G,I,m,s0,h1,h2,fun s hs=>eK c _ _ _ (fun t e h=>?_) (h3 s hs)⟩
  cases t with
  | nrm=>exact h
  | ext i=>exact hq _ _ h
  | ret=>exact hq _ _ h
 | .exit id,Q,Q',e,hq,h=>hq _ _ h
 | .ret,Q,Q',e,hq,h=>hq _ _ h
def uJ (id : Nat) (S : Type) (G : S -> Env) (J : S -> Prop) (Q : bX -> Env -> Prop) : bX -> Env -> Prop:=fun t e=>match t with
 | .ext i=>if i=id then ∃ s,J s /\ j4 e (G s) else Q (.ext i) e
 | t=>Q t e
variable {Q : bX -> Env -> Prop} {e : Env}
@[simp] theorem zB {id S G J u} : bC (uJ id S G J Q) u .nrm e=bC Q ⟨⟩ .nrm e:=_root_.id rfl
@[simp] theorem zD {id S G J u} : bC (uJ id S G J Q) u .ret e=bC Q ⟨⟩ .ret e:=_root_.id rfl
@[simp] theorem zA {id S G J u i} : bC (uJ id S G J Q) u (.ext i) e=if i=id then ∃ s,J s /\ j4 e (G s) else bC Q ⟨⟩ (.ext i) e:=_root_.id rfl
theorem qi {c : cy} {u : Tag (c,Q)} (id : Nat) (S : Type) (G : S -> Env) (J : S -> Prop) (h : sX C c (uJ id S G J Q) ⟨⟩ e) (hr : ∀ s e,J s -> j4 e (G s) -> bC Q ⟨⟩ (.ext id) e) : sX C c Q u e :=
 eK (.loop c) (uJ id S G J Q) Q e (fun t e g=>by
  cases t with
  | nrm=>exact g
  | ret=>exact g
  | ext i =>
   simp only [uJ] at g
   by_cases hi : i=id
   ·rw [if_pos hi] at g
    obtain ⟨s,h1,h2⟩:=g
    rw [hi]
    exact hr s e h1 h2
   ·rw [if_neg hi] at g
    exact g) h
def DP (S : Type) (G : S -> Env) (J : S -> Prop) (Q : bX -> Env -> Prop) : bX -> Env -> Prop:=fun t e=>match t with
 | .nrm=>∃ s,J s /\ j4 e (G s)
 | t=>Q t e
@[simp] theorem zy {S G J u} : bC (DP S G J Q) u .nrm e=∃ s,J s /\ j4 e (G s):=_root_.id rfl
@[simp] theorem zz {S G J u} : bC (DP S G J Q) u .ret e=bC Q ⟨⟩ .ret e:=_root_.id rfl
@[simp] theorem zw {S G J u i} : bC (DP S G J Q) u (.ext i) e=bC Q ⟨⟩ (.ext i) e:=_root_.id rfl
end
@[simp] theorem Mj {C : CC} {hs : Option (List Nat)} {K : Env -> Prop} {ns : List aq} {dst : Option Nat} {u : Tag (hs,K,ns)} {e : Env} {R : List Nat} {acc : List (List Nat × List Nat)} {α : Type} [Inhabited α] {n : Nat} {ag : Bool} {p : Pa} {xs : List α} {f : α -> List D} {i off : Nat} :
  lC C hs K ns dst u e R acc n ag p (xs.map f) i off=(i < xs.length /\ off + n <= (f xs[i]!).length /\ match ag with
    | true=>((((f xs[i]!).drop off).take n).all isV=true -> dW C hs K ns dst ⟨⟩ e R acc (.agg (((f xs[i]!).drop off).take n))) /\
      ((((f xs[i]!).drop off).take n).all isV=false -> dW C hs K ns dst ⟨⟩ e R acc (.agx ((((f xs[i]!).drop off).take n).mapIdx fun j c=>ldc p i (off + j) c)))
    | false=>dW C hs K ns dst ⟨⟩ e R acc (ldc p i off (((f xs[i]!).drop off).headD .any))):=by
 apply propext
 constructor
 ·rintro ⟨r,h,h1,h2⟩
  rw [List.getElem?_map,Option.map_eq_some_iff] at h
  obtain ⟨x,hx,rfl⟩:=h
  obtain ⟨hi,rfl⟩:=List.getElem?_eq_some_iff.1 hx
  rw [getElem!_pos xs i hi]
  refine ⟨hi,h1,?_⟩
  cases ag <;> exact h2
 ·rintro ⟨hi,h1,h2⟩
  rw [getElem!_pos xs i hi] at h1 h2
  refine th (r:=f xs[i]) (by rw [List.getElem?_map,List.getElem?_eq_getElem hi];rfl) h1 ?_
  cases ag <;> exact h2
@[simp] theorem GM {b all ks n} : aV ((b,all)::ks) (.ptx n)=if n.any (aN b all) then .any else aV ks (.ptx n):=by
 have h : aV ((b,all)::ks) (.ptx n)=bif (n.any (aN b all) || aF ks (.ptx n)) then .any else .ptx n:=cu ..
 rw [h,cu]
 cases n.any (aN b all) <;> rfl
@[simp] theorem GQ {b all ks n} : aV ((b,all)::ks) (.tpx n)=if n.any (aN b all) then .any else aV ks (.tpx n):=by
 have h : aV ((b,all)::ks) (.tpx n)=bif (n.any (aN b all) || aF ks (.tpx n)) then .any else .tpx n:=cu ..
 rw [h,cu]
 cases n.any (aN b all) <;> rfl
@[simp] theorem G1 {b all n es} : aN b all (slx n es)=false:=by cases n <;> cases es <;> rfl
@[simp] theorem G0 {b all p k n} : aN b all (.ref p k n)=bT b all p:=_root_.id rfl
@[simp] theorem GW {b all p k n} : aN b all (.adr p k n)=bT b all p:=_root_.id rfl
@[simp] theorem GY {b all c} : aN b all (.mrf c)=(all && c == b):=_root_.id rfl
@[simp] theorem GX {b all k n} : aN b all (.int k n)=false:=_root_.id rfl
@[simp] theorem DM {b all n} : aN b all (.bool n)=false:=_root_.id rfl
@[simp] theorem G2 {b all n} : aN b all (.str n)=false:=_root_.id rfl
@[simp] theorem DO {b all} : aN b all .nils=false:=_root_.id rfl
@[simp] theorem DN {b all} : aN b all .nilp=false:=_root_.id rfl
@[simp] theorem Lr {b all n} : aN b all (.sl n)=false:=_root_.id rfl
@[simp] theorem GZ {b all n} : aN b all (.ptr n)=false:=_root_.id rfl
@[simp] theorem Lq {b all g n} : aN b all (.fn g n)=false:=_root_.id rfl
@[simp] theorem GJ {b all ks c} : aV ((b,all)::ks) (.mrf c)=if (all && c == b) then .any else aV ks (.mrf c):=by
 have h : aV ((b,all)::ks) (.mrf c)=bif ((all && c == b) || aF ks (.mrf c)) then .any else .mrf c:=cu ..
 rw [h,cu]
 cases all && c == b <;> rfl
end Go.Gv

namespace Go.Gv
section
variable {C : CC} {hs : Option (List Nat)} {K : Env -> Prop} {ns : List aq} {dst : Option Nat} {u : Tag (hs,K,ns)} {e : Env} {R : List Nat} {acc : List (List Nat × List Nat)}
theorem au {sz : Nat} {es : List (List D)} {i : Nat} {c : List D} (h : es[i]? = some c) : jB C hs K ns dst u e R acc sz es i=(c.length=sz /\ dW C hs K ns dst ⟨⟩ e R acc (.ptr c)):=by
 apply propext
 unfold jB dW
 rw [h]
 exact ⟨fun ⟨_,h1,h2⟩=>by cases h1;exact h2,fun h2=>⟨c,rfl,h2⟩⟩
theorem az {n : Nat} {ag : Bool} {p : Pa} {es : List (List D)} {i off : Nat} {r : List D} (hr : es[i]? = some r) : lC C hs K ns dst u e R acc n ag p es i off=(off + n <= r.length /\ match ag with
    | true=>(((r.drop off).take n).all isV=true -> dW C hs K ns dst ⟨⟩ e R acc (.agg ((r.drop off).take n))) /\
      (((r.drop off).take n).all isV=false -> dW C hs K ns dst ⟨⟩ e R acc (.agx (((r.drop off).take n).mapIdx fun j c=>ldc p i (off + j) c)))
    | false=>dW C hs K ns dst ⟨⟩ e R acc (ldc p i off ((r.drop off).headD .any))):=by
 apply propext
 constructor
 ·rintro ⟨r',h,h1,h2⟩
  rw [hr] at h
  cases h
  refine ⟨h1,?_⟩
  cases ag <;> exact h2
 ·rintro ⟨h1,h2⟩
  refine th hr h1 ?_
  cases ag <;> exact h2
@[simp] theorem Jm {sz : Nat} {c0 : List D} {es : List (List D)} : jB C hs K ns dst u e R acc sz (c0::es) 0=(c0.length=sz /\ dW C hs K ns dst ⟨⟩ e R acc (.ptr c0)):=au rfl
theorem xR {n : Nat} {ag : Bool} {p : Pa} {off : Nat} {c0 : List D} {es : List (List D)} : lC C hs K ns dst u e R acc n ag p (c0::es) 0 off=(off + n <= c0.length /\ match ag with
    | true=>(((c0.drop off).take n).all isV=true -> dW C hs K ns dst ⟨⟩ e R acc (.agg ((c0.drop off).take n))) /\
      (((c0.drop off).take n).all isV=false -> dW C hs K ns dst ⟨⟩ e R acc (.agx (((c0.drop off).take n).mapIdx fun j c=>ldc p 0 (off + j) c)))
    | false=>dW C hs K ns dst ⟨⟩ e R acc (ldc p 0 off ((c0.drop off).headD .any))):=az rfl
@[simp] theorem Jn {sz : Nat} {c0 c1 : List D} {es : List (List D)} : jB C hs K ns dst u e R acc sz (c0::c1::es) 1=(c1.length=sz /\ dW C hs K ns dst ⟨⟩ e R acc (.ptr c1)):=au rfl
theorem xS {n : Nat} {ag : Bool} {p : Pa} {off : Nat} {c0 c1 : List D} {es : List (List D)} : lC C hs K ns dst u e R acc n ag p (c0::c1::es) 1 off=(off + n <= c1.length /\ match ag with
    | true=>(((c1.drop off).take n).all isV=true -> dW C hs K ns dst ⟨⟩ e R acc (.agg ((c1.drop off).take n))) /\
      (((c1.drop off).take n).all isV=false -> dW C hs K ns dst ⟨⟩ e R acc (.agx (((c1.drop off).take n).mapIdx fun j c=>ldc p 1 (off + j) c)))
    | false=>dW C hs K ns dst ⟨⟩ e R acc (ldc p 1 off ((c1.drop off).headD .any))):=az rfl
@[simp] theorem Jo {sz : Nat} {c0 c1 c2 : List D} {es : List (List D)} : jB C hs K ns dst u e R acc sz (c0::c1::c2::es) 2=(c2.length=sz /\ dW C hs K ns dst ⟨⟩ e R acc (.ptr c2)):=au rfl
theorem xT {n : Nat} {ag : Bool} {p : Pa} {off : Nat} {c0 c1 c2 : List D} {es : List (List D)} : lC C hs K ns dst u e R acc n ag p (c0::c1::c2::es) 2 off=(off + n <= c2.length /\ match ag with
    | true=>(((c2.drop off).take n).all isV=true -> dW C hs K ns dst ⟨⟩ e R acc (.agg ((c2.drop off).take n))) /\
      (((c2.drop off).take n).all isV=false -> dW C hs K ns dst ⟨⟩ e R acc (.agx (((c2.drop off).take n).mapIdx fun j c=>ldc p 2 (off + j) c)))
    | false=>dW C hs K ns dst ⟨⟩ e R acc (ldc p 2 off ((c2.drop off).headD .any))):=az rfl
@[simp] theorem Jp {sz : Nat} {c0 c1 c2 c3 : List D} {es : List (List D)} : jB C hs K ns dst u e R acc sz (c0::c1::c2::c3::es) 3=(c3.length=sz /\ dW C hs K ns dst ⟨⟩ e R acc (.ptr c3)):=au rfl
theorem xU {n : Nat} {ag : Bool} {p : Pa} {off : Nat} {c0 c1 c2 c3 : List D} {es : List (List D)} : lC C hs K ns dst u e R acc n ag p (c0::c1::c2::c3::es) 3 off=(off + n <= c3.length /\ match ag with
    | true=>(((c3.drop off).take n).all isV=true -> dW C hs K ns dst ⟨⟩ e R acc (.agg ((c3.drop off).take n))) /\
      (((c3.drop off).take n).all isV=false -> dW C hs K ns dst ⟨⟩ e R acc (.agx (((c3.drop off).take n).mapIdx fun j c=>ldc p 3 (off + j) c)))
    | false=>dW C hs K ns dst ⟨⟩ e R acc (ldc p 3 off ((c3.drop off).headD .any))):=az rfl
@[simp] theorem Jq {sz : Nat} {c0 c1 c2 c3 c4 : List D} {es : List (List D)} : jB C hs K ns dst u e R acc sz (c0::c1::c2::c3::c4::es) 4=(c4.length=sz /\ dW C hs K ns dst ⟨⟩ e R acc (.ptr c4)):=au rfl
theorem xV {n : Nat} {ag : Bool} {p : Pa} {off : Nat} {c0 c1 c2 c3 c4 : List D} {es : List (List D)} : lC C hs K ns dst u e R acc n ag p (c0::c1::c2::c3::c4::es) 4 off=(off + n <= c4.length /\ match ag with
    | true=>(((c4.drop off).take n).all isV=true -> dW C hs K ns dst ⟨⟩ e R acc (.agg ((c4.drop off).take n))) /\
      (((c4.drop off).take n).all isV=false -> dW C hs K ns dst ⟨⟩ e R acc (.agx (((c4.drop off).take n).mapIdx fun j c=>ldc p 4 (off + j) c)))
    | false=>dW C hs K ns dst ⟨⟩ e R acc (ldc p 4 off ((c4.drop off).headD .any))):=az rfl
attribute [simp] xR xS xT xU xV
end
end Go.Gv

namespace Go.Gv
section
variable {C : CC} {hs : Option (List Nat)} {K : Env -> Prop} {ns : List aq} {dst : Option Nat} {u : Tag (hs,K,ns)} {e : Env} {R : List Nat} {acc : List (List Nat × List Nat)}
@[simp] theorem Jr {sz : Nat} {c0 c1 c2 c3 c4 c5 : List D} {es : List (List D)} : jB C hs K ns dst u e R acc sz (c0::c1::c2::c3::c4::c5::es) 5=(c5.length=sz /\ dW C hs K ns dst ⟨⟩ e R acc (.ptr c5)):=au rfl
@[simp] theorem Mg {n : Nat} {ag : Bool} {p : Pa} {off : Nat} {c0 c1 c2 c3 c4 c5 : List D} {es : List (List D)} : lC C hs K ns dst u e R acc n ag p (c0::c1::c2::c3::c4::c5::es) 5 off=(off + n <= c5.length /\ match ag with
    | true=>(((c5.drop off).take n).all isV=true -> dW C hs K ns dst ⟨⟩ e R acc (.agg ((c5.drop off).take n))) /\
      (((c5.drop off).take n).all isV=false -> dW C hs K ns dst ⟨⟩ e R acc (.agx (((c5.drop off).take n).mapIdx fun j c=>ldc p 5 (off + j) c)))
    | false=>dW C hs K ns dst ⟨⟩ e R acc (ldc p 5 off ((c5.drop off).headD .any))):=az rfl
@[simp] theorem Js {sz : Nat} {c0 c1 c2 c3 c4 c5 c6 : List D} {es : List (List D)} : jB C hs K ns dst u e R acc sz (c0::c1::c2::c3::c4::c5::c6::es) 6=(c6.length=sz /\ dW C hs K ns dst ⟨⟩ e R acc (.ptr c6)):=au rfl
@[simp] theorem Mh {n : Nat} {ag : Bool} {p : Pa} {off : Nat} {c0 c1 c2 c3 c4 c5 c6 : List D} {es : List (List D)} : lC C hs K ns dst u e R acc n ag p (c0::c1::c2::c3::c4::c5::c6::es) 6 off=(off + n <= c6.length /\ match ag with
    | true=>(((c6.drop off).take n).all isV=true -> dW C hs K ns dst ⟨⟩ e R acc (.agg ((c6.drop off).take n))) /\
      (((c6.drop off).take n).all isV=false -> dW C hs K ns dst ⟨⟩ e R acc (.agx (((c6.drop off).take n).mapIdx fun j c=>ldc p 6 (off + j) c)))
    | false=>dW C hs K ns dst ⟨⟩ e R acc (ldc p 6 off ((c6.drop off).headD .any))):=az rfl
@[simp] theorem Jt {sz : Nat} {c0 c1 c2 c3 c4 c5 c6 c7 : List D} {es : List (List D)} : jB C hs K ns dst u e R acc sz (c0::c1::c2::c3::c4::c5::c6::c7::es) 7=(c7.length=sz /\ dW C hs K ns dst ⟨⟩ e R acc (.ptr c7)):=au rfl
@[simp] theorem Mi {n : Nat} {ag : Bool} {p : Pa} {off : Nat} {c0 c1 c2 c3 c4 c5 c6 c7 : List D} {es : List (List D)} : lC C hs K ns dst u e R acc n ag p (c0::c1::c2::c3::c4::c5::c6::c7::es) 7 off=(off + n <= c7.length /\ match ag with
    | true=>(((c7.drop off).take n).all isV=true -> dW C hs K ns dst ⟨⟩ e R acc (.agg ((c7.drop off).take n))) /\
      (((c7.drop off).take n).all isV=false -> dW C hs K ns dst ⟨⟩ e R acc (.agx (((c7.drop off).take n).mapIdx fun j c=>ldc p 7 (off + j) c)))
    | false=>dW C hs K ns dst ⟨⟩ e R acc (ldc p 7 off ((c7.drop off).headD .any))):=az rfl
end
end Go.Gv
