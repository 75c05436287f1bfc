/-
  Texts of the proof: GvR, GvEtj, GvN, ItJ, GvT, GvT5, GvT6, GvU, K1, K3, GvW, GvX, H1, J1, A1.
-/
import Derived.Test.YteaonmajblajnaaGreatDoorX4
import Derived.SizedLaws
import Derived.ProofKit
import Derived.Test.YteaonmajblajnaaGreatDoorX5
import Derived.Test.YteaonmajblajnaaGreatDoorProg
import Derived.KernelRfl
import Derived.Shelf.Small.Bits
import Derived.Shelf.Small.Wraps
import Derived.Shelf.Strconv.Itoa0
import Derived.Shelf.Strconv.Itoa1
import Derived.Shelf.LaysM
import Derived.Shelf.Strconv.Itoa2
import Derived.Shelf.Strconv.Itoa3
import Derived.Shelf.Bits.Mul64
import Derived.Shelf.Slices.Turned
import Derived.Shelf.Slices.Equal
import Derived.Ground.Names2Prog
import Derived.Shelf.Slices.SearchI
import Derived.Shelf.Slices.Empties2
import Derived.Ground.SlsfProg
import Derived.Shelf.SlSortCmp.NoneTotal
import Derived.Sort.Row
import Derived.Sort.Grow
import Derived.Shelf.SlSortCmp.WholeK
import Derived.Shelf.Small.Strs
import Derived.Lib.Bytealg
import Derived.Shelf.SlSortCmp.Insertion
set_option linter.all false
namespace Go.Gv
open Go.RowKit Go.ChangeShapes Go.WideShapes Go.ChangeAt
inductive Sh where
 | int (k : IntKind)
 | bool
 | str
 | sl (row : List Sh)
mutual
def bj : Sh -> D -> Prop
 | .int k,d=>∃ n,d=.int k n /\ (Lit.int k n).wf=true
 | .bool,d=>∃ b,d=.bool b
 | .str,d=>∃ s,d=.str s /\ s.length < 140737488355328
 | .sl row,d=>∃ es,(d=.sl es \/ (d=.nils /\ es=[])) /\ es.length < 140737488355328 /\ ∀ e ∈ es,aJ row e
def aJ : List Sh -> List D -> Prop
 | [],ds=>ds=[]
 | s::ss,ds=>∃ d r,ds=d::r /\ bj s d /\ aJ ss r
end
theorem aJ.length : ∀ {ss : List Sh} {ds : List D},aJ ss ds -> ds.length=ss.length
 | [],ds,h=>by simp only [aJ] at h;simp [h]
 | s::ss,ds,h=>by
  simp only [aJ] at h
  obtain ⟨d,r,rfl,_,h2⟩:=h
  simp [aJ.length h2]
theorem aJ.append : ∀ {ss ts : List Sh} {ds es : List D},aJ ss ds -> aJ ts es -> aJ (ss++ts) (ds++es)
 | [],ts,ds,es,h,h'=>by simp only [aJ] at h;subst h;exact h'
 | s::ss,ts,ds,es,h,h'=>by
  simp only [aJ] at h
  obtain ⟨d,r,rfl,h1,h2⟩:=h
  exact ⟨d,r++es,rfl,h1,aJ.append h2 h'⟩
def pd (P : Program) (rec : TypeId -> Option (List Sh)) : List Field -> Nat -> Option (List Sh)
 | [],_=>some []
 | f::fs,off=>if f.offset=off then (match rec f.type with
   | some l=>if l.length=P.cellsOf f.type then (match pd P rec fs (off + l.length) with
    | some r=>some (l++r)
    | none=>none) else none
   | none=>none) else none
def jk (P : Program) : Nat -> TypeId -> Option (List Sh)
 | 0,_=>none
 | n + 1,t=>match P.underlying t with
  | some .bool=>some [.bool]
  | some (.int k)=>some [.int k]
  | some .string=>some [.str]
  | some (.slice e)=>(match jk P n e with
   | some l=>if l.length=P.cellsOf e /\ 1 <= P.bytesOf e then some [.sl l] else none
   | none=>none)
  | some (.struct fs)=>(match pd P (jk P n) fs.toList 0 with
   | some l=>if l.length=P.cellsOf t then some l else none
   | none=>none)
  | _=>none
section
variable {H : Type} {enc : TypeId × Value -> H} {P : Program} {F : Fid} {w : World} {sp : Nat -> Bool}
abbrev jP (w : World) : Mem:=fun p=>w.cell? p
def vf (enc : TypeId × Value -> H) (P : Program) (F : Fid) (w : World) (sp : Nat -> Bool) (n : Nat) (t : TypeId) (shs : List Sh) : Prop :=
 ∀ (cs : List Value) (d : DataW H) (ps : List MemPlace),DataW.trod enc P w 0 sp true n t cs=some (d,ps) -> (d.weights P t).all (· <= reachBytes)=true -> ∃ ds,aJ shs ds /\ ar F (jP w) ds cs
theorem i9 {α β : Type} {f : α -> Option β} {x : α} {l : List α} {ys : List β} (h : (x::l).mapM f=some ys) : ∃ y r,f x=some y /\ l.mapM f=some r /\ ys=y::r:=by
 rw [List.mapM_cons] at h
 cases hx : f x with
 | none=>rw [hx] at h;cases h
 | some y =>
  cases hl : l.mapM f with
  | none=>rw [hx,hl] at h;cases h
  | some r =>
   rw [hx,hl] at h
   exact ⟨y,r,rfl,rfl,by cases h;rfl⟩
theorem nw {n m : Nat} (ih : ∀ t shs,jk P m t=some shs -> vf enc P F w sp n t shs) {cs : List Value} : ∀ (fs : List Field) (off : Nat) (xs : List (DataW H × List MemPlace)) (shs : List Sh),
  (fs.mapM fun f=>DataW.trod enc P w 0 sp true n f.type ((cs.drop f.offset).take (P.cellsOf f.type)))=some xs -> pd P (jk P m) fs off=some shs -> (DataW.weightsEach P (fs.map (·.type)) (xs.map (·.1))).all (· <= reachBytes)=true -> cs.length=off + shs.length ->
   ∃ ds,aJ shs ds /\ ar F (jP w) ds (cs.drop off)
 | [],off,xs,shs,_,h2,_,h4=>by
  cases h2
  exact ⟨[],rfl,by simp only [ar];exact List.drop_of_length_le (by simpa using Nat.le_of_eq h4)⟩
 | f::fs,off,xs,shs,h1,h2,h3,h4=>by
  obtain ⟨y,r,e1,e2,rfl⟩:=i9 h1
  simp only [pd] at h2
  split at h2
  case isFalse=>cases h2
  rename_i ho
  split at h2
  case h_2=>cases h2
  rename_i l hl
  split at h2
  case isFalse=>cases h2
  rename_i hlen
  split at h2
  case h_2=>cases h2
  rename_i rs hr
  cases h2
  simp only [List.map_cons,DataW.weightsEach,List.all_append,Bool.and_eq_true] at h3
  rw [List.length_append] at h4
  obtain ⟨ds1,g1,g2⟩:=ih f.type l hl _ y.1 y.2 e1 h3.1
  obtain ⟨ds2,g3,g4⟩:=nw ih fs (off + l.length) r rs e2 hr h3.2 (by omega)
  refine ⟨ds1++ds2,g1.append g3,?_⟩
  rw [ho,<- hlen] at g2
  have:=g2.append g4
  rwa [<- List.drop_drop,List.take_append_drop] at this
theorem nx {n k : Nat} {e : TypeId} {l : List Sh} {a : Addr} (hl : l.length=k) (ih : vf enc P F w sp n e l) : ∀ (c s : Nat) (xs : List (DataW H × List MemPlace)),
  ((List.range' s c).mapM fun i=>(w.cells? 0 (a.add (i * k)) k).bind (DataW.trod enc P w 0 sp true n e))=some xs -> (DataW.weightsAll P e (xs.map (·.1))).all (· <= reachBytes)=true ->
   ∃ (es : List (List D)) (vs : List Value),es.length=c /\ xs.length=c /\ (∀ r ∈ es,aJ l r) /\ bi F (jP w) es vs /\ ∀ j v,vs[j]? = some v -> w.cell? (a.add (s * k + j))=some v
 | 0,s,xs,h,_=>by
  cases h
  exact ⟨[],[],rfl,rfl,by simp,by simp [bi],fun j v h=>by simp at h⟩
 | c + 1,s,xs,h,hw=>by
  rw [List.range'_succ] at h
  obtain ⟨y,r,e1,e2,rfl⟩:=i9 h
  rw [Option.bind_eq_some_iff] at e1
  obtain ⟨row,c1,c2⟩:=e1
  simp only [List.map_cons,DataW.weightsAll,List.all_append,Bool.and_eq_true] at hw
  obtain ⟨ds,g1,g2⟩:=ih row y.1 y.2 c2 hw.1
  obtain ⟨es,vs,h1,h2,h3,h4,h5⟩:=nx hl ih c (s + 1) r e2 hw.2
  have hrow:=World.cells?_some c1
  refine ⟨ds::es,row++vs,by simp [h1],by simp [h2],?_,⟨row,vs,rfl,g2,h4⟩,fun j v hj=>?_⟩
  ·intro x hx
   rcases List.mem_cons.1 hx with rfl | hx
   ·exact g1
   ·exact h3 x hx
  ·have hrl : row.length=k:=by rw [g2.length,g1.length,hl]
   have addadd : ∀ i j,(a.add i).add j=a.add (i + j):=fun i j=>by
    unfold Addr.add
    by_cases hi : i=0 <;> by_cases hj : j=0 <;> simp [hi,hj,Nat.add_assoc]
   by_cases hjk : j < k
   ·rw [List.getElem?_append_left (by omega)] at hj
    have:=hrow.2.2 j hjk
    rw [hj,addadd] at this
    exact this
   ·rw [List.getElem?_append_right (by omega)] at hj
    have:=h5 (j - row.length) v hj
    rw [hrl] at this
    rwa [show (s + 1) * k + (j - k)=s * k + j by rw [Nat.succ_mul];omega] at this
theorem pK : ∀ (m : Nat) (n : Nat) (t : TypeId) (shs : List Sh),jk P m t=some shs -> vf enc P F w sp n t shs
 | 0,_,_,_,h=>by cases h
 | m + 1,0,t,shs,_=>fun cs d ps h _=>by simp [DataW.trod] at h
 | m + 1,n + 1,t,shs,h=>by
  intro cs d ps ht hw
  rw [jk] at h
  split at h
  ·rename_i hu
   cases h
   unfold DataW.trod at ht;rw [hu] at ht
   split at ht <;> try (simp_all;done)
   rename_i b _
   refine ⟨[.bool b],⟨_,_,rfl,⟨b,rfl⟩,rfl⟩,by simp [ar,af]⟩
  ·rename_i k hu
   cases h
   unfold DataW.trod at ht;rw [hu] at ht
   split at ht <;> try (simp_all;done)
   rename_i k1 k2 x h1
   simp only [Option.some.injEq,TypeDesc.int.injEq] at h1
   subst h1
   split at ht
   ·rename_i hk
    obtain ⟨rfl,hwf⟩:=hk
    exact ⟨[.int _ x],⟨_,_,rfl,⟨x,rfl,hwf⟩,rfl⟩,by simp [ar,af]⟩
   ·cases ht
  ·rename_i hu
   cases h
   unfold DataW.trod at ht;rw [hu] at ht
   split at ht <;> try (simp_all;done)
   rename_i s _
   split at ht
   ·rename_i hs
    simp only [Option.some.injEq,Prod.mk.injEq] at ht
    obtain ⟨rfl,rfl⟩:=ht
    simp only [DataW.weights,List.all_cons,List.all_nil,Bool.and_true,decide_eq_true_eq] at hw
    refine ⟨[.str s.data.toList],⟨_,_,rfl,⟨_,rfl,?_⟩,rfl⟩,?_⟩
    ·have:=reachBytes_lt;omega
    ·obtain ⟨s⟩:=s
     simp [ar,af]
   ·cases ht
  ·rename_i e hu
   split at h
   case h_2=>cases h
   rename_i l hl
   split at h
   case isFalse=>cases h
   rename_i hk
   cases h
   unfold DataW.trod at ht;rw [hu] at ht
   split at ht <;> try (simp_all;done)
   ·refine ⟨[.nils],⟨_,_,rfl,⟨[],.inr ⟨rfl,rfl⟩,by simp,by simp⟩,rfl⟩,by simp [ar,af]⟩
   ·rename_i e' a len cap h1
    simp only [Option.some.injEq,TypeDesc.slice.injEq] at h1
    subst h1
    simp only at ht
    split at ht
    case isFalse=>cases ht
    rename_i hb
    rw [Option.bind_eq_some_iff] at ht
    obtain ⟨xs,e1,e2⟩:=ht
    rw [Option.map_eq_some_iff] at e2
    obtain ⟨rest,e3,e4⟩:=e2
    simp only [Prod.mk.injEq] at e4
    obtain ⟨rfl,rfl⟩:=e4
    simp only [DataW.weights,hu,List.all_cons,List.all_append,Bool.and_eq_true,decide_eq_true_eq] at hw
    obtain ⟨w1,w2,w3⟩:=hw
    rw [List.range_eq_range'] at e1
    obtain ⟨es,vs,g1,g2,g3,g4,g5⟩:=nx (F:=F) hk.1 (pK m n e l hl) len 0 xs e1 w2
    refine ⟨[.sl es],⟨_,_,rfl,⟨es,.inl rfl,?_,g3⟩,rfl⟩,?_⟩
    ·have h5:=reachBytes_lt
     have h6 : es.length * 1 <= (xs.length + rest.length) * P.bytesOf e:=Nat.mul_le_mul (by omega) hk.2
     simp only [List.length_map] at w1
     omega
    ·simp only [ar]
     refine ⟨_,_,rfl,?_,rfl⟩
     simp only [af]
     refine ⟨some a,cap,vs,P.cellsOf e,by rw [g1],by omega,g4,fun r hr=>by rw [(g3 r hr).length,hk.1],fun _=>⟨a,rfl,fun j v hj=>?_⟩⟩
     have:=g5 j v hj
     simpa using this
  ·rename_i fs hu
   split at h
   case h_2=>cases h
   rename_i l hl
   split at h
   case isFalse=>cases h
   rename_i hk
   cases h
   unfold DataW.trod at ht;rw [hu] at ht
   split at ht <;> try (simp_all;done)
   rename_i fs' h1
   simp only [Option.some.injEq,TypeDesc.struct.injEq] at h1
   subst h1
   split at ht
   case isFalse=>cases ht
   rename_i hc
   rw [Option.map_eq_some_iff] at ht
   obtain ⟨xs,e1,e2⟩:=ht
   simp only [Prod.mk.injEq] at e2
   obtain ⟨rfl,rfl⟩:=e2
   simp only [DataW.weights,hu] at hw
   obtain ⟨ds,g1,g2⟩:=nw (F:=F) (n:=n) (fun t shs h=>pK m n t shs h) fs.toList 0 xs _ e1 hl hw (by omega)
   exact ⟨ds,g1,by simpa using g2⟩
  ·cases h
theorem bR {t : TypeId} {fs : Array Field} {m : Nat} {shs : List Sh} {base : Nat} {v : Value} {d : DataW H} {ps : List MemPlace} (hu : P.underlying t=some (.struct fs)) (hsh : jk P m t=some shs) (hv : Value.okWide P w .any base t v) (h : DataW.Trod enc P w 0 sp true t v d ps) (hw : (d.weights P t).all (· <= reachBytes)=true) :
  ∃ ds,aJ shs ds /\ af F (jP w) (.agg ds) v:=by
 obtain ⟨cs,rfl,_⟩:=okWide_struct hu hv
 obtain ⟨n,hn⟩:=h
 obtain ⟨ds,g1,g2⟩:=pK (F:=F) m n t shs hsh _ d ps hn hw
 exact ⟨ds,g1,by simp only [af];exact ⟨cs.toList,by simp,g2⟩⟩
theorem d7 {t : TypeId} {k : IntKind} {base : Nat} {v : Value} {d : DataW H} {ps : List MemPlace} (hu : P.underlying t=some (.int k)) (hv : Value.okWide P w .any base t v) (h : DataW.Trod enc P w 0 sp true t v d ps) :
  ∃ n,(Lit.int k n).wf=true /\ af F (jP w) (.int k n) v:=by
 obtain ⟨n,rfl,_,_,hw⟩:=open_int hu hv h
 exact ⟨n,hw,rfl⟩
end
theorem cC {α : Type} {f : α -> List D} {es : List (List D)} (h : ∀ e ∈ es,∃ x,e=f x) : ∃ xs : List α,es=xs.map f:=by
 induction es with
 | nil=>exact ⟨[],rfl⟩
 | cons e es ih =>
  obtain ⟨x,rfl⟩:=h e (by simp)
  obtain ⟨xs,rfl⟩:=ih (fun e he=>h e (by simp [he]))
  exact ⟨x::xs,rfl⟩
end Go.Gv
namespace Go.Gv
def B4 (P : Program) (F : Fid) (prog : Nat -> Option au) (tbl : List (Nat × Nat)) : Bool:=tbl.all fun p=>ne P p.2 && match prog p.1 with
 | some nf=>fZ P F p.2 nf
 | none=>true
theorem uv {tbl : List (Nat × Nat)} {g f : Nat} (h : tbl.lookup g=some f) : (g,f) ∈ tbl:=by
 induction tbl with
 | nil=>cases h
 | cons p r ih =>
  obtain ⟨a,b⟩:=p
  rw [List.lookup_cons] at h
  cases e : g == a with
  | true=>rw [e] at h;simp at e h;subst e;subst h;simp
  | false=>rw [e] at h;simp [ih h]
theorem seat {P : Program} {tbl : List (Nat × Nat)} {ty : Nat -> TypeId} {prog : Nat -> Option au} (hm : P.follows .mixedOrders=true) (hl : laidOutB P=true) (h : B4 P ⟨P,fun g=>tbl.lookup g,ty⟩ prog tbl=true) :
  bL P ⟨P,fun g=>tbl.lookup g,ty⟩ (cO P ⟨P,fun g=>tbl.lookup g,ty⟩) /\ aB prog (cO P ⟨P,fun g=>tbl.lookup g,ty⟩):=by
 have key : ∀ g f,tbl.lookup g=some f -> ne P f=true /\ ∀ nf,prog g=some nf -> fZ P ⟨P,fun g=>tbl.lookup g,ty⟩ f nf=true:=fun g f e=>by
  have:=List.all_eq_true.1 h _ (uv e)
  simp only [Bool.and_eq_true] at this
  refine ⟨this.1,fun nf hnf=>?_⟩
  have:=this.2
  rw [hnf] at this
  exact this
 exact qY hm (fun g f e=>(key g f e).1) hl rfl (fun g f nf e hp=>(key g f e).2 nf hp)
end Go.Gv

namespace Go.Gv
open Go.Proofs
def TryzTbl : List (Nat × Nat) := [(0, 2), (671, 5), (672, 6), (673, 7), (674, 8), (675, 9), (677, 11), (678, 12), (680, 14), (681, 15), (682, 16), (683, 17), (684, 18), (19, 20), (687, 22), (688, 23), (689, 24), (690, 25), (691, 26), (692, 27), (693, 28), (694, 29), (235, 30), (223, 31), (695, 32), (696, 33), (697, 34), (698, 35), (434, 36), (215, 37), (702, 42), (703, 43), (704, 44), (705, 45), (706, 46), (707, 47), (708, 48), (709, 49), (710, 50), (711, 51), (712, 52), (713, 53), (714, 54), (715, 55), (285, 56), (720, 61), (721, 62), (722, 63), (723, 64), (724, 65), (477, 66), (478, 67), (725, 68), (274, 69), (262, 70), (726, 71), (727, 72), (238, 73), (349, 74), (728, 75), (257, 76), (258, 77), (234, 78), (11, 79), (303, 82), (729, 83), (730, 84), (237, 85), (313, 86), (355, 87), (359, 88), (731, 89), (732, 90), (360, 91), (733, 92), (291, 95), (286, 97), (277, 100), (738, 101), (739, 102), (275, 103), (276, 104), (233, 105), (348, 106), (93, 107), (66, 108), (68, 109), (351, 110), (289, 111), (290, 112), (292, 113), (293, 114), (294, 115), (295, 116), (273, 117), (35, 118), (740, 121), (267, 122), (239, 123), (361, 124), (111, 134), (312, 136), (284, 137), (269, 138), (271, 139), (272, 140), (67, 141), (337, 142), (350, 143), (82, 144), (83, 145), (84, 146), (86, 147), (338, 148), (323, 149), (324, 150), (302, 151), (304, 152), (305, 153), (306, 154), (307, 155), (308, 156), (298, 157), (309, 158), (310, 159), (311, 160), (127, 161), (299, 162), (278, 163), (319, 169), (320, 170), (321, 171), (300, 172), (301, 173), (85, 174), (87, 175), (95, 176), (94, 177), (328, 178), (99, 181), (327, 182), (106, 183), (104, 184), (108, 185), (105, 187), (103, 188), (107, 189), (112, 190), (92, 191), (110, 192), (91, 198), (113, 199), (102, 201)]
def TryzTys : List (Nat × Nat) := [(1, 4), (3, 209), (4, 23)]
set_option maxRecDepth 100000 in
theorem Tryz_all : B4 Tryz.prog ⟨Tryz.prog, fun g => TryzTbl.lookup g, fun t => (TryzTys.lookup t).getD 0⟩ prog TryzTbl = true := by kernel_rfl
end Go.Gv

namespace Go.Gv
open Go.RowKit
theorem gg {P : Program} {F : Fid} {g : Nat} {ds : List D} {d : D} (h : ∀ f,F g=some f -> ∀ (M : Mem) (w : World) (vs : List Value),ar F M ds vs -> ∃ v,af F M d v /\ Calls P f vs.toArray w (fun e w'=>e=.returned v /\ w'=w)) : cO P F g ds d []:=by
 refine ⟨trivial,fun f hf M w vs hh r=>?_⟩
 obtain ⟨v,hv,hc⟩:=h f hf M w vs r
 refine hc.mono ?_
 rintro e w' ⟨rfl,rfl⟩
 exact ⟨v,M,rfl,Bel.refl _,Mem.le_refl _,fun p h1 h2=>absurd h1 h2,hh,hv⟩
end Go.Gv

namespace Go.Proofs
open Go.Shelf
def Tryz.pdqL_ren : Go.Shelf.Ren := ⟨fun | 14 => 93 | 20 => 125 | 21 => 126 | 22 => 127 | 23 => 128 | 24 => 129 | 25 => 130 | 26 => 131 | 27 => 132 | 46 => 164 | 47 => 165 | 48 => 166 | 49 => 167 | 50 => 168 | 15 => 94 | 57 => 180 | 28 => 133 | 29 => 134 | n => n, fun | 24 => 51 | 22 => 41 | 3 => 3 | 25 => 108 | 4 => 4 | 0 => 0 | 46 => 177 | 45 => 176 | 50 => 155 | 66 => 215 | 39 => 139 | 55 => 144 | 70 => 219 | 76 => 229 | 77 => 143 | 53 => 183 | 5 => 5 | 9 => 9 | n => n, fun | n => n⟩
theorem Tryz.pdqL : Go.Proofs.SlLaysF0.n14 Tryz.prog Tryz.pdqL_ren := {
 mixed := by kernel_rfl
 f14 := ⟨Tryz.f93.name, by decide, Tryz.func93.trans (congrArg some (by kernel_rfl))⟩
 f15 := Tryz.func94.trans (congrArg some (by kernel_rfl))
 f20 := ⟨Tryz.f125.name, by decide, Tryz.func125.trans (congrArg some (by kernel_rfl))⟩
 f21 := ⟨Tryz.f126.name, by decide, Tryz.func126.trans (congrArg some (by kernel_rfl))⟩
 f22 := ⟨Tryz.f127.name, by decide, Tryz.func127.trans (congrArg some (by kernel_rfl))⟩
 f23 := ⟨Tryz.f128.name, by decide, Tryz.func128.trans (congrArg some (by kernel_rfl))⟩
 f24 := ⟨Tryz.f129.name, by decide, Tryz.func129.trans (congrArg some (by kernel_rfl))⟩
 f25 := ⟨Tryz.f130.name, by decide, Tryz.func130.trans (congrArg some (by kernel_rfl))⟩
 f26 := ⟨Tryz.f131.name, by decide, Tryz.func131.trans (congrArg some (by kernel_rfl))⟩
 f27 := ⟨Tryz.f132.name, by decide, Tryz.func132.trans (congrArg some (by kernel_rfl))⟩
 f28 := Tryz.func133.trans (congrArg some (by kernel_rfl))
 f29 := Tryz.func134.trans (congrArg some (by kernel_rfl))
 f46 := ⟨Tryz.f164.name, by decide, Tryz.func164.trans (congrArg some (by kernel_rfl))⟩
 f47 := Tryz.func165.trans (congrArg some (by kernel_rfl))
 f48 := Tryz.func166.trans (congrArg some (by kernel_rfl))
 f49 := ⟨Tryz.f167.name, by decide, Tryz.func167.trans (congrArg some (by kernel_rfl))⟩
 f50 := ⟨Tryz.f168.name, by decide, Tryz.func168.trans (congrArg some (by kernel_rfl))⟩
 f57 := ⟨Tryz.f180.name, by decide, Tryz.func180.trans (congrArg some (by kernel_rfl))⟩
 t0 := Tryz.underlying0
 a0 := Tryz.isAgg0
 z0 := Tryz.sizeOf0
 v0 := Tryz.zeroValue0
 t3 := Tryz.underlying3
 a3 := Tryz.isAgg3
 z3 := Tryz.sizeOf3
 v3 := Tryz.zeroValue3
 t4 := Tryz.underlying4
 a4 := Tryz.isAgg4
 z4 := Tryz.sizeOf4
 v4 := Tryz.zeroValue4
 t5 := Tryz.underlying5
 a5 := Tryz.isAgg5
 z5 := Tryz.sizeOf5
 v5 := Tryz.zeroValue5
 t9 := Tryz.underlying9
 a9 := Tryz.isAgg9
 z9 := Tryz.sizeOf9
 v9 := Tryz.zeroValue9
 t22 := Tryz.underlying41
 a22 := Tryz.isAgg41
 z22 := Tryz.sizeOf41
 v22 := Tryz.zeroValue41
 t25 := Tryz.underlying108
 a25 := Tryz.isAgg108
 z25 := Tryz.sizeOf108
 v25 := Tryz.zeroValue108
 t39 := Tryz.underlying139
 a39 := Tryz.isAgg139
 z39 := Tryz.sizeOf139
 v39 := Tryz.zeroValue139
 t45 := Tryz.underlying176
 a45 := Tryz.isAgg176
 z45 := Tryz.sizeOf176
 v45 := Tryz.zeroValue176
 t46 := Tryz.underlying177
 a46 := Tryz.isAgg177
 z46 := Tryz.sizeOf177
 v46 := Tryz.zeroValue177
 t50 := Tryz.underlying155
 a50 := Tryz.isAgg155
 z50 := Tryz.sizeOf155
 v50 := Tryz.zeroValue155
 t53 := Tryz.underlying183
 a53 := Tryz.isAgg183
 z53 := Tryz.sizeOf183
 v53 := Tryz.zeroValue183
 t55 := Tryz.underlying144
 a55 := Tryz.isAgg144
 z55 := Tryz.sizeOf144
 v55 := Tryz.zeroValue144
 t66 := Tryz.underlying215
 a66 := Tryz.isAgg215
 z66 := Tryz.sizeOf215
 v66 := Tryz.zeroValue215
 t70 := Tryz.underlying219
 a70 := Tryz.isAgg219
 z70 := Tryz.sizeOf219
 v70 := Tryz.zeroValue219
 t76 := Tryz.underlying229
 a76 := Tryz.isAgg229
 z76 := Tryz.sizeOf229
 v76 := Tryz.zeroValue229
 t77 := Tryz.underlying143
 a77 := Tryz.isAgg143
 z77 := Tryz.sizeOf143
 v77 := Tryz.zeroValue143 }
def Tryz.lays171_ren : Go.Shelf.Ren := ⟨fun | 171 => 161 | 243 => 179 | 246 => 186 | 283 => 194 | 284 => 195 | 285 => 196 | 286 => 197 | 129 => 134 | 317 => 202 | 318 => 203 | 319 => 204 | 320 => 205 | 337 => 206 | 338 => 207 | n => n, fun | 3 => 3 | 9 => 9 | 2 => 2 | 4 => 4 | 171 => 246 | 0 => 0 | 53 => 144 | 37 => 199 | 5 => 5 | 173 => 248 | 212 => 255 | 51 => 183 | 20 => 20 | 213 => 256 | 46 => 139 | 232 => 257 | 233 => 258 | n => n, fun | 17 => 2 | 18 => 3 | 19 => 4 | n => n⟩
theorem Tryz.lays171 : Go.Proofs.Lays.n171 Tryz.prog Tryz.lays171_ren := {
 mixed := by kernel_rfl
 f129 := Tryz.func134.trans (congrArg some (by kernel_rfl))
 f171 := Tryz.func161.trans (congrArg some (by kernel_rfl))
 f243 := Tryz.func179.trans (congrArg some (by kernel_rfl))
 f246 := Tryz.func186.trans (congrArg some (by kernel_rfl))
 f283 := Tryz.func194.trans (congrArg some (by kernel_rfl))
 f284 := Tryz.func195.trans (congrArg some (by kernel_rfl))
 f285 := Tryz.func196.trans (congrArg some (by kernel_rfl))
 f286 := Tryz.func197.trans (congrArg some (by kernel_rfl))
 f317 := Tryz.func202.trans (congrArg some (by kernel_rfl))
 f318 := Tryz.func203.trans (congrArg some (by kernel_rfl))
 f319 := Tryz.func204.trans (congrArg some (by kernel_rfl))
 f320 := Tryz.func205.trans (congrArg some (by kernel_rfl))
 f337 := Tryz.func206.trans (congrArg some (by kernel_rfl))
 f338 := Tryz.func207.trans (congrArg some (by kernel_rfl))
 t0 := Tryz.underlying0
 a0 := Tryz.isAgg0
 z0 := Tryz.sizeOf0
 v0 := Tryz.zeroValue0
 t2 := Tryz.underlying2
 a2 := Tryz.isAgg2
 z2 := Tryz.sizeOf2
 v2 := Tryz.zeroValue2
 t3 := Tryz.underlying3
 a3 := Tryz.isAgg3
 z3 := Tryz.sizeOf3
 v3 := Tryz.zeroValue3
 t4 := Tryz.underlying4
 a4 := Tryz.isAgg4
 z4 := Tryz.sizeOf4
 v4 := Tryz.zeroValue4
 t5 := Tryz.underlying5
 a5 := Tryz.isAgg5
 z5 := Tryz.sizeOf5
 v5 := Tryz.zeroValue5
 t9 := Tryz.underlying9
 a9 := Tryz.isAgg9
 z9 := Tryz.sizeOf9
 v9 := Tryz.zeroValue9
 t20 := Tryz.underlying20
 a20 := Tryz.isAgg20
 z20 := Tryz.sizeOf20
 v20 := Tryz.zeroValue20
 t37 := Tryz.underlying199
 a37 := Tryz.isAgg199
 z37 := Tryz.sizeOf199
 v37 := Tryz.zeroValue199
 t46 := Tryz.underlying139
 a46 := Tryz.isAgg139
 z46 := Tryz.sizeOf139
 v46 := Tryz.zeroValue139
 t51 := Tryz.underlying183
 a51 := Tryz.isAgg183
 z51 := Tryz.sizeOf183
 v51 := Tryz.zeroValue183
 t53 := Tryz.underlying144
 a53 := Tryz.isAgg144
 z53 := Tryz.sizeOf144
 v53 := Tryz.zeroValue144
 t171 := Tryz.underlying246
 a171 := Tryz.isAgg246
 z171 := Tryz.sizeOf246
 v171 := Tryz.zeroValue246
 t173 := Tryz.underlying248
 a173 := Tryz.isAgg248
 z173 := Tryz.sizeOf248
 v173 := Tryz.zeroValue248
 t212 := Tryz.underlying255
 a212 := Tryz.isAgg255
 z212 := Tryz.sizeOf255
 v212 := Tryz.zeroValue255
 t213 := Tryz.underlying256
 a213 := Tryz.isAgg256
 z213 := Tryz.sizeOf256
 t232 := Tryz.underlying257
 a232 := Tryz.isAgg257
 z232 := Tryz.sizeOf257
 v232 := Tryz.zeroValue257
 t233 := Tryz.underlying258
 a233 := Tryz.isAgg258
 z233 := Tryz.sizeOf258
 v233 := Tryz.zeroValue258
 g17 := by kernel_rfl
 g18 := by kernel_rfl
 g19 := by kernel_rfl }
open Go.RowKit Go.Sort Go.Lib in
theorem Tryz.strconv_Itoa_small (i : Nat) (hi : i < 100) (w : World) :
  Calls Tryz.prog 161 #[.int .i64 i] w fun e w' => e = .returned (.string ⟨(Lib.decDigits i).toArray⟩) /\ w' = w := Any.strconv_Itoa_small Tryz.lays171 i hi w
open Go.Shelf Go.Lib Go.Sort Go.RowKit
set_option maxHeartbeats 4000000 in
set_option maxRecDepth 100000 in
theorem Tryz.sortN_eq {α : Type} [Inhabited α] (k : Nat) (aE : ∀ w, (isAgg (Tryz.pdqL_ren.t 24)).run Tryz.prog w = .ok true w) (zE : ∀ w, (Go.sizeOf (Tryz.pdqL_ren.t 24)).run Tryz.prog w = .ok k w) (enc : α -> List Value) (hk : ∀ x, (enc x).length = k) (h1 : ∀ x, ∀ v ∈ enc x, v.oneCell' = true) (cf : α -> α -> Int) (hO : SWO (ltOf cf)) (g : Nat) (cb : Array Value) (blk off cap : Nat) (d : Array α) (w : World)
  (eg : ∀ args w, (callFunc g args).run Tryz.prog w = .ok (.enter g args) w) (hcmp : CmpLays Tryz.prog g cb enc k cf blk off d.size w) (hH : HoldsK enc k w blk off d) (hblk : blk < w.heap.size) (hsz : d.size < 4611686018427387904) :
  Calls Tryz.prog 53 #[.slice (some ⟨blk, off, none⟩) d.size cap, .func (.func g) #[] cb] w fun e w' =>
   e = .returned (.tuple #[]) /\ ∃ n os, w' = sortWorldK enc k w blk off n (pdq (ltOf cf) d 0 d.size (Lib.bitLen d.size) true true) os := by
 have L := Tryz.pdqL
 have e14 : ∀ args w, (callFunc 93 args).run Tryz.prog w = .ok (.enter 93 args) w := L.f14.enters rfl
 have e15 : ∀ args w, (callFunc 94 args).run Tryz.prog w = .ok (.enter 94 args) w := enters_of L.f15 (by kernel_rfl) rfl
 have hlim : Lib.bitLen d.size < 4611686018427387904 := Nat.lt_of_le_of_lt (Lib.bitLen_le d.size 62 (by omega) (by omega)) (by omega)
 have hp := AnyQ.pdqsortCmpFunc_all (P := Tryz.prog) (ρ := Tryz.pdqL_ren) L k aE zE enc cf g cb hO blk off cap d w eg hcmp ⟨hk, h1, hH, hblk⟩ (d.size + 1) 0 d.size (Lib.bitLen d.size) d w (by omega) rfl (SWK.start hH) (Nat.zero_le _) (Nat.le_refl _) hsz hlim (Or.inl rfl)
 have hl : Calls Tryz.prog 94 #[.int .u64 (d.size : Int)] w fun e w' => e = .returned (.int .i64 (Lib.bitLen d.size : Nat)) /\ w' = w := by
  have h := Any.bits_Len (SlLaysF0.n15.bits (P := Tryz.prog) (ρ := Tryz.pdqL_ren) { L with }) (d.size : Int) w (by omega) (by omega)
  rwa [Int.toNat_natCast] at h
 have wr : IntKind.u64.wrap (d.size : Int) = d.size := by simp [IntKind.wrap, IntKind.bits, IntKind.signed]; omega
 clear hH hcmp hk h1
 replace hp : Calls Tryz.prog 93 #[.slice (some ⟨blk, off, none⟩) d.size cap, .int .i64 0, .int .i64 d.size, .int .i64 (Lib.bitLen d.size : Nat), .func (.func g) #[] cb] w fun e w' => e = .returned (.tuple #[]) /\ SWK enc k w blk off (pdq (ltOf cf) d 0 d.size (Lib.bitLen d.size) true true) w' := hp
 go_enter Tryz.func53, (rfl : Tryz.f53.ntmps = 14)
 go_wp2_with (first | (go_at_fn 94; refine hl.mono ?_; rintro e w' ⟨rfl, rfl⟩) | (go_at_fn 93; refine hp.mono ?_; rintro e w' ⟨rfl, n, os, rfl⟩))
 go_end0
 exact ⟨rfl, n, os, rfl⟩
set_option maxHeartbeats 4000000 in
set_option maxRecDepth 100000 in
theorem Tryz.sortN_none (p : Option Addr) (cap : Nat) (fv : Value) (w : World) : Calls Tryz.prog 53 #[.slice p 0 cap, fv] w fun e w' => e = .returned (.tuple #[]) /\ w' = w := by
 have L := Tryz.pdqL
 have e14 : ∀ args w, (callFunc 93 args).run Tryz.prog w = .ok (.enter 93 args) w := L.f14.enters rfl
 have e15 : ∀ args w, (callFunc 94 args).run Tryz.prog w = .ok (.enter 94 args) w := enters_of L.f15 (by kernel_rfl) rfl
 have hp : ∀ lim W, Calls Tryz.prog 93 #[.slice p 0 cap, .int .i64 0, .int .i64 0, .int .i64 lim, fv] W fun e w' => e = .returned (.tuple #[]) /\ w' = W := fun lim W => AnyF.pdqsortCmpFunc_none (P := Tryz.prog) (ρ := Tryz.pdqL_ren) L p cap lim fv W
 have hl : ∀ W, Calls Tryz.prog 94 #[.int .u64 0] W fun e w' => e = .returned (.int .i64 (Lib.bitLen 0 : Nat)) /\ w' = W := fun W => by
  have h := Any.bits_Len (SlLaysF0.n15.bits (P := Tryz.prog) (ρ := Tryz.pdqL_ren) { L with }) 0 W (by omega) (by omega)
  exact h
 go_enter Tryz.func53, (rfl : Tryz.f53.ntmps = 14)
 go_wp2_with (first | (go_at_fn 94; refine (hl _).mono ?_; rintro e w' ⟨rfl, rfl⟩) | (go_at_fn 93; refine (hp _ _).mono ?_; rintro e w' ⟨rfl, rfl⟩))
 go_end0
 exact ⟨rfl, rfl⟩
end Go.Proofs

namespace Go.Gv
open Go.Sort
section
variable {P : Program} {F : Fid} {α : Type} [Inhabited α]
def RH (encD : α -> D) (d : Array α) : List (List D):=d.toList.map fun x=>[encD x]
end
end Go.Gv

namespace Go.Gv
open Go.Sort Go.Proofs Go.Shelf
theorem Bel.grownK {w w' : World} (h : Bel w w') : ∃ q os,w'=grow (w.drewN q) os:=by
 refine ⟨w'.drawn - w.drawn,w'.heap.extract w.heap.size w'.heap.size,?_⟩
 have hh : w'.heap=w.heap++w'.heap.extract w.heap.size w'.heap.size:=by
  apply Array.ext
  ·have:=h.size
   simp only [Array.size_append,Array.size_extract]
   omega
  ·intro i h1 h2
   by_cases hi : i < w.heap.size
   ·rw [Array.getElem_append_left hi]
    have:=h.block i hi
    rw [Array.getElem?_eq_getElem h1,Array.getElem?_eq_getElem hi] at this
    exact Option.some.inj this
   ·rw [Array.getElem_append_right (by omega),Array.getElem_extract]
    congr 1
    omega
 have hd:=h.drawn
 obtain ⟨h1,h2,h3,h4,h5,h6⟩:=h
 cases w
 cases w'
 simp only [grow,World.drewN] at *
 subst h1 h2 h3
 congr 1
 omega
theorem pE {α : Type} [Inhabited α] {enc : α -> List Value} {k : Nat} {w : World} {blk off n : Nat} {d : Array α} {os : Array Obj} {p : Addr} {v : Value} (hp : p.block ≠ blk) (h : w.cell? p=some v) : (sortWorldK enc k w blk off n d os).cell? p=some v:=by
 have hb : p.block < w.heap.size:=by
  unfold World.cell? at h
  cases e : w.heap[p.block]? with
  | none=>rw [e] at h;cases h
  | some _=>exact (Array.getElem?_eq_some_iff.1 e).1
 have e : (sortWorldK enc k w blk off n d os).heap[p.block]? = w.heap[p.block]?:=by
  simp only [sortWorldK,grow,putRowK,putRow,mapBlock,Sort.ahead]
  rw [Array.getElem?_append_left (by simpa using hb),Array.getElem?_modify,if_neg (Ne.symm hp)]
 unfold World.cell? at h ⊢
 rw [e]
 exact h
section
variable {P : Program} {F : Fid} {α : Type} [Inhabited α]
theorem nG {f : FuncId} (k : Nat) (hk0 : 0 < k) (enc : α -> List Value) (encD : α -> List D) (hk : ∀ x,(enc x).length=k) (hkD : ∀ x,(encD x).length=k) (hflat : ∀ (M : Mem) (x : α) (i : Nat) (d : D) (u : Value),(encD x)[i]? = some d -> af F M d u -> (enc x)[i]? = some u) (hrep : ∀ M x,ar F M (encD x) (enc x)) (d d' : Array α) (hsz : d'.size=d.size) (ds : List D)
  (hnone : d.size=0 -> ∀ (M : Mem) (w : World) (vs : List Value) (A : Option Addr),(∀ p v,M p=some v -> w.cell? p=some v) -> ar F M ds vs -> Calls P f (.slice A 0 0::vs).toArray w fun e w'=>e=.returned (.tuple #[]) /\ ∃ n os,w'=grow (Sort.ahead w n) os)
  (hrun : ∀ (M : Mem) (w : World) (vs : List Value) (blk off cap : Nat),(∀ p v,M p=some v -> w.cell? p=some v) -> (∀ p : Addr,p.block=blk -> M p=none) -> ar F M ds vs -> HoldsK enc k w blk off d -> blk < w.heap.size ->
   Calls P f (.slice (some ⟨blk,off,none⟩) d.size cap::vs).toArray w fun e w'=>e=.returned (.tuple #[]) /\ ∃ n os,w'=sortWorldK enc k w blk off n d' os) : vn P F f k (d.toList.map encD) ds (d'.toList.map encD):=by
 intro M w vs hh r
 have hl : (d.toList.map encD).length=d.size:=by simp
 refine ⟨fun e A=>?_,fun b o T us cap hM hb hcell hcap hle hu hc=>?_⟩
 ·have h0 : d.size=0:=by rw [<- hl,e];rfl
  refine (hnone h0 M w vs A hh r).mono ?_
  rintro e0 w' ⟨rfl,n,os,rfl⟩
  exact ⟨rfl,rfl,rfl,rfl,by simp [grow,Sort.ahead],fun k hk=>by simp only [grow,Sort.ahead];rw [Array.getElem?_append_left hk],Nat.le_add_right _ _⟩
 ·rw [hl] at hcap ⊢
  have hH : HoldsK enc k w b o d:=fun j hj=>by
   rw [size_flatK] at hj
   have hi : j / k < d.size:=(Nat.div_lt_iff_lt_mul hk0).2 hj
   have hm : j % k < k:=Nat.mod_lt _ hk0
   have hx : (encD d[j / k])[j % k]? = some ((encD d[j / k])[j % k]'(by rw [hkD];exact hm)):=List.getElem?_eq_getElem _
   obtain ⟨u,k1,k2⟩:=hc (j / k) (encD d[j / k]) (j % k) _ (by simp [hi]) hx
   have k3:=hflat _ _ _ _ _ hx k2
   rw [Nat.add_assoc,Nat.mul_comm (j / k) k,Nat.div_add_mod] at k1
   have e1 : (flatK enc k d)[j]! = u:=by
    rw [get_flatK _ _ _ _ hj,getElem!_pos d (j / k) hi]
    have:=(List.getElem?_eq_some_iff.1 k3).2
    rw [getElem!_pos _ _ (by rw [hk];exact hm)]
    exact this
   rw [e1]
   exact ⟨by simp [World.cell?,hcell,k1],by simp [World.frozen?,hcell]⟩
  refine (hrun M w vs b o cap hh hM r hH hb).mono ?_
  rintro e0 w' ⟨rfl,n,os,rfl⟩
  have hput : (sortWorldK enc k w b o n d' os).heap[b]? = some (.cells (putCells id o (flatK enc k d') us.toArray) T (0,0)):=by
   simp only [sortWorldK,grow,putRowK,putRow,mapBlock,Sort.ahead]
   rw [Array.getElem?_append_left (by simpa using hb),Array.getElem?_modify,if_pos rfl,hcell]
   rfl
  refine ⟨rfl,(putCells id o (flatK enc k d') us.toArray).toList,by rw [Array.toArray_toList];exact hput,by simp [putCells],fun i r off x hi hr=>?_,⟨rfl,rfl,rfl,by simp [sortWorldK,grow,putRowK,putRow,mapBlock,Sort.ahead],fun q hq hne=>?_,Nat.le_add_right _ _⟩⟩
  ·simp only [List.getElem?_map,Option.map_eq_some_iff] at hi
   obtain ⟨y,h1,rfl⟩:=hi
   have ho : off < k:=by have:=(List.getElem?_eq_some_iff.1 hr).1;rwa [hkD] at this
   have hi2 : i < d'.size:=by have:=(List.getElem?_eq_some_iff.1 h1).1;simpa using this
   have hy : d'[i]! = y:=by
    rw [getElem!_pos d' i hi2]
    have:=(List.getElem?_eq_some_iff.1 h1).2
    simpa using this
   obtain ⟨u,k1,k2⟩:=(hrep M y).get hr
   have hlt : i * k + off < d'.size * k:=by
    have : i * k + k <= d'.size * k:=by rw [<- Nat.succ_mul];exact Nat.mul_le_mul_right _ hi2
    omega
   have hlt2 : o + i * k + off < us.length:=by
    have h3 : d'.size * k <= cap * k:=Nat.mul_le_mul_right _ (by omega)
    omega
   refine ⟨u,?_,k2⟩
   rw [Array.getElem?_toList]
   simp only [putCells,Array.getElem?_mapIdx,List.getElem?_toArray]
   rw [List.getElem?_eq_getElem hlt2]
   simp only [Option.map_some,size_flatK]
   rw [if_pos ⟨by omega,by omega⟩,show o + i * k + off - o=i * k + off by omega,get_flatK _ _ _ _ hlt]
   have e1 : (i * k + off) / k=i:=by rw [Nat.mul_comm,Nat.mul_add_div hk0,Nat.div_eq_of_lt ho];omega
   have e2 : (i * k + off) % k=off:=by rw [Nat.mul_comm,Nat.mul_add_mod,Nat.mod_eq_of_lt ho]
   rw [e1,e2,hy]
   obtain ⟨z1,z2⟩:=List.getElem?_eq_some_iff.1 k1
   rw [getElem!_pos (enc y) off z1]
   simp [z2]
  ·simp only [sortWorldK,grow,putRowK,putRow,mapBlock,Sort.ahead]
   rw [Array.getElem?_append_left (by simpa using hq),Array.getElem?_modify,if_neg (Ne.symm hne)]
end
end Go.Gv

namespace Go.Gv
open Go.Sort Go.Proofs Go.Shelf
section
variable {P : Program} {F : Fid} {α : Type} [Inhabited α]
theorem di {f1 : FuncId} (k : Nat) (hk0 : 0 < k) (enc : α -> List Value) (encD : α -> List D) (hk : ∀ x,(enc x).length=k) (hkD : ∀ x,(encD x).length=k) (h1 : ∀ x,∀ v ∈ enc x,v.oneCell'=true)
  (hflat : ∀ (M : Mem) (x : α) (i : Nat) (d : D) (u : Value),(encD x)[i]? = some d -> af F M d u -> (enc x)[i]? = some u) (hrep : ∀ M x,ar F M (encD x) (enc x)) (cf : α -> α -> Int) (hO : SWO (ltOf cf)) (hT : ∀ x y,(ltOf cf) x y=false -> (ltOf cf) y x=false -> x=y) {g cg : Nat} (hg : ∀ f,F g=some f -> f=f1)
  (hnone : ∀ (p : Option Addr) (cap : Nat) (fv : Value) (w : World),Calls P f1 #[.slice p 0 cap,fv] w fun e w'=>e=.returned (.tuple #[]) /\ w'=w)
  (htot : ∀ (g : Nat) (cb : Array Value) (blk off cap : Nat) (d : Array α) (w : World),(∀ args w,(callFunc g args).run P w=.ok (.enter g args) w) -> CmpLays P g cb enc k cf blk off d.size w -> HoldsK enc k w blk off d -> blk < w.heap.size -> d.size < 4611686018427387904 ->
   Calls P f1 #[.slice (some ⟨blk,off,none⟩) d.size cap,.func (.func g) #[] cb] w fun e w'=>e=.returned (.tuple #[]) /\ ∃ n os,w'=sortWorldK enc k w blk off n (pdq (ltOf cf) d 0 d.size (Lib.bitLen d.size) true true) os) {cs : List D}
  (hn : ∀ f,F cg=some f -> ne P f=true) (hcl : ∀ x y,cO P F cg (.agg (encD x)::.agg (encD y)::cs) (.int .i64 (cf x y)) []) (d : List α) (hz : d.length < 2 ^ 62) :
  cO P F g [.own k (d.map encD),.fn cg cs] .any [.own k ((d.mergeSort fun x y=>!(ltOf cf) y x).map encD),.nilp]:=by
 refine ⟨trivial,fun f hf=>⟨rfl,?_⟩⟩
 obtain rfl:=hg f hf
 have key:=nG (P:=P) (F:=F) (f:=f) k hk0 enc encD hk hkD hflat hrep d.toArray (d.mergeSort fun x y=>!(ltOf cf) y x).toArray (by simp) [.fn cg cs] (fun h M w vs A hh r=>by
  simp only [ar,af] at r
  obtain ⟨fv,vs',rfl,⟨fi,us,hfi,rfl,hus⟩,rfl⟩:=r
  refine (hnone A 0 _ w).mono ?_
  rintro e w' ⟨rfl,rfl⟩
  exact ⟨rfl,0,#[],by simp [grow,Sort.ahead]⟩) (fun M w vs blk off cap hh hM r hH hb=>by
  simp only [ar,af] at r
  obtain ⟨fv,vs',rfl,⟨fi,us,hfi,rfl,hus⟩,rfl⟩:=r
  have hcmp : CmpLays P fi us.toArray enc k cf blk off d.toArray.size w:=by
   intro m os dk hdk x y
   have hr:=(hcl x y).2 fi hfi M (sortWorldK enc k w blk off m dk os) (.agg (enc x).toArray::.agg (enc y).toArray::us) (fun p v hpv=>pE (fun e=>by rw [hM p e] at hpv;cases hpv) (hh p v hpv)) (by
    simp only [ar,af]
    exact ⟨_,_,rfl,⟨_,rfl,hrep _ _⟩,_,_,rfl,⟨_,rfl,hrep _ _⟩,hus⟩)
   have e : #[Value.agg (enc x).toArray,.agg (enc y).toArray]++us.toArray=(.agg (enc x).toArray::.agg (enc y).toArray::us).toArray:=by simp
   rw [e]
   refine hr.mono ?_
   rintro e w' ⟨v,M',rfl,hbel,_,_,_,hv⟩
   simp only [af] at hv
   subst hv
   exact ⟨rfl,hbel.grownK⟩
  have:=htot fi us.toArray blk off cap d.toArray w (bS (hn fi hfi)) hcmp hH hb (by simpa using hz)
  have hs:=pdq_sorts (ltOf cf) hO d.toArray 0 d.toArray.size (Lib.bitLen d.toArray.size) true true (Nat.zero_le _) (Nat.le_refl _) (Or.inl rfl)
  have : Calls P f #[.slice (some ⟨blk,off,none⟩) d.toArray.size cap,.func (.func fi) #[] us.toArray] w fun e w'=>e=.returned (.tuple #[]) /\ ∃ n os,w'=sortWorldK enc k w blk off n (d.toArray.toList.mergeSort fun x y=>!(ltOf cf) y x).toArray os :=
   this.mono fun _ _ ⟨he,n,os,hw⟩=>⟨he,n,os,by rw [hw,<- sorted_unique_holds hO hT d.toArray _ hs.1 hs.2]⟩
  simpa using this)
 simpa using key
end
end Go.Gv

namespace Go.Gv
structure Tag {α : Type _} (x : α) : Type where
@[simp] theorem OZ : isV (.any)=true:=_root_.id rfl
@[simp] theorem O3 {k n} : isV (.int k n)=true:=_root_.id rfl
@[simp] theorem Kd {b} : isV (.bool b)=true:=_root_.id rfl
@[simp] theorem Pc {s} : isV (.str s)=true:=_root_.id rfl
@[simp] theorem Ke : isV (.nilp)=true:=_root_.id rfl
@[simp] theorem Kf : isV (.nils)=true:=_root_.id rfl
@[simp] theorem OX {ds} : isV (.agg ds)=true:=_root_.id rfl
@[simp] theorem Pe {ds} : isV (.tup ds)=true:=_root_.id rfl
@[simp] theorem Ro {es} : isV (.sl es)=true:=_root_.id rfl
@[simp] theorem O6 {ds} : isV (.ptr ds)=true:=_root_.id rfl
@[simp] theorem Rm {g ds} : isV (.fn g ds)=true:=_root_.id rfl
@[simp] theorem O5 {sz es} : isV (.own sz es)=false:=_root_.id rfl
@[simp] theorem O0 {sz es} : isV (.blk sz es)=false:=_root_.id rfl
@[simp] theorem Rn {kt et ks vs} : isV (.mp kt et ks vs)=false:=_root_.id rfl
@[simp] theorem O4 {b} : isV (.mrf b)=false:=_root_.id rfl
@[simp] theorem O8 {p k n} : isV (.ref p k n)=false:=_root_.id rfl
@[simp] theorem OW {p i off} : isV (.adr p i off)=false:=_root_.id rfl
@[simp] theorem OY {ds} : isV (.agx ds)=false:=_root_.id rfl
@[simp] theorem Pd {ds} : isV (.tpx ds)=false:=_root_.id rfl
@[simp] theorem O7 {ds} : isV (.ptx ds)=false:=_root_.id rfl
@[simp] theorem O9 {n sz ds} : isV (.rfx n sz ds)=false:=_root_.id rfl
@[simp] theorem O1 {g ds} : isV (.fnx g ds)=false:=_root_.id rfl
@[simp] theorem NO : isK (.any)=false:=_root_.id rfl
@[simp] theorem NR {k n} : isK (.int k n)=true:=_root_.id rfl
@[simp] theorem JS {b} : isK (.bool b)=true:=_root_.id rfl
@[simp] theorem NZ {s} : isK (.str s)=true:=_root_.id rfl
@[simp] theorem JT : isK (.nilp)=true:=_root_.id rfl
@[simp] theorem JU : isK (.nils)=true:=_root_.id rfl
@[simp] theorem NM {ds} : isK (.agg ds)=true:=_root_.id rfl
@[simp] theorem N1 {ds} : isK (.tup ds)=true:=_root_.id rfl
@[simp] theorem Q6 {es} : isK (.sl es)=true:=_root_.id rfl
@[simp] theorem NU {ds} : isK (.ptr ds)=true:=_root_.id rfl
@[simp] theorem Q4 {g ds} : isK (.fn g ds)=true:=_root_.id rfl
@[simp] theorem NT {sz es} : isK (.own sz es)=false:=_root_.id rfl
@[simp] theorem NP {sz es} : isK (.blk sz es)=false:=_root_.id rfl
@[simp] theorem Q5 {kt et ks vs} : isK (.mp kt et ks vs)=false:=_root_.id rfl
@[simp] theorem NS {b} : isK (.mrf b)=false:=_root_.id rfl
@[simp] theorem NW {p k n} : isK (.ref p k n)=false:=_root_.id rfl
@[simp] theorem NL {p i off} : isK (.adr p i off)=false:=_root_.id rfl
@[simp] theorem NN {ds} : isK (.agx ds)=false:=_root_.id rfl
@[simp] theorem N0 {ds} : isK (.tpx ds)=false:=_root_.id rfl
@[simp] theorem NV {ds} : isK (.ptx ds)=false:=_root_.id rfl
@[simp] theorem NX {n sz ds} : isK (.rfx n sz ds)=false:=_root_.id rfl
@[simp] theorem NQ {g ds} : isK (.fnx g ds)=false:=_root_.id rfl
@[simp] theorem Oo : isP (.any)=true:=_root_.id rfl
@[simp] theorem Ou {k n} : isP (.int k n)=true:=_root_.id rfl
@[simp] theorem JY {b} : isP (.bool b)=true:=_root_.id rfl
@[simp] theorem OC {s} : isP (.str s)=true:=_root_.id rfl
@[simp] theorem JZ : isP (.nilp)=true:=_root_.id rfl
@[simp] theorem J0 : isP (.nils)=true:=_root_.id rfl
@[simp] theorem Om {ds} : isP (.agg ds)=true:=_root_.id rfl
@[simp] theorem OE {ds} : isP (.tup ds)=true:=_root_.id rfl
@[simp] theorem Re {es} : isP (.sl es)=true:=_root_.id rfl
@[simp] theorem Ox {ds} : isP (.ptr ds)=true:=_root_.id rfl
@[simp] theorem Rc {g ds} : isP (.fn g ds)=true:=_root_.id rfl
@[simp] theorem Ow {sz es} : isP (.own sz es)=false:=_root_.id rfl
@[simp] theorem Oq {sz es} : isP (.blk sz es)=false:=_root_.id rfl
@[simp] theorem Rd {kt et ks vs} : isP (.mp kt et ks vs)=false:=_root_.id rfl
@[simp] theorem Ov {b} : isP (.mrf b)=true:=_root_.id rfl
@[simp] theorem Oz {p k n} : isP (.ref p k n)=true:=_root_.id rfl
@[simp] theorem Ol {p i off} : isP (.adr p i off)=true:=_root_.id rfl
@[simp] theorem On {ds} : isP (.agx ds)=false:=_root_.id rfl
@[simp] theorem OD {ds} : isP (.tpx ds)=false:=_root_.id rfl
@[simp] theorem Oy {ds} : isP (.ptx ds)=false:=_root_.id rfl
@[simp] theorem OA {n sz ds} : isP (.rfx n sz ds)=false:=_root_.id rfl
@[simp] theorem Ot {g ds} : isP (.fnx g ds)=false:=_root_.id rfl
@[simp] theorem OI : isS (.any)=true:=_root_.id rfl
@[simp] theorem Rk : isV (.bb)=true:=_root_.id rfl
@[simp] theorem Rf : isS (.bb)=true:=_root_.id rfl
@[simp] theorem Rb : isP (.bb)=true:=_root_.id rfl
@[simp] theorem QV : isB (.bb)=false:=_root_.id rfl
@[simp] theorem IT : cY (.bb)=false:=_root_.id rfl
@[simp] theorem Gt : bI (.bb)=[]:=_root_.id rfl
@[simp] theorem Db : aI (.bb)=[]:=_root_.id rfl
@[simp] theorem OL {k n} : isS (.int k n)=true:=_root_.id rfl
@[simp] theorem Ka {b} : isS (.bool b)=true:=_root_.id rfl
@[simp] theorem OT {s} : isS (.str s)=true:=_root_.id rfl
@[simp] theorem Kb : isS (.nilp)=true:=_root_.id rfl
@[simp] theorem Kc : isS (.nils)=true:=_root_.id rfl
@[simp] theorem OG {ds} : isS (.agg ds)=true:=_root_.id rfl
@[simp] theorem OV {ds} : isS (.tup ds)=true:=_root_.id rfl
@[simp] theorem Rj {es} : isS (.sl es)=true:=_root_.id rfl
@[simp] theorem OO {ds} : isS (.ptr ds)=true:=_root_.id rfl
@[simp] theorem Rg {g ds} : isS (.fn g ds)=true:=_root_.id rfl
@[simp] theorem ON {sz es} : isS (.own sz es)=false:=_root_.id rfl
@[simp] theorem OJ {sz es} : isS (.blk sz es)=false:=_root_.id rfl
@[simp] theorem Ri {kt et ks vs} : isS (.mp kt et ks vs)=false:=_root_.id rfl
@[simp] theorem OM {b} : isS (.mrf b)=true:=_root_.id rfl
@[simp] theorem OQ {p k n} : isS (.ref p k n)=true:=_root_.id rfl
@[simp] theorem OF {p i off} : isS (.adr p i off)=true:=_root_.id rfl
@[simp] theorem OH {ds} : isS (.agx ds)=ds.all isP:=_root_.id rfl
@[simp] theorem OU {ds} : isS (.tpx ds)=ds.all isP:=_root_.id rfl
@[simp] theorem OP {ds} : isS (.ptx ds)=ds.all isP:=_root_.id rfl
@[simp] theorem OR {n sz ds} : isS (.rfx n sz ds)=ds.all isP:=_root_.id rfl
@[simp] theorem OK {g ds} : isS (.fnx g ds)=ds.all isP:=_root_.id rfl
@[simp] theorem I5 : aA (.any)=false:=_root_.id rfl
@[simp] theorem I8 {k n} : aA (.int k n)=true:=_root_.id rfl
@[simp] theorem FQ {b} : aA (.bool b)=true:=_root_.id rfl
@[simp] theorem Jg {s} : aA (.str s)=true:=_root_.id rfl
@[simp] theorem FR : aA (.nilp)=true:=_root_.id rfl
@[simp] theorem zfs : aA (.nils)=true:=_root_.id rfl
@[simp] theorem I2 {ds} : aA (.agg ds)=false:=_root_.id rfl
@[simp] theorem Ji {ds} : aA (.tup ds)=false:=_root_.id rfl
@[simp] theorem Nn {es} : aA (.sl es)=true:=_root_.id rfl
@[simp] theorem Jb {ds} : aA (.ptr ds)=true:=_root_.id rfl
@[simp] theorem Nl {g ds} : aA (.fn g ds)=true:=_root_.id rfl
@[simp] theorem Ja {sz es} : aA (.own sz es)=false:=_root_.id rfl
@[simp] theorem I6 {sz es} : aA (.blk sz es)=false:=_root_.id rfl
@[simp] theorem Nm {kt et ks vs} : aA (.mp kt et ks vs)=false:=_root_.id rfl
@[simp] theorem I9 {b} : aA (.mrf b)=false:=_root_.id rfl
@[simp] theorem Jd {p k n} : aA (.ref p k n)=false:=_root_.id rfl
@[simp] theorem I0 {p i off} : aA (.adr p i off)=false:=_root_.id rfl
@[simp] theorem I4 {ds} : aA (.agx ds)=false:=_root_.id rfl
@[simp] theorem Jh {ds} : aA (.tpx ds)=false:=_root_.id rfl
@[simp] theorem Jc {ds} : aA (.ptx ds)=false:=_root_.id rfl
@[simp] theorem Je {n sz ds} : aA (.rfx n sz ds)=false:=_root_.id rfl
@[simp] theorem I7 {g ds} : aA (.fnx g ds)=false:=_root_.id rfl
@[simp] theorem N5 : isO (.any)=false:=_root_.id rfl
@[simp] theorem N8 {k n} : isO (.int k n)=false:=_root_.id rfl
@[simp] theorem JV {b} : isO (.bool b)=false:=_root_.id rfl
@[simp] theorem Oh {s} : isO (.str s)=false:=_root_.id rfl
@[simp] theorem JW : isO (.nilp)=false:=_root_.id rfl
@[simp] theorem JX : isO (.nils)=false:=_root_.id rfl
@[simp] theorem N3 {ds} : isO (.agg ds)=false:=_root_.id rfl
@[simp] theorem Oj {ds} : isO (.tup ds)=false:=_root_.id rfl
@[simp] theorem Ra {es} : isO (.sl es)=false:=_root_.id rfl
@[simp] theorem Ob {ds} : isO (.ptr ds)=false:=_root_.id rfl
@[simp] theorem Q8 {g ds} : isO (.fn g ds)=false:=_root_.id rfl
@[simp] theorem Oa {sz es} : isO (.own sz es)=true:=_root_.id rfl
@[simp] theorem N6 {sz es} : isO (.blk sz es)=false:=_root_.id rfl
@[simp] theorem Q9 {kt et ks vs} : isO (.mp kt et ks vs)=false:=_root_.id rfl
@[simp] theorem N9 {b} : isO (.mrf b)=false:=_root_.id rfl
@[simp] theorem Od {p k n} : isO (.ref p k n)=false:=_root_.id rfl
@[simp] theorem N2 {p i off} : isO (.adr p i off)=false:=_root_.id rfl
@[simp] theorem N4 {ds} : isO (.agx ds)=false:=_root_.id rfl
@[simp] theorem Oi {ds} : isO (.tpx ds)=false:=_root_.id rfl
@[simp] theorem Oc {ds} : isO (.ptx ds)=false:=_root_.id rfl
@[simp] theorem Oe {n sz ds} : isO (.rfx n sz ds)=false:=_root_.id rfl
@[simp] theorem N7 {g ds} : isO (.fnx g ds)=false:=_root_.id rfl
@[simp] theorem Jm : bE (.any)=true:=_root_.id rfl
@[simp] theorem Jp {k n} : bE (.int k n)=true:=_root_.id rfl
@[simp] theorem FT {b} : bE (.bool b)=true:=_root_.id rfl
@[simp] theorem Jw {s} : bE (.str s)=true:=_root_.id rfl
@[simp] theorem FU : bE (.nilp)=true:=_root_.id rfl
@[simp] theorem FV : bE (.nils)=true:=_root_.id rfl
@[simp] theorem Jk {ds} : bE (.agg ds)=false:=_root_.id rfl
@[simp] theorem Jy {ds} : bE (.tup ds)=false:=_root_.id rfl
@[simp] theorem Nr {es} : bE (.sl es)=false:=_root_.id rfl
@[simp] theorem Js {ds} : bE (.ptr ds)=false:=_root_.id rfl
@[simp] theorem Np {g ds} : bE (.fn g ds)=false:=_root_.id rfl
@[simp] theorem Jr {sz es} : bE (.own sz es)=false:=_root_.id rfl
@[simp] theorem Jn {sz es} : bE (.blk sz es)=false:=_root_.id rfl
@[simp] theorem Nq {kt et ks vs} : bE (.mp kt et ks vs)=false:=_root_.id rfl
@[simp] theorem Jq {b} : bE (.mrf b)=false:=_root_.id rfl
@[simp] theorem Ju {p k n} : bE (.ref p k n)=false:=_root_.id rfl
@[simp] theorem Jj {p i off} : bE (.adr p i off)=false:=_root_.id rfl
@[simp] theorem Jl {ds} : bE (.agx ds)=false:=_root_.id rfl
@[simp] theorem Jx {ds} : bE (.tpx ds)=false:=_root_.id rfl
@[simp] theorem Jt {ds} : bE (.ptx ds)=false:=_root_.id rfl
@[simp] theorem Jv {n sz ds} : bE (.rfx n sz ds)=false:=_root_.id rfl
@[simp] theorem Jo {g ds} : bE (.fnx g ds)=false:=_root_.id rfl
@[simp] theorem JC : fd (.any)=true:=_root_.id rfl
@[simp] theorem JF {k n} : fd (.int k n)=true:=_root_.id rfl
@[simp] theorem FW {b} : fd (.bool b)=true:=_root_.id rfl
@[simp] theorem JM {s} : fd (.str s)=true:=_root_.id rfl
@[simp] theorem FX : fd (.nilp)=true:=_root_.id rfl
@[simp] theorem FY : fd (.nils)=true:=_root_.id rfl
@[simp] theorem JA {ds} : fd (.agg ds)=ds.all bE:=_root_.id rfl
@[simp] theorem JO {ds} : fd (.tup ds)=false:=_root_.id rfl
@[simp] theorem Nu {es} : fd (.sl es)=false:=_root_.id rfl
@[simp] theorem JI {ds} : fd (.ptr ds)=false:=_root_.id rfl
@[simp] theorem Ns {g ds} : fd (.fn g ds)=false:=_root_.id rfl
@[simp] theorem JH {sz es} : fd (.own sz es)=false:=_root_.id rfl
@[simp] theorem JD {sz es} : fd (.blk sz es)=false:=_root_.id rfl
@[simp] theorem Nt {kt et ks vs} : fd (.mp kt et ks vs)=false:=_root_.id rfl
@[simp] theorem JG {b} : fd (.mrf b)=false:=_root_.id rfl
@[simp] theorem JK {p k n} : fd (.ref p k n)=false:=_root_.id rfl
@[simp] theorem Jz {p i off} : fd (.adr p i off)=false:=_root_.id rfl
@[simp] theorem JB {ds} : fd (.agx ds)=false:=_root_.id rfl
@[simp] theorem JN {ds} : fd (.tpx ds)=false:=_root_.id rfl
@[simp] theorem JJ {ds} : fd (.ptx ds)=false:=_root_.id rfl
@[simp] theorem JL {n sz ds} : fd (.rfx n sz ds)=false:=_root_.id rfl
@[simp] theorem JE {g ds} : fd (.fnx g ds)=false:=_root_.id rfl
@[simp] theorem Ny : isF (.any)=true:=_root_.id rfl
@[simp] theorem NB {k n} : isF (.int k n)=true:=_root_.id rfl
@[simp] theorem JP {b} : isF (.bool b)=true:=_root_.id rfl
@[simp] theorem NI {s} : isF (.str s)=true:=_root_.id rfl
@[simp] theorem JQ : isF (.nilp)=true:=_root_.id rfl
@[simp] theorem JR : isF (.nils)=true:=_root_.id rfl
@[simp] theorem Nw {ds} : isF (.agg ds)=ds.all bE:=_root_.id rfl
@[simp] theorem NK {ds} : isF (.tup ds)=ds.all fd:=_root_.id rfl
@[simp] theorem Q3 {es} : isF (.sl es)=false:=_root_.id rfl
@[simp] theorem NE {ds} : isF (.ptr ds)=false:=_root_.id rfl
@[simp] theorem QZ {g ds} : isF (.fn g ds)=false:=_root_.id rfl
@[simp] theorem ND {sz es} : isF (.own sz es)=false:=_root_.id rfl
@[simp] theorem Nz {sz es} : isF (.blk sz es)=false:=_root_.id rfl
@[simp] theorem Q2 {kt et ks vs} : isF (.mp kt et ks vs)=false:=_root_.id rfl
@[simp] theorem NC {b} : isF (.mrf b)=false:=_root_.id rfl
@[simp] theorem NG {p k n} : isF (.ref p k n)=false:=_root_.id rfl
@[simp] theorem Nv {p i off} : isF (.adr p i off)=false:=_root_.id rfl
@[simp] theorem Nx {ds} : isF (.agx ds)=false:=_root_.id rfl
@[simp] theorem NJ {ds} : isF (.tpx ds)=false:=_root_.id rfl
@[simp] theorem NF {ds} : isF (.ptx ds)=false:=_root_.id rfl
@[simp] theorem NH {n sz ds} : isF (.rfx n sz ds)=false:=_root_.id rfl
@[simp] theorem NA {g ds} : isF (.fnx g ds)=false:=_root_.id rfl
@[simp] theorem M6 : isB (.any)=false:=_root_.id rfl
@[simp] theorem M9 {k n} : isB (.int k n)=false:=_root_.id rfl
@[simp] theorem IX {b} : isB (.bool b)=false:=_root_.id rfl
@[simp] theorem Ni {s} : isB (.str s)=false:=_root_.id rfl
@[simp] theorem IY : isB (.nilp)=false:=_root_.id rfl
@[simp] theorem IZ : isB (.nils)=false:=_root_.id rfl
@[simp] theorem MZ {ds} : isB (.agg ds)=false:=_root_.id rfl
@[simp] theorem Nk {ds} : isB (.tup ds)=false:=_root_.id rfl
@[simp] theorem QY {es} : isB (.sl es)=false:=_root_.id rfl
@[simp] theorem Nc {ds} : isB (.ptr ds)=false:=_root_.id rfl
@[simp] theorem QW {g ds} : isB (.fn g ds)=false:=_root_.id rfl
@[simp] theorem Nb {sz es} : isB (.own sz es)=false:=_root_.id rfl
@[simp] theorem M7 {sz es} : isB (.blk sz es)=true:=_root_.id rfl
@[simp] theorem QX {kt et ks vs} : isB (.mp kt et ks vs)=true:=_root_.id rfl
@[simp] theorem Na {b} : isB (.mrf b)=false:=_root_.id rfl
@[simp] theorem Nf {p k n} : isB (.ref p k n)=false:=_root_.id rfl
@[simp] theorem MY {p i off} : isB (.adr p i off)=false:=_root_.id rfl
@[simp] theorem M5 {ds} : isB (.agx ds)=false:=_root_.id rfl
@[simp] theorem Nj {ds} : isB (.tpx ds)=false:=_root_.id rfl
@[simp] theorem Nd {ds} : isB (.ptx ds)=false:=_root_.id rfl
@[simp] theorem Ng {n sz ds} : isB (.rfx n sz ds)=false:=_root_.id rfl
@[simp] theorem M8 {g ds} : isB (.fnx g ds)=false:=_root_.id rfl
@[simp] theorem FC : cY (.any)=true:=_root_.id rfl
@[simp] theorem FF {k n} : cY (.int k n)=false:=_root_.id rfl
@[simp] theorem CS {b} : cY (.bool b)=false:=_root_.id rfl
@[simp] theorem FN {s} : cY (.str s)=false:=_root_.id rfl
@[simp] theorem CT : cY (.nilp)=false:=_root_.id rfl
@[simp] theorem CU : cY (.nils)=false:=_root_.id rfl
@[simp] theorem FA {ds} : cY (.agg ds)=false:=_root_.id rfl
@[simp] theorem FP {ds} : cY (.tup ds)=false:=_root_.id rfl
@[simp] theorem IW {es} : cY (.sl es)=false:=_root_.id rfl
@[simp] theorem FI {ds} : cY (.ptr ds)=false:=_root_.id rfl
@[simp] theorem IU {g ds} : cY (.fn g ds)=false:=_root_.id rfl
@[simp] theorem FH {sz es} : cY (.own sz es)=false:=_root_.id rfl
@[simp] theorem FD {sz es} : cY (.blk sz es)=false:=_root_.id rfl
@[simp] theorem IV {kt et ks vs} : cY (.mp kt et ks vs)=false:=_root_.id rfl
@[simp] theorem FG {b} : cY (.mrf b)=false:=_root_.id rfl
@[simp] theorem FK {p k n} : cY (.ref p k n)=false:=_root_.id rfl
@[simp] theorem Fz {p i off} : cY (.adr p i off)=false:=_root_.id rfl
@[simp] theorem FB {ds} : cY (.agx ds)=false:=_root_.id rfl
@[simp] theorem FO {ds} : cY (.tpx ds)=false:=_root_.id rfl
@[simp] theorem FJ {ds} : cY (.ptx ds)=false:=_root_.id rfl
@[simp] theorem FL {n sz ds} : cY (.rfx n sz ds)=false:=_root_.id rfl
@[simp] theorem FE {g ds} : cY (.fnx g ds)=false:=_root_.id rfl
@[simp] theorem A3 : cellsOf (.any)=[.any]:=_root_.id rfl
@[simp] theorem A6 {k n} : cellsOf (.int k n)=[.int k n]:=_root_.id rfl
@[simp] theorem yz {b} : cellsOf (.bool b)=[.bool b]:=_root_.id rfl
@[simp] theorem Be {s} : cellsOf (.str s)=[.str s]:=_root_.id rfl
@[simp] theorem yA : cellsOf (.nilp)=[.nilp]:=_root_.id rfl
@[simp] theorem yB : cellsOf (.nils)=[.nils]:=_root_.id rfl
@[simp] theorem AZ {ds} : cellsOf (.agg ds)=ds:=_root_.id rfl
@[simp] theorem Bg {ds} : cellsOf (.tup ds)=[.tup ds]:=_root_.id rfl
@[simp] theorem Cq {es} : cellsOf (.sl es)=[.sl es]:=_root_.id rfl
@[simp] theorem A9 {ds} : cellsOf (.ptr ds)=[.ptr ds]:=_root_.id rfl
@[simp] theorem Co {g ds} : cellsOf (.fn g ds)=[.fn g ds]:=_root_.id rfl
@[simp] theorem A8 {sz es} : cellsOf (.own sz es)=[.own sz es]:=_root_.id rfl
@[simp] theorem A4 {sz es} : cellsOf (.blk sz es)=[.blk sz es]:=_root_.id rfl
@[simp] theorem Cp {kt et ks vs} : cellsOf (.mp kt et ks vs)=[.mp kt et ks vs]:=_root_.id rfl
@[simp] theorem A7 {b} : cellsOf (.mrf b)=[.mrf b]:=_root_.id rfl
@[simp] theorem Bb {p k n} : cellsOf (.ref p k n)=[.ref p k n]:=_root_.id rfl
@[simp] theorem AY {p i off} : cellsOf (.adr p i off)=[.adr p i off]:=_root_.id rfl
@[simp] theorem A0 {ds} : cellsOf (.agx ds)=[.agx ds]:=_root_.id rfl
@[simp] theorem Bf {ds} : cellsOf (.tpx ds)=[.tpx ds]:=_root_.id rfl
@[simp] theorem Ba {ds} : cellsOf (.ptx ds)=[.ptx ds]:=_root_.id rfl
@[simp] theorem Bc {n sz ds} : cellsOf (.rfx n sz ds)=[.rfx n sz ds]:=_root_.id rfl
@[simp] theorem A5 {g ds} : cellsOf (.fnx g ds)=[.fnx g ds]:=_root_.id rfl
@[simp] theorem Ej : cm (.any)=.any:=_root_.id rfl
@[simp] theorem Em {k n} : cm (.int k n)=.int k n:=_root_.id rfl
@[simp] theorem Cd {b} : cm (.bool b)=.bool b:=_root_.id rfl
@[simp] theorem Ev {s} : cm (.str s)=.str s:=_root_.id rfl
@[simp] theorem Ce : cm (.nilp)=.nilp:=_root_.id rfl
@[simp] theorem Cf : cm (.nils)=.nils:=_root_.id rfl
@[simp] theorem Eh {ds} : cm (.agg ds)=.agg ds:=_root_.id rfl
@[simp] theorem Ex {ds} : cm (.tup ds)=.tup ds:=_root_.id rfl
@[simp] theorem Hd {es} : cm (.sl es)=.sl es:=_root_.id rfl
@[simp] theorem Ep {ds} : cm (.ptr ds)=.ptr ds:=_root_.id rfl
@[simp] theorem Hb {g ds} : cm (.fn g ds)=.fn g ds:=_root_.id rfl
@[simp] theorem Eo {sz es} : cm (.own sz es)=.own sz es:=_root_.id rfl
@[simp] theorem Ek {sz es} : cm (.blk sz es)=.blk sz es:=_root_.id rfl
@[simp] theorem Hc {kt et ks vs} : cm (.mp kt et ks vs)=.mp kt et ks vs:=_root_.id rfl
@[simp] theorem En {b} : cm (.mrf b)=.mrf b:=_root_.id rfl
@[simp] theorem Es {p k n} : cm (.ref p k n)=.ref p k n:=_root_.id rfl
@[simp] theorem Eg {p i off} : cm (.adr p i off)=.adr p i off:=_root_.id rfl
@[simp] theorem Ei {ds} : cm (.agx ds)=.agg ds:=_root_.id rfl
@[simp] theorem Ew {ds} : cm (.tpx ds)=.tpx ds:=_root_.id rfl
@[simp] theorem Er {ds} : cm (.ptx ds)=.ptx ds:=_root_.id rfl
@[simp] theorem Et {n sz ds} : cm (.rfx n sz ds)=.rfx n sz ds:=_root_.id rfl
@[simp] theorem El {g ds} : cm (.fnx g ds)=.fnx g ds:=_root_.id rfl
@[simp] theorem EM : aV (.any)=.any:=_root_.id rfl
@[simp] theorem EP {k n} : aV (.int k n)=.int k n:=_root_.id rfl
@[simp] theorem Cl {b} : aV (.bool b)=.bool b:=_root_.id rfl
@[simp] theorem EX {s} : aV (.str s)=.str s:=_root_.id rfl
@[simp] theorem Cm : aV (.nilp)=.nilp:=_root_.id rfl
@[simp] theorem Cn : aV (.nils)=.nils:=_root_.id rfl
@[simp] theorem EK {ds} : aV (.agg ds)=.agg ds:=_root_.id rfl
@[simp] theorem EZ {ds} : aV (.tup ds)=.tup ds:=_root_.id rfl
@[simp] theorem HC {es} : aV (.sl es)=.sl es:=_root_.id rfl
@[simp] theorem ES {ds} : aV (.ptr ds)=.ptr ds:=_root_.id rfl
@[simp] theorem HA {g ds} : aV (.fn g ds)=.fn g ds:=_root_.id rfl
@[simp] theorem ER {sz es} : aV (.own sz es)=.sl es:=_root_.id rfl
@[simp] theorem EN {sz es} : aV (.blk sz es)=.blk sz es:=_root_.id rfl
@[simp] theorem HB {kt et ks vs} : aV (.mp kt et ks vs)=.mp kt et ks vs:=_root_.id rfl
@[simp] theorem EQ {b} : aV (.mrf b)=.mrf b:=_root_.id rfl
@[simp] theorem EU {p k n} : aV (.ref p k n)=.ref p k n:=_root_.id rfl
@[simp] theorem EJ {p i off} : aV (.adr p i off)=.adr p i off:=_root_.id rfl
@[simp] theorem EL {ds} : aV (.agx ds)=.agx ds:=_root_.id rfl
@[simp] theorem EY {ds} : aV (.tpx ds)=.tpx ds:=_root_.id rfl
@[simp] theorem ET {ds} : aV (.ptx ds)=.ptx ds:=_root_.id rfl
@[simp] theorem EV {n sz ds} : aV (.rfx n sz ds)=.rfx n sz ds:=_root_.id rfl
@[simp] theorem EO {g ds} : aV (.fnx g ds)=.fnx g ds:=_root_.id rfl
@[simp] theorem Bz : aI (.any)=[]:=_root_.id rfl
@[simp] theorem BC {k n} : aI (.int k n)=[]:=_root_.id rfl
@[simp] theorem zJ {b} : aI (.bool b)=[]:=_root_.id rfl
@[simp] theorem BL {s} : aI (.str s)=[]:=_root_.id rfl
@[simp] theorem zK : aI (.nilp)=[]:=_root_.id rfl
@[simp] theorem zM : aI (.nils)=[]:=_root_.id rfl
@[simp] theorem Bx {ds} : aI (.agg ds)=[]:=_root_.id rfl
@[simp] theorem BN {ds} : aI (.tup ds)=[]:=_root_.id rfl
@[simp] theorem De {es} : aI (.sl es)=[]:=_root_.id rfl
@[simp] theorem BF {ds} : aI (.ptr ds)=[]:=_root_.id rfl
@[simp] theorem Dc {g ds} : aI (.fn g ds)=[]:=_root_.id rfl
@[simp] theorem BE {sz es} : aI (.own sz es)=[]:=_root_.id rfl
@[simp] theorem BA {sz es} : aI (.blk sz es)=[]:=_root_.id rfl
@[simp] theorem Dd {kt et ks vs} : aI (.mp kt et ks vs)=[]:=_root_.id rfl
@[simp] theorem BD {b} : aI (.mrf b)=[b]:=_root_.id rfl
@[simp] theorem BH {p k n} : aI (.ref p k n)=[p.root]:=_root_.id rfl
@[simp] theorem Bw {p i off} : aI (.adr p i off)=[p.root]:=_root_.id rfl
@[simp] theorem By {ds} : aI (.agx ds)=[]:=_root_.id rfl
@[simp] theorem BM {ds} : aI (.tpx ds)=[]:=_root_.id rfl
@[simp] theorem BG {ds} : aI (.ptx ds)=[]:=_root_.id rfl
@[simp] theorem BI {n sz ds} : aI (.rfx n sz ds)=[]:=_root_.id rfl
@[simp] theorem BB {g ds} : aI (.fnx g ds)=[]:=_root_.id rfl
@[simp] theorem Di : bI (.any)=[]:=_root_.id rfl
@[simp] theorem Dl {k n} : bI (.int k n)=[]:=_root_.id rfl
@[simp] theorem BO {b} : bI (.bool b)=[]:=_root_.id rfl
@[simp] theorem Dt {s} : bI (.str s)=[]:=_root_.id rfl
@[simp] theorem BP : bI (.nilp)=[]:=_root_.id rfl
@[simp] theorem BQ : bI (.nils)=[]:=_root_.id rfl
@[simp] theorem Dg {ds} : bI (.agg ds)=[]:=_root_.id rfl
@[simp] theorem Dw {ds} : bI (.tup ds)=[]:=_root_.id rfl
@[simp] theorem Gx {es} : bI (.sl es)=[]:=_root_.id rfl
@[simp] theorem Do {ds} : bI (.ptr ds)=[]:=_root_.id rfl
@[simp] theorem Gu {g ds} : bI (.fn g ds)=[]:=_root_.id rfl
@[simp] theorem Dn {sz es} : bI (.own sz es)=[]:=_root_.id rfl
@[simp] theorem Dj {sz es} : bI (.blk sz es)=[]:=_root_.id rfl
@[simp] theorem Gw {kt et ks vs} : bI (.mp kt et ks vs)=[]:=_root_.id rfl
@[simp] theorem Dm {b} : bI (.mrf b)=[b]:=_root_.id rfl
@[simp] theorem Dq {p k n} : bI (.ref p k n)=[p.root]:=_root_.id rfl
@[simp] theorem Df {p i off} : bI (.adr p i off)=[p.root]:=_root_.id rfl
@[simp] theorem Dh {ds} : bI (.agx ds)=ds.flatMap aI:=_root_.id rfl
@[simp] theorem Du {ds} : bI (.tpx ds)=ds.flatMap aI:=_root_.id rfl
@[simp] theorem Dp {ds} : bI (.ptx ds)=ds.flatMap aI:=_root_.id rfl
@[simp] theorem Dr {n sz ds} : bI (.rfx n sz ds)=ds.flatMap aI:=_root_.id rfl
@[simp] theorem Dk {g ds} : bI (.fnx g ds)=ds.flatMap aI:=_root_.id rfl
@[simp] theorem Ms {f : Nat -> D} : dp1 f (.any)=(.any):=_root_.id rfl
@[simp] theorem Mv {f : Nat -> D} {k n} : dp1 f (.int k n)=(.int k n):=_root_.id rfl
@[simp] theorem HO {f : Nat -> D} {b} : dp1 f (.bool b)=(.bool b):=_root_.id rfl
@[simp] theorem MD {f : Nat -> D} {s} : dp1 f (.str s)=(.str s):=_root_.id rfl
@[simp] theorem HP {f : Nat -> D} : dp1 f (.nilp)=(.nilp):=_root_.id rfl
@[simp] theorem HQ {f : Nat -> D} : dp1 f (.nils)=(.nils):=_root_.id rfl
@[simp] theorem Mq {f : Nat -> D} {ds} : dp1 f (.agg ds)=(.agg ds):=_root_.id rfl
@[simp] theorem MF {f : Nat -> D} {ds} : dp1 f (.tup ds)=(.tup ds):=_root_.id rfl
@[simp] theorem Qv {f : Nat -> D} {es} : dp1 f (.sl es)=(.sl es):=_root_.id rfl
@[simp] theorem My {f : Nat -> D} {ds} : dp1 f (.ptr ds)=(.ptr ds):=_root_.id rfl
@[simp] theorem Qt {f : Nat -> D} {g ds} : dp1 f (.fn g ds)=(.fn g ds):=_root_.id rfl
@[simp] theorem Mx {f : Nat -> D} {sz es} : dp1 f (.own sz es)=(.own sz es):=_root_.id rfl
@[simp] theorem Mt {f : Nat -> D} {sz es} : dp1 f (.blk sz es)=(.blk sz es):=_root_.id rfl
@[simp] theorem Qu {f : Nat -> D} {kt et ks vs} : dp1 f (.mp kt et ks vs)=(.mp kt et ks vs):=_root_.id rfl
@[simp] theorem Mw {f : Nat -> D} {b} : dp1 f (.mrf b)=(.mrf b):=_root_.id rfl
@[simp] theorem MA {f : Nat -> D} {p k n} : dp1 f (.ref p k n)=(match aX f p with | some (_,es)=>.sl (((es.drop k).take n).map fun e=>e.map aV) | none=>.any):=_root_.id rfl
@[simp] theorem Mp {f : Nat -> D} {p i off} : dp1 f (.adr p i off)=(match aX f p with | some (_,es)=>.ptr (((es[i]?.getD []).drop off).map aV) | none=>.any):=_root_.id rfl
@[simp] theorem Mr {f : Nat -> D} {ds} : dp1 f (.agx ds)=(.agx ds):=_root_.id rfl
@[simp] theorem ME {f : Nat -> D} {ds} : dp1 f (.tpx ds)=(.tpx ds):=_root_.id rfl
@[simp] theorem Mz {f : Nat -> D} {ds} : dp1 f (.ptx ds)=(.ptx ds):=_root_.id rfl
@[simp] theorem MB {f : Nat -> D} {n sz ds} : dp1 f (.rfx n sz ds)=(.rfx n sz ds):=_root_.id rfl
@[simp] theorem Mu {f : Nat -> D} {g ds} : dp1 f (.fnx g ds)=(.fnx g ds):=_root_.id rfl
@[simp] theorem Qz {f : Nat -> D} : dp f (.any)=(.any):=_root_.id rfl
@[simp] theorem QC {f : Nat -> D} {k n} : dp f (.int k n)=(.int k n):=_root_.id rfl
@[simp] theorem MJ {f : Nat -> D} {b} : dp f (.bool b)=(.bool b):=_root_.id rfl
@[simp] theorem QK {f : Nat -> D} {s} : dp f (.str s)=(.str s):=_root_.id rfl
@[simp] theorem MK {f : Nat -> D} : dp f (.nilp)=(.nilp):=_root_.id rfl
@[simp] theorem ML {f : Nat -> D} : dp f (.nils)=(.nils):=_root_.id rfl
@[simp] theorem Qx {f : Nat -> D} {ds} : dp f (.agg ds)=(.agg ds):=_root_.id rfl
@[simp] theorem QN {f : Nat -> D} {ds} : dp f (.tup ds)=(.tup ds):=_root_.id rfl
@[simp] theorem RU {f : Nat -> D} {es} : dp f (.sl es)=(.sl es):=_root_.id rfl
@[simp] theorem QF {f : Nat -> D} {ds} : dp f (.ptr ds)=(.ptr ds):=_root_.id rfl
@[simp] theorem RS {f : Nat -> D} {g ds} : dp f (.fn g ds)=(.fn g ds):=_root_.id rfl
@[simp] theorem QE {f : Nat -> D} {sz es} : dp f (.own sz es)=(.own sz es):=_root_.id rfl
@[simp] theorem QA {f : Nat -> D} {sz es} : dp f (.blk sz es)=(.blk sz es):=_root_.id rfl
@[simp] theorem RT {f : Nat -> D} {kt et ks vs} : dp f (.mp kt et ks vs)=(.mp kt et ks vs):=_root_.id rfl
@[simp] theorem QD {f : Nat -> D} {b} : dp f (.mrf b)=(.mrf b):=_root_.id rfl
@[simp] theorem QH {f : Nat -> D} {p k n} : dp f (.ref p k n)=(match aX f p with | some (_,es)=>.sl (((es.drop k).take n).map fun e=>e.map aV) | none=>.any):=_root_.id rfl
@[simp] theorem Qw {f : Nat -> D} {p i off} : dp f (.adr p i off)=(match aX f p with | some (_,es)=>.ptr (((es[i]?.getD []).drop off).map aV) | none=>.any):=_root_.id rfl
@[simp] theorem Qy {f : Nat -> D} {ds} : dp f (.agx ds)=(.agg (ds.map (dp1 f))):=_root_.id rfl
@[simp] theorem QL {f : Nat -> D} {ds} : dp f (.tpx ds)=(.tup (ds.map (dp1 f))):=_root_.id rfl
@[simp] theorem QG {f : Nat -> D} {ds} : dp f (.ptx ds)=(.ptr (ds.map (dp1 f))):=_root_.id rfl
@[simp] theorem QI {f : Nat -> D} {n sz ds} : dp f (.rfx n sz ds)=.rfx n sz ds:=_root_.id rfl
@[simp] theorem QB {f : Nat -> D} {g ds} : dp f (.fnx g ds)=(.fn g (ds.map (dp1 f))):=_root_.id rfl
@[simp] theorem E7 {f : Nat -> D} : aR f (.any)=(True):=_root_.id rfl
@[simp] theorem Fa {f : Nat -> D} {k n} : aR f (.int k n)=(True):=_root_.id rfl
@[simp] theorem CA {f : Nat -> D} {b} : aR f (.bool b)=(True):=_root_.id rfl
@[simp] theorem Fi {f : Nat -> D} {s} : aR f (.str s)=(True):=_root_.id rfl
@[simp] theorem CB {f : Nat -> D} : aR f (.nilp)=(True):=_root_.id rfl
@[simp] theorem CD {f : Nat -> D} : aR f (.nils)=(True):=_root_.id rfl
@[simp] theorem E5 {f : Nat -> D} {ds} : aR f (.agg ds)=(True):=_root_.id rfl
@[simp] theorem Fk {f : Nat -> D} {ds} : aR f (.tup ds)=(True):=_root_.id rfl
@[simp] theorem HT {f : Nat -> D} {es} : aR f (.sl es)=(True):=_root_.id rfl
@[simp] theorem Fd {f : Nat -> D} {ds} : aR f (.ptr ds)=(True):=_root_.id rfl
@[simp] theorem HR {f : Nat -> D} {g ds} : aR f (.fn g ds)=(True):=_root_.id rfl
@[simp] theorem Fc {f : Nat -> D} {sz es} : aR f (.own sz es)=(True):=_root_.id rfl
@[simp] theorem E8 {f : Nat -> D} {sz es} : aR f (.blk sz es)=(True):=_root_.id rfl
@[simp] theorem HS {f : Nat -> D} {kt et ks vs} : aR f (.mp kt et ks vs)=(True):=_root_.id rfl
@[simp] theorem Fb {f : Nat -> D} {b} : aR f (.mrf b)=(False):=_root_.id rfl
@[simp] theorem Ff {f : Nat -> D} {p k n} : aR f (.ref p k n)=(match aX f p with | some (_,es)=>k + n <= es.length | none=>False):=_root_.id rfl
@[simp] theorem E4 {f : Nat -> D} {p i off} : aR f (.adr p i off)=(match aX f p with | some _=>True | none=>False):=_root_.id rfl
@[simp] theorem E6 {f : Nat -> D} {ds} : aR f (.agx ds)=(True):=_root_.id rfl
@[simp] theorem Fj {f : Nat -> D} {ds} : aR f (.tpx ds)=(True):=_root_.id rfl
@[simp] theorem Fe {f : Nat -> D} {ds} : aR f (.ptx ds)=(True):=_root_.id rfl
@[simp] theorem Fg {f : Nat -> D} {n sz ds} : aR f (.rfx n sz ds)=(True):=_root_.id rfl
@[simp] theorem E9 {f : Nat -> D} {g ds} : aR f (.fnx g ds)=(True):=_root_.id rfl
@[simp] theorem HX {f : Nat -> D} : bG f (.any)=(True):=_root_.id rfl
@[simp] theorem H0 {f : Nat -> D} {k n} : bG f (.int k n)=(True):=_root_.id rfl
@[simp] theorem Fl {f : Nat -> D} {b} : bG f (.bool b)=(True):=_root_.id rfl
@[simp] theorem Ih {f : Nat -> D} {s} : bG f (.str s)=(True):=_root_.id rfl
@[simp] theorem Fm {f : Nat -> D} : bG f (.nilp)=(True):=_root_.id rfl
@[simp] theorem Fn {f : Nat -> D} : bG f (.nils)=(True):=_root_.id rfl
@[simp] theorem HV {f : Nat -> D} {ds} : bG f (.agg ds)=(True):=_root_.id rfl
@[simp] theorem Ij {f : Nat -> D} {ds} : bG f (.tup ds)=(True):=_root_.id rfl
@[simp] theorem MI {f : Nat -> D} {es} : bG f (.sl es)=(True):=_root_.id rfl
@[simp] theorem Ic {f : Nat -> D} {ds} : bG f (.ptr ds)=(True):=_root_.id rfl
@[simp] theorem MG {f : Nat -> D} {g ds} : bG f (.fn g ds)=(True):=_root_.id rfl
@[simp] theorem Ib {f : Nat -> D} {sz es} : bG f (.own sz es)=(True):=_root_.id rfl
@[simp] theorem HY {f : Nat -> D} {sz es} : bG f (.blk sz es)=(True):=_root_.id rfl
@[simp] theorem MH {f : Nat -> D} {kt et ks vs} : bG f (.mp kt et ks vs)=(True):=_root_.id rfl
@[simp] theorem Ia {f : Nat -> D} {b} : bG f (.mrf b)=(False):=_root_.id rfl
@[simp] theorem Ie {f : Nat -> D} {p k n} : bG f (.ref p k n)=(match aX f p with | some (_,es)=>k + n <= es.length | none=>False):=_root_.id rfl
@[simp] theorem HU {f : Nat -> D} {p i off} : bG f (.adr p i off)=(match aX f p with | some _=>True | none=>False):=_root_.id rfl
@[simp] theorem HW {f : Nat -> D} {ds} : bG f (.agx ds)=(∀ d ∈ ds,aR f d):=_root_.id rfl
@[simp] theorem Ii {f : Nat -> D} {ds} : bG f (.tpx ds)=(∀ d ∈ ds,aR f d):=_root_.id rfl
@[simp] theorem Id {f : Nat -> D} {ds} : bG f (.ptx ds)=(∀ d ∈ ds,aR f d):=_root_.id rfl
@[simp] theorem If {f : Nat -> D} {n sz ds} : bG f (.rfx n sz ds)=False:=_root_.id rfl
@[simp] theorem HZ {f : Nat -> D} {g ds} : bG f (.fnx g ds)=(∀ d ∈ ds,aR f d):=_root_.id rfl
@[simp] theorem Pi {p i0 o} : ldc p i0 o (.any)=.any:=_root_.id rfl
@[simp] theorem KN {m} : fB m (.any)=.any:=_root_.id rfl
@[simp] theorem Pl {p i0 o k n} : ldc p i0 o (.int k n)=.int k n:=_root_.id rfl
@[simp] theorem KQ {m k n} : fB m (.int k n)=.int k n:=_root_.id rfl
@[simp] theorem Km {p i0 o b} : ldc p i0 o (.bool b)=.bool b:=_root_.id rfl
@[simp] theorem Gy {m b} : fB m (.bool b)=.bool b:=_root_.id rfl
@[simp] theorem Pt {p i0 o s} : ldc p i0 o (.str s)=.str s:=_root_.id rfl
@[simp] theorem KY {m s} : fB m (.str s)=.str s:=_root_.id rfl
@[simp] theorem Kn {p i0 o} : ldc p i0 o (.nilp)=.nilp:=_root_.id rfl
@[simp] theorem Gz {m} : fB m (.nilp)=.nilp:=_root_.id rfl
@[simp] theorem Ko {p i0 o} : ldc p i0 o (.nils)=.nils:=_root_.id rfl
@[simp] theorem Pg {p i0 o ds} : ldc p i0 o (.agg ds)=.agg ds:=_root_.id rfl
@[simp] theorem KL {m ds} : fB m (.agg ds)=.agg ds:=_root_.id rfl
@[simp] theorem Pv {p i0 o ds} : ldc p i0 o (.tup ds)=.tup ds:=_root_.id rfl
@[simp] theorem K0 {m ds} : fB m (.tup ds)=.tup ds:=_root_.id rfl
@[simp] theorem Rt {p i0 o es} : ldc p i0 o (.sl es)=.sl es:=_root_.id rfl
@[simp] theorem PE {m es} : fB m (.sl es)=.sl es:=_root_.id rfl
@[simp] theorem Po {p i0 o ds} : ldc p i0 o (.ptr ds)=.ptr ds:=_root_.id rfl
@[simp] theorem KU {m ds} : fB m (.ptr ds)=.ptr ds:=_root_.id rfl
@[simp] theorem Rq {p i0 o g ds} : ldc p i0 o (.fn g ds)=.fn g ds:=_root_.id rfl
@[simp] theorem PC {m g ds} : fB m (.fn g ds)=.fn g ds:=_root_.id rfl
@[simp] theorem Pn {c i o sz es} : ldc (.r c) i o (.own sz es)=.ref (.n c i o) 0 es.length:=_root_.id rfl
@[simp] theorem KS {m sz es} : fB m (.own sz es)=.own sz es:=_root_.id rfl
@[simp] theorem Pj {p i0 o sz es} : ldc p i0 o (.blk sz es)=.blk sz es:=_root_.id rfl
@[simp] theorem KO {m sz es} : fB m (.blk sz es)=.blk sz es:=_root_.id rfl
@[simp] theorem Rr {p i0 o kt et ks vs} : ldc p i0 o (.mp kt et ks vs)=.mp kt et ks vs:=_root_.id rfl
@[simp] theorem PD {m kt et ks vs} : fB m (.mp kt et ks vs)=.mp kt et ks vs:=_root_.id rfl
@[simp] theorem Pm {p i0 o b} : ldc p i0 o (.mrf b)=.mrf b:=_root_.id rfl
@[simp] theorem KR {m b} : fB m (.mrf b)=.mrf b:=_root_.id rfl
@[simp] theorem Pq {p i0 o q k n} : ldc p i0 o (.ref q k n)=.ref q k n:=_root_.id rfl
@[simp] theorem KW {m q k n} : fB m (.ref q k n)=.ref q k n:=_root_.id rfl
@[simp] theorem Pf {p i0 o q i off} : ldc p i0 o (.adr q i off)=.adr q i off:=_root_.id rfl
@[simp] theorem KJ {m q i off} : fB m (.adr q i off)=.adr q i off:=_root_.id rfl
@[simp] theorem Ph {p i0 o ds} : ldc p i0 o (.agx ds)=.agx ds:=_root_.id rfl
@[simp] theorem KM {m ds} : fB m (.agx ds)=.agx ds:=_root_.id rfl
@[simp] theorem Pu {p i0 o ds} : ldc p i0 o (.tpx ds)=.tpx ds:=_root_.id rfl
@[simp] theorem KZ {m ds} : fB m (.tpx ds)=.tpx ds:=_root_.id rfl
@[simp] theorem Pp {p i0 o ds} : ldc p i0 o (.ptx ds)=.ptx ds:=_root_.id rfl
@[simp] theorem Pr {p i0 o n sz ds} : ldc p i0 o (.rfx n sz ds)=.rfx n sz ds:=_root_.id rfl
@[simp] theorem KV {m ds} : fB m (.ptx ds)=.ptx ds:=_root_.id rfl
@[simp] theorem KX {m n sz ds} : fB m (.rfx n sz ds)=.rfx n sz ds:=_root_.id rfl
@[simp] theorem Pk {p i0 o g ds} : ldc p i0 o (.fnx g ds)=.fnx g ds:=_root_.id rfl
@[simp] theorem KP {m g ds} : fB m (.fnx g ds)=.fnx g ds:=_root_.id rfl
@[simp] theorem GA {m} : fB m .nils=if m=0 then .nils else .own m []:=_root_.id rfl
def slx (b : Bool) (es : List (List D)) : D:=match b,es with
 | true,[]=>.nils
 | _,es=>.sl es
@[simp] theorem cc {es} : slx false es=.sl es:=by cases es <;> rfl
@[simp] theorem LR {b x es} : slx b (x::es)=.sl (x::es):=by cases b <;> rfl
theorem ig (b : Bool) (es : List (List D)) : slx b es=.sl es \/ (slx b es=.nils /\ es=[]):=by cases b <;> cases es <;> simp [slx]
@[simp] theorem Pb {b es} : isV (slx b es)=true:=by cases b <;> cases es <;> rfl
@[simp] theorem NY {b es} : isK (slx b es)=true:=by cases b <;> cases es <;> rfl
@[simp] theorem OB {b es} : isP (slx b es)=true:=by cases b <;> cases es <;> rfl
@[simp] theorem OS {b es} : isS (slx b es)=true:=by cases b <;> cases es <;> rfl
@[simp] theorem Jf {b es} : aA (slx b es)=true:=by cases b <;> cases es <;> rfl
@[simp] theorem Og {b es} : isO (slx b es)=false:=by cases b <;> cases es <;> rfl
@[simp] theorem FM {b es} : cY (slx b es)=false:=by cases b <;> cases es <;> rfl
@[simp] theorem Nh {b es} : isB (slx b es)=false:=by cases b <;> cases es <;> rfl
@[simp] theorem Bd {b es} : cellsOf (slx b es)=[slx b es]:=by cases b <;> cases es <;> rfl
@[simp] theorem Eu {b es} : cm (slx b es)=slx b es:=by cases b <;> cases es <;> rfl
@[simp] theorem EW {b es} : aV (slx b es)=slx b es:=by cases b <;> cases es <;> rfl
@[simp] theorem BJ {b es} : aI (slx b es)=[]:=by cases b <;> cases es <;> rfl
@[simp] theorem Ds {b es} : bI (slx b es)=[]:=by cases b <;> cases es <;> rfl
@[simp] theorem MC {f : Nat -> D} {b es} : dp1 f (slx b es)=slx b es:=by cases b <;> cases es <;> rfl
@[simp] theorem QJ {f : Nat -> D} {b es} : dp f (slx b es)=slx b es:=by cases b <;> cases es <;> rfl
@[simp] theorem Fh {f : Nat -> D} {b es} : aR f (slx b es)=True:=by cases b <;> cases es <;> rfl
@[simp] theorem Ig {f : Nat -> D} {b es} : bG f (slx b es)=True:=by cases b <;> cases es <;> rfl
@[simp] theorem Ps {p i o b es} : ldc p i o (slx b es)=slx b es:=by cases b <;> cases es <;> rfl
def sf (d : D) (K : Nat -> Prop) (_ : Tag K) : Prop:=match d with
 | .sl es=>K es.length
 | .nils=>K 0
 | .ref _ _ n=>K n
 | .rfx n _ _=>K n
 | _=>False
@[simp] theorem Kz {n sz ds K u} : sf (.rfx n sz ds) K u=K n:=_root_.id rfl
@[simp] theorem Pw {es K u} : sf (.sl es) K u=K es.length:=_root_.id rfl
@[simp] theorem Gj {K u} : sf .nils K u=K 0:=_root_.id rfl
@[simp] theorem Ky {p k n K u} : sf (.ref p k n) K u=K n:=_root_.id rfl
@[simp] theorem KA {b es K u} : sf (slx b es) K u=K es.length:=by cases b <;> cases es <;> rfl
@[simp] theorem GP {n ds} : mA true n ds=.agg (ds.take n):=_root_.id rfl
@[simp] theorem DF {n ds} : mA false n ds=ds.headD .any:=_root_.id rfl
@[simp] theorem KE {t} : ae [] t=.any:=rfl
def lk (b : Bool) (d : D) (r : Env) (t : Nat) : D:=match b with
 | true=>d
 | false=>ae r t
@[simp] theorem Px {d r t} : lk true d r t=d:=rfl
@[simp] theorem KB {d r t} : lk false d r t=ae r t:=rfl
@[simp] theorem Gk {s d r t} : ae ((s,d)::r) t=lk (s == t) d r t:=by
 by_cases h : s=t
 ·subst h;simp [ae]
 ·rw [show (s == t)=false by simp [h]];simp [ae,h]
@[simp] theorem FZ {e} : qt [] e=[]:=_root_.id rfl
@[simp] theorem CV {t ts e} : qt (t::ts) e=(t,ae e t)::qt ts e:=_root_.id rfl
@[simp] theorem BW : mG []=[]:=_root_.id rfl
@[simp] theorem Ad {t d r} : mG ((t,d)::r)=bI d++mG r:=_root_.id rfl
@[simp] theorem Ha {e ks} : tJ e [] ks=ks:=_root_.id rfl
@[simp] theorem Ef {e r rs ks} : tJ e (r::rs) ks=tJ e rs (if (ks.map (·.1)).contains r then ks else ks++[(r,ae e r)]):=_root_.id rfl
def gR (f : Nat -> D) (d : D) (ns : List Nat) (K : List D -> List Nat -> Prop) (_ : Tag K) : Prop:=fW f d ns K
def gq (f : Nat -> D) (d : D) (K : D -> List Nat -> Prop) (_ : Tag K) : Prop:=eF f d K
def pN (f : Nat -> D) (ds : List D) (K : List D -> List Nat -> Prop) (_ : Tag K) : Prop:=l9 f ds K
def vr (b n : Nat) (x : D) (K : D -> List Nat -> Prop) (_ : Tag K) : Prop:=match x with
 | .blk sz es=>es.length=n /\ (∀ e ∈ es,∀ c ∈ e,aA c=true) /\ K (.own sz es) [b]
 | _=>False
@[simp] theorem G0 {b n sz es K u} : vr b n (.blk sz es) K u=(es.length=n /\ (∀ e ∈ es,∀ c ∈ e,aA c=true) /\ K (.own sz es) [b]):=_root_.id rfl
theorem eS {f : Nat -> D} {d : D} {K : D -> List Nat -> Prop} {u} (h : aA d=true) : gq f d K u=K d []:=by
 cases d <;> simp [aA] at h <;> simp [gq,eF,aA]
@[simp] theorem D8 {f b k n K u} : gq f (.ref (.r b) k n) K u=(k=0 /\ vr b n (f b) K ⟨⟩):=by
 simp only [gq,eF,vr]
 cases f b <;> rfl
theorem fK {f : Nat -> D} {d : D} {K : List D -> List Nat -> Prop} {u} (h : aA d=true) : gR f d [] K u=K [d] []:=by
 cases d <;> simp [aA] at h <;> simp [gR,fW,eF,aA,fC]
@[simp] theorem G3 {f ds K u} : gR f (.agg ds) [] K u=((∀ c ∈ ds,aA c=true) /\ K ds []):=by simp [gR,fW,fC]
@[simp] theorem G4 {f ds K u} : gR f (.agx ds) [] K u=pN f ds (fun cs bs=>bO bs=true /\ K cs bs) ⟨⟩:=by simp [gR,pN,fW,fC]
@[simp] theorem G7 {f b k n K u} : gR f (.ref (.r b) k n) [] K u=(k=0 /\ vr b n (f b) (fun c bs=>K [c] bs) ⟨⟩):=by
 simp only [gR,fW,eF,vr,fC,if_true,true_or,true_and]
 cases f b <;> rfl
@[simp] theorem Eb {f K u} : pN f [] K u=K [] []:=_root_.id rfl
@[simp] theorem Cc {f d ds K u} : pN f (d::ds) K u=gq f d (fun c bs=>pN f ds (fun cs bs'=>K (c::cs) (bs++bs')) ⟨⟩) ⟨⟩:=_root_.id rfl
@[simp] theorem D6 {f k n K u} : gq f (.int k n) K u=K (.int k n) []:=eS rfl
@[simp] theorem G5 {f k n K u} : gR f (.int k n) [] K u=K [.int k n] []:=fK rfl
@[simp] theorem B9 {f n K u} : gq f (.bool n) K u=K (.bool n) []:=eS rfl
@[simp] theorem Ec {f n K u} : gR f (.bool n) [] K u=K [.bool n] []:=fK rfl
@[simp] theorem Ea {f n K u} : gq f (.str n) K u=K (.str n) []:=eS rfl
@[simp] theorem G9 {f n K u} : gR f (.str n) [] K u=K [.str n] []:=fK rfl
@[simp] theorem Ca {f  K u} : gq f .nilp K u=K .nilp []:=eS rfl
@[simp] theorem Ed {f  K u} : gR f .nilp [] K u=K [.nilp] []:=fK rfl
@[simp] theorem Cb {f  K u} : gq f .nils K u=K .nils []:=eS rfl
@[simp] theorem Ee {f  K u} : gR f .nils [] K u=K [.nils] []:=fK rfl
@[simp] theorem G2 {f n K u} : gq f (.sl n) K u=K (.sl n) []:=eS rfl
@[simp] theorem Mb {f n K u} : gR f (.sl n) [] K u=K [.sl n] []:=fK rfl
@[simp] theorem D7 {f n K u} : gq f (.ptr n) K u=K (.ptr n) []:=eS rfl
@[simp] theorem G6 {f n K u} : gR f (.ptr n) [] K u=K [.ptr n] []:=fK rfl
@[simp] theorem G1 {f g n K u} : gq f (.fn g n) K u=K (.fn g n) []:=eS rfl
@[simp] theorem Ma {f g n K u} : gR f (.fn g n) [] K u=K [.fn g n] []:=fK rfl
@[simp] theorem D9 {f b n K u} : gq f (slx b n) K u=K (slx b n) []:=eS (by simp)
@[simp] theorem G8 {f b n K u} : gR f (slx b n) [] K u=K [slx b n] []:=fK (by simp)
def pu (f : Nat -> D) (sz : Nat) (ps : List (Nat × Opd)) (es : List (List D)) (bs : List Nat) (K : List (List D) -> List Nat -> Prop) (_ : Tag K) : Prop:=fF f sz [] ps es bs K
@[simp] theorem DG {f sz es bs K u} : pu f sz [] es bs K u=K es bs:=_root_.id rfl
@[simp] theorem BT {f sz i x ps es bs K u} : pu f sz ((i,x)::ps) es bs K u=(i < es.length /\ gR f (vd f x) [] (fun cs bs'=>cs.length=sz /\ pu f sz ps (es.set i cs) (bs++bs') K ⟨⟩) ⟨⟩):=_root_.id rfl
def jd (f : Nat -> D) (mv : Bool) (d : D) (sz : Nat) (K : List (List D) -> List Nat -> Prop) (_ : Tag K) : Prop:=fJ f mv d sz K
def DL (b n sz : Nat) (x : D) (K : List (List D) -> List Nat -> Prop) (_ : Tag K) : Prop:=match x with
 | .blk sz' es=>sz'=sz /\ es.length=n /\ (∀ e ∈ es,∀ c ∈ e,isC c=true) /\ K es [b]
 | _=>False
@[simp] theorem LA {b n sz sz' es K u} : DL b n sz (.blk sz' es) K u=(sz'=sz /\ es.length=n /\ (∀ e ∈ es,∀ c ∈ e,isC c=true) /\ K es [b]):=_root_.id rfl
def DM (k n sz : Nat) (x : Option (Nat × List (List D))) (K : List (List D) -> List Nat -> Prop) (_ : Tag K) : Prop:=match x with
 | some (sz',es)=>sz'=sz /\ k + n <= es.length /\ (∀ e ∈ (es.drop k).take n,∀ c ∈ e,aA c=true) /\ K ((es.drop k).take n) []
 | none=>False
@[simp] theorem GQ {k n sz sz' es K u} : DM k n sz (some (sz',es)) K u=(sz'=sz /\ k + n <= es.length /\ (∀ e ∈ (es.drop k).take n,∀ c ∈ e,aA c=true) /\ K ((es.drop k).take n) []):=_root_.id rfl
@[simp] theorem DN {f mv sz K u} : jd f mv .nils sz K u=K [] []:=_root_.id rfl
@[simp] theorem LH {f mv es sz K u} : jd f mv (.sl es) sz K u=((∀ e ∈ es,e.length=sz /\ ∀ c ∈ e,aA c=true) /\ K es []):=_root_.id rfl
@[simp] theorem GU {f mv b es sz K u} : jd f mv (slx b es) sz K u=((∀ e ∈ es,e.length=sz /\ ∀ c ∈ e,aA c=true) /\ K es []):=by
 rcases ig b es with h | ⟨h,rfl⟩ <;> rw [h] <;> simp
@[simp] theorem LG {f b k n sz K u} : jd f true (.ref (.r b) k n) sz K u=(k=0 /\ DL b n sz (f b) K ⟨⟩):=by
 simp only [jd,fJ,DL]
 cases f b <;> rfl
@[simp] theorem GT {f p k n sz K u} : jd f false (.ref p k n) sz K u=DM k n sz (aX f p) K ⟨⟩:=by
 simp only [jd,fJ,DM]
 cases aX f p <;> rfl
def dQ (f : Nat -> D) (o : Option Opd) (dflt : Nat) (K : Nat -> Prop) (_ : Tag K) : Prop:=eG f o dflt K
def Hp (d : D) (K : Nat -> Prop) (_ : Tag K) : Prop:=match d with
 | .int _ n=>0 <= n /\ K n.toNat
 | _=>False
@[simp] theorem Hq {k n K u} : Hp (.int k n) K u=(0 <= n /\ K n.toNat):=_root_.id rfl
@[simp] theorem AV {f n K u} : dQ f none n K u=K n:=_root_.id rfl
@[simp] theorem AW {f x n K u} : dQ f (some x) n K u=Hp (vd f x) K ⟨⟩:=_root_.id rfl
def gP (x : Option (List D)) (K : List D -> Prop) (_ : Tag K) : Prop:=match x with
 | some r=>K r
 | none=>False
@[simp] theorem GS {r K u} : gP (some r) K u=K r:=_root_.id rfl
@[simp] theorem GR {K u} : gP none K u=False:=_root_.id rfl
theorem fO {x : Option (List D)} {K : List D -> Prop} {u} : gP x K u=∃ r,x=some r /\ K r:=by
 cases x <;> simp [gP]
def j7 (x : Option D) (K : Nat -> List (List D) -> Prop) (_ : Tag K) : Prop:=match x with
 | some (.own sz es)=>K sz es
 | _=>False
@[simp] theorem Ls {sz es K u} : j7 (some (.own sz es)) K u=K sz es:=_root_.id rfl
theorem jx {x : Option D} {K : Nat -> List (List D) -> Prop} {u} : j7 x K u=∃ sz es,x=some (.own sz es) /\ K sz es:=by
 cases x with
 | none=>simp [j7]
 | some d =>
  cases d <;> simp [j7]
  exact ⟨fun h=>⟨_,_,⟨rfl,rfl⟩,h⟩,by rintro ⟨_,_,⟨rfl,rfl⟩,h⟩;exact h⟩
def yx (x : Option D) (K : D -> Prop) (_ : Tag K) : Prop:=match x with
 | some d=>K d
 | none=>False
@[simp] theorem EI {d K u} : yx (some d) K u=K d:=_root_.id rfl
theorem yy {x : Option D} {K : D -> Prop} {u} : yx x K u=∃ d,x=some d /\ K d:=by
 cases x <;> simp [yx]
def eN (x : D) (K : Nat -> List (List D) -> Prop) (_ : Tag K) : Prop:=match x with
 | .blk sz es=>K sz es
 | _=>False
@[simp] theorem Ho {sz es K u} : eN (.blk sz es) K u=K sz es:=_root_.id rfl
abbrev CC:=Nat -> List D -> D -> List D -> Prop
abbrev KT:=List (Nat × D) -> List (Nat × Bool) -> Prop
section
variable {C : CC} {Q : cG -> Env -> Prop} {e e' : Env} {d : D}
def wN (C : CC) (c : eD) (Q : cG -> Env -> Prop) (_ : Tag (c,Q)) (e : Env) : Prop:=wpN C c Q e
def te (C : CC) (c : eD) (Q : cG -> Env -> Prop) (_ : Tag (c,Q)) (e : Env) : Prop:=wpN C (.loop c) Q e
def uC (C : CC) (K : Env -> Prop) (ns : List av) (_ : Tag (K,ns)) (e : Env) : Prop:=iH C K ns e
def sj (C : CC) (hs : List Nat) (K : Env -> Prop) (ns : List av) (_ : Tag (K,ns)) (e : Env) (acc : List (List Nat × List Nat)) : Prop:=jO C hs K ns e acc
def IR (hs : List Nat) (acc : List (List Nat × List Nat)) : Prop:=kN hs acc.reverse=true
theorem aj {hs : List Nat} {acc : List (List Nat × List Nat)} (h : kN hs acc.reverse=true) : IR hs acc:=h
def Bk (C : CC) (K : Env -> Prop) (ns : List av) (e : Env) : KT:=fun ws ks=>iH C K ns (ws++eJ ks e)
def HF (C : CC) (hs : List Nat) (K : Env -> Prop) (ns : List av) (e : Env) (R : List Nat) (acc : List (List Nat × List Nat)) : KT:=fun ws ks=>wOk R ws ks=true /\ jO C hs K ns (ws++eJ ks e) ((R,wrK ws ks)::acc)
def doT (C : CC) (K : Env -> Prop) (ns : List av) (_ : Tag (K,ns)) (e : Env) (ws : List (Nat × D)) (ks : List (Nat × Bool)) : Prop:=iH C K ns (ws++eJ ks e)
def bY (Q : cG -> Env -> Prop) (_ : Tag Q) (t : cG) (e : Env) : Prop:=Q t e
def fin (res : List (Nat × Option (Nat × Bool))) (d : D) : cG -> Env -> Prop:=fun t e=>(match t with
   | .ext _=>False
   | _=>True) /\ gG res d e
def Aj (C : CC) (y : eD) (Q : cG -> Env -> Prop) : cG -> Env -> Prop:=fun t e'=>match t with
  | .nrm=>wpN C y Q e'
  | t=>Q t e'
def oU (id : Nat) (Q : cG -> Env -> Prop) : cG -> Env -> Prop:=fun t e'=>match t with
  | .ext i=>if i=id then Q .nrm e' else Q (.ext i) e'
  | t=>Q t e'
def z8 (keep : List Nat) (Q : cG -> Env -> Prop) : Env -> Prop:=fun e'=>Q .nrm (prune keep e')
def kOf (C : CC) (hs : Option (List Nat)) (K : Env -> Prop) (ns : List av) (e : Env) (R : List Nat) (acc : List (List Nat × List Nat)) : KT :=
 match hs with
 | none=>Bk C K ns e
 | some hs=>HF C hs K ns e R acc
def doW (C : CC) (hs : Option (List Nat)) (K : Env -> Prop) (ns : List av) (_ : Tag (hs,K,ns)) (e : Env) (R : List Nat) (acc : List (List Nat × List Nat)) (ws : List (Nat × D)) (ks : List (Nat × Bool)) : Prop:=kOf C hs K ns e R acc ws ks
def opW (C : CC) (hs : Option (List Nat)) (K : Env -> Prop) (ns : List av) (dst : Option Nat) (op : NOp) (_ : Tag (hs,K,ns,dst,op)) (e : Env) (R : List Nat) (acc : List (List Nat × List Nat)) : Prop:=aC C (ae e) dst (kOf C hs K ns e R acc) op
def dW (C : CC) (hs : Option (List Nat)) (K : Env -> Prop) (ns : List av) (dst : Option Nat) (_ : Tag (hs,K,ns)) (e : Env) (R : List Nat) (acc : List (List Nat × List Nat)) (d : D) : Prop:=dL dst (kOf C hs K ns e R acc) d
def pS (C : CC) (g : Nat) (hs : Option (List Nat)) (K : Env -> Prop) (ns : List av) (dst : Option Nat) (_ : Tag (hs,K,ns)) (e : Env) (R : List Nat) (acc : List (List Nat × List Nat)) (pure : Bool) (ds : List D) : Prop :=
 ∃ d,C g ds d [] /\ (isF d=true \/ pure=true) /\ dL dst (kOf C hs K ns e R acc) d
theorem start {prog : Nat -> Option au} (hC : aB prog C) {g : Nat} {nf : au} {ds : List D} (hp : prog g=some nf) (hl : ds.length=nf.np) (h : wN C nf.body (fin nf.res d) ⟨⟩ (params 0 ds)) : C g ds d []:=hC.1 g nf ds d hp hl h
def uf (res : List (Nat × Option (Nat × Bool))) (sz : Nat) (es : List (List D)) : cG -> Env -> Prop:=fun t e=>(match t with
   | .ext _=>False
   | _=>True) /\ kh res sz es e
def ug (res : List (Nat × Option (Nat × Bool))) (d : D) : cG -> Env -> Prop:=fun t e=>(match t with
   | .ext _=>False
   | _=>True) /\ j9 res d e
def uh (res : List (Nat × Option (Nat × Bool))) (d : D) (sz : Nat) (es' : List (List D)) : cG -> Env -> Prop:=fun t e=>(match t with
   | .ext _=>False
   | _=>True) /\ (0 < es'.length /\ ae e 10015=.blk sz es') /\ gG res d ((10015,.any)::e)
def rS (res : List (Nat × Option (Nat × Bool))) (sz : Nat) (es : List (List D)) : cG -> Env -> Prop:=fun t e=>(match t with
   | .ext _=>False
   | _=>True) /\ ki res sz es e
theorem DX {prog : Nat -> Option au} (hC : aB prog C) {g : Nat} {nf : au} {ds : List D} {sz : Nat} {es es' : List (List D)} (hp : prog g=some nf) (hl : ds.length + 1=nf.np) (hpu : ∀ d ∈ ds,isO d=false) (hsz : 0 < sz) (h : wN C nf.body (rS nf.res sz es') ⟨⟩ ((0,.ref (.r 10015) 0 es.length)::(params 1 ds++[(10015,.blk sz es)]))) : C g (.own sz es::ds) .any [.own sz es',.nils,.nils]:=hC.2.2.2.2.2.1 g nf ds sz es es' hp hl hpu hsz h
def rQ (res : List (Nat × Option (Nat × Bool))) (R : D) : cG -> Env -> Prop:=fun t e=>(match t with
   | .ext _=>False
   | _=>True) /\ qV res R e
theorem xW {prog : Nat -> Option au} (hC : aB prog C) {g : Nat} {nf : au} {ds : List D} {R : D} (hp : prog g=some nf) (hl : ds.length=nf.np) (hok : okR R=true) (h : wN C nf.body (rQ nf.res R) ⟨⟩ (params 0 ds)) : C g ds R [.nils]:=hC.2.2.2.2.2.2 g nf ds R hp hl hok h
def rD (C : CC) (g : Nat) (hs : Option (List Nat)) (K : Env -> Prop) (ns : List av) (t : Nat) (_ : Tag (hs,K,ns)) (e : Env) (R : List Nat) (acc : List (List Nat × List Nat)) (ds : List D) : Prop :=
 (∃ d,C g ds d [] /\ dL (some t) (kOf C hs K ns e R acc) d) \/ ∃ d,okR d=true /\ C g ds d [.nils] /\ kOf C hs K ns e R acc ((t,dM t d)::aP t d) (dF t d)
theorem n9 {g : Nat} {hs : Option (List Nat)} {K : Env -> Prop} {ns : List av} {t : Nat} {u : Tag (hs,K,ns)} {R : List Nat} {acc : List (List Nat × List Nat)} {ds : List D} {d : D} (h : C g ds d [.nils]) (hok : okR d=true) (hk : doW C hs K ns ⟨⟩ e R acc ((t,dM t d)::aP t d) (dF t d)) : rD C g hs K ns t u e R acc ds:=.inr ⟨d,hok,h,hk⟩
theorem n8 {g : Nat} {hs : Option (List Nat)} {K : Env -> Prop} {ns : List av} {t : Nat} {u : Tag (hs,K,ns)} {R : List Nat} {acc : List (List Nat × List Nat)} {ds : List D} {d : D} (h : C g ds d []) (hk : dW C hs K ns (some t) ⟨⟩ e R acc d) : rD C g hs K ns t u e R acc ds:=.inl ⟨d,h,hk⟩
def Cj (C : CC) (g : Nat) (hs : Option (List Nat)) (K : Env -> Prop) (ns : List av) (dst : Option Nat) (_ : Tag (hs,K,ns)) (e : Env) (R : List Nat) (acc : List (List Nat × List Nat)) (ds : List D) : Prop :=
 ∃ d,C g ds d [.nilp] /\ dL dst (kOf C hs K ns e R acc) d
def Ci (C : CC) (g : Nat) (hs : Option (List Nat)) (K : Env -> Prop) (ns : List av) (t : Nat) (_ : Tag (hs,K,ns)) (e : Env) (R : List Nat) (acc : List (List Nat × List Nat)) (ds : List D) : Prop :=
 ∃ sz es,C g ds .any [.own sz es] /\ kOf C hs K ns e R acc [(t,.ref (.r (rt t 0)) 0 es.length),(rt t 0,.blk sz es)] [(rt t 0,true)]
def rF (C : CC) (g : Nat) (hs : Option (List Nat)) (K : Env -> Prop) (ns : List av) (dst : Option Nat) (_ : Tag (hs,K,ns)) (e : Env) (R : List Nat) (acc : List (List Nat × List Nat)) (b sz : Nat) (es : List (List D)) (ds : List D) (p : Bool) : Prop:=match dst with
 | none=>∃ es' : List (List D),es'.length=es.length /\ (∀ e ∈ es',e.length=sz /\ ∀ c ∈ e,aA c=true) /\ (p=true \/ ∀ e ∈ es',∀ c ∈ e,bE c=true) /\ C g (.own sz es::ds) .any [.own sz es',.nilp] /\ doW C hs K ns ⟨⟩ e R acc [(b,.blk sz es')] []
 | some t=>(∃ es' : List (List D),es'.length=es.length /\ (∀ e ∈ es',e.length=sz /\ ∀ c ∈ e,aA c=true) /\ (p=true \/ ∀ e ∈ es',∀ c ∈ e,bE c=true) /\ C g (.own sz es::ds) .any [.own sz es',.nilp] /\ doW C hs K ns ⟨⟩ e R acc [(t,.tup []),(b,.blk sz es')] []) \/ (b ≠ rt t 0 /\ 0 < sz /\ ∃ es' : List (List D),(∀ e ∈ es',e.length=sz /\ ∀ c ∈ e,aA c=true) /\ (p=true \/ ∀ e ∈ es',∀ c ∈ e,bE c=true) /\ C g (.own sz es::ds) .any [.own sz es',.nils] /\ doW C hs K ns ⟨⟩ e R acc [(t,.ref (.r (rt t 0)) 0 es'.length),(rt t 0,.blk sz es'),(b,.any)] [(rt t 0,true)])
theorem tP {t : Nat} {g : Nat} {hs : Option (List Nat)} {K : Env -> Prop} {ns : List av} {u : Tag (hs,K,ns)} {R : List Nat} {acc : List (List Nat × List Nat)} {b sz : Nat} {es es' : List (List D)} {ds : List D} {p : Bool} (h : C g (.own sz es::ds) .any [.own sz es',.nilp]) (hp : (p=true \/ ∀ e ∈ es',∀ c ∈ e,bE c=true)) (hl : es'.length=es.length) (hu : (∀ e ∈ es',e.length=sz /\ ∀ c ∈ e,aA c=true)) (hk : doW C hs K ns ⟨⟩ e R acc [(t,.tup []),(b,.blk sz es')] []) : rF C g hs K ns (some t) u e R acc b sz es ds p:=.inl ⟨es',hl,hu,hp,h,hk⟩
def DW (C : CC) (g : Nat) (hs : Option (List Nat)) (K : Env -> Prop) (ns : List av) (dst : Option Nat) (_ : Tag (hs,K,ns)) (e : Env) (R : List Nat) (acc : List (List Nat × List Nat)) (b n : Nat) (xs : List Opd) (d : D) : Prop:=match d with
 | .blk sz es=>es.length=n /\ (∀ e ∈ es,∀ c ∈ e,aA c=true) /\ (∀ x ∈ xs,bG (fbE (ae e) b) (vd (fbE (ae e) b) x)) /\ rF C g hs K ns dst ⟨⟩ e R acc b sz es (xs.map (dpv (fbE (ae e) b))) (xs.all fun y=>isV (vd (fbE (ae e) b) y))
 | _=>False
def LU (C : CC) (g : Nat) (hs : Option (List Nat)) (K : Env -> Prop) (ns : List av) (dst : Option Nat) (_ : Tag (hs,K,ns)) (e : Env) (R : List Nat) (acc : List (List Nat × List Nat)) (xs : List Opd) (d : D) : Prop:=match d with
 | .ref (.r b) k n=>k=0 /\ DW C g hs K ns dst ⟨⟩ e R acc b n xs (ae e b)
 | _=>False
@[simp] theorem QQ {f : Nat -> D} {b t : Nat} : fbE f b t=if t=b then .any else f t:=_root_.id rfl
theorem aa {g : Nat} {hs : Option (List Nat)} {K : Env -> Prop} {ns : List av} {dst : Option Nat} {u : Tag (hs,K,ns)} {R : List Nat} {acc : List (List Nat × List Nat)} {p : Bool} {ds : List D} (h : C g ds d []) (hf : isF d=true \/ p=true) (hk : dW C hs K ns dst ⟨⟩ e R acc d) : pS C g hs K ns dst u e R acc p ds:=⟨d,h,hf,hk⟩
def pA (S : Type) (G : S -> Env) (I : S -> Prop) (m : S -> Nat) (s : S) (Q : cG -> Env -> Prop) : cG -> Env -> Prop:=fun t e'=>match t with
    | .nrm=>∃ s',I s' /\ m s' < m s /\ kA e' (G s')
    | t=>Q t e'
theorem aw {c : eD} {u : Tag (c,Q)} (S : Type) (G : S -> Env) (I : S -> Prop) (m : S -> Nat) (s0 : S) (h0 : I s0) (hw : kA e (G s0))
  (h : ∀ s,I s -> wN C c (pA S G I m s Q) ⟨⟩ (G s)) : te C c Q u e:=⟨S,G,I,m,s0,h0,hw,h⟩
@[simp] theorem Qm {u} : wN C .skip Q u e=bY Q ⟨⟩ .nrm e:=_root_.id rfl
@[simp] theorem RP {hs keep ops u} : wN C (.reg false hs keep ops) Q u e=uC C (z8 keep Q) ops ⟨⟩ e:=_root_.id rfl
@[simp] theorem Qj {hs keep ops u} : wN C (.reg true hs keep ops) Q u e=sj C hs (z8 keep Q) ops ⟨⟩ e []:=_root_.id rfl
@[simp] theorem RR {x y u} : wN C (.seq x y) Q u e=wN C x (Aj C y Q) ⟨⟩ e:=_root_.id rfl
def brB (b : Bool) (X Y : Prop) (_ : Tag (X,Y)) : Prop:=(b=true -> X) /\ (b=false -> Y)
theorem ao {b : Bool} {X Y : Prop} {u} (h1 : b=true -> X) (h2 : b=false -> Y) : brB b X Y u:=⟨h1,h2⟩
@[simp] theorem Hx {X Y : Prop} {u} : brB true X Y u=X:=by simp [brB]
@[simp] theorem EH {X Y : Prop} {u} : brB false X Y u=Y:=by simp [brB]
def cdW (C : CC) (x y : eD) (Q : cG -> Env -> Prop) (_ : Tag (x,y,Q)) (e : Env) (d : D) : Prop:=match d with
 | .bool b=>brB b (wN C x Q ⟨⟩ e) (wN C y Q ⟨⟩ e) ⟨⟩
 | .bb=>wN C x Q ⟨⟩ e /\ wN C y Q ⟨⟩ e
 | _=>False
@[simp] theorem Qp {x y u} : cdW C x y Q u e .bb=(wN C x Q ⟨⟩ e /\ wN C y Q ⟨⟩ e):=_root_.id rfl
@[simp] theorem Hy {x y u b} : cdW C x y Q u e (.bool b)=brB b (wN C x Q ⟨⟩ e) (wN C y Q ⟨⟩ e) ⟨⟩:=_root_.id rfl
@[simp] theorem Qi {c x y u} : wN C (.cond c x y) Q u e=cdW C x y Q ⟨⟩ e (vd (ae e) c):=_root_.id rfl
@[simp] theorem L7 {id c u} : wN C (.block id c) Q u e=wN C c (oU id Q) ⟨⟩ e:=_root_.id rfl
@[simp] theorem Ql {c u} : wN C (.loop c) Q u e=te C c Q ⟨⟩ e:=_root_.id rfl
@[simp] theorem Qk {id u} : wN C (.exit id) Q u e=bY Q ⟨⟩ (.ext id) e:=_root_.id rfl
@[simp] theorem RQ {u} : wN C .ret Q u e=bY Q ⟨⟩ .ret e:=_root_.id rfl
@[simp] theorem yT {y u} : bY (Aj C y Q) u .nrm e=wN C y Q ⟨⟩ e:=_root_.id rfl
@[simp] theorem yS {y u i} : bY (Aj C y Q) u (.ext i) e=bY Q ⟨⟩ (.ext i) e:=_root_.id rfl
@[simp] theorem yU {y u} : bY (Aj C y Q) u .ret e=bY Q ⟨⟩ .ret e:=_root_.id rfl
@[simp] theorem vU {id u} : bY (oU id Q) u .nrm e=bY Q ⟨⟩ .nrm e:=_root_.id rfl
@[simp] theorem vT {id u i} : bY (oU id Q) u (.ext i) e=if i=id then bY Q ⟨⟩ .nrm e else bY Q ⟨⟩ (.ext i) e:=_root_.id rfl
@[simp] theorem vV {id u} : bY (oU id Q) u .ret e=bY Q ⟨⟩ .ret e:=_root_.id rfl
@[simp] theorem yK {r u} : bY (fin r d) u .nrm e=gG r d e:=by simp [bY,fin]
@[simp] theorem yL {r u} : bY (fin r d) u .ret e=gG r d e:=by simp [bY,fin]
@[simp] theorem yc {r d} {u : Tag (ug r d)} : bY (ug r d) u .nrm e=j9 r d e:=by simp [bY,ug]
@[simp] theorem ye {r d} {u : Tag (ug r d)} : bY (ug r d) u .ret e=j9 r d e:=by simp [bY,ug]
@[simp] theorem ya {r sz es} {u : Tag (uf r sz es)} : bY (uf r sz es) u .nrm e=kh r sz es e:=by simp [bY,uf]
@[simp] theorem yb {r sz es} {u : Tag (uf r sz es)} : bY (uf r sz es) u .ret e=kh r sz es e:=by simp [bY,uf]
@[simp] theorem yi {r d sz es} {u : Tag (uh r d sz es)} : bY (uh r d sz es) u .nrm e=((0 < es.length /\ ae e 10015=.blk sz es) /\ gG r d ((10015,.any)::e)):=by simp [bY,uh]
@[simp] theorem yj {r d sz es} {u : Tag (uh r d sz es)} : bY (uh r d sz es) u .ret e=((0 < es.length /\ ae e 10015=.blk sz es) /\ gG r d ((10015,.any)::e)):=by simp [bY,uh]
@[simp] theorem yf {r sz es} {u : Tag (rS r sz es)} : bY (rS r sz es) u .nrm e=ki r sz es e:=by simp [bY,rS]
@[simp] theorem yg {r sz es} {u : Tag (rS r sz es)} : bY (rS r sz es) u .ret e=ki r sz es e:=by simp [bY,rS]
@[simp] theorem x8 {r d} {u : Tag (rQ r d)} : bY (rQ r d) u .nrm e=qV r d e:=by simp [bY,rQ]
@[simp] theorem x9 {r d} {u : Tag (rQ r d)} : bY (rQ r d) u .ret e=qV r d e:=by simp [bY,rQ]
@[simp] theorem vX {S G I m s u} : bY (pA S G I m s Q) u .nrm e=∃ s',I s' /\ m s' < m s /\ kA e (G s'):=_root_.id rfl
@[simp] theorem vW {S G I m s u i} : bY (pA S G I m s Q) u (.ext i) e=bY Q ⟨⟩ (.ext i) e:=_root_.id rfl
@[simp] theorem vY {S G I m s u} : bY (pA S G I m s Q) u .ret e=bY Q ⟨⟩ .ret e:=_root_.id rfl
end
section
variable {C : CC} {Q : cG -> Env -> Prop} {e : Env} {K : Env -> Prop} {dst : Option Nat} {d : D} {hs : Option (List Nat)} {ns : List av} {R : List Nat} {acc : List (List Nat × List Nat)} {u : Tag (hs,K,ns)}
@[simp] theorem Lp {keep u} : uC C (z8 keep Q) [] u e=bY Q ⟨⟩ .nrm (prune keep e):=_root_.id rfl
@[simp] theorem Lo {h keep u} : sj C h (z8 keep Q) [] u e acc=(IR h acc /\ bY Q ⟨⟩ .nrm (prune keep e)):=_root_.id rfl
@[simp] theorem GN {dst op ns u} : uC C K (⟨dst,op,none⟩::ns) u e=opW C none K ns dst op ⟨⟩ e [] []:=_root_.id rfl
@[simp] theorem GL {h dst op ns u} : sj C h K (⟨dst,op,none⟩::ns) u e acc=(chk (ae e) ⟨dst,op,none⟩=true /\ opW C (some h) K ns dst op ⟨⟩ e (iX (ae e) ⟨dst,op,none⟩) acc):=_root_.id rfl
def nI (C : CC) (h : List Nat) (K : Env -> Prop) (ns : List av) (_ : Tag (h,K,ns)) (e : Env) (dst : Option Nat) (R : List Nat) (acc : List (List Nat × List Nat)) : Prop:=ic e dst fun e'=>jO C h K ns e' ((R,ub dst)::acc)
@[simp] theorem DP {h t ns u} : nI C h K ns u e (some t) R acc=sj C h K ns ⟨⟩ ((t,.tup [])::e) ((R,[4 * t])::acc):=_root_.id rfl
@[simp] theorem DO {h ns u} : nI C h K ns u e none R acc=sj C h K ns ⟨⟩ e ((R,[])::acc):=_root_.id rfl
def gdT (C : CC) (K : Env -> Prop) (ns : List av) (dst : Option Nat) (op : NOp) (s : Nat) (want : Bool) (_ : Tag (K,ns)) (e : Env) (d : D) : Prop:=match d with
 | .bool b=>(b=want -> opW C none K ns dst op ⟨⟩ ((s,.bool want)::e) [] []) /\ (b=!want -> dW C none K ns dst ⟨⟩ ((s,.bool !want)::e) [] [] (.tup []))
 | .tup []=>dW C none K ns dst ⟨⟩ e [] [] (.tup [])
 | _=>False
@[simp] theorem Iz {op s b u} : gdT C K ns dst op s true u e (.bool b)=brB b (opW C none K ns dst op ⟨⟩ ((s,.bool true)::e) [] []) (dW C none K ns dst ⟨⟩ ((s,.bool false)::e) [] [] (.tup [])) ⟨⟩:=_root_.id rfl
@[simp] theorem Ft {op s b u} : gdT C K ns dst op s false u e (.bool b)=brB b (dW C none K ns dst ⟨⟩ ((s,.bool true)::e) [] [] (.tup [])) (opW C none K ns dst op ⟨⟩ ((s,.bool false)::e) [] []) ⟨⟩:=by
 simp only [gdT,brB,Bool.not_false];exact propext ⟨fun h=>⟨h.2,h.1⟩,fun h=>⟨h.2,h.1⟩⟩
@[simp] theorem Iy {op s want u} : gdT C K ns dst op s want u e (.tup [])=dW C none K ns dst ⟨⟩ e [] [] (.tup []):=_root_.id rfl
@[simp] theorem GO {dst op s want ns u} : uC C K (⟨dst,op,some (s,want)⟩::ns) u e=gdT C K ns dst op s want ⟨⟩ e (ae e s):=by
 simp only [uC,iH,opW,rn,ic,gdT,dW,dL,kOf,Bk,eJ]
 cases ae e s <;> cases dst <;> (first | rfl | (rename_i x _ ;cases x <;> rfl) | (rename_i x;cases x <;> rfl))
def gdD (C : CC) (h : List Nat) (K : Env -> Prop) (ns : List av) (dst : Option Nat) (op : NOp) (want : Bool) (_ : Tag (K,ns)) (e : Env) (R : List Nat) (acc : List (List Nat × List Nat)) (d : D) : Prop:=match d with
 | .bool b=>(b=want -> opW C (some h) K ns dst op ⟨⟩ e R acc) /\ (b=!want -> nI C h K ns ⟨⟩ e dst R acc)
 | .tup []=>nI C h K ns ⟨⟩ e dst R acc
 | _=>False
@[simp] theorem Ix {h op b u} : gdD C h K ns dst op true u e R acc (.bool b)=brB b (opW C (some h) K ns dst op ⟨⟩ e R acc) (nI C h K ns ⟨⟩ e dst R acc) ⟨⟩:=_root_.id rfl
@[simp] theorem Fs {h op b u} : gdD C h K ns dst op false u e R acc (.bool b)=brB b (nI C h K ns ⟨⟩ e dst R acc) (opW C (some h) K ns dst op ⟨⟩ e R acc) ⟨⟩:=by
 simp only [gdD,brB,Bool.not_false];exact propext ⟨fun h=>⟨h.2,h.1⟩,fun h=>⟨h.2,h.1⟩⟩
@[simp] theorem Iw {h op want u} : gdD C h K ns dst op want u e R acc (.tup [])=nI C h K ns ⟨⟩ e dst R acc:=_root_.id rfl
@[simp] theorem GM {h dst op s want ns u} : sj C h K (⟨dst,op,some (s,want)⟩::ns) u e acc=(chk (ae e) ⟨dst,op,some (s,want)⟩=true /\ gdD C h K ns dst op want ⟨⟩ e (iX (ae e) ⟨dst,op,some (s,want)⟩) acc (ae e s)):=_root_.id rfl
@[simp] theorem HN {K ns u ws ks} : doW C none K ns u e R acc ws ks=uC C K ns ⟨⟩ (ws++eJ ks e):=_root_.id rfl
@[simp] theorem HM {h K ns u ws ks} : doW C (some h) K ns u e R acc ws ks=(wOk R ws ks=true /\ sj C h K ns ⟨⟩ (ws++eJ ks e) ((R,wrK ws ks)::acc)):=_root_.id rfl
@[simp] theorem Mo {t} : dW C hs K ns (some t) u e R acc d=doW C hs K ns ⟨⟩ e R acc [(t,d)] []:=_root_.id rfl
@[simp] theorem Mn : dW C hs K ns none u e R acc d=doW C hs K ns ⟨⟩ e R acc [] []:=_root_.id rfl
def aZ (ks : List (Nat × Bool)) (d : D) : D:=if aG ks d then .any else d
theorem cw (ks : List (Nat × Bool)) (d : D) : aZ ks d=bif aG ks d then .any else d:=by
 unfold aZ;cases aG ks d <;> rfl
@[simp] theorem Gi : eJ [] e=e:=_root_.id rfl
@[simp] theorem Gh {k ks} : eJ (k::ks) []=[]:=_root_.id rfl
@[simp] theorem C1 {k ks s d} : eJ (k::ks) ((s,d)::e)=(s,aZ (k::ks) d)::eJ (k::ks) e:=_root_.id rfl
@[simp] theorem F3 {ks} : aZ ks .any=.any:=by simp [aZ]
@[simp] theorem F6 {ks k n} : aZ ks (.int k n)=.int k n:=by simp [aZ,aG,dT,aL]
@[simp] theorem CY {ks n} : aZ ks (.bool n)=.bool n:=by simp [aZ,aG,dT,aL]
@[simp] theorem Ge {ks n} : aZ ks (.str n)=.str n:=by simp [aZ,aG,dT,aL]
@[simp] theorem Kh {ks} : aZ ks .bb=.bb:=by simp [aZ,aG,dT,aL]
@[simp] theorem CZ {ks} : aZ ks .nilp=.nilp:=by simp [aZ,aG,dT,aL]
@[simp] theorem C0 {ks} : aZ ks .nils=.nils:=by simp [aZ,aG,dT,aL]
@[simp] theorem F1 {ks n} : aZ ks (.agg n)=.agg n:=by simp [aZ,aG,dT,aL]
@[simp] theorem Gg {ks n} : aZ ks (.tup n)=.tup n:=by simp [aZ,aG,dT,aL]
@[simp] theorem Kk {ks n} : aZ ks (.sl n)=.sl n:=by simp [aZ,aG,dT,aL]
@[simp] theorem F9 {ks n} : aZ ks (.ptr n)=.ptr n:=by simp [aZ,aG,dT,aL]
@[simp] theorem Ki {ks g n} : aZ ks (.fn g n)=.fn g n:=by simp [aZ,aG,dT,aL]
@[simp] theorem F4 {ks g n} : aZ ks (.blk g n)=.blk g n:=by simp [aZ,aG,dT,aL]
@[simp] theorem Kj {ks kt et xs vs} : aZ ks (.mp kt et xs vs)=.mp kt et xs vs:=by simp [aZ,aG,dT,aL]
@[simp] theorem Gb {b all ks p k n} : aZ ((b,all)::ks) (.ref p k n)=if b7 b all p then .any else aZ ks (.ref p k n):=by
 have h : aZ ((b,all)::ks) (.ref p k n)=bif (b7 b all p || aG ks (.ref p k n)) then .any else .ref p k n:=cw ..
 rw [h,cw]
 cases b7 b all p <;> rfl
@[simp] theorem F0 {b all ks p k n} : aZ ((b,all)::ks) (.adr p k n)=if b7 b all p then .any else aZ ks (.adr p k n):=by
 have h : aZ ((b,all)::ks) (.adr p k n)=bif (b7 b all p || aG ks (.adr p k n)) then .any else .adr p k n:=cw ..
 rw [h,cw]
 cases b7 b all p <;> rfl
@[simp] theorem F2 {b all ks n} : aZ ((b,all)::ks) (.agx n)=if n.any (aL b all) then .any else aZ ks (.agx n):=by
 have h : aZ ((b,all)::ks) (.agx n)=bif (n.any (aL b all) || aG ks (.agx n)) then .any else .agx n:=cw ..
 rw [h,cw]
 cases n.any (aL b all) <;> rfl
@[simp] theorem F5 {b all ks g n} : aZ ((b,all)::ks) (.fnx g n)=if n.any (aL b all) then .any else aZ ks (.fnx g n):=by
 have h : aZ ((b,all)::ks) (.fnx g n)=bif (n.any (aL b all) || aG ks (.fnx g n)) then .any else .fnx g n:=cw ..
 rw [h,cw]
 cases n.any (aL b all) <;> rfl
@[simp] theorem F8 {d} : aZ [] d=d:=by simp [aZ,aG]
@[simp] theorem Gd {ks b es} : aZ ks (slx b es)=slx b es:=by cases b <;> cases es <;> simp [slx]
def jK (C : CC) (hs : Option (List Nat)) (K : Env -> Prop) (ns : List av) (dst : Option Nat) (_ : Tag (hs,K,ns)) (e : Env) (R : List Nat) (acc : List (List Nat × List Nat)) (sz : Nat) (es : List (List D)) (i : Nat) : Prop :=
 ∃ c,es[i]? = some c /\ c.length=sz /\ dL dst (kOf C hs K ns e R acc) (.ptr c)
@[simp] theorem zio {α : Type} [Inhabited α] {sz : Nat} {xs : List α} {f : α -> List D} {i : Nat} : jK C hs K ns dst u e R acc sz (xs.map f) i=(i < xs.length /\ (f xs[i]!).length=sz /\ dW C hs K ns dst ⟨⟩ e R acc (.ptr (f xs[i]!))):=by
 apply propext
 unfold jK dW
 constructor
 ·rintro ⟨c,h,h1,h2⟩
  rw [List.getElem?_map,Option.map_eq_some_iff] at h
  obtain ⟨x,hx,rfl⟩:=h
  obtain ⟨hi,rfl⟩:=List.getElem?_eq_some_iff.1 hx
  rw [getElem!_pos xs i hi]
  exact ⟨hi,h1,h2⟩
 ·rintro ⟨hi,h1,h2⟩
  rw [getElem!_pos xs i hi] at h1 h2
  exact ⟨_,by rw [List.getElem?_map,List.getElem?_eq_getElem hi];rfl,h1,h2⟩
def Cg (C : CC) (hs : Option (List Nat)) (K : Env -> Prop) (ns : List av) (dst : Option Nat) (_ : Tag (hs,K,ns)) (e : Env) (R : List Nat) (acc : List (List Nat × List Nat)) (s : List UInt8) (i : Nat) : Prop :=
 ∃ b,s[i]? = some b /\ dL dst (kOf C hs K ns e R acc) (.int .u8 b.toNat)
@[simp] theorem Mk {s : List UInt8} {i : Nat} : Cg C hs K ns dst u e R acc s i=(i < s.length /\ dW C hs K ns dst ⟨⟩ e R acc (.int .u8 (s[i]!).toNat)):=by
 apply propext
 unfold Cg dW
 constructor
 ·rintro ⟨b,h,h2⟩
  obtain ⟨hi,rfl⟩:=List.getElem?_eq_some_iff.1 h
  rw [getElem!_pos s i hi]
  exact ⟨hi,h2⟩
 ·rintro ⟨hi,h2⟩
  rw [getElem!_pos s i hi] at h2
  exact ⟨_,List.getElem?_eq_getElem hi,h2⟩
def lV (C : CC) (hs : Option (List Nat)) (K : Env -> Prop) (ns : List av) (dst : Option Nat) (_ : Tag (hs,K,ns)) (e : Env) (R : List Nat) (acc : List (List Nat × List Nat)) (n : Nat) (ag : Bool) (p : Pa) (es : List (List D)) (i off : Nat) : Prop :=
 ∃ r,es[i]? = some r /\ off + n <= r.length /\ match ag with
    | true=>(((r.drop off).take n).all isV=true -> dL dst (kOf C hs K ns e R acc) (.agg ((r.drop off).take n))) /\
      (((r.drop off).take n).all isV=false -> dL dst (kOf C hs K ns e R acc) (.agx (((r.drop off).take n).mapIdx fun j c=>ldc p i (off + j) c)))
    | false=>dL dst (kOf C hs K ns e R acc) (ldc p i off ((r.drop off).headD .any))
theorem pB {n : Nat} {ag : Bool} {p : Pa} {es : List (List D)} {i off : Nat} {r : List D} (hr : es[i]? = some r) (hl : off + n <= r.length) (hk : match ag with
    | true=>(((r.drop off).take n).all isV=true -> dW C hs K ns dst ⟨⟩ e R acc (.agg ((r.drop off).take n))) /\
      (((r.drop off).take n).all isV=false -> dW C hs K ns dst ⟨⟩ e R acc (.agx (((r.drop off).take n).mapIdx fun j c=>ldc p i (off + j) c)))
    | false=>dW C hs K ns dst ⟨⟩ e R acc (ldc p i off ((r.drop off).headD .any))) : lV C hs K ns dst u e R acc n ag p es i off:=by
 refine ⟨r,hr,hl,?_⟩
 cases ag <;> exact hk
@[simp] theorem LF {n : Nat} {ag : Bool} {p : Pa} {r : List D} {off : Nat} : lV C hs K ns dst u e R acc n ag p [r] 0 off=(off + n <= r.length /\ match ag with
    | true=>(((r.drop off).take n).all isV=true -> dW C hs K ns dst ⟨⟩ e R acc (.agg ((r.drop off).take n))) /\
      (((r.drop off).take n).all isV=false -> dW C hs K ns dst ⟨⟩ e R acc (.agx (((r.drop off).take n).mapIdx fun j c=>ldc p 0 (off + j) c)))
    | false=>dW C hs K ns dst ⟨⟩ e R acc (ldc p 0 off ((r.drop off).headD .any))):=by
 apply propext
 constructor
 ·rintro ⟨r',h1,h2,h3⟩
  simp at h1;subst h1
  refine ⟨h2,?_⟩
  cases ag <;> exact h3
 ·rintro ⟨h2,h3⟩
  refine ⟨r,rfl,h2,?_⟩
  cases ag <;> exact h3
end
section
variable {C : CC} {Q : cG -> Env -> Prop} {e : Env} {K : Env -> Prop} {dst : Option Nat} {hs : Option (List Nat)} {ns : List av} {R : List Nat} {acc : List (List Nat × List Nat)} {u : Tag (hs,K,ns)}
@[simp] theorem P4 {x v1} : opW C hs K ns dst (.mov x) v1 e R acc=(isS (vd (ae e) x)=true /\ dW C hs K ns dst ⟨⟩ e R acc (vd (ae e) x)):=_root_.id rfl
@[simp] theorem P7 {x v1} : opW C hs K ns dst (.nck x) v1 e R acc=(match (generalizing:=false) vd (ae e) x with
  | .ptr ds=>dW C hs K ns dst ⟨⟩ e R acc (.ptr ds)
  | .adr p i off=>dW C hs K ns dst ⟨⟩ e R acc (.adr p i off)
  | .ptx ds=>dW C hs K ns dst ⟨⟩ e R acc (.ptx ds)
  | _=>False):=_root_.id rfl
@[simp] theorem Ln {c a b v1} : opW C hs K ns dst (.pick c a b) v1 e R acc=(match (generalizing:=false) vd (ae e) c with
  | .bool v=>(v=true -> isS (vd (ae e) a)=true /\ dW C hs K ns dst ⟨⟩ e R acc (vd (ae e) a)) /\ (v=false -> isS (vd (ae e) b)=true /\ dW C hs K ns dst ⟨⟩ e R acc (vd (ae e) b))
  | _=>False):=_root_.id rfl
@[simp] theorem PM {op x y v1} : opW C hs K ns dst (.bin op x y) v1 e R acc=(match (generalizing:=false) vd (ae e) x,vd (ae e) y with
  | .int k a,.int k' b=>match (generalizing:=false) op with
   | .add=>k=k' /\ dW C hs K ns dst ⟨⟩ e R acc (.int k (k.wrap (a + b)))
   | .sub=>k=k' /\ dW C hs K ns dst ⟨⟩ e R acc (.int k (k.wrap (a - b)))
   | .mul=>k=k' /\ dW C hs K ns dst ⟨⟩ e R acc (.int k (k.wrap (a * b)))
   | .quo=>k=k' /\ b ≠ 0 /\ dW C hs K ns dst ⟨⟩ e R acc (.int k (k.wrap (a.tdiv b)))
   | .rem=>k=k' /\ b ≠ 0 /\ dW C hs K ns dst ⟨⟩ e R acc (.int k (a.tmod b))
   | .and=>k=k' /\ dW C hs K ns dst ⟨⟩ e R acc (.int k (bits .and k a b))
   | .or=>k=k' /\ dW C hs K ns dst ⟨⟩ e R acc (.int k (bits .or k a b))
   | .xor=>k=k' /\ dW C hs K ns dst ⟨⟩ e R acc (.int k (bits .xor k a b))
   | .andNot=>k=k' /\ dW C hs K ns dst ⟨⟩ e R acc (.int k (bits .andNot k a b))
   | .shl=>0 <= b /\ dW C hs K ns dst ⟨⟩ e R acc (.int k (k.wrap (a * 2 ^ (min b.toNat k.bits))))
   | .shr=>0 <= b /\ dW C hs K ns dst ⟨⟩ e R acc (.int k (a.fdiv (2 ^ (min b.toNat k.bits))))
   | .eql=>k=k' /\ dW C hs K ns dst ⟨⟩ e R acc (.bool (decide (a=b)))
   | .neq=>k=k' /\ dW C hs K ns dst ⟨⟩ e R acc (.bool (!decide (a=b)))
   | .lss=>k=k' /\ dW C hs K ns dst ⟨⟩ e R acc (.bool (decide (a < b)))
   | .leq=>k=k' /\ dW C hs K ns dst ⟨⟩ e R acc (.bool (decide (a <= b)))
   | .gtr=>k=k' /\ dW C hs K ns dst ⟨⟩ e R acc (.bool (decide (b < a)))
   | .geq=>k=k' /\ dW C hs K ns dst ⟨⟩ e R acc (.bool (decide (b <= a)))
  | .str a,.str b=>match (generalizing:=false) op with
   | .eql=>dW C hs K ns dst ⟨⟩ e R acc (.bool (decide (a=b)))
   | .neq=>dW C hs K ns dst ⟨⟩ e R acc (.bool (!decide (a=b)))
   | .add=>((a++b).length : Int) <= 9223372036854775807 /\ dW C hs K ns dst ⟨⟩ e R acc (.str (a++b))
   | .lss=>dW C hs K ns dst ⟨⟩ e R acc (.bool (Op.bytesLess a b))
   | .leq=>dW C hs K ns dst ⟨⟩ e R acc (.bool (Op.bytesLess a b || a == b))
   | .gtr=>dW C hs K ns dst ⟨⟩ e R acc (.bool !(Op.bytesLess a b || a == b))
   | .geq=>dW C hs K ns dst ⟨⟩ e R acc (.bool !(Op.bytesLess a b))
   | _=>False
  | _,_=>False):=_root_.id rfl
@[simp] theorem RE {op x v1} : opW C hs K ns dst (.un op x) v1 e R acc=(match (generalizing:=false) vd (ae e) x with
  | .bool b=>match (generalizing:=false) op with
   | .not=>dW C hs K ns dst ⟨⟩ e R acc (.bool (!b))
   | _=>False
  | .int k n=>match (generalizing:=false) op with
   | .neg=>dW C hs K ns dst ⟨⟩ e R acc (.int k (k.wrap (0 - n)))
   | _=>False
  | _=>False):=_root_.id rfl
@[simp] theorem Lg {k x v1} : opW C hs K ns dst (.conv k x) v1 e R acc=(match (generalizing:=false) vd (ae e) x with
  | .int _ n=>dW C hs K ns dst ⟨⟩ e R acc (.int k (k.wrap n))
  | _=>False):=_root_.id rfl
@[simp] theorem PL {neg ks x y v1} : opW C hs K ns dst (.beq neg ks x y) v1 e R acc=(match (generalizing:=false) vd (ae e) x,vd (ae e) y with
  | .bool a,.bool b=>ks=[] /\ dW C hs K ns dst ⟨⟩ e R acc (.bool ((a == b) != neg))
  | .agg a,.agg b=>ks ≠ [] /\ match (generalizing:=false) cz ks a b with
   | some r=>dW C hs K ns dst ⟨⟩ e R acc (.bool (r != neg))
   | none=>False
  | .nils,.nils=>ks=[9] /\ dW C hs K ns dst ⟨⟩ e R acc (.bool (!neg))
  | .sl es,.nils=>ks=[9] /\ (0 < es.length -> dW C hs K ns dst ⟨⟩ e R acc (.bool neg)) /\ (es.length=0 -> dW C hs K ns dst ⟨⟩ e R acc .bb)
  | .nilp,.nilp=>ks=[8] /\ dW C hs K ns dst ⟨⟩ e R acc (.bool (!neg))
  | .ptr _,.nilp=>ks=[8] /\ dW C hs K ns dst ⟨⟩ e R acc (.bool neg)
  | _,_=>False):=_root_.id rfl
@[simp] theorem PV {off n ag x v1} : opW C hs K ns dst (.fld off n ag x) v1 e R acc=(match (generalizing:=false) vd (ae e) x with
  | .agg ds=>off + n <= ds.length /\ dW C hs K ns dst ⟨⟩ e R acc (mA ag n (ds.drop off))
  | .agx ds=>off + n <= ds.length /\ match (generalizing:=false) ag with
   | true=>dW C hs K ns dst ⟨⟩ e R acc (.agx ((ds.drop off).take n))
   | false=>dW C hs K ns dst ⟨⟩ e R acc ((ds.drop off).headD .any)
  | _=>False):=_root_.id rfl
@[simp] theorem Lj {len sz ag x i v1} : opW C hs K ns dst (.idxA len sz ag x i) v1 e R acc=(match (generalizing:=false) vd (ae e) x,vd (ae e) i with
  | .agg ds,.int _ j=>0 <= j /\ j < len /\ j.toNat * sz + sz <= ds.length /\ dW C hs K ns dst ⟨⟩ e R acc (mA ag sz (ds.drop (j.toNat * sz)))
  | .agx ds,.int _ j=>0 <= j /\ j < len /\ j.toNat * sz + sz <= ds.length /\ match (generalizing:=false) ag with
   | true=>dW C hs K ns dst ⟨⟩ e R acc (.agx ((ds.drop (j.toNat * sz)).take sz))
   | false=>dW C hs K ns dst ⟨⟩ e R acc ((ds.drop (j.toNat * sz)).headD .any)
  | _,_=>False):=_root_.id rfl
@[simp] theorem P8 {len sz x v1} : opW C hs K ns dst (.slA len sz x) v1 e R acc=(match (generalizing:=false) vd (ae e) x with
  | .ptr ds=>0 < len /\ 0 < sz /\ len * sz <= ds.length /\ dW C hs K ns dst ⟨⟩ e R acc (.sl (ct sz len ds))
  | _=>False):=_root_.id rfl
@[simp] theorem PS {x v1} : opW C hs K ns dst (.cvS x) v1 e R acc=(match (generalizing:=false) vd (ae e) x with
  | .sl es=>0 < es.length /\ (∀ r ∈ es,∃ n : Nat,r=[.int .u8 n] /\ n < 256) /\ dW C hs K ns dst ⟨⟩ e R acc (.str (es.map gI))
  | _=>False):=_root_.id rfl
@[simp] theorem Lk {x i v1} : opW C hs K ns dst (.idxS x i) v1 e R acc=(match (generalizing:=false) vd (ae e) x,vd (ae e) i with
  | .str s,.int _ j=>0 <= j /\ Cg C hs K ns dst ⟨⟩ e R acc s j.toNat
  | _,_=>False):=_root_.id rfl
@[simp] theorem PT {i x v1} : opW C hs K ns dst (.ext i x) v1 e R acc=(match (generalizing:=false) vd (ae e) x with
  | .tup ds=>∃ d,ds[i]? = some d /\ dW C hs K ns dst ⟨⟩ e R acc d
  | .tpx ds=>∃ d,ds[i]? = some d /\ dW C hs K ns dst ⟨⟩ e R acc d
  | _=>False):=_root_.id rfl
@[simp] theorem PU {off x v1} : opW C hs K ns dst (.fad off x) v1 e R acc=(match (generalizing:=false) vd (ae e) x with
  | .adr p i o=>dW C hs K ns dst ⟨⟩ e R acc (.adr p i (o + off))
  | .ptr ds=>dW C hs K ns dst ⟨⟩ e R acc (.ptr (ds.drop off))
  | .ptx ds=>dW C hs K ns dst ⟨⟩ e R acc (.ptx (ds.drop off))
  | _=>False):=_root_.id rfl
@[simp] theorem Lh {len sz x i v1} : opW C hs K ns dst (.iadA len sz x i) v1 e R acc=(match (generalizing:=false) vd (ae e) x,vd (ae e) i with
  | .adr p r o,.int _ j=>0 <= j /\ j < len /\ dW C hs K ns dst ⟨⟩ e R acc (.adr p r (o + j.toNat * sz))
  | .ptr ds,.int _ j=>0 <= j /\ j < len /\ dW C hs K ns dst ⟨⟩ e R acc (.ptr (ds.drop (j.toNat * sz)))
  | _,_=>False):=_root_.id rfl
@[simp] theorem Rz {n ag x v1} : opW C hs K ns dst (.ld n ag x) v1 e R acc=(match (generalizing:=false) vd (ae e) x with
  | .adr p i off=>match (generalizing:=false) aX (ae e) p with
   | some (_,es)=>lV C hs K ns dst ⟨⟩ e R acc n ag p es i off
   | none=>False
  | .ptr ds=>n <= ds.length /\ dW C hs K ns dst ⟨⟩ e R acc (mA ag n ds)
  | .ptx ds=>n <= ds.length /\ match (generalizing:=false) ag with
   | true=>((ds.take n).all isV=true -> dW C hs K ns dst ⟨⟩ e R acc (.agg (ds.take n))) /\ ((ds.take n).all isV=false -> dW C hs K ns dst ⟨⟩ e R acc (.agx (ds.take n)))
   | false=>0 < n /\ dW C hs K ns dst ⟨⟩ e R acc (ds.headD .any)
  | _=>False):=_root_.id rfl
@[simp] theorem PN {zs parts v1} : opW C hs K ns dst (.bld zs parts) v1 e R acc=((∀ p ∈ parts,isS (vd (ae e) p.2.2)=true /\ p.1 + p.2.1 <= zs.length /\ match (generalizing:=false) vd (ae e) p.2.2 with
    | .agg ds=>ds.length=p.2.1
    | .agx ds=>ds.length=p.2.1
    | .any=>False
    | .tpx _=>False
    | .ptx _=>False
    | .rfx _ _ _=>False
    | .fnx _ _=>False
    | _=>p.2.1=1) /\
   ((parts.all fun p=>isV (vd (ae e) p.2.2))=true -> dW C hs K ns dst ⟨⟩ e R acc (.agg (iZ zs (parts.map fun p=>(p.1,p.2.1,vd (ae e) p.2.2))))) /\
   ((parts.all fun p=>isV (vd (ae e) p.2.2))=false -> dW C hs K ns dst ⟨⟩ e R acc (.agx (iZ zs (parts.map fun p=>(p.1,p.2.1,cm (vd (ae e) p.2.2))))))):=_root_.id rfl
@[simp] theorem Ll {x v1} : opW C hs K ns dst (.lens x) v1 e R acc=(match (generalizing:=false) vd (ae e) x with
  | .str s=>dW C hs K ns dst ⟨⟩ e R acc (.int .i64 s.length)
  | _=>False):=_root_.id rfl
@[simp] theorem RA {g xs v1} : opW C hs K ns dst (.mk g xs) v1 e R acc=((∀ x ∈ xs,isP (vd (ae e) x)=true) /\ ((xs.all fun x=>isV (vd (ae e) x))=true -> dW C hs K ns dst ⟨⟩ e R acc (.fn g (xs.map (vd (ae e))))) /\ ((xs.all fun x=>isV (vd (ae e) x))=false -> dW C hs K ns dst ⟨⟩ e R acc (.fnx g (xs.map (vd (ae e)))))):=_root_.id rfl
@[simp] theorem Qa {x lo hi v1} : opW C hs K ns dst (.slS x lo hi) v1 e R acc=(match (generalizing:=false) vd (ae e) x with
  | .str s=>dQ (ae e) hi s.length (fun h=>dQ (ae e) lo 0 (fun l=>l <= h /\ h <= s.length /\ dW C hs K ns dst ⟨⟩ e R acc (.str ((s.take h).drop l))) ⟨⟩) ⟨⟩
  | _=>False):=_root_.id rfl
@[simp] theorem RB {x y v1} : opW C hs K ns dst (.mn x y) v1 e R acc=(match (generalizing:=false) vd (ae e) x,vd (ae e) y with
  | .int k a,.int k' b=>k=k' /\ dW C hs K ns dst ⟨⟩ e R acc (.int k (if b < a then b else a))
  | _,_=>False):=_root_.id rfl
@[simp] theorem RC {x y v1} : opW C hs K ns dst (.mx x y) v1 e R acc=(match (generalizing:=false) vd (ae e) x,vd (ae e) y with
  | .int k a,.int k' b=>k=k' /\ dW C hs K ns dst ⟨⟩ e R acc (.int k (if a < b then b else a))
  | _,_=>False):=_root_.id rfl
@[simp] theorem GB {x y c v1} : opW C hs K ns dst (.add64 x y c) v1 e R acc=(match (generalizing:=false) vd (ae e) x,vd (ae e) y,vd (ae e) c with
  | .int .u64 a,.int .u64 b,.int .u64 k=>0 <= a /\ a < 18446744073709551616 /\ 0 <= b /\ b < 18446744073709551616 /\ 0 <= k /\ k <= 1 /\
    dW C hs K ns dst ⟨⟩ e R acc (.tup [.int .u64 ((a + b + k) % 18446744073709551616),.int .u64 ((a + b + k) / 18446744073709551616)])
  | _,_,_=>False):=_root_.id rfl
@[simp] theorem GK {x y c v1} : opW C hs K ns dst (.sub64 x y c) v1 e R acc=(match (generalizing:=false) vd (ae e) x,vd (ae e) y,vd (ae e) c with
  | .int .u64 a,.int .u64 b,.int .u64 k=>0 <= a /\ a < 18446744073709551616 /\ 0 <= b /\ b < 18446744073709551616 /\ 0 <= k /\ k <= 1 /\
    dW C hs K ns dst ⟨⟩ e R acc (.tup [.int .u64 ((a - b - k) % 18446744073709551616),.int .u64 (if a < b + k then 1 else 0)])
  | _,_,_=>False):=_root_.id rfl
@[simp] theorem Lm {sz v1} : opW C hs K ns dst (.nilo sz) v1 e R acc=(match (generalizing:=false) dst with
  | some t=>0 < sz /\ doW C hs K ns ⟨⟩ e R acc [(t,.ref (.r (rt t 0)) 0 0),(rt t 0,.blk sz [])] [(rt t 0,true)]
  | none=>False):=_root_.id rfl
@[simp] theorem PP {x t v1} : opW C hs K ns (some t) (.box [] x) v1 e R acc=gR (ae e) (vd (ae e) x) [] (fun cs bs=>bs.contains (rt t 0)=false /\ doW C hs K ns ⟨⟩ e R acc ((t,.adr (.r (rt t 0)) 0 0)::(rt t 0,.blk cs.length [cs])::cP bs) [(rt t 0,true)]) ⟨⟩:=_root_.id rfl
@[simp] theorem PI {zs v1} : opW C hs K ns dst (.alc zs) v1 e R acc=(match (generalizing:=false) dst with
  | some t=>doW C hs K ns ⟨⟩ e R acc [(t,.adr (.r (rt t 0)) 0 0),(rt t 0,.blk zs.length [zs])] [(rt t 0,true)]
  | none=>False):=_root_.id rfl
@[simp] theorem PO {sz len zs parts t v1} : opW C hs K ns (some t) (.bls sz len zs [] parts) v1 e R acc=pu (ae e) sz parts (List.replicate len zs) [] (fun es bs=>bO bs=true /\ bs.contains (rt t 0)=false /\ doW C hs K ns ⟨⟩ e R acc ((t,.ref (.r (rt t 0)) 0 len)::(rt t 0,.blk sz es)::cP bs) [(rt t 0,true)]) ⟨⟩:=_root_.id rfl
@[simp] theorem P2 {sz by_ zs n c v1} : opW C hs K ns dst (.mks sz by_ zs n c) v1 e R acc=(match (generalizing:=false) dst with
  | some t=>match (generalizing:=false) vd (ae e) n,vd (ae e) c with
   | .int _ n,.int _ c=>0 <= n /\ n <= c /\ c * by_ <= 140737488355328 /\ doW C hs K ns ⟨⟩ e R acc [(t,.ref (.r (rt t 0)) 0 n.toNat),(rt t 0,.blk sz (List.replicate c.toNat zs))] [(rt t 0,true)]
   | _,_=>False
  | none=>False):=_root_.id rfl
def stM (C : CC) (hs : Option (List Nat)) (K : Env -> Prop) (ns : List av) (_ : Tag (hs,K,ns)) (e : Env) (R : List Nat) (acc : List (List Nat × List Nat)) (n : Nat) (v : D) (cs : List D) (bs : List Nat) (a : D) : Prop:=match a with
 | .adr (.r b) i off=>bs.contains b=false /\ eN (ae e b) (fun sz es=>gP es[i]? (fun r=>off + n <= r.length /\ doW C hs K ns ⟨⟩ e R acc ((b,.blk sz (bD es i off n cs))::cP bs) (stK v [] b)) ⟨⟩) ⟨⟩
 | .adr (.n b i0 o0) i off=>bs=[] /\ (∀ c ∈ cs,aA c=true) /\ eN (ae e b) (fun sz0 es0=>gP es0[i0]? (fun row0=>j7 row0[o0]? (fun sz es=>gP es[i]? (fun r=>off + n <= r.length /\ doW C hs K ns ⟨⟩ e R acc [(b,.blk sz0 (bD es0 i0 o0 1 [.own sz (bD es i off n cs)]))] []) ⟨⟩) ⟨⟩) ⟨⟩) ⟨⟩
 | _=>False
@[simp] theorem R3 {n v cs bs b i off} : stM C hs K ns u e R acc n v cs bs (.adr (.r b) i off)=(bs.contains b=false /\ eN (ae e b) (fun sz es=>gP es[i]? (fun r=>off + n <= r.length /\ doW C hs K ns ⟨⟩ e R acc ((b,.blk sz (bD es i off n cs))::cP bs) (stK v [] b)) ⟨⟩) ⟨⟩):=_root_.id rfl
@[simp] theorem R2 {n v cs bs b i0 o0 i off} : stM C hs K ns u e R acc n v cs bs (.adr (.n b i0 o0) i off)=(bs=[] /\ (∀ c ∈ cs,aA c=true) /\ eN (ae e b) (fun sz0 es0=>gP es0[i0]? (fun row0=>j7 row0[o0]? (fun sz es=>gP es[i]? (fun r=>off + n <= r.length /\ doW C hs K ns ⟨⟩ e R acc [(b,.blk sz0 (bD es0 i0 o0 1 [.own sz (bD es i off n cs)]))] []) ⟨⟩) ⟨⟩) ⟨⟩) ⟨⟩):=_root_.id rfl
@[simp] theorem RD {n a v v1} : opW C hs K ns dst (.st n [] a v) v1 e R acc=(dst=none /\ gR (ae e) (vd (ae e) v) [] (fun cs bs=>cs.length=n /\ stM C hs K ns ⟨⟩ e R acc n (vd (ae e) v) cs bs (vd (ae e) a)) ⟨⟩):=by
 show (dst=none /\ fW (ae e) (vd (ae e) v) [] _)=(dst=none /\ fW (ae e) (vd (ae e) v) [] _)
 congr 1
 congr 1
 funext cs bs
 cases vd (ae e) a <;> try rfl
 rename_i p i off
 cases p with
 | r b =>
  simp only [stM,eN,fO]
  cases ae e b <;> rfl
 | n b i0 o0 =>
  simp only [stM,eN,fO,jx]
  cases ae e b <;> rfl
def tN (C : CC) (hs : Option (List Nat)) (K : Env -> Prop) (ns : List av) (_ : Tag (hs,K,ns)) (e : Env) (R : List Nat) (acc : List (List Nat × List Nat)) (t sz by_ : Nat) (rowsY : List (List D)) (bs : List Nat) (x : D) : Prop:=match x with
 | .nils=>rowsY.length * by_ <= 140737488355328 /\ doW C hs K ns ⟨⟩ e R acc ((t,.ref (.r (rt t 0)) 0 rowsY.length)::(rt t 0,.blk sz rowsY)::cP bs) [(rt t 0,true)]
 | .ref (.r c) k n=>c ≠ rt t 0 /\ bs.contains c=false /\ eN (ae e c) (fun sz' es=>sz'=sz /\ k + n <= es.length /\ (n + rowsY.length) * by_ <= 140737488355328 /\
      doW C hs K ns ⟨⟩ e R acc ((t,.ref (.r (rt t 0)) 0 (n + rowsY.length))::(rt t 0,.blk sz ((es.drop k).take n++rowsY))::(c,.any)::cP bs) [(rt t 0,true)]) ⟨⟩
 | .ref (.n c i o) k n=>c ≠ rt t 0 /\ bs.contains c=false /\ eN (ae e c) (fun sz0 es0=>gP es0[i]? (fun row0=>j7 row0[o]? (fun sz' es=>sz'=sz /\ k + n <= es.length /\ (n + rowsY.length) * by_ <= 140737488355328 /\
      doW C hs K ns ⟨⟩ e R acc ((t,.ref (.r (rt t 0)) 0 (n + rowsY.length))::(rt t 0,.blk sz ((es.drop k).take n++rowsY))::(c,.blk sz0 (bD es0 i o 1 [.any]))::cP bs) [(rt t 0,true)]) ⟨⟩) ⟨⟩) ⟨⟩
 | _=>False
@[simp] theorem Ey {t sz by_ rowsY bs} : tN C hs K ns u e R acc t sz by_ rowsY bs .nils=(rowsY.length * by_ <= 140737488355328 /\ doW C hs K ns ⟨⟩ e R acc ((t,.ref (.r (rt t 0)) 0 rowsY.length)::(rt t 0,.blk sz rowsY)::cP bs) [(rt t 0,true)]):=_root_.id rfl
@[simp] theorem Qo {t sz by_ rowsY bs c k n} : tN C hs K ns u e R acc t sz by_ rowsY bs (.ref (.r c) k n)=(c ≠ rt t 0 /\ bs.contains c=false /\ eN (ae e c) (fun sz' es=>sz'=sz /\ k + n <= es.length /\ (n + rowsY.length) * by_ <= 140737488355328 /\
      doW C hs K ns ⟨⟩ e R acc ((t,.ref (.r (rt t 0)) 0 (n + rowsY.length))::(rt t 0,.blk sz ((es.drop k).take n++rowsY))::(c,.any)::cP bs) [(rt t 0,true)]) ⟨⟩):=_root_.id rfl
@[simp] theorem Qn {t sz by_ rowsY bs c i o k n} : tN C hs K ns u e R acc t sz by_ rowsY bs (.ref (.n c i o) k n)=(c ≠ rt t 0 /\ bs.contains c=false /\ eN (ae e c) (fun sz0 es0=>gP es0[i]? (fun row0=>j7 row0[o]? (fun sz' es=>sz'=sz /\ k + n <= es.length /\ (n + rowsY.length) * by_ <= 140737488355328 /\
      doW C hs K ns ⟨⟩ e R acc ((t,.ref (.r (rt t 0)) 0 (n + rowsY.length))::(rt t 0,.blk sz ((es.drop k).take n++rowsY))::(c,.blk sz0 (bD es0 i o 1 [.any]))::cP bs) [(rt t 0,true)]) ⟨⟩) ⟨⟩) ⟨⟩):=_root_.id rfl
@[simp] theorem PJ {sz by_ mv x y t v1} : opW C hs K ns (some t) (.app sz by_ mv x y) v1 e R acc=jd (ae e) mv (vd (ae e) y) sz (fun rowsY bs=>bs.contains (rt t 0)=false /\ tN C hs K ns ⟨⟩ e R acc t sz by_ rowsY bs (vd (ae e) x)) ⟨⟩:=by
 unfold opW jd
 simp only [aC]
 congr 1
 funext rowsY bs
 congr 1
 cases vd (ae e) x <;> try rfl
 rename_i p k n
 cases p with
 | r c =>
  simp only [tN,eN]
  cases ae e c <;> rfl
 | n c i o =>
  simp only [tN,eN,fO,jx]
  cases hl : ae e c <;> try rfl
  rename_i sz0 es0
  refine congrArg _ (congrArg _ (propext ⟨?_,?_⟩))
  ·rintro ⟨row0,h1,es,h2,h3⟩
   exact ⟨row0,h1,sz,es,h2,rfl,h3⟩
  ·rintro ⟨row0,h1,sz',es,h2,rfl,h3⟩
   exact ⟨row0,h1,es,h2,h3⟩
@[simp] theorem LT {g b n xs sz es} : DW C g hs K ns dst u e R acc b n xs (.blk sz es)=(es.length=n /\ (∀ e ∈ es,∀ c ∈ e,aA c=true) /\ (∀ x ∈ xs,bG (fbE (ae e) b) (vd (fbE (ae e) b) x)) /\ rF C g hs K ns dst ⟨⟩ e R acc b sz es (xs.map (dpv (fbE (ae e) b))) (xs.all fun y=>isV (vd (fbE (ae e) b) y))):=_root_.id rfl
@[simp] theorem LV {g xs b k n} : LU C g hs K ns dst u e R acc xs (.ref (.r b) k n)=(k=0 /\ DW C g hs K ns dst ⟨⟩ e R acc b n xs (ae e b)):=_root_.id rfl
@[simp] theorem GI {g x xs v1} : opW C hs K ns dst (.callS g x xs) v1 e R acc=(LU C g hs K ns dst ⟨⟩ e R acc xs (vd (ae e) x)):=by
 cases dst <;> rfl
def yt (n : Nat) (d : D) : Prop:=match d with
 | .blk _ es=>es.length=n /\ ∀ e ∈ es,∀ c ∈ e,bE c=true
 | _=>False
def pQ (f : Nat -> D) (b : Nat) (d : D) : Prop:=match d with
 | .ref (.r c) k n=>k=0 /\ c ≠ b /\ yt n (f c)
 | d=>isV d=true
def zQ (d : D) : D:=match d with
 | .blk sz es=>.own sz es
 | _=>.any
def sL (f : Nat -> D) (d : D) : D:=match d with
 | .ref (.r c) _ _=>zQ (f c)
 | d=>d
@[simp] theorem Hi {n sz es} : yt n (.blk sz es)=(es.length=n /\ ∀ e ∈ es,∀ c ∈ e,bE c=true):=_root_.id rfl
@[simp] theorem Lr {sz es} : zQ (.blk sz es)=.own sz es:=_root_.id rfl
@[simp] theorem Mc {f : Nat -> D} {b : Nat} {x : Opd} : my f b x=pQ f b (vd f x):=by
 unfold my pQ yt
 cases vd f x <;> rfl
@[simp] theorem Md {f : Nat -> D} {x : Opd} : lB f x=sL f (vd f x):=by
 unfold lB sL zQ
 cases vd f x <;> rfl
@[simp] theorem EA {f : Nat -> D} {b c k n} : pQ f b (.ref (.r c) k n)=(k=0 /\ c ≠ b /\ yt n (f c)):=_root_.id rfl
@[simp] theorem EC {f : Nat -> D} {c k n} : sL f (.ref (.r c) k n)=zQ (f c):=_root_.id rfl
@[simp] theorem Ez {f : Nat -> D} {b k n} : pQ f b (.int k n)=True:=by simp [pQ,isV]
@[simp] theorem EB {f : Nat -> D} {k n} : sL f (.int k n)=.int k n:=_root_.id rfl
def vR (C : CC) (g : Nat) (hs : Option (List Nat)) (K : Env -> Prop) (ns : List av) (t : Nat) (_ : Tag (hs,K,ns)) (e : Env) (R : List Nat) (acc : List (List Nat × List Nat)) (sz : Nat) (W : List (List D)) (ds : List D) (q : Nat × D) : Prop :=
 ∃ es' : List (List D),(∀ e ∈ es',e.length=sz /\ ∀ c ∈ e,bE c=true) /\ C g (.own sz W::ds) .any [.own sz es',.nils,.nils] /\ doW C hs K ns ⟨⟩ e R acc [(t,.ref (.r (rt t 0)) 0 es'.length),(rt t 0,.blk sz es'),q] [(rt t 0,true)]
theorem yI {g : Nat} {hs : Option (List Nat)} {K : Env -> Prop} {ns : List av} {t : Nat} {u : Tag (hs,K,ns)} {e : Env} {R : List Nat} {acc : List (List Nat × List Nat)} {sz : Nat} {W es' : List (List D)} {ds : List D} {q : Nat × D} (h : C g (.own sz W::ds) .any [.own sz es',.nils,.nils]) (hu : ∀ e ∈ es',e.length=sz /\ ∀ c ∈ e,bE c=true)
  (hk : doW C hs K ns ⟨⟩ e R acc [(t,.ref (.r (rt t 0)) 0 es'.length),(rt t 0,.blk sz es'),q] [(rt t 0,true)]) : vR C g hs K ns t u e R acc sz W ds q:=⟨es',hu,h,hk⟩
def vQ (C : CC) (g : Nat) (hs : Option (List Nat)) (K : Env -> Prop) (ns : List av) (t : Nat) (_ : Tag (hs,K,ns)) (e : Env) (R : List Nat) (acc : List (List Nat × List Nat)) (xs : List Opd) (d : D) : Prop:=match d with
 | .ref (.r b) k n=>eN (ae e b) (fun sz es=>k + n <= es.length /\ b ≠ rt t 0 /\ 0 < sz /\ (∀ e ∈ (es.drop k).take n,∀ c ∈ e,bE c=true) /\ (∀ x ∈ xs,my (ae e) b x) /\ vR C g hs K ns t ⟨⟩ e R acc sz ((es.drop k).take n) (xs.map (lB (ae e))) (b,.any)) ⟨⟩
 | .ref (.n b i o) k n=>eN (ae e b) (fun sz0 es0=>gP es0[i]? (fun row0=>j7 row0[o]? (fun sz es=>k + n <= es.length /\ b ≠ rt t 0 /\ 0 < sz /\ (∀ e ∈ (es.drop k).take n,∀ c ∈ e,bE c=true) /\ (∀ x ∈ xs,my (ae e) b x) /\
   vR C g hs K ns t ⟨⟩ e R acc sz ((es.drop k).take n) (xs.map (lB (ae e))) (b,.blk sz0 (bD es0 i o 1 [.any]))) ⟨⟩) ⟨⟩) ⟨⟩
 | _=>False
@[simp] theorem QP {g xs t b k n} : vQ C g hs K ns t u e R acc xs (.ref (.r b) k n)=eN (ae e b) (fun sz es=>k + n <= es.length /\ b ≠ rt t 0 /\ 0 < sz /\ (∀ e ∈ (es.drop k).take n,∀ c ∈ e,bE c=true) /\ (∀ x ∈ xs,my (ae e) b x) /\ vR C g hs K ns t ⟨⟩ e R acc sz ((es.drop k).take n) (xs.map (lB (ae e))) (b,.any)) ⟨⟩:=_root_.id rfl
@[simp] theorem QO {g xs t b i o k n} : vQ C g hs K ns t u e R acc xs (.ref (.n b i o) k n)=eN (ae e b) (fun sz0 es0=>gP es0[i]? (fun row0=>j7 row0[o]? (fun sz es=>k + n <= es.length /\ b ≠ rt t 0 /\ 0 < sz /\ (∀ e ∈ (es.drop k).take n,∀ c ∈ e,bE c=true) /\ (∀ x ∈ xs,my (ae e) b x) /\
   vR C g hs K ns t ⟨⟩ e R acc sz ((es.drop k).take n) (xs.map (lB (ae e))) (b,.blk sz0 (bD es0 i o 1 [.any]))) ⟨⟩) ⟨⟩) ⟨⟩:=_root_.id rfl
@[simp] theorem GD {g x xs t v1} : opW C hs K ns (some t) (.callE g x xs) v1 e R acc=vQ C g hs K ns t ⟨⟩ e R acc xs (vd (ae e) x):=by
 unfold opW
 simp only [aC]
 cases vd (ae e) x <;> try rfl
 rename_i p k n
 cases p with
 | r b =>
  simp only [vQ,eN,aX,Pa.root,dD]
  cases ae e b <;> rfl
 | n b i o =>
  simp only [vQ,eN,fO,jx,aX,Pa.root,dD]
  cases hl : ae e b <;> try rfl
  rename_i sz0 es0
  simp only
  cases hi : es0[i]? with
  | none=>simp
  | some row0 =>
   simp only [Option.getD_some,Option.some.injEq,exists_eq_left']
   cases ho : row0[o]? with
   | none=>simp
   | some d =>
    cases d
    case own sz es=>exact propext ⟨fun h=>⟨sz,es,rfl,h⟩,fun ⟨sz',es',h0,h⟩=>by cases h0;exact h⟩
    all_goals simp
@[simp] theorem Fx {f : Nat -> D} {b k n sz es} : cp f (.ref (.r b) k n) (.own sz es)=(k=0 /\ n=es.length /\ f b=.blk sz es):=_root_.id rfl
@[simp] theorem Fv {f : Nat -> D} {b k n sz es} : cp f (.adr (.r b) k n) (.blk sz es)=(k=0 /\ n=0 /\ f b=.blk sz es):=_root_.id rfl
@[simp] theorem Fw {f : Nat -> D} {k n r} : cp f (.int k n) r=(r=.int k n):=by simp [cp]
@[simp] theorem CP {f : Nat -> D} {n r} : cp f (.bool n) r=(r=.bool n):=by simp [cp]
@[simp] theorem Fy {f : Nat -> D} {n r} : cp f (.str n) r=(r=.str n):=by simp [cp]
@[simp] theorem CR {f : Nat -> D} {r} : cp f .nils r=(r=.nils):=by simp [cp]
@[simp] theorem CQ {f : Nat -> D} {r} : cp f .nilp r=(r=.nilp):=by simp [cp]
@[simp] theorem IA {f : Nat -> D} {n r} : cp f (.sl n) r=(r=.sl n):=by simp [cp]
@[simp] theorem Fu {f : Nat -> D} {n r} : cp f (.agg n) r=(r=.agg n):=by simp [cp]
@[simp] theorem GX {t d} : lj (some t) d=[(t,d)]:=_root_.id rfl
@[simp] theorem GW {d} : lj none d=[]:=_root_.id rfl
@[simp] theorem D3 {t} : dN (some t)=[(t,.tup [])]:=_root_.id rfl
@[simp] theorem D2 : dN none=[]:=_root_.id rfl
def KD (C : CC) (g : Nat) (hs : Option (List Nat)) (K : Env -> Prop) (ns : List av) (dst : Option Nat) (_ : Tag (hs,K,ns)) (e : Env) (R : List Nat) (acc : List (List Nat × List Nat)) (b sz : Nat) (es : List (List D)) (ds : List D) : Prop :=
 ∃ d,∃ es' : List (List D),0 < es'.length /\ C g (.blk sz es::ds) d [.blk sz es'] /\ doW C hs K ns ⟨⟩ e R acc (lj dst d++[(b,.blk sz es')]) [(b,false)]
def KC (C : CC) (g : Nat) (hs : Option (List Nat)) (K : Env -> Prop) (ns : List av) (dst : Option Nat) (_ : Tag (hs,K,ns)) (e : Env) (R : List Nat) (acc : List (List Nat × List Nat)) (xs : List Opd) (d : D) : Prop:=match d with
 | .adr (.r b) i off=>i=0 /\ off=0 /\ eN (ae e b) (fun sz es=>0 < es.length /\ (∀ x ∈ xs,isV (vd (ae e) x)=true) /\ KD C g hs K ns dst ⟨⟩ e R acc b sz es (xs.map (vd (ae e)))) ⟨⟩
 | _=>False
@[simp] theorem Ru {g xs b i off} : KC C g hs K ns dst u e R acc xs (.adr (.r b) i off)=(i=0 /\ off=0 /\ eN (ae e b) (fun sz es=>0 < es.length /\ (∀ x ∈ xs,isV (vd (ae e) x)=true) /\ KD C g hs K ns dst ⟨⟩ e R acc b sz es (xs.map (vd (ae e)))) ⟨⟩):=_root_.id rfl
@[simp] theorem GG {g x xs v1} : opW C hs K ns dst (.callL g x xs) v1 e R acc=KC C g hs K ns dst ⟨⟩ e R acc xs (vd (ae e) x):=by
 unfold opW
 simp only [aC]
 cases vd (ae e) x <;> first | rfl | skip
def tS (C : CC) (hs : Option (List Nat)) (K : Env -> Prop) (ns : List av) (dst : Option Nat) (_ : Tag (hs,K,ns)) (e : Env) (R : List Nat) (acc : List (List Nat × List Nat)) (zs : List D) (d : D) : Prop:=match d with
 | .nils=>doW C hs K ns ⟨⟩ e R acc (dN dst) []
 | .ref (.r b) k n=>eN (ae e b) (fun sz es=>k + n <= es.length /\ zs.length=sz /\ (∀ e ∈ es,∀ c ∈ e,aA c=true) /\ (∀ c ∈ zs,aA c=true) /\ doW C hs K ns ⟨⟩ e R acc (dN dst++[(b,.blk sz (dO es k n zs))]) []) ⟨⟩
 | .ref (.n b i o) k n=>eN (ae e b) (fun sz0 es0=>gP es0[i]? (fun row0=>j7 row0[o]? (fun sz es=>k + n <= es.length /\ zs.length=sz /\ (∀ c ∈ zs,aA c=true) /\ doW C hs K ns ⟨⟩ e R acc (dN dst++[(b,.blk sz0 (bD es0 i o 1 [.own sz (dO es k n zs)]))]) []) ⟨⟩) ⟨⟩) ⟨⟩
 | _=>False
@[simp] theorem Qs {zs b k n} : tS C hs K ns dst u e R acc zs (.ref (.r b) k n)=eN (ae e b) (fun sz es=>k + n <= es.length /\ zs.length=sz /\ (∀ e ∈ es,∀ c ∈ e,aA c=true) /\ (∀ c ∈ zs,aA c=true) /\ doW C hs K ns ⟨⟩ e R acc (dN dst++[(b,.blk sz (dO es k n zs))]) []) ⟨⟩:=_root_.id rfl
@[simp] theorem Qr {zs b i o k n} : tS C hs K ns dst u e R acc zs (.ref (.n b i o) k n)=eN (ae e b) (fun sz0 es0=>gP es0[i]? (fun row0=>j7 row0[o]? (fun sz es=>k + n <= es.length /\ zs.length=sz /\ (∀ c ∈ zs,aA c=true) /\ doW C hs K ns ⟨⟩ e R acc (dN dst++[(b,.blk sz0 (bD es0 i o 1 [.own sz (dO es k n zs)]))]) []) ⟨⟩) ⟨⟩) ⟨⟩:=_root_.id rfl
@[simp] theorem E1 {zs} : tS C hs K ns dst u e R acc zs .nils=doW C hs K ns ⟨⟩ e R acc (dN dst) []:=_root_.id rfl
@[simp] theorem PQ {zs x v1} : opW C hs K ns dst (.clr zs x) v1 e R acc=tS C hs K ns dst ⟨⟩ e R acc zs (vd (ae e) x):=by
 unfold opW
 simp only [aC]
 cases vd (ae e) x <;> try rfl
 rename_i p k n
 cases p with
 | r b =>
  simp only [tS,eN]
  cases ae e b <;> rfl
 | n b i o =>
  simp only [tS,eN,fO,jx]
  cases ae e b <;> rfl
def AX (C : CC) (g : Nat) (hs : Option (List Nat)) (K : Env -> Prop) (ns : List av) (dst : Option Nat) (_ : Tag (hs,K,ns)) (e : Env) (R : List Nat) (acc : List (List Nat × List Nat)) (b i o sz0 sz : Nat) (es0 es : List (List D)) (ds : List D) : Prop :=
 ∃ es' : List (List D),es'.length=es.length /\ (∀ e ∈ es',e.length=sz /\ ∀ c ∈ e,aA c=true) /\ C g (.own sz es::ds) .any [.own sz es',.nilp] /\ doW C hs K ns ⟨⟩ e R acc (dN dst++[(b,.blk sz0 (bD es0 i o 1 [.own sz es']))]) []
def Cv (C : CC) (g : Nat) (hs : Option (List Nat)) (K : Env -> Prop) (ns : List av) (dst : Option Nat) (_ : Tag (hs,K,ns)) (e : Env) (R : List Nat) (acc : List (List Nat × List Nat)) (xs : List Opd) (d : D) : Prop:=match d with
 | .ref (.n b i o) k n=>k=0 /\ eN (ae e b) (fun sz0 es0=>gP es0[i]? (fun row0=>j7 row0[o]? (fun sz es=>es.length=n /\ (∀ x ∈ xs,isV (vd (ae e) x)=true) /\ AX C g hs K ns dst ⟨⟩ e R acc b i o sz0 sz es0 es (xs.map (vd (ae e)))) ⟨⟩) ⟨⟩) ⟨⟩
 | _=>False
@[simp] theorem Qq {g xs b i o k n} : Cv C g hs K ns dst u e R acc xs (.ref (.n b i o) k n)=(k=0 /\ eN (ae e b) (fun sz0 es0=>gP es0[i]? (fun row0=>j7 row0[o]? (fun sz es=>es.length=n /\ (∀ x ∈ xs,isV (vd (ae e) x)=true) /\ AX C g hs K ns dst ⟨⟩ e R acc b i o sz0 sz es0 es (xs.map (vd (ae e)))) ⟨⟩) ⟨⟩) ⟨⟩):=_root_.id rfl
@[simp] theorem GH {g x xs v1} : opW C hs K ns dst (.callN g x xs) v1 e R acc=Cv C g hs K ns dst ⟨⟩ e R acc xs (vd (ae e) x):=by
 unfold opW
 simp only [aC]
 cases vd (ae e) x <;> try rfl
 rename_i p k n
 cases p with
 | r b=>rfl
 | n b i o =>
  simp only [Cv,eN,fO,jx]
  cases ae e b <;> rfl
@[simp] theorem GF {g xs v1} : opW C hs K ns dst (.callG g xs) v1 e R acc=((∀ x ∈ xs,bG (ae e) (vd (ae e) x)) /\ Cj C g hs K ns dst ⟨⟩ e R acc (xs.map (dpv (ae e)))):=_root_.id rfl
@[simp] theorem GC {g xs t v1} : opW C hs K ns (some t) (.callA g xs) v1 e R acc=((∀ x ∈ xs,isV (vd (ae e) x)=true) /\ rD C g hs K ns t ⟨⟩ e R acc (xs.map (vd (ae e)))):=_root_.id rfl
@[simp] theorem GE {g xs t v1} : opW C hs K ns (some t) (.callF g xs) v1 e R acc=((∀ x ∈ xs,bG (ae e) (vd (ae e) x)) /\ Ci C g hs K ns t ⟨⟩ e R acc (xs.map (dpv (ae e)))):=_root_.id rfl
@[simp] theorem Lf {g xs x0 v1} : opW C hs K ns dst (.call g xs x0) v1 e R acc=((∀ x ∈ xs,bG (ae e) (vd (ae e) x)) /\ pS C g hs K ns dst ⟨⟩ e R acc (xs.all fun x=>isV (vd (ae e) x)) (xs.map (dpv (ae e)))):=_root_.id rfl
def lC (C : CC) (hs : Option (List Nat)) (K : Env -> Prop) (ns : List av) (t : Nat) (_ : Tag (hs,K,ns)) (e : Env) (R : List Nat) (acc : List (List Nat × List Nat)) (d : D) : Prop:=match d with
 | .ref (.r c) k n=>if c=rt t 0 then doW C hs K ns ⟨⟩ e R acc [(t,.ref (.r c) k n)] [] else match ae e c with
  | .blk sz es=>doW C hs K ns ⟨⟩ e R acc [(t,.ref (.r (rt t 0)) k n),(rt t 0,.blk sz es),(c,.any)] [(rt t 0,true)]
  | _=>False
 | d=>isS d=true /\ doW C hs K ns ⟨⟩ e R acc [(t,d)] []
@[simp] theorem PK {t x v1} : opW C hs K ns (some t) (.asg x) v1 e R acc=lC C hs K ns t ⟨⟩ e R acc (vd (ae e) x):=_root_.id rfl
@[simp] theorem Hk {t c k n} : lC C hs K ns t u e R acc (.ref (.r c) k n)=(if c=rt t 0 then doW C hs K ns ⟨⟩ e R acc [(t,.ref (.r c) k n)] [] else match ae e c with
  | .blk sz es=>doW C hs K ns ⟨⟩ e R acc [(t,.ref (.r (rt t 0)) k n),(rt t 0,.blk sz es),(c,.any)] [(rt t 0,true)]
  | _=>False):=_root_.id rfl
@[simp] theorem EE {t b i o k n} : lC C hs K ns t u e R acc (.ref (.n b i o) k n)=doW C hs K ns ⟨⟩ e R acc [(t,.ref (.n b i o) k n)] []:=by simp [lC]
@[simp] theorem ED {t} : lC C hs K ns t u e R acc .nils=doW C hs K ns ⟨⟩ e R acc [(t,.nils)] []:=by simp [lC]
@[simp] theorem Me {t es} : lC C hs K ns t u e R acc (.sl es)=doW C hs K ns ⟨⟩ e R acc [(t,.sl es)] []:=by simp [lC]
@[simp] theorem Hl {t b es} : lC C hs K ns t u e R acc (slx b es)=doW C hs K ns ⟨⟩ e R acc [(t,slx b es)] []:=by
 rcases ig b es with h | ⟨h,_⟩ <;> rw [h] <;> simp
@[simp] theorem Hj {t} : lC C hs K ns t u e R acc .any=doW C hs K ns ⟨⟩ e R acc [(t,.any)] []:=by simp [lC]
@[simp] theorem Hm {t ds} : lC C hs K ns t u e R acc (.tup ds)=doW C hs K ns ⟨⟩ e R acc [(t,.tup ds)] []:=by simp [lC]
def rW (C : CC) (hs : Option (List Nat)) (K : Env -> Prop) (ns : List av) (t : Nat) (_ : Tag (hs,K,ns)) (e : Env) (R : List Nat) (acc : List (List Nat × List Nat)) (d : D) : Prop:=match d with
 | .ref (.r c) k n=>aR (ae e) (.ref (.r c) k n) /\ doW C hs K ns ⟨⟩ e R acc [(t,dp1 (ae e) (.ref (.r c) k n)),(c,.any)] []
 | d=>isS d=true /\ doW C hs K ns ⟨⟩ e R acc [(t,d)] []
@[simp] theorem PW {t x v1} : opW C hs K ns (some t) (.frz x) v1 e R acc=rW C hs K ns t ⟨⟩ e R acc (vd (ae e) x):=_root_.id rfl
@[simp] theorem Iu {t c k n} : rW C hs K ns t u e R acc (.ref (.r c) k n)=(aR (ae e) (.ref (.r c) k n) /\ doW C hs K ns ⟨⟩ e R acc [(t,dp1 (ae e) (.ref (.r c) k n)),(c,.any)] []):=_root_.id rfl
@[simp] theorem Fr {t} : rW C hs K ns t u e R acc .nils=doW C hs K ns ⟨⟩ e R acc [(t,.nils)] []:=by simp [rW]
@[simp] theorem MU {t es} : rW C hs K ns t u e R acc (.sl es)=doW C hs K ns ⟨⟩ e R acc [(t,.sl es)] []:=by simp [rW]
@[simp] theorem Iv {t b es} : rW C hs K ns t u e R acc (slx b es)=doW C hs K ns ⟨⟩ e R acc [(t,slx b es)] []:=by
 rcases ig b es with h | ⟨h,_⟩ <;> rw [h] <;> simp
def zA (C : CC) (hs : Option (List Nat)) (K : Env -> Prop) (ns : List av) (dst : Option Nat) (_ : Tag (hs,K,ns)) (e : Env) (R : List Nat) (acc : List (List Nat × List Nat)) (c i off : Nat) (d : D) : Prop:=match d with
 | .blk _ es=>∃ r,es[i]? = some r /\ ∃ d,r[off]? = some d /\ dL dst (kOf C hs K ns e R acc) (ldc (.r c) i off d)
 | _=>False
@[simp] theorem Kv {c i off sz es} : zA C hs K ns dst u e R acc c i off (.blk sz es)=gP es[i]? (fun r=>yx r[off]? (fun d=>dW C hs K ns dst ⟨⟩ e R acc (ldc (.r c) i off d)) ⟨⟩) ⟨⟩:=by
 simp only [zA,fO,yy];rfl
def Kw (C : CC) (hs : Option (List Nat)) (K : Env -> Prop) (ns : List av) (dst : Option Nat) (_ : Tag (hs,K,ns)) (e : Env) (R : List Nat) (acc : List (List Nat × List Nat)) (q : Nat) (d : D) : Prop:=match d with
 | .adr (.r c) i off=>off=q /\ zA C hs K ns dst ⟨⟩ e R acc c i off (ae e c)
 | _=>False
@[simp] theorem Kx {q c i off} : Kw C hs K ns dst u e R acc q (.adr (.r c) i off)=(off=q /\ zA C hs K ns dst ⟨⟩ e R acc c i off (ae e c)):=_root_.id rfl
@[simp] theorem PZ {q x v1} : opW C hs K ns dst (.ldQ q x) v1 e R acc=Kw C hs K ns dst ⟨⟩ e R acc q (vd (ae e) x):=_root_.id rfl
def yr (C : CC) (hs : Option (List Nat)) (K : Env -> Prop) (ns : List av) (t : Nat) (_ : Tag (hs,K,ns)) (e : Env) (R : List Nat) (acc : List (List Nat × List Nat)) (sz by_ : Nat) (rowsY : List (List D)) (c i o k n : Nat) (d : D) : Prop:=match d with
 | .blk sz0 es0=>∃ row0,es0[i]? = some row0 /\ ∃ es,row0[o]? = some (.own sz es) /\ k + n <= es.length /\ (n + rowsY.length) * by_ <= 140737488355328 /\
   kOf C hs K ns e R acc [(t,.ref (.r (rt t 0)) 0 (n + rowsY.length)),(rt t 0,.blk sz ((es.drop k).take n++rowsY)),(c,.blk sz0 (bD es0 i o 1 [.any]))] [(rt t 0,true)]
 | _=>False
@[simp] theorem Hf {t sz by_ rowsY c i o k n sz0 es0} : yr C hs K ns t u e R acc sz by_ rowsY c i o k n (.blk sz0 es0)=gP es0[i]? (fun row0=>j7 row0[o]? (fun sz' es=>sz'=sz /\ k + n <= es.length /\ (n + rowsY.length) * by_ <= 140737488355328 /\
   doW C hs K ns ⟨⟩ e R acc [(t,.ref (.r (rt t 0)) 0 (n + rowsY.length)),(rt t 0,.blk sz ((es.drop k).take n++rowsY)),(c,.blk sz0 (bD es0 i o 1 [.any]))] [(rt t 0,true)]) ⟨⟩) ⟨⟩:=by
 simp only [yr,fO,jx]
 refine propext ⟨?_,?_⟩
 ·rintro ⟨row0,h1,es,h2,h3,h4,h5⟩
  exact ⟨row0,h1,sz,es,h2,rfl,h3,h4,h5⟩
 ·rintro ⟨row0,h1,sz',es,h2,rfl,h3,h4,h5⟩
  exact ⟨row0,h1,es,h2,h3,h4,h5⟩
def Hg (C : CC) (hs : Option (List Nat)) (K : Env -> Prop) (ns : List av) (t : Nat) (_ : Tag (hs,K,ns)) (e : Env) (R : List Nat) (acc : List (List Nat × List Nat)) (q sz by_ : Nat) (yd : D) (d : D) : Prop:=match d with
 | .ref (.n c i o') k n=>o'=q /\ fJ (ae e) false yd sz fun rowsY bs=>bs=[] /\ c ≠ rt t 0 /\ yr C hs K ns t ⟨⟩ e R acc sz by_ rowsY c i o' k n (ae e c)
 | _=>False
@[simp] theorem Hh {t q sz by_ yd c i o k n} : Hg C hs K ns t u e R acc q sz by_ yd (.ref (.n c i o) k n)=(o=q /\ jd (ae e) false yd sz (fun rowsY bs=>bs=[] /\ c ≠ rt t 0 /\ yr C hs K ns t ⟨⟩ e R acc sz by_ rowsY c i o k n (ae e c)) ⟨⟩):=_root_.id rfl
@[simp] theorem Lb {t q sz by_ x y v1} : opW C hs K ns (some t) (.appQ q sz by_ x y) v1 e R acc=Hg C hs K ns t ⟨⟩ e R acc q sz by_ (vd (ae e) y) (vd (ae e) x):=_root_.id rfl
def Cw (C : CC) (hs : Option (List Nat)) (K : Env -> Prop) (ns : List av) (t : Nat) (_ : Tag (hs,K,ns)) (e : Env) (R : List Nat) (acc : List (List Nat × List Nat)) (sz : Nat) (rows : List (List D)) (b k n : Nat) (d : D) : Prop:=match d with
 | .blk sz' es=>sz'=sz /\ k + n <= es.length /\ (∀ e ∈ es,∀ c ∈ e,aA c=true) /\ (∀ e ∈ rows,∀ c ∈ e,aA c=true) /\ kOf C hs K ns e R acc [(t,.int .i64 (min rows.length n : Nat)),(b,.blk sz (lE es k (rows.take n)))] []
 | _=>False
@[simp] theorem HG {t sz rows b k n sz' es} : Cw C hs K ns t u e R acc sz rows b k n (.blk sz' es)=(sz'=sz /\ k + n <= es.length /\ (∀ e ∈ es,∀ c ∈ e,aA c=true) /\ (∀ e ∈ rows,∀ c ∈ e,aA c=true) /\ doW C hs K ns ⟨⟩ e R acc [(t,.int .i64 (min rows.length n : Nat)),(b,.blk sz (lE es k (rows.take n)))] []):=_root_.id rfl
def HH (C : CC) (hs : Option (List Nat)) (K : Env -> Prop) (ns : List av) (t : Nat) (_ : Tag (hs,K,ns)) (e : Env) (R : List Nat) (acc : List (List Nat × List Nat)) (sz : Nat) (rows : List (List D)) (d : D) : Prop:=match d with
 | .ref (.r b) k n=>(n=0 -> kOf C hs K ns e R acc [(t,.int .i64 0)] []) /\ (0 < n -> Cw C hs K ns t ⟨⟩ e R acc sz rows b k n (ae e b))
 | _=>False
@[simp] theorem HI {t sz rows b k n} : HH C hs K ns t u e R acc sz rows (.ref (.r b) k n)=((n=0 -> doW C hs K ns ⟨⟩ e R acc [(t,.int .i64 0)] []) /\ (0 < n -> Cw C hs K ns t ⟨⟩ e R acc sz rows b k n (ae e b))):=_root_.id rfl
@[simp] theorem PR {t sz x y v1} : opW C hs K ns (some t) (.cpy sz x y) v1 e R acc=jd (ae e) false (vd (ae e) y) sz (fun rows bs=>bs=[] /\ 0 < rows.length /\ HH C hs K ns t ⟨⟩ e R acc sz rows (vd (ae e) x)) ⟨⟩:=_root_.id rfl
def C3 (C : CC) (hs : Option (List Nat)) (K : Env -> Prop) (ns : List av) (t : Nat) (_ : Tag (hs,K,ns)) (e : Env) (R : List Nat) (acc : List (List Nat × List Nat)) (n c : Nat) (d : D) : Prop:=match d with
 | .blk _ [row]=>row.length=n /\ okR (.agg row)=true /\ (aP t (.agg row)).all (fun p=>p.1 != c)=true /\ doW C hs K ns ⟨⟩ e R acc ((t,dM t (.agg row))::(c,.any)::aP t (.agg row)) (dF t (.agg row))
 | _=>False
@[simp] theorem Ks {t n c sz row} : C3 C hs K ns t u e R acc n c (.blk sz [row])=(row.length=n /\ okR (.agg row)=true /\ (aP t (.agg row)).all (fun p=>p.1 != c)=true /\ doW C hs K ns ⟨⟩ e R acc ((t,dM t (.agg row))::(c,.any)::aP t (.agg row)) (dF t (.agg row))):=_root_.id rfl
def Kt (C : CC) (hs : Option (List Nat)) (K : Env -> Prop) (ns : List av) (t : Nat) (_ : Tag (hs,K,ns)) (e : Env) (R : List Nat) (acc : List (List Nat × List Nat)) (n : Nat) (d : D) : Prop:=match d with
 | .adr (.r c) i off=>i=0 /\ off=0 /\ C3 C hs K ns t ⟨⟩ e R acc n c (ae e c)
 | _=>False
@[simp] theorem Ku {t n c i off} : Kt C hs K ns t u e R acc n (.adr (.r c) i off)=(i=0 /\ off=0 /\ C3 C hs K ns t ⟨⟩ e R acc n c (ae e c)):=_root_.id rfl
@[simp] theorem PY {t n x v1} : opW C hs K ns (some t) (.ldM n x) v1 e R acc=Kt C hs K ns t ⟨⟩ e R acc n (vd (ae e) x):=_root_.id rfl
def zz (C : CC) (hs : Option (List Nat)) (K : Env -> Prop) (ns : List av) (t : Nat) (_ : Tag (hs,K,ns)) (e : Env) (R : List Nat) (acc : List (List Nat × List Nat)) (n c i off : Nat) (d : D) : Prop:=match d with
 | .blk _ es=>∃ r,es[i]? = some r /\ off + n <= r.length /\ doW C hs K ns ⟨⟩ e R acc [(t,.agg (((r.drop off).take n).map aV)),(c,.any)] []
 | _=>False
@[simp] theorem Kp {t n c i off sz es} : zz C hs K ns t u e R acc n c i off (.blk sz es)=gP es[i]? (fun r=>off + n <= r.length /\ doW C hs K ns ⟨⟩ e R acc [(t,.agg (((r.drop off).take n).map aV)),(c,.any)] []) ⟨⟩:=by
 simp only [zz,fO]
def Kq (C : CC) (hs : Option (List Nat)) (K : Env -> Prop) (ns : List av) (t : Nat) (_ : Tag (hs,K,ns)) (e : Env) (R : List Nat) (acc : List (List Nat × List Nat)) (n : Nat) (d : D) : Prop:=match d with
 | .adr (.r c) i off=>zz C hs K ns t ⟨⟩ e R acc n c i off (ae e c)
 | _=>False
@[simp] theorem Kr {t n c i off} : Kq C hs K ns t u e R acc n (.adr (.r c) i off)=zz C hs K ns t ⟨⟩ e R acc n c i off (ae e c):=_root_.id rfl
@[simp] theorem PX {t n x v1} : opW C hs K ns (some t) (.ldF n x) v1 e R acc=Kq C hs K ns t ⟨⟩ e R acc n (vd (ae e) x):=_root_.id rfl
def DQ (C : CC) (hs : Option (List Nat)) (K : Env -> Prop) (ns : List av) (t : Nat) (_ : Tag (hs,K,ns)) (e : Env) (R : List Nat) (acc : List (List Nat × List Nat)) (len sz c : Nat) (d : D) : Prop:=match d with
 | .blk _ [row]=>0 < len /\ 0 < sz /\ row.length=len * sz /\ (∀ d ∈ row,aA d=true) /\ doW C hs K ns ⟨⟩ e R acc [(t,.ref (.r (rt t 0)) 0 len),(rt t 0,.blk sz (ct sz len row)),(c,.any)] [(rt t 0,true)]
 | _=>False
@[simp] theorem LO {t len sz c sz0 row} : DQ C hs K ns t u e R acc len sz c (.blk sz0 [row])=(0 < len /\ 0 < sz /\ row.length=len * sz /\ (∀ d ∈ row,aA d=true) /\ doW C hs K ns ⟨⟩ e R acc [(t,.ref (.r (rt t 0)) 0 len),(rt t 0,.blk sz (ct sz len row)),(c,.any)] [(rt t 0,true)]):=_root_.id rfl
def LP (C : CC) (hs : Option (List Nat)) (K : Env -> Prop) (ns : List av) (t : Nat) (_ : Tag (hs,K,ns)) (e : Env) (R : List Nat) (acc : List (List Nat × List Nat)) (len sz : Nat) (d : D) : Prop:=match d with
 | .adr (.r c) i off=>i=0 /\ off=0 /\ c ≠ rt t 0 /\ DQ C hs K ns t ⟨⟩ e R acc len sz c (ae e c)
 | _=>False
@[simp] theorem LQ {t len sz c i off} : LP C hs K ns t u e R acc len sz (.adr (.r c) i off)=(i=0 /\ off=0 /\ c ≠ rt t 0 /\ DQ C hs K ns t ⟨⟩ e R acc len sz c (ae e c)):=_root_.id rfl
@[simp] theorem P9 {len sz x t v1} : opW C hs K ns (some t) (.slM len sz x) v1 e R acc=LP C hs K ns t ⟨⟩ e R acc len sz (vd (ae e) x):=_root_.id rfl
def iL (C : CC) (hs : Option (List Nat)) (K : Env -> Prop) (ns : List av) (dst : Option Nat) (_ : Tag (hs,K,ns)) (e : Env) (R : List Nat) (acc : List (List Nat × List Nat)) (d : D) : Prop:=match d with
 | .agx ds=>dW C hs K ns dst ⟨⟩ e R acc (.ptx ds)
 | .agg ds=>dW C hs K ns dst ⟨⟩ e R acc (.ptr ds)
 | d=>aA d=true /\ dW C hs K ns dst ⟨⟩ e R acc (.ptr [d])
@[simp] theorem Cr {ds : List D} : ev (.agg ds)=ds:=_root_.id rfl
@[simp] theorem Cs {k n} : ev (.int k n)=[.int k n]:=_root_.id rfl
@[simp] theorem Ct {n} : ev (.str n)=[.str n]:=_root_.id rfl
@[simp] theorem Bh {n} : ev (.bool n)=[.bool n]:=_root_.id rfl
@[simp] theorem E0 {n} : ev (.sl n)=[.sl n]:=_root_.id rfl
@[simp] theorem Fq {f : Nat -> D} {es} : gW f [] es=es:=_root_.id rfl
@[simp] theorem CM {f : Nat -> D} {p ps es} : gW f (p::ps) es=gW f ps (es.set p.1 (ev (vd f p.2))):=_root_.id rfl
@[simp] theorem Lc {sz len zs parts v1} : opW C hs K ns dst (.blsF sz len zs parts) v1 e R acc=((∀ p ∈ parts,p.1 < len /\ (ev (vd (ae e) p.2)).length=sz /\ ∀ c ∈ ev (vd (ae e) p.2),aA c=true) /\ 0 < len /\
   (∀ r ∈ gW (ae e) parts (List.replicate len zs),∀ c ∈ r,aA c=true) /\ dW C hs K ns dst ⟨⟩ e R acc (.sl (gW (ae e) parts (List.replicate len zs)))):=_root_.id rfl
@[simp] theorem Ld {sz len zs parts v1} : opW C hs K ns dst (.blsX sz len zs parts) v1 e R acc=(zs.all aA=true /\ (∀ p ∈ parts,p.1 < len /\ match (generalizing:=false) vd (ae e) p.2 with
    | .agg ds=>ds.length=sz
    | .agx ds=>ds.length=sz
    | _=>False) /\ dW C hs K ns dst ⟨⟩ e R acc (.rfx len sz (jT (ae e) sz len zs parts))):=_root_.id rfl
attribute [simp] jT
@[simp] theorem Le {x v1} : opW C hs K ns dst (.boxF x) v1 e R acc=iL C hs K ns dst ⟨⟩ e R acc (vd (ae e) x):=_root_.id rfl
@[simp] theorem Hs {ds} : iL C hs K ns dst u e R acc (.agx ds)=dW C hs K ns dst ⟨⟩ e R acc (.ptx ds):=_root_.id rfl
@[simp] theorem Hr {ds} : iL C hs K ns dst u e R acc (.agg ds)=dW C hs K ns dst ⟨⟩ e R acc (.ptr ds):=_root_.id rfl
@[simp] theorem Ht {k n} : iL C hs K ns dst u e R acc (.int k n)=dW C hs K ns dst ⟨⟩ e R acc (.ptr [.int k n]):=by simp [iL]
@[simp] theorem EF {n} : iL C hs K ns dst u e R acc (.bool n)=dW C hs K ns dst ⟨⟩ e R acc (.ptr [.bool n]):=by simp [iL]
@[simp] theorem Hw {n} : iL C hs K ns dst u e R acc (.str n)=dW C hs K ns dst ⟨⟩ e R acc (.ptr [.str n]):=by simp [iL]
@[simp] theorem EG : iL C hs K ns dst u e R acc .nils=dW C hs K ns dst ⟨⟩ e R acc (.ptr [.nils]):=by simp [iL]
@[simp] theorem Mj {es} : iL C hs K ns dst u e R acc (.sl es)=dW C hs K ns dst ⟨⟩ e R acc (.ptr [.sl es]):=by simp [iL]
@[simp] theorem Hv {b es} : iL C hs K ns dst u e R acc (slx b es)=dW C hs K ns dst ⟨⟩ e R acc (.ptr [slx b es]):=by
 rcases ig b es with h | ⟨h,_⟩ <;> rw [h] <;> simp
@[simp] theorem Hu {es} : iL C hs K ns dst u e R acc (.ptr es)=dW C hs K ns dst ⟨⟩ e R acc (.ptr [.ptr es]):=by simp [iL]
@[simp] theorem Mi {g es} : iL C hs K ns dst u e R acc (.fn g es)=dW C hs K ns dst ⟨⟩ e R acc (.ptr [.fn g es]):=by simp [iL]
@[simp] theorem P0 {x v1} : opW C hs K ns dst (.len x) v1 e R acc=sf (vd (ae e) x) (fun n=>dW C hs K ns dst ⟨⟩ e R acc (.int .i64 n)) ⟨⟩:=by
 show res (ae e) _ (.len x)=_
 simp only [res,sf]
 cases vd (ae e) x <;> rfl
def uq (C : CC) (hs : Option (List Nat)) (K : Env -> Prop) (ns : List av) (dst : Option Nat) (_ : Tag (hs,K,ns)) (e : Env) (R : List Nat) (acc : List (List Nat × List Nat)) (sz : Nat) (x i : D) : Prop:=match (generalizing:=false) x,i with
  | .sl es,.int _ j=>0 <= j /\ jK C hs K ns dst ⟨⟩ e R acc sz es j.toNat
  | .rfx n sz' ds,.int _ j=>0 <= j /\ j.toNat < n /\ sz'=sz /\ dW C hs K ns dst ⟨⟩ e R acc (.ptx (ds.drop (j.toNat * sz)))
  | .ref p k n,.int _ j=>0 <= j /\ j.toNat < n /\ match (generalizing:=false) aX (ae e) p with
   | some (sz',_)=>sz'=sz /\ dW C hs K ns dst ⟨⟩ e R acc (.adr p (k + j.toNat) 0)
   | none=>False
  | _,_=>False
@[simp] theorem Li {sz x i v1} : opW C hs K ns dst (.iadS sz x i) v1 e R acc=uq C hs K ns dst ⟨⟩ e R acc sz (vd (ae e) x) (vd (ae e) i):=_root_.id rfl
@[simp] theorem ID {sz sz' n ds k j} : uq C hs K ns dst u e R acc sz (.rfx n sz' ds) (.int k j)=(0 <= j /\ j.toNat < n /\ sz'=sz /\ dW C hs K ns dst ⟨⟩ e R acc (.ptx (ds.drop (j.toNat * sz)))):=_root_.id rfl
@[simp] theorem MV {sz es k j} : uq C hs K ns dst u e R acc sz (.sl es) (.int k j)=(0 <= j /\ jK C hs K ns dst ⟨⟩ e R acc sz es j.toNat):=_root_.id rfl
@[simp] theorem IE {sz b es k j} : uq C hs K ns dst u e R acc sz (slx b es) (.int k j)=(0 <= j /\ jK C hs K ns dst ⟨⟩ e R acc sz es j.toNat):=by
 rcases ig b es with h | ⟨h,rfl⟩
 ·rw [h];rfl
 ·rw [h];simp [uq,jK]
@[simp] theorem IC {sz p k n k' j} : uq C hs K ns dst u e R acc sz (.ref p k n) (.int k' j)=(0 <= j /\ j.toNat < n /\ match (generalizing:=false) aX (ae e) p with
   | some (sz',_)=>sz'=sz /\ dW C hs K ns dst ⟨⟩ e R acc (.adr p (k + j.toNat) 0)
   | none=>False):=_root_.id rfl
def Ao (C : CC) (hs : Option (List Nat)) (K : Env -> Prop) (ns : List av) (dst : Option Nat) (_ : Tag (hs,K,ns)) (e : Env) (R : List Nat) (acc : List (List Nat × List Nat)) (sz : Nat) (x : D) (lo hi : Option Opd) : Prop:=match (generalizing:=false) x with
  | .sl es=>(∀ e ∈ es,e.length=sz) /\ dQ (ae e) hi es.length (fun h=>dQ (ae e) lo 0 (fun l=>l <= h /\ h <= es.length /\ dW C hs K ns dst ⟨⟩ e R acc (.sl ((es.take h).drop l))) ⟨⟩) ⟨⟩
  | .nils=>dQ (ae e) hi 0 (fun h=>dQ (ae e) lo 0 (fun l=>l <= h /\ h <= 0 /\ dW C hs K ns dst ⟨⟩ e R acc (.sl [])) ⟨⟩) ⟨⟩
  | .ref p k n=>match (generalizing:=false) aX (ae e) p with
   | some (sz',_)=>sz'=sz /\ dQ (ae e) hi n (fun h=>dQ (ae e) lo 0 (fun l=>l <= h /\ h <= n /\ dW C hs K ns dst ⟨⟩ e R acc (.ref p (k + l) (h - l))) ⟨⟩) ⟨⟩
   | none=>False
  | _=>False
@[simp] theorem Qb {sz x lo hi v1} : opW C hs K ns dst (.slc sz x lo hi) v1 e R acc=Ao C hs K ns dst ⟨⟩ e R acc sz (vd (ae e) x) lo hi:=_root_.id rfl
@[simp] theorem Qd {sz es lo hi} : Ao C hs K ns dst u e R acc sz (.sl es) lo hi=((∀ e ∈ es,e.length=sz) /\ dQ (ae e) hi es.length (fun h=>dQ (ae e) lo 0 (fun l=>l <= h /\ h <= es.length /\ dW C hs K ns dst ⟨⟩ e R acc (.sl ((es.take h).drop l))) ⟨⟩) ⟨⟩):=_root_.id rfl
@[simp] theorem GV {sz lo hi} : Ao C hs K ns dst u e R acc sz .nils lo hi=dQ (ae e) hi 0 (fun h=>dQ (ae e) lo 0 (fun l=>l <= h /\ h <= 0 /\ dW C hs K ns dst ⟨⟩ e R acc (.sl [])) ⟨⟩) ⟨⟩:=_root_.id rfl
@[simp] theorem LN {sz p k n lo hi} : Ao C hs K ns dst u e R acc sz (.ref p k n) lo hi=(match (generalizing:=false) aX (ae e) p with
   | some (sz',_)=>sz'=sz /\ dQ (ae e) hi n (fun h=>dQ (ae e) lo 0 (fun l=>l <= h /\ h <= n /\ dW C hs K ns dst ⟨⟩ e R acc (.ref p (k + l) (h - l))) ⟨⟩) ⟨⟩
   | none=>False):=_root_.id rfl
@[simp] theorem GJ {x xs v1} : opW C hs K ns dst (.callv x xs) v1 e R acc=(match (generalizing:=false) vd (ae e) x with
  | .fn g cs=>(∀ x ∈ xs,bG (ae e) (vd (ae e) x)) /\ pS C g hs K ns dst ⟨⟩ e R acc (xs.all fun x=>isV (vd (ae e) x)) (xs.map (dpv (ae e))++cs)
  | .fnx g cs=>(∀ x ∈ xs,bG (ae e) (vd (ae e) x)) /\ (∀ c ∈ cs,aR (ae e) c) /\ pS C g hs K ns dst ⟨⟩ e R acc false (xs.map (dpv (ae e))++cs.map (dp1 (ae e)))
  | _=>False):=by
 simp only [opW,aC,pS,dL,Bool.false_eq_true,or_false]
 cases vd (ae e) x <;> rfl
def mpT (x : D) (K : Nat -> Nat -> List D -> List D -> Prop) (_ : Tag K) : Prop:=match x with
 | .mp kt et ks vs=>K kt et ks vs
 | _=>False
@[simp] theorem Rv {kt et ks vs K u} : mpT (.mp kt et ks vs) K u=K kt et ks vs:=_root_.id rfl
@[simp] theorem P1 {kt et t v1} : opW C hs K ns (some t) (.mkm kt et) v1 e R acc=doW C hs K ns ⟨⟩ e R acc [(t,.mrf (rt t 0)),(rt t 0,.mp kt et [] [])] [(rt t 0,true)]:=_root_.id rfl
def mlM (C : CC) (hs : Option (List Nat)) (K : Env -> Prop) (ns : List av) (dst : Option Nat) (_ : Tag (hs,K,ns)) (e : Env) (R : List Nat) (acc : List (List Nat × List Nat)) (sh : KSh) (kt et : Nat) (ok : Bool) (z x m : D) : Prop:=match m with
 | .mrf b=>mpT (ae e b) (fun kt' et' ks vs=>kt'=kt /\ et'=et /\ dG sh x /\ match ok with
    | true=>dW C hs K ns dst ⟨⟩ e R acc (.tup [(dZ ks vs x).getD z,.bool (dZ ks vs x).isSome])
    | false=>dW C hs K ns dst ⟨⟩ e R acc ((dZ ks vs x).getD z)) ⟨⟩
 | _=>False
@[simp] theorem Py {sh kt et ok z x b} : mlM C hs K ns dst u e R acc sh kt et ok z x (.mrf b)=mpT (ae e b) (fun kt' et' ks vs=>kt'=kt /\ et'=et /\ dG sh x /\ match ok with
    | true=>dW C hs K ns dst ⟨⟩ e R acc (.tup [(dZ ks vs x).getD z,.bool (dZ ks vs x).isSome])
    | false=>dW C hs K ns dst ⟨⟩ e R acc ((dZ ks vs x).getD z)) ⟨⟩:=_root_.id rfl
@[simp] theorem P5 {sh kt et ok z m x v1} : opW C hs K ns dst (.mpl sh kt et ok z m x) v1 e R acc=mlM C hs K ns dst ⟨⟩ e R acc sh kt et ok z (vd (ae e) x) (vd (ae e) m):=by
 show res (ae e) _ (.mpl sh kt et ok z m x)=_
 simp only [res,mlM]
 cases vd (ae e) m <;> rfl
def muM (C : CC) (hs : Option (List Nat)) (K : Env -> Prop) (ns : List av) (_ : Tag (hs,K,ns)) (e : Env) (R : List Nat) (acc : List (List Nat × List Nat)) (sh : KSh) (kt et : Nat) (z x v m : D) : Prop:=match m with
 | .mrf b=>mpT (ae e b) (fun kt' et' ks vs=>kt'=kt /\ et'=et /\ ks.length < maxLen /\ dG sh x /\ iW z v /\ doW C hs K ns ⟨⟩ e R acc [(b,.mp kt et (x::ks) (v::vs))] []) ⟨⟩
 | _=>False
@[simp] theorem Pz {sh kt et z x v b} : muM C hs K ns u e R acc sh kt et z x v (.mrf b)=mpT (ae e b) (fun kt' et' ks vs=>kt'=kt /\ et'=et /\ ks.length < maxLen /\ dG sh x /\ iW z v /\ doW C hs K ns ⟨⟩ e R acc [(b,.mp kt et (x::ks) (v::vs))] []) ⟨⟩:=_root_.id rfl
@[simp] theorem P6 {sh kt et z m x v v1} : opW C hs K ns dst (.mpu sh kt et z m x v) v1 e R acc=(dst=none /\ muM C hs K ns ⟨⟩ e R acc sh kt et z (vd (ae e) x) (vd (ae e) v) (vd (ae e) m)):=by
 show (dst=none /\ _)=_
 congr 1
end
@[simp] theorem CX {s} : dG .str (.str s)=(s.length <= maxLen):=_root_.id rfl
@[simp] theorem Bs {b} : dG .bool (.bool b)=True:=_root_.id rfl
@[simp] theorem CW {q q' n} : dG (.int q) (.int q' n)=(q'=q /\ qp q n):=_root_.id rfl
@[simp] theorem Bt {q n ds} : dG (.ints q n) (.agg ds)=(ds.length=n /\ ∀ d ∈ ds,∃ x,d=.int q x /\ qp q x):=_root_.id rfl
@[simp] theorem Fp {s z} : iW (.str z) (.str s)=(s.length <= maxLen):=_root_.id rfl
@[simp] theorem CF {b z} : iW (.bool z) (.bool b)=True:=_root_.id rfl
@[simp] theorem Fo {q q' n z} : iW (.int q z) (.int q' n)=(q'=q /\ qp q n):=_root_.id rfl
@[simp] theorem IP {n : Int} : qp .i64 n=(-9223372036854775808 <= n /\ n <= 9223372036854775807):=by
 have e1 : IntKind.i64.min=-9223372036854775808:=rfl
 have e2 : IntKind.i64.max=9223372036854775807:=rfl
 simp [qp,Lit.wf,e1,e2]
attribute [simp] jb ga bU dM cS bN aP dF w8 okR qV me cX
attribute [simp] vd params gG kh ki j9 mW nA xw prune kA isC iZ aX RI bD dpv cP stK b7 rt chk rdS rdR frR fwR gK rdN iX wrK mnR DE ldN am ja qj wOk Pa.root cz bO
end Go.Gv

namespace Go.Gv
def qr (c : Int) : Bool:=(97 <= c && c <= 122) || (65 <= c && c <= 90)
def ze (c : Int) : Bool:=48 <= c && c <= 57
def zj (c : UInt8) : Bool:=qr c.toNat || ze c.toNat || c.toNat == 95
def AS (s : List UInt8) : Nat:=(s.takeWhile zj).length
def mz (n : Int) : Bool:=-1125899906842624 <= n && n <= 1125899906842624
def Q7 (s : List UInt8) : Bool:=s ≠ [] && s.length <= 20 && qr (s[0]!).toNat && AS s == s.length
theorem ac {n m : Int} (h : n=m) (h2 : -9223372036854775808 <= m /\ m < 9223372036854775808) : IntKind.wrap .i64 n=m:=by
 subst h
 have e1 : IntKind.i64.signed=true:=rfl
 have e2 : (2 ^ (IntKind.i64.bits - 1) : Int)=9223372036854775808:=rfl
 have e3 : (2 ^ IntKind.i64.bits : Int)=18446744073709551616:=rfl
 unfold IntKind.wrap
 simp only [e1,e2,e3,Bool.true_and,decide_eq_true_eq]
 split <;> omega
variable {C : CC} (hC : aB prog C)
include hC
end Go.Gv

namespace Go.Gv
structure SlI where
 n : Bool
 l : List Int
 deriving Inhabited
def slI (x : SlI) : D:=slx x.n (x.l.map fun n=>[.int .i64 n])
def knD (k : Int × Int) : List D:=[.int .i64 k.1,.int .i64 k.2]
structure Sec where
 name : List UInt8
 height : Int
 price : Int
 areaN : Bool
 area : List (Int × Int)
 convN : Bool
 conv : List (Int × Int)
 deriving Inhabited
def Se (s : Sec) : List D:=[.str s.name,.int .i64 s.height,.int .i64 s.price,slx s.areaN (s.area.map knD),slx s.convN (s.conv.map knD)]
def jY {α : Type} (p : α -> Bool) (xs : List α) : Int:=match xs.findIdx? p with
 | some i=>i
 | none=>-1
theorem fS {α : Type} {p : α -> Bool} {xs : List α} {i : Nat} (hj : ∀ (j : Nat) (h : j < xs.length),j < i -> p xs[j]=false) (hi : i < xs.length) (h : p xs[i]=true) : jY p xs=i:=by
 have : xs.findIdx? p=some i:=by
  rw [List.findIdx?_eq_some_iff_getElem]
  exact ⟨hi,h,fun j hji=>by simp [hj j (by omega) hji]⟩
 simp [jY,this]
theorem fR {α : Type} {p : α -> Bool} {xs : List α} (hj : ∀ (j : Nat) (h : j < xs.length),p xs[j]=false) : jY p xs=-1:=by
 have : xs.findIdx? p=none:=by
  rw [List.findIdx?_eq_none_iff]
  intro x hx
  obtain ⟨j,h,rfl⟩:=List.mem_iff_getElem.1 hx
  exact hj j h
 simp [jY,this]
theorem kM {α : Type} (p : α -> Bool) (xs : List α) : decide (0 <= jY p xs)=xs.any p:=by
 unfold jY
 split
 ·rename_i i h
  rw [List.findIdx?_eq_some_iff_getElem] at h
  obtain ⟨h1,h2,_⟩:=h
  have : xs.any p=true:=List.any_eq_true.2 ⟨_,List.getElem_mem h1,h2⟩
  simp [this]
 ·rename_i h
  rw [List.findIdx?_eq_none_iff] at h
  have : xs.any p=false:=by rw [List.any_eq_false];intro x hx;simp [h x hx]
  simp [this]
variable {C : CC} (hC : aB prog C)
include hC
theorem wH {b : Bool} {xs : List Int} {g : Nat} {cs : List D} (p : Int -> Bool) (hs : xs.length < 2 ^ 62) (hp : ∀ x ∈ xs,C g (.int .i64 x::cs) (.bool (p x)) []) : C 35 [slx b (xs.map fun x=>[.int .i64 x]),.fn g cs] (.int .i64 (jY p xs)) []:=by
 refine start hC (nf:=N35) rfl rfl ?_
 simp [N35]
 refine aw Nat (fun i=>[(0,slx b (xs.map fun x=>[.int .i64 x])),(1,.fn g cs),(7,.int .i64 xs.length),(8,.int .i64 i)]) (fun i=>i <= xs.length /\ ∀ (j : Nat) (h : j < xs.length),j < i -> p xs[j]=false) (fun i=>xs.length - i) 0 (by simp) (by simp) ?_
 rintro i ⟨hi,hj⟩
 simp
 refine ao (fun h=>?_) (fun h=>?_) <;> simp [h] <;> simp at h
 ·have hw : IntKind.wrap .i64 ((i : Int) + 1)=((i + 1 : Nat) : Int):=ac (by omega) (by omega)
  have hc:=hp _ (List.getElem_mem h)
  simp [h,List.getElem_map] at hc ⊢
  refine aa hc (.inl rfl) ?_
  simp
  refine ao (fun h1=>?_) (fun h1=>?_) <;> simp [h1,hw]
  ·rw [fS hj h h1]
  ·refine ⟨i + 1,⟨by omega,fun j hl hjj=>?_⟩,by omega,rfl⟩
   rcases Nat.lt_succ_iff_lt_or_eq.1 hjj with h2 | rfl
   ·exact hj j hl h2
   ·exact h1
 ·rw [fR (fun j hl=>hj j hl (by omega))]
theorem qk {b : Bool} {xs : List Int} {g : Nat} {cs : List D} (p : Int -> Bool) (hs : xs.length < 2 ^ 62) (hp : ∀ x ∈ xs,C g (.int .i64 x::cs) (.bool (p x)) []) : C 11 [slx b (xs.map fun x=>[.int .i64 x]),.fn g cs] (.bool (xs.any p)) []:=by
 refine start hC (nf:=N11) rfl rfl ?_
 simp [N11]
 refine aa (wH hC p hs hp) (.inl rfl) ?_
 simp [kM]
end Go.Gv

namespace Go.Gv
section
variable {C : CC}
theorem jB {f : Nat -> D} {dst : Option Nat} {K K' : KT} {o : NOp} (h : aC C f dst K o) (hk : ∀ ws ks,K ws ks -> K' ws ks) : aC C f dst K' o:=by
 obtain ⟨ws,ks,h1,h2⟩:=nB h
 exact h2 K' (hk ws ks h1)
theorem iF {e : Env} {dst : Option Nat} {K K' : Env -> Prop} (h : ic e dst K) (hk : ∀ e,K e -> K' e) : ic e dst K':=by
 unfold ic at h ⊢
 split at h
 ·exact hk _ h
 ·exact hk _ h
theorem im {K K' : Env -> Prop} (hk : ∀ e,K e -> K' e) : ∀ (ns : List av) (e : Env),iH C K ns e -> iH C K' ns e
 | [],e,h=>hk e h
 | o::os,e,h=>by
  rw [iH] at h ⊢
  split at h
  ·exact jB h (fun ws ks h1=>im hk os _ h1)
  ·split at h
   ·exact ⟨fun hb=>jB (h.1 hb) (fun ws ks h1=>im hk os _ h1),fun hb=>iF (h.2 hb) (fun e h1=>im hk os e h1)⟩
   ·exact iF h (fun e h1=>im hk os e h1)
   ·exact h.elim
theorem il {hs : List Nat} {K K' : Env -> Prop} (hk : ∀ e,K e -> K' e) : ∀ (ns : List av) (e : Env) (acc : List (List Nat × List Nat)),jO C hs K ns e acc -> jO C hs K' ns e acc
 | [],e,acc,h=>⟨h.1,hk e h.2⟩
 | o::os,e,acc,h=>by
  rw [jO] at h ⊢
  refine ⟨h.1,?_⟩
  have h:=h.2
  split at h
  ·exact jB h (fun ws ks h1=>⟨h1.1,il hk os _ _ h1.2⟩)
  ·split at h
   ·exact ⟨fun hb=>jB (h.1 hb) (fun ws ks h1=>⟨h1.1,il hk os _ _ h1.2⟩),fun hb=>iF (h.2 hb) (fun e h1=>il hk os e _ h1)⟩
   ·exact iF h (fun e h1=>il hk os e _ h1)
   ·exact h.elim
theorem fc : ∀ (c : eD) (Q Q' : cG -> Env -> Prop) (e : Env),(∀ t e,Q t e -> Q' t e) -> wpN C c Q e -> wpN C c Q' e
 | .skip,Q,Q',e,hq,h=>hq _ _ h
 | .reg dr hs keep ops,Q,Q',e,hq,h=>by
  cases dr with
  | false=>exact im (fun e h=>hq _ _ h) ops e h
  | true=>exact il (fun e h=>hq _ _ h) ops e [] h
 | .seq x y,Q,Q',e,hq,h=>fc x _ _ e (fun t e h=>by
   cases t with
   | nrm=>exact fc y Q Q' e hq h
   | ext i=>exact hq _ _ h
   | ret=>exact hq _ _ h) h
 | .cond c x y,Q,Q',e,hq,h=>by
  rw [wpN] at h ⊢
  split at h
  ·exact ⟨fun hb=>fc x Q Q' e hq (h.1 hb),fun hb=>fc y Q Q' e hq (h.2 hb)⟩
  ·exact ⟨fc x Q Q' e hq h.1,fc y Q Q' e hq h.2⟩
  ·exact h.elim
 | .block id c,Q,Q',e,hq,h=>fc c _ _ e (fun t e h=>by
   cases t with
   | nrm=>exact hq _ _ h
   | ext i =>
    simp only at h ⊢
    split
    ·rename_i hi;rw [if_pos hi] at h;exact hq _ _ h
    ·rename_i hi;rw [if_neg hi] at h;exact hq _ _ h
   | ret=>exact hq _ _ h) h
 | .loop c,Q,Q',e,hq,h=>by
  obtain ⟨S,G,I,m,s0,h1,h2,h3⟩:=h
  refine ⟨S,G,I,m,s0,h1,h2,fun s hs=>fc c _ _ _ (fun t e h=>?_) (h3 s hs)⟩
  cases t with
  | nrm=>exact h
  | ext i=>exact hq _ _ h
  | ret=>exact hq _ _ h
 | .exit id,Q,Q',e,hq,h=>hq _ _ h
 | .ret,Q,Q',e,hq,h=>hq _ _ h
def uE (id : Nat) (S : Type) (G : S -> Env) (J : S -> Prop) (Q : cG -> Env -> Prop) : cG -> Env -> Prop:=fun t e=>match t with
 | .ext i=>if i=id then ∃ s,J s /\ kA e (G s) else Q (.ext i) e
 | t=>Q t e
variable {Q : cG -> Env -> Prop} {e : Env}
@[simp] theorem yQ {id S G J u} : bY (uE id S G J Q) u .nrm e=bY Q ⟨⟩ .nrm e:=_root_.id rfl
@[simp] theorem yR {id S G J u} : bY (uE id S G J Q) u .ret e=bY Q ⟨⟩ .ret e:=_root_.id rfl
@[simp] theorem yP {id S G J u i} : bY (uE id S G J Q) u (.ext i) e=if i=id then ∃ s,J s /\ kA e (G s) else bY Q ⟨⟩ (.ext i) e:=_root_.id rfl
theorem qA {c : eD} {u : Tag (c,Q)} (id : Nat) (S : Type) (G : S -> Env) (J : S -> Prop) (h : te C c (uE id S G J Q) ⟨⟩ e) (hr : ∀ s e,J s -> kA e (G s) -> bY Q ⟨⟩ (.ext id) e) : te C c Q u e :=
 fc (.loop c) (uE id S G J Q) Q e (fun t e g=>by
  cases t with
  | nrm=>exact g
  | ret=>exact g
  | ext i =>
   simp only [uE] at g
   by_cases hi : i=id
   ·rw [if_pos hi] at g
    obtain ⟨s,h1,h2⟩:=g
    rw [hi]
    exact hr s e h1 h2
   ·rw [if_neg hi] at g
    exact g) h
def Da (S : Type) (G : S -> Env) (J : S -> Prop) (Q : cG -> Env -> Prop) : cG -> Env -> Prop:=fun t e=>match t with
 | .nrm=>∃ s,J s /\ kA e (G s)
 | t=>Q t e
@[simp] theorem yN {S G J u} : bY (Da S G J Q) u .nrm e=∃ s,J s /\ kA e (G s):=_root_.id rfl
@[simp] theorem yO {S G J u} : bY (Da S G J Q) u .ret e=bY Q ⟨⟩ .ret e:=_root_.id rfl
@[simp] theorem yM {S G J u i} : bY (Da S G J Q) u (.ext i) e=bY Q ⟨⟩ (.ext i) e:=_root_.id rfl
end
@[simp] theorem LE {C : CC} {hs : Option (List Nat)} {K : Env -> Prop} {ns : List av} {dst : Option Nat} {u : Tag (hs,K,ns)} {e : Env} {R : List Nat} {acc : List (List Nat × List Nat)} {α : Type} [Inhabited α] {n : Nat} {ag : Bool} {p : Pa} {xs : List α} {f : α -> List D} {i off : Nat} :
  lV C hs K ns dst u e R acc n ag p (xs.map f) i off=(i < xs.length /\ off + n <= (f xs[i]!).length /\ match ag with
    | true=>((((f xs[i]!).drop off).take n).all isV=true -> dW C hs K ns dst ⟨⟩ e R acc (.agg (((f xs[i]!).drop off).take n))) /\
      ((((f xs[i]!).drop off).take n).all isV=false -> dW C hs K ns dst ⟨⟩ e R acc (.agx ((((f xs[i]!).drop off).take n).mapIdx fun j c=>ldc p i (off + j) c)))
    | false=>dW C hs K ns dst ⟨⟩ e R acc (ldc p i off (((f xs[i]!).drop off).headD .any))):=by
 apply propext
 constructor
 ·rintro ⟨r,h,h1,h2⟩
  rw [List.getElem?_map,Option.map_eq_some_iff] at h
  obtain ⟨x,hx,rfl⟩:=h
  obtain ⟨hi,rfl⟩:=List.getElem?_eq_some_iff.1 hx
  rw [getElem!_pos xs i hi]
  refine ⟨hi,h1,?_⟩
  cases ag <;> exact h2
 ·rintro ⟨hi,h1,h2⟩
  rw [getElem!_pos xs i hi] at h1 h2
  refine pB (r:=f xs[i]) (by rw [List.getElem?_map,List.getElem?_eq_getElem hi];rfl) h1 ?_
  cases ag <;> exact h2
@[simp] theorem Ga {b all ks n} : aZ ((b,all)::ks) (.ptx n)=if n.any (aL b all) then .any else aZ ks (.ptx n):=by
 have h : aZ ((b,all)::ks) (.ptx n)=bif (n.any (aL b all) || aG ks (.ptx n)) then .any else .ptx n:=cw ..
 rw [h,cw]
 cases n.any (aL b all) <;> rfl
@[simp] theorem Gc {b all ks k sz n} : aZ ((b,all)::ks) (.rfx k sz n)=if n.any (aL b all) then .any else aZ ks (.rfx k sz n):=by
 have h : aZ ((b,all)::ks) (.rfx k sz n)=bif (n.any (aL b all) || aG ks (.rfx k sz n)) then .any else .rfx k sz n:=cw ..
 rw [h,cw]
 cases n.any (aL b all) <;> rfl
@[simp] theorem Gf {b all ks n} : aZ ((b,all)::ks) (.tpx n)=if n.any (aL b all) then .any else aZ ks (.tpx n):=by
 have h : aZ ((b,all)::ks) (.tpx n)=bif (n.any (aL b all) || aG ks (.tpx n)) then .any else .tpx n:=cw ..
 rw [h,cw]
 cases n.any (aL b all) <;> rfl
@[simp] theorem Gr {b all n es} : aL b all (slx n es)=false:=by cases n <;> cases es <;> rfl
@[simp] theorem Gq {b all p k n} : aL b all (.ref p k n)=b7 b all p:=_root_.id rfl
@[simp] theorem Gl {b all p k n} : aL b all (.adr p k n)=b7 b all p:=_root_.id rfl
@[simp] theorem Gn {b all c} : aL b all (.mrf c)=(all && c == b):=_root_.id rfl
@[simp] theorem Gm {b all k n} : aL b all (.int k n)=false:=_root_.id rfl
@[simp] theorem C7 {b all n} : aL b all (.bool n)=false:=_root_.id rfl
@[simp] theorem Gs {b all n} : aL b all (.str n)=false:=_root_.id rfl
@[simp] theorem C9 {b all} : aL b all .nils=false:=_root_.id rfl
@[simp] theorem C8 {b all} : aL b all .nilp=false:=_root_.id rfl
@[simp] theorem KG {b all n} : aL b all (.sl n)=false:=_root_.id rfl
@[simp] theorem Gp {b all n} : aL b all (.ptr n)=false:=_root_.id rfl
@[simp] theorem KF {b all g n} : aL b all (.fn g n)=false:=_root_.id rfl
@[simp] theorem F7 {b all ks c} : aZ ((b,all)::ks) (.mrf c)=if (all && c == b) then .any else aZ ks (.mrf c):=by
 have h : aZ ((b,all)::ks) (.mrf c)=bif ((all && c == b) || aG ks (.mrf c)) then .any else .mrf c:=cw ..
 rw [h,cw]
 cases all && c == b <;> rfl
end Go.Gv

namespace Go.Gv
section
variable {C : CC} {hs : Option (List Nat)} {K : Env -> Prop} {ns : List av} {dst : Option Nat} {u : Tag (hs,K,ns)} {e : Env} {R : List Nat} {acc : List (List Nat × List Nat)}
theorem cT {sz : Nat} {es : List (List D)} {i : Nat} {c : List D} (h : es[i]? = some c) : jK C hs K ns dst u e R acc sz es i=(c.length=sz /\ dW C hs K ns dst ⟨⟩ e R acc (.ptr c)):=by
 apply propext
 unfold jK dW
 rw [h]
 exact ⟨fun ⟨_,h1,h2⟩=>by cases h1;exact h2,fun h2=>⟨c,rfl,h2⟩⟩
theorem ca {n : Nat} {ag : Bool} {p : Pa} {es : List (List D)} {i off : Nat} {r : List D} (hr : es[i]? = some r) : lV C hs K ns dst u e R acc n ag p es i off=(off + n <= r.length /\ match ag with
    | true=>(((r.drop off).take n).all isV=true -> dW C hs K ns dst ⟨⟩ e R acc (.agg ((r.drop off).take n))) /\
      (((r.drop off).take n).all isV=false -> dW C hs K ns dst ⟨⟩ e R acc (.agx (((r.drop off).take n).mapIdx fun j c=>ldc p i (off + j) c)))
    | false=>dW C hs K ns dst ⟨⟩ e R acc (ldc p i off ((r.drop off).headD .any))):=by
 apply propext
 constructor
 ·rintro ⟨r',h,h1,h2⟩
  rw [hr] at h
  cases h
  refine ⟨h1,?_⟩
  cases ag <;> exact h2
 ·rintro ⟨h1,h2⟩
  refine pB hr h1 ?_
  cases ag <;> exact h2
@[simp] theorem IF {sz : Nat} {c0 : List D} {es : List (List D)} : jK C hs K ns dst u e R acc sz (c0::es) 0=(c0.length=sz /\ dW C hs K ns dst ⟨⟩ e R acc (.ptr c0)):=cT rfl
theorem xx {n : Nat} {ag : Bool} {p : Pa} {off : Nat} {c0 : List D} {es : List (List D)} : lV C hs K ns dst u e R acc n ag p (c0::es) 0 off=(off + n <= c0.length /\ match ag with
    | true=>(((c0.drop off).take n).all isV=true -> dW C hs K ns dst ⟨⟩ e R acc (.agg ((c0.drop off).take n))) /\
      (((c0.drop off).take n).all isV=false -> dW C hs K ns dst ⟨⟩ e R acc (.agx (((c0.drop off).take n).mapIdx fun j c=>ldc p 0 (off + j) c)))
    | false=>dW C hs K ns dst ⟨⟩ e R acc (ldc p 0 off ((c0.drop off).headD .any))):=ca rfl
@[simp] theorem IG {sz : Nat} {c0 c1 : List D} {es : List (List D)} : jK C hs K ns dst u e R acc sz (c0::c1::es) 1=(c1.length=sz /\ dW C hs K ns dst ⟨⟩ e R acc (.ptr c1)):=cT rfl
theorem xy {n : Nat} {ag : Bool} {p : Pa} {off : Nat} {c0 c1 : List D} {es : List (List D)} : lV C hs K ns dst u e R acc n ag p (c0::c1::es) 1 off=(off + n <= c1.length /\ match ag with
    | true=>(((c1.drop off).take n).all isV=true -> dW C hs K ns dst ⟨⟩ e R acc (.agg ((c1.drop off).take n))) /\
      (((c1.drop off).take n).all isV=false -> dW C hs K ns dst ⟨⟩ e R acc (.agx (((c1.drop off).take n).mapIdx fun j c=>ldc p 1 (off + j) c)))
    | false=>dW C hs K ns dst ⟨⟩ e R acc (ldc p 1 off ((c1.drop off).headD .any))):=ca rfl
@[simp] theorem IH {sz : Nat} {c0 c1 c2 : List D} {es : List (List D)} : jK C hs K ns dst u e R acc sz (c0::c1::c2::es) 2=(c2.length=sz /\ dW C hs K ns dst ⟨⟩ e R acc (.ptr c2)):=cT rfl
theorem xz {n : Nat} {ag : Bool} {p : Pa} {off : Nat} {c0 c1 c2 : List D} {es : List (List D)} : lV C hs K ns dst u e R acc n ag p (c0::c1::c2::es) 2 off=(off + n <= c2.length /\ match ag with
    | true=>(((c2.drop off).take n).all isV=true -> dW C hs K ns dst ⟨⟩ e R acc (.agg ((c2.drop off).take n))) /\
      (((c2.drop off).take n).all isV=false -> dW C hs K ns dst ⟨⟩ e R acc (.agx (((c2.drop off).take n).mapIdx fun j c=>ldc p 2 (off + j) c)))
    | false=>dW C hs K ns dst ⟨⟩ e R acc (ldc p 2 off ((c2.drop off).headD .any))):=ca rfl
@[simp] theorem II {sz : Nat} {c0 c1 c2 c3 : List D} {es : List (List D)} : jK C hs K ns dst u e R acc sz (c0::c1::c2::c3::es) 3=(c3.length=sz /\ dW C hs K ns dst ⟨⟩ e R acc (.ptr c3)):=cT rfl
theorem xA {n : Nat} {ag : Bool} {p : Pa} {off : Nat} {c0 c1 c2 c3 : List D} {es : List (List D)} : lV C hs K ns dst u e R acc n ag p (c0::c1::c2::c3::es) 3 off=(off + n <= c3.length /\ match ag with
    | true=>(((c3.drop off).take n).all isV=true -> dW C hs K ns dst ⟨⟩ e R acc (.agg ((c3.drop off).take n))) /\
      (((c3.drop off).take n).all isV=false -> dW C hs K ns dst ⟨⟩ e R acc (.agx (((c3.drop off).take n).mapIdx fun j c=>ldc p 3 (off + j) c)))
    | false=>dW C hs K ns dst ⟨⟩ e R acc (ldc p 3 off ((c3.drop off).headD .any))):=ca rfl
@[simp] theorem IJ {sz : Nat} {c0 c1 c2 c3 c4 : List D} {es : List (List D)} : jK C hs K ns dst u e R acc sz (c0::c1::c2::c3::c4::es) 4=(c4.length=sz /\ dW C hs K ns dst ⟨⟩ e R acc (.ptr c4)):=cT rfl
theorem xB {n : Nat} {ag : Bool} {p : Pa} {off : Nat} {c0 c1 c2 c3 c4 : List D} {es : List (List D)} : lV C hs K ns dst u e R acc n ag p (c0::c1::c2::c3::c4::es) 4 off=(off + n <= c4.length /\ match ag with
    | true=>(((c4.drop off).take n).all isV=true -> dW C hs K ns dst ⟨⟩ e R acc (.agg ((c4.drop off).take n))) /\
      (((c4.drop off).take n).all isV=false -> dW C hs K ns dst ⟨⟩ e R acc (.agx (((c4.drop off).take n).mapIdx fun j c=>ldc p 4 (off + j) c)))
    | false=>dW C hs K ns dst ⟨⟩ e R acc (ldc p 4 off ((c4.drop off).headD .any))):=ca rfl
attribute [simp] xx xy xz xA xB
end
end Go.Gv

namespace Go.Gv
structure Spt where
 x : Int
 y : Int
 z : Int
 deriving Inhabited,DecidableEq
structure Fce where
 a : Int
 b : Int
 c : Int
 k : Int
 deriving Inhabited,DecidableEq
structure Msh where
 sn : Bool
 s : List Spt
 fn : Bool
 f : List Fce
def eA (s : Spt) : List D:=[.int .i64 s.x,.int .i64 s.y,.int .i64 s.z]
def bq (f : Fce) : List D:=[.int .i64 f.a,.int .i64 f.b,.int .i64 f.c,.int .i64 f.k]
def aN (m : Msh) : List D:=[slx m.sn (m.s.map eA),slx m.fn (m.f.map bq)]
theorem bz (s : Spt) : eA s=[.int .i64 s.x,.int .i64 s.y,.int .i64 s.z]:=_root_.id rfl
theorem aT (f : Fce) : bq f=[.int .i64 f.a,.int .i64 f.b,.int .i64 f.c,.int .i64 f.k]:=_root_.id rfl
theorem ab (m : Msh) : aN m=[slx m.sn (m.s.map eA),slx m.fn (m.f.map bq)]:=_root_.id rfl
def spt (m : Msh) (i : Nat) : Spt:=m.s[i]!
def fce (m : Msh) (i : Nat) : Fce:=m.f[i]!
@[simp high] theorem RK (m : Msh) (i : Nat) : m.s[i]! = spt m i:=_root_.id rfl
@[simp high] theorem QR (m : Msh) (i : Nat) : m.f[i]! = fce m i:=_root_.id rfl
@[simp high] theorem RM (m : Msh) (i : Nat) : m.s[i]?.getD default=spt m i:=by simp only [spt,List.getElem!_eq_getElem?_getD]
@[simp high] theorem QS (m : Msh) (i : Nat) : m.f[i]?.getD default=fce m i:=by simp only [fce,List.getElem!_eq_getElem?_getD]
@[simp] theorem R1 (m : Msh) (i : Nat) (h : i < m.s.length) : m.s[i]=spt m i:=(getElem!_pos m.s i h).symm
@[simp] theorem RV (m : Msh) (i : Nat) (h : i < m.f.length) : m.f[i]=fce m i:=(getElem!_pos m.f i h).symm
abbrev Pnt:=Int × Int
def ptD (p : Pnt) : List D:=[.int .i64 p.1,.int .i64 p.2]
def ptS (s : Spt) : Pnt:=(s.x,s.y)
def okP (p : Pnt) : Bool:=-16777216 <= p.1 && p.1 <= 16777216 && -16777216 <= p.2 && p.2 <= 16777216
def bf (s : Spt) : Bool:=-16777216 <= s.x && s.x <= 16777216 && -16777216 <= s.y && s.y <= 16777216 && -4194304 <= s.z && s.z <= 4194304
theorem j6 {s : Spt} (h : bf s=true) : okP (ptS s)=true:=by
 simp only [bf,Bool.and_eq_true,decide_eq_true_eq] at h
 show okP (s.x,s.y)=true
 simp [okP]
 omega
def ai (a b c : Pnt) : Int:=(b.1 - a.1) * (c.2 - a.2) - (b.2 - a.2) * (c.1 - a.1)
theorem gO {a b k l : Int} (h1 : -k <= a) (h2 : a <= k) (h3 : -l <= b) (h4 : b <= l) : -(k * l) <= a * b /\ a * b <= k * l:=by
 have hk : 0 <= k:=by omega
 have hl : 0 <= l:=by omega
 have e1:=Int.mul_nonneg (show 0 <= k - a by omega) (show 0 <= l - b by omega)
 have e2:=Int.mul_nonneg (show 0 <= k + a by omega) (show 0 <= l + b by omega)
 have e3:=Int.mul_nonneg (show 0 <= k - a by omega) (show 0 <= l + b by omega)
 have e4:=Int.mul_nonneg (show 0 <= k + a by omega) (show 0 <= l - b by omega)
 simp only [Int.sub_mul,Int.mul_sub,Int.add_mul,Int.mul_add] at e1 e2 e3 e4
 omega
theorem cJ {p : Pnt} (h : okP p=true) : -16777216 <= p.1 /\ p.1 <= 16777216 /\ -16777216 <= p.2 /\ p.2 <= 16777216:=by
 simp only [okP,Bool.and_eq_true,decide_eq_true_eq] at h
 omega
theorem lh {a b c : Pnt} (ha : okP a=true) (hb : okP b=true) (hc : okP c=true) :
  (-1125899906842624 <= (b.1 - a.1) * (c.2 - a.2) /\ (b.1 - a.1) * (c.2 - a.2) <= 1125899906842624) /\ (-1125899906842624 <= (b.2 - a.2) * (c.1 - a.1) /\ (b.2 - a.2) * (c.1 - a.1) <= 1125899906842624):=by
 have:=cJ ha
 have:=cJ hb
 have:=cJ hc
 exact ⟨gO (k:=33554432) (l:=33554432) (by omega) (by omega) (by omega) (by omega),gO (k:=33554432) (l:=33554432) (by omega) (by omega) (by omega) (by omega)⟩
abbrev Tri:=Pnt × Pnt × Pnt
def cx (t : Tri) : List D:=[.int .i64 t.1.1,.int .i64 t.1.2,.int .i64 t.2.1.1,.int .i64 t.2.1.2,.int .i64 t.2.2.1,.int .i64 t.2.2.2]
def okT (t : Tri) : Bool:=okP t.1 && okP t.2.1 && okP t.2.2
def oR (t : Tri) : Int:=ai t.1 t.2.1 t.2.2
def jg (p q : Pnt) (u : Tri) : Bool:=ai p q u.1 <= 0 && ai p q u.2.1 <= 0 && ai p q u.2.2 <= 0
def qZ (t u : Tri) : Bool:=jg t.1 t.2.1 u || jg t.2.1 t.2.2 u || jg t.2.2 t.1 u
def ovT (t u : Tri) : Bool:=!qZ t u && !qZ u t
def aU (m : Msh) (f : Fce) : Tri:=(ptS (spt m f.a.toNat),ptS (spt m f.b.toNat),ptS (spt m f.c.toNat))
def crn (f : Fce) : Nat -> Int
 | 0=>f.a
 | 1=>f.b
 | 2=>f.c
 | 3=>f.a
 | 4=>f.b
 | _=>f.c
def gN (n : Nat) (a : Int) : Bool:=0 <= a && a < n
def inS (m : Msh) (f : Fce) : Bool:=gN m.s.length f.a && gN m.s.length f.b && gN m.s.length f.c
theorem jZ {m : Msh} {f : Fce} (h : inS m f=true) : (0 <= f.a /\ f.a.toNat < m.s.length) /\ (0 <= f.b /\ f.b.toNat < m.s.length) /\ (0 <= f.c /\ f.c.toNat < m.s.length):=by
 simp only [inS,gN,Bool.and_eq_true,decide_eq_true_eq] at h
 omega
variable {C : CC} (hC : aB prog C)
include hC
theorem gd (p : Pnt) : C 313 [.agg (ptD p)] (.bool (okP p)) []:=by
 refine start hC (nf:=N313) rfl rfl ?_
 simp [N313,ptD,okP]
 repeat' (refine ao (fun h=>?_) (fun h=>?_) <;> simp at h <;> simp [h] <;> try omega)
theorem wW (s : Spt) : C 303 [.agg (eA s)] (.bool (bf s)) []:=by
 have k:=gd hC (s.x,s.y)
 simp [ptD,okP] at k
 refine start hC (nf:=N303) rfl rfl ?_
 simp [N303,eA,bf]
 refine aa k (.inl rfl) ?_
 simp
 repeat' (refine ao (fun h=>?_) (fun h=>?_) <;> simp at h <;> simp [h] <;> try omega)
theorem tr (s : Spt) : C 289 [.agg (eA s)] (.bool (bf s)) []:=by
 refine start hC (nf:=N289) rfl rfl ?_
 simp [N289,eA,bf]
 repeat' (refine ao (fun h=>?_) (fun h=>?_) <;> simp at h <;> simp [h] <;> try omega)
theorem kX (s : Spt) : C 291 [.agg (eA s)] (.agg (ptD (ptS s))) []:=by
 refine start hC (nf:=N291) rfl rfl ?_
 simp [N291,eA,ptD,ptS]
theorem qF (m : Msh) : C 302 [.agg (aN m)] (.bool (decide (m.s.length <= 2000) && decide (m.f.length <= 4000))) []:=by
 refine start hC (nf:=N302) rfl rfl ?_
 simp [N302,aN]
 refine ao (fun h=>?_) (fun h=>?_) <;> simp at h <;> simp [h]
 ·rw [decide_eq_true (show m.s.length <= 2000 by omega)]
  simp
  exact Iff.intro (fun h2=>by omega) (fun h2=>by omega)
 ·omega
theorem xC (m : Msh) : C 257 [.agg (aN m)] (.bool (decide (m.s.length <= 2000) && decide (m.f.length <= 4000))) []:=by
 refine start hC (nf:=N257) rfl rfl ?_
 simp [N257,aN]
 refine ao (fun h=>?_) (fun h=>?_) <;> simp at h <;> simp [h]
 ·rw [decide_eq_true (show m.s.length <= 2000 by omega)]
  simp
  exact Iff.intro (fun h2=>by omega) (fun h2=>by omega)
 ·omega
theorem kR (m : Msh) (i : Nat) (h : i < m.s.length) : C 304 [.agg (aN m),.int .i64 i] (.agg (ptD (ptS (spt m i)))) []:=by
 refine start hC (nf:=N304) rfl rfl ?_
 simp [N304,aN,h,bz,ptD,ptS]
 exact aj (by decide +kernel)
theorem m8 (f : Fce) : C 305 [.agg (bq f)] (.agg [.int .i64 f.a,.int .i64 f.b,.int .i64 f.c]) []:=by
 refine start hC (nf:=N305) rfl rfl ?_
 simp [N305,bq]
theorem zN (f : Fce) (k : Nat) (hk : k < 3) : C 298 [.agg (bq f),.int .i64 k] (.agg [.int .i64 (crn f k),.int .i64 (crn f (k + 1))]) []:=by
 have k1:=m8 hC f
 refine start hC (nf:=N298) rfl rfl ?_
 rw [bq] at k1 ⊢
 simp [N298]
 refine aa k1 (.inl rfl) ?_
 have w : IntKind.wrap .i64 ((k : Int) + 1)=((k + 1 : Nat) : Int):=ac (by omega) (by omega)
 have w0 : IntKind.wrap .i64 1=1:=by decide
 have w1 : IntKind.wrap .i64 2=2:=by decide
 have w2 : IntKind.wrap .i64 3=3:=by decide
 rcases (by omega : k=0 \/ k=1 \/ k=2) with rfl | rfl | rfl <;> simp [crn,w0,w1,w2] <;> exact aj (by decide +kernel)
theorem th {a b c : Pnt} (ha : okP a=true) (hb : okP b=true) (hc : okP c=true) : C 308 [.agg (ptD a),.agg (ptD b),.agg (ptD c)] (.int .i64 (ai a b c)) []:=by
 have:=cJ ha
 have:=cJ hb
 have:=cJ hc
 have h4:=lh ha hb hc
 refine start hC (nf:=N308) rfl rfl ?_
 have w1 : IntKind.wrap .i64 (b.1 - a.1)=b.1 - a.1:=ac rfl (by omega)
 have w2 : IntKind.wrap .i64 (c.2 - a.2)=c.2 - a.2:=ac rfl (by omega)
 have w3 : IntKind.wrap .i64 (b.2 - a.2)=b.2 - a.2:=ac rfl (by omega)
 have w4 : IntKind.wrap .i64 (c.1 - a.1)=c.1 - a.1:=ac rfl (by omega)
 have w5 : IntKind.wrap .i64 ((b.1 - a.1) * (c.2 - a.2))=(b.1 - a.1) * (c.2 - a.2):=ac rfl (by omega)
 have w6 : IntKind.wrap .i64 ((b.2 - a.2) * (c.1 - a.1))=(b.2 - a.2) * (c.1 - a.1):=ac rfl (by omega)
 have w7 : IntKind.wrap .i64 ((b.1 - a.1) * (c.2 - a.2) - (b.2 - a.2) * (c.1 - a.1))=ai a b c:=ac rfl (by rw [ai];omega)
 simp [N308,ptD,w1,w2,w3,w4,w5,w6,w7]
theorem gD {a b c : Pnt} (ha : okP a=true) (hb : okP b=true) (hc : okP c=true) : C 286 [.agg (ptD a),.agg (ptD b),.agg (ptD c)] (.int .i64 (ai a b c)) []:=by
 have:=cJ ha
 have:=cJ hb
 have:=cJ hc
 have h4:=lh ha hb hc
 refine start hC (nf:=N286) rfl rfl ?_
 have w1 : IntKind.wrap .i64 (b.1 - a.1)=b.1 - a.1:=ac rfl (by omega)
 have w2 : IntKind.wrap .i64 (c.2 - a.2)=c.2 - a.2:=ac rfl (by omega)
 have w3 : IntKind.wrap .i64 (b.2 - a.2)=b.2 - a.2:=ac rfl (by omega)
 have w4 : IntKind.wrap .i64 (c.1 - a.1)=c.1 - a.1:=ac rfl (by omega)
 have w5 : IntKind.wrap .i64 ((b.1 - a.1) * (c.2 - a.2))=(b.1 - a.1) * (c.2 - a.2):=ac rfl (by omega)
 have w6 : IntKind.wrap .i64 ((b.2 - a.2) * (c.1 - a.1))=(b.2 - a.2) * (c.1 - a.1):=ac rfl (by omega)
 have w7 : IntKind.wrap .i64 ((b.1 - a.1) * (c.2 - a.2) - (b.2 - a.2) * (c.1 - a.1))=ai a b c:=ac rfl (by rw [ai];omega)
 simp [N286,ptD,w1,w2,w3,w4,w5,w6,w7]
theorem Dx (m : Msh) (f : Fce) (h : inS m f=true) : C 307 [.agg (aN m),.agg (bq f)] (.agg (cx (aU m f))) []:=by
 obtain ⟨⟨a1,a2⟩,⟨b1,b2⟩,⟨c1,c2⟩⟩:=jZ h
 have ka:=kR hC m f.a.toNat a2
 have kb:=kR hC m f.b.toNat b2
 have kc:=kR hC m f.c.toNat c2
 rw [Int.toNat_of_nonneg a1] at ka
 rw [Int.toNat_of_nonneg b1] at kb
 rw [Int.toNat_of_nonneg c1] at kc
 refine start hC (nf:=N307) rfl rfl ?_
 rw [aN] at ka kb kc ⊢
 simp [N307,bq]
 simp [ptD] at ka kb kc
 refine aa ka (.inl rfl) ?_
 simp
 refine aa kb (.inl rfl) ?_
 simp
 refine aa kc (.inl rfl) ?_
 simp [cx,aU]
 exact aj (by decide +kernel)
theorem oJ (f : Fce) (k : Nat) (hk : k < 4) : C 323 [.agg (bq f),.int .i64 k] (.int .i64 (crn f k)) []:=by
 refine start hC (nf:=N323) rfl rfl ?_
 rcases (by omega : k=0 \/ k=1 \/ k=2 \/ k=3) with rfl | rfl | rfl | rfl <;> simp [N323,bq,crn] <;> (refine pB (r:=[.int .i64 _]) rfl (by simp) ?_;simp)
theorem pC (m : Msh) (f : Fce) (h : inS m f=true) : C 285 [.agg (aN m),.agg (bq f)] (.sl [ptD (aU m f).1,ptD (aU m f).2.1,ptD (aU m f).2.2]) []:=by
 obtain ⟨⟨a1,a2⟩,⟨b1,b2⟩,⟨c1,c2⟩⟩:=jZ h
 have ka:=kX hC (spt m f.a.toNat)
 have kb:=kX hC (spt m f.b.toNat)
 have kc:=kX hC (spt m f.c.toNat)
 rw [eA] at ka kb kc
 refine start hC (nf:=N285) rfl rfl ?_
 simp [N285,bq,aN,a1,a2,bz]
 refine aa ka (.inl rfl) ?_
 simp [b1,b2,bz]
 refine aa kb (.inl rfl) ?_
 simp [c1,c2,bz]
 refine aa kc (.inl rfl) ?_
 simp [aU,ptD]
 exact aj (by decide +kernel)
end Go.Gv

namespace Go.Gv
def onG (a b p : Pnt) : Bool:=decide (ai a b p=0) && decide (min a.1 b.1 <= p.1) && decide (p.1 <= max a.1 b.1) && decide (min a.2 b.2 <= p.2) && decide (p.2 <= max a.2 b.2)
def apG (a b p q : Pnt) : Bool:=(decide (ai a b p < 0) && decide (0 < ai a b q)) || (decide (0 < ai a b p) && decide (ai a b q < 0))
theorem L8 {x a b u v : Int} (hu : 0 < u) (hv : 0 < v) (h : x * (u + v)=a * u + b * v) : min a b <= x /\ x <= max a b:=by
 have e : (x - a) * u=(b - x) * v:=by grind
 constructor
 ·apply Classical.byContradiction
  intro hc
  have h1 : x < a:=by omega
  have h2 : x < b:=by omega
  have:=Int.mul_pos (show 0 < a - x by omega) hu
  have:=Int.mul_pos (show 0 < b - x by omega) hv
  have e2 : (x - a) * u=-((a - x) * u):=by grind
  omega
 ·apply Classical.byContradiction
  intro hc
  have h1 : a < x:=by omega
  have h2 : b < x:=by omega
  have:=Int.mul_pos (show 0 < x - a by omega) hu
  have:=Int.mul_pos (show 0 < x - b by omega) hv
  have e2 : (b - x) * v=-((x - b) * v):=by grind
  omega
theorem BR {U V a b x : Pnt} (h0 : ai U V x=0) (hg : ai a b x=0) (hF : ai U V a < 0) (hG : 0 < ai U V b) : onG a b x=true:=by
 have i1 : x.1 * (ai U V b + -ai U V a)=a.1 * ai U V b + b.1 * (-ai U V a):=by
  have e : x.1 * (ai U V b + -ai U V a) - (a.1 * ai U V b + b.1 * (-ai U V a))=(b.1 - a.1) * ai U V x - (V.1 - U.1) * ai a b x:=by
   unfold ai;grind
  rw [h0,hg] at e
  simp at e
  omega
 have i2 : x.2 * (ai U V b + -ai U V a)=a.2 * ai U V b + b.2 * (-ai U V a):=by
  have e : x.2 * (ai U V b + -ai U V a) - (a.2 * ai U V b + b.2 * (-ai U V a))=(b.2 - a.2) * ai U V x - (V.2 - U.2) * ai a b x:=by
   unfold ai;grind
  rw [h0,hg] at e
  simp at e
  omega
 have w1:=L8 hG (show 0 < -ai U V a by omega) i1
 have w2:=L8 hG (show 0 < -ai U V a by omega) i2
 simp [onG,hg,w1,w2]
theorem An {U V W a b : Pnt} (hD : 0 < ai U V W) (hF : ai U V a < 0) (hG : 0 < ai U V b)
  (h1 : 0 <= ai V W a * ai U V b - ai V W b * ai U V a) (h2 : 0 <= ai W U a * ai U V b - ai W U b * ai U V a) :
  (apG a b U V && apG U V a b)=true \/ onG a b U=true \/ onG a b V=true:=by
 have e1 : ai V W a * ai U V b - ai V W b * ai U V a=ai U V W * ai a b V * -1:=by unfold ai;grind
 have e2 : ai W U a * ai U V b - ai W U b * ai U V a=ai U V W * ai a b U:=by unfold ai;grind
 have g1 : ai a b V <= 0:=by
  apply Classical.byContradiction
  intro hc
  have:=Int.mul_pos hD (show 0 < ai a b V by omega)
  omega
 have g2 : 0 <= ai a b U:=by
  apply Classical.byContradiction
  intro hc
  have:=Int.mul_pos hD (show 0 < -ai a b U by omega)
  have e3 : ai U V W * -ai a b U=-(ai U V W * ai a b U):=by grind
  omega
 by_cases c1 : ai a b V=0
 ·exact .inr (.inr (BR (U:=U) (V:=V) (by unfold ai;grind) c1 hF hG))
 ·by_cases c2 : ai a b U=0
  ·exact .inr (.inl (BR (U:=U) (V:=V) (by unfold ai;grind) c2 hF hG))
  ·left
   have g1' : ai a b V < 0:=by omega
   have g2' : 0 < ai a b U:=by omega
   simp [apG,g1',g2',hF,hG]
theorem wX {F G F' G' i j : Int} (hi : 0 < i) (hj : 0 < j) (hF : F < 0) (hG : 0 < G) (hF' : 0 <= F') (h1 : 0 <= j * F + i * G) (h2 : 0 <= j * F' + i * G') : 0 <= F' * G - G' * F:=by
 by_cases c : 0 <= G'
 ·have:=Int.mul_nonneg hF' (Int.le_of_lt hG)
  have:=Int.mul_nonneg c (show 0 <= -F by omega)
  have e : G' * -F=-(G' * F):=by grind
  omega
 ·
  have a1 : i * -G' <= j * F':=by
   have e : i * -G'=-(i * G'):=by grind
   omega
  have a2 : j * -F <= i * G:=by
   have e : j * -F=-(j * F):=by grind
   omega
  have m:=Int.mul_le_mul a1 a2 (Int.mul_nonneg (by omega) (by omega)) (Int.mul_nonneg (by omega) hF')
  have e1 : i * -G' * (j * -F)=i * j * (G' * F):=by grind
  have e2 : j * F' * (i * G)=i * j * (F' * G):=by grind
  rw [e1,e2] at m
  have:=Int.le_of_mul_le_mul_left m (Int.mul_pos hi hj)
  omega
theorem Ai {U V W a b p : Pnt} {i k dx dy : Int} (hD : 0 < ai U V W) (hi : 0 <= i) (hk : i <= k) (hb : b=(a.1 + k * dx,a.2 + k * dy)) (hp : p=(a.1 + i * dx,a.2 + i * dy))
  (hin : 0 <= ai U V p /\ 0 <= ai V W p /\ 0 <= ai W U p) (ha : ¬ (0 <= ai U V a /\ 0 <= ai V W a /\ 0 <= ai W U a)) (hbo : ¬ (0 <= ai U V b /\ 0 <= ai V W b /\ 0 <= ai W U b)) :
  ((apG a b U V && apG U V a b)=true \/ (apG a b V W && apG V W a b)=true \/ (apG a b W U && apG W U a b)=true) \/ onG a b U=true \/ onG a b V=true \/ onG a b W=true:=by
 have hi0 : 0 < i:=by
  apply Classical.byContradiction
  intro hc
  have : i=0:=by omega
  subst this
  exact ha (by simpa [hp] using hin)
 have hik : 0 < k - i:=by
  apply Classical.byContradiction
  intro hc
  have : i=k:=by omega
  subst this
  exact hbo (by rw [hb,<- hp];exact hin)
 have aff : ∀ X Y : Pnt,k * ai X Y p=(k - i) * ai X Y a + i * ai X Y b:=by
  intro X Y;subst hb hp;unfold ai;grind
 have nn : ∀ X Y : Pnt,0 <= ai X Y p -> 0 <= (k - i) * ai X Y a + i * ai X Y b:=by
  intro X Y h
  rw [<- aff]
  exact Int.mul_nonneg (by omega) h
 have n0:=nn U V hin.1
 have n1:=nn V W hin.2.1
 have n2:=nn W U hin.2.2
 have pos : ∀ F G : Int,0 <= (k - i) * F + i * G -> F < 0 -> 0 < G:=by
  intro F G h hF
  apply Classical.byContradiction
  intro hc
  have:=Int.mul_pos hik (show 0 < -F by omega)
  have e : (k - i) * -F=-((k - i) * F):=by grind
  have:=Int.mul_nonneg (show 0 <= i by omega) (show 0 <= -G by omega)
  have e2 : i * -G=-(i * G):=by grind
  omega
 have sum : ai U V a + ai V W a + ai W U a=ai U V W:=by unfold ai;grind
 have r1 : ai V W U=ai U V W:=by unfold ai;grind
 have r2 : ai W U V=ai U V W:=by unfold ai;grind
 have go : ∀ {X Y Z : Pnt},0 < ai X Y Z -> ai X Y a < 0 -> 0 <= (k - i) * ai X Y a + i * ai X Y b -> 0 <= (k - i) * ai Y Z a + i * ai Y Z b -> 0 <= (k - i) * ai Z X a + i * ai Z X b ->
   (0 <= ai Y Z a \/ 0 <= ai Y Z a * ai X Y b - ai Y Z b * ai X Y a) -> (0 <= ai Z X a \/ 0 <= ai Z X a * ai X Y b - ai Z X b * ai X Y a) -> (apG a b X Y && apG X Y a b)=true \/ onG a b X=true \/ onG a b Y=true:=by
  intro X Y Z hD hF m0 m1 m2 c1 c2
  have hG:=pos _ _ m0 hF
  refine An hD hF hG ?_ ?_
  ·rcases c1 with c1 | c1
   ·exact wX hi0 hik hF hG c1 m0 m1
   ·exact c1
  ·rcases c2 with c2 | c2
   ·exact wX hi0 hik hF hG c2 m0 m2
   ·exact c2
 by_cases f0 : ai U V a < 0
 ·by_cases f1 : ai V W a < 0
  ·have f2 : 0 <= ai W U a:=by omega
   by_cases c : 0 <= ai V W a * ai U V b - ai V W b * ai U V a
   ·rcases go hD f0 n0 n1 n2 (.inr c) (.inl f2) with h | h | h <;> simp [h]
   ·have c' : 0 <= ai U V a * ai V W b - ai U V b * ai V W a:=by
     have e : ai U V a * ai V W b - ai U V b * ai V W a=-(ai V W a * ai U V b - ai V W b * ai U V a):=by grind
     omega
    rcases go (by rw [r1];exact hD) f1 n1 n2 n0 (.inl f2) (.inr c') with h | h | h <;> simp [h]
  ·by_cases f2 : ai W U a < 0
   ·by_cases c : 0 <= ai W U a * ai U V b - ai W U b * ai U V a
    ·rcases go hD f0 n0 n1 n2 (.inl (by omega)) (.inr c) with h | h | h <;> simp [h]
    ·have c' : 0 <= ai U V a * ai W U b - ai U V b * ai W U a:=by
      have e : ai U V a * ai W U b - ai U V b * ai W U a=-(ai W U a * ai U V b - ai W U b * ai U V a):=by grind
      omega
     rcases go (by rw [r2];exact hD) f2 n2 n0 n1 (.inr c') (.inl (by omega)) with h | h | h <;> simp [h]
   ·rcases go hD f0 n0 n1 n2 (.inl (by omega)) (.inl (by omega)) with h | h | h <;> simp [h]
 ·by_cases f1 : ai V W a < 0
  ·by_cases f2 : ai W U a < 0
   ·by_cases c : 0 <= ai W U a * ai V W b - ai W U b * ai V W a
    ·rcases go (by rw [r1];exact hD) f1 n1 n2 n0 (.inr c) (.inl (by omega)) with h | h | h <;> simp [h]
    ·have c' : 0 <= ai V W a * ai W U b - ai V W b * ai W U a:=by
      have e : ai V W a * ai W U b - ai V W b * ai W U a=-(ai W U a * ai V W b - ai W U b * ai V W a):=by grind
      omega
     rcases go (by rw [r2];exact hD) f2 n2 n0 n1 (.inl (by omega)) (.inr c') with h | h | h <;> simp [h]
   ·rcases go (by rw [r1];exact hD) f1 n1 n2 n0 (.inl (by omega)) (.inl (by omega)) with h | h | h <;> simp [h]
  ·by_cases f2 : ai W U a < 0
   ·rcases go (by rw [r2];exact hD) f2 n2 n0 n1 (.inl (by omega)) (.inl (by omega)) with h | h | h <;> simp [h]
   ·exact absurd ⟨by omega,by omega,by omega⟩ ha
end Go.Gv

namespace Go.Gv
open Go.Lib Go.Sort Go.Proofs
abbrev Fnd:=Int × List UInt8
def R7 (x : Fnd) : List D:=[.int .i64 x.1,.str x.2]
structure TC {α : Type} (c : α -> α -> Int) : Prop where
 eq0 : ∀ x y,c x y=0 -> x=y
 anti : ∀ x y,c y x=- c x y
 trans : ∀ x y z,c x y < 0 -> c y z < 0 -> c x z < 0
section
variable {α : Type} {c : α -> α -> Int}
theorem TC.refl (h : TC c) (x : α) : c x x=0:=by have:=h.anti x x;omega
theorem TC.swo (h : TC c) : SWO (ltOf c) where
 irrefl x:=by simp [ltOf,h.refl x]
 trans x y z h1 h2:=by
  simp only [ltOf,decide_eq_true_eq] at *
  exact h.trans x y z h1 h2
 ntrans x y z h1 h2:=by
  simp only [ltOf,decide_eq_false_iff_not] at *
  by_cases e1 : c x y=0
  ·rw [h.eq0 _ _ e1];exact h2
  by_cases e2 : c y z=0
  ·rw [<- h.eq0 _ _ e2];exact h1
  have a1:=h.anti x y
  have a2:=h.anti y z
  have a3:=h.anti x z
  have:=h.trans z y x (by omega) (by omega)
  omega
theorem TC.tot (h : TC c) (x y : α) (h1 : (ltOf c) x y=false) (h2 : (ltOf c) y x=false) : x=y:=by
 simp only [ltOf,decide_eq_false_iff_not] at *
 have:=h.anti x y
 exact h.eq0 x y (by omega)
end
def IS (a b : Int) : Int:=if a < b then -1 else if b < a then 1 else 0
def R5 (x y : Fnd) : Int:=if IS x.1 y.1=0 then compareBytes x.2 y.2 else IS x.1 y.1
section
variable {α : Type} {c : α -> α -> Int}
def lp (c : α -> α -> Int) (l : List α) : Prop:=l.Pairwise fun x y=>c x y < 0
theorem lp.unique (h : TC c) : ∀ {l l' : List α},lp c l -> lp c l' -> (∀ x,x ∈ l ↔ x ∈ l') -> l=l'
 | [],[],_,_,_=>rfl
 | [],y::_,_,_,hm=>absurd ((hm y).2 (by simp)) (by simp)
 | x::_,[],_,_,hm=>absurd ((hm x).1 (by simp)) (by simp)
 | x::l,y::l',hs,hs',hm=>by
  obtain ⟨a1,a2⟩:=List.pairwise_cons.1 hs
  obtain ⟨b1,b2⟩:=List.pairwise_cons.1 hs'
  have e : x=y:=by
   rcases List.mem_cons.1 ((hm x).1 (by simp)) with e | e
   ·exact e
   ·rcases List.mem_cons.1 ((hm y).2 (by simp)) with e' | e'
    ·exact e'.symm
    ·have h1:=b1 x e
     have h2:=a1 y e'
     have:=h.anti x y
     omega
  subst e
  rw [lp.unique h a2 b2 (fun z=>⟨fun hz=>?_,fun hz=>?_⟩)]
  ·rcases List.mem_cons.1 ((hm z).1 (by simp [hz])) with e | e
   ·subst e;have:=a1 z hz;have:=h.refl z;omega
   ·exact e
  ·rcases List.mem_cons.1 ((hm z).2 (by simp [hz])) with e | e
   ·subst e;have:=b1 z hz;have:=h.refl z;omega
   ·exact e
def ddL [DecidableEq α] : List α -> List α
 | []=>[]
 | [x]=>[x]
 | x::y::r=>if x=y then ddL (y::r) else x::ddL (y::r)
theorem gU [DecidableEq α] (x y : α) (r : List α) : ddL (x::y::r)=if x=y then ddL (y::r) else x::ddL (y::r):=rfl
theorem o6 [DecidableEq α] : ∀ (l : List α) (x : α),x ∈ ddL l ↔ x ∈ l
 | [],x=>by simp [ddL]
 | [y],x=>by simp [ddL]
 | y::z::r,x=>by
  rw [gU]
  have ih:=o6 (z::r) x
  by_cases e : y=z
  ·rw [if_pos e,ih];subst e;simp
  ·rw [if_neg e,List.mem_cons,ih];simp
theorem sV [DecidableEq α] (h : TC c) : ∀ {l : List α},(l.Pairwise fun x y=>¬ c y x < 0) -> lp c (ddL l)
 | [],_=>List.Pairwise.nil
 | [y],_=>by simp [ddL,lp]
 | y::z::r,hp=>by
  obtain ⟨a1,a2⟩:=List.pairwise_cons.1 hp
  have ih:=sV h a2
  rw [gU]
  by_cases e : y=z
  ·rw [if_pos e];exact ih
  ·rw [if_neg e]
   refine List.pairwise_cons.2 ⟨fun w hw=>?_,ih⟩
   have hw2:=(o6 _ _).1 hw
   have h1:=a1 w hw2
   have hyz : c y z < 0:=by
    have h2:=a1 z (by simp)
    have h3:=h.anti y z
    have : c y z ≠ 0:=fun e'=>e (h.eq0 _ _ e')
    omega
   rcases List.mem_cons.1 hw2 with e1 | e1
   ·subst e1;exact hyz
   ·have h4:=(List.pairwise_cons.1 a2).1 w e1
    have h5:=h.anti z w
    by_cases e2 : c z w=0
    ·rw [<- h.eq0 _ _ e2];exact hyz
    ·exact h.trans y z w hyz (by omega)
def nJ (c : α -> α -> Int) (l : List α) : List α:=l.mergeSort fun x y=>!(ltOf c) y x
theorem xV {l : List α} {x : α} : x ∈ nJ c l ↔ x ∈ l:=by unfold nJ;exact List.mem_mergeSort
theorem ji {l : List α} : (nJ c l).length=l.length:=by unfold nJ;exact List.length_mergeSort l
theorem AK (h : TC c) (l : List α) : (nJ c l).Pairwise fun x y=>¬ c y x < 0:=by
 have h1:=List.pairwise_mergeSort (le:=fun x y : α=>!(ltOf c) y x) (fun a b d h1 h2=>by
  simp only [Bool.not_eq_true'] at *
  exact h.swo.ntrans _ _ _ h2 h1) (fun a b=>by
  simp only [Bool.or_eq_true,Bool.not_eq_true',ltOf,decide_eq_false_iff_not]
  have:=h.anti a b
  omega) l
 exact h1.imp fun {x y} hxy=>by simpa [ltOf] using hxy
def rG [DecidableEq α] (c : α -> α -> Int) (l : List α) : List α:=ddL (nJ c l)
theorem mP [DecidableEq α] {l : List α} {x : α} : x ∈ rG c l ↔ x ∈ l:=by unfold rG;rw [o6,xV]
theorem pT [DecidableEq α] (h : TC c) (l : List α) : lp c (rG c l):=sV h (AK h l)
theorem sO [DecidableEq α] (h : TC c) {l l' : List α} (hs : lp c l') (hm : ∀ x,x ∈ l ↔ x ∈ l') : rG c l=l':=(pT h l).unique h hs fun x=>by rw [mP];exact hm x
def Sd (c : α -> α -> Int) (l : List α) (x : α) : List α:=l.filter (fun y=>decide (c y x < 0))++x::l.filter (fun y=>decide (c x y < 0))
end
end Go.Gv
