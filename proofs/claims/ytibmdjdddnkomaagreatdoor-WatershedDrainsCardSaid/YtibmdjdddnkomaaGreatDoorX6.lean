/-
  Texts of the proof: GvR, GvEwn, GvN, ItW, GvT, GvT4, GvU, GvW, GvX, GvX2, GvX3, GvX4, GvX5, K1, K3, H1, H2, H3.
-/
import Derived.Test.YtibmdjdddnkomaaGreatDoorX4
import Derived.SizedLaws
import Derived.ProofKit
import Derived.Test.YtibmdjdddnkomaaGreatDoorX5
import Derived.Test.YtibmdjdddnkomaaGreatDoorProg
import Derived.KernelRfl
import Derived.Shelf.Small.Bits
import Derived.Shelf.Small.Wraps
import Derived.Shelf.Strconv.Itoa0
import Derived.Shelf.Strconv.Itoa1
import Derived.Shelf.LaysM
import Derived.Shelf.Strconv.Itoa2
import Derived.Shelf.Strconv.Itoa3
import Derived.Shelf.Sort.Plain
import Derived.Shelf.Bits.Mul64
import Derived.Shelf.Slices.Turned
import Derived.Shelf.Slices.Reverse
import Derived.Shelf.Slices.Equal
import Derived.Ground.Names2Prog
import Derived.Shelf.Slices.Clone
import Derived.Shelf.Slices.CompactI
import Derived.Shelf.Slices.SearchI
import Derived.Shelf.Slices.Cells
import Derived.Shelf.Slices.In.SortNone
import Derived.Shelf.Slices.Empties2
import Derived.Ground.SlgnProg
import Derived.Shelf.SlicesE.Reverse
import Derived.Shelf.SlicesE.Clone
import Derived.Sort.Row
import Derived.Sort.Grow
import Derived.Shelf.Spec.SlicesInsertGrow
set_option linter.all false
namespace Go.Gv
open Go.RowKit Go.ChangeShapes Go.WideShapes Go.ChangeAt
inductive Sh where
 | int (k : IntKind)
 | bool
 | str
 | sl (row : List Sh)
mutual
def eU : Sh -> D -> Prop
 | .int k,d=>∃ n,d=.int k n /\ (Lit.int k n).wf=true
 | .bool,d=>∃ b,d=.bool b
 | .str,d=>∃ s,d=.str s /\ s.length < 140737488355328
 | .sl row,d=>∃ es,(d=.sl es \/ (d=.nils /\ es=[])) /\ es.length < 140737488355328 /\ ∀ e ∈ es,bS row e
def bS : List Sh -> List D -> Prop
 | [],ds=>ds=[]
 | s::ss,ds=>∃ d r,ds=d::r /\ eU s d /\ bS ss r
end
theorem bS.length : ∀ {ss : List Sh} {ds : List D},bS ss ds -> ds.length=ss.length
 | [],ds,h=>by simp only [bS] at h;simp [h]
 | s::ss,ds,h=>by
  simp only [bS] at h
  obtain ⟨d,r,rfl,_,h2⟩:=h
  simp [bS.length h2]
theorem bS.append : ∀ {ss ts : List Sh} {ds es : List D},bS ss ds -> bS ts es -> bS (ss++ts) (ds++es)
 | [],ts,ds,es,h,h'=>by simp only [bS] at h;subst h;exact h'
 | s::ss,ts,ds,es,h,h'=>by
  simp only [bS] at h
  obtain ⟨d,r,rfl,h1,h2⟩:=h
  exact ⟨d,r++es,rfl,h1,bS.append h2 h'⟩
def ox (P : Program) (rec : TypeId -> Option (List Sh)) : List Field -> Nat -> Option (List Sh)
 | [],_=>some []
 | f::fs,off=>if f.offset=off then (match rec f.type with
   | some l=>if l.length=P.cellsOf f.type then (match ox P rec fs (off + l.length) with
    | some r=>some (l++r)
    | none=>none) else none
   | none=>none) else none
def nA (P : Program) : Nat -> TypeId -> Option (List Sh)
 | 0,_=>none
 | n + 1,t=>match P.underlying t with
  | some .bool=>some [.bool]
  | some (.int k)=>some [.int k]
  | some .string=>some [.str]
  | some (.slice e)=>(match nA P n e with
   | some l=>if l.length=P.cellsOf e /\ 1 <= P.bytesOf e then some [.sl l] else none
   | none=>none)
  | some (.struct fs)=>(match ox P (nA P n) fs.toList 0 with
   | some l=>if l.length=P.cellsOf t then some l else none
   | none=>none)
  | _=>none
section
variable {H : Type} {enc : TypeId × Value -> H} {P : Program} {F : Fid} {w : World} {sp : Nat -> Bool}
abbrev lX (w : World) : Mem:=fun p=>w.cell? p
def ue (enc : TypeId × Value -> H) (P : Program) (F : Fid) (w : World) (sp : Nat -> Bool) (n : Nat) (t : TypeId) (shs : List Sh) : Prop :=
 ∀ (cs : List Value) (d : DataW H) (ps : List MemPlace),DataW.trod enc P w 0 sp true n t cs=some (d,ps) -> (d.weights P t).all (· <= reachBytes)=true -> ∃ ds,bS shs ds /\ aB F (lX w) ds cs
theorem hJ {α β : Type} {f : α -> Option β} {x : α} {l : List α} {ys : List β} (h : (x::l).mapM f=some ys) : ∃ y r,f x=some y /\ l.mapM f=some r /\ ys=y::r:=by
 rw [List.mapM_cons] at h
 cases hx : f x with
 | none=>rw [hx] at h;cases h
 | some y =>
  cases hl : l.mapM f with
  | none=>rw [hx,hl] at h;cases h
  | some r =>
   rw [hx,hl] at h
   exact ⟨y,r,rfl,rfl,by cases h;rfl⟩
theorem mS {n m : Nat} (ih : ∀ t shs,nA P m t=some shs -> ue enc P F w sp n t shs) {cs : List Value} : ∀ (fs : List Field) (off : Nat) (xs : List (DataW H × List MemPlace)) (shs : List Sh),
  (fs.mapM fun f=>DataW.trod enc P w 0 sp true n f.type ((cs.drop f.offset).take (P.cellsOf f.type)))=some xs -> ox P (nA P m) fs off=some shs -> (DataW.weightsEach P (fs.map (·.type)) (xs.map (·.1))).all (· <= reachBytes)=true -> cs.length=off + shs.length ->
   ∃ ds,bS shs ds /\ aB F (lX w) ds (cs.drop off)
 | [],off,xs,shs,_,h2,_,h4=>by
  cases h2
  exact ⟨[],rfl,by simp only [aB];exact List.drop_of_length_le (by simpa using Nat.le_of_eq h4)⟩
 | f::fs,off,xs,shs,h1,h2,h3,h4=>by
  obtain ⟨y,r,e1,e2,rfl⟩:=hJ h1
  simp only [ox] at h2
  split at h2
  case isFalse=>cases h2
  rename_i ho
  split at h2
  case h_2=>cases h2
  rename_i l hl
  split at h2
  case isFalse=>cases h2
  rename_i hlen
  split at h2
  case h_2=>cases h2
  rename_i rs hr
  cases h2
  simp only [x0G,DataW.weightsEach,List.all_append,x0a] at h3
  rw [x0I] at h4
  obtain ⟨ds1,g1,g2⟩:=ih f.type l hl _ y.1 y.2 e1 h3.1
  obtain ⟨ds2,g3,g4⟩:=mS ih fs (off + l.length) r rs e2 hr h3.2 (by omega)
  refine ⟨ds1++ds2,g1.append g3,?_⟩
  rw [ho,<- hlen] at g2
  have:=g2.append g4
  rwa [<- List.drop_drop,List.take_append_drop] at this
theorem mT {n k : Nat} {e : TypeId} {l : List Sh} {a : Addr} (hl : l.length=k) (ih : ue enc P F w sp n e l) : ∀ (c s : Nat) (xs : List (DataW H × List MemPlace)),
  ((List.range' s c).mapM fun i=>(w.cells? 0 (a.add (i * k)) k).bind (DataW.trod enc P w 0 sp true n e))=some xs -> (DataW.weightsAll P e (xs.map (·.1))).all (· <= reachBytes)=true ->
   ∃ (es : List (List D)) (vs : List Value),es.length=c /\ xs.length=c /\ (∀ r ∈ es,bS l r) /\ bg F (lX w) es vs /\ ∀ j v,vs[j]? = some v -> w.cell? (a.add (s * k + j))=some v
 | 0,s,xs,h,_=>by
  cases h
  exact ⟨[],[],rfl,rfl,by simp,by simp [bg],fun j v h=>by simp at h⟩
 | c + 1,s,xs,h,hw=>by
  rw [List.range'_succ] at h
  obtain ⟨y,r,e1,e2,rfl⟩:=hJ h
  rw [Option.bind_eq_some_iff] at e1
  obtain ⟨row,c1,c2⟩:=e1
  simp only [x0G,DataW.weightsAll,List.all_append,x0a] at hw
  obtain ⟨ds,g1,g2⟩:=ih row y.1 y.2 c2 hw.1
  obtain ⟨es,vs,h1,h2,h3,h4,h5⟩:=mT hl ih c (s + 1) r e2 hw.2
  have hrow:=World.cells?_some c1
  refine ⟨ds::es,row++vs,by simp [h1],by simp [h2],?_,⟨row,vs,rfl,g2,h4⟩,fun j v hj=>?_⟩
  ·intro x hx
   rcases x0K.1 hx with rfl | hx
   ·exact g1
   ·exact h3 x hx
  ·have hrl : row.length=k:=by rw [g2.length,g1.length,hl]
   have addadd : ∀ i j,(a.add i).add j=a.add (i + j):=fun i j=>by
    unfold Addr.add
    by_cases hi : i=0 <;> by_cases hj : j=0 <;> simp [hi,hj,x0Z]
   by_cases hjk : j < k
   ·rw [x0E (by omega)] at hj
    have:=hrow.2.2 j hjk
    rw [hj,addadd] at this
    exact this
   ·rw [x0z (by omega)] at hj
    have:=h5 (j - row.length) v hj
    rw [hrl] at this
    rwa [show (s + 1) * k + (j - k)=s * k + j by rw [x0U];omega] at this
theorem lR : ∀ (m : Nat) (n : Nat) (t : TypeId) (shs : List Sh),nA P m t=some shs -> ue enc P F w sp n t shs
 | 0,_,_,_,h=>by cases h
 | m + 1,0,t,shs,_=>fun cs d ps h _=>by simp [DataW.trod] at h
 | m + 1,n + 1,t,shs,h=>by
  intro cs d ps ht hw
  rw [nA] at h
  split at h
  ·rename_i hu
   cases h
   unfold DataW.trod at ht;rw [hu] at ht
   split at ht <;> try (simp_all;done)
   rename_i b _
   refine ⟨[.bool b],⟨_,_,rfl,⟨b,rfl⟩,rfl⟩,by simp [aB,ae]⟩
  ·rename_i k hu
   cases h
   unfold DataW.trod at ht;rw [hu] at ht
   split at ht <;> try (simp_all;done)
   rename_i k1 k2 x h1
   simp only [x0j,TypeDesc.int.injEq] at h1
   subst h1
   split at ht
   ·rename_i hk
    obtain ⟨rfl,hwf⟩:=hk
    exact ⟨[.int _ x],⟨_,_,rfl,⟨x,rfl,hwf⟩,rfl⟩,by simp [aB,ae]⟩
   ·cases ht
  ·rename_i hu
   cases h
   unfold DataW.trod at ht;rw [hu] at ht
   split at ht <;> try (simp_all;done)
   rename_i s _
   split at ht
   ·rename_i hs
    simp only [x0j,Prod.mk.injEq] at ht
    obtain ⟨rfl,rfl⟩:=ht
    simp only [DataW.weights,List.all_cons,List.all_nil,Bool.and_true,x0g] at hw
    refine ⟨[.str s.data.toList],⟨_,_,rfl,⟨_,rfl,?_⟩,rfl⟩,?_⟩
    ·have:=reachBytes_lt;omega
    ·obtain ⟨s⟩:=s
     simp [aB,ae]
   ·cases ht
  ·rename_i e hu
   split at h
   case h_2=>cases h
   rename_i l hl
   split at h
   case isFalse=>cases h
   rename_i hk
   cases h
   unfold DataW.trod at ht;rw [hu] at ht
   split at ht <;> try (simp_all;done)
   ·refine ⟨[.nils],⟨_,_,rfl,⟨[],.inr ⟨rfl,rfl⟩,by simp,by simp⟩,rfl⟩,by simp [aB,ae]⟩
   ·rename_i e' a len cap h1
    simp only [x0j,TypeDesc.slice.injEq] at h1
    subst h1
    simp only at ht
    split at ht
    case isFalse=>cases ht
    rename_i hb
    rw [Option.bind_eq_some_iff] at ht
    obtain ⟨xs,e1,e2⟩:=ht
    rw [x0h] at e2
    obtain ⟨rest,e3,e4⟩:=e2
    simp only [Prod.mk.injEq] at e4
    obtain ⟨rfl,rfl⟩:=e4
    simp only [DataW.weights,hu,List.all_cons,List.all_append,x0a,x0g] at hw
    obtain ⟨w1,w2,w3⟩:=hw
    rw [List.range_eq_range'] at e1
    obtain ⟨es,vs,g1,g2,g3,g4,g5⟩:=mT (F:=F) hk.1 (lR m n e l hl) len 0 xs e1 w2
    refine ⟨[.sl es],⟨_,_,rfl,⟨es,.inl rfl,?_,g3⟩,rfl⟩,?_⟩
    ·have h5:=reachBytes_lt
     have h6 : es.length * 1 <= (xs.length + rest.length) * P.bytesOf e:=Nat.mul_le_mul (by omega) hk.2
     simp only [x1G] at w1
     omega
    ·simp only [aB]
     refine ⟨_,_,rfl,?_,rfl⟩
     simp only [ae]
     refine ⟨some a,cap,vs,P.cellsOf e,by rw [g1],by omega,g4,fun r hr=>by rw [(g3 r hr).length,hk.1],fun _=>⟨a,rfl,fun j v hj=>?_⟩⟩
     have:=g5 j v hj
     simpa using this
  ·rename_i fs hu
   split at h
   case h_2=>cases h
   rename_i l hl
   split at h
   case isFalse=>cases h
   rename_i hk
   cases h
   unfold DataW.trod at ht;rw [hu] at ht
   split at ht <;> try (simp_all;done)
   rename_i fs' h1
   simp only [x0j,TypeDesc.struct.injEq] at h1
   subst h1
   split at ht
   case isFalse=>cases ht
   rename_i hc
   rw [x0h] at ht
   obtain ⟨xs,e1,e2⟩:=ht
   simp only [Prod.mk.injEq] at e2
   obtain ⟨rfl,rfl⟩:=e2
   simp only [DataW.weights,hu] at hw
   obtain ⟨ds,g1,g2⟩:=mS (F:=F) (n:=n) (fun t shs h=>lR m n t shs h) fs.toList 0 xs _ e1 hl hw (by omega)
   exact ⟨ds,g1,by simpa using g2⟩
  ·cases h
theorem qA {t : TypeId} {fs : Array Field} {m : Nat} {shs : List Sh} {base : Nat} {v : Value} {d : DataW H} {ps : List MemPlace} (hu : P.underlying t=some (.struct fs)) (hsh : nA P m t=some shs) (hv : Value.okWide P w .any base t v) (h : DataW.Trod enc P w 0 sp true t v d ps) (hw : (d.weights P t).all (· <= reachBytes)=true) :
  ∃ ds,bS shs ds /\ ae F (lX w) (.agg ds) v:=by
 obtain ⟨cs,rfl,_⟩:=okWide_struct hu hv
 obtain ⟨n,hn⟩:=h
 obtain ⟨ds,g1,g2⟩:=lR (F:=F) m n t shs hsh _ d ps hn hw
 exact ⟨ds,g1,by simp only [ae];exact ⟨cs.toList,by simp,g2⟩⟩
theorem tc {t e : TypeId} {m : Nat} {sh : Sh} {base : Nat} {v : Value} {d : DataW H} {ps : List MemPlace} (hu : P.underlying t=some (.slice e)) (hsh : nA P m t=some [sh]) (hv : Value.okWide P w .any base t v) (h : DataW.Trod enc P w 0 sp true t v d ps) (hw : (d.weights P t).all (· <= reachBytes)=true) :
  ∃ x,eU sh x /\ ae F (lX w) x v:=by
 obtain ⟨a,len,cap,rfl⟩:=okWide_slice hu hv
 obtain ⟨n,hn⟩:=h
 obtain ⟨ds,g1,g2⟩:=lR (F:=F) m n t [sh] hsh _ d ps hn hw
 simp only [bS] at g1
 obtain ⟨x,r,rfl,g3,rfl⟩:=g1
 simp only [Value.cells,aB] at g2
 obtain ⟨v',r',e,g4,rfl⟩:=g2
 simp at e
 exact ⟨x,g3,by rw [e];exact g4⟩
theorem xj {t : TypeId} {k : IntKind} {base : Nat} {v : Value} {d : DataW H} {ps : List MemPlace} (hu : P.underlying t=some (.int k)) (hv : Value.okWide P w .any base t v) (h : DataW.Trod enc P w 0 sp true t v d ps) :
  ∃ n,(Lit.int k n).wf=true /\ ae F (lX w) (.int k n) v:=by
 obtain ⟨n,rfl,_,_,hw⟩:=open_int hu hv h
 exact ⟨n,hw,rfl⟩
end
theorem jN {α : Type} {f : α -> List D} {es : List (List D)} (h : ∀ e ∈ es,∃ x,e=f x) : ∃ xs : List α,es=xs.map f:=by
 induction es with
 | nil=>exact ⟨[],rfl⟩
 | cons e es ih =>
  obtain ⟨x,rfl⟩:=h e (by simp)
  obtain ⟨xs,rfl⟩:=ih (fun e he=>h e (by simp [he]))
  exact ⟨x::xs,rfl⟩
end Go.Gv
namespace Go.Gv
def A0 (P : Program) (F : Fid) (prog : Nat -> Option aH) (tbl : List (Nat × Nat)) : Bool:=tbl.all fun p=>mF P p.2 && match prog p.1 with
 | some nf=>dB P F p.2 nf
 | none=>true
theorem tF {tbl : List (Nat × Nat)} {g f : Nat} (h : tbl.lookup g=some f) : (g,f) ∈ tbl:=by
 induction tbl with
 | nil=>cases h
 | cons p r ih =>
  obtain ⟨a,b⟩:=p
  rw [x0e] at h
  cases e : g == a with
  | true=>rw [e] at h;simp at e h;subst e;subst h;simp
  | false=>rw [e] at h;simp [ih h]
theorem seat {P : Program} {tbl : List (Nat × Nat)} {ty : Nat -> TypeId} {prog : Nat -> Option aH} (hm : P.follows .mixedOrders=true) (hl : laidOutB P=true) (h : A0 P ⟨P,fun g=>tbl.lookup g,ty,fun _=>.nilIface⟩ prog tbl=true) :
  bG P ⟨P,fun g=>tbl.lookup g,ty,fun _=>.nilIface⟩ (fz P ⟨P,fun g=>tbl.lookup g,ty,fun _=>.nilIface⟩) /\ ay prog (fz P ⟨P,fun g=>tbl.lookup g,ty,fun _=>.nilIface⟩):=by
 have key : ∀ g f,tbl.lookup g=some f -> mF P f=true /\ ∀ nf,prog g=some nf -> dB P ⟨P,fun g=>tbl.lookup g,ty,fun _=>.nilIface⟩ f nf=true:=fun g f e=>by
  have:=x0f.1 h _ (tF e)
  simp only [x0a] at this
  refine ⟨this.1,fun nf hnf=>?_⟩
  have:=this.2
  rw [hnf] at this
  exact this
 exact qm hm (fun g f e=>(key g f e).1) hl rfl (fun g f nf e hp=>(key g f e).2 nf hp)
end Go.Gv

namespace Go.Gv
open Go.Proofs
def TryzTbl : List (Nat × Nat) := [(0, 2), (849, 4), (854, 8), (856, 10), (213, 11), (223, 12), (857, 13), (858, 14), (859, 15), (19, 16), (860, 17), (861, 18), (42, 19), (862, 20), (215, 23), (874, 31), (875, 32), (876, 33), (253, 34), (254, 35), (262, 36), (877, 37), (878, 38), (879, 39), (880, 40), (234, 41), (11, 42), (303, 45), (257, 46), (258, 47), (881, 48), (882, 50), (883, 51), (366, 52), (523, 53), (243, 54), (244, 55), (373, 56), (221, 57), (256, 58), (246, 59), (216, 60), (273, 61), (35, 62), (313, 65), (289, 66), (290, 67), (291, 68), (292, 69), (293, 70), (294, 71), (295, 72), (280, 75), (377, 76), (376, 77), (261, 78), (268, 79), (263, 80), (259, 81), (281, 82), (282, 83), (283, 84), (260, 85), (302, 86), (304, 87), (305, 88), (306, 89), (307, 90), (308, 91), (298, 92), (309, 93), (310, 94), (311, 95), (127, 96), (285, 97), (286, 98), (323, 99), (324, 100), (220, 112), (315, 113), (316, 114), (317, 115), (318, 116), (264, 117), (99, 118), (225, 119), (287, 120), (296, 121), (297, 122), (328, 123), (299, 130), (333, 131), (334, 132), (335, 133), (105, 134), (103, 135), (106, 136), (266, 137), (267, 138), (322, 139), (325, 140), (326, 141), (67, 142), (339, 145), (91, 146), (112, 147), (113, 148), (336, 149), (337, 150), (338, 151), (84, 152), (85, 153), (86, 154), (83, 159), (87, 160), (95, 161), (340, 185), (341, 186), (342, 187), (343, 188)]
def TryzTys : List (Nat × Nat) := [(1, 4), (2, 3), (20, 156), (3, 135), (4, 89)]
set_option maxRecDepth 100000 in
theorem Tryz_all : A0 Tryz.prog ⟨Tryz.prog, fun g => TryzTbl.lookup g, fun t => (TryzTys.lookup t).getD 0, fun _ => .nilIface⟩ prog TryzTbl = true := by kernel_rfl
end Go.Gv

namespace Go.Gv
open Go.RowKit
theorem rJ {P : Program} {F : Fid} {g : Nat} {ds : List D} {d : D} (h : ∀ f,F g=some f -> ∀ (M : Mem) (w : World) (vs : List Value),aB F M ds vs -> ∃ v,ae F M d v /\ Calls P f vs.toArray w (fun e w'=>e=.returned v /\ w'=w)) : fz P F g ds d []:=by
 refine ⟨trivial,fun f hf M w vs hh r=>?_⟩
 obtain ⟨v,hv,hc⟩:=h f hf M w vs r
 refine hc.mono ?_
 rintro e w' ⟨rfl,rfl⟩
 exact ⟨v,M,rfl,Bel.refl _,Mem.le_refl _,fun p h1 h2=>absurd h1 h2,hh,hv⟩
end Go.Gv

namespace Go.Proofs
open Go.Shelf
def Tryz.lays189_ren : Go.Shelf.Ren := ⟨fun | 189 => 52 | 125 => 74 | 257 => 73 | 128 => 110 | 129 => 111 | 294 => 101 | 295 => 102 | 296 => 103 | 297 => 104 | 298 => 105 | 299 => 106 | 216 => 107 | 300 => 108 | 301 => 109 | 328 => 125 | 329 => 126 | 330 => 127 | 331 => 128 | 332 => 129 | 215 => 130 | 343 => 144 | n => n, fun | 28 => 26 | 3 => 3 | 46 => 111 | 0 => 0 | 51 => 153 | 53 => 155 | 4 => 4 | 183 => 146 | 182 => 145 | 131 => 150 | 5 => 5 | 9 => 9 | 218 => 173 | 222 => 177 | 228 => 201 | 229 => 163 | n => n, fun | n => n⟩
theorem Tryz.lays189 : Go.Proofs.Lays.n189 Tryz.prog Tryz.lays189_ren := {
 mixed := by kernel_rfl
 f125 := Tryz.func74.trans (congrArg some (by kernel_rfl))
 f128 := Tryz.func110.trans (congrArg some (by kernel_rfl))
 f129 := Tryz.func111.trans (congrArg some (by kernel_rfl))
 f189 := Tryz.func52.trans (congrArg some (by kernel_rfl))
 f215 := Tryz.func130.trans (congrArg some (by kernel_rfl))
 f216 := Tryz.func107.trans (congrArg some (by kernel_rfl))
 f257 := Tryz.func73.trans (congrArg some (by kernel_rfl))
 f294 := Tryz.func101.trans (congrArg some (by kernel_rfl))
 f295 := Tryz.func102.trans (congrArg some (by kernel_rfl))
 f296 := Tryz.func103.trans (congrArg some (by kernel_rfl))
 f297 := Tryz.func104.trans (congrArg some (by kernel_rfl))
 f298 := Tryz.func105.trans (congrArg some (by kernel_rfl))
 f299 := Tryz.func106.trans (congrArg some (by kernel_rfl))
 f300 := Tryz.func108.trans (congrArg some (by kernel_rfl))
 f301 := Tryz.func109.trans (congrArg some (by kernel_rfl))
 f328 := Tryz.func125.trans (congrArg some (by kernel_rfl))
 f329 := Tryz.func126.trans (congrArg some (by kernel_rfl))
 f330 := Tryz.func127.trans (congrArg some (by kernel_rfl))
 f331 := Tryz.func128.trans (congrArg some (by kernel_rfl))
 f332 := Tryz.func129.trans (congrArg some (by kernel_rfl))
 f343 := Tryz.func144.trans (congrArg some (by kernel_rfl))
 t0 := Tryz.underlying0
 a0 := Tryz.isAgg0
 z0 := Tryz.sizeOf0
 v0 := Tryz.zeroValue0
 t3 := Tryz.underlying3
 a3 := Tryz.isAgg3
 z3 := Tryz.sizeOf3
 v3 := Tryz.zeroValue3
 t4 := Tryz.underlying4
 a4 := Tryz.isAgg4
 z4 := Tryz.sizeOf4
 v4 := Tryz.zeroValue4
 t5 := Tryz.underlying5
 a5 := Tryz.isAgg5
 z5 := Tryz.sizeOf5
 v5 := Tryz.zeroValue5
 t9 := Tryz.underlying9
 a9 := Tryz.isAgg9
 z9 := Tryz.sizeOf9
 v9 := Tryz.zeroValue9
 t28 := Tryz.underlying26
 a28 := Tryz.isAgg26
 z28 := Tryz.sizeOf26
 v28 := Tryz.zeroValue26
 t46 := Tryz.underlying111
 a46 := Tryz.isAgg111
 z46 := Tryz.sizeOf111
 v46 := Tryz.zeroValue111
 t51 := Tryz.underlying153
 a51 := Tryz.isAgg153
 z51 := Tryz.sizeOf153
 v51 := Tryz.zeroValue153
 t53 := Tryz.underlying155
 a53 := Tryz.isAgg155
 z53 := Tryz.sizeOf155
 v53 := Tryz.zeroValue155
 t131 := Tryz.underlying150
 a131 := Tryz.isAgg150
 z131 := Tryz.sizeOf150
 v131 := Tryz.zeroValue150
 t182 := Tryz.underlying145
 a182 := Tryz.isAgg145
 z182 := Tryz.sizeOf145
 v182 := Tryz.zeroValue145
 t183 := Tryz.underlying146
 a183 := Tryz.isAgg146
 z183 := Tryz.sizeOf146
 v183 := Tryz.zeroValue146
 t218 := Tryz.underlying173
 a218 := Tryz.isAgg173
 z218 := Tryz.sizeOf173
 v218 := Tryz.zeroValue173
 t222 := Tryz.underlying177
 a222 := Tryz.isAgg177
 z222 := Tryz.sizeOf177
 v222 := Tryz.zeroValue177
 t228 := Tryz.underlying201
 a228 := Tryz.isAgg201
 z228 := Tryz.sizeOf201
 v228 := Tryz.zeroValue201
 t229 := Tryz.underlying163
 a229 := Tryz.isAgg163
 z229 := Tryz.sizeOf163
 v229 := Tryz.zeroValue163 }
def Tryz.laysNm220_ren : Go.Shelf.Ren := ⟨fun | 20 => 53 | n => n, fun | 22 => 26 | 3 => 3 | 4 => 4 | 0 => 0 | n => n, fun | n => n⟩
theorem Tryz.laysNm220 : Go.Proofs.Lays2.n20 Tryz.prog Tryz.laysNm220_ren := {
 mixed := by kernel_rfl
 f20 := Tryz.func53.trans (congrArg some (by kernel_rfl))
 t0 := Tryz.underlying0
 a0 := Tryz.isAgg0
 z0 := Tryz.sizeOf0
 v0 := Tryz.zeroValue0
 t3 := Tryz.underlying3
 a3 := Tryz.isAgg3
 z3 := Tryz.sizeOf3
 v3 := Tryz.zeroValue3
 t4 := Tryz.underlying4
 a4 := Tryz.isAgg4
 z4 := Tryz.sizeOf4
 v4 := Tryz.zeroValue4
 t22 := Tryz.underlying26
 a22 := Tryz.isAgg26
 z22 := Tryz.sizeOf26
 v22 := Tryz.zeroValue26
 i3 := by kernel_rfl }
def Tryz.lays171_ren : Go.Shelf.Ren := ⟨fun | 171 => 96 | 243 => 124 | 246 => 143 | 283 => 155 | 284 => 156 | 285 => 157 | 286 => 158 | 129 => 111 | 317 => 162 | 318 => 163 | 319 => 164 | 320 => 165 | 337 => 166 | 338 => 167 | n => n, fun | 3 => 3 | 9 => 9 | 2 => 2 | 4 => 4 | 171 => 214 | 0 => 0 | 53 => 155 | 37 => 140 | 5 => 5 | 173 => 216 | 212 => 221 | 51 => 153 | 20 => 20 | 213 => 222 | 46 => 111 | 232 => 223 | 233 => 224 | n => n, fun | 17 => 0 | 18 => 1 | 19 => 2 | n => n⟩
theorem Tryz.lays171 : Go.Proofs.Lays.n171 Tryz.prog Tryz.lays171_ren := {
 mixed := by kernel_rfl
 f129 := Tryz.func111.trans (congrArg some (by kernel_rfl))
 f171 := Tryz.func96.trans (congrArg some (by kernel_rfl))
 f243 := Tryz.func124.trans (congrArg some (by kernel_rfl))
 f246 := Tryz.func143.trans (congrArg some (by kernel_rfl))
 f283 := Tryz.func155.trans (congrArg some (by kernel_rfl))
 f284 := Tryz.func156.trans (congrArg some (by kernel_rfl))
 f285 := Tryz.func157.trans (congrArg some (by kernel_rfl))
 f286 := Tryz.func158.trans (congrArg some (by kernel_rfl))
 f317 := Tryz.func162.trans (congrArg some (by kernel_rfl))
 f318 := Tryz.func163.trans (congrArg some (by kernel_rfl))
 f319 := Tryz.func164.trans (congrArg some (by kernel_rfl))
 f320 := Tryz.func165.trans (congrArg some (by kernel_rfl))
 f337 := Tryz.func166.trans (congrArg some (by kernel_rfl))
 f338 := Tryz.func167.trans (congrArg some (by kernel_rfl))
 t0 := Tryz.underlying0
 a0 := Tryz.isAgg0
 z0 := Tryz.sizeOf0
 v0 := Tryz.zeroValue0
 t2 := Tryz.underlying2
 a2 := Tryz.isAgg2
 z2 := Tryz.sizeOf2
 v2 := Tryz.zeroValue2
 t3 := Tryz.underlying3
 a3 := Tryz.isAgg3
 z3 := Tryz.sizeOf3
 v3 := Tryz.zeroValue3
 t4 := Tryz.underlying4
 a4 := Tryz.isAgg4
 z4 := Tryz.sizeOf4
 v4 := Tryz.zeroValue4
 t5 := Tryz.underlying5
 a5 := Tryz.isAgg5
 z5 := Tryz.sizeOf5
 v5 := Tryz.zeroValue5
 t9 := Tryz.underlying9
 a9 := Tryz.isAgg9
 z9 := Tryz.sizeOf9
 v9 := Tryz.zeroValue9
 t20 := Tryz.underlying20
 a20 := Tryz.isAgg20
 z20 := Tryz.sizeOf20
 v20 := Tryz.zeroValue20
 t37 := Tryz.underlying140
 a37 := Tryz.isAgg140
 z37 := Tryz.sizeOf140
 v37 := Tryz.zeroValue140
 t46 := Tryz.underlying111
 a46 := Tryz.isAgg111
 z46 := Tryz.sizeOf111
 v46 := Tryz.zeroValue111
 t51 := Tryz.underlying153
 a51 := Tryz.isAgg153
 z51 := Tryz.sizeOf153
 v51 := Tryz.zeroValue153
 t53 := Tryz.underlying155
 a53 := Tryz.isAgg155
 z53 := Tryz.sizeOf155
 v53 := Tryz.zeroValue155
 t171 := Tryz.underlying214
 a171 := Tryz.isAgg214
 z171 := Tryz.sizeOf214
 v171 := Tryz.zeroValue214
 t173 := Tryz.underlying216
 a173 := Tryz.isAgg216
 z173 := Tryz.sizeOf216
 v173 := Tryz.zeroValue216
 t212 := Tryz.underlying221
 a212 := Tryz.isAgg221
 z212 := Tryz.sizeOf221
 v212 := Tryz.zeroValue221
 t213 := Tryz.underlying222
 a213 := Tryz.isAgg222
 z213 := Tryz.sizeOf222
 t232 := Tryz.underlying223
 a232 := Tryz.isAgg223
 z232 := Tryz.sizeOf223
 v232 := Tryz.zeroValue223
 t233 := Tryz.underlying224
 a233 := Tryz.isAgg224
 z233 := Tryz.sizeOf224
 v233 := Tryz.zeroValue224
 g17 := by kernel_rfl
 g18 := by kernel_rfl
 g19 := by kernel_rfl }
open Go.RowKit Go.Sort Go.Lib in
theorem Tryz.strconv_Itoa_small (i : Nat) (hi : i < 100) (w : World) :
  Calls Tryz.prog 96 #[.int .i64 i] w fun e w' => e = .returned (.string ⟨(Lib.decDigits i).toArray⟩) /\ w' = w := Any.strconv_Itoa_small Tryz.lays171 i hi w
end Go.Proofs

namespace Go.Gv
open Go.Sort
section
variable {P : Program} {F : Fid} {α : Type} [Inhabited α]
def je (encD : α -> D) (d : Array α) : List (List D):=d.toList.map fun x=>[encD x]
theorem ny {f : FuncId} (enc : α -> Value) (encD : α -> D) (hflat : ∀ M x u,ae F M (encD x) u -> u=enc x) (hrep : ∀ M x,ae F M (encD x) (enc x)) (d d' : Array α) (hsz : d'.size=d.size) (ds : List D)
  (hnone : d.size=0 -> ∀ (M : Mem) (w : World) (vs : List Value) (A : Option Addr),(∀ p v,M p=some v -> w.cell? p=some v) -> aB F M ds vs -> Calls P f (.slice A 0 0::vs).toArray w fun e w'=>e=.returned (.tuple #[]) /\ ∃ n os,w'=grow (Sort.ahead w n) os)
  (hrun : ∀ (M : Mem) (w : World) (vs : List Value) (blk off cap : Nat),(∀ p v,M p=some v -> w.cell? p=some v) -> (∀ p : Addr,p.block=blk -> M p=none) -> aB F M ds vs -> Holds enc w blk off d -> blk < w.heap.size ->
   Calls P f (.slice (some ⟨blk,off,none⟩) d.size cap::vs).toArray w fun e w'=>e=.returned (.tuple #[]) /\ ∃ n os,w'=grow (putRow enc (Sort.ahead w n) blk off d') os) : uk P F f 1 (je encD d) ds (je encD d'):=by
 intro M w vs hh r
 have hl : (je encD d).length=d.size:=by simp [je]
 refine ⟨fun e A=>?_,fun b o T us cap hM hb hcell hcap hle hu hc=>?_⟩
 ·have h0 : d.size=0:=by rw [<- hl,e];rfl
  refine (hnone h0 M w vs A hh r).mono ?_
  rintro e0 w' ⟨rfl,n,os,rfl⟩
  exact ⟨rfl,rfl,rfl,rfl,by simp [grow,Sort.ahead],fun k hk=>by simp only [grow,Sort.ahead];rw [Array.getElem?_append_left hk],Nat.le_add_right _ _⟩
 ·rw [hl] at hcap ⊢
  have hH : Holds enc w b o d:=fun j hj=>by
   obtain ⟨u,k1,k2⟩:=hc j [encD d[j]] 0 (encD d[j]) (by simp [je,hj]) rfl
   have:=hflat _ _ _ k2
   subst this
   have e1 : d[j]! = d[j]:=x02 d j hj
   rw [e1]
   have k3 : us[o + j]? = some (enc d[j]):=by simpa using k1
   constructor
   ·simp [World.cell?,hcell,k3]
   ·simp [World.frozen?,hcell]
  refine (hrun M w vs b o cap hh hM r hH hb).mono ?_
  rintro e0 w' ⟨rfl,n,os,rfl⟩
  have hput : (grow (putRow enc (Sort.ahead w n) b o d') os).heap[b]? = some (.cells (putCells enc o d' us.toArray) T (0,0)):=by
   simp only [grow,putRow,mapBlock,Sort.ahead]
   rw [Array.getElem?_append_left (by simpa using hb),x1D,if_pos rfl,hcell]
   rfl
  refine ⟨rfl,(putCells enc o d' us.toArray).toList,by rw [x1k];exact hput,by simp [putCells],fun i r off x hi hr=>?_,⟨rfl,rfl,rfl,by simp [grow,putRow,mapBlock,Sort.ahead],fun k hk hne=>?_,Nat.le_add_right _ _⟩⟩
  ·simp only [je,x0y,x0h] at hi
   obtain ⟨y,h1,rfl⟩:=hi
   have ho : off=0:=by
    have:=(x0c.1 hr).1
    simpa using this
   subst ho
   simp only [x1i,x0j] at hr
   subst hr
   have hi2 : i < d'.size:=by have:=(x0c.1 h1).1;simpa using this
   have hy : d'[i]! = y:=by
    rw [x02 d' i hi2]
    have:=(x0c.1 h1).2
    simpa using this
   refine ⟨enc y,?_,hrep _ _⟩
   have hlt : o + i < us.length:=by
    have : o + cap * 1 <= us.length:=hle
    omega
   rw [Nat.mul_one,x1c,Array.getElem?_toList]
   simp only [putCells,Array.getElem?_mapIdx,x1s]
   rw [x0d hlt]
   simp only [x06]
   rw [if_pos ⟨by omega,by omega⟩,show o + i - o=i by omega,hy]
  ·simp only [grow,putRow,mapBlock,Sort.ahead]
   rw [Array.getElem?_append_left (by simpa using hk),x1D,if_neg (Ne.symm hne)]
end
end Go.Gv

namespace Go.Gv
open Go.Sort Go.Proofs Go.Shelf
section
variable {P : Program} {F : Fid} {ρ : Ren}
def xZ (zs : List Int) : List (List D):=zs.map fun n=>[.int .i64 n]
theorem vj {zs : List Int} {i : Nat} {r : List D} {off : Nat} {d : D} (h1 : (xZ zs)[i]? = some r) (h2 : r[off]? = some d) : ∃ x,zs[i]? = some x /\ off=0 /\ d=.int .i64 x:=by
 simp only [xZ,x0y,x0h] at h1
 obtain ⟨x,h1,rfl⟩:=h1
 have ho : off=0:=by have:=(x0c.1 h2).1;simpa using this
 subst ho
 simp only [x1i,x0j] at h2
 exact ⟨x,h1,rfl,h2.symm⟩
theorem rb {M : Mem} {zs : List Int} {us : List Value} {o : Nat} (hc : ∀ i r off d,(xZ zs)[i]? = some r -> r[off]? = some d -> ∃ u,us[o + i * 1 + off]? = some u /\ ae F M d u) : ∀ j x,zs[j]? = some x -> us[o + j]? = some (.int .i64 x):=by
 intro j x hj
 obtain ⟨u,k1,k2⟩:=hc j [.int .i64 x] 0 (.int .i64 x) (by simp [xZ,hj]) rfl
 simp only [ae] at k2
 subst k2
 simpa using k1
theorem m8 (Ly : Lays.n189 P ρ) {g : Nat} (hg : ∀ f,F g=some f -> f=ρ.f 189) (zs : List Int) (hz : zs.length < 2 ^ 40) :
  fz P F g [.own 1 (zs.map fun n=>[.int .i64 n])] .any [.own 1 ((zs.mergeSort fun x y=>decide (x <= y)).map fun n=>[.int .i64 n]),.nilp]:=by
 refine ⟨trivial,fun f hf=>⟨rfl,?_⟩⟩
 obtain rfl:=hg f hf
 have k:=ny (P:=P) (F:=F) (f:=ρ.f 189) (Value.int .i64) (D.int .i64) (fun M x u h=>by simpa only [ae] using h) (fun M x=>by simp only [ae]) zs.toArray (zs.mergeSort fun x y=>decide (x <= y)).toArray (by simp [List.length_mergeSort]) []
  (fun h M w vs A hh r=>by
   simp only [aB] at r
   subst r
   refine (Any.slices_Sort_int_none Ly A 0 w).mono ?_
   rintro e w' ⟨rfl,rfl⟩
   exact ⟨rfl,0,#[],by simp [grow,Sort.ahead]⟩)
  (fun M w vs blk off cap hh hM r hH hb=>by
   simp only [aB] at r
   subst r
   have:=Any.slices_Sort_int Ly blk off cap zs w hH hb (by omega)
   simpa using this)
 simpa [je] using k
theorem nx (L : Lays2.n20 P ρ) {g : Nat} (hg : ∀ f,F g=some f -> f=ρ.f 20) (zs : List Int) (hz : zs.length < 2 ^ 40) :
  fz P F g [.own 1 (zs.map fun n=>[.int .i64 n])] .any [.own 1 ((Lib.compact zs).map fun n=>[.int .i64 n]),.nils,.nils]:=by
 refine ⟨trivial,fun f hf=>⟨rfl,?_⟩⟩
 obtain rfl:=hg f hf
 refine qx.to ?_
 intro M w vs hh
 have nil : ∀ {b : Option Nat},lV F M w b [] vs -> vs=[]:=fun h=>x0v h.1.symm
 refine ⟨fun e A r=>?_,fun b o T us cap r hM hb hcell hcap hmc hle hu hc=>?_⟩
 ·rw [nil r]
  have h0 : zs=[]:=by simpa using e
  subst h0
  refine (Any.slices_Compact_int_empty L A 0 w).mono ?_
  rintro e w' ⟨rfl,rfl⟩
  exact ⟨_,rfl,Bel.refl _,.inl ⟨rfl,A,rfl⟩⟩
 ·rw [nil r]
  have hget:=rb hc
  have hl : (zs.map fun n=>[D.int .i64 n]).length=zs.length:=by simp
  rw [hl] at hcap ⊢
  have hH : Holds (Value.int .i64) w b o zs.toArray:=fun j hj=>by
   have hj2 : j < zs.length:=by simpa using hj
   have e1 : zs.toArray[j]! = zs[j]:=by rw [x02 zs.toArray j hj];simp
   have k3:=hget j zs[j] (x0d hj2)
   rw [e1]
   exact ⟨by simp [World.cell?,hcell,k3],by simp [World.frozen?,hcell]⟩
  obtain ⟨d',hd'⟩ : ∃ d',d'=(Lib.compact zs++List.replicate (zs.length - (Lib.compact zs).length) 0).toArray:=⟨_,rfl⟩
  have hcl : (Lib.compact zs).length <= zs.length:=by
   unfold Lib.compact Lib.compactUpTo
   rw [x1G]
   have:=List.length_filter_le (Lib.keeps zs.toArray) (List.range zs.length)
   simpa using this
  have hsz : d'.size=zs.length:=by rw [hd'];simp;omega
  refine (Any.slices_Compact_int L b o cap zs w hH (by omega) hcap).mono ?_
  rintro e w' ⟨rfl,q,rfl⟩
  rw [<- hd']
  have hput : (putRow (Value.int .i64) (Sort.ahead w q) b o d').heap[b]? = some (.cells (putCells (Value.int .i64) o d' us.toArray) T (0,0)):=by
   simp only [putRow,mapBlock,Sort.ahead]
   rw [x1D,if_pos rfl,hcell]
   rfl
  refine ⟨_,rfl,(putCells (Value.int .i64) o d' us.toArray).toList,by rw [x1k];exact hput,by simp [putCells],⟨rfl,rfl,rfl,by simp [putRow,mapBlock,Sort.ahead],fun k hk hne=>?_,Nat.le_add_right _ _⟩,.inl ⟨by simp,by simp;omega,fun i r off d h1 h2=>?_⟩⟩
  ·simp only [putRow,mapBlock,Sort.ahead]
   rw [x1D,if_neg (Ne.symm hne)]
  ·obtain ⟨x,h3,rfl,rfl⟩:=vj h1 h2
   have hi : i < (Lib.compact zs).length:=(x0c.1 h3).1
   refine ⟨.int .i64 x,?_,by simp only [ae]⟩
   have hlt : o + i < us.length:=by omega
   have hy : d'[i]! = x:=by
    rw [x02 d' i (by omega)]
    have : d'[i]? = some x:=by rw [hd'];simp [x0E hi,h3]
    exact (Array.getElem?_eq_some_iff.1 this).2
   rw [Nat.mul_one,x1c,Array.getElem?_toList]
   simp only [putCells,Array.getElem?_mapIdx,x1s]
   rw [x0d hlt]
   simp only [x06]
   rw [if_pos ⟨by omega,by omega⟩,show o + i - o=i by omega,hy]
end
end Go.Gv

namespace Go.Gv
structure Tag {α : Type _} (x : α) : Type where
@[simp] theorem Pv : isV (.any)=true:=zR
@[simp] theorem PB {k n} : isV (.int k n)=true:=zR
@[simp] theorem J6 {b} : isV (.bool b)=true:=zR
@[simp] theorem PK {s} : isV (.str s)=true:=zR
@[simp] theorem J7 : isV (.nilp)=true:=zR
@[simp] theorem J8 : isV (.nils)=true:=zR
@[simp] theorem Pt {ds} : isV (.agg ds)=true:=zR
@[simp] theorem PM {ds} : isV (.tup ds)=true:=zR
@[simp] theorem R7 {es} : isV (.sl es)=true:=zR
@[simp] theorem PE {ds} : isV (.ptr ds)=true:=zR
@[simp] theorem R5 {g ds} : isV (.fn g ds)=true:=zR
@[simp] theorem PD {sz es} : isV (.own sz es)=false:=zR
@[simp] theorem Pw {sz es} : isV (.blk sz es)=false:=zR
@[simp] theorem R6 {kt et ks vs} : isV (.mp kt et ks vs)=false:=zR
@[simp] theorem PC {b} : isV (.mrf b)=false:=zR
@[simp] theorem PG {p k n} : isV (.ref p k n)=false:=zR
@[simp] theorem Ps {p i off} : isV (.adr p i off)=false:=zR
@[simp] theorem Pu {ds} : isV (.agx ds)=false:=zR
@[simp] theorem PL {ds} : isV (.tpx ds)=false:=zR
@[simp] theorem PF {ds} : isV (.ptx ds)=false:=zR
@[simp] theorem PH {n sz ds} : isV (.rfx n sz ds)=false:=zR
@[simp] theorem Px {g ds} : isV (.fnx g ds)=false:=zR
@[simp] theorem Pz {T p i off} : isV (.ifa T p i off)=false:=zR
@[simp] theorem PA {T n} : isV (.ifi T n)=true:=zR
@[simp] theorem PI {k es} : isV (.slv k es)=true:=zR
@[simp] theorem Py {g ds cs} : isV (.fny g ds cs)=false:=zR
@[simp] theorem N2 : isK (.any)=false:=zR
@[simp] theorem N8 {k n} : isK (.int k n)=true:=zR
@[simp] theorem JU {b} : isK (.bool b)=true:=zR
@[simp] theorem Oi {s} : isK (.str s)=true:=zR
@[simp] theorem JV : isK (.nilp)=true:=zR
@[simp] theorem JW : isK (.nils)=true:=zR
@[simp] theorem N0 {ds} : isK (.agg ds)=true:=zR
@[simp] theorem Ol {ds} : isK (.tup ds)=true:=zR
@[simp] theorem RS {es} : isK (.sl es)=true:=zR
@[simp] theorem Ob {ds} : isK (.ptr ds)=true:=zR
@[simp] theorem RQ {g ds} : isK (.fn g ds)=true:=zR
@[simp] theorem Oa {sz es} : isK (.own sz es)=false:=zR
@[simp] theorem N3 {sz es} : isK (.blk sz es)=false:=zR
@[simp] theorem RR {kt et ks vs} : isK (.mp kt et ks vs)=false:=zR
@[simp] theorem N9 {b} : isK (.mrf b)=false:=zR
@[simp] theorem Od {p k n} : isK (.ref p k n)=false:=zR
@[simp] theorem NZ {p i off} : isK (.adr p i off)=false:=zR
@[simp] theorem N1 {ds} : isK (.agx ds)=false:=zR
@[simp] theorem Oj {ds} : isK (.tpx ds)=false:=zR
@[simp] theorem Oc {ds} : isK (.ptx ds)=false:=zR
@[simp] theorem Oe {n sz ds} : isK (.rfx n sz ds)=false:=zR
@[simp] theorem N4 {g ds} : isK (.fnx g ds)=false:=zR
@[simp] theorem N6 {T p i off} : isK (.ifa T p i off)=false:=zR
@[simp] theorem N7 {T n} : isK (.ifi T n)=true:=zR
@[simp] theorem Og {k es} : isK (.slv k es)=true:=zR
@[simp] theorem N5 {g ds cs} : isK (.fny g ds cs)=false:=zR
@[simp] theorem ON : isP (.any)=true:=zR
@[simp] theorem OT {k n} : isP (.int k n)=true:=zR
@[simp] theorem J0 {b} : isP (.bool b)=true:=zR
@[simp] theorem O3 {s} : isP (.str s)=true:=zR
@[simp] theorem J1 : isP (.nilp)=true:=zR
@[simp] theorem J2 : isP (.nils)=true:=zR
@[simp] theorem OL {ds} : isP (.agg ds)=true:=zR
@[simp] theorem O5 {ds} : isP (.tup ds)=true:=zR
@[simp] theorem RZ {es} : isP (.sl es)=true:=zR
@[simp] theorem OW {ds} : isP (.ptr ds)=true:=zR
@[simp] theorem RX {g ds} : isP (.fn g ds)=true:=zR
@[simp] theorem OV {sz es} : isP (.own sz es)=false:=zR
@[simp] theorem OO {sz es} : isP (.blk sz es)=false:=zR
@[simp] theorem RY {kt et ks vs} : isP (.mp kt et ks vs)=false:=zR
@[simp] theorem OU {b} : isP (.mrf b)=true:=zR
@[simp] theorem OY {p k n} : isP (.ref p k n)=true:=zR
@[simp] theorem OK {p i off} : isP (.adr p i off)=true:=zR
@[simp] theorem OM {ds} : isP (.agx ds)=false:=zR
@[simp] theorem O4 {ds} : isP (.tpx ds)=false:=zR
@[simp] theorem OX {ds} : isP (.ptx ds)=false:=zR
@[simp] theorem OZ {n sz ds} : isP (.rfx n sz ds)=false:=zR
@[simp] theorem OP {g ds} : isP (.fnx g ds)=false:=zR
@[simp] theorem OR {T p i off} : isP (.ifa T p i off)=true:=zR
@[simp] theorem OS {T n} : isP (.ifi T n)=true:=zR
@[simp] theorem O0 {k es} : isP (.slv k es)=true:=zR
@[simp] theorem OQ {g ds cs} : isP (.fny g ds cs)=false:=zR
@[simp] theorem O9 : isS (.any)=true:=zR
@[simp] theorem R4 : isV (.bb)=true:=zR
@[simp] theorem R0 : isS (.bb)=true:=zR
@[simp] theorem RW : isP (.bb)=true:=zR
@[simp] theorem RI : isB (.bb)=false:=zR
@[simp] theorem IE : cq (.bb)=false:=zR
@[simp] theorem Ga : bj (.bb)=[]:=zR
@[simp] theorem Ce : aJ (.bb)=[]:=zR
@[simp] theorem Pg {k n} : isS (.int k n)=true:=zR
@[simp] theorem J3 {b} : isS (.bool b)=true:=zR
@[simp] theorem Pp {s} : isS (.str s)=true:=zR
@[simp] theorem J4 : isS (.nilp)=true:=zR
@[simp] theorem J5 : isS (.nils)=true:=zR
@[simp] theorem O7 {ds} : isS (.agg ds)=true:=zR
@[simp] theorem Pr {ds} : isS (.tup ds)=true:=zR
@[simp] theorem R3 {es} : isS (.sl es)=true:=zR
@[simp] theorem Pj {ds} : isS (.ptr ds)=true:=zR
@[simp] theorem R1 {g ds} : isS (.fn g ds)=true:=zR
@[simp] theorem Pi {sz es} : isS (.own sz es)=false:=zR
@[simp] theorem Pb {sz es} : isS (.blk sz es)=false:=zR
@[simp] theorem R2 {kt et ks vs} : isS (.mp kt et ks vs)=false:=zR
@[simp] theorem Ph {b} : isS (.mrf b)=true:=zR
@[simp] theorem Pl {p k n} : isS (.ref p k n)=true:=zR
@[simp] theorem O6 {p i off} : isS (.adr p i off)=true:=zR
@[simp] theorem O8 {ds} : isS (.agx ds)=ds.all isP:=zR
@[simp] theorem Pq {ds} : isS (.tpx ds)=ds.all isP:=zR
@[simp] theorem Pk {ds} : isS (.ptx ds)=ds.all isP:=zR
@[simp] theorem Pm {n sz ds} : isS (.rfx n sz ds)=ds.all isP:=zR
@[simp] theorem Pc {g ds} : isS (.fnx g ds)=ds.all isP:=zR
@[simp] theorem Pe {T p i off} : isS (.ifa T p i off)=true:=zR
@[simp] theorem Pf {T n} : isS (.ifi T n)=true:=zR
@[simp] theorem Pn {k es} : isS (.slv k es)=true:=zR
@[simp] theorem Pd {g ds cs} : isS (.fny g ds cs)=(ds.all isP && cs.all isP):=zR
@[simp] theorem IP : aK (.any)=false:=zR
@[simp] theorem IV {k n} : aK (.int k n)=true:=zR
@[simp] theorem Fn {b} : aK (.bool b)=true:=zR
@[simp] theorem Ja {s} : aK (.str s)=true:=zR
@[simp] theorem Fp : aK (.nilp)=true:=zR
@[simp] theorem Fq : aK (.nils)=true:=zR
@[simp] theorem IM {ds} : aK (.agg ds)=false:=zR
@[simp] theorem Jc {ds} : aK (.tup ds)=false:=zR
@[simp] theorem Ny {es} : aK (.sl es)=true:=zR
@[simp] theorem IY {ds} : aK (.ptr ds)=true:=zR
@[simp] theorem Nw {g ds} : aK (.fn g ds)=true:=zR
@[simp] theorem IX {sz es} : aK (.own sz es)=false:=zR
@[simp] theorem IQ {sz es} : aK (.blk sz es)=false:=zR
@[simp] theorem Nx {kt et ks vs} : aK (.mp kt et ks vs)=false:=zR
@[simp] theorem IW {b} : aK (.mrf b)=false:=zR
@[simp] theorem I0 {p k n} : aK (.ref p k n)=false:=zR
@[simp] theorem IL {p i off} : aK (.adr p i off)=false:=zR
@[simp] theorem zio {ds} : aK (.agx ds)=false:=zR
@[simp] theorem Jb {ds} : aK (.tpx ds)=false:=zR
@[simp] theorem IZ {ds} : aK (.ptx ds)=false:=zR
@[simp] theorem I7 {n sz ds} : aK (.rfx n sz ds)=false:=zR
@[simp] theorem IR {g ds} : aK (.fnx g ds)=false:=zR
@[simp] theorem IT {T p i off} : aK (.ifa T p i off)=false:=zR
@[simp] theorem IU {T n} : aK (.ifi T n)=false:=zR
@[simp] theorem I8 {k es} : aK (.slv k es)=false:=zR
@[simp] theorem IS {g ds cs} : aK (.fny g ds cs)=false:=zR
@[simp] theorem Oq : isO (.any)=false:=zR
@[simp] theorem Oy {k n} : isO (.int k n)=false:=zR
@[simp] theorem JX {b} : isO (.bool b)=false:=zR
@[simp] theorem OH {s} : isO (.str s)=false:=zR
@[simp] theorem JY : isO (.nilp)=false:=zR
@[simp] theorem JZ : isO (.nils)=false:=zR
@[simp] theorem On {ds} : isO (.agg ds)=false:=zR
@[simp] theorem OJ {ds} : isO (.tup ds)=false:=zR
@[simp] theorem RV {es} : isO (.sl es)=false:=zR
@[simp] theorem OB {ds} : isO (.ptr ds)=false:=zR
@[simp] theorem RT {g ds} : isO (.fn g ds)=false:=zR
@[simp] theorem OA {sz es} : isO (.own sz es)=true:=zR
@[simp] theorem Ot {sz es} : isO (.blk sz es)=false:=zR
@[simp] theorem RU {kt et ks vs} : isO (.mp kt et ks vs)=false:=zR
@[simp] theorem Oz {b} : isO (.mrf b)=false:=zR
@[simp] theorem OD {p k n} : isO (.ref p k n)=false:=zR
@[simp] theorem Om {p i off} : isO (.adr p i off)=false:=zR
@[simp] theorem Oo {ds} : isO (.agx ds)=false:=zR
@[simp] theorem OI {ds} : isO (.tpx ds)=false:=zR
@[simp] theorem OC {ds} : isO (.ptx ds)=false:=zR
@[simp] theorem OE {n sz ds} : isO (.rfx n sz ds)=false:=zR
@[simp] theorem Ou {g ds} : isO (.fnx g ds)=false:=zR
@[simp] theorem Ow {T p i off} : isO (.ifa T p i off)=false:=zR
@[simp] theorem Ox {T n} : isO (.ifi T n)=false:=zR
@[simp] theorem OF {k es} : isO (.slv k es)=false:=zR
@[simp] theorem Ov {g ds cs} : isO (.fny g ds cs)=false:=zR
@[simp] theorem Jg : a6 (.any)=true:=zR
@[simp] theorem Jm {k n} : a6 (.int k n)=true:=zR
@[simp] theorem Fr {b} : a6 (.bool b)=true:=zR
@[simp] theorem Ju {s} : a6 (.str s)=true:=zR
@[simp] theorem Fs : a6 (.nilp)=true:=zR
@[simp] theorem Ft : a6 (.nils)=true:=zR
@[simp] theorem Je {ds} : a6 (.agg ds)=false:=zR
@[simp] theorem Jw {ds} : a6 (.tup ds)=false:=zR
@[simp] theorem NB {es} : a6 (.sl es)=false:=zR
@[simp] theorem Jp {ds} : a6 (.ptr ds)=false:=zR
@[simp] theorem Nz {g ds} : a6 (.fn g ds)=false:=zR
@[simp] theorem Jo {sz es} : a6 (.own sz es)=false:=zR
@[simp] theorem Jh {sz es} : a6 (.blk sz es)=false:=zR
@[simp] theorem NA {kt et ks vs} : a6 (.mp kt et ks vs)=false:=zR
@[simp] theorem Jn {b} : a6 (.mrf b)=false:=zR
@[simp] theorem Jr {p k n} : a6 (.ref p k n)=false:=zR
@[simp] theorem Jd {p i off} : a6 (.adr p i off)=false:=zR
@[simp] theorem Jf {ds} : a6 (.agx ds)=false:=zR
@[simp] theorem Jv {ds} : a6 (.tpx ds)=false:=zR
@[simp] theorem Jq {ds} : a6 (.ptx ds)=false:=zR
@[simp] theorem Js {n sz ds} : a6 (.rfx n sz ds)=false:=zR
@[simp] theorem Ji {g ds} : a6 (.fnx g ds)=false:=zR
@[simp] theorem Jk {T p i off} : a6 (.ifa T p i off)=false:=zR
@[simp] theorem Jl {T n} : a6 (.ifi T n)=true:=zR
@[simp] theorem Jt {k es} : a6 (.slv k es)=false:=zR
@[simp] theorem Jj {g ds cs} : a6 (.fny g ds cs)=false:=zR
@[simp] theorem JA : di (.any)=true:=zR
@[simp] theorem JG {k n} : di (.int k n)=true:=zR
@[simp] theorem Fu {b} : di (.bool b)=true:=zR
@[simp] theorem JO {s} : di (.str s)=true:=zR
@[simp] theorem Fv : di (.nilp)=true:=zR
@[simp] theorem Fw : di (.nils)=true:=zR
@[simp] theorem Jy {ds} : di (.agg ds)=ds.all a6:=zR
@[simp] theorem JQ {ds} : di (.tup ds)=false:=zR
@[simp] theorem NE {es} : di (.sl es)=false:=zR
@[simp] theorem JJ {ds} : di (.ptr ds)=false:=zR
@[simp] theorem NC {g ds} : di (.fn g ds)=false:=zR
@[simp] theorem JI {sz es} : di (.own sz es)=false:=zR
@[simp] theorem JB {sz es} : di (.blk sz es)=false:=zR
@[simp] theorem ND {kt et ks vs} : di (.mp kt et ks vs)=false:=zR
@[simp] theorem JH {b} : di (.mrf b)=false:=zR
@[simp] theorem JL {p k n} : di (.ref p k n)=false:=zR
@[simp] theorem Jx {p i off} : di (.adr p i off)=false:=zR
@[simp] theorem Jz {ds} : di (.agx ds)=false:=zR
@[simp] theorem JP {ds} : di (.tpx ds)=false:=zR
@[simp] theorem JK {ds} : di (.ptx ds)=false:=zR
@[simp] theorem JM {n sz ds} : di (.rfx n sz ds)=false:=zR
@[simp] theorem JC {g ds} : di (.fnx g ds)=false:=zR
@[simp] theorem JE {T p i off} : di (.ifa T p i off)=false:=zR
@[simp] theorem JF {T n} : di (.ifi T n)=true:=zR
@[simp] theorem JN {k es} : di (.slv k es)=false:=zR
@[simp] theorem JD {g ds cs} : di (.fny g ds cs)=false:=zR
@[simp] theorem NI : isF (.any)=true:=zR
@[simp] theorem NO {k n} : isF (.int k n)=true:=zR
@[simp] theorem JR {b} : isF (.bool b)=true:=zR
@[simp] theorem NW {s} : isF (.str s)=true:=zR
@[simp] theorem JS : isF (.nilp)=true:=zR
@[simp] theorem JT : isF (.nils)=true:=zR
@[simp] theorem NG {ds} : isF (.agg ds)=ds.all a6:=zR
@[simp] theorem NY {ds} : isF (.tup ds)=ds.all di:=zR
@[simp] theorem RP {es} : isF (.sl es)=false:=zR
@[simp] theorem NR {ds} : isF (.ptr ds)=false:=zR
@[simp] theorem RN {g ds} : isF (.fn g ds)=false:=zR
@[simp] theorem NQ {sz es} : isF (.own sz es)=false:=zR
@[simp] theorem NJ {sz es} : isF (.blk sz es)=false:=zR
@[simp] theorem RO {kt et ks vs} : isF (.mp kt et ks vs)=false:=zR
@[simp] theorem NP {b} : isF (.mrf b)=false:=zR
@[simp] theorem NT {p k n} : isF (.ref p k n)=false:=zR
@[simp] theorem NF {p i off} : isF (.adr p i off)=false:=zR
@[simp] theorem NH {ds} : isF (.agx ds)=false:=zR
@[simp] theorem NX {ds} : isF (.tpx ds)=false:=zR
@[simp] theorem NS {ds} : isF (.ptx ds)=false:=zR
@[simp] theorem NU {n sz ds} : isF (.rfx n sz ds)=false:=zR
@[simp] theorem NK {g ds} : isF (.fnx g ds)=false:=zR
@[simp] theorem NM {T p i off} : isF (.ifa T p i off)=false:=zR
@[simp] theorem NN {T n} : isF (.ifi T n)=true:=zR
@[simp] theorem NV {k es} : isF (.slv k es)=false:=zR
@[simp] theorem NL {g ds cs} : isF (.fny g ds cs)=false:=zR
@[simp] theorem Nc : isB (.any)=false:=zR
@[simp] theorem Nj {k n} : isB (.int k n)=false:=zR
@[simp] theorem II {b} : isB (.bool b)=false:=zR
@[simp] theorem Nt {s} : isB (.str s)=false:=zR
@[simp] theorem IJ : isB (.nilp)=false:=zR
@[simp] theorem IK : isB (.nils)=false:=zR
@[simp] theorem Na {ds} : isB (.agg ds)=false:=zR
@[simp] theorem Nv {ds} : isB (.tup ds)=false:=zR
@[simp] theorem RM {es} : isB (.sl es)=false:=zR
@[simp] theorem Nm {ds} : isB (.ptr ds)=false:=zR
@[simp] theorem RJ {g ds} : isB (.fn g ds)=false:=zR
@[simp] theorem Nl {sz es} : isB (.own sz es)=false:=zR
@[simp] theorem Nd {sz es} : isB (.blk sz es)=true:=zR
@[simp] theorem RK {kt et ks vs} : isB (.mp kt et ks vs)=true:=zR
@[simp] theorem Nk {b} : isB (.mrf b)=false:=zR
@[simp] theorem Np {p k n} : isB (.ref p k n)=false:=zR
@[simp] theorem M9 {p i off} : isB (.adr p i off)=false:=zR
@[simp] theorem Nb {ds} : isB (.agx ds)=false:=zR
@[simp] theorem Nu {ds} : isB (.tpx ds)=false:=zR
@[simp] theorem Nn {ds} : isB (.ptx ds)=false:=zR
@[simp] theorem Nq {n sz ds} : isB (.rfx n sz ds)=false:=zR
@[simp] theorem Nf {g ds} : isB (.fnx g ds)=false:=zR
@[simp] theorem Nh {T p i off} : isB (.ifa T p i off)=false:=zR
@[simp] theorem Ni {T n} : isB (.ifi T n)=false:=zR
@[simp] theorem Nr {k es} : isB (.slv k es)=false:=zR
@[simp] theorem Ng {g ds cs} : isB (.fny g ds cs)=false:=zR
@[simp] theorem E4 : cq (.any)=true:=zR
@[simp] theorem Fa {k n} : cq (.int k n)=false:=zR
@[simp] theorem BR {b} : cq (.bool b)=false:=zR
@[simp] theorem Fj {s} : cq (.str s)=false:=zR
@[simp] theorem BS : cq (.nilp)=false:=zR
@[simp] theorem BT : cq (.nils)=false:=zR
@[simp] theorem EZ {ds} : cq (.agg ds)=false:=zR
@[simp] theorem Fm {ds} : cq (.tup ds)=false:=zR
@[simp] theorem IH {es} : cq (.sl es)=false:=zR
@[simp] theorem Fd {ds} : cq (.ptr ds)=false:=zR
@[simp] theorem IF {g ds} : cq (.fn g ds)=false:=zR
@[simp] theorem Fc {sz es} : cq (.own sz es)=false:=zR
@[simp] theorem E5 {sz es} : cq (.blk sz es)=false:=zR
@[simp] theorem IG {kt et ks vs} : cq (.mp kt et ks vs)=false:=zR
@[simp] theorem Fb {b} : cq (.mrf b)=false:=zR
@[simp] theorem Ff {p k n} : cq (.ref p k n)=false:=zR
@[simp] theorem EY {p i off} : cq (.adr p i off)=false:=zR
@[simp] theorem E0 {ds} : cq (.agx ds)=false:=zR
@[simp] theorem Fk {ds} : cq (.tpx ds)=false:=zR
@[simp] theorem Fe {ds} : cq (.ptx ds)=false:=zR
@[simp] theorem Fg {n sz ds} : cq (.rfx n sz ds)=false:=zR
@[simp] theorem E6 {g ds} : cq (.fnx g ds)=false:=zR
@[simp] theorem E8 {T p i off} : cq (.ifa T p i off)=false:=zR
@[simp] theorem E9 {T n} : cq (.ifi T n)=false:=zR
@[simp] theorem Fh {k es} : cq (.slv k es)=false:=zR
@[simp] theorem E7 {g ds cs} : cq (.fny g ds cs)=false:=zR
@[simp] theorem zK : cellsOf (.any)=[.any]:=zR
@[simp] theorem zT {k n} : cellsOf (.int k n)=[.int k n]:=zR
@[simp] theorem xn {b} : cellsOf (.bool b)=[.bool b]:=zR
@[simp] theorem z8 {s} : cellsOf (.str s)=[.str s]:=zR
@[simp] theorem xp : cellsOf (.nilp)=[.nilp]:=zR
@[simp] theorem xq : cellsOf (.nils)=[.nils]:=zR
@[simp] theorem zH {ds} : cellsOf (.agg ds)=ds:=zR
@[simp] theorem Ab {ds} : cellsOf (.tup ds)=[.tup ds]:=zR
@[simp] theorem Bo {es} : cellsOf (.sl es)=[.sl es]:=zR
@[simp] theorem zW {ds} : cellsOf (.ptr ds)=[.ptr ds]:=zR
@[simp] theorem Bm {g ds} : cellsOf (.fn g ds)=[.fn g ds]:=zR
@[simp] theorem zV {sz es} : cellsOf (.own sz es)=[.own sz es]:=zR
@[simp] theorem zM {sz es} : cellsOf (.blk sz es)=[.blk sz es]:=zR
@[simp] theorem Bn {kt et ks vs} : cellsOf (.mp kt et ks vs)=[.mp kt et ks vs]:=zR
@[simp] theorem zU {b} : cellsOf (.mrf b)=[.mrf b]:=zR
@[simp] theorem zY {p k n} : cellsOf (.ref p k n)=[.ref p k n]:=zR
@[simp] theorem zG {p i off} : cellsOf (.adr p i off)=[.adr p i off]:=zR
@[simp] theorem zJ {ds} : cellsOf (.agx ds)=[.agx ds]:=zR
@[simp] theorem Aa {ds} : cellsOf (.tpx ds)=[.tpx ds]:=zR
@[simp] theorem zX {ds} : cellsOf (.ptx ds)=[.ptx ds]:=zR
@[simp] theorem zZ {n sz ds} : cellsOf (.rfx n sz ds)=[.rfx n sz ds]:=zR
@[simp] theorem zN {g ds} : cellsOf (.fnx g ds)=[.fnx g ds]:=zR
@[simp] theorem zQ {T p i off} : cellsOf (.ifa T p i off)=[.ifa T p i off]:=zR
@[simp] theorem zS {T n} : cellsOf (.ifi T n)=[.ifi T n]:=zR
@[simp] theorem z6 {k es} : cellsOf (.slv k es)=[.slv k es]:=zR
@[simp] theorem zO {g ds cs} : cellsOf (.fny g ds cs)=[.fny g ds cs]:=zR
@[simp] theorem DA : bP (.any)=.any:=zR
@[simp] theorem DG {k n} : bP (.int k n)=.int k n:=zR
@[simp] theorem Bg {b} : bP (.bool b)=.bool b:=zR
@[simp] theorem DP {s} : bP (.str s)=.str s:=zR
@[simp] theorem Bh : bP (.nilp)=.nilp:=zR
@[simp] theorem Bi : bP (.nils)=.nils:=zR
@[simp] theorem Dy {ds} : bP (.agg ds)=.agg ds:=zR
@[simp] theorem DR {ds} : bP (.tup ds)=.tup ds:=zR
@[simp] theorem GX {es} : bP (.sl es)=.sl es:=zR
@[simp] theorem DJ {ds} : bP (.ptr ds)=.ptr ds:=zR
@[simp] theorem GV {g ds} : bP (.fn g ds)=.fn g ds:=zR
@[simp] theorem DI {sz es} : bP (.own sz es)=.own sz es:=zR
@[simp] theorem DB {sz es} : bP (.blk sz es)=.blk sz es:=zR
@[simp] theorem GW {kt et ks vs} : bP (.mp kt et ks vs)=.mp kt et ks vs:=zR
@[simp] theorem DH {b} : bP (.mrf b)=.mrf b:=zR
@[simp] theorem DL {p k n} : bP (.ref p k n)=.ref p k n:=zR
@[simp] theorem Dx {p i off} : bP (.adr p i off)=.adr p i off:=zR
@[simp] theorem Dz {ds} : bP (.agx ds)=.agg ds:=zR
@[simp] theorem DQ {ds} : bP (.tpx ds)=.tpx ds:=zR
@[simp] theorem DK {ds} : bP (.ptx ds)=.ptx ds:=zR
@[simp] theorem DM {n sz ds} : bP (.rfx n sz ds)=.rfx n sz ds:=zR
@[simp] theorem DC {g ds} : bP (.fnx g ds)=.fnx g ds:=zR
@[simp] theorem DE {T p i off} : bP (.ifa T p i off)=.ifa T p i off:=zR
@[simp] theorem DF {T n} : bP (.ifi T n)=.ifi T n:=zR
@[simp] theorem DN {k es} : bP (.slv k es)=.slv k es:=zR
@[simp] theorem DD {g ds cs} : bP (.fny g ds cs)=.fny g ds cs:=zR
@[simp] theorem D6 : bq (.any)=.any:=zR
@[simp] theorem Ec {k n} : bq (.int k n)=.int k n:=zR
@[simp] theorem Bj {b} : bq (.bool b)=.bool b:=zR
@[simp] theorem El {s} : bq (.str s)=.str s:=zR
@[simp] theorem Bk : bq (.nilp)=.nilp:=zR
@[simp] theorem Bl : bq (.nils)=.nils:=zR
@[simp] theorem D4 {ds} : bq (.agg ds)=.agg ds:=zR
@[simp] theorem En {ds} : bq (.tup ds)=.tup ds:=zR
@[simp] theorem Hn {es} : bq (.sl es)=.sl es:=zR
@[simp] theorem Ef {ds} : bq (.ptr ds)=.ptr ds:=zR
@[simp] theorem Hl {g ds} : bq (.fn g ds)=.fn g ds:=zR
@[simp] theorem Ee {sz es} : bq (.own sz es)=.sl es:=zR
@[simp] theorem D7 {sz es} : bq (.blk sz es)=.blk sz es:=zR
@[simp] theorem Hm {kt et ks vs} : bq (.mp kt et ks vs)=.mp kt et ks vs:=zR
@[simp] theorem Ed {b} : bq (.mrf b)=.mrf b:=zR
@[simp] theorem Eh {p k n} : bq (.ref p k n)=.ref p k n:=zR
@[simp] theorem D3 {p i off} : bq (.adr p i off)=.adr p i off:=zR
@[simp] theorem D5 {ds} : bq (.agx ds)=.agx ds:=zR
@[simp] theorem Em {ds} : bq (.tpx ds)=.tpx ds:=zR
@[simp] theorem Eg {ds} : bq (.ptx ds)=.ptx ds:=zR
@[simp] theorem Ei {n sz ds} : bq (.rfx n sz ds)=.rfx n sz ds:=zR
@[simp] theorem D8 {g ds} : bq (.fnx g ds)=.fnx g ds:=zR
@[simp] theorem Ea {T p i off} : bq (.ifa T p i off)=.ifa T p i off:=zR
@[simp] theorem Eb {T n} : bq (.ifi T n)=.ifi T n:=zR
@[simp] theorem Ej {k es} : bq (.slv k es)=.slv k es:=zR
@[simp] theorem D9 {g ds cs} : bq (.fny g ds cs)=.fny g ds cs:=zR
@[simp] theorem Av : aJ (.any)=[]:=zR
@[simp] theorem AB {k n} : aJ (.int k n)=[]:=zR
@[simp] theorem x8 {b} : aJ (.bool b)=[]:=zR
@[simp] theorem AL {s} : aJ (.str s)=[]:=zR
@[simp] theorem x9 : aJ (.nilp)=[]:=zR
@[simp] theorem ya : aJ (.nils)=[]:=zR
@[simp] theorem At {ds} : aJ (.agg ds)=[]:=zR
@[simp] theorem AN {ds} : aJ (.tup ds)=[]:=zR
@[simp] theorem Ci {es} : aJ (.sl es)=[]:=zR
@[simp] theorem AE {ds} : aJ (.ptr ds)=[]:=zR
@[simp] theorem Cf {g ds} : aJ (.fn g ds)=[]:=zR
@[simp] theorem AD {sz es} : aJ (.own sz es)=[]:=zR
@[simp] theorem Aw {sz es} : aJ (.blk sz es)=[]:=zR
@[simp] theorem Cg {kt et ks vs} : aJ (.mp kt et ks vs)=[]:=zR
@[simp] theorem AC {b} : aJ (.mrf b)=[b]:=zR
@[simp] theorem AH {p k n} : aJ (.ref p k n)=[p.root]:=zR
@[simp] theorem As {p i off} : aJ (.adr p i off)=[p.root]:=zR
@[simp] theorem Au {ds} : aJ (.agx ds)=[]:=zR
@[simp] theorem AM {ds} : aJ (.tpx ds)=[]:=zR
@[simp] theorem AF {ds} : aJ (.ptx ds)=[]:=zR
@[simp] theorem AI {n sz ds} : aJ (.rfx n sz ds)=[]:=zR
@[simp] theorem Ax {g ds} : aJ (.fnx g ds)=[]:=zR
@[simp] theorem Az {T p i off} : aJ (.ifa T p i off)=[p.root]:=zR
@[simp] theorem AA {T n} : aJ (.ifi T n)=[]:=zR
@[simp] theorem AJ {k es} : aJ (.slv k es)=[]:=zR
@[simp] theorem Ay {g ds cs} : aJ (.fny g ds cs)=[]:=zR
@[simp] theorem Cm : bj (.any)=[]:=zR
@[simp] theorem Ct {k n} : bj (.int k n)=[]:=zR
@[simp] theorem AO {b} : bj (.bool b)=[]:=zR
@[simp] theorem CD {s} : bj (.str s)=[]:=zR
@[simp] theorem AP : bj (.nilp)=[]:=zR
@[simp] theorem AQ : bj (.nils)=[]:=zR
@[simp] theorem Ck {ds} : bj (.agg ds)=[]:=zR
@[simp] theorem CF {ds} : bj (.tup ds)=[]:=zR
@[simp] theorem Gd {es} : bj (.sl es)=[]:=zR
@[simp] theorem Cw {ds} : bj (.ptr ds)=[]:=zR
@[simp] theorem Gb {g ds} : bj (.fn g ds)=[]:=zR
@[simp] theorem Cv {sz es} : bj (.own sz es)=[]:=zR
@[simp] theorem Co {sz es} : bj (.blk sz es)=[]:=zR
@[simp] theorem Gc {kt et ks vs} : bj (.mp kt et ks vs)=[]:=zR
@[simp] theorem Cu {b} : bj (.mrf b)=[b]:=zR
@[simp] theorem Cy {p k n} : bj (.ref p k n)=[p.root]:=zR
@[simp] theorem Cj {p i off} : bj (.adr p i off)=[p.root]:=zR
@[simp] theorem Cl {ds} : bj (.agx ds)=ds.flatMap aJ:=zR
@[simp] theorem CE {ds} : bj (.tpx ds)=ds.flatMap aJ:=zR
@[simp] theorem Cx {ds} : bj (.ptx ds)=ds.flatMap aJ:=zR
@[simp] theorem Cz {n sz ds} : bj (.rfx n sz ds)=ds.flatMap aJ:=zR
@[simp] theorem Cp {g ds} : bj (.fnx g ds)=ds.flatMap aJ:=zR
@[simp] theorem Cr {T p i off} : bj (.ifa T p i off)=[p.root]:=zR
@[simp] theorem Cs {T n} : bj (.ifi T n)=[]:=zR
@[simp] theorem CA {k es} : bj (.slv k es)=[]:=zR
@[simp] theorem Cq {g ds cs} : bj (.fny g ds cs)=(ds.flatMap aJ++cs.flatMap aJ):=zR
@[simp] theorem Mw {f : Nat -> D} : dp1 f (.any)=(.any):=zR
@[simp] theorem MC {f : Nat -> D} {k n} : dp1 f (.int k n)=(.int k n):=zR
@[simp] theorem Hx {f : Nat -> D} {b} : dp1 f (.bool b)=(.bool b):=zR
@[simp] theorem ML {f : Nat -> D} {s} : dp1 f (.str s)=(.str s):=zR
@[simp] theorem Hy {f : Nat -> D} : dp1 f (.nilp)=(.nilp):=zR
@[simp] theorem Hz {f : Nat -> D} : dp1 f (.nils)=(.nils):=zR
@[simp] theorem Mu {f : Nat -> D} {ds} : dp1 f (.agg ds)=(.agg ds):=zR
@[simp] theorem MN {f : Nat -> D} {ds} : dp1 f (.tup ds)=(.tup ds):=zR
@[simp] theorem Rd {f : Nat -> D} {es} : dp1 f (.sl es)=(.sl es):=zR
@[simp] theorem MF {f : Nat -> D} {ds} : dp1 f (.ptr ds)=(.ptr ds):=zR
@[simp] theorem Rb {f : Nat -> D} {g ds} : dp1 f (.fn g ds)=(.fn g ds):=zR
@[simp] theorem ME {f : Nat -> D} {sz es} : dp1 f (.own sz es)=(.own sz es):=zR
@[simp] theorem Mx {f : Nat -> D} {sz es} : dp1 f (.blk sz es)=(.blk sz es):=zR
@[simp] theorem Rc {f : Nat -> D} {kt et ks vs} : dp1 f (.mp kt et ks vs)=(.mp kt et ks vs):=zR
@[simp] theorem MD {f : Nat -> D} {b} : dp1 f (.mrf b)=(.mrf b):=zR
@[simp] theorem MH {f : Nat -> D} {p k n} : dp1 f (.ref p k n)=(match bu f p with | some (_,es)=>.sl (((es.drop k).take n).map fun e=>e.map bq) | none=>.any):=zR
@[simp] theorem Mt {f : Nat -> D} {p i off} : dp1 f (.adr p i off)=(match bu f p with | some (_,es)=>.ptr (((es[i]?.getD []).drop off).map bq) | none=>.any):=zR
@[simp] theorem Mv {f : Nat -> D} {ds} : dp1 f (.agx ds)=(.agx ds):=zR
@[simp] theorem MM {f : Nat -> D} {ds} : dp1 f (.tpx ds)=(.tpx ds):=zR
@[simp] theorem MG {f : Nat -> D} {ds} : dp1 f (.ptx ds)=(.ptx ds):=zR
@[simp] theorem MI {f : Nat -> D} {n sz ds} : dp1 f (.rfx n sz ds)=(.rfx n sz ds):=zR
@[simp] theorem My {f : Nat -> D} {g ds} : dp1 f (.fnx g ds)=(.fnx g ds):=zR
@[simp] theorem MA {f : Nat -> D} {T p i off} : dp1 f (.ifa T p i off)=(.ifa T p i off):=zR
@[simp] theorem MB {f : Nat -> D} {T n} : dp1 f (.ifi T n)=(.ifi T n):=zR
@[simp] theorem MJ {f : Nat -> D} {k es} : dp1 f (.slv k es)=(.slv k es):=zR
@[simp] theorem Mz {f : Nat -> D} {g ds cs} : dp1 f (.fny g ds cs)=(.fny g ds cs):=zR
@[simp] theorem Rh {f : Nat -> D} : dp f (.any)=(.any):=zR
@[simp] theorem Rn {f : Nat -> D} {k n} : dp f (.int k n)=(.int k n):=zR
@[simp] theorem MR {f : Nat -> D} {b} : dp f (.bool b)=(.bool b):=zR
@[simp] theorem Rx {f : Nat -> D} {s} : dp f (.str s)=(.str s):=zR
@[simp] theorem MS {f : Nat -> D} : dp f (.nilp)=(.nilp):=zR
@[simp] theorem MT {f : Nat -> D} : dp f (.nils)=(.nils):=zR
@[simp] theorem Rf {f : Nat -> D} {ds} : dp f (.agg ds)=(.agg ds):=zR
@[simp] theorem Rz {f : Nat -> D} {ds} : dp f (.tup ds)=(.tup ds):=zR
@[simp] theorem SA {f : Nat -> D} {es} : dp f (.sl es)=(.sl es):=zR
@[simp] theorem Rq {f : Nat -> D} {ds} : dp f (.ptr ds)=(.ptr ds):=zR
@[simp] theorem Sy {f : Nat -> D} {g ds} : dp f (.fn g ds)=(.fn g ds):=zR
@[simp] theorem Rp {f : Nat -> D} {sz es} : dp f (.own sz es)=(.own sz es):=zR
@[simp] theorem Ri {f : Nat -> D} {sz es} : dp f (.blk sz es)=(.blk sz es):=zR
@[simp] theorem Sz {f : Nat -> D} {kt et ks vs} : dp f (.mp kt et ks vs)=(.mp kt et ks vs):=zR
@[simp] theorem Ro {f : Nat -> D} {b} : dp f (.mrf b)=(.mrf b):=zR
@[simp] theorem Rt {f : Nat -> D} {p k n} : dp f (.ref p k n)=(match bu f p with | some (_,es)=>.sl (((es.drop k).take n).map fun e=>e.map bq) | none=>.any):=zR
@[simp] theorem Re {f : Nat -> D} {p i off} : dp f (.adr p i off)=(match bu f p with | some (_,es)=>.ptr (((es[i]?.getD []).drop off).map bq) | none=>.any):=zR
@[simp] theorem Rg {f : Nat -> D} {ds} : dp f (.agx ds)=(.agg (ds.map (dp1 f))):=zR
@[simp] theorem Ry {f : Nat -> D} {ds} : dp f (.tpx ds)=(.tup (ds.map (dp1 f))):=zR
@[simp] theorem Rr {f : Nat -> D} {ds} : dp f (.ptx ds)=(.ptr (ds.map (dp1 f))):=zR
@[simp] theorem Ru {f : Nat -> D} {n sz ds} : dp f (.rfx n sz ds)=.rfx n sz ds:=zR
@[simp] theorem Rj {f : Nat -> D} {g ds} : dp f (.fnx g ds)=(.fn g (ds.map (dp1 f))):=zR
@[simp] theorem Rl {f : Nat -> D} {T p i off} : dp f (.ifa T p i off)=(.ifa T p i off):=zR
@[simp] theorem Rm {f : Nat -> D} {T n} : dp f (.ifi T n)=(.ifi T n):=zR
@[simp] theorem Rv {f : Nat -> D} {k es} : dp f (.slv k es)=(.slv k es):=zR
@[simp] theorem Rk {f : Nat -> D} {g ds cs} : dp f (.fny g ds cs)=(.fny g ds cs):=zR
@[simp] theorem Et {f : Nat -> D} : aY f (.any)=(True):=zR
@[simp] theorem Ez {f : Nat -> D} {k n} : aY f (.int k n)=(True):=zR
@[simp] theorem Bw {f : Nat -> D} {b} : aY f (.bool b)=(True):=zR
@[simp] theorem EI {f : Nat -> D} {s} : aY f (.str s)=(True):=zR
@[simp] theorem Bx {f : Nat -> D} : aY f (.nilp)=(True):=zR
@[simp] theorem By {f : Nat -> D} : aY f (.nils)=(True):=zR
@[simp] theorem Er {f : Nat -> D} {ds} : aY f (.agg ds)=(True):=zR
@[simp] theorem EK {f : Nat -> D} {ds} : aY f (.tup ds)=(True):=zR
@[simp] theorem HC {f : Nat -> D} {es} : aY f (.sl es)=(True):=zR
@[simp] theorem EC {f : Nat -> D} {ds} : aY f (.ptr ds)=(True):=zR
@[simp] theorem HA {f : Nat -> D} {g ds} : aY f (.fn g ds)=(True):=zR
@[simp] theorem EB {f : Nat -> D} {sz es} : aY f (.own sz es)=(True):=zR
@[simp] theorem Eu {f : Nat -> D} {sz es} : aY f (.blk sz es)=(True):=zR
@[simp] theorem HB {f : Nat -> D} {kt et ks vs} : aY f (.mp kt et ks vs)=(True):=zR
@[simp] theorem EA {f : Nat -> D} {b} : aY f (.mrf b)=(False):=zR
@[simp] theorem EE {f : Nat -> D} {p k n} : aY f (.ref p k n)=(match bu f p with | some (_,es)=>k + n <= es.length | none=>False):=zR
@[simp] theorem Ep {f : Nat -> D} {p i off} : aY f (.adr p i off)=(match bu f p with | some _=>True | none=>False):=zR
@[simp] theorem Es {f : Nat -> D} {ds} : aY f (.agx ds)=(True):=zR
@[simp] theorem EJ {f : Nat -> D} {ds} : aY f (.tpx ds)=(True):=zR
@[simp] theorem ED {f : Nat -> D} {ds} : aY f (.ptx ds)=(True):=zR
@[simp] theorem EF {f : Nat -> D} {n sz ds} : aY f (.rfx n sz ds)=(True):=zR
@[simp] theorem Ev {f : Nat -> D} {g ds} : aY f (.fnx g ds)=(True):=zR
@[simp] theorem Ex {f : Nat -> D} {T p i off} : aY f (.ifa T p i off)=False:=zR
@[simp] theorem Ey {f : Nat -> D} {T n} : aY f (.ifi T n)=True:=zR
@[simp] theorem EG {f : Nat -> D} {k es} : aY f (.slv k es)=True:=zR
@[simp] theorem Ew {f : Nat -> D} {g ds cs} : aY f (.fny g ds cs)=True:=zR
@[simp] theorem HG {f : Nat -> D} : bD f (.any)=(True):=zR
@[simp] theorem HM {f : Nat -> D} {k n} : bD f (.int k n)=(True):=zR
@[simp] theorem EL {f : Nat -> D} {b} : bD f (.bool b)=(True):=zR
@[simp] theorem HV {f : Nat -> D} {s} : bD f (.str s)=(True):=zR
@[simp] theorem EM {f : Nat -> D} : bD f (.nilp)=(True):=zR
@[simp] theorem EN {f : Nat -> D} : bD f (.nils)=(True):=zR
@[simp] theorem HE {f : Nat -> D} {ds} : bD f (.agg ds)=(True):=zR
@[simp] theorem HX {f : Nat -> D} {ds} : bD f (.tup ds)=(True):=zR
@[simp] theorem MQ {f : Nat -> D} {es} : bD f (.sl es)=(True):=zR
@[simp] theorem HP {f : Nat -> D} {ds} : bD f (.ptr ds)=(True):=zR
@[simp] theorem MO {f : Nat -> D} {g ds} : bD f (.fn g ds)=(True):=zR
@[simp] theorem HO {f : Nat -> D} {sz es} : bD f (.own sz es)=(True):=zR
@[simp] theorem HH {f : Nat -> D} {sz es} : bD f (.blk sz es)=(True):=zR
@[simp] theorem MP {f : Nat -> D} {kt et ks vs} : bD f (.mp kt et ks vs)=(True):=zR
@[simp] theorem HN {f : Nat -> D} {b} : bD f (.mrf b)=(False):=zR
@[simp] theorem HR {f : Nat -> D} {p k n} : bD f (.ref p k n)=(match bu f p with | some (_,es)=>k + n <= es.length | none=>False):=zR
@[simp] theorem HD {f : Nat -> D} {p i off} : bD f (.adr p i off)=(match bu f p with | some _=>True | none=>False):=zR
@[simp] theorem HF {f : Nat -> D} {ds} : bD f (.agx ds)=(∀ d ∈ ds,aY f d):=zR
@[simp] theorem HW {f : Nat -> D} {ds} : bD f (.tpx ds)=(∀ d ∈ ds,aY f d):=zR
@[simp] theorem HQ {f : Nat -> D} {ds} : bD f (.ptx ds)=(∀ d ∈ ds,aY f d):=zR
@[simp] theorem HS {f : Nat -> D} {n sz ds} : bD f (.rfx n sz ds)=False:=zR
@[simp] theorem HI {f : Nat -> D} {g ds} : bD f (.fnx g ds)=(∀ d ∈ ds,aY f d):=zR
@[simp] theorem HK {f : Nat -> D} {T p i off} : bD f (.ifa T p i off)=False:=zR
@[simp] theorem HL {f : Nat -> D} {T n} : bD f (.ifi T n)=True:=zR
@[simp] theorem HT {f : Nat -> D} {k es} : bD f (.slv k es)=True:=zR
@[simp] theorem HJ {f : Nat -> D} {g ds cs} : bD f (.fny g ds cs)=False:=zR
@[simp] theorem PQ {p i0 o} : ldc p i0 o (.any)=.any:=zR
@[simp] theorem KI {m} : dP m (.any)=.any:=zR
@[simp] theorem PW {p i0 o k n} : ldc p i0 o (.int k n)=.int k n:=zR
@[simp] theorem KP {m k n} : dP m (.int k n)=.int k n:=zR
@[simp] theorem Kf {p i0 o b} : ldc p i0 o (.bool b)=.bool b:=zR
@[simp] theorem Ge {m b} : dP m (.bool b)=.bool b:=zR
@[simp] theorem P6 {p i0 o s} : ldc p i0 o (.str s)=.str s:=zR
@[simp] theorem KY {m s} : dP m (.str s)=.str s:=zR
@[simp] theorem Kg {p i0 o} : ldc p i0 o (.nilp)=.nilp:=zR
@[simp] theorem Gf {m} : dP m (.nilp)=.nilp:=zR
@[simp] theorem Kh {p i0 o} : ldc p i0 o (.nils)=.nils:=zR
@[simp] theorem PO {p i0 o ds} : ldc p i0 o (.agg ds)=.agg ds:=zR
@[simp] theorem KG {m ds} : dP m (.agg ds)=.agg ds:=zR
@[simp] theorem P8 {p i0 o ds} : ldc p i0 o (.tup ds)=.tup ds:=zR
@[simp] theorem K0 {m ds} : dP m (.tup ds)=.tup ds:=zR
@[simp] theorem Sa {p i0 o es} : ldc p i0 o (.sl es)=.sl es:=zR
@[simp] theorem Qk {m es} : dP m (.sl es)=.sl es:=zR
@[simp] theorem PZ {p i0 o ds} : ldc p i0 o (.ptr ds)=.ptr ds:=zR
@[simp] theorem KS {m ds} : dP m (.ptr ds)=.ptr ds:=zR
@[simp] theorem R8 {p i0 o g ds} : ldc p i0 o (.fn g ds)=.fn g ds:=zR
@[simp] theorem Qi {m g ds} : dP m (.fn g ds)=.fn g ds:=zR
@[simp] theorem PY {c i o sz es} : ldc (.r c) i o (.own sz es)=.ref (.n c i o) 0 es.length:=zR
@[simp] theorem KR {m sz es} : dP m (.own sz es)=.own sz es:=zR
@[simp] theorem PR {p i0 o sz es} : ldc p i0 o (.blk sz es)=.blk sz es:=zR
@[simp] theorem KJ {m sz es} : dP m (.blk sz es)=.blk sz es:=zR
@[simp] theorem R9 {p i0 o kt et ks vs} : ldc p i0 o (.mp kt et ks vs)=.mp kt et ks vs:=zR
@[simp] theorem Qj {m kt et ks vs} : dP m (.mp kt et ks vs)=.mp kt et ks vs:=zR
@[simp] theorem PX {p i0 o b} : ldc p i0 o (.mrf b)=.mrf b:=zR
@[simp] theorem KQ {m b} : dP m (.mrf b)=.mrf b:=zR
@[simp] theorem P1 {p i0 o q k n} : ldc p i0 o (.ref q k n)=.ref q k n:=zR
@[simp] theorem KV {m q k n} : dP m (.ref q k n)=.ref q k n:=zR
@[simp] theorem PN {p i0 o q i off} : ldc p i0 o (.adr q i off)=.adr q i off:=zR
@[simp] theorem KF {m q i off} : dP m (.adr q i off)=.adr q i off:=zR
@[simp] theorem PP {p i0 o ds} : ldc p i0 o (.agx ds)=.agx ds:=zR
@[simp] theorem KH {m ds} : dP m (.agx ds)=.agx ds:=zR
@[simp] theorem P7 {p i0 o ds} : ldc p i0 o (.tpx ds)=.tpx ds:=zR
@[simp] theorem KZ {m ds} : dP m (.tpx ds)=.tpx ds:=zR
@[simp] theorem P0 {p i0 o ds} : ldc p i0 o (.ptx ds)=.ptx ds:=zR
@[simp] theorem P2 {p i0 o n sz ds} : ldc p i0 o (.rfx n sz ds)=.rfx n sz ds:=zR
@[simp] theorem KU {m ds} : dP m (.ptx ds)=.ptx ds:=zR
@[simp] theorem KW {m n sz ds} : dP m (.rfx n sz ds)=.rfx n sz ds:=zR
@[simp] theorem PS {p i0 o g ds} : ldc p i0 o (.fnx g ds)=.fnx g ds:=zR
@[simp] theorem PU {p0 i0 o T p i off} : ldc p0 i0 o (.ifa T p i off)=.ifa T p i off:=zR
@[simp] theorem PV {p0 i0 o T n} : ldc p0 i0 o (.ifi T n)=.ifi T n:=zR
@[simp] theorem P4 {p0 i0 o k es} : ldc p0 i0 o (.slv k es)=.slv k es:=zR
@[simp] theorem PT {p0 i0 o g ds cs} : ldc p0 i0 o (.fny g ds cs)=.fny g ds cs:=zR
@[simp] theorem KL {m g ds} : dP m (.fnx g ds)=.fnx g ds:=zR
@[simp] theorem KN {m T p i off} : dP m (.ifa T p i off)=.ifa T p i off:=zR
@[simp] theorem KO {m T n} : dP m (.ifi T n)=.ifi T n:=zR
@[simp] theorem KX {m k es} : dP m (.slv k es)=.slv k es:=zR
@[simp] theorem KM {m g ds cs} : dP m (.fny g ds cs)=.fny g ds cs:=zR
@[simp] theorem Gg {m} : dP m .nils=if m=0 then .nils else .own m []:=zR
def slx (b : Bool) (es : List (List D)) : D:=match b,es with
 | true,[]=>.nils
 | _,es=>.sl es
@[simp] theorem ce {es} : slx false es=.sl es:=by cases es <;> rfl
@[simp] theorem LT {b x es} : slx b (x::es)=.sl (x::es):=by cases b <;> rfl
theorem fW (b : Bool) (es : List (List D)) : slx b es=.sl es \/ (slx b es=.nils /\ es=[]):=by cases b <;> cases es <;> simp [slx]
@[simp] theorem PJ {b es} : isV (slx b es)=true:=by cases b <;> cases es <;> rfl
@[simp] theorem Oh {b es} : isK (slx b es)=true:=by cases b <;> cases es <;> rfl
@[simp] theorem O1 {b es} : isP (slx b es)=true:=by cases b <;> cases es <;> rfl
@[simp] theorem Po {b es} : isS (slx b es)=true:=by cases b <;> cases es <;> rfl
@[simp] theorem I9 {b es} : aK (slx b es)=true:=by cases b <;> cases es <;> rfl
@[simp] theorem OG {b es} : isO (slx b es)=false:=by cases b <;> cases es <;> rfl
@[simp] theorem Fi {b es} : cq (slx b es)=false:=by cases b <;> cases es <;> rfl
@[simp] theorem Ns {b es} : isB (slx b es)=false:=by cases b <;> cases es <;> rfl
@[simp] theorem z7 {b es} : cellsOf (slx b es)=[slx b es]:=by cases b <;> cases es <;> rfl
@[simp] theorem DO {b es} : bP (slx b es)=slx b es:=by cases b <;> cases es <;> rfl
@[simp] theorem Ek {b es} : bq (slx b es)=slx b es:=by cases b <;> cases es <;> rfl
@[simp] theorem AK {b es} : aJ (slx b es)=[]:=by cases b <;> cases es <;> rfl
@[simp] theorem CB {b es} : bj (slx b es)=[]:=by cases b <;> cases es <;> rfl
@[simp] theorem MK {f : Nat -> D} {b es} : dp1 f (slx b es)=slx b es:=by cases b <;> cases es <;> rfl
@[simp] theorem Rw {f : Nat -> D} {b es} : dp f (slx b es)=slx b es:=by cases b <;> cases es <;> rfl
@[simp] theorem EH {f : Nat -> D} {b es} : aY f (slx b es)=True:=by cases b <;> cases es <;> rfl
@[simp] theorem HU {f : Nat -> D} {b es} : bD f (slx b es)=True:=by cases b <;> cases es <;> rfl
@[simp] theorem P5 {p i o b es} : ldc p i o (slx b es)=slx b es:=by cases b <;> cases es <;> rfl
def rf (d : D) (K : Nat -> Prop) (_ : Tag K) : Prop:=match d with
 | .sl es=>K es.length
 | .nils=>K 0
 | .ref _ _ n=>K n
 | .rfx n _ _=>K n
 | _=>False
@[simp] theorem Km {n sz ds K u} : rf (.rfx n sz ds) K u=K n:=zR
@[simp] theorem P9 {es K u} : rf (.sl es) K u=K es.length:=zR
@[simp] theorem FX {K u} : rf .nils K u=K 0:=zR
@[simp] theorem Kl {p k n K u} : rf (.ref p k n) K u=K n:=zR
@[simp] theorem Kn {b es K u} : rf (slx b es) K u=K es.length:=by cases b <;> cases es <;> rfl
@[simp] theorem Gw {n ds} : nw true n ds=.agg (ds.take n):=zR
@[simp] theorem CQ {n ds} : nw false n ds=ds.headD .any:=zR
@[simp] theorem Kp {t} : ac [] t=.any:=rfl
def lk (b : Bool) (d : D) (r : Env) (t : Nat) : D:=match b with
 | true=>d
 | false=>ac r t
@[simp] theorem Qa {d r t} : lk true d r t=d:=rfl
@[simp] theorem Ko {d r t} : lk false d r t=ac r t:=rfl
@[simp] theorem FY {s d r t} : ac ((s,d)::r) t=lk (s == t) d r t:=by
 by_cases h : s=t
 ·subst h;simp [ac]
 ·rw [show (s == t)=false by simp [h]];simp [ac,h]
@[simp] theorem Fz {e} : pP [] e=[]:=zR
@[simp] theorem BX {t ts e} : pP (t::ts) e=(t,ac e t)::pP ts e:=zR
@[simp] theorem AV : lO []=[]:=zR
@[simp] theorem yz {t d r} : lO ((t,d)::r)=bj d++lO r:=zR
@[simp] theorem GU {e ks} : s7 e [] ks=ks:=zR
@[simp] theorem Dw {e r rs ks} : s7 e (r::rs) ks=s7 e rs (if (ks.map (·.1)).contains r then ks else ks++[(r,ac e r)]):=zR
def fJ (f : Nat -> D) (d : D) (ns : List Nat) (K : List D -> List Nat -> Prop) (_ : Tag K) : Prop:=fg f d ns K
def fk (f : Nat -> D) (d : D) (K : D -> List Nat -> Prop) (_ : Tag K) : Prop:=dI f d K
def pg (f : Nat -> D) (ds : List D) (K : List D -> List Nat -> Prop) (_ : Tag K) : Prop:=kV f ds K
def uq (b n : Nat) (x : D) (K : D -> List Nat -> Prop) (_ : Tag K) : Prop:=match x with
 | .blk sz es=>es.length=n /\ (∀ e ∈ es,∀ c ∈ e,aK c=true) /\ K (.own sz es) [b]
 | _=>False
@[simp] theorem GK {b n sz es K u} : uq b n (.blk sz es) K u=(es.length=n /\ (∀ e ∈ es,∀ c ∈ e,aK c=true) /\ K (.own sz es) [b]):=zR
theorem dH {f : Nat -> D} {d : D} {K : D -> List Nat -> Prop} {u} (h : aK d=true) : fk f d K u=K d []:=by
 cases d <;> simp [aK] at h <;> simp [fk,dI,aK]
@[simp] theorem Do {f b k n K u} : fk f (.ref (.r b) k n) K u=(k=0 /\ uq b n (f b) K ⟨⟩):=by
 simp only [fk,dI,uq]
 cases f b <;> rfl
theorem eI {f : Nat -> D} {d : D} {K : List D -> List Nat -> Prop} {u} (h : aK d=true) : fJ f d [] K u=K [d] []:=by
 cases d <;> simp [aK] at h <;> simp [fJ,fg,dI,aK,eK]
@[simp] theorem GN {f ds K u} : fJ f (.agg ds) [] K u=((∀ c ∈ ds,aK c=true) /\ K ds []):=by simp [fJ,fg,eK]
@[simp] theorem GO {f ds K u} : fJ f (.agx ds) [] K u=pg f ds (fun cs bs=>bH bs=true /\ K cs bs) ⟨⟩:=by simp [fJ,pg,fg,eK]
@[simp] theorem GR {f b k n K u} : fJ f (.ref (.r b) k n) [] K u=(k=0 /\ uq b n (f b) (fun c bs=>K [c] bs) ⟨⟩):=by
 simp only [fJ,fg,dI,uq,eK,if_true,true_or,true_and]
 cases f b <;> rfl
@[simp] theorem Dr {f K u} : pg f [] K u=K [] []:=zR
@[simp] theorem Bf {f d ds K u} : pg f (d::ds) K u=fk f d (fun c bs=>pg f ds (fun cs bs'=>K (c::cs) (bs++bs')) ⟨⟩) ⟨⟩:=zR
@[simp] theorem Dm {f k n K u} : fk f (.int k n) K u=K (.int k n) []:=dH rfl
@[simp] theorem GP {f k n K u} : fJ f (.int k n) [] K u=K [.int k n] []:=eI rfl
@[simp] theorem Bc {f n K u} : fk f (.bool n) K u=K (.bool n) []:=dH rfl
@[simp] theorem Ds {f n K u} : fJ f (.bool n) [] K u=K [.bool n] []:=eI rfl
@[simp] theorem Dq {f n K u} : fk f (.str n) K u=K (.str n) []:=dH rfl
@[simp] theorem GT {f n K u} : fJ f (.str n) [] K u=K [.str n] []:=eI rfl
@[simp] theorem Bd {f  K u} : fk f .nilp K u=K .nilp []:=dH rfl
@[simp] theorem Dt {f  K u} : fJ f .nilp [] K u=K [.nilp] []:=eI rfl
@[simp] theorem Be {f  K u} : fk f .nils K u=K .nils []:=dH rfl
@[simp] theorem Du {f  K u} : fJ f .nils [] K u=K [.nils] []:=eI rfl
@[simp] theorem GM {f n K u} : fk f (.sl n) K u=K (.sl n) []:=dH rfl
@[simp] theorem Md {f n K u} : fJ f (.sl n) [] K u=K [.sl n] []:=eI rfl
@[simp] theorem Dn {f n K u} : fk f (.ptr n) K u=K (.ptr n) []:=dH rfl
@[simp] theorem GQ {f n K u} : fJ f (.ptr n) [] K u=K [.ptr n] []:=eI rfl
@[simp] theorem GL {f g n K u} : fk f (.fn g n) K u=K (.fn g n) []:=dH rfl
@[simp] theorem Mc {f g n K u} : fJ f (.fn g n) [] K u=K [.fn g n] []:=eI rfl
@[simp] theorem Dp {f b n K u} : fk f (slx b n) K u=K (slx b n) []:=dH (by simp)
@[simp] theorem GS {f b n K u} : fJ f (slx b n) [] K u=K [slx b n] []:=eI (by simp)
def oQ (f : Nat -> D) (sz : Nat) (ps : List (Nat × Opd)) (es : List (List D)) (bs : List Nat) (K : List (List D) -> List Nat -> Prop) (_ : Tag K) : Prop:=eC f sz [] ps es bs K
@[simp] theorem CR {f sz es bs K u} : oQ f sz [] es bs K u=K es bs:=zR
@[simp] theorem AU {f sz i x ps es bs K u} : oQ f sz ((i,x)::ps) es bs K u=(i < es.length /\ fJ f (vd f x) [] (fun cs bs'=>cs.length=sz /\ oQ f sz ps (es.set i cs) (bs++bs') K ⟨⟩) ⟨⟩):=zR
def ii (f : Nat -> D) (mv : Bool) (d : D) (sz : Nat) (K : List (List D) -> List Nat -> Prop) (_ : Tag K) : Prop:=eH f mv d sz K
def CY (b n sz : Nat) (x : D) (K : List (List D) -> List Nat -> Prop) (_ : Tag K) : Prop:=match x with
 | .blk sz' es=>sz'=sz /\ es.length=n /\ (∀ e ∈ es,∀ c ∈ e,isC c=true) /\ K es [b]
 | _=>False
@[simp] theorem LC {b n sz sz' es K u} : CY b n sz (.blk sz' es) K u=(sz'=sz /\ es.length=n /\ (∀ e ∈ es,∀ c ∈ e,isC c=true) /\ K es [b]):=zR
def CZ (k n sz : Nat) (x : Option (Nat × List (List D))) (K : List (List D) -> List Nat -> Prop) (_ : Tag K) : Prop:=match x with
 | some (sz',es)=>sz'=sz /\ k + n <= es.length /\ (∀ e ∈ (es.drop k).take n,∀ c ∈ e,aK c=true) /\ K ((es.drop k).take n) []
 | none=>False
@[simp] theorem Gz {k n sz sz' es K u} : CZ k n sz (some (sz',es)) K u=(sz'=sz /\ k + n <= es.length /\ (∀ e ∈ (es.drop k).take n,∀ c ∈ e,aK c=true) /\ K ((es.drop k).take n) []):=zR
@[simp] theorem C0 {f mv sz K u} : ii f mv .nils sz K u=K [] []:=zR
@[simp] theorem LJ {f mv es sz K u} : ii f mv (.sl es) sz K u=((∀ e ∈ es,e.length=sz /\ ∀ c ∈ e,aK c=true) /\ K es []):=zR
@[simp] theorem GD {f mv b es sz K u} : ii f mv (slx b es) sz K u=((∀ e ∈ es,e.length=sz /\ ∀ c ∈ e,aK c=true) /\ K es []):=by
 rcases fW b es with h | ⟨h,rfl⟩ <;> rw [h] <;> simp
@[simp] theorem LI {f b k n sz K u} : ii f true (.ref (.r b) k n) sz K u=(k=0 /\ CY b n sz (f b) K ⟨⟩):=by
 simp only [ii,eH,CY]
 cases f b <;> rfl
@[simp] theorem GC {f p k n sz K u} : ii f false (.ref p k n) sz K u=CZ k n sz (bu f p) K ⟨⟩:=by
 simp only [ii,eH,CZ]
 cases bu f p <;> rfl
def dJ (f : Nat -> D) (o : Option Opd) (dflt : Nat) (K : Nat -> Prop) (_ : Tag K) : Prop:=dU f o dflt K
def Ha (d : D) (K : Nat -> Prop) (_ : Tag K) : Prop:=match d with
 | .int _ n=>0 <= n /\ K n.toNat
 | _=>False
@[simp] theorem Hb {k n K u} : Ha (.int k n) K u=(0 <= n /\ K n.toNat):=zR
@[simp] theorem zB {f n K u} : dJ f none n K u=K n:=zR
@[simp] theorem zD {f x n K u} : dJ f (some x) n K u=Ha (vd f x) K ⟨⟩:=zR
def iU (x : Option (List D)) (K : List D -> Prop) (_ : Tag K) : Prop:=match x with
 | some r=>K r
 | none=>False
@[simp] theorem GB {r K u} : iU (some r) K u=K r:=zR
@[simp] theorem GA {K u} : iU none K u=False:=zR
theorem iG {x : Option (List D)} {K : List D -> Prop} {u} : iU x K u=∃ r,x=some r /\ K r:=by
 cases x <;> simp [iU]
def mK (x : Option D) (K : Nat -> List (List D) -> Prop) (_ : Tag K) : Prop:=match x with
 | some (.own sz es)=>K sz es
 | _=>False
@[simp] theorem Ln {sz es K u} : mK (some (.own sz es)) K u=K sz es:=zR
theorem lM {x : Option D} {K : Nat -> List (List D) -> Prop} {u} : mK x K u=∃ sz es,x=some (.own sz es) /\ K sz es:=by
 cases x with
 | none=>simp [mK]
 | some d =>
  cases d <;> simp [mK]
  exact ⟨fun h=>⟨_,_,⟨rfl,rfl⟩,h⟩,by rintro ⟨_,_,⟨rfl,rfl⟩,h⟩;exact h⟩
def xk (x : Option D) (K : D -> Prop) (_ : Tag K) : Prop:=match x with
 | some d=>K d
 | none=>False
@[simp] theorem D2 {d K u} : xk (some d) K u=K d:=zR
theorem xm {x : Option D} {K : D -> Prop} {u} : xk x K u=∃ d,x=some d /\ K d:=by
 cases x <;> simp [xk]
def ek (x : D) (K : Nat -> List (List D) -> Prop) (_ : Tag K) : Prop:=match x with
 | .blk sz es=>K sz es
 | _=>False
@[simp] theorem G9 {sz es K u} : ek (.blk sz es) K u=K sz es:=zR
abbrev CC:=Nat -> List D -> D -> List D -> Prop
abbrev KT:=List (Nat × D) -> List (Nat × Bool) -> Prop
section
variable {C : CC} {Q : cu -> Env -> Prop} {e e' : Env} {d : D}
def wN (C : CC) (c : dG) (Q : cu -> Env -> Prop) (_ : Tag (c,Q)) (e : Env) : Prop:=wpN C c Q e
def Ar (C : CC) (c : dG) (Q : cu -> Env -> Prop) (_ : Tag (c,Q)) (e : Env) : Prop:=wpN C (.loop c) Q e
def tK (C : CC) (K : Env -> Prop) (ns : List aA) (_ : Tag (K,ns)) (e : Env) : Prop:=jg C K ns e
def rp (C : CC) (hs : List Nat) (K : Env -> Prop) (ns : List aA) (_ : Tag (K,ns)) (e : Env) (acc : List (List Nat × List Nat)) : Prop:=kR C hs K ns e acc
def IC (hs : List Nat) (acc : List (List Nat × List Nat)) : Prop:=jy hs acc.reverse=true
theorem ai {hs : List Nat} {acc : List (List Nat × List Nat)} (h : jy hs acc.reverse=true) : IC hs acc:=h
def Ag (C : CC) (K : Env -> Prop) (ns : List aA) (e : Env) : KT:=fun ws ks=>jg C K ns (ws++dO ks e)
def Hq (C : CC) (hs : List Nat) (K : Env -> Prop) (ns : List aA) (e : Env) (R : List Nat) (acc : List (List Nat × List Nat)) : KT:=fun ws ks=>wOk R ws ks=true /\ kR C hs K ns (ws++dO ks e) ((R,wrK ws ks)::acc)
def bN (Q : cu -> Env -> Prop) (_ : Tag Q) (t : cu) (e : Env) : Prop:=Q t e
def fin (res : List (Nat × Option (Nat × Bool))) (d : D) : cu -> Env -> Prop:=fun t e=>(match t with
   | .ext _=>False
   | _=>True) /\ eG res d e
def yH (C : CC) (y : dG) (Q : cu -> Env -> Prop) : cu -> Env -> Prop:=fun t e'=>match t with
  | .nrm=>wpN C y Q e'
  | t=>Q t e'
def og (id : Nat) (Q : cu -> Env -> Prop) : cu -> Env -> Prop:=fun t e'=>match t with
  | .ext i=>if i=id then Q .nrm e' else Q (.ext i) e'
  | t=>Q t e'
def yx (keep : List Nat) (Q : cu -> Env -> Prop) : Env -> Prop:=fun e'=>Q .nrm (prune keep e')
def kOf (C : CC) (hs : Option (List Nat)) (K : Env -> Prop) (ns : List aA) (e : Env) (R : List Nat) (acc : List (List Nat × List Nat)) : KT :=
 match hs with
 | none=>Ag C K ns e
 | some hs=>Hq C hs K ns e R acc
def doW (C : CC) (hs : Option (List Nat)) (K : Env -> Prop) (ns : List aA) (_ : Tag (hs,K,ns)) (e : Env) (R : List Nat) (acc : List (List Nat × List Nat)) (ws : List (Nat × D)) (ks : List (Nat × Bool)) : Prop:=kOf C hs K ns e R acc ws ks
def opW (C : CC) (hs : Option (List Nat)) (K : Env -> Prop) (ns : List aA) (dst : Option Nat) (op : NOp) (_ : Tag (hs,K,ns,dst,op)) (e : Env) (R : List Nat) (acc : List (List Nat × List Nat)) : Prop:=aL C (ac e) dst (kOf C hs K ns e R acc) op
def dW (C : CC) (hs : Option (List Nat)) (K : Env -> Prop) (ns : List aA) (dst : Option Nat) (_ : Tag (hs,K,ns)) (e : Env) (R : List Nat) (acc : List (List Nat × List Nat)) (d : D) : Prop:=dX dst (kOf C hs K ns e R acc) d
def pq (C : CC) (g : Nat) (hs : Option (List Nat)) (K : Env -> Prop) (ns : List aA) (dst : Option Nat) (_ : Tag (hs,K,ns)) (e : Env) (R : List Nat) (acc : List (List Nat × List Nat)) (pure : Bool) (ds : List D) : Prop :=
 ∃ d,C g ds d [] /\ (isF d=true \/ pure=true) /\ dX dst (kOf C hs K ns e R acc) d
theorem aw {prog : Nat -> Option aH} (hC : ay prog C) {g : Nat} {nf : aH} {ds : List D} (hp : prog g=some nf) (hl : ds.length=nf.np) (h : wN C nf.body (fin nf.res d) ⟨⟩ (params 0 ds)) : C g ds d []:=hC.1.1 g nf ds d hp hl h
def qL (res : List (Nat × Option (Nat × Bool))) (sz : Nat) (es : List (List D)) : cu -> Env -> Prop:=fun t e=>(match t with
   | .ext _=>False
   | _=>True) /\ jc res sz es e
theorem o6 {prog : Nat -> Option aH} (hC : ay prog C) {g : Nat} {nf : aH} {ds : List D} {sz : Nat} {es : List (List D)} (hp : prog g=some nf) (hl : ds.length=nf.np) (h : wN C nf.body (qL nf.res sz es) ⟨⟩ (params 0 ds)) : C g ds .any [.own sz es]:=hC.1.2.2.1 g nf ds sz es hp hl h
def tt (res : List (Nat × Option (Nat × Bool))) (d : D) : cu -> Env -> Prop:=fun t e=>(match t with
   | .ext _=>False
   | _=>True) /\ jb res d e
def qM (res : List (Nat × Option (Nat × Bool))) (d : D) (sz : Nat) (es' : List (List D)) : cu -> Env -> Prop:=fun t e=>(match t with
   | .ext _=>False
   | _=>True) /\ (0 < es'.length /\ ac e 10015=.blk sz es') /\ eG res d ((10015,.any)::e)
theorem gq {prog : Nat -> Option aH} (hC : f5 prog C) {g : Nat} {nf : aH} {W : List D} {d : D} {sz : Nat} {es es' : List (List D)} (hp : prog g=some nf) (hl : W.length=nf.np) (h : wN C nf.body (qM nf.res d sz es') ⟨⟩ (params 0 W++[(10015,.blk sz es)])) : C g (.blk sz es::W) d [.blk sz es',.nilp]:=hC.2.2.2.2.2.1 g nf W d sz es es' hp hl h
def tu (res : List (Nat × Option (Nat × Bool))) (sz : Nat) (es : List (List D)) : cu -> Env -> Prop:=fun t e=>(match t with
   | .ext _=>False
   | _=>True) /\ jd res sz es e
def tr (res : List (Nat × Option (Nat × Bool))) (R : D) : cu -> Env -> Prop:=fun t e=>(match t with
   | .ext _=>False
   | _=>True) /\ qi res R e
def uz (C : CC) (g : Nat) (hs : Option (List Nat)) (K : Env -> Prop) (ns : List aA) (t : Nat) (_ : Tag (hs,K,ns)) (e : Env) (R : List Nat) (acc : List (List Nat × List Nat)) (ds : List D) : Prop :=
 ∃ sz es,C g ds .any [.own sz es] /\ kOf C hs K ns e R acc [(t,.ref (.r (rt t 0)) 0 es.length),(rt t 0,.blk sz es)] [(rt t 0,true)]
theorem j4 {g : Nat} {hs : Option (List Nat)} {K : Env -> Prop} {ns : List aA} {t : Nat} {u : Tag (hs,K,ns)} {R : List Nat} {acc : List (List Nat × List Nat)} {ds : List D} {sz : Nat} {es : List (List D)} (h : C g ds .any [.own sz es]) (hk : doW C hs K ns ⟨⟩ e R acc [(t,.ref (.r (rt t 0)) 0 es.length),(rt t 0,.blk sz es)] [(rt t 0,true)]) : uz C g hs K ns t u e R acc ds:=⟨sz,es,h,hk⟩
def qC (C : CC) (g : Nat) (hs : Option (List Nat)) (K : Env -> Prop) (ns : List aA) (dst : Option Nat) (_ : Tag (hs,K,ns)) (e : Env) (R : List Nat) (acc : List (List Nat × List Nat)) (b sz : Nat) (es : List (List D)) (ds : List D) (p : Bool) : Prop:=match dst with
 | none=>∃ es' : List (List D),es'.length=es.length /\ (∀ e ∈ es',e.length=sz /\ ∀ c ∈ e,aK c=true) /\ (p=true \/ ∀ e ∈ es',∀ c ∈ e,a6 c=true) /\ C g (.own sz es::ds) .any [.own sz es',.nilp] /\ doW C hs K ns ⟨⟩ e R acc [(b,.blk sz es')] []
 | some t=>(∃ es' : List (List D),es'.length=es.length /\ (∀ e ∈ es',e.length=sz /\ ∀ c ∈ e,aK c=true) /\ (p=true \/ ∀ e ∈ es',∀ c ∈ e,a6 c=true) /\ C g (.own sz es::ds) .any [.own sz es',.nilp] /\ doW C hs K ns ⟨⟩ e R acc [(t,.tup []),(b,.blk sz es')] []) \/ (b ≠ rt t 0 /\ 0 < sz /\ ∃ es' : List (List D),(∀ e ∈ es',e.length=sz /\ ∀ c ∈ e,aK c=true) /\ (p=true \/ ∀ e ∈ es',∀ c ∈ e,a6 c=true) /\ C g (.own sz es::ds) .any [.own sz es',.nils] /\ doW C hs K ns ⟨⟩ e R acc [(t,.ref (.r (rt t 0)) 0 es'.length),(rt t 0,.blk sz es'),(b,.any)] [(rt t 0,true)])
theorem tf {t : Nat} {g : Nat} {hs : Option (List Nat)} {K : Env -> Prop} {ns : List aA} {u : Tag (hs,K,ns)} {R : List Nat} {acc : List (List Nat × List Nat)} {b sz : Nat} {es es' : List (List D)} {ds : List D} {p : Bool} (h : C g (.own sz es::ds) .any [.own sz es',.nilp]) (hp : (p=true \/ ∀ e ∈ es',∀ c ∈ e,a6 c=true)) (hl : es'.length=es.length) (hu : (∀ e ∈ es',e.length=sz /\ ∀ c ∈ e,aK c=true)) (hk : doW C hs K ns ⟨⟩ e R acc [(t,.tup []),(b,.blk sz es')] []) : qC C g hs K ns (some t) u e R acc b sz es ds p:=.inl ⟨es',hl,hu,hp,h,hk⟩
def Dc (C : CC) (g : Nat) (hs : Option (List Nat)) (K : Env -> Prop) (ns : List aA) (dst : Option Nat) (_ : Tag (hs,K,ns)) (e : Env) (R : List Nat) (acc : List (List Nat × List Nat)) (b n : Nat) (xs : List Opd) (d : D) : Prop:=match d with
 | .blk sz es=>es.length=n /\ (∀ e ∈ es,∀ c ∈ e,aK c=true) /\ (∀ x ∈ xs,bD (fbE (ac e) b) (vd (fbE (ac e) b) x)) /\ qC C g hs K ns dst ⟨⟩ e R acc b sz es (xs.map (dpv (fbE (ac e) b))) (xs.all fun y=>isV (vd (fbE (ac e) b) y))
 | _=>False
def LX (C : CC) (g : Nat) (hs : Option (List Nat)) (K : Env -> Prop) (ns : List aA) (dst : Option Nat) (_ : Tag (hs,K,ns)) (e : Env) (R : List Nat) (acc : List (List Nat × List Nat)) (xs : List Opd) (d : D) : Prop:=match d with
 | .ref (.r b) k n=>k=0 /\ Dc C g hs K ns dst ⟨⟩ e R acc b n xs (ac e b)
 | _=>False
@[simp] theorem RC {f : Nat -> D} {b t : Nat} : fbE f b t=if t=b then .any else f t:=zR
theorem aa {g : Nat} {hs : Option (List Nat)} {K : Env -> Prop} {ns : List aA} {dst : Option Nat} {u : Tag (hs,K,ns)} {R : List Nat} {acc : List (List Nat × List Nat)} {p : Bool} {ds : List D} (h : C g ds d []) (hf : isF d=true \/ p=true) (hk : dW C hs K ns dst ⟨⟩ e R acc d) : pq C g hs K ns dst u e R acc p ds:=⟨d,h,hf,hk⟩
def oY (S : Type) (G : S -> Env) (I : S -> Prop) (m : S -> Nat) (s : S) (Q : cu -> Env -> Prop) : cu -> Env -> Prop:=fun t e'=>match t with
    | .nrm=>∃ s',I s' /\ m s' < m s /\ jW e' (G s')
    | t=>Q t e'
theorem av {c : dG} {u : Tag (c,Q)} (S : Type) (G : S -> Env) (I : S -> Prop) (m : S -> Nat) (s0 : S) (h0 : I s0) (hw : jW e (G s0))
  (h : ∀ s,I s -> wN C c (oY S G I m s Q) ⟨⟩ (G s)) : Ar C c Q u e:=⟨S,G,I,m,s0,h0,hw,h⟩
@[simp] theorem Q4 {u} : wN C .skip Q u e=bN Q ⟨⟩ .nrm e:=zR
@[simp] theorem Sv {hs keep ops u} : wN C (.reg false hs keep ops) Q u e=tK C (yx keep Q) ops ⟨⟩ e:=zR
@[simp] theorem Q1 {hs keep ops u} : wN C (.reg true hs keep ops) Q u e=rp C hs (yx keep Q) ops ⟨⟩ e []:=zR
@[simp] theorem Sx {x y u} : wN C (.seq x y) Q u e=wN C x (yH C y Q) ⟨⟩ e:=zR
def brB (b : Bool) (X Y : Prop) (_ : Tag (X,Y)) : Prop:=(b=true -> X) /\ (b=false -> Y)
theorem aj {b : Bool} {X Y : Prop} {u} (h1 : b=true -> X) (h2 : b=false -> Y) : brB b X Y u:=⟨h1,h2⟩
@[simp] theorem Hi {X Y : Prop} {u} : brB true X Y u=X:=by simp [brB]
@[simp] theorem D1 {X Y : Prop} {u} : brB false X Y u=Y:=by simp [brB]
def cdW (C : CC) (x y : dG) (Q : cu -> Env -> Prop) (_ : Tag (x,y,Q)) (e : Env) (d : D) : Prop:=match d with
 | .bool b=>brB b (wN C x Q ⟨⟩ e) (wN C y Q ⟨⟩ e) ⟨⟩
 | .bb=>wN C x Q ⟨⟩ e /\ wN C y Q ⟨⟩ e
 | _=>False
@[simp] theorem Q8 {x y u} : cdW C x y Q u e .bb=(wN C x Q ⟨⟩ e /\ wN C y Q ⟨⟩ e):=zR
@[simp] theorem Hj {x y u b} : cdW C x y Q u e (.bool b)=brB b (wN C x Q ⟨⟩ e) (wN C y Q ⟨⟩ e) ⟨⟩:=zR
@[simp] theorem Q0 {c x y u} : wN C (.cond c x y) Q u e=cdW C x y Q ⟨⟩ e (vd (ac e) c):=zR
@[simp] theorem Ma {id c u} : wN C (.block id c) Q u e=wN C c (og id Q) ⟨⟩ e:=zR
@[simp] theorem Q3 {c u} : wN C (.loop c) Q u e=Ar C c Q ⟨⟩ e:=zR
@[simp] theorem Q2 {id u} : wN C (.exit id) Q u e=bN Q ⟨⟩ (.ext id) e:=zR
@[simp] theorem Sw {u} : wN C .ret Q u e=bN Q ⟨⟩ .ret e:=zR
@[simp] theorem xK {y u} : bN (yH C y Q) u .nrm e=wN C y Q ⟨⟩ e:=zR
@[simp] theorem xJ {y u i} : bN (yH C y Q) u (.ext i) e=bN Q ⟨⟩ (.ext i) e:=zR
@[simp] theorem xL {y u} : bN (yH C y Q) u .ret e=bN Q ⟨⟩ .ret e:=zR
@[simp] theorem uP {id u} : bN (og id Q) u .nrm e=bN Q ⟨⟩ .nrm e:=zR
@[simp] theorem uO {id u i} : bN (og id Q) u (.ext i) e=if i=id then bN Q ⟨⟩ .nrm e else bN Q ⟨⟩ (.ext i) e:=zR
@[simp] theorem uQ {id u} : bN (og id Q) u .ret e=bN Q ⟨⟩ .ret e:=zR
@[simp] theorem xB {r u} : bN (fin r d) u .nrm e=eG r d e:=by simp [bN,fin]
@[simp] theorem xC {r u} : bN (fin r d) u .ret e=eG r d e:=by simp [bN,fin]
@[simp] theorem wS {r d} {u : Tag (tt r d)} : bN (tt r d) u .nrm e=jb r d e:=by simp [bN,tt]
@[simp] theorem wT {r d} {u : Tag (tt r d)} : bN (tt r d) u .ret e=jb r d e:=by simp [bN,tt]
@[simp] theorem wQ {r sz es} {u : Tag (qL r sz es)} : bN (qL r sz es) u .nrm e=jc r sz es e:=by simp [bN,qL]
@[simp] theorem wR {r sz es} {u : Tag (qL r sz es)} : bN (qL r sz es) u .ret e=jc r sz es e:=by simp [bN,qL]
@[simp] theorem wW {r d sz es} {u : Tag (qM r d sz es)} : bN (qM r d sz es) u .nrm e=((0 < es.length /\ ac e 10015=.blk sz es) /\ eG r d ((10015,.any)::e)):=by simp [bN,qM]
@[simp] theorem wX {r d sz es} {u : Tag (qM r d sz es)} : bN (qM r d sz es) u .ret e=((0 < es.length /\ ac e 10015=.blk sz es) /\ eG r d ((10015,.any)::e)):=by simp [bN,qM]
@[simp] theorem wU {r sz es} {u : Tag (tu r sz es)} : bN (tu r sz es) u .nrm e=jd r sz es e:=by simp [bN,tu]
@[simp] theorem wV {r sz es} {u : Tag (tu r sz es)} : bN (tu r sz es) u .ret e=jd r sz es e:=by simp [bN,tu]
@[simp] theorem wO {r d} {u : Tag (tr r d)} : bN (tr r d) u .nrm e=qi r d e:=by simp [bN,tr]
@[simp] theorem wP {r d} {u : Tag (tr r d)} : bN (tr r d) u .ret e=qi r d e:=by simp [bN,tr]
@[simp] theorem uS {S G I m s u} : bN (oY S G I m s Q) u .nrm e=∃ s',I s' /\ m s' < m s /\ jW e (G s'):=zR
@[simp] theorem uR {S G I m s u i} : bN (oY S G I m s Q) u (.ext i) e=bN Q ⟨⟩ (.ext i) e:=zR
@[simp] theorem uT {S G I m s u} : bN (oY S G I m s Q) u .ret e=bN Q ⟨⟩ .ret e:=zR
end
section
variable {C : CC} {Q : cu -> Env -> Prop} {e : Env} {K : Env -> Prop} {dst : Option Nat} {d : D} {hs : Option (List Nat)} {ns : List aA} {R : List Nat} {acc : List (List Nat × List Nat)} {u : Tag (hs,K,ns)}
@[simp] theorem Ll {keep u} : tK C (yx keep Q) [] u e=bN Q ⟨⟩ .nrm (prune keep e):=zR
@[simp] theorem Lk {h keep u} : rp C h (yx keep Q) [] u e acc=(IC h acc /\ bN Q ⟨⟩ .nrm (prune keep e)):=zR
@[simp] theorem Gr {dst op ns u} : tK C K (⟨dst,op,none⟩::ns) u e=opW C none K ns dst op ⟨⟩ e [] []:=zR
@[simp] theorem Gp {h dst op ns u} : rp C h K (⟨dst,op,none⟩::ns) u e acc=(chk (ac e) ⟨dst,op,none⟩=true /\ opW C (some h) K ns dst op ⟨⟩ e (gL (ac e) ⟨dst,op,none⟩) acc):=zR
def na (C : CC) (h : List Nat) (K : Env -> Prop) (ns : List aA) (_ : Tag (h,K,ns)) (e : Env) (dst : Option Nat) (R : List Nat) (acc : List (List Nat × List Nat)) : Prop:=iX e dst fun e'=>kR C h K ns e' ((R,tm dst)::acc)
@[simp] theorem C4 {h t ns u} : na C h K ns u e (some t) R acc=rp C h K ns ⟨⟩ ((t,.tup [])::e) ((R,[4 * t])::acc):=zR
@[simp] theorem C3 {h ns u} : na C h K ns u e none R acc=rp C h K ns ⟨⟩ e ((R,[])::acc):=zR
def gdT (C : CC) (K : Env -> Prop) (ns : List aA) (dst : Option Nat) (op : NOp) (s : Nat) (want : Bool) (_ : Tag (K,ns)) (e : Env) (d : D) : Prop:=match d with
 | .bool b=>(b=want -> opW C none K ns dst op ⟨⟩ ((s,.bool want)::e) [] []) /\ (b=!want -> dW C none K ns dst ⟨⟩ ((s,.bool !want)::e) [] [] (.tup []))
 | .tup []=>dW C none K ns dst ⟨⟩ e [] [] (.tup [])
 | _=>False
@[simp] theorem Ii {op s b u} : gdT C K ns dst op s true u e (.bool b)=brB b (opW C none K ns dst op ⟨⟩ ((s,.bool true)::e) [] []) (dW C none K ns dst ⟨⟩ ((s,.bool false)::e) [] [] (.tup [])) ⟨⟩:=zR
@[simp] theorem ES {op s b u} : gdT C K ns dst op s false u e (.bool b)=brB b (dW C none K ns dst ⟨⟩ ((s,.bool true)::e) [] [] (.tup [])) (opW C none K ns dst op ⟨⟩ ((s,.bool false)::e) [] []) ⟨⟩:=by
 simp only [gdT,brB,Bool.not_false];exact propext ⟨fun h=>⟨h.2,h.1⟩,fun h=>⟨h.2,h.1⟩⟩
@[simp] theorem Ih {op s want u} : gdT C K ns dst op s want u e (.tup [])=dW C none K ns dst ⟨⟩ e [] [] (.tup []):=zR
@[simp] theorem Gs {dst op s want ns u} : tK C K (⟨dst,op,some (s,want)⟩::ns) u e=gdT C K ns dst op s want ⟨⟩ e (ac e s):=by
 simp only [tK,jg,opW,qu,iX,gdT,dW,dX,kOf,Ag,dO]
 cases ac e s <;> cases dst <;> (first | rfl | (rename_i x _ ;cases x <;> rfl) | (rename_i x;cases x <;> rfl))
def gdD (C : CC) (h : List Nat) (K : Env -> Prop) (ns : List aA) (dst : Option Nat) (op : NOp) (want : Bool) (_ : Tag (K,ns)) (e : Env) (R : List Nat) (acc : List (List Nat × List Nat)) (d : D) : Prop:=match d with
 | .bool b=>(b=want -> opW C (some h) K ns dst op ⟨⟩ e R acc) /\ (b=!want -> na C h K ns ⟨⟩ e dst R acc)
 | .tup []=>na C h K ns ⟨⟩ e dst R acc
 | _=>False
@[simp] theorem Ig {h op b u} : gdD C h K ns dst op true u e R acc (.bool b)=brB b (opW C (some h) K ns dst op ⟨⟩ e R acc) (na C h K ns ⟨⟩ e dst R acc) ⟨⟩:=zR
@[simp] theorem ER {h op b u} : gdD C h K ns dst op false u e R acc (.bool b)=brB b (na C h K ns ⟨⟩ e dst R acc) (opW C (some h) K ns dst op ⟨⟩ e R acc) ⟨⟩:=by
 simp only [gdD,brB,Bool.not_false];exact propext ⟨fun h=>⟨h.2,h.1⟩,fun h=>⟨h.2,h.1⟩⟩
@[simp] theorem If {h op want u} : gdD C h K ns dst op want u e R acc (.tup [])=na C h K ns ⟨⟩ e dst R acc:=zR
@[simp] theorem Gq {h dst op s want ns u} : rp C h K (⟨dst,op,some (s,want)⟩::ns) u e acc=(chk (ac e) ⟨dst,op,some (s,want)⟩=true /\ gdD C h K ns dst op want ⟨⟩ e (gL (ac e) ⟨dst,op,some (s,want)⟩) acc (ac e s)):=zR
@[simp] theorem Hw {K ns u ws ks} : doW C none K ns u e R acc ws ks=tK C K ns ⟨⟩ (ws++dO ks e):=zR
@[simp] theorem Hv {h K ns u ws ks} : doW C (some h) K ns u e R acc ws ks=(wOk R ws ks=true /\ rp C h K ns ⟨⟩ (ws++dO ks e) ((R,wrK ws ks)::acc)):=zR
@[simp] theorem Ms {t} : dW C hs K ns (some t) u e R acc d=doW C hs K ns ⟨⟩ e R acc [(t,d)] []:=zR
@[simp] theorem Mr : dW C hs K ns none u e R acc d=doW C hs K ns ⟨⟩ e R acc [] []:=zR
def aS (ks : List (Nat × Bool)) (d : D) : D:=if aM ks d then .any else d
theorem bE (ks : List (Nat × Bool)) (d : D) : aS ks d=bif aM ks d then .any else d:=by
 unfold aS;cases aM ks d <;> rfl
@[simp] theorem FW : dO [] e=e:=zR
@[simp] theorem FV {k ks} : dO (k::ks) []=[]:=zR
@[simp] theorem B6 {k ks s d} : dO (k::ks) ((s,d)::e)=(s,aS (k::ks) d)::dO (k::ks) e:=zR
@[simp] theorem FD {ks} : aS ks .any=.any:=by simp [aS]
@[simp] theorem FJ {ks k n} : aS ks (.int k n)=.int k n:=by simp [aS,aM,cK,aG]
@[simp] theorem B1 {ks n} : aS ks (.bool n)=.bool n:=by simp [aS,aM,cK,aG]
@[simp] theorem zfs {ks n} : aS ks (.str n)=.str n:=by simp [aS,aM,cK,aG]
@[simp] theorem Kb {ks} : aS ks .bb=.bb:=by simp [aS,aM,cK,aG]
@[simp] theorem B4 {ks} : aS ks .nilp=.nilp:=by simp [aS,aM,cK,aG]
@[simp] theorem B5 {ks} : aS ks .nils=.nils:=by simp [aS,aM,cK,aG]
@[simp] theorem FB {ks n} : aS ks (.agg n)=.agg n:=by simp [aS,aM,cK,aG]
@[simp] theorem FU {ks n} : aS ks (.tup n)=.tup n:=by simp [aS,aM,cK,aG]
@[simp] theorem Ke {ks n} : aS ks (.sl n)=.sl n:=by simp [aS,aM,cK,aG]
@[simp] theorem FM {ks n} : aS ks (.ptr n)=.ptr n:=by simp [aS,aM,cK,aG]
@[simp] theorem Kc {ks g n} : aS ks (.fn g n)=.fn g n:=by simp [aS,aM,cK,aG]
@[simp] theorem FE {ks g n} : aS ks (.blk g n)=.blk g n:=by simp [aS,aM,cK,aG]
@[simp] theorem Kd {ks kt et xs vs} : aS ks (.mp kt et xs vs)=.mp kt et xs vs:=by simp [aS,aM,cK,aG]
@[simp] theorem FO {b all ks p k n} : aS ((b,all)::ks) (.ref p k n)=if bm b all p then .any else aS ks (.ref p k n):=by
 have h : aS ((b,all)::ks) (.ref p k n)=bif (bm b all p || aM ks (.ref p k n)) then .any else .ref p k n:=bE ..
 rw [h,bE]
 cases bm b all p <;> rfl
@[simp] theorem FA {b all ks p k n} : aS ((b,all)::ks) (.adr p k n)=if bm b all p then .any else aS ks (.adr p k n):=by
 have h : aS ((b,all)::ks) (.adr p k n)=bif (bm b all p || aM ks (.adr p k n)) then .any else .adr p k n:=bE ..
 rw [h,bE]
 cases bm b all p <;> rfl
@[simp] theorem FC {b all ks n} : aS ((b,all)::ks) (.agx n)=if n.any (aG b all) then .any else aS ks (.agx n):=by
 have h : aS ((b,all)::ks) (.agx n)=bif (n.any (aG b all) || aM ks (.agx n)) then .any else .agx n:=bE ..
 rw [h,bE]
 cases n.any (aG b all) <;> rfl
@[simp] theorem FF {b all ks g n} : aS ((b,all)::ks) (.fnx g n)=if n.any (aG b all) then .any else aS ks (.fnx g n):=by
 have h : aS ((b,all)::ks) (.fnx g n)=bif (n.any (aG b all) || aM ks (.fnx g n)) then .any else .fnx g n:=bE ..
 rw [h,bE]
 cases n.any (aG b all) <;> rfl
@[simp] theorem FI {ks T n} : aS ks (.ifi T n)=.ifi T n:=by simp [aS,aM,cK,aG]
@[simp] theorem FQ {ks q n} : aS ks (.slv q n)=.slv q n:=by simp [aS,aM,cK,aG]
@[simp] theorem FH {b all ks T p k n} : aS ((b,all)::ks) (.ifa T p k n)=if bm b all p then .any else aS ks (.ifa T p k n):=by
 have h : aS ((b,all)::ks) (.ifa T p k n)=bif (bm b all p || aM ks (.ifa T p k n)) then .any else .ifa T p k n:=bE ..
 rw [h,bE]
 cases bm b all p <;> rfl
@[simp] theorem FG {b all ks g ds cs} : aS ((b,all)::ks) (.fny g ds cs)=if ds.any (aG b all) || cs.any (aG b all) then .any else aS ks (.fny g ds cs):=by
 have h : aS ((b,all)::ks) (.fny g ds cs)=bif ((ds.any (aG b all) || cs.any (aG b all)) || aM ks (.fny g ds cs)) then .any else .fny g ds cs:=bE ..
 rw [h,bE]
 cases ds.any (aG b all) <;> cases cs.any (aG b all) <;> rfl
@[simp] theorem FL {d} : aS [] d=d:=by simp [aS,aM]
@[simp] theorem FR {ks b es} : aS ks (slx b es)=slx b es:=by cases b <;> cases es <;> simp [slx]
def gA (C : CC) (hs : Option (List Nat)) (K : Env -> Prop) (ns : List aA) (dst : Option Nat) (_ : Tag (hs,K,ns)) (e : Env) (R : List Nat) (acc : List (List Nat × List Nat)) (sz : Nat) (es : List (List D)) (i : Nat) : Prop :=
 ∃ c,es[i]? = some c /\ c.length=sz /\ dX dst (kOf C hs K ns e R acc) (.ptr c)
@[simp] theorem IA {α : Type} [Inhabited α] {sz : Nat} {xs : List α} {f : α -> List D} {i : Nat} : gA C hs K ns dst u e R acc sz (xs.map f) i=(i < xs.length /\ (f xs[i]!).length=sz /\ dW C hs K ns dst ⟨⟩ e R acc (.ptr (f xs[i]!))):=by
 apply propext
 unfold gA dW
 constructor
 ·rintro ⟨c,h,h1,h2⟩
  rw [x0y,x0h] at h
  obtain ⟨x,hx,rfl⟩:=h
  obtain ⟨hi,rfl⟩:=x0c.1 hx
  rw [x02 xs i hi]
  exact ⟨hi,h1,h2⟩
 ·rintro ⟨hi,h1,h2⟩
  rw [x02 xs i hi] at h1 h2
  exact ⟨_,by rw [x0y,x0d hi];rfl,h1,h2⟩
def kJ (C : CC) (hs : Option (List Nat)) (K : Env -> Prop) (ns : List aA) (dst : Option Nat) (_ : Tag (hs,K,ns)) (e : Env) (R : List Nat) (acc : List (List Nat × List Nat)) (n : Nat) (ag : Bool) (p : Pa) (es : List (List D)) (i off : Nat) : Prop :=
 ∃ r,es[i]? = some r /\ off + n <= r.length /\ match ag with
    | true=>(((r.drop off).take n).all isV=true -> dX dst (kOf C hs K ns e R acc) (.agg ((r.drop off).take n))) /\
      (((r.drop off).take n).all isV=false -> dX dst (kOf C hs K ns e R acc) (.agx (((r.drop off).take n).mapIdx fun j c=>ldc p i (off + j) c)))
    | false=>dX dst (kOf C hs K ns e R acc) (ldc p i off ((r.drop off).headD .any))
theorem oZ {n : Nat} {ag : Bool} {p : Pa} {es : List (List D)} {i off : Nat} {r : List D} (hr : es[i]? = some r) (hl : off + n <= r.length) (hk : match ag with
    | true=>(((r.drop off).take n).all isV=true -> dW C hs K ns dst ⟨⟩ e R acc (.agg ((r.drop off).take n))) /\
      (((r.drop off).take n).all isV=false -> dW C hs K ns dst ⟨⟩ e R acc (.agx (((r.drop off).take n).mapIdx fun j c=>ldc p i (off + j) c)))
    | false=>dW C hs K ns dst ⟨⟩ e R acc (ldc p i off ((r.drop off).headD .any))) : kJ C hs K ns dst u e R acc n ag p es i off:=by
 refine ⟨r,hr,hl,?_⟩
 cases ag <;> exact hk
@[simp] theorem LH {n : Nat} {ag : Bool} {p : Pa} {r : List D} {off : Nat} : kJ C hs K ns dst u e R acc n ag p [r] 0 off=(off + n <= r.length /\ match ag with
    | true=>(((r.drop off).take n).all isV=true -> dW C hs K ns dst ⟨⟩ e R acc (.agg ((r.drop off).take n))) /\
      (((r.drop off).take n).all isV=false -> dW C hs K ns dst ⟨⟩ e R acc (.agx (((r.drop off).take n).mapIdx fun j c=>ldc p 0 (off + j) c)))
    | false=>dW C hs K ns dst ⟨⟩ e R acc (ldc p 0 off ((r.drop off).headD .any))):=by
 apply propext
 constructor
 ·rintro ⟨r',h1,h2,h3⟩
  simp at h1;subst h1
  refine ⟨h2,?_⟩
  cases ag <;> exact h3
 ·rintro ⟨h2,h3⟩
  refine ⟨r,rfl,h2,?_⟩
  cases ag <;> exact h3
end
section
variable {C : CC} {Q : cu -> Env -> Prop} {e : Env} {K : Env -> Prop} {dst : Option Nat} {hs : Option (List Nat)} {ns : List aA} {R : List Nat} {acc : List (List Nat × List Nat)} {u : Tag (hs,K,ns)}
@[simp] theorem QF {x v1} : opW C hs K ns dst (.mov x) v1 e R acc=(isS (vd (ac e) x)=true /\ dW C hs K ns dst ⟨⟩ e R acc (vd (ac e) x)):=zR
@[simp] theorem QI {x v1} : opW C hs K ns dst (.nck x) v1 e R acc=(match (generalizing:=false) vd (ac e) x with
  | .ptr ds=>dW C hs K ns dst ⟨⟩ e R acc (.ptr ds)
  | .adr p i off=>dW C hs K ns dst ⟨⟩ e R acc (.adr p i off)
  | .ptx ds=>dW C hs K ns dst ⟨⟩ e R acc (.ptx ds)
  | _=>False):=zR
@[simp] theorem Lj {c a b v1} : opW C hs K ns dst (.pick c a b) v1 e R acc=(match (generalizing:=false) vd (ac e) c with
  | .bool v=>(v=true -> isS (vd (ac e) a)=true /\ dW C hs K ns dst ⟨⟩ e R acc (vd (ac e) a)) /\ (v=false -> isS (vd (ac e) b)=true /\ dW C hs K ns dst ⟨⟩ e R acc (vd (ac e) b))
  | _=>False):=zR
@[simp] theorem Qs {op x y v1} : opW C hs K ns dst (.bin op x y) v1 e R acc=(match (generalizing:=false) vd (ac e) x,vd (ac e) y with
  | .int k a,.int k' b=>match (generalizing:=false) op with
   | .add=>k=k' /\ dW C hs K ns dst ⟨⟩ e R acc (.int k (k.wrap (a + b)))
   | .sub=>k=k' /\ dW C hs K ns dst ⟨⟩ e R acc (.int k (k.wrap (a - b)))
   | .mul=>k=k' /\ dW C hs K ns dst ⟨⟩ e R acc (.int k (k.wrap (a * b)))
   | .quo=>k=k' /\ b ≠ 0 /\ dW C hs K ns dst ⟨⟩ e R acc (.int k (k.wrap (a.tdiv b)))
   | .rem=>k=k' /\ b ≠ 0 /\ dW C hs K ns dst ⟨⟩ e R acc (.int k (a.tmod b))
   | .and=>k=k' /\ dW C hs K ns dst ⟨⟩ e R acc (.int k (bits .and k a b))
   | .or=>k=k' /\ dW C hs K ns dst ⟨⟩ e R acc (.int k (bits .or k a b))
   | .xor=>k=k' /\ dW C hs K ns dst ⟨⟩ e R acc (.int k (bits .xor k a b))
   | .andNot=>k=k' /\ dW C hs K ns dst ⟨⟩ e R acc (.int k (bits .andNot k a b))
   | .shl=>0 <= b /\ dW C hs K ns dst ⟨⟩ e R acc (.int k (k.wrap (a * 2 ^ (min b.toNat k.bits))))
   | .shr=>0 <= b /\ dW C hs K ns dst ⟨⟩ e R acc (.int k (a.fdiv (2 ^ (min b.toNat k.bits))))
   | .eql=>k=k' /\ dW C hs K ns dst ⟨⟩ e R acc (.bool (decide (a=b)))
   | .neq=>k=k' /\ dW C hs K ns dst ⟨⟩ e R acc (.bool (!decide (a=b)))
   | .lss=>k=k' /\ dW C hs K ns dst ⟨⟩ e R acc (.bool (decide (a < b)))
   | .leq=>k=k' /\ dW C hs K ns dst ⟨⟩ e R acc (.bool (decide (a <= b)))
   | .gtr=>k=k' /\ dW C hs K ns dst ⟨⟩ e R acc (.bool (decide (b < a)))
   | .geq=>k=k' /\ dW C hs K ns dst ⟨⟩ e R acc (.bool (decide (b <= a)))
  | .str a,.str b=>match (generalizing:=false) op with
   | .eql=>dW C hs K ns dst ⟨⟩ e R acc (.bool (decide (a=b)))
   | .neq=>dW C hs K ns dst ⟨⟩ e R acc (.bool (!decide (a=b)))
   | .add=>((a++b).length : Int) <= 9223372036854775807 /\ dW C hs K ns dst ⟨⟩ e R acc (.str (a++b))
   | .lss=>dW C hs K ns dst ⟨⟩ e R acc (.bool (Op.bytesLess a b))
   | .leq=>dW C hs K ns dst ⟨⟩ e R acc (.bool (Op.bytesLess a b || a == b))
   | .gtr=>dW C hs K ns dst ⟨⟩ e R acc (.bool !(Op.bytesLess a b || a == b))
   | .geq=>dW C hs K ns dst ⟨⟩ e R acc (.bool !(Op.bytesLess a b))
   | _=>False
  | _,_=>False):=zR
@[simp] theorem Sn {op x v1} : opW C hs K ns dst (.un op x) v1 e R acc=(match (generalizing:=false) vd (ac e) x with
  | .bool b=>match (generalizing:=false) op with
   | .not=>dW C hs K ns dst ⟨⟩ e R acc (.bool (!b))
   | _=>False
  | .int k n=>match (generalizing:=false) op with
   | .neg=>dW C hs K ns dst ⟨⟩ e R acc (.int k (k.wrap (0 - n)))
   | _=>False
  | _=>False):=zR
@[simp] theorem Ld {k x v1} : opW C hs K ns dst (.conv k x) v1 e R acc=(match (generalizing:=false) vd (ac e) x with
  | .int _ n=>dW C hs K ns dst ⟨⟩ e R acc (.int k (k.wrap n))
  | _=>False):=zR
@[simp] theorem Qr {neg ks x y v1} : opW C hs K ns dst (.beq neg ks x y) v1 e R acc=(match (generalizing:=false) vd (ac e) x,vd (ac e) y with
  | .bool a,.bool b=>ks=[] /\ dW C hs K ns dst ⟨⟩ e R acc (.bool ((a == b) != neg))
  | .agg a,.agg b=>ks ≠ [] /\ match (generalizing:=false) cj ks a b with
   | some r=>dW C hs K ns dst ⟨⟩ e R acc (.bool (r != neg))
   | none=>False
  | .nils,.nils=>ks=[9] /\ dW C hs K ns dst ⟨⟩ e R acc (.bool (!neg))
  | .sl es,.nils=>ks=[9] /\ (0 < es.length -> dW C hs K ns dst ⟨⟩ e R acc (.bool neg)) /\ (es.length=0 -> dW C hs K ns dst ⟨⟩ e R acc .bb)
  | .nilp,.nilp=>ks=[8] /\ dW C hs K ns dst ⟨⟩ e R acc (.bool (!neg))
  | .ptr _,.nilp=>ks=[8] /\ dW C hs K ns dst ⟨⟩ e R acc (.bool neg)
  | _,_=>False):=zR
@[simp] theorem Lg {len sz ag x i v1} : opW C hs K ns dst (.idxA len sz ag x i) v1 e R acc=(match (generalizing:=false) vd (ac e) x,vd (ac e) i with
  | .agg ds,.int _ j=>0 <= j /\ j < len /\ j.toNat * sz + sz <= ds.length /\ dW C hs K ns dst ⟨⟩ e R acc (nw ag sz (ds.drop (j.toNat * sz)))
  | .agx ds,.int _ j=>0 <= j /\ j < len /\ j.toNat * sz + sz <= ds.length /\ match (generalizing:=false) ag with
   | true=>dW C hs K ns dst ⟨⟩ e R acc (.agx ((ds.drop (j.toNat * sz)).take sz))
   | false=>dW C hs K ns dst ⟨⟩ e R acc ((ds.drop (j.toNat * sz)).headD .any)
  | _,_=>False):=zR
@[simp] theorem QJ {len sz x v1} : opW C hs K ns dst (.slA len sz x) v1 e R acc=(match (generalizing:=false) vd (ac e) x with
  | .ptr ds=>0 < len /\ 0 < sz /\ len * sz <= ds.length /\ dW C hs K ns dst ⟨⟩ e R acc (.sl (bT sz len ds))
  | _=>False):=zR
@[simp] theorem Qx {x v1} : opW C hs K ns dst (.cvS x) v1 e R acc=(match (generalizing:=false) vd (ac e) x with
  | .sl es=>0 < es.length /\ (∀ r ∈ es,∃ n : Nat,r=[.int .u8 n] /\ n < 256) /\ dW C hs K ns dst ⟨⟩ e R acc (.str (es.map fA))
  | _=>False):=zR
@[simp] theorem Qy {i x v1} : opW C hs K ns dst (.ext i x) v1 e R acc=(match (generalizing:=false) vd (ac e) x with
  | .tup ds=>∃ d,ds[i]? = some d /\ dW C hs K ns dst ⟨⟩ e R acc d
  | .tpx ds=>∃ d,ds[i]? = some d /\ dW C hs K ns dst ⟨⟩ e R acc d
  | _=>False):=zR
@[simp] theorem Qz {off x v1} : opW C hs K ns dst (.fad off x) v1 e R acc=(match (generalizing:=false) vd (ac e) x with
  | .adr p i o=>dW C hs K ns dst ⟨⟩ e R acc (.adr p i (o + off))
  | .ptr ds=>dW C hs K ns dst ⟨⟩ e R acc (.ptr (ds.drop off))
  | .ptx ds=>dW C hs K ns dst ⟨⟩ e R acc (.ptx (ds.drop off))
  | _=>False):=zR
@[simp] theorem Le {len sz x i v1} : opW C hs K ns dst (.iadA len sz x i) v1 e R acc=(match (generalizing:=false) vd (ac e) x,vd (ac e) i with
  | .adr p r o,.int _ j=>0 <= j /\ j < len /\ dW C hs K ns dst ⟨⟩ e R acc (.adr p r (o + j.toNat * sz))
  | .ptr ds,.int _ j=>0 <= j /\ j < len /\ dW C hs K ns dst ⟨⟩ e R acc (.ptr (ds.drop (j.toNat * sz)))
  | _,_=>False):=zR
@[simp] theorem Si {n ag x v1} : opW C hs K ns dst (.ld n ag x) v1 e R acc=(match (generalizing:=false) vd (ac e) x with
  | .adr p i off=>match (generalizing:=false) bu (ac e) p with
   | some (_,es)=>kJ C hs K ns dst ⟨⟩ e R acc n ag p es i off
   | none=>False
  | .ptr ds=>n <= ds.length /\ dW C hs K ns dst ⟨⟩ e R acc (nw ag n ds)
  | .ptx ds=>n <= ds.length /\ match (generalizing:=false) ag with
   | true=>((ds.take n).all isV=true -> dW C hs K ns dst ⟨⟩ e R acc (.agg (ds.take n))) /\ ((ds.take n).all isV=false -> dW C hs K ns dst ⟨⟩ e R acc (.agx (ds.take n)))
   | false=>0 < n /\ dW C hs K ns dst ⟨⟩ e R acc (ds.headD .any)
  | _=>False):=zR
@[simp] theorem Qt {zs parts v1} : opW C hs K ns dst (.bld zs parts) v1 e R acc=((∀ p ∈ parts,isS (vd (ac e) p.2.2)=true /\ p.1 + p.2.1 <= zs.length /\ match (generalizing:=false) vd (ac e) p.2.2 with
    | .agg ds=>ds.length=p.2.1
    | .agx ds=>ds.length=p.2.1
    | .any=>False
    | .tpx _=>False
    | .ptx _=>False
    | .rfx _ _ _=>False
    | .fny _ _ _=>False
    | .fnx _ _=>False
    | _=>p.2.1=1) /\
   ((parts.all fun p=>isV (vd (ac e) p.2.2))=true -> dW C hs K ns dst ⟨⟩ e R acc (.agg (gQ zs (parts.map fun p=>(p.1,p.2.1,vd (ac e) p.2.2))))) /\
   ((parts.all fun p=>isV (vd (ac e) p.2.2))=false -> dW C hs K ns dst ⟨⟩ e R acc (.agx (gQ zs (parts.map fun p=>(p.1,p.2.1,bP (vd (ac e) p.2.2))))))):=zR
@[simp] theorem Lh {x v1} : opW C hs K ns dst (.lens x) v1 e R acc=(match (generalizing:=false) vd (ac e) x with
  | .str s=>dW C hs K ns dst ⟨⟩ e R acc (.int .i64 s.length)
  | _=>False):=zR
@[simp] theorem Sj {g xs v1} : opW C hs K ns dst (.mk g xs) v1 e R acc=((∀ x ∈ xs,isP (vd (ac e) x)=true) /\ ((xs.all fun x=>isV (vd (ac e) x))=true -> dW C hs K ns dst ⟨⟩ e R acc (.fn g (xs.map (vd (ac e))))) /\ ((xs.all fun x=>isV (vd (ac e) x))=false -> dW C hs K ns dst ⟨⟩ e R acc (.fnx g (xs.map (vd (ac e)))))):=zR
@[simp] theorem Sk {x y v1} : opW C hs K ns dst (.mn x y) v1 e R acc=(match (generalizing:=false) vd (ac e) x,vd (ac e) y with
  | .int k a,.int k' b=>k=k' /\ dW C hs K ns dst ⟨⟩ e R acc (.int k (if b < a then b else a))
  | _,_=>False):=zR
@[simp] theorem Sl {x y v1} : opW C hs K ns dst (.mx x y) v1 e R acc=(match (generalizing:=false) vd (ac e) x,vd (ac e) y with
  | .int k a,.int k' b=>k=k' /\ dW C hs K ns dst ⟨⟩ e R acc (.int k (if a < b then b else a))
  | _,_=>False):=zR
@[simp] theorem Li {sz v1} : opW C hs K ns dst (.nilo sz) v1 e R acc=(match (generalizing:=false) dst with
  | some t=>0 < sz /\ doW C hs K ns ⟨⟩ e R acc [(t,.ref (.r (rt t 0)) 0 0),(rt t 0,.blk sz [])] [(rt t 0,true)]
  | none=>False):=zR
@[simp] theorem Qv {x t v1} : opW C hs K ns (some t) (.box [] x) v1 e R acc=fJ (ac e) (vd (ac e) x) [] (fun cs bs=>bs.contains (rt t 0)=false /\ doW C hs K ns ⟨⟩ e R acc ((t,.adr (.r (rt t 0)) 0 0)::(rt t 0,.blk cs.length [cs])::cg bs) [(rt t 0,true)]) ⟨⟩:=zR
@[simp] theorem Qo {zs v1} : opW C hs K ns dst (.alc zs) v1 e R acc=(match (generalizing:=false) dst with
  | some t=>doW C hs K ns ⟨⟩ e R acc [(t,.adr (.r (rt t 0)) 0 0),(rt t 0,.blk zs.length [zs])] [(rt t 0,true)]
  | none=>False):=zR
@[simp] theorem Qu {sz len zs parts t v1} : opW C hs K ns (some t) (.bls sz len zs [] parts) v1 e R acc=oQ (ac e) sz parts (List.replicate len zs) [] (fun es bs=>bH bs=true /\ bs.contains (rt t 0)=false /\ doW C hs K ns ⟨⟩ e R acc ((t,.ref (.r (rt t 0)) 0 len)::(rt t 0,.blk sz es)::cg bs) [(rt t 0,true)]) ⟨⟩:=zR
@[simp] theorem QE {sz by_ zs n c v1} : opW C hs K ns dst (.mks sz by_ zs n c) v1 e R acc=(match (generalizing:=false) dst with
  | some t=>match (generalizing:=false) vd (ac e) n,vd (ac e) c with
   | .int _ n,.int _ c=>0 <= n /\ n <= c /\ c * by_ <= 140737488355328 /\ doW C hs K ns ⟨⟩ e R acc [(t,.ref (.r (rt t 0)) 0 n.toNat),(rt t 0,.blk sz (List.replicate c.toNat zs))] [(rt t 0,true)]
   | _,_=>False
  | none=>False):=zR
def stM (C : CC) (hs : Option (List Nat)) (K : Env -> Prop) (ns : List aA) (_ : Tag (hs,K,ns)) (e : Env) (R : List Nat) (acc : List (List Nat × List Nat)) (n : Nat) (v : D) (cs : List D) (bs : List Nat) (a : D) : Prop:=match a with
 | .adr (.r b) i off=>bs.contains b=false /\ ek (ac e b) (fun sz es=>iU es[i]? (fun r=>off + n <= r.length /\ doW C hs K ns ⟨⟩ e R acc ((b,.blk sz (bJ es i off n cs))::cg bs) (stK v [] b)) ⟨⟩) ⟨⟩
 | .adr (.n b i0 o0) i off=>bs=[] /\ (∀ c ∈ cs,aK c=true) /\ ek (ac e b) (fun sz0 es0=>iU es0[i0]? (fun row0=>mK row0[o0]? (fun sz es=>iU es[i]? (fun r=>off + n <= r.length /\ doW C hs K ns ⟨⟩ e R acc [(b,.blk sz0 (bJ es0 i0 o0 1 [.own sz (bJ es i off n cs)]))] []) ⟨⟩) ⟨⟩) ⟨⟩) ⟨⟩
 | _=>False
@[simp] theorem SG {n v cs bs b i off} : stM C hs K ns u e R acc n v cs bs (.adr (.r b) i off)=(bs.contains b=false /\ ek (ac e b) (fun sz es=>iU es[i]? (fun r=>off + n <= r.length /\ doW C hs K ns ⟨⟩ e R acc ((b,.blk sz (bJ es i off n cs))::cg bs) (stK v [] b)) ⟨⟩) ⟨⟩):=zR
@[simp] theorem SF {n v cs bs b i0 o0 i off} : stM C hs K ns u e R acc n v cs bs (.adr (.n b i0 o0) i off)=(bs=[] /\ (∀ c ∈ cs,aK c=true) /\ ek (ac e b) (fun sz0 es0=>iU es0[i0]? (fun row0=>mK row0[o0]? (fun sz es=>iU es[i]? (fun r=>off + n <= r.length /\ doW C hs K ns ⟨⟩ e R acc [(b,.blk sz0 (bJ es0 i0 o0 1 [.own sz (bJ es i off n cs)]))] []) ⟨⟩) ⟨⟩) ⟨⟩) ⟨⟩):=zR
@[simp] theorem Sm {n a v v1} : opW C hs K ns dst (.st n [] a v) v1 e R acc=(dst=none /\ fJ (ac e) (vd (ac e) v) [] (fun cs bs=>cs.length=n /\ stM C hs K ns ⟨⟩ e R acc n (vd (ac e) v) cs bs (vd (ac e) a)) ⟨⟩):=by
 show (dst=none /\ fg (ac e) (vd (ac e) v) [] _)=(dst=none /\ fg (ac e) (vd (ac e) v) [] _)
 congr 1
 congr 1
 funext cs bs
 cases vd (ac e) a <;> try rfl
 rename_i p i off
 cases p with
 | r b =>
  simp only [stM,ek,iG]
  cases ac e b <;> rfl
 | n b i0 o0 =>
  simp only [stM,ek,iG,lM]
  cases ac e b <;> rfl
def ta (C : CC) (hs : Option (List Nat)) (K : Env -> Prop) (ns : List aA) (_ : Tag (hs,K,ns)) (e : Env) (R : List Nat) (acc : List (List Nat × List Nat)) (t sz by_ : Nat) (rowsY : List (List D)) (bs : List Nat) (x : D) : Prop:=match x with
 | .nils=>rowsY.length * by_ <= 140737488355328 /\ doW C hs K ns ⟨⟩ e R acc ((t,.ref (.r (rt t 0)) 0 rowsY.length)::(rt t 0,.blk sz rowsY)::cg bs) [(rt t 0,true)]
 | .ref (.r c) k n=>c ≠ rt t 0 /\ bs.contains c=false /\ ek (ac e c) (fun sz' es=>sz'=sz /\ k + n <= es.length /\ (n + rowsY.length) * by_ <= 140737488355328 /\
      doW C hs K ns ⟨⟩ e R acc ((t,.ref (.r (rt t 0)) 0 (n + rowsY.length))::(rt t 0,.blk sz ((es.drop k).take n++rowsY))::(c,.any)::cg bs) [(rt t 0,true)]) ⟨⟩
 | .ref (.n c i o) k n=>c ≠ rt t 0 /\ bs.contains c=false /\ ek (ac e c) (fun sz0 es0=>iU es0[i]? (fun row0=>mK row0[o]? (fun sz' es=>sz'=sz /\ k + n <= es.length /\ (n + rowsY.length) * by_ <= 140737488355328 /\
      doW C hs K ns ⟨⟩ e R acc ((t,.ref (.r (rt t 0)) 0 (n + rowsY.length))::(rt t 0,.blk sz ((es.drop k).take n++rowsY))::(c,.blk sz0 (bJ es0 i o 1 [.any]))::cg bs) [(rt t 0,true)]) ⟨⟩) ⟨⟩) ⟨⟩
 | _=>False
@[simp] theorem DS {t sz by_ rowsY bs} : ta C hs K ns u e R acc t sz by_ rowsY bs .nils=(rowsY.length * by_ <= 140737488355328 /\ doW C hs K ns ⟨⟩ e R acc ((t,.ref (.r (rt t 0)) 0 rowsY.length)::(rt t 0,.blk sz rowsY)::cg bs) [(rt t 0,true)]):=zR
@[simp] theorem Q7 {t sz by_ rowsY bs c k n} : ta C hs K ns u e R acc t sz by_ rowsY bs (.ref (.r c) k n)=(c ≠ rt t 0 /\ bs.contains c=false /\ ek (ac e c) (fun sz' es=>sz'=sz /\ k + n <= es.length /\ (n + rowsY.length) * by_ <= 140737488355328 /\
      doW C hs K ns ⟨⟩ e R acc ((t,.ref (.r (rt t 0)) 0 (n + rowsY.length))::(rt t 0,.blk sz ((es.drop k).take n++rowsY))::(c,.any)::cg bs) [(rt t 0,true)]) ⟨⟩):=zR
@[simp] theorem Q6 {t sz by_ rowsY bs c i o k n} : ta C hs K ns u e R acc t sz by_ rowsY bs (.ref (.n c i o) k n)=(c ≠ rt t 0 /\ bs.contains c=false /\ ek (ac e c) (fun sz0 es0=>iU es0[i]? (fun row0=>mK row0[o]? (fun sz' es=>sz'=sz /\ k + n <= es.length /\ (n + rowsY.length) * by_ <= 140737488355328 /\
      doW C hs K ns ⟨⟩ e R acc ((t,.ref (.r (rt t 0)) 0 (n + rowsY.length))::(rt t 0,.blk sz ((es.drop k).take n++rowsY))::(c,.blk sz0 (bJ es0 i o 1 [.any]))::cg bs) [(rt t 0,true)]) ⟨⟩) ⟨⟩) ⟨⟩):=zR
@[simp] theorem Qp {sz by_ mv x y t v1} : opW C hs K ns (some t) (.app sz by_ mv x y) v1 e R acc=ii (ac e) mv (vd (ac e) y) sz (fun rowsY bs=>bs.contains (rt t 0)=false /\ ta C hs K ns ⟨⟩ e R acc t sz by_ rowsY bs (vd (ac e) x)) ⟨⟩:=by
 unfold opW ii
 simp only [aL]
 congr 1
 funext rowsY bs
 congr 1
 cases vd (ac e) x <;> try rfl
 rename_i p k n
 cases p with
 | r c =>
  simp only [ta,ek]
  cases ac e c <;> rfl
 | n c i o =>
  simp only [ta,ek,iG,lM]
  cases hl : ac e c <;> try rfl
  rename_i sz0 es0
  refine congrArg _ (congrArg _ (propext ⟨?_,?_⟩))
  ·rintro ⟨row0,h1,es,h2,h3⟩
   exact ⟨row0,h1,sz,es,h2,rfl,h3⟩
  ·rintro ⟨row0,h1,sz',es,h2,rfl,h3⟩
   exact ⟨row0,h1,es,h2,h3⟩
@[simp] theorem LW {g b n xs sz es} : Dc C g hs K ns dst u e R acc b n xs (.blk sz es)=(es.length=n /\ (∀ e ∈ es,∀ c ∈ e,aK c=true) /\ (∀ x ∈ xs,bD (fbE (ac e) b) (vd (fbE (ac e) b) x)) /\ qC C g hs K ns dst ⟨⟩ e R acc b sz es (xs.map (dpv (fbE (ac e) b))) (xs.all fun y=>isV (vd (fbE (ac e) b) y))):=zR
@[simp] theorem LY {g xs b k n} : LX C g hs K ns dst u e R acc xs (.ref (.r b) k n)=(k=0 /\ Dc C g hs K ns dst ⟨⟩ e R acc b n xs (ac e b)):=zR
@[simp] theorem Gm {g x xs v1} : opW C hs K ns dst (.callS g x xs) v1 e R acc=(LX C g hs K ns dst ⟨⟩ e R acc xs (vd (ac e) x)):=by
 cases dst <;> rfl
def xh (n : Nat) (d : D) : Prop:=match d with
 | .blk _ es=>es.length=n /\ ∀ e ∈ es,∀ c ∈ e,a6 c=true
 | _=>False
def pk (f : Nat -> D) (b : Nat) (d : D) : Prop:=match d with
 | .ref (.r c) k n=>k=0 /\ c ≠ b /\ xh n (f c)
 | d=>isV d=true
def yj (d : D) : D:=match d with
 | .blk sz es=>.own sz es
 | _=>.any
def rY (f : Nat -> D) (d : D) : D:=match d with
 | .ref (.r c) _ _=>yj (f c)
 | d=>d
@[simp] theorem G2 {n sz es} : xh n (.blk sz es)=(es.length=n /\ ∀ e ∈ es,∀ c ∈ e,a6 c=true):=zR
@[simp] theorem Lm {sz es} : yj (.blk sz es)=.own sz es:=zR
@[simp] theorem Me {f : Nat -> D} {b : Nat} {x : Opd} : lB f b x=pk f b (vd f x):=by
 unfold lB pk xh
 cases vd f x <;> rfl
@[simp] theorem Mf {f : Nat -> D} {x : Opd} : j0 f x=rY f (vd f x):=by
 unfold j0 rY yj
 cases vd f x <;> rfl
@[simp] theorem DU {f : Nat -> D} {b c k n} : pk f b (.ref (.r c) k n)=(k=0 /\ c ≠ b /\ xh n (f c)):=zR
@[simp] theorem DW {f : Nat -> D} {c k n} : rY f (.ref (.r c) k n)=yj (f c):=zR
@[simp] theorem DT {f : Nat -> D} {b k n} : pk f b (.int k n)=True:=by simp [pk,isV]
@[simp] theorem DV {f : Nat -> D} {k n} : rY f (.int k n)=.int k n:=zR
def uN (C : CC) (g : Nat) (hs : Option (List Nat)) (K : Env -> Prop) (ns : List aA) (t : Nat) (_ : Tag (hs,K,ns)) (e : Env) (R : List Nat) (acc : List (List Nat × List Nat)) (sz : Nat) (W : List (List D)) (ds : List D) (q : Nat × D) : Prop :=
 ∃ es' : List (List D),(∀ e ∈ es',e.length=sz /\ ∀ c ∈ e,a6 c=true) /\ C g (.own sz W::ds) .any [.own sz es',.nils,.nils] /\ doW C hs K ns ⟨⟩ e R acc [(t,.ref (.r (rt t 0)) 0 es'.length),(rt t 0,.blk sz es'),q] [(rt t 0,true)]
theorem xz {g : Nat} {hs : Option (List Nat)} {K : Env -> Prop} {ns : List aA} {t : Nat} {u : Tag (hs,K,ns)} {e : Env} {R : List Nat} {acc : List (List Nat × List Nat)} {sz : Nat} {W es' : List (List D)} {ds : List D} {q : Nat × D} (h : C g (.own sz W::ds) .any [.own sz es',.nils,.nils]) (hu : ∀ e ∈ es',e.length=sz /\ ∀ c ∈ e,a6 c=true)
  (hk : doW C hs K ns ⟨⟩ e R acc [(t,.ref (.r (rt t 0)) 0 es'.length),(rt t 0,.blk sz es'),q] [(rt t 0,true)]) : uN C g hs K ns t u e R acc sz W ds q:=⟨es',hu,h,hk⟩
def uM (C : CC) (g : Nat) (hs : Option (List Nat)) (K : Env -> Prop) (ns : List aA) (t : Nat) (_ : Tag (hs,K,ns)) (e : Env) (R : List Nat) (acc : List (List Nat × List Nat)) (xs : List Opd) (d : D) : Prop:=match d with
 | .ref (.r b) k n=>ek (ac e b) (fun sz es=>k + n <= es.length /\ b ≠ rt t 0 /\ 0 < sz /\ (∀ e ∈ (es.drop k).take n,∀ c ∈ e,a6 c=true) /\ (∀ x ∈ xs,lB (ac e) b x) /\ uN C g hs K ns t ⟨⟩ e R acc sz ((es.drop k).take n) (xs.map (j0 (ac e))) (b,.any)) ⟨⟩
 | .ref (.n b i o) k n=>ek (ac e b) (fun sz0 es0=>iU es0[i]? (fun row0=>mK row0[o]? (fun sz es=>k + n <= es.length /\ b ≠ rt t 0 /\ 0 < sz /\ (∀ e ∈ (es.drop k).take n,∀ c ∈ e,a6 c=true) /\ (∀ x ∈ xs,lB (ac e) b x) /\
   uN C g hs K ns t ⟨⟩ e R acc sz ((es.drop k).take n) (xs.map (j0 (ac e))) (b,.blk sz0 (bJ es0 i o 1 [.any]))) ⟨⟩) ⟨⟩) ⟨⟩
 | _=>False
@[simp] theorem RB {g xs t b k n} : uM C g hs K ns t u e R acc xs (.ref (.r b) k n)=ek (ac e b) (fun sz es=>k + n <= es.length /\ b ≠ rt t 0 /\ 0 < sz /\ (∀ e ∈ (es.drop k).take n,∀ c ∈ e,a6 c=true) /\ (∀ x ∈ xs,lB (ac e) b x) /\ uN C g hs K ns t ⟨⟩ e R acc sz ((es.drop k).take n) (xs.map (j0 (ac e))) (b,.any)) ⟨⟩:=zR
@[simp] theorem RA {g xs t b i o k n} : uM C g hs K ns t u e R acc xs (.ref (.n b i o) k n)=ek (ac e b) (fun sz0 es0=>iU es0[i]? (fun row0=>mK row0[o]? (fun sz es=>k + n <= es.length /\ b ≠ rt t 0 /\ 0 < sz /\ (∀ e ∈ (es.drop k).take n,∀ c ∈ e,a6 c=true) /\ (∀ x ∈ xs,lB (ac e) b x) /\
   uN C g hs K ns t ⟨⟩ e R acc sz ((es.drop k).take n) (xs.map (j0 (ac e))) (b,.blk sz0 (bJ es0 i o 1 [.any]))) ⟨⟩) ⟨⟩) ⟨⟩:=zR
@[simp] theorem Gh {g x xs t v1} : opW C hs K ns (some t) (.callE g x xs) v1 e R acc=uM C g hs K ns t ⟨⟩ e R acc xs (vd (ac e) x):=by
 unfold opW
 simp only [aL]
 cases vd (ac e) x <;> try rfl
 rename_i p k n
 cases p with
 | r b =>
  simp only [uM,ek,bu,Pa.root,cY]
  cases ac e b <;> rfl
 | n b i o =>
  simp only [uM,ek,iG,lM,bu,Pa.root,cY]
  cases hl : ac e b <;> try rfl
  rename_i sz0 es0
  simp only
  cases hi : es0[i]? with
  | none=>simp
  | some row0 =>
   simp only [x1B,x0j,exists_eq_left']
   cases ho : row0[o]? with
   | none=>simp
   | some d =>
    cases d
    case own sz es=>exact propext ⟨fun h=>⟨sz,es,rfl,h⟩,fun ⟨sz',es',h0,h⟩=>by cases h0;exact h⟩
    all_goals simp
@[simp] theorem EW {f : Nat -> D} {b k n sz es} : b9 f (.ref (.r b) k n) (.own sz es)=(k=0 /\ n=es.length /\ f b=.blk sz es):=zR
@[simp] theorem EU {f : Nat -> D} {b k n sz es} : b9 f (.adr (.r b) k n) (.blk sz es)=(k=0 /\ n=0 /\ f b=.blk sz es):=zR
@[simp] theorem EV {f : Nat -> D} {k n r} : b9 f (.int k n) r=(r=.int k n):=by simp [b9]
@[simp] theorem BO {f : Nat -> D} {n r} : b9 f (.bool n) r=(r=.bool n):=by simp [b9]
@[simp] theorem EX {f : Nat -> D} {n r} : b9 f (.str n) r=(r=.str n):=by simp [b9]
@[simp] theorem BQ {f : Nat -> D} {r} : b9 f .nils r=(r=.nils):=by simp [b9]
@[simp] theorem BP {f : Nat -> D} {r} : b9 f .nilp r=(r=.nilp):=by simp [b9]
@[simp] theorem Im {f : Nat -> D} {n r} : b9 f (.sl n) r=(r=.sl n):=by simp [b9]
@[simp] theorem ET {f : Nat -> D} {n r} : b9 f (.agg n) r=(r=.agg n):=by simp [b9]
@[simp] theorem GG {t d} : b7 (some t) d=[(t,d)]:=zR
@[simp] theorem GF {d} : b7 none d=[]:=zR
@[simp] theorem Dj {t} : A4 (some t)=[(t,.tup [])]:=zR
@[simp] theorem Di : A4 none=[]:=zR
@[simp] theorem Gi {g xs t v1} : opW C hs K ns (some t) (.callF g xs) v1 e R acc=((∀ x ∈ xs,bD (ac e) (vd (ac e) x)) /\ uz C g hs K ns t ⟨⟩ e R acc (xs.map (dpv (ac e)))):=zR
@[simp] theorem Lc {g xs x0 v1} : opW C hs K ns dst (.call g xs x0) v1 e R acc=((∀ x ∈ xs,bD (ac e) (vd (ac e) x)) /\ pq C g hs K ns dst ⟨⟩ e R acc (xs.all fun x=>isV (vd (ac e) x)) (xs.map (dpv (ac e)))):=zR
def j3 (C : CC) (hs : Option (List Nat)) (K : Env -> Prop) (ns : List aA) (t : Nat) (_ : Tag (hs,K,ns)) (e : Env) (R : List Nat) (acc : List (List Nat × List Nat)) (d : D) : Prop:=match d with
 | .ref (.r c) k n=>if c=rt t 0 then doW C hs K ns ⟨⟩ e R acc [(t,.ref (.r c) k n)] [] else match ac e c with
  | .blk sz es=>doW C hs K ns ⟨⟩ e R acc [(t,.ref (.r (rt t 0)) k n),(rt t 0,.blk sz es),(c,.any)] [(rt t 0,true)]
  | _=>False
 | d=>isS d=true /\ doW C hs K ns ⟨⟩ e R acc [(t,d)] []
@[simp] theorem Qq {t x v1} : opW C hs K ns (some t) (.asg x) v1 e R acc=j3 C hs K ns t ⟨⟩ e R acc (vd (ac e) x):=zR
@[simp] theorem G4 {t c k n} : j3 C hs K ns t u e R acc (.ref (.r c) k n)=(if c=rt t 0 then doW C hs K ns ⟨⟩ e R acc [(t,.ref (.r c) k n)] [] else match ac e c with
  | .blk sz es=>doW C hs K ns ⟨⟩ e R acc [(t,.ref (.r (rt t 0)) k n),(rt t 0,.blk sz es),(c,.any)] [(rt t 0,true)]
  | _=>False):=zR
@[simp] theorem DY {t b i o k n} : j3 C hs K ns t u e R acc (.ref (.n b i o) k n)=doW C hs K ns ⟨⟩ e R acc [(t,.ref (.n b i o) k n)] []:=by simp [j3]
@[simp] theorem DX {t} : j3 C hs K ns t u e R acc .nils=doW C hs K ns ⟨⟩ e R acc [(t,.nils)] []:=by simp [j3]
@[simp] theorem Mg {t es} : j3 C hs K ns t u e R acc (.sl es)=doW C hs K ns ⟨⟩ e R acc [(t,.sl es)] []:=by simp [j3]
@[simp] theorem G5 {t b es} : j3 C hs K ns t u e R acc (slx b es)=doW C hs K ns ⟨⟩ e R acc [(t,slx b es)] []:=by
 rcases fW b es with h | ⟨h,_⟩ <;> rw [h] <;> simp
@[simp] theorem G3 {t} : j3 C hs K ns t u e R acc .any=doW C hs K ns ⟨⟩ e R acc [(t,.any)] []:=by simp [j3]
@[simp] theorem G6 {t ds} : j3 C hs K ns t u e R acc (.tup ds)=doW C hs K ns ⟨⟩ e R acc [(t,.tup ds)] []:=by simp [j3]
def x6 (C : CC) (hs : Option (List Nat)) (K : Env -> Prop) (ns : List aA) (dst : Option Nat) (_ : Tag (hs,K,ns)) (e : Env) (R : List Nat) (acc : List (List Nat × List Nat)) (c i off : Nat) (d : D) : Prop:=match d with
 | .blk _ es=>∃ r,es[i]? = some r /\ ∃ d,r[off]? = some d /\ dX dst (kOf C hs K ns e R acc) (ldc (.r c) i off d)
 | _=>False
@[simp] theorem Ki {c i off sz es} : x6 C hs K ns dst u e R acc c i off (.blk sz es)=iU es[i]? (fun r=>xk r[off]? (fun d=>dW C hs K ns dst ⟨⟩ e R acc (ldc (.r c) i off d)) ⟨⟩) ⟨⟩:=by
 simp only [x6,iG,xm];rfl
def Kj (C : CC) (hs : Option (List Nat)) (K : Env -> Prop) (ns : List aA) (dst : Option Nat) (_ : Tag (hs,K,ns)) (e : Env) (R : List Nat) (acc : List (List Nat × List Nat)) (q : Nat) (d : D) : Prop:=match d with
 | .adr (.r c) i off=>off=q /\ x6 C hs K ns dst ⟨⟩ e R acc c i off (ac e c)
 | _=>False
@[simp] theorem Kk {q c i off} : Kj C hs K ns dst u e R acc q (.adr (.r c) i off)=(off=q /\ x6 C hs K ns dst ⟨⟩ e R acc c i off (ac e c)):=zR
@[simp] theorem QA {q x v1} : opW C hs K ns dst (.ldQ q x) v1 e R acc=Kj C hs K ns dst ⟨⟩ e R acc q (vd (ac e) x):=zR
def xg (C : CC) (hs : Option (List Nat)) (K : Env -> Prop) (ns : List aA) (t : Nat) (_ : Tag (hs,K,ns)) (e : Env) (R : List Nat) (acc : List (List Nat × List Nat)) (sz by_ : Nat) (rowsY : List (List D)) (c i o k n : Nat) (d : D) : Prop:=match d with
 | .blk sz0 es0=>∃ row0,es0[i]? = some row0 /\ ∃ es,row0[o]? = some (.own sz es) /\ k + n <= es.length /\ (n + rowsY.length) * by_ <= 140737488355328 /\
   kOf C hs K ns e R acc [(t,.ref (.r (rt t 0)) 0 (n + rowsY.length)),(rt t 0,.blk sz ((es.drop k).take n++rowsY)),(c,.blk sz0 (bJ es0 i o 1 [.any]))] [(rt t 0,true)]
 | _=>False
@[simp] theorem GZ {t sz by_ rowsY c i o k n sz0 es0} : xg C hs K ns t u e R acc sz by_ rowsY c i o k n (.blk sz0 es0)=iU es0[i]? (fun row0=>mK row0[o]? (fun sz' es=>sz'=sz /\ k + n <= es.length /\ (n + rowsY.length) * by_ <= 140737488355328 /\
   doW C hs K ns ⟨⟩ e R acc [(t,.ref (.r (rt t 0)) 0 (n + rowsY.length)),(rt t 0,.blk sz ((es.drop k).take n++rowsY)),(c,.blk sz0 (bJ es0 i o 1 [.any]))] [(rt t 0,true)]) ⟨⟩) ⟨⟩:=by
 simp only [xg,iG,lM]
 refine propext ⟨?_,?_⟩
 ·rintro ⟨row0,h1,es,h2,h3,h4,h5⟩
  exact ⟨row0,h1,sz,es,h2,rfl,h3,h4,h5⟩
 ·rintro ⟨row0,h1,sz',es,h2,rfl,h3,h4,h5⟩
  exact ⟨row0,h1,es,h2,h3,h4,h5⟩
def G0 (C : CC) (hs : Option (List Nat)) (K : Env -> Prop) (ns : List aA) (t : Nat) (_ : Tag (hs,K,ns)) (e : Env) (R : List Nat) (acc : List (List Nat × List Nat)) (q sz by_ : Nat) (yd : D) (d : D) : Prop:=match d with
 | .ref (.n c i o') k n=>o'=q /\ eH (ac e) false yd sz fun rowsY bs=>bs=[] /\ c ≠ rt t 0 /\ xg C hs K ns t ⟨⟩ e R acc sz by_ rowsY c i o' k n (ac e c)
 | _=>False
@[simp] theorem G1 {t q sz by_ yd c i o k n} : G0 C hs K ns t u e R acc q sz by_ yd (.ref (.n c i o) k n)=(o=q /\ ii (ac e) false yd sz (fun rowsY bs=>bs=[] /\ c ≠ rt t 0 /\ xg C hs K ns t ⟨⟩ e R acc sz by_ rowsY c i o k n (ac e c)) ⟨⟩):=zR
@[simp] theorem K9 {t q sz by_ x y v1} : opW C hs K ns (some t) (.appQ q sz by_ x y) v1 e R acc=G0 C hs K ns t ⟨⟩ e R acc q sz by_ (vd (ac e) y) (vd (ac e) x):=zR
def Bu (C : CC) (hs : Option (List Nat)) (K : Env -> Prop) (ns : List aA) (t : Nat) (_ : Tag (hs,K,ns)) (e : Env) (R : List Nat) (acc : List (List Nat × List Nat)) (sz : Nat) (rows : List (List D)) (b k n : Nat) (d : D) : Prop:=match d with
 | .blk sz' es=>sz'=sz /\ k + n <= es.length /\ (∀ e ∈ es,∀ c ∈ e,aK c=true) /\ (∀ e ∈ rows,∀ c ∈ e,aK c=true) /\ kOf C hs K ns e R acc [(t,.int .i64 (min rows.length n : Nat)),(b,.blk sz (gJ es k (rows.take n)))] []
 | _=>False
@[simp] theorem Hr {t sz rows b k n sz' es} : Bu C hs K ns t u e R acc sz rows b k n (.blk sz' es)=(sz'=sz /\ k + n <= es.length /\ (∀ e ∈ es,∀ c ∈ e,aK c=true) /\ (∀ e ∈ rows,∀ c ∈ e,aK c=true) /\ doW C hs K ns ⟨⟩ e R acc [(t,.int .i64 (min rows.length n : Nat)),(b,.blk sz (gJ es k (rows.take n)))] []):=zR
def Hs (C : CC) (hs : Option (List Nat)) (K : Env -> Prop) (ns : List aA) (t : Nat) (_ : Tag (hs,K,ns)) (e : Env) (R : List Nat) (acc : List (List Nat × List Nat)) (sz : Nat) (rows : List (List D)) (d : D) : Prop:=match d with
 | .ref (.r b) k n=>(n=0 -> kOf C hs K ns e R acc [(t,.int .i64 0)] []) /\ (0 < n -> Bu C hs K ns t ⟨⟩ e R acc sz rows b k n (ac e b))
 | _=>False
@[simp] theorem Ht {t sz rows b k n} : Hs C hs K ns t u e R acc sz rows (.ref (.r b) k n)=((n=0 -> doW C hs K ns ⟨⟩ e R acc [(t,.int .i64 0)] []) /\ (0 < n -> Bu C hs K ns t ⟨⟩ e R acc sz rows b k n (ac e b))):=zR
@[simp] theorem Qw {t sz x y v1} : opW C hs K ns (some t) (.cpy sz x y) v1 e R acc=ii (ac e) false (vd (ac e) y) sz (fun rows bs=>bs=[] /\ 0 < rows.length /\ Hs C hs K ns t ⟨⟩ e R acc sz rows (vd (ac e) x)) ⟨⟩:=zR
def C5 (C : CC) (hs : Option (List Nat)) (K : Env -> Prop) (ns : List aA) (t : Nat) (_ : Tag (hs,K,ns)) (e : Env) (R : List Nat) (acc : List (List Nat × List Nat)) (len sz c : Nat) (d : D) : Prop:=match d with
 | .blk _ [row]=>0 < len /\ 0 < sz /\ row.length=len * sz /\ (∀ d ∈ row,aK d=true) /\ doW C hs K ns ⟨⟩ e R acc [(t,.ref (.r (rt t 0)) 0 len),(rt t 0,.blk sz (bT sz len row)),(c,.any)] [(rt t 0,true)]
 | _=>False
@[simp] theorem LQ {t len sz c sz0 row} : C5 C hs K ns t u e R acc len sz c (.blk sz0 [row])=(0 < len /\ 0 < sz /\ row.length=len * sz /\ (∀ d ∈ row,aK d=true) /\ doW C hs K ns ⟨⟩ e R acc [(t,.ref (.r (rt t 0)) 0 len),(rt t 0,.blk sz (bT sz len row)),(c,.any)] [(rt t 0,true)]):=zR
def LR (C : CC) (hs : Option (List Nat)) (K : Env -> Prop) (ns : List aA) (t : Nat) (_ : Tag (hs,K,ns)) (e : Env) (R : List Nat) (acc : List (List Nat × List Nat)) (len sz : Nat) (d : D) : Prop:=match d with
 | .adr (.r c) i off=>i=0 /\ off=0 /\ c ≠ rt t 0 /\ C5 C hs K ns t ⟨⟩ e R acc len sz c (ac e c)
 | _=>False
@[simp] theorem LS {t len sz c i off} : LR C hs K ns t u e R acc len sz (.adr (.r c) i off)=(i=0 /\ off=0 /\ c ≠ rt t 0 /\ C5 C hs K ns t ⟨⟩ e R acc len sz c (ac e c)):=zR
@[simp] theorem QK {len sz x t v1} : opW C hs K ns (some t) (.slM len sz x) v1 e R acc=LR C hs K ns t ⟨⟩ e R acc len sz (vd (ac e) x):=zR
def gy (C : CC) (hs : Option (List Nat)) (K : Env -> Prop) (ns : List aA) (dst : Option Nat) (_ : Tag (hs,K,ns)) (e : Env) (R : List Nat) (acc : List (List Nat × List Nat)) (d : D) : Prop:=match d with
 | .agx ds=>dW C hs K ns dst ⟨⟩ e R acc (.ptx ds)
 | .agg ds=>dW C hs K ns dst ⟨⟩ e R acc (.ptr ds)
 | d=>aK d=true /\ dW C hs K ns dst ⟨⟩ e R acc (.ptr [d])
@[simp] theorem Bp {ds : List D} : dw (.agg ds)=ds:=zR
@[simp] theorem Bq {k n} : dw (.int k n)=[.int k n]:=zR
@[simp] theorem Br {n} : dw (.str n)=[.str n]:=zR
@[simp] theorem Ac {n} : dw (.bool n)=[.bool n]:=zR
@[simp] theorem Eo {n} : dw (.sl n)=[.sl n]:=zR
@[simp] theorem EQ {f : Nat -> D} {es} : fM f [] es=es:=zR
@[simp] theorem BE {f : Nat -> D} {p ps es} : fM f (p::ps) es=fM f ps (es.set p.1 (dw (vd f p.2))):=zR
@[simp] theorem La {sz len zs parts v1} : opW C hs K ns dst (.blsF sz len zs parts) v1 e R acc=((∀ p ∈ parts,p.1 < len /\ (dw (vd (ac e) p.2)).length=sz /\ ∀ c ∈ dw (vd (ac e) p.2),aK c=true) /\ 0 < len /\
   (∀ r ∈ fM (ac e) parts (List.replicate len zs),∀ c ∈ r,aK c=true) /\ dW C hs K ns dst ⟨⟩ e R acc (.sl (fM (ac e) parts (List.replicate len zs)))):=zR
attribute [simp] Bs
@[simp] theorem Lb {x v1} : opW C hs K ns dst (.boxF x) v1 e R acc=gy C hs K ns dst ⟨⟩ e R acc (vd (ac e) x):=zR
@[simp] theorem Hd {ds} : gy C hs K ns dst u e R acc (.agx ds)=dW C hs K ns dst ⟨⟩ e R acc (.ptx ds):=zR
@[simp] theorem Hc {ds} : gy C hs K ns dst u e R acc (.agg ds)=dW C hs K ns dst ⟨⟩ e R acc (.ptr ds):=zR
@[simp] theorem He {k n} : gy C hs K ns dst u e R acc (.int k n)=dW C hs K ns dst ⟨⟩ e R acc (.ptr [.int k n]):=by simp [gy]
@[simp] theorem DZ {n} : gy C hs K ns dst u e R acc (.bool n)=dW C hs K ns dst ⟨⟩ e R acc (.ptr [.bool n]):=by simp [gy]
@[simp] theorem Hh {n} : gy C hs K ns dst u e R acc (.str n)=dW C hs K ns dst ⟨⟩ e R acc (.ptr [.str n]):=by simp [gy]
@[simp] theorem D0 : gy C hs K ns dst u e R acc .nils=dW C hs K ns dst ⟨⟩ e R acc (.ptr [.nils]):=by simp [gy]
@[simp] theorem Mm {es} : gy C hs K ns dst u e R acc (.sl es)=dW C hs K ns dst ⟨⟩ e R acc (.ptr [.sl es]):=by simp [gy]
@[simp] theorem Hg {b es} : gy C hs K ns dst u e R acc (slx b es)=dW C hs K ns dst ⟨⟩ e R acc (.ptr [slx b es]):=by
 rcases fW b es with h | ⟨h,_⟩ <;> rw [h] <;> simp
@[simp] theorem Hf {es} : gy C hs K ns dst u e R acc (.ptr es)=dW C hs K ns dst ⟨⟩ e R acc (.ptr [.ptr es]):=by simp [gy]
@[simp] theorem Ml {g es} : gy C hs K ns dst u e R acc (.fn g es)=dW C hs K ns dst ⟨⟩ e R acc (.ptr [.fn g es]):=by simp [gy]
@[simp] theorem QB {x v1} : opW C hs K ns dst (.len x) v1 e R acc=rf (vd (ac e) x) (fun n=>dW C hs K ns dst ⟨⟩ e R acc (.int .i64 n)) ⟨⟩:=by
 show res (ac e) _ (.len x)=_
 simp only [res,rf]
 cases vd (ac e) x <;> rfl
def qX (C : CC) (hs : Option (List Nat)) (K : Env -> Prop) (ns : List aA) (dst : Option Nat) (_ : Tag (hs,K,ns)) (e : Env) (R : List Nat) (acc : List (List Nat × List Nat)) (sz : Nat) (x i : D) : Prop:=match (generalizing:=false) x,i with
  | .sl es,.int _ j=>0 <= j /\ gA C hs K ns dst ⟨⟩ e R acc sz es j.toNat
  | .slv _ es,.int _ j=>0 <= j /\ gA C hs K ns dst ⟨⟩ e R acc sz es j.toNat
  | .rfx n sz' ds,.int _ j=>0 <= j /\ j.toNat < n /\ sz'=sz /\ dW C hs K ns dst ⟨⟩ e R acc (.ptx (ds.drop (j.toNat * sz)))
  | .ref p k n,.int _ j=>0 <= j /\ j.toNat < n /\ match (generalizing:=false) bu (ac e) p with
   | some (sz',_)=>sz'=sz /\ dW C hs K ns dst ⟨⟩ e R acc (.adr p (k + j.toNat) 0)
   | none=>False
  | _,_=>False
@[simp] theorem Lf {sz x i v1} : opW C hs K ns dst (.iadS sz x i) v1 e R acc=qX C hs K ns dst ⟨⟩ e R acc sz (vd (ac e) x) (vd (ac e) i):=zR
@[simp] theorem Ip {sz sz' n ds k j} : qX C hs K ns dst u e R acc sz (.rfx n sz' ds) (.int k j)=(0 <= j /\ j.toNat < n /\ sz'=sz /\ dW C hs K ns dst ⟨⟩ e R acc (.ptx (ds.drop (j.toNat * sz)))):=zR
@[simp] theorem M7 {sz es k j} : qX C hs K ns dst u e R acc sz (.sl es) (.int k j)=(0 <= j /\ gA C hs K ns dst ⟨⟩ e R acc sz es j.toNat):=zR
@[simp] theorem Iq {sz q es k j} : qX C hs K ns dst u e R acc sz (.slv q es) (.int k j)=(0 <= j /\ gA C hs K ns dst ⟨⟩ e R acc sz es j.toNat):=zR
@[simp] theorem Ir {sz b es k j} : qX C hs K ns dst u e R acc sz (slx b es) (.int k j)=(0 <= j /\ gA C hs K ns dst ⟨⟩ e R acc sz es j.toNat):=by
 rcases fW b es with h | ⟨h,rfl⟩
 ·rw [h];rfl
 ·rw [h];simp [qX,gA]
@[simp] theorem Io {sz p k n k' j} : qX C hs K ns dst u e R acc sz (.ref p k n) (.int k' j)=(0 <= j /\ j.toNat < n /\ match (generalizing:=false) bu (ac e) p with
   | some (sz',_)=>sz'=sz /\ dW C hs K ns dst ⟨⟩ e R acc (.adr p (k + j.toNat) 0)
   | none=>False):=zR
def yL (C : CC) (hs : Option (List Nat)) (K : Env -> Prop) (ns : List aA) (dst : Option Nat) (_ : Tag (hs,K,ns)) (e : Env) (R : List Nat) (acc : List (List Nat × List Nat)) (sz : Nat) (x : D) (lo hi : Option Opd) : Prop:=match (generalizing:=false) x with
  | .sl es=>(∀ e ∈ es,e.length=sz) /\ dJ (ac e) hi es.length (fun h=>dJ (ac e) lo 0 (fun l=>l <= h /\ h <= es.length /\ dW C hs K ns dst ⟨⟩ e R acc (.sl ((es.take h).drop l))) ⟨⟩) ⟨⟩
  | .nils=>dJ (ac e) hi 0 (fun h=>dJ (ac e) lo 0 (fun l=>l <= h /\ h <= 0 /\ dW C hs K ns dst ⟨⟩ e R acc (.sl [])) ⟨⟩) ⟨⟩
  | .ref p k n=>match (generalizing:=false) bu (ac e) p with
   | some (sz',_)=>sz'=sz /\ dJ (ac e) hi n (fun h=>dJ (ac e) lo 0 (fun l=>l <= h /\ h <= n /\ dW C hs K ns dst ⟨⟩ e R acc (.ref p (k + l) (h - l))) ⟨⟩) ⟨⟩
   | none=>False
  | _=>False
@[simp] theorem QL {sz x lo hi v1} : opW C hs K ns dst (.slc sz x lo hi) v1 e R acc=yL C hs K ns dst ⟨⟩ e R acc sz (vd (ac e) x) lo hi:=zR
@[simp] theorem QR {sz es lo hi} : yL C hs K ns dst u e R acc sz (.sl es) lo hi=((∀ e ∈ es,e.length=sz) /\ dJ (ac e) hi es.length (fun h=>dJ (ac e) lo 0 (fun l=>l <= h /\ h <= es.length /\ dW C hs K ns dst ⟨⟩ e R acc (.sl ((es.take h).drop l))) ⟨⟩) ⟨⟩):=zR
@[simp] theorem GE {sz lo hi} : yL C hs K ns dst u e R acc sz .nils lo hi=dJ (ac e) hi 0 (fun h=>dJ (ac e) lo 0 (fun l=>l <= h /\ h <= 0 /\ dW C hs K ns dst ⟨⟩ e R acc (.sl [])) ⟨⟩) ⟨⟩:=zR
@[simp] theorem LP {sz p k n lo hi} : yL C hs K ns dst u e R acc sz (.ref p k n) lo hi=(match (generalizing:=false) bu (ac e) p with
   | some (sz',_)=>sz'=sz /\ dJ (ac e) hi n (fun h=>dJ (ac e) lo 0 (fun l=>l <= h /\ h <= n /\ dW C hs K ns dst ⟨⟩ e R acc (.ref p (k + l) (h - l))) ⟨⟩) ⟨⟩
   | none=>False):=zR
@[simp] theorem Gn {x xs v1} : opW C hs K ns dst (.callv x xs) v1 e R acc=(match (generalizing:=false) vd (ac e) x with
  | .fn g cs=>(∀ x ∈ xs,bD (ac e) (vd (ac e) x)) /\ pq C g hs K ns dst ⟨⟩ e R acc (xs.all fun x=>isV (vd (ac e) x)) (xs.map (dpv (ac e))++cs)
  | .fnx g cs=>(∀ x ∈ xs,bD (ac e) (vd (ac e) x)) /\ (∀ c ∈ cs,aY (ac e) c) /\ pq C g hs K ns dst ⟨⟩ e R acc false (xs.map (dpv (ac e))++cs.map (dp1 (ac e)))
  | _=>False):=by
 simp only [opW,aL,pq,dX,x0i,or_false]
 cases vd (ac e) x <;> rfl
def mpT (x : D) (K : Nat -> Nat -> List D -> List D -> Prop) (_ : Tag K) : Prop:=match x with
 | .mp kt et ks vs=>K kt et ks vs
 | _=>False
@[simp] theorem Sc {kt et ks vs K u} : mpT (.mp kt et ks vs) K u=K kt et ks vs:=zR
@[simp] theorem QD {kt et t v1} : opW C hs K ns (some t) (.mkm kt et) v1 e R acc=doW C hs K ns ⟨⟩ e R acc [(t,.mrf (rt t 0)),(rt t 0,.mp kt et [] [])] [(rt t 0,true)]:=zR
def mlM (C : CC) (hs : Option (List Nat)) (K : Env -> Prop) (ns : List aA) (dst : Option Nat) (_ : Tag (hs,K,ns)) (e : Env) (R : List Nat) (acc : List (List Nat × List Nat)) (sh : KSh) (kt et : Nat) (ok : Bool) (z x m : D) : Prop:=match m with
 | .mrf b=>mpT (ac e b) (fun kt' et' ks vs=>kt'=kt /\ et'=et /\ db sh x /\ match ok with
    | true=>dW C hs K ns dst ⟨⟩ e R acc (.tup [(de ks vs x).getD z,.bool (de ks vs x).isSome])
    | false=>dW C hs K ns dst ⟨⟩ e R acc ((de ks vs x).getD z)) ⟨⟩
 | _=>False
@[simp] theorem Qb {sh kt et ok z x b} : mlM C hs K ns dst u e R acc sh kt et ok z x (.mrf b)=mpT (ac e b) (fun kt' et' ks vs=>kt'=kt /\ et'=et /\ db sh x /\ match ok with
    | true=>dW C hs K ns dst ⟨⟩ e R acc (.tup [(de ks vs x).getD z,.bool (de ks vs x).isSome])
    | false=>dW C hs K ns dst ⟨⟩ e R acc ((de ks vs x).getD z)) ⟨⟩:=zR
@[simp] theorem QG {sh kt et ok z m x v1} : opW C hs K ns dst (.mpl sh kt et ok z m x) v1 e R acc=mlM C hs K ns dst ⟨⟩ e R acc sh kt et ok z (vd (ac e) x) (vd (ac e) m):=by
 show res (ac e) _ (.mpl sh kt et ok z m x)=_
 simp only [res,mlM]
 cases vd (ac e) m <;> rfl
def muM (C : CC) (hs : Option (List Nat)) (K : Env -> Prop) (ns : List aA) (_ : Tag (hs,K,ns)) (e : Env) (R : List Nat) (acc : List (List Nat × List Nat)) (sh : KSh) (kt et : Nat) (z x v m : D) : Prop:=match m with
 | .mrf b=>mpT (ac e b) (fun kt' et' ks vs=>kt'=kt /\ et'=et /\ ks.length < maxLen /\ db sh x /\ gK z v /\ doW C hs K ns ⟨⟩ e R acc [(b,.mp kt et (x::ks) (v::vs))] []) ⟨⟩
 | _=>False
@[simp] theorem Qc {sh kt et z x v b} : muM C hs K ns u e R acc sh kt et z x v (.mrf b)=mpT (ac e b) (fun kt' et' ks vs=>kt'=kt /\ et'=et /\ ks.length < maxLen /\ db sh x /\ gK z v /\ doW C hs K ns ⟨⟩ e R acc [(b,.mp kt et (x::ks) (v::vs))] []) ⟨⟩:=zR
@[simp] theorem QH {sh kt et z m x v v1} : opW C hs K ns dst (.mpu sh kt et z m x v) v1 e R acc=(dst=none /\ muM C hs K ns ⟨⟩ e R acc sh kt et z (vd (ac e) x) (vd (ac e) v) (vd (ac e) m)):=by
 show (dst=none /\ _)=_
 congr 1
end
@[simp] theorem BZ {s} : db .str (.str s)=(s.length <= maxLen):=zR
@[simp] theorem Ap {b} : db .bool (.bool b)=True:=zR
@[simp] theorem BY {q q' n} : db (.int q) (.int q' n)=(q'=q /\ pM q n):=zR
@[simp] theorem Aq {q n ds} : db (.ints q n) (.agg ds)=(ds.length=n /\ ∀ d ∈ ds,∃ x,d=.int q x /\ pM q x):=zR
@[simp] theorem EP {s z} : gK (.str z) (.str s)=(s.length <= maxLen):=zR
@[simp] theorem Bz {b z} : gK (.bool z) (.bool b)=True:=zR
@[simp] theorem EO {q q' n z} : gK (.int q z) (.int q' n)=(q'=q /\ pM q n):=zR
@[simp] theorem IB {n : Int} : pM .i64 n=(-9223372036854775808 <= n /\ n <= 9223372036854775807):=by
 have e1 : IntKind.i64.min=-9223372036854775808:=rfl
 have e2 : IntKind.i64.max=9223372036854775807:=rfl
 simp [pM,Lit.wf,e1,e2]
attribute [simp] kD gV cz lc da bU b6 lg CM okR qi lb cH
attribute [simp] vd params eG jc jd jb mb mV vU prune jW isC gQ bu Sp bJ dpv cg stK bm rt chk rdS rdR frR fwR fC rdN gL wrK mnR CO ldN am ia pH wOk Pa.root cj bH
end Go.Gv

namespace Go.Gv
section
variable {C : CC}
def CP (id : Nat) (S : Type) (G : S -> Env) (J : S -> Prop) (Q : cu -> Env -> Prop) : cu -> Env -> Prop:=fun t e=>match t with
 | .ext i=>if i=id then ∃ s,J s /\ jW e (G s) else Q (.ext i) e
 | t=>Q t e
variable {Q : cu -> Env -> Prop} {e : Env}
@[simp] theorem xH {id S G J u} : bN (CP id S G J Q) u .nrm e=bN Q ⟨⟩ .nrm e:=zR
@[simp] theorem xI {id S G J u} : bN (CP id S G J Q) u .ret e=bN Q ⟨⟩ .ret e:=zR
@[simp] theorem xG {id S G J u i} : bN (CP id S G J Q) u (.ext i) e=if i=id then ∃ s,J s /\ jW e (G s) else bN Q ⟨⟩ (.ext i) e:=zR
def Cd (S : Type) (G : S -> Env) (J : S -> Prop) (Q : cu -> Env -> Prop) : cu -> Env -> Prop:=fun t e=>match t with
 | .nrm=>∃ s,J s /\ jW e (G s)
 | t=>Q t e
@[simp] theorem xE {S G J u} : bN (Cd S G J Q) u .nrm e=∃ s,J s /\ jW e (G s):=zR
@[simp] theorem xF {S G J u} : bN (Cd S G J Q) u .ret e=bN Q ⟨⟩ .ret e:=zR
@[simp] theorem xD {S G J u i} : bN (Cd S G J Q) u (.ext i) e=bN Q ⟨⟩ (.ext i) e:=zR
end
@[simp] theorem LG {C : CC} {hs : Option (List Nat)} {K : Env -> Prop} {ns : List aA} {dst : Option Nat} {u : Tag (hs,K,ns)} {e : Env} {R : List Nat} {acc : List (List Nat × List Nat)} {α : Type} [Inhabited α] {n : Nat} {ag : Bool} {p : Pa} {xs : List α} {f : α -> List D} {i off : Nat} :
  kJ C hs K ns dst u e R acc n ag p (xs.map f) i off=(i < xs.length /\ off + n <= (f xs[i]!).length /\ match ag with
    | true=>((((f xs[i]!).drop off).take n).all isV=true -> dW C hs K ns dst ⟨⟩ e R acc (.agg (((f xs[i]!).drop off).take n))) /\
      ((((f xs[i]!).drop off).take n).all isV=false -> dW C hs K ns dst ⟨⟩ e R acc (.agx ((((f xs[i]!).drop off).take n).mapIdx fun j c=>ldc p i (off + j) c)))
    | false=>dW C hs K ns dst ⟨⟩ e R acc (ldc p i off (((f xs[i]!).drop off).headD .any))):=by
 apply propext
 constructor
 ·rintro ⟨r,h,h1,h2⟩
  rw [x0y,x0h] at h
  obtain ⟨x,hx,rfl⟩:=h
  obtain ⟨hi,rfl⟩:=x0c.1 hx
  rw [x02 xs i hi]
  refine ⟨hi,h1,?_⟩
  cases ag <;> exact h2
 ·rintro ⟨hi,h1,h2⟩
  rw [x02 xs i hi] at h1 h2
  refine oZ (r:=f xs[i]) (by rw [x0y,x0d hi];rfl) h1 ?_
  cases ag <;> exact h2
@[simp] theorem FN {b all ks n} : aS ((b,all)::ks) (.ptx n)=if n.any (aG b all) then .any else aS ks (.ptx n):=by
 have h : aS ((b,all)::ks) (.ptx n)=bif (n.any (aG b all) || aM ks (.ptx n)) then .any else .ptx n:=bE ..
 rw [h,bE]
 cases n.any (aG b all) <;> rfl
@[simp] theorem FP {b all ks k sz n} : aS ((b,all)::ks) (.rfx k sz n)=if n.any (aG b all) then .any else aS ks (.rfx k sz n):=by
 have h : aS ((b,all)::ks) (.rfx k sz n)=bif (n.any (aG b all) || aM ks (.rfx k sz n)) then .any else .rfx k sz n:=bE ..
 rw [h,bE]
 cases n.any (aG b all) <;> rfl
@[simp] theorem FT {b all ks n} : aS ((b,all)::ks) (.tpx n)=if n.any (aG b all) then .any else aS ks (.tpx n):=by
 have h : aS ((b,all)::ks) (.tpx n)=bif (n.any (aG b all) || aM ks (.tpx n)) then .any else .tpx n:=bE ..
 rw [h,bE]
 cases n.any (aG b all) <;> rfl
@[simp] theorem F8 {b all n es} : aG b all (slx n es)=false:=by cases n <;> cases es <;> rfl
@[simp] theorem F6 {b all p k n} : aG b all (.ref p k n)=bm b all p:=zR
@[simp] theorem FZ {b all p k n} : aG b all (.adr p k n)=bm b all p:=zR
@[simp] theorem F0 {b all T p k n} : aG b all (.ifa T p k n)=bm b all p:=zR
@[simp] theorem F2 {b all T n} : aG b all (.ifi T n)=false:=zR
@[simp] theorem F7 {b all k n} : aG b all (.slv k n)=false:=zR
@[simp] theorem F4 {b all c} : aG b all (.mrf c)=(all && c == b):=zR
@[simp] theorem F3 {b all k n} : aG b all (.int k n)=false:=zR
@[simp] theorem Ca {b all n} : aG b all (.bool n)=false:=zR
@[simp] theorem F9 {b all n} : aG b all (.str n)=false:=zR
@[simp] theorem Cc {b all} : aG b all .nils=false:=zR
@[simp] theorem Cb {b all} : aG b all .nilp=false:=zR
@[simp] theorem Kr {b all n} : aG b all (.sl n)=false:=zR
@[simp] theorem F5 {b all n} : aG b all (.ptr n)=false:=zR
@[simp] theorem Kq {b all g n} : aG b all (.fn g n)=false:=zR
@[simp] theorem FK {b all ks c} : aS ((b,all)::ks) (.mrf c)=if (all && c == b) then .any else aS ks (.mrf c):=by
 have h : aS ((b,all)::ks) (.mrf c)=bif ((all && c == b) || aM ks (.mrf c)) then .any else .mrf c:=bE ..
 rw [h,bE]
 cases all && c == b <;> rfl
end Go.Gv

namespace Go.Gv
section
variable {C : CC} {hs : Option (List Nat)} {K : Env -> Prop} {ns : List aA} {dst : Option Nat} {u : Tag (hs,K,ns)} {e : Env} {R : List Nat} {acc : List (List Nat × List Nat)}
theorem aq {sz : Nat} {es : List (List D)} {i : Nat} {c : List D} (h : es[i]? = some c) : gA C hs K ns dst u e R acc sz es i=(c.length=sz /\ dW C hs K ns dst ⟨⟩ e R acc (.ptr c)):=by
 apply propext
 unfold gA dW
 rw [h]
 exact ⟨fun ⟨_,h1,h2⟩=>by cases h1;exact h2,fun h2=>⟨c,rfl,h2⟩⟩
theorem a8 {n : Nat} {ag : Bool} {p : Pa} {es : List (List D)} {i off : Nat} {r : List D} (hr : es[i]? = some r) : kJ C hs K ns dst u e R acc n ag p es i off=(off + n <= r.length /\ match ag with
    | true=>(((r.drop off).take n).all isV=true -> dW C hs K ns dst ⟨⟩ e R acc (.agg ((r.drop off).take n))) /\
      (((r.drop off).take n).all isV=false -> dW C hs K ns dst ⟨⟩ e R acc (.agx (((r.drop off).take n).mapIdx fun j c=>ldc p i (off + j) c)))
    | false=>dW C hs K ns dst ⟨⟩ e R acc (ldc p i off ((r.drop off).headD .any))):=by
 apply propext
 constructor
 ·rintro ⟨r',h,h1,h2⟩
  rw [hr] at h
  cases h
  refine ⟨h1,?_⟩
  cases ag <;> exact h2
 ·rintro ⟨h1,h2⟩
  refine oZ hr h1 ?_
  cases ag <;> exact h2
@[simp] theorem Is {sz : Nat} {c0 : List D} {es : List (List D)} : gA C hs K ns dst u e R acc sz (c0::es) 0=(c0.length=sz /\ dW C hs K ns dst ⟨⟩ e R acc (.ptr c0)):=aq rfl
theorem vW {n : Nat} {ag : Bool} {p : Pa} {off : Nat} {c0 : List D} {es : List (List D)} : kJ C hs K ns dst u e R acc n ag p (c0::es) 0 off=(off + n <= c0.length /\ match ag with
    | true=>(((c0.drop off).take n).all isV=true -> dW C hs K ns dst ⟨⟩ e R acc (.agg ((c0.drop off).take n))) /\
      (((c0.drop off).take n).all isV=false -> dW C hs K ns dst ⟨⟩ e R acc (.agx (((c0.drop off).take n).mapIdx fun j c=>ldc p 0 (off + j) c)))
    | false=>dW C hs K ns dst ⟨⟩ e R acc (ldc p 0 off ((c0.drop off).headD .any))):=a8 rfl
@[simp] theorem It {sz : Nat} {c0 c1 : List D} {es : List (List D)} : gA C hs K ns dst u e R acc sz (c0::c1::es) 1=(c1.length=sz /\ dW C hs K ns dst ⟨⟩ e R acc (.ptr c1)):=aq rfl
theorem vX {n : Nat} {ag : Bool} {p : Pa} {off : Nat} {c0 c1 : List D} {es : List (List D)} : kJ C hs K ns dst u e R acc n ag p (c0::c1::es) 1 off=(off + n <= c1.length /\ match ag with
    | true=>(((c1.drop off).take n).all isV=true -> dW C hs K ns dst ⟨⟩ e R acc (.agg ((c1.drop off).take n))) /\
      (((c1.drop off).take n).all isV=false -> dW C hs K ns dst ⟨⟩ e R acc (.agx (((c1.drop off).take n).mapIdx fun j c=>ldc p 1 (off + j) c)))
    | false=>dW C hs K ns dst ⟨⟩ e R acc (ldc p 1 off ((c1.drop off).headD .any))):=a8 rfl
@[simp] theorem Iu {sz : Nat} {c0 c1 c2 : List D} {es : List (List D)} : gA C hs K ns dst u e R acc sz (c0::c1::c2::es) 2=(c2.length=sz /\ dW C hs K ns dst ⟨⟩ e R acc (.ptr c2)):=aq rfl
theorem vY {n : Nat} {ag : Bool} {p : Pa} {off : Nat} {c0 c1 c2 : List D} {es : List (List D)} : kJ C hs K ns dst u e R acc n ag p (c0::c1::c2::es) 2 off=(off + n <= c2.length /\ match ag with
    | true=>(((c2.drop off).take n).all isV=true -> dW C hs K ns dst ⟨⟩ e R acc (.agg ((c2.drop off).take n))) /\
      (((c2.drop off).take n).all isV=false -> dW C hs K ns dst ⟨⟩ e R acc (.agx (((c2.drop off).take n).mapIdx fun j c=>ldc p 2 (off + j) c)))
    | false=>dW C hs K ns dst ⟨⟩ e R acc (ldc p 2 off ((c2.drop off).headD .any))):=a8 rfl
@[simp] theorem Iv {sz : Nat} {c0 c1 c2 c3 : List D} {es : List (List D)} : gA C hs K ns dst u e R acc sz (c0::c1::c2::c3::es) 3=(c3.length=sz /\ dW C hs K ns dst ⟨⟩ e R acc (.ptr c3)):=aq rfl
theorem vZ {n : Nat} {ag : Bool} {p : Pa} {off : Nat} {c0 c1 c2 c3 : List D} {es : List (List D)} : kJ C hs K ns dst u e R acc n ag p (c0::c1::c2::c3::es) 3 off=(off + n <= c3.length /\ match ag with
    | true=>(((c3.drop off).take n).all isV=true -> dW C hs K ns dst ⟨⟩ e R acc (.agg ((c3.drop off).take n))) /\
      (((c3.drop off).take n).all isV=false -> dW C hs K ns dst ⟨⟩ e R acc (.agx (((c3.drop off).take n).mapIdx fun j c=>ldc p 3 (off + j) c)))
    | false=>dW C hs K ns dst ⟨⟩ e R acc (ldc p 3 off ((c3.drop off).headD .any))):=a8 rfl
@[simp] theorem Iw {sz : Nat} {c0 c1 c2 c3 c4 : List D} {es : List (List D)} : gA C hs K ns dst u e R acc sz (c0::c1::c2::c3::c4::es) 4=(c4.length=sz /\ dW C hs K ns dst ⟨⟩ e R acc (.ptr c4)):=aq rfl
theorem v6 {n : Nat} {ag : Bool} {p : Pa} {off : Nat} {c0 c1 c2 c3 c4 : List D} {es : List (List D)} : kJ C hs K ns dst u e R acc n ag p (c0::c1::c2::c3::c4::es) 4 off=(off + n <= c4.length /\ match ag with
    | true=>(((c4.drop off).take n).all isV=true -> dW C hs K ns dst ⟨⟩ e R acc (.agg ((c4.drop off).take n))) /\
      (((c4.drop off).take n).all isV=false -> dW C hs K ns dst ⟨⟩ e R acc (.agx (((c4.drop off).take n).mapIdx fun j c=>ldc p 4 (off + j) c)))
    | false=>dW C hs K ns dst ⟨⟩ e R acc (ldc p 4 off ((c4.drop off).headD .any))):=a8 rfl
attribute [simp] vW vX vY vZ v6
end
end Go.Gv

namespace Go.Gv
section
variable {C : CC} {hs : Option (List Nat)} {K : Env -> Prop} {ns : List aA} {dst : Option Nat} {u : Tag (hs,K,ns)} {e : Env} {R : List Nat} {acc : List (List Nat × List Nat)}
@[simp] theorem Ix {sz : Nat} {c0 c1 c2 c3 c4 c5 : List D} {es : List (List D)} : gA C hs K ns dst u e R acc sz (c0::c1::c2::c3::c4::c5::es) 5=(c5.length=sz /\ dW C hs K ns dst ⟨⟩ e R acc (.ptr c5)):=aq rfl
@[simp] theorem LD {n : Nat} {ag : Bool} {p : Pa} {off : Nat} {c0 c1 c2 c3 c4 c5 : List D} {es : List (List D)} : kJ C hs K ns dst u e R acc n ag p (c0::c1::c2::c3::c4::c5::es) 5 off=(off + n <= c5.length /\ match ag with
    | true=>(((c5.drop off).take n).all isV=true -> dW C hs K ns dst ⟨⟩ e R acc (.agg ((c5.drop off).take n))) /\
      (((c5.drop off).take n).all isV=false -> dW C hs K ns dst ⟨⟩ e R acc (.agx (((c5.drop off).take n).mapIdx fun j c=>ldc p 5 (off + j) c)))
    | false=>dW C hs K ns dst ⟨⟩ e R acc (ldc p 5 off ((c5.drop off).headD .any))):=a8 rfl
@[simp] theorem Iy {sz : Nat} {c0 c1 c2 c3 c4 c5 c6 : List D} {es : List (List D)} : gA C hs K ns dst u e R acc sz (c0::c1::c2::c3::c4::c5::c6::es) 6=(c6.length=sz /\ dW C hs K ns dst ⟨⟩ e R acc (.ptr c6)):=aq rfl
@[simp] theorem LE {n : Nat} {ag : Bool} {p : Pa} {off : Nat} {c0 c1 c2 c3 c4 c5 c6 : List D} {es : List (List D)} : kJ C hs K ns dst u e R acc n ag p (c0::c1::c2::c3::c4::c5::c6::es) 6 off=(off + n <= c6.length /\ match ag with
    | true=>(((c6.drop off).take n).all isV=true -> dW C hs K ns dst ⟨⟩ e R acc (.agg ((c6.drop off).take n))) /\
      (((c6.drop off).take n).all isV=false -> dW C hs K ns dst ⟨⟩ e R acc (.agx (((c6.drop off).take n).mapIdx fun j c=>ldc p 6 (off + j) c)))
    | false=>dW C hs K ns dst ⟨⟩ e R acc (ldc p 6 off ((c6.drop off).headD .any))):=a8 rfl
@[simp] theorem Iz {sz : Nat} {c0 c1 c2 c3 c4 c5 c6 c7 : List D} {es : List (List D)} : gA C hs K ns dst u e R acc sz (c0::c1::c2::c3::c4::c5::c6::c7::es) 7=(c7.length=sz /\ dW C hs K ns dst ⟨⟩ e R acc (.ptr c7)):=aq rfl
@[simp] theorem LF {n : Nat} {ag : Bool} {p : Pa} {off : Nat} {c0 c1 c2 c3 c4 c5 c6 c7 : List D} {es : List (List D)} : kJ C hs K ns dst u e R acc n ag p (c0::c1::c2::c3::c4::c5::c6::c7::es) 7 off=(off + n <= c7.length /\ match ag with
    | true=>(((c7.drop off).take n).all isV=true -> dW C hs K ns dst ⟨⟩ e R acc (.agg ((c7.drop off).take n))) /\
      (((c7.drop off).take n).all isV=false -> dW C hs K ns dst ⟨⟩ e R acc (.agx (((c7.drop off).take n).mapIdx fun j c=>ldc p 7 (off + j) c)))
    | false=>dW C hs K ns dst ⟨⟩ e R acc (ldc p 7 off ((c7.drop off).headD .any))):=a8 rfl
end
end Go.Gv

namespace Go.Gv
section
variable {C : CC} {hs : Option (List Nat)} {K : Env -> Prop} {ns : List aA} {e : Env} {R : List Nat} {acc : List (List Nat × List Nat)}
end
end Go.Gv

namespace Go.Gv
section
variable {C : CC} {hs : Option (List Nat)} {K : Env -> Prop} {ns : List aA} {e : Env} {R : List Nat} {acc : List (List Nat × List Nat)}
end
end Go.Gv

namespace Go.Gv
section
variable {C : CC} {hs : Option (List Nat)} {K : Env -> Prop} {ns : List aA} {dst : Option Nat} {e : Env} {R : List Nat} {acc : List (List Nat × List Nat)} {u : Tag (hs,K,ns)}
@[simp] theorem Gt : nv none=[]:=zR
@[simp] theorem Gu {x : Opd} : nv (some x)=[x]:=zR
@[simp] theorem LA {c c' k n : Nat} {q : Pa} : jL c q (.ref (.r c') k n)=if c'=c then .ref q k n else .ref (.r c') k n:=zR
@[simp] theorem Gy {c b i o k n : Nat} {q : Pa} : jL c q (.ref (.n b i o) k n)=.ref (.n b i o) k n:=zR
@[simp] theorem QQ {c : Nat} {q : Pa} {es} : jL c q (.sl es)=.sl es:=zR
@[simp] theorem Gx {c : Nat} {q : Pa} : jL c q .nils=.nils:=zR
@[simp] theorem Lz {c : Nat} {q : Pa} {k n} : jL c q (.int k n)=.int k n:=zR
@[simp] theorem LB {c : Nat} {q : Pa} {b es} : jL c q (slx b es)=slx b es:=by cases b <;> cases es <;> rfl
@[simp] theorem BV {b c i o k n : Nat} : gY b (.ref (.n c i o) k n)=(c != b || (i == 0 && o == 1)):=zR
@[simp] theorem BW {b c k n : Nat} : gY b (.ref (.r c) k n)=true:=zR
@[simp] theorem Ka {b : Nat} {es} : gY b (.sl es)=true:=zR
@[simp] theorem BU {b : Nat} : gY b .nils=true:=zR
@[simp] theorem Fx {b : Nat} {k n} : gY b (.int k n)=true:=zR
@[simp] theorem Fy {b : Nat} {x es} : gY b (slx x es)=true:=by cases x <;> cases es <;> rfl
def x7 (C : CC) (hs : Option (List Nat)) (K : Env -> Prop) (ns : List aA) (dst : Option Nat) (_ : Tag (hs,K,ns)) (e : Env) (R : List Nat) (acc : List (List Nat × List Nat)) (T : Nat) (d : D) : Prop:=match d with
 | .adr p i off=>dW C hs K ns dst ⟨⟩ e R acc (.ifa T p i off)
 | .int k n=>k=.i64 /\ dW C hs K ns dst ⟨⟩ e R acc (.ifi T n)
 | _=>False
@[simp] theorem QC {T x v1} : opW C hs K ns dst (.mkI T x) v1 e R acc=x7 C hs K ns dst ⟨⟩ e R acc T (vd (ac e) x):=by
 show res (ac e) _ (.mkI T x)=_
 simp only [res,x7]
 cases vd (ac e) x <;> rfl
@[simp] theorem Ks {T p i off} : x7 C hs K ns dst u e R acc T (.adr p i off)=dW C hs K ns dst ⟨⟩ e R acc (.ifa T p i off):=zR
@[simp] theorem Kt {T k n} : x7 C hs K ns dst u e R acc T (.int k n)=(k=.i64 /\ dW C hs K ns dst ⟨⟩ e R acc (.ifi T n)):=zR
def Dh (C : CC) (hs : Option (List Nat)) (K : Env -> Prop) (ns : List aA) (dst : Option Nat) (_ : Tag (hs,K,ns)) (e : Env) (R : List Nat) (acc : List (List Nat × List Nat)) (T : Nat) (d : D) : Prop:=match d with
 | .ifi T' n=>T'=T /\ dW C hs K ns dst ⟨⟩ e R acc (.int .i64 n)
 | _=>False
@[simp] theorem QN {T x v1} : opW C hs K ns dst (.tya T x) v1 e R acc=Dh C hs K ns dst ⟨⟩ e R acc T (vd (ac e) x):=by
 show res (ac e) _ (.tya T x)=_
 simp only [res,Dh]
 cases vd (ac e) x <;> rfl
@[simp] theorem L0 {T T' n} : Dh C hs K ns dst u e R acc T (.ifi T' n)=(T'=T /\ dW C hs K ns dst ⟨⟩ e R acc (.int .i64 n)):=zR
def rg (C : CC) (g : Nat) (hs : Option (List Nat)) (K : Env -> Prop) (ns : List aA) (dst : Option Nat) (_ : Tag (hs,K,ns)) (e : Env) (R : List Nat) (acc : List (List Nat × List Nat)) (b sz : Nat) (es : List (List D)) (W : List D) : Prop :=
 ∃ d,∃ es' : List (List D),0 < es'.length /\ C g (.blk sz es::W) d [.blk sz es',.nilp] /\ doW C hs K ns ⟨⟩ e R acc (b7 dst d++[(b,.blk sz es')]) [(b,false)]
theorem cA {g b sz : Nat} {es es' : List (List D)} {W : List D} {d : D} (h : C g (.blk sz es::W) d [.blk sz es',.nilp]) (hp : 0 < es'.length)
  (hk : doW C hs K ns ⟨⟩ e R acc (b7 dst d++[(b,.blk sz es')]) [(b,false)]) : rg C g hs K ns dst u e R acc b sz es W:=⟨d,es',hp,h,hk⟩
def Ho (C : CC) (g : Nat) (hs : Option (List Nat)) (K : Env -> Prop) (ns : List aA) (dst : Option Nat) (_ : Tag (hs,K,ns)) (e : Env) (R : List Nat) (acc : List (List Nat × List Nat)) (T : Nat) (xs : List Opd) (d : D) : Prop:=match d with
 | .ifa T' (.r b) i off=>T'=T /\ i=0 /\ off=0 /\ ek (ac e b) (fun sz es=>0 < es.length /\ (∀ x ∈ xs,isV (vd (ac e) x)=true) /\ rg C g hs K ns dst ⟨⟩ e R acc b sz es (.adr (.r 10015) 0 0::xs.map (vd (ac e)))) ⟨⟩
 | _=>False
@[simp] theorem Q9 {g xs T T' b i off} : Ho C g hs K ns dst u e R acc T xs (.ifa T' (.r b) i off)=(T'=T /\ i=0 /\ off=0 /\ ek (ac e b) (fun sz es=>0 < es.length /\ (∀ x ∈ xs,isV (vd (ac e) x)=true) /\ rg C g hs K ns dst ⟨⟩ e R acc b sz es (.adr (.r 10015) 0 0::xs.map (vd (ac e)))) ⟨⟩):=zR
@[simp] theorem Gj {g m T x xs v1} : opW C hs K ns dst (.callI g m T x xs) v1 e R acc=Ho C g hs K ns dst ⟨⟩ e R acc T xs (vd (ac e) x):=by
 unfold opW
 simp only [aL]
 cases vd (ac e) x <;> first | rfl | skip
def Hp (C : CC) (g : Nat) (hs : Option (List Nat)) (K : Env -> Prop) (ns : List aA) (dst : Option Nat) (_ : Tag (hs,K,ns)) (e : Env) (R : List Nat) (acc : List (List Nat × List Nat)) (xs : List Opd) (d : D) : Prop:=match d with
 | .ifa T (.r b) i off=>i=0 /\ off=0 /\ ek (ac e b) (fun sz es=>0 < es.length /\ (∀ x ∈ xs,isV (vd (ac e) x)=true) /\ rg C g hs K ns dst ⟨⟩ e R acc b sz es (.ifa T (.r 10015) 0 0::xs.map (vd (ac e)))) ⟨⟩
 | _=>False
@[simp] theorem Ra {g xs T b i off} : Hp C g hs K ns dst u e R acc xs (.ifa T (.r b) i off)=(i=0 /\ off=0 /\ ek (ac e b) (fun sz es=>0 < es.length /\ (∀ x ∈ xs,isV (vd (ac e) x)=true) /\ rg C g hs K ns dst ⟨⟩ e R acc b sz es (.ifa T (.r 10015) 0 0::xs.map (vd (ac e)))) ⟨⟩):=zR
@[simp] theorem Gk {g x xs v1} : opW C hs K ns dst (.callM g x xs) v1 e R acc=Hp C g hs K ns dst ⟨⟩ e R acc xs (vd (ac e) x):=by
 unfold opW
 simp only [aL]
 cases vd (ac e) x <;> first | rfl | skip
def Af (C : CC) (g : Nat) (hs : Option (List Nat)) (K : Env -> Prop) (ns : List aA) (dst : Option Nat) (_ : Tag (hs,K,ns)) (e : Env) (R : List Nat) (acc : List (List Nat × List Nat)) (xs : List Opd) (d : D) : Prop:=match d with
 | .ref (.r b) k n=>k=0 /\ ek (ac e b) (fun sz es=>0 < es.length /\ es.length=n /\ (∀ x ∈ xs,isV (vd (ac e) x)=true) /\ rg C g hs K ns dst ⟨⟩ e R acc b sz es (.ref (.r 10015) 0 n::xs.map (vd (ac e)))) ⟨⟩
 | _=>False
@[simp] theorem Mn {g xs b k n} : Af C g hs K ns dst u e R acc xs (.ref (.r b) k n)=(k=0 /\ ek (ac e b) (fun sz es=>0 < es.length /\ es.length=n /\ (∀ x ∈ xs,isV (vd (ac e) x)=true) /\ rg C g hs K ns dst ⟨⟩ e R acc b sz es (.ref (.r 10015) 0 n::xs.map (vd (ac e)))) ⟨⟩):=zR
@[simp] theorem Gl {g x xs v1} : opW C hs K ns dst (.callR g x xs) v1 e R acc=Af C g hs K ns dst ⟨⟩ e R acc xs (vd (ac e) x):=by
 unfold opW
 simp only [aL]
 cases vd (ac e) x <;> first | rfl | skip
theorem y7 {x y : Opd} {v1 : _} {b i off n sz0 sz : Nat} {es0 es : List (List D)} {row0 : List D} (hx : vd (ac e) x=.adr (.r b) i off) (hy : vd (ac e) y=.ref (.n b i off) 0 n) (hb : ac e b=.blk sz0 es0) (h1 : es0[i]? = some row0) (h2 : row0[off]? = some (.own sz es)) (h3 : n <= es.length)
  (hk : doW C hs K ns ⟨⟩ e R acc [(b,.blk sz0 (bJ es0 i off 1 [.own sz (es.take n)]))] []) : opW C hs K ns none (.stL x y) v1 e R acc:=by
 unfold opW
 simp only [aL]
 refine ⟨trivial,?_⟩
 rw [hx,hy]
 refine ⟨rfl,rfl,rfl,rfl,?_⟩
 rw [hb]
 exact ⟨row0,h1,sz,es,h2,h3,hk⟩
theorem j5 {g s : Nat} {x : Opd} {xs : List Opd} {v1 : _} {T b sz sz1 sz2 : Nat} {fs sp fs' : List (List D)} {ds : List D} {d : D} (hx : vd (ac e) x=.ifa T (.r b) 0 0) (hs0 : s < 10000) (hd : dst ≠ some s) (hxs : ∀ x ∈ xs,a6 (vd (ac e) x)=true)
  (hb : ac e b=.blk sz [[.own sz1 fs,.own sz2 sp]]) (hs1 : ac e s=.ptx ds) (hk1 : ds.all (gY b)=true) (f1 : ∀ e ∈ fs,∀ c ∈ e,a6 c=true) (f2 : ∀ e ∈ sp,∀ c ∈ e,a6 c=true) (hd1 : a6 d=true \/ d=.tup []) (f3 : ∀ e ∈ fs',∀ c ∈ e,a6 c=true)
  (hc : C g (.blk sz [[.own sz1 fs,.slv 0 sp]]::.ifa T (.r 10015) 0 0::xs.map (vd (ac e))) d [.blk sz [[.own sz1 fs',.slv 0 sp]],.nils])
  (hk : doW C hs K ns ⟨⟩ e R acc (b7 dst d++[(b,.blk sz [[.own sz1 fs',.own sz2 sp]]),(s,.ptx ds)]) [(b,false)]) : opW C hs K ns dst (.callQ g s x xs) v1 e R acc:=by
 unfold opW
 simp only [aL]
 rw [hx]
 refine ⟨rfl,rfl,hs0,hd,hxs,?_⟩
 rw [hb]
 simp only
 rw [hs1]
 exact ⟨hk1,f1,f2,d,fs',hd1,f3,hc,hk⟩
theorem ux {s t : Nat} {x : Opd} {v1 : _} {c n sz : Nat} {es : List (List D)} {ds : List D} (hs0 : s < 10000) (hst : s ≠ t) (hx : vd (ac e) x=.agx [.nils,.ref (.r c) 0 n]) (hc : c ≠ rt t 0) (hcb : ac e c=.blk sz es) (hsz : 0 < sz) (hl : es.length=n) (h1 : ∀ e ∈ es,∀ c ∈ e,aK c=true)
  (hs1 : ac e s=.ptx ds) (hm : (ds.all fun d=>!aG (rt t 0) true d)=true)
  (hk0 : n=0 -> doW C hs K ns ⟨⟩ e R acc [(t,.adr (.r (rt t 0)) 0 0),(rt t 0,.blk 2 [[.own sz [],.any]])] [(rt t 0,true)])
  (hk : 0 < n -> doW C hs K ns ⟨⟩ e R acc [(t,.adr (.r (rt t 0)) 0 0),(rt t 0,.blk 2 [[.own sz [],.own sz es]]),(c,.any),(s,.ptx (ds.map (jL c (.n (rt t 0) 0 1))))] [(rt t 0,true)]) : opW C hs K ns (some t) (.boxK s x) v1 e R acc:=by
 unfold opW
 simp only [aL]
 refine ⟨hs0,hst,?_⟩
 rw [hx]
 refine ⟨rfl,hc,?_⟩
 rw [hcb]
 refine ⟨hsz,hl,h1,?_⟩
 rw [hs1]
 refine ⟨hm,?_⟩
 by_cases hn : n=0
 ·rw [if_pos hn];exact hk0 hn
 ·rw [if_neg hn];exact hk (Nat.pos_of_ne_zero hn)
end
end Go.Gv

namespace Go.Gv
def lC (n : Int) : Bool:=-1125899906842624 <= n && n <= 1125899906842624
theorem af {n m : Int} (h : n=m) (h2 : -9223372036854775808 <= m /\ m < 9223372036854775808) : IntKind.wrap .i64 n=m:=by
 subst h
 have e1 : IntKind.i64.signed=true:=rfl
 have e2 : (2 ^ (IntKind.i64.bits - 1) : Int)=9223372036854775808:=rfl
 have e3 : (2 ^ IntKind.i64.bits : Int)=18446744073709551616:=rfl
 unfold IntKind.wrap
 simp only [e1,e2,e3,x1J,x0g]
 split <;> omega
variable {C : CC} (hC : ay prog C)
include hC
end Go.Gv

namespace Go.Gv
structure SlI where
 n : Bool
 l : List Int
 deriving Inhabited
structure Sec where
 name : List UInt8
 height : Int
 price : Int
 areaN : Bool
 area : List (Int × Int)
 convN : Bool
 conv : List (Int × Int)
 deriving Inhabited
def dS {α : Type} (p : α -> Bool) (xs : List α) : Int:=match xs.findIdx? p with
 | some i=>i
 | none=>-1
theorem dD {α : Type} {p : α -> Bool} {xs : List α} {i : Nat} (hj : ∀ (j : Nat) (h : j < xs.length),j < i -> p xs[j]=false) (hi : i < xs.length) (h : p xs[i]=true) : dS p xs=i:=by
 have : xs.findIdx? p=some i:=by
  rw [x1z]
  exact ⟨hi,h,fun j hji=>by simp [hj j (by omega) hji]⟩
 simp [dS,this]
theorem dC {α : Type} {p : α -> Bool} {xs : List α} (hj : ∀ (j : Nat) (h : j < xs.length),p xs[j]=false) : dS p xs=-1:=by
 have : xs.findIdx? p=none:=by
  rw [List.findIdx?_eq_none_iff]
  intro x hx
  obtain ⟨j,h,rfl⟩:=x0L.1 hx
  exact hj j h
 simp [dS,this]
theorem jw {α : Type} (p : α -> Bool) (xs : List α) : decide (0 <= dS p xs)=xs.any p:=by
 unfold dS
 split
 ·rename_i i h
  rw [x1z] at h
  obtain ⟨h1,h2,_⟩:=h
  have : xs.any p=true:=x0x.2 ⟨_,x0u h1,h2⟩
  simp [this]
 ·rename_i h
  rw [List.findIdx?_eq_none_iff] at h
  have : xs.any p=false:=by rw [x1I];intro x hx;simp [h x hx]
  simp [this]
variable {C : CC} (hC : ay prog C)
include hC
theorem vf {b : Bool} {xs : List Int} {g : Nat} {cs : List D} (p : Int -> Bool) (hs : xs.length < 2 ^ 62) (hp : ∀ x ∈ xs,C g (.int .i64 x::cs) (.bool (p x)) []) : C 35 [slx b (xs.map fun x=>[.int .i64 x]),.fn g cs] (.int .i64 (dS p xs)) []:=by
 refine aw hC (nf:=N35) rfl rfl ?_
 simp [N35]
 refine av Nat (fun i=>[(0,slx b (xs.map fun x=>[.int .i64 x])),(1,.fn g cs),(7,.int .i64 xs.length),(8,.int .i64 i)]) (fun i=>i <= xs.length /\ ∀ (j : Nat) (h : j < xs.length),j < i -> p xs[j]=false) (fun i=>xs.length - i) 0 (by simp) (by simp) ?_
 rintro i ⟨hi,hj⟩
 simp
 refine aj (fun h=>?_) (fun h=>?_) <;> simp [h] <;> simp at h
 ·have hw : IntKind.wrap .i64 ((i : Int) + 1)=((i + 1 : Nat) : Int):=af (by omega) (by omega)
  have hc:=hp _ (x0u h)
  simp [h,x1u] at hc ⊢
  refine aa hc (.inl rfl) ?_
  simp
  refine aj (fun h1=>?_) (fun h1=>?_) <;> simp [h1,hw]
  ·rw [dD hj h h1]
  ·refine ⟨i + 1,⟨by omega,fun j hl hjj=>?_⟩,by omega,rfl⟩
   rcases x0C.1 hjj with h2 | rfl
   ·exact hj j hl h2
   ·exact h1
 ·rw [dC (fun j hl=>hj j hl (by omega))]
theorem mh {b : Bool} {xs : List Int} {g : Nat} {cs : List D} (p : Int -> Bool) (hs : xs.length < 2 ^ 62) (hp : ∀ x ∈ xs,C g (.int .i64 x::cs) (.bool (p x)) []) : C 11 [slx b (xs.map fun x=>[.int .i64 x]),.fn g cs] (.bool (xs.any p)) []:=by
 refine aw hC (nf:=N11) rfl rfl ?_
 simp [N11]
 refine aa (vf hC p hs hp) (.inl rfl) ?_
 simp [jw]
end Go.Gv

namespace Go.Gv
structure Spt where
 x : Int
 y : Int
 z : Int
 deriving Inhabited,DecidableEq
structure Fce where
 a : Int
 b : Int
 c : Int
 k : Int
 deriving Inhabited,DecidableEq
structure Msh where
 sn : Bool
 s : List Spt
 fn : Bool
 f : List Fce
def eN (s : Spt) : List D:=[.int .i64 s.x,.int .i64 s.y,.int .i64 s.z]
def br (f : Fce) : List D:=[.int .i64 f.a,.int .i64 f.b,.int .i64 f.c,.int .i64 f.k]
def aW (m : Msh) : List D:=[slx m.sn (m.s.map eN),slx m.fn (m.f.map br)]
theorem bZ (s : Spt) : eN s=[.int .i64 s.x,.int .i64 s.y,.int .i64 s.z]:=zR
theorem aI (f : Fce) : br f=[.int .i64 f.a,.int .i64 f.b,.int .i64 f.c,.int .i64 f.k]:=zR
theorem ab (m : Msh) : aW m=[slx m.sn (m.s.map eN),slx m.fn (m.f.map br)]:=zR
def spt (m : Msh) (i : Nat) : Spt:=m.s[i]!
def fce (m : Msh) (i : Nat) : Fce:=m.f[i]!
@[simp high] theorem Sr (m : Msh) (i : Nat) : m.s[i]! = spt m i:=zR
@[simp high] theorem RD (m : Msh) (i : Nat) : m.f[i]! = fce m i:=zR
@[simp high] theorem Ss (m : Msh) (i : Nat) : m.s[i]?.getD default=spt m i:=by simp only [spt,List.getElem!_eq_getElem?_getD]
@[simp high] theorem RE (m : Msh) (i : Nat) : m.f[i]?.getD default=fce m i:=by simp only [fce,List.getElem!_eq_getElem?_getD]
@[simp] theorem SE (m : Msh) (i : Nat) (h : i < m.s.length) : m.s[i]=spt m i:=(x02 m.s i h).symm
@[simp] theorem jr (m : Msh) (i : Nat) (h : i < m.f.length) : m.f[i]=fce m i:=(x02 m.f i h).symm
abbrev Pnt:=Int × Int
def ptD (p : Pnt) : List D:=[.int .i64 p.1,.int .i64 p.2]
def ptS (s : Spt) : Pnt:=(s.x,s.y)
def okP (p : Pnt) : Bool:=-16777216 <= p.1 && p.1 <= 16777216 && -16777216 <= p.2 && p.2 <= 16777216
def aX (s : Spt) : Bool:=-16777216 <= s.x && s.x <= 16777216 && -16777216 <= s.y && s.y <= 16777216 && -4194304 <= s.z && s.z <= 4194304
theorem oP {s : Spt} (h : aX s=true) : okP (ptS s)=true:=by
 simp only [aX,x0a,x0g] at h
 show okP (s.x,s.y)=true
 simp [okP]
 omega
def cT (a b c : Pnt) : Int:=(b.1 - a.1) * (c.2 - a.2) - (b.2 - a.2) * (c.1 - a.1)
theorem gh {a b k l : Int} (h1 : -k <= a) (h2 : a <= k) (h3 : -l <= b) (h4 : b <= l) : -(k * l) <= a * b /\ a * b <= k * l:=by
 have hk : 0 <= k:=by omega
 have hl : 0 <= l:=by omega
 have e1:=Int.mul_nonneg (show 0 <= k - a by omega) (show 0 <= l - b by omega)
 have e2:=Int.mul_nonneg (show 0 <= k + a by omega) (show 0 <= l + b by omega)
 have e3:=Int.mul_nonneg (show 0 <= k - a by omega) (show 0 <= l + b by omega)
 have e4:=Int.mul_nonneg (show 0 <= k + a by omega) (show 0 <= l - b by omega)
 simp only [Int.sub_mul,Int.mul_sub,Int.add_mul,Int.mul_add] at e1 e2 e3 e4
 omega
theorem fF {p : Pnt} (h : okP p=true) : -16777216 <= p.1 /\ p.1 <= 16777216 /\ -16777216 <= p.2 /\ p.2 <= 16777216:=by
 simp only [okP,x0a,x0g] at h
 omega
theorem o9 {a b c : Pnt} (ha : okP a=true) (hb : okP b=true) (hc : okP c=true) :
  (-1125899906842624 <= (b.1 - a.1) * (c.2 - a.2) /\ (b.1 - a.1) * (c.2 - a.2) <= 1125899906842624) /\ (-1125899906842624 <= (b.2 - a.2) * (c.1 - a.1) /\ (b.2 - a.2) * (c.1 - a.1) <= 1125899906842624):=by
 have:=fF ha
 have:=fF hb
 have:=fF hc
 exact ⟨gh (k:=33554432) (l:=33554432) (by omega) (by omega) (by omega) (by omega),gh (k:=33554432) (l:=33554432) (by omega) (by omega) (by omega) (by omega)⟩
abbrev Tri:=Pnt × Pnt × Pnt
def cc (t : Tri) : List D:=[.int .i64 t.1.1,.int .i64 t.1.2,.int .i64 t.2.1.1,.int .i64 t.2.1.2,.int .i64 t.2.2.1,.int .i64 t.2.2.2]
def okT (t : Tri) : Bool:=okP t.1 && okP t.2.1 && okP t.2.2
def iY (t : Tri) : Int:=cT t.1 t.2.1 t.2.2
def im (p q : Pnt) (u : Tri) : Bool:=cT p q u.1 <= 0 && cT p q u.2.1 <= 0 && cT p q u.2.2 <= 0
def qn (t u : Tri) : Bool:=im t.1 t.2.1 u || im t.2.1 t.2.2 u || im t.2.2 t.1 u
def ovT (t u : Tri) : Bool:=!qn t u && !qn u t
def aR (m : Msh) (f : Fce) : Tri:=(ptS (spt m f.a.toNat),ptS (spt m f.b.toNat),ptS (spt m f.c.toNat))
def crn (f : Fce) : Nat -> Int
 | 0=>f.a
 | 1=>f.b
 | 2=>f.c
 | 3=>f.a
 | 4=>f.b
 | _=>f.c
def dT (n : Nat) (a : Int) : Bool:=0 <= a && a < n
def inS (m : Msh) (f : Fce) : Bool:=dT m.s.length f.a && dT m.s.length f.b && dT m.s.length f.c
theorem gf {m : Msh} {f : Fce} (h : inS m f=true) : (0 <= f.a /\ f.a.toNat < m.s.length) /\ (0 <= f.b /\ f.b.toNat < m.s.length) /\ (0 <= f.c /\ f.c.toNat < m.s.length):=by
 simp only [inS,dT,x0a,x0g] at h
 omega
variable {C : CC} (hC : ay prog C)
include hC
theorem vF (p : Pnt) : C 313 [.agg (ptD p)] (.bool (okP p)) []:=by
 refine aw hC (nf:=N313) rfl rfl ?_
 simp [N313,ptD,okP]
 repeat' (refine aj (fun h=>?_) (fun h=>?_) <;> simp at h <;> simp [h] <;> try omega)
theorem vt (s : Spt) : C 303 [.agg (eN s)] (.bool (aX s)) []:=by
 have k:=vF hC (s.x,s.y)
 simp [ptD,okP] at k
 refine aw hC (nf:=N303) rfl rfl ?_
 simp [N303,eN,aX]
 refine aa k (.inl rfl) ?_
 simp
 repeat' (refine aj (fun h=>?_) (fun h=>?_) <;> simp at h <;> simp [h] <;> try omega)
theorem sB (s : Spt) : C 289 [.agg (eN s)] (.bool (aX s)) []:=by
 refine aw hC (nf:=N289) rfl rfl ?_
 simp [N289,eN,aX]
 repeat' (refine aj (fun h=>?_) (fun h=>?_) <;> simp at h <;> simp [h] <;> try omega)
theorem jI (s : Spt) : C 291 [.agg (eN s)] (.agg (ptD (ptS s))) []:=by
 refine aw hC (nf:=N291) rfl rfl ?_
 simp [N291,eN,ptD,ptS]
theorem pW (m : Msh) : C 302 [.agg (aW m)] (.bool (decide (m.s.length <= 2000) && decide (m.f.length <= 4000))) []:=by
 refine aw hC (nf:=N302) rfl rfl ?_
 simp [N302,aW]
 refine aj (fun h=>?_) (fun h=>?_) <;> simp at h <;> simp [h]
 ·rw [decide_eq_true (show m.s.length <= 2000 by omega)]
  simp
  exact Iff.intro (fun h2=>by omega) (fun h2=>by omega)
 ·omega
theorem v7 (m : Msh) : C 257 [.agg (aW m)] (.bool (decide (m.s.length <= 2000) && decide (m.f.length <= 4000))) []:=by
 refine aw hC (nf:=N257) rfl rfl ?_
 simp [N257,aW]
 refine aj (fun h=>?_) (fun h=>?_) <;> simp at h <;> simp [h]
 ·rw [decide_eq_true (show m.s.length <= 2000 by omega)]
  simp
  exact Iff.intro (fun h2=>by omega) (fun h2=>by omega)
 ·omega
theorem jB (m : Msh) (i : Nat) (h : i < m.s.length) : C 304 [.agg (aW m),.int .i64 i] (.agg (ptD (ptS (spt m i)))) []:=by
 refine aw hC (nf:=N304) rfl rfl ?_
 simp [N304,aW,h,bZ,ptD,ptS]
 exact ai (by decide +kernel)
theorem mA (f : Fce) : C 305 [.agg (br f)] (.agg [.int .i64 f.a,.int .i64 f.b,.int .i64 f.c]) []:=by
 refine aw hC (nf:=N305) rfl rfl ?_
 simp [N305,br]
theorem oH (f : Fce) (k : Nat) (hk : k < 3) : C 298 [.agg (br f),.int .i64 k] (.agg [.int .i64 (crn f k),.int .i64 (crn f (k + 1))]) []:=by
 have k1:=mA hC f
 refine aw hC (nf:=N298) rfl rfl ?_
 rw [br] at k1 ⊢
 simp [N298]
 refine aa k1 (.inl rfl) ?_
 have w : IntKind.wrap .i64 ((k : Int) + 1)=((k + 1 : Nat) : Int):=af (by omega) (by omega)
 have w0 : IntKind.wrap .i64 1=1:=by decide
 have w1 : IntKind.wrap .i64 2=2:=by decide
 have w2 : IntKind.wrap .i64 3=3:=by decide
 rcases (by omega : k=0 \/ k=1 \/ k=2) with rfl | rfl | rfl <;> simp [crn,w0,w1,w2] <;> exact ai (by decide +kernel)
theorem oI {a b c : Pnt} (ha : okP a=true) (hb : okP b=true) (hc : okP c=true) : C 308 [.agg (ptD a),.agg (ptD b),.agg (ptD c)] (.int .i64 (cT a b c)) []:=by
 have:=fF ha
 have:=fF hb
 have:=fF hc
 have h4:=o9 ha hb hc
 refine aw hC (nf:=N308) rfl rfl ?_
 have w1 : IntKind.wrap .i64 (b.1 - a.1)=b.1 - a.1:=af rfl (by omega)
 have w2 : IntKind.wrap .i64 (c.2 - a.2)=c.2 - a.2:=af rfl (by omega)
 have w3 : IntKind.wrap .i64 (b.2 - a.2)=b.2 - a.2:=af rfl (by omega)
 have w4 : IntKind.wrap .i64 (c.1 - a.1)=c.1 - a.1:=af rfl (by omega)
 have w5 : IntKind.wrap .i64 ((b.1 - a.1) * (c.2 - a.2))=(b.1 - a.1) * (c.2 - a.2):=af rfl (by omega)
 have w6 : IntKind.wrap .i64 ((b.2 - a.2) * (c.1 - a.1))=(b.2 - a.2) * (c.1 - a.1):=af rfl (by omega)
 have w7 : IntKind.wrap .i64 ((b.1 - a.1) * (c.2 - a.2) - (b.2 - a.2) * (c.1 - a.1))=cT a b c:=af rfl (by rw [cT];omega)
 simp [N308,ptD,w1,w2,w3,w4,w5,w6,w7]
theorem sC {a b c : Pnt} (ha : okP a=true) (hb : okP b=true) (hc : okP c=true) : C 286 [.agg (ptD a),.agg (ptD b),.agg (ptD c)] (.int .i64 (cT a b c)) []:=by
 have:=fF ha
 have:=fF hb
 have:=fF hc
 have h4:=o9 ha hb hc
 refine aw hC (nf:=N286) rfl rfl ?_
 have w1 : IntKind.wrap .i64 (b.1 - a.1)=b.1 - a.1:=af rfl (by omega)
 have w2 : IntKind.wrap .i64 (c.2 - a.2)=c.2 - a.2:=af rfl (by omega)
 have w3 : IntKind.wrap .i64 (b.2 - a.2)=b.2 - a.2:=af rfl (by omega)
 have w4 : IntKind.wrap .i64 (c.1 - a.1)=c.1 - a.1:=af rfl (by omega)
 have w5 : IntKind.wrap .i64 ((b.1 - a.1) * (c.2 - a.2))=(b.1 - a.1) * (c.2 - a.2):=af rfl (by omega)
 have w6 : IntKind.wrap .i64 ((b.2 - a.2) * (c.1 - a.1))=(b.2 - a.2) * (c.1 - a.1):=af rfl (by omega)
 have w7 : IntKind.wrap .i64 ((b.1 - a.1) * (c.2 - a.2) - (b.2 - a.2) * (c.1 - a.1))=cT a b c:=af rfl (by rw [cT];omega)
 simp [N286,ptD,w1,w2,w3,w4,w5,w6,w7]
theorem vw (m : Msh) (f : Fce) (h : inS m f=true) : C 307 [.agg (aW m),.agg (br f)] (.agg (cc (aR m f))) []:=by
 obtain ⟨⟨a1,a2⟩,⟨b1,b2⟩,⟨c1,c2⟩⟩:=gf h
 have ka:=jB hC m f.a.toNat a2
 have kb:=jB hC m f.b.toNat b2
 have kc:=jB hC m f.c.toNat c2
 rw [x0F a1] at ka
 rw [x0F b1] at kb
 rw [x0F c1] at kc
 refine aw hC (nf:=N307) rfl rfl ?_
 rw [aW] at ka kb kc ⊢
 simp [N307,br]
 simp [ptD] at ka kb kc
 refine aa ka (.inl rfl) ?_
 simp
 refine aa kb (.inl rfl) ?_
 simp
 refine aa kc (.inl rfl) ?_
 simp [cc,aR]
 exact ai (by decide +kernel)
theorem fT (f : Fce) (k : Nat) (hk : k < 4) : C 323 [.agg (br f),.int .i64 k] (.int .i64 (crn f k)) []:=by
 refine aw hC (nf:=N323) rfl rfl ?_
 rcases (by omega : k=0 \/ k=1 \/ k=2 \/ k=3) with rfl | rfl | rfl | rfl <;> simp [N323,br,crn] <;> (refine oZ (r:=[.int .i64 _]) rfl (by simp) ?_;simp)
theorem rG (m : Msh) (f : Fce) (h : inS m f=true) : C 285 [.agg (aW m),.agg (br f)] (.sl [ptD (aR m f).1,ptD (aR m f).2.1,ptD (aR m f).2.2]) []:=by
 obtain ⟨⟨a1,a2⟩,⟨b1,b2⟩,⟨c1,c2⟩⟩:=gf h
 have ka:=jI hC (spt m f.a.toNat)
 have kb:=jI hC (spt m f.b.toNat)
 have kc:=jI hC (spt m f.c.toNat)
 rw [eN] at ka kb kc
 refine aw hC (nf:=N285) rfl rfl ?_
 simp [N285,br,aW,a1,a2,bZ]
 refine aa ka (.inl rfl) ?_
 simp [b1,b2,bZ]
 refine aa kb (.inl rfl) ?_
 simp [c1,c2,bZ]
 refine aa kc (.inl rfl) ?_
 simp [aR,ptD]
 exact ai (by decide +kernel)
end Go.Gv

namespace Go.Gv
theorem az : IntKind.wrap .i64 1=1:=by decide
theorem aD : IntKind.wrap .i64 2=2:=by decide
theorem aE : IntKind.wrap .i64 3=3:=by decide
variable {C : CC} (hC : ay prog C)
include hC
set_option maxHeartbeats 1000000 in
theorem AW {t u : Tri} (ht : okT t=true) (hu : okT u=true) : C 311 [.agg (cc t),.agg (cc u)] (.bool (qn t u)) []:=by
 simp only [okT,x0a] at ht hu
 obtain ⟨⟨t1,t2⟩,t3⟩:=ht
 obtain ⟨⟨u1,u2⟩,u3⟩:=hu
 have kk:=fun (p q r : Pnt) (hp : okP p=true) (hq : okP q=true) (hr : okP r=true)=>oI hC hp hq hr
 simp only [ptD] at kk
 have E : qn t u=(im t.1 t.2.1 u || im t.2.1 t.2.2 u || im t.2.2 t.1 u):=rfl
 rw [E]
 clear E
 have S : ∀ p q,im p q u=(decide (cT p q u.1 <= 0) && decide (cT p q u.2.1 <= 0) && decide (cT p q u.2.2 <= 0)):=fun p q=>rfl
 refine aw hC (nf:=N311) rfl rfl ?_
 rw [cc,cc]
 simp [N311]
 refine av Nat (fun i=>[(2,.ptr (cc t)),(3,.ptr (cc u)),(8,.int .i64 i)]) (fun i=>i <= 3 /\ (1 <= i -> im t.1 t.2.1 u=false) /\ (2 <= i -> im t.2.1 t.2.2 u=false) /\ (3 <= i -> im t.2.2 t.1 u=false)) (fun i=>3 - i) 0 (by simp) (by simp [cc]) ?_
 rintro i ⟨hi,s1,s2,s3⟩
 rcases (by omega : i=0 \/ i=1 \/ i=2 \/ i=3) with rfl | rfl | rfl | rfl
 ·simp [cc,az,aD,aE]
  refine ⟨ai (by decide +kernel),?_⟩
  refine aa (kk t.1 t.2.1 u.1 t1 t2 u1) (.inl rfl) ?_
  simp
  refine aj (fun h1=>?_) (fun h1=>?_) <;> simp at h1
  ·simp [h1]
   refine aa (kk t.1 t.2.1 u.2.1 t1 t2 u2) (.inl rfl) ?_
   simp
   refine aj (fun h2=>?_) (fun h2=>?_) <;> simp at h2
   ·simp [h2]
    refine aa (kk t.1 t.2.1 u.2.2 t1 t2 u3) (.inl rfl) ?_
    simp
    refine aj (fun h3=>?_) (fun h3=>?_) <;> simp at h3 <;> simp [h3]
    ·simp [S,h1,h2,h3]
    ·refine ⟨1,⟨by omega,fun _=>by simp only [S,x0w,x0p];omega,fun h=>by omega,fun h=>by omega⟩,by omega,?_⟩ <;> simp [az,aD,aE]
   ·simp [x0X.2 h2]
    refine ⟨1,⟨by omega,fun _=>by simp only [S,x0w,x0p];omega,fun h=>by omega,fun h=>by omega⟩,by omega,?_⟩ <;> simp [az,aD,aE]
  ·simp [x0X.2 h1]
   refine ⟨1,⟨by omega,fun _=>by simp only [S,x0w,x0p];omega,fun h=>by omega,fun h=>by omega⟩,by omega,?_⟩ <;> simp [az,aD,aE]
 ·simp [cc,az,aD,aE]
  refine ⟨ai (by decide +kernel),?_⟩
  refine aa (kk t.2.1 t.2.2 u.1 t2 t3 u1) (.inl rfl) ?_
  simp
  refine aj (fun h1=>?_) (fun h1=>?_) <;> simp at h1
  ·simp [h1]
   refine aa (kk t.2.1 t.2.2 u.2.1 t2 t3 u2) (.inl rfl) ?_
   simp
   refine aj (fun h2=>?_) (fun h2=>?_) <;> simp at h2
   ·simp [h2]
    refine aa (kk t.2.1 t.2.2 u.2.2 t2 t3 u3) (.inl rfl) ?_
    simp
    refine aj (fun h3=>?_) (fun h3=>?_) <;> simp at h3 <;> simp [h3]
    ·simp [S,h1,h2,h3]
    ·refine ⟨2,⟨by omega,fun _=>s1 (by omega),fun _=>by simp only [S,x0w,x0p];omega,fun h=>by omega⟩,by omega,?_⟩ <;> simp [az,aD,aE]
   ·simp [x0X.2 h2]
    refine ⟨2,⟨by omega,fun _=>s1 (by omega),fun _=>by simp only [S,x0w,x0p];omega,fun h=>by omega⟩,by omega,?_⟩ <;> simp [az,aD,aE]
  ·simp [x0X.2 h1]
   refine ⟨2,⟨by omega,fun _=>s1 (by omega),fun _=>by simp only [S,x0w,x0p];omega,fun h=>by omega⟩,by omega,?_⟩ <;> simp [az,aD,aE]
 ·simp [cc,az,aD,aE]
  refine ⟨ai (by decide +kernel),?_⟩
  refine aa (kk t.2.2 t.1 u.1 t3 t1 u1) (.inl rfl) ?_
  simp
  refine aj (fun h1=>?_) (fun h1=>?_) <;> simp at h1
  ·simp [h1]
   refine aa (kk t.2.2 t.1 u.2.1 t3 t1 u2) (.inl rfl) ?_
   simp
   refine aj (fun h2=>?_) (fun h2=>?_) <;> simp at h2
   ·simp [h2]
    refine aa (kk t.2.2 t.1 u.2.2 t3 t1 u3) (.inl rfl) ?_
    simp
    refine aj (fun h3=>?_) (fun h3=>?_) <;> simp at h3 <;> simp [h3]
    ·simp [S,h1,h2,h3]
    ·refine ⟨3,⟨by omega,fun _=>s1 (by omega),fun _=>s2 (by omega),fun _=>by simp only [S,x0w,x0p];omega⟩,by omega,?_⟩ <;> simp [az,aD,aE]
   ·simp [x0X.2 h2]
    refine ⟨3,⟨by omega,fun _=>s1 (by omega),fun _=>s2 (by omega),fun _=>by simp only [S,x0w,x0p];omega⟩,by omega,?_⟩ <;> simp [az,aD,aE]
  ·simp [x0X.2 h1]
   refine ⟨3,⟨by omega,fun _=>s1 (by omega),fun _=>s2 (by omega),fun _=>by simp only [S,x0w,x0p];omega⟩,by omega,?_⟩ <;> simp [az,aD,aE]
 ·simp [s1 (by omega),s2 (by omega),s3 (by omega)]
def nz (t : Tri) : List (List D):=[ptD t.1,ptD t.2.1,ptD t.2.2]
set_option maxHeartbeats 1000000 in
theorem qd {t u : Tri} (ht : okT t=true) (hu : okT u=true) : C 324 [.sl (nz t),.sl (nz u)] (.bool (qn t u)) []:=by
 simp only [okT,x0a] at ht hu
 obtain ⟨⟨t1,t2⟩,t3⟩:=ht
 obtain ⟨⟨u1,u2⟩,u3⟩:=hu
 have kk:=fun (p q r : Pnt) (hp : okP p=true) (hq : okP q=true) (hr : okP r=true)=>sC hC hp hq hr
 simp only [ptD] at kk
 have E : qn t u=(im t.1 t.2.1 u || im t.2.1 t.2.2 u || im t.2.2 t.1 u):=rfl
 rw [E]
 clear E
 have S : ∀ p q,im p q u=(decide (cT p q u.1 <= 0) && decide (cT p q u.2.1 <= 0) && decide (cT p q u.2.2 <= 0)):=fun p q=>rfl
 refine aw hC (nf:=N324) rfl rfl ?_
 simp only [nz,ptD]
 simp [N324]
 refine av Nat (fun i=>[(0,.sl (nz t)),(1,.sl (nz u)),(5,.int .i64 i)]) (fun i=>i <= 3 /\ (1 <= i -> im t.1 t.2.1 u=false) /\ (2 <= i -> im t.2.1 t.2.2 u=false) /\ (3 <= i -> im t.2.2 t.1 u=false)) (fun i=>3 - i) 0 (by simp) (by simp [nz,ptD]) ?_
 rintro i ⟨hi,s1,s2,s3⟩
 rcases (by omega : i=0 \/ i=1 \/ i=2 \/ i=3) with rfl | rfl | rfl | rfl
 ·simp [nz,ptD,az,aD,aE]
  refine ⟨ai (by decide +kernel),?_⟩
  refine aa (kk t.1 t.2.1 u.1 t1 t2 u1) (.inl rfl) ?_
  simp
  refine aj (fun h1=>?_) (fun h1=>?_) <;> simp at h1
  ·simp [h1]
   refine aa (kk t.1 t.2.1 u.2.1 t1 t2 u2) (.inl rfl) ?_
   simp
   refine aj (fun h2=>?_) (fun h2=>?_) <;> simp at h2
   ·simp [h2]
    refine aa (kk t.1 t.2.1 u.2.2 t1 t2 u3) (.inl rfl) ?_
    simp
    refine ⟨ai (by decide +kernel),?_⟩
    refine aj (fun h3=>?_) (fun h3=>?_) <;> simp at h3 <;> simp [h3]
    ·simp [S,h1,h2,h3]
    ·refine ⟨1,⟨by omega,fun _=>by simp only [S,x0w,x0p];omega,fun h=>by omega,fun h=>by omega⟩,by omega,?_⟩ <;> simp [az,aD,aE]
   ·simp [x0X.2 h2]
    refine ⟨ai (by decide +kernel),?_⟩
    refine ⟨1,⟨by omega,fun _=>by simp only [S,x0w,x0p];omega,fun h=>by omega,fun h=>by omega⟩,by omega,?_⟩ <;> simp [az,aD,aE]
  ·simp [x0X.2 h1]
   refine ⟨ai (by decide +kernel),?_⟩
   refine ⟨1,⟨by omega,fun _=>by simp only [S,x0w,x0p];omega,fun h=>by omega,fun h=>by omega⟩,by omega,?_⟩ <;> simp [az,aD,aE]
 ·simp [nz,ptD,az,aD,aE]
  refine ⟨ai (by decide +kernel),?_⟩
  refine aa (kk t.2.1 t.2.2 u.1 t2 t3 u1) (.inl rfl) ?_
  simp
  refine aj (fun h1=>?_) (fun h1=>?_) <;> simp at h1
  ·simp [h1]
   refine aa (kk t.2.1 t.2.2 u.2.1 t2 t3 u2) (.inl rfl) ?_
   simp
   refine aj (fun h2=>?_) (fun h2=>?_) <;> simp at h2
   ·simp [h2]
    refine aa (kk t.2.1 t.2.2 u.2.2 t2 t3 u3) (.inl rfl) ?_
    simp
    refine ⟨ai (by decide +kernel),?_⟩
    refine aj (fun h3=>?_) (fun h3=>?_) <;> simp at h3 <;> simp [h3]
    ·simp [S,h1,h2,h3]
    ·refine ⟨2,⟨by omega,fun _=>s1 (by omega),fun _=>by simp only [S,x0w,x0p];omega,fun h=>by omega⟩,by omega,?_⟩ <;> simp [az,aD,aE]
   ·simp [x0X.2 h2]
    refine ⟨ai (by decide +kernel),?_⟩
    refine ⟨2,⟨by omega,fun _=>s1 (by omega),fun _=>by simp only [S,x0w,x0p];omega,fun h=>by omega⟩,by omega,?_⟩ <;> simp [az,aD,aE]
  ·simp [x0X.2 h1]
   refine ⟨ai (by decide +kernel),?_⟩
   refine ⟨2,⟨by omega,fun _=>s1 (by omega),fun _=>by simp only [S,x0w,x0p];omega,fun h=>by omega⟩,by omega,?_⟩ <;> simp [az,aD,aE]
 ·simp [nz,ptD,az,aD,aE]
  refine ⟨ai (by decide +kernel),?_⟩
  refine aa (kk t.2.2 t.1 u.1 t3 t1 u1) (.inl rfl) ?_
  simp
  refine aj (fun h1=>?_) (fun h1=>?_) <;> simp at h1
  ·simp [h1]
   refine aa (kk t.2.2 t.1 u.2.1 t3 t1 u2) (.inl rfl) ?_
   simp
   refine aj (fun h2=>?_) (fun h2=>?_) <;> simp at h2
   ·simp [h2]
    refine aa (kk t.2.2 t.1 u.2.2 t3 t1 u3) (.inl rfl) ?_
    simp
    refine ⟨ai (by decide +kernel),?_⟩
    refine aj (fun h3=>?_) (fun h3=>?_) <;> simp at h3 <;> simp [h3]
    ·simp [S,h1,h2,h3]
    ·refine ⟨3,⟨by omega,fun _=>s1 (by omega),fun _=>s2 (by omega),fun _=>by simp only [S,x0w,x0p];omega⟩,by omega,?_⟩ <;> simp [az,aD,aE]
   ·simp [x0X.2 h2]
    refine ⟨ai (by decide +kernel),?_⟩
    refine ⟨3,⟨by omega,fun _=>s1 (by omega),fun _=>s2 (by omega),fun _=>by simp only [S,x0w,x0p];omega⟩,by omega,?_⟩ <;> simp [az,aD,aE]
  ·simp [x0X.2 h1]
   refine ⟨ai (by decide +kernel),?_⟩
   refine ⟨3,⟨by omega,fun _=>s1 (by omega),fun _=>s2 (by omega),fun _=>by simp only [S,x0w,x0p];omega⟩,by omega,?_⟩ <;> simp [az,aD,aE]
 ·simp [s1 (by omega),s2 (by omega),s3 (by omega)]
end Go.Gv

namespace Go.Gv
def okc (m : Msh) (a b : Int) : Bool:=dT m.s.length a && decide (a ≠ b) && aX (spt m a.toNat)
def okF (m : Msh) (f : Fce) : Bool:=okc m f.a f.b && okc m f.b f.c && okc m f.c f.a && decide (0 <= f.k) && decide (f.k < 16)
def mtc (f g : Fce) (i k : Nat) : Bool:=decide (crn f i=crn g k) && decide (crn f (i + 1)=crn g (k + 1))
def gl (f g : Fce) : Bool:=(List.range 3).any fun i=>(List.range 3).any fun k=>mtc f g i k
theorem iC {m : Msh} {f : Fce} (h : okF m f=true) : inS m f=true:=by
 simp only [okF,okc,x0a] at h
 simp only [inS,x0a]
 exact ⟨⟨h.1.1.1.1.1.1,h.1.1.1.2.1.1⟩,h.1.1.2.1.1⟩
theorem cB {m : Msh} {f : Fce} (h : okF m f=true) : okT (aR m f)=true:=by
 simp only [okF,okc,x0a] at h
 simp only [okT,aR,x0a]
 exact ⟨⟨oP h.1.1.1.1.2,oP h.1.1.1.2.2⟩,oP h.1.1.2.2⟩
def px (n : Nat) : UInt8:=UInt8.ofNat (48 + n % 10)
def ol (n : Nat) (out : List UInt8) : List UInt8:=if n < 10 then px n::out else ol (n / 10) (px n::out)
def qH (n : Nat) (out : List UInt8) : List UInt8:=if n=0 then out else ol n out
theorem nK (n : Nat) (out : List UInt8) : ol n out=qH (n / 10) (px n::out):=by
 rw [ol,qH]
 by_cases h : n < 10
 ·rw [if_pos h,if_pos (by omega)]
 ·rw [if_neg h,if_neg (by omega)]
variable {C : CC} (hC : ay prog C)
include hC
theorem yC (m : Msh) (f : Fce) (hs : inS m f=true) (ht : okT (aR m f)=true) : C 293 [.agg (aW m),.agg (br f)] (.int .i64 (iY (aR m f))) []:=by
 have k1:=rG hC m f hs
 have k2:=ht
 simp only [okT,x0a] at k2
 have k3:=sC hC k2.1.1 k2.1.2 k2.2
 obtain ⟨t,e⟩ : ∃ t,t=aR m f:=⟨_,rfl⟩
 rw [<- e] at k1 k3 ⊢
 refine aw hC (nf:=N293) rfl rfl ?_
 rw [aW,br] at k1 ⊢
 simp only [ptD] at k1 k3
 simp [N293]
 refine aa k1 (.inr rfl) ?_
 simp
 refine aa k3 (.inl rfl) ?_
 simp [iY]
 exact ai (by decide +kernel)
theorem rF (m : Msh) (f g : Fce) (hs : inS m f=true) (ht : okT (aR m f)=true) (hs' : inS m g=true) (ht' : okT (aR m g)=true) : C 295 [.agg (aW m),.agg (br f),.agg (br g)] (.bool (ovT (aR m f) (aR m g))) []:=by
 have k1:=rG hC m f hs
 have k2:=rG hC m g hs'
 have k3:=qd hC ht ht'
 have k4:=qd hC ht' ht
 obtain ⟨t,e⟩ : ∃ t,t=aR m f:=⟨_,rfl⟩
 obtain ⟨u,e'⟩ : ∃ u,u=aR m g:=⟨_,rfl⟩
 rw [<- e] at k1 k3 k4 ⊢
 rw [<- e'] at k2 k3 k4 ⊢
 refine aw hC (nf:=N295) rfl rfl ?_
 rw [aW,br] at k1 k2 ⊢
 rw [br]
 simp only [nz,ptD] at k1 k2 k3 k4
 simp [N295]
 refine aa k1 (.inr rfl) ?_
 simp
 refine aa k2 (.inr rfl) ?_
 simp
 refine ⟨ai (by decide +kernel),?_⟩
 refine aa k3 (.inl rfl) ?_
 simp
 cases h1 : qn t u <;> simp [ovT,h1]
 refine aa k4 (.inl rfl) ?_
 simp
 exact fun _=>h1
theorem yA (f g : Fce) : C 294 [.agg (br f),.agg (br g)] (.bool (gl f g)) []:=by
 have kf:=fun k (h : k < 4)=>fT hC f k h
 have kg:=fun k (h : k < 4)=>fT hC g k h
 refine aw hC (nf:=N294) rfl rfl ?_
 rw [br] at kf ⊢
 rw [br] at kg ⊢
 simp [N294]
 refine av Nat (fun i=>[(2,.ptr (br f)),(3,.ptr (br g)),(5,.int .i64 i)]) (fun i=>i <= 3 /\ ∀ a,a < i -> ∀ b,b < 3 -> mtc f g a b=false) (fun i=>3 - i) 0 (by simp) (by simp [br]) ?_
 rintro i ⟨hi,hI⟩
 simp [br]
 refine aj (fun c1=>?_) (fun c1=>?_) <;> simp at c1 <;> simp [c1]
 ·have hw : IntKind.wrap .i64 ((i : Int) + 1)=((i + 1 : Nat) : Int):=af (by omega) (by omega)
  refine av Nat (fun k=>[(2,.ptr (br f)),(3,.ptr (br g)),(5,.int .i64 i),(6,.int .i64 k)]) (fun k=>k <= 3 /\ ∀ b,b < k -> mtc f g i b=false) (fun k=>3 - k) 0 (by simp) (by simp [br]) ?_
  rintro k ⟨hk,hK⟩
  simp [br]
  refine aj (fun c2=>?_) (fun c2=>?_) <;> simp at c2 <;> simp [c2]
  ·have hw2 : IntKind.wrap .i64 ((k : Int) + 1)=((k + 1 : Nat) : Int):=af (by omega) (by omega)
   refine aa (kf i (by omega)) (.inl rfl) ?_
   simp
   refine aa (kg k (by omega)) (.inl rfl) ?_
   simp
   by_cases h1 : crn f i=crn g k
   ·simp [h1,hw,hw2]
    refine aa (kf (i + 1) (by omega)) (.inl rfl) ?_
    simp [hw2]
    refine aa (kg (k + 1) (by omega)) (.inl rfl) ?_
    simp
    refine ⟨ai (by decide +kernel),?_⟩
    by_cases h2 : crn f (i + 1)=crn g (k + 1)
    ·simp [h2]
     refine x0x.2 ⟨i,x0H.2 (by omega),x0x.2 ⟨k,x0H.2 (by omega),?_⟩⟩
     simp [mtc,h1,h2]
    ·simp [h2,hw2]
     refine ⟨k + 1,⟨by omega,fun b hb=>?_⟩,by omega,?_⟩
     rotate_left
     ·omega
     rcases x0C.1 hb with h | rfl
     ·exact hK b h
     ·simp [mtc,h2]
   ·simp [h1,hw2]
    refine ⟨ai (by decide +kernel),?_⟩
    refine ⟨k + 1,⟨by omega,fun b hb=>?_⟩,by omega,?_⟩
    rotate_left
    ·omega
    rcases x0C.1 hb with h | rfl
    ·exact hK b h
    ·simp [mtc,h1]
  ·simp [hw]
   refine ⟨i + 1,⟨by omega,fun a ha b hb=>?_⟩,by omega,?_⟩
   rotate_left
   ·omega
   rcases x0C.1 ha with h | rfl
   ·exact hI a h b hb
   ·exact hK b (by omega)
 ·rw [gl]
  rw [Bool.eq_false_iff]
  intro h
  rw [x0x] at h
  obtain ⟨a,ha,h⟩:=h
  rw [x0x] at h
  obtain ⟨b,hb,h⟩:=h
  rw [hI a (by have:=x0H.1 ha;omega) b (x0H.1 hb)] at h
  cases h
set_option maxHeartbeats 2000000 in
theorem CX (m : Msh) (f : Fce) (hn : m.s.length < 2 ^ 40) : C 292 [.agg (aW m),.agg (br f)] (.bool (okF m f)) []:=by
 have ks:=fun s=>sB hC s
 have E : ∀ a b : Int,okc m a b=(decide (0 <= a) && decide (a < m.s.length) && decide (a ≠ b) && aX (spt m a.toNat)):=fun a b=>rfl
 have E2 : okF m f=(okc m f.a f.b && okc m f.b f.c && okc m f.c f.a && decide (0 <= f.k) && decide (f.k < 16)):=rfl
 refine aw hC (nf:=N292) rfl rfl ?_
 rw [aW,br]
 simp only [eN] at ks
 simp [N292]
 refine av Nat (fun i=>[(2,.ptr (aW m)),(3,.ptr (br f)),(5,.ref (.r 10080) 0 3),(10080,.blk 1 [[.int .i64 f.a],[.int .i64 f.b],[.int .i64 f.c]]),(6,.int .i64 i)]) (fun i=>i <= 3 /\ (1 <= i -> okc m f.a f.b=true) /\ (2 <= i -> okc m f.b f.c=true) /\ (3 <= i -> okc m f.c f.a=true)) (fun i=>3 - i) 0 (by simp) (by simp [br,aW]) ?_
 rintro i ⟨hi,s1,s2,s3⟩
 rcases (by omega : i=0 \/ i=1 \/ i=2 \/ i=3) with rfl | rfl | rfl | rfl
 ·have no : okc m f.a f.b=false -> okF m f=false:=fun h=>by simp [E2,h]
  simp [br,aW,az,aD,aE]
  refine aj (fun c1=>?_) (fun c1=>?_) <;> simp at c1
  ·simp [c1]
   exact ⟨ai (by decide +kernel),no (by rw [E,decide_eq_false (by omega)];simp)⟩
  ·simp [x0S.2 c1]
   refine aj (fun c2=>?_) (fun c2=>?_) <;> simp at c2
   ·simp [c2]
    exact ⟨ai (by decide +kernel),no (by rw [E,decide_eq_false (show ¬ f.a < m.s.length by omega)];simp)⟩
   ·simp [x0X.2 c2,az,aD,aE]
    by_cases c3 : f.a=f.b
    ·simp [c3,az,aD,aE]
     exact ⟨ai (by decide +kernel),no (by rw [E,decide_eq_false (show ¬ f.a ≠ f.b by omega)];simp)⟩
    ·simp [c3,c1,az,aD,aE]
     refine ⟨by omega,by simp [eN],?_⟩
     simp [bZ]
     refine aa (ks (spt m f.a.toNat)) (.inl rfl) ?_
     cases c4 : aX (spt m f.a.toNat)
     ·simp
      exact ⟨ai (by decide +kernel),no (by rw [E,c4];simp)⟩
     ·simp
      refine ⟨ai (by decide +kernel),?_⟩
      refine ⟨1,⟨by omega,fun _=>by rw [E];simp [c1,c3,c4];omega,fun h=>by omega,fun h=>by omega⟩,by omega,?_⟩ <;> simp [az,aD,aE]
 ·have no : okc m f.b f.c=false -> okF m f=false:=fun h=>by simp [E2,h]
  simp [br,aW,az,aD,aE]
  refine aj (fun c1=>?_) (fun c1=>?_) <;> simp at c1
  ·simp [c1]
   exact ⟨ai (by decide +kernel),no (by rw [E,decide_eq_false (by omega)];simp)⟩
  ·simp [x0S.2 c1]
   refine aj (fun c2=>?_) (fun c2=>?_) <;> simp at c2
   ·simp [c2]
    exact ⟨ai (by decide +kernel),no (by rw [E,decide_eq_false (show ¬ f.b < m.s.length by omega)];simp)⟩
   ·simp [x0X.2 c2,az,aD,aE]
    by_cases c3 : f.b=f.c
    ·simp [c3,az,aD,aE]
     exact ⟨ai (by decide +kernel),no (by rw [E,decide_eq_false (show ¬ f.b ≠ f.c by omega)];simp)⟩
    ·simp [c3,c1,az,aD,aE]
     refine ⟨by omega,by simp [eN],?_⟩
     simp [bZ]
     refine aa (ks (spt m f.b.toNat)) (.inl rfl) ?_
     cases c4 : aX (spt m f.b.toNat)
     ·simp
      exact ⟨ai (by decide +kernel),no (by rw [E,c4];simp)⟩
     ·simp
      refine ⟨ai (by decide +kernel),?_⟩
      refine ⟨2,⟨by omega,fun _=>s1 (by omega),fun _=>by rw [E];simp [c1,c3,c4];omega,fun h=>by omega⟩,by omega,?_⟩ <;> simp [az,aD,aE]
 ·have no : okc m f.c f.a=false -> okF m f=false:=fun h=>by simp [E2,h]
  simp [br,aW,az,aD,aE]
  refine aj (fun c1=>?_) (fun c1=>?_) <;> simp at c1
  ·simp [c1]
   exact ⟨ai (by decide +kernel),no (by rw [E,decide_eq_false (by omega)];simp)⟩
  ·simp [x0S.2 c1]
   refine aj (fun c2=>?_) (fun c2=>?_) <;> simp at c2
   ·simp [c2]
    exact ⟨ai (by decide +kernel),no (by rw [E,decide_eq_false (show ¬ f.c < m.s.length by omega)];simp)⟩
   ·simp [x0X.2 c2,az,aD,aE]
    by_cases c3 : f.c=f.a
    ·simp [c3,az,aD,aE]
     exact ⟨ai (by decide +kernel),no (by rw [E,decide_eq_false (show ¬ f.c ≠ f.a by omega)];simp)⟩
    ·simp [c3,c1,az,aD,aE]
     refine ⟨by omega,by simp [eN],?_⟩
     simp [bZ]
     refine aa (ks (spt m f.c.toNat)) (.inl rfl) ?_
     cases c4 : aX (spt m f.c.toNat)
     ·simp
      exact ⟨ai (by decide +kernel),no (by rw [E,c4];simp)⟩
     ·simp
      refine ⟨ai (by decide +kernel),?_⟩
      refine ⟨3,⟨by omega,fun _=>s1 (by omega),fun _=>s2 (by omega),fun _=>by rw [E];simp [c1,c3,c4];omega⟩,by omega,?_⟩ <;> simp [az,aD,aE]
 ·have t1:=s1 (by omega)
  have t2:=s2 (by omega)
  have t3:=s3 (by omega)
  simp [br,aW,E2,t1,t2,t3]
  refine aj (fun c1=>?_) (fun c1=>?_) <;> simp at c1 <;> simp [c1] <;> rw [E2,t1,t2,t3] <;> simp [c1]
  omega
theorem CV (n : Nat) (hn : n < 100) : C 290 [.int .i64 n] (.str (ol n [])) []:=by
 refine aw hC (nf:=N290) rfl rfl ?_
 simp [N290]
 refine av (Nat × List UInt8) (fun s=>[(0,.int .i64 s.1),(3,.str s.2)]) (fun s=>s.1 + s.2.length <= n + 1 /\ ((s.2=[] /\ s.1=n) \/ (s.2 ≠ [] /\ qH s.1 s.2=ol n []))) (fun s=>s.1 + if s.2=[] then 1 else 0) (n,[]) (by simp) (by simp) ?_
 rintro ⟨k,out⟩ ⟨hl,hI⟩
 simp only at hl hI
 have ww : IntKind.wrap .i64 ((k : Int) / 10)=((k / 10 : Nat) : Int):=af (by omega) (by omega)
 have wq : IntKind.wrap .i64 (48 + (k : Int) % 10)=48 + (k : Int) % 10:=af rfl (by omega)
 have et : (k : Int).tmod 10=(k : Int) % 10:=Int.tmod_eq_emod_of_nonneg (by omega)
 have wd : IntKind.u8.wrap (48 + (k : Int) % 10)=48 + (k : Int) % 10:=by
  have e1 : IntKind.u8.signed=false:=rfl
  have e3 : (2 ^ IntKind.u8.bits : Int)=256:=rfl
  unfold IntKind.wrap
  simp only [e1,e3,Bool.false_and]
  simp
  omega
 have wdd : IntKind.u8.wrap (IntKind.wrap .i64 (48 + (k : Int).tmod 10))=48 + (k : Int) % 10:=by rw [et,wq,wd]
 have hda : (k : Int) / 10=((k / 10 : Nat) : Int):=by omega
 have wb : fA [.int .u8 (48 + (k : Int) % 10)]=px k:=by
  have : (48 + (k : Int) % 10).toNat=48 + k % 10:=by omega
  simp only [fA,px,this]
 have hstep : qH (k / 10) (px k::out)=ol n [] \/ (k=0 /\ out ≠ []):=by
  rcases hI with ⟨rfl,rfl⟩ | ⟨h1,h2⟩
  ·exact .inl (nK _ _).symm
  ·by_cases h : k=0
   ·exact .inr ⟨h,h1⟩
   ·rw [qH,if_neg h] at h2
    rw [<- nK,h2]
    exact .inl rfl
 by_cases hk : 0 < k
 ·have h3 : qH (k / 10) (px k::out)=ol n []:=by
   rcases hstep with h | h
   ·exact h
   ·omega
  simp [hk,wdd,ww]
  refine ⟨⟨48 + k % 10,by omega,by omega⟩,by omega,k / 10,_,⟨by simp;omega,.inr ⟨by simp,?_⟩⟩,?_,hda,rfl⟩
  ·rw [wb];exact h3
  ·simp
   split <;> omega
 ·have h0 : k=0:=by omega
  subst h0
  by_cases ho : out=[]
  ·subst ho
   simp at hstep
   have w48 : IntKind.u8.wrap (IntKind.wrap .i64 48)=48:=by decide
   simp [w48]
   refine ⟨⟨48,rfl,by omega⟩,0,_,⟨by simp,.inr ⟨by simp,?_⟩⟩,⟨rfl,by simp⟩,by decide,rfl⟩
   have : fA [.int .u8 48]=px 0:=by decide
   rw [this]
   exact hstep
  ·rcases hI with ⟨h1,_⟩ | ⟨_,h2⟩
   ·exact absurd h1 ho
   ·rw [qH,if_pos rfl] at h2
    rw [<- h2]
    simp [ho]
end Go.Gv
