/-
  Texts of the proof: GvR, GvEwm, GvN, ItV, GvT, GvT4, GvT7, GvU, GvW, GvX, GvX2, GvX3, GvX4, GvX5, K1, K3, H1, H2, H3.
-/
import Derived.Test.YtibmdjdddnkomaaGreatDoorX4
import Derived.SizedLaws
import Derived.ProofKit
import Derived.Test.YtibmdjdddnkomaaGreatDoorX5
import Derived.Test.YtibmdjdddnkomaaGreatDoorProg
import Derived.KernelRfl
import Derived.Shelf.Small.Bits
import Derived.Shelf.Small.Wraps
import Derived.Shelf.Strconv.Itoa0
import Derived.Shelf.Strconv.Itoa1
import Derived.Shelf.LaysM
import Derived.Shelf.Strconv.Itoa2
import Derived.Shelf.Strconv.Itoa3
import Derived.Shelf.Sort.Plain
import Derived.Shelf.Bits.Mul64
import Derived.Shelf.Slices.Turned
import Derived.Shelf.Slices.Reverse
import Derived.Shelf.Slices.Equal
import Derived.Ground.Names2Prog
import Derived.Shelf.Slices.Clone
import Derived.Shelf.Slices.CompactI
import Derived.Shelf.Slices.SearchI
import Derived.Shelf.Slices.Cells
import Derived.Shelf.Slices.In.SortNone
import Derived.Shelf.Slices.Empties2
import Derived.Ground.SlgnProg
import Derived.Shelf.SlicesE.Reverse
import Derived.Shelf.SlicesE.Clone
import Derived.Sort.Row
import Derived.Sort.Grow
import Derived.Shelf.Spec.SlicesInsertGrow
set_option linter.all false
namespace Go.Gv
open Go.RowKit Go.ChangeShapes Go.WideShapes Go.ChangeAt
inductive Sh where
 | int (k : IntKind)
 | bool
 | str
 | sl (row : List Sh)
mutual
def eY : Sh -> D -> Prop
 | .int k,d=>∃ n,d=.int k n /\ (Lit.int k n).wf=true
 | .bool,d=>∃ b,d=.bool b
 | .str,d=>∃ s,d=.str s /\ s.length < 140737488355328
 | .sl row,d=>∃ es,(d=.sl es \/ (d=.nils /\ es=[])) /\ es.length < 140737488355328 /\ ∀ e ∈ es,bP row e
def bP : List Sh -> List D -> Prop
 | [],ds=>ds=[]
 | s::ss,ds=>∃ d r,ds=d::r /\ eY s d /\ bP ss r
end
theorem bP.length : ∀ {ss : List Sh} {ds : List D},bP ss ds -> ds.length=ss.length
 | [],ds,h=>by simp only [bP] at h;simp [h]
 | s::ss,ds,h=>by
  simp only [bP] at h
  obtain ⟨d,r,rfl,_,h2⟩:=h
  simp [bP.length h2]
theorem bP.append : ∀ {ss ts : List Sh} {ds es : List D},bP ss ds -> bP ts es -> bP (ss++ts) (ds++es)
 | [],ts,ds,es,h,h'=>by simp only [bP] at h;subst h;exact h'
 | s::ss,ts,ds,es,h,h'=>by
  simp only [bP] at h
  obtain ⟨d,r,rfl,h1,h2⟩:=h
  exact ⟨d,r++es,rfl,h1,bP.append h2 h'⟩
def oz (P : Program) (rec : TypeId -> Option (List Sh)) : List Field -> Nat -> Option (List Sh)
 | [],_=>some []
 | f::fs,off=>if f.offset=off then (match rec f.type with
   | some l=>if l.length=P.cellsOf f.type then (match oz P rec fs (off + l.length) with
    | some r=>some (l++r)
    | none=>none) else none
   | none=>none) else none
def nr (P : Program) : Nat -> TypeId -> Option (List Sh)
 | 0,_=>none
 | n + 1,t=>match P.underlying t with
  | some .bool=>some [.bool]
  | some (.int k)=>some [.int k]
  | some .string=>some [.str]
  | some (.slice e)=>(match nr P n e with
   | some l=>if l.length=P.cellsOf e /\ 1 <= P.bytesOf e then some [.sl l] else none
   | none=>none)
  | some (.struct fs)=>(match oz P (nr P n) fs.toList 0 with
   | some l=>if l.length=P.cellsOf t then some l else none
   | none=>none)
  | _=>none
section
variable {H : Type} {enc : TypeId × Value -> H} {P : Program} {F : Fid} {w : World} {sp : Nat -> Bool}
abbrev lO (w : World) : Mem:=fun p=>w.cell? p
def uh (enc : TypeId × Value -> H) (P : Program) (F : Fid) (w : World) (sp : Nat -> Bool) (n : Nat) (t : TypeId) (shs : List Sh) : Prop :=
 ∀ (cs : List Value) (d : DataW H) (ps : List MemPlace),DataW.trod enc P w 0 sp true n t cs=some (d,ps) -> (d.weights P t).all (· <= reachBytes)=true -> ∃ ds,bP shs ds /\ av F (lO w) ds cs
theorem ig {α β : Type} {f : α -> Option β} {x : α} {l : List α} {ys : List β} (h : (x::l).mapM f=some ys) : ∃ y r,f x=some y /\ l.mapM f=some r /\ ys=y::r:=by
 rw [List.mapM_cons] at h
 cases hx : f x with
 | none=>rw [hx] at h;cases h
 | some y =>
  cases hl : l.mapM f with
  | none=>rw [hx,hl] at h;cases h
  | some r =>
   rw [hx,hl] at h
   exact ⟨y,r,rfl,rfl,by cases h;rfl⟩
theorem mG {n m : Nat} (ih : ∀ t shs,nr P m t=some shs -> uh enc P F w sp n t shs) {cs : List Value} : ∀ (fs : List Field) (off : Nat) (xs : List (DataW H × List MemPlace)) (shs : List Sh),
  (fs.mapM fun f=>DataW.trod enc P w 0 sp true n f.type ((cs.drop f.offset).take (P.cellsOf f.type)))=some xs -> oz P (nr P m) fs off=some shs -> (DataW.weightsEach P (fs.map (·.type)) (xs.map (·.1))).all (· <= reachBytes)=true -> cs.length=off + shs.length ->
   ∃ ds,bP shs ds /\ av F (lO w) ds (cs.drop off)
 | [],off,xs,shs,_,h2,_,h4=>by
  cases h2
  exact ⟨[],rfl,by simp only [av];exact List.drop_of_length_le (by simpa using Nat.le_of_eq h4)⟩
 | f::fs,off,xs,shs,h1,h2,h3,h4=>by
  obtain ⟨y,r,e1,e2,rfl⟩:=ig h1
  simp only [oz] at h2
  split at h2
  case isFalse=>cases h2
  rename_i ho
  split at h2
  case h_2=>cases h2
  rename_i l hl
  split at h2
  case isFalse=>cases h2
  rename_i hlen
  split at h2
  case h_2=>cases h2
  rename_i rs hr
  cases h2
  simp only [x0D,DataW.weightsEach,List.all_append,x0a] at h3
  rw [x0M] at h4
  obtain ⟨ds1,g1,g2⟩:=ih f.type l hl _ y.1 y.2 e1 h3.1
  obtain ⟨ds2,g3,g4⟩:=mG ih fs (off + l.length) r rs e2 hr h3.2 (by omega)
  refine ⟨ds1++ds2,g1.append g3,?_⟩
  rw [ho,<- hlen] at g2
  have:=g2.append g4
  rwa [<- List.drop_drop,List.take_append_drop] at this
theorem mH {n k : Nat} {e : TypeId} {l : List Sh} {a : Addr} (hl : l.length=k) (ih : uh enc P F w sp n e l) : ∀ (c s : Nat) (xs : List (DataW H × List MemPlace)),
  ((List.range' s c).mapM fun i=>(w.cells? 0 (a.add (i * k)) k).bind (DataW.trod enc P w 0 sp true n e))=some xs -> (DataW.weightsAll P e (xs.map (·.1))).all (· <= reachBytes)=true ->
   ∃ (es : List (List D)) (vs : List Value),es.length=c /\ xs.length=c /\ (∀ r ∈ es,bP l r) /\ bg F (lO w) es vs /\ ∀ j v,vs[j]? = some v -> w.cell? (a.add (s * k + j))=some v
 | 0,s,xs,h,_=>by
  cases h
  exact ⟨[],[],rfl,rfl,by simp,by simp [bg],fun j v h=>by simp at h⟩
 | c + 1,s,xs,h,hw=>by
  rw [List.range'_succ] at h
  obtain ⟨y,r,e1,e2,rfl⟩:=ig h
  rw [Option.bind_eq_some_iff] at e1
  obtain ⟨row,c1,c2⟩:=e1
  simp only [x0D,DataW.weightsAll,List.all_append,x0a] at hw
  obtain ⟨ds,g1,g2⟩:=ih row y.1 y.2 c2 hw.1
  obtain ⟨es,vs,h1,h2,h3,h4,h5⟩:=mH hl ih c (s + 1) r e2 hw.2
  have hrow:=World.cells?_some c1
  refine ⟨ds::es,row++vs,by simp [h1],by simp [h2],?_,⟨row,vs,rfl,g2,h4⟩,fun j v hj=>?_⟩
  ·intro x hx
   rcases x0G.1 hx with rfl | hx
   ·exact g1
   ·exact h3 x hx
  ·have hrl : row.length=k:=by rw [g2.length,g1.length,hl]
   have addadd : ∀ i j,(a.add i).add j=a.add (i + j):=fun i j=>by
    unfold Addr.add
    by_cases hi : i=0 <;> by_cases hj : j=0 <;> simp [hi,hj,x0W]
   by_cases hjk : j < k
   ·rw [x0C (by omega)] at hj
    have:=hrow.2.2 j hjk
    rw [hj,addadd] at this
    exact this
   ·rw [x0z (by omega)] at hj
    have:=h5 (j - row.length) v hj
    rw [hrl] at this
    rwa [show (s + 1) * k + (j - k)=s * k + j by rw [x0U];omega] at this
theorem lJ : ∀ (m : Nat) (n : Nat) (t : TypeId) (shs : List Sh),nr P m t=some shs -> uh enc P F w sp n t shs
 | 0,_,_,_,h=>by cases h
 | m + 1,0,t,shs,_=>fun cs d ps h _=>by simp [DataW.trod] at h
 | m + 1,n + 1,t,shs,h=>by
  intro cs d ps ht hw
  rw [nr] at h
  split at h
  ·rename_i hu
   cases h
   unfold DataW.trod at ht;rw [hu] at ht
   split at ht <;> try (simp_all;done)
   rename_i b _
   refine ⟨[.bool b],⟨_,_,rfl,⟨b,rfl⟩,rfl⟩,by simp [av,ac]⟩
  ·rename_i k hu
   cases h
   unfold DataW.trod at ht;rw [hu] at ht
   split at ht <;> try (simp_all;done)
   rename_i k1 k2 x h1
   simp only [x0j,TypeDesc.int.injEq] at h1
   subst h1
   split at ht
   ·rename_i hk
    obtain ⟨rfl,hwf⟩:=hk
    exact ⟨[.int _ x],⟨_,_,rfl,⟨x,rfl,hwf⟩,rfl⟩,by simp [av,ac]⟩
   ·cases ht
  ·rename_i hu
   cases h
   unfold DataW.trod at ht;rw [hu] at ht
   split at ht <;> try (simp_all;done)
   rename_i s _
   split at ht
   ·rename_i hs
    simp only [x0j,Prod.mk.injEq] at ht
    obtain ⟨rfl,rfl⟩:=ht
    simp only [DataW.weights,List.all_cons,List.all_nil,Bool.and_true,x0g] at hw
    refine ⟨[.str s.data.toList],⟨_,_,rfl,⟨_,rfl,?_⟩,rfl⟩,?_⟩
    ·have:=reachBytes_lt;omega
    ·obtain ⟨s⟩:=s
     simp [av,ac]
   ·cases ht
  ·rename_i e hu
   split at h
   case h_2=>cases h
   rename_i l hl
   split at h
   case isFalse=>cases h
   rename_i hk
   cases h
   unfold DataW.trod at ht;rw [hu] at ht
   split at ht <;> try (simp_all;done)
   ·refine ⟨[.nils],⟨_,_,rfl,⟨[],.inr ⟨rfl,rfl⟩,by simp,by simp⟩,rfl⟩,by simp [av,ac]⟩
   ·rename_i e' a len cap h1
    simp only [x0j,TypeDesc.slice.injEq] at h1
    subst h1
    simp only at ht
    split at ht
    case isFalse=>cases ht
    rename_i hb
    rw [Option.bind_eq_some_iff] at ht
    obtain ⟨xs,e1,e2⟩:=ht
    rw [x0h] at e2
    obtain ⟨rest,e3,e4⟩:=e2
    simp only [Prod.mk.injEq] at e4
    obtain ⟨rfl,rfl⟩:=e4
    simp only [DataW.weights,hu,List.all_cons,List.all_append,x0a,x0g] at hw
    obtain ⟨w1,w2,w3⟩:=hw
    rw [List.range_eq_range'] at e1
    obtain ⟨es,vs,g1,g2,g3,g4,g5⟩:=mH (F:=F) hk.1 (lJ m n e l hl) len 0 xs e1 w2
    refine ⟨[.sl es],⟨_,_,rfl,⟨es,.inl rfl,?_,g3⟩,rfl⟩,?_⟩
    ·have h5:=reachBytes_lt
     have h6 : es.length * 1 <= (xs.length + rest.length) * P.bytesOf e:=Nat.mul_le_mul (by omega) hk.2
     simp only [x1u] at w1
     omega
    ·simp only [av]
     refine ⟨_,_,rfl,?_,rfl⟩
     simp only [ac]
     refine ⟨some a,cap,vs,P.cellsOf e,by rw [g1],by omega,g4,fun r hr=>by rw [(g3 r hr).length,hk.1],fun _=>⟨a,rfl,fun j v hj=>?_⟩⟩
     have:=g5 j v hj
     simpa using this
  ·rename_i fs hu
   split at h
   case h_2=>cases h
   rename_i l hl
   split at h
   case isFalse=>cases h
   rename_i hk
   cases h
   unfold DataW.trod at ht;rw [hu] at ht
   split at ht <;> try (simp_all;done)
   rename_i fs' h1
   simp only [x0j,TypeDesc.struct.injEq] at h1
   subst h1
   split at ht
   case isFalse=>cases ht
   rename_i hc
   rw [x0h] at ht
   obtain ⟨xs,e1,e2⟩:=ht
   simp only [Prod.mk.injEq] at e2
   obtain ⟨rfl,rfl⟩:=e2
   simp only [DataW.weights,hu] at hw
   obtain ⟨ds,g1,g2⟩:=mG (F:=F) (n:=n) (fun t shs h=>lJ m n t shs h) fs.toList 0 xs _ e1 hl hw (by omega)
   exact ⟨ds,g1,by simpa using g2⟩
  ·cases h
theorem qr {t : TypeId} {fs : Array Field} {m : Nat} {shs : List Sh} {base : Nat} {v : Value} {d : DataW H} {ps : List MemPlace} (hu : P.underlying t=some (.struct fs)) (hsh : nr P m t=some shs) (hv : Value.okWide P w .any base t v) (h : DataW.Trod enc P w 0 sp true t v d ps) (hw : (d.weights P t).all (· <= reachBytes)=true) :
  ∃ ds,bP shs ds /\ ac F (lO w) (.agg ds) v:=by
 obtain ⟨cs,rfl,_⟩:=okWide_struct hu hv
 obtain ⟨n,hn⟩:=h
 obtain ⟨ds,g1,g2⟩:=lJ (F:=F) m n t shs hsh _ d ps hn hw
 exact ⟨ds,g1,by simp only [ac];exact ⟨cs.toList,by simp,g2⟩⟩
theorem s9 {t e : TypeId} {m : Nat} {sh : Sh} {base : Nat} {v : Value} {d : DataW H} {ps : List MemPlace} (hu : P.underlying t=some (.slice e)) (hsh : nr P m t=some [sh]) (hv : Value.okWide P w .any base t v) (h : DataW.Trod enc P w 0 sp true t v d ps) (hw : (d.weights P t).all (· <= reachBytes)=true) :
  ∃ x,eY sh x /\ ac F (lO w) x v:=by
 obtain ⟨a,len,cap,rfl⟩:=okWide_slice hu hv
 obtain ⟨n,hn⟩:=h
 obtain ⟨ds,g1,g2⟩:=lJ (F:=F) m n t [sh] hsh _ d ps hn hw
 simp only [bP] at g1
 obtain ⟨x,r,rfl,g3,rfl⟩:=g1
 simp only [Value.cells,av] at g2
 obtain ⟨v',r',e,g4,rfl⟩:=g2
 simp at e
 exact ⟨x,g3,by rw [e];exact g4⟩
theorem od {t : TypeId} {k : IntKind} {base : Nat} {v : Value} {d : DataW H} {ps : List MemPlace} (hu : P.underlying t=some (.int k)) (hv : Value.okWide P w .any base t v) (h : DataW.Trod enc P w 0 sp true t v d ps) :
  ∃ n,(Lit.int k n).wf=true /\ ac F (lO w) (.int k n) v:=by
 obtain ⟨n,rfl,_,_,hw⟩:=open_int hu hv h
 exact ⟨n,hw,rfl⟩
end
theorem jM {α : Type} {f : α -> List D} {es : List (List D)} (h : ∀ e ∈ es,∃ x,e=f x) : ∃ xs : List α,es=xs.map f:=by
 induction es with
 | nil=>exact ⟨[],rfl⟩
 | cons e es ih =>
  obtain ⟨x,rfl⟩:=h e (by simp)
  obtain ⟨xs,rfl⟩:=ih (fun e he=>h e (by simp [he]))
  exact ⟨x::xs,rfl⟩
end Go.Gv
namespace Go.Gv
def A9 (P : Program) (F : Fid) (prog : Nat -> Option aI) (tbl : List (Nat × Nat)) : Bool:=tbl.all fun p=>mr P p.2 && match prog p.1 with
 | some nf=>dD P F p.2 nf
 | none=>true
theorem tG {tbl : List (Nat × Nat)} {g f : Nat} (h : tbl.lookup g=some f) : (g,f) ∈ tbl:=by
 induction tbl with
 | nil=>cases h
 | cons p r ih =>
  obtain ⟨a,b⟩:=p
  rw [x0e] at h
  cases e : g == a with
  | true=>rw [e] at h;simp at e h;subst e;subst h;simp
  | false=>rw [e] at h;simp [ih h]
theorem seat {P : Program} {tbl : List (Nat × Nat)} {ty : Nat -> TypeId} {prog : Nat -> Option aI} (hm : P.follows .mixedOrders=true) (hl : laidOutB P=true) (h : A9 P ⟨P,fun g=>tbl.lookup g,ty,fun _=>.nilIface⟩ prog tbl=true) :
  bE P ⟨P,fun g=>tbl.lookup g,ty,fun _=>.nilIface⟩ (eJ P ⟨P,fun g=>tbl.lookup g,ty,fun _=>.nilIface⟩) /\ aq prog (eJ P ⟨P,fun g=>tbl.lookup g,ty,fun _=>.nilIface⟩):=by
 have key : ∀ g f,tbl.lookup g=some f -> mr P f=true /\ ∀ nf,prog g=some nf -> dD P ⟨P,fun g=>tbl.lookup g,ty,fun _=>.nilIface⟩ f nf=true:=fun g f e=>by
  have:=x0f.1 h _ (tG e)
  simp only [x0a] at this
  refine ⟨this.1,fun nf hnf=>?_⟩
  have:=this.2
  rw [hnf] at this
  exact this
 exact qf hm (fun g f e=>(key g f e).1) hl rfl (fun g f nf e hp=>(key g f e).2 nf hp)
end Go.Gv

namespace Go.Gv
open Go.Proofs
def TryzTbl : List (Nat × Nat) := [(0, 2), (851, 6), (854, 8), (855, 9), (856, 10), (213, 11), (223, 12), (857, 13), (859, 15), (19, 16), (42, 19), (862, 20), (399, 21), (527, 22), (215, 23), (874, 31), (875, 32), (876, 33), (253, 34), (254, 35), (262, 36), (877, 37), (880, 40), (234, 41), (11, 42), (400, 43), (401, 44), (303, 45), (257, 46), (258, 47), (881, 48), (882, 50), (883, 51), (366, 52), (523, 53), (243, 54), (244, 55), (373, 56), (221, 57), (256, 58), (273, 61), (35, 62), (403, 63), (404, 64), (313, 65), (289, 66), (290, 67), (291, 68), (292, 69), (293, 70), (294, 71), (295, 72), (280, 75), (377, 76), (376, 77), (261, 78), (268, 79), (263, 80), (302, 86), (304, 87), (305, 88), (306, 89), (307, 90), (308, 91), (298, 92), (309, 93), (310, 94), (311, 95), (127, 96), (285, 97), (286, 98), (323, 99), (324, 100), (220, 112), (315, 113), (316, 114), (317, 115), (318, 116), (264, 117), (99, 118), (225, 119), (328, 123), (299, 130), (333, 131), (334, 132), (335, 133), (105, 134), (103, 135), (106, 136), (266, 137), (267, 138), (339, 145), (91, 146), (112, 147), (113, 148), (340, 185), (341, 186), (342, 187), (343, 188)]
def TryzTys : List (Nat × Nat) := [(1, 4), (2, 3), (20, 156), (3, 135), (4, 89)]
set_option maxRecDepth 100000 in
theorem Tryz_all : A9 Tryz.prog ⟨Tryz.prog, fun g => TryzTbl.lookup g, fun t => (TryzTys.lookup t).getD 0, fun _ => .nilIface⟩ prog TryzTbl = true := by kernel_rfl
end Go.Gv

namespace Go.Gv
open Go.RowKit
theorem rJ {P : Program} {F : Fid} {g : Nat} {ds : List D} {d : D} (h : ∀ f,F g=some f -> ∀ (M : Mem) (w : World) (vs : List Value),av F M ds vs -> ∃ v,ac F M d v /\ Calls P f vs.toArray w (fun e w'=>e=.returned v /\ w'=w)) : eJ P F g ds d []:=by
 refine ⟨trivial,fun f hf M w vs hh r=>?_⟩
 obtain ⟨v,hv,hc⟩:=h f hf M w vs r
 refine hc.mono ?_
 rintro e w' ⟨rfl,rfl⟩
 exact ⟨v,M,rfl,Bel.refl _,Mem.le_refl _,fun p h1 h2=>absurd h1 h2,hh,hv⟩
end Go.Gv

namespace Go.Proofs
open Go.Shelf
def Tryz.lays189_ren : Go.Shelf.Ren := ⟨fun | 189 => 52 | 125 => 74 | 257 => 73 | 128 => 110 | 129 => 111 | 294 => 101 | 295 => 102 | 296 => 103 | 297 => 104 | 298 => 105 | 299 => 106 | 216 => 107 | 300 => 108 | 301 => 109 | 328 => 125 | 329 => 126 | 330 => 127 | 331 => 128 | 332 => 129 | 215 => 130 | 343 => 144 | n => n, fun | 28 => 26 | 3 => 3 | 46 => 111 | 0 => 0 | 51 => 153 | 53 => 155 | 4 => 4 | 183 => 146 | 182 => 145 | 131 => 150 | 5 => 5 | 9 => 9 | 218 => 173 | 222 => 177 | 228 => 201 | 229 => 163 | n => n, fun | n => n⟩
theorem Tryz.lays189 : Go.Proofs.Lays.n189 Tryz.prog Tryz.lays189_ren := {
 mixed := by kernel_rfl
 f125 := Tryz.func74.trans (congrArg some (by kernel_rfl))
 f128 := Tryz.func110.trans (congrArg some (by kernel_rfl))
 f129 := Tryz.func111.trans (congrArg some (by kernel_rfl))
 f189 := Tryz.func52.trans (congrArg some (by kernel_rfl))
 f215 := Tryz.func130.trans (congrArg some (by kernel_rfl))
 f216 := Tryz.func107.trans (congrArg some (by kernel_rfl))
 f257 := Tryz.func73.trans (congrArg some (by kernel_rfl))
 f294 := Tryz.func101.trans (congrArg some (by kernel_rfl))
 f295 := Tryz.func102.trans (congrArg some (by kernel_rfl))
 f296 := Tryz.func103.trans (congrArg some (by kernel_rfl))
 f297 := Tryz.func104.trans (congrArg some (by kernel_rfl))
 f298 := Tryz.func105.trans (congrArg some (by kernel_rfl))
 f299 := Tryz.func106.trans (congrArg some (by kernel_rfl))
 f300 := Tryz.func108.trans (congrArg some (by kernel_rfl))
 f301 := Tryz.func109.trans (congrArg some (by kernel_rfl))
 f328 := Tryz.func125.trans (congrArg some (by kernel_rfl))
 f329 := Tryz.func126.trans (congrArg some (by kernel_rfl))
 f330 := Tryz.func127.trans (congrArg some (by kernel_rfl))
 f331 := Tryz.func128.trans (congrArg some (by kernel_rfl))
 f332 := Tryz.func129.trans (congrArg some (by kernel_rfl))
 f343 := Tryz.func144.trans (congrArg some (by kernel_rfl))
 t0 := Tryz.underlying0
 a0 := Tryz.isAgg0
 z0 := Tryz.sizeOf0
 v0 := Tryz.zeroValue0
 t3 := Tryz.underlying3
 a3 := Tryz.isAgg3
 z3 := Tryz.sizeOf3
 v3 := Tryz.zeroValue3
 t4 := Tryz.underlying4
 a4 := Tryz.isAgg4
 z4 := Tryz.sizeOf4
 v4 := Tryz.zeroValue4
 t5 := Tryz.underlying5
 a5 := Tryz.isAgg5
 z5 := Tryz.sizeOf5
 v5 := Tryz.zeroValue5
 t9 := Tryz.underlying9
 a9 := Tryz.isAgg9
 z9 := Tryz.sizeOf9
 v9 := Tryz.zeroValue9
 t28 := Tryz.underlying26
 a28 := Tryz.isAgg26
 z28 := Tryz.sizeOf26
 v28 := Tryz.zeroValue26
 t46 := Tryz.underlying111
 a46 := Tryz.isAgg111
 z46 := Tryz.sizeOf111
 v46 := Tryz.zeroValue111
 t51 := Tryz.underlying153
 a51 := Tryz.isAgg153
 z51 := Tryz.sizeOf153
 v51 := Tryz.zeroValue153
 t53 := Tryz.underlying155
 a53 := Tryz.isAgg155
 z53 := Tryz.sizeOf155
 v53 := Tryz.zeroValue155
 t131 := Tryz.underlying150
 a131 := Tryz.isAgg150
 z131 := Tryz.sizeOf150
 v131 := Tryz.zeroValue150
 t182 := Tryz.underlying145
 a182 := Tryz.isAgg145
 z182 := Tryz.sizeOf145
 v182 := Tryz.zeroValue145
 t183 := Tryz.underlying146
 a183 := Tryz.isAgg146
 z183 := Tryz.sizeOf146
 v183 := Tryz.zeroValue146
 t218 := Tryz.underlying173
 a218 := Tryz.isAgg173
 z218 := Tryz.sizeOf173
 v218 := Tryz.zeroValue173
 t222 := Tryz.underlying177
 a222 := Tryz.isAgg177
 z222 := Tryz.sizeOf177
 v222 := Tryz.zeroValue177
 t228 := Tryz.underlying201
 a228 := Tryz.isAgg201
 z228 := Tryz.sizeOf201
 v228 := Tryz.zeroValue201
 t229 := Tryz.underlying163
 a229 := Tryz.isAgg163
 z229 := Tryz.sizeOf163
 v229 := Tryz.zeroValue163 }
def Tryz.laysNm220_ren : Go.Shelf.Ren := ⟨fun | 20 => 53 | n => n, fun | 22 => 26 | 3 => 3 | 4 => 4 | 0 => 0 | n => n, fun | n => n⟩
theorem Tryz.laysNm220 : Go.Proofs.Lays2.n20 Tryz.prog Tryz.laysNm220_ren := {
 mixed := by kernel_rfl
 f20 := Tryz.func53.trans (congrArg some (by kernel_rfl))
 t0 := Tryz.underlying0
 a0 := Tryz.isAgg0
 z0 := Tryz.sizeOf0
 v0 := Tryz.zeroValue0
 t3 := Tryz.underlying3
 a3 := Tryz.isAgg3
 z3 := Tryz.sizeOf3
 v3 := Tryz.zeroValue3
 t4 := Tryz.underlying4
 a4 := Tryz.isAgg4
 z4 := Tryz.sizeOf4
 v4 := Tryz.zeroValue4
 t22 := Tryz.underlying26
 a22 := Tryz.isAgg26
 z22 := Tryz.sizeOf26
 v22 := Tryz.zeroValue26
 i3 := by kernel_rfl }
def Tryz.lays112_ren : Go.Shelf.Ren := ⟨fun | 112 => 22 | n => n, fun | 28 => 26 | 3 => 3 | 4 => 4 | 0 => 0 | n => n, fun | n => n⟩
theorem Tryz.lays112 : Go.Proofs.Lays.n112 Tryz.prog Tryz.lays112_ren := {
 mixed := by kernel_rfl
 f112 := Tryz.func22.trans (congrArg some (by kernel_rfl))
 t0 := Tryz.underlying0
 a0 := Tryz.isAgg0
 z0 := Tryz.sizeOf0
 v0 := Tryz.zeroValue0
 t3 := Tryz.underlying3
 a3 := Tryz.isAgg3
 z3 := Tryz.sizeOf3
 v3 := Tryz.zeroValue3
 t4 := Tryz.underlying4
 a4 := Tryz.isAgg4
 z4 := Tryz.sizeOf4
 v4 := Tryz.zeroValue4
 t28 := Tryz.underlying26
 a28 := Tryz.isAgg26
 z28 := Tryz.sizeOf26
 v28 := Tryz.zeroValue26 }
def Tryz.lays171_ren : Go.Shelf.Ren := ⟨fun | 171 => 96 | 243 => 124 | 246 => 143 | 283 => 155 | 284 => 156 | 285 => 157 | 286 => 158 | 129 => 111 | 317 => 162 | 318 => 163 | 319 => 164 | 320 => 165 | 337 => 166 | 338 => 167 | n => n, fun | 3 => 3 | 9 => 9 | 2 => 2 | 4 => 4 | 171 => 214 | 0 => 0 | 53 => 155 | 37 => 140 | 5 => 5 | 173 => 216 | 212 => 221 | 51 => 153 | 20 => 20 | 213 => 222 | 46 => 111 | 232 => 223 | 233 => 224 | n => n, fun | 17 => 0 | 18 => 1 | 19 => 2 | n => n⟩
theorem Tryz.lays171 : Go.Proofs.Lays.n171 Tryz.prog Tryz.lays171_ren := {
 mixed := by kernel_rfl
 f129 := Tryz.func111.trans (congrArg some (by kernel_rfl))
 f171 := Tryz.func96.trans (congrArg some (by kernel_rfl))
 f243 := Tryz.func124.trans (congrArg some (by kernel_rfl))
 f246 := Tryz.func143.trans (congrArg some (by kernel_rfl))
 f283 := Tryz.func155.trans (congrArg some (by kernel_rfl))
 f284 := Tryz.func156.trans (congrArg some (by kernel_rfl))
 f285 := Tryz.func157.trans (congrArg some (by kernel_rfl))
 f286 := Tryz.func158.trans (congrArg some (by kernel_rfl))
 f317 := Tryz.func162.trans (congrArg some (by kernel_rfl))
 f318 := Tryz.func163.trans (congrArg some (by kernel_rfl))
 f319 := Tryz.func164.trans (congrArg some (by kernel_rfl))
 f320 := Tryz.func165.trans (congrArg some (by kernel_rfl))
 f337 := Tryz.func166.trans (congrArg some (by kernel_rfl))
 f338 := Tryz.func167.trans (congrArg some (by kernel_rfl))
 t0 := Tryz.underlying0
 a0 := Tryz.isAgg0
 z0 := Tryz.sizeOf0
 v0 := Tryz.zeroValue0
 t2 := Tryz.underlying2
 a2 := Tryz.isAgg2
 z2 := Tryz.sizeOf2
 v2 := Tryz.zeroValue2
 t3 := Tryz.underlying3
 a3 := Tryz.isAgg3
 z3 := Tryz.sizeOf3
 v3 := Tryz.zeroValue3
 t4 := Tryz.underlying4
 a4 := Tryz.isAgg4
 z4 := Tryz.sizeOf4
 v4 := Tryz.zeroValue4
 t5 := Tryz.underlying5
 a5 := Tryz.isAgg5
 z5 := Tryz.sizeOf5
 v5 := Tryz.zeroValue5
 t9 := Tryz.underlying9
 a9 := Tryz.isAgg9
 z9 := Tryz.sizeOf9
 v9 := Tryz.zeroValue9
 t20 := Tryz.underlying20
 a20 := Tryz.isAgg20
 z20 := Tryz.sizeOf20
 v20 := Tryz.zeroValue20
 t37 := Tryz.underlying140
 a37 := Tryz.isAgg140
 z37 := Tryz.sizeOf140
 v37 := Tryz.zeroValue140
 t46 := Tryz.underlying111
 a46 := Tryz.isAgg111
 z46 := Tryz.sizeOf111
 v46 := Tryz.zeroValue111
 t51 := Tryz.underlying153
 a51 := Tryz.isAgg153
 z51 := Tryz.sizeOf153
 v51 := Tryz.zeroValue153
 t53 := Tryz.underlying155
 a53 := Tryz.isAgg155
 z53 := Tryz.sizeOf155
 v53 := Tryz.zeroValue155
 t171 := Tryz.underlying214
 a171 := Tryz.isAgg214
 z171 := Tryz.sizeOf214
 v171 := Tryz.zeroValue214
 t173 := Tryz.underlying216
 a173 := Tryz.isAgg216
 z173 := Tryz.sizeOf216
 v173 := Tryz.zeroValue216
 t212 := Tryz.underlying221
 a212 := Tryz.isAgg221
 z212 := Tryz.sizeOf221
 v212 := Tryz.zeroValue221
 t213 := Tryz.underlying222
 a213 := Tryz.isAgg222
 z213 := Tryz.sizeOf222
 t232 := Tryz.underlying223
 a232 := Tryz.isAgg223
 z232 := Tryz.sizeOf223
 v232 := Tryz.zeroValue223
 t233 := Tryz.underlying224
 a233 := Tryz.isAgg224
 z233 := Tryz.sizeOf224
 v233 := Tryz.zeroValue224
 g17 := by kernel_rfl
 g18 := by kernel_rfl
 g19 := by kernel_rfl }
open Go.RowKit Go.Sort Go.Lib in
theorem Tryz.strconv_Itoa_small (i : Nat) (hi : i < 100) (w : World) :
  Calls Tryz.prog 96 #[.int .i64 i] w fun e w' => e = .returned (.string ⟨(Lib.decDigits i).toArray⟩) /\ w' = w := Any.strconv_Itoa_small Tryz.lays171 i hi w
end Go.Proofs

namespace Go.Gv
open Go.Sort
section
variable {P : Program} {F : Fid} {α : Type} [Inhabited α]
def ip (encD : α -> D) (d : Array α) : List (List D):=d.toList.map fun x=>[encD x]
theorem iT {f : FuncId} (enc : α -> Value) (encD : α -> D) (hflat : ∀ M x u,ac F M (encD x) u -> u=enc x) (hrep : ∀ M x,ac F M (encD x) (enc x)) (d d' : Array α) (hsz : d'.size=d.size) (ds : List D)
  (hnone : d.size=0 -> ∀ (M : Mem) (w : World) (vs : List Value) (A : Option Addr),(∀ p v,M p=some v -> w.cell? p=some v) -> av F M ds vs -> Calls P f (.slice A 0 0::vs).toArray w fun e w'=>e=.returned (.tuple #[]) /\ ∃ n os,w'=grow (Sort.ahead w n) os)
  (hrun : ∀ (M : Mem) (w : World) (vs : List Value) (blk off cap : Nat),(∀ p v,M p=some v -> w.cell? p=some v) -> (∀ p : Addr,p.block=blk -> M p=none) -> av F M ds vs -> Holds enc w blk off d -> blk < w.heap.size ->
   Calls P f (.slice (some ⟨blk,off,none⟩) d.size cap::vs).toArray w fun e w'=>e=.returned (.tuple #[]) /\ ∃ n os,w'=grow (putRow enc (Sort.ahead w n) blk off d') os) : uo P F f 1 (ip encD d) ds (ip encD d'):=by
 intro M w vs hh r
 have hl : (ip encD d).length=d.size:=by simp [ip]
 refine ⟨fun e A=>?_,fun b o T us cap hM hb hcell hcap hle hu hc=>?_⟩
 ·have h0 : d.size=0:=by rw [<- hl,e];rfl
  refine (hnone h0 M w vs A hh r).mono ?_
  rintro e0 w' ⟨rfl,n,os,rfl⟩
  exact ⟨rfl,rfl,rfl,rfl,by simp [grow,Sort.ahead],fun k hk=>by simp only [grow,Sort.ahead];rw [Array.getElem?_append_left hk],Nat.le_add_right _ _⟩
 ·rw [hl] at hcap ⊢
  have hH : Holds enc w b o d:=fun j hj=>by
   obtain ⟨u,k1,k2⟩:=hc j [encD d[j]] 0 (encD d[j]) (by simp [ip,hj]) rfl
   have:=hflat _ _ _ k2
   subst this
   have e1 : d[j]! = d[j]:=x0T d j hj
   rw [e1]
   have k3 : us[o + j]? = some (enc d[j]):=by simpa using k1
   constructor
   ·simp [World.cell?,hcell,k3]
   ·simp [World.frozen?,hcell]
  refine (hrun M w vs b o cap hh hM r hH hb).mono ?_
  rintro e0 w' ⟨rfl,n,os,rfl⟩
  have hput : (grow (putRow enc (Sort.ahead w n) b o d') os).heap[b]? = some (.cells (putCells enc o d' us.toArray) T (0,0)):=by
   simp only [grow,putRow,mapBlock,Sort.ahead]
   rw [Array.getElem?_append_left (by simpa using hb),x1H,if_pos rfl,hcell]
   rfl
  refine ⟨rfl,(putCells enc o d' us.toArray).toList,by rw [x1o];exact hput,by simp [putCells],fun i r off x hi hr=>?_,⟨rfl,rfl,rfl,by simp [grow,putRow,mapBlock,Sort.ahead],fun k hk hne=>?_,Nat.le_add_right _ _⟩⟩
  ·simp only [ip,x0w,x0h] at hi
   obtain ⟨y,h1,rfl⟩:=hi
   have ho : off=0:=by
    have:=(x0b.1 hr).1
    simpa using this
   subst ho
   simp only [x07,x0j] at hr
   subst hr
   have hi2 : i < d'.size:=by have:=(x0b.1 h1).1;simpa using this
   have hy : d'[i]! = y:=by
    rw [x0T d' i hi2]
    have:=(x0b.1 h1).2
    simpa using this
   refine ⟨enc y,?_,hrep _ _⟩
   have hlt : o + i < us.length:=by
    have : o + cap * 1 <= us.length:=hle
    omega
   rw [Nat.mul_one,x1h,Array.getElem?_toList]
   simp only [putCells,Array.getElem?_mapIdx,x1v]
   rw [x0d hlt]
   simp only [x1a]
   rw [if_pos ⟨by omega,by omega⟩,show o + i - o=i by omega,hy]
  ·simp only [grow,putRow,mapBlock,Sort.ahead]
   rw [Array.getElem?_append_left (by simpa using hk),x1H,if_neg (Ne.symm hne)]
end
end Go.Gv

namespace Go.Gv
open Go.Sort Go.Proofs Go.Shelf
section
variable {P : Program} {F : Fid} {ρ : Ren}
def x8 (zs : List Int) : List (List D):=zs.map fun n=>[.int .i64 n]
theorem vp {zs : List Int} {i : Nat} {r : List D} {off : Nat} {d : D} (h1 : (x8 zs)[i]? = some r) (h2 : r[off]? = some d) : ∃ x,zs[i]? = some x /\ off=0 /\ d=.int .i64 x:=by
 simp only [x8,x0w,x0h] at h1
 obtain ⟨x,h1,rfl⟩:=h1
 have ho : off=0:=by have:=(x0b.1 h2).1;simpa using this
 subst ho
 simp only [x07,x0j] at h2
 exact ⟨x,h1,rfl,h2.symm⟩
theorem qX {M : Mem} {zs : List Int} {us : List Value} {o : Nat} (hc : ∀ i r off d,(x8 zs)[i]? = some r -> r[off]? = some d -> ∃ u,us[o + i * 1 + off]? = some u /\ ac F M d u) : ∀ j x,zs[j]? = some x -> us[o + j]? = some (.int .i64 x):=by
 intro j x hj
 obtain ⟨u,k1,k2⟩:=hc j [.int .i64 x] 0 (.int .i64 x) (by simp [x8,hj]) rfl
 simp only [ac] at k2
 subst k2
 simpa using k1
theorem mP (Ly : Lays.n189 P ρ) {g : Nat} (hg : ∀ f,F g=some f -> f=ρ.f 189) (zs : List Int) (hz : zs.length < 2 ^ 40) :
  eJ P F g [.own 1 (zs.map fun n=>[.int .i64 n])] .any [.own 1 ((zs.mergeSort fun x y=>decide (x <= y)).map fun n=>[.int .i64 n]),.nilp]:=by
 refine ⟨trivial,fun f hf=>⟨rfl,?_⟩⟩
 obtain rfl:=hg f hf
 have k:=iT (P:=P) (F:=F) (f:=ρ.f 189) (Value.int .i64) (D.int .i64) (fun M x u h=>by simpa only [ac] using h) (fun M x=>by simp only [ac]) zs.toArray (zs.mergeSort fun x y=>decide (x <= y)).toArray (by simp [List.length_mergeSort]) []
  (fun h M w vs A hh r=>by
   simp only [av] at r
   subst r
   refine (Any.slices_Sort_int_none Ly A 0 w).mono ?_
   rintro e w' ⟨rfl,rfl⟩
   exact ⟨rfl,0,#[],by simp [grow,Sort.ahead]⟩)
  (fun M w vs blk off cap hh hM r hH hb=>by
   simp only [av] at r
   subst r
   have:=Any.slices_Sort_int Ly blk off cap zs w hH hb (by omega)
   simpa using this)
 simpa [ip] using k
theorem nj (L : Lays2.n20 P ρ) {g : Nat} (hg : ∀ f,F g=some f -> f=ρ.f 20) (zs : List Int) (hz : zs.length < 2 ^ 40) :
  eJ P F g [.own 1 (zs.map fun n=>[.int .i64 n])] .any [.own 1 ((Lib.compact zs).map fun n=>[.int .i64 n]),.nils,.nils]:=by
 refine ⟨trivial,fun f hf=>⟨rfl,?_⟩⟩
 obtain rfl:=hg f hf
 refine qo.to ?_
 intro M w vs hh
 have nil : ∀ {b : Option Nat},lN F M w b [] vs -> vs=[]:=fun h=>x0v h.1.symm
 refine ⟨fun e A r=>?_,fun b o T us cap r hM hb hcell hcap hmc hle hu hc=>?_⟩
 ·rw [nil r]
  have h0 : zs=[]:=by simpa using e
  subst h0
  refine (Any.slices_Compact_int_empty L A 0 w).mono ?_
  rintro e w' ⟨rfl,rfl⟩
  exact ⟨_,rfl,Bel.refl _,.inl ⟨rfl,A,rfl⟩⟩
 ·rw [nil r]
  have hget:=qX hc
  have hl : (zs.map fun n=>[D.int .i64 n]).length=zs.length:=by simp
  rw [hl] at hcap ⊢
  have hH : Holds (Value.int .i64) w b o zs.toArray:=fun j hj=>by
   have hj2 : j < zs.length:=by simpa using hj
   have e1 : zs.toArray[j]! = zs[j]:=by rw [x0T zs.toArray j hj];simp
   have k3:=hget j zs[j] (x0d hj2)
   rw [e1]
   exact ⟨by simp [World.cell?,hcell,k3],by simp [World.frozen?,hcell]⟩
  obtain ⟨d',hd'⟩ : ∃ d',d'=(Lib.compact zs++List.replicate (zs.length - (Lib.compact zs).length) 0).toArray:=⟨_,rfl⟩
  have hcl : (Lib.compact zs).length <= zs.length:=by
   unfold Lib.compact Lib.compactUpTo
   rw [x1u]
   have:=List.length_filter_le (Lib.keeps zs.toArray) (List.range zs.length)
   simpa using this
  have hsz : d'.size=zs.length:=by rw [hd'];simp;omega
  refine (Any.slices_Compact_int L b o cap zs w hH (by omega) hcap).mono ?_
  rintro e w' ⟨rfl,q,rfl⟩
  rw [<- hd']
  have hput : (putRow (Value.int .i64) (Sort.ahead w q) b o d').heap[b]? = some (.cells (putCells (Value.int .i64) o d' us.toArray) T (0,0)):=by
   simp only [putRow,mapBlock,Sort.ahead]
   rw [x1H,if_pos rfl,hcell]
   rfl
  refine ⟨_,rfl,(putCells (Value.int .i64) o d' us.toArray).toList,by rw [x1o];exact hput,by simp [putCells],⟨rfl,rfl,rfl,by simp [putRow,mapBlock,Sort.ahead],fun k hk hne=>?_,Nat.le_add_right _ _⟩,.inl ⟨by simp,by simp;omega,fun i r off d h1 h2=>?_⟩⟩
  ·simp only [putRow,mapBlock,Sort.ahead]
   rw [x1H,if_neg (Ne.symm hne)]
  ·obtain ⟨x,h3,rfl,rfl⟩:=vp h1 h2
   have hi : i < (Lib.compact zs).length:=(x0b.1 h3).1
   refine ⟨.int .i64 x,?_,by simp only [ac]⟩
   have hlt : o + i < us.length:=by omega
   have hy : d'[i]! = x:=by
    rw [x0T d' i (by omega)]
    have : d'[i]? = some x:=by rw [hd'];simp [x0C hi,h3]
    exact (Array.getElem?_eq_some_iff.1 this).2
   rw [Nat.mul_one,x1h,Array.getElem?_toList]
   simp only [putCells,Array.getElem?_mapIdx,x1v]
   rw [x0d hlt]
   simp only [x1a]
   rw [if_pos ⟨by omega,by omega⟩,show o + i - o=i by omega,hy]
end
end Go.Gv

namespace Go.Gv
open Go.Sort Go.Proofs Go.Shelf
section
variable {P : Program} {F : Fid} {ρ : Ren}
theorem nk (Ly : Lays.n112 P ρ) {g : Nat} (hg : ∀ f,F g=some f -> f=ρ.f 112) (zs : List Int) (hz : zs.length < 2 ^ 40) :
  eJ P F g [.own 1 (zs.map fun n=>[.int .i64 n])] .any [.own 1 (zs.reverse.map fun n=>[.int .i64 n]),.nilp]:=by
 refine ⟨trivial,fun f hf=>⟨rfl,?_⟩⟩
 obtain rfl:=hg f hf
 have k:=iT (P:=P) (F:=F) (f:=ρ.f 112) (Value.int .i64) (D.int .i64) (fun M x u h=>by simpa only [ac] using h) (fun M x=>by simp only [ac]) zs.toArray zs.reverse.toArray (by simp) []
  (fun h M w vs A hh r=>by
   simp only [av] at r
   subst r
   refine (Any.slices_Reverse_int_empty Ly A 0 w).mono ?_
   rintro e w' ⟨rfl,rfl⟩
   exact ⟨rfl,0,#[],by simp [grow,Sort.ahead]⟩)
  (fun M w vs blk off cap hh hM r hH hb=>by
   simp only [av] at r
   subst r
   refine (Any.slices_Reverse_int Ly blk off cap zs w hH (by omega)).mono ?_
   rintro e w' ⟨rfl,n,rfl⟩
   exact ⟨rfl,n,#[],by simp [grow,putRow,mapBlock,Sort.ahead]⟩)
 simpa [ip] using k
end
end Go.Gv

namespace Go.Gv
structure Tag {α : Type _} (x : α) : Type where
@[simp] theorem PM : isV (.any)=true:=zR
@[simp] theorem PS {k n} : isV (.int k n)=true:=zR
@[simp] theorem Kn {b} : isV (.bool b)=true:=zR
@[simp] theorem P1 {s} : isV (.str s)=true:=zR
@[simp] theorem Ko : isV (.nilp)=true:=zR
@[simp] theorem Kp : isV (.nils)=true:=zR
@[simp] theorem PK {ds} : isV (.agg ds)=true:=zR
@[simp] theorem P4 {ds} : isV (.tup ds)=true:=zR
@[simp] theorem Ss {es} : isV (.sl es)=true:=zR
@[simp] theorem PV {ds} : isV (.ptr ds)=true:=zR
@[simp] theorem Sq {g ds} : isV (.fn g ds)=true:=zR
@[simp] theorem PU {sz es} : isV (.own sz es)=false:=zR
@[simp] theorem PN {sz es} : isV (.blk sz es)=false:=zR
@[simp] theorem Sr {kt et ks vs} : isV (.mp kt et ks vs)=false:=zR
@[simp] theorem PT {b} : isV (.mrf b)=false:=zR
@[simp] theorem PX {p k n} : isV (.ref p k n)=false:=zR
@[simp] theorem PJ {p i off} : isV (.adr p i off)=false:=zR
@[simp] theorem PL {ds} : isV (.agx ds)=false:=zR
@[simp] theorem P2 {ds} : isV (.tpx ds)=false:=zR
@[simp] theorem PW {ds} : isV (.ptx ds)=false:=zR
@[simp] theorem PY {n sz ds} : isV (.rfx n sz ds)=false:=zR
@[simp] theorem PO {g ds} : isV (.fnx g ds)=false:=zR
@[simp] theorem PQ {T p i off} : isV (.ifa T p i off)=false:=zR
@[simp] theorem PR {T n} : isV (.ifi T n)=true:=zR
@[simp] theorem PZ {k es} : isV (.slv k es)=true:=zR
@[simp] theorem PP {g ds cs} : isV (.fny g ds cs)=false:=zR
@[simp] theorem Om : isK (.any)=false:=zR
@[simp] theorem Ov {k n} : isK (.int k n)=true:=zR
@[simp] theorem Kb {b} : isK (.bool b)=true:=zR
@[simp] theorem OE {s} : isK (.str s)=true:=zR
@[simp] theorem Kc : isK (.nilp)=true:=zR
@[simp] theorem Kd : isK (.nils)=true:=zR
@[simp] theorem Oj {ds} : isK (.agg ds)=true:=zR
@[simp] theorem OG {ds} : isK (.tup ds)=true:=zR
@[simp] theorem Sc {es} : isK (.sl es)=true:=zR
@[simp] theorem Oy {ds} : isK (.ptr ds)=true:=zR
@[simp] theorem Sa {g ds} : isK (.fn g ds)=true:=zR
@[simp] theorem Ox {sz es} : isK (.own sz es)=false:=zR
@[simp] theorem On {sz es} : isK (.blk sz es)=false:=zR
@[simp] theorem Sb {kt et ks vs} : isK (.mp kt et ks vs)=false:=zR
@[simp] theorem Ow {b} : isK (.mrf b)=false:=zR
@[simp] theorem OA {p k n} : isK (.ref p k n)=false:=zR
@[simp] theorem Oi {p i off} : isK (.adr p i off)=false:=zR
@[simp] theorem Ol {ds} : isK (.agx ds)=false:=zR
@[simp] theorem OF {ds} : isK (.tpx ds)=false:=zR
@[simp] theorem Oz {ds} : isK (.ptx ds)=false:=zR
@[simp] theorem OB {n sz ds} : isK (.rfx n sz ds)=false:=zR
@[simp] theorem Oo {g ds} : isK (.fnx g ds)=false:=zR
@[simp] theorem Ot {T p i off} : isK (.ifa T p i off)=false:=zR
@[simp] theorem Ou {T n} : isK (.ifi T n)=true:=zR
@[simp] theorem OC {k es} : isK (.slv k es)=true:=zR
@[simp] theorem Oq {g ds cs} : isK (.fny g ds cs)=false:=zR
@[simp] theorem O5 : isP (.any)=true:=zR
@[simp] theorem Pc {k n} : isP (.int k n)=true:=zR
@[simp] theorem Kh {b} : isP (.bool b)=true:=zR
@[simp] theorem Pl {s} : isP (.str s)=true:=zR
@[simp] theorem Ki : isP (.nilp)=true:=zR
@[simp] theorem Kj : isP (.nils)=true:=zR
@[simp] theorem O3 {ds} : isP (.agg ds)=true:=zR
@[simp] theorem Pn {ds} : isP (.tup ds)=true:=zR
@[simp] theorem Sk {es} : isP (.sl es)=true:=zR
@[simp] theorem Pf {ds} : isP (.ptr ds)=true:=zR
@[simp] theorem Si {g ds} : isP (.fn g ds)=true:=zR
@[simp] theorem Pe {sz es} : isP (.own sz es)=false:=zR
@[simp] theorem O6 {sz es} : isP (.blk sz es)=false:=zR
@[simp] theorem Sj {kt et ks vs} : isP (.mp kt et ks vs)=false:=zR
@[simp] theorem Pd {b} : isP (.mrf b)=true:=zR
@[simp] theorem Ph {p k n} : isP (.ref p k n)=true:=zR
@[simp] theorem O2 {p i off} : isP (.adr p i off)=true:=zR
@[simp] theorem O4 {ds} : isP (.agx ds)=false:=zR
@[simp] theorem Pm {ds} : isP (.tpx ds)=false:=zR
@[simp] theorem Pg {ds} : isP (.ptx ds)=false:=zR
@[simp] theorem Pi {n sz ds} : isP (.rfx n sz ds)=false:=zR
@[simp] theorem O7 {g ds} : isP (.fnx g ds)=false:=zR
@[simp] theorem O9 {T p i off} : isP (.ifa T p i off)=true:=zR
@[simp] theorem Pb {T n} : isP (.ifi T n)=true:=zR
@[simp] theorem Pj {k es} : isP (.slv k es)=true:=zR
@[simp] theorem O8 {g ds cs} : isP (.fny g ds cs)=false:=zR
@[simp] theorem Pr : isS (.any)=true:=zR
@[simp] theorem Sp : isV (.bb)=true:=zR
@[simp] theorem Sl : isS (.bb)=true:=zR
@[simp] theorem Sg : isP (.bb)=true:=zR
@[simp] theorem R3 : isB (.bb)=false:=zR
@[simp] theorem IW : cm (.bb)=false:=zR
@[simp] theorem Gq : bm (.bb)=[]:=zR
@[simp] theorem Cp : aD (.bb)=[]:=zR
@[simp] theorem Px {k n} : isS (.int k n)=true:=zR
@[simp] theorem Kk {b} : isS (.bool b)=true:=zR
@[simp] theorem PG {s} : isS (.str s)=true:=zR
@[simp] theorem Kl : isS (.nilp)=true:=zR
@[simp] theorem Km : isS (.nils)=true:=zR
@[simp] theorem Pp {ds} : isS (.agg ds)=true:=zR
@[simp] theorem PI {ds} : isS (.tup ds)=true:=zR
@[simp] theorem So {es} : isS (.sl es)=true:=zR
@[simp] theorem PA {ds} : isS (.ptr ds)=true:=zR
@[simp] theorem Sm {g ds} : isS (.fn g ds)=true:=zR
@[simp] theorem Pz {sz es} : isS (.own sz es)=false:=zR
@[simp] theorem Ps {sz es} : isS (.blk sz es)=false:=zR
@[simp] theorem Sn {kt et ks vs} : isS (.mp kt et ks vs)=false:=zR
@[simp] theorem Py {b} : isS (.mrf b)=true:=zR
@[simp] theorem PC {p k n} : isS (.ref p k n)=true:=zR
@[simp] theorem Po {p i off} : isS (.adr p i off)=true:=zR
@[simp] theorem Pq {ds} : isS (.agx ds)=ds.all isP:=zR
@[simp] theorem PH {ds} : isS (.tpx ds)=ds.all isP:=zR
@[simp] theorem PB {ds} : isS (.ptx ds)=ds.all isP:=zR
@[simp] theorem PD {n sz ds} : isS (.rfx n sz ds)=ds.all isP:=zR
@[simp] theorem Pt {g ds} : isS (.fnx g ds)=ds.all isP:=zR
@[simp] theorem Pv {T p i off} : isS (.ifa T p i off)=true:=zR
@[simp] theorem Pw {T n} : isS (.ifi T n)=true:=zR
@[simp] theorem PE {k es} : isS (.slv k es)=true:=zR
@[simp] theorem Pu {g ds cs} : isS (.fny g ds cs)=(ds.all isP && cs.all isP):=zR
@[simp] theorem Jc : aC (.any)=false:=zR
@[simp] theorem Ji {k n} : aC (.int k n)=true:=zR
@[simp] theorem FC {b} : aC (.bool b)=true:=zR
@[simp] theorem Jr {s} : aC (.str s)=true:=zR
@[simp] theorem FD : aC (.nilp)=true:=zR
@[simp] theorem FE : aC (.nils)=true:=zR
@[simp] theorem Ja {ds} : aC (.agg ds)=false:=zR
@[simp] theorem Jt {ds} : aC (.tup ds)=false:=zR
@[simp] theorem NQ {es} : aC (.sl es)=true:=zR
@[simp] theorem Jl {ds} : aC (.ptr ds)=true:=zR
@[simp] theorem NO {g ds} : aC (.fn g ds)=true:=zR
@[simp] theorem Jk {sz es} : aC (.own sz es)=false:=zR
@[simp] theorem Jd {sz es} : aC (.blk sz es)=false:=zR
@[simp] theorem NP {kt et ks vs} : aC (.mp kt et ks vs)=false:=zR
@[simp] theorem Jj {b} : aC (.mrf b)=false:=zR
@[simp] theorem Jn {p k n} : aC (.ref p k n)=false:=zR
@[simp] theorem I9 {p i off} : aC (.adr p i off)=false:=zR
@[simp] theorem Jb {ds} : aC (.agx ds)=false:=zR
@[simp] theorem Js {ds} : aC (.tpx ds)=false:=zR
@[simp] theorem Jm {ds} : aC (.ptx ds)=false:=zR
@[simp] theorem Jo {n sz ds} : aC (.rfx n sz ds)=false:=zR
@[simp] theorem Je {g ds} : aC (.fnx g ds)=false:=zR
@[simp] theorem Jg {T p i off} : aC (.ifa T p i off)=false:=zR
@[simp] theorem Jh {T n} : aC (.ifi T n)=false:=zR
@[simp] theorem Jp {k es} : aC (.slv k es)=false:=zR
@[simp] theorem Jf {g ds cs} : aC (.fny g ds cs)=false:=zR
@[simp] theorem OK : isO (.any)=false:=zR
@[simp] theorem OQ {k n} : isO (.int k n)=false:=zR
@[simp] theorem Ke {b} : isO (.bool b)=false:=zR
@[simp] theorem OZ {s} : isO (.str s)=false:=zR
@[simp] theorem Kf : isO (.nilp)=false:=zR
@[simp] theorem Kg : isO (.nils)=false:=zR
@[simp] theorem OI {ds} : isO (.agg ds)=false:=zR
@[simp] theorem O1 {ds} : isO (.tup ds)=false:=zR
@[simp] theorem Sf {es} : isO (.sl es)=false:=zR
@[simp] theorem OT {ds} : isO (.ptr ds)=false:=zR
@[simp] theorem Sd {g ds} : isO (.fn g ds)=false:=zR
@[simp] theorem OS {sz es} : isO (.own sz es)=true:=zR
@[simp] theorem OL {sz es} : isO (.blk sz es)=false:=zR
@[simp] theorem Se {kt et ks vs} : isO (.mp kt et ks vs)=false:=zR
@[simp] theorem OR {b} : isO (.mrf b)=false:=zR
@[simp] theorem OV {p k n} : isO (.ref p k n)=false:=zR
@[simp] theorem OH {p i off} : isO (.adr p i off)=false:=zR
@[simp] theorem OJ {ds} : isO (.agx ds)=false:=zR
@[simp] theorem O0 {ds} : isO (.tpx ds)=false:=zR
@[simp] theorem OU {ds} : isO (.ptx ds)=false:=zR
@[simp] theorem OW {n sz ds} : isO (.rfx n sz ds)=false:=zR
@[simp] theorem OM {g ds} : isO (.fnx g ds)=false:=zR
@[simp] theorem OO {T p i off} : isO (.ifa T p i off)=false:=zR
@[simp] theorem OP {T n} : isO (.ifi T n)=false:=zR
@[simp] theorem OX {k es} : isO (.slv k es)=false:=zR
@[simp] theorem ON {g ds cs} : isO (.fny g ds cs)=false:=zR
@[simp] theorem Jx : aV (.any)=true:=zR
@[simp] theorem JD {k n} : aV (.int k n)=true:=zR
@[simp] theorem FG {b} : aV (.bool b)=true:=zR
@[simp] theorem JL {s} : aV (.str s)=true:=zR
@[simp] theorem FH : aV (.nilp)=true:=zR
@[simp] theorem FI : aV (.nils)=true:=zR
@[simp] theorem Jv {ds} : aV (.agg ds)=false:=zR
@[simp] theorem JN {ds} : aV (.tup ds)=false:=zR
@[simp] theorem NT {es} : aV (.sl es)=false:=zR
@[simp] theorem JG {ds} : aV (.ptr ds)=false:=zR
@[simp] theorem NR {g ds} : aV (.fn g ds)=false:=zR
@[simp] theorem JF {sz es} : aV (.own sz es)=false:=zR
@[simp] theorem Jy {sz es} : aV (.blk sz es)=false:=zR
@[simp] theorem NS {kt et ks vs} : aV (.mp kt et ks vs)=false:=zR
@[simp] theorem JE {b} : aV (.mrf b)=false:=zR
@[simp] theorem JI {p k n} : aV (.ref p k n)=false:=zR
@[simp] theorem Ju {p i off} : aV (.adr p i off)=false:=zR
@[simp] theorem Jw {ds} : aV (.agx ds)=false:=zR
@[simp] theorem JM {ds} : aV (.tpx ds)=false:=zR
@[simp] theorem JH {ds} : aV (.ptx ds)=false:=zR
@[simp] theorem JJ {n sz ds} : aV (.rfx n sz ds)=false:=zR
@[simp] theorem Jz {g ds} : aV (.fnx g ds)=false:=zR
@[simp] theorem JB {T p i off} : aV (.ifa T p i off)=false:=zR
@[simp] theorem JC {T n} : aV (.ifi T n)=true:=zR
@[simp] theorem JK {k es} : aV (.slv k es)=false:=zR
@[simp] theorem JA {g ds cs} : aV (.fny g ds cs)=false:=zR
@[simp] theorem JR : dc (.any)=true:=zR
@[simp] theorem JX {k n} : dc (.int k n)=true:=zR
@[simp] theorem FJ {b} : dc (.bool b)=true:=zR
@[simp] theorem J5 {s} : dc (.str s)=true:=zR
@[simp] theorem FK : dc (.nilp)=true:=zR
@[simp] theorem FL : dc (.nils)=true:=zR
@[simp] theorem JP {ds} : dc (.agg ds)=ds.all aV:=zR
@[simp] theorem J7 {ds} : dc (.tup ds)=false:=zR
@[simp] theorem NW {es} : dc (.sl es)=false:=zR
@[simp] theorem J0 {ds} : dc (.ptr ds)=false:=zR
@[simp] theorem NU {g ds} : dc (.fn g ds)=false:=zR
@[simp] theorem JZ {sz es} : dc (.own sz es)=false:=zR
@[simp] theorem JS {sz es} : dc (.blk sz es)=false:=zR
@[simp] theorem NV {kt et ks vs} : dc (.mp kt et ks vs)=false:=zR
@[simp] theorem JY {b} : dc (.mrf b)=false:=zR
@[simp] theorem J2 {p k n} : dc (.ref p k n)=false:=zR
@[simp] theorem JO {p i off} : dc (.adr p i off)=false:=zR
@[simp] theorem JQ {ds} : dc (.agx ds)=false:=zR
@[simp] theorem J6 {ds} : dc (.tpx ds)=false:=zR
@[simp] theorem J1 {ds} : dc (.ptx ds)=false:=zR
@[simp] theorem J3 {n sz ds} : dc (.rfx n sz ds)=false:=zR
@[simp] theorem JT {g ds} : dc (.fnx g ds)=false:=zR
@[simp] theorem JV {T p i off} : dc (.ifa T p i off)=false:=zR
@[simp] theorem JW {T n} : dc (.ifi T n)=true:=zR
@[simp] theorem J4 {k es} : dc (.slv k es)=false:=zR
@[simp] theorem JU {g ds cs} : dc (.fny g ds cs)=false:=zR
@[simp] theorem N0 : isF (.any)=true:=zR
@[simp] theorem N6 {k n} : isF (.int k n)=true:=zR
@[simp] theorem J8 {b} : isF (.bool b)=true:=zR
@[simp] theorem Oe {s} : isF (.str s)=true:=zR
@[simp] theorem J9 : isF (.nilp)=true:=zR
@[simp] theorem Ka : isF (.nils)=true:=zR
@[simp] theorem NY {ds} : isF (.agg ds)=ds.all aV:=zR
@[simp] theorem Oh {ds} : isF (.tup ds)=ds.all dc:=zR
@[simp] theorem R9 {es} : isF (.sl es)=false:=zR
@[simp] theorem N9 {ds} : isF (.ptr ds)=false:=zR
@[simp] theorem R7 {g ds} : isF (.fn g ds)=false:=zR
@[simp] theorem N8 {sz es} : isF (.own sz es)=false:=zR
@[simp] theorem N1 {sz es} : isF (.blk sz es)=false:=zR
@[simp] theorem R8 {kt et ks vs} : isF (.mp kt et ks vs)=false:=zR
@[simp] theorem N7 {b} : isF (.mrf b)=false:=zR
@[simp] theorem Ob {p k n} : isF (.ref p k n)=false:=zR
@[simp] theorem NX {p i off} : isF (.adr p i off)=false:=zR
@[simp] theorem NZ {ds} : isF (.agx ds)=false:=zR
@[simp] theorem Og {ds} : isF (.tpx ds)=false:=zR
@[simp] theorem Oa {ds} : isF (.ptx ds)=false:=zR
@[simp] theorem Oc {n sz ds} : isF (.rfx n sz ds)=false:=zR
@[simp] theorem N2 {g ds} : isF (.fnx g ds)=false:=zR
@[simp] theorem N4 {T p i off} : isF (.ifa T p i off)=false:=zR
@[simp] theorem N5 {T n} : isF (.ifi T n)=true:=zR
@[simp] theorem Od {k es} : isF (.slv k es)=false:=zR
@[simp] theorem N3 {g ds cs} : isF (.fny g ds cs)=false:=zR
@[simp] theorem Nw : isB (.any)=false:=zR
@[simp] theorem NC {k n} : isB (.int k n)=false:=zR
@[simp] theorem I0 {b} : isB (.bool b)=false:=zR
@[simp] theorem NL {s} : isB (.str s)=false:=zR
@[simp] theorem I7 : isB (.nilp)=false:=zR
@[simp] theorem I8 : isB (.nils)=false:=zR
@[simp] theorem Nu {ds} : isB (.agg ds)=false:=zR
@[simp] theorem NN {ds} : isB (.tup ds)=false:=zR
@[simp] theorem R6 {es} : isB (.sl es)=false:=zR
@[simp] theorem NF {ds} : isB (.ptr ds)=false:=zR
@[simp] theorem R4 {g ds} : isB (.fn g ds)=false:=zR
@[simp] theorem NE {sz es} : isB (.own sz es)=false:=zR
@[simp] theorem Nx {sz es} : isB (.blk sz es)=true:=zR
@[simp] theorem R5 {kt et ks vs} : isB (.mp kt et ks vs)=true:=zR
@[simp] theorem ND {b} : isB (.mrf b)=false:=zR
@[simp] theorem NH {p k n} : isB (.ref p k n)=false:=zR
@[simp] theorem Nt {p i off} : isB (.adr p i off)=false:=zR
@[simp] theorem Nv {ds} : isB (.agx ds)=false:=zR
@[simp] theorem NM {ds} : isB (.tpx ds)=false:=zR
@[simp] theorem NG {ds} : isB (.ptx ds)=false:=zR
@[simp] theorem NI {n sz ds} : isB (.rfx n sz ds)=false:=zR
@[simp] theorem Ny {g ds} : isB (.fnx g ds)=false:=zR
@[simp] theorem NA {T p i off} : isB (.ifa T p i off)=false:=zR
@[simp] theorem NB {T n} : isB (.ifi T n)=false:=zR
@[simp] theorem NJ {k es} : isB (.slv k es)=false:=zR
@[simp] theorem Nz {g ds cs} : isB (.fny g ds cs)=false:=zR
@[simp] theorem Fi : cm (.any)=true:=zR
@[simp] theorem Fq {k n} : cm (.int k n)=false:=zR
@[simp] theorem BZ {b} : cm (.bool b)=false:=zR
@[simp] theorem Fz {s} : cm (.str s)=false:=zR
@[simp] theorem B1 : cm (.nilp)=false:=zR
@[simp] theorem B4 : cm (.nils)=false:=zR
@[simp] theorem Fg {ds} : cm (.agg ds)=false:=zR
@[simp] theorem FB {ds} : cm (.tup ds)=false:=zR
@[simp] theorem IZ {es} : cm (.sl es)=false:=zR
@[simp] theorem Ft {ds} : cm (.ptr ds)=false:=zR
@[simp] theorem IX {g ds} : cm (.fn g ds)=false:=zR
@[simp] theorem Fs {sz es} : cm (.own sz es)=false:=zR
@[simp] theorem Fj {sz es} : cm (.blk sz es)=false:=zR
@[simp] theorem IY {kt et ks vs} : cm (.mp kt et ks vs)=false:=zR
@[simp] theorem Fr {b} : cm (.mrf b)=false:=zR
@[simp] theorem Fv {p k n} : cm (.ref p k n)=false:=zR
@[simp] theorem Ff {p i off} : cm (.adr p i off)=false:=zR
@[simp] theorem Fh {ds} : cm (.agx ds)=false:=zR
@[simp] theorem FA {ds} : cm (.tpx ds)=false:=zR
@[simp] theorem Fu {ds} : cm (.ptx ds)=false:=zR
@[simp] theorem Fw {n sz ds} : cm (.rfx n sz ds)=false:=zR
@[simp] theorem Fk {g ds} : cm (.fnx g ds)=false:=zR
@[simp] theorem Fn {T p i off} : cm (.ifa T p i off)=false:=zR
@[simp] theorem Fp {T n} : cm (.ifi T n)=false:=zR
@[simp] theorem Fx {k es} : cm (.slv k es)=false:=zR
@[simp] theorem Fm {g ds cs} : cm (.fny g ds cs)=false:=zR
@[simp] theorem zS : cellsOf (.any)=[.any]:=zR
@[simp] theorem zY {k n} : cellsOf (.int k n)=[.int k n]:=zR
@[simp] theorem xu {b} : cellsOf (.bool b)=[.bool b]:=zR
@[simp] theorem Ae {s} : cellsOf (.str s)=[.str s]:=zR
@[simp] theorem xw : cellsOf (.nilp)=[.nilp]:=zR
@[simp] theorem xx : cellsOf (.nils)=[.nils]:=zR
@[simp] theorem zO {ds} : cellsOf (.agg ds)=ds:=zR
@[simp] theorem Ag {ds} : cellsOf (.tup ds)=[.tup ds]:=zR
@[simp] theorem Bw {es} : cellsOf (.sl es)=[.sl es]:=zR
@[simp] theorem z7 {ds} : cellsOf (.ptr ds)=[.ptr ds]:=zR
@[simp] theorem Bu {g ds} : cellsOf (.fn g ds)=[.fn g ds]:=zR
@[simp] theorem z6 {sz es} : cellsOf (.own sz es)=[.own sz es]:=zR
@[simp] theorem zT {sz es} : cellsOf (.blk sz es)=[.blk sz es]:=zR
@[simp] theorem Bv {kt et ks vs} : cellsOf (.mp kt et ks vs)=[.mp kt et ks vs]:=zR
@[simp] theorem zZ {b} : cellsOf (.mrf b)=[.mrf b]:=zR
@[simp] theorem Aa {p k n} : cellsOf (.ref p k n)=[.ref p k n]:=zR
@[simp] theorem zN {p i off} : cellsOf (.adr p i off)=[.adr p i off]:=zR
@[simp] theorem zQ {ds} : cellsOf (.agx ds)=[.agx ds]:=zR
@[simp] theorem Af {ds} : cellsOf (.tpx ds)=[.tpx ds]:=zR
@[simp] theorem z8 {ds} : cellsOf (.ptx ds)=[.ptx ds]:=zR
@[simp] theorem Ab {n sz ds} : cellsOf (.rfx n sz ds)=[.rfx n sz ds]:=zR
@[simp] theorem zU {g ds} : cellsOf (.fnx g ds)=[.fnx g ds]:=zR
@[simp] theorem zW {T p i off} : cellsOf (.ifa T p i off)=[.ifa T p i off]:=zR
@[simp] theorem zX {T n} : cellsOf (.ifi T n)=[.ifi T n]:=zR
@[simp] theorem Ac {k es} : cellsOf (.slv k es)=[.slv k es]:=zR
@[simp] theorem zV {g ds cs} : cellsOf (.fny g ds cs)=[.fny g ds cs]:=zR
@[simp] theorem DO : bN (.any)=.any:=zR
@[simp] theorem DU {k n} : bN (.int k n)=.int k n:=zR
@[simp] theorem Bo {b} : bN (.bool b)=.bool b:=zR
@[simp] theorem D3 {s} : bN (.str s)=.str s:=zR
@[simp] theorem Bp : bN (.nilp)=.nilp:=zR
@[simp] theorem Bq : bN (.nils)=.nils:=zR
@[simp] theorem DM {ds} : bN (.agg ds)=.agg ds:=zR
@[simp] theorem D5 {ds} : bN (.tup ds)=.tup ds:=zR
@[simp] theorem Hd {es} : bN (.sl es)=.sl es:=zR
@[simp] theorem DX {ds} : bN (.ptr ds)=.ptr ds:=zR
@[simp] theorem Hb {g ds} : bN (.fn g ds)=.fn g ds:=zR
@[simp] theorem DW {sz es} : bN (.own sz es)=.own sz es:=zR
@[simp] theorem DP {sz es} : bN (.blk sz es)=.blk sz es:=zR
@[simp] theorem Hc {kt et ks vs} : bN (.mp kt et ks vs)=.mp kt et ks vs:=zR
@[simp] theorem DV {b} : bN (.mrf b)=.mrf b:=zR
@[simp] theorem DZ {p k n} : bN (.ref p k n)=.ref p k n:=zR
@[simp] theorem DL {p i off} : bN (.adr p i off)=.adr p i off:=zR
@[simp] theorem DN {ds} : bN (.agx ds)=.agg ds:=zR
@[simp] theorem D4 {ds} : bN (.tpx ds)=.tpx ds:=zR
@[simp] theorem DY {ds} : bN (.ptx ds)=.ptx ds:=zR
@[simp] theorem D0 {n sz ds} : bN (.rfx n sz ds)=.rfx n sz ds:=zR
@[simp] theorem DQ {g ds} : bN (.fnx g ds)=.fnx g ds:=zR
@[simp] theorem DS {T p i off} : bN (.ifa T p i off)=.ifa T p i off:=zR
@[simp] theorem DT {T n} : bN (.ifi T n)=.ifi T n:=zR
@[simp] theorem D1 {k es} : bN (.slv k es)=.slv k es:=zR
@[simp] theorem DR {g ds cs} : bN (.fny g ds cs)=.fny g ds cs:=zR
@[simp] theorem Ek : aW (.any)=.any:=zR
@[simp] theorem Er {k n} : aW (.int k n)=.int k n:=zR
@[simp] theorem Br {b} : aW (.bool b)=.bool b:=zR
@[simp] theorem EA {s} : aW (.str s)=.str s:=zR
@[simp] theorem Bs : aW (.nilp)=.nilp:=zR
@[simp] theorem Bt : aW (.nils)=.nils:=zR
@[simp] theorem Ei {ds} : aW (.agg ds)=.agg ds:=zR
@[simp] theorem EC {ds} : aW (.tup ds)=.tup ds:=zR
@[simp] theorem HC {es} : aW (.sl es)=.sl es:=zR
@[simp] theorem Eu {ds} : aW (.ptr ds)=.ptr ds:=zR
@[simp] theorem HA {g ds} : aW (.fn g ds)=.fn g ds:=zR
@[simp] theorem Et {sz es} : aW (.own sz es)=.sl es:=zR
@[simp] theorem El {sz es} : aW (.blk sz es)=.blk sz es:=zR
@[simp] theorem HB {kt et ks vs} : aW (.mp kt et ks vs)=.mp kt et ks vs:=zR
@[simp] theorem Es {b} : aW (.mrf b)=.mrf b:=zR
@[simp] theorem Ew {p k n} : aW (.ref p k n)=.ref p k n:=zR
@[simp] theorem Eh {p i off} : aW (.adr p i off)=.adr p i off:=zR
@[simp] theorem Ej {ds} : aW (.agx ds)=.agx ds:=zR
@[simp] theorem EB {ds} : aW (.tpx ds)=.tpx ds:=zR
@[simp] theorem Ev {ds} : aW (.ptx ds)=.ptx ds:=zR
@[simp] theorem Ex {n sz ds} : aW (.rfx n sz ds)=.rfx n sz ds:=zR
@[simp] theorem Em {g ds} : aW (.fnx g ds)=.fnx g ds:=zR
@[simp] theorem Eo {T p i off} : aW (.ifa T p i off)=.ifa T p i off:=zR
@[simp] theorem Ep {T n} : aW (.ifi T n)=.ifi T n:=zR
@[simp] theorem Ey {k es} : aW (.slv k es)=.slv k es:=zR
@[simp] theorem En {g ds cs} : aW (.fny g ds cs)=.fny g ds cs:=zR
@[simp] theorem AA : aD (.any)=[]:=zR
@[simp] theorem AH {k n} : aD (.int k n)=[]:=zR
@[simp] theorem yf {b} : aD (.bool b)=[]:=zR
@[simp] theorem AQ {s} : aD (.str s)=[]:=zR
@[simp] theorem yg : aD (.nilp)=[]:=zR
@[simp] theorem yh : aD (.nils)=[]:=zR
@[simp] theorem Ay {ds} : aD (.agg ds)=[]:=zR
@[simp] theorem AS {ds} : aD (.tup ds)=[]:=zR
@[simp] theorem Cs {es} : aD (.sl es)=[]:=zR
@[simp] theorem AK {ds} : aD (.ptr ds)=[]:=zR
@[simp] theorem Cq {g ds} : aD (.fn g ds)=[]:=zR
@[simp] theorem AJ {sz es} : aD (.own sz es)=[]:=zR
@[simp] theorem AB {sz es} : aD (.blk sz es)=[]:=zR
@[simp] theorem Cr {kt et ks vs} : aD (.mp kt et ks vs)=[]:=zR
@[simp] theorem AI {b} : aD (.mrf b)=[b]:=zR
@[simp] theorem AM {p k n} : aD (.ref p k n)=[p.root]:=zR
@[simp] theorem Ax {p i off} : aD (.adr p i off)=[p.root]:=zR
@[simp] theorem Az {ds} : aD (.agx ds)=[]:=zR
@[simp] theorem AR {ds} : aD (.tpx ds)=[]:=zR
@[simp] theorem AL {ds} : aD (.ptx ds)=[]:=zR
@[simp] theorem AN {n sz ds} : aD (.rfx n sz ds)=[]:=zR
@[simp] theorem AC {g ds} : aD (.fnx g ds)=[]:=zR
@[simp] theorem AE {T p i off} : aD (.ifa T p i off)=[p.root]:=zR
@[simp] theorem AF {T n} : aD (.ifi T n)=[]:=zR
@[simp] theorem AO {k es} : aD (.slv k es)=[]:=zR
@[simp] theorem AD {g ds cs} : aD (.fny g ds cs)=[]:=zR
@[simp] theorem Cw : bm (.any)=[]:=zR
@[simp] theorem CD {k n} : bm (.int k n)=[]:=zR
@[simp] theorem AU {b} : bm (.bool b)=[]:=zR
@[simp] theorem CM {s} : bm (.str s)=[]:=zR
@[simp] theorem AV : bm (.nilp)=[]:=zR
@[simp] theorem AW : bm (.nils)=[]:=zR
@[simp] theorem Cu {ds} : bm (.agg ds)=[]:=zR
@[simp] theorem CO {ds} : bm (.tup ds)=[]:=zR
@[simp] theorem Gt {es} : bm (.sl es)=[]:=zR
@[simp] theorem CG {ds} : bm (.ptr ds)=[]:=zR
@[simp] theorem Gr {g ds} : bm (.fn g ds)=[]:=zR
@[simp] theorem CF {sz es} : bm (.own sz es)=[]:=zR
@[simp] theorem Cx {sz es} : bm (.blk sz es)=[]:=zR
@[simp] theorem Gs {kt et ks vs} : bm (.mp kt et ks vs)=[]:=zR
@[simp] theorem CE {b} : bm (.mrf b)=[b]:=zR
@[simp] theorem CI {p k n} : bm (.ref p k n)=[p.root]:=zR
@[simp] theorem Ct {p i off} : bm (.adr p i off)=[p.root]:=zR
@[simp] theorem Cv {ds} : bm (.agx ds)=ds.flatMap aD:=zR
@[simp] theorem CN {ds} : bm (.tpx ds)=ds.flatMap aD:=zR
@[simp] theorem CH {ds} : bm (.ptx ds)=ds.flatMap aD:=zR
@[simp] theorem CJ {n sz ds} : bm (.rfx n sz ds)=ds.flatMap aD:=zR
@[simp] theorem Cy {g ds} : bm (.fnx g ds)=ds.flatMap aD:=zR
@[simp] theorem CA {T p i off} : bm (.ifa T p i off)=[p.root]:=zR
@[simp] theorem CB {T n} : bm (.ifi T n)=[]:=zR
@[simp] theorem CK {k es} : bm (.slv k es)=[]:=zR
@[simp] theorem Cz {g ds cs} : bm (.fny g ds cs)=(ds.flatMap aD++cs.flatMap aD):=zR
@[simp] theorem MN {f : Nat -> D} : dp1 f (.any)=(.any):=zR
@[simp] theorem MT {f : Nat -> D} {k n} : dp1 f (.int k n)=(.int k n):=zR
@[simp] theorem HM {f : Nat -> D} {b} : dp1 f (.bool b)=(.bool b):=zR
@[simp] theorem M7 {f : Nat -> D} {s} : dp1 f (.str s)=(.str s):=zR
@[simp] theorem HN {f : Nat -> D} : dp1 f (.nilp)=(.nilp):=zR
@[simp] theorem HO {f : Nat -> D} : dp1 f (.nils)=(.nils):=zR
@[simp] theorem ML {f : Nat -> D} {ds} : dp1 f (.agg ds)=(.agg ds):=zR
@[simp] theorem M9 {f : Nat -> D} {ds} : dp1 f (.tup ds)=(.tup ds):=zR
@[simp] theorem Ry {f : Nat -> D} {es} : dp1 f (.sl es)=(.sl es):=zR
@[simp] theorem MW {f : Nat -> D} {ds} : dp1 f (.ptr ds)=(.ptr ds):=zR
@[simp] theorem Rw {f : Nat -> D} {g ds} : dp1 f (.fn g ds)=(.fn g ds):=zR
@[simp] theorem MV {f : Nat -> D} {sz es} : dp1 f (.own sz es)=(.own sz es):=zR
@[simp] theorem MO {f : Nat -> D} {sz es} : dp1 f (.blk sz es)=(.blk sz es):=zR
@[simp] theorem Rx {f : Nat -> D} {kt et ks vs} : dp1 f (.mp kt et ks vs)=(.mp kt et ks vs):=zR
@[simp] theorem MU {f : Nat -> D} {b} : dp1 f (.mrf b)=(.mrf b):=zR
@[simp] theorem MY {f : Nat -> D} {p k n} : dp1 f (.ref p k n)=(match bk f p with | some (_,es)=>.sl (((es.drop k).take n).map fun e=>e.map aW) | none=>.any):=zR
@[simp] theorem MK {f : Nat -> D} {p i off} : dp1 f (.adr p i off)=(match bk f p with | some (_,es)=>.ptr (((es[i]?.getD []).drop off).map aW) | none=>.any):=zR
@[simp] theorem MM {f : Nat -> D} {ds} : dp1 f (.agx ds)=(.agx ds):=zR
@[simp] theorem M8 {f : Nat -> D} {ds} : dp1 f (.tpx ds)=(.tpx ds):=zR
@[simp] theorem MX {f : Nat -> D} {ds} : dp1 f (.ptx ds)=(.ptx ds):=zR
@[simp] theorem MZ {f : Nat -> D} {n sz ds} : dp1 f (.rfx n sz ds)=(.rfx n sz ds):=zR
@[simp] theorem MP {f : Nat -> D} {g ds} : dp1 f (.fnx g ds)=(.fnx g ds):=zR
@[simp] theorem MR {f : Nat -> D} {T p i off} : dp1 f (.ifa T p i off)=(.ifa T p i off):=zR
@[simp] theorem MS {f : Nat -> D} {T n} : dp1 f (.ifi T n)=(.ifi T n):=zR
@[simp] theorem M5 {f : Nat -> D} {k es} : dp1 f (.slv k es)=(.slv k es):=zR
@[simp] theorem MQ {f : Nat -> D} {g ds cs} : dp1 f (.fny g ds cs)=(.fny g ds cs):=zR
@[simp] theorem RC {f : Nat -> D} : dp f (.any)=(.any):=zR
@[simp] theorem RJ {f : Nat -> D} {k n} : dp f (.int k n)=(.int k n):=zR
@[simp] theorem Nd {f : Nat -> D} {b} : dp f (.bool b)=(.bool b):=zR
@[simp] theorem RT {f : Nat -> D} {s} : dp f (.str s)=(.str s):=zR
@[simp] theorem Nf {f : Nat -> D} : dp f (.nilp)=(.nilp):=zR
@[simp] theorem Ng {f : Nat -> D} : dp f (.nils)=(.nils):=zR
@[simp] theorem RA {f : Nat -> D} {ds} : dp f (.agg ds)=(.agg ds):=zR
@[simp] theorem RV {f : Nat -> D} {ds} : dp f (.tup ds)=(.tup ds):=zR
@[simp] theorem SY {f : Nat -> D} {es} : dp f (.sl es)=(.sl es):=zR
@[simp] theorem RN {f : Nat -> D} {ds} : dp f (.ptr ds)=(.ptr ds):=zR
@[simp] theorem SW {f : Nat -> D} {g ds} : dp f (.fn g ds)=(.fn g ds):=zR
@[simp] theorem RM {f : Nat -> D} {sz es} : dp f (.own sz es)=(.own sz es):=zR
@[simp] theorem RD {f : Nat -> D} {sz es} : dp f (.blk sz es)=(.blk sz es):=zR
@[simp] theorem SX {f : Nat -> D} {kt et ks vs} : dp f (.mp kt et ks vs)=(.mp kt et ks vs):=zR
@[simp] theorem RK {f : Nat -> D} {b} : dp f (.mrf b)=(.mrf b):=zR
@[simp] theorem RP {f : Nat -> D} {p k n} : dp f (.ref p k n)=(match bk f p with | some (_,es)=>.sl (((es.drop k).take n).map fun e=>e.map aW) | none=>.any):=zR
@[simp] theorem Rz {f : Nat -> D} {p i off} : dp f (.adr p i off)=(match bk f p with | some (_,es)=>.ptr (((es[i]?.getD []).drop off).map aW) | none=>.any):=zR
@[simp] theorem RB {f : Nat -> D} {ds} : dp f (.agx ds)=(.agg (ds.map (dp1 f))):=zR
@[simp] theorem RU {f : Nat -> D} {ds} : dp f (.tpx ds)=(.tup (ds.map (dp1 f))):=zR
@[simp] theorem RO {f : Nat -> D} {ds} : dp f (.ptx ds)=(.ptr (ds.map (dp1 f))):=zR
@[simp] theorem RQ {f : Nat -> D} {n sz ds} : dp f (.rfx n sz ds)=.rfx n sz ds:=zR
@[simp] theorem RE {f : Nat -> D} {g ds} : dp f (.fnx g ds)=(.fn g (ds.map (dp1 f))):=zR
@[simp] theorem RH {f : Nat -> D} {T p i off} : dp f (.ifa T p i off)=(.ifa T p i off):=zR
@[simp] theorem RI {f : Nat -> D} {T n} : dp f (.ifi T n)=(.ifi T n):=zR
@[simp] theorem RR {f : Nat -> D} {k es} : dp f (.slv k es)=(.slv k es):=zR
@[simp] theorem RG {f : Nat -> D} {g ds cs} : dp f (.fny g ds cs)=(.fny g ds cs):=zR
@[simp] theorem EH {f : Nat -> D} : aO f (.any)=(True):=zR
@[simp] theorem EN {f : Nat -> D} {k n} : aO f (.int k n)=(True):=zR
@[simp] theorem BE {f : Nat -> D} {b} : aO f (.bool b)=(True):=zR
@[simp] theorem EW {f : Nat -> D} {s} : aO f (.str s)=(True):=zR
@[simp] theorem BF {f : Nat -> D} : aO f (.nilp)=(True):=zR
@[simp] theorem BG {f : Nat -> D} : aO f (.nils)=(True):=zR
@[simp] theorem EF {f : Nat -> D} {ds} : aO f (.agg ds)=(True):=zR
@[simp] theorem EY {f : Nat -> D} {ds} : aO f (.tup ds)=(True):=zR
@[simp] theorem HR {f : Nat -> D} {es} : aO f (.sl es)=(True):=zR
@[simp] theorem EQ {f : Nat -> D} {ds} : aO f (.ptr ds)=(True):=zR
@[simp] theorem HP {f : Nat -> D} {g ds} : aO f (.fn g ds)=(True):=zR
@[simp] theorem EP {f : Nat -> D} {sz es} : aO f (.own sz es)=(True):=zR
@[simp] theorem EI {f : Nat -> D} {sz es} : aO f (.blk sz es)=(True):=zR
@[simp] theorem HQ {f : Nat -> D} {kt et ks vs} : aO f (.mp kt et ks vs)=(True):=zR
@[simp] theorem EO {f : Nat -> D} {b} : aO f (.mrf b)=(False):=zR
@[simp] theorem ES {f : Nat -> D} {p k n} : aO f (.ref p k n)=(match bk f p with | some (_,es)=>k + n <= es.length | none=>False):=zR
@[simp] theorem EE {f : Nat -> D} {p i off} : aO f (.adr p i off)=(match bk f p with | some _=>True | none=>False):=zR
@[simp] theorem EG {f : Nat -> D} {ds} : aO f (.agx ds)=(True):=zR
@[simp] theorem EX {f : Nat -> D} {ds} : aO f (.tpx ds)=(True):=zR
@[simp] theorem ER {f : Nat -> D} {ds} : aO f (.ptx ds)=(True):=zR
@[simp] theorem ET {f : Nat -> D} {n sz ds} : aO f (.rfx n sz ds)=(True):=zR
@[simp] theorem EJ {f : Nat -> D} {g ds} : aO f (.fnx g ds)=(True):=zR
@[simp] theorem EL {f : Nat -> D} {T p i off} : aO f (.ifa T p i off)=False:=zR
@[simp] theorem EM {f : Nat -> D} {T n} : aO f (.ifi T n)=True:=zR
@[simp] theorem EU {f : Nat -> D} {k es} : aO f (.slv k es)=True:=zR
@[simp] theorem EK {f : Nat -> D} {g ds cs} : aO f (.fny g ds cs)=True:=zR
@[simp] theorem HV {f : Nat -> D} : bC f (.any)=(True):=zR
@[simp] theorem Ia {f : Nat -> D} {k n} : bC f (.int k n)=(True):=zR
@[simp] theorem EZ {f : Nat -> D} {b} : bC f (.bool b)=(True):=zR
@[simp] theorem Ij {f : Nat -> D} {s} : bC f (.str s)=(True):=zR
@[simp] theorem E0 {f : Nat -> D} : bC f (.nilp)=(True):=zR
@[simp] theorem E1 {f : Nat -> D} : bC f (.nils)=(True):=zR
@[simp] theorem HT {f : Nat -> D} {ds} : bC f (.agg ds)=(True):=zR
@[simp] theorem Il {f : Nat -> D} {ds} : bC f (.tup ds)=(True):=zR
@[simp] theorem Nc {f : Nat -> D} {es} : bC f (.sl es)=(True):=zR
@[simp] theorem Id {f : Nat -> D} {ds} : bC f (.ptr ds)=(True):=zR
@[simp] theorem Na {f : Nat -> D} {g ds} : bC f (.fn g ds)=(True):=zR
@[simp] theorem Ic {f : Nat -> D} {sz es} : bC f (.own sz es)=(True):=zR
@[simp] theorem HW {f : Nat -> D} {sz es} : bC f (.blk sz es)=(True):=zR
@[simp] theorem Nb {f : Nat -> D} {kt et ks vs} : bC f (.mp kt et ks vs)=(True):=zR
@[simp] theorem Ib {f : Nat -> D} {b} : bC f (.mrf b)=(False):=zR
@[simp] theorem If {f : Nat -> D} {p k n} : bC f (.ref p k n)=(match bk f p with | some (_,es)=>k + n <= es.length | none=>False):=zR
@[simp] theorem HS {f : Nat -> D} {p i off} : bC f (.adr p i off)=(match bk f p with | some _=>True | none=>False):=zR
@[simp] theorem HU {f : Nat -> D} {ds} : bC f (.agx ds)=(∀ d ∈ ds,aO f d):=zR
@[simp] theorem Ik {f : Nat -> D} {ds} : bC f (.tpx ds)=(∀ d ∈ ds,aO f d):=zR
@[simp] theorem Ie {f : Nat -> D} {ds} : bC f (.ptx ds)=(∀ d ∈ ds,aO f d):=zR
@[simp] theorem Ig {f : Nat -> D} {n sz ds} : bC f (.rfx n sz ds)=False:=zR
@[simp] theorem HX {f : Nat -> D} {g ds} : bC f (.fnx g ds)=(∀ d ∈ ds,aO f d):=zR
@[simp] theorem HZ {f : Nat -> D} {T p i off} : bC f (.ifa T p i off)=False:=zR
@[simp] theorem H0 {f : Nat -> D} {T n} : bC f (.ifi T n)=True:=zR
@[simp] theorem Ih {f : Nat -> D} {k es} : bC f (.slv k es)=True:=zR
@[simp] theorem HY {f : Nat -> D} {g ds cs} : bC f (.fny g ds cs)=False:=zR
@[simp] theorem P8 {p i0 o} : ldc p i0 o (.any)=.any:=zR
@[simp] theorem La {m} : dQ m (.any)=.any:=zR
@[simp] theorem Qe {p i0 o k n} : ldc p i0 o (.int k n)=.int k n:=zR
@[simp] theorem Lg {m k n} : dQ m (.int k n)=.int k n:=zR
@[simp] theorem Kw {p i0 o b} : ldc p i0 o (.bool b)=.bool b:=zR
@[simp] theorem Gu {m b} : dQ m (.bool b)=.bool b:=zR
@[simp] theorem Qn {p i0 o s} : ldc p i0 o (.str s)=.str s:=zR
@[simp] theorem Lo {m s} : dQ m (.str s)=.str s:=zR
@[simp] theorem Kx {p i0 o} : ldc p i0 o (.nilp)=.nilp:=zR
@[simp] theorem Gw {m} : dQ m (.nilp)=.nilp:=zR
@[simp] theorem Ky {p i0 o} : ldc p i0 o (.nils)=.nils:=zR
@[simp] theorem P6 {p i0 o ds} : ldc p i0 o (.agg ds)=.agg ds:=zR
@[simp] theorem K2 {m ds} : dQ m (.agg ds)=.agg ds:=zR
@[simp] theorem Qp {p i0 o ds} : ldc p i0 o (.tup ds)=.tup ds:=zR
@[simp] theorem Lq {m ds} : dQ m (.tup ds)=.tup ds:=zR
@[simp] theorem Sw {p i0 o es} : ldc p i0 o (.sl es)=.sl es:=zR
@[simp] theorem QB {m es} : dQ m (.sl es)=.sl es:=zR
@[simp] theorem Qh {p i0 o ds} : ldc p i0 o (.ptr ds)=.ptr ds:=zR
@[simp] theorem Lj {m ds} : dQ m (.ptr ds)=.ptr ds:=zR
@[simp] theorem Su {p i0 o g ds} : ldc p i0 o (.fn g ds)=.fn g ds:=zR
@[simp] theorem Qz {m g ds} : dQ m (.fn g ds)=.fn g ds:=zR
@[simp] theorem Qg {c i o sz es} : ldc (.r c) i o (.own sz es)=.ref (.n c i o) 0 es.length:=zR
@[simp] theorem Li {m sz es} : dQ m (.own sz es)=.own sz es:=zR
@[simp] theorem P9 {p i0 o sz es} : ldc p i0 o (.blk sz es)=.blk sz es:=zR
@[simp] theorem Lb {m sz es} : dQ m (.blk sz es)=.blk sz es:=zR
@[simp] theorem Sv {p i0 o kt et ks vs} : ldc p i0 o (.mp kt et ks vs)=.mp kt et ks vs:=zR
@[simp] theorem QA {m kt et ks vs} : dQ m (.mp kt et ks vs)=.mp kt et ks vs:=zR
@[simp] theorem Qf {p i0 o b} : ldc p i0 o (.mrf b)=.mrf b:=zR
@[simp] theorem Lh {m b} : dQ m (.mrf b)=.mrf b:=zR
@[simp] theorem Qj {p i0 o q k n} : ldc p i0 o (.ref q k n)=.ref q k n:=zR
@[simp] theorem Ll {m q k n} : dQ m (.ref q k n)=.ref q k n:=zR
@[simp] theorem P5 {p i0 o q i off} : ldc p i0 o (.adr q i off)=.adr q i off:=zR
@[simp] theorem K0 {m q i off} : dQ m (.adr q i off)=.adr q i off:=zR
@[simp] theorem P7 {p i0 o ds} : ldc p i0 o (.agx ds)=.agx ds:=zR
@[simp] theorem K9 {m ds} : dQ m (.agx ds)=.agx ds:=zR
@[simp] theorem Qo {p i0 o ds} : ldc p i0 o (.tpx ds)=.tpx ds:=zR
@[simp] theorem Lp {m ds} : dQ m (.tpx ds)=.tpx ds:=zR
@[simp] theorem Qi {p i0 o ds} : ldc p i0 o (.ptx ds)=.ptx ds:=zR
@[simp] theorem Qk {p i0 o n sz ds} : ldc p i0 o (.rfx n sz ds)=.rfx n sz ds:=zR
@[simp] theorem Lk {m ds} : dQ m (.ptx ds)=.ptx ds:=zR
@[simp] theorem Lm {m n sz ds} : dQ m (.rfx n sz ds)=.rfx n sz ds:=zR
@[simp] theorem Qa {p i0 o g ds} : ldc p i0 o (.fnx g ds)=.fnx g ds:=zR
@[simp] theorem Qc {p0 i0 o T p i off} : ldc p0 i0 o (.ifa T p i off)=.ifa T p i off:=zR
@[simp] theorem Qd {p0 i0 o T n} : ldc p0 i0 o (.ifi T n)=.ifi T n:=zR
@[simp] theorem Ql {p0 i0 o k es} : ldc p0 i0 o (.slv k es)=.slv k es:=zR
@[simp] theorem Qb {p0 i0 o g ds cs} : ldc p0 i0 o (.fny g ds cs)=.fny g ds cs:=zR
@[simp] theorem Lc {m g ds} : dQ m (.fnx g ds)=.fnx g ds:=zR
@[simp] theorem Le {m T p i off} : dQ m (.ifa T p i off)=.ifa T p i off:=zR
@[simp] theorem Lf {m T n} : dQ m (.ifi T n)=.ifi T n:=zR
@[simp] theorem Ln {m k es} : dQ m (.slv k es)=.slv k es:=zR
@[simp] theorem Ld {m g ds cs} : dQ m (.fny g ds cs)=.fny g ds cs:=zR
@[simp] theorem Gx {m} : dQ m .nils=if m=0 then .nils else .own m []:=zR
def slx (b : Bool) (es : List (List D)) : D:=match b,es with
 | true,[]=>.nils
 | _,es=>.sl es
@[simp] theorem b9 {es} : slx false es=.sl es:=by cases es <;> rfl
@[simp] theorem Mg {b x es} : slx b (x::es)=.sl (x::es):=by cases b <;> rfl
theorem eV (b : Bool) (es : List (List D)) : slx b es=.sl es \/ (slx b es=.nils /\ es=[]):=by cases b <;> cases es <;> simp [slx]
@[simp] theorem P0 {b es} : isV (slx b es)=true:=by cases b <;> cases es <;> rfl
@[simp] theorem OD {b es} : isK (slx b es)=true:=by cases b <;> cases es <;> rfl
@[simp] theorem Pk {b es} : isP (slx b es)=true:=by cases b <;> cases es <;> rfl
@[simp] theorem PF {b es} : isS (slx b es)=true:=by cases b <;> cases es <;> rfl
@[simp] theorem Jq {b es} : aC (slx b es)=true:=by cases b <;> cases es <;> rfl
@[simp] theorem OY {b es} : isO (slx b es)=false:=by cases b <;> cases es <;> rfl
@[simp] theorem Fy {b es} : cm (slx b es)=false:=by cases b <;> cases es <;> rfl
@[simp] theorem NK {b es} : isB (slx b es)=false:=by cases b <;> cases es <;> rfl
@[simp] theorem Ad {b es} : cellsOf (slx b es)=[slx b es]:=by cases b <;> cases es <;> rfl
@[simp] theorem D2 {b es} : bN (slx b es)=slx b es:=by cases b <;> cases es <;> rfl
@[simp] theorem Ez {b es} : aW (slx b es)=slx b es:=by cases b <;> cases es <;> rfl
@[simp] theorem AP {b es} : aD (slx b es)=[]:=by cases b <;> cases es <;> rfl
@[simp] theorem CL {b es} : bm (slx b es)=[]:=by cases b <;> cases es <;> rfl
@[simp] theorem M6 {f : Nat -> D} {b es} : dp1 f (slx b es)=slx b es:=by cases b <;> cases es <;> rfl
@[simp] theorem RS {f : Nat -> D} {b es} : dp f (slx b es)=slx b es:=by cases b <;> cases es <;> rfl
@[simp] theorem EV {f : Nat -> D} {b es} : aO f (slx b es)=True:=by cases b <;> cases es <;> rfl
@[simp] theorem Ii {f : Nat -> D} {b es} : bC f (slx b es)=True:=by cases b <;> cases es <;> rfl
@[simp] theorem Qm {p i o b es} : ldc p i o (slx b es)=slx b es:=by cases b <;> cases es <;> rfl
def qZ (d : D) (K : Nat -> Prop) (_ : Tag K) : Prop:=match d with
 | .sl es=>K es.length
 | .nils=>K 0
 | .ref _ _ n=>K n
 | .rfx n _ _=>K n
 | _=>False
@[simp] theorem KG {n sz ds K u} : qZ (.rfx n sz ds) K u=K n:=zR
@[simp] theorem Qq {es K u} : qZ (.sl es) K u=K es.length:=zR
@[simp] theorem Gd {K u} : qZ .nils K u=K 0:=zR
@[simp] theorem KF {p k n K u} : qZ (.ref p k n) K u=K n:=zR
@[simp] theorem KH {b es K u} : qZ (slx b es) K u=K es.length:=by cases b <;> cases es <;> rfl
@[simp] theorem GM {n ds} : ni true n ds=.agg (ds.take n):=zR
@[simp] theorem C2 {n ds} : ni false n ds=ds.headD .any:=zR
@[simp] theorem KJ {t} : ab [] t=.any:=rfl
def lk (b : Bool) (d : D) (r : Env) (t : Nat) : D:=match b with
 | true=>d
 | false=>ab r t
@[simp] theorem Qr {d r t} : lk true d r t=d:=rfl
@[simp] theorem KI {d r t} : lk false d r t=ab r t:=rfl
@[simp] theorem Ge {s d r t} : ab ((s,d)::r) t=lk (s == t) d r t:=by
 by_cases h : s=t
 ·subst h;simp [ab]
 ·rw [show (s == t)=false by simp [h]];simp [ab,h]
@[simp] theorem FO {e} : pJ [] e=[]:=zR
@[simp] theorem B8 {t ts e} : pJ (t::ts) e=(t,ab e t)::pJ ts e:=zR
@[simp] theorem A4 : lF []=[]:=zR
@[simp] theorem yB {t d r} : lF ((t,d)::r)=bm d++lF r:=zR
@[simp] theorem Ha {e ks} : s5 e [] ks=ks:=zR
@[simp] theorem DK {e r rs ks} : s5 e (r::rs) ks=s5 e rs (if (ks.map (·.1)).contains r then ks else ks++[(r,ab e r)]):=zR
def fP (f : Nat -> D) (d : D) (ns : List Nat) (K : List D -> List Nat -> Prop) (_ : Tag K) : Prop:=fm f d ns K
def ft (f : Nat -> D) (d : D) (K : D -> List Nat -> Prop) (_ : Tag K) : Prop:=dJ f d K
def pa (f : Nat -> D) (ds : List D) (K : List D -> List Nat -> Prop) (_ : Tag K) : Prop:=kQ f ds K
def uu (b n : Nat) (x : D) (K : D -> List Nat -> Prop) (_ : Tag K) : Prop:=match x with
 | .blk sz es=>es.length=n /\ (∀ e ∈ es,∀ c ∈ e,aC c=true) /\ K (.own sz es) [b]
 | _=>False
@[simp] theorem G0 {b n sz es K u} : uu b n (.blk sz es) K u=(es.length=n /\ (∀ e ∈ es,∀ c ∈ e,aC c=true) /\ K (.own sz es) [b]):=zR
theorem dI {f : Nat -> D} {d : D} {K : D -> List Nat -> Prop} {u} (h : aC d=true) : ft f d K u=K d []:=by
 cases d <;> simp [aC] at h <;> simp [ft,dJ,aC]
@[simp] theorem DD {f b k n K u} : ft f (.ref (.r b) k n) K u=(k=0 /\ uu b n (f b) K ⟨⟩):=by
 simp only [ft,dJ,uu]
 cases f b <;> rfl
theorem eL {f : Nat -> D} {d : D} {K : List D -> List Nat -> Prop} {u} (h : aC d=true) : fP f d [] K u=K [d] []:=by
 cases d <;> simp [aC] at h <;> simp [fP,fm,dJ,aC,eN]
@[simp] theorem G3 {f ds K u} : fP f (.agg ds) [] K u=((∀ c ∈ ds,aC c=true) /\ K ds []):=by simp [fP,fm,eN]
@[simp] theorem G4 {f ds K u} : fP f (.agx ds) [] K u=pa f ds (fun cs bs=>bI bs=true /\ K cs bs) ⟨⟩:=by simp [fP,pa,fm,eN]
@[simp] theorem G7 {f b k n K u} : fP f (.ref (.r b) k n) [] K u=(k=0 /\ uu b n (f b) (fun c bs=>K [c] bs) ⟨⟩):=by
 simp only [fP,fm,dJ,uu,eN,if_true,true_or,true_and]
 cases f b <;> rfl
@[simp] theorem DG {f K u} : pa f [] K u=K [] []:=zR
@[simp] theorem Bn {f d ds K u} : pa f (d::ds) K u=ft f d (fun c bs=>pa f ds (fun cs bs'=>K (c::cs) (bs++bs')) ⟨⟩) ⟨⟩:=zR
@[simp] theorem DB {f k n K u} : ft f (.int k n) K u=K (.int k n) []:=dI rfl
@[simp] theorem G5 {f k n K u} : fP f (.int k n) [] K u=K [.int k n] []:=eL rfl
@[simp] theorem Bk {f n K u} : ft f (.bool n) K u=K (.bool n) []:=dI rfl
@[simp] theorem DH {f n K u} : fP f (.bool n) [] K u=K [.bool n] []:=eL rfl
@[simp] theorem DF {f n K u} : ft f (.str n) K u=K (.str n) []:=dI rfl
@[simp] theorem G9 {f n K u} : fP f (.str n) [] K u=K [.str n] []:=eL rfl
@[simp] theorem Bl {f  K u} : ft f .nilp K u=K .nilp []:=dI rfl
@[simp] theorem DI {f  K u} : fP f .nilp [] K u=K [.nilp] []:=eL rfl
@[simp] theorem Bm {f  K u} : ft f .nils K u=K .nils []:=dI rfl
@[simp] theorem DJ {f  K u} : fP f .nils [] K u=K [.nils] []:=eL rfl
@[simp] theorem G2 {f n K u} : ft f (.sl n) K u=K (.sl n) []:=dI rfl
@[simp] theorem Mw {f n K u} : fP f (.sl n) [] K u=K [.sl n] []:=eL rfl
@[simp] theorem DC {f n K u} : ft f (.ptr n) K u=K (.ptr n) []:=dI rfl
@[simp] theorem G6 {f n K u} : fP f (.ptr n) [] K u=K [.ptr n] []:=eL rfl
@[simp] theorem G1 {f g n K u} : ft f (.fn g n) K u=K (.fn g n) []:=dI rfl
@[simp] theorem Mv {f g n K u} : fP f (.fn g n) [] K u=K [.fn g n] []:=eL rfl
@[simp] theorem DE {f b n K u} : ft f (slx b n) K u=K (slx b n) []:=dI (by simp)
@[simp] theorem G8 {f b n K u} : fP f (slx b n) [] K u=K [slx b n] []:=eL (by simp)
def oS (f : Nat -> D) (sz : Nat) (ps : List (Nat × Opd)) (es : List (List D)) (bs : List Nat) (K : List (List D) -> List Nat -> Prop) (_ : Tag K) : Prop:=eB f sz [] ps es bs K
@[simp] theorem C3 {f sz es bs K u} : oS f sz [] es bs K u=K es bs:=zR
@[simp] theorem A3 {f sz i x ps es bs K u} : oS f sz ((i,x)::ps) es bs K u=(i < es.length /\ fP f (vd f x) [] (fun cs bs'=>cs.length=sz /\ oS f sz ps (es.set i cs) (bs++bs') K ⟨⟩) ⟨⟩):=zR
def iq (f : Nat -> D) (mv : Bool) (d : D) (sz : Nat) (K : List (List D) -> List Nat -> Prop) (_ : Tag K) : Prop:=eI f mv d sz K
def C8 (b n sz : Nat) (x : D) (K : List (List D) -> List Nat -> Prop) (_ : Tag K) : Prop:=match x with
 | .blk sz' es=>sz'=sz /\ es.length=n /\ (∀ e ∈ es,∀ c ∈ e,isC c=true) /\ K es [b]
 | _=>False
@[simp] theorem LV {b n sz sz' es K u} : C8 b n sz (.blk sz' es) K u=(sz'=sz /\ es.length=n /\ (∀ e ∈ es,∀ c ∈ e,isC c=true) /\ K es [b]):=zR
def C9 (k n sz : Nat) (x : Option (Nat × List (List D))) (K : List (List D) -> List Nat -> Prop) (_ : Tag K) : Prop:=match x with
 | some (sz',es)=>sz'=sz /\ k + n <= es.length /\ (∀ e ∈ (es.drop k).take n,∀ c ∈ e,aC c=true) /\ K ((es.drop k).take n) []
 | none=>False
@[simp] theorem GP {k n sz sz' es K u} : C9 k n sz (some (sz',es)) K u=(sz'=sz /\ k + n <= es.length /\ (∀ e ∈ (es.drop k).take n,∀ c ∈ e,aC c=true) /\ K ((es.drop k).take n) []):=zR
@[simp] theorem Da {f mv sz K u} : iq f mv .nils sz K u=K [] []:=zR
@[simp] theorem L8 {f mv es sz K u} : iq f mv (.sl es) sz K u=((∀ e ∈ es,e.length=sz /\ ∀ c ∈ e,aC c=true) /\ K es []):=zR
@[simp] theorem GT {f mv b es sz K u} : iq f mv (slx b es) sz K u=((∀ e ∈ es,e.length=sz /\ ∀ c ∈ e,aC c=true) /\ K es []):=by
 rcases eV b es with h | ⟨h,rfl⟩ <;> rw [h] <;> simp
@[simp] theorem L7 {f b k n sz K u} : iq f true (.ref (.r b) k n) sz K u=(k=0 /\ C8 b n sz (f b) K ⟨⟩):=by
 simp only [iq,eI,C8]
 cases f b <;> rfl
@[simp] theorem GS {f p k n sz K u} : iq f false (.ref p k n) sz K u=C9 k n sz (bk f p) K ⟨⟩:=by
 simp only [iq,eI,C9]
 cases bk f p <;> rfl
def dK (f : Nat -> D) (o : Option Opd) (dflt : Nat) (K : Nat -> Prop) (_ : Tag K) : Prop:=dU f o dflt K
def Hp (d : D) (K : Nat -> Prop) (_ : Tag K) : Prop:=match d with
 | .int _ n=>0 <= n /\ K n.toNat
 | _=>False
@[simp] theorem Hq {k n K u} : Hp (.int k n) K u=(0 <= n /\ K n.toNat):=zR
@[simp] theorem zH {f n K u} : dK f none n K u=K n:=zR
@[simp] theorem zJ {f x n K u} : dK f (some x) n K u=Hp (vd f x) K ⟨⟩:=zR
def io (x : Option (List D)) (K : List D -> Prop) (_ : Tag K) : Prop:=match x with
 | some r=>K r
 | none=>False
@[simp] theorem GR {r K u} : io (some r) K u=K r:=zR
@[simp] theorem GQ {K u} : io none K u=False:=zR
theorem gw {x : Option (List D)} {K : List D -> Prop} {u} : io x K u=∃ r,x=some r /\ K r:=by
 cases x <;> simp [io]
def mA (x : Option D) (K : Nat -> List (List D) -> Prop) (_ : Tag K) : Prop:=match x with
 | some (.own sz es)=>K sz es
 | _=>False
@[simp] theorem LI {sz es K u} : mA (some (.own sz es)) K u=K sz es:=zR
theorem lD {x : Option D} {K : Nat -> List (List D) -> Prop} {u} : mA x K u=∃ sz es,x=some (.own sz es) /\ K sz es:=by
 cases x with
 | none=>simp [mA]
 | some d =>
  cases d <;> simp [mA]
  exact ⟨fun h=>⟨_,_,⟨rfl,rfl⟩,h⟩,by rintro ⟨_,_,⟨rfl,rfl⟩,h⟩;exact h⟩
def xp (x : Option D) (K : D -> Prop) (_ : Tag K) : Prop:=match x with
 | some d=>K d
 | none=>False
@[simp] theorem Eg {d K u} : xp (some d) K u=K d:=zR
theorem xq {x : Option D} {K : D -> Prop} {u} : xp x K u=∃ d,x=some d /\ K d:=by
 cases x <;> simp [xp]
def ek (x : D) (K : Nat -> List (List D) -> Prop) (_ : Tag K) : Prop:=match x with
 | .blk sz es=>K sz es
 | _=>False
@[simp] theorem Ho {sz es K u} : ek (.blk sz es) K u=K sz es:=zR
abbrev CC:=Nat -> List D -> D -> List D -> Prop
abbrev KT:=List (Nat × D) -> List (Nat × Bool) -> Prop
section
variable {C : CC} {Q : cq -> Env -> Prop} {e e' : Env} {d : D}
def wN (C : CC) (c : dH) (Q : cq -> Env -> Prop) (_ : Tag (c,Q)) (e : Env) : Prop:=wpN C c Q e
def Aw (C : CC) (c : dH) (Q : cq -> Env -> Prop) (_ : Tag (c,Q)) (e : Env) : Prop:=wpN C (.loop c) Q e
def tM (C : CC) (K : Env -> Prop) (ns : List ar) (_ : Tag (K,ns)) (e : Env) : Prop:=jg C K ns e
def rp (C : CC) (hs : List Nat) (K : Env -> Prop) (ns : List ar) (_ : Tag (K,ns)) (e : Env) (acc : List (List Nat × List Nat)) : Prop:=kN C hs K ns e acc
def IU (hs : List Nat) (acc : List (List Nat × List Nat)) : Prop:=jw hs acc.reverse=true
theorem ai {hs : List Nat} {acc : List (List Nat × List Nat)} (h : jw hs acc.reverse=true) : IU hs acc:=h
def Al (C : CC) (K : Env -> Prop) (ns : List ar) (e : Env) : KT:=fun ws ks=>jg C K ns (ws++dP ks e)
def HF (C : CC) (hs : List Nat) (K : Env -> Prop) (ns : List ar) (e : Env) (R : List Nat) (acc : List (List Nat × List Nat)) : KT:=fun ws ks=>wOk R ws ks=true /\ kN C hs K ns (ws++dP ks e) ((R,wrK ws ks)::acc)
def bL (Q : cq -> Env -> Prop) (_ : Tag Q) (t : cq) (e : Env) : Prop:=Q t e
def fin (res : List (Nat × Option (Nat × Bool))) (d : D) : cq -> Env -> Prop:=fun t e=>(match t with
   | .ext _=>False
   | _=>True) /\ eH res d e
def yJ (C : CC) (y : dH) (Q : cq -> Env -> Prop) : cq -> Env -> Prop:=fun t e'=>match t with
  | .nrm=>wpN C y Q e'
  | t=>Q t e'
def oe (id : Nat) (Q : cq -> Env -> Prop) : cq -> Env -> Prop:=fun t e'=>match t with
  | .ext i=>if i=id then Q .nrm e' else Q (.ext i) e'
  | t=>Q t e'
def yz (keep : List Nat) (Q : cq -> Env -> Prop) : Env -> Prop:=fun e'=>Q .nrm (prune keep e')
def kOf (C : CC) (hs : Option (List Nat)) (K : Env -> Prop) (ns : List ar) (e : Env) (R : List Nat) (acc : List (List Nat × List Nat)) : KT :=
 match hs with
 | none=>Al C K ns e
 | some hs=>HF C hs K ns e R acc
def doW (C : CC) (hs : Option (List Nat)) (K : Env -> Prop) (ns : List ar) (_ : Tag (hs,K,ns)) (e : Env) (R : List Nat) (acc : List (List Nat × List Nat)) (ws : List (Nat × D)) (ks : List (Nat × Bool)) : Prop:=kOf C hs K ns e R acc ws ks
def opW (C : CC) (hs : Option (List Nat)) (K : Env -> Prop) (ns : List ar) (dst : Option Nat) (op : NOp) (_ : Tag (hs,K,ns,dst,op)) (e : Env) (R : List Nat) (acc : List (List Nat × List Nat)) : Prop:=aB C (ab e) dst (kOf C hs K ns e R acc) op
def dW (C : CC) (hs : Option (List Nat)) (K : Env -> Prop) (ns : List ar) (dst : Option Nat) (_ : Tag (hs,K,ns)) (e : Env) (R : List Nat) (acc : List (List Nat × List Nat)) (d : D) : Prop:=db dst (kOf C hs K ns e R acc) d
def pi (C : CC) (g : Nat) (hs : Option (List Nat)) (K : Env -> Prop) (ns : List ar) (dst : Option Nat) (_ : Tag (hs,K,ns)) (e : Env) (R : List Nat) (acc : List (List Nat × List Nat)) (pure : Bool) (ds : List D) : Prop :=
 ∃ d,C g ds d [] /\ (isF d=true \/ pure=true) /\ db dst (kOf C hs K ns e R acc) d
theorem aE {prog : Nat -> Option aI} (hC : aq prog C) {g : Nat} {nf : aI} {ds : List D} (hp : prog g=some nf) (hl : ds.length=nf.np) (h : wN C nf.body (fin nf.res d) ⟨⟩ (params 0 ds)) : C g ds d []:=hC.1.1 g nf ds d hp hl h
def qG (res : List (Nat × Option (Nat × Bool))) (sz : Nat) (es : List (List D)) : cq -> Env -> Prop:=fun t e=>(match t with
   | .ext _=>False
   | _=>True) /\ jc res sz es e
theorem kI {prog : Nat -> Option aI} (hC : aq prog C) {g : Nat} {nf : aI} {ds : List D} {sz : Nat} {es : List (List D)} (hp : prog g=some nf) (hl : ds.length=nf.np) (h : wN C nf.body (qG nf.res sz es) ⟨⟩ (params 0 ds)) : C g ds .any [.own sz es]:=hC.1.2.2.1 g nf ds sz es hp hl h
def tt (res : List (Nat × Option (Nat × Bool))) (d : D) : cq -> Env -> Prop:=fun t e=>(match t with
   | .ext _=>False
   | _=>True) /\ jb res d e
def qH (res : List (Nat × Option (Nat × Bool))) (d : D) (sz : Nat) (es' : List (List D)) : cq -> Env -> Prop:=fun t e=>(match t with
   | .ext _=>False
   | _=>True) /\ (0 < es'.length /\ ab e 10015=.blk sz es') /\ eH res d ((10015,.any)::e)
theorem gB {prog : Nat -> Option aI} (hC : f8 prog C) {g : Nat} {nf : aI} {W : List D} {d : D} {sz : Nat} {es es' : List (List D)} (hp : prog g=some nf) (hl : W.length=nf.np) (h : wN C nf.body (qH nf.res d sz es') ⟨⟩ (params 0 W++[(10015,.blk sz es)])) : C g (.blk sz es::W) d [.blk sz es',.nilp]:=hC.2.2.2.2.2.1 g nf W d sz es es' hp hl h
def tu (res : List (Nat × Option (Nat × Bool))) (sz : Nat) (es : List (List D)) : cq -> Env -> Prop:=fun t e=>(match t with
   | .ext _=>False
   | _=>True) /\ jd res sz es e
def qF (res : List (Nat × Option (Nat × Bool))) (R : D) : cq -> Env -> Prop:=fun t e=>(match t with
   | .ext _=>False
   | _=>True) /\ qc res R e
theorem Dr {prog : Nat -> Option aI} (hC : aq prog C) {g : Nat} {nf : aI} {ds : List D} {R : D} (hp : prog g=some nf) (hl : ds.length=nf.np) (hok : okR R=true) (h : wN C nf.body (qF nf.res R) ⟨⟩ (params 0 ds)) : C g ds R [.nils]:=hC.1.2.2.2.2.2.2.2 g nf ds R hp hl hok h
def uA (C : CC) (g : Nat) (hs : Option (List Nat)) (K : Env -> Prop) (ns : List ar) (t : Nat) (_ : Tag (hs,K,ns)) (e : Env) (R : List Nat) (acc : List (List Nat × List Nat)) (ds : List D) : Prop :=
 (∃ d,C g ds d [] /\ db (some t) (kOf C hs K ns e R acc) d) \/ ∃ d,okR d=true /\ C g ds d [.nils] /\ kOf C hs K ns e R acc ((t,eG t d)::aY t d) (d9 t d)
theorem td {g : Nat} {hs : Option (List Nat)} {K : Env -> Prop} {ns : List ar} {t : Nat} {u : Tag (hs,K,ns)} {R : List Nat} {acc : List (List Nat × List Nat)} {ds : List D} {d : D} (h : C g ds d [.nils]) (hok : okR d=true) (hk : doW C hs K ns ⟨⟩ e R acc ((t,eG t d)::aY t d) (d9 t d)) : uA C g hs K ns t u e R acc ds:=.inr ⟨d,hok,h,hk⟩
def uB (C : CC) (g : Nat) (hs : Option (List Nat)) (K : Env -> Prop) (ns : List ar) (t : Nat) (_ : Tag (hs,K,ns)) (e : Env) (R : List Nat) (acc : List (List Nat × List Nat)) (ds : List D) : Prop :=
 ∃ sz es,C g ds .any [.own sz es] /\ kOf C hs K ns e R acc [(t,.ref (.r (rt t 0)) 0 es.length),(rt t 0,.blk sz es)] [(rt t 0,true)]
theorem eQ {g : Nat} {hs : Option (List Nat)} {K : Env -> Prop} {ns : List ar} {t : Nat} {u : Tag (hs,K,ns)} {R : List Nat} {acc : List (List Nat × List Nat)} {ds : List D} {sz : Nat} {es : List (List D)} (h : C g ds .any [.own sz es]) (hk : doW C hs K ns ⟨⟩ e R acc [(t,.ref (.r (rt t 0)) 0 es.length),(rt t 0,.blk sz es)] [(rt t 0,true)]) : uB C g hs K ns t u e R acc ds:=⟨sz,es,h,hk⟩
def qu (C : CC) (g : Nat) (hs : Option (List Nat)) (K : Env -> Prop) (ns : List ar) (dst : Option Nat) (_ : Tag (hs,K,ns)) (e : Env) (R : List Nat) (acc : List (List Nat × List Nat)) (b sz : Nat) (es : List (List D)) (ds : List D) (p : Bool) : Prop:=match dst with
 | none=>∃ es' : List (List D),es'.length=es.length /\ (∀ e ∈ es',e.length=sz /\ ∀ c ∈ e,aC c=true) /\ (p=true \/ ∀ e ∈ es',∀ c ∈ e,aV c=true) /\ C g (.own sz es::ds) .any [.own sz es',.nilp] /\ doW C hs K ns ⟨⟩ e R acc [(b,.blk sz es')] []
 | some t=>(∃ es' : List (List D),es'.length=es.length /\ (∀ e ∈ es',e.length=sz /\ ∀ c ∈ e,aC c=true) /\ (p=true \/ ∀ e ∈ es',∀ c ∈ e,aV c=true) /\ C g (.own sz es::ds) .any [.own sz es',.nilp] /\ doW C hs K ns ⟨⟩ e R acc [(t,.tup []),(b,.blk sz es')] []) \/ (b ≠ rt t 0 /\ 0 < sz /\ ∃ es' : List (List D),(∀ e ∈ es',e.length=sz /\ ∀ c ∈ e,aC c=true) /\ (p=true \/ ∀ e ∈ es',∀ c ∈ e,aV c=true) /\ C g (.own sz es::ds) .any [.own sz es',.nils] /\ doW C hs K ns ⟨⟩ e R acc [(t,.ref (.r (rt t 0)) 0 es'.length),(rt t 0,.blk sz es'),(b,.any)] [(rt t 0,true)])
theorem nw {t : Nat} {g : Nat} {hs : Option (List Nat)} {K : Env -> Prop} {ns : List ar} {u : Tag (hs,K,ns)} {R : List Nat} {acc : List (List Nat × List Nat)} {b sz : Nat} {es es' : List (List D)} {ds : List D} {p : Bool} (h : C g (.own sz es::ds) .any [.own sz es',.nilp]) (hp : (p=true \/ ∀ e ∈ es',∀ c ∈ e,aV c=true)) (hl : es'.length=es.length) (hu : (∀ e ∈ es',e.length=sz /\ ∀ c ∈ e,aC c=true)) (hk : doW C hs K ns ⟨⟩ e R acc [(t,.tup []),(b,.blk sz es')] []) : qu C g hs K ns (some t) u e R acc b sz es ds p:=.inl ⟨es',hl,hu,hp,h,hk⟩
def Dq (C : CC) (g : Nat) (hs : Option (List Nat)) (K : Env -> Prop) (ns : List ar) (dst : Option Nat) (_ : Tag (hs,K,ns)) (e : Env) (R : List Nat) (acc : List (List Nat × List Nat)) (b n : Nat) (xs : List Opd) (d : D) : Prop:=match d with
 | .blk sz es=>es.length=n /\ (∀ e ∈ es,∀ c ∈ e,aC c=true) /\ (∀ x ∈ xs,bC (fbE (ab e) b) (vd (fbE (ab e) b) x)) /\ qu C g hs K ns dst ⟨⟩ e R acc b sz es (xs.map (dpv (fbE (ab e) b))) (xs.all fun y=>isV (vd (fbE (ab e) b) y))
 | _=>False
def Mm (C : CC) (g : Nat) (hs : Option (List Nat)) (K : Env -> Prop) (ns : List ar) (dst : Option Nat) (_ : Tag (hs,K,ns)) (e : Env) (R : List Nat) (acc : List (List Nat × List Nat)) (xs : List Opd) (d : D) : Prop:=match d with
 | .ref (.r b) k n=>k=0 /\ Dq C g hs K ns dst ⟨⟩ e R acc b n xs (ab e b)
 | _=>False
@[simp] theorem RY {f : Nat -> D} {b t : Nat} : fbE f b t=if t=b then .any else f t:=zR
theorem aa {g : Nat} {hs : Option (List Nat)} {K : Env -> Prop} {ns : List ar} {dst : Option Nat} {u : Tag (hs,K,ns)} {R : List Nat} {acc : List (List Nat × List Nat)} {p : Bool} {ds : List D} (h : C g ds d []) (hf : isF d=true \/ p=true) (hk : dW C hs K ns dst ⟨⟩ e R acc d) : pi C g hs K ns dst u e R acc p ds:=⟨d,h,hf,hk⟩
def oX (S : Type) (G : S -> Env) (I : S -> Prop) (m : S -> Nat) (s : S) (Q : cq -> Env -> Prop) : cq -> Env -> Prop:=fun t e'=>match t with
    | .nrm=>∃ s',I s' /\ m s' < m s /\ jW e' (G s')
    | t=>Q t e'
theorem az {c : dH} {u : Tag (c,Q)} (S : Type) (G : S -> Env) (I : S -> Prop) (m : S -> Nat) (s0 : S) (h0 : I s0) (hw : jW e (G s0))
  (h : ∀ s,I s -> wN C c (oX S G I m s Q) ⟨⟩ (G s)) : Aw C c Q u e:=⟨S,G,I,m,s0,h0,hw,h⟩
@[simp] theorem Rn {u} : wN C .skip Q u e=bL Q ⟨⟩ .nrm e:=zR
@[simp] theorem SS {hs keep ops u} : wN C (.reg false hs keep ops) Q u e=tM C (yz keep Q) ops ⟨⟩ e:=zR
@[simp] theorem Rk {hs keep ops u} : wN C (.reg true hs keep ops) Q u e=rp C hs (yz keep Q) ops ⟨⟩ e []:=zR
@[simp] theorem SV {x y u} : wN C (.seq x y) Q u e=wN C x (yJ C y Q) ⟨⟩ e:=zR
def brB (b : Bool) (X Y : Prop) (_ : Tag (X,Y)) : Prop:=(b=true -> X) /\ (b=false -> Y)
theorem al {b : Bool} {X Y : Prop} {u} (h1 : b=true -> X) (h2 : b=false -> Y) : brB b X Y u:=⟨h1,h2⟩
@[simp] theorem Hx {X Y : Prop} {u} : brB true X Y u=X:=by simp [brB]
@[simp] theorem Ef {X Y : Prop} {u} : brB false X Y u=Y:=by simp [brB]
def cdW (C : CC) (x y : dH) (Q : cq -> Env -> Prop) (_ : Tag (x,y,Q)) (e : Env) (d : D) : Prop:=match d with
 | .bool b=>brB b (wN C x Q ⟨⟩ e) (wN C y Q ⟨⟩ e) ⟨⟩
 | .bb=>wN C x Q ⟨⟩ e /\ wN C y Q ⟨⟩ e
 | _=>False
@[simp] theorem Rt {x y u} : cdW C x y Q u e .bb=(wN C x Q ⟨⟩ e /\ wN C y Q ⟨⟩ e):=zR
@[simp] theorem Hy {x y u b} : cdW C x y Q u e (.bool b)=brB b (wN C x Q ⟨⟩ e) (wN C y Q ⟨⟩ e) ⟨⟩:=zR
@[simp] theorem Rj {c x y u} : wN C (.cond c x y) Q u e=cdW C x y Q ⟨⟩ e (vd (ab e) c):=zR
@[simp] theorem Mu {id c u} : wN C (.block id c) Q u e=wN C c (oe id Q) ⟨⟩ e:=zR
@[simp] theorem Rm {c u} : wN C (.loop c) Q u e=Aw C c Q ⟨⟩ e:=zR
@[simp] theorem Rl {id u} : wN C (.exit id) Q u e=bL Q ⟨⟩ (.ext id) e:=zR
@[simp] theorem SU {u} : wN C .ret Q u e=bL Q ⟨⟩ .ret e:=zR
@[simp] theorem xO {y u} : bL (yJ C y Q) u .nrm e=wN C y Q ⟨⟩ e:=zR
@[simp] theorem xN {y u i} : bL (yJ C y Q) u (.ext i) e=bL Q ⟨⟩ (.ext i) e:=zR
@[simp] theorem xP {y u} : bL (yJ C y Q) u .ret e=bL Q ⟨⟩ .ret e:=zR
@[simp] theorem uT {id u} : bL (oe id Q) u .nrm e=bL Q ⟨⟩ .nrm e:=zR
@[simp] theorem uS {id u i} : bL (oe id Q) u (.ext i) e=if i=id then bL Q ⟨⟩ .nrm e else bL Q ⟨⟩ (.ext i) e:=zR
@[simp] theorem uU {id u} : bL (oe id Q) u .ret e=bL Q ⟨⟩ .ret e:=zR
@[simp] theorem xF {r u} : bL (fin r d) u .nrm e=eH r d e:=by simp [bL,fin]
@[simp] theorem xG {r u} : bL (fin r d) u .ret e=eH r d e:=by simp [bL,fin]
@[simp] theorem wX {r d} {u : Tag (tt r d)} : bL (tt r d) u .nrm e=jb r d e:=by simp [bL,tt]
@[simp] theorem wY {r d} {u : Tag (tt r d)} : bL (tt r d) u .ret e=jb r d e:=by simp [bL,tt]
@[simp] theorem wV {r sz es} {u : Tag (qG r sz es)} : bL (qG r sz es) u .nrm e=jc r sz es e:=by simp [bL,qG]
@[simp] theorem wW {r sz es} {u : Tag (qG r sz es)} : bL (qG r sz es) u .ret e=jc r sz es e:=by simp [bL,qG]
@[simp] theorem xb {r d sz es} {u : Tag (qH r d sz es)} : bL (qH r d sz es) u .nrm e=((0 < es.length /\ ab e 10015=.blk sz es) /\ eH r d ((10015,.any)::e)):=by simp [bL,qH]
@[simp] theorem xc {r d sz es} {u : Tag (qH r d sz es)} : bL (qH r d sz es) u .ret e=((0 < es.length /\ ab e 10015=.blk sz es) /\ eH r d ((10015,.any)::e)):=by simp [bL,qH]
@[simp] theorem wZ {r sz es} {u : Tag (tu r sz es)} : bL (tu r sz es) u .nrm e=jd r sz es e:=by simp [bL,tu]
@[simp] theorem w9 {r sz es} {u : Tag (tu r sz es)} : bL (tu r sz es) u .ret e=jd r sz es e:=by simp [bL,tu]
@[simp] theorem wT {r d} {u : Tag (qF r d)} : bL (qF r d) u .nrm e=qc r d e:=by simp [bL,qF]
@[simp] theorem wU {r d} {u : Tag (qF r d)} : bL (qF r d) u .ret e=qc r d e:=by simp [bL,qF]
@[simp] theorem uW {S G I m s u} : bL (oX S G I m s Q) u .nrm e=∃ s',I s' /\ m s' < m s /\ jW e (G s'):=zR
@[simp] theorem uV {S G I m s u i} : bL (oX S G I m s Q) u (.ext i) e=bL Q ⟨⟩ (.ext i) e:=zR
@[simp] theorem uX {S G I m s u} : bL (oX S G I m s Q) u .ret e=bL Q ⟨⟩ .ret e:=zR
end
section
variable {C : CC} {Q : cq -> Env -> Prop} {e : Env} {K : Env -> Prop} {dst : Option Nat} {d : D} {hs : Option (List Nat)} {ns : List ar} {R : List Nat} {acc : List (List Nat × List Nat)} {u : Tag (hs,K,ns)}
@[simp] theorem LG {keep u} : tM C (yz keep Q) [] u e=bL Q ⟨⟩ .nrm (prune keep e):=zR
@[simp] theorem LF {h keep u} : rp C h (yz keep Q) [] u e acc=(IU h acc /\ bL Q ⟨⟩ .nrm (prune keep e)):=zR
@[simp] theorem GI {dst op ns u} : tM C K (⟨dst,op,none⟩::ns) u e=opW C none K ns dst op ⟨⟩ e [] []:=zR
@[simp] theorem GG {h dst op ns u} : rp C h K (⟨dst,op,none⟩::ns) u e acc=(chk (ab e) ⟨dst,op,none⟩=true /\ opW C (some h) K ns dst op ⟨⟩ e (gV (ab e) ⟨dst,op,none⟩) acc):=zR
def mT (C : CC) (h : List Nat) (K : Env -> Prop) (ns : List ar) (_ : Tag (h,K,ns)) (e : Env) (dst : Option Nat) (R : List Nat) (acc : List (List Nat × List Nat)) : Prop:=iU e dst fun e'=>kN C h K ns e' ((R,tn dst)::acc)
@[simp] theorem De {h t ns u} : mT C h K ns u e (some t) R acc=rp C h K ns ⟨⟩ ((t,.tup [])::e) ((R,[4 * t])::acc):=zR
@[simp] theorem Dd {h ns u} : mT C h K ns u e none R acc=rp C h K ns ⟨⟩ e ((R,[])::acc):=zR
def gdT (C : CC) (K : Env -> Prop) (ns : List ar) (dst : Option Nat) (op : NOp) (s : Nat) (want : Bool) (_ : Tag (K,ns)) (e : Env) (d : D) : Prop:=match d with
 | .bool b=>(b=want -> opW C none K ns dst op ⟨⟩ ((s,.bool want)::e) [] []) /\ (b=!want -> dW C none K ns dst ⟨⟩ ((s,.bool !want)::e) [] [] (.tup []))
 | .tup []=>dW C none K ns dst ⟨⟩ e [] [] (.tup [])
 | _=>False
@[simp] theorem IA {op s b u} : gdT C K ns dst op s true u e (.bool b)=brB b (opW C none K ns dst op ⟨⟩ ((s,.bool true)::e) [] []) (dW C none K ns dst ⟨⟩ ((s,.bool false)::e) [] [] (.tup [])) ⟨⟩:=zR
@[simp] theorem E9 {op s b u} : gdT C K ns dst op s false u e (.bool b)=brB b (dW C none K ns dst ⟨⟩ ((s,.bool true)::e) [] [] (.tup [])) (opW C none K ns dst op ⟨⟩ ((s,.bool false)::e) [] []) ⟨⟩:=by
 simp only [gdT,brB,Bool.not_false];exact propext ⟨fun h=>⟨h.2,h.1⟩,fun h=>⟨h.2,h.1⟩⟩
@[simp] theorem Iz {op s want u} : gdT C K ns dst op s want u e (.tup [])=dW C none K ns dst ⟨⟩ e [] [] (.tup []):=zR
@[simp] theorem GJ {dst op s want ns u} : tM C K (⟨dst,op,some (s,want)⟩::ns) u e=gdT C K ns dst op s want ⟨⟩ e (ab e s):=by
 simp only [tM,jg,opW,ql,iU,gdT,dW,db,kOf,Al,dP]
 cases ab e s <;> cases dst <;> (first | rfl | (rename_i x _ ;cases x <;> rfl) | (rename_i x;cases x <;> rfl))
def gdD (C : CC) (h : List Nat) (K : Env -> Prop) (ns : List ar) (dst : Option Nat) (op : NOp) (want : Bool) (_ : Tag (K,ns)) (e : Env) (R : List Nat) (acc : List (List Nat × List Nat)) (d : D) : Prop:=match d with
 | .bool b=>(b=want -> opW C (some h) K ns dst op ⟨⟩ e R acc) /\ (b=!want -> mT C h K ns ⟨⟩ e dst R acc)
 | .tup []=>mT C h K ns ⟨⟩ e dst R acc
 | _=>False
@[simp] theorem Iy {h op b u} : gdD C h K ns dst op true u e R acc (.bool b)=brB b (opW C (some h) K ns dst op ⟨⟩ e R acc) (mT C h K ns ⟨⟩ e dst R acc) ⟨⟩:=zR
@[simp] theorem E8 {h op b u} : gdD C h K ns dst op false u e R acc (.bool b)=brB b (mT C h K ns ⟨⟩ e dst R acc) (opW C (some h) K ns dst op ⟨⟩ e R acc) ⟨⟩:=by
 simp only [gdD,brB,Bool.not_false];exact propext ⟨fun h=>⟨h.2,h.1⟩,fun h=>⟨h.2,h.1⟩⟩
@[simp] theorem Ix {h op want u} : gdD C h K ns dst op want u e R acc (.tup [])=mT C h K ns ⟨⟩ e dst R acc:=zR
@[simp] theorem GH {h dst op s want ns u} : rp C h K (⟨dst,op,some (s,want)⟩::ns) u e acc=(chk (ab e) ⟨dst,op,some (s,want)⟩=true /\ gdD C h K ns dst op want ⟨⟩ e (gV (ab e) ⟨dst,op,some (s,want)⟩) acc (ab e s)):=zR
@[simp] theorem HL {K ns u ws ks} : doW C none K ns u e R acc ws ks=tM C K ns ⟨⟩ (ws++dP ks e):=zR
@[simp] theorem HK {h K ns u ws ks} : doW C (some h) K ns u e R acc ws ks=(wOk R ws ks=true /\ rp C h K ns ⟨⟩ (ws++dP ks e) ((R,wrK ws ks)::acc)):=zR
@[simp] theorem MJ {t} : dW C hs K ns (some t) u e R acc d=doW C hs K ns ⟨⟩ e R acc [(t,d)] []:=zR
@[simp] theorem MI : dW C hs K ns none u e R acc d=doW C hs K ns ⟨⟩ e R acc [] []:=zR
def aT (ks : List (Nat × Bool)) (d : D) : D:=if aF ks d then .any else d
theorem bF (ks : List (Nat × Bool)) (d : D) : aT ks d=bif aF ks d then .any else d:=by
 unfold aT;cases aF ks d <;> rfl
@[simp] theorem Gc : dP [] e=e:=zR
@[simp] theorem Gb {k ks} : dP (k::ks) []=[]:=zR
@[simp] theorem Ce {k ks s d} : dP (k::ks) ((s,d)::e)=(s,aT (k::ks) d)::dP (k::ks) e:=zR
@[simp] theorem FS {ks} : aT ks .any=.any:=by simp [aT]
@[simp] theorem FY {ks k n} : aT ks (.int k n)=.int k n:=by simp [aT,aF,cH,aA]
@[simp] theorem Cb {ks n} : aT ks (.bool n)=.bool n:=by simp [aT,aF,cH,aA]
@[simp] theorem F8 {ks n} : aT ks (.str n)=.str n:=by simp [aT,aF,cH,aA]
@[simp] theorem Ks {ks} : aT ks .bb=.bb:=by simp [aT,aF,cH,aA]
@[simp] theorem Cc {ks} : aT ks .nilp=.nilp:=by simp [aT,aF,cH,aA]
@[simp] theorem Cd {ks} : aT ks .nils=.nils:=by simp [aT,aF,cH,aA]
@[simp] theorem FQ {ks n} : aT ks (.agg n)=.agg n:=by simp [aT,aF,cH,aA]
@[simp] theorem Ga {ks n} : aT ks (.tup n)=.tup n:=by simp [aT,aF,cH,aA]
@[simp] theorem Kv {ks n} : aT ks (.sl n)=.sl n:=by simp [aT,aF,cH,aA]
@[simp] theorem F2 {ks n} : aT ks (.ptr n)=.ptr n:=by simp [aT,aF,cH,aA]
@[simp] theorem Kt {ks g n} : aT ks (.fn g n)=.fn g n:=by simp [aT,aF,cH,aA]
@[simp] theorem FT {ks g n} : aT ks (.blk g n)=.blk g n:=by simp [aT,aF,cH,aA]
@[simp] theorem Ku {ks kt et xs vs} : aT ks (.mp kt et xs vs)=.mp kt et xs vs:=by simp [aT,aF,cH,aA]
@[simp] theorem F4 {b all ks p k n} : aT ((b,all)::ks) (.ref p k n)=if bp b all p then .any else aT ks (.ref p k n):=by
 have h : aT ((b,all)::ks) (.ref p k n)=bif (bp b all p || aF ks (.ref p k n)) then .any else .ref p k n:=bF ..
 rw [h,bF]
 cases bp b all p <;> rfl
@[simp] theorem FP {b all ks p k n} : aT ((b,all)::ks) (.adr p k n)=if bp b all p then .any else aT ks (.adr p k n):=by
 have h : aT ((b,all)::ks) (.adr p k n)=bif (bp b all p || aF ks (.adr p k n)) then .any else .adr p k n:=bF ..
 rw [h,bF]
 cases bp b all p <;> rfl
@[simp] theorem FR {b all ks n} : aT ((b,all)::ks) (.agx n)=if n.any (aA b all) then .any else aT ks (.agx n):=by
 have h : aT ((b,all)::ks) (.agx n)=bif (n.any (aA b all) || aF ks (.agx n)) then .any else .agx n:=bF ..
 rw [h,bF]
 cases n.any (aA b all) <;> rfl
@[simp] theorem FU {b all ks g n} : aT ((b,all)::ks) (.fnx g n)=if n.any (aA b all) then .any else aT ks (.fnx g n):=by
 have h : aT ((b,all)::ks) (.fnx g n)=bif (n.any (aA b all) || aF ks (.fnx g n)) then .any else .fnx g n:=bF ..
 rw [h,bF]
 cases n.any (aA b all) <;> rfl
@[simp] theorem FX {ks T n} : aT ks (.ifi T n)=.ifi T n:=by simp [aT,aF,cH,aA]
@[simp] theorem F6 {ks q n} : aT ks (.slv q n)=.slv q n:=by simp [aT,aF,cH,aA]
@[simp] theorem FW {b all ks T p k n} : aT ((b,all)::ks) (.ifa T p k n)=if bp b all p then .any else aT ks (.ifa T p k n):=by
 have h : aT ((b,all)::ks) (.ifa T p k n)=bif (bp b all p || aF ks (.ifa T p k n)) then .any else .ifa T p k n:=bF ..
 rw [h,bF]
 cases bp b all p <;> rfl
@[simp] theorem FV {b all ks g ds cs} : aT ((b,all)::ks) (.fny g ds cs)=if ds.any (aA b all) || cs.any (aA b all) then .any else aT ks (.fny g ds cs):=by
 have h : aT ((b,all)::ks) (.fny g ds cs)=bif ((ds.any (aA b all) || cs.any (aA b all)) || aF ks (.fny g ds cs)) then .any else .fny g ds cs:=bF ..
 rw [h,bF]
 cases ds.any (aA b all) <;> cases cs.any (aA b all) <;> rfl
@[simp] theorem F0 {d} : aT [] d=d:=by simp [aT,aF]
@[simp] theorem F7 {ks b es} : aT ks (slx b es)=slx b es:=by cases b <;> cases es <;> simp [slx]
def gK (C : CC) (hs : Option (List Nat)) (K : Env -> Prop) (ns : List ar) (dst : Option Nat) (_ : Tag (hs,K,ns)) (e : Env) (R : List Nat) (acc : List (List Nat × List Nat)) (sz : Nat) (es : List (List D)) (i : Nat) : Prop :=
 ∃ c,es[i]? = some c /\ c.length=sz /\ db dst (kOf C hs K ns e R acc) (.ptr c)
@[simp] theorem IS {α : Type} [Inhabited α] {sz : Nat} {xs : List α} {f : α -> List D} {i : Nat} : gK C hs K ns dst u e R acc sz (xs.map f) i=(i < xs.length /\ (f xs[i]!).length=sz /\ dW C hs K ns dst ⟨⟩ e R acc (.ptr (f xs[i]!))):=by
 apply propext
 unfold gK dW
 constructor
 ·rintro ⟨c,h,h1,h2⟩
  rw [x0w,x0h] at h
  obtain ⟨x,hx,rfl⟩:=h
  obtain ⟨hi,rfl⟩:=x0b.1 hx
  rw [x0T xs i hi]
  exact ⟨hi,h1,h2⟩
 ·rintro ⟨hi,h1,h2⟩
  rw [x0T xs i hi] at h1 h2
  exact ⟨_,by rw [x0w,x0d hi];rfl,h1,h2⟩
def kE (C : CC) (hs : Option (List Nat)) (K : Env -> Prop) (ns : List ar) (dst : Option Nat) (_ : Tag (hs,K,ns)) (e : Env) (R : List Nat) (acc : List (List Nat × List Nat)) (n : Nat) (ag : Bool) (p : Pa) (es : List (List D)) (i off : Nat) : Prop :=
 ∃ r,es[i]? = some r /\ off + n <= r.length /\ match ag with
    | true=>(((r.drop off).take n).all isV=true -> db dst (kOf C hs K ns e R acc) (.agg ((r.drop off).take n))) /\
      (((r.drop off).take n).all isV=false -> db dst (kOf C hs K ns e R acc) (.agx (((r.drop off).take n).mapIdx fun j c=>ldc p i (off + j) c)))
    | false=>db dst (kOf C hs K ns e R acc) (ldc p i off ((r.drop off).headD .any))
theorem oY {n : Nat} {ag : Bool} {p : Pa} {es : List (List D)} {i off : Nat} {r : List D} (hr : es[i]? = some r) (hl : off + n <= r.length) (hk : match ag with
    | true=>(((r.drop off).take n).all isV=true -> dW C hs K ns dst ⟨⟩ e R acc (.agg ((r.drop off).take n))) /\
      (((r.drop off).take n).all isV=false -> dW C hs K ns dst ⟨⟩ e R acc (.agx (((r.drop off).take n).mapIdx fun j c=>ldc p i (off + j) c)))
    | false=>dW C hs K ns dst ⟨⟩ e R acc (ldc p i off ((r.drop off).headD .any))) : kE C hs K ns dst u e R acc n ag p es i off:=by
 refine ⟨r,hr,hl,?_⟩
 cases ag <;> exact hk
@[simp] theorem L0 {n : Nat} {ag : Bool} {p : Pa} {r : List D} {off : Nat} : kE C hs K ns dst u e R acc n ag p [r] 0 off=(off + n <= r.length /\ match ag with
    | true=>(((r.drop off).take n).all isV=true -> dW C hs K ns dst ⟨⟩ e R acc (.agg ((r.drop off).take n))) /\
      (((r.drop off).take n).all isV=false -> dW C hs K ns dst ⟨⟩ e R acc (.agx (((r.drop off).take n).mapIdx fun j c=>ldc p 0 (off + j) c)))
    | false=>dW C hs K ns dst ⟨⟩ e R acc (ldc p 0 off ((r.drop off).headD .any))):=by
 apply propext
 constructor
 ·rintro ⟨r',h1,h2,h3⟩
  simp at h1;subst h1
  refine ⟨h2,?_⟩
  cases ag <;> exact h3
 ·rintro ⟨h2,h3⟩
  refine ⟨r,rfl,h2,?_⟩
  cases ag <;> exact h3
end
section
variable {C : CC} {Q : cq -> Env -> Prop} {e : Env} {K : Env -> Prop} {dst : Option Nat} {hs : Option (List Nat)} {ns : List ar} {R : List Nat} {acc : List (List Nat × List Nat)} {u : Tag (hs,K,ns)}
@[simp] theorem QZ {x v1} : opW C hs K ns dst (.mov x) v1 e R acc=(isS (vd (ab e) x)=true /\ dW C hs K ns dst ⟨⟩ e R acc (vd (ab e) x)):=zR
@[simp] theorem Q2 {x v1} : opW C hs K ns dst (.nck x) v1 e R acc=(match (generalizing:=false) vd (ab e) x with
  | .ptr ds=>dW C hs K ns dst ⟨⟩ e R acc (.ptr ds)
  | .adr p i off=>dW C hs K ns dst ⟨⟩ e R acc (.adr p i off)
  | .ptx ds=>dW C hs K ns dst ⟨⟩ e R acc (.ptx ds)
  | _=>False):=zR
@[simp] theorem LE {c a b v1} : opW C hs K ns dst (.pick c a b) v1 e R acc=(match (generalizing:=false) vd (ab e) c with
  | .bool v=>(v=true -> isS (vd (ab e) a)=true /\ dW C hs K ns dst ⟨⟩ e R acc (vd (ab e) a)) /\ (v=false -> isS (vd (ab e) b)=true /\ dW C hs K ns dst ⟨⟩ e R acc (vd (ab e) b))
  | _=>False):=zR
@[simp] theorem QJ {op x y v1} : opW C hs K ns dst (.bin op x y) v1 e R acc=(match (generalizing:=false) vd (ab e) x,vd (ab e) y with
  | .int k a,.int k' b=>match (generalizing:=false) op with
   | .add=>k=k' /\ dW C hs K ns dst ⟨⟩ e R acc (.int k (k.wrap (a + b)))
   | .sub=>k=k' /\ dW C hs K ns dst ⟨⟩ e R acc (.int k (k.wrap (a - b)))
   | .mul=>k=k' /\ dW C hs K ns dst ⟨⟩ e R acc (.int k (k.wrap (a * b)))
   | .quo=>k=k' /\ b ≠ 0 /\ dW C hs K ns dst ⟨⟩ e R acc (.int k (k.wrap (a.tdiv b)))
   | .rem=>k=k' /\ b ≠ 0 /\ dW C hs K ns dst ⟨⟩ e R acc (.int k (a.tmod b))
   | .and=>k=k' /\ dW C hs K ns dst ⟨⟩ e R acc (.int k (bits .and k a b))
   | .or=>k=k' /\ dW C hs K ns dst ⟨⟩ e R acc (.int k (bits .or k a b))
   | .xor=>k=k' /\ dW C hs K ns dst ⟨⟩ e R acc (.int k (bits .xor k a b))
   | .andNot=>k=k' /\ dW C hs K ns dst ⟨⟩ e R acc (.int k (bits .andNot k a b))
   | .shl=>0 <= b /\ dW C hs K ns dst ⟨⟩ e R acc (.int k (k.wrap (a * 2 ^ (min b.toNat k.bits))))
   | .shr=>0 <= b /\ dW C hs K ns dst ⟨⟩ e R acc (.int k (a.fdiv (2 ^ (min b.toNat k.bits))))
   | .eql=>k=k' /\ dW C hs K ns dst ⟨⟩ e R acc (.bool (decide (a=b)))
   | .neq=>k=k' /\ dW C hs K ns dst ⟨⟩ e R acc (.bool (!decide (a=b)))
   | .lss=>k=k' /\ dW C hs K ns dst ⟨⟩ e R acc (.bool (decide (a < b)))
   | .leq=>k=k' /\ dW C hs K ns dst ⟨⟩ e R acc (.bool (decide (a <= b)))
   | .gtr=>k=k' /\ dW C hs K ns dst ⟨⟩ e R acc (.bool (decide (b < a)))
   | .geq=>k=k' /\ dW C hs K ns dst ⟨⟩ e R acc (.bool (decide (b <= a)))
  | .str a,.str b=>match (generalizing:=false) op with
   | .eql=>dW C hs K ns dst ⟨⟩ e R acc (.bool (decide (a=b)))
   | .neq=>dW C hs K ns dst ⟨⟩ e R acc (.bool (!decide (a=b)))
   | .add=>((a++b).length : Int) <= 9223372036854775807 /\ dW C hs K ns dst ⟨⟩ e R acc (.str (a++b))
   | .lss=>dW C hs K ns dst ⟨⟩ e R acc (.bool (Op.bytesLess a b))
   | .leq=>dW C hs K ns dst ⟨⟩ e R acc (.bool (Op.bytesLess a b || a == b))
   | .gtr=>dW C hs K ns dst ⟨⟩ e R acc (.bool !(Op.bytesLess a b || a == b))
   | .geq=>dW C hs K ns dst ⟨⟩ e R acc (.bool !(Op.bytesLess a b))
   | _=>False
  | _,_=>False):=zR
@[simp] theorem SJ {op x v1} : opW C hs K ns dst (.un op x) v1 e R acc=(match (generalizing:=false) vd (ab e) x with
  | .bool b=>match (generalizing:=false) op with
   | .not=>dW C hs K ns dst ⟨⟩ e R acc (.bool (!b))
   | _=>False
  | .int k n=>match (generalizing:=false) op with
   | .neg=>dW C hs K ns dst ⟨⟩ e R acc (.int k (k.wrap (0 - n)))
   | _=>False
  | _=>False):=zR
@[simp] theorem Lx {k x v1} : opW C hs K ns dst (.conv k x) v1 e R acc=(match (generalizing:=false) vd (ab e) x with
  | .int _ n=>dW C hs K ns dst ⟨⟩ e R acc (.int k (k.wrap n))
  | _=>False):=zR
@[simp] theorem QI {neg ks x y v1} : opW C hs K ns dst (.beq neg ks x y) v1 e R acc=(match (generalizing:=false) vd (ab e) x,vd (ab e) y with
  | .bool a,.bool b=>ks=[] /\ dW C hs K ns dst ⟨⟩ e R acc (.bool ((a == b) != neg))
  | .agg a,.agg b=>ks ≠ [] /\ match (generalizing:=false) cg ks a b with
   | some r=>dW C hs K ns dst ⟨⟩ e R acc (.bool (r != neg))
   | none=>False
  | .nils,.nils=>ks=[9] /\ dW C hs K ns dst ⟨⟩ e R acc (.bool (!neg))
  | .sl es,.nils=>ks=[9] /\ (0 < es.length -> dW C hs K ns dst ⟨⟩ e R acc (.bool neg)) /\ (es.length=0 -> dW C hs K ns dst ⟨⟩ e R acc .bb)
  | .nilp,.nilp=>ks=[8] /\ dW C hs K ns dst ⟨⟩ e R acc (.bool (!neg))
  | .ptr _,.nilp=>ks=[8] /\ dW C hs K ns dst ⟨⟩ e R acc (.bool neg)
  | _,_=>False):=zR
@[simp] theorem LB {len sz ag x i v1} : opW C hs K ns dst (.idxA len sz ag x i) v1 e R acc=(match (generalizing:=false) vd (ab e) x,vd (ab e) i with
  | .agg ds,.int _ j=>0 <= j /\ j < len /\ j.toNat * sz + sz <= ds.length /\ dW C hs K ns dst ⟨⟩ e R acc (ni ag sz (ds.drop (j.toNat * sz)))
  | .agx ds,.int _ j=>0 <= j /\ j < len /\ j.toNat * sz + sz <= ds.length /\ match (generalizing:=false) ag with
   | true=>dW C hs K ns dst ⟨⟩ e R acc (.agx ((ds.drop (j.toNat * sz)).take sz))
   | false=>dW C hs K ns dst ⟨⟩ e R acc ((ds.drop (j.toNat * sz)).headD .any)
  | _,_=>False):=zR
@[simp] theorem Q3 {len sz x v1} : opW C hs K ns dst (.slA len sz x) v1 e R acc=(match (generalizing:=false) vd (ab e) x with
  | .ptr ds=>0 < len /\ 0 < sz /\ len * sz <= ds.length /\ dW C hs K ns dst ⟨⟩ e R acc (.sl (bQ sz len ds))
  | _=>False):=zR
@[simp] theorem QP {x v1} : opW C hs K ns dst (.cvS x) v1 e R acc=(match (generalizing:=false) vd (ab e) x with
  | .sl es=>0 < es.length /\ (∀ r ∈ es,∃ n : Nat,r=[.int .u8 n] /\ n < 256) /\ dW C hs K ns dst ⟨⟩ e R acc (.str (es.map fH))
  | _=>False):=zR
@[simp] theorem QQ {i x v1} : opW C hs K ns dst (.ext i x) v1 e R acc=(match (generalizing:=false) vd (ab e) x with
  | .tup ds=>∃ d,ds[i]? = some d /\ dW C hs K ns dst ⟨⟩ e R acc d
  | .tpx ds=>∃ d,ds[i]? = some d /\ dW C hs K ns dst ⟨⟩ e R acc d
  | _=>False):=zR
@[simp] theorem QR {off x v1} : opW C hs K ns dst (.fad off x) v1 e R acc=(match (generalizing:=false) vd (ab e) x with
  | .adr p i o=>dW C hs K ns dst ⟨⟩ e R acc (.adr p i (o + off))
  | .ptr ds=>dW C hs K ns dst ⟨⟩ e R acc (.ptr (ds.drop off))
  | .ptx ds=>dW C hs K ns dst ⟨⟩ e R acc (.ptx (ds.drop off))
  | _=>False):=zR
@[simp] theorem Lz {len sz x i v1} : opW C hs K ns dst (.iadA len sz x i) v1 e R acc=(match (generalizing:=false) vd (ab e) x,vd (ab e) i with
  | .adr p r o,.int _ j=>0 <= j /\ j < len /\ dW C hs K ns dst ⟨⟩ e R acc (.adr p r (o + j.toNat * sz))
  | .ptr ds,.int _ j=>0 <= j /\ j < len /\ dW C hs K ns dst ⟨⟩ e R acc (.ptr (ds.drop (j.toNat * sz)))
  | _,_=>False):=zR
@[simp] theorem SE {n ag x v1} : opW C hs K ns dst (.ld n ag x) v1 e R acc=(match (generalizing:=false) vd (ab e) x with
  | .adr p i off=>match (generalizing:=false) bk (ab e) p with
   | some (_,es)=>kE C hs K ns dst ⟨⟩ e R acc n ag p es i off
   | none=>False
  | .ptr ds=>n <= ds.length /\ dW C hs K ns dst ⟨⟩ e R acc (ni ag n ds)
  | .ptx ds=>n <= ds.length /\ match (generalizing:=false) ag with
   | true=>((ds.take n).all isV=true -> dW C hs K ns dst ⟨⟩ e R acc (.agg (ds.take n))) /\ ((ds.take n).all isV=false -> dW C hs K ns dst ⟨⟩ e R acc (.agx (ds.take n)))
   | false=>0 < n /\ dW C hs K ns dst ⟨⟩ e R acc (ds.headD .any)
  | _=>False):=zR
@[simp] theorem QK {zs parts v1} : opW C hs K ns dst (.bld zs parts) v1 e R acc=((∀ p ∈ parts,isS (vd (ab e) p.2.2)=true /\ p.1 + p.2.1 <= zs.length /\ match (generalizing:=false) vd (ab e) p.2.2 with
    | .agg ds=>ds.length=p.2.1
    | .agx ds=>ds.length=p.2.1
    | .any=>False
    | .tpx _=>False
    | .ptx _=>False
    | .rfx _ _ _=>False
    | .fny _ _ _=>False
    | .fnx _ _=>False
    | _=>p.2.1=1) /\
   ((parts.all fun p=>isV (vd (ab e) p.2.2))=true -> dW C hs K ns dst ⟨⟩ e R acc (.agg (gY zs (parts.map fun p=>(p.1,p.2.1,vd (ab e) p.2.2))))) /\
   ((parts.all fun p=>isV (vd (ab e) p.2.2))=false -> dW C hs K ns dst ⟨⟩ e R acc (.agx (gY zs (parts.map fun p=>(p.1,p.2.1,bN (vd (ab e) p.2.2))))))):=zR
@[simp] theorem LC {x v1} : opW C hs K ns dst (.lens x) v1 e R acc=(match (generalizing:=false) vd (ab e) x with
  | .str s=>dW C hs K ns dst ⟨⟩ e R acc (.int .i64 s.length)
  | _=>False):=zR
@[simp] theorem SF {g xs v1} : opW C hs K ns dst (.mk g xs) v1 e R acc=((∀ x ∈ xs,isP (vd (ab e) x)=true) /\ ((xs.all fun x=>isV (vd (ab e) x))=true -> dW C hs K ns dst ⟨⟩ e R acc (.fn g (xs.map (vd (ab e))))) /\ ((xs.all fun x=>isV (vd (ab e) x))=false -> dW C hs K ns dst ⟨⟩ e R acc (.fnx g (xs.map (vd (ab e)))))):=zR
@[simp] theorem SG {x y v1} : opW C hs K ns dst (.mn x y) v1 e R acc=(match (generalizing:=false) vd (ab e) x,vd (ab e) y with
  | .int k a,.int k' b=>k=k' /\ dW C hs K ns dst ⟨⟩ e R acc (.int k (if b < a then b else a))
  | _,_=>False):=zR
@[simp] theorem SH {x y v1} : opW C hs K ns dst (.mx x y) v1 e R acc=(match (generalizing:=false) vd (ab e) x,vd (ab e) y with
  | .int k a,.int k' b=>k=k' /\ dW C hs K ns dst ⟨⟩ e R acc (.int k (if a < b then b else a))
  | _,_=>False):=zR
@[simp] theorem LD {sz v1} : opW C hs K ns dst (.nilo sz) v1 e R acc=(match (generalizing:=false) dst with
  | some t=>0 < sz /\ doW C hs K ns ⟨⟩ e R acc [(t,.ref (.r (rt t 0)) 0 0),(rt t 0,.blk sz [])] [(rt t 0,true)]
  | none=>False):=zR
@[simp] theorem QN {x t v1} : opW C hs K ns (some t) (.box [] x) v1 e R acc=fP (ab e) (vd (ab e) x) [] (fun cs bs=>bs.contains (rt t 0)=false /\ doW C hs K ns ⟨⟩ e R acc ((t,.adr (.r (rt t 0)) 0 0)::(rt t 0,.blk cs.length [cs])::cc bs) [(rt t 0,true)]) ⟨⟩:=zR
@[simp] theorem QF {zs v1} : opW C hs K ns dst (.alc zs) v1 e R acc=(match (generalizing:=false) dst with
  | some t=>doW C hs K ns ⟨⟩ e R acc [(t,.adr (.r (rt t 0)) 0 0),(rt t 0,.blk zs.length [zs])] [(rt t 0,true)]
  | none=>False):=zR
@[simp] theorem QL {sz len zs parts t v1} : opW C hs K ns (some t) (.bls sz len zs [] parts) v1 e R acc=oS (ab e) sz parts (List.replicate len zs) [] (fun es bs=>bI bs=true /\ bs.contains (rt t 0)=false /\ doW C hs K ns ⟨⟩ e R acc ((t,.ref (.r (rt t 0)) 0 len)::(rt t 0,.blk sz es)::cc bs) [(rt t 0,true)]) ⟨⟩:=zR
@[simp] theorem QY {sz by_ zs n c v1} : opW C hs K ns dst (.mks sz by_ zs n c) v1 e R acc=(match (generalizing:=false) dst with
  | some t=>match (generalizing:=false) vd (ab e) n,vd (ab e) c with
   | .int _ n,.int _ c=>0 <= n /\ n <= c /\ c * by_ <= 140737488355328 /\ doW C hs K ns ⟨⟩ e R acc [(t,.ref (.r (rt t 0)) 0 n.toNat),(rt t 0,.blk sz (List.replicate c.toNat zs))] [(rt t 0,true)]
   | _,_=>False
  | none=>False):=zR
def stM (C : CC) (hs : Option (List Nat)) (K : Env -> Prop) (ns : List ar) (_ : Tag (hs,K,ns)) (e : Env) (R : List Nat) (acc : List (List Nat × List Nat)) (n : Nat) (v : D) (cs : List D) (bs : List Nat) (a : D) : Prop:=match a with
 | .adr (.r b) i off=>bs.contains b=false /\ ek (ab e b) (fun sz es=>io es[i]? (fun r=>off + n <= r.length /\ doW C hs K ns ⟨⟩ e R acc ((b,.blk sz (bJ es i off n cs))::cc bs) (stK v [] b)) ⟨⟩) ⟨⟩
 | .adr (.n b i0 o0) i off=>bs=[] /\ (∀ c ∈ cs,aC c=true) /\ ek (ab e b) (fun sz0 es0=>io es0[i0]? (fun row0=>mA row0[o0]? (fun sz es=>io es[i]? (fun r=>off + n <= r.length /\ doW C hs K ns ⟨⟩ e R acc [(b,.blk sz0 (bJ es0 i0 o0 1 [.own sz (bJ es i off n cs)]))] []) ⟨⟩) ⟨⟩) ⟨⟩) ⟨⟩
 | _=>False
@[simp] theorem S6 {n v cs bs b i off} : stM C hs K ns u e R acc n v cs bs (.adr (.r b) i off)=(bs.contains b=false /\ ek (ab e b) (fun sz es=>io es[i]? (fun r=>off + n <= r.length /\ doW C hs K ns ⟨⟩ e R acc ((b,.blk sz (bJ es i off n cs))::cc bs) (stK v [] b)) ⟨⟩) ⟨⟩):=zR
@[simp] theorem S5 {n v cs bs b i0 o0 i off} : stM C hs K ns u e R acc n v cs bs (.adr (.n b i0 o0) i off)=(bs=[] /\ (∀ c ∈ cs,aC c=true) /\ ek (ab e b) (fun sz0 es0=>io es0[i0]? (fun row0=>mA row0[o0]? (fun sz es=>io es[i]? (fun r=>off + n <= r.length /\ doW C hs K ns ⟨⟩ e R acc [(b,.blk sz0 (bJ es0 i0 o0 1 [.own sz (bJ es i off n cs)]))] []) ⟨⟩) ⟨⟩) ⟨⟩) ⟨⟩):=zR
@[simp] theorem SI {n a v v1} : opW C hs K ns dst (.st n [] a v) v1 e R acc=(dst=none /\ fP (ab e) (vd (ab e) v) [] (fun cs bs=>cs.length=n /\ stM C hs K ns ⟨⟩ e R acc n (vd (ab e) v) cs bs (vd (ab e) a)) ⟨⟩):=by
 show (dst=none /\ fm (ab e) (vd (ab e) v) [] _)=(dst=none /\ fm (ab e) (vd (ab e) v) [] _)
 congr 1
 congr 1
 funext cs bs
 cases vd (ab e) a <;> try rfl
 rename_i p i off
 cases p with
 | r b =>
  simp only [stM,ek,gw]
  cases ab e b <;> rfl
 | n b i0 o0 =>
  simp only [stM,ek,gw,lD]
  cases ab e b <;> rfl
def s8 (C : CC) (hs : Option (List Nat)) (K : Env -> Prop) (ns : List ar) (_ : Tag (hs,K,ns)) (e : Env) (R : List Nat) (acc : List (List Nat × List Nat)) (t sz by_ : Nat) (rowsY : List (List D)) (bs : List Nat) (x : D) : Prop:=match x with
 | .nils=>rowsY.length * by_ <= 140737488355328 /\ doW C hs K ns ⟨⟩ e R acc ((t,.ref (.r (rt t 0)) 0 rowsY.length)::(rt t 0,.blk sz rowsY)::cc bs) [(rt t 0,true)]
 | .ref (.r c) k n=>c ≠ rt t 0 /\ bs.contains c=false /\ ek (ab e c) (fun sz' es=>sz'=sz /\ k + n <= es.length /\ (n + rowsY.length) * by_ <= 140737488355328 /\
      doW C hs K ns ⟨⟩ e R acc ((t,.ref (.r (rt t 0)) 0 (n + rowsY.length))::(rt t 0,.blk sz ((es.drop k).take n++rowsY))::(c,.any)::cc bs) [(rt t 0,true)]) ⟨⟩
 | .ref (.n c i o) k n=>c ≠ rt t 0 /\ bs.contains c=false /\ ek (ab e c) (fun sz0 es0=>io es0[i]? (fun row0=>mA row0[o]? (fun sz' es=>sz'=sz /\ k + n <= es.length /\ (n + rowsY.length) * by_ <= 140737488355328 /\
      doW C hs K ns ⟨⟩ e R acc ((t,.ref (.r (rt t 0)) 0 (n + rowsY.length))::(rt t 0,.blk sz ((es.drop k).take n++rowsY))::(c,.blk sz0 (bJ es0 i o 1 [.any]))::cc bs) [(rt t 0,true)]) ⟨⟩) ⟨⟩) ⟨⟩
 | _=>False
@[simp] theorem D6 {t sz by_ rowsY bs} : s8 C hs K ns u e R acc t sz by_ rowsY bs .nils=(rowsY.length * by_ <= 140737488355328 /\ doW C hs K ns ⟨⟩ e R acc ((t,.ref (.r (rt t 0)) 0 rowsY.length)::(rt t 0,.blk sz rowsY)::cc bs) [(rt t 0,true)]):=zR
@[simp] theorem Rr {t sz by_ rowsY bs c k n} : s8 C hs K ns u e R acc t sz by_ rowsY bs (.ref (.r c) k n)=(c ≠ rt t 0 /\ bs.contains c=false /\ ek (ab e c) (fun sz' es=>sz'=sz /\ k + n <= es.length /\ (n + rowsY.length) * by_ <= 140737488355328 /\
      doW C hs K ns ⟨⟩ e R acc ((t,.ref (.r (rt t 0)) 0 (n + rowsY.length))::(rt t 0,.blk sz ((es.drop k).take n++rowsY))::(c,.any)::cc bs) [(rt t 0,true)]) ⟨⟩):=zR
@[simp] theorem Rq {t sz by_ rowsY bs c i o k n} : s8 C hs K ns u e R acc t sz by_ rowsY bs (.ref (.n c i o) k n)=(c ≠ rt t 0 /\ bs.contains c=false /\ ek (ab e c) (fun sz0 es0=>io es0[i]? (fun row0=>mA row0[o]? (fun sz' es=>sz'=sz /\ k + n <= es.length /\ (n + rowsY.length) * by_ <= 140737488355328 /\
      doW C hs K ns ⟨⟩ e R acc ((t,.ref (.r (rt t 0)) 0 (n + rowsY.length))::(rt t 0,.blk sz ((es.drop k).take n++rowsY))::(c,.blk sz0 (bJ es0 i o 1 [.any]))::cc bs) [(rt t 0,true)]) ⟨⟩) ⟨⟩) ⟨⟩):=zR
@[simp] theorem QG {sz by_ mv x y t v1} : opW C hs K ns (some t) (.app sz by_ mv x y) v1 e R acc=iq (ab e) mv (vd (ab e) y) sz (fun rowsY bs=>bs.contains (rt t 0)=false /\ s8 C hs K ns ⟨⟩ e R acc t sz by_ rowsY bs (vd (ab e) x)) ⟨⟩:=by
 unfold opW iq
 simp only [aB]
 congr 1
 funext rowsY bs
 congr 1
 cases vd (ab e) x <;> try rfl
 rename_i p k n
 cases p with
 | r c =>
  simp only [s8,ek]
  cases ab e c <;> rfl
 | n c i o =>
  simp only [s8,ek,gw,lD]
  cases hl : ab e c <;> try rfl
  rename_i sz0 es0
  refine congrArg _ (congrArg _ (propext ⟨?_,?_⟩))
  ·rintro ⟨row0,h1,es,h2,h3⟩
   exact ⟨row0,h1,sz,es,h2,rfl,h3⟩
  ·rintro ⟨row0,h1,sz',es,h2,rfl,h3⟩
   exact ⟨row0,h1,es,h2,h3⟩
@[simp] theorem Ml {g b n xs sz es} : Dq C g hs K ns dst u e R acc b n xs (.blk sz es)=(es.length=n /\ (∀ e ∈ es,∀ c ∈ e,aC c=true) /\ (∀ x ∈ xs,bC (fbE (ab e) b) (vd (fbE (ab e) b) x)) /\ qu C g hs K ns dst ⟨⟩ e R acc b sz es (xs.map (dpv (fbE (ab e) b))) (xs.all fun y=>isV (vd (fbE (ab e) b) y))):=zR
@[simp] theorem Mn {g xs b k n} : Mm C g hs K ns dst u e R acc xs (.ref (.r b) k n)=(k=0 /\ Dq C g hs K ns dst ⟨⟩ e R acc b n xs (ab e b)):=zR
@[simp] theorem GE {g x xs v1} : opW C hs K ns dst (.callS g x xs) v1 e R acc=(Mm C g hs K ns dst ⟨⟩ e R acc xs (vd (ab e) x)):=by
 cases dst <;> rfl
def xn (n : Nat) (d : D) : Prop:=match d with
 | .blk _ es=>es.length=n /\ ∀ e ∈ es,∀ c ∈ e,aV c=true
 | _=>False
def pe (f : Nat -> D) (b : Nat) (d : D) : Prop:=match d with
 | .ref (.r c) k n=>k=0 /\ c ≠ b /\ xn n (f c)
 | d=>isV d=true
def yt (d : D) : D:=match d with
 | .blk sz es=>.own sz es
 | _=>.any
def rV (f : Nat -> D) (d : D) : D:=match d with
 | .ref (.r c) _ _=>yt (f c)
 | d=>d
@[simp] theorem Hi {n sz es} : xn n (.blk sz es)=(es.length=n /\ ∀ e ∈ es,∀ c ∈ e,aV c=true):=zR
@[simp] theorem LH {sz es} : yt (.blk sz es)=.own sz es:=zR
@[simp] theorem Mx {f : Nat -> D} {b : Nat} {x : Opd} : lw f b x=pe f b (vd f x):=by
 unfold lw pe xn
 cases vd f x <;> rfl
@[simp] theorem My {f : Nat -> D} {x : Opd} : j0 f x=rV f (vd f x):=by
 unfold j0 rV yt
 cases vd f x <;> rfl
@[simp] theorem D8 {f : Nat -> D} {b c k n} : pe f b (.ref (.r c) k n)=(k=0 /\ c ≠ b /\ xn n (f c)):=zR
@[simp] theorem Ea {f : Nat -> D} {c k n} : rV f (.ref (.r c) k n)=yt (f c):=zR
@[simp] theorem D7 {f : Nat -> D} {b k n} : pe f b (.int k n)=True:=by simp [pe,isV]
@[simp] theorem D9 {f : Nat -> D} {k n} : rV f (.int k n)=.int k n:=zR
def uQ (C : CC) (g : Nat) (hs : Option (List Nat)) (K : Env -> Prop) (ns : List ar) (t : Nat) (_ : Tag (hs,K,ns)) (e : Env) (R : List Nat) (acc : List (List Nat × List Nat)) (sz : Nat) (W : List (List D)) (ds : List D) (q : Nat × D) : Prop :=
 ∃ es' : List (List D),(∀ e ∈ es',e.length=sz /\ ∀ c ∈ e,aV c=true) /\ C g (.own sz W::ds) .any [.own sz es',.nils,.nils] /\ doW C hs K ns ⟨⟩ e R acc [(t,.ref (.r (rt t 0)) 0 es'.length),(rt t 0,.blk sz es'),q] [(rt t 0,true)]
theorem xC {g : Nat} {hs : Option (List Nat)} {K : Env -> Prop} {ns : List ar} {t : Nat} {u : Tag (hs,K,ns)} {e : Env} {R : List Nat} {acc : List (List Nat × List Nat)} {sz : Nat} {W es' : List (List D)} {ds : List D} {q : Nat × D} (h : C g (.own sz W::ds) .any [.own sz es',.nils,.nils]) (hu : ∀ e ∈ es',e.length=sz /\ ∀ c ∈ e,aV c=true)
  (hk : doW C hs K ns ⟨⟩ e R acc [(t,.ref (.r (rt t 0)) 0 es'.length),(rt t 0,.blk sz es'),q] [(rt t 0,true)]) : uQ C g hs K ns t u e R acc sz W ds q:=⟨es',hu,h,hk⟩
def uP (C : CC) (g : Nat) (hs : Option (List Nat)) (K : Env -> Prop) (ns : List ar) (t : Nat) (_ : Tag (hs,K,ns)) (e : Env) (R : List Nat) (acc : List (List Nat × List Nat)) (xs : List Opd) (d : D) : Prop:=match d with
 | .ref (.r b) k n=>ek (ab e b) (fun sz es=>k + n <= es.length /\ b ≠ rt t 0 /\ 0 < sz /\ (∀ e ∈ (es.drop k).take n,∀ c ∈ e,aV c=true) /\ (∀ x ∈ xs,lw (ab e) b x) /\ uQ C g hs K ns t ⟨⟩ e R acc sz ((es.drop k).take n) (xs.map (j0 (ab e))) (b,.any)) ⟨⟩
 | .ref (.n b i o) k n=>ek (ab e b) (fun sz0 es0=>io es0[i]? (fun row0=>mA row0[o]? (fun sz es=>k + n <= es.length /\ b ≠ rt t 0 /\ 0 < sz /\ (∀ e ∈ (es.drop k).take n,∀ c ∈ e,aV c=true) /\ (∀ x ∈ xs,lw (ab e) b x) /\
   uQ C g hs K ns t ⟨⟩ e R acc sz ((es.drop k).take n) (xs.map (j0 (ab e))) (b,.blk sz0 (bJ es0 i o 1 [.any]))) ⟨⟩) ⟨⟩) ⟨⟩
 | _=>False
@[simp] theorem RX {g xs t b k n} : uP C g hs K ns t u e R acc xs (.ref (.r b) k n)=ek (ab e b) (fun sz es=>k + n <= es.length /\ b ≠ rt t 0 /\ 0 < sz /\ (∀ e ∈ (es.drop k).take n,∀ c ∈ e,aV c=true) /\ (∀ x ∈ xs,lw (ab e) b x) /\ uQ C g hs K ns t ⟨⟩ e R acc sz ((es.drop k).take n) (xs.map (j0 (ab e))) (b,.any)) ⟨⟩:=zR
@[simp] theorem RW {g xs t b i o k n} : uP C g hs K ns t u e R acc xs (.ref (.n b i o) k n)=ek (ab e b) (fun sz0 es0=>io es0[i]? (fun row0=>mA row0[o]? (fun sz es=>k + n <= es.length /\ b ≠ rt t 0 /\ 0 < sz /\ (∀ e ∈ (es.drop k).take n,∀ c ∈ e,aV c=true) /\ (∀ x ∈ xs,lw (ab e) b x) /\
   uQ C g hs K ns t ⟨⟩ e R acc sz ((es.drop k).take n) (xs.map (j0 (ab e))) (b,.blk sz0 (bJ es0 i o 1 [.any]))) ⟨⟩) ⟨⟩) ⟨⟩:=zR
@[simp] theorem Gz {g x xs t v1} : opW C hs K ns (some t) (.callE g x xs) v1 e R acc=uP C g hs K ns t ⟨⟩ e R acc xs (vd (ab e) x):=by
 unfold opW
 simp only [aB]
 cases vd (ab e) x <;> try rfl
 rename_i p k n
 cases p with
 | r b =>
  simp only [uP,ek,bk,Pa.root,cS]
  cases ab e b <;> rfl
 | n b i o =>
  simp only [uP,ek,gw,lD,bk,Pa.root,cS]
  cases hl : ab e b <;> try rfl
  rename_i sz0 es0
  simp only
  cases hi : es0[i]? with
  | none=>simp
  | some row0 =>
   simp only [x1w,x0j,exists_eq_left']
   cases ho : row0[o]? with
   | none=>simp
   | some d =>
    cases d
    case own sz es=>exact propext ⟨fun h=>⟨sz,es,rfl,h⟩,fun ⟨sz',es',h0,h⟩=>by cases h0;exact h⟩
    all_goals simp
@[simp] theorem Fd {f : Nat -> D} {b k n sz es} : b0 f (.ref (.r b) k n) (.own sz es)=(k=0 /\ n=es.length /\ f b=.blk sz es):=zR
@[simp] theorem Fb {f : Nat -> D} {b k n sz es} : b0 f (.adr (.r b) k n) (.blk sz es)=(k=0 /\ n=0 /\ f b=.blk sz es):=zR
@[simp] theorem Fc {f : Nat -> D} {k n r} : b0 f (.int k n) r=(r=.int k n):=by simp [b0]
@[simp] theorem BV {f : Nat -> D} {n r} : b0 f (.bool n) r=(r=.bool n):=by simp [b0]
@[simp] theorem Fe {f : Nat -> D} {n r} : b0 f (.str n) r=(r=.str n):=by simp [b0]
@[simp] theorem BX {f : Nat -> D} {r} : b0 f .nils r=(r=.nils):=by simp [b0]
@[simp] theorem BW {f : Nat -> D} {r} : b0 f .nilp r=(r=.nilp):=by simp [b0]
@[simp] theorem IE {f : Nat -> D} {n r} : b0 f (.sl n) r=(r=.sl n):=by simp [b0]
@[simp] theorem Fa {f : Nat -> D} {n r} : b0 f (.agg n) r=(r=.agg n):=by simp [b0]
@[simp] theorem GW {t d} : bX (some t) d=[(t,d)]:=zR
@[simp] theorem GV {d} : bX none d=[]:=zR
@[simp] theorem Dy {t} : Bc (some t)=[(t,.tup [])]:=zR
@[simp] theorem Dx : Bc none=[]:=zR
@[simp] theorem Gy {g xs t v1} : opW C hs K ns (some t) (.callA g xs) v1 e R acc=((∀ x ∈ xs,isV (vd (ab e) x)=true) /\ uA C g hs K ns t ⟨⟩ e R acc (xs.map (vd (ab e)))):=zR
@[simp] theorem GA {g xs t v1} : opW C hs K ns (some t) (.callF g xs) v1 e R acc=((∀ x ∈ xs,bC (ab e) (vd (ab e) x)) /\ uB C g hs K ns t ⟨⟩ e R acc (xs.map (dpv (ab e)))):=zR
@[simp] theorem Lw {g xs x0 v1} : opW C hs K ns dst (.call g xs x0) v1 e R acc=((∀ x ∈ xs,bC (ab e) (vd (ab e) x)) /\ pi C g hs K ns dst ⟨⟩ e R acc (xs.all fun x=>isV (vd (ab e) x)) (xs.map (dpv (ab e)))):=zR
def j3 (C : CC) (hs : Option (List Nat)) (K : Env -> Prop) (ns : List ar) (t : Nat) (_ : Tag (hs,K,ns)) (e : Env) (R : List Nat) (acc : List (List Nat × List Nat)) (d : D) : Prop:=match d with
 | .ref (.r c) k n=>if c=rt t 0 then doW C hs K ns ⟨⟩ e R acc [(t,.ref (.r c) k n)] [] else match ab e c with
  | .blk sz es=>doW C hs K ns ⟨⟩ e R acc [(t,.ref (.r (rt t 0)) k n),(rt t 0,.blk sz es),(c,.any)] [(rt t 0,true)]
  | _=>False
 | d=>isS d=true /\ doW C hs K ns ⟨⟩ e R acc [(t,d)] []
@[simp] theorem QH {t x v1} : opW C hs K ns (some t) (.asg x) v1 e R acc=j3 C hs K ns t ⟨⟩ e R acc (vd (ab e) x):=zR
@[simp] theorem Hk {t c k n} : j3 C hs K ns t u e R acc (.ref (.r c) k n)=(if c=rt t 0 then doW C hs K ns ⟨⟩ e R acc [(t,.ref (.r c) k n)] [] else match ab e c with
  | .blk sz es=>doW C hs K ns ⟨⟩ e R acc [(t,.ref (.r (rt t 0)) k n),(rt t 0,.blk sz es),(c,.any)] [(rt t 0,true)]
  | _=>False):=zR
@[simp] theorem Ec {t b i o k n} : j3 C hs K ns t u e R acc (.ref (.n b i o) k n)=doW C hs K ns ⟨⟩ e R acc [(t,.ref (.n b i o) k n)] []:=by simp [j3]
@[simp] theorem Eb {t} : j3 C hs K ns t u e R acc .nils=doW C hs K ns ⟨⟩ e R acc [(t,.nils)] []:=by simp [j3]
@[simp] theorem Mz {t es} : j3 C hs K ns t u e R acc (.sl es)=doW C hs K ns ⟨⟩ e R acc [(t,.sl es)] []:=by simp [j3]
@[simp] theorem Hl {t b es} : j3 C hs K ns t u e R acc (slx b es)=doW C hs K ns ⟨⟩ e R acc [(t,slx b es)] []:=by
 rcases eV b es with h | ⟨h,_⟩ <;> rw [h] <;> simp
@[simp] theorem Hj {t} : j3 C hs K ns t u e R acc .any=doW C hs K ns ⟨⟩ e R acc [(t,.any)] []:=by simp [j3]
@[simp] theorem Hm {t ds} : j3 C hs K ns t u e R acc (.tup ds)=doW C hs K ns ⟨⟩ e R acc [(t,.tup ds)] []:=by simp [j3]
def qL (C : CC) (hs : Option (List Nat)) (K : Env -> Prop) (ns : List ar) (t : Nat) (_ : Tag (hs,K,ns)) (e : Env) (R : List Nat) (acc : List (List Nat × List Nat)) (d : D) : Prop:=match d with
 | .ref (.r c) k n=>aO (ab e) (.ref (.r c) k n) /\ doW C hs K ns ⟨⟩ e R acc [(t,dp1 (ab e) (.ref (.r c) k n)),(c,.any)] []
 | d=>isS d=true /\ doW C hs K ns ⟨⟩ e R acc [(t,d)] []
@[simp] theorem QS {t x v1} : opW C hs K ns (some t) (.frz x) v1 e R acc=qL C hs K ns t ⟨⟩ e R acc (vd (ab e) x):=zR
@[simp] theorem Iv {t c k n} : qL C hs K ns t u e R acc (.ref (.r c) k n)=(aO (ab e) (.ref (.r c) k n) /\ doW C hs K ns ⟨⟩ e R acc [(t,dp1 (ab e) (.ref (.r c) k n)),(c,.any)] []):=zR
@[simp] theorem E7 {t} : qL C hs K ns t u e R acc .nils=doW C hs K ns ⟨⟩ e R acc [(t,.nils)] []:=by simp [qL]
@[simp] theorem Nq {t es} : qL C hs K ns t u e R acc (.sl es)=doW C hs K ns ⟨⟩ e R acc [(t,.sl es)] []:=by simp [qL]
@[simp] theorem Iw {t b es} : qL C hs K ns t u e R acc (slx b es)=doW C hs K ns ⟨⟩ e R acc [(t,slx b es)] []:=by
 rcases eV b es with h | ⟨h,_⟩ <;> rw [h] <;> simp
def yb (C : CC) (hs : Option (List Nat)) (K : Env -> Prop) (ns : List ar) (dst : Option Nat) (_ : Tag (hs,K,ns)) (e : Env) (R : List Nat) (acc : List (List Nat × List Nat)) (c i off : Nat) (d : D) : Prop:=match d with
 | .blk _ es=>∃ r,es[i]? = some r /\ ∃ d,r[off]? = some d /\ db dst (kOf C hs K ns e R acc) (ldc (.r c) i off d)
 | _=>False
@[simp] theorem KC {c i off sz es} : yb C hs K ns dst u e R acc c i off (.blk sz es)=io es[i]? (fun r=>xp r[off]? (fun d=>dW C hs K ns dst ⟨⟩ e R acc (ldc (.r c) i off d)) ⟨⟩) ⟨⟩:=by
 simp only [yb,gw,xq];rfl
def KD (C : CC) (hs : Option (List Nat)) (K : Env -> Prop) (ns : List ar) (dst : Option Nat) (_ : Tag (hs,K,ns)) (e : Env) (R : List Nat) (acc : List (List Nat × List Nat)) (q : Nat) (d : D) : Prop:=match d with
 | .adr (.r c) i off=>off=q /\ yb C hs K ns dst ⟨⟩ e R acc c i off (ab e c)
 | _=>False
@[simp] theorem KE {q c i off} : KD C hs K ns dst u e R acc q (.adr (.r c) i off)=(off=q /\ yb C hs K ns dst ⟨⟩ e R acc c i off (ab e c)):=zR
@[simp] theorem QU {q x v1} : opW C hs K ns dst (.ldQ q x) v1 e R acc=KD C hs K ns dst ⟨⟩ e R acc q (vd (ab e) x):=zR
def xm (C : CC) (hs : Option (List Nat)) (K : Env -> Prop) (ns : List ar) (t : Nat) (_ : Tag (hs,K,ns)) (e : Env) (R : List Nat) (acc : List (List Nat × List Nat)) (sz by_ : Nat) (rowsY : List (List D)) (c i o k n : Nat) (d : D) : Prop:=match d with
 | .blk sz0 es0=>∃ row0,es0[i]? = some row0 /\ ∃ es,row0[o]? = some (.own sz es) /\ k + n <= es.length /\ (n + rowsY.length) * by_ <= 140737488355328 /\
   kOf C hs K ns e R acc [(t,.ref (.r (rt t 0)) 0 (n + rowsY.length)),(rt t 0,.blk sz ((es.drop k).take n++rowsY)),(c,.blk sz0 (bJ es0 i o 1 [.any]))] [(rt t 0,true)]
 | _=>False
@[simp] theorem Hf {t sz by_ rowsY c i o k n sz0 es0} : xm C hs K ns t u e R acc sz by_ rowsY c i o k n (.blk sz0 es0)=io es0[i]? (fun row0=>mA row0[o]? (fun sz' es=>sz'=sz /\ k + n <= es.length /\ (n + rowsY.length) * by_ <= 140737488355328 /\
   doW C hs K ns ⟨⟩ e R acc [(t,.ref (.r (rt t 0)) 0 (n + rowsY.length)),(rt t 0,.blk sz ((es.drop k).take n++rowsY)),(c,.blk sz0 (bJ es0 i o 1 [.any]))] [(rt t 0,true)]) ⟨⟩) ⟨⟩:=by
 simp only [xm,gw,lD]
 refine propext ⟨?_,?_⟩
 ·rintro ⟨row0,h1,es,h2,h3,h4,h5⟩
  exact ⟨row0,h1,sz,es,h2,rfl,h3,h4,h5⟩
 ·rintro ⟨row0,h1,sz',es,h2,rfl,h3,h4,h5⟩
  exact ⟨row0,h1,es,h2,h3,h4,h5⟩
def Hg (C : CC) (hs : Option (List Nat)) (K : Env -> Prop) (ns : List ar) (t : Nat) (_ : Tag (hs,K,ns)) (e : Env) (R : List Nat) (acc : List (List Nat × List Nat)) (q sz by_ : Nat) (yd : D) (d : D) : Prop:=match d with
 | .ref (.n c i o') k n=>o'=q /\ eI (ab e) false yd sz fun rowsY bs=>bs=[] /\ c ≠ rt t 0 /\ xm C hs K ns t ⟨⟩ e R acc sz by_ rowsY c i o' k n (ab e c)
 | _=>False
@[simp] theorem Hh {t q sz by_ yd c i o k n} : Hg C hs K ns t u e R acc q sz by_ yd (.ref (.n c i o) k n)=(o=q /\ iq (ab e) false yd sz (fun rowsY bs=>bs=[] /\ c ≠ rt t 0 /\ xm C hs K ns t ⟨⟩ e R acc sz by_ rowsY c i o k n (ab e c)) ⟨⟩):=zR
@[simp] theorem Lt {t q sz by_ x y v1} : opW C hs K ns (some t) (.appQ q sz by_ x y) v1 e R acc=Hg C hs K ns t ⟨⟩ e R acc q sz by_ (vd (ab e) y) (vd (ab e) x):=zR
def BC (C : CC) (hs : Option (List Nat)) (K : Env -> Prop) (ns : List ar) (t : Nat) (_ : Tag (hs,K,ns)) (e : Env) (R : List Nat) (acc : List (List Nat × List Nat)) (sz : Nat) (rows : List (List D)) (b k n : Nat) (d : D) : Prop:=match d with
 | .blk sz' es=>sz'=sz /\ k + n <= es.length /\ (∀ e ∈ es,∀ c ∈ e,aC c=true) /\ (∀ e ∈ rows,∀ c ∈ e,aC c=true) /\ kOf C hs K ns e R acc [(t,.int .i64 (min rows.length n : Nat)),(b,.blk sz (gT es k (rows.take n)))] []
 | _=>False
@[simp] theorem HG {t sz rows b k n sz' es} : BC C hs K ns t u e R acc sz rows b k n (.blk sz' es)=(sz'=sz /\ k + n <= es.length /\ (∀ e ∈ es,∀ c ∈ e,aC c=true) /\ (∀ e ∈ rows,∀ c ∈ e,aC c=true) /\ doW C hs K ns ⟨⟩ e R acc [(t,.int .i64 (min rows.length n : Nat)),(b,.blk sz (gT es k (rows.take n)))] []):=zR
def HH (C : CC) (hs : Option (List Nat)) (K : Env -> Prop) (ns : List ar) (t : Nat) (_ : Tag (hs,K,ns)) (e : Env) (R : List Nat) (acc : List (List Nat × List Nat)) (sz : Nat) (rows : List (List D)) (d : D) : Prop:=match d with
 | .ref (.r b) k n=>(n=0 -> kOf C hs K ns e R acc [(t,.int .i64 0)] []) /\ (0 < n -> BC C hs K ns t ⟨⟩ e R acc sz rows b k n (ab e b))
 | _=>False
@[simp] theorem HI {t sz rows b k n} : HH C hs K ns t u e R acc sz rows (.ref (.r b) k n)=((n=0 -> doW C hs K ns ⟨⟩ e R acc [(t,.int .i64 0)] []) /\ (0 < n -> BC C hs K ns t ⟨⟩ e R acc sz rows b k n (ab e b))):=zR
@[simp] theorem QO {t sz x y v1} : opW C hs K ns (some t) (.cpy sz x y) v1 e R acc=iq (ab e) false (vd (ab e) y) sz (fun rows bs=>bs=[] /\ 0 < rows.length /\ HH C hs K ns t ⟨⟩ e R acc sz rows (vd (ab e) x)) ⟨⟩:=zR
def ya (C : CC) (hs : Option (List Nat)) (K : Env -> Prop) (ns : List ar) (t : Nat) (_ : Tag (hs,K,ns)) (e : Env) (R : List Nat) (acc : List (List Nat × List Nat)) (n c i off : Nat) (d : D) : Prop:=match d with
 | .blk _ es=>∃ r,es[i]? = some r /\ off + n <= r.length /\ doW C hs K ns ⟨⟩ e R acc [(t,.agg (((r.drop off).take n).map aW)),(c,.any)] []
 | _=>False
@[simp] theorem Kz {t n c i off sz es} : ya C hs K ns t u e R acc n c i off (.blk sz es)=io es[i]? (fun r=>off + n <= r.length /\ doW C hs K ns ⟨⟩ e R acc [(t,.agg (((r.drop off).take n).map aW)),(c,.any)] []) ⟨⟩:=by
 simp only [ya,gw]
def KA (C : CC) (hs : Option (List Nat)) (K : Env -> Prop) (ns : List ar) (t : Nat) (_ : Tag (hs,K,ns)) (e : Env) (R : List Nat) (acc : List (List Nat × List Nat)) (n : Nat) (d : D) : Prop:=match d with
 | .adr (.r c) i off=>ya C hs K ns t ⟨⟩ e R acc n c i off (ab e c)
 | _=>False
@[simp] theorem KB {t n c i off} : KA C hs K ns t u e R acc n (.adr (.r c) i off)=ya C hs K ns t ⟨⟩ e R acc n c i off (ab e c):=zR
@[simp] theorem QT {t n x v1} : opW C hs K ns (some t) (.ldF n x) v1 e R acc=KA C hs K ns t ⟨⟩ e R acc n (vd (ab e) x):=zR
def Df (C : CC) (hs : Option (List Nat)) (K : Env -> Prop) (ns : List ar) (t : Nat) (_ : Tag (hs,K,ns)) (e : Env) (R : List Nat) (acc : List (List Nat × List Nat)) (len sz c : Nat) (d : D) : Prop:=match d with
 | .blk _ [row]=>0 < len /\ 0 < sz /\ row.length=len * sz /\ (∀ d ∈ row,aC d=true) /\ doW C hs K ns ⟨⟩ e R acc [(t,.ref (.r (rt t 0)) 0 len),(rt t 0,.blk sz (bQ sz len row)),(c,.any)] [(rt t 0,true)]
 | _=>False
@[simp] theorem Md {t len sz c sz0 row} : Df C hs K ns t u e R acc len sz c (.blk sz0 [row])=(0 < len /\ 0 < sz /\ row.length=len * sz /\ (∀ d ∈ row,aC d=true) /\ doW C hs K ns ⟨⟩ e R acc [(t,.ref (.r (rt t 0)) 0 len),(rt t 0,.blk sz (bQ sz len row)),(c,.any)] [(rt t 0,true)]):=zR
def Me (C : CC) (hs : Option (List Nat)) (K : Env -> Prop) (ns : List ar) (t : Nat) (_ : Tag (hs,K,ns)) (e : Env) (R : List Nat) (acc : List (List Nat × List Nat)) (len sz : Nat) (d : D) : Prop:=match d with
 | .adr (.r c) i off=>i=0 /\ off=0 /\ c ≠ rt t 0 /\ Df C hs K ns t ⟨⟩ e R acc len sz c (ab e c)
 | _=>False
@[simp] theorem Mf {t len sz c i off} : Me C hs K ns t u e R acc len sz (.adr (.r c) i off)=(i=0 /\ off=0 /\ c ≠ rt t 0 /\ Df C hs K ns t ⟨⟩ e R acc len sz c (ab e c)):=zR
@[simp] theorem Q4 {len sz x t v1} : opW C hs K ns (some t) (.slM len sz x) v1 e R acc=Me C hs K ns t ⟨⟩ e R acc len sz (vd (ab e) x):=zR
def gJ (C : CC) (hs : Option (List Nat)) (K : Env -> Prop) (ns : List ar) (dst : Option Nat) (_ : Tag (hs,K,ns)) (e : Env) (R : List Nat) (acc : List (List Nat × List Nat)) (d : D) : Prop:=match d with
 | .agx ds=>dW C hs K ns dst ⟨⟩ e R acc (.ptx ds)
 | .agg ds=>dW C hs K ns dst ⟨⟩ e R acc (.ptr ds)
 | d=>aC d=true /\ dW C hs K ns dst ⟨⟩ e R acc (.ptr [d])
@[simp] theorem Bx {ds : List D} : di (.agg ds)=ds:=zR
@[simp] theorem By {k n} : di (.int k n)=[.int k n]:=zR
@[simp] theorem Bz {n} : di (.str n)=[.str n]:=zR
@[simp] theorem Ah {n} : di (.bool n)=[.bool n]:=zR
@[simp] theorem ED {n} : di (.sl n)=[.sl n]:=zR
@[simp] theorem E6 {f : Nat -> D} {es} : fS f [] es=es:=zR
@[simp] theorem BN {f : Nat -> D} {p ps es} : fS f (p::ps) es=fS f ps (es.set p.1 (di (vd f p.2))):=zR
@[simp] theorem Lu {sz len zs parts v1} : opW C hs K ns dst (.blsF sz len zs parts) v1 e R acc=((∀ p ∈ parts,p.1 < len /\ (di (vd (ab e) p.2)).length=sz /\ ∀ c ∈ di (vd (ab e) p.2),aC c=true) /\ 0 < len /\
   (∀ r ∈ fS (ab e) parts (List.replicate len zs),∀ c ∈ r,aC c=true) /\ dW C hs K ns dst ⟨⟩ e R acc (.sl (fS (ab e) parts (List.replicate len zs)))):=zR
attribute [simp] BA
@[simp] theorem Lv {x v1} : opW C hs K ns dst (.boxF x) v1 e R acc=gJ C hs K ns dst ⟨⟩ e R acc (vd (ab e) x):=zR
@[simp] theorem Hs {ds} : gJ C hs K ns dst u e R acc (.agx ds)=dW C hs K ns dst ⟨⟩ e R acc (.ptx ds):=zR
@[simp] theorem Hr {ds} : gJ C hs K ns dst u e R acc (.agg ds)=dW C hs K ns dst ⟨⟩ e R acc (.ptr ds):=zR
@[simp] theorem Ht {k n} : gJ C hs K ns dst u e R acc (.int k n)=dW C hs K ns dst ⟨⟩ e R acc (.ptr [.int k n]):=by simp [gJ]
@[simp] theorem Ed {n} : gJ C hs K ns dst u e R acc (.bool n)=dW C hs K ns dst ⟨⟩ e R acc (.ptr [.bool n]):=by simp [gJ]
@[simp] theorem Hw {n} : gJ C hs K ns dst u e R acc (.str n)=dW C hs K ns dst ⟨⟩ e R acc (.ptr [.str n]):=by simp [gJ]
@[simp] theorem Ee : gJ C hs K ns dst u e R acc .nils=dW C hs K ns dst ⟨⟩ e R acc (.ptr [.nils]):=by simp [gJ]
@[simp] theorem ME {es} : gJ C hs K ns dst u e R acc (.sl es)=dW C hs K ns dst ⟨⟩ e R acc (.ptr [.sl es]):=by simp [gJ]
@[simp] theorem Hv {b es} : gJ C hs K ns dst u e R acc (slx b es)=dW C hs K ns dst ⟨⟩ e R acc (.ptr [slx b es]):=by
 rcases eV b es with h | ⟨h,_⟩ <;> rw [h] <;> simp
@[simp] theorem Hu {es} : gJ C hs K ns dst u e R acc (.ptr es)=dW C hs K ns dst ⟨⟩ e R acc (.ptr [.ptr es]):=by simp [gJ]
@[simp] theorem MD {g es} : gJ C hs K ns dst u e R acc (.fn g es)=dW C hs K ns dst ⟨⟩ e R acc (.ptr [.fn g es]):=by simp [gJ]
@[simp] theorem QV {x v1} : opW C hs K ns dst (.len x) v1 e R acc=qZ (vd (ab e) x) (fun n=>dW C hs K ns dst ⟨⟩ e R acc (.int .i64 n)) ⟨⟩:=by
 show res (ab e) _ (.len x)=_
 simp only [res,qZ]
 cases vd (ab e) x <;> rfl
def qT (C : CC) (hs : Option (List Nat)) (K : Env -> Prop) (ns : List ar) (dst : Option Nat) (_ : Tag (hs,K,ns)) (e : Env) (R : List Nat) (acc : List (List Nat × List Nat)) (sz : Nat) (x i : D) : Prop:=match (generalizing:=false) x,i with
  | .sl es,.int _ j=>0 <= j /\ gK C hs K ns dst ⟨⟩ e R acc sz es j.toNat
  | .slv _ es,.int _ j=>0 <= j /\ gK C hs K ns dst ⟨⟩ e R acc sz es j.toNat
  | .rfx n sz' ds,.int _ j=>0 <= j /\ j.toNat < n /\ sz'=sz /\ dW C hs K ns dst ⟨⟩ e R acc (.ptx (ds.drop (j.toNat * sz)))
  | .ref p k n,.int _ j=>0 <= j /\ j.toNat < n /\ match (generalizing:=false) bk (ab e) p with
   | some (sz',_)=>sz'=sz /\ dW C hs K ns dst ⟨⟩ e R acc (.adr p (k + j.toNat) 0)
   | none=>False
  | _,_=>False
@[simp] theorem LA {sz x i v1} : opW C hs K ns dst (.iadS sz x i) v1 e R acc=qT C hs K ns dst ⟨⟩ e R acc sz (vd (ab e) x) (vd (ab e) i):=zR
@[simp] theorem IG {sz sz' n ds k j} : qT C hs K ns dst u e R acc sz (.rfx n sz' ds) (.int k j)=(0 <= j /\ j.toNat < n /\ sz'=sz /\ dW C hs K ns dst ⟨⟩ e R acc (.ptx (ds.drop (j.toNat * sz)))):=zR
@[simp] theorem Nr {sz es k j} : qT C hs K ns dst u e R acc sz (.sl es) (.int k j)=(0 <= j /\ gK C hs K ns dst ⟨⟩ e R acc sz es j.toNat):=zR
@[simp] theorem IH {sz q es k j} : qT C hs K ns dst u e R acc sz (.slv q es) (.int k j)=(0 <= j /\ gK C hs K ns dst ⟨⟩ e R acc sz es j.toNat):=zR
@[simp] theorem II {sz b es k j} : qT C hs K ns dst u e R acc sz (slx b es) (.int k j)=(0 <= j /\ gK C hs K ns dst ⟨⟩ e R acc sz es j.toNat):=by
 rcases eV b es with h | ⟨h,rfl⟩
 ·rw [h];rfl
 ·rw [h];simp [qT,gK]
@[simp] theorem IF {sz p k n k' j} : qT C hs K ns dst u e R acc sz (.ref p k n) (.int k' j)=(0 <= j /\ j.toNat < n /\ match (generalizing:=false) bk (ab e) p with
   | some (sz',_)=>sz'=sz /\ dW C hs K ns dst ⟨⟩ e R acc (.adr p (k + j.toNat) 0)
   | none=>False):=zR
def yL (C : CC) (hs : Option (List Nat)) (K : Env -> Prop) (ns : List ar) (dst : Option Nat) (_ : Tag (hs,K,ns)) (e : Env) (R : List Nat) (acc : List (List Nat × List Nat)) (sz : Nat) (x : D) (lo hi : Option Opd) : Prop:=match (generalizing:=false) x with
  | .sl es=>(∀ e ∈ es,e.length=sz) /\ dK (ab e) hi es.length (fun h=>dK (ab e) lo 0 (fun l=>l <= h /\ h <= es.length /\ dW C hs K ns dst ⟨⟩ e R acc (.sl ((es.take h).drop l))) ⟨⟩) ⟨⟩
  | .nils=>dK (ab e) hi 0 (fun h=>dK (ab e) lo 0 (fun l=>l <= h /\ h <= 0 /\ dW C hs K ns dst ⟨⟩ e R acc (.sl [])) ⟨⟩) ⟨⟩
  | .ref p k n=>match (generalizing:=false) bk (ab e) p with
   | some (sz',_)=>sz'=sz /\ dK (ab e) hi n (fun h=>dK (ab e) lo 0 (fun l=>l <= h /\ h <= n /\ dW C hs K ns dst ⟨⟩ e R acc (.ref p (k + l) (h - l))) ⟨⟩) ⟨⟩
   | none=>False
  | _=>False
@[simp] theorem Q5 {sz x lo hi v1} : opW C hs K ns dst (.slc sz x lo hi) v1 e R acc=yL C hs K ns dst ⟨⟩ e R acc sz (vd (ab e) x) lo hi:=zR
@[simp] theorem Ra {sz es lo hi} : yL C hs K ns dst u e R acc sz (.sl es) lo hi=((∀ e ∈ es,e.length=sz) /\ dK (ab e) hi es.length (fun h=>dK (ab e) lo 0 (fun l=>l <= h /\ h <= es.length /\ dW C hs K ns dst ⟨⟩ e R acc (.sl ((es.take h).drop l))) ⟨⟩) ⟨⟩):=zR
@[simp] theorem GU {sz lo hi} : yL C hs K ns dst u e R acc sz .nils lo hi=dK (ab e) hi 0 (fun h=>dK (ab e) lo 0 (fun l=>l <= h /\ h <= 0 /\ dW C hs K ns dst ⟨⟩ e R acc (.sl [])) ⟨⟩) ⟨⟩:=zR
@[simp] theorem Mc {sz p k n lo hi} : yL C hs K ns dst u e R acc sz (.ref p k n) lo hi=(match (generalizing:=false) bk (ab e) p with
   | some (sz',_)=>sz'=sz /\ dK (ab e) hi n (fun h=>dK (ab e) lo 0 (fun l=>l <= h /\ h <= n /\ dW C hs K ns dst ⟨⟩ e R acc (.ref p (k + l) (h - l))) ⟨⟩) ⟨⟩
   | none=>False):=zR
@[simp] theorem GF {x xs v1} : opW C hs K ns dst (.callv x xs) v1 e R acc=(match (generalizing:=false) vd (ab e) x with
  | .fn g cs=>(∀ x ∈ xs,bC (ab e) (vd (ab e) x)) /\ pi C g hs K ns dst ⟨⟩ e R acc (xs.all fun x=>isV (vd (ab e) x)) (xs.map (dpv (ab e))++cs)
  | .fnx g cs=>(∀ x ∈ xs,bC (ab e) (vd (ab e) x)) /\ (∀ c ∈ cs,aO (ab e) c) /\ pi C g hs K ns dst ⟨⟩ e R acc false (xs.map (dpv (ab e))++cs.map (dp1 (ab e)))
  | _=>False):=by
 simp only [opW,aB,pi,db,x0i,or_false]
 cases vd (ab e) x <;> rfl
def mpT (x : D) (K : Nat -> Nat -> List D -> List D -> Prop) (_ : Tag K) : Prop:=match x with
 | .mp kt et ks vs=>K kt et ks vs
 | _=>False
@[simp] theorem Sy {kt et ks vs K u} : mpT (.mp kt et ks vs) K u=K kt et ks vs:=zR
@[simp] theorem QX {kt et t v1} : opW C hs K ns (some t) (.mkm kt et) v1 e R acc=doW C hs K ns ⟨⟩ e R acc [(t,.mrf (rt t 0)),(rt t 0,.mp kt et [] [])] [(rt t 0,true)]:=zR
def mlM (C : CC) (hs : Option (List Nat)) (K : Env -> Prop) (ns : List ar) (dst : Option Nat) (_ : Tag (hs,K,ns)) (e : Env) (R : List Nat) (acc : List (List Nat × List Nat)) (sh : KSh) (kt et : Nat) (ok : Bool) (z x m : D) : Prop:=match m with
 | .mrf b=>mpT (ab e b) (fun kt' et' ks vs=>kt'=kt /\ et'=et /\ cV sh x /\ match ok with
    | true=>dW C hs K ns dst ⟨⟩ e R acc (.tup [(cX ks vs x).getD z,.bool (cX ks vs x).isSome])
    | false=>dW C hs K ns dst ⟨⟩ e R acc ((cX ks vs x).getD z)) ⟨⟩
 | _=>False
@[simp] theorem Qs {sh kt et ok z x b} : mlM C hs K ns dst u e R acc sh kt et ok z x (.mrf b)=mpT (ab e b) (fun kt' et' ks vs=>kt'=kt /\ et'=et /\ cV sh x /\ match ok with
    | true=>dW C hs K ns dst ⟨⟩ e R acc (.tup [(cX ks vs x).getD z,.bool (cX ks vs x).isSome])
    | false=>dW C hs K ns dst ⟨⟩ e R acc ((cX ks vs x).getD z)) ⟨⟩:=zR
@[simp] theorem Q0 {sh kt et ok z m x v1} : opW C hs K ns dst (.mpl sh kt et ok z m x) v1 e R acc=mlM C hs K ns dst ⟨⟩ e R acc sh kt et ok z (vd (ab e) x) (vd (ab e) m):=by
 show res (ab e) _ (.mpl sh kt et ok z m x)=_
 simp only [res,mlM]
 cases vd (ab e) m <;> rfl
def muM (C : CC) (hs : Option (List Nat)) (K : Env -> Prop) (ns : List ar) (_ : Tag (hs,K,ns)) (e : Env) (R : List Nat) (acc : List (List Nat × List Nat)) (sh : KSh) (kt et : Nat) (z x v m : D) : Prop:=match m with
 | .mrf b=>mpT (ab e b) (fun kt' et' ks vs=>kt'=kt /\ et'=et /\ ks.length < maxLen /\ cV sh x /\ gU z v /\ doW C hs K ns ⟨⟩ e R acc [(b,.mp kt et (x::ks) (v::vs))] []) ⟨⟩
 | _=>False
@[simp] theorem Qt {sh kt et z x v b} : muM C hs K ns u e R acc sh kt et z x v (.mrf b)=mpT (ab e b) (fun kt' et' ks vs=>kt'=kt /\ et'=et /\ ks.length < maxLen /\ cV sh x /\ gU z v /\ doW C hs K ns ⟨⟩ e R acc [(b,.mp kt et (x::ks) (v::vs))] []) ⟨⟩:=zR
@[simp] theorem Q1 {sh kt et z m x v v1} : opW C hs K ns dst (.mpu sh kt et z m x v) v1 e R acc=(dst=none /\ muM C hs K ns ⟨⟩ e R acc sh kt et z (vd (ab e) x) (vd (ab e) v) (vd (ab e) m)):=by
 show (dst=none /\ _)=_
 congr 1
end
@[simp] theorem Ca {s} : cV .str (.str s)=(s.length <= maxLen):=zR
@[simp] theorem Au {b} : cV .bool (.bool b)=True:=zR
@[simp] theorem B9 {q q' n} : cV (.int q) (.int q' n)=(q'=q /\ pF q n):=zR
@[simp] theorem Av {q n ds} : cV (.ints q n) (.agg ds)=(ds.length=n /\ ∀ d ∈ ds,∃ x,d=.int q x /\ pF q x):=zR
@[simp] theorem E5 {s z} : gU (.str z) (.str s)=(s.length <= maxLen):=zR
@[simp] theorem BH {b z} : gU (.bool z) (.bool b)=True:=zR
@[simp] theorem E4 {q q' n z} : gU (.int q z) (.int q' n)=(q'=q /\ pF q n):=zR
@[simp] theorem IT {n : Int} : pF .i64 n=(-9223372036854775808 <= n /\ n <= 9223372036854775807):=by
 have e1 : IntKind.i64.min=-9223372036854775808:=rfl
 have e2 : IntKind.i64.max=9223372036854775807:=rfl
 simp [pF,Lit.wf,e1,e2]
attribute [simp] il fd bK eG cD bH aY d9 vM okR qc kY cI
attribute [simp] vd params eH jc jd jb lV mJ vY prune jW isC gY bk SL bJ dpv cc stK bp rt chk rdS rdR frR fwR fJ rdN gV wrK mnR CZ ldN ah ij pB wOk Pa.root cg bI
end Go.Gv

namespace Go.Gv
section
variable {C : CC}
def C0 (id : Nat) (S : Type) (G : S -> Env) (J : S -> Prop) (Q : cq -> Env -> Prop) : cq -> Env -> Prop:=fun t e=>match t with
 | .ext i=>if i=id then ∃ s,J s /\ jW e (G s) else Q (.ext i) e
 | t=>Q t e
variable {Q : cq -> Env -> Prop} {e : Env}
@[simp] theorem xL {id S G J u} : bL (C0 id S G J Q) u .nrm e=bL Q ⟨⟩ .nrm e:=zR
@[simp] theorem xM {id S G J u} : bL (C0 id S G J Q) u .ret e=bL Q ⟨⟩ .ret e:=zR
@[simp] theorem xK {id S G J u i} : bL (C0 id S G J Q) u (.ext i) e=if i=id then ∃ s,J s /\ jW e (G s) else bL Q ⟨⟩ (.ext i) e:=zR
def Co (S : Type) (G : S -> Env) (J : S -> Prop) (Q : cq -> Env -> Prop) : cq -> Env -> Prop:=fun t e=>match t with
 | .nrm=>∃ s,J s /\ jW e (G s)
 | t=>Q t e
@[simp] theorem xI {S G J u} : bL (Co S G J Q) u .nrm e=∃ s,J s /\ jW e (G s):=zR
@[simp] theorem xJ {S G J u} : bL (Co S G J Q) u .ret e=bL Q ⟨⟩ .ret e:=zR
@[simp] theorem xH {S G J u i} : bL (Co S G J Q) u (.ext i) e=bL Q ⟨⟩ (.ext i) e:=zR
end
@[simp] theorem LZ {C : CC} {hs : Option (List Nat)} {K : Env -> Prop} {ns : List ar} {dst : Option Nat} {u : Tag (hs,K,ns)} {e : Env} {R : List Nat} {acc : List (List Nat × List Nat)} {α : Type} [Inhabited α] {n : Nat} {ag : Bool} {p : Pa} {xs : List α} {f : α -> List D} {i off : Nat} :
  kE C hs K ns dst u e R acc n ag p (xs.map f) i off=(i < xs.length /\ off + n <= (f xs[i]!).length /\ match ag with
    | true=>((((f xs[i]!).drop off).take n).all isV=true -> dW C hs K ns dst ⟨⟩ e R acc (.agg (((f xs[i]!).drop off).take n))) /\
      ((((f xs[i]!).drop off).take n).all isV=false -> dW C hs K ns dst ⟨⟩ e R acc (.agx ((((f xs[i]!).drop off).take n).mapIdx fun j c=>ldc p i (off + j) c)))
    | false=>dW C hs K ns dst ⟨⟩ e R acc (ldc p i off (((f xs[i]!).drop off).headD .any))):=by
 apply propext
 constructor
 ·rintro ⟨r,h,h1,h2⟩
  rw [x0w,x0h] at h
  obtain ⟨x,hx,rfl⟩:=h
  obtain ⟨hi,rfl⟩:=x0b.1 hx
  rw [x0T xs i hi]
  refine ⟨hi,h1,?_⟩
  cases ag <;> exact h2
 ·rintro ⟨hi,h1,h2⟩
  rw [x0T xs i hi] at h1 h2
  refine oY (r:=f xs[i]) (by rw [x0w,x0d hi];rfl) h1 ?_
  cases ag <;> exact h2
@[simp] theorem F3 {b all ks n} : aT ((b,all)::ks) (.ptx n)=if n.any (aA b all) then .any else aT ks (.ptx n):=by
 have h : aT ((b,all)::ks) (.ptx n)=bif (n.any (aA b all) || aF ks (.ptx n)) then .any else .ptx n:=bF ..
 rw [h,bF]
 cases n.any (aA b all) <;> rfl
@[simp] theorem F5 {b all ks k sz n} : aT ((b,all)::ks) (.rfx k sz n)=if n.any (aA b all) then .any else aT ks (.rfx k sz n):=by
 have h : aT ((b,all)::ks) (.rfx k sz n)=bif (n.any (aA b all) || aF ks (.rfx k sz n)) then .any else .rfx k sz n:=bF ..
 rw [h,bF]
 cases n.any (aA b all) <;> rfl
@[simp] theorem F9 {b all ks n} : aT ((b,all)::ks) (.tpx n)=if n.any (aA b all) then .any else aT ks (.tpx n):=by
 have h : aT ((b,all)::ks) (.tpx n)=bif (n.any (aA b all) || aF ks (.tpx n)) then .any else .tpx n:=bF ..
 rw [h,bF]
 cases n.any (aA b all) <;> rfl
@[simp] theorem Gn {b all n es} : aA b all (slx n es)=false:=by cases n <;> cases es <;> rfl
@[simp] theorem Gl {b all p k n} : aA b all (.ref p k n)=bp b all p:=zR
@[simp] theorem Gf {b all p k n} : aA b all (.adr p k n)=bp b all p:=zR
@[simp] theorem Gg {b all T p k n} : aA b all (.ifa T p k n)=bp b all p:=zR
@[simp] theorem Gh {b all T n} : aA b all (.ifi T n)=false:=zR
@[simp] theorem Gm {b all k n} : aA b all (.slv k n)=false:=zR
@[simp] theorem Gj {b all c} : aA b all (.mrf c)=(all && c == b):=zR
@[simp] theorem Gi {b all k n} : aA b all (.int k n)=false:=zR
@[simp] theorem Ck {b all n} : aA b all (.bool n)=false:=zR
@[simp] theorem Gp {b all n} : aA b all (.str n)=false:=zR
@[simp] theorem Cm {b all} : aA b all .nils=false:=zR
@[simp] theorem Cl {b all} : aA b all .nilp=false:=zR
@[simp] theorem KM {b all n} : aA b all (.sl n)=false:=zR
@[simp] theorem Gk {b all n} : aA b all (.ptr n)=false:=zR
@[simp] theorem KL {b all g n} : aA b all (.fn g n)=false:=zR
@[simp] theorem FZ {b all ks c} : aT ((b,all)::ks) (.mrf c)=if (all && c == b) then .any else aT ks (.mrf c):=by
 have h : aT ((b,all)::ks) (.mrf c)=bif ((all && c == b) || aF ks (.mrf c)) then .any else .mrf c:=bF ..
 rw [h,bF]
 cases all && c == b <;> rfl
end Go.Gv

namespace Go.Gv
section
variable {C : CC} {hs : Option (List Nat)} {K : Env -> Prop} {ns : List ar} {dst : Option Nat} {u : Tag (hs,K,ns)} {e : Env} {R : List Nat} {acc : List (List Nat × List Nat)}
theorem ay {sz : Nat} {es : List (List D)} {i : Nat} {c : List D} (h : es[i]? = some c) : gK C hs K ns dst u e R acc sz es i=(c.length=sz /\ dW C hs K ns dst ⟨⟩ e R acc (.ptr c)):=by
 apply propext
 unfold gK dW
 rw [h]
 exact ⟨fun ⟨_,h1,h2⟩=>by cases h1;exact h2,fun h2=>⟨c,rfl,h2⟩⟩
theorem br {n : Nat} {ag : Bool} {p : Pa} {es : List (List D)} {i off : Nat} {r : List D} (hr : es[i]? = some r) : kE C hs K ns dst u e R acc n ag p es i off=(off + n <= r.length /\ match ag with
    | true=>(((r.drop off).take n).all isV=true -> dW C hs K ns dst ⟨⟩ e R acc (.agg ((r.drop off).take n))) /\
      (((r.drop off).take n).all isV=false -> dW C hs K ns dst ⟨⟩ e R acc (.agx (((r.drop off).take n).mapIdx fun j c=>ldc p i (off + j) c)))
    | false=>dW C hs K ns dst ⟨⟩ e R acc (ldc p i off ((r.drop off).headD .any))):=by
 apply propext
 constructor
 ·rintro ⟨r',h,h1,h2⟩
  rw [hr] at h
  cases h
  refine ⟨h1,?_⟩
  cases ag <;> exact h2
 ·rintro ⟨h1,h2⟩
  refine oY hr h1 ?_
  cases ag <;> exact h2
@[simp] theorem IJ {sz : Nat} {c0 : List D} {es : List (List D)} : gK C hs K ns dst u e R acc sz (c0::es) 0=(c0.length=sz /\ dW C hs K ns dst ⟨⟩ e R acc (.ptr c0)):=ay rfl
theorem v6 {n : Nat} {ag : Bool} {p : Pa} {off : Nat} {c0 : List D} {es : List (List D)} : kE C hs K ns dst u e R acc n ag p (c0::es) 0 off=(off + n <= c0.length /\ match ag with
    | true=>(((c0.drop off).take n).all isV=true -> dW C hs K ns dst ⟨⟩ e R acc (.agg ((c0.drop off).take n))) /\
      (((c0.drop off).take n).all isV=false -> dW C hs K ns dst ⟨⟩ e R acc (.agx (((c0.drop off).take n).mapIdx fun j c=>ldc p 0 (off + j) c)))
    | false=>dW C hs K ns dst ⟨⟩ e R acc (ldc p 0 off ((c0.drop off).headD .any))):=br rfl
@[simp] theorem IK {sz : Nat} {c0 c1 : List D} {es : List (List D)} : gK C hs K ns dst u e R acc sz (c0::c1::es) 1=(c1.length=sz /\ dW C hs K ns dst ⟨⟩ e R acc (.ptr c1)):=ay rfl
theorem v7 {n : Nat} {ag : Bool} {p : Pa} {off : Nat} {c0 c1 : List D} {es : List (List D)} : kE C hs K ns dst u e R acc n ag p (c0::c1::es) 1 off=(off + n <= c1.length /\ match ag with
    | true=>(((c1.drop off).take n).all isV=true -> dW C hs K ns dst ⟨⟩ e R acc (.agg ((c1.drop off).take n))) /\
      (((c1.drop off).take n).all isV=false -> dW C hs K ns dst ⟨⟩ e R acc (.agx (((c1.drop off).take n).mapIdx fun j c=>ldc p 1 (off + j) c)))
    | false=>dW C hs K ns dst ⟨⟩ e R acc (ldc p 1 off ((c1.drop off).headD .any))):=br rfl
@[simp] theorem IL {sz : Nat} {c0 c1 c2 : List D} {es : List (List D)} : gK C hs K ns dst u e R acc sz (c0::c1::c2::es) 2=(c2.length=sz /\ dW C hs K ns dst ⟨⟩ e R acc (.ptr c2)):=ay rfl
theorem v8 {n : Nat} {ag : Bool} {p : Pa} {off : Nat} {c0 c1 c2 : List D} {es : List (List D)} : kE C hs K ns dst u e R acc n ag p (c0::c1::c2::es) 2 off=(off + n <= c2.length /\ match ag with
    | true=>(((c2.drop off).take n).all isV=true -> dW C hs K ns dst ⟨⟩ e R acc (.agg ((c2.drop off).take n))) /\
      (((c2.drop off).take n).all isV=false -> dW C hs K ns dst ⟨⟩ e R acc (.agx (((c2.drop off).take n).mapIdx fun j c=>ldc p 2 (off + j) c)))
    | false=>dW C hs K ns dst ⟨⟩ e R acc (ldc p 2 off ((c2.drop off).headD .any))):=br rfl
@[simp] theorem IM {sz : Nat} {c0 c1 c2 c3 : List D} {es : List (List D)} : gK C hs K ns dst u e R acc sz (c0::c1::c2::c3::es) 3=(c3.length=sz /\ dW C hs K ns dst ⟨⟩ e R acc (.ptr c3)):=ay rfl
theorem wa {n : Nat} {ag : Bool} {p : Pa} {off : Nat} {c0 c1 c2 c3 : List D} {es : List (List D)} : kE C hs K ns dst u e R acc n ag p (c0::c1::c2::c3::es) 3 off=(off + n <= c3.length /\ match ag with
    | true=>(((c3.drop off).take n).all isV=true -> dW C hs K ns dst ⟨⟩ e R acc (.agg ((c3.drop off).take n))) /\
      (((c3.drop off).take n).all isV=false -> dW C hs K ns dst ⟨⟩ e R acc (.agx (((c3.drop off).take n).mapIdx fun j c=>ldc p 3 (off + j) c)))
    | false=>dW C hs K ns dst ⟨⟩ e R acc (ldc p 3 off ((c3.drop off).headD .any))):=br rfl
@[simp] theorem IO {sz : Nat} {c0 c1 c2 c3 c4 : List D} {es : List (List D)} : gK C hs K ns dst u e R acc sz (c0::c1::c2::c3::c4::es) 4=(c4.length=sz /\ dW C hs K ns dst ⟨⟩ e R acc (.ptr c4)):=ay rfl
theorem wc {n : Nat} {ag : Bool} {p : Pa} {off : Nat} {c0 c1 c2 c3 c4 : List D} {es : List (List D)} : kE C hs K ns dst u e R acc n ag p (c0::c1::c2::c3::c4::es) 4 off=(off + n <= c4.length /\ match ag with
    | true=>(((c4.drop off).take n).all isV=true -> dW C hs K ns dst ⟨⟩ e R acc (.agg ((c4.drop off).take n))) /\
      (((c4.drop off).take n).all isV=false -> dW C hs K ns dst ⟨⟩ e R acc (.agx (((c4.drop off).take n).mapIdx fun j c=>ldc p 4 (off + j) c)))
    | false=>dW C hs K ns dst ⟨⟩ e R acc (ldc p 4 off ((c4.drop off).headD .any))):=br rfl
attribute [simp] v6 v7 v8 wa wc
end
end Go.Gv

namespace Go.Gv
section
variable {C : CC} {hs : Option (List Nat)} {K : Env -> Prop} {ns : List ar} {dst : Option Nat} {u : Tag (hs,K,ns)} {e : Env} {R : List Nat} {acc : List (List Nat × List Nat)}
@[simp] theorem IP {sz : Nat} {c0 c1 c2 c3 c4 c5 : List D} {es : List (List D)} : gK C hs K ns dst u e R acc sz (c0::c1::c2::c3::c4::c5::es) 5=(c5.length=sz /\ dW C hs K ns dst ⟨⟩ e R acc (.ptr c5)):=ay rfl
@[simp] theorem LW {n : Nat} {ag : Bool} {p : Pa} {off : Nat} {c0 c1 c2 c3 c4 c5 : List D} {es : List (List D)} : kE C hs K ns dst u e R acc n ag p (c0::c1::c2::c3::c4::c5::es) 5 off=(off + n <= c5.length /\ match ag with
    | true=>(((c5.drop off).take n).all isV=true -> dW C hs K ns dst ⟨⟩ e R acc (.agg ((c5.drop off).take n))) /\
      (((c5.drop off).take n).all isV=false -> dW C hs K ns dst ⟨⟩ e R acc (.agx (((c5.drop off).take n).mapIdx fun j c=>ldc p 5 (off + j) c)))
    | false=>dW C hs K ns dst ⟨⟩ e R acc (ldc p 5 off ((c5.drop off).headD .any))):=br rfl
@[simp] theorem IQ {sz : Nat} {c0 c1 c2 c3 c4 c5 c6 : List D} {es : List (List D)} : gK C hs K ns dst u e R acc sz (c0::c1::c2::c3::c4::c5::c6::es) 6=(c6.length=sz /\ dW C hs K ns dst ⟨⟩ e R acc (.ptr c6)):=ay rfl
@[simp] theorem LX {n : Nat} {ag : Bool} {p : Pa} {off : Nat} {c0 c1 c2 c3 c4 c5 c6 : List D} {es : List (List D)} : kE C hs K ns dst u e R acc n ag p (c0::c1::c2::c3::c4::c5::c6::es) 6 off=(off + n <= c6.length /\ match ag with
    | true=>(((c6.drop off).take n).all isV=true -> dW C hs K ns dst ⟨⟩ e R acc (.agg ((c6.drop off).take n))) /\
      (((c6.drop off).take n).all isV=false -> dW C hs K ns dst ⟨⟩ e R acc (.agx (((c6.drop off).take n).mapIdx fun j c=>ldc p 6 (off + j) c)))
    | false=>dW C hs K ns dst ⟨⟩ e R acc (ldc p 6 off ((c6.drop off).headD .any))):=br rfl
@[simp] theorem IR {sz : Nat} {c0 c1 c2 c3 c4 c5 c6 c7 : List D} {es : List (List D)} : gK C hs K ns dst u e R acc sz (c0::c1::c2::c3::c4::c5::c6::c7::es) 7=(c7.length=sz /\ dW C hs K ns dst ⟨⟩ e R acc (.ptr c7)):=ay rfl
@[simp] theorem LY {n : Nat} {ag : Bool} {p : Pa} {off : Nat} {c0 c1 c2 c3 c4 c5 c6 c7 : List D} {es : List (List D)} : kE C hs K ns dst u e R acc n ag p (c0::c1::c2::c3::c4::c5::c6::c7::es) 7 off=(off + n <= c7.length /\ match ag with
    | true=>(((c7.drop off).take n).all isV=true -> dW C hs K ns dst ⟨⟩ e R acc (.agg ((c7.drop off).take n))) /\
      (((c7.drop off).take n).all isV=false -> dW C hs K ns dst ⟨⟩ e R acc (.agx (((c7.drop off).take n).mapIdx fun j c=>ldc p 7 (off + j) c)))
    | false=>dW C hs K ns dst ⟨⟩ e R acc (ldc p 7 off ((c7.drop off).headD .any))):=br rfl
end
end Go.Gv

namespace Go.Gv
section
variable {C : CC} {hs : Option (List Nat)} {K : Env -> Prop} {ns : List ar} {e : Env} {R : List Nat} {acc : List (List Nat × List Nat)}
end
end Go.Gv

namespace Go.Gv
section
variable {C : CC} {hs : Option (List Nat)} {K : Env -> Prop} {ns : List ar} {e : Env} {R : List Nat} {acc : List (List Nat × List Nat)}
end
end Go.Gv

namespace Go.Gv
section
variable {C : CC} {hs : Option (List Nat)} {K : Env -> Prop} {ns : List ar} {dst : Option Nat} {e : Env} {R : List Nat} {acc : List (List Nat × List Nat)} {u : Tag (hs,K,ns)}
@[simp] theorem GK : nh none=[]:=zR
@[simp] theorem GL {x : Opd} : nh (some x)=[x]:=zR
@[simp] theorem LT {c c' k n : Nat} {q : Pa} : jJ c q (.ref (.r c') k n)=if c'=c then .ref q k n else .ref (.r c') k n:=zR
@[simp] theorem GO {c b i o k n : Nat} {q : Pa} : jJ c q (.ref (.n b i o) k n)=.ref (.n b i o) k n:=zR
@[simp] theorem Q9 {c : Nat} {q : Pa} {es} : jJ c q (.sl es)=.sl es:=zR
@[simp] theorem GN {c : Nat} {q : Pa} : jJ c q .nils=.nils:=zR
@[simp] theorem LS {c : Nat} {q : Pa} {k n} : jJ c q (.int k n)=.int k n:=zR
@[simp] theorem LU {c : Nat} {q : Pa} {b es} : jJ c q (slx b es)=slx b es:=by cases b <;> cases es <;> rfl
@[simp] theorem B6 {b c i o k n : Nat} : ia b (.ref (.n c i o) k n)=(c != b || (i == 0 && o == 1)):=zR
@[simp] theorem B7 {b c k n : Nat} : ia b (.ref (.r c) k n)=true:=zR
@[simp] theorem Kr {b : Nat} {es} : ia b (.sl es)=true:=zR
@[simp] theorem B5 {b : Nat} : ia b .nils=true:=zR
@[simp] theorem FM {b : Nat} {k n} : ia b (.int k n)=true:=zR
@[simp] theorem FN {b : Nat} {x es} : ia b (slx x es)=true:=by cases x <;> cases es <;> rfl
def yc (C : CC) (hs : Option (List Nat)) (K : Env -> Prop) (ns : List ar) (dst : Option Nat) (_ : Tag (hs,K,ns)) (e : Env) (R : List Nat) (acc : List (List Nat × List Nat)) (T : Nat) (d : D) : Prop:=match d with
 | .adr p i off=>dW C hs K ns dst ⟨⟩ e R acc (.ifa T p i off)
 | .int k n=>k=.i64 /\ dW C hs K ns dst ⟨⟩ e R acc (.ifi T n)
 | _=>False
@[simp] theorem QW {T x v1} : opW C hs K ns dst (.mkI T x) v1 e R acc=yc C hs K ns dst ⟨⟩ e R acc T (vd (ab e) x):=by
 show res (ab e) _ (.mkI T x)=_
 simp only [res,yc]
 cases vd (ab e) x <;> rfl
@[simp] theorem KN {T p i off} : yc C hs K ns dst u e R acc T (.adr p i off)=dW C hs K ns dst ⟨⟩ e R acc (.ifa T p i off):=zR
@[simp] theorem KO {T k n} : yc C hs K ns dst u e R acc T (.int k n)=(k=.i64 /\ dW C hs K ns dst ⟨⟩ e R acc (.ifi T n)):=zR
def Dw (C : CC) (hs : Option (List Nat)) (K : Env -> Prop) (ns : List ar) (dst : Option Nat) (_ : Tag (hs,K,ns)) (e : Env) (R : List Nat) (acc : List (List Nat × List Nat)) (T : Nat) (d : D) : Prop:=match d with
 | .ifi T' n=>T'=T /\ dW C hs K ns dst ⟨⟩ e R acc (.int .i64 n)
 | _=>False
@[simp] theorem Q6 {T x v1} : opW C hs K ns dst (.tya T x) v1 e R acc=Dw C hs K ns dst ⟨⟩ e R acc T (vd (ab e) x):=by
 show res (ab e) _ (.tya T x)=_
 simp only [res,Dw]
 cases vd (ab e) x <;> rfl
@[simp] theorem Mq {T T' n} : Dw C hs K ns dst u e R acc T (.ifi T' n)=(T'=T /\ dW C hs K ns dst ⟨⟩ e R acc (.int .i64 n)):=zR
def rb (C : CC) (g : Nat) (hs : Option (List Nat)) (K : Env -> Prop) (ns : List ar) (dst : Option Nat) (_ : Tag (hs,K,ns)) (e : Env) (R : List Nat) (acc : List (List Nat × List Nat)) (b sz : Nat) (es : List (List D)) (W : List D) : Prop :=
 ∃ d,∃ es' : List (List D),0 < es'.length /\ C g (.blk sz es::W) d [.blk sz es',.nilp] /\ doW C hs K ns ⟨⟩ e R acc (bX dst d++[(b,.blk sz es')]) [(b,false)]
theorem cz {g b sz : Nat} {es es' : List (List D)} {W : List D} {d : D} (h : C g (.blk sz es::W) d [.blk sz es',.nilp]) (hp : 0 < es'.length)
  (hk : doW C hs K ns ⟨⟩ e R acc (bX dst d++[(b,.blk sz es')]) [(b,false)]) : rb C g hs K ns dst u e R acc b sz es W:=⟨d,es',hp,h,hk⟩
def HD (C : CC) (g : Nat) (hs : Option (List Nat)) (K : Env -> Prop) (ns : List ar) (dst : Option Nat) (_ : Tag (hs,K,ns)) (e : Env) (R : List Nat) (acc : List (List Nat × List Nat)) (T : Nat) (xs : List Opd) (d : D) : Prop:=match d with
 | .ifa T' (.r b) i off=>T'=T /\ i=0 /\ off=0 /\ ek (ab e b) (fun sz es=>0 < es.length /\ (∀ x ∈ xs,isV (vd (ab e) x)=true) /\ rb C g hs K ns dst ⟨⟩ e R acc b sz es (.adr (.r 10015) 0 0::xs.map (vd (ab e)))) ⟨⟩
 | _=>False
@[simp] theorem Ru {g xs T T' b i off} : HD C g hs K ns dst u e R acc T xs (.ifa T' (.r b) i off)=(T'=T /\ i=0 /\ off=0 /\ ek (ab e b) (fun sz es=>0 < es.length /\ (∀ x ∈ xs,isV (vd (ab e) x)=true) /\ rb C g hs K ns dst ⟨⟩ e R acc b sz es (.adr (.r 10015) 0 0::xs.map (vd (ab e)))) ⟨⟩):=zR
@[simp] theorem GB {g m T x xs v1} : opW C hs K ns dst (.callI g m T x xs) v1 e R acc=HD C g hs K ns dst ⟨⟩ e R acc T xs (vd (ab e) x):=by
 unfold opW
 simp only [aB]
 cases vd (ab e) x <;> first | rfl | skip
def HE (C : CC) (g : Nat) (hs : Option (List Nat)) (K : Env -> Prop) (ns : List ar) (dst : Option Nat) (_ : Tag (hs,K,ns)) (e : Env) (R : List Nat) (acc : List (List Nat × List Nat)) (xs : List Opd) (d : D) : Prop:=match d with
 | .ifa T (.r b) i off=>i=0 /\ off=0 /\ ek (ab e b) (fun sz es=>0 < es.length /\ (∀ x ∈ xs,isV (vd (ab e) x)=true) /\ rb C g hs K ns dst ⟨⟩ e R acc b sz es (.ifa T (.r 10015) 0 0::xs.map (vd (ab e)))) ⟨⟩
 | _=>False
@[simp] theorem Rv {g xs T b i off} : HE C g hs K ns dst u e R acc xs (.ifa T (.r b) i off)=(i=0 /\ off=0 /\ ek (ab e b) (fun sz es=>0 < es.length /\ (∀ x ∈ xs,isV (vd (ab e) x)=true) /\ rb C g hs K ns dst ⟨⟩ e R acc b sz es (.ifa T (.r 10015) 0 0::xs.map (vd (ab e)))) ⟨⟩):=zR
@[simp] theorem GC {g x xs v1} : opW C hs K ns dst (.callM g x xs) v1 e R acc=HE C g hs K ns dst ⟨⟩ e R acc xs (vd (ab e) x):=by
 unfold opW
 simp only [aB]
 cases vd (ab e) x <;> first | rfl | skip
def Ak (C : CC) (g : Nat) (hs : Option (List Nat)) (K : Env -> Prop) (ns : List ar) (dst : Option Nat) (_ : Tag (hs,K,ns)) (e : Env) (R : List Nat) (acc : List (List Nat × List Nat)) (xs : List Opd) (d : D) : Prop:=match d with
 | .ref (.r b) k n=>k=0 /\ ek (ab e b) (fun sz es=>0 < es.length /\ es.length=n /\ (∀ x ∈ xs,isV (vd (ab e) x)=true) /\ rb C g hs K ns dst ⟨⟩ e R acc b sz es (.ref (.r 10015) 0 n::xs.map (vd (ab e)))) ⟨⟩
 | _=>False
@[simp] theorem MF {g xs b k n} : Ak C g hs K ns dst u e R acc xs (.ref (.r b) k n)=(k=0 /\ ek (ab e b) (fun sz es=>0 < es.length /\ es.length=n /\ (∀ x ∈ xs,isV (vd (ab e) x)=true) /\ rb C g hs K ns dst ⟨⟩ e R acc b sz es (.ref (.r 10015) 0 n::xs.map (vd (ab e)))) ⟨⟩):=zR
@[simp] theorem GD {g x xs v1} : opW C hs K ns dst (.callR g x xs) v1 e R acc=Ak C g hs K ns dst ⟨⟩ e R acc xs (vd (ab e) x):=by
 unfold opW
 simp only [aB]
 cases vd (ab e) x <;> first | rfl | skip
theorem y9 {x y : Opd} {v1 : _} {b i off n sz0 sz : Nat} {es0 es : List (List D)} {row0 : List D} (hx : vd (ab e) x=.adr (.r b) i off) (hy : vd (ab e) y=.ref (.n b i off) 0 n) (hb : ab e b=.blk sz0 es0) (h1 : es0[i]? = some row0) (h2 : row0[off]? = some (.own sz es)) (h3 : n <= es.length)
  (hk : doW C hs K ns ⟨⟩ e R acc [(b,.blk sz0 (bJ es0 i off 1 [.own sz (es.take n)]))] []) : opW C hs K ns none (.stL x y) v1 e R acc:=by
 unfold opW
 simp only [aB]
 refine ⟨trivial,?_⟩
 rw [hx,hy]
 refine ⟨rfl,rfl,rfl,rfl,?_⟩
 rw [hb]
 exact ⟨row0,h1,sz,es,h2,h3,hk⟩
theorem j4 {g s : Nat} {x : Opd} {xs : List Opd} {v1 : _} {T b sz sz1 sz2 : Nat} {fs sp fs' : List (List D)} {ds : List D} {d : D} (hx : vd (ab e) x=.ifa T (.r b) 0 0) (hs0 : s < 10000) (hd : dst ≠ some s) (hxs : ∀ x ∈ xs,aV (vd (ab e) x)=true)
  (hb : ab e b=.blk sz [[.own sz1 fs,.own sz2 sp]]) (hs1 : ab e s=.ptx ds) (hk1 : ds.all (ia b)=true) (f1 : ∀ e ∈ fs,∀ c ∈ e,aV c=true) (f2 : ∀ e ∈ sp,∀ c ∈ e,aV c=true) (hd1 : aV d=true \/ d=.tup []) (f3 : ∀ e ∈ fs',∀ c ∈ e,aV c=true)
  (hc : C g (.blk sz [[.own sz1 fs,.slv 0 sp]]::.ifa T (.r 10015) 0 0::xs.map (vd (ab e))) d [.blk sz [[.own sz1 fs',.slv 0 sp]],.nils])
  (hk : doW C hs K ns ⟨⟩ e R acc (bX dst d++[(b,.blk sz [[.own sz1 fs',.own sz2 sp]]),(s,.ptx ds)]) [(b,false)]) : opW C hs K ns dst (.callQ g s x xs) v1 e R acc:=by
 unfold opW
 simp only [aB]
 rw [hx]
 refine ⟨rfl,rfl,hs0,hd,hxs,?_⟩
 rw [hb]
 simp only
 rw [hs1]
 exact ⟨hk1,f1,f2,d,fs',hd1,f3,hc,hk⟩
theorem uy {s t : Nat} {x : Opd} {v1 : _} {c n sz : Nat} {es : List (List D)} {ds : List D} (hs0 : s < 10000) (hst : s ≠ t) (hx : vd (ab e) x=.agx [.nils,.ref (.r c) 0 n]) (hc : c ≠ rt t 0) (hcb : ab e c=.blk sz es) (hsz : 0 < sz) (hl : es.length=n) (h1 : ∀ e ∈ es,∀ c ∈ e,aC c=true)
  (hs1 : ab e s=.ptx ds) (hm : (ds.all fun d=>!aA (rt t 0) true d)=true)
  (hk0 : n=0 -> doW C hs K ns ⟨⟩ e R acc [(t,.adr (.r (rt t 0)) 0 0),(rt t 0,.blk 2 [[.own sz [],.any]])] [(rt t 0,true)])
  (hk : 0 < n -> doW C hs K ns ⟨⟩ e R acc [(t,.adr (.r (rt t 0)) 0 0),(rt t 0,.blk 2 [[.own sz [],.own sz es]]),(c,.any),(s,.ptx (ds.map (jJ c (.n (rt t 0) 0 1))))] [(rt t 0,true)]) : opW C hs K ns (some t) (.boxK s x) v1 e R acc:=by
 unfold opW
 simp only [aB]
 refine ⟨hs0,hst,?_⟩
 rw [hx]
 refine ⟨rfl,hc,?_⟩
 rw [hcb]
 refine ⟨hsz,hl,h1,?_⟩
 rw [hs1]
 refine ⟨hm,?_⟩
 by_cases hn : n=0
 ·rw [if_pos hn];exact hk0 hn
 ·rw [if_neg hn];exact hk (Nat.pos_of_ne_zero hn)
end
end Go.Gv

namespace Go.Gv
def lx (n : Int) : Bool:=-1125899906842624 <= n && n <= 1125899906842624
theorem af {n m : Int} (h : n=m) (h2 : -9223372036854775808 <= m /\ m < 9223372036854775808) : IntKind.wrap .i64 n=m:=by
 subst h
 have e1 : IntKind.i64.signed=true:=rfl
 have e2 : (2 ^ (IntKind.i64.bits - 1) : Int)=9223372036854775808:=rfl
 have e3 : (2 ^ IntKind.i64.bits : Int)=18446744073709551616:=rfl
 unfold IntKind.wrap
 simp only [e1,e2,e3,x0S,x0g]
 split <;> omega
variable {C : CC} (hC : aq prog C)
include hC
end Go.Gv

namespace Go.Gv
structure SlI where
 n : Bool
 l : List Int
 deriving Inhabited
structure Sec where
 name : List UInt8
 height : Int
 price : Int
 areaN : Bool
 area : List (Int × Int)
 convN : Bool
 conv : List (Int × Int)
 deriving Inhabited
def eq {α : Type} (p : α -> Bool) (xs : List α) : Int:=match xs.findIdx? p with
 | some i=>i
 | none=>-1
theorem d6 {α : Type} {p : α -> Bool} {xs : List α} {i : Nat} (hj : ∀ (j : Nat) (h : j < xs.length),j < i -> p xs[j]=false) (hi : i < xs.length) (h : p xs[i]=true) : eq p xs=i:=by
 have : xs.findIdx? p=some i:=by
  rw [x1D]
  exact ⟨hi,h,fun j hji=>by simp [hj j (by omega) hji]⟩
 simp [eq,this]
theorem d5 {α : Type} {p : α -> Bool} {xs : List α} (hj : ∀ (j : Nat) (h : j < xs.length),p xs[j]=false) : eq p xs=-1:=by
 have : xs.findIdx? p=none:=by
  rw [List.findIdx?_eq_none_iff]
  intro x hx
  obtain ⟨j,h,rfl⟩:=x0K.1 hx
  exact hj j h
 simp [eq,this]
theorem hZ {α : Type} (p : α -> Bool) (xs : List α) : decide (0 <= eq p xs)=xs.any p:=by
 unfold eq
 split
 ·rename_i i h
  rw [x1D] at h
  obtain ⟨h1,h2,_⟩:=h
  have : xs.any p=true:=x0x.2 ⟨_,x0s h1,h2⟩
  simp [this]
 ·rename_i h
  rw [List.findIdx?_eq_none_iff] at h
  have : xs.any p=false:=by rw [x1f];intro x hx;simp [h x hx]
  simp [this]
variable {C : CC} (hC : aq prog C)
include hC
theorem vm {b : Bool} {xs : List Int} {g : Nat} {cs : List D} (p : Int -> Bool) (hs : xs.length < 2 ^ 62) (hp : ∀ x ∈ xs,C g (.int .i64 x::cs) (.bool (p x)) []) : C 35 [slx b (xs.map fun x=>[.int .i64 x]),.fn g cs] (.int .i64 (eq p xs)) []:=by
 refine aE hC (nf:=N35) rfl rfl ?_
 simp [N35]
 refine az Nat (fun i=>[(0,slx b (xs.map fun x=>[.int .i64 x])),(1,.fn g cs),(7,.int .i64 xs.length),(8,.int .i64 i)]) (fun i=>i <= xs.length /\ ∀ (j : Nat) (h : j < xs.length),j < i -> p xs[j]=false) (fun i=>xs.length - i) 0 (by simp) (by simp) ?_
 rintro i ⟨hi,hj⟩
 simp
 refine al (fun h=>?_) (fun h=>?_) <;> simp [h] <;> simp at h
 ·have hw : IntKind.wrap .i64 ((i : Int) + 1)=((i + 1 : Nat) : Int):=af (by omega) (by omega)
  have hc:=hp _ (x0s h)
  simp [h,x1E] at hc ⊢
  refine aa hc (.inl rfl) ?_
  simp
  refine al (fun h1=>?_) (fun h1=>?_) <;> simp [h1,hw]
  ·rw [d6 hj h h1]
  ·refine ⟨i + 1,⟨by omega,fun j hl hjj=>?_⟩,by omega,rfl⟩
   rcases x0H.1 hjj with h2 | rfl
   ·exact hj j hl h2
   ·exact h1
 ·rw [d5 (fun j hl=>hj j hl (by omega))]
theorem jv {b : Bool} {xs : List Int} {g : Nat} {cs : List D} (p : Int -> Bool) (hs : xs.length < 2 ^ 62) (hp : ∀ x ∈ xs,C g (.int .i64 x::cs) (.bool (p x)) []) : C 11 [slx b (xs.map fun x=>[.int .i64 x]),.fn g cs] (.bool (xs.any p)) []:=by
 refine aE hC (nf:=N11) rfl rfl ?_
 simp [N11]
 refine aa (vm hC p hs hp) (.inl rfl) ?_
 simp [hZ]
end Go.Gv

namespace Go.Gv
structure Spt where
 x : Int
 y : Int
 z : Int
 deriving Inhabited,DecidableEq
structure Fce where
 a : Int
 b : Int
 c : Int
 k : Int
 deriving Inhabited,DecidableEq
structure Msh where
 sn : Bool
 s : List Spt
 fn : Bool
 f : List Fce
def cy (s : Spt) : List D:=[.int .i64 s.x,.int .i64 s.y,.int .i64 s.z]
def a6 (f : Fce) : List D:=[.int .i64 f.a,.int .i64 f.b,.int .i64 f.c,.int .i64 f.k]
def bi (m : Msh) : List D:=[slx m.sn (m.s.map cy),slx m.fn (m.f.map a6)]
theorem b7 (s : Spt) : cy s=[.int .i64 s.x,.int .i64 s.y,.int .i64 s.z]:=zR
theorem aJ (f : Fce) : a6 f=[.int .i64 f.a,.int .i64 f.b,.int .i64 f.c,.int .i64 f.k]:=zR
theorem ae (m : Msh) : bi m=[slx m.sn (m.s.map cy),slx m.fn (m.f.map a6)]:=zR
def spt (m : Msh) (i : Nat) : Spt:=m.s[i]!
def fce (m : Msh) (i : Nat) : Fce:=m.f[i]!
@[simp high] theorem SO (m : Msh) (i : Nat) : m.s[i]! = spt m i:=zR
@[simp high] theorem RZ (m : Msh) (i : Nat) : m.f[i]! = fce m i:=zR
@[simp high] theorem SP (m : Msh) (i : Nat) : m.s[i]?.getD default=spt m i:=by simp only [spt,List.getElem!_eq_getElem?_getD]
@[simp high] theorem R0 (m : Msh) (i : Nat) : m.f[i]?.getD default=fce m i:=by simp only [fce,List.getElem!_eq_getElem?_getD]
@[simp] theorem S4 (m : Msh) (i : Nat) (h : i < m.s.length) : m.s[i]=spt m i:=(x0T m.s i h).symm
@[simp] theorem nG (m : Msh) (i : Nat) (h : i < m.f.length) : m.f[i]=fce m i:=(x0T m.f i h).symm
abbrev Pnt:=Int × Int
def ptD (p : Pnt) : List D:=[.int .i64 p.1,.int .i64 p.2]
def ptS (s : Spt) : Pnt:=(s.x,s.y)
def okP (p : Pnt) : Bool:=-16777216 <= p.1 && p.1 <= 16777216 && -16777216 <= p.2 && p.2 <= 16777216
def aH (s : Spt) : Bool:=-16777216 <= s.x && s.x <= 16777216 && -16777216 <= s.y && s.y <= 16777216 && -4194304 <= s.z && s.z <= 4194304
theorem oR {s : Spt} (h : aH s=true) : okP (ptS s)=true:=by
 simp only [aH,x0a,x0g] at h
 show okP (s.x,s.y)=true
 simp [okP]
 omega
def cx (a b c : Pnt) : Int:=(b.1 - a.1) * (c.2 - a.2) - (b.2 - a.2) * (c.1 - a.1)
theorem i8 {a b k l : Int} (h1 : -k <= a) (h2 : a <= k) (h3 : -l <= b) (h4 : b <= l) : -(k * l) <= a * b /\ a * b <= k * l:=by
 have hk : 0 <= k:=by omega
 have hl : 0 <= l:=by omega
 have e1:=Int.mul_nonneg (show 0 <= k - a by omega) (show 0 <= l - b by omega)
 have e2:=Int.mul_nonneg (show 0 <= k + a by omega) (show 0 <= l + b by omega)
 have e3:=Int.mul_nonneg (show 0 <= k - a by omega) (show 0 <= l + b by omega)
 have e4:=Int.mul_nonneg (show 0 <= k + a by omega) (show 0 <= l - b by omega)
 simp only [Int.sub_mul,Int.mul_sub,Int.add_mul,Int.mul_add] at e1 e2 e3 e4
 omega
theorem fN {p : Pnt} (h : okP p=true) : -16777216 <= p.1 /\ p.1 <= 16777216 /\ -16777216 <= p.2 /\ p.2 <= 16777216:=by
 simp only [okP,x0a,x0g] at h
 omega
theorem o6 {a b c : Pnt} (ha : okP a=true) (hb : okP b=true) (hc : okP c=true) :
  (-1125899906842624 <= (b.1 - a.1) * (c.2 - a.2) /\ (b.1 - a.1) * (c.2 - a.2) <= 1125899906842624) /\ (-1125899906842624 <= (b.2 - a.2) * (c.1 - a.1) /\ (b.2 - a.2) * (c.1 - a.1) <= 1125899906842624):=by
 have:=fN ha
 have:=fN hb
 have:=fN hc
 exact ⟨i8 (k:=33554432) (l:=33554432) (by omega) (by omega) (by omega) (by omega),i8 (k:=33554432) (l:=33554432) (by omega) (by omega) (by omega) (by omega)⟩
abbrev Tri:=Pnt × Pnt × Pnt
def b6 (t : Tri) : List D:=[.int .i64 t.1.1,.int .i64 t.1.2,.int .i64 t.2.1.1,.int .i64 t.2.1.2,.int .i64 t.2.2.1,.int .i64 t.2.2.2]
def okT (t : Tri) : Bool:=okP t.1 && okP t.2.1 && okP t.2.2
def gH (t : Tri) : Int:=cx t.1 t.2.1 t.2.2
def gM (p q : Pnt) (u : Tri) : Bool:=cx p q u.1 <= 0 && cx p q u.2.1 <= 0 && cx p q u.2.2 <= 0
def oZ (t u : Tri) : Bool:=gM t.1 t.2.1 u || gM t.2.1 t.2.2 u || gM t.2.2 t.1 u
def ovT (t u : Tri) : Bool:=!oZ t u && !oZ u t
def aN (m : Msh) (f : Fce) : Tri:=(ptS (spt m f.a.toNat),ptS (spt m f.b.toNat),ptS (spt m f.c.toNat))
def crn (f : Fce) : Nat -> Int
 | 0=>f.a
 | 1=>f.b
 | 2=>f.c
 | 3=>f.a
 | 4=>f.b
 | _=>f.c
def dG (n : Nat) (a : Int) : Bool:=0 <= a && a < n
def inS (m : Msh) (f : Fce) : Bool:=dG m.s.length f.a && dG m.s.length f.b && dG m.s.length f.c
theorem i5 {m : Msh} {f : Fce} (h : inS m f=true) : (0 <= f.a /\ f.a.toNat < m.s.length) /\ (0 <= f.b /\ f.b.toNat < m.s.length) /\ (0 <= f.c /\ f.c.toNat < m.s.length):=by
 simp only [inS,dG,x0a,x0g] at h
 omega
variable {C : CC} (hC : aq prog C)
include hC
theorem vP (p : Pnt) : C 313 [.agg (ptD p)] (.bool (okP p)) []:=by
 refine aE hC (nf:=N313) rfl rfl ?_
 simp [N313,ptD,okP]
 repeat' (refine al (fun h=>?_) (fun h=>?_) <;> simp at h <;> simp [h] <;> try omega)
theorem pP (s : Spt) : C 303 [.agg (cy s)] (.bool (aH s)) []:=by
 have k:=vP hC (s.x,s.y)
 simp [ptD,okP] at k
 refine aE hC (nf:=N303) rfl rfl ?_
 simp [N303,cy,aH]
 refine aa k (.inl rfl) ?_
 simp
 repeat' (refine al (fun h=>?_) (fun h=>?_) <;> simp at h <;> simp [h] <;> try omega)
theorem sB (s : Spt) : C 289 [.agg (cy s)] (.bool (aH s)) []:=by
 refine aE hC (nf:=N289) rfl rfl ?_
 simp [N289,cy,aH]
 repeat' (refine al (fun h=>?_) (fun h=>?_) <;> simp at h <;> simp [h] <;> try omega)
theorem jH (s : Spt) : C 291 [.agg (cy s)] (.agg (ptD (ptS s))) []:=by
 refine aE hC (nf:=N291) rfl rfl ?_
 simp [N291,cy,ptD,ptS]
theorem pQ (m : Msh) : C 302 [.agg (bi m)] (.bool (decide (m.s.length <= 2000) && decide (m.f.length <= 4000))) []:=by
 refine aE hC (nf:=N302) rfl rfl ?_
 simp [N302,bi]
 refine al (fun h=>?_) (fun h=>?_) <;> simp at h <;> simp [h]
 ·rw [decide_eq_true (show m.s.length <= 2000 by omega)]
  simp
  exact Iff.intro (fun h2=>by omega) (fun h2=>by omega)
 ·omega
theorem we (m : Msh) : C 257 [.agg (bi m)] (.bool (decide (m.s.length <= 2000) && decide (m.f.length <= 4000))) []:=by
 refine aE hC (nf:=N257) rfl rfl ?_
 simp [N257,bi]
 refine al (fun h=>?_) (fun h=>?_) <;> simp at h <;> simp [h]
 ·rw [decide_eq_true (show m.s.length <= 2000 by omega)]
  simp
  exact Iff.intro (fun h2=>by omega) (fun h2=>by omega)
 ·omega
theorem jA (m : Msh) (i : Nat) (h : i < m.s.length) : C 304 [.agg (bi m),.int .i64 i] (.agg (ptD (ptS (spt m i)))) []:=by
 refine aE hC (nf:=N304) rfl rfl ?_
 simp [N304,bi,h,b7,ptD,ptS]
 exact ai (by decide +kernel)
theorem mf (f : Fce) : C 305 [.agg (a6 f)] (.agg [.int .i64 f.a,.int .i64 f.b,.int .i64 f.c]) []:=by
 refine aE hC (nf:=N305) rfl rfl ?_
 simp [N305,a6]
theorem oH (f : Fce) (k : Nat) (hk : k < 3) : C 298 [.agg (a6 f),.int .i64 k] (.agg [.int .i64 (crn f k),.int .i64 (crn f (k + 1))]) []:=by
 have k1:=mf hC f
 refine aE hC (nf:=N298) rfl rfl ?_
 rw [a6] at k1 ⊢
 simp [N298]
 refine aa k1 (.inl rfl) ?_
 have w : IntKind.wrap .i64 ((k : Int) + 1)=((k + 1 : Nat) : Int):=af (by omega) (by omega)
 have w0 : IntKind.wrap .i64 1=1:=by decide
 have w1 : IntKind.wrap .i64 2=2:=by decide
 have w2 : IntKind.wrap .i64 3=3:=by decide
 rcases (by omega : k=0 \/ k=1 \/ k=2) with rfl | rfl | rfl <;> simp [crn,w0,w1,w2] <;> exact ai (by decide +kernel)
theorem oI {a b c : Pnt} (ha : okP a=true) (hb : okP b=true) (hc : okP c=true) : C 308 [.agg (ptD a),.agg (ptD b),.agg (ptD c)] (.int .i64 (cx a b c)) []:=by
 have:=fN ha
 have:=fN hb
 have:=fN hc
 have h4:=o6 ha hb hc
 refine aE hC (nf:=N308) rfl rfl ?_
 have w1 : IntKind.wrap .i64 (b.1 - a.1)=b.1 - a.1:=af rfl (by omega)
 have w2 : IntKind.wrap .i64 (c.2 - a.2)=c.2 - a.2:=af rfl (by omega)
 have w3 : IntKind.wrap .i64 (b.2 - a.2)=b.2 - a.2:=af rfl (by omega)
 have w4 : IntKind.wrap .i64 (c.1 - a.1)=c.1 - a.1:=af rfl (by omega)
 have w5 : IntKind.wrap .i64 ((b.1 - a.1) * (c.2 - a.2))=(b.1 - a.1) * (c.2 - a.2):=af rfl (by omega)
 have w6 : IntKind.wrap .i64 ((b.2 - a.2) * (c.1 - a.1))=(b.2 - a.2) * (c.1 - a.1):=af rfl (by omega)
 have w7 : IntKind.wrap .i64 ((b.1 - a.1) * (c.2 - a.2) - (b.2 - a.2) * (c.1 - a.1))=cx a b c:=af rfl (by rw [cx];omega)
 simp [N308,ptD,w1,w2,w3,w4,w5,w6,w7]
theorem sC {a b c : Pnt} (ha : okP a=true) (hb : okP b=true) (hc : okP c=true) : C 286 [.agg (ptD a),.agg (ptD b),.agg (ptD c)] (.int .i64 (cx a b c)) []:=by
 have:=fN ha
 have:=fN hb
 have:=fN hc
 have h4:=o6 ha hb hc
 refine aE hC (nf:=N286) rfl rfl ?_
 have w1 : IntKind.wrap .i64 (b.1 - a.1)=b.1 - a.1:=af rfl (by omega)
 have w2 : IntKind.wrap .i64 (c.2 - a.2)=c.2 - a.2:=af rfl (by omega)
 have w3 : IntKind.wrap .i64 (b.2 - a.2)=b.2 - a.2:=af rfl (by omega)
 have w4 : IntKind.wrap .i64 (c.1 - a.1)=c.1 - a.1:=af rfl (by omega)
 have w5 : IntKind.wrap .i64 ((b.1 - a.1) * (c.2 - a.2))=(b.1 - a.1) * (c.2 - a.2):=af rfl (by omega)
 have w6 : IntKind.wrap .i64 ((b.2 - a.2) * (c.1 - a.1))=(b.2 - a.2) * (c.1 - a.1):=af rfl (by omega)
 have w7 : IntKind.wrap .i64 ((b.1 - a.1) * (c.2 - a.2) - (b.2 - a.2) * (c.1 - a.1))=cx a b c:=af rfl (by rw [cx];omega)
 simp [N286,ptD,w1,w2,w3,w4,w5,w6,w7]
theorem vy (m : Msh) (f : Fce) (h : inS m f=true) : C 307 [.agg (bi m),.agg (a6 f)] (.agg (b6 (aN m f))) []:=by
 obtain ⟨⟨a1,a2⟩,⟨b1,b2⟩,⟨c1,c2⟩⟩:=i5 h
 have ka:=jA hC m f.a.toNat a2
 have kb:=jA hC m f.b.toNat b2
 have kc:=jA hC m f.c.toNat c2
 rw [x1e a1] at ka
 rw [x1e b1] at kb
 rw [x1e c1] at kc
 refine aE hC (nf:=N307) rfl rfl ?_
 rw [bi] at ka kb kc ⊢
 simp [N307,a6]
 simp [ptD] at ka kb kc
 refine aa ka (.inl rfl) ?_
 simp
 refine aa kb (.inl rfl) ?_
 simp
 refine aa kc (.inl rfl) ?_
 simp [b6,aN]
 exact ai (by decide +kernel)
theorem nW (f : Fce) (k : Nat) (hk : k < 4) : C 323 [.agg (a6 f),.int .i64 k] (.int .i64 (crn f k)) []:=by
 refine aE hC (nf:=N323) rfl rfl ?_
 rcases (by omega : k=0 \/ k=1 \/ k=2 \/ k=3) with rfl | rfl | rfl | rfl <;> simp [N323,a6,crn] <;> (refine oY (r:=[.int .i64 _]) rfl (by simp) ?_;simp)
theorem rF (m : Msh) (f : Fce) (h : inS m f=true) : C 285 [.agg (bi m),.agg (a6 f)] (.sl [ptD (aN m f).1,ptD (aN m f).2.1,ptD (aN m f).2.2]) []:=by
 obtain ⟨⟨a1,a2⟩,⟨b1,b2⟩,⟨c1,c2⟩⟩:=i5 h
 have ka:=jH hC (spt m f.a.toNat)
 have kb:=jH hC (spt m f.b.toNat)
 have kc:=jH hC (spt m f.c.toNat)
 rw [cy] at ka kb kc
 refine aE hC (nf:=N285) rfl rfl ?_
 simp [N285,a6,bi,a1,a2,b7]
 refine aa ka (.inl rfl) ?_
 simp [b1,b2,b7]
 refine aa kb (.inl rfl) ?_
 simp [c1,c2,b7]
 refine aa kc (.inl rfl) ?_
 simp [aN,ptD]
 exact ai (by decide +kernel)
end Go.Gv

namespace Go.Gv
theorem aL : IntKind.wrap .i64 1=1:=by decide
theorem aR : IntKind.wrap .i64 2=2:=by decide
theorem aS : IntKind.wrap .i64 3=3:=by decide
variable {C : CC} (hC : aq prog C)
include hC
set_option maxHeartbeats 1000000 in
theorem A5 {t u : Tri} (ht : okT t=true) (hu : okT u=true) : C 311 [.agg (b6 t),.agg (b6 u)] (.bool (oZ t u)) []:=by
 simp only [okT,x0a] at ht hu
 obtain ⟨⟨t1,t2⟩,t3⟩:=ht
 obtain ⟨⟨u1,u2⟩,u3⟩:=hu
 have kk:=fun (p q r : Pnt) (hp : okP p=true) (hq : okP q=true) (hr : okP r=true)=>oI hC hp hq hr
 simp only [ptD] at kk
 have E : oZ t u=(gM t.1 t.2.1 u || gM t.2.1 t.2.2 u || gM t.2.2 t.1 u):=rfl
 rw [E]
 clear E
 have S : ∀ p q,gM p q u=(decide (cx p q u.1 <= 0) && decide (cx p q u.2.1 <= 0) && decide (cx p q u.2.2 <= 0)):=fun p q=>rfl
 refine aE hC (nf:=N311) rfl rfl ?_
 rw [b6,b6]
 simp [N311]
 refine az Nat (fun i=>[(2,.ptr (b6 t)),(3,.ptr (b6 u)),(8,.int .i64 i)]) (fun i=>i <= 3 /\ (1 <= i -> gM t.1 t.2.1 u=false) /\ (2 <= i -> gM t.2.1 t.2.2 u=false) /\ (3 <= i -> gM t.2.2 t.1 u=false)) (fun i=>3 - i) 0 (by simp) (by simp [b6]) ?_
 rintro i ⟨hi,s1,s2,s3⟩
 rcases (by omega : i=0 \/ i=1 \/ i=2 \/ i=3) with rfl | rfl | rfl | rfl
 ·simp [b6,aL,aR,aS]
  refine ⟨ai (by decide +kernel),?_⟩
  refine aa (kk t.1 t.2.1 u.1 t1 t2 u1) (.inl rfl) ?_
  simp
  refine al (fun h1=>?_) (fun h1=>?_) <;> simp at h1
  ·simp [h1]
   refine aa (kk t.1 t.2.1 u.2.1 t1 t2 u2) (.inl rfl) ?_
   simp
   refine al (fun h2=>?_) (fun h2=>?_) <;> simp at h2
   ·simp [h2]
    refine aa (kk t.1 t.2.1 u.2.2 t1 t2 u3) (.inl rfl) ?_
    simp
    refine al (fun h3=>?_) (fun h3=>?_) <;> simp at h3 <;> simp [h3]
    ·simp [S,h1,h2,h3]
    ·refine ⟨1,⟨by omega,fun _=>by simp only [S,x0y,x0p];omega,fun h=>by omega,fun h=>by omega⟩,by omega,?_⟩ <;> simp [aL,aR,aS]
   ·simp [x02.2 h2]
    refine ⟨1,⟨by omega,fun _=>by simp only [S,x0y,x0p];omega,fun h=>by omega,fun h=>by omega⟩,by omega,?_⟩ <;> simp [aL,aR,aS]
  ·simp [x02.2 h1]
   refine ⟨1,⟨by omega,fun _=>by simp only [S,x0y,x0p];omega,fun h=>by omega,fun h=>by omega⟩,by omega,?_⟩ <;> simp [aL,aR,aS]
 ·simp [b6,aL,aR,aS]
  refine ⟨ai (by decide +kernel),?_⟩
  refine aa (kk t.2.1 t.2.2 u.1 t2 t3 u1) (.inl rfl) ?_
  simp
  refine al (fun h1=>?_) (fun h1=>?_) <;> simp at h1
  ·simp [h1]
   refine aa (kk t.2.1 t.2.2 u.2.1 t2 t3 u2) (.inl rfl) ?_
   simp
   refine al (fun h2=>?_) (fun h2=>?_) <;> simp at h2
   ·simp [h2]
    refine aa (kk t.2.1 t.2.2 u.2.2 t2 t3 u3) (.inl rfl) ?_
    simp
    refine al (fun h3=>?_) (fun h3=>?_) <;> simp at h3 <;> simp [h3]
    ·simp [S,h1,h2,h3]
    ·refine ⟨2,⟨by omega,fun _=>s1 (by omega),fun _=>by simp only [S,x0y,x0p];omega,fun h=>by omega⟩,by omega,?_⟩ <;> simp [aL,aR,aS]
   ·simp [x02.2 h2]
    refine ⟨2,⟨by omega,fun _=>s1 (by omega),fun _=>by simp only [S,x0y,x0p];omega,fun h=>by omega⟩,by omega,?_⟩ <;> simp [aL,aR,aS]
  ·simp [x02.2 h1]
   refine ⟨2,⟨by omega,fun _=>s1 (by omega),fun _=>by simp only [S,x0y,x0p];omega,fun h=>by omega⟩,by omega,?_⟩ <;> simp [aL,aR,aS]
 ·simp [b6,aL,aR,aS]
  refine ⟨ai (by decide +kernel),?_⟩
  refine aa (kk t.2.2 t.1 u.1 t3 t1 u1) (.inl rfl) ?_
  simp
  refine al (fun h1=>?_) (fun h1=>?_) <;> simp at h1
  ·simp [h1]
   refine aa (kk t.2.2 t.1 u.2.1 t3 t1 u2) (.inl rfl) ?_
   simp
   refine al (fun h2=>?_) (fun h2=>?_) <;> simp at h2
   ·simp [h2]
    refine aa (kk t.2.2 t.1 u.2.2 t3 t1 u3) (.inl rfl) ?_
    simp
    refine al (fun h3=>?_) (fun h3=>?_) <;> simp at h3 <;> simp [h3]
    ·simp [S,h1,h2,h3]
    ·refine ⟨3,⟨by omega,fun _=>s1 (by omega),fun _=>s2 (by omega),fun _=>by simp only [S,x0y,x0p];omega⟩,by omega,?_⟩ <;> simp [aL,aR,aS]
   ·simp [x02.2 h2]
    refine ⟨3,⟨by omega,fun _=>s1 (by omega),fun _=>s2 (by omega),fun _=>by simp only [S,x0y,x0p];omega⟩,by omega,?_⟩ <;> simp [aL,aR,aS]
  ·simp [x02.2 h1]
   refine ⟨3,⟨by omega,fun _=>s1 (by omega),fun _=>s2 (by omega),fun _=>by simp only [S,x0y,x0p];omega⟩,by omega,?_⟩ <;> simp [aL,aR,aS]
 ·simp [s1 (by omega),s2 (by omega),s3 (by omega)]
def nq (t : Tri) : List (List D):=[ptD t.1,ptD t.2.1,ptD t.2.2]
set_option maxHeartbeats 1000000 in
theorem p6 {t u : Tri} (ht : okT t=true) (hu : okT u=true) : C 324 [.sl (nq t),.sl (nq u)] (.bool (oZ t u)) []:=by
 simp only [okT,x0a] at ht hu
 obtain ⟨⟨t1,t2⟩,t3⟩:=ht
 obtain ⟨⟨u1,u2⟩,u3⟩:=hu
 have kk:=fun (p q r : Pnt) (hp : okP p=true) (hq : okP q=true) (hr : okP r=true)=>sC hC hp hq hr
 simp only [ptD] at kk
 have E : oZ t u=(gM t.1 t.2.1 u || gM t.2.1 t.2.2 u || gM t.2.2 t.1 u):=rfl
 rw [E]
 clear E
 have S : ∀ p q,gM p q u=(decide (cx p q u.1 <= 0) && decide (cx p q u.2.1 <= 0) && decide (cx p q u.2.2 <= 0)):=fun p q=>rfl
 refine aE hC (nf:=N324) rfl rfl ?_
 simp only [nq,ptD]
 simp [N324]
 refine az Nat (fun i=>[(0,.sl (nq t)),(1,.sl (nq u)),(5,.int .i64 i)]) (fun i=>i <= 3 /\ (1 <= i -> gM t.1 t.2.1 u=false) /\ (2 <= i -> gM t.2.1 t.2.2 u=false) /\ (3 <= i -> gM t.2.2 t.1 u=false)) (fun i=>3 - i) 0 (by simp) (by simp [nq,ptD]) ?_
 rintro i ⟨hi,s1,s2,s3⟩
 rcases (by omega : i=0 \/ i=1 \/ i=2 \/ i=3) with rfl | rfl | rfl | rfl
 ·simp [nq,ptD,aL,aR,aS]
  refine ⟨ai (by decide +kernel),?_⟩
  refine aa (kk t.1 t.2.1 u.1 t1 t2 u1) (.inl rfl) ?_
  simp
  refine al (fun h1=>?_) (fun h1=>?_) <;> simp at h1
  ·simp [h1]
   refine aa (kk t.1 t.2.1 u.2.1 t1 t2 u2) (.inl rfl) ?_
   simp
   refine al (fun h2=>?_) (fun h2=>?_) <;> simp at h2
   ·simp [h2]
    refine aa (kk t.1 t.2.1 u.2.2 t1 t2 u3) (.inl rfl) ?_
    simp
    refine ⟨ai (by decide +kernel),?_⟩
    refine al (fun h3=>?_) (fun h3=>?_) <;> simp at h3 <;> simp [h3]
    ·simp [S,h1,h2,h3]
    ·refine ⟨1,⟨by omega,fun _=>by simp only [S,x0y,x0p];omega,fun h=>by omega,fun h=>by omega⟩,by omega,?_⟩ <;> simp [aL,aR,aS]
   ·simp [x02.2 h2]
    refine ⟨ai (by decide +kernel),?_⟩
    refine ⟨1,⟨by omega,fun _=>by simp only [S,x0y,x0p];omega,fun h=>by omega,fun h=>by omega⟩,by omega,?_⟩ <;> simp [aL,aR,aS]
  ·simp [x02.2 h1]
   refine ⟨ai (by decide +kernel),?_⟩
   refine ⟨1,⟨by omega,fun _=>by simp only [S,x0y,x0p];omega,fun h=>by omega,fun h=>by omega⟩,by omega,?_⟩ <;> simp [aL,aR,aS]
 ·simp [nq,ptD,aL,aR,aS]
  refine ⟨ai (by decide +kernel),?_⟩
  refine aa (kk t.2.1 t.2.2 u.1 t2 t3 u1) (.inl rfl) ?_
  simp
  refine al (fun h1=>?_) (fun h1=>?_) <;> simp at h1
  ·simp [h1]
   refine aa (kk t.2.1 t.2.2 u.2.1 t2 t3 u2) (.inl rfl) ?_
   simp
   refine al (fun h2=>?_) (fun h2=>?_) <;> simp at h2
   ·simp [h2]
    refine aa (kk t.2.1 t.2.2 u.2.2 t2 t3 u3) (.inl rfl) ?_
    simp
    refine ⟨ai (by decide +kernel),?_⟩
    refine al (fun h3=>?_) (fun h3=>?_) <;> simp at h3 <;> simp [h3]
    ·simp [S,h1,h2,h3]
    ·refine ⟨2,⟨by omega,fun _=>s1 (by omega),fun _=>by simp only [S,x0y,x0p];omega,fun h=>by omega⟩,by omega,?_⟩ <;> simp [aL,aR,aS]
   ·simp [x02.2 h2]
    refine ⟨ai (by decide +kernel),?_⟩
    refine ⟨2,⟨by omega,fun _=>s1 (by omega),fun _=>by simp only [S,x0y,x0p];omega,fun h=>by omega⟩,by omega,?_⟩ <;> simp [aL,aR,aS]
  ·simp [x02.2 h1]
   refine ⟨ai (by decide +kernel),?_⟩
   refine ⟨2,⟨by omega,fun _=>s1 (by omega),fun _=>by simp only [S,x0y,x0p];omega,fun h=>by omega⟩,by omega,?_⟩ <;> simp [aL,aR,aS]
 ·simp [nq,ptD,aL,aR,aS]
  refine ⟨ai (by decide +kernel),?_⟩
  refine aa (kk t.2.2 t.1 u.1 t3 t1 u1) (.inl rfl) ?_
  simp
  refine al (fun h1=>?_) (fun h1=>?_) <;> simp at h1
  ·simp [h1]
   refine aa (kk t.2.2 t.1 u.2.1 t3 t1 u2) (.inl rfl) ?_
   simp
   refine al (fun h2=>?_) (fun h2=>?_) <;> simp at h2
   ·simp [h2]
    refine aa (kk t.2.2 t.1 u.2.2 t3 t1 u3) (.inl rfl) ?_
    simp
    refine ⟨ai (by decide +kernel),?_⟩
    refine al (fun h3=>?_) (fun h3=>?_) <;> simp at h3 <;> simp [h3]
    ·simp [S,h1,h2,h3]
    ·refine ⟨3,⟨by omega,fun _=>s1 (by omega),fun _=>s2 (by omega),fun _=>by simp only [S,x0y,x0p];omega⟩,by omega,?_⟩ <;> simp [aL,aR,aS]
   ·simp [x02.2 h2]
    refine ⟨ai (by decide +kernel),?_⟩
    refine ⟨3,⟨by omega,fun _=>s1 (by omega),fun _=>s2 (by omega),fun _=>by simp only [S,x0y,x0p];omega⟩,by omega,?_⟩ <;> simp [aL,aR,aS]
  ·simp [x02.2 h1]
   refine ⟨ai (by decide +kernel),?_⟩
   refine ⟨3,⟨by omega,fun _=>s1 (by omega),fun _=>s2 (by omega),fun _=>by simp only [S,x0y,x0p];omega⟩,by omega,?_⟩ <;> simp [aL,aR,aS]
 ·simp [s1 (by omega),s2 (by omega),s3 (by omega)]
end Go.Gv

namespace Go.Gv
def okc (m : Msh) (a b : Int) : Bool:=dG m.s.length a && decide (a ≠ b) && aH (spt m a.toNat)
def okF (m : Msh) (f : Fce) : Bool:=okc m f.a f.b && okc m f.b f.c && okc m f.c f.a && decide (0 <= f.k) && decide (f.k < 16)
def mtc (f g : Fce) (i k : Nat) : Bool:=decide (crn f i=crn g k) && decide (crn f (i + 1)=crn g (k + 1))
def gy (f g : Fce) : Bool:=(List.range 3).any fun i=>(List.range 3).any fun k=>mtc f g i k
theorem gn {m : Msh} {f : Fce} (h : okF m f=true) : inS m f=true:=by
 simp only [okF,okc,x0a] at h
 simp only [inS,x0a]
 exact ⟨⟨h.1.1.1.1.1.1,h.1.1.1.2.1.1⟩,h.1.1.2.1.1⟩
theorem cB {m : Msh} {f : Fce} (h : okF m f=true) : okT (aN m f)=true:=by
 simp only [okF,okc,x0a] at h
 simp only [okT,aN,x0a]
 exact ⟨⟨oR h.1.1.1.1.2,oR h.1.1.1.2.2⟩,oR h.1.1.2.2⟩
def pq (n : Nat) : UInt8:=UInt8.ofNat (48 + n % 10)
def om (n : Nat) (out : List UInt8) : List UInt8:=if n < 10 then pq n::out else om (n / 10) (pq n::out)
def qA (n : Nat) (out : List UInt8) : List UInt8:=if n=0 then out else om n out
theorem nE (n : Nat) (out : List UInt8) : om n out=qA (n / 10) (pq n::out):=by
 rw [om,qA]
 by_cases h : n < 10
 ·rw [if_pos h,if_pos (by omega)]
 ·rw [if_neg h,if_neg (by omega)]
variable {C : CC} (hC : aq prog C)
include hC
theorem yE (m : Msh) (f : Fce) (hs : inS m f=true) (ht : okT (aN m f)=true) : C 293 [.agg (bi m),.agg (a6 f)] (.int .i64 (gH (aN m f))) []:=by
 have k1:=rF hC m f hs
 have k2:=ht
 simp only [okT,x0a] at k2
 have k3:=sC hC k2.1.1 k2.1.2 k2.2
 obtain ⟨t,e⟩ : ∃ t,t=aN m f:=⟨_,rfl⟩
 rw [<- e] at k1 k3 ⊢
 refine aE hC (nf:=N293) rfl rfl ?_
 rw [bi,a6] at k1 ⊢
 simp only [ptD] at k1 k3
 simp [N293]
 refine aa k1 (.inr rfl) ?_
 simp
 refine aa k3 (.inl rfl) ?_
 simp [gH]
 exact ai (by decide +kernel)
theorem rE (m : Msh) (f g : Fce) (hs : inS m f=true) (ht : okT (aN m f)=true) (hs' : inS m g=true) (ht' : okT (aN m g)=true) : C 295 [.agg (bi m),.agg (a6 f),.agg (a6 g)] (.bool (ovT (aN m f) (aN m g))) []:=by
 have k1:=rF hC m f hs
 have k2:=rF hC m g hs'
 have k3:=p6 hC ht ht'
 have k4:=p6 hC ht' ht
 obtain ⟨t,e⟩ : ∃ t,t=aN m f:=⟨_,rfl⟩
 obtain ⟨u,e'⟩ : ∃ u,u=aN m g:=⟨_,rfl⟩
 rw [<- e] at k1 k3 k4 ⊢
 rw [<- e'] at k2 k3 k4 ⊢
 refine aE hC (nf:=N295) rfl rfl ?_
 rw [bi,a6] at k1 k2 ⊢
 rw [a6]
 simp only [nq,ptD] at k1 k2 k3 k4
 simp [N295]
 refine aa k1 (.inr rfl) ?_
 simp
 refine aa k2 (.inr rfl) ?_
 simp
 refine ⟨ai (by decide +kernel),?_⟩
 refine aa k3 (.inl rfl) ?_
 simp
 cases h1 : oZ t u <;> simp [ovT,h1]
 refine aa k4 (.inl rfl) ?_
 simp
 exact fun _=>h1
theorem yC (f g : Fce) : C 294 [.agg (a6 f),.agg (a6 g)] (.bool (gy f g)) []:=by
 have kf:=fun k (h : k < 4)=>nW hC f k h
 have kg:=fun k (h : k < 4)=>nW hC g k h
 refine aE hC (nf:=N294) rfl rfl ?_
 rw [a6] at kf ⊢
 rw [a6] at kg ⊢
 simp [N294]
 refine az Nat (fun i=>[(2,.ptr (a6 f)),(3,.ptr (a6 g)),(5,.int .i64 i)]) (fun i=>i <= 3 /\ ∀ a,a < i -> ∀ b,b < 3 -> mtc f g a b=false) (fun i=>3 - i) 0 (by simp) (by simp [a6]) ?_
 rintro i ⟨hi,hI⟩
 simp [a6]
 refine al (fun c1=>?_) (fun c1=>?_) <;> simp at c1 <;> simp [c1]
 ·have hw : IntKind.wrap .i64 ((i : Int) + 1)=((i + 1 : Nat) : Int):=af (by omega) (by omega)
  refine az Nat (fun k=>[(2,.ptr (a6 f)),(3,.ptr (a6 g)),(5,.int .i64 i),(6,.int .i64 k)]) (fun k=>k <= 3 /\ ∀ b,b < k -> mtc f g i b=false) (fun k=>3 - k) 0 (by simp) (by simp [a6]) ?_
  rintro k ⟨hk,hK⟩
  simp [a6]
  refine al (fun c2=>?_) (fun c2=>?_) <;> simp at c2 <;> simp [c2]
  ·have hw2 : IntKind.wrap .i64 ((k : Int) + 1)=((k + 1 : Nat) : Int):=af (by omega) (by omega)
   refine aa (kf i (by omega)) (.inl rfl) ?_
   simp
   refine aa (kg k (by omega)) (.inl rfl) ?_
   simp
   by_cases h1 : crn f i=crn g k
   ·simp [h1,hw,hw2]
    refine aa (kf (i + 1) (by omega)) (.inl rfl) ?_
    simp [hw2]
    refine aa (kg (k + 1) (by omega)) (.inl rfl) ?_
    simp
    refine ⟨ai (by decide +kernel),?_⟩
    by_cases h2 : crn f (i + 1)=crn g (k + 1)
    ·simp [h2]
     refine x0x.2 ⟨i,x0E.2 (by omega),x0x.2 ⟨k,x0E.2 (by omega),?_⟩⟩
     simp [mtc,h1,h2]
    ·simp [h2,hw2]
     refine ⟨k + 1,⟨by omega,fun b hb=>?_⟩,by omega,?_⟩
     rotate_left
     ·omega
     rcases x0H.1 hb with h | rfl
     ·exact hK b h
     ·simp [mtc,h2]
   ·simp [h1,hw2]
    refine ⟨ai (by decide +kernel),?_⟩
    refine ⟨k + 1,⟨by omega,fun b hb=>?_⟩,by omega,?_⟩
    rotate_left
    ·omega
    rcases x0H.1 hb with h | rfl
    ·exact hK b h
    ·simp [mtc,h1]
  ·simp [hw]
   refine ⟨i + 1,⟨by omega,fun a ha b hb=>?_⟩,by omega,?_⟩
   rotate_left
   ·omega
   rcases x0H.1 ha with h | rfl
   ·exact hI a h b hb
   ·exact hK b (by omega)
 ·rw [gy]
  rw [Bool.eq_false_iff]
  intro h
  rw [x0x] at h
  obtain ⟨a,ha,h⟩:=h
  rw [x0x] at h
  obtain ⟨b,hb,h⟩:=h
  rw [hI a (by have:=x0E.1 ha;omega) b (x0E.1 hb)] at h
  cases h
set_option maxHeartbeats 2000000 in
theorem C7 (m : Msh) (f : Fce) (hn : m.s.length < 2 ^ 40) : C 292 [.agg (bi m),.agg (a6 f)] (.bool (okF m f)) []:=by
 have ks:=fun s=>sB hC s
 have E : ∀ a b : Int,okc m a b=(decide (0 <= a) && decide (a < m.s.length) && decide (a ≠ b) && aH (spt m a.toNat)):=fun a b=>rfl
 have E2 : okF m f=(okc m f.a f.b && okc m f.b f.c && okc m f.c f.a && decide (0 <= f.k) && decide (f.k < 16)):=rfl
 refine aE hC (nf:=N292) rfl rfl ?_
 rw [bi,a6]
 simp only [cy] at ks
 simp [N292]
 refine az Nat (fun i=>[(2,.ptr (bi m)),(3,.ptr (a6 f)),(5,.ref (.r 10080) 0 3),(10080,.blk 1 [[.int .i64 f.a],[.int .i64 f.b],[.int .i64 f.c]]),(6,.int .i64 i)]) (fun i=>i <= 3 /\ (1 <= i -> okc m f.a f.b=true) /\ (2 <= i -> okc m f.b f.c=true) /\ (3 <= i -> okc m f.c f.a=true)) (fun i=>3 - i) 0 (by simp) (by simp [a6,bi]) ?_
 rintro i ⟨hi,s1,s2,s3⟩
 rcases (by omega : i=0 \/ i=1 \/ i=2 \/ i=3) with rfl | rfl | rfl | rfl
 ·have no : okc m f.a f.b=false -> okF m f=false:=fun h=>by simp [E2,h]
  simp [a6,bi,aL,aR,aS]
  refine al (fun c1=>?_) (fun c1=>?_) <;> simp at c1
  ·simp [c1]
   exact ⟨ai (by decide +kernel),no (by rw [E,decide_eq_false (by omega)];simp)⟩
  ·simp [x06.2 c1]
   refine al (fun c2=>?_) (fun c2=>?_) <;> simp at c2
   ·simp [c2]
    exact ⟨ai (by decide +kernel),no (by rw [E,decide_eq_false (show ¬ f.a < m.s.length by omega)];simp)⟩
   ·simp [x02.2 c2,aL,aR,aS]
    by_cases c3 : f.a=f.b
    ·simp [c3,aL,aR,aS]
     exact ⟨ai (by decide +kernel),no (by rw [E,decide_eq_false (show ¬ f.a ≠ f.b by omega)];simp)⟩
    ·simp [c3,c1,aL,aR,aS]
     refine ⟨by omega,by simp [cy],?_⟩
     simp [b7]
     refine aa (ks (spt m f.a.toNat)) (.inl rfl) ?_
     cases c4 : aH (spt m f.a.toNat)
     ·simp
      exact ⟨ai (by decide +kernel),no (by rw [E,c4];simp)⟩
     ·simp
      refine ⟨ai (by decide +kernel),?_⟩
      refine ⟨1,⟨by omega,fun _=>by rw [E];simp [c1,c3,c4];omega,fun h=>by omega,fun h=>by omega⟩,by omega,?_⟩ <;> simp [aL,aR,aS]
 ·have no : okc m f.b f.c=false -> okF m f=false:=fun h=>by simp [E2,h]
  simp [a6,bi,aL,aR,aS]
  refine al (fun c1=>?_) (fun c1=>?_) <;> simp at c1
  ·simp [c1]
   exact ⟨ai (by decide +kernel),no (by rw [E,decide_eq_false (by omega)];simp)⟩
  ·simp [x06.2 c1]
   refine al (fun c2=>?_) (fun c2=>?_) <;> simp at c2
   ·simp [c2]
    exact ⟨ai (by decide +kernel),no (by rw [E,decide_eq_false (show ¬ f.b < m.s.length by omega)];simp)⟩
   ·simp [x02.2 c2,aL,aR,aS]
    by_cases c3 : f.b=f.c
    ·simp [c3,aL,aR,aS]
     exact ⟨ai (by decide +kernel),no (by rw [E,decide_eq_false (show ¬ f.b ≠ f.c by omega)];simp)⟩
    ·simp [c3,c1,aL,aR,aS]
     refine ⟨by omega,by simp [cy],?_⟩
     simp [b7]
     refine aa (ks (spt m f.b.toNat)) (.inl rfl) ?_
     cases c4 : aH (spt m f.b.toNat)
     ·simp
      exact ⟨ai (by decide +kernel),no (by rw [E,c4];simp)⟩
     ·simp
      refine ⟨ai (by decide +kernel),?_⟩
      refine ⟨2,⟨by omega,fun _=>s1 (by omega),fun _=>by rw [E];simp [c1,c3,c4];omega,fun h=>by omega⟩,by omega,?_⟩ <;> simp [aL,aR,aS]
 ·have no : okc m f.c f.a=false -> okF m f=false:=fun h=>by simp [E2,h]
  simp [a6,bi,aL,aR,aS]
  refine al (fun c1=>?_) (fun c1=>?_) <;> simp at c1
  ·simp [c1]
   exact ⟨ai (by decide +kernel),no (by rw [E,decide_eq_false (by omega)];simp)⟩
  ·simp [x06.2 c1]
   refine al (fun c2=>?_) (fun c2=>?_) <;> simp at c2
   ·simp [c2]
    exact ⟨ai (by decide +kernel),no (by rw [E,decide_eq_false (show ¬ f.c < m.s.length by omega)];simp)⟩
   ·simp [x02.2 c2,aL,aR,aS]
    by_cases c3 : f.c=f.a
    ·simp [c3,aL,aR,aS]
     exact ⟨ai (by decide +kernel),no (by rw [E,decide_eq_false (show ¬ f.c ≠ f.a by omega)];simp)⟩
    ·simp [c3,c1,aL,aR,aS]
     refine ⟨by omega,by simp [cy],?_⟩
     simp [b7]
     refine aa (ks (spt m f.c.toNat)) (.inl rfl) ?_
     cases c4 : aH (spt m f.c.toNat)
     ·simp
      exact ⟨ai (by decide +kernel),no (by rw [E,c4];simp)⟩
     ·simp
      refine ⟨ai (by decide +kernel),?_⟩
      refine ⟨3,⟨by omega,fun _=>s1 (by omega),fun _=>s2 (by omega),fun _=>by rw [E];simp [c1,c3,c4];omega⟩,by omega,?_⟩ <;> simp [aL,aR,aS]
 ·have t1:=s1 (by omega)
  have t2:=s2 (by omega)
  have t3:=s3 (by omega)
  simp [a6,bi,E2,t1,t2,t3]
  refine al (fun c1=>?_) (fun c1=>?_) <;> simp at c1 <;> simp [c1] <;> rw [E2,t1,t2,t3] <;> simp [c1]
  omega
theorem C5 (n : Nat) (hn : n < 100) : C 290 [.int .i64 n] (.str (om n [])) []:=by
 refine aE hC (nf:=N290) rfl rfl ?_
 simp [N290]
 refine az (Nat × List UInt8) (fun s=>[(0,.int .i64 s.1),(3,.str s.2)]) (fun s=>s.1 + s.2.length <= n + 1 /\ ((s.2=[] /\ s.1=n) \/ (s.2 ≠ [] /\ qA s.1 s.2=om n []))) (fun s=>s.1 + if s.2=[] then 1 else 0) (n,[]) (by simp) (by simp) ?_
 rintro ⟨k,out⟩ ⟨hl,hI⟩
 simp only at hl hI
 have ww : IntKind.wrap .i64 ((k : Int) / 10)=((k / 10 : Nat) : Int):=af (by omega) (by omega)
 have wq : IntKind.wrap .i64 (48 + (k : Int) % 10)=48 + (k : Int) % 10:=af rfl (by omega)
 have et : (k : Int).tmod 10=(k : Int) % 10:=Int.tmod_eq_emod_of_nonneg (by omega)
 have wd : IntKind.u8.wrap (48 + (k : Int) % 10)=48 + (k : Int) % 10:=by
  have e1 : IntKind.u8.signed=false:=rfl
  have e3 : (2 ^ IntKind.u8.bits : Int)=256:=rfl
  unfold IntKind.wrap
  simp only [e1,e3,Bool.false_and]
  simp
  omega
 have wdd : IntKind.u8.wrap (IntKind.wrap .i64 (48 + (k : Int).tmod 10))=48 + (k : Int) % 10:=by rw [et,wq,wd]
 have hda : (k : Int) / 10=((k / 10 : Nat) : Int):=by omega
 have wb : fH [.int .u8 (48 + (k : Int) % 10)]=pq k:=by
  have : (48 + (k : Int) % 10).toNat=48 + k % 10:=by omega
  simp only [fH,pq,this]
 have hstep : qA (k / 10) (pq k::out)=om n [] \/ (k=0 /\ out ≠ []):=by
  rcases hI with ⟨rfl,rfl⟩ | ⟨h1,h2⟩
  ·exact .inl (nE _ _).symm
  ·by_cases h : k=0
   ·exact .inr ⟨h,h1⟩
   ·rw [qA,if_neg h] at h2
    rw [<- nE,h2]
    exact .inl rfl
 by_cases hk : 0 < k
 ·have h3 : qA (k / 10) (pq k::out)=om n []:=by
   rcases hstep with h | h
   ·exact h
   ·omega
  simp [hk,wdd,ww]
  refine ⟨⟨48 + k % 10,by omega,by omega⟩,by omega,k / 10,_,⟨by simp;omega,.inr ⟨by simp,?_⟩⟩,?_,hda,rfl⟩
  ·rw [wb];exact h3
  ·simp
   split <;> omega
 ·have h0 : k=0:=by omega
  subst h0
  by_cases ho : out=[]
  ·subst ho
   simp at hstep
   have w48 : IntKind.u8.wrap (IntKind.wrap .i64 48)=48:=by decide
   simp [w48]
   refine ⟨⟨48,rfl,by omega⟩,0,_,⟨by simp,.inr ⟨by simp,?_⟩⟩,⟨rfl,by simp⟩,by decide,rfl⟩
   have : fH [.int .u8 48]=pq 0:=by decide
   rw [this]
   exact hstep
  ·rcases hI with ⟨h1,_⟩ | ⟨_,h2⟩
   ·exact absurd h1 ho
   ·rw [qA,if_pos rfl] at h2
    rw [<- h2]
    simp [ho]
end Go.Gv
