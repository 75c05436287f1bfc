/-
  Texts of the proof: GvR, GvEwo, GvN, ItW, GvT, GvT4, GvU, GvW, GvX, GvX2, GvX3, GvX4, GvX5, K1, K3, H1, H2, H3.
-/
import Derived.Test.YtibmdjdddnkomaaGreatDoorX4
import Derived.SizedLaws
import Derived.ProofKit
import Derived.Test.YtibmdjdddnkomaaGreatDoorX5
import Derived.Test.YtibmdjdddnkomaaGreatDoorProg
import Derived.KernelRfl
import Derived.Shelf.Small.Bits
import Derived.Shelf.Small.Wraps
import Derived.Shelf.Strconv.Itoa0
import Derived.Shelf.Strconv.Itoa1
import Derived.Shelf.LaysM
import Derived.Shelf.Strconv.Itoa2
import Derived.Shelf.Strconv.Itoa3
import Derived.Shelf.Sort.Plain
import Derived.Shelf.Bits.Mul64
import Derived.Shelf.Slices.Turned
import Derived.Shelf.Slices.Reverse
import Derived.Shelf.Slices.Equal
import Derived.Ground.Names2Prog
import Derived.Shelf.Slices.Clone
import Derived.Shelf.Slices.CompactI
import Derived.Shelf.Slices.SearchI
import Derived.Shelf.Slices.Cells
import Derived.Shelf.Slices.In.SortNone
import Derived.Shelf.Slices.Empties2
import Derived.Ground.SlgnProg
import Derived.Shelf.SlicesE.Reverse
import Derived.Shelf.SlicesE.Clone
import Derived.Sort.Row
import Derived.Sort.Grow
import Derived.Shelf.Spec.SlicesInsertGrow
set_option linter.all false
namespace Go.Gv
open Go.RowKit Go.ChangeShapes Go.WideShapes Go.ChangeAt
inductive Sh where
 | int (k : IntKind)
 | bool
 | str
 | sl (row : List Sh)
mutual
def eP : Sh -> D -> Prop
 | .int k,d=>∃ n,d=.int k n /\ (Lit.int k n).wf=true
 | .bool,d=>∃ b,d=.bool b
 | .str,d=>∃ s,d=.str s /\ s.length < 140737488355328
 | .sl row,d=>∃ es,(d=.sl es \/ (d=.nils /\ es=[])) /\ es.length < 140737488355328 /\ ∀ e ∈ es,bM row e
def bM : List Sh -> List D -> Prop
 | [],ds=>ds=[]
 | s::ss,ds=>∃ d r,ds=d::r /\ eP s d /\ bM ss r
end
theorem bM.length : ∀ {ss : List Sh} {ds : List D},bM ss ds -> ds.length=ss.length
 | [],ds,h=>by simp only [bM] at h;simp [h]
 | s::ss,ds,h=>by
  simp only [bM] at h
  obtain ⟨d,r,rfl,_,h2⟩:=h
  simp [bM.length h2]
theorem bM.append : ∀ {ss ts : List Sh} {ds es : List D},bM ss ds -> bM ts es -> bM (ss++ts) (ds++es)
 | [],ts,ds,es,h,h'=>by simp only [bM] at h;subst h;exact h'
 | s::ss,ts,ds,es,h,h'=>by
  simp only [bM] at h
  obtain ⟨d,r,rfl,h1,h2⟩:=h
  exact ⟨d,r++es,rfl,h1,bM.append h2 h'⟩
def og (P : Program) (rec : TypeId -> Option (List Sh)) : List Field -> Nat -> Option (List Sh)
 | [],_=>some []
 | f::fs,off=>if f.offset=off then (match rec f.type with
   | some l=>if l.length=P.cellsOf f.type then (match og P rec fs (off + l.length) with
    | some r=>some (l++r)
    | none=>none) else none
   | none=>none) else none
def m9 (P : Program) : Nat -> TypeId -> Option (List Sh)
 | 0,_=>none
 | n + 1,t=>match P.underlying t with
  | some .bool=>some [.bool]
  | some (.int k)=>some [.int k]
  | some .string=>some [.str]
  | some (.slice e)=>(match m9 P n e with
   | some l=>if l.length=P.cellsOf e /\ 1 <= P.bytesOf e then some [.sl l] else none
   | none=>none)
  | some (.struct fs)=>(match og P (m9 P n) fs.toList 0 with
   | some l=>if l.length=P.cellsOf t then some l else none
   | none=>none)
  | _=>none
section
variable {H : Type} {enc : TypeId × Value -> H} {P : Program} {F : Fid} {w : World} {sp : Nat -> Bool}
abbrev lF (w : World) : Mem:=fun p=>w.cell? p
def tM (enc : TypeId × Value -> H) (P : Program) (F : Fid) (w : World) (sp : Nat -> Bool) (n : Nat) (t : TypeId) (shs : List Sh) : Prop :=
 ∀ (cs : List Value) (d : DataW H) (ps : List MemPlace),DataW.trod enc P w 0 sp true n t cs=some (d,ps) -> (d.weights P t).all (· <= reachBytes)=true -> ∃ ds,bM shs ds /\ av F (lF w) ds cs
theorem gX {α β : Type} {f : α -> Option β} {x : α} {l : List α} {ys : List β} (h : (x::l).mapM f=some ys) : ∃ y r,f x=some y /\ l.mapM f=some r /\ ys=y::r:=by
 rw [List.mapM_cons] at h
 cases hx : f x with
 | none=>rw [hx] at h;cases h
 | some y =>
  cases hl : l.mapM f with
  | none=>rw [hx,hl] at h;cases h
  | some r =>
   rw [hx,hl] at h
   exact ⟨y,r,rfl,rfl,by cases h;rfl⟩
theorem my {n m : Nat} (ih : ∀ t shs,m9 P m t=some shs -> tM enc P F w sp n t shs) {cs : List Value} : ∀ (fs : List Field) (off : Nat) (xs : List (DataW H × List MemPlace)) (shs : List Sh),
  (fs.mapM fun f=>DataW.trod enc P w 0 sp true n f.type ((cs.drop f.offset).take (P.cellsOf f.type)))=some xs -> og P (m9 P m) fs off=some shs -> (DataW.weightsEach P (fs.map (·.type)) (xs.map (·.1))).all (· <= reachBytes)=true -> cs.length=off + shs.length ->
   ∃ ds,bM shs ds /\ av F (lF w) ds (cs.drop off)
 | [],off,xs,shs,_,h2,_,h4=>by
  cases h2
  exact ⟨[],rfl,by simp only [av];exact List.drop_of_length_le (by simpa using Nat.le_of_eq h4)⟩
 | f::fs,off,xs,shs,h1,h2,h3,h4=>by
  obtain ⟨y,r,e1,e2,rfl⟩:=gX h1
  simp only [og] at h2
  split at h2
  case isFalse=>cases h2
  rename_i ho
  split at h2
  case h_2=>cases h2
  rename_i l hl
  split at h2
  case isFalse=>cases h2
  rename_i hlen
  split at h2
  case h_2=>cases h2
  rename_i rs hr
  cases h2
  simp only [x0D,DataW.weightsEach,List.all_append,x0a] at h3
  rw [x0M] at h4
  obtain ⟨ds1,g1,g2⟩:=ih f.type l hl _ y.1 y.2 e1 h3.1
  obtain ⟨ds2,g3,g4⟩:=my ih fs (off + l.length) r rs e2 hr h3.2 (by omega)
  refine ⟨ds1++ds2,g1.append g3,?_⟩
  rw [ho,<- hlen] at g2
  have:=g2.append g4
  rwa [<- List.drop_drop,List.take_append_drop] at this
theorem mz {n k : Nat} {e : TypeId} {l : List Sh} {a : Addr} (hl : l.length=k) (ih : tM enc P F w sp n e l) : ∀ (c s : Nat) (xs : List (DataW H × List MemPlace)),
  ((List.range' s c).mapM fun i=>(w.cells? 0 (a.add (i * k)) k).bind (DataW.trod enc P w 0 sp true n e))=some xs -> (DataW.weightsAll P e (xs.map (·.1))).all (· <= reachBytes)=true ->
   ∃ (es : List (List D)) (vs : List Value),es.length=c /\ xs.length=c /\ (∀ r ∈ es,bM l r) /\ a7 F (lF w) es vs /\ ∀ j v,vs[j]? = some v -> w.cell? (a.add (s * k + j))=some v
 | 0,s,xs,h,_=>by
  cases h
  exact ⟨[],[],rfl,rfl,by simp,by simp [a7],fun j v h=>by simp at h⟩
 | c + 1,s,xs,h,hw=>by
  rw [List.range'_succ] at h
  obtain ⟨y,r,e1,e2,rfl⟩:=gX h
  rw [Option.bind_eq_some_iff] at e1
  obtain ⟨row,c1,c2⟩:=e1
  simp only [x0D,DataW.weightsAll,List.all_append,x0a] at hw
  obtain ⟨ds,g1,g2⟩:=ih row y.1 y.2 c2 hw.1
  obtain ⟨es,vs,h1,h2,h3,h4,h5⟩:=mz hl ih c (s + 1) r e2 hw.2
  have hrow:=World.cells?_some c1
  refine ⟨ds::es,row++vs,by simp [h1],by simp [h2],?_,⟨row,vs,rfl,g2,h4⟩,fun j v hj=>?_⟩
  ·intro x hx
   rcases x0H.1 hx with rfl | hx
   ·exact g1
   ·exact h3 x hx
  ·have hrl : row.length=k:=by rw [g2.length,g1.length,hl]
   have addadd : ∀ i j,(a.add i).add j=a.add (i + j):=fun i j=>by
    unfold Addr.add
    by_cases hi : i=0 <;> by_cases hj : j=0 <;> simp [hi,hj,x0Y]
   by_cases hjk : j < k
   ·rw [x0C (by omega)] at hj
    have:=hrow.2.2 j hjk
    rw [hj,addadd] at this
    exact this
   ·rw [x0z (by omega)] at hj
    have:=h5 (j - row.length) v hj
    rw [hrl] at this
    rwa [show (s + 1) * k + (j - k)=s * k + j by rw [x0T];omega] at this
theorem lz : ∀ (m : Nat) (n : Nat) (t : TypeId) (shs : List Sh),m9 P m t=some shs -> tM enc P F w sp n t shs
 | 0,_,_,_,h=>by cases h
 | m + 1,0,t,shs,_=>fun cs d ps h _=>by simp [DataW.trod] at h
 | m + 1,n + 1,t,shs,h=>by
  intro cs d ps ht hw
  rw [m9] at h
  split at h
  ·rename_i hu
   cases h
   unfold DataW.trod at ht;rw [hu] at ht
   split at ht <;> try (simp_all;done)
   rename_i b _
   refine ⟨[.bool b],⟨_,_,rfl,⟨b,rfl⟩,rfl⟩,by simp [av,ac]⟩
  ·rename_i k hu
   cases h
   unfold DataW.trod at ht;rw [hu] at ht
   split at ht <;> try (simp_all;done)
   rename_i k1 k2 x h1
   simp only [x0j,TypeDesc.int.injEq] at h1
   subst h1
   split at ht
   ·rename_i hk
    obtain ⟨rfl,hwf⟩:=hk
    exact ⟨[.int _ x],⟨_,_,rfl,⟨x,rfl,hwf⟩,rfl⟩,by simp [av,ac]⟩
   ·cases ht
  ·rename_i hu
   cases h
   unfold DataW.trod at ht;rw [hu] at ht
   split at ht <;> try (simp_all;done)
   rename_i s _
   split at ht
   ·rename_i hs
    simp only [x0j,Prod.mk.injEq] at ht
    obtain ⟨rfl,rfl⟩:=ht
    simp only [DataW.weights,List.all_cons,List.all_nil,Bool.and_true,x0g] at hw
    refine ⟨[.str s.data.toList],⟨_,_,rfl,⟨_,rfl,?_⟩,rfl⟩,?_⟩
    ·have:=reachBytes_lt;omega
    ·obtain ⟨s⟩:=s
     simp [av,ac]
   ·cases ht
  ·rename_i e hu
   split at h
   case h_2=>cases h
   rename_i l hl
   split at h
   case isFalse=>cases h
   rename_i hk
   cases h
   unfold DataW.trod at ht;rw [hu] at ht
   split at ht <;> try (simp_all;done)
   ·refine ⟨[.nils],⟨_,_,rfl,⟨[],.inr ⟨rfl,rfl⟩,by simp,by simp⟩,rfl⟩,by simp [av,ac]⟩
   ·rename_i e' a len cap h1
    simp only [x0j,TypeDesc.slice.injEq] at h1
    subst h1
    simp only at ht
    split at ht
    case isFalse=>cases ht
    rename_i hb
    rw [Option.bind_eq_some_iff] at ht
    obtain ⟨xs,e1,e2⟩:=ht
    rw [x0h] at e2
    obtain ⟨rest,e3,e4⟩:=e2
    simp only [Prod.mk.injEq] at e4
    obtain ⟨rfl,rfl⟩:=e4
    simp only [DataW.weights,hu,List.all_cons,List.all_append,x0a,x0g] at hw
    obtain ⟨w1,w2,w3⟩:=hw
    rw [List.range_eq_range'] at e1
    obtain ⟨es,vs,g1,g2,g3,g4,g5⟩:=mz (F:=F) hk.1 (lz m n e l hl) len 0 xs e1 w2
    refine ⟨[.sl es],⟨_,_,rfl,⟨es,.inl rfl,?_,g3⟩,rfl⟩,?_⟩
    ·have h5:=reachBytes_lt
     have h6 : es.length * 1 <= (xs.length + rest.length) * P.bytesOf e:=Nat.mul_le_mul (by omega) hk.2
     simp only [List.length_map] at w1
     omega
    ·simp only [av]
     refine ⟨_,_,rfl,?_,rfl⟩
     simp only [ac]
     refine ⟨some a,cap,vs,P.cellsOf e,by rw [g1],by omega,g4,fun r hr=>by rw [(g3 r hr).length,hk.1],fun _=>⟨a,rfl,fun j v hj=>?_⟩⟩
     have:=g5 j v hj
     simpa using this
  ·rename_i fs hu
   split at h
   case h_2=>cases h
   rename_i l hl
   split at h
   case isFalse=>cases h
   rename_i hk
   cases h
   unfold DataW.trod at ht;rw [hu] at ht
   split at ht <;> try (simp_all;done)
   rename_i fs' h1
   simp only [x0j,TypeDesc.struct.injEq] at h1
   subst h1
   split at ht
   case isFalse=>cases ht
   rename_i hc
   rw [x0h] at ht
   obtain ⟨xs,e1,e2⟩:=ht
   simp only [Prod.mk.injEq] at e2
   obtain ⟨rfl,rfl⟩:=e2
   simp only [DataW.weights,hu] at hw
   obtain ⟨ds,g1,g2⟩:=my (F:=F) (n:=n) (fun t shs h=>lz m n t shs h) fs.toList 0 xs _ e1 hl hw (by omega)
   exact ⟨ds,g1,by simpa using g2⟩
  ·cases h
theorem qe {t : TypeId} {fs : Array Field} {m : Nat} {shs : List Sh} {base : Nat} {v : Value} {d : DataW H} {ps : List MemPlace} (hu : P.underlying t=some (.struct fs)) (hsh : m9 P m t=some shs) (hv : Value.okWide P w .any base t v) (h : DataW.Trod enc P w 0 sp true t v d ps) (hw : (d.weights P t).all (· <= reachBytes)=true) :
  ∃ ds,bM shs ds /\ ac F (lF w) (.agg ds) v:=by
 obtain ⟨cs,rfl,_⟩:=okWide_struct hu hv
 obtain ⟨n,hn⟩:=h
 obtain ⟨ds,g1,g2⟩:=lz (F:=F) m n t shs hsh _ d ps hn hw
 exact ⟨ds,g1,by simp only [ac];exact ⟨cs.toList,by simp,g2⟩⟩
theorem sL {t e : TypeId} {m : Nat} {sh : Sh} {base : Nat} {v : Value} {d : DataW H} {ps : List MemPlace} (hu : P.underlying t=some (.slice e)) (hsh : m9 P m t=some [sh]) (hv : Value.okWide P w .any base t v) (h : DataW.Trod enc P w 0 sp true t v d ps) (hw : (d.weights P t).all (· <= reachBytes)=true) :
  ∃ x,eP sh x /\ ac F (lF w) x v:=by
 obtain ⟨a,len,cap,rfl⟩:=okWide_slice hu hv
 obtain ⟨n,hn⟩:=h
 obtain ⟨ds,g1,g2⟩:=lz (F:=F) m n t [sh] hsh _ d ps hn hw
 simp only [bM] at g1
 obtain ⟨x,r,rfl,g3,rfl⟩:=g1
 simp only [Value.cells,av] at g2
 obtain ⟨v',r',e,g4,rfl⟩:=g2
 simp at e
 exact ⟨x,g3,by rw [e];exact g4⟩
theorem wJ {t : TypeId} {k : IntKind} {base : Nat} {v : Value} {d : DataW H} {ps : List MemPlace} (hu : P.underlying t=some (.int k)) (hv : Value.okWide P w .any base t v) (h : DataW.Trod enc P w 0 sp true t v d ps) :
  ∃ n,(Lit.int k n).wf=true /\ ac F (lF w) (.int k n) v:=by
 obtain ⟨n,rfl,_,_,hw⟩:=open_int hu hv h
 exact ⟨n,hw,rfl⟩
end
theorem jD {α : Type} {f : α -> List D} {es : List (List D)} (h : ∀ e ∈ es,∃ x,e=f x) : ∃ xs : List α,es=xs.map f:=by
 induction es with
 | nil=>exact ⟨[],rfl⟩
 | cons e es ih =>
  obtain ⟨x,rfl⟩:=h e (by simp)
  obtain ⟨xs,rfl⟩:=ih (fun e he=>h e (by simp [he]))
  exact ⟨x::xs,rfl⟩
end Go.Gv
namespace Go.Gv
def AC (P : Program) (F : Fid) (prog : Nat -> Option aI) (tbl : List (Nat × Nat)) : Bool:=tbl.all fun p=>mf P p.2 && match prog p.1 with
 | some nf=>dz P F p.2 nf
 | none=>true
theorem ti {tbl : List (Nat × Nat)} {g f : Nat} (h : tbl.lookup g=some f) : (g,f) ∈ tbl:=by
 induction tbl with
 | nil=>cases h
 | cons p r ih =>
  obtain ⟨a,b⟩:=p
  rw [x0e] at h
  cases e : g == a with
  | true=>rw [e] at h;simp at e h;subst e;subst h;simp
  | false=>rw [e] at h;simp [ih h]
theorem seat {P : Program} {tbl : List (Nat × Nat)} {ty : Nat -> TypeId} {prog : Nat -> Option aI} (hm : P.follows .mixedOrders=true) (hl : laidOutB P=true) (h : AC P ⟨P,fun g=>tbl.lookup g,ty,fun _=>.nilIface⟩ prog tbl=true) :
  bC P ⟨P,fun g=>tbl.lookup g,ty,fun _=>.nilIface⟩ (fz P ⟨P,fun g=>tbl.lookup g,ty,fun _=>.nilIface⟩) /\ aq prog (fz P ⟨P,fun g=>tbl.lookup g,ty,fun _=>.nilIface⟩):=by
 have key : ∀ g f,tbl.lookup g=some f -> mf P f=true /\ ∀ nf,prog g=some nf -> dz P ⟨P,fun g=>tbl.lookup g,ty,fun _=>.nilIface⟩ f nf=true:=fun g f e=>by
  have:=x0f.1 h _ (ti e)
  simp only [x0a] at this
  refine ⟨this.1,fun nf hnf=>?_⟩
  have:=this.2
  rw [hnf] at this
  exact this
 exact pW hm (fun g f e=>(key g f e).1) hl rfl (fun g f nf e hp=>(key g f e).2 nf hp)
end Go.Gv

namespace Go.Gv
open Go.Proofs
def TryzTbl : List (Nat × Nat) := [(0, 2), (850, 5), (854, 8), (855, 9), (856, 10), (213, 11), (223, 12), (857, 13), (858, 14), (859, 15), (19, 16), (42, 19), (862, 20), (215, 23), (874, 31), (875, 32), (876, 33), (253, 34), (254, 35), (262, 36), (877, 37), (880, 40), (234, 41), (11, 42), (303, 45), (257, 46), (258, 47), (881, 48), (882, 50), (883, 51), (366, 52), (523, 53), (243, 54), (244, 55), (373, 56), (221, 57), (256, 58), (273, 61), (35, 62), (313, 65), (289, 66), (290, 67), (291, 68), (292, 69), (293, 70), (294, 71), (295, 72), (280, 75), (377, 76), (376, 77), (261, 78), (268, 79), (263, 80), (302, 86), (304, 87), (305, 88), (306, 89), (307, 90), (308, 91), (298, 92), (309, 93), (310, 94), (311, 95), (127, 96), (285, 97), (286, 98), (323, 99), (324, 100), (220, 112), (315, 113), (316, 114), (317, 115), (318, 116), (264, 117), (99, 118), (225, 119), (328, 123), (299, 130), (333, 131), (334, 132), (335, 133), (105, 134), (103, 135), (106, 136), (266, 137), (267, 138), (339, 145), (91, 146), (112, 147), (113, 148), (340, 185), (341, 186), (342, 187), (343, 188)]
def TryzTys : List (Nat × Nat) := [(1, 4), (2, 3), (20, 156), (3, 135), (4, 89)]
set_option maxRecDepth 100000 in
theorem Tryz_all : AC Tryz.prog ⟨Tryz.prog, fun g => TryzTbl.lookup g, fun t => (TryzTys.lookup t).getD 0, fun _ => .nilIface⟩ prog TryzTbl = true := by kernel_rfl
end Go.Gv

namespace Go.Gv
open Go.RowKit
theorem rj {P : Program} {F : Fid} {g : Nat} {ds : List D} {d : D} (h : ∀ f,F g=some f -> ∀ (M : Mem) (w : World) (vs : List Value),av F M ds vs -> ∃ v,ac F M d v /\ Calls P f vs.toArray w (fun e w'=>e=.returned v /\ w'=w)) : fz P F g ds d []:=by
 refine ⟨trivial,fun f hf M w vs hh r=>?_⟩
 obtain ⟨v,hv,hc⟩:=h f hf M w vs r
 refine hc.mono ?_
 rintro e w' ⟨rfl,rfl⟩
 exact ⟨v,M,rfl,Bel.refl _,Mem.le_refl _,fun p h1 h2=>absurd h1 h2,hh,hv⟩
end Go.Gv

namespace Go.Proofs
open Go.Shelf
def Tryz.lays189_ren : Go.Shelf.Ren := ⟨fun | 189 => 52 | 125 => 74 | 257 => 73 | 128 => 110 | 129 => 111 | 294 => 101 | 295 => 102 | 296 => 103 | 297 => 104 | 298 => 105 | 299 => 106 | 216 => 107 | 300 => 108 | 301 => 109 | 328 => 125 | 329 => 126 | 330 => 127 | 331 => 128 | 332 => 129 | 215 => 130 | 343 => 144 | n => n, fun | 28 => 26 | 3 => 3 | 46 => 111 | 0 => 0 | 51 => 153 | 53 => 155 | 4 => 4 | 183 => 146 | 182 => 145 | 131 => 150 | 5 => 5 | 9 => 9 | 218 => 173 | 222 => 177 | 228 => 201 | 229 => 163 | n => n, fun | n => n⟩
theorem Tryz.lays189 : Go.Proofs.Lays.n189 Tryz.prog Tryz.lays189_ren := {
 mixed := by kernel_rfl
 f125 := Tryz.func74.trans (congrArg some (by kernel_rfl))
 f128 := Tryz.func110.trans (congrArg some (by kernel_rfl))
 f129 := Tryz.func111.trans (congrArg some (by kernel_rfl))
 f189 := Tryz.func52.trans (congrArg some (by kernel_rfl))
 f215 := Tryz.func130.trans (congrArg some (by kernel_rfl))
 f216 := Tryz.func107.trans (congrArg some (by kernel_rfl))
 f257 := Tryz.func73.trans (congrArg some (by kernel_rfl))
 f294 := Tryz.func101.trans (congrArg some (by kernel_rfl))
 f295 := Tryz.func102.trans (congrArg some (by kernel_rfl))
 f296 := Tryz.func103.trans (congrArg some (by kernel_rfl))
 f297 := Tryz.func104.trans (congrArg some (by kernel_rfl))
 f298 := Tryz.func105.trans (congrArg some (by kernel_rfl))
 f299 := Tryz.func106.trans (congrArg some (by kernel_rfl))
 f300 := Tryz.func108.trans (congrArg some (by kernel_rfl))
 f301 := Tryz.func109.trans (congrArg some (by kernel_rfl))
 f328 := Tryz.func125.trans (congrArg some (by kernel_rfl))
 f329 := Tryz.func126.trans (congrArg some (by kernel_rfl))
 f330 := Tryz.func127.trans (congrArg some (by kernel_rfl))
 f331 := Tryz.func128.trans (congrArg some (by kernel_rfl))
 f332 := Tryz.func129.trans (congrArg some (by kernel_rfl))
 f343 := Tryz.func144.trans (congrArg some (by kernel_rfl))
 t0 := Tryz.underlying0
 a0 := Tryz.isAgg0
 z0 := Tryz.sizeOf0
 v0 := Tryz.zeroValue0
 t3 := Tryz.underlying3
 a3 := Tryz.isAgg3
 z3 := Tryz.sizeOf3
 v3 := Tryz.zeroValue3
 t4 := Tryz.underlying4
 a4 := Tryz.isAgg4
 z4 := Tryz.sizeOf4
 v4 := Tryz.zeroValue4
 t5 := Tryz.underlying5
 a5 := Tryz.isAgg5
 z5 := Tryz.sizeOf5
 v5 := Tryz.zeroValue5
 t9 := Tryz.underlying9
 a9 := Tryz.isAgg9
 z9 := Tryz.sizeOf9
 v9 := Tryz.zeroValue9
 t28 := Tryz.underlying26
 a28 := Tryz.isAgg26
 z28 := Tryz.sizeOf26
 v28 := Tryz.zeroValue26
 t46 := Tryz.underlying111
 a46 := Tryz.isAgg111
 z46 := Tryz.sizeOf111
 v46 := Tryz.zeroValue111
 t51 := Tryz.underlying153
 a51 := Tryz.isAgg153
 z51 := Tryz.sizeOf153
 v51 := Tryz.zeroValue153
 t53 := Tryz.underlying155
 a53 := Tryz.isAgg155
 z53 := Tryz.sizeOf155
 v53 := Tryz.zeroValue155
 t131 := Tryz.underlying150
 a131 := Tryz.isAgg150
 z131 := Tryz.sizeOf150
 v131 := Tryz.zeroValue150
 t182 := Tryz.underlying145
 a182 := Tryz.isAgg145
 z182 := Tryz.sizeOf145
 v182 := Tryz.zeroValue145
 t183 := Tryz.underlying146
 a183 := Tryz.isAgg146
 z183 := Tryz.sizeOf146
 v183 := Tryz.zeroValue146
 t218 := Tryz.underlying173
 a218 := Tryz.isAgg173
 z218 := Tryz.sizeOf173
 v218 := Tryz.zeroValue173
 t222 := Tryz.underlying177
 a222 := Tryz.isAgg177
 z222 := Tryz.sizeOf177
 v222 := Tryz.zeroValue177
 t228 := Tryz.underlying201
 a228 := Tryz.isAgg201
 z228 := Tryz.sizeOf201
 v228 := Tryz.zeroValue201
 t229 := Tryz.underlying163
 a229 := Tryz.isAgg163
 z229 := Tryz.sizeOf163
 v229 := Tryz.zeroValue163 }
def Tryz.laysNm220_ren : Go.Shelf.Ren := ⟨fun | 20 => 53 | n => n, fun | 22 => 26 | 3 => 3 | 4 => 4 | 0 => 0 | n => n, fun | n => n⟩
theorem Tryz.laysNm220 : Go.Proofs.Lays2.n20 Tryz.prog Tryz.laysNm220_ren := {
 mixed := by kernel_rfl
 f20 := Tryz.func53.trans (congrArg some (by kernel_rfl))
 t0 := Tryz.underlying0
 a0 := Tryz.isAgg0
 z0 := Tryz.sizeOf0
 v0 := Tryz.zeroValue0
 t3 := Tryz.underlying3
 a3 := Tryz.isAgg3
 z3 := Tryz.sizeOf3
 v3 := Tryz.zeroValue3
 t4 := Tryz.underlying4
 a4 := Tryz.isAgg4
 z4 := Tryz.sizeOf4
 v4 := Tryz.zeroValue4
 t22 := Tryz.underlying26
 a22 := Tryz.isAgg26
 z22 := Tryz.sizeOf26
 v22 := Tryz.zeroValue26
 i3 := by kernel_rfl }
def Tryz.lays171_ren : Go.Shelf.Ren := ⟨fun | 171 => 96 | 243 => 124 | 246 => 143 | 283 => 155 | 284 => 156 | 285 => 157 | 286 => 158 | 129 => 111 | 317 => 162 | 318 => 163 | 319 => 164 | 320 => 165 | 337 => 166 | 338 => 167 | n => n, fun | 3 => 3 | 9 => 9 | 2 => 2 | 4 => 4 | 171 => 214 | 0 => 0 | 53 => 155 | 37 => 140 | 5 => 5 | 173 => 216 | 212 => 221 | 51 => 153 | 20 => 20 | 213 => 222 | 46 => 111 | 232 => 223 | 233 => 224 | n => n, fun | 17 => 0 | 18 => 1 | 19 => 2 | n => n⟩
theorem Tryz.lays171 : Go.Proofs.Lays.n171 Tryz.prog Tryz.lays171_ren := {
 mixed := by kernel_rfl
 f129 := Tryz.func111.trans (congrArg some (by kernel_rfl))
 f171 := Tryz.func96.trans (congrArg some (by kernel_rfl))
 f243 := Tryz.func124.trans (congrArg some (by kernel_rfl))
 f246 := Tryz.func143.trans (congrArg some (by kernel_rfl))
 f283 := Tryz.func155.trans (congrArg some (by kernel_rfl))
 f284 := Tryz.func156.trans (congrArg some (by kernel_rfl))
 f285 := Tryz.func157.trans (congrArg some (by kernel_rfl))
 f286 := Tryz.func158.trans (congrArg some (by kernel_rfl))
 f317 := Tryz.func162.trans (congrArg some (by kernel_rfl))
 f318 := Tryz.func163.trans (congrArg some (by kernel_rfl))
 f319 := Tryz.func164.trans (congrArg some (by kernel_rfl))
 f320 := Tryz.func165.trans (congrArg some (by kernel_rfl))
 f337 := Tryz.func166.trans (congrArg some (by kernel_rfl))
 f338 := Tryz.func167.trans (congrArg some (by kernel_rfl))
 t0 := Tryz.underlying0
 a0 := Tryz.isAgg0
 z0 := Tryz.sizeOf0
 v0 := Tryz.zeroValue0
 t2 := Tryz.underlying2
 a2 := Tryz.isAgg2
 z2 := Tryz.sizeOf2
 v2 := Tryz.zeroValue2
 t3 := Tryz.underlying3
 a3 := Tryz.isAgg3
 z3 := Tryz.sizeOf3
 v3 := Tryz.zeroValue3
 t4 := Tryz.underlying4
 a4 := Tryz.isAgg4
 z4 := Tryz.sizeOf4
 v4 := Tryz.zeroValue4
 t5 := Tryz.underlying5
 a5 := Tryz.isAgg5
 z5 := Tryz.sizeOf5
 v5 := Tryz.zeroValue5
 t9 := Tryz.underlying9
 a9 := Tryz.isAgg9
 z9 := Tryz.sizeOf9
 v9 := Tryz.zeroValue9
 t20 := Tryz.underlying20
 a20 := Tryz.isAgg20
 z20 := Tryz.sizeOf20
 v20 := Tryz.zeroValue20
 t37 := Tryz.underlying140
 a37 := Tryz.isAgg140
 z37 := Tryz.sizeOf140
 v37 := Tryz.zeroValue140
 t46 := Tryz.underlying111
 a46 := Tryz.isAgg111
 z46 := Tryz.sizeOf111
 v46 := Tryz.zeroValue111
 t51 := Tryz.underlying153
 a51 := Tryz.isAgg153
 z51 := Tryz.sizeOf153
 v51 := Tryz.zeroValue153
 t53 := Tryz.underlying155
 a53 := Tryz.isAgg155
 z53 := Tryz.sizeOf155
 v53 := Tryz.zeroValue155
 t171 := Tryz.underlying214
 a171 := Tryz.isAgg214
 z171 := Tryz.sizeOf214
 v171 := Tryz.zeroValue214
 t173 := Tryz.underlying216
 a173 := Tryz.isAgg216
 z173 := Tryz.sizeOf216
 v173 := Tryz.zeroValue216
 t212 := Tryz.underlying221
 a212 := Tryz.isAgg221
 z212 := Tryz.sizeOf221
 v212 := Tryz.zeroValue221
 t213 := Tryz.underlying222
 a213 := Tryz.isAgg222
 z213 := Tryz.sizeOf222
 t232 := Tryz.underlying223
 a232 := Tryz.isAgg223
 z232 := Tryz.sizeOf223
 v232 := Tryz.zeroValue223
 t233 := Tryz.underlying224
 a233 := Tryz.isAgg224
 z233 := Tryz.sizeOf224
 v233 := Tryz.zeroValue224
 g17 := by kernel_rfl
 g18 := by kernel_rfl
 g19 := by kernel_rfl }
open Go.RowKit Go.Sort Go.Lib in
theorem Tryz.strconv_Itoa_small (i : Nat) (hi : i < 100) (w : World) :
  Calls Tryz.prog 96 #[.int .i64 i] w fun e w' => e = .returned (.string ⟨(Lib.decDigits i).toArray⟩) /\ w' = w := Any.strconv_Itoa_small Tryz.lays171 i hi w
end Go.Proofs

namespace Go.Gv
open Go.Sort
section
variable {P : Program} {F : Fid} {α : Type} [Inhabited α]
def i4 (encD : α -> D) (d : Array α) : List (List D):=d.toList.map fun x=>[encD x]
theorem mZ {f : FuncId} (enc : α -> Value) (encD : α -> D) (hflat : ∀ M x u,ac F M (encD x) u -> u=enc x) (hrep : ∀ M x,ac F M (encD x) (enc x)) (d d' : Array α) (hsz : d'.size=d.size) (ds : List D)
  (hnone : d.size=0 -> ∀ (M : Mem) (w : World) (vs : List Value) (A : Option Addr),(∀ p v,M p=some v -> w.cell? p=some v) -> av F M ds vs -> Calls P f (.slice A 0 0::vs).toArray w fun e w'=>e=.returned (.tuple #[]) /\ ∃ n os,w'=grow (Sort.ahead w n) os)
  (hrun : ∀ (M : Mem) (w : World) (vs : List Value) (blk off cap : Nat),(∀ p v,M p=some v -> w.cell? p=some v) -> (∀ p : Addr,p.block=blk -> M p=none) -> av F M ds vs -> Holds enc w blk off d -> blk < w.heap.size ->
   Calls P f (.slice (some ⟨blk,off,none⟩) d.size cap::vs).toArray w fun e w'=>e=.returned (.tuple #[]) /\ ∃ n os,w'=grow (putRow enc (Sort.ahead w n) blk off d') os) : tS P F f 1 (i4 encD d) ds (i4 encD d'):=by
 intro M w vs hh r
 have hl : (i4 encD d).length=d.size:=by simp [i4]
 refine ⟨fun e A=>?_,fun b o T us cap hM hb hcell hcap hle hu hc=>?_⟩
 ·have h0 : d.size=0:=by rw [<- hl,e];rfl
  refine (hnone h0 M w vs A hh r).mono ?_
  rintro e0 w' ⟨rfl,n,os,rfl⟩
  exact ⟨rfl,rfl,rfl,rfl,by simp [grow,Sort.ahead],fun k hk=>by simp only [grow,Sort.ahead];rw [Array.getElem?_append_left hk],Nat.le_add_right _ _⟩
 ·rw [hl] at hcap ⊢
  have hH : Holds enc w b o d:=fun j hj=>by
   obtain ⟨u,k1,k2⟩:=hc j [encD d[j]] 0 (encD d[j]) (by simp [i4,hj]) rfl
   have:=hflat _ _ _ k2
   subst this
   have e1 : d[j]! = d[j]:=x01 d j hj
   rw [e1]
   have k3 : us[o + j]? = some (enc d[j]):=by simpa using k1
   constructor
   ·simp [World.cell?,hcell,k3]
   ·simp [World.frozen?,hcell]
  refine (hrun M w vs b o cap hh hM r hH hb).mono ?_
  rintro e0 w' ⟨rfl,n,os,rfl⟩
  have hput : (grow (putRow enc (Sort.ahead w n) b o d') os).heap[b]? = some (.cells (putCells enc o d' us.toArray) T (0,0)):=by
   simp only [grow,putRow,mapBlock,Sort.ahead]
   rw [Array.getElem?_append_left (by simpa using hb),x1E,if_pos rfl,hcell]
   rfl
  refine ⟨rfl,(putCells enc o d' us.toArray).toList,by rw [x1m];exact hput,by simp [putCells],fun i r off x hi hr=>?_,⟨rfl,rfl,rfl,by simp [grow,putRow,mapBlock,Sort.ahead],fun k hk hne=>?_,Nat.le_add_right _ _⟩⟩
  ·simp only [i4,x0y,x0h] at hi
   obtain ⟨y,h1,rfl⟩:=hi
   have ho : off=0:=by
    have:=(x0c.1 hr).1
    simpa using this
   subst ho
   simp only [x1k,x0j] at hr
   subst hr
   have hi2 : i < d'.size:=by have:=(x0c.1 h1).1;simpa using this
   have hy : d'[i]! = y:=by
    rw [x01 d' i hi2]
    have:=(x0c.1 h1).2
    simpa using this
   refine ⟨enc y,?_,hrep _ _⟩
   have hlt : o + i < us.length:=by
    have : o + cap * 1 <= us.length:=hle
    omega
   rw [Nat.mul_one,x1d,Array.getElem?_toList]
   simp only [putCells,Array.getElem?_mapIdx,x1s]
   rw [x0d hlt]
   simp only [x08]
   rw [if_pos ⟨by omega,by omega⟩,show o + i - o=i by omega,hy]
  ·simp only [grow,putRow,mapBlock,Sort.ahead]
   rw [Array.getElem?_append_left (by simpa using hk),x1E,if_neg (Ne.symm hne)]
end
end Go.Gv

namespace Go.Gv
open Go.Sort Go.Proofs Go.Shelf
section
variable {P : Program} {F : Fid} {ρ : Ren}
def xC (zs : List Int) : List (List D):=zs.map fun n=>[.int .i64 n]
theorem uS {zs : List Int} {i : Nat} {r : List D} {off : Nat} {d : D} (h1 : (xC zs)[i]? = some r) (h2 : r[off]? = some d) : ∃ x,zs[i]? = some x /\ off=0 /\ d=.int .i64 x:=by
 simp only [xC,x0y,x0h] at h1
 obtain ⟨x,h1,rfl⟩:=h1
 have ho : off=0:=by have:=(x0c.1 h2).1;simpa using this
 subst ho
 simp only [x1k,x0j] at h2
 exact ⟨x,h1,rfl,h2.symm⟩
theorem qG {M : Mem} {zs : List Int} {us : List Value} {o : Nat} (hc : ∀ i r off d,(xC zs)[i]? = some r -> r[off]? = some d -> ∃ u,us[o + i * 1 + off]? = some u /\ ac F M d u) : ∀ j x,zs[j]? = some x -> us[o + j]? = some (.int .i64 x):=by
 intro j x hj
 obtain ⟨u,k1,k2⟩:=hc j [.int .i64 x] 0 (.int .i64 x) (by simp [xC,hj]) rfl
 simp only [ac] at k2
 subst k2
 simpa using k1
theorem mH (Ly : Lays.n189 P ρ) {g : Nat} (hg : ∀ f,F g=some f -> f=ρ.f 189) (zs : List Int) (hz : zs.length < 2 ^ 40) :
  fz P F g [.own 1 (zs.map fun n=>[.int .i64 n])] .any [.own 1 ((zs.mergeSort fun x y=>decide (x <= y)).map fun n=>[.int .i64 n]),.nilp]:=by
 refine ⟨trivial,fun f hf=>⟨rfl,?_⟩⟩
 obtain rfl:=hg f hf
 have k:=mZ (P:=P) (F:=F) (f:=ρ.f 189) (Value.int .i64) (D.int .i64) (fun M x u h=>by simpa only [ac] using h) (fun M x=>by simp only [ac]) zs.toArray (zs.mergeSort fun x y=>decide (x <= y)).toArray (by simp [List.length_mergeSort]) []
  (fun h M w vs A hh r=>by
   simp only [av] at r
   subst r
   refine (Any.slices_Sort_int_none Ly A 0 w).mono ?_
   rintro e w' ⟨rfl,rfl⟩
   exact ⟨rfl,0,#[],by simp [grow,Sort.ahead]⟩)
  (fun M w vs blk off cap hh hM r hH hb=>by
   simp only [av] at r
   subst r
   have:=Any.slices_Sort_int Ly blk off cap zs w hH hb (by omega)
   simpa using this)
 simpa [i4] using k
theorem mY (L : Lays2.n20 P ρ) {g : Nat} (hg : ∀ f,F g=some f -> f=ρ.f 20) (zs : List Int) (hz : zs.length < 2 ^ 40) :
  fz P F g [.own 1 (zs.map fun n=>[.int .i64 n])] .any [.own 1 ((Lib.compact zs).map fun n=>[.int .i64 n]),.nils,.nils]:=by
 refine ⟨trivial,fun f hf=>⟨rfl,?_⟩⟩
 obtain rfl:=hg f hf
 refine qc.to ?_
 intro M w vs hh
 have nil : ∀ {b : Option Nat},lD F M w b [] vs -> vs=[]:=fun h=>x0v h.1.symm
 refine ⟨fun e A r=>?_,fun b o T us cap r hM hb hcell hcap hmc hle hu hc=>?_⟩
 ·rw [nil r]
  have h0 : zs=[]:=by simpa using e
  subst h0
  refine (Any.slices_Compact_int_empty L A 0 w).mono ?_
  rintro e w' ⟨rfl,rfl⟩
  exact ⟨_,rfl,Bel.refl _,.inl ⟨rfl,A,rfl⟩⟩
 ·rw [nil r]
  have hget:=qG hc
  have hl : (zs.map fun n=>[D.int .i64 n]).length=zs.length:=by simp
  rw [hl] at hcap ⊢
  have hH : Holds (Value.int .i64) w b o zs.toArray:=fun j hj=>by
   have hj2 : j < zs.length:=by simpa using hj
   have e1 : zs.toArray[j]! = zs[j]:=by rw [x01 zs.toArray j hj];simp
   have k3:=hget j zs[j] (x0d hj2)
   rw [e1]
   exact ⟨by simp [World.cell?,hcell,k3],by simp [World.frozen?,hcell]⟩
  obtain ⟨d',hd'⟩ : ∃ d',d'=(Lib.compact zs++List.replicate (zs.length - (Lib.compact zs).length) 0).toArray:=⟨_,rfl⟩
  have hcl : (Lib.compact zs).length <= zs.length:=by
   unfold Lib.compact Lib.compactUpTo
   rw [List.length_map]
   have:=List.length_filter_le (Lib.keeps zs.toArray) (List.range zs.length)
   simpa using this
  have hsz : d'.size=zs.length:=by rw [hd'];simp;omega
  refine (Any.slices_Compact_int L b o cap zs w hH (by omega) hcap).mono ?_
  rintro e w' ⟨rfl,q,rfl⟩
  rw [<- hd']
  have hput : (putRow (Value.int .i64) (Sort.ahead w q) b o d').heap[b]? = some (.cells (putCells (Value.int .i64) o d' us.toArray) T (0,0)):=by
   simp only [putRow,mapBlock,Sort.ahead]
   rw [x1E,if_pos rfl,hcell]
   rfl
  refine ⟨_,rfl,(putCells (Value.int .i64) o d' us.toArray).toList,by rw [x1m];exact hput,by simp [putCells],⟨rfl,rfl,rfl,by simp [putRow,mapBlock,Sort.ahead],fun k hk hne=>?_,Nat.le_add_right _ _⟩,.inl ⟨by simp,by simp;omega,fun i r off d h1 h2=>?_⟩⟩
  ·simp only [putRow,mapBlock,Sort.ahead]
   rw [x1E,if_neg (Ne.symm hne)]
  ·obtain ⟨x,h3,rfl,rfl⟩:=uS h1 h2
   have hi : i < (Lib.compact zs).length:=(x0c.1 h3).1
   refine ⟨.int .i64 x,?_,by simp only [ac]⟩
   have hlt : o + i < us.length:=by omega
   have hy : d'[i]! = x:=by
    rw [x01 d' i (by omega)]
    have : d'[i]? = some x:=by rw [hd'];simp [x0C hi,h3]
    exact (Array.getElem?_eq_some_iff.1 this).2
   rw [Nat.mul_one,x1d,Array.getElem?_toList]
   simp only [putCells,Array.getElem?_mapIdx,x1s]
   rw [x0d hlt]
   simp only [x08]
   rw [if_pos ⟨by omega,by omega⟩,show o + i - o=i by omega,hy]
end
end Go.Gv

namespace Go.Gv
structure Tag {α : Type _} (x : α) : Type where
@[simp] theorem O6 : isV (.any)=true:=zR
@[simp] theorem Pd {k n} : isV (.int k n)=true:=zR
@[simp] theorem JN {b} : isV (.bool b)=true:=zR
@[simp] theorem Pm {s} : isV (.str s)=true:=zR
@[simp] theorem JO : isV (.nilp)=true:=zR
@[simp] theorem JP : isV (.nils)=true:=zR
@[simp] theorem O4 {ds} : isV (.agg ds)=true:=zR
@[simp] theorem Po {ds} : isV (.tup ds)=true:=zR
@[simp] theorem RK {es} : isV (.sl es)=true:=zR
@[simp] theorem Pg {ds} : isV (.ptr ds)=true:=zR
@[simp] theorem RI {g ds} : isV (.fn g ds)=true:=zR
@[simp] theorem Pf {sz es} : isV (.own sz es)=false:=zR
@[simp] theorem O7 {sz es} : isV (.blk sz es)=false:=zR
@[simp] theorem RJ {kt et ks vs} : isV (.mp kt et ks vs)=false:=zR
@[simp] theorem Pe {b} : isV (.mrf b)=false:=zR
@[simp] theorem Pi {p k n} : isV (.ref p k n)=false:=zR
@[simp] theorem O3 {p i off} : isV (.adr p i off)=false:=zR
@[simp] theorem O5 {ds} : isV (.agx ds)=false:=zR
@[simp] theorem Pn {ds} : isV (.tpx ds)=false:=zR
@[simp] theorem Ph {ds} : isV (.ptx ds)=false:=zR
@[simp] theorem Pj {n sz ds} : isV (.rfx n sz ds)=false:=zR
@[simp] theorem O8 {g ds} : isV (.fnx g ds)=false:=zR
@[simp] theorem Pb {T p i off} : isV (.ifa T p i off)=false:=zR
@[simp] theorem Pc {T n} : isV (.ifi T n)=true:=zR
@[simp] theorem Pk {k es} : isV (.slv k es)=true:=zR
@[simp] theorem O9 {g ds cs} : isV (.fny g ds cs)=false:=zR
@[simp] theorem NF : isK (.any)=false:=zR
@[simp] theorem NL {k n} : isK (.int k n)=true:=zR
@[simp] theorem JB {b} : isK (.bool b)=true:=zR
@[simp] theorem NU {s} : isK (.str s)=true:=zR
@[simp] theorem JC : isK (.nilp)=true:=zR
@[simp] theorem JD : isK (.nils)=true:=zR
@[simp] theorem ND {ds} : isK (.agg ds)=true:=zR
@[simp] theorem NW {ds} : isK (.tup ds)=true:=zR
@[simp] theorem Ru {es} : isK (.sl es)=true:=zR
@[simp] theorem NO {ds} : isK (.ptr ds)=true:=zR
@[simp] theorem Rr {g ds} : isK (.fn g ds)=true:=zR
@[simp] theorem NN {sz es} : isK (.own sz es)=false:=zR
@[simp] theorem NG {sz es} : isK (.blk sz es)=false:=zR
@[simp] theorem Rt {kt et ks vs} : isK (.mp kt et ks vs)=false:=zR
@[simp] theorem NM {b} : isK (.mrf b)=false:=zR
@[simp] theorem NQ {p k n} : isK (.ref p k n)=false:=zR
@[simp] theorem NC {p i off} : isK (.adr p i off)=false:=zR
@[simp] theorem NE {ds} : isK (.agx ds)=false:=zR
@[simp] theorem NV {ds} : isK (.tpx ds)=false:=zR
@[simp] theorem NP {ds} : isK (.ptx ds)=false:=zR
@[simp] theorem NR {n sz ds} : isK (.rfx n sz ds)=false:=zR
@[simp] theorem NH {g ds} : isK (.fnx g ds)=false:=zR
@[simp] theorem NJ {T p i off} : isK (.ifa T p i off)=false:=zR
@[simp] theorem NK {T n} : isK (.ifi T n)=true:=zR
@[simp] theorem NS {k es} : isK (.slv k es)=true:=zR
@[simp] theorem NI {g ds cs} : isK (.fny g ds cs)=false:=zR
@[simp] theorem On : isP (.any)=true:=zR
@[simp] theorem Ow {k n} : isP (.int k n)=true:=zR
@[simp] theorem JH {b} : isP (.bool b)=true:=zR
@[simp] theorem OF {s} : isP (.str s)=true:=zR
@[simp] theorem JI : isP (.nilp)=true:=zR
@[simp] theorem JJ : isP (.nils)=true:=zR
@[simp] theorem Ol {ds} : isP (.agg ds)=true:=zR
@[simp] theorem OH {ds} : isP (.tup ds)=true:=zR
@[simp] theorem RB {es} : isP (.sl es)=true:=zR
@[simp] theorem Oz {ds} : isP (.ptr ds)=true:=zR
@[simp] theorem Rz {g ds} : isP (.fn g ds)=true:=zR
@[simp] theorem Oy {sz es} : isP (.own sz es)=false:=zR
@[simp] theorem Oo {sz es} : isP (.blk sz es)=false:=zR
@[simp] theorem RA {kt et ks vs} : isP (.mp kt et ks vs)=false:=zR
@[simp] theorem Ox {b} : isP (.mrf b)=true:=zR
@[simp] theorem OB {p k n} : isP (.ref p k n)=true:=zR
@[simp] theorem Oj {p i off} : isP (.adr p i off)=true:=zR
@[simp] theorem Om {ds} : isP (.agx ds)=false:=zR
@[simp] theorem OG {ds} : isP (.tpx ds)=false:=zR
@[simp] theorem OA {ds} : isP (.ptx ds)=false:=zR
@[simp] theorem OC {n sz ds} : isP (.rfx n sz ds)=false:=zR
@[simp] theorem Oq {g ds} : isP (.fnx g ds)=false:=zR
@[simp] theorem Ou {T p i off} : isP (.ifa T p i off)=true:=zR
@[simp] theorem Ov {T n} : isP (.ifi T n)=true:=zR
@[simp] theorem OD {k es} : isP (.slv k es)=true:=zR
@[simp] theorem Ot {g ds cs} : isP (.fny g ds cs)=false:=zR
@[simp] theorem OL : isS (.any)=true:=zR
@[simp] theorem RH : isV (.bb)=true:=zR
@[simp] theorem RC : isS (.bb)=true:=zR
@[simp] theorem Ry : isP (.bb)=true:=zR
@[simp] theorem Rk : isB (.bb)=false:=zR
@[simp] theorem Ik : ce (.bb)=false:=zR
@[simp] theorem FP : bf (.bb)=[]:=zR
@[simp] theorem BO : aB (.bb)=[]:=zR
@[simp] theorem OR {k n} : isS (.int k n)=true:=zR
@[simp] theorem JK {b} : isS (.bool b)=true:=zR
@[simp] theorem O0 {s} : isS (.str s)=true:=zR
@[simp] theorem JL : isS (.nilp)=true:=zR
@[simp] theorem JM : isS (.nils)=true:=zR
@[simp] theorem OJ {ds} : isS (.agg ds)=true:=zR
@[simp] theorem O2 {ds} : isS (.tup ds)=true:=zR
@[simp] theorem RG {es} : isS (.sl es)=true:=zR
@[simp] theorem OU {ds} : isS (.ptr ds)=true:=zR
@[simp] theorem RD {g ds} : isS (.fn g ds)=true:=zR
@[simp] theorem OT {sz es} : isS (.own sz es)=false:=zR
@[simp] theorem OM {sz es} : isS (.blk sz es)=false:=zR
@[simp] theorem RE {kt et ks vs} : isS (.mp kt et ks vs)=false:=zR
@[simp] theorem OS {b} : isS (.mrf b)=true:=zR
@[simp] theorem OW {p k n} : isS (.ref p k n)=true:=zR
@[simp] theorem OI {p i off} : isS (.adr p i off)=true:=zR
@[simp] theorem OK {ds} : isS (.agx ds)=ds.all isP:=zR
@[simp] theorem O1 {ds} : isS (.tpx ds)=ds.all isP:=zR
@[simp] theorem OV {ds} : isS (.ptx ds)=ds.all isP:=zR
@[simp] theorem OX {n sz ds} : isS (.rfx n sz ds)=ds.all isP:=zR
@[simp] theorem ON {g ds} : isS (.fnx g ds)=ds.all isP:=zR
@[simp] theorem OP {T p i off} : isS (.ifa T p i off)=true:=zR
@[simp] theorem OQ {T n} : isS (.ifi T n)=true:=zR
@[simp] theorem OY {k es} : isS (.slv k es)=true:=zR
@[simp] theorem OO {g ds cs} : isS (.fny g ds cs)=(ds.all isP && cs.all isP):=zR
@[simp] theorem Iv : aC (.any)=false:=zR
@[simp] theorem IB {k n} : aC (.int k n)=true:=zR
@[simp] theorem E0 {b} : aC (.bool b)=true:=zR
@[simp] theorem IK {s} : aC (.str s)=true:=zR
@[simp] theorem E1 : aC (.nilp)=true:=zR
@[simp] theorem E4 : aC (.nils)=true:=zR
@[simp] theorem It {ds} : aC (.agg ds)=false:=zR
@[simp] theorem IM {ds} : aC (.tup ds)=false:=zR
@[simp] theorem M9 {es} : aC (.sl es)=true:=zR
@[simp] theorem IE {ds} : aC (.ptr ds)=true:=zR
@[simp] theorem M7 {g ds} : aC (.fn g ds)=true:=zR
@[simp] theorem ID {sz es} : aC (.own sz es)=false:=zR
@[simp] theorem Iw {sz es} : aC (.blk sz es)=false:=zR
@[simp] theorem M8 {kt et ks vs} : aC (.mp kt et ks vs)=false:=zR
@[simp] theorem IC {b} : aC (.mrf b)=false:=zR
@[simp] theorem IG {p k n} : aC (.ref p k n)=false:=zR
@[simp] theorem Is {p i off} : aC (.adr p i off)=false:=zR
@[simp] theorem Iu {ds} : aC (.agx ds)=false:=zR
@[simp] theorem IL {ds} : aC (.tpx ds)=false:=zR
@[simp] theorem IF {ds} : aC (.ptx ds)=false:=zR
@[simp] theorem IH {n sz ds} : aC (.rfx n sz ds)=false:=zR
@[simp] theorem Ix {g ds} : aC (.fnx g ds)=false:=zR
@[simp] theorem Iz {T p i off} : aC (.ifa T p i off)=false:=zR
@[simp] theorem IA {T n} : aC (.ifi T n)=false:=zR
@[simp] theorem II {k es} : aC (.slv k es)=false:=zR
@[simp] theorem Iy {g ds cs} : aC (.fny g ds cs)=false:=zR
@[simp] theorem N0 : isO (.any)=false:=zR
@[simp] theorem N6 {k n} : isO (.int k n)=false:=zR
@[simp] theorem JE {b} : isO (.bool b)=false:=zR
@[simp] theorem Og {s} : isO (.str s)=false:=zR
@[simp] theorem JF : isO (.nilp)=false:=zR
@[simp] theorem JG : isO (.nils)=false:=zR
@[simp] theorem NY {ds} : isO (.agg ds)=false:=zR
@[simp] theorem Oi {ds} : isO (.tup ds)=false:=zR
@[simp] theorem Rx {es} : isO (.sl es)=false:=zR
@[simp] theorem N9 {ds} : isO (.ptr ds)=false:=zR
@[simp] theorem Rv {g ds} : isO (.fn g ds)=false:=zR
@[simp] theorem N8 {sz es} : isO (.own sz es)=true:=zR
@[simp] theorem N1 {sz es} : isO (.blk sz es)=false:=zR
@[simp] theorem Rw {kt et ks vs} : isO (.mp kt et ks vs)=false:=zR
@[simp] theorem N7 {b} : isO (.mrf b)=false:=zR
@[simp] theorem Ob {p k n} : isO (.ref p k n)=false:=zR
@[simp] theorem NX {p i off} : isO (.adr p i off)=false:=zR
@[simp] theorem NZ {ds} : isO (.agx ds)=false:=zR
@[simp] theorem Oh {ds} : isO (.tpx ds)=false:=zR
@[simp] theorem Oa {ds} : isO (.ptx ds)=false:=zR
@[simp] theorem Oc {n sz ds} : isO (.rfx n sz ds)=false:=zR
@[simp] theorem N2 {g ds} : isO (.fnx g ds)=false:=zR
@[simp] theorem N4 {T p i off} : isO (.ifa T p i off)=false:=zR
@[simp] theorem N5 {T n} : isO (.ifi T n)=false:=zR
@[simp] theorem Od {k es} : isO (.slv k es)=false:=zR
@[simp] theorem N3 {g ds cs} : isO (.fny g ds cs)=false:=zR
@[simp] theorem IR : aW (.any)=true:=zR
@[simp] theorem IX {k n} : aW (.int k n)=true:=zR
@[simp] theorem E5 {b} : aW (.bool b)=true:=zR
@[simp] theorem Jb {s} : aW (.str s)=true:=zR
@[simp] theorem E6 : aW (.nilp)=true:=zR
@[simp] theorem E7 : aW (.nils)=true:=zR
@[simp] theorem IP {ds} : aW (.agg ds)=false:=zR
@[simp] theorem Jd {ds} : aW (.tup ds)=false:=zR
@[simp] theorem Nc {es} : aW (.sl es)=false:=zR
@[simp] theorem I0 {ds} : aW (.ptr ds)=false:=zR
@[simp] theorem Na {g ds} : aW (.fn g ds)=false:=zR
@[simp] theorem IZ {sz es} : aW (.own sz es)=false:=zR
@[simp] theorem IS {sz es} : aW (.blk sz es)=false:=zR
@[simp] theorem Nb {kt et ks vs} : aW (.mp kt et ks vs)=false:=zR
@[simp] theorem IY {b} : aW (.mrf b)=false:=zR
@[simp] theorem I8 {p k n} : aW (.ref p k n)=false:=zR
@[simp] theorem IO {p i off} : aW (.adr p i off)=false:=zR
@[simp] theorem IQ {ds} : aW (.agx ds)=false:=zR
@[simp] theorem Jc {ds} : aW (.tpx ds)=false:=zR
@[simp] theorem I7 {ds} : aW (.ptx ds)=false:=zR
@[simp] theorem I9 {n sz ds} : aW (.rfx n sz ds)=false:=zR
@[simp] theorem IT {g ds} : aW (.fnx g ds)=false:=zR
@[simp] theorem IV {T p i off} : aW (.ifa T p i off)=false:=zR
@[simp] theorem IW {T n} : aW (.ifi T n)=true:=zR
@[simp] theorem Ja {k es} : aW (.slv k es)=false:=zR
@[simp] theorem IU {g ds cs} : aW (.fny g ds cs)=false:=zR
@[simp] theorem Jh : c8 (.any)=true:=zR
@[simp] theorem Jn {k n} : c8 (.int k n)=true:=zR
@[simp] theorem E8 {b} : c8 (.bool b)=true:=zR
@[simp] theorem Jv {s} : c8 (.str s)=true:=zR
@[simp] theorem E9 : c8 (.nilp)=true:=zR
@[simp] theorem Fa : c8 (.nils)=true:=zR
@[simp] theorem Jf {ds} : c8 (.agg ds)=ds.all aW:=zR
@[simp] theorem Jx {ds} : c8 (.tup ds)=false:=zR
@[simp] theorem Ng {es} : c8 (.sl es)=false:=zR
@[simp] theorem Jq {ds} : c8 (.ptr ds)=false:=zR
@[simp] theorem Nd {g ds} : c8 (.fn g ds)=false:=zR
@[simp] theorem Jp {sz es} : c8 (.own sz es)=false:=zR
@[simp] theorem Ji {sz es} : c8 (.blk sz es)=false:=zR
@[simp] theorem Nf {kt et ks vs} : c8 (.mp kt et ks vs)=false:=zR
@[simp] theorem Jo {b} : c8 (.mrf b)=false:=zR
@[simp] theorem Js {p k n} : c8 (.ref p k n)=false:=zR
@[simp] theorem Je {p i off} : c8 (.adr p i off)=false:=zR
@[simp] theorem Jg {ds} : c8 (.agx ds)=false:=zR
@[simp] theorem Jw {ds} : c8 (.tpx ds)=false:=zR
@[simp] theorem Jr {ds} : c8 (.ptx ds)=false:=zR
@[simp] theorem Jt {n sz ds} : c8 (.rfx n sz ds)=false:=zR
@[simp] theorem Jj {g ds} : c8 (.fnx g ds)=false:=zR
@[simp] theorem Jl {T p i off} : c8 (.ifa T p i off)=false:=zR
@[simp] theorem Jm {T n} : c8 (.ifi T n)=true:=zR
@[simp] theorem Ju {k es} : c8 (.slv k es)=false:=zR
@[simp] theorem Jk {g ds cs} : c8 (.fny g ds cs)=false:=zR
@[simp] theorem Nk : isF (.any)=true:=zR
@[simp] theorem Nr {k n} : isF (.int k n)=true:=zR
@[simp] theorem Jy {b} : isF (.bool b)=true:=zR
@[simp] theorem Nz {s} : isF (.str s)=true:=zR
@[simp] theorem Jz : isF (.nilp)=true:=zR
@[simp] theorem JA : isF (.nils)=true:=zR
@[simp] theorem Ni {ds} : isF (.agg ds)=ds.all aW:=zR
@[simp] theorem NB {ds} : isF (.tup ds)=ds.all c8:=zR
@[simp] theorem Rq {es} : isF (.sl es)=false:=zR
@[simp] theorem Nu {ds} : isF (.ptr ds)=false:=zR
@[simp] theorem Ro {g ds} : isF (.fn g ds)=false:=zR
@[simp] theorem Nt {sz es} : isF (.own sz es)=false:=zR
@[simp] theorem Nl {sz es} : isF (.blk sz es)=false:=zR
@[simp] theorem Rp {kt et ks vs} : isF (.mp kt et ks vs)=false:=zR
@[simp] theorem Ns {b} : isF (.mrf b)=false:=zR
@[simp] theorem Nw {p k n} : isF (.ref p k n)=false:=zR
@[simp] theorem Nh {p i off} : isF (.adr p i off)=false:=zR
@[simp] theorem Nj {ds} : isF (.agx ds)=false:=zR
@[simp] theorem NA {ds} : isF (.tpx ds)=false:=zR
@[simp] theorem Nv {ds} : isF (.ptx ds)=false:=zR
@[simp] theorem Nx {n sz ds} : isF (.rfx n sz ds)=false:=zR
@[simp] theorem Nm {g ds} : isF (.fnx g ds)=false:=zR
@[simp] theorem Np {T p i off} : isF (.ifa T p i off)=false:=zR
@[simp] theorem Nq {T n} : isF (.ifi T n)=true:=zR
@[simp] theorem Ny {k es} : isF (.slv k es)=false:=zR
@[simp] theorem Nn {g ds cs} : isF (.fny g ds cs)=false:=zR
@[simp] theorem MK : isB (.any)=false:=zR
@[simp] theorem MQ {k n} : isB (.int k n)=false:=zR
@[simp] theorem Ip {b} : isB (.bool b)=false:=zR
@[simp] theorem MZ {s} : isB (.str s)=false:=zR
@[simp] theorem Iq : isB (.nilp)=false:=zR
@[simp] theorem Ir : isB (.nils)=false:=zR
@[simp] theorem MI {ds} : isB (.agg ds)=false:=zR
@[simp] theorem M6 {ds} : isB (.tup ds)=false:=zR
@[simp] theorem Rn {es} : isB (.sl es)=false:=zR
@[simp] theorem MT {ds} : isB (.ptr ds)=false:=zR
@[simp] theorem Rl {g ds} : isB (.fn g ds)=false:=zR
@[simp] theorem MS {sz es} : isB (.own sz es)=false:=zR
@[simp] theorem ML {sz es} : isB (.blk sz es)=true:=zR
@[simp] theorem Rm {kt et ks vs} : isB (.mp kt et ks vs)=true:=zR
@[simp] theorem MR {b} : isB (.mrf b)=false:=zR
@[simp] theorem MV {p k n} : isB (.ref p k n)=false:=zR
@[simp] theorem MH {p i off} : isB (.adr p i off)=false:=zR
@[simp] theorem MJ {ds} : isB (.agx ds)=false:=zR
@[simp] theorem M5 {ds} : isB (.tpx ds)=false:=zR
@[simp] theorem MU {ds} : isB (.ptx ds)=false:=zR
@[simp] theorem MW {n sz ds} : isB (.rfx n sz ds)=false:=zR
@[simp] theorem MM {g ds} : isB (.fnx g ds)=false:=zR
@[simp] theorem MO {T p i off} : isB (.ifa T p i off)=false:=zR
@[simp] theorem MP {T n} : isB (.ifi T n)=false:=zR
@[simp] theorem MX {k es} : isB (.slv k es)=false:=zR
@[simp] theorem MN {g ds cs} : isB (.fny g ds cs)=false:=zR
@[simp] theorem EI : ce (.any)=true:=zR
@[simp] theorem EO {k n} : ce (.int k n)=false:=zR
@[simp] theorem Bs {b} : ce (.bool b)=false:=zR
@[simp] theorem EX {s} : ce (.str s)=false:=zR
@[simp] theorem Bt : ce (.nilp)=false:=zR
@[simp] theorem Bu : ce (.nils)=false:=zR
@[simp] theorem EG {ds} : ce (.agg ds)=false:=zR
@[simp] theorem EZ {ds} : ce (.tup ds)=false:=zR
@[simp] theorem Io {es} : ce (.sl es)=false:=zR
@[simp] theorem ER {ds} : ce (.ptr ds)=false:=zR
@[simp] theorem Il {g ds} : ce (.fn g ds)=false:=zR
@[simp] theorem EQ {sz es} : ce (.own sz es)=false:=zR
@[simp] theorem EJ {sz es} : ce (.blk sz es)=false:=zR
@[simp] theorem Im {kt et ks vs} : ce (.mp kt et ks vs)=false:=zR
@[simp] theorem EP {b} : ce (.mrf b)=false:=zR
@[simp] theorem ET {p k n} : ce (.ref p k n)=false:=zR
@[simp] theorem EF {p i off} : ce (.adr p i off)=false:=zR
@[simp] theorem EH {ds} : ce (.agx ds)=false:=zR
@[simp] theorem EY {ds} : ce (.tpx ds)=false:=zR
@[simp] theorem ES {ds} : ce (.ptx ds)=false:=zR
@[simp] theorem EU {n sz ds} : ce (.rfx n sz ds)=false:=zR
@[simp] theorem EK {g ds} : ce (.fnx g ds)=false:=zR
@[simp] theorem EM {T p i off} : ce (.ifa T p i off)=false:=zR
@[simp] theorem EN {T n} : ce (.ifi T n)=false:=zR
@[simp] theorem EV {k es} : ce (.slv k es)=false:=zR
@[simp] theorem EL {g ds cs} : ce (.fny g ds cs)=false:=zR
@[simp] theorem yU : cellsOf (.any)=[.any]:=zR
@[simp] theorem y4 {k n} : cellsOf (.int k n)=[.int k n]:=zR
@[simp] theorem wM {b} : cellsOf (.bool b)=[.bool b]:=zR
@[simp] theorem zu {s} : cellsOf (.str s)=[.str s]:=zR
@[simp] theorem wO : cellsOf (.nilp)=[.nilp]:=zR
@[simp] theorem wP : cellsOf (.nils)=[.nils]:=zR
@[simp] theorem yS {ds} : cellsOf (.agg ds)=ds:=zR
@[simp] theorem zA {ds} : cellsOf (.tup ds)=[.tup ds]:=zR
@[simp] theorem AZ {es} : cellsOf (.sl es)=[.sl es]:=zR
@[simp] theorem y7 {ds} : cellsOf (.ptr ds)=[.ptr ds]:=zR
@[simp] theorem AX {g ds} : cellsOf (.fn g ds)=[.fn g ds]:=zR
@[simp] theorem y6 {sz es} : cellsOf (.own sz es)=[.own sz es]:=zR
@[simp] theorem yV {sz es} : cellsOf (.blk sz es)=[.blk sz es]:=zR
@[simp] theorem AY {kt et ks vs} : cellsOf (.mp kt et ks vs)=[.mp kt et ks vs]:=zR
@[simp] theorem y5 {b} : cellsOf (.mrf b)=[.mrf b]:=zR
@[simp] theorem y9 {p k n} : cellsOf (.ref p k n)=[.ref p k n]:=zR
@[simp] theorem yR {p i off} : cellsOf (.adr p i off)=[.adr p i off]:=zR
@[simp] theorem yT {ds} : cellsOf (.agx ds)=[.agx ds]:=zR
@[simp] theorem zz {ds} : cellsOf (.tpx ds)=[.tpx ds]:=zR
@[simp] theorem y8 {ds} : cellsOf (.ptx ds)=[.ptx ds]:=zR
@[simp] theorem za {n sz ds} : cellsOf (.rfx n sz ds)=[.rfx n sz ds]:=zR
@[simp] theorem yW {g ds} : cellsOf (.fnx g ds)=[.fnx g ds]:=zR
@[simp] theorem yY {T p i off} : cellsOf (.ifa T p i off)=[.ifa T p i off]:=zR
@[simp] theorem yZ {T n} : cellsOf (.ifi T n)=[.ifi T n]:=zR
@[simp] theorem ze {k es} : cellsOf (.slv k es)=[.slv k es]:=zR
@[simp] theorem yX {g ds cs} : cellsOf (.fny g ds cs)=[.fny g ds cs]:=zR
@[simp] theorem Df : bK (.any)=.any:=zR
@[simp] theorem Dl {k n} : bK (.int k n)=.int k n:=zR
@[simp] theorem AQ {b} : bK (.bool b)=.bool b:=zR
@[simp] theorem Du {s} : bK (.str s)=.str s:=zR
@[simp] theorem AR : bK (.nilp)=.nilp:=zR
@[simp] theorem AS : bK (.nils)=.nils:=zR
@[simp] theorem Dd {ds} : bK (.agg ds)=.agg ds:=zR
@[simp] theorem Dx {ds} : bK (.tup ds)=.tup ds:=zR
@[simp] theorem GD {es} : bK (.sl es)=.sl es:=zR
@[simp] theorem Do {ds} : bK (.ptr ds)=.ptr ds:=zR
@[simp] theorem GB {g ds} : bK (.fn g ds)=.fn g ds:=zR
@[simp] theorem Dn {sz es} : bK (.own sz es)=.own sz es:=zR
@[simp] theorem Dg {sz es} : bK (.blk sz es)=.blk sz es:=zR
@[simp] theorem GC {kt et ks vs} : bK (.mp kt et ks vs)=.mp kt et ks vs:=zR
@[simp] theorem Dm {b} : bK (.mrf b)=.mrf b:=zR
@[simp] theorem Dq {p k n} : bK (.ref p k n)=.ref p k n:=zR
@[simp] theorem Dc {p i off} : bK (.adr p i off)=.adr p i off:=zR
@[simp] theorem De {ds} : bK (.agx ds)=.agg ds:=zR
@[simp] theorem Dw {ds} : bK (.tpx ds)=.tpx ds:=zR
@[simp] theorem Dp {ds} : bK (.ptx ds)=.ptx ds:=zR
@[simp] theorem Dr {n sz ds} : bK (.rfx n sz ds)=.rfx n sz ds:=zR
@[simp] theorem Dh {g ds} : bK (.fnx g ds)=.fnx g ds:=zR
@[simp] theorem Dj {T p i off} : bK (.ifa T p i off)=.ifa T p i off:=zR
@[simp] theorem Dk {T n} : bK (.ifi T n)=.ifi T n:=zR
@[simp] theorem Ds {k es} : bK (.slv k es)=.slv k es:=zR
@[simp] theorem Di {g ds cs} : bK (.fny g ds cs)=.fny g ds cs:=zR
@[simp] theorem DM : bj (.any)=.any:=zR
@[simp] theorem DS {k n} : bj (.int k n)=.int k n:=zR
@[simp] theorem AU {b} : bj (.bool b)=.bool b:=zR
@[simp] theorem D1 {s} : bj (.str s)=.str s:=zR
@[simp] theorem AV : bj (.nilp)=.nilp:=zR
@[simp] theorem AW : bj (.nils)=.nils:=zR
@[simp] theorem DK {ds} : bj (.agg ds)=.agg ds:=zR
@[simp] theorem D3 {ds} : bj (.tup ds)=.tup ds:=zR
@[simp] theorem G2 {es} : bj (.sl es)=.sl es:=zR
@[simp] theorem DV {ds} : bj (.ptr ds)=.ptr ds:=zR
@[simp] theorem G0 {g ds} : bj (.fn g ds)=.fn g ds:=zR
@[simp] theorem DU {sz es} : bj (.own sz es)=.sl es:=zR
@[simp] theorem DN {sz es} : bj (.blk sz es)=.blk sz es:=zR
@[simp] theorem G1 {kt et ks vs} : bj (.mp kt et ks vs)=.mp kt et ks vs:=zR
@[simp] theorem DT {b} : bj (.mrf b)=.mrf b:=zR
@[simp] theorem DX {p k n} : bj (.ref p k n)=.ref p k n:=zR
@[simp] theorem DJ {p i off} : bj (.adr p i off)=.adr p i off:=zR
@[simp] theorem DL {ds} : bj (.agx ds)=.agx ds:=zR
@[simp] theorem D2 {ds} : bj (.tpx ds)=.tpx ds:=zR
@[simp] theorem DW {ds} : bj (.ptx ds)=.ptx ds:=zR
@[simp] theorem DY {n sz ds} : bj (.rfx n sz ds)=.rfx n sz ds:=zR
@[simp] theorem DO {g ds} : bj (.fnx g ds)=.fnx g ds:=zR
@[simp] theorem DQ {T p i off} : bj (.ifa T p i off)=.ifa T p i off:=zR
@[simp] theorem DR {T n} : bj (.ifi T n)=.ifi T n:=zR
@[simp] theorem DZ {k es} : bj (.slv k es)=.slv k es:=zR
@[simp] theorem DP {g ds cs} : bj (.fny g ds cs)=.fny g ds cs:=zR
@[simp] theorem zZ : aB (.any)=[]:=zR
@[simp] theorem Ac {k n} : aB (.int k n)=[]:=zR
@[simp] theorem xG {b} : aB (.bool b)=[]:=zR
@[simp] theorem Al {s} : aB (.str s)=[]:=zR
@[simp] theorem xH : aB (.nilp)=[]:=zR
@[simp] theorem xI : aB (.nils)=[]:=zR
@[simp] theorem zX {ds} : aB (.agg ds)=[]:=zR
@[simp] theorem An {ds} : aB (.tup ds)=[]:=zR
@[simp] theorem BR {es} : aB (.sl es)=[]:=zR
@[simp] theorem Af {ds} : aB (.ptr ds)=[]:=zR
@[simp] theorem BP {g ds} : aB (.fn g ds)=[]:=zR
@[simp] theorem Ae {sz es} : aB (.own sz es)=[]:=zR
@[simp] theorem z6 {sz es} : aB (.blk sz es)=[]:=zR
@[simp] theorem BQ {kt et ks vs} : aB (.mp kt et ks vs)=[]:=zR
@[simp] theorem Ad {b} : aB (.mrf b)=[b]:=zR
@[simp] theorem Ah {p k n} : aB (.ref p k n)=[p.root]:=zR
@[simp] theorem zW {p i off} : aB (.adr p i off)=[p.root]:=zR
@[simp] theorem zY {ds} : aB (.agx ds)=[]:=zR
@[simp] theorem Am {ds} : aB (.tpx ds)=[]:=zR
@[simp] theorem Ag {ds} : aB (.ptx ds)=[]:=zR
@[simp] theorem Ai {n sz ds} : aB (.rfx n sz ds)=[]:=zR
@[simp] theorem z7 {g ds} : aB (.fnx g ds)=[]:=zR
@[simp] theorem Aa {T p i off} : aB (.ifa T p i off)=[p.root]:=zR
@[simp] theorem Ab {T n} : aB (.ifi T n)=[]:=zR
@[simp] theorem Aj {k es} : aB (.slv k es)=[]:=zR
@[simp] theorem z8 {g ds cs} : aB (.fny g ds cs)=[]:=zR
@[simp] theorem BV : bf (.any)=[]:=zR
@[simp] theorem B4 {k n} : bf (.int k n)=[]:=zR
@[simp] theorem Ao {b} : bf (.bool b)=[]:=zR
@[simp] theorem Cd {s} : bf (.str s)=[]:=zR
@[simp] theorem Ap : bf (.nilp)=[]:=zR
@[simp] theorem Aq : bf (.nils)=[]:=zR
@[simp] theorem BT {ds} : bf (.agg ds)=[]:=zR
@[simp] theorem Cf {ds} : bf (.tup ds)=[]:=zR
@[simp] theorem FS {es} : bf (.sl es)=[]:=zR
@[simp] theorem B7 {ds} : bf (.ptr ds)=[]:=zR
@[simp] theorem FQ {g ds} : bf (.fn g ds)=[]:=zR
@[simp] theorem B6 {sz es} : bf (.own sz es)=[]:=zR
@[simp] theorem BW {sz es} : bf (.blk sz es)=[]:=zR
@[simp] theorem FR {kt et ks vs} : bf (.mp kt et ks vs)=[]:=zR
@[simp] theorem B5 {b} : bf (.mrf b)=[b]:=zR
@[simp] theorem B9 {p k n} : bf (.ref p k n)=[p.root]:=zR
@[simp] theorem BS {p i off} : bf (.adr p i off)=[p.root]:=zR
@[simp] theorem BU {ds} : bf (.agx ds)=ds.flatMap aB:=zR
@[simp] theorem Ce {ds} : bf (.tpx ds)=ds.flatMap aB:=zR
@[simp] theorem B8 {ds} : bf (.ptx ds)=ds.flatMap aB:=zR
@[simp] theorem Ca {n sz ds} : bf (.rfx n sz ds)=ds.flatMap aB:=zR
@[simp] theorem BX {g ds} : bf (.fnx g ds)=ds.flatMap aB:=zR
@[simp] theorem BZ {T p i off} : bf (.ifa T p i off)=[p.root]:=zR
@[simp] theorem B1 {T n} : bf (.ifi T n)=[]:=zR
@[simp] theorem Cb {k es} : bf (.slv k es)=[]:=zR
@[simp] theorem BY {g ds cs} : bf (.fny g ds cs)=(ds.flatMap aB++cs.flatMap aB):=zR
@[simp] theorem L0 {f : Nat -> D} : dp1 f (.any)=(.any):=zR
@[simp] theorem Mc {f : Nat -> D} {k n} : dp1 f (.int k n)=(.int k n):=zR
@[simp] theorem Hc {f : Nat -> D} {b} : dp1 f (.bool b)=(.bool b):=zR
@[simp] theorem Mm {f : Nat -> D} {s} : dp1 f (.str s)=(.str s):=zR
@[simp] theorem Hd {f : Nat -> D} : dp1 f (.nilp)=(.nilp):=zR
@[simp] theorem He {f : Nat -> D} : dp1 f (.nils)=(.nils):=zR
@[simp] theorem LY {f : Nat -> D} {ds} : dp1 f (.agg ds)=(.agg ds):=zR
@[simp] theorem Mo {f : Nat -> D} {ds} : dp1 f (.tup ds)=(.tup ds):=zR
@[simp] theorem QR {f : Nat -> D} {es} : dp1 f (.sl es)=(.sl es):=zR
@[simp] theorem Mf {f : Nat -> D} {ds} : dp1 f (.ptr ds)=(.ptr ds):=zR
@[simp] theorem QP {f : Nat -> D} {g ds} : dp1 f (.fn g ds)=(.fn g ds):=zR
@[simp] theorem Me {f : Nat -> D} {sz es} : dp1 f (.own sz es)=(.own sz es):=zR
@[simp] theorem L7 {f : Nat -> D} {sz es} : dp1 f (.blk sz es)=(.blk sz es):=zR
@[simp] theorem QQ {f : Nat -> D} {kt et ks vs} : dp1 f (.mp kt et ks vs)=(.mp kt et ks vs):=zR
@[simp] theorem Md {f : Nat -> D} {b} : dp1 f (.mrf b)=(.mrf b):=zR
@[simp] theorem Mh {f : Nat -> D} {p k n} : dp1 f (.ref p k n)=(match bm f p with | some (_,es)=>.sl (((es.drop k).take n).map fun e=>e.map bj) | none=>.any):=zR
@[simp] theorem LX {f : Nat -> D} {p i off} : dp1 f (.adr p i off)=(match bm f p with | some (_,es)=>.ptr (((es[i]?.getD []).drop off).map bj) | none=>.any):=zR
@[simp] theorem LZ {f : Nat -> D} {ds} : dp1 f (.agx ds)=(.agx ds):=zR
@[simp] theorem Mn {f : Nat -> D} {ds} : dp1 f (.tpx ds)=(.tpx ds):=zR
@[simp] theorem Mg {f : Nat -> D} {ds} : dp1 f (.ptx ds)=(.ptx ds):=zR
@[simp] theorem Mi {f : Nat -> D} {n sz ds} : dp1 f (.rfx n sz ds)=(.rfx n sz ds):=zR
@[simp] theorem L8 {f : Nat -> D} {g ds} : dp1 f (.fnx g ds)=(.fnx g ds):=zR
@[simp] theorem Ma {f : Nat -> D} {T p i off} : dp1 f (.ifa T p i off)=(.ifa T p i off):=zR
@[simp] theorem Mb {f : Nat -> D} {T n} : dp1 f (.ifi T n)=(.ifi T n):=zR
@[simp] theorem Mk {f : Nat -> D} {k es} : dp1 f (.slv k es)=(.slv k es):=zR
@[simp] theorem L9 {f : Nat -> D} {g ds cs} : dp1 f (.fny g ds cs)=(.fny g ds cs):=zR
@[simp] theorem QV {f : Nat -> D} : dp f (.any)=(.any):=zR
@[simp] theorem Q1 {f : Nat -> D} {k n} : dp f (.int k n)=(.int k n):=zR
@[simp] theorem Mt {f : Nat -> D} {b} : dp f (.bool b)=(.bool b):=zR
@[simp] theorem Ra {f : Nat -> D} {s} : dp f (.str s)=(.str s):=zR
@[simp] theorem Mu {f : Nat -> D} : dp f (.nilp)=(.nilp):=zR
@[simp] theorem Mv {f : Nat -> D} : dp f (.nils)=(.nils):=zR
@[simp] theorem QT {f : Nat -> D} {ds} : dp f (.agg ds)=(.agg ds):=zR
@[simp] theorem Rc {f : Nat -> D} {ds} : dp f (.tup ds)=(.tup ds):=zR
@[simp] theorem Se {f : Nat -> D} {es} : dp f (.sl es)=(.sl es):=zR
@[simp] theorem Q4 {f : Nat -> D} {ds} : dp f (.ptr ds)=(.ptr ds):=zR
@[simp] theorem Sc {f : Nat -> D} {g ds} : dp f (.fn g ds)=(.fn g ds):=zR
@[simp] theorem Q3 {f : Nat -> D} {sz es} : dp f (.own sz es)=(.own sz es):=zR
@[simp] theorem QW {f : Nat -> D} {sz es} : dp f (.blk sz es)=(.blk sz es):=zR
@[simp] theorem Sd {f : Nat -> D} {kt et ks vs} : dp f (.mp kt et ks vs)=(.mp kt et ks vs):=zR
@[simp] theorem Q2 {f : Nat -> D} {b} : dp f (.mrf b)=(.mrf b):=zR
@[simp] theorem Q6 {f : Nat -> D} {p k n} : dp f (.ref p k n)=(match bm f p with | some (_,es)=>.sl (((es.drop k).take n).map fun e=>e.map bj) | none=>.any):=zR
@[simp] theorem QS {f : Nat -> D} {p i off} : dp f (.adr p i off)=(match bm f p with | some (_,es)=>.ptr (((es[i]?.getD []).drop off).map bj) | none=>.any):=zR
@[simp] theorem QU {f : Nat -> D} {ds} : dp f (.agx ds)=(.agg (ds.map (dp1 f))):=zR
@[simp] theorem Rb {f : Nat -> D} {ds} : dp f (.tpx ds)=(.tup (ds.map (dp1 f))):=zR
@[simp] theorem Q5 {f : Nat -> D} {ds} : dp f (.ptx ds)=(.ptr (ds.map (dp1 f))):=zR
@[simp] theorem Q7 {f : Nat -> D} {n sz ds} : dp f (.rfx n sz ds)=.rfx n sz ds:=zR
@[simp] theorem QX {f : Nat -> D} {g ds} : dp f (.fnx g ds)=(.fn g (ds.map (dp1 f))):=zR
@[simp] theorem QZ {f : Nat -> D} {T p i off} : dp f (.ifa T p i off)=(.ifa T p i off):=zR
@[simp] theorem Q0 {f : Nat -> D} {T n} : dp f (.ifi T n)=(.ifi T n):=zR
@[simp] theorem Q8 {f : Nat -> D} {k es} : dp f (.slv k es)=(.slv k es):=zR
@[simp] theorem QY {f : Nat -> D} {g ds cs} : dp f (.fny g ds cs)=(.fny g ds cs):=zR
@[simp] theorem D8 {f : Nat -> D} : aR f (.any)=(True):=zR
@[simp] theorem Ee {f : Nat -> D} {k n} : aR f (.int k n)=(True):=zR
@[simp] theorem A8 {f : Nat -> D} {b} : aR f (.bool b)=(True):=zR
@[simp] theorem En {f : Nat -> D} {s} : aR f (.str s)=(True):=zR
@[simp] theorem A9 {f : Nat -> D} : aR f (.nilp)=(True):=zR
@[simp] theorem Ba {f : Nat -> D} : aR f (.nils)=(True):=zR
@[simp] theorem D6 {f : Nat -> D} {ds} : aR f (.agg ds)=(True):=zR
@[simp] theorem Ep {f : Nat -> D} {ds} : aR f (.tup ds)=(True):=zR
@[simp] theorem Hh {f : Nat -> D} {es} : aR f (.sl es)=(True):=zR
@[simp] theorem Eh {f : Nat -> D} {ds} : aR f (.ptr ds)=(True):=zR
@[simp] theorem Hf {f : Nat -> D} {g ds} : aR f (.fn g ds)=(True):=zR
@[simp] theorem Eg {f : Nat -> D} {sz es} : aR f (.own sz es)=(True):=zR
@[simp] theorem D9 {f : Nat -> D} {sz es} : aR f (.blk sz es)=(True):=zR
@[simp] theorem Hg {f : Nat -> D} {kt et ks vs} : aR f (.mp kt et ks vs)=(True):=zR
@[simp] theorem Ef {f : Nat -> D} {b} : aR f (.mrf b)=(False):=zR
@[simp] theorem Ej {f : Nat -> D} {p k n} : aR f (.ref p k n)=(match bm f p with | some (_,es)=>k + n <= es.length | none=>False):=zR
@[simp] theorem D5 {f : Nat -> D} {p i off} : aR f (.adr p i off)=(match bm f p with | some _=>True | none=>False):=zR
@[simp] theorem D7 {f : Nat -> D} {ds} : aR f (.agx ds)=(True):=zR
@[simp] theorem Eo {f : Nat -> D} {ds} : aR f (.tpx ds)=(True):=zR
@[simp] theorem Ei {f : Nat -> D} {ds} : aR f (.ptx ds)=(True):=zR
@[simp] theorem Ek {f : Nat -> D} {n sz ds} : aR f (.rfx n sz ds)=(True):=zR
@[simp] theorem Ea {f : Nat -> D} {g ds} : aR f (.fnx g ds)=(True):=zR
@[simp] theorem Ec {f : Nat -> D} {T p i off} : aR f (.ifa T p i off)=False:=zR
@[simp] theorem Ed {f : Nat -> D} {T n} : aR f (.ifi T n)=True:=zR
@[simp] theorem El {f : Nat -> D} {k es} : aR f (.slv k es)=True:=zR
@[simp] theorem Eb {f : Nat -> D} {g ds cs} : aR f (.fny g ds cs)=True:=zR
@[simp] theorem Hl {f : Nat -> D} : bv f (.any)=(True):=zR
@[simp] theorem Hr {f : Nat -> D} {k n} : bv f (.int k n)=(True):=zR
@[simp] theorem Er {f : Nat -> D} {b} : bv f (.bool b)=(True):=zR
@[simp] theorem HA {f : Nat -> D} {s} : bv f (.str s)=(True):=zR
@[simp] theorem Es {f : Nat -> D} : bv f (.nilp)=(True):=zR
@[simp] theorem Et {f : Nat -> D} : bv f (.nils)=(True):=zR
@[simp] theorem Hj {f : Nat -> D} {ds} : bv f (.agg ds)=(True):=zR
@[simp] theorem HC {f : Nat -> D} {ds} : bv f (.tup ds)=(True):=zR
@[simp] theorem Ms {f : Nat -> D} {es} : bv f (.sl es)=(True):=zR
@[simp] theorem Hu {f : Nat -> D} {ds} : bv f (.ptr ds)=(True):=zR
@[simp] theorem Mq {f : Nat -> D} {g ds} : bv f (.fn g ds)=(True):=zR
@[simp] theorem Ht {f : Nat -> D} {sz es} : bv f (.own sz es)=(True):=zR
@[simp] theorem Hm {f : Nat -> D} {sz es} : bv f (.blk sz es)=(True):=zR
@[simp] theorem Mr {f : Nat -> D} {kt et ks vs} : bv f (.mp kt et ks vs)=(True):=zR
@[simp] theorem Hs {f : Nat -> D} {b} : bv f (.mrf b)=(False):=zR
@[simp] theorem Hw {f : Nat -> D} {p k n} : bv f (.ref p k n)=(match bm f p with | some (_,es)=>k + n <= es.length | none=>False):=zR
@[simp] theorem Hi {f : Nat -> D} {p i off} : bv f (.adr p i off)=(match bm f p with | some _=>True | none=>False):=zR
@[simp] theorem Hk {f : Nat -> D} {ds} : bv f (.agx ds)=(∀ d ∈ ds,aR f d):=zR
@[simp] theorem HB {f : Nat -> D} {ds} : bv f (.tpx ds)=(∀ d ∈ ds,aR f d):=zR
@[simp] theorem Hv {f : Nat -> D} {ds} : bv f (.ptx ds)=(∀ d ∈ ds,aR f d):=zR
@[simp] theorem Hx {f : Nat -> D} {n sz ds} : bv f (.rfx n sz ds)=False:=zR
@[simp] theorem Hn {f : Nat -> D} {g ds} : bv f (.fnx g ds)=(∀ d ∈ ds,aR f d):=zR
@[simp] theorem Hp {f : Nat -> D} {T p i off} : bv f (.ifa T p i off)=False:=zR
@[simp] theorem Hq {f : Nat -> D} {T n} : bv f (.ifi T n)=True:=zR
@[simp] theorem Hy {f : Nat -> D} {k es} : bv f (.slv k es)=True:=zR
@[simp] theorem Ho {f : Nat -> D} {g ds cs} : bv f (.fny g ds cs)=False:=zR
@[simp] theorem Ps {p i0 o} : ldc p i0 o (.any)=.any:=zR
@[simp] theorem Kn {m} : dK m (.any)=.any:=zR
@[simp] theorem Py {p i0 o k n} : ldc p i0 o (.int k n)=.int k n:=zR
@[simp] theorem Kt {m k n} : dK m (.int k n)=.int k n:=zR
@[simp] theorem JW {p i0 o b} : ldc p i0 o (.bool b)=.bool b:=zR
@[simp] theorem FT {m b} : dK m (.bool b)=.bool b:=zR
@[simp] theorem PH {p i0 o s} : ldc p i0 o (.str s)=.str s:=zR
@[simp] theorem KB {m s} : dK m (.str s)=.str s:=zR
@[simp] theorem JX {p i0 o} : ldc p i0 o (.nilp)=.nilp:=zR
@[simp] theorem FU {m} : dK m (.nilp)=.nilp:=zR
@[simp] theorem JY {p i0 o} : ldc p i0 o (.nils)=.nils:=zR
@[simp] theorem Pq {p i0 o ds} : ldc p i0 o (.agg ds)=.agg ds:=zR
@[simp] theorem Kl {m ds} : dK m (.agg ds)=.agg ds:=zR
@[simp] theorem PJ {p i0 o ds} : ldc p i0 o (.tup ds)=.tup ds:=zR
@[simp] theorem KD {m ds} : dK m (.tup ds)=.tup ds:=zR
@[simp] theorem RO {p i0 o es} : ldc p i0 o (.sl es)=.sl es:=zR
@[simp] theorem PV {m es} : dK m (.sl es)=.sl es:=zR
@[simp] theorem PB {p i0 o ds} : ldc p i0 o (.ptr ds)=.ptr ds:=zR
@[simp] theorem Kw {m ds} : dK m (.ptr ds)=.ptr ds:=zR
@[simp] theorem RM {p i0 o g ds} : ldc p i0 o (.fn g ds)=.fn g ds:=zR
@[simp] theorem PT {m g ds} : dK m (.fn g ds)=.fn g ds:=zR
@[simp] theorem PA {c i o sz es} : ldc (.r c) i o (.own sz es)=.ref (.n c i o) 0 es.length:=zR
@[simp] theorem Kv {m sz es} : dK m (.own sz es)=.own sz es:=zR
@[simp] theorem Pt {p i0 o sz es} : ldc p i0 o (.blk sz es)=.blk sz es:=zR
@[simp] theorem Ko {m sz es} : dK m (.blk sz es)=.blk sz es:=zR
@[simp] theorem RN {p i0 o kt et ks vs} : ldc p i0 o (.mp kt et ks vs)=.mp kt et ks vs:=zR
@[simp] theorem PU {m kt et ks vs} : dK m (.mp kt et ks vs)=.mp kt et ks vs:=zR
@[simp] theorem Pz {p i0 o b} : ldc p i0 o (.mrf b)=.mrf b:=zR
@[simp] theorem Ku {m b} : dK m (.mrf b)=.mrf b:=zR
@[simp] theorem PD {p i0 o q k n} : ldc p i0 o (.ref q k n)=.ref q k n:=zR
@[simp] theorem Ky {m q k n} : dK m (.ref q k n)=.ref q k n:=zR
@[simp] theorem Pp {p i0 o q i off} : ldc p i0 o (.adr q i off)=.adr q i off:=zR
@[simp] theorem Kk {m q i off} : dK m (.adr q i off)=.adr q i off:=zR
@[simp] theorem Pr {p i0 o ds} : ldc p i0 o (.agx ds)=.agx ds:=zR
@[simp] theorem Km {m ds} : dK m (.agx ds)=.agx ds:=zR
@[simp] theorem PI {p i0 o ds} : ldc p i0 o (.tpx ds)=.tpx ds:=zR
@[simp] theorem KC {m ds} : dK m (.tpx ds)=.tpx ds:=zR
@[simp] theorem PC {p i0 o ds} : ldc p i0 o (.ptx ds)=.ptx ds:=zR
@[simp] theorem PE {p i0 o n sz ds} : ldc p i0 o (.rfx n sz ds)=.rfx n sz ds:=zR
@[simp] theorem Kx {m ds} : dK m (.ptx ds)=.ptx ds:=zR
@[simp] theorem Kz {m n sz ds} : dK m (.rfx n sz ds)=.rfx n sz ds:=zR
@[simp] theorem Pu {p i0 o g ds} : ldc p i0 o (.fnx g ds)=.fnx g ds:=zR
@[simp] theorem Pw {p0 i0 o T p i off} : ldc p0 i0 o (.ifa T p i off)=.ifa T p i off:=zR
@[simp] theorem Px {p0 i0 o T n} : ldc p0 i0 o (.ifi T n)=.ifi T n:=zR
@[simp] theorem PF {p0 i0 o k es} : ldc p0 i0 o (.slv k es)=.slv k es:=zR
@[simp] theorem Pv {p0 i0 o g ds cs} : ldc p0 i0 o (.fny g ds cs)=.fny g ds cs:=zR
@[simp] theorem Kp {m g ds} : dK m (.fnx g ds)=.fnx g ds:=zR
@[simp] theorem Kr {m T p i off} : dK m (.ifa T p i off)=.ifa T p i off:=zR
@[simp] theorem Ks {m T n} : dK m (.ifi T n)=.ifi T n:=zR
@[simp] theorem KA {m k es} : dK m (.slv k es)=.slv k es:=zR
@[simp] theorem Kq {m g ds cs} : dK m (.fny g ds cs)=.fny g ds cs:=zR
@[simp] theorem FV {m} : dK m .nils=if m=0 then .nils else .own m []:=zR
def slx (b : Bool) (es : List (List D)) : D:=match b,es with
 | true,[]=>.nils
 | _,es=>.sl es
@[simp] theorem b7 {es} : slx false es=.sl es:=by cases es <;> rfl
@[simp] theorem Lt {b x es} : slx b (x::es)=.sl (x::es):=by cases b <;> rfl
theorem eM (b : Bool) (es : List (List D)) : slx b es=.sl es \/ (slx b es=.nils /\ es=[]):=by cases b <;> cases es <;> simp [slx]
@[simp] theorem Pl {b es} : isV (slx b es)=true:=by cases b <;> cases es <;> rfl
@[simp] theorem NT {b es} : isK (slx b es)=true:=by cases b <;> cases es <;> rfl
@[simp] theorem OE {b es} : isP (slx b es)=true:=by cases b <;> cases es <;> rfl
@[simp] theorem OZ {b es} : isS (slx b es)=true:=by cases b <;> cases es <;> rfl
@[simp] theorem IJ {b es} : aC (slx b es)=true:=by cases b <;> cases es <;> rfl
@[simp] theorem Oe {b es} : isO (slx b es)=false:=by cases b <;> cases es <;> rfl
@[simp] theorem EW {b es} : ce (slx b es)=false:=by cases b <;> cases es <;> rfl
@[simp] theorem MY {b es} : isB (slx b es)=false:=by cases b <;> cases es <;> rfl
@[simp] theorem zj {b es} : cellsOf (slx b es)=[slx b es]:=by cases b <;> cases es <;> rfl
@[simp] theorem Dt {b es} : bK (slx b es)=slx b es:=by cases b <;> cases es <;> rfl
@[simp] theorem D0 {b es} : bj (slx b es)=slx b es:=by cases b <;> cases es <;> rfl
@[simp] theorem Ak {b es} : aB (slx b es)=[]:=by cases b <;> cases es <;> rfl
@[simp] theorem Cc {b es} : bf (slx b es)=[]:=by cases b <;> cases es <;> rfl
@[simp] theorem Ml {f : Nat -> D} {b es} : dp1 f (slx b es)=slx b es:=by cases b <;> cases es <;> rfl
@[simp] theorem Q9 {f : Nat -> D} {b es} : dp f (slx b es)=slx b es:=by cases b <;> cases es <;> rfl
@[simp] theorem Em {f : Nat -> D} {b es} : aR f (slx b es)=True:=by cases b <;> cases es <;> rfl
@[simp] theorem Hz {f : Nat -> D} {b es} : bv f (slx b es)=True:=by cases b <;> cases es <;> rfl
@[simp] theorem PG {p i o b es} : ldc p i o (slx b es)=slx b es:=by cases b <;> cases es <;> rfl
def qI (d : D) (K : Nat -> Prop) (_ : Tag K) : Prop:=match d with
 | .sl es=>K es.length
 | .nils=>K 0
 | .ref _ _ n=>K n
 | .rfx n _ _=>K n
 | _=>False
@[simp] theorem J3 {n sz ds K u} : qI (.rfx n sz ds) K u=K n:=zR
@[simp] theorem PK {es K u} : qI (.sl es) K u=K es.length:=zR
@[simp] theorem FD {K u} : qI .nils K u=K 0:=zR
@[simp] theorem J2 {p k n K u} : qI (.ref p k n) K u=K n:=zR
@[simp] theorem J4 {b es K u} : qI (slx b es) K u=K es.length:=by cases b <;> cases es <;> rfl
@[simp] theorem Ga {n ds} : mX true n ds=.agg (ds.take n):=zR
@[simp] theorem Cv {n ds} : mX false n ds=ds.headD .any:=zR
@[simp] theorem J6 {t} : ab [] t=.any:=rfl
def lk (b : Bool) (d : D) (r : Env) (t : Nat) : D:=match b with
 | true=>d
 | false=>ab r t
@[simp] theorem PL {d r t} : lk true d r t=d:=rfl
@[simp] theorem J5 {d r t} : lk false d r t=ab r t:=rfl
@[simp] theorem FE {s d r t} : ab ((s,d)::r) t=lk (s == t) d r t:=by
 by_cases h : s=t
 ·subst h;simp [ab]
 ·rw [show (s == t)=false by simp [h]];simp [ab,h]
@[simp] theorem Fd {e} : pz [] e=[]:=zR
@[simp] theorem By {t ts e} : pz (t::ts) e=(t,ab e t)::pz ts e:=zR
@[simp] theorem Ax : lu []=[]:=zR
@[simp] theorem xZ {t d r} : lu ((t,d)::r)=bf d++lu r:=zR
@[simp] theorem GA {e ks} : sG e [] ks=ks:=zR
@[simp] theorem Db {e r rs ks} : sG e (r::rs) ks=sG e rs (if (ks.map (·.1)).contains r then ks else ks++[(r,ab e r)]):=zR
def fI (f : Nat -> D) (d : D) (ns : List Nat) (K : List D -> List Nat -> Prop) (_ : Tag K) : Prop:=fd f d ns K
def fk (f : Nat -> D) (d : D) (K : D -> List Nat -> Prop) (_ : Tag K) : Prop:=dD f d K
def oX (f : Nat -> D) (ds : List D) (K : List D -> List Nat -> Prop) (_ : Tag K) : Prop:=kG f ds K
def tW (b n : Nat) (x : D) (K : D -> List Nat -> Prop) (_ : Tag K) : Prop:=match x with
 | .blk sz es=>es.length=n /\ (∀ e ∈ es,∀ c ∈ e,aC c=true) /\ K (.own sz es) [b]
 | _=>False
@[simp] theorem Gp {b n sz es K u} : tW b n (.blk sz es) K u=(es.length=n /\ (∀ e ∈ es,∀ c ∈ e,aC c=true) /\ K (.own sz es) [b]):=zR
theorem dC {f : Nat -> D} {d : D} {K : D -> List Nat -> Prop} {u} (h : aC d=true) : fk f d K u=K d []:=by
 cases d <;> simp [aC] at h <;> simp [fk,dD,aC]
@[simp] theorem C4 {f b k n K u} : fk f (.ref (.r b) k n) K u=(k=0 /\ tW b n (f b) K ⟨⟩):=by
 simp only [fk,dD,tW]
 cases f b <;> rfl
theorem eB {f : Nat -> D} {d : D} {K : List D -> List Nat -> Prop} {u} (h : aC d=true) : fI f d [] K u=K [d] []:=by
 cases d <;> simp [aC] at h <;> simp [fI,fd,dD,aC,eD]
@[simp] theorem Gs {f ds K u} : fI f (.agg ds) [] K u=((∀ c ∈ ds,aC c=true) /\ K ds []):=by simp [fI,fd,eD]
@[simp] theorem Gt {f ds K u} : fI f (.agx ds) [] K u=oX f ds (fun cs bs=>bD bs=true /\ K cs bs) ⟨⟩:=by simp [fI,oX,fd,eD]
@[simp] theorem Gx {f b k n K u} : fI f (.ref (.r b) k n) [] K u=(k=0 /\ tW b n (f b) (fun c bs=>K [c] bs) ⟨⟩):=by
 simp only [fI,fd,dD,tW,eD,if_true,true_or,true_and]
 cases f b <;> rfl
@[simp] theorem C7 {f K u} : oX f [] K u=K [] []:=zR
@[simp] theorem AP {f d ds K u} : oX f (d::ds) K u=fk f d (fun c bs=>oX f ds (fun cs bs'=>K (c::cs) (bs++bs')) ⟨⟩) ⟨⟩:=zR
@[simp] theorem C2 {f k n K u} : fk f (.int k n) K u=K (.int k n) []:=dC rfl
@[simp] theorem Gu {f k n K u} : fI f (.int k n) [] K u=K [.int k n] []:=eB rfl
@[simp] theorem AM {f n K u} : fk f (.bool n) K u=K (.bool n) []:=dC rfl
@[simp] theorem C8 {f n K u} : fI f (.bool n) [] K u=K [.bool n] []:=eB rfl
@[simp] theorem C6 {f n K u} : fk f (.str n) K u=K (.str n) []:=dC rfl
@[simp] theorem Gz {f n K u} : fI f (.str n) [] K u=K [.str n] []:=eB rfl
@[simp] theorem AN {f  K u} : fk f .nilp K u=K .nilp []:=dC rfl
@[simp] theorem C9 {f  K u} : fI f .nilp [] K u=K [.nilp] []:=eB rfl
@[simp] theorem AO {f  K u} : fk f .nils K u=K .nils []:=dC rfl
@[simp] theorem Da {f  K u} : fI f .nils [] K u=K [.nils] []:=eB rfl
@[simp] theorem Gr {f n K u} : fk f (.sl n) K u=K (.sl n) []:=dC rfl
@[simp] theorem LI {f n K u} : fI f (.sl n) [] K u=K [.sl n] []:=eB rfl
@[simp] theorem C3 {f n K u} : fk f (.ptr n) K u=K (.ptr n) []:=dC rfl
@[simp] theorem Gw {f n K u} : fI f (.ptr n) [] K u=K [.ptr n] []:=eB rfl
@[simp] theorem Gq {f g n K u} : fk f (.fn g n) K u=K (.fn g n) []:=dC rfl
@[simp] theorem LH {f g n K u} : fI f (.fn g n) [] K u=K [.fn g n] []:=eB rfl
@[simp] theorem C5 {f b n K u} : fk f (slx b n) K u=K (slx b n) []:=dC (by simp)
@[simp] theorem Gy {f b n K u} : fI f (slx b n) [] K u=K [slx b n] []:=eB (by simp)
def oH (f : Nat -> D) (sz : Nat) (ps : List (Nat × Opd)) (es : List (List D)) (bs : List Nat) (K : List (List D) -> List Nat -> Prop) (_ : Tag K) : Prop:=eg f sz [] ps es bs K
@[simp] theorem Cw {f sz es bs K u} : oH f sz [] es bs K u=K es bs:=zR
@[simp] theorem Aw {f sz i x ps es bs K u} : oH f sz ((i,x)::ps) es bs K u=(i < es.length /\ fI f (vd f x) [] (fun cs bs'=>cs.length=sz /\ oH f sz ps (es.set i cs) (bs++bs') K ⟨⟩) ⟨⟩):=zR
def ia (f : Nat -> D) (mv : Bool) (d : D) (sz : Nat) (K : List (List D) -> List Nat -> Prop) (_ : Tag K) : Prop:=ez f mv d sz K
def CB (b n sz : Nat) (x : D) (K : List (List D) -> List Nat -> Prop) (_ : Tag K) : Prop:=match x with
 | .blk sz' es=>sz'=sz /\ es.length=n /\ (∀ e ∈ es,∀ c ∈ e,isC c=true) /\ K es [b]
 | _=>False
@[simp] theorem Le {b n sz sz' es K u} : CB b n sz (.blk sz' es) K u=(sz'=sz /\ es.length=n /\ (∀ e ∈ es,∀ c ∈ e,isC c=true) /\ K es [b]):=zR
def CD (k n sz : Nat) (x : Option (Nat × List (List D))) (K : List (List D) -> List Nat -> Prop) (_ : Tag K) : Prop:=match x with
 | some (sz',es)=>sz'=sz /\ k + n <= es.length /\ (∀ e ∈ (es.drop k).take n,∀ c ∈ e,aC c=true) /\ K ((es.drop k).take n) []
 | none=>False
@[simp] theorem Gd {k n sz sz' es K u} : CD k n sz (some (sz',es)) K u=(sz'=sz /\ k + n <= es.length /\ (∀ e ∈ (es.drop k).take n,∀ c ∈ e,aC c=true) /\ K ((es.drop k).take n) []):=zR
@[simp] theorem CE {f mv sz K u} : ia f mv .nils sz K u=K [] []:=zR
@[simp] theorem Ll {f mv es sz K u} : ia f mv (.sl es) sz K u=((∀ e ∈ es,e.length=sz /\ ∀ c ∈ e,aC c=true) /\ K es []):=zR
@[simp] theorem Gh {f mv b es sz K u} : ia f mv (slx b es) sz K u=((∀ e ∈ es,e.length=sz /\ ∀ c ∈ e,aC c=true) /\ K es []):=by
 rcases eM b es with h | ⟨h,rfl⟩ <;> rw [h] <;> simp
@[simp] theorem Lk {f b k n sz K u} : ia f true (.ref (.r b) k n) sz K u=(k=0 /\ CB b n sz (f b) K ⟨⟩):=by
 simp only [ia,ez,CB]
 cases f b <;> rfl
@[simp] theorem Gg {f p k n sz K u} : ia f false (.ref p k n) sz K u=CD k n sz (bm f p) K ⟨⟩:=by
 simp only [ia,ez,CD]
 cases bm f p <;> rfl
def dE (f : Nat -> D) (o : Option Opd) (dflt : Nat) (K : Nat -> Prop) (_ : Tag K) : Prop:=dO f o dflt K
def GP (d : D) (K : Nat -> Prop) (_ : Tag K) : Prop:=match d with
 | .int _ n=>0 <= n /\ K n.toNat
 | _=>False
@[simp] theorem GQ {k n K u} : GP (.int k n) K u=(0 <= n /\ K n.toNat):=zR
@[simp] theorem yN {f n K u} : dE f none n K u=K n:=zR
@[simp] theorem yO {f x n K u} : dE f (some x) n K u=GP (vd f x) K ⟨⟩:=zR
def iJ (x : Option (List D)) (K : List D -> Prop) (_ : Tag K) : Prop:=match x with
 | some r=>K r
 | none=>False
@[simp] theorem Gf {r K u} : iJ (some r) K u=K r:=zR
@[simp] theorem Ge {K u} : iJ none K u=False:=zR
theorem iw {x : Option (List D)} {K : List D -> Prop} {u} : iJ x K u=∃ r,x=some r /\ K r:=by
 cases x <;> simp [iJ]
def ml (x : Option D) (K : Nat -> List (List D) -> Prop) (_ : Tag K) : Prop:=match x with
 | some (.own sz es)=>K sz es
 | _=>False
@[simp] theorem KV {sz es K u} : ml (some (.own sz es)) K u=K sz es:=zR
theorem lq {x : Option D} {K : Nat -> List (List D) -> Prop} {u} : ml x K u=∃ sz es,x=some (.own sz es) /\ K sz es:=by
 cases x with
 | none=>simp [ml]
 | some d =>
  cases d <;> simp [ml]
  exact ⟨fun h=>⟨_,_,⟨rfl,rfl⟩,h⟩,by rintro ⟨_,_,⟨rfl,rfl⟩,h⟩;exact h⟩
def wK (x : Option D) (K : D -> Prop) (_ : Tag K) : Prop:=match x with
 | some d=>K d
 | none=>False
@[simp] theorem DI {d K u} : wK (some d) K u=K d:=zR
theorem wL {x : Option D} {K : D -> Prop} {u} : wK x K u=∃ d,x=some d /\ K d:=by
 cases x <;> simp [wK]
def d5 (x : D) (K : Nat -> List (List D) -> Prop) (_ : Tag K) : Prop:=match x with
 | .blk sz es=>K sz es
 | _=>False
@[simp] theorem GO {sz es K u} : d5 (.blk sz es) K u=K sz es:=zR
abbrev CC:=Nat -> List D -> D -> List D -> Prop
abbrev KT:=List (Nat × D) -> List (Nat × Bool) -> Prop
section
variable {C : CC} {Q : cj -> Env -> Prop} {e e' : Env} {d : D}
def wN (C : CC) (c : dB) (Q : cj -> Env -> Prop) (_ : Tag (c,Q)) (e : Env) : Prop:=wpN C c Q e
def zV (C : CC) (c : dB) (Q : cj -> Env -> Prop) (_ : Tag (c,Q)) (e : Env) : Prop:=wpN C (.loop c) Q e
def tn (C : CC) (K : Env -> Prop) (ns : List ar) (_ : Tag (K,ns)) (e : Env) : Prop:=i6 C K ns e
def qU (C : CC) (hs : List Nat) (K : Env -> Prop) (ns : List ar) (_ : Tag (K,ns)) (e : Env) (acc : List (List Nat × List Nat)) : Prop:=kD C hs K ns e acc
def Ii (hs : List Nat) (acc : List (List Nat × List Nat)) : Prop:=jo hs acc.reverse=true
theorem ai {hs : List Nat} {acc : List (List Nat × List Nat)} (h : jo hs acc.reverse=true) : Ii hs acc:=h
def zG (C : CC) (K : Env -> Prop) (ns : List ar) (e : Env) : KT:=fun ws ks=>i6 C K ns (ws++dJ ks e)
def G5 (C : CC) (hs : List Nat) (K : Env -> Prop) (ns : List ar) (e : Env) (R : List Nat) (acc : List (List Nat × List Nat)) : KT:=fun ws ks=>wOk R ws ks=true /\ kD C hs K ns (ws++dJ ks e) ((R,wrK ws ks)::acc)
def bI (Q : cj -> Env -> Prop) (_ : Tag Q) (t : cj) (e : Env) : Prop:=Q t e
def fin (res : List (Nat × Option (Nat × Bool))) (d : D) : cj -> Env -> Prop:=fun t e=>(match t with
   | .ext _=>False
   | _=>True) /\ ew res d e
def yf (C : CC) (y : dB) (Q : cj -> Env -> Prop) : cj -> Env -> Prop:=fun t e'=>match t with
  | .nrm=>wpN C y Q e'
  | t=>Q t e'
def nW (id : Nat) (Q : cj -> Env -> Prop) : cj -> Env -> Prop:=fun t e'=>match t with
  | .ext i=>if i=id then Q .nrm e' else Q (.ext i) e'
  | t=>Q t e'
def xX (keep : List Nat) (Q : cj -> Env -> Prop) : Env -> Prop:=fun e'=>Q .nrm (prune keep e')
def kOf (C : CC) (hs : Option (List Nat)) (K : Env -> Prop) (ns : List ar) (e : Env) (R : List Nat) (acc : List (List Nat × List Nat)) : KT :=
 match hs with
 | none=>zG C K ns e
 | some hs=>G5 C hs K ns e R acc
def doW (C : CC) (hs : Option (List Nat)) (K : Env -> Prop) (ns : List ar) (_ : Tag (hs,K,ns)) (e : Env) (R : List Nat) (acc : List (List Nat × List Nat)) (ws : List (Nat × D)) (ks : List (Nat × Bool)) : Prop:=kOf C hs K ns e R acc ws ks
def opW (C : CC) (hs : Option (List Nat)) (K : Env -> Prop) (ns : List ar) (dst : Option Nat) (op : NOp) (_ : Tag (hs,K,ns,dst,op)) (e : Env) (R : List Nat) (acc : List (List Nat × List Nat)) : Prop:=aD C (ab e) dst (kOf C hs K ns e R acc) op
def dW (C : CC) (hs : Option (List Nat)) (K : Env -> Prop) (ns : List ar) (dst : Option Nat) (_ : Tag (hs,K,ns)) (e : Env) (R : List Nat) (acc : List (List Nat × List Nat)) (d : D) : Prop:=dR dst (kOf C hs K ns e R acc) d
def o7 (C : CC) (g : Nat) (hs : Option (List Nat)) (K : Env -> Prop) (ns : List ar) (dst : Option Nat) (_ : Tag (hs,K,ns)) (e : Env) (R : List Nat) (acc : List (List Nat × List Nat)) (pure : Bool) (ds : List D) : Prop :=
 ∃ d,C g ds d [] /\ (isF d=true \/ pure=true) /\ dR dst (kOf C hs K ns e R acc) d
theorem aE {prog : Nat -> Option aI} (hC : aq prog C) {g : Nat} {nf : aI} {ds : List D} (hp : prog g=some nf) (hl : ds.length=nf.np) (h : wN C nf.body (fin nf.res d) ⟨⟩ (params 0 ds)) : C g ds d []:=hC.1.1 g nf ds d hp hl h
def qo (res : List (Nat × Option (Nat × Bool))) (sz : Nat) (es : List (List D)) : cj -> Env -> Prop:=fun t e=>(match t with
   | .ext _=>False
   | _=>True) /\ iY res sz es e
theorem oQ {prog : Nat -> Option aI} (hC : aq prog C) {g : Nat} {nf : aI} {ds : List D} {sz : Nat} {es : List (List D)} (hp : prog g=some nf) (hl : ds.length=nf.np) (h : wN C nf.body (qo nf.res sz es) ⟨⟩ (params 0 ds)) : C g ds .any [.own sz es]:=hC.1.2.2.1 g nf ds sz es hp hl h
def s5 (res : List (Nat × Option (Nat × Bool))) (d : D) : cj -> Env -> Prop:=fun t e=>(match t with
   | .ext _=>False
   | _=>True) /\ iX res d e
def qp (res : List (Nat × Option (Nat × Bool))) (d : D) (sz : Nat) (es' : List (List D)) : cj -> Env -> Prop:=fun t e=>(match t with
   | .ext _=>False
   | _=>True) /\ (0 < es'.length /\ ab e 10015=.blk sz es') /\ ew res d ((10015,.any)::e)
theorem gj {prog : Nat -> Option aI} (hC : fW prog C) {g : Nat} {nf : aI} {W : List D} {d : D} {sz : Nat} {es es' : List (List D)} (hp : prog g=some nf) (hl : W.length=nf.np) (h : wN C nf.body (qp nf.res d sz es') ⟨⟩ (params 0 W++[(10015,.blk sz es)])) : C g (.blk sz es::W) d [.blk sz es',.nilp]:=hC.2.2.2.2.2.1 g nf W d sz es es' hp hl h
def s6 (res : List (Nat × Option (Nat × Bool))) (sz : Nat) (es : List (List D)) : cj -> Env -> Prop:=fun t e=>(match t with
   | .ext _=>False
   | _=>True) /\ iZ res sz es e
def s4 (res : List (Nat × Option (Nat × Bool))) (R : D) : cj -> Env -> Prop:=fun t e=>(match t with
   | .ext _=>False
   | _=>True) /\ pT res R e
def ua (C : CC) (g : Nat) (hs : Option (List Nat)) (K : Env -> Prop) (ns : List ar) (t : Nat) (_ : Tag (hs,K,ns)) (e : Env) (R : List Nat) (acc : List (List Nat × List Nat)) (ds : List D) : Prop :=
 ∃ sz es,C g ds .any [.own sz es] /\ kOf C hs K ns e R acc [(t,.ref (.r (rt t 0)) 0 es.length),(rt t 0,.blk sz es)] [(rt t 0,true)]
theorem il {g : Nat} {hs : Option (List Nat)} {K : Env -> Prop} {ns : List ar} {t : Nat} {u : Tag (hs,K,ns)} {R : List Nat} {acc : List (List Nat × List Nat)} {ds : List D} {sz : Nat} {es : List (List D)} (h : C g ds .any [.own sz es]) (hk : doW C hs K ns ⟨⟩ e R acc [(t,.ref (.r (rt t 0)) 0 es.length),(rt t 0,.blk sz es)] [(rt t 0,true)]) : ua C g hs K ns t u e R acc ds:=⟨sz,es,h,hk⟩
def qf (C : CC) (g : Nat) (hs : Option (List Nat)) (K : Env -> Prop) (ns : List ar) (dst : Option Nat) (_ : Tag (hs,K,ns)) (e : Env) (R : List Nat) (acc : List (List Nat × List Nat)) (b sz : Nat) (es : List (List D)) (ds : List D) (p : Bool) : Prop:=match dst with
 | none=>∃ es' : List (List D),es'.length=es.length /\ (∀ e ∈ es',e.length=sz /\ ∀ c ∈ e,aC c=true) /\ (p=true \/ ∀ e ∈ es',∀ c ∈ e,aW c=true) /\ C g (.own sz es::ds) .any [.own sz es',.nilp] /\ doW C hs K ns ⟨⟩ e R acc [(b,.blk sz es')] []
 | some t=>(∃ es' : List (List D),es'.length=es.length /\ (∀ e ∈ es',e.length=sz /\ ∀ c ∈ e,aC c=true) /\ (p=true \/ ∀ e ∈ es',∀ c ∈ e,aW c=true) /\ C g (.own sz es::ds) .any [.own sz es',.nilp] /\ doW C hs K ns ⟨⟩ e R acc [(t,.tup []),(b,.blk sz es')] []) \/ (b ≠ rt t 0 /\ 0 < sz /\ ∃ es' : List (List D),(∀ e ∈ es',e.length=sz /\ ∀ c ∈ e,aC c=true) /\ (p=true \/ ∀ e ∈ es',∀ c ∈ e,aW c=true) /\ C g (.own sz es::ds) .any [.own sz es',.nils] /\ doW C hs K ns ⟨⟩ e R acc [(t,.ref (.r (rt t 0)) 0 es'.length),(rt t 0,.blk sz es'),(b,.any)] [(rt t 0,true)])
theorem sO {t : Nat} {g : Nat} {hs : Option (List Nat)} {K : Env -> Prop} {ns : List ar} {u : Tag (hs,K,ns)} {R : List Nat} {acc : List (List Nat × List Nat)} {b sz : Nat} {es es' : List (List D)} {ds : List D} {p : Bool} (h : C g (.own sz es::ds) .any [.own sz es',.nilp]) (hp : (p=true \/ ∀ e ∈ es',∀ c ∈ e,aW c=true)) (hl : es'.length=es.length) (hu : (∀ e ∈ es',e.length=sz /\ ∀ c ∈ e,aC c=true)) (hk : doW C hs K ns ⟨⟩ e R acc [(t,.tup []),(b,.blk sz es')] []) : qf C g hs K ns (some t) u e R acc b sz es ds p:=.inl ⟨es',hl,hu,hp,h,hk⟩
def CT (C : CC) (g : Nat) (hs : Option (List Nat)) (K : Env -> Prop) (ns : List ar) (dst : Option Nat) (_ : Tag (hs,K,ns)) (e : Env) (R : List Nat) (acc : List (List Nat × List Nat)) (b n : Nat) (xs : List Opd) (d : D) : Prop:=match d with
 | .blk sz es=>es.length=n /\ (∀ e ∈ es,∀ c ∈ e,aC c=true) /\ (∀ x ∈ xs,bv (fbE (ab e) b) (vd (fbE (ab e) b) x)) /\ qf C g hs K ns dst ⟨⟩ e R acc b sz es (xs.map (dpv (fbE (ab e) b))) (xs.all fun y=>isV (vd (fbE (ab e) b) y))
 | _=>False
def Lz (C : CC) (g : Nat) (hs : Option (List Nat)) (K : Env -> Prop) (ns : List ar) (dst : Option Nat) (_ : Tag (hs,K,ns)) (e : Env) (R : List Nat) (acc : List (List Nat × List Nat)) (xs : List Opd) (d : D) : Prop:=match d with
 | .ref (.r b) k n=>k=0 /\ CT C g hs K ns dst ⟨⟩ e R acc b n xs (ab e b)
 | _=>False
@[simp] theorem Rf {f : Nat -> D} {b t : Nat} : fbE f b t=if t=b then .any else f t:=zR
theorem aa {g : Nat} {hs : Option (List Nat)} {K : Env -> Prop} {ns : List ar} {dst : Option Nat} {u : Tag (hs,K,ns)} {R : List Nat} {acc : List (List Nat × List Nat)} {p : Bool} {ds : List D} (h : C g ds d []) (hf : isF d=true \/ p=true) (hk : dW C hs K ns dst ⟨⟩ e R acc d) : o7 C g hs K ns dst u e R acc p ds:=⟨d,h,hf,hk⟩
def oM (S : Type) (G : S -> Env) (I : S -> Prop) (m : S -> Nat) (s : S) (Q : cj -> Env -> Prop) : cj -> Env -> Prop:=fun t e'=>match t with
    | .nrm=>∃ s',I s' /\ m s' < m s /\ jM e' (G s')
    | t=>Q t e'
theorem az {c : dB} {u : Tag (c,Q)} (S : Type) (G : S -> Env) (I : S -> Prop) (m : S -> Nat) (s0 : S) (h0 : I s0) (hw : jM e (G s0))
  (h : ∀ s,I s -> wN C c (oM S G I m s Q) ⟨⟩ (G s)) : zV C c Q u e:=⟨S,G,I,m,s0,h0,hw,h⟩
@[simp] theorem QG {u} : wN C .skip Q u e=bI Q ⟨⟩ .nrm e:=zR
@[simp] theorem R9 {hs keep ops u} : wN C (.reg false hs keep ops) Q u e=tn C (xX keep Q) ops ⟨⟩ e:=zR
@[simp] theorem QD {hs keep ops u} : wN C (.reg true hs keep ops) Q u e=qU C hs (xX keep Q) ops ⟨⟩ e []:=zR
@[simp] theorem Sb {x y u} : wN C (.seq x y) Q u e=wN C x (yf C y Q) ⟨⟩ e:=zR
def brB (b : Bool) (X Y : Prop) (_ : Tag (X,Y)) : Prop:=(b=true -> X) /\ (b=false -> Y)
theorem al {b : Bool} {X Y : Prop} {u} (h1 : b=true -> X) (h2 : b=false -> Y) : brB b X Y u:=⟨h1,h2⟩
@[simp] theorem GX {X Y : Prop} {u} : brB true X Y u=X:=by simp [brB]
@[simp] theorem DH {X Y : Prop} {u} : brB false X Y u=Y:=by simp [brB]
def cdW (C : CC) (x y : dB) (Q : cj -> Env -> Prop) (_ : Tag (x,y,Q)) (e : Env) (d : D) : Prop:=match d with
 | .bool b=>brB b (wN C x Q ⟨⟩ e) (wN C y Q ⟨⟩ e) ⟨⟩
 | .bb=>wN C x Q ⟨⟩ e /\ wN C y Q ⟨⟩ e
 | _=>False
@[simp] theorem QL {x y u} : cdW C x y Q u e .bb=(wN C x Q ⟨⟩ e /\ wN C y Q ⟨⟩ e):=zR
@[simp] theorem GY {x y u b} : cdW C x y Q u e (.bool b)=brB b (wN C x Q ⟨⟩ e) (wN C y Q ⟨⟩ e) ⟨⟩:=zR
@[simp] theorem QC {c x y u} : wN C (.cond c x y) Q u e=cdW C x y Q ⟨⟩ e (vd (ab e) c):=zR
@[simp] theorem LG {id c u} : wN C (.block id c) Q u e=wN C c (nW id Q) ⟨⟩ e:=zR
@[simp] theorem QF {c u} : wN C (.loop c) Q u e=zV C c Q ⟨⟩ e:=zR
@[simp] theorem QE {id u} : wN C (.exit id) Q u e=bI Q ⟨⟩ (.ext id) e:=zR
@[simp] theorem Sa {u} : wN C .ret Q u e=bI Q ⟨⟩ .ret e:=zR
@[simp] theorem xh {y u} : bI (yf C y Q) u .nrm e=wN C y Q ⟨⟩ e:=zR
@[simp] theorem xg {y u i} : bI (yf C y Q) u (.ext i) e=bI Q ⟨⟩ (.ext i) e:=zR
@[simp] theorem xj {y u} : bI (yf C y Q) u .ret e=bI Q ⟨⟩ .ret e:=zR
@[simp] theorem ut {id u} : bI (nW id Q) u .nrm e=bI Q ⟨⟩ .nrm e:=zR
@[simp] theorem ur {id u i} : bI (nW id Q) u (.ext i) e=if i=id then bI Q ⟨⟩ .nrm e else bI Q ⟨⟩ (.ext i) e:=zR
@[simp] theorem uu {id u} : bI (nW id Q) u .ret e=bI Q ⟨⟩ .ret e:=zR
@[simp] theorem wW {r u} : bI (fin r d) u .nrm e=ew r d e:=by simp [bI,fin]
@[simp] theorem wX {r u} : bI (fin r d) u .ret e=ew r d e:=by simp [bI,fin]
@[simp] theorem wt {r d} {u : Tag (s5 r d)} : bI (s5 r d) u .nrm e=iX r d e:=by simp [bI,s5]
@[simp] theorem wu {r d} {u : Tag (s5 r d)} : bI (s5 r d) u .ret e=iX r d e:=by simp [bI,s5]
@[simp] theorem wo {r sz es} {u : Tag (qo r sz es)} : bI (qo r sz es) u .nrm e=iY r sz es e:=by simp [bI,qo]
@[simp] theorem wr {r sz es} {u : Tag (qo r sz es)} : bI (qo r sz es) u .ret e=iY r sz es e:=by simp [bI,qo]
@[simp] theorem wy {r d sz es} {u : Tag (qp r d sz es)} : bI (qp r d sz es) u .nrm e=((0 < es.length /\ ab e 10015=.blk sz es) /\ ew r d ((10015,.any)::e)):=by simp [bI,qp]
@[simp] theorem wz {r d sz es} {u : Tag (qp r d sz es)} : bI (qp r d sz es) u .ret e=((0 < es.length /\ ab e 10015=.blk sz es) /\ ew r d ((10015,.any)::e)):=by simp [bI,qp]
@[simp] theorem wv {r sz es} {u : Tag (s6 r sz es)} : bI (s6 r sz es) u .nrm e=iZ r sz es e:=by simp [bI,s6]
@[simp] theorem wx {r sz es} {u : Tag (s6 r sz es)} : bI (s6 r sz es) u .ret e=iZ r sz es e:=by simp [bI,s6]
@[simp] theorem wm {r d} {u : Tag (s4 r d)} : bI (s4 r d) u .nrm e=pT r d e:=by simp [bI,s4]
@[simp] theorem wn {r d} {u : Tag (s4 r d)} : bI (s4 r d) u .ret e=pT r d e:=by simp [bI,s4]
@[simp] theorem uw {S G I m s u} : bI (oM S G I m s Q) u .nrm e=∃ s',I s' /\ m s' < m s /\ jM e (G s'):=zR
@[simp] theorem uv {S G I m s u i} : bI (oM S G I m s Q) u (.ext i) e=bI Q ⟨⟩ (.ext i) e:=zR
@[simp] theorem ux {S G I m s u} : bI (oM S G I m s Q) u .ret e=bI Q ⟨⟩ .ret e:=zR
end
section
variable {C : CC} {Q : cj -> Env -> Prop} {e : Env} {K : Env -> Prop} {dst : Option Nat} {d : D} {hs : Option (List Nat)} {ns : List ar} {R : List Nat} {acc : List (List Nat × List Nat)} {u : Tag (hs,K,ns)}
@[simp] theorem KS {keep u} : tn C (xX keep Q) [] u e=bI Q ⟨⟩ .nrm (prune keep e):=zR
@[simp] theorem KR {h keep u} : qU C h (xX keep Q) [] u e acc=(Ii h acc /\ bI Q ⟨⟩ .nrm (prune keep e)):=zR
@[simp] theorem F6 {dst op ns u} : tn C K (⟨dst,op,none⟩::ns) u e=opW C none K ns dst op ⟨⟩ e [] []:=zR
@[simp] theorem F4 {h dst op ns u} : qU C h K (⟨dst,op,none⟩::ns) u e acc=(chk (ab e) ⟨dst,op,none⟩=true /\ opW C (some h) K ns dst op ⟨⟩ e (gG (ab e) ⟨dst,op,none⟩) acc):=zR
def mK (C : CC) (h : List Nat) (K : Env -> Prop) (ns : List ar) (_ : Tag (h,K,ns)) (e : Env) (dst : Option Nat) (R : List Nat) (acc : List (List Nat × List Nat)) : Prop:=iL e dst fun e'=>kD C h K ns e' ((R,sU dst)::acc)
@[simp] theorem CI {h t ns u} : mK C h K ns u e (some t) R acc=qU C h K ns ⟨⟩ ((t,.tup [])::e) ((R,[4 * t])::acc):=zR
@[simp] theorem CH {h ns u} : mK C h K ns u e none R acc=qU C h K ns ⟨⟩ e ((R,[])::acc):=zR
def gdT (C : CC) (K : Env -> Prop) (ns : List ar) (dst : Option Nat) (op : NOp) (s : Nat) (want : Bool) (_ : Tag (K,ns)) (e : Env) (d : D) : Prop:=match d with
 | .bool b=>(b=want -> opW C none K ns dst op ⟨⟩ ((s,.bool want)::e) [] []) /\ (b=!want -> dW C none K ns dst ⟨⟩ ((s,.bool !want)::e) [] [] (.tup []))
 | .tup []=>dW C none K ns dst ⟨⟩ e [] [] (.tup [])
 | _=>False
@[simp] theorem HQ {op s b u} : gdT C K ns dst op s true u e (.bool b)=brB b (opW C none K ns dst op ⟨⟩ ((s,.bool true)::e) [] []) (dW C none K ns dst ⟨⟩ ((s,.bool false)::e) [] [] (.tup [])) ⟨⟩:=zR
@[simp] theorem Ez {op s b u} : gdT C K ns dst op s false u e (.bool b)=brB b (dW C none K ns dst ⟨⟩ ((s,.bool true)::e) [] [] (.tup [])) (opW C none K ns dst op ⟨⟩ ((s,.bool false)::e) [] []) ⟨⟩:=by
 simp only [gdT,brB,Bool.not_false];exact propext ⟨fun h=>⟨h.2,h.1⟩,fun h=>⟨h.2,h.1⟩⟩
@[simp] theorem HP {op s want u} : gdT C K ns dst op s want u e (.tup [])=dW C none K ns dst ⟨⟩ e [] [] (.tup []):=zR
@[simp] theorem F7 {dst op s want ns u} : tn C K (⟨dst,op,some (s,want)⟩::ns) u e=gdT C K ns dst op s want ⟨⟩ e (ab e s):=by
 simp only [tn,i6,opW,p9,iL,gdT,dW,dR,kOf,zG,dJ]
 cases ab e s <;> cases dst <;> (first | rfl | (rename_i x _ ;cases x <;> rfl) | (rename_i x;cases x <;> rfl))
def gdD (C : CC) (h : List Nat) (K : Env -> Prop) (ns : List ar) (dst : Option Nat) (op : NOp) (want : Bool) (_ : Tag (K,ns)) (e : Env) (R : List Nat) (acc : List (List Nat × List Nat)) (d : D) : Prop:=match d with
 | .bool b=>(b=want -> opW C (some h) K ns dst op ⟨⟩ e R acc) /\ (b=!want -> mK C h K ns ⟨⟩ e dst R acc)
 | .tup []=>mK C h K ns ⟨⟩ e dst R acc
 | _=>False
@[simp] theorem HO {h op b u} : gdD C h K ns dst op true u e R acc (.bool b)=brB b (opW C (some h) K ns dst op ⟨⟩ e R acc) (mK C h K ns ⟨⟩ e dst R acc) ⟨⟩:=zR
@[simp] theorem Ey {h op b u} : gdD C h K ns dst op false u e R acc (.bool b)=brB b (mK C h K ns ⟨⟩ e dst R acc) (opW C (some h) K ns dst op ⟨⟩ e R acc) ⟨⟩:=by
 simp only [gdD,brB,Bool.not_false];exact propext ⟨fun h=>⟨h.2,h.1⟩,fun h=>⟨h.2,h.1⟩⟩
@[simp] theorem HN {h op want u} : gdD C h K ns dst op want u e R acc (.tup [])=mK C h K ns ⟨⟩ e dst R acc:=zR
@[simp] theorem F5 {h dst op s want ns u} : qU C h K (⟨dst,op,some (s,want)⟩::ns) u e acc=(chk (ab e) ⟨dst,op,some (s,want)⟩=true /\ gdD C h K ns dst op want ⟨⟩ e (gG (ab e) ⟨dst,op,some (s,want)⟩) acc (ab e s)):=zR
@[simp] theorem Hb {K ns u ws ks} : doW C none K ns u e R acc ws ks=tn C K ns ⟨⟩ (ws++dJ ks e):=zR
@[simp] theorem Ha {h K ns u ws ks} : doW C (some h) K ns u e R acc ws ks=(wOk R ws ks=true /\ qU C h K ns ⟨⟩ (ws++dJ ks e) ((R,wrK ws ks)::acc)):=zR
@[simp] theorem LW {t} : dW C hs K ns (some t) u e R acc d=doW C hs K ns ⟨⟩ e R acc [(t,d)] []:=zR
@[simp] theorem LV : dW C hs K ns none u e R acc d=doW C hs K ns ⟨⟩ e R acc [] []:=zR
def aS (ks : List (Nat × Bool)) (d : D) : D:=if aF ks d then .any else d
theorem bz (ks : List (Nat × Bool)) (d : D) : aS ks d=bif aF ks d then .any else d:=by
 unfold aS;cases aF ks d <;> rfl
@[simp] theorem FC : dJ [] e=e:=zR
@[simp] theorem FB {k ks} : dJ (k::ks) []=[]:=zR
@[simp] theorem BE {k ks s d} : dJ (k::ks) ((s,d)::e)=(s,aS (k::ks) d)::dJ (k::ks) e:=zR
@[simp] theorem Fh {ks} : aS ks .any=.any:=by simp [aS]
@[simp] theorem Fp {ks k n} : aS ks (.int k n)=.int k n:=by simp [aS,aF,cC,aA]
@[simp] theorem BB {ks n} : aS ks (.bool n)=.bool n:=by simp [aS,aF,cC,aA]
@[simp] theorem Fy {ks n} : aS ks (.str n)=.str n:=by simp [aS,aF,cC,aA]
@[simp] theorem JS {ks} : aS ks .bb=.bb:=by simp [aS,aF,cC,aA]
@[simp] theorem BC {ks} : aS ks .nilp=.nilp:=by simp [aS,aF,cC,aA]
@[simp] theorem BD {ks} : aS ks .nils=.nils:=by simp [aS,aF,cC,aA]
@[simp] theorem Ff {ks n} : aS ks (.agg n)=.agg n:=by simp [aS,aF,cC,aA]
@[simp] theorem FA {ks n} : aS ks (.tup n)=.tup n:=by simp [aS,aF,cC,aA]
@[simp] theorem JV {ks n} : aS ks (.sl n)=.sl n:=by simp [aS,aF,cC,aA]
@[simp] theorem Fs {ks n} : aS ks (.ptr n)=.ptr n:=by simp [aS,aF,cC,aA]
@[simp] theorem JT {ks g n} : aS ks (.fn g n)=.fn g n:=by simp [aS,aF,cC,aA]
@[simp] theorem Fi {ks g n} : aS ks (.blk g n)=.blk g n:=by simp [aS,aF,cC,aA]
@[simp] theorem JU {ks kt et xs vs} : aS ks (.mp kt et xs vs)=.mp kt et xs vs:=by simp [aS,aF,cC,aA]
@[simp] theorem Fu {b all ks p k n} : aS ((b,all)::ks) (.ref p k n)=if bg b all p then .any else aS ks (.ref p k n):=by
 have h : aS ((b,all)::ks) (.ref p k n)=bif (bg b all p || aF ks (.ref p k n)) then .any else .ref p k n:=bz ..
 rw [h,bz]
 cases bg b all p <;> rfl
@[simp] theorem Fe {b all ks p k n} : aS ((b,all)::ks) (.adr p k n)=if bg b all p then .any else aS ks (.adr p k n):=by
 have h : aS ((b,all)::ks) (.adr p k n)=bif (bg b all p || aF ks (.adr p k n)) then .any else .adr p k n:=bz ..
 rw [h,bz]
 cases bg b all p <;> rfl
@[simp] theorem Fg {b all ks n} : aS ((b,all)::ks) (.agx n)=if n.any (aA b all) then .any else aS ks (.agx n):=by
 have h : aS ((b,all)::ks) (.agx n)=bif (n.any (aA b all) || aF ks (.agx n)) then .any else .agx n:=bz ..
 rw [h,bz]
 cases n.any (aA b all) <;> rfl
@[simp] theorem Fj {b all ks g n} : aS ((b,all)::ks) (.fnx g n)=if n.any (aA b all) then .any else aS ks (.fnx g n):=by
 have h : aS ((b,all)::ks) (.fnx g n)=bif (n.any (aA b all) || aF ks (.fnx g n)) then .any else .fnx g n:=bz ..
 rw [h,bz]
 cases n.any (aA b all) <;> rfl
@[simp] theorem Fn {ks T n} : aS ks (.ifi T n)=.ifi T n:=by simp [aS,aF,cC,aA]
@[simp] theorem Fw {ks q n} : aS ks (.slv q n)=.slv q n:=by simp [aS,aF,cC,aA]
@[simp] theorem Fm {b all ks T p k n} : aS ((b,all)::ks) (.ifa T p k n)=if bg b all p then .any else aS ks (.ifa T p k n):=by
 have h : aS ((b,all)::ks) (.ifa T p k n)=bif (bg b all p || aF ks (.ifa T p k n)) then .any else .ifa T p k n:=bz ..
 rw [h,bz]
 cases bg b all p <;> rfl
@[simp] theorem Fk {b all ks g ds cs} : aS ((b,all)::ks) (.fny g ds cs)=if ds.any (aA b all) || cs.any (aA b all) then .any else aS ks (.fny g ds cs):=by
 have h : aS ((b,all)::ks) (.fny g ds cs)=bif ((ds.any (aA b all) || cs.any (aA b all)) || aF ks (.fny g ds cs)) then .any else .fny g ds cs:=bz ..
 rw [h,bz]
 cases ds.any (aA b all) <;> cases cs.any (aA b all) <;> rfl
@[simp] theorem Fr {d} : aS [] d=d:=by simp [aS,aF]
@[simp] theorem Fx {ks b es} : aS ks (slx b es)=slx b es:=by cases b <;> cases es <;> simp [slx]
def gr (C : CC) (hs : Option (List Nat)) (K : Env -> Prop) (ns : List ar) (dst : Option Nat) (_ : Tag (hs,K,ns)) (e : Env) (R : List Nat) (acc : List (List Nat × List Nat)) (sz : Nat) (es : List (List D)) (i : Nat) : Prop :=
 ∃ c,es[i]? = some c /\ c.length=sz /\ dR dst (kOf C hs K ns e R acc) (.ptr c)
@[simp] theorem Ig {α : Type} [Inhabited α] {sz : Nat} {xs : List α} {f : α -> List D} {i : Nat} : gr C hs K ns dst u e R acc sz (xs.map f) i=(i < xs.length /\ (f xs[i]!).length=sz /\ dW C hs K ns dst ⟨⟩ e R acc (.ptr (f xs[i]!))):=by
 apply propext
 unfold gr dW
 constructor
 ·rintro ⟨c,h,h1,h2⟩
  rw [x0y,x0h] at h
  obtain ⟨x,hx,rfl⟩:=h
  obtain ⟨hi,rfl⟩:=x0c.1 hx
  rw [x01 xs i hi]
  exact ⟨hi,h1,h2⟩
 ·rintro ⟨hi,h1,h2⟩
  rw [x01 xs i hi] at h1 h2
  exact ⟨_,by rw [x0y,x0d hi];rfl,h1,h2⟩
def kw (C : CC) (hs : Option (List Nat)) (K : Env -> Prop) (ns : List ar) (dst : Option Nat) (_ : Tag (hs,K,ns)) (e : Env) (R : List Nat) (acc : List (List Nat × List Nat)) (n : Nat) (ag : Bool) (p : Pa) (es : List (List D)) (i off : Nat) : Prop :=
 ∃ r,es[i]? = some r /\ off + n <= r.length /\ match ag with
    | true=>(((r.drop off).take n).all isV=true -> dR dst (kOf C hs K ns e R acc) (.agg ((r.drop off).take n))) /\
      (((r.drop off).take n).all isV=false -> dR dst (kOf C hs K ns e R acc) (.agx (((r.drop off).take n).mapIdx fun j c=>ldc p i (off + j) c)))
    | false=>dR dst (kOf C hs K ns e R acc) (ldc p i off ((r.drop off).headD .any))
theorem oN {n : Nat} {ag : Bool} {p : Pa} {es : List (List D)} {i off : Nat} {r : List D} (hr : es[i]? = some r) (hl : off + n <= r.length) (hk : match ag with
    | true=>(((r.drop off).take n).all isV=true -> dW C hs K ns dst ⟨⟩ e R acc (.agg ((r.drop off).take n))) /\
      (((r.drop off).take n).all isV=false -> dW C hs K ns dst ⟨⟩ e R acc (.agx (((r.drop off).take n).mapIdx fun j c=>ldc p i (off + j) c)))
    | false=>dW C hs K ns dst ⟨⟩ e R acc (ldc p i off ((r.drop off).headD .any))) : kw C hs K ns dst u e R acc n ag p es i off:=by
 refine ⟨r,hr,hl,?_⟩
 cases ag <;> exact hk
@[simp] theorem Lj {n : Nat} {ag : Bool} {p : Pa} {r : List D} {off : Nat} : kw C hs K ns dst u e R acc n ag p [r] 0 off=(off + n <= r.length /\ match ag with
    | true=>(((r.drop off).take n).all isV=true -> dW C hs K ns dst ⟨⟩ e R acc (.agg ((r.drop off).take n))) /\
      (((r.drop off).take n).all isV=false -> dW C hs K ns dst ⟨⟩ e R acc (.agx (((r.drop off).take n).mapIdx fun j c=>ldc p 0 (off + j) c)))
    | false=>dW C hs K ns dst ⟨⟩ e R acc (ldc p 0 off ((r.drop off).headD .any))):=by
 apply propext
 constructor
 ·rintro ⟨r',h1,h2,h3⟩
  simp at h1;subst h1
  refine ⟨h2,?_⟩
  cases ag <;> exact h3
 ·rintro ⟨h2,h3⟩
  refine ⟨r,rfl,h2,?_⟩
  cases ag <;> exact h3
end
section
variable {C : CC} {Q : cj -> Env -> Prop} {e : Env} {K : Env -> Prop} {dst : Option Nat} {hs : Option (List Nat)} {ns : List ar} {R : List Nat} {acc : List (List Nat × List Nat)} {u : Tag (hs,K,ns)}
@[simp] theorem Qi {x v1} : opW C hs K ns dst (.mov x) v1 e R acc=(isS (vd (ab e) x)=true /\ dW C hs K ns dst ⟨⟩ e R acc (vd (ab e) x)):=zR
@[simp] theorem Ql {x v1} : opW C hs K ns dst (.nck x) v1 e R acc=(match (generalizing:=false) vd (ab e) x with
  | .ptr ds=>dW C hs K ns dst ⟨⟩ e R acc (.ptr ds)
  | .adr p i off=>dW C hs K ns dst ⟨⟩ e R acc (.adr p i off)
  | .ptx ds=>dW C hs K ns dst ⟨⟩ e R acc (.ptx ds)
  | _=>False):=zR
@[simp] theorem KQ {c a b v1} : opW C hs K ns dst (.pick c a b) v1 e R acc=(match (generalizing:=false) vd (ab e) c with
  | .bool v=>(v=true -> isS (vd (ab e) a)=true /\ dW C hs K ns dst ⟨⟩ e R acc (vd (ab e) a)) /\ (v=false -> isS (vd (ab e) b)=true /\ dW C hs K ns dst ⟨⟩ e R acc (vd (ab e) b))
  | _=>False):=zR
@[simp] theorem P4 {op x y v1} : opW C hs K ns dst (.bin op x y) v1 e R acc=(match (generalizing:=false) vd (ab e) x,vd (ab e) y with
  | .int k a,.int k' b=>match (generalizing:=false) op with
   | .add=>k=k' /\ dW C hs K ns dst ⟨⟩ e R acc (.int k (k.wrap (a + b)))
   | .sub=>k=k' /\ dW C hs K ns dst ⟨⟩ e R acc (.int k (k.wrap (a - b)))
   | .mul=>k=k' /\ dW C hs K ns dst ⟨⟩ e R acc (.int k (k.wrap (a * b)))
   | .quo=>k=k' /\ b ≠ 0 /\ dW C hs K ns dst ⟨⟩ e R acc (.int k (k.wrap (a.tdiv b)))
   | .rem=>k=k' /\ b ≠ 0 /\ dW C hs K ns dst ⟨⟩ e R acc (.int k (a.tmod b))
   | .and=>k=k' /\ dW C hs K ns dst ⟨⟩ e R acc (.int k (bits .and k a b))
   | .or=>k=k' /\ dW C hs K ns dst ⟨⟩ e R acc (.int k (bits .or k a b))
   | .xor=>k=k' /\ dW C hs K ns dst ⟨⟩ e R acc (.int k (bits .xor k a b))
   | .andNot=>k=k' /\ dW C hs K ns dst ⟨⟩ e R acc (.int k (bits .andNot k a b))
   | .shl=>0 <= b /\ dW C hs K ns dst ⟨⟩ e R acc (.int k (k.wrap (a * 2 ^ (min b.toNat k.bits))))
   | .shr=>0 <= b /\ dW C hs K ns dst ⟨⟩ e R acc (.int k (a.fdiv (2 ^ (min b.toNat k.bits))))
   | .eql=>k=k' /\ dW C hs K ns dst ⟨⟩ e R acc (.bool (decide (a=b)))
   | .neq=>k=k' /\ dW C hs K ns dst ⟨⟩ e R acc (.bool (!decide (a=b)))
   | .lss=>k=k' /\ dW C hs K ns dst ⟨⟩ e R acc (.bool (decide (a < b)))
   | .leq=>k=k' /\ dW C hs K ns dst ⟨⟩ e R acc (.bool (decide (a <= b)))
   | .gtr=>k=k' /\ dW C hs K ns dst ⟨⟩ e R acc (.bool (decide (b < a)))
   | .geq=>k=k' /\ dW C hs K ns dst ⟨⟩ e R acc (.bool (decide (b <= a)))
  | .str a,.str b=>match (generalizing:=false) op with
   | .eql=>dW C hs K ns dst ⟨⟩ e R acc (.bool (decide (a=b)))
   | .neq=>dW C hs K ns dst ⟨⟩ e R acc (.bool (!decide (a=b)))
   | .add=>((a++b).length : Int) <= 9223372036854775807 /\ dW C hs K ns dst ⟨⟩ e R acc (.str (a++b))
   | .lss=>dW C hs K ns dst ⟨⟩ e R acc (.bool (Op.bytesLess a b))
   | .leq=>dW C hs K ns dst ⟨⟩ e R acc (.bool (Op.bytesLess a b || a == b))
   | .gtr=>dW C hs K ns dst ⟨⟩ e R acc (.bool !(Op.bytesLess a b || a == b))
   | .geq=>dW C hs K ns dst ⟨⟩ e R acc (.bool !(Op.bytesLess a b))
   | _=>False
  | _,_=>False):=zR
@[simp] theorem R1 {op x v1} : opW C hs K ns dst (.un op x) v1 e R acc=(match (generalizing:=false) vd (ab e) x with
  | .bool b=>match (generalizing:=false) op with
   | .not=>dW C hs K ns dst ⟨⟩ e R acc (.bool (!b))
   | _=>False
  | .int k n=>match (generalizing:=false) op with
   | .neg=>dW C hs K ns dst ⟨⟩ e R acc (.int k (k.wrap (0 - n)))
   | _=>False
  | _=>False):=zR
@[simp] theorem KJ {k x v1} : opW C hs K ns dst (.conv k x) v1 e R acc=(match (generalizing:=false) vd (ab e) x with
  | .int _ n=>dW C hs K ns dst ⟨⟩ e R acc (.int k (k.wrap n))
  | _=>False):=zR
@[simp] theorem P2 {neg ks x y v1} : opW C hs K ns dst (.beq neg ks x y) v1 e R acc=(match (generalizing:=false) vd (ab e) x,vd (ab e) y with
  | .bool a,.bool b=>ks=[] /\ dW C hs K ns dst ⟨⟩ e R acc (.bool ((a == b) != neg))
  | .agg a,.agg b=>ks ≠ [] /\ match (generalizing:=false) ca ks a b with
   | some r=>dW C hs K ns dst ⟨⟩ e R acc (.bool (r != neg))
   | none=>False
  | .nils,.nils=>ks=[9] /\ dW C hs K ns dst ⟨⟩ e R acc (.bool (!neg))
  | .sl es,.nils=>ks=[9] /\ (0 < es.length -> dW C hs K ns dst ⟨⟩ e R acc (.bool neg)) /\ (es.length=0 -> dW C hs K ns dst ⟨⟩ e R acc .bb)
  | .nilp,.nilp=>ks=[8] /\ dW C hs K ns dst ⟨⟩ e R acc (.bool (!neg))
  | .ptr _,.nilp=>ks=[8] /\ dW C hs K ns dst ⟨⟩ e R acc (.bool neg)
  | _,_=>False):=zR
@[simp] theorem KN {len sz ag x i v1} : opW C hs K ns dst (.idxA len sz ag x i) v1 e R acc=(match (generalizing:=false) vd (ab e) x,vd (ab e) i with
  | .agg ds,.int _ j=>0 <= j /\ j < len /\ j.toNat * sz + sz <= ds.length /\ dW C hs K ns dst ⟨⟩ e R acc (mX ag sz (ds.drop (j.toNat * sz)))
  | .agx ds,.int _ j=>0 <= j /\ j < len /\ j.toNat * sz + sz <= ds.length /\ match (generalizing:=false) ag with
   | true=>dW C hs K ns dst ⟨⟩ e R acc (.agx ((ds.drop (j.toNat * sz)).take sz))
   | false=>dW C hs K ns dst ⟨⟩ e R acc ((ds.drop (j.toNat * sz)).headD .any)
  | _,_=>False):=zR
@[simp] theorem Qm {len sz x v1} : opW C hs K ns dst (.slA len sz x) v1 e R acc=(match (generalizing:=false) vd (ab e) x with
  | .ptr ds=>0 < len /\ 0 < sz /\ len * sz <= ds.length /\ dW C hs K ns dst ⟨⟩ e R acc (.sl (bN sz len ds))
  | _=>False):=zR
@[simp] theorem P9 {x v1} : opW C hs K ns dst (.cvS x) v1 e R acc=(match (generalizing:=false) vd (ab e) x with
  | .sl es=>0 < es.length /\ (∀ r ∈ es,∃ n : Nat,r=[.int .u8 n] /\ n < 256) /\ dW C hs K ns dst ⟨⟩ e R acc (.str (es.map fA))
  | _=>False):=zR
@[simp] theorem Qa {i x v1} : opW C hs K ns dst (.ext i x) v1 e R acc=(match (generalizing:=false) vd (ab e) x with
  | .tup ds=>∃ d,ds[i]? = some d /\ dW C hs K ns dst ⟨⟩ e R acc d
  | .tpx ds=>∃ d,ds[i]? = some d /\ dW C hs K ns dst ⟨⟩ e R acc d
  | _=>False):=zR
@[simp] theorem Qb {off x v1} : opW C hs K ns dst (.fad off x) v1 e R acc=(match (generalizing:=false) vd (ab e) x with
  | .adr p i o=>dW C hs K ns dst ⟨⟩ e R acc (.adr p i (o + off))
  | .ptr ds=>dW C hs K ns dst ⟨⟩ e R acc (.ptr (ds.drop off))
  | .ptx ds=>dW C hs K ns dst ⟨⟩ e R acc (.ptx (ds.drop off))
  | _=>False):=zR
@[simp] theorem KL {len sz x i v1} : opW C hs K ns dst (.iadA len sz x i) v1 e R acc=(match (generalizing:=false) vd (ab e) x,vd (ab e) i with
  | .adr p r o,.int _ j=>0 <= j /\ j < len /\ dW C hs K ns dst ⟨⟩ e R acc (.adr p r (o + j.toNat * sz))
  | .ptr ds,.int _ j=>0 <= j /\ j < len /\ dW C hs K ns dst ⟨⟩ e R acc (.ptr (ds.drop (j.toNat * sz)))
  | _,_=>False):=zR
@[simp] theorem RW {n ag x v1} : opW C hs K ns dst (.ld n ag x) v1 e R acc=(match (generalizing:=false) vd (ab e) x with
  | .adr p i off=>match (generalizing:=false) bm (ab e) p with
   | some (_,es)=>kw C hs K ns dst ⟨⟩ e R acc n ag p es i off
   | none=>False
  | .ptr ds=>n <= ds.length /\ dW C hs K ns dst ⟨⟩ e R acc (mX ag n ds)
  | .ptx ds=>n <= ds.length /\ match (generalizing:=false) ag with
   | true=>((ds.take n).all isV=true -> dW C hs K ns dst ⟨⟩ e R acc (.agg (ds.take n))) /\ ((ds.take n).all isV=false -> dW C hs K ns dst ⟨⟩ e R acc (.agx (ds.take n)))
   | false=>0 < n /\ dW C hs K ns dst ⟨⟩ e R acc (ds.headD .any)
  | _=>False):=zR
@[simp] theorem P5 {zs parts v1} : opW C hs K ns dst (.bld zs parts) v1 e R acc=((∀ p ∈ parts,isS (vd (ab e) p.2.2)=true /\ p.1 + p.2.1 <= zs.length /\ match (generalizing:=false) vd (ab e) p.2.2 with
    | .agg ds=>ds.length=p.2.1
    | .agx ds=>ds.length=p.2.1
    | .any=>False
    | .tpx _=>False
    | .ptx _=>False
    | .rfx _ _ _=>False
    | .fny _ _ _=>False
    | .fnx _ _=>False
    | _=>p.2.1=1) /\
   ((parts.all fun p=>isV (vd (ab e) p.2.2))=true -> dW C hs K ns dst ⟨⟩ e R acc (.agg (gK zs (parts.map fun p=>(p.1,p.2.1,vd (ab e) p.2.2))))) /\
   ((parts.all fun p=>isV (vd (ab e) p.2.2))=false -> dW C hs K ns dst ⟨⟩ e R acc (.agx (gK zs (parts.map fun p=>(p.1,p.2.1,bK (vd (ab e) p.2.2))))))):=zR
@[simp] theorem KO {x v1} : opW C hs K ns dst (.lens x) v1 e R acc=(match (generalizing:=false) vd (ab e) x with
  | .str s=>dW C hs K ns dst ⟨⟩ e R acc (.int .i64 s.length)
  | _=>False):=zR
@[simp] theorem RX {g xs v1} : opW C hs K ns dst (.mk g xs) v1 e R acc=((∀ x ∈ xs,isP (vd (ab e) x)=true) /\ ((xs.all fun x=>isV (vd (ab e) x))=true -> dW C hs K ns dst ⟨⟩ e R acc (.fn g (xs.map (vd (ab e))))) /\ ((xs.all fun x=>isV (vd (ab e) x))=false -> dW C hs K ns dst ⟨⟩ e R acc (.fnx g (xs.map (vd (ab e)))))):=zR
@[simp] theorem RY {x y v1} : opW C hs K ns dst (.mn x y) v1 e R acc=(match (generalizing:=false) vd (ab e) x,vd (ab e) y with
  | .int k a,.int k' b=>k=k' /\ dW C hs K ns dst ⟨⟩ e R acc (.int k (if b < a then b else a))
  | _,_=>False):=zR
@[simp] theorem RZ {x y v1} : opW C hs K ns dst (.mx x y) v1 e R acc=(match (generalizing:=false) vd (ab e) x,vd (ab e) y with
  | .int k a,.int k' b=>k=k' /\ dW C hs K ns dst ⟨⟩ e R acc (.int k (if a < b then b else a))
  | _,_=>False):=zR
@[simp] theorem KP {sz v1} : opW C hs K ns dst (.nilo sz) v1 e R acc=(match (generalizing:=false) dst with
  | some t=>0 < sz /\ doW C hs K ns ⟨⟩ e R acc [(t,.ref (.r (rt t 0)) 0 0),(rt t 0,.blk sz [])] [(rt t 0,true)]
  | none=>False):=zR
@[simp] theorem P7 {x t v1} : opW C hs K ns (some t) (.box [] x) v1 e R acc=fI (ab e) (vd (ab e) x) [] (fun cs bs=>bs.contains (rt t 0)=false /\ doW C hs K ns ⟨⟩ e R acc ((t,.adr (.r (rt t 0)) 0 0)::(rt t 0,.blk cs.length [cs])::b8 bs) [(rt t 0,true)]) ⟨⟩:=zR
@[simp] theorem PZ {zs v1} : opW C hs K ns dst (.alc zs) v1 e R acc=(match (generalizing:=false) dst with
  | some t=>doW C hs K ns ⟨⟩ e R acc [(t,.adr (.r (rt t 0)) 0 0),(rt t 0,.blk zs.length [zs])] [(rt t 0,true)]
  | none=>False):=zR
@[simp] theorem P6 {sz len zs parts t v1} : opW C hs K ns (some t) (.bls sz len zs [] parts) v1 e R acc=oH (ab e) sz parts (List.replicate len zs) [] (fun es bs=>bD bs=true /\ bs.contains (rt t 0)=false /\ doW C hs K ns ⟨⟩ e R acc ((t,.ref (.r (rt t 0)) 0 len)::(rt t 0,.blk sz es)::b8 bs) [(rt t 0,true)]) ⟨⟩:=zR
@[simp] theorem Qh {sz by_ zs n c v1} : opW C hs K ns dst (.mks sz by_ zs n c) v1 e R acc=(match (generalizing:=false) dst with
  | some t=>match (generalizing:=false) vd (ab e) n,vd (ab e) c with
   | .int _ n,.int _ c=>0 <= n /\ n <= c /\ c * by_ <= 140737488355328 /\ doW C hs K ns ⟨⟩ e R acc [(t,.ref (.r (rt t 0)) 0 n.toNat),(rt t 0,.blk sz (List.replicate c.toNat zs))] [(rt t 0,true)]
   | _,_=>False
  | none=>False):=zR
def stM (C : CC) (hs : Option (List Nat)) (K : Env -> Prop) (ns : List ar) (_ : Tag (hs,K,ns)) (e : Env) (R : List Nat) (acc : List (List Nat × List Nat)) (n : Nat) (v : D) (cs : List D) (bs : List Nat) (a : D) : Prop:=match a with
 | .adr (.r b) i off=>bs.contains b=false /\ d5 (ab e b) (fun sz es=>iJ es[i]? (fun r=>off + n <= r.length /\ doW C hs K ns ⟨⟩ e R acc ((b,.blk sz (bG es i off n cs))::b8 bs) (stK v [] b)) ⟨⟩) ⟨⟩
 | .adr (.n b i0 o0) i off=>bs=[] /\ (∀ c ∈ cs,aC c=true) /\ d5 (ab e b) (fun sz0 es0=>iJ es0[i0]? (fun row0=>ml row0[o0]? (fun sz es=>iJ es[i]? (fun r=>off + n <= r.length /\ doW C hs K ns ⟨⟩ e R acc [(b,.blk sz0 (bG es0 i0 o0 1 [.own sz (bG es i off n cs)]))] []) ⟨⟩) ⟨⟩) ⟨⟩) ⟨⟩
 | _=>False
@[simp] theorem Sl {n v cs bs b i off} : stM C hs K ns u e R acc n v cs bs (.adr (.r b) i off)=(bs.contains b=false /\ d5 (ab e b) (fun sz es=>iJ es[i]? (fun r=>off + n <= r.length /\ doW C hs K ns ⟨⟩ e R acc ((b,.blk sz (bG es i off n cs))::b8 bs) (stK v [] b)) ⟨⟩) ⟨⟩):=zR
@[simp] theorem Sk {n v cs bs b i0 o0 i off} : stM C hs K ns u e R acc n v cs bs (.adr (.n b i0 o0) i off)=(bs=[] /\ (∀ c ∈ cs,aC c=true) /\ d5 (ab e b) (fun sz0 es0=>iJ es0[i0]? (fun row0=>ml row0[o0]? (fun sz es=>iJ es[i]? (fun r=>off + n <= r.length /\ doW C hs K ns ⟨⟩ e R acc [(b,.blk sz0 (bG es0 i0 o0 1 [.own sz (bG es i off n cs)]))] []) ⟨⟩) ⟨⟩) ⟨⟩) ⟨⟩):=zR
@[simp] theorem R0 {n a v v1} : opW C hs K ns dst (.st n [] a v) v1 e R acc=(dst=none /\ fI (ab e) (vd (ab e) v) [] (fun cs bs=>cs.length=n /\ stM C hs K ns ⟨⟩ e R acc n (vd (ab e) v) cs bs (vd (ab e) a)) ⟨⟩):=by
 show (dst=none /\ fd (ab e) (vd (ab e) v) [] _)=(dst=none /\ fd (ab e) (vd (ab e) v) [] _)
 congr 1
 congr 1
 funext cs bs
 cases vd (ab e) a <;> try rfl
 rename_i p i off
 cases p with
 | r b =>
  simp only [stM,d5,iw]
  cases ab e b <;> rfl
 | n b i0 o0 =>
  simp only [stM,d5,iw,lq]
  cases ab e b <;> rfl
def sJ (C : CC) (hs : Option (List Nat)) (K : Env -> Prop) (ns : List ar) (_ : Tag (hs,K,ns)) (e : Env) (R : List Nat) (acc : List (List Nat × List Nat)) (t sz by_ : Nat) (rowsY : List (List D)) (bs : List Nat) (x : D) : Prop:=match x with
 | .nils=>rowsY.length * by_ <= 140737488355328 /\ doW C hs K ns ⟨⟩ e R acc ((t,.ref (.r (rt t 0)) 0 rowsY.length)::(rt t 0,.blk sz rowsY)::b8 bs) [(rt t 0,true)]
 | .ref (.r c) k n=>c ≠ rt t 0 /\ bs.contains c=false /\ d5 (ab e c) (fun sz' es=>sz'=sz /\ k + n <= es.length /\ (n + rowsY.length) * by_ <= 140737488355328 /\
      doW C hs K ns ⟨⟩ e R acc ((t,.ref (.r (rt t 0)) 0 (n + rowsY.length))::(rt t 0,.blk sz ((es.drop k).take n++rowsY))::(c,.any)::b8 bs) [(rt t 0,true)]) ⟨⟩
 | .ref (.n c i o) k n=>c ≠ rt t 0 /\ bs.contains c=false /\ d5 (ab e c) (fun sz0 es0=>iJ es0[i]? (fun row0=>ml row0[o]? (fun sz' es=>sz'=sz /\ k + n <= es.length /\ (n + rowsY.length) * by_ <= 140737488355328 /\
      doW C hs K ns ⟨⟩ e R acc ((t,.ref (.r (rt t 0)) 0 (n + rowsY.length))::(rt t 0,.blk sz ((es.drop k).take n++rowsY))::(c,.blk sz0 (bG es0 i o 1 [.any]))::b8 bs) [(rt t 0,true)]) ⟨⟩) ⟨⟩) ⟨⟩
 | _=>False
@[simp] theorem Dy {t sz by_ rowsY bs} : sJ C hs K ns u e R acc t sz by_ rowsY bs .nils=(rowsY.length * by_ <= 140737488355328 /\ doW C hs K ns ⟨⟩ e R acc ((t,.ref (.r (rt t 0)) 0 rowsY.length)::(rt t 0,.blk sz rowsY)::b8 bs) [(rt t 0,true)]):=zR
@[simp] theorem QK {t sz by_ rowsY bs c k n} : sJ C hs K ns u e R acc t sz by_ rowsY bs (.ref (.r c) k n)=(c ≠ rt t 0 /\ bs.contains c=false /\ d5 (ab e c) (fun sz' es=>sz'=sz /\ k + n <= es.length /\ (n + rowsY.length) * by_ <= 140737488355328 /\
      doW C hs K ns ⟨⟩ e R acc ((t,.ref (.r (rt t 0)) 0 (n + rowsY.length))::(rt t 0,.blk sz ((es.drop k).take n++rowsY))::(c,.any)::b8 bs) [(rt t 0,true)]) ⟨⟩):=zR
@[simp] theorem QJ {t sz by_ rowsY bs c i o k n} : sJ C hs K ns u e R acc t sz by_ rowsY bs (.ref (.n c i o) k n)=(c ≠ rt t 0 /\ bs.contains c=false /\ d5 (ab e c) (fun sz0 es0=>iJ es0[i]? (fun row0=>ml row0[o]? (fun sz' es=>sz'=sz /\ k + n <= es.length /\ (n + rowsY.length) * by_ <= 140737488355328 /\
      doW C hs K ns ⟨⟩ e R acc ((t,.ref (.r (rt t 0)) 0 (n + rowsY.length))::(rt t 0,.blk sz ((es.drop k).take n++rowsY))::(c,.blk sz0 (bG es0 i o 1 [.any]))::b8 bs) [(rt t 0,true)]) ⟨⟩) ⟨⟩) ⟨⟩):=zR
@[simp] theorem P0 {sz by_ mv x y t v1} : opW C hs K ns (some t) (.app sz by_ mv x y) v1 e R acc=ia (ab e) mv (vd (ab e) y) sz (fun rowsY bs=>bs.contains (rt t 0)=false /\ sJ C hs K ns ⟨⟩ e R acc t sz by_ rowsY bs (vd (ab e) x)) ⟨⟩:=by
 unfold opW ia
 simp only [aD]
 congr 1
 funext rowsY bs
 congr 1
 cases vd (ab e) x <;> try rfl
 rename_i p k n
 cases p with
 | r c =>
  simp only [sJ,d5]
  cases ab e c <;> rfl
 | n c i o =>
  simp only [sJ,d5,iw,lq]
  cases hl : ab e c <;> try rfl
  rename_i sz0 es0
  refine congrArg _ (congrArg _ (propext ⟨?_,?_⟩))
  ·rintro ⟨row0,h1,es,h2,h3⟩
   exact ⟨row0,h1,sz,es,h2,rfl,h3⟩
  ·rintro ⟨row0,h1,sz',es,h2,rfl,h3⟩
   exact ⟨row0,h1,es,h2,h3⟩
@[simp] theorem Lx {g b n xs sz es} : CT C g hs K ns dst u e R acc b n xs (.blk sz es)=(es.length=n /\ (∀ e ∈ es,∀ c ∈ e,aC c=true) /\ (∀ x ∈ xs,bv (fbE (ab e) b) (vd (fbE (ab e) b) x)) /\ qf C g hs K ns dst ⟨⟩ e R acc b sz es (xs.map (dpv (fbE (ab e) b))) (xs.all fun y=>isV (vd (fbE (ab e) b) y))):=zR
@[simp] theorem LA {g xs b k n} : Lz C g hs K ns dst u e R acc xs (.ref (.r b) k n)=(k=0 /\ CT C g hs K ns dst ⟨⟩ e R acc b n xs (ab e b)):=zR
@[simp] theorem F2 {g x xs v1} : opW C hs K ns dst (.callS g x xs) v1 e R acc=(Lz C g hs K ns dst ⟨⟩ e R acc xs (vd (ab e) x)):=by
 cases dst <;> rfl
def wI (n : Nat) (d : D) : Prop:=match d with
 | .blk _ es=>es.length=n /\ ∀ e ∈ es,∀ c ∈ e,aW c=true
 | _=>False
def o4 (f : Nat -> D) (b : Nat) (d : D) : Prop:=match d with
 | .ref (.r c) k n=>k=0 /\ c ≠ b /\ wI n (f c)
 | d=>isV d=true
def xQ (d : D) : D:=match d with
 | .blk sz es=>.own sz es
 | _=>.any
def rB (f : Nat -> D) (d : D) : D:=match d with
 | .ref (.r c) _ _=>xQ (f c)
 | d=>d
@[simp] theorem GI {n sz es} : wI n (.blk sz es)=(es.length=n /\ ∀ e ∈ es,∀ c ∈ e,aW c=true):=zR
@[simp] theorem KU {sz es} : xQ (.blk sz es)=.own sz es:=zR
@[simp] theorem LJ {f : Nat -> D} {b : Nat} {x : Opd} : lc f b x=o4 f b (vd f x):=by
 unfold lc o4 wI
 cases vd f x <;> rfl
@[simp] theorem LK {f : Nat -> D} {x : Opd} : jQ f x=rB f (vd f x):=by
 unfold jQ rB xQ
 cases vd f x <;> rfl
@[simp] theorem DA {f : Nat -> D} {b c k n} : o4 f b (.ref (.r c) k n)=(k=0 /\ c ≠ b /\ wI n (f c)):=zR
@[simp] theorem DC {f : Nat -> D} {c k n} : rB f (.ref (.r c) k n)=xQ (f c):=zR
@[simp] theorem Dz {f : Nat -> D} {b k n} : o4 f b (.int k n)=True:=by simp [o4,isV]
@[simp] theorem DB {f : Nat -> D} {k n} : rB f (.int k n)=.int k n:=zR
def uq (C : CC) (g : Nat) (hs : Option (List Nat)) (K : Env -> Prop) (ns : List ar) (t : Nat) (_ : Tag (hs,K,ns)) (e : Env) (R : List Nat) (acc : List (List Nat × List Nat)) (sz : Nat) (W : List (List D)) (ds : List D) (q : Nat × D) : Prop :=
 ∃ es' : List (List D),(∀ e ∈ es',e.length=sz /\ ∀ c ∈ e,aW c=true) /\ C g (.own sz W::ds) .any [.own sz es',.nils,.nils] /\ doW C hs K ns ⟨⟩ e R acc [(t,.ref (.r (rt t 0)) 0 es'.length),(rt t 0,.blk sz es'),q] [(rt t 0,true)]
theorem wU {g : Nat} {hs : Option (List Nat)} {K : Env -> Prop} {ns : List ar} {t : Nat} {u : Tag (hs,K,ns)} {e : Env} {R : List Nat} {acc : List (List Nat × List Nat)} {sz : Nat} {W es' : List (List D)} {ds : List D} {q : Nat × D} (h : C g (.own sz W::ds) .any [.own sz es',.nils,.nils]) (hu : ∀ e ∈ es',e.length=sz /\ ∀ c ∈ e,aW c=true)
  (hk : doW C hs K ns ⟨⟩ e R acc [(t,.ref (.r (rt t 0)) 0 es'.length),(rt t 0,.blk sz es'),q] [(rt t 0,true)]) : uq C g hs K ns t u e R acc sz W ds q:=⟨es',hu,h,hk⟩
def uo (C : CC) (g : Nat) (hs : Option (List Nat)) (K : Env -> Prop) (ns : List ar) (t : Nat) (_ : Tag (hs,K,ns)) (e : Env) (R : List Nat) (acc : List (List Nat × List Nat)) (xs : List Opd) (d : D) : Prop:=match d with
 | .ref (.r b) k n=>d5 (ab e b) (fun sz es=>k + n <= es.length /\ b ≠ rt t 0 /\ 0 < sz /\ (∀ e ∈ (es.drop k).take n,∀ c ∈ e,aW c=true) /\ (∀ x ∈ xs,lc (ab e) b x) /\ uq C g hs K ns t ⟨⟩ e R acc sz ((es.drop k).take n) (xs.map (jQ (ab e))) (b,.any)) ⟨⟩
 | .ref (.n b i o) k n=>d5 (ab e b) (fun sz0 es0=>iJ es0[i]? (fun row0=>ml row0[o]? (fun sz es=>k + n <= es.length /\ b ≠ rt t 0 /\ 0 < sz /\ (∀ e ∈ (es.drop k).take n,∀ c ∈ e,aW c=true) /\ (∀ x ∈ xs,lc (ab e) b x) /\
   uq C g hs K ns t ⟨⟩ e R acc sz ((es.drop k).take n) (xs.map (jQ (ab e))) (b,.blk sz0 (bG es0 i o 1 [.any]))) ⟨⟩) ⟨⟩) ⟨⟩
 | _=>False
@[simp] theorem Re {g xs t b k n} : uo C g hs K ns t u e R acc xs (.ref (.r b) k n)=d5 (ab e b) (fun sz es=>k + n <= es.length /\ b ≠ rt t 0 /\ 0 < sz /\ (∀ e ∈ (es.drop k).take n,∀ c ∈ e,aW c=true) /\ (∀ x ∈ xs,lc (ab e) b x) /\ uq C g hs K ns t ⟨⟩ e R acc sz ((es.drop k).take n) (xs.map (jQ (ab e))) (b,.any)) ⟨⟩:=zR
@[simp] theorem Rd {g xs t b i o k n} : uo C g hs K ns t u e R acc xs (.ref (.n b i o) k n)=d5 (ab e b) (fun sz0 es0=>iJ es0[i]? (fun row0=>ml row0[o]? (fun sz es=>k + n <= es.length /\ b ≠ rt t 0 /\ 0 < sz /\ (∀ e ∈ (es.drop k).take n,∀ c ∈ e,aW c=true) /\ (∀ x ∈ xs,lc (ab e) b x) /\
   uq C g hs K ns t ⟨⟩ e R acc sz ((es.drop k).take n) (xs.map (jQ (ab e))) (b,.blk sz0 (bG es0 i o 1 [.any]))) ⟨⟩) ⟨⟩) ⟨⟩:=zR
@[simp] theorem FW {g x xs t v1} : opW C hs K ns (some t) (.callE g x xs) v1 e R acc=uo C g hs K ns t ⟨⟩ e R acc xs (vd (ab e) x):=by
 unfold opW
 simp only [aD]
 cases vd (ab e) x <;> try rfl
 rename_i p k n
 cases p with
 | r b =>
  simp only [uo,d5,bm,Pa.root,cP]
  cases ab e b <;> rfl
 | n b i o =>
  simp only [uo,d5,iw,lq,bm,Pa.root,cP]
  cases hl : ab e b <;> try rfl
  rename_i sz0 es0
  simp only
  cases hi : es0[i]? with
  | none=>simp
  | some row0 =>
   simp only [x1B,x0j,exists_eq_left']
   cases ho : row0[o]? with
   | none=>simp
   | some d =>
    cases d
    case own sz es=>exact propext ⟨fun h=>⟨sz,es,rfl,h⟩,fun ⟨sz',es',h0,h⟩=>by cases h0;exact h⟩
    all_goals simp
@[simp] theorem ED {f : Nat -> D} {b k n sz es} : bY f (.ref (.r b) k n) (.own sz es)=(k=0 /\ n=es.length /\ f b=.blk sz es):=zR
@[simp] theorem EB {f : Nat -> D} {b k n sz es} : bY f (.adr (.r b) k n) (.blk sz es)=(k=0 /\ n=0 /\ f b=.blk sz es):=zR
@[simp] theorem EC {f : Nat -> D} {k n r} : bY f (.int k n) r=(r=.int k n):=by simp [bY]
@[simp] theorem Bo {f : Nat -> D} {n r} : bY f (.bool n) r=(r=.bool n):=by simp [bY]
@[simp] theorem EE {f : Nat -> D} {n r} : bY f (.str n) r=(r=.str n):=by simp [bY]
@[simp] theorem Bq {f : Nat -> D} {r} : bY f .nils r=(r=.nils):=by simp [bY]
@[simp] theorem Bp {f : Nat -> D} {r} : bY f .nilp r=(r=.nilp):=by simp [bY]
@[simp] theorem HU {f : Nat -> D} {n r} : bY f (.sl n) r=(r=.sl n):=by simp [bY]
@[simp] theorem EA {f : Nat -> D} {n r} : bY f (.agg n) r=(r=.agg n):=by simp [bY]
@[simp] theorem Gk {t d} : bV (some t) d=[(t,d)]:=zR
@[simp] theorem Gj {d} : bV none d=[]:=zR
@[simp] theorem CZ {t} : AE (some t)=[(t,.tup [])]:=zR
@[simp] theorem CY : AE none=[]:=zR
@[simp] theorem FX {g xs t v1} : opW C hs K ns (some t) (.callF g xs) v1 e R acc=((∀ x ∈ xs,bv (ab e) (vd (ab e) x)) /\ ua C g hs K ns t ⟨⟩ e R acc (xs.map (dpv (ab e)))):=zR
@[simp] theorem KI {g xs x0 v1} : opW C hs K ns dst (.call g xs x0) v1 e R acc=((∀ x ∈ xs,bv (ab e) (vd (ab e) x)) /\ o7 C g hs K ns dst ⟨⟩ e R acc (xs.all fun x=>isV (vd (ab e) x)) (xs.map (dpv (ab e)))):=zR
def jR (C : CC) (hs : Option (List Nat)) (K : Env -> Prop) (ns : List ar) (t : Nat) (_ : Tag (hs,K,ns)) (e : Env) (R : List Nat) (acc : List (List Nat × List Nat)) (d : D) : Prop:=match d with
 | .ref (.r c) k n=>if c=rt t 0 then doW C hs K ns ⟨⟩ e R acc [(t,.ref (.r c) k n)] [] else match ab e c with
  | .blk sz es=>doW C hs K ns ⟨⟩ e R acc [(t,.ref (.r (rt t 0)) k n),(rt t 0,.blk sz es),(c,.any)] [(rt t 0,true)]
  | _=>False
 | d=>isS d=true /\ doW C hs K ns ⟨⟩ e R acc [(t,d)] []
@[simp] theorem P1 {t x v1} : opW C hs K ns (some t) (.asg x) v1 e R acc=jR C hs K ns t ⟨⟩ e R acc (vd (ab e) x):=zR
@[simp] theorem GK {t c k n} : jR C hs K ns t u e R acc (.ref (.r c) k n)=(if c=rt t 0 then doW C hs K ns ⟨⟩ e R acc [(t,.ref (.r c) k n)] [] else match ab e c with
  | .blk sz es=>doW C hs K ns ⟨⟩ e R acc [(t,.ref (.r (rt t 0)) k n),(rt t 0,.blk sz es),(c,.any)] [(rt t 0,true)]
  | _=>False):=zR
@[simp] theorem DE {t b i o k n} : jR C hs K ns t u e R acc (.ref (.n b i o) k n)=doW C hs K ns ⟨⟩ e R acc [(t,.ref (.n b i o) k n)] []:=by simp [jR]
@[simp] theorem DD {t} : jR C hs K ns t u e R acc .nils=doW C hs K ns ⟨⟩ e R acc [(t,.nils)] []:=by simp [jR]
@[simp] theorem LM {t es} : jR C hs K ns t u e R acc (.sl es)=doW C hs K ns ⟨⟩ e R acc [(t,.sl es)] []:=by simp [jR]
@[simp] theorem GL {t b es} : jR C hs K ns t u e R acc (slx b es)=doW C hs K ns ⟨⟩ e R acc [(t,slx b es)] []:=by
 rcases eM b es with h | ⟨h,_⟩ <;> rw [h] <;> simp
@[simp] theorem GJ {t} : jR C hs K ns t u e R acc .any=doW C hs K ns ⟨⟩ e R acc [(t,.any)] []:=by simp [jR]
@[simp] theorem GM {t ds} : jR C hs K ns t u e R acc (.tup ds)=doW C hs K ns ⟨⟩ e R acc [(t,.tup ds)] []:=by simp [jR]
def qu (C : CC) (hs : Option (List Nat)) (K : Env -> Prop) (ns : List ar) (t : Nat) (_ : Tag (hs,K,ns)) (e : Env) (R : List Nat) (acc : List (List Nat × List Nat)) (d : D) : Prop:=match d with
 | .ref (.r c) k n=>aR (ab e) (.ref (.r c) k n) /\ doW C hs K ns ⟨⟩ e R acc [(t,dp1 (ab e) (.ref (.r c) k n)),(c,.any)] []
 | d=>isS d=true /\ doW C hs K ns ⟨⟩ e R acc [(t,d)] []
@[simp] theorem Qc {t x v1} : opW C hs K ns (some t) (.frz x) v1 e R acc=qu C hs K ns t ⟨⟩ e R acc (vd (ab e) x):=zR
@[simp] theorem HL {t c k n} : qu C hs K ns t u e R acc (.ref (.r c) k n)=(aR (ab e) (.ref (.r c) k n) /\ doW C hs K ns ⟨⟩ e R acc [(t,dp1 (ab e) (.ref (.r c) k n)),(c,.any)] []):=zR
@[simp] theorem Ex {t} : qu C hs K ns t u e R acc .nils=doW C hs K ns ⟨⟩ e R acc [(t,.nils)] []:=by simp [qu]
@[simp] theorem ME {t es} : qu C hs K ns t u e R acc (.sl es)=doW C hs K ns ⟨⟩ e R acc [(t,.sl es)] []:=by simp [qu]
@[simp] theorem HM {t b es} : qu C hs K ns t u e R acc (slx b es)=doW C hs K ns ⟨⟩ e R acc [(t,slx b es)] []:=by
 rcases eM b es with h | ⟨h,_⟩ <;> rw [h] <;> simp
def xE (C : CC) (hs : Option (List Nat)) (K : Env -> Prop) (ns : List ar) (dst : Option Nat) (_ : Tag (hs,K,ns)) (e : Env) (R : List Nat) (acc : List (List Nat × List Nat)) (c i off : Nat) (d : D) : Prop:=match d with
 | .blk _ es=>∃ r,es[i]? = some r /\ ∃ d,r[off]? = some d /\ dR dst (kOf C hs K ns e R acc) (ldc (.r c) i off d)
 | _=>False
@[simp] theorem JZ {c i off sz es} : xE C hs K ns dst u e R acc c i off (.blk sz es)=iJ es[i]? (fun r=>wK r[off]? (fun d=>dW C hs K ns dst ⟨⟩ e R acc (ldc (.r c) i off d)) ⟨⟩) ⟨⟩:=by
 simp only [xE,iw,wL];rfl
def J0 (C : CC) (hs : Option (List Nat)) (K : Env -> Prop) (ns : List ar) (dst : Option Nat) (_ : Tag (hs,K,ns)) (e : Env) (R : List Nat) (acc : List (List Nat × List Nat)) (q : Nat) (d : D) : Prop:=match d with
 | .adr (.r c) i off=>off=q /\ xE C hs K ns dst ⟨⟩ e R acc c i off (ab e c)
 | _=>False
@[simp] theorem J1 {q c i off} : J0 C hs K ns dst u e R acc q (.adr (.r c) i off)=(off=q /\ xE C hs K ns dst ⟨⟩ e R acc c i off (ab e c)):=zR
@[simp] theorem Qd {q x v1} : opW C hs K ns dst (.ldQ q x) v1 e R acc=J0 C hs K ns dst ⟨⟩ e R acc q (vd (ab e) x):=zR
def wH (C : CC) (hs : Option (List Nat)) (K : Env -> Prop) (ns : List ar) (t : Nat) (_ : Tag (hs,K,ns)) (e : Env) (R : List Nat) (acc : List (List Nat × List Nat)) (sz by_ : Nat) (rowsY : List (List D)) (c i o k n : Nat) (d : D) : Prop:=match d with
 | .blk sz0 es0=>∃ row0,es0[i]? = some row0 /\ ∃ es,row0[o]? = some (.own sz es) /\ k + n <= es.length /\ (n + rowsY.length) * by_ <= 140737488355328 /\
   kOf C hs K ns e R acc [(t,.ref (.r (rt t 0)) 0 (n + rowsY.length)),(rt t 0,.blk sz ((es.drop k).take n++rowsY)),(c,.blk sz0 (bG es0 i o 1 [.any]))] [(rt t 0,true)]
 | _=>False
@[simp] theorem GF {t sz by_ rowsY c i o k n sz0 es0} : wH C hs K ns t u e R acc sz by_ rowsY c i o k n (.blk sz0 es0)=iJ es0[i]? (fun row0=>ml row0[o]? (fun sz' es=>sz'=sz /\ k + n <= es.length /\ (n + rowsY.length) * by_ <= 140737488355328 /\
   doW C hs K ns ⟨⟩ e R acc [(t,.ref (.r (rt t 0)) 0 (n + rowsY.length)),(rt t 0,.blk sz ((es.drop k).take n++rowsY)),(c,.blk sz0 (bG es0 i o 1 [.any]))] [(rt t 0,true)]) ⟨⟩) ⟨⟩:=by
 simp only [wH,iw,lq]
 refine propext ⟨?_,?_⟩
 ·rintro ⟨row0,h1,es,h2,h3,h4,h5⟩
  exact ⟨row0,h1,sz,es,h2,rfl,h3,h4,h5⟩
 ·rintro ⟨row0,h1,sz',es,h2,rfl,h3,h4,h5⟩
  exact ⟨row0,h1,es,h2,h3,h4,h5⟩
def GG (C : CC) (hs : Option (List Nat)) (K : Env -> Prop) (ns : List ar) (t : Nat) (_ : Tag (hs,K,ns)) (e : Env) (R : List Nat) (acc : List (List Nat × List Nat)) (q sz by_ : Nat) (yd : D) (d : D) : Prop:=match d with
 | .ref (.n c i o') k n=>o'=q /\ ez (ab e) false yd sz fun rowsY bs=>bs=[] /\ c ≠ rt t 0 /\ wH C hs K ns t ⟨⟩ e R acc sz by_ rowsY c i o' k n (ab e c)
 | _=>False
@[simp] theorem GH {t q sz by_ yd c i o k n} : GG C hs K ns t u e R acc q sz by_ yd (.ref (.n c i o) k n)=(o=q /\ ia (ab e) false yd sz (fun rowsY bs=>bs=[] /\ c ≠ rt t 0 /\ wH C hs K ns t ⟨⟩ e R acc sz by_ rowsY c i o k n (ab e c)) ⟨⟩):=zR
@[simp] theorem KF {t q sz by_ x y v1} : opW C hs K ns (some t) (.appQ q sz by_ x y) v1 e R acc=GG C hs K ns t ⟨⟩ e R acc q sz by_ (vd (ab e) y) (vd (ab e) x):=zR
def A6 (C : CC) (hs : Option (List Nat)) (K : Env -> Prop) (ns : List ar) (t : Nat) (_ : Tag (hs,K,ns)) (e : Env) (R : List Nat) (acc : List (List Nat × List Nat)) (sz : Nat) (rows : List (List D)) (b k n : Nat) (d : D) : Prop:=match d with
 | .blk sz' es=>sz'=sz /\ k + n <= es.length /\ (∀ e ∈ es,∀ c ∈ e,aC c=true) /\ (∀ e ∈ rows,∀ c ∈ e,aC c=true) /\ kOf C hs K ns e R acc [(t,.int .i64 (min rows.length n : Nat)),(b,.blk sz (gC es k (rows.take n)))] []
 | _=>False
@[simp] theorem G6 {t sz rows b k n sz' es} : A6 C hs K ns t u e R acc sz rows b k n (.blk sz' es)=(sz'=sz /\ k + n <= es.length /\ (∀ e ∈ es,∀ c ∈ e,aC c=true) /\ (∀ e ∈ rows,∀ c ∈ e,aC c=true) /\ doW C hs K ns ⟨⟩ e R acc [(t,.int .i64 (min rows.length n : Nat)),(b,.blk sz (gC es k (rows.take n)))] []):=zR
def G7 (C : CC) (hs : Option (List Nat)) (K : Env -> Prop) (ns : List ar) (t : Nat) (_ : Tag (hs,K,ns)) (e : Env) (R : List Nat) (acc : List (List Nat × List Nat)) (sz : Nat) (rows : List (List D)) (d : D) : Prop:=match d with
 | .ref (.r b) k n=>(n=0 -> kOf C hs K ns e R acc [(t,.int .i64 0)] []) /\ (0 < n -> A6 C hs K ns t ⟨⟩ e R acc sz rows b k n (ab e b))
 | _=>False
@[simp] theorem G8 {t sz rows b k n} : G7 C hs K ns t u e R acc sz rows (.ref (.r b) k n)=((n=0 -> doW C hs K ns ⟨⟩ e R acc [(t,.int .i64 0)] []) /\ (0 < n -> A6 C hs K ns t ⟨⟩ e R acc sz rows b k n (ab e b))):=zR
@[simp] theorem P8 {t sz x y v1} : opW C hs K ns (some t) (.cpy sz x y) v1 e R acc=ia (ab e) false (vd (ab e) y) sz (fun rows bs=>bs=[] /\ 0 < rows.length /\ G7 C hs K ns t ⟨⟩ e R acc sz rows (vd (ab e) x)) ⟨⟩:=zR
def CJ (C : CC) (hs : Option (List Nat)) (K : Env -> Prop) (ns : List ar) (t : Nat) (_ : Tag (hs,K,ns)) (e : Env) (R : List Nat) (acc : List (List Nat × List Nat)) (len sz c : Nat) (d : D) : Prop:=match d with
 | .blk _ [row]=>0 < len /\ 0 < sz /\ row.length=len * sz /\ (∀ d ∈ row,aC d=true) /\ doW C hs K ns ⟨⟩ e R acc [(t,.ref (.r (rt t 0)) 0 len),(rt t 0,.blk sz (bN sz len row)),(c,.any)] [(rt t 0,true)]
 | _=>False
@[simp] theorem Lq {t len sz c sz0 row} : CJ C hs K ns t u e R acc len sz c (.blk sz0 [row])=(0 < len /\ 0 < sz /\ row.length=len * sz /\ (∀ d ∈ row,aC d=true) /\ doW C hs K ns ⟨⟩ e R acc [(t,.ref (.r (rt t 0)) 0 len),(rt t 0,.blk sz (bN sz len row)),(c,.any)] [(rt t 0,true)]):=zR
def Lr (C : CC) (hs : Option (List Nat)) (K : Env -> Prop) (ns : List ar) (t : Nat) (_ : Tag (hs,K,ns)) (e : Env) (R : List Nat) (acc : List (List Nat × List Nat)) (len sz : Nat) (d : D) : Prop:=match d with
 | .adr (.r c) i off=>i=0 /\ off=0 /\ c ≠ rt t 0 /\ CJ C hs K ns t ⟨⟩ e R acc len sz c (ab e c)
 | _=>False
@[simp] theorem Ls {t len sz c i off} : Lr C hs K ns t u e R acc len sz (.adr (.r c) i off)=(i=0 /\ off=0 /\ c ≠ rt t 0 /\ CJ C hs K ns t ⟨⟩ e R acc len sz c (ab e c)):=zR
@[simp] theorem Qn {len sz x t v1} : opW C hs K ns (some t) (.slM len sz x) v1 e R acc=Lr C hs K ns t ⟨⟩ e R acc len sz (vd (ab e) x):=zR
def gn (C : CC) (hs : Option (List Nat)) (K : Env -> Prop) (ns : List ar) (dst : Option Nat) (_ : Tag (hs,K,ns)) (e : Env) (R : List Nat) (acc : List (List Nat × List Nat)) (d : D) : Prop:=match d with
 | .agx ds=>dW C hs K ns dst ⟨⟩ e R acc (.ptx ds)
 | .agg ds=>dW C hs K ns dst ⟨⟩ e R acc (.ptr ds)
 | d=>aC d=true /\ dW C hs K ns dst ⟨⟩ e R acc (.ptr [d])
@[simp] theorem A0 {ds : List D} : dc (.agg ds)=ds:=zR
@[simp] theorem A1 {k n} : dc (.int k n)=[.int k n]:=zR
@[simp] theorem A3 {n} : dc (.str n)=[.str n]:=zR
@[simp] theorem zB {n} : dc (.bool n)=[.bool n]:=zR
@[simp] theorem D4 {n} : dc (.sl n)=[.sl n]:=zR
@[simp] theorem Ew {f : Nat -> D} {es} : fM f [] es=es:=zR
@[simp] theorem Bg {f : Nat -> D} {p ps es} : fM f (p::ps) es=fM f ps (es.set p.1 (dc (vd f p.2))):=zR
@[simp] theorem KG {sz len zs parts v1} : opW C hs K ns dst (.blsF sz len zs parts) v1 e R acc=((∀ p ∈ parts,p.1 < len /\ (dc (vd (ab e) p.2)).length=sz /\ ∀ c ∈ dc (vd (ab e) p.2),aC c=true) /\ 0 < len /\
   (∀ r ∈ fM (ab e) parts (List.replicate len zs),∀ c ∈ r,aC c=true) /\ dW C hs K ns dst ⟨⟩ e R acc (.sl (fM (ab e) parts (List.replicate len zs)))):=zR
attribute [simp] A4
@[simp] theorem KH {x v1} : opW C hs K ns dst (.boxF x) v1 e R acc=gn C hs K ns dst ⟨⟩ e R acc (vd (ab e) x):=zR
@[simp] theorem GS {ds} : gn C hs K ns dst u e R acc (.agx ds)=dW C hs K ns dst ⟨⟩ e R acc (.ptx ds):=zR
@[simp] theorem GR {ds} : gn C hs K ns dst u e R acc (.agg ds)=dW C hs K ns dst ⟨⟩ e R acc (.ptr ds):=zR
@[simp] theorem GT {k n} : gn C hs K ns dst u e R acc (.int k n)=dW C hs K ns dst ⟨⟩ e R acc (.ptr [.int k n]):=by simp [gn]
@[simp] theorem DF {n} : gn C hs K ns dst u e R acc (.bool n)=dW C hs K ns dst ⟨⟩ e R acc (.ptr [.bool n]):=by simp [gn]
@[simp] theorem GW {n} : gn C hs K ns dst u e R acc (.str n)=dW C hs K ns dst ⟨⟩ e R acc (.ptr [.str n]):=by simp [gn]
@[simp] theorem DG : gn C hs K ns dst u e R acc .nils=dW C hs K ns dst ⟨⟩ e R acc (.ptr [.nils]):=by simp [gn]
@[simp] theorem LR {es} : gn C hs K ns dst u e R acc (.sl es)=dW C hs K ns dst ⟨⟩ e R acc (.ptr [.sl es]):=by simp [gn]
@[simp] theorem GV {b es} : gn C hs K ns dst u e R acc (slx b es)=dW C hs K ns dst ⟨⟩ e R acc (.ptr [slx b es]):=by
 rcases eM b es with h | ⟨h,_⟩ <;> rw [h] <;> simp
@[simp] theorem GU {es} : gn C hs K ns dst u e R acc (.ptr es)=dW C hs K ns dst ⟨⟩ e R acc (.ptr [.ptr es]):=by simp [gn]
@[simp] theorem LQ {g es} : gn C hs K ns dst u e R acc (.fn g es)=dW C hs K ns dst ⟨⟩ e R acc (.ptr [.fn g es]):=by simp [gn]
@[simp] theorem Qe {x v1} : opW C hs K ns dst (.len x) v1 e R acc=qI (vd (ab e) x) (fun n=>dW C hs K ns dst ⟨⟩ e R acc (.int .i64 n)) ⟨⟩:=by
 show res (ab e) _ (.len x)=_
 simp only [res,qI]
 cases vd (ab e) x <;> rfl
def qD (C : CC) (hs : Option (List Nat)) (K : Env -> Prop) (ns : List ar) (dst : Option Nat) (_ : Tag (hs,K,ns)) (e : Env) (R : List Nat) (acc : List (List Nat × List Nat)) (sz : Nat) (x i : D) : Prop:=match (generalizing:=false) x,i with
  | .sl es,.int _ j=>0 <= j /\ gr C hs K ns dst ⟨⟩ e R acc sz es j.toNat
  | .slv _ es,.int _ j=>0 <= j /\ gr C hs K ns dst ⟨⟩ e R acc sz es j.toNat
  | .rfx n sz' ds,.int _ j=>0 <= j /\ j.toNat < n /\ sz'=sz /\ dW C hs K ns dst ⟨⟩ e R acc (.ptx (ds.drop (j.toNat * sz)))
  | .ref p k n,.int _ j=>0 <= j /\ j.toNat < n /\ match (generalizing:=false) bm (ab e) p with
   | some (sz',_)=>sz'=sz /\ dW C hs K ns dst ⟨⟩ e R acc (.adr p (k + j.toNat) 0)
   | none=>False
  | _,_=>False
@[simp] theorem KM {sz x i v1} : opW C hs K ns dst (.iadS sz x i) v1 e R acc=qD C hs K ns dst ⟨⟩ e R acc sz (vd (ab e) x) (vd (ab e) i):=zR
@[simp] theorem HW {sz sz' n ds k j} : qD C hs K ns dst u e R acc sz (.rfx n sz' ds) (.int k j)=(0 <= j /\ j.toNat < n /\ sz'=sz /\ dW C hs K ns dst ⟨⟩ e R acc (.ptx (ds.drop (j.toNat * sz)))):=zR
@[simp] theorem MF {sz es k j} : qD C hs K ns dst u e R acc sz (.sl es) (.int k j)=(0 <= j /\ gr C hs K ns dst ⟨⟩ e R acc sz es j.toNat):=zR
@[simp] theorem HX {sz q es k j} : qD C hs K ns dst u e R acc sz (.slv q es) (.int k j)=(0 <= j /\ gr C hs K ns dst ⟨⟩ e R acc sz es j.toNat):=zR
@[simp] theorem HY {sz b es k j} : qD C hs K ns dst u e R acc sz (slx b es) (.int k j)=(0 <= j /\ gr C hs K ns dst ⟨⟩ e R acc sz es j.toNat):=by
 rcases eM b es with h | ⟨h,rfl⟩
 ·rw [h];rfl
 ·rw [h];simp [qD,gr]
@[simp] theorem HV {sz p k n k' j} : qD C hs K ns dst u e R acc sz (.ref p k n) (.int k' j)=(0 <= j /\ j.toNat < n /\ match (generalizing:=false) bm (ab e) p with
   | some (sz',_)=>sz'=sz /\ dW C hs K ns dst ⟨⟩ e R acc (.adr p (k + j.toNat) 0)
   | none=>False):=zR
def yh (C : CC) (hs : Option (List Nat)) (K : Env -> Prop) (ns : List ar) (dst : Option Nat) (_ : Tag (hs,K,ns)) (e : Env) (R : List Nat) (acc : List (List Nat × List Nat)) (sz : Nat) (x : D) (lo hi : Option Opd) : Prop:=match (generalizing:=false) x with
  | .sl es=>(∀ e ∈ es,e.length=sz) /\ dE (ab e) hi es.length (fun h=>dE (ab e) lo 0 (fun l=>l <= h /\ h <= es.length /\ dW C hs K ns dst ⟨⟩ e R acc (.sl ((es.take h).drop l))) ⟨⟩) ⟨⟩
  | .nils=>dE (ab e) hi 0 (fun h=>dE (ab e) lo 0 (fun l=>l <= h /\ h <= 0 /\ dW C hs K ns dst ⟨⟩ e R acc (.sl [])) ⟨⟩) ⟨⟩
  | .ref p k n=>match (generalizing:=false) bm (ab e) p with
   | some (sz',_)=>sz'=sz /\ dE (ab e) hi n (fun h=>dE (ab e) lo 0 (fun l=>l <= h /\ h <= n /\ dW C hs K ns dst ⟨⟩ e R acc (.ref p (k + l) (h - l))) ⟨⟩) ⟨⟩
   | none=>False
  | _=>False
@[simp] theorem Qo {sz x lo hi v1} : opW C hs K ns dst (.slc sz x lo hi) v1 e R acc=yh C hs K ns dst ⟨⟩ e R acc sz (vd (ab e) x) lo hi:=zR
@[simp] theorem Qt {sz es lo hi} : yh C hs K ns dst u e R acc sz (.sl es) lo hi=((∀ e ∈ es,e.length=sz) /\ dE (ab e) hi es.length (fun h=>dE (ab e) lo 0 (fun l=>l <= h /\ h <= es.length /\ dW C hs K ns dst ⟨⟩ e R acc (.sl ((es.take h).drop l))) ⟨⟩) ⟨⟩):=zR
@[simp] theorem Gi {sz lo hi} : yh C hs K ns dst u e R acc sz .nils lo hi=dE (ab e) hi 0 (fun h=>dE (ab e) lo 0 (fun l=>l <= h /\ h <= 0 /\ dW C hs K ns dst ⟨⟩ e R acc (.sl [])) ⟨⟩) ⟨⟩:=zR
@[simp] theorem Lp {sz p k n lo hi} : yh C hs K ns dst u e R acc sz (.ref p k n) lo hi=(match (generalizing:=false) bm (ab e) p with
   | some (sz',_)=>sz'=sz /\ dE (ab e) hi n (fun h=>dE (ab e) lo 0 (fun l=>l <= h /\ h <= n /\ dW C hs K ns dst ⟨⟩ e R acc (.ref p (k + l) (h - l))) ⟨⟩) ⟨⟩
   | none=>False):=zR
@[simp] theorem F3 {x xs v1} : opW C hs K ns dst (.callv x xs) v1 e R acc=(match (generalizing:=false) vd (ab e) x with
  | .fn g cs=>(∀ x ∈ xs,bv (ab e) (vd (ab e) x)) /\ o7 C g hs K ns dst ⟨⟩ e R acc (xs.all fun x=>isV (vd (ab e) x)) (xs.map (dpv (ab e))++cs)
  | .fnx g cs=>(∀ x ∈ xs,bv (ab e) (vd (ab e) x)) /\ (∀ c ∈ cs,aR (ab e) c) /\ o7 C g hs K ns dst ⟨⟩ e R acc false (xs.map (dpv (ab e))++cs.map (dp1 (ab e)))
  | _=>False):=by
 simp only [opW,aD,o7,dR,x0i,or_false]
 cases vd (ab e) x <;> rfl
def mpT (x : D) (K : Nat -> Nat -> List D -> List D -> Prop) (_ : Tag K) : Prop:=match x with
 | .mp kt et ks vs=>K kt et ks vs
 | _=>False
@[simp] theorem RQ {kt et ks vs K u} : mpT (.mp kt et ks vs) K u=K kt et ks vs:=zR
@[simp] theorem Qg {kt et t v1} : opW C hs K ns (some t) (.mkm kt et) v1 e R acc=doW C hs K ns ⟨⟩ e R acc [(t,.mrf (rt t 0)),(rt t 0,.mp kt et [] [])] [(rt t 0,true)]:=zR
def mlM (C : CC) (hs : Option (List Nat)) (K : Env -> Prop) (ns : List ar) (dst : Option Nat) (_ : Tag (hs,K,ns)) (e : Env) (R : List Nat) (acc : List (List Nat × List Nat)) (sh : KSh) (kt et : Nat) (ok : Bool) (z x m : D) : Prop:=match m with
 | .mrf b=>mpT (ab e b) (fun kt' et' ks vs=>kt'=kt /\ et'=et /\ cT sh x /\ match ok with
    | true=>dW C hs K ns dst ⟨⟩ e R acc (.tup [(cV ks vs x).getD z,.bool (cV ks vs x).isSome])
    | false=>dW C hs K ns dst ⟨⟩ e R acc ((cV ks vs x).getD z)) ⟨⟩
 | _=>False
@[simp] theorem PM {sh kt et ok z x b} : mlM C hs K ns dst u e R acc sh kt et ok z x (.mrf b)=mpT (ab e b) (fun kt' et' ks vs=>kt'=kt /\ et'=et /\ cT sh x /\ match ok with
    | true=>dW C hs K ns dst ⟨⟩ e R acc (.tup [(cV ks vs x).getD z,.bool (cV ks vs x).isSome])
    | false=>dW C hs K ns dst ⟨⟩ e R acc ((cV ks vs x).getD z)) ⟨⟩:=zR
@[simp] theorem Qj {sh kt et ok z m x v1} : opW C hs K ns dst (.mpl sh kt et ok z m x) v1 e R acc=mlM C hs K ns dst ⟨⟩ e R acc sh kt et ok z (vd (ab e) x) (vd (ab e) m):=by
 show res (ab e) _ (.mpl sh kt et ok z m x)=_
 simp only [res,mlM]
 cases vd (ab e) m <;> rfl
def muM (C : CC) (hs : Option (List Nat)) (K : Env -> Prop) (ns : List ar) (_ : Tag (hs,K,ns)) (e : Env) (R : List Nat) (acc : List (List Nat × List Nat)) (sh : KSh) (kt et : Nat) (z x v m : D) : Prop:=match m with
 | .mrf b=>mpT (ab e b) (fun kt' et' ks vs=>kt'=kt /\ et'=et /\ ks.length < maxLen /\ cT sh x /\ gD z v /\ doW C hs K ns ⟨⟩ e R acc [(b,.mp kt et (x::ks) (v::vs))] []) ⟨⟩
 | _=>False
@[simp] theorem PN {sh kt et z x v b} : muM C hs K ns u e R acc sh kt et z x v (.mrf b)=mpT (ab e b) (fun kt' et' ks vs=>kt'=kt /\ et'=et /\ ks.length < maxLen /\ cT sh x /\ gD z v /\ doW C hs K ns ⟨⟩ e R acc [(b,.mp kt et (x::ks) (v::vs))] []) ⟨⟩:=zR
@[simp] theorem Qk {sh kt et z m x v v1} : opW C hs K ns dst (.mpu sh kt et z m x v) v1 e R acc=(dst=none /\ muM C hs K ns ⟨⟩ e R acc sh kt et z (vd (ab e) x) (vd (ab e) v) (vd (ab e) m)):=by
 show (dst=none /\ _)=_
 congr 1
end
@[simp] theorem BA {s} : cT .str (.str s)=(s.length <= maxLen):=zR
@[simp] theorem zT {b} : cT .bool (.bool b)=True:=zR
@[simp] theorem Bz {q q' n} : cT (.int q) (.int q' n)=(q'=q /\ pv q n):=zR
@[simp] theorem zU {q n ds} : cT (.ints q n) (.agg ds)=(ds.length=n /\ ∀ d ∈ ds,∃ x,d=.int q x /\ pv q x):=zR
@[simp] theorem Ev {s z} : gD (.str z) (.str s)=(s.length <= maxLen):=zR
@[simp] theorem Bb {b z} : gD (.bool z) (.bool b)=True:=zR
@[simp] theorem Eu {q q' n z} : gD (.int q z) (.int q' n)=(q'=q /\ pv q n):=zR
@[simp] theorem Ih {n : Int} : pv .i64 n=(-9223372036854775808 <= n /\ n <= 9223372036854775807):=by
 have e1 : IntKind.i64.min=-9223372036854775808:=rfl
 have e2 : IntKind.i64.max=9223372036854775807:=rfl
 simp [pv,Lit.wf,e1,e2]
attribute [simp] kj gP ct kN cS bO bU kO Cq okR pT kM cE
attribute [simp] vd params ew iY iZ iX lM mB vx prune jM isC gK bm R3 bG dpv b8 stK bg rt chk rdS rdR frR fwR fC rdN gG wrK mnR Cs ldN af hD pp wOk Pa.root ca bD
end Go.Gv

namespace Go.Gv
section
variable {C : CC}
def Ct (id : Nat) (S : Type) (G : S -> Env) (J : S -> Prop) (Q : cj -> Env -> Prop) : cj -> Env -> Prop:=fun t e=>match t with
 | .ext i=>if i=id then ∃ s,J s /\ jM e (G s) else Q (.ext i) e
 | t=>Q t e
variable {Q : cj -> Env -> Prop} {e : Env}
@[simp] theorem xc {id S G J u} : bI (Ct id S G J Q) u .nrm e=bI Q ⟨⟩ .nrm e:=zR
@[simp] theorem xd {id S G J u} : bI (Ct id S G J Q) u .ret e=bI Q ⟨⟩ .ret e:=zR
@[simp] theorem xb {id S G J u i} : bI (Ct id S G J Q) u (.ext i) e=if i=id then ∃ s,J s /\ jM e (G s) else bI Q ⟨⟩ (.ext i) e:=zR
def BN (S : Type) (G : S -> Env) (J : S -> Prop) (Q : cj -> Env -> Prop) : cj -> Env -> Prop:=fun t e=>match t with
 | .nrm=>∃ s,J s /\ jM e (G s)
 | t=>Q t e
@[simp] theorem wZ {S G J u} : bI (BN S G J Q) u .nrm e=∃ s,J s /\ jM e (G s):=zR
@[simp] theorem w9 {S G J u} : bI (BN S G J Q) u .ret e=bI Q ⟨⟩ .ret e:=zR
@[simp] theorem wY {S G J u i} : bI (BN S G J Q) u (.ext i) e=bI Q ⟨⟩ (.ext i) e:=zR
end
@[simp] theorem Li {C : CC} {hs : Option (List Nat)} {K : Env -> Prop} {ns : List ar} {dst : Option Nat} {u : Tag (hs,K,ns)} {e : Env} {R : List Nat} {acc : List (List Nat × List Nat)} {α : Type} [Inhabited α] {n : Nat} {ag : Bool} {p : Pa} {xs : List α} {f : α -> List D} {i off : Nat} :
  kw C hs K ns dst u e R acc n ag p (xs.map f) i off=(i < xs.length /\ off + n <= (f xs[i]!).length /\ match ag with
    | true=>((((f xs[i]!).drop off).take n).all isV=true -> dW C hs K ns dst ⟨⟩ e R acc (.agg (((f xs[i]!).drop off).take n))) /\
      ((((f xs[i]!).drop off).take n).all isV=false -> dW C hs K ns dst ⟨⟩ e R acc (.agx ((((f xs[i]!).drop off).take n).mapIdx fun j c=>ldc p i (off + j) c)))
    | false=>dW C hs K ns dst ⟨⟩ e R acc (ldc p i off (((f xs[i]!).drop off).headD .any))):=by
 apply propext
 constructor
 ·rintro ⟨r,h,h1,h2⟩
  rw [x0y,x0h] at h
  obtain ⟨x,hx,rfl⟩:=h
  obtain ⟨hi,rfl⟩:=x0c.1 hx
  rw [x01 xs i hi]
  refine ⟨hi,h1,?_⟩
  cases ag <;> exact h2
 ·rintro ⟨hi,h1,h2⟩
  rw [x01 xs i hi] at h1 h2
  refine oN (r:=f xs[i]) (by rw [x0y,x0d hi];rfl) h1 ?_
  cases ag <;> exact h2
@[simp] theorem Ft {b all ks n} : aS ((b,all)::ks) (.ptx n)=if n.any (aA b all) then .any else aS ks (.ptx n):=by
 have h : aS ((b,all)::ks) (.ptx n)=bif (n.any (aA b all) || aF ks (.ptx n)) then .any else .ptx n:=bz ..
 rw [h,bz]
 cases n.any (aA b all) <;> rfl
@[simp] theorem Fv {b all ks k sz n} : aS ((b,all)::ks) (.rfx k sz n)=if n.any (aA b all) then .any else aS ks (.rfx k sz n):=by
 have h : aS ((b,all)::ks) (.rfx k sz n)=bif (n.any (aA b all) || aF ks (.rfx k sz n)) then .any else .rfx k sz n:=bz ..
 rw [h,bz]
 cases n.any (aA b all) <;> rfl
@[simp] theorem Fz {b all ks n} : aS ((b,all)::ks) (.tpx n)=if n.any (aA b all) then .any else aS ks (.tpx n):=by
 have h : aS ((b,all)::ks) (.tpx n)=bif (n.any (aA b all) || aF ks (.tpx n)) then .any else .tpx n:=bz ..
 rw [h,bz]
 cases n.any (aA b all) <;> rfl
@[simp] theorem FN {b all n es} : aA b all (slx n es)=false:=by cases n <;> cases es <;> rfl
@[simp] theorem FL {b all p k n} : aA b all (.ref p k n)=bg b all p:=zR
@[simp] theorem FF {b all p k n} : aA b all (.adr p k n)=bg b all p:=zR
@[simp] theorem FG {b all T p k n} : aA b all (.ifa T p k n)=bg b all p:=zR
@[simp] theorem FH {b all T n} : aA b all (.ifi T n)=false:=zR
@[simp] theorem FM {b all k n} : aA b all (.slv k n)=false:=zR
@[simp] theorem FJ {b all c} : aA b all (.mrf c)=(all && c == b):=zR
@[simp] theorem FI {b all k n} : aA b all (.int k n)=false:=zR
@[simp] theorem BJ {b all n} : aA b all (.bool n)=false:=zR
@[simp] theorem FO {b all n} : aA b all (.str n)=false:=zR
@[simp] theorem BM {b all} : aA b all .nils=false:=zR
@[simp] theorem BL {b all} : aA b all .nilp=false:=zR
@[simp] theorem J8 {b all n} : aA b all (.sl n)=false:=zR
@[simp] theorem FK {b all n} : aA b all (.ptr n)=false:=zR
@[simp] theorem J7 {b all g n} : aA b all (.fn g n)=false:=zR
@[simp] theorem Fq {b all ks c} : aS ((b,all)::ks) (.mrf c)=if (all && c == b) then .any else aS ks (.mrf c):=by
 have h : aS ((b,all)::ks) (.mrf c)=bif ((all && c == b) || aF ks (.mrf c)) then .any else .mrf c:=bz ..
 rw [h,bz]
 cases all && c == b <;> rfl
end Go.Gv

namespace Go.Gv
section
variable {C : CC} {hs : Option (List Nat)} {K : Env -> Prop} {ns : List ar} {dst : Option Nat} {u : Tag (hs,K,ns)} {e : Env} {R : List Nat} {acc : List (List Nat × List Nat)}
theorem ay {sz : Nat} {es : List (List D)} {i : Nat} {c : List D} (h : es[i]? = some c) : gr C hs K ns dst u e R acc sz es i=(c.length=sz /\ dW C hs K ns dst ⟨⟩ e R acc (.ptr c)):=by
 apply propext
 unfold gr dW
 rw [h]
 exact ⟨fun ⟨_,h1,h2⟩=>by cases h1;exact h2,fun h2=>⟨c,rfl,h2⟩⟩
theorem bA {n : Nat} {ag : Bool} {p : Pa} {es : List (List D)} {i off : Nat} {r : List D} (hr : es[i]? = some r) : kw C hs K ns dst u e R acc n ag p es i off=(off + n <= r.length /\ match ag with
    | true=>(((r.drop off).take n).all isV=true -> dW C hs K ns dst ⟨⟩ e R acc (.agg ((r.drop off).take n))) /\
      (((r.drop off).take n).all isV=false -> dW C hs K ns dst ⟨⟩ e R acc (.agx (((r.drop off).take n).mapIdx fun j c=>ldc p i (off + j) c)))
    | false=>dW C hs K ns dst ⟨⟩ e R acc (ldc p i off ((r.drop off).headD .any))):=by
 apply propext
 constructor
 ·rintro ⟨r',h,h1,h2⟩
  rw [hr] at h
  cases h
  refine ⟨h1,?_⟩
  cases ag <;> exact h2
 ·rintro ⟨h1,h2⟩
  refine oN hr h1 ?_
  cases ag <;> exact h2
@[simp] theorem HZ {sz : Nat} {c0 : List D} {es : List (List D)} : gr C hs K ns dst u e R acc sz (c0::es) 0=(c0.length=sz /\ dW C hs K ns dst ⟨⟩ e R acc (.ptr c0)):=ay rfl
theorem vz {n : Nat} {ag : Bool} {p : Pa} {off : Nat} {c0 : List D} {es : List (List D)} : kw C hs K ns dst u e R acc n ag p (c0::es) 0 off=(off + n <= c0.length /\ match ag with
    | true=>(((c0.drop off).take n).all isV=true -> dW C hs K ns dst ⟨⟩ e R acc (.agg ((c0.drop off).take n))) /\
      (((c0.drop off).take n).all isV=false -> dW C hs K ns dst ⟨⟩ e R acc (.agx (((c0.drop off).take n).mapIdx fun j c=>ldc p 0 (off + j) c)))
    | false=>dW C hs K ns dst ⟨⟩ e R acc (ldc p 0 off ((c0.drop off).headD .any))):=bA rfl
@[simp] theorem H0 {sz : Nat} {c0 c1 : List D} {es : List (List D)} : gr C hs K ns dst u e R acc sz (c0::c1::es) 1=(c1.length=sz /\ dW C hs K ns dst ⟨⟩ e R acc (.ptr c1)):=ay rfl
theorem vA {n : Nat} {ag : Bool} {p : Pa} {off : Nat} {c0 c1 : List D} {es : List (List D)} : kw C hs K ns dst u e R acc n ag p (c0::c1::es) 1 off=(off + n <= c1.length /\ match ag with
    | true=>(((c1.drop off).take n).all isV=true -> dW C hs K ns dst ⟨⟩ e R acc (.agg ((c1.drop off).take n))) /\
      (((c1.drop off).take n).all isV=false -> dW C hs K ns dst ⟨⟩ e R acc (.agx (((c1.drop off).take n).mapIdx fun j c=>ldc p 1 (off + j) c)))
    | false=>dW C hs K ns dst ⟨⟩ e R acc (ldc p 1 off ((c1.drop off).headD .any))):=bA rfl
@[simp] theorem Ia {sz : Nat} {c0 c1 c2 : List D} {es : List (List D)} : gr C hs K ns dst u e R acc sz (c0::c1::c2::es) 2=(c2.length=sz /\ dW C hs K ns dst ⟨⟩ e R acc (.ptr c2)):=ay rfl
theorem vB {n : Nat} {ag : Bool} {p : Pa} {off : Nat} {c0 c1 c2 : List D} {es : List (List D)} : kw C hs K ns dst u e R acc n ag p (c0::c1::c2::es) 2 off=(off + n <= c2.length /\ match ag with
    | true=>(((c2.drop off).take n).all isV=true -> dW C hs K ns dst ⟨⟩ e R acc (.agg ((c2.drop off).take n))) /\
      (((c2.drop off).take n).all isV=false -> dW C hs K ns dst ⟨⟩ e R acc (.agx (((c2.drop off).take n).mapIdx fun j c=>ldc p 2 (off + j) c)))
    | false=>dW C hs K ns dst ⟨⟩ e R acc (ldc p 2 off ((c2.drop off).headD .any))):=bA rfl
@[simp] theorem Ib {sz : Nat} {c0 c1 c2 c3 : List D} {es : List (List D)} : gr C hs K ns dst u e R acc sz (c0::c1::c2::c3::es) 3=(c3.length=sz /\ dW C hs K ns dst ⟨⟩ e R acc (.ptr c3)):=ay rfl
theorem vC {n : Nat} {ag : Bool} {p : Pa} {off : Nat} {c0 c1 c2 c3 : List D} {es : List (List D)} : kw C hs K ns dst u e R acc n ag p (c0::c1::c2::c3::es) 3 off=(off + n <= c3.length /\ match ag with
    | true=>(((c3.drop off).take n).all isV=true -> dW C hs K ns dst ⟨⟩ e R acc (.agg ((c3.drop off).take n))) /\
      (((c3.drop off).take n).all isV=false -> dW C hs K ns dst ⟨⟩ e R acc (.agx (((c3.drop off).take n).mapIdx fun j c=>ldc p 3 (off + j) c)))
    | false=>dW C hs K ns dst ⟨⟩ e R acc (ldc p 3 off ((c3.drop off).headD .any))):=bA rfl
@[simp] theorem Ic {sz : Nat} {c0 c1 c2 c3 c4 : List D} {es : List (List D)} : gr C hs K ns dst u e R acc sz (c0::c1::c2::c3::c4::es) 4=(c4.length=sz /\ dW C hs K ns dst ⟨⟩ e R acc (.ptr c4)):=ay rfl
theorem vD {n : Nat} {ag : Bool} {p : Pa} {off : Nat} {c0 c1 c2 c3 c4 : List D} {es : List (List D)} : kw C hs K ns dst u e R acc n ag p (c0::c1::c2::c3::c4::es) 4 off=(off + n <= c4.length /\ match ag with
    | true=>(((c4.drop off).take n).all isV=true -> dW C hs K ns dst ⟨⟩ e R acc (.agg ((c4.drop off).take n))) /\
      (((c4.drop off).take n).all isV=false -> dW C hs K ns dst ⟨⟩ e R acc (.agx (((c4.drop off).take n).mapIdx fun j c=>ldc p 4 (off + j) c)))
    | false=>dW C hs K ns dst ⟨⟩ e R acc (ldc p 4 off ((c4.drop off).headD .any))):=bA rfl
attribute [simp] vz vA vB vC vD
end
end Go.Gv

namespace Go.Gv
section
variable {C : CC} {hs : Option (List Nat)} {K : Env -> Prop} {ns : List ar} {dst : Option Nat} {u : Tag (hs,K,ns)} {e : Env} {R : List Nat} {acc : List (List Nat × List Nat)}
@[simp] theorem Id {sz : Nat} {c0 c1 c2 c3 c4 c5 : List D} {es : List (List D)} : gr C hs K ns dst u e R acc sz (c0::c1::c2::c3::c4::c5::es) 5=(c5.length=sz /\ dW C hs K ns dst ⟨⟩ e R acc (.ptr c5)):=ay rfl
@[simp] theorem Lf {n : Nat} {ag : Bool} {p : Pa} {off : Nat} {c0 c1 c2 c3 c4 c5 : List D} {es : List (List D)} : kw C hs K ns dst u e R acc n ag p (c0::c1::c2::c3::c4::c5::es) 5 off=(off + n <= c5.length /\ match ag with
    | true=>(((c5.drop off).take n).all isV=true -> dW C hs K ns dst ⟨⟩ e R acc (.agg ((c5.drop off).take n))) /\
      (((c5.drop off).take n).all isV=false -> dW C hs K ns dst ⟨⟩ e R acc (.agx (((c5.drop off).take n).mapIdx fun j c=>ldc p 5 (off + j) c)))
    | false=>dW C hs K ns dst ⟨⟩ e R acc (ldc p 5 off ((c5.drop off).headD .any))):=bA rfl
@[simp] theorem Ie {sz : Nat} {c0 c1 c2 c3 c4 c5 c6 : List D} {es : List (List D)} : gr C hs K ns dst u e R acc sz (c0::c1::c2::c3::c4::c5::c6::es) 6=(c6.length=sz /\ dW C hs K ns dst ⟨⟩ e R acc (.ptr c6)):=ay rfl
@[simp] theorem Lg {n : Nat} {ag : Bool} {p : Pa} {off : Nat} {c0 c1 c2 c3 c4 c5 c6 : List D} {es : List (List D)} : kw C hs K ns dst u e R acc n ag p (c0::c1::c2::c3::c4::c5::c6::es) 6 off=(off + n <= c6.length /\ match ag with
    | true=>(((c6.drop off).take n).all isV=true -> dW C hs K ns dst ⟨⟩ e R acc (.agg ((c6.drop off).take n))) /\
      (((c6.drop off).take n).all isV=false -> dW C hs K ns dst ⟨⟩ e R acc (.agx (((c6.drop off).take n).mapIdx fun j c=>ldc p 6 (off + j) c)))
    | false=>dW C hs K ns dst ⟨⟩ e R acc (ldc p 6 off ((c6.drop off).headD .any))):=bA rfl
@[simp] theorem If {sz : Nat} {c0 c1 c2 c3 c4 c5 c6 c7 : List D} {es : List (List D)} : gr C hs K ns dst u e R acc sz (c0::c1::c2::c3::c4::c5::c6::c7::es) 7=(c7.length=sz /\ dW C hs K ns dst ⟨⟩ e R acc (.ptr c7)):=ay rfl
@[simp] theorem Lh {n : Nat} {ag : Bool} {p : Pa} {off : Nat} {c0 c1 c2 c3 c4 c5 c6 c7 : List D} {es : List (List D)} : kw C hs K ns dst u e R acc n ag p (c0::c1::c2::c3::c4::c5::c6::c7::es) 7 off=(off + n <= c7.length /\ match ag with
    | true=>(((c7.drop off).take n).all isV=true -> dW C hs K ns dst ⟨⟩ e R acc (.agg ((c7.drop off).take n))) /\
      (((c7.drop off).take n).all isV=false -> dW C hs K ns dst ⟨⟩ e R acc (.agx (((c7.drop off).take n).mapIdx fun j c=>ldc p 7 (off + j) c)))
    | false=>dW C hs K ns dst ⟨⟩ e R acc (ldc p 7 off ((c7.drop off).headD .any))):=bA rfl
end
end Go.Gv

namespace Go.Gv
section
variable {C : CC} {hs : Option (List Nat)} {K : Env -> Prop} {ns : List ar} {e : Env} {R : List Nat} {acc : List (List Nat × List Nat)}
end
end Go.Gv

namespace Go.Gv
section
variable {C : CC} {hs : Option (List Nat)} {K : Env -> Prop} {ns : List ar} {e : Env} {R : List Nat} {acc : List (List Nat × List Nat)}
end
end Go.Gv

namespace Go.Gv
section
variable {C : CC} {hs : Option (List Nat)} {K : Env -> Prop} {ns : List ar} {dst : Option Nat} {e : Env} {R : List Nat} {acc : List (List Nat × List Nat)} {u : Tag (hs,K,ns)}
@[simp] theorem F8 : mW none=[]:=zR
@[simp] theorem F9 {x : Opd} : mW (some x)=[x]:=zR
@[simp] theorem Lc {c c' k n : Nat} {q : Pa} : jA c q (.ref (.r c') k n)=if c'=c then .ref q k n else .ref (.r c') k n:=zR
@[simp] theorem Gc {c b i o k n : Nat} {q : Pa} : jA c q (.ref (.n b i o) k n)=.ref (.n b i o) k n:=zR
@[simp] theorem Qs {c : Nat} {q : Pa} {es} : jA c q (.sl es)=.sl es:=zR
@[simp] theorem Gb {c : Nat} {q : Pa} : jA c q .nils=.nils:=zR
@[simp] theorem Lb {c : Nat} {q : Pa} {k n} : jA c q (.int k n)=.int k n:=zR
@[simp] theorem Ld {c : Nat} {q : Pa} {b es} : jA c q (slx b es)=slx b es:=by cases b <;> cases es <;> rfl
@[simp] theorem Bw {b c i o k n : Nat} : gT b (.ref (.n c i o) k n)=(c != b || (i == 0 && o == 1)):=zR
@[simp] theorem Bx {b c k n : Nat} : gT b (.ref (.r c) k n)=true:=zR
@[simp] theorem JR {b : Nat} {es} : gT b (.sl es)=true:=zR
@[simp] theorem Bv {b : Nat} : gT b .nils=true:=zR
@[simp] theorem Fb {b : Nat} {k n} : gT b (.int k n)=true:=zR
@[simp] theorem Fc {b : Nat} {x es} : gT b (slx x es)=true:=by cases x <;> cases es <;> rfl
def xF (C : CC) (hs : Option (List Nat)) (K : Env -> Prop) (ns : List ar) (dst : Option Nat) (_ : Tag (hs,K,ns)) (e : Env) (R : List Nat) (acc : List (List Nat × List Nat)) (T : Nat) (d : D) : Prop:=match d with
 | .adr p i off=>dW C hs K ns dst ⟨⟩ e R acc (.ifa T p i off)
 | .int k n=>k=.i64 /\ dW C hs K ns dst ⟨⟩ e R acc (.ifi T n)
 | _=>False
@[simp] theorem Qf {T x v1} : opW C hs K ns dst (.mkI T x) v1 e R acc=xF C hs K ns dst ⟨⟩ e R acc T (vd (ab e) x):=by
 show res (ab e) _ (.mkI T x)=_
 simp only [res,xF]
 cases vd (ab e) x <;> rfl
@[simp] theorem J9 {T p i off} : xF C hs K ns dst u e R acc T (.adr p i off)=dW C hs K ns dst ⟨⟩ e R acc (.ifa T p i off):=zR
@[simp] theorem Ka {T k n} : xF C hs K ns dst u e R acc T (.int k n)=(k=.i64 /\ dW C hs K ns dst ⟨⟩ e R acc (.ifi T n)):=zR
def CX (C : CC) (hs : Option (List Nat)) (K : Env -> Prop) (ns : List ar) (dst : Option Nat) (_ : Tag (hs,K,ns)) (e : Env) (R : List Nat) (acc : List (List Nat × List Nat)) (T : Nat) (d : D) : Prop:=match d with
 | .ifi T' n=>T'=T /\ dW C hs K ns dst ⟨⟩ e R acc (.int .i64 n)
 | _=>False
@[simp] theorem Qp {T x v1} : opW C hs K ns dst (.tya T x) v1 e R acc=CX C hs K ns dst ⟨⟩ e R acc T (vd (ab e) x):=by
 show res (ab e) _ (.tya T x)=_
 simp only [res,CX]
 cases vd (ab e) x <;> rfl
@[simp] theorem LC {T T' n} : CX C hs K ns dst u e R acc T (.ifi T' n)=(T'=T /\ dW C hs K ns dst ⟨⟩ e R acc (.int .i64 n)):=zR
def qJ (C : CC) (g : Nat) (hs : Option (List Nat)) (K : Env -> Prop) (ns : List ar) (dst : Option Nat) (_ : Tag (hs,K,ns)) (e : Env) (R : List Nat) (acc : List (List Nat × List Nat)) (b sz : Nat) (es : List (List D)) (W : List D) : Prop :=
 ∃ d,∃ es' : List (List D),0 < es'.length /\ C g (.blk sz es::W) d [.blk sz es',.nilp] /\ doW C hs K ns ⟨⟩ e R acc (bV dst d++[(b,.blk sz es')]) [(b,false)]
theorem cv {g b sz : Nat} {es es' : List (List D)} {W : List D} {d : D} (h : C g (.blk sz es::W) d [.blk sz es',.nilp]) (hp : 0 < es'.length)
  (hk : doW C hs K ns ⟨⟩ e R acc (bV dst d++[(b,.blk sz es')]) [(b,false)]) : qJ C g hs K ns dst u e R acc b sz es W:=⟨d,es',hp,h,hk⟩
def G3 (C : CC) (g : Nat) (hs : Option (List Nat)) (K : Env -> Prop) (ns : List ar) (dst : Option Nat) (_ : Tag (hs,K,ns)) (e : Env) (R : List Nat) (acc : List (List Nat × List Nat)) (T : Nat) (xs : List Opd) (d : D) : Prop:=match d with
 | .ifa T' (.r b) i off=>T'=T /\ i=0 /\ off=0 /\ d5 (ab e b) (fun sz es=>0 < es.length /\ (∀ x ∈ xs,isV (vd (ab e) x)=true) /\ qJ C g hs K ns dst ⟨⟩ e R acc b sz es (.adr (.r 10015) 0 0::xs.map (vd (ab e)))) ⟨⟩
 | _=>False
@[simp] theorem QN {g xs T T' b i off} : G3 C g hs K ns dst u e R acc T xs (.ifa T' (.r b) i off)=(T'=T /\ i=0 /\ off=0 /\ d5 (ab e b) (fun sz es=>0 < es.length /\ (∀ x ∈ xs,isV (vd (ab e) x)=true) /\ qJ C g hs K ns dst ⟨⟩ e R acc b sz es (.adr (.r 10015) 0 0::xs.map (vd (ab e)))) ⟨⟩):=zR
@[simp] theorem FY {g m T x xs v1} : opW C hs K ns dst (.callI g m T x xs) v1 e R acc=G3 C g hs K ns dst ⟨⟩ e R acc T xs (vd (ab e) x):=by
 unfold opW
 simp only [aD]
 cases vd (ab e) x <;> first | rfl | skip
def G4 (C : CC) (g : Nat) (hs : Option (List Nat)) (K : Env -> Prop) (ns : List ar) (dst : Option Nat) (_ : Tag (hs,K,ns)) (e : Env) (R : List Nat) (acc : List (List Nat × List Nat)) (xs : List Opd) (d : D) : Prop:=match d with
 | .ifa T (.r b) i off=>i=0 /\ off=0 /\ d5 (ab e b) (fun sz es=>0 < es.length /\ (∀ x ∈ xs,isV (vd (ab e) x)=true) /\ qJ C g hs K ns dst ⟨⟩ e R acc b sz es (.ifa T (.r 10015) 0 0::xs.map (vd (ab e)))) ⟨⟩
 | _=>False
@[simp] theorem QO {g xs T b i off} : G4 C g hs K ns dst u e R acc xs (.ifa T (.r b) i off)=(i=0 /\ off=0 /\ d5 (ab e b) (fun sz es=>0 < es.length /\ (∀ x ∈ xs,isV (vd (ab e) x)=true) /\ qJ C g hs K ns dst ⟨⟩ e R acc b sz es (.ifa T (.r 10015) 0 0::xs.map (vd (ab e)))) ⟨⟩):=zR
@[simp] theorem FZ {g x xs v1} : opW C hs K ns dst (.callM g x xs) v1 e R acc=G4 C g hs K ns dst ⟨⟩ e R acc xs (vd (ab e) x):=by
 unfold opW
 simp only [aD]
 cases vd (ab e) x <;> first | rfl | skip
def zF (C : CC) (g : Nat) (hs : Option (List Nat)) (K : Env -> Prop) (ns : List ar) (dst : Option Nat) (_ : Tag (hs,K,ns)) (e : Env) (R : List Nat) (acc : List (List Nat × List Nat)) (xs : List Opd) (d : D) : Prop:=match d with
 | .ref (.r b) k n=>k=0 /\ d5 (ab e b) (fun sz es=>0 < es.length /\ es.length=n /\ (∀ x ∈ xs,isV (vd (ab e) x)=true) /\ qJ C g hs K ns dst ⟨⟩ e R acc b sz es (.ref (.r 10015) 0 n::xs.map (vd (ab e)))) ⟨⟩
 | _=>False
@[simp] theorem LS {g xs b k n} : zF C g hs K ns dst u e R acc xs (.ref (.r b) k n)=(k=0 /\ d5 (ab e b) (fun sz es=>0 < es.length /\ es.length=n /\ (∀ x ∈ xs,isV (vd (ab e) x)=true) /\ qJ C g hs K ns dst ⟨⟩ e R acc b sz es (.ref (.r 10015) 0 n::xs.map (vd (ab e)))) ⟨⟩):=zR
@[simp] theorem F0 {g x xs v1} : opW C hs K ns dst (.callR g x xs) v1 e R acc=zF C g hs K ns dst ⟨⟩ e R acc xs (vd (ab e) x):=by
 unfold opW
 simp only [aD]
 cases vd (ab e) x <;> first | rfl | skip
theorem yB {x y : Opd} {v1 : _} {b i off n sz0 sz : Nat} {es0 es : List (List D)} {row0 : List D} (hx : vd (ab e) x=.adr (.r b) i off) (hy : vd (ab e) y=.ref (.n b i off) 0 n) (hb : ab e b=.blk sz0 es0) (h1 : es0[i]? = some row0) (h2 : row0[off]? = some (.own sz es)) (h3 : n <= es.length)
  (hk : doW C hs K ns ⟨⟩ e R acc [(b,.blk sz0 (bG es0 i off 1 [.own sz (es.take n)]))] []) : opW C hs K ns none (.stL x y) v1 e R acc:=by
 unfold opW
 simp only [aD]
 refine ⟨trivial,?_⟩
 rw [hx,hy]
 refine ⟨rfl,rfl,rfl,rfl,?_⟩
 rw [hb]
 exact ⟨row0,h1,sz,es,h2,h3,hk⟩
theorem jS {g s : Nat} {x : Opd} {xs : List Opd} {v1 : _} {T b sz sz1 sz2 : Nat} {fs sp fs' : List (List D)} {ds : List D} {d : D} (hx : vd (ab e) x=.ifa T (.r b) 0 0) (hs0 : s < 10000) (hd : dst ≠ some s) (hxs : ∀ x ∈ xs,aW (vd (ab e) x)=true)
  (hb : ab e b=.blk sz [[.own sz1 fs,.own sz2 sp]]) (hs1 : ab e s=.ptx ds) (hk1 : ds.all (gT b)=true) (f1 : ∀ e ∈ fs,∀ c ∈ e,aW c=true) (f2 : ∀ e ∈ sp,∀ c ∈ e,aW c=true) (hd1 : aW d=true \/ d=.tup []) (f3 : ∀ e ∈ fs',∀ c ∈ e,aW c=true)
  (hc : C g (.blk sz [[.own sz1 fs,.slv 0 sp]]::.ifa T (.r 10015) 0 0::xs.map (vd (ab e))) d [.blk sz [[.own sz1 fs',.slv 0 sp]],.nils])
  (hk : doW C hs K ns ⟨⟩ e R acc (bV dst d++[(b,.blk sz [[.own sz1 fs',.own sz2 sp]]),(s,.ptx ds)]) [(b,false)]) : opW C hs K ns dst (.callQ g s x xs) v1 e R acc:=by
 unfold opW
 simp only [aD]
 rw [hx]
 refine ⟨rfl,rfl,hs0,hd,hxs,?_⟩
 rw [hb]
 simp only
 rw [hs1]
 exact ⟨hk1,f1,f2,d,fs',hd1,f3,hc,hk⟩
theorem t7 {s t : Nat} {x : Opd} {v1 : _} {c n sz : Nat} {es : List (List D)} {ds : List D} (hs0 : s < 10000) (hst : s ≠ t) (hx : vd (ab e) x=.agx [.nils,.ref (.r c) 0 n]) (hc : c ≠ rt t 0) (hcb : ab e c=.blk sz es) (hsz : 0 < sz) (hl : es.length=n) (h1 : ∀ e ∈ es,∀ c ∈ e,aC c=true)
  (hs1 : ab e s=.ptx ds) (hm : (ds.all fun d=>!aA (rt t 0) true d)=true)
  (hk0 : n=0 -> doW C hs K ns ⟨⟩ e R acc [(t,.adr (.r (rt t 0)) 0 0),(rt t 0,.blk 2 [[.own sz [],.any]])] [(rt t 0,true)])
  (hk : 0 < n -> doW C hs K ns ⟨⟩ e R acc [(t,.adr (.r (rt t 0)) 0 0),(rt t 0,.blk 2 [[.own sz [],.own sz es]]),(c,.any),(s,.ptx (ds.map (jA c (.n (rt t 0) 0 1))))] [(rt t 0,true)]) : opW C hs K ns (some t) (.boxK s x) v1 e R acc:=by
 unfold opW
 simp only [aD]
 refine ⟨hs0,hst,?_⟩
 rw [hx]
 refine ⟨rfl,hc,?_⟩
 rw [hcb]
 refine ⟨hsz,hl,h1,?_⟩
 rw [hs1]
 refine ⟨hm,?_⟩
 by_cases hn : n=0
 ·rw [if_pos hn];exact hk0 hn
 ·rw [if_neg hn];exact hk (Nat.pos_of_ne_zero hn)
end
end Go.Gv

namespace Go.Gv
def lg (n : Int) : Bool:=-1125899906842624 <= n && n <= 1125899906842624
theorem ah {n m : Int} (h : n=m) (h2 : -9223372036854775808 <= m /\ m < 9223372036854775808) : IntKind.wrap .i64 n=m:=by
 subst h
 have e1 : IntKind.i64.signed=true:=rfl
 have e2 : (2 ^ (IntKind.i64.bits - 1) : Int)=9223372036854775808:=rfl
 have e3 : (2 ^ IntKind.i64.bits : Int)=18446744073709551616:=rfl
 unfold IntKind.wrap
 simp only [e1,e2,e3,x0S,x0g]
 split <;> omega
variable {C : CC} (hC : aq prog C)
include hC
end Go.Gv

namespace Go.Gv
structure SlI where
 n : Bool
 l : List Int
 deriving Inhabited
structure Sec where
 name : List UInt8
 height : Int
 price : Int
 areaN : Bool
 area : List (Int × Int)
 convN : Bool
 conv : List (Int × Int)
 deriving Inhabited
def d8 {α : Type} (p : α -> Bool) (xs : List α) : Int:=match xs.findIdx? p with
 | some i=>i
 | none=>-1
theorem eJ {α : Type} {p : α -> Bool} {xs : List α} {i : Nat} (hj : ∀ (j : Nat) (h : j < xs.length),j < i -> p xs[j]=false) (hi : i < xs.length) (h : p xs[i]=true) : d8 p xs=i:=by
 have : xs.findIdx? p=some i:=by
  rw [x1z]
  exact ⟨hi,h,fun j hji=>by simp [hj j (by omega) hji]⟩
 simp [d8,this]
theorem dU {α : Type} {p : α -> Bool} {xs : List α} (hj : ∀ (j : Nat) (h : j < xs.length),p xs[j]=false) : d8 p xs=-1:=by
 have : xs.findIdx? p=none:=by
  rw [List.findIdx?_eq_none_iff]
  intro x hx
  obtain ⟨j,h,rfl⟩:=x0J.1 hx
  exact hj j h
 simp [d8,this]
theorem gR {α : Type} (p : α -> Bool) (xs : List α) : decide (0 <= d8 p xs)=xs.any p:=by
 unfold d8
 split
 ·rename_i i h
  rw [x1z] at h
  obtain ⟨h1,h2,_⟩:=h
  have : xs.any p=true:=x0x.2 ⟨_,x0t h1,h2⟩
  simp [this]
 ·rename_i h
  rw [List.findIdx?_eq_none_iff] at h
  have : xs.any p=false:=by rw [x1c];intro x hx;simp [h x hx]
  simp [this]
variable {C : CC} (hC : aq prog C)
include hC
theorem uN {b : Bool} {xs : List Int} {g : Nat} {cs : List D} (p : Int -> Bool) (hs : xs.length < 2 ^ 62) (hp : ∀ x ∈ xs,C g (.int .i64 x::cs) (.bool (p x)) []) : C 35 [slx b (xs.map fun x=>[.int .i64 x]),.fn g cs] (.int .i64 (d8 p xs)) []:=by
 refine aE hC (nf:=N35) rfl rfl ?_
 simp [N35]
 refine az Nat (fun i=>[(0,slx b (xs.map fun x=>[.int .i64 x])),(1,.fn g cs),(7,.int .i64 xs.length),(8,.int .i64 i)]) (fun i=>i <= xs.length /\ ∀ (j : Nat) (h : j < xs.length),j < i -> p xs[j]=false) (fun i=>xs.length - i) 0 (by simp) (by simp) ?_
 rintro i ⟨hi,hj⟩
 simp
 refine al (fun h=>?_) (fun h=>?_) <;> simp [h] <;> simp at h
 ·have hw : IntKind.wrap .i64 ((i : Int) + 1)=((i + 1 : Nat) : Int):=ah (by omega) (by omega)
  have hc:=hp _ (x0t h)
  simp [h,x1D] at hc ⊢
  refine aa hc (.inl rfl) ?_
  simp
  refine al (fun h1=>?_) (fun h1=>?_) <;> simp [h1,hw]
  ·rw [eJ hj h h1]
  ·refine ⟨i + 1,⟨by omega,fun j hl hjj=>?_⟩,by omega,rfl⟩
   rcases x0I.1 hjj with h2 | rfl
   ·exact hj j hl h2
   ·exact h1
 ·rw [dU (fun j hl=>hj j hl (by omega))]
theorem lS {b : Bool} {xs : List Int} {g : Nat} {cs : List D} (p : Int -> Bool) (hs : xs.length < 2 ^ 62) (hp : ∀ x ∈ xs,C g (.int .i64 x::cs) (.bool (p x)) []) : C 11 [slx b (xs.map fun x=>[.int .i64 x]),.fn g cs] (.bool (xs.any p)) []:=by
 refine aE hC (nf:=N11) rfl rfl ?_
 simp [N11]
 refine aa (uN hC p hs hp) (.inl rfl) ?_
 simp [gR]
end Go.Gv

namespace Go.Gv
structure Spt where
 x : Int
 y : Int
 z : Int
 deriving Inhabited,DecidableEq
structure Fce where
 a : Int
 b : Int
 c : Int
 k : Int
 deriving Inhabited,DecidableEq
structure Msh where
 sn : Bool
 s : List Spt
 fn : Bool
 f : List Fce
def eF (s : Spt) : List D:=[.int .i64 s.x,.int .i64 s.y,.int .i64 s.z]
def bk (f : Fce) : List D:=[.int .i64 f.a,.int .i64 f.b,.int .i64 f.c,.int .i64 f.k]
def bi (m : Msh) : List D:=[slx m.sn (m.s.map eF),slx m.fn (m.f.map bk)]
theorem b5 (s : Spt) : eF s=[.int .i64 s.x,.int .i64 s.y,.int .i64 s.z]:=zR
theorem aH (f : Fce) : bk f=[.int .i64 f.a,.int .i64 f.b,.int .i64 f.c,.int .i64 f.k]:=zR
theorem ae (m : Msh) : bi m=[slx m.sn (m.s.map eF),slx m.fn (m.f.map bk)]:=zR
def spt (m : Msh) (i : Nat) : Spt:=m.s[i]!
def fce (m : Msh) (i : Nat) : Fce:=m.f[i]!
@[simp high] theorem R6 (m : Msh) (i : Nat) : m.s[i]! = spt m i:=zR
@[simp high] theorem Rg (m : Msh) (i : Nat) : m.f[i]! = fce m i:=zR
@[simp high] theorem R7 (m : Msh) (i : Nat) : m.s[i]?.getD default=spt m i:=by simp only [spt,List.getElem!_eq_getElem?_getD]
@[simp high] theorem Rh (m : Msh) (i : Nat) : m.f[i]?.getD default=fce m i:=by simp only [fce,List.getElem!_eq_getElem?_getD]
@[simp] theorem Sj (m : Msh) (i : Nat) (h : i < m.s.length) : m.s[i]=spt m i:=(x01 m.s i h).symm
@[simp] theorem nv (m : Msh) (i : Nat) (h : i < m.f.length) : m.f[i]=fce m i:=(x01 m.f i h).symm
abbrev Pnt:=Int × Int
def ptD (p : Pnt) : List D:=[.int .i64 p.1,.int .i64 p.2]
def ptS (s : Spt) : Pnt:=(s.x,s.y)
def okP (p : Pnt) : Bool:=-16777216 <= p.1 && p.1 <= 16777216 && -16777216 <= p.2 && p.2 <= 16777216
def aU (s : Spt) : Bool:=-16777216 <= s.x && s.x <= 16777216 && -16777216 <= s.y && s.y <= 16777216 && -4194304 <= s.z && s.z <= 4194304
theorem oG {s : Spt} (h : aU s=true) : okP (ptS s)=true:=by
 simp only [aU,x0a,x0g] at h
 show okP (s.x,s.y)=true
 simp [okP]
 omega
def cu (a b c : Pnt) : Int:=(b.1 - a.1) * (c.2 - a.2) - (b.2 - a.2) * (c.1 - a.1)
theorem iV {a b k l : Int} (h1 : -k <= a) (h2 : a <= k) (h3 : -l <= b) (h4 : b <= l) : -(k * l) <= a * b /\ a * b <= k * l:=by
 have hk : 0 <= k:=by omega
 have hl : 0 <= l:=by omega
 have e1:=Int.mul_nonneg (show 0 <= k - a by omega) (show 0 <= l - b by omega)
 have e2:=Int.mul_nonneg (show 0 <= k + a by omega) (show 0 <= l + b by omega)
 have e3:=Int.mul_nonneg (show 0 <= k - a by omega) (show 0 <= l + b by omega)
 have e4:=Int.mul_nonneg (show 0 <= k + a by omega) (show 0 <= l - b by omega)
 simp only [Int.sub_mul,Int.mul_sub,Int.add_mul,Int.mul_add] at e1 e2 e3 e4
 omega
theorem fG {p : Pnt} (h : okP p=true) : -16777216 <= p.1 /\ p.1 <= 16777216 /\ -16777216 <= p.2 /\ p.2 <= 16777216:=by
 simp only [okP,x0a,x0g] at h
 omega
theorem oS {a b c : Pnt} (ha : okP a=true) (hb : okP b=true) (hc : okP c=true) :
  (-1125899906842624 <= (b.1 - a.1) * (c.2 - a.2) /\ (b.1 - a.1) * (c.2 - a.2) <= 1125899906842624) /\ (-1125899906842624 <= (b.2 - a.2) * (c.1 - a.1) /\ (b.2 - a.2) * (c.1 - a.1) <= 1125899906842624):=by
 have:=fG ha
 have:=fG hb
 have:=fG hc
 exact ⟨iV (k:=33554432) (l:=33554432) (by omega) (by omega) (by omega) (by omega),iV (k:=33554432) (l:=33554432) (by omega) (by omega) (by omega) (by omega)⟩
abbrev Tri:=Pnt × Pnt × Pnt
def b4 (t : Tri) : List D:=[.int .i64 t.1.1,.int .i64 t.1.2,.int .i64 t.2.1.1,.int .i64 t.2.1.2,.int .i64 t.2.2.1,.int .i64 t.2.2.2]
def okT (t : Tri) : Bool:=okP t.1 && okP t.2.1 && okP t.2.2
def gm (t : Tri) : Int:=cu t.1 t.2.1 t.2.2
def gx (p q : Pnt) (u : Tri) : Bool:=cu p q u.1 <= 0 && cu p q u.2.1 <= 0 && cu p q u.2.2 <= 0
def oO (t u : Tri) : Bool:=gx t.1 t.2.1 u || gx t.2.1 t.2.2 u || gx t.2.2 t.1 u
def ovT (t u : Tri) : Bool:=!oO t u && !oO u t
def aM (m : Msh) (f : Fce) : Tri:=(ptS (spt m f.a.toNat),ptS (spt m f.b.toNat),ptS (spt m f.c.toNat))
def crn (f : Fce) : Nat -> Int
 | 0=>f.a
 | 1=>f.b
 | 2=>f.c
 | 3=>f.a
 | 4=>f.b
 | _=>f.c
def df (n : Nat) (a : Int) : Bool:=0 <= a && a < n
def inS (m : Msh) (f : Fce) : Bool:=df m.s.length f.a && df m.s.length f.b && df m.s.length f.c
theorem iS {m : Msh} {f : Fce} (h : inS m f=true) : (0 <= f.a /\ f.a.toNat < m.s.length) /\ (0 <= f.b /\ f.b.toNat < m.s.length) /\ (0 <= f.c /\ f.c.toNat < m.s.length):=by
 simp only [inS,df,x0a,x0g] at h
 omega
variable {C : CC} (hC : aq prog C)
include hC
theorem vm (p : Pnt) : C 313 [.agg (ptD p)] (.bool (okP p)) []:=by
 refine aE hC (nf:=N313) rfl rfl ?_
 simp [N313,ptD,okP]
 repeat' (refine al (fun h=>?_) (fun h=>?_) <;> simp at h <;> simp [h] <;> try omega)
theorem u4 (s : Spt) : C 303 [.agg (eF s)] (.bool (aU s)) []:=by
 have k:=vm hC (s.x,s.y)
 simp [ptD,okP] at k
 refine aE hC (nf:=N303) rfl rfl ?_
 simp [N303,eF,aU]
 refine aa k (.inl rfl) ?_
 simp
 repeat' (refine al (fun h=>?_) (fun h=>?_) <;> simp at h <;> simp [h] <;> try omega)
theorem rV (s : Spt) : C 289 [.agg (eF s)] (.bool (aU s)) []:=by
 refine aE hC (nf:=N289) rfl rfl ?_
 simp [N289,eF,aU]
 repeat' (refine al (fun h=>?_) (fun h=>?_) <;> simp at h <;> simp [h] <;> try omega)
theorem jy (s : Spt) : C 291 [.agg (eF s)] (.agg (ptD (ptS s))) []:=by
 refine aE hC (nf:=N291) rfl rfl ?_
 simp [N291,eF,ptD,ptS]
theorem pF (m : Msh) : C 302 [.agg (bi m)] (.bool (decide (m.s.length <= 2000) && decide (m.f.length <= 4000))) []:=by
 refine aE hC (nf:=N302) rfl rfl ?_
 simp [N302,bi]
 refine al (fun h=>?_) (fun h=>?_) <;> simp at h <;> simp [h]
 ·rw [decide_eq_true (show m.s.length <= 2000 by omega)]
  simp
  exact Iff.intro (fun h2=>by omega) (fun h2=>by omega)
 ·omega
theorem vE (m : Msh) : C 257 [.agg (bi m)] (.bool (decide (m.s.length <= 2000) && decide (m.f.length <= 4000))) []:=by
 refine aE hC (nf:=N257) rfl rfl ?_
 simp [N257,bi]
 refine al (fun h=>?_) (fun h=>?_) <;> simp at h <;> simp [h]
 ·rw [decide_eq_true (show m.s.length <= 2000 by omega)]
  simp
  exact Iff.intro (fun h2=>by omega) (fun h2=>by omega)
 ·omega
theorem jr (m : Msh) (i : Nat) (h : i < m.s.length) : C 304 [.agg (bi m),.int .i64 i] (.agg (ptD (ptS (spt m i)))) []:=by
 refine aE hC (nf:=N304) rfl rfl ?_
 simp [N304,bi,h,b5,ptD,ptS]
 exact ai (by decide +kernel)
theorem l9 (f : Fce) : C 305 [.agg (bk f)] (.agg [.int .i64 f.a,.int .i64 f.b,.int .i64 f.c]) []:=by
 refine aE hC (nf:=N305) rfl rfl ?_
 simp [N305,bk]
theorem ow (f : Fce) (k : Nat) (hk : k < 3) : C 298 [.agg (bk f),.int .i64 k] (.agg [.int .i64 (crn f k),.int .i64 (crn f (k + 1))]) []:=by
 have k1:=l9 hC f
 refine aE hC (nf:=N298) rfl rfl ?_
 rw [bk] at k1 ⊢
 simp [N298]
 refine aa k1 (.inl rfl) ?_
 have w : IntKind.wrap .i64 ((k : Int) + 1)=((k + 1 : Nat) : Int):=ah (by omega) (by omega)
 have w0 : IntKind.wrap .i64 1=1:=by decide
 have w1 : IntKind.wrap .i64 2=2:=by decide
 have w2 : IntKind.wrap .i64 3=3:=by decide
 rcases (by omega : k=0 \/ k=1 \/ k=2) with rfl | rfl | rfl <;> simp [crn,w0,w1,w2] <;> exact ai (by decide +kernel)
theorem ox {a b c : Pnt} (ha : okP a=true) (hb : okP b=true) (hc : okP c=true) : C 308 [.agg (ptD a),.agg (ptD b),.agg (ptD c)] (.int .i64 (cu a b c)) []:=by
 have:=fG ha
 have:=fG hb
 have:=fG hc
 have h4:=oS ha hb hc
 refine aE hC (nf:=N308) rfl rfl ?_
 have w1 : IntKind.wrap .i64 (b.1 - a.1)=b.1 - a.1:=ah rfl (by omega)
 have w2 : IntKind.wrap .i64 (c.2 - a.2)=c.2 - a.2:=ah rfl (by omega)
 have w3 : IntKind.wrap .i64 (b.2 - a.2)=b.2 - a.2:=ah rfl (by omega)
 have w4 : IntKind.wrap .i64 (c.1 - a.1)=c.1 - a.1:=ah rfl (by omega)
 have w5 : IntKind.wrap .i64 ((b.1 - a.1) * (c.2 - a.2))=(b.1 - a.1) * (c.2 - a.2):=ah rfl (by omega)
 have w6 : IntKind.wrap .i64 ((b.2 - a.2) * (c.1 - a.1))=(b.2 - a.2) * (c.1 - a.1):=ah rfl (by omega)
 have w7 : IntKind.wrap .i64 ((b.1 - a.1) * (c.2 - a.2) - (b.2 - a.2) * (c.1 - a.1))=cu a b c:=ah rfl (by rw [cu];omega)
 simp [N308,ptD,w1,w2,w3,w4,w5,w6,w7]
theorem rW {a b c : Pnt} (ha : okP a=true) (hb : okP b=true) (hc : okP c=true) : C 286 [.agg (ptD a),.agg (ptD b),.agg (ptD c)] (.int .i64 (cu a b c)) []:=by
 have:=fG ha
 have:=fG hb
 have:=fG hc
 have h4:=oS ha hb hc
 refine aE hC (nf:=N286) rfl rfl ?_
 have w1 : IntKind.wrap .i64 (b.1 - a.1)=b.1 - a.1:=ah rfl (by omega)
 have w2 : IntKind.wrap .i64 (c.2 - a.2)=c.2 - a.2:=ah rfl (by omega)
 have w3 : IntKind.wrap .i64 (b.2 - a.2)=b.2 - a.2:=ah rfl (by omega)
 have w4 : IntKind.wrap .i64 (c.1 - a.1)=c.1 - a.1:=ah rfl (by omega)
 have w5 : IntKind.wrap .i64 ((b.1 - a.1) * (c.2 - a.2))=(b.1 - a.1) * (c.2 - a.2):=ah rfl (by omega)
 have w6 : IntKind.wrap .i64 ((b.2 - a.2) * (c.1 - a.1))=(b.2 - a.2) * (c.1 - a.1):=ah rfl (by omega)
 have w7 : IntKind.wrap .i64 ((b.1 - a.1) * (c.2 - a.2) - (b.2 - a.2) * (c.1 - a.1))=cu a b c:=ah rfl (by rw [cu];omega)
 simp [N286,ptD,w1,w2,w3,w4,w5,w6,w7]
theorem u6 (m : Msh) (f : Fce) (h : inS m f=true) : C 307 [.agg (bi m),.agg (bk f)] (.agg (b4 (aM m f))) []:=by
 obtain ⟨⟨a1,a2⟩,⟨b1,b2⟩,⟨c1,c2⟩⟩:=iS h
 have ka:=jr hC m f.a.toNat a2
 have kb:=jr hC m f.b.toNat b2
 have kc:=jr hC m f.c.toNat c2
 rw [x1b a1] at ka
 rw [x1b b1] at kb
 rw [x1b c1] at kc
 refine aE hC (nf:=N307) rfl rfl ?_
 rw [bi] at ka kb kc ⊢
 simp [N307,bk]
 simp [ptD] at ka kb kc
 refine aa ka (.inl rfl) ?_
 simp
 refine aa kb (.inl rfl) ?_
 simp
 refine aa kc (.inl rfl) ?_
 simp [b4,aM]
 exact ai (by decide +kernel)
theorem nJ (f : Fce) (k : Nat) (hk : k < 4) : C 323 [.agg (bk f),.int .i64 k] (.int .i64 (crn f k)) []:=by
 refine aE hC (nf:=N323) rfl rfl ?_
 rcases (by omega : k=0 \/ k=1 \/ k=2 \/ k=3) with rfl | rfl | rfl | rfl <;> simp [N323,bk,crn] <;> (refine oN (r:=[.int .i64 _]) rfl (by simp) ?_;simp)
theorem rf (m : Msh) (f : Fce) (h : inS m f=true) : C 285 [.agg (bi m),.agg (bk f)] (.sl [ptD (aM m f).1,ptD (aM m f).2.1,ptD (aM m f).2.2]) []:=by
 obtain ⟨⟨a1,a2⟩,⟨b1,b2⟩,⟨c1,c2⟩⟩:=iS h
 have ka:=jy hC (spt m f.a.toNat)
 have kb:=jy hC (spt m f.b.toNat)
 have kc:=jy hC (spt m f.c.toNat)
 rw [eF] at ka kb kc
 refine aE hC (nf:=N285) rfl rfl ?_
 simp [N285,bk,bi,a1,a2,b5]
 refine aa ka (.inl rfl) ?_
 simp [b1,b2,b5]
 refine aa kb (.inl rfl) ?_
 simp [c1,c2,b5]
 refine aa kc (.inl rfl) ?_
 simp [aM,ptD]
 exact ai (by decide +kernel)
end Go.Gv

namespace Go.Gv
theorem aK : IntKind.wrap .i64 1=1:=by decide
theorem aP : IntKind.wrap .i64 2=2:=by decide
theorem aQ : IntKind.wrap .i64 3=3:=by decide
variable {C : CC} (hC : aq prog C)
include hC
set_option maxHeartbeats 1000000 in
theorem Ay {t u : Tri} (ht : okT t=true) (hu : okT u=true) : C 311 [.agg (b4 t),.agg (b4 u)] (.bool (oO t u)) []:=by
 simp only [okT,x0a] at ht hu
 obtain ⟨⟨t1,t2⟩,t3⟩:=ht
 obtain ⟨⟨u1,u2⟩,u3⟩:=hu
 have kk:=fun (p q r : Pnt) (hp : okP p=true) (hq : okP q=true) (hr : okP r=true)=>ox hC hp hq hr
 simp only [ptD] at kk
 have E : oO t u=(gx t.1 t.2.1 u || gx t.2.1 t.2.2 u || gx t.2.2 t.1 u):=rfl
 rw [E]
 clear E
 have S : ∀ p q,gx p q u=(decide (cu p q u.1 <= 0) && decide (cu p q u.2.1 <= 0) && decide (cu p q u.2.2 <= 0)):=fun p q=>rfl
 refine aE hC (nf:=N311) rfl rfl ?_
 rw [b4,b4]
 simp [N311]
 refine az Nat (fun i=>[(2,.ptr (b4 t)),(3,.ptr (b4 u)),(8,.int .i64 i)]) (fun i=>i <= 3 /\ (1 <= i -> gx t.1 t.2.1 u=false) /\ (2 <= i -> gx t.2.1 t.2.2 u=false) /\ (3 <= i -> gx t.2.2 t.1 u=false)) (fun i=>3 - i) 0 (by simp) (by simp [b4]) ?_
 rintro i ⟨hi,s1,s2,s3⟩
 rcases (by omega : i=0 \/ i=1 \/ i=2 \/ i=3) with rfl | rfl | rfl | rfl
 ·simp [b4,aK,aP,aQ]
  refine ⟨ai (by decide +kernel),?_⟩
  refine aa (kk t.1 t.2.1 u.1 t1 t2 u1) (.inl rfl) ?_
  simp
  refine al (fun h1=>?_) (fun h1=>?_) <;> simp at h1
  ·simp [h1]
   refine aa (kk t.1 t.2.1 u.2.1 t1 t2 u2) (.inl rfl) ?_
   simp
   refine al (fun h2=>?_) (fun h2=>?_) <;> simp at h2
   ·simp [h2]
    refine aa (kk t.1 t.2.1 u.2.2 t1 t2 u3) (.inl rfl) ?_
    simp
    refine al (fun h3=>?_) (fun h3=>?_) <;> simp at h3 <;> simp [h3]
    ·simp [S,h1,h2,h3]
    ·refine ⟨1,⟨by omega,fun _=>by simp only [S,x0w,x0p];omega,fun h=>by omega,fun h=>by omega⟩,by omega,?_⟩ <;> simp [aK,aP,aQ]
   ·simp [x02.2 h2]
    refine ⟨1,⟨by omega,fun _=>by simp only [S,x0w,x0p];omega,fun h=>by omega,fun h=>by omega⟩,by omega,?_⟩ <;> simp [aK,aP,aQ]
  ·simp [x02.2 h1]
   refine ⟨1,⟨by omega,fun _=>by simp only [S,x0w,x0p];omega,fun h=>by omega,fun h=>by omega⟩,by omega,?_⟩ <;> simp [aK,aP,aQ]
 ·simp [b4,aK,aP,aQ]
  refine ⟨ai (by decide +kernel),?_⟩
  refine aa (kk t.2.1 t.2.2 u.1 t2 t3 u1) (.inl rfl) ?_
  simp
  refine al (fun h1=>?_) (fun h1=>?_) <;> simp at h1
  ·simp [h1]
   refine aa (kk t.2.1 t.2.2 u.2.1 t2 t3 u2) (.inl rfl) ?_
   simp
   refine al (fun h2=>?_) (fun h2=>?_) <;> simp at h2
   ·simp [h2]
    refine aa (kk t.2.1 t.2.2 u.2.2 t2 t3 u3) (.inl rfl) ?_
    simp
    refine al (fun h3=>?_) (fun h3=>?_) <;> simp at h3 <;> simp [h3]
    ·simp [S,h1,h2,h3]
    ·refine ⟨2,⟨by omega,fun _=>s1 (by omega),fun _=>by simp only [S,x0w,x0p];omega,fun h=>by omega⟩,by omega,?_⟩ <;> simp [aK,aP,aQ]
   ·simp [x02.2 h2]
    refine ⟨2,⟨by omega,fun _=>s1 (by omega),fun _=>by simp only [S,x0w,x0p];omega,fun h=>by omega⟩,by omega,?_⟩ <;> simp [aK,aP,aQ]
  ·simp [x02.2 h1]
   refine ⟨2,⟨by omega,fun _=>s1 (by omega),fun _=>by simp only [S,x0w,x0p];omega,fun h=>by omega⟩,by omega,?_⟩ <;> simp [aK,aP,aQ]
 ·simp [b4,aK,aP,aQ]
  refine ⟨ai (by decide +kernel),?_⟩
  refine aa (kk t.2.2 t.1 u.1 t3 t1 u1) (.inl rfl) ?_
  simp
  refine al (fun h1=>?_) (fun h1=>?_) <;> simp at h1
  ·simp [h1]
   refine aa (kk t.2.2 t.1 u.2.1 t3 t1 u2) (.inl rfl) ?_
   simp
   refine al (fun h2=>?_) (fun h2=>?_) <;> simp at h2
   ·simp [h2]
    refine aa (kk t.2.2 t.1 u.2.2 t3 t1 u3) (.inl rfl) ?_
    simp
    refine al (fun h3=>?_) (fun h3=>?_) <;> simp at h3 <;> simp [h3]
    ·simp [S,h1,h2,h3]
    ·refine ⟨3,⟨by omega,fun _=>s1 (by omega),fun _=>s2 (by omega),fun _=>by simp only [S,x0w,x0p];omega⟩,by omega,?_⟩ <;> simp [aK,aP,aQ]
   ·simp [x02.2 h2]
    refine ⟨3,⟨by omega,fun _=>s1 (by omega),fun _=>s2 (by omega),fun _=>by simp only [S,x0w,x0p];omega⟩,by omega,?_⟩ <;> simp [aK,aP,aQ]
  ·simp [x02.2 h1]
   refine ⟨3,⟨by omega,fun _=>s1 (by omega),fun _=>s2 (by omega),fun _=>by simp only [S,x0w,x0p];omega⟩,by omega,?_⟩ <;> simp [aK,aP,aQ]
 ·simp [s1 (by omega),s2 (by omega),s3 (by omega)]
def m8 (t : Tri) : List (List D):=[ptD t.1,ptD t.2.1,ptD t.2.2]
set_option maxHeartbeats 1000000 in
theorem pN {t u : Tri} (ht : okT t=true) (hu : okT u=true) : C 324 [.sl (m8 t),.sl (m8 u)] (.bool (oO t u)) []:=by
 simp only [okT,x0a] at ht hu
 obtain ⟨⟨t1,t2⟩,t3⟩:=ht
 obtain ⟨⟨u1,u2⟩,u3⟩:=hu
 have kk:=fun (p q r : Pnt) (hp : okP p=true) (hq : okP q=true) (hr : okP r=true)=>rW hC hp hq hr
 simp only [ptD] at kk
 have E : oO t u=(gx t.1 t.2.1 u || gx t.2.1 t.2.2 u || gx t.2.2 t.1 u):=rfl
 rw [E]
 clear E
 have S : ∀ p q,gx p q u=(decide (cu p q u.1 <= 0) && decide (cu p q u.2.1 <= 0) && decide (cu p q u.2.2 <= 0)):=fun p q=>rfl
 refine aE hC (nf:=N324) rfl rfl ?_
 simp only [m8,ptD]
 simp [N324]
 refine az Nat (fun i=>[(0,.sl (m8 t)),(1,.sl (m8 u)),(5,.int .i64 i)]) (fun i=>i <= 3 /\ (1 <= i -> gx t.1 t.2.1 u=false) /\ (2 <= i -> gx t.2.1 t.2.2 u=false) /\ (3 <= i -> gx t.2.2 t.1 u=false)) (fun i=>3 - i) 0 (by simp) (by simp [m8,ptD]) ?_
 rintro i ⟨hi,s1,s2,s3⟩
 rcases (by omega : i=0 \/ i=1 \/ i=2 \/ i=3) with rfl | rfl | rfl | rfl
 ·simp [m8,ptD,aK,aP,aQ]
  refine ⟨ai (by decide +kernel),?_⟩
  refine aa (kk t.1 t.2.1 u.1 t1 t2 u1) (.inl rfl) ?_
  simp
  refine al (fun h1=>?_) (fun h1=>?_) <;> simp at h1
  ·simp [h1]
   refine aa (kk t.1 t.2.1 u.2.1 t1 t2 u2) (.inl rfl) ?_
   simp
   refine al (fun h2=>?_) (fun h2=>?_) <;> simp at h2
   ·simp [h2]
    refine aa (kk t.1 t.2.1 u.2.2 t1 t2 u3) (.inl rfl) ?_
    simp
    refine ⟨ai (by decide +kernel),?_⟩
    refine al (fun h3=>?_) (fun h3=>?_) <;> simp at h3 <;> simp [h3]
    ·simp [S,h1,h2,h3]
    ·refine ⟨1,⟨by omega,fun _=>by simp only [S,x0w,x0p];omega,fun h=>by omega,fun h=>by omega⟩,by omega,?_⟩ <;> simp [aK,aP,aQ]
   ·simp [x02.2 h2]
    refine ⟨ai (by decide +kernel),?_⟩
    refine ⟨1,⟨by omega,fun _=>by simp only [S,x0w,x0p];omega,fun h=>by omega,fun h=>by omega⟩,by omega,?_⟩ <;> simp [aK,aP,aQ]
  ·simp [x02.2 h1]
   refine ⟨ai (by decide +kernel),?_⟩
   refine ⟨1,⟨by omega,fun _=>by simp only [S,x0w,x0p];omega,fun h=>by omega,fun h=>by omega⟩,by omega,?_⟩ <;> simp [aK,aP,aQ]
 ·simp [m8,ptD,aK,aP,aQ]
  refine ⟨ai (by decide +kernel),?_⟩
  refine aa (kk t.2.1 t.2.2 u.1 t2 t3 u1) (.inl rfl) ?_
  simp
  refine al (fun h1=>?_) (fun h1=>?_) <;> simp at h1
  ·simp [h1]
   refine aa (kk t.2.1 t.2.2 u.2.1 t2 t3 u2) (.inl rfl) ?_
   simp
   refine al (fun h2=>?_) (fun h2=>?_) <;> simp at h2
   ·simp [h2]
    refine aa (kk t.2.1 t.2.2 u.2.2 t2 t3 u3) (.inl rfl) ?_
    simp
    refine ⟨ai (by decide +kernel),?_⟩
    refine al (fun h3=>?_) (fun h3=>?_) <;> simp at h3 <;> simp [h3]
    ·simp [S,h1,h2,h3]
    ·refine ⟨2,⟨by omega,fun _=>s1 (by omega),fun _=>by simp only [S,x0w,x0p];omega,fun h=>by omega⟩,by omega,?_⟩ <;> simp [aK,aP,aQ]
   ·simp [x02.2 h2]
    refine ⟨ai (by decide +kernel),?_⟩
    refine ⟨2,⟨by omega,fun _=>s1 (by omega),fun _=>by simp only [S,x0w,x0p];omega,fun h=>by omega⟩,by omega,?_⟩ <;> simp [aK,aP,aQ]
  ·simp [x02.2 h1]
   refine ⟨ai (by decide +kernel),?_⟩
   refine ⟨2,⟨by omega,fun _=>s1 (by omega),fun _=>by simp only [S,x0w,x0p];omega,fun h=>by omega⟩,by omega,?_⟩ <;> simp [aK,aP,aQ]
 ·simp [m8,ptD,aK,aP,aQ]
  refine ⟨ai (by decide +kernel),?_⟩
  refine aa (kk t.2.2 t.1 u.1 t3 t1 u1) (.inl rfl) ?_
  simp
  refine al (fun h1=>?_) (fun h1=>?_) <;> simp at h1
  ·simp [h1]
   refine aa (kk t.2.2 t.1 u.2.1 t3 t1 u2) (.inl rfl) ?_
   simp
   refine al (fun h2=>?_) (fun h2=>?_) <;> simp at h2
   ·simp [h2]
    refine aa (kk t.2.2 t.1 u.2.2 t3 t1 u3) (.inl rfl) ?_
    simp
    refine ⟨ai (by decide +kernel),?_⟩
    refine al (fun h3=>?_) (fun h3=>?_) <;> simp at h3 <;> simp [h3]
    ·simp [S,h1,h2,h3]
    ·refine ⟨3,⟨by omega,fun _=>s1 (by omega),fun _=>s2 (by omega),fun _=>by simp only [S,x0w,x0p];omega⟩,by omega,?_⟩ <;> simp [aK,aP,aQ]
   ·simp [x02.2 h2]
    refine ⟨ai (by decide +kernel),?_⟩
    refine ⟨3,⟨by omega,fun _=>s1 (by omega),fun _=>s2 (by omega),fun _=>by simp only [S,x0w,x0p];omega⟩,by omega,?_⟩ <;> simp [aK,aP,aQ]
  ·simp [x02.2 h1]
   refine ⟨ai (by decide +kernel),?_⟩
   refine ⟨3,⟨by omega,fun _=>s1 (by omega),fun _=>s2 (by omega),fun _=>by simp only [S,x0w,x0p];omega⟩,by omega,?_⟩ <;> simp [aK,aP,aQ]
 ·simp [s1 (by omega),s2 (by omega),s3 (by omega)]
end Go.Gv

namespace Go.Gv
def okc (m : Msh) (a b : Int) : Bool:=df m.s.length a && decide (a ≠ b) && aU (spt m a.toNat)
def okF (m : Msh) (f : Fce) : Bool:=okc m f.a f.b && okc m f.b f.c && okc m f.c f.a && decide (0 <= f.k) && decide (f.k < 16)
def mtc (f g : Fce) (i k : Nat) : Bool:=decide (crn f i=crn g k) && decide (crn f (i + 1)=crn g (k + 1))
def gg (f g : Fce) : Bool:=(List.range 3).any fun i=>(List.range 3).any fun k=>mtc f g i k
theorem gc {m : Msh} {f : Fce} (h : okF m f=true) : inS m f=true:=by
 simp only [okF,okc,x0a] at h
 simp only [inS,x0a]
 exact ⟨⟨h.1.1.1.1.1.1,h.1.1.1.2.1.1⟩,h.1.1.2.1.1⟩
theorem cw {m : Msh} {f : Fce} (h : okF m f=true) : okT (aM m f)=true:=by
 simp only [okF,okc,x0a] at h
 simp only [okT,aM,x0a]
 exact ⟨⟨oG h.1.1.1.1.2,oG h.1.1.1.2.2⟩,oG h.1.1.2.2⟩
def pd (n : Nat) : UInt8:=UInt8.ofNat (48 + n % 10)
def n6 (n : Nat) (out : List UInt8) : List UInt8:=if n < 10 then pd n::out else n6 (n / 10) (pd n::out)
def qk (n : Nat) (out : List UInt8) : List UInt8:=if n=0 then out else n6 n out
theorem nr (n : Nat) (out : List UInt8) : n6 n out=qk (n / 10) (pd n::out):=by
 rw [n6,qk]
 by_cases h : n < 10
 ·rw [if_pos h,if_pos (by omega)]
 ·rw [if_neg h,if_neg (by omega)]
variable {C : CC} (hC : aq prog C)
include hC
theorem x7 (m : Msh) (f : Fce) (hs : inS m f=true) (ht : okT (aM m f)=true) : C 293 [.agg (bi m),.agg (bk f)] (.int .i64 (gm (aM m f))) []:=by
 have k1:=rf hC m f hs
 have k2:=ht
 simp only [okT,x0a] at k2
 have k3:=rW hC k2.1.1 k2.1.2 k2.2
 obtain ⟨t,e⟩ : ∃ t,t=aM m f:=⟨_,rfl⟩
 rw [<- e] at k1 k3 ⊢
 refine aE hC (nf:=N293) rfl rfl ?_
 rw [bi,bk] at k1 ⊢
 simp only [ptD] at k1 k3
 simp [N293]
 refine aa k1 (.inr rfl) ?_
 simp
 refine aa k3 (.inl rfl) ?_
 simp [gm]
 exact ai (by decide +kernel)
theorem rb (m : Msh) (f g : Fce) (hs : inS m f=true) (ht : okT (aM m f)=true) (hs' : inS m g=true) (ht' : okT (aM m g)=true) : C 295 [.agg (bi m),.agg (bk f),.agg (bk g)] (.bool (ovT (aM m f) (aM m g))) []:=by
 have k1:=rf hC m f hs
 have k2:=rf hC m g hs'
 have k3:=pN hC ht ht'
 have k4:=pN hC ht' ht
 obtain ⟨t,e⟩ : ∃ t,t=aM m f:=⟨_,rfl⟩
 obtain ⟨u,e'⟩ : ∃ u,u=aM m g:=⟨_,rfl⟩
 rw [<- e] at k1 k3 k4 ⊢
 rw [<- e'] at k2 k3 k4 ⊢
 refine aE hC (nf:=N295) rfl rfl ?_
 rw [bi,bk] at k1 k2 ⊢
 rw [bk]
 simp only [m8,ptD] at k1 k2 k3 k4
 simp [N295]
 refine aa k1 (.inr rfl) ?_
 simp
 refine aa k2 (.inr rfl) ?_
 simp
 refine ⟨ai (by decide +kernel),?_⟩
 refine aa k3 (.inl rfl) ?_
 simp
 cases h1 : oO t u <;> simp [ovT,h1]
 refine aa k4 (.inl rfl) ?_
 simp
 exact fun _=>h1
theorem x5 (f g : Fce) : C 294 [.agg (bk f),.agg (bk g)] (.bool (gg f g)) []:=by
 have kf:=fun k (h : k < 4)=>nJ hC f k h
 have kg:=fun k (h : k < 4)=>nJ hC g k h
 refine aE hC (nf:=N294) rfl rfl ?_
 rw [bk] at kf ⊢
 rw [bk] at kg ⊢
 simp [N294]
 refine az Nat (fun i=>[(2,.ptr (bk f)),(3,.ptr (bk g)),(5,.int .i64 i)]) (fun i=>i <= 3 /\ ∀ a,a < i -> ∀ b,b < 3 -> mtc f g a b=false) (fun i=>3 - i) 0 (by simp) (by simp [bk]) ?_
 rintro i ⟨hi,hI⟩
 simp [bk]
 refine al (fun c1=>?_) (fun c1=>?_) <;> simp at c1 <;> simp [c1]
 ·have hw : IntKind.wrap .i64 ((i : Int) + 1)=((i + 1 : Nat) : Int):=ah (by omega) (by omega)
  refine az Nat (fun k=>[(2,.ptr (bk f)),(3,.ptr (bk g)),(5,.int .i64 i),(6,.int .i64 k)]) (fun k=>k <= 3 /\ ∀ b,b < k -> mtc f g i b=false) (fun k=>3 - k) 0 (by simp) (by simp [bk]) ?_
  rintro k ⟨hk,hK⟩
  simp [bk]
  refine al (fun c2=>?_) (fun c2=>?_) <;> simp at c2 <;> simp [c2]
  ·have hw2 : IntKind.wrap .i64 ((k : Int) + 1)=((k + 1 : Nat) : Int):=ah (by omega) (by omega)
   refine aa (kf i (by omega)) (.inl rfl) ?_
   simp
   refine aa (kg k (by omega)) (.inl rfl) ?_
   simp
   by_cases h1 : crn f i=crn g k
   ·simp [h1,hw,hw2]
    refine aa (kf (i + 1) (by omega)) (.inl rfl) ?_
    simp [hw2]
    refine aa (kg (k + 1) (by omega)) (.inl rfl) ?_
    simp
    refine ⟨ai (by decide +kernel),?_⟩
    by_cases h2 : crn f (i + 1)=crn g (k + 1)
    ·simp [h2]
     refine x0x.2 ⟨i,x0E.2 (by omega),x0x.2 ⟨k,x0E.2 (by omega),?_⟩⟩
     simp [mtc,h1,h2]
    ·simp [h2,hw2]
     refine ⟨k + 1,⟨by omega,fun b hb=>?_⟩,by omega,?_⟩
     rotate_left
     ·omega
     rcases x0I.1 hb with h | rfl
     ·exact hK b h
     ·simp [mtc,h2]
   ·simp [h1,hw2]
    refine ⟨ai (by decide +kernel),?_⟩
    refine ⟨k + 1,⟨by omega,fun b hb=>?_⟩,by omega,?_⟩
    rotate_left
    ·omega
    rcases x0I.1 hb with h | rfl
    ·exact hK b h
    ·simp [mtc,h1]
  ·simp [hw]
   refine ⟨i + 1,⟨by omega,fun a ha b hb=>?_⟩,by omega,?_⟩
   rotate_left
   ·omega
   rcases x0I.1 ha with h | rfl
   ·exact hI a h b hb
   ·exact hK b (by omega)
 ·rw [gg]
  rw [Bool.eq_false_iff]
  intro h
  rw [x0x] at h
  obtain ⟨a,ha,h⟩:=h
  rw [x0x] at h
  obtain ⟨b,hb,h⟩:=h
  rw [hI a (by have:=x0E.1 ha;omega) b (x0E.1 hb)] at h
  cases h
set_option maxHeartbeats 2000000 in
theorem CA (m : Msh) (f : Fce) (hn : m.s.length < 2 ^ 40) : C 292 [.agg (bi m),.agg (bk f)] (.bool (okF m f)) []:=by
 have ks:=fun s=>rV hC s
 have E : ∀ a b : Int,okc m a b=(decide (0 <= a) && decide (a < m.s.length) && decide (a ≠ b) && aU (spt m a.toNat)):=fun a b=>rfl
 have E2 : okF m f=(okc m f.a f.b && okc m f.b f.c && okc m f.c f.a && decide (0 <= f.k) && decide (f.k < 16)):=rfl
 refine aE hC (nf:=N292) rfl rfl ?_
 rw [bi,bk]
 simp only [eF] at ks
 simp [N292]
 refine az Nat (fun i=>[(2,.ptr (bi m)),(3,.ptr (bk f)),(5,.ref (.r 10080) 0 3),(10080,.blk 1 [[.int .i64 f.a],[.int .i64 f.b],[.int .i64 f.c]]),(6,.int .i64 i)]) (fun i=>i <= 3 /\ (1 <= i -> okc m f.a f.b=true) /\ (2 <= i -> okc m f.b f.c=true) /\ (3 <= i -> okc m f.c f.a=true)) (fun i=>3 - i) 0 (by simp) (by simp [bk,bi]) ?_
 rintro i ⟨hi,s1,s2,s3⟩
 rcases (by omega : i=0 \/ i=1 \/ i=2 \/ i=3) with rfl | rfl | rfl | rfl
 ·have no : okc m f.a f.b=false -> okF m f=false:=fun h=>by simp [E2,h]
  simp [bk,bi,aK,aP,aQ]
  refine al (fun c1=>?_) (fun c1=>?_) <;> simp at c1
  ·simp [c1]
   exact ⟨ai (by decide +kernel),no (by rw [E,decide_eq_false (by omega)];simp)⟩
  ·simp [x06.2 c1]
   refine al (fun c2=>?_) (fun c2=>?_) <;> simp at c2
   ·simp [c2]
    exact ⟨ai (by decide +kernel),no (by rw [E,decide_eq_false (show ¬ f.a < m.s.length by omega)];simp)⟩
   ·simp [x02.2 c2,aK,aP,aQ]
    by_cases c3 : f.a=f.b
    ·simp [c3,aK,aP,aQ]
     exact ⟨ai (by decide +kernel),no (by rw [E,decide_eq_false (show ¬ f.a ≠ f.b by omega)];simp)⟩
    ·simp [c3,c1,aK,aP,aQ]
     refine ⟨by omega,by simp [eF],?_⟩
     simp [b5]
     refine aa (ks (spt m f.a.toNat)) (.inl rfl) ?_
     cases c4 : aU (spt m f.a.toNat)
     ·simp
      exact ⟨ai (by decide +kernel),no (by rw [E,c4];simp)⟩
     ·simp
      refine ⟨ai (by decide +kernel),?_⟩
      refine ⟨1,⟨by omega,fun _=>by rw [E];simp [c1,c3,c4];omega,fun h=>by omega,fun h=>by omega⟩,by omega,?_⟩ <;> simp [aK,aP,aQ]
 ·have no : okc m f.b f.c=false -> okF m f=false:=fun h=>by simp [E2,h]
  simp [bk,bi,aK,aP,aQ]
  refine al (fun c1=>?_) (fun c1=>?_) <;> simp at c1
  ·simp [c1]
   exact ⟨ai (by decide +kernel),no (by rw [E,decide_eq_false (by omega)];simp)⟩
  ·simp [x06.2 c1]
   refine al (fun c2=>?_) (fun c2=>?_) <;> simp at c2
   ·simp [c2]
    exact ⟨ai (by decide +kernel),no (by rw [E,decide_eq_false (show ¬ f.b < m.s.length by omega)];simp)⟩
   ·simp [x02.2 c2,aK,aP,aQ]
    by_cases c3 : f.b=f.c
    ·simp [c3,aK,aP,aQ]
     exact ⟨ai (by decide +kernel),no (by rw [E,decide_eq_false (show ¬ f.b ≠ f.c by omega)];simp)⟩
    ·simp [c3,c1,aK,aP,aQ]
     refine ⟨by omega,by simp [eF],?_⟩
     simp [b5]
     refine aa (ks (spt m f.b.toNat)) (.inl rfl) ?_
     cases c4 : aU (spt m f.b.toNat)
     ·simp
      exact ⟨ai (by decide +kernel),no (by rw [E,c4];simp)⟩
     ·simp
      refine ⟨ai (by decide +kernel),?_⟩
      refine ⟨2,⟨by omega,fun _=>s1 (by omega),fun _=>by rw [E];simp [c1,c3,c4];omega,fun h=>by omega⟩,by omega,?_⟩ <;> simp [aK,aP,aQ]
 ·have no : okc m f.c f.a=false -> okF m f=false:=fun h=>by simp [E2,h]
  simp [bk,bi,aK,aP,aQ]
  refine al (fun c1=>?_) (fun c1=>?_) <;> simp at c1
  ·simp [c1]
   exact ⟨ai (by decide +kernel),no (by rw [E,decide_eq_false (by omega)];simp)⟩
  ·simp [x06.2 c1]
   refine al (fun c2=>?_) (fun c2=>?_) <;> simp at c2
   ·simp [c2]
    exact ⟨ai (by decide +kernel),no (by rw [E,decide_eq_false (show ¬ f.c < m.s.length by omega)];simp)⟩
   ·simp [x02.2 c2,aK,aP,aQ]
    by_cases c3 : f.c=f.a
    ·simp [c3,aK,aP,aQ]
     exact ⟨ai (by decide +kernel),no (by rw [E,decide_eq_false (show ¬ f.c ≠ f.a by omega)];simp)⟩
    ·simp [c3,c1,aK,aP,aQ]
     refine ⟨by omega,by simp [eF],?_⟩
     simp [b5]
     refine aa (ks (spt m f.c.toNat)) (.inl rfl) ?_
     cases c4 : aU (spt m f.c.toNat)
     ·simp
      exact ⟨ai (by decide +kernel),no (by rw [E,c4];simp)⟩
     ·simp
      refine ⟨ai (by decide +kernel),?_⟩
      refine ⟨3,⟨by omega,fun _=>s1 (by omega),fun _=>s2 (by omega),fun _=>by rw [E];simp [c1,c3,c4];omega⟩,by omega,?_⟩ <;> simp [aK,aP,aQ]
 ·have t1:=s1 (by omega)
  have t2:=s2 (by omega)
  have t3:=s3 (by omega)
  simp [bk,bi,E2,t1,t2,t3]
  refine al (fun c1=>?_) (fun c1=>?_) <;> simp at c1 <;> simp [c1] <;> rw [E2,t1,t2,t3] <;> simp [c1]
  omega
theorem Cy (n : Nat) (hn : n < 100) : C 290 [.int .i64 n] (.str (n6 n [])) []:=by
 refine aE hC (nf:=N290) rfl rfl ?_
 simp [N290]
 refine az (Nat × List UInt8) (fun s=>[(0,.int .i64 s.1),(3,.str s.2)]) (fun s=>s.1 + s.2.length <= n + 1 /\ ((s.2=[] /\ s.1=n) \/ (s.2 ≠ [] /\ qk s.1 s.2=n6 n []))) (fun s=>s.1 + if s.2=[] then 1 else 0) (n,[]) (by simp) (by simp) ?_
 rintro ⟨k,out⟩ ⟨hl,hI⟩
 simp only at hl hI
 have ww : IntKind.wrap .i64 ((k : Int) / 10)=((k / 10 : Nat) : Int):=ah (by omega) (by omega)
 have wq : IntKind.wrap .i64 (48 + (k : Int) % 10)=48 + (k : Int) % 10:=ah rfl (by omega)
 have et : (k : Int).tmod 10=(k : Int) % 10:=Int.tmod_eq_emod_of_nonneg (by omega)
 have wd : IntKind.u8.wrap (48 + (k : Int) % 10)=48 + (k : Int) % 10:=by
  have e1 : IntKind.u8.signed=false:=rfl
  have e3 : (2 ^ IntKind.u8.bits : Int)=256:=rfl
  unfold IntKind.wrap
  simp only [e1,e3,Bool.false_and]
  simp
  omega
 have wdd : IntKind.u8.wrap (IntKind.wrap .i64 (48 + (k : Int).tmod 10))=48 + (k : Int) % 10:=by rw [et,wq,wd]
 have hda : (k : Int) / 10=((k / 10 : Nat) : Int):=by omega
 have wb : fA [.int .u8 (48 + (k : Int) % 10)]=pd k:=by
  have : (48 + (k : Int) % 10).toNat=48 + k % 10:=by omega
  simp only [fA,pd,this]
 have hstep : qk (k / 10) (pd k::out)=n6 n [] \/ (k=0 /\ out ≠ []):=by
  rcases hI with ⟨rfl,rfl⟩ | ⟨h1,h2⟩
  ·exact .inl (nr _ _).symm
  ·by_cases h : k=0
   ·exact .inr ⟨h,h1⟩
   ·rw [qk,if_neg h] at h2
    rw [<- nr,h2]
    exact .inl rfl
 by_cases hk : 0 < k
 ·have h3 : qk (k / 10) (pd k::out)=n6 n []:=by
   rcases hstep with h | h
   ·exact h
   ·omega
  simp [hk,wdd,ww]
  refine ⟨⟨48 + k % 10,by omega,by omega⟩,by omega,k / 10,_,⟨by simp;omega,.inr ⟨by simp,?_⟩⟩,?_,hda,rfl⟩
  ·rw [wb];exact h3
  ·simp
   split <;> omega
 ·have h0 : k=0:=by omega
  subst h0
  by_cases ho : out=[]
  ·subst ho
   simp at hstep
   have w48 : IntKind.u8.wrap (IntKind.wrap .i64 48)=48:=by decide
   simp [w48]
   refine ⟨⟨48,rfl,by omega⟩,0,_,⟨by simp,.inr ⟨by simp,?_⟩⟩,⟨rfl,by simp⟩,by decide,rfl⟩
   have : fA [.int .u8 48]=pd 0:=by decide
   rw [this]
   exact hstep
  ·rcases hI with ⟨h1,_⟩ | ⟨_,h2⟩
   ·exact absurd h1 ho
   ·rw [qk,if_pos rfl] at h2
    rw [<- h2]
    simp [ho]
end Go.Gv
