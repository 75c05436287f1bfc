/-
  Texts of the proof: GvR, GvEwd, GvN, ItW, GvT, GvT4, GvU, GvW, GvX, GvX2, GvX3, GvX4, GvX5, K1, K3, H1, H2, H3.
-/
import Derived.Test.YtibmdjdddnkomaaGreatDoorX4
import Derived.SizedLaws
import Derived.ProofKit
import Derived.Test.YtibmdjdddnkomaaGreatDoorX5
import Derived.Test.YtibmdjdddnkomaaGreatDoorProg
import Derived.KernelRfl
import Derived.Shelf.Small.Bits
import Derived.Shelf.Small.Wraps
import Derived.Shelf.Strconv.Itoa0
import Derived.Shelf.Strconv.Itoa1
import Derived.Shelf.LaysM
import Derived.Shelf.Strconv.Itoa2
import Derived.Shelf.Strconv.Itoa3
import Derived.Shelf.Sort.Plain
import Derived.Shelf.Bits.Mul64
import Derived.Shelf.Slices.Turned
import Derived.Shelf.Slices.Reverse
import Derived.Shelf.Slices.Equal
import Derived.Ground.Names2Prog
import Derived.Shelf.Slices.Clone
import Derived.Shelf.Slices.CompactI
import Derived.Shelf.Slices.SearchI
import Derived.Shelf.Slices.Cells
import Derived.Shelf.Slices.In.SortNone
import Derived.Shelf.Slices.Empties2
import Derived.Ground.SlgnProg
import Derived.Shelf.SlicesE.Reverse
import Derived.Shelf.SlicesE.Clone
import Derived.Sort.Row
import Derived.Sort.Grow
import Derived.Shelf.Spec.SlicesInsertGrow
set_option linter.all false
namespace Go.Gv
open Go.RowKit Go.ChangeShapes Go.WideShapes Go.ChangeAt
inductive Sh where
 | int (k : IntKind)
 | bool
 | str
 | sl (row : List Sh)
mutual
def eH : Sh -> D -> Prop
 | .int k,d=>∃ n,d=.int k n /\ (Lit.int k n).wf=true
 | .bool,d=>∃ b,d=.bool b
 | .str,d=>∃ s,d=.str s /\ s.length < 140737488355328
 | .sl row,d=>∃ es,(d=.sl es \/ (d=.nils /\ es=[])) /\ es.length < 140737488355328 /\ ∀ e ∈ es,bK row e
def bK : List Sh -> List D -> Prop
 | [],ds=>ds=[]
 | s::ss,ds=>∃ d r,ds=d::r /\ eH s d /\ bK ss r
end
theorem bK.length : ∀ {ss : List Sh} {ds : List D},bK ss ds -> ds.length=ss.length
 | [],ds,h=>by simp only [bK] at h;simp [h]
 | s::ss,ds,h=>by
  simp only [bK] at h
  obtain ⟨d,r,rfl,_,h2⟩:=h
  simp [bK.length h2]
theorem bK.append : ∀ {ss ts : List Sh} {ds es : List D},bK ss ds -> bK ts es -> bK (ss++ts) (ds++es)
 | [],ts,ds,es,h,h'=>by simp only [bK] at h;subst h;exact h'
 | s::ss,ts,ds,es,h,h'=>by
  simp only [bK] at h
  obtain ⟨d,r,rfl,h1,h2⟩:=h
  exact ⟨d,r++es,rfl,h1,bK.append h2 h'⟩
def nS (P : Program) (rec : TypeId -> Option (List Sh)) : List Field -> Nat -> Option (List Sh)
 | [],_=>some []
 | f::fs,off=>if f.offset=off then (match rec f.type with
   | some l=>if l.length=P.cellsOf f.type then (match nS P rec fs (off + l.length) with
    | some r=>some (l++r)
    | none=>none) else none
   | none=>none) else none
def mK (P : Program) : Nat -> TypeId -> Option (List Sh)
 | 0,_=>none
 | n + 1,t=>match P.underlying t with
  | some .bool=>some [.bool]
  | some (.int k)=>some [.int k]
  | some .string=>some [.str]
  | some (.slice e)=>(match mK P n e with
   | some l=>if l.length=P.cellsOf e /\ 1 <= P.bytesOf e then some [.sl l] else none
   | none=>none)
  | some (.struct fs)=>(match nS P (mK P n) fs.toList 0 with
   | some l=>if l.length=P.cellsOf t then some l else none
   | none=>none)
  | _=>none
section
variable {H : Type} {enc : TypeId × Value -> H} {P : Program} {F : Fid} {w : World} {sp : Nat -> Bool}
abbrev mN (w : World) : Mem:=fun p=>w.cell? p
def s8 (enc : TypeId × Value -> H) (P : Program) (F : Fid) (w : World) (sp : Nat -> Bool) (n : Nat) (t : TypeId) (shs : List Sh) : Prop :=
 ∀ (cs : List Value) (d : DataW H) (ps : List MemPlace),DataW.trod enc P w 0 sp true n t cs=some (d,ps) -> (d.weights P t).all (· <= reachBytes)=true -> ∃ ds,bK shs ds /\ au F (mN w) ds cs
theorem gG {α β : Type} {f : α -> Option β} {x : α} {l : List α} {ys : List β} (h : (x::l).mapM f=some ys) : ∃ y r,f x=some y /\ l.mapM f=some r /\ ys=y::r:=by
 rw [List.mapM_cons] at h
 cases hx : f x with
 | none=>rw [hx] at h;cases h
 | some y =>
  cases hl : l.mapM f with
  | none=>rw [hx,hl] at h;cases h
  | some r =>
   rw [hx,hl] at h
   exact ⟨y,r,rfl,rfl,by cases h;rfl⟩
theorem ma {n m : Nat} (ih : ∀ t shs,mK P m t=some shs -> s8 enc P F w sp n t shs) {cs : List Value} : ∀ (fs : List Field) (off : Nat) (xs : List (DataW H × List MemPlace)) (shs : List Sh),
  (fs.mapM fun f=>DataW.trod enc P w 0 sp true n f.type ((cs.drop f.offset).take (P.cellsOf f.type)))=some xs -> nS P (mK P m) fs off=some shs -> (DataW.weightsEach P (fs.map (·.type)) (xs.map (·.1))).all (· <= reachBytes)=true -> cs.length=off + shs.length ->
   ∃ ds,bK shs ds /\ au F (mN w) ds (cs.drop off)
 | [],off,xs,shs,_,h2,_,h4=>by
  cases h2
  exact ⟨[],rfl,by simp only [au];exact List.drop_of_length_le (by simpa using Nat.le_of_eq h4)⟩
 | f::fs,off,xs,shs,h1,h2,h3,h4=>by
  obtain ⟨y,r,e1,e2,rfl⟩:=gG h1
  simp only [nS] at h2
  split at h2
  case isFalse=>cases h2
  rename_i ho
  split at h2
  case h_2=>cases h2
  rename_i l hl
  split at h2
  case isFalse=>cases h2
  rename_i hlen
  split at h2
  case h_2=>cases h2
  rename_i rs hr
  cases h2
  simp only [x0D,DataW.weightsEach,List.all_append,x0a] at h3
  rw [x0M] at h4
  obtain ⟨ds1,g1,g2⟩:=ih f.type l hl _ y.1 y.2 e1 h3.1
  obtain ⟨ds2,g3,g4⟩:=ma ih fs (off + l.length) r rs e2 hr h3.2 (by omega)
  refine ⟨ds1++ds2,g1.append g3,?_⟩
  rw [ho,<- hlen] at g2
  have:=g2.append g4
  rwa [<- List.drop_drop,List.take_append_drop] at this
theorem mb {n k : Nat} {e : TypeId} {l : List Sh} {a : Addr} (hl : l.length=k) (ih : s8 enc P F w sp n e l) : ∀ (c s : Nat) (xs : List (DataW H × List MemPlace)),
  ((List.range' s c).mapM fun i=>(w.cells? 0 (a.add (i * k)) k).bind (DataW.trod enc P w 0 sp true n e))=some xs -> (DataW.weightsAll P e (xs.map (·.1))).all (· <= reachBytes)=true ->
   ∃ (es : List (List D)) (vs : List Value),es.length=c /\ xs.length=c /\ (∀ r ∈ es,bK l r) /\ aZ F (mN w) es vs /\ ∀ j v,vs[j]? = some v -> w.cell? (a.add (s * k + j))=some v
 | 0,s,xs,h,_=>by
  cases h
  exact ⟨[],[],rfl,rfl,by simp,by simp [aZ],fun j v h=>by simp at h⟩
 | c + 1,s,xs,h,hw=>by
  rw [List.range'_succ] at h
  obtain ⟨y,r,e1,e2,rfl⟩:=gG h
  rw [Option.bind_eq_some_iff] at e1
  obtain ⟨row,c1,c2⟩:=e1
  simp only [x0D,DataW.weightsAll,List.all_append,x0a] at hw
  obtain ⟨ds,g1,g2⟩:=ih row y.1 y.2 c2 hw.1
  obtain ⟨es,vs,h1,h2,h3,h4,h5⟩:=mb hl ih c (s + 1) r e2 hw.2
  have hrow:=World.cells?_some c1
  refine ⟨ds::es,row++vs,by simp [h1],by simp [h2],?_,⟨row,vs,rfl,g2,h4⟩,fun j v hj=>?_⟩
  ·intro x hx
   rcases x0I.1 hx with rfl | hx
   ·exact g1
   ·exact h3 x hx
  ·have hrl : row.length=k:=by rw [g2.length,g1.length,hl]
   have addadd : ∀ i j,(a.add i).add j=a.add (i + j):=fun i j=>by
    unfold Addr.add
    by_cases hi : i=0 <;> by_cases hj : j=0 <;> simp [hi,hj,x0W]
   by_cases hjk : j < k
   ·rw [x0C (by omega)] at hj
    have:=hrow.2.2 j hjk
    rw [hj,addadd] at this
    exact this
   ·rw [x0z (by omega)] at hj
    have:=h5 (j - row.length) v hj
    rw [hrl] at this
    rwa [show (s + 1) * k + (j - k)=s * k + j by rw [x0S];omega] at this
theorem lg : ∀ (m : Nat) (n : Nat) (t : TypeId) (shs : List Sh),mK P m t=some shs -> s8 enc P F w sp n t shs
 | 0,_,_,_,h=>by cases h
 | m + 1,0,t,shs,_=>fun cs d ps h _=>by simp [DataW.trod] at h
 | m + 1,n + 1,t,shs,h=>by
  intro cs d ps ht hw
  rw [mK] at h
  split at h
  ·rename_i hu
   cases h
   unfold DataW.trod at ht;rw [hu] at ht
   split at ht <;> try (simp_all;done)
   rename_i b _
   refine ⟨[.bool b],⟨_,_,rfl,⟨b,rfl⟩,rfl⟩,by simp [au,ac]⟩
  ·rename_i k hu
   cases h
   unfold DataW.trod at ht;rw [hu] at ht
   split at ht <;> try (simp_all;done)
   rename_i k1 k2 x h1
   simp only [x0j,TypeDesc.int.injEq] at h1
   subst h1
   split at ht
   ·rename_i hk
    obtain ⟨rfl,hwf⟩:=hk
    exact ⟨[.int _ x],⟨_,_,rfl,⟨x,rfl,hwf⟩,rfl⟩,by simp [au,ac]⟩
   ·cases ht
  ·rename_i hu
   cases h
   unfold DataW.trod at ht;rw [hu] at ht
   split at ht <;> try (simp_all;done)
   rename_i s _
   split at ht
   ·rename_i hs
    simp only [x0j,Prod.mk.injEq] at ht
    obtain ⟨rfl,rfl⟩:=ht
    simp only [DataW.weights,List.all_cons,List.all_nil,Bool.and_true,x0g] at hw
    refine ⟨[.str s.data.toList],⟨_,_,rfl,⟨_,rfl,?_⟩,rfl⟩,?_⟩
    ·have:=reachBytes_lt;omega
    ·obtain ⟨s⟩:=s
     simp [au,ac]
   ·cases ht
  ·rename_i e hu
   split at h
   case h_2=>cases h
   rename_i l hl
   split at h
   case isFalse=>cases h
   rename_i hk
   cases h
   unfold DataW.trod at ht;rw [hu] at ht
   split at ht <;> try (simp_all;done)
   ·refine ⟨[.nils],⟨_,_,rfl,⟨[],.inr ⟨rfl,rfl⟩,by simp,by simp⟩,rfl⟩,by simp [au,ac]⟩
   ·rename_i e' a len cap h1
    simp only [x0j,TypeDesc.slice.injEq] at h1
    subst h1
    simp only at ht
    split at ht
    case isFalse=>cases ht
    rename_i hb
    rw [Option.bind_eq_some_iff] at ht
    obtain ⟨xs,e1,e2⟩:=ht
    rw [x0h] at e2
    obtain ⟨rest,e3,e4⟩:=e2
    simp only [Prod.mk.injEq] at e4
    obtain ⟨rfl,rfl⟩:=e4
    simp only [DataW.weights,hu,List.all_cons,List.all_append,x0a,x0g] at hw
    obtain ⟨w1,w2,w3⟩:=hw
    rw [List.range_eq_range'] at e1
    obtain ⟨es,vs,g1,g2,g3,g4,g5⟩:=mb (F:=F) hk.1 (lg m n e l hl) len 0 xs e1 w2
    refine ⟨[.sl es],⟨_,_,rfl,⟨es,.inl rfl,?_,g3⟩,rfl⟩,?_⟩
    ·have h5:=reachBytes_lt
     have h6 : es.length * 1 <= (xs.length + rest.length) * P.bytesOf e:=Nat.mul_le_mul (by omega) hk.2
     simp only [List.length_map] at w1
     omega
    ·simp only [au]
     refine ⟨_,_,rfl,?_,rfl⟩
     simp only [ac]
     refine ⟨some a,cap,vs,P.cellsOf e,by rw [g1],by omega,g4,fun r hr=>by rw [(g3 r hr).length,hk.1],fun _=>⟨a,rfl,fun j v hj=>?_⟩⟩
     have:=g5 j v hj
     simpa using this
  ·rename_i fs hu
   split at h
   case h_2=>cases h
   rename_i l hl
   split at h
   case isFalse=>cases h
   rename_i hk
   cases h
   unfold DataW.trod at ht;rw [hu] at ht
   split at ht <;> try (simp_all;done)
   rename_i fs' h1
   simp only [x0j,TypeDesc.struct.injEq] at h1
   subst h1
   split at ht
   case isFalse=>cases ht
   rename_i hc
   rw [x0h] at ht
   obtain ⟨xs,e1,e2⟩:=ht
   simp only [Prod.mk.injEq] at e2
   obtain ⟨rfl,rfl⟩:=e2
   simp only [DataW.weights,hu] at hw
   obtain ⟨ds,g1,g2⟩:=ma (F:=F) (n:=n) (fun t shs h=>lg m n t shs h) fs.toList 0 xs _ e1 hl hw (by omega)
   exact ⟨ds,g1,by simpa using g2⟩
  ·cases h
theorem pN {t : TypeId} {fs : Array Field} {m : Nat} {shs : List Sh} {base : Nat} {v : Value} {d : DataW H} {ps : List MemPlace} (hu : P.underlying t=some (.struct fs)) (hsh : mK P m t=some shs) (hv : Value.okWide P w .any base t v) (h : DataW.Trod enc P w 0 sp true t v d ps) (hw : (d.weights P t).all (· <= reachBytes)=true) :
  ∃ ds,bK shs ds /\ ac F (mN w) (.agg ds) v:=by
 obtain ⟨cs,rfl,_⟩:=okWide_struct hu hv
 obtain ⟨n,hn⟩:=h
 obtain ⟨ds,g1,g2⟩:=lg (F:=F) m n t shs hsh _ d ps hn hw
 exact ⟨ds,g1,by simp only [ac];exact ⟨cs.toList,by simp,g2⟩⟩
theorem rW {t e : TypeId} {m : Nat} {sh : Sh} {base : Nat} {v : Value} {d : DataW H} {ps : List MemPlace} (hu : P.underlying t=some (.slice e)) (hsh : mK P m t=some [sh]) (hv : Value.okWide P w .any base t v) (h : DataW.Trod enc P w 0 sp true t v d ps) (hw : (d.weights P t).all (· <= reachBytes)=true) :
  ∃ x,eH sh x /\ ac F (mN w) x v:=by
 obtain ⟨a,len,cap,rfl⟩:=okWide_slice hu hv
 obtain ⟨n,hn⟩:=h
 obtain ⟨ds,g1,g2⟩:=lg (F:=F) m n t [sh] hsh _ d ps hn hw
 simp only [bK] at g1
 obtain ⟨x,r,rfl,g3,rfl⟩:=g1
 simp only [Value.cells,au] at g2
 obtain ⟨v',r',e,g4,rfl⟩:=g2
 simp at e
 exact ⟨x,g3,by rw [e];exact g4⟩
end
theorem jj {α : Type} {f : α -> List D} {es : List (List D)} (h : ∀ e ∈ es,∃ x,e=f x) : ∃ xs : List α,es=xs.map f:=by
 induction es with
 | nil=>exact ⟨[],rfl⟩
 | cons e es ih =>
  obtain ⟨x,rfl⟩:=h e (by simp)
  obtain ⟨xs,rfl⟩:=ih (fun e he=>h e (by simp [he]))
  exact ⟨x::xs,rfl⟩
end Go.Gv
namespace Go.Gv
def zG (P : Program) (F : Fid) (prog : Nat -> Option aI) (tbl : List (Nat × Nat)) : Bool:=tbl.all fun p=>lS P p.2 && match prog p.1 with
 | some nf=>dj P F p.2 nf
 | none=>true
theorem sE {tbl : List (Nat × Nat)} {g f : Nat} (h : tbl.lookup g=some f) : (g,f) ∈ tbl:=by
 induction tbl with
 | nil=>cases h
 | cons p r ih =>
  obtain ⟨a,b⟩:=p
  rw [x0e] at h
  cases e : g == a with
  | true=>rw [e] at h;simp at e h;subst e;subst h;simp
  | false=>rw [e] at h;simp [ih h]
theorem seat {P : Program} {tbl : List (Nat × Nat)} {ty : Nat -> TypeId} {prog : Nat -> Option aI} (hm : P.follows .mixedOrders=true) (hl : laidOutB P=true) (h : zG P ⟨P,fun g=>tbl.lookup g,ty,fun _=>.nilIface⟩ prog tbl=true) :
  bz P ⟨P,fun g=>tbl.lookup g,ty,fun _=>.nilIface⟩ (fe P ⟨P,fun g=>tbl.lookup g,ty,fun _=>.nilIface⟩) /\ aq prog (fe P ⟨P,fun g=>tbl.lookup g,ty,fun _=>.nilIface⟩):=by
 have key : ∀ g f,tbl.lookup g=some f -> lS P f=true /\ ∀ nf,prog g=some nf -> dj P ⟨P,fun g=>tbl.lookup g,ty,fun _=>.nilIface⟩ f nf=true:=fun g f e=>by
  have:=x0f.1 h _ (sE e)
  simp only [x0a] at this
  refine ⟨this.1,fun nf hnf=>?_⟩
  have:=this.2
  rw [hnf] at this
  exact this
 exact pB hm (fun g f e=>(key g f e).1) hl rfl (fun g f nf e hp=>(key g f e).2 nf hp)
end Go.Gv

namespace Go.Gv
open Go.Proofs
def TryzTbl : List (Nat × Nat) := [(0, 2), (848, 3), (854, 8), (855, 9), (856, 10), (213, 11), (223, 12), (857, 13), (859, 15), (19, 16), (42, 19), (862, 20), (215, 23), (874, 31), (875, 32), (876, 33), (253, 34), (254, 35), (262, 36), (877, 37), (880, 40), (234, 41), (11, 42), (303, 45), (257, 46), (258, 47), (881, 48), (882, 50), (883, 51), (366, 52), (523, 53), (243, 54), (244, 55), (373, 56), (221, 57), (256, 58), (273, 61), (35, 62), (313, 65), (289, 66), (290, 67), (291, 68), (292, 69), (293, 70), (294, 71), (295, 72), (280, 75), (377, 76), (376, 77), (261, 78), (268, 79), (263, 80), (302, 86), (304, 87), (305, 88), (306, 89), (307, 90), (308, 91), (298, 92), (309, 93), (310, 94), (311, 95), (127, 96), (285, 97), (286, 98), (323, 99), (324, 100), (220, 112), (315, 113), (316, 114), (317, 115), (318, 116), (264, 117), (99, 118), (225, 119), (328, 123), (299, 130), (333, 131), (334, 132), (335, 133), (105, 134), (103, 135), (106, 136), (266, 137), (267, 138), (339, 145), (91, 146), (112, 147), (113, 148), (340, 185), (341, 186), (342, 187), (343, 188)]
def TryzTys : List (Nat × Nat) := [(1, 4), (2, 3), (20, 156), (3, 135), (4, 89)]
set_option maxRecDepth 100000 in
theorem Tryz_all : zG Tryz.prog ⟨Tryz.prog, fun g => TryzTbl.lookup g, fun t => (TryzTys.lookup t).getD 0, fun _ => .nilIface⟩ prog TryzTbl = true := by kernel_rfl
end Go.Gv

namespace Go.Gv
open Go.RowKit
theorem qI {P : Program} {F : Fid} {g : Nat} {ds : List D} {d : D} (h : ∀ f,F g=some f -> ∀ (M : Mem) (w : World) (vs : List Value),au F M ds vs -> ∃ v,ac F M d v /\ Calls P f vs.toArray w (fun e w'=>e=.returned v /\ w'=w)) : fe P F g ds d []:=by
 refine ⟨trivial,fun f hf M w vs hh r=>?_⟩
 obtain ⟨v,hv,hc⟩:=h f hf M w vs r
 refine hc.mono ?_
 rintro e w' ⟨rfl,rfl⟩
 exact ⟨v,M,rfl,Bel.refl _,Mem.le_refl _,fun p h1 h2=>absurd h1 h2,hh,hv⟩
end Go.Gv

namespace Go.Proofs
open Go.Shelf
def Tryz.lays189_ren : Go.Shelf.Ren := ⟨fun | 189 => 52 | 125 => 74 | 257 => 73 | 128 => 110 | 129 => 111 | 294 => 101 | 295 => 102 | 296 => 103 | 297 => 104 | 298 => 105 | 299 => 106 | 216 => 107 | 300 => 108 | 301 => 109 | 328 => 125 | 329 => 126 | 330 => 127 | 331 => 128 | 332 => 129 | 215 => 130 | 343 => 144 | n => n, fun | 28 => 26 | 3 => 3 | 46 => 111 | 0 => 0 | 51 => 153 | 53 => 155 | 4 => 4 | 183 => 146 | 182 => 145 | 131 => 150 | 5 => 5 | 9 => 9 | 218 => 173 | 222 => 177 | 228 => 201 | 229 => 163 | n => n, fun | n => n⟩
theorem Tryz.lays189 : Go.Proofs.Lays.n189 Tryz.prog Tryz.lays189_ren := {
 mixed := by kernel_rfl
 f125 := Tryz.func74.trans (congrArg some (by kernel_rfl))
 f128 := Tryz.func110.trans (congrArg some (by kernel_rfl))
 f129 := Tryz.func111.trans (congrArg some (by kernel_rfl))
 f189 := Tryz.func52.trans (congrArg some (by kernel_rfl))
 f215 := Tryz.func130.trans (congrArg some (by kernel_rfl))
 f216 := Tryz.func107.trans (congrArg some (by kernel_rfl))
 f257 := Tryz.func73.trans (congrArg some (by kernel_rfl))
 f294 := Tryz.func101.trans (congrArg some (by kernel_rfl))
 f295 := Tryz.func102.trans (congrArg some (by kernel_rfl))
 f296 := Tryz.func103.trans (congrArg some (by kernel_rfl))
 f297 := Tryz.func104.trans (congrArg some (by kernel_rfl))
 f298 := Tryz.func105.trans (congrArg some (by kernel_rfl))
 f299 := Tryz.func106.trans (congrArg some (by kernel_rfl))
 f300 := Tryz.func108.trans (congrArg some (by kernel_rfl))
 f301 := Tryz.func109.trans (congrArg some (by kernel_rfl))
 f328 := Tryz.func125.trans (congrArg some (by kernel_rfl))
 f329 := Tryz.func126.trans (congrArg some (by kernel_rfl))
 f330 := Tryz.func127.trans (congrArg some (by kernel_rfl))
 f331 := Tryz.func128.trans (congrArg some (by kernel_rfl))
 f332 := Tryz.func129.trans (congrArg some (by kernel_rfl))
 f343 := Tryz.func144.trans (congrArg some (by kernel_rfl))
 t0 := Tryz.underlying0
 a0 := Tryz.isAgg0
 z0 := Tryz.sizeOf0
 v0 := Tryz.zeroValue0
 t3 := Tryz.underlying3
 a3 := Tryz.isAgg3
 z3 := Tryz.sizeOf3
 v3 := Tryz.zeroValue3
 t4 := Tryz.underlying4
 a4 := Tryz.isAgg4
 z4 := Tryz.sizeOf4
 v4 := Tryz.zeroValue4
 t5 := Tryz.underlying5
 a5 := Tryz.isAgg5
 z5 := Tryz.sizeOf5
 v5 := Tryz.zeroValue5
 t9 := Tryz.underlying9
 a9 := Tryz.isAgg9
 z9 := Tryz.sizeOf9
 v9 := Tryz.zeroValue9
 t28 := Tryz.underlying26
 a28 := Tryz.isAgg26
 z28 := Tryz.sizeOf26
 v28 := Tryz.zeroValue26
 t46 := Tryz.underlying111
 a46 := Tryz.isAgg111
 z46 := Tryz.sizeOf111
 v46 := Tryz.zeroValue111
 t51 := Tryz.underlying153
 a51 := Tryz.isAgg153
 z51 := Tryz.sizeOf153
 v51 := Tryz.zeroValue153
 t53 := Tryz.underlying155
 a53 := Tryz.isAgg155
 z53 := Tryz.sizeOf155
 v53 := Tryz.zeroValue155
 t131 := Tryz.underlying150
 a131 := Tryz.isAgg150
 z131 := Tryz.sizeOf150
 v131 := Tryz.zeroValue150
 t182 := Tryz.underlying145
 a182 := Tryz.isAgg145
 z182 := Tryz.sizeOf145
 v182 := Tryz.zeroValue145
 t183 := Tryz.underlying146
 a183 := Tryz.isAgg146
 z183 := Tryz.sizeOf146
 v183 := Tryz.zeroValue146
 t218 := Tryz.underlying173
 a218 := Tryz.isAgg173
 z218 := Tryz.sizeOf173
 v218 := Tryz.zeroValue173
 t222 := Tryz.underlying177
 a222 := Tryz.isAgg177
 z222 := Tryz.sizeOf177
 v222 := Tryz.zeroValue177
 t228 := Tryz.underlying201
 a228 := Tryz.isAgg201
 z228 := Tryz.sizeOf201
 v228 := Tryz.zeroValue201
 t229 := Tryz.underlying163
 a229 := Tryz.isAgg163
 z229 := Tryz.sizeOf163
 v229 := Tryz.zeroValue163 }
def Tryz.laysNm220_ren : Go.Shelf.Ren := ⟨fun | 20 => 53 | n => n, fun | 22 => 26 | 3 => 3 | 4 => 4 | 0 => 0 | n => n, fun | n => n⟩
theorem Tryz.laysNm220 : Go.Proofs.Lays2.n20 Tryz.prog Tryz.laysNm220_ren := {
 mixed := by kernel_rfl
 f20 := Tryz.func53.trans (congrArg some (by kernel_rfl))
 t0 := Tryz.underlying0
 a0 := Tryz.isAgg0
 z0 := Tryz.sizeOf0
 v0 := Tryz.zeroValue0
 t3 := Tryz.underlying3
 a3 := Tryz.isAgg3
 z3 := Tryz.sizeOf3
 v3 := Tryz.zeroValue3
 t4 := Tryz.underlying4
 a4 := Tryz.isAgg4
 z4 := Tryz.sizeOf4
 v4 := Tryz.zeroValue4
 t22 := Tryz.underlying26
 a22 := Tryz.isAgg26
 z22 := Tryz.sizeOf26
 v22 := Tryz.zeroValue26
 i3 := by kernel_rfl }
def Tryz.lays171_ren : Go.Shelf.Ren := ⟨fun | 171 => 96 | 243 => 124 | 246 => 143 | 283 => 155 | 284 => 156 | 285 => 157 | 286 => 158 | 129 => 111 | 317 => 162 | 318 => 163 | 319 => 164 | 320 => 165 | 337 => 166 | 338 => 167 | n => n, fun | 3 => 3 | 9 => 9 | 2 => 2 | 4 => 4 | 171 => 214 | 0 => 0 | 53 => 155 | 37 => 140 | 5 => 5 | 173 => 216 | 212 => 221 | 51 => 153 | 20 => 20 | 213 => 222 | 46 => 111 | 232 => 223 | 233 => 224 | n => n, fun | 17 => 0 | 18 => 1 | 19 => 2 | n => n⟩
theorem Tryz.lays171 : Go.Proofs.Lays.n171 Tryz.prog Tryz.lays171_ren := {
 mixed := by kernel_rfl
 f129 := Tryz.func111.trans (congrArg some (by kernel_rfl))
 f171 := Tryz.func96.trans (congrArg some (by kernel_rfl))
 f243 := Tryz.func124.trans (congrArg some (by kernel_rfl))
 f246 := Tryz.func143.trans (congrArg some (by kernel_rfl))
 f283 := Tryz.func155.trans (congrArg some (by kernel_rfl))
 f284 := Tryz.func156.trans (congrArg some (by kernel_rfl))
 f285 := Tryz.func157.trans (congrArg some (by kernel_rfl))
 f286 := Tryz.func158.trans (congrArg some (by kernel_rfl))
 f317 := Tryz.func162.trans (congrArg some (by kernel_rfl))
 f318 := Tryz.func163.trans (congrArg some (by kernel_rfl))
 f319 := Tryz.func164.trans (congrArg some (by kernel_rfl))
 f320 := Tryz.func165.trans (congrArg some (by kernel_rfl))
 f337 := Tryz.func166.trans (congrArg some (by kernel_rfl))
 f338 := Tryz.func167.trans (congrArg some (by kernel_rfl))
 t0 := Tryz.underlying0
 a0 := Tryz.isAgg0
 z0 := Tryz.sizeOf0
 v0 := Tryz.zeroValue0
 t2 := Tryz.underlying2
 a2 := Tryz.isAgg2
 z2 := Tryz.sizeOf2
 v2 := Tryz.zeroValue2
 t3 := Tryz.underlying3
 a3 := Tryz.isAgg3
 z3 := Tryz.sizeOf3
 v3 := Tryz.zeroValue3
 t4 := Tryz.underlying4
 a4 := Tryz.isAgg4
 z4 := Tryz.sizeOf4
 v4 := Tryz.zeroValue4
 t5 := Tryz.underlying5
 a5 := Tryz.isAgg5
 z5 := Tryz.sizeOf5
 v5 := Tryz.zeroValue5
 t9 := Tryz.underlying9
 a9 := Tryz.isAgg9
 z9 := Tryz.sizeOf9
 v9 := Tryz.zeroValue9
 t20 := Tryz.underlying20
 a20 := Tryz.isAgg20
 z20 := Tryz.sizeOf20
 v20 := Tryz.zeroValue20
 t37 := Tryz.underlying140
 a37 := Tryz.isAgg140
 z37 := Tryz.sizeOf140
 v37 := Tryz.zeroValue140
 t46 := Tryz.underlying111
 a46 := Tryz.isAgg111
 z46 := Tryz.sizeOf111
 v46 := Tryz.zeroValue111
 t51 := Tryz.underlying153
 a51 := Tryz.isAgg153
 z51 := Tryz.sizeOf153
 v51 := Tryz.zeroValue153
 t53 := Tryz.underlying155
 a53 := Tryz.isAgg155
 z53 := Tryz.sizeOf155
 v53 := Tryz.zeroValue155
 t171 := Tryz.underlying214
 a171 := Tryz.isAgg214
 z171 := Tryz.sizeOf214
 v171 := Tryz.zeroValue214
 t173 := Tryz.underlying216
 a173 := Tryz.isAgg216
 z173 := Tryz.sizeOf216
 v173 := Tryz.zeroValue216
 t212 := Tryz.underlying221
 a212 := Tryz.isAgg221
 z212 := Tryz.sizeOf221
 v212 := Tryz.zeroValue221
 t213 := Tryz.underlying222
 a213 := Tryz.isAgg222
 z213 := Tryz.sizeOf222
 t232 := Tryz.underlying223
 a232 := Tryz.isAgg223
 z232 := Tryz.sizeOf223
 v232 := Tryz.zeroValue223
 t233 := Tryz.underlying224
 a233 := Tryz.isAgg224
 z233 := Tryz.sizeOf224
 v233 := Tryz.zeroValue224
 g17 := by kernel_rfl
 g18 := by kernel_rfl
 g19 := by kernel_rfl }
open Go.RowKit Go.Sort Go.Lib in
theorem Tryz.strconv_Itoa_small (i : Nat) (hi : i < 100) (w : World) :
  Calls Tryz.prog 96 #[.int .i64 i] w fun e w' => e = .returned (.string ⟨(Lib.decDigits i).toArray⟩) /\ w' = w := Any.strconv_Itoa_small Tryz.lays171 i hi w
end Go.Proofs

namespace Go.Gv
open Go.Sort
section
variable {P : Program} {F : Fid} {α : Type} [Inhabited α]
def iL (encD : α -> D) (d : Array α) : List (List D):=d.toList.map fun x=>[encD x]
theorem mI {f : FuncId} (enc : α -> Value) (encD : α -> D) (hflat : ∀ M x u,ac F M (encD x) u -> u=enc x) (hrep : ∀ M x,ac F M (encD x) (enc x)) (d d' : Array α) (hsz : d'.size=d.size) (ds : List D)
  (hnone : d.size=0 -> ∀ (M : Mem) (w : World) (vs : List Value) (A : Option Addr),(∀ p v,M p=some v -> w.cell? p=some v) -> au F M ds vs -> Calls P f (.slice A 0 0::vs).toArray w fun e w'=>e=.returned (.tuple #[]) /\ ∃ n os,w'=grow (Sort.ahead w n) os)
  (hrun : ∀ (M : Mem) (w : World) (vs : List Value) (blk off cap : Nat),(∀ p v,M p=some v -> w.cell? p=some v) -> (∀ p : Addr,p.block=blk -> M p=none) -> au F M ds vs -> Holds enc w blk off d -> blk < w.heap.size ->
   Calls P f (.slice (some ⟨blk,off,none⟩) d.size cap::vs).toArray w fun e w'=>e=.returned (.tuple #[]) /\ ∃ n os,w'=grow (putRow enc (Sort.ahead w n) blk off d') os) : tf P F f 1 (iL encD d) ds (iL encD d'):=by
 intro M w vs hh r
 have hl : (iL encD d).length=d.size:=by simp [iL]
 refine ⟨fun e A=>?_,fun b o T us cap hM hb hcell hcap hle hu hc=>?_⟩
 ·have h0 : d.size=0:=by rw [<- hl,e];rfl
  refine (hnone h0 M w vs A hh r).mono ?_
  rintro e0 w' ⟨rfl,n,os,rfl⟩
  exact ⟨rfl,rfl,rfl,rfl,by simp [grow,Sort.ahead],fun k hk=>by simp only [grow,Sort.ahead];rw [Array.getElem?_append_left hk],Nat.le_add_right _ _⟩
 ·rw [hl] at hcap ⊢
  have hH : Holds enc w b o d:=fun j hj=>by
   obtain ⟨u,k1,k2⟩:=hc j [encD d[j]] 0 (encD d[j]) (by simp [iL,hj]) rfl
   have:=hflat _ _ _ k2
   subst this
   have e1 : d[j]! = d[j]:=x0Z d j hj
   rw [e1]
   have k3 : us[o + j]? = some (enc d[j]):=by simpa using k1
   constructor
   ·simp [World.cell?,hcell,k3]
   ·simp [World.frozen?,hcell]
  refine (hrun M w vs b o cap hh hM r hH hb).mono ?_
  rintro e0 w' ⟨rfl,n,os,rfl⟩
  have hput : (grow (putRow enc (Sort.ahead w n) b o d') os).heap[b]? = some (.cells (putCells enc o d' us.toArray) T (0,0)):=by
   simp only [grow,putRow,mapBlock,Sort.ahead]
   rw [Array.getElem?_append_left (by simpa using hb),x1C,if_pos rfl,hcell]
   rfl
  refine ⟨rfl,(putCells enc o d' us.toArray).toList,by rw [x1j];exact hput,by simp [putCells],fun i r off x hi hr=>?_,⟨rfl,rfl,rfl,by simp [grow,putRow,mapBlock,Sort.ahead],fun k hk hne=>?_,Nat.le_add_right _ _⟩⟩
  ·simp only [iL,x0x,x0h] at hi
   obtain ⟨y,h1,rfl⟩:=hi
   have ho : off=0:=by
    have:=(x0c.1 hr).1
    simpa using this
   subst ho
   simp only [x1h,x0j] at hr
   subst hr
   have hi2 : i < d'.size:=by have:=(x0c.1 h1).1;simpa using this
   have hy : d'[i]! = y:=by
    rw [x0Z d' i hi2]
    have:=(x0c.1 h1).2
    simpa using this
   refine ⟨enc y,?_,hrep _ _⟩
   have hlt : o + i < us.length:=by
    have : o + cap * 1 <= us.length:=hle
    omega
   rw [Nat.mul_one,x1b,Array.getElem?_toList]
   simp only [putCells,Array.getElem?_mapIdx,x1p]
   rw [x0d hlt]
   simp only [x04]
   rw [if_pos ⟨by omega,by omega⟩,show o + i - o=i by omega,hy]
  ·simp only [grow,putRow,mapBlock,Sort.ahead]
   rw [Array.getElem?_append_left (by simpa using hk),x1C,if_neg (Ne.symm hne)]
end
end Go.Gv

namespace Go.Gv
open Go.Sort Go.Proofs Go.Shelf
section
variable {P : Program} {F : Fid} {ρ : Ren}
def wG (zs : List Int) : List (List D):=zs.map fun n=>[.int .i64 n]
theorem uf {zs : List Int} {i : Nat} {r : List D} {off : Nat} {d : D} (h1 : (wG zs)[i]? = some r) (h2 : r[off]? = some d) : ∃ x,zs[i]? = some x /\ off=0 /\ d=.int .i64 x:=by
 simp only [wG,x0x,x0h] at h1
 obtain ⟨x,h1,rfl⟩:=h1
 have ho : off=0:=by have:=(x0c.1 h2).1;simpa using this
 subst ho
 simp only [x1h,x0j] at h2
 exact ⟨x,h1,rfl,h2.symm⟩
theorem qk {M : Mem} {zs : List Int} {us : List Value} {o : Nat} (hc : ∀ i r off d,(wG zs)[i]? = some r -> r[off]? = some d -> ∃ u,us[o + i * 1 + off]? = some u /\ ac F M d u) : ∀ j x,zs[j]? = some x -> us[o + j]? = some (.int .i64 x):=by
 intro j x hj
 obtain ⟨u,k1,k2⟩:=hc j [.int .i64 x] 0 (.int .i64 x) (by simp [wG,hj]) rfl
 simp only [ac] at k2
 subst k2
 simpa using k1
theorem mj (Ly : Lays.n189 P ρ) {g : Nat} (hg : ∀ f,F g=some f -> f=ρ.f 189) (zs : List Int) (hz : zs.length < 2 ^ 40) :
  fe P F g [.own 1 (zs.map fun n=>[.int .i64 n])] .any [.own 1 ((zs.mergeSort fun x y=>decide (x <= y)).map fun n=>[.int .i64 n]),.nilp]:=by
 refine ⟨trivial,fun f hf=>⟨rfl,?_⟩⟩
 obtain rfl:=hg f hf
 have k:=mI (P:=P) (F:=F) (f:=ρ.f 189) (Value.int .i64) (D.int .i64) (fun M x u h=>by simpa only [ac] using h) (fun M x=>by simp only [ac]) zs.toArray (zs.mergeSort fun x y=>decide (x <= y)).toArray (by simp [List.length_mergeSort]) []
  (fun h M w vs A hh r=>by
   simp only [au] at r
   subst r
   refine (Any.slices_Sort_int_none Ly A 0 w).mono ?_
   rintro e w' ⟨rfl,rfl⟩
   exact ⟨rfl,0,#[],by simp [grow,Sort.ahead]⟩)
  (fun M w vs blk off cap hh hM r hH hb=>by
   simp only [au] at r
   subst r
   have:=Any.slices_Sort_int Ly blk off cap zs w hH hb (by omega)
   simpa using this)
 simpa [iL] using k
theorem mH (L : Lays2.n20 P ρ) {g : Nat} (hg : ∀ f,F g=some f -> f=ρ.f 20) (zs : List Int) (hz : zs.length < 2 ^ 40) :
  fe P F g [.own 1 (zs.map fun n=>[.int .i64 n])] .any [.own 1 ((Lib.compact zs).map fun n=>[.int .i64 n]),.nils,.nils]:=by
 refine ⟨trivial,fun f hf=>⟨rfl,?_⟩⟩
 obtain rfl:=hg f hf
 refine pK.to ?_
 intro M w vs hh
 have nil : ∀ {b : Option Nat},lm F M w b [] vs -> vs=[]:=fun h=>x0v h.1.symm
 refine ⟨fun e A r=>?_,fun b o T us cap r hM hb hcell hcap hmc hle hu hc=>?_⟩
 ·rw [nil r]
  have h0 : zs=[]:=by simpa using e
  subst h0
  refine (Any.slices_Compact_int_empty L A 0 w).mono ?_
  rintro e w' ⟨rfl,rfl⟩
  exact ⟨_,rfl,Bel.refl _,.inl ⟨rfl,A,rfl⟩⟩
 ·rw [nil r]
  have hget:=qk hc
  have hl : (zs.map fun n=>[D.int .i64 n]).length=zs.length:=by simp
  rw [hl] at hcap ⊢
  have hH : Holds (Value.int .i64) w b o zs.toArray:=fun j hj=>by
   have hj2 : j < zs.length:=by simpa using hj
   have e1 : zs.toArray[j]! = zs[j]:=by rw [x0Z zs.toArray j hj];simp
   have k3:=hget j zs[j] (x0d hj2)
   rw [e1]
   exact ⟨by simp [World.cell?,hcell,k3],by simp [World.frozen?,hcell]⟩
  obtain ⟨d',hd'⟩ : ∃ d',d'=(Lib.compact zs++List.replicate (zs.length - (Lib.compact zs).length) 0).toArray:=⟨_,rfl⟩
  have hcl : (Lib.compact zs).length <= zs.length:=by
   unfold Lib.compact Lib.compactUpTo
   rw [List.length_map]
   have:=List.length_filter_le (Lib.keeps zs.toArray) (List.range zs.length)
   simpa using this
  have hsz : d'.size=zs.length:=by rw [hd'];simp;omega
  refine (Any.slices_Compact_int L b o cap zs w hH (by omega) hcap).mono ?_
  rintro e w' ⟨rfl,q,rfl⟩
  rw [<- hd']
  have hput : (putRow (Value.int .i64) (Sort.ahead w q) b o d').heap[b]? = some (.cells (putCells (Value.int .i64) o d' us.toArray) T (0,0)):=by
   simp only [putRow,mapBlock,Sort.ahead]
   rw [x1C,if_pos rfl,hcell]
   rfl
  refine ⟨_,rfl,(putCells (Value.int .i64) o d' us.toArray).toList,by rw [x1j];exact hput,by simp [putCells],⟨rfl,rfl,rfl,by simp [putRow,mapBlock,Sort.ahead],fun k hk hne=>?_,Nat.le_add_right _ _⟩,.inl ⟨by simp,by simp;omega,fun i r off d h1 h2=>?_⟩⟩
  ·simp only [putRow,mapBlock,Sort.ahead]
   rw [x1C,if_neg (Ne.symm hne)]
  ·obtain ⟨x,h3,rfl,rfl⟩:=uf h1 h2
   have hi : i < (Lib.compact zs).length:=(x0c.1 h3).1
   refine ⟨.int .i64 x,?_,by simp only [ac]⟩
   have hlt : o + i < us.length:=by omega
   have hy : d'[i]! = x:=by
    rw [x0Z d' i (by omega)]
    have : d'[i]? = some x:=by rw [hd'];simp [x0C hi,h3]
    exact (Array.getElem?_eq_some_iff.1 this).2
   rw [Nat.mul_one,x1b,Array.getElem?_toList]
   simp only [putCells,Array.getElem?_mapIdx,x1p]
   rw [x0d hlt]
   simp only [x04]
   rw [if_pos ⟨by omega,by omega⟩,show o + i - o=i by omega,hy]
end
end Go.Gv

namespace Go.Gv
structure Tag {α : Type _} (x : α) : Type where
@[simp] theorem Od : isV (.any)=true:=zR
@[simp] theorem Ol {k n} : isV (.int k n)=true:=zR
@[simp] theorem IS {b} : isV (.bool b)=true:=zR
@[simp] theorem Ox {s} : isV (.str s)=true:=zR
@[simp] theorem IT : isV (.nilp)=true:=zR
@[simp] theorem IU : isV (.nils)=true:=zR
@[simp] theorem Ob {ds} : isV (.agg ds)=true:=zR
@[simp] theorem Oz {ds} : isV (.tup ds)=true:=zR
@[simp] theorem QT {es} : isV (.sl es)=true:=zR
@[simp] theorem Oo {ds} : isV (.ptr ds)=true:=zR
@[simp] theorem QR {g ds} : isV (.fn g ds)=true:=zR
@[simp] theorem On {sz es} : isV (.own sz es)=false:=zR
@[simp] theorem Oe {sz es} : isV (.blk sz es)=false:=zR
@[simp] theorem QS {kt et ks vs} : isV (.mp kt et ks vs)=false:=zR
@[simp] theorem Om {b} : isV (.mrf b)=false:=zR
@[simp] theorem Ot {p k n} : isV (.ref p k n)=false:=zR
@[simp] theorem Oa {p i off} : isV (.adr p i off)=false:=zR
@[simp] theorem Oc {ds} : isV (.agx ds)=false:=zR
@[simp] theorem Oy {ds} : isV (.tpx ds)=false:=zR
@[simp] theorem Oq {ds} : isV (.ptx ds)=false:=zR
@[simp] theorem Ou {n sz ds} : isV (.rfx n sz ds)=false:=zR
@[simp] theorem Og {g ds} : isV (.fnx g ds)=false:=zR
@[simp] theorem Oi {T p i off} : isV (.ifa T p i off)=false:=zR
@[simp] theorem Oj {T n} : isV (.ifi T n)=true:=zR
@[simp] theorem Ov {k es} : isV (.slv k es)=true:=zR
@[simp] theorem Oh {g ds cs} : isV (.fny g ds cs)=false:=zR
@[simp] theorem MK : isK (.any)=false:=zR
@[simp] theorem MQ {k n} : isK (.int k n)=true:=zR
@[simp] theorem IF {b} : isK (.bool b)=true:=zR
@[simp] theorem MZ {s} : isK (.str s)=true:=zR
@[simp] theorem IG : isK (.nilp)=true:=zR
@[simp] theorem IH : isK (.nils)=true:=zR
@[simp] theorem MI {ds} : isK (.agg ds)=true:=zR
@[simp] theorem M6 {ds} : isK (.tup ds)=true:=zR
@[simp] theorem QD {es} : isK (.sl es)=true:=zR
@[simp] theorem MT {ds} : isK (.ptr ds)=true:=zR
@[simp] theorem QB {g ds} : isK (.fn g ds)=true:=zR
@[simp] theorem MS {sz es} : isK (.own sz es)=false:=zR
@[simp] theorem ML {sz es} : isK (.blk sz es)=false:=zR
@[simp] theorem QC {kt et ks vs} : isK (.mp kt et ks vs)=false:=zR
@[simp] theorem MR {b} : isK (.mrf b)=false:=zR
@[simp] theorem MV {p k n} : isK (.ref p k n)=false:=zR
@[simp] theorem MH {p i off} : isK (.adr p i off)=false:=zR
@[simp] theorem MJ {ds} : isK (.agx ds)=false:=zR
@[simp] theorem M5 {ds} : isK (.tpx ds)=false:=zR
@[simp] theorem MU {ds} : isK (.ptx ds)=false:=zR
@[simp] theorem MW {n sz ds} : isK (.rfx n sz ds)=false:=zR
@[simp] theorem MM {g ds} : isK (.fnx g ds)=false:=zR
@[simp] theorem MO {T p i off} : isK (.ifa T p i off)=false:=zR
@[simp] theorem MP {T n} : isK (.ifi T n)=true:=zR
@[simp] theorem MX {k es} : isK (.slv k es)=true:=zR
@[simp] theorem MN {g ds cs} : isK (.fny g ds cs)=false:=zR
@[simp] theorem Nx : isP (.any)=true:=zR
@[simp] theorem ND {k n} : isP (.int k n)=true:=zR
@[simp] theorem IL {b} : isP (.bool b)=true:=zR
@[simp] theorem NM {s} : isP (.str s)=true:=zR
@[simp] theorem IM : isP (.nilp)=true:=zR
@[simp] theorem zio : isP (.nils)=true:=zR
@[simp] theorem Nv {ds} : isP (.agg ds)=true:=zR
@[simp] theorem NO {ds} : isP (.tup ds)=true:=zR
@[simp] theorem QK {es} : isP (.sl es)=true:=zR
@[simp] theorem NG {ds} : isP (.ptr ds)=true:=zR
@[simp] theorem QI {g ds} : isP (.fn g ds)=true:=zR
@[simp] theorem NF {sz es} : isP (.own sz es)=false:=zR
@[simp] theorem Ny {sz es} : isP (.blk sz es)=false:=zR
@[simp] theorem QJ {kt et ks vs} : isP (.mp kt et ks vs)=false:=zR
@[simp] theorem NE {b} : isP (.mrf b)=true:=zR
@[simp] theorem NI {p k n} : isP (.ref p k n)=true:=zR
@[simp] theorem Nu {p i off} : isP (.adr p i off)=true:=zR
@[simp] theorem Nw {ds} : isP (.agx ds)=false:=zR
@[simp] theorem NN {ds} : isP (.tpx ds)=false:=zR
@[simp] theorem NH {ds} : isP (.ptx ds)=false:=zR
@[simp] theorem NJ {n sz ds} : isP (.rfx n sz ds)=false:=zR
@[simp] theorem Nz {g ds} : isP (.fnx g ds)=false:=zR
@[simp] theorem NB {T p i off} : isP (.ifa T p i off)=true:=zR
@[simp] theorem NC {T n} : isP (.ifi T n)=true:=zR
@[simp] theorem NK {k es} : isP (.slv k es)=true:=zR
@[simp] theorem NA {g ds cs} : isP (.fny g ds cs)=false:=zR
@[simp] theorem NS : isS (.any)=true:=zR
@[simp] theorem QQ : isV (.bb)=true:=zR
@[simp] theorem QL : isS (.bb)=true:=zR
@[simp] theorem QH : isP (.bb)=true:=zR
@[simp] theorem Qu : isB (.bb)=false:=zR
@[simp] theorem Hm : cd (.bb)=false:=zR
@[simp] theorem EY : a8 (.bb)=[]:=zR
@[simp] theorem A3 : aB (.bb)=[]:=zR
@[simp] theorem NY {k n} : isS (.int k n)=true:=zR
@[simp] theorem IP {b} : isS (.bool b)=true:=zR
@[simp] theorem N7 {s} : isS (.str s)=true:=zR
@[simp] theorem IQ : isS (.nilp)=true:=zR
@[simp] theorem IR : isS (.nils)=true:=zR
@[simp] theorem NQ {ds} : isS (.agg ds)=true:=zR
@[simp] theorem N9 {ds} : isS (.tup ds)=true:=zR
@[simp] theorem QP {es} : isS (.sl es)=true:=zR
@[simp] theorem N1 {ds} : isS (.ptr ds)=true:=zR
@[simp] theorem QN {g ds} : isS (.fn g ds)=true:=zR
@[simp] theorem N0 {sz es} : isS (.own sz es)=false:=zR
@[simp] theorem NT {sz es} : isS (.blk sz es)=false:=zR
@[simp] theorem QO {kt et ks vs} : isS (.mp kt et ks vs)=false:=zR
@[simp] theorem NZ {b} : isS (.mrf b)=true:=zR
@[simp] theorem N3 {p k n} : isS (.ref p k n)=true:=zR
@[simp] theorem NP {p i off} : isS (.adr p i off)=true:=zR
@[simp] theorem NR {ds} : isS (.agx ds)=ds.all isP:=zR
@[simp] theorem N8 {ds} : isS (.tpx ds)=ds.all isP:=zR
@[simp] theorem N2 {ds} : isS (.ptx ds)=ds.all isP:=zR
@[simp] theorem N4 {n sz ds} : isS (.rfx n sz ds)=ds.all isP:=zR
@[simp] theorem NU {g ds} : isS (.fnx g ds)=ds.all isP:=zR
@[simp] theorem NW {T p i off} : isS (.ifa T p i off)=true:=zR
@[simp] theorem NX {T n} : isS (.ifi T n)=true:=zR
@[simp] theorem N5 {k es} : isS (.slv k es)=true:=zR
@[simp] theorem NV {g ds cs} : isS (.fny g ds cs)=(ds.all isP && cs.all isP):=zR
@[simp] theorem Hw : aC (.any)=false:=zR
@[simp] theorem HC {k n} : aC (.int k n)=true:=zR
@[simp] theorem Ec {b} : aC (.bool b)=true:=zR
@[simp] theorem HL {s} : aC (.str s)=true:=zR
@[simp] theorem Ed : aC (.nilp)=true:=zR
@[simp] theorem Ee : aC (.nils)=true:=zR
@[simp] theorem Hu {ds} : aC (.agg ds)=false:=zR
@[simp] theorem HN {ds} : aC (.tup ds)=false:=zR
@[simp] theorem Me {es} : aC (.sl es)=true:=zR
@[simp] theorem HF {ds} : aC (.ptr ds)=true:=zR
@[simp] theorem Mc {g ds} : aC (.fn g ds)=true:=zR
@[simp] theorem HE {sz es} : aC (.own sz es)=false:=zR
@[simp] theorem Hx {sz es} : aC (.blk sz es)=false:=zR
@[simp] theorem Md {kt et ks vs} : aC (.mp kt et ks vs)=false:=zR
@[simp] theorem HD {b} : aC (.mrf b)=false:=zR
@[simp] theorem HH {p k n} : aC (.ref p k n)=false:=zR
@[simp] theorem Ht {p i off} : aC (.adr p i off)=false:=zR
@[simp] theorem Hv {ds} : aC (.agx ds)=false:=zR
@[simp] theorem HM {ds} : aC (.tpx ds)=false:=zR
@[simp] theorem HG {ds} : aC (.ptx ds)=false:=zR
@[simp] theorem HI {n sz ds} : aC (.rfx n sz ds)=false:=zR
@[simp] theorem Hy {g ds} : aC (.fnx g ds)=false:=zR
@[simp] theorem HA {T p i off} : aC (.ifa T p i off)=false:=zR
@[simp] theorem HB {T n} : aC (.ifi T n)=false:=zR
@[simp] theorem HJ {k es} : aC (.slv k es)=false:=zR
@[simp] theorem Hz {g ds cs} : aC (.fny g ds cs)=false:=zR
@[simp] theorem Na : isO (.any)=false:=zR
@[simp] theorem Nh {k n} : isO (.int k n)=false:=zR
@[simp] theorem II {b} : isO (.bool b)=false:=zR
@[simp] theorem Nr {s} : isO (.str s)=false:=zR
@[simp] theorem IJ : isO (.nilp)=false:=zR
@[simp] theorem IK : isO (.nils)=false:=zR
@[simp] theorem M8 {ds} : isO (.agg ds)=false:=zR
@[simp] theorem Nt {ds} : isO (.tup ds)=false:=zR
@[simp] theorem QG {es} : isO (.sl es)=false:=zR
@[simp] theorem Nk {ds} : isO (.ptr ds)=false:=zR
@[simp] theorem QE {g ds} : isO (.fn g ds)=false:=zR
@[simp] theorem Nj {sz es} : isO (.own sz es)=true:=zR
@[simp] theorem Nb {sz es} : isO (.blk sz es)=false:=zR
@[simp] theorem QF {kt et ks vs} : isO (.mp kt et ks vs)=false:=zR
@[simp] theorem Ni {b} : isO (.mrf b)=false:=zR
@[simp] theorem Nm {p k n} : isO (.ref p k n)=false:=zR
@[simp] theorem M7 {p i off} : isO (.adr p i off)=false:=zR
@[simp] theorem M9 {ds} : isO (.agx ds)=false:=zR
@[simp] theorem Ns {ds} : isO (.tpx ds)=false:=zR
@[simp] theorem Nl {ds} : isO (.ptx ds)=false:=zR
@[simp] theorem Nn {n sz ds} : isO (.rfx n sz ds)=false:=zR
@[simp] theorem Nc {g ds} : isO (.fnx g ds)=false:=zR
@[simp] theorem Nf {T p i off} : isO (.ifa T p i off)=false:=zR
@[simp] theorem Ng {T n} : isO (.ifi T n)=false:=zR
@[simp] theorem Np {k es} : isO (.slv k es)=false:=zR
@[simp] theorem Nd {g ds cs} : isO (.fny g ds cs)=false:=zR
@[simp] theorem HR : aW (.any)=true:=zR
@[simp] theorem HX {k n} : aW (.int k n)=true:=zR
@[simp] theorem Ef {b} : aW (.bool b)=true:=zR
@[simp] theorem Ie {s} : aW (.str s)=true:=zR
@[simp] theorem Eg : aW (.nilp)=true:=zR
@[simp] theorem Eh : aW (.nils)=true:=zR
@[simp] theorem HP {ds} : aW (.agg ds)=false:=zR
@[simp] theorem Ig {ds} : aW (.tup ds)=false:=zR
@[simp] theorem Mh {es} : aW (.sl es)=false:=zR
@[simp] theorem H0 {ds} : aW (.ptr ds)=false:=zR
@[simp] theorem Mf {g ds} : aW (.fn g ds)=false:=zR
@[simp] theorem HZ {sz es} : aW (.own sz es)=false:=zR
@[simp] theorem HS {sz es} : aW (.blk sz es)=false:=zR
@[simp] theorem Mg {kt et ks vs} : aW (.mp kt et ks vs)=false:=zR
@[simp] theorem HY {b} : aW (.mrf b)=false:=zR
@[simp] theorem Ib {p k n} : aW (.ref p k n)=false:=zR
@[simp] theorem HO {p i off} : aW (.adr p i off)=false:=zR
@[simp] theorem HQ {ds} : aW (.agx ds)=false:=zR
@[simp] theorem If {ds} : aW (.tpx ds)=false:=zR
@[simp] theorem Ia {ds} : aW (.ptx ds)=false:=zR
@[simp] theorem Ic {n sz ds} : aW (.rfx n sz ds)=false:=zR
@[simp] theorem HT {g ds} : aW (.fnx g ds)=false:=zR
@[simp] theorem HV {T p i off} : aW (.ifa T p i off)=false:=zR
@[simp] theorem HW {T n} : aW (.ifi T n)=true:=zR
@[simp] theorem Id {k es} : aW (.slv k es)=false:=zR
@[simp] theorem HU {g ds cs} : aW (.fny g ds cs)=false:=zR
@[simp] theorem Ik : cZ (.any)=true:=zR
@[simp] theorem Ir {k n} : cZ (.int k n)=true:=zR
@[simp] theorem Ei {b} : cZ (.bool b)=true:=zR
@[simp] theorem Iz {s} : cZ (.str s)=true:=zR
@[simp] theorem Ej : cZ (.nilp)=true:=zR
@[simp] theorem Ek : cZ (.nils)=true:=zR
@[simp] theorem Ii {ds} : cZ (.agg ds)=ds.all aW:=zR
@[simp] theorem IB {ds} : cZ (.tup ds)=false:=zR
@[simp] theorem Ml {es} : cZ (.sl es)=false:=zR
@[simp] theorem Iu {ds} : cZ (.ptr ds)=false:=zR
@[simp] theorem Mi {g ds} : cZ (.fn g ds)=false:=zR
@[simp] theorem It {sz es} : cZ (.own sz es)=false:=zR
@[simp] theorem Il {sz es} : cZ (.blk sz es)=false:=zR
@[simp] theorem Mk {kt et ks vs} : cZ (.mp kt et ks vs)=false:=zR
@[simp] theorem Is {b} : cZ (.mrf b)=false:=zR
@[simp] theorem Iw {p k n} : cZ (.ref p k n)=false:=zR
@[simp] theorem Ih {p i off} : cZ (.adr p i off)=false:=zR
@[simp] theorem Ij {ds} : cZ (.agx ds)=false:=zR
@[simp] theorem IA {ds} : cZ (.tpx ds)=false:=zR
@[simp] theorem Iv {ds} : cZ (.ptx ds)=false:=zR
@[simp] theorem Ix {n sz ds} : cZ (.rfx n sz ds)=false:=zR
@[simp] theorem Im {g ds} : cZ (.fnx g ds)=false:=zR
@[simp] theorem Ip {T p i off} : cZ (.ifa T p i off)=false:=zR
@[simp] theorem Iq {T n} : cZ (.ifi T n)=true:=zR
@[simp] theorem Iy {k es} : cZ (.slv k es)=false:=zR
@[simp] theorem Io {g ds cs} : cZ (.fny g ds cs)=false:=zR
@[simp] theorem Mq : isF (.any)=true:=zR
@[simp] theorem Mw {k n} : isF (.int k n)=true:=zR
@[simp] theorem IC {b} : isF (.bool b)=true:=zR
@[simp] theorem ME {s} : isF (.str s)=true:=zR
@[simp] theorem ID : isF (.nilp)=true:=zR
@[simp] theorem IE : isF (.nils)=true:=zR
@[simp] theorem Mn {ds} : isF (.agg ds)=ds.all aW:=zR
@[simp] theorem MG {ds} : isF (.tup ds)=ds.all cZ:=zR
@[simp] theorem QA {es} : isF (.sl es)=false:=zR
@[simp] theorem Mz {ds} : isF (.ptr ds)=false:=zR
@[simp] theorem Qy {g ds} : isF (.fn g ds)=false:=zR
@[simp] theorem My {sz es} : isF (.own sz es)=false:=zR
@[simp] theorem Mr {sz es} : isF (.blk sz es)=false:=zR
@[simp] theorem Qz {kt et ks vs} : isF (.mp kt et ks vs)=false:=zR
@[simp] theorem Mx {b} : isF (.mrf b)=false:=zR
@[simp] theorem MB {p k n} : isF (.ref p k n)=false:=zR
@[simp] theorem Mm {p i off} : isF (.adr p i off)=false:=zR
@[simp] theorem Mo {ds} : isF (.agx ds)=false:=zR
@[simp] theorem MF {ds} : isF (.tpx ds)=false:=zR
@[simp] theorem MA {ds} : isF (.ptx ds)=false:=zR
@[simp] theorem MC {n sz ds} : isF (.rfx n sz ds)=false:=zR
@[simp] theorem Ms {g ds} : isF (.fnx g ds)=false:=zR
@[simp] theorem Mu {T p i off} : isF (.ifa T p i off)=false:=zR
@[simp] theorem Mv {T n} : isF (.ifi T n)=true:=zR
@[simp] theorem MD {k es} : isF (.slv k es)=false:=zR
@[simp] theorem Mt {g ds cs} : isF (.fny g ds cs)=false:=zR
@[simp] theorem LO : isB (.any)=false:=zR
@[simp] theorem LU {k n} : isB (.int k n)=false:=zR
@[simp] theorem Hq {b} : isB (.bool b)=false:=zR
@[simp] theorem L9 {s} : isB (.str s)=false:=zR
@[simp] theorem Hr : isB (.nilp)=false:=zR
@[simp] theorem Hs : isB (.nils)=false:=zR
@[simp] theorem LM {ds} : isB (.agg ds)=false:=zR
@[simp] theorem Mb {ds} : isB (.tup ds)=false:=zR
@[simp] theorem Qx {es} : isB (.sl es)=false:=zR
@[simp] theorem LX {ds} : isB (.ptr ds)=false:=zR
@[simp] theorem Qv {g ds} : isB (.fn g ds)=false:=zR
@[simp] theorem LW {sz es} : isB (.own sz es)=false:=zR
@[simp] theorem LP {sz es} : isB (.blk sz es)=true:=zR
@[simp] theorem Qw {kt et ks vs} : isB (.mp kt et ks vs)=true:=zR
@[simp] theorem LV {b} : isB (.mrf b)=false:=zR
@[simp] theorem LZ {p k n} : isB (.ref p k n)=false:=zR
@[simp] theorem LK {p i off} : isB (.adr p i off)=false:=zR
@[simp] theorem LN {ds} : isB (.agx ds)=false:=zR
@[simp] theorem Ma {ds} : isB (.tpx ds)=false:=zR
@[simp] theorem LY {ds} : isB (.ptx ds)=false:=zR
@[simp] theorem L0 {n sz ds} : isB (.rfx n sz ds)=false:=zR
@[simp] theorem LQ {g ds} : isB (.fnx g ds)=false:=zR
@[simp] theorem LS {T p i off} : isB (.ifa T p i off)=false:=zR
@[simp] theorem LT {T n} : isB (.ifi T n)=false:=zR
@[simp] theorem L7 {k es} : isB (.slv k es)=false:=zR
@[simp] theorem LR {g ds cs} : isB (.fny g ds cs)=false:=zR
@[simp] theorem DU : cd (.any)=true:=zR
@[simp] theorem D0 {k n} : cd (.int k n)=false:=zR
@[simp] theorem AF {b} : cd (.bool b)=false:=zR
@[simp] theorem D9 {s} : cd (.str s)=false:=zR
@[simp] theorem AH : cd (.nilp)=false:=zR
@[simp] theorem AI : cd (.nils)=false:=zR
@[simp] theorem DS {ds} : cd (.agg ds)=false:=zR
@[simp] theorem Eb {ds} : cd (.tup ds)=false:=zR
@[simp] theorem Hp {es} : cd (.sl es)=false:=zR
@[simp] theorem D3 {ds} : cd (.ptr ds)=false:=zR
@[simp] theorem Hn {g ds} : cd (.fn g ds)=false:=zR
@[simp] theorem D2 {sz es} : cd (.own sz es)=false:=zR
@[simp] theorem DV {sz es} : cd (.blk sz es)=false:=zR
@[simp] theorem Ho {kt et ks vs} : cd (.mp kt et ks vs)=false:=zR
@[simp] theorem D1 {b} : cd (.mrf b)=false:=zR
@[simp] theorem D5 {p k n} : cd (.ref p k n)=false:=zR
@[simp] theorem DR {p i off} : cd (.adr p i off)=false:=zR
@[simp] theorem DT {ds} : cd (.agx ds)=false:=zR
@[simp] theorem Ea {ds} : cd (.tpx ds)=false:=zR
@[simp] theorem D4 {ds} : cd (.ptx ds)=false:=zR
@[simp] theorem D6 {n sz ds} : cd (.rfx n sz ds)=false:=zR
@[simp] theorem DW {g ds} : cd (.fnx g ds)=false:=zR
@[simp] theorem DY {T p i off} : cd (.ifa T p i off)=false:=zR
@[simp] theorem DZ {T n} : cd (.ifi T n)=false:=zR
@[simp] theorem D7 {k es} : cd (.slv k es)=false:=zR
@[simp] theorem DX {g ds cs} : cd (.fny g ds cs)=false:=zR
@[simp] theorem ya : cellsOf (.any)=[.any]:=zR
@[simp] theorem yh {k n} : cellsOf (.int k n)=[.int k n]:=zR
@[simp] theorem vR {b} : cellsOf (.bool b)=[.bool b]:=zR
@[simp] theorem yq {s} : cellsOf (.str s)=[.str s]:=zR
@[simp] theorem vT : cellsOf (.nilp)=[.nilp]:=zR
@[simp] theorem vU : cellsOf (.nils)=[.nils]:=zR
@[simp] theorem x8 {ds} : cellsOf (.agg ds)=ds:=zR
@[simp] theorem yt {ds} : cellsOf (.tup ds)=[.tup ds]:=zR
@[simp] theorem Ad {es} : cellsOf (.sl es)=[.sl es]:=zR
@[simp] theorem yk {ds} : cellsOf (.ptr ds)=[.ptr ds]:=zR
@[simp] theorem Ab {g ds} : cellsOf (.fn g ds)=[.fn g ds]:=zR
@[simp] theorem yj {sz es} : cellsOf (.own sz es)=[.own sz es]:=zR
@[simp] theorem yb {sz es} : cellsOf (.blk sz es)=[.blk sz es]:=zR
@[simp] theorem Ac {kt et ks vs} : cellsOf (.mp kt et ks vs)=[.mp kt et ks vs]:=zR
@[simp] theorem yi {b} : cellsOf (.mrf b)=[.mrf b]:=zR
@[simp] theorem ym {p k n} : cellsOf (.ref p k n)=[.ref p k n]:=zR
@[simp] theorem x7 {p i off} : cellsOf (.adr p i off)=[.adr p i off]:=zR
@[simp] theorem x9 {ds} : cellsOf (.agx ds)=[.agx ds]:=zR
@[simp] theorem yr {ds} : cellsOf (.tpx ds)=[.tpx ds]:=zR
@[simp] theorem yl {ds} : cellsOf (.ptx ds)=[.ptx ds]:=zR
@[simp] theorem yn {n sz ds} : cellsOf (.rfx n sz ds)=[.rfx n sz ds]:=zR
@[simp] theorem yc {g ds} : cellsOf (.fnx g ds)=[.fnx g ds]:=zR
@[simp] theorem yf {T p i off} : cellsOf (.ifa T p i off)=[.ifa T p i off]:=zR
@[simp] theorem yg {T n} : cellsOf (.ifi T n)=[.ifi T n]:=zR
@[simp] theorem yo {k es} : cellsOf (.slv k es)=[.slv k es]:=zR
@[simp] theorem ye {g ds cs} : cellsOf (.fny g ds cs)=[.fny g ds cs]:=zR
@[simp] theorem Cs : bI (.any)=.any:=zR
@[simp] theorem Cy {k n} : bI (.int k n)=.int k n:=zR
@[simp] theorem zY {b} : bI (.bool b)=.bool b:=zR
@[simp] theorem CI {s} : bI (.str s)=.str s:=zR
@[simp] theorem zZ : bI (.nilp)=.nilp:=zR
@[simp] theorem z6 : bI (.nils)=.nils:=zR
@[simp] theorem Cq {ds} : bI (.agg ds)=.agg ds:=zR
@[simp] theorem CK {ds} : bI (.tup ds)=.tup ds:=zR
@[simp] theorem FN {es} : bI (.sl es)=.sl es:=zR
@[simp] theorem CB {ds} : bI (.ptr ds)=.ptr ds:=zR
@[simp] theorem FL {g ds} : bI (.fn g ds)=.fn g ds:=zR
@[simp] theorem CA {sz es} : bI (.own sz es)=.own sz es:=zR
@[simp] theorem Ct {sz es} : bI (.blk sz es)=.blk sz es:=zR
@[simp] theorem FM {kt et ks vs} : bI (.mp kt et ks vs)=.mp kt et ks vs:=zR
@[simp] theorem Cz {b} : bI (.mrf b)=.mrf b:=zR
@[simp] theorem CE {p k n} : bI (.ref p k n)=.ref p k n:=zR
@[simp] theorem Cp {p i off} : bI (.adr p i off)=.adr p i off:=zR
@[simp] theorem Cr {ds} : bI (.agx ds)=.agg ds:=zR
@[simp] theorem CJ {ds} : bI (.tpx ds)=.tpx ds:=zR
@[simp] theorem CD {ds} : bI (.ptx ds)=.ptx ds:=zR
@[simp] theorem CF {n sz ds} : bI (.rfx n sz ds)=.rfx n sz ds:=zR
@[simp] theorem Cu {g ds} : bI (.fnx g ds)=.fnx g ds:=zR
@[simp] theorem Cw {T p i off} : bI (.ifa T p i off)=.ifa T p i off:=zR
@[simp] theorem Cx {T n} : bI (.ifi T n)=.ifi T n:=zR
@[simp] theorem CG {k es} : bI (.slv k es)=.slv k es:=zR
@[simp] theorem Cv {g ds cs} : bI (.fny g ds cs)=.fny g ds cs:=zR
@[simp] theorem CZ : bj (.any)=.any:=zR
@[simp] theorem C5 {k n} : bj (.int k n)=.int k n:=zR
@[simp] theorem z7 {b} : bj (.bool b)=.bool b:=zR
@[simp] theorem De {s} : bj (.str s)=.str s:=zR
@[simp] theorem z8 : bj (.nilp)=.nilp:=zR
@[simp] theorem Aa : bj (.nils)=.nils:=zR
@[simp] theorem CX {ds} : bj (.agg ds)=.agg ds:=zR
@[simp] theorem Dg {ds} : bj (.tup ds)=.tup ds:=zR
@[simp] theorem Gd {es} : bj (.sl es)=.sl es:=zR
@[simp] theorem C8 {ds} : bj (.ptr ds)=.ptr ds:=zR
@[simp] theorem Gb {g ds} : bj (.fn g ds)=.fn g ds:=zR
@[simp] theorem C7 {sz es} : bj (.own sz es)=.sl es:=zR
@[simp] theorem C0 {sz es} : bj (.blk sz es)=.blk sz es:=zR
@[simp] theorem Gc {kt et ks vs} : bj (.mp kt et ks vs)=.mp kt et ks vs:=zR
@[simp] theorem C6 {b} : bj (.mrf b)=.mrf b:=zR
@[simp] theorem Da {p k n} : bj (.ref p k n)=.ref p k n:=zR
@[simp] theorem CW {p i off} : bj (.adr p i off)=.adr p i off:=zR
@[simp] theorem CY {ds} : bj (.agx ds)=.agx ds:=zR
@[simp] theorem Df {ds} : bj (.tpx ds)=.tpx ds:=zR
@[simp] theorem C9 {ds} : bj (.ptx ds)=.ptx ds:=zR
@[simp] theorem Db {n sz ds} : bj (.rfx n sz ds)=.rfx n sz ds:=zR
@[simp] theorem C1 {g ds} : bj (.fnx g ds)=.fnx g ds:=zR
@[simp] theorem C3 {T p i off} : bj (.ifa T p i off)=.ifa T p i off:=zR
@[simp] theorem C4 {T n} : bj (.ifi T n)=.ifi T n:=zR
@[simp] theorem Dc {k es} : bj (.slv k es)=.slv k es:=zR
@[simp] theorem C2 {g ds cs} : bj (.fny g ds cs)=.fny g ds cs:=zR
@[simp] theorem yN : aB (.any)=[]:=zR
@[simp] theorem yT {k n} : aB (.int k n)=[]:=zR
@[simp] theorem wK {b} : aB (.bool b)=[]:=zR
@[simp] theorem y6 {s} : aB (.str s)=[]:=zR
@[simp] theorem wL : aB (.nilp)=[]:=zR
@[simp] theorem wM : aB (.nils)=[]:=zR
@[simp] theorem yL {ds} : aB (.agg ds)=[]:=zR
@[simp] theorem y8 {ds} : aB (.tup ds)=[]:=zR
@[simp] theorem A6 {es} : aB (.sl es)=[]:=zR
@[simp] theorem yW {ds} : aB (.ptr ds)=[]:=zR
@[simp] theorem A4 {g ds} : aB (.fn g ds)=[]:=zR
@[simp] theorem yV {sz es} : aB (.own sz es)=[]:=zR
@[simp] theorem yO {sz es} : aB (.blk sz es)=[]:=zR
@[simp] theorem A5 {kt et ks vs} : aB (.mp kt et ks vs)=[]:=zR
@[simp] theorem yU {b} : aB (.mrf b)=[b]:=zR
@[simp] theorem yY {p k n} : aB (.ref p k n)=[p.root]:=zR
@[simp] theorem yK {p i off} : aB (.adr p i off)=[p.root]:=zR
@[simp] theorem yM {ds} : aB (.agx ds)=[]:=zR
@[simp] theorem y7 {ds} : aB (.tpx ds)=[]:=zR
@[simp] theorem yX {ds} : aB (.ptx ds)=[]:=zR
@[simp] theorem yZ {n sz ds} : aB (.rfx n sz ds)=[]:=zR
@[simp] theorem yP {g ds} : aB (.fnx g ds)=[]:=zR
@[simp] theorem yR {T p i off} : aB (.ifa T p i off)=[p.root]:=zR
@[simp] theorem yS {T n} : aB (.ifi T n)=[]:=zR
@[simp] theorem y4 {k es} : aB (.slv k es)=[]:=zR
@[simp] theorem yQ {g ds cs} : aB (.fny g ds cs)=[]:=zR
@[simp] theorem Ba : a8 (.any)=[]:=zR
@[simp] theorem Bg {k n} : a8 (.int k n)=[]:=zR
@[simp] theorem y9 {b} : a8 (.bool b)=[]:=zR
@[simp] theorem Bp {s} : a8 (.str s)=[]:=zR
@[simp] theorem za : a8 (.nilp)=[]:=zR
@[simp] theorem ze : a8 (.nils)=[]:=zR
@[simp] theorem A8 {ds} : a8 (.agg ds)=[]:=zR
@[simp] theorem Br {ds} : a8 (.tup ds)=[]:=zR
@[simp] theorem E1 {es} : a8 (.sl es)=[]:=zR
@[simp] theorem Bj {ds} : a8 (.ptr ds)=[]:=zR
@[simp] theorem EZ {g ds} : a8 (.fn g ds)=[]:=zR
@[simp] theorem Bi {sz es} : a8 (.own sz es)=[]:=zR
@[simp] theorem Bb {sz es} : a8 (.blk sz es)=[]:=zR
@[simp] theorem E0 {kt et ks vs} : a8 (.mp kt et ks vs)=[]:=zR
@[simp] theorem Bh {b} : a8 (.mrf b)=[b]:=zR
@[simp] theorem Bl {p k n} : a8 (.ref p k n)=[p.root]:=zR
@[simp] theorem A7 {p i off} : a8 (.adr p i off)=[p.root]:=zR
@[simp] theorem A9 {ds} : a8 (.agx ds)=ds.flatMap aB:=zR
@[simp] theorem Bq {ds} : a8 (.tpx ds)=ds.flatMap aB:=zR
@[simp] theorem Bk {ds} : a8 (.ptx ds)=ds.flatMap aB:=zR
@[simp] theorem Bm {n sz ds} : a8 (.rfx n sz ds)=ds.flatMap aB:=zR
@[simp] theorem Bc {g ds} : a8 (.fnx g ds)=ds.flatMap aB:=zR
@[simp] theorem Be {T p i off} : a8 (.ifa T p i off)=[p.root]:=zR
@[simp] theorem Bf {T n} : a8 (.ifi T n)=[]:=zR
@[simp] theorem Bn {k es} : a8 (.slv k es)=[]:=zR
@[simp] theorem Bd {g ds cs} : a8 (.fny g ds cs)=(ds.flatMap aB++cs.flatMap aB):=zR
@[simp] theorem Lb {f : Nat -> D} : dp1 f (.any)=(.any):=zR
@[simp] theorem Lh {f : Nat -> D} {k n} : dp1 f (.int k n)=(.int k n):=zR
@[simp] theorem Gn {f : Nat -> D} {b} : dp1 f (.bool b)=(.bool b):=zR
@[simp] theorem Lq {f : Nat -> D} {s} : dp1 f (.str s)=(.str s):=zR
@[simp] theorem Gp {f : Nat -> D} : dp1 f (.nilp)=(.nilp):=zR
@[simp] theorem Gq {f : Nat -> D} : dp1 f (.nils)=(.nils):=zR
@[simp] theorem K9 {f : Nat -> D} {ds} : dp1 f (.agg ds)=(.agg ds):=zR
@[simp] theorem Ls {f : Nat -> D} {ds} : dp1 f (.tup ds)=(.tup ds):=zR
@[simp] theorem P0 {f : Nat -> D} {es} : dp1 f (.sl es)=(.sl es):=zR
@[simp] theorem Lk {f : Nat -> D} {ds} : dp1 f (.ptr ds)=(.ptr ds):=zR
@[simp] theorem PY {f : Nat -> D} {g ds} : dp1 f (.fn g ds)=(.fn g ds):=zR
@[simp] theorem Lj {f : Nat -> D} {sz es} : dp1 f (.own sz es)=(.own sz es):=zR
@[simp] theorem Lc {f : Nat -> D} {sz es} : dp1 f (.blk sz es)=(.blk sz es):=zR
@[simp] theorem PZ {f : Nat -> D} {kt et ks vs} : dp1 f (.mp kt et ks vs)=(.mp kt et ks vs):=zR
@[simp] theorem Li {f : Nat -> D} {b} : dp1 f (.mrf b)=(.mrf b):=zR
@[simp] theorem Lm {f : Nat -> D} {p k n} : dp1 f (.ref p k n)=(match bm f p with | some (_,es)=>.sl (((es.drop k).take n).map fun e=>e.map bj) | none=>.any):=zR
@[simp] theorem K2 {f : Nat -> D} {p i off} : dp1 f (.adr p i off)=(match bm f p with | some (_,es)=>.ptr (((es[i]?.getD []).drop off).map bj) | none=>.any):=zR
@[simp] theorem La {f : Nat -> D} {ds} : dp1 f (.agx ds)=(.agx ds):=zR
@[simp] theorem Lr {f : Nat -> D} {ds} : dp1 f (.tpx ds)=(.tpx ds):=zR
@[simp] theorem Ll {f : Nat -> D} {ds} : dp1 f (.ptx ds)=(.ptx ds):=zR
@[simp] theorem Ln {f : Nat -> D} {n sz ds} : dp1 f (.rfx n sz ds)=(.rfx n sz ds):=zR
@[simp] theorem Ld {f : Nat -> D} {g ds} : dp1 f (.fnx g ds)=(.fnx g ds):=zR
@[simp] theorem Lf {f : Nat -> D} {T p i off} : dp1 f (.ifa T p i off)=(.ifa T p i off):=zR
@[simp] theorem Lg {f : Nat -> D} {T n} : dp1 f (.ifi T n)=(.ifi T n):=zR
@[simp] theorem Lo {f : Nat -> D} {k es} : dp1 f (.slv k es)=(.slv k es):=zR
@[simp] theorem Le {f : Nat -> D} {g ds cs} : dp1 f (.fny g ds cs)=(.fny g ds cs):=zR
@[simp] theorem P5 {f : Nat -> D} : dp f (.any)=(.any):=zR
@[simp] theorem Qb {f : Nat -> D} {k n} : dp f (.int k n)=(.int k n):=zR
@[simp] theorem Lw {f : Nat -> D} {b} : dp f (.bool b)=(.bool b):=zR
@[simp] theorem Qk {f : Nat -> D} {s} : dp f (.str s)=(.str s):=zR
@[simp] theorem Lx {f : Nat -> D} : dp f (.nilp)=(.nilp):=zR
@[simp] theorem Lz {f : Nat -> D} : dp f (.nils)=(.nils):=zR
@[simp] theorem P2 {f : Nat -> D} {ds} : dp f (.agg ds)=(.agg ds):=zR
@[simp] theorem Qm {f : Nat -> D} {ds} : dp f (.tup ds)=(.tup ds):=zR
@[simp] theorem Rm {f : Nat -> D} {es} : dp f (.sl es)=(.sl es):=zR
@[simp] theorem Qe {f : Nat -> D} {ds} : dp f (.ptr ds)=(.ptr ds):=zR
@[simp] theorem Rk {f : Nat -> D} {g ds} : dp f (.fn g ds)=(.fn g ds):=zR
@[simp] theorem Qd {f : Nat -> D} {sz es} : dp f (.own sz es)=(.own sz es):=zR
@[simp] theorem P6 {f : Nat -> D} {sz es} : dp f (.blk sz es)=(.blk sz es):=zR
@[simp] theorem Rl {f : Nat -> D} {kt et ks vs} : dp f (.mp kt et ks vs)=(.mp kt et ks vs):=zR
@[simp] theorem Qc {f : Nat -> D} {b} : dp f (.mrf b)=(.mrf b):=zR
@[simp] theorem Qg {f : Nat -> D} {p k n} : dp f (.ref p k n)=(match bm f p with | some (_,es)=>.sl (((es.drop k).take n).map fun e=>e.map bj) | none=>.any):=zR
@[simp] theorem P1 {f : Nat -> D} {p i off} : dp f (.adr p i off)=(match bm f p with | some (_,es)=>.ptr (((es[i]?.getD []).drop off).map bj) | none=>.any):=zR
@[simp] theorem P4 {f : Nat -> D} {ds} : dp f (.agx ds)=(.agg (ds.map (dp1 f))):=zR
@[simp] theorem Ql {f : Nat -> D} {ds} : dp f (.tpx ds)=(.tup (ds.map (dp1 f))):=zR
@[simp] theorem Qf {f : Nat -> D} {ds} : dp f (.ptx ds)=(.ptr (ds.map (dp1 f))):=zR
@[simp] theorem Qh {f : Nat -> D} {n sz ds} : dp f (.rfx n sz ds)=.rfx n sz ds:=zR
@[simp] theorem P7 {f : Nat -> D} {g ds} : dp f (.fnx g ds)=(.fn g (ds.map (dp1 f))):=zR
@[simp] theorem P9 {f : Nat -> D} {T p i off} : dp f (.ifa T p i off)=(.ifa T p i off):=zR
@[simp] theorem Qa {f : Nat -> D} {T n} : dp f (.ifi T n)=(.ifi T n):=zR
@[simp] theorem Qi {f : Nat -> D} {k es} : dp f (.slv k es)=(.slv k es):=zR
@[simp] theorem P8 {f : Nat -> D} {g ds cs} : dp f (.fny g ds cs)=(.fny g ds cs):=zR
@[simp] theorem Dl {f : Nat -> D} : aU f (.any)=(True):=zR
@[simp] theorem Dr {f : Nat -> D} {k n} : aU f (.int k n)=(True):=zR
@[simp] theorem Al {f : Nat -> D} {b} : aU f (.bool b)=(True):=zR
@[simp] theorem DB {f : Nat -> D} {s} : aU f (.str s)=(True):=zR
@[simp] theorem Am {f : Nat -> D} : aU f (.nilp)=(True):=zR
@[simp] theorem An {f : Nat -> D} : aU f (.nils)=(True):=zR
@[simp] theorem Dj {f : Nat -> D} {ds} : aU f (.agg ds)=(True):=zR
@[simp] theorem DD {f : Nat -> D} {ds} : aU f (.tup ds)=(True):=zR
@[simp] theorem Gt {f : Nat -> D} {es} : aU f (.sl es)=(True):=zR
@[simp] theorem Du {f : Nat -> D} {ds} : aU f (.ptr ds)=(True):=zR
@[simp] theorem Gr {f : Nat -> D} {g ds} : aU f (.fn g ds)=(True):=zR
@[simp] theorem Dt {f : Nat -> D} {sz es} : aU f (.own sz es)=(True):=zR
@[simp] theorem Dm {f : Nat -> D} {sz es} : aU f (.blk sz es)=(True):=zR
@[simp] theorem Gs {f : Nat -> D} {kt et ks vs} : aU f (.mp kt et ks vs)=(True):=zR
@[simp] theorem Ds {f : Nat -> D} {b} : aU f (.mrf b)=(False):=zR
@[simp] theorem Dx {f : Nat -> D} {p k n} : aU f (.ref p k n)=(match bm f p with | some (_,es)=>k + n <= es.length | none=>False):=zR
@[simp] theorem Di {f : Nat -> D} {p i off} : aU f (.adr p i off)=(match bm f p with | some _=>True | none=>False):=zR
@[simp] theorem Dk {f : Nat -> D} {ds} : aU f (.agx ds)=(True):=zR
@[simp] theorem DC {f : Nat -> D} {ds} : aU f (.tpx ds)=(True):=zR
@[simp] theorem Dw {f : Nat -> D} {ds} : aU f (.ptx ds)=(True):=zR
@[simp] theorem Dy {f : Nat -> D} {n sz ds} : aU f (.rfx n sz ds)=(True):=zR
@[simp] theorem Dn {f : Nat -> D} {g ds} : aU f (.fnx g ds)=(True):=zR
@[simp] theorem Dp {f : Nat -> D} {T p i off} : aU f (.ifa T p i off)=False:=zR
@[simp] theorem Dq {f : Nat -> D} {T n} : aU f (.ifi T n)=True:=zR
@[simp] theorem Dz {f : Nat -> D} {k es} : aU f (.slv k es)=True:=zR
@[simp] theorem Do {f : Nat -> D} {g ds cs} : aU f (.fny g ds cs)=True:=zR
@[simp] theorem Gy {f : Nat -> D} : bu f (.any)=(True):=zR
@[simp] theorem GE {f : Nat -> D} {k n} : bu f (.int k n)=(True):=zR
@[simp] theorem DE {f : Nat -> D} {b} : bu f (.bool b)=(True):=zR
@[simp] theorem GN {f : Nat -> D} {s} : bu f (.str s)=(True):=zR
@[simp] theorem DF {f : Nat -> D} : bu f (.nilp)=(True):=zR
@[simp] theorem DG {f : Nat -> D} : bu f (.nils)=(True):=zR
@[simp] theorem Gw {f : Nat -> D} {ds} : bu f (.agg ds)=(True):=zR
@[simp] theorem GP {f : Nat -> D} {ds} : bu f (.tup ds)=(True):=zR
@[simp] theorem Lv {f : Nat -> D} {es} : bu f (.sl es)=(True):=zR
@[simp] theorem GH {f : Nat -> D} {ds} : bu f (.ptr ds)=(True):=zR
@[simp] theorem Lt {f : Nat -> D} {g ds} : bu f (.fn g ds)=(True):=zR
@[simp] theorem GG {f : Nat -> D} {sz es} : bu f (.own sz es)=(True):=zR
@[simp] theorem Gz {f : Nat -> D} {sz es} : bu f (.blk sz es)=(True):=zR
@[simp] theorem Lu {f : Nat -> D} {kt et ks vs} : bu f (.mp kt et ks vs)=(True):=zR
@[simp] theorem GF {f : Nat -> D} {b} : bu f (.mrf b)=(False):=zR
@[simp] theorem GJ {f : Nat -> D} {p k n} : bu f (.ref p k n)=(match bm f p with | some (_,es)=>k + n <= es.length | none=>False):=zR
@[simp] theorem Gu {f : Nat -> D} {p i off} : bu f (.adr p i off)=(match bm f p with | some _=>True | none=>False):=zR
@[simp] theorem Gx {f : Nat -> D} {ds} : bu f (.agx ds)=(∀ d ∈ ds,aU f d):=zR
@[simp] theorem GO {f : Nat -> D} {ds} : bu f (.tpx ds)=(∀ d ∈ ds,aU f d):=zR
@[simp] theorem GI {f : Nat -> D} {ds} : bu f (.ptx ds)=(∀ d ∈ ds,aU f d):=zR
@[simp] theorem GK {f : Nat -> D} {n sz ds} : bu f (.rfx n sz ds)=False:=zR
@[simp] theorem GA {f : Nat -> D} {g ds} : bu f (.fnx g ds)=(∀ d ∈ ds,aU f d):=zR
@[simp] theorem GC {f : Nat -> D} {T p i off} : bu f (.ifa T p i off)=False:=zR
@[simp] theorem GD {f : Nat -> D} {T n} : bu f (.ifi T n)=True:=zR
@[simp] theorem GL {f : Nat -> D} {k es} : bu f (.slv k es)=True:=zR
@[simp] theorem GB {f : Nat -> D} {g ds cs} : bu f (.fny g ds cs)=False:=zR
@[simp] theorem OD {p i0 o} : ldc p i0 o (.any)=.any:=zR
@[simp] theorem Jz {m} : dF m (.any)=.any:=zR
@[simp] theorem OJ {p i0 o k n} : ldc p i0 o (.int k n)=.int k n:=zR
@[simp] theorem JF {m k n} : dF m (.int k n)=.int k n:=zR
@[simp] theorem I7 {p i0 o b} : ldc p i0 o (.bool b)=.bool b:=zR
@[simp] theorem E4 {m b} : dF m (.bool b)=.bool b:=zR
@[simp] theorem OS {p i0 o s} : ldc p i0 o (.str s)=.str s:=zR
@[simp] theorem JN {m s} : dF m (.str s)=.str s:=zR
@[simp] theorem I8 {p i0 o} : ldc p i0 o (.nilp)=.nilp:=zR
@[simp] theorem E5 {m} : dF m (.nilp)=.nilp:=zR
@[simp] theorem I9 {p i0 o} : ldc p i0 o (.nils)=.nils:=zR
@[simp] theorem OB {p i0 o ds} : ldc p i0 o (.agg ds)=.agg ds:=zR
@[simp] theorem Jx {m ds} : dF m (.agg ds)=.agg ds:=zR
@[simp] theorem OU {p i0 o ds} : ldc p i0 o (.tup ds)=.tup ds:=zR
@[simp] theorem JP {m ds} : dF m (.tup ds)=.tup ds:=zR
@[simp] theorem QW {p i0 o es} : ldc p i0 o (.sl es)=.sl es:=zR
@[simp] theorem O6 {m es} : dF m (.sl es)=.sl es:=zR
@[simp] theorem OM {p i0 o ds} : ldc p i0 o (.ptr ds)=.ptr ds:=zR
@[simp] theorem JI {m ds} : dF m (.ptr ds)=.ptr ds:=zR
@[simp] theorem QU {p i0 o g ds} : ldc p i0 o (.fn g ds)=.fn g ds:=zR
@[simp] theorem O4 {m g ds} : dF m (.fn g ds)=.fn g ds:=zR
@[simp] theorem OL {c i o sz es} : ldc (.r c) i o (.own sz es)=.ref (.n c i o) 0 es.length:=zR
@[simp] theorem JH {m sz es} : dF m (.own sz es)=.own sz es:=zR
@[simp] theorem OE {p i0 o sz es} : ldc p i0 o (.blk sz es)=.blk sz es:=zR
@[simp] theorem JA {m sz es} : dF m (.blk sz es)=.blk sz es:=zR
@[simp] theorem QV {p i0 o kt et ks vs} : ldc p i0 o (.mp kt et ks vs)=.mp kt et ks vs:=zR
@[simp] theorem O5 {m kt et ks vs} : dF m (.mp kt et ks vs)=.mp kt et ks vs:=zR
@[simp] theorem OK {p i0 o b} : ldc p i0 o (.mrf b)=.mrf b:=zR
@[simp] theorem JG {m b} : dF m (.mrf b)=.mrf b:=zR
@[simp] theorem OO {p i0 o q k n} : ldc p i0 o (.ref q k n)=.ref q k n:=zR
@[simp] theorem JK {m q k n} : dF m (.ref q k n)=.ref q k n:=zR
@[simp] theorem OA {p i0 o q i off} : ldc p i0 o (.adr q i off)=.adr q i off:=zR
@[simp] theorem Jw {m q i off} : dF m (.adr q i off)=.adr q i off:=zR
@[simp] theorem OC {p i0 o ds} : ldc p i0 o (.agx ds)=.agx ds:=zR
@[simp] theorem Jy {m ds} : dF m (.agx ds)=.agx ds:=zR
@[simp] theorem OT {p i0 o ds} : ldc p i0 o (.tpx ds)=.tpx ds:=zR
@[simp] theorem JO {m ds} : dF m (.tpx ds)=.tpx ds:=zR
@[simp] theorem ON {p i0 o ds} : ldc p i0 o (.ptx ds)=.ptx ds:=zR
@[simp] theorem OP {p i0 o n sz ds} : ldc p i0 o (.rfx n sz ds)=.rfx n sz ds:=zR
@[simp] theorem JJ {m ds} : dF m (.ptx ds)=.ptx ds:=zR
@[simp] theorem JL {m n sz ds} : dF m (.rfx n sz ds)=.rfx n sz ds:=zR
@[simp] theorem OF {p i0 o g ds} : ldc p i0 o (.fnx g ds)=.fnx g ds:=zR
@[simp] theorem OH {p0 i0 o T p i off} : ldc p0 i0 o (.ifa T p i off)=.ifa T p i off:=zR
@[simp] theorem OI {p0 i0 o T n} : ldc p0 i0 o (.ifi T n)=.ifi T n:=zR
@[simp] theorem OQ {p0 i0 o k es} : ldc p0 i0 o (.slv k es)=.slv k es:=zR
@[simp] theorem OG {p0 i0 o g ds cs} : ldc p0 i0 o (.fny g ds cs)=.fny g ds cs:=zR
@[simp] theorem JB {m g ds} : dF m (.fnx g ds)=.fnx g ds:=zR
@[simp] theorem JD {m T p i off} : dF m (.ifa T p i off)=.ifa T p i off:=zR
@[simp] theorem JE {m T n} : dF m (.ifi T n)=.ifi T n:=zR
@[simp] theorem JM {m k es} : dF m (.slv k es)=.slv k es:=zR
@[simp] theorem JC {m g ds cs} : dF m (.fny g ds cs)=.fny g ds cs:=zR
@[simp] theorem E6 {m} : dF m .nils=if m=0 then .nils else .own m []:=zR
def slx (b : Bool) (es : List (List D)) : D:=match b,es with
 | true,[]=>.nils
 | _,es=>.sl es
@[simp] theorem b6 {es} : slx false es=.sl es:=by cases es <;> rfl
@[simp] theorem Kx {b x es} : slx b (x::es)=.sl (x::es):=by cases b <;> rfl
theorem fG (b : Bool) (es : List (List D)) : slx b es=.sl es \/ (slx b es=.nils /\ es=[]):=by cases b <;> cases es <;> simp [slx]
@[simp] theorem Ow {b es} : isV (slx b es)=true:=by cases b <;> cases es <;> rfl
@[simp] theorem MY {b es} : isK (slx b es)=true:=by cases b <;> cases es <;> rfl
@[simp] theorem NL {b es} : isP (slx b es)=true:=by cases b <;> cases es <;> rfl
@[simp] theorem N6 {b es} : isS (slx b es)=true:=by cases b <;> cases es <;> rfl
@[simp] theorem HK {b es} : aC (slx b es)=true:=by cases b <;> cases es <;> rfl
@[simp] theorem Nq {b es} : isO (slx b es)=false:=by cases b <;> cases es <;> rfl
@[simp] theorem D8 {b es} : cd (slx b es)=false:=by cases b <;> cases es <;> rfl
@[simp] theorem L8 {b es} : isB (slx b es)=false:=by cases b <;> cases es <;> rfl
@[simp] theorem yp {b es} : cellsOf (slx b es)=[slx b es]:=by cases b <;> cases es <;> rfl
@[simp] theorem CH {b es} : bI (slx b es)=slx b es:=by cases b <;> cases es <;> rfl
@[simp] theorem Dd {b es} : bj (slx b es)=slx b es:=by cases b <;> cases es <;> rfl
@[simp] theorem y5 {b es} : aB (slx b es)=[]:=by cases b <;> cases es <;> rfl
@[simp] theorem Bo {b es} : a8 (slx b es)=[]:=by cases b <;> cases es <;> rfl
@[simp] theorem Lp {f : Nat -> D} {b es} : dp1 f (slx b es)=slx b es:=by cases b <;> cases es <;> rfl
@[simp] theorem Qj {f : Nat -> D} {b es} : dp f (slx b es)=slx b es:=by cases b <;> cases es <;> rfl
@[simp] theorem DA {f : Nat -> D} {b es} : aU f (slx b es)=True:=by cases b <;> cases es <;> rfl
@[simp] theorem GM {f : Nat -> D} {b es} : bu f (slx b es)=True:=by cases b <;> cases es <;> rfl
@[simp] theorem OR {p i o b es} : ldc p i o (slx b es)=slx b es:=by cases b <;> cases es <;> rfl
def qm (d : D) (K : Nat -> Prop) (_ : Tag K) : Prop:=match d with
 | .sl es=>K es.length
 | .nils=>K 0
 | .ref _ _ n=>K n
 | .rfx n _ _=>K n
 | _=>False
@[simp] theorem Je {n sz ds K u} : qm (.rfx n sz ds) K u=K n:=zR
@[simp] theorem OV {es K u} : qm (.sl es) K u=K es.length:=zR
@[simp] theorem EM {K u} : qm .nils K u=K 0:=zR
@[simp] theorem Jd {p k n K u} : qm (.ref p k n) K u=K n:=zR
@[simp] theorem Jf {b es K u} : qm (slx b es) K u=K es.length:=by cases b <;> cases es <;> rfl
@[simp] theorem Fk {n ds} : mG true n ds=.agg (ds.take n):=zR
@[simp] theorem BC {n ds} : mG false n ds=ds.headD .any:=zR
@[simp] theorem Jh {t} : ab [] t=.any:=rfl
def lk (b : Bool) (d : D) (r : Env) (t : Nat) : D:=match b with
 | true=>d
 | false=>ab r t
@[simp] theorem OW {d r t} : lk true d r t=d:=rfl
@[simp] theorem Jg {d r t} : lk false d r t=ab r t:=rfl
@[simp] theorem EN {s d r t} : ab ((s,d)::r) t=lk (s == t) d r t:=by
 by_cases h : s=t
 ·subst h;simp [ab]
 ·rw [show (s == t)=false by simp [h]];simp [ab,h]
@[simp] theorem En {e} : o8 [] e=[]:=zR
@[simp] theorem AM {t ts e} : o8 (t::ts) e=(t,ab e t)::o8 ts e:=zR
@[simp] theorem zA : k9 []=[]:=zR
@[simp] theorem xb {t d r} : k9 ((t,d)::r)=a8 d++k9 r:=zR
@[simp] theorem FK {e ks} : rS e [] ks=ks:=zR
@[simp] theorem Co {e r rs ks} : rS e (r::rs) ks=rS e rs (if (ks.map (·.1)).contains r then ks else ks++[(r,ab e r)]):=zR
def ft (f : Nat -> D) (d : D) (ns : List Nat) (K : List D -> List Nat -> Prop) (_ : Tag K) : Prop:=eQ f d ns K
def eT (f : Nat -> D) (d : D) (K : D -> List Nat -> Prop) (_ : Tag K) : Prop:=dy f d K
def oD (f : Nat -> D) (ds : List D) (K : List D -> List Nat -> Prop) (_ : Tag K) : Prop:=kj f ds K
def tj (b n : Nat) (x : D) (K : D -> List Nat -> Prop) (_ : Tag K) : Prop:=match x with
 | .blk sz es=>es.length=n /\ (∀ e ∈ es,∀ c ∈ e,aC c=true) /\ K (.own sz es) [b]
 | _=>False
@[simp] theorem FA {b n sz es K u} : tj b n (.blk sz es) K u=(es.length=n /\ (∀ e ∈ es,∀ c ∈ e,aC c=true) /\ K (.own sz es) [b]):=zR
theorem dx {f : Nat -> D} {d : D} {K : D -> List Nat -> Prop} {u} (h : aC d=true) : eT f d K u=K d []:=by
 cases d <;> simp [aC] at h <;> simp [eT,dy,aC]
@[simp] theorem Cf {f b k n K u} : eT f (.ref (.r b) k n) K u=(k=0 /\ tj b n (f b) K ⟨⟩):=by
 simp only [eT,dy,tj]
 cases f b <;> rfl
theorem en {f : Nat -> D} {d : D} {K : List D -> List Nat -> Prop} {u} (h : aC d=true) : ft f d [] K u=K [d] []:=by
 cases d <;> simp [aC] at h <;> simp [ft,eQ,dy,aC,eq]
@[simp] theorem FD {f ds K u} : ft f (.agg ds) [] K u=((∀ c ∈ ds,aC c=true) /\ K ds []):=by simp [ft,eQ,eq]
@[simp] theorem FE {f ds K u} : ft f (.agx ds) [] K u=oD f ds (fun cs bs=>bA bs=true /\ K cs bs) ⟨⟩:=by simp [ft,oD,eQ,eq]
@[simp] theorem FH {f b k n K u} : ft f (.ref (.r b) k n) [] K u=(k=0 /\ tj b n (f b) (fun c bs=>K [c] bs) ⟨⟩):=by
 simp only [ft,eQ,dy,tj,eq,if_true,true_or,true_and]
 cases f b <;> rfl
@[simp] theorem Cj {f K u} : oD f [] K u=K [] []:=zR
@[simp] theorem zX {f d ds K u} : oD f (d::ds) K u=eT f d (fun c bs=>oD f ds (fun cs bs'=>K (c::cs) (bs++bs')) ⟨⟩) ⟨⟩:=zR
@[simp] theorem Cd {f k n K u} : eT f (.int k n) K u=K (.int k n) []:=dx rfl
@[simp] theorem FF {f k n K u} : ft f (.int k n) [] K u=K [.int k n] []:=en rfl
@[simp] theorem zU {f n K u} : eT f (.bool n) K u=K (.bool n) []:=dx rfl
@[simp] theorem Ck {f n K u} : ft f (.bool n) [] K u=K [.bool n] []:=en rfl
@[simp] theorem Ci {f n K u} : eT f (.str n) K u=K (.str n) []:=dx rfl
@[simp] theorem FJ {f n K u} : ft f (.str n) [] K u=K [.str n] []:=en rfl
@[simp] theorem zV {f  K u} : eT f .nilp K u=K .nilp []:=dx rfl
@[simp] theorem Cl {f  K u} : ft f .nilp [] K u=K [.nilp] []:=en rfl
@[simp] theorem zW {f  K u} : eT f .nils K u=K .nils []:=dx rfl
@[simp] theorem Cm {f  K u} : ft f .nils [] K u=K [.nils] []:=en rfl
@[simp] theorem FC {f n K u} : eT f (.sl n) K u=K (.sl n) []:=dx rfl
@[simp] theorem KM {f n K u} : ft f (.sl n) [] K u=K [.sl n] []:=en rfl
@[simp] theorem Ce {f n K u} : eT f (.ptr n) K u=K (.ptr n) []:=dx rfl
@[simp] theorem FG {f n K u} : ft f (.ptr n) [] K u=K [.ptr n] []:=en rfl
@[simp] theorem FB {f g n K u} : eT f (.fn g n) K u=K (.fn g n) []:=dx rfl
@[simp] theorem KL {f g n K u} : ft f (.fn g n) [] K u=K [.fn g n] []:=en rfl
@[simp] theorem Cg {f b n K u} : eT f (slx b n) K u=K (slx b n) []:=dx (by simp)
@[simp] theorem FI {f b n K u} : ft f (slx b n) [] K u=K [slx b n] []:=en (by simp)
def oi (f : Nat -> D) (sz : Nat) (ps : List (Nat × Opd)) (es : List (List D)) (bs : List Nat) (K : List (List D) -> List Nat -> Prop) (_ : Tag K) : Prop:=d7 f sz [] ps es bs K
@[simp] theorem BD {f sz es bs K u} : oi f sz [] es bs K u=K es bs:=zR
@[simp] theorem zz {f sz i x ps es bs K u} : oi f sz ((i,x)::ps) es bs K u=(i < es.length /\ ft f (vd f x) [] (fun cs bs'=>cs.length=sz /\ oi f sz ps (es.set i cs) (bs++bs') K ⟨⟩) ⟨⟩):=zR
def gL (f : Nat -> D) (mv : Bool) (d : D) (sz : Nat) (K : List (List D) -> List Nat -> Prop) (_ : Tag K) : Prop:=ek f mv d sz K
def BI (b n sz : Nat) (x : D) (K : List (List D) -> List Nat -> Prop) (_ : Tag K) : Prop:=match x with
 | .blk sz' es=>sz'=sz /\ es.length=n /\ (∀ e ∈ es,∀ c ∈ e,isC c=true) /\ K es [b]
 | _=>False
@[simp] theorem Ki {b n sz sz' es K u} : BI b n sz (.blk sz' es) K u=(sz'=sz /\ es.length=n /\ (∀ e ∈ es,∀ c ∈ e,isC c=true) /\ K es [b]):=zR
def BJ (k n sz : Nat) (x : Option (Nat × List (List D))) (K : List (List D) -> List Nat -> Prop) (_ : Tag K) : Prop:=match x with
 | some (sz',es)=>sz'=sz /\ k + n <= es.length /\ (∀ e ∈ (es.drop k).take n,∀ c ∈ e,aC c=true) /\ K ((es.drop k).take n) []
 | none=>False
@[simp] theorem Fp {k n sz sz' es K u} : BJ k n sz (some (sz',es)) K u=(sz'=sz /\ k + n <= es.length /\ (∀ e ∈ (es.drop k).take n,∀ c ∈ e,aC c=true) /\ K ((es.drop k).take n) []):=zR
@[simp] theorem BL {f mv sz K u} : gL f mv .nils sz K u=K [] []:=zR
@[simp] theorem Kp {f mv es sz K u} : gL f mv (.sl es) sz K u=((∀ e ∈ es,e.length=sz /\ ∀ c ∈ e,aC c=true) /\ K es []):=zR
@[simp] theorem Ft {f mv b es sz K u} : gL f mv (slx b es) sz K u=((∀ e ∈ es,e.length=sz /\ ∀ c ∈ e,aC c=true) /\ K es []):=by
 rcases fG b es with h | ⟨h,rfl⟩ <;> rw [h] <;> simp
@[simp] theorem Ko {f b k n sz K u} : gL f true (.ref (.r b) k n) sz K u=(k=0 /\ BI b n sz (f b) K ⟨⟩):=by
 simp only [gL,ek,BI]
 cases f b <;> rfl
@[simp] theorem Fs {f p k n sz K u} : gL f false (.ref p k n) sz K u=BJ k n sz (bm f p) K ⟨⟩:=by
 simp only [gL,ek,BJ]
 cases bm f p <;> rfl
def dz (f : Nat -> D) (o : Option Opd) (dflt : Nat) (K : Nat -> Prop) (_ : Tag K) : Prop:=dH f o dflt K
def FZ (d : D) (K : Nat -> Prop) (_ : Tag K) : Prop:=match d with
 | .int _ n=>0 <= n /\ K n.toNat
 | _=>False
@[simp] theorem F0 {k n K u} : FZ (.int k n) K u=(0 <= n /\ K n.toNat):=zR
@[simp] theorem xY {f n K u} : dz f none n K u=K n:=zR
@[simp] theorem xZ {f x n K u} : dz f (some x) n K u=FZ (vd f x) K ⟨⟩:=zR
def iu (x : Option (List D)) (K : List D -> Prop) (_ : Tag K) : Prop:=match x with
 | some r=>K r
 | none=>False
@[simp] theorem Fr {r K u} : iu (some r) K u=K r:=zR
@[simp] theorem Fq {K u} : iu none K u=False:=zR
theorem ib {x : Option (List D)} {K : List D -> Prop} {u} : iu x K u=∃ r,x=some r /\ K r:=by
 cases x <;> simp [iu]
def lX (x : Option D) (K : Nat -> List (List D) -> Prop) (_ : Tag K) : Prop:=match x with
 | some (.own sz es)=>K sz es
 | _=>False
@[simp] theorem J6 {sz es K u} : lX (some (.own sz es)) K u=K sz es:=zR
theorem kZ {x : Option D} {K : Nat -> List (List D) -> Prop} {u} : lX x K u=∃ sz es,x=some (.own sz es) /\ K sz es:=by
 cases x with
 | none=>simp [lX]
 | some d =>
  cases d <;> simp [lX]
  exact ⟨fun h=>⟨_,_,⟨rfl,rfl⟩,h⟩,by rintro ⟨_,_,⟨rfl,rfl⟩,h⟩;exact h⟩
def vP (x : Option D) (K : D -> Prop) (_ : Tag K) : Prop:=match x with
 | some d=>K d
 | none=>False
@[simp] theorem CV {d K u} : vP (some d) K u=K d:=zR
theorem vQ {x : Option D} {K : D -> Prop} {u} : vP x K u=∃ d,x=some d /\ K d:=by
 cases x <;> simp [vP]
def dX (x : D) (K : Nat -> List (List D) -> Prop) (_ : Tag K) : Prop:=match x with
 | .blk sz es=>K sz es
 | _=>False
@[simp] theorem FY {sz es K u} : dX (.blk sz es) K u=K sz es:=zR
abbrev CC:=Nat -> List D -> D -> List D -> Prop
abbrev KT:=List (Nat × D) -> List (Nat × Bool) -> Prop
section
variable {C : CC} {Q : ci -> Env -> Prop} {e e' : Env} {d : D}
def wN (C : CC) (c : dw) (Q : ci -> Env -> Prop) (_ : Tag (c,Q)) (e : Env) : Prop:=wpN C c Q e
def yJ (C : CC) (c : dw) (Q : ci -> Env -> Prop) (_ : Tag (c,Q)) (e : Env) : Prop:=wpN C (.loop c) Q e
def sI (C : CC) (K : Env -> Prop) (ns : List ar) (_ : Tag (K,ns)) (e : Env) : Prop:=iM C K ns e
def qv (C : CC) (hs : List Nat) (K : Env -> Prop) (ns : List ar) (_ : Tag (K,ns)) (e : Env) (acc : List (List Nat × List Nat)) : Prop:=j9 C hs K ns e acc
def Hk (hs : List Nat) (acc : List (List Nat × List Nat)) : Prop:=iZ hs acc.reverse=true
theorem ai {hs : List Nat} {acc : List (List Nat × List Nat)} (h : iZ hs acc.reverse=true) : Hk hs acc:=h
def yy (C : CC) (K : Env -> Prop) (ns : List ar) (e : Env) : KT:=fun ws ks=>iM C K ns (ws++dE ks e)
def Gg (C : CC) (hs : List Nat) (K : Env -> Prop) (ns : List ar) (e : Env) (R : List Nat) (acc : List (List Nat × List Nat)) : KT:=fun ws ks=>wOk R ws ks=true /\ j9 C hs K ns (ws++dE ks e) ((R,wrK ws ks)::acc)
def bG (Q : ci -> Env -> Prop) (_ : Tag Q) (t : ci) (e : Env) : Prop:=Q t e
def fin (res : List (Nat × Option (Nat × Bool))) (d : D) : ci -> Env -> Prop:=fun t e=>(match t with
   | .ext _=>False
   | _=>True) /\ eg res d e
def xn (C : CC) (y : dw) (Q : ci -> Env -> Prop) : ci -> Env -> Prop:=fun t e'=>match t with
  | .nrm=>wpN C y Q e'
  | t=>Q t e'
def nE (id : Nat) (Q : ci -> Env -> Prop) : ci -> Env -> Prop:=fun t e'=>match t with
  | .ext i=>if i=id then Q .nrm e' else Q (.ext i) e'
  | t=>Q t e'
def w9 (keep : List Nat) (Q : ci -> Env -> Prop) : Env -> Prop:=fun e'=>Q .nrm (prune keep e')
def kOf (C : CC) (hs : Option (List Nat)) (K : Env -> Prop) (ns : List ar) (e : Env) (R : List Nat) (acc : List (List Nat × List Nat)) : KT :=
 match hs with
 | none=>yy C K ns e
 | some hs=>Gg C hs K ns e R acc
def doW (C : CC) (hs : Option (List Nat)) (K : Env -> Prop) (ns : List ar) (_ : Tag (hs,K,ns)) (e : Env) (R : List Nat) (acc : List (List Nat × List Nat)) (ws : List (Nat × D)) (ks : List (Nat × Bool)) : Prop:=kOf C hs K ns e R acc ws ks
def opW (C : CC) (hs : Option (List Nat)) (K : Env -> Prop) (ns : List ar) (dst : Option Nat) (op : NOp) (_ : Tag (hs,K,ns,dst,op)) (e : Env) (R : List Nat) (acc : List (List Nat × List Nat)) : Prop:=aD C (ab e) dst (kOf C hs K ns e R acc) op
def dW (C : CC) (hs : Option (List Nat)) (K : Env -> Prop) (ns : List ar) (dst : Option Nat) (_ : Tag (hs,K,ns)) (e : Env) (R : List Nat) (acc : List (List Nat × List Nat)) (d : D) : Prop:=dJ dst (kOf C hs K ns e R acc) d
def oJ (C : CC) (g : Nat) (hs : Option (List Nat)) (K : Env -> Prop) (ns : List ar) (dst : Option Nat) (_ : Tag (hs,K,ns)) (e : Env) (R : List Nat) (acc : List (List Nat × List Nat)) (pure : Bool) (ds : List D) : Prop :=
 ∃ d,C g ds d [] /\ (isF d=true \/ pure=true) /\ dJ dst (kOf C hs K ns e R acc) d
theorem aE {prog : Nat -> Option aI} (hC : aq prog C) {g : Nat} {nf : aI} {ds : List D} (hp : prog g=some nf) (hl : ds.length=nf.np) (h : wN C nf.body (fin nf.res d) ⟨⟩ (params 0 ds)) : C g ds d []:=hC.1.1 g nf ds d hp hl h
def pY (res : List (Nat × Option (Nat × Bool))) (sz : Nat) (es : List (List D)) : ci -> Env -> Prop:=fun t e=>(match t with
   | .ext _=>False
   | _=>True) /\ iJ res sz es e
theorem ox {prog : Nat -> Option aI} (hC : aq prog C) {g : Nat} {nf : aI} {ds : List D} {sz : Nat} {es : List (List D)} (hp : prog g=some nf) (hl : ds.length=nf.np) (h : wN C nf.body (pY nf.res sz es) ⟨⟩ (params 0 ds)) : C g ds .any [.own sz es]:=hC.1.2.2.1 g nf ds sz es hp hl h
def sq (res : List (Nat × Option (Nat × Bool))) (d : D) : ci -> Env -> Prop:=fun t e=>(match t with
   | .ext _=>False
   | _=>True) /\ iI res d e
def pZ (res : List (Nat × Option (Nat × Bool))) (d : D) (sz : Nat) (es' : List (List D)) : ci -> Env -> Prop:=fun t e=>(match t with
   | .ext _=>False
   | _=>True) /\ (0 < es'.length /\ ab e 10015=.blk sz es') /\ eg res d ((10015,.any)::e)
theorem f4 {prog : Nat -> Option aI} (hC : fL prog C) {g : Nat} {nf : aI} {W : List D} {d : D} {sz : Nat} {es es' : List (List D)} (hp : prog g=some nf) (hl : W.length=nf.np) (h : wN C nf.body (pZ nf.res d sz es') ⟨⟩ (params 0 W++[(10015,.blk sz es)])) : C g (.blk sz es::W) d [.blk sz es',.nilp]:=hC.2.2.2.2.2.1 g nf W d sz es es' hp hl h
def sr (res : List (Nat × Option (Nat × Bool))) (sz : Nat) (es : List (List D)) : ci -> Env -> Prop:=fun t e=>(match t with
   | .ext _=>False
   | _=>True) /\ iK res sz es e
def so (res : List (Nat × Option (Nat × Bool))) (R : D) : ci -> Env -> Prop:=fun t e=>(match t with
   | .ext _=>False
   | _=>True) /\ px res R e
def tr (C : CC) (g : Nat) (hs : Option (List Nat)) (K : Env -> Prop) (ns : List ar) (t : Nat) (_ : Tag (hs,K,ns)) (e : Env) (R : List Nat) (acc : List (List Nat × List Nat)) (ds : List D) : Prop :=
 ∃ sz es,C g ds .any [.own sz es] /\ kOf C hs K ns e R acc [(t,.ref (.r (rt t 0)) 0 es.length),(rt t 0,.blk sz es)] [(rt t 0,true)]
theorem jB {g : Nat} {hs : Option (List Nat)} {K : Env -> Prop} {ns : List ar} {t : Nat} {u : Tag (hs,K,ns)} {R : List Nat} {acc : List (List Nat × List Nat)} {ds : List D} {sz : Nat} {es : List (List D)} (h : C g ds .any [.own sz es]) (hk : doW C hs K ns ⟨⟩ e R acc [(t,.ref (.r (rt t 0)) 0 es.length),(rt t 0,.blk sz es)] [(rt t 0,true)]) : tr C g hs K ns t u e R acc ds:=⟨sz,es,h,hk⟩
def pO (C : CC) (g : Nat) (hs : Option (List Nat)) (K : Env -> Prop) (ns : List ar) (dst : Option Nat) (_ : Tag (hs,K,ns)) (e : Env) (R : List Nat) (acc : List (List Nat × List Nat)) (b sz : Nat) (es : List (List D)) (ds : List D) (p : Bool) : Prop:=match dst with
 | none=>∃ es' : List (List D),es'.length=es.length /\ (∀ e ∈ es',e.length=sz /\ ∀ c ∈ e,aC c=true) /\ (p=true \/ ∀ e ∈ es',∀ c ∈ e,aW c=true) /\ C g (.own sz es::ds) .any [.own sz es',.nilp] /\ doW C hs K ns ⟨⟩ e R acc [(b,.blk sz es')] []
 | some t=>(∃ es' : List (List D),es'.length=es.length /\ (∀ e ∈ es',e.length=sz /\ ∀ c ∈ e,aC c=true) /\ (p=true \/ ∀ e ∈ es',∀ c ∈ e,aW c=true) /\ C g (.own sz es::ds) .any [.own sz es',.nilp] /\ doW C hs K ns ⟨⟩ e R acc [(t,.tup []),(b,.blk sz es')] []) \/ (b ≠ rt t 0 /\ 0 < sz /\ ∃ es' : List (List D),(∀ e ∈ es',e.length=sz /\ ∀ c ∈ e,aC c=true) /\ (p=true \/ ∀ e ∈ es',∀ c ∈ e,aW c=true) /\ C g (.own sz es::ds) .any [.own sz es',.nils] /\ doW C hs K ns ⟨⟩ e R acc [(t,.ref (.r (rt t 0)) 0 es'.length),(rt t 0,.blk sz es'),(b,.any)] [(rt t 0,true)])
theorem rZ {t : Nat} {g : Nat} {hs : Option (List Nat)} {K : Env -> Prop} {ns : List ar} {u : Tag (hs,K,ns)} {R : List Nat} {acc : List (List Nat × List Nat)} {b sz : Nat} {es es' : List (List D)} {ds : List D} {p : Bool} (h : C g (.own sz es::ds) .any [.own sz es',.nilp]) (hp : (p=true \/ ∀ e ∈ es',∀ c ∈ e,aW c=true)) (hl : es'.length=es.length) (hu : (∀ e ∈ es',e.length=sz /\ ∀ c ∈ e,aC c=true)) (hk : doW C hs K ns ⟨⟩ e R acc [(t,.tup []),(b,.blk sz es')] []) : pO C g hs K ns (some t) u e R acc b sz es ds p:=.inl ⟨es',hl,hu,hp,h,hk⟩
def B1 (C : CC) (g : Nat) (hs : Option (List Nat)) (K : Env -> Prop) (ns : List ar) (dst : Option Nat) (_ : Tag (hs,K,ns)) (e : Env) (R : List Nat) (acc : List (List Nat × List Nat)) (b n : Nat) (xs : List Opd) (d : D) : Prop:=match d with
 | .blk sz es=>es.length=n /\ (∀ e ∈ es,∀ c ∈ e,aC c=true) /\ (∀ x ∈ xs,bu (fbE (ab e) b) (vd (fbE (ab e) b) x)) /\ pO C g hs K ns dst ⟨⟩ e R acc b sz es (xs.map (dpv (fbE (ab e) b))) (xs.all fun y=>isV (vd (fbE (ab e) b) y))
 | _=>False
def KC (C : CC) (g : Nat) (hs : Option (List Nat)) (K : Env -> Prop) (ns : List ar) (dst : Option Nat) (_ : Tag (hs,K,ns)) (e : Env) (R : List Nat) (acc : List (List Nat × List Nat)) (xs : List Opd) (d : D) : Prop:=match d with
 | .ref (.r b) k n=>k=0 /\ B1 C g hs K ns dst ⟨⟩ e R acc b n xs (ab e b)
 | _=>False
@[simp] theorem Qp {f : Nat -> D} {b t : Nat} : fbE f b t=if t=b then .any else f t:=zR
theorem aa {g : Nat} {hs : Option (List Nat)} {K : Env -> Prop} {ns : List ar} {dst : Option Nat} {u : Tag (hs,K,ns)} {R : List Nat} {acc : List (List Nat × List Nat)} {p : Bool} {ds : List D} (h : C g ds d []) (hf : isF d=true \/ p=true) (hk : dW C hs K ns dst ⟨⟩ e R acc d) : oJ C g hs K ns dst u e R acc p ds:=⟨d,h,hf,hk⟩
def oq (S : Type) (G : S -> Env) (I : S -> Prop) (m : S -> Nat) (s : S) (Q : ci -> Env -> Prop) : ci -> Env -> Prop:=fun t e'=>match t with
    | .nrm=>∃ s',I s' /\ m s' < m s /\ jv e' (G s')
    | t=>Q t e'
theorem az {c : dw} {u : Tag (c,Q)} (S : Type) (G : S -> Env) (I : S -> Prop) (m : S -> Nat) (s0 : S) (h0 : I s0) (hw : jv e (G s0))
  (h : ∀ s,I s -> wN C c (oq S G I m s Q) ⟨⟩ (G s)) : yJ C c Q u e:=⟨S,G,I,m,s0,h0,hw,h⟩
@[simp] theorem PQ {u} : wN C .skip Q u e=bG Q ⟨⟩ .nrm e:=zR
@[simp] theorem Rh {hs keep ops u} : wN C (.reg false hs keep ops) Q u e=sI C (w9 keep Q) ops ⟨⟩ e:=zR
@[simp] theorem PN {hs keep ops u} : wN C (.reg true hs keep ops) Q u e=qv C hs (w9 keep Q) ops ⟨⟩ e []:=zR
@[simp] theorem Rj {x y u} : wN C (.seq x y) Q u e=wN C x (xn C y Q) ⟨⟩ e:=zR
def brB (b : Bool) (X Y : Prop) (_ : Tag (X,Y)) : Prop:=(b=true -> X) /\ (b=false -> Y)
theorem al {b : Bool} {X Y : Prop} {u} (h1 : b=true -> X) (h2 : b=false -> Y) : brB b X Y u:=⟨h1,h2⟩
@[simp] theorem F8 {X Y : Prop} {u} : brB true X Y u=X:=by simp [brB]
@[simp] theorem CU {X Y : Prop} {u} : brB false X Y u=Y:=by simp [brB]
def cdW (C : CC) (x y : dw) (Q : ci -> Env -> Prop) (_ : Tag (x,y,Q)) (e : Env) (d : D) : Prop:=match d with
 | .bool b=>brB b (wN C x Q ⟨⟩ e) (wN C y Q ⟨⟩ e) ⟨⟩
 | .bb=>wN C x Q ⟨⟩ e /\ wN C y Q ⟨⟩ e
 | _=>False
@[simp] theorem PV {x y u} : cdW C x y Q u e .bb=(wN C x Q ⟨⟩ e /\ wN C y Q ⟨⟩ e):=zR
@[simp] theorem F9 {x y u b} : cdW C x y Q u e (.bool b)=brB b (wN C x Q ⟨⟩ e) (wN C y Q ⟨⟩ e) ⟨⟩:=zR
@[simp] theorem PM {c x y u} : wN C (.cond c x y) Q u e=cdW C x y Q ⟨⟩ e (vd (ab e) c):=zR
@[simp] theorem KJ {id c u} : wN C (.block id c) Q u e=wN C c (nE id Q) ⟨⟩ e:=zR
@[simp] theorem PP {c u} : wN C (.loop c) Q u e=yJ C c Q ⟨⟩ e:=zR
@[simp] theorem PO {id u} : wN C (.exit id) Q u e=bG Q ⟨⟩ (.ext id) e:=zR
@[simp] theorem Ri {u} : wN C .ret Q u e=bG Q ⟨⟩ .ret e:=zR
@[simp] theorem wn {y u} : bG (xn C y Q) u .nrm e=wN C y Q ⟨⟩ e:=zR
@[simp] theorem wm {y u i} : bG (xn C y Q) u (.ext i) e=bG Q ⟨⟩ (.ext i) e:=zR
@[simp] theorem wo {y u} : bG (xn C y Q) u .ret e=bG Q ⟨⟩ .ret e:=zR
@[simp] theorem tI {id u} : bG (nE id Q) u .nrm e=bG Q ⟨⟩ .nrm e:=zR
@[simp] theorem tH {id u i} : bG (nE id Q) u (.ext i) e=if i=id then bG Q ⟨⟩ .nrm e else bG Q ⟨⟩ (.ext i) e:=zR
@[simp] theorem tJ {id u} : bG (nE id Q) u .ret e=bG Q ⟨⟩ .ret e:=zR
@[simp] theorem wa {r u} : bG (fin r d) u .nrm e=eg r d e:=by simp [bG,fin]
@[simp] theorem wc {r u} : bG (fin r d) u .ret e=eg r d e:=by simp [bG,fin]
@[simp] theorem vA {r d} {u : Tag (sq r d)} : bG (sq r d) u .nrm e=iI r d e:=by simp [bG,sq]
@[simp] theorem vB {r d} {u : Tag (sq r d)} : bG (sq r d) u .ret e=iI r d e:=by simp [bG,sq]
@[simp] theorem vy {r sz es} {u : Tag (pY r sz es)} : bG (pY r sz es) u .nrm e=iJ r sz es e:=by simp [bG,pY]
@[simp] theorem vz {r sz es} {u : Tag (pY r sz es)} : bG (pY r sz es) u .ret e=iJ r sz es e:=by simp [bG,pY]
@[simp] theorem vE {r d sz es} {u : Tag (pZ r d sz es)} : bG (pZ r d sz es) u .nrm e=((0 < es.length /\ ab e 10015=.blk sz es) /\ eg r d ((10015,.any)::e)):=by simp [bG,pZ]
@[simp] theorem vF {r d sz es} {u : Tag (pZ r d sz es)} : bG (pZ r d sz es) u .ret e=((0 < es.length /\ ab e 10015=.blk sz es) /\ eg r d ((10015,.any)::e)):=by simp [bG,pZ]
@[simp] theorem vC {r sz es} {u : Tag (sr r sz es)} : bG (sr r sz es) u .nrm e=iK r sz es e:=by simp [bG,sr]
@[simp] theorem vD {r sz es} {u : Tag (sr r sz es)} : bG (sr r sz es) u .ret e=iK r sz es e:=by simp [bG,sr]
@[simp] theorem vw {r d} {u : Tag (so r d)} : bG (so r d) u .nrm e=px r d e:=by simp [bG,so]
@[simp] theorem vx {r d} {u : Tag (so r d)} : bG (so r d) u .ret e=px r d e:=by simp [bG,so]
@[simp] theorem tL {S G I m s u} : bG (oq S G I m s Q) u .nrm e=∃ s',I s' /\ m s' < m s /\ jv e (G s'):=zR
@[simp] theorem tK {S G I m s u i} : bG (oq S G I m s Q) u (.ext i) e=bG Q ⟨⟩ (.ext i) e:=zR
@[simp] theorem tM {S G I m s u} : bG (oq S G I m s Q) u .ret e=bG Q ⟨⟩ .ret e:=zR
end
section
variable {C : CC} {Q : ci -> Env -> Prop} {e : Env} {K : Env -> Prop} {dst : Option Nat} {d : D} {hs : Option (List Nat)} {ns : List ar} {R : List Nat} {acc : List (List Nat × List Nat)} {u : Tag (hs,K,ns)}
@[simp] theorem J4 {keep u} : sI C (w9 keep Q) [] u e=bG Q ⟨⟩ .nrm (prune keep e):=zR
@[simp] theorem J3 {h keep u} : qv C h (w9 keep Q) [] u e acc=(Hk h acc /\ bG Q ⟨⟩ .nrm (prune keep e)):=zR
@[simp] theorem Fg {dst op ns u} : sI C K (⟨dst,op,none⟩::ns) u e=opW C none K ns dst op ⟨⟩ e [] []:=zR
@[simp] theorem Fe {h dst op ns u} : qv C h K (⟨dst,op,none⟩::ns) u e acc=(chk (ab e) ⟨dst,op,none⟩=true /\ opW C (some h) K ns dst op ⟨⟩ e (gj (ab e) ⟨dst,op,none⟩) acc):=zR
def mq (C : CC) (h : List Nat) (K : Env -> Prop) (ns : List ar) (_ : Tag (h,K,ns)) (e : Env) (dst : Option Nat) (R : List Nat) (acc : List (List Nat × List Nat)) : Prop:=iw e dst fun e'=>j9 C h K ns e' ((R,sg dst)::acc)
@[simp] theorem BP {h t ns u} : mq C h K ns u e (some t) R acc=qv C h K ns ⟨⟩ ((t,.tup [])::e) ((R,[4 * t])::acc):=zR
@[simp] theorem BO {h ns u} : mq C h K ns u e none R acc=qv C h K ns ⟨⟩ e ((R,[])::acc):=zR
def gdT (C : CC) (K : Env -> Prop) (ns : List ar) (dst : Option Nat) (op : NOp) (s : Nat) (want : Bool) (_ : Tag (K,ns)) (e : Env) (d : D) : Prop:=match d with
 | .bool b=>(b=want -> opW C none K ns dst op ⟨⟩ ((s,.bool want)::e) [] []) /\ (b=!want -> dW C none K ns dst ⟨⟩ ((s,.bool !want)::e) [] [] (.tup []))
 | .tup []=>dW C none K ns dst ⟨⟩ e [] [] (.tup [])
 | _=>False
@[simp] theorem G1 {op s b u} : gdT C K ns dst op s true u e (.bool b)=brB b (opW C none K ns dst op ⟨⟩ ((s,.bool true)::e) [] []) (dW C none K ns dst ⟨⟩ ((s,.bool false)::e) [] [] (.tup [])) ⟨⟩:=zR
@[simp] theorem DL {op s b u} : gdT C K ns dst op s false u e (.bool b)=brB b (dW C none K ns dst ⟨⟩ ((s,.bool true)::e) [] [] (.tup [])) (opW C none K ns dst op ⟨⟩ ((s,.bool false)::e) [] []) ⟨⟩:=by
 simp only [gdT,brB,Bool.not_false];exact propext ⟨fun h=>⟨h.2,h.1⟩,fun h=>⟨h.2,h.1⟩⟩
@[simp] theorem G0 {op s want u} : gdT C K ns dst op s want u e (.tup [])=dW C none K ns dst ⟨⟩ e [] [] (.tup []):=zR
@[simp] theorem Fh {dst op s want ns u} : sI C K (⟨dst,op,some (s,want)⟩::ns) u e=gdT C K ns dst op s want ⟨⟩ e (ab e s):=by
 simp only [sI,iM,opW,pH,iw,gdT,dW,dJ,kOf,yy,dE]
 cases ab e s <;> cases dst <;> (first | rfl | (rename_i x _ ;cases x <;> rfl) | (rename_i x;cases x <;> rfl))
def gdD (C : CC) (h : List Nat) (K : Env -> Prop) (ns : List ar) (dst : Option Nat) (op : NOp) (want : Bool) (_ : Tag (K,ns)) (e : Env) (R : List Nat) (acc : List (List Nat × List Nat)) (d : D) : Prop:=match d with
 | .bool b=>(b=want -> opW C (some h) K ns dst op ⟨⟩ e R acc) /\ (b=!want -> mq C h K ns ⟨⟩ e dst R acc)
 | .tup []=>mq C h K ns ⟨⟩ e dst R acc
 | _=>False
@[simp] theorem GZ {h op b u} : gdD C h K ns dst op true u e R acc (.bool b)=brB b (opW C (some h) K ns dst op ⟨⟩ e R acc) (mq C h K ns ⟨⟩ e dst R acc) ⟨⟩:=zR
@[simp] theorem DK {h op b u} : gdD C h K ns dst op false u e R acc (.bool b)=brB b (mq C h K ns ⟨⟩ e dst R acc) (opW C (some h) K ns dst op ⟨⟩ e R acc) ⟨⟩:=by
 simp only [gdD,brB,Bool.not_false];exact propext ⟨fun h=>⟨h.2,h.1⟩,fun h=>⟨h.2,h.1⟩⟩
@[simp] theorem GY {h op want u} : gdD C h K ns dst op want u e R acc (.tup [])=mq C h K ns ⟨⟩ e dst R acc:=zR
@[simp] theorem Ff {h dst op s want ns u} : qv C h K (⟨dst,op,some (s,want)⟩::ns) u e acc=(chk (ab e) ⟨dst,op,some (s,want)⟩=true /\ gdD C h K ns dst op want ⟨⟩ e (gj (ab e) ⟨dst,op,some (s,want)⟩) acc (ab e s)):=zR
@[simp] theorem Gm {K ns u ws ks} : doW C none K ns u e R acc ws ks=sI C K ns ⟨⟩ (ws++dE ks e):=zR
@[simp] theorem Gl {h K ns u ws ks} : doW C (some h) K ns u e R acc ws ks=(wOk R ws ks=true /\ qv C h K ns ⟨⟩ (ws++dE ks e) ((R,wrK ws ks)::acc)):=zR
@[simp] theorem K0 {t} : dW C hs K ns (some t) u e R acc d=doW C hs K ns ⟨⟩ e R acc [(t,d)] []:=zR
@[simp] theorem KZ : dW C hs K ns none u e R acc d=doW C hs K ns ⟨⟩ e R acc [] []:=zR
def aQ (ks : List (Nat × Bool)) (d : D) : D:=if aF ks d then .any else d
theorem bv (ks : List (Nat × Bool)) (d : D) : aQ ks d=bif aF ks d then .any else d:=by
 unfold aQ;cases aF ks d <;> rfl
@[simp] theorem EL : dE [] e=e:=zR
@[simp] theorem EK {k ks} : dE (k::ks) []=[]:=zR
@[simp] theorem AS {k ks s d} : dE (k::ks) ((s,d)::e)=(s,aQ (k::ks) d)::dE (k::ks) e:=zR
@[simp] theorem Es {ks} : aQ ks .any=.any:=by simp [aQ]
@[simp] theorem Ey {ks k n} : aQ ks (.int k n)=.int k n:=by simp [aQ,aF,cz,aA]
@[simp] theorem AP {ks n} : aQ ks (.bool n)=.bool n:=by simp [aQ,aF,cz,aA]
@[simp] theorem EH {ks n} : aQ ks (.str n)=.str n:=by simp [aQ,aF,cz,aA]
@[simp] theorem IX {ks} : aQ ks .bb=.bb:=by simp [aQ,aF,cz,aA]
@[simp] theorem AQ {ks} : aQ ks .nilp=.nilp:=by simp [aQ,aF,cz,aA]
@[simp] theorem AR {ks} : aQ ks .nils=.nils:=by simp [aQ,aF,cz,aA]
@[simp] theorem Ep {ks n} : aQ ks (.agg n)=.agg n:=by simp [aQ,aF,cz,aA]
@[simp] theorem EJ {ks n} : aQ ks (.tup n)=.tup n:=by simp [aQ,aF,cz,aA]
@[simp] theorem I0 {ks n} : aQ ks (.sl n)=.sl n:=by simp [aQ,aF,cz,aA]
@[simp] theorem EB {ks n} : aQ ks (.ptr n)=.ptr n:=by simp [aQ,aF,cz,aA]
@[simp] theorem IY {ks g n} : aQ ks (.fn g n)=.fn g n:=by simp [aQ,aF,cz,aA]
@[simp] theorem Et {ks g n} : aQ ks (.blk g n)=.blk g n:=by simp [aQ,aF,cz,aA]
@[simp] theorem IZ {ks kt et xs vs} : aQ ks (.mp kt et xs vs)=.mp kt et xs vs:=by simp [aQ,aF,cz,aA]
@[simp] theorem ED {b all ks p k n} : aQ ((b,all)::ks) (.ref p k n)=if bg b all p then .any else aQ ks (.ref p k n):=by
 have h : aQ ((b,all)::ks) (.ref p k n)=bif (bg b all p || aF ks (.ref p k n)) then .any else .ref p k n:=bv ..
 rw [h,bv]
 cases bg b all p <;> rfl
@[simp] theorem Eo {b all ks p k n} : aQ ((b,all)::ks) (.adr p k n)=if bg b all p then .any else aQ ks (.adr p k n):=by
 have h : aQ ((b,all)::ks) (.adr p k n)=bif (bg b all p || aF ks (.adr p k n)) then .any else .adr p k n:=bv ..
 rw [h,bv]
 cases bg b all p <;> rfl
@[simp] theorem Er {b all ks n} : aQ ((b,all)::ks) (.agx n)=if n.any (aA b all) then .any else aQ ks (.agx n):=by
 have h : aQ ((b,all)::ks) (.agx n)=bif (n.any (aA b all) || aF ks (.agx n)) then .any else .agx n:=bv ..
 rw [h,bv]
 cases n.any (aA b all) <;> rfl
@[simp] theorem Eu {b all ks g n} : aQ ((b,all)::ks) (.fnx g n)=if n.any (aA b all) then .any else aQ ks (.fnx g n):=by
 have h : aQ ((b,all)::ks) (.fnx g n)=bif (n.any (aA b all) || aF ks (.fnx g n)) then .any else .fnx g n:=bv ..
 rw [h,bv]
 cases n.any (aA b all) <;> rfl
@[simp] theorem Ex {ks T n} : aQ ks (.ifi T n)=.ifi T n:=by simp [aQ,aF,cz,aA]
@[simp] theorem EF {ks q n} : aQ ks (.slv q n)=.slv q n:=by simp [aQ,aF,cz,aA]
@[simp] theorem Ew {b all ks T p k n} : aQ ((b,all)::ks) (.ifa T p k n)=if bg b all p then .any else aQ ks (.ifa T p k n):=by
 have h : aQ ((b,all)::ks) (.ifa T p k n)=bif (bg b all p || aF ks (.ifa T p k n)) then .any else .ifa T p k n:=bv ..
 rw [h,bv]
 cases bg b all p <;> rfl
@[simp] theorem Ev {b all ks g ds cs} : aQ ((b,all)::ks) (.fny g ds cs)=if ds.any (aA b all) || cs.any (aA b all) then .any else aQ ks (.fny g ds cs):=by
 have h : aQ ((b,all)::ks) (.fny g ds cs)=bif ((ds.any (aA b all) || cs.any (aA b all)) || aF ks (.fny g ds cs)) then .any else .fny g ds cs:=bv ..
 rw [h,bv]
 cases ds.any (aA b all) <;> cases cs.any (aA b all) <;> rfl
@[simp] theorem EA {d} : aQ [] d=d:=by simp [aQ,aF]
@[simp] theorem EG {ks b es} : aQ ks (slx b es)=slx b es:=by cases b <;> cases es <;> simp [slx]
def f8 (C : CC) (hs : Option (List Nat)) (K : Env -> Prop) (ns : List ar) (dst : Option Nat) (_ : Tag (hs,K,ns)) (e : Env) (R : List Nat) (acc : List (List Nat × List Nat)) (sz : Nat) (es : List (List D)) (i : Nat) : Prop :=
 ∃ c,es[i]? = some c /\ c.length=sz /\ dJ dst (kOf C hs K ns e R acc) (.ptr c)
@[simp] theorem Hi {α : Type} [Inhabited α] {sz : Nat} {xs : List α} {f : α -> List D} {i : Nat} : f8 C hs K ns dst u e R acc sz (xs.map f) i=(i < xs.length /\ (f xs[i]!).length=sz /\ dW C hs K ns dst ⟨⟩ e R acc (.ptr (f xs[i]!))):=by
 apply propext
 unfold f8 dW
 constructor
 ·rintro ⟨c,h,h1,h2⟩
  rw [x0x,x0h] at h
  obtain ⟨x,hx,rfl⟩:=h
  obtain ⟨hi,rfl⟩:=x0c.1 hx
  rw [x0Z xs i hi]
  exact ⟨hi,h1,h2⟩
 ·rintro ⟨hi,h1,h2⟩
  rw [x0Z xs i hi] at h1 h2
  exact ⟨_,by rw [x0x,x0d hi];rfl,h1,h2⟩
def jZ (C : CC) (hs : Option (List Nat)) (K : Env -> Prop) (ns : List ar) (dst : Option Nat) (_ : Tag (hs,K,ns)) (e : Env) (R : List Nat) (acc : List (List Nat × List Nat)) (n : Nat) (ag : Bool) (p : Pa) (es : List (List D)) (i off : Nat) : Prop :=
 ∃ r,es[i]? = some r /\ off + n <= r.length /\ match ag with
    | true=>(((r.drop off).take n).all isV=true -> dJ dst (kOf C hs K ns e R acc) (.agg ((r.drop off).take n))) /\
      (((r.drop off).take n).all isV=false -> dJ dst (kOf C hs K ns e R acc) (.agx (((r.drop off).take n).mapIdx fun j c=>ldc p i (off + j) c)))
    | false=>dJ dst (kOf C hs K ns e R acc) (ldc p i off ((r.drop off).headD .any))
theorem ot {n : Nat} {ag : Bool} {p : Pa} {es : List (List D)} {i off : Nat} {r : List D} (hr : es[i]? = some r) (hl : off + n <= r.length) (hk : match ag with
    | true=>(((r.drop off).take n).all isV=true -> dW C hs K ns dst ⟨⟩ e R acc (.agg ((r.drop off).take n))) /\
      (((r.drop off).take n).all isV=false -> dW C hs K ns dst ⟨⟩ e R acc (.agx (((r.drop off).take n).mapIdx fun j c=>ldc p i (off + j) c)))
    | false=>dW C hs K ns dst ⟨⟩ e R acc (ldc p i off ((r.drop off).headD .any))) : jZ C hs K ns dst u e R acc n ag p es i off:=by
 refine ⟨r,hr,hl,?_⟩
 cases ag <;> exact hk
@[simp] theorem Kn {n : Nat} {ag : Bool} {p : Pa} {r : List D} {off : Nat} : jZ C hs K ns dst u e R acc n ag p [r] 0 off=(off + n <= r.length /\ match ag with
    | true=>(((r.drop off).take n).all isV=true -> dW C hs K ns dst ⟨⟩ e R acc (.agg ((r.drop off).take n))) /\
      (((r.drop off).take n).all isV=false -> dW C hs K ns dst ⟨⟩ e R acc (.agx (((r.drop off).take n).mapIdx fun j c=>ldc p 0 (off + j) c)))
    | false=>dW C hs K ns dst ⟨⟩ e R acc (ldc p 0 off ((r.drop off).headD .any))):=by
 apply propext
 constructor
 ·rintro ⟨r',h1,h2,h3⟩
  simp at h1;subst h1
  refine ⟨h2,?_⟩
  cases ag <;> exact h3
 ·rintro ⟨h2,h3⟩
  refine ⟨r,rfl,h2,?_⟩
  cases ag <;> exact h3
end
section
variable {C : CC} {Q : ci -> Env -> Prop} {e : Env} {K : Env -> Prop} {dst : Option Nat} {hs : Option (List Nat)} {ns : List ar} {R : List Nat} {acc : List (List Nat × List Nat)} {u : Tag (hs,K,ns)}
@[simp] theorem Ps {x v1} : opW C hs K ns dst (.mov x) v1 e R acc=(isS (vd (ab e) x)=true /\ dW C hs K ns dst ⟨⟩ e R acc (vd (ab e) x)):=zR
@[simp] theorem Pv {x v1} : opW C hs K ns dst (.nck x) v1 e R acc=(match (generalizing:=false) vd (ab e) x with
  | .ptr ds=>dW C hs K ns dst ⟨⟩ e R acc (.ptr ds)
  | .adr p i off=>dW C hs K ns dst ⟨⟩ e R acc (.adr p i off)
  | .ptx ds=>dW C hs K ns dst ⟨⟩ e R acc (.ptx ds)
  | _=>False):=zR
@[simp] theorem J2 {c a b v1} : opW C hs K ns dst (.pick c a b) v1 e R acc=(match (generalizing:=false) vd (ab e) c with
  | .bool v=>(v=true -> isS (vd (ab e) a)=true /\ dW C hs K ns dst ⟨⟩ e R acc (vd (ab e) a)) /\ (v=false -> isS (vd (ab e) b)=true /\ dW C hs K ns dst ⟨⟩ e R acc (vd (ab e) b))
  | _=>False):=zR
@[simp] theorem Pf {op x y v1} : opW C hs K ns dst (.bin op x y) v1 e R acc=(match (generalizing:=false) vd (ab e) x,vd (ab e) y with
  | .int k a,.int k' b=>match (generalizing:=false) op with
   | .add=>k=k' /\ dW C hs K ns dst ⟨⟩ e R acc (.int k (k.wrap (a + b)))
   | .sub=>k=k' /\ dW C hs K ns dst ⟨⟩ e R acc (.int k (k.wrap (a - b)))
   | .mul=>k=k' /\ dW C hs K ns dst ⟨⟩ e R acc (.int k (k.wrap (a * b)))
   | .quo=>k=k' /\ b ≠ 0 /\ dW C hs K ns dst ⟨⟩ e R acc (.int k (k.wrap (a.tdiv b)))
   | .rem=>k=k' /\ b ≠ 0 /\ dW C hs K ns dst ⟨⟩ e R acc (.int k (a.tmod b))
   | .and=>k=k' /\ dW C hs K ns dst ⟨⟩ e R acc (.int k (bits .and k a b))
   | .or=>k=k' /\ dW C hs K ns dst ⟨⟩ e R acc (.int k (bits .or k a b))
   | .xor=>k=k' /\ dW C hs K ns dst ⟨⟩ e R acc (.int k (bits .xor k a b))
   | .andNot=>k=k' /\ dW C hs K ns dst ⟨⟩ e R acc (.int k (bits .andNot k a b))
   | .shl=>0 <= b /\ dW C hs K ns dst ⟨⟩ e R acc (.int k (k.wrap (a * 2 ^ (min b.toNat k.bits))))
   | .shr=>0 <= b /\ dW C hs K ns dst ⟨⟩ e R acc (.int k (a.fdiv (2 ^ (min b.toNat k.bits))))
   | .eql=>k=k' /\ dW C hs K ns dst ⟨⟩ e R acc (.bool (decide (a=b)))
   | .neq=>k=k' /\ dW C hs K ns dst ⟨⟩ e R acc (.bool (!decide (a=b)))
   | .lss=>k=k' /\ dW C hs K ns dst ⟨⟩ e R acc (.bool (decide (a < b)))
   | .leq=>k=k' /\ dW C hs K ns dst ⟨⟩ e R acc (.bool (decide (a <= b)))
   | .gtr=>k=k' /\ dW C hs K ns dst ⟨⟩ e R acc (.bool (decide (b < a)))
   | .geq=>k=k' /\ dW C hs K ns dst ⟨⟩ e R acc (.bool (decide (b <= a)))
  | .str a,.str b=>match (generalizing:=false) op with
   | .eql=>dW C hs K ns dst ⟨⟩ e R acc (.bool (decide (a=b)))
   | .neq=>dW C hs K ns dst ⟨⟩ e R acc (.bool (!decide (a=b)))
   | .add=>((a++b).length : Int) <= 9223372036854775807 /\ dW C hs K ns dst ⟨⟩ e R acc (.str (a++b))
   | .lss=>dW C hs K ns dst ⟨⟩ e R acc (.bool (Op.bytesLess a b))
   | .leq=>dW C hs K ns dst ⟨⟩ e R acc (.bool (Op.bytesLess a b || a == b))
   | .gtr=>dW C hs K ns dst ⟨⟩ e R acc (.bool !(Op.bytesLess a b || a == b))
   | .geq=>dW C hs K ns dst ⟨⟩ e R acc (.bool !(Op.bytesLess a b))
   | _=>False
  | _,_=>False):=zR
@[simp] theorem Q9 {op x v1} : opW C hs K ns dst (.un op x) v1 e R acc=(match (generalizing:=false) vd (ab e) x with
  | .bool b=>match (generalizing:=false) op with
   | .not=>dW C hs K ns dst ⟨⟩ e R acc (.bool (!b))
   | _=>False
  | .int k n=>match (generalizing:=false) op with
   | .neg=>dW C hs K ns dst ⟨⟩ e R acc (.int k (k.wrap (0 - n)))
   | _=>False
  | _=>False):=zR
@[simp] theorem JW {k x v1} : opW C hs K ns dst (.conv k x) v1 e R acc=(match (generalizing:=false) vd (ab e) x with
  | .int _ n=>dW C hs K ns dst ⟨⟩ e R acc (.int k (k.wrap n))
  | _=>False):=zR
@[simp] theorem Pe {neg ks x y v1} : opW C hs K ns dst (.beq neg ks x y) v1 e R acc=(match (generalizing:=false) vd (ab e) x,vd (ab e) y with
  | .bool a,.bool b=>ks=[] /\ dW C hs K ns dst ⟨⟩ e R acc (.bool ((a == b) != neg))
  | .agg a,.agg b=>ks ≠ [] /\ match (generalizing:=false) b9 ks a b with
   | some r=>dW C hs K ns dst ⟨⟩ e R acc (.bool (r != neg))
   | none=>False
  | .nils,.nils=>ks=[9] /\ dW C hs K ns dst ⟨⟩ e R acc (.bool (!neg))
  | .sl es,.nils=>ks=[9] /\ (0 < es.length -> dW C hs K ns dst ⟨⟩ e R acc (.bool neg)) /\ (es.length=0 -> dW C hs K ns dst ⟨⟩ e R acc .bb)
  | .nilp,.nilp=>ks=[8] /\ dW C hs K ns dst ⟨⟩ e R acc (.bool (!neg))
  | .ptr _,.nilp=>ks=[8] /\ dW C hs K ns dst ⟨⟩ e R acc (.bool neg)
  | _,_=>False):=zR
@[simp] theorem JZ {len sz ag x i v1} : opW C hs K ns dst (.idxA len sz ag x i) v1 e R acc=(match (generalizing:=false) vd (ab e) x,vd (ab e) i with
  | .agg ds,.int _ j=>0 <= j /\ j < len /\ j.toNat * sz + sz <= ds.length /\ dW C hs K ns dst ⟨⟩ e R acc (mG ag sz (ds.drop (j.toNat * sz)))
  | .agx ds,.int _ j=>0 <= j /\ j < len /\ j.toNat * sz + sz <= ds.length /\ match (generalizing:=false) ag with
   | true=>dW C hs K ns dst ⟨⟩ e R acc (.agx ((ds.drop (j.toNat * sz)).take sz))
   | false=>dW C hs K ns dst ⟨⟩ e R acc ((ds.drop (j.toNat * sz)).headD .any)
  | _,_=>False):=zR
@[simp] theorem Pw {len sz x v1} : opW C hs K ns dst (.slA len sz x) v1 e R acc=(match (generalizing:=false) vd (ab e) x with
  | .ptr ds=>0 < len /\ 0 < sz /\ len * sz <= ds.length /\ dW C hs K ns dst ⟨⟩ e R acc (.sl (bL sz len ds))
  | _=>False):=zR
@[simp] theorem Pk {x v1} : opW C hs K ns dst (.cvS x) v1 e R acc=(match (generalizing:=false) vd (ab e) x with
  | .sl es=>0 < es.length /\ (∀ r ∈ es,∃ n : Nat,r=[.int .u8 n] /\ n < 256) /\ dW C hs K ns dst ⟨⟩ e R acc (.str (es.map fg))
  | _=>False):=zR
@[simp] theorem Pl {i x v1} : opW C hs K ns dst (.ext i x) v1 e R acc=(match (generalizing:=false) vd (ab e) x with
  | .tup ds=>∃ d,ds[i]? = some d /\ dW C hs K ns dst ⟨⟩ e R acc d
  | .tpx ds=>∃ d,ds[i]? = some d /\ dW C hs K ns dst ⟨⟩ e R acc d
  | _=>False):=zR
@[simp] theorem Pm {off x v1} : opW C hs K ns dst (.fad off x) v1 e R acc=(match (generalizing:=false) vd (ab e) x with
  | .adr p i o=>dW C hs K ns dst ⟨⟩ e R acc (.adr p i (o + off))
  | .ptr ds=>dW C hs K ns dst ⟨⟩ e R acc (.ptr (ds.drop off))
  | .ptx ds=>dW C hs K ns dst ⟨⟩ e R acc (.ptx (ds.drop off))
  | _=>False):=zR
@[simp] theorem JX {len sz x i v1} : opW C hs K ns dst (.iadA len sz x i) v1 e R acc=(match (generalizing:=false) vd (ab e) x,vd (ab e) i with
  | .adr p r o,.int _ j=>0 <= j /\ j < len /\ dW C hs K ns dst ⟨⟩ e R acc (.adr p r (o + j.toNat * sz))
  | .ptr ds,.int _ j=>0 <= j /\ j < len /\ dW C hs K ns dst ⟨⟩ e R acc (.ptr (ds.drop (j.toNat * sz)))
  | _,_=>False):=zR
@[simp] theorem Q4 {n ag x v1} : opW C hs K ns dst (.ld n ag x) v1 e R acc=(match (generalizing:=false) vd (ab e) x with
  | .adr p i off=>match (generalizing:=false) bm (ab e) p with
   | some (_,es)=>jZ C hs K ns dst ⟨⟩ e R acc n ag p es i off
   | none=>False
  | .ptr ds=>n <= ds.length /\ dW C hs K ns dst ⟨⟩ e R acc (mG ag n ds)
  | .ptx ds=>n <= ds.length /\ match (generalizing:=false) ag with
   | true=>((ds.take n).all isV=true -> dW C hs K ns dst ⟨⟩ e R acc (.agg (ds.take n))) /\ ((ds.take n).all isV=false -> dW C hs K ns dst ⟨⟩ e R acc (.agx (ds.take n)))
   | false=>0 < n /\ dW C hs K ns dst ⟨⟩ e R acc (ds.headD .any)
  | _=>False):=zR
@[simp] theorem Pg {zs parts v1} : opW C hs K ns dst (.bld zs parts) v1 e R acc=((∀ p ∈ parts,isS (vd (ab e) p.2.2)=true /\ p.1 + p.2.1 <= zs.length /\ match (generalizing:=false) vd (ab e) p.2.2 with
    | .agg ds=>ds.length=p.2.1
    | .agx ds=>ds.length=p.2.1
    | .any=>False
    | .tpx _=>False
    | .ptx _=>False
    | .rfx _ _ _=>False
    | .fny _ _ _=>False
    | .fnx _ _=>False
    | _=>p.2.1=1) /\
   ((parts.all fun p=>isV (vd (ab e) p.2.2))=true -> dW C hs K ns dst ⟨⟩ e R acc (.agg (gn zs (parts.map fun p=>(p.1,p.2.1,vd (ab e) p.2.2))))) /\
   ((parts.all fun p=>isV (vd (ab e) p.2.2))=false -> dW C hs K ns dst ⟨⟩ e R acc (.agx (gn zs (parts.map fun p=>(p.1,p.2.1,bI (vd (ab e) p.2.2))))))):=zR
@[simp] theorem J0 {x v1} : opW C hs K ns dst (.lens x) v1 e R acc=(match (generalizing:=false) vd (ab e) x with
  | .str s=>dW C hs K ns dst ⟨⟩ e R acc (.int .i64 s.length)
  | _=>False):=zR
@[simp] theorem Q5 {g xs v1} : opW C hs K ns dst (.mk g xs) v1 e R acc=((∀ x ∈ xs,isP (vd (ab e) x)=true) /\ ((xs.all fun x=>isV (vd (ab e) x))=true -> dW C hs K ns dst ⟨⟩ e R acc (.fn g (xs.map (vd (ab e))))) /\ ((xs.all fun x=>isV (vd (ab e) x))=false -> dW C hs K ns dst ⟨⟩ e R acc (.fnx g (xs.map (vd (ab e)))))):=zR
@[simp] theorem Q6 {x y v1} : opW C hs K ns dst (.mn x y) v1 e R acc=(match (generalizing:=false) vd (ab e) x,vd (ab e) y with
  | .int k a,.int k' b=>k=k' /\ dW C hs K ns dst ⟨⟩ e R acc (.int k (if b < a then b else a))
  | _,_=>False):=zR
@[simp] theorem Q7 {x y v1} : opW C hs K ns dst (.mx x y) v1 e R acc=(match (generalizing:=false) vd (ab e) x,vd (ab e) y with
  | .int k a,.int k' b=>k=k' /\ dW C hs K ns dst ⟨⟩ e R acc (.int k (if a < b then b else a))
  | _,_=>False):=zR
@[simp] theorem J1 {sz v1} : opW C hs K ns dst (.nilo sz) v1 e R acc=(match (generalizing:=false) dst with
  | some t=>0 < sz /\ doW C hs K ns ⟨⟩ e R acc [(t,.ref (.r (rt t 0)) 0 0),(rt t 0,.blk sz [])] [(rt t 0,true)]
  | none=>False):=zR
@[simp] theorem Pi {x t v1} : opW C hs K ns (some t) (.box [] x) v1 e R acc=ft (ab e) (vd (ab e) x) [] (fun cs bs=>bs.contains (rt t 0)=false /\ doW C hs K ns ⟨⟩ e R acc ((t,.adr (.r (rt t 0)) 0 0)::(rt t 0,.blk cs.length [cs])::b7 bs) [(rt t 0,true)]) ⟨⟩:=zR
@[simp] theorem Pb {zs v1} : opW C hs K ns dst (.alc zs) v1 e R acc=(match (generalizing:=false) dst with
  | some t=>doW C hs K ns ⟨⟩ e R acc [(t,.adr (.r (rt t 0)) 0 0),(rt t 0,.blk zs.length [zs])] [(rt t 0,true)]
  | none=>False):=zR
@[simp] theorem Ph {sz len zs parts t v1} : opW C hs K ns (some t) (.bls sz len zs [] parts) v1 e R acc=oi (ab e) sz parts (List.replicate len zs) [] (fun es bs=>bA bs=true /\ bs.contains (rt t 0)=false /\ doW C hs K ns ⟨⟩ e R acc ((t,.ref (.r (rt t 0)) 0 len)::(rt t 0,.blk sz es)::b7 bs) [(rt t 0,true)]) ⟨⟩:=zR
@[simp] theorem Pr {sz by_ zs n c v1} : opW C hs K ns dst (.mks sz by_ zs n c) v1 e R acc=(match (generalizing:=false) dst with
  | some t=>match (generalizing:=false) vd (ab e) n,vd (ab e) c with
   | .int _ n,.int _ c=>0 <= n /\ n <= c /\ c * by_ <= 140737488355328 /\ doW C hs K ns ⟨⟩ e R acc [(t,.ref (.r (rt t 0)) 0 n.toNat),(rt t 0,.blk sz (List.replicate c.toNat zs))] [(rt t 0,true)]
   | _,_=>False
  | none=>False):=zR
def stM (C : CC) (hs : Option (List Nat)) (K : Env -> Prop) (ns : List ar) (_ : Tag (hs,K,ns)) (e : Env) (R : List Nat) (acc : List (List Nat × List Nat)) (n : Nat) (v : D) (cs : List D) (bs : List Nat) (a : D) : Prop:=match a with
 | .adr (.r b) i off=>bs.contains b=false /\ dX (ab e b) (fun sz es=>iu es[i]? (fun r=>off + n <= r.length /\ doW C hs K ns ⟨⟩ e R acc ((b,.blk sz (bC es i off n cs))::b7 bs) (stK v [] b)) ⟨⟩) ⟨⟩
 | .adr (.n b i0 o0) i off=>bs=[] /\ (∀ c ∈ cs,aC c=true) /\ dX (ab e b) (fun sz0 es0=>iu es0[i0]? (fun row0=>lX row0[o0]? (fun sz es=>iu es[i]? (fun r=>off + n <= r.length /\ doW C hs K ns ⟨⟩ e R acc [(b,.blk sz0 (bC es0 i0 o0 1 [.own sz (bC es i off n cs)]))] []) ⟨⟩) ⟨⟩) ⟨⟩) ⟨⟩
 | _=>False
@[simp] theorem Rt {n v cs bs b i off} : stM C hs K ns u e R acc n v cs bs (.adr (.r b) i off)=(bs.contains b=false /\ dX (ab e b) (fun sz es=>iu es[i]? (fun r=>off + n <= r.length /\ doW C hs K ns ⟨⟩ e R acc ((b,.blk sz (bC es i off n cs))::b7 bs) (stK v [] b)) ⟨⟩) ⟨⟩):=zR
@[simp] theorem Rr {n v cs bs b i0 o0 i off} : stM C hs K ns u e R acc n v cs bs (.adr (.n b i0 o0) i off)=(bs=[] /\ (∀ c ∈ cs,aC c=true) /\ dX (ab e b) (fun sz0 es0=>iu es0[i0]? (fun row0=>lX row0[o0]? (fun sz es=>iu es[i]? (fun r=>off + n <= r.length /\ doW C hs K ns ⟨⟩ e R acc [(b,.blk sz0 (bC es0 i0 o0 1 [.own sz (bC es i off n cs)]))] []) ⟨⟩) ⟨⟩) ⟨⟩) ⟨⟩):=zR
@[simp] theorem Q8 {n a v v1} : opW C hs K ns dst (.st n [] a v) v1 e R acc=(dst=none /\ ft (ab e) (vd (ab e) v) [] (fun cs bs=>cs.length=n /\ stM C hs K ns ⟨⟩ e R acc n (vd (ab e) v) cs bs (vd (ab e) a)) ⟨⟩):=by
 show (dst=none /\ eQ (ab e) (vd (ab e) v) [] _)=(dst=none /\ eQ (ab e) (vd (ab e) v) [] _)
 congr 1
 congr 1
 funext cs bs
 cases vd (ab e) a <;> try rfl
 rename_i p i off
 cases p with
 | r b =>
  simp only [stM,dX,ib]
  cases ab e b <;> rfl
 | n b i0 o0 =>
  simp only [stM,dX,ib,kZ]
  cases ab e b <;> rfl
def rV (C : CC) (hs : Option (List Nat)) (K : Env -> Prop) (ns : List ar) (_ : Tag (hs,K,ns)) (e : Env) (R : List Nat) (acc : List (List Nat × List Nat)) (t sz by_ : Nat) (rowsY : List (List D)) (bs : List Nat) (x : D) : Prop:=match x with
 | .nils=>rowsY.length * by_ <= 140737488355328 /\ doW C hs K ns ⟨⟩ e R acc ((t,.ref (.r (rt t 0)) 0 rowsY.length)::(rt t 0,.blk sz rowsY)::b7 bs) [(rt t 0,true)]
 | .ref (.r c) k n=>c ≠ rt t 0 /\ bs.contains c=false /\ dX (ab e c) (fun sz' es=>sz'=sz /\ k + n <= es.length /\ (n + rowsY.length) * by_ <= 140737488355328 /\
      doW C hs K ns ⟨⟩ e R acc ((t,.ref (.r (rt t 0)) 0 (n + rowsY.length))::(rt t 0,.blk sz ((es.drop k).take n++rowsY))::(c,.any)::b7 bs) [(rt t 0,true)]) ⟨⟩
 | .ref (.n c i o) k n=>c ≠ rt t 0 /\ bs.contains c=false /\ dX (ab e c) (fun sz0 es0=>iu es0[i]? (fun row0=>lX row0[o]? (fun sz' es=>sz'=sz /\ k + n <= es.length /\ (n + rowsY.length) * by_ <= 140737488355328 /\
      doW C hs K ns ⟨⟩ e R acc ((t,.ref (.r (rt t 0)) 0 (n + rowsY.length))::(rt t 0,.blk sz ((es.drop k).take n++rowsY))::(c,.blk sz0 (bC es0 i o 1 [.any]))::b7 bs) [(rt t 0,true)]) ⟨⟩) ⟨⟩) ⟨⟩
 | _=>False
@[simp] theorem CL {t sz by_ rowsY bs} : rV C hs K ns u e R acc t sz by_ rowsY bs .nils=(rowsY.length * by_ <= 140737488355328 /\ doW C hs K ns ⟨⟩ e R acc ((t,.ref (.r (rt t 0)) 0 rowsY.length)::(rt t 0,.blk sz rowsY)::b7 bs) [(rt t 0,true)]):=zR
@[simp] theorem PU {t sz by_ rowsY bs c k n} : rV C hs K ns u e R acc t sz by_ rowsY bs (.ref (.r c) k n)=(c ≠ rt t 0 /\ bs.contains c=false /\ dX (ab e c) (fun sz' es=>sz'=sz /\ k + n <= es.length /\ (n + rowsY.length) * by_ <= 140737488355328 /\
      doW C hs K ns ⟨⟩ e R acc ((t,.ref (.r (rt t 0)) 0 (n + rowsY.length))::(rt t 0,.blk sz ((es.drop k).take n++rowsY))::(c,.any)::b7 bs) [(rt t 0,true)]) ⟨⟩):=zR
@[simp] theorem PT {t sz by_ rowsY bs c i o k n} : rV C hs K ns u e R acc t sz by_ rowsY bs (.ref (.n c i o) k n)=(c ≠ rt t 0 /\ bs.contains c=false /\ dX (ab e c) (fun sz0 es0=>iu es0[i]? (fun row0=>lX row0[o]? (fun sz' es=>sz'=sz /\ k + n <= es.length /\ (n + rowsY.length) * by_ <= 140737488355328 /\
      doW C hs K ns ⟨⟩ e R acc ((t,.ref (.r (rt t 0)) 0 (n + rowsY.length))::(rt t 0,.blk sz ((es.drop k).take n++rowsY))::(c,.blk sz0 (bC es0 i o 1 [.any]))::b7 bs) [(rt t 0,true)]) ⟨⟩) ⟨⟩) ⟨⟩):=zR
@[simp] theorem Pc {sz by_ mv x y t v1} : opW C hs K ns (some t) (.app sz by_ mv x y) v1 e R acc=gL (ab e) mv (vd (ab e) y) sz (fun rowsY bs=>bs.contains (rt t 0)=false /\ rV C hs K ns ⟨⟩ e R acc t sz by_ rowsY bs (vd (ab e) x)) ⟨⟩:=by
 unfold opW gL
 simp only [aD]
 congr 1
 funext rowsY bs
 congr 1
 cases vd (ab e) x <;> try rfl
 rename_i p k n
 cases p with
 | r c =>
  simp only [rV,dX]
  cases ab e c <;> rfl
 | n c i o =>
  simp only [rV,dX,ib,kZ]
  cases hl : ab e c <;> try rfl
  rename_i sz0 es0
  refine congrArg _ (congrArg _ (propext ⟨?_,?_⟩))
  ·rintro ⟨row0,h1,es,h2,h3⟩
   exact ⟨row0,h1,sz,es,h2,rfl,h3⟩
  ·rintro ⟨row0,h1,sz',es,h2,rfl,h3⟩
   exact ⟨row0,h1,es,h2,h3⟩
@[simp] theorem KB {g b n xs sz es} : B1 C g hs K ns dst u e R acc b n xs (.blk sz es)=(es.length=n /\ (∀ e ∈ es,∀ c ∈ e,aC c=true) /\ (∀ x ∈ xs,bu (fbE (ab e) b) (vd (fbE (ab e) b) x)) /\ pO C g hs K ns dst ⟨⟩ e R acc b sz es (xs.map (dpv (fbE (ab e) b))) (xs.all fun y=>isV (vd (fbE (ab e) b) y))):=zR
@[simp] theorem KD {g xs b k n} : KC C g hs K ns dst u e R acc xs (.ref (.r b) k n)=(k=0 /\ B1 C g hs K ns dst ⟨⟩ e R acc b n xs (ab e b)):=zR
@[simp] theorem Fc {g x xs v1} : opW C hs K ns dst (.callS g x xs) v1 e R acc=(KC C g hs K ns dst ⟨⟩ e R acc xs (vd (ab e) x)):=by
 cases dst <;> rfl
def vO (n : Nat) (d : D) : Prop:=match d with
 | .blk _ es=>es.length=n /\ ∀ e ∈ es,∀ c ∈ e,aW c=true
 | _=>False
def oG (f : Nat -> D) (b : Nat) (d : D) : Prop:=match d with
 | .ref (.r c) k n=>k=0 /\ c ≠ b /\ vO n (f c)
 | d=>isV d=true
def wU (d : D) : D:=match d with
 | .blk sz es=>.own sz es
 | _=>.any
def qS (f : Nat -> D) (d : D) : D:=match d with
 | .ref (.r c) _ _=>wU (f c)
 | d=>d
@[simp] theorem zfs {n sz es} : vO n (.blk sz es)=(es.length=n /\ ∀ e ∈ es,∀ c ∈ e,aW c=true):=zR
@[simp] theorem J5 {sz es} : wU (.blk sz es)=.own sz es:=zR
@[simp] theorem KN {f : Nat -> D} {b : Nat} {x : Opd} : kQ f b x=oG f b (vd f x):=by
 unfold kQ oG vO
 cases vd f x <;> rfl
@[simp] theorem KO {f : Nat -> D} {x : Opd} : jz f x=qS f (vd f x):=by
 unfold jz qS wU
 cases vd f x <;> rfl
@[simp] theorem CN {f : Nat -> D} {b c k n} : oG f b (.ref (.r c) k n)=(k=0 /\ c ≠ b /\ vO n (f c)):=zR
@[simp] theorem CP {f : Nat -> D} {c k n} : qS f (.ref (.r c) k n)=wU (f c):=zR
@[simp] theorem CM {f : Nat -> D} {b k n} : oG f b (.int k n)=True:=by simp [oG,isV]
@[simp] theorem CO {f : Nat -> D} {k n} : qS f (.int k n)=.int k n:=zR
def tG (C : CC) (g : Nat) (hs : Option (List Nat)) (K : Env -> Prop) (ns : List ar) (t : Nat) (_ : Tag (hs,K,ns)) (e : Env) (R : List Nat) (acc : List (List Nat × List Nat)) (sz : Nat) (W : List (List D)) (ds : List D) (q : Nat × D) : Prop :=
 ∃ es' : List (List D),(∀ e ∈ es',e.length=sz /\ ∀ c ∈ e,aW c=true) /\ C g (.own sz W::ds) .any [.own sz es',.nils,.nils] /\ doW C hs K ns ⟨⟩ e R acc [(t,.ref (.r (rt t 0)) 0 es'.length),(rt t 0,.blk sz es'),q] [(rt t 0,true)]
theorem vZ {g : Nat} {hs : Option (List Nat)} {K : Env -> Prop} {ns : List ar} {t : Nat} {u : Tag (hs,K,ns)} {e : Env} {R : List Nat} {acc : List (List Nat × List Nat)} {sz : Nat} {W es' : List (List D)} {ds : List D} {q : Nat × D} (h : C g (.own sz W::ds) .any [.own sz es',.nils,.nils]) (hu : ∀ e ∈ es',e.length=sz /\ ∀ c ∈ e,aW c=true)
  (hk : doW C hs K ns ⟨⟩ e R acc [(t,.ref (.r (rt t 0)) 0 es'.length),(rt t 0,.blk sz es'),q] [(rt t 0,true)]) : tG C g hs K ns t u e R acc sz W ds q:=⟨es',hu,h,hk⟩
def tF (C : CC) (g : Nat) (hs : Option (List Nat)) (K : Env -> Prop) (ns : List ar) (t : Nat) (_ : Tag (hs,K,ns)) (e : Env) (R : List Nat) (acc : List (List Nat × List Nat)) (xs : List Opd) (d : D) : Prop:=match d with
 | .ref (.r b) k n=>dX (ab e b) (fun sz es=>k + n <= es.length /\ b ≠ rt t 0 /\ 0 < sz /\ (∀ e ∈ (es.drop k).take n,∀ c ∈ e,aW c=true) /\ (∀ x ∈ xs,kQ (ab e) b x) /\ tG C g hs K ns t ⟨⟩ e R acc sz ((es.drop k).take n) (xs.map (jz (ab e))) (b,.any)) ⟨⟩
 | .ref (.n b i o) k n=>dX (ab e b) (fun sz0 es0=>iu es0[i]? (fun row0=>lX row0[o]? (fun sz es=>k + n <= es.length /\ b ≠ rt t 0 /\ 0 < sz /\ (∀ e ∈ (es.drop k).take n,∀ c ∈ e,aW c=true) /\ (∀ x ∈ xs,kQ (ab e) b x) /\
   tG C g hs K ns t ⟨⟩ e R acc sz ((es.drop k).take n) (xs.map (jz (ab e))) (b,.blk sz0 (bC es0 i o 1 [.any]))) ⟨⟩) ⟨⟩) ⟨⟩
 | _=>False
@[simp] theorem Qo {g xs t b k n} : tF C g hs K ns t u e R acc xs (.ref (.r b) k n)=dX (ab e b) (fun sz es=>k + n <= es.length /\ b ≠ rt t 0 /\ 0 < sz /\ (∀ e ∈ (es.drop k).take n,∀ c ∈ e,aW c=true) /\ (∀ x ∈ xs,kQ (ab e) b x) /\ tG C g hs K ns t ⟨⟩ e R acc sz ((es.drop k).take n) (xs.map (jz (ab e))) (b,.any)) ⟨⟩:=zR
@[simp] theorem Qn {g xs t b i o k n} : tF C g hs K ns t u e R acc xs (.ref (.n b i o) k n)=dX (ab e b) (fun sz0 es0=>iu es0[i]? (fun row0=>lX row0[o]? (fun sz es=>k + n <= es.length /\ b ≠ rt t 0 /\ 0 < sz /\ (∀ e ∈ (es.drop k).take n,∀ c ∈ e,aW c=true) /\ (∀ x ∈ xs,kQ (ab e) b x) /\
   tG C g hs K ns t ⟨⟩ e R acc sz ((es.drop k).take n) (xs.map (jz (ab e))) (b,.blk sz0 (bC es0 i o 1 [.any]))) ⟨⟩) ⟨⟩) ⟨⟩:=zR
@[simp] theorem E7 {g x xs t v1} : opW C hs K ns (some t) (.callE g x xs) v1 e R acc=tF C g hs K ns t ⟨⟩ e R acc xs (vd (ab e) x):=by
 unfold opW
 simp only [aD]
 cases vd (ab e) x <;> try rfl
 rename_i p k n
 cases p with
 | r b =>
  simp only [tF,dX,bm,Pa.root,cM]
  cases ab e b <;> rfl
 | n b i o =>
  simp only [tF,dX,ib,kZ,bm,Pa.root,cM]
  cases hl : ab e b <;> try rfl
  rename_i sz0 es0
  simp only
  cases hi : es0[i]? with
  | none=>simp
  | some row0 =>
   simp only [x1y,x0j,exists_eq_left']
   cases ho : row0[o]? with
   | none=>simp
   | some d =>
    cases d
    case own sz es=>exact propext ⟨fun h=>⟨sz,es,rfl,h⟩,fun ⟨sz',es',h0,h⟩=>by cases h0;exact h⟩
    all_goals simp
@[simp] theorem DP {f : Nat -> D} {b k n sz es} : bW f (.ref (.r b) k n) (.own sz es)=(k=0 /\ n=es.length /\ f b=.blk sz es):=zR
@[simp] theorem DN {f : Nat -> D} {b k n sz es} : bW f (.adr (.r b) k n) (.blk sz es)=(k=0 /\ n=0 /\ f b=.blk sz es):=zR
@[simp] theorem DO {f : Nat -> D} {k n r} : bW f (.int k n) r=(r=.int k n):=by simp [bW]
@[simp] theorem AB {f : Nat -> D} {n r} : bW f (.bool n) r=(r=.bool n):=by simp [bW]
@[simp] theorem DQ {f : Nat -> D} {n r} : bW f (.str n) r=(r=.str n):=by simp [bW]
@[simp] theorem AD {f : Nat -> D} {r} : bW f .nils r=(r=.nils):=by simp [bW]
@[simp] theorem AC {f : Nat -> D} {r} : bW f .nilp r=(r=.nilp):=by simp [bW]
@[simp] theorem G5 {f : Nat -> D} {n r} : bW f (.sl n) r=(r=.sl n):=by simp [bW]
@[simp] theorem DM {f : Nat -> D} {n r} : bW f (.agg n) r=(r=.agg n):=by simp [bW]
@[simp] theorem Fw {t d} : bU (some t) d=[(t,d)]:=zR
@[simp] theorem Fv {d} : bU none d=[]:=zR
@[simp] theorem Ca {t} : zK (some t)=[(t,.tup [])]:=zR
@[simp] theorem B9 : zK none=[]:=zR
@[simp] theorem E8 {g xs t v1} : opW C hs K ns (some t) (.callF g xs) v1 e R acc=((∀ x ∈ xs,bu (ab e) (vd (ab e) x)) /\ tr C g hs K ns t ⟨⟩ e R acc (xs.map (dpv (ab e)))):=zR
@[simp] theorem JV {g xs x0 v1} : opW C hs K ns dst (.call g xs x0) v1 e R acc=((∀ x ∈ xs,bu (ab e) (vd (ab e) x)) /\ oJ C g hs K ns dst ⟨⟩ e R acc (xs.all fun x=>isV (vd (ab e) x)) (xs.map (dpv (ab e)))):=zR
def jA (C : CC) (hs : Option (List Nat)) (K : Env -> Prop) (ns : List ar) (t : Nat) (_ : Tag (hs,K,ns)) (e : Env) (R : List Nat) (acc : List (List Nat × List Nat)) (d : D) : Prop:=match d with
 | .ref (.r c) k n=>if c=rt t 0 then doW C hs K ns ⟨⟩ e R acc [(t,.ref (.r c) k n)] [] else match ab e c with
  | .blk sz es=>doW C hs K ns ⟨⟩ e R acc [(t,.ref (.r (rt t 0)) k n),(rt t 0,.blk sz es),(c,.any)] [(rt t 0,true)]
  | _=>False
 | d=>isS d=true /\ doW C hs K ns ⟨⟩ e R acc [(t,d)] []
@[simp] theorem Pd {t x v1} : opW C hs K ns (some t) (.asg x) v1 e R acc=jA C hs K ns t ⟨⟩ e R acc (vd (ab e) x):=zR
@[simp] theorem FU {t c k n} : jA C hs K ns t u e R acc (.ref (.r c) k n)=(if c=rt t 0 then doW C hs K ns ⟨⟩ e R acc [(t,.ref (.r c) k n)] [] else match ab e c with
  | .blk sz es=>doW C hs K ns ⟨⟩ e R acc [(t,.ref (.r (rt t 0)) k n),(rt t 0,.blk sz es),(c,.any)] [(rt t 0,true)]
  | _=>False):=zR
@[simp] theorem CR {t b i o k n} : jA C hs K ns t u e R acc (.ref (.n b i o) k n)=doW C hs K ns ⟨⟩ e R acc [(t,.ref (.n b i o) k n)] []:=by simp [jA]
@[simp] theorem CQ {t} : jA C hs K ns t u e R acc .nils=doW C hs K ns ⟨⟩ e R acc [(t,.nils)] []:=by simp [jA]
@[simp] theorem KP {t es} : jA C hs K ns t u e R acc (.sl es)=doW C hs K ns ⟨⟩ e R acc [(t,.sl es)] []:=by simp [jA]
@[simp] theorem FV {t b es} : jA C hs K ns t u e R acc (slx b es)=doW C hs K ns ⟨⟩ e R acc [(t,slx b es)] []:=by
 rcases fG b es with h | ⟨h,_⟩ <;> rw [h] <;> simp
@[simp] theorem FT {t} : jA C hs K ns t u e R acc .any=doW C hs K ns ⟨⟩ e R acc [(t,.any)] []:=by simp [jA]
@[simp] theorem FW {t ds} : jA C hs K ns t u e R acc (.tup ds)=doW C hs K ns ⟨⟩ e R acc [(t,.tup ds)] []:=by simp [jA]
def wI (C : CC) (hs : Option (List Nat)) (K : Env -> Prop) (ns : List ar) (dst : Option Nat) (_ : Tag (hs,K,ns)) (e : Env) (R : List Nat) (acc : List (List Nat × List Nat)) (c i off : Nat) (d : D) : Prop:=match d with
 | .blk _ es=>∃ r,es[i]? = some r /\ ∃ d,r[off]? = some d /\ dJ dst (kOf C hs K ns e R acc) (ldc (.r c) i off d)
 | _=>False
@[simp] theorem Ja {c i off sz es} : wI C hs K ns dst u e R acc c i off (.blk sz es)=iu es[i]? (fun r=>vP r[off]? (fun d=>dW C hs K ns dst ⟨⟩ e R acc (ldc (.r c) i off d)) ⟨⟩) ⟨⟩:=by
 simp only [wI,ib,vQ];rfl
def Jb (C : CC) (hs : Option (List Nat)) (K : Env -> Prop) (ns : List ar) (dst : Option Nat) (_ : Tag (hs,K,ns)) (e : Env) (R : List Nat) (acc : List (List Nat × List Nat)) (q : Nat) (d : D) : Prop:=match d with
 | .adr (.r c) i off=>off=q /\ wI C hs K ns dst ⟨⟩ e R acc c i off (ab e c)
 | _=>False
@[simp] theorem Jc {q c i off} : Jb C hs K ns dst u e R acc q (.adr (.r c) i off)=(off=q /\ wI C hs K ns dst ⟨⟩ e R acc c i off (ab e c)):=zR
@[simp] theorem Pn {q x v1} : opW C hs K ns dst (.ldQ q x) v1 e R acc=Jb C hs K ns dst ⟨⟩ e R acc q (vd (ab e) x):=zR
def vN (C : CC) (hs : Option (List Nat)) (K : Env -> Prop) (ns : List ar) (t : Nat) (_ : Tag (hs,K,ns)) (e : Env) (R : List Nat) (acc : List (List Nat × List Nat)) (sz by_ : Nat) (rowsY : List (List D)) (c i o k n : Nat) (d : D) : Prop:=match d with
 | .blk sz0 es0=>∃ row0,es0[i]? = some row0 /\ ∃ es,row0[o]? = some (.own sz es) /\ k + n <= es.length /\ (n + rowsY.length) * by_ <= 140737488355328 /\
   kOf C hs K ns e R acc [(t,.ref (.r (rt t 0)) 0 (n + rowsY.length)),(rt t 0,.blk sz ((es.drop k).take n++rowsY)),(c,.blk sz0 (bC es0 i o 1 [.any]))] [(rt t 0,true)]
 | _=>False
@[simp] theorem FP {t sz by_ rowsY c i o k n sz0 es0} : vN C hs K ns t u e R acc sz by_ rowsY c i o k n (.blk sz0 es0)=iu es0[i]? (fun row0=>lX row0[o]? (fun sz' es=>sz'=sz /\ k + n <= es.length /\ (n + rowsY.length) * by_ <= 140737488355328 /\
   doW C hs K ns ⟨⟩ e R acc [(t,.ref (.r (rt t 0)) 0 (n + rowsY.length)),(rt t 0,.blk sz ((es.drop k).take n++rowsY)),(c,.blk sz0 (bC es0 i o 1 [.any]))] [(rt t 0,true)]) ⟨⟩) ⟨⟩:=by
 simp only [vN,ib,kZ]
 refine propext ⟨?_,?_⟩
 ·rintro ⟨row0,h1,es,h2,h3,h4,h5⟩
  exact ⟨row0,h1,sz,es,h2,rfl,h3,h4,h5⟩
 ·rintro ⟨row0,h1,sz',es,h2,rfl,h3,h4,h5⟩
  exact ⟨row0,h1,es,h2,h3,h4,h5⟩
def FQ (C : CC) (hs : Option (List Nat)) (K : Env -> Prop) (ns : List ar) (t : Nat) (_ : Tag (hs,K,ns)) (e : Env) (R : List Nat) (acc : List (List Nat × List Nat)) (q sz by_ : Nat) (yd : D) (d : D) : Prop:=match d with
 | .ref (.n c i o') k n=>o'=q /\ ek (ab e) false yd sz fun rowsY bs=>bs=[] /\ c ≠ rt t 0 /\ vN C hs K ns t ⟨⟩ e R acc sz by_ rowsY c i o' k n (ab e c)
 | _=>False
@[simp] theorem FR {t q sz by_ yd c i o k n} : FQ C hs K ns t u e R acc q sz by_ yd (.ref (.n c i o) k n)=(o=q /\ gL (ab e) false yd sz (fun rowsY bs=>bs=[] /\ c ≠ rt t 0 /\ vN C hs K ns t ⟨⟩ e R acc sz by_ rowsY c i o k n (ab e c)) ⟨⟩):=zR
@[simp] theorem JS {t q sz by_ x y v1} : opW C hs K ns (some t) (.appQ q sz by_ x y) v1 e R acc=FQ C hs K ns t ⟨⟩ e R acc q sz by_ (vd (ab e) y) (vd (ab e) x):=zR
def Aj (C : CC) (hs : Option (List Nat)) (K : Env -> Prop) (ns : List ar) (t : Nat) (_ : Tag (hs,K,ns)) (e : Env) (R : List Nat) (acc : List (List Nat × List Nat)) (sz : Nat) (rows : List (List D)) (b k n : Nat) (d : D) : Prop:=match d with
 | .blk sz' es=>sz'=sz /\ k + n <= es.length /\ (∀ e ∈ es,∀ c ∈ e,aC c=true) /\ (∀ e ∈ rows,∀ c ∈ e,aC c=true) /\ kOf C hs K ns e R acc [(t,.int .i64 (min rows.length n : Nat)),(b,.blk sz (gh es k (rows.take n)))] []
 | _=>False
@[simp] theorem Gh {t sz rows b k n sz' es} : Aj C hs K ns t u e R acc sz rows b k n (.blk sz' es)=(sz'=sz /\ k + n <= es.length /\ (∀ e ∈ es,∀ c ∈ e,aC c=true) /\ (∀ e ∈ rows,∀ c ∈ e,aC c=true) /\ doW C hs K ns ⟨⟩ e R acc [(t,.int .i64 (min rows.length n : Nat)),(b,.blk sz (gh es k (rows.take n)))] []):=zR
def Gi (C : CC) (hs : Option (List Nat)) (K : Env -> Prop) (ns : List ar) (t : Nat) (_ : Tag (hs,K,ns)) (e : Env) (R : List Nat) (acc : List (List Nat × List Nat)) (sz : Nat) (rows : List (List D)) (d : D) : Prop:=match d with
 | .ref (.r b) k n=>(n=0 -> kOf C hs K ns e R acc [(t,.int .i64 0)] []) /\ (0 < n -> Aj C hs K ns t ⟨⟩ e R acc sz rows b k n (ab e b))
 | _=>False
@[simp] theorem Gj {t sz rows b k n} : Gi C hs K ns t u e R acc sz rows (.ref (.r b) k n)=((n=0 -> doW C hs K ns ⟨⟩ e R acc [(t,.int .i64 0)] []) /\ (0 < n -> Aj C hs K ns t ⟨⟩ e R acc sz rows b k n (ab e b))):=zR
@[simp] theorem Pj {t sz x y v1} : opW C hs K ns (some t) (.cpy sz x y) v1 e R acc=gL (ab e) false (vd (ab e) y) sz (fun rows bs=>bs=[] /\ 0 < rows.length /\ Gi C hs K ns t ⟨⟩ e R acc sz rows (vd (ab e) x)) ⟨⟩:=zR
def BQ (C : CC) (hs : Option (List Nat)) (K : Env -> Prop) (ns : List ar) (t : Nat) (_ : Tag (hs,K,ns)) (e : Env) (R : List Nat) (acc : List (List Nat × List Nat)) (len sz c : Nat) (d : D) : Prop:=match d with
 | .blk _ [row]=>0 < len /\ 0 < sz /\ row.length=len * sz /\ (∀ d ∈ row,aC d=true) /\ doW C hs K ns ⟨⟩ e R acc [(t,.ref (.r (rt t 0)) 0 len),(rt t 0,.blk sz (bL sz len row)),(c,.any)] [(rt t 0,true)]
 | _=>False
@[simp] theorem Ku {t len sz c sz0 row} : BQ C hs K ns t u e R acc len sz c (.blk sz0 [row])=(0 < len /\ 0 < sz /\ row.length=len * sz /\ (∀ d ∈ row,aC d=true) /\ doW C hs K ns ⟨⟩ e R acc [(t,.ref (.r (rt t 0)) 0 len),(rt t 0,.blk sz (bL sz len row)),(c,.any)] [(rt t 0,true)]):=zR
def Kv (C : CC) (hs : Option (List Nat)) (K : Env -> Prop) (ns : List ar) (t : Nat) (_ : Tag (hs,K,ns)) (e : Env) (R : List Nat) (acc : List (List Nat × List Nat)) (len sz : Nat) (d : D) : Prop:=match d with
 | .adr (.r c) i off=>i=0 /\ off=0 /\ c ≠ rt t 0 /\ BQ C hs K ns t ⟨⟩ e R acc len sz c (ab e c)
 | _=>False
@[simp] theorem Kw {t len sz c i off} : Kv C hs K ns t u e R acc len sz (.adr (.r c) i off)=(i=0 /\ off=0 /\ c ≠ rt t 0 /\ BQ C hs K ns t ⟨⟩ e R acc len sz c (ab e c)):=zR
@[simp] theorem Px {len sz x t v1} : opW C hs K ns (some t) (.slM len sz x) v1 e R acc=Kv C hs K ns t ⟨⟩ e R acc len sz (vd (ab e) x):=zR
def f7 (C : CC) (hs : Option (List Nat)) (K : Env -> Prop) (ns : List ar) (dst : Option Nat) (_ : Tag (hs,K,ns)) (e : Env) (R : List Nat) (acc : List (List Nat × List Nat)) (d : D) : Prop:=match d with
 | .agx ds=>dW C hs K ns dst ⟨⟩ e R acc (.ptx ds)
 | .agg ds=>dW C hs K ns dst ⟨⟩ e R acc (.ptr ds)
 | d=>aC d=true /\ dW C hs K ns dst ⟨⟩ e R acc (.ptr [d])
@[simp] theorem Ae {ds : List D} : da (.agg ds)=ds:=zR
@[simp] theorem Af {k n} : da (.int k n)=[.int k n]:=zR
@[simp] theorem Ag {n} : da (.str n)=[.str n]:=zR
@[simp] theorem yu {n} : da (.bool n)=[.bool n]:=zR
@[simp] theorem Dh {n} : da (.sl n)=[.sl n]:=zR
@[simp] theorem DJ {f : Nat -> D} {es} : fy f [] es=es:=zR
@[simp] theorem At {f : Nat -> D} {p ps es} : fy f (p::ps) es=fy f ps (es.set p.1 (da (vd f p.2))):=zR
@[simp] theorem JT {sz len zs parts v1} : opW C hs K ns dst (.blsF sz len zs parts) v1 e R acc=((∀ p ∈ parts,p.1 < len /\ (da (vd (ab e) p.2)).length=sz /\ ∀ c ∈ da (vd (ab e) p.2),aC c=true) /\ 0 < len /\
   (∀ r ∈ fy (ab e) parts (List.replicate len zs),∀ c ∈ r,aC c=true) /\ dW C hs K ns dst ⟨⟩ e R acc (.sl (fy (ab e) parts (List.replicate len zs)))):=zR
attribute [simp] Ah
@[simp] theorem JU {x v1} : opW C hs K ns dst (.boxF x) v1 e R acc=f7 C hs K ns dst ⟨⟩ e R acc (vd (ab e) x):=zR
@[simp] theorem F3 {ds} : f7 C hs K ns dst u e R acc (.agx ds)=dW C hs K ns dst ⟨⟩ e R acc (.ptx ds):=zR
@[simp] theorem F2 {ds} : f7 C hs K ns dst u e R acc (.agg ds)=dW C hs K ns dst ⟨⟩ e R acc (.ptr ds):=zR
@[simp] theorem F4 {k n} : f7 C hs K ns dst u e R acc (.int k n)=dW C hs K ns dst ⟨⟩ e R acc (.ptr [.int k n]):=by simp [f7]
@[simp] theorem CS {n} : f7 C hs K ns dst u e R acc (.bool n)=dW C hs K ns dst ⟨⟩ e R acc (.ptr [.bool n]):=by simp [f7]
@[simp] theorem F7 {n} : f7 C hs K ns dst u e R acc (.str n)=dW C hs K ns dst ⟨⟩ e R acc (.ptr [.str n]):=by simp [f7]
@[simp] theorem CT : f7 C hs K ns dst u e R acc .nils=dW C hs K ns dst ⟨⟩ e R acc (.ptr [.nils]):=by simp [f7]
@[simp] theorem KV {es} : f7 C hs K ns dst u e R acc (.sl es)=dW C hs K ns dst ⟨⟩ e R acc (.ptr [.sl es]):=by simp [f7]
@[simp] theorem F6 {b es} : f7 C hs K ns dst u e R acc (slx b es)=dW C hs K ns dst ⟨⟩ e R acc (.ptr [slx b es]):=by
 rcases fG b es with h | ⟨h,_⟩ <;> rw [h] <;> simp
@[simp] theorem F5 {es} : f7 C hs K ns dst u e R acc (.ptr es)=dW C hs K ns dst ⟨⟩ e R acc (.ptr [.ptr es]):=by simp [f7]
@[simp] theorem KU {g es} : f7 C hs K ns dst u e R acc (.fn g es)=dW C hs K ns dst ⟨⟩ e R acc (.ptr [.fn g es]):=by simp [f7]
@[simp] theorem Po {x v1} : opW C hs K ns dst (.len x) v1 e R acc=qm (vd (ab e) x) (fun n=>dW C hs K ns dst ⟨⟩ e R acc (.int .i64 n)) ⟨⟩:=by
 show res (ab e) _ (.len x)=_
 simp only [res,qm]
 cases vd (ab e) x <;> rfl
def qh (C : CC) (hs : Option (List Nat)) (K : Env -> Prop) (ns : List ar) (dst : Option Nat) (_ : Tag (hs,K,ns)) (e : Env) (R : List Nat) (acc : List (List Nat × List Nat)) (sz : Nat) (x i : D) : Prop:=match (generalizing:=false) x,i with
  | .sl es,.int _ j=>0 <= j /\ f8 C hs K ns dst ⟨⟩ e R acc sz es j.toNat
  | .slv _ es,.int _ j=>0 <= j /\ f8 C hs K ns dst ⟨⟩ e R acc sz es j.toNat
  | .rfx n sz' ds,.int _ j=>0 <= j /\ j.toNat < n /\ sz'=sz /\ dW C hs K ns dst ⟨⟩ e R acc (.ptx (ds.drop (j.toNat * sz)))
  | .ref p k n,.int _ j=>0 <= j /\ j.toNat < n /\ match (generalizing:=false) bm (ab e) p with
   | some (sz',_)=>sz'=sz /\ dW C hs K ns dst ⟨⟩ e R acc (.adr p (k + j.toNat) 0)
   | none=>False
  | _,_=>False
@[simp] theorem JY {sz x i v1} : opW C hs K ns dst (.iadS sz x i) v1 e R acc=qh C hs K ns dst ⟨⟩ e R acc sz (vd (ab e) x) (vd (ab e) i):=zR
@[simp] theorem G7 {sz sz' n ds k j} : qh C hs K ns dst u e R acc sz (.rfx n sz' ds) (.int k j)=(0 <= j /\ j.toNat < n /\ sz'=sz /\ dW C hs K ns dst ⟨⟩ e R acc (.ptx (ds.drop (j.toNat * sz)))):=zR
@[simp] theorem LI {sz es k j} : qh C hs K ns dst u e R acc sz (.sl es) (.int k j)=(0 <= j /\ f8 C hs K ns dst ⟨⟩ e R acc sz es j.toNat):=zR
@[simp] theorem G8 {sz q es k j} : qh C hs K ns dst u e R acc sz (.slv q es) (.int k j)=(0 <= j /\ f8 C hs K ns dst ⟨⟩ e R acc sz es j.toNat):=zR
@[simp] theorem G9 {sz b es k j} : qh C hs K ns dst u e R acc sz (slx b es) (.int k j)=(0 <= j /\ f8 C hs K ns dst ⟨⟩ e R acc sz es j.toNat):=by
 rcases fG b es with h | ⟨h,rfl⟩
 ·rw [h];rfl
 ·rw [h];simp [qh,f8]
@[simp] theorem G6 {sz p k n k' j} : qh C hs K ns dst u e R acc sz (.ref p k n) (.int k' j)=(0 <= j /\ j.toNat < n /\ match (generalizing:=false) bm (ab e) p with
   | some (sz',_)=>sz'=sz /\ dW C hs K ns dst ⟨⟩ e R acc (.adr p (k + j.toNat) 0)
   | none=>False):=zR
def xq (C : CC) (hs : Option (List Nat)) (K : Env -> Prop) (ns : List ar) (dst : Option Nat) (_ : Tag (hs,K,ns)) (e : Env) (R : List Nat) (acc : List (List Nat × List Nat)) (sz : Nat) (x : D) (lo hi : Option Opd) : Prop:=match (generalizing:=false) x with
  | .sl es=>(∀ e ∈ es,e.length=sz) /\ dz (ab e) hi es.length (fun h=>dz (ab e) lo 0 (fun l=>l <= h /\ h <= es.length /\ dW C hs K ns dst ⟨⟩ e R acc (.sl ((es.take h).drop l))) ⟨⟩) ⟨⟩
  | .nils=>dz (ab e) hi 0 (fun h=>dz (ab e) lo 0 (fun l=>l <= h /\ h <= 0 /\ dW C hs K ns dst ⟨⟩ e R acc (.sl [])) ⟨⟩) ⟨⟩
  | .ref p k n=>match (generalizing:=false) bm (ab e) p with
   | some (sz',_)=>sz'=sz /\ dz (ab e) hi n (fun h=>dz (ab e) lo 0 (fun l=>l <= h /\ h <= n /\ dW C hs K ns dst ⟨⟩ e R acc (.ref p (k + l) (h - l))) ⟨⟩) ⟨⟩
   | none=>False
  | _=>False
@[simp] theorem Py {sz x lo hi v1} : opW C hs K ns dst (.slc sz x lo hi) v1 e R acc=xq C hs K ns dst ⟨⟩ e R acc sz (vd (ab e) x) lo hi:=zR
@[simp] theorem PD {sz es lo hi} : xq C hs K ns dst u e R acc sz (.sl es) lo hi=((∀ e ∈ es,e.length=sz) /\ dz (ab e) hi es.length (fun h=>dz (ab e) lo 0 (fun l=>l <= h /\ h <= es.length /\ dW C hs K ns dst ⟨⟩ e R acc (.sl ((es.take h).drop l))) ⟨⟩) ⟨⟩):=zR
@[simp] theorem Fu {sz lo hi} : xq C hs K ns dst u e R acc sz .nils lo hi=dz (ab e) hi 0 (fun h=>dz (ab e) lo 0 (fun l=>l <= h /\ h <= 0 /\ dW C hs K ns dst ⟨⟩ e R acc (.sl [])) ⟨⟩) ⟨⟩:=zR
@[simp] theorem Kt {sz p k n lo hi} : xq C hs K ns dst u e R acc sz (.ref p k n) lo hi=(match (generalizing:=false) bm (ab e) p with
   | some (sz',_)=>sz'=sz /\ dz (ab e) hi n (fun h=>dz (ab e) lo 0 (fun l=>l <= h /\ h <= n /\ dW C hs K ns dst ⟨⟩ e R acc (.ref p (k + l) (h - l))) ⟨⟩) ⟨⟩
   | none=>False):=zR
@[simp] theorem Fd {x xs v1} : opW C hs K ns dst (.callv x xs) v1 e R acc=(match (generalizing:=false) vd (ab e) x with
  | .fn g cs=>(∀ x ∈ xs,bu (ab e) (vd (ab e) x)) /\ oJ C g hs K ns dst ⟨⟩ e R acc (xs.all fun x=>isV (vd (ab e) x)) (xs.map (dpv (ab e))++cs)
  | .fnx g cs=>(∀ x ∈ xs,bu (ab e) (vd (ab e) x)) /\ (∀ c ∈ cs,aU (ab e) c) /\ oJ C g hs K ns dst ⟨⟩ e R acc false (xs.map (dpv (ab e))++cs.map (dp1 (ab e)))
  | _=>False):=by
 simp only [opW,aD,oJ,dJ,x0i,or_false]
 cases vd (ab e) x <;> rfl
def mpT (x : D) (K : Nat -> Nat -> List D -> List D -> Prop) (_ : Tag K) : Prop:=match x with
 | .mp kt et ks vs=>K kt et ks vs
 | _=>False
@[simp] theorem QY {kt et ks vs K u} : mpT (.mp kt et ks vs) K u=K kt et ks vs:=zR
@[simp] theorem Pq {kt et t v1} : opW C hs K ns (some t) (.mkm kt et) v1 e R acc=doW C hs K ns ⟨⟩ e R acc [(t,.mrf (rt t 0)),(rt t 0,.mp kt et [] [])] [(rt t 0,true)]:=zR
def mlM (C : CC) (hs : Option (List Nat)) (K : Env -> Prop) (ns : List ar) (dst : Option Nat) (_ : Tag (hs,K,ns)) (e : Env) (R : List Nat) (acc : List (List Nat × List Nat)) (sh : KSh) (kt et : Nat) (ok : Bool) (z x m : D) : Prop:=match m with
 | .mrf b=>mpT (ab e b) (fun kt' et' ks vs=>kt'=kt /\ et'=et /\ cS sh x /\ match ok with
    | true=>dW C hs K ns dst ⟨⟩ e R acc (.tup [(cU ks vs x).getD z,.bool (cU ks vs x).isSome])
    | false=>dW C hs K ns dst ⟨⟩ e R acc ((cU ks vs x).getD z)) ⟨⟩
 | _=>False
@[simp] theorem OX {sh kt et ok z x b} : mlM C hs K ns dst u e R acc sh kt et ok z x (.mrf b)=mpT (ab e b) (fun kt' et' ks vs=>kt'=kt /\ et'=et /\ cS sh x /\ match ok with
    | true=>dW C hs K ns dst ⟨⟩ e R acc (.tup [(cU ks vs x).getD z,.bool (cU ks vs x).isSome])
    | false=>dW C hs K ns dst ⟨⟩ e R acc ((cU ks vs x).getD z)) ⟨⟩:=zR
@[simp] theorem Pt {sh kt et ok z m x v1} : opW C hs K ns dst (.mpl sh kt et ok z m x) v1 e R acc=mlM C hs K ns dst ⟨⟩ e R acc sh kt et ok z (vd (ab e) x) (vd (ab e) m):=by
 show res (ab e) _ (.mpl sh kt et ok z m x)=_
 simp only [res,mlM]
 cases vd (ab e) m <;> rfl
def muM (C : CC) (hs : Option (List Nat)) (K : Env -> Prop) (ns : List ar) (_ : Tag (hs,K,ns)) (e : Env) (R : List Nat) (acc : List (List Nat × List Nat)) (sh : KSh) (kt et : Nat) (z x v m : D) : Prop:=match m with
 | .mrf b=>mpT (ab e b) (fun kt' et' ks vs=>kt'=kt /\ et'=et /\ ks.length < maxLen /\ cS sh x /\ gi z v /\ doW C hs K ns ⟨⟩ e R acc [(b,.mp kt et (x::ks) (v::vs))] []) ⟨⟩
 | _=>False
@[simp] theorem OY {sh kt et z x v b} : muM C hs K ns u e R acc sh kt et z x v (.mrf b)=mpT (ab e b) (fun kt' et' ks vs=>kt'=kt /\ et'=et /\ ks.length < maxLen /\ cS sh x /\ gi z v /\ doW C hs K ns ⟨⟩ e R acc [(b,.mp kt et (x::ks) (v::vs))] []) ⟨⟩:=zR
@[simp] theorem Pu {sh kt et z m x v v1} : opW C hs K ns dst (.mpu sh kt et z m x v) v1 e R acc=(dst=none /\ muM C hs K ns ⟨⟩ e R acc sh kt et z (vd (ab e) x) (vd (ab e) v) (vd (ab e) m)):=by
 show (dst=none /\ _)=_
 congr 1
end
@[simp] theorem AO {s} : cS .str (.str s)=(s.length <= maxLen):=zR
@[simp] theorem yH {b} : cS .bool (.bool b)=True:=zR
@[simp] theorem AN {q q' n} : cS (.int q) (.int q' n)=(q'=q /\ o5 q n):=zR
@[simp] theorem yI {q n ds} : cS (.ints q n) (.agg ds)=(ds.length=n /\ ∀ d ∈ ds,∃ x,d=.int q x /\ o5 q x):=zR
@[simp] theorem DI {s z} : gi (.str z) (.str s)=(s.length <= maxLen):=zR
@[simp] theorem Ao {b z} : gi (.bool z) (.bool b)=True:=zR
@[simp] theorem DH {q q' n z} : gi (.int q z) (.int q' n)=(q'=q /\ o5 q n):=zR
@[simp] theorem Hj {n : Int} : o5 .i64 n=(-9223372036854775808 <= n /\ n <= 9223372036854775807):=by
 have e1 : IntKind.i64.min=-9223372036854775808:=rfl
 have e2 : IntKind.i64.max=9223372036854775807:=rfl
 simp [o5,Lit.wf,e1,e2]
attribute [simp] jV gx cq kA cR bM bT kB By okR px kz cx
attribute [simp] vd params eg iJ iK iI lz md uK prune jv isC gn bm Rb bC dpv b7 stK bg rt chk rdS rdR frR fwR fj rdN gj wrK mnR BA ldN af gH oX wOk Pa.root b9 bA
end Go.Gv

namespace Go.Gv
section
variable {C : CC}
def BB (id : Nat) (S : Type) (G : S -> Env) (J : S -> Prop) (Q : ci -> Env -> Prop) : ci -> Env -> Prop:=fun t e=>match t with
 | .ext i=>if i=id then ∃ s,J s /\ jv e (G s) else Q (.ext i) e
 | t=>Q t e
variable {Q : ci -> Env -> Prop} {e : Env}
@[simp] theorem wk {id S G J u} : bG (BB id S G J Q) u .nrm e=bG Q ⟨⟩ .nrm e:=zR
@[simp] theorem wl {id S G J u} : bG (BB id S G J Q) u .ret e=bG Q ⟨⟩ .ret e:=zR
@[simp] theorem wj {id S G J u i} : bG (BB id S G J Q) u (.ext i) e=if i=id then ∃ s,J s /\ jv e (G s) else bG Q ⟨⟩ (.ext i) e:=zR
def A1 (S : Type) (G : S -> Env) (J : S -> Prop) (Q : ci -> Env -> Prop) : ci -> Env -> Prop:=fun t e=>match t with
 | .nrm=>∃ s,J s /\ jv e (G s)
 | t=>Q t e
@[simp] theorem wg {S G J u} : bG (A1 S G J Q) u .nrm e=∃ s,J s /\ jv e (G s):=zR
@[simp] theorem wh {S G J u} : bG (A1 S G J Q) u .ret e=bG Q ⟨⟩ .ret e:=zR
@[simp] theorem we {S G J u i} : bG (A1 S G J Q) u (.ext i) e=bG Q ⟨⟩ (.ext i) e:=zR
end
@[simp] theorem Km {C : CC} {hs : Option (List Nat)} {K : Env -> Prop} {ns : List ar} {dst : Option Nat} {u : Tag (hs,K,ns)} {e : Env} {R : List Nat} {acc : List (List Nat × List Nat)} {α : Type} [Inhabited α] {n : Nat} {ag : Bool} {p : Pa} {xs : List α} {f : α -> List D} {i off : Nat} :
  jZ C hs K ns dst u e R acc n ag p (xs.map f) i off=(i < xs.length /\ off + n <= (f xs[i]!).length /\ match ag with
    | true=>((((f xs[i]!).drop off).take n).all isV=true -> dW C hs K ns dst ⟨⟩ e R acc (.agg (((f xs[i]!).drop off).take n))) /\
      ((((f xs[i]!).drop off).take n).all isV=false -> dW C hs K ns dst ⟨⟩ e R acc (.agx ((((f xs[i]!).drop off).take n).mapIdx fun j c=>ldc p i (off + j) c)))
    | false=>dW C hs K ns dst ⟨⟩ e R acc (ldc p i off (((f xs[i]!).drop off).headD .any))):=by
 apply propext
 constructor
 ·rintro ⟨r,h,h1,h2⟩
  rw [x0x,x0h] at h
  obtain ⟨x,hx,rfl⟩:=h
  obtain ⟨hi,rfl⟩:=x0c.1 hx
  rw [x0Z xs i hi]
  refine ⟨hi,h1,?_⟩
  cases ag <;> exact h2
 ·rintro ⟨hi,h1,h2⟩
  rw [x0Z xs i hi] at h1 h2
  refine ot (r:=f xs[i]) (by rw [x0x,x0d hi];rfl) h1 ?_
  cases ag <;> exact h2
@[simp] theorem EC {b all ks n} : aQ ((b,all)::ks) (.ptx n)=if n.any (aA b all) then .any else aQ ks (.ptx n):=by
 have h : aQ ((b,all)::ks) (.ptx n)=bif (n.any (aA b all) || aF ks (.ptx n)) then .any else .ptx n:=bv ..
 rw [h,bv]
 cases n.any (aA b all) <;> rfl
@[simp] theorem EE {b all ks k sz n} : aQ ((b,all)::ks) (.rfx k sz n)=if n.any (aA b all) then .any else aQ ks (.rfx k sz n):=by
 have h : aQ ((b,all)::ks) (.rfx k sz n)=bif (n.any (aA b all) || aF ks (.rfx k sz n)) then .any else .rfx k sz n:=bv ..
 rw [h,bv]
 cases n.any (aA b all) <;> rfl
@[simp] theorem EI {b all ks n} : aQ ((b,all)::ks) (.tpx n)=if n.any (aA b all) then .any else aQ ks (.tpx n):=by
 have h : aQ ((b,all)::ks) (.tpx n)=bif (n.any (aA b all) || aF ks (.tpx n)) then .any else .tpx n:=bv ..
 rw [h,bv]
 cases n.any (aA b all) <;> rfl
@[simp] theorem EW {b all n es} : aA b all (slx n es)=false:=by cases n <;> cases es <;> rfl
@[simp] theorem EU {b all p k n} : aA b all (.ref p k n)=bg b all p:=zR
@[simp] theorem EO {b all p k n} : aA b all (.adr p k n)=bg b all p:=zR
@[simp] theorem EP {b all T p k n} : aA b all (.ifa T p k n)=bg b all p:=zR
@[simp] theorem EQ {b all T n} : aA b all (.ifi T n)=false:=zR
@[simp] theorem EV {b all k n} : aA b all (.slv k n)=false:=zR
@[simp] theorem ES {b all c} : aA b all (.mrf c)=(all && c == b):=zR
@[simp] theorem ER {b all k n} : aA b all (.int k n)=false:=zR
@[simp] theorem AY {b all n} : aA b all (.bool n)=false:=zR
@[simp] theorem EX {b all n} : aA b all (.str n)=false:=zR
@[simp] theorem A0 {b all} : aA b all .nils=false:=zR
@[simp] theorem AZ {b all} : aA b all .nilp=false:=zR
@[simp] theorem Jj {b all n} : aA b all (.sl n)=false:=zR
@[simp] theorem ET {b all n} : aA b all (.ptr n)=false:=zR
@[simp] theorem Ji {b all g n} : aA b all (.fn g n)=false:=zR
@[simp] theorem Ez {b all ks c} : aQ ((b,all)::ks) (.mrf c)=if (all && c == b) then .any else aQ ks (.mrf c):=by
 have h : aQ ((b,all)::ks) (.mrf c)=bif ((all && c == b) || aF ks (.mrf c)) then .any else .mrf c:=bv ..
 rw [h,bv]
 cases all && c == b <;> rfl
end Go.Gv

namespace Go.Gv
section
variable {C : CC} {hs : Option (List Nat)} {K : Env -> Prop} {ns : List ar} {dst : Option Nat} {u : Tag (hs,K,ns)} {e : Env} {R : List Nat} {acc : List (List Nat × List Nat)}
theorem ay {sz : Nat} {es : List (List D)} {i : Nat} {c : List D} (h : es[i]? = some c) : f8 C hs K ns dst u e R acc sz es i=(c.length=sz /\ dW C hs K ns dst ⟨⟩ e R acc (.ptr c)):=by
 apply propext
 unfold f8 dW
 rw [h]
 exact ⟨fun ⟨_,h1,h2⟩=>by cases h1;exact h2,fun h2=>⟨c,rfl,h2⟩⟩
theorem bx {n : Nat} {ag : Bool} {p : Pa} {es : List (List D)} {i off : Nat} {r : List D} (hr : es[i]? = some r) : jZ C hs K ns dst u e R acc n ag p es i off=(off + n <= r.length /\ match ag with
    | true=>(((r.drop off).take n).all isV=true -> dW C hs K ns dst ⟨⟩ e R acc (.agg ((r.drop off).take n))) /\
      (((r.drop off).take n).all isV=false -> dW C hs K ns dst ⟨⟩ e R acc (.agx (((r.drop off).take n).mapIdx fun j c=>ldc p i (off + j) c)))
    | false=>dW C hs K ns dst ⟨⟩ e R acc (ldc p i off ((r.drop off).headD .any))):=by
 apply propext
 constructor
 ·rintro ⟨r',h,h1,h2⟩
  rw [hr] at h
  cases h
  refine ⟨h1,?_⟩
  cases ag <;> exact h2
 ·rintro ⟨h1,h2⟩
  refine ot hr h1 ?_
  cases ag <;> exact h2
@[simp] theorem Ha {sz : Nat} {c0 : List D} {es : List (List D)} : f8 C hs K ns dst u e R acc sz (c0::es) 0=(c0.length=sz /\ dW C hs K ns dst ⟨⟩ e R acc (.ptr c0)):=ay rfl
theorem uM {n : Nat} {ag : Bool} {p : Pa} {off : Nat} {c0 : List D} {es : List (List D)} : jZ C hs K ns dst u e R acc n ag p (c0::es) 0 off=(off + n <= c0.length /\ match ag with
    | true=>(((c0.drop off).take n).all isV=true -> dW C hs K ns dst ⟨⟩ e R acc (.agg ((c0.drop off).take n))) /\
      (((c0.drop off).take n).all isV=false -> dW C hs K ns dst ⟨⟩ e R acc (.agx (((c0.drop off).take n).mapIdx fun j c=>ldc p 0 (off + j) c)))
    | false=>dW C hs K ns dst ⟨⟩ e R acc (ldc p 0 off ((c0.drop off).headD .any))):=bx rfl
@[simp] theorem Hb {sz : Nat} {c0 c1 : List D} {es : List (List D)} : f8 C hs K ns dst u e R acc sz (c0::c1::es) 1=(c1.length=sz /\ dW C hs K ns dst ⟨⟩ e R acc (.ptr c1)):=ay rfl
theorem uN {n : Nat} {ag : Bool} {p : Pa} {off : Nat} {c0 c1 : List D} {es : List (List D)} : jZ C hs K ns dst u e R acc n ag p (c0::c1::es) 1 off=(off + n <= c1.length /\ match ag with
    | true=>(((c1.drop off).take n).all isV=true -> dW C hs K ns dst ⟨⟩ e R acc (.agg ((c1.drop off).take n))) /\
      (((c1.drop off).take n).all isV=false -> dW C hs K ns dst ⟨⟩ e R acc (.agx (((c1.drop off).take n).mapIdx fun j c=>ldc p 1 (off + j) c)))
    | false=>dW C hs K ns dst ⟨⟩ e R acc (ldc p 1 off ((c1.drop off).headD .any))):=bx rfl
@[simp] theorem Hc {sz : Nat} {c0 c1 c2 : List D} {es : List (List D)} : f8 C hs K ns dst u e R acc sz (c0::c1::c2::es) 2=(c2.length=sz /\ dW C hs K ns dst ⟨⟩ e R acc (.ptr c2)):=ay rfl
theorem uO {n : Nat} {ag : Bool} {p : Pa} {off : Nat} {c0 c1 c2 : List D} {es : List (List D)} : jZ C hs K ns dst u e R acc n ag p (c0::c1::c2::es) 2 off=(off + n <= c2.length /\ match ag with
    | true=>(((c2.drop off).take n).all isV=true -> dW C hs K ns dst ⟨⟩ e R acc (.agg ((c2.drop off).take n))) /\
      (((c2.drop off).take n).all isV=false -> dW C hs K ns dst ⟨⟩ e R acc (.agx (((c2.drop off).take n).mapIdx fun j c=>ldc p 2 (off + j) c)))
    | false=>dW C hs K ns dst ⟨⟩ e R acc (ldc p 2 off ((c2.drop off).headD .any))):=bx rfl
@[simp] theorem Hd {sz : Nat} {c0 c1 c2 c3 : List D} {es : List (List D)} : f8 C hs K ns dst u e R acc sz (c0::c1::c2::c3::es) 3=(c3.length=sz /\ dW C hs K ns dst ⟨⟩ e R acc (.ptr c3)):=ay rfl
theorem uP {n : Nat} {ag : Bool} {p : Pa} {off : Nat} {c0 c1 c2 c3 : List D} {es : List (List D)} : jZ C hs K ns dst u e R acc n ag p (c0::c1::c2::c3::es) 3 off=(off + n <= c3.length /\ match ag with
    | true=>(((c3.drop off).take n).all isV=true -> dW C hs K ns dst ⟨⟩ e R acc (.agg ((c3.drop off).take n))) /\
      (((c3.drop off).take n).all isV=false -> dW C hs K ns dst ⟨⟩ e R acc (.agx (((c3.drop off).take n).mapIdx fun j c=>ldc p 3 (off + j) c)))
    | false=>dW C hs K ns dst ⟨⟩ e R acc (ldc p 3 off ((c3.drop off).headD .any))):=bx rfl
@[simp] theorem He {sz : Nat} {c0 c1 c2 c3 c4 : List D} {es : List (List D)} : f8 C hs K ns dst u e R acc sz (c0::c1::c2::c3::c4::es) 4=(c4.length=sz /\ dW C hs K ns dst ⟨⟩ e R acc (.ptr c4)):=ay rfl
theorem uQ {n : Nat} {ag : Bool} {p : Pa} {off : Nat} {c0 c1 c2 c3 c4 : List D} {es : List (List D)} : jZ C hs K ns dst u e R acc n ag p (c0::c1::c2::c3::c4::es) 4 off=(off + n <= c4.length /\ match ag with
    | true=>(((c4.drop off).take n).all isV=true -> dW C hs K ns dst ⟨⟩ e R acc (.agg ((c4.drop off).take n))) /\
      (((c4.drop off).take n).all isV=false -> dW C hs K ns dst ⟨⟩ e R acc (.agx (((c4.drop off).take n).mapIdx fun j c=>ldc p 4 (off + j) c)))
    | false=>dW C hs K ns dst ⟨⟩ e R acc (ldc p 4 off ((c4.drop off).headD .any))):=bx rfl
attribute [simp] uM uN uO uP uQ
end
end Go.Gv

namespace Go.Gv
section
variable {C : CC} {hs : Option (List Nat)} {K : Env -> Prop} {ns : List ar} {dst : Option Nat} {u : Tag (hs,K,ns)} {e : Env} {R : List Nat} {acc : List (List Nat × List Nat)}
@[simp] theorem Hf {sz : Nat} {c0 c1 c2 c3 c4 c5 : List D} {es : List (List D)} : f8 C hs K ns dst u e R acc sz (c0::c1::c2::c3::c4::c5::es) 5=(c5.length=sz /\ dW C hs K ns dst ⟨⟩ e R acc (.ptr c5)):=ay rfl
@[simp] theorem Kj {n : Nat} {ag : Bool} {p : Pa} {off : Nat} {c0 c1 c2 c3 c4 c5 : List D} {es : List (List D)} : jZ C hs K ns dst u e R acc n ag p (c0::c1::c2::c3::c4::c5::es) 5 off=(off + n <= c5.length /\ match ag with
    | true=>(((c5.drop off).take n).all isV=true -> dW C hs K ns dst ⟨⟩ e R acc (.agg ((c5.drop off).take n))) /\
      (((c5.drop off).take n).all isV=false -> dW C hs K ns dst ⟨⟩ e R acc (.agx (((c5.drop off).take n).mapIdx fun j c=>ldc p 5 (off + j) c)))
    | false=>dW C hs K ns dst ⟨⟩ e R acc (ldc p 5 off ((c5.drop off).headD .any))):=bx rfl
@[simp] theorem Hg {sz : Nat} {c0 c1 c2 c3 c4 c5 c6 : List D} {es : List (List D)} : f8 C hs K ns dst u e R acc sz (c0::c1::c2::c3::c4::c5::c6::es) 6=(c6.length=sz /\ dW C hs K ns dst ⟨⟩ e R acc (.ptr c6)):=ay rfl
@[simp] theorem Kk {n : Nat} {ag : Bool} {p : Pa} {off : Nat} {c0 c1 c2 c3 c4 c5 c6 : List D} {es : List (List D)} : jZ C hs K ns dst u e R acc n ag p (c0::c1::c2::c3::c4::c5::c6::es) 6 off=(off + n <= c6.length /\ match ag with
    | true=>(((c6.drop off).take n).all isV=true -> dW C hs K ns dst ⟨⟩ e R acc (.agg ((c6.drop off).take n))) /\
      (((c6.drop off).take n).all isV=false -> dW C hs K ns dst ⟨⟩ e R acc (.agx (((c6.drop off).take n).mapIdx fun j c=>ldc p 6 (off + j) c)))
    | false=>dW C hs K ns dst ⟨⟩ e R acc (ldc p 6 off ((c6.drop off).headD .any))):=bx rfl
@[simp] theorem Hh {sz : Nat} {c0 c1 c2 c3 c4 c5 c6 c7 : List D} {es : List (List D)} : f8 C hs K ns dst u e R acc sz (c0::c1::c2::c3::c4::c5::c6::c7::es) 7=(c7.length=sz /\ dW C hs K ns dst ⟨⟩ e R acc (.ptr c7)):=ay rfl
@[simp] theorem Kl {n : Nat} {ag : Bool} {p : Pa} {off : Nat} {c0 c1 c2 c3 c4 c5 c6 c7 : List D} {es : List (List D)} : jZ C hs K ns dst u e R acc n ag p (c0::c1::c2::c3::c4::c5::c6::c7::es) 7 off=(off + n <= c7.length /\ match ag with
    | true=>(((c7.drop off).take n).all isV=true -> dW C hs K ns dst ⟨⟩ e R acc (.agg ((c7.drop off).take n))) /\
      (((c7.drop off).take n).all isV=false -> dW C hs K ns dst ⟨⟩ e R acc (.agx (((c7.drop off).take n).mapIdx fun j c=>ldc p 7 (off + j) c)))
    | false=>dW C hs K ns dst ⟨⟩ e R acc (ldc p 7 off ((c7.drop off).headD .any))):=bx rfl
end
end Go.Gv

namespace Go.Gv
section
variable {C : CC} {hs : Option (List Nat)} {K : Env -> Prop} {ns : List ar} {e : Env} {R : List Nat} {acc : List (List Nat × List Nat)}
end
end Go.Gv

namespace Go.Gv
section
variable {C : CC} {hs : Option (List Nat)} {K : Env -> Prop} {ns : List ar} {e : Env} {R : List Nat} {acc : List (List Nat × List Nat)}
end
end Go.Gv

namespace Go.Gv
section
variable {C : CC} {hs : Option (List Nat)} {K : Env -> Prop} {ns : List ar} {dst : Option Nat} {e : Env} {R : List Nat} {acc : List (List Nat × List Nat)} {u : Tag (hs,K,ns)}
@[simp] theorem Fi : mF none=[]:=zR
@[simp] theorem Fj {x : Opd} : mF (some x)=[x]:=zR
@[simp] theorem Kg {c c' k n : Nat} {q : Pa} : jg c q (.ref (.r c') k n)=if c'=c then .ref q k n else .ref (.r c') k n:=zR
@[simp] theorem Fn {c b i o k n : Nat} {q : Pa} : jg c q (.ref (.n b i o) k n)=.ref (.n b i o) k n:=zR
@[simp] theorem PC {c : Nat} {q : Pa} {es} : jg c q (.sl es)=.sl es:=zR
@[simp] theorem Fm {c : Nat} {q : Pa} : jg c q .nils=.nils:=zR
@[simp] theorem Kf {c : Nat} {q : Pa} {k n} : jg c q (.int k n)=.int k n:=zR
@[simp] theorem Kh {c : Nat} {q : Pa} {b es} : jg c q (slx b es)=slx b es:=by cases b <;> cases es <;> rfl
@[simp] theorem AK {b c i o k n : Nat} : gB b (.ref (.n c i o) k n)=(c != b || (i == 0 && o == 1)):=zR
@[simp] theorem AL {b c k n : Nat} : gB b (.ref (.r c) k n)=true:=zR
@[simp] theorem IW {b : Nat} {es} : gB b (.sl es)=true:=zR
@[simp] theorem AJ {b : Nat} : gB b .nils=true:=zR
@[simp] theorem El {b : Nat} {k n} : gB b (.int k n)=true:=zR
@[simp] theorem Em {b : Nat} {x es} : gB b (slx x es)=true:=by cases x <;> cases es <;> rfl
def wJ (C : CC) (hs : Option (List Nat)) (K : Env -> Prop) (ns : List ar) (dst : Option Nat) (_ : Tag (hs,K,ns)) (e : Env) (R : List Nat) (acc : List (List Nat × List Nat)) (T : Nat) (d : D) : Prop:=match d with
 | .adr p i off=>dW C hs K ns dst ⟨⟩ e R acc (.ifa T p i off)
 | .int k n=>k=.i64 /\ dW C hs K ns dst ⟨⟩ e R acc (.ifi T n)
 | _=>False
@[simp] theorem Pp {T x v1} : opW C hs K ns dst (.mkI T x) v1 e R acc=wJ C hs K ns dst ⟨⟩ e R acc T (vd (ab e) x):=by
 show res (ab e) _ (.mkI T x)=_
 simp only [res,wJ]
 cases vd (ab e) x <;> rfl
@[simp] theorem Jk {T p i off} : wJ C hs K ns dst u e R acc T (.adr p i off)=dW C hs K ns dst ⟨⟩ e R acc (.ifa T p i off):=zR
@[simp] theorem Jl {T k n} : wJ C hs K ns dst u e R acc T (.int k n)=(k=.i64 /\ dW C hs K ns dst ⟨⟩ e R acc (.ifi T n)):=zR
def B8 (C : CC) (hs : Option (List Nat)) (K : Env -> Prop) (ns : List ar) (dst : Option Nat) (_ : Tag (hs,K,ns)) (e : Env) (R : List Nat) (acc : List (List Nat × List Nat)) (T : Nat) (d : D) : Prop:=match d with
 | .ifi T' n=>T'=T /\ dW C hs K ns dst ⟨⟩ e R acc (.int .i64 n)
 | _=>False
@[simp] theorem Pz {T x v1} : opW C hs K ns dst (.tya T x) v1 e R acc=B8 C hs K ns dst ⟨⟩ e R acc T (vd (ab e) x):=by
 show res (ab e) _ (.tya T x)=_
 simp only [res,B8]
 cases vd (ab e) x <;> rfl
@[simp] theorem KF {T T' n} : B8 C hs K ns dst u e R acc T (.ifi T' n)=(T'=T /\ dW C hs K ns dst ⟨⟩ e R acc (.int .i64 n)):=zR
def qn (C : CC) (g : Nat) (hs : Option (List Nat)) (K : Env -> Prop) (ns : List ar) (dst : Option Nat) (_ : Tag (hs,K,ns)) (e : Env) (R : List Nat) (acc : List (List Nat × List Nat)) (b sz : Nat) (es : List (List D)) (W : List D) : Prop :=
 ∃ d,∃ es' : List (List D),0 < es'.length /\ C g (.blk sz es::W) d [.blk sz es',.nilp] /\ doW C hs K ns ⟨⟩ e R acc (bU dst d++[(b,.blk sz es')]) [(b,false)]
theorem cr {g b sz : Nat} {es es' : List (List D)} {W : List D} {d : D} (h : C g (.blk sz es::W) d [.blk sz es',.nilp]) (hp : 0 < es'.length)
  (hk : doW C hs K ns ⟨⟩ e R acc (bU dst d++[(b,.blk sz es')]) [(b,false)]) : qn C g hs K ns dst u e R acc b sz es W:=⟨d,es',hp,h,hk⟩
def Ge (C : CC) (g : Nat) (hs : Option (List Nat)) (K : Env -> Prop) (ns : List ar) (dst : Option Nat) (_ : Tag (hs,K,ns)) (e : Env) (R : List Nat) (acc : List (List Nat × List Nat)) (T : Nat) (xs : List Opd) (d : D) : Prop:=match d with
 | .ifa T' (.r b) i off=>T'=T /\ i=0 /\ off=0 /\ dX (ab e b) (fun sz es=>0 < es.length /\ (∀ x ∈ xs,isV (vd (ab e) x)=true) /\ qn C g hs K ns dst ⟨⟩ e R acc b sz es (.adr (.r 10015) 0 0::xs.map (vd (ab e)))) ⟨⟩
 | _=>False
@[simp] theorem PW {g xs T T' b i off} : Ge C g hs K ns dst u e R acc T xs (.ifa T' (.r b) i off)=(T'=T /\ i=0 /\ off=0 /\ dX (ab e b) (fun sz es=>0 < es.length /\ (∀ x ∈ xs,isV (vd (ab e) x)=true) /\ qn C g hs K ns dst ⟨⟩ e R acc b sz es (.adr (.r 10015) 0 0::xs.map (vd (ab e)))) ⟨⟩):=zR
@[simp] theorem E9 {g m T x xs v1} : opW C hs K ns dst (.callI g m T x xs) v1 e R acc=Ge C g hs K ns dst ⟨⟩ e R acc T xs (vd (ab e) x):=by
 unfold opW
 simp only [aD]
 cases vd (ab e) x <;> first | rfl | skip
def Gf (C : CC) (g : Nat) (hs : Option (List Nat)) (K : Env -> Prop) (ns : List ar) (dst : Option Nat) (_ : Tag (hs,K,ns)) (e : Env) (R : List Nat) (acc : List (List Nat × List Nat)) (xs : List Opd) (d : D) : Prop:=match d with
 | .ifa T (.r b) i off=>i=0 /\ off=0 /\ dX (ab e b) (fun sz es=>0 < es.length /\ (∀ x ∈ xs,isV (vd (ab e) x)=true) /\ qn C g hs K ns dst ⟨⟩ e R acc b sz es (.ifa T (.r 10015) 0 0::xs.map (vd (ab e)))) ⟨⟩
 | _=>False
@[simp] theorem PX {g xs T b i off} : Gf C g hs K ns dst u e R acc xs (.ifa T (.r b) i off)=(i=0 /\ off=0 /\ dX (ab e b) (fun sz es=>0 < es.length /\ (∀ x ∈ xs,isV (vd (ab e) x)=true) /\ qn C g hs K ns dst ⟨⟩ e R acc b sz es (.ifa T (.r 10015) 0 0::xs.map (vd (ab e)))) ⟨⟩):=zR
@[simp] theorem Fa {g x xs v1} : opW C hs K ns dst (.callM g x xs) v1 e R acc=Gf C g hs K ns dst ⟨⟩ e R acc xs (vd (ab e) x):=by
 unfold opW
 simp only [aD]
 cases vd (ab e) x <;> first | rfl | skip
def yx (C : CC) (g : Nat) (hs : Option (List Nat)) (K : Env -> Prop) (ns : List ar) (dst : Option Nat) (_ : Tag (hs,K,ns)) (e : Env) (R : List Nat) (acc : List (List Nat × List Nat)) (xs : List Opd) (d : D) : Prop:=match d with
 | .ref (.r b) k n=>k=0 /\ dX (ab e b) (fun sz es=>0 < es.length /\ es.length=n /\ (∀ x ∈ xs,isV (vd (ab e) x)=true) /\ qn C g hs K ns dst ⟨⟩ e R acc b sz es (.ref (.r 10015) 0 n::xs.map (vd (ab e)))) ⟨⟩
 | _=>False
@[simp] theorem KW {g xs b k n} : yx C g hs K ns dst u e R acc xs (.ref (.r b) k n)=(k=0 /\ dX (ab e b) (fun sz es=>0 < es.length /\ es.length=n /\ (∀ x ∈ xs,isV (vd (ab e) x)=true) /\ qn C g hs K ns dst ⟨⟩ e R acc b sz es (.ref (.r 10015) 0 n::xs.map (vd (ab e)))) ⟨⟩):=zR
@[simp] theorem Fb {g x xs v1} : opW C hs K ns dst (.callR g x xs) v1 e R acc=yx C g hs K ns dst ⟨⟩ e R acc xs (vd (ab e) x):=by
 unfold opW
 simp only [aD]
 cases vd (ab e) x <;> first | rfl | skip
theorem xM {x y : Opd} {v1 : _} {b i off n sz0 sz : Nat} {es0 es : List (List D)} {row0 : List D} (hx : vd (ab e) x=.adr (.r b) i off) (hy : vd (ab e) y=.ref (.n b i off) 0 n) (hb : ab e b=.blk sz0 es0) (h1 : es0[i]? = some row0) (h2 : row0[off]? = some (.own sz es)) (h3 : n <= es.length)
  (hk : doW C hs K ns ⟨⟩ e R acc [(b,.blk sz0 (bC es0 i off 1 [.own sz (es.take n)]))] []) : opW C hs K ns none (.stL x y) v1 e R acc:=by
 unfold opW
 simp only [aD]
 refine ⟨trivial,?_⟩
 rw [hx,hy]
 refine ⟨rfl,rfl,rfl,rfl,?_⟩
 rw [hb]
 exact ⟨row0,h1,sz,es,h2,h3,hk⟩
theorem jC {g s : Nat} {x : Opd} {xs : List Opd} {v1 : _} {T b sz sz1 sz2 : Nat} {fs sp fs' : List (List D)} {ds : List D} {d : D} (hx : vd (ab e) x=.ifa T (.r b) 0 0) (hs0 : s < 10000) (hd : dst ≠ some s) (hxs : ∀ x ∈ xs,aW (vd (ab e) x)=true)
  (hb : ab e b=.blk sz [[.own sz1 fs,.own sz2 sp]]) (hs1 : ab e s=.ptx ds) (hk1 : ds.all (gB b)=true) (f1 : ∀ e ∈ fs,∀ c ∈ e,aW c=true) (f2 : ∀ e ∈ sp,∀ c ∈ e,aW c=true) (hd1 : aW d=true \/ d=.tup []) (f3 : ∀ e ∈ fs',∀ c ∈ e,aW c=true)
  (hc : C g (.blk sz [[.own sz1 fs,.slv 0 sp]]::.ifa T (.r 10015) 0 0::xs.map (vd (ab e))) d [.blk sz [[.own sz1 fs',.slv 0 sp]],.nils])
  (hk : doW C hs K ns ⟨⟩ e R acc (bU dst d++[(b,.blk sz [[.own sz1 fs',.own sz2 sp]]),(s,.ptx ds)]) [(b,false)]) : opW C hs K ns dst (.callQ g s x xs) v1 e R acc:=by
 unfold opW
 simp only [aD]
 rw [hx]
 refine ⟨rfl,rfl,hs0,hd,hxs,?_⟩
 rw [hb]
 simp only
 rw [hs1]
 exact ⟨hk1,f1,f2,d,fs',hd1,f3,hc,hk⟩
theorem tp {s t : Nat} {x : Opd} {v1 : _} {c n sz : Nat} {es : List (List D)} {ds : List D} (hs0 : s < 10000) (hst : s ≠ t) (hx : vd (ab e) x=.agx [.nils,.ref (.r c) 0 n]) (hc : c ≠ rt t 0) (hcb : ab e c=.blk sz es) (hsz : 0 < sz) (hl : es.length=n) (h1 : ∀ e ∈ es,∀ c ∈ e,aC c=true)
  (hs1 : ab e s=.ptx ds) (hm : (ds.all fun d=>!aA (rt t 0) true d)=true)
  (hk0 : n=0 -> doW C hs K ns ⟨⟩ e R acc [(t,.adr (.r (rt t 0)) 0 0),(rt t 0,.blk 2 [[.own sz [],.any]])] [(rt t 0,true)])
  (hk : 0 < n -> doW C hs K ns ⟨⟩ e R acc [(t,.adr (.r (rt t 0)) 0 0),(rt t 0,.blk 2 [[.own sz [],.own sz es]]),(c,.any),(s,.ptx (ds.map (jg c (.n (rt t 0) 0 1))))] [(rt t 0,true)]) : opW C hs K ns (some t) (.boxK s x) v1 e R acc:=by
 unfold opW
 simp only [aD]
 refine ⟨hs0,hst,?_⟩
 rw [hx]
 refine ⟨rfl,hc,?_⟩
 rw [hcb]
 refine ⟨hsz,hl,h1,?_⟩
 rw [hs1]
 refine ⟨hm,?_⟩
 by_cases hn : n=0
 ·rw [if_pos hn];exact hk0 hn
 ·rw [if_neg hn];exact hk (Nat.pos_of_ne_zero hn)
end
end Go.Gv

namespace Go.Gv
def kR (n : Int) : Bool:=-1125899906842624 <= n && n <= 1125899906842624
theorem ah {n m : Int} (h : n=m) (h2 : -9223372036854775808 <= m /\ m < 9223372036854775808) : IntKind.wrap .i64 n=m:=by
 subst h
 have e1 : IntKind.i64.signed=true:=rfl
 have e2 : (2 ^ (IntKind.i64.bits - 1) : Int)=9223372036854775808:=rfl
 have e3 : (2 ^ IntKind.i64.bits : Int)=18446744073709551616:=rfl
 unfold IntKind.wrap
 simp only [e1,e2,e3,x1H,x0g]
 split <;> omega
variable {C : CC} (hC : aq prog C)
include hC
end Go.Gv

namespace Go.Gv
structure SlI where
 n : Bool
 l : List Int
 deriving Inhabited
structure Sec where
 name : List UInt8
 height : Int
 price : Int
 areaN : Bool
 area : List (Int × Int)
 convN : Bool
 conv : List (Int × Int)
 deriving Inhabited
def d3 {α : Type} (p : α -> Bool) (xs : List α) : Int:=match xs.findIdx? p with
 | some i=>i
 | none=>-1
theorem eD {α : Type} {p : α -> Bool} {xs : List α} {i : Nat} (hj : ∀ (j : Nat) (h : j < xs.length),j < i -> p xs[j]=false) (hi : i < xs.length) (h : p xs[i]=true) : d3 p xs=i:=by
 have : xs.findIdx? p=some i:=by
  rw [x1w]
  exact ⟨hi,h,fun j hji=>by simp [hj j (by omega) hji]⟩
 simp [d3,this]
theorem dM {α : Type} {p : α -> Bool} {xs : List α} (hj : ∀ (j : Nat) (h : j < xs.length),p xs[j]=false) : d3 p xs=-1:=by
 have : xs.findIdx? p=none:=by
  rw [List.findIdx?_eq_none_iff]
  intro x hx
  obtain ⟨j,h,rfl⟩:=x0J.1 hx
  exact hj j h
 simp [d3,this]
theorem gz {α : Type} (p : α -> Bool) (xs : List α) : decide (0 <= d3 p xs)=xs.any p:=by
 unfold d3
 split
 ·rename_i i h
  rw [x1w] at h
  obtain ⟨h1,h2,_⟩:=h
  have : xs.any p=true:=x0y.2 ⟨_,x0t h1,h2⟩
  simp [this]
 ·rename_i h
  rw [List.findIdx?_eq_none_iff] at h
  have : xs.any p=false:=by rw [List.any_eq_false];intro x hx;simp [h x hx]
  simp [this]
variable {C : CC} (hC : aq prog C)
include hC
theorem t8 {b : Bool} {xs : List Int} {g : Nat} {cs : List D} (p : Int -> Bool) (hs : xs.length < 2 ^ 62) (hp : ∀ x ∈ xs,C g (.int .i64 x::cs) (.bool (p x)) []) : C 35 [slx b (xs.map fun x=>[.int .i64 x]),.fn g cs] (.int .i64 (d3 p xs)) []:=by
 refine aE hC (nf:=N35) rfl rfl ?_
 simp [N35]
 refine az Nat (fun i=>[(0,slx b (xs.map fun x=>[.int .i64 x])),(1,.fn g cs),(7,.int .i64 xs.length),(8,.int .i64 i)]) (fun i=>i <= xs.length /\ ∀ (j : Nat) (h : j < xs.length),j < i -> p xs[j]=false) (fun i=>xs.length - i) 0 (by simp) (by simp) ?_
 rintro i ⟨hi,hj⟩
 simp
 refine al (fun h=>?_) (fun h=>?_) <;> simp [h] <;> simp at h
 ·have hw : IntKind.wrap .i64 ((i : Int) + 1)=((i + 1 : Nat) : Int):=ah (by omega) (by omega)
  have hc:=hp _ (x0t h)
  simp [h,x1A] at hc ⊢
  refine aa hc (.inl rfl) ?_
  simp
  refine al (fun h1=>?_) (fun h1=>?_) <;> simp [h1,hw]
  ·rw [eD hj h h1]
  ·refine ⟨i + 1,⟨by omega,fun j hl hjj=>?_⟩,by omega,rfl⟩
   rcases x0H.1 hjj with h2 | rfl
   ·exact hj j hl h2
   ·exact h1
 ·rw [dM (fun j hl=>hj j hl (by omega))]
theorem lF {b : Bool} {xs : List Int} {g : Nat} {cs : List D} (p : Int -> Bool) (hs : xs.length < 2 ^ 62) (hp : ∀ x ∈ xs,C g (.int .i64 x::cs) (.bool (p x)) []) : C 11 [slx b (xs.map fun x=>[.int .i64 x]),.fn g cs] (.bool (xs.any p)) []:=by
 refine aE hC (nf:=N11) rfl rfl ?_
 simp [N11]
 refine aa (t8 hC p hs hp) (.inl rfl) ?_
 simp [gz]
end Go.Gv

namespace Go.Gv
structure Spt where
 x : Int
 y : Int
 z : Int
 deriving Inhabited,DecidableEq
structure Fce where
 a : Int
 b : Int
 c : Int
 k : Int
 deriving Inhabited,DecidableEq
structure Msh where
 sn : Bool
 s : List Spt
 fn : Bool
 f : List Fce
def ez (s : Spt) : List D:=[.int .i64 s.x,.int .i64 s.y,.int .i64 s.z]
def bk (f : Fce) : List D:=[.int .i64 f.a,.int .i64 f.b,.int .i64 f.c,.int .i64 f.k]
def bi (m : Msh) : List D:=[slx m.sn (m.s.map ez),slx m.fn (m.f.map bk)]
theorem b0 (s : Spt) : ez s=[.int .i64 s.x,.int .i64 s.y,.int .i64 s.z]:=zR
theorem aH (f : Fce) : bk f=[.int .i64 f.a,.int .i64 f.b,.int .i64 f.c,.int .i64 f.k]:=zR
theorem ae (m : Msh) : bi m=[slx m.sn (m.s.map ez),slx m.fn (m.f.map bk)]:=zR
def spt (m : Msh) (i : Nat) : Spt:=m.s[i]!
def fce (m : Msh) (i : Nat) : Fce:=m.f[i]!
@[simp high] theorem Re (m : Msh) (i : Nat) : m.s[i]! = spt m i:=zR
@[simp high] theorem Qq (m : Msh) (i : Nat) : m.f[i]! = fce m i:=zR
@[simp high] theorem Rf (m : Msh) (i : Nat) : m.s[i]?.getD default=spt m i:=by simp only [spt,List.getElem!_eq_getElem?_getD]
@[simp high] theorem Qr (m : Msh) (i : Nat) : m.f[i]?.getD default=fce m i:=by simp only [fce,List.getElem!_eq_getElem?_getD]
@[simp] theorem Rq (m : Msh) (i : Nat) (h : i < m.s.length) : m.s[i]=spt m i:=(x0Z m.s i h).symm
@[simp] theorem mY (m : Msh) (i : Nat) (h : i < m.f.length) : m.f[i]=fce m i:=(x0Z m.f i h).symm
abbrev Pnt:=Int × Int
def ptD (p : Pnt) : List D:=[.int .i64 p.1,.int .i64 p.2]
def ptS (s : Spt) : Pnt:=(s.x,s.y)
def okP (p : Pnt) : Bool:=-16777216 <= p.1 && p.1 <= 16777216 && -16777216 <= p.2 && p.2 <= 16777216
def aT (s : Spt) : Bool:=-16777216 <= s.x && s.x <= 16777216 && -16777216 <= s.y && s.y <= 16777216 && -4194304 <= s.z && s.z <= 4194304
theorem oh {s : Spt} (h : aT s=true) : okP (ptS s)=true:=by
 simp only [aT,x0a,x0g] at h
 show okP (s.x,s.y)=true
 simp [okP]
 omega
def cG (a b c : Pnt) : Int:=(b.1 - a.1) * (c.2 - a.2) - (b.2 - a.2) * (c.1 - a.1)
theorem iG {a b k l : Int} (h1 : -k <= a) (h2 : a <= k) (h3 : -l <= b) (h4 : b <= l) : -(k * l) <= a * b /\ a * b <= k * l:=by
 have hk : 0 <= k:=by omega
 have hl : 0 <= l:=by omega
 have e1:=Int.mul_nonneg (show 0 <= k - a by omega) (show 0 <= l - b by omega)
 have e2:=Int.mul_nonneg (show 0 <= k + a by omega) (show 0 <= l + b by omega)
 have e3:=Int.mul_nonneg (show 0 <= k - a by omega) (show 0 <= l + b by omega)
 have e4:=Int.mul_nonneg (show 0 <= k + a by omega) (show 0 <= l - b by omega)
 simp only [Int.sub_mul,Int.mul_sub,Int.add_mul,Int.mul_add] at e1 e2 e3 e4
 omega
theorem fo {p : Pnt} (h : okP p=true) : -16777216 <= p.1 /\ p.1 <= 16777216 /\ -16777216 <= p.2 /\ p.2 <= 16777216:=by
 simp only [okP,x0a,x0g] at h
 omega
theorem oz {a b c : Pnt} (ha : okP a=true) (hb : okP b=true) (hc : okP c=true) :
  (-1125899906842624 <= (b.1 - a.1) * (c.2 - a.2) /\ (b.1 - a.1) * (c.2 - a.2) <= 1125899906842624) /\ (-1125899906842624 <= (b.2 - a.2) * (c.1 - a.1) /\ (b.2 - a.2) * (c.1 - a.1) <= 1125899906842624):=by
 have:=fo ha
 have:=fo hb
 have:=fo hc
 exact ⟨iG (k:=33554432) (l:=33554432) (by omega) (by omega) (by omega) (by omega),iG (k:=33554432) (l:=33554432) (by omega) (by omega) (by omega) (by omega)⟩
abbrev Tri:=Pnt × Pnt × Pnt
def bZ (t : Tri) : List D:=[.int .i64 t.1.1,.int .i64 t.1.2,.int .i64 t.2.1.1,.int .i64 t.2.1.2,.int .i64 t.2.2.1,.int .i64 t.2.2.2]
def okT (t : Tri) : Bool:=okP t.1 && okP t.2.1 && okP t.2.2
def ix (t : Tri) : Int:=cG t.1 t.2.1 t.2.2
def gQ (p q : Pnt) (u : Tri) : Bool:=cG p q u.1 <= 0 && cG p q u.2.1 <= 0 && cG p q u.2.2 <= 0
def pC (t u : Tri) : Bool:=gQ t.1 t.2.1 u || gQ t.2.1 t.2.2 u || gQ t.2.2 t.1 u
def ovT (t u : Tri) : Bool:=!pC t u && !pC u t
def aP (m : Msh) (f : Fce) : Tri:=(ptS (spt m f.a.toNat),ptS (spt m f.b.toNat),ptS (spt m f.c.toNat))
def crn (f : Fce) : Nat -> Int
 | 0=>f.a
 | 1=>f.b
 | 2=>f.c
 | 3=>f.a
 | 4=>f.b
 | _=>f.c
def dN (n : Nat) (a : Int) : Bool:=0 <= a && a < n
def inS (m : Msh) (f : Fce) : Bool:=dN m.s.length f.a && dN m.s.length f.b && dN m.s.length f.c
theorem jL {m : Msh} {f : Fce} (h : inS m f=true) : (0 <= f.a /\ f.a.toNat < m.s.length) /\ (0 <= f.b /\ f.b.toNat < m.s.length) /\ (0 <= f.c /\ f.c.toNat < m.s.length):=by
 simp only [inS,dN,x0a,x0g] at h
 omega
variable {C : CC} (hC : aq prog C)
include hC
theorem uA (p : Pnt) : C 313 [.agg (ptD p)] (.bool (okP p)) []:=by
 refine aE hC (nf:=N313) rfl rfl ?_
 simp [N313,ptD,okP]
 repeat' (refine al (fun h=>?_) (fun h=>?_) <;> simp at h <;> simp [h] <;> try omega)
theorem uo (s : Spt) : C 303 [.agg (ez s)] (.bool (aT s)) []:=by
 have k:=uA hC (s.x,s.y)
 simp [ptD,okP] at k
 refine aE hC (nf:=N303) rfl rfl ?_
 simp [N303,ez,aT]
 refine aa k (.inl rfl) ?_
 simp
 repeat' (refine al (fun h=>?_) (fun h=>?_) <;> simp at h <;> simp [h] <;> try omega)
theorem rn (s : Spt) : C 289 [.agg (ez s)] (.bool (aT s)) []:=by
 refine aE hC (nf:=N289) rfl rfl ?_
 simp [N289,ez,aT]
 repeat' (refine al (fun h=>?_) (fun h=>?_) <;> simp at h <;> simp [h] <;> try omega)
theorem jd (s : Spt) : C 291 [.agg (ez s)] (.agg (ptD (ptS s))) []:=by
 refine aE hC (nf:=N291) rfl rfl ?_
 simp [N291,ez,ptD,ptS]
theorem pg (m : Msh) : C 302 [.agg (bi m)] (.bool (decide (m.s.length <= 2000) && decide (m.f.length <= 4000))) []:=by
 refine aE hC (nf:=N302) rfl rfl ?_
 simp [N302,bi]
 refine al (fun h=>?_) (fun h=>?_) <;> simp at h <;> simp [h]
 ·rw [decide_eq_true (show m.s.length <= 2000 by omega)]
  simp
  exact Iff.intro (fun h2=>by omega) (fun h2=>by omega)
 ·omega
theorem uR (m : Msh) : C 257 [.agg (bi m)] (.bool (decide (m.s.length <= 2000) && decide (m.f.length <= 4000))) []:=by
 refine aE hC (nf:=N257) rfl rfl ?_
 simp [N257,bi]
 refine al (fun h=>?_) (fun h=>?_) <;> simp at h <;> simp [h]
 ·rw [decide_eq_true (show m.s.length <= 2000 by omega)]
  simp
  exact Iff.intro (fun h2=>by omega) (fun h2=>by omega)
 ·omega
theorem i6 (m : Msh) (i : Nat) (h : i < m.s.length) : C 304 [.agg (bi m),.int .i64 i] (.agg (ptD (ptS (spt m i)))) []:=by
 refine aE hC (nf:=N304) rfl rfl ?_
 simp [N304,bi,h,b0,ptD,ptS]
 exact ai (by decide +kernel)
theorem lO (f : Fce) : C 305 [.agg (bk f)] (.agg [.int .i64 f.a,.int .i64 f.b,.int .i64 f.c]) []:=by
 refine aE hC (nf:=N305) rfl rfl ?_
 simp [N305,bk]
theorem n6 (f : Fce) (k : Nat) (hk : k < 3) : C 298 [.agg (bk f),.int .i64 k] (.agg [.int .i64 (crn f k),.int .i64 (crn f (k + 1))]) []:=by
 have k1:=lO hC f
 refine aE hC (nf:=N298) rfl rfl ?_
 rw [bk] at k1 ⊢
 simp [N298]
 refine aa k1 (.inl rfl) ?_
 have w : IntKind.wrap .i64 ((k : Int) + 1)=((k + 1 : Nat) : Int):=ah (by omega) (by omega)
 have w0 : IntKind.wrap .i64 1=1:=by decide
 have w1 : IntKind.wrap .i64 2=2:=by decide
 have w2 : IntKind.wrap .i64 3=3:=by decide
 rcases (by omega : k=0 \/ k=1 \/ k=2) with rfl | rfl | rfl <;> simp [crn,w0,w1,w2] <;> exact ai (by decide +kernel)
theorem n7 {a b c : Pnt} (ha : okP a=true) (hb : okP b=true) (hc : okP c=true) : C 308 [.agg (ptD a),.agg (ptD b),.agg (ptD c)] (.int .i64 (cG a b c)) []:=by
 have:=fo ha
 have:=fo hb
 have:=fo hc
 have h4:=oz ha hb hc
 refine aE hC (nf:=N308) rfl rfl ?_
 have w1 : IntKind.wrap .i64 (b.1 - a.1)=b.1 - a.1:=ah rfl (by omega)
 have w2 : IntKind.wrap .i64 (c.2 - a.2)=c.2 - a.2:=ah rfl (by omega)
 have w3 : IntKind.wrap .i64 (b.2 - a.2)=b.2 - a.2:=ah rfl (by omega)
 have w4 : IntKind.wrap .i64 (c.1 - a.1)=c.1 - a.1:=ah rfl (by omega)
 have w5 : IntKind.wrap .i64 ((b.1 - a.1) * (c.2 - a.2))=(b.1 - a.1) * (c.2 - a.2):=ah rfl (by omega)
 have w6 : IntKind.wrap .i64 ((b.2 - a.2) * (c.1 - a.1))=(b.2 - a.2) * (c.1 - a.1):=ah rfl (by omega)
 have w7 : IntKind.wrap .i64 ((b.1 - a.1) * (c.2 - a.2) - (b.2 - a.2) * (c.1 - a.1))=cG a b c:=ah rfl (by rw [cG];omega)
 simp [N308,ptD,w1,w2,w3,w4,w5,w6,w7]
theorem ro {a b c : Pnt} (ha : okP a=true) (hb : okP b=true) (hc : okP c=true) : C 286 [.agg (ptD a),.agg (ptD b),.agg (ptD c)] (.int .i64 (cG a b c)) []:=by
 have:=fo ha
 have:=fo hb
 have:=fo hc
 have h4:=oz ha hb hc
 refine aE hC (nf:=N286) rfl rfl ?_
 have w1 : IntKind.wrap .i64 (b.1 - a.1)=b.1 - a.1:=ah rfl (by omega)
 have w2 : IntKind.wrap .i64 (c.2 - a.2)=c.2 - a.2:=ah rfl (by omega)
 have w3 : IntKind.wrap .i64 (b.2 - a.2)=b.2 - a.2:=ah rfl (by omega)
 have w4 : IntKind.wrap .i64 (c.1 - a.1)=c.1 - a.1:=ah rfl (by omega)
 have w5 : IntKind.wrap .i64 ((b.1 - a.1) * (c.2 - a.2))=(b.1 - a.1) * (c.2 - a.2):=ah rfl (by omega)
 have w6 : IntKind.wrap .i64 ((b.2 - a.2) * (c.1 - a.1))=(b.2 - a.2) * (c.1 - a.1):=ah rfl (by omega)
 have w7 : IntKind.wrap .i64 ((b.1 - a.1) * (c.2 - a.2) - (b.2 - a.2) * (c.1 - a.1))=cG a b c:=ah rfl (by rw [cG];omega)
 simp [N286,ptD,w1,w2,w3,w4,w5,w6,w7]
theorem ur (m : Msh) (f : Fce) (h : inS m f=true) : C 307 [.agg (bi m),.agg (bk f)] (.agg (bZ (aP m f))) []:=by
 obtain ⟨⟨a1,a2⟩,⟨b1,b2⟩,⟨c1,c2⟩⟩:=jL h
 have ka:=i6 hC m f.a.toNat a2
 have kb:=i6 hC m f.b.toNat b2
 have kc:=i6 hC m f.c.toNat c2
 rw [x09 a1] at ka
 rw [x09 b1] at kb
 rw [x09 c1] at kc
 refine aE hC (nf:=N307) rfl rfl ?_
 rw [bi] at ka kb kc ⊢
 simp [N307,bk]
 simp [ptD] at ka kb kc
 refine aa ka (.inl rfl) ?_
 simp
 refine aa kb (.inl rfl) ?_
 simp
 refine aa kc (.inl rfl) ?_
 simp [bZ,aP]
 exact ai (by decide +kernel)
theorem nu (f : Fce) (k : Nat) (hk : k < 4) : C 323 [.agg (bk f),.int .i64 k] (.int .i64 (crn f k)) []:=by
 refine aE hC (nf:=N323) rfl rfl ?_
 rcases (by omega : k=0 \/ k=1 \/ k=2 \/ k=3) with rfl | rfl | rfl | rfl <;> simp [N323,bk,crn] <;> (refine ot (r:=[.int .i64 _]) rfl (by simp) ?_;simp)
theorem qE (m : Msh) (f : Fce) (h : inS m f=true) : C 285 [.agg (bi m),.agg (bk f)] (.sl [ptD (aP m f).1,ptD (aP m f).2.1,ptD (aP m f).2.2]) []:=by
 obtain ⟨⟨a1,a2⟩,⟨b1,b2⟩,⟨c1,c2⟩⟩:=jL h
 have ka:=jd hC (spt m f.a.toNat)
 have kb:=jd hC (spt m f.b.toNat)
 have kc:=jd hC (spt m f.c.toNat)
 rw [ez] at ka kb kc
 refine aE hC (nf:=N285) rfl rfl ?_
 simp [N285,bk,bi,a1,a2,b0]
 refine aa ka (.inl rfl) ?_
 simp [b1,b2,b0]
 refine aa kb (.inl rfl) ?_
 simp [c1,c2,b0]
 refine aa kc (.inl rfl) ?_
 simp [aP,ptD]
 exact ai (by decide +kernel)
end Go.Gv

namespace Go.Gv
theorem aK : IntKind.wrap .i64 1=1:=by decide
theorem aN : IntKind.wrap .i64 2=2:=by decide
theorem aO : IntKind.wrap .i64 3=3:=by decide
variable {C : CC} (hC : aq prog C)
include hC
set_option maxHeartbeats 1000000 in
theorem zB {t u : Tri} (ht : okT t=true) (hu : okT u=true) : C 311 [.agg (bZ t),.agg (bZ u)] (.bool (pC t u)) []:=by
 simp only [okT,x0a] at ht hu
 obtain ⟨⟨t1,t2⟩,t3⟩:=ht
 obtain ⟨⟨u1,u2⟩,u3⟩:=hu
 have kk:=fun (p q r : Pnt) (hp : okP p=true) (hq : okP q=true) (hr : okP r=true)=>n7 hC hp hq hr
 simp only [ptD] at kk
 have E : pC t u=(gQ t.1 t.2.1 u || gQ t.2.1 t.2.2 u || gQ t.2.2 t.1 u):=rfl
 rw [E]
 clear E
 have S : ∀ p q,gQ p q u=(decide (cG p q u.1 <= 0) && decide (cG p q u.2.1 <= 0) && decide (cG p q u.2.2 <= 0)):=fun p q=>rfl
 refine aE hC (nf:=N311) rfl rfl ?_
 rw [bZ,bZ]
 simp [N311]
 refine az Nat (fun i=>[(2,.ptr (bZ t)),(3,.ptr (bZ u)),(8,.int .i64 i)]) (fun i=>i <= 3 /\ (1 <= i -> gQ t.1 t.2.1 u=false) /\ (2 <= i -> gQ t.2.1 t.2.2 u=false) /\ (3 <= i -> gQ t.2.2 t.1 u=false)) (fun i=>3 - i) 0 (by simp) (by simp [bZ]) ?_
 rintro i ⟨hi,s1,s2,s3⟩
 rcases (by omega : i=0 \/ i=1 \/ i=2 \/ i=3) with rfl | rfl | rfl | rfl
 ·simp [bZ,aK,aN,aO]
  refine ⟨ai (by decide +kernel),?_⟩
  refine aa (kk t.1 t.2.1 u.1 t1 t2 u1) (.inl rfl) ?_
  simp
  refine al (fun h1=>?_) (fun h1=>?_) <;> simp at h1
  ·simp [h1]
   refine aa (kk t.1 t.2.1 u.2.1 t1 t2 u2) (.inl rfl) ?_
   simp
   refine al (fun h2=>?_) (fun h2=>?_) <;> simp at h2
   ·simp [h2]
    refine aa (kk t.1 t.2.1 u.2.2 t1 t2 u3) (.inl rfl) ?_
    simp
    refine al (fun h3=>?_) (fun h3=>?_) <;> simp at h3 <;> simp [h3]
    ·simp [S,h1,h2,h3]
    ·refine ⟨1,⟨by omega,fun _=>by simp only [S,x0w,x0p];omega,fun h=>by omega,fun h=>by omega⟩,by omega,?_⟩ <;> simp [aK,aN,aO]
   ·simp [x00.2 h2]
    refine ⟨1,⟨by omega,fun _=>by simp only [S,x0w,x0p];omega,fun h=>by omega,fun h=>by omega⟩,by omega,?_⟩ <;> simp [aK,aN,aO]
  ·simp [x00.2 h1]
   refine ⟨1,⟨by omega,fun _=>by simp only [S,x0w,x0p];omega,fun h=>by omega,fun h=>by omega⟩,by omega,?_⟩ <;> simp [aK,aN,aO]
 ·simp [bZ,aK,aN,aO]
  refine ⟨ai (by decide +kernel),?_⟩
  refine aa (kk t.2.1 t.2.2 u.1 t2 t3 u1) (.inl rfl) ?_
  simp
  refine al (fun h1=>?_) (fun h1=>?_) <;> simp at h1
  ·simp [h1]
   refine aa (kk t.2.1 t.2.2 u.2.1 t2 t3 u2) (.inl rfl) ?_
   simp
   refine al (fun h2=>?_) (fun h2=>?_) <;> simp at h2
   ·simp [h2]
    refine aa (kk t.2.1 t.2.2 u.2.2 t2 t3 u3) (.inl rfl) ?_
    simp
    refine al (fun h3=>?_) (fun h3=>?_) <;> simp at h3 <;> simp [h3]
    ·simp [S,h1,h2,h3]
    ·refine ⟨2,⟨by omega,fun _=>s1 (by omega),fun _=>by simp only [S,x0w,x0p];omega,fun h=>by omega⟩,by omega,?_⟩ <;> simp [aK,aN,aO]
   ·simp [x00.2 h2]
    refine ⟨2,⟨by omega,fun _=>s1 (by omega),fun _=>by simp only [S,x0w,x0p];omega,fun h=>by omega⟩,by omega,?_⟩ <;> simp [aK,aN,aO]
  ·simp [x00.2 h1]
   refine ⟨2,⟨by omega,fun _=>s1 (by omega),fun _=>by simp only [S,x0w,x0p];omega,fun h=>by omega⟩,by omega,?_⟩ <;> simp [aK,aN,aO]
 ·simp [bZ,aK,aN,aO]
  refine ⟨ai (by decide +kernel),?_⟩
  refine aa (kk t.2.2 t.1 u.1 t3 t1 u1) (.inl rfl) ?_
  simp
  refine al (fun h1=>?_) (fun h1=>?_) <;> simp at h1
  ·simp [h1]
   refine aa (kk t.2.2 t.1 u.2.1 t3 t1 u2) (.inl rfl) ?_
   simp
   refine al (fun h2=>?_) (fun h2=>?_) <;> simp at h2
   ·simp [h2]
    refine aa (kk t.2.2 t.1 u.2.2 t3 t1 u3) (.inl rfl) ?_
    simp
    refine al (fun h3=>?_) (fun h3=>?_) <;> simp at h3 <;> simp [h3]
    ·simp [S,h1,h2,h3]
    ·refine ⟨3,⟨by omega,fun _=>s1 (by omega),fun _=>s2 (by omega),fun _=>by simp only [S,x0w,x0p];omega⟩,by omega,?_⟩ <;> simp [aK,aN,aO]
   ·simp [x00.2 h2]
    refine ⟨3,⟨by omega,fun _=>s1 (by omega),fun _=>s2 (by omega),fun _=>by simp only [S,x0w,x0p];omega⟩,by omega,?_⟩ <;> simp [aK,aN,aO]
  ·simp [x00.2 h1]
   refine ⟨3,⟨by omega,fun _=>s1 (by omega),fun _=>s2 (by omega),fun _=>by simp only [S,x0w,x0p];omega⟩,by omega,?_⟩ <;> simp [aK,aN,aO]
 ·simp [s1 (by omega),s2 (by omega),s3 (by omega)]
def mJ (t : Tri) : List (List D):=[ptD t.1,ptD t.2.1,ptD t.2.2]
set_option maxHeartbeats 1000000 in
theorem pq {t u : Tri} (ht : okT t=true) (hu : okT u=true) : C 324 [.sl (mJ t),.sl (mJ u)] (.bool (pC t u)) []:=by
 simp only [okT,x0a] at ht hu
 obtain ⟨⟨t1,t2⟩,t3⟩:=ht
 obtain ⟨⟨u1,u2⟩,u3⟩:=hu
 have kk:=fun (p q r : Pnt) (hp : okP p=true) (hq : okP q=true) (hr : okP r=true)=>ro hC hp hq hr
 simp only [ptD] at kk
 have E : pC t u=(gQ t.1 t.2.1 u || gQ t.2.1 t.2.2 u || gQ t.2.2 t.1 u):=rfl
 rw [E]
 clear E
 have S : ∀ p q,gQ p q u=(decide (cG p q u.1 <= 0) && decide (cG p q u.2.1 <= 0) && decide (cG p q u.2.2 <= 0)):=fun p q=>rfl
 refine aE hC (nf:=N324) rfl rfl ?_
 simp only [mJ,ptD]
 simp [N324]
 refine az Nat (fun i=>[(0,.sl (mJ t)),(1,.sl (mJ u)),(5,.int .i64 i)]) (fun i=>i <= 3 /\ (1 <= i -> gQ t.1 t.2.1 u=false) /\ (2 <= i -> gQ t.2.1 t.2.2 u=false) /\ (3 <= i -> gQ t.2.2 t.1 u=false)) (fun i=>3 - i) 0 (by simp) (by simp [mJ,ptD]) ?_
 rintro i ⟨hi,s1,s2,s3⟩
 rcases (by omega : i=0 \/ i=1 \/ i=2 \/ i=3) with rfl | rfl | rfl | rfl
 ·simp [mJ,ptD,aK,aN,aO]
  refine ⟨ai (by decide +kernel),?_⟩
  refine aa (kk t.1 t.2.1 u.1 t1 t2 u1) (.inl rfl) ?_
  simp
  refine al (fun h1=>?_) (fun h1=>?_) <;> simp at h1
  ·simp [h1]
   refine aa (kk t.1 t.2.1 u.2.1 t1 t2 u2) (.inl rfl) ?_
   simp
   refine al (fun h2=>?_) (fun h2=>?_) <;> simp at h2
   ·simp [h2]
    refine aa (kk t.1 t.2.1 u.2.2 t1 t2 u3) (.inl rfl) ?_
    simp
    refine ⟨ai (by decide +kernel),?_⟩
    refine al (fun h3=>?_) (fun h3=>?_) <;> simp at h3 <;> simp [h3]
    ·simp [S,h1,h2,h3]
    ·refine ⟨1,⟨by omega,fun _=>by simp only [S,x0w,x0p];omega,fun h=>by omega,fun h=>by omega⟩,by omega,?_⟩ <;> simp [aK,aN,aO]
   ·simp [x00.2 h2]
    refine ⟨ai (by decide +kernel),?_⟩
    refine ⟨1,⟨by omega,fun _=>by simp only [S,x0w,x0p];omega,fun h=>by omega,fun h=>by omega⟩,by omega,?_⟩ <;> simp [aK,aN,aO]
  ·simp [x00.2 h1]
   refine ⟨ai (by decide +kernel),?_⟩
   refine ⟨1,⟨by omega,fun _=>by simp only [S,x0w,x0p];omega,fun h=>by omega,fun h=>by omega⟩,by omega,?_⟩ <;> simp [aK,aN,aO]
 ·simp [mJ,ptD,aK,aN,aO]
  refine ⟨ai (by decide +kernel),?_⟩
  refine aa (kk t.2.1 t.2.2 u.1 t2 t3 u1) (.inl rfl) ?_
  simp
  refine al (fun h1=>?_) (fun h1=>?_) <;> simp at h1
  ·simp [h1]
   refine aa (kk t.2.1 t.2.2 u.2.1 t2 t3 u2) (.inl rfl) ?_
   simp
   refine al (fun h2=>?_) (fun h2=>?_) <;> simp at h2
   ·simp [h2]
    refine aa (kk t.2.1 t.2.2 u.2.2 t2 t3 u3) (.inl rfl) ?_
    simp
    refine ⟨ai (by decide +kernel),?_⟩
    refine al (fun h3=>?_) (fun h3=>?_) <;> simp at h3 <;> simp [h3]
    ·simp [S,h1,h2,h3]
    ·refine ⟨2,⟨by omega,fun _=>s1 (by omega),fun _=>by simp only [S,x0w,x0p];omega,fun h=>by omega⟩,by omega,?_⟩ <;> simp [aK,aN,aO]
   ·simp [x00.2 h2]
    refine ⟨ai (by decide +kernel),?_⟩
    refine ⟨2,⟨by omega,fun _=>s1 (by omega),fun _=>by simp only [S,x0w,x0p];omega,fun h=>by omega⟩,by omega,?_⟩ <;> simp [aK,aN,aO]
  ·simp [x00.2 h1]
   refine ⟨ai (by decide +kernel),?_⟩
   refine ⟨2,⟨by omega,fun _=>s1 (by omega),fun _=>by simp only [S,x0w,x0p];omega,fun h=>by omega⟩,by omega,?_⟩ <;> simp [aK,aN,aO]
 ·simp [mJ,ptD,aK,aN,aO]
  refine ⟨ai (by decide +kernel),?_⟩
  refine aa (kk t.2.2 t.1 u.1 t3 t1 u1) (.inl rfl) ?_
  simp
  refine al (fun h1=>?_) (fun h1=>?_) <;> simp at h1
  ·simp [h1]
   refine aa (kk t.2.2 t.1 u.2.1 t3 t1 u2) (.inl rfl) ?_
   simp
   refine al (fun h2=>?_) (fun h2=>?_) <;> simp at h2
   ·simp [h2]
    refine aa (kk t.2.2 t.1 u.2.2 t3 t1 u3) (.inl rfl) ?_
    simp
    refine ⟨ai (by decide +kernel),?_⟩
    refine al (fun h3=>?_) (fun h3=>?_) <;> simp at h3 <;> simp [h3]
    ·simp [S,h1,h2,h3]
    ·refine ⟨3,⟨by omega,fun _=>s1 (by omega),fun _=>s2 (by omega),fun _=>by simp only [S,x0w,x0p];omega⟩,by omega,?_⟩ <;> simp [aK,aN,aO]
   ·simp [x00.2 h2]
    refine ⟨ai (by decide +kernel),?_⟩
    refine ⟨3,⟨by omega,fun _=>s1 (by omega),fun _=>s2 (by omega),fun _=>by simp only [S,x0w,x0p];omega⟩,by omega,?_⟩ <;> simp [aK,aN,aO]
  ·simp [x00.2 h1]
   refine ⟨ai (by decide +kernel),?_⟩
   refine ⟨3,⟨by omega,fun _=>s1 (by omega),fun _=>s2 (by omega),fun _=>by simp only [S,x0w,x0p];omega⟩,by omega,?_⟩ <;> simp [aK,aN,aO]
 ·simp [s1 (by omega),s2 (by omega),s3 (by omega)]
end Go.Gv

namespace Go.Gv
def okc (m : Msh) (a b : Int) : Bool:=dN m.s.length a && decide (a ≠ b) && aT (spt m a.toNat)
def okF (m : Msh) (f : Fce) : Bool:=okc m f.a f.b && okc m f.b f.c && okc m f.c f.a && decide (0 <= f.k) && decide (f.k < 16)
def mtc (f g : Fce) (i k : Nat) : Bool:=decide (crn f i=crn g k) && decide (crn f (i + 1)=crn g (k + 1))
def fX (f g : Fce) : Bool:=(List.range 3).any fun i=>(List.range 3).any fun k=>mtc f g i k
theorem hJ {m : Msh} {f : Fce} (h : okF m f=true) : inS m f=true:=by
 simp only [okF,okc,x0a] at h
 simp only [inS,x0a]
 exact ⟨⟨h.1.1.1.1.1.1,h.1.1.1.2.1.1⟩,h.1.1.2.1.1⟩
theorem ct {m : Msh} {f : Fce} (h : okF m f=true) : okT (aP m f)=true:=by
 simp only [okF,okc,x0a] at h
 simp only [okT,aP,x0a]
 exact ⟨⟨oh h.1.1.1.1.2,oh h.1.1.1.2.2⟩,oh h.1.1.2.2⟩
def oP (n : Nat) : UInt8:=UInt8.ofNat (48 + n % 10)
def nJ (n : Nat) (out : List UInt8) : List UInt8:=if n < 10 then oP n::out else nJ (n / 10) (oP n::out)
def pU (n : Nat) (out : List UInt8) : List UInt8:=if n=0 then out else nJ n out
theorem mW (n : Nat) (out : List UInt8) : nJ n out=pU (n / 10) (oP n::out):=by
 rw [nJ,pU]
 by_cases h : n < 10
 ·rw [if_pos h,if_pos (by omega)]
 ·rw [if_neg h,if_neg (by omega)]
variable {C : CC} (hC : aq prog C)
include hC
theorem xg (m : Msh) (f : Fce) (hs : inS m f=true) (ht : okT (aP m f)=true) : C 293 [.agg (bi m),.agg (bk f)] (.int .i64 (ix (aP m f))) []:=by
 have k1:=qE hC m f hs
 have k2:=ht
 simp only [okT,x0a] at k2
 have k3:=ro hC k2.1.1 k2.1.2 k2.2
 obtain ⟨t,e⟩ : ∃ t,t=aP m f:=⟨_,rfl⟩
 rw [<- e] at k1 k3 ⊢
 refine aE hC (nf:=N293) rfl rfl ?_
 rw [bi,bk] at k1 ⊢
 simp only [ptD] at k1 k3
 simp [N293]
 refine aa k1 (.inr rfl) ?_
 simp
 refine aa k3 (.inl rfl) ?_
 simp [ix]
 exact ai (by decide +kernel)
theorem qD (m : Msh) (f g : Fce) (hs : inS m f=true) (ht : okT (aP m f)=true) (hs' : inS m g=true) (ht' : okT (aP m g)=true) : C 295 [.agg (bi m),.agg (bk f),.agg (bk g)] (.bool (ovT (aP m f) (aP m g))) []:=by
 have k1:=qE hC m f hs
 have k2:=qE hC m g hs'
 have k3:=pq hC ht ht'
 have k4:=pq hC ht' ht
 obtain ⟨t,e⟩ : ∃ t,t=aP m f:=⟨_,rfl⟩
 obtain ⟨u,e'⟩ : ∃ u,u=aP m g:=⟨_,rfl⟩
 rw [<- e] at k1 k3 k4 ⊢
 rw [<- e'] at k2 k3 k4 ⊢
 refine aE hC (nf:=N295) rfl rfl ?_
 rw [bi,bk] at k1 k2 ⊢
 rw [bk]
 simp only [mJ,ptD] at k1 k2 k3 k4
 simp [N295]
 refine aa k1 (.inr rfl) ?_
 simp
 refine aa k2 (.inr rfl) ?_
 simp
 refine ⟨ai (by decide +kernel),?_⟩
 refine aa k3 (.inl rfl) ?_
 simp
 cases h1 : pC t u <;> simp [ovT,h1]
 refine aa k4 (.inl rfl) ?_
 simp
 exact fun _=>h1
theorem xc (f g : Fce) : C 294 [.agg (bk f),.agg (bk g)] (.bool (fX f g)) []:=by
 have kf:=fun k (h : k < 4)=>nu hC f k h
 have kg:=fun k (h : k < 4)=>nu hC g k h
 refine aE hC (nf:=N294) rfl rfl ?_
 rw [bk] at kf ⊢
 rw [bk] at kg ⊢
 simp [N294]
 refine az Nat (fun i=>[(2,.ptr (bk f)),(3,.ptr (bk g)),(5,.int .i64 i)]) (fun i=>i <= 3 /\ ∀ a,a < i -> ∀ b,b < 3 -> mtc f g a b=false) (fun i=>3 - i) 0 (by simp) (by simp [bk]) ?_
 rintro i ⟨hi,hI⟩
 simp [bk]
 refine al (fun c1=>?_) (fun c1=>?_) <;> simp at c1 <;> simp [c1]
 ·have hw : IntKind.wrap .i64 ((i : Int) + 1)=((i + 1 : Nat) : Int):=ah (by omega) (by omega)
  refine az Nat (fun k=>[(2,.ptr (bk f)),(3,.ptr (bk g)),(5,.int .i64 i),(6,.int .i64 k)]) (fun k=>k <= 3 /\ ∀ b,b < k -> mtc f g i b=false) (fun k=>3 - k) 0 (by simp) (by simp [bk]) ?_
  rintro k ⟨hk,hK⟩
  simp [bk]
  refine al (fun c2=>?_) (fun c2=>?_) <;> simp at c2 <;> simp [c2]
  ·have hw2 : IntKind.wrap .i64 ((k : Int) + 1)=((k + 1 : Nat) : Int):=ah (by omega) (by omega)
   refine aa (kf i (by omega)) (.inl rfl) ?_
   simp
   refine aa (kg k (by omega)) (.inl rfl) ?_
   simp
   by_cases h1 : crn f i=crn g k
   ·simp [h1,hw,hw2]
    refine aa (kf (i + 1) (by omega)) (.inl rfl) ?_
    simp [hw2]
    refine aa (kg (k + 1) (by omega)) (.inl rfl) ?_
    simp
    refine ⟨ai (by decide +kernel),?_⟩
    by_cases h2 : crn f (i + 1)=crn g (k + 1)
    ·simp [h2]
     refine x0y.2 ⟨i,x0G.2 (by omega),x0y.2 ⟨k,x0G.2 (by omega),?_⟩⟩
     simp [mtc,h1,h2]
    ·simp [h2,hw2]
     refine ⟨k + 1,⟨by omega,fun b hb=>?_⟩,by omega,?_⟩
     rotate_left
     ·omega
     rcases x0H.1 hb with h | rfl
     ·exact hK b h
     ·simp [mtc,h2]
   ·simp [h1,hw2]
    refine ⟨ai (by decide +kernel),?_⟩
    refine ⟨k + 1,⟨by omega,fun b hb=>?_⟩,by omega,?_⟩
    rotate_left
    ·omega
    rcases x0H.1 hb with h | rfl
    ·exact hK b h
    ·simp [mtc,h1]
  ·simp [hw]
   refine ⟨i + 1,⟨by omega,fun a ha b hb=>?_⟩,by omega,?_⟩
   rotate_left
   ·omega
   rcases x0H.1 ha with h | rfl
   ·exact hI a h b hb
   ·exact hK b (by omega)
 ·rw [fX]
  rw [Bool.eq_false_iff]
  intro h
  rw [x0y] at h
  obtain ⟨a,ha,h⟩:=h
  rw [x0y] at h
  obtain ⟨b,hb,h⟩:=h
  rw [hI a (by have:=x0G.1 ha;omega) b (x0G.1 hb)] at h
  cases h
set_option maxHeartbeats 2000000 in
theorem BH (m : Msh) (f : Fce) (hn : m.s.length < 2 ^ 40) : C 292 [.agg (bi m),.agg (bk f)] (.bool (okF m f)) []:=by
 have ks:=fun s=>rn hC s
 have E : ∀ a b : Int,okc m a b=(decide (0 <= a) && decide (a < m.s.length) && decide (a ≠ b) && aT (spt m a.toNat)):=fun a b=>rfl
 have E2 : okF m f=(okc m f.a f.b && okc m f.b f.c && okc m f.c f.a && decide (0 <= f.k) && decide (f.k < 16)):=rfl
 refine aE hC (nf:=N292) rfl rfl ?_
 rw [bi,bk]
 simp only [ez] at ks
 simp [N292]
 refine az Nat (fun i=>[(2,.ptr (bi m)),(3,.ptr (bk f)),(5,.ref (.r 10080) 0 3),(10080,.blk 1 [[.int .i64 f.a],[.int .i64 f.b],[.int .i64 f.c]]),(6,.int .i64 i)]) (fun i=>i <= 3 /\ (1 <= i -> okc m f.a f.b=true) /\ (2 <= i -> okc m f.b f.c=true) /\ (3 <= i -> okc m f.c f.a=true)) (fun i=>3 - i) 0 (by simp) (by simp [bk,bi]) ?_
 rintro i ⟨hi,s1,s2,s3⟩
 rcases (by omega : i=0 \/ i=1 \/ i=2 \/ i=3) with rfl | rfl | rfl | rfl
 ·have no : okc m f.a f.b=false -> okF m f=false:=fun h=>by simp [E2,h]
  simp [bk,bi,aK,aN,aO]
  refine al (fun c1=>?_) (fun c1=>?_) <;> simp at c1
  ·simp [c1]
   exact ⟨ai (by decide +kernel),no (by rw [E,decide_eq_false (by omega)];simp)⟩
  ·simp [x03.2 c1]
   refine al (fun c2=>?_) (fun c2=>?_) <;> simp at c2
   ·simp [c2]
    exact ⟨ai (by decide +kernel),no (by rw [E,decide_eq_false (show ¬ f.a < m.s.length by omega)];simp)⟩
   ·simp [x00.2 c2,aK,aN,aO]
    by_cases c3 : f.a=f.b
    ·simp [c3,aK,aN,aO]
     exact ⟨ai (by decide +kernel),no (by rw [E,decide_eq_false (show ¬ f.a ≠ f.b by omega)];simp)⟩
    ·simp [c3,c1,aK,aN,aO]
     refine ⟨by omega,by simp [ez],?_⟩
     simp [b0]
     refine aa (ks (spt m f.a.toNat)) (.inl rfl) ?_
     cases c4 : aT (spt m f.a.toNat)
     ·simp
      exact ⟨ai (by decide +kernel),no (by rw [E,c4];simp)⟩
     ·simp
      refine ⟨ai (by decide +kernel),?_⟩
      refine ⟨1,⟨by omega,fun _=>by rw [E];simp [c1,c3,c4];omega,fun h=>by omega,fun h=>by omega⟩,by omega,?_⟩ <;> simp [aK,aN,aO]
 ·have no : okc m f.b f.c=false -> okF m f=false:=fun h=>by simp [E2,h]
  simp [bk,bi,aK,aN,aO]
  refine al (fun c1=>?_) (fun c1=>?_) <;> simp at c1
  ·simp [c1]
   exact ⟨ai (by decide +kernel),no (by rw [E,decide_eq_false (by omega)];simp)⟩
  ·simp [x03.2 c1]
   refine al (fun c2=>?_) (fun c2=>?_) <;> simp at c2
   ·simp [c2]
    exact ⟨ai (by decide +kernel),no (by rw [E,decide_eq_false (show ¬ f.b < m.s.length by omega)];simp)⟩
   ·simp [x00.2 c2,aK,aN,aO]
    by_cases c3 : f.b=f.c
    ·simp [c3,aK,aN,aO]
     exact ⟨ai (by decide +kernel),no (by rw [E,decide_eq_false (show ¬ f.b ≠ f.c by omega)];simp)⟩
    ·simp [c3,c1,aK,aN,aO]
     refine ⟨by omega,by simp [ez],?_⟩
     simp [b0]
     refine aa (ks (spt m f.b.toNat)) (.inl rfl) ?_
     cases c4 : aT (spt m f.b.toNat)
     ·simp
      exact ⟨ai (by decide +kernel),no (by rw [E,c4];simp)⟩
     ·simp
      refine ⟨ai (by decide +kernel),?_⟩
      refine ⟨2,⟨by omega,fun _=>s1 (by omega),fun _=>by rw [E];simp [c1,c3,c4];omega,fun h=>by omega⟩,by omega,?_⟩ <;> simp [aK,aN,aO]
 ·have no : okc m f.c f.a=false -> okF m f=false:=fun h=>by simp [E2,h]
  simp [bk,bi,aK,aN,aO]
  refine al (fun c1=>?_) (fun c1=>?_) <;> simp at c1
  ·simp [c1]
   exact ⟨ai (by decide +kernel),no (by rw [E,decide_eq_false (by omega)];simp)⟩
  ·simp [x03.2 c1]
   refine al (fun c2=>?_) (fun c2=>?_) <;> simp at c2
   ·simp [c2]
    exact ⟨ai (by decide +kernel),no (by rw [E,decide_eq_false (show ¬ f.c < m.s.length by omega)];simp)⟩
   ·simp [x00.2 c2,aK,aN,aO]
    by_cases c3 : f.c=f.a
    ·simp [c3,aK,aN,aO]
     exact ⟨ai (by decide +kernel),no (by rw [E,decide_eq_false (show ¬ f.c ≠ f.a by omega)];simp)⟩
    ·simp [c3,c1,aK,aN,aO]
     refine ⟨by omega,by simp [ez],?_⟩
     simp [b0]
     refine aa (ks (spt m f.c.toNat)) (.inl rfl) ?_
     cases c4 : aT (spt m f.c.toNat)
     ·simp
      exact ⟨ai (by decide +kernel),no (by rw [E,c4];simp)⟩
     ·simp
      refine ⟨ai (by decide +kernel),?_⟩
      refine ⟨3,⟨by omega,fun _=>s1 (by omega),fun _=>s2 (by omega),fun _=>by rw [E];simp [c1,c3,c4];omega⟩,by omega,?_⟩ <;> simp [aK,aN,aO]
 ·have t1:=s1 (by omega)
  have t2:=s2 (by omega)
  have t3:=s3 (by omega)
  simp [bk,bi,E2,t1,t2,t3]
  refine al (fun c1=>?_) (fun c1=>?_) <;> simp at c1 <;> simp [c1] <;> rw [E2,t1,t2,t3] <;> simp [c1]
  omega
theorem BF (n : Nat) (hn : n < 100) : C 290 [.int .i64 n] (.str (nJ n [])) []:=by
 refine aE hC (nf:=N290) rfl rfl ?_
 simp [N290]
 refine az (Nat × List UInt8) (fun s=>[(0,.int .i64 s.1),(3,.str s.2)]) (fun s=>s.1 + s.2.length <= n + 1 /\ ((s.2=[] /\ s.1=n) \/ (s.2 ≠ [] /\ pU s.1 s.2=nJ n []))) (fun s=>s.1 + if s.2=[] then 1 else 0) (n,[]) (by simp) (by simp) ?_
 rintro ⟨k,out⟩ ⟨hl,hI⟩
 simp only at hl hI
 have ww : IntKind.wrap .i64 ((k : Int) / 10)=((k / 10 : Nat) : Int):=ah (by omega) (by omega)
 have wq : IntKind.wrap .i64 (48 + (k : Int) % 10)=48 + (k : Int) % 10:=ah rfl (by omega)
 have et : (k : Int).tmod 10=(k : Int) % 10:=Int.tmod_eq_emod_of_nonneg (by omega)
 have wd : IntKind.u8.wrap (48 + (k : Int) % 10)=48 + (k : Int) % 10:=by
  have e1 : IntKind.u8.signed=false:=rfl
  have e3 : (2 ^ IntKind.u8.bits : Int)=256:=rfl
  unfold IntKind.wrap
  simp only [e1,e3,Bool.false_and]
  simp
  omega
 have wdd : IntKind.u8.wrap (IntKind.wrap .i64 (48 + (k : Int).tmod 10))=48 + (k : Int) % 10:=by rw [et,wq,wd]
 have hda : (k : Int) / 10=((k / 10 : Nat) : Int):=by omega
 have wb : fg [.int .u8 (48 + (k : Int) % 10)]=oP k:=by
  have : (48 + (k : Int) % 10).toNat=48 + k % 10:=by omega
  simp only [fg,oP,this]
 have hstep : pU (k / 10) (oP k::out)=nJ n [] \/ (k=0 /\ out ≠ []):=by
  rcases hI with ⟨rfl,rfl⟩ | ⟨h1,h2⟩
  ·exact .inl (mW _ _).symm
  ·by_cases h : k=0
   ·exact .inr ⟨h,h1⟩
   ·rw [pU,if_neg h] at h2
    rw [<- mW,h2]
    exact .inl rfl
 by_cases hk : 0 < k
 ·have h3 : pU (k / 10) (oP k::out)=nJ n []:=by
   rcases hstep with h | h
   ·exact h
   ·omega
  simp [hk,wdd,ww]
  refine ⟨⟨48 + k % 10,by omega,by omega⟩,by omega,k / 10,_,⟨by simp;omega,.inr ⟨by simp,?_⟩⟩,?_,hda,rfl⟩
  ·rw [wb];exact h3
  ·simp
   split <;> omega
 ·have h0 : k=0:=by omega
  subst h0
  by_cases ho : out=[]
  ·subst ho
   simp at hstep
   have w48 : IntKind.u8.wrap (IntKind.wrap .i64 48)=48:=by decide
   simp [w48]
   refine ⟨⟨48,rfl,by omega⟩,0,_,⟨by simp,.inr ⟨by simp,?_⟩⟩,⟨rfl,by simp⟩,by decide,rfl⟩
   have : fg [.int .u8 48]=oP 0:=by decide
   rw [this]
   exact hstep
  ·rcases hI with ⟨h1,_⟩ | ⟨_,h2⟩
   ·exact absurd h1 ho
   ·rw [pU,if_pos rfl] at h2
    rw [<- h2]
    simp [ho]
end Go.Gv
