/-
  Texts of the proof: GvR, GvEtf, GvN, ItJ, GvT, GvT5, GvT6, GvU, K1, K3, GvW, GvX, H1, J1, A1, J2.
-/
import Derived.Test.YteaonmajblajnaaGreatDoorX4
import Derived.SizedLaws
import Derived.ProofKit
import Derived.Test.YteaonmajblajnaaGreatDoorX5
import Derived.Test.YteaonmajblajnaaGreatDoorProg
import Derived.KernelRfl
import Derived.Shelf.Small.Bits
import Derived.Shelf.Small.Wraps
import Derived.Shelf.Strconv.Itoa0
import Derived.Shelf.Strconv.Itoa1
import Derived.Shelf.LaysM
import Derived.Shelf.Strconv.Itoa2
import Derived.Shelf.Strconv.Itoa3
import Derived.Shelf.Bits.Mul64
import Derived.Shelf.Slices.Turned
import Derived.Shelf.Slices.Equal
import Derived.Ground.Names2Prog
import Derived.Shelf.Slices.SearchI
import Derived.Shelf.Slices.Empties2
import Derived.Ground.SlsfProg
import Derived.Shelf.SlSortCmp.NoneTotal
import Derived.Sort.Row
import Derived.Sort.Grow
import Derived.Shelf.SlSortCmp.WholeK
import Derived.Shelf.Small.Strs
import Derived.Lib.Bytealg
set_option linter.all false
namespace Go.Gv
open Go.RowKit Go.ChangeShapes Go.WideShapes Go.ChangeAt
inductive Sh where
 | int (k : IntKind)
 | bool
 | str
 | sl (row : List Sh)
mutual
def gQ : Sh -> D -> Prop
 | .int k,d=>∃ n,d=.int k n /\ (Lit.int k n).wf=true
 | .bool,d=>∃ b,d=.bool b
 | .str,d=>∃ s,d=.str s /\ s.length < 140737488355328
 | .sl row,d=>∃ es,(d=.sl es \/ (d=.nils /\ es=[])) /\ es.length < 140737488355328 /\ ∀ e ∈ es,b8 row e
def b8 : List Sh -> List D -> Prop
 | [],ds=>ds=[]
 | s::ss,ds=>∃ d r,ds=d::r /\ gQ s d /\ b8 ss r
end
theorem b8.length : ∀ {ss : List Sh} {ds : List D},b8 ss ds -> ds.length=ss.length
 | [],ds,h=>by simp only [b8] at h;simp [h]
 | s::ss,ds,h=>by
  simp only [b8] at h
  obtain ⟨d,r,rfl,_,h2⟩:=h
  simp [b8.length h2]
theorem b8.append : ∀ {ss ts : List Sh} {ds es : List D},b8 ss ds -> b8 ts es -> b8 (ss++ts) (ds++es)
 | [],ts,ds,es,h,h'=>by simp only [b8] at h;subst h;exact h'
 | s::ss,ts,ds,es,h,h'=>by
  simp only [b8] at h
  obtain ⟨d,r,rfl,h1,h2⟩:=h
  exact ⟨d,r++es,rfl,h1,b8.append h2 h'⟩
def nF (P : Program) (rec : TypeId -> Option (List Sh)) : List Field -> Nat -> Option (List Sh)
 | [],_=>some []
 | f::fs,off=>if f.offset=off then (match rec f.type with
   | some l=>if l.length=P.cellsOf f.type then (match nF P rec fs (off + l.length) with
    | some r=>some (l++r)
    | none=>none) else none
   | none=>none) else none
def n7 (P : Program) : Nat -> TypeId -> Option (List Sh)
 | 0,_=>none
 | n + 1,t=>match P.underlying t with
  | some .bool=>some [.bool]
  | some (.int k)=>some [.int k]
  | some .string=>some [.str]
  | some (.slice e)=>(match n7 P n e with
   | some l=>if l.length=P.cellsOf e /\ 1 <= P.bytesOf e then some [.sl l] else none
   | none=>none)
  | some (.struct fs)=>(match nF P (n7 P n) fs.toList 0 with
   | some l=>if l.length=P.cellsOf t then some l else none
   | none=>none)
  | _=>none
section
variable {H : Type} {enc : TypeId × Value -> H} {P : Program} {F : Fid} {w : World} {sp : Nat -> Bool}
abbrev oq (w : World) : Mem:=fun p=>w.cell? p
def s6 (enc : TypeId × Value -> H) (P : Program) (F : Fid) (w : World) (sp : Nat -> Bool) (n : Nat) (t : TypeId) (shs : List Sh) : Prop :=
 ∀ (cs : List Value) (d : DataW H) (ps : List MemPlace),DataW.trod enc P w 0 sp true n t cs=some (d,ps) -> (d.weights P t).all (· <= reachBytes)=true -> ∃ ds,b8 shs ds /\ ap F (oq w) ds cs
theorem il {α β : Type} {f : α -> Option β} {x : α} {l : List α} {ys : List β} (h : (x::l).mapM f=some ys) : ∃ y r,f x=some y /\ l.mapM f=some r /\ ys=y::r:=by
 rw [List.mapM_cons] at h
 cases hx : f x with
 | none=>rw [hx] at h;cases h
 | some y =>
  cases hl : l.mapM f with
  | none=>rw [hx,hl] at h;cases h
  | some r =>
   rw [hx,hl] at h
   exact ⟨y,r,rfl,rfl,by cases h;rfl⟩
theorem ma {n m : Nat} (ih : ∀ t shs,n7 P m t=some shs -> s6 enc P F w sp n t shs) {cs : List Value} : ∀ (fs : List Field) (off : Nat) (xs : List (DataW H × List MemPlace)) (shs : List Sh),
  (fs.mapM fun f=>DataW.trod enc P w 0 sp true n f.type ((cs.drop f.offset).take (P.cellsOf f.type)))=some xs -> nF P (n7 P m) fs off=some shs -> (DataW.weightsEach P (fs.map (·.type)) (xs.map (·.1))).all (· <= reachBytes)=true -> cs.length=off + shs.length ->
   ∃ ds,b8 shs ds /\ ap F (oq w) ds (cs.drop off)
 | [],off,xs,shs,_,h2,_,h4=>by
  cases h2
  exact ⟨[],rfl,by simp only [ap];exact List.drop_of_length_le (by simpa using Nat.le_of_eq h4)⟩
 | f::fs,off,xs,shs,h1,h2,h3,h4=>by
  obtain ⟨y,r,e1,e2,rfl⟩:=il h1
  simp only [nF] at h2
  split at h2
  case isFalse=>cases h2
  rename_i ho
  split at h2
  case h_2=>cases h2
  rename_i l hl
  split at h2
  case isFalse=>cases h2
  rename_i hlen
  split at h2
  case h_2=>cases h2
  rename_i rs hr
  cases h2
  simp only [List.map_cons,DataW.weightsEach,List.all_append,Bool.and_eq_true] at h3
  rw [List.length_append] at h4
  obtain ⟨ds1,g1,g2⟩:=ih f.type l hl _ y.1 y.2 e1 h3.1
  obtain ⟨ds2,g3,g4⟩:=ma ih fs (off + l.length) r rs e2 hr h3.2 (by omega)
  refine ⟨ds1++ds2,g1.append g3,?_⟩
  rw [ho,<- hlen] at g2
  have:=g2.append g4
  rwa [<- List.drop_drop,List.take_append_drop] at this
theorem mb {n k : Nat} {e : TypeId} {l : List Sh} {a : Addr} (hl : l.length=k) (ih : s6 enc P F w sp n e l) : ∀ (c s : Nat) (xs : List (DataW H × List MemPlace)),
  ((List.range' s c).mapM fun i=>(w.cells? 0 (a.add (i * k)) k).bind (DataW.trod enc P w 0 sp true n e))=some xs -> (DataW.weightsAll P e (xs.map (·.1))).all (· <= reachBytes)=true ->
   ∃ (es : List (List D)) (vs : List Value),es.length=c /\ xs.length=c /\ (∀ r ∈ es,b8 l r) /\ aZ F (oq w) es vs /\ ∀ j v,vs[j]? = some v -> w.cell? (a.add (s * k + j))=some v
 | 0,s,xs,h,_=>by
  cases h
  exact ⟨[],[],rfl,rfl,by simp,by simp [aZ],fun j v h=>by simp at h⟩
 | c + 1,s,xs,h,hw=>by
  rw [List.range'_succ] at h
  obtain ⟨y,r,e1,e2,rfl⟩:=il h
  rw [Option.bind_eq_some_iff] at e1
  obtain ⟨row,c1,c2⟩:=e1
  simp only [List.map_cons,DataW.weightsAll,List.all_append,Bool.and_eq_true] at hw
  obtain ⟨ds,g1,g2⟩:=ih row y.1 y.2 c2 hw.1
  obtain ⟨es,vs,h1,h2,h3,h4,h5⟩:=mb hl ih c (s + 1) r e2 hw.2
  have hrow:=World.cells?_some c1
  refine ⟨ds::es,row++vs,by simp [h1],by simp [h2],?_,⟨row,vs,rfl,g2,h4⟩,fun j v hj=>?_⟩
  ·intro x hx
   rcases List.mem_cons.1 hx with rfl | hx
   ·exact g1
   ·exact h3 x hx
  ·have hrl : row.length=k:=by rw [g2.length,g1.length,hl]
   have addadd : ∀ i j,(a.add i).add j=a.add (i + j):=fun i j=>by
    unfold Addr.add
    by_cases hi : i=0 <;> by_cases hj : j=0 <;> simp [hi,hj,Nat.add_assoc]
   by_cases hjk : j < k
   ·rw [List.getElem?_append_left (by omega)] at hj
    have:=hrow.2.2 j hjk
    rw [hj,addadd] at this
    exact this
   ·rw [List.getElem?_append_right (by omega)] at hj
    have:=h5 (j - row.length) v hj
    rw [hrl] at this
    rwa [show (s + 1) * k + (j - k)=s * k + j by rw [Nat.succ_mul];omega] at this
theorem n5 : ∀ (m : Nat) (n : Nat) (t : TypeId) (shs : List Sh),n7 P m t=some shs -> s6 enc P F w sp n t shs
 | 0,_,_,_,h=>by cases h
 | m + 1,0,t,shs,_=>fun cs d ps h _=>by simp [DataW.trod] at h
 | m + 1,n + 1,t,shs,h=>by
  intro cs d ps ht hw
  rw [n7] at h
  split at h
  ·rename_i hu
   cases h
   unfold DataW.trod at ht;rw [hu] at ht
   split at ht <;> try (simp_all;done)
   rename_i b _
   refine ⟨[.bool b],⟨_,_,rfl,⟨b,rfl⟩,rfl⟩,by simp [ap,af]⟩
  ·rename_i k hu
   cases h
   unfold DataW.trod at ht;rw [hu] at ht
   split at ht <;> try (simp_all;done)
   rename_i k1 k2 x h1
   simp only [Option.some.injEq,TypeDesc.int.injEq] at h1
   subst h1
   split at ht
   ·rename_i hk
    obtain ⟨rfl,hwf⟩:=hk
    exact ⟨[.int _ x],⟨_,_,rfl,⟨x,rfl,hwf⟩,rfl⟩,by simp [ap,af]⟩
   ·cases ht
  ·rename_i hu
   cases h
   unfold DataW.trod at ht;rw [hu] at ht
   split at ht <;> try (simp_all;done)
   rename_i s _
   split at ht
   ·rename_i hs
    simp only [Option.some.injEq,Prod.mk.injEq] at ht
    obtain ⟨rfl,rfl⟩:=ht
    simp only [DataW.weights,List.all_cons,List.all_nil,Bool.and_true,decide_eq_true_eq] at hw
    refine ⟨[.str s.data.toList],⟨_,_,rfl,⟨_,rfl,?_⟩,rfl⟩,?_⟩
    ·have:=reachBytes_lt;omega
    ·obtain ⟨s⟩:=s
     simp [ap,af]
   ·cases ht
  ·rename_i e hu
   split at h
   case h_2=>cases h
   rename_i l hl
   split at h
   case isFalse=>cases h
   rename_i hk
   cases h
   unfold DataW.trod at ht;rw [hu] at ht
   split at ht <;> try (simp_all;done)
   ·refine ⟨[.nils],⟨_,_,rfl,⟨[],.inr ⟨rfl,rfl⟩,by simp,by simp⟩,rfl⟩,by simp [ap,af]⟩
   ·rename_i e' a len cap h1
    simp only [Option.some.injEq,TypeDesc.slice.injEq] at h1
    subst h1
    simp only at ht
    split at ht
    case isFalse=>cases ht
    rename_i hb
    rw [Option.bind_eq_some_iff] at ht
    obtain ⟨xs,e1,e2⟩:=ht
    rw [Option.map_eq_some_iff] at e2
    obtain ⟨rest,e3,e4⟩:=e2
    simp only [Prod.mk.injEq] at e4
    obtain ⟨rfl,rfl⟩:=e4
    simp only [DataW.weights,hu,List.all_cons,List.all_append,Bool.and_eq_true,decide_eq_true_eq] at hw
    obtain ⟨w1,w2,w3⟩:=hw
    rw [List.range_eq_range'] at e1
    obtain ⟨es,vs,g1,g2,g3,g4,g5⟩:=mb (F:=F) hk.1 (n5 m n e l hl) len 0 xs e1 w2
    refine ⟨[.sl es],⟨_,_,rfl,⟨es,.inl rfl,?_,g3⟩,rfl⟩,?_⟩
    ·have h5:=reachBytes_lt
     have h6 : es.length * 1 <= (xs.length + rest.length) * P.bytesOf e:=Nat.mul_le_mul (by omega) hk.2
     simp only [List.length_map] at w1
     omega
    ·simp only [ap]
     refine ⟨_,_,rfl,?_,rfl⟩
     simp only [af]
     refine ⟨some a,cap,vs,P.cellsOf e,by rw [g1],by omega,g4,fun r hr=>by rw [(g3 r hr).length,hk.1],fun _=>⟨a,rfl,fun j v hj=>?_⟩⟩
     have:=g5 j v hj
     simpa using this
  ·rename_i fs hu
   split at h
   case h_2=>cases h
   rename_i l hl
   split at h
   case isFalse=>cases h
   rename_i hk
   cases h
   unfold DataW.trod at ht;rw [hu] at ht
   split at ht <;> try (simp_all;done)
   rename_i fs' h1
   simp only [Option.some.injEq,TypeDesc.struct.injEq] at h1
   subst h1
   split at ht
   case isFalse=>cases ht
   rename_i hc
   rw [Option.map_eq_some_iff] at ht
   obtain ⟨xs,e1,e2⟩:=ht
   simp only [Prod.mk.injEq] at e2
   obtain ⟨rfl,rfl⟩:=e2
   simp only [DataW.weights,hu] at hw
   obtain ⟨ds,g1,g2⟩:=ma (F:=F) (n:=n) (fun t shs h=>n5 m n t shs h) fs.toList 0 xs _ e1 hl hw (by omega)
   exact ⟨ds,g1,by simpa using g2⟩
  ·cases h
theorem jd {t : TypeId} {fs : Array Field} {m : Nat} {shs : List Sh} {base : Nat} {v : Value} {d : DataW H} {ps : List MemPlace} (hu : P.underlying t=some (.struct fs)) (hsh : n7 P m t=some shs) (hv : Value.okWide P w .any base t v) (h : DataW.Trod enc P w 0 sp true t v d ps) (hw : (d.weights P t).all (· <= reachBytes)=true) :
  ∃ ds,b8 shs ds /\ af F (oq w) (.agg ds) v:=by
 obtain ⟨cs,rfl,_⟩:=okWide_struct hu hv
 obtain ⟨n,hn⟩:=h
 obtain ⟨ds,g1,g2⟩:=n5 (F:=F) m n t shs hsh _ d ps hn hw
 exact ⟨ds,g1,by simp only [af];exact ⟨cs.toList,by simp,g2⟩⟩
end
theorem mf {α : Type} {f : α -> List D} {es : List (List D)} (h : ∀ e ∈ es,∃ x,e=f x) : ∃ xs : List α,es=xs.map f:=by
 induction es with
 | nil=>exact ⟨[],rfl⟩
 | cons e es ih =>
  obtain ⟨x,rfl⟩:=h e (by simp)
  obtain ⟨xs,rfl⟩:=ih (fun e he=>h e (by simp [he]))
  exact ⟨x::xs,rfl⟩
end Go.Gv
namespace Go.Gv
def zK (P : Program) (F : Fid) (prog : Nat -> Option az) (tbl : List (Nat × Nat)) : Bool:=tbl.all fun p=>lV P p.2 && match prog p.1 with
 | some nf=>fj P F p.2 nf
 | none=>true
theorem so {tbl : List (Nat × Nat)} {g f : Nat} (h : tbl.lookup g=some f) : (g,f) ∈ tbl:=by
 induction tbl with
 | nil=>cases h
 | cons p r ih =>
  obtain ⟨a,b⟩:=p
  rw [List.lookup_cons] at h
  cases e : g == a with
  | true=>rw [e] at h;simp at e h;subst e;subst h;simp
  | false=>rw [e] at h;simp [ih h]
theorem seat {P : Program} {tbl : List (Nat × Nat)} {ty : Nat -> TypeId} {prog : Nat -> Option az} (hm : P.follows .mixedOrders=true) (hl : laidOutB P=true) (h : zK P ⟨P,fun g=>tbl.lookup g,ty⟩ prog tbl=true) :
  bS P ⟨P,fun g=>tbl.lookup g,ty⟩ (gN P ⟨P,fun g=>tbl.lookup g,ty⟩) /\ aA prog (gN P ⟨P,fun g=>tbl.lookup g,ty⟩):=by
 have key : ∀ g f,tbl.lookup g=some f -> lV P f=true /\ ∀ nf,prog g=some nf -> fj P ⟨P,fun g=>tbl.lookup g,ty⟩ f nf=true:=fun g f e=>by
  have:=List.all_eq_true.1 h _ (so e)
  simp only [Bool.and_eq_true] at this
  refine ⟨this.1,fun nf hnf=>?_⟩
  have:=this.2
  rw [hnf] at this
  exact this
 exact pq hm (fun g f e=>(key g f e).1) hl rfl (fun g f nf e hp=>(key g f e).2 nf hp)
end Go.Gv

namespace Go.Gv
open Go.Proofs
def TryzTbl : List (Nat × Nat) := [(0, 2), (670, 4), (677, 11), (678, 12), (680, 14), (681, 15), (682, 16), (683, 17), (684, 18), (685, 19), (19, 20), (686, 21), (687, 22), (690, 25), (691, 26), (215, 37), (702, 42), (703, 43), (704, 44), (705, 45), (708, 48), (709, 49), (710, 50), (711, 51), (712, 52), (713, 53), (714, 54), (715, 55), (285, 56), (716, 57), (717, 58), (718, 59), (719, 60), (722, 63), (723, 64), (274, 69), (726, 71), (727, 72), (257, 76), (258, 77), (234, 78), (11, 79), (303, 82), (729, 83), (730, 84), (237, 85), (313, 86), (355, 87), (359, 88), (731, 89), (732, 90), (360, 91), (733, 92), (291, 95), (735, 96), (286, 97), (736, 98), (737, 99), (277, 100), (738, 101), (739, 102), (275, 103), (276, 104), (233, 105), (289, 111), (290, 112), (292, 113), (293, 114), (294, 115), (295, 116), (273, 117), (35, 118), (740, 121), (267, 122), (239, 123), (361, 124), (111, 134), (749, 135), (312, 136), (284, 137), (269, 138), (271, 139), (272, 140), (323, 149), (324, 150), (302, 151), (304, 152), (305, 153), (306, 154), (307, 155), (308, 156), (298, 157), (309, 158), (310, 159), (311, 160), (127, 161), (299, 162), (278, 163), (319, 169), (320, 170), (321, 171), (300, 172), (301, 173), (328, 178), (99, 181), (327, 182), (106, 183), (104, 184), (108, 185), (105, 187), (103, 188), (107, 189), (112, 190), (92, 191), (110, 192), (91, 198), (113, 199), (102, 201)]
def TryzTys : List (Nat × Nat) := [(1, 4), (3, 209), (4, 23)]
set_option maxRecDepth 100000 in
theorem Tryz_all : zK Tryz.prog ⟨Tryz.prog, fun g => TryzTbl.lookup g, fun t => (TryzTys.lookup t).getD 0⟩ prog TryzTbl = true := by kernel_rfl
end Go.Gv

namespace Go.Gv
open Go.RowKit
theorem qz {P : Program} {F : Fid} {g : Nat} {ds : List D} {d : D} (h : ∀ f,F g=some f -> ∀ (M : Mem) (w : World) (vs : List Value),ap F M ds vs -> ∃ v,af F M d v /\ Calls P f vs.toArray w (fun e w'=>e=.returned v /\ w'=w)) : gN P F g ds d []:=by
 refine ⟨trivial,fun f hf M w vs hh r=>?_⟩
 obtain ⟨v,hv,hc⟩:=h f hf M w vs r
 refine hc.mono ?_
 rintro e w' ⟨rfl,rfl⟩
 exact ⟨v,M,rfl,Bel.refl _,Mem.le_refl _,fun p h1 h2=>absurd h1 h2,hh,hv⟩
end Go.Gv

namespace Go.Proofs
open Go.Shelf
def Tryz.pdqL_ren : Go.Shelf.Ren := ⟨fun | 14 => 93 | 20 => 125 | 21 => 126 | 22 => 127 | 23 => 128 | 24 => 129 | 25 => 130 | 26 => 131 | 27 => 132 | 46 => 164 | 47 => 165 | 48 => 166 | 49 => 167 | 50 => 168 | 15 => 94 | 57 => 180 | 28 => 133 | 29 => 134 | n => n, fun | 24 => 51 | 22 => 41 | 3 => 3 | 25 => 108 | 4 => 4 | 0 => 0 | 46 => 177 | 45 => 176 | 50 => 155 | 66 => 215 | 39 => 139 | 55 => 144 | 70 => 219 | 76 => 229 | 77 => 143 | 53 => 183 | 5 => 5 | 9 => 9 | n => n, fun | n => n⟩
theorem Tryz.pdqL : Go.Proofs.SlLaysF0.n14 Tryz.prog Tryz.pdqL_ren := {
 mixed := by kernel_rfl
 f14 := ⟨Tryz.f93.name, by decide, Tryz.func93.trans (congrArg some (by kernel_rfl))⟩
 f15 := Tryz.func94.trans (congrArg some (by kernel_rfl))
 f20 := ⟨Tryz.f125.name, by decide, Tryz.func125.trans (congrArg some (by kernel_rfl))⟩
 f21 := ⟨Tryz.f126.name, by decide, Tryz.func126.trans (congrArg some (by kernel_rfl))⟩
 f22 := ⟨Tryz.f127.name, by decide, Tryz.func127.trans (congrArg some (by kernel_rfl))⟩
 f23 := ⟨Tryz.f128.name, by decide, Tryz.func128.trans (congrArg some (by kernel_rfl))⟩
 f24 := ⟨Tryz.f129.name, by decide, Tryz.func129.trans (congrArg some (by kernel_rfl))⟩
 f25 := ⟨Tryz.f130.name, by decide, Tryz.func130.trans (congrArg some (by kernel_rfl))⟩
 f26 := ⟨Tryz.f131.name, by decide, Tryz.func131.trans (congrArg some (by kernel_rfl))⟩
 f27 := ⟨Tryz.f132.name, by decide, Tryz.func132.trans (congrArg some (by kernel_rfl))⟩
 f28 := Tryz.func133.trans (congrArg some (by kernel_rfl))
 f29 := Tryz.func134.trans (congrArg some (by kernel_rfl))
 f46 := ⟨Tryz.f164.name, by decide, Tryz.func164.trans (congrArg some (by kernel_rfl))⟩
 f47 := Tryz.func165.trans (congrArg some (by kernel_rfl))
 f48 := Tryz.func166.trans (congrArg some (by kernel_rfl))
 f49 := ⟨Tryz.f167.name, by decide, Tryz.func167.trans (congrArg some (by kernel_rfl))⟩
 f50 := ⟨Tryz.f168.name, by decide, Tryz.func168.trans (congrArg some (by kernel_rfl))⟩
 f57 := ⟨Tryz.f180.name, by decide, Tryz.func180.trans (congrArg some (by kernel_rfl))⟩
 t0 := Tryz.underlying0
 a0 := Tryz.isAgg0
 z0 := Tryz.sizeOf0
 v0 := Tryz.zeroValue0
 t3 := Tryz.underlying3
 a3 := Tryz.isAgg3
 z3 := Tryz.sizeOf3
 v3 := Tryz.zeroValue3
 t4 := Tryz.underlying4
 a4 := Tryz.isAgg4
 z4 := Tryz.sizeOf4
 v4 := Tryz.zeroValue4
 t5 := Tryz.underlying5
 a5 := Tryz.isAgg5
 z5 := Tryz.sizeOf5
 v5 := Tryz.zeroValue5
 t9 := Tryz.underlying9
 a9 := Tryz.isAgg9
 z9 := Tryz.sizeOf9
 v9 := Tryz.zeroValue9
 t22 := Tryz.underlying41
 a22 := Tryz.isAgg41
 z22 := Tryz.sizeOf41
 v22 := Tryz.zeroValue41
 t25 := Tryz.underlying108
 a25 := Tryz.isAgg108
 z25 := Tryz.sizeOf108
 v25 := Tryz.zeroValue108
 t39 := Tryz.underlying139
 a39 := Tryz.isAgg139
 z39 := Tryz.sizeOf139
 v39 := Tryz.zeroValue139
 t45 := Tryz.underlying176
 a45 := Tryz.isAgg176
 z45 := Tryz.sizeOf176
 v45 := Tryz.zeroValue176
 t46 := Tryz.underlying177
 a46 := Tryz.isAgg177
 z46 := Tryz.sizeOf177
 v46 := Tryz.zeroValue177
 t50 := Tryz.underlying155
 a50 := Tryz.isAgg155
 z50 := Tryz.sizeOf155
 v50 := Tryz.zeroValue155
 t53 := Tryz.underlying183
 a53 := Tryz.isAgg183
 z53 := Tryz.sizeOf183
 v53 := Tryz.zeroValue183
 t55 := Tryz.underlying144
 a55 := Tryz.isAgg144
 z55 := Tryz.sizeOf144
 v55 := Tryz.zeroValue144
 t66 := Tryz.underlying215
 a66 := Tryz.isAgg215
 z66 := Tryz.sizeOf215
 v66 := Tryz.zeroValue215
 t70 := Tryz.underlying219
 a70 := Tryz.isAgg219
 z70 := Tryz.sizeOf219
 v70 := Tryz.zeroValue219
 t76 := Tryz.underlying229
 a76 := Tryz.isAgg229
 z76 := Tryz.sizeOf229
 v76 := Tryz.zeroValue229
 t77 := Tryz.underlying143
 a77 := Tryz.isAgg143
 z77 := Tryz.sizeOf143
 v77 := Tryz.zeroValue143 }
def Tryz.lays171_ren : Go.Shelf.Ren := ⟨fun | 171 => 161 | 243 => 179 | 246 => 186 | 283 => 194 | 284 => 195 | 285 => 196 | 286 => 197 | 129 => 134 | 317 => 202 | 318 => 203 | 319 => 204 | 320 => 205 | 337 => 206 | 338 => 207 | n => n, fun | 3 => 3 | 9 => 9 | 2 => 2 | 4 => 4 | 171 => 246 | 0 => 0 | 53 => 144 | 37 => 199 | 5 => 5 | 173 => 248 | 212 => 255 | 51 => 183 | 20 => 20 | 213 => 256 | 46 => 139 | 232 => 257 | 233 => 258 | n => n, fun | 17 => 2 | 18 => 3 | 19 => 4 | n => n⟩
theorem Tryz.lays171 : Go.Proofs.Lays.n171 Tryz.prog Tryz.lays171_ren := {
 mixed := by kernel_rfl
 f129 := Tryz.func134.trans (congrArg some (by kernel_rfl))
 f171 := Tryz.func161.trans (congrArg some (by kernel_rfl))
 f243 := Tryz.func179.trans (congrArg some (by kernel_rfl))
 f246 := Tryz.func186.trans (congrArg some (by kernel_rfl))
 f283 := Tryz.func194.trans (congrArg some (by kernel_rfl))
 f284 := Tryz.func195.trans (congrArg some (by kernel_rfl))
 f285 := Tryz.func196.trans (congrArg some (by kernel_rfl))
 f286 := Tryz.func197.trans (congrArg some (by kernel_rfl))
 f317 := Tryz.func202.trans (congrArg some (by kernel_rfl))
 f318 := Tryz.func203.trans (congrArg some (by kernel_rfl))
 f319 := Tryz.func204.trans (congrArg some (by kernel_rfl))
 f320 := Tryz.func205.trans (congrArg some (by kernel_rfl))
 f337 := Tryz.func206.trans (congrArg some (by kernel_rfl))
 f338 := Tryz.func207.trans (congrArg some (by kernel_rfl))
 t0 := Tryz.underlying0
 a0 := Tryz.isAgg0
 z0 := Tryz.sizeOf0
 v0 := Tryz.zeroValue0
 t2 := Tryz.underlying2
 a2 := Tryz.isAgg2
 z2 := Tryz.sizeOf2
 v2 := Tryz.zeroValue2
 t3 := Tryz.underlying3
 a3 := Tryz.isAgg3
 z3 := Tryz.sizeOf3
 v3 := Tryz.zeroValue3
 t4 := Tryz.underlying4
 a4 := Tryz.isAgg4
 z4 := Tryz.sizeOf4
 v4 := Tryz.zeroValue4
 t5 := Tryz.underlying5
 a5 := Tryz.isAgg5
 z5 := Tryz.sizeOf5
 v5 := Tryz.zeroValue5
 t9 := Tryz.underlying9
 a9 := Tryz.isAgg9
 z9 := Tryz.sizeOf9
 v9 := Tryz.zeroValue9
 t20 := Tryz.underlying20
 a20 := Tryz.isAgg20
 z20 := Tryz.sizeOf20
 v20 := Tryz.zeroValue20
 t37 := Tryz.underlying199
 a37 := Tryz.isAgg199
 z37 := Tryz.sizeOf199
 v37 := Tryz.zeroValue199
 t46 := Tryz.underlying139
 a46 := Tryz.isAgg139
 z46 := Tryz.sizeOf139
 v46 := Tryz.zeroValue139
 t51 := Tryz.underlying183
 a51 := Tryz.isAgg183
 z51 := Tryz.sizeOf183
 v51 := Tryz.zeroValue183
 t53 := Tryz.underlying144
 a53 := Tryz.isAgg144
 z53 := Tryz.sizeOf144
 v53 := Tryz.zeroValue144
 t171 := Tryz.underlying246
 a171 := Tryz.isAgg246
 z171 := Tryz.sizeOf246
 v171 := Tryz.zeroValue246
 t173 := Tryz.underlying248
 a173 := Tryz.isAgg248
 z173 := Tryz.sizeOf248
 v173 := Tryz.zeroValue248
 t212 := Tryz.underlying255
 a212 := Tryz.isAgg255
 z212 := Tryz.sizeOf255
 v212 := Tryz.zeroValue255
 t213 := Tryz.underlying256
 a213 := Tryz.isAgg256
 z213 := Tryz.sizeOf256
 t232 := Tryz.underlying257
 a232 := Tryz.isAgg257
 z232 := Tryz.sizeOf257
 v232 := Tryz.zeroValue257
 t233 := Tryz.underlying258
 a233 := Tryz.isAgg258
 z233 := Tryz.sizeOf258
 v233 := Tryz.zeroValue258
 g17 := by kernel_rfl
 g18 := by kernel_rfl
 g19 := by kernel_rfl }
open Go.RowKit Go.Sort Go.Lib in
theorem Tryz.strconv_Itoa_small (i : Nat) (hi : i < 100) (w : World) :
  Calls Tryz.prog 161 #[.int .i64 i] w fun e w' => e = .returned (.string ⟨(Lib.decDigits i).toArray⟩) /\ w' = w := Any.strconv_Itoa_small Tryz.lays171 i hi w
open Go.Shelf Go.Lib Go.Sort Go.RowKit
set_option maxHeartbeats 4000000 in
set_option maxRecDepth 100000 in
theorem Tryz.sortN_eq {α : Type} [Inhabited α] (k : Nat) (aE : ∀ w, (isAgg (Tryz.pdqL_ren.t 24)).run Tryz.prog w = .ok true w) (zE : ∀ w, (Go.sizeOf (Tryz.pdqL_ren.t 24)).run Tryz.prog w = .ok k w) (enc : α -> List Value) (hk : ∀ x, (enc x).length = k) (h1 : ∀ x, ∀ v ∈ enc x, v.oneCell' = true) (cf : α -> α -> Int) (hO : SWO (ltOf cf)) (g : Nat) (cb : Array Value) (blk off cap : Nat) (d : Array α) (w : World)
  (eg : ∀ args w, (callFunc g args).run Tryz.prog w = .ok (.enter g args) w) (hcmp : CmpLays Tryz.prog g cb enc k cf blk off d.size w) (hH : HoldsK enc k w blk off d) (hblk : blk < w.heap.size) (hsz : d.size < 4611686018427387904) :
  Calls Tryz.prog 53 #[.slice (some ⟨blk, off, none⟩) d.size cap, .func (.func g) #[] cb] w fun e w' =>
   e = .returned (.tuple #[]) /\ ∃ n os, w' = sortWorldK enc k w blk off n (pdq (ltOf cf) d 0 d.size (Lib.bitLen d.size) true true) os := by
 have L := Tryz.pdqL
 have e14 : ∀ args w, (callFunc 93 args).run Tryz.prog w = .ok (.enter 93 args) w := L.f14.enters rfl
 have e15 : ∀ args w, (callFunc 94 args).run Tryz.prog w = .ok (.enter 94 args) w := enters_of L.f15 (by kernel_rfl) rfl
 have hlim : Lib.bitLen d.size < 4611686018427387904 := Nat.lt_of_le_of_lt (Lib.bitLen_le d.size 62 (by omega) (by omega)) (by omega)
 have hp := AnyQ.pdqsortCmpFunc_all (P := Tryz.prog) (ρ := Tryz.pdqL_ren) L k aE zE enc cf g cb hO blk off cap d w eg hcmp ⟨hk, h1, hH, hblk⟩ (d.size + 1) 0 d.size (Lib.bitLen d.size) d w (by omega) rfl (SWK.start hH) (Nat.zero_le _) (Nat.le_refl _) hsz hlim (Or.inl rfl)
 have hl : Calls Tryz.prog 94 #[.int .u64 (d.size : Int)] w fun e w' => e = .returned (.int .i64 (Lib.bitLen d.size : Nat)) /\ w' = w := by
  have h := Any.bits_Len (SlLaysF0.n15.bits (P := Tryz.prog) (ρ := Tryz.pdqL_ren) { L with }) (d.size : Int) w (by omega) (by omega)
  rwa [Int.toNat_natCast] at h
 have wr : IntKind.u64.wrap (d.size : Int) = d.size := by simp [IntKind.wrap, IntKind.bits, IntKind.signed]; omega
 clear hH hcmp hk h1
 replace hp : Calls Tryz.prog 93 #[.slice (some ⟨blk, off, none⟩) d.size cap, .int .i64 0, .int .i64 d.size, .int .i64 (Lib.bitLen d.size : Nat), .func (.func g) #[] cb] w fun e w' => e = .returned (.tuple #[]) /\ SWK enc k w blk off (pdq (ltOf cf) d 0 d.size (Lib.bitLen d.size) true true) w' := hp
 go_enter Tryz.func53, (rfl : Tryz.f53.ntmps = 14)
 go_wp2_with (first | (go_at_fn 94; refine hl.mono ?_; rintro e w' ⟨rfl, rfl⟩) | (go_at_fn 93; refine hp.mono ?_; rintro e w' ⟨rfl, n, os, rfl⟩))
 go_end0
 exact ⟨rfl, n, os, rfl⟩
set_option maxHeartbeats 4000000 in
set_option maxRecDepth 100000 in
theorem Tryz.sortN_none (p : Option Addr) (cap : Nat) (fv : Value) (w : World) : Calls Tryz.prog 53 #[.slice p 0 cap, fv] w fun e w' => e = .returned (.tuple #[]) /\ w' = w := by
 have L := Tryz.pdqL
 have e14 : ∀ args w, (callFunc 93 args).run Tryz.prog w = .ok (.enter 93 args) w := L.f14.enters rfl
 have e15 : ∀ args w, (callFunc 94 args).run Tryz.prog w = .ok (.enter 94 args) w := enters_of L.f15 (by kernel_rfl) rfl
 have hp : ∀ lim W, Calls Tryz.prog 93 #[.slice p 0 cap, .int .i64 0, .int .i64 0, .int .i64 lim, fv] W fun e w' => e = .returned (.tuple #[]) /\ w' = W := fun lim W => AnyF.pdqsortCmpFunc_none (P := Tryz.prog) (ρ := Tryz.pdqL_ren) L p cap lim fv W
 have hl : ∀ W, Calls Tryz.prog 94 #[.int .u64 0] W fun e w' => e = .returned (.int .i64 (Lib.bitLen 0 : Nat)) /\ w' = W := fun W => by
  have h := Any.bits_Len (SlLaysF0.n15.bits (P := Tryz.prog) (ρ := Tryz.pdqL_ren) { L with }) 0 W (by omega) (by omega)
  exact h
 go_enter Tryz.func53, (rfl : Tryz.f53.ntmps = 14)
 go_wp2_with (first | (go_at_fn 94; refine (hl _).mono ?_; rintro e w' ⟨rfl, rfl⟩) | (go_at_fn 93; refine (hp _ _).mono ?_; rintro e w' ⟨rfl, rfl⟩))
 go_end0
 exact ⟨rfl, rfl⟩
end Go.Proofs

namespace Go.Gv
open Go.Sort
section
variable {P : Program} {F : Fid} {α : Type} [Inhabited α]
def Pk (encD : α -> D) (d : Array α) : List (List D):=d.toList.map fun x=>[encD x]
end
end Go.Gv

namespace Go.Gv
open Go.Sort Go.Proofs Go.Shelf
theorem Bel.grownK {w w' : World} (h : Bel w w') : ∃ q os,w'=grow (w.drewN q) os:=by
 refine ⟨w'.drawn - w.drawn,w'.heap.extract w.heap.size w'.heap.size,?_⟩
 have hh : w'.heap=w.heap++w'.heap.extract w.heap.size w'.heap.size:=by
  apply Array.ext
  ·have:=h.size
   simp only [Array.size_append,Array.size_extract]
   omega
  ·intro i h1 h2
   by_cases hi : i < w.heap.size
   ·rw [Array.getElem_append_left hi]
    have:=h.block i hi
    rw [Array.getElem?_eq_getElem h1,Array.getElem?_eq_getElem hi] at this
    exact Option.some.inj this
   ·rw [Array.getElem_append_right (by omega),Array.getElem_extract]
    congr 1
    omega
 have hd:=h.drawn
 obtain ⟨h1,h2,h3,h4,h5,h6⟩:=h
 cases w
 cases w'
 simp only [grow,World.drewN] at *
 subst h1 h2 h3
 congr 1
 omega
theorem nX {α : Type} [Inhabited α] {enc : α -> List Value} {k : Nat} {w : World} {blk off n : Nat} {d : Array α} {os : Array Obj} {p : Addr} {v : Value} (hp : p.block ≠ blk) (h : w.cell? p=some v) : (sortWorldK enc k w blk off n d os).cell? p=some v:=by
 have hb : p.block < w.heap.size:=by
  unfold World.cell? at h
  cases e : w.heap[p.block]? with
  | none=>rw [e] at h;cases h
  | some _=>exact (Array.getElem?_eq_some_iff.1 e).1
 have e : (sortWorldK enc k w blk off n d os).heap[p.block]? = w.heap[p.block]?:=by
  simp only [sortWorldK,grow,putRowK,putRow,mapBlock,Sort.ahead]
  rw [Array.getElem?_append_left (by simpa using hb),Array.getElem?_modify,if_neg (Ne.symm hp)]
 unfold World.cell? at h ⊢
 rw [e]
 exact h
section
variable {P : Program} {F : Fid} {α : Type} [Inhabited α]
theorem mi {f : FuncId} (k : Nat) (hk0 : 0 < k) (enc : α -> List Value) (encD : α -> List D) (hk : ∀ x,(enc x).length=k) (hkD : ∀ x,(encD x).length=k) (hflat : ∀ (M : Mem) (x : α) (i : Nat) (d : D) (u : Value),(encD x)[i]? = some d -> af F M d u -> (enc x)[i]? = some u) (hrep : ∀ M x,ap F M (encD x) (enc x)) (d d' : Array α) (hsz : d'.size=d.size) (ds : List D)
  (hnone : d.size=0 -> ∀ (M : Mem) (w : World) (vs : List Value) (A : Option Addr),(∀ p v,M p=some v -> w.cell? p=some v) -> ap F M ds vs -> Calls P f (.slice A 0 0::vs).toArray w fun e w'=>e=.returned (.tuple #[]) /\ ∃ n os,w'=grow (Sort.ahead w n) os)
  (hrun : ∀ (M : Mem) (w : World) (vs : List Value) (blk off cap : Nat),(∀ p v,M p=some v -> w.cell? p=some v) -> (∀ p : Addr,p.block=blk -> M p=none) -> ap F M ds vs -> HoldsK enc k w blk off d -> blk < w.heap.size ->
   Calls P f (.slice (some ⟨blk,off,none⟩) d.size cap::vs).toArray w fun e w'=>e=.returned (.tuple #[]) /\ ∃ n os,w'=sortWorldK enc k w blk off n d' os) : te P F f k (d.toList.map encD) ds (d'.toList.map encD):=by
 intro M w vs hh r
 have hl : (d.toList.map encD).length=d.size:=by simp
 refine ⟨fun e A=>?_,fun b o T us cap hM hb hcell hcap hle hu hc=>?_⟩
 ·have h0 : d.size=0:=by rw [<- hl,e];rfl
  refine (hnone h0 M w vs A hh r).mono ?_
  rintro e0 w' ⟨rfl,n,os,rfl⟩
  exact ⟨rfl,rfl,rfl,rfl,by simp [grow,Sort.ahead],fun k hk=>by simp only [grow,Sort.ahead];rw [Array.getElem?_append_left hk],Nat.le_add_right _ _⟩
 ·rw [hl] at hcap ⊢
  have hH : HoldsK enc k w b o d:=fun j hj=>by
   rw [size_flatK] at hj
   have hi : j / k < d.size:=(Nat.div_lt_iff_lt_mul hk0).2 hj
   have hm : j % k < k:=Nat.mod_lt _ hk0
   have hx : (encD d[j / k])[j % k]? = some ((encD d[j / k])[j % k]'(by rw [hkD];exact hm)):=List.getElem?_eq_getElem _
   obtain ⟨u,k1,k2⟩:=hc (j / k) (encD d[j / k]) (j % k) _ (by simp [hi]) hx
   have k3:=hflat _ _ _ _ _ hx k2
   rw [Nat.add_assoc,Nat.mul_comm (j / k) k,Nat.div_add_mod] at k1
   have e1 : (flatK enc k d)[j]! = u:=by
    rw [get_flatK _ _ _ _ hj,getElem!_pos d (j / k) hi]
    have:=(List.getElem?_eq_some_iff.1 k3).2
    rw [getElem!_pos _ _ (by rw [hk];exact hm)]
    exact this
   rw [e1]
   exact ⟨by simp [World.cell?,hcell,k1],by simp [World.frozen?,hcell]⟩
  refine (hrun M w vs b o cap hh hM r hH hb).mono ?_
  rintro e0 w' ⟨rfl,n,os,rfl⟩
  have hput : (sortWorldK enc k w b o n d' os).heap[b]? = some (.cells (putCells id o (flatK enc k d') us.toArray) T (0,0)):=by
   simp only [sortWorldK,grow,putRowK,putRow,mapBlock,Sort.ahead]
   rw [Array.getElem?_append_left (by simpa using hb),Array.getElem?_modify,if_pos rfl,hcell]
   rfl
  refine ⟨rfl,(putCells id o (flatK enc k d') us.toArray).toList,by rw [Array.toArray_toList];exact hput,by simp [putCells],fun i r off x hi hr=>?_,⟨rfl,rfl,rfl,by simp [sortWorldK,grow,putRowK,putRow,mapBlock,Sort.ahead],fun q hq hne=>?_,Nat.le_add_right _ _⟩⟩
  ·simp only [List.getElem?_map,Option.map_eq_some_iff] at hi
   obtain ⟨y,h1,rfl⟩:=hi
   have ho : off < k:=by have:=(List.getElem?_eq_some_iff.1 hr).1;rwa [hkD] at this
   have hi2 : i < d'.size:=by have:=(List.getElem?_eq_some_iff.1 h1).1;simpa using this
   have hy : d'[i]! = y:=by
    rw [getElem!_pos d' i hi2]
    have:=(List.getElem?_eq_some_iff.1 h1).2
    simpa using this
   obtain ⟨u,k1,k2⟩:=(hrep M y).get hr
   have hlt : i * k + off < d'.size * k:=by
    have : i * k + k <= d'.size * k:=by rw [<- Nat.succ_mul];exact Nat.mul_le_mul_right _ hi2
    omega
   have hlt2 : o + i * k + off < us.length:=by
    have h3 : d'.size * k <= cap * k:=Nat.mul_le_mul_right _ (by omega)
    omega
   refine ⟨u,?_,k2⟩
   rw [Array.getElem?_toList]
   simp only [putCells,Array.getElem?_mapIdx,List.getElem?_toArray]
   rw [List.getElem?_eq_getElem hlt2]
   simp only [Option.map_some,size_flatK]
   rw [if_pos ⟨by omega,by omega⟩,show o + i * k + off - o=i * k + off by omega,get_flatK _ _ _ _ hlt]
   have e1 : (i * k + off) / k=i:=by rw [Nat.mul_comm,Nat.mul_add_div hk0,Nat.div_eq_of_lt ho];omega
   have e2 : (i * k + off) % k=off:=by rw [Nat.mul_comm,Nat.mul_add_mod,Nat.mod_eq_of_lt ho]
   rw [e1,e2,hy]
   obtain ⟨z1,z2⟩:=List.getElem?_eq_some_iff.1 k1
   rw [getElem!_pos (enc y) off z1]
   simp [z2]
  ·simp only [sortWorldK,grow,putRowK,putRow,mapBlock,Sort.ahead]
   rw [Array.getElem?_append_left (by simpa using hq),Array.getElem?_modify,if_neg (Ne.symm hne)]
end
end Go.Gv

namespace Go.Gv
open Go.Sort Go.Proofs Go.Shelf
section
variable {P : Program} {F : Fid} {α : Type} [Inhabited α]
theorem ll {f1 : FuncId} (k : Nat) (hk0 : 0 < k) (enc : α -> List Value) (encD : α -> List D) (hk : ∀ x,(enc x).length=k) (hkD : ∀ x,(encD x).length=k) (h1 : ∀ x,∀ v ∈ enc x,v.oneCell'=true)
  (hflat : ∀ (M : Mem) (x : α) (i : Nat) (d : D) (u : Value),(encD x)[i]? = some d -> af F M d u -> (enc x)[i]? = some u) (hrep : ∀ M x,ap F M (encD x) (enc x)) (cf : α -> α -> Int) (hO : SWO (ltOf cf)) (hT : ∀ x y,(ltOf cf) x y=false -> (ltOf cf) y x=false -> x=y) {g cg : Nat} (hg : ∀ f,F g=some f -> f=f1)
  (hnone : ∀ (p : Option Addr) (cap : Nat) (fv : Value) (w : World),Calls P f1 #[.slice p 0 cap,fv] w fun e w'=>e=.returned (.tuple #[]) /\ w'=w)
  (htot : ∀ (g : Nat) (cb : Array Value) (blk off cap : Nat) (d : Array α) (w : World),(∀ args w,(callFunc g args).run P w=.ok (.enter g args) w) -> CmpLays P g cb enc k cf blk off d.size w -> HoldsK enc k w blk off d -> blk < w.heap.size -> d.size < 4611686018427387904 ->
   Calls P f1 #[.slice (some ⟨blk,off,none⟩) d.size cap,.func (.func g) #[] cb] w fun e w'=>e=.returned (.tuple #[]) /\ ∃ n os,w'=sortWorldK enc k w blk off n (pdq (ltOf cf) d 0 d.size (Lib.bitLen d.size) true true) os) {cs : List D}
  (hn : ∀ f,F cg=some f -> lV P f=true) (hcl : ∀ x y,gN P F cg (.agg (encD x)::.agg (encD y)::cs) (.int .i64 (cf x y)) []) (d : List α) (hz : d.length < 2 ^ 62) :
  gN P F g [.own k (d.map encD),.fn cg cs] .any [.own k ((d.mergeSort fun x y=>!(ltOf cf) y x).map encD),.nilp]:=by
 refine ⟨trivial,fun f hf=>⟨rfl,?_⟩⟩
 obtain rfl:=hg f hf
 have key:=mi (P:=P) (F:=F) (f:=f) k hk0 enc encD hk hkD hflat hrep d.toArray (d.mergeSort fun x y=>!(ltOf cf) y x).toArray (by simp) [.fn cg cs] (fun h M w vs A hh r=>by
  simp only [ap,af] at r
  obtain ⟨fv,vs',rfl,⟨fi,us,hfi,rfl,hus⟩,rfl⟩:=r
  refine (hnone A 0 _ w).mono ?_
  rintro e w' ⟨rfl,rfl⟩
  exact ⟨rfl,0,#[],by simp [grow,Sort.ahead]⟩) (fun M w vs blk off cap hh hM r hH hb=>by
  simp only [ap,af] at r
  obtain ⟨fv,vs',rfl,⟨fi,us,hfi,rfl,hus⟩,rfl⟩:=r
  have hcmp : CmpLays P fi us.toArray enc k cf blk off d.toArray.size w:=by
   intro m os dk hdk x y
   have hr:=(hcl x y).2 fi hfi M (sortWorldK enc k w blk off m dk os) (.agg (enc x).toArray::.agg (enc y).toArray::us) (fun p v hpv=>nX (fun e=>by rw [hM p e] at hpv;cases hpv) (hh p v hpv)) (by
    simp only [ap,af]
    exact ⟨_,_,rfl,⟨_,rfl,hrep _ _⟩,_,_,rfl,⟨_,rfl,hrep _ _⟩,hus⟩)
   have e : #[Value.agg (enc x).toArray,.agg (enc y).toArray]++us.toArray=(.agg (enc x).toArray::.agg (enc y).toArray::us).toArray:=by simp
   rw [e]
   refine hr.mono ?_
   rintro e w' ⟨v,M',rfl,hbel,_,_,_,hv⟩
   simp only [af] at hv
   subst hv
   exact ⟨rfl,hbel.grownK⟩
  have:=htot fi us.toArray blk off cap d.toArray w (bH (hn fi hfi)) hcmp hH hb (by simpa using hz)
  have hs:=pdq_sorts (ltOf cf) hO d.toArray 0 d.toArray.size (Lib.bitLen d.toArray.size) true true (Nat.zero_le _) (Nat.le_refl _) (Or.inl rfl)
  have : Calls P f #[.slice (some ⟨blk,off,none⟩) d.toArray.size cap,.func (.func fi) #[] us.toArray] w fun e w'=>e=.returned (.tuple #[]) /\ ∃ n os,w'=sortWorldK enc k w blk off n (d.toArray.toList.mergeSort fun x y=>!(ltOf cf) y x).toArray os :=
   this.mono fun _ _ ⟨he,n,os,hw⟩=>⟨he,n,os,by rw [hw,<- sorted_unique_holds hO hT d.toArray _ hs.1 hs.2]⟩
  simpa using this)
 simpa using key
end
end Go.Gv

namespace Go.Gv
structure Tag {α : Type _} (x : α) : Type where
@[simp] theorem My : isV (.any)=true:=_root_.id rfl
@[simp] theorem MB {k n} : isV (.int k n)=true:=_root_.id rfl
@[simp] theorem HG {b} : isV (.bool b)=true:=_root_.id rfl
@[simp] theorem MJ {s} : isV (.str s)=true:=_root_.id rfl
@[simp] theorem HH : isV (.nilp)=true:=_root_.id rfl
@[simp] theorem HI : isV (.nils)=true:=_root_.id rfl
@[simp] theorem Mw {ds} : isV (.agg ds)=true:=_root_.id rfl
@[simp] theorem ML {ds} : isV (.tup ds)=true:=_root_.id rfl
@[simp] theorem O1 {es} : isV (.sl es)=true:=_root_.id rfl
@[simp] theorem ME {ds} : isV (.ptr ds)=true:=_root_.id rfl
@[simp] theorem OZ {g ds} : isV (.fn g ds)=true:=_root_.id rfl
@[simp] theorem MD {sz es} : isV (.own sz es)=false:=_root_.id rfl
@[simp] theorem Mz {sz es} : isV (.blk sz es)=false:=_root_.id rfl
@[simp] theorem O0 {kt et ks vs} : isV (.mp kt et ks vs)=false:=_root_.id rfl
@[simp] theorem MC {b} : isV (.mrf b)=false:=_root_.id rfl
@[simp] theorem MG {p k n} : isV (.ref p k n)=false:=_root_.id rfl
@[simp] theorem Mv {p i off} : isV (.adr p i off)=false:=_root_.id rfl
@[simp] theorem Mx {ds} : isV (.agx ds)=false:=_root_.id rfl
@[simp] theorem MK {ds} : isV (.tpx ds)=false:=_root_.id rfl
@[simp] theorem MF {ds} : isV (.ptx ds)=false:=_root_.id rfl
@[simp] theorem MH {n sz ds} : isV (.rfx n sz ds)=false:=_root_.id rfl
@[simp] theorem MA {g ds} : isV (.fnx g ds)=false:=_root_.id rfl
@[simp] theorem Ll : isK (.any)=false:=_root_.id rfl
@[simp] theorem Lo {k n} : isK (.int k n)=true:=_root_.id rfl
@[simp] theorem Hu {b} : isK (.bool b)=true:=_root_.id rfl
@[simp] theorem Lw {s} : isK (.str s)=true:=_root_.id rfl
@[simp] theorem Hv : isK (.nilp)=true:=_root_.id rfl
@[simp] theorem Hw : isK (.nils)=true:=_root_.id rfl
@[simp] theorem Lj {ds} : isK (.agg ds)=true:=_root_.id rfl
@[simp] theorem Ly {ds} : isK (.tup ds)=true:=_root_.id rfl
@[simp] theorem OL {es} : isK (.sl es)=true:=_root_.id rfl
@[simp] theorem Lr {ds} : isK (.ptr ds)=true:=_root_.id rfl
@[simp] theorem OJ {g ds} : isK (.fn g ds)=true:=_root_.id rfl
@[simp] theorem Lq {sz es} : isK (.own sz es)=false:=_root_.id rfl
@[simp] theorem Lm {sz es} : isK (.blk sz es)=false:=_root_.id rfl
@[simp] theorem OK {kt et ks vs} : isK (.mp kt et ks vs)=false:=_root_.id rfl
@[simp] theorem Lp {b} : isK (.mrf b)=false:=_root_.id rfl
@[simp] theorem Lt {p k n} : isK (.ref p k n)=false:=_root_.id rfl
@[simp] theorem Li {p i off} : isK (.adr p i off)=false:=_root_.id rfl
@[simp] theorem Lk {ds} : isK (.agx ds)=false:=_root_.id rfl
@[simp] theorem Lx {ds} : isK (.tpx ds)=false:=_root_.id rfl
@[simp] theorem Ls {ds} : isK (.ptx ds)=false:=_root_.id rfl
@[simp] theorem Lu {n sz ds} : isK (.rfx n sz ds)=false:=_root_.id rfl
@[simp] theorem Ln {g ds} : isK (.fnx g ds)=false:=_root_.id rfl
@[simp] theorem LU : isP (.any)=true:=_root_.id rfl
@[simp] theorem LX {k n} : isP (.int k n)=true:=_root_.id rfl
@[simp] theorem HA {b} : isP (.bool b)=true:=_root_.id rfl
@[simp] theorem Mb {s} : isP (.str s)=true:=_root_.id rfl
@[simp] theorem HB : isP (.nilp)=true:=_root_.id rfl
@[simp] theorem HC : isP (.nils)=true:=_root_.id rfl
@[simp] theorem LS {ds} : isP (.agg ds)=true:=_root_.id rfl
@[simp] theorem Md {ds} : isP (.tup ds)=true:=_root_.id rfl
@[simp] theorem OT {es} : isP (.sl es)=true:=_root_.id rfl
@[simp] theorem L0 {ds} : isP (.ptr ds)=true:=_root_.id rfl
@[simp] theorem OR {g ds} : isP (.fn g ds)=true:=_root_.id rfl
@[simp] theorem LZ {sz es} : isP (.own sz es)=false:=_root_.id rfl
@[simp] theorem LV {sz es} : isP (.blk sz es)=false:=_root_.id rfl
@[simp] theorem OS {kt et ks vs} : isP (.mp kt et ks vs)=false:=_root_.id rfl
@[simp] theorem LY {b} : isP (.mrf b)=true:=_root_.id rfl
@[simp] theorem L8 {p k n} : isP (.ref p k n)=true:=_root_.id rfl
@[simp] theorem LR {p i off} : isP (.adr p i off)=true:=_root_.id rfl
@[simp] theorem LT {ds} : isP (.agx ds)=false:=_root_.id rfl
@[simp] theorem Mc {ds} : isP (.tpx ds)=false:=_root_.id rfl
@[simp] theorem L7 {ds} : isP (.ptx ds)=false:=_root_.id rfl
@[simp] theorem L9 {n sz ds} : isP (.rfx n sz ds)=false:=_root_.id rfl
@[simp] theorem LW {g ds} : isP (.fnx g ds)=false:=_root_.id rfl
@[simp] theorem Mh : isS (.any)=true:=_root_.id rfl
@[simp] theorem OY : isV (.bb)=true:=_root_.id rfl
@[simp] theorem OU : isS (.bb)=true:=_root_.id rfl
@[simp] theorem OQ : isP (.bb)=true:=_root_.id rfl
@[simp] theorem OC : isB (.bb)=false:=_root_.id rfl
@[simp] theorem Gx : cH (.bb)=false:=_root_.id rfl
@[simp] theorem Ee : bz (.bb)=[]:=_root_.id rfl
@[simp] theorem AW : aG (.bb)=[]:=_root_.id rfl
@[simp] theorem Mk {k n} : isS (.int k n)=true:=_root_.id rfl
@[simp] theorem HD {b} : isS (.bool b)=true:=_root_.id rfl
@[simp] theorem Ms {s} : isS (.str s)=true:=_root_.id rfl
@[simp] theorem HE : isS (.nilp)=true:=_root_.id rfl
@[simp] theorem HF : isS (.nils)=true:=_root_.id rfl
@[simp] theorem Mf {ds} : isS (.agg ds)=true:=_root_.id rfl
@[simp] theorem Mu {ds} : isS (.tup ds)=true:=_root_.id rfl
@[simp] theorem OX {es} : isS (.sl es)=true:=_root_.id rfl
@[simp] theorem Mn {ds} : isS (.ptr ds)=true:=_root_.id rfl
@[simp] theorem OV {g ds} : isS (.fn g ds)=true:=_root_.id rfl
@[simp] theorem Mm {sz es} : isS (.own sz es)=false:=_root_.id rfl
@[simp] theorem Mi {sz es} : isS (.blk sz es)=false:=_root_.id rfl
@[simp] theorem OW {kt et ks vs} : isS (.mp kt et ks vs)=false:=_root_.id rfl
@[simp] theorem Ml {b} : isS (.mrf b)=true:=_root_.id rfl
@[simp] theorem Mp {p k n} : isS (.ref p k n)=true:=_root_.id rfl
@[simp] theorem Me {p i off} : isS (.adr p i off)=true:=_root_.id rfl
@[simp] theorem Mg {ds} : isS (.agx ds)=ds.all isP:=_root_.id rfl
@[simp] theorem Mt {ds} : isS (.tpx ds)=ds.all isP:=_root_.id rfl
@[simp] theorem Mo {ds} : isS (.ptx ds)=ds.all isP:=_root_.id rfl
@[simp] theorem Mq {n sz ds} : isS (.rfx n sz ds)=ds.all isP:=_root_.id rfl
@[simp] theorem Mj {g ds} : isS (.fnx g ds)=ds.all isP:=_root_.id rfl
@[simp] theorem GH : aw (.any)=false:=_root_.id rfl
@[simp] theorem GK {k n} : aw (.int k n)=true:=_root_.id rfl
@[simp] theorem DC {b} : aw (.bool b)=true:=_root_.id rfl
@[simp] theorem GS {s} : aw (.str s)=true:=_root_.id rfl
@[simp] theorem DD : aw (.nilp)=true:=_root_.id rfl
@[simp] theorem DE : aw (.nils)=true:=_root_.id rfl
@[simp] theorem GF {ds} : aw (.agg ds)=false:=_root_.id rfl
@[simp] theorem GU {ds} : aw (.tup ds)=false:=_root_.id rfl
@[simp] theorem KN {es} : aw (.sl es)=true:=_root_.id rfl
@[simp] theorem GN {ds} : aw (.ptr ds)=true:=_root_.id rfl
@[simp] theorem KL {g ds} : aw (.fn g ds)=true:=_root_.id rfl
@[simp] theorem GM {sz es} : aw (.own sz es)=false:=_root_.id rfl
@[simp] theorem GI {sz es} : aw (.blk sz es)=false:=_root_.id rfl
@[simp] theorem KM {kt et ks vs} : aw (.mp kt et ks vs)=false:=_root_.id rfl
@[simp] theorem GL {b} : aw (.mrf b)=false:=_root_.id rfl
@[simp] theorem GP {p k n} : aw (.ref p k n)=false:=_root_.id rfl
@[simp] theorem GE {p i off} : aw (.adr p i off)=false:=_root_.id rfl
@[simp] theorem GG {ds} : aw (.agx ds)=false:=_root_.id rfl
@[simp] theorem GT {ds} : aw (.tpx ds)=false:=_root_.id rfl
@[simp] theorem GO {ds} : aw (.ptx ds)=false:=_root_.id rfl
@[simp] theorem GQ {n sz ds} : aw (.rfx n sz ds)=false:=_root_.id rfl
@[simp] theorem GJ {g ds} : aw (.fnx g ds)=false:=_root_.id rfl
@[simp] theorem LC : isO (.any)=false:=_root_.id rfl
@[simp] theorem LF {k n} : isO (.int k n)=false:=_root_.id rfl
@[simp] theorem Hx {b} : isO (.bool b)=false:=_root_.id rfl
@[simp] theorem LO {s} : isO (.str s)=false:=_root_.id rfl
@[simp] theorem Hy : isO (.nilp)=false:=_root_.id rfl
@[simp] theorem Hz : isO (.nils)=false:=_root_.id rfl
@[simp] theorem LA {ds} : isO (.agg ds)=false:=_root_.id rfl
@[simp] theorem LQ {ds} : isO (.tup ds)=false:=_root_.id rfl
@[simp] theorem OP {es} : isO (.sl es)=false:=_root_.id rfl
@[simp] theorem LI {ds} : isO (.ptr ds)=false:=_root_.id rfl
@[simp] theorem ON {g ds} : isO (.fn g ds)=false:=_root_.id rfl
@[simp] theorem LH {sz es} : isO (.own sz es)=true:=_root_.id rfl
@[simp] theorem LD {sz es} : isO (.blk sz es)=false:=_root_.id rfl
@[simp] theorem OO {kt et ks vs} : isO (.mp kt et ks vs)=false:=_root_.id rfl
@[simp] theorem LG {b} : isO (.mrf b)=false:=_root_.id rfl
@[simp] theorem LK {p k n} : isO (.ref p k n)=false:=_root_.id rfl
@[simp] theorem Lz {p i off} : isO (.adr p i off)=false:=_root_.id rfl
@[simp] theorem LB {ds} : isO (.agx ds)=false:=_root_.id rfl
@[simp] theorem LP {ds} : isO (.tpx ds)=false:=_root_.id rfl
@[simp] theorem LJ {ds} : isO (.ptx ds)=false:=_root_.id rfl
@[simp] theorem LM {n sz ds} : isO (.rfx n sz ds)=false:=_root_.id rfl
@[simp] theorem LE {g ds} : isO (.fnx g ds)=false:=_root_.id rfl
@[simp] theorem GY : bk (.any)=true:=_root_.id rfl
@[simp] theorem G1 {k n} : bk (.int k n)=true:=_root_.id rfl
@[simp] theorem DF {b} : bk (.bool b)=true:=_root_.id rfl
@[simp] theorem G8 {s} : bk (.str s)=true:=_root_.id rfl
@[simp] theorem DG : bk (.nilp)=true:=_root_.id rfl
@[simp] theorem DH : bk (.nils)=true:=_root_.id rfl
@[simp] theorem GW {ds} : bk (.agg ds)=false:=_root_.id rfl
@[simp] theorem Ha {ds} : bk (.tup ds)=false:=_root_.id rfl
@[simp] theorem KQ {es} : bk (.sl es)=false:=_root_.id rfl
@[simp] theorem G4 {ds} : bk (.ptr ds)=false:=_root_.id rfl
@[simp] theorem KO {g ds} : bk (.fn g ds)=false:=_root_.id rfl
@[simp] theorem G3 {sz es} : bk (.own sz es)=false:=_root_.id rfl
@[simp] theorem GZ {sz es} : bk (.blk sz es)=false:=_root_.id rfl
@[simp] theorem KP {kt et ks vs} : bk (.mp kt et ks vs)=false:=_root_.id rfl
@[simp] theorem G2 {b} : bk (.mrf b)=false:=_root_.id rfl
@[simp] theorem G6 {p k n} : bk (.ref p k n)=false:=_root_.id rfl
@[simp] theorem GV {p i off} : bk (.adr p i off)=false:=_root_.id rfl
@[simp] theorem GX {ds} : bk (.agx ds)=false:=_root_.id rfl
@[simp] theorem G9 {ds} : bk (.tpx ds)=false:=_root_.id rfl
@[simp] theorem G5 {ds} : bk (.ptx ds)=false:=_root_.id rfl
@[simp] theorem G7 {n sz ds} : bk (.rfx n sz ds)=false:=_root_.id rfl
@[simp] theorem G0 {g ds} : bk (.fnx g ds)=false:=_root_.id rfl
@[simp] theorem He : dT (.any)=true:=_root_.id rfl
@[simp] theorem Hh {k n} : dT (.int k n)=true:=_root_.id rfl
@[simp] theorem DI {b} : dT (.bool b)=true:=_root_.id rfl
@[simp] theorem Ho {s} : dT (.str s)=true:=_root_.id rfl
@[simp] theorem DJ : dT (.nilp)=true:=_root_.id rfl
@[simp] theorem DK : dT (.nils)=true:=_root_.id rfl
@[simp] theorem Hc {ds} : dT (.agg ds)=ds.all bk:=_root_.id rfl
@[simp] theorem Hq {ds} : dT (.tup ds)=false:=_root_.id rfl
@[simp] theorem KU {es} : dT (.sl es)=false:=_root_.id rfl
@[simp] theorem Hk {ds} : dT (.ptr ds)=false:=_root_.id rfl
@[simp] theorem KR {g ds} : dT (.fn g ds)=false:=_root_.id rfl
@[simp] theorem Hj {sz es} : dT (.own sz es)=false:=_root_.id rfl
@[simp] theorem Hf {sz es} : dT (.blk sz es)=false:=_root_.id rfl
@[simp] theorem KS {kt et ks vs} : dT (.mp kt et ks vs)=false:=_root_.id rfl
@[simp] theorem Hi {b} : dT (.mrf b)=false:=_root_.id rfl
@[simp] theorem Hm {p k n} : dT (.ref p k n)=false:=_root_.id rfl
@[simp] theorem Hb {p i off} : dT (.adr p i off)=false:=_root_.id rfl
@[simp] theorem Hd {ds} : dT (.agx ds)=false:=_root_.id rfl
@[simp] theorem Hp {ds} : dT (.tpx ds)=false:=_root_.id rfl
@[simp] theorem Hl {ds} : dT (.ptx ds)=false:=_root_.id rfl
@[simp] theorem Hn {n sz ds} : dT (.rfx n sz ds)=false:=_root_.id rfl
@[simp] theorem Hg {g ds} : dT (.fnx g ds)=false:=_root_.id rfl
@[simp] theorem KY : isF (.any)=true:=_root_.id rfl
@[simp] theorem K2 {k n} : isF (.int k n)=true:=_root_.id rfl
@[simp] theorem Hr {b} : isF (.bool b)=true:=_root_.id rfl
@[simp] theorem Lf {s} : isF (.str s)=true:=_root_.id rfl
@[simp] theorem Hs : isF (.nilp)=true:=_root_.id rfl
@[simp] theorem Ht : isF (.nils)=true:=_root_.id rfl
@[simp] theorem KW {ds} : isF (.agg ds)=ds.all bk:=_root_.id rfl
@[simp] theorem Lh {ds} : isF (.tup ds)=ds.all dT:=_root_.id rfl
@[simp] theorem OI {es} : isF (.sl es)=false:=_root_.id rfl
@[simp] theorem Lb {ds} : isF (.ptr ds)=false:=_root_.id rfl
@[simp] theorem OG {g ds} : isF (.fn g ds)=false:=_root_.id rfl
@[simp] theorem La {sz es} : isF (.own sz es)=false:=_root_.id rfl
@[simp] theorem KZ {sz es} : isF (.blk sz es)=false:=_root_.id rfl
@[simp] theorem OH {kt et ks vs} : isF (.mp kt et ks vs)=false:=_root_.id rfl
@[simp] theorem K9 {b} : isF (.mrf b)=false:=_root_.id rfl
@[simp] theorem Ld {p k n} : isF (.ref p k n)=false:=_root_.id rfl
@[simp] theorem KV {p i off} : isF (.adr p i off)=false:=_root_.id rfl
@[simp] theorem KX {ds} : isF (.agx ds)=false:=_root_.id rfl
@[simp] theorem Lg {ds} : isF (.tpx ds)=false:=_root_.id rfl
@[simp] theorem Lc {ds} : isF (.ptx ds)=false:=_root_.id rfl
@[simp] theorem Le {n sz ds} : isF (.rfx n sz ds)=false:=_root_.id rfl
@[simp] theorem K0 {g ds} : isF (.fnx g ds)=false:=_root_.id rfl
@[simp] theorem Kw : isB (.any)=false:=_root_.id rfl
@[simp] theorem Kz {k n} : isB (.int k n)=false:=_root_.id rfl
@[simp] theorem GB {b} : isB (.bool b)=false:=_root_.id rfl
@[simp] theorem KH {s} : isB (.str s)=false:=_root_.id rfl
@[simp] theorem GC : isB (.nilp)=false:=_root_.id rfl
@[simp] theorem GD : isB (.nils)=false:=_root_.id rfl
@[simp] theorem Ku {ds} : isB (.agg ds)=false:=_root_.id rfl
@[simp] theorem KJ {ds} : isB (.tup ds)=false:=_root_.id rfl
@[simp] theorem OF {es} : isB (.sl es)=false:=_root_.id rfl
@[simp] theorem KC {ds} : isB (.ptr ds)=false:=_root_.id rfl
@[simp] theorem OD {g ds} : isB (.fn g ds)=false:=_root_.id rfl
@[simp] theorem KB {sz es} : isB (.own sz es)=false:=_root_.id rfl
@[simp] theorem Kx {sz es} : isB (.blk sz es)=true:=_root_.id rfl
@[simp] theorem OE {kt et ks vs} : isB (.mp kt et ks vs)=true:=_root_.id rfl
@[simp] theorem KA {b} : isB (.mrf b)=false:=_root_.id rfl
@[simp] theorem KE {p k n} : isB (.ref p k n)=false:=_root_.id rfl
@[simp] theorem Kt {p i off} : isB (.adr p i off)=false:=_root_.id rfl
@[simp] theorem Kv {ds} : isB (.agx ds)=false:=_root_.id rfl
@[simp] theorem KI {ds} : isB (.tpx ds)=false:=_root_.id rfl
@[simp] theorem KD {ds} : isB (.ptx ds)=false:=_root_.id rfl
@[simp] theorem KF {n sz ds} : isB (.rfx n sz ds)=false:=_root_.id rfl
@[simp] theorem Ky {g ds} : isB (.fnx g ds)=false:=_root_.id rfl
@[simp] theorem Dn : cH (.any)=true:=_root_.id rfl
@[simp] theorem Dq {k n} : cH (.int k n)=false:=_root_.id rfl
@[simp] theorem AB {b} : cH (.bool b)=false:=_root_.id rfl
@[simp] theorem Dz {s} : cH (.str s)=false:=_root_.id rfl
@[simp] theorem AC : cH (.nilp)=false:=_root_.id rfl
@[simp] theorem AD : cH (.nils)=false:=_root_.id rfl
@[simp] theorem Dl {ds} : cH (.agg ds)=false:=_root_.id rfl
@[simp] theorem DB {ds} : cH (.tup ds)=false:=_root_.id rfl
@[simp] theorem GA {es} : cH (.sl es)=false:=_root_.id rfl
@[simp] theorem Dt {ds} : cH (.ptr ds)=false:=_root_.id rfl
@[simp] theorem Gy {g ds} : cH (.fn g ds)=false:=_root_.id rfl
@[simp] theorem Ds {sz es} : cH (.own sz es)=false:=_root_.id rfl
@[simp] theorem Do {sz es} : cH (.blk sz es)=false:=_root_.id rfl
@[simp] theorem Gz {kt et ks vs} : cH (.mp kt et ks vs)=false:=_root_.id rfl
@[simp] theorem Dr {b} : cH (.mrf b)=false:=_root_.id rfl
@[simp] theorem Dw {p k n} : cH (.ref p k n)=false:=_root_.id rfl
@[simp] theorem Dk {p i off} : cH (.adr p i off)=false:=_root_.id rfl
@[simp] theorem Dm {ds} : cH (.agx ds)=false:=_root_.id rfl
@[simp] theorem DA {ds} : cH (.tpx ds)=false:=_root_.id rfl
@[simp] theorem Du {ds} : cH (.ptx ds)=false:=_root_.id rfl
@[simp] theorem Dx {n sz ds} : cH (.rfx n sz ds)=false:=_root_.id rfl
@[simp] theorem Dp {g ds} : cH (.fnx g ds)=false:=_root_.id rfl
@[simp] theorem yo : cellsOf (.any)=[.any]:=_root_.id rfl
@[simp] theorem yr {k n} : cellsOf (.int k n)=[.int k n]:=_root_.id rfl
@[simp] theorem v7 {b} : cellsOf (.bool b)=[.bool b]:=_root_.id rfl
@[simp] theorem yA {s} : cellsOf (.str s)=[.str s]:=_root_.id rfl
@[simp] theorem v8 : cellsOf (.nilp)=[.nilp]:=_root_.id rfl
@[simp] theorem wa : cellsOf (.nils)=[.nils]:=_root_.id rfl
@[simp] theorem ym {ds} : cellsOf (.agg ds)=ds:=_root_.id rfl
@[simp] theorem yC {ds} : cellsOf (.tup ds)=[.tup ds]:=_root_.id rfl
@[simp] theorem Ad {es} : cellsOf (.sl es)=[.sl es]:=_root_.id rfl
@[simp] theorem yv {ds} : cellsOf (.ptr ds)=[.ptr ds]:=_root_.id rfl
@[simp] theorem Ab {g ds} : cellsOf (.fn g ds)=[.fn g ds]:=_root_.id rfl
@[simp] theorem yu {sz es} : cellsOf (.own sz es)=[.own sz es]:=_root_.id rfl
@[simp] theorem yp {sz es} : cellsOf (.blk sz es)=[.blk sz es]:=_root_.id rfl
@[simp] theorem Ac {kt et ks vs} : cellsOf (.mp kt et ks vs)=[.mp kt et ks vs]:=_root_.id rfl
@[simp] theorem yt {b} : cellsOf (.mrf b)=[.mrf b]:=_root_.id rfl
@[simp] theorem yx {p k n} : cellsOf (.ref p k n)=[.ref p k n]:=_root_.id rfl
@[simp] theorem yl {p i off} : cellsOf (.adr p i off)=[.adr p i off]:=_root_.id rfl
@[simp] theorem yn {ds} : cellsOf (.agx ds)=[.agx ds]:=_root_.id rfl
@[simp] theorem yB {ds} : cellsOf (.tpx ds)=[.tpx ds]:=_root_.id rfl
@[simp] theorem yw {ds} : cellsOf (.ptx ds)=[.ptx ds]:=_root_.id rfl
@[simp] theorem yy {n sz ds} : cellsOf (.rfx n sz ds)=[.rfx n sz ds]:=_root_.id rfl
@[simp] theorem yq {g ds} : cellsOf (.fnx g ds)=[.fnx g ds]:=_root_.id rfl
@[simp] theorem B5 : bZ (.any)=.any:=_root_.id rfl
@[simp] theorem B8 {k n} : bZ (.int k n)=.int k n:=_root_.id rfl
@[simp] theorem zV {b} : bZ (.bool b)=.bool b:=_root_.id rfl
@[simp] theorem Cg {s} : bZ (.str s)=.str s:=_root_.id rfl
@[simp] theorem zW : bZ (.nilp)=.nilp:=_root_.id rfl
@[simp] theorem zX : bZ (.nils)=.nils:=_root_.id rfl
@[simp] theorem B3 {ds} : bZ (.agg ds)=.agg ds:=_root_.id rfl
@[simp] theorem Cj {ds} : bZ (.tup ds)=.tup ds:=_root_.id rfl
@[simp] theorem EZ {es} : bZ (.sl es)=.sl es:=_root_.id rfl
@[simp] theorem Cb {ds} : bZ (.ptr ds)=.ptr ds:=_root_.id rfl
@[simp] theorem EX {g ds} : bZ (.fn g ds)=.fn g ds:=_root_.id rfl
@[simp] theorem Ca {sz es} : bZ (.own sz es)=.own sz es:=_root_.id rfl
@[simp] theorem B6 {sz es} : bZ (.blk sz es)=.blk sz es:=_root_.id rfl
@[simp] theorem EY {kt et ks vs} : bZ (.mp kt et ks vs)=.mp kt et ks vs:=_root_.id rfl
@[simp] theorem B9 {b} : bZ (.mrf b)=.mrf b:=_root_.id rfl
@[simp] theorem Cd {p k n} : bZ (.ref p k n)=.ref p k n:=_root_.id rfl
@[simp] theorem B2 {p i off} : bZ (.adr p i off)=.adr p i off:=_root_.id rfl
@[simp] theorem B4 {ds} : bZ (.agx ds)=.agg ds:=_root_.id rfl
@[simp] theorem Ci {ds} : bZ (.tpx ds)=.tpx ds:=_root_.id rfl
@[simp] theorem Cc {ds} : bZ (.ptx ds)=.ptx ds:=_root_.id rfl
@[simp] theorem Ce {n sz ds} : bZ (.rfx n sz ds)=.rfx n sz ds:=_root_.id rfl
@[simp] theorem B7 {g ds} : bZ (.fnx g ds)=.fnx g ds:=_root_.id rfl
@[simp] theorem Cy : aR (.any)=.any:=_root_.id rfl
@[simp] theorem CB {k n} : aR (.int k n)=.int k n:=_root_.id rfl
@[simp] theorem z7 {b} : aR (.bool b)=.bool b:=_root_.id rfl
@[simp] theorem CK {s} : aR (.str s)=.str s:=_root_.id rfl
@[simp] theorem z8 : aR (.nilp)=.nilp:=_root_.id rfl
@[simp] theorem Aa : aR (.nils)=.nils:=_root_.id rfl
@[simp] theorem Cw {ds} : aR (.agg ds)=.agg ds:=_root_.id rfl
@[simp] theorem CM {ds} : aR (.tup ds)=.tup ds:=_root_.id rfl
@[simp] theorem Fq {es} : aR (.sl es)=.sl es:=_root_.id rfl
@[simp] theorem CF {ds} : aR (.ptr ds)=.ptr ds:=_root_.id rfl
@[simp] theorem Fo {g ds} : aR (.fn g ds)=.fn g ds:=_root_.id rfl
@[simp] theorem CE {sz es} : aR (.own sz es)=.sl es:=_root_.id rfl
@[simp] theorem Cz {sz es} : aR (.blk sz es)=.blk sz es:=_root_.id rfl
@[simp] theorem Fp {kt et ks vs} : aR (.mp kt et ks vs)=.mp kt et ks vs:=_root_.id rfl
@[simp] theorem CD {b} : aR (.mrf b)=.mrf b:=_root_.id rfl
@[simp] theorem CH {p k n} : aR (.ref p k n)=.ref p k n:=_root_.id rfl
@[simp] theorem Cv {p i off} : aR (.adr p i off)=.adr p i off:=_root_.id rfl
@[simp] theorem Cx {ds} : aR (.agx ds)=.agx ds:=_root_.id rfl
@[simp] theorem CL {ds} : aR (.tpx ds)=.tpx ds:=_root_.id rfl
@[simp] theorem CG {ds} : aR (.ptx ds)=.ptx ds:=_root_.id rfl
@[simp] theorem CI {n sz ds} : aR (.rfx n sz ds)=.rfx n sz ds:=_root_.id rfl
@[simp] theorem CA {g ds} : aR (.fnx g ds)=.fnx g ds:=_root_.id rfl
@[simp] theorem yS : aG (.any)=[]:=_root_.id rfl
@[simp] theorem yV {k n} : aG (.int k n)=[]:=_root_.id rfl
@[simp] theorem xc {b} : aG (.bool b)=[]:=_root_.id rfl
@[simp] theorem y8 {s} : aG (.str s)=[]:=_root_.id rfl
@[simp] theorem xd : aG (.nilp)=[]:=_root_.id rfl
@[simp] theorem xe : aG (.nils)=[]:=_root_.id rfl
@[simp] theorem yQ {ds} : aG (.agg ds)=[]:=_root_.id rfl
@[simp] theorem za {ds} : aG (.tup ds)=[]:=_root_.id rfl
@[simp] theorem AZ {es} : aG (.sl es)=[]:=_root_.id rfl
@[simp] theorem yY {ds} : aG (.ptr ds)=[]:=_root_.id rfl
@[simp] theorem AX {g ds} : aG (.fn g ds)=[]:=_root_.id rfl
@[simp] theorem yX {sz es} : aG (.own sz es)=[]:=_root_.id rfl
@[simp] theorem yT {sz es} : aG (.blk sz es)=[]:=_root_.id rfl
@[simp] theorem AY {kt et ks vs} : aG (.mp kt et ks vs)=[]:=_root_.id rfl
@[simp] theorem yW {b} : aG (.mrf b)=[b]:=_root_.id rfl
@[simp] theorem y5 {p k n} : aG (.ref p k n)=[p.root]:=_root_.id rfl
@[simp] theorem yP {p i off} : aG (.adr p i off)=[p.root]:=_root_.id rfl
@[simp] theorem yR {ds} : aG (.agx ds)=[]:=_root_.id rfl
@[simp] theorem y9 {ds} : aG (.tpx ds)=[]:=_root_.id rfl
@[simp] theorem yZ {ds} : aG (.ptx ds)=[]:=_root_.id rfl
@[simp] theorem y6 {n sz ds} : aG (.rfx n sz ds)=[]:=_root_.id rfl
@[simp] theorem yU {g ds} : aG (.fnx g ds)=[]:=_root_.id rfl
@[simp] theorem A5 : bz (.any)=[]:=_root_.id rfl
@[simp] theorem A8 {k n} : bz (.int k n)=[]:=_root_.id rfl
@[simp] theorem ze {b} : bz (.bool b)=[]:=_root_.id rfl
@[simp] theorem Bg {s} : bz (.str s)=[]:=_root_.id rfl
@[simp] theorem zj : bz (.nilp)=[]:=_root_.id rfl
@[simp] theorem zp : bz (.nils)=[]:=_root_.id rfl
@[simp] theorem A3 {ds} : bz (.agg ds)=[]:=_root_.id rfl
@[simp] theorem Bi {ds} : bz (.tup ds)=[]:=_root_.id rfl
@[simp] theorem Eh {es} : bz (.sl es)=[]:=_root_.id rfl
@[simp] theorem Bb {ds} : bz (.ptr ds)=[]:=_root_.id rfl
@[simp] theorem Ef {g ds} : bz (.fn g ds)=[]:=_root_.id rfl
@[simp] theorem Ba {sz es} : bz (.own sz es)=[]:=_root_.id rfl
@[simp] theorem A6 {sz es} : bz (.blk sz es)=[]:=_root_.id rfl
@[simp] theorem Eg {kt et ks vs} : bz (.mp kt et ks vs)=[]:=_root_.id rfl
@[simp] theorem A9 {b} : bz (.mrf b)=[b]:=_root_.id rfl
@[simp] theorem Bd {p k n} : bz (.ref p k n)=[p.root]:=_root_.id rfl
@[simp] theorem A0 {p i off} : bz (.adr p i off)=[p.root]:=_root_.id rfl
@[simp] theorem A4 {ds} : bz (.agx ds)=ds.flatMap aG:=_root_.id rfl
@[simp] theorem Bh {ds} : bz (.tpx ds)=ds.flatMap aG:=_root_.id rfl
@[simp] theorem Bc {ds} : bz (.ptx ds)=ds.flatMap aG:=_root_.id rfl
@[simp] theorem Be {n sz ds} : bz (.rfx n sz ds)=ds.flatMap aG:=_root_.id rfl
@[simp] theorem A7 {g ds} : bz (.fnx g ds)=ds.flatMap aG:=_root_.id rfl
@[simp] theorem JO {f : Nat -> D} : dp1 f (.any)=(.any):=_root_.id rfl
@[simp] theorem JR {f : Nat -> D} {k n} : dp1 f (.int k n)=(.int k n):=_root_.id rfl
@[simp] theorem FB {f : Nat -> D} {b} : dp1 f (.bool b)=(.bool b):=_root_.id rfl
@[simp] theorem JZ {f : Nat -> D} {s} : dp1 f (.str s)=(.str s):=_root_.id rfl
@[simp] theorem FC {f : Nat -> D} : dp1 f (.nilp)=(.nilp):=_root_.id rfl
@[simp] theorem FD {f : Nat -> D} : dp1 f (.nils)=(.nils):=_root_.id rfl
@[simp] theorem JM {f : Nat -> D} {ds} : dp1 f (.agg ds)=(.agg ds):=_root_.id rfl
@[simp] theorem Ka {f : Nat -> D} {ds} : dp1 f (.tup ds)=(.tup ds):=_root_.id rfl
@[simp] theorem N8 {f : Nat -> D} {es} : dp1 f (.sl es)=(.sl es):=_root_.id rfl
@[simp] theorem JU {f : Nat -> D} {ds} : dp1 f (.ptr ds)=(.ptr ds):=_root_.id rfl
@[simp] theorem N6 {f : Nat -> D} {g ds} : dp1 f (.fn g ds)=(.fn g ds):=_root_.id rfl
@[simp] theorem JT {f : Nat -> D} {sz es} : dp1 f (.own sz es)=(.own sz es):=_root_.id rfl
@[simp] theorem JP {f : Nat -> D} {sz es} : dp1 f (.blk sz es)=(.blk sz es):=_root_.id rfl
@[simp] theorem N7 {f : Nat -> D} {kt et ks vs} : dp1 f (.mp kt et ks vs)=(.mp kt et ks vs):=_root_.id rfl
@[simp] theorem JS {f : Nat -> D} {b} : dp1 f (.mrf b)=(.mrf b):=_root_.id rfl
@[simp] theorem JW {f : Nat -> D} {p k n} : dp1 f (.ref p k n)=(match aT f p with | some (_,es)=>.sl (((es.drop k).take n).map fun e=>e.map aR) | none=>.any):=_root_.id rfl
@[simp] theorem JL {f : Nat -> D} {p i off} : dp1 f (.adr p i off)=(match aT f p with | some (_,es)=>.ptr (((es[i]?.getD []).drop off).map aR) | none=>.any):=_root_.id rfl
@[simp] theorem JN {f : Nat -> D} {ds} : dp1 f (.agx ds)=(.agx ds):=_root_.id rfl
@[simp] theorem J0 {f : Nat -> D} {ds} : dp1 f (.tpx ds)=(.tpx ds):=_root_.id rfl
@[simp] theorem JV {f : Nat -> D} {ds} : dp1 f (.ptx ds)=(.ptx ds):=_root_.id rfl
@[simp] theorem JX {f : Nat -> D} {n sz ds} : dp1 f (.rfx n sz ds)=(.rfx n sz ds):=_root_.id rfl
@[simp] theorem JQ {f : Nat -> D} {g ds} : dp1 f (.fnx g ds)=(.fnx g ds):=_root_.id rfl
@[simp] theorem Oc {f : Nat -> D} : dp f (.any)=(.any):=_root_.id rfl
@[simp] theorem Og {f : Nat -> D} {k n} : dp f (.int k n)=(.int k n):=_root_.id rfl
@[simp] theorem Ke {f : Nat -> D} {b} : dp f (.bool b)=(.bool b):=_root_.id rfl
@[simp] theorem Oq {f : Nat -> D} {s} : dp f (.str s)=(.str s):=_root_.id rfl
@[simp] theorem Kf {f : Nat -> D} : dp f (.nilp)=(.nilp):=_root_.id rfl
@[simp] theorem Kg {f : Nat -> D} : dp f (.nils)=(.nils):=_root_.id rfl
@[simp] theorem Oa {f : Nat -> D} {ds} : dp f (.agg ds)=(.agg ds):=_root_.id rfl
@[simp] theorem Ou {f : Nat -> D} {ds} : dp f (.tup ds)=(.tup ds):=_root_.id rfl
@[simp] theorem Pw {f : Nat -> D} {es} : dp f (.sl es)=(.sl es):=_root_.id rfl
@[simp] theorem Oj {f : Nat -> D} {ds} : dp f (.ptr ds)=(.ptr ds):=_root_.id rfl
@[simp] theorem Pu {f : Nat -> D} {g ds} : dp f (.fn g ds)=(.fn g ds):=_root_.id rfl
@[simp] theorem Oi {f : Nat -> D} {sz es} : dp f (.own sz es)=(.own sz es):=_root_.id rfl
@[simp] theorem Od {f : Nat -> D} {sz es} : dp f (.blk sz es)=(.blk sz es):=_root_.id rfl
@[simp] theorem Pv {f : Nat -> D} {kt et ks vs} : dp f (.mp kt et ks vs)=(.mp kt et ks vs):=_root_.id rfl
@[simp] theorem Oh {f : Nat -> D} {b} : dp f (.mrf b)=(.mrf b):=_root_.id rfl
@[simp] theorem Om {f : Nat -> D} {p k n} : dp f (.ref p k n)=(match aT f p with | some (_,es)=>.sl (((es.drop k).take n).map fun e=>e.map aR) | none=>.any):=_root_.id rfl
@[simp] theorem N9 {f : Nat -> D} {p i off} : dp f (.adr p i off)=(match aT f p with | some (_,es)=>.ptr (((es[i]?.getD []).drop off).map aR) | none=>.any):=_root_.id rfl
@[simp] theorem Ob {f : Nat -> D} {ds} : dp f (.agx ds)=(.agg (ds.map (dp1 f))):=_root_.id rfl
@[simp] theorem Ot {f : Nat -> D} {ds} : dp f (.tpx ds)=(.tup (ds.map (dp1 f))):=_root_.id rfl
@[simp] theorem Ol {f : Nat -> D} {ds} : dp f (.ptx ds)=(.ptr (ds.map (dp1 f))):=_root_.id rfl
@[simp] theorem On {f : Nat -> D} {n sz ds} : dp f (.rfx n sz ds)=.rfx n sz ds:=_root_.id rfl
@[simp] theorem Oe {f : Nat -> D} {g ds} : dp f (.fnx g ds)=(.fn g (ds.map (dp1 f))):=_root_.id rfl
@[simp] theorem CS {f : Nat -> D} : aN f (.any)=(True):=_root_.id rfl
@[simp] theorem CV {f : Nat -> D} {k n} : aN f (.int k n)=(True):=_root_.id rfl
@[simp] theorem Al {f : Nat -> D} {b} : aN f (.bool b)=(True):=_root_.id rfl
@[simp] theorem C3 {f : Nat -> D} {s} : aN f (.str s)=(True):=_root_.id rfl
@[simp] theorem Am {f : Nat -> D} : aN f (.nilp)=(True):=_root_.id rfl
@[simp] theorem An {f : Nat -> D} : aN f (.nils)=(True):=_root_.id rfl
@[simp] theorem CQ {f : Nat -> D} {ds} : aN f (.agg ds)=(True):=_root_.id rfl
@[simp] theorem C5 {f : Nat -> D} {ds} : aN f (.tup ds)=(True):=_root_.id rfl
@[simp] theorem FG {f : Nat -> D} {es} : aN f (.sl es)=(True):=_root_.id rfl
@[simp] theorem CY {f : Nat -> D} {ds} : aN f (.ptr ds)=(True):=_root_.id rfl
@[simp] theorem FE {f : Nat -> D} {g ds} : aN f (.fn g ds)=(True):=_root_.id rfl
@[simp] theorem CX {f : Nat -> D} {sz es} : aN f (.own sz es)=(True):=_root_.id rfl
@[simp] theorem CT {f : Nat -> D} {sz es} : aN f (.blk sz es)=(True):=_root_.id rfl
@[simp] theorem FF {f : Nat -> D} {kt et ks vs} : aN f (.mp kt et ks vs)=(True):=_root_.id rfl
@[simp] theorem CW {f : Nat -> D} {b} : aN f (.mrf b)=(False):=_root_.id rfl
@[simp] theorem C0 {f : Nat -> D} {p k n} : aN f (.ref p k n)=(match aT f p with | some (_,es)=>k + n <= es.length | none=>False):=_root_.id rfl
@[simp] theorem CP {f : Nat -> D} {p i off} : aN f (.adr p i off)=(match aT f p with | some _=>True | none=>False):=_root_.id rfl
@[simp] theorem CR {f : Nat -> D} {ds} : aN f (.agx ds)=(True):=_root_.id rfl
@[simp] theorem C4 {f : Nat -> D} {ds} : aN f (.tpx ds)=(True):=_root_.id rfl
@[simp] theorem CZ {f : Nat -> D} {ds} : aN f (.ptx ds)=(True):=_root_.id rfl
@[simp] theorem C1 {f : Nat -> D} {n sz ds} : aN f (.rfx n sz ds)=(True):=_root_.id rfl
@[simp] theorem CU {f : Nat -> D} {g ds} : aN f (.fnx g ds)=(True):=_root_.id rfl
@[simp] theorem FK {f : Nat -> D} : bu f (.any)=(True):=_root_.id rfl
@[simp] theorem FN {f : Nat -> D} {k n} : bu f (.int k n)=(True):=_root_.id rfl
@[simp] theorem C6 {f : Nat -> D} {b} : bu f (.bool b)=(True):=_root_.id rfl
@[simp] theorem FV {f : Nat -> D} {s} : bu f (.str s)=(True):=_root_.id rfl
@[simp] theorem C7 {f : Nat -> D} : bu f (.nilp)=(True):=_root_.id rfl
@[simp] theorem C8 {f : Nat -> D} : bu f (.nils)=(True):=_root_.id rfl
@[simp] theorem FI {f : Nat -> D} {ds} : bu f (.agg ds)=(True):=_root_.id rfl
@[simp] theorem FX {f : Nat -> D} {ds} : bu f (.tup ds)=(True):=_root_.id rfl
@[simp] theorem Kd {f : Nat -> D} {es} : bu f (.sl es)=(True):=_root_.id rfl
@[simp] theorem FQ {f : Nat -> D} {ds} : bu f (.ptr ds)=(True):=_root_.id rfl
@[simp] theorem Kb {f : Nat -> D} {g ds} : bu f (.fn g ds)=(True):=_root_.id rfl
@[simp] theorem FP {f : Nat -> D} {sz es} : bu f (.own sz es)=(True):=_root_.id rfl
@[simp] theorem FL {f : Nat -> D} {sz es} : bu f (.blk sz es)=(True):=_root_.id rfl
@[simp] theorem Kc {f : Nat -> D} {kt et ks vs} : bu f (.mp kt et ks vs)=(True):=_root_.id rfl
@[simp] theorem FO {f : Nat -> D} {b} : bu f (.mrf b)=(False):=_root_.id rfl
@[simp] theorem zfs {f : Nat -> D} {p k n} : bu f (.ref p k n)=(match aT f p with | some (_,es)=>k + n <= es.length | none=>False):=_root_.id rfl
@[simp] theorem FH {f : Nat -> D} {p i off} : bu f (.adr p i off)=(match aT f p with | some _=>True | none=>False):=_root_.id rfl
@[simp] theorem FJ {f : Nat -> D} {ds} : bu f (.agx ds)=(∀ d ∈ ds,aN f d):=_root_.id rfl
@[simp] theorem FW {f : Nat -> D} {ds} : bu f (.tpx ds)=(∀ d ∈ ds,aN f d):=_root_.id rfl
@[simp] theorem FR {f : Nat -> D} {ds} : bu f (.ptx ds)=(∀ d ∈ ds,aN f d):=_root_.id rfl
@[simp] theorem FT {f : Nat -> D} {n sz ds} : bu f (.rfx n sz ds)=False:=_root_.id rfl
@[simp] theorem FM {f : Nat -> D} {g ds} : bu f (.fnx g ds)=(∀ d ∈ ds,aN f d):=_root_.id rfl
@[simp] theorem MP {p i0 o} : ldc p i0 o (.any)=.any:=_root_.id rfl
@[simp] theorem Ip {m} : eD m (.any)=.any:=_root_.id rfl
@[simp] theorem MS {p i0 o k n} : ldc p i0 o (.int k n)=.int k n:=_root_.id rfl
@[simp] theorem Is {m k n} : eD m (.int k n)=.int k n:=_root_.id rfl
@[simp] theorem HP {p i0 o b} : ldc p i0 o (.bool b)=.bool b:=_root_.id rfl
@[simp] theorem Ei {m b} : eD m (.bool b)=.bool b:=_root_.id rfl
@[simp] theorem M5 {p i0 o s} : ldc p i0 o (.str s)=.str s:=_root_.id rfl
@[simp] theorem Iz {m s} : eD m (.str s)=.str s:=_root_.id rfl
@[simp] theorem HQ {p i0 o} : ldc p i0 o (.nilp)=.nilp:=_root_.id rfl
@[simp] theorem Ej {m} : eD m (.nilp)=.nilp:=_root_.id rfl
@[simp] theorem HR {p i0 o} : ldc p i0 o (.nils)=.nils:=_root_.id rfl
@[simp] theorem MN {p i0 o ds} : ldc p i0 o (.agg ds)=.agg ds:=_root_.id rfl
@[simp] theorem In {m ds} : eD m (.agg ds)=.agg ds:=_root_.id rfl
@[simp] theorem M7 {p i0 o ds} : ldc p i0 o (.tup ds)=.tup ds:=_root_.id rfl
@[simp] theorem IB {m ds} : eD m (.tup ds)=.tup ds:=_root_.id rfl
@[simp] theorem O5 {p i0 o es} : ldc p i0 o (.sl es)=.sl es:=_root_.id rfl
@[simp] theorem Nh {m es} : eD m (.sl es)=.sl es:=_root_.id rfl
@[simp] theorem MV {p i0 o ds} : ldc p i0 o (.ptr ds)=.ptr ds:=_root_.id rfl
@[simp] theorem Iv {m ds} : eD m (.ptr ds)=.ptr ds:=_root_.id rfl
@[simp] theorem O3 {p i0 o g ds} : ldc p i0 o (.fn g ds)=.fn g ds:=_root_.id rfl
@[simp] theorem Nf {m g ds} : eD m (.fn g ds)=.fn g ds:=_root_.id rfl
@[simp] theorem MU {c i o sz es} : ldc (.r c) i o (.own sz es)=.ref (.n c i o) 0 es.length:=_root_.id rfl
@[simp] theorem Iu {m sz es} : eD m (.own sz es)=.own sz es:=_root_.id rfl
@[simp] theorem MQ {p i0 o sz es} : ldc p i0 o (.blk sz es)=.blk sz es:=_root_.id rfl
@[simp] theorem Iq {m sz es} : eD m (.blk sz es)=.blk sz es:=_root_.id rfl
@[simp] theorem O4 {p i0 o kt et ks vs} : ldc p i0 o (.mp kt et ks vs)=.mp kt et ks vs:=_root_.id rfl
@[simp] theorem Ng {m kt et ks vs} : eD m (.mp kt et ks vs)=.mp kt et ks vs:=_root_.id rfl
@[simp] theorem MT {p i0 o b} : ldc p i0 o (.mrf b)=.mrf b:=_root_.id rfl
@[simp] theorem It {m b} : eD m (.mrf b)=.mrf b:=_root_.id rfl
@[simp] theorem MX {p i0 o q k n} : ldc p i0 o (.ref q k n)=.ref q k n:=_root_.id rfl
@[simp] theorem Ix {m q k n} : eD m (.ref q k n)=.ref q k n:=_root_.id rfl
@[simp] theorem MM {p i0 o q i off} : ldc p i0 o (.adr q i off)=.adr q i off:=_root_.id rfl
@[simp] theorem Im {m q i off} : eD m (.adr q i off)=.adr q i off:=_root_.id rfl
@[simp] theorem MO {p i0 o ds} : ldc p i0 o (.agx ds)=.agx ds:=_root_.id rfl
@[simp] theorem Io {m ds} : eD m (.agx ds)=.agx ds:=_root_.id rfl
@[simp] theorem M6 {p i0 o ds} : ldc p i0 o (.tpx ds)=.tpx ds:=_root_.id rfl
@[simp] theorem IA {m ds} : eD m (.tpx ds)=.tpx ds:=_root_.id rfl
@[simp] theorem MW {p i0 o ds} : ldc p i0 o (.ptx ds)=.ptx ds:=_root_.id rfl
@[simp] theorem MY {p i0 o n sz ds} : ldc p i0 o (.rfx n sz ds)=.rfx n sz ds:=_root_.id rfl
@[simp] theorem Iw {m ds} : eD m (.ptx ds)=.ptx ds:=_root_.id rfl
@[simp] theorem Iy {m n sz ds} : eD m (.rfx n sz ds)=.rfx n sz ds:=_root_.id rfl
@[simp] theorem MR {p i0 o g ds} : ldc p i0 o (.fnx g ds)=.fnx g ds:=_root_.id rfl
@[simp] theorem Ir {m g ds} : eD m (.fnx g ds)=.fnx g ds:=_root_.id rfl
@[simp] theorem Ek {m} : eD m .nils=if m=0 then .nils else .own m []:=_root_.id rfl
def slx (b : Bool) (es : List (List D)) : D:=match b,es with
 | true,[]=>.nils
 | _,es=>.sl es
@[simp] theorem ct {es} : slx false es=.sl es:=by cases es <;> rfl
@[simp] theorem Jk {b x es} : slx b (x::es)=.sl (x::es):=by cases b <;> rfl
theorem gf (b : Bool) (es : List (List D)) : slx b es=.sl es \/ (slx b es=.nils /\ es=[]):=by cases b <;> cases es <;> simp [slx]
@[simp] theorem MI {b es} : isV (slx b es)=true:=by cases b <;> cases es <;> rfl
@[simp] theorem Lv {b es} : isK (slx b es)=true:=by cases b <;> cases es <;> rfl
@[simp] theorem Ma {b es} : isP (slx b es)=true:=by cases b <;> cases es <;> rfl
@[simp] theorem Mr {b es} : isS (slx b es)=true:=by cases b <;> cases es <;> rfl
@[simp] theorem GR {b es} : aw (slx b es)=true:=by cases b <;> cases es <;> rfl
@[simp] theorem LN {b es} : isO (slx b es)=false:=by cases b <;> cases es <;> rfl
@[simp] theorem Dy {b es} : cH (slx b es)=false:=by cases b <;> cases es <;> rfl
@[simp] theorem KG {b es} : isB (slx b es)=false:=by cases b <;> cases es <;> rfl
@[simp] theorem yz {b es} : cellsOf (slx b es)=[slx b es]:=by cases b <;> cases es <;> rfl
@[simp] theorem Cf {b es} : bZ (slx b es)=slx b es:=by cases b <;> cases es <;> rfl
@[simp] theorem CJ {b es} : aR (slx b es)=slx b es:=by cases b <;> cases es <;> rfl
@[simp] theorem y7 {b es} : aG (slx b es)=[]:=by cases b <;> cases es <;> rfl
@[simp] theorem Bf {b es} : bz (slx b es)=[]:=by cases b <;> cases es <;> rfl
@[simp] theorem JY {f : Nat -> D} {b es} : dp1 f (slx b es)=slx b es:=by cases b <;> cases es <;> rfl
@[simp] theorem Oo {f : Nat -> D} {b es} : dp f (slx b es)=slx b es:=by cases b <;> cases es <;> rfl
@[simp] theorem C2 {f : Nat -> D} {b es} : aN f (slx b es)=True:=by cases b <;> cases es <;> rfl
@[simp] theorem FU {f : Nat -> D} {b es} : bu f (slx b es)=True:=by cases b <;> cases es <;> rfl
@[simp] theorem MZ {p i o b es} : ldc p i o (slx b es)=slx b es:=by cases b <;> cases es <;> rfl
def qg (d : D) (K : Nat -> Prop) (_ : Tag K) : Prop:=match d with
 | .sl es=>K es.length
 | .nils=>K 0
 | .ref _ _ n=>K n
 | .rfx n _ _=>K n
 | _=>False
@[simp] theorem Ib {n sz ds K u} : qg (.rfx n sz ds) K u=K n:=_root_.id rfl
@[simp] theorem M8 {es K u} : qg (.sl es) K u=K es.length:=_root_.id rfl
@[simp] theorem D5 {K u} : qg .nils K u=K 0:=_root_.id rfl
@[simp] theorem Ia {p k n K u} : qg (.ref p k n) K u=K n:=_root_.id rfl
@[simp] theorem Ic {b es K u} : qg (slx b es) K u=K es.length:=by cases b <;> cases es <;> rfl
@[simp] theorem EA {n ds} : li true n ds=.agg (ds.take n):=_root_.id rfl
@[simp] theorem Bq {n ds} : li false n ds=ds.headD .any:=_root_.id rfl
@[simp] theorem Ih {t} : ac [] t=.any:=rfl
def lk (b : Bool) (d : D) (r : Env) (t : Nat) : D:=match b with
 | true=>d
 | false=>ac r t
@[simp] theorem M9 {d r t} : lk true d r t=d:=rfl
@[simp] theorem Id {d r t} : lk false d r t=ac r t:=rfl
@[simp] theorem D6 {s d r t} : ac ((s,d)::r) t=lk (s == t) d r t:=by
 by_cases h : s=t
 ·subst h;simp [ac]
 ·rw [show (s == t)=false by simp [h]];simp [ac,h]
@[simp] theorem DL {e} : oP [] e=[]:=_root_.id rfl
@[simp] theorem AE {t ts e} : oP (t::ts) e=(t,ac e t)::oP ts e:=_root_.id rfl
@[simp] theorem zA : lv []=[]:=_root_.id rfl
@[simp] theorem xA {t d r} : lv ((t,d)::r)=bz d++lv r:=_root_.id rfl
@[simp] theorem EW {e ks} : rI e [] ks=ks:=_root_.id rfl
@[simp] theorem B1 {e r rs ks} : rI e (r::rs) ks=rI e rs (if (ks.map (·.1)).contains r then ks else ks++[(r,ac e r)]):=_root_.id rfl
def fT (f : Nat -> D) (d : D) (ns : List Nat) (K : List D -> List Nat -> Prop) (_ : Tag K) : Prop:=fh f d ns K
def fz (f : Nat -> D) (d : D) (K : D -> List Nat -> Prop) (_ : Tag K) : Prop:=dG f d K
def n9 (f : Nat -> D) (ds : List D) (K : List D -> List Nat -> Prop) (_ : Tag K) : Prop:=kL f ds K
def ti (b n : Nat) (x : D) (K : D -> List Nat -> Prop) (_ : Tag K) : Prop:=match x with
 | .blk sz es=>es.length=n /\ (∀ e ∈ es,∀ c ∈ e,aw c=true) /\ K (.own sz es) [b]
 | _=>False
@[simp] theorem EL {b n sz es K u} : ti b n (.blk sz es) K u=(es.length=n /\ (∀ e ∈ es,∀ c ∈ e,aw c=true) /\ K (.own sz es) [b]):=_root_.id rfl
theorem dO {f : Nat -> D} {d : D} {K : D -> List Nat -> Prop} {u} (h : aw d=true) : fz f d K u=K d []:=by
 cases d <;> simp [aw] at h <;> simp [fz,dG,aw]
@[simp] theorem BT {f b k n K u} : fz f (.ref (.r b) k n) K u=(k=0 /\ ti b n (f b) K ⟨⟩):=by
 simp only [fz,dG,ti]
 cases f b <;> rfl
theorem eP {f : Nat -> D} {d : D} {K : List D -> List Nat -> Prop} {u} (h : aw d=true) : fT f d [] K u=K [d] []:=by
 cases d <;> simp [aw] at h <;> simp [fT,fh,dG,aw,eE]
@[simp] theorem EO {f ds K u} : fT f (.agg ds) [] K u=((∀ c ∈ ds,aw c=true) /\ K ds []):=by simp [fT,fh,eE]
@[simp] theorem EP {f ds K u} : fT f (.agx ds) [] K u=n9 f ds (fun cs bs=>bE bs=true /\ K cs bs) ⟨⟩:=by simp [fT,n9,fh,eE]
@[simp] theorem ES {f b k n K u} : fT f (.ref (.r b) k n) [] K u=(k=0 /\ ti b n (f b) (fun c bs=>K [c] bs) ⟨⟩):=by
 simp only [fT,fh,dG,ti,eE,if_true,true_or,true_and]
 cases f b <;> rfl
@[simp] theorem BW {f K u} : n9 f [] K u=K [] []:=_root_.id rfl
@[simp] theorem zU {f d ds K u} : n9 f (d::ds) K u=fz f d (fun c bs=>n9 f ds (fun cs bs'=>K (c::cs) (bs++bs')) ⟨⟩) ⟨⟩:=_root_.id rfl
@[simp] theorem BR {f k n K u} : fz f (.int k n) K u=K (.int k n) []:=dO rfl
@[simp] theorem EQ {f k n K u} : fT f (.int k n) [] K u=K [.int k n] []:=eP rfl
@[simp] theorem zR {f n K u} : fz f (.bool n) K u=K (.bool n) []:=dO rfl
@[simp] theorem BX {f n K u} : fT f (.bool n) [] K u=K [.bool n] []:=eP rfl
@[simp] theorem BV {f n K u} : fz f (.str n) K u=K (.str n) []:=dO rfl
@[simp] theorem EU {f n K u} : fT f (.str n) [] K u=K [.str n] []:=eP rfl
@[simp] theorem zS {f  K u} : fz f .nilp K u=K .nilp []:=dO rfl
@[simp] theorem BY {f  K u} : fT f .nilp [] K u=K [.nilp] []:=eP rfl
@[simp] theorem zT {f  K u} : fz f .nils K u=K .nils []:=dO rfl
@[simp] theorem BZ {f  K u} : fT f .nils [] K u=K [.nils] []:=eP rfl
@[simp] theorem EN {f n K u} : fz f (.sl n) K u=K (.sl n) []:=dO rfl
@[simp] theorem Jx {f n K u} : fT f (.sl n) [] K u=K [.sl n] []:=eP rfl
@[simp] theorem BS {f n K u} : fz f (.ptr n) K u=K (.ptr n) []:=dO rfl
@[simp] theorem ER {f n K u} : fT f (.ptr n) [] K u=K [.ptr n] []:=eP rfl
@[simp] theorem EM {f g n K u} : fz f (.fn g n) K u=K (.fn g n) []:=dO rfl
@[simp] theorem Jw {f g n K u} : fT f (.fn g n) [] K u=K [.fn g n] []:=eP rfl
@[simp] theorem BU {f b n K u} : fz f (slx b n) K u=K (slx b n) []:=dO (by simp)
@[simp] theorem ET {f b n K u} : fT f (slx b n) [] K u=K [slx b n] []:=eP (by simp)
def nO (f : Nat -> D) (sz : Nat) (ps : List (Nat × Opd)) (es : List (List D)) (bs : List Nat) (K : List (List D) -> List Nat -> Prop) (_ : Tag K) : Prop:=eJ f sz [] ps es bs K
@[simp] theorem Br {f sz es bs K u} : nO f sz [] es bs K u=K es bs:=_root_.id rfl
@[simp] theorem zw {f sz i x ps es bs K u} : nO f sz ((i,x)::ps) es bs K u=(i < es.length /\ fT f (vd f x) [] (fun cs bs'=>cs.length=sz /\ nO f sz ps (es.set i cs) (bs++bs') K ⟨⟩) ⟨⟩):=_root_.id rfl
def iq (f : Nat -> D) (mv : Bool) (d : D) (sz : Nat) (K : List (List D) -> List Nat -> Prop) (_ : Tag K) : Prop:=eN f mv d sz K
def Bu (b n sz : Nat) (x : D) (K : List (List D) -> List Nat -> Prop) (_ : Tag K) : Prop:=match x with
 | .blk sz' es=>sz'=sz /\ es.length=n /\ (∀ e ∈ es,∀ c ∈ e,isC c=true) /\ K es [b]
 | _=>False
@[simp] theorem I5 {b n sz sz' es K u} : Bu b n sz (.blk sz' es) K u=(sz'=sz /\ es.length=n /\ (∀ e ∈ es,∀ c ∈ e,isC c=true) /\ K es [b]):=_root_.id rfl
def Bv (k n sz : Nat) (x : Option (Nat × List (List D))) (K : List (List D) -> List Nat -> Prop) (_ : Tag K) : Prop:=match x with
 | some (sz',es)=>sz'=sz /\ k + n <= es.length /\ (∀ e ∈ (es.drop k).take n,∀ c ∈ e,aw c=true) /\ K ((es.drop k).take n) []
 | none=>False
@[simp] theorem EB {k n sz sz' es K u} : Bv k n sz (some (sz',es)) K u=(sz'=sz /\ k + n <= es.length /\ (∀ e ∈ (es.drop k).take n,∀ c ∈ e,aw c=true) /\ K ((es.drop k).take n) []):=_root_.id rfl
@[simp] theorem Bw {f mv sz K u} : iq f mv .nils sz K u=K [] []:=_root_.id rfl
@[simp] theorem Jc {f mv es sz K u} : iq f mv (.sl es) sz K u=((∀ e ∈ es,e.length=sz /\ ∀ c ∈ e,aw c=true) /\ K es []):=_root_.id rfl
@[simp] theorem EF {f mv b es sz K u} : iq f mv (slx b es) sz K u=((∀ e ∈ es,e.length=sz /\ ∀ c ∈ e,aw c=true) /\ K es []):=by
 rcases gf b es with h | ⟨h,rfl⟩ <;> rw [h] <;> simp
@[simp] theorem Jb {f b k n sz K u} : iq f true (.ref (.r b) k n) sz K u=(k=0 /\ Bu b n sz (f b) K ⟨⟩):=by
 simp only [iq,eN,Bu]
 cases f b <;> rfl
@[simp] theorem EE {f p k n sz K u} : iq f false (.ref p k n) sz K u=Bv k n sz (aT f p) K ⟨⟩:=by
 simp only [iq,eN,Bv]
 cases aT f p <;> rfl
def di (f : Nat -> D) (o : Option Opd) (dflt : Nat) (K : Nat -> Prop) (_ : Tag K) : Prop:=dH f o dflt K
def Fd (d : D) (K : Nat -> Prop) (_ : Tag K) : Prop:=match d with
 | .int _ n=>0 <= n /\ K n.toNat
 | _=>False
@[simp] theorem Fe {k n K u} : Fd (.int k n) K u=(0 <= n /\ K n.toNat):=_root_.id rfl
@[simp] theorem yi {f n K u} : di f none n K u=K n:=_root_.id rfl
@[simp] theorem yj {f x n K u} : di f (some x) n K u=Fd (vd f x) K ⟨⟩:=_root_.id rfl
def fR (x : Option (List D)) (K : List D -> Prop) (_ : Tag K) : Prop:=match x with
 | some r=>K r
 | none=>False
@[simp] theorem ED {r K u} : fR (some r) K u=K r:=_root_.id rfl
@[simp] theorem EC {K u} : fR none K u=False:=_root_.id rfl
theorem eT {x : Option (List D)} {K : List D -> Prop} {u} : fR x K u=∃ r,x=some r /\ K r:=by
 cases x <;> simp [fR]
def jn (x : Option D) (K : Nat -> List (List D) -> Prop) (_ : Tag K) : Prop:=match x with
 | some (.own sz es)=>K sz es
 | _=>False
@[simp] theorem IW {sz es K u} : jn (some (.own sz es)) K u=K sz es:=_root_.id rfl
theorem iP {x : Option D} {K : Nat -> List (List D) -> Prop} {u} : jn x K u=∃ sz es,x=some (.own sz es) /\ K sz es:=by
 cases x with
 | none=>simp [jn]
 | some d =>
  cases d <;> simp [jn]
  exact ⟨fun h=>⟨_,_,⟨rfl,rfl⟩,h⟩,by rintro ⟨_,_,⟨rfl,rfl⟩,h⟩;exact h⟩
def vY (x : Option D) (K : D -> Prop) (_ : Tag K) : Prop:=match x with
 | some d=>K d
 | none=>False
@[simp] theorem Cu {d K u} : vY (some d) K u=K d:=_root_.id rfl
theorem vZ {x : Option D} {K : D -> Prop} {u} : vY x K u=∃ d,x=some d /\ K d:=by
 cases x <;> simp [vY]
def dN (x : D) (K : Nat -> List (List D) -> Prop) (_ : Tag K) : Prop:=match x with
 | .blk sz es=>K sz es
 | _=>False
@[simp] theorem Fc {sz es K u} : dN (.blk sz es) K u=K sz es:=_root_.id rfl
abbrev CC:=Nat -> List D -> D -> List D -> Prop
abbrev KT:=List (Nat × D) -> List (Nat × Bool) -> Prop
section
variable {C : CC} {Q : cr -> Env -> Prop} {e e' : Env} {d : D}
def wN (C : CC) (c : dF) (Q : cr -> Env -> Prop) (_ : Tag (c,Q)) (e : Env) : Prop:=wpN C c Q e
def re (C : CC) (c : dF) (Q : cr -> Env -> Prop) (_ : Tag (c,Q)) (e : Env) : Prop:=wpN C (.loop c) Q e
def sv (C : CC) (K : Env -> Prop) (ns : List aq) (_ : Tag (K,ns)) (e : Env) : Prop:=gI C K ns e
def qn (C : CC) (hs : List Nat) (K : Env -> Prop) (ns : List aq) (_ : Tag (K,ns)) (e : Env) (acc : List (List Nat × List Nat)) : Prop:=i9 C hs K ns e acc
def Gu (hs : List Nat) (acc : List (List Nat × List Nat)) : Prop:=jD hs acc.reverse=true
theorem ah {hs : List Nat} {acc : List (List Nat × List Nat)} (h : jD hs acc.reverse=true) : Gu hs acc:=h
def yG (C : CC) (K : Env -> Prop) (ns : List aq) (e : Env) : KT:=fun ws ks=>gI C K ns (ws++dJ ks e)
def Fs (C : CC) (hs : List Nat) (K : Env -> Prop) (ns : List aq) (e : Env) (R : List Nat) (acc : List (List Nat × List Nat)) : KT:=fun ws ks=>wOk R ws ks=true /\ i9 C hs K ns (ws++dJ ks e) ((R,wrK ws ks)::acc)
def doT (C : CC) (K : Env -> Prop) (ns : List aq) (_ : Tag (K,ns)) (e : Env) (ws : List (Nat × D)) (ks : List (Nat × Bool)) : Prop:=gI C K ns (ws++dJ ks e)
def bM (Q : cr -> Env -> Prop) (_ : Tag Q) (t : cr) (e : Env) : Prop:=Q t e
def fin (res : List (Nat × Option (Nat × Bool))) (d : D) : cr -> Env -> Prop:=fun t e=>(match t with
   | .ext _=>False
   | _=>True) /\ fJ res d e
def xH (C : CC) (y : dF) (Q : cr -> Env -> Prop) : cr -> Env -> Prop:=fun t e'=>match t with
  | .nrm=>wpN C y Q e'
  | t=>Q t e'
def nl (id : Nat) (Q : cr -> Env -> Prop) : cr -> Env -> Prop:=fun t e'=>match t with
  | .ext i=>if i=id then Q .nrm e' else Q (.ext i) e'
  | t=>Q t e'
def xy (keep : List Nat) (Q : cr -> Env -> Prop) : Env -> Prop:=fun e'=>Q .nrm (prune keep e')
def kOf (C : CC) (hs : Option (List Nat)) (K : Env -> Prop) (ns : List aq) (e : Env) (R : List Nat) (acc : List (List Nat × List Nat)) : KT :=
 match hs with
 | none=>yG C K ns e
 | some hs=>Fs C hs K ns e R acc
def doW (C : CC) (hs : Option (List Nat)) (K : Env -> Prop) (ns : List aq) (_ : Tag (hs,K,ns)) (e : Env) (R : List Nat) (acc : List (List Nat × List Nat)) (ws : List (Nat × D)) (ks : List (Nat × Bool)) : Prop:=kOf C hs K ns e R acc ws ks
def opW (C : CC) (hs : Option (List Nat)) (K : Env -> Prop) (ns : List aq) (dst : Option Nat) (op : NOp) (_ : Tag (hs,K,ns,dst,op)) (e : Env) (R : List Nat) (acc : List (List Nat × List Nat)) : Prop:=ay C (ac e) dst (kOf C hs K ns e R acc) op
def dW (C : CC) (hs : Option (List Nat)) (K : Env -> Prop) (ns : List aq) (dst : Option Nat) (_ : Tag (hs,K,ns)) (e : Env) (R : List Nat) (acc : List (List Nat × List Nat)) (d : D) : Prop:=da dst (kOf C hs K ns e R acc) d
def oj (C : CC) (g : Nat) (hs : Option (List Nat)) (K : Env -> Prop) (ns : List aq) (dst : Option Nat) (_ : Tag (hs,K,ns)) (e : Env) (R : List Nat) (acc : List (List Nat × List Nat)) (pure : Bool) (ds : List D) : Prop :=
 ∃ d,C g ds d [] /\ (isF d=true \/ pure=true) /\ da dst (kOf C hs K ns e R acc) d
theorem start {prog : Nat -> Option az} (hC : aA prog C) {g : Nat} {nf : az} {ds : List D} (hp : prog g=some nf) (hl : ds.length=nf.np) (h : wN C nf.body (fin nf.res d) ⟨⟩ (params 0 ds)) : C g ds d []:=hC.1 g nf ds d hp hl h
def r8 (res : List (Nat × Option (Nat × Bool))) (sz : Nat) (es : List (List D)) : cr -> Env -> Prop:=fun t e=>(match t with
   | .ext _=>False
   | _=>True) /\ jq res sz es e
def r9 (res : List (Nat × Option (Nat × Bool))) (d : D) : cr -> Env -> Prop:=fun t e=>(match t with
   | .ext _=>False
   | _=>True) /\ jp res d e
def sa (res : List (Nat × Option (Nat × Bool))) (d : D) (sz : Nat) (es' : List (List D)) : cr -> Env -> Prop:=fun t e=>(match t with
   | .ext _=>False
   | _=>True) /\ (0 < es'.length /\ ac e 10015=.blk sz es') /\ fJ res d ((10015,.any)::e)
def pY (res : List (Nat × Option (Nat × Bool))) (sz : Nat) (es : List (List D)) : cr -> Env -> Prop:=fun t e=>(match t with
   | .ext _=>False
   | _=>True) /\ jr res sz es e
theorem BH {prog : Nat -> Option az} (hC : aA prog C) {g : Nat} {nf : az} {ds : List D} {sz : Nat} {es es' : List (List D)} (hp : prog g=some nf) (hl : ds.length + 1=nf.np) (hpu : ∀ d ∈ ds,isO d=false) (hsz : 0 < sz) (h : wN C nf.body (pY nf.res sz es') ⟨⟩ ((0,.ref (.r 10015) 0 es.length)::(params 1 ds++[(10015,.blk sz es)]))) : C g (.own sz es::ds) .any [.own sz es',.nils,.nils]:=hC.2.2.2.2.2.1 g nf ds sz es es' hp hl hpu hsz h
def pX (res : List (Nat × Option (Nat × Bool))) (R : D) : cr -> Env -> Prop:=fun t e=>(match t with
   | .ext _=>False
   | _=>True) /\ pm res R e
theorem BG {prog : Nat -> Option az} (hC : aA prog C) {g : Nat} {nf : az} {ds : List D} {R : D} (hp : prog g=some nf) (hl : ds.length=nf.np) (hok : okR R=true) (h : wN C nf.body (pX nf.res R) ⟨⟩ (params 0 ds)) : C g ds R [.nils]:=hC.2.2.2.2.2.2 g nf ds R hp hl hok h
def pL (C : CC) (g : Nat) (hs : Option (List Nat)) (K : Env -> Prop) (ns : List aq) (t : Nat) (_ : Tag (hs,K,ns)) (e : Env) (R : List Nat) (acc : List (List Nat × List Nat)) (ds : List D) : Prop :=
 (∃ d,C g ds d [] /\ da (some t) (kOf C hs K ns e R acc) d) \/ ∃ d,okR d=true /\ C g ds d [.nils] /\ kOf C hs K ns e R acc ((t,dy t d)::aM t d) (db t d)
theorem rO {g : Nat} {hs : Option (List Nat)} {K : Env -> Prop} {ns : List aq} {t : Nat} {u : Tag (hs,K,ns)} {R : List Nat} {acc : List (List Nat × List Nat)} {ds : List D} {d : D} (h : C g ds d [.nils]) (hok : okR d=true) (hk : doW C hs K ns ⟨⟩ e R acc ((t,dy t d)::aM t d) (db t d)) : pL C g hs K ns t u e R acc ds:=.inr ⟨d,hok,h,hk⟩
theorem rN {g : Nat} {hs : Option (List Nat)} {K : Env -> Prop} {ns : List aq} {t : Nat} {u : Tag (hs,K,ns)} {R : List Nat} {acc : List (List Nat × List Nat)} {ds : List D} {d : D} (h : C g ds d []) (hk : dW C hs K ns (some t) ⟨⟩ e R acc d) : pL C g hs K ns t u e R acc ds:=.inl ⟨d,h,hk⟩
def z6 (C : CC) (g : Nat) (hs : Option (List Nat)) (K : Env -> Prop) (ns : List aq) (dst : Option Nat) (_ : Tag (hs,K,ns)) (e : Env) (R : List Nat) (acc : List (List Nat × List Nat)) (ds : List D) : Prop :=
 ∃ d,C g ds d [.nilp] /\ da dst (kOf C hs K ns e R acc) d
def zZ (C : CC) (g : Nat) (hs : Option (List Nat)) (K : Env -> Prop) (ns : List aq) (t : Nat) (_ : Tag (hs,K,ns)) (e : Env) (R : List Nat) (acc : List (List Nat × List Nat)) (ds : List D) : Prop :=
 ∃ sz es,C g ds .any [.own sz es] /\ kOf C hs K ns e R acc [(t,.ref (.r (rt t 0)) 0 es.length),(rt t 0,.blk sz es)] [(rt t 0,true)]
def pN (C : CC) (g : Nat) (hs : Option (List Nat)) (K : Env -> Prop) (ns : List aq) (dst : Option Nat) (_ : Tag (hs,K,ns)) (e : Env) (R : List Nat) (acc : List (List Nat × List Nat)) (b sz : Nat) (es : List (List D)) (ds : List D) (p : Bool) : Prop:=match dst with
 | none=>∃ es' : List (List D),es'.length=es.length /\ (∀ e ∈ es',e.length=sz /\ ∀ c ∈ e,aw c=true) /\ (p=true \/ ∀ e ∈ es',∀ c ∈ e,bk c=true) /\ C g (.own sz es::ds) .any [.own sz es',.nilp] /\ doW C hs K ns ⟨⟩ e R acc [(b,.blk sz es')] []
 | some t=>(∃ es' : List (List D),es'.length=es.length /\ (∀ e ∈ es',e.length=sz /\ ∀ c ∈ e,aw c=true) /\ (p=true \/ ∀ e ∈ es',∀ c ∈ e,bk c=true) /\ C g (.own sz es::ds) .any [.own sz es',.nilp] /\ doW C hs K ns ⟨⟩ e R acc [(t,.tup []),(b,.blk sz es')] []) \/ (b ≠ rt t 0 /\ 0 < sz /\ ∃ es' : List (List D),(∀ e ∈ es',e.length=sz /\ ∀ c ∈ e,aw c=true) /\ (p=true \/ ∀ e ∈ es',∀ c ∈ e,bk c=true) /\ C g (.own sz es::ds) .any [.own sz es',.nils] /\ doW C hs K ns ⟨⟩ e R acc [(t,.ref (.r (rt t 0)) 0 es'.length),(rt t 0,.blk sz es'),(b,.any)] [(rt t 0,true)])
theorem rP {t : Nat} {g : Nat} {hs : Option (List Nat)} {K : Env -> Prop} {ns : List aq} {u : Tag (hs,K,ns)} {R : List Nat} {acc : List (List Nat × List Nat)} {b sz : Nat} {es es' : List (List D)} {ds : List D} {p : Bool} (h : C g (.own sz es::ds) .any [.own sz es',.nilp]) (hp : (p=true \/ ∀ e ∈ es',∀ c ∈ e,bk c=true)) (hl : es'.length=es.length) (hu : (∀ e ∈ es',e.length=sz /\ ∀ c ∈ e,aw c=true)) (hk : doW C hs K ns ⟨⟩ e R acc [(t,.tup []),(b,.blk sz es')] []) : pN C g hs K ns (some t) u e R acc b sz es ds p:=.inl ⟨es',hl,hu,hp,h,hk⟩
def BF (C : CC) (g : Nat) (hs : Option (List Nat)) (K : Env -> Prop) (ns : List aq) (dst : Option Nat) (_ : Tag (hs,K,ns)) (e : Env) (R : List Nat) (acc : List (List Nat × List Nat)) (b n : Nat) (xs : List Opd) (d : D) : Prop:=match d with
 | .blk sz es=>es.length=n /\ (∀ e ∈ es,∀ c ∈ e,aw c=true) /\ (∀ x ∈ xs,bu (fbE (ac e) b) (vd (fbE (ac e) b) x)) /\ pN C g hs K ns dst ⟨⟩ e R acc b sz es (xs.map (dpv (fbE (ac e) b))) (xs.all fun y=>isV (vd (fbE (ac e) b) y))
 | _=>False
def Jo (C : CC) (g : Nat) (hs : Option (List Nat)) (K : Env -> Prop) (ns : List aq) (dst : Option Nat) (_ : Tag (hs,K,ns)) (e : Env) (R : List Nat) (acc : List (List Nat × List Nat)) (xs : List Opd) (d : D) : Prop:=match d with
 | .ref (.r b) k n=>k=0 /\ BF C g hs K ns dst ⟨⟩ e R acc b n xs (ac e b)
 | _=>False
@[simp] theorem Ox {f : Nat -> D} {b t : Nat} : fbE f b t=if t=b then .any else f t:=_root_.id rfl
theorem aa {g : Nat} {hs : Option (List Nat)} {K : Env -> Prop} {ns : List aq} {dst : Option Nat} {u : Tag (hs,K,ns)} {R : List Nat} {acc : List (List Nat × List Nat)} {p : Bool} {ds : List D} (h : C g ds d []) (hf : isF d=true \/ p=true) (hk : dW C hs K ns dst ⟨⟩ e R acc d) : oj C g hs K ns dst u e R acc p ds:=⟨d,h,hf,hk⟩
def nS (S : Type) (G : S -> Env) (I : S -> Prop) (m : S -> Nat) (s : S) (Q : cr -> Env -> Prop) : cr -> Env -> Prop:=fun t e'=>match t with
    | .nrm=>∃ s',I s' /\ m s' < m s /\ jt e' (G s')
    | t=>Q t e'
theorem au {c : dF} {u : Tag (c,Q)} (S : Type) (G : S -> Env) (I : S -> Prop) (m : S -> Nat) (s0 : S) (h0 : I s0) (hw : jt e (G s0))
  (h : ∀ s,I s -> wN C c (nS S G I m s Q) ⟨⟩ (G s)) : re C c Q u e:=⟨S,G,I,m,s0,h0,hw,h⟩
@[simp] theorem NZ {u} : wN C .skip Q u e=bM Q ⟨⟩ .nrm e:=_root_.id rfl
@[simp] theorem Pr {hs keep ops u} : wN C (.reg false hs keep ops) Q u e=sv C (xy keep Q) ops ⟨⟩ e:=_root_.id rfl
@[simp] theorem NW {hs keep ops u} : wN C (.reg true hs keep ops) Q u e=qn C hs (xy keep Q) ops ⟨⟩ e []:=_root_.id rfl
@[simp] theorem Pt {x y u} : wN C (.seq x y) Q u e=wN C x (xH C y Q) ⟨⟩ e:=_root_.id rfl
def brB (b : Bool) (X Y : Prop) (_ : Tag (X,Y)) : Prop:=(b=true -> X) /\ (b=false -> Y)
theorem al {b : Bool} {X Y : Prop} {u} (h1 : b=true -> X) (h2 : b=false -> Y) : brB b X Y u:=⟨h1,h2⟩
@[simp] theorem Fl {X Y : Prop} {u} : brB true X Y u=X:=by simp [brB]
@[simp] theorem Ct {X Y : Prop} {u} : brB false X Y u=Y:=by simp [brB]
def cdW (C : CC) (x y : dF) (Q : cr -> Env -> Prop) (_ : Tag (x,y,Q)) (e : Env) (d : D) : Prop:=match d with
 | .bool b=>brB b (wN C x Q ⟨⟩ e) (wN C y Q ⟨⟩ e) ⟨⟩
 | .bb=>wN C x Q ⟨⟩ e /\ wN C y Q ⟨⟩ e
 | _=>False
@[simp] theorem N2 {x y u} : cdW C x y Q u e .bb=(wN C x Q ⟨⟩ e /\ wN C y Q ⟨⟩ e):=_root_.id rfl
@[simp] theorem Fm {x y u b} : cdW C x y Q u e (.bool b)=brB b (wN C x Q ⟨⟩ e) (wN C y Q ⟨⟩ e) ⟨⟩:=_root_.id rfl
@[simp] theorem NV {c x y u} : wN C (.cond c x y) Q u e=cdW C x y Q ⟨⟩ e (vd (ac e) c):=_root_.id rfl
@[simp] theorem Ju {id c u} : wN C (.block id c) Q u e=wN C c (nl id Q) ⟨⟩ e:=_root_.id rfl
@[simp] theorem NY {c u} : wN C (.loop c) Q u e=re C c Q ⟨⟩ e:=_root_.id rfl
@[simp] theorem NX {id u} : wN C (.exit id) Q u e=bM Q ⟨⟩ (.ext id) e:=_root_.id rfl
@[simp] theorem Ps {u} : wN C .ret Q u e=bM Q ⟨⟩ .ret e:=_root_.id rfl
@[simp] theorem wJ {y u} : bM (xH C y Q) u .nrm e=wN C y Q ⟨⟩ e:=_root_.id rfl
@[simp] theorem wI {y u i} : bM (xH C y Q) u (.ext i) e=bM Q ⟨⟩ (.ext i) e:=_root_.id rfl
@[simp] theorem wK {y u} : bM (xH C y Q) u .ret e=bM Q ⟨⟩ .ret e:=_root_.id rfl
@[simp] theorem tQ {id u} : bM (nl id Q) u .nrm e=bM Q ⟨⟩ .nrm e:=_root_.id rfl
@[simp] theorem tP {id u i} : bM (nl id Q) u (.ext i) e=if i=id then bM Q ⟨⟩ .nrm e else bM Q ⟨⟩ (.ext i) e:=_root_.id rfl
@[simp] theorem tR {id u} : bM (nl id Q) u .ret e=bM Q ⟨⟩ .ret e:=_root_.id rfl
@[simp] theorem wA {r u} : bM (fin r d) u .nrm e=fJ r d e:=by simp [bM,fin]
@[simp] theorem wB {r u} : bM (fin r d) u .ret e=fJ r d e:=by simp [bM,fin]
@[simp] theorem vH {r d} {u : Tag (r9 r d)} : bM (r9 r d) u .nrm e=jp r d e:=by simp [bM,r9]
@[simp] theorem vI {r d} {u : Tag (r9 r d)} : bM (r9 r d) u .ret e=jp r d e:=by simp [bM,r9]
@[simp] theorem vF {r sz es} {u : Tag (r8 r sz es)} : bM (r8 r sz es) u .nrm e=jq r sz es e:=by simp [bM,r8]
@[simp] theorem vG {r sz es} {u : Tag (r8 r sz es)} : bM (r8 r sz es) u .ret e=jq r sz es e:=by simp [bM,r8]
@[simp] theorem vL {r d sz es} {u : Tag (sa r d sz es)} : bM (sa r d sz es) u .nrm e=((0 < es.length /\ ac e 10015=.blk sz es) /\ fJ r d ((10015,.any)::e)):=by simp [bM,sa]
@[simp] theorem vM {r d sz es} {u : Tag (sa r d sz es)} : bM (sa r d sz es) u .ret e=((0 < es.length /\ ac e 10015=.blk sz es) /\ fJ r d ((10015,.any)::e)):=by simp [bM,sa]
@[simp] theorem vJ {r sz es} {u : Tag (pY r sz es)} : bM (pY r sz es) u .nrm e=jr r sz es e:=by simp [bM,pY]
@[simp] theorem vK {r sz es} {u : Tag (pY r sz es)} : bM (pY r sz es) u .ret e=jr r sz es e:=by simp [bM,pY]
@[simp] theorem vD {r d} {u : Tag (pX r d)} : bM (pX r d) u .nrm e=pm r d e:=by simp [bM,pX]
@[simp] theorem vE {r d} {u : Tag (pX r d)} : bM (pX r d) u .ret e=pm r d e:=by simp [bM,pX]
@[simp] theorem tT {S G I m s u} : bM (nS S G I m s Q) u .nrm e=∃ s',I s' /\ m s' < m s /\ jt e (G s'):=_root_.id rfl
@[simp] theorem tS {S G I m s u i} : bM (nS S G I m s Q) u (.ext i) e=bM Q ⟨⟩ (.ext i) e:=_root_.id rfl
@[simp] theorem tU {S G I m s u} : bM (nS S G I m s Q) u .ret e=bM Q ⟨⟩ .ret e:=_root_.id rfl
end
section
variable {C : CC} {Q : cr -> Env -> Prop} {e : Env} {K : Env -> Prop} {dst : Option Nat} {d : D} {hs : Option (List Nat)} {ns : List aq} {R : List Nat} {acc : List (List Nat × List Nat)} {u : Tag (hs,K,ns)}
@[simp] theorem IT {keep u} : sv C (xy keep Q) [] u e=bM Q ⟨⟩ .nrm (prune keep e):=_root_.id rfl
@[simp] theorem IS {h keep u} : qn C h (xy keep Q) [] u e acc=(Gu h acc /\ bM Q ⟨⟩ .nrm (prune keep e)):=_root_.id rfl
@[simp] theorem Ey {dst op ns u} : sv C K (⟨dst,op,none⟩::ns) u e=opW C none K ns dst op ⟨⟩ e [] []:=_root_.id rfl
@[simp] theorem Ew {h dst op ns u} : qn C h K (⟨dst,op,none⟩::ns) u e acc=(chk (ac e) ⟨dst,op,none⟩=true /\ opW C (some h) K ns dst op ⟨⟩ e (hJ (ac e) ⟨dst,op,none⟩) acc):=_root_.id rfl
def mj (C : CC) (h : List Nat) (K : Env -> Prop) (ns : List aq) (_ : Tag (h,K,ns)) (e : Env) (dst : Option Nat) (R : List Nat) (acc : List (List Nat × List Nat)) : Prop:=gd e dst fun e'=>i9 C h K ns e' ((R,rZ dst)::acc)
@[simp] theorem By {h t ns u} : mj C h K ns u e (some t) R acc=qn C h K ns ⟨⟩ ((t,.tup [])::e) ((R,[4 * t])::acc):=_root_.id rfl
@[simp] theorem Bx {h ns u} : mj C h K ns u e none R acc=qn C h K ns ⟨⟩ e ((R,[])::acc):=_root_.id rfl
def gdT (C : CC) (K : Env -> Prop) (ns : List aq) (dst : Option Nat) (op : NOp) (s : Nat) (want : Bool) (_ : Tag (K,ns)) (e : Env) (d : D) : Prop:=match d with
 | .bool b=>(b=want -> opW C none K ns dst op ⟨⟩ ((s,.bool want)::e) [] []) /\ (b=!want -> dW C none K ns dst ⟨⟩ ((s,.bool !want)::e) [] [] (.tup []))
 | .tup []=>dW C none K ns dst ⟨⟩ e [] [] (.tup [])
 | _=>False
@[simp] theorem Gc {op s b u} : gdT C K ns dst op s true u e (.bool b)=brB b (opW C none K ns dst op ⟨⟩ ((s,.bool true)::e) [] []) (dW C none K ns dst ⟨⟩ ((s,.bool false)::e) [] [] (.tup [])) ⟨⟩:=_root_.id rfl
@[simp] theorem De {op s b u} : gdT C K ns dst op s false u e (.bool b)=brB b (dW C none K ns dst ⟨⟩ ((s,.bool true)::e) [] [] (.tup [])) (opW C none K ns dst op ⟨⟩ ((s,.bool false)::e) [] []) ⟨⟩:=by
 simp only [gdT,brB,Bool.not_false];exact propext ⟨fun h=>⟨h.2,h.1⟩,fun h=>⟨h.2,h.1⟩⟩
@[simp] theorem Gb {op s want u} : gdT C K ns dst op s want u e (.tup [])=dW C none K ns dst ⟨⟩ e [] [] (.tup []):=_root_.id rfl
@[simp] theorem Ez {dst op s want ns u} : sv C K (⟨dst,op,some (s,want)⟩::ns) u e=gdT C K ns dst op s want ⟨⟩ e (ac e s):=by
 simp only [sv,gI,opW,pE,gd,gdT,dW,da,kOf,yG,dJ]
 cases ac e s <;> cases dst <;> (first | rfl | (rename_i x _ ;cases x <;> rfl) | (rename_i x;cases x <;> rfl))
def gdD (C : CC) (h : List Nat) (K : Env -> Prop) (ns : List aq) (dst : Option Nat) (op : NOp) (want : Bool) (_ : Tag (K,ns)) (e : Env) (R : List Nat) (acc : List (List Nat × List Nat)) (d : D) : Prop:=match d with
 | .bool b=>(b=want -> opW C (some h) K ns dst op ⟨⟩ e R acc) /\ (b=!want -> mj C h K ns ⟨⟩ e dst R acc)
 | .tup []=>mj C h K ns ⟨⟩ e dst R acc
 | _=>False
@[simp] theorem Ga {h op b u} : gdD C h K ns dst op true u e R acc (.bool b)=brB b (opW C (some h) K ns dst op ⟨⟩ e R acc) (mj C h K ns ⟨⟩ e dst R acc) ⟨⟩:=_root_.id rfl
@[simp] theorem Dd {h op b u} : gdD C h K ns dst op false u e R acc (.bool b)=brB b (mj C h K ns ⟨⟩ e dst R acc) (opW C (some h) K ns dst op ⟨⟩ e R acc) ⟨⟩:=by
 simp only [gdD,brB,Bool.not_false];exact propext ⟨fun h=>⟨h.2,h.1⟩,fun h=>⟨h.2,h.1⟩⟩
@[simp] theorem F9 {h op want u} : gdD C h K ns dst op want u e R acc (.tup [])=mj C h K ns ⟨⟩ e dst R acc:=_root_.id rfl
@[simp] theorem Ex {h dst op s want ns u} : qn C h K (⟨dst,op,some (s,want)⟩::ns) u e acc=(chk (ac e) ⟨dst,op,some (s,want)⟩=true /\ gdD C h K ns dst op want ⟨⟩ e (hJ (ac e) ⟨dst,op,some (s,want)⟩) acc (ac e s)):=_root_.id rfl
@[simp] theorem FA {K ns u ws ks} : doW C none K ns u e R acc ws ks=sv C K ns ⟨⟩ (ws++dJ ks e):=_root_.id rfl
@[simp] theorem Fz {h K ns u ws ks} : doW C (some h) K ns u e R acc ws ks=(wOk R ws ks=true /\ qn C h K ns ⟨⟩ (ws++dJ ks e) ((R,wrK ws ks)::acc)):=_root_.id rfl
@[simp] theorem JK {t} : dW C hs K ns (some t) u e R acc d=doW C hs K ns ⟨⟩ e R acc [(t,d)] []:=_root_.id rfl
@[simp] theorem JJ : dW C hs K ns none u e R acc d=doW C hs K ns ⟨⟩ e R acc [] []:=_root_.id rfl
def aU (ks : List (Nat × Bool)) (d : D) : D:=if aC ks d then .any else d
theorem ce (ks : List (Nat × Bool)) (d : D) : aU ks d=bif aC ks d then .any else d:=by
 unfold aU;cases aC ks d <;> rfl
@[simp] theorem D4 : dJ [] e=e:=_root_.id rfl
@[simp] theorem D3 {k ks} : dJ (k::ks) []=[]:=_root_.id rfl
@[simp] theorem AL {k ks s d} : dJ (k::ks) ((s,d)::e)=(s,aU (k::ks) d)::dJ (k::ks) e:=_root_.id rfl
@[simp] theorem DP {ks} : aU ks .any=.any:=by simp [aU]
@[simp] theorem DS {ks k n} : aU ks (.int k n)=.int k n:=by simp [aU,aC,dt,aI]
@[simp] theorem AI {ks n} : aU ks (.bool n)=.bool n:=by simp [aU,aC,dt,aI]
@[simp] theorem D0 {ks n} : aU ks (.str n)=.str n:=by simp [aU,aC,dt,aI]
@[simp] theorem HK {ks} : aU ks .bb=.bb:=by simp [aU,aC,dt,aI]
@[simp] theorem AJ {ks} : aU ks .nilp=.nilp:=by simp [aU,aC,dt,aI]
@[simp] theorem AK {ks} : aU ks .nils=.nils:=by simp [aU,aC,dt,aI]
@[simp] theorem DN {ks n} : aU ks (.agg n)=.agg n:=by simp [aU,aC,dt,aI]
@[simp] theorem D2 {ks n} : aU ks (.tup n)=.tup n:=by simp [aU,aC,dt,aI]
@[simp] theorem HN {ks n} : aU ks (.sl n)=.sl n:=by simp [aU,aC,dt,aI]
@[simp] theorem DV {ks n} : aU ks (.ptr n)=.ptr n:=by simp [aU,aC,dt,aI]
@[simp] theorem HL {ks g n} : aU ks (.fn g n)=.fn g n:=by simp [aU,aC,dt,aI]
@[simp] theorem DQ {ks g n} : aU ks (.blk g n)=.blk g n:=by simp [aU,aC,dt,aI]
@[simp] theorem HM {ks kt et xs vs} : aU ks (.mp kt et xs vs)=.mp kt et xs vs:=by simp [aU,aC,dt,aI]
@[simp] theorem DX {b all ks p k n} : aU ((b,all)::ks) (.ref p k n)=if bQ b all p then .any else aU ks (.ref p k n):=by
 have h : aU ((b,all)::ks) (.ref p k n)=bif (bQ b all p || aC ks (.ref p k n)) then .any else .ref p k n:=ce ..
 rw [h,ce]
 cases bQ b all p <;> rfl
@[simp] theorem DM {b all ks p k n} : aU ((b,all)::ks) (.adr p k n)=if bQ b all p then .any else aU ks (.adr p k n):=by
 have h : aU ((b,all)::ks) (.adr p k n)=bif (bQ b all p || aC ks (.adr p k n)) then .any else .adr p k n:=ce ..
 rw [h,ce]
 cases bQ b all p <;> rfl
@[simp] theorem DO {b all ks n} : aU ((b,all)::ks) (.agx n)=if n.any (aI b all) then .any else aU ks (.agx n):=by
 have h : aU ((b,all)::ks) (.agx n)=bif (n.any (aI b all) || aC ks (.agx n)) then .any else .agx n:=ce ..
 rw [h,ce]
 cases n.any (aI b all) <;> rfl
@[simp] theorem DR {b all ks g n} : aU ((b,all)::ks) (.fnx g n)=if n.any (aI b all) then .any else aU ks (.fnx g n):=by
 have h : aU ((b,all)::ks) (.fnx g n)=bif (n.any (aI b all) || aC ks (.fnx g n)) then .any else .fnx g n:=ce ..
 rw [h,ce]
 cases n.any (aI b all) <;> rfl
@[simp] theorem DU {d} : aU [] d=d:=by simp [aU,aC]
@[simp] theorem DZ {ks b es} : aU ks (slx b es)=slx b es:=by cases b <;> cases es <;> simp [slx]
def iZ (C : CC) (hs : Option (List Nat)) (K : Env -> Prop) (ns : List aq) (dst : Option Nat) (_ : Tag (hs,K,ns)) (e : Env) (R : List Nat) (acc : List (List Nat × List Nat)) (sz : Nat) (es : List (List D)) (i : Nat) : Prop :=
 ∃ c,es[i]? = some c /\ c.length=sz /\ da dst (kOf C hs K ns e R acc) (.ptr c)
@[simp] theorem Gr {α : Type} [Inhabited α] {sz : Nat} {xs : List α} {f : α -> List D} {i : Nat} : iZ C hs K ns dst u e R acc sz (xs.map f) i=(i < xs.length /\ (f xs[i]!).length=sz /\ dW C hs K ns dst ⟨⟩ e R acc (.ptr (f xs[i]!))):=by
 apply propext
 unfold iZ dW
 constructor
 ·rintro ⟨c,h,h1,h2⟩
  rw [List.getElem?_map,Option.map_eq_some_iff] at h
  obtain ⟨x,hx,rfl⟩:=h
  obtain ⟨hi,rfl⟩:=List.getElem?_eq_some_iff.1 hx
  rw [getElem!_pos xs i hi]
  exact ⟨hi,h1,h2⟩
 ·rintro ⟨hi,h1,h2⟩
  rw [getElem!_pos xs i hi] at h1 h2
  exact ⟨_,by rw [List.getElem?_map,List.getElem?_eq_getElem hi];rfl,h1,h2⟩
def zY (C : CC) (hs : Option (List Nat)) (K : Env -> Prop) (ns : List aq) (dst : Option Nat) (_ : Tag (hs,K,ns)) (e : Env) (R : List Nat) (acc : List (List Nat × List Nat)) (s : List UInt8) (i : Nat) : Prop :=
 ∃ b,s[i]? = some b /\ da dst (kOf C hs K ns e R acc) (.int .u8 b.toNat)
@[simp] theorem JG {s : List UInt8} {i : Nat} : zY C hs K ns dst u e R acc s i=(i < s.length /\ dW C hs K ns dst ⟨⟩ e R acc (.int .u8 (s[i]!).toNat)):=by
 apply propext
 unfold zY dW
 constructor
 ·rintro ⟨b,h,h2⟩
  obtain ⟨hi,rfl⟩:=List.getElem?_eq_some_iff.1 h
  rw [getElem!_pos s i hi]
  exact ⟨hi,h2⟩
 ·rintro ⟨hi,h2⟩
  rw [getElem!_pos s i hi] at h2
  exact ⟨_,List.getElem?_eq_getElem hi,h2⟩
def kD (C : CC) (hs : Option (List Nat)) (K : Env -> Prop) (ns : List aq) (dst : Option Nat) (_ : Tag (hs,K,ns)) (e : Env) (R : List Nat) (acc : List (List Nat × List Nat)) (n : Nat) (ag : Bool) (p : Pa) (es : List (List D)) (i off : Nat) : Prop :=
 ∃ r,es[i]? = some r /\ off + n <= r.length /\ match ag with
    | true=>(((r.drop off).take n).all isV=true -> da dst (kOf C hs K ns e R acc) (.agg ((r.drop off).take n))) /\
      (((r.drop off).take n).all isV=false -> da dst (kOf C hs K ns e R acc) (.agx (((r.drop off).take n).mapIdx fun j c=>ldc p i (off + j) c)))
    | false=>da dst (kOf C hs K ns e R acc) (ldc p i off ((r.drop off).headD .any))
theorem nT {n : Nat} {ag : Bool} {p : Pa} {es : List (List D)} {i off : Nat} {r : List D} (hr : es[i]? = some r) (hl : off + n <= r.length) (hk : match ag with
    | true=>(((r.drop off).take n).all isV=true -> dW C hs K ns dst ⟨⟩ e R acc (.agg ((r.drop off).take n))) /\
      (((r.drop off).take n).all isV=false -> dW C hs K ns dst ⟨⟩ e R acc (.agx (((r.drop off).take n).mapIdx fun j c=>ldc p i (off + j) c)))
    | false=>dW C hs K ns dst ⟨⟩ e R acc (ldc p i off ((r.drop off).headD .any))) : kD C hs K ns dst u e R acc n ag p es i off:=by
 refine ⟨r,hr,hl,?_⟩
 cases ag <;> exact hk
@[simp] theorem Ja {n : Nat} {ag : Bool} {p : Pa} {r : List D} {off : Nat} : kD C hs K ns dst u e R acc n ag p [r] 0 off=(off + n <= r.length /\ match ag with
    | true=>(((r.drop off).take n).all isV=true -> dW C hs K ns dst ⟨⟩ e R acc (.agg ((r.drop off).take n))) /\
      (((r.drop off).take n).all isV=false -> dW C hs K ns dst ⟨⟩ e R acc (.agx (((r.drop off).take n).mapIdx fun j c=>ldc p 0 (off + j) c)))
    | false=>dW C hs K ns dst ⟨⟩ e R acc (ldc p 0 off ((r.drop off).headD .any))):=by
 apply propext
 constructor
 ·rintro ⟨r',h1,h2,h3⟩
  simp at h1;subst h1
  refine ⟨h2,?_⟩
  cases ag <;> exact h3
 ·rintro ⟨h2,h3⟩
  refine ⟨r,rfl,h2,?_⟩
  cases ag <;> exact h3
end
section
variable {C : CC} {Q : cr -> Env -> Prop} {e : Env} {K : Env -> Prop} {dst : Option Nat} {hs : Option (List Nat)} {ns : List aq} {R : List Nat} {acc : List (List Nat × List Nat)} {u : Tag (hs,K,ns)}
@[simp] theorem NH {x v1} : opW C hs K ns dst (.mov x) v1 e R acc=(isS (vd (ac e) x)=true /\ dW C hs K ns dst ⟨⟩ e R acc (vd (ac e) x)):=_root_.id rfl
@[simp] theorem NK {x v1} : opW C hs K ns dst (.nck x) v1 e R acc=(match (generalizing:=false) vd (ac e) x with
  | .ptr ds=>dW C hs K ns dst ⟨⟩ e R acc (.ptr ds)
  | .adr p i off=>dW C hs K ns dst ⟨⟩ e R acc (.adr p i off)
  | .ptx ds=>dW C hs K ns dst ⟨⟩ e R acc (.ptx ds)
  | _=>False):=_root_.id rfl
@[simp] theorem IR {c a b v1} : opW C hs K ns dst (.pick c a b) v1 e R acc=(match (generalizing:=false) vd (ac e) c with
  | .bool v=>(v=true -> isS (vd (ac e) a)=true /\ dW C hs K ns dst ⟨⟩ e R acc (vd (ac e) a)) /\ (v=false -> isS (vd (ac e) b)=true /\ dW C hs K ns dst ⟨⟩ e R acc (vd (ac e) b))
  | _=>False):=_root_.id rfl
@[simp] theorem Nq {op x y v1} : opW C hs K ns dst (.bin op x y) v1 e R acc=(match (generalizing:=false) vd (ac e) x,vd (ac e) y with
  | .int k a,.int k' b=>match (generalizing:=false) op with
   | .add=>k=k' /\ dW C hs K ns dst ⟨⟩ e R acc (.int k (k.wrap (a + b)))
   | .sub=>k=k' /\ dW C hs K ns dst ⟨⟩ e R acc (.int k (k.wrap (a - b)))
   | .mul=>k=k' /\ dW C hs K ns dst ⟨⟩ e R acc (.int k (k.wrap (a * b)))
   | .quo=>k=k' /\ b ≠ 0 /\ dW C hs K ns dst ⟨⟩ e R acc (.int k (k.wrap (a.tdiv b)))
   | .rem=>k=k' /\ b ≠ 0 /\ dW C hs K ns dst ⟨⟩ e R acc (.int k (a.tmod b))
   | .and=>k=k' /\ dW C hs K ns dst ⟨⟩ e R acc (.int k (bits .and k a b))
   | .or=>k=k' /\ dW C hs K ns dst ⟨⟩ e R acc (.int k (bits .or k a b))
   | .xor=>k=k' /\ dW C hs K ns dst ⟨⟩ e R acc (.int k (bits .xor k a b))
   | .andNot=>k=k' /\ dW C hs K ns dst ⟨⟩ e R acc (.int k (bits .andNot k a b))
   | .shl=>0 <= b /\ dW C hs K ns dst ⟨⟩ e R acc (.int k (k.wrap (a * 2 ^ (min b.toNat k.bits))))
   | .shr=>0 <= b /\ dW C hs K ns dst ⟨⟩ e R acc (.int k (a.fdiv (2 ^ (min b.toNat k.bits))))
   | .eql=>k=k' /\ dW C hs K ns dst ⟨⟩ e R acc (.bool (decide (a=b)))
   | .neq=>k=k' /\ dW C hs K ns dst ⟨⟩ e R acc (.bool (!decide (a=b)))
   | .lss=>k=k' /\ dW C hs K ns dst ⟨⟩ e R acc (.bool (decide (a < b)))
   | .leq=>k=k' /\ dW C hs K ns dst ⟨⟩ e R acc (.bool (decide (a <= b)))
   | .gtr=>k=k' /\ dW C hs K ns dst ⟨⟩ e R acc (.bool (decide (b < a)))
   | .geq=>k=k' /\ dW C hs K ns dst ⟨⟩ e R acc (.bool (decide (b <= a)))
  | .str a,.str b=>match (generalizing:=false) op with
   | .eql=>dW C hs K ns dst ⟨⟩ e R acc (.bool (decide (a=b)))
   | .neq=>dW C hs K ns dst ⟨⟩ e R acc (.bool (!decide (a=b)))
   | .add=>((a++b).length : Int) <= 9223372036854775807 /\ dW C hs K ns dst ⟨⟩ e R acc (.str (a++b))
   | .lss=>dW C hs K ns dst ⟨⟩ e R acc (.bool (Op.bytesLess a b))
   | .leq=>dW C hs K ns dst ⟨⟩ e R acc (.bool (Op.bytesLess a b || a == b))
   | .gtr=>dW C hs K ns dst ⟨⟩ e R acc (.bool !(Op.bytesLess a b || a == b))
   | .geq=>dW C hs K ns dst ⟨⟩ e R acc (.bool !(Op.bytesLess a b))
   | _=>False
  | _,_=>False):=_root_.id rfl
@[simp] theorem Ph {op x v1} : opW C hs K ns dst (.un op x) v1 e R acc=(match (generalizing:=false) vd (ac e) x with
  | .bool b=>match (generalizing:=false) op with
   | .not=>dW C hs K ns dst ⟨⟩ e R acc (.bool (!b))
   | _=>False
  | .int k n=>match (generalizing:=false) op with
   | .neg=>dW C hs K ns dst ⟨⟩ e R acc (.int k (k.wrap (0 - n)))
   | _=>False
  | _=>False):=_root_.id rfl
@[simp] theorem IJ {k x v1} : opW C hs K ns dst (.conv k x) v1 e R acc=(match (generalizing:=false) vd (ac e) x with
  | .int _ n=>dW C hs K ns dst ⟨⟩ e R acc (.int k (k.wrap n))
  | _=>False):=_root_.id rfl
@[simp] theorem Np {neg ks x y v1} : opW C hs K ns dst (.beq neg ks x y) v1 e R acc=(match (generalizing:=false) vd (ac e) x,vd (ac e) y with
  | .bool a,.bool b=>ks=[] /\ dW C hs K ns dst ⟨⟩ e R acc (.bool ((a == b) != neg))
  | .agg a,.agg b=>ks ≠ [] /\ match (generalizing:=false) cl ks a b with
   | some r=>dW C hs K ns dst ⟨⟩ e R acc (.bool (r != neg))
   | none=>False
  | .nils,.nils=>ks=[9] /\ dW C hs K ns dst ⟨⟩ e R acc (.bool (!neg))
  | .sl es,.nils=>ks=[9] /\ (0 < es.length -> dW C hs K ns dst ⟨⟩ e R acc (.bool neg)) /\ (es.length=0 -> dW C hs K ns dst ⟨⟩ e R acc .bb)
  | .nilp,.nilp=>ks=[8] /\ dW C hs K ns dst ⟨⟩ e R acc (.bool (!neg))
  | .ptr _,.nilp=>ks=[8] /\ dW C hs K ns dst ⟨⟩ e R acc (.bool neg)
  | _,_=>False):=_root_.id rfl
@[simp] theorem Nz {off n ag x v1} : opW C hs K ns dst (.fld off n ag x) v1 e R acc=(match (generalizing:=false) vd (ac e) x with
  | .agg ds=>off + n <= ds.length /\ dW C hs K ns dst ⟨⟩ e R acc (li ag n (ds.drop off))
  | .agx ds=>off + n <= ds.length /\ match (generalizing:=false) ag with
   | true=>dW C hs K ns dst ⟨⟩ e R acc (.agx ((ds.drop off).take n))
   | false=>dW C hs K ns dst ⟨⟩ e R acc ((ds.drop off).headD .any)
  | _=>False):=_root_.id rfl
@[simp] theorem IM {len sz ag x i v1} : opW C hs K ns dst (.idxA len sz ag x i) v1 e R acc=(match (generalizing:=false) vd (ac e) x,vd (ac e) i with
  | .agg ds,.int _ j=>0 <= j /\ j < len /\ j.toNat * sz + sz <= ds.length /\ dW C hs K ns dst ⟨⟩ e R acc (li ag sz (ds.drop (j.toNat * sz)))
  | .agx ds,.int _ j=>0 <= j /\ j < len /\ j.toNat * sz + sz <= ds.length /\ match (generalizing:=false) ag with
   | true=>dW C hs K ns dst ⟨⟩ e R acc (.agx ((ds.drop (j.toNat * sz)).take sz))
   | false=>dW C hs K ns dst ⟨⟩ e R acc ((ds.drop (j.toNat * sz)).headD .any)
  | _,_=>False):=_root_.id rfl
@[simp] theorem NL {len sz x v1} : opW C hs K ns dst (.slA len sz x) v1 e R acc=(match (generalizing:=false) vd (ac e) x with
  | .ptr ds=>0 < len /\ 0 < sz /\ len * sz <= ds.length /\ dW C hs K ns dst ⟨⟩ e R acc (.sl (b9 sz len ds))
  | _=>False):=_root_.id rfl
@[simp] theorem Nw {x v1} : opW C hs K ns dst (.cvS x) v1 e R acc=(match (generalizing:=false) vd (ac e) x with
  | .sl es=>0 < es.length /\ (∀ r ∈ es,∃ n : Nat,r=[.int .u8 n] /\ n < 256) /\ dW C hs K ns dst ⟨⟩ e R acc (.str (es.map fL))
  | _=>False):=_root_.id rfl
@[simp] theorem zio {x i v1} : opW C hs K ns dst (.idxS x i) v1 e R acc=(match (generalizing:=false) vd (ac e) x,vd (ac e) i with
  | .str s,.int _ j=>0 <= j /\ zY C hs K ns dst ⟨⟩ e R acc s j.toNat
  | _,_=>False):=_root_.id rfl
@[simp] theorem Nx {i x v1} : opW C hs K ns dst (.ext i x) v1 e R acc=(match (generalizing:=false) vd (ac e) x with
  | .tup ds=>∃ d,ds[i]? = some d /\ dW C hs K ns dst ⟨⟩ e R acc d
  | .tpx ds=>∃ d,ds[i]? = some d /\ dW C hs K ns dst ⟨⟩ e R acc d
  | _=>False):=_root_.id rfl
@[simp] theorem Ny {off x v1} : opW C hs K ns dst (.fad off x) v1 e R acc=(match (generalizing:=false) vd (ac e) x with
  | .adr p i o=>dW C hs K ns dst ⟨⟩ e R acc (.adr p i (o + off))
  | .ptr ds=>dW C hs K ns dst ⟨⟩ e R acc (.ptr (ds.drop off))
  | .ptx ds=>dW C hs K ns dst ⟨⟩ e R acc (.ptx (ds.drop off))
  | _=>False):=_root_.id rfl
@[simp] theorem IK {len sz x i v1} : opW C hs K ns dst (.iadA len sz x i) v1 e R acc=(match (generalizing:=false) vd (ac e) x,vd (ac e) i with
  | .adr p r o,.int _ j=>0 <= j /\ j < len /\ dW C hs K ns dst ⟨⟩ e R acc (.adr p r (o + j.toNat * sz))
  | .ptr ds,.int _ j=>0 <= j /\ j < len /\ dW C hs K ns dst ⟨⟩ e R acc (.ptr (ds.drop (j.toNat * sz)))
  | _,_=>False):=_root_.id rfl
@[simp] theorem Pc {n ag x v1} : opW C hs K ns dst (.ld n ag x) v1 e R acc=(match (generalizing:=false) vd (ac e) x with
  | .adr p i off=>match (generalizing:=false) aT (ac e) p with
   | some (_,es)=>kD C hs K ns dst ⟨⟩ e R acc n ag p es i off
   | none=>False
  | .ptr ds=>n <= ds.length /\ dW C hs K ns dst ⟨⟩ e R acc (li ag n ds)
  | .ptx ds=>n <= ds.length /\ match (generalizing:=false) ag with
   | true=>((ds.take n).all isV=true -> dW C hs K ns dst ⟨⟩ e R acc (.agg (ds.take n))) /\ ((ds.take n).all isV=false -> dW C hs K ns dst ⟨⟩ e R acc (.agx (ds.take n)))
   | false=>0 < n /\ dW C hs K ns dst ⟨⟩ e R acc (ds.headD .any)
  | _=>False):=_root_.id rfl
@[simp] theorem Nr {zs parts v1} : opW C hs K ns dst (.bld zs parts) v1 e R acc=((∀ p ∈ parts,isS (vd (ac e) p.2.2)=true /\ p.1 + p.2.1 <= zs.length /\ match (generalizing:=false) vd (ac e) p.2.2 with
    | .agg ds=>ds.length=p.2.1
    | .agx ds=>ds.length=p.2.1
    | .any=>False
    | .tpx _=>False
    | .ptx _=>False
    | .rfx _ _ _=>False
    | .fnx _ _=>False
    | _=>p.2.1=1) /\
   ((parts.all fun p=>isV (vd (ac e) p.2.2))=true -> dW C hs K ns dst ⟨⟩ e R acc (.agg (ib zs (parts.map fun p=>(p.1,p.2.1,vd (ac e) p.2.2))))) /\
   ((parts.all fun p=>isV (vd (ac e) p.2.2))=false -> dW C hs K ns dst ⟨⟩ e R acc (.agx (ib zs (parts.map fun p=>(p.1,p.2.1,bZ (vd (ac e) p.2.2))))))):=_root_.id rfl
@[simp] theorem IP {x v1} : opW C hs K ns dst (.lens x) v1 e R acc=(match (generalizing:=false) vd (ac e) x with
  | .str s=>dW C hs K ns dst ⟨⟩ e R acc (.int .i64 s.length)
  | _=>False):=_root_.id rfl
@[simp] theorem Pd {g xs v1} : opW C hs K ns dst (.mk g xs) v1 e R acc=((∀ x ∈ xs,isP (vd (ac e) x)=true) /\ ((xs.all fun x=>isV (vd (ac e) x))=true -> dW C hs K ns dst ⟨⟩ e R acc (.fn g (xs.map (vd (ac e))))) /\ ((xs.all fun x=>isV (vd (ac e) x))=false -> dW C hs K ns dst ⟨⟩ e R acc (.fnx g (xs.map (vd (ac e)))))):=_root_.id rfl
@[simp] theorem NN {x lo hi v1} : opW C hs K ns dst (.slS x lo hi) v1 e R acc=(match (generalizing:=false) vd (ac e) x with
  | .str s=>di (ac e) hi s.length (fun h=>di (ac e) lo 0 (fun l=>l <= h /\ h <= s.length /\ dW C hs K ns dst ⟨⟩ e R acc (.str ((s.take h).drop l))) ⟨⟩) ⟨⟩
  | _=>False):=_root_.id rfl
@[simp] theorem Pe {x y v1} : opW C hs K ns dst (.mn x y) v1 e R acc=(match (generalizing:=false) vd (ac e) x,vd (ac e) y with
  | .int k a,.int k' b=>k=k' /\ dW C hs K ns dst ⟨⟩ e R acc (.int k (if b < a then b else a))
  | _,_=>False):=_root_.id rfl
@[simp] theorem Pf {x y v1} : opW C hs K ns dst (.mx x y) v1 e R acc=(match (generalizing:=false) vd (ac e) x,vd (ac e) y with
  | .int k a,.int k' b=>k=k' /\ dW C hs K ns dst ⟨⟩ e R acc (.int k (if a < b then b else a))
  | _,_=>False):=_root_.id rfl
@[simp] theorem El {x y c v1} : opW C hs K ns dst (.add64 x y c) v1 e R acc=(match (generalizing:=false) vd (ac e) x,vd (ac e) y,vd (ac e) c with
  | .int .u64 a,.int .u64 b,.int .u64 k=>0 <= a /\ a < 18446744073709551616 /\ 0 <= b /\ b < 18446744073709551616 /\ 0 <= k /\ k <= 1 /\
    dW C hs K ns dst ⟨⟩ e R acc (.tup [.int .u64 ((a + b + k) % 18446744073709551616),.int .u64 ((a + b + k) / 18446744073709551616)])
  | _,_,_=>False):=_root_.id rfl
@[simp] theorem Ev {x y c v1} : opW C hs K ns dst (.sub64 x y c) v1 e R acc=(match (generalizing:=false) vd (ac e) x,vd (ac e) y,vd (ac e) c with
  | .int .u64 a,.int .u64 b,.int .u64 k=>0 <= a /\ a < 18446744073709551616 /\ 0 <= b /\ b < 18446744073709551616 /\ 0 <= k /\ k <= 1 /\
    dW C hs K ns dst ⟨⟩ e R acc (.tup [.int .u64 ((a - b - k) % 18446744073709551616),.int .u64 (if a < b + k then 1 else 0)])
  | _,_,_=>False):=_root_.id rfl
@[simp] theorem IQ {sz v1} : opW C hs K ns dst (.nilo sz) v1 e R acc=(match (generalizing:=false) dst with
  | some t=>0 < sz /\ doW C hs K ns ⟨⟩ e R acc [(t,.ref (.r (rt t 0)) 0 0),(rt t 0,.blk sz [])] [(rt t 0,true)]
  | none=>False):=_root_.id rfl
@[simp] theorem Nt {x t v1} : opW C hs K ns (some t) (.box [] x) v1 e R acc=fT (ac e) (vd (ac e) x) [] (fun cs bs=>bs.contains (rt t 0)=false /\ doW C hs K ns ⟨⟩ e R acc ((t,.adr (.r (rt t 0)) 0 0)::(rt t 0,.blk cs.length [cs])::cz bs) [(rt t 0,true)]) ⟨⟩:=_root_.id rfl
@[simp] theorem Nl {zs v1} : opW C hs K ns dst (.alc zs) v1 e R acc=(match (generalizing:=false) dst with
  | some t=>doW C hs K ns ⟨⟩ e R acc [(t,.adr (.r (rt t 0)) 0 0),(rt t 0,.blk zs.length [zs])] [(rt t 0,true)]
  | none=>False):=_root_.id rfl
@[simp] theorem Ns {sz len zs parts t v1} : opW C hs K ns (some t) (.bls sz len zs [] parts) v1 e R acc=nO (ac e) sz parts (List.replicate len zs) [] (fun es bs=>bE bs=true /\ bs.contains (rt t 0)=false /\ doW C hs K ns ⟨⟩ e R acc ((t,.ref (.r (rt t 0)) 0 len)::(rt t 0,.blk sz es)::cz bs) [(rt t 0,true)]) ⟨⟩:=_root_.id rfl
@[simp] theorem NG {sz by_ zs n c v1} : opW C hs K ns dst (.mks sz by_ zs n c) v1 e R acc=(match (generalizing:=false) dst with
  | some t=>match (generalizing:=false) vd (ac e) n,vd (ac e) c with
   | .int _ n,.int _ c=>0 <= n /\ n <= c /\ c * by_ <= 140737488355328 /\ doW C hs K ns ⟨⟩ e R acc [(t,.ref (.r (rt t 0)) 0 n.toNat),(rt t 0,.blk sz (List.replicate c.toNat zs))] [(rt t 0,true)]
   | _,_=>False
  | none=>False):=_root_.id rfl
def stM (C : CC) (hs : Option (List Nat)) (K : Env -> Prop) (ns : List aq) (_ : Tag (hs,K,ns)) (e : Env) (R : List Nat) (acc : List (List Nat × List Nat)) (n : Nat) (v : D) (cs : List D) (bs : List Nat) (a : D) : Prop:=match a with
 | .adr (.r b) i off=>bs.contains b=false /\ dN (ac e b) (fun sz es=>fR es[i]? (fun r=>off + n <= r.length /\ doW C hs K ns ⟨⟩ e R acc ((b,.blk sz (bj es i off n cs))::cz bs) (stK v [] b)) ⟨⟩) ⟨⟩
 | .adr (.n b i0 o0) i off=>bs=[] /\ (∀ c ∈ cs,aw c=true) /\ dN (ac e b) (fun sz0 es0=>fR es0[i0]? (fun row0=>jn row0[o0]? (fun sz es=>fR es[i]? (fun r=>off + n <= r.length /\ doW C hs K ns ⟨⟩ e R acc [(b,.blk sz0 (bj es0 i0 o0 1 [.own sz (bj es i off n cs)]))] []) ⟨⟩) ⟨⟩) ⟨⟩) ⟨⟩
 | _=>False
@[simp] theorem PF {n v cs bs b i off} : stM C hs K ns u e R acc n v cs bs (.adr (.r b) i off)=(bs.contains b=false /\ dN (ac e b) (fun sz es=>fR es[i]? (fun r=>off + n <= r.length /\ doW C hs K ns ⟨⟩ e R acc ((b,.blk sz (bj es i off n cs))::cz bs) (stK v [] b)) ⟨⟩) ⟨⟩):=_root_.id rfl
@[simp] theorem PE {n v cs bs b i0 o0 i off} : stM C hs K ns u e R acc n v cs bs (.adr (.n b i0 o0) i off)=(bs=[] /\ (∀ c ∈ cs,aw c=true) /\ dN (ac e b) (fun sz0 es0=>fR es0[i0]? (fun row0=>jn row0[o0]? (fun sz es=>fR es[i]? (fun r=>off + n <= r.length /\ doW C hs K ns ⟨⟩ e R acc [(b,.blk sz0 (bj es0 i0 o0 1 [.own sz (bj es i off n cs)]))] []) ⟨⟩) ⟨⟩) ⟨⟩) ⟨⟩):=_root_.id rfl
@[simp] theorem Pg {n a v v1} : opW C hs K ns dst (.st n [] a v) v1 e R acc=(dst=none /\ fT (ac e) (vd (ac e) v) [] (fun cs bs=>cs.length=n /\ stM C hs K ns ⟨⟩ e R acc n (vd (ac e) v) cs bs (vd (ac e) a)) ⟨⟩):=by
 show (dst=none /\ fh (ac e) (vd (ac e) v) [] _)=(dst=none /\ fh (ac e) (vd (ac e) v) [] _)
 congr 1
 congr 1
 funext cs bs
 cases vd (ac e) a <;> try rfl
 rename_i p i off
 cases p with
 | r b =>
  simp only [stM,dN,eT]
  cases ac e b <;> rfl
 | n b i0 o0 =>
  simp only [stM,dN,eT,iP]
  cases ac e b <;> rfl
def rL (C : CC) (hs : Option (List Nat)) (K : Env -> Prop) (ns : List aq) (_ : Tag (hs,K,ns)) (e : Env) (R : List Nat) (acc : List (List Nat × List Nat)) (t sz by_ : Nat) (rowsY : List (List D)) (bs : List Nat) (x : D) : Prop:=match x with
 | .nils=>rowsY.length * by_ <= 140737488355328 /\ doW C hs K ns ⟨⟩ e R acc ((t,.ref (.r (rt t 0)) 0 rowsY.length)::(rt t 0,.blk sz rowsY)::cz bs) [(rt t 0,true)]
 | .ref (.r c) k n=>c ≠ rt t 0 /\ bs.contains c=false /\ dN (ac e c) (fun sz' es=>sz'=sz /\ k + n <= es.length /\ (n + rowsY.length) * by_ <= 140737488355328 /\
      doW C hs K ns ⟨⟩ e R acc ((t,.ref (.r (rt t 0)) 0 (n + rowsY.length))::(rt t 0,.blk sz ((es.drop k).take n++rowsY))::(c,.any)::cz bs) [(rt t 0,true)]) ⟨⟩
 | .ref (.n c i o) k n=>c ≠ rt t 0 /\ bs.contains c=false /\ dN (ac e c) (fun sz0 es0=>fR es0[i]? (fun row0=>jn row0[o]? (fun sz' es=>sz'=sz /\ k + n <= es.length /\ (n + rowsY.length) * by_ <= 140737488355328 /\
      doW C hs K ns ⟨⟩ e R acc ((t,.ref (.r (rt t 0)) 0 (n + rowsY.length))::(rt t 0,.blk sz ((es.drop k).take n++rowsY))::(c,.blk sz0 (bj es0 i o 1 [.any]))::cz bs) [(rt t 0,true)]) ⟨⟩) ⟨⟩) ⟨⟩
 | _=>False
@[simp] theorem Ck {t sz by_ rowsY bs} : rL C hs K ns u e R acc t sz by_ rowsY bs .nils=(rowsY.length * by_ <= 140737488355328 /\ doW C hs K ns ⟨⟩ e R acc ((t,.ref (.r (rt t 0)) 0 rowsY.length)::(rt t 0,.blk sz rowsY)::cz bs) [(rt t 0,true)]):=_root_.id rfl
@[simp] theorem N1 {t sz by_ rowsY bs c k n} : rL C hs K ns u e R acc t sz by_ rowsY bs (.ref (.r c) k n)=(c ≠ rt t 0 /\ bs.contains c=false /\ dN (ac e c) (fun sz' es=>sz'=sz /\ k + n <= es.length /\ (n + rowsY.length) * by_ <= 140737488355328 /\
      doW C hs K ns ⟨⟩ e R acc ((t,.ref (.r (rt t 0)) 0 (n + rowsY.length))::(rt t 0,.blk sz ((es.drop k).take n++rowsY))::(c,.any)::cz bs) [(rt t 0,true)]) ⟨⟩):=_root_.id rfl
@[simp] theorem N0 {t sz by_ rowsY bs c i o k n} : rL C hs K ns u e R acc t sz by_ rowsY bs (.ref (.n c i o) k n)=(c ≠ rt t 0 /\ bs.contains c=false /\ dN (ac e c) (fun sz0 es0=>fR es0[i]? (fun row0=>jn row0[o]? (fun sz' es=>sz'=sz /\ k + n <= es.length /\ (n + rowsY.length) * by_ <= 140737488355328 /\
      doW C hs K ns ⟨⟩ e R acc ((t,.ref (.r (rt t 0)) 0 (n + rowsY.length))::(rt t 0,.blk sz ((es.drop k).take n++rowsY))::(c,.blk sz0 (bj es0 i o 1 [.any]))::cz bs) [(rt t 0,true)]) ⟨⟩) ⟨⟩) ⟨⟩):=_root_.id rfl
@[simp] theorem Nm {sz by_ mv x y t v1} : opW C hs K ns (some t) (.app sz by_ mv x y) v1 e R acc=iq (ac e) mv (vd (ac e) y) sz (fun rowsY bs=>bs.contains (rt t 0)=false /\ rL C hs K ns ⟨⟩ e R acc t sz by_ rowsY bs (vd (ac e) x)) ⟨⟩:=by
 unfold opW iq
 simp only [ay]
 congr 1
 funext rowsY bs
 congr 1
 cases vd (ac e) x <;> try rfl
 rename_i p k n
 cases p with
 | r c =>
  simp only [rL,dN]
  cases ac e c <;> rfl
 | n c i o =>
  simp only [rL,dN,eT,iP]
  cases hl : ac e c <;> try rfl
  rename_i sz0 es0
  refine congrArg _ (congrArg _ (propext ⟨?_,?_⟩))
  ·rintro ⟨row0,h1,es,h2,h3⟩
   exact ⟨row0,h1,sz,es,h2,rfl,h3⟩
  ·rintro ⟨row0,h1,sz',es,h2,rfl,h3⟩
   exact ⟨row0,h1,es,h2,h3⟩
@[simp] theorem Jn {g b n xs sz es} : BF C g hs K ns dst u e R acc b n xs (.blk sz es)=(es.length=n /\ (∀ e ∈ es,∀ c ∈ e,aw c=true) /\ (∀ x ∈ xs,bu (fbE (ac e) b) (vd (fbE (ac e) b) x)) /\ pN C g hs K ns dst ⟨⟩ e R acc b sz es (xs.map (dpv (fbE (ac e) b))) (xs.all fun y=>isV (vd (fbE (ac e) b) y))):=_root_.id rfl
@[simp] theorem Jp {g xs b k n} : Jo C g hs K ns dst u e R acc xs (.ref (.r b) k n)=(k=0 /\ BF C g hs K ns dst ⟨⟩ e R acc b n xs (ac e b)):=_root_.id rfl
@[simp] theorem Et {g x xs v1} : opW C hs K ns dst (.callS g x xs) v1 e R acc=(Jo C g hs K ns dst ⟨⟩ e R acc xs (vd (ac e) x)):=by
 cases dst <;> rfl
def vU (n : Nat) (d : D) : Prop:=match d with
 | .blk _ es=>es.length=n /\ ∀ e ∈ es,∀ c ∈ e,bk c=true
 | _=>False
def oh (f : Nat -> D) (b : Nat) (d : D) : Prop:=match d with
 | .ref (.r c) k n=>k=0 /\ c ≠ b /\ vU n (f c)
 | d=>isV d=true
def xi (d : D) : D:=match d with
 | .blk sz es=>.own sz es
 | _=>.any
def qN (f : Nat -> D) (d : D) : D:=match d with
 | .ref (.r c) _ _=>xi (f c)
 | d=>d
@[simp] theorem E6 {n sz es} : vU n (.blk sz es)=(es.length=n /\ ∀ e ∈ es,∀ c ∈ e,bk c=true):=_root_.id rfl
@[simp] theorem IV {sz es} : xi (.blk sz es)=.own sz es:=_root_.id rfl
@[simp] theorem Jy {f : Nat -> D} {b : Nat} {x : Opd} : lf f b x=oh f b (vd f x):=by
 unfold lf oh vU
 cases vd f x <;> rfl
@[simp] theorem Jz {f : Nat -> D} {x : Opd} : jZ f x=qN f (vd f x):=by
 unfold jZ qN xi
 cases vd f x <;> rfl
@[simp] theorem Cm {f : Nat -> D} {b c k n} : oh f b (.ref (.r c) k n)=(k=0 /\ c ≠ b /\ vU n (f c)):=_root_.id rfl
@[simp] theorem Co {f : Nat -> D} {c k n} : qN f (.ref (.r c) k n)=xi (f c):=_root_.id rfl
@[simp] theorem Cl {f : Nat -> D} {b k n} : oh f b (.int k n)=True:=by simp [oh,isV]
@[simp] theorem Cn {f : Nat -> D} {k n} : qN f (.int k n)=.int k n:=_root_.id rfl
def tN (C : CC) (g : Nat) (hs : Option (List Nat)) (K : Env -> Prop) (ns : List aq) (t : Nat) (_ : Tag (hs,K,ns)) (e : Env) (R : List Nat) (acc : List (List Nat × List Nat)) (sz : Nat) (W : List (List D)) (ds : List D) (q : Nat × D) : Prop :=
 ∃ es' : List (List D),(∀ e ∈ es',e.length=sz /\ ∀ c ∈ e,bk c=true) /\ C g (.own sz W::ds) .any [.own sz es',.nils,.nils] /\ doW C hs K ns ⟨⟩ e R acc [(t,.ref (.r (rt t 0)) 0 es'.length),(rt t 0,.blk sz es'),q] [(rt t 0,true)]
theorem wx {g : Nat} {hs : Option (List Nat)} {K : Env -> Prop} {ns : List aq} {t : Nat} {u : Tag (hs,K,ns)} {e : Env} {R : List Nat} {acc : List (List Nat × List Nat)} {sz : Nat} {W es' : List (List D)} {ds : List D} {q : Nat × D} (h : C g (.own sz W::ds) .any [.own sz es',.nils,.nils]) (hu : ∀ e ∈ es',e.length=sz /\ ∀ c ∈ e,bk c=true)
  (hk : doW C hs K ns ⟨⟩ e R acc [(t,.ref (.r (rt t 0)) 0 es'.length),(rt t 0,.blk sz es'),q] [(rt t 0,true)]) : tN C g hs K ns t u e R acc sz W ds q:=⟨es',hu,h,hk⟩
def tM (C : CC) (g : Nat) (hs : Option (List Nat)) (K : Env -> Prop) (ns : List aq) (t : Nat) (_ : Tag (hs,K,ns)) (e : Env) (R : List Nat) (acc : List (List Nat × List Nat)) (xs : List Opd) (d : D) : Prop:=match d with
 | .ref (.r b) k n=>dN (ac e b) (fun sz es=>k + n <= es.length /\ b ≠ rt t 0 /\ 0 < sz /\ (∀ e ∈ (es.drop k).take n,∀ c ∈ e,bk c=true) /\ (∀ x ∈ xs,lf (ac e) b x) /\ tN C g hs K ns t ⟨⟩ e R acc sz ((es.drop k).take n) (xs.map (jZ (ac e))) (b,.any)) ⟨⟩
 | .ref (.n b i o) k n=>dN (ac e b) (fun sz0 es0=>fR es0[i]? (fun row0=>jn row0[o]? (fun sz es=>k + n <= es.length /\ b ≠ rt t 0 /\ 0 < sz /\ (∀ e ∈ (es.drop k).take n,∀ c ∈ e,bk c=true) /\ (∀ x ∈ xs,lf (ac e) b x) /\
   tN C g hs K ns t ⟨⟩ e R acc sz ((es.drop k).take n) (xs.map (jZ (ac e))) (b,.blk sz0 (bj es0 i o 1 [.any]))) ⟨⟩) ⟨⟩) ⟨⟩
 | _=>False
@[simp] theorem Ow {g xs t b k n} : tM C g hs K ns t u e R acc xs (.ref (.r b) k n)=dN (ac e b) (fun sz es=>k + n <= es.length /\ b ≠ rt t 0 /\ 0 < sz /\ (∀ e ∈ (es.drop k).take n,∀ c ∈ e,bk c=true) /\ (∀ x ∈ xs,lf (ac e) b x) /\ tN C g hs K ns t ⟨⟩ e R acc sz ((es.drop k).take n) (xs.map (jZ (ac e))) (b,.any)) ⟨⟩:=_root_.id rfl
@[simp] theorem Ov {g xs t b i o k n} : tM C g hs K ns t u e R acc xs (.ref (.n b i o) k n)=dN (ac e b) (fun sz0 es0=>fR es0[i]? (fun row0=>jn row0[o]? (fun sz es=>k + n <= es.length /\ b ≠ rt t 0 /\ 0 < sz /\ (∀ e ∈ (es.drop k).take n,∀ c ∈ e,bk c=true) /\ (∀ x ∈ xs,lf (ac e) b x) /\
   tN C g hs K ns t ⟨⟩ e R acc sz ((es.drop k).take n) (xs.map (jZ (ac e))) (b,.blk sz0 (bj es0 i o 1 [.any]))) ⟨⟩) ⟨⟩) ⟨⟩:=_root_.id rfl
@[simp] theorem En {g x xs t v1} : opW C hs K ns (some t) (.callE g x xs) v1 e R acc=tM C g hs K ns t ⟨⟩ e R acc xs (vd (ac e) x):=by
 unfold opW
 simp only [ay]
 cases vd (ac e) x <;> try rfl
 rename_i p k n
 cases p with
 | r b =>
  simp only [tM,dN,aT,Pa.root,cU]
  cases ac e b <;> rfl
 | n b i o =>
  simp only [tM,dN,eT,iP,aT,Pa.root,cU]
  cases hl : ac e b <;> try rfl
  rename_i sz0 es0
  simp only
  cases hi : es0[i]? with
  | none=>simp
  | some row0 =>
   simp only [Option.getD_some,Option.some.injEq,exists_eq_left']
   cases ho : row0[o]? with
   | none=>simp
   | some d =>
    cases d
    case own sz es=>exact propext ⟨fun h=>⟨sz,es,rfl,h⟩,fun ⟨sz',es',h0,h⟩=>by cases h0;exact h⟩
    all_goals simp
@[simp] theorem Di {f : Nat -> D} {b k n sz es} : b5 f (.ref (.r b) k n) (.own sz es)=(k=0 /\ n=es.length /\ f b=.blk sz es):=_root_.id rfl
@[simp] theorem Dg {f : Nat -> D} {b k n sz es} : b5 f (.adr (.r b) k n) (.blk sz es)=(k=0 /\ n=0 /\ f b=.blk sz es):=_root_.id rfl
@[simp] theorem Dh {f : Nat -> D} {k n r} : b5 f (.int k n) r=(r=.int k n):=by simp [b5]
@[simp] theorem Ay {f : Nat -> D} {n r} : b5 f (.bool n) r=(r=.bool n):=by simp [b5]
@[simp] theorem Dj {f : Nat -> D} {n r} : b5 f (.str n) r=(r=.str n):=by simp [b5]
@[simp] theorem AA {f : Nat -> D} {r} : b5 f .nils r=(r=.nils):=by simp [b5]
@[simp] theorem Az {f : Nat -> D} {r} : b5 f .nilp r=(r=.nilp):=by simp [b5]
@[simp] theorem Gd {f : Nat -> D} {n r} : b5 f (.sl n) r=(r=.sl n):=by simp [b5]
@[simp] theorem Df {f : Nat -> D} {n r} : b5 f (.agg n) r=(r=.agg n):=by simp [b5]
@[simp] theorem EI {t d} : jT (some t) d=[(t,d)]:=_root_.id rfl
@[simp] theorem EH {d} : jT none d=[]:=_root_.id rfl
@[simp] theorem BO {t} : dc (some t)=[(t,.tup [])]:=_root_.id rfl
@[simp] theorem BN : dc none=[]:=_root_.id rfl
def If (C : CC) (g : Nat) (hs : Option (List Nat)) (K : Env -> Prop) (ns : List aq) (dst : Option Nat) (_ : Tag (hs,K,ns)) (e : Env) (R : List Nat) (acc : List (List Nat × List Nat)) (b sz : Nat) (es : List (List D)) (ds : List D) : Prop :=
 ∃ d,∃ es' : List (List D),0 < es'.length /\ C g (.blk sz es::ds) d [.blk sz es'] /\ doW C hs K ns ⟨⟩ e R acc (jT dst d++[(b,.blk sz es')]) [(b,false)]
def Ie (C : CC) (g : Nat) (hs : Option (List Nat)) (K : Env -> Prop) (ns : List aq) (dst : Option Nat) (_ : Tag (hs,K,ns)) (e : Env) (R : List Nat) (acc : List (List Nat × List Nat)) (xs : List Opd) (d : D) : Prop:=match d with
 | .adr (.r b) i off=>i=0 /\ off=0 /\ dN (ac e b) (fun sz es=>0 < es.length /\ (∀ x ∈ xs,isV (vd (ac e) x)=true) /\ If C g hs K ns dst ⟨⟩ e R acc b sz es (xs.map (vd (ac e)))) ⟨⟩
 | _=>False
@[simp] theorem O6 {g xs b i off} : Ie C g hs K ns dst u e R acc xs (.adr (.r b) i off)=(i=0 /\ off=0 /\ dN (ac e b) (fun sz es=>0 < es.length /\ (∀ x ∈ xs,isV (vd (ac e) x)=true) /\ If C g hs K ns dst ⟨⟩ e R acc b sz es (xs.map (vd (ac e)))) ⟨⟩):=_root_.id rfl
@[simp] theorem Er {g x xs v1} : opW C hs K ns dst (.callL g x xs) v1 e R acc=Ie C g hs K ns dst ⟨⟩ e R acc xs (vd (ac e) x):=by
 unfold opW
 simp only [ay]
 cases vd (ac e) x <;> first | rfl | skip
def rT (C : CC) (hs : Option (List Nat)) (K : Env -> Prop) (ns : List aq) (dst : Option Nat) (_ : Tag (hs,K,ns)) (e : Env) (R : List Nat) (acc : List (List Nat × List Nat)) (zs : List D) (d : D) : Prop:=match d with
 | .nils=>doW C hs K ns ⟨⟩ e R acc (dc dst) []
 | .ref (.r b) k n=>dN (ac e b) (fun sz es=>k + n <= es.length /\ zs.length=sz /\ (∀ e ∈ es,∀ c ∈ e,aw c=true) /\ (∀ c ∈ zs,aw c=true) /\ doW C hs K ns ⟨⟩ e R acc (dc dst++[(b,.blk sz (df es k n zs))]) []) ⟨⟩
 | .ref (.n b i o) k n=>dN (ac e b) (fun sz0 es0=>fR es0[i]? (fun row0=>jn row0[o]? (fun sz es=>k + n <= es.length /\ zs.length=sz /\ (∀ c ∈ zs,aw c=true) /\ doW C hs K ns ⟨⟩ e R acc (dc dst++[(b,.blk sz0 (bj es0 i o 1 [.own sz (df es k n zs)]))]) []) ⟨⟩) ⟨⟩) ⟨⟩
 | _=>False
@[simp] theorem N5 {zs b k n} : rT C hs K ns dst u e R acc zs (.ref (.r b) k n)=dN (ac e b) (fun sz es=>k + n <= es.length /\ zs.length=sz /\ (∀ e ∈ es,∀ c ∈ e,aw c=true) /\ (∀ c ∈ zs,aw c=true) /\ doW C hs K ns ⟨⟩ e R acc (dc dst++[(b,.blk sz (df es k n zs))]) []) ⟨⟩:=_root_.id rfl
@[simp] theorem N4 {zs b i o k n} : rT C hs K ns dst u e R acc zs (.ref (.n b i o) k n)=dN (ac e b) (fun sz0 es0=>fR es0[i]? (fun row0=>jn row0[o]? (fun sz es=>k + n <= es.length /\ zs.length=sz /\ (∀ c ∈ zs,aw c=true) /\ doW C hs K ns ⟨⟩ e R acc (dc dst++[(b,.blk sz0 (bj es0 i o 1 [.own sz (df es k n zs)]))]) []) ⟨⟩) ⟨⟩) ⟨⟩:=_root_.id rfl
@[simp] theorem CO {zs} : rT C hs K ns dst u e R acc zs .nils=doW C hs K ns ⟨⟩ e R acc (dc dst) []:=_root_.id rfl
@[simp] theorem Nu {zs x v1} : opW C hs K ns dst (.clr zs x) v1 e R acc=rT C hs K ns dst ⟨⟩ e R acc zs (vd (ac e) x):=by
 unfold opW
 simp only [ay]
 cases vd (ac e) x <;> try rfl
 rename_i p k n
 cases p with
 | r b =>
  simp only [rT,dN]
  cases ac e b <;> rfl
 | n b i o =>
  simp only [rT,dN,eT,iP]
  cases ac e b <;> rfl
def yk (C : CC) (g : Nat) (hs : Option (List Nat)) (K : Env -> Prop) (ns : List aq) (dst : Option Nat) (_ : Tag (hs,K,ns)) (e : Env) (R : List Nat) (acc : List (List Nat × List Nat)) (b i o sz0 sz : Nat) (es0 es : List (List D)) (ds : List D) : Prop :=
 ∃ es' : List (List D),es'.length=es.length /\ (∀ e ∈ es',e.length=sz /\ ∀ c ∈ e,aw c=true) /\ C g (.own sz es::ds) .any [.own sz es',.nilp] /\ doW C hs K ns ⟨⟩ e R acc (dc dst++[(b,.blk sz0 (bj es0 i o 1 [.own sz es']))]) []
def Ai (C : CC) (g : Nat) (hs : Option (List Nat)) (K : Env -> Prop) (ns : List aq) (dst : Option Nat) (_ : Tag (hs,K,ns)) (e : Env) (R : List Nat) (acc : List (List Nat × List Nat)) (xs : List Opd) (d : D) : Prop:=match d with
 | .ref (.n b i o) k n=>k=0 /\ dN (ac e b) (fun sz0 es0=>fR es0[i]? (fun row0=>jn row0[o]? (fun sz es=>es.length=n /\ (∀ x ∈ xs,isV (vd (ac e) x)=true) /\ yk C g hs K ns dst ⟨⟩ e R acc b i o sz0 sz es0 es (xs.map (vd (ac e)))) ⟨⟩) ⟨⟩) ⟨⟩
 | _=>False
@[simp] theorem N3 {g xs b i o k n} : Ai C g hs K ns dst u e R acc xs (.ref (.n b i o) k n)=(k=0 /\ dN (ac e b) (fun sz0 es0=>fR es0[i]? (fun row0=>jn row0[o]? (fun sz es=>es.length=n /\ (∀ x ∈ xs,isV (vd (ac e) x)=true) /\ yk C g hs K ns dst ⟨⟩ e R acc b i o sz0 sz es0 es (xs.map (vd (ac e)))) ⟨⟩) ⟨⟩) ⟨⟩):=_root_.id rfl
@[simp] theorem Es {g x xs v1} : opW C hs K ns dst (.callN g x xs) v1 e R acc=Ai C g hs K ns dst ⟨⟩ e R acc xs (vd (ac e) x):=by
 unfold opW
 simp only [ay]
 cases vd (ac e) x <;> try rfl
 rename_i p k n
 cases p with
 | r b=>rfl
 | n b i o =>
  simp only [Ai,dN,eT,iP]
  cases ac e b <;> rfl
@[simp] theorem Ep {g xs v1} : opW C hs K ns dst (.callG g xs) v1 e R acc=((∀ x ∈ xs,bu (ac e) (vd (ac e) x)) /\ z6 C g hs K ns dst ⟨⟩ e R acc (xs.map (dpv (ac e)))):=_root_.id rfl
@[simp] theorem Em {g xs t v1} : opW C hs K ns (some t) (.callA g xs) v1 e R acc=((∀ x ∈ xs,isV (vd (ac e) x)=true) /\ pL C g hs K ns t ⟨⟩ e R acc (xs.map (vd (ac e)))):=_root_.id rfl
@[simp] theorem Eo {g xs t v1} : opW C hs K ns (some t) (.callF g xs) v1 e R acc=((∀ x ∈ xs,bu (ac e) (vd (ac e) x)) /\ zZ C g hs K ns t ⟨⟩ e R acc (xs.map (dpv (ac e)))):=_root_.id rfl
@[simp] theorem II {g xs x0 v1} : opW C hs K ns dst (.call g xs x0) v1 e R acc=((∀ x ∈ xs,bu (ac e) (vd (ac e) x)) /\ oj C g hs K ns dst ⟨⟩ e R acc (xs.all fun x=>isV (vd (ac e) x)) (xs.map (dpv (ac e)))):=_root_.id rfl
def j3 (C : CC) (hs : Option (List Nat)) (K : Env -> Prop) (ns : List aq) (t : Nat) (_ : Tag (hs,K,ns)) (e : Env) (R : List Nat) (acc : List (List Nat × List Nat)) (d : D) : Prop:=match d with
 | .ref (.r c) k n=>if c=rt t 0 then doW C hs K ns ⟨⟩ e R acc [(t,.ref (.r c) k n)] [] else match ac e c with
  | .blk sz es=>doW C hs K ns ⟨⟩ e R acc [(t,.ref (.r (rt t 0)) k n),(rt t 0,.blk sz es),(c,.any)] [(rt t 0,true)]
  | _=>False
 | d=>isS d=true /\ doW C hs K ns ⟨⟩ e R acc [(t,d)] []
@[simp] theorem Nn {t x v1} : opW C hs K ns (some t) (.asg x) v1 e R acc=j3 C hs K ns t ⟨⟩ e R acc (vd (ac e) x):=_root_.id rfl
@[simp] theorem E8 {t c k n} : j3 C hs K ns t u e R acc (.ref (.r c) k n)=(if c=rt t 0 then doW C hs K ns ⟨⟩ e R acc [(t,.ref (.r c) k n)] [] else match ac e c with
  | .blk sz es=>doW C hs K ns ⟨⟩ e R acc [(t,.ref (.r (rt t 0)) k n),(rt t 0,.blk sz es),(c,.any)] [(rt t 0,true)]
  | _=>False):=_root_.id rfl
@[simp] theorem Cq {t b i o k n} : j3 C hs K ns t u e R acc (.ref (.n b i o) k n)=doW C hs K ns ⟨⟩ e R acc [(t,.ref (.n b i o) k n)] []:=by simp [j3]
@[simp] theorem Cp {t} : j3 C hs K ns t u e R acc .nils=doW C hs K ns ⟨⟩ e R acc [(t,.nils)] []:=by simp [j3]
@[simp] theorem JA {t es} : j3 C hs K ns t u e R acc (.sl es)=doW C hs K ns ⟨⟩ e R acc [(t,.sl es)] []:=by simp [j3]
@[simp] theorem E9 {t b es} : j3 C hs K ns t u e R acc (slx b es)=doW C hs K ns ⟨⟩ e R acc [(t,slx b es)] []:=by
 rcases gf b es with h | ⟨h,_⟩ <;> rw [h] <;> simp
@[simp] theorem E7 {t} : j3 C hs K ns t u e R acc .any=doW C hs K ns ⟨⟩ e R acc [(t,.any)] []:=by simp [j3]
@[simp] theorem Fa {t ds} : j3 C hs K ns t u e R acc (.tup ds)=doW C hs K ns ⟨⟩ e R acc [(t,.tup ds)] []:=by simp [j3]
def p8 (C : CC) (hs : Option (List Nat)) (K : Env -> Prop) (ns : List aq) (t : Nat) (_ : Tag (hs,K,ns)) (e : Env) (R : List Nat) (acc : List (List Nat × List Nat)) (d : D) : Prop:=match d with
 | .ref (.r c) k n=>aN (ac e) (.ref (.r c) k n) /\ doW C hs K ns ⟨⟩ e R acc [(t,dp1 (ac e) (.ref (.r c) k n)),(c,.any)] []
 | d=>isS d=true /\ doW C hs K ns ⟨⟩ e R acc [(t,d)] []
@[simp] theorem NA {t x v1} : opW C hs K ns (some t) (.frz x) v1 e R acc=p8 C hs K ns t ⟨⟩ e R acc (vd (ac e) x):=_root_.id rfl
@[simp] theorem F7 {t c k n} : p8 C hs K ns t u e R acc (.ref (.r c) k n)=(aN (ac e) (.ref (.r c) k n) /\ doW C hs K ns ⟨⟩ e R acc [(t,dp1 (ac e) (.ref (.r c) k n)),(c,.any)] []):=_root_.id rfl
@[simp] theorem Dc {t} : p8 C hs K ns t u e R acc .nils=doW C hs K ns ⟨⟩ e R acc [(t,.nils)] []:=by simp [p8]
@[simp] theorem Kp {t es} : p8 C hs K ns t u e R acc (.sl es)=doW C hs K ns ⟨⟩ e R acc [(t,.sl es)] []:=by simp [p8]
@[simp] theorem F8 {t b es} : p8 C hs K ns t u e R acc (slx b es)=doW C hs K ns ⟨⟩ e R acc [(t,slx b es)] []:=by
 rcases gf b es with h | ⟨h,_⟩ <;> rw [h] <;> simp
def wY (C : CC) (hs : Option (List Nat)) (K : Env -> Prop) (ns : List aq) (dst : Option Nat) (_ : Tag (hs,K,ns)) (e : Env) (R : List Nat) (acc : List (List Nat × List Nat)) (c i off : Nat) (d : D) : Prop:=match d with
 | .blk _ es=>∃ r,es[i]? = some r /\ ∃ d,r[off]? = some d /\ da dst (kOf C hs K ns e R acc) (ldc (.r c) i off d)
 | _=>False
@[simp] theorem HY {c i off sz es} : wY C hs K ns dst u e R acc c i off (.blk sz es)=fR es[i]? (fun r=>vY r[off]? (fun d=>dW C hs K ns dst ⟨⟩ e R acc (ldc (.r c) i off d)) ⟨⟩) ⟨⟩:=by
 simp only [wY,eT,vZ];rfl
def HZ (C : CC) (hs : Option (List Nat)) (K : Env -> Prop) (ns : List aq) (dst : Option Nat) (_ : Tag (hs,K,ns)) (e : Env) (R : List Nat) (acc : List (List Nat × List Nat)) (q : Nat) (d : D) : Prop:=match d with
 | .adr (.r c) i off=>off=q /\ wY C hs K ns dst ⟨⟩ e R acc c i off (ac e c)
 | _=>False
@[simp] theorem H0 {q c i off} : HZ C hs K ns dst u e R acc q (.adr (.r c) i off)=(off=q /\ wY C hs K ns dst ⟨⟩ e R acc c i off (ac e c)):=_root_.id rfl
@[simp] theorem ND {q x v1} : opW C hs K ns dst (.ldQ q x) v1 e R acc=HZ C hs K ns dst ⟨⟩ e R acc q (vd (ac e) x):=_root_.id rfl
def vT (C : CC) (hs : Option (List Nat)) (K : Env -> Prop) (ns : List aq) (t : Nat) (_ : Tag (hs,K,ns)) (e : Env) (R : List Nat) (acc : List (List Nat × List Nat)) (sz by_ : Nat) (rowsY : List (List D)) (c i o k n : Nat) (d : D) : Prop:=match d with
 | .blk sz0 es0=>∃ row0,es0[i]? = some row0 /\ ∃ es,row0[o]? = some (.own sz es) /\ k + n <= es.length /\ (n + rowsY.length) * by_ <= 140737488355328 /\
   kOf C hs K ns e R acc [(t,.ref (.r (rt t 0)) 0 (n + rowsY.length)),(rt t 0,.blk sz ((es.drop k).take n++rowsY)),(c,.blk sz0 (bj es0 i o 1 [.any]))] [(rt t 0,true)]
 | _=>False
@[simp] theorem E1 {t sz by_ rowsY c i o k n sz0 es0} : vT C hs K ns t u e R acc sz by_ rowsY c i o k n (.blk sz0 es0)=fR es0[i]? (fun row0=>jn row0[o]? (fun sz' es=>sz'=sz /\ k + n <= es.length /\ (n + rowsY.length) * by_ <= 140737488355328 /\
   doW C hs K ns ⟨⟩ e R acc [(t,.ref (.r (rt t 0)) 0 (n + rowsY.length)),(rt t 0,.blk sz ((es.drop k).take n++rowsY)),(c,.blk sz0 (bj es0 i o 1 [.any]))] [(rt t 0,true)]) ⟨⟩) ⟨⟩:=by
 simp only [vT,eT,iP]
 refine propext ⟨?_,?_⟩
 ·rintro ⟨row0,h1,es,h2,h3,h4,h5⟩
  exact ⟨row0,h1,sz,es,h2,rfl,h3,h4,h5⟩
 ·rintro ⟨row0,h1,sz',es,h2,rfl,h3,h4,h5⟩
  exact ⟨row0,h1,es,h2,h3,h4,h5⟩
def E4 (C : CC) (hs : Option (List Nat)) (K : Env -> Prop) (ns : List aq) (t : Nat) (_ : Tag (hs,K,ns)) (e : Env) (R : List Nat) (acc : List (List Nat × List Nat)) (q sz by_ : Nat) (yd : D) (d : D) : Prop:=match d with
 | .ref (.n c i o') k n=>o'=q /\ eN (ac e) false yd sz fun rowsY bs=>bs=[] /\ c ≠ rt t 0 /\ vT C hs K ns t ⟨⟩ e R acc sz by_ rowsY c i o' k n (ac e c)
 | _=>False
@[simp] theorem E5 {t q sz by_ yd c i o k n} : E4 C hs K ns t u e R acc q sz by_ yd (.ref (.n c i o) k n)=(o=q /\ iq (ac e) false yd sz (fun rowsY bs=>bs=[] /\ c ≠ rt t 0 /\ vT C hs K ns t ⟨⟩ e R acc sz by_ rowsY c i o k n (ac e c)) ⟨⟩):=_root_.id rfl
@[simp] theorem IE {t q sz by_ x y v1} : opW C hs K ns (some t) (.appQ q sz by_ x y) v1 e R acc=E4 C hs K ns t ⟨⟩ e R acc q sz by_ (vd (ac e) y) (vd (ac e) x):=_root_.id rfl
def Aj (C : CC) (hs : Option (List Nat)) (K : Env -> Prop) (ns : List aq) (t : Nat) (_ : Tag (hs,K,ns)) (e : Env) (R : List Nat) (acc : List (List Nat × List Nat)) (sz : Nat) (rows : List (List D)) (b k n : Nat) (d : D) : Prop:=match d with
 | .blk sz' es=>sz'=sz /\ k + n <= es.length /\ (∀ e ∈ es,∀ c ∈ e,aw c=true) /\ (∀ e ∈ rows,∀ c ∈ e,aw c=true) /\ kOf C hs K ns e R acc [(t,.int .i64 (min rows.length n : Nat)),(b,.blk sz (j5 es k (rows.take n)))] []
 | _=>False
@[simp] theorem Ft {t sz rows b k n sz' es} : Aj C hs K ns t u e R acc sz rows b k n (.blk sz' es)=(sz'=sz /\ k + n <= es.length /\ (∀ e ∈ es,∀ c ∈ e,aw c=true) /\ (∀ e ∈ rows,∀ c ∈ e,aw c=true) /\ doW C hs K ns ⟨⟩ e R acc [(t,.int .i64 (min rows.length n : Nat)),(b,.blk sz (j5 es k (rows.take n)))] []):=_root_.id rfl
def Fu (C : CC) (hs : Option (List Nat)) (K : Env -> Prop) (ns : List aq) (t : Nat) (_ : Tag (hs,K,ns)) (e : Env) (R : List Nat) (acc : List (List Nat × List Nat)) (sz : Nat) (rows : List (List D)) (d : D) : Prop:=match d with
 | .ref (.r b) k n=>(n=0 -> kOf C hs K ns e R acc [(t,.int .i64 0)] []) /\ (0 < n -> Aj C hs K ns t ⟨⟩ e R acc sz rows b k n (ac e b))
 | _=>False
@[simp] theorem Fv {t sz rows b k n} : Fu C hs K ns t u e R acc sz rows (.ref (.r b) k n)=((n=0 -> doW C hs K ns ⟨⟩ e R acc [(t,.int .i64 0)] []) /\ (0 < n -> Aj C hs K ns t ⟨⟩ e R acc sz rows b k n (ac e b))):=_root_.id rfl
@[simp] theorem Nv {t sz x y v1} : opW C hs K ns (some t) (.cpy sz x y) v1 e R acc=iq (ac e) false (vd (ac e) y) sz (fun rows bs=>bs=[] /\ 0 < rows.length /\ Fu C hs K ns t ⟨⟩ e R acc sz rows (vd (ac e) x)) ⟨⟩:=_root_.id rfl
def AO (C : CC) (hs : Option (List Nat)) (K : Env -> Prop) (ns : List aq) (t : Nat) (_ : Tag (hs,K,ns)) (e : Env) (R : List Nat) (acc : List (List Nat × List Nat)) (n c : Nat) (d : D) : Prop:=match d with
 | .blk _ [row]=>row.length=n /\ okR (.agg row)=true /\ (aM t (.agg row)).all (fun p=>p.1 != c)=true /\ doW C hs K ns ⟨⟩ e R acc ((t,dy t (.agg row))::(c,.any)::aM t (.agg row)) (db t (.agg row))
 | _=>False
@[simp] theorem HV {t n c sz row} : AO C hs K ns t u e R acc n c (.blk sz [row])=(row.length=n /\ okR (.agg row)=true /\ (aM t (.agg row)).all (fun p=>p.1 != c)=true /\ doW C hs K ns ⟨⟩ e R acc ((t,dy t (.agg row))::(c,.any)::aM t (.agg row)) (db t (.agg row))):=_root_.id rfl
def HW (C : CC) (hs : Option (List Nat)) (K : Env -> Prop) (ns : List aq) (t : Nat) (_ : Tag (hs,K,ns)) (e : Env) (R : List Nat) (acc : List (List Nat × List Nat)) (n : Nat) (d : D) : Prop:=match d with
 | .adr (.r c) i off=>i=0 /\ off=0 /\ AO C hs K ns t ⟨⟩ e R acc n c (ac e c)
 | _=>False
@[simp] theorem HX {t n c i off} : HW C hs K ns t u e R acc n (.adr (.r c) i off)=(i=0 /\ off=0 /\ AO C hs K ns t ⟨⟩ e R acc n c (ac e c)):=_root_.id rfl
@[simp] theorem NC {t n x v1} : opW C hs K ns (some t) (.ldM n x) v1 e R acc=HW C hs K ns t ⟨⟩ e R acc n (vd (ac e) x):=_root_.id rfl
def wX (C : CC) (hs : Option (List Nat)) (K : Env -> Prop) (ns : List aq) (t : Nat) (_ : Tag (hs,K,ns)) (e : Env) (R : List Nat) (acc : List (List Nat × List Nat)) (n c i off : Nat) (d : D) : Prop:=match d with
 | .blk _ es=>∃ r,es[i]? = some r /\ off + n <= r.length /\ doW C hs K ns ⟨⟩ e R acc [(t,.agg (((r.drop off).take n).map aR)),(c,.any)] []
 | _=>False
@[simp] theorem HS {t n c i off sz es} : wX C hs K ns t u e R acc n c i off (.blk sz es)=fR es[i]? (fun r=>off + n <= r.length /\ doW C hs K ns ⟨⟩ e R acc [(t,.agg (((r.drop off).take n).map aR)),(c,.any)] []) ⟨⟩:=by
 simp only [wX,eT]
def HT (C : CC) (hs : Option (List Nat)) (K : Env -> Prop) (ns : List aq) (t : Nat) (_ : Tag (hs,K,ns)) (e : Env) (R : List Nat) (acc : List (List Nat × List Nat)) (n : Nat) (d : D) : Prop:=match d with
 | .adr (.r c) i off=>wX C hs K ns t ⟨⟩ e R acc n c i off (ac e c)
 | _=>False
@[simp] theorem HU {t n c i off} : HT C hs K ns t u e R acc n (.adr (.r c) i off)=wX C hs K ns t ⟨⟩ e R acc n c i off (ac e c):=_root_.id rfl
@[simp] theorem NB {t n x v1} : opW C hs K ns (some t) (.ldF n x) v1 e R acc=HT C hs K ns t ⟨⟩ e R acc n (vd (ac e) x):=_root_.id rfl
def Bz (C : CC) (hs : Option (List Nat)) (K : Env -> Prop) (ns : List aq) (t : Nat) (_ : Tag (hs,K,ns)) (e : Env) (R : List Nat) (acc : List (List Nat × List Nat)) (len sz c : Nat) (d : D) : Prop:=match d with
 | .blk _ [row]=>0 < len /\ 0 < sz /\ row.length=len * sz /\ (∀ d ∈ row,aw d=true) /\ doW C hs K ns ⟨⟩ e R acc [(t,.ref (.r (rt t 0)) 0 len),(rt t 0,.blk sz (b9 sz len row)),(c,.any)] [(rt t 0,true)]
 | _=>False
@[simp] theorem Jh {t len sz c sz0 row} : Bz C hs K ns t u e R acc len sz c (.blk sz0 [row])=(0 < len /\ 0 < sz /\ row.length=len * sz /\ (∀ d ∈ row,aw d=true) /\ doW C hs K ns ⟨⟩ e R acc [(t,.ref (.r (rt t 0)) 0 len),(rt t 0,.blk sz (b9 sz len row)),(c,.any)] [(rt t 0,true)]):=_root_.id rfl
def Ji (C : CC) (hs : Option (List Nat)) (K : Env -> Prop) (ns : List aq) (t : Nat) (_ : Tag (hs,K,ns)) (e : Env) (R : List Nat) (acc : List (List Nat × List Nat)) (len sz : Nat) (d : D) : Prop:=match d with
 | .adr (.r c) i off=>i=0 /\ off=0 /\ c ≠ rt t 0 /\ Bz C hs K ns t ⟨⟩ e R acc len sz c (ac e c)
 | _=>False
@[simp] theorem Jj {t len sz c i off} : Ji C hs K ns t u e R acc len sz (.adr (.r c) i off)=(i=0 /\ off=0 /\ c ≠ rt t 0 /\ Bz C hs K ns t ⟨⟩ e R acc len sz c (ac e c)):=_root_.id rfl
@[simp] theorem NM {len sz x t v1} : opW C hs K ns (some t) (.slM len sz x) v1 e R acc=Ji C hs K ns t ⟨⟩ e R acc len sz (vd (ac e) x):=_root_.id rfl
def gO (C : CC) (hs : Option (List Nat)) (K : Env -> Prop) (ns : List aq) (dst : Option Nat) (_ : Tag (hs,K,ns)) (e : Env) (R : List Nat) (acc : List (List Nat × List Nat)) (d : D) : Prop:=match d with
 | .agx ds=>dW C hs K ns dst ⟨⟩ e R acc (.ptx ds)
 | .agg ds=>dW C hs K ns dst ⟨⟩ e R acc (.ptr ds)
 | d=>aw d=true /\ dW C hs K ns dst ⟨⟩ e R acc (.ptr [d])
@[simp] theorem Ae {ds : List D} : dC (.agg ds)=ds:=_root_.id rfl
@[simp] theorem Af {k n} : dC (.int k n)=[.int k n]:=_root_.id rfl
@[simp] theorem Ag {n} : dC (.str n)=[.str n]:=_root_.id rfl
@[simp] theorem yD {n} : dC (.bool n)=[.bool n]:=_root_.id rfl
@[simp] theorem CN {n} : dC (.sl n)=[.sl n]:=_root_.id rfl
@[simp] theorem Db {f : Nat -> D} {es} : fY f [] es=es:=_root_.id rfl
@[simp] theorem Av {f : Nat -> D} {p ps es} : fY f (p::ps) es=fY f ps (es.set p.1 (dC (vd f p.2))):=_root_.id rfl
@[simp] theorem IF {sz len zs parts v1} : opW C hs K ns dst (.blsF sz len zs parts) v1 e R acc=((∀ p ∈ parts,p.1 < len /\ (dC (vd (ac e) p.2)).length=sz /\ ∀ c ∈ dC (vd (ac e) p.2),aw c=true) /\ 0 < len /\
   (∀ r ∈ fY (ac e) parts (List.replicate len zs),∀ c ∈ r,aw c=true) /\ dW C hs K ns dst ⟨⟩ e R acc (.sl (fY (ac e) parts (List.replicate len zs)))):=_root_.id rfl
@[simp] theorem IG {sz len zs parts v1} : opW C hs K ns dst (.blsX sz len zs parts) v1 e R acc=(zs.all aw=true /\ (∀ p ∈ parts,p.1 < len /\ match (generalizing:=false) vd (ac e) p.2 with
    | .agg ds=>ds.length=sz
    | .agx ds=>ds.length=sz
    | _=>False) /\ dW C hs K ns dst ⟨⟩ e R acc (.rfx len sz (je (ac e) sz len zs parts))):=_root_.id rfl
attribute [simp] je
@[simp] theorem IH {x v1} : opW C hs K ns dst (.boxF x) v1 e R acc=gO C hs K ns dst ⟨⟩ e R acc (vd (ac e) x):=_root_.id rfl
@[simp] theorem Fg {ds} : gO C hs K ns dst u e R acc (.agx ds)=dW C hs K ns dst ⟨⟩ e R acc (.ptx ds):=_root_.id rfl
@[simp] theorem Ff {ds} : gO C hs K ns dst u e R acc (.agg ds)=dW C hs K ns dst ⟨⟩ e R acc (.ptr ds):=_root_.id rfl
@[simp] theorem Fh {k n} : gO C hs K ns dst u e R acc (.int k n)=dW C hs K ns dst ⟨⟩ e R acc (.ptr [.int k n]):=by simp [gO]
@[simp] theorem Cr {n} : gO C hs K ns dst u e R acc (.bool n)=dW C hs K ns dst ⟨⟩ e R acc (.ptr [.bool n]):=by simp [gO]
@[simp] theorem Fk {n} : gO C hs K ns dst u e R acc (.str n)=dW C hs K ns dst ⟨⟩ e R acc (.ptr [.str n]):=by simp [gO]
@[simp] theorem Cs : gO C hs K ns dst u e R acc .nils=dW C hs K ns dst ⟨⟩ e R acc (.ptr [.nils]):=by simp [gO]
@[simp] theorem JF {es} : gO C hs K ns dst u e R acc (.sl es)=dW C hs K ns dst ⟨⟩ e R acc (.ptr [.sl es]):=by simp [gO]
@[simp] theorem Fj {b es} : gO C hs K ns dst u e R acc (slx b es)=dW C hs K ns dst ⟨⟩ e R acc (.ptr [slx b es]):=by
 rcases gf b es with h | ⟨h,_⟩ <;> rw [h] <;> simp
@[simp] theorem Fi {es} : gO C hs K ns dst u e R acc (.ptr es)=dW C hs K ns dst ⟨⟩ e R acc (.ptr [.ptr es]):=by simp [gO]
@[simp] theorem JE {g es} : gO C hs K ns dst u e R acc (.fn g es)=dW C hs K ns dst ⟨⟩ e R acc (.ptr [.fn g es]):=by simp [gO]
@[simp] theorem NE {x v1} : opW C hs K ns dst (.len x) v1 e R acc=qg (vd (ac e) x) (fun n=>dW C hs K ns dst ⟨⟩ e R acc (.int .i64 n)) ⟨⟩:=by
 show res (ac e) _ (.len x)=_
 simp only [res,qg]
 cases vd (ac e) x <;> rfl
def sg (C : CC) (hs : Option (List Nat)) (K : Env -> Prop) (ns : List aq) (dst : Option Nat) (_ : Tag (hs,K,ns)) (e : Env) (R : List Nat) (acc : List (List Nat × List Nat)) (sz : Nat) (x i : D) : Prop:=match (generalizing:=false) x,i with
  | .sl es,.int _ j=>0 <= j /\ iZ C hs K ns dst ⟨⟩ e R acc sz es j.toNat
  | .rfx n sz' ds,.int _ j=>0 <= j /\ j.toNat < n /\ sz'=sz /\ dW C hs K ns dst ⟨⟩ e R acc (.ptx (ds.drop (j.toNat * sz)))
  | .ref p k n,.int _ j=>0 <= j /\ j.toNat < n /\ match (generalizing:=false) aT (ac e) p with
   | some (sz',_)=>sz'=sz /\ dW C hs K ns dst ⟨⟩ e R acc (.adr p (k + j.toNat) 0)
   | none=>False
  | _,_=>False
@[simp] theorem IL {sz x i v1} : opW C hs K ns dst (.iadS sz x i) v1 e R acc=sg C hs K ns dst ⟨⟩ e R acc sz (vd (ac e) x) (vd (ac e) i):=_root_.id rfl
@[simp] theorem Gg {sz sz' n ds k j} : sg C hs K ns dst u e R acc sz (.rfx n sz' ds) (.int k j)=(0 <= j /\ j.toNat < n /\ sz'=sz /\ dW C hs K ns dst ⟨⟩ e R acc (.ptx (ds.drop (j.toNat * sz)))):=_root_.id rfl
@[simp] theorem Kq {sz es k j} : sg C hs K ns dst u e R acc sz (.sl es) (.int k j)=(0 <= j /\ iZ C hs K ns dst ⟨⟩ e R acc sz es j.toNat):=_root_.id rfl
@[simp] theorem Gh {sz b es k j} : sg C hs K ns dst u e R acc sz (slx b es) (.int k j)=(0 <= j /\ iZ C hs K ns dst ⟨⟩ e R acc sz es j.toNat):=by
 rcases gf b es with h | ⟨h,rfl⟩
 ·rw [h];rfl
 ·rw [h];simp [sg,iZ]
@[simp] theorem Gf {sz p k n k' j} : sg C hs K ns dst u e R acc sz (.ref p k n) (.int k' j)=(0 <= j /\ j.toNat < n /\ match (generalizing:=false) aT (ac e) p with
   | some (sz',_)=>sz'=sz /\ dW C hs K ns dst ⟨⟩ e R acc (.adr p (k + j.toNat) 0)
   | none=>False):=_root_.id rfl
def xK (C : CC) (hs : Option (List Nat)) (K : Env -> Prop) (ns : List aq) (dst : Option Nat) (_ : Tag (hs,K,ns)) (e : Env) (R : List Nat) (acc : List (List Nat × List Nat)) (sz : Nat) (x : D) (lo hi : Option Opd) : Prop:=match (generalizing:=false) x with
  | .sl es=>(∀ e ∈ es,e.length=sz) /\ di (ac e) hi es.length (fun h=>di (ac e) lo 0 (fun l=>l <= h /\ h <= es.length /\ dW C hs K ns dst ⟨⟩ e R acc (.sl ((es.take h).drop l))) ⟨⟩) ⟨⟩
  | .nils=>di (ac e) hi 0 (fun h=>di (ac e) lo 0 (fun l=>l <= h /\ h <= 0 /\ dW C hs K ns dst ⟨⟩ e R acc (.sl [])) ⟨⟩) ⟨⟩
  | .ref p k n=>match (generalizing:=false) aT (ac e) p with
   | some (sz',_)=>sz'=sz /\ di (ac e) hi n (fun h=>di (ac e) lo 0 (fun l=>l <= h /\ h <= n /\ dW C hs K ns dst ⟨⟩ e R acc (.ref p (k + l) (h - l))) ⟨⟩) ⟨⟩
   | none=>False
  | _=>False
@[simp] theorem NO {sz x lo hi v1} : opW C hs K ns dst (.slc sz x lo hi) v1 e R acc=xK C hs K ns dst ⟨⟩ e R acc sz (vd (ac e) x) lo hi:=_root_.id rfl
@[simp] theorem NQ {sz es lo hi} : xK C hs K ns dst u e R acc sz (.sl es) lo hi=((∀ e ∈ es,e.length=sz) /\ di (ac e) hi es.length (fun h=>di (ac e) lo 0 (fun l=>l <= h /\ h <= es.length /\ dW C hs K ns dst ⟨⟩ e R acc (.sl ((es.take h).drop l))) ⟨⟩) ⟨⟩):=_root_.id rfl
@[simp] theorem EG {sz lo hi} : xK C hs K ns dst u e R acc sz .nils lo hi=di (ac e) hi 0 (fun h=>di (ac e) lo 0 (fun l=>l <= h /\ h <= 0 /\ dW C hs K ns dst ⟨⟩ e R acc (.sl [])) ⟨⟩) ⟨⟩:=_root_.id rfl
@[simp] theorem Jg {sz p k n lo hi} : xK C hs K ns dst u e R acc sz (.ref p k n) lo hi=(match (generalizing:=false) aT (ac e) p with
   | some (sz',_)=>sz'=sz /\ di (ac e) hi n (fun h=>di (ac e) lo 0 (fun l=>l <= h /\ h <= n /\ dW C hs K ns dst ⟨⟩ e R acc (.ref p (k + l) (h - l))) ⟨⟩) ⟨⟩
   | none=>False):=_root_.id rfl
@[simp] theorem Eu {x xs v1} : opW C hs K ns dst (.callv x xs) v1 e R acc=(match (generalizing:=false) vd (ac e) x with
  | .fn g cs=>(∀ x ∈ xs,bu (ac e) (vd (ac e) x)) /\ oj C g hs K ns dst ⟨⟩ e R acc (xs.all fun x=>isV (vd (ac e) x)) (xs.map (dpv (ac e))++cs)
  | .fnx g cs=>(∀ x ∈ xs,bu (ac e) (vd (ac e) x)) /\ (∀ c ∈ cs,aN (ac e) c) /\ oj C g hs K ns dst ⟨⟩ e R acc false (xs.map (dpv (ac e))++cs.map (dp1 (ac e)))
  | _=>False):=by
 simp only [opW,ay,oj,da,Bool.false_eq_true,or_false]
 cases vd (ac e) x <;> rfl
def mpT (x : D) (K : Nat -> Nat -> List D -> List D -> Prop) (_ : Tag K) : Prop:=match x with
 | .mp kt et ks vs=>K kt et ks vs
 | _=>False
@[simp] theorem O8 {kt et ks vs K u} : mpT (.mp kt et ks vs) K u=K kt et ks vs:=_root_.id rfl
@[simp] theorem NF {kt et t v1} : opW C hs K ns (some t) (.mkm kt et) v1 e R acc=doW C hs K ns ⟨⟩ e R acc [(t,.mrf (rt t 0)),(rt t 0,.mp kt et [] [])] [(rt t 0,true)]:=_root_.id rfl
def mlM (C : CC) (hs : Option (List Nat)) (K : Env -> Prop) (ns : List aq) (dst : Option Nat) (_ : Tag (hs,K,ns)) (e : Env) (R : List Nat) (acc : List (List Nat × List Nat)) (sh : KSh) (kt et : Nat) (ok : Bool) (z x m : D) : Prop:=match m with
 | .mrf b=>mpT (ac e b) (fun kt' et' ks vs=>kt'=kt /\ et'=et /\ cX sh x /\ match ok with
    | true=>dW C hs K ns dst ⟨⟩ e R acc (.tup [(dz ks vs x).getD z,.bool (dz ks vs x).isSome])
    | false=>dW C hs K ns dst ⟨⟩ e R acc ((dz ks vs x).getD z)) ⟨⟩
 | _=>False
@[simp] theorem Na {sh kt et ok z x b} : mlM C hs K ns dst u e R acc sh kt et ok z x (.mrf b)=mpT (ac e b) (fun kt' et' ks vs=>kt'=kt /\ et'=et /\ cX sh x /\ match ok with
    | true=>dW C hs K ns dst ⟨⟩ e R acc (.tup [(dz ks vs x).getD z,.bool (dz ks vs x).isSome])
    | false=>dW C hs K ns dst ⟨⟩ e R acc ((dz ks vs x).getD z)) ⟨⟩:=_root_.id rfl
@[simp] theorem NI {sh kt et ok z m x v1} : opW C hs K ns dst (.mpl sh kt et ok z m x) v1 e R acc=mlM C hs K ns dst ⟨⟩ e R acc sh kt et ok z (vd (ac e) x) (vd (ac e) m):=by
 show res (ac e) _ (.mpl sh kt et ok z m x)=_
 simp only [res,mlM]
 cases vd (ac e) m <;> rfl
def muM (C : CC) (hs : Option (List Nat)) (K : Env -> Prop) (ns : List aq) (_ : Tag (hs,K,ns)) (e : Env) (R : List Nat) (acc : List (List Nat × List Nat)) (sh : KSh) (kt et : Nat) (z x v m : D) : Prop:=match m with
 | .mrf b=>mpT (ac e b) (fun kt' et' ks vs=>kt'=kt /\ et'=et /\ ks.length < maxLen /\ cX sh x /\ hG z v /\ doW C hs K ns ⟨⟩ e R acc [(b,.mp kt et (x::ks) (v::vs))] []) ⟨⟩
 | _=>False
@[simp] theorem Nb {sh kt et z x v b} : muM C hs K ns u e R acc sh kt et z x v (.mrf b)=mpT (ac e b) (fun kt' et' ks vs=>kt'=kt /\ et'=et /\ ks.length < maxLen /\ cX sh x /\ hG z v /\ doW C hs K ns ⟨⟩ e R acc [(b,.mp kt et (x::ks) (v::vs))] []) ⟨⟩:=_root_.id rfl
@[simp] theorem NJ {sh kt et z m x v v1} : opW C hs K ns dst (.mpu sh kt et z m x v) v1 e R acc=(dst=none /\ muM C hs K ns ⟨⟩ e R acc sh kt et z (vd (ac e) x) (vd (ac e) v) (vd (ac e) m)):=by
 show (dst=none /\ _)=_
 congr 1
end
@[simp] theorem AH {s} : cX .str (.str s)=(s.length <= maxLen):=_root_.id rfl
@[simp] theorem yN {b} : cX .bool (.bool b)=True:=_root_.id rfl
@[simp] theorem AF {q q' n} : cX (.int q) (.int q' n)=(q'=q /\ oM q n):=_root_.id rfl
@[simp] theorem yO {q n ds} : cX (.ints q n) (.agg ds)=(ds.length=n /\ ∀ d ∈ ds,∃ x,d=.int q x /\ oM q x):=_root_.id rfl
@[simp] theorem Da {s z} : hG (.str z) (.str s)=(s.length <= maxLen):=_root_.id rfl
@[simp] theorem Ap {b z} : hG (.bool z) (.bool b)=True:=_root_.id rfl
@[simp] theorem C9 {q q' n z} : hG (.int q z) (.int q' n)=(q'=q /\ oM q n):=_root_.id rfl
@[simp] theorem Gs {n : Int} : oM .i64 n=(-9223372036854775808 <= n /\ n <= 9223372036854775807):=by
 have e1 : IntKind.i64.min=-9223372036854775808:=rfl
 have e2 : IntKind.i64.max=9223372036854775807:=rfl
 simp [oM,Lit.wf,e1,e2]
attribute [simp] ip fk bJ dy cC bD aM db uG okR pm kP cG
attribute [simp] vd params fJ jq jr jp lI mc uT prune jt isC ib aT Pl bj dpv cz stK bQ rt chk rdS rdR frR fwR fO rdN hJ wrK mnR Bo ldN ai io oJ wOk Pa.root cl bE
end Go.Gv

namespace Go.Gv
def oO (c : Int) : Bool:=(97 <= c && c <= 122) || (65 <= c && c <= 90)
def wU (c : Int) : Bool:=48 <= c && c <= 57
def wV (c : UInt8) : Bool:=oO c.toNat || wU c.toNat || c.toNat == 95
def yg (s : List UInt8) : Nat:=(s.takeWhile wV).length
def lg (n : Int) : Bool:=-1125899906842624 <= n && n <= 1125899906842624
def OM (s : List UInt8) : Bool:=s ≠ [] && s.length <= 20 && oO (s[0]!).toNat && yg s == s.length
theorem ae {n m : Int} (h : n=m) (h2 : -9223372036854775808 <= m /\ m < 9223372036854775808) : IntKind.wrap .i64 n=m:=by
 subst h
 have e1 : IntKind.i64.signed=true:=rfl
 have e2 : (2 ^ (IntKind.i64.bits - 1) : Int)=9223372036854775808:=rfl
 have e3 : (2 ^ IntKind.i64.bits : Int)=18446744073709551616:=rfl
 unfold IntKind.wrap
 simp only [e1,e2,e3,Bool.true_and,decide_eq_true_eq]
 split <;> omega
variable {C : CC} (hC : aA prog C)
include hC
end Go.Gv

namespace Go.Gv
structure SlI where
 n : Bool
 l : List Int
 deriving Inhabited
def slI (x : SlI) : D:=slx x.n (x.l.map fun n=>[.int .i64 n])
def knD (k : Int × Int) : List D:=[.int .i64 k.1,.int .i64 k.2]
structure Sec where
 name : List UInt8
 height : Int
 price : Int
 areaN : Bool
 area : List (Int × Int)
 convN : Bool
 conv : List (Int × Int)
 deriving Inhabited
def PR (s : Sec) : List D:=[.str s.name,.int .i64 s.height,.int .i64 s.price,slx s.areaN (s.area.map knD),slx s.convN (s.conv.map knD)]
def jC {α : Type} (p : α -> Bool) (xs : List α) : Int:=match xs.findIdx? p with
 | some i=>i
 | none=>-1
theorem iK {α : Type} {p : α -> Bool} {xs : List α} {i : Nat} (hj : ∀ (j : Nat) (h : j < xs.length),j < i -> p xs[j]=false) (hi : i < xs.length) (h : p xs[i]=true) : jC p xs=i:=by
 have : xs.findIdx? p=some i:=by
  rw [List.findIdx?_eq_some_iff_getElem]
  exact ⟨hi,h,fun j hji=>by simp [hj j (by omega) hji]⟩
 simp [jC,this]
theorem iJ {α : Type} {p : α -> Bool} {xs : List α} (hj : ∀ (j : Nat) (h : j < xs.length),p xs[j]=false) : jC p xs=-1:=by
 have : xs.findIdx? p=none:=by
  rw [List.findIdx?_eq_none_iff]
  intro x hx
  obtain ⟨j,h,rfl⟩:=List.mem_iff_getElem.1 hx
  exact hj j h
 simp [jC,this]
theorem lP {α : Type} (p : α -> Bool) (xs : List α) : decide (0 <= jC p xs)=xs.any p:=by
 unfold jC
 split
 ·rename_i i h
  rw [List.findIdx?_eq_some_iff_getElem] at h
  obtain ⟨h1,h2,_⟩:=h
  have : xs.any p=true:=List.any_eq_true.2 ⟨_,List.getElem_mem h1,h2⟩
  simp [this]
 ·rename_i h
  rw [List.findIdx?_eq_none_iff] at h
  have : xs.any p=false:=by rw [List.any_eq_false];intro x hx;simp [h x hx]
  simp [this]
variable {C : CC} (hC : aA prog C)
include hC
theorem ul {b : Bool} {xs : List Int} {g : Nat} {cs : List D} (p : Int -> Bool) (hs : xs.length < 2 ^ 62) (hp : ∀ x ∈ xs,C g (.int .i64 x::cs) (.bool (p x)) []) : C 35 [slx b (xs.map fun x=>[.int .i64 x]),.fn g cs] (.int .i64 (jC p xs)) []:=by
 refine start hC (nf:=N35) rfl rfl ?_
 simp [N35]
 refine au Nat (fun i=>[(0,slx b (xs.map fun x=>[.int .i64 x])),(1,.fn g cs),(7,.int .i64 xs.length),(8,.int .i64 i)]) (fun i=>i <= xs.length /\ ∀ (j : Nat) (h : j < xs.length),j < i -> p xs[j]=false) (fun i=>xs.length - i) 0 (by simp) (by simp) ?_
 rintro i ⟨hi,hj⟩
 simp
 refine al (fun h=>?_) (fun h=>?_) <;> simp [h] <;> simp at h
 ·have hw : IntKind.wrap .i64 ((i : Int) + 1)=((i + 1 : Nat) : Int):=ae (by omega) (by omega)
  have hc:=hp _ (List.getElem_mem h)
  simp [h,List.getElem_map] at hc ⊢
  refine aa hc (.inl rfl) ?_
  simp
  refine al (fun h1=>?_) (fun h1=>?_) <;> simp [h1,hw]
  ·rw [iK hj h h1]
  ·refine ⟨i + 1,⟨by omega,fun j hl hjj=>?_⟩,by omega,rfl⟩
   rcases Nat.lt_succ_iff_lt_or_eq.1 hjj with h2 | rfl
   ·exact hj j hl h2
   ·exact h1
 ·rw [iJ (fun j hl=>hj j hl (by omega))]
theorem oK {b : Bool} {xs : List Int} {g : Nat} {cs : List D} (p : Int -> Bool) (hs : xs.length < 2 ^ 62) (hp : ∀ x ∈ xs,C g (.int .i64 x::cs) (.bool (p x)) []) : C 11 [slx b (xs.map fun x=>[.int .i64 x]),.fn g cs] (.bool (xs.any p)) []:=by
 refine start hC (nf:=N11) rfl rfl ?_
 simp [N11]
 refine aa (ul hC p hs hp) (.inl rfl) ?_
 simp [lP]
end Go.Gv

namespace Go.Gv
section
variable {C : CC}
theorem iS {f : Nat -> D} {dst : Option Nat} {K K' : KT} {o : NOp} (h : ay C f dst K o) (hk : ∀ ws ks,K ws ks -> K' ws ks) : ay C f dst K' o:=by
 obtain ⟨ws,ks,h1,h2⟩:=md h
 exact h2 K' (hk ws ks h1)
theorem gG {e : Env} {dst : Option Nat} {K K' : Env -> Prop} (h : gd e dst K) (hk : ∀ e,K e -> K' e) : gd e dst K':=by
 unfold gd at h ⊢
 split at h
 ·exact hk _ h
 ·exact hk _ h
theorem gk {K K' : Env -> Prop} (hk : ∀ e,K e -> K' e) : ∀ (ns : List aq) (e : Env),gI C K ns e -> gI C K' ns e
 | [],e,h=>hk e h
 | o::os,e,h=>by
  rw [gI] at h ⊢
  split at h
  ·exact iS h (fun ws ks h1=>gk hk os _ h1)
  ·split at h
   ·exact ⟨fun hb=>iS (h.1 hb) (fun ws ks h1=>gk hk os _ h1),fun hb=>gG (h.2 hb) (fun e h1=>gk hk os e h1)⟩
   ·exact gG h (fun e h1=>gk hk os e h1)
   ·exact h.elim
theorem gj {hs : List Nat} {K K' : Env -> Prop} (hk : ∀ e,K e -> K' e) : ∀ (ns : List aq) (e : Env) (acc : List (List Nat × List Nat)),i9 C hs K ns e acc -> i9 C hs K' ns e acc
 | [],e,acc,h=>⟨h.1,hk e h.2⟩
 | o::os,e,acc,h=>by
  rw [i9] at h ⊢
  refine ⟨h.1,?_⟩
  have h:=h.2
  split at h
  ·exact iS h (fun ws ks h1=>⟨h1.1,gj hk os _ _ h1.2⟩)
  ·split at h
   ·exact ⟨fun hb=>iS (h.1 hb) (fun ws ks h1=>⟨h1.1,gj hk os _ _ h1.2⟩),fun hb=>gG (h.2 hb) (fun e h1=>gj hk os e _ h1)⟩
   ·exact gG h (fun e h1=>gj hk os e _ h1)
   ·exact h.elim
theorem dS : ∀ (c : dF) (Q Q' : cr -> Env -> Prop) (e : Env),(∀ t e,Q t e -> Q' t e) -> wpN C c Q e -> wpN C c Q' e
 | .skip,Q,Q',e,hq,h=>hq _ _ h
 | .reg dr hs keep ops,Q,Q',e,hq,h=>by
  cases dr with
  | false=>exact gk (fun e h=>hq _ _ h) ops e h
  | true=>exact gj (fun e h=>hq _ _ h) ops e [] h
 | .seq x y,Q,Q',e,hq,h=>dS x _ _ e (fun t e h=>by
   cases t with
   | nrm=>exact dS y Q Q' e hq h
   | ext i=>exact hq _ _ h
   | ret=>exact hq _ _ h) h
 | .cond c x y,Q,Q',e,hq,h=>by
  rw [wpN] at h ⊢
  split at h
  ·exact ⟨fun hb=>dS x Q Q' e hq (h.1 hb),fun hb=>dS y Q Q' e hq (h.2 hb)⟩
  ·exact ⟨dS x Q Q' e hq h.1,dS y Q Q' e hq h.2⟩
  ·exact h.elim
 | .block id c,Q,Q',e,hq,h=>dS c _ _ e (fun t e h=>by
   cases t with
   | nrm=>exact hq _ _ h
   | ext i =>
    simp only at h ⊢
    split
    ·rename_i hi;rw [if_pos hi] at h;exact hq _ _ h
    ·rename_i hi;rw [if_neg hi] at h;exact hq _ _ h
   | ret=>exact hq _ _ h) h
 | .loop c,Q,Q',e,hq,h=>by
  obtain ⟨S,G,I,m,s0,h1,h2,h3⟩:=h
  refine ⟨S,G,I,m,s0,h1,h2,fun s hs=>dS c _ _ _ (fun t e h=>?_) (h3 s hs)⟩
  cases t with
  | nrm=>exact h
  | ext i=>exact hq _ _ h
  | ret=>exact hq _ _ h
 | .exit id,Q,Q',e,hq,h=>hq _ _ h
 | .ret,Q,Q',e,hq,h=>hq _ _ h
def sx (id : Nat) (S : Type) (G : S -> Env) (J : S -> Prop) (Q : cr -> Env -> Prop) : cr -> Env -> Prop:=fun t e=>match t with
 | .ext i=>if i=id then ∃ s,J s /\ jt e (G s) else Q (.ext i) e
 | t=>Q t e
variable {Q : cr -> Env -> Prop} {e : Env}
@[simp] theorem wG {id S G J u} : bM (sx id S G J Q) u .nrm e=bM Q ⟨⟩ .nrm e:=_root_.id rfl
@[simp] theorem wH {id S G J u} : bM (sx id S G J Q) u .ret e=bM Q ⟨⟩ .ret e:=_root_.id rfl
@[simp] theorem wF {id S G J u i} : bM (sx id S G J Q) u (.ext i) e=if i=id then ∃ s,J s /\ jt e (G s) else bM Q ⟨⟩ (.ext i) e:=_root_.id rfl
theorem oW {c : dF} {u : Tag (c,Q)} (id : Nat) (S : Type) (G : S -> Env) (J : S -> Prop) (h : re C c (sx id S G J Q) ⟨⟩ e) (hr : ∀ s e,J s -> jt e (G s) -> bM Q ⟨⟩ (.ext id) e) : re C c Q u e :=
 dS (.loop c) (sx id S G J Q) Q e (fun t e g=>by
  cases t with
  | nrm=>exact g
  | ret=>exact g
  | ext i =>
   simp only [sx] at g
   by_cases hi : i=id
   ·rw [if_pos hi] at g
    obtain ⟨s,h1,h2⟩:=g
    rw [hi]
    exact hr s e h1 h2
   ·rw [if_neg hi] at g
    exact g) h
def AV (S : Type) (G : S -> Env) (J : S -> Prop) (Q : cr -> Env -> Prop) : cr -> Env -> Prop:=fun t e=>match t with
 | .nrm=>∃ s,J s /\ jt e (G s)
 | t=>Q t e
@[simp] theorem wD {S G J u} : bM (AV S G J Q) u .nrm e=∃ s,J s /\ jt e (G s):=_root_.id rfl
@[simp] theorem wE {S G J u} : bM (AV S G J Q) u .ret e=bM Q ⟨⟩ .ret e:=_root_.id rfl
@[simp] theorem wC {S G J u i} : bM (AV S G J Q) u (.ext i) e=bM Q ⟨⟩ (.ext i) e:=_root_.id rfl
end
@[simp] theorem I9 {C : CC} {hs : Option (List Nat)} {K : Env -> Prop} {ns : List aq} {dst : Option Nat} {u : Tag (hs,K,ns)} {e : Env} {R : List Nat} {acc : List (List Nat × List Nat)} {α : Type} [Inhabited α] {n : Nat} {ag : Bool} {p : Pa} {xs : List α} {f : α -> List D} {i off : Nat} :
  kD C hs K ns dst u e R acc n ag p (xs.map f) i off=(i < xs.length /\ off + n <= (f xs[i]!).length /\ match ag with
    | true=>((((f xs[i]!).drop off).take n).all isV=true -> dW C hs K ns dst ⟨⟩ e R acc (.agg (((f xs[i]!).drop off).take n))) /\
      ((((f xs[i]!).drop off).take n).all isV=false -> dW C hs K ns dst ⟨⟩ e R acc (.agx ((((f xs[i]!).drop off).take n).mapIdx fun j c=>ldc p i (off + j) c)))
    | false=>dW C hs K ns dst ⟨⟩ e R acc (ldc p i off (((f xs[i]!).drop off).headD .any))):=by
 apply propext
 constructor
 ·rintro ⟨r,h,h1,h2⟩
  rw [List.getElem?_map,Option.map_eq_some_iff] at h
  obtain ⟨x,hx,rfl⟩:=h
  obtain ⟨hi,rfl⟩:=List.getElem?_eq_some_iff.1 hx
  rw [getElem!_pos xs i hi]
  refine ⟨hi,h1,?_⟩
  cases ag <;> exact h2
 ·rintro ⟨hi,h1,h2⟩
  rw [getElem!_pos xs i hi] at h1 h2
  refine nT (r:=f xs[i]) (by rw [List.getElem?_map,List.getElem?_eq_getElem hi];rfl) h1 ?_
  cases ag <;> exact h2
@[simp] theorem DW {b all ks n} : aU ((b,all)::ks) (.ptx n)=if n.any (aI b all) then .any else aU ks (.ptx n):=by
 have h : aU ((b,all)::ks) (.ptx n)=bif (n.any (aI b all) || aC ks (.ptx n)) then .any else .ptx n:=ce ..
 rw [h,ce]
 cases n.any (aI b all) <;> rfl
@[simp] theorem DY {b all ks k sz n} : aU ((b,all)::ks) (.rfx k sz n)=if n.any (aI b all) then .any else aU ks (.rfx k sz n):=by
 have h : aU ((b,all)::ks) (.rfx k sz n)=bif (n.any (aI b all) || aC ks (.rfx k sz n)) then .any else .rfx k sz n:=ce ..
 rw [h,ce]
 cases n.any (aI b all) <;> rfl
@[simp] theorem D1 {b all ks n} : aU ((b,all)::ks) (.tpx n)=if n.any (aI b all) then .any else aU ks (.tpx n):=by
 have h : aU ((b,all)::ks) (.tpx n)=bif (n.any (aI b all) || aC ks (.tpx n)) then .any else .tpx n:=ce ..
 rw [h,ce]
 cases n.any (aI b all) <;> rfl
@[simp] theorem Ec {b all n es} : aI b all (slx n es)=false:=by cases n <;> cases es <;> rfl
@[simp] theorem Eb {b all p k n} : aI b all (.ref p k n)=bQ b all p:=_root_.id rfl
@[simp] theorem D7 {b all p k n} : aI b all (.adr p k n)=bQ b all p:=_root_.id rfl
@[simp] theorem D9 {b all c} : aI b all (.mrf c)=(all && c == b):=_root_.id rfl
@[simp] theorem D8 {b all k n} : aI b all (.int k n)=false:=_root_.id rfl
@[simp] theorem AR {b all n} : aI b all (.bool n)=false:=_root_.id rfl
@[simp] theorem Ed {b all n} : aI b all (.str n)=false:=_root_.id rfl
@[simp] theorem AU {b all} : aI b all .nils=false:=_root_.id rfl
@[simp] theorem AS {b all} : aI b all .nilp=false:=_root_.id rfl
@[simp] theorem Ij {b all n} : aI b all (.sl n)=false:=_root_.id rfl
@[simp] theorem Ea {b all n} : aI b all (.ptr n)=false:=_root_.id rfl
@[simp] theorem Ii {b all g n} : aI b all (.fn g n)=false:=_root_.id rfl
@[simp] theorem DT {b all ks c} : aU ((b,all)::ks) (.mrf c)=if (all && c == b) then .any else aU ks (.mrf c):=by
 have h : aU ((b,all)::ks) (.mrf c)=bif ((all && c == b) || aC ks (.mrf c)) then .any else .mrf c:=ce ..
 rw [h,ce]
 cases all && c == b <;> rfl
end Go.Gv

namespace Go.Gv
section
variable {C : CC} {hs : Option (List Nat)} {K : Env -> Prop} {ns : List aq} {dst : Option Nat} {u : Tag (hs,K,ns)} {e : Env} {R : List Nat} {acc : List (List Nat × List Nat)}
theorem cD {sz : Nat} {es : List (List D)} {i : Nat} {c : List D} (h : es[i]? = some c) : iZ C hs K ns dst u e R acc sz es i=(c.length=sz /\ dW C hs K ns dst ⟨⟩ e R acc (.ptr c)):=by
 apply propext
 unfold iZ dW
 rw [h]
 exact ⟨fun ⟨_,h1,h2⟩=>by cases h1;exact h2,fun h2=>⟨c,rfl,h2⟩⟩
theorem bB {n : Nat} {ag : Bool} {p : Pa} {es : List (List D)} {i off : Nat} {r : List D} (hr : es[i]? = some r) : kD C hs K ns dst u e R acc n ag p es i off=(off + n <= r.length /\ match ag with
    | true=>(((r.drop off).take n).all isV=true -> dW C hs K ns dst ⟨⟩ e R acc (.agg ((r.drop off).take n))) /\
      (((r.drop off).take n).all isV=false -> dW C hs K ns dst ⟨⟩ e R acc (.agx (((r.drop off).take n).mapIdx fun j c=>ldc p i (off + j) c)))
    | false=>dW C hs K ns dst ⟨⟩ e R acc (ldc p i off ((r.drop off).headD .any))):=by
 apply propext
 constructor
 ·rintro ⟨r',h,h1,h2⟩
  rw [hr] at h
  cases h
  refine ⟨h1,?_⟩
  cases ag <;> exact h2
 ·rintro ⟨h1,h2⟩
  refine nT hr h1 ?_
  cases ag <;> exact h2
@[simp] theorem Gi {sz : Nat} {c0 : List D} {es : List (List D)} : iZ C hs K ns dst u e R acc sz (c0::es) 0=(c0.length=sz /\ dW C hs K ns dst ⟨⟩ e R acc (.ptr c0)):=cD rfl
theorem uU {n : Nat} {ag : Bool} {p : Pa} {off : Nat} {c0 : List D} {es : List (List D)} : kD C hs K ns dst u e R acc n ag p (c0::es) 0 off=(off + n <= c0.length /\ match ag with
    | true=>(((c0.drop off).take n).all isV=true -> dW C hs K ns dst ⟨⟩ e R acc (.agg ((c0.drop off).take n))) /\
      (((c0.drop off).take n).all isV=false -> dW C hs K ns dst ⟨⟩ e R acc (.agx (((c0.drop off).take n).mapIdx fun j c=>ldc p 0 (off + j) c)))
    | false=>dW C hs K ns dst ⟨⟩ e R acc (ldc p 0 off ((c0.drop off).headD .any))):=bB rfl
@[simp] theorem Gj {sz : Nat} {c0 c1 : List D} {es : List (List D)} : iZ C hs K ns dst u e R acc sz (c0::c1::es) 1=(c1.length=sz /\ dW C hs K ns dst ⟨⟩ e R acc (.ptr c1)):=cD rfl
theorem uV {n : Nat} {ag : Bool} {p : Pa} {off : Nat} {c0 c1 : List D} {es : List (List D)} : kD C hs K ns dst u e R acc n ag p (c0::c1::es) 1 off=(off + n <= c1.length /\ match ag with
    | true=>(((c1.drop off).take n).all isV=true -> dW C hs K ns dst ⟨⟩ e R acc (.agg ((c1.drop off).take n))) /\
      (((c1.drop off).take n).all isV=false -> dW C hs K ns dst ⟨⟩ e R acc (.agx (((c1.drop off).take n).mapIdx fun j c=>ldc p 1 (off + j) c)))
    | false=>dW C hs K ns dst ⟨⟩ e R acc (ldc p 1 off ((c1.drop off).headD .any))):=bB rfl
@[simp] theorem Gk {sz : Nat} {c0 c1 c2 : List D} {es : List (List D)} : iZ C hs K ns dst u e R acc sz (c0::c1::c2::es) 2=(c2.length=sz /\ dW C hs K ns dst ⟨⟩ e R acc (.ptr c2)):=cD rfl
theorem uW {n : Nat} {ag : Bool} {p : Pa} {off : Nat} {c0 c1 c2 : List D} {es : List (List D)} : kD C hs K ns dst u e R acc n ag p (c0::c1::c2::es) 2 off=(off + n <= c2.length /\ match ag with
    | true=>(((c2.drop off).take n).all isV=true -> dW C hs K ns dst ⟨⟩ e R acc (.agg ((c2.drop off).take n))) /\
      (((c2.drop off).take n).all isV=false -> dW C hs K ns dst ⟨⟩ e R acc (.agx (((c2.drop off).take n).mapIdx fun j c=>ldc p 2 (off + j) c)))
    | false=>dW C hs K ns dst ⟨⟩ e R acc (ldc p 2 off ((c2.drop off).headD .any))):=bB rfl
@[simp] theorem Gl {sz : Nat} {c0 c1 c2 c3 : List D} {es : List (List D)} : iZ C hs K ns dst u e R acc sz (c0::c1::c2::c3::es) 3=(c3.length=sz /\ dW C hs K ns dst ⟨⟩ e R acc (.ptr c3)):=cD rfl
theorem uX {n : Nat} {ag : Bool} {p : Pa} {off : Nat} {c0 c1 c2 c3 : List D} {es : List (List D)} : kD C hs K ns dst u e R acc n ag p (c0::c1::c2::c3::es) 3 off=(off + n <= c3.length /\ match ag with
    | true=>(((c3.drop off).take n).all isV=true -> dW C hs K ns dst ⟨⟩ e R acc (.agg ((c3.drop off).take n))) /\
      (((c3.drop off).take n).all isV=false -> dW C hs K ns dst ⟨⟩ e R acc (.agx (((c3.drop off).take n).mapIdx fun j c=>ldc p 3 (off + j) c)))
    | false=>dW C hs K ns dst ⟨⟩ e R acc (ldc p 3 off ((c3.drop off).headD .any))):=bB rfl
@[simp] theorem Gm {sz : Nat} {c0 c1 c2 c3 c4 : List D} {es : List (List D)} : iZ C hs K ns dst u e R acc sz (c0::c1::c2::c3::c4::es) 4=(c4.length=sz /\ dW C hs K ns dst ⟨⟩ e R acc (.ptr c4)):=cD rfl
theorem uY {n : Nat} {ag : Bool} {p : Pa} {off : Nat} {c0 c1 c2 c3 c4 : List D} {es : List (List D)} : kD C hs K ns dst u e R acc n ag p (c0::c1::c2::c3::c4::es) 4 off=(off + n <= c4.length /\ match ag with
    | true=>(((c4.drop off).take n).all isV=true -> dW C hs K ns dst ⟨⟩ e R acc (.agg ((c4.drop off).take n))) /\
      (((c4.drop off).take n).all isV=false -> dW C hs K ns dst ⟨⟩ e R acc (.agx (((c4.drop off).take n).mapIdx fun j c=>ldc p 4 (off + j) c)))
    | false=>dW C hs K ns dst ⟨⟩ e R acc (ldc p 4 off ((c4.drop off).headD .any))):=bB rfl
attribute [simp] uU uV uW uX uY
end
end Go.Gv

namespace Go.Gv
structure Spt where
 x : Int
 y : Int
 z : Int
 deriving Inhabited,DecidableEq
structure Fce where
 a : Int
 b : Int
 c : Int
 k : Int
 deriving Inhabited,DecidableEq
structure Msh where
 sn : Bool
 s : List Spt
 fn : Bool
 f : List Fce
def ft (s : Spt) : List D:=[.int .i64 s.x,.int .i64 s.y,.int .i64 s.z]
def bx (f : Fce) : List D:=[.int .i64 f.a,.int .i64 f.b,.int .i64 f.c,.int .i64 f.k]
def aY (m : Msh) : List D:=[slx m.sn (m.s.map ft),slx m.fn (m.f.map bx)]
theorem bq (s : Spt) : ft s=[.int .i64 s.x,.int .i64 s.y,.int .i64 s.z]:=_root_.id rfl
theorem aP (f : Fce) : bx f=[.int .i64 f.a,.int .i64 f.b,.int .i64 f.c,.int .i64 f.k]:=_root_.id rfl
theorem ab (m : Msh) : aY m=[slx m.sn (m.s.map ft),slx m.fn (m.f.map bx)]:=_root_.id rfl
def spt (m : Msh) (i : Nat) : Spt:=m.s[i]!
def fce (m : Msh) (i : Nat) : Fce:=m.f[i]!
@[simp high] theorem Pn (m : Msh) (i : Nat) : m.s[i]! = spt m i:=_root_.id rfl
@[simp high] theorem Oy (m : Msh) (i : Nat) : m.f[i]! = fce m i:=_root_.id rfl
@[simp high] theorem Po (m : Msh) (i : Nat) : m.s[i]?.getD default=spt m i:=by simp only [spt,List.getElem!_eq_getElem?_getD]
@[simp high] theorem Oz (m : Msh) (i : Nat) : m.f[i]?.getD default=fce m i:=by simp only [fce,List.getElem!_eq_getElem?_getD]
@[simp] theorem PD (m : Msh) (i : Nat) (h : i < m.s.length) : m.s[i]=spt m i:=(getElem!_pos m.s i h).symm
@[simp] theorem Px (m : Msh) (i : Nat) (h : i < m.f.length) : m.f[i]=fce m i:=(getElem!_pos m.f i h).symm
abbrev Pnt:=Int × Int
def ptD (p : Pnt) : List D:=[.int .i64 p.1,.int .i64 p.2]
def ptS (s : Spt) : Pnt:=(s.x,s.y)
def okP (p : Pnt) : Bool:=-16777216 <= p.1 && p.1 <= 16777216 && -16777216 <= p.2 && p.2 <= 16777216
def aW (s : Spt) : Bool:=-16777216 <= s.x && s.x <= 16777216 && -16777216 <= s.y && s.y <= 16777216 && -4194304 <= s.z && s.z <= 4194304
theorem jm {s : Spt} (h : aW s=true) : okP (ptS s)=true:=by
 simp only [aW,Bool.and_eq_true,decide_eq_true_eq] at h
 show okP (s.x,s.y)=true
 simp [okP]
 omega
def ao (a b c : Pnt) : Int:=(b.1 - a.1) * (c.2 - a.2) - (b.2 - a.2) * (c.1 - a.1)
theorem fo {a b k l : Int} (h1 : -k <= a) (h2 : a <= k) (h3 : -l <= b) (h4 : b <= l) : -(k * l) <= a * b /\ a * b <= k * l:=by
 have hk : 0 <= k:=by omega
 have hl : 0 <= l:=by omega
 have e1:=Int.mul_nonneg (show 0 <= k - a by omega) (show 0 <= l - b by omega)
 have e2:=Int.mul_nonneg (show 0 <= k + a by omega) (show 0 <= l + b by omega)
 have e3:=Int.mul_nonneg (show 0 <= k - a by omega) (show 0 <= l + b by omega)
 have e4:=Int.mul_nonneg (show 0 <= k + a by omega) (show 0 <= l - b by omega)
 simp only [Int.sub_mul,Int.mul_sub,Int.add_mul,Int.mul_add] at e1 e2 e3 e4
 omega
theorem cm {p : Pnt} (h : okP p=true) : -16777216 <= p.1 /\ p.1 <= 16777216 /\ -16777216 <= p.2 /\ p.2 <= 16777216:=by
 simp only [okP,Bool.and_eq_true,decide_eq_true_eq] at h
 omega
theorem jS {a b c : Pnt} (ha : okP a=true) (hb : okP b=true) (hc : okP c=true) :
  (-1125899906842624 <= (b.1 - a.1) * (c.2 - a.2) /\ (b.1 - a.1) * (c.2 - a.2) <= 1125899906842624) /\ (-1125899906842624 <= (b.2 - a.2) * (c.1 - a.1) /\ (b.2 - a.2) * (c.1 - a.1) <= 1125899906842624):=by
 have:=cm ha
 have:=cm hb
 have:=cm hc
 exact ⟨fo (k:=33554432) (l:=33554432) (by omega) (by omega) (by omega) (by omega),fo (k:=33554432) (l:=33554432) (by omega) (by omega) (by omega) (by omega)⟩
abbrev Tri:=Pnt × Pnt × Pnt
def ci (t : Tri) : List D:=[.int .i64 t.1.1,.int .i64 t.1.2,.int .i64 t.2.1.1,.int .i64 t.2.1.2,.int .i64 t.2.2.1,.int .i64 t.2.2.2]
def okT (t : Tri) : Bool:=okP t.1 && okP t.2.1 && okP t.2.2
def ni (t : Tri) : Int:=ao t.1 t.2.1 t.2.2
def iv (p q : Pnt) (u : Tri) : Bool:=ao p q u.1 <= 0 && ao p q u.2.1 <= 0 && ao p q u.2.2 <= 0
def pt (t u : Tri) : Bool:=iv t.1 t.2.1 u || iv t.2.1 t.2.2 u || iv t.2.2 t.1 u
def ovT (t u : Tri) : Bool:=!pt t u && !pt u t
def aQ (m : Msh) (f : Fce) : Tri:=(ptS (spt m f.a.toNat),ptS (spt m f.b.toNat),ptS (spt m f.c.toNat))
def crn (f : Fce) : Nat -> Int
 | 0=>f.a
 | 1=>f.b
 | 2=>f.c
 | 3=>f.a
 | 4=>f.b
 | _=>f.c
def fQ (n : Nat) (a : Int) : Bool:=0 <= a && a < n
def inS (m : Msh) (f : Fce) : Bool:=fQ m.s.length f.a && fQ m.s.length f.b && fQ m.s.length f.c
theorem ki {m : Msh} {f : Fce} (h : inS m f=true) : (0 <= f.a /\ f.a.toNat < m.s.length) /\ (0 <= f.b /\ f.b.toNat < m.s.length) /\ (0 <= f.c /\ f.c.toNat < m.s.length):=by
 simp only [inS,fQ,Bool.and_eq_true,decide_eq_true_eq] at h
 omega
variable {C : CC} (hC : aA prog C)
include hC
theorem fp (p : Pnt) : C 313 [.agg (ptD p)] (.bool (okP p)) []:=by
 refine start hC (nf:=N313) rfl rfl ?_
 simp [N313,ptD,okP]
 repeat' (refine al (fun h=>?_) (fun h=>?_) <;> simp at h <;> simp [h] <;> try omega)
theorem uC (s : Spt) : C 303 [.agg (ft s)] (.bool (aW s)) []:=by
 have k:=fp hC (s.x,s.y)
 simp [ptD,okP] at k
 refine start hC (nf:=N303) rfl rfl ?_
 simp [N303,ft,aW]
 refine aa k (.inl rfl) ?_
 simp
 repeat' (refine al (fun h=>?_) (fun h=>?_) <;> simp at h <;> simp [h] <;> try omega)
theorem rk (s : Spt) : C 289 [.agg (ft s)] (.bool (aW s)) []:=by
 refine start hC (nf:=N289) rfl rfl ?_
 simp [N289,ft,aW]
 repeat' (refine al (fun h=>?_) (fun h=>?_) <;> simp at h <;> simp [h] <;> try omega)
theorem jM (s : Spt) : C 291 [.agg (ft s)] (.agg (ptD (ptS s))) []:=by
 refine start hC (nf:=N291) rfl rfl ?_
 simp [N291,ft,ptD,ptS]
theorem o7 (m : Msh) : C 302 [.agg (aY m)] (.bool (decide (m.s.length <= 2000) && decide (m.f.length <= 4000))) []:=by
 refine start hC (nf:=N302) rfl rfl ?_
 simp [N302,aY]
 refine al (fun h=>?_) (fun h=>?_) <;> simp at h <;> simp [h]
 ·rw [decide_eq_true (show m.s.length <= 2000 by omega)]
  simp
  exact Iff.intro (fun h2=>by omega) (fun h2=>by omega)
 ·omega
theorem uZ (m : Msh) : C 257 [.agg (aY m)] (.bool (decide (m.s.length <= 2000) && decide (m.f.length <= 4000))) []:=by
 refine start hC (nf:=N257) rfl rfl ?_
 simp [N257,aY]
 refine al (fun h=>?_) (fun h=>?_) <;> simp at h <;> simp [h]
 ·rw [decide_eq_true (show m.s.length <= 2000 by omega)]
  simp
  exact Iff.intro (fun h2=>by omega) (fun h2=>by omega)
 ·omega
theorem jG (m : Msh) (i : Nat) (h : i < m.s.length) : C 304 [.agg (aY m),.int .i64 i] (.agg (ptD (ptS (spt m i)))) []:=by
 refine start hC (nf:=N304) rfl rfl ?_
 simp [N304,aY,h,bq,ptD,ptS]
 exact ah (by decide +kernel)
theorem lS (f : Fce) : C 305 [.agg (bx f)] (.agg [.int .i64 f.a,.int .i64 f.b,.int .i64 f.c]) []:=by
 refine start hC (nf:=N305) rfl rfl ?_
 simp [N305,bx]
theorem xf (f : Fce) (k : Nat) (hk : k < 3) : C 298 [.agg (bx f),.int .i64 k] (.agg [.int .i64 (crn f k),.int .i64 (crn f (k + 1))]) []:=by
 have k1:=lS hC f
 refine start hC (nf:=N298) rfl rfl ?_
 rw [bx] at k1 ⊢
 simp [N298]
 refine aa k1 (.inl rfl) ?_
 have w : IntKind.wrap .i64 ((k : Int) + 1)=((k + 1 : Nat) : Int):=ae (by omega) (by omega)
 have w0 : IntKind.wrap .i64 1=1:=by decide
 have w1 : IntKind.wrap .i64 2=2:=by decide
 have w2 : IntKind.wrap .i64 3=3:=by decide
 rcases (by omega : k=0 \/ k=1 \/ k=2) with rfl | rfl | rfl <;> simp [crn,w0,w1,w2] <;> exact ah (by decide +kernel)
theorem rf {a b c : Pnt} (ha : okP a=true) (hb : okP b=true) (hc : okP c=true) : C 308 [.agg (ptD a),.agg (ptD b),.agg (ptD c)] (.int .i64 (ao a b c)) []:=by
 have:=cm ha
 have:=cm hb
 have:=cm hc
 have h4:=jS ha hb hc
 refine start hC (nf:=N308) rfl rfl ?_
 have w1 : IntKind.wrap .i64 (b.1 - a.1)=b.1 - a.1:=ae rfl (by omega)
 have w2 : IntKind.wrap .i64 (c.2 - a.2)=c.2 - a.2:=ae rfl (by omega)
 have w3 : IntKind.wrap .i64 (b.2 - a.2)=b.2 - a.2:=ae rfl (by omega)
 have w4 : IntKind.wrap .i64 (c.1 - a.1)=c.1 - a.1:=ae rfl (by omega)
 have w5 : IntKind.wrap .i64 ((b.1 - a.1) * (c.2 - a.2))=(b.1 - a.1) * (c.2 - a.2):=ae rfl (by omega)
 have w6 : IntKind.wrap .i64 ((b.2 - a.2) * (c.1 - a.1))=(b.2 - a.2) * (c.1 - a.1):=ae rfl (by omega)
 have w7 : IntKind.wrap .i64 ((b.1 - a.1) * (c.2 - a.2) - (b.2 - a.2) * (c.1 - a.1))=ao a b c:=ae rfl (by rw [ao];omega)
 simp [N308,ptD,w1,w2,w3,w4,w5,w6,w7]
theorem d6 {a b c : Pnt} (ha : okP a=true) (hb : okP b=true) (hc : okP c=true) : C 286 [.agg (ptD a),.agg (ptD b),.agg (ptD c)] (.int .i64 (ao a b c)) []:=by
 have:=cm ha
 have:=cm hb
 have:=cm hc
 have h4:=jS ha hb hc
 refine start hC (nf:=N286) rfl rfl ?_
 have w1 : IntKind.wrap .i64 (b.1 - a.1)=b.1 - a.1:=ae rfl (by omega)
 have w2 : IntKind.wrap .i64 (c.2 - a.2)=c.2 - a.2:=ae rfl (by omega)
 have w3 : IntKind.wrap .i64 (b.2 - a.2)=b.2 - a.2:=ae rfl (by omega)
 have w4 : IntKind.wrap .i64 (c.1 - a.1)=c.1 - a.1:=ae rfl (by omega)
 have w5 : IntKind.wrap .i64 ((b.1 - a.1) * (c.2 - a.2))=(b.1 - a.1) * (c.2 - a.2):=ae rfl (by omega)
 have w6 : IntKind.wrap .i64 ((b.2 - a.2) * (c.1 - a.1))=(b.2 - a.2) * (c.1 - a.1):=ae rfl (by omega)
 have w7 : IntKind.wrap .i64 ((b.1 - a.1) * (c.2 - a.2) - (b.2 - a.2) * (c.1 - a.1))=ao a b c:=ae rfl (by rw [ao];omega)
 simp [N286,ptD,w1,w2,w3,w4,w5,w6,w7]
theorem Bj (m : Msh) (f : Fce) (h : inS m f=true) : C 307 [.agg (aY m),.agg (bx f)] (.agg (ci (aQ m f))) []:=by
 obtain ⟨⟨a1,a2⟩,⟨b1,b2⟩,⟨c1,c2⟩⟩:=ki h
 have ka:=jG hC m f.a.toNat a2
 have kb:=jG hC m f.b.toNat b2
 have kc:=jG hC m f.c.toNat c2
 rw [Int.toNat_of_nonneg a1] at ka
 rw [Int.toNat_of_nonneg b1] at kb
 rw [Int.toNat_of_nonneg c1] at kc
 refine start hC (nf:=N307) rfl rfl ?_
 rw [aY] at ka kb kc ⊢
 simp [N307,bx]
 simp [ptD] at ka kb kc
 refine aa ka (.inl rfl) ?_
 simp
 refine aa kb (.inl rfl) ?_
 simp
 refine aa kc (.inl rfl) ?_
 simp [ci,aQ]
 exact ah (by decide +kernel)
theorem m9 (f : Fce) (k : Nat) (hk : k < 4) : C 323 [.agg (bx f),.int .i64 k] (.int .i64 (crn f k)) []:=by
 refine start hC (nf:=N323) rfl rfl ?_
 rcases (by omega : k=0 \/ k=1 \/ k=2 \/ k=3) with rfl | rfl | rfl | rfl <;> simp [N323,bx,crn] <;> (refine nT (r:=[.int .i64 _]) rfl (by simp) ?_;simp)
theorem nU (m : Msh) (f : Fce) (h : inS m f=true) : C 285 [.agg (aY m),.agg (bx f)] (.sl [ptD (aQ m f).1,ptD (aQ m f).2.1,ptD (aQ m f).2.2]) []:=by
 obtain ⟨⟨a1,a2⟩,⟨b1,b2⟩,⟨c1,c2⟩⟩:=ki h
 have ka:=jM hC (spt m f.a.toNat)
 have kb:=jM hC (spt m f.b.toNat)
 have kc:=jM hC (spt m f.c.toNat)
 rw [ft] at ka kb kc
 refine start hC (nf:=N285) rfl rfl ?_
 simp [N285,bx,aY,a1,a2,bq]
 refine aa ka (.inl rfl) ?_
 simp [b1,b2,bq]
 refine aa kb (.inl rfl) ?_
 simp [c1,c2,bq]
 refine aa kc (.inl rfl) ?_
 simp [aQ,ptD]
 exact ah (by decide +kernel)
end Go.Gv

namespace Go.Gv
def onG (a b p : Pnt) : Bool:=decide (ao a b p=0) && decide (min a.1 b.1 <= p.1) && decide (p.1 <= max a.1 b.1) && decide (min a.2 b.2 <= p.2) && decide (p.2 <= max a.2 b.2)
def apG (a b p q : Pnt) : Bool:=(decide (ao a b p < 0) && decide (0 < ao a b q)) || (decide (0 < ao a b p) && decide (ao a b q < 0))
end Go.Gv

namespace Go.Gv
open Go.Lib Go.Sort Go.Proofs
abbrev Fnd:=Int × List UInt8
def PL (x : Fnd) : List D:=[.int .i64 x.1,.str x.2]
structure TC {α : Type} (c : α -> α -> Int) : Prop where
 eq0 : ∀ x y,c x y=0 -> x=y
 anti : ∀ x y,c y x=- c x y
 trans : ∀ x y z,c x y < 0 -> c y z < 0 -> c x z < 0
section
variable {α : Type} {c : α -> α -> Int}
theorem TC.refl (h : TC c) (x : α) : c x x=0:=by have:=h.anti x x;omega
theorem TC.swo (h : TC c) : SWO (ltOf c) where
 irrefl x:=by simp [ltOf,h.refl x]
 trans x y z h1 h2:=by
  simp only [ltOf,decide_eq_true_eq] at *
  exact h.trans x y z h1 h2
 ntrans x y z h1 h2:=by
  simp only [ltOf,decide_eq_false_iff_not] at *
  by_cases e1 : c x y=0
  ·rw [h.eq0 _ _ e1];exact h2
  by_cases e2 : c y z=0
  ·rw [<- h.eq0 _ _ e2];exact h1
  have a1:=h.anti x y
  have a2:=h.anti y z
  have a3:=h.anti x z
  have:=h.trans z y x (by omega) (by omega)
  omega
theorem TC.tot (h : TC c) (x y : α) (h1 : (ltOf c) x y=false) (h2 : (ltOf c) y x=false) : x=y:=by
 simp only [ltOf,decide_eq_false_iff_not] at *
 have:=h.anti x y
 exact h.eq0 x y (by omega)
end
def Gw (a b : Int) : Int:=if a < b then -1 else if b < a then 1 else 0
def PJ (x y : Fnd) : Int:=if Gw x.1 y.1=0 then compareBytes x.2 y.2 else Gw x.1 y.1
section
variable {α : Type} {c : α -> α -> Int}
def gR (c : α -> α -> Int) (l : List α) : Prop:=l.Pairwise fun x y=>c x y < 0
theorem gR.unique (h : TC c) : ∀ {l l' : List α},gR c l -> gR c l' -> (∀ x,x ∈ l ↔ x ∈ l') -> l=l'
 | [],[],_,_,_=>rfl
 | [],y::_,_,_,hm=>absurd ((hm y).2 (by simp)) (by simp)
 | x::_,[],_,_,hm=>absurd ((hm x).1 (by simp)) (by simp)
 | x::l,y::l',hs,hs',hm=>by
  obtain ⟨a1,a2⟩:=List.pairwise_cons.1 hs
  obtain ⟨b1,b2⟩:=List.pairwise_cons.1 hs'
  have e : x=y:=by
   rcases List.mem_cons.1 ((hm x).1 (by simp)) with e | e
   ·exact e
   ·rcases List.mem_cons.1 ((hm y).2 (by simp)) with e' | e'
    ·exact e'.symm
    ·have h1:=b1 x e
     have h2:=a1 y e'
     have:=h.anti x y
     omega
  subst e
  rw [gR.unique h a2 b2 (fun z=>⟨fun hz=>?_,fun hz=>?_⟩)]
  ·rcases List.mem_cons.1 ((hm z).1 (by simp [hz])) with e | e
   ·subst e;have:=a1 z hz;have:=h.refl z;omega
   ·exact e
  ·rcases List.mem_cons.1 ((hm z).2 (by simp [hz])) with e | e
   ·subst e;have:=b1 z hz;have:=h.refl z;omega
   ·exact e
def ddL [DecidableEq α] : List α -> List α
 | []=>[]
 | [x]=>[x]
 | x::y::r=>if x=y then ddL (y::r) else x::ddL (y::r)
theorem fW [DecidableEq α] (x y : α) (r : List α) : ddL (x::y::r)=if x=y then ddL (y::r) else x::ddL (y::r):=rfl
theorem nx [DecidableEq α] : ∀ (l : List α) (x : α),x ∈ ddL l ↔ x ∈ l
 | [],x=>by simp [ddL]
 | [y],x=>by simp [ddL]
 | y::z::r,x=>by
  rw [fW]
  have ih:=nx (z::r) x
  by_cases e : y=z
  ·rw [if_pos e,ih];subst e;simp
  ·rw [if_neg e,List.mem_cons,ih];simp
theorem qS [DecidableEq α] (h : TC c) : ∀ {l : List α},(l.Pairwise fun x y=>¬ c y x < 0) -> gR c (ddL l)
 | [],_=>List.Pairwise.nil
 | [y],_=>by simp [ddL,gR]
 | y::z::r,hp=>by
  obtain ⟨a1,a2⟩:=List.pairwise_cons.1 hp
  have ih:=qS h a2
  rw [fW]
  by_cases e : y=z
  ·rw [if_pos e];exact ih
  ·rw [if_neg e]
   refine List.pairwise_cons.2 ⟨fun w hw=>?_,ih⟩
   have hw2:=(nx _ _).1 hw
   have h1:=a1 w hw2
   have hyz : c y z < 0:=by
    have h2:=a1 z (by simp)
    have h3:=h.anti y z
    have : c y z ≠ 0:=fun e'=>e (h.eq0 _ _ e')
    omega
   rcases List.mem_cons.1 hw2 with e1 | e1
   ·subst e1;exact hyz
   ·have h4:=(List.pairwise_cons.1 a2).1 w e1
    have h5:=h.anti z w
    by_cases e2 : c z w=0
    ·rw [<- h.eq0 _ _ e2];exact hyz
    ·exact h.trans y z w hyz (by omega)
def lm (c : α -> α -> Int) (l : List α) : List α:=l.mergeSort fun x y=>!(ltOf c) y x
theorem vq {l : List α} {x : α} : x ∈ lm c l ↔ x ∈ l:=by unfold lm;exact List.mem_mergeSort
theorem iy {l : List α} : (lm c l).length=l.length:=by unfold lm;exact List.length_mergeSort l
theorem x8 (h : TC c) (l : List α) : (lm c l).Pairwise fun x y=>¬ c y x < 0:=by
 have h1:=List.pairwise_mergeSort (le:=fun x y : α=>!(ltOf c) y x) (fun a b d h1 h2=>by
  simp only [Bool.not_eq_true'] at *
  exact h.swo.ntrans _ _ _ h2 h1) (fun a b=>by
  simp only [Bool.or_eq_true,Bool.not_eq_true',ltOf,decide_eq_false_iff_not]
  have:=h.anti a b
  omega) l
 exact h1.imp fun {x y} hxy=>by simpa [ltOf] using hxy
def lD [DecidableEq α] (c : α -> α -> Int) (l : List α) : List α:=ddL (lm c l)
theorem ol [DecidableEq α] {l : List α} {x : α} : x ∈ lD c l ↔ x ∈ l:=by unfold lD;rw [nx,vq]
theorem gU [DecidableEq α] (h : TC c) (l : List α) : gR c (lD c l):=qS h (x8 h l)
theorem qQ [DecidableEq α] (h : TC c) {l l' : List α} (hs : gR c l') (hm : ∀ x,x ∈ l ↔ x ∈ l') : lD c l=l':=(gU h l).unique h hs fun x=>by rw [ol];exact hm x
def l7 (c : α -> α -> Int) (l : List α) (x : α) : List α:=l.filter (fun y=>decide (c y x < 0))++x::l.filter (fun y=>decide (c x y < 0))
theorem jL (h : TC c) {l : List α} {x y : α} : y ∈ l7 c l x ↔ y ∈ l \/ y=x:=by
 unfold l7
 simp only [List.mem_append,List.mem_filter,List.mem_cons,decide_eq_true_eq]
 constructor
 ·rintro (h1 | h1 | h1)
  ·exact .inl h1.1
  ·exact .inr h1
  ·exact .inl h1.1
 ·rintro (h1 | h1)
  ·by_cases e : c y x=0
   ·exact .inr (.inl (h.eq0 _ _ e))
   ·have:=h.anti y x
    by_cases e2 : c y x < 0
    ·exact .inl ⟨h1,e2⟩
    ·exact .inr (.inr ⟨h1,by omega⟩)
  ·exact .inr (.inl h1)
theorem l9 (h : TC c) {l : List α} (hs : gR c l) (x : α) : gR c (l7 c l x):=by
 unfold l7
 refine List.pairwise_append.2 ⟨hs.sublist List.filter_sublist,List.pairwise_cons.2 ⟨fun y hy=>?_,hs.sublist List.filter_sublist⟩,fun a ha b hb=>?_⟩
 ·simpa using (List.mem_filter.1 hy).2
 ·have h1 : c a x < 0:=by simpa using (List.mem_filter.1 ha).2
  rcases List.mem_cons.1 hb with rfl | hb
  ·exact h1
  ·exact h.trans _ _ _ h1 (by simpa using (List.mem_filter.1 hb).2)
theorem xp (h : TC c) {l : List α} (hs : gR c l) {x : α} (hx : x ∈ l) : l7 c l x=l:=(l9 h hs x).unique h hs fun y=>by rw [jL h];exact ⟨fun h1=>h1.elim id (fun e=>e ▸ hx),.inl⟩
end
end Go.Gv

namespace Go.Gv
def Frq : Type:={ q : Int × Int // 0 < q.2 /\ q.2 <= 1073741824 /\ -1073741824 <= q.1 /\ q.1 <= 1073741824 /\ Nat.gcd q.1.natAbs q.2.natAbs=1 }
instance : DecidableEq Frq:=fun a b=>decidable_of_iff (a.1=b.1) Subtype.ext_iff.symm
def fqC (x y : Frq) : Int:=if x.1.1 * y.1.2 < y.1.1 * x.1.2 then -1 else if y.1.1 * x.1.2 < x.1.1 * y.1.2 then 1 else 0
theorem F6 {a b c d : Int} (hb : 0 < b) (hd : 0 < d) (h1 : Nat.gcd a.natAbs b.natAbs=1) (h2 : Nat.gcd c.natAbs d.natAbs=1) (e : a * d=c * b) : a=c /\ b=d:=by
 have e1 : a.natAbs * d.natAbs=c.natAbs * b.natAbs:=by rw [<- Int.natAbs_mul,<- Int.natAbs_mul,e]
 have d1 : b.natAbs ∣ d.natAbs:=(Nat.Coprime.symm h1 : Nat.Coprime b.natAbs a.natAbs).dvd_of_dvd_mul_left (by rw [e1];exact Nat.dvd_mul_left _ _)
 have d2 : d.natAbs ∣ b.natAbs:=(Nat.Coprime.symm h2 : Nat.Coprime d.natAbs c.natAbs).dvd_of_dvd_mul_left (by rw [<- e1];exact Nat.dvd_mul_left _ _)
 have e3 : b=d:=by have:=Nat.dvd_antisymm d1 d2;omega
 subst e3
 exact ⟨Int.eq_of_mul_eq_mul_right (by omega) e,rfl⟩
theorem cV : TC fqC where
 eq0 x y h:=by
  unfold fqC at h
  split at h
  ·omega
  ·split at h
   ·omega
   ·obtain ⟨e1,e2⟩:=F6 x.2.1 y.2.1 x.2.2.2.2.2 y.2.2.2.2.2 (by omega)
    exact Subtype.ext (Prod.ext e1 e2)
 anti x y:=by
  unfold fqC
  by_cases h1 : x.1.1 * y.1.2 < y.1.1 * x.1.2
  ·have h2 : ¬ y.1.1 * x.1.2 < x.1.1 * y.1.2:=by omega
   rw [if_neg h2,if_pos h1,if_pos h1];rfl
  ·by_cases h2 : y.1.1 * x.1.2 < x.1.1 * y.1.2
   ·rw [if_pos h2,if_neg h1,if_pos h2]
   ·rw [if_neg h2,if_neg h1,if_neg h1,if_neg h2];rfl
 trans x y z h1 h2:=by
  have a1 : x.1.1 * y.1.2 < y.1.1 * x.1.2:=by unfold fqC at h1;split at h1 <;> first | assumption | (split at h1 <;> omega)
  have a2 : y.1.1 * z.1.2 < z.1.1 * y.1.2:=by unfold fqC at h2;split at h2 <;> first | assumption | (split at h2 <;> omega)
  have px:=x.2.1
  have py:=y.2.1
  have pz:=z.2.1
  have b1:=Int.mul_lt_mul_of_pos_right a1 pz
  have b2:=Int.mul_lt_mul_of_pos_right a2 px
  have b3 : (x.1.1 * z.1.2) * y.1.2 < (z.1.1 * x.1.2) * y.1.2:=by
   have e1 : x.1.1 * y.1.2 * z.1.2=(x.1.1 * z.1.2) * y.1.2:=by grind
   have e2 : y.1.1 * x.1.2 * z.1.2=y.1.1 * z.1.2 * x.1.2:=by grind
   have e3 : z.1.1 * y.1.2 * x.1.2=(z.1.1 * x.1.2) * y.1.2:=by grind
   omega
  have b4:=Int.lt_of_mul_lt_mul_right b3 (Int.le_of_lt py)
  unfold fqC
  rw [if_pos b4]
  omega
def cR (num den : Int) : Int × Int:=if den < 0 then (-num,-den) else (num,den)
def cA (num den : Int) : Int :=
 if den=0 then 16 else if (cR num den).1 < 0 \/ (cR num den).2 < (cR num den).1 then 2
 else if 1073741824 < (cR num den).1 / Nat.gcd (cR num den).1.natAbs (cR num den).2.natAbs \/ 1073741824 < (cR num den).2 / Nat.gcd (cR num den).1.natAbs (cR num den).2.natAbs then 5 else 0
def cy (num den : Int) : Int × Int:=if cA num den=0 then ((cR num den).1 / Nat.gcd (cR num den).1.natAbs (cR num den).2.natAbs,(cR num den).2 / Nat.gcd (cR num den).1.natAbs (cR num den).2.natAbs) else (0,0)
theorem wS {n d : Int} (hn : 0 <= n) (hd : 0 < d) : Nat.gcd (n / Nat.gcd n.natAbs d.natAbs).natAbs (d / Nat.gcd n.natAbs d.natAbs).natAbs=1 /\ 0 < d / Nat.gcd n.natAbs d.natAbs:=by
 have g0 : 0 < Nat.gcd n.natAbs d.natAbs:=Nat.gcd_pos_of_pos_right _ (by omega)
 obtain ⟨a,rfl⟩:=Int.eq_ofNat_of_zero_le hn
 obtain ⟨b,rfl⟩:=Int.eq_ofNat_of_zero_le (Int.le_of_lt hd)
 simp only [Int.natAbs_natCast] at *
 have e1 : ((a : Int) / (Nat.gcd a b : Nat)).natAbs=a / Nat.gcd a b:=by rw [<- Int.natCast_ediv,Int.natAbs_natCast]
 have e2 : ((b : Int) / (Nat.gcd a b : Nat)).natAbs=b / Nat.gcd a b:=by rw [<- Int.natCast_ediv,Int.natAbs_natCast]
 have e3:=Nat.div_pos (Nat.le_of_dvd (by omega) (Nat.gcd_dvd_right a b)) g0
 exact ⟨by rw [e1,e2];exact Nat.coprime_div_gcd_div_gcd g0,by rw [<- Int.natCast_ediv];omega⟩
theorem jh {num den : Int} (h : cA num den=0) : (0 < (cy num den).2 /\ (cy num den).2 <= 1073741824 /\ -1073741824 <= (cy num den).1 /\ (cy num den).1 <= 1073741824 /\ Nat.gcd (cy num den).1.natAbs (cy num den).2.natAbs=1) /\ 0 <= (cy num den).1 /\ (cy num den).1 <= (cy num den).2:=by
 have h':=h
 unfold cA at h'
 split at h'
 ·omega
 ·rename_i c0
  split at h'
  ·omega
  ·rename_i c1
   split at h'
   ·omega
   ·rename_i c2
    have hd : 0 < (cR num den).2:=by
     unfold cR;split <;> simp <;> omega
    have hn : 0 <= (cR num den).1:=by omega
    obtain ⟨g1,g2⟩:=wS hn hd
    unfold cy
    rw [if_pos h]
    have g0 : 0 < Nat.gcd (cR num den).1.natAbs (cR num den).2.natAbs:=Nat.gcd_pos_of_pos_right _ (by omega)
    have hle : (cR num den).1 / Nat.gcd (cR num den).1.natAbs (cR num den).2.natAbs <= (cR num den).2 / Nat.gcd (cR num den).1.natAbs (cR num den).2.natAbs:=Int.ediv_le_ediv (by omega) (by omega)
    have h0 : 0 <= (cR num den).1 / Nat.gcd (cR num den).1.natAbs (cR num den).2.natAbs:=Int.ediv_nonneg hn (by omega)
    simp only
    exact ⟨⟨g2,by omega,by omega,by omega,g1⟩,h0,hle⟩
theorem tD {x y : Int} (h : (x < 0 /\ 0 < y) \/ (0 < x /\ y < 0)) : cA x (x - y)=cA y (y - x) /\ (cA x (x - y)=0 \/ cA x (x - y)=5) /\ (cA x (x - y)=0 -> cy y (y - x)=((cy x (x - y)).2 - (cy x (x - y)).1,(cy x (x - y)).2)):=by
 obtain ⟨n,d,hn,hd,e1,e2,z1,z2⟩ : ∃ n d : Int,0 < n /\ n < d /\ cR x (x - y)=(n,d) /\ cR y (y - x)=(d - n,d) /\ x - y ≠ 0 /\ y - x ≠ 0:=by
  unfold cR
  rcases h with h | h
  ·refine ⟨-x,y - x,by omega,by omega,?_,?_,by omega,by omega⟩
   ·rw [if_pos (by omega)];congr 1;omega
   ·rw [if_neg (by omega)];congr 1;omega
  ·refine ⟨x,x - y,by omega,by omega,?_,?_,by omega,by omega⟩
   ·rw [if_neg (by omega)]
   ·rw [if_pos (by omega)];congr 1 <;> omega
 have hg : Nat.gcd (d - n).natAbs d.natAbs=Nat.gcd n.natAbs d.natAbs:=by
  obtain ⟨a,rfl⟩:=Int.eq_ofNat_of_zero_le (Int.le_of_lt hn)
  obtain ⟨b,rfl⟩:=Int.eq_ofNat_of_zero_le (show 0 <= d by omega)
  have e : ((b : Int) - a).natAbs=b - a:=by omega
  rw [e,Int.natAbs_natCast,Int.natAbs_natCast]
  rw [Nat.gcd_comm (b - a) b,Nat.gcd_self_sub_right (by omega),Nat.gcd_comm]
 have g0 : 0 < Nat.gcd n.natAbs d.natAbs:=Nat.gcd_pos_of_pos_right _ (by omega)
 have dn : ((Nat.gcd n.natAbs d.natAbs : Nat) : Int) ∣ n:=Int.ofNat_dvd_left.2 (Nat.gcd_dvd_left _ _)
 have dd : ((Nat.gcd n.natAbs d.natAbs : Nat) : Int) ∣ d:=Int.ofNat_dvd_left.2 (Nat.gcd_dvd_right _ _)
 have hs : (d - n) / ((Nat.gcd n.natAbs d.natAbs : Nat) : Int)=d / ((Nat.gcd n.natAbs d.natAbs : Nat) : Int) - n / ((Nat.gcd n.natAbs d.natAbs : Nat) : Int):=Int.sub_ediv_of_dvd _ dn
 have hle : n / ((Nat.gcd n.natAbs d.natAbs : Nat) : Int) <= d / ((Nat.gcd n.natAbs d.natAbs : Nat) : Int):=Int.ediv_le_ediv (by omega) (by omega)
 have h0 : 0 <= n / ((Nat.gcd n.natAbs d.natAbs : Nat) : Int):=Int.ediv_nonneg (by omega) (by omega)
 have f1 : cA x (x - y)=if 1073741824 < d / ((Nat.gcd n.natAbs d.natAbs : Nat) : Int) then 5 else 0:=by
  unfold cA
  rw [if_neg z1,e1]
  simp only
  rw [if_neg (by omega)]
  by_cases c : 1073741824 < d / ((Nat.gcd n.natAbs d.natAbs : Nat) : Int)
  ·rw [if_pos (.inr c),if_pos c]
  ·rw [if_neg (by omega),if_neg c]
 have f2 : cA y (y - x)=if 1073741824 < d / ((Nat.gcd n.natAbs d.natAbs : Nat) : Int) then 5 else 0:=by
  unfold cA
  rw [if_neg z2,e2]
  simp only
  rw [if_neg (by omega),hg,hs]
  by_cases c : 1073741824 < d / ((Nat.gcd n.natAbs d.natAbs : Nat) : Int)
  ·rw [if_pos (.inr c),if_pos c]
  ·rw [if_neg (by omega),if_neg c]
 refine ⟨by rw [f1,f2],by rw [f1];split <;> simp,fun h0=>?_⟩
 have h00 : cA y (y - x)=0:=by rw [f2,<- f1];exact h0
 unfold cy
 rw [if_pos h0,if_pos h00,e1,e2]
 simp only
 rw [hg,hs]
end Go.Gv
