/-
  Texts of the proof: GvR, GvEtr, GvN, ItJ, GvT, GvT5, GvT6, GvU, K1, K3, GvW, GvX, H1, J1, A1, J2.
-/
import Derived.Test.YteaonmajblajnaaGreatDoorX4
import Derived.SizedLaws
import Derived.ProofKit
import Derived.Test.YteaonmajblajnaaGreatDoorX5
import Derived.Test.YteaonmajblajnaaGreatDoorProg
import Derived.KernelRfl
import Derived.Shelf.Small.Bits
import Derived.Shelf.Small.Wraps
import Derived.Shelf.Strconv.Itoa0
import Derived.Shelf.Strconv.Itoa1
import Derived.Shelf.LaysM
import Derived.Shelf.Strconv.Itoa2
import Derived.Shelf.Strconv.Itoa3
import Derived.Shelf.Bits.Mul64
import Derived.Shelf.Slices.Turned
import Derived.Shelf.Slices.Equal
import Derived.Ground.Names2Prog
import Derived.Shelf.Slices.SearchI
import Derived.Shelf.Slices.Empties2
import Derived.Ground.SlsfProg
import Derived.Shelf.SlSortCmp.NoneTotal
import Derived.Sort.Row
import Derived.Sort.Grow
import Derived.Shelf.SlSortCmp.WholeK
import Derived.Shelf.Small.Strs
import Derived.Lib.Bytealg
import Derived.Shelf.SlSortCmp.Insertion
set_option linter.all false
namespace Go.Gv
open Go.RowKit Go.ChangeShapes Go.WideShapes Go.ChangeAt
inductive Sh where
 | int (k : IntKind)
 | bool
 | str
 | sl (row : List Sh)
mutual
def gH : Sh -> D -> Prop
 | .int k,d=>∃ n,d=.int k n /\ (Lit.int k n).wf=true
 | .bool,d=>∃ b,d=.bool b
 | .str,d=>∃ s,d=.str s /\ s.length < 140737488355328
 | .sl row,d=>∃ es,(d=.sl es \/ (d=.nils /\ es=[])) /\ es.length < 140737488355328 /\ ∀ e ∈ es,ca row e
def ca : List Sh -> List D -> Prop
 | [],ds=>ds=[]
 | s::ss,ds=>∃ d r,ds=d::r /\ gH s d /\ ca ss r
end
theorem ca.length : ∀ {ss : List Sh} {ds : List D},ca ss ds -> ds.length=ss.length
 | [],ds,h=>by simp only [ca] at h;simp [h]
 | s::ss,ds,h=>by
  simp only [ca] at h
  obtain ⟨d,r,rfl,_,h2⟩:=h
  simp [ca.length h2]
theorem ca.append : ∀ {ss ts : List Sh} {ds es : List D},ca ss ds -> ca ts es -> ca (ss++ts) (ds++es)
 | [],ts,ds,es,h,h'=>by simp only [ca] at h;subst h;exact h'
 | s::ss,ts,ds,es,h,h'=>by
  simp only [ca] at h
  obtain ⟨d,r,rfl,h1,h2⟩:=h
  exact ⟨d,r++es,rfl,h1,ca.append h2 h'⟩
def nL (P : Program) (rec : TypeId -> Option (List Sh)) : List Field -> Nat -> Option (List Sh)
 | [],_=>some []
 | f::fs,off=>if f.offset=off then (match rec f.type with
   | some l=>if l.length=P.cellsOf f.type then (match nL P rec fs (off + l.length) with
    | some r=>some (l++r)
    | none=>none) else none
   | none=>none) else none
def og (P : Program) : Nat -> TypeId -> Option (List Sh)
 | 0,_=>none
 | n + 1,t=>match P.underlying t with
  | some .bool=>some [.bool]
  | some (.int k)=>some [.int k]
  | some .string=>some [.str]
  | some (.slice e)=>(match og P n e with
   | some l=>if l.length=P.cellsOf e /\ 1 <= P.bytesOf e then some [.sl l] else none
   | none=>none)
  | some (.struct fs)=>(match nL P (og P n) fs.toList 0 with
   | some l=>if l.length=P.cellsOf t then some l else none
   | none=>none)
  | _=>none
section
variable {H : Type} {enc : TypeId × Value -> H} {P : Program} {F : Fid} {w : World} {sp : Nat -> Bool}
abbrev mI (w : World) : Mem:=fun p=>w.cell? p
def tb (enc : TypeId × Value -> H) (P : Program) (F : Fid) (w : World) (sp : Nat -> Bool) (n : Nat) (t : TypeId) (shs : List Sh) : Prop :=
 ∀ (cs : List Value) (d : DataW H) (ps : List MemPlace),DataW.trod enc P w 0 sp true n t cs=some (d,ps) -> (d.weights P t).all (· <= reachBytes)=true -> ∃ ds,ca shs ds /\ ap F (mI w) ds cs
theorem gY {α β : Type} {f : α -> Option β} {x : α} {l : List α} {ys : List β} (h : (x::l).mapM f=some ys) : ∃ y r,f x=some y /\ l.mapM f=some r /\ ys=y::r:=by
 rw [List.mapM_cons] at h
 cases hx : f x with
 | none=>rw [hx] at h;cases h
 | some y =>
  cases hl : l.mapM f with
  | none=>rw [hx,hl] at h;cases h
  | some r =>
   rw [hx,hl] at h
   exact ⟨y,r,rfl,rfl,by cases h;rfl⟩
theorem lU {n m : Nat} (ih : ∀ t shs,og P m t=some shs -> tb enc P F w sp n t shs) {cs : List Value} : ∀ (fs : List Field) (off : Nat) (xs : List (DataW H × List MemPlace)) (shs : List Sh),
  (fs.mapM fun f=>DataW.trod enc P w 0 sp true n f.type ((cs.drop f.offset).take (P.cellsOf f.type)))=some xs -> nL P (og P m) fs off=some shs -> (DataW.weightsEach P (fs.map (·.type)) (xs.map (·.1))).all (· <= reachBytes)=true -> cs.length=off + shs.length ->
   ∃ ds,ca shs ds /\ ap F (mI w) ds (cs.drop off)
 | [],off,xs,shs,_,h2,_,h4=>by
  cases h2
  exact ⟨[],rfl,by simp only [ap];exact List.drop_of_length_le (by simpa using Nat.le_of_eq h4)⟩
 | f::fs,off,xs,shs,h1,h2,h3,h4=>by
  obtain ⟨y,r,e1,e2,rfl⟩:=gY h1
  simp only [nL] at h2
  split at h2
  case isFalse=>cases h2
  rename_i ho
  split at h2
  case h_2=>cases h2
  rename_i l hl
  split at h2
  case isFalse=>cases h2
  rename_i hlen
  split at h2
  case h_2=>cases h2
  rename_i rs hr
  cases h2
  simp only [List.map_cons,DataW.weightsEach,List.all_append,Bool.and_eq_true] at h3
  rw [List.length_append] at h4
  obtain ⟨ds1,g1,g2⟩:=ih f.type l hl _ y.1 y.2 e1 h3.1
  obtain ⟨ds2,g3,g4⟩:=lU ih fs (off + l.length) r rs e2 hr h3.2 (by omega)
  refine ⟨ds1++ds2,g1.append g3,?_⟩
  rw [ho,<- hlen] at g2
  have:=g2.append g4
  rwa [<- List.drop_drop,List.take_append_drop] at this
theorem lV {n k : Nat} {e : TypeId} {l : List Sh} {a : Addr} (hl : l.length=k) (ih : tb enc P F w sp n e l) : ∀ (c s : Nat) (xs : List (DataW H × List MemPlace)),
  ((List.range' s c).mapM fun i=>(w.cells? 0 (a.add (i * k)) k).bind (DataW.trod enc P w 0 sp true n e))=some xs -> (DataW.weightsAll P e (xs.map (·.1))).all (· <= reachBytes)=true ->
   ∃ (es : List (List D)) (vs : List Value),es.length=c /\ xs.length=c /\ (∀ r ∈ es,ca l r) /\ a8 F (mI w) es vs /\ ∀ j v,vs[j]? = some v -> w.cell? (a.add (s * k + j))=some v
 | 0,s,xs,h,_=>by
  cases h
  exact ⟨[],[],rfl,rfl,by simp,by simp [a8],fun j v h=>by simp at h⟩
 | c + 1,s,xs,h,hw=>by
  rw [List.range'_succ] at h
  obtain ⟨y,r,e1,e2,rfl⟩:=gY h
  rw [Option.bind_eq_some_iff] at e1
  obtain ⟨row,c1,c2⟩:=e1
  simp only [List.map_cons,DataW.weightsAll,List.all_append,Bool.and_eq_true] at hw
  obtain ⟨ds,g1,g2⟩:=ih row y.1 y.2 c2 hw.1
  obtain ⟨es,vs,h1,h2,h3,h4,h5⟩:=lV hl ih c (s + 1) r e2 hw.2
  have hrow:=World.cells?_some c1
  refine ⟨ds::es,row++vs,by simp [h1],by simp [h2],?_,⟨row,vs,rfl,g2,h4⟩,fun j v hj=>?_⟩
  ·intro x hx
   rcases List.mem_cons.1 hx with rfl | hx
   ·exact g1
   ·exact h3 x hx
  ·have hrl : row.length=k:=by rw [g2.length,g1.length,hl]
   have addadd : ∀ i j,(a.add i).add j=a.add (i + j):=fun i j=>by
    unfold Addr.add
    by_cases hi : i=0 <;> by_cases hj : j=0 <;> simp [hi,hj,Nat.add_assoc]
   by_cases hjk : j < k
   ·rw [List.getElem?_append_left (by omega)] at hj
    have:=hrow.2.2 j hjk
    rw [hj,addadd] at this
    exact this
   ·rw [List.getElem?_append_right (by omega)] at hj
    have:=h5 (j - row.length) v hj
    rw [hrl] at this
    rwa [show (s + 1) * k + (j - k)=s * k + j by rw [Nat.succ_mul];omega] at this
theorem od : ∀ (m : Nat) (n : Nat) (t : TypeId) (shs : List Sh),og P m t=some shs -> tb enc P F w sp n t shs
 | 0,_,_,_,h=>by cases h
 | m + 1,0,t,shs,_=>fun cs d ps h _=>by simp [DataW.trod] at h
 | m + 1,n + 1,t,shs,h=>by
  intro cs d ps ht hw
  rw [og] at h
  split at h
  ·rename_i hu
   cases h
   unfold DataW.trod at ht;rw [hu] at ht
   split at ht <;> try (simp_all;done)
   rename_i b _
   refine ⟨[.bool b],⟨_,_,rfl,⟨b,rfl⟩,rfl⟩,by simp [ap,af]⟩
  ·rename_i k hu
   cases h
   unfold DataW.trod at ht;rw [hu] at ht
   split at ht <;> try (simp_all;done)
   rename_i k1 k2 x h1
   simp only [Option.some.injEq,TypeDesc.int.injEq] at h1
   subst h1
   split at ht
   ·rename_i hk
    obtain ⟨rfl,hwf⟩:=hk
    exact ⟨[.int _ x],⟨_,_,rfl,⟨x,rfl,hwf⟩,rfl⟩,by simp [ap,af]⟩
   ·cases ht
  ·rename_i hu
   cases h
   unfold DataW.trod at ht;rw [hu] at ht
   split at ht <;> try (simp_all;done)
   rename_i s _
   split at ht
   ·rename_i hs
    simp only [Option.some.injEq,Prod.mk.injEq] at ht
    obtain ⟨rfl,rfl⟩:=ht
    simp only [DataW.weights,List.all_cons,List.all_nil,Bool.and_true,decide_eq_true_eq] at hw
    refine ⟨[.str s.data.toList],⟨_,_,rfl,⟨_,rfl,?_⟩,rfl⟩,?_⟩
    ·have:=reachBytes_lt;omega
    ·obtain ⟨s⟩:=s
     simp [ap,af]
   ·cases ht
  ·rename_i e hu
   split at h
   case h_2=>cases h
   rename_i l hl
   split at h
   case isFalse=>cases h
   rename_i hk
   cases h
   unfold DataW.trod at ht;rw [hu] at ht
   split at ht <;> try (simp_all;done)
   ·refine ⟨[.nils],⟨_,_,rfl,⟨[],.inr ⟨rfl,rfl⟩,by simp,by simp⟩,rfl⟩,by simp [ap,af]⟩
   ·rename_i e' a len cap h1
    simp only [Option.some.injEq,TypeDesc.slice.injEq] at h1
    subst h1
    simp only at ht
    split at ht
    case isFalse=>cases ht
    rename_i hb
    rw [Option.bind_eq_some_iff] at ht
    obtain ⟨xs,e1,e2⟩:=ht
    rw [Option.map_eq_some_iff] at e2
    obtain ⟨rest,e3,e4⟩:=e2
    simp only [Prod.mk.injEq] at e4
    obtain ⟨rfl,rfl⟩:=e4
    simp only [DataW.weights,hu,List.all_cons,List.all_append,Bool.and_eq_true,decide_eq_true_eq] at hw
    obtain ⟨w1,w2,w3⟩:=hw
    rw [List.range_eq_range'] at e1
    obtain ⟨es,vs,g1,g2,g3,g4,g5⟩:=lV (F:=F) hk.1 (od m n e l hl) len 0 xs e1 w2
    refine ⟨[.sl es],⟨_,_,rfl,⟨es,.inl rfl,?_,g3⟩,rfl⟩,?_⟩
    ·have h5:=reachBytes_lt
     have h6 : es.length * 1 <= (xs.length + rest.length) * P.bytesOf e:=Nat.mul_le_mul (by omega) hk.2
     simp only [List.length_map] at w1
     omega
    ·simp only [ap]
     refine ⟨_,_,rfl,?_,rfl⟩
     simp only [af]
     refine ⟨some a,cap,vs,P.cellsOf e,by rw [g1],by omega,g4,fun r hr=>by rw [(g3 r hr).length,hk.1],fun _=>⟨a,rfl,fun j v hj=>?_⟩⟩
     have:=g5 j v hj
     simpa using this
  ·rename_i fs hu
   split at h
   case h_2=>cases h
   rename_i l hl
   split at h
   case isFalse=>cases h
   rename_i hk
   cases h
   unfold DataW.trod at ht;rw [hu] at ht
   split at ht <;> try (simp_all;done)
   rename_i fs' h1
   simp only [Option.some.injEq,TypeDesc.struct.injEq] at h1
   subst h1
   split at ht
   case isFalse=>cases ht
   rename_i hc
   rw [Option.map_eq_some_iff] at ht
   obtain ⟨xs,e1,e2⟩:=ht
   simp only [Prod.mk.injEq] at e2
   obtain ⟨rfl,rfl⟩:=e2
   simp only [DataW.weights,hu] at hw
   obtain ⟨ds,g1,g2⟩:=lU (F:=F) (n:=n) (fun t shs h=>od m n t shs h) fs.toList 0 xs _ e1 hl hw (by omega)
   exact ⟨ds,g1,by simpa using g2⟩
  ·cases h
theorem iW {t : TypeId} {fs : Array Field} {m : Nat} {shs : List Sh} {base : Nat} {v : Value} {d : DataW H} {ps : List MemPlace} (hu : P.underlying t=some (.struct fs)) (hsh : og P m t=some shs) (hv : Value.okWide P w .any base t v) (h : DataW.Trod enc P w 0 sp true t v d ps) (hw : (d.weights P t).all (· <= reachBytes)=true) :
  ∃ ds,ca shs ds /\ af F (mI w) (.agg ds) v:=by
 obtain ⟨cs,rfl,_⟩:=okWide_struct hu hv
 obtain ⟨n,hn⟩:=h
 obtain ⟨ds,g1,g2⟩:=od (F:=F) m n t shs hsh _ d ps hn hw
 exact ⟨ds,g1,by simp only [af];exact ⟨cs.toList,by simp,g2⟩⟩
theorem qU {t : TypeId} {k : IntKind} {base : Nat} {v : Value} {d : DataW H} {ps : List MemPlace} (hu : P.underlying t=some (.int k)) (hv : Value.okWide P w .any base t v) (h : DataW.Trod enc P w 0 sp true t v d ps) :
  ∃ n,(Lit.int k n).wf=true /\ af F (mI w) (.int k n) v:=by
 obtain ⟨n,rfl,_,_,hw⟩:=open_int hu hv h
 exact ⟨n,hw,rfl⟩
end
theorem lZ {α : Type} {f : α -> List D} {es : List (List D)} (h : ∀ e ∈ es,∃ x,e=f x) : ∃ xs : List α,es=xs.map f:=by
 induction es with
 | nil=>exact ⟨[],rfl⟩
 | cons e es ih =>
  obtain ⟨x,rfl⟩:=h e (by simp)
  obtain ⟨xs,rfl⟩:=ih (fun e he=>h e (by simp [he]))
  exact ⟨x::xs,rfl⟩
end Go.Gv
namespace Go.Gv
def Ak (P : Program) (F : Fid) (prog : Nat -> Option az) (tbl : List (Nat × Nat)) : Bool:=tbl.all fun p=>lP P p.2 && match prog p.1 with
 | some nf=>fk P F p.2 nf
 | none=>true
theorem sx {tbl : List (Nat × Nat)} {g f : Nat} (h : tbl.lookup g=some f) : (g,f) ∈ tbl:=by
 induction tbl with
 | nil=>cases h
 | cons p r ih =>
  obtain ⟨a,b⟩:=p
  rw [List.lookup_cons] at h
  cases e : g == a with
  | true=>rw [e] at h;simp at e h;subst e;subst h;simp
  | false=>rw [e] at h;simp [ih h]
theorem seat {P : Program} {tbl : List (Nat × Nat)} {ty : Nat -> TypeId} {prog : Nat -> Option az} (hm : P.follows .mixedOrders=true) (hl : laidOutB P=true) (h : Ak P ⟨P,fun g=>tbl.lookup g,ty⟩ prog tbl=true) :
  bU P ⟨P,fun g=>tbl.lookup g,ty⟩ (gF P ⟨P,fun g=>tbl.lookup g,ty⟩) /\ aw prog (gF P ⟨P,fun g=>tbl.lookup g,ty⟩):=by
 have key : ∀ g f,tbl.lookup g=some f -> lP P f=true /\ ∀ nf,prog g=some nf -> fk P ⟨P,fun g=>tbl.lookup g,ty⟩ f nf=true:=fun g f e=>by
  have:=List.all_eq_true.1 h _ (sx e)
  simp only [Bool.and_eq_true] at this
  refine ⟨this.1,fun nf hnf=>?_⟩
  have:=this.2
  rw [hnf] at this
  exact this
 exact pu hm (fun g f e=>(key g f e).1) hl rfl (fun g f nf e hp=>(key g f e).2 nf hp)
end Go.Gv

namespace Go.Gv
open Go.Proofs
def TryzTbl : List (Nat × Nat) := [(0, 2), (676, 10), (677, 11), (678, 12), (680, 14), (682, 16), (683, 17), (684, 18), (19, 20), (687, 22), (688, 23), (690, 25), (691, 26), (695, 32), (215, 37), (399, 38), (699, 39), (700, 40), (701, 41), (702, 42), (703, 43), (704, 44), (705, 45), (708, 48), (709, 49), (710, 50), (711, 51), (712, 52), (713, 53), (714, 54), (715, 55), (285, 56), (722, 63), (723, 64), (274, 69), (726, 71), (727, 72), (257, 76), (258, 77), (234, 78), (11, 79), (400, 80), (401, 81), (303, 82), (729, 83), (730, 84), (237, 85), (313, 86), (355, 87), (359, 88), (731, 89), (732, 90), (360, 91), (733, 92), (291, 95), (286, 97), (738, 101), (739, 102), (275, 103), (276, 104), (233, 105), (289, 111), (290, 112), (292, 113), (293, 114), (294, 115), (295, 116), (273, 117), (35, 118), (403, 119), (404, 120), (740, 121), (267, 122), (239, 123), (361, 124), (111, 134), (312, 136), (284, 137), (269, 138), (271, 139), (272, 140), (323, 149), (324, 150), (302, 151), (304, 152), (305, 153), (306, 154), (307, 155), (308, 156), (298, 157), (309, 158), (310, 159), (311, 160), (127, 161), (299, 162), (278, 163), (319, 169), (320, 170), (321, 171), (300, 172), (301, 173), (328, 178), (99, 181), (327, 182), (106, 183), (104, 184), (108, 185), (105, 187), (103, 188), (107, 189), (112, 190), (92, 191), (110, 192), (91, 198), (113, 199), (102, 201)]
def TryzTys : List (Nat × Nat) := [(1, 4), (3, 209), (4, 23)]
set_option maxRecDepth 100000 in
theorem Tryz_all : Ak Tryz.prog ⟨Tryz.prog, fun g => TryzTbl.lookup g, fun t => (TryzTys.lookup t).getD 0⟩ prog TryzTbl = true := by kernel_rfl
end Go.Gv

namespace Go.Gv
open Go.RowKit
theorem qD {P : Program} {F : Fid} {g : Nat} {ds : List D} {d : D} (h : ∀ f,F g=some f -> ∀ (M : Mem) (w : World) (vs : List Value),ap F M ds vs -> ∃ v,af F M d v /\ Calls P f vs.toArray w (fun e w'=>e=.returned v /\ w'=w)) : gF P F g ds d []:=by
 refine ⟨trivial,fun f hf M w vs hh r=>?_⟩
 obtain ⟨v,hv,hc⟩:=h f hf M w vs r
 refine hc.mono ?_
 rintro e w' ⟨rfl,rfl⟩
 exact ⟨v,M,rfl,Bel.refl _,Mem.le_refl _,fun p h1 h2=>absurd h1 h2,hh,hv⟩
end Go.Gv

namespace Go.Proofs
open Go.Shelf
def Tryz.pdqL_ren : Go.Shelf.Ren := ⟨fun | 14 => 93 | 20 => 125 | 21 => 126 | 22 => 127 | 23 => 128 | 24 => 129 | 25 => 130 | 26 => 131 | 27 => 132 | 46 => 164 | 47 => 165 | 48 => 166 | 49 => 167 | 50 => 168 | 15 => 94 | 57 => 180 | 28 => 133 | 29 => 134 | n => n, fun | 24 => 51 | 22 => 41 | 3 => 3 | 25 => 108 | 4 => 4 | 0 => 0 | 46 => 177 | 45 => 176 | 50 => 155 | 66 => 215 | 39 => 139 | 55 => 144 | 70 => 219 | 76 => 229 | 77 => 143 | 53 => 183 | 5 => 5 | 9 => 9 | n => n, fun | n => n⟩
theorem Tryz.pdqL : Go.Proofs.SlLaysF0.n14 Tryz.prog Tryz.pdqL_ren := {
 mixed := by kernel_rfl
 f14 := ⟨Tryz.f93.name, by decide, Tryz.func93.trans (congrArg some (by kernel_rfl))⟩
 f15 := Tryz.func94.trans (congrArg some (by kernel_rfl))
 f20 := ⟨Tryz.f125.name, by decide, Tryz.func125.trans (congrArg some (by kernel_rfl))⟩
 f21 := ⟨Tryz.f126.name, by decide, Tryz.func126.trans (congrArg some (by kernel_rfl))⟩
 f22 := ⟨Tryz.f127.name, by decide, Tryz.func127.trans (congrArg some (by kernel_rfl))⟩
 f23 := ⟨Tryz.f128.name, by decide, Tryz.func128.trans (congrArg some (by kernel_rfl))⟩
 f24 := ⟨Tryz.f129.name, by decide, Tryz.func129.trans (congrArg some (by kernel_rfl))⟩
 f25 := ⟨Tryz.f130.name, by decide, Tryz.func130.trans (congrArg some (by kernel_rfl))⟩
 f26 := ⟨Tryz.f131.name, by decide, Tryz.func131.trans (congrArg some (by kernel_rfl))⟩
 f27 := ⟨Tryz.f132.name, by decide, Tryz.func132.trans (congrArg some (by kernel_rfl))⟩
 f28 := Tryz.func133.trans (congrArg some (by kernel_rfl))
 f29 := Tryz.func134.trans (congrArg some (by kernel_rfl))
 f46 := ⟨Tryz.f164.name, by decide, Tryz.func164.trans (congrArg some (by kernel_rfl))⟩
 f47 := Tryz.func165.trans (congrArg some (by kernel_rfl))
 f48 := Tryz.func166.trans (congrArg some (by kernel_rfl))
 f49 := ⟨Tryz.f167.name, by decide, Tryz.func167.trans (congrArg some (by kernel_rfl))⟩
 f50 := ⟨Tryz.f168.name, by decide, Tryz.func168.trans (congrArg some (by kernel_rfl))⟩
 f57 := ⟨Tryz.f180.name, by decide, Tryz.func180.trans (congrArg some (by kernel_rfl))⟩
 t0 := Tryz.underlying0
 a0 := Tryz.isAgg0
 z0 := Tryz.sizeOf0
 v0 := Tryz.zeroValue0
 t3 := Tryz.underlying3
 a3 := Tryz.isAgg3
 z3 := Tryz.sizeOf3
 v3 := Tryz.zeroValue3
 t4 := Tryz.underlying4
 a4 := Tryz.isAgg4
 z4 := Tryz.sizeOf4
 v4 := Tryz.zeroValue4
 t5 := Tryz.underlying5
 a5 := Tryz.isAgg5
 z5 := Tryz.sizeOf5
 v5 := Tryz.zeroValue5
 t9 := Tryz.underlying9
 a9 := Tryz.isAgg9
 z9 := Tryz.sizeOf9
 v9 := Tryz.zeroValue9
 t22 := Tryz.underlying41
 a22 := Tryz.isAgg41
 z22 := Tryz.sizeOf41
 v22 := Tryz.zeroValue41
 t25 := Tryz.underlying108
 a25 := Tryz.isAgg108
 z25 := Tryz.sizeOf108
 v25 := Tryz.zeroValue108
 t39 := Tryz.underlying139
 a39 := Tryz.isAgg139
 z39 := Tryz.sizeOf139
 v39 := Tryz.zeroValue139
 t45 := Tryz.underlying176
 a45 := Tryz.isAgg176
 z45 := Tryz.sizeOf176
 v45 := Tryz.zeroValue176
 t46 := Tryz.underlying177
 a46 := Tryz.isAgg177
 z46 := Tryz.sizeOf177
 v46 := Tryz.zeroValue177
 t50 := Tryz.underlying155
 a50 := Tryz.isAgg155
 z50 := Tryz.sizeOf155
 v50 := Tryz.zeroValue155
 t53 := Tryz.underlying183
 a53 := Tryz.isAgg183
 z53 := Tryz.sizeOf183
 v53 := Tryz.zeroValue183
 t55 := Tryz.underlying144
 a55 := Tryz.isAgg144
 z55 := Tryz.sizeOf144
 v55 := Tryz.zeroValue144
 t66 := Tryz.underlying215
 a66 := Tryz.isAgg215
 z66 := Tryz.sizeOf215
 v66 := Tryz.zeroValue215
 t70 := Tryz.underlying219
 a70 := Tryz.isAgg219
 z70 := Tryz.sizeOf219
 v70 := Tryz.zeroValue219
 t76 := Tryz.underlying229
 a76 := Tryz.isAgg229
 z76 := Tryz.sizeOf229
 v76 := Tryz.zeroValue229
 t77 := Tryz.underlying143
 a77 := Tryz.isAgg143
 z77 := Tryz.sizeOf143
 v77 := Tryz.zeroValue143 }
def Tryz.lays171_ren : Go.Shelf.Ren := ⟨fun | 171 => 161 | 243 => 179 | 246 => 186 | 283 => 194 | 284 => 195 | 285 => 196 | 286 => 197 | 129 => 134 | 317 => 202 | 318 => 203 | 319 => 204 | 320 => 205 | 337 => 206 | 338 => 207 | n => n, fun | 3 => 3 | 9 => 9 | 2 => 2 | 4 => 4 | 171 => 246 | 0 => 0 | 53 => 144 | 37 => 199 | 5 => 5 | 173 => 248 | 212 => 255 | 51 => 183 | 20 => 20 | 213 => 256 | 46 => 139 | 232 => 257 | 233 => 258 | n => n, fun | 17 => 2 | 18 => 3 | 19 => 4 | n => n⟩
theorem Tryz.lays171 : Go.Proofs.Lays.n171 Tryz.prog Tryz.lays171_ren := {
 mixed := by kernel_rfl
 f129 := Tryz.func134.trans (congrArg some (by kernel_rfl))
 f171 := Tryz.func161.trans (congrArg some (by kernel_rfl))
 f243 := Tryz.func179.trans (congrArg some (by kernel_rfl))
 f246 := Tryz.func186.trans (congrArg some (by kernel_rfl))
 f283 := Tryz.func194.trans (congrArg some (by kernel_rfl))
 f284 := Tryz.func195.trans (congrArg some (by kernel_rfl))
 f285 := Tryz.func196.trans (congrArg some (by kernel_rfl))
 f286 := Tryz.func197.trans (congrArg some (by kernel_rfl))
 f317 := Tryz.func202.trans (congrArg some (by kernel_rfl))
 f318 := Tryz.func203.trans (congrArg some (by kernel_rfl))
 f319 := Tryz.func204.trans (congrArg some (by kernel_rfl))
 f320 := Tryz.func205.trans (congrArg some (by kernel_rfl))
 f337 := Tryz.func206.trans (congrArg some (by kernel_rfl))
 f338 := Tryz.func207.trans (congrArg some (by kernel_rfl))
 t0 := Tryz.underlying0
 a0 := Tryz.isAgg0
 z0 := Tryz.sizeOf0
 v0 := Tryz.zeroValue0
 t2 := Tryz.underlying2
 a2 := Tryz.isAgg2
 z2 := Tryz.sizeOf2
 v2 := Tryz.zeroValue2
 t3 := Tryz.underlying3
 a3 := Tryz.isAgg3
 z3 := Tryz.sizeOf3
 v3 := Tryz.zeroValue3
 t4 := Tryz.underlying4
 a4 := Tryz.isAgg4
 z4 := Tryz.sizeOf4
 v4 := Tryz.zeroValue4
 t5 := Tryz.underlying5
 a5 := Tryz.isAgg5
 z5 := Tryz.sizeOf5
 v5 := Tryz.zeroValue5
 t9 := Tryz.underlying9
 a9 := Tryz.isAgg9
 z9 := Tryz.sizeOf9
 v9 := Tryz.zeroValue9
 t20 := Tryz.underlying20
 a20 := Tryz.isAgg20
 z20 := Tryz.sizeOf20
 v20 := Tryz.zeroValue20
 t37 := Tryz.underlying199
 a37 := Tryz.isAgg199
 z37 := Tryz.sizeOf199
 v37 := Tryz.zeroValue199
 t46 := Tryz.underlying139
 a46 := Tryz.isAgg139
 z46 := Tryz.sizeOf139
 v46 := Tryz.zeroValue139
 t51 := Tryz.underlying183
 a51 := Tryz.isAgg183
 z51 := Tryz.sizeOf183
 v51 := Tryz.zeroValue183
 t53 := Tryz.underlying144
 a53 := Tryz.isAgg144
 z53 := Tryz.sizeOf144
 v53 := Tryz.zeroValue144
 t171 := Tryz.underlying246
 a171 := Tryz.isAgg246
 z171 := Tryz.sizeOf246
 v171 := Tryz.zeroValue246
 t173 := Tryz.underlying248
 a173 := Tryz.isAgg248
 z173 := Tryz.sizeOf248
 v173 := Tryz.zeroValue248
 t212 := Tryz.underlying255
 a212 := Tryz.isAgg255
 z212 := Tryz.sizeOf255
 v212 := Tryz.zeroValue255
 t213 := Tryz.underlying256
 a213 := Tryz.isAgg256
 z213 := Tryz.sizeOf256
 t232 := Tryz.underlying257
 a232 := Tryz.isAgg257
 z232 := Tryz.sizeOf257
 v232 := Tryz.zeroValue257
 t233 := Tryz.underlying258
 a233 := Tryz.isAgg258
 z233 := Tryz.sizeOf258
 v233 := Tryz.zeroValue258
 g17 := by kernel_rfl
 g18 := by kernel_rfl
 g19 := by kernel_rfl }
open Go.RowKit Go.Sort Go.Lib in
theorem Tryz.strconv_Itoa_small (i : Nat) (hi : i < 100) (w : World) :
  Calls Tryz.prog 161 #[.int .i64 i] w fun e w' => e = .returned (.string ⟨(Lib.decDigits i).toArray⟩) /\ w' = w := Any.strconv_Itoa_small Tryz.lays171 i hi w
open Go.Shelf Go.Lib Go.Sort Go.RowKit
set_option maxHeartbeats 4000000 in
set_option maxRecDepth 100000 in
theorem Tryz.sortN_eq {α : Type} [Inhabited α] (k : Nat) (aE : ∀ w, (isAgg (Tryz.pdqL_ren.t 24)).run Tryz.prog w = .ok true w) (zE : ∀ w, (Go.sizeOf (Tryz.pdqL_ren.t 24)).run Tryz.prog w = .ok k w) (enc : α -> List Value) (hk : ∀ x, (enc x).length = k) (h1 : ∀ x, ∀ v ∈ enc x, v.oneCell' = true) (cf : α -> α -> Int) (hO : SWO (ltOf cf)) (g : Nat) (cb : Array Value) (blk off cap : Nat) (d : Array α) (w : World)
  (eg : ∀ args w, (callFunc g args).run Tryz.prog w = .ok (.enter g args) w) (hcmp : CmpLays Tryz.prog g cb enc k cf blk off d.size w) (hH : HoldsK enc k w blk off d) (hblk : blk < w.heap.size) (hsz : d.size < 4611686018427387904) :
  Calls Tryz.prog 53 #[.slice (some ⟨blk, off, none⟩) d.size cap, .func (.func g) #[] cb] w fun e w' =>
   e = .returned (.tuple #[]) /\ ∃ n os, w' = sortWorldK enc k w blk off n (pdq (ltOf cf) d 0 d.size (Lib.bitLen d.size) true true) os := by
 have L := Tryz.pdqL
 have e14 : ∀ args w, (callFunc 93 args).run Tryz.prog w = .ok (.enter 93 args) w := L.f14.enters rfl
 have e15 : ∀ args w, (callFunc 94 args).run Tryz.prog w = .ok (.enter 94 args) w := enters_of L.f15 (by kernel_rfl) rfl
 have hlim : Lib.bitLen d.size < 4611686018427387904 := Nat.lt_of_le_of_lt (Lib.bitLen_le d.size 62 (by omega) (by omega)) (by omega)
 have hp := AnyQ.pdqsortCmpFunc_all (P := Tryz.prog) (ρ := Tryz.pdqL_ren) L k aE zE enc cf g cb hO blk off cap d w eg hcmp ⟨hk, h1, hH, hblk⟩ (d.size + 1) 0 d.size (Lib.bitLen d.size) d w (by omega) rfl (SWK.start hH) (Nat.zero_le _) (Nat.le_refl _) hsz hlim (Or.inl rfl)
 have hl : Calls Tryz.prog 94 #[.int .u64 (d.size : Int)] w fun e w' => e = .returned (.int .i64 (Lib.bitLen d.size : Nat)) /\ w' = w := by
  have h := Any.bits_Len (SlLaysF0.n15.bits (P := Tryz.prog) (ρ := Tryz.pdqL_ren) { L with }) (d.size : Int) w (by omega) (by omega)
  rwa [Int.toNat_natCast] at h
 have wr : IntKind.u64.wrap (d.size : Int) = d.size := by simp [IntKind.wrap, IntKind.bits, IntKind.signed]; omega
 clear hH hcmp hk h1
 replace hp : Calls Tryz.prog 93 #[.slice (some ⟨blk, off, none⟩) d.size cap, .int .i64 0, .int .i64 d.size, .int .i64 (Lib.bitLen d.size : Nat), .func (.func g) #[] cb] w fun e w' => e = .returned (.tuple #[]) /\ SWK enc k w blk off (pdq (ltOf cf) d 0 d.size (Lib.bitLen d.size) true true) w' := hp
 go_enter Tryz.func53, (rfl : Tryz.f53.ntmps = 14)
 go_wp2_with (first | (go_at_fn 94; refine hl.mono ?_; rintro e w' ⟨rfl, rfl⟩) | (go_at_fn 93; refine hp.mono ?_; rintro e w' ⟨rfl, n, os, rfl⟩))
 go_end0
 exact ⟨rfl, n, os, rfl⟩
set_option maxHeartbeats 4000000 in
set_option maxRecDepth 100000 in
theorem Tryz.sortN_none (p : Option Addr) (cap : Nat) (fv : Value) (w : World) : Calls Tryz.prog 53 #[.slice p 0 cap, fv] w fun e w' => e = .returned (.tuple #[]) /\ w' = w := by
 have L := Tryz.pdqL
 have e14 : ∀ args w, (callFunc 93 args).run Tryz.prog w = .ok (.enter 93 args) w := L.f14.enters rfl
 have e15 : ∀ args w, (callFunc 94 args).run Tryz.prog w = .ok (.enter 94 args) w := enters_of L.f15 (by kernel_rfl) rfl
 have hp : ∀ lim W, Calls Tryz.prog 93 #[.slice p 0 cap, .int .i64 0, .int .i64 0, .int .i64 lim, fv] W fun e w' => e = .returned (.tuple #[]) /\ w' = W := fun lim W => AnyF.pdqsortCmpFunc_none (P := Tryz.prog) (ρ := Tryz.pdqL_ren) L p cap lim fv W
 have hl : ∀ W, Calls Tryz.prog 94 #[.int .u64 0] W fun e w' => e = .returned (.int .i64 (Lib.bitLen 0 : Nat)) /\ w' = W := fun W => by
  have h := Any.bits_Len (SlLaysF0.n15.bits (P := Tryz.prog) (ρ := Tryz.pdqL_ren) { L with }) 0 W (by omega) (by omega)
  exact h
 go_enter Tryz.func53, (rfl : Tryz.f53.ntmps = 14)
 go_wp2_with (first | (go_at_fn 94; refine (hl _).mono ?_; rintro e w' ⟨rfl, rfl⟩) | (go_at_fn 93; refine (hp _ _).mono ?_; rintro e w' ⟨rfl, rfl⟩))
 go_end0
 exact ⟨rfl, rfl⟩
end Go.Proofs

namespace Go.Gv
open Go.Sort
section
variable {P : Program} {F : Fid} {α : Type} [Inhabited α]
def P2 (encD : α -> D) (d : Array α) : List (List D):=d.toList.map fun x=>[encD x]
end
end Go.Gv

namespace Go.Gv
open Go.Sort Go.Proofs Go.Shelf
theorem Bel.grownK {w w' : World} (h : Bel w w') : ∃ q os,w'=grow (w.drewN q) os:=by
 refine ⟨w'.drawn - w.drawn,w'.heap.extract w.heap.size w'.heap.size,?_⟩
 have hh : w'.heap=w.heap++w'.heap.extract w.heap.size w'.heap.size:=by
  apply Array.ext
  ·have:=h.size
   simp only [Array.size_append,Array.size_extract]
   omega
  ·intro i h1 h2
   by_cases hi : i < w.heap.size
   ·rw [Array.getElem_append_left hi]
    have:=h.block i hi
    rw [Array.getElem?_eq_getElem h1,Array.getElem?_eq_getElem hi] at this
    exact Option.some.inj this
   ·rw [Array.getElem_append_right (by omega),Array.getElem_extract]
    congr 1
    omega
 have hd:=h.drawn
 obtain ⟨h1,h2,h3,h4,h5,h6⟩:=h
 cases w
 cases w'
 simp only [grow,World.drewN] at *
 subst h1 h2 h3
 congr 1
 omega
theorem n7 {α : Type} [Inhabited α] {enc : α -> List Value} {k : Nat} {w : World} {blk off n : Nat} {d : Array α} {os : Array Obj} {p : Addr} {v : Value} (hp : p.block ≠ blk) (h : w.cell? p=some v) : (sortWorldK enc k w blk off n d os).cell? p=some v:=by
 have hb : p.block < w.heap.size:=by
  unfold World.cell? at h
  cases e : w.heap[p.block]? with
  | none=>rw [e] at h;cases h
  | some _=>exact (Array.getElem?_eq_some_iff.1 e).1
 have e : (sortWorldK enc k w blk off n d os).heap[p.block]? = w.heap[p.block]?:=by
  simp only [sortWorldK,grow,putRowK,putRow,mapBlock,Sort.ahead]
  rw [Array.getElem?_append_left (by simpa using hb),Array.getElem?_modify,if_neg (Ne.symm hp)]
 unfold World.cell? at h ⊢
 rw [e]
 exact h
section
variable {P : Program} {F : Fid} {α : Type} [Inhabited α]
theorem mc {f : FuncId} (k : Nat) (hk0 : 0 < k) (enc : α -> List Value) (encD : α -> List D) (hk : ∀ x,(enc x).length=k) (hkD : ∀ x,(encD x).length=k) (hflat : ∀ (M : Mem) (x : α) (i : Nat) (d : D) (u : Value),(encD x)[i]? = some d -> af F M d u -> (enc x)[i]? = some u) (hrep : ∀ M x,ap F M (encD x) (enc x)) (d d' : Array α) (hsz : d'.size=d.size) (ds : List D)
  (hnone : d.size=0 -> ∀ (M : Mem) (w : World) (vs : List Value) (A : Option Addr),(∀ p v,M p=some v -> w.cell? p=some v) -> ap F M ds vs -> Calls P f (.slice A 0 0::vs).toArray w fun e w'=>e=.returned (.tuple #[]) /\ ∃ n os,w'=grow (Sort.ahead w n) os)
  (hrun : ∀ (M : Mem) (w : World) (vs : List Value) (blk off cap : Nat),(∀ p v,M p=some v -> w.cell? p=some v) -> (∀ p : Addr,p.block=blk -> M p=none) -> ap F M ds vs -> HoldsK enc k w blk off d -> blk < w.heap.size ->
   Calls P f (.slice (some ⟨blk,off,none⟩) d.size cap::vs).toArray w fun e w'=>e=.returned (.tuple #[]) /\ ∃ n os,w'=sortWorldK enc k w blk off n d' os) : tj P F f k (d.toList.map encD) ds (d'.toList.map encD):=by
 intro M w vs hh r
 have hl : (d.toList.map encD).length=d.size:=by simp
 refine ⟨fun e A=>?_,fun b o T us cap hM hb hcell hcap hle hu hc=>?_⟩
 ·have h0 : d.size=0:=by rw [<- hl,e];rfl
  refine (hnone h0 M w vs A hh r).mono ?_
  rintro e0 w' ⟨rfl,n,os,rfl⟩
  exact ⟨rfl,rfl,rfl,rfl,by simp [grow,Sort.ahead],fun k hk=>by simp only [grow,Sort.ahead];rw [Array.getElem?_append_left hk],Nat.le_add_right _ _⟩
 ·rw [hl] at hcap ⊢
  have hH : HoldsK enc k w b o d:=fun j hj=>by
   rw [size_flatK] at hj
   have hi : j / k < d.size:=(Nat.div_lt_iff_lt_mul hk0).2 hj
   have hm : j % k < k:=Nat.mod_lt _ hk0
   have hx : (encD d[j / k])[j % k]? = some ((encD d[j / k])[j % k]'(by rw [hkD];exact hm)):=List.getElem?_eq_getElem _
   obtain ⟨u,k1,k2⟩:=hc (j / k) (encD d[j / k]) (j % k) _ (by simp [hi]) hx
   have k3:=hflat _ _ _ _ _ hx k2
   rw [Nat.add_assoc,Nat.mul_comm (j / k) k,Nat.div_add_mod] at k1
   have e1 : (flatK enc k d)[j]! = u:=by
    rw [get_flatK _ _ _ _ hj,getElem!_pos d (j / k) hi]
    have:=(List.getElem?_eq_some_iff.1 k3).2
    rw [getElem!_pos _ _ (by rw [hk];exact hm)]
    exact this
   rw [e1]
   exact ⟨by simp [World.cell?,hcell,k1],by simp [World.frozen?,hcell]⟩
  refine (hrun M w vs b o cap hh hM r hH hb).mono ?_
  rintro e0 w' ⟨rfl,n,os,rfl⟩
  have hput : (sortWorldK enc k w b o n d' os).heap[b]? = some (.cells (putCells id o (flatK enc k d') us.toArray) T (0,0)):=by
   simp only [sortWorldK,grow,putRowK,putRow,mapBlock,Sort.ahead]
   rw [Array.getElem?_append_left (by simpa using hb),Array.getElem?_modify,if_pos rfl,hcell]
   rfl
  refine ⟨rfl,(putCells id o (flatK enc k d') us.toArray).toList,by rw [Array.toArray_toList];exact hput,by simp [putCells],fun i r off x hi hr=>?_,⟨rfl,rfl,rfl,by simp [sortWorldK,grow,putRowK,putRow,mapBlock,Sort.ahead],fun q hq hne=>?_,Nat.le_add_right _ _⟩⟩
  ·simp only [List.getElem?_map,Option.map_eq_some_iff] at hi
   obtain ⟨y,h1,rfl⟩:=hi
   have ho : off < k:=by have:=(List.getElem?_eq_some_iff.1 hr).1;rwa [hkD] at this
   have hi2 : i < d'.size:=by have:=(List.getElem?_eq_some_iff.1 h1).1;simpa using this
   have hy : d'[i]! = y:=by
    rw [getElem!_pos d' i hi2]
    have:=(List.getElem?_eq_some_iff.1 h1).2
    simpa using this
   obtain ⟨u,k1,k2⟩:=(hrep M y).get hr
   have hlt : i * k + off < d'.size * k:=by
    have : i * k + k <= d'.size * k:=by rw [<- Nat.succ_mul];exact Nat.mul_le_mul_right _ hi2
    omega
   have hlt2 : o + i * k + off < us.length:=by
    have h3 : d'.size * k <= cap * k:=Nat.mul_le_mul_right _ (by omega)
    omega
   refine ⟨u,?_,k2⟩
   rw [Array.getElem?_toList]
   simp only [putCells,Array.getElem?_mapIdx,List.getElem?_toArray]
   rw [List.getElem?_eq_getElem hlt2]
   simp only [Option.map_some,size_flatK]
   rw [if_pos ⟨by omega,by omega⟩,show o + i * k + off - o=i * k + off by omega,get_flatK _ _ _ _ hlt]
   have e1 : (i * k + off) / k=i:=by rw [Nat.mul_comm,Nat.mul_add_div hk0,Nat.div_eq_of_lt ho];omega
   have e2 : (i * k + off) % k=off:=by rw [Nat.mul_comm,Nat.mul_add_mod,Nat.mod_eq_of_lt ho]
   rw [e1,e2,hy]
   obtain ⟨z1,z2⟩:=List.getElem?_eq_some_iff.1 k1
   rw [getElem!_pos (enc y) off z1]
   simp [z2]
  ·simp only [sortWorldK,grow,putRowK,putRow,mapBlock,Sort.ahead]
   rw [Array.getElem?_append_left (by simpa using hq),Array.getElem?_modify,if_neg (Ne.symm hne)]
end
end Go.Gv

namespace Go.Gv
open Go.Sort Go.Proofs Go.Shelf
section
variable {P : Program} {F : Fid} {α : Type} [Inhabited α]
theorem kX {f1 : FuncId} (k : Nat) (hk0 : 0 < k) (enc : α -> List Value) (encD : α -> List D) (hk : ∀ x,(enc x).length=k) (hkD : ∀ x,(encD x).length=k) (h1 : ∀ x,∀ v ∈ enc x,v.oneCell'=true)
  (hflat : ∀ (M : Mem) (x : α) (i : Nat) (d : D) (u : Value),(encD x)[i]? = some d -> af F M d u -> (enc x)[i]? = some u) (hrep : ∀ M x,ap F M (encD x) (enc x)) (cf : α -> α -> Int) (hO : SWO (ltOf cf)) (hT : ∀ x y,(ltOf cf) x y=false -> (ltOf cf) y x=false -> x=y) {g cg : Nat} (hg : ∀ f,F g=some f -> f=f1)
  (hnone : ∀ (p : Option Addr) (cap : Nat) (fv : Value) (w : World),Calls P f1 #[.slice p 0 cap,fv] w fun e w'=>e=.returned (.tuple #[]) /\ w'=w)
  (htot : ∀ (g : Nat) (cb : Array Value) (blk off cap : Nat) (d : Array α) (w : World),(∀ args w,(callFunc g args).run P w=.ok (.enter g args) w) -> CmpLays P g cb enc k cf blk off d.size w -> HoldsK enc k w blk off d -> blk < w.heap.size -> d.size < 4611686018427387904 ->
   Calls P f1 #[.slice (some ⟨blk,off,none⟩) d.size cap,.func (.func g) #[] cb] w fun e w'=>e=.returned (.tuple #[]) /\ ∃ n os,w'=sortWorldK enc k w blk off n (pdq (ltOf cf) d 0 d.size (Lib.bitLen d.size) true true) os) {cs : List D}
  (hn : ∀ f,F cg=some f -> lP P f=true) (hcl : ∀ x y,gF P F cg (.agg (encD x)::.agg (encD y)::cs) (.int .i64 (cf x y)) []) (d : List α) (hz : d.length < 2 ^ 62) :
  gF P F g [.own k (d.map encD),.fn cg cs] .any [.own k ((d.mergeSort fun x y=>!(ltOf cf) y x).map encD),.nilp]:=by
 refine ⟨trivial,fun f hf=>⟨rfl,?_⟩⟩
 obtain rfl:=hg f hf
 have key:=mc (P:=P) (F:=F) (f:=f) k hk0 enc encD hk hkD hflat hrep d.toArray (d.mergeSort fun x y=>!(ltOf cf) y x).toArray (by simp) [.fn cg cs] (fun h M w vs A hh r=>by
  simp only [ap,af] at r
  obtain ⟨fv,vs',rfl,⟨fi,us,hfi,rfl,hus⟩,rfl⟩:=r
  refine (hnone A 0 _ w).mono ?_
  rintro e w' ⟨rfl,rfl⟩
  exact ⟨rfl,0,#[],by simp [grow,Sort.ahead]⟩) (fun M w vs blk off cap hh hM r hH hb=>by
  simp only [ap,af] at r
  obtain ⟨fv,vs',rfl,⟨fi,us,hfi,rfl,hus⟩,rfl⟩:=r
  have hcmp : CmpLays P fi us.toArray enc k cf blk off d.toArray.size w:=by
   intro m os dk hdk x y
   have hr:=(hcl x y).2 fi hfi M (sortWorldK enc k w blk off m dk os) (.agg (enc x).toArray::.agg (enc y).toArray::us) (fun p v hpv=>n7 (fun e=>by rw [hM p e] at hpv;cases hpv) (hh p v hpv)) (by
    simp only [ap,af]
    exact ⟨_,_,rfl,⟨_,rfl,hrep _ _⟩,_,_,rfl,⟨_,rfl,hrep _ _⟩,hus⟩)
   have e : #[Value.agg (enc x).toArray,.agg (enc y).toArray]++us.toArray=(.agg (enc x).toArray::.agg (enc y).toArray::us).toArray:=by simp
   rw [e]
   refine hr.mono ?_
   rintro e w' ⟨v,M',rfl,hbel,_,_,_,hv⟩
   simp only [af] at hv
   subst hv
   exact ⟨rfl,hbel.grownK⟩
  have:=htot fi us.toArray blk off cap d.toArray w (bI (hn fi hfi)) hcmp hH hb (by simpa using hz)
  have hs:=pdq_sorts (ltOf cf) hO d.toArray 0 d.toArray.size (Lib.bitLen d.toArray.size) true true (Nat.zero_le _) (Nat.le_refl _) (Or.inl rfl)
  have : Calls P f #[.slice (some ⟨blk,off,none⟩) d.toArray.size cap,.func (.func fi) #[] us.toArray] w fun e w'=>e=.returned (.tuple #[]) /\ ∃ n os,w'=sortWorldK enc k w blk off n (d.toArray.toList.mergeSort fun x y=>!(ltOf cf) y x).toArray os :=
   this.mono fun _ _ ⟨he,n,os,hw⟩=>⟨he,n,os,by rw [hw,<- sorted_unique_holds hO hT d.toArray _ hs.1 hs.2]⟩
  simpa using this)
 simpa using key
end
end Go.Gv

namespace Go.Gv
structure Tag {α : Type _} (x : α) : Type where
@[simp] theorem Nm : isV (.any)=true:=_root_.id rfl
@[simp] theorem Nq {k n} : isV (.int k n)=true:=_root_.id rfl
@[simp] theorem Ix {b} : isV (.bool b)=true:=_root_.id rfl
@[simp] theorem Ny {s} : isV (.str s)=true:=_root_.id rfl
@[simp] theorem Iy : isV (.nilp)=true:=_root_.id rfl
@[simp] theorem Iz : isV (.nils)=true:=_root_.id rfl
@[simp] theorem Nk {ds} : isV (.agg ds)=true:=_root_.id rfl
@[simp] theorem NA {ds} : isV (.tup ds)=true:=_root_.id rfl
@[simp] theorem PK {es} : isV (.sl es)=true:=_root_.id rfl
@[simp] theorem Nt {ds} : isV (.ptr ds)=true:=_root_.id rfl
@[simp] theorem PI {g ds} : isV (.fn g ds)=true:=_root_.id rfl
@[simp] theorem Ns {sz es} : isV (.own sz es)=false:=_root_.id rfl
@[simp] theorem Nn {sz es} : isV (.blk sz es)=false:=_root_.id rfl
@[simp] theorem PJ {kt et ks vs} : isV (.mp kt et ks vs)=false:=_root_.id rfl
@[simp] theorem Nr {b} : isV (.mrf b)=false:=_root_.id rfl
@[simp] theorem Nv {p k n} : isV (.ref p k n)=false:=_root_.id rfl
@[simp] theorem Nj {p i off} : isV (.adr p i off)=false:=_root_.id rfl
@[simp] theorem Nl {ds} : isV (.agx ds)=false:=_root_.id rfl
@[simp] theorem Nz {ds} : isV (.tpx ds)=false:=_root_.id rfl
@[simp] theorem Nu {ds} : isV (.ptx ds)=false:=_root_.id rfl
@[simp] theorem Nw {n sz ds} : isV (.rfx n sz ds)=false:=_root_.id rfl
@[simp] theorem Np {g ds} : isV (.fnx g ds)=false:=_root_.id rfl
@[simp] theorem Ma : isK (.any)=false:=_root_.id rfl
@[simp] theorem Md {k n} : isK (.int k n)=true:=_root_.id rfl
@[simp] theorem Il {b} : isK (.bool b)=true:=_root_.id rfl
@[simp] theorem Ml {s} : isK (.str s)=true:=_root_.id rfl
@[simp] theorem Im : isK (.nilp)=true:=_root_.id rfl
@[simp] theorem In : isK (.nils)=true:=_root_.id rfl
@[simp] theorem L8 {ds} : isK (.agg ds)=true:=_root_.id rfl
@[simp] theorem Mn {ds} : isK (.tup ds)=true:=_root_.id rfl
@[simp] theorem Pu {es} : isK (.sl es)=true:=_root_.id rfl
@[simp] theorem Mg {ds} : isK (.ptr ds)=true:=_root_.id rfl
@[simp] theorem Ps {g ds} : isK (.fn g ds)=true:=_root_.id rfl
@[simp] theorem Mf {sz es} : isK (.own sz es)=false:=_root_.id rfl
@[simp] theorem Mb {sz es} : isK (.blk sz es)=false:=_root_.id rfl
@[simp] theorem Pt {kt et ks vs} : isK (.mp kt et ks vs)=false:=_root_.id rfl
@[simp] theorem Me {b} : isK (.mrf b)=false:=_root_.id rfl
@[simp] theorem Mi {p k n} : isK (.ref p k n)=false:=_root_.id rfl
@[simp] theorem L7 {p i off} : isK (.adr p i off)=false:=_root_.id rfl
@[simp] theorem L9 {ds} : isK (.agx ds)=false:=_root_.id rfl
@[simp] theorem Mm {ds} : isK (.tpx ds)=false:=_root_.id rfl
@[simp] theorem Mh {ds} : isK (.ptx ds)=false:=_root_.id rfl
@[simp] theorem Mj {n sz ds} : isK (.rfx n sz ds)=false:=_root_.id rfl
@[simp] theorem Mc {g ds} : isK (.fnx g ds)=false:=_root_.id rfl
@[simp] theorem MI : isP (.any)=true:=_root_.id rfl
@[simp] theorem ML {k n} : isP (.int k n)=true:=_root_.id rfl
@[simp] theorem Ir {b} : isP (.bool b)=true:=_root_.id rfl
@[simp] theorem MT {s} : isP (.str s)=true:=_root_.id rfl
@[simp] theorem Is : isP (.nilp)=true:=_root_.id rfl
@[simp] theorem It : isP (.nils)=true:=_root_.id rfl
@[simp] theorem MG {ds} : isP (.agg ds)=true:=_root_.id rfl
@[simp] theorem MV {ds} : isP (.tup ds)=true:=_root_.id rfl
@[simp] theorem PC {es} : isP (.sl es)=true:=_root_.id rfl
@[simp] theorem MO {ds} : isP (.ptr ds)=true:=_root_.id rfl
@[simp] theorem PA {g ds} : isP (.fn g ds)=true:=_root_.id rfl
@[simp] theorem MN {sz es} : isP (.own sz es)=false:=_root_.id rfl
@[simp] theorem MJ {sz es} : isP (.blk sz es)=false:=_root_.id rfl
@[simp] theorem PB {kt et ks vs} : isP (.mp kt et ks vs)=false:=_root_.id rfl
@[simp] theorem MM {b} : isP (.mrf b)=true:=_root_.id rfl
@[simp] theorem MQ {p k n} : isP (.ref p k n)=true:=_root_.id rfl
@[simp] theorem MF {p i off} : isP (.adr p i off)=true:=_root_.id rfl
@[simp] theorem MH {ds} : isP (.agx ds)=false:=_root_.id rfl
@[simp] theorem MU {ds} : isP (.tpx ds)=false:=_root_.id rfl
@[simp] theorem MP {ds} : isP (.ptx ds)=false:=_root_.id rfl
@[simp] theorem MR {n sz ds} : isP (.rfx n sz ds)=false:=_root_.id rfl
@[simp] theorem MK {g ds} : isP (.fnx g ds)=false:=_root_.id rfl
@[simp] theorem MZ : isS (.any)=true:=_root_.id rfl
@[simp] theorem PH : isV (.bb)=true:=_root_.id rfl
@[simp] theorem PD : isS (.bb)=true:=_root_.id rfl
@[simp] theorem Pz : isP (.bb)=true:=_root_.id rfl
@[simp] theorem Pl : isB (.bb)=false:=_root_.id rfl
@[simp] theorem Hf : cG (.bb)=false:=_root_.id rfl
@[simp] theorem EU : bz (.bb)=[]:=_root_.id rfl
@[simp] theorem By : aH (.bb)=[]:=_root_.id rfl
@[simp] theorem M7 {k n} : isS (.int k n)=true:=_root_.id rfl
@[simp] theorem Iu {b} : isS (.bool b)=true:=_root_.id rfl
@[simp] theorem Ng {s} : isS (.str s)=true:=_root_.id rfl
@[simp] theorem Iv : isS (.nilp)=true:=_root_.id rfl
@[simp] theorem Iw : isS (.nils)=true:=_root_.id rfl
@[simp] theorem MX {ds} : isS (.agg ds)=true:=_root_.id rfl
@[simp] theorem Ni {ds} : isS (.tup ds)=true:=_root_.id rfl
@[simp] theorem PG {es} : isS (.sl es)=true:=_root_.id rfl
@[simp] theorem Na {ds} : isS (.ptr ds)=true:=_root_.id rfl
@[simp] theorem PE {g ds} : isS (.fn g ds)=true:=_root_.id rfl
@[simp] theorem M9 {sz es} : isS (.own sz es)=false:=_root_.id rfl
@[simp] theorem M5 {sz es} : isS (.blk sz es)=false:=_root_.id rfl
@[simp] theorem PF {kt et ks vs} : isS (.mp kt et ks vs)=false:=_root_.id rfl
@[simp] theorem M8 {b} : isS (.mrf b)=true:=_root_.id rfl
@[simp] theorem Nc {p k n} : isS (.ref p k n)=true:=_root_.id rfl
@[simp] theorem MW {p i off} : isS (.adr p i off)=true:=_root_.id rfl
@[simp] theorem MY {ds} : isS (.agx ds)=ds.all isP:=_root_.id rfl
@[simp] theorem Nh {ds} : isS (.tpx ds)=ds.all isP:=_root_.id rfl
@[simp] theorem Nb {ds} : isS (.ptx ds)=ds.all isP:=_root_.id rfl
@[simp] theorem Nd {n sz ds} : isS (.rfx n sz ds)=ds.all isP:=_root_.id rfl
@[simp] theorem M6 {g ds} : isS (.fnx g ds)=ds.all isP:=_root_.id rfl
@[simp] theorem Hp : au (.any)=false:=_root_.id rfl
@[simp] theorem Hs {k n} : au (.int k n)=true:=_root_.id rfl
@[simp] theorem Eh {b} : au (.bool b)=true:=_root_.id rfl
@[simp] theorem HA {s} : au (.str s)=true:=_root_.id rfl
@[simp] theorem Ei : au (.nilp)=true:=_root_.id rfl
@[simp] theorem Ej : au (.nils)=true:=_root_.id rfl
@[simp] theorem Hn {ds} : au (.agg ds)=false:=_root_.id rfl
@[simp] theorem HC {ds} : au (.tup ds)=false:=_root_.id rfl
@[simp] theorem LD {es} : au (.sl es)=true:=_root_.id rfl
@[simp] theorem Hv {ds} : au (.ptr ds)=true:=_root_.id rfl
@[simp] theorem LB {g ds} : au (.fn g ds)=true:=_root_.id rfl
@[simp] theorem Hu {sz es} : au (.own sz es)=false:=_root_.id rfl
@[simp] theorem Hq {sz es} : au (.blk sz es)=false:=_root_.id rfl
@[simp] theorem LC {kt et ks vs} : au (.mp kt et ks vs)=false:=_root_.id rfl
@[simp] theorem Ht {b} : au (.mrf b)=false:=_root_.id rfl
@[simp] theorem Hx {p k n} : au (.ref p k n)=false:=_root_.id rfl
@[simp] theorem Hm {p i off} : au (.adr p i off)=false:=_root_.id rfl
@[simp] theorem Ho {ds} : au (.agx ds)=false:=_root_.id rfl
@[simp] theorem HB {ds} : au (.tpx ds)=false:=_root_.id rfl
@[simp] theorem Hw {ds} : au (.ptx ds)=false:=_root_.id rfl
@[simp] theorem Hy {n sz ds} : au (.rfx n sz ds)=false:=_root_.id rfl
@[simp] theorem Hr {g ds} : au (.fnx g ds)=false:=_root_.id rfl
@[simp] theorem Mr : isO (.any)=false:=_root_.id rfl
@[simp] theorem Mu {k n} : isO (.int k n)=false:=_root_.id rfl
@[simp] theorem Io {b} : isO (.bool b)=false:=_root_.id rfl
@[simp] theorem MC {s} : isO (.str s)=false:=_root_.id rfl
@[simp] theorem Ip : isO (.nilp)=false:=_root_.id rfl
@[simp] theorem Iq : isO (.nils)=false:=_root_.id rfl
@[simp] theorem Mp {ds} : isO (.agg ds)=false:=_root_.id rfl
@[simp] theorem ME {ds} : isO (.tup ds)=false:=_root_.id rfl
@[simp] theorem Py {es} : isO (.sl es)=false:=_root_.id rfl
@[simp] theorem Mx {ds} : isO (.ptr ds)=false:=_root_.id rfl
@[simp] theorem Pw {g ds} : isO (.fn g ds)=false:=_root_.id rfl
@[simp] theorem Mw {sz es} : isO (.own sz es)=true:=_root_.id rfl
@[simp] theorem Ms {sz es} : isO (.blk sz es)=false:=_root_.id rfl
@[simp] theorem Px {kt et ks vs} : isO (.mp kt et ks vs)=false:=_root_.id rfl
@[simp] theorem Mv {b} : isO (.mrf b)=false:=_root_.id rfl
@[simp] theorem Mz {p k n} : isO (.ref p k n)=false:=_root_.id rfl
@[simp] theorem Mo {p i off} : isO (.adr p i off)=false:=_root_.id rfl
@[simp] theorem Mq {ds} : isO (.agx ds)=false:=_root_.id rfl
@[simp] theorem MD {ds} : isO (.tpx ds)=false:=_root_.id rfl
@[simp] theorem My {ds} : isO (.ptx ds)=false:=_root_.id rfl
@[simp] theorem MA {n sz ds} : isO (.rfx n sz ds)=false:=_root_.id rfl
@[simp] theorem Mt {g ds} : isO (.fnx g ds)=false:=_root_.id rfl
@[simp] theorem HG : bi (.any)=true:=_root_.id rfl
@[simp] theorem HJ {k n} : bi (.int k n)=true:=_root_.id rfl
@[simp] theorem Ek {b} : bi (.bool b)=true:=_root_.id rfl
@[simp] theorem HQ {s} : bi (.str s)=true:=_root_.id rfl
@[simp] theorem El : bi (.nilp)=true:=_root_.id rfl
@[simp] theorem Em : bi (.nils)=true:=_root_.id rfl
@[simp] theorem HE {ds} : bi (.agg ds)=false:=_root_.id rfl
@[simp] theorem HS {ds} : bi (.tup ds)=false:=_root_.id rfl
@[simp] theorem LG {es} : bi (.sl es)=false:=_root_.id rfl
@[simp] theorem HM {ds} : bi (.ptr ds)=false:=_root_.id rfl
@[simp] theorem LE {g ds} : bi (.fn g ds)=false:=_root_.id rfl
@[simp] theorem HL {sz es} : bi (.own sz es)=false:=_root_.id rfl
@[simp] theorem HH {sz es} : bi (.blk sz es)=false:=_root_.id rfl
@[simp] theorem LF {kt et ks vs} : bi (.mp kt et ks vs)=false:=_root_.id rfl
@[simp] theorem HK {b} : bi (.mrf b)=false:=_root_.id rfl
@[simp] theorem HO {p k n} : bi (.ref p k n)=false:=_root_.id rfl
@[simp] theorem HD {p i off} : bi (.adr p i off)=false:=_root_.id rfl
@[simp] theorem HF {ds} : bi (.agx ds)=false:=_root_.id rfl
@[simp] theorem HR {ds} : bi (.tpx ds)=false:=_root_.id rfl
@[simp] theorem HN {ds} : bi (.ptx ds)=false:=_root_.id rfl
@[simp] theorem HP {n sz ds} : bi (.rfx n sz ds)=false:=_root_.id rfl
@[simp] theorem HI {g ds} : bi (.fnx g ds)=false:=_root_.id rfl
@[simp] theorem HW : dV (.any)=true:=_root_.id rfl
@[simp] theorem HZ {k n} : dV (.int k n)=true:=_root_.id rfl
@[simp] theorem En {b} : dV (.bool b)=true:=_root_.id rfl
@[simp] theorem If {s} : dV (.str s)=true:=_root_.id rfl
@[simp] theorem Eo : dV (.nilp)=true:=_root_.id rfl
@[simp] theorem Ep : dV (.nils)=true:=_root_.id rfl
@[simp] theorem HU {ds} : dV (.agg ds)=ds.all bi:=_root_.id rfl
@[simp] theorem Ih {ds} : dV (.tup ds)=false:=_root_.id rfl
@[simp] theorem LJ {es} : dV (.sl es)=false:=_root_.id rfl
@[simp] theorem Ib {ds} : dV (.ptr ds)=false:=_root_.id rfl
@[simp] theorem LH {g ds} : dV (.fn g ds)=false:=_root_.id rfl
@[simp] theorem Ia {sz es} : dV (.own sz es)=false:=_root_.id rfl
@[simp] theorem HX {sz es} : dV (.blk sz es)=false:=_root_.id rfl
@[simp] theorem LI {kt et ks vs} : dV (.mp kt et ks vs)=false:=_root_.id rfl
@[simp] theorem H0 {b} : dV (.mrf b)=false:=_root_.id rfl
@[simp] theorem Id {p k n} : dV (.ref p k n)=false:=_root_.id rfl
@[simp] theorem HT {p i off} : dV (.adr p i off)=false:=_root_.id rfl
@[simp] theorem HV {ds} : dV (.agx ds)=false:=_root_.id rfl
@[simp] theorem Ig {ds} : dV (.tpx ds)=false:=_root_.id rfl
@[simp] theorem Ic {ds} : dV (.ptx ds)=false:=_root_.id rfl
@[simp] theorem Ie {n sz ds} : dV (.rfx n sz ds)=false:=_root_.id rfl
@[simp] theorem HY {g ds} : dV (.fnx g ds)=false:=_root_.id rfl
@[simp] theorem LO : isF (.any)=true:=_root_.id rfl
@[simp] theorem LR {k n} : isF (.int k n)=true:=_root_.id rfl
@[simp] theorem Ii {b} : isF (.bool b)=true:=_root_.id rfl
@[simp] theorem LY {s} : isF (.str s)=true:=_root_.id rfl
@[simp] theorem Ij : isF (.nilp)=true:=_root_.id rfl
@[simp] theorem Ik : isF (.nils)=true:=_root_.id rfl
@[simp] theorem LM {ds} : isF (.agg ds)=ds.all bi:=_root_.id rfl
@[simp] theorem L0 {ds} : isF (.tup ds)=ds.all dV:=_root_.id rfl
@[simp] theorem Pr {es} : isF (.sl es)=false:=_root_.id rfl
@[simp] theorem LU {ds} : isF (.ptr ds)=false:=_root_.id rfl
@[simp] theorem Pp {g ds} : isF (.fn g ds)=false:=_root_.id rfl
@[simp] theorem LT {sz es} : isF (.own sz es)=false:=_root_.id rfl
@[simp] theorem LP {sz es} : isF (.blk sz es)=false:=_root_.id rfl
@[simp] theorem Pq {kt et ks vs} : isF (.mp kt et ks vs)=false:=_root_.id rfl
@[simp] theorem LS {b} : isF (.mrf b)=false:=_root_.id rfl
@[simp] theorem LW {p k n} : isF (.ref p k n)=false:=_root_.id rfl
@[simp] theorem LK {p i off} : isF (.adr p i off)=false:=_root_.id rfl
@[simp] theorem LN {ds} : isF (.agx ds)=false:=_root_.id rfl
@[simp] theorem LZ {ds} : isF (.tpx ds)=false:=_root_.id rfl
@[simp] theorem LV {ds} : isF (.ptx ds)=false:=_root_.id rfl
@[simp] theorem LX {n sz ds} : isF (.rfx n sz ds)=false:=_root_.id rfl
@[simp] theorem LQ {g ds} : isF (.fnx g ds)=false:=_root_.id rfl
@[simp] theorem Ln : isB (.any)=false:=_root_.id rfl
@[simp] theorem Lq {k n} : isB (.int k n)=false:=_root_.id rfl
@[simp] theorem Hj {b} : isB (.bool b)=false:=_root_.id rfl
@[simp] theorem Ly {s} : isB (.str s)=false:=_root_.id rfl
@[simp] theorem Hk : isB (.nilp)=false:=_root_.id rfl
@[simp] theorem Hl : isB (.nils)=false:=_root_.id rfl
@[simp] theorem Ll {ds} : isB (.agg ds)=false:=_root_.id rfl
@[simp] theorem LA {ds} : isB (.tup ds)=false:=_root_.id rfl
@[simp] theorem Po {es} : isB (.sl es)=false:=_root_.id rfl
@[simp] theorem Lt {ds} : isB (.ptr ds)=false:=_root_.id rfl
@[simp] theorem Pm {g ds} : isB (.fn g ds)=false:=_root_.id rfl
@[simp] theorem Ls {sz es} : isB (.own sz es)=false:=_root_.id rfl
@[simp] theorem Lo {sz es} : isB (.blk sz es)=true:=_root_.id rfl
@[simp] theorem Pn {kt et ks vs} : isB (.mp kt et ks vs)=true:=_root_.id rfl
@[simp] theorem Lr {b} : isB (.mrf b)=false:=_root_.id rfl
@[simp] theorem Lv {p k n} : isB (.ref p k n)=false:=_root_.id rfl
@[simp] theorem Lk {p i off} : isB (.adr p i off)=false:=_root_.id rfl
@[simp] theorem Lm {ds} : isB (.agx ds)=false:=_root_.id rfl
@[simp] theorem Lz {ds} : isB (.tpx ds)=false:=_root_.id rfl
@[simp] theorem Lu {ds} : isB (.ptx ds)=false:=_root_.id rfl
@[simp] theorem Lw {n sz ds} : isB (.rfx n sz ds)=false:=_root_.id rfl
@[simp] theorem Lp {g ds} : isB (.fnx g ds)=false:=_root_.id rfl
@[simp] theorem D3 : cG (.any)=true:=_root_.id rfl
@[simp] theorem D6 {k n} : cG (.int k n)=false:=_root_.id rfl
@[simp] theorem Bd {b} : cG (.bool b)=false:=_root_.id rfl
@[simp] theorem Ee {s} : cG (.str s)=false:=_root_.id rfl
@[simp] theorem Be : cG (.nilp)=false:=_root_.id rfl
@[simp] theorem Bf : cG (.nils)=false:=_root_.id rfl
@[simp] theorem D1 {ds} : cG (.agg ds)=false:=_root_.id rfl
@[simp] theorem Eg {ds} : cG (.tup ds)=false:=_root_.id rfl
@[simp] theorem Hi {es} : cG (.sl es)=false:=_root_.id rfl
@[simp] theorem D9 {ds} : cG (.ptr ds)=false:=_root_.id rfl
@[simp] theorem Hg {g ds} : cG (.fn g ds)=false:=_root_.id rfl
@[simp] theorem D8 {sz es} : cG (.own sz es)=false:=_root_.id rfl
@[simp] theorem D4 {sz es} : cG (.blk sz es)=false:=_root_.id rfl
@[simp] theorem Hh {kt et ks vs} : cG (.mp kt et ks vs)=false:=_root_.id rfl
@[simp] theorem D7 {b} : cG (.mrf b)=false:=_root_.id rfl
@[simp] theorem Eb {p k n} : cG (.ref p k n)=false:=_root_.id rfl
@[simp] theorem D0 {p i off} : cG (.adr p i off)=false:=_root_.id rfl
@[simp] theorem D2 {ds} : cG (.agx ds)=false:=_root_.id rfl
@[simp] theorem Ef {ds} : cG (.tpx ds)=false:=_root_.id rfl
@[simp] theorem Ea {ds} : cG (.ptx ds)=false:=_root_.id rfl
@[simp] theorem Ec {n sz ds} : cG (.rfx n sz ds)=false:=_root_.id rfl
@[simp] theorem D5 {g ds} : cG (.fnx g ds)=false:=_root_.id rfl
@[simp] theorem yP : cellsOf (.any)=[.any]:=_root_.id rfl
@[simp] theorem yS {k n} : cellsOf (.int k n)=[.int k n]:=_root_.id rfl
@[simp] theorem wB {b} : cellsOf (.bool b)=[.bool b]:=_root_.id rfl
@[simp] theorem y5 {s} : cellsOf (.str s)=[.str s]:=_root_.id rfl
@[simp] theorem wC : cellsOf (.nilp)=[.nilp]:=_root_.id rfl
@[simp] theorem wD : cellsOf (.nils)=[.nils]:=_root_.id rfl
@[simp] theorem yN {ds} : cellsOf (.agg ds)=ds:=_root_.id rfl
@[simp] theorem y7 {ds} : cellsOf (.tup ds)=[.tup ds]:=_root_.id rfl
@[simp] theorem AH {es} : cellsOf (.sl es)=[.sl es]:=_root_.id rfl
@[simp] theorem yV {ds} : cellsOf (.ptr ds)=[.ptr ds]:=_root_.id rfl
@[simp] theorem AE {g ds} : cellsOf (.fn g ds)=[.fn g ds]:=_root_.id rfl
@[simp] theorem yU {sz es} : cellsOf (.own sz es)=[.own sz es]:=_root_.id rfl
@[simp] theorem yQ {sz es} : cellsOf (.blk sz es)=[.blk sz es]:=_root_.id rfl
@[simp] theorem AF {kt et ks vs} : cellsOf (.mp kt et ks vs)=[.mp kt et ks vs]:=_root_.id rfl
@[simp] theorem yT {b} : cellsOf (.mrf b)=[.mrf b]:=_root_.id rfl
@[simp] theorem yX {p k n} : cellsOf (.ref p k n)=[.ref p k n]:=_root_.id rfl
@[simp] theorem yM {p i off} : cellsOf (.adr p i off)=[.adr p i off]:=_root_.id rfl
@[simp] theorem yO {ds} : cellsOf (.agx ds)=[.agx ds]:=_root_.id rfl
@[simp] theorem y6 {ds} : cellsOf (.tpx ds)=[.tpx ds]:=_root_.id rfl
@[simp] theorem yW {ds} : cellsOf (.ptx ds)=[.ptx ds]:=_root_.id rfl
@[simp] theorem yY {n sz ds} : cellsOf (.rfx n sz ds)=[.rfx n sz ds]:=_root_.id rfl
@[simp] theorem yR {g ds} : cellsOf (.fnx g ds)=[.fnx g ds]:=_root_.id rfl
@[simp] theorem CM : b6 (.any)=.any:=_root_.id rfl
@[simp] theorem CP {k n} : b6 (.int k n)=.int k n:=_root_.id rfl
@[simp] theorem Av {b} : b6 (.bool b)=.bool b:=_root_.id rfl
@[simp] theorem CX {s} : b6 (.str s)=.str s:=_root_.id rfl
@[simp] theorem Aw : b6 (.nilp)=.nilp:=_root_.id rfl
@[simp] theorem Ax : b6 (.nils)=.nils:=_root_.id rfl
@[simp] theorem CK {ds} : b6 (.agg ds)=.agg ds:=_root_.id rfl
@[simp] theorem CZ {ds} : b6 (.tup ds)=.tup ds:=_root_.id rfl
@[simp] theorem FH {es} : b6 (.sl es)=.sl es:=_root_.id rfl
@[simp] theorem CS {ds} : b6 (.ptr ds)=.ptr ds:=_root_.id rfl
@[simp] theorem FE {g ds} : b6 (.fn g ds)=.fn g ds:=_root_.id rfl
@[simp] theorem CR {sz es} : b6 (.own sz es)=.own sz es:=_root_.id rfl
@[simp] theorem CN {sz es} : b6 (.blk sz es)=.blk sz es:=_root_.id rfl
@[simp] theorem FG {kt et ks vs} : b6 (.mp kt et ks vs)=.mp kt et ks vs:=_root_.id rfl
@[simp] theorem CQ {b} : b6 (.mrf b)=.mrf b:=_root_.id rfl
@[simp] theorem CU {p k n} : b6 (.ref p k n)=.ref p k n:=_root_.id rfl
@[simp] theorem CJ {p i off} : b6 (.adr p i off)=.adr p i off:=_root_.id rfl
@[simp] theorem CL {ds} : b6 (.agx ds)=.agg ds:=_root_.id rfl
@[simp] theorem CY {ds} : b6 (.tpx ds)=.tpx ds:=_root_.id rfl
@[simp] theorem CT {ds} : b6 (.ptx ds)=.ptx ds:=_root_.id rfl
@[simp] theorem CV {n sz ds} : b6 (.rfx n sz ds)=.rfx n sz ds:=_root_.id rfl
@[simp] theorem CO {g ds} : b6 (.fnx g ds)=.fnx g ds:=_root_.id rfl
@[simp] theorem De : aR (.any)=.any:=_root_.id rfl
@[simp] theorem Dh {k n} : aR (.int k n)=.int k n:=_root_.id rfl
@[simp] theorem AB {b} : aR (.bool b)=.bool b:=_root_.id rfl
@[simp] theorem Dp {s} : aR (.str s)=.str s:=_root_.id rfl
@[simp] theorem AC : aR (.nilp)=.nilp:=_root_.id rfl
@[simp] theorem AD : aR (.nils)=.nils:=_root_.id rfl
@[simp] theorem Dc {ds} : aR (.agg ds)=.agg ds:=_root_.id rfl
@[simp] theorem Dr {ds} : aR (.tup ds)=.tup ds:=_root_.id rfl
@[simp] theorem F6 {es} : aR (.sl es)=.sl es:=_root_.id rfl
@[simp] theorem Dk {ds} : aR (.ptr ds)=.ptr ds:=_root_.id rfl
@[simp] theorem F4 {g ds} : aR (.fn g ds)=.fn g ds:=_root_.id rfl
@[simp] theorem Dj {sz es} : aR (.own sz es)=.sl es:=_root_.id rfl
@[simp] theorem Df {sz es} : aR (.blk sz es)=.blk sz es:=_root_.id rfl
@[simp] theorem F5 {kt et ks vs} : aR (.mp kt et ks vs)=.mp kt et ks vs:=_root_.id rfl
@[simp] theorem Di {b} : aR (.mrf b)=.mrf b:=_root_.id rfl
@[simp] theorem Dm {p k n} : aR (.ref p k n)=.ref p k n:=_root_.id rfl
@[simp] theorem Db {p i off} : aR (.adr p i off)=.adr p i off:=_root_.id rfl
@[simp] theorem Dd {ds} : aR (.agx ds)=.agx ds:=_root_.id rfl
@[simp] theorem Dq {ds} : aR (.tpx ds)=.tpx ds:=_root_.id rfl
@[simp] theorem Dl {ds} : aR (.ptx ds)=.ptx ds:=_root_.id rfl
@[simp] theorem Dn {n sz ds} : aR (.rfx n sz ds)=.rfx n sz ds:=_root_.id rfl
@[simp] theorem Dg {g ds} : aR (.fnx g ds)=.fnx g ds:=_root_.id rfl
@[simp] theorem zK : aH (.any)=[]:=_root_.id rfl
@[simp] theorem zO {k n} : aH (.int k n)=[]:=_root_.id rfl
@[simp] theorem xC {b} : aH (.bool b)=[]:=_root_.id rfl
@[simp] theorem zW {s} : aH (.str s)=[]:=_root_.id rfl
@[simp] theorem xD : aH (.nilp)=[]:=_root_.id rfl
@[simp] theorem xE : aH (.nils)=[]:=_root_.id rfl
@[simp] theorem zH {ds} : aH (.agg ds)=[]:=_root_.id rfl
@[simp] theorem zY {ds} : aH (.tup ds)=[]:=_root_.id rfl
@[simp] theorem BB {es} : aH (.sl es)=[]:=_root_.id rfl
@[simp] theorem zR {ds} : aH (.ptr ds)=[]:=_root_.id rfl
@[simp] theorem Bz {g ds} : aH (.fn g ds)=[]:=_root_.id rfl
@[simp] theorem zQ {sz es} : aH (.own sz es)=[]:=_root_.id rfl
@[simp] theorem zM {sz es} : aH (.blk sz es)=[]:=_root_.id rfl
@[simp] theorem BA {kt et ks vs} : aH (.mp kt et ks vs)=[]:=_root_.id rfl
@[simp] theorem zP {b} : aH (.mrf b)=[b]:=_root_.id rfl
@[simp] theorem zT {p k n} : aH (.ref p k n)=[p.root]:=_root_.id rfl
@[simp] theorem zG {p i off} : aH (.adr p i off)=[p.root]:=_root_.id rfl
@[simp] theorem zJ {ds} : aH (.agx ds)=[]:=_root_.id rfl
@[simp] theorem zX {ds} : aH (.tpx ds)=[]:=_root_.id rfl
@[simp] theorem zS {ds} : aH (.ptx ds)=[]:=_root_.id rfl
@[simp] theorem zU {n sz ds} : aH (.rfx n sz ds)=[]:=_root_.id rfl
@[simp] theorem zN {g ds} : aH (.fnx g ds)=[]:=_root_.id rfl
@[simp] theorem BF : bz (.any)=[]:=_root_.id rfl
@[simp] theorem BI {k n} : bz (.int k n)=[]:=_root_.id rfl
@[simp] theorem zZ {b} : bz (.bool b)=[]:=_root_.id rfl
@[simp] theorem BR {s} : bz (.str s)=[]:=_root_.id rfl
@[simp] theorem z6 : bz (.nilp)=[]:=_root_.id rfl
@[simp] theorem z7 : bz (.nils)=[]:=_root_.id rfl
@[simp] theorem BD {ds} : bz (.agg ds)=[]:=_root_.id rfl
@[simp] theorem BT {ds} : bz (.tup ds)=[]:=_root_.id rfl
@[simp] theorem EX {es} : bz (.sl es)=[]:=_root_.id rfl
@[simp] theorem BM {ds} : bz (.ptr ds)=[]:=_root_.id rfl
@[simp] theorem EV {g ds} : bz (.fn g ds)=[]:=_root_.id rfl
@[simp] theorem BL {sz es} : bz (.own sz es)=[]:=_root_.id rfl
@[simp] theorem BG {sz es} : bz (.blk sz es)=[]:=_root_.id rfl
@[simp] theorem EW {kt et ks vs} : bz (.mp kt et ks vs)=[]:=_root_.id rfl
@[simp] theorem BJ {b} : bz (.mrf b)=[b]:=_root_.id rfl
@[simp] theorem BO {p k n} : bz (.ref p k n)=[p.root]:=_root_.id rfl
@[simp] theorem BC {p i off} : bz (.adr p i off)=[p.root]:=_root_.id rfl
@[simp] theorem BE {ds} : bz (.agx ds)=ds.flatMap aH:=_root_.id rfl
@[simp] theorem BS {ds} : bz (.tpx ds)=ds.flatMap aH:=_root_.id rfl
@[simp] theorem BN {ds} : bz (.ptx ds)=ds.flatMap aH:=_root_.id rfl
@[simp] theorem BP {n sz ds} : bz (.rfx n sz ds)=ds.flatMap aH:=_root_.id rfl
@[simp] theorem BH {g ds} : bz (.fnx g ds)=ds.flatMap aH:=_root_.id rfl
@[simp] theorem KF {f : Nat -> D} : dp1 f (.any)=(.any):=_root_.id rfl
@[simp] theorem KI {f : Nat -> D} {k n} : dp1 f (.int k n)=(.int k n):=_root_.id rfl
@[simp] theorem Gi {f : Nat -> D} {b} : dp1 f (.bool b)=(.bool b):=_root_.id rfl
@[simp] theorem KR {f : Nat -> D} {s} : dp1 f (.str s)=(.str s):=_root_.id rfl
@[simp] theorem Gj {f : Nat -> D} : dp1 f (.nilp)=(.nilp):=_root_.id rfl
@[simp] theorem Gk {f : Nat -> D} : dp1 f (.nils)=(.nils):=_root_.id rfl
@[simp] theorem KD {f : Nat -> D} {ds} : dp1 f (.agg ds)=(.agg ds):=_root_.id rfl
@[simp] theorem KU {f : Nat -> D} {ds} : dp1 f (.tup ds)=(.tup ds):=_root_.id rfl
@[simp] theorem OV {f : Nat -> D} {es} : dp1 f (.sl es)=(.sl es):=_root_.id rfl
@[simp] theorem KM {f : Nat -> D} {ds} : dp1 f (.ptr ds)=(.ptr ds):=_root_.id rfl
@[simp] theorem OT {f : Nat -> D} {g ds} : dp1 f (.fn g ds)=(.fn g ds):=_root_.id rfl
@[simp] theorem KL {f : Nat -> D} {sz es} : dp1 f (.own sz es)=(.own sz es):=_root_.id rfl
@[simp] theorem KG {f : Nat -> D} {sz es} : dp1 f (.blk sz es)=(.blk sz es):=_root_.id rfl
@[simp] theorem OU {f : Nat -> D} {kt et ks vs} : dp1 f (.mp kt et ks vs)=(.mp kt et ks vs):=_root_.id rfl
@[simp] theorem KJ {f : Nat -> D} {b} : dp1 f (.mrf b)=(.mrf b):=_root_.id rfl
@[simp] theorem KO {f : Nat -> D} {p k n} : dp1 f (.ref p k n)=(match aT f p with | some (_,es)=>.sl (((es.drop k).take n).map fun e=>e.map aR) | none=>.any):=_root_.id rfl
@[simp] theorem KC {f : Nat -> D} {p i off} : dp1 f (.adr p i off)=(match aT f p with | some (_,es)=>.ptr (((es[i]?.getD []).drop off).map aR) | none=>.any):=_root_.id rfl
@[simp] theorem KE {f : Nat -> D} {ds} : dp1 f (.agx ds)=(.agx ds):=_root_.id rfl
@[simp] theorem KS {f : Nat -> D} {ds} : dp1 f (.tpx ds)=(.tpx ds):=_root_.id rfl
@[simp] theorem KN {f : Nat -> D} {ds} : dp1 f (.ptx ds)=(.ptx ds):=_root_.id rfl
@[simp] theorem KP {f : Nat -> D} {n sz ds} : dp1 f (.rfx n sz ds)=(.rfx n sz ds):=_root_.id rfl
@[simp] theorem KH {f : Nat -> D} {g ds} : dp1 f (.fnx g ds)=(.fnx g ds):=_root_.id rfl
@[simp] theorem OZ {f : Nat -> D} : dp f (.any)=(.any):=_root_.id rfl
@[simp] theorem O2 {f : Nat -> D} {k n} : dp f (.int k n)=(.int k n):=_root_.id rfl
@[simp] theorem KY {f : Nat -> D} {b} : dp f (.bool b)=(.bool b):=_root_.id rfl
@[simp] theorem Pb {f : Nat -> D} {s} : dp f (.str s)=(.str s):=_root_.id rfl
@[simp] theorem KZ {f : Nat -> D} : dp f (.nilp)=(.nilp):=_root_.id rfl
@[simp] theorem K0 {f : Nat -> D} : dp f (.nils)=(.nils):=_root_.id rfl
@[simp] theorem OX {f : Nat -> D} {ds} : dp f (.agg ds)=(.agg ds):=_root_.id rfl
@[simp] theorem Pd {f : Nat -> D} {ds} : dp f (.tup ds)=(.tup ds):=_root_.id rfl
@[simp] theorem Qf {f : Nat -> D} {es} : dp f (.sl es)=(.sl es):=_root_.id rfl
@[simp] theorem O5 {f : Nat -> D} {ds} : dp f (.ptr ds)=(.ptr ds):=_root_.id rfl
@[simp] theorem Qd {f : Nat -> D} {g ds} : dp f (.fn g ds)=(.fn g ds):=_root_.id rfl
@[simp] theorem O4 {f : Nat -> D} {sz es} : dp f (.own sz es)=(.own sz es):=_root_.id rfl
@[simp] theorem O0 {f : Nat -> D} {sz es} : dp f (.blk sz es)=(.blk sz es):=_root_.id rfl
@[simp] theorem Qe {f : Nat -> D} {kt et ks vs} : dp f (.mp kt et ks vs)=(.mp kt et ks vs):=_root_.id rfl
@[simp] theorem O3 {f : Nat -> D} {b} : dp f (.mrf b)=(.mrf b):=_root_.id rfl
@[simp] theorem O7 {f : Nat -> D} {p k n} : dp f (.ref p k n)=(match aT f p with | some (_,es)=>.sl (((es.drop k).take n).map fun e=>e.map aR) | none=>.any):=_root_.id rfl
@[simp] theorem OW {f : Nat -> D} {p i off} : dp f (.adr p i off)=(match aT f p with | some (_,es)=>.ptr (((es[i]?.getD []).drop off).map aR) | none=>.any):=_root_.id rfl
@[simp] theorem OY {f : Nat -> D} {ds} : dp f (.agx ds)=(.agg (ds.map (dp1 f))):=_root_.id rfl
@[simp] theorem Pc {f : Nat -> D} {ds} : dp f (.tpx ds)=(.tup (ds.map (dp1 f))):=_root_.id rfl
@[simp] theorem O6 {f : Nat -> D} {ds} : dp f (.ptx ds)=(.ptr (ds.map (dp1 f))):=_root_.id rfl
@[simp] theorem O8 {f : Nat -> D} {n sz ds} : dp f (.rfx n sz ds)=.rfx n sz ds:=_root_.id rfl
@[simp] theorem O1 {f : Nat -> D} {g ds} : dp f (.fnx g ds)=(.fn g (ds.map (dp1 f))):=_root_.id rfl
@[simp] theorem Dy {f : Nat -> D} : aP f (.any)=(True):=_root_.id rfl
@[simp] theorem DB {f : Nat -> D} {k n} : aP f (.int k n)=(True):=_root_.id rfl
@[simp] theorem AR {f : Nat -> D} {b} : aP f (.bool b)=(True):=_root_.id rfl
@[simp] theorem DJ {f : Nat -> D} {s} : aP f (.str s)=(True):=_root_.id rfl
@[simp] theorem AS {f : Nat -> D} : aP f (.nilp)=(True):=_root_.id rfl
@[simp] theorem AU {f : Nat -> D} : aP f (.nils)=(True):=_root_.id rfl
@[simp] theorem Dw {f : Nat -> D} {ds} : aP f (.agg ds)=(True):=_root_.id rfl
@[simp] theorem DL {f : Nat -> D} {ds} : aP f (.tup ds)=(True):=_root_.id rfl
@[simp] theorem Gn {f : Nat -> D} {es} : aP f (.sl es)=(True):=_root_.id rfl
@[simp] theorem DE {f : Nat -> D} {ds} : aP f (.ptr ds)=(True):=_root_.id rfl
@[simp] theorem Gl {f : Nat -> D} {g ds} : aP f (.fn g ds)=(True):=_root_.id rfl
@[simp] theorem DD {f : Nat -> D} {sz es} : aP f (.own sz es)=(True):=_root_.id rfl
@[simp] theorem Dz {f : Nat -> D} {sz es} : aP f (.blk sz es)=(True):=_root_.id rfl
@[simp] theorem Gm {f : Nat -> D} {kt et ks vs} : aP f (.mp kt et ks vs)=(True):=_root_.id rfl
@[simp] theorem DC {f : Nat -> D} {b} : aP f (.mrf b)=(False):=_root_.id rfl
@[simp] theorem DG {f : Nat -> D} {p k n} : aP f (.ref p k n)=(match aT f p with | some (_,es)=>k + n <= es.length | none=>False):=_root_.id rfl
@[simp] theorem Du {f : Nat -> D} {p i off} : aP f (.adr p i off)=(match aT f p with | some _=>True | none=>False):=_root_.id rfl
@[simp] theorem Dx {f : Nat -> D} {ds} : aP f (.agx ds)=(True):=_root_.id rfl
@[simp] theorem DK {f : Nat -> D} {ds} : aP f (.tpx ds)=(True):=_root_.id rfl
@[simp] theorem DF {f : Nat -> D} {ds} : aP f (.ptx ds)=(True):=_root_.id rfl
@[simp] theorem DH {f : Nat -> D} {n sz ds} : aP f (.rfx n sz ds)=(True):=_root_.id rfl
@[simp] theorem DA {f : Nat -> D} {g ds} : aP f (.fnx g ds)=(True):=_root_.id rfl
@[simp] theorem Gs {f : Nat -> D} : bv f (.any)=(True):=_root_.id rfl
@[simp] theorem Gw {f : Nat -> D} {k n} : bv f (.int k n)=(True):=_root_.id rfl
@[simp] theorem DM {f : Nat -> D} {b} : bv f (.bool b)=(True):=_root_.id rfl
@[simp] theorem GE {f : Nat -> D} {s} : bv f (.str s)=(True):=_root_.id rfl
@[simp] theorem DN {f : Nat -> D} : bv f (.nilp)=(True):=_root_.id rfl
@[simp] theorem DO {f : Nat -> D} : bv f (.nils)=(True):=_root_.id rfl
@[simp] theorem Gq {f : Nat -> D} {ds} : bv f (.agg ds)=(True):=_root_.id rfl
@[simp] theorem GG {f : Nat -> D} {ds} : bv f (.tup ds)=(True):=_root_.id rfl
@[simp] theorem KX {f : Nat -> D} {es} : bv f (.sl es)=(True):=_root_.id rfl
@[simp] theorem Gz {f : Nat -> D} {ds} : bv f (.ptr ds)=(True):=_root_.id rfl
@[simp] theorem KV {f : Nat -> D} {g ds} : bv f (.fn g ds)=(True):=_root_.id rfl
@[simp] theorem Gy {f : Nat -> D} {sz es} : bv f (.own sz es)=(True):=_root_.id rfl
@[simp] theorem Gt {f : Nat -> D} {sz es} : bv f (.blk sz es)=(True):=_root_.id rfl
@[simp] theorem KW {f : Nat -> D} {kt et ks vs} : bv f (.mp kt et ks vs)=(True):=_root_.id rfl
@[simp] theorem Gx {f : Nat -> D} {b} : bv f (.mrf b)=(False):=_root_.id rfl
@[simp] theorem GB {f : Nat -> D} {p k n} : bv f (.ref p k n)=(match aT f p with | some (_,es)=>k + n <= es.length | none=>False):=_root_.id rfl
@[simp] theorem Gp {f : Nat -> D} {p i off} : bv f (.adr p i off)=(match aT f p with | some _=>True | none=>False):=_root_.id rfl
@[simp] theorem Gr {f : Nat -> D} {ds} : bv f (.agx ds)=(∀ d ∈ ds,aP f d):=_root_.id rfl
@[simp] theorem GF {f : Nat -> D} {ds} : bv f (.tpx ds)=(∀ d ∈ ds,aP f d):=_root_.id rfl
@[simp] theorem GA {f : Nat -> D} {ds} : bv f (.ptx ds)=(∀ d ∈ ds,aP f d):=_root_.id rfl
@[simp] theorem GC {f : Nat -> D} {n sz ds} : bv f (.rfx n sz ds)=False:=_root_.id rfl
@[simp] theorem Gu {f : Nat -> D} {g ds} : bv f (.fnx g ds)=(∀ d ∈ ds,aP f d):=_root_.id rfl
@[simp] theorem NE {p i0 o} : ldc p i0 o (.any)=.any:=_root_.id rfl
@[simp] theorem Jb {m} : eD m (.any)=.any:=_root_.id rfl
@[simp] theorem NH {p i0 o k n} : ldc p i0 o (.int k n)=.int k n:=_root_.id rfl
@[simp] theorem Je {m k n} : eD m (.int k n)=.int k n:=_root_.id rfl
@[simp] theorem IG {p i0 o b} : ldc p i0 o (.bool b)=.bool b:=_root_.id rfl
@[simp] theorem EY {m b} : eD m (.bool b)=.bool b:=_root_.id rfl
@[simp] theorem NP {p i0 o s} : ldc p i0 o (.str s)=.str s:=_root_.id rfl
@[simp] theorem Jl {m s} : eD m (.str s)=.str s:=_root_.id rfl
@[simp] theorem IH {p i0 o} : ldc p i0 o (.nilp)=.nilp:=_root_.id rfl
@[simp] theorem EZ {m} : eD m (.nilp)=.nilp:=_root_.id rfl
@[simp] theorem II {p i0 o} : ldc p i0 o (.nils)=.nils:=_root_.id rfl
@[simp] theorem NC {p i0 o ds} : ldc p i0 o (.agg ds)=.agg ds:=_root_.id rfl
@[simp] theorem I9 {m ds} : eD m (.agg ds)=.agg ds:=_root_.id rfl
@[simp] theorem NR {p i0 o ds} : ldc p i0 o (.tup ds)=.tup ds:=_root_.id rfl
@[simp] theorem Jn {m ds} : eD m (.tup ds)=.tup ds:=_root_.id rfl
@[simp] theorem PO {p i0 o es} : ldc p i0 o (.sl es)=.sl es:=_root_.id rfl
@[simp] theorem N0 {m es} : eD m (.sl es)=.sl es:=_root_.id rfl
@[simp] theorem NK {p i0 o ds} : ldc p i0 o (.ptr ds)=.ptr ds:=_root_.id rfl
@[simp] theorem Jh {m ds} : eD m (.ptr ds)=.ptr ds:=_root_.id rfl
@[simp] theorem PM {p i0 o g ds} : ldc p i0 o (.fn g ds)=.fn g ds:=_root_.id rfl
@[simp] theorem NY {m g ds} : eD m (.fn g ds)=.fn g ds:=_root_.id rfl
@[simp] theorem NJ {c i o sz es} : ldc (.r c) i o (.own sz es)=.ref (.n c i o) 0 es.length:=_root_.id rfl
@[simp] theorem Jg {m sz es} : eD m (.own sz es)=.own sz es:=_root_.id rfl
@[simp] theorem NF {p i0 o sz es} : ldc p i0 o (.blk sz es)=.blk sz es:=_root_.id rfl
@[simp] theorem Jc {m sz es} : eD m (.blk sz es)=.blk sz es:=_root_.id rfl
@[simp] theorem PN {p i0 o kt et ks vs} : ldc p i0 o (.mp kt et ks vs)=.mp kt et ks vs:=_root_.id rfl
@[simp] theorem NZ {m kt et ks vs} : eD m (.mp kt et ks vs)=.mp kt et ks vs:=_root_.id rfl
@[simp] theorem NI {p i0 o b} : ldc p i0 o (.mrf b)=.mrf b:=_root_.id rfl
@[simp] theorem Jf {m b} : eD m (.mrf b)=.mrf b:=_root_.id rfl
@[simp] theorem NM {p i0 o q k n} : ldc p i0 o (.ref q k n)=.ref q k n:=_root_.id rfl
@[simp] theorem Jj {m q k n} : eD m (.ref q k n)=.ref q k n:=_root_.id rfl
@[simp] theorem NB {p i0 o q i off} : ldc p i0 o (.adr q i off)=.adr q i off:=_root_.id rfl
@[simp] theorem I8 {m q i off} : eD m (.adr q i off)=.adr q i off:=_root_.id rfl
@[simp] theorem ND {p i0 o ds} : ldc p i0 o (.agx ds)=.agx ds:=_root_.id rfl
@[simp] theorem Ja {m ds} : eD m (.agx ds)=.agx ds:=_root_.id rfl
@[simp] theorem NQ {p i0 o ds} : ldc p i0 o (.tpx ds)=.tpx ds:=_root_.id rfl
@[simp] theorem Jm {m ds} : eD m (.tpx ds)=.tpx ds:=_root_.id rfl
@[simp] theorem NL {p i0 o ds} : ldc p i0 o (.ptx ds)=.ptx ds:=_root_.id rfl
@[simp] theorem NN {p i0 o n sz ds} : ldc p i0 o (.rfx n sz ds)=.rfx n sz ds:=_root_.id rfl
@[simp] theorem Ji {m ds} : eD m (.ptx ds)=.ptx ds:=_root_.id rfl
@[simp] theorem Jk {m n sz ds} : eD m (.rfx n sz ds)=.rfx n sz ds:=_root_.id rfl
@[simp] theorem NG {p i0 o g ds} : ldc p i0 o (.fnx g ds)=.fnx g ds:=_root_.id rfl
@[simp] theorem Jd {m g ds} : eD m (.fnx g ds)=.fnx g ds:=_root_.id rfl
@[simp] theorem E0 {m} : eD m .nils=if m=0 then .nils else .own m []:=_root_.id rfl
def slx (b : Bool) (es : List (List D)) : D:=match b,es with
 | true,[]=>.nils
 | _,es=>.sl es
@[simp] theorem cv {es} : slx false es=.sl es:=by cases es <;> rfl
@[simp] theorem Kc {b x es} : slx b (x::es)=.sl (x::es):=by cases b <;> rfl
theorem f7 (b : Bool) (es : List (List D)) : slx b es=.sl es \/ (slx b es=.nils /\ es=[]):=by cases b <;> cases es <;> simp [slx]
@[simp] theorem Nx {b es} : isV (slx b es)=true:=by cases b <;> cases es <;> rfl
@[simp] theorem Mk {b es} : isK (slx b es)=true:=by cases b <;> cases es <;> rfl
@[simp] theorem MS {b es} : isP (slx b es)=true:=by cases b <;> cases es <;> rfl
@[simp] theorem Nf {b es} : isS (slx b es)=true:=by cases b <;> cases es <;> rfl
@[simp] theorem Hz {b es} : au (slx b es)=true:=by cases b <;> cases es <;> rfl
@[simp] theorem MB {b es} : isO (slx b es)=false:=by cases b <;> cases es <;> rfl
@[simp] theorem Ed {b es} : cG (slx b es)=false:=by cases b <;> cases es <;> rfl
@[simp] theorem Lx {b es} : isB (slx b es)=false:=by cases b <;> cases es <;> rfl
@[simp] theorem yZ {b es} : cellsOf (slx b es)=[slx b es]:=by cases b <;> cases es <;> rfl
@[simp] theorem CW {b es} : b6 (slx b es)=slx b es:=by cases b <;> cases es <;> rfl
@[simp] theorem Do {b es} : aR (slx b es)=slx b es:=by cases b <;> cases es <;> rfl
@[simp] theorem zV {b es} : aH (slx b es)=[]:=by cases b <;> cases es <;> rfl
@[simp] theorem BQ {b es} : bz (slx b es)=[]:=by cases b <;> cases es <;> rfl
@[simp] theorem KQ {f : Nat -> D} {b es} : dp1 f (slx b es)=slx b es:=by cases b <;> cases es <;> rfl
@[simp] theorem O9 {f : Nat -> D} {b es} : dp f (slx b es)=slx b es:=by cases b <;> cases es <;> rfl
@[simp] theorem DI {f : Nat -> D} {b es} : aP f (slx b es)=True:=by cases b <;> cases es <;> rfl
@[simp] theorem GD {f : Nat -> D} {b es} : bv f (slx b es)=True:=by cases b <;> cases es <;> rfl
@[simp] theorem NO {p i o b es} : ldc p i o (slx b es)=slx b es:=by cases b <;> cases es <;> rfl
def qm (d : D) (K : Nat -> Prop) (_ : Tag K) : Prop:=match d with
 | .sl es=>K es.length
 | .nils=>K 0
 | .ref _ _ n=>K n
 | .rfx n _ _=>K n
 | _=>False
@[simp] theorem IU {n sz ds K u} : qm (.rfx n sz ds) K u=K n:=_root_.id rfl
@[simp] theorem NS {es K u} : qm (.sl es) K u=K es.length:=_root_.id rfl
@[simp] theorem EL {K u} : qm .nils K u=K 0:=_root_.id rfl
@[simp] theorem IT {p k n K u} : qm (.ref p k n) K u=K n:=_root_.id rfl
@[simp] theorem IV {b es K u} : qm (slx b es) K u=K es.length:=by cases b <;> cases es <;> rfl
@[simp] theorem Fh {n ds} : kV true n ds=.agg (ds.take n):=_root_.id rfl
@[simp] theorem B3 {n ds} : kV false n ds=ds.headD .any:=_root_.id rfl
@[simp] theorem I0 {t} : ac [] t=.any:=rfl
def lk (b : Bool) (d : D) (r : Env) (t : Nat) : D:=match b with
 | true=>d
 | false=>ac r t
@[simp] theorem NT {d r t} : lk true d r t=d:=rfl
@[simp] theorem IW {d r t} : lk false d r t=ac r t:=rfl
@[simp] theorem EM {s d r t} : ac ((s,d)::r) t=lk (s == t) d r t:=by
 by_cases h : s=t
 ·subst h;simp [ac]
 ·rw [show (s == t)=false by simp [h]];simp [ac,h]
@[simp] theorem Er {e} : oO [] e=[]:=_root_.id rfl
@[simp] theorem Bg {t ts e} : oO (t::ts) e=(t,ac e t)::oO ts e:=_root_.id rfl
@[simp] theorem Ac : k9 []=[]:=_root_.id rfl
@[simp] theorem xZ {t d r} : k9 ((t,d)::r)=bz d++k9 r:=_root_.id rfl
@[simp] theorem FD {e ks} : rP e [] ks=ks:=_root_.id rfl
@[simp] theorem CI {e r rs ks} : rP e (r::rs) ks=rP e rs (if (ks.map (·.1)).contains r then ks else ks++[(r,ac e r)]):=_root_.id rfl
def fQ (f : Nat -> D) (d : D) (ns : List Nat) (K : List D -> List Nat -> Prop) (_ : Tag K) : Prop:=fj f d ns K
def fy (f : Nat -> D) (d : D) (K : D -> List Nat -> Prop) (_ : Tag K) : Prop:=dG f d K
def oi (f : Nat -> D) (ds : List D) (K : List D -> List Nat -> Prop) (_ : Tag K) : Prop:=kj f ds K
def tp (b n : Nat) (x : D) (K : D -> List Nat -> Prop) (_ : Tag K) : Prop:=match x with
 | .blk sz es=>es.length=n /\ (∀ e ∈ es,∀ c ∈ e,au c=true) /\ K (.own sz es) [b]
 | _=>False
@[simp] theorem Fs {b n sz es K u} : tp b n (.blk sz es) K u=(es.length=n /\ (∀ e ∈ es,∀ c ∈ e,au c=true) /\ K (.own sz es) [b]):=_root_.id rfl
theorem dO {f : Nat -> D} {d : D} {K : D -> List Nat -> Prop} {u} (h : au d=true) : fy f d K u=K d []:=by
 cases d <;> simp [au] at h <;> simp [fy,dG,au]
@[simp] theorem CA {f b k n K u} : fy f (.ref (.r b) k n) K u=(k=0 /\ tp b n (f b) K ⟨⟩):=by
 simp only [fy,dG,tp]
 cases f b <;> rfl
theorem eT {f : Nat -> D} {d : D} {K : List D -> List Nat -> Prop} {u} (h : au d=true) : fQ f d [] K u=K [d] []:=by
 cases d <;> simp [au] at h <;> simp [fQ,fj,dG,au,eF]
@[simp] theorem Fv {f ds K u} : fQ f (.agg ds) [] K u=((∀ c ∈ ds,au c=true) /\ K ds []):=by simp [fQ,fj,eF]
@[simp] theorem Fw {f ds K u} : fQ f (.agx ds) [] K u=oi f ds (fun cs bs=>bE bs=true /\ K cs bs) ⟨⟩:=by simp [fQ,oi,fj,eF]
@[simp] theorem Fz {f b k n K u} : fQ f (.ref (.r b) k n) [] K u=(k=0 /\ tp b n (f b) (fun c bs=>K [c] bs) ⟨⟩):=by
 simp only [fQ,fj,dG,tp,eF,if_true,true_or,true_and]
 cases f b <;> rfl
@[simp] theorem CE {f K u} : oi f [] K u=K [] []:=_root_.id rfl
@[simp] theorem Au {f d ds K u} : oi f (d::ds) K u=fy f d (fun c bs=>oi f ds (fun cs bs'=>K (c::cs) (bs++bs')) ⟨⟩) ⟨⟩:=_root_.id rfl
@[simp] theorem Cy {f k n K u} : fy f (.int k n) K u=K (.int k n) []:=dO rfl
@[simp] theorem Fx {f k n K u} : fQ f (.int k n) [] K u=K [.int k n] []:=eT rfl
@[simp] theorem Ar {f n K u} : fy f (.bool n) K u=K (.bool n) []:=dO rfl
@[simp] theorem CF {f n K u} : fQ f (.bool n) [] K u=K [.bool n] []:=eT rfl
@[simp] theorem CD {f n K u} : fy f (.str n) K u=K (.str n) []:=dO rfl
@[simp] theorem FB {f n K u} : fQ f (.str n) [] K u=K [.str n] []:=eT rfl
@[simp] theorem As {f  K u} : fy f .nilp K u=K .nilp []:=dO rfl
@[simp] theorem CG {f  K u} : fQ f .nilp [] K u=K [.nilp] []:=eT rfl
@[simp] theorem At {f  K u} : fy f .nils K u=K .nils []:=dO rfl
@[simp] theorem CH {f  K u} : fQ f .nils [] K u=K [.nils] []:=eT rfl
@[simp] theorem Fu {f n K u} : fy f (.sl n) K u=K (.sl n) []:=dO rfl
@[simp] theorem Ko {f n K u} : fQ f (.sl n) [] K u=K [.sl n] []:=eT rfl
@[simp] theorem Cz {f n K u} : fy f (.ptr n) K u=K (.ptr n) []:=dO rfl
@[simp] theorem Fy {f n K u} : fQ f (.ptr n) [] K u=K [.ptr n] []:=eT rfl
@[simp] theorem Ft {f g n K u} : fy f (.fn g n) K u=K (.fn g n) []:=dO rfl
@[simp] theorem Kn {f g n K u} : fQ f (.fn g n) [] K u=K [.fn g n] []:=eT rfl
@[simp] theorem CB {f b n K u} : fy f (slx b n) K u=K (slx b n) []:=dO (by simp)
@[simp] theorem FA {f b n K u} : fQ f (slx b n) [] K u=K [slx b n] []:=eT (by simp)
def nW (f : Nat -> D) (sz : Nat) (ps : List (Nat × Opd)) (es : List (List D)) (bs : List Nat) (K : List (List D) -> List Nat -> Prop) (_ : Tag K) : Prop:=eK f sz [] ps es bs K
@[simp] theorem B4 {f sz es bs K u} : nW f sz [] es bs K u=K es bs:=_root_.id rfl
@[simp] theorem Aa {f sz i x ps es bs K u} : nW f sz ((i,x)::ps) es bs K u=(i < es.length /\ fQ f (vd f x) [] (fun cs bs'=>cs.length=sz /\ nW f sz ps (es.set i cs) (bs++bs') K ⟨⟩) ⟨⟩):=_root_.id rfl
def hJ (f : Nat -> D) (mv : Bool) (d : D) (sz : Nat) (K : List (List D) -> List Nat -> Prop) (_ : Tag K) : Prop:=eP f mv d sz K
def B7 (b n sz : Nat) (x : D) (K : List (List D) -> List Nat -> Prop) (_ : Tag K) : Prop:=match x with
 | .blk sz' es=>sz'=sz /\ es.length=n /\ (∀ e ∈ es,∀ c ∈ e,isC c=true) /\ K es [b]
 | _=>False
@[simp] theorem JO {b n sz sz' es K u} : B7 b n sz (.blk sz' es) K u=(sz'=sz /\ es.length=n /\ (∀ e ∈ es,∀ c ∈ e,isC c=true) /\ K es [b]):=_root_.id rfl
def B8 (k n sz : Nat) (x : Option (Nat × List (List D))) (K : List (List D) -> List Nat -> Prop) (_ : Tag K) : Prop:=match x with
 | some (sz',es)=>sz'=sz /\ k + n <= es.length /\ (∀ e ∈ (es.drop k).take n,∀ c ∈ e,au c=true) /\ K ((es.drop k).take n) []
 | none=>False
@[simp] theorem Fi {k n sz sz' es K u} : B8 k n sz (some (sz',es)) K u=(sz'=sz /\ k + n <= es.length /\ (∀ e ∈ (es.drop k).take n,∀ c ∈ e,au c=true) /\ K ((es.drop k).take n) []):=_root_.id rfl
@[simp] theorem B9 {f mv sz K u} : hJ f mv .nils sz K u=K [] []:=_root_.id rfl
@[simp] theorem JV {f mv es sz K u} : hJ f mv (.sl es) sz K u=((∀ e ∈ es,e.length=sz /\ ∀ c ∈ e,au c=true) /\ K es []):=_root_.id rfl
@[simp] theorem Fm {f mv b es sz K u} : hJ f mv (slx b es) sz K u=((∀ e ∈ es,e.length=sz /\ ∀ c ∈ e,au c=true) /\ K es []):=by
 rcases f7 b es with h | ⟨h,rfl⟩ <;> rw [h] <;> simp
@[simp] theorem JU {f b k n sz K u} : hJ f true (.ref (.r b) k n) sz K u=(k=0 /\ B7 b n sz (f b) K ⟨⟩):=by
 simp only [hJ,eP,B7]
 cases f b <;> rfl
@[simp] theorem Fl {f p k n sz K u} : hJ f false (.ref p k n) sz K u=B8 k n sz (aT f p) K ⟨⟩:=by
 simp only [hJ,eP,B8]
 cases aT f p <;> rfl
def dj (f : Nat -> D) (o : Option Opd) (dflt : Nat) (K : Nat -> Prop) (_ : Tag K) : Prop:=dH f o dflt K
def FT (d : D) (K : Nat -> Prop) (_ : Tag K) : Prop:=match d with
 | .int _ n=>0 <= n /\ K n.toNat
 | _=>False
@[simp] theorem FU {k n K u} : FT (.int k n) K u=(0 <= n /\ K n.toNat):=_root_.id rfl
@[simp] theorem yJ {f n K u} : dj f none n K u=K n:=_root_.id rfl
@[simp] theorem yK {f x n K u} : dj f (some x) n K u=FT (vd f x) K ⟨⟩:=_root_.id rfl
def fP (x : Option (List D)) (K : List D -> Prop) (_ : Tag K) : Prop:=match x with
 | some r=>K r
 | none=>False
@[simp] theorem Fk {r K u} : fP (some r) K u=K r:=_root_.id rfl
@[simp] theorem Fj {K u} : fP none K u=False:=_root_.id rfl
theorem fa {x : Option (List D)} {K : List D -> Prop} {u} : fP x K u=∃ r,x=some r /\ K r:=by
 cases x <;> simp [fP]
def i9 (x : Option D) (K : Nat -> List (List D) -> Prop) (_ : Tag K) : Prop:=match x with
 | some (.own sz es)=>K sz es
 | _=>False
@[simp] theorem JH {sz es K u} : i9 (some (.own sz es)) K u=K sz es:=_root_.id rfl
theorem iB {x : Option D} {K : Nat -> List (List D) -> Prop} {u} : i9 x K u=∃ sz es,x=some (.own sz es) /\ K sz es:=by
 cases x with
 | none=>simp [i9]
 | some d =>
  cases d <;> simp [i9]
  exact ⟨fun h=>⟨_,_,⟨rfl,rfl⟩,h⟩,by rintro ⟨_,_,⟨rfl,rfl⟩,h⟩;exact h⟩
def wy (x : Option D) (K : D -> Prop) (_ : Tag K) : Prop:=match x with
 | some d=>K d
 | none=>False
@[simp] theorem Da {d K u} : wy (some d) K u=K d:=_root_.id rfl
theorem wA {x : Option D} {K : D -> Prop} {u} : wy x K u=∃ d,x=some d /\ K d:=by
 cases x <;> simp [wy]
def dM (x : D) (K : Nat -> List (List D) -> Prop) (_ : Tag K) : Prop:=match x with
 | .blk sz es=>K sz es
 | _=>False
@[simp] theorem FS {sz es K u} : dM (.blk sz es) K u=K sz es:=_root_.id rfl
abbrev CC:=Nat -> List D -> D -> List D -> Prop
abbrev KT:=List (Nat × D) -> List (Nat × Bool) -> Prop
section
variable {C : CC} {Q : ct -> Env -> Prop} {e e' : Env} {d : D}
def wN (C : CC) (c : dF) (Q : ct -> Env -> Prop) (_ : Tag (c,Q)) (e : Env) : Prop:=wpN C c Q e
def ro (C : CC) (c : dF) (Q : ct -> Env -> Prop) (_ : Tag (c,Q)) (e : Env) : Prop:=wpN C (.loop c) Q e
def sC (C : CC) (K : Env -> Prop) (ns : List ao) (_ : Tag (K,ns)) (e : Env) : Prop:=gB C K ns e
def qt (C : CC) (hs : List Nat) (K : Env -> Prop) (ns : List ao) (_ : Tag (K,ns)) (e : Env) (acc : List (List Nat × List Nat)) : Prop:=iR C hs K ns e acc
def Hd (hs : List Nat) (acc : List (List Nat × List Nat)) : Prop:=jp hs acc.reverse=true
theorem ai {hs : List Nat} {acc : List (List Nat × List Nat)} (h : jp hs acc.reverse=true) : Hd hs acc:=h
def ze (C : CC) (K : Env -> Prop) (ns : List ao) (e : Env) : KT:=fun ws ks=>gB C K ns (ws++dJ ks e)
def F8 (C : CC) (hs : List Nat) (K : Env -> Prop) (ns : List ao) (e : Env) (R : List Nat) (acc : List (List Nat × List Nat)) : KT:=fun ws ks=>wOk R ws ks=true /\ iR C hs K ns (ws++dJ ks e) ((R,wrK ws ks)::acc)
def doT (C : CC) (K : Env -> Prop) (ns : List ao) (_ : Tag (K,ns)) (e : Env) (ws : List (Nat × D)) (ks : List (Nat × Bool)) : Prop:=gB C K ns (ws++dJ ks e)
def bP (Q : ct -> Env -> Prop) (_ : Tag Q) (t : ct) (e : Env) : Prop:=Q t e
def fin (res : List (Nat × Option (Nat × Bool))) (d : D) : ct -> Env -> Prop:=fun t e=>(match t with
   | .ext _=>False
   | _=>True) /\ fI res d e
def x9 (C : CC) (y : dF) (Q : ct -> Env -> Prop) : ct -> Env -> Prop:=fun t e'=>match t with
  | .nrm=>wpN C y Q e'
  | t=>Q t e'
def nw (id : Nat) (Q : ct -> Env -> Prop) : ct -> Env -> Prop:=fun t e'=>match t with
  | .ext i=>if i=id then Q .nrm e' else Q (.ext i) e'
  | t=>Q t e'
def xX (keep : List Nat) (Q : ct -> Env -> Prop) : Env -> Prop:=fun e'=>Q .nrm (prune keep e')
def kOf (C : CC) (hs : Option (List Nat)) (K : Env -> Prop) (ns : List ao) (e : Env) (R : List Nat) (acc : List (List Nat × List Nat)) : KT :=
 match hs with
 | none=>ze C K ns e
 | some hs=>F8 C hs K ns e R acc
def doW (C : CC) (hs : Option (List Nat)) (K : Env -> Prop) (ns : List ao) (_ : Tag (hs,K,ns)) (e : Env) (R : List Nat) (acc : List (List Nat × List Nat)) (ws : List (Nat × D)) (ks : List (Nat × Bool)) : Prop:=kOf C hs K ns e R acc ws ks
def opW (C : CC) (hs : Option (List Nat)) (K : Env -> Prop) (ns : List ao) (dst : Option Nat) (op : NOp) (_ : Tag (hs,K,ns,dst,op)) (e : Env) (R : List Nat) (acc : List (List Nat × List Nat)) : Prop:=ay C (ac e) dst (kOf C hs K ns e R acc) op
def dW (C : CC) (hs : Option (List Nat)) (K : Env -> Prop) (ns : List ao) (dst : Option Nat) (_ : Tag (hs,K,ns)) (e : Env) (R : List Nat) (acc : List (List Nat × List Nat)) (d : D) : Prop:=dc dst (kOf C hs K ns e R acc) d
def oq (C : CC) (g : Nat) (hs : Option (List Nat)) (K : Env -> Prop) (ns : List ao) (dst : Option Nat) (_ : Tag (hs,K,ns)) (e : Env) (R : List Nat) (acc : List (List Nat × List Nat)) (pure : Bool) (ds : List D) : Prop :=
 ∃ d,C g ds d [] /\ (isF d=true \/ pure=true) /\ dc dst (kOf C hs K ns e R acc) d
theorem start {prog : Nat -> Option az} (hC : aw prog C) {g : Nat} {nf : az} {ds : List D} (hp : prog g=some nf) (hl : ds.length=nf.np) (h : wN C nf.body (fin nf.res d) ⟨⟩ (params 0 ds)) : C g ds d []:=hC.1 g nf ds d hp hl h
def p6 (res : List (Nat × Option (Nat × Bool))) (sz : Nat) (es : List (List D)) : ct -> Env -> Prop:=fun t e=>(match t with
   | .ext _=>False
   | _=>True) /\ jc res sz es e
theorem vL {prog : Nat -> Option az} (hC : aw prog C) {g : Nat} {nf : az} {ds : List D} {sz : Nat} {es : List (List D)} (hp : prog g=some nf) (hl : ds.length=nf.np) (h : wN C nf.body (p6 nf.res sz es) ⟨⟩ (params 0 ds)) : C g ds .any [.own sz es]:=hC.2.2.1 g nf ds sz es hp hl h
def sg (res : List (Nat × Option (Nat × Bool))) (d : D) : ct -> Env -> Prop:=fun t e=>(match t with
   | .ext _=>False
   | _=>True) /\ jb res d e
def si (res : List (Nat × Option (Nat × Bool))) (d : D) (sz : Nat) (es' : List (List D)) : ct -> Env -> Prop:=fun t e=>(match t with
   | .ext _=>False
   | _=>True) /\ (0 < es'.length /\ ac e 10015=.blk sz es') /\ fI res d ((10015,.any)::e)
def p8 (res : List (Nat × Option (Nat × Bool))) (sz : Nat) (es : List (List D)) : ct -> Env -> Prop:=fun t e=>(match t with
   | .ext _=>False
   | _=>True) /\ jd res sz es e
theorem Cr {prog : Nat -> Option az} (hC : aw prog C) {g : Nat} {nf : az} {ds : List D} {sz : Nat} {es es' : List (List D)} (hp : prog g=some nf) (hl : ds.length + 1=nf.np) (hpu : ∀ d ∈ ds,isO d=false) (hsz : 0 < sz) (h : wN C nf.body (p8 nf.res sz es') ⟨⟩ ((0,.ref (.r 10015) 0 es.length)::(params 1 ds++[(10015,.blk sz es)]))) : C g (.own sz es::ds) .any [.own sz es',.nils,.nils]:=hC.2.2.2.2.2.1 g nf ds sz es es' hp hl hpu hsz h
def pZ (res : List (Nat × Option (Nat × Bool))) (R : D) : ct -> Env -> Prop:=fun t e=>(match t with
   | .ext _=>False
   | _=>True) /\ pn res R e
theorem vK {prog : Nat -> Option az} (hC : aw prog C) {g : Nat} {nf : az} {ds : List D} {R : D} (hp : prog g=some nf) (hl : ds.length=nf.np) (hok : okR R=true) (h : wN C nf.body (pZ nf.res R) ⟨⟩ (params 0 ds)) : C g ds R [.nils]:=hC.2.2.2.2.2.2 g nf ds R hp hl hok h
def pN (C : CC) (g : Nat) (hs : Option (List Nat)) (K : Env -> Prop) (ns : List ao) (t : Nat) (_ : Tag (hs,K,ns)) (e : Env) (R : List Nat) (acc : List (List Nat × List Nat)) (ds : List D) : Prop :=
 (∃ d,C g ds d [] /\ dc (some t) (kOf C hs K ns e R acc) d) \/ ∃ d,okR d=true /\ C g ds d [.nils] /\ kOf C hs K ns e R acc ((t,dy t d)::aO t d) (de t d)
theorem mF {g : Nat} {hs : Option (List Nat)} {K : Env -> Prop} {ns : List ao} {t : Nat} {u : Tag (hs,K,ns)} {R : List Nat} {acc : List (List Nat × List Nat)} {ds : List D} {d : D} (h : C g ds d [.nils]) (hok : okR d=true) (hk : doW C hs K ns ⟨⟩ e R acc ((t,dy t d)::aO t d) (de t d)) : pN C g hs K ns t u e R acc ds:=.inr ⟨d,hok,h,hk⟩
theorem rW {g : Nat} {hs : Option (List Nat)} {K : Env -> Prop} {ns : List ao} {t : Nat} {u : Tag (hs,K,ns)} {R : List Nat} {acc : List (List Nat × List Nat)} {ds : List D} {d : D} (h : C g ds d []) (hk : dW C hs K ns (some t) ⟨⟩ e R acc d) : pN C g hs K ns t u e R acc ds:=.inl ⟨d,h,hk⟩
def Az (C : CC) (g : Nat) (hs : Option (List Nat)) (K : Env -> Prop) (ns : List ao) (dst : Option Nat) (_ : Tag (hs,K,ns)) (e : Env) (R : List Nat) (acc : List (List Nat × List Nat)) (ds : List D) : Prop :=
 ∃ d,C g ds d [.nilp] /\ dc dst (kOf C hs K ns e R acc) d
def tu (C : CC) (g : Nat) (hs : Option (List Nat)) (K : Env -> Prop) (ns : List ao) (t : Nat) (_ : Tag (hs,K,ns)) (e : Env) (R : List Nat) (acc : List (List Nat × List Nat)) (ds : List D) : Prop :=
 ∃ sz es,C g ds .any [.own sz es] /\ kOf C hs K ns e R acc [(t,.ref (.r (rt t 0)) 0 es.length),(rt t 0,.blk sz es)] [(rt t 0,true)]
theorem mG {g : Nat} {hs : Option (List Nat)} {K : Env -> Prop} {ns : List ao} {t : Nat} {u : Tag (hs,K,ns)} {R : List Nat} {acc : List (List Nat × List Nat)} {ds : List D} {sz : Nat} {es : List (List D)} (h : C g ds .any [.own sz es]) (hk : doW C hs K ns ⟨⟩ e R acc [(t,.ref (.r (rt t 0)) 0 es.length),(rt t 0,.blk sz es)] [(rt t 0,true)]) : tu C g hs K ns t u e R acc ds:=⟨sz,es,h,hk⟩
def pP (C : CC) (g : Nat) (hs : Option (List Nat)) (K : Env -> Prop) (ns : List ao) (dst : Option Nat) (_ : Tag (hs,K,ns)) (e : Env) (R : List Nat) (acc : List (List Nat × List Nat)) (b sz : Nat) (es : List (List D)) (ds : List D) (p : Bool) : Prop:=match dst with
 | none=>∃ es' : List (List D),es'.length=es.length /\ (∀ e ∈ es',e.length=sz /\ ∀ c ∈ e,au c=true) /\ (p=true \/ ∀ e ∈ es',∀ c ∈ e,bi c=true) /\ C g (.own sz es::ds) .any [.own sz es',.nilp] /\ doW C hs K ns ⟨⟩ e R acc [(b,.blk sz es')] []
 | some t=>(∃ es' : List (List D),es'.length=es.length /\ (∀ e ∈ es',e.length=sz /\ ∀ c ∈ e,au c=true) /\ (p=true \/ ∀ e ∈ es',∀ c ∈ e,bi c=true) /\ C g (.own sz es::ds) .any [.own sz es',.nilp] /\ doW C hs K ns ⟨⟩ e R acc [(t,.tup []),(b,.blk sz es')] []) \/ (b ≠ rt t 0 /\ 0 < sz /\ ∃ es' : List (List D),(∀ e ∈ es',e.length=sz /\ ∀ c ∈ e,au c=true) /\ (p=true \/ ∀ e ∈ es',∀ c ∈ e,bi c=true) /\ C g (.own sz es::ds) .any [.own sz es',.nils] /\ doW C hs K ns ⟨⟩ e R acc [(t,.ref (.r (rt t 0)) 0 es'.length),(rt t 0,.blk sz es'),(b,.any)] [(rt t 0,true)])
theorem rX {t : Nat} {g : Nat} {hs : Option (List Nat)} {K : Env -> Prop} {ns : List ao} {u : Tag (hs,K,ns)} {R : List Nat} {acc : List (List Nat × List Nat)} {b sz : Nat} {es es' : List (List D)} {ds : List D} {p : Bool} (h : C g (.own sz es::ds) .any [.own sz es',.nilp]) (hp : (p=true \/ ∀ e ∈ es',∀ c ∈ e,bi c=true)) (hl : es'.length=es.length) (hu : (∀ e ∈ es',e.length=sz /\ ∀ c ∈ e,au c=true)) (hk : doW C hs K ns ⟨⟩ e R acc [(t,.tup []),(b,.blk sz es')] []) : pP C g hs K ns (some t) u e R acc b sz es ds p:=.inl ⟨es',hl,hu,hp,h,hk⟩
def Cq (C : CC) (g : Nat) (hs : Option (List Nat)) (K : Env -> Prop) (ns : List ao) (dst : Option Nat) (_ : Tag (hs,K,ns)) (e : Env) (R : List Nat) (acc : List (List Nat × List Nat)) (b n : Nat) (xs : List Opd) (d : D) : Prop:=match d with
 | .blk sz es=>es.length=n /\ (∀ e ∈ es,∀ c ∈ e,au c=true) /\ (∀ x ∈ xs,bv (fbE (ac e) b) (vd (fbE (ac e) b) x)) /\ pP C g hs K ns dst ⟨⟩ e R acc b sz es (xs.map (dpv (fbE (ac e) b))) (xs.all fun y=>isV (vd (fbE (ac e) b) y))
 | _=>False
def Kf (C : CC) (g : Nat) (hs : Option (List Nat)) (K : Env -> Prop) (ns : List ao) (dst : Option Nat) (_ : Tag (hs,K,ns)) (e : Env) (R : List Nat) (acc : List (List Nat × List Nat)) (xs : List Opd) (d : D) : Prop:=match d with
 | .ref (.r b) k n=>k=0 /\ Cq C g hs K ns dst ⟨⟩ e R acc b n xs (ac e b)
 | _=>False
@[simp] theorem Pg {f : Nat -> D} {b t : Nat} : fbE f b t=if t=b then .any else f t:=_root_.id rfl
theorem aa {g : Nat} {hs : Option (List Nat)} {K : Env -> Prop} {ns : List ao} {dst : Option Nat} {u : Tag (hs,K,ns)} {R : List Nat} {acc : List (List Nat × List Nat)} {p : Bool} {ds : List D} (h : C g ds d []) (hf : isF d=true \/ p=true) (hk : dW C hs K ns dst ⟨⟩ e R acc d) : oq C g hs K ns dst u e R acc p ds:=⟨d,h,hf,hk⟩
def nY (S : Type) (G : S -> Env) (I : S -> Prop) (m : S -> Nat) (s : S) (Q : ct -> Env -> Prop) : ct -> Env -> Prop:=fun t e'=>match t with
    | .nrm=>∃ s',I s' /\ m s' < m s /\ jf e' (G s')
    | t=>Q t e'
theorem av {c : dF} {u : Tag (c,Q)} (S : Type) (G : S -> Env) (I : S -> Prop) (m : S -> Nat) (s0 : S) (h0 : I s0) (hw : jf e (G s0))
  (h : ∀ s,I s -> wN C c (nY S G I m s Q) ⟨⟩ (G s)) : ro C c Q u e:=⟨S,G,I,m,s0,h0,hw,h⟩
@[simp] theorem OM {u} : wN C .skip Q u e=bP Q ⟨⟩ .nrm e:=_root_.id rfl
@[simp] theorem Qa {hs keep ops u} : wN C (.reg false hs keep ops) Q u e=sC C (xX keep Q) ops ⟨⟩ e:=_root_.id rfl
@[simp] theorem OJ {hs keep ops u} : wN C (.reg true hs keep ops) Q u e=qt C hs (xX keep Q) ops ⟨⟩ e []:=_root_.id rfl
@[simp] theorem Qc {x y u} : wN C (.seq x y) Q u e=wN C x (x9 C y Q) ⟨⟩ e:=_root_.id rfl
def brB (b : Bool) (X Y : Prop) (_ : Tag (X,Y)) : Prop:=(b=true -> X) /\ (b=false -> Y)
theorem al {b : Bool} {X Y : Prop} {u} (h1 : b=true -> X) (h2 : b=false -> Y) : brB b X Y u:=⟨h1,h2⟩
@[simp] theorem F1 {X Y : Prop} {u} : brB true X Y u=X:=by simp [brB]
@[simp] theorem C9 {X Y : Prop} {u} : brB false X Y u=Y:=by simp [brB]
def cdW (C : CC) (x y : dF) (Q : ct -> Env -> Prop) (_ : Tag (x,y,Q)) (e : Env) (d : D) : Prop:=match d with
 | .bool b=>brB b (wN C x Q ⟨⟩ e) (wN C y Q ⟨⟩ e) ⟨⟩
 | .bb=>wN C x Q ⟨⟩ e /\ wN C y Q ⟨⟩ e
 | _=>False
@[simp] theorem OP {x y u} : cdW C x y Q u e .bb=(wN C x Q ⟨⟩ e /\ wN C y Q ⟨⟩ e):=_root_.id rfl
@[simp] theorem F2 {x y u b} : cdW C x y Q u e (.bool b)=brB b (wN C x Q ⟨⟩ e) (wN C y Q ⟨⟩ e) ⟨⟩:=_root_.id rfl
@[simp] theorem OI {c x y u} : wN C (.cond c x y) Q u e=cdW C x y Q ⟨⟩ e (vd (ac e) c):=_root_.id rfl
@[simp] theorem Kl {id c u} : wN C (.block id c) Q u e=wN C c (nw id Q) ⟨⟩ e:=_root_.id rfl
@[simp] theorem OL {c u} : wN C (.loop c) Q u e=ro C c Q ⟨⟩ e:=_root_.id rfl
@[simp] theorem OK {id u} : wN C (.exit id) Q u e=bP Q ⟨⟩ (.ext id) e:=_root_.id rfl
@[simp] theorem Qb {u} : wN C .ret Q u e=bP Q ⟨⟩ .ret e:=_root_.id rfl
@[simp] theorem w9 {y u} : bP (x9 C y Q) u .nrm e=wN C y Q ⟨⟩ e:=_root_.id rfl
@[simp] theorem w8 {y u i} : bP (x9 C y Q) u (.ext i) e=bP Q ⟨⟩ (.ext i) e:=_root_.id rfl
@[simp] theorem xa {y u} : bP (x9 C y Q) u .ret e=bP Q ⟨⟩ .ret e:=_root_.id rfl
@[simp] theorem tZ {id u} : bP (nw id Q) u .nrm e=bP Q ⟨⟩ .nrm e:=_root_.id rfl
@[simp] theorem tY {id u i} : bP (nw id Q) u (.ext i) e=if i=id then bP Q ⟨⟩ .nrm e else bP Q ⟨⟩ (.ext i) e:=_root_.id rfl
@[simp] theorem t6 {id u} : bP (nw id Q) u .ret e=bP Q ⟨⟩ .ret e:=_root_.id rfl
@[simp] theorem wS {r u} : bP (fin r d) u .nrm e=fI r d e:=by simp [bP,fin]
@[simp] theorem wT {r u} : bP (fin r d) u .ret e=fI r d e:=by simp [bP,fin]
@[simp] theorem vY {r d} {u : Tag (sg r d)} : bP (sg r d) u .nrm e=jb r d e:=by simp [bP,sg]
@[simp] theorem vZ {r d} {u : Tag (sg r d)} : bP (sg r d) u .ret e=jb r d e:=by simp [bP,sg]
@[simp] theorem vW {r sz es} {u : Tag (p6 r sz es)} : bP (p6 r sz es) u .nrm e=jc r sz es e:=by simp [bP,p6]
@[simp] theorem vX {r sz es} {u : Tag (p6 r sz es)} : bP (p6 r sz es) u .ret e=jc r sz es e:=by simp [bP,p6]
@[simp] theorem v8 {r d sz es} {u : Tag (si r d sz es)} : bP (si r d sz es) u .nrm e=((0 < es.length /\ ac e 10015=.blk sz es) /\ fI r d ((10015,.any)::e)):=by simp [bP,si]
@[simp] theorem wa {r d sz es} {u : Tag (si r d sz es)} : bP (si r d sz es) u .ret e=((0 < es.length /\ ac e 10015=.blk sz es) /\ fI r d ((10015,.any)::e)):=by simp [bP,si]
@[simp] theorem v6 {r sz es} {u : Tag (p8 r sz es)} : bP (p8 r sz es) u .nrm e=jd r sz es e:=by simp [bP,p8]
@[simp] theorem v7 {r sz es} {u : Tag (p8 r sz es)} : bP (p8 r sz es) u .ret e=jd r sz es e:=by simp [bP,p8]
@[simp] theorem vU {r d} {u : Tag (pZ r d)} : bP (pZ r d) u .nrm e=pn r d e:=by simp [bP,pZ]
@[simp] theorem vV {r d} {u : Tag (pZ r d)} : bP (pZ r d) u .ret e=pn r d e:=by simp [bP,pZ]
@[simp] theorem t8 {S G I m s u} : bP (nY S G I m s Q) u .nrm e=∃ s',I s' /\ m s' < m s /\ jf e (G s'):=_root_.id rfl
@[simp] theorem t7 {S G I m s u i} : bP (nY S G I m s Q) u (.ext i) e=bP Q ⟨⟩ (.ext i) e:=_root_.id rfl
@[simp] theorem ua {S G I m s u} : bP (nY S G I m s Q) u .ret e=bP Q ⟨⟩ .ret e:=_root_.id rfl
end
section
variable {C : CC} {Q : ct -> Env -> Prop} {e : Env} {K : Env -> Prop} {dst : Option Nat} {d : D} {hs : Option (List Nat)} {ns : List ao} {R : List Nat} {acc : List (List Nat × List Nat)} {u : Tag (hs,K,ns)}
@[simp] theorem JE {keep u} : sC C (xX keep Q) [] u e=bP Q ⟨⟩ .nrm (prune keep e):=_root_.id rfl
@[simp] theorem JD {h keep u} : qt C h (xX keep Q) [] u e acc=(Hd h acc /\ bP Q ⟨⟩ .nrm (prune keep e)):=_root_.id rfl
@[simp] theorem Ff {dst op ns u} : sC C K (⟨dst,op,none⟩::ns) u e=opW C none K ns dst op ⟨⟩ e [] []:=_root_.id rfl
@[simp] theorem Fd {h dst op ns u} : qt C h K (⟨dst,op,none⟩::ns) u e acc=(chk (ac e) ⟨dst,op,none⟩=true /\ opW C (some h) K ns dst op ⟨⟩ e (gQ (ac e) ⟨dst,op,none⟩) acc):=_root_.id rfl
def md (C : CC) (h : List Nat) (K : Env -> Prop) (ns : List ao) (_ : Tag (h,K,ns)) (e : Env) (dst : Option Nat) (R : List Nat) (acc : List (List Nat × List Nat)) : Prop:=f6 e dst fun e'=>iR C h K ns e' ((R,sc dst)::acc)
@[simp] theorem Ci {h t ns u} : md C h K ns u e (some t) R acc=qt C h K ns ⟨⟩ ((t,.tup [])::e) ((R,[4 * t])::acc):=_root_.id rfl
@[simp] theorem Cg {h ns u} : md C h K ns u e none R acc=qt C h K ns ⟨⟩ e ((R,[])::acc):=_root_.id rfl
def gdT (C : CC) (K : Env -> Prop) (ns : List ao) (dst : Option Nat) (op : NOp) (s : Nat) (want : Bool) (_ : Tag (K,ns)) (e : Env) (d : D) : Prop:=match d with
 | .bool b=>(b=want -> opW C none K ns dst op ⟨⟩ ((s,.bool want)::e) [] []) /\ (b=!want -> dW C none K ns dst ⟨⟩ ((s,.bool !want)::e) [] [] (.tup []))
 | .tup []=>dW C none K ns dst ⟨⟩ e [] [] (.tup [])
 | _=>False
@[simp] theorem GW {op s b u} : gdT C K ns dst op s true u e (.bool b)=brB b (opW C none K ns dst op ⟨⟩ ((s,.bool true)::e) [] []) (dW C none K ns dst ⟨⟩ ((s,.bool false)::e) [] [] (.tup [])) ⟨⟩:=_root_.id rfl
@[simp] theorem DU {op s b u} : gdT C K ns dst op s false u e (.bool b)=brB b (dW C none K ns dst ⟨⟩ ((s,.bool true)::e) [] [] (.tup [])) (opW C none K ns dst op ⟨⟩ ((s,.bool false)::e) [] []) ⟨⟩:=by
 simp only [gdT,brB,Bool.not_false];exact propext ⟨fun h=>⟨h.2,h.1⟩,fun h=>⟨h.2,h.1⟩⟩
@[simp] theorem GV {op s want u} : gdT C K ns dst op s want u e (.tup [])=dW C none K ns dst ⟨⟩ e [] [] (.tup []):=_root_.id rfl
@[simp] theorem Fg {dst op s want ns u} : sC C K (⟨dst,op,some (s,want)⟩::ns) u e=gdT C K ns dst op s want ⟨⟩ e (ac e s):=by
 simp only [sC,gB,opW,pG,f6,gdT,dW,dc,kOf,ze,dJ]
 cases ac e s <;> cases dst <;> (first | rfl | (rename_i x _ ;cases x <;> rfl) | (rename_i x;cases x <;> rfl))
def gdD (C : CC) (h : List Nat) (K : Env -> Prop) (ns : List ao) (dst : Option Nat) (op : NOp) (want : Bool) (_ : Tag (K,ns)) (e : Env) (R : List Nat) (acc : List (List Nat × List Nat)) (d : D) : Prop:=match d with
 | .bool b=>(b=want -> opW C (some h) K ns dst op ⟨⟩ e R acc) /\ (b=!want -> md C h K ns ⟨⟩ e dst R acc)
 | .tup []=>md C h K ns ⟨⟩ e dst R acc
 | _=>False
@[simp] theorem GU {h op b u} : gdD C h K ns dst op true u e R acc (.bool b)=brB b (opW C (some h) K ns dst op ⟨⟩ e R acc) (md C h K ns ⟨⟩ e dst R acc) ⟨⟩:=_root_.id rfl
@[simp] theorem DT {h op b u} : gdD C h K ns dst op false u e R acc (.bool b)=brB b (md C h K ns ⟨⟩ e dst R acc) (opW C (some h) K ns dst op ⟨⟩ e R acc) ⟨⟩:=by
 simp only [gdD,brB,Bool.not_false];exact propext ⟨fun h=>⟨h.2,h.1⟩,fun h=>⟨h.2,h.1⟩⟩
@[simp] theorem GT {h op want u} : gdD C h K ns dst op want u e R acc (.tup [])=md C h K ns ⟨⟩ e dst R acc:=_root_.id rfl
@[simp] theorem Fe {h dst op s want ns u} : qt C h K (⟨dst,op,some (s,want)⟩::ns) u e acc=(chk (ac e) ⟨dst,op,some (s,want)⟩=true /\ gdD C h K ns dst op want ⟨⟩ e (gQ (ac e) ⟨dst,op,some (s,want)⟩) acc (ac e s)):=_root_.id rfl
@[simp] theorem Gh {K ns u ws ks} : doW C none K ns u e R acc ws ks=sC C K ns ⟨⟩ (ws++dJ ks e):=_root_.id rfl
@[simp] theorem Gg {h K ns u ws ks} : doW C (some h) K ns u e R acc ws ks=(wOk R ws ks=true /\ qt C h K ns ⟨⟩ (ws++dJ ks e) ((R,wrK ws ks)::acc)):=_root_.id rfl
@[simp] theorem KB {t} : dW C hs K ns (some t) u e R acc d=doW C hs K ns ⟨⟩ e R acc [(t,d)] []:=_root_.id rfl
@[simp] theorem KA : dW C hs K ns none u e R acc d=doW C hs K ns ⟨⟩ e R acc [] []:=_root_.id rfl
def aU (ks : List (Nat × Bool)) (d : D) : D:=if aD ks d then .any else d
theorem cj (ks : List (Nat × Bool)) (d : D) : aU ks d=bif aD ks d then .any else d:=by
 unfold aU;cases aD ks d <;> rfl
@[simp] theorem EK : dJ [] e=e:=_root_.id rfl
@[simp] theorem EJ {k ks} : dJ (k::ks) []=[]:=_root_.id rfl
@[simp] theorem Bm {k ks s d} : dJ (k::ks) ((s,d)::e)=(s,aU (k::ks) d)::dJ (k::ks) e:=_root_.id rfl
@[simp] theorem Ev {ks} : aU ks .any=.any:=by simp [aU]
@[simp] theorem Ey {ks k n} : aU ks (.int k n)=.int k n:=by simp [aU,aD,dw,aJ]
@[simp] theorem Bj {ks n} : aU ks (.bool n)=.bool n:=by simp [aU,aD,dw,aJ]
@[simp] theorem EG {ks n} : aU ks (.str n)=.str n:=by simp [aU,aD,dw,aJ]
@[simp] theorem IB {ks} : aU ks .bb=.bb:=by simp [aU,aD,dw,aJ]
@[simp] theorem Bk {ks} : aU ks .nilp=.nilp:=by simp [aU,aD,dw,aJ]
@[simp] theorem Bl {ks} : aU ks .nils=.nils:=by simp [aU,aD,dw,aJ]
@[simp] theorem Et {ks n} : aU ks (.agg n)=.agg n:=by simp [aU,aD,dw,aJ]
@[simp] theorem EI {ks n} : aU ks (.tup n)=.tup n:=by simp [aU,aD,dw,aJ]
@[simp] theorem IE {ks n} : aU ks (.sl n)=.sl n:=by simp [aU,aD,dw,aJ]
@[simp] theorem EB {ks n} : aU ks (.ptr n)=.ptr n:=by simp [aU,aD,dw,aJ]
@[simp] theorem IC {ks g n} : aU ks (.fn g n)=.fn g n:=by simp [aU,aD,dw,aJ]
@[simp] theorem Ew {ks g n} : aU ks (.blk g n)=.blk g n:=by simp [aU,aD,dw,aJ]
@[simp] theorem ID {ks kt et xs vs} : aU ks (.mp kt et xs vs)=.mp kt et xs vs:=by simp [aU,aD,dw,aJ]
@[simp] theorem ED {b all ks p k n} : aU ((b,all)::ks) (.ref p k n)=if bT b all p then .any else aU ks (.ref p k n):=by
 have h : aU ((b,all)::ks) (.ref p k n)=bif (bT b all p || aD ks (.ref p k n)) then .any else .ref p k n:=cj ..
 rw [h,cj]
 cases bT b all p <;> rfl
@[simp] theorem Es {b all ks p k n} : aU ((b,all)::ks) (.adr p k n)=if bT b all p then .any else aU ks (.adr p k n):=by
 have h : aU ((b,all)::ks) (.adr p k n)=bif (bT b all p || aD ks (.adr p k n)) then .any else .adr p k n:=cj ..
 rw [h,cj]
 cases bT b all p <;> rfl
@[simp] theorem Eu {b all ks n} : aU ((b,all)::ks) (.agx n)=if n.any (aJ b all) then .any else aU ks (.agx n):=by
 have h : aU ((b,all)::ks) (.agx n)=bif (n.any (aJ b all) || aD ks (.agx n)) then .any else .agx n:=cj ..
 rw [h,cj]
 cases n.any (aJ b all) <;> rfl
@[simp] theorem Ex {b all ks g n} : aU ((b,all)::ks) (.fnx g n)=if n.any (aJ b all) then .any else aU ks (.fnx g n):=by
 have h : aU ((b,all)::ks) (.fnx g n)=bif (n.any (aJ b all) || aD ks (.fnx g n)) then .any else .fnx g n:=cj ..
 rw [h,cj]
 cases n.any (aJ b all) <;> rfl
@[simp] theorem EA {d} : aU [] d=d:=by simp [aU,aD]
@[simp] theorem EF {ks b es} : aU ks (slx b es)=slx b es:=by cases b <;> cases es <;> simp [slx]
def iM (C : CC) (hs : Option (List Nat)) (K : Env -> Prop) (ns : List ao) (dst : Option Nat) (_ : Tag (hs,K,ns)) (e : Env) (R : List Nat) (acc : List (List Nat × List Nat)) (sz : Nat) (es : List (List D)) (i : Nat) : Prop :=
 ∃ c,es[i]? = some c /\ c.length=sz /\ dc dst (kOf C hs K ns e R acc) (.ptr c)
@[simp] theorem Ha {α : Type} [Inhabited α] {sz : Nat} {xs : List α} {f : α -> List D} {i : Nat} : iM C hs K ns dst u e R acc sz (xs.map f) i=(i < xs.length /\ (f xs[i]!).length=sz /\ dW C hs K ns dst ⟨⟩ e R acc (.ptr (f xs[i]!))):=by
 apply propext
 unfold iM dW
 constructor
 ·rintro ⟨c,h,h1,h2⟩
  rw [List.getElem?_map,Option.map_eq_some_iff] at h
  obtain ⟨x,hx,rfl⟩:=h
  obtain ⟨hi,rfl⟩:=List.getElem?_eq_some_iff.1 hx
  rw [getElem!_pos xs i hi]
  exact ⟨hi,h1,h2⟩
 ·rintro ⟨hi,h1,h2⟩
  rw [getElem!_pos xs i hi] at h1 h2
  exact ⟨_,by rw [List.getElem?_map,List.getElem?_eq_getElem hi];rfl,h1,h2⟩
def Ay (C : CC) (hs : Option (List Nat)) (K : Env -> Prop) (ns : List ao) (dst : Option Nat) (_ : Tag (hs,K,ns)) (e : Env) (R : List Nat) (acc : List (List Nat × List Nat)) (s : List UInt8) (i : Nat) : Prop :=
 ∃ b,s[i]? = some b /\ dc dst (kOf C hs K ns e R acc) (.int .u8 b.toNat)
@[simp] theorem Kx {s : List UInt8} {i : Nat} : Ay C hs K ns dst u e R acc s i=(i < s.length /\ dW C hs K ns dst ⟨⟩ e R acc (.int .u8 (s[i]!).toNat)):=by
 apply propext
 unfold Ay dW
 constructor
 ·rintro ⟨b,h,h2⟩
  obtain ⟨hi,rfl⟩:=List.getElem?_eq_some_iff.1 h
  rw [getElem!_pos s i hi]
  exact ⟨hi,h2⟩
 ·rintro ⟨hi,h2⟩
  rw [getElem!_pos s i hi] at h2
  exact ⟨_,List.getElem?_eq_getElem hi,h2⟩
def j5 (C : CC) (hs : Option (List Nat)) (K : Env -> Prop) (ns : List ao) (dst : Option Nat) (_ : Tag (hs,K,ns)) (e : Env) (R : List Nat) (acc : List (List Nat × List Nat)) (n : Nat) (ag : Bool) (p : Pa) (es : List (List D)) (i off : Nat) : Prop :=
 ∃ r,es[i]? = some r /\ off + n <= r.length /\ match ag with
    | true=>(((r.drop off).take n).all isV=true -> dc dst (kOf C hs K ns e R acc) (.agg ((r.drop off).take n))) /\
      (((r.drop off).take n).all isV=false -> dc dst (kOf C hs K ns e R acc) (.agx (((r.drop off).take n).mapIdx fun j c=>ldc p i (off + j) c)))
    | false=>dc dst (kOf C hs K ns e R acc) (ldc p i off ((r.drop off).headD .any))
theorem nZ {n : Nat} {ag : Bool} {p : Pa} {es : List (List D)} {i off : Nat} {r : List D} (hr : es[i]? = some r) (hl : off + n <= r.length) (hk : match ag with
    | true=>(((r.drop off).take n).all isV=true -> dW C hs K ns dst ⟨⟩ e R acc (.agg ((r.drop off).take n))) /\
      (((r.drop off).take n).all isV=false -> dW C hs K ns dst ⟨⟩ e R acc (.agx (((r.drop off).take n).mapIdx fun j c=>ldc p i (off + j) c)))
    | false=>dW C hs K ns dst ⟨⟩ e R acc (ldc p i off ((r.drop off).headD .any))) : j5 C hs K ns dst u e R acc n ag p es i off:=by
 refine ⟨r,hr,hl,?_⟩
 cases ag <;> exact hk
@[simp] theorem JT {n : Nat} {ag : Bool} {p : Pa} {r : List D} {off : Nat} : j5 C hs K ns dst u e R acc n ag p [r] 0 off=(off + n <= r.length /\ match ag with
    | true=>(((r.drop off).take n).all isV=true -> dW C hs K ns dst ⟨⟩ e R acc (.agg ((r.drop off).take n))) /\
      (((r.drop off).take n).all isV=false -> dW C hs K ns dst ⟨⟩ e R acc (.agx (((r.drop off).take n).mapIdx fun j c=>ldc p 0 (off + j) c)))
    | false=>dW C hs K ns dst ⟨⟩ e R acc (ldc p 0 off ((r.drop off).headD .any))):=by
 apply propext
 constructor
 ·rintro ⟨r',h1,h2,h3⟩
  simp at h1;subst h1
  refine ⟨h2,?_⟩
  cases ag <;> exact h3
 ·rintro ⟨h2,h3⟩
  refine ⟨r,rfl,h2,?_⟩
  cases ag <;> exact h3
end
section
variable {C : CC} {Q : ct -> Env -> Prop} {e : Env} {K : Env -> Prop} {dst : Option Nat} {hs : Option (List Nat)} {ns : List ao} {R : List Nat} {acc : List (List Nat × List Nat)} {u : Tag (hs,K,ns)}
@[simp] theorem Ou {x v1} : opW C hs K ns dst (.mov x) v1 e R acc=(isS (vd (ac e) x)=true /\ dW C hs K ns dst ⟨⟩ e R acc (vd (ac e) x)):=_root_.id rfl
@[simp] theorem Ox {x v1} : opW C hs K ns dst (.nck x) v1 e R acc=(match (generalizing:=false) vd (ac e) x with
  | .ptr ds=>dW C hs K ns dst ⟨⟩ e R acc (.ptr ds)
  | .adr p i off=>dW C hs K ns dst ⟨⟩ e R acc (.adr p i off)
  | .ptx ds=>dW C hs K ns dst ⟨⟩ e R acc (.ptx ds)
  | _=>False):=_root_.id rfl
@[simp] theorem JC {c a b v1} : opW C hs K ns dst (.pick c a b) v1 e R acc=(match (generalizing:=false) vd (ac e) c with
  | .bool v=>(v=true -> isS (vd (ac e) a)=true /\ dW C hs K ns dst ⟨⟩ e R acc (vd (ac e) a)) /\ (v=false -> isS (vd (ac e) b)=true /\ dW C hs K ns dst ⟨⟩ e R acc (vd (ac e) b))
  | _=>False):=_root_.id rfl
@[simp] theorem N8 {op x y v1} : opW C hs K ns dst (.bin op x y) v1 e R acc=(match (generalizing:=false) vd (ac e) x,vd (ac e) y with
  | .int k a,.int k' b=>match (generalizing:=false) op with
   | .add=>k=k' /\ dW C hs K ns dst ⟨⟩ e R acc (.int k (k.wrap (a + b)))
   | .sub=>k=k' /\ dW C hs K ns dst ⟨⟩ e R acc (.int k (k.wrap (a - b)))
   | .mul=>k=k' /\ dW C hs K ns dst ⟨⟩ e R acc (.int k (k.wrap (a * b)))
   | .quo=>k=k' /\ b ≠ 0 /\ dW C hs K ns dst ⟨⟩ e R acc (.int k (k.wrap (a.tdiv b)))
   | .rem=>k=k' /\ b ≠ 0 /\ dW C hs K ns dst ⟨⟩ e R acc (.int k (a.tmod b))
   | .and=>k=k' /\ dW C hs K ns dst ⟨⟩ e R acc (.int k (bits .and k a b))
   | .or=>k=k' /\ dW C hs K ns dst ⟨⟩ e R acc (.int k (bits .or k a b))
   | .xor=>k=k' /\ dW C hs K ns dst ⟨⟩ e R acc (.int k (bits .xor k a b))
   | .andNot=>k=k' /\ dW C hs K ns dst ⟨⟩ e R acc (.int k (bits .andNot k a b))
   | .shl=>0 <= b /\ dW C hs K ns dst ⟨⟩ e R acc (.int k (k.wrap (a * 2 ^ (min b.toNat k.bits))))
   | .shr=>0 <= b /\ dW C hs K ns dst ⟨⟩ e R acc (.int k (a.fdiv (2 ^ (min b.toNat k.bits))))
   | .eql=>k=k' /\ dW C hs K ns dst ⟨⟩ e R acc (.bool (decide (a=b)))
   | .neq=>k=k' /\ dW C hs K ns dst ⟨⟩ e R acc (.bool (!decide (a=b)))
   | .lss=>k=k' /\ dW C hs K ns dst ⟨⟩ e R acc (.bool (decide (a < b)))
   | .leq=>k=k' /\ dW C hs K ns dst ⟨⟩ e R acc (.bool (decide (a <= b)))
   | .gtr=>k=k' /\ dW C hs K ns dst ⟨⟩ e R acc (.bool (decide (b < a)))
   | .geq=>k=k' /\ dW C hs K ns dst ⟨⟩ e R acc (.bool (decide (b <= a)))
  | .str a,.str b=>match (generalizing:=false) op with
   | .eql=>dW C hs K ns dst ⟨⟩ e R acc (.bool (decide (a=b)))
   | .neq=>dW C hs K ns dst ⟨⟩ e R acc (.bool (!decide (a=b)))
   | .add=>((a++b).length : Int) <= 9223372036854775807 /\ dW C hs K ns dst ⟨⟩ e R acc (.str (a++b))
   | .lss=>dW C hs K ns dst ⟨⟩ e R acc (.bool (Op.bytesLess a b))
   | .leq=>dW C hs K ns dst ⟨⟩ e R acc (.bool (Op.bytesLess a b || a == b))
   | .gtr=>dW C hs K ns dst ⟨⟩ e R acc (.bool !(Op.bytesLess a b || a == b))
   | .geq=>dW C hs K ns dst ⟨⟩ e R acc (.bool !(Op.bytesLess a b))
   | _=>False
  | _,_=>False):=_root_.id rfl
@[simp] theorem PZ {op x v1} : opW C hs K ns dst (.un op x) v1 e R acc=(match (generalizing:=false) vd (ac e) x with
  | .bool b=>match (generalizing:=false) op with
   | .not=>dW C hs K ns dst ⟨⟩ e R acc (.bool (!b))
   | _=>False
  | .int k n=>match (generalizing:=false) op with
   | .neg=>dW C hs K ns dst ⟨⟩ e R acc (.int k (k.wrap (0 - n)))
   | _=>False
  | _=>False):=_root_.id rfl
@[simp] theorem Jv {k x v1} : opW C hs K ns dst (.conv k x) v1 e R acc=(match (generalizing:=false) vd (ac e) x with
  | .int _ n=>dW C hs K ns dst ⟨⟩ e R acc (.int k (k.wrap n))
  | _=>False):=_root_.id rfl
@[simp] theorem N7 {neg ks x y v1} : opW C hs K ns dst (.beq neg ks x y) v1 e R acc=(match (generalizing:=false) vd (ac e) x,vd (ac e) y with
  | .bool a,.bool b=>ks=[] /\ dW C hs K ns dst ⟨⟩ e R acc (.bool ((a == b) != neg))
  | .agg a,.agg b=>ks ≠ [] /\ match (generalizing:=false) cm ks a b with
   | some r=>dW C hs K ns dst ⟨⟩ e R acc (.bool (r != neg))
   | none=>False
  | .nils,.nils=>ks=[9] /\ dW C hs K ns dst ⟨⟩ e R acc (.bool (!neg))
  | .sl es,.nils=>ks=[9] /\ (0 < es.length -> dW C hs K ns dst ⟨⟩ e R acc (.bool neg)) /\ (es.length=0 -> dW C hs K ns dst ⟨⟩ e R acc .bb)
  | .nilp,.nilp=>ks=[8] /\ dW C hs K ns dst ⟨⟩ e R acc (.bool (!neg))
  | .ptr _,.nilp=>ks=[8] /\ dW C hs K ns dst ⟨⟩ e R acc (.bool neg)
  | _,_=>False):=_root_.id rfl
@[simp] theorem Oi {off n ag x v1} : opW C hs K ns dst (.fld off n ag x) v1 e R acc=(match (generalizing:=false) vd (ac e) x with
  | .agg ds=>off + n <= ds.length /\ dW C hs K ns dst ⟨⟩ e R acc (kV ag n (ds.drop off))
  | .agx ds=>off + n <= ds.length /\ match (generalizing:=false) ag with
   | true=>dW C hs K ns dst ⟨⟩ e R acc (.agx ((ds.drop off).take n))
   | false=>dW C hs K ns dst ⟨⟩ e R acc ((ds.drop off).headD .any)
  | _=>False):=_root_.id rfl
@[simp] theorem Jy {len sz ag x i v1} : opW C hs K ns dst (.idxA len sz ag x i) v1 e R acc=(match (generalizing:=false) vd (ac e) x,vd (ac e) i with
  | .agg ds,.int _ j=>0 <= j /\ j < len /\ j.toNat * sz + sz <= ds.length /\ dW C hs K ns dst ⟨⟩ e R acc (kV ag sz (ds.drop (j.toNat * sz)))
  | .agx ds,.int _ j=>0 <= j /\ j < len /\ j.toNat * sz + sz <= ds.length /\ match (generalizing:=false) ag with
   | true=>dW C hs K ns dst ⟨⟩ e R acc (.agx ((ds.drop (j.toNat * sz)).take sz))
   | false=>dW C hs K ns dst ⟨⟩ e R acc ((ds.drop (j.toNat * sz)).headD .any)
  | _,_=>False):=_root_.id rfl
@[simp] theorem Oy {len sz x v1} : opW C hs K ns dst (.slA len sz x) v1 e R acc=(match (generalizing:=false) vd (ac e) x with
  | .ptr ds=>0 < len /\ 0 < sz /\ len * sz <= ds.length /\ dW C hs K ns dst ⟨⟩ e R acc (.sl (cc sz len ds))
  | _=>False):=_root_.id rfl
@[simp] theorem Oe {x v1} : opW C hs K ns dst (.cvS x) v1 e R acc=(match (generalizing:=false) vd (ac e) x with
  | .sl es=>0 < es.length /\ (∀ r ∈ es,∃ n : Nat,r=[.int .u8 n] /\ n < 256) /\ dW C hs K ns dst ⟨⟩ e R acc (.str (es.map fK))
  | _=>False):=_root_.id rfl
@[simp] theorem Jz {x i v1} : opW C hs K ns dst (.idxS x i) v1 e R acc=(match (generalizing:=false) vd (ac e) x,vd (ac e) i with
  | .str s,.int _ j=>0 <= j /\ Ay C hs K ns dst ⟨⟩ e R acc s j.toNat
  | _,_=>False):=_root_.id rfl
@[simp] theorem Og {i x v1} : opW C hs K ns dst (.ext i x) v1 e R acc=(match (generalizing:=false) vd (ac e) x with
  | .tup ds=>∃ d,ds[i]? = some d /\ dW C hs K ns dst ⟨⟩ e R acc d
  | .tpx ds=>∃ d,ds[i]? = some d /\ dW C hs K ns dst ⟨⟩ e R acc d
  | _=>False):=_root_.id rfl
@[simp] theorem Oh {off x v1} : opW C hs K ns dst (.fad off x) v1 e R acc=(match (generalizing:=false) vd (ac e) x with
  | .adr p i o=>dW C hs K ns dst ⟨⟩ e R acc (.adr p i (o + off))
  | .ptr ds=>dW C hs K ns dst ⟨⟩ e R acc (.ptr (ds.drop off))
  | .ptx ds=>dW C hs K ns dst ⟨⟩ e R acc (.ptx (ds.drop off))
  | _=>False):=_root_.id rfl
@[simp] theorem Jw {len sz x i v1} : opW C hs K ns dst (.iadA len sz x i) v1 e R acc=(match (generalizing:=false) vd (ac e) x,vd (ac e) i with
  | .adr p r o,.int _ j=>0 <= j /\ j < len /\ dW C hs K ns dst ⟨⟩ e R acc (.adr p r (o + j.toNat * sz))
  | .ptr ds,.int _ j=>0 <= j /\ j < len /\ dW C hs K ns dst ⟨⟩ e R acc (.ptr (ds.drop (j.toNat * sz)))
  | _,_=>False):=_root_.id rfl
@[simp] theorem PU {n ag x v1} : opW C hs K ns dst (.ld n ag x) v1 e R acc=(match (generalizing:=false) vd (ac e) x with
  | .adr p i off=>match (generalizing:=false) aT (ac e) p with
   | some (_,es)=>j5 C hs K ns dst ⟨⟩ e R acc n ag p es i off
   | none=>False
  | .ptr ds=>n <= ds.length /\ dW C hs K ns dst ⟨⟩ e R acc (kV ag n ds)
  | .ptx ds=>n <= ds.length /\ match (generalizing:=false) ag with
   | true=>((ds.take n).all isV=true -> dW C hs K ns dst ⟨⟩ e R acc (.agg (ds.take n))) /\ ((ds.take n).all isV=false -> dW C hs K ns dst ⟨⟩ e R acc (.agx (ds.take n)))
   | false=>0 < n /\ dW C hs K ns dst ⟨⟩ e R acc (ds.headD .any)
  | _=>False):=_root_.id rfl
@[simp] theorem N9 {zs parts v1} : opW C hs K ns dst (.bld zs parts) v1 e R acc=((∀ p ∈ parts,isS (vd (ac e) p.2.2)=true /\ p.1 + p.2.1 <= zs.length /\ match (generalizing:=false) vd (ac e) p.2.2 with
    | .agg ds=>ds.length=p.2.1
    | .agx ds=>ds.length=p.2.1
    | .any=>False
    | .tpx _=>False
    | .ptx _=>False
    | .rfx _ _ _=>False
    | .fnx _ _=>False
    | _=>p.2.1=1) /\
   ((parts.all fun p=>isV (vd (ac e) p.2.2))=true -> dW C hs K ns dst ⟨⟩ e R acc (.agg (gS zs (parts.map fun p=>(p.1,p.2.1,vd (ac e) p.2.2))))) /\
   ((parts.all fun p=>isV (vd (ac e) p.2.2))=false -> dW C hs K ns dst ⟨⟩ e R acc (.agx (gS zs (parts.map fun p=>(p.1,p.2.1,b6 (vd (ac e) p.2.2))))))):=_root_.id rfl
@[simp] theorem JA {x v1} : opW C hs K ns dst (.lens x) v1 e R acc=(match (generalizing:=false) vd (ac e) x with
  | .str s=>dW C hs K ns dst ⟨⟩ e R acc (.int .i64 s.length)
  | _=>False):=_root_.id rfl
@[simp] theorem PV {g xs v1} : opW C hs K ns dst (.mk g xs) v1 e R acc=((∀ x ∈ xs,isP (vd (ac e) x)=true) /\ ((xs.all fun x=>isV (vd (ac e) x))=true -> dW C hs K ns dst ⟨⟩ e R acc (.fn g (xs.map (vd (ac e))))) /\ ((xs.all fun x=>isV (vd (ac e) x))=false -> dW C hs K ns dst ⟨⟩ e R acc (.fnx g (xs.map (vd (ac e)))))):=_root_.id rfl
@[simp] theorem OA {x lo hi v1} : opW C hs K ns dst (.slS x lo hi) v1 e R acc=(match (generalizing:=false) vd (ac e) x with
  | .str s=>dj (ac e) hi s.length (fun h=>dj (ac e) lo 0 (fun l=>l <= h /\ h <= s.length /\ dW C hs K ns dst ⟨⟩ e R acc (.str ((s.take h).drop l))) ⟨⟩) ⟨⟩
  | _=>False):=_root_.id rfl
@[simp] theorem PW {x y v1} : opW C hs K ns dst (.mn x y) v1 e R acc=(match (generalizing:=false) vd (ac e) x,vd (ac e) y with
  | .int k a,.int k' b=>k=k' /\ dW C hs K ns dst ⟨⟩ e R acc (.int k (if b < a then b else a))
  | _,_=>False):=_root_.id rfl
@[simp] theorem PX {x y v1} : opW C hs K ns dst (.mx x y) v1 e R acc=(match (generalizing:=false) vd (ac e) x,vd (ac e) y with
  | .int k a,.int k' b=>k=k' /\ dW C hs K ns dst ⟨⟩ e R acc (.int k (if a < b then b else a))
  | _,_=>False):=_root_.id rfl
@[simp] theorem E1 {x y c v1} : opW C hs K ns dst (.add64 x y c) v1 e R acc=(match (generalizing:=false) vd (ac e) x,vd (ac e) y,vd (ac e) c with
  | .int .u64 a,.int .u64 b,.int .u64 k=>0 <= a /\ a < 18446744073709551616 /\ 0 <= b /\ b < 18446744073709551616 /\ 0 <= k /\ k <= 1 /\
    dW C hs K ns dst ⟨⟩ e R acc (.tup [.int .u64 ((a + b + k) % 18446744073709551616),.int .u64 ((a + b + k) / 18446744073709551616)])
  | _,_,_=>False):=_root_.id rfl
@[simp] theorem Fc {x y c v1} : opW C hs K ns dst (.sub64 x y c) v1 e R acc=(match (generalizing:=false) vd (ac e) x,vd (ac e) y,vd (ac e) c with
  | .int .u64 a,.int .u64 b,.int .u64 k=>0 <= a /\ a < 18446744073709551616 /\ 0 <= b /\ b < 18446744073709551616 /\ 0 <= k /\ k <= 1 /\
    dW C hs K ns dst ⟨⟩ e R acc (.tup [.int .u64 ((a - b - k) % 18446744073709551616),.int .u64 (if a < b + k then 1 else 0)])
  | _,_,_=>False):=_root_.id rfl
@[simp] theorem JB {sz v1} : opW C hs K ns dst (.nilo sz) v1 e R acc=(match (generalizing:=false) dst with
  | some t=>0 < sz /\ doW C hs K ns ⟨⟩ e R acc [(t,.ref (.r (rt t 0)) 0 0),(rt t 0,.blk sz [])] [(rt t 0,true)]
  | none=>False):=_root_.id rfl
@[simp] theorem Ob {x t v1} : opW C hs K ns (some t) (.box [] x) v1 e R acc=fQ (ac e) (vd (ac e) x) [] (fun cs bs=>bs.contains (rt t 0)=false /\ doW C hs K ns ⟨⟩ e R acc ((t,.adr (.r (rt t 0)) 0 0)::(rt t 0,.blk cs.length [cs])::cz bs) [(rt t 0,true)]) ⟨⟩:=_root_.id rfl
@[simp] theorem N4 {zs v1} : opW C hs K ns dst (.alc zs) v1 e R acc=(match (generalizing:=false) dst with
  | some t=>doW C hs K ns ⟨⟩ e R acc [(t,.adr (.r (rt t 0)) 0 0),(rt t 0,.blk zs.length [zs])] [(rt t 0,true)]
  | none=>False):=_root_.id rfl
@[simp] theorem Oa {sz len zs parts t v1} : opW C hs K ns (some t) (.bls sz len zs [] parts) v1 e R acc=nW (ac e) sz parts (List.replicate len zs) [] (fun es bs=>bE bs=true /\ bs.contains (rt t 0)=false /\ doW C hs K ns ⟨⟩ e R acc ((t,.ref (.r (rt t 0)) 0 len)::(rt t 0,.blk sz es)::cz bs) [(rt t 0,true)]) ⟨⟩:=_root_.id rfl
@[simp] theorem Ot {sz by_ zs n c v1} : opW C hs K ns dst (.mks sz by_ zs n c) v1 e R acc=(match (generalizing:=false) dst with
  | some t=>match (generalizing:=false) vd (ac e) n,vd (ac e) c with
   | .int _ n,.int _ c=>0 <= n /\ n <= c /\ c * by_ <= 140737488355328 /\ doW C hs K ns ⟨⟩ e R acc [(t,.ref (.r (rt t 0)) 0 n.toNat),(rt t 0,.blk sz (List.replicate c.toNat zs))] [(rt t 0,true)]
   | _,_=>False
  | none=>False):=_root_.id rfl
def stM (C : CC) (hs : Option (List Nat)) (K : Env -> Prop) (ns : List ao) (_ : Tag (hs,K,ns)) (e : Env) (R : List Nat) (acc : List (List Nat × List Nat)) (n : Nat) (v : D) (cs : List D) (bs : List Nat) (a : D) : Prop:=match a with
 | .adr (.r b) i off=>bs.contains b=false /\ dM (ac e b) (fun sz es=>fP es[i]? (fun r=>off + n <= r.length /\ doW C hs K ns ⟨⟩ e R acc ((b,.blk sz (bj es i off n cs))::cz bs) (stK v [] b)) ⟨⟩) ⟨⟩
 | .adr (.n b i0 o0) i off=>bs=[] /\ (∀ c ∈ cs,au c=true) /\ dM (ac e b) (fun sz0 es0=>fP es0[i0]? (fun row0=>i9 row0[o0]? (fun sz es=>fP es[i]? (fun r=>off + n <= r.length /\ doW C hs K ns ⟨⟩ e R acc [(b,.blk sz0 (bj es0 i0 o0 1 [.own sz (bj es i off n cs)]))] []) ⟨⟩) ⟨⟩) ⟨⟩) ⟨⟩
 | _=>False
@[simp] theorem Qo {n v cs bs b i off} : stM C hs K ns u e R acc n v cs bs (.adr (.r b) i off)=(bs.contains b=false /\ dM (ac e b) (fun sz es=>fP es[i]? (fun r=>off + n <= r.length /\ doW C hs K ns ⟨⟩ e R acc ((b,.blk sz (bj es i off n cs))::cz bs) (stK v [] b)) ⟨⟩) ⟨⟩):=_root_.id rfl
@[simp] theorem Qn {n v cs bs b i0 o0 i off} : stM C hs K ns u e R acc n v cs bs (.adr (.n b i0 o0) i off)=(bs=[] /\ (∀ c ∈ cs,au c=true) /\ dM (ac e b) (fun sz0 es0=>fP es0[i0]? (fun row0=>i9 row0[o0]? (fun sz es=>fP es[i]? (fun r=>off + n <= r.length /\ doW C hs K ns ⟨⟩ e R acc [(b,.blk sz0 (bj es0 i0 o0 1 [.own sz (bj es i off n cs)]))] []) ⟨⟩) ⟨⟩) ⟨⟩) ⟨⟩):=_root_.id rfl
@[simp] theorem PY {n a v v1} : opW C hs K ns dst (.st n [] a v) v1 e R acc=(dst=none /\ fQ (ac e) (vd (ac e) v) [] (fun cs bs=>cs.length=n /\ stM C hs K ns ⟨⟩ e R acc n (vd (ac e) v) cs bs (vd (ac e) a)) ⟨⟩):=by
 show (dst=none /\ fj (ac e) (vd (ac e) v) [] _)=(dst=none /\ fj (ac e) (vd (ac e) v) [] _)
 congr 1
 congr 1
 funext cs bs
 cases vd (ac e) a <;> try rfl
 rename_i p i off
 cases p with
 | r b =>
  simp only [stM,dM,fa]
  cases ac e b <;> rfl
 | n b i0 o0 =>
  simp only [stM,dM,fa,iB]
  cases ac e b <;> rfl
def rU (C : CC) (hs : Option (List Nat)) (K : Env -> Prop) (ns : List ao) (_ : Tag (hs,K,ns)) (e : Env) (R : List Nat) (acc : List (List Nat × List Nat)) (t sz by_ : Nat) (rowsY : List (List D)) (bs : List Nat) (x : D) : Prop:=match x with
 | .nils=>rowsY.length * by_ <= 140737488355328 /\ doW C hs K ns ⟨⟩ e R acc ((t,.ref (.r (rt t 0)) 0 rowsY.length)::(rt t 0,.blk sz rowsY)::cz bs) [(rt t 0,true)]
 | .ref (.r c) k n=>c ≠ rt t 0 /\ bs.contains c=false /\ dM (ac e c) (fun sz' es=>sz'=sz /\ k + n <= es.length /\ (n + rowsY.length) * by_ <= 140737488355328 /\
      doW C hs K ns ⟨⟩ e R acc ((t,.ref (.r (rt t 0)) 0 (n + rowsY.length))::(rt t 0,.blk sz ((es.drop k).take n++rowsY))::(c,.any)::cz bs) [(rt t 0,true)]) ⟨⟩
 | .ref (.n c i o) k n=>c ≠ rt t 0 /\ bs.contains c=false /\ dM (ac e c) (fun sz0 es0=>fP es0[i]? (fun row0=>i9 row0[o]? (fun sz' es=>sz'=sz /\ k + n <= es.length /\ (n + rowsY.length) * by_ <= 140737488355328 /\
      doW C hs K ns ⟨⟩ e R acc ((t,.ref (.r (rt t 0)) 0 (n + rowsY.length))::(rt t 0,.blk sz ((es.drop k).take n++rowsY))::(c,.blk sz0 (bj es0 i o 1 [.any]))::cz bs) [(rt t 0,true)]) ⟨⟩) ⟨⟩) ⟨⟩
 | _=>False
@[simp] theorem C0 {t sz by_ rowsY bs} : rU C hs K ns u e R acc t sz by_ rowsY bs .nils=(rowsY.length * by_ <= 140737488355328 /\ doW C hs K ns ⟨⟩ e R acc ((t,.ref (.r (rt t 0)) 0 rowsY.length)::(rt t 0,.blk sz rowsY)::cz bs) [(rt t 0,true)]):=_root_.id rfl
@[simp] theorem OO {t sz by_ rowsY bs c k n} : rU C hs K ns u e R acc t sz by_ rowsY bs (.ref (.r c) k n)=(c ≠ rt t 0 /\ bs.contains c=false /\ dM (ac e c) (fun sz' es=>sz'=sz /\ k + n <= es.length /\ (n + rowsY.length) * by_ <= 140737488355328 /\
      doW C hs K ns ⟨⟩ e R acc ((t,.ref (.r (rt t 0)) 0 (n + rowsY.length))::(rt t 0,.blk sz ((es.drop k).take n++rowsY))::(c,.any)::cz bs) [(rt t 0,true)]) ⟨⟩):=_root_.id rfl
@[simp] theorem ON {t sz by_ rowsY bs c i o k n} : rU C hs K ns u e R acc t sz by_ rowsY bs (.ref (.n c i o) k n)=(c ≠ rt t 0 /\ bs.contains c=false /\ dM (ac e c) (fun sz0 es0=>fP es0[i]? (fun row0=>i9 row0[o]? (fun sz' es=>sz'=sz /\ k + n <= es.length /\ (n + rowsY.length) * by_ <= 140737488355328 /\
      doW C hs K ns ⟨⟩ e R acc ((t,.ref (.r (rt t 0)) 0 (n + rowsY.length))::(rt t 0,.blk sz ((es.drop k).take n++rowsY))::(c,.blk sz0 (bj es0 i o 1 [.any]))::cz bs) [(rt t 0,true)]) ⟨⟩) ⟨⟩) ⟨⟩):=_root_.id rfl
@[simp] theorem N5 {sz by_ mv x y t v1} : opW C hs K ns (some t) (.app sz by_ mv x y) v1 e R acc=hJ (ac e) mv (vd (ac e) y) sz (fun rowsY bs=>bs.contains (rt t 0)=false /\ rU C hs K ns ⟨⟩ e R acc t sz by_ rowsY bs (vd (ac e) x)) ⟨⟩:=by
 unfold opW hJ
 simp only [ay]
 congr 1
 funext rowsY bs
 congr 1
 cases vd (ac e) x <;> try rfl
 rename_i p k n
 cases p with
 | r c =>
  simp only [rU,dM]
  cases ac e c <;> rfl
 | n c i o =>
  simp only [rU,dM,fa,iB]
  cases hl : ac e c <;> try rfl
  rename_i sz0 es0
  refine congrArg _ (congrArg _ (propext ⟨?_,?_⟩))
  ·rintro ⟨row0,h1,es,h2,h3⟩
   exact ⟨row0,h1,sz,es,h2,rfl,h3⟩
  ·rintro ⟨row0,h1,sz',es,h2,rfl,h3⟩
   exact ⟨row0,h1,es,h2,h3⟩
@[simp] theorem Ke {g b n xs sz es} : Cq C g hs K ns dst u e R acc b n xs (.blk sz es)=(es.length=n /\ (∀ e ∈ es,∀ c ∈ e,au c=true) /\ (∀ x ∈ xs,bv (fbE (ac e) b) (vd (fbE (ac e) b) x)) /\ pP C g hs K ns dst ⟨⟩ e R acc b sz es (xs.map (dpv (fbE (ac e) b))) (xs.all fun y=>isV (vd (fbE (ac e) b) y))):=_root_.id rfl
@[simp] theorem Kg {g xs b k n} : Kf C g hs K ns dst u e R acc xs (.ref (.r b) k n)=(k=0 /\ Cq C g hs K ns dst ⟨⟩ e R acc b n xs (ac e b)):=_root_.id rfl
@[simp] theorem Fa {g x xs v1} : opW C hs K ns dst (.callS g x xs) v1 e R acc=(Kf C g hs K ns dst ⟨⟩ e R acc xs (vd (ac e) x)):=by
 cases dst <;> rfl
def wm (n : Nat) (d : D) : Prop:=match d with
 | .blk _ es=>es.length=n /\ ∀ e ∈ es,∀ c ∈ e,bi c=true
 | _=>False
def om (f : Nat -> D) (b : Nat) (d : D) : Prop:=match d with
 | .ref (.r c) k n=>k=0 /\ c ≠ b /\ wm n (f c)
 | d=>isV d=true
def xN (d : D) : D:=match d with
 | .blk sz es=>.own sz es
 | _=>.any
def qT (f : Nat -> D) (d : D) : D:=match d with
 | .ref (.r c) _ _=>xN (f c)
 | d=>d
@[simp] theorem FM {n sz es} : wm n (.blk sz es)=(es.length=n /\ ∀ e ∈ es,∀ c ∈ e,bi c=true):=_root_.id rfl
@[simp] theorem JG {sz es} : xN (.blk sz es)=.own sz es:=_root_.id rfl
@[simp] theorem Kp {f : Nat -> D} {b : Nat} {x : Opd} : kP f b x=om f b (vd f x):=by
 unfold kP om wm
 cases vd f x <;> rfl
@[simp] theorem Kq {f : Nat -> D} {x : Opd} : jL f x=qT f (vd f x):=by
 unfold jL qT xN
 cases vd f x <;> rfl
@[simp] theorem C2 {f : Nat -> D} {b c k n} : om f b (.ref (.r c) k n)=(k=0 /\ c ≠ b /\ wm n (f c)):=_root_.id rfl
@[simp] theorem C4 {f : Nat -> D} {c k n} : qT f (.ref (.r c) k n)=xN (f c):=_root_.id rfl
@[simp] theorem C1 {f : Nat -> D} {b k n} : om f b (.int k n)=True:=by simp [om,isV]
@[simp] theorem C3 {f : Nat -> D} {k n} : qT f (.int k n)=.int k n:=_root_.id rfl
def tW (C : CC) (g : Nat) (hs : Option (List Nat)) (K : Env -> Prop) (ns : List ao) (t : Nat) (_ : Tag (hs,K,ns)) (e : Env) (R : List Nat) (acc : List (List Nat × List Nat)) (sz : Nat) (W : List (List D)) (ds : List D) (q : Nat × D) : Prop :=
 ∃ es' : List (List D),(∀ e ∈ es',e.length=sz /\ ∀ c ∈ e,bi c=true) /\ C g (.own sz W::ds) .any [.own sz es',.nils,.nils] /\ doW C hs K ns ⟨⟩ e R acc [(t,.ref (.r (rt t 0)) 0 es'.length),(rt t 0,.blk sz es'),q] [(rt t 0,true)]
theorem wQ {g : Nat} {hs : Option (List Nat)} {K : Env -> Prop} {ns : List ao} {t : Nat} {u : Tag (hs,K,ns)} {e : Env} {R : List Nat} {acc : List (List Nat × List Nat)} {sz : Nat} {W es' : List (List D)} {ds : List D} {q : Nat × D} (h : C g (.own sz W::ds) .any [.own sz es',.nils,.nils]) (hu : ∀ e ∈ es',e.length=sz /\ ∀ c ∈ e,bi c=true)
  (hk : doW C hs K ns ⟨⟩ e R acc [(t,.ref (.r (rt t 0)) 0 es'.length),(rt t 0,.blk sz es'),q] [(rt t 0,true)]) : tW C g hs K ns t u e R acc sz W ds q:=⟨es',hu,h,hk⟩
def tV (C : CC) (g : Nat) (hs : Option (List Nat)) (K : Env -> Prop) (ns : List ao) (t : Nat) (_ : Tag (hs,K,ns)) (e : Env) (R : List Nat) (acc : List (List Nat × List Nat)) (xs : List Opd) (d : D) : Prop:=match d with
 | .ref (.r b) k n=>dM (ac e b) (fun sz es=>k + n <= es.length /\ b ≠ rt t 0 /\ 0 < sz /\ (∀ e ∈ (es.drop k).take n,∀ c ∈ e,bi c=true) /\ (∀ x ∈ xs,kP (ac e) b x) /\ tW C g hs K ns t ⟨⟩ e R acc sz ((es.drop k).take n) (xs.map (jL (ac e))) (b,.any)) ⟨⟩
 | .ref (.n b i o) k n=>dM (ac e b) (fun sz0 es0=>fP es0[i]? (fun row0=>i9 row0[o]? (fun sz es=>k + n <= es.length /\ b ≠ rt t 0 /\ 0 < sz /\ (∀ e ∈ (es.drop k).take n,∀ c ∈ e,bi c=true) /\ (∀ x ∈ xs,kP (ac e) b x) /\
   tW C g hs K ns t ⟨⟩ e R acc sz ((es.drop k).take n) (xs.map (jL (ac e))) (b,.blk sz0 (bj es0 i o 1 [.any]))) ⟨⟩) ⟨⟩) ⟨⟩
 | _=>False
@[simp] theorem Pf {g xs t b k n} : tV C g hs K ns t u e R acc xs (.ref (.r b) k n)=dM (ac e b) (fun sz es=>k + n <= es.length /\ b ≠ rt t 0 /\ 0 < sz /\ (∀ e ∈ (es.drop k).take n,∀ c ∈ e,bi c=true) /\ (∀ x ∈ xs,kP (ac e) b x) /\ tW C g hs K ns t ⟨⟩ e R acc sz ((es.drop k).take n) (xs.map (jL (ac e))) (b,.any)) ⟨⟩:=_root_.id rfl
@[simp] theorem Pe {g xs t b i o k n} : tV C g hs K ns t u e R acc xs (.ref (.n b i o) k n)=dM (ac e b) (fun sz0 es0=>fP es0[i]? (fun row0=>i9 row0[o]? (fun sz es=>k + n <= es.length /\ b ≠ rt t 0 /\ 0 < sz /\ (∀ e ∈ (es.drop k).take n,∀ c ∈ e,bi c=true) /\ (∀ x ∈ xs,kP (ac e) b x) /\
   tW C g hs K ns t ⟨⟩ e R acc sz ((es.drop k).take n) (xs.map (jL (ac e))) (b,.blk sz0 (bj es0 i o 1 [.any]))) ⟨⟩) ⟨⟩) ⟨⟩:=_root_.id rfl
@[simp] theorem E5 {g x xs t v1} : opW C hs K ns (some t) (.callE g x xs) v1 e R acc=tV C g hs K ns t ⟨⟩ e R acc xs (vd (ac e) x):=by
 unfold opW
 simp only [ay]
 cases vd (ac e) x <;> try rfl
 rename_i p k n
 cases p with
 | r b =>
  simp only [tV,dM,aT,Pa.root,cV]
  cases ac e b <;> rfl
 | n b i o =>
  simp only [tV,dM,fa,iB,aT,Pa.root,cV]
  cases hl : ac e b <;> try rfl
  rename_i sz0 es0
  simp only
  cases hi : es0[i]? with
  | none=>simp
  | some row0 =>
   simp only [Option.getD_some,Option.some.injEq,exists_eq_left']
   cases ho : row0[o]? with
   | none=>simp
   | some d =>
    cases d
    case own sz es=>exact propext ⟨fun h=>⟨sz,es,rfl,h⟩,fun ⟨sz',es',h0,h⟩=>by cases h0;exact h⟩
    all_goals simp
@[simp] theorem DY {f : Nat -> D} {b k n sz es} : b7 f (.ref (.r b) k n) (.own sz es)=(k=0 /\ n=es.length /\ f b=.blk sz es):=_root_.id rfl
@[simp] theorem DW {f : Nat -> D} {b k n sz es} : b7 f (.adr (.r b) k n) (.blk sz es)=(k=0 /\ n=0 /\ f b=.blk sz es):=_root_.id rfl
@[simp] theorem DX {f : Nat -> D} {k n r} : b7 f (.int k n) r=(r=.int k n):=by simp [b7]
@[simp] theorem Ba {f : Nat -> D} {n r} : b7 f (.bool n) r=(r=.bool n):=by simp [b7]
@[simp] theorem DZ {f : Nat -> D} {n r} : b7 f (.str n) r=(r=.str n):=by simp [b7]
@[simp] theorem Bc {f : Nat -> D} {r} : b7 f .nils r=(r=.nils):=by simp [b7]
@[simp] theorem Bb {f : Nat -> D} {r} : b7 f .nilp r=(r=.nilp):=by simp [b7]
@[simp] theorem GX {f : Nat -> D} {n r} : b7 f (.sl n) r=(r=.sl n):=by simp [b7]
@[simp] theorem DV {f : Nat -> D} {n r} : b7 f (.agg n) r=(r=.agg n):=by simp [b7]
@[simp] theorem Fp {t d} : jF (some t) d=[(t,d)]:=_root_.id rfl
@[simp] theorem Fo {d} : jF none d=[]:=_root_.id rfl
@[simp] theorem Cv {t} : df (some t)=[(t,.tup [])]:=_root_.id rfl
@[simp] theorem Cu : df none=[]:=_root_.id rfl
def IY (C : CC) (g : Nat) (hs : Option (List Nat)) (K : Env -> Prop) (ns : List ao) (dst : Option Nat) (_ : Tag (hs,K,ns)) (e : Env) (R : List Nat) (acc : List (List Nat × List Nat)) (b sz : Nat) (es : List (List D)) (ds : List D) : Prop :=
 ∃ d,∃ es' : List (List D),0 < es'.length /\ C g (.blk sz es::ds) d [.blk sz es'] /\ doW C hs K ns ⟨⟩ e R acc (jF dst d++[(b,.blk sz es')]) [(b,false)]
def IX (C : CC) (g : Nat) (hs : Option (List Nat)) (K : Env -> Prop) (ns : List ao) (dst : Option Nat) (_ : Tag (hs,K,ns)) (e : Env) (R : List Nat) (acc : List (List Nat × List Nat)) (xs : List Opd) (d : D) : Prop:=match d with
 | .adr (.r b) i off=>i=0 /\ off=0 /\ dM (ac e b) (fun sz es=>0 < es.length /\ (∀ x ∈ xs,isV (vd (ac e) x)=true) /\ IY C g hs K ns dst ⟨⟩ e R acc b sz es (xs.map (vd (ac e)))) ⟨⟩
 | _=>False
@[simp] theorem PP {g xs b i off} : IX C g hs K ns dst u e R acc xs (.adr (.r b) i off)=(i=0 /\ off=0 /\ dM (ac e b) (fun sz es=>0 < es.length /\ (∀ x ∈ xs,isV (vd (ac e) x)=true) /\ IY C g hs K ns dst ⟨⟩ e R acc b sz es (xs.map (vd (ac e)))) ⟨⟩):=_root_.id rfl
@[simp] theorem E8 {g x xs v1} : opW C hs K ns dst (.callL g x xs) v1 e R acc=IX C g hs K ns dst ⟨⟩ e R acc xs (vd (ac e) x):=by
 unfold opW
 simp only [ay]
 cases vd (ac e) x <;> first | rfl | skip
def r6 (C : CC) (hs : Option (List Nat)) (K : Env -> Prop) (ns : List ao) (dst : Option Nat) (_ : Tag (hs,K,ns)) (e : Env) (R : List Nat) (acc : List (List Nat × List Nat)) (zs : List D) (d : D) : Prop:=match d with
 | .nils=>doW C hs K ns ⟨⟩ e R acc (df dst) []
 | .ref (.r b) k n=>dM (ac e b) (fun sz es=>k + n <= es.length /\ zs.length=sz /\ (∀ e ∈ es,∀ c ∈ e,au c=true) /\ (∀ c ∈ zs,au c=true) /\ doW C hs K ns ⟨⟩ e R acc (df dst++[(b,.blk sz (di es k n zs))]) []) ⟨⟩
 | .ref (.n b i o) k n=>dM (ac e b) (fun sz0 es0=>fP es0[i]? (fun row0=>i9 row0[o]? (fun sz es=>k + n <= es.length /\ zs.length=sz /\ (∀ c ∈ zs,au c=true) /\ doW C hs K ns ⟨⟩ e R acc (df dst++[(b,.blk sz0 (bj es0 i o 1 [.own sz (di es k n zs)]))]) []) ⟨⟩) ⟨⟩) ⟨⟩
 | _=>False
@[simp] theorem OS {zs b k n} : r6 C hs K ns dst u e R acc zs (.ref (.r b) k n)=dM (ac e b) (fun sz es=>k + n <= es.length /\ zs.length=sz /\ (∀ e ∈ es,∀ c ∈ e,au c=true) /\ (∀ c ∈ zs,au c=true) /\ doW C hs K ns ⟨⟩ e R acc (df dst++[(b,.blk sz (di es k n zs))]) []) ⟨⟩:=_root_.id rfl
@[simp] theorem OR {zs b i o k n} : r6 C hs K ns dst u e R acc zs (.ref (.n b i o) k n)=dM (ac e b) (fun sz0 es0=>fP es0[i]? (fun row0=>i9 row0[o]? (fun sz es=>k + n <= es.length /\ zs.length=sz /\ (∀ c ∈ zs,au c=true) /\ doW C hs K ns ⟨⟩ e R acc (df dst++[(b,.blk sz0 (bj es0 i o 1 [.own sz (di es k n zs)]))]) []) ⟨⟩) ⟨⟩) ⟨⟩:=_root_.id rfl
@[simp] theorem Dt {zs} : r6 C hs K ns dst u e R acc zs .nils=doW C hs K ns ⟨⟩ e R acc (df dst) []:=_root_.id rfl
@[simp] theorem Oc {zs x v1} : opW C hs K ns dst (.clr zs x) v1 e R acc=r6 C hs K ns dst ⟨⟩ e R acc zs (vd (ac e) x):=by
 unfold opW
 simp only [ay]
 cases vd (ac e) x <;> try rfl
 rename_i p k n
 cases p with
 | r b =>
  simp only [r6,dM]
  cases ac e b <;> rfl
 | n b i o =>
  simp only [r6,dM,fa,iB]
  cases ac e b <;> rfl
def yL (C : CC) (g : Nat) (hs : Option (List Nat)) (K : Env -> Prop) (ns : List ao) (dst : Option Nat) (_ : Tag (hs,K,ns)) (e : Env) (R : List Nat) (acc : List (List Nat × List Nat)) (b i o sz0 sz : Nat) (es0 es : List (List D)) (ds : List D) : Prop :=
 ∃ es' : List (List D),es'.length=es.length /\ (∀ e ∈ es',e.length=sz /\ ∀ c ∈ e,au c=true) /\ C g (.own sz es::ds) .any [.own sz es',.nilp] /\ doW C hs K ns ⟨⟩ e R acc (df dst++[(b,.blk sz0 (bj es0 i o 1 [.own sz es']))]) []
def AM (C : CC) (g : Nat) (hs : Option (List Nat)) (K : Env -> Prop) (ns : List ao) (dst : Option Nat) (_ : Tag (hs,K,ns)) (e : Env) (R : List Nat) (acc : List (List Nat × List Nat)) (xs : List Opd) (d : D) : Prop:=match d with
 | .ref (.n b i o) k n=>k=0 /\ dM (ac e b) (fun sz0 es0=>fP es0[i]? (fun row0=>i9 row0[o]? (fun sz es=>es.length=n /\ (∀ x ∈ xs,isV (vd (ac e) x)=true) /\ yL C g hs K ns dst ⟨⟩ e R acc b i o sz0 sz es0 es (xs.map (vd (ac e)))) ⟨⟩) ⟨⟩) ⟨⟩
 | _=>False
@[simp] theorem OQ {g xs b i o k n} : AM C g hs K ns dst u e R acc xs (.ref (.n b i o) k n)=(k=0 /\ dM (ac e b) (fun sz0 es0=>fP es0[i]? (fun row0=>i9 row0[o]? (fun sz es=>es.length=n /\ (∀ x ∈ xs,isV (vd (ac e) x)=true) /\ yL C g hs K ns dst ⟨⟩ e R acc b i o sz0 sz es0 es (xs.map (vd (ac e)))) ⟨⟩) ⟨⟩) ⟨⟩):=_root_.id rfl
@[simp] theorem E9 {g x xs v1} : opW C hs K ns dst (.callN g x xs) v1 e R acc=AM C g hs K ns dst ⟨⟩ e R acc xs (vd (ac e) x):=by
 unfold opW
 simp only [ay]
 cases vd (ac e) x <;> try rfl
 rename_i p k n
 cases p with
 | r b=>rfl
 | n b i o =>
  simp only [AM,dM,fa,iB]
  cases ac e b <;> rfl
@[simp] theorem E7 {g xs v1} : opW C hs K ns dst (.callG g xs) v1 e R acc=((∀ x ∈ xs,bv (ac e) (vd (ac e) x)) /\ Az C g hs K ns dst ⟨⟩ e R acc (xs.map (dpv (ac e)))):=_root_.id rfl
@[simp] theorem E4 {g xs t v1} : opW C hs K ns (some t) (.callA g xs) v1 e R acc=((∀ x ∈ xs,isV (vd (ac e) x)=true) /\ pN C g hs K ns t ⟨⟩ e R acc (xs.map (vd (ac e)))):=_root_.id rfl
@[simp] theorem E6 {g xs t v1} : opW C hs K ns (some t) (.callF g xs) v1 e R acc=((∀ x ∈ xs,bv (ac e) (vd (ac e) x)) /\ tu C g hs K ns t ⟨⟩ e R acc (xs.map (dpv (ac e)))):=_root_.id rfl
@[simp] theorem Ju {g xs x0 v1} : opW C hs K ns dst (.call g xs x0) v1 e R acc=((∀ x ∈ xs,bv (ac e) (vd (ac e) x)) /\ oq C g hs K ns dst ⟨⟩ e R acc (xs.all fun x=>isV (vd (ac e) x)) (xs.map (dpv (ac e)))):=_root_.id rfl
def jM (C : CC) (hs : Option (List Nat)) (K : Env -> Prop) (ns : List ao) (t : Nat) (_ : Tag (hs,K,ns)) (e : Env) (R : List Nat) (acc : List (List Nat × List Nat)) (d : D) : Prop:=match d with
 | .ref (.r c) k n=>if c=rt t 0 then doW C hs K ns ⟨⟩ e R acc [(t,.ref (.r c) k n)] [] else match ac e c with
  | .blk sz es=>doW C hs K ns ⟨⟩ e R acc [(t,.ref (.r (rt t 0)) k n),(rt t 0,.blk sz es),(c,.any)] [(rt t 0,true)]
  | _=>False
 | d=>isS d=true /\ doW C hs K ns ⟨⟩ e R acc [(t,d)] []
@[simp] theorem N6 {t x v1} : opW C hs K ns (some t) (.asg x) v1 e R acc=jM C hs K ns t ⟨⟩ e R acc (vd (ac e) x):=_root_.id rfl
@[simp] theorem FO {t c k n} : jM C hs K ns t u e R acc (.ref (.r c) k n)=(if c=rt t 0 then doW C hs K ns ⟨⟩ e R acc [(t,.ref (.r c) k n)] [] else match ac e c with
  | .blk sz es=>doW C hs K ns ⟨⟩ e R acc [(t,.ref (.r (rt t 0)) k n),(rt t 0,.blk sz es),(c,.any)] [(rt t 0,true)]
  | _=>False):=_root_.id rfl
@[simp] theorem C6 {t b i o k n} : jM C hs K ns t u e R acc (.ref (.n b i o) k n)=doW C hs K ns ⟨⟩ e R acc [(t,.ref (.n b i o) k n)] []:=by simp [jM]
@[simp] theorem C5 {t} : jM C hs K ns t u e R acc .nils=doW C hs K ns ⟨⟩ e R acc [(t,.nils)] []:=by simp [jM]
@[simp] theorem Kr {t es} : jM C hs K ns t u e R acc (.sl es)=doW C hs K ns ⟨⟩ e R acc [(t,.sl es)] []:=by simp [jM]
@[simp] theorem FP {t b es} : jM C hs K ns t u e R acc (slx b es)=doW C hs K ns ⟨⟩ e R acc [(t,slx b es)] []:=by
 rcases f7 b es with h | ⟨h,_⟩ <;> rw [h] <;> simp
@[simp] theorem FN {t} : jM C hs K ns t u e R acc .any=doW C hs K ns ⟨⟩ e R acc [(t,.any)] []:=by simp [jM]
@[simp] theorem FQ {t ds} : jM C hs K ns t u e R acc (.tup ds)=doW C hs K ns ⟨⟩ e R acc [(t,.tup ds)] []:=by simp [jM]
def qc (C : CC) (hs : Option (List Nat)) (K : Env -> Prop) (ns : List ao) (t : Nat) (_ : Tag (hs,K,ns)) (e : Env) (R : List Nat) (acc : List (List Nat × List Nat)) (d : D) : Prop:=match d with
 | .ref (.r c) k n=>aP (ac e) (.ref (.r c) k n) /\ doW C hs K ns ⟨⟩ e R acc [(t,dp1 (ac e) (.ref (.r c) k n)),(c,.any)] []
 | d=>isS d=true /\ doW C hs K ns ⟨⟩ e R acc [(t,d)] []
@[simp] theorem Oj {t x v1} : opW C hs K ns (some t) (.frz x) v1 e R acc=qc C hs K ns t ⟨⟩ e R acc (vd (ac e) x):=_root_.id rfl
@[simp] theorem GR {t c k n} : qc C hs K ns t u e R acc (.ref (.r c) k n)=(aP (ac e) (.ref (.r c) k n) /\ doW C hs K ns ⟨⟩ e R acc [(t,dp1 (ac e) (.ref (.r c) k n)),(c,.any)] []):=_root_.id rfl
@[simp] theorem DS {t} : qc C hs K ns t u e R acc .nils=doW C hs K ns ⟨⟩ e R acc [(t,.nils)] []:=by simp [qc]
@[simp] theorem Lg {t es} : qc C hs K ns t u e R acc (.sl es)=doW C hs K ns ⟨⟩ e R acc [(t,.sl es)] []:=by simp [qc]
@[simp] theorem GS {t b es} : qc C hs K ns t u e R acc (slx b es)=doW C hs K ns ⟨⟩ e R acc [(t,slx b es)] []:=by
 rcases f7 b es with h | ⟨h,_⟩ <;> rw [h] <;> simp
def xo (C : CC) (hs : Option (List Nat)) (K : Env -> Prop) (ns : List ao) (dst : Option Nat) (_ : Tag (hs,K,ns)) (e : Env) (R : List Nat) (acc : List (List Nat × List Nat)) (c i off : Nat) (d : D) : Prop:=match d with
 | .blk _ es=>∃ r,es[i]? = some r /\ ∃ d,r[off]? = some d /\ dc dst (kOf C hs K ns e R acc) (ldc (.r c) i off d)
 | _=>False
@[simp] theorem IQ {c i off sz es} : xo C hs K ns dst u e R acc c i off (.blk sz es)=fP es[i]? (fun r=>wy r[off]? (fun d=>dW C hs K ns dst ⟨⟩ e R acc (ldc (.r c) i off d)) ⟨⟩) ⟨⟩:=by
 simp only [xo,fa,wA];rfl
def IR (C : CC) (hs : Option (List Nat)) (K : Env -> Prop) (ns : List ao) (dst : Option Nat) (_ : Tag (hs,K,ns)) (e : Env) (R : List Nat) (acc : List (List Nat × List Nat)) (q : Nat) (d : D) : Prop:=match d with
 | .adr (.r c) i off=>off=q /\ xo C hs K ns dst ⟨⟩ e R acc c i off (ac e c)
 | _=>False
@[simp] theorem IS {q c i off} : IR C hs K ns dst u e R acc q (.adr (.r c) i off)=(off=q /\ xo C hs K ns dst ⟨⟩ e R acc c i off (ac e c)):=_root_.id rfl
@[simp] theorem On {q x v1} : opW C hs K ns dst (.ldQ q x) v1 e R acc=IR C hs K ns dst ⟨⟩ e R acc q (vd (ac e) x):=_root_.id rfl
def wl (C : CC) (hs : Option (List Nat)) (K : Env -> Prop) (ns : List ao) (t : Nat) (_ : Tag (hs,K,ns)) (e : Env) (R : List Nat) (acc : List (List Nat × List Nat)) (sz by_ : Nat) (rowsY : List (List D)) (c i o k n : Nat) (d : D) : Prop:=match d with
 | .blk sz0 es0=>∃ row0,es0[i]? = some row0 /\ ∃ es,row0[o]? = some (.own sz es) /\ k + n <= es.length /\ (n + rowsY.length) * by_ <= 140737488355328 /\
   kOf C hs K ns e R acc [(t,.ref (.r (rt t 0)) 0 (n + rowsY.length)),(rt t 0,.blk sz ((es.drop k).take n++rowsY)),(c,.blk sz0 (bj es0 i o 1 [.any]))] [(rt t 0,true)]
 | _=>False
@[simp] theorem FJ {t sz by_ rowsY c i o k n sz0 es0} : wl C hs K ns t u e R acc sz by_ rowsY c i o k n (.blk sz0 es0)=fP es0[i]? (fun row0=>i9 row0[o]? (fun sz' es=>sz'=sz /\ k + n <= es.length /\ (n + rowsY.length) * by_ <= 140737488355328 /\
   doW C hs K ns ⟨⟩ e R acc [(t,.ref (.r (rt t 0)) 0 (n + rowsY.length)),(rt t 0,.blk sz ((es.drop k).take n++rowsY)),(c,.blk sz0 (bj es0 i o 1 [.any]))] [(rt t 0,true)]) ⟨⟩) ⟨⟩:=by
 simp only [wl,fa,iB]
 refine propext ⟨?_,?_⟩
 ·rintro ⟨row0,h1,es,h2,h3,h4,h5⟩
  exact ⟨row0,h1,sz,es,h2,rfl,h3,h4,h5⟩
 ·rintro ⟨row0,h1,sz',es,h2,rfl,h3,h4,h5⟩
  exact ⟨row0,h1,es,h2,h3,h4,h5⟩
def FK (C : CC) (hs : Option (List Nat)) (K : Env -> Prop) (ns : List ao) (t : Nat) (_ : Tag (hs,K,ns)) (e : Env) (R : List Nat) (acc : List (List Nat × List Nat)) (q sz by_ : Nat) (yd : D) (d : D) : Prop:=match d with
 | .ref (.n c i o') k n=>o'=q /\ eP (ac e) false yd sz fun rowsY bs=>bs=[] /\ c ≠ rt t 0 /\ wl C hs K ns t ⟨⟩ e R acc sz by_ rowsY c i o' k n (ac e c)
 | _=>False
@[simp] theorem FL {t q sz by_ yd c i o k n} : FK C hs K ns t u e R acc q sz by_ yd (.ref (.n c i o) k n)=(o=q /\ hJ (ac e) false yd sz (fun rowsY bs=>bs=[] /\ c ≠ rt t 0 /\ wl C hs K ns t ⟨⟩ e R acc sz by_ rowsY c i o k n (ac e c)) ⟨⟩):=_root_.id rfl
@[simp] theorem Jq {t q sz by_ x y v1} : opW C hs K ns (some t) (.appQ q sz by_ x y) v1 e R acc=FK C hs K ns t ⟨⟩ e R acc q sz by_ (vd (ac e) y) (vd (ac e) x):=_root_.id rfl
def AN (C : CC) (hs : Option (List Nat)) (K : Env -> Prop) (ns : List ao) (t : Nat) (_ : Tag (hs,K,ns)) (e : Env) (R : List Nat) (acc : List (List Nat × List Nat)) (sz : Nat) (rows : List (List D)) (b k n : Nat) (d : D) : Prop:=match d with
 | .blk sz' es=>sz'=sz /\ k + n <= es.length /\ (∀ e ∈ es,∀ c ∈ e,au c=true) /\ (∀ e ∈ rows,∀ c ∈ e,au c=true) /\ kOf C hs K ns e R acc [(t,.int .i64 (min rows.length n : Nat)),(b,.blk sz (jO es k (rows.take n)))] []
 | _=>False
@[simp] theorem F9 {t sz rows b k n sz' es} : AN C hs K ns t u e R acc sz rows b k n (.blk sz' es)=(sz'=sz /\ k + n <= es.length /\ (∀ e ∈ es,∀ c ∈ e,au c=true) /\ (∀ e ∈ rows,∀ c ∈ e,au c=true) /\ doW C hs K ns ⟨⟩ e R acc [(t,.int .i64 (min rows.length n : Nat)),(b,.blk sz (jO es k (rows.take n)))] []):=_root_.id rfl
def Ga (C : CC) (hs : Option (List Nat)) (K : Env -> Prop) (ns : List ao) (t : Nat) (_ : Tag (hs,K,ns)) (e : Env) (R : List Nat) (acc : List (List Nat × List Nat)) (sz : Nat) (rows : List (List D)) (d : D) : Prop:=match d with
 | .ref (.r b) k n=>(n=0 -> kOf C hs K ns e R acc [(t,.int .i64 0)] []) /\ (0 < n -> AN C hs K ns t ⟨⟩ e R acc sz rows b k n (ac e b))
 | _=>False
@[simp] theorem Gb {t sz rows b k n} : Ga C hs K ns t u e R acc sz rows (.ref (.r b) k n)=((n=0 -> doW C hs K ns ⟨⟩ e R acc [(t,.int .i64 0)] []) /\ (0 < n -> AN C hs K ns t ⟨⟩ e R acc sz rows b k n (ac e b))):=_root_.id rfl
@[simp] theorem Od {t sz x y v1} : opW C hs K ns (some t) (.cpy sz x y) v1 e R acc=hJ (ac e) false (vd (ac e) y) sz (fun rows bs=>bs=[] /\ 0 < rows.length /\ Ga C hs K ns t ⟨⟩ e R acc sz rows (vd (ac e) x)) ⟨⟩:=_root_.id rfl
def Bo (C : CC) (hs : Option (List Nat)) (K : Env -> Prop) (ns : List ao) (t : Nat) (_ : Tag (hs,K,ns)) (e : Env) (R : List Nat) (acc : List (List Nat × List Nat)) (n c : Nat) (d : D) : Prop:=match d with
 | .blk _ [row]=>row.length=n /\ okR (.agg row)=true /\ (aO t (.agg row)).all (fun p=>p.1 != c)=true /\ doW C hs K ns ⟨⟩ e R acc ((t,dy t (.agg row))::(c,.any)::aO t (.agg row)) (de t (.agg row))
 | _=>False
@[simp] theorem IM {t n c sz row} : Bo C hs K ns t u e R acc n c (.blk sz [row])=(row.length=n /\ okR (.agg row)=true /\ (aO t (.agg row)).all (fun p=>p.1 != c)=true /\ doW C hs K ns ⟨⟩ e R acc ((t,dy t (.agg row))::(c,.any)::aO t (.agg row)) (de t (.agg row))):=_root_.id rfl
def IO (C : CC) (hs : Option (List Nat)) (K : Env -> Prop) (ns : List ao) (t : Nat) (_ : Tag (hs,K,ns)) (e : Env) (R : List Nat) (acc : List (List Nat × List Nat)) (n : Nat) (d : D) : Prop:=match d with
 | .adr (.r c) i off=>i=0 /\ off=0 /\ Bo C hs K ns t ⟨⟩ e R acc n c (ac e c)
 | _=>False
@[simp] theorem IP {t n c i off} : IO C hs K ns t u e R acc n (.adr (.r c) i off)=(i=0 /\ off=0 /\ Bo C hs K ns t ⟨⟩ e R acc n c (ac e c)):=_root_.id rfl
@[simp] theorem Om {t n x v1} : opW C hs K ns (some t) (.ldM n x) v1 e R acc=IO C hs K ns t ⟨⟩ e R acc n (vd (ac e) x):=_root_.id rfl
def xn (C : CC) (hs : Option (List Nat)) (K : Env -> Prop) (ns : List ao) (t : Nat) (_ : Tag (hs,K,ns)) (e : Env) (R : List Nat) (acc : List (List Nat × List Nat)) (n c i off : Nat) (d : D) : Prop:=match d with
 | .blk _ es=>∃ r,es[i]? = some r /\ off + n <= r.length /\ doW C hs K ns ⟨⟩ e R acc [(t,.agg (((r.drop off).take n).map aR)),(c,.any)] []
 | _=>False
@[simp] theorem IJ {t n c i off sz es} : xn C hs K ns t u e R acc n c i off (.blk sz es)=fP es[i]? (fun r=>off + n <= r.length /\ doW C hs K ns ⟨⟩ e R acc [(t,.agg (((r.drop off).take n).map aR)),(c,.any)] []) ⟨⟩:=by
 simp only [xn,fa]
def IK (C : CC) (hs : Option (List Nat)) (K : Env -> Prop) (ns : List ao) (t : Nat) (_ : Tag (hs,K,ns)) (e : Env) (R : List Nat) (acc : List (List Nat × List Nat)) (n : Nat) (d : D) : Prop:=match d with
 | .adr (.r c) i off=>xn C hs K ns t ⟨⟩ e R acc n c i off (ac e c)
 | _=>False
@[simp] theorem IL {t n c i off} : IK C hs K ns t u e R acc n (.adr (.r c) i off)=xn C hs K ns t ⟨⟩ e R acc n c i off (ac e c):=_root_.id rfl
@[simp] theorem Ol {t n x v1} : opW C hs K ns (some t) (.ldF n x) v1 e R acc=IK C hs K ns t ⟨⟩ e R acc n (vd (ac e) x):=_root_.id rfl
def Cj (C : CC) (hs : Option (List Nat)) (K : Env -> Prop) (ns : List ao) (t : Nat) (_ : Tag (hs,K,ns)) (e : Env) (R : List Nat) (acc : List (List Nat × List Nat)) (len sz c : Nat) (d : D) : Prop:=match d with
 | .blk _ [row]=>0 < len /\ 0 < sz /\ row.length=len * sz /\ (∀ d ∈ row,au d=true) /\ doW C hs K ns ⟨⟩ e R acc [(t,.ref (.r (rt t 0)) 0 len),(rt t 0,.blk sz (cc sz len row)),(c,.any)] [(rt t 0,true)]
 | _=>False
@[simp] theorem J0 {t len sz c sz0 row} : Cj C hs K ns t u e R acc len sz c (.blk sz0 [row])=(0 < len /\ 0 < sz /\ row.length=len * sz /\ (∀ d ∈ row,au d=true) /\ doW C hs K ns ⟨⟩ e R acc [(t,.ref (.r (rt t 0)) 0 len),(rt t 0,.blk sz (cc sz len row)),(c,.any)] [(rt t 0,true)]):=_root_.id rfl
def Ka (C : CC) (hs : Option (List Nat)) (K : Env -> Prop) (ns : List ao) (t : Nat) (_ : Tag (hs,K,ns)) (e : Env) (R : List Nat) (acc : List (List Nat × List Nat)) (len sz : Nat) (d : D) : Prop:=match d with
 | .adr (.r c) i off=>i=0 /\ off=0 /\ c ≠ rt t 0 /\ Cj C hs K ns t ⟨⟩ e R acc len sz c (ac e c)
 | _=>False
@[simp] theorem Kb {t len sz c i off} : Ka C hs K ns t u e R acc len sz (.adr (.r c) i off)=(i=0 /\ off=0 /\ c ≠ rt t 0 /\ Cj C hs K ns t ⟨⟩ e R acc len sz c (ac e c)):=_root_.id rfl
@[simp] theorem Oz {len sz x t v1} : opW C hs K ns (some t) (.slM len sz x) v1 e R acc=Ka C hs K ns t ⟨⟩ e R acc len sz (vd (ac e) x):=_root_.id rfl
def gG (C : CC) (hs : Option (List Nat)) (K : Env -> Prop) (ns : List ao) (dst : Option Nat) (_ : Tag (hs,K,ns)) (e : Env) (R : List Nat) (acc : List (List Nat × List Nat)) (d : D) : Prop:=match d with
 | .agx ds=>dW C hs K ns dst ⟨⟩ e R acc (.ptx ds)
 | .agg ds=>dW C hs K ns dst ⟨⟩ e R acc (.ptr ds)
 | d=>au d=true /\ dW C hs K ns dst ⟨⟩ e R acc (.ptr [d])
@[simp] theorem AI {ds : List D} : dC (.agg ds)=ds:=_root_.id rfl
@[simp] theorem AJ {k n} : dC (.int k n)=[.int k n]:=_root_.id rfl
@[simp] theorem AK {n} : dC (.str n)=[.str n]:=_root_.id rfl
@[simp] theorem y8 {n} : dC (.bool n)=[.bool n]:=_root_.id rfl
@[simp] theorem Ds {n} : dC (.sl n)=[.sl n]:=_root_.id rfl
@[simp] theorem DR {f : Nat -> D} {es} : fU f [] es=es:=_root_.id rfl
@[simp] theorem A7 {f : Nat -> D} {p ps es} : fU f (p::ps) es=fU f ps (es.set p.1 (dC (vd f p.2))):=_root_.id rfl
@[simp] theorem Jr {sz len zs parts v1} : opW C hs K ns dst (.blsF sz len zs parts) v1 e R acc=((∀ p ∈ parts,p.1 < len /\ (dC (vd (ac e) p.2)).length=sz /\ ∀ c ∈ dC (vd (ac e) p.2),au c=true) /\ 0 < len /\
   (∀ r ∈ fU (ac e) parts (List.replicate len zs),∀ c ∈ r,au c=true) /\ dW C hs K ns dst ⟨⟩ e R acc (.sl (fU (ac e) parts (List.replicate len zs)))):=_root_.id rfl
@[simp] theorem Js {sz len zs parts v1} : opW C hs K ns dst (.blsX sz len zs parts) v1 e R acc=(zs.all au=true /\ (∀ p ∈ parts,p.1 < len /\ match (generalizing:=false) vd (ac e) p.2 with
    | .agg ds=>ds.length=sz
    | .agx ds=>ds.length=sz
    | _=>False) /\ dW C hs K ns dst ⟨⟩ e R acc (.rfx len sz (iX (ac e) sz len zs parts))):=_root_.id rfl
attribute [simp] iX
@[simp] theorem Jt {x v1} : opW C hs K ns dst (.boxF x) v1 e R acc=gG C hs K ns dst ⟨⟩ e R acc (vd (ac e) x):=_root_.id rfl
@[simp] theorem FW {ds} : gG C hs K ns dst u e R acc (.agx ds)=dW C hs K ns dst ⟨⟩ e R acc (.ptx ds):=_root_.id rfl
@[simp] theorem FV {ds} : gG C hs K ns dst u e R acc (.agg ds)=dW C hs K ns dst ⟨⟩ e R acc (.ptr ds):=_root_.id rfl
@[simp] theorem FX {k n} : gG C hs K ns dst u e R acc (.int k n)=dW C hs K ns dst ⟨⟩ e R acc (.ptr [.int k n]):=by simp [gG]
@[simp] theorem C7 {n} : gG C hs K ns dst u e R acc (.bool n)=dW C hs K ns dst ⟨⟩ e R acc (.ptr [.bool n]):=by simp [gG]
@[simp] theorem F0 {n} : gG C hs K ns dst u e R acc (.str n)=dW C hs K ns dst ⟨⟩ e R acc (.ptr [.str n]):=by simp [gG]
@[simp] theorem C8 : gG C hs K ns dst u e R acc .nils=dW C hs K ns dst ⟨⟩ e R acc (.ptr [.nils]):=by simp [gG]
@[simp] theorem Kw {es} : gG C hs K ns dst u e R acc (.sl es)=dW C hs K ns dst ⟨⟩ e R acc (.ptr [.sl es]):=by simp [gG]
@[simp] theorem FZ {b es} : gG C hs K ns dst u e R acc (slx b es)=dW C hs K ns dst ⟨⟩ e R acc (.ptr [slx b es]):=by
 rcases f7 b es with h | ⟨h,_⟩ <;> rw [h] <;> simp
@[simp] theorem FY {es} : gG C hs K ns dst u e R acc (.ptr es)=dW C hs K ns dst ⟨⟩ e R acc (.ptr [.ptr es]):=by simp [gG]
@[simp] theorem Kv {g es} : gG C hs K ns dst u e R acc (.fn g es)=dW C hs K ns dst ⟨⟩ e R acc (.ptr [.fn g es]):=by simp [gG]
@[simp] theorem Oo {x v1} : opW C hs K ns dst (.len x) v1 e R acc=qm (vd (ac e) x) (fun n=>dW C hs K ns dst ⟨⟩ e R acc (.int .i64 n)) ⟨⟩:=by
 show res (ac e) _ (.len x)=_
 simp only [res,qm]
 cases vd (ac e) x <;> rfl
def sr (C : CC) (hs : Option (List Nat)) (K : Env -> Prop) (ns : List ao) (dst : Option Nat) (_ : Tag (hs,K,ns)) (e : Env) (R : List Nat) (acc : List (List Nat × List Nat)) (sz : Nat) (x i : D) : Prop:=match (generalizing:=false) x,i with
  | .sl es,.int _ j=>0 <= j /\ iM C hs K ns dst ⟨⟩ e R acc sz es j.toNat
  | .rfx n sz' ds,.int _ j=>0 <= j /\ j.toNat < n /\ sz'=sz /\ dW C hs K ns dst ⟨⟩ e R acc (.ptx (ds.drop (j.toNat * sz)))
  | .ref p k n,.int _ j=>0 <= j /\ j.toNat < n /\ match (generalizing:=false) aT (ac e) p with
   | some (sz',_)=>sz'=sz /\ dW C hs K ns dst ⟨⟩ e R acc (.adr p (k + j.toNat) 0)
   | none=>False
  | _,_=>False
@[simp] theorem Jx {sz x i v1} : opW C hs K ns dst (.iadS sz x i) v1 e R acc=sr C hs K ns dst ⟨⟩ e R acc sz (vd (ac e) x) (vd (ac e) i):=_root_.id rfl
@[simp] theorem G0 {sz sz' n ds k j} : sr C hs K ns dst u e R acc sz (.rfx n sz' ds) (.int k j)=(0 <= j /\ j.toNat < n /\ sz'=sz /\ dW C hs K ns dst ⟨⟩ e R acc (.ptx (ds.drop (j.toNat * sz)))):=_root_.id rfl
@[simp] theorem Lh {sz es k j} : sr C hs K ns dst u e R acc sz (.sl es) (.int k j)=(0 <= j /\ iM C hs K ns dst ⟨⟩ e R acc sz es j.toNat):=_root_.id rfl
@[simp] theorem G1 {sz b es k j} : sr C hs K ns dst u e R acc sz (slx b es) (.int k j)=(0 <= j /\ iM C hs K ns dst ⟨⟩ e R acc sz es j.toNat):=by
 rcases f7 b es with h | ⟨h,rfl⟩
 ·rw [h];rfl
 ·rw [h];simp [sr,iM]
@[simp] theorem GZ {sz p k n k' j} : sr C hs K ns dst u e R acc sz (.ref p k n) (.int k' j)=(0 <= j /\ j.toNat < n /\ match (generalizing:=false) aT (ac e) p with
   | some (sz',_)=>sz'=sz /\ dW C hs K ns dst ⟨⟩ e R acc (.adr p (k + j.toNat) 0)
   | none=>False):=_root_.id rfl
def yc (C : CC) (hs : Option (List Nat)) (K : Env -> Prop) (ns : List ao) (dst : Option Nat) (_ : Tag (hs,K,ns)) (e : Env) (R : List Nat) (acc : List (List Nat × List Nat)) (sz : Nat) (x : D) (lo hi : Option Opd) : Prop:=match (generalizing:=false) x with
  | .sl es=>(∀ e ∈ es,e.length=sz) /\ dj (ac e) hi es.length (fun h=>dj (ac e) lo 0 (fun l=>l <= h /\ h <= es.length /\ dW C hs K ns dst ⟨⟩ e R acc (.sl ((es.take h).drop l))) ⟨⟩) ⟨⟩
  | .nils=>dj (ac e) hi 0 (fun h=>dj (ac e) lo 0 (fun l=>l <= h /\ h <= 0 /\ dW C hs K ns dst ⟨⟩ e R acc (.sl [])) ⟨⟩) ⟨⟩
  | .ref p k n=>match (generalizing:=false) aT (ac e) p with
   | some (sz',_)=>sz'=sz /\ dj (ac e) hi n (fun h=>dj (ac e) lo 0 (fun l=>l <= h /\ h <= n /\ dW C hs K ns dst ⟨⟩ e R acc (.ref p (k + l) (h - l))) ⟨⟩) ⟨⟩
   | none=>False
  | _=>False
@[simp] theorem OB {sz x lo hi v1} : opW C hs K ns dst (.slc sz x lo hi) v1 e R acc=yc C hs K ns dst ⟨⟩ e R acc sz (vd (ac e) x) lo hi:=_root_.id rfl
@[simp] theorem OD {sz es lo hi} : yc C hs K ns dst u e R acc sz (.sl es) lo hi=((∀ e ∈ es,e.length=sz) /\ dj (ac e) hi es.length (fun h=>dj (ac e) lo 0 (fun l=>l <= h /\ h <= es.length /\ dW C hs K ns dst ⟨⟩ e R acc (.sl ((es.take h).drop l))) ⟨⟩) ⟨⟩):=_root_.id rfl
@[simp] theorem Fn {sz lo hi} : yc C hs K ns dst u e R acc sz .nils lo hi=dj (ac e) hi 0 (fun h=>dj (ac e) lo 0 (fun l=>l <= h /\ h <= 0 /\ dW C hs K ns dst ⟨⟩ e R acc (.sl [])) ⟨⟩) ⟨⟩:=_root_.id rfl
@[simp] theorem JZ {sz p k n lo hi} : yc C hs K ns dst u e R acc sz (.ref p k n) lo hi=(match (generalizing:=false) aT (ac e) p with
   | some (sz',_)=>sz'=sz /\ dj (ac e) hi n (fun h=>dj (ac e) lo 0 (fun l=>l <= h /\ h <= n /\ dW C hs K ns dst ⟨⟩ e R acc (.ref p (k + l) (h - l))) ⟨⟩) ⟨⟩
   | none=>False):=_root_.id rfl
@[simp] theorem Fb {x xs v1} : opW C hs K ns dst (.callv x xs) v1 e R acc=(match (generalizing:=false) vd (ac e) x with
  | .fn g cs=>(∀ x ∈ xs,bv (ac e) (vd (ac e) x)) /\ oq C g hs K ns dst ⟨⟩ e R acc (xs.all fun x=>isV (vd (ac e) x)) (xs.map (dpv (ac e))++cs)
  | .fnx g cs=>(∀ x ∈ xs,bv (ac e) (vd (ac e) x)) /\ (∀ c ∈ cs,aP (ac e) c) /\ oq C g hs K ns dst ⟨⟩ e R acc false (xs.map (dpv (ac e))++cs.map (dp1 (ac e)))
  | _=>False):=by
 simp only [opW,ay,oq,dc,Bool.false_eq_true,or_false]
 cases vd (ac e) x <;> rfl
def mpT (x : D) (K : Nat -> Nat -> List D -> List D -> Prop) (_ : Tag K) : Prop:=match x with
 | .mp kt et ks vs=>K kt et ks vs
 | _=>False
@[simp] theorem PQ {kt et ks vs K u} : mpT (.mp kt et ks vs) K u=K kt et ks vs:=_root_.id rfl
@[simp] theorem Oq {kt et t v1} : opW C hs K ns (some t) (.mkm kt et) v1 e R acc=doW C hs K ns ⟨⟩ e R acc [(t,.mrf (rt t 0)),(rt t 0,.mp kt et [] [])] [(rt t 0,true)]:=_root_.id rfl
def mlM (C : CC) (hs : Option (List Nat)) (K : Env -> Prop) (ns : List ao) (dst : Option Nat) (_ : Tag (hs,K,ns)) (e : Env) (R : List Nat) (acc : List (List Nat × List Nat)) (sh : KSh) (kt et : Nat) (ok : Bool) (z x m : D) : Prop:=match m with
 | .mrf b=>mpT (ac e b) (fun kt' et' ks vs=>kt'=kt /\ et'=et /\ cX sh x /\ match ok with
    | true=>dW C hs K ns dst ⟨⟩ e R acc (.tup [(dz ks vs x).getD z,.bool (dz ks vs x).isSome])
    | false=>dW C hs K ns dst ⟨⟩ e R acc ((dz ks vs x).getD z)) ⟨⟩
 | _=>False
@[simp] theorem NU {sh kt et ok z x b} : mlM C hs K ns dst u e R acc sh kt et ok z x (.mrf b)=mpT (ac e b) (fun kt' et' ks vs=>kt'=kt /\ et'=et /\ cX sh x /\ match ok with
    | true=>dW C hs K ns dst ⟨⟩ e R acc (.tup [(dz ks vs x).getD z,.bool (dz ks vs x).isSome])
    | false=>dW C hs K ns dst ⟨⟩ e R acc ((dz ks vs x).getD z)) ⟨⟩:=_root_.id rfl
@[simp] theorem Ov {sh kt et ok z m x v1} : opW C hs K ns dst (.mpl sh kt et ok z m x) v1 e R acc=mlM C hs K ns dst ⟨⟩ e R acc sh kt et ok z (vd (ac e) x) (vd (ac e) m):=by
 show res (ac e) _ (.mpl sh kt et ok z m x)=_
 simp only [res,mlM]
 cases vd (ac e) m <;> rfl
def muM (C : CC) (hs : Option (List Nat)) (K : Env -> Prop) (ns : List ao) (_ : Tag (hs,K,ns)) (e : Env) (R : List Nat) (acc : List (List Nat × List Nat)) (sh : KSh) (kt et : Nat) (z x v m : D) : Prop:=match m with
 | .mrf b=>mpT (ac e b) (fun kt' et' ks vs=>kt'=kt /\ et'=et /\ ks.length < maxLen /\ cX sh x /\ gP z v /\ doW C hs K ns ⟨⟩ e R acc [(b,.mp kt et (x::ks) (v::vs))] []) ⟨⟩
 | _=>False
@[simp] theorem NV {sh kt et z x v b} : muM C hs K ns u e R acc sh kt et z x v (.mrf b)=mpT (ac e b) (fun kt' et' ks vs=>kt'=kt /\ et'=et /\ ks.length < maxLen /\ cX sh x /\ gP z v /\ doW C hs K ns ⟨⟩ e R acc [(b,.mp kt et (x::ks) (v::vs))] []) ⟨⟩:=_root_.id rfl
@[simp] theorem Ow {sh kt et z m x v v1} : opW C hs K ns dst (.mpu sh kt et z m x v) v1 e R acc=(dst=none /\ muM C hs K ns ⟨⟩ e R acc sh kt et z (vd (ac e) x) (vd (ac e) v) (vd (ac e) m)):=by
 show (dst=none /\ _)=_
 congr 1
end
@[simp] theorem Bi {s} : cX .str (.str s)=(s.length <= maxLen):=_root_.id rfl
@[simp] theorem zD {b} : cX .bool (.bool b)=True:=_root_.id rfl
@[simp] theorem Bh {q q' n} : cX (.int q) (.int q' n)=(q'=q /\ oL q n):=_root_.id rfl
@[simp] theorem zF {q n ds} : cX (.ints q n) (.agg ds)=(ds.length=n /\ ∀ d ∈ ds,∃ x,d=.int q x /\ oL q x):=_root_.id rfl
@[simp] theorem DQ {s z} : gP (.str z) (.str s)=(s.length <= maxLen):=_root_.id rfl
@[simp] theorem AW {b z} : gP (.bool z) (.bool b)=True:=_root_.id rfl
@[simp] theorem DP {q q' n z} : gP (.int q z) (.int q' n)=(q'=q /\ oL q n):=_root_.id rfl
@[simp] theorem Hb {n : Int} : oL .i64 n=(-9223372036854775808 <= n /\ n <= 9223372036854775807):=by
 have e1 : IntKind.i64.min=-9223372036854775808:=rfl
 have e2 : IntKind.i64.max=9223372036854775807:=rfl
 simp [oL,Lit.wf,e1,e2]
attribute [simp] hG fm bK dy cC bD aO de uU okR pn kC cF
attribute [simp] vd params fI jc jd jb lx lW vf prune jf isC gS aT P4 bj dpv cz stK bT rt chk rdS rdR frR fwR fM rdN gQ wrK mnR B1 ldN ah hD oJ wOk Pa.root cm bE
end Go.Gv

namespace Go.Gv
def oN (c : Int) : Bool:=(97 <= c && c <= 122) || (65 <= c && c <= 90)
def xj (c : Int) : Bool:=48 <= c && c <= 57
def xk (c : UInt8) : Bool:=oN c.toNat || xj c.toNat || c.toNat == 95
def yH (s : List UInt8) : Nat:=(s.takeWhile xk).length
def kR (n : Int) : Bool:=-1125899906842624 <= n && n <= 1125899906842624
def Pv (s : List UInt8) : Bool:=s ≠ [] && s.length <= 20 && oN (s[0]!).toNat && yH s == s.length
theorem ae {n m : Int} (h : n=m) (h2 : -9223372036854775808 <= m /\ m < 9223372036854775808) : IntKind.wrap .i64 n=m:=by
 subst h
 have e1 : IntKind.i64.signed=true:=rfl
 have e2 : (2 ^ (IntKind.i64.bits - 1) : Int)=9223372036854775808:=rfl
 have e3 : (2 ^ IntKind.i64.bits : Int)=18446744073709551616:=rfl
 unfold IntKind.wrap
 simp only [e1,e2,e3,Bool.true_and,decide_eq_true_eq]
 split <;> omega
variable {C : CC} (hC : aw prog C)
include hC
end Go.Gv

namespace Go.Gv
structure SlI where
 n : Bool
 l : List Int
 deriving Inhabited
def slI (x : SlI) : D:=slx x.n (x.l.map fun n=>[.int .i64 n])
def knD (k : Int × Int) : List D:=[.int .i64 k.1,.int .i64 k.2]
structure Sec where
 name : List UInt8
 height : Int
 price : Int
 areaN : Bool
 area : List (Int × Int)
 convN : Bool
 conv : List (Int × Int)
 deriving Inhabited
def QC (s : Sec) : List D:=[.str s.name,.int .i64 s.height,.int .i64 s.price,slx s.areaN (s.area.map knD),slx s.convN (s.conv.map knD)]
def jo {α : Type} (p : α -> Bool) (xs : List α) : Int:=match xs.findIdx? p with
 | some i=>i
 | none=>-1
theorem iv {α : Type} {p : α -> Bool} {xs : List α} {i : Nat} (hj : ∀ (j : Nat) (h : j < xs.length),j < i -> p xs[j]=false) (hi : i < xs.length) (h : p xs[i]=true) : jo p xs=i:=by
 have : xs.findIdx? p=some i:=by
  rw [List.findIdx?_eq_some_iff_getElem]
  exact ⟨hi,h,fun j hji=>by simp [hj j (by omega) hji]⟩
 simp [jo,this]
theorem iu {α : Type} {p : α -> Bool} {xs : List α} (hj : ∀ (j : Nat) (h : j < xs.length),p xs[j]=false) : jo p xs=-1:=by
 have : xs.findIdx? p=none:=by
  rw [List.findIdx?_eq_none_iff]
  intro x hx
  obtain ⟨j,h,rfl⟩:=List.mem_iff_getElem.1 hx
  exact hj j h
 simp [jo,this]
theorem lF {α : Type} (p : α -> Bool) (xs : List α) : decide (0 <= jo p xs)=xs.any p:=by
 unfold jo
 split
 ·rename_i i h
  rw [List.findIdx?_eq_some_iff_getElem] at h
  obtain ⟨h1,h2,_⟩:=h
  have : xs.any p=true:=List.any_eq_true.2 ⟨_,List.getElem_mem h1,h2⟩
  simp [this]
 ·rename_i h
  rw [List.findIdx?_eq_none_iff] at h
  have : xs.any p=false:=by rw [List.any_eq_false];intro x hx;simp [h x hx]
  simp [this]
variable {C : CC} (hC : aw prog C)
include hC
theorem uz {b : Bool} {xs : List Int} {g : Nat} {cs : List D} (p : Int -> Bool) (hs : xs.length < 2 ^ 62) (hp : ∀ x ∈ xs,C g (.int .i64 x::cs) (.bool (p x)) []) : C 35 [slx b (xs.map fun x=>[.int .i64 x]),.fn g cs] (.int .i64 (jo p xs)) []:=by
 refine start hC (nf:=N35) rfl rfl ?_
 simp [N35]
 refine av Nat (fun i=>[(0,slx b (xs.map fun x=>[.int .i64 x])),(1,.fn g cs),(7,.int .i64 xs.length),(8,.int .i64 i)]) (fun i=>i <= xs.length /\ ∀ (j : Nat) (h : j < xs.length),j < i -> p xs[j]=false) (fun i=>xs.length - i) 0 (by simp) (by simp) ?_
 rintro i ⟨hi,hj⟩
 simp
 refine al (fun h=>?_) (fun h=>?_) <;> simp [h] <;> simp at h
 ·have hw : IntKind.wrap .i64 ((i : Int) + 1)=((i + 1 : Nat) : Int):=ae (by omega) (by omega)
  have hc:=hp _ (List.getElem_mem h)
  simp [h,List.getElem_map] at hc ⊢
  refine aa hc (.inl rfl) ?_
  simp
  refine al (fun h1=>?_) (fun h1=>?_) <;> simp [h1,hw]
  ·rw [iv hj h h1]
  ·refine ⟨i + 1,⟨by omega,fun j hl hjj=>?_⟩,by omega,rfl⟩
   rcases Nat.lt_succ_iff_lt_or_eq.1 hjj with h2 | rfl
   ·exact hj j hl h2
   ·exact h1
 ·rw [iu (fun j hl=>hj j hl (by omega))]
theorem lA {b : Bool} {xs : List Int} {g : Nat} {cs : List D} (p : Int -> Bool) (hs : xs.length < 2 ^ 62) (hp : ∀ x ∈ xs,C g (.int .i64 x::cs) (.bool (p x)) []) : C 11 [slx b (xs.map fun x=>[.int .i64 x]),.fn g cs] (.bool (xs.any p)) []:=by
 refine start hC (nf:=N11) rfl rfl ?_
 simp [N11]
 refine aa (uz hC p hs hp) (.inl rfl) ?_
 simp [lF]
end Go.Gv

namespace Go.Gv
section
variable {C : CC}
theorem iE {f : Nat -> D} {dst : Option Nat} {K K' : KT} {o : NOp} (h : ay C f dst K o) (hk : ∀ ws ks,K ws ks -> K' ws ks) : ay C f dst K' o:=by
 obtain ⟨ws,ks,h1,h2⟩:=lX h
 exact h2 K' (hk ws ks h1)
theorem gz {e : Env} {dst : Option Nat} {K K' : Env -> Prop} (h : f6 e dst K) (hk : ∀ e,K e -> K' e) : f6 e dst K':=by
 unfold f6 at h ⊢
 split at h
 ·exact hk _ h
 ·exact hk _ h
theorem gd {K K' : Env -> Prop} (hk : ∀ e,K e -> K' e) : ∀ (ns : List ao) (e : Env),gB C K ns e -> gB C K' ns e
 | [],e,h=>hk e h
 | o::os,e,h=>by
  rw [gB] at h ⊢
  split at h
  ·exact iE h (fun ws ks h1=>gd hk os _ h1)
  ·split at h
   ·exact ⟨fun hb=>iE (h.1 hb) (fun ws ks h1=>gd hk os _ h1),fun hb=>gz (h.2 hb) (fun e h1=>gd hk os e h1)⟩
   ·exact gz h (fun e h1=>gd hk os e h1)
   ·exact h.elim
theorem gc {hs : List Nat} {K K' : Env -> Prop} (hk : ∀ e,K e -> K' e) : ∀ (ns : List ao) (e : Env) (acc : List (List Nat × List Nat)),iR C hs K ns e acc -> iR C hs K' ns e acc
 | [],e,acc,h=>⟨h.1,hk e h.2⟩
 | o::os,e,acc,h=>by
  rw [iR] at h ⊢
  refine ⟨h.1,?_⟩
  have h:=h.2
  split at h
  ·exact iE h (fun ws ks h1=>⟨h1.1,gc hk os _ _ h1.2⟩)
  ·split at h
   ·exact ⟨fun hb=>iE (h.1 hb) (fun ws ks h1=>⟨h1.1,gc hk os _ _ h1.2⟩),fun hb=>gz (h.2 hb) (fun e h1=>gc hk os e _ h1)⟩
   ·exact gz h (fun e h1=>gc hk os e _ h1)
   ·exact h.elim
theorem dT : ∀ (c : dF) (Q Q' : ct -> Env -> Prop) (e : Env),(∀ t e,Q t e -> Q' t e) -> wpN C c Q e -> wpN C c Q' e
 | .skip,Q,Q',e,hq,h=>hq _ _ h
 | .reg dr hs keep ops,Q,Q',e,hq,h=>by
  cases dr with
  | false=>exact gd (fun e h=>hq _ _ h) ops e h
  | true=>exact gc (fun e h=>hq _ _ h) ops e [] h
 | .seq x y,Q,Q',e,hq,h=>dT x _ _ e (fun t e h=>by
   cases t with
   | nrm=>exact dT y Q Q' e hq h
   | ext i=>exact hq _ _ h
   | ret=>exact hq _ _ h) h
 | .cond c x y,Q,Q',e,hq,h=>by
  rw [wpN] at h ⊢
  split at h
  ·exact ⟨fun hb=>dT x Q Q' e hq (h.1 hb),fun hb=>dT y Q Q' e hq (h.2 hb)⟩
  ·exact ⟨dT x Q Q' e hq h.1,dT y Q Q' e hq h.2⟩
  ·exact h.elim
 | .block id c,Q,Q',e,hq,h=>dT c _ _ e (fun t e h=>by
   cases t with
   | nrm=>exact hq _ _ h
   | ext i =>
    simp only at h ⊢
    split
    ·rename_i hi;rw [if_pos hi] at h;exact hq _ _ h
    ·rename_i hi;rw [if_neg hi] at h;exact hq _ _ h
   | ret=>exact hq _ _ h) h
 | .loop c,Q,Q',e,hq,h=>by
  obtain ⟨S,G,I,m,s0,h1,h2,h3⟩:=h
  refine ⟨S,G,I,m,s0,h1,h2,fun s hs=>dT c _ _ _ (fun t e h=>?_) (h3 s hs)⟩
  cases t with
  | nrm=>exact h
  | ext i=>exact hq _ _ h
  | ret=>exact hq _ _ h
 | .exit id,Q,Q',e,hq,h=>hq _ _ h
 | .ret,Q,Q',e,hq,h=>hq _ _ h
def sE (id : Nat) (S : Type) (G : S -> Env) (J : S -> Prop) (Q : ct -> Env -> Prop) : ct -> Env -> Prop:=fun t e=>match t with
 | .ext i=>if i=id then ∃ s,J s /\ jf e (G s) else Q (.ext i) e
 | t=>Q t e
variable {Q : ct -> Env -> Prop} {e : Env}
@[simp] theorem wY {id S G J u} : bP (sE id S G J Q) u .nrm e=bP Q ⟨⟩ .nrm e:=_root_.id rfl
@[simp] theorem wZ {id S G J u} : bP (sE id S G J Q) u .ret e=bP Q ⟨⟩ .ret e:=_root_.id rfl
@[simp] theorem wX {id S G J u i} : bP (sE id S G J Q) u (.ext i) e=if i=id then ∃ s,J s /\ jf e (G s) else bP Q ⟨⟩ (.ext i) e:=_root_.id rfl
theorem oU {c : dF} {u : Tag (c,Q)} (id : Nat) (S : Type) (G : S -> Env) (J : S -> Prop) (h : ro C c (sE id S G J Q) ⟨⟩ e) (hr : ∀ s e,J s -> jf e (G s) -> bP Q ⟨⟩ (.ext id) e) : ro C c Q u e :=
 dT (.loop c) (sE id S G J Q) Q e (fun t e g=>by
  cases t with
  | nrm=>exact g
  | ret=>exact g
  | ext i =>
   simp only [sE] at g
   by_cases hi : i=id
   ·rw [if_pos hi] at g
    obtain ⟨s,h1,h2⟩:=g
    rw [hi]
    exact hr s e h1 h2
   ·rw [if_neg hi] at g
    exact g) h
def Bw (S : Type) (G : S -> Env) (J : S -> Prop) (Q : ct -> Env -> Prop) : ct -> Env -> Prop:=fun t e=>match t with
 | .nrm=>∃ s,J s /\ jf e (G s)
 | t=>Q t e
@[simp] theorem wV {S G J u} : bP (Bw S G J Q) u .nrm e=∃ s,J s /\ jf e (G s):=_root_.id rfl
@[simp] theorem wW {S G J u} : bP (Bw S G J Q) u .ret e=bP Q ⟨⟩ .ret e:=_root_.id rfl
@[simp] theorem wU {S G J u i} : bP (Bw S G J Q) u (.ext i) e=bP Q ⟨⟩ (.ext i) e:=_root_.id rfl
end
@[simp] theorem JS {C : CC} {hs : Option (List Nat)} {K : Env -> Prop} {ns : List ao} {dst : Option Nat} {u : Tag (hs,K,ns)} {e : Env} {R : List Nat} {acc : List (List Nat × List Nat)} {α : Type} [Inhabited α] {n : Nat} {ag : Bool} {p : Pa} {xs : List α} {f : α -> List D} {i off : Nat} :
  j5 C hs K ns dst u e R acc n ag p (xs.map f) i off=(i < xs.length /\ off + n <= (f xs[i]!).length /\ match ag with
    | true=>((((f xs[i]!).drop off).take n).all isV=true -> dW C hs K ns dst ⟨⟩ e R acc (.agg (((f xs[i]!).drop off).take n))) /\
      ((((f xs[i]!).drop off).take n).all isV=false -> dW C hs K ns dst ⟨⟩ e R acc (.agx ((((f xs[i]!).drop off).take n).mapIdx fun j c=>ldc p i (off + j) c)))
    | false=>dW C hs K ns dst ⟨⟩ e R acc (ldc p i off (((f xs[i]!).drop off).headD .any))):=by
 apply propext
 constructor
 ·rintro ⟨r,h,h1,h2⟩
  rw [List.getElem?_map,Option.map_eq_some_iff] at h
  obtain ⟨x,hx,rfl⟩:=h
  obtain ⟨hi,rfl⟩:=List.getElem?_eq_some_iff.1 hx
  rw [getElem!_pos xs i hi]
  refine ⟨hi,h1,?_⟩
  cases ag <;> exact h2
 ·rintro ⟨hi,h1,h2⟩
  rw [getElem!_pos xs i hi] at h1 h2
  refine nZ (r:=f xs[i]) (by rw [List.getElem?_map,List.getElem?_eq_getElem hi];rfl) h1 ?_
  cases ag <;> exact h2
@[simp] theorem EC {b all ks n} : aU ((b,all)::ks) (.ptx n)=if n.any (aJ b all) then .any else aU ks (.ptx n):=by
 have h : aU ((b,all)::ks) (.ptx n)=bif (n.any (aJ b all) || aD ks (.ptx n)) then .any else .ptx n:=cj ..
 rw [h,cj]
 cases n.any (aJ b all) <;> rfl
@[simp] theorem EE {b all ks k sz n} : aU ((b,all)::ks) (.rfx k sz n)=if n.any (aJ b all) then .any else aU ks (.rfx k sz n):=by
 have h : aU ((b,all)::ks) (.rfx k sz n)=bif (n.any (aJ b all) || aD ks (.rfx k sz n)) then .any else .rfx k sz n:=cj ..
 rw [h,cj]
 cases n.any (aJ b all) <;> rfl
@[simp] theorem EH {b all ks n} : aU ((b,all)::ks) (.tpx n)=if n.any (aJ b all) then .any else aU ks (.tpx n):=by
 have h : aU ((b,all)::ks) (.tpx n)=bif (n.any (aJ b all) || aD ks (.tpx n)) then .any else .tpx n:=cj ..
 rw [h,cj]
 cases n.any (aJ b all) <;> rfl
@[simp] theorem ES {b all n es} : aJ b all (slx n es)=false:=by cases n <;> cases es <;> rfl
@[simp] theorem ER {b all p k n} : aJ b all (.ref p k n)=bT b all p:=_root_.id rfl
@[simp] theorem EN {b all p k n} : aJ b all (.adr p k n)=bT b all p:=_root_.id rfl
@[simp] theorem EP {b all c} : aJ b all (.mrf c)=(all && c == b):=_root_.id rfl
@[simp] theorem EO {b all k n} : aJ b all (.int k n)=false:=_root_.id rfl
@[simp] theorem Bt {b all n} : aJ b all (.bool n)=false:=_root_.id rfl
@[simp] theorem ET {b all n} : aJ b all (.str n)=false:=_root_.id rfl
@[simp] theorem Bv {b all} : aJ b all .nils=false:=_root_.id rfl
@[simp] theorem Bu {b all} : aJ b all .nilp=false:=_root_.id rfl
@[simp] theorem I4 {b all n} : aJ b all (.sl n)=false:=_root_.id rfl
@[simp] theorem EQ {b all n} : aJ b all (.ptr n)=false:=_root_.id rfl
@[simp] theorem I2 {b all g n} : aJ b all (.fn g n)=false:=_root_.id rfl
@[simp] theorem Ez {b all ks c} : aU ((b,all)::ks) (.mrf c)=if (all && c == b) then .any else aU ks (.mrf c):=by
 have h : aU ((b,all)::ks) (.mrf c)=bif ((all && c == b) || aD ks (.mrf c)) then .any else .mrf c:=cj ..
 rw [h,cj]
 cases all && c == b <;> rfl
end Go.Gv

namespace Go.Gv
section
variable {C : CC} {hs : Option (List Nat)} {K : Env -> Prop} {ns : List ao} {dst : Option Nat} {u : Tag (hs,K,ns)} {e : Env} {R : List Nat} {acc : List (List Nat × List Nat)}
theorem cP {sz : Nat} {es : List (List D)} {i : Nat} {c : List D} (h : es[i]? = some c) : iM C hs K ns dst u e R acc sz es i=(c.length=sz /\ dW C hs K ns dst ⟨⟩ e R acc (.ptr c)):=by
 apply propext
 unfold iM dW
 rw [h]
 exact ⟨fun ⟨_,h1,h2⟩=>by cases h1;exact h2,fun h2=>⟨c,rfl,h2⟩⟩
theorem bO {n : Nat} {ag : Bool} {p : Pa} {es : List (List D)} {i off : Nat} {r : List D} (hr : es[i]? = some r) : j5 C hs K ns dst u e R acc n ag p es i off=(off + n <= r.length /\ match ag with
    | true=>(((r.drop off).take n).all isV=true -> dW C hs K ns dst ⟨⟩ e R acc (.agg ((r.drop off).take n))) /\
      (((r.drop off).take n).all isV=false -> dW C hs K ns dst ⟨⟩ e R acc (.agx (((r.drop off).take n).mapIdx fun j c=>ldc p i (off + j) c)))
    | false=>dW C hs K ns dst ⟨⟩ e R acc (ldc p i off ((r.drop off).headD .any))):=by
 apply propext
 constructor
 ·rintro ⟨r',h,h1,h2⟩
  rw [hr] at h
  cases h
  refine ⟨h1,?_⟩
  cases ag <;> exact h2
 ·rintro ⟨h1,h2⟩
  refine nZ hr h1 ?_
  cases ag <;> exact h2
@[simp] theorem G2 {sz : Nat} {c0 : List D} {es : List (List D)} : iM C hs K ns dst u e R acc sz (c0::es) 0=(c0.length=sz /\ dW C hs K ns dst ⟨⟩ e R acc (.ptr c0)):=cP rfl
theorem vg {n : Nat} {ag : Bool} {p : Pa} {off : Nat} {c0 : List D} {es : List (List D)} : j5 C hs K ns dst u e R acc n ag p (c0::es) 0 off=(off + n <= c0.length /\ match ag with
    | true=>(((c0.drop off).take n).all isV=true -> dW C hs K ns dst ⟨⟩ e R acc (.agg ((c0.drop off).take n))) /\
      (((c0.drop off).take n).all isV=false -> dW C hs K ns dst ⟨⟩ e R acc (.agx (((c0.drop off).take n).mapIdx fun j c=>ldc p 0 (off + j) c)))
    | false=>dW C hs K ns dst ⟨⟩ e R acc (ldc p 0 off ((c0.drop off).headD .any))):=bO rfl
@[simp] theorem G3 {sz : Nat} {c0 c1 : List D} {es : List (List D)} : iM C hs K ns dst u e R acc sz (c0::c1::es) 1=(c1.length=sz /\ dW C hs K ns dst ⟨⟩ e R acc (.ptr c1)):=cP rfl
theorem vh {n : Nat} {ag : Bool} {p : Pa} {off : Nat} {c0 c1 : List D} {es : List (List D)} : j5 C hs K ns dst u e R acc n ag p (c0::c1::es) 1 off=(off + n <= c1.length /\ match ag with
    | true=>(((c1.drop off).take n).all isV=true -> dW C hs K ns dst ⟨⟩ e R acc (.agg ((c1.drop off).take n))) /\
      (((c1.drop off).take n).all isV=false -> dW C hs K ns dst ⟨⟩ e R acc (.agx (((c1.drop off).take n).mapIdx fun j c=>ldc p 1 (off + j) c)))
    | false=>dW C hs K ns dst ⟨⟩ e R acc (ldc p 1 off ((c1.drop off).headD .any))):=bO rfl
@[simp] theorem G4 {sz : Nat} {c0 c1 c2 : List D} {es : List (List D)} : iM C hs K ns dst u e R acc sz (c0::c1::c2::es) 2=(c2.length=sz /\ dW C hs K ns dst ⟨⟩ e R acc (.ptr c2)):=cP rfl
theorem vi {n : Nat} {ag : Bool} {p : Pa} {off : Nat} {c0 c1 c2 : List D} {es : List (List D)} : j5 C hs K ns dst u e R acc n ag p (c0::c1::c2::es) 2 off=(off + n <= c2.length /\ match ag with
    | true=>(((c2.drop off).take n).all isV=true -> dW C hs K ns dst ⟨⟩ e R acc (.agg ((c2.drop off).take n))) /\
      (((c2.drop off).take n).all isV=false -> dW C hs K ns dst ⟨⟩ e R acc (.agx (((c2.drop off).take n).mapIdx fun j c=>ldc p 2 (off + j) c)))
    | false=>dW C hs K ns dst ⟨⟩ e R acc (ldc p 2 off ((c2.drop off).headD .any))):=bO rfl
@[simp] theorem G5 {sz : Nat} {c0 c1 c2 c3 : List D} {es : List (List D)} : iM C hs K ns dst u e R acc sz (c0::c1::c2::c3::es) 3=(c3.length=sz /\ dW C hs K ns dst ⟨⟩ e R acc (.ptr c3)):=cP rfl
theorem vj {n : Nat} {ag : Bool} {p : Pa} {off : Nat} {c0 c1 c2 c3 : List D} {es : List (List D)} : j5 C hs K ns dst u e R acc n ag p (c0::c1::c2::c3::es) 3 off=(off + n <= c3.length /\ match ag with
    | true=>(((c3.drop off).take n).all isV=true -> dW C hs K ns dst ⟨⟩ e R acc (.agg ((c3.drop off).take n))) /\
      (((c3.drop off).take n).all isV=false -> dW C hs K ns dst ⟨⟩ e R acc (.agx (((c3.drop off).take n).mapIdx fun j c=>ldc p 3 (off + j) c)))
    | false=>dW C hs K ns dst ⟨⟩ e R acc (ldc p 3 off ((c3.drop off).headD .any))):=bO rfl
@[simp] theorem G6 {sz : Nat} {c0 c1 c2 c3 c4 : List D} {es : List (List D)} : iM C hs K ns dst u e R acc sz (c0::c1::c2::c3::c4::es) 4=(c4.length=sz /\ dW C hs K ns dst ⟨⟩ e R acc (.ptr c4)):=cP rfl
theorem vk {n : Nat} {ag : Bool} {p : Pa} {off : Nat} {c0 c1 c2 c3 c4 : List D} {es : List (List D)} : j5 C hs K ns dst u e R acc n ag p (c0::c1::c2::c3::c4::es) 4 off=(off + n <= c4.length /\ match ag with
    | true=>(((c4.drop off).take n).all isV=true -> dW C hs K ns dst ⟨⟩ e R acc (.agg ((c4.drop off).take n))) /\
      (((c4.drop off).take n).all isV=false -> dW C hs K ns dst ⟨⟩ e R acc (.agx (((c4.drop off).take n).mapIdx fun j c=>ldc p 4 (off + j) c)))
    | false=>dW C hs K ns dst ⟨⟩ e R acc (ldc p 4 off ((c4.drop off).headD .any))):=bO rfl
attribute [simp] vg vh vi vj vk
end
end Go.Gv

namespace Go.Gv
structure Spt where
 x : Int
 y : Int
 z : Int
 deriving Inhabited,DecidableEq
structure Fce where
 a : Int
 b : Int
 c : Int
 k : Int
 deriving Inhabited,DecidableEq
structure Msh where
 sn : Bool
 s : List Spt
 fn : Bool
 f : List Fce
def bk (s : Spt) : List D:=[.int .i64 s.x,.int .i64 s.y,.int .i64 s.z]
def aY (f : Fce) : List D:=[.int .i64 f.a,.int .i64 f.b,.int .i64 f.c,.int .i64 f.k]
def aZ (m : Msh) : List D:=[slx m.sn (m.s.map bk),slx m.fn (m.f.map aY)]
theorem bq (s : Spt) : bk s=[.int .i64 s.x,.int .i64 s.y,.int .i64 s.z]:=_root_.id rfl
theorem aX (f : Fce) : aY f=[.int .i64 f.a,.int .i64 f.b,.int .i64 f.c,.int .i64 f.k]:=_root_.id rfl
theorem ab (m : Msh) : aZ m=[slx m.sn (m.s.map bk),slx m.fn (m.f.map aY)]:=_root_.id rfl
def spt (m : Msh) (i : Nat) : Spt:=m.s[i]!
def fce (m : Msh) (i : Nat) : Fce:=m.f[i]!
@[simp high] theorem P6 (m : Msh) (i : Nat) : m.s[i]! = spt m i:=_root_.id rfl
@[simp high] theorem Ph (m : Msh) (i : Nat) : m.f[i]! = fce m i:=_root_.id rfl
@[simp high] theorem P7 (m : Msh) (i : Nat) : m.s[i]?.getD default=spt m i:=by simp only [spt,List.getElem!_eq_getElem?_getD]
@[simp high] theorem Pi (m : Msh) (i : Nat) : m.f[i]?.getD default=fce m i:=by simp only [fce,List.getElem!_eq_getElem?_getD]
@[simp] theorem Qm (m : Msh) (i : Nat) (h : i < m.s.length) : m.s[i]=spt m i:=(getElem!_pos m.s i h).symm
@[simp] theorem Qg (m : Msh) (i : Nat) (h : i < m.f.length) : m.f[i]=fce m i:=(getElem!_pos m.f i h).symm
abbrev Pnt:=Int × Int
def ptD (p : Pnt) : List D:=[.int .i64 p.1,.int .i64 p.2]
def ptS (s : Spt) : Pnt:=(s.x,s.y)
def okP (p : Pnt) : Bool:=-16777216 <= p.1 && p.1 <= 16777216 && -16777216 <= p.2 && p.2 <= 16777216
def aA (s : Spt) : Bool:=-16777216 <= s.x && s.x <= 16777216 && -16777216 <= s.y && s.y <= 16777216 && -4194304 <= s.z && s.z <= 4194304
theorem i7 {s : Spt} (h : aA s=true) : okP (ptS s)=true:=by
 simp only [aA,Bool.and_eq_true,decide_eq_true_eq] at h
 show okP (s.x,s.y)=true
 simp [okP]
 omega
def aF (a b c : Pnt) : Int:=(b.1 - a.1) * (c.2 - a.2) - (b.2 - a.2) * (c.1 - a.1)
theorem jY {a b k l : Int} (h1 : -k <= a) (h2 : a <= k) (h3 : -l <= b) (h4 : b <= l) : -(k * l) <= a * b /\ a * b <= k * l:=by
 have hk : 0 <= k:=by omega
 have hl : 0 <= l:=by omega
 have e1:=Int.mul_nonneg (show 0 <= k - a by omega) (show 0 <= l - b by omega)
 have e2:=Int.mul_nonneg (show 0 <= k + a by omega) (show 0 <= l + b by omega)
 have e3:=Int.mul_nonneg (show 0 <= k - a by omega) (show 0 <= l + b by omega)
 have e4:=Int.mul_nonneg (show 0 <= k + a by omega) (show 0 <= l - b by omega)
 simp only [Int.sub_mul,Int.mul_sub,Int.add_mul,Int.mul_add] at e1 e2 e3 e4
 omega
theorem cI {p : Pnt} (h : okP p=true) : -16777216 <= p.1 /\ p.1 <= 16777216 /\ -16777216 <= p.2 /\ p.2 <= 16777216:=by
 simp only [okP,Bool.and_eq_true,decide_eq_true_eq] at h
 omega
theorem jE {a b c : Pnt} (ha : okP a=true) (hb : okP b=true) (hc : okP c=true) :
  (-1125899906842624 <= (b.1 - a.1) * (c.2 - a.2) /\ (b.1 - a.1) * (c.2 - a.2) <= 1125899906842624) /\ (-1125899906842624 <= (b.2 - a.2) * (c.1 - a.1) /\ (b.2 - a.2) * (c.1 - a.1) <= 1125899906842624):=by
 have:=cI ha
 have:=cI hb
 have:=cI hc
 exact ⟨jY (k:=33554432) (l:=33554432) (by omega) (by omega) (by omega) (by omega),jY (k:=33554432) (l:=33554432) (by omega) (by omega) (by omega) (by omega)⟩
abbrev Tri:=Pnt × Pnt × Pnt
def cl (t : Tri) : List D:=[.int .i64 t.1.1,.int .i64 t.1.2,.int .i64 t.2.1.1,.int .i64 t.2.1.2,.int .i64 t.2.2.1,.int .i64 t.2.2.2]
def okT (t : Tri) : Bool:=okP t.1 && okP t.2.1 && okP t.2.2
def nr (t : Tri) : Int:=aF t.1 t.2.1 t.2.2
def ic (p q : Pnt) (u : Tri) : Bool:=aF p q u.1 <= 0 && aF p q u.2.1 <= 0 && aF p q u.2.2 <= 0
def pv (t u : Tri) : Bool:=ic t.1 t.2.1 u || ic t.2.1 t.2.2 u || ic t.2.2 t.1 u
def ovT (t u : Tri) : Bool:=!pv t u && !pv u t
def aQ (m : Msh) (f : Fce) : Tri:=(ptS (spt m f.a.toNat),ptS (spt m f.b.toNat),ptS (spt m f.c.toNat))
def crn (f : Fce) : Nat -> Int
 | 0=>f.a
 | 1=>f.b
 | 2=>f.c
 | 3=>f.a
 | 4=>f.b
 | _=>f.c
def fO (n : Nat) (a : Int) : Bool:=0 <= a && a < n
def inS (m : Msh) (f : Fce) : Bool:=fO m.s.length f.a && fO m.s.length f.b && fO m.s.length f.c
theorem gm {m : Msh} {f : Fce} (h : inS m f=true) : (0 <= f.a /\ f.a.toNat < m.s.length) /\ (0 <= f.b /\ f.b.toNat < m.s.length) /\ (0 <= f.c /\ f.c.toNat < m.s.length):=by
 simp only [inS,fO,Bool.and_eq_true,decide_eq_true_eq] at h
 omega
variable {C : CC} (hC : aw prog C)
include hC
theorem fp (p : Pnt) : C 313 [.agg (ptD p)] (.bool (okP p)) []:=by
 refine start hC (nf:=N313) rfl rfl ?_
 simp [N313,ptD,okP]
 repeat' (refine al (fun h=>?_) (fun h=>?_) <;> simp at h <;> simp [h] <;> try omega)
theorem o5 (s : Spt) : C 303 [.agg (bk s)] (.bool (aA s)) []:=by
 have k:=fp hC (s.x,s.y)
 simp [ptD,okP] at k
 refine start hC (nf:=N303) rfl rfl ?_
 simp [N303,bk,aA]
 refine aa k (.inl rfl) ?_
 simp
 repeat' (refine al (fun h=>?_) (fun h=>?_) <;> simp at h <;> simp [h] <;> try omega)
theorem rB (s : Spt) : C 289 [.agg (bk s)] (.bool (aA s)) []:=by
 refine start hC (nf:=N289) rfl rfl ?_
 simp [N289,bk,aA]
 repeat' (refine al (fun h=>?_) (fun h=>?_) <;> simp at h <;> simp [h] <;> try omega)
theorem jw (s : Spt) : C 291 [.agg (bk s)] (.agg (ptD (ptS s))) []:=by
 refine start hC (nf:=N291) rfl rfl ?_
 simp [N291,bk,ptD,ptS]
theorem o6 (m : Msh) : C 302 [.agg (aZ m)] (.bool (decide (m.s.length <= 2000) && decide (m.f.length <= 4000))) []:=by
 refine start hC (nf:=N302) rfl rfl ?_
 simp [N302,aZ]
 refine al (fun h=>?_) (fun h=>?_) <;> simp at h <;> simp [h]
 ·rw [decide_eq_true (show m.s.length <= 2000 by omega)]
  simp
  exact Iff.intro (fun h2=>by omega) (fun h2=>by omega)
 ·omega
theorem vp (m : Msh) : C 257 [.agg (aZ m)] (.bool (decide (m.s.length <= 2000) && decide (m.f.length <= 4000))) []:=by
 refine start hC (nf:=N257) rfl rfl ?_
 simp [N257,aZ]
 refine al (fun h=>?_) (fun h=>?_) <;> simp at h <;> simp [h]
 ·rw [decide_eq_true (show m.s.length <= 2000 by omega)]
  simp
  exact Iff.intro (fun h2=>by omega) (fun h2=>by omega)
 ·omega
theorem jr (m : Msh) (i : Nat) (h : i < m.s.length) : C 304 [.agg (aZ m),.int .i64 i] (.agg (ptD (ptS (spt m i)))) []:=by
 refine start hC (nf:=N304) rfl rfl ?_
 simp [N304,aZ,h,bq,ptD,ptS]
 exact ai (by decide +kernel)
theorem lK (f : Fce) : C 305 [.agg (aY f)] (.agg [.int .i64 f.a,.int .i64 f.b,.int .i64 f.c]) []:=by
 refine start hC (nf:=N305) rfl rfl ?_
 simp [N305,aY]
theorem xF (f : Fce) (k : Nat) (hk : k < 3) : C 298 [.agg (aY f),.int .i64 k] (.agg [.int .i64 (crn f k),.int .i64 (crn f (k + 1))]) []:=by
 have k1:=lK hC f
 refine start hC (nf:=N298) rfl rfl ?_
 rw [aY] at k1 ⊢
 simp [N298]
 refine aa k1 (.inl rfl) ?_
 have w : IntKind.wrap .i64 ((k : Int) + 1)=((k + 1 : Nat) : Int):=ae (by omega) (by omega)
 have w0 : IntKind.wrap .i64 1=1:=by decide
 have w1 : IntKind.wrap .i64 2=2:=by decide
 have w2 : IntKind.wrap .i64 3=3:=by decide
 rcases (by omega : k=0 \/ k=1 \/ k=2) with rfl | rfl | rfl <;> simp [crn,w0,w1,w2] <;> exact ai (by decide +kernel)
theorem rq {a b c : Pnt} (ha : okP a=true) (hb : okP b=true) (hc : okP c=true) : C 308 [.agg (ptD a),.agg (ptD b),.agg (ptD c)] (.int .i64 (aF a b c)) []:=by
 have:=cI ha
 have:=cI hb
 have:=cI hc
 have h4:=jE ha hb hc
 refine start hC (nf:=N308) rfl rfl ?_
 have w1 : IntKind.wrap .i64 (b.1 - a.1)=b.1 - a.1:=ae rfl (by omega)
 have w2 : IntKind.wrap .i64 (c.2 - a.2)=c.2 - a.2:=ae rfl (by omega)
 have w3 : IntKind.wrap .i64 (b.2 - a.2)=b.2 - a.2:=ae rfl (by omega)
 have w4 : IntKind.wrap .i64 (c.1 - a.1)=c.1 - a.1:=ae rfl (by omega)
 have w5 : IntKind.wrap .i64 ((b.1 - a.1) * (c.2 - a.2))=(b.1 - a.1) * (c.2 - a.2):=ae rfl (by omega)
 have w6 : IntKind.wrap .i64 ((b.2 - a.2) * (c.1 - a.1))=(b.2 - a.2) * (c.1 - a.1):=ae rfl (by omega)
 have w7 : IntKind.wrap .i64 ((b.1 - a.1) * (c.2 - a.2) - (b.2 - a.2) * (c.1 - a.1))=aF a b c:=ae rfl (by rw [aF];omega)
 simp [N308,ptD,w1,w2,w3,w4,w5,w6,w7]
theorem rC {a b c : Pnt} (ha : okP a=true) (hb : okP b=true) (hc : okP c=true) : C 286 [.agg (ptD a),.agg (ptD b),.agg (ptD c)] (.int .i64 (aF a b c)) []:=by
 have:=cI ha
 have:=cI hb
 have:=cI hc
 have h4:=jE ha hb hc
 refine start hC (nf:=N286) rfl rfl ?_
 have w1 : IntKind.wrap .i64 (b.1 - a.1)=b.1 - a.1:=ae rfl (by omega)
 have w2 : IntKind.wrap .i64 (c.2 - a.2)=c.2 - a.2:=ae rfl (by omega)
 have w3 : IntKind.wrap .i64 (b.2 - a.2)=b.2 - a.2:=ae rfl (by omega)
 have w4 : IntKind.wrap .i64 (c.1 - a.1)=c.1 - a.1:=ae rfl (by omega)
 have w5 : IntKind.wrap .i64 ((b.1 - a.1) * (c.2 - a.2))=(b.1 - a.1) * (c.2 - a.2):=ae rfl (by omega)
 have w6 : IntKind.wrap .i64 ((b.2 - a.2) * (c.1 - a.1))=(b.2 - a.2) * (c.1 - a.1):=ae rfl (by omega)
 have w7 : IntKind.wrap .i64 ((b.1 - a.1) * (c.2 - a.2) - (b.2 - a.2) * (c.1 - a.1))=aF a b c:=ae rfl (by rw [aF];omega)
 simp [N286,ptD,w1,w2,w3,w4,w5,w6,w7]
theorem BU (m : Msh) (f : Fce) (h : inS m f=true) : C 307 [.agg (aZ m),.agg (aY f)] (.agg (cl (aQ m f))) []:=by
 obtain ⟨⟨a1,a2⟩,⟨b1,b2⟩,⟨c1,c2⟩⟩:=gm h
 have ka:=jr hC m f.a.toNat a2
 have kb:=jr hC m f.b.toNat b2
 have kc:=jr hC m f.c.toNat c2
 rw [Int.toNat_of_nonneg a1] at ka
 rw [Int.toNat_of_nonneg b1] at kb
 rw [Int.toNat_of_nonneg c1] at kc
 refine start hC (nf:=N307) rfl rfl ?_
 rw [aZ] at ka kb kc ⊢
 simp [N307,aY]
 simp [ptD] at ka kb kc
 refine aa ka (.inl rfl) ?_
 simp
 refine aa kb (.inl rfl) ?_
 simp
 refine aa kc (.inl rfl) ?_
 simp [cl,aQ]
 exact ai (by decide +kernel)
theorem nh (f : Fce) (k : Nat) (hk : k < 4) : C 323 [.agg (aY f),.int .i64 k] (.int .i64 (crn f k)) []:=by
 refine start hC (nf:=N323) rfl rfl ?_
 rcases (by omega : k=0 \/ k=1 \/ k=2 \/ k=3) with rfl | rfl | rfl | rfl <;> simp [N323,aY,crn] <;> (refine nZ (r:=[.int .i64 _]) rfl (by simp) ?_;simp)
theorem qA (m : Msh) (f : Fce) (h : inS m f=true) : C 285 [.agg (aZ m),.agg (aY f)] (.sl [ptD (aQ m f).1,ptD (aQ m f).2.1,ptD (aQ m f).2.2]) []:=by
 obtain ⟨⟨a1,a2⟩,⟨b1,b2⟩,⟨c1,c2⟩⟩:=gm h
 have ka:=jw hC (spt m f.a.toNat)
 have kb:=jw hC (spt m f.b.toNat)
 have kc:=jw hC (spt m f.c.toNat)
 rw [bk] at ka kb kc
 refine start hC (nf:=N285) rfl rfl ?_
 simp [N285,aY,aZ,a1,a2,bq]
 refine aa ka (.inl rfl) ?_
 simp [b1,b2,bq]
 refine aa kb (.inl rfl) ?_
 simp [c1,c2,bq]
 refine aa kc (.inl rfl) ?_
 simp [aQ,ptD]
 exact ai (by decide +kernel)
end Go.Gv

namespace Go.Gv
def onG (a b p : Pnt) : Bool:=decide (aF a b p=0) && decide (min a.1 b.1 <= p.1) && decide (p.1 <= max a.1 b.1) && decide (min a.2 b.2 <= p.2) && decide (p.2 <= max a.2 b.2)
def apG (a b p q : Pnt) : Bool:=(decide (aF a b p < 0) && decide (0 < aF a b q)) || (decide (0 < aF a b p) && decide (aF a b q < 0))
end Go.Gv

namespace Go.Gv
open Go.Lib Go.Sort Go.Proofs
abbrev Fnd:=Int × List UInt8
def Qu (x : Fnd) : List D:=[.int .i64 x.1,.str x.2]
structure TC {α : Type} (c : α -> α -> Int) : Prop where
 eq0 : ∀ x y,c x y=0 -> x=y
 anti : ∀ x y,c y x=- c x y
 trans : ∀ x y z,c x y < 0 -> c y z < 0 -> c x z < 0
section
variable {α : Type} {c : α -> α -> Int}
theorem TC.refl (h : TC c) (x : α) : c x x=0:=by have:=h.anti x x;omega
theorem TC.swo (h : TC c) : SWO (ltOf c) where
 irrefl x:=by simp [ltOf,h.refl x]
 trans x y z h1 h2:=by
  simp only [ltOf,decide_eq_true_eq] at *
  exact h.trans x y z h1 h2
 ntrans x y z h1 h2:=by
  simp only [ltOf,decide_eq_false_iff_not] at *
  by_cases e1 : c x y=0
  ·rw [h.eq0 _ _ e1];exact h2
  by_cases e2 : c y z=0
  ·rw [<- h.eq0 _ _ e2];exact h1
  have a1:=h.anti x y
  have a2:=h.anti y z
  have a3:=h.anti x z
  have:=h.trans z y x (by omega) (by omega)
  omega
theorem TC.tot (h : TC c) (x y : α) (h1 : (ltOf c) x y=false) (h2 : (ltOf c) y x=false) : x=y:=by
 simp only [ltOf,decide_eq_false_iff_not] at *
 have:=h.anti x y
 exact h.eq0 x y (by omega)
end
def He (a b : Int) : Int:=if a < b then -1 else if b < a then 1 else 0
def Qs (x y : Fnd) : Int:=if He x.1 y.1=0 then compareBytes x.2 y.2 else He x.1 y.1
section
variable {α : Type} {c : α -> α -> Int}
def oh (c : α -> α -> Int) (l : List α) : Prop:=l.Pairwise fun x y=>c x y < 0
theorem oh.unique (h : TC c) : ∀ {l l' : List α},oh c l -> oh c l' -> (∀ x,x ∈ l ↔ x ∈ l') -> l=l'
 | [],[],_,_,_=>rfl
 | [],y::_,_,_,hm=>absurd ((hm y).2 (by simp)) (by simp)
 | x::_,[],_,_,hm=>absurd ((hm x).1 (by simp)) (by simp)
 | x::l,y::l',hs,hs',hm=>by
  obtain ⟨a1,a2⟩:=List.pairwise_cons.1 hs
  obtain ⟨b1,b2⟩:=List.pairwise_cons.1 hs'
  have e : x=y:=by
   rcases List.mem_cons.1 ((hm x).1 (by simp)) with e | e
   ·exact e
   ·rcases List.mem_cons.1 ((hm y).2 (by simp)) with e' | e'
    ·exact e'.symm
    ·have h1:=b1 x e
     have h2:=a1 y e'
     have:=h.anti x y
     omega
  subst e
  rw [oh.unique h a2 b2 (fun z=>⟨fun hz=>?_,fun hz=>?_⟩)]
  ·rcases List.mem_cons.1 ((hm z).1 (by simp [hz])) with e | e
   ·subst e;have:=a1 z hz;have:=h.refl z;omega
   ·exact e
  ·rcases List.mem_cons.1 ((hm z).2 (by simp [hz])) with e | e
   ·subst e;have:=b1 z hz;have:=h.refl z;omega
   ·exact e
def ddL [DecidableEq α] : List α -> List α
 | []=>[]
 | [x]=>[x]
 | x::y::r=>if x=y then ddL (y::r) else x::ddL (y::r)
theorem gM [DecidableEq α] (x y : α) (r : List α) : ddL (x::y::r)=if x=y then ddL (y::r) else x::ddL (y::r):=rfl
theorem nF [DecidableEq α] : ∀ (l : List α) (x : α),x ∈ ddL l ↔ x ∈ l
 | [],x=>by simp [ddL]
 | [y],x=>by simp [ddL]
 | y::z::r,x=>by
  rw [gM]
  have ih:=nF (z::r) x
  by_cases e : y=z
  ·rw [if_pos e,ih];subst e;simp
  ·rw [if_neg e,List.mem_cons,ih];simp
theorem qY [DecidableEq α] (h : TC c) : ∀ {l : List α},(l.Pairwise fun x y=>¬ c y x < 0) -> oh c (ddL l)
 | [],_=>List.Pairwise.nil
 | [y],_=>by simp [ddL,oh]
 | y::z::r,hp=>by
  obtain ⟨a1,a2⟩:=List.pairwise_cons.1 hp
  have ih:=qY h a2
  rw [gM]
  by_cases e : y=z
  ·rw [if_pos e];exact ih
  ·rw [if_neg e]
   refine List.pairwise_cons.2 ⟨fun w hw=>?_,ih⟩
   have hw2:=(nF _ _).1 hw
   have h1:=a1 w hw2
   have hyz : c y z < 0:=by
    have h2:=a1 z (by simp)
    have h3:=h.anti y z
    have : c y z ≠ 0:=fun e'=>e (h.eq0 _ _ e')
    omega
   rcases List.mem_cons.1 hw2 with e1 | e1
   ·subst e1;exact hyz
   ·have h4:=(List.pairwise_cons.1 a2).1 w e1
    have h5:=h.anti z w
    by_cases e2 : c z w=0
    ·rw [<- h.eq0 _ _ e2];exact hyz
    ·exact h.trans y z w hyz (by omega)
def mg (c : α -> α -> Int) (l : List α) : List α:=l.mergeSort fun x y=>!(ltOf c) y x
theorem vJ {l : List α} {x : α} : x ∈ mg c l ↔ x ∈ l:=by unfold mg;exact List.mem_mergeSort
theorem jA {l : List α} : (mg c l).length=l.length:=by unfold mg;exact List.length_mergeSort l
theorem yz (h : TC c) (l : List α) : (mg c l).Pairwise fun x y=>¬ c y x < 0:=by
 have h1:=List.pairwise_mergeSort (le:=fun x y : α=>!(ltOf c) y x) (fun a b d h1 h2=>by
  simp only [Bool.not_eq_true'] at *
  exact h.swo.ntrans _ _ _ h2 h1) (fun a b=>by
  simp only [Bool.or_eq_true,Bool.not_eq_true',ltOf,decide_eq_false_iff_not]
  have:=h.anti a b
  omega) l
 exact h1.imp fun {x y} hxy=>by simpa [ltOf] using hxy
def tv [DecidableEq α] (c : α -> α -> Int) (l : List α) : List α:=ddL (mg c l)
theorem tw [DecidableEq α] {l : List α} {x : α} : x ∈ tv c l ↔ x ∈ l:=by unfold tv;rw [nF,vJ]
theorem tx [DecidableEq α] (h : TC c) (l : List α) : oh c (tv c l):=qY h (yz h l)
theorem wo [DecidableEq α] (h : TC c) {l l' : List α} (hs : oh c l') (hm : ∀ x,x ∈ l ↔ x ∈ l') : tv c l=l':=(tx h l).unique h hs fun x=>by rw [tw];exact hm x
def QB (c : α -> α -> Int) (l : List α) (x : α) : List α:=l.filter (fun y=>decide (c y x < 0))++x::l.filter (fun y=>decide (c x y < 0))
end
end Go.Gv

namespace Go.Gv
def Frq : Type:={ q : Int × Int // 0 < q.2 /\ q.2 <= 1073741824 /\ -1073741824 <= q.1 /\ q.1 <= 1073741824 /\ Nat.gcd q.1.natAbs q.2.natAbs=1 }
instance : DecidableEq Frq:=fun a b=>decidable_of_iff (a.1=b.1) Subtype.ext_iff.symm
def fqC (x y : Frq) : Int:=if x.1.1 * y.1.2 < y.1.1 * x.1.2 then -1 else if y.1.1 * x.1.2 < x.1.1 * y.1.2 then 1 else 0
theorem GQ {a b c d : Int} (hb : 0 < b) (hd : 0 < d) (h1 : Nat.gcd a.natAbs b.natAbs=1) (h2 : Nat.gcd c.natAbs d.natAbs=1) (e : a * d=c * b) : a=c /\ b=d:=by
 have e1 : a.natAbs * d.natAbs=c.natAbs * b.natAbs:=by rw [<- Int.natAbs_mul,<- Int.natAbs_mul,e]
 have d1 : b.natAbs ∣ d.natAbs:=(Nat.Coprime.symm h1 : Nat.Coprime b.natAbs a.natAbs).dvd_of_dvd_mul_left (by rw [e1];exact Nat.dvd_mul_left _ _)
 have d2 : d.natAbs ∣ b.natAbs:=(Nat.Coprime.symm h2 : Nat.Coprime d.natAbs c.natAbs).dvd_of_dvd_mul_left (by rw [<- e1];exact Nat.dvd_mul_left _ _)
 have e3 : b=d:=by have:=Nat.dvd_antisymm d1 d2;omega
 subst e3
 exact ⟨Int.eq_of_mul_eq_mul_right (by omega) e,rfl⟩
theorem nN : TC fqC where
 eq0 x y h:=by
  unfold fqC at h
  split at h
  ·omega
  ·split at h
   ·omega
   ·obtain ⟨e1,e2⟩:=GQ x.2.1 y.2.1 x.2.2.2.2.2 y.2.2.2.2.2 (by omega)
    exact Subtype.ext (Prod.ext e1 e2)
 anti x y:=by
  unfold fqC
  by_cases h1 : x.1.1 * y.1.2 < y.1.1 * x.1.2
  ·have h2 : ¬ y.1.1 * x.1.2 < x.1.1 * y.1.2:=by omega
   rw [if_neg h2,if_pos h1,if_pos h1];rfl
  ·by_cases h2 : y.1.1 * x.1.2 < x.1.1 * y.1.2
   ·rw [if_pos h2,if_neg h1,if_pos h2]
   ·rw [if_neg h2,if_neg h1,if_neg h1,if_neg h2];rfl
 trans x y z h1 h2:=by
  have a1 : x.1.1 * y.1.2 < y.1.1 * x.1.2:=by unfold fqC at h1;split at h1 <;> first | assumption | (split at h1 <;> omega)
  have a2 : y.1.1 * z.1.2 < z.1.1 * y.1.2:=by unfold fqC at h2;split at h2 <;> first | assumption | (split at h2 <;> omega)
  have px:=x.2.1
  have py:=y.2.1
  have pz:=z.2.1
  have b1:=Int.mul_lt_mul_of_pos_right a1 pz
  have b2:=Int.mul_lt_mul_of_pos_right a2 px
  have b3 : (x.1.1 * z.1.2) * y.1.2 < (z.1.1 * x.1.2) * y.1.2:=by
   have e1 : x.1.1 * y.1.2 * z.1.2=(x.1.1 * z.1.2) * y.1.2:=by grind
   have e2 : y.1.1 * x.1.2 * z.1.2=y.1.1 * z.1.2 * x.1.2:=by grind
   have e3 : z.1.1 * y.1.2 * x.1.2=(z.1.1 * x.1.2) * y.1.2:=by grind
   omega
  have b4:=Int.lt_of_mul_lt_mul_right b3 (Int.le_of_lt py)
  unfold fqC
  rw [if_pos b4]
  omega
def cR (num den : Int) : Int × Int:=if den < 0 then (-num,-den) else (num,den)
def da (num den : Int) : Int :=
 if den=0 then 16 else if (cR num den).1 < 0 \/ (cR num den).2 < (cR num den).1 then 2
 else if 1073741824 < (cR num den).1 / Nat.gcd (cR num den).1.natAbs (cR num den).2.natAbs \/ 1073741824 < (cR num den).2 / Nat.gcd (cR num den).1.natAbs (cR num den).2.natAbs then 5 else 0
def dN (num den : Int) : Int × Int:=if da num den=0 then ((cR num den).1 / Nat.gcd (cR num den).1.natAbs (cR num den).2.natAbs,(cR num den).2 / Nat.gcd (cR num den).1.natAbs (cR num den).2.natAbs) else (0,0)
theorem xh {n d : Int} (hn : 0 <= n) (hd : 0 < d) : Nat.gcd (n / Nat.gcd n.natAbs d.natAbs).natAbs (d / Nat.gcd n.natAbs d.natAbs).natAbs=1 /\ 0 < d / Nat.gcd n.natAbs d.natAbs:=by
 have g0 : 0 < Nat.gcd n.natAbs d.natAbs:=Nat.gcd_pos_of_pos_right _ (by omega)
 obtain ⟨a,rfl⟩:=Int.eq_ofNat_of_zero_le hn
 obtain ⟨b,rfl⟩:=Int.eq_ofNat_of_zero_le (Int.le_of_lt hd)
 simp only [Int.natAbs_natCast] at *
 have e1 : ((a : Int) / (Nat.gcd a b : Nat)).natAbs=a / Nat.gcd a b:=by rw [<- Int.natCast_ediv,Int.natAbs_natCast]
 have e2 : ((b : Int) / (Nat.gcd a b : Nat)).natAbs=b / Nat.gcd a b:=by rw [<- Int.natCast_ediv,Int.natAbs_natCast]
 have e3:=Nat.div_pos (Nat.le_of_dvd (by omega) (Nat.gcd_dvd_right a b)) g0
 exact ⟨by rw [e1,e2];exact Nat.coprime_div_gcd_div_gcd g0,by rw [<- Int.natCast_ediv];omega⟩
theorem nE {num den : Int} (h : da num den=0) : (0 < (dN num den).2 /\ (dN num den).2 <= 1073741824 /\ -1073741824 <= (dN num den).1 /\ (dN num den).1 <= 1073741824 /\ Nat.gcd (dN num den).1.natAbs (dN num den).2.natAbs=1) /\ 0 <= (dN num den).1 /\ (dN num den).1 <= (dN num den).2:=by
 have h':=h
 unfold da at h'
 split at h'
 ·omega
 ·rename_i c0
  split at h'
  ·omega
  ·rename_i c1
   split at h'
   ·omega
   ·rename_i c2
    have hd : 0 < (cR num den).2:=by
     unfold cR;split <;> simp <;> omega
    have hn : 0 <= (cR num den).1:=by omega
    obtain ⟨g1,g2⟩:=xh hn hd
    unfold dN
    rw [if_pos h]
    have g0 : 0 < Nat.gcd (cR num den).1.natAbs (cR num den).2.natAbs:=Nat.gcd_pos_of_pos_right _ (by omega)
    have hle : (cR num den).1 / Nat.gcd (cR num den).1.natAbs (cR num den).2.natAbs <= (cR num den).2 / Nat.gcd (cR num den).1.natAbs (cR num den).2.natAbs:=Int.ediv_le_ediv (by omega) (by omega)
    have h0 : 0 <= (cR num den).1 / Nat.gcd (cR num den).1.natAbs (cR num den).2.natAbs:=Int.ediv_nonneg hn (by omega)
    simp only
    exact ⟨⟨g2,by omega,by omega,by omega,g1⟩,h0,hle⟩
theorem tM {x y : Int} (h : (x < 0 /\ 0 < y) \/ (0 < x /\ y < 0)) : da x (x - y)=da y (y - x) /\ (da x (x - y)=0 \/ da x (x - y)=5) /\ (da x (x - y)=0 -> dN y (y - x)=((dN x (x - y)).2 - (dN x (x - y)).1,(dN x (x - y)).2)):=by
 obtain ⟨n,d,hn,hd,e1,e2,z1,z2⟩ : ∃ n d : Int,0 < n /\ n < d /\ cR x (x - y)=(n,d) /\ cR y (y - x)=(d - n,d) /\ x - y ≠ 0 /\ y - x ≠ 0:=by
  unfold cR
  rcases h with h | h
  ·refine ⟨-x,y - x,by omega,by omega,?_,?_,by omega,by omega⟩
   ·rw [if_pos (by omega)];congr 1;omega
   ·rw [if_neg (by omega)];congr 1;omega
  ·refine ⟨x,x - y,by omega,by omega,?_,?_,by omega,by omega⟩
   ·rw [if_neg (by omega)]
   ·rw [if_pos (by omega)];congr 1 <;> omega
 have hg : Nat.gcd (d - n).natAbs d.natAbs=Nat.gcd n.natAbs d.natAbs:=by
  obtain ⟨a,rfl⟩:=Int.eq_ofNat_of_zero_le (Int.le_of_lt hn)
  obtain ⟨b,rfl⟩:=Int.eq_ofNat_of_zero_le (show 0 <= d by omega)
  have e : ((b : Int) - a).natAbs=b - a:=by omega
  rw [e,Int.natAbs_natCast,Int.natAbs_natCast]
  rw [Nat.gcd_comm (b - a) b,Nat.gcd_self_sub_right (by omega),Nat.gcd_comm]
 have g0 : 0 < Nat.gcd n.natAbs d.natAbs:=Nat.gcd_pos_of_pos_right _ (by omega)
 have dn : ((Nat.gcd n.natAbs d.natAbs : Nat) : Int) ∣ n:=Int.ofNat_dvd_left.2 (Nat.gcd_dvd_left _ _)
 have dd : ((Nat.gcd n.natAbs d.natAbs : Nat) : Int) ∣ d:=Int.ofNat_dvd_left.2 (Nat.gcd_dvd_right _ _)
 have hs : (d - n) / ((Nat.gcd n.natAbs d.natAbs : Nat) : Int)=d / ((Nat.gcd n.natAbs d.natAbs : Nat) : Int) - n / ((Nat.gcd n.natAbs d.natAbs : Nat) : Int):=Int.sub_ediv_of_dvd _ dn
 have hle : n / ((Nat.gcd n.natAbs d.natAbs : Nat) : Int) <= d / ((Nat.gcd n.natAbs d.natAbs : Nat) : Int):=Int.ediv_le_ediv (by omega) (by omega)
 have h0 : 0 <= n / ((Nat.gcd n.natAbs d.natAbs : Nat) : Int):=Int.ediv_nonneg (by omega) (by omega)
 have f1 : da x (x - y)=if 1073741824 < d / ((Nat.gcd n.natAbs d.natAbs : Nat) : Int) then 5 else 0:=by
  unfold da
  rw [if_neg z1,e1]
  simp only
  rw [if_neg (by omega)]
  by_cases c : 1073741824 < d / ((Nat.gcd n.natAbs d.natAbs : Nat) : Int)
  ·rw [if_pos (.inr c),if_pos c]
  ·rw [if_neg (by omega),if_neg c]
 have f2 : da y (y - x)=if 1073741824 < d / ((Nat.gcd n.natAbs d.natAbs : Nat) : Int) then 5 else 0:=by
  unfold da
  rw [if_neg z2,e2]
  simp only
  rw [if_neg (by omega),hg,hs]
  by_cases c : 1073741824 < d / ((Nat.gcd n.natAbs d.natAbs : Nat) : Int)
  ·rw [if_pos (.inr c),if_pos c]
  ·rw [if_neg (by omega),if_neg c]
 refine ⟨by rw [f1,f2],by rw [f1];split <;> simp,fun h0=>?_⟩
 have h00 : da y (y - x)=0:=by rw [f2,<- f1];exact h0
 unfold dN
 rw [if_pos h0,if_pos h00,e1,e2]
 simp only
 rw [hg,hs]
end Go.Gv
