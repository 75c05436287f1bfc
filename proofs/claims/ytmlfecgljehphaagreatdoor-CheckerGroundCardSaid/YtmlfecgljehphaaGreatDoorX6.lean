/-
  Texts of the proof: GvR, GvEgr, GvN, ItG, GvT, GvT4, GvT5, GvT6, GvU, K1, K4, K5, K6, GvW.
-/
import Derived.Test.YtmlfecgljehphaaGreatDoorX4
import Derived.SizedLaws
import Derived.ProofKit
import Derived.Test.YtmlfecgljehphaaGreatDoorX5
import Derived.Test.YtmlfecgljehphaaGreatDoorProg
import Derived.KernelRfl
import Derived.Shelf.Small.Bits
import Derived.Shelf.Small.Strs
import Derived.Shelf.Small.Wraps
import Derived.Shelf.Strconv.Itoa0
import Derived.Shelf.Strconv.Itoa1
import Derived.Shelf.LaysM
import Derived.Shelf.Strconv.Itoa2
import Derived.Shelf.Strconv.Itoa3
import Derived.Shelf.Sort.Plain
import Derived.Shelf.Bits.Mul64
import Derived.Shelf.Slices.Equal
import Derived.Ground.Names2Prog
import Derived.Shelf.Slices.Clone
import Derived.Shelf.Slices.CompactI
import Derived.Shelf.Slices.SearchI
import Derived.Shelf.Slices.Cells
import Derived.Shelf.Slices.In.SortNone
import Derived.Shelf.Slices.Empties2
import Derived.Ground.SlgnProg
import Derived.Shelf.SlicesE.Clone
import Derived.Ground.SlsfProg
import Derived.Shelf.SlSortCmp.NoneTotal
import Derived.Sort.Row
import Derived.Sort.Grow
import Derived.Shelf.Spec.SlicesInsertGrow
import Derived.Shelf.SlSortCmp.WholeK
import Derived.Lib.Mul64
import Derived.Laws.Bits64b
import Derived.Laws.MathBits
set_option linter.all false
namespace Go.Gv
open Go.RowKit Go.ChangeShapes Go.WideShapes Go.ChangeAt
inductive Sh where
 | int (k : IntKind)
 | bool
 | str
 | sl (row : List Sh)
mutual
def eA : Sh -> D -> Prop
 | .int k,d=>∃ n,d=.int k n /\ (Lit.int k n).wf=true
 | .bool,d=>∃ b,d=.bool b
 | .str,d=>∃ s,d=.str s /\ s.length < 140737488355328
 | .sl row,d=>∃ es,(d=.sl es \/ (d=.nils /\ es=[])) /\ es.length < 140737488355328 /\ ∀ e ∈ es,bK row e
def bK : List Sh -> List D -> Prop
 | [],ds=>ds=[]
 | s::ss,ds=>∃ d r,ds=d::r /\ eA s d /\ bK ss r
end
theorem bK.length : ∀ {ss : List Sh} {ds : List D},bK ss ds -> ds.length=ss.length
 | [],ds,h=>by simp only [bK] at h;simp [h]
 | s::ss,ds,h=>by
  simp only [bK] at h
  obtain ⟨d,r,rfl,_,h2⟩:=h
  simp [bK.length h2]
theorem bK.append : ∀ {ss ts : List Sh} {ds es : List D},bK ss ds -> bK ts es -> bK (ss++ts) (ds++es)
 | [],ts,ds,es,h,h'=>by simp only [bK] at h;subst h;exact h'
 | s::ss,ts,ds,es,h,h'=>by
  simp only [bK] at h
  obtain ⟨d,r,rfl,h1,h2⟩:=h
  exact ⟨d,r++es,rfl,h1,bK.append h2 h'⟩
def o6 (P : Program) (rec : TypeId -> Option (List Sh)) : List Field -> Nat -> Option (List Sh)
 | [],_=>some []
 | f::fs,off=>if f.offset=off then (match rec f.type with
   | some l=>if l.length=P.cellsOf f.type then (match o6 P rec fs (off + l.length) with
    | some r=>some (l++r)
    | none=>none) else none
   | none=>none) else none
def pB (P : Program) : Nat -> TypeId -> Option (List Sh)
 | 0,_=>none
 | n + 1,t=>match P.underlying t with
  | some .bool=>some [.bool]
  | some (.int k)=>some [.int k]
  | some .string=>some [.str]
  | some (.slice e)=>(match pB P n e with
   | some l=>if l.length=P.cellsOf e /\ 1 <= P.bytesOf e then some [.sl l] else none
   | none=>none)
  | some (.struct fs)=>(match o6 P (pB P n) fs.toList 0 with
   | some l=>if l.length=P.cellsOf t then some l else none
   | none=>none)
  | _=>none
section
variable {H : Type} {enc : TypeId × Value -> H} {P : Program} {F : Fid} {w : World} {sp : Nat -> Bool}
abbrev nR (w : World) : Mem:=fun p=>w.cell? p
def vm (enc : TypeId × Value -> H) (P : Program) (F : Fid) (w : World) (sp : Nat -> Bool) (n : Nat) (t : TypeId) (shs : List Sh) : Prop :=
 ∀ (cs : List Value) (d : DataW H) (ps : List MemPlace),DataW.trod enc P w 0 sp true n t cs=some (d,ps) -> (d.weights P t).all (· <= reachBytes)=true -> ∃ ds,bK shs ds /\ au F (nR w) ds cs
theorem iX {α β : Type} {f : α -> Option β} {x : α} {l : List α} {ys : List β} (h : (x::l).mapM f=some ys) : ∃ y r,f x=some y /\ l.mapM f=some r /\ ys=y::r:=by
 rw [List.mapM_cons] at h
 cases hx : f x with
 | none=>rw [hx] at h;cases h
 | some y =>
  cases hl : l.mapM f with
  | none=>rw [hx,hl] at h;cases h
  | some r =>
   rw [hx,hl] at h
   exact ⟨y,r,rfl,rfl,by cases h;rfl⟩
theorem m6 {n m : Nat} (ih : ∀ t shs,pB P m t=some shs -> vm enc P F w sp n t shs) {cs : List Value} : ∀ (fs : List Field) (off : Nat) (xs : List (DataW H × List MemPlace)) (shs : List Sh),
  (fs.mapM fun f=>DataW.trod enc P w 0 sp true n f.type ((cs.drop f.offset).take (P.cellsOf f.type)))=some xs -> o6 P (pB P m) fs off=some shs -> (DataW.weightsEach P (fs.map (·.type)) (xs.map (·.1))).all (· <= reachBytes)=true -> cs.length=off + shs.length ->
   ∃ ds,bK shs ds /\ au F (nR w) ds (cs.drop off)
 | [],off,xs,shs,_,h2,_,h4=>by
  cases h2
  exact ⟨[],rfl,by simp only [au];exact List.drop_of_length_le (by simpa using Nat.le_of_eq h4)⟩
 | f::fs,off,xs,shs,h1,h2,h3,h4=>by
  obtain ⟨y,r,e1,e2,rfl⟩:=iX h1
  simp only [o6] at h2
  split at h2
  case isFalse=>cases h2
  rename_i ho
  split at h2
  case h_2=>cases h2
  rename_i l hl
  split at h2
  case isFalse=>cases h2
  rename_i hlen
  split at h2
  case h_2=>cases h2
  rename_i rs hr
  cases h2
  simp only [List.map_cons,DataW.weightsEach,List.all_append,Bool.and_eq_true] at h3
  rw [List.length_append] at h4
  obtain ⟨ds1,g1,g2⟩:=ih f.type l hl _ y.1 y.2 e1 h3.1
  obtain ⟨ds2,g3,g4⟩:=m6 ih fs (off + l.length) r rs e2 hr h3.2 (by omega)
  refine ⟨ds1++ds2,g1.append g3,?_⟩
  rw [ho,<- hlen] at g2
  have:=g2.append g4
  rwa [<- List.drop_drop,List.take_append_drop] at this
theorem m7 {n k : Nat} {e : TypeId} {l : List Sh} {a : Addr} (hl : l.length=k) (ih : vm enc P F w sp n e l) : ∀ (c s : Nat) (xs : List (DataW H × List MemPlace)),
  ((List.range' s c).mapM fun i=>(w.cells? 0 (a.add (i * k)) k).bind (DataW.trod enc P w 0 sp true n e))=some xs -> (DataW.weightsAll P e (xs.map (·.1))).all (· <= reachBytes)=true ->
   ∃ (es : List (List D)) (vs : List Value),es.length=c /\ xs.length=c /\ (∀ r ∈ es,bK l r) /\ bq F (nR w) es vs /\ ∀ j v,vs[j]? = some v -> w.cell? (a.add (s * k + j))=some v
 | 0,s,xs,h,_=>by
  cases h
  exact ⟨[],[],rfl,rfl,by simp,by simp [bq],fun j v h=>by simp at h⟩
 | c + 1,s,xs,h,hw=>by
  rw [List.range'_succ] at h
  obtain ⟨y,r,e1,e2,rfl⟩:=iX h
  rw [Option.bind_eq_some_iff] at e1
  obtain ⟨row,c1,c2⟩:=e1
  simp only [List.map_cons,DataW.weightsAll,List.all_append,Bool.and_eq_true] at hw
  obtain ⟨ds,g1,g2⟩:=ih row y.1 y.2 c2 hw.1
  obtain ⟨es,vs,h1,h2,h3,h4,h5⟩:=m7 hl ih c (s + 1) r e2 hw.2
  have hrow:=World.cells?_some c1
  refine ⟨ds::es,row++vs,by simp [h1],by simp [h2],?_,⟨row,vs,rfl,g2,h4⟩,fun j v hj=>?_⟩
  ·intro x hx
   rcases List.mem_cons.1 hx with rfl | hx
   ·exact g1
   ·exact h3 x hx
  ·have hrl : row.length=k:=by rw [g2.length,g1.length,hl]
   have addadd : ∀ i j,(a.add i).add j=a.add (i + j):=fun i j=>by
    unfold Addr.add
    by_cases hi : i=0 <;> by_cases hj : j=0 <;> simp [hi,hj,Nat.add_assoc]
   by_cases hjk : j < k
   ·rw [List.getElem?_append_left (by omega)] at hj
    have:=hrow.2.2 j hjk
    rw [hj,addadd] at this
    exact this
   ·rw [List.getElem?_append_right (by omega)] at hj
    have:=h5 (j - row.length) v hj
    rw [hrl] at this
    rwa [show (s + 1) * k + (j - k)=s * k + j by rw [Nat.succ_mul];omega] at this
theorem pz : ∀ (m : Nat) (n : Nat) (t : TypeId) (shs : List Sh),pB P m t=some shs -> vm enc P F w sp n t shs
 | 0,_,_,_,h=>by cases h
 | m + 1,0,t,shs,_=>fun cs d ps h _=>by simp [DataW.trod] at h
 | m + 1,n + 1,t,shs,h=>by
  intro cs d ps ht hw
  rw [pB] at h
  split at h
  ·rename_i hu
   cases h
   unfold DataW.trod at ht;rw [hu] at ht
   split at ht <;> try (simp_all;done)
   rename_i b _
   refine ⟨[.bool b],⟨_,_,rfl,⟨b,rfl⟩,rfl⟩,by simp [au,af]⟩
  ·rename_i k hu
   cases h
   unfold DataW.trod at ht;rw [hu] at ht
   split at ht <;> try (simp_all;done)
   rename_i k1 k2 x h1
   simp only [Option.some.injEq,TypeDesc.int.injEq] at h1
   subst h1
   split at ht
   ·rename_i hk
    obtain ⟨rfl,hwf⟩:=hk
    exact ⟨[.int _ x],⟨_,_,rfl,⟨x,rfl,hwf⟩,rfl⟩,by simp [au,af]⟩
   ·cases ht
  ·rename_i hu
   cases h
   unfold DataW.trod at ht;rw [hu] at ht
   split at ht <;> try (simp_all;done)
   rename_i s _
   split at ht
   ·rename_i hs
    simp only [Option.some.injEq,Prod.mk.injEq] at ht
    obtain ⟨rfl,rfl⟩:=ht
    simp only [DataW.weights,List.all_cons,List.all_nil,Bool.and_true,decide_eq_true_eq] at hw
    refine ⟨[.str s.data.toList],⟨_,_,rfl,⟨_,rfl,?_⟩,rfl⟩,?_⟩
    ·have:=reachBytes_lt;omega
    ·obtain ⟨s⟩:=s
     simp [au,af]
   ·cases ht
  ·rename_i e hu
   split at h
   case h_2=>cases h
   rename_i l hl
   split at h
   case isFalse=>cases h
   rename_i hk
   cases h
   unfold DataW.trod at ht;rw [hu] at ht
   split at ht <;> try (simp_all;done)
   ·refine ⟨[.nils],⟨_,_,rfl,⟨[],.inr ⟨rfl,rfl⟩,by simp,by simp⟩,rfl⟩,by simp [au,af]⟩
   ·rename_i e' a len cap h1
    simp only [Option.some.injEq,TypeDesc.slice.injEq] at h1
    subst h1
    simp only at ht
    split at ht
    case isFalse=>cases ht
    rename_i hb
    rw [Option.bind_eq_some_iff] at ht
    obtain ⟨xs,e1,e2⟩:=ht
    rw [Option.map_eq_some_iff] at e2
    obtain ⟨rest,e3,e4⟩:=e2
    simp only [Prod.mk.injEq] at e4
    obtain ⟨rfl,rfl⟩:=e4
    simp only [DataW.weights,hu,List.all_cons,List.all_append,Bool.and_eq_true,decide_eq_true_eq] at hw
    obtain ⟨w1,w2,w3⟩:=hw
    rw [List.range_eq_range'] at e1
    obtain ⟨es,vs,g1,g2,g3,g4,g5⟩:=m7 (F:=F) hk.1 (pz m n e l hl) len 0 xs e1 w2
    refine ⟨[.sl es],⟨_,_,rfl,⟨es,.inl rfl,?_,g3⟩,rfl⟩,?_⟩
    ·have h5:=reachBytes_lt
     have h6 : es.length * 1 <= (xs.length + rest.length) * P.bytesOf e:=Nat.mul_le_mul (by omega) hk.2
     simp only [List.length_map] at w1
     omega
    ·simp only [au]
     refine ⟨_,_,rfl,?_,rfl⟩
     simp only [af]
     refine ⟨some a,cap,vs,P.cellsOf e,by rw [g1],by omega,g4,fun r hr=>by rw [(g3 r hr).length,hk.1],fun _=>⟨a,rfl,fun j v hj=>?_⟩⟩
     have:=g5 j v hj
     simpa using this
  ·rename_i fs hu
   split at h
   case h_2=>cases h
   rename_i l hl
   split at h
   case isFalse=>cases h
   rename_i hk
   cases h
   unfold DataW.trod at ht;rw [hu] at ht
   split at ht <;> try (simp_all;done)
   rename_i fs' h1
   simp only [Option.some.injEq,TypeDesc.struct.injEq] at h1
   subst h1
   split at ht
   case isFalse=>cases ht
   rename_i hc
   rw [Option.map_eq_some_iff] at ht
   obtain ⟨xs,e1,e2⟩:=ht
   simp only [Prod.mk.injEq] at e2
   obtain ⟨rfl,rfl⟩:=e2
   simp only [DataW.weights,hu] at hw
   obtain ⟨ds,g1,g2⟩:=m6 (F:=F) (n:=n) (fun t shs h=>pz m n t shs h) fs.toList 0 xs _ e1 hl hw (by omega)
   exact ⟨ds,g1,by simpa using g2⟩
  ·cases h
theorem mC {t : TypeId} {fs : Array Field} {m : Nat} {shs : List Sh} {base : Nat} {v : Value} {d : DataW H} {ps : List MemPlace} (hu : P.underlying t=some (.struct fs)) (hsh : pB P m t=some shs) (hv : Value.okWide P w .any base t v) (h : DataW.Trod enc P w 0 sp true t v d ps) (hw : (d.weights P t).all (· <= reachBytes)=true) :
  ∃ ds,bK shs ds /\ af F (nR w) (.agg ds) v:=by
 obtain ⟨cs,rfl,_⟩:=okWide_struct hu hv
 obtain ⟨n,hn⟩:=h
 obtain ⟨ds,g1,g2⟩:=pz (F:=F) m n t shs hsh _ d ps hn hw
 exact ⟨ds,g1,by simp only [af];exact ⟨cs.toList,by simp,g2⟩⟩
theorem yT {t : TypeId} {k : IntKind} {base : Nat} {v : Value} {d : DataW H} {ps : List MemPlace} (hu : P.underlying t=some (.int k)) (hv : Value.okWide P w .any base t v) (h : DataW.Trod enc P w 0 sp true t v d ps) :
  ∃ n,(Lit.int k n).wf=true /\ af F (nR w) (.int k n) v:=by
 obtain ⟨n,rfl,_,_,hw⟩:=open_int hu hv h
 exact ⟨n,hw,rfl⟩
end
theorem kL {α : Type} {f : α -> List D} {es : List (List D)} (h : ∀ e ∈ es,∃ x,e=f x) : ∃ xs : List α,es=xs.map f:=by
 induction es with
 | nil=>exact ⟨[],rfl⟩
 | cons e es ih =>
  obtain ⟨x,rfl⟩:=h e (by simp)
  obtain ⟨xs,rfl⟩:=ih (fun e he=>h e (by simp [he]))
  exact ⟨x::xs,rfl⟩
end Go.Gv
namespace Go.Gv
def CF (P : Program) (F : Fid) (prog : Nat -> Option ar) (tbl : List (Nat × Nat)) : Bool:=tbl.all fun p=>mQ P p.2 && match prog p.1 with
 | some nf=>f9 P F p.2 nf
 | none=>true
theorem uv {tbl : List (Nat × Nat)} {g f : Nat} (h : tbl.lookup g=some f) : (g,f) ∈ tbl:=by
 induction tbl with
 | nil=>cases h
 | cons p r ih =>
  obtain ⟨a,b⟩:=p
  rw [List.lookup_cons] at h
  cases e : g == a with
  | true=>rw [e] at h;simp at e h;subst e;subst h;simp
  | false=>rw [e] at h;simp [ih h]
theorem seat {P : Program} {tbl : List (Nat × Nat)} {ty : Nat -> TypeId} {prog : Nat -> Option ar} (hm : P.follows .mixedOrders=true) (hl : laidOutB P=true) (h : CF P ⟨P,fun g=>tbl.lookup g,ty⟩ prog tbl=true) :
  b8 P ⟨P,fun g=>tbl.lookup g,ty⟩ (fL P ⟨P,fun g=>tbl.lookup g,ty⟩) /\ ao prog (fL P ⟨P,fun g=>tbl.lookup g,ty⟩):=by
 have key : ∀ g f,tbl.lookup g=some f -> mQ P f=true /\ ∀ nf,prog g=some nf -> f9 P ⟨P,fun g=>tbl.lookup g,ty⟩ f nf=true:=fun g f e=>by
  have:=List.all_eq_true.1 h _ (uv e)
  simp only [Bool.and_eq_true] at this
  refine ⟨this.1,fun nf hnf=>?_⟩
  have:=this.2
  rw [hnf] at this
  exact this
 exact qM hm (fun g f e=>(key g f e).1) hl rfl (fun g f nf e hp=>(key g f e).2 nf hp)
end Go.Gv

namespace Go.Gv
open Go.Proofs
def TryzTbl : List (Nat × Nat) := [(0, 2), (662, 3), (540, 5), (541, 6), (664, 7), (665, 8), (458, 9), (215, 10), (548, 11), (666, 12), (543, 14), (164, 17), (147, 18), (583, 22), (556, 23), (435, 24), (453, 25), (584, 26), (455, 27), (585, 28), (234, 29), (233, 30), (628, 31), (590, 32), (488, 33), (462, 34), (194, 35), (467, 36), (257, 37), (258, 38), (238, 39), (593, 40), (349, 41), (587, 44), (588, 45), (589, 46), (168, 47), (169, 48), (170, 49), (171, 50), (601, 53), (175, 54), (181, 55), (273, 56), (269, 57), (271, 58), (272, 59), (630, 60), (631, 61), (266, 62), (267, 63), (632, 64), (633, 65), (54, 66), (507, 67), (199, 68), (508, 69), (200, 70), (201, 71), (289, 72), (290, 73), (291, 74), (292, 75), (293, 76), (294, 77), (295, 78), (277, 79), (634, 80), (348, 81), (93, 82), (66, 83), (68, 84), (351, 85), (52, 86), (58, 87), (600, 88), (627, 89), (602, 90), (629, 91), (172, 92), (173, 93), (174, 94), (176, 95), (177, 96), (178, 97), (72, 98), (179, 99), (180, 100), (182, 101), (302, 102), (303, 103), (304, 104), (305, 105), (11, 106), (306, 107), (307, 108), (308, 109), (298, 110), (309, 111), (310, 112), (311, 113), (127, 114), (274, 115), (300, 116), (301, 117), (299, 120), (62, 122), (63, 123), (64, 124), (285, 125), (286, 126), (323, 127), (324, 128), (67, 129), (337, 130), (350, 131), (82, 132), (83, 133), (84, 134), (86, 135), (338, 136), (70, 137), (71, 138), (635, 139), (471, 140), (647, 141), (183, 142), (184, 143), (89, 144), (185, 145), (313, 146), (35, 147), (328, 148), (275, 150), (276, 151), (319, 152), (99, 153), (320, 154), (321, 155), (327, 156), (106, 157), (104, 158), (108, 159), (111, 169), (78, 171), (79, 172), (85, 173), (87, 174), (95, 175), (94, 176), (88, 177), (503, 178), (517, 179), (521, 180), (499, 181), (239, 183), (312, 184), (284, 185), (105, 186), (103, 187), (107, 188), (112, 189), (92, 190), (110, 191), (514, 198), (515, 199), (516, 200), (366, 201), (523, 202), (42, 203), (278, 208), (91, 209), (113, 210), (102, 212), (522, 214)]
def TryzTys : List (Nat × Nat) := [(0, 9), (1, 4), (3, 143), (4, 45)]
set_option maxRecDepth 100000 in
theorem Tryz_all : CF Tryz.prog ⟨Tryz.prog, fun g => TryzTbl.lookup g, fun t => (TryzTys.lookup t).getD 0⟩ prog TryzTbl = true := by kernel_rfl
end Go.Gv

namespace Go.Gv
open Go.RowKit
theorem sj {P : Program} {F : Fid} {g : Nat} {ds : List D} {d : D} (h : ∀ f,F g=some f -> ∀ (M : Mem) (w : World) (vs : List Value),au F M ds vs -> ∃ v,af F M d v /\ Calls P f vs.toArray w (fun e w'=>e=.returned v /\ w'=w)) : fL P F g ds d []:=by
 refine ⟨trivial,fun f hf M w vs hh r=>?_⟩
 obtain ⟨v,hv,hc⟩:=h f hf M w vs r
 refine hc.mono ?_
 rintro e w' ⟨rfl,rfl⟩
 exact ⟨v,M,rfl,Bel.refl _,Mem.le_refl _,fun p h1 h2=>absurd h1 h2,hh,hv⟩
end Go.Gv

namespace Go.Proofs
open Go.Shelf
def Tryz.lays189_ren : Go.Shelf.Ren := ⟨fun | 189 => 201 | 125 => 119 | 257 => 215 | 128 => 168 | 129 => 169 | 294 => 220 | 295 => 221 | 296 => 222 | 297 => 223 | 298 => 224 | 299 => 225 | 216 => 226 | 300 => 227 | 301 => 228 | 328 => 231 | 329 => 194 | 330 => 195 | 331 => 232 | 332 => 233 | 215 => 120 | 343 => 234 | n => n, fun | 28 => 145 | 3 => 3 | 46 => 173 | 0 => 0 | 51 => 218 | 53 => 125 | 4 => 4 | 183 => 212 | 182 => 211 | 131 => 132 | 5 => 5 | 9 => 9 | 218 => 236 | 222 => 240 | 228 => 255 | 229 => 256 | n => n, fun | n => n⟩
theorem Tryz.lays189 : Go.Proofs.Lays.n189 Tryz.prog Tryz.lays189_ren := {
 mixed := by kernel_rfl
 f125 := Tryz.func119.trans (congrArg some (by kernel_rfl))
 f128 := Tryz.func168.trans (congrArg some (by kernel_rfl))
 f129 := Tryz.func169.trans (congrArg some (by kernel_rfl))
 f189 := Tryz.func201.trans (congrArg some (by kernel_rfl))
 f215 := Tryz.func120.trans (congrArg some (by kernel_rfl))
 f216 := Tryz.func226.trans (congrArg some (by kernel_rfl))
 f257 := Tryz.func215.trans (congrArg some (by kernel_rfl))
 f294 := Tryz.func220.trans (congrArg some (by kernel_rfl))
 f295 := Tryz.func221.trans (congrArg some (by kernel_rfl))
 f296 := Tryz.func222.trans (congrArg some (by kernel_rfl))
 f297 := Tryz.func223.trans (congrArg some (by kernel_rfl))
 f298 := Tryz.func224.trans (congrArg some (by kernel_rfl))
 f299 := Tryz.func225.trans (congrArg some (by kernel_rfl))
 f300 := Tryz.func227.trans (congrArg some (by kernel_rfl))
 f301 := Tryz.func228.trans (congrArg some (by kernel_rfl))
 f328 := Tryz.func231.trans (congrArg some (by kernel_rfl))
 f329 := Tryz.func194.trans (congrArg some (by kernel_rfl))
 f330 := Tryz.func195.trans (congrArg some (by kernel_rfl))
 f331 := Tryz.func232.trans (congrArg some (by kernel_rfl))
 f332 := Tryz.func233.trans (congrArg some (by kernel_rfl))
 f343 := Tryz.func234.trans (congrArg some (by kernel_rfl))
 t0 := Tryz.underlying0
 a0 := Tryz.isAgg0
 z0 := Tryz.sizeOf0
 v0 := Tryz.zeroValue0
 t3 := Tryz.underlying3
 a3 := Tryz.isAgg3
 z3 := Tryz.sizeOf3
 v3 := Tryz.zeroValue3
 t4 := Tryz.underlying4
 a4 := Tryz.isAgg4
 z4 := Tryz.sizeOf4
 v4 := Tryz.zeroValue4
 t5 := Tryz.underlying5
 a5 := Tryz.isAgg5
 z5 := Tryz.sizeOf5
 v5 := Tryz.zeroValue5
 t9 := Tryz.underlying9
 a9 := Tryz.isAgg9
 z9 := Tryz.sizeOf9
 v9 := Tryz.zeroValue9
 t28 := Tryz.underlying145
 a28 := Tryz.isAgg145
 z28 := Tryz.sizeOf145
 v28 := Tryz.zeroValue145
 t46 := Tryz.underlying173
 a46 := Tryz.isAgg173
 z46 := Tryz.sizeOf173
 v46 := Tryz.zeroValue173
 t51 := Tryz.underlying218
 a51 := Tryz.isAgg218
 z51 := Tryz.sizeOf218
 v51 := Tryz.zeroValue218
 t53 := Tryz.underlying125
 a53 := Tryz.isAgg125
 z53 := Tryz.sizeOf125
 v53 := Tryz.zeroValue125
 t131 := Tryz.underlying132
 a131 := Tryz.isAgg132
 z131 := Tryz.sizeOf132
 v131 := Tryz.zeroValue132
 t182 := Tryz.underlying211
 a182 := Tryz.isAgg211
 z182 := Tryz.sizeOf211
 v182 := Tryz.zeroValue211
 t183 := Tryz.underlying212
 a183 := Tryz.isAgg212
 z183 := Tryz.sizeOf212
 v183 := Tryz.zeroValue212
 t218 := Tryz.underlying236
 a218 := Tryz.isAgg236
 z218 := Tryz.sizeOf236
 v218 := Tryz.zeroValue236
 t222 := Tryz.underlying240
 a222 := Tryz.isAgg240
 z222 := Tryz.sizeOf240
 v222 := Tryz.zeroValue240
 t228 := Tryz.underlying255
 a228 := Tryz.isAgg255
 z228 := Tryz.sizeOf255
 v228 := Tryz.zeroValue255
 t229 := Tryz.underlying256
 a229 := Tryz.isAgg256
 z229 := Tryz.sizeOf256
 v229 := Tryz.zeroValue256 }
def Tryz.laysNm220_ren : Go.Shelf.Ren := ⟨fun | 20 => 202 | n => n, fun | 22 => 145 | 3 => 3 | 4 => 4 | 0 => 0 | n => n, fun | n => n⟩
theorem Tryz.laysNm220 : Go.Proofs.Lays2.n20 Tryz.prog Tryz.laysNm220_ren := {
 mixed := by kernel_rfl
 f20 := Tryz.func202.trans (congrArg some (by kernel_rfl))
 t0 := Tryz.underlying0
 a0 := Tryz.isAgg0
 z0 := Tryz.sizeOf0
 v0 := Tryz.zeroValue0
 t3 := Tryz.underlying3
 a3 := Tryz.isAgg3
 z3 := Tryz.sizeOf3
 v3 := Tryz.zeroValue3
 t4 := Tryz.underlying4
 a4 := Tryz.isAgg4
 z4 := Tryz.sizeOf4
 v4 := Tryz.zeroValue4
 t22 := Tryz.underlying145
 a22 := Tryz.isAgg145
 z22 := Tryz.sizeOf145
 v22 := Tryz.zeroValue145
 i3 := by kernel_rfl }
def Tryz.lays106_ren : Go.Shelf.Ren := ⟨fun | 106 => 64 | 213 => 121 | 265 => 170 | n => n, fun | 9 => 9 | 3 => 3 | n => n, fun | n => n⟩
theorem Tryz.lays106 : Go.Proofs.Lays.n106 Tryz.prog Tryz.lays106_ren := {
 mixed := by kernel_rfl
 f106 := Tryz.func64.trans (congrArg some (by kernel_rfl))
 f213 := Tryz.func121.trans (congrArg some (by kernel_rfl))
 f265 := Tryz.func170.trans (congrArg some (by kernel_rfl))
 t3 := Tryz.underlying3
 a3 := Tryz.isAgg3
 z3 := Tryz.sizeOf3
 v3 := Tryz.zeroValue3
 t9 := Tryz.underlying9
 a9 := Tryz.isAgg9
 z9 := Tryz.sizeOf9
 v9 := Tryz.zeroValue9 }
def Tryz.pdqL_ren : Go.Shelf.Ren := ⟨fun | 14 => 118 | 20 => 160 | 21 => 161 | 22 => 162 | 23 => 163 | 24 => 164 | 25 => 165 | 26 => 166 | 27 => 167 | 46 => 193 | 47 => 194 | 48 => 195 | 49 => 196 | 50 => 197 | 15 => 119 | 57 => 213 | 28 => 168 | 29 => 169 | n => n, fun | 24 => 54 | 22 => 33 | 3 => 3 | 25 => 104 | 4 => 4 | 0 => 0 | 46 => 212 | 45 => 211 | 50 => 132 | 66 => 236 | 39 => 173 | 55 => 125 | 70 => 240 | 76 => 255 | 77 => 256 | 53 => 218 | 5 => 5 | 9 => 9 | n => n, fun | n => n⟩
theorem Tryz.pdqL : Go.Proofs.SlLaysF0.n14 Tryz.prog Tryz.pdqL_ren := {
 mixed := by kernel_rfl
 f14 := ⟨Tryz.f118.name, by decide, Tryz.func118.trans (congrArg some (by kernel_rfl))⟩
 f15 := Tryz.func119.trans (congrArg some (by kernel_rfl))
 f20 := ⟨Tryz.f160.name, by decide, Tryz.func160.trans (congrArg some (by kernel_rfl))⟩
 f21 := ⟨Tryz.f161.name, by decide, Tryz.func161.trans (congrArg some (by kernel_rfl))⟩
 f22 := ⟨Tryz.f162.name, by decide, Tryz.func162.trans (congrArg some (by kernel_rfl))⟩
 f23 := ⟨Tryz.f163.name, by decide, Tryz.func163.trans (congrArg some (by kernel_rfl))⟩
 f24 := ⟨Tryz.f164.name, by decide, Tryz.func164.trans (congrArg some (by kernel_rfl))⟩
 f25 := ⟨Tryz.f165.name, by decide, Tryz.func165.trans (congrArg some (by kernel_rfl))⟩
 f26 := ⟨Tryz.f166.name, by decide, Tryz.func166.trans (congrArg some (by kernel_rfl))⟩
 f27 := ⟨Tryz.f167.name, by decide, Tryz.func167.trans (congrArg some (by kernel_rfl))⟩
 f28 := Tryz.func168.trans (congrArg some (by kernel_rfl))
 f29 := Tryz.func169.trans (congrArg some (by kernel_rfl))
 f46 := ⟨Tryz.f193.name, by decide, Tryz.func193.trans (congrArg some (by kernel_rfl))⟩
 f47 := Tryz.func194.trans (congrArg some (by kernel_rfl))
 f48 := Tryz.func195.trans (congrArg some (by kernel_rfl))
 f49 := ⟨Tryz.f196.name, by decide, Tryz.func196.trans (congrArg some (by kernel_rfl))⟩
 f50 := ⟨Tryz.f197.name, by decide, Tryz.func197.trans (congrArg some (by kernel_rfl))⟩
 f57 := ⟨Tryz.f213.name, by decide, Tryz.func213.trans (congrArg some (by kernel_rfl))⟩
 t0 := Tryz.underlying0
 a0 := Tryz.isAgg0
 z0 := Tryz.sizeOf0
 v0 := Tryz.zeroValue0
 t3 := Tryz.underlying3
 a3 := Tryz.isAgg3
 z3 := Tryz.sizeOf3
 v3 := Tryz.zeroValue3
 t4 := Tryz.underlying4
 a4 := Tryz.isAgg4
 z4 := Tryz.sizeOf4
 v4 := Tryz.zeroValue4
 t5 := Tryz.underlying5
 a5 := Tryz.isAgg5
 z5 := Tryz.sizeOf5
 v5 := Tryz.zeroValue5
 t9 := Tryz.underlying9
 a9 := Tryz.isAgg9
 z9 := Tryz.sizeOf9
 v9 := Tryz.zeroValue9
 t22 := Tryz.underlying33
 a22 := Tryz.isAgg33
 z22 := Tryz.sizeOf33
 v22 := Tryz.zeroValue33
 t25 := Tryz.underlying104
 a25 := Tryz.isAgg104
 z25 := Tryz.sizeOf104
 v25 := Tryz.zeroValue104
 t39 := Tryz.underlying173
 a39 := Tryz.isAgg173
 z39 := Tryz.sizeOf173
 v39 := Tryz.zeroValue173
 t45 := Tryz.underlying211
 a45 := Tryz.isAgg211
 z45 := Tryz.sizeOf211
 v45 := Tryz.zeroValue211
 t46 := Tryz.underlying212
 a46 := Tryz.isAgg212
 z46 := Tryz.sizeOf212
 v46 := Tryz.zeroValue212
 t50 := Tryz.underlying132
 a50 := Tryz.isAgg132
 z50 := Tryz.sizeOf132
 v50 := Tryz.zeroValue132
 t53 := Tryz.underlying218
 a53 := Tryz.isAgg218
 z53 := Tryz.sizeOf218
 v53 := Tryz.zeroValue218
 t55 := Tryz.underlying125
 a55 := Tryz.isAgg125
 z55 := Tryz.sizeOf125
 v55 := Tryz.zeroValue125
 t66 := Tryz.underlying236
 a66 := Tryz.isAgg236
 z66 := Tryz.sizeOf236
 v66 := Tryz.zeroValue236
 t70 := Tryz.underlying240
 a70 := Tryz.isAgg240
 z70 := Tryz.sizeOf240
 v70 := Tryz.zeroValue240
 t76 := Tryz.underlying255
 a76 := Tryz.isAgg255
 z76 := Tryz.sizeOf255
 v76 := Tryz.zeroValue255
 t77 := Tryz.underlying256
 a77 := Tryz.isAgg256
 z77 := Tryz.sizeOf256
 v77 := Tryz.zeroValue256 }
def Tryz.lays171_ren : Go.Shelf.Ren := ⟨fun | 171 => 114 | 243 => 149 | 246 => 182 | 283 => 204 | 284 => 205 | 285 => 206 | 286 => 207 | 129 => 169 | 317 => 216 | 318 => 217 | 319 => 218 | 320 => 219 | 337 => 229 | 338 => 230 | n => n, fun | 3 => 3 | 9 => 9 | 2 => 2 | 4 => 4 | 171 => 246 | 0 => 0 | 53 => 125 | 37 => 176 | 5 => 5 | 173 => 248 | 212 => 262 | 51 => 218 | 20 => 20 | 213 => 263 | 46 => 173 | 232 => 271 | 233 => 272 | n => n, fun | 17 => 3 | 18 => 4 | 19 => 5 | n => n⟩
theorem Tryz.lays171 : Go.Proofs.Lays.n171 Tryz.prog Tryz.lays171_ren := {
 mixed := by kernel_rfl
 f129 := Tryz.func169.trans (congrArg some (by kernel_rfl))
 f171 := Tryz.func114.trans (congrArg some (by kernel_rfl))
 f243 := Tryz.func149.trans (congrArg some (by kernel_rfl))
 f246 := Tryz.func182.trans (congrArg some (by kernel_rfl))
 f283 := Tryz.func204.trans (congrArg some (by kernel_rfl))
 f284 := Tryz.func205.trans (congrArg some (by kernel_rfl))
 f285 := Tryz.func206.trans (congrArg some (by kernel_rfl))
 f286 := Tryz.func207.trans (congrArg some (by kernel_rfl))
 f317 := Tryz.func216.trans (congrArg some (by kernel_rfl))
 f318 := Tryz.func217.trans (congrArg some (by kernel_rfl))
 f319 := Tryz.func218.trans (congrArg some (by kernel_rfl))
 f320 := Tryz.func219.trans (congrArg some (by kernel_rfl))
 f337 := Tryz.func229.trans (congrArg some (by kernel_rfl))
 f338 := Tryz.func230.trans (congrArg some (by kernel_rfl))
 t0 := Tryz.underlying0
 a0 := Tryz.isAgg0
 z0 := Tryz.sizeOf0
 v0 := Tryz.zeroValue0
 t2 := Tryz.underlying2
 a2 := Tryz.isAgg2
 z2 := Tryz.sizeOf2
 v2 := Tryz.zeroValue2
 t3 := Tryz.underlying3
 a3 := Tryz.isAgg3
 z3 := Tryz.sizeOf3
 v3 := Tryz.zeroValue3
 t4 := Tryz.underlying4
 a4 := Tryz.isAgg4
 z4 := Tryz.sizeOf4
 v4 := Tryz.zeroValue4
 t5 := Tryz.underlying5
 a5 := Tryz.isAgg5
 z5 := Tryz.sizeOf5
 v5 := Tryz.zeroValue5
 t9 := Tryz.underlying9
 a9 := Tryz.isAgg9
 z9 := Tryz.sizeOf9
 v9 := Tryz.zeroValue9
 t20 := Tryz.underlying20
 a20 := Tryz.isAgg20
 z20 := Tryz.sizeOf20
 v20 := Tryz.zeroValue20
 t37 := Tryz.underlying176
 a37 := Tryz.isAgg176
 z37 := Tryz.sizeOf176
 v37 := Tryz.zeroValue176
 t46 := Tryz.underlying173
 a46 := Tryz.isAgg173
 z46 := Tryz.sizeOf173
 v46 := Tryz.zeroValue173
 t51 := Tryz.underlying218
 a51 := Tryz.isAgg218
 z51 := Tryz.sizeOf218
 v51 := Tryz.zeroValue218
 t53 := Tryz.underlying125
 a53 := Tryz.isAgg125
 z53 := Tryz.sizeOf125
 v53 := Tryz.zeroValue125
 t171 := Tryz.underlying246
 a171 := Tryz.isAgg246
 z171 := Tryz.sizeOf246
 v171 := Tryz.zeroValue246
 t173 := Tryz.underlying248
 a173 := Tryz.isAgg248
 z173 := Tryz.sizeOf248
 v173 := Tryz.zeroValue248
 t212 := Tryz.underlying262
 a212 := Tryz.isAgg262
 z212 := Tryz.sizeOf262
 v212 := Tryz.zeroValue262
 t213 := Tryz.underlying263
 a213 := Tryz.isAgg263
 z213 := Tryz.sizeOf263
 t232 := Tryz.underlying271
 a232 := Tryz.isAgg271
 z232 := Tryz.sizeOf271
 v232 := Tryz.zeroValue271
 t233 := Tryz.underlying272
 a233 := Tryz.isAgg272
 z233 := Tryz.sizeOf272
 v233 := Tryz.zeroValue272
 g17 := by kernel_rfl
 g18 := by kernel_rfl
 g19 := by kernel_rfl }
open Go.RowKit Go.Sort Go.Lib in
theorem Tryz.strconv_Itoa_small (i : Nat) (hi : i < 100) (w : World) :
  Calls Tryz.prog 114 #[.int .i64 i] w fun e w' => e = .returned (.string ⟨(Lib.decDigits i).toArray⟩) /\ w' = w := Any.strconv_Itoa_small Tryz.lays171 i hi w
open Go.Shelf Go.Lib Go.Sort Go.RowKit
set_option maxHeartbeats 4000000 in
set_option maxRecDepth 100000 in
theorem Tryz.sortN_eq {α : Type} [Inhabited α] (k : Nat) (aE : ∀ w, (isAgg (Tryz.pdqL_ren.t 24)).run Tryz.prog w = .ok true w) (zE : ∀ w, (Go.sizeOf (Tryz.pdqL_ren.t 24)).run Tryz.prog w = .ok k w) (enc : α -> List Value) (hk : ∀ x, (enc x).length = k) (h1 : ∀ x, ∀ v ∈ enc x, v.oneCell' = true) (cf : α -> α -> Int) (hO : SWO (ltOf cf)) (g : Nat) (cb : Array Value) (blk off cap : Nat) (d : Array α) (w : World)
  (eg : ∀ args w, (callFunc g args).run Tryz.prog w = .ok (.enter g args) w) (hcmp : CmpLays Tryz.prog g cb enc k cf blk off d.size w) (hH : HoldsK enc k w blk off d) (hblk : blk < w.heap.size) (hsz : d.size < 4611686018427387904) :
  Calls Tryz.prog 60 #[.slice (some ⟨blk, off, none⟩) d.size cap, .func (.func g) #[] cb] w fun e w' =>
   e = .returned (.tuple #[]) /\ ∃ n os, w' = sortWorldK enc k w blk off n (pdq (ltOf cf) d 0 d.size (Lib.bitLen d.size) true true) os := by
 have L := Tryz.pdqL
 have e14 : ∀ args w, (callFunc 118 args).run Tryz.prog w = .ok (.enter 118 args) w := L.f14.enters rfl
 have e15 : ∀ args w, (callFunc 119 args).run Tryz.prog w = .ok (.enter 119 args) w := enters_of L.f15 (by kernel_rfl) rfl
 have hlim : Lib.bitLen d.size < 4611686018427387904 := Nat.lt_of_le_of_lt (Lib.bitLen_le d.size 62 (by omega) (by omega)) (by omega)
 have hp := AnyQ.pdqsortCmpFunc_all (P := Tryz.prog) (ρ := Tryz.pdqL_ren) L k aE zE enc cf g cb hO blk off cap d w eg hcmp ⟨hk, h1, hH, hblk⟩ (d.size + 1) 0 d.size (Lib.bitLen d.size) d w (by omega) rfl (SWK.start hH) (Nat.zero_le _) (Nat.le_refl _) hsz hlim (Or.inl rfl)
 have hl : Calls Tryz.prog 119 #[.int .u64 (d.size : Int)] w fun e w' => e = .returned (.int .i64 (Lib.bitLen d.size : Nat)) /\ w' = w := by
  have h := Any.bits_Len (SlLaysF0.n15.bits (P := Tryz.prog) (ρ := Tryz.pdqL_ren) { L with }) (d.size : Int) w (by omega) (by omega)
  rwa [Int.toNat_natCast] at h
 have wr : IntKind.u64.wrap (d.size : Int) = d.size := by simp [IntKind.wrap, IntKind.bits, IntKind.signed]; omega
 clear hH hcmp hk h1
 replace hp : Calls Tryz.prog 118 #[.slice (some ⟨blk, off, none⟩) d.size cap, .int .i64 0, .int .i64 d.size, .int .i64 (Lib.bitLen d.size : Nat), .func (.func g) #[] cb] w fun e w' => e = .returned (.tuple #[]) /\ SWK enc k w blk off (pdq (ltOf cf) d 0 d.size (Lib.bitLen d.size) true true) w' := hp
 go_enter Tryz.func60, (rfl : Tryz.f60.ntmps = 14)
 go_wp2_with (first | (go_at_fn 119; refine hl.mono ?_; rintro e w' ⟨rfl, rfl⟩) | (go_at_fn 118; refine hp.mono ?_; rintro e w' ⟨rfl, n, os, rfl⟩))
 go_end0
 exact ⟨rfl, n, os, rfl⟩
set_option maxHeartbeats 4000000 in
set_option maxRecDepth 100000 in
theorem Tryz.sortN_none (p : Option Addr) (cap : Nat) (fv : Value) (w : World) : Calls Tryz.prog 60 #[.slice p 0 cap, fv] w fun e w' => e = .returned (.tuple #[]) /\ w' = w := by
 have L := Tryz.pdqL
 have e14 : ∀ args w, (callFunc 118 args).run Tryz.prog w = .ok (.enter 118 args) w := L.f14.enters rfl
 have e15 : ∀ args w, (callFunc 119 args).run Tryz.prog w = .ok (.enter 119 args) w := enters_of L.f15 (by kernel_rfl) rfl
 have hp : ∀ lim W, Calls Tryz.prog 118 #[.slice p 0 cap, .int .i64 0, .int .i64 0, .int .i64 lim, fv] W fun e w' => e = .returned (.tuple #[]) /\ w' = W := fun lim W => AnyF.pdqsortCmpFunc_none (P := Tryz.prog) (ρ := Tryz.pdqL_ren) L p cap lim fv W
 have hl : ∀ W, Calls Tryz.prog 119 #[.int .u64 0] W fun e w' => e = .returned (.int .i64 (Lib.bitLen 0 : Nat)) /\ w' = W := fun W => by
  have h := Any.bits_Len (SlLaysF0.n15.bits (P := Tryz.prog) (ρ := Tryz.pdqL_ren) { L with }) 0 W (by omega) (by omega)
  exact h
 go_enter Tryz.func60, (rfl : Tryz.f60.ntmps = 14)
 go_wp2_with (first | (go_at_fn 119; refine (hl _).mono ?_; rintro e w' ⟨rfl, rfl⟩) | (go_at_fn 118; refine (hp _ _).mono ?_; rintro e w' ⟨rfl, rfl⟩))
 go_end0
 exact ⟨rfl, rfl⟩
end Go.Proofs

namespace Go.Gv
open Go.Sort
section
variable {P : Program} {F : Fid} {α : Type} [Inhabited α]
def jW (encD : α -> D) (d : Array α) : List (List D):=d.toList.map fun x=>[encD x]
theorem nM {f : FuncId} (enc : α -> Value) (encD : α -> D) (hflat : ∀ M x u,af F M (encD x) u -> u=enc x) (hrep : ∀ M x,af F M (encD x) (enc x)) (d d' : Array α) (hsz : d'.size=d.size) (ds : List D)
  (hnone : d.size=0 -> ∀ (M : Mem) (w : World) (vs : List Value) (A : Option Addr),(∀ p v,M p=some v -> w.cell? p=some v) -> au F M ds vs -> Calls P f (.slice A 0 0::vs).toArray w fun e w'=>e=.returned (.tuple #[]) /\ ∃ n os,w'=grow (Sort.ahead w n) os)
  (hrun : ∀ (M : Mem) (w : World) (vs : List Value) (blk off cap : Nat),(∀ p v,M p=some v -> w.cell? p=some v) -> (∀ p : Addr,p.block=blk -> M p=none) -> au F M ds vs -> Holds enc w blk off d -> blk < w.heap.size ->
   Calls P f (.slice (some ⟨blk,off,none⟩) d.size cap::vs).toArray w fun e w'=>e=.returned (.tuple #[]) /\ ∃ n os,w'=grow (putRow enc (Sort.ahead w n) blk off d') os) : sD P F f 1 (jW encD d) ds (jW encD d'):=by
 intro M w vs hh r
 have hl : (jW encD d).length=d.size:=by simp [jW]
 refine ⟨fun e A=>?_,fun b o T us cap hM hb hcell hcap hle hu hc=>?_⟩
 ·have h0 : d.size=0:=by rw [<- hl,e];rfl
  refine (hnone h0 M w vs A hh r).mono ?_
  rintro e0 w' ⟨rfl,n,os,rfl⟩
  exact ⟨rfl,rfl,rfl,rfl,by simp [grow,Sort.ahead],fun k hk=>by simp only [grow,Sort.ahead];rw [Array.getElem?_append_left hk],Nat.le_add_right _ _⟩
 ·rw [hl] at hcap ⊢
  have hH : Holds enc w b o d:=fun j hj=>by
   obtain ⟨u,k1,k2⟩:=hc j [encD d[j]] 0 (encD d[j]) (by simp [jW,hj]) rfl
   have:=hflat _ _ _ k2
   subst this
   have e1 : d[j]! = d[j]:=getElem!_pos d j hj
   rw [e1]
   have k3 : us[o + j]? = some (enc d[j]):=by simpa using k1
   constructor
   ·simp [World.cell?,hcell,k3]
   ·simp [World.frozen?,hcell]
  refine (hrun M w vs b o cap hh hM r hH hb).mono ?_
  rintro e0 w' ⟨rfl,n,os,rfl⟩
  have hput : (grow (putRow enc (Sort.ahead w n) b o d') os).heap[b]? = some (.cells (putCells enc o d' us.toArray) T (0,0)):=by
   simp only [grow,putRow,mapBlock,Sort.ahead]
   rw [Array.getElem?_append_left (by simpa using hb),Array.getElem?_modify,if_pos rfl,hcell]
   rfl
  refine ⟨rfl,(putCells enc o d' us.toArray).toList,by rw [Array.toArray_toList];exact hput,by simp [putCells],fun i r off x hi hr=>?_,⟨rfl,rfl,rfl,by simp [grow,putRow,mapBlock,Sort.ahead],fun k hk hne=>?_,Nat.le_add_right _ _⟩⟩
  ·simp only [jW,List.getElem?_map,Option.map_eq_some_iff] at hi
   obtain ⟨y,h1,rfl⟩:=hi
   have ho : off=0:=by
    have:=(List.getElem?_eq_some_iff.1 hr).1
    simpa using this
   subst ho
   simp only [List.getElem?_cons_zero,Option.some.injEq] at hr
   subst hr
   have hi2 : i < d'.size:=by have:=(List.getElem?_eq_some_iff.1 h1).1;simpa using this
   have hy : d'[i]! = y:=by
    rw [getElem!_pos d' i hi2]
    have:=(List.getElem?_eq_some_iff.1 h1).2
    simpa using this
   refine ⟨enc y,?_,hrep _ _⟩
   have hlt : o + i < us.length:=by
    have : o + cap * 1 <= us.length:=hle
    omega
   rw [Nat.mul_one,Nat.add_zero,Array.getElem?_toList]
   simp only [putCells,Array.getElem?_mapIdx,List.getElem?_toArray]
   rw [List.getElem?_eq_getElem hlt]
   simp only [Option.map_some]
   rw [if_pos ⟨by omega,by omega⟩,show o + i - o=i by omega,hy]
  ·simp only [grow,putRow,mapBlock,Sort.ahead]
   rw [Array.getElem?_append_left (by simpa using hk),Array.getElem?_modify,if_neg (Ne.symm hne)]
end
end Go.Gv

namespace Go.Gv
open Go.Sort Go.Proofs Go.Shelf
section
variable {P : Program} {F : Fid} {ρ : Ren}
def z8 (zs : List Int) : List (List D):=zs.map fun n=>[.int .i64 n]
theorem wR {zs : List Int} {i : Nat} {r : List D} {off : Nat} {d : D} (h1 : (z8 zs)[i]? = some r) (h2 : r[off]? = some d) : ∃ x,zs[i]? = some x /\ off=0 /\ d=.int .i64 x:=by
 simp only [z8,List.getElem?_map,Option.map_eq_some_iff] at h1
 obtain ⟨x,h1,rfl⟩:=h1
 have ho : off=0:=by have:=(List.getElem?_eq_some_iff.1 h2).1;simpa using this
 subst ho
 simp only [List.getElem?_cons_zero,Option.some.injEq] at h2
 exact ⟨x,h1,rfl,h2.symm⟩
theorem rQ {M : Mem} {zs : List Int} {us : List Value} {o : Nat} (hc : ∀ i r off d,(z8 zs)[i]? = some r -> r[off]? = some d -> ∃ u,us[o + i * 1 + off]? = some u /\ af F M d u) : ∀ j x,zs[j]? = some x -> us[o + j]? = some (.int .i64 x):=by
 intro j x hj
 obtain ⟨u,k1,k2⟩:=hc j [.int .i64 x] 0 (.int .i64 x) (by simp [z8,hj]) rfl
 simp only [af] at k2
 subst k2
 simpa using k1
theorem ng (Ly : Lays.n189 P ρ) {g : Nat} (hg : ∀ f,F g=some f -> f=ρ.f 189) (zs : List Int) (hz : zs.length < 2 ^ 40) :
  fL P F g [.own 1 (zs.map fun n=>[.int .i64 n])] .any [.own 1 ((zs.mergeSort fun x y=>decide (x <= y)).map fun n=>[.int .i64 n]),.nilp]:=by
 refine ⟨trivial,fun f hf=>⟨rfl,?_⟩⟩
 obtain rfl:=hg f hf
 have k:=nM (P:=P) (F:=F) (f:=ρ.f 189) (Value.int .i64) (D.int .i64) (fun M x u h=>by simpa only [af] using h) (fun M x=>by simp only [af]) zs.toArray (zs.mergeSort fun x y=>decide (x <= y)).toArray (by simp [List.length_mergeSort]) []
  (fun h M w vs A hh r=>by
   simp only [au] at r
   subst r
   refine (Any.slices_Sort_int_none Ly A 0 w).mono ?_
   rintro e w' ⟨rfl,rfl⟩
   exact ⟨rfl,0,#[],by simp [grow,Sort.ahead]⟩)
  (fun M w vs blk off cap hh hM r hH hb=>by
   simp only [au] at r
   subst r
   have:=Any.slices_Sort_int Ly blk off cap zs w hH hb (by omega)
   simpa using this)
 simpa [jW] using k
theorem nL (L : Lays2.n20 P ρ) {g : Nat} (hg : ∀ f,F g=some f -> f=ρ.f 20) (zs : List Int) (hz : zs.length < 2 ^ 40) :
  fL P F g [.own 1 (zs.map fun n=>[.int .i64 n])] .any [.own 1 ((Lib.compact zs).map fun n=>[.int .i64 n]),.nils,.nils]:=by
 refine ⟨trivial,fun f hf=>⟨rfl,?_⟩⟩
 obtain rfl:=hg f hf
 refine rg.to ?_
 intro M w vs hh
 have nil : ∀ {b : Option Nat},mB F M w b [] vs -> vs=[]:=fun h=>List.eq_nil_of_length_eq_zero h.1.symm
 refine ⟨fun e A r=>?_,fun b o T us cap r hM hb hcell hcap hmc hle hu hc=>?_⟩
 ·rw [nil r]
  have h0 : zs=[]:=by simpa using e
  subst h0
  refine (Any.slices_Compact_int_empty L A 0 w).mono ?_
  rintro e w' ⟨rfl,rfl⟩
  exact ⟨_,rfl,Bel.refl _,.inl ⟨rfl,A,rfl⟩⟩
 ·rw [nil r]
  have hget:=rQ hc
  have hl : (zs.map fun n=>[D.int .i64 n]).length=zs.length:=by simp
  rw [hl] at hcap ⊢
  have hH : Holds (Value.int .i64) w b o zs.toArray:=fun j hj=>by
   have hj2 : j < zs.length:=by simpa using hj
   have e1 : zs.toArray[j]! = zs[j]:=by rw [getElem!_pos zs.toArray j hj];simp
   have k3:=hget j zs[j] (List.getElem?_eq_getElem hj2)
   rw [e1]
   exact ⟨by simp [World.cell?,hcell,k3],by simp [World.frozen?,hcell]⟩
  obtain ⟨d',hd'⟩ : ∃ d',d'=(Lib.compact zs++List.replicate (zs.length - (Lib.compact zs).length) 0).toArray:=⟨_,rfl⟩
  have hcl : (Lib.compact zs).length <= zs.length:=by
   unfold Lib.compact Lib.compactUpTo
   rw [List.length_map]
   have:=List.length_filter_le (Lib.keeps zs.toArray) (List.range zs.length)
   simpa using this
  have hsz : d'.size=zs.length:=by rw [hd'];simp;omega
  refine (Any.slices_Compact_int L b o cap zs w hH (by omega) hcap).mono ?_
  rintro e w' ⟨rfl,q,rfl⟩
  rw [<- hd']
  have hput : (putRow (Value.int .i64) (Sort.ahead w q) b o d').heap[b]? = some (.cells (putCells (Value.int .i64) o d' us.toArray) T (0,0)):=by
   simp only [putRow,mapBlock,Sort.ahead]
   rw [Array.getElem?_modify,if_pos rfl,hcell]
   rfl
  refine ⟨_,rfl,(putCells (Value.int .i64) o d' us.toArray).toList,by rw [Array.toArray_toList];exact hput,by simp [putCells],⟨rfl,rfl,rfl,by simp [putRow,mapBlock,Sort.ahead],fun k hk hne=>?_,Nat.le_add_right _ _⟩,.inl ⟨by simp,by simp;omega,fun i r off d h1 h2=>?_⟩⟩
  ·simp only [putRow,mapBlock,Sort.ahead]
   rw [Array.getElem?_modify,if_neg (Ne.symm hne)]
  ·obtain ⟨x,h3,rfl,rfl⟩:=wR h1 h2
   have hi : i < (Lib.compact zs).length:=(List.getElem?_eq_some_iff.1 h3).1
   refine ⟨.int .i64 x,?_,by simp only [af]⟩
   have hlt : o + i < us.length:=by omega
   have hy : d'[i]! = x:=by
    rw [getElem!_pos d' i (by omega)]
    have : d'[i]? = some x:=by rw [hd'];simp [List.getElem?_append_left hi,h3]
    exact (Array.getElem?_eq_some_iff.1 this).2
   rw [Nat.mul_one,Nat.add_zero,Array.getElem?_toList]
   simp only [putCells,Array.getElem?_mapIdx,List.getElem?_toArray]
   rw [List.getElem?_eq_getElem hlt]
   simp only [Option.map_some]
   rw [if_pos ⟨by omega,by omega⟩,show o + i - o=i by omega,hy]
end
end Go.Gv

namespace Go.Gv
open Go.Sort Go.Proofs Go.Shelf
theorem Bel.grownK {w w' : World} (h : Bel w w') : ∃ q os,w'=grow (w.drewN q) os:=by
 refine ⟨w'.drawn - w.drawn,w'.heap.extract w.heap.size w'.heap.size,?_⟩
 have hh : w'.heap=w.heap++w'.heap.extract w.heap.size w'.heap.size:=by
  apply Array.ext
  ·have:=h.size
   simp only [Array.size_append,Array.size_extract]
   omega
  ·intro i h1 h2
   by_cases hi : i < w.heap.size
   ·rw [Array.getElem_append_left hi]
    have:=h.block i hi
    rw [Array.getElem?_eq_getElem h1,Array.getElem?_eq_getElem hi] at this
    exact Option.some.inj this
   ·rw [Array.getElem_append_right (by omega),Array.getElem_extract]
    congr 1
    omega
 have hd:=h.drawn
 obtain ⟨h1,h2,h3,h4,h5,h6⟩:=h
 cases w
 cases w'
 simp only [grow,World.drewN] at *
 subst h1 h2 h3
 congr 1
 omega
theorem pv {α : Type} [Inhabited α] {enc : α -> List Value} {k : Nat} {w : World} {blk off n : Nat} {d : Array α} {os : Array Obj} {p : Addr} {v : Value} (hp : p.block ≠ blk) (h : w.cell? p=some v) : (sortWorldK enc k w blk off n d os).cell? p=some v:=by
 have hb : p.block < w.heap.size:=by
  unfold World.cell? at h
  cases e : w.heap[p.block]? with
  | none=>rw [e] at h;cases h
  | some _=>exact (Array.getElem?_eq_some_iff.1 e).1
 have e : (sortWorldK enc k w blk off n d os).heap[p.block]? = w.heap[p.block]?:=by
  simp only [sortWorldK,grow,putRowK,putRow,mapBlock,Sort.ahead]
  rw [Array.getElem?_append_left (by simpa using hb),Array.getElem?_modify,if_neg (Ne.symm hp)]
 unfold World.cell? at h ⊢
 rw [e]
 exact h
section
variable {P : Program} {F : Fid} {α : Type} [Inhabited α]
theorem nh {f : FuncId} (k : Nat) (hk0 : 0 < k) (enc : α -> List Value) (encD : α -> List D) (hk : ∀ x,(enc x).length=k) (hkD : ∀ x,(encD x).length=k) (hflat : ∀ (M : Mem) (x : α) (i : Nat) (d : D) (u : Value),(encD x)[i]? = some d -> af F M d u -> (enc x)[i]? = some u) (hrep : ∀ M x,au F M (encD x) (enc x)) (d d' : Array α) (hsz : d'.size=d.size) (ds : List D)
  (hnone : d.size=0 -> ∀ (M : Mem) (w : World) (vs : List Value) (A : Option Addr),(∀ p v,M p=some v -> w.cell? p=some v) -> au F M ds vs -> Calls P f (.slice A 0 0::vs).toArray w fun e w'=>e=.returned (.tuple #[]) /\ ∃ n os,w'=grow (Sort.ahead w n) os)
  (hrun : ∀ (M : Mem) (w : World) (vs : List Value) (blk off cap : Nat),(∀ p v,M p=some v -> w.cell? p=some v) -> (∀ p : Addr,p.block=blk -> M p=none) -> au F M ds vs -> HoldsK enc k w blk off d -> blk < w.heap.size ->
   Calls P f (.slice (some ⟨blk,off,none⟩) d.size cap::vs).toArray w fun e w'=>e=.returned (.tuple #[]) /\ ∃ n os,w'=sortWorldK enc k w blk off n d' os) : sD P F f k (d.toList.map encD) ds (d'.toList.map encD):=by
 intro M w vs hh r
 have hl : (d.toList.map encD).length=d.size:=by simp
 refine ⟨fun e A=>?_,fun b o T us cap hM hb hcell hcap hle hu hc=>?_⟩
 ·have h0 : d.size=0:=by rw [<- hl,e];rfl
  refine (hnone h0 M w vs A hh r).mono ?_
  rintro e0 w' ⟨rfl,n,os,rfl⟩
  exact ⟨rfl,rfl,rfl,rfl,by simp [grow,Sort.ahead],fun k hk=>by simp only [grow,Sort.ahead];rw [Array.getElem?_append_left hk],Nat.le_add_right _ _⟩
 ·rw [hl] at hcap ⊢
  have hH : HoldsK enc k w b o d:=fun j hj=>by
   rw [size_flatK] at hj
   have hi : j / k < d.size:=(Nat.div_lt_iff_lt_mul hk0).2 hj
   have hm : j % k < k:=Nat.mod_lt _ hk0
   have hx : (encD d[j / k])[j % k]? = some ((encD d[j / k])[j % k]'(by rw [hkD];exact hm)):=List.getElem?_eq_getElem _
   obtain ⟨u,k1,k2⟩:=hc (j / k) (encD d[j / k]) (j % k) _ (by simp [hi]) hx
   have k3:=hflat _ _ _ _ _ hx k2
   rw [Nat.add_assoc,Nat.mul_comm (j / k) k,Nat.div_add_mod] at k1
   have e1 : (flatK enc k d)[j]! = u:=by
    rw [get_flatK _ _ _ _ hj,getElem!_pos d (j / k) hi]
    have:=(List.getElem?_eq_some_iff.1 k3).2
    rw [getElem!_pos _ _ (by rw [hk];exact hm)]
    exact this
   rw [e1]
   exact ⟨by simp [World.cell?,hcell,k1],by simp [World.frozen?,hcell]⟩
  refine (hrun M w vs b o cap hh hM r hH hb).mono ?_
  rintro e0 w' ⟨rfl,n,os,rfl⟩
  have hput : (sortWorldK enc k w b o n d' os).heap[b]? = some (.cells (putCells id o (flatK enc k d') us.toArray) T (0,0)):=by
   simp only [sortWorldK,grow,putRowK,putRow,mapBlock,Sort.ahead]
   rw [Array.getElem?_append_left (by simpa using hb),Array.getElem?_modify,if_pos rfl,hcell]
   rfl
  refine ⟨rfl,(putCells id o (flatK enc k d') us.toArray).toList,by rw [Array.toArray_toList];exact hput,by simp [putCells],fun i r off x hi hr=>?_,⟨rfl,rfl,rfl,by simp [sortWorldK,grow,putRowK,putRow,mapBlock,Sort.ahead],fun q hq hne=>?_,Nat.le_add_right _ _⟩⟩
  ·simp only [List.getElem?_map,Option.map_eq_some_iff] at hi
   obtain ⟨y,h1,rfl⟩:=hi
   have ho : off < k:=by have:=(List.getElem?_eq_some_iff.1 hr).1;rwa [hkD] at this
   have hi2 : i < d'.size:=by have:=(List.getElem?_eq_some_iff.1 h1).1;simpa using this
   have hy : d'[i]! = y:=by
    rw [getElem!_pos d' i hi2]
    have:=(List.getElem?_eq_some_iff.1 h1).2
    simpa using this
   obtain ⟨u,k1,k2⟩:=(hrep M y).get hr
   have hlt : i * k + off < d'.size * k:=by
    have : i * k + k <= d'.size * k:=by rw [<- Nat.succ_mul];exact Nat.mul_le_mul_right _ hi2
    omega
   have hlt2 : o + i * k + off < us.length:=by
    have h3 : d'.size * k <= cap * k:=Nat.mul_le_mul_right _ (by omega)
    omega
   refine ⟨u,?_,k2⟩
   rw [Array.getElem?_toList]
   simp only [putCells,Array.getElem?_mapIdx,List.getElem?_toArray]
   rw [List.getElem?_eq_getElem hlt2]
   simp only [Option.map_some,size_flatK]
   rw [if_pos ⟨by omega,by omega⟩,show o + i * k + off - o=i * k + off by omega,get_flatK _ _ _ _ hlt]
   have e1 : (i * k + off) / k=i:=by rw [Nat.mul_comm,Nat.mul_add_div hk0,Nat.div_eq_of_lt ho];omega
   have e2 : (i * k + off) % k=off:=by rw [Nat.mul_comm,Nat.mul_add_mod,Nat.mod_eq_of_lt ho]
   rw [e1,e2,hy]
   obtain ⟨z1,z2⟩:=List.getElem?_eq_some_iff.1 k1
   rw [getElem!_pos (enc y) off z1]
   simp [z2]
  ·simp only [sortWorldK,grow,putRowK,putRow,mapBlock,Sort.ahead]
   rw [Array.getElem?_append_left (by simpa using hq),Array.getElem?_modify,if_neg (Ne.symm hne)]
end
end Go.Gv

namespace Go.Gv
open Go.Sort Go.Proofs Go.Shelf
section
variable {P : Program} {F : Fid} {α : Type} [Inhabited α]
theorem mb {f1 : FuncId} (k : Nat) (hk0 : 0 < k) (enc : α -> List Value) (encD : α -> List D) (hk : ∀ x,(enc x).length=k) (hkD : ∀ x,(encD x).length=k) (h1 : ∀ x,∀ v ∈ enc x,v.oneCell'=true)
  (hflat : ∀ (M : Mem) (x : α) (i : Nat) (d : D) (u : Value),(encD x)[i]? = some d -> af F M d u -> (enc x)[i]? = some u) (hrep : ∀ M x,au F M (encD x) (enc x)) (cf : α -> α -> Int) (hO : SWO (ltOf cf)) (hT : ∀ x y,(ltOf cf) x y=false -> (ltOf cf) y x=false -> x=y) {g cg : Nat} (hg : ∀ f,F g=some f -> f=f1)
  (hnone : ∀ (p : Option Addr) (cap : Nat) (fv : Value) (w : World),Calls P f1 #[.slice p 0 cap,fv] w fun e w'=>e=.returned (.tuple #[]) /\ w'=w)
  (htot : ∀ (g : Nat) (cb : Array Value) (blk off cap : Nat) (d : Array α) (w : World),(∀ args w,(callFunc g args).run P w=.ok (.enter g args) w) -> CmpLays P g cb enc k cf blk off d.size w -> HoldsK enc k w blk off d -> blk < w.heap.size -> d.size < 4611686018427387904 ->
   Calls P f1 #[.slice (some ⟨blk,off,none⟩) d.size cap,.func (.func g) #[] cb] w fun e w'=>e=.returned (.tuple #[]) /\ ∃ n os,w'=sortWorldK enc k w blk off n (pdq (ltOf cf) d 0 d.size (Lib.bitLen d.size) true true) os) {cs : List D}
  (hn : ∀ f,F cg=some f -> mQ P f=true) (hcl : ∀ x y,fL P F cg (.agg (encD x)::.agg (encD y)::cs) (.int .i64 (cf x y)) []) (d : List α) (hz : d.length < 2 ^ 62) :
  fL P F g [.own k (d.map encD),.fn cg cs] .any [.own k ((d.mergeSort fun x y=>!(ltOf cf) y x).map encD),.nilp]:=by
 refine ⟨trivial,fun f hf=>⟨rfl,?_⟩⟩
 obtain rfl:=hg f hf
 have key:=nh (P:=P) (F:=F) (f:=f) k hk0 enc encD hk hkD hflat hrep d.toArray (d.mergeSort fun x y=>!(ltOf cf) y x).toArray (by simp) [.fn cg cs] (fun h M w vs A hh r=>by
  simp only [au,af] at r
  obtain ⟨fv,vs',rfl,⟨fi,us,hfi,rfl,hus⟩,rfl⟩:=r
  refine (hnone A 0 _ w).mono ?_
  rintro e w' ⟨rfl,rfl⟩
  exact ⟨rfl,0,#[],by simp [grow,Sort.ahead]⟩) (fun M w vs blk off cap hh hM r hH hb=>by
  simp only [au,af] at r
  obtain ⟨fv,vs',rfl,⟨fi,us,hfi,rfl,hus⟩,rfl⟩:=r
  have hcmp : CmpLays P fi us.toArray enc k cf blk off d.toArray.size w:=by
   intro m os dk hdk x y
   have hr:=(hcl x y).2 fi hfi M (sortWorldK enc k w blk off m dk os) (.agg (enc x).toArray::.agg (enc y).toArray::us) (fun p v hpv=>pv (fun e=>by rw [hM p e] at hpv;cases hpv) (hh p v hpv)) (by
    simp only [au,af]
    exact ⟨_,_,rfl,⟨_,rfl,hrep _ _⟩,_,_,rfl,⟨_,rfl,hrep _ _⟩,hus⟩)
   have e : #[Value.agg (enc x).toArray,.agg (enc y).toArray]++us.toArray=(.agg (enc x).toArray::.agg (enc y).toArray::us).toArray:=by simp
   rw [e]
   refine hr.mono ?_
   rintro e w' ⟨v,M',rfl,hbel,_,_,_,hv⟩
   simp only [af] at hv
   subst hv
   exact ⟨rfl,hbel.grownK⟩
  have:=htot fi us.toArray blk off cap d.toArray w (bO (hn fi hfi)) hcmp hH hb (by simpa using hz)
  have hs:=pdq_sorts (ltOf cf) hO d.toArray 0 d.toArray.size (Lib.bitLen d.toArray.size) true true (Nat.zero_le _) (Nat.le_refl _) (Or.inl rfl)
  have : Calls P f #[.slice (some ⟨blk,off,none⟩) d.toArray.size cap,.func (.func fi) #[] us.toArray] w fun e w'=>e=.returned (.tuple #[]) /\ ∃ n os,w'=sortWorldK enc k w blk off n (d.toArray.toList.mergeSort fun x y=>!(ltOf cf) y x).toArray os :=
   this.mono fun _ _ ⟨he,n,os,hw⟩=>⟨he,n,os,by rw [hw,<- sorted_unique_holds hO hT d.toArray _ hs.1 hs.2]⟩
  simpa using this)
 simpa using key
end
theorem sk {P : Program} {F : Fid} {ρ : Ren} (L : Lays.n106 P ρ) {g : Nat} (hg : ∀ f,F g=some f -> f=ρ.f 106) (a b : List UInt8) : fL P F g [.str a,.str b] (.int .i64 (Lib.compareBytes a b)) []:=by
 refine ⟨trivial,fun f hf=>?_⟩
 obtain rfl:=hg f hf
 intro M w vs hh r
 simp only [au,af] at r
 obtain ⟨v1,r1,rfl,rfl,v2,r2,rfl,rfl,rfl⟩:=r
 refine (Any.strings_Compare L ⟨a.toArray⟩ ⟨b.toArray⟩ w).mono ?_
 rintro e w' ⟨rfl,rfl⟩
 exact ⟨_,M,rfl,Bel.refl _,fun _ _ h=>h,fun p h1 h2=>absurd h1 h2,hh,by simp only [af]⟩
end Go.Gv

namespace Go.Gv
structure Tag {α : Type _} (x : α) : Type where
@[simp] theorem Pp : isV (.any)=true:=_root_.id rfl
@[simp] theorem Ps {k n} : isV (.int k n)=true:=_root_.id rfl
@[simp] theorem KC {b} : isV (.bool b)=true:=_root_.id rfl
@[simp] theorem Pz {s} : isV (.str s)=true:=_root_.id rfl
@[simp] theorem KD : isV (.nilp)=true:=_root_.id rfl
@[simp] theorem KE : isV (.nils)=true:=_root_.id rfl
@[simp] theorem Pn {ds} : isV (.agg ds)=true:=_root_.id rfl
@[simp] theorem PB {ds} : isV (.tup ds)=true:=_root_.id rfl
@[simp] theorem R7 {es} : isV (.sl es)=true:=_root_.id rfl
@[simp] theorem Pv {ds} : isV (.ptr ds)=true:=_root_.id rfl
@[simp] theorem R5 {g ds} : isV (.fn g ds)=true:=_root_.id rfl
@[simp] theorem Pu {sz es} : isV (.own sz es)=false:=_root_.id rfl
@[simp] theorem Pq {sz es} : isV (.blk sz es)=false:=_root_.id rfl
@[simp] theorem R6 {kt et ks vs} : isV (.mp kt et ks vs)=false:=_root_.id rfl
@[simp] theorem Pt {b} : isV (.mrf b)=false:=_root_.id rfl
@[simp] theorem Px {p k n} : isV (.ref p k n)=false:=_root_.id rfl
@[simp] theorem Pm {p i off} : isV (.adr p i off)=false:=_root_.id rfl
@[simp] theorem Po {ds} : isV (.agx ds)=false:=_root_.id rfl
@[simp] theorem PA {ds} : isV (.tpx ds)=false:=_root_.id rfl
@[simp] theorem Pw {ds} : isV (.ptx ds)=false:=_root_.id rfl
@[simp] theorem Pr {g ds} : isV (.fnx g ds)=false:=_root_.id rfl
@[simp] theorem Oh : isK (.any)=false:=_root_.id rfl
@[simp] theorem Ol {k n} : isK (.int k n)=true:=_root_.id rfl
@[simp] theorem Kq {b} : isK (.bool b)=true:=_root_.id rfl
@[simp] theorem Ov {s} : isK (.str s)=true:=_root_.id rfl
@[simp] theorem Kr : isK (.nilp)=true:=_root_.id rfl
@[simp] theorem Ks : isK (.nils)=true:=_root_.id rfl
@[simp] theorem Oe {ds} : isK (.agg ds)=true:=_root_.id rfl
@[simp] theorem Ox {ds} : isK (.tup ds)=true:=_root_.id rfl
@[simp] theorem RS {es} : isK (.sl es)=true:=_root_.id rfl
@[simp] theorem Oo {ds} : isK (.ptr ds)=true:=_root_.id rfl
@[simp] theorem RP {g ds} : isK (.fn g ds)=true:=_root_.id rfl
@[simp] theorem On {sz es} : isK (.own sz es)=false:=_root_.id rfl
@[simp] theorem Oi {sz es} : isK (.blk sz es)=false:=_root_.id rfl
@[simp] theorem RQ {kt et ks vs} : isK (.mp kt et ks vs)=false:=_root_.id rfl
@[simp] theorem Om {b} : isK (.mrf b)=false:=_root_.id rfl
@[simp] theorem Ot {p k n} : isK (.ref p k n)=false:=_root_.id rfl
@[simp] theorem Od {p i off} : isK (.adr p i off)=false:=_root_.id rfl
@[simp] theorem Og {ds} : isK (.agx ds)=false:=_root_.id rfl
@[simp] theorem Ow {ds} : isK (.tpx ds)=false:=_root_.id rfl
@[simp] theorem Oq {ds} : isK (.ptx ds)=false:=_root_.id rfl
@[simp] theorem Oj {g ds} : isK (.fnx g ds)=false:=_root_.id rfl
@[simp] theorem OR : isP (.any)=true:=_root_.id rfl
@[simp] theorem OU {k n} : isP (.int k n)=true:=_root_.id rfl
@[simp] theorem Kw {b} : isP (.bool b)=true:=_root_.id rfl
@[simp] theorem O1 {s} : isP (.str s)=true:=_root_.id rfl
@[simp] theorem Kx : isP (.nilp)=true:=_root_.id rfl
@[simp] theorem Ky : isP (.nils)=true:=_root_.id rfl
@[simp] theorem OP {ds} : isP (.agg ds)=true:=_root_.id rfl
@[simp] theorem O4 {ds} : isP (.tup ds)=true:=_root_.id rfl
@[simp] theorem RZ {es} : isP (.sl es)=true:=_root_.id rfl
@[simp] theorem OX {ds} : isP (.ptr ds)=true:=_root_.id rfl
@[simp] theorem RX {g ds} : isP (.fn g ds)=true:=_root_.id rfl
@[simp] theorem OW {sz es} : isP (.own sz es)=false:=_root_.id rfl
@[simp] theorem OS {sz es} : isP (.blk sz es)=false:=_root_.id rfl
@[simp] theorem RY {kt et ks vs} : isP (.mp kt et ks vs)=false:=_root_.id rfl
@[simp] theorem OV {b} : isP (.mrf b)=true:=_root_.id rfl
@[simp] theorem OZ {p k n} : isP (.ref p k n)=true:=_root_.id rfl
@[simp] theorem OO {p i off} : isP (.adr p i off)=true:=_root_.id rfl
@[simp] theorem OQ {ds} : isP (.agx ds)=false:=_root_.id rfl
@[simp] theorem O3 {ds} : isP (.tpx ds)=false:=_root_.id rfl
@[simp] theorem OY {ds} : isP (.ptx ds)=false:=_root_.id rfl
@[simp] theorem OT {g ds} : isP (.fnx g ds)=false:=_root_.id rfl
@[simp] theorem O8 : isS (.any)=true:=_root_.id rfl
@[simp] theorem R4 : isV (.bb)=true:=_root_.id rfl
@[simp] theorem R0 : isS (.bb)=true:=_root_.id rfl
@[simp] theorem RW : isP (.bb)=true:=_root_.id rfl
@[simp] theorem RH : isB (.bb)=false:=_root_.id rfl
@[simp] theorem Jw : dt (.bb)=false:=_root_.id rfl
@[simp] theorem Hb : bF (.bb)=[]:=_root_.id rfl
@[simp] theorem DU : aO (.bb)=[]:=_root_.id rfl
@[simp] theorem Pc {k n} : isS (.int k n)=true:=_root_.id rfl
@[simp] theorem Kz {b} : isS (.bool b)=true:=_root_.id rfl
@[simp] theorem Pj {s} : isS (.str s)=true:=_root_.id rfl
@[simp] theorem KA : isS (.nilp)=true:=_root_.id rfl
@[simp] theorem KB : isS (.nils)=true:=_root_.id rfl
@[simp] theorem O6 {ds} : isS (.agg ds)=true:=_root_.id rfl
@[simp] theorem Pl {ds} : isS (.tup ds)=true:=_root_.id rfl
@[simp] theorem R3 {es} : isS (.sl es)=true:=_root_.id rfl
@[simp] theorem Pf {ds} : isS (.ptr ds)=true:=_root_.id rfl
@[simp] theorem R1 {g ds} : isS (.fn g ds)=true:=_root_.id rfl
@[simp] theorem Pe {sz es} : isS (.own sz es)=false:=_root_.id rfl
@[simp] theorem O9 {sz es} : isS (.blk sz es)=false:=_root_.id rfl
@[simp] theorem R2 {kt et ks vs} : isS (.mp kt et ks vs)=false:=_root_.id rfl
@[simp] theorem Pd {b} : isS (.mrf b)=true:=_root_.id rfl
@[simp] theorem Ph {p k n} : isS (.ref p k n)=true:=_root_.id rfl
@[simp] theorem O5 {p i off} : isS (.adr p i off)=true:=_root_.id rfl
@[simp] theorem O7 {ds} : isS (.agx ds)=ds.all isP:=_root_.id rfl
@[simp] theorem Pk {ds} : isS (.tpx ds)=ds.all isP:=_root_.id rfl
@[simp] theorem Pg {ds} : isS (.ptx ds)=ds.all isP:=_root_.id rfl
@[simp] theorem Pb {g ds} : isS (.fnx g ds)=ds.all isP:=_root_.id rfl
@[simp] theorem JG : aB (.any)=false:=_root_.id rfl
@[simp] theorem JJ {k n} : aB (.int k n)=true:=_root_.id rfl
@[simp] theorem GA {b} : aB (.bool b)=true:=_root_.id rfl
@[simp] theorem JQ {s} : aB (.str s)=true:=_root_.id rfl
@[simp] theorem GB : aB (.nilp)=true:=_root_.id rfl
@[simp] theorem GC : aB (.nils)=true:=_root_.id rfl
@[simp] theorem JE {ds} : aB (.agg ds)=false:=_root_.id rfl
@[simp] theorem JS {ds} : aB (.tup ds)=false:=_root_.id rfl
@[simp] theorem NR {es} : aB (.sl es)=true:=_root_.id rfl
@[simp] theorem JM {ds} : aB (.ptr ds)=true:=_root_.id rfl
@[simp] theorem NP {g ds} : aB (.fn g ds)=true:=_root_.id rfl
@[simp] theorem JL {sz es} : aB (.own sz es)=false:=_root_.id rfl
@[simp] theorem JH {sz es} : aB (.blk sz es)=false:=_root_.id rfl
@[simp] theorem NQ {kt et ks vs} : aB (.mp kt et ks vs)=false:=_root_.id rfl
@[simp] theorem JK {b} : aB (.mrf b)=false:=_root_.id rfl
@[simp] theorem JO {p k n} : aB (.ref p k n)=false:=_root_.id rfl
@[simp] theorem JD {p i off} : aB (.adr p i off)=false:=_root_.id rfl
@[simp] theorem JF {ds} : aB (.agx ds)=false:=_root_.id rfl
@[simp] theorem JR {ds} : aB (.tpx ds)=false:=_root_.id rfl
@[simp] theorem JN {ds} : aB (.ptx ds)=false:=_root_.id rfl
@[simp] theorem JI {g ds} : aB (.fnx g ds)=false:=_root_.id rfl
@[simp] theorem OB : isO (.any)=false:=_root_.id rfl
@[simp] theorem OE {k n} : isO (.int k n)=false:=_root_.id rfl
@[simp] theorem Kt {b} : isO (.bool b)=false:=_root_.id rfl
@[simp] theorem OL {s} : isO (.str s)=false:=_root_.id rfl
@[simp] theorem Ku : isO (.nilp)=false:=_root_.id rfl
@[simp] theorem Kv : isO (.nils)=false:=_root_.id rfl
@[simp] theorem Oz {ds} : isO (.agg ds)=false:=_root_.id rfl
@[simp] theorem ON {ds} : isO (.tup ds)=false:=_root_.id rfl
@[simp] theorem RV {es} : isO (.sl es)=false:=_root_.id rfl
@[simp] theorem OH {ds} : isO (.ptr ds)=false:=_root_.id rfl
@[simp] theorem RT {g ds} : isO (.fn g ds)=false:=_root_.id rfl
@[simp] theorem OG {sz es} : isO (.own sz es)=true:=_root_.id rfl
@[simp] theorem OC {sz es} : isO (.blk sz es)=false:=_root_.id rfl
@[simp] theorem RU {kt et ks vs} : isO (.mp kt et ks vs)=false:=_root_.id rfl
@[simp] theorem OF {b} : isO (.mrf b)=false:=_root_.id rfl
@[simp] theorem OJ {p k n} : isO (.ref p k n)=false:=_root_.id rfl
@[simp] theorem Oy {p i off} : isO (.adr p i off)=false:=_root_.id rfl
@[simp] theorem OA {ds} : isO (.agx ds)=false:=_root_.id rfl
@[simp] theorem OM {ds} : isO (.tpx ds)=false:=_root_.id rfl
@[simp] theorem OI {ds} : isO (.ptx ds)=false:=_root_.id rfl
@[simp] theorem OD {g ds} : isO (.fnx g ds)=false:=_root_.id rfl
@[simp] theorem JW : bx (.any)=true:=_root_.id rfl
@[simp] theorem JZ {k n} : bx (.int k n)=true:=_root_.id rfl
@[simp] theorem GD {b} : bx (.bool b)=true:=_root_.id rfl
@[simp] theorem J5 {s} : bx (.str s)=true:=_root_.id rfl
@[simp] theorem GE : bx (.nilp)=true:=_root_.id rfl
@[simp] theorem GF : bx (.nils)=true:=_root_.id rfl
@[simp] theorem JU {ds} : bx (.agg ds)=false:=_root_.id rfl
@[simp] theorem J7 {ds} : bx (.tup ds)=false:=_root_.id rfl
@[simp] theorem NU {es} : bx (.sl es)=false:=_root_.id rfl
@[simp] theorem J2 {ds} : bx (.ptr ds)=false:=_root_.id rfl
@[simp] theorem NS {g ds} : bx (.fn g ds)=false:=_root_.id rfl
@[simp] theorem J1 {sz es} : bx (.own sz es)=false:=_root_.id rfl
@[simp] theorem JX {sz es} : bx (.blk sz es)=false:=_root_.id rfl
@[simp] theorem NT {kt et ks vs} : bx (.mp kt et ks vs)=false:=_root_.id rfl
@[simp] theorem J0 {b} : bx (.mrf b)=false:=_root_.id rfl
@[simp] theorem J4 {p k n} : bx (.ref p k n)=false:=_root_.id rfl
@[simp] theorem JT {p i off} : bx (.adr p i off)=false:=_root_.id rfl
@[simp] theorem JV {ds} : bx (.agx ds)=false:=_root_.id rfl
@[simp] theorem J6 {ds} : bx (.tpx ds)=false:=_root_.id rfl
@[simp] theorem J3 {ds} : bx (.ptx ds)=false:=_root_.id rfl
@[simp] theorem JY {g ds} : bx (.fnx g ds)=false:=_root_.id rfl
@[simp] theorem Kb : fk (.any)=true:=_root_.id rfl
@[simp] theorem Ke {k n} : fk (.int k n)=true:=_root_.id rfl
@[simp] theorem GG {b} : fk (.bool b)=true:=_root_.id rfl
@[simp] theorem Kk {s} : fk (.str s)=true:=_root_.id rfl
@[simp] theorem GH : fk (.nilp)=true:=_root_.id rfl
@[simp] theorem GI : fk (.nils)=true:=_root_.id rfl
@[simp] theorem J9 {ds} : fk (.agg ds)=ds.all bx:=_root_.id rfl
@[simp] theorem Km {ds} : fk (.tup ds)=false:=_root_.id rfl
@[simp] theorem NX {es} : fk (.sl es)=false:=_root_.id rfl
@[simp] theorem Kh {ds} : fk (.ptr ds)=false:=_root_.id rfl
@[simp] theorem NV {g ds} : fk (.fn g ds)=false:=_root_.id rfl
@[simp] theorem Kg {sz es} : fk (.own sz es)=false:=_root_.id rfl
@[simp] theorem Kc {sz es} : fk (.blk sz es)=false:=_root_.id rfl
@[simp] theorem NW {kt et ks vs} : fk (.mp kt et ks vs)=false:=_root_.id rfl
@[simp] theorem Kf {b} : fk (.mrf b)=false:=_root_.id rfl
@[simp] theorem Kj {p k n} : fk (.ref p k n)=false:=_root_.id rfl
@[simp] theorem J8 {p i off} : fk (.adr p i off)=false:=_root_.id rfl
@[simp] theorem Ka {ds} : fk (.agx ds)=false:=_root_.id rfl
@[simp] theorem Kl {ds} : fk (.tpx ds)=false:=_root_.id rfl
@[simp] theorem Ki {ds} : fk (.ptx ds)=false:=_root_.id rfl
@[simp] theorem Kd {g ds} : fk (.fnx g ds)=false:=_root_.id rfl
@[simp] theorem N1 : isF (.any)=true:=_root_.id rfl
@[simp] theorem N4 {k n} : isF (.int k n)=true:=_root_.id rfl
@[simp] theorem Kn {b} : isF (.bool b)=true:=_root_.id rfl
@[simp] theorem Oa {s} : isF (.str s)=true:=_root_.id rfl
@[simp] theorem Ko : isF (.nilp)=true:=_root_.id rfl
@[simp] theorem Kp : isF (.nils)=true:=_root_.id rfl
@[simp] theorem NZ {ds} : isF (.agg ds)=ds.all bx:=_root_.id rfl
@[simp] theorem Oc {ds} : isF (.tup ds)=ds.all fk:=_root_.id rfl
@[simp] theorem RO {es} : isF (.sl es)=false:=_root_.id rfl
@[simp] theorem N7 {ds} : isF (.ptr ds)=false:=_root_.id rfl
@[simp] theorem RM {g ds} : isF (.fn g ds)=false:=_root_.id rfl
@[simp] theorem N6 {sz es} : isF (.own sz es)=false:=_root_.id rfl
@[simp] theorem N2 {sz es} : isF (.blk sz es)=false:=_root_.id rfl
@[simp] theorem RN {kt et ks vs} : isF (.mp kt et ks vs)=false:=_root_.id rfl
@[simp] theorem N5 {b} : isF (.mrf b)=false:=_root_.id rfl
@[simp] theorem N9 {p k n} : isF (.ref p k n)=false:=_root_.id rfl
@[simp] theorem NY {p i off} : isF (.adr p i off)=false:=_root_.id rfl
@[simp] theorem N0 {ds} : isF (.agx ds)=false:=_root_.id rfl
@[simp] theorem Ob {ds} : isF (.tpx ds)=false:=_root_.id rfl
@[simp] theorem N8 {ds} : isF (.ptx ds)=false:=_root_.id rfl
@[simp] theorem N3 {g ds} : isF (.fnx g ds)=false:=_root_.id rfl
@[simp] theorem NC : isB (.any)=false:=_root_.id rfl
@[simp] theorem NF {k n} : isB (.int k n)=false:=_root_.id rfl
@[simp] theorem JA {b} : isB (.bool b)=false:=_root_.id rfl
@[simp] theorem NM {s} : isB (.str s)=false:=_root_.id rfl
@[simp] theorem JB : isB (.nilp)=false:=_root_.id rfl
@[simp] theorem JC : isB (.nils)=false:=_root_.id rfl
@[simp] theorem NA {ds} : isB (.agg ds)=false:=_root_.id rfl
@[simp] theorem NO {ds} : isB (.tup ds)=false:=_root_.id rfl
@[simp] theorem RK {es} : isB (.sl es)=false:=_root_.id rfl
@[simp] theorem NI {ds} : isB (.ptr ds)=false:=_root_.id rfl
@[simp] theorem RI {g ds} : isB (.fn g ds)=false:=_root_.id rfl
@[simp] theorem NH {sz es} : isB (.own sz es)=false:=_root_.id rfl
@[simp] theorem ND {sz es} : isB (.blk sz es)=true:=_root_.id rfl
@[simp] theorem RJ {kt et ks vs} : isB (.mp kt et ks vs)=true:=_root_.id rfl
@[simp] theorem NG {b} : isB (.mrf b)=false:=_root_.id rfl
@[simp] theorem NK {p k n} : isB (.ref p k n)=false:=_root_.id rfl
@[simp] theorem Nz {p i off} : isB (.adr p i off)=false:=_root_.id rfl
@[simp] theorem NB {ds} : isB (.agx ds)=false:=_root_.id rfl
@[simp] theorem NN {ds} : isB (.tpx ds)=false:=_root_.id rfl
@[simp] theorem NJ {ds} : isB (.ptx ds)=false:=_root_.id rfl
@[simp] theorem NE {g ds} : isB (.fnx g ds)=false:=_root_.id rfl
@[simp] theorem Gl : dt (.any)=true:=_root_.id rfl
@[simp] theorem Gp {k n} : dt (.int k n)=false:=_root_.id rfl
@[simp] theorem DD {b} : dt (.bool b)=false:=_root_.id rfl
@[simp] theorem Gx {s} : dt (.str s)=false:=_root_.id rfl
@[simp] theorem DE : dt (.nilp)=false:=_root_.id rfl
@[simp] theorem DF : dt (.nils)=false:=_root_.id rfl
@[simp] theorem Gj {ds} : dt (.agg ds)=false:=_root_.id rfl
@[simp] theorem Gz {ds} : dt (.tup ds)=false:=_root_.id rfl
@[simp] theorem Jz {es} : dt (.sl es)=false:=_root_.id rfl
@[simp] theorem Gs {ds} : dt (.ptr ds)=false:=_root_.id rfl
@[simp] theorem Jx {g ds} : dt (.fn g ds)=false:=_root_.id rfl
@[simp] theorem Gr {sz es} : dt (.own sz es)=false:=_root_.id rfl
@[simp] theorem Gm {sz es} : dt (.blk sz es)=false:=_root_.id rfl
@[simp] theorem Jy {kt et ks vs} : dt (.mp kt et ks vs)=false:=_root_.id rfl
@[simp] theorem Gq {b} : dt (.mrf b)=false:=_root_.id rfl
@[simp] theorem Gu {p k n} : dt (.ref p k n)=false:=_root_.id rfl
@[simp] theorem Gi {p i off} : dt (.adr p i off)=false:=_root_.id rfl
@[simp] theorem Gk {ds} : dt (.agx ds)=false:=_root_.id rfl
@[simp] theorem Gy {ds} : dt (.tpx ds)=false:=_root_.id rfl
@[simp] theorem Gt {ds} : dt (.ptx ds)=false:=_root_.id rfl
@[simp] theorem Gn {g ds} : dt (.fnx g ds)=false:=_root_.id rfl
@[simp] theorem BA : cellsOf (.any)=[.any]:=_root_.id rfl
@[simp] theorem BD {k n} : cellsOf (.int k n)=[.int k n]:=_root_.id rfl
@[simp] theorem yX {b} : cellsOf (.bool b)=[.bool b]:=_root_.id rfl
@[simp] theorem BL {s} : cellsOf (.str s)=[.str s]:=_root_.id rfl
@[simp] theorem yY : cellsOf (.nilp)=[.nilp]:=_root_.id rfl
@[simp] theorem yZ : cellsOf (.nils)=[.nils]:=_root_.id rfl
@[simp] theorem By {ds} : cellsOf (.agg ds)=ds:=_root_.id rfl
@[simp] theorem BN {ds} : cellsOf (.tup ds)=[.tup ds]:=_root_.id rfl
@[simp] theorem Db {es} : cellsOf (.sl es)=[.sl es]:=_root_.id rfl
@[simp] theorem BG {ds} : cellsOf (.ptr ds)=[.ptr ds]:=_root_.id rfl
@[simp] theorem C9 {g ds} : cellsOf (.fn g ds)=[.fn g ds]:=_root_.id rfl
@[simp] theorem BF {sz es} : cellsOf (.own sz es)=[.own sz es]:=_root_.id rfl
@[simp] theorem BB {sz es} : cellsOf (.blk sz es)=[.blk sz es]:=_root_.id rfl
@[simp] theorem Da {kt et ks vs} : cellsOf (.mp kt et ks vs)=[.mp kt et ks vs]:=_root_.id rfl
@[simp] theorem BE {b} : cellsOf (.mrf b)=[.mrf b]:=_root_.id rfl
@[simp] theorem BI {p k n} : cellsOf (.ref p k n)=[.ref p k n]:=_root_.id rfl
@[simp] theorem Bx {p i off} : cellsOf (.adr p i off)=[.adr p i off]:=_root_.id rfl
@[simp] theorem Bz {ds} : cellsOf (.agx ds)=[.agx ds]:=_root_.id rfl
@[simp] theorem BM {ds} : cellsOf (.tpx ds)=[.tpx ds]:=_root_.id rfl
@[simp] theorem BH {ds} : cellsOf (.ptx ds)=[.ptx ds]:=_root_.id rfl
@[simp] theorem BC {g ds} : cellsOf (.fnx g ds)=[.fnx g ds]:=_root_.id rfl
@[simp] theorem E9 : cA (.any)=.any:=_root_.id rfl
@[simp] theorem Fc {k n} : cA (.int k n)=.int k n:=_root_.id rfl
@[simp] theorem CU {b} : cA (.bool b)=.bool b:=_root_.id rfl
@[simp] theorem Fj {s} : cA (.str s)=.str s:=_root_.id rfl
@[simp] theorem CV : cA (.nilp)=.nilp:=_root_.id rfl
@[simp] theorem CW : cA (.nils)=.nils:=_root_.id rfl
@[simp] theorem E7 {ds} : cA (.agg ds)=.agg ds:=_root_.id rfl
@[simp] theorem Fl {ds} : cA (.tup ds)=.tup ds:=_root_.id rfl
@[simp] theorem HU {es} : cA (.sl es)=.sl es:=_root_.id rfl
@[simp] theorem Ff {ds} : cA (.ptr ds)=.ptr ds:=_root_.id rfl
@[simp] theorem HS {g ds} : cA (.fn g ds)=.fn g ds:=_root_.id rfl
@[simp] theorem Fe {sz es} : cA (.own sz es)=.own sz es:=_root_.id rfl
@[simp] theorem Fa {sz es} : cA (.blk sz es)=.blk sz es:=_root_.id rfl
@[simp] theorem HT {kt et ks vs} : cA (.mp kt et ks vs)=.mp kt et ks vs:=_root_.id rfl
@[simp] theorem Fd {b} : cA (.mrf b)=.mrf b:=_root_.id rfl
@[simp] theorem Fh {p k n} : cA (.ref p k n)=.ref p k n:=_root_.id rfl
@[simp] theorem E6 {p i off} : cA (.adr p i off)=.adr p i off:=_root_.id rfl
@[simp] theorem E8 {ds} : cA (.agx ds)=.agg ds:=_root_.id rfl
@[simp] theorem Fk {ds} : cA (.tpx ds)=.tpx ds:=_root_.id rfl
@[simp] theorem Fg {ds} : cA (.ptx ds)=.ptx ds:=_root_.id rfl
@[simp] theorem Fb {g ds} : cA (.fnx g ds)=.fnx g ds:=_root_.id rfl
@[simp] theorem Fz : aX (.any)=.any:=_root_.id rfl
@[simp] theorem FC {k n} : aX (.int k n)=.int k n:=_root_.id rfl
@[simp] theorem C6 {b} : aX (.bool b)=.bool b:=_root_.id rfl
@[simp] theorem FJ {s} : aX (.str s)=.str s:=_root_.id rfl
@[simp] theorem C7 : aX (.nilp)=.nilp:=_root_.id rfl
@[simp] theorem C8 : aX (.nils)=.nils:=_root_.id rfl
@[simp] theorem Fx {ds} : aX (.agg ds)=.agg ds:=_root_.id rfl
@[simp] theorem FL {ds} : aX (.tup ds)=.tup ds:=_root_.id rfl
@[simp] theorem Iu {es} : aX (.sl es)=.sl es:=_root_.id rfl
@[simp] theorem FF {ds} : aX (.ptr ds)=.ptr ds:=_root_.id rfl
@[simp] theorem Is {g ds} : aX (.fn g ds)=.fn g ds:=_root_.id rfl
@[simp] theorem FE {sz es} : aX (.own sz es)=.sl es:=_root_.id rfl
@[simp] theorem FA {sz es} : aX (.blk sz es)=.blk sz es:=_root_.id rfl
@[simp] theorem It {kt et ks vs} : aX (.mp kt et ks vs)=.mp kt et ks vs:=_root_.id rfl
@[simp] theorem FD {b} : aX (.mrf b)=.mrf b:=_root_.id rfl
@[simp] theorem FH {p k n} : aX (.ref p k n)=.ref p k n:=_root_.id rfl
@[simp] theorem Fw {p i off} : aX (.adr p i off)=.adr p i off:=_root_.id rfl
@[simp] theorem Fy {ds} : aX (.agx ds)=.agx ds:=_root_.id rfl
@[simp] theorem FK {ds} : aX (.tpx ds)=.tpx ds:=_root_.id rfl
@[simp] theorem FG {ds} : aX (.ptx ds)=.ptx ds:=_root_.id rfl
@[simp] theorem FB {g ds} : aX (.fnx g ds)=.fnx g ds:=_root_.id rfl
@[simp] theorem Cc : aO (.any)=[]:=_root_.id rfl
@[simp] theorem Cf {k n} : aO (.int k n)=[]:=_root_.id rfl
@[simp] theorem Ai {b} : aO (.bool b)=[]:=_root_.id rfl
@[simp] theorem Cn {s} : aO (.str s)=[]:=_root_.id rfl
@[simp] theorem Aj : aO (.nilp)=[]:=_root_.id rfl
@[simp] theorem Ak : aO (.nils)=[]:=_root_.id rfl
@[simp] theorem Ca {ds} : aO (.agg ds)=[]:=_root_.id rfl
@[simp] theorem Cp {ds} : aO (.tup ds)=[]:=_root_.id rfl
@[simp] theorem DX {es} : aO (.sl es)=[]:=_root_.id rfl
@[simp] theorem Cj {ds} : aO (.ptr ds)=[]:=_root_.id rfl
@[simp] theorem DV {g ds} : aO (.fn g ds)=[]:=_root_.id rfl
@[simp] theorem Ci {sz es} : aO (.own sz es)=[]:=_root_.id rfl
@[simp] theorem Cd {sz es} : aO (.blk sz es)=[]:=_root_.id rfl
@[simp] theorem DW {kt et ks vs} : aO (.mp kt et ks vs)=[]:=_root_.id rfl
@[simp] theorem Cg {b} : aO (.mrf b)=[b]:=_root_.id rfl
@[simp] theorem Cl {p k n} : aO (.ref p k n)=[p.root]:=_root_.id rfl
@[simp] theorem BZ {p i off} : aO (.adr p i off)=[p.root]:=_root_.id rfl
@[simp] theorem Cb {ds} : aO (.agx ds)=[]:=_root_.id rfl
@[simp] theorem Co {ds} : aO (.tpx ds)=[]:=_root_.id rfl
@[simp] theorem Ck {ds} : aO (.ptx ds)=[]:=_root_.id rfl
@[simp] theorem Ce {g ds} : aO (.fnx g ds)=[]:=_root_.id rfl
@[simp] theorem D1 : bF (.any)=[]:=_root_.id rfl
@[simp] theorem D4 {k n} : bF (.int k n)=[]:=_root_.id rfl
@[simp] theorem Cq {b} : bF (.bool b)=[]:=_root_.id rfl
@[simp] theorem Eb {s} : bF (.str s)=[]:=_root_.id rfl
@[simp] theorem Cr : bF (.nilp)=[]:=_root_.id rfl
@[simp] theorem Cs : bF (.nils)=[]:=_root_.id rfl
@[simp] theorem DZ {ds} : bF (.agg ds)=[]:=_root_.id rfl
@[simp] theorem Ed {ds} : bF (.tup ds)=[]:=_root_.id rfl
@[simp] theorem He {es} : bF (.sl es)=[]:=_root_.id rfl
@[simp] theorem D7 {ds} : bF (.ptr ds)=[]:=_root_.id rfl
@[simp] theorem Hc {g ds} : bF (.fn g ds)=[]:=_root_.id rfl
@[simp] theorem D6 {sz es} : bF (.own sz es)=[]:=_root_.id rfl
@[simp] theorem D2 {sz es} : bF (.blk sz es)=[]:=_root_.id rfl
@[simp] theorem Hd {kt et ks vs} : bF (.mp kt et ks vs)=[]:=_root_.id rfl
@[simp] theorem D5 {b} : bF (.mrf b)=[b]:=_root_.id rfl
@[simp] theorem D9 {p k n} : bF (.ref p k n)=[p.root]:=_root_.id rfl
@[simp] theorem DY {p i off} : bF (.adr p i off)=[p.root]:=_root_.id rfl
@[simp] theorem D0 {ds} : bF (.agx ds)=ds.flatMap aO:=_root_.id rfl
@[simp] theorem Ec {ds} : bF (.tpx ds)=ds.flatMap aO:=_root_.id rfl
@[simp] theorem D8 {ds} : bF (.ptx ds)=ds.flatMap aO:=_root_.id rfl
@[simp] theorem D3 {g ds} : bF (.fnx g ds)=ds.flatMap aO:=_root_.id rfl
@[simp] theorem MW {f : Nat -> D} : dp1 f (.any)=(.any):=_root_.id rfl
@[simp] theorem MZ {f : Nat -> D} {k n} : dp1 f (.int k n)=(.int k n):=_root_.id rfl
@[simp] theorem IC {f : Nat -> D} {b} : dp1 f (.bool b)=(.bool b):=_root_.id rfl
@[simp] theorem Nc {f : Nat -> D} {s} : dp1 f (.str s)=(.str s):=_root_.id rfl
@[simp] theorem ID {f : Nat -> D} : dp1 f (.nilp)=(.nilp):=_root_.id rfl
@[simp] theorem IE {f : Nat -> D} : dp1 f (.nils)=(.nils):=_root_.id rfl
@[simp] theorem MU {f : Nat -> D} {ds} : dp1 f (.agg ds)=(.agg ds):=_root_.id rfl
@[simp] theorem Nf {f : Nat -> D} {ds} : dp1 f (.tup ds)=(.tup ds):=_root_.id rfl
@[simp] theorem Rf {f : Nat -> D} {es} : dp1 f (.sl es)=(.sl es):=_root_.id rfl
@[simp] theorem M8 {f : Nat -> D} {ds} : dp1 f (.ptr ds)=(.ptr ds):=_root_.id rfl
@[simp] theorem Rd {f : Nat -> D} {g ds} : dp1 f (.fn g ds)=(.fn g ds):=_root_.id rfl
@[simp] theorem M7 {f : Nat -> D} {sz es} : dp1 f (.own sz es)=(.own sz es):=_root_.id rfl
@[simp] theorem MX {f : Nat -> D} {sz es} : dp1 f (.blk sz es)=(.blk sz es):=_root_.id rfl
@[simp] theorem Re {f : Nat -> D} {kt et ks vs} : dp1 f (.mp kt et ks vs)=(.mp kt et ks vs):=_root_.id rfl
@[simp] theorem M6 {f : Nat -> D} {b} : dp1 f (.mrf b)=(.mrf b):=_root_.id rfl
@[simp] theorem Na {f : Nat -> D} {p k n} : dp1 f (.ref p k n)=(match bB f p with | some (_,es)=>.sl (((es.drop k).take n).map fun e=>e.map aX) | none=>.any):=_root_.id rfl
@[simp] theorem MT {f : Nat -> D} {p i off} : dp1 f (.adr p i off)=(match bB f p with | some (_,es)=>.ptr (((es[i]?.getD []).drop off).map aX) | none=>.any):=_root_.id rfl
@[simp] theorem MV {f : Nat -> D} {ds} : dp1 f (.agx ds)=(.agx ds):=_root_.id rfl
@[simp] theorem Nd {f : Nat -> D} {ds} : dp1 f (.tpx ds)=(.tpx ds):=_root_.id rfl
@[simp] theorem M9 {f : Nat -> D} {ds} : dp1 f (.ptx ds)=(.ptx ds):=_root_.id rfl
@[simp] theorem MY {f : Nat -> D} {g ds} : dp1 f (.fnx g ds)=(.fnx g ds):=_root_.id rfl
@[simp] theorem Rk {f : Nat -> D} : dp f (.any)=(.any):=_root_.id rfl
@[simp] theorem Ro {f : Nat -> D} {k n} : dp f (.int k n)=(.int k n):=_root_.id rfl
@[simp] theorem Nj {f : Nat -> D} {b} : dp f (.bool b)=(.bool b):=_root_.id rfl
@[simp] theorem Rw {f : Nat -> D} {s} : dp f (.str s)=(.str s):=_root_.id rfl
@[simp] theorem Nk {f : Nat -> D} : dp f (.nilp)=(.nilp):=_root_.id rfl
@[simp] theorem Nl {f : Nat -> D} : dp f (.nils)=(.nils):=_root_.id rfl
@[simp] theorem Ri {f : Nat -> D} {ds} : dp f (.agg ds)=(.agg ds):=_root_.id rfl
@[simp] theorem Ry {f : Nat -> D} {ds} : dp f (.tup ds)=(.tup ds):=_root_.id rfl
@[simp] theorem SP {f : Nat -> D} {es} : dp f (.sl es)=(.sl es):=_root_.id rfl
@[simp] theorem Rr {f : Nat -> D} {ds} : dp f (.ptr ds)=(.ptr ds):=_root_.id rfl
@[simp] theorem SN {f : Nat -> D} {g ds} : dp f (.fn g ds)=(.fn g ds):=_root_.id rfl
@[simp] theorem Rq {f : Nat -> D} {sz es} : dp f (.own sz es)=(.own sz es):=_root_.id rfl
@[simp] theorem Rm {f : Nat -> D} {sz es} : dp f (.blk sz es)=(.blk sz es):=_root_.id rfl
@[simp] theorem SO {f : Nat -> D} {kt et ks vs} : dp f (.mp kt et ks vs)=(.mp kt et ks vs):=_root_.id rfl
@[simp] theorem Rp {f : Nat -> D} {b} : dp f (.mrf b)=(.mrf b):=_root_.id rfl
@[simp] theorem Ru {f : Nat -> D} {p k n} : dp f (.ref p k n)=(match bB f p with | some (_,es)=>.sl (((es.drop k).take n).map fun e=>e.map aX) | none=>.any):=_root_.id rfl
@[simp] theorem Rg {f : Nat -> D} {p i off} : dp f (.adr p i off)=(match bB f p with | some (_,es)=>.ptr (((es[i]?.getD []).drop off).map aX) | none=>.any):=_root_.id rfl
@[simp] theorem Rj {f : Nat -> D} {ds} : dp f (.agx ds)=(.agg (ds.map (dp1 f))):=_root_.id rfl
@[simp] theorem Rx {f : Nat -> D} {ds} : dp f (.tpx ds)=(.tup (ds.map (dp1 f))):=_root_.id rfl
@[simp] theorem Rt {f : Nat -> D} {ds} : dp f (.ptx ds)=(.ptr (ds.map (dp1 f))):=_root_.id rfl
@[simp] theorem Rn {f : Nat -> D} {g ds} : dp f (.fnx g ds)=(.fn g (ds.map (dp1 f))):=_root_.id rfl
@[simp] theorem FR {f : Nat -> D} : aT f (.any)=(True):=_root_.id rfl
@[simp] theorem FU {f : Nat -> D} {k n} : aT f (.int k n)=(True):=_root_.id rfl
@[simp] theorem Dk {f : Nat -> D} {b} : aT f (.bool b)=(True):=_root_.id rfl
@[simp] theorem F1 {f : Nat -> D} {s} : aT f (.str s)=(True):=_root_.id rfl
@[simp] theorem Dl {f : Nat -> D} : aT f (.nilp)=(True):=_root_.id rfl
@[simp] theorem Dm {f : Nat -> D} : aT f (.nils)=(True):=_root_.id rfl
@[simp] theorem FP {f : Nat -> D} {ds} : aT f (.agg ds)=(True):=_root_.id rfl
@[simp] theorem F3 {f : Nat -> D} {ds} : aT f (.tup ds)=(True):=_root_.id rfl
@[simp] theorem IH {f : Nat -> D} {es} : aT f (.sl es)=(True):=_root_.id rfl
@[simp] theorem FX {f : Nat -> D} {ds} : aT f (.ptr ds)=(True):=_root_.id rfl
@[simp] theorem IF {f : Nat -> D} {g ds} : aT f (.fn g ds)=(True):=_root_.id rfl
@[simp] theorem FW {f : Nat -> D} {sz es} : aT f (.own sz es)=(True):=_root_.id rfl
@[simp] theorem FS {f : Nat -> D} {sz es} : aT f (.blk sz es)=(True):=_root_.id rfl
@[simp] theorem IG {f : Nat -> D} {kt et ks vs} : aT f (.mp kt et ks vs)=(True):=_root_.id rfl
@[simp] theorem FV {f : Nat -> D} {b} : aT f (.mrf b)=(False):=_root_.id rfl
@[simp] theorem FZ {f : Nat -> D} {p k n} : aT f (.ref p k n)=(match bB f p with | some (_,es)=>k + n <= es.length | none=>False):=_root_.id rfl
@[simp] theorem FO {f : Nat -> D} {p i off} : aT f (.adr p i off)=(match bB f p with | some _=>True | none=>False):=_root_.id rfl
@[simp] theorem FQ {f : Nat -> D} {ds} : aT f (.agx ds)=(True):=_root_.id rfl
@[simp] theorem F2 {f : Nat -> D} {ds} : aT f (.tpx ds)=(True):=_root_.id rfl
@[simp] theorem FY {f : Nat -> D} {ds} : aT f (.ptx ds)=(True):=_root_.id rfl
@[simp] theorem FT {f : Nat -> D} {g ds} : aT f (.fnx g ds)=(True):=_root_.id rfl
@[simp] theorem IL {f : Nat -> D} : bD f (.any)=(True):=_root_.id rfl
@[simp] theorem IP {f : Nat -> D} {k n} : bD f (.int k n)=(True):=_root_.id rfl
@[simp] theorem F4 {f : Nat -> D} {b} : bD f (.bool b)=(True):=_root_.id rfl
@[simp] theorem IW {f : Nat -> D} {s} : bD f (.str s)=(True):=_root_.id rfl
@[simp] theorem F5 {f : Nat -> D} : bD f (.nilp)=(True):=_root_.id rfl
@[simp] theorem F6 {f : Nat -> D} : bD f (.nils)=(True):=_root_.id rfl
@[simp] theorem IJ {f : Nat -> D} {ds} : bD f (.agg ds)=(True):=_root_.id rfl
@[simp] theorem IY {f : Nat -> D} {ds} : bD f (.tup ds)=(True):=_root_.id rfl
@[simp] theorem Ni {f : Nat -> D} {es} : bD f (.sl es)=(True):=_root_.id rfl
@[simp] theorem IS {f : Nat -> D} {ds} : bD f (.ptr ds)=(True):=_root_.id rfl
@[simp] theorem Ng {f : Nat -> D} {g ds} : bD f (.fn g ds)=(True):=_root_.id rfl
@[simp] theorem IR {f : Nat -> D} {sz es} : bD f (.own sz es)=(True):=_root_.id rfl
@[simp] theorem IM {f : Nat -> D} {sz es} : bD f (.blk sz es)=(True):=_root_.id rfl
@[simp] theorem Nh {f : Nat -> D} {kt et ks vs} : bD f (.mp kt et ks vs)=(True):=_root_.id rfl
@[simp] theorem IQ {f : Nat -> D} {b} : bD f (.mrf b)=(False):=_root_.id rfl
@[simp] theorem IU {f : Nat -> D} {p k n} : bD f (.ref p k n)=(match bB f p with | some (_,es)=>k + n <= es.length | none=>False):=_root_.id rfl
@[simp] theorem II {f : Nat -> D} {p i off} : bD f (.adr p i off)=(match bB f p with | some _=>True | none=>False):=_root_.id rfl
@[simp] theorem IK {f : Nat -> D} {ds} : bD f (.agx ds)=(∀ d ∈ ds,aT f d):=_root_.id rfl
@[simp] theorem IX {f : Nat -> D} {ds} : bD f (.tpx ds)=(∀ d ∈ ds,aT f d):=_root_.id rfl
@[simp] theorem IT {f : Nat -> D} {ds} : bD f (.ptx ds)=(∀ d ∈ ds,aT f d):=_root_.id rfl
@[simp] theorem IO {f : Nat -> D} {g ds} : bD f (.fnx g ds)=(∀ d ∈ ds,aT f d):=_root_.id rfl
@[simp] theorem PG {p i0 o} : ldc p i0 o (.any)=.any:=_root_.id rfl
@[simp] theorem Lj {m} : fQ m (.any)=.any:=_root_.id rfl
@[simp] theorem PJ {p i0 o k n} : ldc p i0 o (.int k n)=.int k n:=_root_.id rfl
@[simp] theorem Lm {m k n} : fQ m (.int k n)=.int k n:=_root_.id rfl
@[simp] theorem KO {p i0 o b} : ldc p i0 o (.bool b)=.bool b:=_root_.id rfl
@[simp] theorem Hf {m b} : fQ m (.bool b)=.bool b:=_root_.id rfl
@[simp] theorem PQ {p i0 o s} : ldc p i0 o (.str s)=.str s:=_root_.id rfl
@[simp] theorem Ls {m s} : fQ m (.str s)=.str s:=_root_.id rfl
@[simp] theorem KP {p i0 o} : ldc p i0 o (.nilp)=.nilp:=_root_.id rfl
@[simp] theorem Hg {m} : fQ m (.nilp)=.nilp:=_root_.id rfl
@[simp] theorem KQ {p i0 o} : ldc p i0 o (.nils)=.nils:=_root_.id rfl
@[simp] theorem PE {p i0 o ds} : ldc p i0 o (.agg ds)=.agg ds:=_root_.id rfl
@[simp] theorem Lh {m ds} : fQ m (.agg ds)=.agg ds:=_root_.id rfl
@[simp] theorem PS {p i0 o ds} : ldc p i0 o (.tup ds)=.tup ds:=_root_.id rfl
@[simp] theorem Lu {m ds} : fQ m (.tup ds)=.tup ds:=_root_.id rfl
@[simp] theorem Sd {p i0 o es} : ldc p i0 o (.sl es)=.sl es:=_root_.id rfl
@[simp] theorem P8 {m es} : fQ m (.sl es)=.sl es:=_root_.id rfl
@[simp] theorem PM {p i0 o ds} : ldc p i0 o (.ptr ds)=.ptr ds:=_root_.id rfl
@[simp] theorem Lp {m ds} : fQ m (.ptr ds)=.ptr ds:=_root_.id rfl
@[simp] theorem Sb {p i0 o g ds} : ldc p i0 o (.fn g ds)=.fn g ds:=_root_.id rfl
@[simp] theorem PZ {m g ds} : fQ m (.fn g ds)=.fn g ds:=_root_.id rfl
@[simp] theorem PL {c i o sz es} : ldc (.r c) i o (.own sz es)=.ref (.n c i o) 0 es.length:=_root_.id rfl
@[simp] theorem Lo {m sz es} : fQ m (.own sz es)=.own sz es:=_root_.id rfl
@[simp] theorem PH {p i0 o sz es} : ldc p i0 o (.blk sz es)=.blk sz es:=_root_.id rfl
@[simp] theorem Lk {m sz es} : fQ m (.blk sz es)=.blk sz es:=_root_.id rfl
@[simp] theorem Sc {p i0 o kt et ks vs} : ldc p i0 o (.mp kt et ks vs)=.mp kt et ks vs:=_root_.id rfl
@[simp] theorem P0 {m kt et ks vs} : fQ m (.mp kt et ks vs)=.mp kt et ks vs:=_root_.id rfl
@[simp] theorem PK {p i0 o b} : ldc p i0 o (.mrf b)=.mrf b:=_root_.id rfl
@[simp] theorem Ln {m b} : fQ m (.mrf b)=.mrf b:=_root_.id rfl
@[simp] theorem PO {p i0 o q k n} : ldc p i0 o (.ref q k n)=.ref q k n:=_root_.id rfl
@[simp] theorem Lr {m q k n} : fQ m (.ref q k n)=.ref q k n:=_root_.id rfl
@[simp] theorem PD {p i0 o q i off} : ldc p i0 o (.adr q i off)=.adr q i off:=_root_.id rfl
@[simp] theorem Lg {m q i off} : fQ m (.adr q i off)=.adr q i off:=_root_.id rfl
@[simp] theorem PF {p i0 o ds} : ldc p i0 o (.agx ds)=.agx ds:=_root_.id rfl
@[simp] theorem Li {m ds} : fQ m (.agx ds)=.agx ds:=_root_.id rfl
@[simp] theorem PR {p i0 o ds} : ldc p i0 o (.tpx ds)=.tpx ds:=_root_.id rfl
@[simp] theorem Lt {m ds} : fQ m (.tpx ds)=.tpx ds:=_root_.id rfl
@[simp] theorem PN {p i0 o ds} : ldc p i0 o (.ptx ds)=.ptx ds:=_root_.id rfl
@[simp] theorem Lq {m ds} : fQ m (.ptx ds)=.ptx ds:=_root_.id rfl
@[simp] theorem PI {p i0 o g ds} : ldc p i0 o (.fnx g ds)=.fnx g ds:=_root_.id rfl
@[simp] theorem Ll {m g ds} : fQ m (.fnx g ds)=.fnx g ds:=_root_.id rfl
@[simp] theorem Hh {m} : fQ m .nils=if m=0 then .nils else .own m []:=_root_.id rfl
def slx (b : Bool) (es : List (List D)) : D:=match b,es with
 | true,[]=>.nils
 | _,es=>.sl es
@[simp] theorem bI {es} : slx false es=.sl es:=by cases es <;> rfl
@[simp] theorem Mk {b x es} : slx b (x::es)=.sl (x::es):=by cases b <;> rfl
theorem gX (b : Bool) (es : List (List D)) : slx b es=.sl es \/ (slx b es=.nils /\ es=[]):=by cases b <;> cases es <;> simp [slx]
@[simp] theorem Py {b es} : isV (slx b es)=true:=by cases b <;> cases es <;> rfl
@[simp] theorem Ou {b es} : isK (slx b es)=true:=by cases b <;> cases es <;> rfl
@[simp] theorem O0 {b es} : isP (slx b es)=true:=by cases b <;> cases es <;> rfl
@[simp] theorem Pi {b es} : isS (slx b es)=true:=by cases b <;> cases es <;> rfl
@[simp] theorem JP {b es} : aB (slx b es)=true:=by cases b <;> cases es <;> rfl
@[simp] theorem OK {b es} : isO (slx b es)=false:=by cases b <;> cases es <;> rfl
@[simp] theorem Gw {b es} : dt (slx b es)=false:=by cases b <;> cases es <;> rfl
@[simp] theorem NL {b es} : isB (slx b es)=false:=by cases b <;> cases es <;> rfl
@[simp] theorem BJ {b es} : cellsOf (slx b es)=[slx b es]:=by cases b <;> cases es <;> rfl
@[simp] theorem Fi {b es} : cA (slx b es)=slx b es:=by cases b <;> cases es <;> rfl
@[simp] theorem FI {b es} : aX (slx b es)=slx b es:=by cases b <;> cases es <;> rfl
@[simp] theorem Cm {b es} : aO (slx b es)=[]:=by cases b <;> cases es <;> rfl
@[simp] theorem Ea {b es} : bF (slx b es)=[]:=by cases b <;> cases es <;> rfl
@[simp] theorem Nb {f : Nat -> D} {b es} : dp1 f (slx b es)=slx b es:=by cases b <;> cases es <;> rfl
@[simp] theorem Rv {f : Nat -> D} {b es} : dp f (slx b es)=slx b es:=by cases b <;> cases es <;> rfl
@[simp] theorem F0 {f : Nat -> D} {b es} : aT f (slx b es)=True:=by cases b <;> cases es <;> rfl
@[simp] theorem IV {f : Nat -> D} {b es} : bD f (slx b es)=True:=by cases b <;> cases es <;> rfl
@[simp] theorem PP {p i o b es} : ldc p i o (slx b es)=slx b es:=by cases b <;> cases es <;> rfl
def um (d : D) (K : Nat -> Prop) (_ : Tag K) : Prop:=match d with
 | .sl es=>K es.length
 | .nils=>K 0
 | .ref _ _ n=>K n
 | _=>False
@[simp] theorem PT {es K u} : um (.sl es) K u=K es.length:=_root_.id rfl
@[simp] theorem G2 {K u} : um .nils K u=K 0:=_root_.id rfl
@[simp] theorem KR {p k n K u} : um (.ref p k n) K u=K n:=_root_.id rfl
@[simp] theorem KS {b es K u} : um (slx b es) K u=K es.length:=by cases b <;> cases es <;> rfl
@[simp] theorem Hw {n ds} : lY true n ds=.agg (ds.take n):=_root_.id rfl
@[simp] theorem Eo {n ds} : lY false n ds=ds.headD .any:=_root_.id rfl
@[simp] theorem KX {t} : ac [] t=.any:=rfl
def lk (b : Bool) (d : D) (r : Env) (t : Nat) : D:=match b with
 | true=>d
 | false=>ac r t
@[simp] theorem PU {d r t} : lk true d r t=d:=rfl
@[simp] theorem KU {d r t} : lk false d r t=ac r t:=rfl
@[simp] theorem G3 {s d r t} : ac ((s,d)::r) t=lk (s == t) d r t:=by
 by_cases h : s=t
 ·subst h;simp [ac]
 ·rw [show (s == t)=false by simp [h]];simp [ac,h]
@[simp] theorem GJ {e} : qa [] e=[]:=_root_.id rfl
@[simp] theorem DG {t ts e} : qa (t::ts) e=(t,ac e t)::qa ts e:=_root_.id rfl
@[simp] theorem Cx : mm []=[]:=_root_.id rfl
@[simp] theorem AH {t d r} : mm ((t,d)::r)=bF d++mm r:=_root_.id rfl
@[simp] theorem HR {e ks} : tG e [] ks=ks:=_root_.id rfl
@[simp] theorem E5 {e r rs ks} : tG e (r::rs) ks=tG e rs (if (ks.map (·.1)).contains r then ks else ks++[(r,ac e r)]):=_root_.id rfl
def gH (f : Nat -> D) (d : D) (ns : List Nat) (K : List D -> List Nat -> Prop) (_ : Tag K) : Prop:=gg f d ns K
def gj (f : Nat -> D) (d : D) (K : D -> List Nat -> Prop) (_ : Tag K) : Prop:=eL f d K
def pE (f : Nat -> D) (ds : List D) (K : List D -> List Nat -> Prop) (_ : Tag K) : Prop:=lH f ds K
def vw (b n : Nat) (x : D) (K : D -> List Nat -> Prop) (_ : Tag K) : Prop:=match x with
 | .blk sz es=>es.length=n /\ (∀ e ∈ es,∀ c ∈ e,aB c=true) /\ K (.own sz es) [b]
 | _=>False
@[simp] theorem HH {b n sz es K u} : vw b n (.blk sz es) K u=(es.length=n /\ (∀ e ∈ es,∀ c ∈ e,aB c=true) /\ K (.own sz es) [b]):=_root_.id rfl
theorem eK {f : Nat -> D} {d : D} {K : D -> List Nat -> Prop} {u} (h : aB d=true) : gj f d K u=K d []:=by
 cases d <;> simp [aB] at h <;> simp [gj,eL,aB]
@[simp] theorem EW {f b k n K u} : gj f (.ref (.r b) k n) K u=(k=0 /\ vw b n (f b) K ⟨⟩):=by
 simp only [gj,eL,vw]
 cases f b <;> rfl
theorem fM {f : Nat -> D} {d : D} {K : List D -> List Nat -> Prop} {u} (h : aB d=true) : gH f d [] K u=K [d] []:=by
 cases d <;> simp [aB] at h <;> simp [gH,gg,eL,aB,fR]
@[simp] theorem HK {f ds K u} : gH f (.agg ds) [] K u=((∀ c ∈ ds,aB c=true) /\ K ds []):=by simp [gH,gg,fR]
@[simp] theorem HL {f ds K u} : gH f (.agx ds) [] K u=pE f ds (fun cs bs=>bQ bs=true /\ K cs bs) ⟨⟩:=by simp [gH,pE,gg,fR]
@[simp] theorem HO {f b k n K u} : gH f (.ref (.r b) k n) [] K u=(k=0 /\ vw b n (f b) (fun c bs=>K [c] bs) ⟨⟩):=by
 simp only [gH,gg,eL,vw,fR,if_true,true_or,true_and]
 cases f b <;> rfl
@[simp] theorem EZ {f K u} : pE f [] K u=K [] []:=_root_.id rfl
@[simp] theorem CT {f d ds K u} : pE f (d::ds) K u=gj f d (fun c bs=>pE f ds (fun cs bs'=>K (c::cs) (bs++bs')) ⟨⟩) ⟨⟩:=_root_.id rfl
@[simp] theorem EU {f k n K u} : gj f (.int k n) K u=K (.int k n) []:=eK rfl
@[simp] theorem HM {f k n K u} : gH f (.int k n) [] K u=K [.int k n] []:=fM rfl
@[simp] theorem CQ {f n K u} : gj f (.bool n) K u=K (.bool n) []:=eK rfl
@[simp] theorem E0 {f n K u} : gH f (.bool n) [] K u=K [.bool n] []:=fM rfl
@[simp] theorem EY {f n K u} : gj f (.str n) K u=K (.str n) []:=eK rfl
@[simp] theorem HQ {f n K u} : gH f (.str n) [] K u=K [.str n] []:=fM rfl
@[simp] theorem CR {f  K u} : gj f .nilp K u=K .nilp []:=eK rfl
@[simp] theorem E1 {f  K u} : gH f .nilp [] K u=K [.nilp] []:=fM rfl
@[simp] theorem CS {f  K u} : gj f .nils K u=K .nils []:=eK rfl
@[simp] theorem E4 {f  K u} : gH f .nils [] K u=K [.nils] []:=fM rfl
@[simp] theorem HJ {f n K u} : gj f (.sl n) K u=K (.sl n) []:=eK rfl
@[simp] theorem MF {f n K u} : gH f (.sl n) [] K u=K [.sl n] []:=fM rfl
@[simp] theorem EV {f n K u} : gj f (.ptr n) K u=K (.ptr n) []:=eK rfl
@[simp] theorem HN {f n K u} : gH f (.ptr n) [] K u=K [.ptr n] []:=fM rfl
@[simp] theorem HI {f g n K u} : gj f (.fn g n) K u=K (.fn g n) []:=eK rfl
@[simp] theorem ME {f g n K u} : gH f (.fn g n) [] K u=K [.fn g n] []:=fM rfl
@[simp] theorem EX {f b n K u} : gj f (slx b n) K u=K (slx b n) []:=eK (by simp)
@[simp] theorem HP {f b n K u} : gH f (slx b n) [] K u=K [slx b n] []:=fM (by simp)
def pn (f : Nat -> D) (sz : Nat) (ps : List (Nat × Opd)) (es : List (List D)) (bs : List Nat) (K : List (List D) -> List Nat -> Prop) (_ : Tag K) : Prop:=fH f sz [] ps es bs K
@[simp] theorem Ep {f sz es bs K u} : pn f sz [] es bs K u=K es bs:=_root_.id rfl
@[simp] theorem Cu {f sz i x ps es bs K u} : pn f sz ((i,x)::ps) es bs K u=(i < es.length /\ gH f (vd f x) [] (fun cs bs'=>cs.length=sz /\ pn f sz ps (es.set i cs) (bs++bs') K ⟨⟩) ⟨⟩):=_root_.id rfl
def kK (f : Nat -> D) (mv : Bool) (d : D) (sz : Nat) (K : List (List D) -> List Nat -> Prop) (_ : Tag K) : Prop:=iC f mv d sz K
def Ex (b n sz : Nat) (x : D) (K : List (List D) -> List Nat -> Prop) (_ : Tag K) : Prop:=match x with
 | .blk sz' es=>sz'=sz /\ es.length=n /\ (∀ e ∈ es,∀ c ∈ e,isC c=true) /\ K es [b]
 | _=>False
@[simp] theorem LY {b n sz sz' es K u} : Ex b n sz (.blk sz' es) K u=(sz'=sz /\ es.length=n /\ (∀ e ∈ es,∀ c ∈ e,isC c=true) /\ K es [b]):=_root_.id rfl
def Ey (k n sz : Nat) (x : Option (Nat × List (List D))) (K : List (List D) -> List Nat -> Prop) (_ : Tag K) : Prop:=match x with
 | some (sz',es)=>sz'=sz /\ k + n <= es.length /\ (∀ e ∈ (es.drop k).take n,∀ c ∈ e,aB c=true) /\ K ((es.drop k).take n) []
 | none=>False
@[simp] theorem Hx {k n sz sz' es K u} : Ey k n sz (some (sz',es)) K u=(sz'=sz /\ k + n <= es.length /\ (∀ e ∈ (es.drop k).take n,∀ c ∈ e,aB c=true) /\ K ((es.drop k).take n) []):=_root_.id rfl
@[simp] theorem Ez {f mv sz K u} : kK f mv .nils sz K u=K [] []:=_root_.id rfl
@[simp] theorem Mb {f mv es sz K u} : kK f mv (.sl es) sz K u=((∀ e ∈ es,e.length=sz /\ ∀ c ∈ e,aB c=true) /\ K es []):=_root_.id rfl
@[simp] theorem HB {f mv b es sz K u} : kK f mv (slx b es) sz K u=((∀ e ∈ es,e.length=sz /\ ∀ c ∈ e,aB c=true) /\ K es []):=by
 rcases gX b es with h | ⟨h,rfl⟩ <;> rw [h] <;> simp
@[simp] theorem Ma {f b k n sz K u} : kK f true (.ref (.r b) k n) sz K u=(k=0 /\ Ex b n sz (f b) K ⟨⟩):=by
 simp only [kK,iC,Ex]
 cases f b <;> rfl
@[simp] theorem HA {f p k n sz K u} : kK f false (.ref p k n) sz K u=Ey k n sz (bB f p) K ⟨⟩:=by
 simp only [kK,iC,Ey]
 cases bB f p <;> rfl
def dP (f : Nat -> D) (o : Option Opd) (dflt : Nat) (K : Nat -> Prop) (_ : Tag K) : Prop:=eD f o dflt K
def If (d : D) (K : Nat -> Prop) (_ : Tag K) : Prop:=match d with
 | .int _ n=>0 <= n /\ K n.toNat
 | _=>False
@[simp] theorem Ig {k n K u} : If (.int k n) K u=(0 <= n /\ K n.toNat):=_root_.id rfl
@[simp] theorem Bu {f n K u} : dP f none n K u=K n:=_root_.id rfl
@[simp] theorem Bv {f x n K u} : dP f (some x) n K u=If (vd f x) K ⟨⟩:=_root_.id rfl
def iH (x : Option (List D)) (K : List D -> Prop) (_ : Tag K) : Prop:=match x with
 | some r=>K r
 | none=>False
@[simp] theorem Hz {r K u} : iH (some r) K u=K r:=_root_.id rfl
@[simp] theorem Hy {K u} : iH none K u=False:=_root_.id rfl
theorem jr {x : Option (List D)} {K : List D -> Prop} {u} : iH x K u=∃ r,x=some r /\ K r:=by
 cases x <;> simp [iH]
def kC (x : Option D) (K : Nat -> List (List D) -> Prop) (_ : Tag K) : Prop:=match x with
 | some (.own sz es)=>K sz es
 | _=>False
@[simp] theorem LQ {sz es K u} : kC (some (.own sz es)) K u=K sz es:=_root_.id rfl
theorem kD {x : Option D} {K : Nat -> List (List D) -> Prop} {u} : kC x K u=∃ sz es,x=some (.own sz es) /\ K sz es:=by
 cases x with
 | none=>simp [kC]
 | some d =>
  cases d <;> simp [kC]
  exact ⟨fun h=>⟨_,_,⟨rfl,rfl⟩,h⟩,by rintro ⟨_,_,⟨rfl,rfl⟩,h⟩;exact h⟩
def eJ (x : D) (K : Nat -> List (List D) -> Prop) (_ : Tag K) : Prop:=match x with
 | .blk sz es=>K sz es
 | _=>False
@[simp] theorem Ie {sz es K u} : eJ (.blk sz es) K u=K sz es:=_root_.id rfl
abbrev CC:=Nat -> List D -> D -> List D -> Prop
abbrev KT:=List (Nat × D) -> List (Nat × Bool) -> Prop
section
variable {C : CC} {Q : cx -> Env -> Prop} {e e' : Env} {d : D}
def wN (C : CC) (c : dL) (Q : cx -> Env -> Prop) (_ : Tag (c,Q)) (e : Env) : Prop:=wpN C c Q e
def sY (C : CC) (c : dL) (Q : cx -> Env -> Prop) (_ : Tag (c,Q)) (e : Env) : Prop:=wpN C (.loop c) Q e
def uI (C : CC) (K : Env -> Prop) (ns : List az) (_ : Tag (K,ns)) (e : Env) : Prop:=iu C K ns e
def rV (C : CC) (hs : List Nat) (K : Env -> Prop) (ns : List az) (_ : Tag (K,ns)) (e : Env) (acc : List (List Nat × List Nat)) : Prop:=jC C hs K ns e acc
def Jv (hs : List Nat) (acc : List (List Nat × List Nat)) : Prop:=kj hs acc.reverse=true
theorem ae {hs : List Nat} {acc : List (List Nat × List Nat)} (h : kj hs acc.reverse=true) : Jv hs acc:=h
def BR (C : CC) (K : Env -> Prop) (ns : List az) (e : Env) : KT:=fun ws ks=>iu C K ns (ws++eG ks e)
def Iw (C : CC) (hs : List Nat) (K : Env -> Prop) (ns : List az) (e : Env) (R : List Nat) (acc : List (List Nat × List Nat)) : KT:=fun ws ks=>wOk R ws ks=true /\ jC C hs K ns (ws++eG ks e) ((R,wrK ws ks)::acc)
def doT (C : CC) (K : Env -> Prop) (ns : List az) (_ : Tag (K,ns)) (e : Env) (ws : List (Nat × D)) (ks : List (Nat × Bool)) : Prop:=iu C K ns (ws++eG ks e)
def bL (Q : cx -> Env -> Prop) (_ : Tag Q) (t : cx) (e : Env) : Prop:=Q t e
def fin (res : List (Nat × Option (Nat × Bool))) (d : D) : cx -> Env -> Prop:=fun t e=>(match t with
   | .ext _=>False
   | _=>True) /\ gw res d e
def AO (C : CC) (y : dL) (Q : cx -> Env -> Prop) : cx -> Env -> Prop:=fun t e'=>match t with
  | .nrm=>wpN C y Q e'
  | t=>Q t e'
def oP (id : Nat) (Q : cx -> Env -> Prop) : cx -> Env -> Prop:=fun t e'=>match t with
  | .ext i=>if i=id then Q .nrm e' else Q (.ext i) e'
  | t=>Q t e'
def AE (keep : List Nat) (Q : cx -> Env -> Prop) : Env -> Prop:=fun e'=>Q .nrm (prune keep e')
def kOf (C : CC) (hs : Option (List Nat)) (K : Env -> Prop) (ns : List az) (e : Env) (R : List Nat) (acc : List (List Nat × List Nat)) : KT :=
 match hs with
 | none=>BR C K ns e
 | some hs=>Iw C hs K ns e R acc
def doW (C : CC) (hs : Option (List Nat)) (K : Env -> Prop) (ns : List az) (_ : Tag (hs,K,ns)) (e : Env) (R : List Nat) (acc : List (List Nat × List Nat)) (ws : List (Nat × D)) (ks : List (Nat × Bool)) : Prop:=kOf C hs K ns e R acc ws ks
def opW (C : CC) (hs : Option (List Nat)) (K : Env -> Prop) (ns : List az) (dst : Option Nat) (op : NOp) (_ : Tag (hs,K,ns,dst,op)) (e : Env) (R : List Nat) (acc : List (List Nat × List Nat)) : Prop:=aK C (ac e) dst (kOf C hs K ns e R acc) op
def dW (C : CC) (hs : Option (List Nat)) (K : Env -> Prop) (ns : List az) (dst : Option Nat) (_ : Tag (hs,K,ns)) (e : Env) (R : List Nat) (acc : List (List Nat × List Nat)) (d : D) : Prop:=fB dst (kOf C hs K ns e R acc) d
def pK (C : CC) (g : Nat) (hs : Option (List Nat)) (K : Env -> Prop) (ns : List az) (dst : Option Nat) (_ : Tag (hs,K,ns)) (e : Env) (R : List Nat) (acc : List (List Nat × List Nat)) (pure : Bool) (ds : List D) : Prop :=
 ∃ d,C g ds d [] /\ (isF d=true \/ pure=true) /\ fB dst (kOf C hs K ns e R acc) d
theorem start {prog : Nat -> Option ar} (hC : ao prog C) {g : Nat} {nf : ar} {ds : List D} (hp : prog g=some nf) (hl : ds.length=nf.np) (h : wN C nf.body (fin nf.res d) ⟨⟩ (params 0 ds)) : C g ds d []:=hC.1 g nf ds d hp hl h
def rE (res : List (Nat × Option (Nat × Bool))) (sz : Nat) (es : List (List D)) : cx -> Env -> Prop:=fun t e=>(match t with
   | .ext _=>False
   | _=>True) /\ jU res sz es e
theorem sq {prog : Nat -> Option ar} (hC : ao prog C) {g : Nat} {nf : ar} {ds : List D} {sz : Nat} {es : List (List D)} (hp : prog g=some nf) (hl : ds.length=nf.np) (h : wN C nf.body (rE nf.res sz es) ⟨⟩ (params 0 ds)) : C g ds .any [.own sz es]:=hC.2.2.1 g nf ds sz es hp hl h
def t8 (res : List (Nat × Option (Nat × Bool))) (d : D) : cx -> Env -> Prop:=fun t e=>(match t with
   | .ext _=>False
   | _=>True) /\ jT res d e
def rG (res : List (Nat × Option (Nat × Bool))) (d : D) (sz : Nat) (es' : List (List D)) : cx -> Env -> Prop:=fun t e=>(match t with
   | .ext _=>False
   | _=>True) /\ (0 < es'.length /\ ac e 10015=.blk sz es') /\ gw res d ((10015,.any)::e)
theorem sr {prog : Nat -> Option ar} (hC : ao prog C) {g : Nat} {nf : ar} {ds : List D} {d : D} {sz : Nat} {es es' : List (List D)} (hp : prog g=some nf) (hl : ds.length + 1=nf.np) (h : wN C nf.body (rG nf.res d sz es') ⟨⟩ ((0,.adr (.r 10015) 0 0)::(params 1 ds++[(10015,.blk sz es)]))) : C g (.blk sz es::ds) d [.blk sz es']:=hC.2.2.2.2.1 g nf ds d sz es es' hp hl h
def rF (res : List (Nat × Option (Nat × Bool))) (sz : Nat) (es : List (List D)) : cx -> Env -> Prop:=fun t e=>(match t with
   | .ext _=>False
   | _=>True) /\ jV res sz es e
theorem ym {prog : Nat -> Option ar} (hC : ao prog C) {g : Nat} {nf : ar} {ds : List D} {sz : Nat} {es es' : List (List D)} (hp : prog g=some nf) (hl : ds.length + 1=nf.np) (hpu : ∀ d ∈ ds,isO d=false) (hsz : 0 < sz) (h : wN C nf.body (rF nf.res sz es') ⟨⟩ ((0,.ref (.r 10015) 0 es.length)::(params 1 ds++[(10015,.blk sz es)]))) : C g (.own sz es::ds) .any [.own sz es',.nils,.nils]:=hC.2.2.2.2.2.1 g nf ds sz es es' hp hl hpu hsz h
def t7 (res : List (Nat × Option (Nat × Bool))) (R : D) : cx -> Env -> Prop:=fun t e=>(match t with
   | .ext _=>False
   | _=>True) /\ qI res R e
def C3 (C : CC) (g : Nat) (hs : Option (List Nat)) (K : Env -> Prop) (ns : List az) (t : Nat) (_ : Tag (hs,K,ns)) (e : Env) (R : List Nat) (acc : List (List Nat × List Nat)) (ds : List D) : Prop :=
 ∃ d,okR d=true /\ C g ds d [.nils] /\ doW C hs K ns ⟨⟩ e R acc ((t,lL t d)::cB t d) (ki t d)
def C4 (C : CC) (g : Nat) (hs : Option (List Nat)) (K : Env -> Prop) (ns : List az) (dst : Option Nat) (_ : Tag (hs,K,ns)) (e : Env) (R : List Nat) (acc : List (List Nat × List Nat)) (ds : List D) : Prop :=
 ∃ d,C g ds d [.nilp] /\ fB dst (kOf C hs K ns e R acc) d
def vF (C : CC) (g : Nat) (hs : Option (List Nat)) (K : Env -> Prop) (ns : List az) (t : Nat) (_ : Tag (hs,K,ns)) (e : Env) (R : List Nat) (acc : List (List Nat × List Nat)) (ds : List D) : Prop :=
 ∃ sz es,C g ds .any [.own sz es] /\ kOf C hs K ns e R acc [(t,.ref (.r (rt t 0)) 0 es.length),(rt t 0,.blk sz es)] [(rt t 0,true)]
theorem tM {g : Nat} {hs : Option (List Nat)} {K : Env -> Prop} {ns : List az} {t : Nat} {u : Tag (hs,K,ns)} {R : List Nat} {acc : List (List Nat × List Nat)} {ds : List D} {sz : Nat} {es : List (List D)} (h : C g ds .any [.own sz es]) (hk : doW C hs K ns ⟨⟩ e R acc [(t,.ref (.r (rt t 0)) 0 es.length),(rt t 0,.blk sz es)] [(rt t 0,true)]) : vF C g hs K ns t u e R acc ds:=⟨sz,es,h,hk⟩
def ro (C : CC) (g : Nat) (hs : Option (List Nat)) (K : Env -> Prop) (ns : List az) (dst : Option Nat) (_ : Tag (hs,K,ns)) (e : Env) (R : List Nat) (acc : List (List Nat × List Nat)) (b sz : Nat) (es : List (List D)) (ds : List D) (p : Bool) : Prop:=match dst with
 | none=>∃ es' : List (List D),es'.length=es.length /\ (∀ e ∈ es',e.length=sz /\ ∀ c ∈ e,aB c=true) /\ (p=true \/ ∀ e ∈ es',∀ c ∈ e,bx c=true) /\ C g (.own sz es::ds) .any [.own sz es',.nilp] /\ doW C hs K ns ⟨⟩ e R acc [(b,.blk sz es')] []
 | some t=>(∃ es' : List (List D),es'.length=es.length /\ (∀ e ∈ es',e.length=sz /\ ∀ c ∈ e,aB c=true) /\ (p=true \/ ∀ e ∈ es',∀ c ∈ e,bx c=true) /\ C g (.own sz es::ds) .any [.own sz es',.nilp] /\ doW C hs K ns ⟨⟩ e R acc [(t,.tup []),(b,.blk sz es')] []) \/ (b ≠ rt t 0 /\ 0 < sz /\ ∃ es' : List (List D),(∀ e ∈ es',e.length=sz /\ ∀ c ∈ e,aB c=true) /\ (p=true \/ ∀ e ∈ es',∀ c ∈ e,bx c=true) /\ C g (.own sz es::ds) .any [.own sz es',.nils] /\ doW C hs K ns ⟨⟩ e R acc [(t,.ref (.r (rt t 0)) 0 es'.length),(rt t 0,.blk sz es'),(b,.any)] [(rt t 0,true)])
theorem tN {t : Nat} {g : Nat} {hs : Option (List Nat)} {K : Env -> Prop} {ns : List az} {u : Tag (hs,K,ns)} {R : List Nat} {acc : List (List Nat × List Nat)} {b sz : Nat} {es es' : List (List D)} {ds : List D} {p : Bool} (h : C g (.own sz es::ds) .any [.own sz es',.nilp]) (hp : (p=true \/ ∀ e ∈ es',∀ c ∈ e,bx c=true)) (hl : es'.length=es.length) (hu : (∀ e ∈ es',e.length=sz /\ ∀ c ∈ e,aB c=true)) (hk : doW C hs K ns ⟨⟩ e R acc [(t,.tup []),(b,.blk sz es')] []) : ro C g hs K ns (some t) u e R acc b sz es ds p:=.inl ⟨es',hl,hu,hp,h,hk⟩
def EJ (C : CC) (g : Nat) (hs : Option (List Nat)) (K : Env -> Prop) (ns : List az) (dst : Option Nat) (_ : Tag (hs,K,ns)) (e : Env) (R : List Nat) (acc : List (List Nat × List Nat)) (b n : Nat) (xs : List Opd) (d : D) : Prop:=match d with
 | .blk sz es=>es.length=n /\ (∀ e ∈ es,∀ c ∈ e,aB c=true) /\ (∀ x ∈ xs,bD (fbE (ac e) b) (vd (fbE (ac e) b) x)) /\ ro C g hs K ns dst ⟨⟩ e R acc b sz es (xs.map (dpv (fbE (ac e) b))) (xs.all fun y=>isV (vd (fbE (ac e) b) y))
 | _=>False
def Mp (C : CC) (g : Nat) (hs : Option (List Nat)) (K : Env -> Prop) (ns : List az) (dst : Option Nat) (_ : Tag (hs,K,ns)) (e : Env) (R : List Nat) (acc : List (List Nat × List Nat)) (xs : List Opd) (d : D) : Prop:=match d with
 | .ref (.r b) k n=>k=0 /\ EJ C g hs K ns dst ⟨⟩ e R acc b n xs (ac e b)
 | _=>False
@[simp] theorem RB {f : Nat -> D} {b t : Nat} : fbE f b t=if t=b then .any else f t:=_root_.id rfl
theorem aa {g : Nat} {hs : Option (List Nat)} {K : Env -> Prop} {ns : List az} {dst : Option Nat} {u : Tag (hs,K,ns)} {R : List Nat} {acc : List (List Nat × List Nat)} {p : Bool} {ds : List D} (h : C g ds d []) (hf : isF d=true \/ p=true) (hk : dW C hs K ns dst ⟨⟩ e R acc d) : pK C g hs K ns dst u e R acc p ds:=⟨d,h,hf,hk⟩
def pq (S : Type) (G : S -> Env) (I : S -> Prop) (m : S -> Nat) (s : S) (Q : cx -> Env -> Prop) : cx -> Env -> Prop:=fun t e'=>match t with
    | .nrm=>∃ s',I s' /\ m s' < m s /\ j2 e' (G s')
    | t=>Q t e'
theorem aq {c : dL} {u : Tag (c,Q)} (S : Type) (G : S -> Env) (I : S -> Prop) (m : S -> Nat) (s0 : S) (h0 : I s0) (hw : j2 e (G s0))
  (h : ∀ s,I s -> wN C c (pq S G I m s Q) ⟨⟩ (G s)) : sY C c Q u e:=⟨S,G,I,m,s0,h0,hw,h⟩
@[simp] theorem QN {u} : wN C .skip Q u e=bL Q ⟨⟩ .nrm e:=_root_.id rfl
@[simp] theorem SJ {hs keep ops u} : wN C (.reg false hs keep ops) Q u e=uI C (AE keep Q) ops ⟨⟩ e:=_root_.id rfl
@[simp] theorem QJ {hs keep ops u} : wN C (.reg true hs keep ops) Q u e=rV C hs (AE keep Q) ops ⟨⟩ e []:=_root_.id rfl
@[simp] theorem SL {x y u} : wN C (.seq x y) Q u e=wN C x (AO C y Q) ⟨⟩ e:=_root_.id rfl
def brB (b : Bool) (X Y : Prop) (_ : Tag (X,Y)) : Prop:=(b=true -> X) /\ (b=false -> Y)
theorem ab {b : Bool} {X Y : Prop} {u} (h1 : b=true -> X) (h2 : b=false -> Y) : brB b X Y u:=⟨h1,h2⟩
@[simp] theorem Io {X Y : Prop} {u} : brB true X Y u=X:=by simp [brB]
@[simp] theorem Fv {X Y : Prop} {u} : brB false X Y u=Y:=by simp [brB]
def cdW (C : CC) (x y : dL) (Q : cx -> Env -> Prop) (_ : Tag (x,y,Q)) (e : Env) (d : D) : Prop:=match d with
 | .bool b=>brB b (wN C x Q ⟨⟩ e) (wN C y Q ⟨⟩ e) ⟨⟩
 | .bb=>wN C x Q ⟨⟩ e /\ wN C y Q ⟨⟩ e
 | _=>False
@[simp] theorem QV {x y u} : cdW C x y Q u e .bb=(wN C x Q ⟨⟩ e /\ wN C y Q ⟨⟩ e):=_root_.id rfl
@[simp] theorem Iq {x y u b} : cdW C x y Q u e (.bool b)=brB b (wN C x Q ⟨⟩ e) (wN C y Q ⟨⟩ e) ⟨⟩:=_root_.id rfl
@[simp] theorem QI {c x y u} : wN C (.cond c x y) Q u e=cdW C x y Q ⟨⟩ e (vd (ac e) c):=_root_.id rfl
@[simp] theorem My {id c u} : wN C (.block id c) Q u e=wN C c (oP id Q) ⟨⟩ e:=_root_.id rfl
@[simp] theorem QL {c u} : wN C (.loop c) Q u e=sY C c Q ⟨⟩ e:=_root_.id rfl
@[simp] theorem QK {id u} : wN C (.exit id) Q u e=bL Q ⟨⟩ (.ext id) e:=_root_.id rfl
@[simp] theorem SK {u} : wN C .ret Q u e=bL Q ⟨⟩ .ret e:=_root_.id rfl
@[simp] theorem zH {y u} : bL (AO C y Q) u .nrm e=wN C y Q ⟨⟩ e:=_root_.id rfl
@[simp] theorem zG {y u i} : bL (AO C y Q) u (.ext i) e=bL Q ⟨⟩ (.ext i) e:=_root_.id rfl
@[simp] theorem zJ {y u} : bL (AO C y Q) u .ret e=bL Q ⟨⟩ .ret e:=_root_.id rfl
@[simp] theorem vX {id u} : bL (oP id Q) u .nrm e=bL Q ⟨⟩ .nrm e:=_root_.id rfl
@[simp] theorem vW {id u i} : bL (oP id Q) u (.ext i) e=if i=id then bL Q ⟨⟩ .nrm e else bL Q ⟨⟩ (.ext i) e:=_root_.id rfl
@[simp] theorem vY {id u} : bL (oP id Q) u .ret e=bL Q ⟨⟩ .ret e:=_root_.id rfl
@[simp] theorem zu {r u} : bL (fin r d) u .nrm e=gw r d e:=by simp [bL,fin]
@[simp] theorem zw {r u} : bL (fin r d) u .ret e=gw r d e:=by simp [bL,fin]
@[simp] theorem yF {r d} {u : Tag (t8 r d)} : bL (t8 r d) u .nrm e=jT r d e:=by simp [bL,t8]
@[simp] theorem yG {r d} {u : Tag (t8 r d)} : bL (t8 r d) u .ret e=jT r d e:=by simp [bL,t8]
@[simp] theorem yD {r sz es} {u : Tag (rE r sz es)} : bL (rE r sz es) u .nrm e=jU r sz es e:=by simp [bL,rE]
@[simp] theorem yE {r sz es} {u : Tag (rE r sz es)} : bL (rE r sz es) u .ret e=jU r sz es e:=by simp [bL,rE]
@[simp] theorem yJ {r d sz es} {u : Tag (rG r d sz es)} : bL (rG r d sz es) u .nrm e=((0 < es.length /\ ac e 10015=.blk sz es) /\ gw r d ((10015,.any)::e)):=by simp [bL,rG]
@[simp] theorem yK {r d sz es} {u : Tag (rG r d sz es)} : bL (rG r d sz es) u .ret e=((0 < es.length /\ ac e 10015=.blk sz es) /\ gw r d ((10015,.any)::e)):=by simp [bL,rG]
@[simp] theorem yH {r sz es} {u : Tag (rF r sz es)} : bL (rF r sz es) u .nrm e=jV r sz es e:=by simp [bL,rF]
@[simp] theorem yI {r sz es} {u : Tag (rF r sz es)} : bL (rF r sz es) u .ret e=jV r sz es e:=by simp [bL,rF]
@[simp] theorem yB {r d} {u : Tag (t7 r d)} : bL (t7 r d) u .nrm e=qI r d e:=by simp [bL,t7]
@[simp] theorem yC {r d} {u : Tag (t7 r d)} : bL (t7 r d) u .ret e=qI r d e:=by simp [bL,t7]
@[simp] theorem v6 {S G I m s u} : bL (pq S G I m s Q) u .nrm e=∃ s',I s' /\ m s' < m s /\ j2 e (G s'):=_root_.id rfl
@[simp] theorem vZ {S G I m s u i} : bL (pq S G I m s Q) u (.ext i) e=bL Q ⟨⟩ (.ext i) e:=_root_.id rfl
@[simp] theorem v7 {S G I m s u} : bL (pq S G I m s Q) u .ret e=bL Q ⟨⟩ .ret e:=_root_.id rfl
end
section
variable {C : CC} {Q : cx -> Env -> Prop} {e : Env} {K : Env -> Prop} {dst : Option Nat} {d : D} {hs : Option (List Nat)} {ns : List az} {R : List Nat} {acc : List (List Nat × List Nat)} {u : Tag (hs,K,ns)}
@[simp] theorem LM {keep u} : uI C (AE keep Q) [] u e=bL Q ⟨⟩ .nrm (prune keep e):=_root_.id rfl
@[simp] theorem LK {h keep u} : rV C h (AE keep Q) [] u e acc=(Jv h acc /\ bL Q ⟨⟩ .nrm (prune keep e)):=_root_.id rfl
@[simp] theorem Hu {dst op ns u} : uI C K (⟨dst,op,none⟩::ns) u e=opW C none K ns dst op ⟨⟩ e [] []:=_root_.id rfl
@[simp] theorem Hs {h dst op ns u} : rV C h K (⟨dst,op,none⟩::ns) u e acc=(chk (ac e) ⟨dst,op,none⟩=true /\ opW C (some h) K ns dst op ⟨⟩ e (iN (ac e) ⟨dst,op,none⟩) acc):=_root_.id rfl
def nj (C : CC) (h : List Nat) (K : Env -> Prop) (ns : List az) (_ : Tag (h,K,ns)) (e : Env) (dst : Option Nat) (R : List Nat) (acc : List (List Nat × List Nat)) : Prop:=gW e dst fun e'=>jC C h K ns e' ((R,tX dst)::acc)
@[simp] theorem EB {h t ns u} : nj C h K ns u e (some t) R acc=rV C h K ns ⟨⟩ ((t,.tup [])::e) ((R,[2 * t])::acc):=_root_.id rfl
@[simp] theorem EA {h ns u} : nj C h K ns u e none R acc=rV C h K ns ⟨⟩ e ((R,[])::acc):=_root_.id rfl
def gdT (C : CC) (K : Env -> Prop) (ns : List az) (dst : Option Nat) (op : NOp) (s : Nat) (want : Bool) (_ : Tag (K,ns)) (e : Env) (d : D) : Prop:=match d with
 | .bool b=>(b=want -> opW C none K ns dst op ⟨⟩ ((s,.bool want)::e) [] []) /\ (b=!want -> dW C none K ns dst ⟨⟩ ((s,.bool !want)::e) [] [] (.tup []))
 | .tup []=>dW C none K ns dst ⟨⟩ e [] [] (.tup [])
 | _=>False
@[simp] theorem Jd {op s b u} : gdT C K ns dst op s true u e (.bool b)=brB b (opW C none K ns dst op ⟨⟩ ((s,.bool true)::e) [] []) (dW C none K ns dst ⟨⟩ ((s,.bool false)::e) [] [] (.tup [])) ⟨⟩:=_root_.id rfl
@[simp] theorem Gc {op s b u} : gdT C K ns dst op s false u e (.bool b)=brB b (dW C none K ns dst ⟨⟩ ((s,.bool true)::e) [] [] (.tup [])) (opW C none K ns dst op ⟨⟩ ((s,.bool false)::e) [] []) ⟨⟩:=by
 simp only [gdT,brB,Bool.not_false];exact propext ⟨fun h=>⟨h.2,h.1⟩,fun h=>⟨h.2,h.1⟩⟩
@[simp] theorem Jc {op s want u} : gdT C K ns dst op s want u e (.tup [])=dW C none K ns dst ⟨⟩ e [] [] (.tup []):=_root_.id rfl
@[simp] theorem Hv {dst op s want ns u} : uI C K (⟨dst,op,some (s,want)⟩::ns) u e=gdT C K ns dst op s want ⟨⟩ e (ac e s):=by
 simp only [uI,iu,opW,qY,gW,gdT,dW,fB,kOf,BR,eG]
 cases ac e s <;> cases dst <;> (first | rfl | (rename_i x _ ;cases x <;> rfl) | (rename_i x;cases x <;> rfl))
def gdD (C : CC) (h : List Nat) (K : Env -> Prop) (ns : List az) (dst : Option Nat) (op : NOp) (want : Bool) (_ : Tag (K,ns)) (e : Env) (R : List Nat) (acc : List (List Nat × List Nat)) (d : D) : Prop:=match d with
 | .bool b=>(b=want -> opW C (some h) K ns dst op ⟨⟩ e R acc) /\ (b=!want -> nj C h K ns ⟨⟩ e dst R acc)
 | .tup []=>nj C h K ns ⟨⟩ e dst R acc
 | _=>False
@[simp] theorem Jb {h op b u} : gdD C h K ns dst op true u e R acc (.bool b)=brB b (opW C (some h) K ns dst op ⟨⟩ e R acc) (nj C h K ns ⟨⟩ e dst R acc) ⟨⟩:=_root_.id rfl
@[simp] theorem Gb {h op b u} : gdD C h K ns dst op false u e R acc (.bool b)=brB b (nj C h K ns ⟨⟩ e dst R acc) (opW C (some h) K ns dst op ⟨⟩ e R acc) ⟨⟩:=by
 simp only [gdD,brB,Bool.not_false];exact propext ⟨fun h=>⟨h.2,h.1⟩,fun h=>⟨h.2,h.1⟩⟩
@[simp] theorem Ja {h op want u} : gdD C h K ns dst op want u e R acc (.tup [])=nj C h K ns ⟨⟩ e dst R acc:=_root_.id rfl
@[simp] theorem Ht {h dst op s want ns u} : rV C h K (⟨dst,op,some (s,want)⟩::ns) u e acc=(chk (ac e) ⟨dst,op,some (s,want)⟩=true /\ gdD C h K ns dst op want ⟨⟩ e (iN (ac e) ⟨dst,op,some (s,want)⟩) acc (ac e s)):=_root_.id rfl
@[simp] theorem IB {K ns u ws ks} : doW C none K ns u e R acc ws ks=uI C K ns ⟨⟩ (ws++eG ks e):=_root_.id rfl
@[simp] theorem IA {h K ns u ws ks} : doW C (some h) K ns u e R acc ws ks=(wOk R ws ks=true /\ rV C h K ns ⟨⟩ (ws++eG ks e) ((R,wrK ws ks)::acc)):=_root_.id rfl
@[simp] theorem MS {t} : dW C hs K ns (some t) u e R acc d=doW C hs K ns ⟨⟩ e R acc [(t,d)] []:=_root_.id rfl
@[simp] theorem MR : dW C hs K ns none u e R acc d=doW C hs K ns ⟨⟩ e R acc [] []:=_root_.id rfl
def bf (ks : List (Nat × Bool)) (d : D) : D:=if aL ks d then .any else d
theorem cP (ks : List (Nat × Bool)) (d : D) : bf ks d=bif aL ks d then .any else d:=by
 unfold bf;cases aL ks d <;> rfl
@[simp] theorem G1 : eG [] e=e:=_root_.id rfl
@[simp] theorem G0 {k ks} : eG (k::ks) []=[]:=_root_.id rfl
@[simp] theorem DM {k ks s d} : eG (k::ks) ((s,d)::e)=(s,bf (k::ks) d)::eG (k::ks) e:=_root_.id rfl
@[simp] theorem GN {ks} : bf ks .any=.any:=by simp [bf]
@[simp] theorem GQ {ks k n} : bf ks (.int k n)=.int k n:=by simp [bf,aL,dT,aQ]
@[simp] theorem DJ {ks n} : bf ks (.bool n)=.bool n:=by simp [bf,aL,dT,aQ]
@[simp] theorem GX {ks n} : bf ks (.str n)=.str n:=by simp [bf,aL,dT,aQ]
@[simp] theorem KI {ks} : bf ks .bb=.bb:=by simp [bf,aL,dT,aQ]
@[simp] theorem DK {ks} : bf ks .nilp=.nilp:=by simp [bf,aL,dT,aQ]
@[simp] theorem DL {ks} : bf ks .nils=.nils:=by simp [bf,aL,dT,aQ]
@[simp] theorem GL {ks n} : bf ks (.agg n)=.agg n:=by simp [bf,aL,dT,aQ]
@[simp] theorem GZ {ks n} : bf ks (.tup n)=.tup n:=by simp [bf,aL,dT,aQ]
@[simp] theorem KM {ks n} : bf ks (.sl n)=.sl n:=by simp [bf,aL,dT,aQ]
@[simp] theorem GT {ks n} : bf ks (.ptr n)=.ptr n:=by simp [bf,aL,dT,aQ]
@[simp] theorem KJ {ks g n} : bf ks (.fn g n)=.fn g n:=by simp [bf,aL,dT,aQ]
@[simp] theorem GO {ks g n} : bf ks (.blk g n)=.blk g n:=by simp [bf,aL,dT,aQ]
@[simp] theorem KL {ks kt et xs vs} : bf ks (.mp kt et xs vs)=.mp kt et xs vs:=by simp [bf,aL,dT,aQ]
@[simp] theorem GV {b all ks p k n} : bf ((b,all)::ks) (.ref p k n)=if bY b all p then .any else bf ks (.ref p k n):=by
 have h : bf ((b,all)::ks) (.ref p k n)=bif (bY b all p || aL ks (.ref p k n)) then .any else .ref p k n:=cP ..
 rw [h,cP]
 cases bY b all p <;> rfl
@[simp] theorem GK {b all ks p k n} : bf ((b,all)::ks) (.adr p k n)=if bY b all p then .any else bf ks (.adr p k n):=by
 have h : bf ((b,all)::ks) (.adr p k n)=bif (bY b all p || aL ks (.adr p k n)) then .any else .adr p k n:=cP ..
 rw [h,cP]
 cases bY b all p <;> rfl
@[simp] theorem GM {b all ks n} : bf ((b,all)::ks) (.agx n)=if n.any (aQ b all) then .any else bf ks (.agx n):=by
 have h : bf ((b,all)::ks) (.agx n)=bif (n.any (aQ b all) || aL ks (.agx n)) then .any else .agx n:=cP ..
 rw [h,cP]
 cases n.any (aQ b all) <;> rfl
@[simp] theorem GP {b all ks g n} : bf ((b,all)::ks) (.fnx g n)=if n.any (aQ b all) then .any else bf ks (.fnx g n):=by
 have h : bf ((b,all)::ks) (.fnx g n)=bif (n.any (aQ b all) || aL ks (.fnx g n)) then .any else .fnx g n:=cP ..
 rw [h,cP]
 cases n.any (aQ b all) <;> rfl
@[simp] theorem GS {d} : bf [] d=d:=by simp [bf,aL]
@[simp] theorem GW {ks b es} : bf ks (slx b es)=slx b es:=by cases b <;> cases es <;> simp [slx]
def jy (C : CC) (hs : Option (List Nat)) (K : Env -> Prop) (ns : List az) (dst : Option Nat) (_ : Tag (hs,K,ns)) (e : Env) (R : List Nat) (acc : List (List Nat × List Nat)) (sz : Nat) (es : List (List D)) (i : Nat) : Prop :=
 ∃ c,es[i]? = some c /\ c.length=sz /\ fB dst (kOf C hs K ns e R acc) (.ptr c)
@[simp] theorem Js {α : Type} [Inhabited α] {sz : Nat} {xs : List α} {f : α -> List D} {i : Nat} : jy C hs K ns dst u e R acc sz (xs.map f) i=(i < xs.length /\ (f xs[i]!).length=sz /\ dW C hs K ns dst ⟨⟩ e R acc (.ptr (f xs[i]!))):=by
 apply propext
 unfold jy dW
 constructor
 ·rintro ⟨c,h,h1,h2⟩
  rw [List.getElem?_map,Option.map_eq_some_iff] at h
  obtain ⟨x,hx,rfl⟩:=h
  obtain ⟨hi,rfl⟩:=List.getElem?_eq_some_iff.1 hx
  rw [getElem!_pos xs i hi]
  exact ⟨hi,h1,h2⟩
 ·rintro ⟨hi,h1,h2⟩
  rw [getElem!_pos xs i hi] at h1 h2
  exact ⟨_,by rw [List.getElem?_map,List.getElem?_eq_getElem hi];rfl,h1,h2⟩
def C2 (C : CC) (hs : Option (List Nat)) (K : Env -> Prop) (ns : List az) (dst : Option Nat) (_ : Tag (hs,K,ns)) (e : Env) (R : List Nat) (acc : List (List Nat × List Nat)) (s : List UInt8) (i : Nat) : Prop :=
 ∃ b,s[i]? = some b /\ fB dst (kOf C hs K ns e R acc) (.int .u8 b.toNat)
@[simp] theorem MO {s : List UInt8} {i : Nat} : C2 C hs K ns dst u e R acc s i=(i < s.length /\ dW C hs K ns dst ⟨⟩ e R acc (.int .u8 (s[i]!).toNat)):=by
 apply propext
 unfold C2 dW
 constructor
 ·rintro ⟨b,h,h2⟩
  obtain ⟨hi,rfl⟩:=List.getElem?_eq_some_iff.1 h
  rw [getElem!_pos s i hi]
  exact ⟨hi,h2⟩
 ·rintro ⟨hi,h2⟩
  rw [getElem!_pos s i hi] at h2
  exact ⟨_,List.getElem?_eq_getElem hi,h2⟩
def lB (C : CC) (hs : Option (List Nat)) (K : Env -> Prop) (ns : List az) (dst : Option Nat) (_ : Tag (hs,K,ns)) (e : Env) (R : List Nat) (acc : List (List Nat × List Nat)) (n : Nat) (ag : Bool) (p : Pa) (es : List (List D)) (i off : Nat) : Prop :=
 ∃ r,es[i]? = some r /\ off + n <= r.length /\ match ag with
    | true=>(((r.drop off).take n).all isV=true -> fB dst (kOf C hs K ns e R acc) (.agg ((r.drop off).take n))) /\
      (((r.drop off).take n).all isV=false -> fB dst (kOf C hs K ns e R acc) (.agx (((r.drop off).take n).mapIdx fun j c=>ldc p i (off + j) c)))
    | false=>fB dst (kOf C hs K ns e R acc) (ldc p i off ((r.drop off).headD .any))
theorem pr {n : Nat} {ag : Bool} {p : Pa} {es : List (List D)} {i off : Nat} {r : List D} (hr : es[i]? = some r) (hl : off + n <= r.length) (hk : match ag with
    | true=>(((r.drop off).take n).all isV=true -> dW C hs K ns dst ⟨⟩ e R acc (.agg ((r.drop off).take n))) /\
      (((r.drop off).take n).all isV=false -> dW C hs K ns dst ⟨⟩ e R acc (.agx (((r.drop off).take n).mapIdx fun j c=>ldc p i (off + j) c)))
    | false=>dW C hs K ns dst ⟨⟩ e R acc (ldc p i off ((r.drop off).headD .any))) : lB C hs K ns dst u e R acc n ag p es i off:=by
 refine ⟨r,hr,hl,?_⟩
 cases ag <;> exact hk
@[simp] theorem L9 {n : Nat} {ag : Bool} {p : Pa} {r : List D} {off : Nat} : lB C hs K ns dst u e R acc n ag p [r] 0 off=(off + n <= r.length /\ match ag with
    | true=>(((r.drop off).take n).all isV=true -> dW C hs K ns dst ⟨⟩ e R acc (.agg ((r.drop off).take n))) /\
      (((r.drop off).take n).all isV=false -> dW C hs K ns dst ⟨⟩ e R acc (.agx (((r.drop off).take n).mapIdx fun j c=>ldc p 0 (off + j) c)))
    | false=>dW C hs K ns dst ⟨⟩ e R acc (ldc p 0 off ((r.drop off).headD .any))):=by
 apply propext
 constructor
 ·rintro ⟨r',h1,h2,h3⟩
  simp at h1;subst h1
  refine ⟨h2,?_⟩
  cases ag <;> exact h3
 ·rintro ⟨h2,h3⟩
  refine ⟨r,rfl,h2,?_⟩
  cases ag <;> exact h3
end
section
variable {C : CC} {Q : cx -> Env -> Prop} {e : Env} {K : Env -> Prop} {dst : Option Nat} {hs : Option (List Nat)} {ns : List az} {R : List Nat} {acc : List (List Nat × List Nat)} {u : Tag (hs,K,ns)}
@[simp] theorem Qt {x v1} : opW C hs K ns dst (.mov x) v1 e R acc=(isS (vd (ac e) x)=true /\ dW C hs K ns dst ⟨⟩ e R acc (vd (ac e) x)):=_root_.id rfl
@[simp] theorem Qw {x v1} : opW C hs K ns dst (.nck x) v1 e R acc=(match (generalizing:=false) vd (ac e) x with
  | .ptr ds=>dW C hs K ns dst ⟨⟩ e R acc (.ptr ds)
  | .adr p i off=>dW C hs K ns dst ⟨⟩ e R acc (.adr p i off)
  | .ptx ds=>dW C hs K ns dst ⟨⟩ e R acc (.ptx ds)
  | _=>False):=_root_.id rfl
@[simp] theorem LJ {c a b v1} : opW C hs K ns dst (.pick c a b) v1 e R acc=(match (generalizing:=false) vd (ac e) c with
  | .bool v=>(v=true -> isS (vd (ac e) a)=true /\ dW C hs K ns dst ⟨⟩ e R acc (vd (ac e) a)) /\ (v=false -> isS (vd (ac e) b)=true /\ dW C hs K ns dst ⟨⟩ e R acc (vd (ac e) b))
  | _=>False):=_root_.id rfl
@[simp] theorem Qg {op x y v1} : opW C hs K ns dst (.bin op x y) v1 e R acc=(match (generalizing:=false) vd (ac e) x,vd (ac e) y with
  | .int k a,.int k' b=>match (generalizing:=false) op with
   | .add=>k=k' /\ dW C hs K ns dst ⟨⟩ e R acc (.int k (k.wrap (a + b)))
   | .sub=>k=k' /\ dW C hs K ns dst ⟨⟩ e R acc (.int k (k.wrap (a - b)))
   | .mul=>k=k' /\ dW C hs K ns dst ⟨⟩ e R acc (.int k (k.wrap (a * b)))
   | .quo=>k=k' /\ b ≠ 0 /\ dW C hs K ns dst ⟨⟩ e R acc (.int k (k.wrap (a.tdiv b)))
   | .rem=>k=k' /\ b ≠ 0 /\ dW C hs K ns dst ⟨⟩ e R acc (.int k (a.tmod b))
   | .and=>k=k' /\ dW C hs K ns dst ⟨⟩ e R acc (.int k (bits .and k a b))
   | .or=>k=k' /\ dW C hs K ns dst ⟨⟩ e R acc (.int k (bits .or k a b))
   | .xor=>k=k' /\ dW C hs K ns dst ⟨⟩ e R acc (.int k (bits .xor k a b))
   | .andNot=>k=k' /\ dW C hs K ns dst ⟨⟩ e R acc (.int k (bits .andNot k a b))
   | .shl=>0 <= b /\ dW C hs K ns dst ⟨⟩ e R acc (.int k (k.wrap (a * 2 ^ (min b.toNat k.bits))))
   | .shr=>0 <= b /\ dW C hs K ns dst ⟨⟩ e R acc (.int k (a.fdiv (2 ^ (min b.toNat k.bits))))
   | .eql=>k=k' /\ dW C hs K ns dst ⟨⟩ e R acc (.bool (decide (a=b)))
   | .neq=>k=k' /\ dW C hs K ns dst ⟨⟩ e R acc (.bool (!decide (a=b)))
   | .lss=>k=k' /\ dW C hs K ns dst ⟨⟩ e R acc (.bool (decide (a < b)))
   | .leq=>k=k' /\ dW C hs K ns dst ⟨⟩ e R acc (.bool (decide (a <= b)))
   | .gtr=>k=k' /\ dW C hs K ns dst ⟨⟩ e R acc (.bool (decide (b < a)))
   | .geq=>k=k' /\ dW C hs K ns dst ⟨⟩ e R acc (.bool (decide (b <= a)))
  | .str a,.str b=>match (generalizing:=false) op with
   | .eql=>dW C hs K ns dst ⟨⟩ e R acc (.bool (decide (a=b)))
   | .neq=>dW C hs K ns dst ⟨⟩ e R acc (.bool (!decide (a=b)))
   | .add=>((a++b).length : Int) <= 9223372036854775807 /\ dW C hs K ns dst ⟨⟩ e R acc (.str (a++b))
   | .lss=>dW C hs K ns dst ⟨⟩ e R acc (.bool (Op.bytesLess a b))
   | .leq=>dW C hs K ns dst ⟨⟩ e R acc (.bool (Op.bytesLess a b || a == b))
   | .gtr=>dW C hs K ns dst ⟨⟩ e R acc (.bool !(Op.bytesLess a b || a == b))
   | .geq=>dW C hs K ns dst ⟨⟩ e R acc (.bool !(Op.bytesLess a b))
   | _=>False
  | _,_=>False):=_root_.id rfl
@[simp] theorem Ss {op x v1} : opW C hs K ns dst (.un op x) v1 e R acc=(match (generalizing:=false) vd (ac e) x with
  | .bool b=>match (generalizing:=false) op with
   | .not=>dW C hs K ns dst ⟨⟩ e R acc (.bool (!b))
   | _=>False
  | .int k n=>match (generalizing:=false) op with
   | .neg=>dW C hs K ns dst ⟨⟩ e R acc (.int k (k.wrap (0 - n)))
   | _=>False
  | _=>False):=_root_.id rfl
@[simp] theorem LC {k x v1} : opW C hs K ns dst (.conv k x) v1 e R acc=(match (generalizing:=false) vd (ac e) x with
  | .int _ n=>dW C hs K ns dst ⟨⟩ e R acc (.int k (k.wrap n))
  | _=>False):=_root_.id rfl
@[simp] theorem Qf {neg ks x y v1} : opW C hs K ns dst (.beq neg ks x y) v1 e R acc=(match (generalizing:=false) vd (ac e) x,vd (ac e) y with
  | .bool a,.bool b=>ks=[] /\ dW C hs K ns dst ⟨⟩ e R acc (.bool ((a == b) != neg))
  | .agg a,.agg b=>ks ≠ [] /\ match (generalizing:=false) cG ks a b with
   | some r=>dW C hs K ns dst ⟨⟩ e R acc (.bool (r != neg))
   | none=>False
  | .nils,.nils=>ks=[9] /\ dW C hs K ns dst ⟨⟩ e R acc (.bool (!neg))
  | .sl es,.nils=>ks=[9] /\ (0 < es.length -> dW C hs K ns dst ⟨⟩ e R acc (.bool neg)) /\ (es.length=0 -> dW C hs K ns dst ⟨⟩ e R acc .bb)
  | _,_=>False):=_root_.id rfl
@[simp] theorem Qo {off n ag x v1} : opW C hs K ns dst (.fld off n ag x) v1 e R acc=(match (generalizing:=false) vd (ac e) x with
  | .agg ds=>off + n <= ds.length /\ dW C hs K ns dst ⟨⟩ e R acc (lY ag n (ds.drop off))
  | .agx ds=>off + n <= ds.length /\ match (generalizing:=false) ag with
   | true=>dW C hs K ns dst ⟨⟩ e R acc (.agx ((ds.drop off).take n))
   | false=>dW C hs K ns dst ⟨⟩ e R acc ((ds.drop off).headD .any)
  | _=>False):=_root_.id rfl
@[simp] theorem LF {len sz ag x i v1} : opW C hs K ns dst (.idxA len sz ag x i) v1 e R acc=(match (generalizing:=false) vd (ac e) x,vd (ac e) i with
  | .agg ds,.int _ j=>0 <= j /\ j < len /\ j.toNat * sz + sz <= ds.length /\ dW C hs K ns dst ⟨⟩ e R acc (lY ag sz (ds.drop (j.toNat * sz)))
  | .agx ds,.int _ j=>0 <= j /\ j < len /\ j.toNat * sz + sz <= ds.length /\ match (generalizing:=false) ag with
   | true=>dW C hs K ns dst ⟨⟩ e R acc (.agx ((ds.drop (j.toNat * sz)).take sz))
   | false=>dW C hs K ns dst ⟨⟩ e R acc ((ds.drop (j.toNat * sz)).headD .any)
  | _,_=>False):=_root_.id rfl
@[simp] theorem Qx {len sz x v1} : opW C hs K ns dst (.slA len sz x) v1 e R acc=(match (generalizing:=false) vd (ac e) x with
  | .ptr ds=>0 < len /\ 0 < sz /\ len * sz <= ds.length /\ dW C hs K ns dst ⟨⟩ e R acc (.sl (cr sz len ds))
  | _=>False):=_root_.id rfl
@[simp] theorem Ql {x v1} : opW C hs K ns dst (.cvS x) v1 e R acc=(match (generalizing:=false) vd (ac e) x with
  | .sl es=>0 < es.length /\ (∀ r ∈ es,∃ n : Nat,r=[.int .u8 n] /\ n < 256) /\ dW C hs K ns dst ⟨⟩ e R acc (.str (es.map gy))
  | _=>False):=_root_.id rfl
@[simp] theorem LG {x i v1} : opW C hs K ns dst (.idxS x i) v1 e R acc=(match (generalizing:=false) vd (ac e) x,vd (ac e) i with
  | .str s,.int _ j=>0 <= j /\ C2 C hs K ns dst ⟨⟩ e R acc s j.toNat
  | _,_=>False):=_root_.id rfl
@[simp] theorem Qm {i x v1} : opW C hs K ns dst (.ext i x) v1 e R acc=(match (generalizing:=false) vd (ac e) x with
  | .tup ds=>∃ d,ds[i]? = some d /\ dW C hs K ns dst ⟨⟩ e R acc d
  | .tpx ds=>∃ d,ds[i]? = some d /\ dW C hs K ns dst ⟨⟩ e R acc d
  | _=>False):=_root_.id rfl
@[simp] theorem Qn {off x v1} : opW C hs K ns dst (.fad off x) v1 e R acc=(match (generalizing:=false) vd (ac e) x with
  | .adr p i o=>dW C hs K ns dst ⟨⟩ e R acc (.adr p i (o + off))
  | .ptr ds=>dW C hs K ns dst ⟨⟩ e R acc (.ptr (ds.drop off))
  | .ptx ds=>dW C hs K ns dst ⟨⟩ e R acc (.ptx (ds.drop off))
  | _=>False):=_root_.id rfl
@[simp] theorem LD {len sz x i v1} : opW C hs K ns dst (.iadA len sz x i) v1 e R acc=(match (generalizing:=false) vd (ac e) x,vd (ac e) i with
  | .adr p r o,.int _ j=>0 <= j /\ j < len /\ dW C hs K ns dst ⟨⟩ e R acc (.adr p r (o + j.toNat * sz))
  | .ptr ds,.int _ j=>0 <= j /\ j < len /\ dW C hs K ns dst ⟨⟩ e R acc (.ptr (ds.drop (j.toNat * sz)))
  | _,_=>False):=_root_.id rfl
@[simp] theorem Sm {n ag x v1} : opW C hs K ns dst (.ld n ag x) v1 e R acc=(match (generalizing:=false) vd (ac e) x with
  | .adr p i off=>match (generalizing:=false) bB (ac e) p with
   | some (_,es)=>lB C hs K ns dst ⟨⟩ e R acc n ag p es i off
   | none=>False
  | .ptr ds=>n <= ds.length /\ dW C hs K ns dst ⟨⟩ e R acc (lY ag n ds)
  | .ptx ds=>n <= ds.length /\ match (generalizing:=false) ag with
   | true=>((ds.take n).all isV=true -> dW C hs K ns dst ⟨⟩ e R acc (.agg (ds.take n))) /\ ((ds.take n).all isV=false -> dW C hs K ns dst ⟨⟩ e R acc (.agx (ds.take n)))
   | false=>0 < n /\ dW C hs K ns dst ⟨⟩ e R acc (ds.headD .any)
  | _=>False):=_root_.id rfl
@[simp] theorem Qh {zs parts v1} : opW C hs K ns dst (.bld zs parts) v1 e R acc=((∀ p ∈ parts,isS (vd (ac e) p.2.2)=true /\ p.1 + p.2.1 <= zs.length /\ match (generalizing:=false) vd (ac e) p.2.2 with
    | .agg ds=>ds.length=p.2.1
    | .agx ds=>ds.length=p.2.1
    | .any=>False
    | .tpx _=>False
    | .ptx _=>False
    | .fnx _ _=>False
    | _=>p.2.1=1) /\
   ((parts.all fun p=>isV (vd (ac e) p.2.2))=true -> dW C hs K ns dst ⟨⟩ e R acc (.agg (jE zs (parts.map fun p=>(p.1,p.2.1,vd (ac e) p.2.2))))) /\
   ((parts.all fun p=>isV (vd (ac e) p.2.2))=false -> dW C hs K ns dst ⟨⟩ e R acc (.agx (jE zs (parts.map fun p=>(p.1,p.2.1,cA (vd (ac e) p.2.2))))))):=_root_.id rfl
@[simp] theorem LH {x v1} : opW C hs K ns dst (.lens x) v1 e R acc=(match (generalizing:=false) vd (ac e) x with
  | .str s=>dW C hs K ns dst ⟨⟩ e R acc (.int .i64 s.length)
  | _=>False):=_root_.id rfl
@[simp] theorem Sn {g xs v1} : opW C hs K ns dst (.mk g xs) v1 e R acc=((∀ x ∈ xs,isP (vd (ac e) x)=true) /\ ((xs.all fun x=>isV (vd (ac e) x))=true -> dW C hs K ns dst ⟨⟩ e R acc (.fn g (xs.map (vd (ac e))))) /\ ((xs.all fun x=>isV (vd (ac e) x))=false -> dW C hs K ns dst ⟨⟩ e R acc (.fnx g (xs.map (vd (ac e)))))):=_root_.id rfl
@[simp] theorem Qz {x lo hi v1} : opW C hs K ns dst (.slS x lo hi) v1 e R acc=(match (generalizing:=false) vd (ac e) x with
  | .str s=>dP (ac e) hi s.length (fun h=>dP (ac e) lo 0 (fun l=>l <= h /\ h <= s.length /\ dW C hs K ns dst ⟨⟩ e R acc (.str ((s.take h).drop l))) ⟨⟩) ⟨⟩
  | _=>False):=_root_.id rfl
@[simp] theorem So {x y v1} : opW C hs K ns dst (.mn x y) v1 e R acc=(match (generalizing:=false) vd (ac e) x,vd (ac e) y with
  | .int k a,.int k' b=>k=k' /\ dW C hs K ns dst ⟨⟩ e R acc (.int k (if b < a then b else a))
  | _,_=>False):=_root_.id rfl
@[simp] theorem Sq {x y v1} : opW C hs K ns dst (.mx x y) v1 e R acc=(match (generalizing:=false) vd (ac e) x,vd (ac e) y with
  | .int k a,.int k' b=>k=k' /\ dW C hs K ns dst ⟨⟩ e R acc (.int k (if a < b then b else a))
  | _,_=>False):=_root_.id rfl
@[simp] theorem Hi {x y c v1} : opW C hs K ns dst (.add64 x y c) v1 e R acc=(match (generalizing:=false) vd (ac e) x,vd (ac e) y,vd (ac e) c with
  | .int .u64 a,.int .u64 b,.int .u64 k=>0 <= a /\ a < 18446744073709551616 /\ 0 <= b /\ b < 18446744073709551616 /\ 0 <= k /\ k <= 1 /\
    dW C hs K ns dst ⟨⟩ e R acc (.tup [.int .u64 ((a + b + k) % 18446744073709551616),.int .u64 ((a + b + k) / 18446744073709551616)])
  | _,_,_=>False):=_root_.id rfl
@[simp] theorem Hr {x y c v1} : opW C hs K ns dst (.sub64 x y c) v1 e R acc=(match (generalizing:=false) vd (ac e) x,vd (ac e) y,vd (ac e) c with
  | .int .u64 a,.int .u64 b,.int .u64 k=>0 <= a /\ a < 18446744073709551616 /\ 0 <= b /\ b < 18446744073709551616 /\ 0 <= k /\ k <= 1 /\
    dW C hs K ns dst ⟨⟩ e R acc (.tup [.int .u64 ((a - b - k) % 18446744073709551616),.int .u64 (if a < b + k then 1 else 0)])
  | _,_,_=>False):=_root_.id rfl
@[simp] theorem LI {sz v1} : opW C hs K ns dst (.nilo sz) v1 e R acc=(match (generalizing:=false) dst with
  | some t=>0 < sz /\ doW C hs K ns ⟨⟩ e R acc [(t,.ref (.r (rt t 0)) 0 0),(rt t 0,.blk sz [])] [(rt t 0,true)]
  | none=>False):=_root_.id rfl
@[simp] theorem Qj {x t v1} : opW C hs K ns (some t) (.box [] x) v1 e R acc=gH (ac e) (vd (ac e) x) [] (fun cs bs=>bs.contains (rt t 0)=false /\ doW C hs K ns ⟨⟩ e R acc ((t,.adr (.r (rt t 0)) 0 0)::(rt t 0,.blk cs.length [cs])::cU bs) [(rt t 0,true)]) ⟨⟩:=_root_.id rfl
@[simp] theorem Qc {zs v1} : opW C hs K ns dst (.alc zs) v1 e R acc=(match (generalizing:=false) dst with
  | some t=>doW C hs K ns ⟨⟩ e R acc [(t,.adr (.r (rt t 0)) 0 0),(rt t 0,.blk zs.length [zs])] [(rt t 0,true)]
  | none=>False):=_root_.id rfl
@[simp] theorem Qi {sz len zs parts t v1} : opW C hs K ns (some t) (.bls sz len zs [] parts) v1 e R acc=pn (ac e) sz parts (List.replicate len zs) [] (fun es bs=>bQ bs=true /\ bs.contains (rt t 0)=false /\ doW C hs K ns ⟨⟩ e R acc ((t,.ref (.r (rt t 0)) 0 len)::(rt t 0,.blk sz es)::cU bs) [(rt t 0,true)]) ⟨⟩:=_root_.id rfl
@[simp] theorem Qs {sz by_ zs n c v1} : opW C hs K ns dst (.mks sz by_ zs n c) v1 e R acc=(match (generalizing:=false) dst with
  | some t=>match (generalizing:=false) vd (ac e) n,vd (ac e) c with
   | .int _ n,.int _ c=>0 <= n /\ n <= c /\ c * by_ <= 140737488355328 /\ doW C hs K ns ⟨⟩ e R acc [(t,.ref (.r (rt t 0)) 0 n.toNat),(rt t 0,.blk sz (List.replicate c.toNat zs))] [(rt t 0,true)]
   | _,_=>False
  | none=>False):=_root_.id rfl
def stM (C : CC) (hs : Option (List Nat)) (K : Env -> Prop) (ns : List az) (_ : Tag (hs,K,ns)) (e : Env) (R : List Nat) (acc : List (List Nat × List Nat)) (n : Nat) (v : D) (cs : List D) (bs : List Nat) (a : D) : Prop:=match a with
 | .adr (.r b) i off=>bs.contains b=false /\ eJ (ac e b) (fun sz es=>iH es[i]? (fun r=>off + n <= r.length /\ doW C hs K ns ⟨⟩ e R acc ((b,.blk sz (b5 es i off n cs))::cU bs) (stK v [] b)) ⟨⟩) ⟨⟩
 | .adr (.n b i0 o0) i off=>bs=[] /\ (∀ c ∈ cs,aB c=true) /\ eJ (ac e b) (fun sz0 es0=>iH es0[i0]? (fun row0=>kC row0[o0]? (fun sz es=>iH es[i]? (fun r=>off + n <= r.length /\ doW C hs K ns ⟨⟩ e R acc [(b,.blk sz0 (b5 es0 i0 o0 1 [.own sz (b5 es i off n cs)]))] []) ⟨⟩) ⟨⟩) ⟨⟩) ⟨⟩
 | _=>False
@[simp] theorem S9 {n v cs bs b i off} : stM C hs K ns u e R acc n v cs bs (.adr (.r b) i off)=(bs.contains b=false /\ eJ (ac e b) (fun sz es=>iH es[i]? (fun r=>off + n <= r.length /\ doW C hs K ns ⟨⟩ e R acc ((b,.blk sz (b5 es i off n cs))::cU bs) (stK v [] b)) ⟨⟩) ⟨⟩):=_root_.id rfl
@[simp] theorem S8 {n v cs bs b i0 o0 i off} : stM C hs K ns u e R acc n v cs bs (.adr (.n b i0 o0) i off)=(bs=[] /\ (∀ c ∈ cs,aB c=true) /\ eJ (ac e b) (fun sz0 es0=>iH es0[i0]? (fun row0=>kC row0[o0]? (fun sz es=>iH es[i]? (fun r=>off + n <= r.length /\ doW C hs K ns ⟨⟩ e R acc [(b,.blk sz0 (b5 es0 i0 o0 1 [.own sz (b5 es i off n cs)]))] []) ⟨⟩) ⟨⟩) ⟨⟩) ⟨⟩):=_root_.id rfl
@[simp] theorem Sr {n a v v1} : opW C hs K ns dst (.st n [] a v) v1 e R acc=(dst=none /\ gH (ac e) (vd (ac e) v) [] (fun cs bs=>cs.length=n /\ stM C hs K ns ⟨⟩ e R acc n (vd (ac e) v) cs bs (vd (ac e) a)) ⟨⟩):=by
 show (dst=none /\ gg (ac e) (vd (ac e) v) [] _)=(dst=none /\ gg (ac e) (vd (ac e) v) [] _)
 congr 1
 congr 1
 funext cs bs
 cases vd (ac e) a <;> try rfl
 rename_i p i off
 cases p with
 | r b =>
  simp only [stM,eJ,jr]
  cases ac e b <;> rfl
 | n b i0 o0 =>
  simp only [stM,eJ,jr,kD]
  cases ac e b <;> rfl
def tJ (C : CC) (hs : Option (List Nat)) (K : Env -> Prop) (ns : List az) (_ : Tag (hs,K,ns)) (e : Env) (R : List Nat) (acc : List (List Nat × List Nat)) (t sz by_ : Nat) (rowsY : List (List D)) (bs : List Nat) (x : D) : Prop:=match x with
 | .nils=>rowsY.length * by_ <= 140737488355328 /\ doW C hs K ns ⟨⟩ e R acc ((t,.ref (.r (rt t 0)) 0 rowsY.length)::(rt t 0,.blk sz rowsY)::cU bs) [(rt t 0,true)]
 | .ref (.r c) k n=>c ≠ rt t 0 /\ bs.contains c=false /\ eJ (ac e c) (fun sz' es=>sz'=sz /\ k + n <= es.length /\ (n + rowsY.length) * by_ <= 140737488355328 /\
      doW C hs K ns ⟨⟩ e R acc ((t,.ref (.r (rt t 0)) 0 (n + rowsY.length))::(rt t 0,.blk sz ((es.drop k).take n++rowsY))::(c,.any)::cU bs) [(rt t 0,true)]) ⟨⟩
 | .ref (.n c i o) k n=>c ≠ rt t 0 /\ bs.contains c=false /\ eJ (ac e c) (fun sz0 es0=>iH es0[i]? (fun row0=>kC row0[o]? (fun sz' es=>sz'=sz /\ k + n <= es.length /\ (n + rowsY.length) * by_ <= 140737488355328 /\
      doW C hs K ns ⟨⟩ e R acc ((t,.ref (.r (rt t 0)) 0 (n + rowsY.length))::(rt t 0,.blk sz ((es.drop k).take n++rowsY))::(c,.blk sz0 (b5 es0 i o 1 [.any]))::cU bs) [(rt t 0,true)]) ⟨⟩) ⟨⟩) ⟨⟩
 | _=>False
@[simp] theorem Fm {t sz by_ rowsY bs} : tJ C hs K ns u e R acc t sz by_ rowsY bs .nils=(rowsY.length * by_ <= 140737488355328 /\ doW C hs K ns ⟨⟩ e R acc ((t,.ref (.r (rt t 0)) 0 rowsY.length)::(rt t 0,.blk sz rowsY)::cU bs) [(rt t 0,true)]):=_root_.id rfl
@[simp] theorem QU {t sz by_ rowsY bs c k n} : tJ C hs K ns u e R acc t sz by_ rowsY bs (.ref (.r c) k n)=(c ≠ rt t 0 /\ bs.contains c=false /\ eJ (ac e c) (fun sz' es=>sz'=sz /\ k + n <= es.length /\ (n + rowsY.length) * by_ <= 140737488355328 /\
      doW C hs K ns ⟨⟩ e R acc ((t,.ref (.r (rt t 0)) 0 (n + rowsY.length))::(rt t 0,.blk sz ((es.drop k).take n++rowsY))::(c,.any)::cU bs) [(rt t 0,true)]) ⟨⟩):=_root_.id rfl
@[simp] theorem QT {t sz by_ rowsY bs c i o k n} : tJ C hs K ns u e R acc t sz by_ rowsY bs (.ref (.n c i o) k n)=(c ≠ rt t 0 /\ bs.contains c=false /\ eJ (ac e c) (fun sz0 es0=>iH es0[i]? (fun row0=>kC row0[o]? (fun sz' es=>sz'=sz /\ k + n <= es.length /\ (n + rowsY.length) * by_ <= 140737488355328 /\
      doW C hs K ns ⟨⟩ e R acc ((t,.ref (.r (rt t 0)) 0 (n + rowsY.length))::(rt t 0,.blk sz ((es.drop k).take n++rowsY))::(c,.blk sz0 (b5 es0 i o 1 [.any]))::cU bs) [(rt t 0,true)]) ⟨⟩) ⟨⟩) ⟨⟩):=_root_.id rfl
@[simp] theorem Qd {sz by_ mv x y t v1} : opW C hs K ns (some t) (.app sz by_ mv x y) v1 e R acc=kK (ac e) mv (vd (ac e) y) sz (fun rowsY bs=>bs.contains (rt t 0)=false /\ tJ C hs K ns ⟨⟩ e R acc t sz by_ rowsY bs (vd (ac e) x)) ⟨⟩:=by
 unfold opW kK
 simp only [aK]
 congr 1
 funext rowsY bs
 congr 1
 cases vd (ac e) x <;> try rfl
 rename_i p k n
 cases p with
 | r c =>
  simp only [tJ,eJ]
  cases ac e c <;> rfl
 | n c i o =>
  simp only [tJ,eJ,jr,kD]
  cases hl : ac e c <;> try rfl
  rename_i sz0 es0
  refine congrArg _ (congrArg _ (propext ⟨?_,?_⟩))
  ·rintro ⟨row0,h1,es,h2,h3⟩
   exact ⟨row0,h1,sz,es,h2,rfl,h3⟩
  ·rintro ⟨row0,h1,sz',es,h2,rfl,h3⟩
   exact ⟨row0,h1,es,h2,h3⟩
@[simp] theorem Mo {g b n xs sz es} : EJ C g hs K ns dst u e R acc b n xs (.blk sz es)=(es.length=n /\ (∀ e ∈ es,∀ c ∈ e,aB c=true) /\ (∀ x ∈ xs,bD (fbE (ac e) b) (vd (fbE (ac e) b) x)) /\ ro C g hs K ns dst ⟨⟩ e R acc b sz es (xs.map (dpv (fbE (ac e) b))) (xs.all fun y=>isV (vd (fbE (ac e) b) y))):=_root_.id rfl
@[simp] theorem Mq {g xs b k n} : Mp C g hs K ns dst u e R acc xs (.ref (.r b) k n)=(k=0 /\ EJ C g hs K ns dst ⟨⟩ e R acc b n xs (ac e b)):=_root_.id rfl
@[simp] theorem Hp {g x xs v1} : opW C hs K ns dst (.callS g x xs) v1 e R acc=(Mp C g hs K ns dst ⟨⟩ e R acc xs (vd (ac e) x)):=by
 cases dst <;> rfl
def yS (n : Nat) (d : D) : Prop:=match d with
 | .blk _ es=>es.length=n /\ ∀ e ∈ es,∀ c ∈ e,bx c=true
 | _=>False
def pH (f : Nat -> D) (b : Nat) (d : D) : Prop:=match d with
 | .ref (.r c) k n=>k=0 /\ c ≠ b /\ yS n (f c)
 | d=>isV d=true
def Ap (d : D) : D:=match d with
 | .blk sz es=>.own sz es
 | _=>.any
def sE (f : Nat -> D) (d : D) : D:=match d with
 | .ref (.r c) _ _=>Ap (f c)
 | d=>d
@[simp] theorem HW {n sz es} : yS n (.blk sz es)=(es.length=n /\ ∀ e ∈ es,∀ c ∈ e,bx c=true):=_root_.id rfl
@[simp] theorem LP {sz es} : Ap (.blk sz es)=.own sz es:=_root_.id rfl
@[simp] theorem MG {f : Nat -> D} {b : Nat} {x : Opd} : lU f b x=pH f b (vd f x):=by
 unfold lU pH yS
 cases vd f x <;> rfl
@[simp] theorem MH {f : Nat -> D} {x : Opd} : k9 f x=sE f (vd f x):=by
 unfold k9 sE Ap
 cases vd f x <;> rfl
@[simp] theorem Fo {f : Nat -> D} {b c k n} : pH f b (.ref (.r c) k n)=(k=0 /\ c ≠ b /\ yS n (f c)):=_root_.id rfl
@[simp] theorem Fq {f : Nat -> D} {c k n} : sE f (.ref (.r c) k n)=Ap (f c):=_root_.id rfl
@[simp] theorem Fn {f : Nat -> D} {b k n} : pH f b (.int k n)=True:=by simp [pH,isV]
@[simp] theorem Fp {f : Nat -> D} {k n} : sE f (.int k n)=.int k n:=_root_.id rfl
def vT (C : CC) (g : Nat) (hs : Option (List Nat)) (K : Env -> Prop) (ns : List az) (t : Nat) (_ : Tag (hs,K,ns)) (e : Env) (R : List Nat) (acc : List (List Nat × List Nat)) (sz : Nat) (W : List (List D)) (ds : List D) (q : Nat × D) : Prop :=
 ∃ es' : List (List D),(∀ e ∈ es',e.length=sz /\ ∀ c ∈ e,bx c=true) /\ C g (.own sz W::ds) .any [.own sz es',.nils,.nils] /\ doW C hs K ns ⟨⟩ e R acc [(t,.ref (.r (rt t 0)) 0 es'.length),(rt t 0,.blk sz es'),q] [(rt t 0,true)]
theorem md {g : Nat} {hs : Option (List Nat)} {K : Env -> Prop} {ns : List az} {t : Nat} {u : Tag (hs,K,ns)} {e : Env} {R : List Nat} {acc : List (List Nat × List Nat)} {sz : Nat} {W es' : List (List D)} {ds : List D} {q : Nat × D} (h : C g (.own sz W::ds) .any [.own sz es',.nils,.nils]) (hu : ∀ e ∈ es',e.length=sz /\ ∀ c ∈ e,bx c=true)
  (hk : doW C hs K ns ⟨⟩ e R acc [(t,.ref (.r (rt t 0)) 0 es'.length),(rt t 0,.blk sz es'),q] [(rt t 0,true)]) : vT C g hs K ns t u e R acc sz W ds q:=⟨es',hu,h,hk⟩
def vS (C : CC) (g : Nat) (hs : Option (List Nat)) (K : Env -> Prop) (ns : List az) (t : Nat) (_ : Tag (hs,K,ns)) (e : Env) (R : List Nat) (acc : List (List Nat × List Nat)) (xs : List Opd) (d : D) : Prop:=match d with
 | .ref (.r b) k n=>eJ (ac e b) (fun sz es=>k + n <= es.length /\ b ≠ rt t 0 /\ 0 < sz /\ (∀ e ∈ (es.drop k).take n,∀ c ∈ e,bx c=true) /\ (∀ x ∈ xs,lU (ac e) b x) /\ vT C g hs K ns t ⟨⟩ e R acc sz ((es.drop k).take n) (xs.map (k9 (ac e))) (b,.any)) ⟨⟩
 | .ref (.n b i o) k n=>eJ (ac e b) (fun sz0 es0=>iH es0[i]? (fun row0=>kC row0[o]? (fun sz es=>k + n <= es.length /\ b ≠ rt t 0 /\ 0 < sz /\ (∀ e ∈ (es.drop k).take n,∀ c ∈ e,bx c=true) /\ (∀ x ∈ xs,lU (ac e) b x) /\
   vT C g hs K ns t ⟨⟩ e R acc sz ((es.drop k).take n) (xs.map (k9 (ac e))) (b,.blk sz0 (b5 es0 i o 1 [.any]))) ⟨⟩) ⟨⟩) ⟨⟩
 | _=>False
@[simp] theorem RA {g xs t b k n} : vS C g hs K ns t u e R acc xs (.ref (.r b) k n)=eJ (ac e b) (fun sz es=>k + n <= es.length /\ b ≠ rt t 0 /\ 0 < sz /\ (∀ e ∈ (es.drop k).take n,∀ c ∈ e,bx c=true) /\ (∀ x ∈ xs,lU (ac e) b x) /\ vT C g hs K ns t ⟨⟩ e R acc sz ((es.drop k).take n) (xs.map (k9 (ac e))) (b,.any)) ⟨⟩:=_root_.id rfl
@[simp] theorem Rz {g xs t b i o k n} : vS C g hs K ns t u e R acc xs (.ref (.n b i o) k n)=eJ (ac e b) (fun sz0 es0=>iH es0[i]? (fun row0=>kC row0[o]? (fun sz es=>k + n <= es.length /\ b ≠ rt t 0 /\ 0 < sz /\ (∀ e ∈ (es.drop k).take n,∀ c ∈ e,bx c=true) /\ (∀ x ∈ xs,lU (ac e) b x) /\
   vT C g hs K ns t ⟨⟩ e R acc sz ((es.drop k).take n) (xs.map (k9 (ac e))) (b,.blk sz0 (b5 es0 i o 1 [.any]))) ⟨⟩) ⟨⟩) ⟨⟩:=_root_.id rfl
@[simp] theorem Hk {g x xs t v1} : opW C hs K ns (some t) (.callE g x xs) v1 e R acc=vS C g hs K ns t ⟨⟩ e R acc xs (vd (ac e) x):=by
 unfold opW
 simp only [aK]
 cases vd (ac e) x <;> try rfl
 rename_i p k n
 cases p with
 | r b =>
  simp only [vS,eJ,bB,Pa.root,dC]
  cases ac e b <;> rfl
 | n b i o =>
  simp only [vS,eJ,jr,kD,bB,Pa.root,dC]
  cases hl : ac e b <;> try rfl
  rename_i sz0 es0
  simp only
  cases hi : es0[i]? with
  | none=>simp
  | some row0 =>
   simp only [Option.getD_some,Option.some.injEq,exists_eq_left']
   cases ho : row0[o]? with
   | none=>simp
   | some d =>
    cases d
    case own sz es=>exact propext ⟨fun h=>⟨sz,es,rfl,h⟩,fun ⟨sz',es',h0,h⟩=>by cases h0;exact h⟩
    all_goals simp
@[simp] theorem Gg {f : Nat -> D} {b k n sz es} : co f (.ref (.r b) k n) (.own sz es)=(k=0 /\ n=es.length /\ f b=.blk sz es):=_root_.id rfl
@[simp] theorem Ge {f : Nat -> D} {b k n sz es} : co f (.adr (.r b) k n) (.blk sz es)=(k=0 /\ n=0 /\ f b=.blk sz es):=_root_.id rfl
@[simp] theorem Gf {f : Nat -> D} {k n r} : co f (.int k n) r=(r=.int k n):=by simp [co]
@[simp] theorem Dz {f : Nat -> D} {n r} : co f (.bool n) r=(r=.bool n):=by simp [co]
@[simp] theorem Gh {f : Nat -> D} {n r} : co f (.str n) r=(r=.str n):=by simp [co]
@[simp] theorem DB {f : Nat -> D} {r} : co f .nils r=(r=.nils):=by simp [co]
@[simp] theorem DA {f : Nat -> D} {r} : co f .nilp r=(r=.nilp):=by simp [co]
@[simp] theorem Je {f : Nat -> D} {n r} : co f (.sl n) r=(r=.sl n):=by simp [co]
@[simp] theorem Gd {f : Nat -> D} {n r} : co f (.agg n) r=(r=.agg n):=by simp [co]
@[simp] theorem HE {t d} : j0 (some t) d=[(t,d)]:=_root_.id rfl
@[simp] theorem HD {d} : j0 none d=[]:=_root_.id rfl
@[simp] theorem EP {t} : dM (some t)=[(t,.tup [])]:=_root_.id rfl
@[simp] theorem EO : dM none=[]:=_root_.id rfl
def DO (C : CC) (g : Nat) (hs : Option (List Nat)) (K : Env -> Prop) (ns : List az) (dst : Option Nat) (_ : Tag (hs,K,ns)) (e : Env) (R : List Nat) (acc : List (List Nat × List Nat)) (b sz : Nat) (es : List (List D)) (ds : List D) : Prop :=
 ∃ d,∃ es' : List (List D),0 < es'.length /\ C g (.blk sz es::ds) d [.blk sz es'] /\ doW C hs K ns ⟨⟩ e R acc (j0 dst d++[(b,.blk sz es')]) [(b,false)]
theorem cd {g : Nat} {hs : Option (List Nat)} {K : Env -> Prop} {ns : List az} {dst : Option Nat} {u : Tag (hs,K,ns)} {e : Env} {R : List Nat} {acc : List (List Nat × List Nat)} {b sz : Nat} {es es' : List (List D)} {ds : List D} {d : D} (h : C g (.blk sz es::ds) d [.blk sz es']) (hp : 0 < es'.length)
  (hk : doW C hs K ns ⟨⟩ e R acc (j0 dst d++[(b,.blk sz es')]) [(b,false)]) : DO C g hs K ns dst u e R acc b sz es ds:=⟨d,es',hp,h,hk⟩
def KV (C : CC) (g : Nat) (hs : Option (List Nat)) (K : Env -> Prop) (ns : List az) (dst : Option Nat) (_ : Tag (hs,K,ns)) (e : Env) (R : List Nat) (acc : List (List Nat × List Nat)) (xs : List Opd) (d : D) : Prop:=match d with
 | .adr (.r b) i off=>i=0 /\ off=0 /\ eJ (ac e b) (fun sz es=>0 < es.length /\ (∀ x ∈ xs,isV (vd (ac e) x)=true) /\ DO C g hs K ns dst ⟨⟩ e R acc b sz es (xs.map (vd (ac e)))) ⟨⟩
 | _=>False
@[simp] theorem Se {g xs b i off} : KV C g hs K ns dst u e R acc xs (.adr (.r b) i off)=(i=0 /\ off=0 /\ eJ (ac e b) (fun sz es=>0 < es.length /\ (∀ x ∈ xs,isV (vd (ac e) x)=true) /\ DO C g hs K ns dst ⟨⟩ e R acc b sz es (xs.map (vd (ac e)))) ⟨⟩):=_root_.id rfl
@[simp] theorem Hn {g x xs v1} : opW C hs K ns dst (.callL g x xs) v1 e R acc=KV C g hs K ns dst ⟨⟩ e R acc xs (vd (ac e) x):=by
 unfold opW
 simp only [aK]
 cases vd (ac e) x <;> first | rfl | skip
def tR (C : CC) (hs : Option (List Nat)) (K : Env -> Prop) (ns : List az) (dst : Option Nat) (_ : Tag (hs,K,ns)) (e : Env) (R : List Nat) (acc : List (List Nat × List Nat)) (zs : List D) (d : D) : Prop:=match d with
 | .nils=>doW C hs K ns ⟨⟩ e R acc (dM dst) []
 | .ref (.r b) k n=>eJ (ac e b) (fun sz es=>k + n <= es.length /\ zs.length=sz /\ (∀ e ∈ es,∀ c ∈ e,aB c=true) /\ (∀ c ∈ zs,aB c=true) /\ doW C hs K ns ⟨⟩ e R acc (dM dst++[(b,.blk sz (dN es k n zs))]) []) ⟨⟩
 | .ref (.n b i o) k n=>eJ (ac e b) (fun sz0 es0=>iH es0[i]? (fun row0=>kC row0[o]? (fun sz es=>k + n <= es.length /\ zs.length=sz /\ (∀ c ∈ zs,aB c=true) /\ doW C hs K ns ⟨⟩ e R acc (dM dst++[(b,.blk sz0 (b5 es0 i o 1 [.own sz (dN es k n zs)]))]) []) ⟨⟩) ⟨⟩) ⟨⟩
 | _=>False
@[simp] theorem QY {zs b k n} : tR C hs K ns dst u e R acc zs (.ref (.r b) k n)=eJ (ac e b) (fun sz es=>k + n <= es.length /\ zs.length=sz /\ (∀ e ∈ es,∀ c ∈ e,aB c=true) /\ (∀ c ∈ zs,aB c=true) /\ doW C hs K ns ⟨⟩ e R acc (dM dst++[(b,.blk sz (dN es k n zs))]) []) ⟨⟩:=_root_.id rfl
@[simp] theorem QX {zs b i o k n} : tR C hs K ns dst u e R acc zs (.ref (.n b i o) k n)=eJ (ac e b) (fun sz0 es0=>iH es0[i]? (fun row0=>kC row0[o]? (fun sz es=>k + n <= es.length /\ zs.length=sz /\ (∀ c ∈ zs,aB c=true) /\ doW C hs K ns ⟨⟩ e R acc (dM dst++[(b,.blk sz0 (b5 es0 i o 1 [.own sz (dN es k n zs)]))]) []) ⟨⟩) ⟨⟩) ⟨⟩:=_root_.id rfl
@[simp] theorem FN {zs} : tR C hs K ns dst u e R acc zs .nils=doW C hs K ns ⟨⟩ e R acc (dM dst) []:=_root_.id rfl
@[simp] theorem Qk {zs x v1} : opW C hs K ns dst (.clr zs x) v1 e R acc=tR C hs K ns dst ⟨⟩ e R acc zs (vd (ac e) x):=by
 unfold opW
 simp only [aK]
 cases vd (ac e) x <;> try rfl
 rename_i p k n
 cases p with
 | r b =>
  simp only [tR,eJ]
  cases ac e b <;> rfl
 | n b i o =>
  simp only [tR,eJ,jr,kD]
  cases ac e b <;> rfl
def vG (C : CC) (g : Nat) (hs : Option (List Nat)) (K : Env -> Prop) (ns : List az) (dst : Option Nat) (_ : Tag (hs,K,ns)) (e : Env) (R : List Nat) (acc : List (List Nat × List Nat)) (b i o sz0 sz : Nat) (es0 es : List (List D)) (ds : List D) : Prop :=
 ∃ es' : List (List D),es'.length=es.length /\ (∀ e ∈ es',e.length=sz /\ ∀ c ∈ e,aB c=true) /\ C g (.own sz es::ds) .any [.own sz es',.nilp] /\ doW C hs K ns ⟨⟩ e R acc (dM dst++[(b,.blk sz0 (b5 es0 i o 1 [.own sz es']))]) []
theorem vH {g : Nat} {hs : Option (List Nat)} {K : Env -> Prop} {ns : List az} {t : Nat} {u : Tag (hs,K,ns)} {e : Env} {R : List Nat} {acc : List (List Nat × List Nat)} {b i o sz0 sz : Nat} {es0 es es' : List (List D)} {ds : List D} (h : C g (.own sz es::ds) .any [.own sz es',.nilp]) (hl : es'.length=es.length) (hu : ∀ e ∈ es',e.length=sz /\ ∀ c ∈ e,aB c=true)
  (hk : doW C hs K ns ⟨⟩ e R acc [(t,.tup []),(b,.blk sz0 (b5 es0 i o 1 [.own sz es']))] []) : vG C g hs K ns (some t) u e R acc b i o sz0 sz es0 es ds:=⟨es',hl,hu,h,hk⟩
def Dg (C : CC) (g : Nat) (hs : Option (List Nat)) (K : Env -> Prop) (ns : List az) (dst : Option Nat) (_ : Tag (hs,K,ns)) (e : Env) (R : List Nat) (acc : List (List Nat × List Nat)) (xs : List Opd) (d : D) : Prop:=match d with
 | .ref (.n b i o) k n=>k=0 /\ eJ (ac e b) (fun sz0 es0=>iH es0[i]? (fun row0=>kC row0[o]? (fun sz es=>es.length=n /\ (∀ x ∈ xs,isV (vd (ac e) x)=true) /\ vG C g hs K ns dst ⟨⟩ e R acc b i o sz0 sz es0 es (xs.map (vd (ac e)))) ⟨⟩) ⟨⟩) ⟨⟩
 | _=>False
@[simp] theorem QW {g xs b i o k n} : Dg C g hs K ns dst u e R acc xs (.ref (.n b i o) k n)=(k=0 /\ eJ (ac e b) (fun sz0 es0=>iH es0[i]? (fun row0=>kC row0[o]? (fun sz es=>es.length=n /\ (∀ x ∈ xs,isV (vd (ac e) x)=true) /\ vG C g hs K ns dst ⟨⟩ e R acc b i o sz0 sz es0 es (xs.map (vd (ac e)))) ⟨⟩) ⟨⟩) ⟨⟩):=_root_.id rfl
@[simp] theorem Ho {g x xs v1} : opW C hs K ns dst (.callN g x xs) v1 e R acc=Dg C g hs K ns dst ⟨⟩ e R acc xs (vd (ac e) x):=by
 unfold opW
 simp only [aK]
 cases vd (ac e) x <;> try rfl
 rename_i p k n
 cases p with
 | r b=>rfl
 | n b i o =>
  simp only [Dg,eJ,jr,kD]
  cases ac e b <;> rfl
@[simp] theorem Hm {g xs v1} : opW C hs K ns dst (.callG g xs) v1 e R acc=((∀ x ∈ xs,bD (ac e) (vd (ac e) x)) /\ C4 C g hs K ns dst ⟨⟩ e R acc (xs.map (dpv (ac e)))):=_root_.id rfl
@[simp] theorem Hj {g xs t v1} : opW C hs K ns (some t) (.callA g xs) v1 e R acc=((∀ x ∈ xs,isV (vd (ac e) x)=true) /\ C3 C g hs K ns t ⟨⟩ e R acc (xs.map (vd (ac e)))):=_root_.id rfl
@[simp] theorem Hl {g xs t v1} : opW C hs K ns (some t) (.callF g xs) v1 e R acc=((∀ x ∈ xs,bD (ac e) (vd (ac e) x)) /\ vF C g hs K ns t ⟨⟩ e R acc (xs.map (dpv (ac e)))):=_root_.id rfl
@[simp] theorem LB {g xs x0 v1} : opW C hs K ns dst (.call g xs x0) v1 e R acc=((∀ x ∈ xs,bD (ac e) (vd (ac e) x)) /\ pK C g hs K ns dst ⟨⟩ e R acc (xs.all fun x=>isV (vd (ac e) x)) (xs.map (dpv (ac e)))):=_root_.id rfl
def la (C : CC) (hs : Option (List Nat)) (K : Env -> Prop) (ns : List az) (t : Nat) (_ : Tag (hs,K,ns)) (e : Env) (R : List Nat) (acc : List (List Nat × List Nat)) (d : D) : Prop:=match d with
 | .ref (.r c) k n=>if c=rt t 0 then doW C hs K ns ⟨⟩ e R acc [(t,.ref (.r c) k n)] [] else match ac e c with
  | .blk sz es=>doW C hs K ns ⟨⟩ e R acc [(t,.ref (.r (rt t 0)) k n),(rt t 0,.blk sz es),(c,.any)] [(rt t 0,true)]
  | _=>False
 | d=>isS d=true /\ doW C hs K ns ⟨⟩ e R acc [(t,d)] []
@[simp] theorem Qe {t x v1} : opW C hs K ns (some t) (.asg x) v1 e R acc=la C hs K ns t ⟨⟩ e R acc (vd (ac e) x):=_root_.id rfl
@[simp] theorem HY {t c k n} : la C hs K ns t u e R acc (.ref (.r c) k n)=(if c=rt t 0 then doW C hs K ns ⟨⟩ e R acc [(t,.ref (.r c) k n)] [] else match ac e c with
  | .blk sz es=>doW C hs K ns ⟨⟩ e R acc [(t,.ref (.r (rt t 0)) k n),(rt t 0,.blk sz es),(c,.any)] [(rt t 0,true)]
  | _=>False):=_root_.id rfl
@[simp] theorem Fs {t b i o k n} : la C hs K ns t u e R acc (.ref (.n b i o) k n)=doW C hs K ns ⟨⟩ e R acc [(t,.ref (.n b i o) k n)] []:=by simp [la]
@[simp] theorem Fr {t} : la C hs K ns t u e R acc .nils=doW C hs K ns ⟨⟩ e R acc [(t,.nils)] []:=by simp [la]
@[simp] theorem MI {t es} : la C hs K ns t u e R acc (.sl es)=doW C hs K ns ⟨⟩ e R acc [(t,.sl es)] []:=by simp [la]
@[simp] theorem HZ {t b es} : la C hs K ns t u e R acc (slx b es)=doW C hs K ns ⟨⟩ e R acc [(t,slx b es)] []:=by
 rcases gX b es with h | ⟨h,_⟩ <;> rw [h] <;> simp
@[simp] theorem HX {t} : la C hs K ns t u e R acc .any=doW C hs K ns ⟨⟩ e R acc [(t,.any)] []:=by simp [la]
@[simp] theorem H0 {t ds} : la C hs K ns t u e R acc (.tup ds)=doW C hs K ns ⟨⟩ e R acc [(t,.tup ds)] []:=by simp [la]
def rJ (C : CC) (hs : Option (List Nat)) (K : Env -> Prop) (ns : List az) (t : Nat) (_ : Tag (hs,K,ns)) (e : Env) (R : List Nat) (acc : List (List Nat × List Nat)) (d : D) : Prop:=match d with
 | .ref (.r c) k n=>aT (ac e) (.ref (.r c) k n) /\ doW C hs K ns ⟨⟩ e R acc [(t,dp1 (ac e) (.ref (.r c) k n)),(c,.any)] []
 | d=>isS d=true /\ doW C hs K ns ⟨⟩ e R acc [(t,d)] []
@[simp] theorem Qp {t x v1} : opW C hs K ns (some t) (.frz x) v1 e R acc=rJ C hs K ns t ⟨⟩ e R acc (vd (ac e) x):=_root_.id rfl
@[simp] theorem I8 {t c k n} : rJ C hs K ns t u e R acc (.ref (.r c) k n)=(aT (ac e) (.ref (.r c) k n) /\ doW C hs K ns ⟨⟩ e R acc [(t,dp1 (ac e) (.ref (.r c) k n)),(c,.any)] []):=_root_.id rfl
@[simp] theorem Ga {t} : rJ C hs K ns t u e R acc .nils=doW C hs K ns ⟨⟩ e R acc [(t,.nils)] []:=by simp [rJ]
@[simp] theorem Nv {t es} : rJ C hs K ns t u e R acc (.sl es)=doW C hs K ns ⟨⟩ e R acc [(t,.sl es)] []:=by simp [rJ]
@[simp] theorem I9 {t b es} : rJ C hs K ns t u e R acc (slx b es)=doW C hs K ns ⟨⟩ e R acc [(t,slx b es)] []:=by
 rcases gX b es with h | ⟨h,_⟩ <;> rw [h] <;> simp
def EC (C : CC) (hs : Option (List Nat)) (K : Env -> Prop) (ns : List az) (t : Nat) (_ : Tag (hs,K,ns)) (e : Env) (R : List Nat) (acc : List (List Nat × List Nat)) (len sz c : Nat) (d : D) : Prop:=match d with
 | .blk _ [row]=>0 < len /\ 0 < sz /\ row.length=len * sz /\ (∀ d ∈ row,aB d=true) /\ doW C hs K ns ⟨⟩ e R acc [(t,.ref (.r (rt t 0)) 0 len),(rt t 0,.blk sz (cr sz len row)),(c,.any)] [(rt t 0,true)]
 | _=>False
@[simp] theorem Mh {t len sz c sz0 row} : EC C hs K ns t u e R acc len sz c (.blk sz0 [row])=(0 < len /\ 0 < sz /\ row.length=len * sz /\ (∀ d ∈ row,aB d=true) /\ doW C hs K ns ⟨⟩ e R acc [(t,.ref (.r (rt t 0)) 0 len),(rt t 0,.blk sz (cr sz len row)),(c,.any)] [(rt t 0,true)]):=_root_.id rfl
def Mi (C : CC) (hs : Option (List Nat)) (K : Env -> Prop) (ns : List az) (t : Nat) (_ : Tag (hs,K,ns)) (e : Env) (R : List Nat) (acc : List (List Nat × List Nat)) (len sz : Nat) (d : D) : Prop:=match d with
 | .adr (.r c) i off=>i=0 /\ off=0 /\ c ≠ rt t 0 /\ EC C hs K ns t ⟨⟩ e R acc len sz c (ac e c)
 | _=>False
@[simp] theorem Mj {t len sz c i off} : Mi C hs K ns t u e R acc len sz (.adr (.r c) i off)=(i=0 /\ off=0 /\ c ≠ rt t 0 /\ EC C hs K ns t ⟨⟩ e R acc len sz c (ac e c)):=_root_.id rfl
@[simp] theorem Qy {len sz x t v1} : opW C hs K ns (some t) (.slM len sz x) v1 e R acc=Mi C hs K ns t ⟨⟩ e R acc len sz (vd (ac e) x):=_root_.id rfl
def iF (C : CC) (hs : Option (List Nat)) (K : Env -> Prop) (ns : List az) (dst : Option Nat) (_ : Tag (hs,K,ns)) (e : Env) (R : List Nat) (acc : List (List Nat × List Nat)) (d : D) : Prop:=match d with
 | .agx ds=>dW C hs K ns dst ⟨⟩ e R acc (.ptx ds)
 | .agg ds=>dW C hs K ns dst ⟨⟩ e R acc (.ptr ds)
 | d=>aB d=true /\ dW C hs K ns dst ⟨⟩ e R acc (.ptr [d])
@[simp] theorem Dc {ds : List D} : ee (.agg ds)=ds:=_root_.id rfl
@[simp] theorem Dd {k n} : ee (.int k n)=[.int k n]:=_root_.id rfl
@[simp] theorem De {n} : ee (.str n)=[.str n]:=_root_.id rfl
@[simp] theorem BO {n} : ee (.bool n)=[.bool n]:=_root_.id rfl
@[simp] theorem FM {n} : ee (.sl n)=[.sl n]:=_root_.id rfl
@[simp] theorem F9 {f : Nat -> D} {es} : gR f [] es=es:=_root_.id rfl
@[simp] theorem Dw {f : Nat -> D} {p ps es} : gR f (p::ps) es=gR f ps (es.set p.1 (ee (vd f p.2))):=_root_.id rfl
@[simp] theorem Lz {sz len zs parts v1} : opW C hs K ns dst (.blsF sz len zs parts) v1 e R acc=((∀ p ∈ parts,p.1 < len /\ (ee (vd (ac e) p.2)).length=sz /\ ∀ c ∈ ee (vd (ac e) p.2),aB c=true) /\ 0 < len /\
   (∀ r ∈ gR (ac e) parts (List.replicate len zs),∀ c ∈ r,aB c=true) /\ dW C hs K ns dst ⟨⟩ e R acc (.sl (gR (ac e) parts (List.replicate len zs)))):=_root_.id rfl
@[simp] theorem LA {x v1} : opW C hs K ns dst (.boxF x) v1 e R acc=iF C hs K ns dst ⟨⟩ e R acc (vd (ac e) x):=_root_.id rfl
@[simp] theorem Ii {ds} : iF C hs K ns dst u e R acc (.agx ds)=dW C hs K ns dst ⟨⟩ e R acc (.ptx ds):=_root_.id rfl
@[simp] theorem Ih {ds} : iF C hs K ns dst u e R acc (.agg ds)=dW C hs K ns dst ⟨⟩ e R acc (.ptr ds):=_root_.id rfl
@[simp] theorem Ij {k n} : iF C hs K ns dst u e R acc (.int k n)=dW C hs K ns dst ⟨⟩ e R acc (.ptr [.int k n]):=by simp [iF]
@[simp] theorem Ft {n} : iF C hs K ns dst u e R acc (.bool n)=dW C hs K ns dst ⟨⟩ e R acc (.ptr [.bool n]):=by simp [iF]
@[simp] theorem Im {n} : iF C hs K ns dst u e R acc (.str n)=dW C hs K ns dst ⟨⟩ e R acc (.ptr [.str n]):=by simp [iF]
@[simp] theorem Fu : iF C hs K ns dst u e R acc .nils=dW C hs K ns dst ⟨⟩ e R acc (.ptr [.nils]):=by simp [iF]
@[simp] theorem MN {es} : iF C hs K ns dst u e R acc (.sl es)=dW C hs K ns dst ⟨⟩ e R acc (.ptr [.sl es]):=by simp [iF]
@[simp] theorem Il {b es} : iF C hs K ns dst u e R acc (slx b es)=dW C hs K ns dst ⟨⟩ e R acc (.ptr [slx b es]):=by
 rcases gX b es with h | ⟨h,_⟩ <;> rw [h] <;> simp
@[simp] theorem Ik {es} : iF C hs K ns dst u e R acc (.ptr es)=dW C hs K ns dst ⟨⟩ e R acc (.ptr [.ptr es]):=by simp [iF]
@[simp] theorem MM {g es} : iF C hs K ns dst u e R acc (.fn g es)=dW C hs K ns dst ⟨⟩ e R acc (.ptr [.fn g es]):=by simp [iF]
@[simp] theorem Qq {x v1} : opW C hs K ns dst (.len x) v1 e R acc=um (vd (ac e) x) (fun n=>dW C hs K ns dst ⟨⟩ e R acc (.int .i64 n)) ⟨⟩:=by
 show res (ac e) _ (.len x)=_
 simp only [res,um]
 cases vd (ac e) x <;> rfl
def wH (C : CC) (hs : Option (List Nat)) (K : Env -> Prop) (ns : List az) (dst : Option Nat) (_ : Tag (hs,K,ns)) (e : Env) (R : List Nat) (acc : List (List Nat × List Nat)) (sz : Nat) (x i : D) : Prop:=match (generalizing:=false) x,i with
  | .sl es,.int _ j=>0 <= j /\ jy C hs K ns dst ⟨⟩ e R acc sz es j.toNat
  | .ref p k n,.int _ j=>0 <= j /\ j.toNat < n /\ match (generalizing:=false) bB (ac e) p with
   | some (sz',_)=>sz'=sz /\ dW C hs K ns dst ⟨⟩ e R acc (.adr p (k + j.toNat) 0)
   | none=>False
  | _,_=>False
@[simp] theorem LE {sz x i v1} : opW C hs K ns dst (.iadS sz x i) v1 e R acc=wH C hs K ns dst ⟨⟩ e R acc sz (vd (ac e) x) (vd (ac e) i):=_root_.id rfl
@[simp] theorem Nw {sz es k j} : wH C hs K ns dst u e R acc sz (.sl es) (.int k j)=(0 <= j /\ jy C hs K ns dst ⟨⟩ e R acc sz es j.toNat):=_root_.id rfl
@[simp] theorem Jj {sz b es k j} : wH C hs K ns dst u e R acc sz (slx b es) (.int k j)=(0 <= j /\ jy C hs K ns dst ⟨⟩ e R acc sz es j.toNat):=by
 rcases gX b es with h | ⟨h,rfl⟩
 ·rw [h];rfl
 ·rw [h];simp [wH,jy]
@[simp] theorem Ji {sz p k n k' j} : wH C hs K ns dst u e R acc sz (.ref p k n) (.int k' j)=(0 <= j /\ j.toNat < n /\ match (generalizing:=false) bB (ac e) p with
   | some (sz',_)=>sz'=sz /\ dW C hs K ns dst ⟨⟩ e R acc (.adr p (k + j.toNat) 0)
   | none=>False):=_root_.id rfl
def AS (C : CC) (hs : Option (List Nat)) (K : Env -> Prop) (ns : List az) (dst : Option Nat) (_ : Tag (hs,K,ns)) (e : Env) (R : List Nat) (acc : List (List Nat × List Nat)) (sz : Nat) (x : D) (lo hi : Option Opd) : Prop:=match (generalizing:=false) x with
  | .sl es=>(∀ e ∈ es,e.length=sz) /\ dP (ac e) hi es.length (fun h=>dP (ac e) lo 0 (fun l=>l <= h /\ h <= es.length /\ dW C hs K ns dst ⟨⟩ e R acc (.sl ((es.take h).drop l))) ⟨⟩) ⟨⟩
  | .nils=>dP (ac e) hi 0 (fun h=>dP (ac e) lo 0 (fun l=>l <= h /\ h <= 0 /\ dW C hs K ns dst ⟨⟩ e R acc (.sl [])) ⟨⟩) ⟨⟩
  | .ref p k n=>match (generalizing:=false) bB (ac e) p with
   | some (sz',_)=>sz'=sz /\ dP (ac e) hi n (fun h=>dP (ac e) lo 0 (fun l=>l <= h /\ h <= n /\ dW C hs K ns dst ⟨⟩ e R acc (.ref p (k + l) (h - l))) ⟨⟩) ⟨⟩
   | none=>False
  | _=>False
@[simp] theorem QA {sz x lo hi v1} : opW C hs K ns dst (.slc sz x lo hi) v1 e R acc=AS C hs K ns dst ⟨⟩ e R acc sz (vd (ac e) x) lo hi:=_root_.id rfl
@[simp] theorem QD {sz es lo hi} : AS C hs K ns dst u e R acc sz (.sl es) lo hi=((∀ e ∈ es,e.length=sz) /\ dP (ac e) hi es.length (fun h=>dP (ac e) lo 0 (fun l=>l <= h /\ h <= es.length /\ dW C hs K ns dst ⟨⟩ e R acc (.sl ((es.take h).drop l))) ⟨⟩) ⟨⟩):=_root_.id rfl
@[simp] theorem HC {sz lo hi} : AS C hs K ns dst u e R acc sz .nils lo hi=dP (ac e) hi 0 (fun h=>dP (ac e) lo 0 (fun l=>l <= h /\ h <= 0 /\ dW C hs K ns dst ⟨⟩ e R acc (.sl [])) ⟨⟩) ⟨⟩:=_root_.id rfl
@[simp] theorem Mg {sz p k n lo hi} : AS C hs K ns dst u e R acc sz (.ref p k n) lo hi=(match (generalizing:=false) bB (ac e) p with
   | some (sz',_)=>sz'=sz /\ dP (ac e) hi n (fun h=>dP (ac e) lo 0 (fun l=>l <= h /\ h <= n /\ dW C hs K ns dst ⟨⟩ e R acc (.ref p (k + l) (h - l))) ⟨⟩) ⟨⟩
   | none=>False):=_root_.id rfl
@[simp] theorem Hq {x xs v1} : opW C hs K ns dst (.callv x xs) v1 e R acc=(match (generalizing:=false) vd (ac e) x with
  | .fn g cs=>(∀ x ∈ xs,bD (ac e) (vd (ac e) x)) /\ pK C g hs K ns dst ⟨⟩ e R acc (xs.all fun x=>isV (vd (ac e) x)) (xs.map (dpv (ac e))++cs)
  | .fnx g cs=>(∀ x ∈ xs,bD (ac e) (vd (ac e) x)) /\ (∀ c ∈ cs,aT (ac e) c) /\ pK C g hs K ns dst ⟨⟩ e R acc false (xs.map (dpv (ac e))++cs.map (dp1 (ac e)))
  | _=>False):=by
 simp only [opW,aK,pK,fB,Bool.false_eq_true,or_false]
 cases vd (ac e) x <;> rfl
def mpT (x : D) (K : Nat -> Nat -> List D -> List D -> Prop) (_ : Tag K) : Prop:=match x with
 | .mp kt et ks vs=>K kt et ks vs
 | _=>False
@[simp] theorem Sj {kt et ks vs K u} : mpT (.mp kt et ks vs) K u=K kt et ks vs:=_root_.id rfl
@[simp] theorem Qr {kt et t v1} : opW C hs K ns (some t) (.mkm kt et) v1 e R acc=doW C hs K ns ⟨⟩ e R acc [(t,.mrf (rt t 0)),(rt t 0,.mp kt et [] [])] [(rt t 0,true)]:=_root_.id rfl
def mlM (C : CC) (hs : Option (List Nat)) (K : Env -> Prop) (ns : List az) (dst : Option Nat) (_ : Tag (hs,K,ns)) (e : Env) (R : List Nat) (acc : List (List Nat × List Nat)) (sh : KSh) (kt et : Nat) (ok : Bool) (z x m : D) : Prop:=match m with
 | .mrf b=>mpT (ac e b) (fun kt' et' ks vs=>kt'=kt /\ et'=et /\ dG sh x /\ match ok with
    | true=>dW C hs K ns dst ⟨⟩ e R acc (.tup [(dz ks vs x).getD z,.bool (dz ks vs x).isSome])
    | false=>dW C hs K ns dst ⟨⟩ e R acc ((dz ks vs x).getD z)) ⟨⟩
 | _=>False
@[simp] theorem PV {sh kt et ok z x b} : mlM C hs K ns dst u e R acc sh kt et ok z x (.mrf b)=mpT (ac e b) (fun kt' et' ks vs=>kt'=kt /\ et'=et /\ dG sh x /\ match ok with
    | true=>dW C hs K ns dst ⟨⟩ e R acc (.tup [(dz ks vs x).getD z,.bool (dz ks vs x).isSome])
    | false=>dW C hs K ns dst ⟨⟩ e R acc ((dz ks vs x).getD z)) ⟨⟩:=_root_.id rfl
@[simp] theorem Qu {sh kt et ok z m x v1} : opW C hs K ns dst (.mpl sh kt et ok z m x) v1 e R acc=mlM C hs K ns dst ⟨⟩ e R acc sh kt et ok z (vd (ac e) x) (vd (ac e) m):=by
 show res (ac e) _ (.mpl sh kt et ok z m x)=_
 simp only [res,mlM]
 cases vd (ac e) m <;> rfl
def muM (C : CC) (hs : Option (List Nat)) (K : Env -> Prop) (ns : List az) (_ : Tag (hs,K,ns)) (e : Env) (R : List Nat) (acc : List (List Nat × List Nat)) (sh : KSh) (kt et : Nat) (z x v m : D) : Prop:=match m with
 | .mrf b=>mpT (ac e b) (fun kt' et' ks vs=>kt'=kt /\ et'=et /\ ks.length < maxLen /\ dG sh x /\ iM z v /\ doW C hs K ns ⟨⟩ e R acc [(b,.mp kt et (x::ks) (v::vs))] []) ⟨⟩
 | _=>False
@[simp] theorem PW {sh kt et z x v b} : muM C hs K ns u e R acc sh kt et z x v (.mrf b)=mpT (ac e b) (fun kt' et' ks vs=>kt'=kt /\ et'=et /\ ks.length < maxLen /\ dG sh x /\ iM z v /\ doW C hs K ns ⟨⟩ e R acc [(b,.mp kt et (x::ks) (v::vs))] []) ⟨⟩:=_root_.id rfl
@[simp] theorem Qv {sh kt et z m x v v1} : opW C hs K ns dst (.mpu sh kt et z m x v) v1 e R acc=(dst=none /\ muM C hs K ns ⟨⟩ e R acc sh kt et z (vd (ac e) x) (vd (ac e) v) (vd (ac e) m)):=by
 show (dst=none /\ _)=_
 congr 1
end
@[simp] theorem DI {s} : dG .str (.str s)=(s.length <= maxLen):=_root_.id rfl
@[simp] theorem BW {b} : dG .bool (.bool b)=True:=_root_.id rfl
@[simp] theorem DH {q q' n} : dG (.int q) (.int q' n)=(q'=q /\ p8 q n):=_root_.id rfl
@[simp] theorem BX {q n ds} : dG (.ints q n) (.agg ds)=(ds.length=n /\ ∀ d ∈ ds,∃ x,d=.int q x /\ p8 q x):=_root_.id rfl
@[simp] theorem F8 {s z} : iM (.str z) (.str s)=(s.length <= maxLen):=_root_.id rfl
@[simp] theorem Do {b z} : iM (.bool z) (.bool b)=True:=_root_.id rfl
@[simp] theorem F7 {q q' n z} : iM (.int q z) (.int q' n)=(q'=q /\ p8 q n):=_root_.id rfl
@[simp] theorem Jt {n : Int} : p8 .i64 n=(-9223372036854775808 <= n /\ n <= 9223372036854775807):=by
 have e1 : IntKind.i64.min=-9223372036854775808:=rfl
 have e2 : IntKind.i64.max=9223372036854775807:=rfl
 simp [p8,Lit.wf,e1,e2]
attribute [simp] i9 iS dy lL dS cv cB ki xu okR qI nY eF
attribute [simp] vd params gw jU jV jT mI m8 xU prune j2 isC jE bB Sz b5 dpv cU stK bY rt chk rdS rdR iN wrK mnR El ldN am i7 pX wOk Pa.root cG bQ
end Go.Gv

namespace Go.Gv
def eS (c : Int) : Bool:=(97 <= c && c <= 122) || (65 <= c && c <= 90)
def ii (c : Int) : Bool:=48 <= c && c <= 57
def eT (c : UInt8) : Bool:=eS c.toNat || ii c.toNat || c.toNat == 95
def ce (s : List UInt8) : Nat:=(s.takeWhile eT).length
def fO (n : Int) : Bool:=-1125899906842624 <= n && n <= 1125899906842624
def br (s : List UInt8) : Bool:=s ≠ [] && s.length <= 20 && eS (s[0]!).toNat && ce s == s.length
theorem nB (s : List UInt8) : ce s <= s.length:=by unfold ce;exact (List.takeWhile_prefix _).length_le
theorem sv {α : Type} (p : α -> Bool) : ∀ (s : List α) (i : Nat) (h : i < s.length),i <= (s.takeWhile p).length -> (p s[i]=true -> i + 1 <= (s.takeWhile p).length) /\ (p s[i]=false -> i=(s.takeWhile p).length)
 | [],i,h,_=>by simp at h
 | x::s,0,h,_=>by
  constructor <;> intro h1 <;> simp at h1 <;> simp [h1]
 | x::s,i + 1,h,h2=>by
  rw [List.takeWhile_cons] at h2 ⊢
  split at h2
  ·rename_i hp
   simp only [hp,if_true,List.length_cons,List.getElem_cons_succ] at h2 ⊢
   have:=sv p s i (by simpa using h) (by omega)
   exact ⟨fun e=>by have:=this.1 e;omega,fun e=>by have:=this.2 e;omega⟩
  ·simp at h2
theorem kU {s : List UInt8} {i : Nat} (h : i < s.length) (hi : i <= ce s) : eT s[i]=true -> i + 1 <= ce s:=(sv eT s i h hi).1
theorem kV {s : List UInt8} {i : Nat} (h : i < s.length) (hi : i <= ce s) : eT s[i]=false -> i=ce s:=(sv eT s i h hi).2
theorem ai {n m : Int} (h : n=m) (h2 : -9223372036854775808 <= m /\ m < 9223372036854775808) : IntKind.wrap .i64 n=m:=by
 subst h
 have e1 : IntKind.i64.signed=true:=rfl
 have e2 : (2 ^ (IntKind.i64.bits - 1) : Int)=9223372036854775808:=rfl
 have e3 : (2 ^ IntKind.i64.bits : Int)=18446744073709551616:=rfl
 unfold IntKind.wrap
 simp only [e1,e2,e3,Bool.true_and,decide_eq_true_eq]
 split <;> omega
variable {C : CC} (hC : ao prog C)
include hC
theorem wm (n : Int) : C 89 [.int .i64 n] (.bool (fO n)) []:=by
 refine start hC (nf:=N89) rfl rfl ?_
 simp [N89,fO]
 refine ab (fun h=>?_) (fun h=>?_) <;> simp at h <;> simp [h] <;> omega
theorem y8 (c : Int) : C 88 [.int .u8 c] (.bool (ii c)) []:=by
 refine start hC (nf:=N88) rfl rfl ?_
 simp [N88,ii]
 refine ab (fun h=>?_) (fun h=>?_) <;> simp at h <;> simp [h] <;> omega
theorem qc (c : Int) : C 70 [.int .u8 c] (.bool (eS c)) []:=by
 refine start hC (nf:=N70) rfl rfl ?_
 simp [N70,eS]
 repeat' (refine ab (fun h=>?_) (fun h=>?_) <;> simp at h <;> simp [h] <;> try omega)
theorem ET (s : List UInt8) (hs : s.length < 2 ^ 62) : C 71 [.str s] (.int .i64 (ce s)) []:=by
 refine start hC (nf:=N71) rfl rfl ?_
 simp [N71]
 refine aq Nat (fun i=>[(0,.str s),(3,.int .i64 i)]) (fun i=>i <= ce s) (fun i=>ce s - i) 0 (by simp) (by simp) ?_
 intro i hi
 have hle : ce s <= s.length:=nB s
 by_cases hl : i < s.length
 ·simp [hl]
  refine aa (qc hC _) (.inl rfl) ?_
  have hstep : eT s[i]=true -> i + 1 <= ce s:=kU hl hi
  have hstop : eT s[i]=false -> i=ce s:=kV hl hi
  simp only [eT] at hstep hstop
  have hw : IntKind.wrap .i64 ((i : Int) + 1)=((i + 1 : Nat) : Int):=ai (by omega) (by omega)
  cases h1 : eS s[i].toNat with
  | true =>
   simp [h1,hw] at hstep ⊢
   exact ⟨i + 1,by omega,by omega,rfl⟩
  | false =>
   simp [h1,hl]
   refine aa (y8 hC _) (.inl rfl) ?_
   cases h2 : ii s[i].toNat with
   | true =>
    simp [h1,h2,hw] at hstep ⊢
    exact ⟨i + 1,by omega,by omega,rfl⟩
   | false =>
    simp [hl]
    refine ab (fun h3=>?_) (fun h3=>?_) <;> simp at h3
    ·simp [hw,hl]
     have:=hstep (by simp [show s[i].toNat=95 by omega])
     exact ⟨i + 1,this,by omega,rfl⟩
    ·have h4 : ¬ s[i].toNat=95:=by omega
     simp [h1,h2,h4] at hstop ⊢
     omega
 ·simp [hl]
  have : i=ce s:=by omega
  omega
theorem gG (s : List UInt8) : C 58 [.str s] (.bool (br s)) []:=by
 refine start hC (nf:=N58) rfl rfl ?_
 simp [N58]
 refine ab (fun h=>?_) (fun h=>?_) <;> simp at h
 ·have hp : 0 < s.length:=List.length_pos_iff.2 h
  simp [h,hp]
  refine ab (fun h2=>?_) (fun h2=>?_) <;> simp at h2
  ·simp [h2,hp]
   refine aa (qc hC _) (.inl rfl) ?_
   simp
   refine ab (fun h3=>?_) (fun h3=>?_)
   ·simp [h3,h2]
    refine aa (ET hC s (by omega)) (.inl rfl) ?_
    simp [br,h,h3,show s.length <= 20 by omega,hp,Int.ofNat_inj]
    rw [Bool.eq_iff_iff];simp
   ·simp [br,h,h3,hp]
  ·simp [h2,br]
   omega
 ·subst h
  simp [br]
end Go.Gv

namespace Go.Gv
open Go.Lib
theorem kx (a : Nat) (ha : a < 18446744073709551616) : bits .and .u64 (a : Int) 4294967295=((a % 4294967296 : Nat) : Int):=by
 have h:=bits_and_u64_nat a 4294967295 ha (by omega)
 have e : a &&& 4294967295=a % 4294967296:=Nat.and_two_pow_sub_one_eq_mod a 32
 rw [e] at h
 exact h
theorem qQ (a k : Nat) : Int.fdiv (a : Int) (2 ^ k)=((a / 2 ^ k : Nat) : Int):=by
 rw [Int.fdiv_eq_ediv_of_nonneg _ (by exact Int.pow_nonneg (by omega))]
 norm_cast
theorem ni (a : Nat) : Int.fdiv (a : Int) (2 ^ min 32 IntKind.u64.bits)=((a / 4294967296 : Nat) : Int):=qQ a 32
theorem uB (a b : Nat) : (a : Int) * (b : Int)=((a * b : Nat) : Int):=(Int.natCast_mul a b).symm
theorem rj (a b : Nat) : (a : Int) + (b : Int)=((a + b : Nat) : Int):=(Int.natCast_add a b).symm
theorem cE (a : Nat) (ha : a < 18446744073709551616) : IntKind.u64.wrap (a : Int)=(a : Int):=by
 have e1 : IntKind.u64.signed=false:=rfl
 have e3 : (2 ^ IntKind.u64.bits : Int)=18446744073709551616:=rfl
 unfold IntKind.wrap
 simp only [e1,e3,Bool.false_and]
 simp
 omega
theorem yv (a : Nat) : IntKind.u64.wrap (a : Int)=((a % 18446744073709551616 : Nat) : Int):=by
 have e1 : IntKind.u64.signed=false:=rfl
 have e3 : (2 ^ IntKind.u64.bits : Int)=18446744073709551616:=rfl
 unfold IntKind.wrap
 simp only [e1,e3,Bool.false_and]
 simp
variable {C : CC} (hC : ao prog C)
include hC
theorem sB (x y : Nat) (hx : x < 18446744073709551616) (hy : y < 18446744073709551616) : C 91 [.int .u64 x,.int .u64 y] (.tup [.int .u64 ((x * y / 18446744073709551616 : Nat) : Int),.int .u64 ((x * y % 18446744073709551616 : Nat) : Int)]) []:=by
 refine start hC (nf:=N91) rfl rfl ?_
 obtain ⟨bd,bt,bw,hhi⟩:=Lib.mul64_hi x y hx hy
 have ba:=Lib.half_mul_le (a:=x / 4294967296) (b:=y / 4294967296) (by omega) (by omega)
 have bb:=Lib.half_mul_le (a:=x / 4294967296) (b:=y % 4294967296) (by omega) (by omega)
 have bc:=Lib.half_mul_le (a:=x % 4294967296) (b:=y / 4294967296) (by omega) (by omega)
 have ba' : x / 4294967296 * (y / 4294967296) < 18446744073709551616:=by omega
 have bb' : x / 4294967296 * (y % 4294967296) < 18446744073709551616:=by omega
 have bc' : x % 4294967296 * (y / 4294967296) < 18446744073709551616:=by omega
 have bh1 : x / 4294967296 * (y / 4294967296) + (x / 4294967296 * (y % 4294967296) + x % 4294967296 * (y % 4294967296) / 4294967296) / 4294967296 < 18446744073709551616:=by omega
 have bh : x / 4294967296 * (y / 4294967296) + (x / 4294967296 * (y % 4294967296) + x % 4294967296 * (y % 4294967296) / 4294967296) / 4294967296 + ((x / 4294967296 * (y % 4294967296) + x % 4294967296 * (y % 4294967296) / 4294967296) % 4294967296 + x % 4294967296 * (y / 4294967296)) / 4294967296 < 18446744073709551616:=by omega
 simp [N91]
 simp only [kx x hx,kx y hy,ni,uB,rj,cE _ bd,cE _ bb',cE _ bt,kx _ bt,cE _ bc',cE _ bw,cE _ ba',cE _ bh1,cE _ bh,yv (x * y)]
 rw [hhi]
 exact ⟨by omega,by omega⟩
end Go.Gv

namespace Go.Gv
theorem CA (a : Nat) : Int.fdiv (a : Int) (2 ^ min 16 IntKind.u64.bits)=((a / 65536 : Nat) : Int):=qQ a 16
theorem AR (a : Nat) : Int.fdiv (a : Int) (2 ^ min 8 IntKind.u64.bits)=((a / 256 : Nat) : Int):=qQ a 8
theorem MC (a : Nat) (h : a < 256) : IntKind.u8.wrap (a : Int)=(a : Int):=by
 have e1 : IntKind.u8.signed=false:=rfl
 have e3 : (2 ^ IntKind.u8.bits : Int)=256:=rfl
 unfold IntKind.wrap
 simp only [e1,e3,Bool.false_and]
 simp
 omega
theorem rS : S1.length=256 /\ ∀ n : Fin 256,S1[n.val]?.getD 0=UInt8.ofNat (bitLen n.val) /\ bitLen n.val <= 8:=by decide +kernel
theorem fw {x n z : Nat} {m : Int} (hz : z < 256) (hm : m=n) (hn : n <= 56) (h : n + bitLen z=bitLen x) : 0 <= IntKind.u8.wrap (z : Int) /\ (IntKind.u8.wrap (z : Int)).toNat < S1.length /\ IntKind.i64.wrap (m + IntKind.i64.wrap ↑(S1[(IntKind.u8.wrap (z : Int)).toNat]?.getD default).toNat)=(bitLen x : Int):=by
 rw [MC z hz]
 obtain ⟨h1,h2⟩:=rS
 obtain ⟨h3,h4⟩:=h2 ⟨z,hz⟩
 have e : (S1[(z : Int).toNat]?.getD default).toNat=bitLen z:=by
  show (S1[z]?.getD 0).toNat=bitLen z
  simp only at h3 h4
  rw [h3,UInt8.toNat_ofNat']
  omega
 simp only at h4
 rw [e]
 have e2 : IntKind.i64.wrap (bitLen z : Int)=(bitLen z : Int):=ai rfl (by omega)
 refine ⟨by omega,by omega,?_⟩
 rw [e2,hm]
 exact ai (by omega) (by omega)
variable {C : CC} (hC : ao prog C)
include hC
theorem yP (x : Nat) (hx : x < 18446744073709551616) : C 111 [.int .u64 x] (.int .i64 (bitLen x)) []:=by
 refine start hC (nf:=N111) rfl rfl ?_
 have key : ∀ (b z : Nat),2 ^ b <= z -> bitLen z=b + bitLen (z / 2 ^ b):=fun b z h=>bitLen_shift z b (by
  have:=Nat.div_pos h (Nat.two_pow_pos b)
  omega)
 simp [N111]
 refine ab (fun h1=>?_) (fun h1=>?_) <;> simp at h1
 ·obtain ⟨y,hy⟩ : ∃ y : Nat,y=x / 4294967296:=⟨_,rfl⟩
  have e1 : Int.fdiv (x : Int) (2 ^ min 32 IntKind.u64.bits)=(y : Int):=by rw [ni,hy]
  have k1:=key 32 x (by omega)
  simp [e1]
  refine ab (fun h2=>?_) (fun h2=>?_) <;> simp at h2
  ·obtain ⟨z,hz⟩ : ∃ z : Nat,z=y / 65536:=⟨_,rfl⟩
   have e2 : Int.fdiv (y : Int) (2 ^ min 16 IntKind.u64.bits)=(z : Int):=by rw [CA,hz]
   have k2:=key 16 y (by omega)
   simp [e2]
   refine ab (fun h3=>?_) (fun h3=>?_) <;> simp at h3
   ·obtain ⟨v,hv⟩ : ∃ v : Nat,v=z / 256:=⟨_,rfl⟩
    have e3 : Int.fdiv (z : Int) (2 ^ min 8 IntKind.u64.bits)=(v : Int):=by rw [AR,hv]
    have k3:=key 8 z (by omega)
    simp [e3]
    refine fw (n:=56) (by omega) ?_ (by omega) ?_
    ·decide
    ·simp only [Nat.reducePow] at k1 k2 k3
     rw [<- hy] at k1;rw [<- hz] at k2;rw [<- hv] at k3;omega
   ·simp
    refine fw (n:=48) (by omega) ?_ (by omega) ?_
    ·decide
    ·simp only [Nat.reducePow] at k1 k2
     rw [<- hy] at k1;rw [<- hz] at k2;omega
  ·simp
   refine ab (fun h3=>?_) (fun h3=>?_) <;> simp at h3
   ·obtain ⟨v,hv⟩ : ∃ v : Nat,v=y / 256:=⟨_,rfl⟩
    have e3 : Int.fdiv (y : Int) (2 ^ min 8 IntKind.u64.bits)=(v : Int):=by rw [AR,hv]
    have k3:=key 8 y (by omega)
    simp [e3]
    refine fw (n:=40) (by omega) ?_ (by omega) ?_
    ·decide
    ·simp only [Nat.reducePow] at k1 k3
     rw [<- hy] at k1;rw [<- hv] at k3;omega
   ·simp
    refine fw (n:=32) (by omega) ?_ (by omega) ?_
    ·decide
    ·simp only [Nat.reducePow] at k1
     rw [<- hy] at k1;omega
 ·simp
  refine ab (fun h2=>?_) (fun h2=>?_) <;> simp at h2
  ·obtain ⟨z,hz⟩ : ∃ z : Nat,z=x / 65536:=⟨_,rfl⟩
   have e2 : Int.fdiv (x : Int) (2 ^ min 16 IntKind.u64.bits)=(z : Int):=by rw [CA,hz]
   have k2:=key 16 x (by omega)
   simp [e2]
   refine ab (fun h3=>?_) (fun h3=>?_) <;> simp at h3
   ·obtain ⟨v,hv⟩ : ∃ v : Nat,v=z / 256:=⟨_,rfl⟩
    have e3 : Int.fdiv (z : Int) (2 ^ min 8 IntKind.u64.bits)=(v : Int):=by rw [AR,hv]
    have k3:=key 8 z (by omega)
    simp [e3]
    refine fw (n:=24) (by omega) ?_ (by omega) ?_
    ·decide
    ·simp only [Nat.reducePow] at k2 k3
     rw [<- hz] at k2;rw [<- hv] at k3;omega
   ·simp
    refine fw (n:=16) (by omega) ?_ (by omega) ?_
    ·decide
    ·simp only [Nat.reducePow] at k2
     rw [<- hz] at k2;omega
  ·simp
   refine ab (fun h3=>?_) (fun h3=>?_) <;> simp at h3
   ·obtain ⟨v,hv⟩ : ∃ v : Nat,v=x / 256:=⟨_,rfl⟩
    have e3 : Int.fdiv (x : Int) (2 ^ min 8 IntKind.u64.bits)=(v : Int):=by rw [AR,hv]
    have k3:=key 8 x (by omega)
    simp [e3]
    refine fw (n:=8) (by omega) ?_ (by omega) ?_
    ·decide
    ·simp only [Nat.reducePow] at k3
     rw [<- hv] at k3;omega
   ·simp
    have:=fw (x:=x) (n:=0) (m:=0) (z:=x) (by omega) rfl (by omega) (by omega)
    simpa using this
theorem kW (x : Nat) (hx : x < 18446744073709551616) : C 102 [.int .u64 x] (.int .i64 ((64 - bitLen x : Nat) : Int)) []:=by
 have hb : bitLen x <= 64:=by
  unfold bitLen
  split
  ·omega
  ·rename_i h
   have:=(Nat.log2_lt h).2 (show x < 2 ^ 64 by omega)
   omega
 refine start hC (nf:=N102) rfl rfl ?_
 simp [N102]
 refine aa (yP hC x hx) (.inl rfl) ?_
 have e : IntKind.wrap .i64 (64 - (bitLen x : Int))=((64 - bitLen x : Nat) : Int):=ai (by omega) (by omega)
 simp [e]
end Go.Gv

namespace Go.Gv
structure DvI (u d a b q r : Nat) : Prop where
 sum : q * a + r=u
 ge : (u * 4294967296 + d) / (a * 4294967296 + b) <= q
 rlt : r < 4294967296
 qle : q <= 4294967297
section
variable {u d a b q r : Nat}
theorem Dv.mul (h : q * a + r=u) : q * (a * 4294967296 + b) + r * 4294967296=u * 4294967296 + q * b:=by
 subst h
 rw [Nat.mul_add,<- Nat.mul_assoc,Nat.add_mul]
 omega
theorem Dv.lt (_ : 0 < a) (hu : u < a * 4294967296 + b) (hd : d < 4294967296) : (u * 4294967296 + d) / (a * 4294967296 + b) < 4294967296:=by
 rw [Nat.div_lt_iff_lt_mul (by omega)]
 have : (u + 1) * 4294967296 <= (a * 4294967296 + b) * 4294967296:=Nat.mul_le_mul_right _ hu
 omega
theorem DvI.first (ha : 2147483648 <= a) (ha2 : a < 4294967296) (hb : b < 4294967296) (hu : u < a * 4294967296 + b) (hd : d < 4294967296) : DvI u d a b (u / a) (u % a) where
 sum:=by rw [Nat.mul_comm];exact Nat.div_add_mod u a
 rlt:=by have:=Nat.mod_lt u (show 0 < a by omega);omega
 ge:=by
  rw [Nat.le_div_iff_mul_le (by omega)]
  have h:=Nat.div_mul_le_self (u * 4294967296 + d) (a * 4294967296 + b)
  generalize (u * 4294967296 + d) / (a * 4294967296 + b)=Q at *
  rw [Nat.mul_add,<- Nat.mul_assoc] at h
  generalize Q * b=z at *
  generalize Q * a=x at *
  omega
 qle:=by
  have : u / a < 4294967298:=by
   rw [Nat.div_lt_iff_lt_mul (by omega)]
   omega
  omega
theorem DvI.more (h : DvI u d a b q r) (ha : 0 < a) (hu : u < a * 4294967296 + b) (hd : d < 4294967296) (hc : 4294967296 <= q \/ 4294967296 * r + d < q * b) : (u * 4294967296 + d) / (a * 4294967296 + b) + 1 <= q:=by
 rcases hc with hc | hc
 ·have:=Dv.lt (d:=d) ha hu hd
  omega
 ·have h1:=Dv.mul (b:=b) h.sum
  have : (u * 4294967296 + d) / (a * 4294967296 + b) < q:=by
   rw [Nat.div_lt_iff_lt_mul (by omega)]
   generalize q * (a * 4294967296 + b)=z at *
   generalize q * b=x at *
   omega
  omega
theorem DvI.done (h : DvI u d a b q r) (ha : 0 < a) (hc : q * b <= 4294967296 * r + d) : q=(u * 4294967296 + d) / (a * 4294967296 + b):=by
 have h1:=Dv.mul (b:=b) h.sum
 have h2:=h.ge
 have : q <= (u * 4294967296 + d) / (a * 4294967296 + b):=by
  rw [Nat.le_div_iff_mul_le (by omega)]
  generalize q * (a * 4294967296 + b)=z at *
  generalize q * b=x at *
  omega
 omega
theorem DvI.next (h : DvI u d a b q r) (ha : 0 < a) (hu : u < a * 4294967296 + b) (hd : d < 4294967296) (hc : 4294967296 <= q \/ 4294967296 * r + d < q * b) :
  1 <= q /\ (q - 1) * a + (r + a)=u /\ (u * 4294967296 + d) / (a * 4294967296 + b) <= q - 1 /\ q - 1 <= 4294967296:=by
 have h1:=h.more ha hu hd hc
 have h2:=h.qle
 have h3:=h.sum
 generalize (u * 4294967296 + d) / (a * 4294967296 + b)=Q at *
 obtain ⟨q',rfl⟩ : ∃ q',q=q' + 1:=⟨q - 1,by omega⟩
 refine ⟨by omega,?_,by omega,by omega⟩
 rw [Nat.add_mul] at h3
 simp only [Nat.add_sub_cancel]
 omega
theorem Dv.stop (hs : q * a + r=u) (hg : (u * 4294967296 + d) / (a * 4294967296 + b) <= q) (hq : q <= 4294967296) (ha : 0 < a) (hb : b < 4294967296) (hr : 4294967296 <= r) : q=(u * 4294967296 + d) / (a * 4294967296 + b):=by
 have h1:=Dv.mul (b:=b) hs
 have h3 : q * b <= 4294967296 * 4294967295:=Nat.mul_le_mul hq (by omega)
 have : q <= (u * 4294967296 + d) / (a * 4294967296 + b):=by
  rw [Nat.le_div_iff_mul_le (by omega)]
  generalize q * (a * 4294967296 + b)=z at *
  generalize q * b=x at *
  omega
 omega
theorem DvI.bnd (h : DvI u d a b q r) (hb : b < 4294967296) : q * b < 18446744073709551616:=by
 have:=Nat.mul_le_mul h.qle (show b <= 4294967295 by omega)
 omega
end
theorem Dn {N y S A K un0 y' : Nat} (hy : 0 < y) (hs : 0 < S) (hy' : y'=y * S) (hn : N * S=A * K + un0) :
  A / y' * K + (A % y' * K + un0) / y'=N / y /\ (A % y' * K + un0) % y' / S=N % y:=by
 have hyp : 0 < y':=by rw [hy'];exact Nat.mul_pos hy hs
 have e1:=Nat.div_add_mod A y'
 have e2:=Nat.div_add_mod (A % y' * K + un0) y'
 have l2:=Nat.mod_lt (A % y' * K + un0) hyp
 have tot : y' * (A / y' * K + (A % y' * K + un0) / y') + (A % y' * K + un0) % y'=N * S:=by
  rw [hn,Nat.mul_add,Nat.add_assoc,e2,<- Nat.mul_assoc,<- Nat.add_assoc,<- Nat.add_mul,e1]
 have hq : N * S / y'=A / y' * K + (A % y' * K + un0) / y':=by
  rw [<- tot,Nat.mul_add_div hyp,Nat.div_eq_of_lt l2,Nat.add_zero]
 have hr : N * S % y'=(A % y' * K + un0) % y':=by
  rw [<- tot,Nat.mul_add_mod,Nat.mod_eq_of_lt l2]
 rw [hy',Nat.mul_div_mul_right _ _ hs] at hq
 rw [hy',Nat.mul_mod_mul_right] at hr
 rw [hy'] at *
 exact ⟨hq.symm,by rw [<- hr,Nat.mul_div_cancel _ hs]⟩
end Go.Gv

namespace Go.Gv
section
variable {C : CC}
theorem jq {f : Nat -> D} {dst : Option Nat} {K K' : KT} {o : NOp} (h : aK C f dst K o) (hk : ∀ ws ks,K ws ks -> K' ws ks) : aK C f dst K' o:=by
 obtain ⟨ws,ks,h1,h2⟩:=m9 h
 exact h2 K' (hk ws ks h1)
theorem io {e : Env} {dst : Option Nat} {K K' : Env -> Prop} (h : gW e dst K) (hk : ∀ e,K e -> K' e) : gW e dst K':=by
 unfold gW at h ⊢
 split at h
 ·exact hk _ h
 ·exact hk _ h
theorem hJ {K K' : Env -> Prop} (hk : ∀ e,K e -> K' e) : ∀ (ns : List az) (e : Env),iu C K ns e -> iu C K' ns e
 | [],e,h=>hk e h
 | o::os,e,h=>by
  rw [iu] at h ⊢
  split at h
  ·exact jq h (fun ws ks h1=>hJ hk os _ h1)
  ·split at h
   ·exact ⟨fun hb=>jq (h.1 hb) (fun ws ks h1=>hJ hk os _ h1),fun hb=>io (h.2 hb) (fun e h1=>hJ hk os e h1)⟩
   ·exact io h (fun e h1=>hJ hk os e h1)
   ·exact h.elim
theorem hG {hs : List Nat} {K K' : Env -> Prop} (hk : ∀ e,K e -> K' e) : ∀ (ns : List az) (e : Env) (acc : List (List Nat × List Nat)),jC C hs K ns e acc -> jC C hs K' ns e acc
 | [],e,acc,h=>⟨h.1,hk e h.2⟩
 | o::os,e,acc,h=>by
  rw [jC] at h ⊢
  refine ⟨h.1,?_⟩
  have h:=h.2
  split at h
  ·exact jq h (fun ws ks h1=>⟨h1.1,hG hk os _ _ h1.2⟩)
  ·split at h
   ·exact ⟨fun hb=>jq (h.1 hb) (fun ws ks h1=>⟨h1.1,hG hk os _ _ h1.2⟩),fun hb=>io (h.2 hb) (fun e h1=>hG hk os e _ h1)⟩
   ·exact io h (fun e h1=>hG hk os e _ h1)
   ·exact h.elim
theorem fa : ∀ (c : dL) (Q Q' : cx -> Env -> Prop) (e : Env),(∀ t e,Q t e -> Q' t e) -> wpN C c Q e -> wpN C c Q' e
 | .skip,Q,Q',e,hq,h=>hq _ _ h
 | .reg dr hs keep ops,Q,Q',e,hq,h=>by
  cases dr with
  | false=>exact hJ (fun e h=>hq _ _ h) ops e h
  | true=>exact hG (fun e h=>hq _ _ h) ops e [] h
 | .seq x y,Q,Q',e,hq,h=>fa x _ _ e (fun t e h=>by
   cases t with
   | nrm=>exact fa y Q Q' e hq h
   | ext i=>exact hq _ _ h
   | ret=>exact hq _ _ h) h
 | .cond c x y,Q,Q',e,hq,h=>by
  rw [wpN] at h ⊢
  split at h
  ·exact ⟨fun hb=>fa x Q Q' e hq (h.1 hb),fun hb=>fa y Q Q' e hq (h.2 hb)⟩
  ·exact ⟨fa x Q Q' e hq h.1,fa y Q Q' e hq h.2⟩
  ·exact h.elim
 | .block id c,Q,Q',e,hq,h=>fa c _ _ e (fun t e h=>by
   cases t with
   | nrm=>exact hq _ _ h
   | ext i =>
    simp only at h ⊢
    split
    ·rename_i hi;rw [if_pos hi] at h;exact hq _ _ h
    ·rename_i hi;rw [if_neg hi] at h;exact hq _ _ h
   | ret=>exact hq _ _ h) h
 | .loop c,Q,Q',e,hq,h=>by
  obtain ⟨S,G,I,m,s0,h1,h2,h3⟩:=h
  refine ⟨S,G,I,m,s0,h1,h2,fun s hs=>fa c _ _ _ (fun t e h=>?_) (h3 s hs)⟩
  cases t with
  | nrm=>exact h
  | ext i=>exact hq _ _ h
  | ret=>exact hq _ _ h
 | .exit id,Q,Q',e,hq,h=>hq _ _ h
 | .ret,Q,Q',e,hq,h=>hq _ _ h
def uJ (id : Nat) (S : Type) (G : S -> Env) (J : S -> Prop) (Q : cx -> Env -> Prop) : cx -> Env -> Prop:=fun t e=>match t with
 | .ext i=>if i=id then ∃ s,J s /\ j2 e (G s) else Q (.ext i) e
 | t=>Q t e
variable {Q : cx -> Env -> Prop} {e : Env}
@[simp] theorem zD {id S G J u} : bL (uJ id S G J Q) u .nrm e=bL Q ⟨⟩ .nrm e:=_root_.id rfl
@[simp] theorem zF {id S G J u} : bL (uJ id S G J Q) u .ret e=bL Q ⟨⟩ .ret e:=_root_.id rfl
@[simp] theorem zB {id S G J u i} : bL (uJ id S G J Q) u (.ext i) e=if i=id then ∃ s,J s /\ j2 e (G s) else bL Q ⟨⟩ (.ext i) e:=_root_.id rfl
theorem qg {c : dL} {u : Tag (c,Q)} (id : Nat) (S : Type) (G : S -> Env) (J : S -> Prop) (h : sY C c (uJ id S G J Q) ⟨⟩ e) (hr : ∀ s e,J s -> j2 e (G s) -> bL Q ⟨⟩ (.ext id) e) : sY C c Q u e :=
 fa (.loop c) (uJ id S G J Q) Q e (fun t e g=>by
  cases t with
  | nrm=>exact g
  | ret=>exact g
  | ext i =>
   simp only [uJ] at g
   by_cases hi : i=id
   ·rw [if_pos hi] at g
    obtain ⟨s,h1,h2⟩:=g
    rw [hi]
    exact hr s e h1 h2
   ·rw [if_neg hi] at g
    exact g) h
def DT (S : Type) (G : S -> Env) (J : S -> Prop) (Q : cx -> Env -> Prop) : cx -> Env -> Prop:=fun t e=>match t with
 | .nrm=>∃ s,J s /\ j2 e (G s)
 | t=>Q t e
@[simp] theorem zz {S G J u} : bL (DT S G J Q) u .nrm e=∃ s,J s /\ j2 e (G s):=_root_.id rfl
@[simp] theorem zA {S G J u} : bL (DT S G J Q) u .ret e=bL Q ⟨⟩ .ret e:=_root_.id rfl
@[simp] theorem zy {S G J u i} : bL (DT S G J Q) u (.ext i) e=bL Q ⟨⟩ (.ext i) e:=_root_.id rfl
end
@[simp] theorem L8 {C : CC} {hs : Option (List Nat)} {K : Env -> Prop} {ns : List az} {dst : Option Nat} {u : Tag (hs,K,ns)} {e : Env} {R : List Nat} {acc : List (List Nat × List Nat)} {α : Type} [Inhabited α] {n : Nat} {ag : Bool} {p : Pa} {xs : List α} {f : α -> List D} {i off : Nat} :
  lB C hs K ns dst u e R acc n ag p (xs.map f) i off=(i < xs.length /\ off + n <= (f xs[i]!).length /\ match ag with
    | true=>((((f xs[i]!).drop off).take n).all isV=true -> dW C hs K ns dst ⟨⟩ e R acc (.agg (((f xs[i]!).drop off).take n))) /\
      ((((f xs[i]!).drop off).take n).all isV=false -> dW C hs K ns dst ⟨⟩ e R acc (.agx ((((f xs[i]!).drop off).take n).mapIdx fun j c=>ldc p i (off + j) c)))
    | false=>dW C hs K ns dst ⟨⟩ e R acc (ldc p i off (((f xs[i]!).drop off).headD .any))):=by
 apply propext
 constructor
 ·rintro ⟨r,h,h1,h2⟩
  rw [List.getElem?_map,Option.map_eq_some_iff] at h
  obtain ⟨x,hx,rfl⟩:=h
  obtain ⟨hi,rfl⟩:=List.getElem?_eq_some_iff.1 hx
  rw [getElem!_pos xs i hi]
  refine ⟨hi,h1,?_⟩
  cases ag <;> exact h2
 ·rintro ⟨hi,h1,h2⟩
  rw [getElem!_pos xs i hi] at h1 h2
  refine pr (r:=f xs[i]) (by rw [List.getElem?_map,List.getElem?_eq_getElem hi];rfl) h1 ?_
  cases ag <;> exact h2
@[simp] theorem GU {b all ks n} : bf ((b,all)::ks) (.ptx n)=if n.any (aQ b all) then .any else bf ks (.ptx n):=by
 have h : bf ((b,all)::ks) (.ptx n)=bif (n.any (aQ b all) || aL ks (.ptx n)) then .any else .ptx n:=cP ..
 rw [h,cP]
 cases n.any (aQ b all) <;> rfl
@[simp] theorem GY {b all ks n} : bf ((b,all)::ks) (.tpx n)=if n.any (aQ b all) then .any else bf ks (.tpx n):=by
 have h : bf ((b,all)::ks) (.tpx n)=bif (n.any (aQ b all) || aL ks (.tpx n)) then .any else .tpx n:=cP ..
 rw [h,cP]
 cases n.any (aQ b all) <;> rfl
@[simp] theorem G9 {b all n es} : aQ b all (slx n es)=false:=by cases n <;> cases es <;> rfl
@[simp] theorem G8 {b all p k n} : aQ b all (.ref p k n)=bY b all p:=_root_.id rfl
@[simp] theorem G4 {b all p k n} : aQ b all (.adr p k n)=bY b all p:=_root_.id rfl
@[simp] theorem G6 {b all c} : aQ b all (.mrf c)=(all && c == b):=_root_.id rfl
@[simp] theorem G5 {b all k n} : aQ b all (.int k n)=false:=_root_.id rfl
@[simp] theorem DQ {b all n} : aQ b all (.bool n)=false:=_root_.id rfl
@[simp] theorem Ha {b all n} : aQ b all (.str n)=false:=_root_.id rfl
@[simp] theorem DS {b all} : aQ b all .nils=false:=_root_.id rfl
@[simp] theorem DR {b all} : aQ b all .nilp=false:=_root_.id rfl
@[simp] theorem Ld {b all n} : aQ b all (.sl n)=false:=_root_.id rfl
@[simp] theorem G7 {b all n} : aQ b all (.ptr n)=false:=_root_.id rfl
@[simp] theorem Lc {b all g n} : aQ b all (.fn g n)=false:=_root_.id rfl
@[simp] theorem GR {b all ks c} : bf ((b,all)::ks) (.mrf c)=if (all && c == b) then .any else bf ks (.mrf c):=by
 have h : bf ((b,all)::ks) (.mrf c)=bif ((all && c == b) || aL ks (.mrf c)) then .any else .mrf c:=cP ..
 rw [h,cP]
 cases all && c == b <;> rfl
end Go.Gv
