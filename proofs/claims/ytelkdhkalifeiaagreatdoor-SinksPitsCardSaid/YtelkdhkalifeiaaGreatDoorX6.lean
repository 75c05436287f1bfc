/-
  Texts of the proof: GvR, GvEsp, GvN, ItSZ, GvU, GvW, GvX, GvX2, GvX3, GvX4, GvX5, K1, K3, H1, H2, H3, H4.
-/
import Derived.Test.YtelkdhkalifeiaaGreatDoorX4
import Derived.SizedLaws
import Derived.ProofKit
import Derived.Test.YtelkdhkalifeiaaGreatDoorX5
import Derived.Test.YtelkdhkalifeiaaGreatDoorProg
import Derived.KernelRfl
import Derived.Shelf.Small.Bits
import Derived.Shelf.Strconv.Itoa0
import Derived.Shelf.Strconv.Itoa1
import Derived.Shelf.LaysM
import Derived.Shelf.Strconv.Itoa2
import Derived.Shelf.Strconv.Itoa3
import Derived.Shelf.Bits.Mul64
import Derived.Shelf.Slices.Turned
import Derived.Shelf.Slices.Equal
import Derived.Ground.Names2Prog
import Derived.Shelf.Slices.Clone
import Derived.Shelf.Slices.Empties2
import Derived.Ground.SlgnProg
import Derived.Shelf.SlicesE.Clone
import Derived.Ground.SlsfProg
import Derived.Shelf.SlSortCmp.Insertion
import Derived.Shelf.SlSortCmp.SiftDown1
import Derived.Shelf.SlSortCmp.HeapSort1
import Derived.Shelf.SlSortCmp.Insertion1
import Derived.Shelf.SlSortCmp.Median1
import Derived.Shelf.SlSortCmp.Pivot1
import Derived.Shelf.SlSortCmp.ReverseRange1
import Derived.Shelf.SlSortCmp.PartialInsertion1
import Derived.Shelf.SlSortCmp.PartitionEqual1
import Derived.Shelf.SlSortCmp.Partition1
import Derived.Shelf.SlSortCmp.Pdq1
import Derived.Shelf.SlSortCmp.Whole1
import Derived.Shelf.SlSortCmp.NoneTotal
set_option linter.all false
namespace Go.Gv
open Go.RowKit Go.ChangeShapes Go.WideShapes Go.ChangeAt
inductive Sh where
 | int (k : IntKind)
 | bool
 | str
 | sl (row : List Sh)
mutual
def iz : Sh -> D -> Prop
 | .int k,d=>∃ n,d=.int k n /\ (Lit.int k n).wf=true
 | .bool,d=>∃ b,d=.bool b
 | .str,d=>∃ s,d=.str s /\ s.length < 140737488355328
 | .sl row,d=>∃ es,(d=.sl es \/ (d=.nils /\ es=[])) /\ es.length < 140737488355328 /\ ∀ e ∈ es,ci row e
def ci : List Sh -> List D -> Prop
 | [],ds=>ds=[]
 | s::ss,ds=>∃ d r,ds=d::r /\ iz s d /\ ci ss r
end
theorem ci.length : ∀ {ss : List Sh} {ds : List D},ci ss ds -> ds.length=ss.length
 | [],ds,h=>by simp only [ci] at h;simp [h]
 | s::ss,ds,h=>by
  simp only [ci] at h
  obtain ⟨d,r,rfl,_,h2⟩:=h
  simp [ci.length h2]
theorem ci.append : ∀ {ss ts : List Sh} {ds es : List D},ci ss ds -> ci ts es -> ci (ss++ts) (ds++es)
 | [],ts,ds,es,h,h'=>by simp only [ci] at h;subst h;exact h'
 | s::ss,ts,ds,es,h,h'=>by
  simp only [ci] at h
  obtain ⟨d,r,rfl,h1,h2⟩:=h
  exact ⟨d,r++es,rfl,h1,ci.append h2 h'⟩
def pj (P : Program) (rec : TypeId -> Option (List Sh)) : List Field -> Nat -> Option (List Sh)
 | [],_=>some []
 | f::fs,off=>if f.offset=off then (match rec f.type with
   | some l=>if l.length=P.cellsOf f.type then (match pj P rec fs (off + l.length) with
    | some r=>some (l++r)
    | none=>none) else none
   | none=>none) else none
def rC (P : Program) : Nat -> TypeId -> Option (List Sh)
 | 0,_=>none
 | n + 1,t=>match P.underlying t with
  | some .bool=>some [.bool]
  | some (.int k)=>some [.int k]
  | some .string=>some [.str]
  | some (.slice e)=>(match rC P n e with
   | some l=>if l.length=P.cellsOf e /\ 1 <= P.bytesOf e then some [.sl l] else none
   | none=>none)
  | some (.struct fs)=>(match pj P (rC P n) fs.toList 0 with
   | some l=>if l.length=P.cellsOf t then some l else none
   | none=>none)
  | _=>none
section
variable {H : Type} {enc : TypeId × Value -> H} {P : Program} {F : Fid} {w : World} {sp : Nat -> Bool}
abbrev oo (w : World) : Mem:=fun p=>w.cell? p
def vf (enc : TypeId × Value -> H) (P : Program) (F : Fid) (w : World) (sp : Nat -> Bool) (n : Nat) (t : TypeId) (shs : List Sh) : Prop :=
 ∀ (cs : List Value) (d : DataW H) (ps : List MemPlace),DataW.trod enc P w 0 sp true n t cs=some (d,ps) -> (d.weights P t).all (· <= reachBytes)=true -> ∃ ds,ci shs ds /\ az F (oo w) ds cs
theorem iW {α β : Type} {f : α -> Option β} {x : α} {l : List α} {ys : List β} (h : (x::l).mapM f=some ys) : ∃ y r,f x=some y /\ l.mapM f=some r /\ ys=y::r:=by
 rw [List.mapM_cons] at h
 cases hx : f x with
 | none=>rw [hx] at h;cases h
 | some y =>
  cases hl : l.mapM f with
  | none=>rw [hx,hl] at h;cases h
  | some r =>
   rw [hx,hl] at h
   exact ⟨y,r,rfl,rfl,by cases h;rfl⟩
theorem nB {n m : Nat} (ih : ∀ t shs,rC P m t=some shs -> vf enc P F w sp n t shs) {cs : List Value} : ∀ (fs : List Field) (off : Nat) (xs : List (DataW H × List MemPlace)) (shs : List Sh),
  (fs.mapM fun f=>DataW.trod enc P w 0 sp true n f.type ((cs.drop f.offset).take (P.cellsOf f.type)))=some xs -> pj P (rC P m) fs off=some shs -> (DataW.weightsEach P (fs.map (·.type)) (xs.map (·.1))).all (· <= reachBytes)=true -> cs.length=off + shs.length ->
   ∃ ds,ci shs ds /\ az F (oo w) ds (cs.drop off)
 | [],off,xs,shs,_,h2,_,h4=>by
  cases h2
  exact ⟨[],rfl,by simp only [az];exact List.drop_of_length_le (by simpa using Nat.le_of_eq h4)⟩
 | f::fs,off,xs,shs,h1,h2,h3,h4=>by
  obtain ⟨y,r,e1,e2,rfl⟩:=iW h1
  simp only [pj] at h2
  split at h2
  case isFalse=>cases h2
  rename_i ho
  split at h2
  case h_2=>cases h2
  rename_i l hl
  split at h2
  case isFalse=>cases h2
  rename_i hlen
  split at h2
  case h_2=>cases h2
  rename_i rs hr
  cases h2
  simp only [x0B,DataW.weightsEach,List.all_append,x0a] at h3
  rw [x0P] at h4
  obtain ⟨ds1,g1,g2⟩:=ih f.type l hl _ y.1 y.2 e1 h3.1
  obtain ⟨ds2,g3,g4⟩:=nB ih fs (off + l.length) r rs e2 hr h3.2 (by omega)
  refine ⟨ds1++ds2,g1.append g3,?_⟩
  rw [ho,<- hlen] at g2
  have:=g2.append g4
  rwa [<- List.drop_drop,List.take_append_drop] at this
theorem nC {n k : Nat} {e : TypeId} {l : List Sh} {a : Addr} (hl : l.length=k) (ih : vf enc P F w sp n e l) : ∀ (c s : Nat) (xs : List (DataW H × List MemPlace)),
  ((List.range' s c).mapM fun i=>(w.cells? 0 (a.add (i * k)) k).bind (DataW.trod enc P w 0 sp true n e))=some xs -> (DataW.weightsAll P e (xs.map (·.1))).all (· <= reachBytes)=true ->
   ∃ (es : List (List D)) (vs : List Value),es.length=c /\ xs.length=c /\ (∀ r ∈ es,ci l r) /\ a7 F (oo w) es vs /\ ∀ j v,vs[j]? = some v -> w.cell? (a.add (s * k + j))=some v
 | 0,s,xs,h,_=>by
  cases h
  exact ⟨[],[],rfl,rfl,by simp,by simp [a7],fun j v h=>by simp at h⟩
 | c + 1,s,xs,h,hw=>by
  rw [List.range'_succ] at h
  obtain ⟨y,r,e1,e2,rfl⟩:=iW h
  rw [Option.bind_eq_some_iff] at e1
  obtain ⟨row,c1,c2⟩:=e1
  simp only [x0B,DataW.weightsAll,List.all_append,x0a] at hw
  obtain ⟨ds,g1,g2⟩:=ih row y.1 y.2 c2 hw.1
  obtain ⟨es,vs,h1,h2,h3,h4,h5⟩:=nC hl ih c (s + 1) r e2 hw.2
  have hrow:=World.cells?_some c1
  refine ⟨ds::es,row++vs,by simp [h1],by simp [h2],?_,⟨row,vs,rfl,g2,h4⟩,fun j v hj=>?_⟩
  ·intro x hx
   rcases x0M.1 hx with rfl | hx
   ·exact g1
   ·exact h3 x hx
  ·have hrl : row.length=k:=by rw [g2.length,g1.length,hl]
   have addadd : ∀ i j,(a.add i).add j=a.add (i + j):=fun i j=>by
    unfold Addr.add
    by_cases hi : i=0 <;> by_cases hj : j=0 <;> simp [hi,hj,x0R]
   by_cases hjk : j < k
   ·rw [x0E (by omega)] at hj
    have:=hrow.2.2 j hjk
    rw [hj,addadd] at this
    exact this
   ·rw [x0y (by omega)] at hj
    have:=h5 (j - row.length) v hj
    rw [hrl] at this
    rwa [show (s + 1) * k + (j - k)=s * k + j by rw [x0U];omega] at this
theorem pZ : ∀ (m : Nat) (n : Nat) (t : TypeId) (shs : List Sh),rC P m t=some shs -> vf enc P F w sp n t shs
 | 0,_,_,_,h=>by cases h
 | m + 1,0,t,shs,_=>fun cs d ps h _=>by simp [DataW.trod] at h
 | m + 1,n + 1,t,shs,h=>by
  intro cs d ps ht hw
  rw [rC] at h
  split at h
  ·rename_i hu
   cases h
   unfold DataW.trod at ht;rw [hu] at ht
   split at ht <;> try (simp_all;done)
   rename_i b _
   refine ⟨[.bool b],⟨_,_,rfl,⟨b,rfl⟩,rfl⟩,by simp [az,ae]⟩
  ·rename_i k hu
   cases h
   unfold DataW.trod at ht;rw [hu] at ht
   split at ht <;> try (simp_all;done)
   rename_i k1 k2 x h1
   simp only [x0k,TypeDesc.int.injEq] at h1
   subst h1
   split at ht
   ·rename_i hk
    obtain ⟨rfl,hwf⟩:=hk
    exact ⟨[.int _ x],⟨_,_,rfl,⟨x,rfl,hwf⟩,rfl⟩,by simp [az,ae]⟩
   ·cases ht
  ·rename_i hu
   cases h
   unfold DataW.trod at ht;rw [hu] at ht
   split at ht <;> try (simp_all;done)
   rename_i s _
   split at ht
   ·rename_i hs
    simp only [x0k,Prod.mk.injEq] at ht
    obtain ⟨rfl,rfl⟩:=ht
    simp only [DataW.weights,List.all_cons,List.all_nil,Bool.and_true,x0f] at hw
    refine ⟨[.str s.data.toList],⟨_,_,rfl,⟨_,rfl,?_⟩,rfl⟩,?_⟩
    ·have:=reachBytes_lt;omega
    ·obtain ⟨s⟩:=s
     simp [az,ae]
   ·cases ht
  ·rename_i e hu
   split at h
   case h_2=>cases h
   rename_i l hl
   split at h
   case isFalse=>cases h
   rename_i hk
   cases h
   unfold DataW.trod at ht;rw [hu] at ht
   split at ht <;> try (simp_all;done)
   ·refine ⟨[.nils],⟨_,_,rfl,⟨[],.inr ⟨rfl,rfl⟩,by simp,by simp⟩,rfl⟩,by simp [az,ae]⟩
   ·rename_i e' a len cap h1
    simp only [x0k,TypeDesc.slice.injEq] at h1
    subst h1
    simp only at ht
    split at ht
    case isFalse=>cases ht
    rename_i hb
    rw [Option.bind_eq_some_iff] at ht
    obtain ⟨xs,e1,e2⟩:=ht
    rw [x0i] at e2
    obtain ⟨rest,e3,e4⟩:=e2
    simp only [Prod.mk.injEq] at e4
    obtain ⟨rfl,rfl⟩:=e4
    simp only [DataW.weights,hu,List.all_cons,List.all_append,x0a,x0f] at hw
    obtain ⟨w1,w2,w3⟩:=hw
    rw [List.range_eq_range'] at e1
    obtain ⟨es,vs,g1,g2,g3,g4,g5⟩:=nC (F:=F) hk.1 (pZ m n e l hl) len 0 xs e1 w2
    refine ⟨[.sl es],⟨_,_,rfl,⟨es,.inl rfl,?_,g3⟩,rfl⟩,?_⟩
    ·have h5:=reachBytes_lt
     have h6 : es.length * 1 <= (xs.length + rest.length) * P.bytesOf e:=Nat.mul_le_mul (by omega) hk.2
     simp only [x1K] at w1
     omega
    ·simp only [az]
     refine ⟨_,_,rfl,?_,rfl⟩
     simp only [ae]
     refine ⟨some a,cap,vs,P.cellsOf e,by rw [g1],by omega,g4,fun r hr=>by rw [(g3 r hr).length,hk.1],fun _=>⟨a,rfl,fun j v hj=>?_⟩⟩
     have:=g5 j v hj
     simpa using this
  ·rename_i fs hu
   split at h
   case h_2=>cases h
   rename_i l hl
   split at h
   case isFalse=>cases h
   rename_i hk
   cases h
   unfold DataW.trod at ht;rw [hu] at ht
   split at ht <;> try (simp_all;done)
   rename_i fs' h1
   simp only [x0k,TypeDesc.struct.injEq] at h1
   subst h1
   split at ht
   case isFalse=>cases ht
   rename_i hc
   rw [x0i] at ht
   obtain ⟨xs,e1,e2⟩:=ht
   simp only [Prod.mk.injEq] at e2
   obtain ⟨rfl,rfl⟩:=e2
   simp only [DataW.weights,hu] at hw
   obtain ⟨ds,g1,g2⟩:=nB (F:=F) (n:=n) (fun t shs h=>pZ m n t shs h) fs.toList 0 xs _ e1 hl hw (by omega)
   exact ⟨ds,g1,by simpa using g2⟩
  ·cases h
theorem rK {t : TypeId} {fs : Array Field} {m : Nat} {shs : List Sh} {base : Nat} {v : Value} {d : DataW H} {ps : List MemPlace} (hu : P.underlying t=some (.struct fs)) (hsh : rC P m t=some shs) (hv : Value.okWide P w .any base t v) (h : DataW.Trod enc P w 0 sp true t v d ps) (hw : (d.weights P t).all (· <= reachBytes)=true) :
  ∃ ds,ci shs ds /\ ae F (oo w) (.agg ds) v:=by
 obtain ⟨cs,rfl,_⟩:=okWide_struct hu hv
 obtain ⟨n,hn⟩:=h
 obtain ⟨ds,g1,g2⟩:=pZ (F:=F) m n t shs hsh _ d ps hn hw
 exact ⟨ds,g1,by simp only [ae];exact ⟨cs.toList,by simp,g2⟩⟩
theorem o9 {t : TypeId} {k : IntKind} {base : Nat} {v : Value} {d : DataW H} {ps : List MemPlace} (hu : P.underlying t=some (.int k)) (hv : Value.okWide P w .any base t v) (h : DataW.Trod enc P w 0 sp true t v d ps) :
  ∃ n,(Lit.int k n).wf=true /\ ae F (oo w) (.int k n) v:=by
 obtain ⟨n,rfl,_,_,hw⟩:=open_int hu hv h
 exact ⟨n,hw,rfl⟩
end
theorem nJ {α : Type} {f : α -> List D} {es : List (List D)} (h : ∀ e ∈ es,∃ x,e=f x) : ∃ xs : List α,es=xs.map f:=by
 induction es with
 | nil=>exact ⟨[],rfl⟩
 | cons e es ih =>
  obtain ⟨x,rfl⟩:=h e (by simp)
  obtain ⟨xs,rfl⟩:=ih (fun e he=>h e (by simp [he]))
  exact ⟨x::xs,rfl⟩
end Go.Gv
namespace Go.Gv
def B1 (P : Program) (F : Fid) (prog : Nat -> Option aE) (tbl : List (Nat × Nat)) : Bool:=tbl.all fun p=>kC P p.2 && match prog p.1 with
 | some nf=>dP P F p.2 nf
 | none=>true
theorem ur {tbl : List (Nat × Nat)} {g f : Nat} (h : tbl.lookup g=some f) : (g,f) ∈ tbl:=by
 induction tbl with
 | nil=>cases h
 | cons p r ih =>
  obtain ⟨a,b⟩:=p
  rw [x0e] at h
  cases e : g == a with
  | true=>rw [e] at h;simp at e h;subst e;subst h;simp
  | false=>rw [e] at h;simp [ih h]
theorem seat {P : Program} {tbl : List (Nat × Nat)} {ty : Nat -> TypeId} {prog : Nat -> Option aE} (hm : P.follows .mixedOrders=true) (hl : laidOutB P=true) (h : B1 P ⟨P,fun g=>tbl.lookup g,ty,fun _=>.nilIface⟩ prog tbl=true) :
  bI P ⟨P,fun g=>tbl.lookup g,ty,fun _=>.nilIface⟩ (fu P ⟨P,fun g=>tbl.lookup g,ty,fun _=>.nilIface⟩) /\ aD prog (fu P ⟨P,fun g=>tbl.lookup g,ty,fun _=>.nilIface⟩):=by
 have key : ∀ g f,tbl.lookup g=some f -> kC P f=true /\ ∀ nf,prog g=some nf -> dP P ⟨P,fun g=>tbl.lookup g,ty,fun _=>.nilIface⟩ f nf=true:=fun g f e=>by
  have:=x0g.1 h _ (ur e)
  simp only [x0a] at this
  refine ⟨this.1,fun nf hnf=>?_⟩
  have:=this.2
  rw [hnf] at this
  exact this
 exact rq hm (fun g f e=>(key g f e).1) hl rfl (fun g f nf e hp=>(key g f e).2 nf hp)
end Go.Gv

namespace Go.Gv
open Go.Proofs
def TryzTbl : List (Nat × Nat) := [(0, 2), (853, 3), (241, 4), (242, 5), (279, 6), (842, 7), (844, 8), (845, 9), (215, 10), (870, 11), (20, 12), (871, 13), (19, 14), (217, 15), (872, 16), (296, 17), (873, 18), (243, 19), (244, 20), (245, 21), (280, 22), (314, 23), (99, 24), (846, 25), (327, 26), (271, 27), (272, 28), (221, 29), (220, 30), (374, 31), (847, 32), (329, 33), (331, 34), (332, 35), (257, 36), (258, 37), (281, 38), (68, 39), (337, 40), (67, 41), (350, 42), (93, 43), (66, 44), (351, 45), (259, 46), (246, 47), (283, 48), (42, 49), (315, 50), (223, 51), (316, 52), (317, 53), (318, 54), (330, 55), (105, 56), (103, 57), (106, 58), (107, 59), (108, 60), (301, 61), (234, 62), (261, 63), (253, 64), (289, 67), (290, 68), (291, 69), (292, 70), (293, 71), (294, 72), (295, 73), (84, 74), (86, 75), (83, 76), (87, 77), (95, 78), (85, 79), (82, 80), (338, 81), (287, 82), (282, 83), (333, 84), (262, 85), (334, 86), (335, 87), (91, 88), (112, 89), (113, 90), (104, 93), (273, 94), (298, 95), (111, 105), (285, 106), (286, 107), (323, 108), (324, 109), (94, 110), (322, 111), (339, 112), (92, 113), (110, 114), (302, 115), (303, 116), (304, 117), (305, 118), (11, 119), (306, 120), (307, 121), (308, 122), (309, 123), (310, 124), (311, 125), (127, 126), (102, 132), (313, 133), (35, 134), (328, 135), (340, 165), (341, 166), (342, 167), (343, 168)]
def TryzTys : List (Nat × Nat) := [(1, 4), (2, 3), (20, 96), (3, 161), (4, 127)]
set_option maxRecDepth 100000 in
theorem Tryz_all : B1 Tryz.prog ⟨Tryz.prog, fun g => TryzTbl.lookup g, fun t => (TryzTys.lookup t).getD 0, fun _ => .nilIface⟩ prog TryzTbl = true := by kernel_rfl
end Go.Gv

namespace Go.Gv
open Go.RowKit
theorem sK {P : Program} {F : Fid} {g : Nat} {ds : List D} {d : D} (h : ∀ f,F g=some f -> ∀ (M : Mem) (w : World) (vs : List Value),az F M ds vs -> ∃ v,ae F M d v /\ Calls P f vs.toArray w (fun e w'=>e=.returned v /\ w'=w)) : fu P F g ds d []:=by
 refine ⟨trivial,fun f hf M w vs hh r=>?_⟩
 obtain ⟨v,hv,hc⟩:=h f hf M w vs r
 refine hc.mono ?_
 rintro e w' ⟨rfl,rfl⟩
 exact ⟨v,M,rfl,Bel.refl _,Mem.le_refl _,fun p h1 h2=>absurd h1 h2,hh,hv⟩
end Go.Gv

namespace Go.Proofs
open Go.Shelf
def Tryz.sortL_ren : Go.Shelf.Ren := ⟨fun | 6 => 31 | 15 => 66 | 14 => 65 | 28 => 104 | 29 => 105 | 20 => 96 | 21 => 97 | 22 => 98 | 23 => 99 | 24 => 100 | 25 => 101 | 26 => 102 | 27 => 103 | 46 => 127 | 47 => 128 | 48 => 129 | 49 => 130 | 50 => 131 | 57 => 137 | n => n, fun | 22 => 42 | 24 => 3 | 25 => 73 | 3 => 3 | 39 => 120 | 0 => 0 | 53 => 171 | 55 => 82 | 4 => 4 | 46 => 165 | 45 => 164 | 50 => 48 | 5 => 5 | 9 => 9 | 66 => 195 | 70 => 199 | 76 => 206 | 77 => 141 | n => n, fun | n => n⟩
theorem Tryz.sortL : Go.Proofs.SlLaysF.n6 Tryz.prog Tryz.sortL_ren := {
 mixed := by kernel_rfl
 f6 := ⟨Tryz.f31.name, by decide, Tryz.func31.trans (congrArg some (by kernel_rfl))⟩
 f14 := ⟨Tryz.f65.name, by decide, Tryz.func65.trans (congrArg some (by kernel_rfl))⟩
 f15 := Tryz.func66.trans (congrArg some (by kernel_rfl))
 f20 := ⟨Tryz.f96.name, by decide, Tryz.func96.trans (congrArg some (by kernel_rfl))⟩
 f21 := ⟨Tryz.f97.name, by decide, Tryz.func97.trans (congrArg some (by kernel_rfl))⟩
 f22 := ⟨Tryz.f98.name, by decide, Tryz.func98.trans (congrArg some (by kernel_rfl))⟩
 f23 := ⟨Tryz.f99.name, by decide, Tryz.func99.trans (congrArg some (by kernel_rfl))⟩
 f24 := ⟨Tryz.f100.name, by decide, Tryz.func100.trans (congrArg some (by kernel_rfl))⟩
 f25 := ⟨Tryz.f101.name, by decide, Tryz.func101.trans (congrArg some (by kernel_rfl))⟩
 f26 := ⟨Tryz.f102.name, by decide, Tryz.func102.trans (congrArg some (by kernel_rfl))⟩
 f27 := ⟨Tryz.f103.name, by decide, Tryz.func103.trans (congrArg some (by kernel_rfl))⟩
 f28 := Tryz.func104.trans (congrArg some (by kernel_rfl))
 f29 := Tryz.func105.trans (congrArg some (by kernel_rfl))
 f46 := ⟨Tryz.f127.name, by decide, Tryz.func127.trans (congrArg some (by kernel_rfl))⟩
 f47 := Tryz.func128.trans (congrArg some (by kernel_rfl))
 f48 := Tryz.func129.trans (congrArg some (by kernel_rfl))
 f49 := ⟨Tryz.f130.name, by decide, Tryz.func130.trans (congrArg some (by kernel_rfl))⟩
 f50 := ⟨Tryz.f131.name, by decide, Tryz.func131.trans (congrArg some (by kernel_rfl))⟩
 f57 := ⟨Tryz.f137.name, by decide, Tryz.func137.trans (congrArg some (by kernel_rfl))⟩
 t0 := Tryz.underlying0
 a0 := Tryz.isAgg0
 z0 := Tryz.sizeOf0
 v0 := Tryz.zeroValue0
 t3 := Tryz.underlying3
 a3 := Tryz.isAgg3
 z3 := Tryz.sizeOf3
 v3 := Tryz.zeroValue3
 t4 := Tryz.underlying4
 a4 := Tryz.isAgg4
 z4 := Tryz.sizeOf4
 v4 := Tryz.zeroValue4
 t5 := Tryz.underlying5
 a5 := Tryz.isAgg5
 z5 := Tryz.sizeOf5
 v5 := Tryz.zeroValue5
 t9 := Tryz.underlying9
 a9 := Tryz.isAgg9
 z9 := Tryz.sizeOf9
 v9 := Tryz.zeroValue9
 t22 := Tryz.underlying42
 a22 := Tryz.isAgg42
 z22 := Tryz.sizeOf42
 v22 := Tryz.zeroValue42
 a24 := Tryz.isAgg3
 z24 := Tryz.sizeOf3
 t25 := Tryz.underlying73
 a25 := Tryz.isAgg73
 z25 := Tryz.sizeOf73
 v25 := Tryz.zeroValue73
 t39 := Tryz.underlying120
 a39 := Tryz.isAgg120
 z39 := Tryz.sizeOf120
 v39 := Tryz.zeroValue120
 t45 := Tryz.underlying164
 a45 := Tryz.isAgg164
 z45 := Tryz.sizeOf164
 v45 := Tryz.zeroValue164
 t46 := Tryz.underlying165
 a46 := Tryz.isAgg165
 z46 := Tryz.sizeOf165
 v46 := Tryz.zeroValue165
 t50 := Tryz.underlying48
 a50 := Tryz.isAgg48
 z50 := Tryz.sizeOf48
 v50 := Tryz.zeroValue48
 t53 := Tryz.underlying171
 a53 := Tryz.isAgg171
 z53 := Tryz.sizeOf171
 v53 := Tryz.zeroValue171
 t55 := Tryz.underlying82
 a55 := Tryz.isAgg82
 z55 := Tryz.sizeOf82
 v55 := Tryz.zeroValue82
 t66 := Tryz.underlying195
 a66 := Tryz.isAgg195
 z66 := Tryz.sizeOf195
 v66 := Tryz.zeroValue195
 t70 := Tryz.underlying199
 a70 := Tryz.isAgg199
 z70 := Tryz.sizeOf199
 v70 := Tryz.zeroValue199
 t76 := Tryz.underlying206
 a76 := Tryz.isAgg206
 z76 := Tryz.sizeOf206
 v76 := Tryz.zeroValue206
 t77 := Tryz.underlying141
 a77 := Tryz.isAgg141
 z77 := Tryz.sizeOf141
 v77 := Tryz.zeroValue141 }
def Tryz.lays171_ren : Go.Shelf.Ren := ⟨fun | 171 => 126 | 243 => 136 | 246 => 138 | 283 => 139 | 284 => 140 | 285 => 141 | 286 => 142 | 129 => 105 | 317 => 143 | 318 => 144 | 319 => 145 | 320 => 146 | 337 => 147 | 338 => 148 | n => n, fun | 3 => 3 | 9 => 9 | 2 => 2 | 4 => 4 | 171 => 209 | 0 => 0 | 53 => 82 | 37 => 173 | 5 => 5 | 173 => 211 | 212 => 214 | 51 => 171 | 20 => 20 | 213 => 215 | 46 => 120 | 232 => 216 | 233 => 217 | n => n, fun | 17 => 2 | 18 => 3 | 19 => 4 | n => n⟩
theorem Tryz.lays171 : Go.Proofs.Lays.n171 Tryz.prog Tryz.lays171_ren := {
 mixed := by kernel_rfl
 f129 := Tryz.func105.trans (congrArg some (by kernel_rfl))
 f171 := Tryz.func126.trans (congrArg some (by kernel_rfl))
 f243 := Tryz.func136.trans (congrArg some (by kernel_rfl))
 f246 := Tryz.func138.trans (congrArg some (by kernel_rfl))
 f283 := Tryz.func139.trans (congrArg some (by kernel_rfl))
 f284 := Tryz.func140.trans (congrArg some (by kernel_rfl))
 f285 := Tryz.func141.trans (congrArg some (by kernel_rfl))
 f286 := Tryz.func142.trans (congrArg some (by kernel_rfl))
 f317 := Tryz.func143.trans (congrArg some (by kernel_rfl))
 f318 := Tryz.func144.trans (congrArg some (by kernel_rfl))
 f319 := Tryz.func145.trans (congrArg some (by kernel_rfl))
 f320 := Tryz.func146.trans (congrArg some (by kernel_rfl))
 f337 := Tryz.func147.trans (congrArg some (by kernel_rfl))
 f338 := Tryz.func148.trans (congrArg some (by kernel_rfl))
 t0 := Tryz.underlying0
 a0 := Tryz.isAgg0
 z0 := Tryz.sizeOf0
 v0 := Tryz.zeroValue0
 t2 := Tryz.underlying2
 a2 := Tryz.isAgg2
 z2 := Tryz.sizeOf2
 v2 := Tryz.zeroValue2
 t3 := Tryz.underlying3
 a3 := Tryz.isAgg3
 z3 := Tryz.sizeOf3
 v3 := Tryz.zeroValue3
 t4 := Tryz.underlying4
 a4 := Tryz.isAgg4
 z4 := Tryz.sizeOf4
 v4 := Tryz.zeroValue4
 t5 := Tryz.underlying5
 a5 := Tryz.isAgg5
 z5 := Tryz.sizeOf5
 v5 := Tryz.zeroValue5
 t9 := Tryz.underlying9
 a9 := Tryz.isAgg9
 z9 := Tryz.sizeOf9
 v9 := Tryz.zeroValue9
 t20 := Tryz.underlying20
 a20 := Tryz.isAgg20
 z20 := Tryz.sizeOf20
 v20 := Tryz.zeroValue20
 t37 := Tryz.underlying173
 a37 := Tryz.isAgg173
 z37 := Tryz.sizeOf173
 v37 := Tryz.zeroValue173
 t46 := Tryz.underlying120
 a46 := Tryz.isAgg120
 z46 := Tryz.sizeOf120
 v46 := Tryz.zeroValue120
 t51 := Tryz.underlying171
 a51 := Tryz.isAgg171
 z51 := Tryz.sizeOf171
 v51 := Tryz.zeroValue171
 t53 := Tryz.underlying82
 a53 := Tryz.isAgg82
 z53 := Tryz.sizeOf82
 v53 := Tryz.zeroValue82
 t171 := Tryz.underlying209
 a171 := Tryz.isAgg209
 z171 := Tryz.sizeOf209
 v171 := Tryz.zeroValue209
 t173 := Tryz.underlying211
 a173 := Tryz.isAgg211
 z173 := Tryz.sizeOf211
 v173 := Tryz.zeroValue211
 t212 := Tryz.underlying214
 a212 := Tryz.isAgg214
 z212 := Tryz.sizeOf214
 v212 := Tryz.zeroValue214
 t213 := Tryz.underlying215
 a213 := Tryz.isAgg215
 z213 := Tryz.sizeOf215
 t232 := Tryz.underlying216
 a232 := Tryz.isAgg216
 z232 := Tryz.sizeOf216
 v232 := Tryz.zeroValue216
 t233 := Tryz.underlying217
 a233 := Tryz.isAgg217
 z233 := Tryz.sizeOf217
 v233 := Tryz.zeroValue217
 g17 := by kernel_rfl
 g18 := by kernel_rfl
 g19 := by kernel_rfl }
open Go.RowKit Go.Sort Go.Lib in
theorem Tryz.strconv_Itoa_small (i : Nat) (hi : i < 100) (w : World) :
  Calls Tryz.prog 126 #[.int .i64 i] w fun e w' => e = .returned (.string ⟨(Lib.decDigits i).toArray⟩) /\ w' = w := Any.strconv_Itoa_small Tryz.lays171 i hi w
end Go.Proofs

namespace Go.Gv
structure Tag {α : Type _} (x : α) : Type where
@[simp] theorem Qs : isV (.any)=true:=zR
@[simp] theorem Qy {k n} : isV (.int k n)=true:=zR
@[simp] theorem Ld {b} : isV (.bool b)=true:=zR
@[simp] theorem QH {s} : isV (.str s)=true:=zR
@[simp] theorem Le : isV (.nilp)=true:=zR
@[simp] theorem Lf : isV (.nils)=true:=zR
@[simp] theorem Qq {ds} : isV (.agg ds)=true:=zR
@[simp] theorem QJ {ds} : isV (.tup ds)=true:=zR
@[simp] theorem S7 {es} : isV (.sl es)=true:=zR
@[simp] theorem QB {ds} : isV (.ptr ds)=true:=zR
@[simp] theorem S5 {g ds} : isV (.fn g ds)=true:=zR
@[simp] theorem QA {sz es} : isV (.own sz es)=false:=zR
@[simp] theorem Qt {sz es} : isV (.blk sz es)=false:=zR
@[simp] theorem S6 {kt et ks vs} : isV (.mp kt et ks vs)=false:=zR
@[simp] theorem Qz {b} : isV (.mrf b)=false:=zR
@[simp] theorem QD {p k n} : isV (.ref p k n)=false:=zR
@[simp] theorem Qp {p i off} : isV (.adr p i off)=false:=zR
@[simp] theorem Qr {ds} : isV (.agx ds)=false:=zR
@[simp] theorem QI {ds} : isV (.tpx ds)=false:=zR
@[simp] theorem QC {ds} : isV (.ptx ds)=false:=zR
@[simp] theorem QE {n sz ds} : isV (.rfx n sz ds)=false:=zR
@[simp] theorem Qu {g ds} : isV (.fnx g ds)=false:=zR
@[simp] theorem Qw {T p i off} : isV (.ifa T p i off)=false:=zR
@[simp] theorem Qx {T n} : isV (.ifi T n)=true:=zR
@[simp] theorem QF {k es} : isV (.slv k es)=true:=zR
@[simp] theorem Qv {g ds cs} : isV (.fny g ds cs)=false:=zR
@[simp] theorem O4 : isK (.any)=false:=zR
@[simp] theorem Pb {k n} : isK (.int k n)=true:=zR
@[simp] theorem KS {b} : isK (.bool b)=true:=zR
@[simp] theorem Pk {s} : isK (.str s)=true:=zR
@[simp] theorem KU : isK (.nilp)=true:=zR
@[simp] theorem KV : isK (.nils)=true:=zR
@[simp] theorem O1 {ds} : isK (.agg ds)=true:=zR
@[simp] theorem Pm {ds} : isK (.tup ds)=true:=zR
@[simp] theorem SN {es} : isK (.sl es)=true:=zR
@[simp] theorem Pe {ds} : isK (.ptr ds)=true:=zR
@[simp] theorem SL {g ds} : isK (.fn g ds)=true:=zR
@[simp] theorem Pd {sz es} : isK (.own sz es)=false:=zR
@[simp] theorem O5 {sz es} : isK (.blk sz es)=false:=zR
@[simp] theorem SM {kt et ks vs} : isK (.mp kt et ks vs)=false:=zR
@[simp] theorem Pc {b} : isK (.mrf b)=false:=zR
@[simp] theorem Pg {p k n} : isK (.ref p k n)=false:=zR
@[simp] theorem O0 {p i off} : isK (.adr p i off)=false:=zR
@[simp] theorem O3 {ds} : isK (.agx ds)=false:=zR
@[simp] theorem Pl {ds} : isK (.tpx ds)=false:=zR
@[simp] theorem Pf {ds} : isK (.ptx ds)=false:=zR
@[simp] theorem Ph {n sz ds} : isK (.rfx n sz ds)=false:=zR
@[simp] theorem O6 {g ds} : isK (.fnx g ds)=false:=zR
@[simp] theorem O8 {T p i off} : isK (.ifa T p i off)=false:=zR
@[simp] theorem O9 {T n} : isK (.ifi T n)=true:=zR
@[simp] theorem Pi {k es} : isK (.slv k es)=true:=zR
@[simp] theorem O7 {g ds cs} : isK (.fny g ds cs)=false:=zR
@[simp] theorem PL : isP (.any)=true:=zR
@[simp] theorem PR {k n} : isP (.int k n)=true:=zR
@[simp] theorem KZ {b} : isP (.bool b)=true:=zR
@[simp] theorem P0 {s} : isP (.str s)=true:=zR
@[simp] theorem K0 : isP (.nilp)=true:=zR
@[simp] theorem K9 : isP (.nils)=true:=zR
@[simp] theorem PJ {ds} : isP (.agg ds)=true:=zR
@[simp] theorem P2 {ds} : isP (.tup ds)=true:=zR
@[simp] theorem SW {es} : isP (.sl es)=true:=zR
@[simp] theorem PU {ds} : isP (.ptr ds)=true:=zR
@[simp] theorem SU {g ds} : isP (.fn g ds)=true:=zR
@[simp] theorem PT {sz es} : isP (.own sz es)=false:=zR
@[simp] theorem PM {sz es} : isP (.blk sz es)=false:=zR
@[simp] theorem SV {kt et ks vs} : isP (.mp kt et ks vs)=false:=zR
@[simp] theorem PS {b} : isP (.mrf b)=true:=zR
@[simp] theorem PW {p k n} : isP (.ref p k n)=true:=zR
@[simp] theorem PI {p i off} : isP (.adr p i off)=true:=zR
@[simp] theorem PK {ds} : isP (.agx ds)=false:=zR
@[simp] theorem P1 {ds} : isP (.tpx ds)=false:=zR
@[simp] theorem PV {ds} : isP (.ptx ds)=false:=zR
@[simp] theorem PX {n sz ds} : isP (.rfx n sz ds)=false:=zR
@[simp] theorem PN {g ds} : isP (.fnx g ds)=false:=zR
@[simp] theorem PP {T p i off} : isP (.ifa T p i off)=true:=zR
@[simp] theorem PQ {T n} : isP (.ifi T n)=true:=zR
@[simp] theorem PY {k es} : isP (.slv k es)=true:=zR
@[simp] theorem PO {g ds cs} : isP (.fny g ds cs)=false:=zR
@[simp] theorem P7 : isS (.any)=true:=zR
@[simp] theorem S4 : isV (.bb)=true:=zR
@[simp] theorem SX : isS (.bb)=true:=zR
@[simp] theorem SS : isP (.bb)=true:=zR
@[simp] theorem SE : isB (.bb)=false:=zR
@[simp] theorem JE : cw (.bb)=false:=zR
@[simp] theorem G5 : bj (.bb)=[]:=zR
@[simp] theorem Db : aG (.bb)=[]:=zR
@[simp] theorem Qd {k n} : isS (.int k n)=true:=zR
@[simp] theorem La {b} : isS (.bool b)=true:=zR
@[simp] theorem Qm {s} : isS (.str s)=true:=zR
@[simp] theorem Lb : isS (.nilp)=true:=zR
@[simp] theorem Lc : isS (.nils)=true:=zR
@[simp] theorem P5 {ds} : isS (.agg ds)=true:=zR
@[simp] theorem Qo {ds} : isS (.tup ds)=true:=zR
@[simp] theorem S2 {es} : isS (.sl es)=true:=zR
@[simp] theorem Qg {ds} : isS (.ptr ds)=true:=zR
@[simp] theorem SY {g ds} : isS (.fn g ds)=true:=zR
@[simp] theorem Qf {sz es} : isS (.own sz es)=false:=zR
@[simp] theorem P8 {sz es} : isS (.blk sz es)=false:=zR
@[simp] theorem SZ {kt et ks vs} : isS (.mp kt et ks vs)=false:=zR
@[simp] theorem Qe {b} : isS (.mrf b)=true:=zR
@[simp] theorem Qi {p k n} : isS (.ref p k n)=true:=zR
@[simp] theorem P4 {p i off} : isS (.adr p i off)=true:=zR
@[simp] theorem P6 {ds} : isS (.agx ds)=ds.all isP:=zR
@[simp] theorem Qn {ds} : isS (.tpx ds)=ds.all isP:=zR
@[simp] theorem Qh {ds} : isS (.ptx ds)=ds.all isP:=zR
@[simp] theorem Qj {n sz ds} : isS (.rfx n sz ds)=ds.all isP:=zR
@[simp] theorem P9 {g ds} : isS (.fnx g ds)=ds.all isP:=zR
@[simp] theorem Qb {T p i off} : isS (.ifa T p i off)=true:=zR
@[simp] theorem Qc {T n} : isS (.ifi T n)=true:=zR
@[simp] theorem Qk {k es} : isS (.slv k es)=true:=zR
@[simp] theorem Qa {g ds cs} : isS (.fny g ds cs)=(ds.all isP && cs.all isP):=zR
@[simp] theorem JO : aH (.any)=false:=zR
@[simp] theorem JU {k n} : aH (.int k n)=true:=zR
@[simp] theorem Gi {b} : aH (.bool b)=true:=zR
@[simp] theorem J7 {s} : aH (.str s)=true:=zR
@[simp] theorem Gj : aH (.nilp)=true:=zR
@[simp] theorem Gk : aH (.nils)=true:=zR
@[simp] theorem JM {ds} : aH (.agg ds)=false:=zR
@[simp] theorem J9 {ds} : aH (.tup ds)=false:=zR
@[simp] theorem Oz {es} : aH (.sl es)=true:=zR
@[simp] theorem JX {ds} : aH (.ptr ds)=true:=zR
@[simp] theorem Ox {g ds} : aH (.fn g ds)=true:=zR
@[simp] theorem JW {sz es} : aH (.own sz es)=false:=zR
@[simp] theorem JP {sz es} : aH (.blk sz es)=false:=zR
@[simp] theorem Oy {kt et ks vs} : aH (.mp kt et ks vs)=false:=zR
@[simp] theorem JV {b} : aH (.mrf b)=false:=zR
@[simp] theorem JZ {p k n} : aH (.ref p k n)=false:=zR
@[simp] theorem JL {p i off} : aH (.adr p i off)=false:=zR
@[simp] theorem JN {ds} : aH (.agx ds)=false:=zR
@[simp] theorem J8 {ds} : aH (.tpx ds)=false:=zR
@[simp] theorem JY {ds} : aH (.ptx ds)=false:=zR
@[simp] theorem J0 {n sz ds} : aH (.rfx n sz ds)=false:=zR
@[simp] theorem JQ {g ds} : aH (.fnx g ds)=false:=zR
@[simp] theorem JS {T p i off} : aH (.ifa T p i off)=false:=zR
@[simp] theorem JT {T n} : aH (.ifi T n)=false:=zR
@[simp] theorem J5 {k es} : aH (.slv k es)=false:=zR
@[simp] theorem JR {g ds cs} : aH (.fny g ds cs)=false:=zR
@[simp] theorem Pq : isO (.any)=false:=zR
@[simp] theorem Pw {k n} : isO (.int k n)=false:=zR
@[simp] theorem KW {b} : isO (.bool b)=false:=zR
@[simp] theorem PF {s} : isO (.str s)=false:=zR
@[simp] theorem KX : isO (.nilp)=false:=zR
@[simp] theorem KY : isO (.nils)=false:=zR
@[simp] theorem Po {ds} : isO (.agg ds)=false:=zR
@[simp] theorem PH {ds} : isO (.tup ds)=false:=zR
@[simp] theorem SQ {es} : isO (.sl es)=false:=zR
@[simp] theorem Pz {ds} : isO (.ptr ds)=false:=zR
@[simp] theorem SO {g ds} : isO (.fn g ds)=false:=zR
@[simp] theorem Py {sz es} : isO (.own sz es)=true:=zR
@[simp] theorem Pr {sz es} : isO (.blk sz es)=false:=zR
@[simp] theorem SP {kt et ks vs} : isO (.mp kt et ks vs)=false:=zR
@[simp] theorem Px {b} : isO (.mrf b)=false:=zR
@[simp] theorem PB {p k n} : isO (.ref p k n)=false:=zR
@[simp] theorem Pn {p i off} : isO (.adr p i off)=false:=zR
@[simp] theorem Pp {ds} : isO (.agx ds)=false:=zR
@[simp] theorem PG {ds} : isO (.tpx ds)=false:=zR
@[simp] theorem PA {ds} : isO (.ptx ds)=false:=zR
@[simp] theorem PC {n sz ds} : isO (.rfx n sz ds)=false:=zR
@[simp] theorem Ps {g ds} : isO (.fnx g ds)=false:=zR
@[simp] theorem Pu {T p i off} : isO (.ifa T p i off)=false:=zR
@[simp] theorem Pv {T n} : isO (.ifi T n)=false:=zR
@[simp] theorem PD {k es} : isO (.slv k es)=false:=zR
@[simp] theorem Pt {g ds cs} : isO (.fny g ds cs)=false:=zR
@[simp] theorem Kd : bg (.any)=true:=zR
@[simp] theorem Kj {k n} : bg (.int k n)=true:=zR
@[simp] theorem Gl {b} : bg (.bool b)=true:=zR
@[simp] theorem Kr {s} : bg (.str s)=true:=zR
@[simp] theorem Gm : bg (.nilp)=true:=zR
@[simp] theorem Gn : bg (.nils)=true:=zR
@[simp] theorem Kb {ds} : bg (.agg ds)=false:=zR
@[simp] theorem Kt {ds} : bg (.tup ds)=false:=zR
@[simp] theorem OC {es} : bg (.sl es)=false:=zR
@[simp] theorem Km {ds} : bg (.ptr ds)=false:=zR
@[simp] theorem OA {g ds} : bg (.fn g ds)=false:=zR
@[simp] theorem Kl {sz es} : bg (.own sz es)=false:=zR
@[simp] theorem Ke {sz es} : bg (.blk sz es)=false:=zR
@[simp] theorem OB {kt et ks vs} : bg (.mp kt et ks vs)=false:=zR
@[simp] theorem Kk {b} : bg (.mrf b)=false:=zR
@[simp] theorem Ko {p k n} : bg (.ref p k n)=false:=zR
@[simp] theorem Ka {p i off} : bg (.adr p i off)=false:=zR
@[simp] theorem Kc {ds} : bg (.agx ds)=false:=zR
@[simp] theorem Ks {ds} : bg (.tpx ds)=false:=zR
@[simp] theorem Kn {ds} : bg (.ptx ds)=false:=zR
@[simp] theorem Kp {n sz ds} : bg (.rfx n sz ds)=false:=zR
@[simp] theorem Kf {g ds} : bg (.fnx g ds)=false:=zR
@[simp] theorem Kh {T p i off} : bg (.ifa T p i off)=false:=zR
@[simp] theorem Ki {T n} : bg (.ifi T n)=true:=zR
@[simp] theorem Kq {k es} : bg (.slv k es)=false:=zR
@[simp] theorem Kg {g ds cs} : bg (.fny g ds cs)=false:=zR
@[simp] theorem Kx : dF (.any)=true:=zR
@[simp] theorem KD {k n} : dF (.int k n)=true:=zR
@[simp] theorem Gp {b} : dF (.bool b)=true:=zR
@[simp] theorem KM {s} : dF (.str s)=true:=zR
@[simp] theorem Gq : dF (.nilp)=true:=zR
@[simp] theorem Gr : dF (.nils)=true:=zR
@[simp] theorem Kv {ds} : dF (.agg ds)=ds.all bg:=zR
@[simp] theorem KO {ds} : dF (.tup ds)=false:=zR
@[simp] theorem OF {es} : dF (.sl es)=false:=zR
@[simp] theorem KG {ds} : dF (.ptr ds)=false:=zR
@[simp] theorem OD {g ds} : dF (.fn g ds)=false:=zR
@[simp] theorem KF {sz es} : dF (.own sz es)=false:=zR
@[simp] theorem Ky {sz es} : dF (.blk sz es)=false:=zR
@[simp] theorem OE {kt et ks vs} : dF (.mp kt et ks vs)=false:=zR
@[simp] theorem KE {b} : dF (.mrf b)=false:=zR
@[simp] theorem KI {p k n} : dF (.ref p k n)=false:=zR
@[simp] theorem Ku {p i off} : dF (.adr p i off)=false:=zR
@[simp] theorem Kw {ds} : dF (.agx ds)=false:=zR
@[simp] theorem KN {ds} : dF (.tpx ds)=false:=zR
@[simp] theorem KH {ds} : dF (.ptx ds)=false:=zR
@[simp] theorem KJ {n sz ds} : dF (.rfx n sz ds)=false:=zR
@[simp] theorem Kz {g ds} : dF (.fnx g ds)=false:=zR
@[simp] theorem KB {T p i off} : dF (.ifa T p i off)=false:=zR
@[simp] theorem KC {T n} : dF (.ifi T n)=true:=zR
@[simp] theorem KL {k es} : dF (.slv k es)=false:=zR
@[simp] theorem KA {g ds cs} : dF (.fny g ds cs)=false:=zR
@[simp] theorem OJ : isF (.any)=true:=zR
@[simp] theorem OP {k n} : isF (.int k n)=true:=zR
@[simp] theorem KP {b} : isF (.bool b)=true:=zR
@[simp] theorem OX {s} : isF (.str s)=true:=zR
@[simp] theorem KQ : isF (.nilp)=true:=zR
@[simp] theorem KR : isF (.nils)=true:=zR
@[simp] theorem OH {ds} : isF (.agg ds)=ds.all bg:=zR
@[simp] theorem OZ {ds} : isF (.tup ds)=ds.all dF:=zR
@[simp] theorem SK {es} : isF (.sl es)=false:=zR
@[simp] theorem OS {ds} : isF (.ptr ds)=false:=zR
@[simp] theorem SI {g ds} : isF (.fn g ds)=false:=zR
@[simp] theorem OR {sz es} : isF (.own sz es)=false:=zR
@[simp] theorem OK {sz es} : isF (.blk sz es)=false:=zR
@[simp] theorem SJ {kt et ks vs} : isF (.mp kt et ks vs)=false:=zR
@[simp] theorem OQ {b} : isF (.mrf b)=false:=zR
@[simp] theorem OU {p k n} : isF (.ref p k n)=false:=zR
@[simp] theorem OG {p i off} : isF (.adr p i off)=false:=zR
@[simp] theorem OI {ds} : isF (.agx ds)=false:=zR
@[simp] theorem OY {ds} : isF (.tpx ds)=false:=zR
@[simp] theorem OT {ds} : isF (.ptx ds)=false:=zR
@[simp] theorem OV {n sz ds} : isF (.rfx n sz ds)=false:=zR
@[simp] theorem OL {g ds} : isF (.fnx g ds)=false:=zR
@[simp] theorem ON {T p i off} : isF (.ifa T p i off)=false:=zR
@[simp] theorem OO {T n} : isF (.ifi T n)=true:=zR
@[simp] theorem OW {k es} : isF (.slv k es)=false:=zR
@[simp] theorem OM {g ds cs} : isF (.fny g ds cs)=false:=zR
@[simp] theorem Oa : isB (.any)=false:=zR
@[simp] theorem Oh {k n} : isB (.int k n)=false:=zR
@[simp] theorem JI {b} : isB (.bool b)=false:=zR
@[simp] theorem Ou {s} : isB (.str s)=false:=zR
@[simp] theorem JJ : isB (.nilp)=false:=zR
@[simp] theorem JK : isB (.nils)=false:=zR
@[simp] theorem N8 {ds} : isB (.agg ds)=false:=zR
@[simp] theorem Ow {ds} : isB (.tup ds)=false:=zR
@[simp] theorem SH {es} : isB (.sl es)=false:=zR
@[simp] theorem Ol {ds} : isB (.ptr ds)=false:=zR
@[simp] theorem SF {g ds} : isB (.fn g ds)=false:=zR
@[simp] theorem Oj {sz es} : isB (.own sz es)=false:=zR
@[simp] theorem Ob {sz es} : isB (.blk sz es)=true:=zR
@[simp] theorem SG {kt et ks vs} : isB (.mp kt et ks vs)=true:=zR
@[simp] theorem Oi {b} : isB (.mrf b)=false:=zR
@[simp] theorem On {p k n} : isB (.ref p k n)=false:=zR
@[simp] theorem N7 {p i off} : isB (.adr p i off)=false:=zR
@[simp] theorem N9 {ds} : isB (.agx ds)=false:=zR
@[simp] theorem Ov {ds} : isB (.tpx ds)=false:=zR
@[simp] theorem Om {ds} : isB (.ptx ds)=false:=zR
@[simp] theorem Oo {n sz ds} : isB (.rfx n sz ds)=false:=zR
@[simp] theorem Oc {g ds} : isB (.fnx g ds)=false:=zR
@[simp] theorem Oe {T p i off} : isB (.ifa T p i off)=false:=zR
@[simp] theorem Og {T n} : isB (.ifi T n)=false:=zR
@[simp] theorem Oq {k es} : isB (.slv k es)=false:=zR
@[simp] theorem Od {g ds cs} : isB (.fny g ds cs)=false:=zR
@[simp] theorem FX : cw (.any)=true:=zR
@[simp] theorem F6 {k n} : cw (.int k n)=false:=zR
@[simp] theorem CR {b} : cw (.bool b)=false:=zR
@[simp] theorem Gf {s} : cw (.str s)=false:=zR
@[simp] theorem CS : cw (.nilp)=false:=zR
@[simp] theorem CT : cw (.nils)=false:=zR
@[simp] theorem FV {ds} : cw (.agg ds)=false:=zR
@[simp] theorem Gh {ds} : cw (.tup ds)=false:=zR
@[simp] theorem JH {es} : cw (.sl es)=false:=zR
@[simp] theorem F9 {ds} : cw (.ptr ds)=false:=zR
@[simp] theorem JF {g ds} : cw (.fn g ds)=false:=zR
@[simp] theorem F8 {sz es} : cw (.own sz es)=false:=zR
@[simp] theorem FY {sz es} : cw (.blk sz es)=false:=zR
@[simp] theorem JG {kt et ks vs} : cw (.mp kt et ks vs)=false:=zR
@[simp] theorem F7 {b} : cw (.mrf b)=false:=zR
@[simp] theorem Gb {p k n} : cw (.ref p k n)=false:=zR
@[simp] theorem FU {p i off} : cw (.adr p i off)=false:=zR
@[simp] theorem FW {ds} : cw (.agx ds)=false:=zR
@[simp] theorem Gg {ds} : cw (.tpx ds)=false:=zR
@[simp] theorem Ga {ds} : cw (.ptx ds)=false:=zR
@[simp] theorem Gc {n sz ds} : cw (.rfx n sz ds)=false:=zR
@[simp] theorem FZ {g ds} : cw (.fnx g ds)=false:=zR
@[simp] theorem F4 {T p i off} : cw (.ifa T p i off)=false:=zR
@[simp] theorem F5 {T n} : cw (.ifi T n)=false:=zR
@[simp] theorem Gd {k es} : cw (.slv k es)=false:=zR
@[simp] theorem F0 {g ds cs} : cw (.fny g ds cs)=false:=zR
@[simp] theorem AV : cellsOf (.any)=[.any]:=zR
@[simp] theorem A1 {k n} : cellsOf (.int k n)=[.int k n]:=zR
@[simp] theorem yA {b} : cellsOf (.bool b)=[.bool b]:=zR
@[simp] theorem Bb {s} : cellsOf (.str s)=[.str s]:=zR
@[simp] theorem yB : cellsOf (.nilp)=[.nilp]:=zR
@[simp] theorem yC : cellsOf (.nils)=[.nils]:=zR
@[simp] theorem AS {ds} : cellsOf (.agg ds)=ds:=zR
@[simp] theorem Bd {ds} : cellsOf (.tup ds)=[.tup ds]:=zR
@[simp] theorem Co {es} : cellsOf (.sl es)=[.sl es]:=zR
@[simp] theorem A5 {ds} : cellsOf (.ptr ds)=[.ptr ds]:=zR
@[simp] theorem Cl {g ds} : cellsOf (.fn g ds)=[.fn g ds]:=zR
@[simp] theorem A4 {sz es} : cellsOf (.own sz es)=[.own sz es]:=zR
@[simp] theorem AW {sz es} : cellsOf (.blk sz es)=[.blk sz es]:=zR
@[simp] theorem Cm {kt et ks vs} : cellsOf (.mp kt et ks vs)=[.mp kt et ks vs]:=zR
@[simp] theorem A3 {b} : cellsOf (.mrf b)=[.mrf b]:=zR
@[simp] theorem A7 {p k n} : cellsOf (.ref p k n)=[.ref p k n]:=zR
@[simp] theorem AR {p i off} : cellsOf (.adr p i off)=[.adr p i off]:=zR
@[simp] theorem AU {ds} : cellsOf (.agx ds)=[.agx ds]:=zR
@[simp] theorem Bc {ds} : cellsOf (.tpx ds)=[.tpx ds]:=zR
@[simp] theorem A6 {ds} : cellsOf (.ptx ds)=[.ptx ds]:=zR
@[simp] theorem A8 {n sz ds} : cellsOf (.rfx n sz ds)=[.rfx n sz ds]:=zR
@[simp] theorem AX {g ds} : cellsOf (.fnx g ds)=[.fnx g ds]:=zR
@[simp] theorem AZ {T p i off} : cellsOf (.ifa T p i off)=[.ifa T p i off]:=zR
@[simp] theorem A0 {T n} : cellsOf (.ifi T n)=[.ifi T n]:=zR
@[simp] theorem A9 {k es} : cellsOf (.slv k es)=[.slv k es]:=zR
@[simp] theorem AY {g ds cs} : cellsOf (.fny g ds cs)=[.fny g ds cs]:=zR
@[simp] theorem Es : bR (.any)=.any:=zR
@[simp] theorem Ey {k n} : bR (.int k n)=.int k n:=zR
@[simp] theorem Cd {b} : bR (.bool b)=.bool b:=zR
@[simp] theorem EH {s} : bR (.str s)=.str s:=zR
@[simp] theorem Ce : bR (.nilp)=.nilp:=zR
@[simp] theorem Cf : bR (.nils)=.nils:=zR
@[simp] theorem Ep {ds} : bR (.agg ds)=.agg ds:=zR
@[simp] theorem EJ {ds} : bR (.tup ds)=.tup ds:=zR
@[simp] theorem HQ {es} : bR (.sl es)=.sl es:=zR
@[simp] theorem EB {ds} : bR (.ptr ds)=.ptr ds:=zR
@[simp] theorem HO {g ds} : bR (.fn g ds)=.fn g ds:=zR
@[simp] theorem EA {sz es} : bR (.own sz es)=.own sz es:=zR
@[simp] theorem Et {sz es} : bR (.blk sz es)=.blk sz es:=zR
@[simp] theorem HP {kt et ks vs} : bR (.mp kt et ks vs)=.mp kt et ks vs:=zR
@[simp] theorem Ez {b} : bR (.mrf b)=.mrf b:=zR
@[simp] theorem ED {p k n} : bR (.ref p k n)=.ref p k n:=zR
@[simp] theorem Eo {p i off} : bR (.adr p i off)=.adr p i off:=zR
@[simp] theorem Er {ds} : bR (.agx ds)=.agg ds:=zR
@[simp] theorem EI {ds} : bR (.tpx ds)=.tpx ds:=zR
@[simp] theorem EC {ds} : bR (.ptx ds)=.ptx ds:=zR
@[simp] theorem EE {n sz ds} : bR (.rfx n sz ds)=.rfx n sz ds:=zR
@[simp] theorem Eu {g ds} : bR (.fnx g ds)=.fnx g ds:=zR
@[simp] theorem Ew {T p i off} : bR (.ifa T p i off)=.ifa T p i off:=zR
@[simp] theorem Ex {T n} : bR (.ifi T n)=.ifi T n:=zR
@[simp] theorem EF {k es} : bR (.slv k es)=.slv k es:=zR
@[simp] theorem Ev {g ds cs} : bR (.fny g ds cs)=.fny g ds cs:=zR
@[simp] theorem EY : bo (.any)=.any:=zR
@[simp] theorem E7 {k n} : bo (.int k n)=.int k n:=zR
@[simp] theorem Ci {b} : bo (.bool b)=.bool b:=zR
@[simp] theorem Fg {s} : bo (.str s)=.str s:=zR
@[simp] theorem Cj : bo (.nilp)=.nilp:=zR
@[simp] theorem Ck : bo (.nils)=.nils:=zR
@[simp] theorem EW {ds} : bo (.agg ds)=.agg ds:=zR
@[simp] theorem Fi {ds} : bo (.tup ds)=.tup ds:=zR
@[simp] theorem Iq {es} : bo (.sl es)=.sl es:=zR
@[simp] theorem Fa {ds} : bo (.ptr ds)=.ptr ds:=zR
@[simp] theorem Io {g ds} : bo (.fn g ds)=.fn g ds:=zR
@[simp] theorem E9 {sz es} : bo (.own sz es)=.sl es:=zR
@[simp] theorem EZ {sz es} : bo (.blk sz es)=.blk sz es:=zR
@[simp] theorem Ip {kt et ks vs} : bo (.mp kt et ks vs)=.mp kt et ks vs:=zR
@[simp] theorem E8 {b} : bo (.mrf b)=.mrf b:=zR
@[simp] theorem Fc {p k n} : bo (.ref p k n)=.ref p k n:=zR
@[simp] theorem EV {p i off} : bo (.adr p i off)=.adr p i off:=zR
@[simp] theorem EX {ds} : bo (.agx ds)=.agx ds:=zR
@[simp] theorem Fh {ds} : bo (.tpx ds)=.tpx ds:=zR
@[simp] theorem Fb {ds} : bo (.ptx ds)=.ptx ds:=zR
@[simp] theorem Fd {n sz ds} : bo (.rfx n sz ds)=.rfx n sz ds:=zR
@[simp] theorem E0 {g ds} : bo (.fnx g ds)=.fnx g ds:=zR
@[simp] theorem E5 {T p i off} : bo (.ifa T p i off)=.ifa T p i off:=zR
@[simp] theorem E6 {T n} : bo (.ifi T n)=.ifi T n:=zR
@[simp] theorem Fe {k es} : bo (.slv k es)=.slv k es:=zR
@[simp] theorem E4 {g ds cs} : bo (.fny g ds cs)=.fny g ds cs:=zR
@[simp] theorem Bv : aG (.any)=[]:=zR
@[simp] theorem BB {k n} : aG (.int k n)=[]:=zR
@[simp] theorem zB {b} : aG (.bool b)=[]:=zR
@[simp] theorem BL {s} : aG (.str s)=[]:=zR
@[simp] theorem zD : aG (.nilp)=[]:=zR
@[simp] theorem zE : aG (.nils)=[]:=zR
@[simp] theorem Bt {ds} : aG (.agg ds)=[]:=zR
@[simp] theorem BN {ds} : aG (.tup ds)=[]:=zR
@[simp] theorem De {es} : aG (.sl es)=[]:=zR
@[simp] theorem BE {ds} : aG (.ptr ds)=[]:=zR
@[simp] theorem Dc {g ds} : aG (.fn g ds)=[]:=zR
@[simp] theorem BD {sz es} : aG (.own sz es)=[]:=zR
@[simp] theorem Bw {sz es} : aG (.blk sz es)=[]:=zR
@[simp] theorem Dd {kt et ks vs} : aG (.mp kt et ks vs)=[]:=zR
@[simp] theorem BC {b} : aG (.mrf b)=[b]:=zR
@[simp] theorem BG {p k n} : aG (.ref p k n)=[p.root]:=zR
@[simp] theorem Bs {p i off} : aG (.adr p i off)=[p.root]:=zR
@[simp] theorem Bu {ds} : aG (.agx ds)=[]:=zR
@[simp] theorem BM {ds} : aG (.tpx ds)=[]:=zR
@[simp] theorem BF {ds} : aG (.ptx ds)=[]:=zR
@[simp] theorem BH {n sz ds} : aG (.rfx n sz ds)=[]:=zR
@[simp] theorem Bx {g ds} : aG (.fnx g ds)=[]:=zR
@[simp] theorem Bz {T p i off} : aG (.ifa T p i off)=[p.root]:=zR
@[simp] theorem BA {T n} : aG (.ifi T n)=[]:=zR
@[simp] theorem BI {k es} : aG (.slv k es)=[]:=zR
@[simp] theorem By {g ds cs} : aG (.fny g ds cs)=[]:=zR
@[simp] theorem Di : bj (.any)=[]:=zR
@[simp] theorem Do {k n} : bj (.int k n)=[]:=zR
@[simp] theorem BO {b} : bj (.bool b)=[]:=zR
@[simp] theorem Dy {s} : bj (.str s)=[]:=zR
@[simp] theorem BP : bj (.nilp)=[]:=zR
@[simp] theorem BQ : bj (.nils)=[]:=zR
@[simp] theorem Dg {ds} : bj (.agg ds)=[]:=zR
@[simp] theorem DA {ds} : bj (.tup ds)=[]:=zR
@[simp] theorem G8 {es} : bj (.sl es)=[]:=zR
@[simp] theorem Dr {ds} : bj (.ptr ds)=[]:=zR
@[simp] theorem G6 {g ds} : bj (.fn g ds)=[]:=zR
@[simp] theorem Dq {sz es} : bj (.own sz es)=[]:=zR
@[simp] theorem Dj {sz es} : bj (.blk sz es)=[]:=zR
@[simp] theorem G7 {kt et ks vs} : bj (.mp kt et ks vs)=[]:=zR
@[simp] theorem Dp {b} : bj (.mrf b)=[b]:=zR
@[simp] theorem Dt {p k n} : bj (.ref p k n)=[p.root]:=zR
@[simp] theorem Df {p i off} : bj (.adr p i off)=[p.root]:=zR
@[simp] theorem Dh {ds} : bj (.agx ds)=ds.flatMap aG:=zR
@[simp] theorem Dz {ds} : bj (.tpx ds)=ds.flatMap aG:=zR
@[simp] theorem Ds {ds} : bj (.ptx ds)=ds.flatMap aG:=zR
@[simp] theorem Du {n sz ds} : bj (.rfx n sz ds)=ds.flatMap aG:=zR
@[simp] theorem Dk {g ds} : bj (.fnx g ds)=ds.flatMap aG:=zR
@[simp] theorem Dm {T p i off} : bj (.ifa T p i off)=[p.root]:=zR
@[simp] theorem Dn {T n} : bj (.ifi T n)=[]:=zR
@[simp] theorem Dw {k es} : bj (.slv k es)=[]:=zR
@[simp] theorem Dl {g ds cs} : bj (.fny g ds cs)=(ds.flatMap aG++cs.flatMap aG):=zR
@[simp] theorem Nz {f : Nat -> D} : dp1 f (.any)=(.any):=zR
@[simp] theorem NF {f : Nat -> D} {k n} : dp1 f (.int k n)=(.int k n):=zR
@[simp] theorem IC {f : Nat -> D} {b} : dp1 f (.bool b)=(.bool b):=zR
@[simp] theorem NO {f : Nat -> D} {s} : dp1 f (.str s)=(.str s):=zR
@[simp] theorem ID {f : Nat -> D} : dp1 f (.nilp)=(.nilp):=zR
@[simp] theorem IE {f : Nat -> D} : dp1 f (.nils)=(.nils):=zR
@[simp] theorem Nx {f : Nat -> D} {ds} : dp1 f (.agg ds)=(.agg ds):=zR
@[simp] theorem NQ {f : Nat -> D} {ds} : dp1 f (.tup ds)=(.tup ds):=zR
@[simp] theorem Sb {f : Nat -> D} {es} : dp1 f (.sl es)=(.sl es):=zR
@[simp] theorem NI {f : Nat -> D} {ds} : dp1 f (.ptr ds)=(.ptr ds):=zR
@[simp] theorem R9 {f : Nat -> D} {g ds} : dp1 f (.fn g ds)=(.fn g ds):=zR
@[simp] theorem NH {f : Nat -> D} {sz es} : dp1 f (.own sz es)=(.own sz es):=zR
@[simp] theorem NA {f : Nat -> D} {sz es} : dp1 f (.blk sz es)=(.blk sz es):=zR
@[simp] theorem Sa {f : Nat -> D} {kt et ks vs} : dp1 f (.mp kt et ks vs)=(.mp kt et ks vs):=zR
@[simp] theorem NG {f : Nat -> D} {b} : dp1 f (.mrf b)=(.mrf b):=zR
@[simp] theorem NK {f : Nat -> D} {p k n} : dp1 f (.ref p k n)=(match bH f p with | some (_,es)=>.sl (((es.drop k).take n).map fun e=>e.map bo) | none=>.any):=zR
@[simp] theorem Nw {f : Nat -> D} {p i off} : dp1 f (.adr p i off)=(match bH f p with | some (_,es)=>.ptr (((es[i]?.getD []).drop off).map bo) | none=>.any):=zR
@[simp] theorem Ny {f : Nat -> D} {ds} : dp1 f (.agx ds)=(.agx ds):=zR
@[simp] theorem NP {f : Nat -> D} {ds} : dp1 f (.tpx ds)=(.tpx ds):=zR
@[simp] theorem NJ {f : Nat -> D} {ds} : dp1 f (.ptx ds)=(.ptx ds):=zR
@[simp] theorem NL {f : Nat -> D} {n sz ds} : dp1 f (.rfx n sz ds)=(.rfx n sz ds):=zR
@[simp] theorem NB {f : Nat -> D} {g ds} : dp1 f (.fnx g ds)=(.fnx g ds):=zR
@[simp] theorem ND {f : Nat -> D} {T p i off} : dp1 f (.ifa T p i off)=(.ifa T p i off):=zR
@[simp] theorem NE {f : Nat -> D} {T n} : dp1 f (.ifi T n)=(.ifi T n):=zR
@[simp] theorem NM {f : Nat -> D} {k es} : dp1 f (.slv k es)=(.slv k es):=zR
@[simp] theorem NC {f : Nat -> D} {g ds cs} : dp1 f (.fny g ds cs)=(.fny g ds cs):=zR
@[simp] theorem Sf {f : Nat -> D} : dp f (.any)=(.any):=zR
@[simp] theorem Sm {f : Nat -> D} {k n} : dp f (.int k n)=(.int k n):=zR
@[simp] theorem NU {f : Nat -> D} {b} : dp f (.bool b)=(.bool b):=zR
@[simp] theorem Sw {f : Nat -> D} {s} : dp f (.str s)=(.str s):=zR
@[simp] theorem NV {f : Nat -> D} : dp f (.nilp)=(.nilp):=zR
@[simp] theorem NW {f : Nat -> D} : dp f (.nils)=(.nils):=zR
@[simp] theorem Sd {f : Nat -> D} {ds} : dp f (.agg ds)=(.agg ds):=zR
@[simp] theorem Sy {f : Nat -> D} {ds} : dp f (.tup ds)=(.tup ds):=zR
@[simp] theorem Tz {f : Nat -> D} {es} : dp f (.sl es)=(.sl es):=zR
@[simp] theorem Sp {f : Nat -> D} {ds} : dp f (.ptr ds)=(.ptr ds):=zR
@[simp] theorem Tx {f : Nat -> D} {g ds} : dp f (.fn g ds)=(.fn g ds):=zR
@[simp] theorem So {f : Nat -> D} {sz es} : dp f (.own sz es)=(.own sz es):=zR
@[simp] theorem Sg {f : Nat -> D} {sz es} : dp f (.blk sz es)=(.blk sz es):=zR
@[simp] theorem Ty {f : Nat -> D} {kt et ks vs} : dp f (.mp kt et ks vs)=(.mp kt et ks vs):=zR
@[simp] theorem Sn {f : Nat -> D} {b} : dp f (.mrf b)=(.mrf b):=zR
@[simp] theorem Sr {f : Nat -> D} {p k n} : dp f (.ref p k n)=(match bH f p with | some (_,es)=>.sl (((es.drop k).take n).map fun e=>e.map bo) | none=>.any):=zR
@[simp] theorem Sc {f : Nat -> D} {p i off} : dp f (.adr p i off)=(match bH f p with | some (_,es)=>.ptr (((es[i]?.getD []).drop off).map bo) | none=>.any):=zR
@[simp] theorem Se {f : Nat -> D} {ds} : dp f (.agx ds)=(.agg (ds.map (dp1 f))):=zR
@[simp] theorem Sx {f : Nat -> D} {ds} : dp f (.tpx ds)=(.tup (ds.map (dp1 f))):=zR
@[simp] theorem Sq {f : Nat -> D} {ds} : dp f (.ptx ds)=(.ptr (ds.map (dp1 f))):=zR
@[simp] theorem Ss {f : Nat -> D} {n sz ds} : dp f (.rfx n sz ds)=.rfx n sz ds:=zR
@[simp] theorem Si {f : Nat -> D} {g ds} : dp f (.fnx g ds)=(.fn g (ds.map (dp1 f))):=zR
@[simp] theorem Sk {f : Nat -> D} {T p i off} : dp f (.ifa T p i off)=(.ifa T p i off):=zR
@[simp] theorem Sl {f : Nat -> D} {T n} : dp f (.ifi T n)=(.ifi T n):=zR
@[simp] theorem Su {f : Nat -> D} {k es} : dp f (.slv k es)=(.slv k es):=zR
@[simp] theorem Sj {f : Nat -> D} {g ds cs} : dp f (.fny g ds cs)=(.fny g ds cs):=zR
@[simp] theorem Fp {f : Nat -> D} : aV f (.any)=(True):=zR
@[simp] theorem Fv {f : Nat -> D} {k n} : aV f (.int k n)=(True):=zR
@[simp] theorem Cw {f : Nat -> D} {b} : aV f (.bool b)=(True):=zR
@[simp] theorem FE {f : Nat -> D} {s} : aV f (.str s)=(True):=zR
@[simp] theorem Cx {f : Nat -> D} : aV f (.nilp)=(True):=zR
@[simp] theorem Cy {f : Nat -> D} : aV f (.nils)=(True):=zR
@[simp] theorem Fm {f : Nat -> D} {ds} : aV f (.agg ds)=(True):=zR
@[simp] theorem FG {f : Nat -> D} {ds} : aV f (.tup ds)=(True):=zR
@[simp] theorem IH {f : Nat -> D} {es} : aV f (.sl es)=(True):=zR
@[simp] theorem Fy {f : Nat -> D} {ds} : aV f (.ptr ds)=(True):=zR
@[simp] theorem IF {f : Nat -> D} {g ds} : aV f (.fn g ds)=(True):=zR
@[simp] theorem Fx {f : Nat -> D} {sz es} : aV f (.own sz es)=(True):=zR
@[simp] theorem Fq {f : Nat -> D} {sz es} : aV f (.blk sz es)=(True):=zR
@[simp] theorem IG {f : Nat -> D} {kt et ks vs} : aV f (.mp kt et ks vs)=(True):=zR
@[simp] theorem Fw {f : Nat -> D} {b} : aV f (.mrf b)=(False):=zR
@[simp] theorem FA {f : Nat -> D} {p k n} : aV f (.ref p k n)=(match bH f p with | some (_,es)=>k + n <= es.length | none=>False):=zR
@[simp] theorem Fk {f : Nat -> D} {p i off} : aV f (.adr p i off)=(match bH f p with | some _=>True | none=>False):=zR
@[simp] theorem Fn {f : Nat -> D} {ds} : aV f (.agx ds)=(True):=zR
@[simp] theorem FF {f : Nat -> D} {ds} : aV f (.tpx ds)=(True):=zR
@[simp] theorem Fz {f : Nat -> D} {ds} : aV f (.ptx ds)=(True):=zR
@[simp] theorem FB {f : Nat -> D} {n sz ds} : aV f (.rfx n sz ds)=(True):=zR
@[simp] theorem Fr {f : Nat -> D} {g ds} : aV f (.fnx g ds)=(True):=zR
@[simp] theorem Ft {f : Nat -> D} {T p i off} : aV f (.ifa T p i off)=False:=zR
@[simp] theorem Fu {f : Nat -> D} {T n} : aV f (.ifi T n)=True:=zR
@[simp] theorem FC {f : Nat -> D} {k es} : aV f (.slv k es)=True:=zR
@[simp] theorem Fs {f : Nat -> D} {g ds cs} : aV f (.fny g ds cs)=True:=zR
@[simp] theorem IL {f : Nat -> D} : bB f (.any)=(True):=zR
@[simp] theorem IS {f : Nat -> D} {k n} : bB f (.int k n)=(True):=zR
@[simp] theorem FH {f : Nat -> D} {b} : bB f (.bool b)=(True):=zR
@[simp] theorem I7 {f : Nat -> D} {s} : bB f (.str s)=(True):=zR
@[simp] theorem FI {f : Nat -> D} : bB f (.nilp)=(True):=zR
@[simp] theorem FJ {f : Nat -> D} : bB f (.nils)=(True):=zR
@[simp] theorem IJ {f : Nat -> D} {ds} : bB f (.agg ds)=(True):=zR
@[simp] theorem I9 {f : Nat -> D} {ds} : bB f (.tup ds)=(True):=zR
@[simp] theorem NT {f : Nat -> D} {es} : bB f (.sl es)=(True):=zR
@[simp] theorem IV {f : Nat -> D} {ds} : bB f (.ptr ds)=(True):=zR
@[simp] theorem NR {f : Nat -> D} {g ds} : bB f (.fn g ds)=(True):=zR
@[simp] theorem IU {f : Nat -> D} {sz es} : bB f (.own sz es)=(True):=zR
@[simp] theorem IM {f : Nat -> D} {sz es} : bB f (.blk sz es)=(True):=zR
@[simp] theorem NS {f : Nat -> D} {kt et ks vs} : bB f (.mp kt et ks vs)=(True):=zR
@[simp] theorem IT {f : Nat -> D} {b} : bB f (.mrf b)=(False):=zR
@[simp] theorem IX {f : Nat -> D} {p k n} : bB f (.ref p k n)=(match bH f p with | some (_,es)=>k + n <= es.length | none=>False):=zR
@[simp] theorem II {f : Nat -> D} {p i off} : bB f (.adr p i off)=(match bH f p with | some _=>True | none=>False):=zR
@[simp] theorem IK {f : Nat -> D} {ds} : bB f (.agx ds)=(∀ d ∈ ds,aV f d):=zR
@[simp] theorem I8 {f : Nat -> D} {ds} : bB f (.tpx ds)=(∀ d ∈ ds,aV f d):=zR
@[simp] theorem IW {f : Nat -> D} {ds} : bB f (.ptx ds)=(∀ d ∈ ds,aV f d):=zR
@[simp] theorem IY {f : Nat -> D} {n sz ds} : bB f (.rfx n sz ds)=False:=zR
@[simp] theorem zio {f : Nat -> D} {g ds} : bB f (.fnx g ds)=(∀ d ∈ ds,aV f d):=zR
@[simp] theorem IQ {f : Nat -> D} {T p i off} : bB f (.ifa T p i off)=False:=zR
@[simp] theorem IR {f : Nat -> D} {T n} : bB f (.ifi T n)=True:=zR
@[simp] theorem IZ {f : Nat -> D} {k es} : bB f (.slv k es)=True:=zR
@[simp] theorem IP {f : Nat -> D} {g ds cs} : bB f (.fny g ds cs)=False:=zR
@[simp] theorem QO {p i0 o} : ldc p i0 o (.any)=.any:=zR
@[simp] theorem LN {m} : d5 m (.any)=.any:=zR
@[simp] theorem QU {p i0 o k n} : ldc p i0 o (.int k n)=.int k n:=zR
@[simp] theorem LT {m k n} : d5 m (.int k n)=.int k n:=zR
@[simp] theorem Lm {p i0 o b} : ldc p i0 o (.bool b)=.bool b:=zR
@[simp] theorem G9 {m b} : d5 m (.bool b)=.bool b:=zR
@[simp] theorem Q5 {p i0 o s} : ldc p i0 o (.str s)=.str s:=zR
@[simp] theorem L7 {m s} : d5 m (.str s)=.str s:=zR
@[simp] theorem Ln {p i0 o} : ldc p i0 o (.nilp)=.nilp:=zR
@[simp] theorem Ha {m} : d5 m (.nilp)=.nilp:=zR
@[simp] theorem Lo {p i0 o} : ldc p i0 o (.nils)=.nils:=zR
@[simp] theorem QL {p i0 o ds} : ldc p i0 o (.agg ds)=.agg ds:=zR
@[simp] theorem LK {m ds} : d5 m (.agg ds)=.agg ds:=zR
@[simp] theorem Q7 {p i0 o ds} : ldc p i0 o (.tup ds)=.tup ds:=zR
@[simp] theorem L9 {m ds} : d5 m (.tup ds)=.tup ds:=zR
@[simp] theorem Ta {p i0 o es} : ldc p i0 o (.sl es)=.sl es:=zR
@[simp] theorem Rj {m es} : d5 m (.sl es)=.sl es:=zR
@[simp] theorem QX {p i0 o ds} : ldc p i0 o (.ptr ds)=.ptr ds:=zR
@[simp] theorem LW {m ds} : d5 m (.ptr ds)=.ptr ds:=zR
@[simp] theorem S8 {p i0 o g ds} : ldc p i0 o (.fn g ds)=.fn g ds:=zR
@[simp] theorem Rg {m g ds} : d5 m (.fn g ds)=.fn g ds:=zR
@[simp] theorem QW {c i o sz es} : ldc (.r c) i o (.own sz es)=.ref (.n c i o) 0 es.length:=zR
@[simp] theorem LV {m sz es} : d5 m (.own sz es)=.own sz es:=zR
@[simp] theorem QP {p i0 o sz es} : ldc p i0 o (.blk sz es)=.blk sz es:=zR
@[simp] theorem LO {m sz es} : d5 m (.blk sz es)=.blk sz es:=zR
@[simp] theorem S9 {p i0 o kt et ks vs} : ldc p i0 o (.mp kt et ks vs)=.mp kt et ks vs:=zR
@[simp] theorem Ri {m kt et ks vs} : d5 m (.mp kt et ks vs)=.mp kt et ks vs:=zR
@[simp] theorem QV {p i0 o b} : ldc p i0 o (.mrf b)=.mrf b:=zR
@[simp] theorem LU {m b} : d5 m (.mrf b)=.mrf b:=zR
@[simp] theorem QZ {p i0 o q k n} : ldc p i0 o (.ref q k n)=.ref q k n:=zR
@[simp] theorem LY {m q k n} : d5 m (.ref q k n)=.ref q k n:=zR
@[simp] theorem QK {p i0 o q i off} : ldc p i0 o (.adr q i off)=.adr q i off:=zR
@[simp] theorem LJ {m q i off} : d5 m (.adr q i off)=.adr q i off:=zR
@[simp] theorem QN {p i0 o ds} : ldc p i0 o (.agx ds)=.agx ds:=zR
@[simp] theorem LM {m ds} : d5 m (.agx ds)=.agx ds:=zR
@[simp] theorem Q6 {p i0 o ds} : ldc p i0 o (.tpx ds)=.tpx ds:=zR
@[simp] theorem L8 {m ds} : d5 m (.tpx ds)=.tpx ds:=zR
@[simp] theorem QY {p i0 o ds} : ldc p i0 o (.ptx ds)=.ptx ds:=zR
@[simp] theorem Q2 {p i0 o n sz ds} : ldc p i0 o (.rfx n sz ds)=.rfx n sz ds:=zR
@[simp] theorem LX {m ds} : d5 m (.ptx ds)=.ptx ds:=zR
@[simp] theorem LZ {m n sz ds} : d5 m (.rfx n sz ds)=.rfx n sz ds:=zR
@[simp] theorem QQ {p i0 o g ds} : ldc p i0 o (.fnx g ds)=.fnx g ds:=zR
@[simp] theorem QS {p0 i0 o T p i off} : ldc p0 i0 o (.ifa T p i off)=.ifa T p i off:=zR
@[simp] theorem QT {p0 i0 o T n} : ldc p0 i0 o (.ifi T n)=.ifi T n:=zR
@[simp] theorem Q3 {p0 i0 o k es} : ldc p0 i0 o (.slv k es)=.slv k es:=zR
@[simp] theorem QR {p0 i0 o g ds cs} : ldc p0 i0 o (.fny g ds cs)=.fny g ds cs:=zR
@[simp] theorem LP {m g ds} : d5 m (.fnx g ds)=.fnx g ds:=zR
@[simp] theorem LR {m T p i off} : d5 m (.ifa T p i off)=.ifa T p i off:=zR
@[simp] theorem LS {m T n} : d5 m (.ifi T n)=.ifi T n:=zR
@[simp] theorem L0 {m k es} : d5 m (.slv k es)=.slv k es:=zR
@[simp] theorem LQ {m g ds cs} : d5 m (.fny g ds cs)=.fny g ds cs:=zR
@[simp] theorem Hb {m} : d5 m .nils=if m=0 then .nils else .own m []:=zR
def slx (b : Bool) (es : List (List D)) : D:=match b,es with
 | true,[]=>.nils
 | _,es=>.sl es
@[simp] theorem cz {es} : slx false es=.sl es:=by cases es <;> rfl
@[simp] theorem MW {b x es} : slx b (x::es)=.sl (x::es):=by cases b <;> rfl
theorem gR (b : Bool) (es : List (List D)) : slx b es=.sl es \/ (slx b es=.nils /\ es=[]):=by cases b <;> cases es <;> simp [slx]
@[simp] theorem QG {b es} : isV (slx b es)=true:=by cases b <;> cases es <;> rfl
@[simp] theorem Pj {b es} : isK (slx b es)=true:=by cases b <;> cases es <;> rfl
@[simp] theorem PZ {b es} : isP (slx b es)=true:=by cases b <;> cases es <;> rfl
@[simp] theorem Ql {b es} : isS (slx b es)=true:=by cases b <;> cases es <;> rfl
@[simp] theorem J6 {b es} : aH (slx b es)=true:=by cases b <;> cases es <;> rfl
@[simp] theorem PE {b es} : isO (slx b es)=false:=by cases b <;> cases es <;> rfl
@[simp] theorem Ge {b es} : cw (slx b es)=false:=by cases b <;> cases es <;> rfl
@[simp] theorem Ot {b es} : isB (slx b es)=false:=by cases b <;> cases es <;> rfl
@[simp] theorem Ba {b es} : cellsOf (slx b es)=[slx b es]:=by cases b <;> cases es <;> rfl
@[simp] theorem EG {b es} : bR (slx b es)=slx b es:=by cases b <;> cases es <;> rfl
@[simp] theorem Ff {b es} : bo (slx b es)=slx b es:=by cases b <;> cases es <;> rfl
@[simp] theorem BJ {b es} : aG (slx b es)=[]:=by cases b <;> cases es <;> rfl
@[simp] theorem Dx {b es} : bj (slx b es)=[]:=by cases b <;> cases es <;> rfl
@[simp] theorem NN {f : Nat -> D} {b es} : dp1 f (slx b es)=slx b es:=by cases b <;> cases es <;> rfl
@[simp] theorem Sv {f : Nat -> D} {b es} : dp f (slx b es)=slx b es:=by cases b <;> cases es <;> rfl
@[simp] theorem FD {f : Nat -> D} {b es} : aV f (slx b es)=True:=by cases b <;> cases es <;> rfl
@[simp] theorem I0 {f : Nat -> D} {b es} : bB f (slx b es)=True:=by cases b <;> cases es <;> rfl
@[simp] theorem Q4 {p i o b es} : ldc p i o (slx b es)=slx b es:=by cases b <;> cases es <;> rfl
def sq (d : D) (K : Nat -> Prop) (_ : Tag K) : Prop:=match d with
 | .sl es=>K es.length
 | .nils=>K 0
 | .ref _ _ n=>K n
 | .rfx n _ _=>K n
 | _=>False
@[simp] theorem Lt {n sz ds K u} : sq (.rfx n sz ds) K u=K n:=zR
@[simp] theorem Q8 {es K u} : sq (.sl es) K u=K es.length:=zR
@[simp] theorem GT {K u} : sq .nils K u=K 0:=zR
@[simp] theorem Ls {p k n K u} : sq (.ref p k n) K u=K n:=zR
@[simp] theorem Lu {b es K u} : sq (slx b es) K u=K es.length:=by cases b <;> cases es <;> rfl
@[simp] theorem Hq {n ds} : og true n ds=.agg (ds.take n):=zR
@[simp] theorem DK {n ds} : og false n ds=ds.headD .any:=zR
@[simp] theorem Lw {t} : ac [] t=.any:=rfl
def lk (b : Bool) (d : D) (r : Env) (t : Nat) : D:=match b with
 | true=>d
 | false=>ac r t
@[simp] theorem Q9 {d r t} : lk true d r t=d:=rfl
@[simp] theorem Lv {d r t} : lk false d r t=ac r t:=rfl
@[simp] theorem GU {s d r t} : ac ((s,d)::r) t=lk (s == t) d r t:=by
 by_cases h : s=t
 ·subst h;simp [ac]
 ·rw [show (s == t)=false by simp [h]];simp [ac,h]
@[simp] theorem Gu {e} : qJ [] e=[]:=zR
@[simp] theorem CX {t ts e} : qJ (t::ts) e=(t,ac e t)::qJ ts e:=zR
@[simp] theorem BT : mE []=[]:=zR
@[simp] theorem Aa {t d r} : mE ((t,d)::r)=bj d++mE r:=zR
@[simp] theorem HN {e ks} : tQ e [] ks=ks:=zR
@[simp] theorem En {e r rs ks} : tQ e (r::rs) ks=tQ e rs (if (ks.map (·.1)).contains r then ks else ks++[(r,ac e r)]):=zR
def gB (f : Nat -> D) (d : D) (ns : List Nat) (K : List D -> List Nat -> Prop) (_ : Tag K) : Prop:=f7 f d ns K
def gc (f : Nat -> D) (d : D) (K : D -> List Nat -> Prop) (_ : Tag K) : Prop:=dS f d K
def qf (f : Nat -> D) (ds : List D) (K : List D -> List Nat -> Prop) (_ : Tag K) : Prop:=lR f ds K
def vu (b n : Nat) (x : D) (K : D -> List Nat -> Prop) (_ : Tag K) : Prop:=match x with
 | .blk sz es=>es.length=n /\ (∀ e ∈ es,∀ c ∈ e,aH c=true) /\ K (.own sz es) [b]
 | _=>False
@[simp] theorem HD {b n sz es K u} : vu b n (.blk sz es) K u=(es.length=n /\ (∀ e ∈ es,∀ c ∈ e,aH c=true) /\ K (.own sz es) [b]):=zR
theorem dR {f : Nat -> D} {d : D} {K : D -> List Nat -> Prop} {u} (h : aH d=true) : gc f d K u=K d []:=by
 cases d <;> simp [aH] at h <;> simp [gc,dS,aH]
@[simp] theorem Eg {f b k n K u} : gc f (.ref (.r b) k n) K u=(k=0 /\ vu b n (f b) K ⟨⟩):=by
 simp only [gc,dS,vu]
 cases f b <;> rfl
theorem fw {f : Nat -> D} {d : D} {K : List D -> List Nat -> Prop} {u} (h : aH d=true) : gB f d [] K u=K [d] []:=by
 cases d <;> simp [aH] at h <;> simp [gB,f7,dS,aH,fz]
@[simp] theorem HG {f ds K u} : gB f (.agg ds) [] K u=((∀ c ∈ ds,aH c=true) /\ K ds []):=by simp [gB,f7,fz]
@[simp] theorem HH {f ds K u} : gB f (.agx ds) [] K u=qf f ds (fun cs bs=>bG bs=true /\ K cs bs) ⟨⟩:=by simp [gB,qf,f7,fz]
@[simp] theorem HK {f b k n K u} : gB f (.ref (.r b) k n) [] K u=(k=0 /\ vu b n (f b) (fun c bs=>K [c] bs) ⟨⟩):=by
 simp only [gB,f7,dS,vu,fz,if_true,true_or,true_and]
 cases f b <;> rfl
@[simp] theorem Ej {f K u} : qf f [] K u=K [] []:=zR
@[simp] theorem Cc {f d ds K u} : qf f (d::ds) K u=gc f d (fun c bs=>qf f ds (fun cs bs'=>K (c::cs) (bs++bs')) ⟨⟩) ⟨⟩:=zR
@[simp] theorem Ee {f k n K u} : gc f (.int k n) K u=K (.int k n) []:=dR rfl
@[simp] theorem HI {f k n K u} : gB f (.int k n) [] K u=K [.int k n] []:=fw rfl
@[simp] theorem B9 {f n K u} : gc f (.bool n) K u=K (.bool n) []:=dR rfl
@[simp] theorem Ek {f n K u} : gB f (.bool n) [] K u=K [.bool n] []:=fw rfl
@[simp] theorem Ei {f n K u} : gc f (.str n) K u=K (.str n) []:=dR rfl
@[simp] theorem HM {f n K u} : gB f (.str n) [] K u=K [.str n] []:=fw rfl
@[simp] theorem Ca {f  K u} : gc f .nilp K u=K .nilp []:=dR rfl
@[simp] theorem El {f  K u} : gB f .nilp [] K u=K [.nilp] []:=fw rfl
@[simp] theorem Cb {f  K u} : gc f .nils K u=K .nils []:=dR rfl
@[simp] theorem Em {f  K u} : gB f .nils [] K u=K [.nils] []:=fw rfl
@[simp] theorem HF {f n K u} : gc f (.sl n) K u=K (.sl n) []:=dR rfl
@[simp] theorem Ng {f n K u} : gB f (.sl n) [] K u=K [.sl n] []:=fw rfl
@[simp] theorem Ef {f n K u} : gc f (.ptr n) K u=K (.ptr n) []:=dR rfl
@[simp] theorem HJ {f n K u} : gB f (.ptr n) [] K u=K [.ptr n] []:=fw rfl
@[simp] theorem HE {f g n K u} : gc f (.fn g n) K u=K (.fn g n) []:=dR rfl
@[simp] theorem Nf {f g n K u} : gB f (.fn g n) [] K u=K [.fn g n] []:=fw rfl
@[simp] theorem Eh {f b n K u} : gc f (slx b n) K u=K (slx b n) []:=dR (by simp)
@[simp] theorem HL {f b n K u} : gB f (slx b n) [] K u=K [slx b n] []:=fw (by simp)
def pJ (f : Nat -> D) (sz : Nat) (ps : List (Nat × Opd)) (es : List (List D)) (bs : List Nat) (K : List (List D) -> List Nat -> Prop) (_ : Tag K) : Prop:=fe f sz [] ps es bs K
@[simp] theorem DL {f sz es bs K u} : pJ f sz [] es bs K u=K es bs:=zR
@[simp] theorem BS {f sz i x ps es bs K u} : pJ f sz ((i,x)::ps) es bs K u=(i < es.length /\ gB f (vd f x) [] (fun cs bs'=>cs.length=sz /\ pJ f sz ps (es.set i cs) (bs++bs') K ⟨⟩) ⟨⟩):=zR
def i8 (f : Nat -> D) (mv : Bool) (d : D) (sz : Nat) (K : List (List D) -> List Nat -> Prop) (_ : Tag K) : Prop:=ft f mv d sz K
def DS (b n sz : Nat) (x : D) (K : List (List D) -> List Nat -> Prop) (_ : Tag K) : Prop:=match x with
 | .blk sz' es=>sz'=sz /\ es.length=n /\ (∀ e ∈ es,∀ c ∈ e,isC c=true) /\ K es [b]
 | _=>False
@[simp] theorem MG {b n sz sz' es K u} : DS b n sz (.blk sz' es) K u=(sz'=sz /\ es.length=n /\ (∀ e ∈ es,∀ c ∈ e,isC c=true) /\ K es [b]):=zR
def DT (k n sz : Nat) (x : Option (Nat × List (List D))) (K : List (List D) -> List Nat -> Prop) (_ : Tag K) : Prop:=match x with
 | some (sz',es)=>sz'=sz /\ k + n <= es.length /\ (∀ e ∈ (es.drop k).take n,∀ c ∈ e,aH c=true) /\ K ((es.drop k).take n) []
 | none=>False
@[simp] theorem Ht {k n sz sz' es K u} : DT k n sz (some (sz',es)) K u=(sz'=sz /\ k + n <= es.length /\ (∀ e ∈ (es.drop k).take n,∀ c ∈ e,aH c=true) /\ K ((es.drop k).take n) []):=zR
@[simp] theorem DU {f mv sz K u} : i8 f mv .nils sz K u=K [] []:=zR
@[simp] theorem MN {f mv es sz K u} : i8 f mv (.sl es) sz K u=((∀ e ∈ es,e.length=sz /\ ∀ c ∈ e,aH c=true) /\ K es []):=zR
@[simp] theorem Hx {f mv b es sz K u} : i8 f mv (slx b es) sz K u=((∀ e ∈ es,e.length=sz /\ ∀ c ∈ e,aH c=true) /\ K es []):=by
 rcases gR b es with h | ⟨h,rfl⟩ <;> rw [h] <;> simp
@[simp] theorem MM {f b k n sz K u} : i8 f true (.ref (.r b) k n) sz K u=(k=0 /\ DS b n sz (f b) K ⟨⟩):=by
 simp only [i8,ft,DS]
 cases f b <;> rfl
@[simp] theorem Hw {f p k n sz K u} : i8 f false (.ref p k n) sz K u=DT k n sz (bH f p) K ⟨⟩:=by
 simp only [i8,ft,DT]
 cases bH f p <;> rfl
def dT (f : Nat -> D) (o : Option Opd) (dflt : Nat) (K : Nat -> Prop) (_ : Tag K) : Prop:=ee f o dflt K
def Id (d : D) (K : Nat -> Prop) (_ : Tag K) : Prop:=match d with
 | .int _ n=>0 <= n /\ K n.toNat
 | _=>False
@[simp] theorem Ie {k n K u} : Id (.int k n) K u=(0 <= n /\ K n.toNat):=zR
@[simp] theorem AN {f n K u} : dT f none n K u=K n:=zR
@[simp] theorem AO {f x n K u} : dT f (some x) n K u=Id (vd f x) K ⟨⟩:=zR
def kM (x : Option (List D)) (K : List D -> Prop) (_ : Tag K) : Prop:=match x with
 | some r=>K r
 | none=>False
@[simp] theorem Hv {r K u} : kM (some r) K u=K r:=zR
@[simp] theorem Hu {K u} : kM none K u=False:=zR
theorem kN {x : Option (List D)} {K : List D -> Prop} {u} : kM x K u=∃ r,x=some r /\ K r:=by
 cases x <;> simp [kM]
def pH (x : Option D) (K : Nat -> List (List D) -> Prop) (_ : Tag K) : Prop:=match x with
 | some (.own sz es)=>K sz es
 | _=>False
@[simp] theorem Mu {sz es K u} : pH (some (.own sz es)) K u=K sz es:=zR
theorem pI {x : Option D} {K : Nat -> List (List D) -> Prop} {u} : pH x K u=∃ sz es,x=some (.own sz es) /\ K sz es:=by
 cases x with
 | none=>simp [pH]
 | some d =>
  cases d <;> simp [pH]
  exact ⟨fun h=>⟨_,_,⟨rfl,rfl⟩,h⟩,by rintro ⟨_,_,⟨rfl,rfl⟩,h⟩;exact h⟩
def yy (x : Option D) (K : D -> Prop) (_ : Tag K) : Prop:=match x with
 | some d=>K d
 | none=>False
@[simp] theorem EU {d K u} : yy (some d) K u=K d:=zR
theorem yz {x : Option D} {K : D -> Prop} {u} : yy x K u=∃ d,x=some d /\ K d:=by
 cases x <;> simp [yy]
def hG (x : D) (K : Nat -> List (List D) -> Prop) (_ : Tag K) : Prop:=match x with
 | .blk sz es=>K sz es
 | _=>False
@[simp] theorem Ic {sz es K u} : hG (.blk sz es) K u=K sz es:=zR
abbrev CC:=Nat -> List D -> D -> List D -> Prop
abbrev KT:=List (Nat × D) -> List (Nat × Bool) -> Prop
section
variable {C : CC} {Q : cv -> Env -> Prop} {e e' : Env} {d : D}
def wN (C : CC) (c : dD) (Q : cv -> Env -> Prop) (_ : Tag (c,Q)) (e : Env) : Prop:=wpN C c Q e
def tg (C : CC) (c : dD) (Q : cv -> Env -> Prop) (_ : Tag (c,Q)) (e : Env) : Prop:=wpN C (.loop c) Q e
def uB (C : CC) (K : Env -> Prop) (ns : List aA) (_ : Tag (K,ns)) (e : Env) : Prop:=iy C K ns e
def sy (C : CC) (hs : List Nat) (K : Env -> Prop) (ns : List aA) (_ : Tag (K,ns)) (e : Env) (acc : List (List Nat × List Nat)) : Prop:=jG C hs K ns e acc
def JD (hs : List Nat) (acc : List (List Nat × List Nat)) : Prop:=kq hs acc.reverse=true
theorem ai {hs : List Nat} {acc : List (List Nat × List Nat)} (h : kq hs acc.reverse=true) : JD hs acc:=h
def Bi (C : CC) (K : Env -> Prop) (ns : List aA) (e : Env) : KT:=fun ws ks=>iy C K ns (ws++d4 ks e)
def Iu (C : CC) (hs : List Nat) (K : Env -> Prop) (ns : List aA) (e : Env) (R : List Nat) (acc : List (List Nat × List Nat)) : KT:=fun ws ks=>wOk R ws ks=true /\ jG C hs K ns (ws++d4 ks e) ((R,wrK ws ks)::acc)
def bM (Q : cv -> Env -> Prop) (_ : Tag Q) (t : cv) (e : Env) : Prop:=Q t e
def fin (res : List (Nat × Option (Nat × Bool))) (d : D) : cv -> Env -> Prop:=fun t e=>(match t with
   | .ext _=>False
   | _=>True) /\ fq res d e
def Ah (C : CC) (y : dD) (Q : cv -> Env -> Prop) : cv -> Env -> Prop:=fun t e'=>match t with
  | .nrm=>wpN C y Q e'
  | t=>Q t e'
def pa (id : Nat) (Q : cv -> Env -> Prop) : cv -> Env -> Prop:=fun t e'=>match t with
  | .ext i=>if i=id then Q .nrm e' else Q (.ext i) e'
  | t=>Q t e'
def zZ (keep : List Nat) (Q : cv -> Env -> Prop) : Env -> Prop:=fun e'=>Q .nrm (prune keep e')
def kOf (C : CC) (hs : Option (List Nat)) (K : Env -> Prop) (ns : List aA) (e : Env) (R : List Nat) (acc : List (List Nat × List Nat)) : KT :=
 match hs with
 | none=>Bi C K ns e
 | some hs=>Iu C hs K ns e R acc
def doW (C : CC) (hs : Option (List Nat)) (K : Env -> Prop) (ns : List aA) (_ : Tag (hs,K,ns)) (e : Env) (R : List Nat) (acc : List (List Nat × List Nat)) (ws : List (Nat × D)) (ks : List (Nat × Bool)) : Prop:=kOf C hs K ns e R acc ws ks
def opW (C : CC) (hs : Option (List Nat)) (K : Env -> Prop) (ns : List aA) (dst : Option Nat) (op : NOp) (_ : Tag (hs,K,ns,dst,op)) (e : Env) (R : List Nat) (acc : List (List Nat × List Nat)) : Prop:=aJ C (ac e) dst (kOf C hs K ns e R acc) op
def dW (C : CC) (hs : Option (List Nat)) (K : Env -> Prop) (ns : List aA) (dst : Option Nat) (_ : Tag (hs,K,ns)) (e : Env) (R : List Nat) (acc : List (List Nat × List Nat)) (d : D) : Prop:=d9 dst (kOf C hs K ns e R acc) d
def qn (C : CC) (g : Nat) (hs : Option (List Nat)) (K : Env -> Prop) (ns : List aA) (dst : Option Nat) (_ : Tag (hs,K,ns)) (e : Env) (R : List Nat) (acc : List (List Nat × List Nat)) (pure : Bool) (ds : List D) : Prop :=
 ∃ d,C g ds d [] /\ (isF d=true \/ pure=true) /\ d9 dst (kOf C hs K ns e R acc) d
theorem aq {prog : Nat -> Option aE} (hC : aD prog C) {g : Nat} {nf : aE} {ds : List D} (hp : prog g=some nf) (hl : ds.length=nf.np) (h : wN C nf.body (fin nf.res d) ⟨⟩ (params 0 ds)) : C g ds d []:=hC.1.1 g nf ds d hp hl h
def rW (res : List (Nat × Option (Nat × Bool))) (sz : Nat) (es : List (List D)) : cv -> Env -> Prop:=fun t e=>(match t with
   | .ext _=>False
   | _=>True) /\ jU res sz es e
theorem nT {prog : Nat -> Option aE} (hC : aD prog C) {g : Nat} {nf : aE} {ds : List D} {sz : Nat} {es : List (List D)} (hp : prog g=some nf) (hl : ds.length=nf.np) (h : wN C nf.body (rW nf.res sz es) ⟨⟩ (params 0 ds)) : C g ds .any [.own sz es]:=hC.1.2.2.1 g nf ds sz es hp hl h
def ud (res : List (Nat × Option (Nat × Bool))) (d : D) : cv -> Env -> Prop:=fun t e=>(match t with
   | .ext _=>False
   | _=>True) /\ jT res d e
def rX (res : List (Nat × Option (Nat × Bool))) (d : D) (sz : Nat) (es' : List (List D)) : cv -> Env -> Prop:=fun t e=>(match t with
   | .ext _=>False
   | _=>True) /\ (0 < es'.length /\ ac e 10015=.blk sz es') /\ fq res d ((10015,.any)::e)
theorem fZ {prog : Nat -> Option aE} (hC : gX prog C) {g : Nat} {nf : aE} {W : List D} {d : D} {sz : Nat} {es es' : List (List D)} (hp : prog g=some nf) (hl : W.length=nf.np) (h : wN C nf.body (rX nf.res d sz es') ⟨⟩ (params 0 W++[(10015,.blk sz es)])) : C g (.blk sz es::W) d [.blk sz es',.nilp]:=hC.2.2.2.2.2.1 g nf W d sz es es' hp hl h
def ue (res : List (Nat × Option (Nat × Bool))) (sz : Nat) (es : List (List D)) : cv -> Env -> Prop:=fun t e=>(match t with
   | .ext _=>False
   | _=>True) /\ jV res sz es e
def uc (res : List (Nat × Option (Nat × Bool))) (R : D) : cv -> Env -> Prop:=fun t e=>(match t with
   | .ext _=>False
   | _=>True) /\ rj res R e
def vA (C : CC) (g : Nat) (hs : Option (List Nat)) (K : Env -> Prop) (ns : List aA) (t : Nat) (_ : Tag (hs,K,ns)) (e : Env) (R : List Nat) (acc : List (List Nat × List Nat)) (ds : List D) : Prop :=
 ∃ sz es,C g ds .any [.own sz es] /\ kOf C hs K ns e R acc [(t,.ref (.r (rt t 0)) 0 es.length),(rt t 0,.blk sz es)] [(rt t 0,true)]
theorem jj {g : Nat} {hs : Option (List Nat)} {K : Env -> Prop} {ns : List aA} {t : Nat} {u : Tag (hs,K,ns)} {R : List Nat} {acc : List (List Nat × List Nat)} {ds : List D} {sz : Nat} {es : List (List D)} (h : C g ds .any [.own sz es]) (hk : doW C hs K ns ⟨⟩ e R acc [(t,.ref (.r (rt t 0)) 0 es.length),(rt t 0,.blk sz es)] [(rt t 0,true)]) : vA C g hs K ns t u e R acc ds:=⟨sz,es,h,hk⟩
def rL (C : CC) (g : Nat) (hs : Option (List Nat)) (K : Env -> Prop) (ns : List aA) (dst : Option Nat) (_ : Tag (hs,K,ns)) (e : Env) (R : List Nat) (acc : List (List Nat × List Nat)) (b sz : Nat) (es : List (List D)) (ds : List D) (p : Bool) : Prop:=match dst with
 | none=>∃ es' : List (List D),es'.length=es.length /\ (∀ e ∈ es',e.length=sz /\ ∀ c ∈ e,aH c=true) /\ (p=true \/ ∀ e ∈ es',∀ c ∈ e,bg c=true) /\ C g (.own sz es::ds) .any [.own sz es',.nilp] /\ doW C hs K ns ⟨⟩ e R acc [(b,.blk sz es')] []
 | some t=>(∃ es' : List (List D),es'.length=es.length /\ (∀ e ∈ es',e.length=sz /\ ∀ c ∈ e,aH c=true) /\ (p=true \/ ∀ e ∈ es',∀ c ∈ e,bg c=true) /\ C g (.own sz es::ds) .any [.own sz es',.nilp] /\ doW C hs K ns ⟨⟩ e R acc [(t,.tup []),(b,.blk sz es')] []) \/ (b ≠ rt t 0 /\ 0 < sz /\ ∃ es' : List (List D),(∀ e ∈ es',e.length=sz /\ ∀ c ∈ e,aH c=true) /\ (p=true \/ ∀ e ∈ es',∀ c ∈ e,bg c=true) /\ C g (.own sz es::ds) .any [.own sz es',.nils] /\ doW C hs K ns ⟨⟩ e R acc [(t,.ref (.r (rt t 0)) 0 es'.length),(rt t 0,.blk sz es'),(b,.any)] [(rt t 0,true)])
theorem tW {t : Nat} {g : Nat} {hs : Option (List Nat)} {K : Env -> Prop} {ns : List aA} {u : Tag (hs,K,ns)} {R : List Nat} {acc : List (List Nat × List Nat)} {b sz : Nat} {es es' : List (List D)} {ds : List D} {p : Bool} (h : C g (.own sz es::ds) .any [.own sz es',.nilp]) (hp : (p=true \/ ∀ e ∈ es',∀ c ∈ e,bg c=true)) (hl : es'.length=es.length) (hu : (∀ e ∈ es',e.length=sz /\ ∀ c ∈ e,aH c=true)) (hk : doW C hs K ns ⟨⟩ e R acc [(t,.tup []),(b,.blk sz es')] []) : rL C g hs K ns (some t) u e R acc b sz es ds p:=.inl ⟨es',hl,hu,hp,h,hk⟩
def D5 (C : CC) (g : Nat) (hs : Option (List Nat)) (K : Env -> Prop) (ns : List aA) (dst : Option Nat) (_ : Tag (hs,K,ns)) (e : Env) (R : List Nat) (acc : List (List Nat × List Nat)) (b n : Nat) (xs : List Opd) (d : D) : Prop:=match d with
 | .blk sz es=>es.length=n /\ (∀ e ∈ es,∀ c ∈ e,aH c=true) /\ (∀ x ∈ xs,bB (fbE (ac e) b) (vd (fbE (ac e) b) x)) /\ rL C g hs K ns dst ⟨⟩ e R acc b sz es (xs.map (dpv (fbE (ac e) b))) (xs.all fun y=>isV (vd (fbE (ac e) b) y))
 | _=>False
def MZ (C : CC) (g : Nat) (hs : Option (List Nat)) (K : Env -> Prop) (ns : List aA) (dst : Option Nat) (_ : Tag (hs,K,ns)) (e : Env) (R : List Nat) (acc : List (List Nat × List Nat)) (xs : List Opd) (d : D) : Prop:=match d with
 | .ref (.r b) k n=>k=0 /\ D5 C g hs K ns dst ⟨⟩ e R acc b n xs (ac e b)
 | _=>False
@[simp] theorem Sz {f : Nat -> D} {b t : Nat} : fbE f b t=if t=b then .any else f t:=zR
theorem aa {g : Nat} {hs : Option (List Nat)} {K : Env -> Prop} {ns : List aA} {dst : Option Nat} {u : Tag (hs,K,ns)} {R : List Nat} {acc : List (List Nat × List Nat)} {p : Bool} {ds : List D} (h : C g ds d []) (hf : isF d=true \/ p=true) (hk : dW C hs K ns dst ⟨⟩ e R acc d) : qn C g hs K ns dst u e R acc p ds:=⟨d,h,hf,hk⟩
def pQ (S : Type) (G : S -> Env) (I : S -> Prop) (m : S -> Nat) (s : S) (Q : cv -> Env -> Prop) : cv -> Env -> Prop:=fun t e'=>match t with
    | .nrm=>∃ s',I s' /\ m s' < m s /\ jY e' (G s')
    | t=>Q t e'
theorem av {c : dD} {u : Tag (c,Q)} (S : Type) (G : S -> Env) (I : S -> Prop) (m : S -> Nat) (s0 : S) (h0 : I s0) (hw : jY e (G s0))
  (h : ∀ s,I s -> wN C c (pQ S G I m s Q) ⟨⟩ (G s)) : tg C c Q u e:=⟨S,G,I,m,s0,h0,hw,h⟩
@[simp] theorem R2 {u} : wN C .skip Q u e=bM Q ⟨⟩ .nrm e:=zR
@[simp] theorem Tu {hs keep ops u} : wN C (.reg false hs keep ops) Q u e=uB C (zZ keep Q) ops ⟨⟩ e:=zR
@[simp] theorem RZ {hs keep ops u} : wN C (.reg true hs keep ops) Q u e=sy C hs (zZ keep Q) ops ⟨⟩ e []:=zR
@[simp] theorem Tw {x y u} : wN C (.seq x y) Q u e=wN C x (Ah C y Q) ⟨⟩ e:=zR
def brB (b : Bool) (X Y : Prop) (_ : Tag (X,Y)) : Prop:=(b=true -> X) /\ (b=false -> Y)
theorem aj {b : Bool} {X Y : Prop} {u} (h1 : b=true -> X) (h2 : b=false -> Y) : brB b X Y u:=⟨h1,h2⟩
@[simp] theorem Il {X Y : Prop} {u} : brB true X Y u=X:=by simp [brB]
@[simp] theorem ET {X Y : Prop} {u} : brB false X Y u=Y:=by simp [brB]
def cdW (C : CC) (x y : dD) (Q : cv -> Env -> Prop) (_ : Tag (x,y,Q)) (e : Env) (d : D) : Prop:=match d with
 | .bool b=>brB b (wN C x Q ⟨⟩ e) (wN C y Q ⟨⟩ e) ⟨⟩
 | .bb=>wN C x Q ⟨⟩ e /\ wN C y Q ⟨⟩ e
 | _=>False
@[simp] theorem R5 {x y u} : cdW C x y Q u e .bb=(wN C x Q ⟨⟩ e /\ wN C y Q ⟨⟩ e):=zR
@[simp] theorem Im {x y u b} : cdW C x y Q u e (.bool b)=brB b (wN C x Q ⟨⟩ e) (wN C y Q ⟨⟩ e) ⟨⟩:=zR
@[simp] theorem RY {c x y u} : wN C (.cond c x y) Q u e=cdW C x y Q ⟨⟩ e (vd (ac e) c):=zR
@[simp] theorem Nb {id c u} : wN C (.block id c) Q u e=wN C c (pa id Q) ⟨⟩ e:=zR
@[simp] theorem R1 {c u} : wN C (.loop c) Q u e=tg C c Q ⟨⟩ e:=zR
@[simp] theorem R0 {id u} : wN C (.exit id) Q u e=bM Q ⟨⟩ (.ext id) e:=zR
@[simp] theorem Tv {u} : wN C .ret Q u e=bM Q ⟨⟩ .ret e:=zR
@[simp] theorem yU {y u} : bM (Ah C y Q) u .nrm e=wN C y Q ⟨⟩ e:=zR
@[simp] theorem yT {y u i} : bM (Ah C y Q) u (.ext i) e=bM Q ⟨⟩ (.ext i) e:=zR
@[simp] theorem yV {y u} : bM (Ah C y Q) u .ret e=bM Q ⟨⟩ .ret e:=zR
@[simp] theorem vP {id u} : bM (pa id Q) u .nrm e=bM Q ⟨⟩ .nrm e:=zR
@[simp] theorem vO {id u i} : bM (pa id Q) u (.ext i) e=if i=id then bM Q ⟨⟩ .nrm e else bM Q ⟨⟩ (.ext i) e:=zR
@[simp] theorem vQ {id u} : bM (pa id Q) u .ret e=bM Q ⟨⟩ .ret e:=zR
@[simp] theorem yL {r u} : bM (fin r d) u .nrm e=fq r d e:=by simp [bM,fin]
@[simp] theorem yM {r u} : bM (fin r d) u .ret e=fq r d e:=by simp [bM,fin]
@[simp] theorem ye {r d} {u : Tag (ud r d)} : bM (ud r d) u .nrm e=jT r d e:=by simp [bM,ud]
@[simp] theorem yf {r d} {u : Tag (ud r d)} : bM (ud r d) u .ret e=jT r d e:=by simp [bM,ud]
@[simp] theorem yb {r sz es} {u : Tag (rW r sz es)} : bM (rW r sz es) u .nrm e=jU r sz es e:=by simp [bM,rW]
@[simp] theorem yc {r sz es} {u : Tag (rW r sz es)} : bM (rW r sz es) u .ret e=jU r sz es e:=by simp [bM,rW]
@[simp] theorem yj {r d sz es} {u : Tag (rX r d sz es)} : bM (rX r d sz es) u .nrm e=((0 < es.length /\ ac e 10015=.blk sz es) /\ fq r d ((10015,.any)::e)):=by simp [bM,rX]
@[simp] theorem yk {r d sz es} {u : Tag (rX r d sz es)} : bM (rX r d sz es) u .ret e=((0 < es.length /\ ac e 10015=.blk sz es) /\ fq r d ((10015,.any)::e)):=by simp [bM,rX]
@[simp] theorem yg {r sz es} {u : Tag (ue r sz es)} : bM (ue r sz es) u .nrm e=jV r sz es e:=by simp [bM,ue]
@[simp] theorem yi {r sz es} {u : Tag (ue r sz es)} : bM (ue r sz es) u .ret e=jV r sz es e:=by simp [bM,ue]
@[simp] theorem x9 {r d} {u : Tag (uc r d)} : bM (uc r d) u .nrm e=rj r d e:=by simp [bM,uc]
@[simp] theorem ya {r d} {u : Tag (uc r d)} : bM (uc r d) u .ret e=rj r d e:=by simp [bM,uc]
@[simp] theorem vT {S G I m s u} : bM (pQ S G I m s Q) u .nrm e=∃ s',I s' /\ m s' < m s /\ jY e (G s'):=zR
@[simp] theorem vR {S G I m s u i} : bM (pQ S G I m s Q) u (.ext i) e=bM Q ⟨⟩ (.ext i) e:=zR
@[simp] theorem vU {S G I m s u} : bM (pQ S G I m s Q) u .ret e=bM Q ⟨⟩ .ret e:=zR
end
section
variable {C : CC} {Q : cv -> Env -> Prop} {e : Env} {K : Env -> Prop} {dst : Option Nat} {d : D} {hs : Option (List Nat)} {ns : List aA} {R : List Nat} {acc : List (List Nat × List Nat)} {u : Tag (hs,K,ns)}
@[simp] theorem Mr {keep u} : uB C (zZ keep Q) [] u e=bM Q ⟨⟩ .nrm (prune keep e):=zR
@[simp] theorem Mq {h keep u} : sy C h (zZ keep Q) [] u e acc=(JD h acc /\ bM Q ⟨⟩ .nrm (prune keep e)):=zR
@[simp] theorem Hm {dst op ns u} : uB C K (⟨dst,op,none⟩::ns) u e=opW C none K ns dst op ⟨⟩ e [] []:=zR
@[simp] theorem Hk {h dst op ns u} : sy C h K (⟨dst,op,none⟩::ns) u e acc=(chk (ac e) ⟨dst,op,none⟩=true /\ opW C (some h) K ns dst op ⟨⟩ e (iG (ac e) ⟨dst,op,none⟩) acc):=zR
def nQ (C : CC) (h : List Nat) (K : Env -> Prop) (ns : List aA) (_ : Tag (h,K,ns)) (e : Env) (dst : Option Nat) (R : List Nat) (acc : List (List Nat × List Nat)) : Prop:=gQ e dst fun e'=>jG C h K ns e' ((R,t7 dst)::acc)
@[simp] theorem DW {h t ns u} : nQ C h K ns u e (some t) R acc=sy C h K ns ⟨⟩ ((t,.tup [])::e) ((R,[4 * t])::acc):=zR
@[simp] theorem DV {h ns u} : nQ C h K ns u e none R acc=sy C h K ns ⟨⟩ e ((R,[])::acc):=zR
def gdT (C : CC) (K : Env -> Prop) (ns : List aA) (dst : Option Nat) (op : NOp) (s : Nat) (want : Bool) (_ : Tag (K,ns)) (e : Env) (d : D) : Prop:=match d with
 | .bool b=>(b=want -> opW C none K ns dst op ⟨⟩ ((s,.bool want)::e) [] []) /\ (b=!want -> dW C none K ns dst ⟨⟩ ((s,.bool !want)::e) [] [] (.tup []))
 | .tup []=>dW C none K ns dst ⟨⟩ e [] [] (.tup [])
 | _=>False
@[simp] theorem Jl {op s b u} : gdT C K ns dst op s true u e (.bool b)=brB b (opW C none K ns dst op ⟨⟩ ((s,.bool true)::e) [] []) (dW C none K ns dst ⟨⟩ ((s,.bool false)::e) [] [] (.tup [])) ⟨⟩:=zR
@[simp] theorem FO {op s b u} : gdT C K ns dst op s false u e (.bool b)=brB b (dW C none K ns dst ⟨⟩ ((s,.bool true)::e) [] [] (.tup [])) (opW C none K ns dst op ⟨⟩ ((s,.bool false)::e) [] []) ⟨⟩:=by
 simp only [gdT,brB,Bool.not_false];exact propext ⟨fun h=>⟨h.2,h.1⟩,fun h=>⟨h.2,h.1⟩⟩
@[simp] theorem Jk {op s want u} : gdT C K ns dst op s want u e (.tup [])=dW C none K ns dst ⟨⟩ e [] [] (.tup []):=zR
@[simp] theorem Hn {dst op s want ns u} : uB C K (⟨dst,op,some (s,want)⟩::ns) u e=gdT C K ns dst op s want ⟨⟩ e (ac e s):=by
 simp only [uB,iy,opW,rE,gQ,gdT,dW,d9,kOf,Bi,d4]
 cases ac e s <;> cases dst <;> (first | rfl | (rename_i x _ ;cases x <;> rfl) | (rename_i x;cases x <;> rfl))
def gdD (C : CC) (h : List Nat) (K : Env -> Prop) (ns : List aA) (dst : Option Nat) (op : NOp) (want : Bool) (_ : Tag (K,ns)) (e : Env) (R : List Nat) (acc : List (List Nat × List Nat)) (d : D) : Prop:=match d with
 | .bool b=>(b=want -> opW C (some h) K ns dst op ⟨⟩ e R acc) /\ (b=!want -> nQ C h K ns ⟨⟩ e dst R acc)
 | .tup []=>nQ C h K ns ⟨⟩ e dst R acc
 | _=>False
@[simp] theorem Jj {h op b u} : gdD C h K ns dst op true u e R acc (.bool b)=brB b (opW C (some h) K ns dst op ⟨⟩ e R acc) (nQ C h K ns ⟨⟩ e dst R acc) ⟨⟩:=zR
@[simp] theorem FN {h op b u} : gdD C h K ns dst op false u e R acc (.bool b)=brB b (nQ C h K ns ⟨⟩ e dst R acc) (opW C (some h) K ns dst op ⟨⟩ e R acc) ⟨⟩:=by
 simp only [gdD,brB,Bool.not_false];exact propext ⟨fun h=>⟨h.2,h.1⟩,fun h=>⟨h.2,h.1⟩⟩
@[simp] theorem Ji {h op want u} : gdD C h K ns dst op want u e R acc (.tup [])=nQ C h K ns ⟨⟩ e dst R acc:=zR
@[simp] theorem Hl {h dst op s want ns u} : sy C h K (⟨dst,op,some (s,want)⟩::ns) u e acc=(chk (ac e) ⟨dst,op,some (s,want)⟩=true /\ gdD C h K ns dst op want ⟨⟩ e (iG (ac e) ⟨dst,op,some (s,want)⟩) acc (ac e s)):=zR
@[simp] theorem IB {K ns u ws ks} : doW C none K ns u e R acc ws ks=uB C K ns ⟨⟩ (ws++d4 ks e):=zR
@[simp] theorem IA {h K ns u ws ks} : doW C (some h) K ns u e R acc ws ks=(wOk R ws ks=true /\ sy C h K ns ⟨⟩ (ws++d4 ks e) ((R,wrK ws ks)::acc)):=zR
@[simp] theorem Nv {t} : dW C hs K ns (some t) u e R acc d=doW C hs K ns ⟨⟩ e R acc [(t,d)] []:=zR
@[simp] theorem Nu : dW C hs K ns none u e R acc d=doW C hs K ns ⟨⟩ e R acc [] []:=zR
def aP (ks : List (Nat × Bool)) (d : D) : D:=if aK ks d then .any else d
theorem bD (ks : List (Nat × Bool)) (d : D) : aP ks d=bif aK ks d then .any else d:=by
 unfold aP;cases aK ks d <;> rfl
@[simp] theorem GS : d4 [] e=e:=zR
@[simp] theorem GR {k ks} : d4 (k::ks) []=[]:=zR
@[simp] theorem C3 {k ks s d} : d4 (k::ks) ((s,d)::e)=(s,aP (k::ks) d)::d4 (k::ks) e:=zR
@[simp] theorem Gz {ks} : aP ks .any=.any:=by simp [aP]
@[simp] theorem GF {ks k n} : aP ks (.int k n)=.int k n:=by simp [aP,aK,cY,aF]
@[simp] theorem C0 {ks n} : aP ks (.bool n)=.bool n:=by simp [aP,aK,cY,aF]
@[simp] theorem GO {ks n} : aP ks (.str n)=.str n:=by simp [aP,aK,cY,aF]
@[simp] theorem Li {ks} : aP ks .bb=.bb:=by simp [aP,aK,cY,aF]
@[simp] theorem C1 {ks} : aP ks .nilp=.nilp:=by simp [aP,aK,cY,aF]
@[simp] theorem C2 {ks} : aP ks .nils=.nils:=by simp [aP,aK,cY,aF]
@[simp] theorem Gx {ks n} : aP ks (.agg n)=.agg n:=by simp [aP,aK,cY,aF]
@[simp] theorem GQ {ks n} : aP ks (.tup n)=.tup n:=by simp [aP,aK,cY,aF]
@[simp] theorem Ll {ks n} : aP ks (.sl n)=.sl n:=by simp [aP,aK,cY,aF]
@[simp] theorem GI {ks n} : aP ks (.ptr n)=.ptr n:=by simp [aP,aK,cY,aF]
@[simp] theorem Lj {ks g n} : aP ks (.fn g n)=.fn g n:=by simp [aP,aK,cY,aF]
@[simp] theorem GA {ks g n} : aP ks (.blk g n)=.blk g n:=by simp [aP,aK,cY,aF]
@[simp] theorem Lk {ks kt et xs vs} : aP ks (.mp kt et xs vs)=.mp kt et xs vs:=by simp [aP,aK,cY,aF]
@[simp] theorem GK {b all ks p k n} : aP ((b,all)::ks) (.ref p k n)=if bk b all p then .any else aP ks (.ref p k n):=by
 have h : aP ((b,all)::ks) (.ref p k n)=bif (bk b all p || aK ks (.ref p k n)) then .any else .ref p k n:=bD ..
 rw [h,bD]
 cases bk b all p <;> rfl
@[simp] theorem Gw {b all ks p k n} : aP ((b,all)::ks) (.adr p k n)=if bk b all p then .any else aP ks (.adr p k n):=by
 have h : aP ((b,all)::ks) (.adr p k n)=bif (bk b all p || aK ks (.adr p k n)) then .any else .adr p k n:=bD ..
 rw [h,bD]
 cases bk b all p <;> rfl
@[simp] theorem Gy {b all ks n} : aP ((b,all)::ks) (.agx n)=if n.any (aF b all) then .any else aP ks (.agx n):=by
 have h : aP ((b,all)::ks) (.agx n)=bif (n.any (aF b all) || aK ks (.agx n)) then .any else .agx n:=bD ..
 rw [h,bD]
 cases n.any (aF b all) <;> rfl
@[simp] theorem GB {b all ks g n} : aP ((b,all)::ks) (.fnx g n)=if n.any (aF b all) then .any else aP ks (.fnx g n):=by
 have h : aP ((b,all)::ks) (.fnx g n)=bif (n.any (aF b all) || aK ks (.fnx g n)) then .any else .fnx g n:=bD ..
 rw [h,bD]
 cases n.any (aF b all) <;> rfl
@[simp] theorem GE {ks T n} : aP ks (.ifi T n)=.ifi T n:=by simp [aP,aK,cY,aF]
@[simp] theorem GM {ks q n} : aP ks (.slv q n)=.slv q n:=by simp [aP,aK,cY,aF]
@[simp] theorem GD {b all ks T p k n} : aP ((b,all)::ks) (.ifa T p k n)=if bk b all p then .any else aP ks (.ifa T p k n):=by
 have h : aP ((b,all)::ks) (.ifa T p k n)=bif (bk b all p || aK ks (.ifa T p k n)) then .any else .ifa T p k n:=bD ..
 rw [h,bD]
 cases bk b all p <;> rfl
@[simp] theorem GC {b all ks g ds cs} : aP ((b,all)::ks) (.fny g ds cs)=if ds.any (aF b all) || cs.any (aF b all) then .any else aP ks (.fny g ds cs):=by
 have h : aP ((b,all)::ks) (.fny g ds cs)=bif ((ds.any (aF b all) || cs.any (aF b all)) || aK ks (.fny g ds cs)) then .any else .fny g ds cs:=bD ..
 rw [h,bD]
 cases ds.any (aF b all) <;> cases cs.any (aF b all) <;> rfl
@[simp] theorem GH {d} : aP [] d=d:=by simp [aP,aK]
@[simp] theorem GN {ks b es} : aP ks (slx b es)=slx b es:=by cases b <;> cases es <;> simp [slx]
def iv (C : CC) (hs : Option (List Nat)) (K : Env -> Prop) (ns : List aA) (dst : Option Nat) (_ : Tag (hs,K,ns)) (e : Env) (R : List Nat) (acc : List (List Nat × List Nat)) (sz : Nat) (es : List (List D)) (i : Nat) : Prop :=
 ∃ c,es[i]? = some c /\ c.length=sz /\ d9 dst (kOf C hs K ns e R acc) (.ptr c)
@[simp] theorem JB {α : Type} [Inhabited α] {sz : Nat} {xs : List α} {f : α -> List D} {i : Nat} : iv C hs K ns dst u e R acc sz (xs.map f) i=(i < xs.length /\ (f xs[i]!).length=sz /\ dW C hs K ns dst ⟨⟩ e R acc (.ptr (f xs[i]!))):=by
 apply propext
 unfold iv dW
 constructor
 ·rintro ⟨c,h,h1,h2⟩
  rw [x0x,x0i] at h
  obtain ⟨x,hx,rfl⟩:=h
  obtain ⟨hi,rfl⟩:=x0b.1 hx
  rw [x1k xs i hi]
  exact ⟨hi,h1,h2⟩
 ·rintro ⟨hi,h1,h2⟩
  rw [x1k xs i hi] at h1 h2
  exact ⟨_,by rw [x0x,x0d hi];rfl,h1,h2⟩
def Cg (C : CC) (hs : Option (List Nat)) (K : Env -> Prop) (ns : List aA) (dst : Option Nat) (_ : Tag (hs,K,ns)) (e : Env) (R : List Nat) (acc : List (List Nat × List Nat)) (s : List UInt8) (i : Nat) : Prop :=
 ∃ b,s[i]? = some b /\ d9 dst (kOf C hs K ns e R acc) (.int .u8 b.toNat)
@[simp] theorem Nq {s : List UInt8} {i : Nat} : Cg C hs K ns dst u e R acc s i=(i < s.length /\ dW C hs K ns dst ⟨⟩ e R acc (.int .u8 (s[i]!).toNat)):=by
 apply propext
 unfold Cg dW
 constructor
 ·rintro ⟨b,h,h2⟩
  obtain ⟨hi,rfl⟩:=x0b.1 h
  rw [x1k s i hi]
  exact ⟨hi,h2⟩
 ·rintro ⟨hi,h2⟩
  rw [x1k s i hi] at h2
  exact ⟨_,x0d hi,h2⟩
def lF (C : CC) (hs : Option (List Nat)) (K : Env -> Prop) (ns : List aA) (dst : Option Nat) (_ : Tag (hs,K,ns)) (e : Env) (R : List Nat) (acc : List (List Nat × List Nat)) (n : Nat) (ag : Bool) (p : Pa) (es : List (List D)) (i off : Nat) : Prop :=
 ∃ r,es[i]? = some r /\ off + n <= r.length /\ match ag with
    | true=>(((r.drop off).take n).all isV=true -> d9 dst (kOf C hs K ns e R acc) (.agg ((r.drop off).take n))) /\
      (((r.drop off).take n).all isV=false -> d9 dst (kOf C hs K ns e R acc) (.agx (((r.drop off).take n).mapIdx fun j c=>ldc p i (off + j) c)))
    | false=>d9 dst (kOf C hs K ns e R acc) (ldc p i off ((r.drop off).headD .any))
theorem pR {n : Nat} {ag : Bool} {p : Pa} {es : List (List D)} {i off : Nat} {r : List D} (hr : es[i]? = some r) (hl : off + n <= r.length) (hk : match ag with
    | true=>(((r.drop off).take n).all isV=true -> dW C hs K ns dst ⟨⟩ e R acc (.agg ((r.drop off).take n))) /\
      (((r.drop off).take n).all isV=false -> dW C hs K ns dst ⟨⟩ e R acc (.agx (((r.drop off).take n).mapIdx fun j c=>ldc p i (off + j) c)))
    | false=>dW C hs K ns dst ⟨⟩ e R acc (ldc p i off ((r.drop off).headD .any))) : lF C hs K ns dst u e R acc n ag p es i off:=by
 refine ⟨r,hr,hl,?_⟩
 cases ag <;> exact hk
@[simp] theorem ML {n : Nat} {ag : Bool} {p : Pa} {r : List D} {off : Nat} : lF C hs K ns dst u e R acc n ag p [r] 0 off=(off + n <= r.length /\ match ag with
    | true=>(((r.drop off).take n).all isV=true -> dW C hs K ns dst ⟨⟩ e R acc (.agg ((r.drop off).take n))) /\
      (((r.drop off).take n).all isV=false -> dW C hs K ns dst ⟨⟩ e R acc (.agx (((r.drop off).take n).mapIdx fun j c=>ldc p 0 (off + j) c)))
    | false=>dW C hs K ns dst ⟨⟩ e R acc (ldc p 0 off ((r.drop off).headD .any))):=by
 apply propext
 constructor
 ·rintro ⟨r',h1,h2,h3⟩
  simp at h1;subst h1
  refine ⟨h2,?_⟩
  cases ag <;> exact h3
 ·rintro ⟨h2,h3⟩
  refine ⟨r,rfl,h2,?_⟩
  cases ag <;> exact h3
end
section
variable {C : CC} {Q : cv -> Env -> Prop} {e : Env} {K : Env -> Prop} {dst : Option Nat} {hs : Option (List Nat)} {ns : List aA} {R : List Nat} {acc : List (List Nat × List Nat)} {u : Tag (hs,K,ns)}
@[simp] theorem RH {x v1} : opW C hs K ns dst (.mov x) v1 e R acc=(isS (vd (ac e) x)=true /\ dW C hs K ns dst ⟨⟩ e R acc (vd (ac e) x)):=zR
@[simp] theorem RK {x v1} : opW C hs K ns dst (.nck x) v1 e R acc=(match (generalizing:=false) vd (ac e) x with
  | .ptr ds=>dW C hs K ns dst ⟨⟩ e R acc (.ptr ds)
  | .adr p i off=>dW C hs K ns dst ⟨⟩ e R acc (.adr p i off)
  | .ptx ds=>dW C hs K ns dst ⟨⟩ e R acc (.ptx ds)
  | _=>False):=zR
@[simp] theorem Mo {c a b v1} : opW C hs K ns dst (.pick c a b) v1 e R acc=(match (generalizing:=false) vd (ac e) c with
  | .bool v=>(v=true -> isS (vd (ac e) a)=true /\ dW C hs K ns dst ⟨⟩ e R acc (vd (ac e) a)) /\ (v=false -> isS (vd (ac e) b)=true /\ dW C hs K ns dst ⟨⟩ e R acc (vd (ac e) b))
  | _=>False):=zR
@[simp] theorem Rt {op x y v1} : opW C hs K ns dst (.bin op x y) v1 e R acc=(match (generalizing:=false) vd (ac e) x,vd (ac e) y with
  | .int k a,.int k' b=>match (generalizing:=false) op with
   | .add=>k=k' /\ dW C hs K ns dst ⟨⟩ e R acc (.int k (k.wrap (a + b)))
   | .sub=>k=k' /\ dW C hs K ns dst ⟨⟩ e R acc (.int k (k.wrap (a - b)))
   | .mul=>k=k' /\ dW C hs K ns dst ⟨⟩ e R acc (.int k (k.wrap (a * b)))
   | .quo=>k=k' /\ b ≠ 0 /\ dW C hs K ns dst ⟨⟩ e R acc (.int k (k.wrap (a.tdiv b)))
   | .rem=>k=k' /\ b ≠ 0 /\ dW C hs K ns dst ⟨⟩ e R acc (.int k (a.tmod b))
   | .and=>k=k' /\ dW C hs K ns dst ⟨⟩ e R acc (.int k (bits .and k a b))
   | .or=>k=k' /\ dW C hs K ns dst ⟨⟩ e R acc (.int k (bits .or k a b))
   | .xor=>k=k' /\ dW C hs K ns dst ⟨⟩ e R acc (.int k (bits .xor k a b))
   | .andNot=>k=k' /\ dW C hs K ns dst ⟨⟩ e R acc (.int k (bits .andNot k a b))
   | .shl=>0 <= b /\ dW C hs K ns dst ⟨⟩ e R acc (.int k (k.wrap (a * 2 ^ (min b.toNat k.bits))))
   | .shr=>0 <= b /\ dW C hs K ns dst ⟨⟩ e R acc (.int k (a.fdiv (2 ^ (min b.toNat k.bits))))
   | .eql=>k=k' /\ dW C hs K ns dst ⟨⟩ e R acc (.bool (decide (a=b)))
   | .neq=>k=k' /\ dW C hs K ns dst ⟨⟩ e R acc (.bool (!decide (a=b)))
   | .lss=>k=k' /\ dW C hs K ns dst ⟨⟩ e R acc (.bool (decide (a < b)))
   | .leq=>k=k' /\ dW C hs K ns dst ⟨⟩ e R acc (.bool (decide (a <= b)))
   | .gtr=>k=k' /\ dW C hs K ns dst ⟨⟩ e R acc (.bool (decide (b < a)))
   | .geq=>k=k' /\ dW C hs K ns dst ⟨⟩ e R acc (.bool (decide (b <= a)))
  | .str a,.str b=>match (generalizing:=false) op with
   | .eql=>dW C hs K ns dst ⟨⟩ e R acc (.bool (decide (a=b)))
   | .neq=>dW C hs K ns dst ⟨⟩ e R acc (.bool (!decide (a=b)))
   | .add=>((a++b).length : Int) <= 9223372036854775807 /\ dW C hs K ns dst ⟨⟩ e R acc (.str (a++b))
   | .lss=>dW C hs K ns dst ⟨⟩ e R acc (.bool (Op.bytesLess a b))
   | .leq=>dW C hs K ns dst ⟨⟩ e R acc (.bool (Op.bytesLess a b || a == b))
   | .gtr=>dW C hs K ns dst ⟨⟩ e R acc (.bool !(Op.bytesLess a b || a == b))
   | .geq=>dW C hs K ns dst ⟨⟩ e R acc (.bool !(Op.bytesLess a b))
   | _=>False
  | _,_=>False):=zR
@[simp] theorem Tk {op x v1} : opW C hs K ns dst (.un op x) v1 e R acc=(match (generalizing:=false) vd (ac e) x with
  | .bool b=>match (generalizing:=false) op with
   | .not=>dW C hs K ns dst ⟨⟩ e R acc (.bool (!b))
   | _=>False
  | .int k n=>match (generalizing:=false) op with
   | .neg=>dW C hs K ns dst ⟨⟩ e R acc (.int k (k.wrap (0 - n)))
   | _=>False
  | _=>False):=zR
@[simp] theorem Mg {k x v1} : opW C hs K ns dst (.conv k x) v1 e R acc=(match (generalizing:=false) vd (ac e) x with
  | .int _ n=>dW C hs K ns dst ⟨⟩ e R acc (.int k (k.wrap n))
  | _=>False):=zR
@[simp] theorem Rr {neg ks x y v1} : opW C hs K ns dst (.beq neg ks x y) v1 e R acc=(match (generalizing:=false) vd (ac e) x,vd (ac e) y with
  | .bool a,.bool b=>ks=[] /\ dW C hs K ns dst ⟨⟩ e R acc (.bool ((a == b) != neg))
  | .agg a,.agg b=>ks ≠ [] /\ match (generalizing:=false) cq ks a b with
   | some r=>dW C hs K ns dst ⟨⟩ e R acc (.bool (r != neg))
   | none=>False
  | .nils,.nils=>ks=[9] /\ dW C hs K ns dst ⟨⟩ e R acc (.bool (!neg))
  | .sl es,.nils=>ks=[9] /\ (0 < es.length -> dW C hs K ns dst ⟨⟩ e R acc (.bool neg)) /\ (es.length=0 -> dW C hs K ns dst ⟨⟩ e R acc .bb)
  | .nilp,.nilp=>ks=[8] /\ dW C hs K ns dst ⟨⟩ e R acc (.bool (!neg))
  | .ptr _,.nilp=>ks=[8] /\ dW C hs K ns dst ⟨⟩ e R acc (.bool neg)
  | _,_=>False):=zR
@[simp] theorem Mk {len sz ag x i v1} : opW C hs K ns dst (.idxA len sz ag x i) v1 e R acc=(match (generalizing:=false) vd (ac e) x,vd (ac e) i with
  | .agg ds,.int _ j=>0 <= j /\ j < len /\ j.toNat * sz + sz <= ds.length /\ dW C hs K ns dst ⟨⟩ e R acc (og ag sz (ds.drop (j.toNat * sz)))
  | .agx ds,.int _ j=>0 <= j /\ j < len /\ j.toNat * sz + sz <= ds.length /\ match (generalizing:=false) ag with
   | true=>dW C hs K ns dst ⟨⟩ e R acc (.agx ((ds.drop (j.toNat * sz)).take sz))
   | false=>dW C hs K ns dst ⟨⟩ e R acc ((ds.drop (j.toNat * sz)).headD .any)
  | _,_=>False):=zR
@[simp] theorem Ry {x v1} : opW C hs K ns dst (.cvS x) v1 e R acc=(match (generalizing:=false) vd (ac e) x with
  | .sl es=>0 < es.length /\ (∀ r ∈ es,∃ n : Nat,r=[.int .u8 n] /\ n < 256) /\ dW C hs K ns dst ⟨⟩ e R acc (.str (es.map gr))
  | _=>False):=zR
@[simp] theorem Ml {x i v1} : opW C hs K ns dst (.idxS x i) v1 e R acc=(match (generalizing:=false) vd (ac e) x,vd (ac e) i with
  | .str s,.int _ j=>0 <= j /\ Cg C hs K ns dst ⟨⟩ e R acc s j.toNat
  | _,_=>False):=zR
@[simp] theorem Rz {i x v1} : opW C hs K ns dst (.ext i x) v1 e R acc=(match (generalizing:=false) vd (ac e) x with
  | .tup ds=>∃ d,ds[i]? = some d /\ dW C hs K ns dst ⟨⟩ e R acc d
  | .tpx ds=>∃ d,ds[i]? = some d /\ dW C hs K ns dst ⟨⟩ e R acc d
  | _=>False):=zR
@[simp] theorem RA {off x v1} : opW C hs K ns dst (.fad off x) v1 e R acc=(match (generalizing:=false) vd (ac e) x with
  | .adr p i o=>dW C hs K ns dst ⟨⟩ e R acc (.adr p i (o + off))
  | .ptr ds=>dW C hs K ns dst ⟨⟩ e R acc (.ptr (ds.drop off))
  | .ptx ds=>dW C hs K ns dst ⟨⟩ e R acc (.ptx (ds.drop off))
  | _=>False):=zR
@[simp] theorem Mh {len sz x i v1} : opW C hs K ns dst (.iadA len sz x i) v1 e R acc=(match (generalizing:=false) vd (ac e) x,vd (ac e) i with
  | .adr p r o,.int _ j=>0 <= j /\ j < len /\ dW C hs K ns dst ⟨⟩ e R acc (.adr p r (o + j.toNat * sz))
  | .ptr ds,.int _ j=>0 <= j /\ j < len /\ dW C hs K ns dst ⟨⟩ e R acc (.ptr (ds.drop (j.toNat * sz)))
  | _,_=>False):=zR
@[simp] theorem Tf {n ag x v1} : opW C hs K ns dst (.ld n ag x) v1 e R acc=(match (generalizing:=false) vd (ac e) x with
  | .adr p i off=>match (generalizing:=false) bH (ac e) p with
   | some (_,es)=>lF C hs K ns dst ⟨⟩ e R acc n ag p es i off
   | none=>False
  | .ptr ds=>n <= ds.length /\ dW C hs K ns dst ⟨⟩ e R acc (og ag n ds)
  | .ptx ds=>n <= ds.length /\ match (generalizing:=false) ag with
   | true=>((ds.take n).all isV=true -> dW C hs K ns dst ⟨⟩ e R acc (.agg (ds.take n))) /\ ((ds.take n).all isV=false -> dW C hs K ns dst ⟨⟩ e R acc (.agx (ds.take n)))
   | false=>0 < n /\ dW C hs K ns dst ⟨⟩ e R acc (ds.headD .any)
  | _=>False):=zR
@[simp] theorem Ru {zs parts v1} : opW C hs K ns dst (.bld zs parts) v1 e R acc=((∀ p ∈ parts,isS (vd (ac e) p.2.2)=true /\ p.1 + p.2.1 <= zs.length /\ match (generalizing:=false) vd (ac e) p.2.2 with
    | .agg ds=>ds.length=p.2.1
    | .agx ds=>ds.length=p.2.1
    | .any=>False
    | .tpx _=>False
    | .ptx _=>False
    | .rfx _ _ _=>False
    | .fny _ _ _=>False
    | .fnx _ _=>False
    | _=>p.2.1=1) /\
   ((parts.all fun p=>isV (vd (ac e) p.2.2))=true -> dW C hs K ns dst ⟨⟩ e R acc (.agg (iJ zs (parts.map fun p=>(p.1,p.2.1,vd (ac e) p.2.2))))) /\
   ((parts.all fun p=>isV (vd (ac e) p.2.2))=false -> dW C hs K ns dst ⟨⟩ e R acc (.agx (iJ zs (parts.map fun p=>(p.1,p.2.1,bR (vd (ac e) p.2.2))))))):=zR
@[simp] theorem Mm {x v1} : opW C hs K ns dst (.lens x) v1 e R acc=(match (generalizing:=false) vd (ac e) x with
  | .str s=>dW C hs K ns dst ⟨⟩ e R acc (.int .i64 s.length)
  | _=>False):=zR
@[simp] theorem Tg {g xs v1} : opW C hs K ns dst (.mk g xs) v1 e R acc=((∀ x ∈ xs,isP (vd (ac e) x)=true) /\ ((xs.all fun x=>isV (vd (ac e) x))=true -> dW C hs K ns dst ⟨⟩ e R acc (.fn g (xs.map (vd (ac e))))) /\ ((xs.all fun x=>isV (vd (ac e) x))=false -> dW C hs K ns dst ⟨⟩ e R acc (.fnx g (xs.map (vd (ac e)))))):=zR
@[simp] theorem Th {x y v1} : opW C hs K ns dst (.mn x y) v1 e R acc=(match (generalizing:=false) vd (ac e) x,vd (ac e) y with
  | .int k a,.int k' b=>k=k' /\ dW C hs K ns dst ⟨⟩ e R acc (.int k (if b < a then b else a))
  | _,_=>False):=zR
@[simp] theorem Ti {x y v1} : opW C hs K ns dst (.mx x y) v1 e R acc=(match (generalizing:=false) vd (ac e) x,vd (ac e) y with
  | .int k a,.int k' b=>k=k' /\ dW C hs K ns dst ⟨⟩ e R acc (.int k (if a < b then b else a))
  | _,_=>False):=zR
@[simp] theorem Hc {x y c v1} : opW C hs K ns dst (.add64 x y c) v1 e R acc=(match (generalizing:=false) vd (ac e) x,vd (ac e) y,vd (ac e) c with
  | .int .u64 a,.int .u64 b,.int .u64 k=>0 <= a /\ a < 18446744073709551616 /\ 0 <= b /\ b < 18446744073709551616 /\ 0 <= k /\ k <= 1 /\
    dW C hs K ns dst ⟨⟩ e R acc (.tup [.int .u64 ((a + b + k) % 18446744073709551616),.int .u64 ((a + b + k) / 18446744073709551616)])
  | _,_,_=>False):=zR
@[simp] theorem Hj {x y c v1} : opW C hs K ns dst (.sub64 x y c) v1 e R acc=(match (generalizing:=false) vd (ac e) x,vd (ac e) y,vd (ac e) c with
  | .int .u64 a,.int .u64 b,.int .u64 k=>0 <= a /\ a < 18446744073709551616 /\ 0 <= b /\ b < 18446744073709551616 /\ 0 <= k /\ k <= 1 /\
    dW C hs K ns dst ⟨⟩ e R acc (.tup [.int .u64 ((a - b - k) % 18446744073709551616),.int .u64 (if a < b + k then 1 else 0)])
  | _,_,_=>False):=zR
@[simp] theorem Mn {sz v1} : opW C hs K ns dst (.nilo sz) v1 e R acc=(match (generalizing:=false) dst with
  | some t=>0 < sz /\ doW C hs K ns ⟨⟩ e R acc [(t,.ref (.r (rt t 0)) 0 0),(rt t 0,.blk sz [])] [(rt t 0,true)]
  | none=>False):=zR
@[simp] theorem Rw {x t v1} : opW C hs K ns (some t) (.box [] x) v1 e R acc=gB (ac e) (vd (ac e) x) [] (fun cs bs=>bs.contains (rt t 0)=false /\ doW C hs K ns ⟨⟩ e R acc ((t,.adr (.r (rt t 0)) 0 0)::(rt t 0,.blk cs.length [cs])::co bs) [(rt t 0,true)]) ⟨⟩:=zR
@[simp] theorem Ro {zs v1} : opW C hs K ns dst (.alc zs) v1 e R acc=(match (generalizing:=false) dst with
  | some t=>doW C hs K ns ⟨⟩ e R acc [(t,.adr (.r (rt t 0)) 0 0),(rt t 0,.blk zs.length [zs])] [(rt t 0,true)]
  | none=>False):=zR
@[simp] theorem Rv {sz len zs parts t v1} : opW C hs K ns (some t) (.bls sz len zs [] parts) v1 e R acc=pJ (ac e) sz parts (List.replicate len zs) [] (fun es bs=>bG bs=true /\ bs.contains (rt t 0)=false /\ doW C hs K ns ⟨⟩ e R acc ((t,.ref (.r (rt t 0)) 0 len)::(rt t 0,.blk sz es)::co bs) [(rt t 0,true)]) ⟨⟩:=zR
@[simp] theorem RG {sz by_ zs n c v1} : opW C hs K ns dst (.mks sz by_ zs n c) v1 e R acc=(match (generalizing:=false) dst with
  | some t=>match (generalizing:=false) vd (ac e) n,vd (ac e) c with
   | .int _ n,.int _ c=>0 <= n /\ n <= c /\ c * by_ <= 140737488355328 /\ doW C hs K ns ⟨⟩ e R acc [(t,.ref (.r (rt t 0)) 0 n.toNat),(rt t 0,.blk sz (List.replicate c.toNat zs))] [(rt t 0,true)]
   | _,_=>False
  | none=>False):=zR
def stM (C : CC) (hs : Option (List Nat)) (K : Env -> Prop) (ns : List aA) (_ : Tag (hs,K,ns)) (e : Env) (R : List Nat) (acc : List (List Nat × List Nat)) (n : Nat) (v : D) (cs : List D) (bs : List Nat) (a : D) : Prop:=match a with
 | .adr (.r b) i off=>bs.contains b=false /\ hG (ac e b) (fun sz es=>kM es[i]? (fun r=>off + n <= r.length /\ doW C hs K ns ⟨⟩ e R acc ((b,.blk sz (bN es i off n cs))::co bs) (stK v [] b)) ⟨⟩) ⟨⟩
 | .adr (.n b i0 o0) i off=>bs=[] /\ (∀ c ∈ cs,aH c=true) /\ hG (ac e b) (fun sz0 es0=>kM es0[i0]? (fun row0=>pH row0[o0]? (fun sz es=>kM es[i]? (fun r=>off + n <= r.length /\ doW C hs K ns ⟨⟩ e R acc [(b,.blk sz0 (bN es0 i0 o0 1 [.own sz (bN es i off n cs)]))] []) ⟨⟩) ⟨⟩) ⟨⟩) ⟨⟩
 | _=>False
@[simp] theorem TE {n v cs bs b i off} : stM C hs K ns u e R acc n v cs bs (.adr (.r b) i off)=(bs.contains b=false /\ hG (ac e b) (fun sz es=>kM es[i]? (fun r=>off + n <= r.length /\ doW C hs K ns ⟨⟩ e R acc ((b,.blk sz (bN es i off n cs))::co bs) (stK v [] b)) ⟨⟩) ⟨⟩):=zR
@[simp] theorem TD {n v cs bs b i0 o0 i off} : stM C hs K ns u e R acc n v cs bs (.adr (.n b i0 o0) i off)=(bs=[] /\ (∀ c ∈ cs,aH c=true) /\ hG (ac e b) (fun sz0 es0=>kM es0[i0]? (fun row0=>pH row0[o0]? (fun sz es=>kM es[i]? (fun r=>off + n <= r.length /\ doW C hs K ns ⟨⟩ e R acc [(b,.blk sz0 (bN es0 i0 o0 1 [.own sz (bN es i off n cs)]))] []) ⟨⟩) ⟨⟩) ⟨⟩) ⟨⟩):=zR
@[simp] theorem Tj {n a v v1} : opW C hs K ns dst (.st n [] a v) v1 e R acc=(dst=none /\ gB (ac e) (vd (ac e) v) [] (fun cs bs=>cs.length=n /\ stM C hs K ns ⟨⟩ e R acc n (vd (ac e) v) cs bs (vd (ac e) a)) ⟨⟩):=by
 show (dst=none /\ f7 (ac e) (vd (ac e) v) [] _)=(dst=none /\ f7 (ac e) (vd (ac e) v) [] _)
 congr 1
 congr 1
 funext cs bs
 cases vd (ac e) a <;> try rfl
 rename_i p i off
 cases p with
 | r b =>
  simp only [stM,hG,kN]
  cases ac e b <;> rfl
 | n b i0 o0 =>
  simp only [stM,hG,kN,pI]
  cases ac e b <;> rfl
def tT (C : CC) (hs : Option (List Nat)) (K : Env -> Prop) (ns : List aA) (_ : Tag (hs,K,ns)) (e : Env) (R : List Nat) (acc : List (List Nat × List Nat)) (t sz by_ : Nat) (rowsY : List (List D)) (bs : List Nat) (x : D) : Prop:=match x with
 | .nils=>rowsY.length * by_ <= 140737488355328 /\ doW C hs K ns ⟨⟩ e R acc ((t,.ref (.r (rt t 0)) 0 rowsY.length)::(rt t 0,.blk sz rowsY)::co bs) [(rt t 0,true)]
 | .ref (.r c) k n=>c ≠ rt t 0 /\ bs.contains c=false /\ hG (ac e c) (fun sz' es=>sz'=sz /\ k + n <= es.length /\ (n + rowsY.length) * by_ <= 140737488355328 /\
      doW C hs K ns ⟨⟩ e R acc ((t,.ref (.r (rt t 0)) 0 (n + rowsY.length))::(rt t 0,.blk sz ((es.drop k).take n++rowsY))::(c,.any)::co bs) [(rt t 0,true)]) ⟨⟩
 | .ref (.n c i o) k n=>c ≠ rt t 0 /\ bs.contains c=false /\ hG (ac e c) (fun sz0 es0=>kM es0[i]? (fun row0=>pH row0[o]? (fun sz' es=>sz'=sz /\ k + n <= es.length /\ (n + rowsY.length) * by_ <= 140737488355328 /\
      doW C hs K ns ⟨⟩ e R acc ((t,.ref (.r (rt t 0)) 0 (n + rowsY.length))::(rt t 0,.blk sz ((es.drop k).take n++rowsY))::(c,.blk sz0 (bN es0 i o 1 [.any]))::co bs) [(rt t 0,true)]) ⟨⟩) ⟨⟩) ⟨⟩
 | _=>False
@[simp] theorem EK {t sz by_ rowsY bs} : tT C hs K ns u e R acc t sz by_ rowsY bs .nils=(rowsY.length * by_ <= 140737488355328 /\ doW C hs K ns ⟨⟩ e R acc ((t,.ref (.r (rt t 0)) 0 rowsY.length)::(rt t 0,.blk sz rowsY)::co bs) [(rt t 0,true)]):=zR
@[simp] theorem R4 {t sz by_ rowsY bs c k n} : tT C hs K ns u e R acc t sz by_ rowsY bs (.ref (.r c) k n)=(c ≠ rt t 0 /\ bs.contains c=false /\ hG (ac e c) (fun sz' es=>sz'=sz /\ k + n <= es.length /\ (n + rowsY.length) * by_ <= 140737488355328 /\
      doW C hs K ns ⟨⟩ e R acc ((t,.ref (.r (rt t 0)) 0 (n + rowsY.length))::(rt t 0,.blk sz ((es.drop k).take n++rowsY))::(c,.any)::co bs) [(rt t 0,true)]) ⟨⟩):=zR
@[simp] theorem R3 {t sz by_ rowsY bs c i o k n} : tT C hs K ns u e R acc t sz by_ rowsY bs (.ref (.n c i o) k n)=(c ≠ rt t 0 /\ bs.contains c=false /\ hG (ac e c) (fun sz0 es0=>kM es0[i]? (fun row0=>pH row0[o]? (fun sz' es=>sz'=sz /\ k + n <= es.length /\ (n + rowsY.length) * by_ <= 140737488355328 /\
      doW C hs K ns ⟨⟩ e R acc ((t,.ref (.r (rt t 0)) 0 (n + rowsY.length))::(rt t 0,.blk sz ((es.drop k).take n++rowsY))::(c,.blk sz0 (bN es0 i o 1 [.any]))::co bs) [(rt t 0,true)]) ⟨⟩) ⟨⟩) ⟨⟩):=zR
@[simp] theorem Rp {sz by_ mv x y t v1} : opW C hs K ns (some t) (.app sz by_ mv x y) v1 e R acc=i8 (ac e) mv (vd (ac e) y) sz (fun rowsY bs=>bs.contains (rt t 0)=false /\ tT C hs K ns ⟨⟩ e R acc t sz by_ rowsY bs (vd (ac e) x)) ⟨⟩:=by
 unfold opW i8
 simp only [aJ]
 congr 1
 funext rowsY bs
 congr 1
 cases vd (ac e) x <;> try rfl
 rename_i p k n
 cases p with
 | r c =>
  simp only [tT,hG]
  cases ac e c <;> rfl
 | n c i o =>
  simp only [tT,hG,kN,pI]
  cases hl : ac e c <;> try rfl
  rename_i sz0 es0
  refine congrArg _ (congrArg _ (propext ⟨?_,?_⟩))
  ·rintro ⟨row0,h1,es,h2,h3⟩
   exact ⟨row0,h1,sz,es,h2,rfl,h3⟩
  ·rintro ⟨row0,h1,sz',es,h2,rfl,h3⟩
   exact ⟨row0,h1,es,h2,h3⟩
@[simp] theorem MY {g b n xs sz es} : D5 C g hs K ns dst u e R acc b n xs (.blk sz es)=(es.length=n /\ (∀ e ∈ es,∀ c ∈ e,aH c=true) /\ (∀ x ∈ xs,bB (fbE (ac e) b) (vd (fbE (ac e) b) x)) /\ rL C g hs K ns dst ⟨⟩ e R acc b sz es (xs.map (dpv (fbE (ac e) b))) (xs.all fun y=>isV (vd (fbE (ac e) b) y))):=zR
@[simp] theorem M5 {g xs b k n} : MZ C g hs K ns dst u e R acc xs (.ref (.r b) k n)=(k=0 /\ D5 C g hs K ns dst ⟨⟩ e R acc b n xs (ac e b)):=zR
@[simp] theorem Hh {g x xs v1} : opW C hs K ns dst (.callS g x xs) v1 e R acc=(MZ C g hs K ns dst ⟨⟩ e R acc xs (vd (ac e) x)):=by
 cases dst <;> rfl
def yx (n : Nat) (d : D) : Prop:=match d with
 | .blk _ es=>es.length=n /\ ∀ e ∈ es,∀ c ∈ e,bg c=true
 | _=>False
def qj (f : Nat -> D) (b : Nat) (d : D) : Prop:=match d with
 | .ref (.r c) k n=>k=0 /\ c ≠ b /\ yx n (f c)
 | d=>isV d=true
def zM (d : D) : D:=match d with
 | .blk sz es=>.own sz es
 | _=>.any
def sW (f : Nat -> D) (d : D) : D:=match d with
 | .ref (.r c) _ _=>zM (f c)
 | d=>d
@[simp] theorem HV {n sz es} : yx n (.blk sz es)=(es.length=n /\ ∀ e ∈ es,∀ c ∈ e,bg c=true):=zR
@[simp] theorem Mt {sz es} : zM (.blk sz es)=.own sz es:=zR
@[simp] theorem Nh {f : Nat -> D} {b : Nat} {x : Opd} : HW f b x=qj f b (vd f x):=by
 unfold HW qj yx
 cases vd f x <;> rfl
@[simp] theorem Ni {f : Nat -> D} {x : Opd} : HX f x=sW f (vd f x):=by
 unfold HX sW zM
 cases vd f x <;> rfl
@[simp] theorem EM {f : Nat -> D} {b c k n} : qj f b (.ref (.r c) k n)=(k=0 /\ c ≠ b /\ yx n (f c)):=zR
@[simp] theorem EO {f : Nat -> D} {c k n} : sW f (.ref (.r c) k n)=zM (f c):=zR
@[simp] theorem EL {f : Nat -> D} {b k n} : qj f b (.int k n)=True:=by simp [qj,isV]
@[simp] theorem EN {f : Nat -> D} {k n} : sW f (.int k n)=.int k n:=zR
@[simp] theorem zfs {f : Nat -> D} {b k n sz es} : cd f (.ref (.r b) k n) (.own sz es)=(k=0 /\ n=es.length /\ f b=.blk sz es):=zR
@[simp] theorem FQ {f : Nat -> D} {b k n sz es} : cd f (.adr (.r b) k n) (.blk sz es)=(k=0 /\ n=0 /\ f b=.blk sz es):=zR
@[simp] theorem FR {f : Nat -> D} {k n r} : cd f (.int k n) r=(r=.int k n):=by simp [cd]
@[simp] theorem CO {f : Nat -> D} {n r} : cd f (.bool n) r=(r=.bool n):=by simp [cd]
@[simp] theorem FT {f : Nat -> D} {n r} : cd f (.str n) r=(r=.str n):=by simp [cd]
@[simp] theorem CQ {f : Nat -> D} {r} : cd f .nils r=(r=.nils):=by simp [cd]
@[simp] theorem CP {f : Nat -> D} {r} : cd f .nilp r=(r=.nilp):=by simp [cd]
@[simp] theorem Jo {f : Nat -> D} {n r} : cd f (.sl n) r=(r=.sl n):=by simp [cd]
@[simp] theorem FP {f : Nat -> D} {n r} : cd f (.agg n) r=(r=.agg n):=by simp [cd]
@[simp] theorem HA {t d} : b9 (some t) d=[(t,d)]:=zR
@[simp] theorem Hz {d} : b9 none d=[]:=zR
@[simp] theorem Eb {t} : B3 (some t)=[(t,.tup [])]:=zR
@[simp] theorem Ea : B3 none=[]:=zR
@[simp] theorem Hd {g xs t v1} : opW C hs K ns (some t) (.callF g xs) v1 e R acc=((∀ x ∈ xs,bB (ac e) (vd (ac e) x)) /\ vA C g hs K ns t ⟨⟩ e R acc (xs.map (dpv (ac e)))):=zR
@[simp] theorem Mf {g xs x0 v1} : opW C hs K ns dst (.call g xs x0) v1 e R acc=((∀ x ∈ xs,bB (ac e) (vd (ac e) x)) /\ qn C g hs K ns dst ⟨⟩ e R acc (xs.all fun x=>isV (vd (ac e) x)) (xs.map (dpv (ac e)))):=zR
def lc (C : CC) (hs : Option (List Nat)) (K : Env -> Prop) (ns : List aA) (t : Nat) (_ : Tag (hs,K,ns)) (e : Env) (R : List Nat) (acc : List (List Nat × List Nat)) (d : D) : Prop:=match d with
 | .ref (.r c) k n=>if c=rt t 0 then doW C hs K ns ⟨⟩ e R acc [(t,.ref (.r c) k n)] [] else match ac e c with
  | .blk sz es=>doW C hs K ns ⟨⟩ e R acc [(t,.ref (.r (rt t 0)) k n),(rt t 0,.blk sz es),(c,.any)] [(rt t 0,true)]
  | _=>False
 | d=>isS d=true /\ doW C hs K ns ⟨⟩ e R acc [(t,d)] []
@[simp] theorem Rq {t x v1} : opW C hs K ns (some t) (.asg x) v1 e R acc=lc C hs K ns t ⟨⟩ e R acc (vd (ac e) x):=zR
@[simp] theorem HZ {t c k n} : lc C hs K ns t u e R acc (.ref (.r c) k n)=(if c=rt t 0 then doW C hs K ns ⟨⟩ e R acc [(t,.ref (.r c) k n)] [] else match ac e c with
  | .blk sz es=>doW C hs K ns ⟨⟩ e R acc [(t,.ref (.r (rt t 0)) k n),(rt t 0,.blk sz es),(c,.any)] [(rt t 0,true)]
  | _=>False):=zR
@[simp] theorem EQ {t b i o k n} : lc C hs K ns t u e R acc (.ref (.n b i o) k n)=doW C hs K ns ⟨⟩ e R acc [(t,.ref (.n b i o) k n)] []:=by simp [lc]
@[simp] theorem EP {t} : lc C hs K ns t u e R acc .nils=doW C hs K ns ⟨⟩ e R acc [(t,.nils)] []:=by simp [lc]
@[simp] theorem Nj {t es} : lc C hs K ns t u e R acc (.sl es)=doW C hs K ns ⟨⟩ e R acc [(t,.sl es)] []:=by simp [lc]
@[simp] theorem H0 {t b es} : lc C hs K ns t u e R acc (slx b es)=doW C hs K ns ⟨⟩ e R acc [(t,slx b es)] []:=by
 rcases gR b es with h | ⟨h,_⟩ <;> rw [h] <;> simp
@[simp] theorem HY {t} : lc C hs K ns t u e R acc .any=doW C hs K ns ⟨⟩ e R acc [(t,.any)] []:=by simp [lc]
@[simp] theorem Ia {t ds} : lc C hs K ns t u e R acc (.tup ds)=doW C hs K ns ⟨⟩ e R acc [(t,.tup ds)] []:=by simp [lc]
def zj (C : CC) (hs : Option (List Nat)) (K : Env -> Prop) (ns : List aA) (dst : Option Nat) (_ : Tag (hs,K,ns)) (e : Env) (R : List Nat) (acc : List (List Nat × List Nat)) (c i off : Nat) (d : D) : Prop:=match d with
 | .blk _ es=>∃ r,es[i]? = some r /\ ∃ d,r[off]? = some d /\ d9 dst (kOf C hs K ns e R acc) (ldc (.r c) i off d)
 | _=>False
@[simp] theorem Lp {c i off sz es} : zj C hs K ns dst u e R acc c i off (.blk sz es)=kM es[i]? (fun r=>yy r[off]? (fun d=>dW C hs K ns dst ⟨⟩ e R acc (ldc (.r c) i off d)) ⟨⟩) ⟨⟩:=by
 simp only [zj,kN,yz];rfl
def Lq (C : CC) (hs : Option (List Nat)) (K : Env -> Prop) (ns : List aA) (dst : Option Nat) (_ : Tag (hs,K,ns)) (e : Env) (R : List Nat) (acc : List (List Nat × List Nat)) (q : Nat) (d : D) : Prop:=match d with
 | .adr (.r c) i off=>off=q /\ zj C hs K ns dst ⟨⟩ e R acc c i off (ac e c)
 | _=>False
@[simp] theorem Lr {q c i off} : Lq C hs K ns dst u e R acc q (.adr (.r c) i off)=(off=q /\ zj C hs K ns dst ⟨⟩ e R acc c i off (ac e c)):=zR
@[simp] theorem RB {q x v1} : opW C hs K ns dst (.ldQ q x) v1 e R acc=Lq C hs K ns dst ⟨⟩ e R acc q (vd (ac e) x):=zR
def yw (C : CC) (hs : Option (List Nat)) (K : Env -> Prop) (ns : List aA) (t : Nat) (_ : Tag (hs,K,ns)) (e : Env) (R : List Nat) (acc : List (List Nat × List Nat)) (sz by_ : Nat) (rowsY : List (List D)) (c i o k n : Nat) (d : D) : Prop:=match d with
 | .blk sz0 es0=>∃ row0,es0[i]? = some row0 /\ ∃ es,row0[o]? = some (.own sz es) /\ k + n <= es.length /\ (n + rowsY.length) * by_ <= 140737488355328 /\
   kOf C hs K ns e R acc [(t,.ref (.r (rt t 0)) 0 (n + rowsY.length)),(rt t 0,.blk sz ((es.drop k).take n++rowsY)),(c,.blk sz0 (bN es0 i o 1 [.any]))] [(rt t 0,true)]
 | _=>False
@[simp] theorem HS {t sz by_ rowsY c i o k n sz0 es0} : yw C hs K ns t u e R acc sz by_ rowsY c i o k n (.blk sz0 es0)=kM es0[i]? (fun row0=>pH row0[o]? (fun sz' es=>sz'=sz /\ k + n <= es.length /\ (n + rowsY.length) * by_ <= 140737488355328 /\
   doW C hs K ns ⟨⟩ e R acc [(t,.ref (.r (rt t 0)) 0 (n + rowsY.length)),(rt t 0,.blk sz ((es.drop k).take n++rowsY)),(c,.blk sz0 (bN es0 i o 1 [.any]))] [(rt t 0,true)]) ⟨⟩) ⟨⟩:=by
 simp only [yw,kN,pI]
 refine propext ⟨?_,?_⟩
 ·rintro ⟨row0,h1,es,h2,h3,h4,h5⟩
  exact ⟨row0,h1,sz,es,h2,rfl,h3,h4,h5⟩
 ·rintro ⟨row0,h1,sz',es,h2,rfl,h3,h4,h5⟩
  exact ⟨row0,h1,es,h2,h3,h4,h5⟩
def HT (C : CC) (hs : Option (List Nat)) (K : Env -> Prop) (ns : List aA) (t : Nat) (_ : Tag (hs,K,ns)) (e : Env) (R : List Nat) (acc : List (List Nat × List Nat)) (q sz by_ : Nat) (yd : D) (d : D) : Prop:=match d with
 | .ref (.n c i o') k n=>o'=q /\ ft (ac e) false yd sz fun rowsY bs=>bs=[] /\ c ≠ rt t 0 /\ yw C hs K ns t ⟨⟩ e R acc sz by_ rowsY c i o' k n (ac e c)
 | _=>False
@[simp] theorem HU {t q sz by_ yd c i o k n} : HT C hs K ns t u e R acc q sz by_ yd (.ref (.n c i o) k n)=(o=q /\ i8 (ac e) false yd sz (fun rowsY bs=>bs=[] /\ c ≠ rt t 0 /\ yw C hs K ns t ⟨⟩ e R acc sz by_ rowsY c i o k n (ac e c)) ⟨⟩):=zR
@[simp] theorem Mc {t q sz by_ x y v1} : opW C hs K ns (some t) (.appQ q sz by_ x y) v1 e R acc=HT C hs K ns t ⟨⟩ e R acc q sz by_ (vd (ac e) y) (vd (ac e) x):=zR
def Cv (C : CC) (hs : Option (List Nat)) (K : Env -> Prop) (ns : List aA) (t : Nat) (_ : Tag (hs,K,ns)) (e : Env) (R : List Nat) (acc : List (List Nat × List Nat)) (sz : Nat) (rows : List (List D)) (b k n : Nat) (d : D) : Prop:=match d with
 | .blk sz' es=>sz'=sz /\ k + n <= es.length /\ (∀ e ∈ es,∀ c ∈ e,aH c=true) /\ (∀ e ∈ rows,∀ c ∈ e,aH c=true) /\ kOf C hs K ns e R acc [(t,.int .i64 (min rows.length n : Nat)),(b,.blk sz (iE es k (rows.take n)))] []
 | _=>False
@[simp] theorem Iv {t sz rows b k n sz' es} : Cv C hs K ns t u e R acc sz rows b k n (.blk sz' es)=(sz'=sz /\ k + n <= es.length /\ (∀ e ∈ es,∀ c ∈ e,aH c=true) /\ (∀ e ∈ rows,∀ c ∈ e,aH c=true) /\ doW C hs K ns ⟨⟩ e R acc [(t,.int .i64 (min rows.length n : Nat)),(b,.blk sz (iE es k (rows.take n)))] []):=zR
def Iw (C : CC) (hs : Option (List Nat)) (K : Env -> Prop) (ns : List aA) (t : Nat) (_ : Tag (hs,K,ns)) (e : Env) (R : List Nat) (acc : List (List Nat × List Nat)) (sz : Nat) (rows : List (List D)) (d : D) : Prop:=match d with
 | .ref (.r b) k n=>(n=0 -> kOf C hs K ns e R acc [(t,.int .i64 0)] []) /\ (0 < n -> Cv C hs K ns t ⟨⟩ e R acc sz rows b k n (ac e b))
 | _=>False
@[simp] theorem Ix {t sz rows b k n} : Iw C hs K ns t u e R acc sz rows (.ref (.r b) k n)=((n=0 -> doW C hs K ns ⟨⟩ e R acc [(t,.int .i64 0)] []) /\ (0 < n -> Cv C hs K ns t ⟨⟩ e R acc sz rows b k n (ac e b))):=zR
@[simp] theorem Rx {t sz x y v1} : opW C hs K ns (some t) (.cpy sz x y) v1 e R acc=i8 (ac e) false (vd (ac e) y) sz (fun rows bs=>bs=[] /\ 0 < rows.length /\ Iw C hs K ns t ⟨⟩ e R acc sz rows (vd (ac e) x)) ⟨⟩:=zR
def DX (C : CC) (hs : Option (List Nat)) (K : Env -> Prop) (ns : List aA) (t : Nat) (_ : Tag (hs,K,ns)) (e : Env) (R : List Nat) (acc : List (List Nat × List Nat)) (len sz c : Nat) (d : D) : Prop:=match d with
 | .blk _ [row]=>0 < len /\ 0 < sz /\ row.length=len * sz /\ (∀ d ∈ row,aH d=true) /\ doW C hs K ns ⟨⟩ e R acc [(t,.ref (.r (rt t 0)) 0 len),(rt t 0,.blk sz (cE sz len row)),(c,.any)] [(rt t 0,true)]
 | _=>False
@[simp] theorem MT {t len sz c sz0 row} : DX C hs K ns t u e R acc len sz c (.blk sz0 [row])=(0 < len /\ 0 < sz /\ row.length=len * sz /\ (∀ d ∈ row,aH d=true) /\ doW C hs K ns ⟨⟩ e R acc [(t,.ref (.r (rt t 0)) 0 len),(rt t 0,.blk sz (cE sz len row)),(c,.any)] [(rt t 0,true)]):=zR
def MU (C : CC) (hs : Option (List Nat)) (K : Env -> Prop) (ns : List aA) (t : Nat) (_ : Tag (hs,K,ns)) (e : Env) (R : List Nat) (acc : List (List Nat × List Nat)) (len sz : Nat) (d : D) : Prop:=match d with
 | .adr (.r c) i off=>i=0 /\ off=0 /\ c ≠ rt t 0 /\ DX C hs K ns t ⟨⟩ e R acc len sz c (ac e c)
 | _=>False
@[simp] theorem MV {t len sz c i off} : MU C hs K ns t u e R acc len sz (.adr (.r c) i off)=(i=0 /\ off=0 /\ c ≠ rt t 0 /\ DX C hs K ns t ⟨⟩ e R acc len sz c (ac e c)):=zR
@[simp] theorem RM {len sz x t v1} : opW C hs K ns (some t) (.slM len sz x) v1 e R acc=MU C hs K ns t ⟨⟩ e R acc len sz (vd (ac e) x):=zR
def iu (C : CC) (hs : Option (List Nat)) (K : Env -> Prop) (ns : List aA) (dst : Option Nat) (_ : Tag (hs,K,ns)) (e : Env) (R : List Nat) (acc : List (List Nat × List Nat)) (d : D) : Prop:=match d with
 | .agx ds=>dW C hs K ns dst ⟨⟩ e R acc (.ptx ds)
 | .agg ds=>dW C hs K ns dst ⟨⟩ e R acc (.ptr ds)
 | d=>aH d=true /\ dW C hs K ns dst ⟨⟩ e R acc (.ptr [d])
@[simp] theorem Cp {ds : List D} : dI (.agg ds)=ds:=zR
@[simp] theorem Cq {k n} : dI (.int k n)=[.int k n]:=zR
@[simp] theorem Cr {n} : dI (.str n)=[.str n]:=zR
@[simp] theorem Be {n} : dI (.bool n)=[.bool n]:=zR
@[simp] theorem Fj {n} : dI (.sl n)=[.sl n]:=zR
@[simp] theorem FM {f : Nat -> D} {es} : gF f [] es=es:=zR
@[simp] theorem CH {f : Nat -> D} {p ps es} : gF f (p::ps) es=gF f ps (es.set p.1 (dI (vd f p.2))):=zR
@[simp] theorem Md {sz len zs parts v1} : opW C hs K ns dst (.blsF sz len zs parts) v1 e R acc=((∀ p ∈ parts,p.1 < len /\ (dI (vd (ac e) p.2)).length=sz /\ ∀ c ∈ dI (vd (ac e) p.2),aH c=true) /\ 0 < len /\
   (∀ r ∈ gF (ac e) parts (List.replicate len zs),∀ c ∈ r,aH c=true) /\ dW C hs K ns dst ⟨⟩ e R acc (.sl (gF (ac e) parts (List.replicate len zs)))):=zR
attribute [simp] Cs
@[simp] theorem Me {x v1} : opW C hs K ns dst (.boxF x) v1 e R acc=iu C hs K ns dst ⟨⟩ e R acc (vd (ac e) x):=zR
@[simp] theorem Ig {ds} : iu C hs K ns dst u e R acc (.agx ds)=dW C hs K ns dst ⟨⟩ e R acc (.ptx ds):=zR
@[simp] theorem If {ds} : iu C hs K ns dst u e R acc (.agg ds)=dW C hs K ns dst ⟨⟩ e R acc (.ptr ds):=zR
@[simp] theorem Ih {k n} : iu C hs K ns dst u e R acc (.int k n)=dW C hs K ns dst ⟨⟩ e R acc (.ptr [.int k n]):=by simp [iu]
@[simp] theorem ER {n} : iu C hs K ns dst u e R acc (.bool n)=dW C hs K ns dst ⟨⟩ e R acc (.ptr [.bool n]):=by simp [iu]
@[simp] theorem Ik {n} : iu C hs K ns dst u e R acc (.str n)=dW C hs K ns dst ⟨⟩ e R acc (.ptr [.str n]):=by simp [iu]
@[simp] theorem ES : iu C hs K ns dst u e R acc .nils=dW C hs K ns dst ⟨⟩ e R acc (.ptr [.nils]):=by simp [iu]
@[simp] theorem Np {es} : iu C hs K ns dst u e R acc (.sl es)=dW C hs K ns dst ⟨⟩ e R acc (.ptr [.sl es]):=by simp [iu]
@[simp] theorem Ij {b es} : iu C hs K ns dst u e R acc (slx b es)=dW C hs K ns dst ⟨⟩ e R acc (.ptr [slx b es]):=by
 rcases gR b es with h | ⟨h,_⟩ <;> rw [h] <;> simp
@[simp] theorem Ii {es} : iu C hs K ns dst u e R acc (.ptr es)=dW C hs K ns dst ⟨⟩ e R acc (.ptr [.ptr es]):=by simp [iu]
@[simp] theorem Nn {g es} : iu C hs K ns dst u e R acc (.fn g es)=dW C hs K ns dst ⟨⟩ e R acc (.ptr [.fn g es]):=by simp [iu]
@[simp] theorem RC {x v1} : opW C hs K ns dst (.len x) v1 e R acc=sq (vd (ac e) x) (fun n=>dW C hs K ns dst ⟨⟩ e R acc (.int .i64 n)) ⟨⟩:=by
 show res (ac e) _ (.len x)=_
 simp only [res,sq]
 cases vd (ac e) x <;> rfl
def si (C : CC) (hs : Option (List Nat)) (K : Env -> Prop) (ns : List aA) (dst : Option Nat) (_ : Tag (hs,K,ns)) (e : Env) (R : List Nat) (acc : List (List Nat × List Nat)) (sz : Nat) (x i : D) : Prop:=match (generalizing:=false) x,i with
  | .sl es,.int _ j=>0 <= j /\ iv C hs K ns dst ⟨⟩ e R acc sz es j.toNat
  | .slv _ es,.int _ j=>0 <= j /\ iv C hs K ns dst ⟨⟩ e R acc sz es j.toNat
  | .rfx n sz' ds,.int _ j=>0 <= j /\ j.toNat < n /\ sz'=sz /\ dW C hs K ns dst ⟨⟩ e R acc (.ptx (ds.drop (j.toNat * sz)))
  | .ref p k n,.int _ j=>0 <= j /\ j.toNat < n /\ match (generalizing:=false) bH (ac e) p with
   | some (sz',_)=>sz'=sz /\ dW C hs K ns dst ⟨⟩ e R acc (.adr p (k + j.toNat) 0)
   | none=>False
  | _,_=>False
@[simp] theorem Mi {sz x i v1} : opW C hs K ns dst (.iadS sz x i) v1 e R acc=si C hs K ns dst ⟨⟩ e R acc sz (vd (ac e) x) (vd (ac e) i):=zR
@[simp] theorem Jq {sz sz' n ds k j} : si C hs K ns dst u e R acc sz (.rfx n sz' ds) (.int k j)=(0 <= j /\ j.toNat < n /\ sz'=sz /\ dW C hs K ns dst ⟨⟩ e R acc (.ptx (ds.drop (j.toNat * sz)))):=zR
@[simp] theorem N5 {sz es k j} : si C hs K ns dst u e R acc sz (.sl es) (.int k j)=(0 <= j /\ iv C hs K ns dst ⟨⟩ e R acc sz es j.toNat):=zR
@[simp] theorem Jr {sz q es k j} : si C hs K ns dst u e R acc sz (.slv q es) (.int k j)=(0 <= j /\ iv C hs K ns dst ⟨⟩ e R acc sz es j.toNat):=zR
@[simp] theorem Js {sz b es k j} : si C hs K ns dst u e R acc sz (slx b es) (.int k j)=(0 <= j /\ iv C hs K ns dst ⟨⟩ e R acc sz es j.toNat):=by
 rcases gR b es with h | ⟨h,rfl⟩
 ·rw [h];rfl
 ·rw [h];simp [si,iv]
@[simp] theorem Jp {sz p k n k' j} : si C hs K ns dst u e R acc sz (.ref p k n) (.int k' j)=(0 <= j /\ j.toNat < n /\ match (generalizing:=false) bH (ac e) p with
   | some (sz',_)=>sz'=sz /\ dW C hs K ns dst ⟨⟩ e R acc (.adr p (k + j.toNat) 0)
   | none=>False):=zR
def An (C : CC) (hs : Option (List Nat)) (K : Env -> Prop) (ns : List aA) (dst : Option Nat) (_ : Tag (hs,K,ns)) (e : Env) (R : List Nat) (acc : List (List Nat × List Nat)) (sz : Nat) (x : D) (lo hi : Option Opd) : Prop:=match (generalizing:=false) x with
  | .sl es=>(∀ e ∈ es,e.length=sz) /\ dT (ac e) hi es.length (fun h=>dT (ac e) lo 0 (fun l=>l <= h /\ h <= es.length /\ dW C hs K ns dst ⟨⟩ e R acc (.sl ((es.take h).drop l))) ⟨⟩) ⟨⟩
  | .nils=>dT (ac e) hi 0 (fun h=>dT (ac e) lo 0 (fun l=>l <= h /\ h <= 0 /\ dW C hs K ns dst ⟨⟩ e R acc (.sl [])) ⟨⟩) ⟨⟩
  | .ref p k n=>match (generalizing:=false) bH (ac e) p with
   | some (sz',_)=>sz'=sz /\ dT (ac e) hi n (fun h=>dT (ac e) lo 0 (fun l=>l <= h /\ h <= n /\ dW C hs K ns dst ⟨⟩ e R acc (.ref p (k + l) (h - l))) ⟨⟩) ⟨⟩
   | none=>False
  | _=>False
@[simp] theorem RN {sz x lo hi v1} : opW C hs K ns dst (.slc sz x lo hi) v1 e R acc=An C hs K ns dst ⟨⟩ e R acc sz (vd (ac e) x) lo hi:=zR
@[simp] theorem RS {sz es lo hi} : An C hs K ns dst u e R acc sz (.sl es) lo hi=((∀ e ∈ es,e.length=sz) /\ dT (ac e) hi es.length (fun h=>dT (ac e) lo 0 (fun l=>l <= h /\ h <= es.length /\ dW C hs K ns dst ⟨⟩ e R acc (.sl ((es.take h).drop l))) ⟨⟩) ⟨⟩):=zR
@[simp] theorem Hy {sz lo hi} : An C hs K ns dst u e R acc sz .nils lo hi=dT (ac e) hi 0 (fun h=>dT (ac e) lo 0 (fun l=>l <= h /\ h <= 0 /\ dW C hs K ns dst ⟨⟩ e R acc (.sl [])) ⟨⟩) ⟨⟩:=zR
@[simp] theorem MS {sz p k n lo hi} : An C hs K ns dst u e R acc sz (.ref p k n) lo hi=(match (generalizing:=false) bH (ac e) p with
   | some (sz',_)=>sz'=sz /\ dT (ac e) hi n (fun h=>dT (ac e) lo 0 (fun l=>l <= h /\ h <= n /\ dW C hs K ns dst ⟨⟩ e R acc (.ref p (k + l) (h - l))) ⟨⟩) ⟨⟩
   | none=>False):=zR
@[simp] theorem Hi {x xs v1} : opW C hs K ns dst (.callv x xs) v1 e R acc=(match (generalizing:=false) vd (ac e) x with
  | .fn g cs=>(∀ x ∈ xs,bB (ac e) (vd (ac e) x)) /\ qn C g hs K ns dst ⟨⟩ e R acc (xs.all fun x=>isV (vd (ac e) x)) (xs.map (dpv (ac e))++cs)
  | .fnx g cs=>(∀ x ∈ xs,bB (ac e) (vd (ac e) x)) /\ (∀ c ∈ cs,aV (ac e) c) /\ qn C g hs K ns dst ⟨⟩ e R acc false (xs.map (dpv (ac e))++cs.map (dp1 (ac e)))
  | _=>False):=by
 simp only [opW,aJ,qn,d9,x0h,or_false]
 cases vd (ac e) x <;> rfl
def mpT (x : D) (K : Nat -> Nat -> List D -> List D -> Prop) (_ : Tag K) : Prop:=match x with
 | .mp kt et ks vs=>K kt et ks vs
 | _=>False
@[simp] theorem Tc {kt et ks vs K u} : mpT (.mp kt et ks vs) K u=K kt et ks vs:=zR
@[simp] theorem RE {kt et t v1} : opW C hs K ns (some t) (.mkm kt et) v1 e R acc=doW C hs K ns ⟨⟩ e R acc [(t,.mrf (rt t 0)),(rt t 0,.mp kt et [] [])] [(rt t 0,true)]:=zR
def mlM (C : CC) (hs : Option (List Nat)) (K : Env -> Prop) (ns : List aA) (dst : Option Nat) (_ : Tag (hs,K,ns)) (e : Env) (R : List Nat) (acc : List (List Nat × List Nat)) (sh : KSh) (kt et : Nat) (ok : Bool) (z x m : D) : Prop:=match m with
 | .mrf b=>mpT (ac e b) (fun kt' et' ks vs=>kt'=kt /\ et'=et /\ di sh x /\ match ok with
    | true=>dW C hs K ns dst ⟨⟩ e R acc (.tup [(dq ks vs x).getD z,.bool (dq ks vs x).isSome])
    | false=>dW C hs K ns dst ⟨⟩ e R acc ((dq ks vs x).getD z)) ⟨⟩
 | _=>False
@[simp] theorem Ra {sh kt et ok z x b} : mlM C hs K ns dst u e R acc sh kt et ok z x (.mrf b)=mpT (ac e b) (fun kt' et' ks vs=>kt'=kt /\ et'=et /\ di sh x /\ match ok with
    | true=>dW C hs K ns dst ⟨⟩ e R acc (.tup [(dq ks vs x).getD z,.bool (dq ks vs x).isSome])
    | false=>dW C hs K ns dst ⟨⟩ e R acc ((dq ks vs x).getD z)) ⟨⟩:=zR
@[simp] theorem RI {sh kt et ok z m x v1} : opW C hs K ns dst (.mpl sh kt et ok z m x) v1 e R acc=mlM C hs K ns dst ⟨⟩ e R acc sh kt et ok z (vd (ac e) x) (vd (ac e) m):=by
 show res (ac e) _ (.mpl sh kt et ok z m x)=_
 simp only [res,mlM]
 cases vd (ac e) m <;> rfl
def muM (C : CC) (hs : Option (List Nat)) (K : Env -> Prop) (ns : List aA) (_ : Tag (hs,K,ns)) (e : Env) (R : List Nat) (acc : List (List Nat × List Nat)) (sh : KSh) (kt et : Nat) (z x v m : D) : Prop:=match m with
 | .mrf b=>mpT (ac e b) (fun kt' et' ks vs=>kt'=kt /\ et'=et /\ ks.length < maxLen /\ di sh x /\ iF z v /\ doW C hs K ns ⟨⟩ e R acc [(b,.mp kt et (x::ks) (v::vs))] []) ⟨⟩
 | _=>False
@[simp] theorem Rb {sh kt et z x v b} : muM C hs K ns u e R acc sh kt et z x v (.mrf b)=mpT (ac e b) (fun kt' et' ks vs=>kt'=kt /\ et'=et /\ ks.length < maxLen /\ di sh x /\ iF z v /\ doW C hs K ns ⟨⟩ e R acc [(b,.mp kt et (x::ks) (v::vs))] []) ⟨⟩:=zR
@[simp] theorem RJ {sh kt et z m x v v1} : opW C hs K ns dst (.mpu sh kt et z m x v) v1 e R acc=(dst=none /\ muM C hs K ns ⟨⟩ e R acc sh kt et z (vd (ac e) x) (vd (ac e) v) (vd (ac e) m)):=by
 show (dst=none /\ _)=_
 congr 1
end
@[simp] theorem CZ {s} : di .str (.str s)=(s.length <= maxLen):=zR
@[simp] theorem Bq {b} : di .bool (.bool b)=True:=zR
@[simp] theorem CY {q q' n} : di (.int q) (.int q' n)=(q'=q /\ qI q n):=zR
@[simp] theorem Br {q n ds} : di (.ints q n) (.agg ds)=(ds.length=n /\ ∀ d ∈ ds,∃ x,d=.int q x /\ qI q x):=zR
@[simp] theorem FL {s z} : iF (.str z) (.str s)=(s.length <= maxLen):=zR
@[simp] theorem CA {b z} : iF (.bool z) (.bool b)=True:=zR
@[simp] theorem FK {q q' n z} : iF (.int q z) (.int q' n)=(q'=q /\ qI q n):=zR
@[simp] theorem JC {n : Int} : qI .i64 n=(-9223372036854775808 <= n /\ n <= 9223372036854775807):=by
 have e1 : IntKind.i64.min=-9223372036854775808:=rfl
 have e2 : IntKind.i64.max=9223372036854775807:=rfl
 simp [qI,Lit.wf,e1,e2]
attribute [simp] lB iN cI lY dg bV b7 lZ DH okR rj lX cP
attribute [simp] vd params fq jU jV jT mP nE xo prune jY isC iJ bH To bN dpv co stK bk rt chk rdS rdR frR fwR gx rdN iG wrK mnR DJ ldN am i6 qE wOk Pa.root cq bG
end Go.Gv

namespace Go.Gv
section
variable {C : CC}
theorem jv {f : Nat -> D} {dst : Option Nat} {K K' : KT} {o : NOp} (h : aJ C f dst K o) (hk : ∀ ws ks,K ws ks -> K' ws ks) : aJ C f dst K' o:=by
 obtain ⟨ws,ks,h1,h2⟩:=nF h
 exact h2 K' (hk ws ks h1)
theorem im {e : Env} {dst : Option Nat} {K K' : Env -> Prop} (h : gQ e dst K) (hk : ∀ e,K e -> K' e) : gQ e dst K':=by
 unfold gQ at h ⊢
 split at h
 ·exact hk _ h
 ·exact hk _ h
theorem gV {K K' : Env -> Prop} (hk : ∀ e,K e -> K' e) : ∀ (ns : List aA) (e : Env),iy C K ns e -> iy C K' ns e
 | [],e,h=>hk e h
 | o::os,e,h=>by
  rw [iy] at h ⊢
  split at h
  ·exact jv h (fun ws ks h1=>gV hk os _ h1)
  ·split at h
   ·exact ⟨fun hb=>jv (h.1 hb) (fun ws ks h1=>gV hk os _ h1),fun hb=>im (h.2 hb) (fun e h1=>gV hk os e h1)⟩
   ·exact im h (fun e h1=>gV hk os e h1)
   ·exact h.elim
theorem gU {hs : List Nat} {K K' : Env -> Prop} (hk : ∀ e,K e -> K' e) : ∀ (ns : List aA) (e : Env) (acc : List (List Nat × List Nat)),jG C hs K ns e acc -> jG C hs K' ns e acc
 | [],e,acc,h=>⟨h.1,hk e h.2⟩
 | o::os,e,acc,h=>by
  rw [jG] at h ⊢
  refine ⟨h.1,?_⟩
  have h:=h.2
  split at h
  ·exact jv h (fun ws ks h1=>⟨h1.1,gU hk os _ _ h1.2⟩)
  ·split at h
   ·exact ⟨fun hb=>jv (h.1 hb) (fun ws ks h1=>⟨h1.1,gU hk os _ _ h1.2⟩),fun hb=>im (h.2 hb) (fun e h1=>gU hk os e _ h1)⟩
   ·exact im h (fun e h1=>gU hk os e _ h1)
   ·exact h.elim
theorem d8 : ∀ (c : dD) (Q Q' : cv -> Env -> Prop) (e : Env),(∀ t e,Q t e -> Q' t e) -> wpN C c Q e -> wpN C c Q' e
 | .skip,Q,Q',e,hq,h=>hq _ _ h
 | .reg dr hs keep ops,Q,Q',e,hq,h=>by
  cases dr with
  | false=>exact gV (fun e h=>hq _ _ h) ops e h
  | true=>exact gU (fun e h=>hq _ _ h) ops e [] h
 | .seq x y,Q,Q',e,hq,h=>d8 x _ _ e (fun t e h=>by
   cases t with
   | nrm=>exact d8 y Q Q' e hq h
   | ext i=>exact hq _ _ h
   | ret=>exact hq _ _ h) h
 | .cond c x y,Q,Q',e,hq,h=>by
  rw [wpN] at h ⊢
  split at h
  ·exact ⟨fun hb=>d8 x Q Q' e hq (h.1 hb),fun hb=>d8 y Q Q' e hq (h.2 hb)⟩
  ·exact ⟨d8 x Q Q' e hq h.1,d8 y Q Q' e hq h.2⟩
  ·exact h.elim
 | .block id c,Q,Q',e,hq,h=>d8 c _ _ e (fun t e h=>by
   cases t with
   | nrm=>exact hq _ _ h
   | ext i =>
    simp only at h ⊢
    split
    ·rename_i hi;rw [if_pos hi] at h;exact hq _ _ h
    ·rename_i hi;rw [if_neg hi] at h;exact hq _ _ h
   | ret=>exact hq _ _ h) h
 | .loop c,Q,Q',e,hq,h=>by
  obtain ⟨S,G,I,m,s0,h1,h2,h3⟩:=h
  refine ⟨S,G,I,m,s0,h1,h2,fun s hs=>d8 c _ _ _ (fun t e h=>?_) (h3 s hs)⟩
  cases t with
  | nrm=>exact h
  | ext i=>exact hq _ _ h
  | ret=>exact hq _ _ h
 | .exit id,Q,Q',e,hq,h=>hq _ _ h
 | .ret,Q,Q',e,hq,h=>hq _ _ h
def uC (id : Nat) (S : Type) (G : S -> Env) (J : S -> Prop) (Q : cv -> Env -> Prop) : cv -> Env -> Prop:=fun t e=>match t with
 | .ext i=>if i=id then ∃ s,J s /\ jY e (G s) else Q (.ext i) e
 | t=>Q t e
variable {Q : cv -> Env -> Prop} {e : Env}
@[simp] theorem yR {id S G J u} : bM (uC id S G J Q) u .nrm e=bM Q ⟨⟩ .nrm e:=zR
@[simp] theorem yS {id S G J u} : bM (uC id S G J Q) u .ret e=bM Q ⟨⟩ .ret e:=zR
@[simp] theorem yQ {id S G J u i} : bM (uC id S G J Q) u (.ext i) e=if i=id then ∃ s,J s /\ jY e (G s) else bM Q ⟨⟩ (.ext i) e:=zR
theorem qO {c : dD} {u : Tag (c,Q)} (id : Nat) (S : Type) (G : S -> Env) (J : S -> Prop) (h : tg C c (uC id S G J Q) ⟨⟩ e) (hr : ∀ s e,J s -> jY e (G s) -> bM Q ⟨⟩ (.ext id) e) : tg C c Q u e :=
 d8 (.loop c) (uC id S G J Q) Q e (fun t e g=>by
  cases t with
  | nrm=>exact g
  | ret=>exact g
  | ext i =>
   simp only [uC] at g
   by_cases hi : i=id
   ·rw [if_pos hi] at g
    obtain ⟨s,h1,h2⟩:=g
    rw [hi]
    exact hr s e h1 h2
   ·rw [if_neg hi] at g
    exact g) h
def Da (S : Type) (G : S -> Env) (J : S -> Prop) (Q : cv -> Env -> Prop) : cv -> Env -> Prop:=fun t e=>match t with
 | .nrm=>∃ s,J s /\ jY e (G s)
 | t=>Q t e
@[simp] theorem yO {S G J u} : bM (Da S G J Q) u .nrm e=∃ s,J s /\ jY e (G s):=zR
@[simp] theorem yP {S G J u} : bM (Da S G J Q) u .ret e=bM Q ⟨⟩ .ret e:=zR
@[simp] theorem yN {S G J u i} : bM (Da S G J Q) u (.ext i) e=bM Q ⟨⟩ (.ext i) e:=zR
end
@[simp] theorem MK {C : CC} {hs : Option (List Nat)} {K : Env -> Prop} {ns : List aA} {dst : Option Nat} {u : Tag (hs,K,ns)} {e : Env} {R : List Nat} {acc : List (List Nat × List Nat)} {α : Type} [Inhabited α] {n : Nat} {ag : Bool} {p : Pa} {xs : List α} {f : α -> List D} {i off : Nat} :
  lF C hs K ns dst u e R acc n ag p (xs.map f) i off=(i < xs.length /\ off + n <= (f xs[i]!).length /\ match ag with
    | true=>((((f xs[i]!).drop off).take n).all isV=true -> dW C hs K ns dst ⟨⟩ e R acc (.agg (((f xs[i]!).drop off).take n))) /\
      ((((f xs[i]!).drop off).take n).all isV=false -> dW C hs K ns dst ⟨⟩ e R acc (.agx ((((f xs[i]!).drop off).take n).mapIdx fun j c=>ldc p i (off + j) c)))
    | false=>dW C hs K ns dst ⟨⟩ e R acc (ldc p i off (((f xs[i]!).drop off).headD .any))):=by
 apply propext
 constructor
 ·rintro ⟨r,h,h1,h2⟩
  rw [x0x,x0i] at h
  obtain ⟨x,hx,rfl⟩:=h
  obtain ⟨hi,rfl⟩:=x0b.1 hx
  rw [x1k xs i hi]
  refine ⟨hi,h1,?_⟩
  cases ag <;> exact h2
 ·rintro ⟨hi,h1,h2⟩
  rw [x1k xs i hi] at h1 h2
  refine pR (r:=f xs[i]) (by rw [x0x,x0d hi];rfl) h1 ?_
  cases ag <;> exact h2
@[simp] theorem GJ {b all ks n} : aP ((b,all)::ks) (.ptx n)=if n.any (aF b all) then .any else aP ks (.ptx n):=by
 have h : aP ((b,all)::ks) (.ptx n)=bif (n.any (aF b all) || aK ks (.ptx n)) then .any else .ptx n:=bD ..
 rw [h,bD]
 cases n.any (aF b all) <;> rfl
@[simp] theorem GL {b all ks k sz n} : aP ((b,all)::ks) (.rfx k sz n)=if n.any (aF b all) then .any else aP ks (.rfx k sz n):=by
 have h : aP ((b,all)::ks) (.rfx k sz n)=bif (n.any (aF b all) || aK ks (.rfx k sz n)) then .any else .rfx k sz n:=bD ..
 rw [h,bD]
 cases n.any (aF b all) <;> rfl
@[simp] theorem GP {b all ks n} : aP ((b,all)::ks) (.tpx n)=if n.any (aF b all) then .any else aP ks (.tpx n):=by
 have h : aP ((b,all)::ks) (.tpx n)=bif (n.any (aF b all) || aK ks (.tpx n)) then .any else .tpx n:=bD ..
 rw [h,bD]
 cases n.any (aF b all) <;> rfl
@[simp] theorem G3 {b all n es} : aF b all (slx n es)=false:=by cases n <;> cases es <;> rfl
@[simp] theorem G1 {b all p k n} : aF b all (.ref p k n)=bk b all p:=zR
@[simp] theorem GV {b all p k n} : aF b all (.adr p k n)=bk b all p:=zR
@[simp] theorem GW {b all T p k n} : aF b all (.ifa T p k n)=bk b all p:=zR
@[simp] theorem GX {b all T n} : aF b all (.ifi T n)=false:=zR
@[simp] theorem G2 {b all k n} : aF b all (.slv k n)=false:=zR
@[simp] theorem GZ {b all c} : aF b all (.mrf c)=(all && c == b):=zR
@[simp] theorem GY {b all k n} : aF b all (.int k n)=false:=zR
@[simp] theorem C7 {b all n} : aF b all (.bool n)=false:=zR
@[simp] theorem G4 {b all n} : aF b all (.str n)=false:=zR
@[simp] theorem C9 {b all} : aF b all .nils=false:=zR
@[simp] theorem C8 {b all} : aF b all .nilp=false:=zR
@[simp] theorem Lz {b all n} : aF b all (.sl n)=false:=zR
@[simp] theorem G0 {b all n} : aF b all (.ptr n)=false:=zR
@[simp] theorem Lx {b all g n} : aF b all (.fn g n)=false:=zR
@[simp] theorem GG {b all ks c} : aP ((b,all)::ks) (.mrf c)=if (all && c == b) then .any else aP ks (.mrf c):=by
 have h : aP ((b,all)::ks) (.mrf c)=bif ((all && c == b) || aK ks (.mrf c)) then .any else .mrf c:=bD ..
 rw [h,bD]
 cases all && c == b <;> rfl
end Go.Gv

namespace Go.Gv
section
variable {C : CC} {hs : Option (List Nat)} {K : Env -> Prop} {ns : List aA} {dst : Option Nat} {u : Tag (hs,K,ns)} {e : Env} {R : List Nat} {acc : List (List Nat × List Nat)}
theorem ap {sz : Nat} {es : List (List D)} {i : Nat} {c : List D} (h : es[i]? = some c) : iv C hs K ns dst u e R acc sz es i=(c.length=sz /\ dW C hs K ns dst ⟨⟩ e R acc (.ptr c)):=by
 apply propext
 unfold iv dW
 rw [h]
 exact ⟨fun ⟨_,h1,h2⟩=>by cases h1;exact h2,fun h2=>⟨c,rfl,h2⟩⟩
theorem ar {n : Nat} {ag : Bool} {p : Pa} {es : List (List D)} {i off : Nat} {r : List D} (hr : es[i]? = some r) : lF C hs K ns dst u e R acc n ag p es i off=(off + n <= r.length /\ match ag with
    | true=>(((r.drop off).take n).all isV=true -> dW C hs K ns dst ⟨⟩ e R acc (.agg ((r.drop off).take n))) /\
      (((r.drop off).take n).all isV=false -> dW C hs K ns dst ⟨⟩ e R acc (.agx (((r.drop off).take n).mapIdx fun j c=>ldc p i (off + j) c)))
    | false=>dW C hs K ns dst ⟨⟩ e R acc (ldc p i off ((r.drop off).headD .any))):=by
 apply propext
 constructor
 ·rintro ⟨r',h,h1,h2⟩
  rw [hr] at h
  cases h
  refine ⟨h1,?_⟩
  cases ag <;> exact h2
 ·rintro ⟨h1,h2⟩
  refine pR hr h1 ?_
  cases ag <;> exact h2
@[simp] theorem Jt {sz : Nat} {c0 : List D} {es : List (List D)} : iv C hs K ns dst u e R acc sz (c0::es) 0=(c0.length=sz /\ dW C hs K ns dst ⟨⟩ e R acc (.ptr c0)):=ap rfl
theorem xq {n : Nat} {ag : Bool} {p : Pa} {off : Nat} {c0 : List D} {es : List (List D)} : lF C hs K ns dst u e R acc n ag p (c0::es) 0 off=(off + n <= c0.length /\ match ag with
    | true=>(((c0.drop off).take n).all isV=true -> dW C hs K ns dst ⟨⟩ e R acc (.agg ((c0.drop off).take n))) /\
      (((c0.drop off).take n).all isV=false -> dW C hs K ns dst ⟨⟩ e R acc (.agx (((c0.drop off).take n).mapIdx fun j c=>ldc p 0 (off + j) c)))
    | false=>dW C hs K ns dst ⟨⟩ e R acc (ldc p 0 off ((c0.drop off).headD .any))):=ar rfl
@[simp] theorem Ju {sz : Nat} {c0 c1 : List D} {es : List (List D)} : iv C hs K ns dst u e R acc sz (c0::c1::es) 1=(c1.length=sz /\ dW C hs K ns dst ⟨⟩ e R acc (.ptr c1)):=ap rfl
theorem xr {n : Nat} {ag : Bool} {p : Pa} {off : Nat} {c0 c1 : List D} {es : List (List D)} : lF C hs K ns dst u e R acc n ag p (c0::c1::es) 1 off=(off + n <= c1.length /\ match ag with
    | true=>(((c1.drop off).take n).all isV=true -> dW C hs K ns dst ⟨⟩ e R acc (.agg ((c1.drop off).take n))) /\
      (((c1.drop off).take n).all isV=false -> dW C hs K ns dst ⟨⟩ e R acc (.agx (((c1.drop off).take n).mapIdx fun j c=>ldc p 1 (off + j) c)))
    | false=>dW C hs K ns dst ⟨⟩ e R acc (ldc p 1 off ((c1.drop off).headD .any))):=ar rfl
@[simp] theorem Jv {sz : Nat} {c0 c1 c2 : List D} {es : List (List D)} : iv C hs K ns dst u e R acc sz (c0::c1::c2::es) 2=(c2.length=sz /\ dW C hs K ns dst ⟨⟩ e R acc (.ptr c2)):=ap rfl
theorem xu {n : Nat} {ag : Bool} {p : Pa} {off : Nat} {c0 c1 c2 : List D} {es : List (List D)} : lF C hs K ns dst u e R acc n ag p (c0::c1::c2::es) 2 off=(off + n <= c2.length /\ match ag with
    | true=>(((c2.drop off).take n).all isV=true -> dW C hs K ns dst ⟨⟩ e R acc (.agg ((c2.drop off).take n))) /\
      (((c2.drop off).take n).all isV=false -> dW C hs K ns dst ⟨⟩ e R acc (.agx (((c2.drop off).take n).mapIdx fun j c=>ldc p 2 (off + j) c)))
    | false=>dW C hs K ns dst ⟨⟩ e R acc (ldc p 2 off ((c2.drop off).headD .any))):=ar rfl
@[simp] theorem Jw {sz : Nat} {c0 c1 c2 c3 : List D} {es : List (List D)} : iv C hs K ns dst u e R acc sz (c0::c1::c2::c3::es) 3=(c3.length=sz /\ dW C hs K ns dst ⟨⟩ e R acc (.ptr c3)):=ap rfl
theorem xw {n : Nat} {ag : Bool} {p : Pa} {off : Nat} {c0 c1 c2 c3 : List D} {es : List (List D)} : lF C hs K ns dst u e R acc n ag p (c0::c1::c2::c3::es) 3 off=(off + n <= c3.length /\ match ag with
    | true=>(((c3.drop off).take n).all isV=true -> dW C hs K ns dst ⟨⟩ e R acc (.agg ((c3.drop off).take n))) /\
      (((c3.drop off).take n).all isV=false -> dW C hs K ns dst ⟨⟩ e R acc (.agx (((c3.drop off).take n).mapIdx fun j c=>ldc p 3 (off + j) c)))
    | false=>dW C hs K ns dst ⟨⟩ e R acc (ldc p 3 off ((c3.drop off).headD .any))):=ar rfl
@[simp] theorem Jx {sz : Nat} {c0 c1 c2 c3 c4 : List D} {es : List (List D)} : iv C hs K ns dst u e R acc sz (c0::c1::c2::c3::c4::es) 4=(c4.length=sz /\ dW C hs K ns dst ⟨⟩ e R acc (.ptr c4)):=ap rfl
theorem xx {n : Nat} {ag : Bool} {p : Pa} {off : Nat} {c0 c1 c2 c3 c4 : List D} {es : List (List D)} : lF C hs K ns dst u e R acc n ag p (c0::c1::c2::c3::c4::es) 4 off=(off + n <= c4.length /\ match ag with
    | true=>(((c4.drop off).take n).all isV=true -> dW C hs K ns dst ⟨⟩ e R acc (.agg ((c4.drop off).take n))) /\
      (((c4.drop off).take n).all isV=false -> dW C hs K ns dst ⟨⟩ e R acc (.agx (((c4.drop off).take n).mapIdx fun j c=>ldc p 4 (off + j) c)))
    | false=>dW C hs K ns dst ⟨⟩ e R acc (ldc p 4 off ((c4.drop off).headD .any))):=ar rfl
attribute [simp] xq xr xu xw xx
end
end Go.Gv

namespace Go.Gv
section
variable {C : CC} {hs : Option (List Nat)} {K : Env -> Prop} {ns : List aA} {dst : Option Nat} {u : Tag (hs,K,ns)} {e : Env} {R : List Nat} {acc : List (List Nat × List Nat)}
@[simp] theorem Jy {sz : Nat} {c0 c1 c2 c3 c4 c5 : List D} {es : List (List D)} : iv C hs K ns dst u e R acc sz (c0::c1::c2::c3::c4::c5::es) 5=(c5.length=sz /\ dW C hs K ns dst ⟨⟩ e R acc (.ptr c5)):=ap rfl
@[simp] theorem MH {n : Nat} {ag : Bool} {p : Pa} {off : Nat} {c0 c1 c2 c3 c4 c5 : List D} {es : List (List D)} : lF C hs K ns dst u e R acc n ag p (c0::c1::c2::c3::c4::c5::es) 5 off=(off + n <= c5.length /\ match ag with
    | true=>(((c5.drop off).take n).all isV=true -> dW C hs K ns dst ⟨⟩ e R acc (.agg ((c5.drop off).take n))) /\
      (((c5.drop off).take n).all isV=false -> dW C hs K ns dst ⟨⟩ e R acc (.agx (((c5.drop off).take n).mapIdx fun j c=>ldc p 5 (off + j) c)))
    | false=>dW C hs K ns dst ⟨⟩ e R acc (ldc p 5 off ((c5.drop off).headD .any))):=ar rfl
@[simp] theorem Jz {sz : Nat} {c0 c1 c2 c3 c4 c5 c6 : List D} {es : List (List D)} : iv C hs K ns dst u e R acc sz (c0::c1::c2::c3::c4::c5::c6::es) 6=(c6.length=sz /\ dW C hs K ns dst ⟨⟩ e R acc (.ptr c6)):=ap rfl
@[simp] theorem MI {n : Nat} {ag : Bool} {p : Pa} {off : Nat} {c0 c1 c2 c3 c4 c5 c6 : List D} {es : List (List D)} : lF C hs K ns dst u e R acc n ag p (c0::c1::c2::c3::c4::c5::c6::es) 6 off=(off + n <= c6.length /\ match ag with
    | true=>(((c6.drop off).take n).all isV=true -> dW C hs K ns dst ⟨⟩ e R acc (.agg ((c6.drop off).take n))) /\
      (((c6.drop off).take n).all isV=false -> dW C hs K ns dst ⟨⟩ e R acc (.agx (((c6.drop off).take n).mapIdx fun j c=>ldc p 6 (off + j) c)))
    | false=>dW C hs K ns dst ⟨⟩ e R acc (ldc p 6 off ((c6.drop off).headD .any))):=ar rfl
@[simp] theorem JA {sz : Nat} {c0 c1 c2 c3 c4 c5 c6 c7 : List D} {es : List (List D)} : iv C hs K ns dst u e R acc sz (c0::c1::c2::c3::c4::c5::c6::c7::es) 7=(c7.length=sz /\ dW C hs K ns dst ⟨⟩ e R acc (.ptr c7)):=ap rfl
@[simp] theorem MJ {n : Nat} {ag : Bool} {p : Pa} {off : Nat} {c0 c1 c2 c3 c4 c5 c6 c7 : List D} {es : List (List D)} : lF C hs K ns dst u e R acc n ag p (c0::c1::c2::c3::c4::c5::c6::c7::es) 7 off=(off + n <= c7.length /\ match ag with
    | true=>(((c7.drop off).take n).all isV=true -> dW C hs K ns dst ⟨⟩ e R acc (.agg ((c7.drop off).take n))) /\
      (((c7.drop off).take n).all isV=false -> dW C hs K ns dst ⟨⟩ e R acc (.agx (((c7.drop off).take n).mapIdx fun j c=>ldc p 7 (off + j) c)))
    | false=>dW C hs K ns dst ⟨⟩ e R acc (ldc p 7 off ((c7.drop off).headD .any))):=ar rfl
end
end Go.Gv

namespace Go.Gv
section
variable {C : CC} {hs : Option (List Nat)} {K : Env -> Prop} {ns : List aA} {e : Env} {R : List Nat} {acc : List (List Nat × List Nat)}
end
end Go.Gv

namespace Go.Gv
section
variable {C : CC} {hs : Option (List Nat)} {K : Env -> Prop} {ns : List aA} {e : Env} {R : List Nat} {acc : List (List Nat × List Nat)}
end
end Go.Gv

namespace Go.Gv
section
variable {C : CC} {hs : Option (List Nat)} {K : Env -> Prop} {ns : List aA} {dst : Option Nat} {e : Env} {R : List Nat} {acc : List (List Nat × List Nat)} {u : Tag (hs,K,ns)}
@[simp] theorem Ho : oe none=[]:=zR
@[simp] theorem Hp {x : Opd} : oe (some x)=[x]:=zR
@[simp] theorem ME {c c' k n : Nat} {q : Pa} : kK c q (.ref (.r c') k n)=if c'=c then .ref q k n else .ref (.r c') k n:=zR
@[simp] theorem Hs {c b i o k n : Nat} {q : Pa} : kK c q (.ref (.n b i o) k n)=.ref (.n b i o) k n:=zR
@[simp] theorem RR {c : Nat} {q : Pa} {es} : kK c q (.sl es)=.sl es:=zR
@[simp] theorem Hr {c : Nat} {q : Pa} : kK c q .nils=.nils:=zR
@[simp] theorem MD {c : Nat} {q : Pa} {k n} : kK c q (.int k n)=.int k n:=zR
@[simp] theorem MF {c : Nat} {q : Pa} {b es} : kK c q (slx b es)=slx b es:=by cases b <;> cases es <;> rfl
@[simp] theorem CV {b c i o k n : Nat} : iT b (.ref (.n c i o) k n)=(c != b || (i == 0 && o == 1)):=zR
@[simp] theorem CW {b c k n : Nat} : iT b (.ref (.r c) k n)=true:=zR
@[simp] theorem Lh {b : Nat} {es} : iT b (.sl es)=true:=zR
@[simp] theorem CU {b : Nat} : iT b .nils=true:=zR
@[simp] theorem Gs {b : Nat} {k n} : iT b (.int k n)=true:=zR
@[simp] theorem Gt {b : Nat} {x es} : iT b (slx x es)=true:=by cases x <;> cases es <;> rfl
def zA (C : CC) (hs : Option (List Nat)) (K : Env -> Prop) (ns : List aA) (dst : Option Nat) (_ : Tag (hs,K,ns)) (e : Env) (R : List Nat) (acc : List (List Nat × List Nat)) (T : Nat) (d : D) : Prop:=match d with
 | .adr p i off=>dW C hs K ns dst ⟨⟩ e R acc (.ifa T p i off)
 | .int k n=>k=.i64 /\ dW C hs K ns dst ⟨⟩ e R acc (.ifi T n)
 | _=>False
@[simp] theorem RD {T x v1} : opW C hs K ns dst (.mkI T x) v1 e R acc=zA C hs K ns dst ⟨⟩ e R acc T (vd (ac e) x):=by
 show res (ac e) _ (.mkI T x)=_
 simp only [res,zA]
 cases vd (ac e) x <;> rfl
@[simp] theorem LA {T p i off} : zA C hs K ns dst u e R acc T (.adr p i off)=dW C hs K ns dst ⟨⟩ e R acc (.ifa T p i off):=zR
@[simp] theorem LB {T k n} : zA C hs K ns dst u e R acc T (.int k n)=(k=.i64 /\ dW C hs K ns dst ⟨⟩ e R acc (.ifi T n)):=zR
def D9 (C : CC) (hs : Option (List Nat)) (K : Env -> Prop) (ns : List aA) (dst : Option Nat) (_ : Tag (hs,K,ns)) (e : Env) (R : List Nat) (acc : List (List Nat × List Nat)) (T : Nat) (d : D) : Prop:=match d with
 | .ifi T' n=>T'=T /\ dW C hs K ns dst ⟨⟩ e R acc (.int .i64 n)
 | _=>False
@[simp] theorem RO {T x v1} : opW C hs K ns dst (.tya T x) v1 e R acc=D9 C hs K ns dst ⟨⟩ e R acc T (vd (ac e) x):=by
 show res (ac e) _ (.tya T x)=_
 simp only [res,D9]
 cases vd (ac e) x <;> rfl
@[simp] theorem M9 {T T' n} : D9 C hs K ns dst u e R acc T (.ifi T' n)=(T'=T /\ dW C hs K ns dst ⟨⟩ e R acc (.int .i64 n)):=zR
def sr (C : CC) (g : Nat) (hs : Option (List Nat)) (K : Env -> Prop) (ns : List aA) (dst : Option Nat) (_ : Tag (hs,K,ns)) (e : Env) (R : List Nat) (acc : List (List Nat × List Nat)) (b sz : Nat) (es : List (List D)) (W : List D) : Prop :=
 ∃ d,∃ es' : List (List D),0 < es'.length /\ C g (.blk sz es::W) d [.blk sz es',.nilp] /\ doW C hs K ns ⟨⟩ e R acc (b9 dst d++[(b,.blk sz es')]) [(b,false)]
theorem bJ {g b sz : Nat} {es es' : List (List D)} {W : List D} {d : D} (h : C g (.blk sz es::W) d [.blk sz es',.nilp]) (hp : 0 < es'.length)
  (hk : doW C hs K ns ⟨⟩ e R acc (b9 dst d++[(b,.blk sz es')]) [(b,false)]) : sr C g hs K ns dst u e R acc b sz es W:=⟨d,es',hp,h,hk⟩
def Ir (C : CC) (g : Nat) (hs : Option (List Nat)) (K : Env -> Prop) (ns : List aA) (dst : Option Nat) (_ : Tag (hs,K,ns)) (e : Env) (R : List Nat) (acc : List (List Nat × List Nat)) (T : Nat) (xs : List Opd) (d : D) : Prop:=match d with
 | .ifa T' (.r b) i off=>T'=T /\ i=0 /\ off=0 /\ hG (ac e b) (fun sz es=>0 < es.length /\ (∀ x ∈ xs,isV (vd (ac e) x)=true) /\ sr C g hs K ns dst ⟨⟩ e R acc b sz es (.adr (.r 10015) 0 0::xs.map (vd (ac e)))) ⟨⟩
 | _=>False
@[simp] theorem R6 {g xs T T' b i off} : Ir C g hs K ns dst u e R acc T xs (.ifa T' (.r b) i off)=(T'=T /\ i=0 /\ off=0 /\ hG (ac e b) (fun sz es=>0 < es.length /\ (∀ x ∈ xs,isV (vd (ac e) x)=true) /\ sr C g hs K ns dst ⟨⟩ e R acc b sz es (.adr (.r 10015) 0 0::xs.map (vd (ac e)))) ⟨⟩):=zR
@[simp] theorem He {g m T x xs v1} : opW C hs K ns dst (.callI g m T x xs) v1 e R acc=Ir C g hs K ns dst ⟨⟩ e R acc T xs (vd (ac e) x):=by
 unfold opW
 simp only [aJ]
 cases vd (ac e) x <;> first | rfl | skip
def Is (C : CC) (g : Nat) (hs : Option (List Nat)) (K : Env -> Prop) (ns : List aA) (dst : Option Nat) (_ : Tag (hs,K,ns)) (e : Env) (R : List Nat) (acc : List (List Nat × List Nat)) (xs : List Opd) (d : D) : Prop:=match d with
 | .ifa T (.r b) i off=>i=0 /\ off=0 /\ hG (ac e b) (fun sz es=>0 < es.length /\ (∀ x ∈ xs,isV (vd (ac e) x)=true) /\ sr C g hs K ns dst ⟨⟩ e R acc b sz es (.ifa T (.r 10015) 0 0::xs.map (vd (ac e)))) ⟨⟩
 | _=>False
@[simp] theorem R7 {g xs T b i off} : Is C g hs K ns dst u e R acc xs (.ifa T (.r b) i off)=(i=0 /\ off=0 /\ hG (ac e b) (fun sz es=>0 < es.length /\ (∀ x ∈ xs,isV (vd (ac e) x)=true) /\ sr C g hs K ns dst ⟨⟩ e R acc b sz es (.ifa T (.r 10015) 0 0::xs.map (vd (ac e)))) ⟨⟩):=zR
@[simp] theorem Hf {g x xs v1} : opW C hs K ns dst (.callM g x xs) v1 e R acc=Is C g hs K ns dst ⟨⟩ e R acc xs (vd (ac e) x):=by
 unfold opW
 simp only [aJ]
 cases vd (ac e) x <;> first | rfl | skip
def Bh (C : CC) (g : Nat) (hs : Option (List Nat)) (K : Env -> Prop) (ns : List aA) (dst : Option Nat) (_ : Tag (hs,K,ns)) (e : Env) (R : List Nat) (acc : List (List Nat × List Nat)) (xs : List Opd) (d : D) : Prop:=match d with
 | .ref (.r b) k n=>k=0 /\ hG (ac e b) (fun sz es=>0 < es.length /\ es.length=n /\ (∀ x ∈ xs,isV (vd (ac e) x)=true) /\ sr C g hs K ns dst ⟨⟩ e R acc b sz es (.ref (.r 10015) 0 n::xs.map (vd (ac e)))) ⟨⟩
 | _=>False
@[simp] theorem Nr {g xs b k n} : Bh C g hs K ns dst u e R acc xs (.ref (.r b) k n)=(k=0 /\ hG (ac e b) (fun sz es=>0 < es.length /\ es.length=n /\ (∀ x ∈ xs,isV (vd (ac e) x)=true) /\ sr C g hs K ns dst ⟨⟩ e R acc b sz es (.ref (.r 10015) 0 n::xs.map (vd (ac e)))) ⟨⟩):=zR
@[simp] theorem Hg {g x xs v1} : opW C hs K ns dst (.callR g x xs) v1 e R acc=Bh C g hs K ns dst ⟨⟩ e R acc xs (vd (ac e) x):=by
 unfold opW
 simp only [aJ]
 cases vd (ac e) x <;> first | rfl | skip
theorem AE {x y : Opd} {v1 : _} {b i off n sz0 sz : Nat} {es0 es : List (List D)} {row0 : List D} (hx : vd (ac e) x=.adr (.r b) i off) (hy : vd (ac e) y=.ref (.n b i off) 0 n) (hb : ac e b=.blk sz0 es0) (h1 : es0[i]? = some row0) (h2 : row0[off]? = some (.own sz es)) (h3 : n <= es.length)
  (hk : doW C hs K ns ⟨⟩ e R acc [(b,.blk sz0 (bN es0 i off 1 [.own sz (es.take n)]))] []) : opW C hs K ns none (.stL x y) v1 e R acc:=by
 unfold opW
 simp only [aJ]
 refine ⟨trivial,?_⟩
 rw [hx,hy]
 refine ⟨rfl,rfl,rfl,rfl,?_⟩
 rw [hb]
 exact ⟨row0,h1,sz,es,h2,h3,hk⟩
theorem lg {g s : Nat} {x : Opd} {xs : List Opd} {v1 : _} {T b sz sz1 sz2 : Nat} {fs sp fs' : List (List D)} {ds : List D} {d : D} (hx : vd (ac e) x=.ifa T (.r b) 0 0) (hs0 : s < 10000) (hd : dst ≠ some s) (hxs : ∀ x ∈ xs,bg (vd (ac e) x)=true)
  (hb : ac e b=.blk sz [[.own sz1 fs,.own sz2 sp]]) (hs1 : ac e s=.ptx ds) (hk1 : ds.all (iT b)=true) (f1 : ∀ e ∈ fs,∀ c ∈ e,bg c=true) (f2 : ∀ e ∈ sp,∀ c ∈ e,bg c=true) (hd1 : bg d=true \/ d=.tup []) (f3 : ∀ e ∈ fs',∀ c ∈ e,bg c=true)
  (hc : C g (.blk sz [[.own sz1 fs,.slv 0 sp]]::.ifa T (.r 10015) 0 0::xs.map (vd (ac e))) d [.blk sz [[.own sz1 fs',.slv 0 sp]],.nils])
  (hk : doW C hs K ns ⟨⟩ e R acc (b9 dst d++[(b,.blk sz [[.own sz1 fs',.own sz2 sp]]),(s,.ptx ds)]) [(b,false)]) : opW C hs K ns dst (.callQ g s x xs) v1 e R acc:=by
 unfold opW
 simp only [aJ]
 rw [hx]
 refine ⟨rfl,rfl,hs0,hd,hxs,?_⟩
 rw [hb]
 simp only
 rw [hs1]
 exact ⟨hk1,f1,f2,d,fs',hd1,f3,hc,hk⟩
theorem vz {s t : Nat} {x : Opd} {v1 : _} {c n sz : Nat} {es : List (List D)} {ds : List D} (hs0 : s < 10000) (hst : s ≠ t) (hx : vd (ac e) x=.agx [.nils,.ref (.r c) 0 n]) (hc : c ≠ rt t 0) (hcb : ac e c=.blk sz es) (hsz : 0 < sz) (hl : es.length=n) (h1 : ∀ e ∈ es,∀ c ∈ e,aH c=true)
  (hs1 : ac e s=.ptx ds) (hm : (ds.all fun d=>!aF (rt t 0) true d)=true)
  (hk0 : n=0 -> doW C hs K ns ⟨⟩ e R acc [(t,.adr (.r (rt t 0)) 0 0),(rt t 0,.blk 2 [[.own sz [],.any]])] [(rt t 0,true)])
  (hk : 0 < n -> doW C hs K ns ⟨⟩ e R acc [(t,.adr (.r (rt t 0)) 0 0),(rt t 0,.blk 2 [[.own sz [],.own sz es]]),(c,.any),(s,.ptx (ds.map (kK c (.n (rt t 0) 0 1))))] [(rt t 0,true)]) : opW C hs K ns (some t) (.boxK s x) v1 e R acc:=by
 unfold opW
 simp only [aJ]
 refine ⟨hs0,hst,?_⟩
 rw [hx]
 refine ⟨rfl,hc,?_⟩
 rw [hcb]
 refine ⟨hsz,hl,h1,?_⟩
 rw [hs1]
 refine ⟨hm,?_⟩
 by_cases hn : n=0
 ·rw [if_pos hn];exact hk0 hn
 ·rw [if_neg hn];exact hk (Nat.pos_of_ne_zero hn)
end
end Go.Gv

namespace Go.Gv
def mo (n : Int) : Bool:=-1125899906842624 <= n && n <= 1125899906842624
theorem af {n m : Int} (h : n=m) (h2 : -9223372036854775808 <= m /\ m < 9223372036854775808) : IntKind.wrap .i64 n=m:=by
 subst h
 have e1 : IntKind.i64.signed=true:=rfl
 have e2 : (2 ^ (IntKind.i64.bits - 1) : Int)=9223372036854775808:=rfl
 have e3 : (2 ^ IntKind.i64.bits : Int)=18446744073709551616:=rfl
 unfold IntKind.wrap
 simp only [e1,e2,e3,x09,x0f]
 split <;> omega
variable {C : CC} (hC : aD prog C)
include hC
end Go.Gv

namespace Go.Gv
structure SlI where
 n : Bool
 l : List Int
 deriving Inhabited
structure Sec where
 name : List UInt8
 height : Int
 price : Int
 areaN : Bool
 area : List (Int × Int)
 convN : Bool
 conv : List (Int × Int)
 deriving Inhabited
def iP {α : Type} (p : α -> Bool) (xs : List α) : Int:=match xs.findIdx? p with
 | some i=>i
 | none=>-1
theorem ez {α : Type} {p : α -> Bool} {xs : List α} {i : Nat} (hj : ∀ (j : Nat) (h : j < xs.length),j < i -> p xs[j]=false) (hi : i < xs.length) (h : p xs[i]=true) : iP p xs=i:=by
 have : xs.findIdx? p=some i:=by
  rw [x1A]
  exact ⟨hi,h,fun j hji=>by simp [hj j (by omega) hji]⟩
 simp [iP,this]
theorem gK {α : Type} {p : α -> Bool} {xs : List α} (hj : ∀ (j : Nat) (h : j < xs.length),p xs[j]=false) : iP p xs=-1:=by
 have : xs.findIdx? p=none:=by
  rw [List.findIdx?_eq_none_iff]
  intro x hx
  obtain ⟨j,h,rfl⟩:=x0S.1 hx
  exact hj j h
 simp [iP,this]
theorem m8 {α : Type} (p : α -> Bool) (xs : List α) : decide (0 <= iP p xs)=xs.any p:=by
 unfold iP
 split
 ·rename_i i h
  rw [x1A] at h
  obtain ⟨h1,h2,_⟩:=h
  have : xs.any p=true:=x0C.2 ⟨_,x0u h1,h2⟩
  simp [this]
 ·rename_i h
  rw [List.findIdx?_eq_none_iff] at h
  have : xs.any p=false:=by rw [x1L];intro x hx;simp [h x hx]
  simp [this]
variable {C : CC} (hC : aD prog C)
include hC
theorem wt {b : Bool} {xs : List Int} {g : Nat} {cs : List D} (p : Int -> Bool) (hs : xs.length < 2 ^ 62) (hp : ∀ x ∈ xs,C g (.int .i64 x::cs) (.bool (p x)) []) : C 35 [slx b (xs.map fun x=>[.int .i64 x]),.fn g cs] (.int .i64 (iP p xs)) []:=by
 refine aq hC (nf:=N35) rfl rfl ?_
 simp [N35]
 refine av Nat (fun i=>[(0,slx b (xs.map fun x=>[.int .i64 x])),(1,.fn g cs),(7,.int .i64 xs.length),(8,.int .i64 i)]) (fun i=>i <= xs.length /\ ∀ (j : Nat) (h : j < xs.length),j < i -> p xs[j]=false) (fun i=>xs.length - i) 0 (by simp) (by simp) ?_
 rintro i ⟨hi,hj⟩
 simp
 refine aj (fun h=>?_) (fun h=>?_) <;> simp [h] <;> simp at h
 ·have hw : IntKind.wrap .i64 ((i : Int) + 1)=((i + 1 : Nat) : Int):=af (by omega) (by omega)
  have hc:=hp _ (x0u h)
  simp [h,x1g] at hc ⊢
  refine aa hc (.inl rfl) ?_
  simp
  refine aj (fun h1=>?_) (fun h1=>?_) <;> simp [h1,hw]
  ·rw [ez hj h h1]
  ·refine ⟨i + 1,⟨by omega,fun j hl hjj=>?_⟩,by omega,rfl⟩
   rcases x0J.1 hjj with h2 | rfl
   ·exact hj j hl h2
   ·exact h1
 ·rw [gK (fun j hl=>hj j hl (by omega))]
theorem wm {b : Bool} {xs : List Int} {g : Nat} {cs : List D} (p : Int -> Bool) (hs : xs.length < 2 ^ 62) (hp : ∀ x ∈ xs,C g (.int .i64 x::cs) (.bool (p x)) []) : C 11 [slx b (xs.map fun x=>[.int .i64 x]),.fn g cs] (.bool (xs.any p)) []:=by
 refine aq hC (nf:=N11) rfl rfl ?_
 simp [N11]
 refine aa (wt hC p hs hp) (.inl rfl) ?_
 simp [m8]
end Go.Gv

namespace Go.Gv
structure Spt where
 x : Int
 y : Int
 z : Int
 deriving Inhabited,DecidableEq
structure Fce where
 a : Int
 b : Int
 c : Int
 k : Int
 deriving Inhabited,DecidableEq
structure Msh where
 sn : Bool
 s : List Spt
 fn : Bool
 f : List Fce
def fY (s : Spt) : List D:=[.int .i64 s.x,.int .i64 s.y,.int .i64 s.z]
def br (f : Fce) : List D:=[.int .i64 f.a,.int .i64 f.b,.int .i64 f.c,.int .i64 f.k]
def a6 (m : Msh) : List D:=[slx m.sn (m.s.map fY),slx m.fn (m.f.map br)]
theorem bZ (s : Spt) : fY s=[.int .i64 s.x,.int .i64 s.y,.int .i64 s.z]:=zR
theorem aI (f : Fce) : br f=[.int .i64 f.a,.int .i64 f.b,.int .i64 f.c,.int .i64 f.k]:=zR
theorem ab (m : Msh) : a6 m=[slx m.sn (m.s.map fY),slx m.fn (m.f.map br)]:=zR
def spt (m : Msh) (i : Nat) : Spt:=m.s[i]!
def fce (m : Msh) (i : Nat) : Fce:=m.f[i]!
@[simp high] theorem Tp (m : Msh) (i : Nat) : m.s[i]! = spt m i:=zR
@[simp high] theorem SA (m : Msh) (i : Nat) : m.f[i]! = fce m i:=zR
@[simp high] theorem Tq (m : Msh) (i : Nat) : m.s[i]?.getD default=spt m i:=by simp only [spt,List.getElem!_eq_getElem?_getD]
@[simp high] theorem SB (m : Msh) (i : Nat) : m.f[i]?.getD default=fce m i:=by simp only [fce,List.getElem!_eq_getElem?_getD]
@[simp] theorem TC (m : Msh) (i : Nat) (h : i < m.s.length) : m.s[i]=spt m i:=(x1k m.s i h).symm
@[simp] theorem j9 (m : Msh) (i : Nat) (h : i < m.f.length) : m.f[i]=fce m i:=(x1k m.f i h).symm
abbrev Pnt:=Int × Int
def ptD (p : Pnt) : List D:=[.int .i64 p.1,.int .i64 p.2]
def ptS (s : Spt) : Pnt:=(s.x,s.y)
def okP (p : Pnt) : Bool:=-16777216 <= p.1 && p.1 <= 16777216 && -16777216 <= p.2 && p.2 <= 16777216
def aX (s : Spt) : Bool:=-16777216 <= s.x && s.x <= 16777216 && -16777216 <= s.y && s.y <= 16777216 && -4194304 <= s.z && s.z <= 4194304
theorem pG {s : Spt} (h : aX s=true) : okP (ptS s)=true:=by
 simp only [aX,x0a,x0f] at h
 show okP (s.x,s.y)=true
 simp [okP]
 omega
def da (a b c : Pnt) : Int:=(b.1 - a.1) * (c.2 - a.2) - (b.2 - a.2) * (c.1 - a.1)
theorem wL {a b k l : Int} (h1 : -k <= a) (h2 : a <= k) (h3 : -l <= b) (h4 : b <= l) : -(k * l) <= a * b /\ a * b <= k * l:=by
 have hk : 0 <= k:=by omega
 have hl : 0 <= l:=by omega
 have e1:=x1n (show 0 <= k - a by omega) (show 0 <= l - b by omega)
 have e2:=x1n (show 0 <= k + a by omega) (show 0 <= l + b by omega)
 have e3:=x1n (show 0 <= k - a by omega) (show 0 <= l + b by omega)
 have e4:=x1n (show 0 <= k + a by omega) (show 0 <= l - b by omega)
 simp only [Int.sub_mul,Int.mul_sub,Int.add_mul,Int.mul_add] at e1 e2 e3 e4
 omega
theorem gy {p : Pnt} (h : okP p=true) : -16777216 <= p.1 /\ p.1 <= 16777216 /\ -16777216 <= p.2 /\ p.2 <= 16777216:=by
 simp only [okP,x0a,x0f] at h
 omega
theorem p6 {a b c : Pnt} (ha : okP a=true) (hb : okP b=true) (hc : okP c=true) :
  (-1125899906842624 <= (b.1 - a.1) * (c.2 - a.2) /\ (b.1 - a.1) * (c.2 - a.2) <= 1125899906842624) /\ (-1125899906842624 <= (b.2 - a.2) * (c.1 - a.1) /\ (b.2 - a.2) * (c.1 - a.1) <= 1125899906842624):=by
 have:=gy ha
 have:=gy hb
 have:=gy hc
 exact ⟨wL (k:=33554432) (l:=33554432) (by omega) (by omega) (by omega) (by omega),wL (k:=33554432) (l:=33554432) (by omega) (by omega) (by omega) (by omega)⟩
abbrev Tri:=Pnt × Pnt × Pnt
def cj (t : Tri) : List D:=[.int .i64 t.1.1,.int .i64 t.1.2,.int .i64 t.2.1.1,.int .i64 t.2.1.2,.int .i64 t.2.2.1,.int .i64 t.2.2.2]
def okT (t : Tri) : Bool:=okP t.1 && okP t.2.1 && okP t.2.2
def jI (t : Tri) : Int:=da t.1 t.2.1 t.2.2
def jd (p q : Pnt) (u : Tri) : Bool:=da p q u.1 <= 0 && da p q u.2.1 <= 0 && da p q u.2.2 <= 0
def rr (t u : Tri) : Bool:=jd t.1 t.2.1 u || jd t.2.1 t.2.2 u || jd t.2.2 t.1 u
def ovT (t u : Tri) : Bool:=!rr t u && !rr u t
def aR (m : Msh) (f : Fce) : Tri:=(ptS (spt m f.a.toNat),ptS (spt m f.b.toNat),ptS (spt m f.c.toNat))
def crn (f : Fce) : Nat -> Int
 | 0=>f.a
 | 1=>f.b
 | 2=>f.c
 | 3=>f.a
 | 4=>f.b
 | _=>f.c
def eX (n : Nat) (a : Int) : Bool:=0 <= a && a < n
def inS (m : Msh) (f : Fce) : Bool:=eX m.s.length f.a && eX m.s.length f.b && eX m.s.length f.c
theorem jQ {m : Msh} {f : Fce} (h : inS m f=true) : (0 <= f.a /\ f.a.toNat < m.s.length) /\ (0 <= f.b /\ f.b.toNat < m.s.length) /\ (0 <= f.c /\ f.c.toNat < m.s.length):=by
 simp only [inS,eX,x0a,x0f] at h
 omega
variable {C : CC} (hC : aD prog C)
include hC
theorem wY (p : Pnt) : C 313 [.agg (ptD p)] (.bool (okP p)) []:=by
 refine aq hC (nf:=N313) rfl rfl ?_
 simp [N313,ptD,okP]
 repeat' (refine aj (fun h=>?_) (fun h=>?_) <;> simp at h <;> simp [h] <;> try omega)
theorem wH (s : Spt) : C 303 [.agg (fY s)] (.bool (aX s)) []:=by
 have k:=wY hC (s.x,s.y)
 simp [ptD,okP] at k
 refine aq hC (nf:=N303) rfl rfl ?_
 simp [N303,fY,aX]
 refine aa k (.inl rfl) ?_
 simp
 repeat' (refine aj (fun h=>?_) (fun h=>?_) <;> simp at h <;> simp [h] <;> try omega)
theorem tr (s : Spt) : C 289 [.agg (fY s)] (.bool (aX s)) []:=by
 refine aq hC (nf:=N289) rfl rfl ?_
 simp [N289,fY,aX]
 repeat' (refine aj (fun h=>?_) (fun h=>?_) <;> simp at h <;> simp [h] <;> try omega)
theorem kI (s : Spt) : C 291 [.agg (fY s)] (.agg (ptD (ptS s))) []:=by
 refine aq hC (nf:=N291) rfl rfl ?_
 simp [N291,fY,ptD,ptS]
theorem qQ (m : Msh) : C 302 [.agg (a6 m)] (.bool (decide (m.s.length <= 2000) && decide (m.f.length <= 4000))) []:=by
 refine aq hC (nf:=N302) rfl rfl ?_
 simp [N302,a6]
 refine aj (fun h=>?_) (fun h=>?_) <;> simp at h <;> simp [h]
 ·rw [decide_eq_true (show m.s.length <= 2000 by omega)]
  simp
  exact Iff.intro (fun h2=>by omega) (fun h2=>by omega)
 ·omega
theorem xy (m : Msh) : C 257 [.agg (a6 m)] (.bool (decide (m.s.length <= 2000) && decide (m.f.length <= 4000))) []:=by
 refine aq hC (nf:=N257) rfl rfl ?_
 simp [N257,a6]
 refine aj (fun h=>?_) (fun h=>?_) <;> simp at h <;> simp [h]
 ·rw [decide_eq_true (show m.s.length <= 2000 by omega)]
  simp
  exact Iff.intro (fun h2=>by omega) (fun h2=>by omega)
 ·omega
theorem kB (m : Msh) (i : Nat) (h : i < m.s.length) : C 304 [.agg (a6 m),.int .i64 i] (.agg (ptD (ptS (spt m i)))) []:=by
 refine aq hC (nf:=N304) rfl rfl ?_
 simp [N304,a6,h,bZ,ptD,ptS]
 exact ai (by decide +kernel)
theorem nd (f : Fce) : C 305 [.agg (br f)] (.agg [.int .i64 f.a,.int .i64 f.b,.int .i64 f.c]) []:=by
 refine aq hC (nf:=N305) rfl rfl ?_
 simp [N305,br]
theorem pw (f : Fce) (k : Nat) (hk : k < 3) : C 298 [.agg (br f),.int .i64 k] (.agg [.int .i64 (crn f k),.int .i64 (crn f (k + 1))]) []:=by
 have k1:=nd hC f
 refine aq hC (nf:=N298) rfl rfl ?_
 rw [br] at k1 ⊢
 simp [N298]
 refine aa k1 (.inl rfl) ?_
 have w : IntKind.wrap .i64 ((k : Int) + 1)=((k + 1 : Nat) : Int):=af (by omega) (by omega)
 have w0 : IntKind.wrap .i64 1=1:=by decide
 have w1 : IntKind.wrap .i64 2=2:=by decide
 have w2 : IntKind.wrap .i64 3=3:=by decide
 rcases (by omega : k=0 \/ k=1 \/ k=2) with rfl | rfl | rfl <;> simp [crn,w0,w1,w2] <;> exact ai (by decide +kernel)
theorem ti {a b c : Pnt} (ha : okP a=true) (hb : okP b=true) (hc : okP c=true) : C 308 [.agg (ptD a),.agg (ptD b),.agg (ptD c)] (.int .i64 (da a b c)) []:=by
 have:=gy ha
 have:=gy hb
 have:=gy hc
 have h4:=p6 ha hb hc
 refine aq hC (nf:=N308) rfl rfl ?_
 have w1 : IntKind.wrap .i64 (b.1 - a.1)=b.1 - a.1:=af rfl (by omega)
 have w2 : IntKind.wrap .i64 (c.2 - a.2)=c.2 - a.2:=af rfl (by omega)
 have w3 : IntKind.wrap .i64 (b.2 - a.2)=b.2 - a.2:=af rfl (by omega)
 have w4 : IntKind.wrap .i64 (c.1 - a.1)=c.1 - a.1:=af rfl (by omega)
 have w5 : IntKind.wrap .i64 ((b.1 - a.1) * (c.2 - a.2))=(b.1 - a.1) * (c.2 - a.2):=af rfl (by omega)
 have w6 : IntKind.wrap .i64 ((b.2 - a.2) * (c.1 - a.1))=(b.2 - a.2) * (c.1 - a.1):=af rfl (by omega)
 have w7 : IntKind.wrap .i64 ((b.1 - a.1) * (c.2 - a.2) - (b.2 - a.2) * (c.1 - a.1))=da a b c:=af rfl (by rw [da];omega)
 simp [N308,ptD,w1,w2,w3,w4,w5,w6,w7]
theorem tt {a b c : Pnt} (ha : okP a=true) (hb : okP b=true) (hc : okP c=true) : C 286 [.agg (ptD a),.agg (ptD b),.agg (ptD c)] (.int .i64 (da a b c)) []:=by
 have:=gy ha
 have:=gy hb
 have:=gy hc
 have h4:=p6 ha hb hc
 refine aq hC (nf:=N286) rfl rfl ?_
 have w1 : IntKind.wrap .i64 (b.1 - a.1)=b.1 - a.1:=af rfl (by omega)
 have w2 : IntKind.wrap .i64 (c.2 - a.2)=c.2 - a.2:=af rfl (by omega)
 have w3 : IntKind.wrap .i64 (b.2 - a.2)=b.2 - a.2:=af rfl (by omega)
 have w4 : IntKind.wrap .i64 (c.1 - a.1)=c.1 - a.1:=af rfl (by omega)
 have w5 : IntKind.wrap .i64 ((b.1 - a.1) * (c.2 - a.2))=(b.1 - a.1) * (c.2 - a.2):=af rfl (by omega)
 have w6 : IntKind.wrap .i64 ((b.2 - a.2) * (c.1 - a.1))=(b.2 - a.2) * (c.1 - a.1):=af rfl (by omega)
 have w7 : IntKind.wrap .i64 ((b.1 - a.1) * (c.2 - a.2) - (b.2 - a.2) * (c.1 - a.1))=da a b c:=af rfl (by rw [da];omega)
 simp [N286,ptD,w1,w2,w3,w4,w5,w6,w7]
theorem DC (m : Msh) (f : Fce) (h : inS m f=true) : C 307 [.agg (a6 m),.agg (br f)] (.agg (cj (aR m f))) []:=by
 obtain ⟨⟨a1,a2⟩,⟨b1,b2⟩,⟨c1,c2⟩⟩:=jQ h
 have ka:=kB hC m f.a.toNat a2
 have kb:=kB hC m f.b.toNat b2
 have kc:=kB hC m f.c.toNat c2
 rw [Int.toNat_of_nonneg a1] at ka
 rw [Int.toNat_of_nonneg b1] at kb
 rw [Int.toNat_of_nonneg c1] at kc
 refine aq hC (nf:=N307) rfl rfl ?_
 rw [a6] at ka kb kc ⊢
 simp [N307,br]
 simp [ptD] at ka kb kc
 refine aa ka (.inl rfl) ?_
 simp
 refine aa kb (.inl rfl) ?_
 simp
 refine aa kc (.inl rfl) ?_
 simp [cj,aR]
 exact ai (by decide +kernel)
theorem gN (f : Fce) (k : Nat) (hk : k < 4) : C 323 [.agg (br f),.int .i64 k] (.int .i64 (crn f k)) []:=by
 refine aq hC (nf:=N323) rfl rfl ?_
 rcases (by omega : k=0 \/ k=1 \/ k=2 \/ k=3) with rfl | rfl | rfl | rfl <;> simp [N323,br,crn] <;> (refine pR (r:=[.int .i64 _]) rfl (by simp) ?_;simp)
theorem sG (m : Msh) (f : Fce) (h : inS m f=true) : C 285 [.agg (a6 m),.agg (br f)] (.sl [ptD (aR m f).1,ptD (aR m f).2.1,ptD (aR m f).2.2]) []:=by
 obtain ⟨⟨a1,a2⟩,⟨b1,b2⟩,⟨c1,c2⟩⟩:=jQ h
 have ka:=kI hC (spt m f.a.toNat)
 have kb:=kI hC (spt m f.b.toNat)
 have kc:=kI hC (spt m f.c.toNat)
 rw [fY] at ka kb kc
 refine aq hC (nf:=N285) rfl rfl ?_
 simp [N285,br,a6,a1,a2,bZ]
 refine aa ka (.inl rfl) ?_
 simp [b1,b2,bZ]
 refine aa kb (.inl rfl) ?_
 simp [c1,c2,bZ]
 refine aa kc (.inl rfl) ?_
 simp [aR,ptD]
 exact ai (by decide +kernel)
end Go.Gv

namespace Go.Gv
theorem bq : IntKind.wrap .i64 1=1:=by decide
theorem bu : IntKind.wrap .i64 2=2:=by decide
theorem bv : IntKind.wrap .i64 3=3:=by decide
variable {C : CC} (hC : aD prog C)
include hC
set_option maxHeartbeats 1000000 in
theorem BU {t u : Tri} (ht : okT t=true) (hu : okT u=true) : C 311 [.agg (cj t),.agg (cj u)] (.bool (rr t u)) []:=by
 simp only [okT,x0a] at ht hu
 obtain ⟨⟨t1,t2⟩,t3⟩:=ht
 obtain ⟨⟨u1,u2⟩,u3⟩:=hu
 have kk:=fun (p q r : Pnt) (hp : okP p=true) (hq : okP q=true) (hr : okP r=true)=>ti hC hp hq hr
 simp only [ptD] at kk
 have E : rr t u=(jd t.1 t.2.1 u || jd t.2.1 t.2.2 u || jd t.2.2 t.1 u):=rfl
 rw [E]
 clear E
 have S : ∀ p q,jd p q u=(decide (da p q u.1 <= 0) && decide (da p q u.2.1 <= 0) && decide (da p q u.2.2 <= 0)):=fun p q=>rfl
 refine aq hC (nf:=N311) rfl rfl ?_
 rw [cj,cj]
 simp [N311]
 refine av Nat (fun i=>[(2,.ptr (cj t)),(3,.ptr (cj u)),(8,.int .i64 i)]) (fun i=>i <= 3 /\ (1 <= i -> jd t.1 t.2.1 u=false) /\ (2 <= i -> jd t.2.1 t.2.2 u=false) /\ (3 <= i -> jd t.2.2 t.1 u=false)) (fun i=>3 - i) 0 (by simp) (by simp [cj]) ?_
 rintro i ⟨hi,s1,s2,s3⟩
 rcases (by omega : i=0 \/ i=1 \/ i=2 \/ i=3) with rfl | rfl | rfl | rfl
 ·simp [cj,bq,bu,bv]
  refine ⟨ai (by decide +kernel),?_⟩
  refine aa (kk t.1 t.2.1 u.1 t1 t2 u1) (.inl rfl) ?_
  simp
  refine aj (fun h1=>?_) (fun h1=>?_) <;> simp at h1
  ·simp [h1]
   refine aa (kk t.1 t.2.1 u.2.1 t1 t2 u2) (.inl rfl) ?_
   simp
   refine aj (fun h2=>?_) (fun h2=>?_) <;> simp at h2
   ·simp [h2]
    refine aa (kk t.1 t.2.1 u.2.2 t1 t2 u3) (.inl rfl) ?_
    simp
    refine aj (fun h3=>?_) (fun h3=>?_) <;> simp at h3 <;> simp [h3]
    ·simp [S,h1,h2,h3]
    ·refine ⟨1,⟨by omega,fun _=>by simp only [S,x0w,x0p];omega,fun h=>by omega,fun h=>by omega⟩,by omega,?_⟩ <;> simp [bq,bu,bv]
   ·simp [x05.2 h2]
    refine ⟨1,⟨by omega,fun _=>by simp only [S,x0w,x0p];omega,fun h=>by omega,fun h=>by omega⟩,by omega,?_⟩ <;> simp [bq,bu,bv]
  ·simp [x05.2 h1]
   refine ⟨1,⟨by omega,fun _=>by simp only [S,x0w,x0p];omega,fun h=>by omega,fun h=>by omega⟩,by omega,?_⟩ <;> simp [bq,bu,bv]
 ·simp [cj,bq,bu,bv]
  refine ⟨ai (by decide +kernel),?_⟩
  refine aa (kk t.2.1 t.2.2 u.1 t2 t3 u1) (.inl rfl) ?_
  simp
  refine aj (fun h1=>?_) (fun h1=>?_) <;> simp at h1
  ·simp [h1]
   refine aa (kk t.2.1 t.2.2 u.2.1 t2 t3 u2) (.inl rfl) ?_
   simp
   refine aj (fun h2=>?_) (fun h2=>?_) <;> simp at h2
   ·simp [h2]
    refine aa (kk t.2.1 t.2.2 u.2.2 t2 t3 u3) (.inl rfl) ?_
    simp
    refine aj (fun h3=>?_) (fun h3=>?_) <;> simp at h3 <;> simp [h3]
    ·simp [S,h1,h2,h3]
    ·refine ⟨2,⟨by omega,fun _=>s1 (by omega),fun _=>by simp only [S,x0w,x0p];omega,fun h=>by omega⟩,by omega,?_⟩ <;> simp [bq,bu,bv]
   ·simp [x05.2 h2]
    refine ⟨2,⟨by omega,fun _=>s1 (by omega),fun _=>by simp only [S,x0w,x0p];omega,fun h=>by omega⟩,by omega,?_⟩ <;> simp [bq,bu,bv]
  ·simp [x05.2 h1]
   refine ⟨2,⟨by omega,fun _=>s1 (by omega),fun _=>by simp only [S,x0w,x0p];omega,fun h=>by omega⟩,by omega,?_⟩ <;> simp [bq,bu,bv]
 ·simp [cj,bq,bu,bv]
  refine ⟨ai (by decide +kernel),?_⟩
  refine aa (kk t.2.2 t.1 u.1 t3 t1 u1) (.inl rfl) ?_
  simp
  refine aj (fun h1=>?_) (fun h1=>?_) <;> simp at h1
  ·simp [h1]
   refine aa (kk t.2.2 t.1 u.2.1 t3 t1 u2) (.inl rfl) ?_
   simp
   refine aj (fun h2=>?_) (fun h2=>?_) <;> simp at h2
   ·simp [h2]
    refine aa (kk t.2.2 t.1 u.2.2 t3 t1 u3) (.inl rfl) ?_
    simp
    refine aj (fun h3=>?_) (fun h3=>?_) <;> simp at h3 <;> simp [h3]
    ·simp [S,h1,h2,h3]
    ·refine ⟨3,⟨by omega,fun _=>s1 (by omega),fun _=>s2 (by omega),fun _=>by simp only [S,x0w,x0p];omega⟩,by omega,?_⟩ <;> simp [bq,bu,bv]
   ·simp [x05.2 h2]
    refine ⟨3,⟨by omega,fun _=>s1 (by omega),fun _=>s2 (by omega),fun _=>by simp only [S,x0w,x0p];omega⟩,by omega,?_⟩ <;> simp [bq,bu,bv]
  ·simp [x05.2 h1]
   refine ⟨3,⟨by omega,fun _=>s1 (by omega),fun _=>s2 (by omega),fun _=>by simp only [S,x0w,x0p];omega⟩,by omega,?_⟩ <;> simp [bq,bu,bv]
 ·simp [s1 (by omega),s2 (by omega),s3 (by omega)]
def oj (t : Tri) : List (List D):=[ptD t.1,ptD t.2.1,ptD t.2.2]
set_option maxHeartbeats 1000000 in
theorem re {t u : Tri} (ht : okT t=true) (hu : okT u=true) : C 324 [.sl (oj t),.sl (oj u)] (.bool (rr t u)) []:=by
 simp only [okT,x0a] at ht hu
 obtain ⟨⟨t1,t2⟩,t3⟩:=ht
 obtain ⟨⟨u1,u2⟩,u3⟩:=hu
 have kk:=fun (p q r : Pnt) (hp : okP p=true) (hq : okP q=true) (hr : okP r=true)=>tt hC hp hq hr
 simp only [ptD] at kk
 have E : rr t u=(jd t.1 t.2.1 u || jd t.2.1 t.2.2 u || jd t.2.2 t.1 u):=rfl
 rw [E]
 clear E
 have S : ∀ p q,jd p q u=(decide (da p q u.1 <= 0) && decide (da p q u.2.1 <= 0) && decide (da p q u.2.2 <= 0)):=fun p q=>rfl
 refine aq hC (nf:=N324) rfl rfl ?_
 simp only [oj,ptD]
 simp [N324]
 refine av Nat (fun i=>[(0,.sl (oj t)),(1,.sl (oj u)),(5,.int .i64 i)]) (fun i=>i <= 3 /\ (1 <= i -> jd t.1 t.2.1 u=false) /\ (2 <= i -> jd t.2.1 t.2.2 u=false) /\ (3 <= i -> jd t.2.2 t.1 u=false)) (fun i=>3 - i) 0 (by simp) (by simp [oj,ptD]) ?_
 rintro i ⟨hi,s1,s2,s3⟩
 rcases (by omega : i=0 \/ i=1 \/ i=2 \/ i=3) with rfl | rfl | rfl | rfl
 ·simp [oj,ptD,bq,bu,bv]
  refine ⟨ai (by decide +kernel),?_⟩
  refine aa (kk t.1 t.2.1 u.1 t1 t2 u1) (.inl rfl) ?_
  simp
  refine aj (fun h1=>?_) (fun h1=>?_) <;> simp at h1
  ·simp [h1]
   refine aa (kk t.1 t.2.1 u.2.1 t1 t2 u2) (.inl rfl) ?_
   simp
   refine aj (fun h2=>?_) (fun h2=>?_) <;> simp at h2
   ·simp [h2]
    refine aa (kk t.1 t.2.1 u.2.2 t1 t2 u3) (.inl rfl) ?_
    simp
    refine ⟨ai (by decide +kernel),?_⟩
    refine aj (fun h3=>?_) (fun h3=>?_) <;> simp at h3 <;> simp [h3]
    ·simp [S,h1,h2,h3]
    ·refine ⟨1,⟨by omega,fun _=>by simp only [S,x0w,x0p];omega,fun h=>by omega,fun h=>by omega⟩,by omega,?_⟩ <;> simp [bq,bu,bv]
   ·simp [x05.2 h2]
    refine ⟨ai (by decide +kernel),?_⟩
    refine ⟨1,⟨by omega,fun _=>by simp only [S,x0w,x0p];omega,fun h=>by omega,fun h=>by omega⟩,by omega,?_⟩ <;> simp [bq,bu,bv]
  ·simp [x05.2 h1]
   refine ⟨ai (by decide +kernel),?_⟩
   refine ⟨1,⟨by omega,fun _=>by simp only [S,x0w,x0p];omega,fun h=>by omega,fun h=>by omega⟩,by omega,?_⟩ <;> simp [bq,bu,bv]
 ·simp [oj,ptD,bq,bu,bv]
  refine ⟨ai (by decide +kernel),?_⟩
  refine aa (kk t.2.1 t.2.2 u.1 t2 t3 u1) (.inl rfl) ?_
  simp
  refine aj (fun h1=>?_) (fun h1=>?_) <;> simp at h1
  ·simp [h1]
   refine aa (kk t.2.1 t.2.2 u.2.1 t2 t3 u2) (.inl rfl) ?_
   simp
   refine aj (fun h2=>?_) (fun h2=>?_) <;> simp at h2
   ·simp [h2]
    refine aa (kk t.2.1 t.2.2 u.2.2 t2 t3 u3) (.inl rfl) ?_
    simp
    refine ⟨ai (by decide +kernel),?_⟩
    refine aj (fun h3=>?_) (fun h3=>?_) <;> simp at h3 <;> simp [h3]
    ·simp [S,h1,h2,h3]
    ·refine ⟨2,⟨by omega,fun _=>s1 (by omega),fun _=>by simp only [S,x0w,x0p];omega,fun h=>by omega⟩,by omega,?_⟩ <;> simp [bq,bu,bv]
   ·simp [x05.2 h2]
    refine ⟨ai (by decide +kernel),?_⟩
    refine ⟨2,⟨by omega,fun _=>s1 (by omega),fun _=>by simp only [S,x0w,x0p];omega,fun h=>by omega⟩,by omega,?_⟩ <;> simp [bq,bu,bv]
  ·simp [x05.2 h1]
   refine ⟨ai (by decide +kernel),?_⟩
   refine ⟨2,⟨by omega,fun _=>s1 (by omega),fun _=>by simp only [S,x0w,x0p];omega,fun h=>by omega⟩,by omega,?_⟩ <;> simp [bq,bu,bv]
 ·simp [oj,ptD,bq,bu,bv]
  refine ⟨ai (by decide +kernel),?_⟩
  refine aa (kk t.2.2 t.1 u.1 t3 t1 u1) (.inl rfl) ?_
  simp
  refine aj (fun h1=>?_) (fun h1=>?_) <;> simp at h1
  ·simp [h1]
   refine aa (kk t.2.2 t.1 u.2.1 t3 t1 u2) (.inl rfl) ?_
   simp
   refine aj (fun h2=>?_) (fun h2=>?_) <;> simp at h2
   ·simp [h2]
    refine aa (kk t.2.2 t.1 u.2.2 t3 t1 u3) (.inl rfl) ?_
    simp
    refine ⟨ai (by decide +kernel),?_⟩
    refine aj (fun h3=>?_) (fun h3=>?_) <;> simp at h3 <;> simp [h3]
    ·simp [S,h1,h2,h3]
    ·refine ⟨3,⟨by omega,fun _=>s1 (by omega),fun _=>s2 (by omega),fun _=>by simp only [S,x0w,x0p];omega⟩,by omega,?_⟩ <;> simp [bq,bu,bv]
   ·simp [x05.2 h2]
    refine ⟨ai (by decide +kernel),?_⟩
    refine ⟨3,⟨by omega,fun _=>s1 (by omega),fun _=>s2 (by omega),fun _=>by simp only [S,x0w,x0p];omega⟩,by omega,?_⟩ <;> simp [bq,bu,bv]
  ·simp [x05.2 h1]
   refine ⟨ai (by decide +kernel),?_⟩
   refine ⟨3,⟨by omega,fun _=>s1 (by omega),fun _=>s2 (by omega),fun _=>by simp only [S,x0w,x0p];omega⟩,by omega,?_⟩ <;> simp [bq,bu,bv]
 ·simp [s1 (by omega),s2 (by omega),s3 (by omega)]
end Go.Gv

namespace Go.Gv
def okc (m : Msh) (a b : Int) : Bool:=eX m.s.length a && decide (a ≠ b) && aX (spt m a.toNat)
def okF (m : Msh) (f : Fce) : Bool:=okc m f.a f.b && okc m f.b f.c && okc m f.c f.a && decide (0 <= f.k) && decide (f.k < 16)
def mtc (f g : Fce) (i k : Nat) : Bool:=decide (crn f i=crn g k) && decide (crn f (i + 1)=crn g (k + 1))
def ik (f g : Fce) : Bool:=(List.range 3).any fun i=>(List.range 3).any fun k=>mtc f g i k
theorem jt {m : Msh} {f : Fce} (h : okF m f=true) : inS m f=true:=by
 simp only [okF,okc,x0a] at h
 simp only [inS,x0a]
 exact ⟨⟨h.1.1.1.1.1.1,h.1.1.1.2.1.1⟩,h.1.1.2.1.1⟩
theorem cD {m : Msh} {f : Fce} (h : okF m f=true) : okT (aR m f)=true:=by
 simp only [okF,okc,x0a] at h
 simp only [okT,aR,x0a]
 exact ⟨⟨pG h.1.1.1.1.2,pG h.1.1.1.2.2⟩,pG h.1.1.2.2⟩
def qw (n : Nat) : UInt8:=UInt8.ofNat (48 + n % 10)
def pd (n : Nat) (out : List UInt8) : List UInt8:=if n < 10 then qw n::out else pd (n / 10) (qw n::out)
def rP (n : Nat) (out : List UInt8) : List UInt8:=if n=0 then out else pd n out
theorem ox (n : Nat) (out : List UInt8) : pd n out=rP (n / 10) (qw n::out):=by
 rw [pd,rP]
 by_cases h : n < 10
 ·rw [if_pos h,if_pos (by omega)]
 ·rw [if_neg h,if_neg (by omega)]
variable {C : CC} (hC : aD prog C)
include hC
theorem tw (m : Msh) (f : Fce) (hs : inS m f=true) (ht : okT (aR m f)=true) : C 293 [.agg (a6 m),.agg (br f)] (.int .i64 (jI (aR m f))) []:=by
 have k1:=sG hC m f hs
 have k2:=ht
 simp only [okT,x0a] at k2
 have k3:=tt hC k2.1.1 k2.1.2 k2.2
 obtain ⟨t,e⟩ : ∃ t,t=aR m f:=⟨_,rfl⟩
 rw [<- e] at k1 k3 ⊢
 refine aq hC (nf:=N293) rfl rfl ?_
 rw [a6,br] at k1 ⊢
 simp only [ptD] at k1 k3
 simp [N293]
 refine aa k1 (.inr rfl) ?_
 simp
 refine aa k3 (.inl rfl) ?_
 simp [jI]
 exact ai (by decide +kernel)
theorem sF (m : Msh) (f g : Fce) (hs : inS m f=true) (ht : okT (aR m f)=true) (hs' : inS m g=true) (ht' : okT (aR m g)=true) : C 295 [.agg (a6 m),.agg (br f),.agg (br g)] (.bool (ovT (aR m f) (aR m g))) []:=by
 have k1:=sG hC m f hs
 have k2:=sG hC m g hs'
 have k3:=re hC ht ht'
 have k4:=re hC ht' ht
 obtain ⟨t,e⟩ : ∃ t,t=aR m f:=⟨_,rfl⟩
 obtain ⟨u,e'⟩ : ∃ u,u=aR m g:=⟨_,rfl⟩
 rw [<- e] at k1 k3 k4 ⊢
 rw [<- e'] at k2 k3 k4 ⊢
 refine aq hC (nf:=N295) rfl rfl ?_
 rw [a6,br] at k1 k2 ⊢
 rw [br]
 simp only [oj,ptD] at k1 k2 k3 k4
 simp [N295]
 refine aa k1 (.inr rfl) ?_
 simp
 refine aa k2 (.inr rfl) ?_
 simp
 refine ⟨ai (by decide +kernel),?_⟩
 refine aa k3 (.inl rfl) ?_
 simp
 cases h1 : rr t u <;> simp [ovT,h1]
 refine aa k4 (.inl rfl) ?_
 simp
 exact fun _=>h1
theorem Ab (f g : Fce) : C 294 [.agg (br f),.agg (br g)] (.bool (ik f g)) []:=by
 have kf:=fun k (h : k < 4)=>gN hC f k h
 have kg:=fun k (h : k < 4)=>gN hC g k h
 refine aq hC (nf:=N294) rfl rfl ?_
 rw [br] at kf ⊢
 rw [br] at kg ⊢
 simp [N294]
 refine av Nat (fun i=>[(2,.ptr (br f)),(3,.ptr (br g)),(5,.int .i64 i)]) (fun i=>i <= 3 /\ ∀ a,a < i -> ∀ b,b < 3 -> mtc f g a b=false) (fun i=>3 - i) 0 (by simp) (by simp [br]) ?_
 rintro i ⟨hi,hI⟩
 simp [br]
 refine aj (fun c1=>?_) (fun c1=>?_) <;> simp at c1 <;> simp [c1]
 ·have hw : IntKind.wrap .i64 ((i : Int) + 1)=((i + 1 : Nat) : Int):=af (by omega) (by omega)
  refine av Nat (fun k=>[(2,.ptr (br f)),(3,.ptr (br g)),(5,.int .i64 i),(6,.int .i64 k)]) (fun k=>k <= 3 /\ ∀ b,b < k -> mtc f g i b=false) (fun k=>3 - k) 0 (by simp) (by simp [br]) ?_
  rintro k ⟨hk,hK⟩
  simp [br]
  refine aj (fun c2=>?_) (fun c2=>?_) <;> simp at c2 <;> simp [c2]
  ·have hw2 : IntKind.wrap .i64 ((k : Int) + 1)=((k + 1 : Nat) : Int):=af (by omega) (by omega)
   refine aa (kf i (by omega)) (.inl rfl) ?_
   simp
   refine aa (kg k (by omega)) (.inl rfl) ?_
   simp
   by_cases h1 : crn f i=crn g k
   ·simp [h1,hw,hw2]
    refine aa (kf (i + 1) (by omega)) (.inl rfl) ?_
    simp [hw2]
    refine aa (kg (k + 1) (by omega)) (.inl rfl) ?_
    simp
    refine ⟨ai (by decide +kernel),?_⟩
    by_cases h2 : crn f (i + 1)=crn g (k + 1)
    ·simp [h2]
     refine x0C.2 ⟨i,x0D.2 (by omega),x0C.2 ⟨k,x0D.2 (by omega),?_⟩⟩
     simp [mtc,h1,h2]
    ·simp [h2,hw2]
     refine ⟨k + 1,⟨by omega,fun b hb=>?_⟩,by omega,?_⟩
     rotate_left
     ·omega
     rcases x0J.1 hb with h | rfl
     ·exact hK b h
     ·simp [mtc,h2]
   ·simp [h1,hw2]
    refine ⟨ai (by decide +kernel),?_⟩
    refine ⟨k + 1,⟨by omega,fun b hb=>?_⟩,by omega,?_⟩
    rotate_left
    ·omega
    rcases x0J.1 hb with h | rfl
    ·exact hK b h
    ·simp [mtc,h1]
  ·simp [hw]
   refine ⟨i + 1,⟨by omega,fun a ha b hb=>?_⟩,by omega,?_⟩
   rotate_left
   ·omega
   rcases x0J.1 ha with h | rfl
   ·exact hI a h b hb
   ·exact hK b (by omega)
 ·rw [ik]
  rw [Bool.eq_false_iff]
  intro h
  rw [x0C] at h
  obtain ⟨a,ha,h⟩:=h
  rw [x0C] at h
  obtain ⟨b,hb,h⟩:=h
  rw [hI a (by have:=x0D.1 ha;omega) b (x0D.1 hb)] at h
  cases h
set_option maxHeartbeats 2000000 in
theorem DR (m : Msh) (f : Fce) (hn : m.s.length < 2 ^ 40) : C 292 [.agg (a6 m),.agg (br f)] (.bool (okF m f)) []:=by
 have ks:=fun s=>tr hC s
 have E : ∀ a b : Int,okc m a b=(decide (0 <= a) && decide (a < m.s.length) && decide (a ≠ b) && aX (spt m a.toNat)):=fun a b=>rfl
 have E2 : okF m f=(okc m f.a f.b && okc m f.b f.c && okc m f.c f.a && decide (0 <= f.k) && decide (f.k < 16)):=rfl
 refine aq hC (nf:=N292) rfl rfl ?_
 rw [a6,br]
 simp only [fY] at ks
 simp [N292]
 refine av Nat (fun i=>[(2,.ptr (a6 m)),(3,.ptr (br f)),(5,.ref (.r 10080) 0 3),(10080,.blk 1 [[.int .i64 f.a],[.int .i64 f.b],[.int .i64 f.c]]),(6,.int .i64 i)]) (fun i=>i <= 3 /\ (1 <= i -> okc m f.a f.b=true) /\ (2 <= i -> okc m f.b f.c=true) /\ (3 <= i -> okc m f.c f.a=true)) (fun i=>3 - i) 0 (by simp) (by simp [br,a6]) ?_
 rintro i ⟨hi,s1,s2,s3⟩
 rcases (by omega : i=0 \/ i=1 \/ i=2 \/ i=3) with rfl | rfl | rfl | rfl
 ·have no : okc m f.a f.b=false -> okF m f=false:=fun h=>by simp [E2,h]
  simp [br,a6,bq,bu,bv]
  refine aj (fun c1=>?_) (fun c1=>?_) <;> simp at c1
  ·simp [c1]
   exact ⟨ai (by decide +kernel),no (by rw [E,decide_eq_false (by omega)];simp)⟩
  ·simp [x1B.2 c1]
   refine aj (fun c2=>?_) (fun c2=>?_) <;> simp at c2
   ·simp [c2]
    exact ⟨ai (by decide +kernel),no (by rw [E,decide_eq_false (show ¬ f.a < m.s.length by omega)];simp)⟩
   ·simp [x05.2 c2,bq,bu,bv]
    by_cases c3 : f.a=f.b
    ·simp [c3,bq,bu,bv]
     exact ⟨ai (by decide +kernel),no (by rw [E,decide_eq_false (show ¬ f.a ≠ f.b by omega)];simp)⟩
    ·simp [c3,c1,bq,bu,bv]
     refine ⟨by omega,by simp [fY],?_⟩
     simp [bZ]
     refine aa (ks (spt m f.a.toNat)) (.inl rfl) ?_
     cases c4 : aX (spt m f.a.toNat)
     ·simp
      exact ⟨ai (by decide +kernel),no (by rw [E,c4];simp)⟩
     ·simp
      refine ⟨ai (by decide +kernel),?_⟩
      refine ⟨1,⟨by omega,fun _=>by rw [E];simp [c1,c3,c4];omega,fun h=>by omega,fun h=>by omega⟩,by omega,?_⟩ <;> simp [bq,bu,bv]
 ·have no : okc m f.b f.c=false -> okF m f=false:=fun h=>by simp [E2,h]
  simp [br,a6,bq,bu,bv]
  refine aj (fun c1=>?_) (fun c1=>?_) <;> simp at c1
  ·simp [c1]
   exact ⟨ai (by decide +kernel),no (by rw [E,decide_eq_false (by omega)];simp)⟩
  ·simp [x1B.2 c1]
   refine aj (fun c2=>?_) (fun c2=>?_) <;> simp at c2
   ·simp [c2]
    exact ⟨ai (by decide +kernel),no (by rw [E,decide_eq_false (show ¬ f.b < m.s.length by omega)];simp)⟩
   ·simp [x05.2 c2,bq,bu,bv]
    by_cases c3 : f.b=f.c
    ·simp [c3,bq,bu,bv]
     exact ⟨ai (by decide +kernel),no (by rw [E,decide_eq_false (show ¬ f.b ≠ f.c by omega)];simp)⟩
    ·simp [c3,c1,bq,bu,bv]
     refine ⟨by omega,by simp [fY],?_⟩
     simp [bZ]
     refine aa (ks (spt m f.b.toNat)) (.inl rfl) ?_
     cases c4 : aX (spt m f.b.toNat)
     ·simp
      exact ⟨ai (by decide +kernel),no (by rw [E,c4];simp)⟩
     ·simp
      refine ⟨ai (by decide +kernel),?_⟩
      refine ⟨2,⟨by omega,fun _=>s1 (by omega),fun _=>by rw [E];simp [c1,c3,c4];omega,fun h=>by omega⟩,by omega,?_⟩ <;> simp [bq,bu,bv]
 ·have no : okc m f.c f.a=false -> okF m f=false:=fun h=>by simp [E2,h]
  simp [br,a6,bq,bu,bv]
  refine aj (fun c1=>?_) (fun c1=>?_) <;> simp at c1
  ·simp [c1]
   exact ⟨ai (by decide +kernel),no (by rw [E,decide_eq_false (by omega)];simp)⟩
  ·simp [x1B.2 c1]
   refine aj (fun c2=>?_) (fun c2=>?_) <;> simp at c2
   ·simp [c2]
    exact ⟨ai (by decide +kernel),no (by rw [E,decide_eq_false (show ¬ f.c < m.s.length by omega)];simp)⟩
   ·simp [x05.2 c2,bq,bu,bv]
    by_cases c3 : f.c=f.a
    ·simp [c3,bq,bu,bv]
     exact ⟨ai (by decide +kernel),no (by rw [E,decide_eq_false (show ¬ f.c ≠ f.a by omega)];simp)⟩
    ·simp [c3,c1,bq,bu,bv]
     refine ⟨by omega,by simp [fY],?_⟩
     simp [bZ]
     refine aa (ks (spt m f.c.toNat)) (.inl rfl) ?_
     cases c4 : aX (spt m f.c.toNat)
     ·simp
      exact ⟨ai (by decide +kernel),no (by rw [E,c4];simp)⟩
     ·simp
      refine ⟨ai (by decide +kernel),?_⟩
      refine ⟨3,⟨by omega,fun _=>s1 (by omega),fun _=>s2 (by omega),fun _=>by rw [E];simp [c1,c3,c4];omega⟩,by omega,?_⟩ <;> simp [bq,bu,bv]
 ·have t1:=s1 (by omega)
  have t2:=s2 (by omega)
  have t3:=s3 (by omega)
  simp [br,a6,E2,t1,t2,t3]
  refine aj (fun c1=>?_) (fun c1=>?_) <;> simp at c1 <;> simp [c1] <;> rw [E2,t1,t2,t3] <;> simp [c1]
  omega
theorem DP (n : Nat) (hn : n < 100) : C 290 [.int .i64 n] (.str (pd n [])) []:=by
 refine aq hC (nf:=N290) rfl rfl ?_
 simp [N290]
 refine av (Nat × List UInt8) (fun s=>[(0,.int .i64 s.1),(3,.str s.2)]) (fun s=>s.1 + s.2.length <= n + 1 /\ ((s.2=[] /\ s.1=n) \/ (s.2 ≠ [] /\ rP s.1 s.2=pd n []))) (fun s=>s.1 + if s.2=[] then 1 else 0) (n,[]) (by simp) (by simp) ?_
 rintro ⟨k,out⟩ ⟨hl,hI⟩
 simp only at hl hI
 have ww : IntKind.wrap .i64 ((k : Int) / 10)=((k / 10 : Nat) : Int):=af (by omega) (by omega)
 have wq : IntKind.wrap .i64 (48 + (k : Int) % 10)=48 + (k : Int) % 10:=af rfl (by omega)
 have et : (k : Int).tmod 10=(k : Int) % 10:=Int.tmod_eq_emod_of_nonneg (by omega)
 have wd : IntKind.u8.wrap (48 + (k : Int) % 10)=48 + (k : Int) % 10:=by
  have e1 : IntKind.u8.signed=false:=rfl
  have e3 : (2 ^ IntKind.u8.bits : Int)=256:=rfl
  unfold IntKind.wrap
  simp only [e1,e3,Bool.false_and]
  simp
  omega
 have wdd : IntKind.u8.wrap (IntKind.wrap .i64 (48 + (k : Int).tmod 10))=48 + (k : Int) % 10:=by rw [et,wq,wd]
 have hda : (k : Int) / 10=((k / 10 : Nat) : Int):=by omega
 have wb : gr [.int .u8 (48 + (k : Int) % 10)]=qw k:=by
  have : (48 + (k : Int) % 10).toNat=48 + k % 10:=by omega
  simp only [gr,qw,this]
 have hstep : rP (k / 10) (qw k::out)=pd n [] \/ (k=0 /\ out ≠ []):=by
  rcases hI with ⟨rfl,rfl⟩ | ⟨h1,h2⟩
  ·exact .inl (ox _ _).symm
  ·by_cases h : k=0
   ·exact .inr ⟨h,h1⟩
   ·rw [rP,if_neg h] at h2
    rw [<- ox,h2]
    exact .inl rfl
 by_cases hk : 0 < k
 ·have h3 : rP (k / 10) (qw k::out)=pd n []:=by
   rcases hstep with h | h
   ·exact h
   ·omega
  simp [hk,wdd,ww]
  refine ⟨⟨48 + k % 10,by omega,by omega⟩,by omega,k / 10,_,⟨by simp;omega,.inr ⟨by simp,?_⟩⟩,?_,hda,rfl⟩
  ·rw [wb];exact h3
  ·simp
   split <;> omega
 ·have h0 : k=0:=by omega
  subst h0
  by_cases ho : out=[]
  ·subst ho
   simp at hstep
   have w48 : IntKind.u8.wrap (IntKind.wrap .i64 48)=48:=by decide
   simp [w48]
   refine ⟨⟨48,rfl,by omega⟩,0,_,⟨by simp,.inr ⟨by simp,?_⟩⟩,⟨rfl,by simp⟩,by decide,rfl⟩
   have : gr [.int .u8 48]=qw 0:=by decide
   rw [this]
   exact hstep
  ·rcases hI with ⟨h1,_⟩ | ⟨_,h2⟩
   ·exact absurd h1 ho
   ·rw [rP,if_pos rfl] at h2
    rw [<- h2]
    simp [ho]
end Go.Gv

namespace Go.Gv
def gA (m : Msh) (i : Nat) : Pnt:=ptS (spt m i)
def fil (p : Nat -> Bool) (n : Nat) : List Nat:=(List.range n).filter p
theorem ke (p : Nat -> Bool) : fil p 0=[]:=rfl
theorem cB {p : Nat -> Bool} {n : Nat} (h : p n=true) : fil p (n + 1)=fil p n++[n]:=by
 rw [fil,x03,x1r]
 simp [h,fil]
theorem lm {p : Nat -> Bool} {n : Nat} (h : p n=false) : fil p (n + 1)=fil p n:=by
 rw [fil,x03,x1r]
 simp [h,fil]
theorem aL (p : Nat -> Bool) (n : Nat) : (fil p n).length <= n:=by
 have:=x1H p (List.range n)
 rw [fil]
 simpa using this
theorem dV {p : Nat -> Bool} {n i : Nat} (h : i ∈ fil p n) : i < n /\ p i=true:=by
 rw [fil,List.mem_filter,x0D] at h
 exact h
theorem mw {p : Nat -> Bool} {n : Nat} : fil p n=[] ↔ ∀ i,i < n -> p i=false:=by
 rw [fil,List.filter_eq_nil_iff]
 simp
def cW (m : Msh) (i : Nat) : Bool:=!aX (spt m i)
def bP (m : Msh) (i : Nat) : Bool:=aX (spt m i) && (List.range i).any fun k=>aX (spt m k) && decide (gA m k=gA m i)
def dC (m : Msh) (i : Nat) : Bool:=!okF m (fce m i)
def cm (m : Msh) (i : Nat) : Bool:=okF m (fce m i) && decide (jI (aR m (fce m i)) <= 0)
def aC (m : Msh) (i : Nat) : Bool:=okF m (fce m i) && decide (0 < jI (aR m (fce m i)))
def bL (m : Msh) (i : Nat) : Bool:=aC m i && (List.range i).any fun k=>aC m k && ik (fce m i) (fce m k)
def aQ (m : Msh) (i : Nat) : Bool:=aC m i && (List.range i).any fun k=>aC m k && ovT (aR m (fce m i)) (aR m (fce m k))
def LL (m : Msh) : List (List Nat):=[[],fil (cW m) m.s.length,fil (bP m) m.s.length,fil (dC m) m.f.length,fil (cm m) m.f.length,fil (bL m) m.f.length,fil (aQ m) m.f.length]
def cr (dec : Nat -> List UInt8) : Nat -> List (List Nat) -> List (Int × List UInt8)
 | _,[]=>[]
 | k,l::r=>(l.map fun i=>((k : Int),dec i))++cr dec (k + 1) r
def fnD (x : Int × List UInt8) : List D:=[.int .i64 x.1,.str x.2]
def cG (m : Msh) : Bool:=decide (m.s.length <= 2000) && decide (m.f.length <= 4000)
def au (m : Msh) : Bool:=cG m && (LL m).all fun l=>decide (l=[])
theorem nk (dec : Nat -> List UInt8) : ∀ (k : Nat) (ls : List (List Nat)),cr dec k ls=[] ↔ (ls.all fun l=>decide (l=[]))=true
 | _,[]=>by simp [cr]
 | k,l::r=>by simp [cr,nk dec (k + 1) r]
def jE (m : Msh) : Nat -> List D
 | 0=>[]
 | i + 1=>if aX (spt m i) then .agg (ptD (gA m i))::jE m i else jE m i
def lC (m : Msh) : Nat -> List D
 | 0=>[]
 | i + 1=>if aX (spt m i) then .bool true::lC m i else lC m i
theorem qW (m : Msh) : ∀ i,(jE m i).length <= i
 | 0=>by simp [jE]
 | i + 1=>by
  have:=qW m i
  rw [jE]
  split <;> simp <;> omega
theorem CB (p q : Pnt) : eqD (.agg (ptD p)) (.agg (ptD q))=decide (q=p):=by
 obtain ⟨a,b⟩:=p
 obtain ⟨c,d⟩:=q
 simp [eqD,pf,pe,ptD]
 rw [x0v]
 simp
 exact ⟨fun h=>⟨h.1.symm,h.2.symm⟩,fun h=>⟨h.1.symm,h.2.symm⟩⟩
theorem sA (m : Msh) (p : Pnt) : ∀ i,(dq (jE m i) (lC m i) (.agg (ptD p))).getD (.bool false)=.bool ((List.range i).any fun k=>aX (spt m k) && decide (gA m k=p))
 | 0=>rfl
 | i + 1=>by
  rw [jE,lC,x03,List.any_append]
  by_cases h : aX (spt m i)=true
  ·rw [if_pos h,if_pos h,dq,CB]
   by_cases h2 : gA m i=p
   ·simp [h,h2]
   ·simp [h2,sA m p i]
  ·rw [if_neg h,if_neg h,sA m p i]
   simp [h]
def eT (m : Msh) (i : Nat) : List Bool:=(List.range m.s.length).map fun j=>decide (j < i) && cW m j
theorem j8 (m : Msh) (i : Nat) : (eT m i).length=m.s.length:=by simp [eT]
theorem ub (m : Msh) : eT m 0=List.replicate m.s.length false:=by
 refine x0G (by simp [eT]) fun k h1 h2=>?_
 simp [eT]
theorem v7 (m : Msh) {i : Nat} (h : i < m.s.length) : (eT m i).set i (cW m i)=eT m (i + 1):=by
 refine x0G (by simp [eT]) fun k h1 h2=>?_
 rw [x1i]
 simp only [eT,x1g,x1I]
 by_cases e : i=k
 ·subst e;simp
 ·rw [if_neg e]
  by_cases e2 : k < i
  ·simp [e2,show k < i + 1 by omega]
  ·simp [e2,show ¬ k < i + 1 by omega]
theorem vZ (m : Msh) {k : Nat} (h : k < m.s.length) : (eT m m.s.length)[k]'(by rw [j8];exact h)=cW m k:=by simp [eT,h]
variable {C : CC} (hC : aD prog C)
include hC
theorem wx {b : Bool} {xs : List Tri} {g : Nat} {cs : List D} (p : Tri -> Bool) (hs : xs.length < 2 ^ 62) (hp : ∀ x ∈ xs,C g (.agg (cj x)::cs) (.bool (p x)) []) : C 328 [slx b (xs.map cj),.fn g cs] (.int .i64 (iP p xs)) []:=by
 refine aq hC (nf:=N328) rfl rfl ?_
 simp [N328]
 refine av Nat (fun i=>[(0,slx b (xs.map cj)),(1,.fn g cs),(7,.int .i64 xs.length),(8,.int .i64 i)]) (fun i=>i <= xs.length /\ ∀ (j : Nat) (h : j < xs.length),j < i -> p xs[j]=false) (fun i=>xs.length - i) 0 (by simp) (by simp) ?_
 rintro i ⟨hi,hj⟩
 simp
 refine aj (fun h=>?_) (fun h=>?_) <;> simp [h] <;> simp at h
 ·have hw : IntKind.wrap .i64 ((i : Int) + 1)=((i + 1 : Nat) : Int):=af (by omega) (by omega)
  have hc:=hp _ (x0u h)
  simp [h,x1g,cj] at hc ⊢
  refine aa hc (.inl rfl) ?_
  simp
  refine aj (fun h1=>?_) (fun h1=>?_) <;> simp [h1,hw]
  ·rw [ez hj h h1]
  ·refine ⟨i + 1,⟨by omega,fun j hl hjj=>?_⟩,by omega,by simp [cj]⟩
   rcases x0J.1 hjj with h2 | rfl
   ·exact hj j hl h2
   ·exact h1
 ·rw [gK (fun j hl=>hj j hl (by omega))]
theorem cX {b : Bool} {xs : List Tri} {g : Nat} {cs : List D} (p : Tri -> Bool) (hs : xs.length < 2 ^ 62) (hp : ∀ x ∈ xs,C g (.agg (cj x)::cs) (.bool (p x)) []) : C 309 [slx b (xs.map cj),.fn g cs] (.bool (xs.any p)) []:=by
 refine aq hC (nf:=N309) rfl rfl ?_
 simp [N309]
 refine aa (wx hC p hs hp) (.inl rfl) ?_
 simp [m8]
theorem Ct (m : Msh) (k : Int) (hn : m.s.length < 2 ^ 40) : C 306 [.int .i64 k,.ptr (a6 m),.ptr [.sl ((eT m m.s.length).map fun b=>[.bool b])]] (.bool (!(eX m.s.length k && aX (spt m k.toNat)))) []:=by
 have E : eX m.s.length k=(decide (0 <= k) && decide (k < m.s.length)):=rfl
 refine aq hC (nf:=N306) rfl rfl ?_
 simp [N306,a6]
 refine aj (fun c1=>?_) (fun c1=>?_) <;> simp at c1
 ·simp [c1]
  rw [E,decide_eq_false (by omega)];simp
 ·simp [x1B.2 c1]
  refine aj (fun c2=>?_) (fun c2=>?_) <;> simp at c2
  ·simp [c2]
   rw [E,decide_eq_false (show ¬ k < m.s.length by omega)];simp
  ·have c3 : k.toNat < m.s.length:=by omega
   have c4:=vZ m c3
   simp [x05.2 c2,c1,c3,j8]
   rw [c4,E,decide_eq_true c1,decide_eq_true c2]
   simp [cW]
theorem eS {t o : Tri} (ht : okT t=true) (ho : okT o=true) : C 310 [.agg (cj o),.ptr (cj t)] (.bool (ovT t o)) []:=by
 have k1:=BU hC ht ho
 have k2:=BU hC ho ht
 refine aq hC (nf:=N310) rfl rfl ?_
 rw [cj,cj] at k1 k2 ⊢
 simp [N310]
 refine aa k1 (.inl rfl) ?_
 simp
 cases h1 : rr t o <;> simp [ovT,h1]
 refine aa k2 (.inl rfl) ?_
 simp
 exact fun _=>h1
end Go.Gv
