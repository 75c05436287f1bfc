/-
  Texts of the proof: GvR, GvEsh, GvN, ItSH, GvU, GvW, GvX, GvX2, GvX3, GvX4, GvX5, K1, K3, H1, H2, H3, H4.
-/
import Derived.Test.YtelkdhkalifeiaaDoorX5
import Derived.SizedLaws
import Derived.ProofKit
import Derived.Test.YtelkdhkalifeiaaDoorX6
import Derived.Test.YtelkdhkalifeiaaDoorProg
import Derived.KernelRfl
import Derived.Shelf.Small.Bits
import Derived.Shelf.Small.Wraps
import Derived.Shelf.Strconv.Itoa0
import Derived.Shelf.Strconv.Itoa1
import Derived.Shelf.LaysM
import Derived.Shelf.Strconv.Itoa2
import Derived.Shelf.Strconv.Itoa3
import Derived.Shelf.Bits.Mul64
import Derived.Shelf.Slices.Turned
import Derived.Shelf.Slices.Equal
import Derived.Ground.Names2Prog
import Derived.Shelf.Slices.Clone
import Derived.Shelf.Slices.SearchI
import Derived.Shelf.Slices.Empties2
import Derived.Ground.SlgnProg
import Derived.Shelf.SlicesE.Clone
import Derived.Ground.SlsfProg
import Derived.Shelf.SlSortCmp.Insertion
import Derived.Shelf.SlSortCmp.SiftDown1
import Derived.Shelf.SlSortCmp.HeapSort1
import Derived.Shelf.SlSortCmp.Insertion1
import Derived.Shelf.SlSortCmp.Median1
import Derived.Shelf.SlSortCmp.Pivot1
import Derived.Shelf.SlSortCmp.ReverseRange1
import Derived.Shelf.SlSortCmp.PartialInsertion1
import Derived.Shelf.SlSortCmp.PartitionEqual1
import Derived.Shelf.SlSortCmp.Partition1
import Derived.Shelf.SlSortCmp.Pdq1
import Derived.Shelf.SlSortCmp.Whole1
import Derived.Shelf.SlSortCmp.NoneTotal
set_option linter.all false
namespace Go.Gv
open Go.RowKit Go.ChangeShapes Go.WideShapes Go.ChangeAt
inductive Sh where
 | int (k : IntKind)
 | bool
 | str
 | sl (row : List Sh)
mutual
def gy : Sh -> D -> Prop
 | .int k,d=>∃ n,d=.int k n /\ (Lit.int k n).wf=true
 | .bool,d=>∃ b,d=.bool b
 | .str,d=>∃ s,d=.str s /\ s.length < 140737488355328
 | .sl row,d=>∃ es,(d=.sl es \/ (d=.nils /\ es=[])) /\ es.length < 140737488355328 /\ ∀ e ∈ es,bW row e
def bW : List Sh -> List D -> Prop
 | [],ds=>ds=[]
 | s::ss,ds=>∃ d r,ds=d::r /\ gy s d /\ bW ss r
end
theorem bW.length : ∀ {ss : List Sh} {ds : List D},bW ss ds -> ds.length=ss.length
 | [],ds,h=>by simp only [bW] at h;simp [h]
 | s::ss,ds,h=>by
  simp only [bW] at h
  obtain ⟨d,r,rfl,_,h2⟩:=h
  simp [bW.length h2]
theorem bW.append : ∀ {ss ts : List Sh} {ds es : List D},bW ss ds -> bW ts es -> bW (ss++ts) (ds++es)
 | [],ts,ds,es,h,h'=>by simp only [bW] at h;subst h;exact h'
 | s::ss,ts,ds,es,h,h'=>by
  simp only [bW] at h
  obtain ⟨d,r,rfl,h1,h2⟩:=h
  exact ⟨d,r++es,rfl,h1,bW.append h2 h'⟩
def nx (P : Program) (rec : TypeId -> Option (List Sh)) : List Field -> Nat -> Option (List Sh)
 | [],_=>some []
 | f::fs,off=>if f.offset=off then (match rec f.type with
   | some l=>if l.length=P.cellsOf f.type then (match nx P rec fs (off + l.length) with
    | some r=>some (l++r)
    | none=>none) else none
   | none=>none) else none
def pc (P : Program) : Nat -> TypeId -> Option (List Sh)
 | 0,_=>none
 | n + 1,t=>match P.underlying t with
  | some .bool=>some [.bool]
  | some (.int k)=>some [.int k]
  | some .string=>some [.str]
  | some (.slice e)=>(match pc P n e with
   | some l=>if l.length=P.cellsOf e /\ 1 <= P.bytesOf e then some [.sl l] else none
   | none=>none)
  | some (.struct fs)=>(match nx P (pc P n) fs.toList 0 with
   | some l=>if l.length=P.cellsOf t then some l else none
   | none=>none)
  | _=>none
section
variable {H : Type} {enc : TypeId × Value -> H} {P : Program} {F : Fid} {w : World} {sp : Nat -> Bool}
abbrev mA (w : World) : Mem:=fun p=>w.cell? p
def sD (enc : TypeId × Value -> H) (P : Program) (F : Fid) (w : World) (sp : Nat -> Bool) (n : Nat) (t : TypeId) (shs : List Sh) : Prop :=
 ∀ (cs : List Value) (d : DataW H) (ps : List MemPlace),DataW.trod enc P w 0 sp true n t cs=some (d,ps) -> (d.weights P t).all (· <= reachBytes)=true -> ∃ ds,bW shs ds /\ ap F (mA w) ds cs
theorem gS {α β : Type} {f : α -> Option β} {x : α} {l : List α} {ys : List β} (h : (x::l).mapM f=some ys) : ∃ y r,f x=some y /\ l.mapM f=some r /\ ys=y::r:=by
 rw [List.mapM_cons] at h
 cases hx : f x with
 | none=>rw [hx] at h;cases h
 | some y =>
  cases hl : l.mapM f with
  | none=>rw [hx,hl] at h;cases h
  | some r =>
   rw [hx,hl] at h
   exact ⟨y,r,rfl,rfl,by cases h;rfl⟩
theorem lT {n m : Nat} (ih : ∀ t shs,pc P m t=some shs -> sD enc P F w sp n t shs) {cs : List Value} : ∀ (fs : List Field) (off : Nat) (xs : List (DataW H × List MemPlace)) (shs : List Sh),
  (fs.mapM fun f=>DataW.trod enc P w 0 sp true n f.type ((cs.drop f.offset).take (P.cellsOf f.type)))=some xs -> nx P (pc P m) fs off=some shs -> (DataW.weightsEach P (fs.map (·.type)) (xs.map (·.1))).all (· <= reachBytes)=true -> cs.length=off + shs.length ->
   ∃ ds,bW shs ds /\ ap F (mA w) ds (cs.drop off)
 | [],off,xs,shs,_,h2,_,h4=>by
  cases h2
  exact ⟨[],rfl,by simp only [ap];exact List.drop_of_length_le (by simpa using Nat.le_of_eq h4)⟩
 | f::fs,off,xs,shs,h1,h2,h3,h4=>by
  obtain ⟨y,r,e1,e2,rfl⟩:=gS h1
  simp only [nx] at h2
  split at h2
  case isFalse=>cases h2
  rename_i ho
  split at h2
  case h_2=>cases h2
  rename_i l hl
  split at h2
  case isFalse=>cases h2
  rename_i hlen
  split at h2
  case h_2=>cases h2
  rename_i rs hr
  cases h2
  simp only [List.map_cons,DataW.weightsEach,List.all_append,Bool.and_eq_true] at h3
  rw [List.length_append] at h4
  obtain ⟨ds1,g1,g2⟩:=ih f.type l hl _ y.1 y.2 e1 h3.1
  obtain ⟨ds2,g3,g4⟩:=lT ih fs (off + l.length) r rs e2 hr h3.2 (by omega)
  refine ⟨ds1++ds2,g1.append g3,?_⟩
  rw [ho,<- hlen] at g2
  have:=g2.append g4
  rwa [<- List.drop_drop,List.take_append_drop] at this
theorem lU {n k : Nat} {e : TypeId} {l : List Sh} {a : Addr} (hl : l.length=k) (ih : sD enc P F w sp n e l) : ∀ (c s : Nat) (xs : List (DataW H × List MemPlace)),
  ((List.range' s c).mapM fun i=>(w.cells? 0 (a.add (i * k)) k).bind (DataW.trod enc P w 0 sp true n e))=some xs -> (DataW.weightsAll P e (xs.map (·.1))).all (· <= reachBytes)=true ->
   ∃ (es : List (List D)) (vs : List Value),es.length=c /\ xs.length=c /\ (∀ r ∈ es,bW l r) /\ aY F (mA w) es vs /\ ∀ j v,vs[j]? = some v -> w.cell? (a.add (s * k + j))=some v
 | 0,s,xs,h,_=>by
  cases h
  exact ⟨[],[],rfl,rfl,by simp,by simp [aY],fun j v h=>by simp at h⟩
 | c + 1,s,xs,h,hw=>by
  rw [List.range'_succ] at h
  obtain ⟨y,r,e1,e2,rfl⟩:=gS h
  rw [Option.bind_eq_some_iff] at e1
  obtain ⟨row,c1,c2⟩:=e1
  simp only [List.map_cons,DataW.weightsAll,List.all_append,Bool.and_eq_true] at hw
  obtain ⟨ds,g1,g2⟩:=ih row y.1 y.2 c2 hw.1
  obtain ⟨es,vs,h1,h2,h3,h4,h5⟩:=lU hl ih c (s + 1) r e2 hw.2
  have hrow:=World.cells?_some c1
  refine ⟨ds::es,row++vs,by simp [h1],by simp [h2],?_,⟨row,vs,rfl,g2,h4⟩,fun j v hj=>?_⟩
  ·intro x hx
   rcases List.mem_cons.1 hx with rfl | hx
   ·exact g1
   ·exact h3 x hx
  ·have hrl : row.length=k:=by rw [g2.length,g1.length,hl]
   have addadd : ∀ i j,(a.add i).add j=a.add (i + j):=fun i j=>by
    unfold Addr.add
    by_cases hi : i=0 <;> by_cases hj : j=0 <;> simp [hi,hj,Nat.add_assoc]
   by_cases hjk : j < k
   ·rw [List.getElem?_append_left (by omega)] at hj
    have:=hrow.2.2 j hjk
    rw [hj,addadd] at this
    exact this
   ·rw [List.getElem?_append_right (by omega)] at hj
    have:=h5 (j - row.length) v hj
    rw [hrl] at this
    rwa [show (s + 1) * k + (j - k)=s * k + j by rw [Nat.succ_mul];omega] at this
theorem n7 : ∀ (m : Nat) (n : Nat) (t : TypeId) (shs : List Sh),pc P m t=some shs -> sD enc P F w sp n t shs
 | 0,_,_,_,h=>by cases h
 | m + 1,0,t,shs,_=>fun cs d ps h _=>by simp [DataW.trod] at h
 | m + 1,n + 1,t,shs,h=>by
  intro cs d ps ht hw
  rw [pc] at h
  split at h
  ·rename_i hu
   cases h
   unfold DataW.trod at ht;rw [hu] at ht
   split at ht <;> try (simp_all;done)
   rename_i b _
   refine ⟨[.bool b],⟨_,_,rfl,⟨b,rfl⟩,rfl⟩,by simp [ap,ab]⟩
  ·rename_i k hu
   cases h
   unfold DataW.trod at ht;rw [hu] at ht
   split at ht <;> try (simp_all;done)
   rename_i k1 k2 x h1
   simp only [Option.some.injEq,TypeDesc.int.injEq] at h1
   subst h1
   split at ht
   ·rename_i hk
    obtain ⟨rfl,hwf⟩:=hk
    exact ⟨[.int _ x],⟨_,_,rfl,⟨x,rfl,hwf⟩,rfl⟩,by simp [ap,ab]⟩
   ·cases ht
  ·rename_i hu
   cases h
   unfold DataW.trod at ht;rw [hu] at ht
   split at ht <;> try (simp_all;done)
   rename_i s _
   split at ht
   ·rename_i hs
    simp only [Option.some.injEq,Prod.mk.injEq] at ht
    obtain ⟨rfl,rfl⟩:=ht
    simp only [DataW.weights,List.all_cons,List.all_nil,Bool.and_true,decide_eq_true_eq] at hw
    refine ⟨[.str s.data.toList],⟨_,_,rfl,⟨_,rfl,?_⟩,rfl⟩,?_⟩
    ·have:=reachBytes_lt;omega
    ·obtain ⟨s⟩:=s
     simp [ap,ab]
   ·cases ht
  ·rename_i e hu
   split at h
   case h_2=>cases h
   rename_i l hl
   split at h
   case isFalse=>cases h
   rename_i hk
   cases h
   unfold DataW.trod at ht;rw [hu] at ht
   split at ht <;> try (simp_all;done)
   ·refine ⟨[.nils],⟨_,_,rfl,⟨[],.inr ⟨rfl,rfl⟩,by simp,by simp⟩,rfl⟩,by simp [ap,ab]⟩
   ·rename_i e' a len cap h1
    simp only [Option.some.injEq,TypeDesc.slice.injEq] at h1
    subst h1
    simp only at ht
    split at ht
    case isFalse=>cases ht
    rename_i hb
    rw [Option.bind_eq_some_iff] at ht
    obtain ⟨xs,e1,e2⟩:=ht
    rw [Option.map_eq_some_iff] at e2
    obtain ⟨rest,e3,e4⟩:=e2
    simp only [Prod.mk.injEq] at e4
    obtain ⟨rfl,rfl⟩:=e4
    simp only [DataW.weights,hu,List.all_cons,List.all_append,Bool.and_eq_true,decide_eq_true_eq] at hw
    obtain ⟨w1,w2,w3⟩:=hw
    rw [List.range_eq_range'] at e1
    obtain ⟨es,vs,g1,g2,g3,g4,g5⟩:=lU (F:=F) hk.1 (n7 m n e l hl) len 0 xs e1 w2
    refine ⟨[.sl es],⟨_,_,rfl,⟨es,.inl rfl,?_,g3⟩,rfl⟩,?_⟩
    ·have h5:=reachBytes_lt
     have h6 : es.length * 1 <= (xs.length + rest.length) * P.bytesOf e:=Nat.mul_le_mul (by omega) hk.2
     simp only [List.length_map] at w1
     omega
    ·simp only [ap]
     refine ⟨_,_,rfl,?_,rfl⟩
     simp only [ab]
     refine ⟨some a,cap,vs,P.cellsOf e,by rw [g1],by omega,g4,fun r hr=>by rw [(g3 r hr).length,hk.1],fun _=>⟨a,rfl,fun j v hj=>?_⟩⟩
     have:=g5 j v hj
     simpa using this
  ·rename_i fs hu
   split at h
   case h_2=>cases h
   rename_i l hl
   split at h
   case isFalse=>cases h
   rename_i hk
   cases h
   unfold DataW.trod at ht;rw [hu] at ht
   split at ht <;> try (simp_all;done)
   rename_i fs' h1
   simp only [Option.some.injEq,TypeDesc.struct.injEq] at h1
   subst h1
   split at ht
   case isFalse=>cases ht
   rename_i hc
   rw [Option.map_eq_some_iff] at ht
   obtain ⟨xs,e1,e2⟩:=ht
   simp only [Prod.mk.injEq] at e2
   obtain ⟨rfl,rfl⟩:=e2
   simp only [DataW.weights,hu] at hw
   obtain ⟨ds,g1,g2⟩:=lT (F:=F) (n:=n) (fun t shs h=>n7 m n t shs h) fs.toList 0 xs _ e1 hl hw (by omega)
   exact ⟨ds,g1,by simpa using g2⟩
  ·cases h
theorem ph {t : TypeId} {fs : Array Field} {m : Nat} {shs : List Sh} {base : Nat} {v : Value} {d : DataW H} {ps : List MemPlace} (hu : P.underlying t=some (.struct fs)) (hsh : pc P m t=some shs) (hv : Value.okWide P w .any base t v) (h : DataW.Trod enc P w 0 sp true t v d ps) (hw : (d.weights P t).all (· <= reachBytes)=true) :
  ∃ ds,bW shs ds /\ ab F (mA w) (.agg ds) v:=by
 obtain ⟨cs,rfl,_⟩:=okWide_struct hu hv
 obtain ⟨n,hn⟩:=h
 obtain ⟨ds,g1,g2⟩:=n7 (F:=F) m n t shs hsh _ d ps hn hw
 exact ⟨ds,g1,by simp only [ab];exact ⟨cs.toList,by simp,g2⟩⟩
theorem nj {t : TypeId} {k : IntKind} {base : Nat} {v : Value} {d : DataW H} {ps : List MemPlace} (hu : P.underlying t=some (.int k)) (hv : Value.okWide P w .any base t v) (h : DataW.Trod enc P w 0 sp true t v d ps) :
  ∃ n,(Lit.int k n).wf=true /\ ab F (mA w) (.int k n) v:=by
 obtain ⟨n,rfl,_,_,hw⟩:=open_int hu hv h
 exact ⟨n,hw,rfl⟩
end
theorem lZ {α : Type} {f : α -> List D} {es : List (List D)} (h : ∀ e ∈ es,∃ x,e=f x) : ∃ xs : List α,es=xs.map f:=by
 induction es with
 | nil=>exact ⟨[],rfl⟩
 | cons e es ih =>
  obtain ⟨x,rfl⟩:=h e (by simp)
  obtain ⟨xs,rfl⟩:=ih (fun e he=>h e (by simp [he]))
  exact ⟨x::xs,rfl⟩
end Go.Gv
namespace Go.Gv
def yN (P : Program) (F : Fid) (prog : Nat -> Option a8) (tbl : List (Nat × Nat)) : Bool:=tbl.all fun p=>jf P p.2 && match prog p.1 with
 | some nf=>di P F p.2 nf
 | none=>true
theorem rO {tbl : List (Nat × Nat)} {g f : Nat} (h : tbl.lookup g=some f) : (g,f) ∈ tbl:=by
 induction tbl with
 | nil=>cases h
 | cons p r ih =>
  obtain ⟨a,b⟩:=p
  rw [List.lookup_cons] at h
  cases e : g == a with
  | true=>rw [e] at h;simp at e h;subst e;subst h;simp
  | false=>rw [e] at h;simp [ih h]
theorem seat {P : Program} {tbl : List (Nat × Nat)} {ty : Nat -> TypeId} {prog : Nat -> Option a8} (hm : P.follows .mixedOrders=true) (hl : laidOutB P=true) (h : yN P ⟨P,fun g=>tbl.lookup g,ty,fun _=>.nilIface⟩ prog tbl=true) :
  bj P ⟨P,fun g=>tbl.lookup g,ty,fun _=>.nilIface⟩ (eD P ⟨P,fun g=>tbl.lookup g,ty,fun _=>.nilIface⟩) /\ az prog (eD P ⟨P,fun g=>tbl.lookup g,ty,fun _=>.nilIface⟩):=by
 have key : ∀ g f,tbl.lookup g=some f -> jf P f=true /\ ∀ nf,prog g=some nf -> di P ⟨P,fun g=>tbl.lookup g,ty,fun _=>.nilIface⟩ f nf=true:=fun g f e=>by
  have:=List.all_eq_true.1 h _ (rO e)
  simp only [Bool.and_eq_true] at this
  refine ⟨this.1,fun nf hnf=>?_⟩
  have:=this.2
  rw [hnf] at this
  exact this
 exact o7 hm (fun g f e=>(key g f e).1) hl rfl (fun g f nf e hp=>(key g f e).2 nf hp)
end Go.Gv

namespace Go.Gv
open Go.Proofs
def TrydTbl : List (Nat × Nat) := [(0, 2), (841, 7), (241, 8), (242, 9), (243, 10), (244, 11), (245, 12), (19, 15), (234, 17), (221, 18), (220, 19), (248, 20), (223, 21), (279, 23), (845, 29), (280, 30), (273, 37), (261, 38), (253, 39), (262, 40), (11, 41), (303, 44), (314, 45), (374, 53), (847, 54), (329, 55), (331, 56), (332, 57), (42, 58), (315, 59), (316, 60), (317, 61), (318, 62), (302, 72), (304, 73), (305, 74), (306, 75), (307, 76), (308, 77), (298, 78), (309, 79), (310, 80), (311, 81), (127, 82), (35, 83), (313, 86), (330, 87), (333, 98), (334, 99), (335, 100), (328, 106), (91, 108), (339, 126), (340, 167), (341, 168), (342, 169), (343, 170)]
def TrydTys : List (Nat × Nat) := [(1, 4), (2, 3), (20, 103), (3, 131), (4, 114)]
set_option maxRecDepth 100000 in
theorem Tryd_all : yN Tryd.prog ⟨Tryd.prog, fun g => TrydTbl.lookup g, fun t => (TrydTys.lookup t).getD 0, fun _ => .nilIface⟩ prog TrydTbl = true := by kernel_rfl
end Go.Gv

namespace Go.Gv
open Go.RowKit
theorem qf {P : Program} {F : Fid} {g : Nat} {ds : List D} {d : D} (h : ∀ f,F g=some f -> ∀ (M : Mem) (w : World) (vs : List Value),ap F M ds vs -> ∃ v,ab F M d v /\ Calls P f vs.toArray w (fun e w'=>e=.returned v /\ w'=w)) : eD P F g ds d []:=by
 refine ⟨trivial,fun f hf M w vs hh r=>?_⟩
 obtain ⟨v,hv,hc⟩:=h f hf M w vs r
 refine hc.mono ?_
 rintro e w' ⟨rfl,rfl⟩
 exact ⟨v,M,rfl,Bel.refl _,Mem.le_refl _,fun p h1 h2=>absurd h1 h2,hh,hv⟩
end Go.Gv

namespace Go.Proofs
open Go.Shelf
def Tryd.sortL_ren : Go.Shelf.Ren := ⟨fun | 6 => 53 | 15 => 97 | 14 => 96 | 28 => 124 | 29 => 125 | 20 => 116 | 21 => 117 | 22 => 118 | 23 => 119 | 24 => 120 | 25 => 121 | 26 => 122 | 27 => 123 | 46 => 132 | 47 => 133 | 48 => 134 | 49 => 135 | 50 => 136 | 57 => 144 | n => n, fun | 22 => 28 | 24 => 3 | 25 => 71 | 3 => 3 | 39 => 153 | 0 => 0 | 53 => 182 | 55 => 143 | 4 => 4 | 46 => 176 | 45 => 175 | 50 => 137 | 5 => 5 | 9 => 9 | 66 => 190 | 70 => 194 | 76 => 203 | 77 => 120 | n => n, fun | n => n⟩
theorem Tryd.sortL : Go.Proofs.SlLaysF.n6 Tryd.prog Tryd.sortL_ren := {
 mixed := by kernel_rfl
 f6 := ⟨Tryd.f53.name, by decide, Tryd.func53.trans (congrArg some (by kernel_rfl))⟩
 f14 := ⟨Tryd.f96.name, by decide, Tryd.func96.trans (congrArg some (by kernel_rfl))⟩
 f15 := Tryd.func97.trans (congrArg some (by kernel_rfl))
 f20 := ⟨Tryd.f116.name, by decide, Tryd.func116.trans (congrArg some (by kernel_rfl))⟩
 f21 := ⟨Tryd.f117.name, by decide, Tryd.func117.trans (congrArg some (by kernel_rfl))⟩
 f22 := ⟨Tryd.f118.name, by decide, Tryd.func118.trans (congrArg some (by kernel_rfl))⟩
 f23 := ⟨Tryd.f119.name, by decide, Tryd.func119.trans (congrArg some (by kernel_rfl))⟩
 f24 := ⟨Tryd.f120.name, by decide, Tryd.func120.trans (congrArg some (by kernel_rfl))⟩
 f25 := ⟨Tryd.f121.name, by decide, Tryd.func121.trans (congrArg some (by kernel_rfl))⟩
 f26 := ⟨Tryd.f122.name, by decide, Tryd.func122.trans (congrArg some (by kernel_rfl))⟩
 f27 := ⟨Tryd.f123.name, by decide, Tryd.func123.trans (congrArg some (by kernel_rfl))⟩
 f28 := Tryd.func124.trans (congrArg some (by kernel_rfl))
 f29 := Tryd.func125.trans (congrArg some (by kernel_rfl))
 f46 := ⟨Tryd.f132.name, by decide, Tryd.func132.trans (congrArg some (by kernel_rfl))⟩
 f47 := Tryd.func133.trans (congrArg some (by kernel_rfl))
 f48 := Tryd.func134.trans (congrArg some (by kernel_rfl))
 f49 := ⟨Tryd.f135.name, by decide, Tryd.func135.trans (congrArg some (by kernel_rfl))⟩
 f50 := ⟨Tryd.f136.name, by decide, Tryd.func136.trans (congrArg some (by kernel_rfl))⟩
 f57 := ⟨Tryd.f144.name, by decide, Tryd.func144.trans (congrArg some (by kernel_rfl))⟩
 t0 := Tryd.underlying0
 a0 := Tryd.isAgg0
 z0 := Tryd.sizeOf0
 v0 := Tryd.zeroValue0
 t3 := Tryd.underlying3
 a3 := Tryd.isAgg3
 z3 := Tryd.sizeOf3
 v3 := Tryd.zeroValue3
 t4 := Tryd.underlying4
 a4 := Tryd.isAgg4
 z4 := Tryd.sizeOf4
 v4 := Tryd.zeroValue4
 t5 := Tryd.underlying5
 a5 := Tryd.isAgg5
 z5 := Tryd.sizeOf5
 v5 := Tryd.zeroValue5
 t9 := Tryd.underlying9
 a9 := Tryd.isAgg9
 z9 := Tryd.sizeOf9
 v9 := Tryd.zeroValue9
 t22 := Tryd.underlying28
 a22 := Tryd.isAgg28
 z22 := Tryd.sizeOf28
 v22 := Tryd.zeroValue28
 a24 := Tryd.isAgg3
 z24 := Tryd.sizeOf3
 t25 := Tryd.underlying71
 a25 := Tryd.isAgg71
 z25 := Tryd.sizeOf71
 v25 := Tryd.zeroValue71
 t39 := Tryd.underlying153
 a39 := Tryd.isAgg153
 z39 := Tryd.sizeOf153
 v39 := Tryd.zeroValue153
 t45 := Tryd.underlying175
 a45 := Tryd.isAgg175
 z45 := Tryd.sizeOf175
 v45 := Tryd.zeroValue175
 t46 := Tryd.underlying176
 a46 := Tryd.isAgg176
 z46 := Tryd.sizeOf176
 v46 := Tryd.zeroValue176
 t50 := Tryd.underlying137
 a50 := Tryd.isAgg137
 z50 := Tryd.sizeOf137
 v50 := Tryd.zeroValue137
 t53 := Tryd.underlying182
 a53 := Tryd.isAgg182
 z53 := Tryd.sizeOf182
 v53 := Tryd.zeroValue182
 t55 := Tryd.underlying143
 a55 := Tryd.isAgg143
 z55 := Tryd.sizeOf143
 v55 := Tryd.zeroValue143
 t66 := Tryd.underlying190
 a66 := Tryd.isAgg190
 z66 := Tryd.sizeOf190
 v66 := Tryd.zeroValue190
 t70 := Tryd.underlying194
 a70 := Tryd.isAgg194
 z70 := Tryd.sizeOf194
 v70 := Tryd.zeroValue194
 t76 := Tryd.underlying203
 a76 := Tryd.isAgg203
 z76 := Tryd.sizeOf203
 v76 := Tryd.zeroValue203
 t77 := Tryd.underlying120
 a77 := Tryd.isAgg120
 z77 := Tryd.sizeOf120
 v77 := Tryd.zeroValue120 }
def Tryd.lays171_ren : Go.Shelf.Ren := ⟨fun | 171 => 82 | 243 => 107 | 246 => 127 | 283 => 137 | 284 => 138 | 285 => 139 | 286 => 140 | 129 => 125 | 317 => 145 | 318 => 146 | 319 => 147 | 320 => 148 | 337 => 149 | 338 => 150 | n => n, fun | 3 => 3 | 9 => 9 | 2 => 2 | 4 => 4 | 171 => 196 | 0 => 0 | 53 => 143 | 37 => 162 | 5 => 5 | 173 => 198 | 212 => 206 | 51 => 182 | 20 => 20 | 213 => 207 | 46 => 153 | 232 => 208 | 233 => 209 | n => n, fun | 17 => 2 | 18 => 3 | 19 => 4 | n => n⟩
theorem Tryd.lays171 : Go.Proofs.Lays.n171 Tryd.prog Tryd.lays171_ren := {
 mixed := by kernel_rfl
 f129 := Tryd.func125.trans (congrArg some (by kernel_rfl))
 f171 := Tryd.func82.trans (congrArg some (by kernel_rfl))
 f243 := Tryd.func107.trans (congrArg some (by kernel_rfl))
 f246 := Tryd.func127.trans (congrArg some (by kernel_rfl))
 f283 := Tryd.func137.trans (congrArg some (by kernel_rfl))
 f284 := Tryd.func138.trans (congrArg some (by kernel_rfl))
 f285 := Tryd.func139.trans (congrArg some (by kernel_rfl))
 f286 := Tryd.func140.trans (congrArg some (by kernel_rfl))
 f317 := Tryd.func145.trans (congrArg some (by kernel_rfl))
 f318 := Tryd.func146.trans (congrArg some (by kernel_rfl))
 f319 := Tryd.func147.trans (congrArg some (by kernel_rfl))
 f320 := Tryd.func148.trans (congrArg some (by kernel_rfl))
 f337 := Tryd.func149.trans (congrArg some (by kernel_rfl))
 f338 := Tryd.func150.trans (congrArg some (by kernel_rfl))
 t0 := Tryd.underlying0
 a0 := Tryd.isAgg0
 z0 := Tryd.sizeOf0
 v0 := Tryd.zeroValue0
 t2 := Tryd.underlying2
 a2 := Tryd.isAgg2
 z2 := Tryd.sizeOf2
 v2 := Tryd.zeroValue2
 t3 := Tryd.underlying3
 a3 := Tryd.isAgg3
 z3 := Tryd.sizeOf3
 v3 := Tryd.zeroValue3
 t4 := Tryd.underlying4
 a4 := Tryd.isAgg4
 z4 := Tryd.sizeOf4
 v4 := Tryd.zeroValue4
 t5 := Tryd.underlying5
 a5 := Tryd.isAgg5
 z5 := Tryd.sizeOf5
 v5 := Tryd.zeroValue5
 t9 := Tryd.underlying9
 a9 := Tryd.isAgg9
 z9 := Tryd.sizeOf9
 v9 := Tryd.zeroValue9
 t20 := Tryd.underlying20
 a20 := Tryd.isAgg20
 z20 := Tryd.sizeOf20
 v20 := Tryd.zeroValue20
 t37 := Tryd.underlying162
 a37 := Tryd.isAgg162
 z37 := Tryd.sizeOf162
 v37 := Tryd.zeroValue162
 t46 := Tryd.underlying153
 a46 := Tryd.isAgg153
 z46 := Tryd.sizeOf153
 v46 := Tryd.zeroValue153
 t51 := Tryd.underlying182
 a51 := Tryd.isAgg182
 z51 := Tryd.sizeOf182
 v51 := Tryd.zeroValue182
 t53 := Tryd.underlying143
 a53 := Tryd.isAgg143
 z53 := Tryd.sizeOf143
 v53 := Tryd.zeroValue143
 t171 := Tryd.underlying196
 a171 := Tryd.isAgg196
 z171 := Tryd.sizeOf196
 v171 := Tryd.zeroValue196
 t173 := Tryd.underlying198
 a173 := Tryd.isAgg198
 z173 := Tryd.sizeOf198
 v173 := Tryd.zeroValue198
 t212 := Tryd.underlying206
 a212 := Tryd.isAgg206
 z212 := Tryd.sizeOf206
 v212 := Tryd.zeroValue206
 t213 := Tryd.underlying207
 a213 := Tryd.isAgg207
 z213 := Tryd.sizeOf207
 t232 := Tryd.underlying208
 a232 := Tryd.isAgg208
 z232 := Tryd.sizeOf208
 v232 := Tryd.zeroValue208
 t233 := Tryd.underlying209
 a233 := Tryd.isAgg209
 z233 := Tryd.sizeOf209
 v233 := Tryd.zeroValue209
 g17 := by kernel_rfl
 g18 := by kernel_rfl
 g19 := by kernel_rfl }
open Go.RowKit Go.Sort Go.Lib in
theorem Tryd.strconv_Itoa_small (i : Nat) (hi : i < 100) (w : World) :
  Calls Tryd.prog 82 #[.int .i64 i] w fun e w' => e = .returned (.string ⟨(Lib.decDigits i).toArray⟩) /\ w' = w := Any.strconv_Itoa_small Tryd.lays171 i hi w
end Go.Proofs

namespace Go.Gv
structure Tag {α : Type _} (x : α) : Type where
@[simp] theorem NS : isV (.any)=true:=_root_.id rfl
@[simp] theorem NY {k n} : isV (.int k n)=true:=_root_.id rfl
@[simp] theorem Ip {b} : isV (.bool b)=true:=_root_.id rfl
@[simp] theorem N7 {s} : isV (.str s)=true:=_root_.id rfl
@[simp] theorem Iq : isV (.nilp)=true:=_root_.id rfl
@[simp] theorem Ir : isV (.nils)=true:=_root_.id rfl
@[simp] theorem NQ {ds} : isV (.agg ds)=true:=_root_.id rfl
@[simp] theorem N9 {ds} : isV (.tup ds)=true:=_root_.id rfl
@[simp] theorem QF {es} : isV (.sl es)=true:=_root_.id rfl
@[simp] theorem N1 {ds} : isV (.ptr ds)=true:=_root_.id rfl
@[simp] theorem QD {g ds} : isV (.fn g ds)=true:=_root_.id rfl
@[simp] theorem N0 {sz es} : isV (.own sz es)=false:=_root_.id rfl
@[simp] theorem NT {sz es} : isV (.blk sz es)=false:=_root_.id rfl
@[simp] theorem QE {kt et ks vs} : isV (.mp kt et ks vs)=false:=_root_.id rfl
@[simp] theorem NZ {b} : isV (.mrf b)=false:=_root_.id rfl
@[simp] theorem N3 {p k n} : isV (.ref p k n)=false:=_root_.id rfl
@[simp] theorem NP {p i off} : isV (.adr p i off)=false:=_root_.id rfl
@[simp] theorem NR {ds} : isV (.agx ds)=false:=_root_.id rfl
@[simp] theorem N8 {ds} : isV (.tpx ds)=false:=_root_.id rfl
@[simp] theorem N2 {ds} : isV (.ptx ds)=false:=_root_.id rfl
@[simp] theorem N4 {n sz ds} : isV (.rfx n sz ds)=false:=_root_.id rfl
@[simp] theorem NU {g ds} : isV (.fnx g ds)=false:=_root_.id rfl
@[simp] theorem NW {T p i off} : isV (.ifa T p i off)=false:=_root_.id rfl
@[simp] theorem NX {T n} : isV (.ifi T n)=true:=_root_.id rfl
@[simp] theorem N5 {k es} : isV (.slv k es)=true:=_root_.id rfl
@[simp] theorem NV {g ds cs} : isV (.fny g ds cs)=false:=_root_.id rfl
@[simp] theorem Mo : isK (.any)=false:=_root_.id rfl
@[simp] theorem Mv {k n} : isK (.int k n)=true:=_root_.id rfl
@[simp] theorem Id {b} : isK (.bool b)=true:=_root_.id rfl
@[simp] theorem ME {s} : isK (.str s)=true:=_root_.id rfl
@[simp] theorem Ie : isK (.nilp)=true:=_root_.id rfl
@[simp] theorem If : isK (.nils)=true:=_root_.id rfl
@[simp] theorem Mm {ds} : isK (.agg ds)=true:=_root_.id rfl
@[simp] theorem MG {ds} : isK (.tup ds)=true:=_root_.id rfl
@[simp] theorem Qp {es} : isK (.sl es)=true:=_root_.id rfl
@[simp] theorem My {ds} : isK (.ptr ds)=true:=_root_.id rfl
@[simp] theorem Qn {g ds} : isK (.fn g ds)=true:=_root_.id rfl
@[simp] theorem Mx {sz es} : isK (.own sz es)=false:=_root_.id rfl
@[simp] theorem Mq {sz es} : isK (.blk sz es)=false:=_root_.id rfl
@[simp] theorem Qo {kt et ks vs} : isK (.mp kt et ks vs)=false:=_root_.id rfl
@[simp] theorem Mw {b} : isK (.mrf b)=false:=_root_.id rfl
@[simp] theorem MA {p k n} : isK (.ref p k n)=false:=_root_.id rfl
@[simp] theorem Ml {p i off} : isK (.adr p i off)=false:=_root_.id rfl
@[simp] theorem Mn {ds} : isK (.agx ds)=false:=_root_.id rfl
@[simp] theorem MF {ds} : isK (.tpx ds)=false:=_root_.id rfl
@[simp] theorem Mz {ds} : isK (.ptx ds)=false:=_root_.id rfl
@[simp] theorem MB {n sz ds} : isK (.rfx n sz ds)=false:=_root_.id rfl
@[simp] theorem Mr {g ds} : isK (.fnx g ds)=false:=_root_.id rfl
@[simp] theorem Mt {T p i off} : isK (.ifa T p i off)=false:=_root_.id rfl
@[simp] theorem Mu {T n} : isK (.ifi T n)=true:=_root_.id rfl
@[simp] theorem MC {k es} : isK (.slv k es)=true:=_root_.id rfl
@[simp] theorem Ms {g ds cs} : isK (.fny g ds cs)=false:=_root_.id rfl
@[simp] theorem Na : isP (.any)=true:=_root_.id rfl
@[simp] theorem Nh {k n} : isP (.int k n)=true:=_root_.id rfl
@[simp] theorem Ij {b} : isP (.bool b)=true:=_root_.id rfl
@[simp] theorem Nr {s} : isP (.str s)=true:=_root_.id rfl
@[simp] theorem Ik : isP (.nilp)=true:=_root_.id rfl
@[simp] theorem Il : isP (.nils)=true:=_root_.id rfl
@[simp] theorem M8 {ds} : isP (.agg ds)=true:=_root_.id rfl
@[simp] theorem Nt {ds} : isP (.tup ds)=true:=_root_.id rfl
@[simp] theorem Qx {es} : isP (.sl es)=true:=_root_.id rfl
@[simp] theorem Nk {ds} : isP (.ptr ds)=true:=_root_.id rfl
@[simp] theorem Qv {g ds} : isP (.fn g ds)=true:=_root_.id rfl
@[simp] theorem Nj {sz es} : isP (.own sz es)=false:=_root_.id rfl
@[simp] theorem Nb {sz es} : isP (.blk sz es)=false:=_root_.id rfl
@[simp] theorem Qw {kt et ks vs} : isP (.mp kt et ks vs)=false:=_root_.id rfl
@[simp] theorem Ni {b} : isP (.mrf b)=true:=_root_.id rfl
@[simp] theorem Nm {p k n} : isP (.ref p k n)=true:=_root_.id rfl
@[simp] theorem M7 {p i off} : isP (.adr p i off)=true:=_root_.id rfl
@[simp] theorem M9 {ds} : isP (.agx ds)=false:=_root_.id rfl
@[simp] theorem Ns {ds} : isP (.tpx ds)=false:=_root_.id rfl
@[simp] theorem Nl {ds} : isP (.ptx ds)=false:=_root_.id rfl
@[simp] theorem Nn {n sz ds} : isP (.rfx n sz ds)=false:=_root_.id rfl
@[simp] theorem Nc {g ds} : isP (.fnx g ds)=false:=_root_.id rfl
@[simp] theorem Nf {T p i off} : isP (.ifa T p i off)=true:=_root_.id rfl
@[simp] theorem Ng {T n} : isP (.ifi T n)=true:=_root_.id rfl
@[simp] theorem Np {k es} : isP (.slv k es)=true:=_root_.id rfl
@[simp] theorem Nd {g ds cs} : isP (.fny g ds cs)=false:=_root_.id rfl
@[simp] theorem Nx : isS (.any)=true:=_root_.id rfl
@[simp] theorem QC : isV (.bb)=true:=_root_.id rfl
@[simp] theorem Qy : isS (.bb)=true:=_root_.id rfl
@[simp] theorem Qu : isP (.bb)=true:=_root_.id rfl
@[simp] theorem Qg : isB (.bb)=false:=_root_.id rfl
@[simp] theorem GV : b8 (.bb)=false:=_root_.id rfl
@[simp] theorem Ek : bf (.bb)=[]:=_root_.id rfl
@[simp] theorem As : aA (.bb)=[]:=_root_.id rfl
@[simp] theorem ND {k n} : isS (.int k n)=true:=_root_.id rfl
@[simp] theorem Im {b} : isS (.bool b)=true:=_root_.id rfl
@[simp] theorem NM {s} : isS (.str s)=true:=_root_.id rfl
@[simp] theorem In : isS (.nilp)=true:=_root_.id rfl
@[simp] theorem Io : isS (.nils)=true:=_root_.id rfl
@[simp] theorem Nv {ds} : isS (.agg ds)=true:=_root_.id rfl
@[simp] theorem NO {ds} : isS (.tup ds)=true:=_root_.id rfl
@[simp] theorem QB {es} : isS (.sl es)=true:=_root_.id rfl
@[simp] theorem NG {ds} : isS (.ptr ds)=true:=_root_.id rfl
@[simp] theorem Qz {g ds} : isS (.fn g ds)=true:=_root_.id rfl
@[simp] theorem NF {sz es} : isS (.own sz es)=false:=_root_.id rfl
@[simp] theorem Ny {sz es} : isS (.blk sz es)=false:=_root_.id rfl
@[simp] theorem QA {kt et ks vs} : isS (.mp kt et ks vs)=false:=_root_.id rfl
@[simp] theorem NE {b} : isS (.mrf b)=true:=_root_.id rfl
@[simp] theorem NI {p k n} : isS (.ref p k n)=true:=_root_.id rfl
@[simp] theorem Nu {p i off} : isS (.adr p i off)=true:=_root_.id rfl
@[simp] theorem Nw {ds} : isS (.agx ds)=ds.all isP:=_root_.id rfl
@[simp] theorem NN {ds} : isS (.tpx ds)=ds.all isP:=_root_.id rfl
@[simp] theorem NH {ds} : isS (.ptx ds)=ds.all isP:=_root_.id rfl
@[simp] theorem NJ {n sz ds} : isS (.rfx n sz ds)=ds.all isP:=_root_.id rfl
@[simp] theorem Nz {g ds} : isS (.fnx g ds)=ds.all isP:=_root_.id rfl
@[simp] theorem NB {T p i off} : isS (.ifa T p i off)=true:=_root_.id rfl
@[simp] theorem NC {T n} : isS (.ifi T n)=true:=_root_.id rfl
@[simp] theorem NK {k es} : isS (.slv k es)=true:=_root_.id rfl
@[simp] theorem NA {g ds cs} : isS (.fny g ds cs)=(ds.all isP && cs.all isP):=_root_.id rfl
@[simp] theorem G5 : ar (.any)=false:=_root_.id rfl
@[simp] theorem Hb {k n} : ar (.int k n)=true:=_root_.id rfl
@[simp] theorem Dz {b} : ar (.bool b)=true:=_root_.id rfl
@[simp] theorem Hk {s} : ar (.str s)=true:=_root_.id rfl
@[simp] theorem DA : ar (.nilp)=true:=_root_.id rfl
@[simp] theorem DB : ar (.nils)=true:=_root_.id rfl
@[simp] theorem G3 {ds} : ar (.agg ds)=false:=_root_.id rfl
@[simp] theorem Hm {ds} : ar (.tup ds)=false:=_root_.id rfl
@[simp] theorem LN {es} : ar (.sl es)=true:=_root_.id rfl
@[simp] theorem He {ds} : ar (.ptr ds)=true:=_root_.id rfl
@[simp] theorem LK {g ds} : ar (.fn g ds)=true:=_root_.id rfl
@[simp] theorem Hd {sz es} : ar (.own sz es)=false:=_root_.id rfl
@[simp] theorem G6 {sz es} : ar (.blk sz es)=false:=_root_.id rfl
@[simp] theorem LM {kt et ks vs} : ar (.mp kt et ks vs)=false:=_root_.id rfl
@[simp] theorem Hc {b} : ar (.mrf b)=false:=_root_.id rfl
@[simp] theorem Hg {p k n} : ar (.ref p k n)=false:=_root_.id rfl
@[simp] theorem G2 {p i off} : ar (.adr p i off)=false:=_root_.id rfl
@[simp] theorem G4 {ds} : ar (.agx ds)=false:=_root_.id rfl
@[simp] theorem Hl {ds} : ar (.tpx ds)=false:=_root_.id rfl
@[simp] theorem Hf {ds} : ar (.ptx ds)=false:=_root_.id rfl
@[simp] theorem Hh {n sz ds} : ar (.rfx n sz ds)=false:=_root_.id rfl
@[simp] theorem G7 {g ds} : ar (.fnx g ds)=false:=_root_.id rfl
@[simp] theorem G9 {T p i off} : ar (.ifa T p i off)=false:=_root_.id rfl
@[simp] theorem Ha {T n} : ar (.ifi T n)=false:=_root_.id rfl
@[simp] theorem Hi {k es} : ar (.slv k es)=false:=_root_.id rfl
@[simp] theorem G8 {g ds cs} : ar (.fny g ds cs)=false:=_root_.id rfl
@[simp] theorem MK : isO (.any)=false:=_root_.id rfl
@[simp] theorem MQ {k n} : isO (.int k n)=false:=_root_.id rfl
@[simp] theorem Ig {b} : isO (.bool b)=false:=_root_.id rfl
@[simp] theorem MZ {s} : isO (.str s)=false:=_root_.id rfl
@[simp] theorem Ih : isO (.nilp)=false:=_root_.id rfl
@[simp] theorem Ii : isO (.nils)=false:=_root_.id rfl
@[simp] theorem MI {ds} : isO (.agg ds)=false:=_root_.id rfl
@[simp] theorem M6 {ds} : isO (.tup ds)=false:=_root_.id rfl
@[simp] theorem Qt {es} : isO (.sl es)=false:=_root_.id rfl
@[simp] theorem MT {ds} : isO (.ptr ds)=false:=_root_.id rfl
@[simp] theorem Qr {g ds} : isO (.fn g ds)=false:=_root_.id rfl
@[simp] theorem MS {sz es} : isO (.own sz es)=true:=_root_.id rfl
@[simp] theorem ML {sz es} : isO (.blk sz es)=false:=_root_.id rfl
@[simp] theorem Qs {kt et ks vs} : isO (.mp kt et ks vs)=false:=_root_.id rfl
@[simp] theorem MR {b} : isO (.mrf b)=false:=_root_.id rfl
@[simp] theorem MV {p k n} : isO (.ref p k n)=false:=_root_.id rfl
@[simp] theorem MH {p i off} : isO (.adr p i off)=false:=_root_.id rfl
@[simp] theorem MJ {ds} : isO (.agx ds)=false:=_root_.id rfl
@[simp] theorem M5 {ds} : isO (.tpx ds)=false:=_root_.id rfl
@[simp] theorem MU {ds} : isO (.ptx ds)=false:=_root_.id rfl
@[simp] theorem MW {n sz ds} : isO (.rfx n sz ds)=false:=_root_.id rfl
@[simp] theorem MM {g ds} : isO (.fnx g ds)=false:=_root_.id rfl
@[simp] theorem MO {T p i off} : isO (.ifa T p i off)=false:=_root_.id rfl
@[simp] theorem MP {T n} : isO (.ifi T n)=false:=_root_.id rfl
@[simp] theorem MX {k es} : isO (.slv k es)=false:=_root_.id rfl
@[simp] theorem MN {g ds cs} : isO (.fny g ds cs)=false:=_root_.id rfl
@[simp] theorem Hq : aP (.any)=true:=_root_.id rfl
@[simp] theorem Hw {k n} : aP (.int k n)=true:=_root_.id rfl
@[simp] theorem DC {b} : aP (.bool b)=true:=_root_.id rfl
@[simp] theorem HE {s} : aP (.str s)=true:=_root_.id rfl
@[simp] theorem DD : aP (.nilp)=true:=_root_.id rfl
@[simp] theorem DE : aP (.nils)=true:=_root_.id rfl
@[simp] theorem Ho {ds} : aP (.agg ds)=false:=_root_.id rfl
@[simp] theorem HG {ds} : aP (.tup ds)=false:=_root_.id rfl
@[simp] theorem LQ {es} : aP (.sl es)=false:=_root_.id rfl
@[simp] theorem Hz {ds} : aP (.ptr ds)=false:=_root_.id rfl
@[simp] theorem LO {g ds} : aP (.fn g ds)=false:=_root_.id rfl
@[simp] theorem Hy {sz es} : aP (.own sz es)=false:=_root_.id rfl
@[simp] theorem Hr {sz es} : aP (.blk sz es)=false:=_root_.id rfl
@[simp] theorem LP {kt et ks vs} : aP (.mp kt et ks vs)=false:=_root_.id rfl
@[simp] theorem Hx {b} : aP (.mrf b)=false:=_root_.id rfl
@[simp] theorem HB {p k n} : aP (.ref p k n)=false:=_root_.id rfl
@[simp] theorem Hn {p i off} : aP (.adr p i off)=false:=_root_.id rfl
@[simp] theorem Hp {ds} : aP (.agx ds)=false:=_root_.id rfl
@[simp] theorem HF {ds} : aP (.tpx ds)=false:=_root_.id rfl
@[simp] theorem HA {ds} : aP (.ptx ds)=false:=_root_.id rfl
@[simp] theorem HC {n sz ds} : aP (.rfx n sz ds)=false:=_root_.id rfl
@[simp] theorem Hs {g ds} : aP (.fnx g ds)=false:=_root_.id rfl
@[simp] theorem Hu {T p i off} : aP (.ifa T p i off)=false:=_root_.id rfl
@[simp] theorem Hv {T n} : aP (.ifi T n)=true:=_root_.id rfl
@[simp] theorem HD {k es} : aP (.slv k es)=false:=_root_.id rfl
@[simp] theorem Ht {g ds cs} : aP (.fny g ds cs)=false:=_root_.id rfl
@[simp] theorem HK : cZ (.any)=true:=_root_.id rfl
@[simp] theorem HQ {k n} : cZ (.int k n)=true:=_root_.id rfl
@[simp] theorem DF {b} : cZ (.bool b)=true:=_root_.id rfl
@[simp] theorem HY {s} : cZ (.str s)=true:=_root_.id rfl
@[simp] theorem DG : cZ (.nilp)=true:=_root_.id rfl
@[simp] theorem DH : cZ (.nils)=true:=_root_.id rfl
@[simp] theorem HI {ds} : cZ (.agg ds)=ds.all aP:=_root_.id rfl
@[simp] theorem H0 {ds} : cZ (.tup ds)=false:=_root_.id rfl
@[simp] theorem LT {es} : cZ (.sl es)=false:=_root_.id rfl
@[simp] theorem HT {ds} : cZ (.ptr ds)=false:=_root_.id rfl
@[simp] theorem LR {g ds} : cZ (.fn g ds)=false:=_root_.id rfl
@[simp] theorem HS {sz es} : cZ (.own sz es)=false:=_root_.id rfl
@[simp] theorem HL {sz es} : cZ (.blk sz es)=false:=_root_.id rfl
@[simp] theorem LS {kt et ks vs} : cZ (.mp kt et ks vs)=false:=_root_.id rfl
@[simp] theorem HR {b} : cZ (.mrf b)=false:=_root_.id rfl
@[simp] theorem HV {p k n} : cZ (.ref p k n)=false:=_root_.id rfl
@[simp] theorem HH {p i off} : cZ (.adr p i off)=false:=_root_.id rfl
@[simp] theorem HJ {ds} : cZ (.agx ds)=false:=_root_.id rfl
@[simp] theorem HZ {ds} : cZ (.tpx ds)=false:=_root_.id rfl
@[simp] theorem HU {ds} : cZ (.ptx ds)=false:=_root_.id rfl
@[simp] theorem HW {n sz ds} : cZ (.rfx n sz ds)=false:=_root_.id rfl
@[simp] theorem HM {g ds} : cZ (.fnx g ds)=false:=_root_.id rfl
@[simp] theorem HO {T p i off} : cZ (.ifa T p i off)=false:=_root_.id rfl
@[simp] theorem HP {T n} : cZ (.ifi T n)=true:=_root_.id rfl
@[simp] theorem HX {k es} : cZ (.slv k es)=false:=_root_.id rfl
@[simp] theorem HN {g ds cs} : cZ (.fny g ds cs)=false:=_root_.id rfl
@[simp] theorem LX : isF (.any)=true:=_root_.id rfl
@[simp] theorem L9 {k n} : isF (.int k n)=true:=_root_.id rfl
@[simp] theorem Ia {b} : isF (.bool b)=true:=_root_.id rfl
@[simp] theorem Mh {s} : isF (.str s)=true:=_root_.id rfl
@[simp] theorem Ib : isF (.nilp)=true:=_root_.id rfl
@[simp] theorem Ic : isF (.nils)=true:=_root_.id rfl
@[simp] theorem LV {ds} : isF (.agg ds)=ds.all aP:=_root_.id rfl
@[simp] theorem Mk {ds} : isF (.tup ds)=ds.all cZ:=_root_.id rfl
@[simp] theorem Qm {es} : isF (.sl es)=false:=_root_.id rfl
@[simp] theorem Mc {ds} : isF (.ptr ds)=false:=_root_.id rfl
@[simp] theorem Qk {g ds} : isF (.fn g ds)=false:=_root_.id rfl
@[simp] theorem Mb {sz es} : isF (.own sz es)=false:=_root_.id rfl
@[simp] theorem LY {sz es} : isF (.blk sz es)=false:=_root_.id rfl
@[simp] theorem Ql {kt et ks vs} : isF (.mp kt et ks vs)=false:=_root_.id rfl
@[simp] theorem Ma {b} : isF (.mrf b)=false:=_root_.id rfl
@[simp] theorem Me {p k n} : isF (.ref p k n)=false:=_root_.id rfl
@[simp] theorem LU {p i off} : isF (.adr p i off)=false:=_root_.id rfl
@[simp] theorem LW {ds} : isF (.agx ds)=false:=_root_.id rfl
@[simp] theorem Mi {ds} : isF (.tpx ds)=false:=_root_.id rfl
@[simp] theorem Md {ds} : isF (.ptx ds)=false:=_root_.id rfl
@[simp] theorem Mf {n sz ds} : isF (.rfx n sz ds)=false:=_root_.id rfl
@[simp] theorem LZ {g ds} : isF (.fnx g ds)=false:=_root_.id rfl
@[simp] theorem L7 {T p i off} : isF (.ifa T p i off)=false:=_root_.id rfl
@[simp] theorem L8 {T n} : isF (.ifi T n)=true:=_root_.id rfl
@[simp] theorem Mg {k es} : isF (.slv k es)=false:=_root_.id rfl
@[simp] theorem L0 {g ds cs} : isF (.fny g ds cs)=false:=_root_.id rfl
@[simp] theorem Lr : isB (.any)=false:=_root_.id rfl
@[simp] theorem Lx {k n} : isB (.int k n)=false:=_root_.id rfl
@[simp] theorem GZ {b} : isB (.bool b)=false:=_root_.id rfl
@[simp] theorem LH {s} : isB (.str s)=false:=_root_.id rfl
@[simp] theorem G0 : isB (.nilp)=false:=_root_.id rfl
@[simp] theorem G1 : isB (.nils)=false:=_root_.id rfl
@[simp] theorem Lp {ds} : isB (.agg ds)=false:=_root_.id rfl
@[simp] theorem LJ {ds} : isB (.tup ds)=false:=_root_.id rfl
@[simp] theorem Qj {es} : isB (.sl es)=false:=_root_.id rfl
@[simp] theorem LB {ds} : isB (.ptr ds)=false:=_root_.id rfl
@[simp] theorem Qh {g ds} : isB (.fn g ds)=false:=_root_.id rfl
@[simp] theorem LA {sz es} : isB (.own sz es)=false:=_root_.id rfl
@[simp] theorem Ls {sz es} : isB (.blk sz es)=true:=_root_.id rfl
@[simp] theorem Qi {kt et ks vs} : isB (.mp kt et ks vs)=true:=_root_.id rfl
@[simp] theorem Lz {b} : isB (.mrf b)=false:=_root_.id rfl
@[simp] theorem LD {p k n} : isB (.ref p k n)=false:=_root_.id rfl
@[simp] theorem Lo {p i off} : isB (.adr p i off)=false:=_root_.id rfl
@[simp] theorem Lq {ds} : isB (.agx ds)=false:=_root_.id rfl
@[simp] theorem LI {ds} : isB (.tpx ds)=false:=_root_.id rfl
@[simp] theorem LC {ds} : isB (.ptx ds)=false:=_root_.id rfl
@[simp] theorem LE {n sz ds} : isB (.rfx n sz ds)=false:=_root_.id rfl
@[simp] theorem Lt {g ds} : isB (.fnx g ds)=false:=_root_.id rfl
@[simp] theorem Lv {T p i off} : isB (.ifa T p i off)=false:=_root_.id rfl
@[simp] theorem Lw {T n} : isB (.ifi T n)=false:=_root_.id rfl
@[simp] theorem LF {k es} : isB (.slv k es)=false:=_root_.id rfl
@[simp] theorem Lu {g ds cs} : isB (.fny g ds cs)=false:=_root_.id rfl
@[simp] theorem Dg : b8 (.any)=true:=_root_.id rfl
@[simp] theorem Dm {k n} : b8 (.int k n)=false:=_root_.id rfl
@[simp] theorem z7 {b} : b8 (.bool b)=false:=_root_.id rfl
@[simp] theorem Dw {s} : b8 (.str s)=false:=_root_.id rfl
@[simp] theorem z8 : b8 (.nilp)=false:=_root_.id rfl
@[simp] theorem Aa : b8 (.nils)=false:=_root_.id rfl
@[simp] theorem De {ds} : b8 (.agg ds)=false:=_root_.id rfl
@[simp] theorem Dy {ds} : b8 (.tup ds)=false:=_root_.id rfl
@[simp] theorem GY {es} : b8 (.sl es)=false:=_root_.id rfl
@[simp] theorem Dp {ds} : b8 (.ptr ds)=false:=_root_.id rfl
@[simp] theorem GW {g ds} : b8 (.fn g ds)=false:=_root_.id rfl
@[simp] theorem Do {sz es} : b8 (.own sz es)=false:=_root_.id rfl
@[simp] theorem Dh {sz es} : b8 (.blk sz es)=false:=_root_.id rfl
@[simp] theorem GX {kt et ks vs} : b8 (.mp kt et ks vs)=false:=_root_.id rfl
@[simp] theorem Dn {b} : b8 (.mrf b)=false:=_root_.id rfl
@[simp] theorem Dr {p k n} : b8 (.ref p k n)=false:=_root_.id rfl
@[simp] theorem Dd {p i off} : b8 (.adr p i off)=false:=_root_.id rfl
@[simp] theorem Df {ds} : b8 (.agx ds)=false:=_root_.id rfl
@[simp] theorem Dx {ds} : b8 (.tpx ds)=false:=_root_.id rfl
@[simp] theorem Dq {ds} : b8 (.ptx ds)=false:=_root_.id rfl
@[simp] theorem Ds {n sz ds} : b8 (.rfx n sz ds)=false:=_root_.id rfl
@[simp] theorem Di {g ds} : b8 (.fnx g ds)=false:=_root_.id rfl
@[simp] theorem Dk {T p i off} : b8 (.ifa T p i off)=false:=_root_.id rfl
@[simp] theorem Dl {T n} : b8 (.ifi T n)=false:=_root_.id rfl
@[simp] theorem Dt {k es} : b8 (.slv k es)=false:=_root_.id rfl
@[simp] theorem Dj {g ds cs} : b8 (.fny g ds cs)=false:=_root_.id rfl
@[simp] theorem xC : cellsOf (.any)=[.any]:=_root_.id rfl
@[simp] theorem xI {k n} : cellsOf (.int k n)=[.int k n]:=_root_.id rfl
@[simp] theorem vp {b} : cellsOf (.bool b)=[.bool b]:=_root_.id rfl
@[simp] theorem xR {s} : cellsOf (.str s)=[.str s]:=_root_.id rfl
@[simp] theorem vq : cellsOf (.nilp)=[.nilp]:=_root_.id rfl
@[simp] theorem vr : cellsOf (.nils)=[.nils]:=_root_.id rfl
@[simp] theorem xA {ds} : cellsOf (.agg ds)=ds:=_root_.id rfl
@[simp] theorem xU {ds} : cellsOf (.tup ds)=[.tup ds]:=_root_.id rfl
@[simp] theorem zh {es} : cellsOf (.sl es)=[.sl es]:=_root_.id rfl
@[simp] theorem xL {ds} : cellsOf (.ptr ds)=[.ptr ds]:=_root_.id rfl
@[simp] theorem za {g ds} : cellsOf (.fn g ds)=[.fn g ds]:=_root_.id rfl
@[simp] theorem xK {sz es} : cellsOf (.own sz es)=[.own sz es]:=_root_.id rfl
@[simp] theorem xD {sz es} : cellsOf (.blk sz es)=[.blk sz es]:=_root_.id rfl
@[simp] theorem ze {kt et ks vs} : cellsOf (.mp kt et ks vs)=[.mp kt et ks vs]:=_root_.id rfl
@[simp] theorem xJ {b} : cellsOf (.mrf b)=[.mrf b]:=_root_.id rfl
@[simp] theorem xN {p k n} : cellsOf (.ref p k n)=[.ref p k n]:=_root_.id rfl
@[simp] theorem xz {p i off} : cellsOf (.adr p i off)=[.adr p i off]:=_root_.id rfl
@[simp] theorem xB {ds} : cellsOf (.agx ds)=[.agx ds]:=_root_.id rfl
@[simp] theorem xS {ds} : cellsOf (.tpx ds)=[.tpx ds]:=_root_.id rfl
@[simp] theorem xM {ds} : cellsOf (.ptx ds)=[.ptx ds]:=_root_.id rfl
@[simp] theorem xO {n sz ds} : cellsOf (.rfx n sz ds)=[.rfx n sz ds]:=_root_.id rfl
@[simp] theorem xE {g ds} : cellsOf (.fnx g ds)=[.fnx g ds]:=_root_.id rfl
@[simp] theorem xG {T p i off} : cellsOf (.ifa T p i off)=[.ifa T p i off]:=_root_.id rfl
@[simp] theorem xH {T n} : cellsOf (.ifi T n)=[.ifi T n]:=_root_.id rfl
@[simp] theorem xP {k es} : cellsOf (.slv k es)=[.slv k es]:=_root_.id rfl
@[simp] theorem xF {g ds cs} : cellsOf (.fny g ds cs)=[.fny g ds cs]:=_root_.id rfl
@[simp] theorem BJ : bK (.any)=.any:=_root_.id rfl
@[simp] theorem BQ {k n} : bK (.int k n)=.int k n:=_root_.id rfl
@[simp] theorem yX {b} : bK (.bool b)=.bool b:=_root_.id rfl
@[simp] theorem BZ {s} : bK (.str s)=.str s:=_root_.id rfl
@[simp] theorem yY : bK (.nilp)=.nilp:=_root_.id rfl
@[simp] theorem yZ : bK (.nils)=.nils:=_root_.id rfl
@[simp] theorem BH {ds} : bK (.agg ds)=.agg ds:=_root_.id rfl
@[simp] theorem B2 {ds} : bK (.tup ds)=.tup ds:=_root_.id rfl
@[simp] theorem Fd {es} : bK (.sl es)=.sl es:=_root_.id rfl
@[simp] theorem BT {ds} : bK (.ptr ds)=.ptr ds:=_root_.id rfl
@[simp] theorem Fb {g ds} : bK (.fn g ds)=.fn g ds:=_root_.id rfl
@[simp] theorem BS {sz es} : bK (.own sz es)=.own sz es:=_root_.id rfl
@[simp] theorem BL {sz es} : bK (.blk sz es)=.blk sz es:=_root_.id rfl
@[simp] theorem Fc {kt et ks vs} : bK (.mp kt et ks vs)=.mp kt et ks vs:=_root_.id rfl
@[simp] theorem BR {b} : bK (.mrf b)=.mrf b:=_root_.id rfl
@[simp] theorem BV {p k n} : bK (.ref p k n)=.ref p k n:=_root_.id rfl
@[simp] theorem BG {p i off} : bK (.adr p i off)=.adr p i off:=_root_.id rfl
@[simp] theorem BI {ds} : bK (.agx ds)=.agg ds:=_root_.id rfl
@[simp] theorem B1 {ds} : bK (.tpx ds)=.tpx ds:=_root_.id rfl
@[simp] theorem BU {ds} : bK (.ptx ds)=.ptx ds:=_root_.id rfl
@[simp] theorem BW {n sz ds} : bK (.rfx n sz ds)=.rfx n sz ds:=_root_.id rfl
@[simp] theorem BM {g ds} : bK (.fnx g ds)=.fnx g ds:=_root_.id rfl
@[simp] theorem BO {T p i off} : bK (.ifa T p i off)=.ifa T p i off:=_root_.id rfl
@[simp] theorem BP {T n} : bK (.ifi T n)=.ifi T n:=_root_.id rfl
@[simp] theorem BX {k es} : bK (.slv k es)=.slv k es:=_root_.id rfl
@[simp] theorem BN {g ds cs} : bK (.fny g ds cs)=.fny g ds cs:=_root_.id rfl
@[simp] theorem Ci : aT (.any)=.any:=_root_.id rfl
@[simp] theorem Cp {k n} : aT (.int k n)=.int k n:=_root_.id rfl
@[simp] theorem y7 {b} : aT (.bool b)=.bool b:=_root_.id rfl
@[simp] theorem Cy {s} : aT (.str s)=.str s:=_root_.id rfl
@[simp] theorem y8 : aT (.nilp)=.nilp:=_root_.id rfl
@[simp] theorem y9 : aT (.nils)=.nils:=_root_.id rfl
@[simp] theorem Cf {ds} : aT (.agg ds)=.agg ds:=_root_.id rfl
@[simp] theorem CA {ds} : aT (.tup ds)=.tup ds:=_root_.id rfl
@[simp] theorem FF {es} : aT (.sl es)=.sl es:=_root_.id rfl
@[simp] theorem Cs {ds} : aT (.ptr ds)=.ptr ds:=_root_.id rfl
@[simp] theorem FD {g ds} : aT (.fn g ds)=.fn g ds:=_root_.id rfl
@[simp] theorem Cr {sz es} : aT (.own sz es)=.sl es:=_root_.id rfl
@[simp] theorem Cj {sz es} : aT (.blk sz es)=.blk sz es:=_root_.id rfl
@[simp] theorem FE {kt et ks vs} : aT (.mp kt et ks vs)=.mp kt et ks vs:=_root_.id rfl
@[simp] theorem Cq {b} : aT (.mrf b)=.mrf b:=_root_.id rfl
@[simp] theorem Cu {p k n} : aT (.ref p k n)=.ref p k n:=_root_.id rfl
@[simp] theorem Ce {p i off} : aT (.adr p i off)=.adr p i off:=_root_.id rfl
@[simp] theorem Cg {ds} : aT (.agx ds)=.agx ds:=_root_.id rfl
@[simp] theorem Cz {ds} : aT (.tpx ds)=.tpx ds:=_root_.id rfl
@[simp] theorem Ct {ds} : aT (.ptx ds)=.ptx ds:=_root_.id rfl
@[simp] theorem Cv {n sz ds} : aT (.rfx n sz ds)=.rfx n sz ds:=_root_.id rfl
@[simp] theorem Ck {g ds} : aT (.fnx g ds)=.fnx g ds:=_root_.id rfl
@[simp] theorem Cm {T p i off} : aT (.ifa T p i off)=.ifa T p i off:=_root_.id rfl
@[simp] theorem Co {T n} : aT (.ifi T n)=.ifi T n:=_root_.id rfl
@[simp] theorem Cw {k es} : aT (.slv k es)=.slv k es:=_root_.id rfl
@[simp] theorem Cl {g ds cs} : aT (.fny g ds cs)=.fny g ds cs:=_root_.id rfl
@[simp] theorem yj : aA (.any)=[]:=_root_.id rfl
@[simp] theorem yp {k n} : aA (.int k n)=[]:=_root_.id rfl
@[simp] theorem wd {b} : aA (.bool b)=[]:=_root_.id rfl
@[simp] theorem yz {s} : aA (.str s)=[]:=_root_.id rfl
@[simp] theorem we : aA (.nilp)=[]:=_root_.id rfl
@[simp] theorem wg : aA (.nils)=[]:=_root_.id rfl
@[simp] theorem yh {ds} : aA (.agg ds)=[]:=_root_.id rfl
@[simp] theorem yB {ds} : aA (.tup ds)=[]:=_root_.id rfl
@[simp] theorem Av {es} : aA (.sl es)=[]:=_root_.id rfl
@[simp] theorem yt {ds} : aA (.ptr ds)=[]:=_root_.id rfl
@[simp] theorem At {g ds} : aA (.fn g ds)=[]:=_root_.id rfl
@[simp] theorem yr {sz es} : aA (.own sz es)=[]:=_root_.id rfl
@[simp] theorem yk {sz es} : aA (.blk sz es)=[]:=_root_.id rfl
@[simp] theorem Au {kt et ks vs} : aA (.mp kt et ks vs)=[]:=_root_.id rfl
@[simp] theorem yq {b} : aA (.mrf b)=[b]:=_root_.id rfl
@[simp] theorem yv {p k n} : aA (.ref p k n)=[p.root]:=_root_.id rfl
@[simp] theorem yg {p i off} : aA (.adr p i off)=[p.root]:=_root_.id rfl
@[simp] theorem yi {ds} : aA (.agx ds)=[]:=_root_.id rfl
@[simp] theorem yA {ds} : aA (.tpx ds)=[]:=_root_.id rfl
@[simp] theorem yu {ds} : aA (.ptx ds)=[]:=_root_.id rfl
@[simp] theorem yw {n sz ds} : aA (.rfx n sz ds)=[]:=_root_.id rfl
@[simp] theorem yl {g ds} : aA (.fnx g ds)=[]:=_root_.id rfl
@[simp] theorem yn {T p i off} : aA (.ifa T p i off)=[p.root]:=_root_.id rfl
@[simp] theorem yo {T n} : aA (.ifi T n)=[]:=_root_.id rfl
@[simp] theorem yx {k es} : aA (.slv k es)=[]:=_root_.id rfl
@[simp] theorem ym {g ds cs} : aA (.fny g ds cs)=[]:=_root_.id rfl
@[simp] theorem Az : bf (.any)=[]:=_root_.id rfl
@[simp] theorem AF {k n} : bf (.int k n)=[]:=_root_.id rfl
@[simp] theorem yC {b} : bf (.bool b)=[]:=_root_.id rfl
@[simp] theorem AP {s} : bf (.str s)=[]:=_root_.id rfl
@[simp] theorem yD : bf (.nilp)=[]:=_root_.id rfl
@[simp] theorem yE : bf (.nils)=[]:=_root_.id rfl
@[simp] theorem Ax {ds} : bf (.agg ds)=[]:=_root_.id rfl
@[simp] theorem AR {ds} : bf (.tup ds)=[]:=_root_.id rfl
@[simp] theorem En {es} : bf (.sl es)=[]:=_root_.id rfl
@[simp] theorem AJ {ds} : bf (.ptr ds)=[]:=_root_.id rfl
@[simp] theorem El {g ds} : bf (.fn g ds)=[]:=_root_.id rfl
@[simp] theorem AI {sz es} : bf (.own sz es)=[]:=_root_.id rfl
@[simp] theorem AA {sz es} : bf (.blk sz es)=[]:=_root_.id rfl
@[simp] theorem Em {kt et ks vs} : bf (.mp kt et ks vs)=[]:=_root_.id rfl
@[simp] theorem AH {b} : bf (.mrf b)=[b]:=_root_.id rfl
@[simp] theorem AL {p k n} : bf (.ref p k n)=[p.root]:=_root_.id rfl
@[simp] theorem Aw {p i off} : bf (.adr p i off)=[p.root]:=_root_.id rfl
@[simp] theorem Ay {ds} : bf (.agx ds)=ds.flatMap aA:=_root_.id rfl
@[simp] theorem AQ {ds} : bf (.tpx ds)=ds.flatMap aA:=_root_.id rfl
@[simp] theorem AK {ds} : bf (.ptx ds)=ds.flatMap aA:=_root_.id rfl
@[simp] theorem AM {n sz ds} : bf (.rfx n sz ds)=ds.flatMap aA:=_root_.id rfl
@[simp] theorem AB {g ds} : bf (.fnx g ds)=ds.flatMap aA:=_root_.id rfl
@[simp] theorem AD {T p i off} : bf (.ifa T p i off)=[p.root]:=_root_.id rfl
@[simp] theorem AE {T n} : bf (.ifi T n)=[]:=_root_.id rfl
@[simp] theorem AN {k es} : bf (.slv k es)=[]:=_root_.id rfl
@[simp] theorem AC {g ds cs} : bf (.fny g ds cs)=(ds.flatMap aA++cs.flatMap aA):=_root_.id rfl
@[simp] theorem KF {f : Nat -> D} : dp1 f (.any)=(.any):=_root_.id rfl
@[simp] theorem KM {f : Nat -> D} {k n} : dp1 f (.int k n)=(.int k n):=_root_.id rfl
@[simp] theorem zfs {f : Nat -> D} {b} : dp1 f (.bool b)=(.bool b):=_root_.id rfl
@[simp] theorem KW {f : Nat -> D} {s} : dp1 f (.str s)=(.str s):=_root_.id rfl
@[simp] theorem FT {f : Nat -> D} : dp1 f (.nilp)=(.nilp):=_root_.id rfl
@[simp] theorem FU {f : Nat -> D} : dp1 f (.nils)=(.nils):=_root_.id rfl
@[simp] theorem KD {f : Nat -> D} {ds} : dp1 f (.agg ds)=(.agg ds):=_root_.id rfl
@[simp] theorem KY {f : Nat -> D} {ds} : dp1 f (.tup ds)=(.tup ds):=_root_.id rfl
@[simp] theorem PM {f : Nat -> D} {es} : dp1 f (.sl es)=(.sl es):=_root_.id rfl
@[simp] theorem KP {f : Nat -> D} {ds} : dp1 f (.ptr ds)=(.ptr ds):=_root_.id rfl
@[simp] theorem PK {f : Nat -> D} {g ds} : dp1 f (.fn g ds)=(.fn g ds):=_root_.id rfl
@[simp] theorem KO {f : Nat -> D} {sz es} : dp1 f (.own sz es)=(.own sz es):=_root_.id rfl
@[simp] theorem KG {f : Nat -> D} {sz es} : dp1 f (.blk sz es)=(.blk sz es):=_root_.id rfl
@[simp] theorem PL {f : Nat -> D} {kt et ks vs} : dp1 f (.mp kt et ks vs)=(.mp kt et ks vs):=_root_.id rfl
@[simp] theorem KN {f : Nat -> D} {b} : dp1 f (.mrf b)=(.mrf b):=_root_.id rfl
@[simp] theorem KR {f : Nat -> D} {p k n} : dp1 f (.ref p k n)=(match aM f p with | some (_,es)=>.sl (((es.drop k).take n).map fun e=>e.map aT) | none=>.any):=_root_.id rfl
@[simp] theorem KC {f : Nat -> D} {p i off} : dp1 f (.adr p i off)=(match aM f p with | some (_,es)=>.ptr (((es[i]?.getD []).drop off).map aT) | none=>.any):=_root_.id rfl
@[simp] theorem KE {f : Nat -> D} {ds} : dp1 f (.agx ds)=(.agx ds):=_root_.id rfl
@[simp] theorem KX {f : Nat -> D} {ds} : dp1 f (.tpx ds)=(.tpx ds):=_root_.id rfl
@[simp] theorem KQ {f : Nat -> D} {ds} : dp1 f (.ptx ds)=(.ptx ds):=_root_.id rfl
@[simp] theorem KS {f : Nat -> D} {n sz ds} : dp1 f (.rfx n sz ds)=(.rfx n sz ds):=_root_.id rfl
@[simp] theorem KH {f : Nat -> D} {g ds} : dp1 f (.fnx g ds)=(.fnx g ds):=_root_.id rfl
@[simp] theorem KJ {f : Nat -> D} {T p i off} : dp1 f (.ifa T p i off)=(.ifa T p i off):=_root_.id rfl
@[simp] theorem KL {f : Nat -> D} {T n} : dp1 f (.ifi T n)=(.ifi T n):=_root_.id rfl
@[simp] theorem KU {f : Nat -> D} {k es} : dp1 f (.slv k es)=(.slv k es):=_root_.id rfl
@[simp] theorem KI {f : Nat -> D} {g ds cs} : dp1 f (.fny g ds cs)=(.fny g ds cs):=_root_.id rfl
@[simp] theorem PQ {f : Nat -> D} : dp f (.any)=(.any):=_root_.id rfl
@[simp] theorem PW {f : Nat -> D} {k n} : dp f (.int k n)=(.int k n):=_root_.id rfl
@[simp] theorem La {f : Nat -> D} {b} : dp f (.bool b)=(.bool b):=_root_.id rfl
@[simp] theorem P6 {f : Nat -> D} {s} : dp f (.str s)=(.str s):=_root_.id rfl
@[simp] theorem Lb {f : Nat -> D} : dp f (.nilp)=(.nilp):=_root_.id rfl
@[simp] theorem Lc {f : Nat -> D} : dp f (.nils)=(.nils):=_root_.id rfl
@[simp] theorem PO {f : Nat -> D} {ds} : dp f (.agg ds)=(.agg ds):=_root_.id rfl
@[simp] theorem P8 {f : Nat -> D} {ds} : dp f (.tup ds)=(.tup ds):=_root_.id rfl
@[simp] theorem Rg {f : Nat -> D} {es} : dp f (.sl es)=(.sl es):=_root_.id rfl
@[simp] theorem PZ {f : Nat -> D} {ds} : dp f (.ptr ds)=(.ptr ds):=_root_.id rfl
@[simp] theorem Re {f : Nat -> D} {g ds} : dp f (.fn g ds)=(.fn g ds):=_root_.id rfl
@[simp] theorem PY {f : Nat -> D} {sz es} : dp f (.own sz es)=(.own sz es):=_root_.id rfl
@[simp] theorem PR {f : Nat -> D} {sz es} : dp f (.blk sz es)=(.blk sz es):=_root_.id rfl
@[simp] theorem Rf {f : Nat -> D} {kt et ks vs} : dp f (.mp kt et ks vs)=(.mp kt et ks vs):=_root_.id rfl
@[simp] theorem PX {f : Nat -> D} {b} : dp f (.mrf b)=(.mrf b):=_root_.id rfl
@[simp] theorem P1 {f : Nat -> D} {p k n} : dp f (.ref p k n)=(match aM f p with | some (_,es)=>.sl (((es.drop k).take n).map fun e=>e.map aT) | none=>.any):=_root_.id rfl
@[simp] theorem PN {f : Nat -> D} {p i off} : dp f (.adr p i off)=(match aM f p with | some (_,es)=>.ptr (((es[i]?.getD []).drop off).map aT) | none=>.any):=_root_.id rfl
@[simp] theorem PP {f : Nat -> D} {ds} : dp f (.agx ds)=(.agg (ds.map (dp1 f))):=_root_.id rfl
@[simp] theorem P7 {f : Nat -> D} {ds} : dp f (.tpx ds)=(.tup (ds.map (dp1 f))):=_root_.id rfl
@[simp] theorem P0 {f : Nat -> D} {ds} : dp f (.ptx ds)=(.ptr (ds.map (dp1 f))):=_root_.id rfl
@[simp] theorem P2 {f : Nat -> D} {n sz ds} : dp f (.rfx n sz ds)=.rfx n sz ds:=_root_.id rfl
@[simp] theorem PS {f : Nat -> D} {g ds} : dp f (.fnx g ds)=(.fn g (ds.map (dp1 f))):=_root_.id rfl
@[simp] theorem PU {f : Nat -> D} {T p i off} : dp f (.ifa T p i off)=(.ifa T p i off):=_root_.id rfl
@[simp] theorem PV {f : Nat -> D} {T n} : dp f (.ifi T n)=(.ifi T n):=_root_.id rfl
@[simp] theorem P4 {f : Nat -> D} {k es} : dp f (.slv k es)=(.slv k es):=_root_.id rfl
@[simp] theorem PT {f : Nat -> D} {g ds cs} : dp f (.fny g ds cs)=(.fny g ds cs):=_root_.id rfl
@[simp] theorem CH {f : Nat -> D} : aG f (.any)=(True):=_root_.id rfl
@[simp] theorem CN {f : Nat -> D} {k n} : aG f (.int k n)=(True):=_root_.id rfl
@[simp] theorem zG {f : Nat -> D} {b} : aG f (.bool b)=(True):=_root_.id rfl
@[simp] theorem CW {f : Nat -> D} {s} : aG f (.str s)=(True):=_root_.id rfl
@[simp] theorem zH {f : Nat -> D} : aG f (.nilp)=(True):=_root_.id rfl
@[simp] theorem zJ {f : Nat -> D} : aG f (.nils)=(True):=_root_.id rfl
@[simp] theorem CF {f : Nat -> D} {ds} : aG f (.agg ds)=(True):=_root_.id rfl
@[simp] theorem CY {f : Nat -> D} {ds} : aG f (.tup ds)=(True):=_root_.id rfl
@[simp] theorem FX {f : Nat -> D} {es} : aG f (.sl es)=(True):=_root_.id rfl
@[simp] theorem CQ {f : Nat -> D} {ds} : aG f (.ptr ds)=(True):=_root_.id rfl
@[simp] theorem FV {f : Nat -> D} {g ds} : aG f (.fn g ds)=(True):=_root_.id rfl
@[simp] theorem CP {f : Nat -> D} {sz es} : aG f (.own sz es)=(True):=_root_.id rfl
@[simp] theorem CI {f : Nat -> D} {sz es} : aG f (.blk sz es)=(True):=_root_.id rfl
@[simp] theorem FW {f : Nat -> D} {kt et ks vs} : aG f (.mp kt et ks vs)=(True):=_root_.id rfl
@[simp] theorem CO {f : Nat -> D} {b} : aG f (.mrf b)=(False):=_root_.id rfl
@[simp] theorem CS {f : Nat -> D} {p k n} : aG f (.ref p k n)=(match aM f p with | some (_,es)=>k + n <= es.length | none=>False):=_root_.id rfl
@[simp] theorem CE {f : Nat -> D} {p i off} : aG f (.adr p i off)=(match aM f p with | some _=>True | none=>False):=_root_.id rfl
@[simp] theorem CG {f : Nat -> D} {ds} : aG f (.agx ds)=(True):=_root_.id rfl
@[simp] theorem CX {f : Nat -> D} {ds} : aG f (.tpx ds)=(True):=_root_.id rfl
@[simp] theorem CR {f : Nat -> D} {ds} : aG f (.ptx ds)=(True):=_root_.id rfl
@[simp] theorem CT {f : Nat -> D} {n sz ds} : aG f (.rfx n sz ds)=(True):=_root_.id rfl
@[simp] theorem CJ {f : Nat -> D} {g ds} : aG f (.fnx g ds)=(True):=_root_.id rfl
@[simp] theorem CL {f : Nat -> D} {T p i off} : aG f (.ifa T p i off)=False:=_root_.id rfl
@[simp] theorem CM {f : Nat -> D} {T n} : aG f (.ifi T n)=True:=_root_.id rfl
@[simp] theorem CU {f : Nat -> D} {k es} : aG f (.slv k es)=True:=_root_.id rfl
@[simp] theorem CK {f : Nat -> D} {g ds cs} : aG f (.fny g ds cs)=True:=_root_.id rfl
@[simp] theorem F4 {f : Nat -> D} : bl f (.any)=(True):=_root_.id rfl
@[simp] theorem Ga {f : Nat -> D} {k n} : bl f (.int k n)=(True):=_root_.id rfl
@[simp] theorem CZ {f : Nat -> D} {b} : bl f (.bool b)=(True):=_root_.id rfl
@[simp] theorem Gj {f : Nat -> D} {s} : bl f (.str s)=(True):=_root_.id rfl
@[simp] theorem C0 {f : Nat -> D} : bl f (.nilp)=(True):=_root_.id rfl
@[simp] theorem C1 {f : Nat -> D} : bl f (.nils)=(True):=_root_.id rfl
@[simp] theorem FZ {f : Nat -> D} {ds} : bl f (.agg ds)=(True):=_root_.id rfl
@[simp] theorem Gl {f : Nat -> D} {ds} : bl f (.tup ds)=(True):=_root_.id rfl
@[simp] theorem K9 {f : Nat -> D} {es} : bl f (.sl es)=(True):=_root_.id rfl
@[simp] theorem Gd {f : Nat -> D} {ds} : bl f (.ptr ds)=(True):=_root_.id rfl
@[simp] theorem KZ {f : Nat -> D} {g ds} : bl f (.fn g ds)=(True):=_root_.id rfl
@[simp] theorem Gc {f : Nat -> D} {sz es} : bl f (.own sz es)=(True):=_root_.id rfl
@[simp] theorem F5 {f : Nat -> D} {sz es} : bl f (.blk sz es)=(True):=_root_.id rfl
@[simp] theorem K0 {f : Nat -> D} {kt et ks vs} : bl f (.mp kt et ks vs)=(True):=_root_.id rfl
@[simp] theorem Gb {f : Nat -> D} {b} : bl f (.mrf b)=(False):=_root_.id rfl
@[simp] theorem Gf {f : Nat -> D} {p k n} : bl f (.ref p k n)=(match aM f p with | some (_,es)=>k + n <= es.length | none=>False):=_root_.id rfl
@[simp] theorem FY {f : Nat -> D} {p i off} : bl f (.adr p i off)=(match aM f p with | some _=>True | none=>False):=_root_.id rfl
@[simp] theorem F0 {f : Nat -> D} {ds} : bl f (.agx ds)=(∀ d ∈ ds,aG f d):=_root_.id rfl
@[simp] theorem Gk {f : Nat -> D} {ds} : bl f (.tpx ds)=(∀ d ∈ ds,aG f d):=_root_.id rfl
@[simp] theorem Ge {f : Nat -> D} {ds} : bl f (.ptx ds)=(∀ d ∈ ds,aG f d):=_root_.id rfl
@[simp] theorem Gg {f : Nat -> D} {n sz ds} : bl f (.rfx n sz ds)=False:=_root_.id rfl
@[simp] theorem F6 {f : Nat -> D} {g ds} : bl f (.fnx g ds)=(∀ d ∈ ds,aG f d):=_root_.id rfl
@[simp] theorem F8 {f : Nat -> D} {T p i off} : bl f (.ifa T p i off)=False:=_root_.id rfl
@[simp] theorem F9 {f : Nat -> D} {T n} : bl f (.ifi T n)=True:=_root_.id rfl
@[simp] theorem Gh {f : Nat -> D} {k es} : bl f (.slv k es)=True:=_root_.id rfl
@[simp] theorem F7 {f : Nat -> D} {g ds cs} : bl f (.fny g ds cs)=False:=_root_.id rfl
@[simp] theorem Od {p i0 o} : ldc p i0 o (.any)=.any:=_root_.id rfl
@[simp] theorem Je {m} : dG m (.any)=.any:=_root_.id rfl
@[simp] theorem Ol {p i0 o k n} : ldc p i0 o (.int k n)=.int k n:=_root_.id rfl
@[simp] theorem Jk {m k n} : dG m (.int k n)=.int k n:=_root_.id rfl
@[simp] theorem Iy {p i0 o b} : ldc p i0 o (.bool b)=.bool b:=_root_.id rfl
@[simp] theorem Eo {m b} : dG m (.bool b)=.bool b:=_root_.id rfl
@[simp] theorem Ox {p i0 o s} : ldc p i0 o (.str s)=.str s:=_root_.id rfl
@[simp] theorem Js {m s} : dG m (.str s)=.str s:=_root_.id rfl
@[simp] theorem Iz {p i0 o} : ldc p i0 o (.nilp)=.nilp:=_root_.id rfl
@[simp] theorem Ep {m} : dG m (.nilp)=.nilp:=_root_.id rfl
@[simp] theorem IA {p i0 o} : ldc p i0 o (.nils)=.nils:=_root_.id rfl
@[simp] theorem Ob {p i0 o ds} : ldc p i0 o (.agg ds)=.agg ds:=_root_.id rfl
@[simp] theorem Jc {m ds} : dG m (.agg ds)=.agg ds:=_root_.id rfl
@[simp] theorem Oz {p i0 o ds} : ldc p i0 o (.tup ds)=.tup ds:=_root_.id rfl
@[simp] theorem Ju {m ds} : dG m (.tup ds)=.tup ds:=_root_.id rfl
@[simp] theorem QK {p i0 o es} : ldc p i0 o (.sl es)=.sl es:=_root_.id rfl
@[simp] theorem OK {m es} : dG m (.sl es)=.sl es:=_root_.id rfl
@[simp] theorem Oo {p i0 o ds} : ldc p i0 o (.ptr ds)=.ptr ds:=_root_.id rfl
@[simp] theorem Jn {m ds} : dG m (.ptr ds)=.ptr ds:=_root_.id rfl
@[simp] theorem QI {p i0 o g ds} : ldc p i0 o (.fn g ds)=.fn g ds:=_root_.id rfl
@[simp] theorem OI {m g ds} : dG m (.fn g ds)=.fn g ds:=_root_.id rfl
@[simp] theorem On {c i o sz es} : ldc (.r c) i o (.own sz es)=.ref (.n c i o) 0 es.length:=_root_.id rfl
@[simp] theorem Jm {m sz es} : dG m (.own sz es)=.own sz es:=_root_.id rfl
@[simp] theorem Oe {p i0 o sz es} : ldc p i0 o (.blk sz es)=.blk sz es:=_root_.id rfl
@[simp] theorem Jf {m sz es} : dG m (.blk sz es)=.blk sz es:=_root_.id rfl
@[simp] theorem QJ {p i0 o kt et ks vs} : ldc p i0 o (.mp kt et ks vs)=.mp kt et ks vs:=_root_.id rfl
@[simp] theorem OJ {m kt et ks vs} : dG m (.mp kt et ks vs)=.mp kt et ks vs:=_root_.id rfl
@[simp] theorem Om {p i0 o b} : ldc p i0 o (.mrf b)=.mrf b:=_root_.id rfl
@[simp] theorem Jl {m b} : dG m (.mrf b)=.mrf b:=_root_.id rfl
@[simp] theorem Ot {p i0 o q k n} : ldc p i0 o (.ref q k n)=.ref q k n:=_root_.id rfl
@[simp] theorem Jp {m q k n} : dG m (.ref q k n)=.ref q k n:=_root_.id rfl
@[simp] theorem Oa {p i0 o q i off} : ldc p i0 o (.adr q i off)=.adr q i off:=_root_.id rfl
@[simp] theorem Jb {m q i off} : dG m (.adr q i off)=.adr q i off:=_root_.id rfl
@[simp] theorem Oc {p i0 o ds} : ldc p i0 o (.agx ds)=.agx ds:=_root_.id rfl
@[simp] theorem Jd {m ds} : dG m (.agx ds)=.agx ds:=_root_.id rfl
@[simp] theorem Oy {p i0 o ds} : ldc p i0 o (.tpx ds)=.tpx ds:=_root_.id rfl
@[simp] theorem Jt {m ds} : dG m (.tpx ds)=.tpx ds:=_root_.id rfl
@[simp] theorem Oq {p i0 o ds} : ldc p i0 o (.ptx ds)=.ptx ds:=_root_.id rfl
@[simp] theorem Ou {p i0 o n sz ds} : ldc p i0 o (.rfx n sz ds)=.rfx n sz ds:=_root_.id rfl
@[simp] theorem Jo {m ds} : dG m (.ptx ds)=.ptx ds:=_root_.id rfl
@[simp] theorem Jq {m n sz ds} : dG m (.rfx n sz ds)=.rfx n sz ds:=_root_.id rfl
@[simp] theorem Og {p i0 o g ds} : ldc p i0 o (.fnx g ds)=.fnx g ds:=_root_.id rfl
@[simp] theorem Oi {p0 i0 o T p i off} : ldc p0 i0 o (.ifa T p i off)=.ifa T p i off:=_root_.id rfl
@[simp] theorem Oj {p0 i0 o T n} : ldc p0 i0 o (.ifi T n)=.ifi T n:=_root_.id rfl
@[simp] theorem Ov {p0 i0 o k es} : ldc p0 i0 o (.slv k es)=.slv k es:=_root_.id rfl
@[simp] theorem Oh {p0 i0 o g ds cs} : ldc p0 i0 o (.fny g ds cs)=.fny g ds cs:=_root_.id rfl
@[simp] theorem Jg {m g ds} : dG m (.fnx g ds)=.fnx g ds:=_root_.id rfl
@[simp] theorem Ji {m T p i off} : dG m (.ifa T p i off)=.ifa T p i off:=_root_.id rfl
@[simp] theorem Jj {m T n} : dG m (.ifi T n)=.ifi T n:=_root_.id rfl
@[simp] theorem Jr {m k es} : dG m (.slv k es)=.slv k es:=_root_.id rfl
@[simp] theorem Jh {m g ds cs} : dG m (.fny g ds cs)=.fny g ds cs:=_root_.id rfl
@[simp] theorem Er {m} : dG m .nils=if m=0 then .nils else .own m []:=_root_.id rfl
def slx (b : Bool) (es : List (List D)) : D:=match b,es with
 | true,[]=>.nils
 | _,es=>.sl es
@[simp] theorem b9 {es} : slx false es=.sl es:=by cases es <;> rfl
@[simp] theorem Ka {b x es} : slx b (x::es)=.sl (x::es):=by cases b <;> rfl
theorem eN (b : Bool) (es : List (List D)) : slx b es=.sl es \/ (slx b es=.nils /\ es=[]):=by cases b <;> cases es <;> simp [slx]
@[simp] theorem N6 {b es} : isV (slx b es)=true:=by cases b <;> cases es <;> rfl
@[simp] theorem MD {b es} : isK (slx b es)=true:=by cases b <;> cases es <;> rfl
@[simp] theorem Nq {b es} : isP (slx b es)=true:=by cases b <;> cases es <;> rfl
@[simp] theorem NL {b es} : isS (slx b es)=true:=by cases b <;> cases es <;> rfl
@[simp] theorem Hj {b es} : ar (slx b es)=true:=by cases b <;> cases es <;> rfl
@[simp] theorem MY {b es} : isO (slx b es)=false:=by cases b <;> cases es <;> rfl
@[simp] theorem Du {b es} : b8 (slx b es)=false:=by cases b <;> cases es <;> rfl
@[simp] theorem LG {b es} : isB (slx b es)=false:=by cases b <;> cases es <;> rfl
@[simp] theorem xQ {b es} : cellsOf (slx b es)=[slx b es]:=by cases b <;> cases es <;> rfl
@[simp] theorem BY {b es} : bK (slx b es)=slx b es:=by cases b <;> cases es <;> rfl
@[simp] theorem Cx {b es} : aT (slx b es)=slx b es:=by cases b <;> cases es <;> rfl
@[simp] theorem yy {b es} : aA (slx b es)=[]:=by cases b <;> cases es <;> rfl
@[simp] theorem AO {b es} : bf (slx b es)=[]:=by cases b <;> cases es <;> rfl
@[simp] theorem KV {f : Nat -> D} {b es} : dp1 f (slx b es)=slx b es:=by cases b <;> cases es <;> rfl
@[simp] theorem P5 {f : Nat -> D} {b es} : dp f (slx b es)=slx b es:=by cases b <;> cases es <;> rfl
@[simp] theorem CV {f : Nat -> D} {b es} : aG f (slx b es)=True:=by cases b <;> cases es <;> rfl
@[simp] theorem Gi {f : Nat -> D} {b es} : bl f (slx b es)=True:=by cases b <;> cases es <;> rfl
@[simp] theorem Ow {p i o b es} : ldc p i o (slx b es)=slx b es:=by cases b <;> cases es <;> rfl
def pQ (d : D) (K : Nat -> Prop) (_ : Tag K) : Prop:=match d with
 | .sl es=>K es.length
 | .nils=>K 0
 | .ref _ _ n=>K n
 | .rfx n _ _=>K n
 | _=>False
@[simp] theorem IL {n sz ds K u} : pQ (.rfx n sz ds) K u=K n:=_root_.id rfl
@[simp] theorem OA {es K u} : pQ (.sl es) K u=K es.length:=_root_.id rfl
@[simp] theorem D8 {K u} : pQ .nils K u=K 0:=_root_.id rfl
@[simp] theorem IK {p k n K u} : pQ (.ref p k n) K u=K n:=_root_.id rfl
@[simp] theorem IM {b es K u} : pQ (slx b es) K u=K es.length:=by cases b <;> cases es <;> rfl
@[simp] theorem EL {n ds} : kR true n ds=.agg (ds.take n):=_root_.id rfl
@[simp] theorem A0 {n ds} : kR false n ds=ds.headD .any:=_root_.id rfl
@[simp] theorem IR {t} : aa [] t=.any:=rfl
def lk (b : Bool) (d : D) (r : Env) (t : Nat) : D:=match b with
 | true=>d
 | false=>aa r t
@[simp] theorem OB {d r t} : lk true d r t=d:=rfl
@[simp] theorem zio {d r t} : lk false d r t=aa r t:=rfl
@[simp] theorem D9 {s d r t} : aa ((s,d)::r) t=lk (s == t) d r t:=by
 by_cases h : s=t
 ·subst h;simp [aa]
 ·rw [show (s == t)=false by simp [h]];simp [aa,h]
@[simp] theorem DK {e} : oJ [] e=[]:=_root_.id rfl
@[simp] theorem Ae {t ts e} : oJ (t::ts) e=(t,aa e t)::oJ ts e:=_root_.id rfl
@[simp] theorem yJ : kX []=[]:=_root_.id rfl
@[simp] theorem wy {t d r} : kX ((t,d)::r)=bf d++kX r:=_root_.id rfl
@[simp] theorem Fa {e ks} : qX e [] ks=ks:=_root_.id rfl
@[simp] theorem BF {e r rs ks} : qX e (r::rs) ks=qX e rs (if (ks.map (·.1)).contains r then ks else ks++[(r,aa e r)]):=_root_.id rfl
def fF (f : Nat -> D) (d : D) (ns : List Nat) (K : List D -> List Nat -> Prop) (_ : Tag K) : Prop:=eP f d ns K
def fg (f : Nat -> D) (d : D) (K : D -> List Nat -> Prop) (_ : Tag K) : Prop:=dc f d K
def oc (f : Nat -> D) (ds : List D) (K : List D -> List Nat -> Prop) (_ : Tag K) : Prop:=km f ds K
def sP (b n : Nat) (x : D) (K : D -> List Nat -> Prop) (_ : Tag K) : Prop:=match x with
 | .blk sz es=>es.length=n /\ (∀ e ∈ es,∀ c ∈ e,ar c=true) /\ K (.own sz es) [b]
 | _=>False
@[simp] theorem EY {b n sz es K u} : sP b n (.blk sz es) K u=(es.length=n /\ (∀ e ∈ es,∀ c ∈ e,ar c=true) /\ K (.own sz es) [b]):=_root_.id rfl
theorem dB {f : Nat -> D} {d : D} {K : D -> List Nat -> Prop} {u} (h : ar d=true) : fg f d K u=K d []:=by
 cases d <;> simp [ar] at h <;> simp [fg,dc,ar]
@[simp] theorem By {f b k n K u} : fg f (.ref (.r b) k n) K u=(k=0 /\ sP b n (f b) K ⟨⟩):=by
 simp only [fg,dc,sP]
 cases f b <;> rfl
theorem eF {f : Nat -> D} {d : D} {K : List D -> List Nat -> Prop} {u} (h : ar d=true) : fF f d [] K u=K [d] []:=by
 cases d <;> simp [ar] at h <;> simp [fF,eP,dc,ar,eg]
@[simp] theorem E1 {f ds K u} : fF f (.agg ds) [] K u=((∀ c ∈ ds,ar c=true) /\ K ds []):=by simp [fF,eP,eg]
@[simp] theorem E4 {f ds K u} : fF f (.agx ds) [] K u=oc f ds (fun cs bs=>bE bs=true /\ K cs bs) ⟨⟩:=by simp [fF,oc,eP,eg]
@[simp] theorem E7 {f b k n K u} : fF f (.ref (.r b) k n) [] K u=(k=0 /\ sP b n (f b) (fun c bs=>K [c] bs) ⟨⟩):=by
 simp only [fF,eP,dc,sP,eg,if_true,true_or,true_and]
 cases f b <;> rfl
@[simp] theorem BB {f K u} : oc f [] K u=K [] []:=_root_.id rfl
@[simp] theorem yW {f d ds K u} : oc f (d::ds) K u=fg f d (fun c bs=>oc f ds (fun cs bs'=>K (c::cs) (bs++bs')) ⟨⟩) ⟨⟩:=_root_.id rfl
@[simp] theorem Bw {f k n K u} : fg f (.int k n) K u=K (.int k n) []:=dB rfl
@[simp] theorem E5 {f k n K u} : fF f (.int k n) [] K u=K [.int k n] []:=eF rfl
@[simp] theorem yT {f n K u} : fg f (.bool n) K u=K (.bool n) []:=dB rfl
@[simp] theorem BC {f n K u} : fF f (.bool n) [] K u=K [.bool n] []:=eF rfl
@[simp] theorem BA {f n K u} : fg f (.str n) K u=K (.str n) []:=dB rfl
@[simp] theorem E9 {f n K u} : fF f (.str n) [] K u=K [.str n] []:=eF rfl
@[simp] theorem yU {f  K u} : fg f .nilp K u=K .nilp []:=dB rfl
@[simp] theorem BD {f  K u} : fF f .nilp [] K u=K [.nilp] []:=eF rfl
@[simp] theorem yV {f  K u} : fg f .nils K u=K .nils []:=dB rfl
@[simp] theorem BE {f  K u} : fF f .nils [] K u=K [.nils] []:=eF rfl
@[simp] theorem E0 {f n K u} : fg f (.sl n) K u=K (.sl n) []:=dB rfl
@[simp] theorem Kn {f n K u} : fF f (.sl n) [] K u=K [.sl n] []:=eF rfl
@[simp] theorem Bx {f n K u} : fg f (.ptr n) K u=K (.ptr n) []:=dB rfl
@[simp] theorem E6 {f n K u} : fF f (.ptr n) [] K u=K [.ptr n] []:=eF rfl
@[simp] theorem EZ {f g n K u} : fg f (.fn g n) K u=K (.fn g n) []:=dB rfl
@[simp] theorem Km {f g n K u} : fF f (.fn g n) [] K u=K [.fn g n] []:=eF rfl
@[simp] theorem Bz {f b n K u} : fg f (slx b n) K u=K (slx b n) []:=dB (by simp)
@[simp] theorem E8 {f b n K u} : fF f (slx b n) [] K u=K [slx b n] []:=eF (by simp)
def nQ (f : Nat -> D) (sz : Nat) (ps : List (Nat × Opd)) (es : List (List D)) (bs : List Nat) (K : List (List D) -> List Nat -> Prop) (_ : Tag K) : Prop:=eq f sz [] ps es bs K
@[simp] theorem A1 {f sz es bs K u} : nQ f sz [] es bs K u=K es bs:=_root_.id rfl
@[simp] theorem yG {f sz i x ps es bs K u} : nQ f sz ((i,x)::ps) es bs K u=(i < es.length /\ fF f (vd f x) [] (fun cs bs'=>cs.length=sz /\ nQ f sz ps (es.set i cs) (bs++bs') K ⟨⟩) ⟨⟩):=_root_.id rfl
def gY (f : Nat -> D) (mv : Bool) (d : D) (sz : Nat) (K : List (List D) -> List Nat -> Prop) (_ : Tag K) : Prop:=eC f mv d sz K
def A6 (b n sz : Nat) (x : D) (K : List (List D) -> List Nat -> Prop) (_ : Tag K) : Prop:=match x with
 | .blk sz' es=>sz'=sz /\ es.length=n /\ (∀ e ∈ es,∀ c ∈ e,isC c=true) /\ K es [b]
 | _=>False
@[simp] theorem JT {b n sz sz' es K u} : A6 b n sz (.blk sz' es) K u=(sz'=sz /\ es.length=n /\ (∀ e ∈ es,∀ c ∈ e,isC c=true) /\ K es [b]):=_root_.id rfl
def A7 (k n sz : Nat) (x : Option (Nat × List (List D))) (K : List (List D) -> List Nat -> Prop) (_ : Tag K) : Prop:=match x with
 | some (sz',es)=>sz'=sz /\ k + n <= es.length /\ (∀ e ∈ (es.drop k).take n,∀ c ∈ e,ar c=true) /\ K ((es.drop k).take n) []
 | none=>False
@[simp] theorem EO {k n sz sz' es K u} : A7 k n sz (some (sz',es)) K u=(sz'=sz /\ k + n <= es.length /\ (∀ e ∈ (es.drop k).take n,∀ c ∈ e,ar c=true) /\ K ((es.drop k).take n) []):=_root_.id rfl
@[simp] theorem A8 {f mv sz K u} : gY f mv .nils sz K u=K [] []:=_root_.id rfl
@[simp] theorem J0 {f mv es sz K u} : gY f mv (.sl es) sz K u=((∀ e ∈ es,e.length=sz /\ ∀ c ∈ e,ar c=true) /\ K es []):=_root_.id rfl
@[simp] theorem ES {f mv b es sz K u} : gY f mv (slx b es) sz K u=((∀ e ∈ es,e.length=sz /\ ∀ c ∈ e,ar c=true) /\ K es []):=by
 rcases eN b es with h | ⟨h,rfl⟩ <;> rw [h] <;> simp
@[simp] theorem JZ {f b k n sz K u} : gY f true (.ref (.r b) k n) sz K u=(k=0 /\ A6 b n sz (f b) K ⟨⟩):=by
 simp only [gY,eC,A6]
 cases f b <;> rfl
@[simp] theorem ER {f p k n sz K u} : gY f false (.ref p k n) sz K u=A7 k n sz (aM f p) K ⟨⟩:=by
 simp only [gY,eC,A7]
 cases aM f p <;> rfl
def cX (f : Nat -> D) (o : Option Opd) (dflt : Nat) (K : Nat -> Prop) (_ : Tag K) : Prop:=de f o dflt K
def Fs (d : D) (K : Nat -> Prop) (_ : Tag K) : Prop:=match d with
 | .int _ n=>0 <= n /\ K n.toNat
 | _=>False
@[simp] theorem Ft {k n K u} : Fs (.int k n) K u=(0 <= n /\ K n.toNat):=_root_.id rfl
@[simp] theorem xr {f n K u} : cX f none n K u=K n:=_root_.id rfl
@[simp] theorem xu {f x n K u} : cX f (some x) n K u=Fs (vd f x) K ⟨⟩:=_root_.id rfl
def fE (x : Option (List D)) (K : List D -> Prop) (_ : Tag K) : Prop:=match x with
 | some r=>K r
 | none=>False
@[simp] theorem EQ {r K u} : fE (some r) K u=K r:=_root_.id rfl
@[simp] theorem EP {K u} : fE none K u=False:=_root_.id rfl
theorem eG {x : Option (List D)} {K : List D -> Prop} {u} : fE x K u=∃ r,x=some r /\ K r:=by
 cases x <;> simp [fE]
def iU (x : Option D) (K : Nat -> List (List D) -> Prop) (_ : Tag K) : Prop:=match x with
 | some (.own sz es)=>K sz es
 | _=>False
@[simp] theorem JN {sz es K u} : iU (some (.own sz es)) K u=K sz es:=_root_.id rfl
theorem iu {x : Option D} {K : Nat -> List (List D) -> Prop} {u} : iU x K u=∃ sz es,x=some (.own sz es) /\ K sz es:=by
 cases x with
 | none=>simp [iU]
 | some d =>
  cases d <;> simp [iU]
  exact ⟨fun h=>⟨_,_,⟨rfl,rfl⟩,h⟩,by rintro ⟨_,_,⟨rfl,rfl⟩,h⟩;exact h⟩
def vn (x : Option D) (K : D -> Prop) (_ : Tag K) : Prop:=match x with
 | some d=>K d
 | none=>False
@[simp] theorem Cd {d K u} : vn (some d) K u=K d:=_root_.id rfl
theorem vo {x : Option D} {K : D -> Prop} {u} : vn x K u=∃ d,x=some d /\ K d:=by
 cases x <;> simp [vn]
def cC (x : D) (K : Nat -> List (List D) -> Prop) (_ : Tag K) : Prop:=match x with
 | .blk sz es=>K sz es
 | _=>False
@[simp] theorem Fr {sz es K u} : cC (.blk sz es) K u=K sz es:=_root_.id rfl
abbrev CC:=Nat -> List D -> D -> List D -> Prop
abbrev KT:=List (Nat × D) -> List (Nat × Bool) -> Prop
section
variable {C : CC} {Q : ca -> Env -> Prop} {e e' : Env} {d : D}
def wN (C : CC) (c : dA) (Q : ca -> Env -> Prop) (_ : Tag (c,Q)) (e : Env) : Prop:=wpN C c Q e
def yf (C : CC) (c : dA) (Q : ca -> Env -> Prop) (_ : Tag (c,Q)) (e : Env) : Prop:=wpN C (.loop c) Q e
def rV (C : CC) (K : Env -> Prop) (ns : List ao) (_ : Tag (K,ns)) (e : Env) : Prop:=iF C K ns e
def pZ (C : CC) (hs : List Nat) (K : Env -> Prop) (ns : List ao) (_ : Tag (K,ns)) (e : Env) (acc : List (List Nat × List Nat)) : Prop:=ke C hs K ns e acc
def GU (hs : List Nat) (acc : List (List Nat × List Nat)) : Prop:=jb hs acc.reverse=true
theorem aV {hs : List Nat} {acc : List (List Nat × List Nat)} (h : jb hs acc.reverse=true) : GU hs acc:=h
def xZ (C : CC) (K : Env -> Prop) (ns : List ao) (e : Env) : KT:=fun ws ks=>iF C K ns (ws++dl ks e)
def FJ (C : CC) (hs : List Nat) (K : Env -> Prop) (ns : List ao) (e : Env) (R : List Nat) (acc : List (List Nat × List Nat)) : KT:=fun ws ks=>wOk R ws ks=true /\ ke C hs K ns (ws++dl ks e) ((R,wrK ws ks)::acc)
def doT (C : CC) (K : Env -> Prop) (ns : List ao) (_ : Tag (K,ns)) (e : Env) (ws : List (Nat × D)) (ks : List (Nat × Bool)) : Prop:=iF C K ns (ws++dl ks e)
def bL (Q : ca -> Env -> Prop) (_ : Tag Q) (t : ca) (e : Env) : Prop:=Q t e
def fin (res : List (Nat × Option (Nat × Bool))) (d : D) : ca -> Env -> Prop:=fun t e=>(match t with
   | .ext _=>False
   | _=>True) /\ eB res d e
def wG (C : CC) (y : dA) (Q : ca -> Env -> Prop) : ca -> Env -> Prop:=fun t e'=>match t with
  | .nrm=>wpN C y Q e'
  | t=>Q t e'
def nk (id : Nat) (Q : ca -> Env -> Prop) : ca -> Env -> Prop:=fun t e'=>match t with
  | .ext i=>if i=id then Q .nrm e' else Q (.ext i) e'
  | t=>Q t e'
def ww (keep : List Nat) (Q : ca -> Env -> Prop) : Env -> Prop:=fun e'=>Q .nrm (prune keep e')
def kOf (C : CC) (hs : Option (List Nat)) (K : Env -> Prop) (ns : List ao) (e : Env) (R : List Nat) (acc : List (List Nat × List Nat)) : KT :=
 match hs with
 | none=>xZ C K ns e
 | some hs=>FJ C hs K ns e R acc
def doW (C : CC) (hs : Option (List Nat)) (K : Env -> Prop) (ns : List ao) (_ : Tag (hs,K,ns)) (e : Env) (R : List Nat) (acc : List (List Nat × List Nat)) (ws : List (Nat × D)) (ks : List (Nat × Bool)) : Prop:=kOf C hs K ns e R acc ws ks
def opW (C : CC) (hs : Option (List Nat)) (K : Env -> Prop) (ns : List ao) (dst : Option Nat) (op : NOp) (_ : Tag (hs,K,ns,dst,op)) (e : Env) (R : List Nat) (acc : List (List Nat × List Nat)) : Prop:=aq C (aa e) dst (kOf C hs K ns e R acc) op
def dW (C : CC) (hs : Option (List Nat)) (K : Env -> Prop) (ns : List ao) (dst : Option Nat) (_ : Tag (hs,K,ns)) (e : Env) (R : List Nat) (acc : List (List Nat × List Nat)) (d : D) : Prop:=cD dst (kOf C hs K ns e R acc) d
def oi (C : CC) (g : Nat) (hs : Option (List Nat)) (K : Env -> Prop) (ns : List ao) (dst : Option Nat) (_ : Tag (hs,K,ns)) (e : Env) (R : List Nat) (acc : List (List Nat × List Nat)) (pure : Bool) (ds : List D) : Prop :=
 ∃ d,C g ds d [] /\ (isF d=true \/ pure=true) /\ cD dst (kOf C hs K ns e R acc) d
theorem bp {prog : Nat -> Option a8} (hC : az prog C) {g : Nat} {nf : a8} {ds : List D} (hp : prog g=some nf) (hl : ds.length=nf.np) (h : wN C nf.body (fin nf.res d) ⟨⟩ (params 0 ds)) : C g ds d []:=hC.1.1 g nf ds d hp hl h
def px (res : List (Nat × Option (Nat × Bool))) (sz : Nat) (es : List (List D)) : ca -> Env -> Prop:=fun t e=>(match t with
   | .ext _=>False
   | _=>True) /\ iX res sz es e
theorem me {prog : Nat -> Option a8} (hC : az prog C) {g : Nat} {nf : a8} {ds : List D} {sz : Nat} {es : List (List D)} (hp : prog g=some nf) (hl : ds.length=nf.np) (h : wN C nf.body (px nf.res sz es) ⟨⟩ (params 0 ds)) : C g ds .any [.own sz es]:=hC.1.2.2.1 g nf ds sz es hp hl h
def rC (res : List (Nat × Option (Nat × Bool))) (d : D) : ca -> Env -> Prop:=fun t e=>(match t with
   | .ext _=>False
   | _=>True) /\ iW res d e
def pz (res : List (Nat × Option (Nat × Bool))) (d : D) (sz : Nat) (es' : List (List D)) : ca -> Env -> Prop:=fun t e=>(match t with
   | .ext _=>False
   | _=>True) /\ (0 < es'.length /\ aa e 10015=.blk sz es') /\ eB res d ((10015,.any)::e)
theorem fb {prog : Nat -> Option a8} (hC : f5 prog C) {g : Nat} {nf : a8} {W : List D} {d : D} {sz : Nat} {es es' : List (List D)} (hp : prog g=some nf) (hl : W.length=nf.np) (h : wN C nf.body (pz nf.res d sz es') ⟨⟩ (params 0 W++[(10015,.blk sz es)])) : C g (.blk sz es::W) d [.blk sz es',.nilp]:=hC.2.2.2.2.2.1 g nf W d sz es es' hp hl h
def rD (res : List (Nat × Option (Nat × Bool))) (sz : Nat) (es : List (List D)) : ca -> Env -> Prop:=fun t e=>(match t with
   | .ext _=>False
   | _=>True) /\ iY res sz es e
def rB (res : List (Nat × Option (Nat × Bool))) (R : D) : ca -> Env -> Prop:=fun t e=>(match t with
   | .ext _=>False
   | _=>True) /\ o4 res R e
def y5 (C : CC) (g : Nat) (hs : Option (List Nat)) (K : Env -> Prop) (ns : List ao) (t : Nat) (_ : Tag (hs,K,ns)) (e : Env) (R : List Nat) (acc : List (List Nat × List Nat)) (ds : List D) : Prop :=
 (∃ d,C g ds d [] /\ cD (some t) (kOf C hs K ns e R acc) d) \/ ∃ d,okR d=true /\ C g ds d [.nils] /\ kOf C hs K ns e R acc ((t,dE t d)::aL t d) (dj t d)
def y6 (C : CC) (g : Nat) (hs : Option (List Nat)) (K : Env -> Prop) (ns : List ao) (dst : Option Nat) (_ : Tag (hs,K,ns)) (e : Env) (R : List Nat) (acc : List (List Nat × List Nat)) (ds : List D) : Prop :=
 ∃ d,C g ds d [.nilp] /\ cD dst (kOf C hs K ns e R acc) d
def sV (C : CC) (g : Nat) (hs : Option (List Nat)) (K : Env -> Prop) (ns : List ao) (t : Nat) (_ : Tag (hs,K,ns)) (e : Env) (R : List Nat) (acc : List (List Nat × List Nat)) (ds : List D) : Prop :=
 ∃ sz es,C g ds .any [.own sz es] /\ kOf C hs K ns e R acc [(t,.ref (.r (rt t 0)) 0 es.length),(rt t 0,.blk sz es)] [(rt t 0,true)]
theorem ia {g : Nat} {hs : Option (List Nat)} {K : Env -> Prop} {ns : List ao} {t : Nat} {u : Tag (hs,K,ns)} {R : List Nat} {acc : List (List Nat × List Nat)} {ds : List D} {sz : Nat} {es : List (List D)} (h : C g ds .any [.own sz es]) (hk : doW C hs K ns ⟨⟩ e R acc [(t,.ref (.r (rt t 0)) 0 es.length),(rt t 0,.blk sz es)] [(rt t 0,true)]) : sV C g hs K ns t u e R acc ds:=⟨sz,es,h,hk⟩
def pj (C : CC) (g : Nat) (hs : Option (List Nat)) (K : Env -> Prop) (ns : List ao) (dst : Option Nat) (_ : Tag (hs,K,ns)) (e : Env) (R : List Nat) (acc : List (List Nat × List Nat)) (b sz : Nat) (es : List (List D)) (ds : List D) (p : Bool) : Prop:=match dst with
 | none=>∃ es' : List (List D),es'.length=es.length /\ (∀ e ∈ es',e.length=sz /\ ∀ c ∈ e,ar c=true) /\ (p=true \/ ∀ e ∈ es',∀ c ∈ e,aP c=true) /\ C g (.own sz es::ds) .any [.own sz es',.nilp] /\ doW C hs K ns ⟨⟩ e R acc [(b,.blk sz es')] []
 | some t=>(∃ es' : List (List D),es'.length=es.length /\ (∀ e ∈ es',e.length=sz /\ ∀ c ∈ e,ar c=true) /\ (p=true \/ ∀ e ∈ es',∀ c ∈ e,aP c=true) /\ C g (.own sz es::ds) .any [.own sz es',.nilp] /\ doW C hs K ns ⟨⟩ e R acc [(t,.tup []),(b,.blk sz es')] []) \/ (b ≠ rt t 0 /\ 0 < sz /\ ∃ es' : List (List D),(∀ e ∈ es',e.length=sz /\ ∀ c ∈ e,ar c=true) /\ (p=true \/ ∀ e ∈ es',∀ c ∈ e,aP c=true) /\ C g (.own sz es::ds) .any [.own sz es',.nils] /\ doW C hs K ns ⟨⟩ e R acc [(t,.ref (.r (rt t 0)) 0 es'.length),(rt t 0,.blk sz es'),(b,.any)] [(rt t 0,true)])
theorem rh {t : Nat} {g : Nat} {hs : Option (List Nat)} {K : Env -> Prop} {ns : List ao} {u : Tag (hs,K,ns)} {R : List Nat} {acc : List (List Nat × List Nat)} {b sz : Nat} {es es' : List (List D)} {ds : List D} {p : Bool} (h : C g (.own sz es::ds) .any [.own sz es',.nilp]) (hp : (p=true \/ ∀ e ∈ es',∀ c ∈ e,aP c=true)) (hl : es'.length=es.length) (hu : (∀ e ∈ es',e.length=sz /\ ∀ c ∈ e,ar c=true)) (hk : doW C hs K ns ⟨⟩ e R acc [(t,.tup []),(b,.blk sz es')] []) : pj C g hs K ns (some t) u e R acc b sz es ds p:=.inl ⟨es',hl,hu,hp,h,hk⟩
def Bn (C : CC) (g : Nat) (hs : Option (List Nat)) (K : Env -> Prop) (ns : List ao) (dst : Option Nat) (_ : Tag (hs,K,ns)) (e : Env) (R : List Nat) (acc : List (List Nat × List Nat)) (b n : Nat) (xs : List Opd) (d : D) : Prop:=match d with
 | .blk sz es=>es.length=n /\ (∀ e ∈ es,∀ c ∈ e,ar c=true) /\ (∀ x ∈ xs,bl (fbE (aa e) b) (vd (fbE (aa e) b) x)) /\ pj C g hs K ns dst ⟨⟩ e R acc b sz es (xs.map (dpv (fbE (aa e) b))) (xs.all fun y=>isV (vd (fbE (aa e) b) y))
 | _=>False
def Ke (C : CC) (g : Nat) (hs : Option (List Nat)) (K : Env -> Prop) (ns : List ao) (dst : Option Nat) (_ : Tag (hs,K,ns)) (e : Env) (R : List Nat) (acc : List (List Nat × List Nat)) (xs : List Opd) (d : D) : Prop:=match d with
 | .ref (.r b) k n=>k=0 /\ Bn C g hs K ns dst ⟨⟩ e R acc b n xs (aa e b)
 | _=>False
@[simp] theorem Qb {f : Nat -> D} {b t : Nat} : fbE f b t=if t=b then .any else f t:=_root_.id rfl
theorem ae {g : Nat} {hs : Option (List Nat)} {K : Env -> Prop} {ns : List ao} {dst : Option Nat} {u : Tag (hs,K,ns)} {R : List Nat} {acc : List (List Nat × List Nat)} {p : Bool} {ds : List D} (h : C g ds d []) (hf : isF d=true \/ p=true) (hk : dW C hs K ns dst ⟨⟩ e R acc d) : oi C g hs K ns dst u e R acc p ds:=⟨d,h,hf,hk⟩
def nX (S : Type) (G : S -> Env) (I : S -> Prop) (m : S -> Nat) (s : S) (Q : ca -> Env -> Prop) : ca -> Env -> Prop:=fun t e'=>match t with
    | .nrm=>∃ s',I s' /\ m s' < m s /\ jB e' (G s')
    | t=>Q t e'
theorem aE {c : dA} {u : Tag (c,Q)} (S : Type) (G : S -> Env) (I : S -> Prop) (m : S -> Nat) (s0 : S) (h0 : I s0) (hw : jB e (G s0))
  (h : ∀ s,I s -> wN C c (nX S G I m s Q) ⟨⟩ (G s)) : yf C c Q u e:=⟨S,G,I,m,s0,h0,hw,h⟩
@[simp] theorem Px {u} : wN C .skip Q u e=bL Q ⟨⟩ .nrm e:=_root_.id rfl
@[simp] theorem Rb {hs keep ops u} : wN C (.reg false hs keep ops) Q u e=rV C (ww keep Q) ops ⟨⟩ e:=_root_.id rfl
@[simp] theorem Pu {hs keep ops u} : wN C (.reg true hs keep ops) Q u e=pZ C hs (ww keep Q) ops ⟨⟩ e []:=_root_.id rfl
@[simp] theorem Rd {x y u} : wN C (.seq x y) Q u e=wN C x (wG C y Q) ⟨⟩ e:=_root_.id rfl
def brB (b : Bool) (X Y : Prop) (_ : Tag (X,Y)) : Prop:=(b=true -> X) /\ (b=false -> Y)
theorem av {b : Bool} {X Y : Prop} {u} (h1 : b=true -> X) (h2 : b=false -> Y) : brB b X Y u:=⟨h1,h2⟩
@[simp] theorem FA {X Y : Prop} {u} : brB true X Y u=X:=by simp [brB]
@[simp] theorem Cc {X Y : Prop} {u} : brB false X Y u=Y:=by simp [brB]
def cdW (C : CC) (x y : dA) (Q : ca -> Env -> Prop) (_ : Tag (x,y,Q)) (e : Env) (d : D) : Prop:=match d with
 | .bool b=>brB b (wN C x Q ⟨⟩ e) (wN C y Q ⟨⟩ e) ⟨⟩
 | .bb=>wN C x Q ⟨⟩ e /\ wN C y Q ⟨⟩ e
 | _=>False
@[simp] theorem PC {x y u} : cdW C x y Q u e .bb=(wN C x Q ⟨⟩ e /\ wN C y Q ⟨⟩ e):=_root_.id rfl
@[simp] theorem FB {x y u b} : cdW C x y Q u e (.bool b)=brB b (wN C x Q ⟨⟩ e) (wN C y Q ⟨⟩ e) ⟨⟩:=_root_.id rfl
@[simp] theorem Pt {c x y u} : wN C (.cond c x y) Q u e=cdW C x y Q ⟨⟩ e (vd (aa e) c):=_root_.id rfl
@[simp] theorem Kj {id c u} : wN C (.block id c) Q u e=wN C c (nk id Q) ⟨⟩ e:=_root_.id rfl
@[simp] theorem Pw {c u} : wN C (.loop c) Q u e=yf C c Q ⟨⟩ e:=_root_.id rfl
@[simp] theorem Pv {id u} : wN C (.exit id) Q u e=bL Q ⟨⟩ (.ext id) e:=_root_.id rfl
@[simp] theorem Rc {u} : wN C .ret Q u e=bL Q ⟨⟩ .ret e:=_root_.id rfl
@[simp] theorem vM {y u} : bL (wG C y Q) u .nrm e=wN C y Q ⟨⟩ e:=_root_.id rfl
@[simp] theorem vL {y u i} : bL (wG C y Q) u (.ext i) e=bL Q ⟨⟩ (.ext i) e:=_root_.id rfl
@[simp] theorem vN {y u} : bL (wG C y Q) u .ret e=bL Q ⟨⟩ .ret e:=_root_.id rfl
@[simp] theorem tg {id u} : bL (nk id Q) u .nrm e=bL Q ⟨⟩ .nrm e:=_root_.id rfl
@[simp] theorem tf {id u i} : bL (nk id Q) u (.ext i) e=if i=id then bL Q ⟨⟩ .nrm e else bL Q ⟨⟩ (.ext i) e:=_root_.id rfl
@[simp] theorem th {id u} : bL (nk id Q) u .ret e=bL Q ⟨⟩ .ret e:=_root_.id rfl
@[simp] theorem vD {r u} : bL (fin r d) u .nrm e=eB r d e:=by simp [bL,fin]
@[simp] theorem vE {r u} : bL (fin r d) u .ret e=eB r d e:=by simp [bL,fin]
@[simp] theorem u6 {r d} {u : Tag (rC r d)} : bL (rC r d) u .nrm e=iW r d e:=by simp [bL,rC]
@[simp] theorem u7 {r d} {u : Tag (rC r d)} : bL (rC r d) u .ret e=iW r d e:=by simp [bL,rC]
@[simp] theorem u4 {r sz es} {u : Tag (px r sz es)} : bL (px r sz es) u .nrm e=iX r sz es e:=by simp [bL,px]
@[simp] theorem u5 {r sz es} {u : Tag (px r sz es)} : bL (px r sz es) u .ret e=iX r sz es e:=by simp [bL,px]
@[simp] theorem vb {r d sz es} {u : Tag (pz r d sz es)} : bL (pz r d sz es) u .nrm e=((0 < es.length /\ aa e 10015=.blk sz es) /\ eB r d ((10015,.any)::e)):=by simp [bL,pz]
@[simp] theorem vc {r d sz es} {u : Tag (pz r d sz es)} : bL (pz r d sz es) u .ret e=((0 < es.length /\ aa e 10015=.blk sz es) /\ eB r d ((10015,.any)::e)):=by simp [bL,pz]
@[simp] theorem u9 {r sz es} {u : Tag (rD r sz es)} : bL (rD r sz es) u .nrm e=iY r sz es e:=by simp [bL,rD]
@[simp] theorem va {r sz es} {u : Tag (rD r sz es)} : bL (rD r sz es) u .ret e=iY r sz es e:=by simp [bL,rD]
@[simp] theorem uY {r d} {u : Tag (rB r d)} : bL (rB r d) u .nrm e=o4 r d e:=by simp [bL,rB]
@[simp] theorem uZ {r d} {u : Tag (rB r d)} : bL (rB r d) u .ret e=o4 r d e:=by simp [bL,rB]
@[simp] theorem tj {S G I m s u} : bL (nX S G I m s Q) u .nrm e=∃ s',I s' /\ m s' < m s /\ jB e (G s'):=_root_.id rfl
@[simp] theorem ti {S G I m s u i} : bL (nX S G I m s Q) u (.ext i) e=bL Q ⟨⟩ (.ext i) e:=_root_.id rfl
@[simp] theorem tk {S G I m s u} : bL (nX S G I m s Q) u .ret e=bL Q ⟨⟩ .ret e:=_root_.id rfl
end
section
variable {C : CC} {Q : ca -> Env -> Prop} {e : Env} {K : Env -> Prop} {dst : Option Nat} {d : D} {hs : Option (List Nat)} {ns : List ao} {R : List Nat} {acc : List (List Nat × List Nat)} {u : Tag (hs,K,ns)}
@[simp] theorem JL {keep u} : rV C (ww keep Q) [] u e=bL Q ⟨⟩ .nrm (prune keep e):=_root_.id rfl
@[simp] theorem JK {h keep u} : pZ C h (ww keep Q) [] u e acc=(GU h acc /\ bL Q ⟨⟩ .nrm (prune keep e)):=_root_.id rfl
@[simp] theorem EH {dst op ns u} : rV C K (⟨dst,op,none⟩::ns) u e=opW C none K ns dst op ⟨⟩ e [] []:=_root_.id rfl
@[simp] theorem EF {h dst op ns u} : pZ C h K (⟨dst,op,none⟩::ns) u e acc=(chk (aa e) ⟨dst,op,none⟩=true /\ opW C (some h) K ns dst op ⟨⟩ e (gJ (aa e) ⟨dst,op,none⟩) acc):=_root_.id rfl
def mb (C : CC) (h : List Nat) (K : Env -> Prop) (ns : List ao) (_ : Tag (h,K,ns)) (e : Env) (dst : Option Nat) (R : List Nat) (acc : List (List Nat × List Nat)) : Prop:=iG e dst fun e'=>ke C h K ns e' ((R,rp dst)::acc)
@[simp] theorem Ba {h t ns u} : mb C h K ns u e (some t) R acc=pZ C h K ns ⟨⟩ ((t,.tup [])::e) ((R,[4 * t])::acc):=_root_.id rfl
@[simp] theorem A9 {h ns u} : mb C h K ns u e none R acc=pZ C h K ns ⟨⟩ e ((R,[])::acc):=_root_.id rfl
def gdT (C : CC) (K : Env -> Prop) (ns : List ao) (dst : Option Nat) (op : NOp) (s : Nat) (want : Bool) (_ : Tag (K,ns)) (e : Env) (d : D) : Prop:=match d with
 | .bool b=>(b=want -> opW C none K ns dst op ⟨⟩ ((s,.bool want)::e) [] []) /\ (b=!want -> dW C none K ns dst ⟨⟩ ((s,.bool !want)::e) [] [] (.tup []))
 | .tup []=>dW C none K ns dst ⟨⟩ e [] [] (.tup [])
 | _=>False
@[simp] theorem GC {op s b u} : gdT C K ns dst op s true u e (.bool b)=brB b (opW C none K ns dst op ⟨⟩ ((s,.bool true)::e) [] []) (dW C none K ns dst ⟨⟩ ((s,.bool false)::e) [] [] (.tup [])) ⟨⟩:=_root_.id rfl
@[simp] theorem C7 {op s b u} : gdT C K ns dst op s false u e (.bool b)=brB b (dW C none K ns dst ⟨⟩ ((s,.bool true)::e) [] [] (.tup [])) (opW C none K ns dst op ⟨⟩ ((s,.bool false)::e) [] []) ⟨⟩:=by
 simp only [gdT,brB,Bool.not_false];exact propext ⟨fun h=>⟨h.2,h.1⟩,fun h=>⟨h.2,h.1⟩⟩
@[simp] theorem GB {op s want u} : gdT C K ns dst op s want u e (.tup [])=dW C none K ns dst ⟨⟩ e [] [] (.tup []):=_root_.id rfl
@[simp] theorem EI {dst op s want ns u} : rV C K (⟨dst,op,some (s,want)⟩::ns) u e=gdT C K ns dst op s want ⟨⟩ e (aa e s):=by
 simp only [rV,iF,opW,pe,iG,gdT,dW,cD,kOf,xZ,dl]
 cases aa e s <;> cases dst <;> (first | rfl | (rename_i x _ ;cases x <;> rfl) | (rename_i x;cases x <;> rfl))
def gdD (C : CC) (h : List Nat) (K : Env -> Prop) (ns : List ao) (dst : Option Nat) (op : NOp) (want : Bool) (_ : Tag (K,ns)) (e : Env) (R : List Nat) (acc : List (List Nat × List Nat)) (d : D) : Prop:=match d with
 | .bool b=>(b=want -> opW C (some h) K ns dst op ⟨⟩ e R acc) /\ (b=!want -> mb C h K ns ⟨⟩ e dst R acc)
 | .tup []=>mb C h K ns ⟨⟩ e dst R acc
 | _=>False
@[simp] theorem GA {h op b u} : gdD C h K ns dst op true u e R acc (.bool b)=brB b (opW C (some h) K ns dst op ⟨⟩ e R acc) (mb C h K ns ⟨⟩ e dst R acc) ⟨⟩:=_root_.id rfl
@[simp] theorem C6 {h op b u} : gdD C h K ns dst op false u e R acc (.bool b)=brB b (mb C h K ns ⟨⟩ e dst R acc) (opW C (some h) K ns dst op ⟨⟩ e R acc) ⟨⟩:=by
 simp only [gdD,brB,Bool.not_false];exact propext ⟨fun h=>⟨h.2,h.1⟩,fun h=>⟨h.2,h.1⟩⟩
@[simp] theorem Gz {h op want u} : gdD C h K ns dst op want u e R acc (.tup [])=mb C h K ns ⟨⟩ e dst R acc:=_root_.id rfl
@[simp] theorem EG {h dst op s want ns u} : pZ C h K (⟨dst,op,some (s,want)⟩::ns) u e acc=(chk (aa e) ⟨dst,op,some (s,want)⟩=true /\ gdD C h K ns dst op want ⟨⟩ e (gJ (aa e) ⟨dst,op,some (s,want)⟩) acc (aa e s)):=_root_.id rfl
@[simp] theorem FR {K ns u ws ks} : doW C none K ns u e R acc ws ks=rV C K ns ⟨⟩ (ws++dl ks e):=_root_.id rfl
@[simp] theorem FQ {h K ns u ws ks} : doW C (some h) K ns u e R acc ws ks=(wOk R ws ks=true /\ pZ C h K ns ⟨⟩ (ws++dl ks e) ((R,wrK ws ks)::acc)):=_root_.id rfl
@[simp] theorem KB {t} : dW C hs K ns (some t) u e R acc d=doW C hs K ns ⟨⟩ e R acc [(t,d)] []:=_root_.id rfl
@[simp] theorem KA : dW C hs K ns none u e R acc d=doW C hs K ns ⟨⟩ e R acc [] []:=_root_.id rfl
def aJ (ks : List (Nat × Bool)) (d : D) : D:=if aw ks d then .any else d
theorem bC (ks : List (Nat × Bool)) (d : D) : aJ ks d=bif aw ks d then .any else d:=by
 unfold aJ;cases aw ks d <;> rfl
@[simp] theorem D7 : dl [] e=e:=_root_.id rfl
@[simp] theorem D6 {k ks} : dl (k::ks) []=[]:=_root_.id rfl
@[simp] theorem Ak {k ks s d} : dl (k::ks) ((s,d)::e)=(s,aJ (k::ks) d)::dl (k::ks) e:=_root_.id rfl
@[simp] theorem DO {ks} : aJ ks .any=.any:=by simp [aJ]
@[simp] theorem DU {ks k n} : aJ ks (.int k n)=.int k n:=by simp [aJ,aw,cr,ay]
@[simp] theorem Ah {ks n} : aJ ks (.bool n)=.bool n:=by simp [aJ,aw,cr,ay]
@[simp] theorem D3 {ks n} : aJ ks (.str n)=.str n:=by simp [aJ,aw,cr,ay]
@[simp] theorem Iu {ks} : aJ ks .bb=.bb:=by simp [aJ,aw,cr,ay]
@[simp] theorem Ai {ks} : aJ ks .nilp=.nilp:=by simp [aJ,aw,cr,ay]
@[simp] theorem Aj {ks} : aJ ks .nils=.nils:=by simp [aJ,aw,cr,ay]
@[simp] theorem DM {ks n} : aJ ks (.agg n)=.agg n:=by simp [aJ,aw,cr,ay]
@[simp] theorem D5 {ks n} : aJ ks (.tup n)=.tup n:=by simp [aJ,aw,cr,ay]
@[simp] theorem Ix {ks n} : aJ ks (.sl n)=.sl n:=by simp [aJ,aw,cr,ay]
@[simp] theorem DX {ks n} : aJ ks (.ptr n)=.ptr n:=by simp [aJ,aw,cr,ay]
@[simp] theorem Iv {ks g n} : aJ ks (.fn g n)=.fn g n:=by simp [aJ,aw,cr,ay]
@[simp] theorem DP {ks g n} : aJ ks (.blk g n)=.blk g n:=by simp [aJ,aw,cr,ay]
@[simp] theorem Iw {ks kt et xs vs} : aJ ks (.mp kt et xs vs)=.mp kt et xs vs:=by simp [aJ,aw,cr,ay]
@[simp] theorem DZ {b all ks p k n} : aJ ((b,all)::ks) (.ref p k n)=if bg b all p then .any else aJ ks (.ref p k n):=by
 have h : aJ ((b,all)::ks) (.ref p k n)=bif (bg b all p || aw ks (.ref p k n)) then .any else .ref p k n:=bC ..
 rw [h,bC]
 cases bg b all p <;> rfl
@[simp] theorem DL {b all ks p k n} : aJ ((b,all)::ks) (.adr p k n)=if bg b all p then .any else aJ ks (.adr p k n):=by
 have h : aJ ((b,all)::ks) (.adr p k n)=bif (bg b all p || aw ks (.adr p k n)) then .any else .adr p k n:=bC ..
 rw [h,bC]
 cases bg b all p <;> rfl
@[simp] theorem DN {b all ks n} : aJ ((b,all)::ks) (.agx n)=if n.any (ay b all) then .any else aJ ks (.agx n):=by
 have h : aJ ((b,all)::ks) (.agx n)=bif (n.any (ay b all) || aw ks (.agx n)) then .any else .agx n:=bC ..
 rw [h,bC]
 cases n.any (ay b all) <;> rfl
@[simp] theorem DQ {b all ks g n} : aJ ((b,all)::ks) (.fnx g n)=if n.any (ay b all) then .any else aJ ks (.fnx g n):=by
 have h : aJ ((b,all)::ks) (.fnx g n)=bif (n.any (ay b all) || aw ks (.fnx g n)) then .any else .fnx g n:=bC ..
 rw [h,bC]
 cases n.any (ay b all) <;> rfl
@[simp] theorem DT {ks T n} : aJ ks (.ifi T n)=.ifi T n:=by simp [aJ,aw,cr,ay]
@[simp] theorem D1 {ks q n} : aJ ks (.slv q n)=.slv q n:=by simp [aJ,aw,cr,ay]
@[simp] theorem DS {b all ks T p k n} : aJ ((b,all)::ks) (.ifa T p k n)=if bg b all p then .any else aJ ks (.ifa T p k n):=by
 have h : aJ ((b,all)::ks) (.ifa T p k n)=bif (bg b all p || aw ks (.ifa T p k n)) then .any else .ifa T p k n:=bC ..
 rw [h,bC]
 cases bg b all p <;> rfl
@[simp] theorem DR {b all ks g ds cs} : aJ ((b,all)::ks) (.fny g ds cs)=if ds.any (ay b all) || cs.any (ay b all) then .any else aJ ks (.fny g ds cs):=by
 have h : aJ ((b,all)::ks) (.fny g ds cs)=bif ((ds.any (ay b all) || cs.any (ay b all)) || aw ks (.fny g ds cs)) then .any else .fny g ds cs:=bC ..
 rw [h,bC]
 cases ds.any (ay b all) <;> cases cs.any (ay b all) <;> rfl
@[simp] theorem DW {d} : aJ [] d=d:=by simp [aJ,aw]
@[simp] theorem D2 {ks b es} : aJ ks (slx b es)=slx b es:=by cases b <;> cases es <;> simp [slx]
def gw (C : CC) (hs : Option (List Nat)) (K : Env -> Prop) (ns : List ao) (dst : Option Nat) (_ : Tag (hs,K,ns)) (e : Env) (R : List Nat) (acc : List (List Nat × List Nat)) (sz : Nat) (es : List (List D)) (i : Nat) : Prop :=
 ∃ c,es[i]? = some c /\ c.length=sz /\ cD dst (kOf C hs K ns e R acc) (.ptr c)
@[simp] theorem GS {α : Type} [Inhabited α] {sz : Nat} {xs : List α} {f : α -> List D} {i : Nat} : gw C hs K ns dst u e R acc sz (xs.map f) i=(i < xs.length /\ (f xs[i]!).length=sz /\ dW C hs K ns dst ⟨⟩ e R acc (.ptr (f xs[i]!))):=by
 apply propext
 unfold gw dW
 constructor
 ·rintro ⟨c,h,h1,h2⟩
  rw [List.getElem?_map,Option.map_eq_some_iff] at h
  obtain ⟨x,hx,rfl⟩:=h
  obtain ⟨hi,rfl⟩:=List.getElem?_eq_some_iff.1 hx
  rw [getElem!_pos xs i hi]
  exact ⟨hi,h1,h2⟩
 ·rintro ⟨hi,h1,h2⟩
  rw [getElem!_pos xs i hi] at h1 h2
  exact ⟨_,by rw [List.getElem?_map,List.getElem?_eq_getElem hi];rfl,h1,h2⟩
def y4 (C : CC) (hs : Option (List Nat)) (K : Env -> Prop) (ns : List ao) (dst : Option Nat) (_ : Tag (hs,K,ns)) (e : Env) (R : List Nat) (acc : List (List Nat × List Nat)) (s : List UInt8) (i : Nat) : Prop :=
 ∃ b,s[i]? = some b /\ cD dst (kOf C hs K ns e R acc) (.int .u8 b.toNat)
@[simp] theorem Kw {s : List UInt8} {i : Nat} : y4 C hs K ns dst u e R acc s i=(i < s.length /\ dW C hs K ns dst ⟨⟩ e R acc (.int .u8 (s[i]!).toNat)):=by
 apply propext
 unfold y4 dW
 constructor
 ·rintro ⟨b,h,h2⟩
  obtain ⟨hi,rfl⟩:=List.getElem?_eq_some_iff.1 h
  rw [getElem!_pos s i hi]
  exact ⟨hi,h2⟩
 ·rintro ⟨hi,h2⟩
  rw [getElem!_pos s i hi] at h2
  exact ⟨_,List.getElem?_eq_getElem hi,h2⟩
def jY (C : CC) (hs : Option (List Nat)) (K : Env -> Prop) (ns : List ao) (dst : Option Nat) (_ : Tag (hs,K,ns)) (e : Env) (R : List Nat) (acc : List (List Nat × List Nat)) (n : Nat) (ag : Bool) (p : Pa) (es : List (List D)) (i off : Nat) : Prop :=
 ∃ r,es[i]? = some r /\ off + n <= r.length /\ match ag with
    | true=>(((r.drop off).take n).all isV=true -> cD dst (kOf C hs K ns e R acc) (.agg ((r.drop off).take n))) /\
      (((r.drop off).take n).all isV=false -> cD dst (kOf C hs K ns e R acc) (.agx (((r.drop off).take n).mapIdx fun j c=>ldc p i (off + j) c)))
    | false=>cD dst (kOf C hs K ns e R acc) (ldc p i off ((r.drop off).headD .any))
theorem qJ {n : Nat} {ag : Bool} {p : Pa} {es : List (List D)} {i off : Nat} {r : List D} (hr : es[i]? = some r) (hl : off + n <= r.length) (hk : match ag with
    | true=>(((r.drop off).take n).all isV=true -> dW C hs K ns dst ⟨⟩ e R acc (.agg ((r.drop off).take n))) /\
      (((r.drop off).take n).all isV=false -> dW C hs K ns dst ⟨⟩ e R acc (.agx (((r.drop off).take n).mapIdx fun j c=>ldc p i (off + j) c)))
    | false=>dW C hs K ns dst ⟨⟩ e R acc (ldc p i off ((r.drop off).headD .any))) : jY C hs K ns dst u e R acc n ag p es i off:=by
 refine ⟨r,hr,hl,?_⟩
 cases ag <;> exact hk
@[simp] theorem JY {n : Nat} {ag : Bool} {p : Pa} {r : List D} {off : Nat} : jY C hs K ns dst u e R acc n ag p [r] 0 off=(off + n <= r.length /\ match ag with
    | true=>(((r.drop off).take n).all isV=true -> dW C hs K ns dst ⟨⟩ e R acc (.agg ((r.drop off).take n))) /\
      (((r.drop off).take n).all isV=false -> dW C hs K ns dst ⟨⟩ e R acc (.agx (((r.drop off).take n).mapIdx fun j c=>ldc p 0 (off + j) c)))
    | false=>dW C hs K ns dst ⟨⟩ e R acc (ldc p 0 off ((r.drop off).headD .any))):=by
 apply propext
 constructor
 ·rintro ⟨r',h1,h2,h3⟩
  simp at h1;subst h1
  refine ⟨h2,?_⟩
  cases ag <;> exact h3
 ·rintro ⟨h2,h3⟩
  refine ⟨r,rfl,h2,?_⟩
  cases ag <;> exact h3
end
section
variable {C : CC} {Q : ca -> Env -> Prop} {e : Env} {K : Env -> Prop} {dst : Option Nat} {hs : Option (List Nat)} {ns : List ao} {R : List Nat} {acc : List (List Nat × List Nat)} {u : Tag (hs,K,ns)}
@[simp] theorem Pb {x v1} : opW C hs K ns dst (.mov x) v1 e R acc=(isS (vd (aa e) x)=true /\ dW C hs K ns dst ⟨⟩ e R acc (vd (aa e) x)):=_root_.id rfl
@[simp] theorem Pe {x v1} : opW C hs K ns dst (.nck x) v1 e R acc=(match (generalizing:=false) vd (aa e) x with
  | .ptr ds=>dW C hs K ns dst ⟨⟩ e R acc (.ptr ds)
  | .adr p i off=>dW C hs K ns dst ⟨⟩ e R acc (.adr p i off)
  | .ptx ds=>dW C hs K ns dst ⟨⟩ e R acc (.ptx ds)
  | _=>False):=_root_.id rfl
@[simp] theorem JJ {c a b v1} : opW C hs K ns dst (.pick c a b) v1 e R acc=(match (generalizing:=false) vd (aa e) c with
  | .bool v=>(v=true -> isS (vd (aa e) a)=true /\ dW C hs K ns dst ⟨⟩ e R acc (vd (aa e) a)) /\ (v=false -> isS (vd (aa e) b)=true /\ dW C hs K ns dst ⟨⟩ e R acc (vd (aa e) b))
  | _=>False):=_root_.id rfl
@[simp] theorem OS {op x y v1} : opW C hs K ns dst (.bin op x y) v1 e R acc=(match (generalizing:=false) vd (aa e) x,vd (aa e) y with
  | .int k a,.int k' b=>match (generalizing:=false) op with
   | .add=>k=k' /\ dW C hs K ns dst ⟨⟩ e R acc (.int k (k.wrap (a + b)))
   | .sub=>k=k' /\ dW C hs K ns dst ⟨⟩ e R acc (.int k (k.wrap (a - b)))
   | .mul=>k=k' /\ dW C hs K ns dst ⟨⟩ e R acc (.int k (k.wrap (a * b)))
   | .quo=>k=k' /\ b ≠ 0 /\ dW C hs K ns dst ⟨⟩ e R acc (.int k (k.wrap (a.tdiv b)))
   | .rem=>k=k' /\ b ≠ 0 /\ dW C hs K ns dst ⟨⟩ e R acc (.int k (a.tmod b))
   | .and=>k=k' /\ dW C hs K ns dst ⟨⟩ e R acc (.int k (bits .and k a b))
   | .or=>k=k' /\ dW C hs K ns dst ⟨⟩ e R acc (.int k (bits .or k a b))
   | .xor=>k=k' /\ dW C hs K ns dst ⟨⟩ e R acc (.int k (bits .xor k a b))
   | .andNot=>k=k' /\ dW C hs K ns dst ⟨⟩ e R acc (.int k (bits .andNot k a b))
   | .shl=>0 <= b /\ dW C hs K ns dst ⟨⟩ e R acc (.int k (k.wrap (a * 2 ^ (min b.toNat k.bits))))
   | .shr=>0 <= b /\ dW C hs K ns dst ⟨⟩ e R acc (.int k (a.fdiv (2 ^ (min b.toNat k.bits))))
   | .eql=>k=k' /\ dW C hs K ns dst ⟨⟩ e R acc (.bool (decide (a=b)))
   | .neq=>k=k' /\ dW C hs K ns dst ⟨⟩ e R acc (.bool (!decide (a=b)))
   | .lss=>k=k' /\ dW C hs K ns dst ⟨⟩ e R acc (.bool (decide (a < b)))
   | .leq=>k=k' /\ dW C hs K ns dst ⟨⟩ e R acc (.bool (decide (a <= b)))
   | .gtr=>k=k' /\ dW C hs K ns dst ⟨⟩ e R acc (.bool (decide (b < a)))
   | .geq=>k=k' /\ dW C hs K ns dst ⟨⟩ e R acc (.bool (decide (b <= a)))
  | .str a,.str b=>match (generalizing:=false) op with
   | .eql=>dW C hs K ns dst ⟨⟩ e R acc (.bool (decide (a=b)))
   | .neq=>dW C hs K ns dst ⟨⟩ e R acc (.bool (!decide (a=b)))
   | .add=>((a++b).length : Int) <= 9223372036854775807 /\ dW C hs K ns dst ⟨⟩ e R acc (.str (a++b))
   | .lss=>dW C hs K ns dst ⟨⟩ e R acc (.bool (Op.bytesLess a b))
   | .leq=>dW C hs K ns dst ⟨⟩ e R acc (.bool (Op.bytesLess a b || a == b))
   | .gtr=>dW C hs K ns dst ⟨⟩ e R acc (.bool !(Op.bytesLess a b || a == b))
   | .geq=>dW C hs K ns dst ⟨⟩ e R acc (.bool !(Op.bytesLess a b))
   | _=>False
  | _,_=>False):=_root_.id rfl
@[simp] theorem Q0 {op x v1} : opW C hs K ns dst (.un op x) v1 e R acc=(match (generalizing:=false) vd (aa e) x with
  | .bool b=>match (generalizing:=false) op with
   | .not=>dW C hs K ns dst ⟨⟩ e R acc (.bool (!b))
   | _=>False
  | .int k n=>match (generalizing:=false) op with
   | .neg=>dW C hs K ns dst ⟨⟩ e R acc (.int k (k.wrap (0 - n)))
   | _=>False
  | _=>False):=_root_.id rfl
@[simp] theorem JC {k x v1} : opW C hs K ns dst (.conv k x) v1 e R acc=(match (generalizing:=false) vd (aa e) x with
  | .int _ n=>dW C hs K ns dst ⟨⟩ e R acc (.int k (k.wrap n))
  | _=>False):=_root_.id rfl
@[simp] theorem OR {neg ks x y v1} : opW C hs K ns dst (.beq neg ks x y) v1 e R acc=(match (generalizing:=false) vd (aa e) x,vd (aa e) y with
  | .bool a,.bool b=>ks=[] /\ dW C hs K ns dst ⟨⟩ e R acc (.bool ((a == b) != neg))
  | .agg a,.agg b=>ks ≠ [] /\ match (generalizing:=false) b0 ks a b with
   | some r=>dW C hs K ns dst ⟨⟩ e R acc (.bool (r != neg))
   | none=>False
  | .nils,.nils=>ks=[9] /\ dW C hs K ns dst ⟨⟩ e R acc (.bool (!neg))
  | .sl es,.nils=>ks=[9] /\ (0 < es.length -> dW C hs K ns dst ⟨⟩ e R acc (.bool neg)) /\ (es.length=0 -> dW C hs K ns dst ⟨⟩ e R acc .bb)
  | .nilp,.nilp=>ks=[8] /\ dW C hs K ns dst ⟨⟩ e R acc (.bool (!neg))
  | .ptr _,.nilp=>ks=[8] /\ dW C hs K ns dst ⟨⟩ e R acc (.bool neg)
  | _,_=>False):=_root_.id rfl
@[simp] theorem O1 {off n ag x v1} : opW C hs K ns dst (.fld off n ag x) v1 e R acc=(match (generalizing:=false) vd (aa e) x with
  | .agg ds=>off + n <= ds.length /\ dW C hs K ns dst ⟨⟩ e R acc (kR ag n (ds.drop off))
  | .agx ds=>off + n <= ds.length /\ match (generalizing:=false) ag with
   | true=>dW C hs K ns dst ⟨⟩ e R acc (.agx ((ds.drop off).take n))
   | false=>dW C hs K ns dst ⟨⟩ e R acc ((ds.drop off).headD .any)
  | _=>False):=_root_.id rfl
@[simp] theorem JF {len sz ag x i v1} : opW C hs K ns dst (.idxA len sz ag x i) v1 e R acc=(match (generalizing:=false) vd (aa e) x,vd (aa e) i with
  | .agg ds,.int _ j=>0 <= j /\ j < len /\ j.toNat * sz + sz <= ds.length /\ dW C hs K ns dst ⟨⟩ e R acc (kR ag sz (ds.drop (j.toNat * sz)))
  | .agx ds,.int _ j=>0 <= j /\ j < len /\ j.toNat * sz + sz <= ds.length /\ match (generalizing:=false) ag with
   | true=>dW C hs K ns dst ⟨⟩ e R acc (.agx ((ds.drop (j.toNat * sz)).take sz))
   | false=>dW C hs K ns dst ⟨⟩ e R acc ((ds.drop (j.toNat * sz)).headD .any)
  | _,_=>False):=_root_.id rfl
@[simp] theorem Pf {len sz x v1} : opW C hs K ns dst (.slA len sz x) v1 e R acc=(match (generalizing:=false) vd (aa e) x with
  | .ptr ds=>0 < len /\ 0 < sz /\ len * sz <= ds.length /\ dW C hs K ns dst ⟨⟩ e R acc (.sl (bP sz len ds))
  | _=>False):=_root_.id rfl
@[simp] theorem OY {x v1} : opW C hs K ns dst (.cvS x) v1 e R acc=(match (generalizing:=false) vd (aa e) x with
  | .sl es=>0 < es.length /\ (∀ r ∈ es,∃ n : Nat,r=[.int .u8 n] /\ n < 256) /\ dW C hs K ns dst ⟨⟩ e R acc (.str (es.map iL))
  | _=>False):=_root_.id rfl
@[simp] theorem JG {x i v1} : opW C hs K ns dst (.idxS x i) v1 e R acc=(match (generalizing:=false) vd (aa e) x,vd (aa e) i with
  | .str s,.int _ j=>0 <= j /\ y4 C hs K ns dst ⟨⟩ e R acc s j.toNat
  | _,_=>False):=_root_.id rfl
@[simp] theorem OZ {i x v1} : opW C hs K ns dst (.ext i x) v1 e R acc=(match (generalizing:=false) vd (aa e) x with
  | .tup ds=>∃ d,ds[i]? = some d /\ dW C hs K ns dst ⟨⟩ e R acc d
  | .tpx ds=>∃ d,ds[i]? = some d /\ dW C hs K ns dst ⟨⟩ e R acc d
  | _=>False):=_root_.id rfl
@[simp] theorem O0 {off x v1} : opW C hs K ns dst (.fad off x) v1 e R acc=(match (generalizing:=false) vd (aa e) x with
  | .adr p i o=>dW C hs K ns dst ⟨⟩ e R acc (.adr p i (o + off))
  | .ptr ds=>dW C hs K ns dst ⟨⟩ e R acc (.ptr (ds.drop off))
  | .ptx ds=>dW C hs K ns dst ⟨⟩ e R acc (.ptx (ds.drop off))
  | _=>False):=_root_.id rfl
@[simp] theorem JD {len sz x i v1} : opW C hs K ns dst (.iadA len sz x i) v1 e R acc=(match (generalizing:=false) vd (aa e) x,vd (aa e) i with
  | .adr p r o,.int _ j=>0 <= j /\ j < len /\ dW C hs K ns dst ⟨⟩ e R acc (.adr p r (o + j.toNat * sz))
  | .ptr ds,.int _ j=>0 <= j /\ j < len /\ dW C hs K ns dst ⟨⟩ e R acc (.ptr (ds.drop (j.toNat * sz)))
  | _,_=>False):=_root_.id rfl
@[simp] theorem QV {n ag x v1} : opW C hs K ns dst (.ld n ag x) v1 e R acc=(match (generalizing:=false) vd (aa e) x with
  | .adr p i off=>match (generalizing:=false) aM (aa e) p with
   | some (_,es)=>jY C hs K ns dst ⟨⟩ e R acc n ag p es i off
   | none=>False
  | .ptr ds=>n <= ds.length /\ dW C hs K ns dst ⟨⟩ e R acc (kR ag n ds)
  | .ptx ds=>n <= ds.length /\ match (generalizing:=false) ag with
   | true=>((ds.take n).all isV=true -> dW C hs K ns dst ⟨⟩ e R acc (.agg (ds.take n))) /\ ((ds.take n).all isV=false -> dW C hs K ns dst ⟨⟩ e R acc (.agx (ds.take n)))
   | false=>0 < n /\ dW C hs K ns dst ⟨⟩ e R acc (ds.headD .any)
  | _=>False):=_root_.id rfl
@[simp] theorem OT {zs parts v1} : opW C hs K ns dst (.bld zs parts) v1 e R acc=((∀ p ∈ parts,isS (vd (aa e) p.2.2)=true /\ p.1 + p.2.1 <= zs.length /\ match (generalizing:=false) vd (aa e) p.2.2 with
    | .agg ds=>ds.length=p.2.1
    | .agx ds=>ds.length=p.2.1
    | .any=>False
    | .tpx _=>False
    | .ptx _=>False
    | .rfx _ _ _=>False
    | .fny _ _ _=>False
    | .fnx _ _=>False
    | _=>p.2.1=1) /\
   ((parts.all fun p=>isV (vd (aa e) p.2.2))=true -> dW C hs K ns dst ⟨⟩ e R acc (.agg (gK zs (parts.map fun p=>(p.1,p.2.1,vd (aa e) p.2.2))))) /\
   ((parts.all fun p=>isV (vd (aa e) p.2.2))=false -> dW C hs K ns dst ⟨⟩ e R acc (.agx (gK zs (parts.map fun p=>(p.1,p.2.1,bK (vd (aa e) p.2.2))))))):=_root_.id rfl
@[simp] theorem JH {x v1} : opW C hs K ns dst (.lens x) v1 e R acc=(match (generalizing:=false) vd (aa e) x with
  | .str s=>dW C hs K ns dst ⟨⟩ e R acc (.int .i64 s.length)
  | _=>False):=_root_.id rfl
@[simp] theorem QW {g xs v1} : opW C hs K ns dst (.mk g xs) v1 e R acc=((∀ x ∈ xs,isP (vd (aa e) x)=true) /\ ((xs.all fun x=>isV (vd (aa e) x))=true -> dW C hs K ns dst ⟨⟩ e R acc (.fn g (xs.map (vd (aa e))))) /\ ((xs.all fun x=>isV (vd (aa e) x))=false -> dW C hs K ns dst ⟨⟩ e R acc (.fnx g (xs.map (vd (aa e)))))):=_root_.id rfl
@[simp] theorem Ph {x lo hi v1} : opW C hs K ns dst (.slS x lo hi) v1 e R acc=(match (generalizing:=false) vd (aa e) x with
  | .str s=>cX (aa e) hi s.length (fun h=>cX (aa e) lo 0 (fun l=>l <= h /\ h <= s.length /\ dW C hs K ns dst ⟨⟩ e R acc (.str ((s.take h).drop l))) ⟨⟩) ⟨⟩
  | _=>False):=_root_.id rfl
@[simp] theorem QX {x y v1} : opW C hs K ns dst (.mn x y) v1 e R acc=(match (generalizing:=false) vd (aa e) x,vd (aa e) y with
  | .int k a,.int k' b=>k=k' /\ dW C hs K ns dst ⟨⟩ e R acc (.int k (if b < a then b else a))
  | _,_=>False):=_root_.id rfl
@[simp] theorem QY {x y v1} : opW C hs K ns dst (.mx x y) v1 e R acc=(match (generalizing:=false) vd (aa e) x,vd (aa e) y with
  | .int k a,.int k' b=>k=k' /\ dW C hs K ns dst ⟨⟩ e R acc (.int k (if a < b then b else a))
  | _,_=>False):=_root_.id rfl
@[simp] theorem Es {x y c v1} : opW C hs K ns dst (.add64 x y c) v1 e R acc=(match (generalizing:=false) vd (aa e) x,vd (aa e) y,vd (aa e) c with
  | .int .u64 a,.int .u64 b,.int .u64 k=>0 <= a /\ a < 18446744073709551616 /\ 0 <= b /\ b < 18446744073709551616 /\ 0 <= k /\ k <= 1 /\
    dW C hs K ns dst ⟨⟩ e R acc (.tup [.int .u64 ((a + b + k) % 18446744073709551616),.int .u64 ((a + b + k) / 18446744073709551616)])
  | _,_,_=>False):=_root_.id rfl
@[simp] theorem EE {x y c v1} : opW C hs K ns dst (.sub64 x y c) v1 e R acc=(match (generalizing:=false) vd (aa e) x,vd (aa e) y,vd (aa e) c with
  | .int .u64 a,.int .u64 b,.int .u64 k=>0 <= a /\ a < 18446744073709551616 /\ 0 <= b /\ b < 18446744073709551616 /\ 0 <= k /\ k <= 1 /\
    dW C hs K ns dst ⟨⟩ e R acc (.tup [.int .u64 ((a - b - k) % 18446744073709551616),.int .u64 (if a < b + k then 1 else 0)])
  | _,_,_=>False):=_root_.id rfl
@[simp] theorem JI {sz v1} : opW C hs K ns dst (.nilo sz) v1 e R acc=(match (generalizing:=false) dst with
  | some t=>0 < sz /\ doW C hs K ns ⟨⟩ e R acc [(t,.ref (.r (rt t 0)) 0 0),(rt t 0,.blk sz [])] [(rt t 0,true)]
  | none=>False):=_root_.id rfl
@[simp] theorem OV {x t v1} : opW C hs K ns (some t) (.box [] x) v1 e R acc=fF (aa e) (vd (aa e) x) [] (fun cs bs=>bs.contains (rt t 0)=false /\ doW C hs K ns ⟨⟩ e R acc ((t,.adr (.r (rt t 0)) 0 0)::(rt t 0,.blk cs.length [cs])::bO bs) [(rt t 0,true)]) ⟨⟩:=_root_.id rfl
@[simp] theorem OO {zs v1} : opW C hs K ns dst (.alc zs) v1 e R acc=(match (generalizing:=false) dst with
  | some t=>doW C hs K ns ⟨⟩ e R acc [(t,.adr (.r (rt t 0)) 0 0),(rt t 0,.blk zs.length [zs])] [(rt t 0,true)]
  | none=>False):=_root_.id rfl
@[simp] theorem OU {sz len zs parts t v1} : opW C hs K ns (some t) (.bls sz len zs [] parts) v1 e R acc=nQ (aa e) sz parts (List.replicate len zs) [] (fun es bs=>bE bs=true /\ bs.contains (rt t 0)=false /\ doW C hs K ns ⟨⟩ e R acc ((t,.ref (.r (rt t 0)) 0 len)::(rt t 0,.blk sz es)::bO bs) [(rt t 0,true)]) ⟨⟩:=_root_.id rfl
@[simp] theorem O9 {sz by_ zs n c v1} : opW C hs K ns dst (.mks sz by_ zs n c) v1 e R acc=(match (generalizing:=false) dst with
  | some t=>match (generalizing:=false) vd (aa e) n,vd (aa e) c with
   | .int _ n,.int _ c=>0 <= n /\ n <= c /\ c * by_ <= 140737488355328 /\ doW C hs K ns ⟨⟩ e R acc [(t,.ref (.r (rt t 0)) 0 n.toNat),(rt t 0,.blk sz (List.replicate c.toNat zs))] [(rt t 0,true)]
   | _,_=>False
  | none=>False):=_root_.id rfl
def stM (C : CC) (hs : Option (List Nat)) (K : Env -> Prop) (ns : List ao) (_ : Tag (hs,K,ns)) (e : Env) (R : List Nat) (acc : List (List Nat × List Nat)) (n : Nat) (v : D) (cs : List D) (bs : List Nat) (a : D) : Prop:=match a with
 | .adr (.r b) i off=>bs.contains b=false /\ cC (aa e b) (fun sz es=>fE es[i]? (fun r=>off + n <= r.length /\ doW C hs K ns ⟨⟩ e R acc ((b,.blk sz (aW es i off n cs))::bO bs) (stK v [] b)) ⟨⟩) ⟨⟩
 | .adr (.n b i0 o0) i off=>bs=[] /\ (∀ c ∈ cs,ar c=true) /\ cC (aa e b) (fun sz0 es0=>fE es0[i0]? (fun row0=>iU row0[o0]? (fun sz es=>fE es[i]? (fun r=>off + n <= r.length /\ doW C hs K ns ⟨⟩ e R acc [(b,.blk sz0 (aW es0 i0 o0 1 [.own sz (aW es i off n cs)]))] []) ⟨⟩) ⟨⟩) ⟨⟩) ⟨⟩
 | _=>False
@[simp] theorem Rn {n v cs bs b i off} : stM C hs K ns u e R acc n v cs bs (.adr (.r b) i off)=(bs.contains b=false /\ cC (aa e b) (fun sz es=>fE es[i]? (fun r=>off + n <= r.length /\ doW C hs K ns ⟨⟩ e R acc ((b,.blk sz (aW es i off n cs))::bO bs) (stK v [] b)) ⟨⟩) ⟨⟩):=_root_.id rfl
@[simp] theorem Rm {n v cs bs b i0 o0 i off} : stM C hs K ns u e R acc n v cs bs (.adr (.n b i0 o0) i off)=(bs=[] /\ (∀ c ∈ cs,ar c=true) /\ cC (aa e b) (fun sz0 es0=>fE es0[i0]? (fun row0=>iU row0[o0]? (fun sz es=>fE es[i]? (fun r=>off + n <= r.length /\ doW C hs K ns ⟨⟩ e R acc [(b,.blk sz0 (aW es0 i0 o0 1 [.own sz (aW es i off n cs)]))] []) ⟨⟩) ⟨⟩) ⟨⟩) ⟨⟩):=_root_.id rfl
@[simp] theorem QZ {n a v v1} : opW C hs K ns dst (.st n [] a v) v1 e R acc=(dst=none /\ fF (aa e) (vd (aa e) v) [] (fun cs bs=>cs.length=n /\ stM C hs K ns ⟨⟩ e R acc n (vd (aa e) v) cs bs (vd (aa e) a)) ⟨⟩):=by
 show (dst=none /\ eP (aa e) (vd (aa e) v) [] _)=(dst=none /\ eP (aa e) (vd (aa e) v) [] _)
 congr 1
 congr 1
 funext cs bs
 cases vd (aa e) a <;> try rfl
 rename_i p i off
 cases p with
 | r b =>
  simp only [stM,cC,eG]
  cases aa e b <;> rfl
 | n b i0 o0 =>
  simp only [stM,cC,eG,iu]
  cases aa e b <;> rfl
def re (C : CC) (hs : Option (List Nat)) (K : Env -> Prop) (ns : List ao) (_ : Tag (hs,K,ns)) (e : Env) (R : List Nat) (acc : List (List Nat × List Nat)) (t sz by_ : Nat) (rowsY : List (List D)) (bs : List Nat) (x : D) : Prop:=match x with
 | .nils=>rowsY.length * by_ <= 140737488355328 /\ doW C hs K ns ⟨⟩ e R acc ((t,.ref (.r (rt t 0)) 0 rowsY.length)::(rt t 0,.blk sz rowsY)::bO bs) [(rt t 0,true)]
 | .ref (.r c) k n=>c ≠ rt t 0 /\ bs.contains c=false /\ cC (aa e c) (fun sz' es=>sz'=sz /\ k + n <= es.length /\ (n + rowsY.length) * by_ <= 140737488355328 /\
      doW C hs K ns ⟨⟩ e R acc ((t,.ref (.r (rt t 0)) 0 (n + rowsY.length))::(rt t 0,.blk sz ((es.drop k).take n++rowsY))::(c,.any)::bO bs) [(rt t 0,true)]) ⟨⟩
 | .ref (.n c i o) k n=>c ≠ rt t 0 /\ bs.contains c=false /\ cC (aa e c) (fun sz0 es0=>fE es0[i]? (fun row0=>iU row0[o]? (fun sz' es=>sz'=sz /\ k + n <= es.length /\ (n + rowsY.length) * by_ <= 140737488355328 /\
      doW C hs K ns ⟨⟩ e R acc ((t,.ref (.r (rt t 0)) 0 (n + rowsY.length))::(rt t 0,.blk sz ((es.drop k).take n++rowsY))::(c,.blk sz0 (aW es0 i o 1 [.any]))::bO bs) [(rt t 0,true)]) ⟨⟩) ⟨⟩) ⟨⟩
 | _=>False
@[simp] theorem B3 {t sz by_ rowsY bs} : re C hs K ns u e R acc t sz by_ rowsY bs .nils=(rowsY.length * by_ <= 140737488355328 /\ doW C hs K ns ⟨⟩ e R acc ((t,.ref (.r (rt t 0)) 0 rowsY.length)::(rt t 0,.blk sz rowsY)::bO bs) [(rt t 0,true)]):=_root_.id rfl
@[simp] theorem PB {t sz by_ rowsY bs c k n} : re C hs K ns u e R acc t sz by_ rowsY bs (.ref (.r c) k n)=(c ≠ rt t 0 /\ bs.contains c=false /\ cC (aa e c) (fun sz' es=>sz'=sz /\ k + n <= es.length /\ (n + rowsY.length) * by_ <= 140737488355328 /\
      doW C hs K ns ⟨⟩ e R acc ((t,.ref (.r (rt t 0)) 0 (n + rowsY.length))::(rt t 0,.blk sz ((es.drop k).take n++rowsY))::(c,.any)::bO bs) [(rt t 0,true)]) ⟨⟩):=_root_.id rfl
@[simp] theorem PA {t sz by_ rowsY bs c i o k n} : re C hs K ns u e R acc t sz by_ rowsY bs (.ref (.n c i o) k n)=(c ≠ rt t 0 /\ bs.contains c=false /\ cC (aa e c) (fun sz0 es0=>fE es0[i]? (fun row0=>iU row0[o]? (fun sz' es=>sz'=sz /\ k + n <= es.length /\ (n + rowsY.length) * by_ <= 140737488355328 /\
      doW C hs K ns ⟨⟩ e R acc ((t,.ref (.r (rt t 0)) 0 (n + rowsY.length))::(rt t 0,.blk sz ((es.drop k).take n++rowsY))::(c,.blk sz0 (aW es0 i o 1 [.any]))::bO bs) [(rt t 0,true)]) ⟨⟩) ⟨⟩) ⟨⟩):=_root_.id rfl
@[simp] theorem OP {sz by_ mv x y t v1} : opW C hs K ns (some t) (.app sz by_ mv x y) v1 e R acc=gY (aa e) mv (vd (aa e) y) sz (fun rowsY bs=>bs.contains (rt t 0)=false /\ re C hs K ns ⟨⟩ e R acc t sz by_ rowsY bs (vd (aa e) x)) ⟨⟩:=by
 unfold opW gY
 simp only [aq]
 congr 1
 funext rowsY bs
 congr 1
 cases vd (aa e) x <;> try rfl
 rename_i p k n
 cases p with
 | r c =>
  simp only [re,cC]
  cases aa e c <;> rfl
 | n c i o =>
  simp only [re,cC,eG,iu]
  cases hl : aa e c <;> try rfl
  rename_i sz0 es0
  refine congrArg _ (congrArg _ (propext ⟨?_,?_⟩))
  ·rintro ⟨row0,h1,es,h2,h3⟩
   exact ⟨row0,h1,sz,es,h2,rfl,h3⟩
  ·rintro ⟨row0,h1,sz',es,h2,rfl,h3⟩
   exact ⟨row0,h1,es,h2,h3⟩
@[simp] theorem Kd {g b n xs sz es} : Bn C g hs K ns dst u e R acc b n xs (.blk sz es)=(es.length=n /\ (∀ e ∈ es,∀ c ∈ e,ar c=true) /\ (∀ x ∈ xs,bl (fbE (aa e) b) (vd (fbE (aa e) b) x)) /\ pj C g hs K ns dst ⟨⟩ e R acc b sz es (xs.map (dpv (fbE (aa e) b))) (xs.all fun y=>isV (vd (fbE (aa e) b) y))):=_root_.id rfl
@[simp] theorem Kf {g xs b k n} : Ke C g hs K ns dst u e R acc xs (.ref (.r b) k n)=(k=0 /\ Bn C g hs K ns dst ⟨⟩ e R acc b n xs (aa e b)):=_root_.id rfl
@[simp] theorem EC {g x xs v1} : opW C hs K ns dst (.callS g x xs) v1 e R acc=(Ke C g hs K ns dst ⟨⟩ e R acc xs (vd (aa e) x)):=by
 cases dst <;> rfl
def vm (n : Nat) (d : D) : Prop:=match d with
 | .blk _ es=>es.length=n /\ ∀ e ∈ es,∀ c ∈ e,aP c=true
 | _=>False
def oe (f : Nat -> D) (b : Nat) (d : D) : Prop:=match d with
 | .ref (.r c) k n=>k=0 /\ c ≠ b /\ vm n (f c)
 | d=>isV d=true
def wo (d : D) : D:=match d with
 | .blk sz es=>.own sz es
 | _=>.any
def qm (f : Nat -> D) (d : D) : D:=match d with
 | .ref (.r c) _ _=>wo (f c)
 | d=>d
@[simp] theorem Fj {n sz es} : vm n (.blk sz es)=(es.length=n /\ ∀ e ∈ es,∀ c ∈ e,aP c=true):=_root_.id rfl
@[simp] theorem JM {sz es} : wo (.blk sz es)=.own sz es:=_root_.id rfl
@[simp] theorem Ko {f : Nat -> D} {b : Nat} {x : Opd} : kP f b x=oe f b (vd f x):=by
 unfold kP oe vm
 cases vd f x <;> rfl
@[simp] theorem Kp {f : Nat -> D} {x : Opd} : jF f x=qm f (vd f x):=by
 unfold jF qm wo
 cases vd f x <;> rfl
@[simp] theorem B5 {f : Nat -> D} {b c k n} : oe f b (.ref (.r c) k n)=(k=0 /\ c ≠ b /\ vm n (f c)):=_root_.id rfl
@[simp] theorem B7 {f : Nat -> D} {c k n} : qm f (.ref (.r c) k n)=wo (f c):=_root_.id rfl
@[simp] theorem B4 {f : Nat -> D} {b k n} : oe f b (.int k n)=True:=by simp [oe,isV]
@[simp] theorem B6 {f : Nat -> D} {k n} : qm f (.int k n)=.int k n:=_root_.id rfl
def vB (C : CC) (g : Nat) (hs : Option (List Nat)) (K : Env -> Prop) (ns : List ao) (t : Nat) (_ : Tag (hs,K,ns)) (e : Env) (R : List Nat) (acc : List (List Nat × List Nat)) (sz : Nat) (W : List (List D)) (ds : List D) (q : Nat × D) : Prop :=
 ∃ es' : List (List D),(∀ e ∈ es',e.length=sz /\ ∀ c ∈ e,aP c=true) /\ C g (.own sz W::ds) .any [.own sz es',.nils,.nils] /\ doW C hs K ns ⟨⟩ e R acc [(t,.ref (.r (rt t 0)) 0 es'.length),(rt t 0,.blk sz es'),q] [(rt t 0,true)]
def td (C : CC) (g : Nat) (hs : Option (List Nat)) (K : Env -> Prop) (ns : List ao) (t : Nat) (_ : Tag (hs,K,ns)) (e : Env) (R : List Nat) (acc : List (List Nat × List Nat)) (xs : List Opd) (d : D) : Prop:=match d with
 | .ref (.r b) k n=>cC (aa e b) (fun sz es=>k + n <= es.length /\ b ≠ rt t 0 /\ 0 < sz /\ (∀ e ∈ (es.drop k).take n,∀ c ∈ e,aP c=true) /\ (∀ x ∈ xs,kP (aa e) b x) /\ vB C g hs K ns t ⟨⟩ e R acc sz ((es.drop k).take n) (xs.map (jF (aa e))) (b,.any)) ⟨⟩
 | .ref (.n b i o) k n=>cC (aa e b) (fun sz0 es0=>fE es0[i]? (fun row0=>iU row0[o]? (fun sz es=>k + n <= es.length /\ b ≠ rt t 0 /\ 0 < sz /\ (∀ e ∈ (es.drop k).take n,∀ c ∈ e,aP c=true) /\ (∀ x ∈ xs,kP (aa e) b x) /\
   vB C g hs K ns t ⟨⟩ e R acc sz ((es.drop k).take n) (xs.map (jF (aa e))) (b,.blk sz0 (aW es0 i o 1 [.any]))) ⟨⟩) ⟨⟩) ⟨⟩
 | _=>False
@[simp] theorem Qa {g xs t b k n} : td C g hs K ns t u e R acc xs (.ref (.r b) k n)=cC (aa e b) (fun sz es=>k + n <= es.length /\ b ≠ rt t 0 /\ 0 < sz /\ (∀ e ∈ (es.drop k).take n,∀ c ∈ e,aP c=true) /\ (∀ x ∈ xs,kP (aa e) b x) /\ vB C g hs K ns t ⟨⟩ e R acc sz ((es.drop k).take n) (xs.map (jF (aa e))) (b,.any)) ⟨⟩:=_root_.id rfl
@[simp] theorem P9 {g xs t b i o k n} : td C g hs K ns t u e R acc xs (.ref (.n b i o) k n)=cC (aa e b) (fun sz0 es0=>fE es0[i]? (fun row0=>iU row0[o]? (fun sz es=>k + n <= es.length /\ b ≠ rt t 0 /\ 0 < sz /\ (∀ e ∈ (es.drop k).take n,∀ c ∈ e,aP c=true) /\ (∀ x ∈ xs,kP (aa e) b x) /\
   vB C g hs K ns t ⟨⟩ e R acc sz ((es.drop k).take n) (xs.map (jF (aa e))) (b,.blk sz0 (aW es0 i o 1 [.any]))) ⟨⟩) ⟨⟩) ⟨⟩:=_root_.id rfl
@[simp] theorem Eu {g x xs t v1} : opW C hs K ns (some t) (.callE g x xs) v1 e R acc=td C g hs K ns t ⟨⟩ e R acc xs (vd (aa e) x):=by
 unfold opW
 simp only [aq]
 cases vd (aa e) x <;> try rfl
 rename_i p k n
 cases p with
 | r b =>
  simp only [td,cC,aM,Pa.root,cJ]
  cases aa e b <;> rfl
 | n b i o =>
  simp only [td,cC,eG,iu,aM,Pa.root,cJ]
  cases hl : aa e b <;> try rfl
  rename_i sz0 es0
  simp only
  cases hi : es0[i]? with
  | none=>simp
  | some row0 =>
   simp only [Option.getD_some,Option.some.injEq,exists_eq_left']
   cases ho : row0[o]? with
   | none=>simp
   | some d =>
    cases d
    case own sz es=>exact propext ⟨fun h=>⟨sz,es,rfl,h⟩,fun ⟨sz',es',h0,h⟩=>by cases h0;exact h⟩
    all_goals simp
@[simp] theorem Db {f : Nat -> D} {b k n sz es} : bU f (.ref (.r b) k n) (.own sz es)=(k=0 /\ n=es.length /\ f b=.blk sz es):=_root_.id rfl
@[simp] theorem C9 {f : Nat -> D} {b k n sz es} : bU f (.adr (.r b) k n) (.blk sz es)=(k=0 /\ n=0 /\ f b=.blk sz es):=_root_.id rfl
@[simp] theorem Da {f : Nat -> D} {k n r} : bU f (.int k n) r=(r=.int k n):=by simp [bU]
@[simp] theorem zX {f : Nat -> D} {n r} : bU f (.bool n) r=(r=.bool n):=by simp [bU]
@[simp] theorem Dc {f : Nat -> D} {n r} : bU f (.str n) r=(r=.str n):=by simp [bU]
@[simp] theorem zZ {f : Nat -> D} {r} : bU f .nils r=(r=.nils):=by simp [bU]
@[simp] theorem zY {f : Nat -> D} {r} : bU f .nilp r=(r=.nilp):=by simp [bU]
@[simp] theorem GF {f : Nat -> D} {n r} : bU f (.sl n) r=(r=.sl n):=by simp [bU]
@[simp] theorem C8 {f : Nat -> D} {n r} : bU f (.agg n) r=(r=.agg n):=by simp [bU]
@[simp] theorem EV {t d} : bN (some t) d=[(t,d)]:=_root_.id rfl
@[simp] theorem EU {d} : bN none d=[]:=_root_.id rfl
@[simp] theorem Bt {t} : cW (some t)=[(t,.tup [])]:=_root_.id rfl
@[simp] theorem Bs : cW none=[]:=_root_.id rfl
def IQ (C : CC) (g : Nat) (hs : Option (List Nat)) (K : Env -> Prop) (ns : List ao) (dst : Option Nat) (_ : Tag (hs,K,ns)) (e : Env) (R : List Nat) (acc : List (List Nat × List Nat)) (b sz : Nat) (es : List (List D)) (ds : List D) : Prop :=
 ∃ d,∃ es' : List (List D),0 < es'.length /\ C g (.blk sz es::ds) d [.blk sz es'] /\ doW C hs K ns ⟨⟩ e R acc (bN dst d++[(b,.blk sz es')]) [(b,false)]
def IP (C : CC) (g : Nat) (hs : Option (List Nat)) (K : Env -> Prop) (ns : List ao) (dst : Option Nat) (_ : Tag (hs,K,ns)) (e : Env) (R : List Nat) (acc : List (List Nat × List Nat)) (xs : List Opd) (d : D) : Prop:=match d with
 | .adr (.r b) i off=>i=0 /\ off=0 /\ cC (aa e b) (fun sz es=>0 < es.length /\ (∀ x ∈ xs,isV (vd (aa e) x)=true) /\ IQ C g hs K ns dst ⟨⟩ e R acc b sz es (xs.map (vd (aa e)))) ⟨⟩
 | _=>False
@[simp] theorem QL {g xs b i off} : IP C g hs K ns dst u e R acc xs (.adr (.r b) i off)=(i=0 /\ off=0 /\ cC (aa e b) (fun sz es=>0 < es.length /\ (∀ x ∈ xs,isV (vd (aa e) x)=true) /\ IQ C g hs K ns dst ⟨⟩ e R acc b sz es (xs.map (vd (aa e)))) ⟨⟩):=_root_.id rfl
@[simp] theorem Ey {g x xs v1} : opW C hs K ns dst (.callL g x xs) v1 e R acc=IP C g hs K ns dst ⟨⟩ e R acc xs (vd (aa e) x):=by
 unfold opW
 simp only [aq]
 cases vd (aa e) x <;> first | rfl | skip
def rj (C : CC) (hs : Option (List Nat)) (K : Env -> Prop) (ns : List ao) (dst : Option Nat) (_ : Tag (hs,K,ns)) (e : Env) (R : List Nat) (acc : List (List Nat × List Nat)) (zs : List D) (d : D) : Prop:=match d with
 | .nils=>doW C hs K ns ⟨⟩ e R acc (cW dst) []
 | .ref (.r b) k n=>cC (aa e b) (fun sz es=>k + n <= es.length /\ zs.length=sz /\ (∀ e ∈ es,∀ c ∈ e,ar c=true) /\ (∀ c ∈ zs,ar c=true) /\ doW C hs K ns ⟨⟩ e R acc (cW dst++[(b,.blk sz (dz es k n zs))]) []) ⟨⟩
 | .ref (.n b i o) k n=>cC (aa e b) (fun sz0 es0=>fE es0[i]? (fun row0=>iU row0[o]? (fun sz es=>k + n <= es.length /\ zs.length=sz /\ (∀ c ∈ zs,ar c=true) /\ doW C hs K ns ⟨⟩ e R acc (cW dst++[(b,.blk sz0 (aW es0 i o 1 [.own sz (dz es k n zs)]))]) []) ⟨⟩) ⟨⟩) ⟨⟩
 | _=>False
@[simp] theorem PH {zs b k n} : rj C hs K ns dst u e R acc zs (.ref (.r b) k n)=cC (aa e b) (fun sz es=>k + n <= es.length /\ zs.length=sz /\ (∀ e ∈ es,∀ c ∈ e,ar c=true) /\ (∀ c ∈ zs,ar c=true) /\ doW C hs K ns ⟨⟩ e R acc (cW dst++[(b,.blk sz (dz es k n zs))]) []) ⟨⟩:=_root_.id rfl
@[simp] theorem PG {zs b i o k n} : rj C hs K ns dst u e R acc zs (.ref (.n b i o) k n)=cC (aa e b) (fun sz0 es0=>fE es0[i]? (fun row0=>iU row0[o]? (fun sz es=>k + n <= es.length /\ zs.length=sz /\ (∀ c ∈ zs,ar c=true) /\ doW C hs K ns ⟨⟩ e R acc (cW dst++[(b,.blk sz0 (aW es0 i o 1 [.own sz (dz es k n zs)]))]) []) ⟨⟩) ⟨⟩) ⟨⟩:=_root_.id rfl
@[simp] theorem CD {zs} : rj C hs K ns dst u e R acc zs .nils=doW C hs K ns ⟨⟩ e R acc (cW dst) []:=_root_.id rfl
@[simp] theorem OW {zs x v1} : opW C hs K ns dst (.clr zs x) v1 e R acc=rj C hs K ns dst ⟨⟩ e R acc zs (vd (aa e) x):=by
 unfold opW
 simp only [aq]
 cases vd (aa e) x <;> try rfl
 rename_i p k n
 cases p with
 | r b =>
  simp only [rj,cC]
  cases aa e b <;> rfl
 | n b i o =>
  simp only [rj,cC,eG,iu]
  cases aa e b <;> rfl
def xy (C : CC) (g : Nat) (hs : Option (List Nat)) (K : Env -> Prop) (ns : List ao) (dst : Option Nat) (_ : Tag (hs,K,ns)) (e : Env) (R : List Nat) (acc : List (List Nat × List Nat)) (b i o sz0 sz : Nat) (es0 es : List (List D)) (ds : List D) : Prop :=
 ∃ es' : List (List D),es'.length=es.length /\ (∀ e ∈ es',e.length=sz /\ ∀ c ∈ e,ar c=true) /\ C g (.own sz es::ds) .any [.own sz es',.nilp] /\ doW C hs K ns ⟨⟩ e R acc (cW dst++[(b,.blk sz0 (aW es0 i o 1 [.own sz es']))]) []
def zA (C : CC) (g : Nat) (hs : Option (List Nat)) (K : Env -> Prop) (ns : List ao) (dst : Option Nat) (_ : Tag (hs,K,ns)) (e : Env) (R : List Nat) (acc : List (List Nat × List Nat)) (xs : List Opd) (d : D) : Prop:=match d with
 | .ref (.n b i o) k n=>k=0 /\ cC (aa e b) (fun sz0 es0=>fE es0[i]? (fun row0=>iU row0[o]? (fun sz es=>es.length=n /\ (∀ x ∈ xs,isV (vd (aa e) x)=true) /\ xy C g hs K ns dst ⟨⟩ e R acc b i o sz0 sz es0 es (xs.map (vd (aa e)))) ⟨⟩) ⟨⟩) ⟨⟩
 | _=>False
@[simp] theorem PE {g xs b i o k n} : zA C g hs K ns dst u e R acc xs (.ref (.n b i o) k n)=(k=0 /\ cC (aa e b) (fun sz0 es0=>fE es0[i]? (fun row0=>iU row0[o]? (fun sz es=>es.length=n /\ (∀ x ∈ xs,isV (vd (aa e) x)=true) /\ xy C g hs K ns dst ⟨⟩ e R acc b i o sz0 sz es0 es (xs.map (vd (aa e)))) ⟨⟩) ⟨⟩) ⟨⟩):=_root_.id rfl
@[simp] theorem EA {g x xs v1} : opW C hs K ns dst (.callN g x xs) v1 e R acc=zA C g hs K ns dst ⟨⟩ e R acc xs (vd (aa e) x):=by
 unfold opW
 simp only [aq]
 cases vd (aa e) x <;> try rfl
 rename_i p k n
 cases p with
 | r b=>rfl
 | n b i o =>
  simp only [zA,cC,eG,iu]
  cases aa e b <;> rfl
@[simp] theorem Ew {g xs v1} : opW C hs K ns dst (.callG g xs) v1 e R acc=((∀ x ∈ xs,bl (aa e) (vd (aa e) x)) /\ y6 C g hs K ns dst ⟨⟩ e R acc (xs.map (dpv (aa e)))):=_root_.id rfl
@[simp] theorem Et {g xs t v1} : opW C hs K ns (some t) (.callA g xs) v1 e R acc=((∀ x ∈ xs,isV (vd (aa e) x)=true) /\ y5 C g hs K ns t ⟨⟩ e R acc (xs.map (vd (aa e)))):=_root_.id rfl
@[simp] theorem Ev {g xs t v1} : opW C hs K ns (some t) (.callF g xs) v1 e R acc=((∀ x ∈ xs,bl (aa e) (vd (aa e) x)) /\ sV C g hs K ns t ⟨⟩ e R acc (xs.map (dpv (aa e)))):=_root_.id rfl
@[simp] theorem JB {g xs x0 v1} : opW C hs K ns dst (.call g xs x0) v1 e R acc=((∀ x ∈ xs,bl (aa e) (vd (aa e) x)) /\ oi C g hs K ns dst ⟨⟩ e R acc (xs.all fun x=>isV (vd (aa e) x)) (xs.map (dpv (aa e)))):=_root_.id rfl
def jG (C : CC) (hs : Option (List Nat)) (K : Env -> Prop) (ns : List ao) (t : Nat) (_ : Tag (hs,K,ns)) (e : Env) (R : List Nat) (acc : List (List Nat × List Nat)) (d : D) : Prop:=match d with
 | .ref (.r c) k n=>if c=rt t 0 then doW C hs K ns ⟨⟩ e R acc [(t,.ref (.r c) k n)] [] else match aa e c with
  | .blk sz es=>doW C hs K ns ⟨⟩ e R acc [(t,.ref (.r (rt t 0)) k n),(rt t 0,.blk sz es),(c,.any)] [(rt t 0,true)]
  | _=>False
 | d=>isS d=true /\ doW C hs K ns ⟨⟩ e R acc [(t,d)] []
@[simp] theorem OQ {t x v1} : opW C hs K ns (some t) (.asg x) v1 e R acc=jG C hs K ns t ⟨⟩ e R acc (vd (aa e) x):=_root_.id rfl
@[simp] theorem Fm {t c k n} : jG C hs K ns t u e R acc (.ref (.r c) k n)=(if c=rt t 0 then doW C hs K ns ⟨⟩ e R acc [(t,.ref (.r c) k n)] [] else match aa e c with
  | .blk sz es=>doW C hs K ns ⟨⟩ e R acc [(t,.ref (.r (rt t 0)) k n),(rt t 0,.blk sz es),(c,.any)] [(rt t 0,true)]
  | _=>False):=_root_.id rfl
@[simp] theorem B9 {t b i o k n} : jG C hs K ns t u e R acc (.ref (.n b i o) k n)=doW C hs K ns ⟨⟩ e R acc [(t,.ref (.n b i o) k n)] []:=by simp [jG]
@[simp] theorem B8 {t} : jG C hs K ns t u e R acc .nils=doW C hs K ns ⟨⟩ e R acc [(t,.nils)] []:=by simp [jG]
@[simp] theorem Kq {t es} : jG C hs K ns t u e R acc (.sl es)=doW C hs K ns ⟨⟩ e R acc [(t,.sl es)] []:=by simp [jG]
@[simp] theorem Fn {t b es} : jG C hs K ns t u e R acc (slx b es)=doW C hs K ns ⟨⟩ e R acc [(t,slx b es)] []:=by
 rcases eN b es with h | ⟨h,_⟩ <;> rw [h] <;> simp
@[simp] theorem Fk {t} : jG C hs K ns t u e R acc .any=doW C hs K ns ⟨⟩ e R acc [(t,.any)] []:=by simp [jG]
@[simp] theorem Fp {t ds} : jG C hs K ns t u e R acc (.tup ds)=doW C hs K ns ⟨⟩ e R acc [(t,.tup ds)] []:=by simp [jG]
def pD (C : CC) (hs : Option (List Nat)) (K : Env -> Prop) (ns : List ao) (t : Nat) (_ : Tag (hs,K,ns)) (e : Env) (R : List Nat) (acc : List (List Nat × List Nat)) (d : D) : Prop:=match d with
 | .ref (.r c) k n=>aG (aa e) (.ref (.r c) k n) /\ doW C hs K ns ⟨⟩ e R acc [(t,dp1 (aa e) (.ref (.r c) k n)),(c,.any)] []
 | d=>isS d=true /\ doW C hs K ns ⟨⟩ e R acc [(t,d)] []
@[simp] theorem O2 {t x v1} : opW C hs K ns (some t) (.frz x) v1 e R acc=pD C hs K ns t ⟨⟩ e R acc (vd (aa e) x):=_root_.id rfl
@[simp] theorem Gw {t c k n} : pD C hs K ns t u e R acc (.ref (.r c) k n)=(aG (aa e) (.ref (.r c) k n) /\ doW C hs K ns ⟨⟩ e R acc [(t,dp1 (aa e) (.ref (.r c) k n)),(c,.any)] []):=_root_.id rfl
@[simp] theorem C5 {t} : pD C hs K ns t u e R acc .nils=doW C hs K ns ⟨⟩ e R acc [(t,.nils)] []:=by simp [pD]
@[simp] theorem Ll {t es} : pD C hs K ns t u e R acc (.sl es)=doW C hs K ns ⟨⟩ e R acc [(t,.sl es)] []:=by simp [pD]
@[simp] theorem Gx {t b es} : pD C hs K ns t u e R acc (slx b es)=doW C hs K ns ⟨⟩ e R acc [(t,slx b es)] []:=by
 rcases eN b es with h | ⟨h,_⟩ <;> rw [h] <;> simp
def v7 (C : CC) (hs : Option (List Nat)) (K : Env -> Prop) (ns : List ao) (dst : Option Nat) (_ : Tag (hs,K,ns)) (e : Env) (R : List Nat) (acc : List (List Nat × List Nat)) (c i off : Nat) (d : D) : Prop:=match d with
 | .blk _ es=>∃ r,es[i]? = some r /\ ∃ d,r[off]? = some d /\ cD dst (kOf C hs K ns e R acc) (ldc (.r c) i off d)
 | _=>False
@[simp] theorem IH {c i off sz es} : v7 C hs K ns dst u e R acc c i off (.blk sz es)=fE es[i]? (fun r=>vn r[off]? (fun d=>dW C hs K ns dst ⟨⟩ e R acc (ldc (.r c) i off d)) ⟨⟩) ⟨⟩:=by
 simp only [v7,eG,vo];rfl
def II (C : CC) (hs : Option (List Nat)) (K : Env -> Prop) (ns : List ao) (dst : Option Nat) (_ : Tag (hs,K,ns)) (e : Env) (R : List Nat) (acc : List (List Nat × List Nat)) (q : Nat) (d : D) : Prop:=match d with
 | .adr (.r c) i off=>off=q /\ v7 C hs K ns dst ⟨⟩ e R acc c i off (aa e c)
 | _=>False
@[simp] theorem IJ {q c i off} : II C hs K ns dst u e R acc q (.adr (.r c) i off)=(off=q /\ v7 C hs K ns dst ⟨⟩ e R acc c i off (aa e c)):=_root_.id rfl
@[simp] theorem O5 {q x v1} : opW C hs K ns dst (.ldQ q x) v1 e R acc=II C hs K ns dst ⟨⟩ e R acc q (vd (aa e) x):=_root_.id rfl
def vk (C : CC) (hs : Option (List Nat)) (K : Env -> Prop) (ns : List ao) (t : Nat) (_ : Tag (hs,K,ns)) (e : Env) (R : List Nat) (acc : List (List Nat × List Nat)) (sz by_ : Nat) (rowsY : List (List D)) (c i o k n : Nat) (d : D) : Prop:=match d with
 | .blk sz0 es0=>∃ row0,es0[i]? = some row0 /\ ∃ es,row0[o]? = some (.own sz es) /\ k + n <= es.length /\ (n + rowsY.length) * by_ <= 140737488355328 /\
   kOf C hs K ns e R acc [(t,.ref (.r (rt t 0)) 0 (n + rowsY.length)),(rt t 0,.blk sz ((es.drop k).take n++rowsY)),(c,.blk sz0 (aW es0 i o 1 [.any]))] [(rt t 0,true)]
 | _=>False
@[simp] theorem Fg {t sz by_ rowsY c i o k n sz0 es0} : vk C hs K ns t u e R acc sz by_ rowsY c i o k n (.blk sz0 es0)=fE es0[i]? (fun row0=>iU row0[o]? (fun sz' es=>sz'=sz /\ k + n <= es.length /\ (n + rowsY.length) * by_ <= 140737488355328 /\
   doW C hs K ns ⟨⟩ e R acc [(t,.ref (.r (rt t 0)) 0 (n + rowsY.length)),(rt t 0,.blk sz ((es.drop k).take n++rowsY)),(c,.blk sz0 (aW es0 i o 1 [.any]))] [(rt t 0,true)]) ⟨⟩) ⟨⟩:=by
 simp only [vk,eG,iu]
 refine propext ⟨?_,?_⟩
 ·rintro ⟨row0,h1,es,h2,h3,h4,h5⟩
  exact ⟨row0,h1,sz,es,h2,rfl,h3,h4,h5⟩
 ·rintro ⟨row0,h1,sz',es,h2,rfl,h3,h4,h5⟩
  exact ⟨row0,h1,es,h2,h3,h4,h5⟩
def Fh (C : CC) (hs : Option (List Nat)) (K : Env -> Prop) (ns : List ao) (t : Nat) (_ : Tag (hs,K,ns)) (e : Env) (R : List Nat) (acc : List (List Nat × List Nat)) (q sz by_ : Nat) (yd : D) (d : D) : Prop:=match d with
 | .ref (.n c i o') k n=>o'=q /\ eC (aa e) false yd sz fun rowsY bs=>bs=[] /\ c ≠ rt t 0 /\ vk C hs K ns t ⟨⟩ e R acc sz by_ rowsY c i o' k n (aa e c)
 | _=>False
@[simp] theorem Fi {t q sz by_ yd c i o k n} : Fh C hs K ns t u e R acc q sz by_ yd (.ref (.n c i o) k n)=(o=q /\ gY (aa e) false yd sz (fun rowsY bs=>bs=[] /\ c ≠ rt t 0 /\ vk C hs K ns t ⟨⟩ e R acc sz by_ rowsY c i o k n (aa e c)) ⟨⟩):=_root_.id rfl
@[simp] theorem Jx {t q sz by_ x y v1} : opW C hs K ns (some t) (.appQ q sz by_ x y) v1 e R acc=Fh C hs K ns t ⟨⟩ e R acc q sz by_ (vd (aa e) y) (vd (aa e) x):=_root_.id rfl
def zE (C : CC) (hs : Option (List Nat)) (K : Env -> Prop) (ns : List ao) (t : Nat) (_ : Tag (hs,K,ns)) (e : Env) (R : List Nat) (acc : List (List Nat × List Nat)) (sz : Nat) (rows : List (List D)) (b k n : Nat) (d : D) : Prop:=match d with
 | .blk sz' es=>sz'=sz /\ k + n <= es.length /\ (∀ e ∈ es,∀ c ∈ e,ar c=true) /\ (∀ e ∈ rows,∀ c ∈ e,ar c=true) /\ kOf C hs K ns e R acc [(t,.int .i64 (min rows.length n : Nat)),(b,.blk sz (gF es k (rows.take n)))] []
 | _=>False
@[simp] theorem FK {t sz rows b k n sz' es} : zE C hs K ns t u e R acc sz rows b k n (.blk sz' es)=(sz'=sz /\ k + n <= es.length /\ (∀ e ∈ es,∀ c ∈ e,ar c=true) /\ (∀ e ∈ rows,∀ c ∈ e,ar c=true) /\ doW C hs K ns ⟨⟩ e R acc [(t,.int .i64 (min rows.length n : Nat)),(b,.blk sz (gF es k (rows.take n)))] []):=_root_.id rfl
def FL (C : CC) (hs : Option (List Nat)) (K : Env -> Prop) (ns : List ao) (t : Nat) (_ : Tag (hs,K,ns)) (e : Env) (R : List Nat) (acc : List (List Nat × List Nat)) (sz : Nat) (rows : List (List D)) (d : D) : Prop:=match d with
 | .ref (.r b) k n=>(n=0 -> kOf C hs K ns e R acc [(t,.int .i64 0)] []) /\ (0 < n -> zE C hs K ns t ⟨⟩ e R acc sz rows b k n (aa e b))
 | _=>False
@[simp] theorem FM {t sz rows b k n} : FL C hs K ns t u e R acc sz rows (.ref (.r b) k n)=((n=0 -> doW C hs K ns ⟨⟩ e R acc [(t,.int .i64 0)] []) /\ (0 < n -> zE C hs K ns t ⟨⟩ e R acc sz rows b k n (aa e b))):=_root_.id rfl
@[simp] theorem OX {t sz x y v1} : opW C hs K ns (some t) (.cpy sz x y) v1 e R acc=gY (aa e) false (vd (aa e) y) sz (fun rows bs=>bs=[] /\ 0 < rows.length /\ FL C hs K ns t ⟨⟩ e R acc sz rows (vd (aa e) x)) ⟨⟩:=_root_.id rfl
def Am (C : CC) (hs : Option (List Nat)) (K : Env -> Prop) (ns : List ao) (t : Nat) (_ : Tag (hs,K,ns)) (e : Env) (R : List Nat) (acc : List (List Nat × List Nat)) (n c : Nat) (d : D) : Prop:=match d with
 | .blk _ [row]=>row.length=n /\ okR (.agg row)=true /\ (aL t (.agg row)).all (fun p=>p.1 != c)=true /\ doW C hs K ns ⟨⟩ e R acc ((t,dE t (.agg row))::(c,.any)::aL t (.agg row)) (dj t (.agg row))
 | _=>False
@[simp] theorem IE {t n c sz row} : Am C hs K ns t u e R acc n c (.blk sz [row])=(row.length=n /\ okR (.agg row)=true /\ (aL t (.agg row)).all (fun p=>p.1 != c)=true /\ doW C hs K ns ⟨⟩ e R acc ((t,dE t (.agg row))::(c,.any)::aL t (.agg row)) (dj t (.agg row))):=_root_.id rfl
def IF (C : CC) (hs : Option (List Nat)) (K : Env -> Prop) (ns : List ao) (t : Nat) (_ : Tag (hs,K,ns)) (e : Env) (R : List Nat) (acc : List (List Nat × List Nat)) (n : Nat) (d : D) : Prop:=match d with
 | .adr (.r c) i off=>i=0 /\ off=0 /\ Am C hs K ns t ⟨⟩ e R acc n c (aa e c)
 | _=>False
@[simp] theorem IG {t n c i off} : IF C hs K ns t u e R acc n (.adr (.r c) i off)=(i=0 /\ off=0 /\ Am C hs K ns t ⟨⟩ e R acc n c (aa e c)):=_root_.id rfl
@[simp] theorem O4 {t n x v1} : opW C hs K ns (some t) (.ldM n x) v1 e R acc=IF C hs K ns t ⟨⟩ e R acc n (vd (aa e) x):=_root_.id rfl
def v6 (C : CC) (hs : Option (List Nat)) (K : Env -> Prop) (ns : List ao) (t : Nat) (_ : Tag (hs,K,ns)) (e : Env) (R : List Nat) (acc : List (List Nat × List Nat)) (n c i off : Nat) (d : D) : Prop:=match d with
 | .blk _ es=>∃ r,es[i]? = some r /\ off + n <= r.length /\ doW C hs K ns ⟨⟩ e R acc [(t,.agg (((r.drop off).take n).map aT)),(c,.any)] []
 | _=>False
@[simp] theorem IB {t n c i off sz es} : v6 C hs K ns t u e R acc n c i off (.blk sz es)=fE es[i]? (fun r=>off + n <= r.length /\ doW C hs K ns ⟨⟩ e R acc [(t,.agg (((r.drop off).take n).map aT)),(c,.any)] []) ⟨⟩:=by
 simp only [v6,eG]
def IC (C : CC) (hs : Option (List Nat)) (K : Env -> Prop) (ns : List ao) (t : Nat) (_ : Tag (hs,K,ns)) (e : Env) (R : List Nat) (acc : List (List Nat × List Nat)) (n : Nat) (d : D) : Prop:=match d with
 | .adr (.r c) i off=>v6 C hs K ns t ⟨⟩ e R acc n c i off (aa e c)
 | _=>False
@[simp] theorem ID {t n c i off} : IC C hs K ns t u e R acc n (.adr (.r c) i off)=v6 C hs K ns t ⟨⟩ e R acc n c i off (aa e c):=_root_.id rfl
@[simp] theorem O3 {t n x v1} : opW C hs K ns (some t) (.ldF n x) v1 e R acc=IC C hs K ns t ⟨⟩ e R acc n (vd (aa e) x):=_root_.id rfl
def Bb (C : CC) (hs : Option (List Nat)) (K : Env -> Prop) (ns : List ao) (t : Nat) (_ : Tag (hs,K,ns)) (e : Env) (R : List Nat) (acc : List (List Nat × List Nat)) (len sz c : Nat) (d : D) : Prop:=match d with
 | .blk _ [row]=>0 < len /\ 0 < sz /\ row.length=len * sz /\ (∀ d ∈ row,ar d=true) /\ doW C hs K ns ⟨⟩ e R acc [(t,.ref (.r (rt t 0)) 0 len),(rt t 0,.blk sz (bP sz len row)),(c,.any)] [(rt t 0,true)]
 | _=>False
@[simp] theorem J7 {t len sz c sz0 row} : Bb C hs K ns t u e R acc len sz c (.blk sz0 [row])=(0 < len /\ 0 < sz /\ row.length=len * sz /\ (∀ d ∈ row,ar d=true) /\ doW C hs K ns ⟨⟩ e R acc [(t,.ref (.r (rt t 0)) 0 len),(rt t 0,.blk sz (bP sz len row)),(c,.any)] [(rt t 0,true)]):=_root_.id rfl
def J8 (C : CC) (hs : Option (List Nat)) (K : Env -> Prop) (ns : List ao) (t : Nat) (_ : Tag (hs,K,ns)) (e : Env) (R : List Nat) (acc : List (List Nat × List Nat)) (len sz : Nat) (d : D) : Prop:=match d with
 | .adr (.r c) i off=>i=0 /\ off=0 /\ c ≠ rt t 0 /\ Bb C hs K ns t ⟨⟩ e R acc len sz c (aa e c)
 | _=>False
@[simp] theorem J9 {t len sz c i off} : J8 C hs K ns t u e R acc len sz (.adr (.r c) i off)=(i=0 /\ off=0 /\ c ≠ rt t 0 /\ Bb C hs K ns t ⟨⟩ e R acc len sz c (aa e c)):=_root_.id rfl
@[simp] theorem Pg {len sz x t v1} : opW C hs K ns (some t) (.slM len sz x) v1 e R acc=J8 C hs K ns t ⟨⟩ e R acc len sz (vd (aa e) x):=_root_.id rfl
def gq (C : CC) (hs : Option (List Nat)) (K : Env -> Prop) (ns : List ao) (dst : Option Nat) (_ : Tag (hs,K,ns)) (e : Env) (R : List Nat) (acc : List (List Nat × List Nat)) (d : D) : Prop:=match d with
 | .agx ds=>dW C hs K ns dst ⟨⟩ e R acc (.ptx ds)
 | .agg ds=>dW C hs K ns dst ⟨⟩ e R acc (.ptr ds)
 | d=>ar d=true /\ dW C hs K ns dst ⟨⟩ e R acc (.ptr [d])
@[simp] theorem zj {ds : List D} : c9 (.agg ds)=ds:=_root_.id rfl
@[simp] theorem zp {k n} : c9 (.int k n)=[.int k n]:=_root_.id rfl
@[simp] theorem zu {n} : c9 (.str n)=[.str n]:=_root_.id rfl
@[simp] theorem xV {n} : c9 (.bool n)=[.bool n]:=_root_.id rfl
@[simp] theorem CB {n} : c9 (.sl n)=[.sl n]:=_root_.id rfl
@[simp] theorem C4 {f : Nat -> D} {es} : fI f [] es=es:=_root_.id rfl
@[simp] theorem zR {f : Nat -> D} {p ps es} : fI f (p::ps) es=fI f ps (es.set p.1 (c9 (vd f p.2))):=_root_.id rfl
@[simp] theorem Jy {sz len zs parts v1} : opW C hs K ns dst (.blsF sz len zs parts) v1 e R acc=((∀ p ∈ parts,p.1 < len /\ (c9 (vd (aa e) p.2)).length=sz /\ ∀ c ∈ c9 (vd (aa e) p.2),ar c=true) /\ 0 < len /\
   (∀ r ∈ fI (aa e) parts (List.replicate len zs),∀ c ∈ r,ar c=true) /\ dW C hs K ns dst ⟨⟩ e R acc (.sl (fI (aa e) parts (List.replicate len zs)))):=_root_.id rfl
@[simp] theorem Jz {sz len zs parts v1} : opW C hs K ns dst (.blsX sz len zs parts) v1 e R acc=(zs.all ar=true /\ (∀ p ∈ parts,p.1 < len /\ match (generalizing:=false) vd (aa e) p.2 with
    | .agg ds=>ds.length=sz
    | .agx ds=>ds.length=sz
    | _=>False) /\ dW C hs K ns dst ⟨⟩ e R acc (.rfx len sz (iM (aa e) sz len zs parts))):=_root_.id rfl
attribute [simp] iM
@[simp] theorem JA {x v1} : opW C hs K ns dst (.boxF x) v1 e R acc=gq C hs K ns dst ⟨⟩ e R acc (vd (aa e) x):=_root_.id rfl
@[simp] theorem Fv {ds} : gq C hs K ns dst u e R acc (.agx ds)=dW C hs K ns dst ⟨⟩ e R acc (.ptx ds):=_root_.id rfl
@[simp] theorem Fu {ds} : gq C hs K ns dst u e R acc (.agg ds)=dW C hs K ns dst ⟨⟩ e R acc (.ptr ds):=_root_.id rfl
@[simp] theorem Fw {k n} : gq C hs K ns dst u e R acc (.int k n)=dW C hs K ns dst ⟨⟩ e R acc (.ptr [.int k n]):=by simp [gq]
@[simp] theorem Ca {n} : gq C hs K ns dst u e R acc (.bool n)=dW C hs K ns dst ⟨⟩ e R acc (.ptr [.bool n]):=by simp [gq]
@[simp] theorem Fz {n} : gq C hs K ns dst u e R acc (.str n)=dW C hs K ns dst ⟨⟩ e R acc (.ptr [.str n]):=by simp [gq]
@[simp] theorem Cb : gq C hs K ns dst u e R acc .nils=dW C hs K ns dst ⟨⟩ e R acc (.ptr [.nils]):=by simp [gq]
@[simp] theorem Kv {es} : gq C hs K ns dst u e R acc (.sl es)=dW C hs K ns dst ⟨⟩ e R acc (.ptr [.sl es]):=by simp [gq]
@[simp] theorem Fy {b es} : gq C hs K ns dst u e R acc (slx b es)=dW C hs K ns dst ⟨⟩ e R acc (.ptr [slx b es]):=by
 rcases eN b es with h | ⟨h,_⟩ <;> rw [h] <;> simp
@[simp] theorem Fx {es} : gq C hs K ns dst u e R acc (.ptr es)=dW C hs K ns dst ⟨⟩ e R acc (.ptr [.ptr es]):=by simp [gq]
@[simp] theorem Ku {g es} : gq C hs K ns dst u e R acc (.fn g es)=dW C hs K ns dst ⟨⟩ e R acc (.ptr [.fn g es]):=by simp [gq]
@[simp] theorem O6 {x v1} : opW C hs K ns dst (.len x) v1 e R acc=pQ (vd (aa e) x) (fun n=>dW C hs K ns dst ⟨⟩ e R acc (.int .i64 n)) ⟨⟩:=by
 show res (aa e) _ (.len x)=_
 simp only [res,pQ]
 cases vd (aa e) x <;> rfl
def pK (C : CC) (hs : Option (List Nat)) (K : Env -> Prop) (ns : List ao) (dst : Option Nat) (_ : Tag (hs,K,ns)) (e : Env) (R : List Nat) (acc : List (List Nat × List Nat)) (sz : Nat) (x i : D) : Prop:=match (generalizing:=false) x,i with
  | .sl es,.int _ j=>0 <= j /\ gw C hs K ns dst ⟨⟩ e R acc sz es j.toNat
  | .slv _ es,.int _ j=>0 <= j /\ gw C hs K ns dst ⟨⟩ e R acc sz es j.toNat
  | .rfx n sz' ds,.int _ j=>0 <= j /\ j.toNat < n /\ sz'=sz /\ dW C hs K ns dst ⟨⟩ e R acc (.ptx (ds.drop (j.toNat * sz)))
  | .ref p k n,.int _ j=>0 <= j /\ j.toNat < n /\ match (generalizing:=false) aM (aa e) p with
   | some (sz',_)=>sz'=sz /\ dW C hs K ns dst ⟨⟩ e R acc (.adr p (k + j.toNat) 0)
   | none=>False
  | _,_=>False
@[simp] theorem JE {sz x i v1} : opW C hs K ns dst (.iadS sz x i) v1 e R acc=pK C hs K ns dst ⟨⟩ e R acc sz (vd (aa e) x) (vd (aa e) i):=_root_.id rfl
@[simp] theorem GH {sz sz' n ds k j} : pK C hs K ns dst u e R acc sz (.rfx n sz' ds) (.int k j)=(0 <= j /\ j.toNat < n /\ sz'=sz /\ dW C hs K ns dst ⟨⟩ e R acc (.ptx (ds.drop (j.toNat * sz)))):=_root_.id rfl
@[simp] theorem Lm {sz es k j} : pK C hs K ns dst u e R acc sz (.sl es) (.int k j)=(0 <= j /\ gw C hs K ns dst ⟨⟩ e R acc sz es j.toNat):=_root_.id rfl
@[simp] theorem GI {sz q es k j} : pK C hs K ns dst u e R acc sz (.slv q es) (.int k j)=(0 <= j /\ gw C hs K ns dst ⟨⟩ e R acc sz es j.toNat):=_root_.id rfl
@[simp] theorem GJ {sz b es k j} : pK C hs K ns dst u e R acc sz (slx b es) (.int k j)=(0 <= j /\ gw C hs K ns dst ⟨⟩ e R acc sz es j.toNat):=by
 rcases eN b es with h | ⟨h,rfl⟩
 ·rw [h];rfl
 ·rw [h];simp [pK,gw]
@[simp] theorem GG {sz p k n k' j} : pK C hs K ns dst u e R acc sz (.ref p k n) (.int k' j)=(0 <= j /\ j.toNat < n /\ match (generalizing:=false) aM (aa e) p with
   | some (sz',_)=>sz'=sz /\ dW C hs K ns dst ⟨⟩ e R acc (.adr p (k + j.toNat) 0)
   | none=>False):=_root_.id rfl
def wI (C : CC) (hs : Option (List Nat)) (K : Env -> Prop) (ns : List ao) (dst : Option Nat) (_ : Tag (hs,K,ns)) (e : Env) (R : List Nat) (acc : List (List Nat × List Nat)) (sz : Nat) (x : D) (lo hi : Option Opd) : Prop:=match (generalizing:=false) x with
  | .sl es=>(∀ e ∈ es,e.length=sz) /\ cX (aa e) hi es.length (fun h=>cX (aa e) lo 0 (fun l=>l <= h /\ h <= es.length /\ dW C hs K ns dst ⟨⟩ e R acc (.sl ((es.take h).drop l))) ⟨⟩) ⟨⟩
  | .nils=>cX (aa e) hi 0 (fun h=>cX (aa e) lo 0 (fun l=>l <= h /\ h <= 0 /\ dW C hs K ns dst ⟨⟩ e R acc (.sl [])) ⟨⟩) ⟨⟩
  | .ref p k n=>match (generalizing:=false) aM (aa e) p with
   | some (sz',_)=>sz'=sz /\ cX (aa e) hi n (fun h=>cX (aa e) lo 0 (fun l=>l <= h /\ h <= n /\ dW C hs K ns dst ⟨⟩ e R acc (.ref p (k + l) (h - l))) ⟨⟩) ⟨⟩
   | none=>False
  | _=>False
@[simp] theorem Pi {sz x lo hi v1} : opW C hs K ns dst (.slc sz x lo hi) v1 e R acc=wI C hs K ns dst ⟨⟩ e R acc sz (vd (aa e) x) lo hi:=_root_.id rfl
@[simp] theorem Pn {sz es lo hi} : wI C hs K ns dst u e R acc sz (.sl es) lo hi=((∀ e ∈ es,e.length=sz) /\ cX (aa e) hi es.length (fun h=>cX (aa e) lo 0 (fun l=>l <= h /\ h <= es.length /\ dW C hs K ns dst ⟨⟩ e R acc (.sl ((es.take h).drop l))) ⟨⟩) ⟨⟩):=_root_.id rfl
@[simp] theorem ET {sz lo hi} : wI C hs K ns dst u e R acc sz .nils lo hi=cX (aa e) hi 0 (fun h=>cX (aa e) lo 0 (fun l=>l <= h /\ h <= 0 /\ dW C hs K ns dst ⟨⟩ e R acc (.sl [])) ⟨⟩) ⟨⟩:=_root_.id rfl
@[simp] theorem J6 {sz p k n lo hi} : wI C hs K ns dst u e R acc sz (.ref p k n) lo hi=(match (generalizing:=false) aM (aa e) p with
   | some (sz',_)=>sz'=sz /\ cX (aa e) hi n (fun h=>cX (aa e) lo 0 (fun l=>l <= h /\ h <= n /\ dW C hs K ns dst ⟨⟩ e R acc (.ref p (k + l) (h - l))) ⟨⟩) ⟨⟩
   | none=>False):=_root_.id rfl
@[simp] theorem ED {x xs v1} : opW C hs K ns dst (.callv x xs) v1 e R acc=(match (generalizing:=false) vd (aa e) x with
  | .fn g cs=>(∀ x ∈ xs,bl (aa e) (vd (aa e) x)) /\ oi C g hs K ns dst ⟨⟩ e R acc (xs.all fun x=>isV (vd (aa e) x)) (xs.map (dpv (aa e))++cs)
  | .fnx g cs=>(∀ x ∈ xs,bl (aa e) (vd (aa e) x)) /\ (∀ c ∈ cs,aG (aa e) c) /\ oi C g hs K ns dst ⟨⟩ e R acc false (xs.map (dpv (aa e))++cs.map (dp1 (aa e)))
  | _=>False):=by
 simp only [opW,aq,oi,cD,Bool.false_eq_true,or_false]
 cases vd (aa e) x <;> rfl
def mpT (x : D) (K : Nat -> Nat -> List D -> List D -> Prop) (_ : Tag K) : Prop:=match x with
 | .mp kt et ks vs=>K kt et ks vs
 | _=>False
@[simp] theorem QO {kt et ks vs K u} : mpT (.mp kt et ks vs) K u=K kt et ks vs:=_root_.id rfl
@[simp] theorem O8 {kt et t v1} : opW C hs K ns (some t) (.mkm kt et) v1 e R acc=doW C hs K ns ⟨⟩ e R acc [(t,.mrf (rt t 0)),(rt t 0,.mp kt et [] [])] [(rt t 0,true)]:=_root_.id rfl
def mlM (C : CC) (hs : Option (List Nat)) (K : Env -> Prop) (ns : List ao) (dst : Option Nat) (_ : Tag (hs,K,ns)) (e : Env) (R : List Nat) (acc : List (List Nat × List Nat)) (sh : KSh) (kt et : Nat) (ok : Bool) (z x m : D) : Prop:=match m with
 | .mrf b=>mpT (aa e b) (fun kt' et' ks vs=>kt'=kt /\ et'=et /\ cL sh x /\ match ok with
    | true=>dW C hs K ns dst ⟨⟩ e R acc (.tup [(cO ks vs x).getD z,.bool (cO ks vs x).isSome])
    | false=>dW C hs K ns dst ⟨⟩ e R acc ((cO ks vs x).getD z)) ⟨⟩
 | _=>False
@[simp] theorem OC {sh kt et ok z x b} : mlM C hs K ns dst u e R acc sh kt et ok z x (.mrf b)=mpT (aa e b) (fun kt' et' ks vs=>kt'=kt /\ et'=et /\ cL sh x /\ match ok with
    | true=>dW C hs K ns dst ⟨⟩ e R acc (.tup [(cO ks vs x).getD z,.bool (cO ks vs x).isSome])
    | false=>dW C hs K ns dst ⟨⟩ e R acc ((cO ks vs x).getD z)) ⟨⟩:=_root_.id rfl
@[simp] theorem Pc {sh kt et ok z m x v1} : opW C hs K ns dst (.mpl sh kt et ok z m x) v1 e R acc=mlM C hs K ns dst ⟨⟩ e R acc sh kt et ok z (vd (aa e) x) (vd (aa e) m):=by
 show res (aa e) _ (.mpl sh kt et ok z m x)=_
 simp only [res,mlM]
 cases vd (aa e) m <;> rfl
def muM (C : CC) (hs : Option (List Nat)) (K : Env -> Prop) (ns : List ao) (_ : Tag (hs,K,ns)) (e : Env) (R : List Nat) (acc : List (List Nat × List Nat)) (sh : KSh) (kt et : Nat) (z x v m : D) : Prop:=match m with
 | .mrf b=>mpT (aa e b) (fun kt' et' ks vs=>kt'=kt /\ et'=et /\ ks.length < maxLen /\ cL sh x /\ gI z v /\ doW C hs K ns ⟨⟩ e R acc [(b,.mp kt et (x::ks) (v::vs))] []) ⟨⟩
 | _=>False
@[simp] theorem OD {sh kt et z x v b} : muM C hs K ns u e R acc sh kt et z x v (.mrf b)=mpT (aa e b) (fun kt' et' ks vs=>kt'=kt /\ et'=et /\ ks.length < maxLen /\ cL sh x /\ gI z v /\ doW C hs K ns ⟨⟩ e R acc [(b,.mp kt et (x::ks) (v::vs))] []) ⟨⟩:=_root_.id rfl
@[simp] theorem Pd {sh kt et z m x v v1} : opW C hs K ns dst (.mpu sh kt et z m x v) v1 e R acc=(dst=none /\ muM C hs K ns ⟨⟩ e R acc sh kt et z (vd (aa e) x) (vd (aa e) v) (vd (aa e) m)):=by
 show (dst=none /\ _)=_
 congr 1
end
@[simp] theorem Ag {s} : cL .str (.str s)=(s.length <= maxLen):=_root_.id rfl
@[simp] theorem yc {b} : cL .bool (.bool b)=True:=_root_.id rfl
@[simp] theorem Af {q q' n} : cL (.int q) (.int q' n)=(q'=q /\ oG q n):=_root_.id rfl
@[simp] theorem ye {q n ds} : cL (.ints q n) (.agg ds)=(ds.length=n /\ ∀ d ∈ ds,∃ x,d=.int q x /\ oG q x):=_root_.id rfl
@[simp] theorem C3 {s z} : gI (.str z) (.str s)=(s.length <= maxLen):=_root_.id rfl
@[simp] theorem zK {b z} : gI (.bool z) (.bool b)=True:=_root_.id rfl
@[simp] theorem C2 {q q' n z} : gI (.int q z) (.int q' n)=(q'=q /\ oG q n):=_root_.id rfl
@[simp] theorem GT {n : Int} : oG .i64 n=(-9223372036854775808 <= n /\ n <= 9223372036854775807):=by
 have e1 : IntKind.i64.min=-9223372036854775808:=rfl
 have e2 : IntKind.i64.max=9223372036854775807:=rfl
 simp [oG,Lit.wf,e1,e2]
attribute [simp] gX eU bI dE cm bD aL dj ua okR o4 kz cu
attribute [simp] vd params eB iX iY iW lu lW ul prune jB isC gK aM Q3 aW dpv bO stK bg rt chk rdS rdR frR fwR fy rdN gJ wrK mnR AY ldN ac gW oC wOk Pa.root b0 bE
end Go.Gv

namespace Go.Gv
section
variable {C : CC}
def AZ (id : Nat) (S : Type) (G : S -> Env) (J : S -> Prop) (Q : ca -> Env -> Prop) : ca -> Env -> Prop:=fun t e=>match t with
 | .ext i=>if i=id then ∃ s,J s /\ jB e (G s) else Q (.ext i) e
 | t=>Q t e
variable {Q : ca -> Env -> Prop} {e : Env}
@[simp] theorem vJ {id S G J u} : bL (AZ id S G J Q) u .nrm e=bL Q ⟨⟩ .nrm e:=_root_.id rfl
@[simp] theorem vK {id S G J u} : bL (AZ id S G J Q) u .ret e=bL Q ⟨⟩ .ret e:=_root_.id rfl
@[simp] theorem vI {id S G J u i} : bL (AZ id S G J Q) u (.ext i) e=if i=id then ∃ s,J s /\ jB e (G s) else bL Q ⟨⟩ (.ext i) e:=_root_.id rfl
def Ar (S : Type) (G : S -> Env) (J : S -> Prop) (Q : ca -> Env -> Prop) : ca -> Env -> Prop:=fun t e=>match t with
 | .nrm=>∃ s,J s /\ jB e (G s)
 | t=>Q t e
@[simp] theorem vG {S G J u} : bL (Ar S G J Q) u .nrm e=∃ s,J s /\ jB e (G s):=_root_.id rfl
@[simp] theorem vH {S G J u} : bL (Ar S G J Q) u .ret e=bL Q ⟨⟩ .ret e:=_root_.id rfl
@[simp] theorem vF {S G J u i} : bL (Ar S G J Q) u (.ext i) e=bL Q ⟨⟩ (.ext i) e:=_root_.id rfl
end
@[simp] theorem JX {C : CC} {hs : Option (List Nat)} {K : Env -> Prop} {ns : List ao} {dst : Option Nat} {u : Tag (hs,K,ns)} {e : Env} {R : List Nat} {acc : List (List Nat × List Nat)} {α : Type} [Inhabited α] {n : Nat} {ag : Bool} {p : Pa} {xs : List α} {f : α -> List D} {i off : Nat} :
  jY C hs K ns dst u e R acc n ag p (xs.map f) i off=(i < xs.length /\ off + n <= (f xs[i]!).length /\ match ag with
    | true=>((((f xs[i]!).drop off).take n).all isV=true -> dW C hs K ns dst ⟨⟩ e R acc (.agg (((f xs[i]!).drop off).take n))) /\
      ((((f xs[i]!).drop off).take n).all isV=false -> dW C hs K ns dst ⟨⟩ e R acc (.agx ((((f xs[i]!).drop off).take n).mapIdx fun j c=>ldc p i (off + j) c)))
    | false=>dW C hs K ns dst ⟨⟩ e R acc (ldc p i off (((f xs[i]!).drop off).headD .any))):=by
 apply propext
 constructor
 ·rintro ⟨r,h,h1,h2⟩
  rw [List.getElem?_map,Option.map_eq_some_iff] at h
  obtain ⟨x,hx,rfl⟩:=h
  obtain ⟨hi,rfl⟩:=List.getElem?_eq_some_iff.1 hx
  rw [getElem!_pos xs i hi]
  refine ⟨hi,h1,?_⟩
  cases ag <;> exact h2
 ·rintro ⟨hi,h1,h2⟩
  rw [getElem!_pos xs i hi] at h1 h2
  refine qJ (r:=f xs[i]) (by rw [List.getElem?_map,List.getElem?_eq_getElem hi];rfl) h1 ?_
  cases ag <;> exact h2
@[simp] theorem DY {b all ks n} : aJ ((b,all)::ks) (.ptx n)=if n.any (ay b all) then .any else aJ ks (.ptx n):=by
 have h : aJ ((b,all)::ks) (.ptx n)=bif (n.any (ay b all) || aw ks (.ptx n)) then .any else .ptx n:=bC ..
 rw [h,bC]
 cases n.any (ay b all) <;> rfl
@[simp] theorem D0 {b all ks k sz n} : aJ ((b,all)::ks) (.rfx k sz n)=if n.any (ay b all) then .any else aJ ks (.rfx k sz n):=by
 have h : aJ ((b,all)::ks) (.rfx k sz n)=bif (n.any (ay b all) || aw ks (.rfx k sz n)) then .any else .rfx k sz n:=bC ..
 rw [h,bC]
 cases n.any (ay b all) <;> rfl
@[simp] theorem D4 {b all ks n} : aJ ((b,all)::ks) (.tpx n)=if n.any (ay b all) then .any else aJ ks (.tpx n):=by
 have h : aJ ((b,all)::ks) (.tpx n)=bif (n.any (ay b all) || aw ks (.tpx n)) then .any else .tpx n:=bC ..
 rw [h,bC]
 cases n.any (ay b all) <;> rfl
@[simp] theorem Ei {b all n es} : ay b all (slx n es)=false:=by cases n <;> cases es <;> rfl
@[simp] theorem Eg {b all p k n} : ay b all (.ref p k n)=bg b all p:=_root_.id rfl
@[simp] theorem Ea {b all p k n} : ay b all (.adr p k n)=bg b all p:=_root_.id rfl
@[simp] theorem Eb {b all T p k n} : ay b all (.ifa T p k n)=bg b all p:=_root_.id rfl
@[simp] theorem Ec {b all T n} : ay b all (.ifi T n)=false:=_root_.id rfl
@[simp] theorem Eh {b all k n} : ay b all (.slv k n)=false:=_root_.id rfl
@[simp] theorem Ee {b all c} : ay b all (.mrf c)=(all && c == b):=_root_.id rfl
@[simp] theorem Ed {b all k n} : ay b all (.int k n)=false:=_root_.id rfl
@[simp] theorem Ao {b all n} : ay b all (.bool n)=false:=_root_.id rfl
@[simp] theorem Ej {b all n} : ay b all (.str n)=false:=_root_.id rfl
@[simp] theorem Aq {b all} : ay b all .nils=false:=_root_.id rfl
@[simp] theorem Ap {b all} : ay b all .nilp=false:=_root_.id rfl
@[simp] theorem IU {b all n} : ay b all (.sl n)=false:=_root_.id rfl
@[simp] theorem Ef {b all n} : ay b all (.ptr n)=false:=_root_.id rfl
@[simp] theorem IT {b all g n} : ay b all (.fn g n)=false:=_root_.id rfl
@[simp] theorem DV {b all ks c} : aJ ((b,all)::ks) (.mrf c)=if (all && c == b) then .any else aJ ks (.mrf c):=by
 have h : aJ ((b,all)::ks) (.mrf c)=bif ((all && c == b) || aw ks (.mrf c)) then .any else .mrf c:=bC ..
 rw [h,bC]
 cases all && c == b <;> rfl
end Go.Gv

namespace Go.Gv
section
variable {C : CC} {hs : Option (List Nat)} {K : Env -> Prop} {ns : List ao} {dst : Option Nat} {u : Tag (hs,K,ns)} {e : Env} {R : List Nat} {acc : List (List Nat × List Nat)}
theorem aK {sz : Nat} {es : List (List D)} {i : Nat} {c : List D} (h : es[i]? = some c) : gw C hs K ns dst u e R acc sz es i=(c.length=sz /\ dW C hs K ns dst ⟨⟩ e R acc (.ptr c)):=by
 apply propext
 unfold gw dW
 rw [h]
 exact ⟨fun ⟨_,h1,h2⟩=>by cases h1;exact h2,fun h2=>⟨c,rfl,h2⟩⟩
theorem aI {n : Nat} {ag : Bool} {p : Pa} {es : List (List D)} {i off : Nat} {r : List D} (hr : es[i]? = some r) : jY C hs K ns dst u e R acc n ag p es i off=(off + n <= r.length /\ match ag with
    | true=>(((r.drop off).take n).all isV=true -> dW C hs K ns dst ⟨⟩ e R acc (.agg ((r.drop off).take n))) /\
      (((r.drop off).take n).all isV=false -> dW C hs K ns dst ⟨⟩ e R acc (.agx (((r.drop off).take n).mapIdx fun j c=>ldc p i (off + j) c)))
    | false=>dW C hs K ns dst ⟨⟩ e R acc (ldc p i off ((r.drop off).headD .any))):=by
 apply propext
 constructor
 ·rintro ⟨r',h,h1,h2⟩
  rw [hr] at h
  cases h
  refine ⟨h1,?_⟩
  cases ag <;> exact h2
 ·rintro ⟨h1,h2⟩
  refine qJ hr h1 ?_
  cases ag <;> exact h2
@[simp] theorem GK {sz : Nat} {c0 : List D} {es : List (List D)} : gw C hs K ns dst u e R acc sz (c0::es) 0=(c0.length=sz /\ dW C hs K ns dst ⟨⟩ e R acc (.ptr c0)):=aK rfl
theorem uo {n : Nat} {ag : Bool} {p : Pa} {off : Nat} {c0 : List D} {es : List (List D)} : jY C hs K ns dst u e R acc n ag p (c0::es) 0 off=(off + n <= c0.length /\ match ag with
    | true=>(((c0.drop off).take n).all isV=true -> dW C hs K ns dst ⟨⟩ e R acc (.agg ((c0.drop off).take n))) /\
      (((c0.drop off).take n).all isV=false -> dW C hs K ns dst ⟨⟩ e R acc (.agx (((c0.drop off).take n).mapIdx fun j c=>ldc p 0 (off + j) c)))
    | false=>dW C hs K ns dst ⟨⟩ e R acc (ldc p 0 off ((c0.drop off).headD .any))):=aI rfl
@[simp] theorem GL {sz : Nat} {c0 c1 : List D} {es : List (List D)} : gw C hs K ns dst u e R acc sz (c0::c1::es) 1=(c1.length=sz /\ dW C hs K ns dst ⟨⟩ e R acc (.ptr c1)):=aK rfl
theorem uq {n : Nat} {ag : Bool} {p : Pa} {off : Nat} {c0 c1 : List D} {es : List (List D)} : jY C hs K ns dst u e R acc n ag p (c0::c1::es) 1 off=(off + n <= c1.length /\ match ag with
    | true=>(((c1.drop off).take n).all isV=true -> dW C hs K ns dst ⟨⟩ e R acc (.agg ((c1.drop off).take n))) /\
      (((c1.drop off).take n).all isV=false -> dW C hs K ns dst ⟨⟩ e R acc (.agx (((c1.drop off).take n).mapIdx fun j c=>ldc p 1 (off + j) c)))
    | false=>dW C hs K ns dst ⟨⟩ e R acc (ldc p 1 off ((c1.drop off).headD .any))):=aI rfl
@[simp] theorem GM {sz : Nat} {c0 c1 c2 : List D} {es : List (List D)} : gw C hs K ns dst u e R acc sz (c0::c1::c2::es) 2=(c2.length=sz /\ dW C hs K ns dst ⟨⟩ e R acc (.ptr c2)):=aK rfl
theorem ur {n : Nat} {ag : Bool} {p : Pa} {off : Nat} {c0 c1 c2 : List D} {es : List (List D)} : jY C hs K ns dst u e R acc n ag p (c0::c1::c2::es) 2 off=(off + n <= c2.length /\ match ag with
    | true=>(((c2.drop off).take n).all isV=true -> dW C hs K ns dst ⟨⟩ e R acc (.agg ((c2.drop off).take n))) /\
      (((c2.drop off).take n).all isV=false -> dW C hs K ns dst ⟨⟩ e R acc (.agx (((c2.drop off).take n).mapIdx fun j c=>ldc p 2 (off + j) c)))
    | false=>dW C hs K ns dst ⟨⟩ e R acc (ldc p 2 off ((c2.drop off).headD .any))):=aI rfl
@[simp] theorem GN {sz : Nat} {c0 c1 c2 c3 : List D} {es : List (List D)} : gw C hs K ns dst u e R acc sz (c0::c1::c2::c3::es) 3=(c3.length=sz /\ dW C hs K ns dst ⟨⟩ e R acc (.ptr c3)):=aK rfl
theorem ut {n : Nat} {ag : Bool} {p : Pa} {off : Nat} {c0 c1 c2 c3 : List D} {es : List (List D)} : jY C hs K ns dst u e R acc n ag p (c0::c1::c2::c3::es) 3 off=(off + n <= c3.length /\ match ag with
    | true=>(((c3.drop off).take n).all isV=true -> dW C hs K ns dst ⟨⟩ e R acc (.agg ((c3.drop off).take n))) /\
      (((c3.drop off).take n).all isV=false -> dW C hs K ns dst ⟨⟩ e R acc (.agx (((c3.drop off).take n).mapIdx fun j c=>ldc p 3 (off + j) c)))
    | false=>dW C hs K ns dst ⟨⟩ e R acc (ldc p 3 off ((c3.drop off).headD .any))):=aI rfl
@[simp] theorem GO {sz : Nat} {c0 c1 c2 c3 c4 : List D} {es : List (List D)} : gw C hs K ns dst u e R acc sz (c0::c1::c2::c3::c4::es) 4=(c4.length=sz /\ dW C hs K ns dst ⟨⟩ e R acc (.ptr c4)):=aK rfl
theorem uu {n : Nat} {ag : Bool} {p : Pa} {off : Nat} {c0 c1 c2 c3 c4 : List D} {es : List (List D)} : jY C hs K ns dst u e R acc n ag p (c0::c1::c2::c3::c4::es) 4 off=(off + n <= c4.length /\ match ag with
    | true=>(((c4.drop off).take n).all isV=true -> dW C hs K ns dst ⟨⟩ e R acc (.agg ((c4.drop off).take n))) /\
      (((c4.drop off).take n).all isV=false -> dW C hs K ns dst ⟨⟩ e R acc (.agx (((c4.drop off).take n).mapIdx fun j c=>ldc p 4 (off + j) c)))
    | false=>dW C hs K ns dst ⟨⟩ e R acc (ldc p 4 off ((c4.drop off).headD .any))):=aI rfl
attribute [simp] uo uq ur ut uu
end
end Go.Gv

namespace Go.Gv
section
variable {C : CC} {hs : Option (List Nat)} {K : Env -> Prop} {ns : List ao} {dst : Option Nat} {u : Tag (hs,K,ns)} {e : Env} {R : List Nat} {acc : List (List Nat × List Nat)}
@[simp] theorem GP {sz : Nat} {c0 c1 c2 c3 c4 c5 : List D} {es : List (List D)} : gw C hs K ns dst u e R acc sz (c0::c1::c2::c3::c4::c5::es) 5=(c5.length=sz /\ dW C hs K ns dst ⟨⟩ e R acc (.ptr c5)):=aK rfl
@[simp] theorem JU {n : Nat} {ag : Bool} {p : Pa} {off : Nat} {c0 c1 c2 c3 c4 c5 : List D} {es : List (List D)} : jY C hs K ns dst u e R acc n ag p (c0::c1::c2::c3::c4::c5::es) 5 off=(off + n <= c5.length /\ match ag with
    | true=>(((c5.drop off).take n).all isV=true -> dW C hs K ns dst ⟨⟩ e R acc (.agg ((c5.drop off).take n))) /\
      (((c5.drop off).take n).all isV=false -> dW C hs K ns dst ⟨⟩ e R acc (.agx (((c5.drop off).take n).mapIdx fun j c=>ldc p 5 (off + j) c)))
    | false=>dW C hs K ns dst ⟨⟩ e R acc (ldc p 5 off ((c5.drop off).headD .any))):=aI rfl
@[simp] theorem GQ {sz : Nat} {c0 c1 c2 c3 c4 c5 c6 : List D} {es : List (List D)} : gw C hs K ns dst u e R acc sz (c0::c1::c2::c3::c4::c5::c6::es) 6=(c6.length=sz /\ dW C hs K ns dst ⟨⟩ e R acc (.ptr c6)):=aK rfl
@[simp] theorem JV {n : Nat} {ag : Bool} {p : Pa} {off : Nat} {c0 c1 c2 c3 c4 c5 c6 : List D} {es : List (List D)} : jY C hs K ns dst u e R acc n ag p (c0::c1::c2::c3::c4::c5::c6::es) 6 off=(off + n <= c6.length /\ match ag with
    | true=>(((c6.drop off).take n).all isV=true -> dW C hs K ns dst ⟨⟩ e R acc (.agg ((c6.drop off).take n))) /\
      (((c6.drop off).take n).all isV=false -> dW C hs K ns dst ⟨⟩ e R acc (.agx (((c6.drop off).take n).mapIdx fun j c=>ldc p 6 (off + j) c)))
    | false=>dW C hs K ns dst ⟨⟩ e R acc (ldc p 6 off ((c6.drop off).headD .any))):=aI rfl
@[simp] theorem GR {sz : Nat} {c0 c1 c2 c3 c4 c5 c6 c7 : List D} {es : List (List D)} : gw C hs K ns dst u e R acc sz (c0::c1::c2::c3::c4::c5::c6::c7::es) 7=(c7.length=sz /\ dW C hs K ns dst ⟨⟩ e R acc (.ptr c7)):=aK rfl
@[simp] theorem JW {n : Nat} {ag : Bool} {p : Pa} {off : Nat} {c0 c1 c2 c3 c4 c5 c6 c7 : List D} {es : List (List D)} : jY C hs K ns dst u e R acc n ag p (c0::c1::c2::c3::c4::c5::c6::c7::es) 7 off=(off + n <= c7.length /\ match ag with
    | true=>(((c7.drop off).take n).all isV=true -> dW C hs K ns dst ⟨⟩ e R acc (.agg ((c7.drop off).take n))) /\
      (((c7.drop off).take n).all isV=false -> dW C hs K ns dst ⟨⟩ e R acc (.agx (((c7.drop off).take n).mapIdx fun j c=>ldc p 7 (off + j) c)))
    | false=>dW C hs K ns dst ⟨⟩ e R acc (ldc p 7 off ((c7.drop off).headD .any))):=aI rfl
end
end Go.Gv

namespace Go.Gv
section
variable {C : CC} {hs : Option (List Nat)} {K : Env -> Prop} {ns : List ao} {e : Env} {R : List Nat} {acc : List (List Nat × List Nat)}
end
end Go.Gv

namespace Go.Gv
section
variable {C : CC} {hs : Option (List Nat)} {K : Env -> Prop} {ns : List ao} {e : Env} {R : List Nat} {acc : List (List Nat × List Nat)}
end
end Go.Gv

namespace Go.Gv
section
variable {C : CC} {hs : Option (List Nat)} {K : Env -> Prop} {ns : List ao} {dst : Option Nat} {e : Env} {R : List Nat} {acc : List (List Nat × List Nat)} {u : Tag (hs,K,ns)}
@[simp] theorem EJ : ji none=[]:=_root_.id rfl
@[simp] theorem EK {x : Opd} : ji (some x)=[x]:=_root_.id rfl
@[simp] theorem JR {c c' k n : Nat} {q : Pa} : jp c q (.ref (.r c') k n)=if c'=c then .ref q k n else .ref (.r c') k n:=_root_.id rfl
@[simp] theorem EN {c b i o k n : Nat} {q : Pa} : jp c q (.ref (.n b i o) k n)=.ref (.n b i o) k n:=_root_.id rfl
@[simp] theorem Pm {c : Nat} {q : Pa} {es} : jp c q (.sl es)=.sl es:=_root_.id rfl
@[simp] theorem EM {c : Nat} {q : Pa} : jp c q .nils=.nils:=_root_.id rfl
@[simp] theorem JQ {c : Nat} {q : Pa} {k n} : jp c q (.int k n)=.int k n:=_root_.id rfl
@[simp] theorem JS {c : Nat} {q : Pa} {b es} : jp c q (slx b es)=slx b es:=by cases b <;> cases es <;> rfl
@[simp] theorem Ac {b c i o k n : Nat} : gP b (.ref (.n c i o) k n)=(c != b || (i == 0 && o == 1)):=_root_.id rfl
@[simp] theorem Ad {b c k n : Nat} : gP b (.ref (.r c) k n)=true:=_root_.id rfl
@[simp] theorem It {b : Nat} {es} : gP b (.sl es)=true:=_root_.id rfl
@[simp] theorem Ab {b : Nat} : gP b .nils=true:=_root_.id rfl
@[simp] theorem DI {b : Nat} {k n} : gP b (.int k n)=true:=_root_.id rfl
@[simp] theorem DJ {b : Nat} {x es} : gP b (slx x es)=true:=by cases x <;> cases es <;> rfl
def wc (C : CC) (hs : Option (List Nat)) (K : Env -> Prop) (ns : List ao) (dst : Option Nat) (_ : Tag (hs,K,ns)) (e : Env) (R : List Nat) (acc : List (List Nat × List Nat)) (T : Nat) (d : D) : Prop:=match d with
 | .adr p i off=>dW C hs K ns dst ⟨⟩ e R acc (.ifa T p i off)
 | .int k n=>k=.i64 /\ dW C hs K ns dst ⟨⟩ e R acc (.ifi T n)
 | _=>False
@[simp] theorem O7 {T x v1} : opW C hs K ns dst (.mkI T x) v1 e R acc=wc C hs K ns dst ⟨⟩ e R acc T (vd (aa e) x):=by
 show res (aa e) _ (.mkI T x)=_
 simp only [res,wc]
 cases vd (aa e) x <;> rfl
@[simp] theorem IV {T p i off} : wc C hs K ns dst u e R acc T (.adr p i off)=dW C hs K ns dst ⟨⟩ e R acc (.ifa T p i off):=_root_.id rfl
@[simp] theorem IW {T k n} : wc C hs K ns dst u e R acc T (.int k n)=(k=.i64 /\ dW C hs K ns dst ⟨⟩ e R acc (.ifi T n)):=_root_.id rfl
def Br (C : CC) (hs : Option (List Nat)) (K : Env -> Prop) (ns : List ao) (dst : Option Nat) (_ : Tag (hs,K,ns)) (e : Env) (R : List Nat) (acc : List (List Nat × List Nat)) (T : Nat) (d : D) : Prop:=match d with
 | .ifi T' n=>T'=T /\ dW C hs K ns dst ⟨⟩ e R acc (.int .i64 n)
 | _=>False
@[simp] theorem Pj {T x v1} : opW C hs K ns dst (.tya T x) v1 e R acc=Br C hs K ns dst ⟨⟩ e R acc T (vd (aa e) x):=by
 show res (aa e) _ (.tya T x)=_
 simp only [res,Br]
 cases vd (aa e) x <;> rfl
@[simp] theorem Kh {T T' n} : Br C hs K ns dst u e R acc T (.ifi T' n)=(T'=T /\ dW C hs K ns dst ⟨⟩ e R acc (.int .i64 n)):=_root_.id rfl
def pT (C : CC) (g : Nat) (hs : Option (List Nat)) (K : Env -> Prop) (ns : List ao) (dst : Option Nat) (_ : Tag (hs,K,ns)) (e : Env) (R : List Nat) (acc : List (List Nat × List Nat)) (b sz : Nat) (es : List (List D)) (W : List D) : Prop :=
 ∃ d,∃ es' : List (List D),0 < es'.length /\ C g (.blk sz es::W) d [.blk sz es',.nilp] /\ doW C hs K ns ⟨⟩ e R acc (bN dst d++[(b,.blk sz es')]) [(b,false)]
theorem bJ {g b sz : Nat} {es es' : List (List D)} {W : List D} {d : D} (h : C g (.blk sz es::W) d [.blk sz es',.nilp]) (hp : 0 < es'.length)
  (hk : doW C hs K ns ⟨⟩ e R acc (bN dst d++[(b,.blk sz es')]) [(b,false)]) : pT C g hs K ns dst u e R acc b sz es W:=⟨d,es',hp,h,hk⟩
def FG (C : CC) (g : Nat) (hs : Option (List Nat)) (K : Env -> Prop) (ns : List ao) (dst : Option Nat) (_ : Tag (hs,K,ns)) (e : Env) (R : List Nat) (acc : List (List Nat × List Nat)) (T : Nat) (xs : List Opd) (d : D) : Prop:=match d with
 | .ifa T' (.r b) i off=>T'=T /\ i=0 /\ off=0 /\ cC (aa e b) (fun sz es=>0 < es.length /\ (∀ x ∈ xs,isV (vd (aa e) x)=true) /\ pT C g hs K ns dst ⟨⟩ e R acc b sz es (.adr (.r 10015) 0 0::xs.map (vd (aa e)))) ⟨⟩
 | _=>False
@[simp] theorem PD {g xs T T' b i off} : FG C g hs K ns dst u e R acc T xs (.ifa T' (.r b) i off)=(T'=T /\ i=0 /\ off=0 /\ cC (aa e b) (fun sz es=>0 < es.length /\ (∀ x ∈ xs,isV (vd (aa e) x)=true) /\ pT C g hs K ns dst ⟨⟩ e R acc b sz es (.adr (.r 10015) 0 0::xs.map (vd (aa e)))) ⟨⟩):=_root_.id rfl
@[simp] theorem Ex {g m T x xs v1} : opW C hs K ns dst (.callI g m T x xs) v1 e R acc=FG C g hs K ns dst ⟨⟩ e R acc T xs (vd (aa e) x):=by
 unfold opW
 simp only [aq]
 cases vd (aa e) x <;> first | rfl | skip
def FH (C : CC) (g : Nat) (hs : Option (List Nat)) (K : Env -> Prop) (ns : List ao) (dst : Option Nat) (_ : Tag (hs,K,ns)) (e : Env) (R : List Nat) (acc : List (List Nat × List Nat)) (xs : List Opd) (d : D) : Prop:=match d with
 | .ifa T (.r b) i off=>i=0 /\ off=0 /\ cC (aa e b) (fun sz es=>0 < es.length /\ (∀ x ∈ xs,isV (vd (aa e) x)=true) /\ pT C g hs K ns dst ⟨⟩ e R acc b sz es (.ifa T (.r 10015) 0 0::xs.map (vd (aa e)))) ⟨⟩
 | _=>False
@[simp] theorem PF {g xs T b i off} : FH C g hs K ns dst u e R acc xs (.ifa T (.r b) i off)=(i=0 /\ off=0 /\ cC (aa e b) (fun sz es=>0 < es.length /\ (∀ x ∈ xs,isV (vd (aa e) x)=true) /\ pT C g hs K ns dst ⟨⟩ e R acc b sz es (.ifa T (.r 10015) 0 0::xs.map (vd (aa e)))) ⟨⟩):=_root_.id rfl
@[simp] theorem Ez {g x xs v1} : opW C hs K ns dst (.callM g x xs) v1 e R acc=FH C g hs K ns dst ⟨⟩ e R acc xs (vd (aa e) x):=by
 unfold opW
 simp only [aq]
 cases vd (aa e) x <;> first | rfl | skip
def xY (C : CC) (g : Nat) (hs : Option (List Nat)) (K : Env -> Prop) (ns : List ao) (dst : Option Nat) (_ : Tag (hs,K,ns)) (e : Env) (R : List Nat) (acc : List (List Nat × List Nat)) (xs : List Opd) (d : D) : Prop:=match d with
 | .ref (.r b) k n=>k=0 /\ cC (aa e b) (fun sz es=>0 < es.length /\ es.length=n /\ (∀ x ∈ xs,isV (vd (aa e) x)=true) /\ pT C g hs K ns dst ⟨⟩ e R acc b sz es (.ref (.r 10015) 0 n::xs.map (vd (aa e)))) ⟨⟩
 | _=>False
@[simp] theorem Kx {g xs b k n} : xY C g hs K ns dst u e R acc xs (.ref (.r b) k n)=(k=0 /\ cC (aa e b) (fun sz es=>0 < es.length /\ es.length=n /\ (∀ x ∈ xs,isV (vd (aa e) x)=true) /\ pT C g hs K ns dst ⟨⟩ e R acc b sz es (.ref (.r 10015) 0 n::xs.map (vd (aa e)))) ⟨⟩):=_root_.id rfl
@[simp] theorem EB {g x xs v1} : opW C hs K ns dst (.callR g x xs) v1 e R acc=xY C g hs K ns dst ⟨⟩ e R acc xs (vd (aa e) x):=by
 unfold opW
 simp only [aq]
 cases vd (aa e) x <;> first | rfl | skip
theorem xi {x y : Opd} {v1 : _} {b i off n sz0 sz : Nat} {es0 es : List (List D)} {row0 : List D} (hx : vd (aa e) x=.adr (.r b) i off) (hy : vd (aa e) y=.ref (.n b i off) 0 n) (hb : aa e b=.blk sz0 es0) (h1 : es0[i]? = some row0) (h2 : row0[off]? = some (.own sz es)) (h3 : n <= es.length)
  (hk : doW C hs K ns ⟨⟩ e R acc [(b,.blk sz0 (aW es0 i off 1 [.own sz (es.take n)]))] []) : opW C hs K ns none (.stL x y) v1 e R acc:=by
 unfold opW
 simp only [aq]
 refine ⟨trivial,?_⟩
 rw [hx,hy]
 refine ⟨rfl,rfl,rfl,rfl,?_⟩
 rw [hb]
 exact ⟨row0,h1,sz,es,h2,h3,hk⟩
theorem jH {g s : Nat} {x : Opd} {xs : List Opd} {v1 : _} {T b sz sz1 sz2 : Nat} {fs sp fs' : List (List D)} {ds : List D} {d : D} (hx : vd (aa e) x=.ifa T (.r b) 0 0) (hs0 : s < 10000) (hd : dst ≠ some s) (hxs : ∀ x ∈ xs,aP (vd (aa e) x)=true)
  (hb : aa e b=.blk sz [[.own sz1 fs,.own sz2 sp]]) (hs1 : aa e s=.ptx ds) (hk1 : ds.all (gP b)=true) (f1 : ∀ e ∈ fs,∀ c ∈ e,aP c=true) (f2 : ∀ e ∈ sp,∀ c ∈ e,aP c=true) (hd1 : aP d=true \/ d=.tup []) (f3 : ∀ e ∈ fs',∀ c ∈ e,aP c=true)
  (hc : C g (.blk sz [[.own sz1 fs,.slv 0 sp]]::.ifa T (.r 10015) 0 0::xs.map (vd (aa e))) d [.blk sz [[.own sz1 fs',.slv 0 sp]],.nils])
  (hk : doW C hs K ns ⟨⟩ e R acc (bN dst d++[(b,.blk sz [[.own sz1 fs',.own sz2 sp]]),(s,.ptx ds)]) [(b,false)]) : opW C hs K ns dst (.callQ g s x xs) v1 e R acc:=by
 unfold opW
 simp only [aq]
 rw [hx]
 refine ⟨rfl,rfl,hs0,hd,hxs,?_⟩
 rw [hb]
 simp only
 rw [hs1]
 exact ⟨hk1,f1,f2,d,fs',hd1,f3,hc,hk⟩
theorem sU {s t : Nat} {x : Opd} {v1 : _} {c n sz : Nat} {es : List (List D)} {ds : List D} (hs0 : s < 10000) (hst : s ≠ t) (hx : vd (aa e) x=.agx [.nils,.ref (.r c) 0 n]) (hc : c ≠ rt t 0) (hcb : aa e c=.blk sz es) (hsz : 0 < sz) (hl : es.length=n) (h1 : ∀ e ∈ es,∀ c ∈ e,ar c=true)
  (hs1 : aa e s=.ptx ds) (hm : (ds.all fun d=>!ay (rt t 0) true d)=true)
  (hk0 : n=0 -> doW C hs K ns ⟨⟩ e R acc [(t,.adr (.r (rt t 0)) 0 0),(rt t 0,.blk 2 [[.own sz [],.any]])] [(rt t 0,true)])
  (hk : 0 < n -> doW C hs K ns ⟨⟩ e R acc [(t,.adr (.r (rt t 0)) 0 0),(rt t 0,.blk 2 [[.own sz [],.own sz es]]),(c,.any),(s,.ptx (ds.map (jp c (.n (rt t 0) 0 1))))] [(rt t 0,true)]) : opW C hs K ns (some t) (.boxK s x) v1 e R acc:=by
 unfold opW
 simp only [aq]
 refine ⟨hs0,hst,?_⟩
 rw [hx]
 refine ⟨rfl,hc,?_⟩
 rw [hcb]
 refine ⟨hsz,hl,h1,?_⟩
 rw [hs1]
 refine ⟨hm,?_⟩
 by_cases hn : n=0
 ·rw [if_pos hn];exact hk0 hn
 ·rw [if_neg hn];exact hk (Nat.pos_of_ne_zero hn)
end
end Go.Gv

namespace Go.Gv
def oI (c : Int) : Bool:=(97 <= c && c <= 122) || (65 <= c && c <= 90)
def vX (c : Int) : Bool:=48 <= c && c <= 57
def vY (c : UInt8) : Bool:=oI c.toNat || vX c.toNat || c.toNat == 95
def xp (s : List UInt8) : Nat:=(s.takeWhile vY).length
def kQ (n : Int) : Bool:=-1125899906842624 <= n && n <= 1125899906842624
def Qq (s : List UInt8) : Bool:=s ≠ [] && s.length <= 20 && oI (s[0]!).toNat && xp s == s.length
theorem am {n m : Int} (h : n=m) (h2 : -9223372036854775808 <= m /\ m < 9223372036854775808) : IntKind.wrap .i64 n=m:=by
 subst h
 have e1 : IntKind.i64.signed=true:=rfl
 have e2 : (2 ^ (IntKind.i64.bits - 1) : Int)=9223372036854775808:=rfl
 have e3 : (2 ^ IntKind.i64.bits : Int)=18446744073709551616:=rfl
 unfold IntKind.wrap
 simp only [e1,e2,e3,Bool.true_and,decide_eq_true_eq]
 split <;> omega
variable {C : CC} (hC : az prog C)
include hC
end Go.Gv

namespace Go.Gv
structure SlI where
 n : Bool
 l : List Int
 deriving Inhabited
def slI (x : SlI) : D:=slx x.n (x.l.map fun n=>[.int .i64 n])
def knD (k : Int × Int) : List D:=[.int .i64 k.1,.int .i64 k.2]
structure Sec where
 name : List UInt8
 height : Int
 price : Int
 areaN : Bool
 area : List (Int × Int)
 convN : Bool
 conv : List (Int × Int)
 deriving Inhabited
def RB (s : Sec) : List D:=[.str s.name,.int .i64 s.height,.int .i64 s.price,slx s.areaN (s.area.map knD),slx s.convN (s.conv.map knD)]
def gr {α : Type} (p : α -> Bool) (xs : List α) : Int:=match xs.findIdx? p with
 | some i=>i
 | none=>-1
theorem fO {α : Type} {p : α -> Bool} {xs : List α} {i : Nat} (hj : ∀ (j : Nat) (h : j < xs.length),j < i -> p xs[j]=false) (hi : i < xs.length) (h : p xs[i]=true) : gr p xs=i:=by
 have : xs.findIdx? p=some i:=by
  rw [List.findIdx?_eq_some_iff_getElem]
  exact ⟨hi,h,fun j hji=>by simp [hj j (by omega) hji]⟩
 simp [gr,this]
theorem im {α : Type} {p : α -> Bool} {xs : List α} (hj : ∀ (j : Nat) (h : j < xs.length),p xs[j]=false) : gr p xs=-1:=by
 have : xs.findIdx? p=none:=by
  rw [List.findIdx?_eq_none_iff]
  intro x hx
  obtain ⟨j,h,rfl⟩:=List.mem_iff_getElem.1 hx
  exact hj j h
 simp [gr,this]
theorem lF {α : Type} (p : α -> Bool) (xs : List α) : decide (0 <= gr p xs)=xs.any p:=by
 unfold gr
 split
 ·rename_i i h
  rw [List.findIdx?_eq_some_iff_getElem] at h
  obtain ⟨h1,h2,_⟩:=h
  have : xs.any p=true:=List.any_eq_true.2 ⟨_,List.getElem_mem h1,h2⟩
  simp [this]
 ·rename_i h
  rw [List.findIdx?_eq_none_iff] at h
  have : xs.any p=false:=by rw [List.any_eq_false];intro x hx;simp [h x hx]
  simp [this]
variable {C : CC} (hC : az prog C)
include hC
theorem tJ {b : Bool} {xs : List Int} {g : Nat} {cs : List D} (p : Int -> Bool) (hs : xs.length < 2 ^ 62) (hp : ∀ x ∈ xs,C g (.int .i64 x::cs) (.bool (p x)) []) : C 35 [slx b (xs.map fun x=>[.int .i64 x]),.fn g cs] (.int .i64 (gr p xs)) []:=by
 refine bp hC (nf:=N35) rfl rfl ?_
 simp [N35]
 refine aE Nat (fun i=>[(0,slx b (xs.map fun x=>[.int .i64 x])),(1,.fn g cs),(7,.int .i64 xs.length),(8,.int .i64 i)]) (fun i=>i <= xs.length /\ ∀ (j : Nat) (h : j < xs.length),j < i -> p xs[j]=false) (fun i=>xs.length - i) 0 (by simp) (by simp) ?_
 rintro i ⟨hi,hj⟩
 simp
 refine av (fun h=>?_) (fun h=>?_) <;> simp [h] <;> simp at h
 ·have hw : IntKind.wrap .i64 ((i : Int) + 1)=((i + 1 : Nat) : Int):=am (by omega) (by omega)
  have hc:=hp _ (List.getElem_mem h)
  simp [h,List.getElem_map] at hc ⊢
  refine ae hc (.inl rfl) ?_
  simp
  refine av (fun h1=>?_) (fun h1=>?_) <;> simp [h1,hw]
  ·rw [fO hj h h1]
  ·refine ⟨i + 1,⟨by omega,fun j hl hjj=>?_⟩,by omega,rfl⟩
   rcases Nat.lt_succ_iff_lt_or_eq.1 hjj with h2 | rfl
   ·exact hj j hl h2
   ·exact h1
 ·rw [im (fun j hl=>hj j hl (by omega))]
theorem tH {b : Bool} {xs : List Int} {g : Nat} {cs : List D} (p : Int -> Bool) (hs : xs.length < 2 ^ 62) (hp : ∀ x ∈ xs,C g (.int .i64 x::cs) (.bool (p x)) []) : C 11 [slx b (xs.map fun x=>[.int .i64 x]),.fn g cs] (.bool (xs.any p)) []:=by
 refine bp hC (nf:=N11) rfl rfl ?_
 simp [N11]
 refine ae (tJ hC p hs hp) (.inl rfl) ?_
 simp [lF]
end Go.Gv

namespace Go.Gv
structure Spt where
 x : Int
 y : Int
 z : Int
 deriving Inhabited,DecidableEq
structure Fce where
 a : Int
 b : Int
 c : Int
 k : Int
 deriving Inhabited,DecidableEq
structure Msh where
 sn : Bool
 s : List Spt
 fn : Bool
 f : List Fce
def ju (s : Spt) : List D:=[.int .i64 s.x,.int .i64 s.y,.int .i64 s.z]
def cE (f : Fce) : List D:=[.int .i64 f.a,.int .i64 f.b,.int .i64 f.c,.int .i64 f.k]
def ci (m : Msh) : List D:=[slx m.sn (m.s.map ju),slx m.fn (m.f.map cE)]
theorem k8 (s : Spt) : ju s=[.int .i64 s.x,.int .i64 s.y,.int .i64 s.z]:=_root_.id rfl
theorem bv (f : Fce) : cE f=[.int .i64 f.a,.int .i64 f.b,.int .i64 f.c,.int .i64 f.k]:=_root_.id rfl
theorem ai (m : Msh) : ci m=[slx m.sn (m.s.map ju),slx m.fn (m.f.map cE)]:=_root_.id rfl
def spt (m : Msh) (i : Nat) : Spt:=m.s[i]!
def fce (m : Msh) (i : Nat) : Fce:=m.f[i]!
@[simp high] theorem Q6 (m : Msh) (i : Nat) : m.s[i]! = spt m i:=_root_.id rfl
@[simp high] theorem Qc (m : Msh) (i : Nat) : m.f[i]! = fce m i:=_root_.id rfl
@[simp high] theorem Q7 (m : Msh) (i : Nat) : m.s[i]?.getD default=spt m i:=by simp only [spt,List.getElem!_eq_getElem?_getD]
@[simp high] theorem Qd (m : Msh) (i : Nat) : m.f[i]?.getD default=fce m i:=by simp only [fce,List.getElem!_eq_getElem?_getD]
@[simp] theorem Rl (m : Msh) (i : Nat) (h : i < m.s.length) : m.s[i]=spt m i:=(getElem!_pos m.s i h).symm
@[simp] theorem mH (m : Msh) (i : Nat) (h : i < m.f.length) : m.f[i]=fce m i:=(getElem!_pos m.f i h).symm
abbrev Pnt:=Int × Int
def ptD (p : Pnt) : List D:=[.int .i64 p.1,.int .i64 p.2]
def ptS (s : Spt) : Pnt:=(s.x,s.y)
def okP (p : Pnt) : Bool:=-16777216 <= p.1 && p.1 <= 16777216 && -16777216 <= p.2 && p.2 <= 16777216
def br (s : Spt) : Bool:=-16777216 <= s.x && s.x <= 16777216 && -16777216 <= s.y && s.y <= 16777216 && -4194304 <= s.z && s.z <= 4194304
theorem nP {s : Spt} (h : br s=true) : okP (ptS s)=true:=by
 simp only [br,Bool.and_eq_true,decide_eq_true_eq] at h
 show okP (s.x,s.y)=true
 simp [okP]
 omega
def d6 (a b c : Pnt) : Int:=(b.1 - a.1) * (c.2 - a.2) - (b.2 - a.2) * (c.1 - a.1)
theorem tZ {a b k l : Int} (h1 : -k <= a) (h2 : a <= k) (h3 : -l <= b) (h4 : b <= l) : -(k * l) <= a * b /\ a * b <= k * l:=by
 have hk : 0 <= k:=by omega
 have hl : 0 <= l:=by omega
 have e1:=Int.mul_nonneg (show 0 <= k - a by omega) (show 0 <= l - b by omega)
 have e2:=Int.mul_nonneg (show 0 <= k + a by omega) (show 0 <= l + b by omega)
 have e3:=Int.mul_nonneg (show 0 <= k - a by omega) (show 0 <= l + b by omega)
 have e4:=Int.mul_nonneg (show 0 <= k + a by omega) (show 0 <= l - b by omega)
 simp only [Int.sub_mul,Int.mul_sub,Int.add_mul,Int.mul_add] at e1 e2 e3 e4
 omega
theorem iT {p : Pnt} (h : okP p=true) : -16777216 <= p.1 /\ p.1 <= 16777216 /\ -16777216 <= p.2 /\ p.2 <= 16777216:=by
 simp only [okP,Bool.and_eq_true,decide_eq_true_eq] at h
 omega
theorem xm {a b c : Pnt} (ha : okP a=true) (hb : okP b=true) (hc : okP c=true) :
  (-1125899906842624 <= (b.1 - a.1) * (c.2 - a.2) /\ (b.1 - a.1) * (c.2 - a.2) <= 1125899906842624) /\ (-1125899906842624 <= (b.2 - a.2) * (c.1 - a.1) /\ (b.2 - a.2) * (c.1 - a.1) <= 1125899906842624):=by
 have:=iT ha
 have:=iT hb
 have:=iT hc
 exact ⟨tZ (k:=33554432) (l:=33554432) (by omega) (by omega) (by omega) (by omega),tZ (k:=33554432) (l:=33554432) (by omega) (by omega) (by omega) (by omega)⟩
abbrev Tri:=Pnt × Pnt × Pnt
def bY (t : Tri) : List D:=[.int .i64 t.1.1,.int .i64 t.1.2,.int .i64 t.2.1.1,.int .i64 t.2.1.2,.int .i64 t.2.2.1,.int .i64 t.2.2.2]
def okT (t : Tri) : Bool:=okP t.1 && okP t.2.1 && okP t.2.2
def mg (t : Tri) : Int:=d6 t.1 t.2.1 t.2.2
def mw (p q : Pnt) (u : Tri) : Bool:=d6 p q u.1 <= 0 && d6 p q u.2.1 <= 0 && d6 p q u.2.2 <= 0
def uA (t u : Tri) : Bool:=mw t.1 t.2.1 u || mw t.2.1 t.2.2 u || mw t.2.2 t.1 u
def ovT (t u : Tri) : Bool:=!uA t u && !uA u t
def aX (m : Msh) (f : Fce) : Tri:=(ptS (spt m f.a.toNat),ptS (spt m f.b.toNat),ptS (spt m f.c.toNat))
def crn (f : Fce) : Nat -> Int
 | 0=>f.a
 | 1=>f.b
 | 2=>f.c
 | 3=>f.a
 | 4=>f.b
 | _=>f.c
def fB (n : Nat) (a : Int) : Bool:=0 <= a && a < n
def inS (m : Msh) (f : Fce) : Bool:=fB m.s.length f.a && fB m.s.length f.b && fB m.s.length f.c
theorem nB {m : Msh} {f : Fce} (h : inS m f=true) : (0 <= f.a /\ f.a.toNat < m.s.length) /\ (0 <= f.b /\ f.b.toNat < m.s.length) /\ (0 <= f.c /\ f.c.toNat < m.s.length):=by
 simp only [inS,fB,Bool.and_eq_true,decide_eq_true_eq] at h
 omega
variable {C : CC} (hC : az prog C)
include hC
theorem uf (p : Pnt) : C 313 [.agg (ptD p)] (.bool (okP p)) []:=by
 refine bp hC (nf:=N313) rfl rfl ?_
 simp [N313,ptD,okP]
 repeat' (refine av (fun h=>?_) (fun h=>?_) <;> simp at h <;> simp [h] <;> try omega)
theorem tV (s : Spt) : C 303 [.agg (ju s)] (.bool (br s)) []:=by
 have k:=uf hC (s.x,s.y)
 simp [ptD,okP] at k
 refine bp hC (nf:=N303) rfl rfl ?_
 simp [N303,ju,br]
 refine ae k (.inl rfl) ?_
 simp
 repeat' (refine av (fun h=>?_) (fun h=>?_) <;> simp at h <;> simp [h] <;> try omega)
theorem oO (m : Msh) : C 302 [.agg (ci m)] (.bool (decide (m.s.length <= 2000) && decide (m.f.length <= 4000))) []:=by
 refine bp hC (nf:=N302) rfl rfl ?_
 simp [N302,ci]
 refine av (fun h=>?_) (fun h=>?_) <;> simp at h <;> simp [h]
 ·rw [decide_eq_true (show m.s.length <= 2000 by omega)]
  simp
  exact Iff.intro (fun h2=>by omega) (fun h2=>by omega)
 ·omega
theorem je (m : Msh) (i : Nat) (h : i < m.s.length) : C 304 [.agg (ci m),.int .i64 i] (.agg (ptD (ptS (spt m i)))) []:=by
 refine bp hC (nf:=N304) rfl rfl ?_
 simp [N304,ci,h,k8,ptD,ptS]
 exact aV (by decide +kernel)
theorem lJ (f : Fce) : C 305 [.agg (cE f)] (.agg [.int .i64 f.a,.int .i64 f.b,.int .i64 f.c]) []:=by
 refine bp hC (nf:=N305) rfl rfl ?_
 simp [N305,cE]
theorem nG (f : Fce) (k : Nat) (hk : k < 3) : C 298 [.agg (cE f),.int .i64 k] (.agg [.int .i64 (crn f k),.int .i64 (crn f (k + 1))]) []:=by
 have k1:=lJ hC f
 refine bp hC (nf:=N298) rfl rfl ?_
 rw [cE] at k1 ⊢
 simp [N298]
 refine ae k1 (.inl rfl) ?_
 have w : IntKind.wrap .i64 ((k : Int) + 1)=((k + 1 : Nat) : Int):=am (by omega) (by omega)
 have w0 : IntKind.wrap .i64 1=1:=by decide
 have w1 : IntKind.wrap .i64 2=2:=by decide
 have w2 : IntKind.wrap .i64 3=3:=by decide
 rcases (by omega : k=0 \/ k=1 \/ k=2) with rfl | rfl | rfl <;> simp [crn,w0,w1,w2] <;> exact aV (by decide +kernel)
theorem qF {a b c : Pnt} (ha : okP a=true) (hb : okP b=true) (hc : okP c=true) : C 308 [.agg (ptD a),.agg (ptD b),.agg (ptD c)] (.int .i64 (d6 a b c)) []:=by
 have:=iT ha
 have:=iT hb
 have:=iT hc
 have h4:=xm ha hb hc
 refine bp hC (nf:=N308) rfl rfl ?_
 have w1 : IntKind.wrap .i64 (b.1 - a.1)=b.1 - a.1:=am rfl (by omega)
 have w2 : IntKind.wrap .i64 (c.2 - a.2)=c.2 - a.2:=am rfl (by omega)
 have w3 : IntKind.wrap .i64 (b.2 - a.2)=b.2 - a.2:=am rfl (by omega)
 have w4 : IntKind.wrap .i64 (c.1 - a.1)=c.1 - a.1:=am rfl (by omega)
 have w5 : IntKind.wrap .i64 ((b.1 - a.1) * (c.2 - a.2))=(b.1 - a.1) * (c.2 - a.2):=am rfl (by omega)
 have w6 : IntKind.wrap .i64 ((b.2 - a.2) * (c.1 - a.1))=(b.2 - a.2) * (c.1 - a.1):=am rfl (by omega)
 have w7 : IntKind.wrap .i64 ((b.1 - a.1) * (c.2 - a.2) - (b.2 - a.2) * (c.1 - a.1))=d6 a b c:=am rfl (by rw [d6];omega)
 simp [N308,ptD,w1,w2,w3,w4,w5,w6,w7]
theorem AS (m : Msh) (f : Fce) (h : inS m f=true) : C 307 [.agg (ci m),.agg (cE f)] (.agg (bY (aX m f))) []:=by
 obtain ⟨⟨a1,a2⟩,⟨b1,b2⟩,⟨c1,c2⟩⟩:=nB h
 have ka:=je hC m f.a.toNat a2
 have kb:=je hC m f.b.toNat b2
 have kc:=je hC m f.c.toNat c2
 rw [Int.toNat_of_nonneg a1] at ka
 rw [Int.toNat_of_nonneg b1] at kb
 rw [Int.toNat_of_nonneg c1] at kc
 refine bp hC (nf:=N307) rfl rfl ?_
 rw [ci] at ka kb kc ⊢
 simp [N307,cE]
 simp [ptD] at ka kb kc
 refine ae ka (.inl rfl) ?_
 simp
 refine ae kb (.inl rfl) ?_
 simp
 refine ae kc (.inl rfl) ?_
 simp [bY,aX]
 exact aV (by decide +kernel)
end Go.Gv

namespace Go.Gv
theorem dy : IntKind.wrap .i64 1=1:=by decide
theorem dJ : IntKind.wrap .i64 2=2:=by decide
theorem dK : IntKind.wrap .i64 3=3:=by decide
variable {C : CC} (hC : az prog C)
include hC
set_option maxHeartbeats 1000000 in
theorem yK {t u : Tri} (ht : okT t=true) (hu : okT u=true) : C 311 [.agg (bY t),.agg (bY u)] (.bool (uA t u)) []:=by
 simp only [okT,Bool.and_eq_true] at ht hu
 obtain ⟨⟨t1,t2⟩,t3⟩:=ht
 obtain ⟨⟨u1,u2⟩,u3⟩:=hu
 have kk:=fun (p q r : Pnt) (hp : okP p=true) (hq : okP q=true) (hr : okP r=true)=>qF hC hp hq hr
 simp only [ptD] at kk
 have E : uA t u=(mw t.1 t.2.1 u || mw t.2.1 t.2.2 u || mw t.2.2 t.1 u):=rfl
 rw [E]
 clear E
 have S : ∀ p q,mw p q u=(decide (d6 p q u.1 <= 0) && decide (d6 p q u.2.1 <= 0) && decide (d6 p q u.2.2 <= 0)):=fun p q=>rfl
 refine bp hC (nf:=N311) rfl rfl ?_
 rw [bY,bY]
 simp [N311]
 refine aE Nat (fun i=>[(2,.ptr (bY t)),(3,.ptr (bY u)),(8,.int .i64 i)]) (fun i=>i <= 3 /\ (1 <= i -> mw t.1 t.2.1 u=false) /\ (2 <= i -> mw t.2.1 t.2.2 u=false) /\ (3 <= i -> mw t.2.2 t.1 u=false)) (fun i=>3 - i) 0 (by simp) (by simp [bY]) ?_
 rintro i ⟨hi,s1,s2,s3⟩
 rcases (by omega : i=0 \/ i=1 \/ i=2 \/ i=3) with rfl | rfl | rfl | rfl
 ·simp [bY,dy,dJ,dK]
  refine ⟨aV (by decide +kernel),?_⟩
  refine ae (kk t.1 t.2.1 u.1 t1 t2 u1) (.inl rfl) ?_
  simp
  refine av (fun h1=>?_) (fun h1=>?_) <;> simp at h1
  ·simp [h1]
   refine ae (kk t.1 t.2.1 u.2.1 t1 t2 u2) (.inl rfl) ?_
   simp
   refine av (fun h2=>?_) (fun h2=>?_) <;> simp at h2
   ·simp [h2]
    refine ae (kk t.1 t.2.1 u.2.2 t1 t2 u3) (.inl rfl) ?_
    simp
    refine av (fun h3=>?_) (fun h3=>?_) <;> simp at h3 <;> simp [h3]
    ·simp [S,h1,h2,h3]
    ·refine ⟨1,⟨by omega,fun _=>by simp only [S,Bool.and_eq_false_iff,decide_eq_false_iff_not];omega,fun h=>by omega,fun h=>by omega⟩,by omega,?_⟩ <;> simp [dy,dJ,dK]
   ·simp [Int.not_le.2 h2]
    refine ⟨1,⟨by omega,fun _=>by simp only [S,Bool.and_eq_false_iff,decide_eq_false_iff_not];omega,fun h=>by omega,fun h=>by omega⟩,by omega,?_⟩ <;> simp [dy,dJ,dK]
  ·simp [Int.not_le.2 h1]
   refine ⟨1,⟨by omega,fun _=>by simp only [S,Bool.and_eq_false_iff,decide_eq_false_iff_not];omega,fun h=>by omega,fun h=>by omega⟩,by omega,?_⟩ <;> simp [dy,dJ,dK]
 ·simp [bY,dy,dJ,dK]
  refine ⟨aV (by decide +kernel),?_⟩
  refine ae (kk t.2.1 t.2.2 u.1 t2 t3 u1) (.inl rfl) ?_
  simp
  refine av (fun h1=>?_) (fun h1=>?_) <;> simp at h1
  ·simp [h1]
   refine ae (kk t.2.1 t.2.2 u.2.1 t2 t3 u2) (.inl rfl) ?_
   simp
   refine av (fun h2=>?_) (fun h2=>?_) <;> simp at h2
   ·simp [h2]
    refine ae (kk t.2.1 t.2.2 u.2.2 t2 t3 u3) (.inl rfl) ?_
    simp
    refine av (fun h3=>?_) (fun h3=>?_) <;> simp at h3 <;> simp [h3]
    ·simp [S,h1,h2,h3]
    ·refine ⟨2,⟨by omega,fun _=>s1 (by omega),fun _=>by simp only [S,Bool.and_eq_false_iff,decide_eq_false_iff_not];omega,fun h=>by omega⟩,by omega,?_⟩ <;> simp [dy,dJ,dK]
   ·simp [Int.not_le.2 h2]
    refine ⟨2,⟨by omega,fun _=>s1 (by omega),fun _=>by simp only [S,Bool.and_eq_false_iff,decide_eq_false_iff_not];omega,fun h=>by omega⟩,by omega,?_⟩ <;> simp [dy,dJ,dK]
  ·simp [Int.not_le.2 h1]
   refine ⟨2,⟨by omega,fun _=>s1 (by omega),fun _=>by simp only [S,Bool.and_eq_false_iff,decide_eq_false_iff_not];omega,fun h=>by omega⟩,by omega,?_⟩ <;> simp [dy,dJ,dK]
 ·simp [bY,dy,dJ,dK]
  refine ⟨aV (by decide +kernel),?_⟩
  refine ae (kk t.2.2 t.1 u.1 t3 t1 u1) (.inl rfl) ?_
  simp
  refine av (fun h1=>?_) (fun h1=>?_) <;> simp at h1
  ·simp [h1]
   refine ae (kk t.2.2 t.1 u.2.1 t3 t1 u2) (.inl rfl) ?_
   simp
   refine av (fun h2=>?_) (fun h2=>?_) <;> simp at h2
   ·simp [h2]
    refine ae (kk t.2.2 t.1 u.2.2 t3 t1 u3) (.inl rfl) ?_
    simp
    refine av (fun h3=>?_) (fun h3=>?_) <;> simp at h3 <;> simp [h3]
    ·simp [S,h1,h2,h3]
    ·refine ⟨3,⟨by omega,fun _=>s1 (by omega),fun _=>s2 (by omega),fun _=>by simp only [S,Bool.and_eq_false_iff,decide_eq_false_iff_not];omega⟩,by omega,?_⟩ <;> simp [dy,dJ,dK]
   ·simp [Int.not_le.2 h2]
    refine ⟨3,⟨by omega,fun _=>s1 (by omega),fun _=>s2 (by omega),fun _=>by simp only [S,Bool.and_eq_false_iff,decide_eq_false_iff_not];omega⟩,by omega,?_⟩ <;> simp [dy,dJ,dK]
  ·simp [Int.not_le.2 h1]
   refine ⟨3,⟨by omega,fun _=>s1 (by omega),fun _=>s2 (by omega),fun _=>by simp only [S,Bool.and_eq_false_iff,decide_eq_false_iff_not];omega⟩,by omega,?_⟩ <;> simp [dy,dJ,dK]
 ·simp [s1 (by omega),s2 (by omega),s3 (by omega)]
def RD (t : Tri) : List (List D):=[ptD t.1,ptD t.2.1,ptD t.2.2]
end Go.Gv

namespace Go.Gv
def okc (m : Msh) (a b : Int) : Bool:=fB m.s.length a && decide (a ≠ b) && br (spt m a.toNat)
def okF (m : Msh) (f : Fce) : Bool:=okc m f.a f.b && okc m f.b f.c && okc m f.c f.a && decide (0 <= f.k) && decide (f.k < 16)
def mtc (f g : Fce) (i k : Nat) : Bool:=decide (crn f i=crn g k) && decide (crn f (i + 1)=crn g (k + 1))
def j0 (f g : Fce) : Bool:=(List.range 3).any fun i=>(List.range 3).any fun k=>mtc f g i k
theorem nO {m : Msh} {f : Fce} (h : okF m f=true) : inS m f=true:=by
 simp only [okF,okc,Bool.and_eq_true] at h
 simp only [inS,Bool.and_eq_true]
 exact ⟨⟨h.1.1.1.1.1.1,h.1.1.1.2.1.1⟩,h.1.1.2.1.1⟩
theorem cT {m : Msh} {f : Fce} (h : okF m f=true) : okT (aX m f)=true:=by
 simp only [okF,okc,Bool.and_eq_true] at h
 simp only [okT,aX,Bool.and_eq_true]
 exact ⟨⟨nP h.1.1.1.1.2,nP h.1.1.1.2.2⟩,nP h.1.1.2.2⟩
def FP (n : Nat) : UInt8:=UInt8.ofNat (48 + n % 10)
def zF (n : Nat) (out : List UInt8) : List UInt8:=if n < 10 then FP n::out else zF (n / 10) (FP n::out)
def Rr (n : Nat) (out : List UInt8) : List UInt8:=if n=0 then out else zF n out
variable {C : CC} (hC : az prog C)
include hC
end Go.Gv

namespace Go.Gv
def mc (m : Msh) (i : Nat) : Pnt:=ptS (spt m i)
def fil (p : Nat -> Bool) (n : Nat) : List Nat:=(List.range n).filter p
theorem ox (p : Nat -> Bool) : fil p 0=[]:=rfl
theorem cB {p : Nat -> Bool} {n : Nat} (h : p n=true) : fil p (n + 1)=fil p n++[n]:=by
 rw [fil,List.range_succ,List.filter_append]
 simp [h,fil]
theorem pw {p : Nat -> Bool} {n : Nat} (h : p n=false) : fil p (n + 1)=fil p n:=by
 rw [fil,List.range_succ,List.filter_append]
 simp [h,fil]
theorem aN (p : Nat -> Bool) (n : Nat) : (fil p n).length <= n:=by
 have:=List.length_filter_le p (List.range n)
 rw [fil]
 simpa using this
theorem dN {p : Nat -> Bool} {n i : Nat} (h : i ∈ fil p n) : i < n /\ p i=true:=by
 rw [fil,List.mem_filter,List.mem_range] at h
 exact h
theorem kV {p : Nat -> Bool} {n : Nat} : fil p n=[] ↔ ∀ i,i < n -> p i=false:=by
 rw [fil,List.filter_eq_nil_iff]
 simp
def dX (m : Msh) (i : Nat) : Bool:=!br (spt m i)
def cV (m : Msh) (i : Nat) : Bool:=br (spt m i) && (List.range i).any fun k=>br (spt m k) && decide (mc m k=mc m i)
def eQ (m : Msh) (i : Nat) : Bool:=!okF m (fce m i)
def dh (m : Msh) (i : Nat) : Bool:=okF m (fce m i) && decide (mg (aX m (fce m i)) <= 0)
def aC (m : Msh) (i : Nat) : Bool:=okF m (fce m i) && decide (0 < mg (aX m (fce m i)))
def cv (m : Msh) (i : Nat) : Bool:=aC m i && (List.range i).any fun k=>aC m k && j0 (fce m i) (fce m k)
def a6 (m : Msh) (i : Nat) : Bool:=aC m i && (List.range i).any fun k=>aC m k && ovT (aX m (fce m i)) (aX m (fce m k))
def LL (m : Msh) : List (List Nat):=[[],fil (dX m) m.s.length,fil (cV m) m.s.length,fil (eQ m) m.f.length,fil (dh m) m.f.length,fil (cv m) m.f.length,fil (a6 m) m.f.length]
def dI (dec : Nat -> List UInt8) : Nat -> List (List Nat) -> List (Int × List UInt8)
 | _,[]=>[]
 | k,l::r=>(l.map fun i=>((k : Int),dec i))++dI dec (k + 1) r
def fnD (x : Int × List UInt8) : List D:=[.int .i64 x.1,.str x.2]
def cY (m : Msh) : Bool:=decide (m.s.length <= 2000) && decide (m.f.length <= 4000)
def au (m : Msh) : Bool:=cY m && (LL m).all fun l=>decide (l=[])
theorem oS (dec : Nat -> List UInt8) : ∀ (k : Nat) (ls : List (List Nat)),dI dec k ls=[] ↔ (ls.all fun l=>decide (l=[]))=true
 | _,[]=>by simp [dI]
 | k,l::r=>by simp [dI,oS dec (k + 1) r]
def iE (m : Msh) : Nat -> List D
 | 0=>[]
 | i + 1=>if br (spt m i) then .agg (ptD (mc m i))::iE m i else iE m i
def jV (m : Msh) : Nat -> List D
 | 0=>[]
 | i + 1=>if br (spt m i) then .bool true::jV m i else jV m i
theorem oU (m : Msh) : ∀ i,(iE m i).length <= i
 | 0=>by simp [iE]
 | i + 1=>by
  have:=oU m i
  rw [iE]
  split <;> simp <;> omega
theorem zM (p q : Pnt) : eqD (.agg (ptD p)) (.agg (ptD q))=decide (q=p):=by
 obtain ⟨a,b⟩:=p
 obtain ⟨c,d⟩:=q
 simp [eqD,nu,nr,ptD]
 rw [Bool.eq_iff_iff]
 simp
 exact ⟨fun h=>⟨h.1.symm,h.2.symm⟩,fun h=>⟨h.1.symm,h.2.symm⟩⟩
theorem p6 (m : Msh) (p : Pnt) : ∀ i,(cO (iE m i) (jV m i) (.agg (ptD p))).getD (.bool false)=.bool ((List.range i).any fun k=>br (spt m k) && decide (mc m k=p))
 | 0=>rfl
 | i + 1=>by
  rw [iE,jV,List.range_succ,List.any_append]
  by_cases h : br (spt m i)=true
  ·rw [if_pos h,if_pos h,cO,zM]
   by_cases h2 : mc m i=p
   ·simp [h,h2]
   ·simp [h2,p6 m p i]
  ·rw [if_neg h,if_neg h,p6 m p i]
   simp [h]
def d9 (m : Msh) (i : Nat) : List Bool:=(List.range m.s.length).map fun j=>decide (j < i) && dX m j
theorem i7 (m : Msh) (i : Nat) : (d9 m i).length=m.s.length:=by simp [d9]
theorem rA (m : Msh) : d9 m 0=List.replicate m.s.length false:=by
 refine List.ext_getElem (by simp [d9]) fun k h1 h2=>?_
 simp [d9]
theorem tv (m : Msh) {i : Nat} (h : i < m.s.length) : (d9 m i).set i (dX m i)=d9 m (i + 1):=by
 refine List.ext_getElem (by simp [d9]) fun k h1 h2=>?_
 rw [List.getElem_set]
 simp only [d9,List.getElem_map,List.getElem_range]
 by_cases e : i=k
 ·subst e;simp
 ·rw [if_neg e]
  by_cases e2 : k < i
  ·simp [e2,show k < i + 1 by omega]
  ·simp [e2,show ¬ k < i + 1 by omega]
theorem tt (m : Msh) {k : Nat} (h : k < m.s.length) : (d9 m m.s.length)[k]'(by rw [i7];exact h)=dX m k:=by simp [d9,h]
variable {C : CC} (hC : az prog C)
include hC
theorem tL {b : Bool} {xs : List Tri} {g : Nat} {cs : List D} (p : Tri -> Bool) (hs : xs.length < 2 ^ 62) (hp : ∀ x ∈ xs,C g (.agg (bY x)::cs) (.bool (p x)) []) : C 328 [slx b (xs.map bY),.fn g cs] (.int .i64 (gr p xs)) []:=by
 refine bp hC (nf:=N328) rfl rfl ?_
 simp [N328]
 refine aE Nat (fun i=>[(0,slx b (xs.map bY)),(1,.fn g cs),(7,.int .i64 xs.length),(8,.int .i64 i)]) (fun i=>i <= xs.length /\ ∀ (j : Nat) (h : j < xs.length),j < i -> p xs[j]=false) (fun i=>xs.length - i) 0 (by simp) (by simp) ?_
 rintro i ⟨hi,hj⟩
 simp
 refine av (fun h=>?_) (fun h=>?_) <;> simp [h] <;> simp at h
 ·have hw : IntKind.wrap .i64 ((i : Int) + 1)=((i + 1 : Nat) : Int):=am (by omega) (by omega)
  have hc:=hp _ (List.getElem_mem h)
  simp [h,List.getElem_map,bY] at hc ⊢
  refine ae hc (.inl rfl) ?_
  simp
  refine av (fun h1=>?_) (fun h1=>?_) <;> simp [h1,hw]
  ·rw [fO hj h h1]
  ·refine ⟨i + 1,⟨by omega,fun j hl hjj=>?_⟩,by omega,by simp [bY]⟩
   rcases Nat.lt_succ_iff_lt_or_eq.1 hjj with h2 | rfl
   ·exact hj j hl h2
   ·exact h1
 ·rw [im (fun j hl=>hj j hl (by omega))]
theorem cz {b : Bool} {xs : List Tri} {g : Nat} {cs : List D} (p : Tri -> Bool) (hs : xs.length < 2 ^ 62) (hp : ∀ x ∈ xs,C g (.agg (bY x)::cs) (.bool (p x)) []) : C 309 [slx b (xs.map bY),.fn g cs] (.bool (xs.any p)) []:=by
 refine bp hC (nf:=N309) rfl rfl ?_
 simp [N309]
 refine ae (tL hC p hs hp) (.inl rfl) ?_
 simp [lF]
theorem zz (m : Msh) (k : Int) (hn : m.s.length < 2 ^ 40) : C 306 [.int .i64 k,.ptr (ci m),.ptr [.sl ((d9 m m.s.length).map fun b=>[.bool b])]] (.bool (!(fB m.s.length k && br (spt m k.toNat)))) []:=by
 have E : fB m.s.length k=(decide (0 <= k) && decide (k < m.s.length)):=rfl
 refine bp hC (nf:=N306) rfl rfl ?_
 simp [N306,ci]
 refine av (fun c1=>?_) (fun c1=>?_) <;> simp at c1
 ·simp [c1]
  rw [E,decide_eq_false (by omega)];simp
 ·simp [Int.not_lt.2 c1]
  refine av (fun c2=>?_) (fun c2=>?_) <;> simp at c2
  ·simp [c2]
   rw [E,decide_eq_false (show ¬ k < m.s.length by omega)];simp
  ·have c3 : k.toNat < m.s.length:=by omega
   have c4:=tt m c3
   simp [Int.not_le.2 c2,c1,c3,i7]
   rw [c4,E,decide_eq_true c1,decide_eq_true c2]
   simp [dX]
theorem d8 {t o : Tri} (ht : okT t=true) (ho : okT o=true) : C 310 [.agg (bY o),.ptr (bY t)] (.bool (ovT t o)) []:=by
 have k1:=yK hC ht ho
 have k2:=yK hC ho ht
 refine bp hC (nf:=N310) rfl rfl ?_
 rw [bY,bY] at k1 k2 ⊢
 simp [N310]
 refine ae k1 (.inl rfl) ?_
 simp
 cases h1 : uA t o <;> simp [ovT,h1]
 refine ae k2 (.inl rfl) ?_
 simp
 exact fun _=>h1
end Go.Gv
