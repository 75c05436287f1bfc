/-
  Texts of the proof: GvR, GvEsf, GvN, ItSD, GvU, GvW, GvX, GvX2, GvX3, GvX4, GvX5, K1, K3, H1, H2.
-/
import Derived.Test.YtelkdhkalifeiaaDoorX5
import Derived.SizedLaws
import Derived.ProofKit
import Derived.Test.YtelkdhkalifeiaaDoorX6
import Derived.Test.YtelkdhkalifeiaaDoorProg
import Derived.KernelRfl
import Derived.Shelf.Small.Bits
import Derived.Shelf.Strconv.Itoa0
import Derived.Shelf.Strconv.Itoa1
import Derived.Shelf.LaysM
import Derived.Shelf.Strconv.Itoa2
import Derived.Shelf.Strconv.Itoa3
import Derived.Shelf.Bits.Mul64
import Derived.Shelf.Slices.Equal
import Derived.Ground.Names2Prog
import Derived.Shelf.Slices.SearchI
import Derived.Shelf.Slices.Empties2
set_option linter.all false
namespace Go.Gv
open Go.RowKit Go.ChangeShapes Go.WideShapes Go.ChangeAt
inductive Sh where
 | int (k : IntKind)
 | bool
 | str
 | sl (row : List Sh)
mutual
def gn : Sh -> D -> Prop
 | .int k,d=>∃ n,d=.int k n /\ (Lit.int k n).wf=true
 | .bool,d=>∃ b,d=.bool b
 | .str,d=>∃ s,d=.str s /\ s.length < 140737488355328
 | .sl row,d=>∃ es,(d=.sl es \/ (d=.nils /\ es=[])) /\ es.length < 140737488355328 /\ ∀ e ∈ es,ca row e
def ca : List Sh -> List D -> Prop
 | [],ds=>ds=[]
 | s::ss,ds=>∃ d r,ds=d::r /\ gn s d /\ ca ss r
end
theorem ca.length : ∀ {ss : List Sh} {ds : List D},ca ss ds -> ds.length=ss.length
 | [],ds,h=>by simp only [ca] at h;simp [h]
 | s::ss,ds,h=>by
  simp only [ca] at h
  obtain ⟨d,r,rfl,_,h2⟩:=h
  simp [ca.length h2]
theorem ca.append : ∀ {ss ts : List Sh} {ds es : List D},ca ss ds -> ca ts es -> ca (ss++ts) (ds++es)
 | [],ts,ds,es,h,h'=>by simp only [ca] at h;subst h;exact h'
 | s::ss,ts,ds,es,h,h'=>by
  simp only [ca] at h
  obtain ⟨d,r,rfl,h1,h2⟩:=h
  exact ⟨d,r++es,rfl,h1,ca.append h2 h'⟩
def nr (P : Program) (rec : TypeId -> Option (List Sh)) : List Field -> Nat -> Option (List Sh)
 | [],_=>some []
 | f::fs,off=>if f.offset=off then (match rec f.type with
   | some l=>if l.length=P.cellsOf f.type then (match nr P rec fs (off + l.length) with
    | some r=>some (l++r)
    | none=>none) else none
   | none=>none) else none
def o5 (P : Program) : Nat -> TypeId -> Option (List Sh)
 | 0,_=>none
 | n + 1,t=>match P.underlying t with
  | some .bool=>some [.bool]
  | some (.int k)=>some [.int k]
  | some .string=>some [.str]
  | some (.slice e)=>(match o5 P n e with
   | some l=>if l.length=P.cellsOf e /\ 1 <= P.bytesOf e then some [.sl l] else none
   | none=>none)
  | some (.struct fs)=>(match nr P (o5 P n) fs.toList 0 with
   | some l=>if l.length=P.cellsOf t then some l else none
   | none=>none)
  | _=>none
section
variable {H : Type} {enc : TypeId × Value -> H} {P : Program} {F : Fid} {w : World} {sp : Nat -> Bool}
abbrev n6 (w : World) : Mem:=fun p=>w.cell? p
def sw (enc : TypeId × Value -> H) (P : Program) (F : Fid) (w : World) (sp : Nat -> Bool) (n : Nat) (t : TypeId) (shs : List Sh) : Prop :=
 ∀ (cs : List Value) (d : DataW H) (ps : List MemPlace),DataW.trod enc P w 0 sp true n t cs=some (d,ps) -> (d.weights P t).all (· <= reachBytes)=true -> ∃ ds,ca shs ds /\ ar F (n6 w) ds cs
theorem gQ {α β : Type} {f : α -> Option β} {x : α} {l : List α} {ys : List β} (h : (x::l).mapM f=some ys) : ∃ y r,f x=some y /\ l.mapM f=some r /\ ys=y::r:=by
 rw [List.mapM_cons] at h
 cases hx : f x with
 | none=>rw [hx] at h;cases h
 | some y =>
  cases hl : l.mapM f with
  | none=>rw [hx,hl] at h;cases h
  | some r =>
   rw [hx,hl] at h
   exact ⟨y,r,rfl,rfl,by cases h;rfl⟩
theorem lP {n m : Nat} (ih : ∀ t shs,o5 P m t=some shs -> sw enc P F w sp n t shs) {cs : List Value} : ∀ (fs : List Field) (off : Nat) (xs : List (DataW H × List MemPlace)) (shs : List Sh),
  (fs.mapM fun f=>DataW.trod enc P w 0 sp true n f.type ((cs.drop f.offset).take (P.cellsOf f.type)))=some xs -> nr P (o5 P m) fs off=some shs -> (DataW.weightsEach P (fs.map (·.type)) (xs.map (·.1))).all (· <= reachBytes)=true -> cs.length=off + shs.length ->
   ∃ ds,ca shs ds /\ ar F (n6 w) ds (cs.drop off)
 | [],off,xs,shs,_,h2,_,h4=>by
  cases h2
  exact ⟨[],rfl,by simp only [ar];exact List.drop_of_length_le (by simpa using Nat.le_of_eq h4)⟩
 | f::fs,off,xs,shs,h1,h2,h3,h4=>by
  obtain ⟨y,r,e1,e2,rfl⟩:=gQ h1
  simp only [nr] at h2
  split at h2
  case isFalse=>cases h2
  rename_i ho
  split at h2
  case h_2=>cases h2
  rename_i l hl
  split at h2
  case isFalse=>cases h2
  rename_i hlen
  split at h2
  case h_2=>cases h2
  rename_i rs hr
  cases h2
  simp only [List.map_cons,DataW.weightsEach,List.all_append,Bool.and_eq_true] at h3
  rw [List.length_append] at h4
  obtain ⟨ds1,g1,g2⟩:=ih f.type l hl _ y.1 y.2 e1 h3.1
  obtain ⟨ds2,g3,g4⟩:=lP ih fs (off + l.length) r rs e2 hr h3.2 (by omega)
  refine ⟨ds1++ds2,g1.append g3,?_⟩
  rw [ho,<- hlen] at g2
  have:=g2.append g4
  rwa [<- List.drop_drop,List.take_append_drop] at this
theorem lQ {n k : Nat} {e : TypeId} {l : List Sh} {a : Addr} (hl : l.length=k) (ih : sw enc P F w sp n e l) : ∀ (c s : Nat) (xs : List (DataW H × List MemPlace)),
  ((List.range' s c).mapM fun i=>(w.cells? 0 (a.add (i * k)) k).bind (DataW.trod enc P w 0 sp true n e))=some xs -> (DataW.weightsAll P e (xs.map (·.1))).all (· <= reachBytes)=true ->
   ∃ (es : List (List D)) (vs : List Value),es.length=c /\ xs.length=c /\ (∀ r ∈ es,ca l r) /\ bf F (n6 w) es vs /\ ∀ j v,vs[j]? = some v -> w.cell? (a.add (s * k + j))=some v
 | 0,s,xs,h,_=>by
  cases h
  exact ⟨[],[],rfl,rfl,by simp,by simp [bf],fun j v h=>by simp at h⟩
 | c + 1,s,xs,h,hw=>by
  rw [List.range'_succ] at h
  obtain ⟨y,r,e1,e2,rfl⟩:=gQ h
  rw [Option.bind_eq_some_iff] at e1
  obtain ⟨row,c1,c2⟩:=e1
  simp only [List.map_cons,DataW.weightsAll,List.all_append,Bool.and_eq_true] at hw
  obtain ⟨ds,g1,g2⟩:=ih row y.1 y.2 c2 hw.1
  obtain ⟨es,vs,h1,h2,h3,h4,h5⟩:=lQ hl ih c (s + 1) r e2 hw.2
  have hrow:=World.cells?_some c1
  refine ⟨ds::es,row++vs,by simp [h1],by simp [h2],?_,⟨row,vs,rfl,g2,h4⟩,fun j v hj=>?_⟩
  ·intro x hx
   rcases List.mem_cons.1 hx with rfl | hx
   ·exact g1
   ·exact h3 x hx
  ·have hrl : row.length=k:=by rw [g2.length,g1.length,hl]
   have addadd : ∀ i j,(a.add i).add j=a.add (i + j):=fun i j=>by
    unfold Addr.add
    by_cases hi : i=0 <;> by_cases hj : j=0 <;> simp [hi,hj,Nat.add_assoc]
   by_cases hjk : j < k
   ·rw [List.getElem?_append_left (by omega)] at hj
    have:=hrow.2.2 j hjk
    rw [hj,addadd] at this
    exact this
   ·rw [List.getElem?_append_right (by omega)] at hj
    have:=h5 (j - row.length) v hj
    rw [hrl] at this
    rwa [show (s + 1) * k + (j - k)=s * k + j by rw [Nat.succ_mul];omega] at this
theorem nQ : ∀ (m : Nat) (n : Nat) (t : TypeId) (shs : List Sh),o5 P m t=some shs -> sw enc P F w sp n t shs
 | 0,_,_,_,h=>by cases h
 | m + 1,0,t,shs,_=>fun cs d ps h _=>by simp [DataW.trod] at h
 | m + 1,n + 1,t,shs,h=>by
  intro cs d ps ht hw
  rw [o5] at h
  split at h
  ·rename_i hu
   cases h
   unfold DataW.trod at ht;rw [hu] at ht
   split at ht <;> try (simp_all;done)
   rename_i b _
   refine ⟨[.bool b],⟨_,_,rfl,⟨b,rfl⟩,rfl⟩,by simp [ar,ac]⟩
  ·rename_i k hu
   cases h
   unfold DataW.trod at ht;rw [hu] at ht
   split at ht <;> try (simp_all;done)
   rename_i k1 k2 x h1
   simp only [Option.some.injEq,TypeDesc.int.injEq] at h1
   subst h1
   split at ht
   ·rename_i hk
    obtain ⟨rfl,hwf⟩:=hk
    exact ⟨[.int _ x],⟨_,_,rfl,⟨x,rfl,hwf⟩,rfl⟩,by simp [ar,ac]⟩
   ·cases ht
  ·rename_i hu
   cases h
   unfold DataW.trod at ht;rw [hu] at ht
   split at ht <;> try (simp_all;done)
   rename_i s _
   split at ht
   ·rename_i hs
    simp only [Option.some.injEq,Prod.mk.injEq] at ht
    obtain ⟨rfl,rfl⟩:=ht
    simp only [DataW.weights,List.all_cons,List.all_nil,Bool.and_true,decide_eq_true_eq] at hw
    refine ⟨[.str s.data.toList],⟨_,_,rfl,⟨_,rfl,?_⟩,rfl⟩,?_⟩
    ·have:=reachBytes_lt;omega
    ·obtain ⟨s⟩:=s
     simp [ar,ac]
   ·cases ht
  ·rename_i e hu
   split at h
   case h_2=>cases h
   rename_i l hl
   split at h
   case isFalse=>cases h
   rename_i hk
   cases h
   unfold DataW.trod at ht;rw [hu] at ht
   split at ht <;> try (simp_all;done)
   ·refine ⟨[.nils],⟨_,_,rfl,⟨[],.inr ⟨rfl,rfl⟩,by simp,by simp⟩,rfl⟩,by simp [ar,ac]⟩
   ·rename_i e' a len cap h1
    simp only [Option.some.injEq,TypeDesc.slice.injEq] at h1
    subst h1
    simp only at ht
    split at ht
    case isFalse=>cases ht
    rename_i hb
    rw [Option.bind_eq_some_iff] at ht
    obtain ⟨xs,e1,e2⟩:=ht
    rw [Option.map_eq_some_iff] at e2
    obtain ⟨rest,e3,e4⟩:=e2
    simp only [Prod.mk.injEq] at e4
    obtain ⟨rfl,rfl⟩:=e4
    simp only [DataW.weights,hu,List.all_cons,List.all_append,Bool.and_eq_true,decide_eq_true_eq] at hw
    obtain ⟨w1,w2,w3⟩:=hw
    rw [List.range_eq_range'] at e1
    obtain ⟨es,vs,g1,g2,g3,g4,g5⟩:=lQ (F:=F) hk.1 (nQ m n e l hl) len 0 xs e1 w2
    refine ⟨[.sl es],⟨_,_,rfl,⟨es,.inl rfl,?_,g3⟩,rfl⟩,?_⟩
    ·have h5:=reachBytes_lt
     have h6 : es.length * 1 <= (xs.length + rest.length) * P.bytesOf e:=Nat.mul_le_mul (by omega) hk.2
     simp only [List.length_map] at w1
     omega
    ·simp only [ar]
     refine ⟨_,_,rfl,?_,rfl⟩
     simp only [ac]
     refine ⟨some a,cap,vs,P.cellsOf e,by rw [g1],by omega,g4,fun r hr=>by rw [(g3 r hr).length,hk.1],fun _=>⟨a,rfl,fun j v hj=>?_⟩⟩
     have:=g5 j v hj
     simpa using this
  ·rename_i fs hu
   split at h
   case h_2=>cases h
   rename_i l hl
   split at h
   case isFalse=>cases h
   rename_i hk
   cases h
   unfold DataW.trod at ht;rw [hu] at ht
   split at ht <;> try (simp_all;done)
   rename_i fs' h1
   simp only [Option.some.injEq,TypeDesc.struct.injEq] at h1
   subst h1
   split at ht
   case isFalse=>cases ht
   rename_i hc
   rw [Option.map_eq_some_iff] at ht
   obtain ⟨xs,e1,e2⟩:=ht
   simp only [Prod.mk.injEq] at e2
   obtain ⟨rfl,rfl⟩:=e2
   simp only [DataW.weights,hu] at hw
   obtain ⟨ds,g1,g2⟩:=lP (F:=F) (n:=n) (fun t shs h=>nQ m n t shs h) fs.toList 0 xs _ e1 hl hw (by omega)
   exact ⟨ds,g1,by simpa using g2⟩
  ·cases h
theorem pa {t : TypeId} {fs : Array Field} {m : Nat} {shs : List Sh} {base : Nat} {v : Value} {d : DataW H} {ps : List MemPlace} (hu : P.underlying t=some (.struct fs)) (hsh : o5 P m t=some shs) (hv : Value.okWide P w .any base t v) (h : DataW.Trod enc P w 0 sp true t v d ps) (hw : (d.weights P t).all (· <= reachBytes)=true) :
  ∃ ds,ca shs ds /\ ac F (n6 w) (.agg ds) v:=by
 obtain ⟨cs,rfl,_⟩:=okWide_struct hu hv
 obtain ⟨n,hn⟩:=h
 obtain ⟨ds,g1,g2⟩:=nQ (F:=F) m n t shs hsh _ d ps hn hw
 exact ⟨ds,g1,by simp only [ac];exact ⟨cs.toList,by simp,g2⟩⟩
end
theorem lU {α : Type} {f : α -> List D} {es : List (List D)} (h : ∀ e ∈ es,∃ x,e=f x) : ∃ xs : List α,es=xs.map f:=by
 induction es with
 | nil=>exact ⟨[],rfl⟩
 | cons e es ih =>
  obtain ⟨x,rfl⟩:=h e (by simp)
  obtain ⟨xs,rfl⟩:=ih (fun e he=>h e (by simp [he]))
  exact ⟨x::xs,rfl⟩
end Go.Gv
namespace Go.Gv
def yG (P : Program) (F : Fid) (prog : Nat -> Option aS) (tbl : List (Nat × Nat)) : Bool:=tbl.all fun p=>lH P p.2 && match prog p.1 with
 | some nf=>dy P F p.2 nf
 | none=>true
theorem rG {tbl : List (Nat × Nat)} {g f : Nat} (h : tbl.lookup g=some f) : (g,f) ∈ tbl:=by
 induction tbl with
 | nil=>cases h
 | cons p r ih =>
  obtain ⟨a,b⟩:=p
  rw [List.lookup_cons] at h
  cases e : g == a with
  | true=>rw [e] at h;simp at e h;subst e;subst h;simp
  | false=>rw [e] at h;simp [ih h]
theorem seat {P : Program} {tbl : List (Nat × Nat)} {ty : Nat -> TypeId} {prog : Nat -> Option aS} (hm : P.follows .mixedOrders=true) (hl : laidOutB P=true) (h : yG P ⟨P,fun g=>tbl.lookup g,ty,fun _=>.nilIface⟩ prog tbl=true) :
  bp P ⟨P,fun g=>tbl.lookup g,ty,fun _=>.nilIface⟩ (gX P ⟨P,fun g=>tbl.lookup g,ty,fun _=>.nilIface⟩) /\ aI prog (gX P ⟨P,fun g=>tbl.lookup g,ty,fun _=>.nilIface⟩):=by
 have key : ∀ g f,tbl.lookup g=some f -> lH P f=true /\ ∀ nf,prog g=some nf -> dy P ⟨P,fun g=>tbl.lookup g,ty,fun _=>.nilIface⟩ f nf=true:=fun g f e=>by
  have:=List.all_eq_true.1 h _ (rG e)
  simp only [Bool.and_eq_true] at this
  refine ⟨this.1,fun nf hnf=>?_⟩
  have:=this.2
  rw [hnf] at this
  exact this
 exact oX hm (fun g f e=>(key g f e).1) hl rfl (fun g f nf e hp=>(key g f e).2 nf hp)
end Go.Gv

namespace Go.Gv
open Go.Proofs
def TrydTbl : List (Nat × Nat) := [(0, 2), (208, 3), (241, 8), (242, 9), (243, 10), (244, 11), (245, 12), (215, 13), (246, 14), (19, 15), (247, 16), (234, 17), (221, 18), (220, 19), (223, 21), (279, 23), (280, 30), (257, 31), (258, 32), (259, 33), (281, 34), (282, 35), (283, 36), (273, 37), (261, 38), (253, 39), (262, 40), (11, 41), (303, 44), (314, 45), (374, 53), (329, 55), (331, 56), (332, 57), (42, 58), (315, 59), (316, 60), (317, 61), (318, 62), (289, 63), (290, 64), (291, 65), (292, 66), (293, 67), (294, 68), (295, 69), (287, 70), (296, 71), (302, 72), (304, 73), (305, 74), (306, 75), (307, 76), (308, 77), (298, 78), (309, 79), (310, 80), (311, 81), (127, 82), (35, 83), (313, 86), (330, 87), (333, 98), (334, 99), (335, 100), (285, 101), (286, 102), (323, 103), (324, 104), (322, 105), (328, 106), (91, 108), (339, 126), (340, 167), (341, 168), (342, 169), (343, 170)]
def TrydTys : List (Nat × Nat) := [(1, 4), (2, 3), (20, 103), (3, 131), (4, 114)]
set_option maxRecDepth 100000 in
theorem Tryd_all : yG Tryd.prog ⟨Tryd.prog, fun g => TrydTbl.lookup g, fun t => (TrydTys.lookup t).getD 0, fun _ => .nilIface⟩ prog TrydTbl = true := by kernel_rfl
end Go.Gv

namespace Go.Gv
open Go.RowKit
theorem qb {P : Program} {F : Fid} {g : Nat} {ds : List D} {d : D} (h : ∀ f,F g=some f -> ∀ (M : Mem) (w : World) (vs : List Value),ar F M ds vs -> ∃ v,ac F M d v /\ Calls P f vs.toArray w (fun e w'=>e=.returned v /\ w'=w)) : gX P F g ds d []:=by
 refine ⟨trivial,fun f hf M w vs hh r=>?_⟩
 obtain ⟨v,hv,hc⟩:=h f hf M w vs r
 refine hc.mono ?_
 rintro e w' ⟨rfl,rfl⟩
 exact ⟨v,M,rfl,Bel.refl _,Mem.le_refl _,fun p h1 h2=>absurd h1 h2,hh,hv⟩
end Go.Gv

namespace Go.Proofs
open Go.Shelf
def Tryd.lays171_ren : Go.Shelf.Ren := ⟨fun | 171 => 82 | 243 => 107 | 246 => 127 | 283 => 137 | 284 => 138 | 285 => 139 | 286 => 140 | 129 => 125 | 317 => 145 | 318 => 146 | 319 => 147 | 320 => 148 | 337 => 149 | 338 => 150 | n => n, fun | 3 => 3 | 9 => 9 | 2 => 2 | 4 => 4 | 171 => 196 | 0 => 0 | 53 => 143 | 37 => 162 | 5 => 5 | 173 => 198 | 212 => 206 | 51 => 182 | 20 => 20 | 213 => 207 | 46 => 153 | 232 => 208 | 233 => 209 | n => n, fun | 17 => 2 | 18 => 3 | 19 => 4 | n => n⟩
theorem Tryd.lays171 : Go.Proofs.Lays.n171 Tryd.prog Tryd.lays171_ren := {
 mixed := by kernel_rfl
 f129 := Tryd.func125.trans (congrArg some (by kernel_rfl))
 f171 := Tryd.func82.trans (congrArg some (by kernel_rfl))
 f243 := Tryd.func107.trans (congrArg some (by kernel_rfl))
 f246 := Tryd.func127.trans (congrArg some (by kernel_rfl))
 f283 := Tryd.func137.trans (congrArg some (by kernel_rfl))
 f284 := Tryd.func138.trans (congrArg some (by kernel_rfl))
 f285 := Tryd.func139.trans (congrArg some (by kernel_rfl))
 f286 := Tryd.func140.trans (congrArg some (by kernel_rfl))
 f317 := Tryd.func145.trans (congrArg some (by kernel_rfl))
 f318 := Tryd.func146.trans (congrArg some (by kernel_rfl))
 f319 := Tryd.func147.trans (congrArg some (by kernel_rfl))
 f320 := Tryd.func148.trans (congrArg some (by kernel_rfl))
 f337 := Tryd.func149.trans (congrArg some (by kernel_rfl))
 f338 := Tryd.func150.trans (congrArg some (by kernel_rfl))
 t0 := Tryd.underlying0
 a0 := Tryd.isAgg0
 z0 := Tryd.sizeOf0
 v0 := Tryd.zeroValue0
 t2 := Tryd.underlying2
 a2 := Tryd.isAgg2
 z2 := Tryd.sizeOf2
 v2 := Tryd.zeroValue2
 t3 := Tryd.underlying3
 a3 := Tryd.isAgg3
 z3 := Tryd.sizeOf3
 v3 := Tryd.zeroValue3
 t4 := Tryd.underlying4
 a4 := Tryd.isAgg4
 z4 := Tryd.sizeOf4
 v4 := Tryd.zeroValue4
 t5 := Tryd.underlying5
 a5 := Tryd.isAgg5
 z5 := Tryd.sizeOf5
 v5 := Tryd.zeroValue5
 t9 := Tryd.underlying9
 a9 := Tryd.isAgg9
 z9 := Tryd.sizeOf9
 v9 := Tryd.zeroValue9
 t20 := Tryd.underlying20
 a20 := Tryd.isAgg20
 z20 := Tryd.sizeOf20
 v20 := Tryd.zeroValue20
 t37 := Tryd.underlying162
 a37 := Tryd.isAgg162
 z37 := Tryd.sizeOf162
 v37 := Tryd.zeroValue162
 t46 := Tryd.underlying153
 a46 := Tryd.isAgg153
 z46 := Tryd.sizeOf153
 v46 := Tryd.zeroValue153
 t51 := Tryd.underlying182
 a51 := Tryd.isAgg182
 z51 := Tryd.sizeOf182
 v51 := Tryd.zeroValue182
 t53 := Tryd.underlying143
 a53 := Tryd.isAgg143
 z53 := Tryd.sizeOf143
 v53 := Tryd.zeroValue143
 t171 := Tryd.underlying196
 a171 := Tryd.isAgg196
 z171 := Tryd.sizeOf196
 v171 := Tryd.zeroValue196
 t173 := Tryd.underlying198
 a173 := Tryd.isAgg198
 z173 := Tryd.sizeOf198
 v173 := Tryd.zeroValue198
 t212 := Tryd.underlying206
 a212 := Tryd.isAgg206
 z212 := Tryd.sizeOf206
 v212 := Tryd.zeroValue206
 t213 := Tryd.underlying207
 a213 := Tryd.isAgg207
 z213 := Tryd.sizeOf207
 t232 := Tryd.underlying208
 a232 := Tryd.isAgg208
 z232 := Tryd.sizeOf208
 v232 := Tryd.zeroValue208
 t233 := Tryd.underlying209
 a233 := Tryd.isAgg209
 z233 := Tryd.sizeOf209
 v233 := Tryd.zeroValue209
 g17 := by kernel_rfl
 g18 := by kernel_rfl
 g19 := by kernel_rfl }
open Go.RowKit Go.Sort Go.Lib in
theorem Tryd.strconv_Itoa_small (i : Nat) (hi : i < 100) (w : World) :
  Calls Tryd.prog 82 #[.int .i64 i] w fun e w' => e = .returned (.string ⟨(Lib.decDigits i).toArray⟩) /\ w' = w := Any.strconv_Itoa_small Tryd.lays171 i hi w
end Go.Proofs

namespace Go.Gv
structure Tag {α : Type _} (x : α) : Type where
@[simp] theorem NB : isV (.any)=true:=_root_.id rfl
@[simp] theorem NH {k n} : isV (.int k n)=true:=_root_.id rfl
@[simp] theorem HX {b} : isV (.bool b)=true:=_root_.id rfl
@[simp] theorem NQ {s} : isV (.str s)=true:=_root_.id rfl
@[simp] theorem HY : isV (.nilp)=true:=_root_.id rfl
@[simp] theorem HZ : isV (.nils)=true:=_root_.id rfl
@[simp] theorem Nz {ds} : isV (.agg ds)=true:=_root_.id rfl
@[simp] theorem NS {ds} : isV (.tup ds)=true:=_root_.id rfl
@[simp] theorem Qm {es} : isV (.sl es)=true:=_root_.id rfl
@[simp] theorem NK {ds} : isV (.ptr ds)=true:=_root_.id rfl
@[simp] theorem Qk {g ds} : isV (.fn g ds)=true:=_root_.id rfl
@[simp] theorem NJ {sz es} : isV (.own sz es)=false:=_root_.id rfl
@[simp] theorem NC {sz es} : isV (.blk sz es)=false:=_root_.id rfl
@[simp] theorem Ql {kt et ks vs} : isV (.mp kt et ks vs)=false:=_root_.id rfl
@[simp] theorem NI {b} : isV (.mrf b)=false:=_root_.id rfl
@[simp] theorem NM {p k n} : isV (.ref p k n)=false:=_root_.id rfl
@[simp] theorem Ny {p i off} : isV (.adr p i off)=false:=_root_.id rfl
@[simp] theorem NA {ds} : isV (.agx ds)=false:=_root_.id rfl
@[simp] theorem NR {ds} : isV (.tpx ds)=false:=_root_.id rfl
@[simp] theorem NL {ds} : isV (.ptx ds)=false:=_root_.id rfl
@[simp] theorem NN {n sz ds} : isV (.rfx n sz ds)=false:=_root_.id rfl
@[simp] theorem ND {g ds} : isV (.fnx g ds)=false:=_root_.id rfl
@[simp] theorem NF {T p i off} : isV (.ifa T p i off)=false:=_root_.id rfl
@[simp] theorem NG {T n} : isV (.ifi T n)=true:=_root_.id rfl
@[simp] theorem NO {k es} : isV (.slv k es)=true:=_root_.id rfl
@[simp] theorem NE {g ds cs} : isV (.fny g ds cs)=false:=_root_.id rfl
@[simp] theorem L0 : isK (.any)=false:=_root_.id rfl
@[simp] theorem Mc {k n} : isK (.int k n)=true:=_root_.id rfl
@[simp] theorem HL {b} : isK (.bool b)=true:=_root_.id rfl
@[simp] theorem Mm {s} : isK (.str s)=true:=_root_.id rfl
@[simp] theorem HM : isK (.nilp)=true:=_root_.id rfl
@[simp] theorem HN : isK (.nils)=true:=_root_.id rfl
@[simp] theorem LY {ds} : isK (.agg ds)=true:=_root_.id rfl
@[simp] theorem Mo {ds} : isK (.tup ds)=true:=_root_.id rfl
@[simp] theorem P6 {es} : isK (.sl es)=true:=_root_.id rfl
@[simp] theorem Mf {ds} : isK (.ptr ds)=true:=_root_.id rfl
@[simp] theorem P4 {g ds} : isK (.fn g ds)=true:=_root_.id rfl
@[simp] theorem Me {sz es} : isK (.own sz es)=false:=_root_.id rfl
@[simp] theorem L7 {sz es} : isK (.blk sz es)=false:=_root_.id rfl
@[simp] theorem P5 {kt et ks vs} : isK (.mp kt et ks vs)=false:=_root_.id rfl
@[simp] theorem Md {b} : isK (.mrf b)=false:=_root_.id rfl
@[simp] theorem Mh {p k n} : isK (.ref p k n)=false:=_root_.id rfl
@[simp] theorem LX {p i off} : isK (.adr p i off)=false:=_root_.id rfl
@[simp] theorem LZ {ds} : isK (.agx ds)=false:=_root_.id rfl
@[simp] theorem Mn {ds} : isK (.tpx ds)=false:=_root_.id rfl
@[simp] theorem Mg {ds} : isK (.ptx ds)=false:=_root_.id rfl
@[simp] theorem Mi {n sz ds} : isK (.rfx n sz ds)=false:=_root_.id rfl
@[simp] theorem L8 {g ds} : isK (.fnx g ds)=false:=_root_.id rfl
@[simp] theorem Ma {T p i off} : isK (.ifa T p i off)=false:=_root_.id rfl
@[simp] theorem Mb {T n} : isK (.ifi T n)=true:=_root_.id rfl
@[simp] theorem Mk {k es} : isK (.slv k es)=true:=_root_.id rfl
@[simp] theorem L9 {g ds cs} : isK (.fny g ds cs)=false:=_root_.id rfl
@[simp] theorem MO : isP (.any)=true:=_root_.id rfl
@[simp] theorem MU {k n} : isP (.int k n)=true:=_root_.id rfl
@[simp] theorem HR {b} : isP (.bool b)=true:=_root_.id rfl
@[simp] theorem M8 {s} : isP (.str s)=true:=_root_.id rfl
@[simp] theorem HS : isP (.nilp)=true:=_root_.id rfl
@[simp] theorem HT : isP (.nils)=true:=_root_.id rfl
@[simp] theorem MM {ds} : isP (.agg ds)=true:=_root_.id rfl
@[simp] theorem Na {ds} : isP (.tup ds)=true:=_root_.id rfl
@[simp] theorem Qe {es} : isP (.sl es)=true:=_root_.id rfl
@[simp] theorem MX {ds} : isP (.ptr ds)=true:=_root_.id rfl
@[simp] theorem Qc {g ds} : isP (.fn g ds)=true:=_root_.id rfl
@[simp] theorem MW {sz es} : isP (.own sz es)=false:=_root_.id rfl
@[simp] theorem MP {sz es} : isP (.blk sz es)=false:=_root_.id rfl
@[simp] theorem Qd {kt et ks vs} : isP (.mp kt et ks vs)=false:=_root_.id rfl
@[simp] theorem MV {b} : isP (.mrf b)=true:=_root_.id rfl
@[simp] theorem MZ {p k n} : isP (.ref p k n)=true:=_root_.id rfl
@[simp] theorem ML {p i off} : isP (.adr p i off)=true:=_root_.id rfl
@[simp] theorem MN {ds} : isP (.agx ds)=false:=_root_.id rfl
@[simp] theorem M9 {ds} : isP (.tpx ds)=false:=_root_.id rfl
@[simp] theorem MY {ds} : isP (.ptx ds)=false:=_root_.id rfl
@[simp] theorem M5 {n sz ds} : isP (.rfx n sz ds)=false:=_root_.id rfl
@[simp] theorem MQ {g ds} : isP (.fnx g ds)=false:=_root_.id rfl
@[simp] theorem MS {T p i off} : isP (.ifa T p i off)=true:=_root_.id rfl
@[simp] theorem MT {T n} : isP (.ifi T n)=true:=_root_.id rfl
@[simp] theorem M6 {k es} : isP (.slv k es)=true:=_root_.id rfl
@[simp] theorem MR {g ds cs} : isP (.fny g ds cs)=false:=_root_.id rfl
@[simp] theorem Nf : isS (.any)=true:=_root_.id rfl
@[simp] theorem Qj : isV (.bb)=true:=_root_.id rfl
@[simp] theorem Qf : isS (.bb)=true:=_root_.id rfl
@[simp] theorem Qb : isP (.bb)=true:=_root_.id rfl
@[simp] theorem PX : isB (.bb)=false:=_root_.id rfl
@[simp] theorem GC : cq (.bb)=false:=_root_.id rfl
@[simp] theorem D5 : bj (.bb)=[]:=_root_.id rfl
@[simp] theorem Aj : aB (.bb)=[]:=_root_.id rfl
@[simp] theorem Nl {k n} : isS (.int k n)=true:=_root_.id rfl
@[simp] theorem HU {b} : isS (.bool b)=true:=_root_.id rfl
@[simp] theorem Nv {s} : isS (.str s)=true:=_root_.id rfl
@[simp] theorem HV : isS (.nilp)=true:=_root_.id rfl
@[simp] theorem HW : isS (.nils)=true:=_root_.id rfl
@[simp] theorem Nc {ds} : isS (.agg ds)=true:=_root_.id rfl
@[simp] theorem Nx {ds} : isS (.tup ds)=true:=_root_.id rfl
@[simp] theorem Qi {es} : isS (.sl es)=true:=_root_.id rfl
@[simp] theorem Np {ds} : isS (.ptr ds)=true:=_root_.id rfl
@[simp] theorem Qg {g ds} : isS (.fn g ds)=true:=_root_.id rfl
@[simp] theorem Nn {sz es} : isS (.own sz es)=false:=_root_.id rfl
@[simp] theorem Ng {sz es} : isS (.blk sz es)=false:=_root_.id rfl
@[simp] theorem Qh {kt et ks vs} : isS (.mp kt et ks vs)=false:=_root_.id rfl
@[simp] theorem Nm {b} : isS (.mrf b)=true:=_root_.id rfl
@[simp] theorem Nr {p k n} : isS (.ref p k n)=true:=_root_.id rfl
@[simp] theorem Nb {p i off} : isS (.adr p i off)=true:=_root_.id rfl
@[simp] theorem Nd {ds} : isS (.agx ds)=ds.all isP:=_root_.id rfl
@[simp] theorem Nw {ds} : isS (.tpx ds)=ds.all isP:=_root_.id rfl
@[simp] theorem Nq {ds} : isS (.ptx ds)=ds.all isP:=_root_.id rfl
@[simp] theorem Ns {n sz ds} : isS (.rfx n sz ds)=ds.all isP:=_root_.id rfl
@[simp] theorem Nh {g ds} : isS (.fnx g ds)=ds.all isP:=_root_.id rfl
@[simp] theorem Nj {T p i off} : isS (.ifa T p i off)=true:=_root_.id rfl
@[simp] theorem Nk {T n} : isS (.ifi T n)=true:=_root_.id rfl
@[simp] theorem Nt {k es} : isS (.slv k es)=true:=_root_.id rfl
@[simp] theorem Ni {g ds cs} : isS (.fny g ds cs)=(ds.all isP && cs.all isP):=_root_.id rfl
@[simp] theorem GM : aw (.any)=false:=_root_.id rfl
@[simp] theorem GS {k n} : aw (.int k n)=true:=_root_.id rfl
@[simp] theorem Dj {b} : aw (.bool b)=true:=_root_.id rfl
@[simp] theorem G1 {s} : aw (.str s)=true:=_root_.id rfl
@[simp] theorem Dk : aw (.nilp)=true:=_root_.id rfl
@[simp] theorem Dl : aw (.nils)=true:=_root_.id rfl
@[simp] theorem GK {ds} : aw (.agg ds)=false:=_root_.id rfl
@[simp] theorem G3 {ds} : aw (.tup ds)=false:=_root_.id rfl
@[simp] theorem Lv {es} : aw (.sl es)=true:=_root_.id rfl
@[simp] theorem GV {ds} : aw (.ptr ds)=true:=_root_.id rfl
@[simp] theorem Lt {g ds} : aw (.fn g ds)=true:=_root_.id rfl
@[simp] theorem GU {sz es} : aw (.own sz es)=false:=_root_.id rfl
@[simp] theorem GN {sz es} : aw (.blk sz es)=false:=_root_.id rfl
@[simp] theorem Lu {kt et ks vs} : aw (.mp kt et ks vs)=false:=_root_.id rfl
@[simp] theorem GT {b} : aw (.mrf b)=false:=_root_.id rfl
@[simp] theorem GX {p k n} : aw (.ref p k n)=false:=_root_.id rfl
@[simp] theorem GJ {p i off} : aw (.adr p i off)=false:=_root_.id rfl
@[simp] theorem GL {ds} : aw (.agx ds)=false:=_root_.id rfl
@[simp] theorem G2 {ds} : aw (.tpx ds)=false:=_root_.id rfl
@[simp] theorem GW {ds} : aw (.ptx ds)=false:=_root_.id rfl
@[simp] theorem GY {n sz ds} : aw (.rfx n sz ds)=false:=_root_.id rfl
@[simp] theorem GO {g ds} : aw (.fnx g ds)=false:=_root_.id rfl
@[simp] theorem GQ {T p i off} : aw (.ifa T p i off)=false:=_root_.id rfl
@[simp] theorem GR {T n} : aw (.ifi T n)=false:=_root_.id rfl
@[simp] theorem GZ {k es} : aw (.slv k es)=false:=_root_.id rfl
@[simp] theorem GP {g ds cs} : aw (.fny g ds cs)=false:=_root_.id rfl
@[simp] theorem Mt : isO (.any)=false:=_root_.id rfl
@[simp] theorem Mz {k n} : isO (.int k n)=false:=_root_.id rfl
@[simp] theorem HO {b} : isO (.bool b)=false:=_root_.id rfl
@[simp] theorem MI {s} : isO (.str s)=false:=_root_.id rfl
@[simp] theorem HP : isO (.nilp)=false:=_root_.id rfl
@[simp] theorem HQ : isO (.nils)=false:=_root_.id rfl
@[simp] theorem Mr {ds} : isO (.agg ds)=false:=_root_.id rfl
@[simp] theorem MK {ds} : isO (.tup ds)=false:=_root_.id rfl
@[simp] theorem Qa {es} : isO (.sl es)=false:=_root_.id rfl
@[simp] theorem MC {ds} : isO (.ptr ds)=false:=_root_.id rfl
@[simp] theorem P8 {g ds} : isO (.fn g ds)=false:=_root_.id rfl
@[simp] theorem MB {sz es} : isO (.own sz es)=true:=_root_.id rfl
@[simp] theorem Mu {sz es} : isO (.blk sz es)=false:=_root_.id rfl
@[simp] theorem P9 {kt et ks vs} : isO (.mp kt et ks vs)=false:=_root_.id rfl
@[simp] theorem MA {b} : isO (.mrf b)=false:=_root_.id rfl
@[simp] theorem ME {p k n} : isO (.ref p k n)=false:=_root_.id rfl
@[simp] theorem Mq {p i off} : isO (.adr p i off)=false:=_root_.id rfl
@[simp] theorem Ms {ds} : isO (.agx ds)=false:=_root_.id rfl
@[simp] theorem MJ {ds} : isO (.tpx ds)=false:=_root_.id rfl
@[simp] theorem MD {ds} : isO (.ptx ds)=false:=_root_.id rfl
@[simp] theorem MF {n sz ds} : isO (.rfx n sz ds)=false:=_root_.id rfl
@[simp] theorem Mv {g ds} : isO (.fnx g ds)=false:=_root_.id rfl
@[simp] theorem Mx {T p i off} : isO (.ifa T p i off)=false:=_root_.id rfl
@[simp] theorem My {T n} : isO (.ifi T n)=false:=_root_.id rfl
@[simp] theorem MG {k es} : isO (.slv k es)=false:=_root_.id rfl
@[simp] theorem Mw {g ds cs} : isO (.fny g ds cs)=false:=_root_.id rfl
@[simp] theorem G7 : aW (.any)=true:=_root_.id rfl
@[simp] theorem Hd {k n} : aW (.int k n)=true:=_root_.id rfl
@[simp] theorem Dm {b} : aW (.bool b)=true:=_root_.id rfl
@[simp] theorem Hl {s} : aW (.str s)=true:=_root_.id rfl
@[simp] theorem Dn : aW (.nilp)=true:=_root_.id rfl
@[simp] theorem Do : aW (.nils)=true:=_root_.id rfl
@[simp] theorem G5 {ds} : aW (.agg ds)=false:=_root_.id rfl
@[simp] theorem Hn {ds} : aW (.tup ds)=false:=_root_.id rfl
@[simp] theorem Ly {es} : aW (.sl es)=false:=_root_.id rfl
@[simp] theorem Hg {ds} : aW (.ptr ds)=false:=_root_.id rfl
@[simp] theorem Lw {g ds} : aW (.fn g ds)=false:=_root_.id rfl
@[simp] theorem Hf {sz es} : aW (.own sz es)=false:=_root_.id rfl
@[simp] theorem G8 {sz es} : aW (.blk sz es)=false:=_root_.id rfl
@[simp] theorem Lx {kt et ks vs} : aW (.mp kt et ks vs)=false:=_root_.id rfl
@[simp] theorem He {b} : aW (.mrf b)=false:=_root_.id rfl
@[simp] theorem Hi {p k n} : aW (.ref p k n)=false:=_root_.id rfl
@[simp] theorem G4 {p i off} : aW (.adr p i off)=false:=_root_.id rfl
@[simp] theorem G6 {ds} : aW (.agx ds)=false:=_root_.id rfl
@[simp] theorem Hm {ds} : aW (.tpx ds)=false:=_root_.id rfl
@[simp] theorem Hh {ds} : aW (.ptx ds)=false:=_root_.id rfl
@[simp] theorem Hj {n sz ds} : aW (.rfx n sz ds)=false:=_root_.id rfl
@[simp] theorem G9 {g ds} : aW (.fnx g ds)=false:=_root_.id rfl
@[simp] theorem Hb {T p i off} : aW (.ifa T p i off)=false:=_root_.id rfl
@[simp] theorem Hc {T n} : aW (.ifi T n)=true:=_root_.id rfl
@[simp] theorem Hk {k es} : aW (.slv k es)=false:=_root_.id rfl
@[simp] theorem Ha {g ds cs} : aW (.fny g ds cs)=false:=_root_.id rfl
@[simp] theorem Hr : df (.any)=true:=_root_.id rfl
@[simp] theorem Hx {k n} : df (.int k n)=true:=_root_.id rfl
@[simp] theorem Dp {b} : df (.bool b)=true:=_root_.id rfl
@[simp] theorem HF {s} : df (.str s)=true:=_root_.id rfl
@[simp] theorem Dq : df (.nilp)=true:=_root_.id rfl
@[simp] theorem Dr : df (.nils)=true:=_root_.id rfl
@[simp] theorem Hp {ds} : df (.agg ds)=ds.all aW:=_root_.id rfl
@[simp] theorem HH {ds} : df (.tup ds)=false:=_root_.id rfl
@[simp] theorem LB {es} : df (.sl es)=false:=_root_.id rfl
@[simp] theorem HA {ds} : df (.ptr ds)=false:=_root_.id rfl
@[simp] theorem Lz {g ds} : df (.fn g ds)=false:=_root_.id rfl
@[simp] theorem Hz {sz es} : df (.own sz es)=false:=_root_.id rfl
@[simp] theorem Hs {sz es} : df (.blk sz es)=false:=_root_.id rfl
@[simp] theorem LA {kt et ks vs} : df (.mp kt et ks vs)=false:=_root_.id rfl
@[simp] theorem Hy {b} : df (.mrf b)=false:=_root_.id rfl
@[simp] theorem HC {p k n} : df (.ref p k n)=false:=_root_.id rfl
@[simp] theorem Ho {p i off} : df (.adr p i off)=false:=_root_.id rfl
@[simp] theorem Hq {ds} : df (.agx ds)=false:=_root_.id rfl
@[simp] theorem HG {ds} : df (.tpx ds)=false:=_root_.id rfl
@[simp] theorem HB {ds} : df (.ptx ds)=false:=_root_.id rfl
@[simp] theorem HD {n sz ds} : df (.rfx n sz ds)=false:=_root_.id rfl
@[simp] theorem Ht {g ds} : df (.fnx g ds)=false:=_root_.id rfl
@[simp] theorem Hv {T p i off} : df (.ifa T p i off)=false:=_root_.id rfl
@[simp] theorem Hw {T n} : df (.ifi T n)=true:=_root_.id rfl
@[simp] theorem HE {k es} : df (.slv k es)=false:=_root_.id rfl
@[simp] theorem Hu {g ds cs} : df (.fny g ds cs)=false:=_root_.id rfl
@[simp] theorem LF : isF (.any)=true:=_root_.id rfl
@[simp] theorem LM {k n} : isF (.int k n)=true:=_root_.id rfl
@[simp] theorem HI {b} : isF (.bool b)=true:=_root_.id rfl
@[simp] theorem LU {s} : isF (.str s)=true:=_root_.id rfl
@[simp] theorem HJ : isF (.nilp)=true:=_root_.id rfl
@[simp] theorem HK : isF (.nils)=true:=_root_.id rfl
@[simp] theorem LD {ds} : isF (.agg ds)=ds.all aW:=_root_.id rfl
@[simp] theorem LW {ds} : isF (.tup ds)=ds.all df:=_root_.id rfl
@[simp] theorem P3 {es} : isF (.sl es)=false:=_root_.id rfl
@[simp] theorem LP {ds} : isF (.ptr ds)=false:=_root_.id rfl
@[simp] theorem P1 {g ds} : isF (.fn g ds)=false:=_root_.id rfl
@[simp] theorem LO {sz es} : isF (.own sz es)=false:=_root_.id rfl
@[simp] theorem LG {sz es} : isF (.blk sz es)=false:=_root_.id rfl
@[simp] theorem P2 {kt et ks vs} : isF (.mp kt et ks vs)=false:=_root_.id rfl
@[simp] theorem LN {b} : isF (.mrf b)=false:=_root_.id rfl
@[simp] theorem LR {p k n} : isF (.ref p k n)=false:=_root_.id rfl
@[simp] theorem LC {p i off} : isF (.adr p i off)=false:=_root_.id rfl
@[simp] theorem LE {ds} : isF (.agx ds)=false:=_root_.id rfl
@[simp] theorem LV {ds} : isF (.tpx ds)=false:=_root_.id rfl
@[simp] theorem LQ {ds} : isF (.ptx ds)=false:=_root_.id rfl
@[simp] theorem LS {n sz ds} : isF (.rfx n sz ds)=false:=_root_.id rfl
@[simp] theorem LH {g ds} : isF (.fnx g ds)=false:=_root_.id rfl
@[simp] theorem LJ {T p i off} : isF (.ifa T p i off)=false:=_root_.id rfl
@[simp] theorem LK {T n} : isF (.ifi T n)=true:=_root_.id rfl
@[simp] theorem LT {k es} : isF (.slv k es)=false:=_root_.id rfl
@[simp] theorem LI {g ds cs} : isF (.fny g ds cs)=false:=_root_.id rfl
@[simp] theorem Lb : isB (.any)=false:=_root_.id rfl
@[simp] theorem Lh {k n} : isB (.int k n)=false:=_root_.id rfl
@[simp] theorem GG {b} : isB (.bool b)=false:=_root_.id rfl
@[simp] theorem Lq {s} : isB (.str s)=false:=_root_.id rfl
@[simp] theorem GH : isB (.nilp)=false:=_root_.id rfl
@[simp] theorem GI : isB (.nils)=false:=_root_.id rfl
@[simp] theorem K9 {ds} : isB (.agg ds)=false:=_root_.id rfl
@[simp] theorem Ls {ds} : isB (.tup ds)=false:=_root_.id rfl
@[simp] theorem P0 {es} : isB (.sl es)=false:=_root_.id rfl
@[simp] theorem Lk {ds} : isB (.ptr ds)=false:=_root_.id rfl
@[simp] theorem PY {g ds} : isB (.fn g ds)=false:=_root_.id rfl
@[simp] theorem Lj {sz es} : isB (.own sz es)=false:=_root_.id rfl
@[simp] theorem Lc {sz es} : isB (.blk sz es)=true:=_root_.id rfl
@[simp] theorem PZ {kt et ks vs} : isB (.mp kt et ks vs)=true:=_root_.id rfl
@[simp] theorem Li {b} : isB (.mrf b)=false:=_root_.id rfl
@[simp] theorem Lm {p k n} : isB (.ref p k n)=false:=_root_.id rfl
@[simp] theorem K0 {p i off} : isB (.adr p i off)=false:=_root_.id rfl
@[simp] theorem La {ds} : isB (.agx ds)=false:=_root_.id rfl
@[simp] theorem Lr {ds} : isB (.tpx ds)=false:=_root_.id rfl
@[simp] theorem Ll {ds} : isB (.ptx ds)=false:=_root_.id rfl
@[simp] theorem Ln {n sz ds} : isB (.rfx n sz ds)=false:=_root_.id rfl
@[simp] theorem Ld {g ds} : isB (.fnx g ds)=false:=_root_.id rfl
@[simp] theorem Lf {T p i off} : isB (.ifa T p i off)=false:=_root_.id rfl
@[simp] theorem Lg {T n} : isB (.ifi T n)=false:=_root_.id rfl
@[simp] theorem Lo {k es} : isB (.slv k es)=false:=_root_.id rfl
@[simp] theorem Le {g ds cs} : isB (.fny g ds cs)=false:=_root_.id rfl
@[simp] theorem C1 : cq (.any)=true:=_root_.id rfl
@[simp] theorem C7 {k n} : cq (.int k n)=false:=_root_.id rfl
@[simp] theorem zR {b} : cq (.bool b)=false:=_root_.id rfl
@[simp] theorem Dg {s} : cq (.str s)=false:=_root_.id rfl
@[simp] theorem zS : cq (.nilp)=false:=_root_.id rfl
@[simp] theorem zT : cq (.nils)=false:=_root_.id rfl
@[simp] theorem CZ {ds} : cq (.agg ds)=false:=_root_.id rfl
@[simp] theorem Di {ds} : cq (.tup ds)=false:=_root_.id rfl
@[simp] theorem GF {es} : cq (.sl es)=false:=_root_.id rfl
@[simp] theorem Da {ds} : cq (.ptr ds)=false:=_root_.id rfl
@[simp] theorem GD {g ds} : cq (.fn g ds)=false:=_root_.id rfl
@[simp] theorem C9 {sz es} : cq (.own sz es)=false:=_root_.id rfl
@[simp] theorem C2 {sz es} : cq (.blk sz es)=false:=_root_.id rfl
@[simp] theorem GE {kt et ks vs} : cq (.mp kt et ks vs)=false:=_root_.id rfl
@[simp] theorem C8 {b} : cq (.mrf b)=false:=_root_.id rfl
@[simp] theorem Dc {p k n} : cq (.ref p k n)=false:=_root_.id rfl
@[simp] theorem CY {p i off} : cq (.adr p i off)=false:=_root_.id rfl
@[simp] theorem C0 {ds} : cq (.agx ds)=false:=_root_.id rfl
@[simp] theorem Dh {ds} : cq (.tpx ds)=false:=_root_.id rfl
@[simp] theorem Db {ds} : cq (.ptx ds)=false:=_root_.id rfl
@[simp] theorem Dd {n sz ds} : cq (.rfx n sz ds)=false:=_root_.id rfl
@[simp] theorem C3 {g ds} : cq (.fnx g ds)=false:=_root_.id rfl
@[simp] theorem C5 {T p i off} : cq (.ifa T p i off)=false:=_root_.id rfl
@[simp] theorem C6 {T n} : cq (.ifi T n)=false:=_root_.id rfl
@[simp] theorem De {k es} : cq (.slv k es)=false:=_root_.id rfl
@[simp] theorem C4 {g ds cs} : cq (.fny g ds cs)=false:=_root_.id rfl
@[simp] theorem xr : cellsOf (.any)=[.any]:=_root_.id rfl
@[simp] theorem xA {k n} : cellsOf (.int k n)=[.int k n]:=_root_.id rfl
@[simp] theorem vf {b} : cellsOf (.bool b)=[.bool b]:=_root_.id rfl
@[simp] theorem xJ {s} : cellsOf (.str s)=[.str s]:=_root_.id rfl
@[simp] theorem vg : cellsOf (.nilp)=[.nilp]:=_root_.id rfl
@[simp] theorem vh : cellsOf (.nils)=[.nils]:=_root_.id rfl
@[simp] theorem xp {ds} : cellsOf (.agg ds)=ds:=_root_.id rfl
@[simp] theorem xL {ds} : cellsOf (.tup ds)=[.tup ds]:=_root_.id rfl
@[simp] theorem y5 {es} : cellsOf (.sl es)=[.sl es]:=_root_.id rfl
@[simp] theorem xD {ds} : cellsOf (.ptr ds)=[.ptr ds]:=_root_.id rfl
@[simp] theorem yZ {g ds} : cellsOf (.fn g ds)=[.fn g ds]:=_root_.id rfl
@[simp] theorem xC {sz es} : cellsOf (.own sz es)=[.own sz es]:=_root_.id rfl
@[simp] theorem xu {sz es} : cellsOf (.blk sz es)=[.blk sz es]:=_root_.id rfl
@[simp] theorem y4 {kt et ks vs} : cellsOf (.mp kt et ks vs)=[.mp kt et ks vs]:=_root_.id rfl
@[simp] theorem xB {b} : cellsOf (.mrf b)=[.mrf b]:=_root_.id rfl
@[simp] theorem xF {p k n} : cellsOf (.ref p k n)=[.ref p k n]:=_root_.id rfl
@[simp] theorem xo {p i off} : cellsOf (.adr p i off)=[.adr p i off]:=_root_.id rfl
@[simp] theorem xq {ds} : cellsOf (.agx ds)=[.agx ds]:=_root_.id rfl
@[simp] theorem xK {ds} : cellsOf (.tpx ds)=[.tpx ds]:=_root_.id rfl
@[simp] theorem xE {ds} : cellsOf (.ptx ds)=[.ptx ds]:=_root_.id rfl
@[simp] theorem xG {n sz ds} : cellsOf (.rfx n sz ds)=[.rfx n sz ds]:=_root_.id rfl
@[simp] theorem xw {g ds} : cellsOf (.fnx g ds)=[.fnx g ds]:=_root_.id rfl
@[simp] theorem xy {T p i off} : cellsOf (.ifa T p i off)=[.ifa T p i off]:=_root_.id rfl
@[simp] theorem xz {T n} : cellsOf (.ifi T n)=[.ifi T n]:=_root_.id rfl
@[simp] theorem xH {k es} : cellsOf (.slv k es)=[.slv k es]:=_root_.id rfl
@[simp] theorem xx {g ds cs} : cellsOf (.fny g ds cs)=[.fny g ds cs]:=_root_.id rfl
@[simp] theorem Bu : bQ (.any)=.any:=_root_.id rfl
@[simp] theorem BA {k n} : bQ (.int k n)=.int k n:=_root_.id rfl
@[simp] theorem yQ {b} : bQ (.bool b)=.bool b:=_root_.id rfl
@[simp] theorem BJ {s} : bQ (.str s)=.str s:=_root_.id rfl
@[simp] theorem yR : bQ (.nilp)=.nilp:=_root_.id rfl
@[simp] theorem yS : bQ (.nils)=.nils:=_root_.id rfl
@[simp] theorem Bs {ds} : bQ (.agg ds)=.agg ds:=_root_.id rfl
@[simp] theorem BM {ds} : bQ (.tup ds)=.tup ds:=_root_.id rfl
@[simp] theorem EW {es} : bQ (.sl es)=.sl es:=_root_.id rfl
@[simp] theorem BD {ds} : bQ (.ptr ds)=.ptr ds:=_root_.id rfl
@[simp] theorem EU {g ds} : bQ (.fn g ds)=.fn g ds:=_root_.id rfl
@[simp] theorem BC {sz es} : bQ (.own sz es)=.own sz es:=_root_.id rfl
@[simp] theorem Bv {sz es} : bQ (.blk sz es)=.blk sz es:=_root_.id rfl
@[simp] theorem EV {kt et ks vs} : bQ (.mp kt et ks vs)=.mp kt et ks vs:=_root_.id rfl
@[simp] theorem BB {b} : bQ (.mrf b)=.mrf b:=_root_.id rfl
@[simp] theorem BF {p k n} : bQ (.ref p k n)=.ref p k n:=_root_.id rfl
@[simp] theorem Br {p i off} : bQ (.adr p i off)=.adr p i off:=_root_.id rfl
@[simp] theorem Bt {ds} : bQ (.agx ds)=.agg ds:=_root_.id rfl
@[simp] theorem BL {ds} : bQ (.tpx ds)=.tpx ds:=_root_.id rfl
@[simp] theorem BE {ds} : bQ (.ptx ds)=.ptx ds:=_root_.id rfl
@[simp] theorem BG {n sz ds} : bQ (.rfx n sz ds)=.rfx n sz ds:=_root_.id rfl
@[simp] theorem Bw {g ds} : bQ (.fnx g ds)=.fnx g ds:=_root_.id rfl
@[simp] theorem By {T p i off} : bQ (.ifa T p i off)=.ifa T p i off:=_root_.id rfl
@[simp] theorem Bz {T n} : bQ (.ifi T n)=.ifi T n:=_root_.id rfl
@[simp] theorem BH {k es} : bQ (.slv k es)=.slv k es:=_root_.id rfl
@[simp] theorem Bx {g ds cs} : bQ (.fny g ds cs)=.fny g ds cs:=_root_.id rfl
@[simp] theorem B2 : a6 (.any)=.any:=_root_.id rfl
@[simp] theorem B8 {k n} : a6 (.int k n)=.int k n:=_root_.id rfl
@[simp] theorem yW {b} : a6 (.bool b)=.bool b:=_root_.id rfl
@[simp] theorem Ci {s} : a6 (.str s)=.str s:=_root_.id rfl
@[simp] theorem yX : a6 (.nilp)=.nilp:=_root_.id rfl
@[simp] theorem yY : a6 (.nils)=.nils:=_root_.id rfl
@[simp] theorem BZ {ds} : a6 (.agg ds)=.agg ds:=_root_.id rfl
@[simp] theorem Ck {ds} : a6 (.tup ds)=.tup ds:=_root_.id rfl
@[simp] theorem Fp {es} : a6 (.sl es)=.sl es:=_root_.id rfl
@[simp] theorem Cb {ds} : a6 (.ptr ds)=.ptr ds:=_root_.id rfl
@[simp] theorem Fm {g ds} : a6 (.fn g ds)=.fn g ds:=_root_.id rfl
@[simp] theorem Ca {sz es} : a6 (.own sz es)=.sl es:=_root_.id rfl
@[simp] theorem B3 {sz es} : a6 (.blk sz es)=.blk sz es:=_root_.id rfl
@[simp] theorem Fn {kt et ks vs} : a6 (.mp kt et ks vs)=.mp kt et ks vs:=_root_.id rfl
@[simp] theorem B9 {b} : a6 (.mrf b)=.mrf b:=_root_.id rfl
@[simp] theorem Cd {p k n} : a6 (.ref p k n)=.ref p k n:=_root_.id rfl
@[simp] theorem BY {p i off} : a6 (.adr p i off)=.adr p i off:=_root_.id rfl
@[simp] theorem B1 {ds} : a6 (.agx ds)=.agx ds:=_root_.id rfl
@[simp] theorem Cj {ds} : a6 (.tpx ds)=.tpx ds:=_root_.id rfl
@[simp] theorem Cc {ds} : a6 (.ptx ds)=.ptx ds:=_root_.id rfl
@[simp] theorem Ce {n sz ds} : a6 (.rfx n sz ds)=.rfx n sz ds:=_root_.id rfl
@[simp] theorem B4 {g ds} : a6 (.fnx g ds)=.fnx g ds:=_root_.id rfl
@[simp] theorem B6 {T p i off} : a6 (.ifa T p i off)=.ifa T p i off:=_root_.id rfl
@[simp] theorem B7 {T n} : a6 (.ifi T n)=.ifi T n:=_root_.id rfl
@[simp] theorem Cf {k es} : a6 (.slv k es)=.slv k es:=_root_.id rfl
@[simp] theorem B5 {g ds cs} : a6 (.fny g ds cs)=.fny g ds cs:=_root_.id rfl
@[simp] theorem ya : aB (.any)=[]:=_root_.id rfl
@[simp] theorem yh {k n} : aB (.int k n)=[]:=_root_.id rfl
@[simp] theorem vV {b} : aB (.bool b)=[]:=_root_.id rfl
@[simp] theorem yq {s} : aB (.str s)=[]:=_root_.id rfl
@[simp] theorem vW : aB (.nilp)=[]:=_root_.id rfl
@[simp] theorem vX : aB (.nils)=[]:=_root_.id rfl
@[simp] theorem x8 {ds} : aB (.agg ds)=[]:=_root_.id rfl
@[simp] theorem yt {ds} : aB (.tup ds)=[]:=_root_.id rfl
@[simp] theorem Am {es} : aB (.sl es)=[]:=_root_.id rfl
@[simp] theorem yk {ds} : aB (.ptr ds)=[]:=_root_.id rfl
@[simp] theorem Ak {g ds} : aB (.fn g ds)=[]:=_root_.id rfl
@[simp] theorem yj {sz es} : aB (.own sz es)=[]:=_root_.id rfl
@[simp] theorem yb {sz es} : aB (.blk sz es)=[]:=_root_.id rfl
@[simp] theorem Al {kt et ks vs} : aB (.mp kt et ks vs)=[]:=_root_.id rfl
@[simp] theorem yi {b} : aB (.mrf b)=[b]:=_root_.id rfl
@[simp] theorem ym {p k n} : aB (.ref p k n)=[p.root]:=_root_.id rfl
@[simp] theorem x7 {p i off} : aB (.adr p i off)=[p.root]:=_root_.id rfl
@[simp] theorem x9 {ds} : aB (.agx ds)=[]:=_root_.id rfl
@[simp] theorem yr {ds} : aB (.tpx ds)=[]:=_root_.id rfl
@[simp] theorem yl {ds} : aB (.ptx ds)=[]:=_root_.id rfl
@[simp] theorem yn {n sz ds} : aB (.rfx n sz ds)=[]:=_root_.id rfl
@[simp] theorem yc {g ds} : aB (.fnx g ds)=[]:=_root_.id rfl
@[simp] theorem yf {T p i off} : aB (.ifa T p i off)=[p.root]:=_root_.id rfl
@[simp] theorem yg {T n} : aB (.ifi T n)=[]:=_root_.id rfl
@[simp] theorem yo {k es} : aB (.slv k es)=[]:=_root_.id rfl
@[simp] theorem ye {g ds cs} : aB (.fny g ds cs)=[]:=_root_.id rfl
@[simp] theorem Aq : bj (.any)=[]:=_root_.id rfl
@[simp] theorem Aw {k n} : bj (.int k n)=[]:=_root_.id rfl
@[simp] theorem yu {b} : bj (.bool b)=[]:=_root_.id rfl
@[simp] theorem AF {s} : bj (.str s)=[]:=_root_.id rfl
@[simp] theorem yv : bj (.nilp)=[]:=_root_.id rfl
@[simp] theorem yw : bj (.nils)=[]:=_root_.id rfl
@[simp] theorem Ao {ds} : bj (.agg ds)=[]:=_root_.id rfl
@[simp] theorem AI {ds} : bj (.tup ds)=[]:=_root_.id rfl
@[simp] theorem D8 {es} : bj (.sl es)=[]:=_root_.id rfl
@[simp] theorem Az {ds} : bj (.ptr ds)=[]:=_root_.id rfl
@[simp] theorem D6 {g ds} : bj (.fn g ds)=[]:=_root_.id rfl
@[simp] theorem Ay {sz es} : bj (.own sz es)=[]:=_root_.id rfl
@[simp] theorem Ar {sz es} : bj (.blk sz es)=[]:=_root_.id rfl
@[simp] theorem D7 {kt et ks vs} : bj (.mp kt et ks vs)=[]:=_root_.id rfl
@[simp] theorem Ax {b} : bj (.mrf b)=[b]:=_root_.id rfl
@[simp] theorem AB {p k n} : bj (.ref p k n)=[p.root]:=_root_.id rfl
@[simp] theorem An {p i off} : bj (.adr p i off)=[p.root]:=_root_.id rfl
@[simp] theorem Ap {ds} : bj (.agx ds)=ds.flatMap aB:=_root_.id rfl
@[simp] theorem AH {ds} : bj (.tpx ds)=ds.flatMap aB:=_root_.id rfl
@[simp] theorem AA {ds} : bj (.ptx ds)=ds.flatMap aB:=_root_.id rfl
@[simp] theorem AC {n sz ds} : bj (.rfx n sz ds)=ds.flatMap aB:=_root_.id rfl
@[simp] theorem As {g ds} : bj (.fnx g ds)=ds.flatMap aB:=_root_.id rfl
@[simp] theorem Au {T p i off} : bj (.ifa T p i off)=[p.root]:=_root_.id rfl
@[simp] theorem Av {T n} : bj (.ifi T n)=[]:=_root_.id rfl
@[simp] theorem AD {k es} : bj (.slv k es)=[]:=_root_.id rfl
@[simp] theorem At {g ds cs} : bj (.fny g ds cs)=(ds.flatMap aB++cs.flatMap aB):=_root_.id rfl
@[simp] theorem Ko {f : Nat -> D} : dp1 f (.any)=(.any):=_root_.id rfl
@[simp] theorem Ku {f : Nat -> D} {k n} : dp1 f (.int k n)=(.int k n):=_root_.id rfl
@[simp] theorem FB {f : Nat -> D} {b} : dp1 f (.bool b)=(.bool b):=_root_.id rfl
@[simp] theorem KD {f : Nat -> D} {s} : dp1 f (.str s)=(.str s):=_root_.id rfl
@[simp] theorem FC {f : Nat -> D} : dp1 f (.nilp)=(.nilp):=_root_.id rfl
@[simp] theorem FD {f : Nat -> D} : dp1 f (.nils)=(.nils):=_root_.id rfl
@[simp] theorem Km {f : Nat -> D} {ds} : dp1 f (.agg ds)=(.agg ds):=_root_.id rfl
@[simp] theorem KF {f : Nat -> D} {ds} : dp1 f (.tup ds)=(.tup ds):=_root_.id rfl
@[simp] theorem Pu {f : Nat -> D} {es} : dp1 f (.sl es)=(.sl es):=_root_.id rfl
@[simp] theorem Kx {f : Nat -> D} {ds} : dp1 f (.ptr ds)=(.ptr ds):=_root_.id rfl
@[simp] theorem Ps {f : Nat -> D} {g ds} : dp1 f (.fn g ds)=(.fn g ds):=_root_.id rfl
@[simp] theorem Kw {f : Nat -> D} {sz es} : dp1 f (.own sz es)=(.own sz es):=_root_.id rfl
@[simp] theorem Kp {f : Nat -> D} {sz es} : dp1 f (.blk sz es)=(.blk sz es):=_root_.id rfl
@[simp] theorem Pt {f : Nat -> D} {kt et ks vs} : dp1 f (.mp kt et ks vs)=(.mp kt et ks vs):=_root_.id rfl
@[simp] theorem Kv {f : Nat -> D} {b} : dp1 f (.mrf b)=(.mrf b):=_root_.id rfl
@[simp] theorem Kz {f : Nat -> D} {p k n} : dp1 f (.ref p k n)=(match aR f p with | some (_,es)=>.sl (((es.drop k).take n).map fun e=>e.map a6) | none=>.any):=_root_.id rfl
@[simp] theorem Kl {f : Nat -> D} {p i off} : dp1 f (.adr p i off)=(match aR f p with | some (_,es)=>.ptr (((es[i]?.getD []).drop off).map a6) | none=>.any):=_root_.id rfl
@[simp] theorem Kn {f : Nat -> D} {ds} : dp1 f (.agx ds)=(.agx ds):=_root_.id rfl
@[simp] theorem KE {f : Nat -> D} {ds} : dp1 f (.tpx ds)=(.tpx ds):=_root_.id rfl
@[simp] theorem Ky {f : Nat -> D} {ds} : dp1 f (.ptx ds)=(.ptx ds):=_root_.id rfl
@[simp] theorem KA {f : Nat -> D} {n sz ds} : dp1 f (.rfx n sz ds)=(.rfx n sz ds):=_root_.id rfl
@[simp] theorem Kq {f : Nat -> D} {g ds} : dp1 f (.fnx g ds)=(.fnx g ds):=_root_.id rfl
@[simp] theorem Ks {f : Nat -> D} {T p i off} : dp1 f (.ifa T p i off)=(.ifa T p i off):=_root_.id rfl
@[simp] theorem Kt {f : Nat -> D} {T n} : dp1 f (.ifi T n)=(.ifi T n):=_root_.id rfl
@[simp] theorem KB {f : Nat -> D} {k es} : dp1 f (.slv k es)=(.slv k es):=_root_.id rfl
@[simp] theorem Kr {f : Nat -> D} {g ds cs} : dp1 f (.fny g ds cs)=(.fny g ds cs):=_root_.id rfl
@[simp] theorem Py {f : Nat -> D} : dp f (.any)=(.any):=_root_.id rfl
@[simp] theorem PE {f : Nat -> D} {k n} : dp f (.int k n)=(.int k n):=_root_.id rfl
@[simp] theorem KJ {f : Nat -> D} {b} : dp f (.bool b)=(.bool b):=_root_.id rfl
@[simp] theorem PN {f : Nat -> D} {s} : dp f (.str s)=(.str s):=_root_.id rfl
@[simp] theorem KL {f : Nat -> D} : dp f (.nilp)=(.nilp):=_root_.id rfl
@[simp] theorem KM {f : Nat -> D} : dp f (.nils)=(.nils):=_root_.id rfl
@[simp] theorem Pw {f : Nat -> D} {ds} : dp f (.agg ds)=(.agg ds):=_root_.id rfl
@[simp] theorem PP {f : Nat -> D} {ds} : dp f (.tup ds)=(.tup ds):=_root_.id rfl
@[simp] theorem QT {f : Nat -> D} {es} : dp f (.sl es)=(.sl es):=_root_.id rfl
@[simp] theorem PH {f : Nat -> D} {ds} : dp f (.ptr ds)=(.ptr ds):=_root_.id rfl
@[simp] theorem QR {f : Nat -> D} {g ds} : dp f (.fn g ds)=(.fn g ds):=_root_.id rfl
@[simp] theorem PG {f : Nat -> D} {sz es} : dp f (.own sz es)=(.own sz es):=_root_.id rfl
@[simp] theorem Pz {f : Nat -> D} {sz es} : dp f (.blk sz es)=(.blk sz es):=_root_.id rfl
@[simp] theorem QS {f : Nat -> D} {kt et ks vs} : dp f (.mp kt et ks vs)=(.mp kt et ks vs):=_root_.id rfl
@[simp] theorem PF {f : Nat -> D} {b} : dp f (.mrf b)=(.mrf b):=_root_.id rfl
@[simp] theorem PJ {f : Nat -> D} {p k n} : dp f (.ref p k n)=(match aR f p with | some (_,es)=>.sl (((es.drop k).take n).map fun e=>e.map a6) | none=>.any):=_root_.id rfl
@[simp] theorem Pv {f : Nat -> D} {p i off} : dp f (.adr p i off)=(match aR f p with | some (_,es)=>.ptr (((es[i]?.getD []).drop off).map a6) | none=>.any):=_root_.id rfl
@[simp] theorem Px {f : Nat -> D} {ds} : dp f (.agx ds)=(.agg (ds.map (dp1 f))):=_root_.id rfl
@[simp] theorem PO {f : Nat -> D} {ds} : dp f (.tpx ds)=(.tup (ds.map (dp1 f))):=_root_.id rfl
@[simp] theorem PI {f : Nat -> D} {ds} : dp f (.ptx ds)=(.ptr (ds.map (dp1 f))):=_root_.id rfl
@[simp] theorem PK {f : Nat -> D} {n sz ds} : dp f (.rfx n sz ds)=.rfx n sz ds:=_root_.id rfl
@[simp] theorem PA {f : Nat -> D} {g ds} : dp f (.fnx g ds)=(.fn g (ds.map (dp1 f))):=_root_.id rfl
@[simp] theorem PC {f : Nat -> D} {T p i off} : dp f (.ifa T p i off)=(.ifa T p i off):=_root_.id rfl
@[simp] theorem PD {f : Nat -> D} {T n} : dp f (.ifi T n)=(.ifi T n):=_root_.id rfl
@[simp] theorem PL {f : Nat -> D} {k es} : dp f (.slv k es)=(.slv k es):=_root_.id rfl
@[simp] theorem PB {f : Nat -> D} {g ds cs} : dp f (.fny g ds cs)=(.fny g ds cs):=_root_.id rfl
@[simp] theorem Cr {f : Nat -> D} : aK f (.any)=(True):=_root_.id rfl
@[simp] theorem Cx {f : Nat -> D} {k n} : aK f (.int k n)=(True):=_root_.id rfl
@[simp] theorem zj {f : Nat -> D} {b} : aK f (.bool b)=(True):=_root_.id rfl
@[simp] theorem CH {f : Nat -> D} {s} : aK f (.str s)=(True):=_root_.id rfl
@[simp] theorem zp {f : Nat -> D} : aK f (.nilp)=(True):=_root_.id rfl
@[simp] theorem zu {f : Nat -> D} : aK f (.nils)=(True):=_root_.id rfl
@[simp] theorem Cp {f : Nat -> D} {ds} : aK f (.agg ds)=(True):=_root_.id rfl
@[simp] theorem CJ {f : Nat -> D} {ds} : aK f (.tup ds)=(True):=_root_.id rfl
@[simp] theorem FG {f : Nat -> D} {es} : aK f (.sl es)=(True):=_root_.id rfl
@[simp] theorem CA {f : Nat -> D} {ds} : aK f (.ptr ds)=(True):=_root_.id rfl
@[simp] theorem FE {f : Nat -> D} {g ds} : aK f (.fn g ds)=(True):=_root_.id rfl
@[simp] theorem Cz {f : Nat -> D} {sz es} : aK f (.own sz es)=(True):=_root_.id rfl
@[simp] theorem Cs {f : Nat -> D} {sz es} : aK f (.blk sz es)=(True):=_root_.id rfl
@[simp] theorem FF {f : Nat -> D} {kt et ks vs} : aK f (.mp kt et ks vs)=(True):=_root_.id rfl
@[simp] theorem Cy {f : Nat -> D} {b} : aK f (.mrf b)=(False):=_root_.id rfl
@[simp] theorem CD {f : Nat -> D} {p k n} : aK f (.ref p k n)=(match aR f p with | some (_,es)=>k + n <= es.length | none=>False):=_root_.id rfl
@[simp] theorem Co {f : Nat -> D} {p i off} : aK f (.adr p i off)=(match aR f p with | some _=>True | none=>False):=_root_.id rfl
@[simp] theorem Cq {f : Nat -> D} {ds} : aK f (.agx ds)=(True):=_root_.id rfl
@[simp] theorem CI {f : Nat -> D} {ds} : aK f (.tpx ds)=(True):=_root_.id rfl
@[simp] theorem CB {f : Nat -> D} {ds} : aK f (.ptx ds)=(True):=_root_.id rfl
@[simp] theorem CE {f : Nat -> D} {n sz ds} : aK f (.rfx n sz ds)=(True):=_root_.id rfl
@[simp] theorem Ct {f : Nat -> D} {g ds} : aK f (.fnx g ds)=(True):=_root_.id rfl
@[simp] theorem Cv {f : Nat -> D} {T p i off} : aK f (.ifa T p i off)=False:=_root_.id rfl
@[simp] theorem Cw {f : Nat -> D} {T n} : aK f (.ifi T n)=True:=_root_.id rfl
@[simp] theorem CF {f : Nat -> D} {k es} : aK f (.slv k es)=True:=_root_.id rfl
@[simp] theorem Cu {f : Nat -> D} {g ds cs} : aK f (.fny g ds cs)=True:=_root_.id rfl
@[simp] theorem FK {f : Nat -> D} : br f (.any)=(True):=_root_.id rfl
@[simp] theorem FQ {f : Nat -> D} {k n} : br f (.int k n)=(True):=_root_.id rfl
@[simp] theorem CK {f : Nat -> D} {b} : br f (.bool b)=(True):=_root_.id rfl
@[simp] theorem FZ {f : Nat -> D} {s} : br f (.str s)=(True):=_root_.id rfl
@[simp] theorem CL {f : Nat -> D} : br f (.nilp)=(True):=_root_.id rfl
@[simp] theorem CM {f : Nat -> D} : br f (.nils)=(True):=_root_.id rfl
@[simp] theorem FI {f : Nat -> D} {ds} : br f (.agg ds)=(True):=_root_.id rfl
@[simp] theorem F4 {f : Nat -> D} {ds} : br f (.tup ds)=(True):=_root_.id rfl
@[simp] theorem KI {f : Nat -> D} {es} : br f (.sl es)=(True):=_root_.id rfl
@[simp] theorem FT {f : Nat -> D} {ds} : br f (.ptr ds)=(True):=_root_.id rfl
@[simp] theorem KG {f : Nat -> D} {g ds} : br f (.fn g ds)=(True):=_root_.id rfl
@[simp] theorem zfs {f : Nat -> D} {sz es} : br f (.own sz es)=(True):=_root_.id rfl
@[simp] theorem FL {f : Nat -> D} {sz es} : br f (.blk sz es)=(True):=_root_.id rfl
@[simp] theorem KH {f : Nat -> D} {kt et ks vs} : br f (.mp kt et ks vs)=(True):=_root_.id rfl
@[simp] theorem FR {f : Nat -> D} {b} : br f (.mrf b)=(False):=_root_.id rfl
@[simp] theorem FV {f : Nat -> D} {p k n} : br f (.ref p k n)=(match aR f p with | some (_,es)=>k + n <= es.length | none=>False):=_root_.id rfl
@[simp] theorem FH {f : Nat -> D} {p i off} : br f (.adr p i off)=(match aR f p with | some _=>True | none=>False):=_root_.id rfl
@[simp] theorem FJ {f : Nat -> D} {ds} : br f (.agx ds)=(∀ d ∈ ds,aK f d):=_root_.id rfl
@[simp] theorem F0 {f : Nat -> D} {ds} : br f (.tpx ds)=(∀ d ∈ ds,aK f d):=_root_.id rfl
@[simp] theorem FU {f : Nat -> D} {ds} : br f (.ptx ds)=(∀ d ∈ ds,aK f d):=_root_.id rfl
@[simp] theorem FW {f : Nat -> D} {n sz ds} : br f (.rfx n sz ds)=False:=_root_.id rfl
@[simp] theorem FM {f : Nat -> D} {g ds} : br f (.fnx g ds)=(∀ d ∈ ds,aK f d):=_root_.id rfl
@[simp] theorem FO {f : Nat -> D} {T p i off} : br f (.ifa T p i off)=False:=_root_.id rfl
@[simp] theorem FP {f : Nat -> D} {T n} : br f (.ifi T n)=True:=_root_.id rfl
@[simp] theorem FX {f : Nat -> D} {k es} : br f (.slv k es)=True:=_root_.id rfl
@[simp] theorem FN {f : Nat -> D} {g ds cs} : br f (.fny g ds cs)=False:=_root_.id rfl
@[simp] theorem NW {p i0 o} : ldc p i0 o (.any)=.any:=_root_.id rfl
@[simp] theorem IP {m} : dL m (.any)=.any:=_root_.id rfl
@[simp] theorem N2 {p i0 o k n} : ldc p i0 o (.int k n)=.int k n:=_root_.id rfl
@[simp] theorem IV {m k n} : dL m (.int k n)=.int k n:=_root_.id rfl
@[simp] theorem If {p i0 o b} : ldc p i0 o (.bool b)=.bool b:=_root_.id rfl
@[simp] theorem D9 {m b} : dL m (.bool b)=.bool b:=_root_.id rfl
@[simp] theorem Ob {p i0 o s} : ldc p i0 o (.str s)=.str s:=_root_.id rfl
@[simp] theorem I9 {m s} : dL m (.str s)=.str s:=_root_.id rfl
@[simp] theorem Ig {p i0 o} : ldc p i0 o (.nilp)=.nilp:=_root_.id rfl
@[simp] theorem Ea {m} : dL m (.nilp)=.nilp:=_root_.id rfl
@[simp] theorem Ih {p i0 o} : ldc p i0 o (.nils)=.nils:=_root_.id rfl
@[simp] theorem NU {p i0 o ds} : ldc p i0 o (.agg ds)=.agg ds:=_root_.id rfl
@[simp] theorem IM {m ds} : dL m (.agg ds)=.agg ds:=_root_.id rfl
@[simp] theorem Od {p i0 o ds} : ldc p i0 o (.tup ds)=.tup ds:=_root_.id rfl
@[simp] theorem Jb {m ds} : dL m (.tup ds)=.tup ds:=_root_.id rfl
@[simp] theorem Qr {p i0 o es} : ldc p i0 o (.sl es)=.sl es:=_root_.id rfl
@[simp] theorem Ot {m es} : dL m (.sl es)=.sl es:=_root_.id rfl
@[simp] theorem N5 {p i0 o ds} : ldc p i0 o (.ptr ds)=.ptr ds:=_root_.id rfl
@[simp] theorem IY {m ds} : dL m (.ptr ds)=.ptr ds:=_root_.id rfl
@[simp] theorem Qp {p i0 o g ds} : ldc p i0 o (.fn g ds)=.fn g ds:=_root_.id rfl
@[simp] theorem Oo {m g ds} : dL m (.fn g ds)=.fn g ds:=_root_.id rfl
@[simp] theorem N4 {c i o sz es} : ldc (.r c) i o (.own sz es)=.ref (.n c i o) 0 es.length:=_root_.id rfl
@[simp] theorem IX {m sz es} : dL m (.own sz es)=.own sz es:=_root_.id rfl
@[simp] theorem NX {p i0 o sz es} : ldc p i0 o (.blk sz es)=.blk sz es:=_root_.id rfl
@[simp] theorem IQ {m sz es} : dL m (.blk sz es)=.blk sz es:=_root_.id rfl
@[simp] theorem Qq {p i0 o kt et ks vs} : ldc p i0 o (.mp kt et ks vs)=.mp kt et ks vs:=_root_.id rfl
@[simp] theorem Oq {m kt et ks vs} : dL m (.mp kt et ks vs)=.mp kt et ks vs:=_root_.id rfl
@[simp] theorem N3 {p i0 o b} : ldc p i0 o (.mrf b)=.mrf b:=_root_.id rfl
@[simp] theorem IW {m b} : dL m (.mrf b)=.mrf b:=_root_.id rfl
@[simp] theorem N7 {p i0 o q k n} : ldc p i0 o (.ref q k n)=.ref q k n:=_root_.id rfl
@[simp] theorem I0 {m q k n} : dL m (.ref q k n)=.ref q k n:=_root_.id rfl
@[simp] theorem NT {p i0 o q i off} : ldc p i0 o (.adr q i off)=.adr q i off:=_root_.id rfl
@[simp] theorem IL {m q i off} : dL m (.adr q i off)=.adr q i off:=_root_.id rfl
@[simp] theorem NV {p i0 o ds} : ldc p i0 o (.agx ds)=.agx ds:=_root_.id rfl
@[simp] theorem zio {m ds} : dL m (.agx ds)=.agx ds:=_root_.id rfl
@[simp] theorem Oc {p i0 o ds} : ldc p i0 o (.tpx ds)=.tpx ds:=_root_.id rfl
@[simp] theorem Ja {m ds} : dL m (.tpx ds)=.tpx ds:=_root_.id rfl
@[simp] theorem N6 {p i0 o ds} : ldc p i0 o (.ptx ds)=.ptx ds:=_root_.id rfl
@[simp] theorem N8 {p i0 o n sz ds} : ldc p i0 o (.rfx n sz ds)=.rfx n sz ds:=_root_.id rfl
@[simp] theorem IZ {m ds} : dL m (.ptx ds)=.ptx ds:=_root_.id rfl
@[simp] theorem I7 {m n sz ds} : dL m (.rfx n sz ds)=.rfx n sz ds:=_root_.id rfl
@[simp] theorem NY {p i0 o g ds} : ldc p i0 o (.fnx g ds)=.fnx g ds:=_root_.id rfl
@[simp] theorem N0 {p0 i0 o T p i off} : ldc p0 i0 o (.ifa T p i off)=.ifa T p i off:=_root_.id rfl
@[simp] theorem N1 {p0 i0 o T n} : ldc p0 i0 o (.ifi T n)=.ifi T n:=_root_.id rfl
@[simp] theorem N9 {p0 i0 o k es} : ldc p0 i0 o (.slv k es)=.slv k es:=_root_.id rfl
@[simp] theorem NZ {p0 i0 o g ds cs} : ldc p0 i0 o (.fny g ds cs)=.fny g ds cs:=_root_.id rfl
@[simp] theorem IR {m g ds} : dL m (.fnx g ds)=.fnx g ds:=_root_.id rfl
@[simp] theorem IT {m T p i off} : dL m (.ifa T p i off)=.ifa T p i off:=_root_.id rfl
@[simp] theorem IU {m T n} : dL m (.ifi T n)=.ifi T n:=_root_.id rfl
@[simp] theorem I8 {m k es} : dL m (.slv k es)=.slv k es:=_root_.id rfl
@[simp] theorem IS {m g ds cs} : dL m (.fny g ds cs)=.fny g ds cs:=_root_.id rfl
@[simp] theorem Eb {m} : dL m .nils=if m=0 then .nils else .own m []:=_root_.id rfl
def slx (b : Bool) (es : List (List D)) : D:=match b,es with
 | true,[]=>.nils
 | _,es=>.sl es
@[simp] theorem cr {es} : slx false es=.sl es:=by cases es <;> rfl
@[simp] theorem JQ {b x es} : slx b (x::es)=.sl (x::es):=by cases b <;> rfl
theorem eF (b : Bool) (es : List (List D)) : slx b es=.sl es \/ (slx b es=.nils /\ es=[]):=by cases b <;> cases es <;> simp [slx]
@[simp] theorem NP {b es} : isV (slx b es)=true:=by cases b <;> cases es <;> rfl
@[simp] theorem Ml {b es} : isK (slx b es)=true:=by cases b <;> cases es <;> rfl
@[simp] theorem M7 {b es} : isP (slx b es)=true:=by cases b <;> cases es <;> rfl
@[simp] theorem Nu {b es} : isS (slx b es)=true:=by cases b <;> cases es <;> rfl
@[simp] theorem G0 {b es} : aw (slx b es)=true:=by cases b <;> cases es <;> rfl
@[simp] theorem MH {b es} : isO (slx b es)=false:=by cases b <;> cases es <;> rfl
@[simp] theorem Df {b es} : cq (slx b es)=false:=by cases b <;> cases es <;> rfl
@[simp] theorem Lp {b es} : isB (slx b es)=false:=by cases b <;> cases es <;> rfl
@[simp] theorem xI {b es} : cellsOf (slx b es)=[slx b es]:=by cases b <;> cases es <;> rfl
@[simp] theorem BI {b es} : bQ (slx b es)=slx b es:=by cases b <;> cases es <;> rfl
@[simp] theorem Cg {b es} : a6 (slx b es)=slx b es:=by cases b <;> cases es <;> rfl
@[simp] theorem yp {b es} : aB (slx b es)=[]:=by cases b <;> cases es <;> rfl
@[simp] theorem AE {b es} : bj (slx b es)=[]:=by cases b <;> cases es <;> rfl
@[simp] theorem KC {f : Nat -> D} {b es} : dp1 f (slx b es)=slx b es:=by cases b <;> cases es <;> rfl
@[simp] theorem PM {f : Nat -> D} {b es} : dp f (slx b es)=slx b es:=by cases b <;> cases es <;> rfl
@[simp] theorem CG {f : Nat -> D} {b es} : aK f (slx b es)=True:=by cases b <;> cases es <;> rfl
@[simp] theorem FY {f : Nat -> D} {b es} : br f (slx b es)=True:=by cases b <;> cases es <;> rfl
@[simp] theorem Oa {p i o b es} : ldc p i o (slx b es)=slx b es:=by cases b <;> cases es <;> rfl
def pJ (d : D) (K : Nat -> Prop) (_ : Tag K) : Prop:=match d with
 | .sl es=>K es.length
 | .nils=>K 0
 | .ref _ _ n=>K n
 | .rfx n _ _=>K n
 | _=>False
@[simp] theorem Is {n sz ds K u} : pJ (.rfx n sz ds) K u=K n:=_root_.id rfl
@[simp] theorem Oe {es K u} : pJ (.sl es) K u=K es.length:=_root_.id rfl
@[simp] theorem DT {K u} : pJ .nils K u=K 0:=_root_.id rfl
@[simp] theorem Ir {p k n K u} : pJ (.ref p k n) K u=K n:=_root_.id rfl
@[simp] theorem It {b es K u} : pJ (slx b es) K u=K es.length:=by cases b <;> cases es <;> rfl
@[simp] theorem Ew {n ds} : kN true n ds=.agg (ds.take n):=_root_.id rfl
@[simp] theorem AP {n ds} : kN false n ds=ds.headD .any:=_root_.id rfl
@[simp] theorem Ix {t} : ab [] t=.any:=rfl
def lk (b : Bool) (d : D) (r : Env) (t : Nat) : D:=match b with
 | true=>d
 | false=>ab r t
@[simp] theorem Og {d r t} : lk true d r t=d:=rfl
@[simp] theorem Iu {d r t} : lk false d r t=ab r t:=rfl
@[simp] theorem DU {s d r t} : ab ((s,d)::r) t=lk (s == t) d r t:=by
 by_cases h : s=t
 ·subst h;simp [ab]
 ·rw [show (s == t)=false by simp [h]];simp [ab,h]
@[simp] theorem Du {e} : oy [] e=[]:=_root_.id rfl
@[simp] theorem zY {t ts e} : oy (t::ts) e=(t,ab e t)::oy ts e:=_root_.id rfl
@[simp] theorem yB : kU []=[]:=_root_.id rfl
@[simp] theorem wm {t d r} : kU ((t,d)::r)=bj d++kU r:=_root_.id rfl
@[simp] theorem ET {e ks} : qO e [] ks=ks:=_root_.id rfl
@[simp] theorem Bq {e r rs ks} : qO e (r::rs) ks=qO e rs (if (ks.map (·.1)).contains r then ks else ks++[(r,ab e r)]):=_root_.id rfl
def fy (f : Nat -> D) (d : D) (ns : List Nat) (K : List D -> List Nat -> Prop) (_ : Tag K) : Prop:=eH f d ns K
def eY (f : Nat -> D) (d : D) (K : D -> List Nat -> Prop) (_ : Tag K) : Prop:=dl f d K
def nU (f : Nat -> D) (ds : List D) (K : List D -> List Nat -> Prop) (_ : Tag K) : Prop:=j9 f ds K
def sH (b n : Nat) (x : D) (K : D -> List Nat -> Prop) (_ : Tag K) : Prop:=match x with
 | .blk sz es=>es.length=n /\ (∀ e ∈ es,∀ c ∈ e,aw c=true) /\ K (.own sz es) [b]
 | _=>False
@[simp] theorem EJ {b n sz es K u} : sH b n (.blk sz es) K u=(es.length=n /\ (∀ e ∈ es,∀ c ∈ e,aw c=true) /\ K (.own sz es) [b]):=_root_.id rfl
theorem dF {f : Nat -> D} {d : D} {K : D -> List Nat -> Prop} {u} (h : aw d=true) : eY f d K u=K d []:=by
 cases d <;> simp [aw] at h <;> simp [eY,dl,aw]
@[simp] theorem Bj {f b k n K u} : eY f (.ref (.r b) k n) K u=(k=0 /\ sH b n (f b) K ⟨⟩):=by
 simp only [eY,dl,sH]
 cases f b <;> rfl
theorem ez {f : Nat -> D} {d : D} {K : List D -> List Nat -> Prop} {u} (h : aw d=true) : fy f d [] K u=K [d] []:=by
 cases d <;> simp [aw] at h <;> simp [fy,eH,dl,aw,ef]
@[simp] theorem EM {f ds K u} : fy f (.agg ds) [] K u=((∀ c ∈ ds,aw c=true) /\ K ds []):=by simp [fy,eH,ef]
@[simp] theorem EN {f ds K u} : fy f (.agx ds) [] K u=nU f ds (fun cs bs=>bJ bs=true /\ K cs bs) ⟨⟩:=by simp [fy,nU,eH,ef]
@[simp] theorem EQ {f b k n K u} : fy f (.ref (.r b) k n) [] K u=(k=0 /\ sH b n (f b) (fun c bs=>K [c] bs) ⟨⟩):=by
 simp only [fy,eH,dl,sH,ef,if_true,true_or,true_and]
 cases f b <;> rfl
@[simp] theorem Bm {f K u} : nU f [] K u=K [] []:=_root_.id rfl
@[simp] theorem yP {f d ds K u} : nU f (d::ds) K u=eY f d (fun c bs=>nU f ds (fun cs bs'=>K (c::cs) (bs++bs')) ⟨⟩) ⟨⟩:=_root_.id rfl
@[simp] theorem Bh {f k n K u} : eY f (.int k n) K u=K (.int k n) []:=dF rfl
@[simp] theorem EO {f k n K u} : fy f (.int k n) [] K u=K [.int k n] []:=ez rfl
@[simp] theorem yM {f n K u} : eY f (.bool n) K u=K (.bool n) []:=dF rfl
@[simp] theorem Bn {f n K u} : fy f (.bool n) [] K u=K [.bool n] []:=ez rfl
@[simp] theorem Bl {f n K u} : eY f (.str n) K u=K (.str n) []:=dF rfl
@[simp] theorem ES {f n K u} : fy f (.str n) [] K u=K [.str n] []:=ez rfl
@[simp] theorem yN {f  K u} : eY f .nilp K u=K .nilp []:=dF rfl
@[simp] theorem Bo {f  K u} : fy f .nilp [] K u=K [.nilp] []:=ez rfl
@[simp] theorem yO {f  K u} : eY f .nils K u=K .nils []:=dF rfl
@[simp] theorem Bp {f  K u} : fy f .nils [] K u=K [.nils] []:=ez rfl
@[simp] theorem EL {f n K u} : eY f (.sl n) K u=K (.sl n) []:=dF rfl
@[simp] theorem J6 {f n K u} : fy f (.sl n) [] K u=K [.sl n] []:=ez rfl
@[simp] theorem Bi {f n K u} : eY f (.ptr n) K u=K (.ptr n) []:=dF rfl
@[simp] theorem EP {f n K u} : fy f (.ptr n) [] K u=K [.ptr n] []:=ez rfl
@[simp] theorem EK {f g n K u} : eY f (.fn g n) K u=K (.fn g n) []:=dF rfl
@[simp] theorem J5 {f g n K u} : fy f (.fn g n) [] K u=K [.fn g n] []:=ez rfl
@[simp] theorem Bk {f b n K u} : eY f (slx b n) K u=K (slx b n) []:=dF (by simp)
@[simp] theorem ER {f b n K u} : fy f (slx b n) [] K u=K [slx b n] []:=ez (by simp)
def nH (f : Nat -> D) (sz : Nat) (ps : List (Nat × Opd)) (es : List (List D)) (bs : List Nat) (K : List (List D) -> List Nat -> Prop) (_ : Tag K) : Prop:=en f sz [] ps es bs K
@[simp] theorem AQ {f sz es bs K u} : nH f sz [] es bs K u=K es bs:=_root_.id rfl
@[simp] theorem yy {f sz i x ps es bs K u} : nH f sz ((i,x)::ps) es bs K u=(i < es.length /\ fy f (vd f x) [] (fun cs bs'=>cs.length=sz /\ nH f sz ps (es.set i cs) (bs++bs') K ⟨⟩) ⟨⟩):=_root_.id rfl
def gU (f : Nat -> D) (mv : Bool) (d : D) (sz : Nat) (K : List (List D) -> List Nat -> Prop) (_ : Tag K) : Prop:=ew f mv d sz K
def AY (b n sz : Nat) (x : D) (K : List (List D) -> List Nat -> Prop) (_ : Tag K) : Prop:=match x with
 | .blk sz' es=>sz'=sz /\ es.length=n /\ (∀ e ∈ es,∀ c ∈ e,isC c=true) /\ K es [b]
 | _=>False
@[simp] theorem JD {b n sz sz' es K u} : AY b n sz (.blk sz' es) K u=(sz'=sz /\ es.length=n /\ (∀ e ∈ es,∀ c ∈ e,isC c=true) /\ K es [b]):=_root_.id rfl
def AZ (k n sz : Nat) (x : Option (Nat × List (List D))) (K : List (List D) -> List Nat -> Prop) (_ : Tag K) : Prop:=match x with
 | some (sz',es)=>sz'=sz /\ k + n <= es.length /\ (∀ e ∈ (es.drop k).take n,∀ c ∈ e,aw c=true) /\ K ((es.drop k).take n) []
 | none=>False
@[simp] theorem Ez {k n sz sz' es K u} : AZ k n sz (some (sz',es)) K u=(sz'=sz /\ k + n <= es.length /\ (∀ e ∈ (es.drop k).take n,∀ c ∈ e,aw c=true) /\ K ((es.drop k).take n) []):=_root_.id rfl
@[simp] theorem A0 {f mv sz K u} : gU f mv .nils sz K u=K [] []:=_root_.id rfl
@[simp] theorem JK {f mv es sz K u} : gU f mv (.sl es) sz K u=((∀ e ∈ es,e.length=sz /\ ∀ c ∈ e,aw c=true) /\ K es []):=_root_.id rfl
@[simp] theorem ED {f mv b es sz K u} : gU f mv (slx b es) sz K u=((∀ e ∈ es,e.length=sz /\ ∀ c ∈ e,aw c=true) /\ K es []):=by
 rcases eF b es with h | ⟨h,rfl⟩ <;> rw [h] <;> simp
@[simp] theorem JJ {f b k n sz K u} : gU f true (.ref (.r b) k n) sz K u=(k=0 /\ AY b n sz (f b) K ⟨⟩):=by
 simp only [gU,ew,AY]
 cases f b <;> rfl
@[simp] theorem EC {f p k n sz K u} : gU f false (.ref p k n) sz K u=AZ k n sz (aR f p) K ⟨⟩:=by
 simp only [gU,ew,AZ]
 cases aR f p <;> rfl
def dc (f : Nat -> D) (o : Option Opd) (dflt : Nat) (K : Nat -> Prop) (_ : Tag K) : Prop:=dt f o dflt K
def Fa (d : D) (K : Nat -> Prop) (_ : Tag K) : Prop:=match d with
 | .int _ n=>0 <= n /\ K n.toNat
 | _=>False
@[simp] theorem Fb {k n K u} : Fa (.int k n) K u=(0 <= n /\ K n.toNat):=_root_.id rfl
@[simp] theorem xi {f n K u} : dc f none n K u=K n:=_root_.id rfl
@[simp] theorem xj {f x n K u} : dc f (some x) n K u=Fa (vd f x) K ⟨⟩:=_root_.id rfl
def fv (x : Option (List D)) (K : List D -> Prop) (_ : Tag K) : Prop:=match x with
 | some r=>K r
 | none=>False
@[simp] theorem EB {r K u} : fv (some r) K u=K r:=_root_.id rfl
@[simp] theorem EA {K u} : fv none K u=False:=_root_.id rfl
theorem eA {x : Option (List D)} {K : List D -> Prop} {u} : fv x K u=∃ r,x=some r /\ K r:=by
 cases x <;> simp [fv]
def iM (x : Option D) (K : Nat -> List (List D) -> Prop) (_ : Tag K) : Prop:=match x with
 | some (.own sz es)=>K sz es
 | _=>False
@[simp] theorem Ju {sz es K u} : iM (some (.own sz es)) K u=K sz es:=_root_.id rfl
theorem im {x : Option D} {K : Nat -> List (List D) -> Prop} {u} : iM x K u=∃ sz es,x=some (.own sz es) /\ K sz es:=by
 cases x with
 | none=>simp [iM]
 | some d =>
  cases d <;> simp [iM]
  exact ⟨fun h=>⟨_,_,⟨rfl,rfl⟩,h⟩,by rintro ⟨_,_,⟨rfl,rfl⟩,h⟩;exact h⟩
def vc (x : Option D) (K : D -> Prop) (_ : Tag K) : Prop:=match x with
 | some d=>K d
 | none=>False
@[simp] theorem BX {d K u} : vc (some d) K u=K d:=_root_.id rfl
theorem ve {x : Option D} {K : D -> Prop} {u} : vc x K u=∃ d,x=some d /\ K d:=by
 cases x <;> simp [vc]
def cM (x : D) (K : Nat -> List (List D) -> Prop) (_ : Tag K) : Prop:=match x with
 | .blk sz es=>K sz es
 | _=>False
@[simp] theorem E9 {sz es K u} : cM (.blk sz es) K u=K sz es:=_root_.id rfl
abbrev CC:=Nat -> List D -> D -> List D -> Prop
abbrev KT:=List (Nat × D) -> List (Nat × Bool) -> Prop
section
variable {C : CC} {Q : ct -> Env -> Prop} {e e' : Env} {d : D}
def wN (C : CC) (c : dE) (Q : ct -> Env -> Prop) (_ : Tag (c,Q)) (e : Env) : Prop:=wpN C c Q e
def x6 (C : CC) (c : dE) (Q : ct -> Env -> Prop) (_ : Tag (c,Q)) (e : Env) : Prop:=wpN C (.loop c) Q e
def rK (C : CC) (K : Env -> Prop) (ns : List aq) (_ : Tag (K,ns)) (e : Env) : Prop:=iA C K ns e
def pP (C : CC) (hs : List Nat) (K : Env -> Prop) (ns : List aq) (_ : Tag (K,ns)) (e : Env) (acc : List (List Nat × List Nat)) : Prop:=j6 C hs K ns e acc
def GB (hs : List Nat) (acc : List (List Nat × List Nat)) : Prop:=i6 hs acc.reverse=true
theorem al {hs : List Nat} {acc : List (List Nat × List Nat)} (h : i6 hs acc.reverse=true) : GB hs acc:=h
def xQ (C : CC) (K : Env -> Prop) (ns : List aq) (e : Env) : KT:=fun ws ks=>iA C K ns (ws++dA ks e)
def Ft (C : CC) (hs : List Nat) (K : Env -> Prop) (ns : List aq) (e : Env) (R : List Nat) (acc : List (List Nat × List Nat)) : KT:=fun ws ks=>wOk R ws ks=true /\ j6 C hs K ns (ws++dA ks e) ((R,wrK ws ks)::acc)
def doT (C : CC) (K : Env -> Prop) (ns : List aq) (_ : Tag (K,ns)) (e : Env) (ws : List (Nat × D)) (ks : List (Nat × Bool)) : Prop:=iA C K ns (ws++dA ks e)
def bS (Q : ct -> Env -> Prop) (_ : Tag Q) (t : ct) (e : Env) : Prop:=Q t e
def fin (res : List (Nat × Option (Nat × Bool))) (d : D) : ct -> Env -> Prop:=fun t e=>(match t with
   | .ext _=>False
   | _=>True) /\ eu res d e
def wz (C : CC) (y : dE) (Q : ct -> Env -> Prop) : ct -> Env -> Prop:=fun t e'=>match t with
  | .nrm=>wpN C y Q e'
  | t=>Q t e'
def ne (id : Nat) (Q : ct -> Env -> Prop) : ct -> Env -> Prop:=fun t e'=>match t with
  | .ext i=>if i=id then Q .nrm e' else Q (.ext i) e'
  | t=>Q t e'
def wk (keep : List Nat) (Q : ct -> Env -> Prop) : Env -> Prop:=fun e'=>Q .nrm (prune keep e')
def kOf (C : CC) (hs : Option (List Nat)) (K : Env -> Prop) (ns : List aq) (e : Env) (R : List Nat) (acc : List (List Nat × List Nat)) : KT :=
 match hs with
 | none=>xQ C K ns e
 | some hs=>Ft C hs K ns e R acc
def doW (C : CC) (hs : Option (List Nat)) (K : Env -> Prop) (ns : List aq) (_ : Tag (hs,K,ns)) (e : Env) (R : List Nat) (acc : List (List Nat × List Nat)) (ws : List (Nat × D)) (ks : List (Nat × Bool)) : Prop:=kOf C hs K ns e R acc ws ks
def opW (C : CC) (hs : Option (List Nat)) (K : Env -> Prop) (ns : List aq) (dst : Option Nat) (op : NOp) (_ : Tag (hs,K,ns,dst,op)) (e : Env) (R : List Nat) (acc : List (List Nat × List Nat)) : Prop:=au C (ab e) dst (kOf C hs K ns e R acc) op
def dW (C : CC) (hs : Option (List Nat)) (K : Env -> Prop) (ns : List aq) (dst : Option Nat) (_ : Tag (hs,K,ns)) (e : Env) (R : List Nat) (acc : List (List Nat × List Nat)) (d : D) : Prop:=cO dst (kOf C hs K ns e R acc) d
def n5 (C : CC) (g : Nat) (hs : Option (List Nat)) (K : Env -> Prop) (ns : List aq) (dst : Option Nat) (_ : Tag (hs,K,ns)) (e : Env) (R : List Nat) (acc : List (List Nat × List Nat)) (pure : Bool) (ds : List D) : Prop :=
 ∃ d,C g ds d [] /\ (isF d=true \/ pure=true) /\ cO dst (kOf C hs K ns e R acc) d
theorem aT {prog : Nat -> Option aS} (hC : aI prog C) {g : Nat} {nf : aS} {ds : List D} (hp : prog g=some nf) (hl : ds.length=nf.np) (h : wN C nf.body (fin nf.res d) ⟨⟩ (params 0 ds)) : C g ds d []:=hC.1.1 g nf ds d hp hl h
def pm (res : List (Nat × Option (Nat × Bool))) (sz : Nat) (es : List (List D)) : ct -> Env -> Prop:=fun t e=>(match t with
   | .ext _=>False
   | _=>True) /\ iP res sz es e
theorem l7 {prog : Nat -> Option aS} (hC : aI prog C) {g : Nat} {nf : aS} {ds : List D} {sz : Nat} {es : List (List D)} (hp : prog g=some nf) (hl : ds.length=nf.np) (h : wN C nf.body (pm nf.res sz es) ⟨⟩ (params 0 ds)) : C g ds .any [.own sz es]:=hC.1.2.2.1 g nf ds sz es hp hl h
def rk (res : List (Nat × Option (Nat × Bool))) (d : D) : ct -> Env -> Prop:=fun t e=>(match t with
   | .ext _=>False
   | _=>True) /\ iO res d e
def pp (res : List (Nat × Option (Nat × Bool))) (d : D) (sz : Nat) (es' : List (List D)) : ct -> Env -> Prop:=fun t e=>(match t with
   | .ext _=>False
   | _=>True) /\ (0 < es'.length /\ ab e 10015=.blk sz es') /\ eu res d ((10015,.any)::e)
theorem eT {prog : Nat -> Option aS} (hC : fU prog C) {g : Nat} {nf : aS} {W : List D} {d : D} {sz : Nat} {es es' : List (List D)} (hp : prog g=some nf) (hl : W.length=nf.np) (h : wN C nf.body (pp nf.res d sz es') ⟨⟩ (params 0 W++[(10015,.blk sz es)])) : C g (.blk sz es::W) d [.blk sz es',.nilp]:=hC.2.2.2.2.2.1 g nf W d sz es es' hp hl h
def rl (res : List (Nat × Option (Nat × Bool))) (sz : Nat) (es : List (List D)) : ct -> Env -> Prop:=fun t e=>(match t with
   | .ext _=>False
   | _=>True) /\ iQ res sz es e
def rj (res : List (Nat × Option (Nat × Bool))) (R : D) : ct -> Env -> Prop:=fun t e=>(match t with
   | .ext _=>False
   | _=>True) /\ oS res R e
def yU (C : CC) (g : Nat) (hs : Option (List Nat)) (K : Env -> Prop) (ns : List aq) (t : Nat) (_ : Tag (hs,K,ns)) (e : Env) (R : List Nat) (acc : List (List Nat × List Nat)) (ds : List D) : Prop :=
 (∃ d,C g ds d [] /\ cO (some t) (kOf C hs K ns e R acc) d) \/ ∃ d,okR d=true /\ C g ds d [.nils] /\ kOf C hs K ns e R acc ((t,dJ t d)::aO t d) (dz t d)
def yV (C : CC) (g : Nat) (hs : Option (List Nat)) (K : Env -> Prop) (ns : List aq) (dst : Option Nat) (_ : Tag (hs,K,ns)) (e : Env) (R : List Nat) (acc : List (List Nat × List Nat)) (ds : List D) : Prop :=
 ∃ d,C g ds d [.nilp] /\ cO dst (kOf C hs K ns e R acc) d
def sM (C : CC) (g : Nat) (hs : Option (List Nat)) (K : Env -> Prop) (ns : List aq) (t : Nat) (_ : Tag (hs,K,ns)) (e : Env) (R : List Nat) (acc : List (List Nat × List Nat)) (ds : List D) : Prop :=
 ∃ sz es,C g ds .any [.own sz es] /\ kOf C hs K ns e R acc [(t,.ref (.r (rt t 0)) 0 es.length),(rt t 0,.blk sz es)] [(rt t 0,true)]
theorem jF {g : Nat} {hs : Option (List Nat)} {K : Env -> Prop} {ns : List aq} {t : Nat} {u : Tag (hs,K,ns)} {R : List Nat} {acc : List (List Nat × List Nat)} {ds : List D} {sz : Nat} {es : List (List D)} (h : C g ds .any [.own sz es]) (hk : doW C hs K ns ⟨⟩ e R acc [(t,.ref (.r (rt t 0)) 0 es.length),(rt t 0,.blk sz es)] [(rt t 0,true)]) : sM C g hs K ns t u e R acc ds:=⟨sz,es,h,hk⟩
def sN (C : CC) (g : Nat) (hs : Option (List Nat)) (K : Env -> Prop) (ns : List aq) (dst : Option Nat) (_ : Tag (hs,K,ns)) (e : Env) (R : List Nat) (acc : List (List Nat × List Nat)) (b sz : Nat) (es : List (List D)) (ds : List D) (p : Bool) : Prop:=match dst with
 | none=>∃ es' : List (List D),es'.length=es.length /\ (∀ e ∈ es',e.length=sz /\ ∀ c ∈ e,aw c=true) /\ (p=true \/ ∀ e ∈ es',∀ c ∈ e,aW c=true) /\ C g (.own sz es::ds) .any [.own sz es',.nilp] /\ doW C hs K ns ⟨⟩ e R acc [(b,.blk sz es')] []
 | some t=>(∃ es' : List (List D),es'.length=es.length /\ (∀ e ∈ es',e.length=sz /\ ∀ c ∈ e,aw c=true) /\ (p=true \/ ∀ e ∈ es',∀ c ∈ e,aW c=true) /\ C g (.own sz es::ds) .any [.own sz es',.nilp] /\ doW C hs K ns ⟨⟩ e R acc [(t,.tup []),(b,.blk sz es')] []) \/ (b ≠ rt t 0 /\ 0 < sz /\ ∃ es' : List (List D),(∀ e ∈ es',e.length=sz /\ ∀ c ∈ e,aw c=true) /\ (p=true \/ ∀ e ∈ es',∀ c ∈ e,aW c=true) /\ C g (.own sz es::ds) .any [.own sz es',.nils] /\ doW C hs K ns ⟨⟩ e R acc [(t,.ref (.r (rt t 0)) 0 es'.length),(rt t 0,.blk sz es'),(b,.any)] [(rt t 0,true)])
def Ba (C : CC) (g : Nat) (hs : Option (List Nat)) (K : Env -> Prop) (ns : List aq) (dst : Option Nat) (_ : Tag (hs,K,ns)) (e : Env) (R : List Nat) (acc : List (List Nat × List Nat)) (b n : Nat) (xs : List Opd) (d : D) : Prop:=match d with
 | .blk sz es=>es.length=n /\ (∀ e ∈ es,∀ c ∈ e,aw c=true) /\ (∀ x ∈ xs,br (fbE (ab e) b) (vd (fbE (ab e) b) x)) /\ sN C g hs K ns dst ⟨⟩ e R acc b sz es (xs.map (dpv (fbE (ab e) b))) (xs.all fun y=>isV (vd (fbE (ab e) b) y))
 | _=>False
def JT (C : CC) (g : Nat) (hs : Option (List Nat)) (K : Env -> Prop) (ns : List aq) (dst : Option Nat) (_ : Tag (hs,K,ns)) (e : Env) (R : List Nat) (acc : List (List Nat × List Nat)) (xs : List Opd) (d : D) : Prop:=match d with
 | .ref (.r b) k n=>k=0 /\ Ba C g hs K ns dst ⟨⟩ e R acc b n xs (ab e b)
 | _=>False
@[simp] theorem PS {f : Nat -> D} {b t : Nat} : fbE f b t=if t=b then .any else f t:=_root_.id rfl
theorem aa {g : Nat} {hs : Option (List Nat)} {K : Env -> Prop} {ns : List aq} {dst : Option Nat} {u : Tag (hs,K,ns)} {R : List Nat} {acc : List (List Nat × List Nat)} {p : Bool} {ds : List D} (h : C g ds d []) (hf : isF d=true \/ p=true) (hk : dW C hs K ns dst ⟨⟩ e R acc d) : n5 C g hs K ns dst u e R acc p ds:=⟨d,h,hf,hk⟩
def nM (S : Type) (G : S -> Env) (I : S -> Prop) (m : S -> Nat) (s : S) (Q : ct -> Env -> Prop) : ct -> Env -> Prop:=fun t e'=>match t with
    | .nrm=>∃ s',I s' /\ m s' < m s /\ jy e' (G s')
    | t=>Q t e'
theorem ay {c : dE} {u : Tag (c,Q)} (S : Type) (G : S -> Env) (I : S -> Prop) (m : S -> Nat) (s0 : S) (h0 : I s0) (hw : jy e (G s0))
  (h : ∀ s,I s -> wN C c (nM S G I m s Q) ⟨⟩ (G s)) : x6 C c Q u e:=⟨S,G,I,m,s0,h0,hw,h⟩
@[simp] theorem Pg {u} : wN C .skip Q u e=bS Q ⟨⟩ .nrm e:=_root_.id rfl
@[simp] theorem QO {hs keep ops u} : wN C (.reg false hs keep ops) Q u e=rK C (wk keep Q) ops ⟨⟩ e:=_root_.id rfl
@[simp] theorem Pd {hs keep ops u} : wN C (.reg true hs keep ops) Q u e=pP C hs (wk keep Q) ops ⟨⟩ e []:=_root_.id rfl
@[simp] theorem QQ {x y u} : wN C (.seq x y) Q u e=wN C x (wz C y Q) ⟨⟩ e:=_root_.id rfl
def brB (b : Bool) (X Y : Prop) (_ : Tag (X,Y)) : Prop:=(b=true -> X) /\ (b=false -> Y)
theorem am {b : Bool} {X Y : Prop} {u} (h1 : b=true -> X) (h2 : b=false -> Y) : brB b X Y u:=⟨h1,h2⟩
@[simp] theorem Fi {X Y : Prop} {u} : brB true X Y u=X:=by simp [brB]
@[simp] theorem BW {X Y : Prop} {u} : brB false X Y u=Y:=by simp [brB]
def cdW (C : CC) (x y : dE) (Q : ct -> Env -> Prop) (_ : Tag (x,y,Q)) (e : Env) (d : D) : Prop:=match d with
 | .bool b=>brB b (wN C x Q ⟨⟩ e) (wN C y Q ⟨⟩ e) ⟨⟩
 | .bb=>wN C x Q ⟨⟩ e /\ wN C y Q ⟨⟩ e
 | _=>False
@[simp] theorem Pl {x y u} : cdW C x y Q u e .bb=(wN C x Q ⟨⟩ e /\ wN C y Q ⟨⟩ e):=_root_.id rfl
@[simp] theorem Fj {x y u b} : cdW C x y Q u e (.bool b)=brB b (wN C x Q ⟨⟩ e) (wN C y Q ⟨⟩ e) ⟨⟩:=_root_.id rfl
@[simp] theorem Pc {c x y u} : wN C (.cond c x y) Q u e=cdW C x y Q ⟨⟩ e (vd (ab e) c):=_root_.id rfl
@[simp] theorem JY {id c u} : wN C (.block id c) Q u e=wN C c (ne id Q) ⟨⟩ e:=_root_.id rfl
@[simp] theorem Pf {c u} : wN C (.loop c) Q u e=x6 C c Q ⟨⟩ e:=_root_.id rfl
@[simp] theorem Pe {id u} : wN C (.exit id) Q u e=bS Q ⟨⟩ (.ext id) e:=_root_.id rfl
@[simp] theorem QP {u} : wN C .ret Q u e=bS Q ⟨⟩ .ret e:=_root_.id rfl
@[simp] theorem vC {y u} : bS (wz C y Q) u .nrm e=wN C y Q ⟨⟩ e:=_root_.id rfl
@[simp] theorem vB {y u i} : bS (wz C y Q) u (.ext i) e=bS Q ⟨⟩ (.ext i) e:=_root_.id rfl
@[simp] theorem vD {y u} : bS (wz C y Q) u .ret e=bS Q ⟨⟩ .ret e:=_root_.id rfl
@[simp] theorem s7 {id u} : bS (ne id Q) u .nrm e=bS Q ⟨⟩ .nrm e:=_root_.id rfl
@[simp] theorem s6 {id u i} : bS (ne id Q) u (.ext i) e=if i=id then bS Q ⟨⟩ .nrm e else bS Q ⟨⟩ (.ext i) e:=_root_.id rfl
@[simp] theorem s8 {id u} : bS (ne id Q) u .ret e=bS Q ⟨⟩ .ret e:=_root_.id rfl
@[simp] theorem vr {r u} : bS (fin r d) u .nrm e=eu r d e:=by simp [bS,fin]
@[simp] theorem vt {r u} : bS (fin r d) u .ret e=eu r d e:=by simp [bS,fin]
@[simp] theorem uU {r d} {u : Tag (rk r d)} : bS (rk r d) u .nrm e=iO r d e:=by simp [bS,rk]
@[simp] theorem uV {r d} {u : Tag (rk r d)} : bS (rk r d) u .ret e=iO r d e:=by simp [bS,rk]
@[simp] theorem uS {r sz es} {u : Tag (pm r sz es)} : bS (pm r sz es) u .nrm e=iP r sz es e:=by simp [bS,pm]
@[simp] theorem uT {r sz es} {u : Tag (pm r sz es)} : bS (pm r sz es) u .ret e=iP r sz es e:=by simp [bS,pm]
@[simp] theorem uY {r d sz es} {u : Tag (pp r d sz es)} : bS (pp r d sz es) u .nrm e=((0 < es.length /\ ab e 10015=.blk sz es) /\ eu r d ((10015,.any)::e)):=by simp [bS,pp]
@[simp] theorem uZ {r d sz es} {u : Tag (pp r d sz es)} : bS (pp r d sz es) u .ret e=((0 < es.length /\ ab e 10015=.blk sz es) /\ eu r d ((10015,.any)::e)):=by simp [bS,pp]
@[simp] theorem uW {r sz es} {u : Tag (rl r sz es)} : bS (rl r sz es) u .nrm e=iQ r sz es e:=by simp [bS,rl]
@[simp] theorem uX {r sz es} {u : Tag (rl r sz es)} : bS (rl r sz es) u .ret e=iQ r sz es e:=by simp [bS,rl]
@[simp] theorem uQ {r d} {u : Tag (rj r d)} : bS (rj r d) u .nrm e=oS r d e:=by simp [bS,rj]
@[simp] theorem uR {r d} {u : Tag (rj r d)} : bS (rj r d) u .ret e=oS r d e:=by simp [bS,rj]
@[simp] theorem ta {S G I m s u} : bS (nM S G I m s Q) u .nrm e=∃ s',I s' /\ m s' < m s /\ jy e (G s'):=_root_.id rfl
@[simp] theorem s9 {S G I m s u i} : bS (nM S G I m s Q) u (.ext i) e=bS Q ⟨⟩ (.ext i) e:=_root_.id rfl
@[simp] theorem tb {S G I m s u} : bS (nM S G I m s Q) u .ret e=bS Q ⟨⟩ .ret e:=_root_.id rfl
end
section
variable {C : CC} {Q : ct -> Env -> Prop} {e : Env} {K : Env -> Prop} {dst : Option Nat} {d : D} {hs : Option (List Nat)} {ns : List aq} {R : List Nat} {acc : List (List Nat × List Nat)} {u : Tag (hs,K,ns)}
@[simp] theorem Js {keep u} : rK C (wk keep Q) [] u e=bS Q ⟨⟩ .nrm (prune keep e):=_root_.id rfl
@[simp] theorem Jr {h keep u} : pP C h (wk keep Q) [] u e acc=(GB h acc /\ bS Q ⟨⟩ .nrm (prune keep e)):=_root_.id rfl
@[simp] theorem Es {dst op ns u} : rK C K (⟨dst,op,none⟩::ns) u e=opW C none K ns dst op ⟨⟩ e [] []:=_root_.id rfl
@[simp] theorem Ep {h dst op ns u} : pP C h K (⟨dst,op,none⟩::ns) u e acc=(chk (ab e) ⟨dst,op,none⟩=true /\ opW C (some h) K ns dst op ⟨⟩ e (gD (ab e) ⟨dst,op,none⟩) acc):=_root_.id rfl
def lY (C : CC) (h : List Nat) (K : Env -> Prop) (ns : List aq) (_ : Tag (h,K,ns)) (e : Env) (dst : Option Nat) (R : List Nat) (acc : List (List Nat × List Nat)) : Prop:=iB e dst fun e'=>j6 C h K ns e' ((R,rf dst)::acc)
@[simp] theorem A3 {h t ns u} : lY C h K ns u e (some t) R acc=pP C h K ns ⟨⟩ ((t,.tup [])::e) ((R,[4 * t])::acc):=_root_.id rfl
@[simp] theorem A1 {h ns u} : lY C h K ns u e none R acc=pP C h K ns ⟨⟩ e ((R,[])::acc):=_root_.id rfl
def gdT (C : CC) (K : Env -> Prop) (ns : List aq) (dst : Option Nat) (op : NOp) (s : Nat) (want : Bool) (_ : Tag (K,ns)) (e : Env) (d : D) : Prop:=match d with
 | .bool b=>(b=want -> opW C none K ns dst op ⟨⟩ ((s,.bool want)::e) [] []) /\ (b=!want -> dW C none K ns dst ⟨⟩ ((s,.bool !want)::e) [] [] (.tup []))
 | .tup []=>dW C none K ns dst ⟨⟩ e [] [] (.tup [])
 | _=>False
@[simp] theorem Gh {op s b u} : gdT C K ns dst op s true u e (.bool b)=brB b (opW C none K ns dst op ⟨⟩ ((s,.bool true)::e) [] []) (dW C none K ns dst ⟨⟩ ((s,.bool false)::e) [] [] (.tup [])) ⟨⟩:=_root_.id rfl
@[simp] theorem CS {op s b u} : gdT C K ns dst op s false u e (.bool b)=brB b (dW C none K ns dst ⟨⟩ ((s,.bool true)::e) [] [] (.tup [])) (opW C none K ns dst op ⟨⟩ ((s,.bool false)::e) [] []) ⟨⟩:=by
 simp only [gdT,brB,Bool.not_false];exact propext ⟨fun h=>⟨h.2,h.1⟩,fun h=>⟨h.2,h.1⟩⟩
@[simp] theorem Gg {op s want u} : gdT C K ns dst op s want u e (.tup [])=dW C none K ns dst ⟨⟩ e [] [] (.tup []):=_root_.id rfl
@[simp] theorem Et {dst op s want ns u} : rK C K (⟨dst,op,some (s,want)⟩::ns) u e=gdT C K ns dst op s want ⟨⟩ e (ab e s):=by
 simp only [rK,iA,opW,o7,iB,gdT,dW,cO,kOf,xQ,dA]
 cases ab e s <;> cases dst <;> (first | rfl | (rename_i x _ ;cases x <;> rfl) | (rename_i x;cases x <;> rfl))
def gdD (C : CC) (h : List Nat) (K : Env -> Prop) (ns : List aq) (dst : Option Nat) (op : NOp) (want : Bool) (_ : Tag (K,ns)) (e : Env) (R : List Nat) (acc : List (List Nat × List Nat)) (d : D) : Prop:=match d with
 | .bool b=>(b=want -> opW C (some h) K ns dst op ⟨⟩ e R acc) /\ (b=!want -> lY C h K ns ⟨⟩ e dst R acc)
 | .tup []=>lY C h K ns ⟨⟩ e dst R acc
 | _=>False
@[simp] theorem Gf {h op b u} : gdD C h K ns dst op true u e R acc (.bool b)=brB b (opW C (some h) K ns dst op ⟨⟩ e R acc) (lY C h K ns ⟨⟩ e dst R acc) ⟨⟩:=_root_.id rfl
@[simp] theorem CR {h op b u} : gdD C h K ns dst op false u e R acc (.bool b)=brB b (lY C h K ns ⟨⟩ e dst R acc) (opW C (some h) K ns dst op ⟨⟩ e R acc) ⟨⟩:=by
 simp only [gdD,brB,Bool.not_false];exact propext ⟨fun h=>⟨h.2,h.1⟩,fun h=>⟨h.2,h.1⟩⟩
@[simp] theorem Ge {h op want u} : gdD C h K ns dst op want u e R acc (.tup [])=lY C h K ns ⟨⟩ e dst R acc:=_root_.id rfl
@[simp] theorem Er {h dst op s want ns u} : pP C h K (⟨dst,op,some (s,want)⟩::ns) u e acc=(chk (ab e) ⟨dst,op,some (s,want)⟩=true /\ gdD C h K ns dst op want ⟨⟩ e (gD (ab e) ⟨dst,op,some (s,want)⟩) acc (ab e s)):=_root_.id rfl
@[simp] theorem FA {K ns u ws ks} : doW C none K ns u e R acc ws ks=rK C K ns ⟨⟩ (ws++dA ks e):=_root_.id rfl
@[simp] theorem Fz {h K ns u ws ks} : doW C (some h) K ns u e R acc ws ks=(wOk R ws ks=true /\ pP C h K ns ⟨⟩ (ws++dA ks e) ((R,wrK ws ks)::acc)):=_root_.id rfl
@[simp] theorem Kk {t} : dW C hs K ns (some t) u e R acc d=doW C hs K ns ⟨⟩ e R acc [(t,d)] []:=_root_.id rfl
@[simp] theorem Kj : dW C hs K ns none u e R acc d=doW C hs K ns ⟨⟩ e R acc [] []:=_root_.id rfl
def aM (ks : List (Nat × Bool)) (d : D) : D:=if az ks d then .any else d
theorem bH (ks : List (Nat × Bool)) (d : D) : aM ks d=bif az ks d then .any else d:=by
 unfold aM;cases az ks d <;> rfl
@[simp] theorem DS : dA [] e=e:=_root_.id rfl
@[simp] theorem DR {k ks} : dA (k::ks) []=[]:=_root_.id rfl
@[simp] theorem Ab {k ks s d} : dA (k::ks) ((s,d)::e)=(s,aM (k::ks) d)::dA (k::ks) e:=_root_.id rfl
@[simp] theorem Dz {ks} : aM ks .any=.any:=by simp [aM]
@[simp] theorem DF {ks k n} : aM ks (.int k n)=.int k n:=by simp [aM,az,cB,aA]
@[simp] theorem z7 {ks n} : aM ks (.bool n)=.bool n:=by simp [aM,az,cB,aA]
@[simp] theorem DO {ks n} : aM ks (.str n)=.str n:=by simp [aM,az,cB,aA]
@[simp] theorem Ib {ks} : aM ks .bb=.bb:=by simp [aM,az,cB,aA]
@[simp] theorem z8 {ks} : aM ks .nilp=.nilp:=by simp [aM,az,cB,aA]
@[simp] theorem Aa {ks} : aM ks .nils=.nils:=by simp [aM,az,cB,aA]
@[simp] theorem Dx {ks n} : aM ks (.agg n)=.agg n:=by simp [aM,az,cB,aA]
@[simp] theorem DQ {ks n} : aM ks (.tup n)=.tup n:=by simp [aM,az,cB,aA]
@[simp] theorem Ie {ks n} : aM ks (.sl n)=.sl n:=by simp [aM,az,cB,aA]
@[simp] theorem DI {ks n} : aM ks (.ptr n)=.ptr n:=by simp [aM,az,cB,aA]
@[simp] theorem Ic {ks g n} : aM ks (.fn g n)=.fn g n:=by simp [aM,az,cB,aA]
@[simp] theorem DA {ks g n} : aM ks (.blk g n)=.blk g n:=by simp [aM,az,cB,aA]
@[simp] theorem Id {ks kt et xs vs} : aM ks (.mp kt et xs vs)=.mp kt et xs vs:=by simp [aM,az,cB,aA]
@[simp] theorem DK {b all ks p k n} : aM ((b,all)::ks) (.ref p k n)=if bl b all p then .any else aM ks (.ref p k n):=by
 have h : aM ((b,all)::ks) (.ref p k n)=bif (bl b all p || az ks (.ref p k n)) then .any else .ref p k n:=bH ..
 rw [h,bH]
 cases bl b all p <;> rfl
@[simp] theorem Dw {b all ks p k n} : aM ((b,all)::ks) (.adr p k n)=if bl b all p then .any else aM ks (.adr p k n):=by
 have h : aM ((b,all)::ks) (.adr p k n)=bif (bl b all p || az ks (.adr p k n)) then .any else .adr p k n:=bH ..
 rw [h,bH]
 cases bl b all p <;> rfl
@[simp] theorem Dy {b all ks n} : aM ((b,all)::ks) (.agx n)=if n.any (aA b all) then .any else aM ks (.agx n):=by
 have h : aM ((b,all)::ks) (.agx n)=bif (n.any (aA b all) || az ks (.agx n)) then .any else .agx n:=bH ..
 rw [h,bH]
 cases n.any (aA b all) <;> rfl
@[simp] theorem DB {b all ks g n} : aM ((b,all)::ks) (.fnx g n)=if n.any (aA b all) then .any else aM ks (.fnx g n):=by
 have h : aM ((b,all)::ks) (.fnx g n)=bif (n.any (aA b all) || az ks (.fnx g n)) then .any else .fnx g n:=bH ..
 rw [h,bH]
 cases n.any (aA b all) <;> rfl
@[simp] theorem DE {ks T n} : aM ks (.ifi T n)=.ifi T n:=by simp [aM,az,cB,aA]
@[simp] theorem DM {ks q n} : aM ks (.slv q n)=.slv q n:=by simp [aM,az,cB,aA]
@[simp] theorem DD {b all ks T p k n} : aM ((b,all)::ks) (.ifa T p k n)=if bl b all p then .any else aM ks (.ifa T p k n):=by
 have h : aM ((b,all)::ks) (.ifa T p k n)=bif (bl b all p || az ks (.ifa T p k n)) then .any else .ifa T p k n:=bH ..
 rw [h,bH]
 cases bl b all p <;> rfl
@[simp] theorem DC {b all ks g ds cs} : aM ((b,all)::ks) (.fny g ds cs)=if ds.any (aA b all) || cs.any (aA b all) then .any else aM ks (.fny g ds cs):=by
 have h : aM ((b,all)::ks) (.fny g ds cs)=bif ((ds.any (aA b all) || cs.any (aA b all)) || az ks (.fny g ds cs)) then .any else .fny g ds cs:=bH ..
 rw [h,bH]
 cases ds.any (aA b all) <;> cases cs.any (aA b all) <;> rfl
@[simp] theorem DH {d} : aM [] d=d:=by simp [aM,az]
@[simp] theorem DN {ks b es} : aM ks (slx b es)=slx b es:=by cases b <;> cases es <;> simp [slx]
def gj (C : CC) (hs : Option (List Nat)) (K : Env -> Prop) (ns : List aq) (dst : Option Nat) (_ : Tag (hs,K,ns)) (e : Env) (R : List Nat) (acc : List (List Nat × List Nat)) (sz : Nat) (es : List (List D)) (i : Nat) : Prop :=
 ∃ c,es[i]? = some c /\ c.length=sz /\ cO dst (kOf C hs K ns e R acc) (.ptr c)
@[simp] theorem Gz {α : Type} [Inhabited α] {sz : Nat} {xs : List α} {f : α -> List D} {i : Nat} : gj C hs K ns dst u e R acc sz (xs.map f) i=(i < xs.length /\ (f xs[i]!).length=sz /\ dW C hs K ns dst ⟨⟩ e R acc (.ptr (f xs[i]!))):=by
 apply propext
 unfold gj dW
 constructor
 ·rintro ⟨c,h,h1,h2⟩
  rw [List.getElem?_map,Option.map_eq_some_iff] at h
  obtain ⟨x,hx,rfl⟩:=h
  obtain ⟨hi,rfl⟩:=List.getElem?_eq_some_iff.1 hx
  rw [getElem!_pos xs i hi]
  exact ⟨hi,h1,h2⟩
 ·rintro ⟨hi,h1,h2⟩
  rw [getElem!_pos xs i hi] at h1 h2
  exact ⟨_,by rw [List.getElem?_map,List.getElem?_eq_getElem hi];rfl,h1,h2⟩
def yT (C : CC) (hs : Option (List Nat)) (K : Env -> Prop) (ns : List aq) (dst : Option Nat) (_ : Tag (hs,K,ns)) (e : Env) (R : List Nat) (acc : List (List Nat × List Nat)) (s : List UInt8) (i : Nat) : Prop :=
 ∃ b,s[i]? = some b /\ cO dst (kOf C hs K ns e R acc) (.int .u8 b.toNat)
@[simp] theorem Kf {s : List UInt8} {i : Nat} : yT C hs K ns dst u e R acc s i=(i < s.length /\ dW C hs K ns dst ⟨⟩ e R acc (.int .u8 (s[i]!).toNat)):=by
 apply propext
 unfold yT dW
 constructor
 ·rintro ⟨b,h,h2⟩
  obtain ⟨hi,rfl⟩:=List.getElem?_eq_some_iff.1 h
  rw [getElem!_pos s i hi]
  exact ⟨hi,h2⟩
 ·rintro ⟨hi,h2⟩
  rw [getElem!_pos s i hi] at h2
  exact ⟨_,List.getElem?_eq_getElem hi,h2⟩
def jZ (C : CC) (hs : Option (List Nat)) (K : Env -> Prop) (ns : List aq) (dst : Option Nat) (_ : Tag (hs,K,ns)) (e : Env) (R : List Nat) (acc : List (List Nat × List Nat)) (n : Nat) (ag : Bool) (p : Pa) (es : List (List D)) (i off : Nat) : Prop :=
 ∃ r,es[i]? = some r /\ off + n <= r.length /\ match ag with
    | true=>(((r.drop off).take n).all isV=true -> cO dst (kOf C hs K ns e R acc) (.agg ((r.drop off).take n))) /\
      (((r.drop off).take n).all isV=false -> cO dst (kOf C hs K ns e R acc) (.agx (((r.drop off).take n).mapIdx fun j c=>ldc p i (off + j) c)))
    | false=>cO dst (kOf C hs K ns e R acc) (ldc p i off ((r.drop off).headD .any))
theorem nN {n : Nat} {ag : Bool} {p : Pa} {es : List (List D)} {i off : Nat} {r : List D} (hr : es[i]? = some r) (hl : off + n <= r.length) (hk : match ag with
    | true=>(((r.drop off).take n).all isV=true -> dW C hs K ns dst ⟨⟩ e R acc (.agg ((r.drop off).take n))) /\
      (((r.drop off).take n).all isV=false -> dW C hs K ns dst ⟨⟩ e R acc (.agx (((r.drop off).take n).mapIdx fun j c=>ldc p i (off + j) c)))
    | false=>dW C hs K ns dst ⟨⟩ e R acc (ldc p i off ((r.drop off).headD .any))) : jZ C hs K ns dst u e R acc n ag p es i off:=by
 refine ⟨r,hr,hl,?_⟩
 cases ag <;> exact hk
@[simp] theorem JI {n : Nat} {ag : Bool} {p : Pa} {r : List D} {off : Nat} : jZ C hs K ns dst u e R acc n ag p [r] 0 off=(off + n <= r.length /\ match ag with
    | true=>(((r.drop off).take n).all isV=true -> dW C hs K ns dst ⟨⟩ e R acc (.agg ((r.drop off).take n))) /\
      (((r.drop off).take n).all isV=false -> dW C hs K ns dst ⟨⟩ e R acc (.agx (((r.drop off).take n).mapIdx fun j c=>ldc p 0 (off + j) c)))
    | false=>dW C hs K ns dst ⟨⟩ e R acc (ldc p 0 off ((r.drop off).headD .any))):=by
 apply propext
 constructor
 ·rintro ⟨r',h1,h2,h3⟩
  simp at h1;subst h1
  refine ⟨h2,?_⟩
  cases ag <;> exact h3
 ·rintro ⟨h2,h3⟩
  refine ⟨r,rfl,h2,?_⟩
  cases ag <;> exact h3
end
section
variable {C : CC} {Q : ct -> Env -> Prop} {e : Env} {K : Env -> Prop} {dst : Option Nat} {hs : Option (List Nat)} {ns : List aq} {R : List Nat} {acc : List (List Nat × List Nat)} {u : Tag (hs,K,ns)}
@[simp] theorem OT {x v1} : opW C hs K ns dst (.mov x) v1 e R acc=(isS (vd (ab e) x)=true /\ dW C hs K ns dst ⟨⟩ e R acc (vd (ab e) x)):=_root_.id rfl
@[simp] theorem OW {x v1} : opW C hs K ns dst (.nck x) v1 e R acc=(match (generalizing:=false) vd (ab e) x with
  | .ptr ds=>dW C hs K ns dst ⟨⟩ e R acc (.ptr ds)
  | .adr p i off=>dW C hs K ns dst ⟨⟩ e R acc (.adr p i off)
  | .ptx ds=>dW C hs K ns dst ⟨⟩ e R acc (.ptx ds)
  | _=>False):=_root_.id rfl
@[simp] theorem Jq {c a b v1} : opW C hs K ns dst (.pick c a b) v1 e R acc=(match (generalizing:=false) vd (ab e) c with
  | .bool v=>(v=true -> isS (vd (ab e) a)=true /\ dW C hs K ns dst ⟨⟩ e R acc (vd (ab e) a)) /\ (v=false -> isS (vd (ab e) b)=true /\ dW C hs K ns dst ⟨⟩ e R acc (vd (ab e) b))
  | _=>False):=_root_.id rfl
@[simp] theorem OB {op x y v1} : opW C hs K ns dst (.bin op x y) v1 e R acc=(match (generalizing:=false) vd (ab e) x,vd (ab e) y with
  | .int k a,.int k' b=>match (generalizing:=false) op with
   | .add=>k=k' /\ dW C hs K ns dst ⟨⟩ e R acc (.int k (k.wrap (a + b)))
   | .sub=>k=k' /\ dW C hs K ns dst ⟨⟩ e R acc (.int k (k.wrap (a - b)))
   | .mul=>k=k' /\ dW C hs K ns dst ⟨⟩ e R acc (.int k (k.wrap (a * b)))
   | .quo=>k=k' /\ b ≠ 0 /\ dW C hs K ns dst ⟨⟩ e R acc (.int k (k.wrap (a.tdiv b)))
   | .rem=>k=k' /\ b ≠ 0 /\ dW C hs K ns dst ⟨⟩ e R acc (.int k (a.tmod b))
   | .and=>k=k' /\ dW C hs K ns dst ⟨⟩ e R acc (.int k (bits .and k a b))
   | .or=>k=k' /\ dW C hs K ns dst ⟨⟩ e R acc (.int k (bits .or k a b))
   | .xor=>k=k' /\ dW C hs K ns dst ⟨⟩ e R acc (.int k (bits .xor k a b))
   | .andNot=>k=k' /\ dW C hs K ns dst ⟨⟩ e R acc (.int k (bits .andNot k a b))
   | .shl=>0 <= b /\ dW C hs K ns dst ⟨⟩ e R acc (.int k (k.wrap (a * 2 ^ (min b.toNat k.bits))))
   | .shr=>0 <= b /\ dW C hs K ns dst ⟨⟩ e R acc (.int k (a.fdiv (2 ^ (min b.toNat k.bits))))
   | .eql=>k=k' /\ dW C hs K ns dst ⟨⟩ e R acc (.bool (decide (a=b)))
   | .neq=>k=k' /\ dW C hs K ns dst ⟨⟩ e R acc (.bool (!decide (a=b)))
   | .lss=>k=k' /\ dW C hs K ns dst ⟨⟩ e R acc (.bool (decide (a < b)))
   | .leq=>k=k' /\ dW C hs K ns dst ⟨⟩ e R acc (.bool (decide (a <= b)))
   | .gtr=>k=k' /\ dW C hs K ns dst ⟨⟩ e R acc (.bool (decide (b < a)))
   | .geq=>k=k' /\ dW C hs K ns dst ⟨⟩ e R acc (.bool (decide (b <= a)))
  | .str a,.str b=>match (generalizing:=false) op with
   | .eql=>dW C hs K ns dst ⟨⟩ e R acc (.bool (decide (a=b)))
   | .neq=>dW C hs K ns dst ⟨⟩ e R acc (.bool (!decide (a=b)))
   | .add=>((a++b).length : Int) <= 9223372036854775807 /\ dW C hs K ns dst ⟨⟩ e R acc (.str (a++b))
   | .lss=>dW C hs K ns dst ⟨⟩ e R acc (.bool (Op.bytesLess a b))
   | .leq=>dW C hs K ns dst ⟨⟩ e R acc (.bool (Op.bytesLess a b || a == b))
   | .gtr=>dW C hs K ns dst ⟨⟩ e R acc (.bool !(Op.bytesLess a b || a == b))
   | .geq=>dW C hs K ns dst ⟨⟩ e R acc (.bool !(Op.bytesLess a b))
   | _=>False
  | _,_=>False):=_root_.id rfl
@[simp] theorem QE {op x v1} : opW C hs K ns dst (.un op x) v1 e R acc=(match (generalizing:=false) vd (ab e) x with
  | .bool b=>match (generalizing:=false) op with
   | .not=>dW C hs K ns dst ⟨⟩ e R acc (.bool (!b))
   | _=>False
  | .int k n=>match (generalizing:=false) op with
   | .neg=>dW C hs K ns dst ⟨⟩ e R acc (.int k (k.wrap (0 - n)))
   | _=>False
  | _=>False):=_root_.id rfl
@[simp] theorem Jj {k x v1} : opW C hs K ns dst (.conv k x) v1 e R acc=(match (generalizing:=false) vd (ab e) x with
  | .int _ n=>dW C hs K ns dst ⟨⟩ e R acc (.int k (k.wrap n))
  | _=>False):=_root_.id rfl
@[simp] theorem OA {neg ks x y v1} : opW C hs K ns dst (.beq neg ks x y) v1 e R acc=(match (generalizing:=false) vd (ab e) x,vd (ab e) y with
  | .bool a,.bool b=>ks=[] /\ dW C hs K ns dst ⟨⟩ e R acc (.bool ((a == b) != neg))
  | .agg a,.agg b=>ks ≠ [] /\ match (generalizing:=false) cg ks a b with
   | some r=>dW C hs K ns dst ⟨⟩ e R acc (.bool (r != neg))
   | none=>False
  | .nils,.nils=>ks=[9] /\ dW C hs K ns dst ⟨⟩ e R acc (.bool (!neg))
  | .sl es,.nils=>ks=[9] /\ (0 < es.length -> dW C hs K ns dst ⟨⟩ e R acc (.bool neg)) /\ (es.length=0 -> dW C hs K ns dst ⟨⟩ e R acc .bb)
  | .nilp,.nilp=>ks=[8] /\ dW C hs K ns dst ⟨⟩ e R acc (.bool (!neg))
  | .ptr _,.nilp=>ks=[8] /\ dW C hs K ns dst ⟨⟩ e R acc (.bool neg)
  | _,_=>False):=_root_.id rfl
@[simp] theorem OK {off n ag x v1} : opW C hs K ns dst (.fld off n ag x) v1 e R acc=(match (generalizing:=false) vd (ab e) x with
  | .agg ds=>off + n <= ds.length /\ dW C hs K ns dst ⟨⟩ e R acc (kN ag n (ds.drop off))
  | .agx ds=>off + n <= ds.length /\ match (generalizing:=false) ag with
   | true=>dW C hs K ns dst ⟨⟩ e R acc (.agx ((ds.drop off).take n))
   | false=>dW C hs K ns dst ⟨⟩ e R acc ((ds.drop off).headD .any)
  | _=>False):=_root_.id rfl
@[simp] theorem Jm {len sz ag x i v1} : opW C hs K ns dst (.idxA len sz ag x i) v1 e R acc=(match (generalizing:=false) vd (ab e) x,vd (ab e) i with
  | .agg ds,.int _ j=>0 <= j /\ j < len /\ j.toNat * sz + sz <= ds.length /\ dW C hs K ns dst ⟨⟩ e R acc (kN ag sz (ds.drop (j.toNat * sz)))
  | .agx ds,.int _ j=>0 <= j /\ j < len /\ j.toNat * sz + sz <= ds.length /\ match (generalizing:=false) ag with
   | true=>dW C hs K ns dst ⟨⟩ e R acc (.agx ((ds.drop (j.toNat * sz)).take sz))
   | false=>dW C hs K ns dst ⟨⟩ e R acc ((ds.drop (j.toNat * sz)).headD .any)
  | _,_=>False):=_root_.id rfl
@[simp] theorem OX {len sz x v1} : opW C hs K ns dst (.slA len sz x) v1 e R acc=(match (generalizing:=false) vd (ab e) x with
  | .ptr ds=>0 < len /\ 0 < sz /\ len * sz <= ds.length /\ dW C hs K ns dst ⟨⟩ e R acc (.sl (bZ sz len ds))
  | _=>False):=_root_.id rfl
@[simp] theorem OH {x v1} : opW C hs K ns dst (.cvS x) v1 e R acc=(match (generalizing:=false) vd (ab e) x with
  | .sl es=>0 < es.length /\ (∀ r ∈ es,∃ n : Nat,r=[.int .u8 n] /\ n < 256) /\ dW C hs K ns dst ⟨⟩ e R acc (.str (es.map fm))
  | _=>False):=_root_.id rfl
@[simp] theorem Jn {x i v1} : opW C hs K ns dst (.idxS x i) v1 e R acc=(match (generalizing:=false) vd (ab e) x,vd (ab e) i with
  | .str s,.int _ j=>0 <= j /\ yT C hs K ns dst ⟨⟩ e R acc s j.toNat
  | _,_=>False):=_root_.id rfl
@[simp] theorem OI {i x v1} : opW C hs K ns dst (.ext i x) v1 e R acc=(match (generalizing:=false) vd (ab e) x with
  | .tup ds=>∃ d,ds[i]? = some d /\ dW C hs K ns dst ⟨⟩ e R acc d
  | .tpx ds=>∃ d,ds[i]? = some d /\ dW C hs K ns dst ⟨⟩ e R acc d
  | _=>False):=_root_.id rfl
@[simp] theorem OJ {off x v1} : opW C hs K ns dst (.fad off x) v1 e R acc=(match (generalizing:=false) vd (ab e) x with
  | .adr p i o=>dW C hs K ns dst ⟨⟩ e R acc (.adr p i (o + off))
  | .ptr ds=>dW C hs K ns dst ⟨⟩ e R acc (.ptr (ds.drop off))
  | .ptx ds=>dW C hs K ns dst ⟨⟩ e R acc (.ptx (ds.drop off))
  | _=>False):=_root_.id rfl
@[simp] theorem Jk {len sz x i v1} : opW C hs K ns dst (.iadA len sz x i) v1 e R acc=(match (generalizing:=false) vd (ab e) x,vd (ab e) i with
  | .adr p r o,.int _ j=>0 <= j /\ j < len /\ dW C hs K ns dst ⟨⟩ e R acc (.adr p r (o + j.toNat * sz))
  | .ptr ds,.int _ j=>0 <= j /\ j < len /\ dW C hs K ns dst ⟨⟩ e R acc (.ptr (ds.drop (j.toNat * sz)))
  | _,_=>False):=_root_.id rfl
@[simp] theorem Qz {n ag x v1} : opW C hs K ns dst (.ld n ag x) v1 e R acc=(match (generalizing:=false) vd (ab e) x with
  | .adr p i off=>match (generalizing:=false) aR (ab e) p with
   | some (_,es)=>jZ C hs K ns dst ⟨⟩ e R acc n ag p es i off
   | none=>False
  | .ptr ds=>n <= ds.length /\ dW C hs K ns dst ⟨⟩ e R acc (kN ag n ds)
  | .ptx ds=>n <= ds.length /\ match (generalizing:=false) ag with
   | true=>((ds.take n).all isV=true -> dW C hs K ns dst ⟨⟩ e R acc (.agg (ds.take n))) /\ ((ds.take n).all isV=false -> dW C hs K ns dst ⟨⟩ e R acc (.agx (ds.take n)))
   | false=>0 < n /\ dW C hs K ns dst ⟨⟩ e R acc (ds.headD .any)
  | _=>False):=_root_.id rfl
@[simp] theorem OC {zs parts v1} : opW C hs K ns dst (.bld zs parts) v1 e R acc=((∀ p ∈ parts,isS (vd (ab e) p.2.2)=true /\ p.1 + p.2.1 <= zs.length /\ match (generalizing:=false) vd (ab e) p.2.2 with
    | .agg ds=>ds.length=p.2.1
    | .agx ds=>ds.length=p.2.1
    | .any=>False
    | .tpx _=>False
    | .ptx _=>False
    | .rfx _ _ _=>False
    | .fny _ _ _=>False
    | .fnx _ _=>False
    | _=>p.2.1=1) /\
   ((parts.all fun p=>isV (vd (ab e) p.2.2))=true -> dW C hs K ns dst ⟨⟩ e R acc (.agg (gG zs (parts.map fun p=>(p.1,p.2.1,vd (ab e) p.2.2))))) /\
   ((parts.all fun p=>isV (vd (ab e) p.2.2))=false -> dW C hs K ns dst ⟨⟩ e R acc (.agx (gG zs (parts.map fun p=>(p.1,p.2.1,bQ (vd (ab e) p.2.2))))))):=_root_.id rfl
@[simp] theorem Jo {x v1} : opW C hs K ns dst (.lens x) v1 e R acc=(match (generalizing:=false) vd (ab e) x with
  | .str s=>dW C hs K ns dst ⟨⟩ e R acc (.int .i64 s.length)
  | _=>False):=_root_.id rfl
@[simp] theorem QA {g xs v1} : opW C hs K ns dst (.mk g xs) v1 e R acc=((∀ x ∈ xs,isP (vd (ab e) x)=true) /\ ((xs.all fun x=>isV (vd (ab e) x))=true -> dW C hs K ns dst ⟨⟩ e R acc (.fn g (xs.map (vd (ab e))))) /\ ((xs.all fun x=>isV (vd (ab e) x))=false -> dW C hs K ns dst ⟨⟩ e R acc (.fnx g (xs.map (vd (ab e)))))):=_root_.id rfl
@[simp] theorem OZ {x lo hi v1} : opW C hs K ns dst (.slS x lo hi) v1 e R acc=(match (generalizing:=false) vd (ab e) x with
  | .str s=>dc (ab e) hi s.length (fun h=>dc (ab e) lo 0 (fun l=>l <= h /\ h <= s.length /\ dW C hs K ns dst ⟨⟩ e R acc (.str ((s.take h).drop l))) ⟨⟩) ⟨⟩
  | _=>False):=_root_.id rfl
@[simp] theorem QB {x y v1} : opW C hs K ns dst (.mn x y) v1 e R acc=(match (generalizing:=false) vd (ab e) x,vd (ab e) y with
  | .int k a,.int k' b=>k=k' /\ dW C hs K ns dst ⟨⟩ e R acc (.int k (if b < a then b else a))
  | _,_=>False):=_root_.id rfl
@[simp] theorem QC {x y v1} : opW C hs K ns dst (.mx x y) v1 e R acc=(match (generalizing:=false) vd (ab e) x,vd (ab e) y with
  | .int k a,.int k' b=>k=k' /\ dW C hs K ns dst ⟨⟩ e R acc (.int k (if a < b then b else a))
  | _,_=>False):=_root_.id rfl
@[simp] theorem Ec {x y c v1} : opW C hs K ns dst (.add64 x y c) v1 e R acc=(match (generalizing:=false) vd (ab e) x,vd (ab e) y,vd (ab e) c with
  | .int .u64 a,.int .u64 b,.int .u64 k=>0 <= a /\ a < 18446744073709551616 /\ 0 <= b /\ b < 18446744073709551616 /\ 0 <= k /\ k <= 1 /\
    dW C hs K ns dst ⟨⟩ e R acc (.tup [.int .u64 ((a + b + k) % 18446744073709551616),.int .u64 ((a + b + k) / 18446744073709551616)])
  | _,_,_=>False):=_root_.id rfl
@[simp] theorem Eo {x y c v1} : opW C hs K ns dst (.sub64 x y c) v1 e R acc=(match (generalizing:=false) vd (ab e) x,vd (ab e) y,vd (ab e) c with
  | .int .u64 a,.int .u64 b,.int .u64 k=>0 <= a /\ a < 18446744073709551616 /\ 0 <= b /\ b < 18446744073709551616 /\ 0 <= k /\ k <= 1 /\
    dW C hs K ns dst ⟨⟩ e R acc (.tup [.int .u64 ((a - b - k) % 18446744073709551616),.int .u64 (if a < b + k then 1 else 0)])
  | _,_,_=>False):=_root_.id rfl
@[simp] theorem Jp {sz v1} : opW C hs K ns dst (.nilo sz) v1 e R acc=(match (generalizing:=false) dst with
  | some t=>0 < sz /\ doW C hs K ns ⟨⟩ e R acc [(t,.ref (.r (rt t 0)) 0 0),(rt t 0,.blk sz [])] [(rt t 0,true)]
  | none=>False):=_root_.id rfl
@[simp] theorem OE {x t v1} : opW C hs K ns (some t) (.box [] x) v1 e R acc=fy (ab e) (vd (ab e) x) [] (fun cs bs=>bs.contains (rt t 0)=false /\ doW C hs K ns ⟨⟩ e R acc ((t,.adr (.r (rt t 0)) 0 0)::(rt t 0,.blk cs.length [cs])::bW bs) [(rt t 0,true)]) ⟨⟩:=_root_.id rfl
@[simp] theorem Ox {zs v1} : opW C hs K ns dst (.alc zs) v1 e R acc=(match (generalizing:=false) dst with
  | some t=>doW C hs K ns ⟨⟩ e R acc [(t,.adr (.r (rt t 0)) 0 0),(rt t 0,.blk zs.length [zs])] [(rt t 0,true)]
  | none=>False):=_root_.id rfl
@[simp] theorem OD {sz len zs parts t v1} : opW C hs K ns (some t) (.bls sz len zs [] parts) v1 e R acc=nH (ab e) sz parts (List.replicate len zs) [] (fun es bs=>bJ bs=true /\ bs.contains (rt t 0)=false /\ doW C hs K ns ⟨⟩ e R acc ((t,.ref (.r (rt t 0)) 0 len)::(rt t 0,.blk sz es)::bW bs) [(rt t 0,true)]) ⟨⟩:=_root_.id rfl
@[simp] theorem OS {sz by_ zs n c v1} : opW C hs K ns dst (.mks sz by_ zs n c) v1 e R acc=(match (generalizing:=false) dst with
  | some t=>match (generalizing:=false) vd (ab e) n,vd (ab e) c with
   | .int _ n,.int _ c=>0 <= n /\ n <= c /\ c * by_ <= 140737488355328 /\ doW C hs K ns ⟨⟩ e R acc [(t,.ref (.r (rt t 0)) 0 n.toNat),(rt t 0,.blk sz (List.replicate c.toNat zs))] [(rt t 0,true)]
   | _,_=>False
  | none=>False):=_root_.id rfl
def stM (C : CC) (hs : Option (List Nat)) (K : Env -> Prop) (ns : List aq) (_ : Tag (hs,K,ns)) (e : Env) (R : List Nat) (acc : List (List Nat × List Nat)) (n : Nat) (v : D) (cs : List D) (bs : List Nat) (a : D) : Prop:=match a with
 | .adr (.r b) i off=>bs.contains b=false /\ cM (ab e b) (fun sz es=>fv es[i]? (fun r=>off + n <= r.length /\ doW C hs K ns ⟨⟩ e R acc ((b,.blk sz (a8 es i off n cs))::bW bs) (stK v [] b)) ⟨⟩) ⟨⟩
 | .adr (.n b i0 o0) i off=>bs=[] /\ (∀ c ∈ cs,aw c=true) /\ cM (ab e b) (fun sz0 es0=>fv es0[i0]? (fun row0=>iM row0[o0]? (fun sz es=>fv es[i]? (fun r=>off + n <= r.length /\ doW C hs K ns ⟨⟩ e R acc [(b,.blk sz0 (a8 es0 i0 o0 1 [.own sz (a8 es i off n cs)]))] []) ⟨⟩) ⟨⟩) ⟨⟩) ⟨⟩
 | _=>False
@[simp] theorem QY {n v cs bs b i off} : stM C hs K ns u e R acc n v cs bs (.adr (.r b) i off)=(bs.contains b=false /\ cM (ab e b) (fun sz es=>fv es[i]? (fun r=>off + n <= r.length /\ doW C hs K ns ⟨⟩ e R acc ((b,.blk sz (a8 es i off n cs))::bW bs) (stK v [] b)) ⟨⟩) ⟨⟩):=_root_.id rfl
@[simp] theorem QX {n v cs bs b i0 o0 i off} : stM C hs K ns u e R acc n v cs bs (.adr (.n b i0 o0) i off)=(bs=[] /\ (∀ c ∈ cs,aw c=true) /\ cM (ab e b) (fun sz0 es0=>fv es0[i0]? (fun row0=>iM row0[o0]? (fun sz es=>fv es[i]? (fun r=>off + n <= r.length /\ doW C hs K ns ⟨⟩ e R acc [(b,.blk sz0 (a8 es0 i0 o0 1 [.own sz (a8 es i off n cs)]))] []) ⟨⟩) ⟨⟩) ⟨⟩) ⟨⟩):=_root_.id rfl
@[simp] theorem QD {n a v v1} : opW C hs K ns dst (.st n [] a v) v1 e R acc=(dst=none /\ fy (ab e) (vd (ab e) v) [] (fun cs bs=>cs.length=n /\ stM C hs K ns ⟨⟩ e R acc n (vd (ab e) v) cs bs (vd (ab e) a)) ⟨⟩):=by
 show (dst=none /\ eH (ab e) (vd (ab e) v) [] _)=(dst=none /\ eH (ab e) (vd (ab e) v) [] _)
 congr 1
 congr 1
 funext cs bs
 cases vd (ab e) a <;> try rfl
 rename_i p i off
 cases p with
 | r b =>
  simp only [stM,cM,eA]
  cases ab e b <;> rfl
 | n b i0 o0 =>
  simp only [stM,cM,eA,im]
  cases ab e b <;> rfl
def qS (C : CC) (hs : Option (List Nat)) (K : Env -> Prop) (ns : List aq) (_ : Tag (hs,K,ns)) (e : Env) (R : List Nat) (acc : List (List Nat × List Nat)) (t sz by_ : Nat) (rowsY : List (List D)) (bs : List Nat) (x : D) : Prop:=match x with
 | .nils=>rowsY.length * by_ <= 140737488355328 /\ doW C hs K ns ⟨⟩ e R acc ((t,.ref (.r (rt t 0)) 0 rowsY.length)::(rt t 0,.blk sz rowsY)::bW bs) [(rt t 0,true)]
 | .ref (.r c) k n=>c ≠ rt t 0 /\ bs.contains c=false /\ cM (ab e c) (fun sz' es=>sz'=sz /\ k + n <= es.length /\ (n + rowsY.length) * by_ <= 140737488355328 /\
      doW C hs K ns ⟨⟩ e R acc ((t,.ref (.r (rt t 0)) 0 (n + rowsY.length))::(rt t 0,.blk sz ((es.drop k).take n++rowsY))::(c,.any)::bW bs) [(rt t 0,true)]) ⟨⟩
 | .ref (.n c i o) k n=>c ≠ rt t 0 /\ bs.contains c=false /\ cM (ab e c) (fun sz0 es0=>fv es0[i]? (fun row0=>iM row0[o]? (fun sz' es=>sz'=sz /\ k + n <= es.length /\ (n + rowsY.length) * by_ <= 140737488355328 /\
      doW C hs K ns ⟨⟩ e R acc ((t,.ref (.r (rt t 0)) 0 (n + rowsY.length))::(rt t 0,.blk sz ((es.drop k).take n++rowsY))::(c,.blk sz0 (a8 es0 i o 1 [.any]))::bW bs) [(rt t 0,true)]) ⟨⟩) ⟨⟩) ⟨⟩
 | _=>False
@[simp] theorem BN {t sz by_ rowsY bs} : qS C hs K ns u e R acc t sz by_ rowsY bs .nils=(rowsY.length * by_ <= 140737488355328 /\ doW C hs K ns ⟨⟩ e R acc ((t,.ref (.r (rt t 0)) 0 rowsY.length)::(rt t 0,.blk sz rowsY)::bW bs) [(rt t 0,true)]):=_root_.id rfl
@[simp] theorem Pk {t sz by_ rowsY bs c k n} : qS C hs K ns u e R acc t sz by_ rowsY bs (.ref (.r c) k n)=(c ≠ rt t 0 /\ bs.contains c=false /\ cM (ab e c) (fun sz' es=>sz'=sz /\ k + n <= es.length /\ (n + rowsY.length) * by_ <= 140737488355328 /\
      doW C hs K ns ⟨⟩ e R acc ((t,.ref (.r (rt t 0)) 0 (n + rowsY.length))::(rt t 0,.blk sz ((es.drop k).take n++rowsY))::(c,.any)::bW bs) [(rt t 0,true)]) ⟨⟩):=_root_.id rfl
@[simp] theorem Pj {t sz by_ rowsY bs c i o k n} : qS C hs K ns u e R acc t sz by_ rowsY bs (.ref (.n c i o) k n)=(c ≠ rt t 0 /\ bs.contains c=false /\ cM (ab e c) (fun sz0 es0=>fv es0[i]? (fun row0=>iM row0[o]? (fun sz' es=>sz'=sz /\ k + n <= es.length /\ (n + rowsY.length) * by_ <= 140737488355328 /\
      doW C hs K ns ⟨⟩ e R acc ((t,.ref (.r (rt t 0)) 0 (n + rowsY.length))::(rt t 0,.blk sz ((es.drop k).take n++rowsY))::(c,.blk sz0 (a8 es0 i o 1 [.any]))::bW bs) [(rt t 0,true)]) ⟨⟩) ⟨⟩) ⟨⟩):=_root_.id rfl
@[simp] theorem Oy {sz by_ mv x y t v1} : opW C hs K ns (some t) (.app sz by_ mv x y) v1 e R acc=gU (ab e) mv (vd (ab e) y) sz (fun rowsY bs=>bs.contains (rt t 0)=false /\ qS C hs K ns ⟨⟩ e R acc t sz by_ rowsY bs (vd (ab e) x)) ⟨⟩:=by
 unfold opW gU
 simp only [au]
 congr 1
 funext rowsY bs
 congr 1
 cases vd (ab e) x <;> try rfl
 rename_i p k n
 cases p with
 | r c =>
  simp only [qS,cM]
  cases ab e c <;> rfl
 | n c i o =>
  simp only [qS,cM,eA,im]
  cases hl : ab e c <;> try rfl
  rename_i sz0 es0
  refine congrArg _ (congrArg _ (propext ⟨?_,?_⟩))
  ·rintro ⟨row0,h1,es,h2,h3⟩
   exact ⟨row0,h1,sz,es,h2,rfl,h3⟩
  ·rintro ⟨row0,h1,sz',es,h2,rfl,h3⟩
   exact ⟨row0,h1,es,h2,h3⟩
@[simp] theorem JS {g b n xs sz es} : Ba C g hs K ns dst u e R acc b n xs (.blk sz es)=(es.length=n /\ (∀ e ∈ es,∀ c ∈ e,aw c=true) /\ (∀ x ∈ xs,br (fbE (ab e) b) (vd (fbE (ab e) b) x)) /\ sN C g hs K ns dst ⟨⟩ e R acc b sz es (xs.map (dpv (fbE (ab e) b))) (xs.all fun y=>isV (vd (fbE (ab e) b) y))):=_root_.id rfl
@[simp] theorem JU {g xs b k n} : JT C g hs K ns dst u e R acc xs (.ref (.r b) k n)=(k=0 /\ Ba C g hs K ns dst ⟨⟩ e R acc b n xs (ab e b)):=_root_.id rfl
@[simp] theorem Em {g x xs v1} : opW C hs K ns dst (.callS g x xs) v1 e R acc=(JT C g hs K ns dst ⟨⟩ e R acc xs (vd (ab e) x)):=by
 cases dst <;> rfl
def vb (n : Nat) (d : D) : Prop:=match d with
 | .blk _ es=>es.length=n /\ ∀ e ∈ es,∀ c ∈ e,aW c=true
 | _=>False
def nX (f : Nat -> D) (b : Nat) (d : D) : Prop:=match d with
 | .ref (.r c) k n=>k=0 /\ c ≠ b /\ vb n (f c)
 | d=>isV d=true
def v8 (d : D) : D:=match d with
 | .blk sz es=>.own sz es
 | _=>.any
def qj (f : Nat -> D) (d : D) : D:=match d with
 | .ref (.r c) _ _=>v8 (f c)
 | d=>d
@[simp] theorem E1 {n sz es} : vb n (.blk sz es)=(es.length=n /\ ∀ e ∈ es,∀ c ∈ e,aW c=true):=_root_.id rfl
@[simp] theorem Jt {sz es} : v8 (.blk sz es)=.own sz es:=_root_.id rfl
@[simp] theorem J7 {f : Nat -> D} {b : Nat} {x : Opd} : kL f b x=nX f b (vd f x):=by
 unfold kL nX vb
 cases vd f x <;> rfl
@[simp] theorem J8 {f : Nat -> D} {x : Opd} : jD f x=qj f (vd f x):=by
 unfold jD qj v8
 cases vd f x <;> rfl
@[simp] theorem BP {f : Nat -> D} {b c k n} : nX f b (.ref (.r c) k n)=(k=0 /\ c ≠ b /\ vb n (f c)):=_root_.id rfl
@[simp] theorem BR {f : Nat -> D} {c k n} : qj f (.ref (.r c) k n)=v8 (f c):=_root_.id rfl
@[simp] theorem BO {f : Nat -> D} {b k n} : nX f b (.int k n)=True:=by simp [nX,isV]
@[simp] theorem BQ {f : Nat -> D} {k n} : qj f (.int k n)=.int k n:=_root_.id rfl
def vp (C : CC) (g : Nat) (hs : Option (List Nat)) (K : Env -> Prop) (ns : List aq) (t : Nat) (_ : Tag (hs,K,ns)) (e : Env) (R : List Nat) (acc : List (List Nat × List Nat)) (sz : Nat) (W : List (List D)) (ds : List D) (q : Nat × D) : Prop :=
 ∃ es' : List (List D),(∀ e ∈ es',e.length=sz /\ ∀ c ∈ e,aW c=true) /\ C g (.own sz W::ds) .any [.own sz es',.nils,.nils] /\ doW C hs K ns ⟨⟩ e R acc [(t,.ref (.r (rt t 0)) 0 es'.length),(rt t 0,.blk sz es'),q] [(rt t 0,true)]
def s4 (C : CC) (g : Nat) (hs : Option (List Nat)) (K : Env -> Prop) (ns : List aq) (t : Nat) (_ : Tag (hs,K,ns)) (e : Env) (R : List Nat) (acc : List (List Nat × List Nat)) (xs : List Opd) (d : D) : Prop:=match d with
 | .ref (.r b) k n=>cM (ab e b) (fun sz es=>k + n <= es.length /\ b ≠ rt t 0 /\ 0 < sz /\ (∀ e ∈ (es.drop k).take n,∀ c ∈ e,aW c=true) /\ (∀ x ∈ xs,kL (ab e) b x) /\ vp C g hs K ns t ⟨⟩ e R acc sz ((es.drop k).take n) (xs.map (jD (ab e))) (b,.any)) ⟨⟩
 | .ref (.n b i o) k n=>cM (ab e b) (fun sz0 es0=>fv es0[i]? (fun row0=>iM row0[o]? (fun sz es=>k + n <= es.length /\ b ≠ rt t 0 /\ 0 < sz /\ (∀ e ∈ (es.drop k).take n,∀ c ∈ e,aW c=true) /\ (∀ x ∈ xs,kL (ab e) b x) /\
   vp C g hs K ns t ⟨⟩ e R acc sz ((es.drop k).take n) (xs.map (jD (ab e))) (b,.blk sz0 (a8 es0 i o 1 [.any]))) ⟨⟩) ⟨⟩) ⟨⟩
 | _=>False
@[simp] theorem PR {g xs t b k n} : s4 C g hs K ns t u e R acc xs (.ref (.r b) k n)=cM (ab e b) (fun sz es=>k + n <= es.length /\ b ≠ rt t 0 /\ 0 < sz /\ (∀ e ∈ (es.drop k).take n,∀ c ∈ e,aW c=true) /\ (∀ x ∈ xs,kL (ab e) b x) /\ vp C g hs K ns t ⟨⟩ e R acc sz ((es.drop k).take n) (xs.map (jD (ab e))) (b,.any)) ⟨⟩:=_root_.id rfl
@[simp] theorem PQ {g xs t b i o k n} : s4 C g hs K ns t u e R acc xs (.ref (.n b i o) k n)=cM (ab e b) (fun sz0 es0=>fv es0[i]? (fun row0=>iM row0[o]? (fun sz es=>k + n <= es.length /\ b ≠ rt t 0 /\ 0 < sz /\ (∀ e ∈ (es.drop k).take n,∀ c ∈ e,aW c=true) /\ (∀ x ∈ xs,kL (ab e) b x) /\
   vp C g hs K ns t ⟨⟩ e R acc sz ((es.drop k).take n) (xs.map (jD (ab e))) (b,.blk sz0 (a8 es0 i o 1 [.any]))) ⟨⟩) ⟨⟩) ⟨⟩:=_root_.id rfl
@[simp] theorem Ee {g x xs t v1} : opW C hs K ns (some t) (.callE g x xs) v1 e R acc=s4 C g hs K ns t ⟨⟩ e R acc xs (vd (ab e) x):=by
 unfold opW
 simp only [au]
 cases vd (ab e) x <;> try rfl
 rename_i p k n
 cases p with
 | r b =>
  simp only [s4,cM,aR,Pa.root,cT]
  cases ab e b <;> rfl
 | n b i o =>
  simp only [s4,cM,eA,im,aR,Pa.root,cT]
  cases hl : ab e b <;> try rfl
  rename_i sz0 es0
  simp only
  cases hi : es0[i]? with
  | none=>simp
  | some row0 =>
   simp only [Option.getD_some,Option.some.injEq,exists_eq_left']
   cases ho : row0[o]? with
   | none=>simp
   | some d =>
    cases d
    case own sz es=>exact propext ⟨fun h=>⟨sz,es,rfl,h⟩,fun ⟨sz',es',h0,h⟩=>by cases h0;exact h⟩
    all_goals simp
@[simp] theorem CW {f : Nat -> D} {b k n sz es} : b6 f (.ref (.r b) k n) (.own sz es)=(k=0 /\ n=es.length /\ f b=.blk sz es):=_root_.id rfl
@[simp] theorem CU {f : Nat -> D} {b k n sz es} : b6 f (.adr (.r b) k n) (.blk sz es)=(k=0 /\ n=0 /\ f b=.blk sz es):=_root_.id rfl
@[simp] theorem CV {f : Nat -> D} {k n r} : b6 f (.int k n) r=(r=.int k n):=by simp [b6]
@[simp] theorem zO {f : Nat -> D} {n r} : b6 f (.bool n) r=(r=.bool n):=by simp [b6]
@[simp] theorem CX {f : Nat -> D} {n r} : b6 f (.str n) r=(r=.str n):=by simp [b6]
@[simp] theorem zQ {f : Nat -> D} {r} : b6 f .nils r=(r=.nils):=by simp [b6]
@[simp] theorem zP {f : Nat -> D} {r} : b6 f .nilp r=(r=.nilp):=by simp [b6]
@[simp] theorem Gk {f : Nat -> D} {n r} : b6 f (.sl n) r=(r=.sl n):=by simp [b6]
@[simp] theorem CT {f : Nat -> D} {n r} : b6 f (.agg n) r=(r=.agg n):=by simp [b6]
@[simp] theorem EG {t d} : bV (some t) d=[(t,d)]:=_root_.id rfl
@[simp] theorem EF {d} : bV none d=[]:=_root_.id rfl
@[simp] theorem Bf {t} : da (some t)=[(t,.tup [])]:=_root_.id rfl
@[simp] theorem Be : da none=[]:=_root_.id rfl
def Iw (C : CC) (g : Nat) (hs : Option (List Nat)) (K : Env -> Prop) (ns : List aq) (dst : Option Nat) (_ : Tag (hs,K,ns)) (e : Env) (R : List Nat) (acc : List (List Nat × List Nat)) (b sz : Nat) (es : List (List D)) (ds : List D) : Prop :=
 ∃ d,∃ es' : List (List D),0 < es'.length /\ C g (.blk sz es::ds) d [.blk sz es'] /\ doW C hs K ns ⟨⟩ e R acc (bV dst d++[(b,.blk sz es')]) [(b,false)]
def Iv (C : CC) (g : Nat) (hs : Option (List Nat)) (K : Env -> Prop) (ns : List aq) (dst : Option Nat) (_ : Tag (hs,K,ns)) (e : Env) (R : List Nat) (acc : List (List Nat × List Nat)) (xs : List Opd) (d : D) : Prop:=match d with
 | .adr (.r b) i off=>i=0 /\ off=0 /\ cM (ab e b) (fun sz es=>0 < es.length /\ (∀ x ∈ xs,isV (vd (ab e) x)=true) /\ Iw C g hs K ns dst ⟨⟩ e R acc b sz es (xs.map (vd (ab e)))) ⟨⟩
 | _=>False
@[simp] theorem Qs {g xs b i off} : Iv C g hs K ns dst u e R acc xs (.adr (.r b) i off)=(i=0 /\ off=0 /\ cM (ab e b) (fun sz es=>0 < es.length /\ (∀ x ∈ xs,isV (vd (ab e) x)=true) /\ Iw C g hs K ns dst ⟨⟩ e R acc b sz es (xs.map (vd (ab e)))) ⟨⟩):=_root_.id rfl
@[simp] theorem Ei {g x xs v1} : opW C hs K ns dst (.callL g x xs) v1 e R acc=Iv C g hs K ns dst ⟨⟩ e R acc xs (vd (ab e) x):=by
 unfold opW
 simp only [au]
 cases vd (ab e) x <;> first | rfl | skip
def qW (C : CC) (hs : Option (List Nat)) (K : Env -> Prop) (ns : List aq) (dst : Option Nat) (_ : Tag (hs,K,ns)) (e : Env) (R : List Nat) (acc : List (List Nat × List Nat)) (zs : List D) (d : D) : Prop:=match d with
 | .nils=>doW C hs K ns ⟨⟩ e R acc (da dst) []
 | .ref (.r b) k n=>cM (ab e b) (fun sz es=>k + n <= es.length /\ zs.length=sz /\ (∀ e ∈ es,∀ c ∈ e,aw c=true) /\ (∀ c ∈ zs,aw c=true) /\ doW C hs K ns ⟨⟩ e R acc (da dst++[(b,.blk sz (dD es k n zs))]) []) ⟨⟩
 | .ref (.n b i o) k n=>cM (ab e b) (fun sz0 es0=>fv es0[i]? (fun row0=>iM row0[o]? (fun sz es=>k + n <= es.length /\ zs.length=sz /\ (∀ c ∈ zs,aw c=true) /\ doW C hs K ns ⟨⟩ e R acc (da dst++[(b,.blk sz0 (a8 es0 i o 1 [.own sz (dD es k n zs)]))]) []) ⟨⟩) ⟨⟩) ⟨⟩
 | _=>False
@[simp] theorem Pq {zs b k n} : qW C hs K ns dst u e R acc zs (.ref (.r b) k n)=cM (ab e b) (fun sz es=>k + n <= es.length /\ zs.length=sz /\ (∀ e ∈ es,∀ c ∈ e,aw c=true) /\ (∀ c ∈ zs,aw c=true) /\ doW C hs K ns ⟨⟩ e R acc (da dst++[(b,.blk sz (dD es k n zs))]) []) ⟨⟩:=_root_.id rfl
@[simp] theorem Pp {zs b i o k n} : qW C hs K ns dst u e R acc zs (.ref (.n b i o) k n)=cM (ab e b) (fun sz0 es0=>fv es0[i]? (fun row0=>iM row0[o]? (fun sz es=>k + n <= es.length /\ zs.length=sz /\ (∀ c ∈ zs,aw c=true) /\ doW C hs K ns ⟨⟩ e R acc (da dst++[(b,.blk sz0 (a8 es0 i o 1 [.own sz (dD es k n zs)]))]) []) ⟨⟩) ⟨⟩) ⟨⟩:=_root_.id rfl
@[simp] theorem Cm {zs} : qW C hs K ns dst u e R acc zs .nils=doW C hs K ns ⟨⟩ e R acc (da dst) []:=_root_.id rfl
@[simp] theorem OF {zs x v1} : opW C hs K ns dst (.clr zs x) v1 e R acc=qW C hs K ns dst ⟨⟩ e R acc zs (vd (ab e) x):=by
 unfold opW
 simp only [au]
 cases vd (ab e) x <;> try rfl
 rename_i p k n
 cases p with
 | r b =>
  simp only [qW,cM]
  cases ab e b <;> rfl
 | n b i o =>
  simp only [qW,cM,eA,im]
  cases ab e b <;> rfl
def xn (C : CC) (g : Nat) (hs : Option (List Nat)) (K : Env -> Prop) (ns : List aq) (dst : Option Nat) (_ : Tag (hs,K,ns)) (e : Env) (R : List Nat) (acc : List (List Nat × List Nat)) (b i o sz0 sz : Nat) (es0 es : List (List D)) (ds : List D) : Prop :=
 ∃ es' : List (List D),es'.length=es.length /\ (∀ e ∈ es',e.length=sz /\ ∀ c ∈ e,aw c=true) /\ C g (.own sz es::ds) .any [.own sz es',.nilp] /\ doW C hs K ns ⟨⟩ e R acc (da dst++[(b,.blk sz0 (a8 es0 i o 1 [.own sz es']))]) []
def za (C : CC) (g : Nat) (hs : Option (List Nat)) (K : Env -> Prop) (ns : List aq) (dst : Option Nat) (_ : Tag (hs,K,ns)) (e : Env) (R : List Nat) (acc : List (List Nat × List Nat)) (xs : List Opd) (d : D) : Prop:=match d with
 | .ref (.n b i o) k n=>k=0 /\ cM (ab e b) (fun sz0 es0=>fv es0[i]? (fun row0=>iM row0[o]? (fun sz es=>es.length=n /\ (∀ x ∈ xs,isV (vd (ab e) x)=true) /\ xn C g hs K ns dst ⟨⟩ e R acc b i o sz0 sz es0 es (xs.map (vd (ab e)))) ⟨⟩) ⟨⟩) ⟨⟩
 | _=>False
@[simp] theorem Pn {g xs b i o k n} : za C g hs K ns dst u e R acc xs (.ref (.n b i o) k n)=(k=0 /\ cM (ab e b) (fun sz0 es0=>fv es0[i]? (fun row0=>iM row0[o]? (fun sz es=>es.length=n /\ (∀ x ∈ xs,isV (vd (ab e) x)=true) /\ xn C g hs K ns dst ⟨⟩ e R acc b i o sz0 sz es0 es (xs.map (vd (ab e)))) ⟨⟩) ⟨⟩) ⟨⟩):=_root_.id rfl
@[simp] theorem Ek {g x xs v1} : opW C hs K ns dst (.callN g x xs) v1 e R acc=za C g hs K ns dst ⟨⟩ e R acc xs (vd (ab e) x):=by
 unfold opW
 simp only [au]
 cases vd (ab e) x <;> try rfl
 rename_i p k n
 cases p with
 | r b=>rfl
 | n b i o =>
  simp only [za,cM,eA,im]
  cases ab e b <;> rfl
@[simp] theorem Eg {g xs v1} : opW C hs K ns dst (.callG g xs) v1 e R acc=((∀ x ∈ xs,br (ab e) (vd (ab e) x)) /\ yV C g hs K ns dst ⟨⟩ e R acc (xs.map (dpv (ab e)))):=_root_.id rfl
@[simp] theorem Ed {g xs t v1} : opW C hs K ns (some t) (.callA g xs) v1 e R acc=((∀ x ∈ xs,isV (vd (ab e) x)=true) /\ yU C g hs K ns t ⟨⟩ e R acc (xs.map (vd (ab e)))):=_root_.id rfl
@[simp] theorem Ef {g xs t v1} : opW C hs K ns (some t) (.callF g xs) v1 e R acc=((∀ x ∈ xs,br (ab e) (vd (ab e) x)) /\ sM C g hs K ns t ⟨⟩ e R acc (xs.map (dpv (ab e)))):=_root_.id rfl
@[simp] theorem Ji {g xs x0 v1} : opW C hs K ns dst (.call g xs x0) v1 e R acc=((∀ x ∈ xs,br (ab e) (vd (ab e) x)) /\ n5 C g hs K ns dst ⟨⟩ e R acc (xs.all fun x=>isV (vd (ab e) x)) (xs.map (dpv (ab e)))):=_root_.id rfl
def jE (C : CC) (hs : Option (List Nat)) (K : Env -> Prop) (ns : List aq) (t : Nat) (_ : Tag (hs,K,ns)) (e : Env) (R : List Nat) (acc : List (List Nat × List Nat)) (d : D) : Prop:=match d with
 | .ref (.r c) k n=>if c=rt t 0 then doW C hs K ns ⟨⟩ e R acc [(t,.ref (.r c) k n)] [] else match ab e c with
  | .blk sz es=>doW C hs K ns ⟨⟩ e R acc [(t,.ref (.r (rt t 0)) k n),(rt t 0,.blk sz es),(c,.any)] [(rt t 0,true)]
  | _=>False
 | d=>isS d=true /\ doW C hs K ns ⟨⟩ e R acc [(t,d)] []
@[simp] theorem Oz {t x v1} : opW C hs K ns (some t) (.asg x) v1 e R acc=jE C hs K ns t ⟨⟩ e R acc (vd (ab e) x):=_root_.id rfl
@[simp] theorem E5 {t c k n} : jE C hs K ns t u e R acc (.ref (.r c) k n)=(if c=rt t 0 then doW C hs K ns ⟨⟩ e R acc [(t,.ref (.r c) k n)] [] else match ab e c with
  | .blk sz es=>doW C hs K ns ⟨⟩ e R acc [(t,.ref (.r (rt t 0)) k n),(rt t 0,.blk sz es),(c,.any)] [(rt t 0,true)]
  | _=>False):=_root_.id rfl
@[simp] theorem BT {t b i o k n} : jE C hs K ns t u e R acc (.ref (.n b i o) k n)=doW C hs K ns ⟨⟩ e R acc [(t,.ref (.n b i o) k n)] []:=by simp [jE]
@[simp] theorem BS {t} : jE C hs K ns t u e R acc .nils=doW C hs K ns ⟨⟩ e R acc [(t,.nils)] []:=by simp [jE]
@[simp] theorem J9 {t es} : jE C hs K ns t u e R acc (.sl es)=doW C hs K ns ⟨⟩ e R acc [(t,.sl es)] []:=by simp [jE]
@[simp] theorem E6 {t b es} : jE C hs K ns t u e R acc (slx b es)=doW C hs K ns ⟨⟩ e R acc [(t,slx b es)] []:=by
 rcases eF b es with h | ⟨h,_⟩ <;> rw [h] <;> simp
@[simp] theorem E4 {t} : jE C hs K ns t u e R acc .any=doW C hs K ns ⟨⟩ e R acc [(t,.any)] []:=by simp [jE]
@[simp] theorem E7 {t ds} : jE C hs K ns t u e R acc (.tup ds)=doW C hs K ns ⟨⟩ e R acc [(t,.tup ds)] []:=by simp [jE]
def pw (C : CC) (hs : Option (List Nat)) (K : Env -> Prop) (ns : List aq) (t : Nat) (_ : Tag (hs,K,ns)) (e : Env) (R : List Nat) (acc : List (List Nat × List Nat)) (d : D) : Prop:=match d with
 | .ref (.r c) k n=>aK (ab e) (.ref (.r c) k n) /\ doW C hs K ns ⟨⟩ e R acc [(t,dp1 (ab e) (.ref (.r c) k n)),(c,.any)] []
 | d=>isS d=true /\ doW C hs K ns ⟨⟩ e R acc [(t,d)] []
@[simp] theorem OL {t x v1} : opW C hs K ns (some t) (.frz x) v1 e R acc=pw C hs K ns t ⟨⟩ e R acc (vd (ab e) x):=_root_.id rfl
@[simp] theorem Gb {t c k n} : pw C hs K ns t u e R acc (.ref (.r c) k n)=(aK (ab e) (.ref (.r c) k n) /\ doW C hs K ns ⟨⟩ e R acc [(t,dp1 (ab e) (.ref (.r c) k n)),(c,.any)] []):=_root_.id rfl
@[simp] theorem CQ {t} : pw C hs K ns t u e R acc .nils=doW C hs K ns ⟨⟩ e R acc [(t,.nils)] []:=by simp [pw]
@[simp] theorem KW {t es} : pw C hs K ns t u e R acc (.sl es)=doW C hs K ns ⟨⟩ e R acc [(t,.sl es)] []:=by simp [pw]
@[simp] theorem Gc {t b es} : pw C hs K ns t u e R acc (slx b es)=doW C hs K ns ⟨⟩ e R acc [(t,slx b es)] []:=by
 rcases eF b es with h | ⟨h,_⟩ <;> rw [h] <;> simp
def vT (C : CC) (hs : Option (List Nat)) (K : Env -> Prop) (ns : List aq) (dst : Option Nat) (_ : Tag (hs,K,ns)) (e : Env) (R : List Nat) (acc : List (List Nat × List Nat)) (c i off : Nat) (d : D) : Prop:=match d with
 | .blk _ es=>∃ r,es[i]? = some r /\ ∃ d,r[off]? = some d /\ cO dst (kOf C hs K ns e R acc) (ldc (.r c) i off d)
 | _=>False
@[simp] theorem Io {c i off sz es} : vT C hs K ns dst u e R acc c i off (.blk sz es)=fv es[i]? (fun r=>vc r[off]? (fun d=>dW C hs K ns dst ⟨⟩ e R acc (ldc (.r c) i off d)) ⟨⟩) ⟨⟩:=by
 simp only [vT,eA,ve];rfl
def Ip (C : CC) (hs : Option (List Nat)) (K : Env -> Prop) (ns : List aq) (dst : Option Nat) (_ : Tag (hs,K,ns)) (e : Env) (R : List Nat) (acc : List (List Nat × List Nat)) (q : Nat) (d : D) : Prop:=match d with
 | .adr (.r c) i off=>off=q /\ vT C hs K ns dst ⟨⟩ e R acc c i off (ab e c)
 | _=>False
@[simp] theorem Iq {q c i off} : Ip C hs K ns dst u e R acc q (.adr (.r c) i off)=(off=q /\ vT C hs K ns dst ⟨⟩ e R acc c i off (ab e c)):=_root_.id rfl
@[simp] theorem OO {q x v1} : opW C hs K ns dst (.ldQ q x) v1 e R acc=Ip C hs K ns dst ⟨⟩ e R acc q (vd (ab e) x):=_root_.id rfl
def va (C : CC) (hs : Option (List Nat)) (K : Env -> Prop) (ns : List aq) (t : Nat) (_ : Tag (hs,K,ns)) (e : Env) (R : List Nat) (acc : List (List Nat × List Nat)) (sz by_ : Nat) (rowsY : List (List D)) (c i o k n : Nat) (d : D) : Prop:=match d with
 | .blk sz0 es0=>∃ row0,es0[i]? = some row0 /\ ∃ es,row0[o]? = some (.own sz es) /\ k + n <= es.length /\ (n + rowsY.length) * by_ <= 140737488355328 /\
   kOf C hs K ns e R acc [(t,.ref (.r (rt t 0)) 0 (n + rowsY.length)),(rt t 0,.blk sz ((es.drop k).take n++rowsY)),(c,.blk sz0 (a8 es0 i o 1 [.any]))] [(rt t 0,true)]
 | _=>False
@[simp] theorem EY {t sz by_ rowsY c i o k n sz0 es0} : va C hs K ns t u e R acc sz by_ rowsY c i o k n (.blk sz0 es0)=fv es0[i]? (fun row0=>iM row0[o]? (fun sz' es=>sz'=sz /\ k + n <= es.length /\ (n + rowsY.length) * by_ <= 140737488355328 /\
   doW C hs K ns ⟨⟩ e R acc [(t,.ref (.r (rt t 0)) 0 (n + rowsY.length)),(rt t 0,.blk sz ((es.drop k).take n++rowsY)),(c,.blk sz0 (a8 es0 i o 1 [.any]))] [(rt t 0,true)]) ⟨⟩) ⟨⟩:=by
 simp only [va,eA,im]
 refine propext ⟨?_,?_⟩
 ·rintro ⟨row0,h1,es,h2,h3,h4,h5⟩
  exact ⟨row0,h1,sz,es,h2,rfl,h3,h4,h5⟩
 ·rintro ⟨row0,h1,sz',es,h2,rfl,h3,h4,h5⟩
  exact ⟨row0,h1,es,h2,h3,h4,h5⟩
def EZ (C : CC) (hs : Option (List Nat)) (K : Env -> Prop) (ns : List aq) (t : Nat) (_ : Tag (hs,K,ns)) (e : Env) (R : List Nat) (acc : List (List Nat × List Nat)) (q sz by_ : Nat) (yd : D) (d : D) : Prop:=match d with
 | .ref (.n c i o') k n=>o'=q /\ ew (ab e) false yd sz fun rowsY bs=>bs=[] /\ c ≠ rt t 0 /\ va C hs K ns t ⟨⟩ e R acc sz by_ rowsY c i o' k n (ab e c)
 | _=>False
@[simp] theorem E0 {t q sz by_ yd c i o k n} : EZ C hs K ns t u e R acc q sz by_ yd (.ref (.n c i o) k n)=(o=q /\ gU (ab e) false yd sz (fun rowsY bs=>bs=[] /\ c ≠ rt t 0 /\ va C hs K ns t ⟨⟩ e R acc sz by_ rowsY c i o k n (ab e c)) ⟨⟩):=_root_.id rfl
@[simp] theorem Je {t q sz by_ x y v1} : opW C hs K ns (some t) (.appQ q sz by_ x y) v1 e R acc=EZ C hs K ns t ⟨⟩ e R acc q sz by_ (vd (ab e) y) (vd (ab e) x):=_root_.id rfl
def zh (C : CC) (hs : Option (List Nat)) (K : Env -> Prop) (ns : List aq) (t : Nat) (_ : Tag (hs,K,ns)) (e : Env) (R : List Nat) (acc : List (List Nat × List Nat)) (sz : Nat) (rows : List (List D)) (b k n : Nat) (d : D) : Prop:=match d with
 | .blk sz' es=>sz'=sz /\ k + n <= es.length /\ (∀ e ∈ es,∀ c ∈ e,aw c=true) /\ (∀ e ∈ rows,∀ c ∈ e,aw c=true) /\ kOf C hs K ns e R acc [(t,.int .i64 (min rows.length n : Nat)),(b,.blk sz (gz es k (rows.take n)))] []
 | _=>False
@[simp] theorem Fu {t sz rows b k n sz' es} : zh C hs K ns t u e R acc sz rows b k n (.blk sz' es)=(sz'=sz /\ k + n <= es.length /\ (∀ e ∈ es,∀ c ∈ e,aw c=true) /\ (∀ e ∈ rows,∀ c ∈ e,aw c=true) /\ doW C hs K ns ⟨⟩ e R acc [(t,.int .i64 (min rows.length n : Nat)),(b,.blk sz (gz es k (rows.take n)))] []):=_root_.id rfl
def Fv (C : CC) (hs : Option (List Nat)) (K : Env -> Prop) (ns : List aq) (t : Nat) (_ : Tag (hs,K,ns)) (e : Env) (R : List Nat) (acc : List (List Nat × List Nat)) (sz : Nat) (rows : List (List D)) (d : D) : Prop:=match d with
 | .ref (.r b) k n=>(n=0 -> kOf C hs K ns e R acc [(t,.int .i64 0)] []) /\ (0 < n -> zh C hs K ns t ⟨⟩ e R acc sz rows b k n (ab e b))
 | _=>False
@[simp] theorem Fw {t sz rows b k n} : Fv C hs K ns t u e R acc sz rows (.ref (.r b) k n)=((n=0 -> doW C hs K ns ⟨⟩ e R acc [(t,.int .i64 0)] []) /\ (0 < n -> zh C hs K ns t ⟨⟩ e R acc sz rows b k n (ab e b))):=_root_.id rfl
@[simp] theorem OG {t sz x y v1} : opW C hs K ns (some t) (.cpy sz x y) v1 e R acc=gU (ab e) false (vd (ab e) y) sz (fun rows bs=>bs=[] /\ 0 < rows.length /\ Fv C hs K ns t ⟨⟩ e R acc sz rows (vd (ab e) x)) ⟨⟩:=_root_.id rfl
def Ad (C : CC) (hs : Option (List Nat)) (K : Env -> Prop) (ns : List aq) (t : Nat) (_ : Tag (hs,K,ns)) (e : Env) (R : List Nat) (acc : List (List Nat × List Nat)) (n c : Nat) (d : D) : Prop:=match d with
 | .blk _ [row]=>row.length=n /\ okR (.agg row)=true /\ (aO t (.agg row)).all (fun p=>p.1 != c)=true /\ doW C hs K ns ⟨⟩ e R acc ((t,dJ t (.agg row))::(c,.any)::aO t (.agg row)) (dz t (.agg row))
 | _=>False
@[simp] theorem Il {t n c sz row} : Ad C hs K ns t u e R acc n c (.blk sz [row])=(row.length=n /\ okR (.agg row)=true /\ (aO t (.agg row)).all (fun p=>p.1 != c)=true /\ doW C hs K ns ⟨⟩ e R acc ((t,dJ t (.agg row))::(c,.any)::aO t (.agg row)) (dz t (.agg row))):=_root_.id rfl
def Im (C : CC) (hs : Option (List Nat)) (K : Env -> Prop) (ns : List aq) (t : Nat) (_ : Tag (hs,K,ns)) (e : Env) (R : List Nat) (acc : List (List Nat × List Nat)) (n : Nat) (d : D) : Prop:=match d with
 | .adr (.r c) i off=>i=0 /\ off=0 /\ Ad C hs K ns t ⟨⟩ e R acc n c (ab e c)
 | _=>False
@[simp] theorem In {t n c i off} : Im C hs K ns t u e R acc n (.adr (.r c) i off)=(i=0 /\ off=0 /\ Ad C hs K ns t ⟨⟩ e R acc n c (ab e c)):=_root_.id rfl
@[simp] theorem ON {t n x v1} : opW C hs K ns (some t) (.ldM n x) v1 e R acc=Im C hs K ns t ⟨⟩ e R acc n (vd (ab e) x):=_root_.id rfl
def vR (C : CC) (hs : Option (List Nat)) (K : Env -> Prop) (ns : List aq) (t : Nat) (_ : Tag (hs,K,ns)) (e : Env) (R : List Nat) (acc : List (List Nat × List Nat)) (n c i off : Nat) (d : D) : Prop:=match d with
 | .blk _ es=>∃ r,es[i]? = some r /\ off + n <= r.length /\ doW C hs K ns ⟨⟩ e R acc [(t,.agg (((r.drop off).take n).map a6)),(c,.any)] []
 | _=>False
@[simp] theorem Ii {t n c i off sz es} : vR C hs K ns t u e R acc n c i off (.blk sz es)=fv es[i]? (fun r=>off + n <= r.length /\ doW C hs K ns ⟨⟩ e R acc [(t,.agg (((r.drop off).take n).map a6)),(c,.any)] []) ⟨⟩:=by
 simp only [vR,eA]
def Ij (C : CC) (hs : Option (List Nat)) (K : Env -> Prop) (ns : List aq) (t : Nat) (_ : Tag (hs,K,ns)) (e : Env) (R : List Nat) (acc : List (List Nat × List Nat)) (n : Nat) (d : D) : Prop:=match d with
 | .adr (.r c) i off=>vR C hs K ns t ⟨⟩ e R acc n c i off (ab e c)
 | _=>False
@[simp] theorem Ik {t n c i off} : Ij C hs K ns t u e R acc n (.adr (.r c) i off)=vR C hs K ns t ⟨⟩ e R acc n c i off (ab e c):=_root_.id rfl
@[simp] theorem OM {t n x v1} : opW C hs K ns (some t) (.ldF n x) v1 e R acc=Ij C hs K ns t ⟨⟩ e R acc n (vd (ab e) x):=_root_.id rfl
def A4 (C : CC) (hs : Option (List Nat)) (K : Env -> Prop) (ns : List aq) (t : Nat) (_ : Tag (hs,K,ns)) (e : Env) (R : List Nat) (acc : List (List Nat × List Nat)) (len sz c : Nat) (d : D) : Prop:=match d with
 | .blk _ [row]=>0 < len /\ 0 < sz /\ row.length=len * sz /\ (∀ d ∈ row,aw d=true) /\ doW C hs K ns ⟨⟩ e R acc [(t,.ref (.r (rt t 0)) 0 len),(rt t 0,.blk sz (bZ sz len row)),(c,.any)] [(rt t 0,true)]
 | _=>False
@[simp] theorem JN {t len sz c sz0 row} : A4 C hs K ns t u e R acc len sz c (.blk sz0 [row])=(0 < len /\ 0 < sz /\ row.length=len * sz /\ (∀ d ∈ row,aw d=true) /\ doW C hs K ns ⟨⟩ e R acc [(t,.ref (.r (rt t 0)) 0 len),(rt t 0,.blk sz (bZ sz len row)),(c,.any)] [(rt t 0,true)]):=_root_.id rfl
def JO (C : CC) (hs : Option (List Nat)) (K : Env -> Prop) (ns : List aq) (t : Nat) (_ : Tag (hs,K,ns)) (e : Env) (R : List Nat) (acc : List (List Nat × List Nat)) (len sz : Nat) (d : D) : Prop:=match d with
 | .adr (.r c) i off=>i=0 /\ off=0 /\ c ≠ rt t 0 /\ A4 C hs K ns t ⟨⟩ e R acc len sz c (ab e c)
 | _=>False
@[simp] theorem JP {t len sz c i off} : JO C hs K ns t u e R acc len sz (.adr (.r c) i off)=(i=0 /\ off=0 /\ c ≠ rt t 0 /\ A4 C hs K ns t ⟨⟩ e R acc len sz c (ab e c)):=_root_.id rfl
@[simp] theorem OY {len sz x t v1} : opW C hs K ns (some t) (.slM len sz x) v1 e R acc=JO C hs K ns t ⟨⟩ e R acc len sz (vd (ab e) x):=_root_.id rfl
def gi (C : CC) (hs : Option (List Nat)) (K : Env -> Prop) (ns : List aq) (dst : Option Nat) (_ : Tag (hs,K,ns)) (e : Env) (R : List Nat) (acc : List (List Nat × List Nat)) (d : D) : Prop:=match d with
 | .agx ds=>dW C hs K ns dst ⟨⟩ e R acc (.ptx ds)
 | .agg ds=>dW C hs K ns dst ⟨⟩ e R acc (.ptr ds)
 | d=>aw d=true /\ dW C hs K ns dst ⟨⟩ e R acc (.ptr [d])
@[simp] theorem y6 {ds : List D} : dh (.agg ds)=ds:=_root_.id rfl
@[simp] theorem y7 {k n} : dh (.int k n)=[.int k n]:=_root_.id rfl
@[simp] theorem y8 {n} : dh (.str n)=[.str n]:=_root_.id rfl
@[simp] theorem xM {n} : dh (.bool n)=[.bool n]:=_root_.id rfl
@[simp] theorem Cl {n} : dh (.sl n)=[.sl n]:=_root_.id rfl
@[simp] theorem CP {f : Nat -> D} {es} : fB f [] es=es:=_root_.id rfl
@[simp] theorem zG {f : Nat -> D} {p ps es} : fB f (p::ps) es=fB f ps (es.set p.1 (dh (vd f p.2))):=_root_.id rfl
@[simp] theorem Jf {sz len zs parts v1} : opW C hs K ns dst (.blsF sz len zs parts) v1 e R acc=((∀ p ∈ parts,p.1 < len /\ (dh (vd (ab e) p.2)).length=sz /\ ∀ c ∈ dh (vd (ab e) p.2),aw c=true) /\ 0 < len /\
   (∀ r ∈ fB (ab e) parts (List.replicate len zs),∀ c ∈ r,aw c=true) /\ dW C hs K ns dst ⟨⟩ e R acc (.sl (fB (ab e) parts (List.replicate len zs)))):=_root_.id rfl
@[simp] theorem Jg {sz len zs parts v1} : opW C hs K ns dst (.blsX sz len zs parts) v1 e R acc=(zs.all aw=true /\ (∀ p ∈ parts,p.1 < len /\ match (generalizing:=false) vd (ab e) p.2 with
    | .agg ds=>ds.length=sz
    | .agx ds=>ds.length=sz
    | _=>False) /\ dW C hs K ns dst ⟨⟩ e R acc (.rfx len sz (iF (ab e) sz len zs parts))):=_root_.id rfl
attribute [simp] iF
@[simp] theorem Jh {x v1} : opW C hs K ns dst (.boxF x) v1 e R acc=gi C hs K ns dst ⟨⟩ e R acc (vd (ab e) x):=_root_.id rfl
@[simp] theorem Fd {ds} : gi C hs K ns dst u e R acc (.agx ds)=dW C hs K ns dst ⟨⟩ e R acc (.ptx ds):=_root_.id rfl
@[simp] theorem Fc {ds} : gi C hs K ns dst u e R acc (.agg ds)=dW C hs K ns dst ⟨⟩ e R acc (.ptr ds):=_root_.id rfl
@[simp] theorem Fe {k n} : gi C hs K ns dst u e R acc (.int k n)=dW C hs K ns dst ⟨⟩ e R acc (.ptr [.int k n]):=by simp [gi]
@[simp] theorem BU {n} : gi C hs K ns dst u e R acc (.bool n)=dW C hs K ns dst ⟨⟩ e R acc (.ptr [.bool n]):=by simp [gi]
@[simp] theorem Fh {n} : gi C hs K ns dst u e R acc (.str n)=dW C hs K ns dst ⟨⟩ e R acc (.ptr [.str n]):=by simp [gi]
@[simp] theorem BV : gi C hs K ns dst u e R acc .nils=dW C hs K ns dst ⟨⟩ e R acc (.ptr [.nils]):=by simp [gi]
@[simp] theorem Ke {es} : gi C hs K ns dst u e R acc (.sl es)=dW C hs K ns dst ⟨⟩ e R acc (.ptr [.sl es]):=by simp [gi]
@[simp] theorem Fg {b es} : gi C hs K ns dst u e R acc (slx b es)=dW C hs K ns dst ⟨⟩ e R acc (.ptr [slx b es]):=by
 rcases eF b es with h | ⟨h,_⟩ <;> rw [h] <;> simp
@[simp] theorem Ff {es} : gi C hs K ns dst u e R acc (.ptr es)=dW C hs K ns dst ⟨⟩ e R acc (.ptr [.ptr es]):=by simp [gi]
@[simp] theorem Kd {g es} : gi C hs K ns dst u e R acc (.fn g es)=dW C hs K ns dst ⟨⟩ e R acc (.ptr [.fn g es]):=by simp [gi]
@[simp] theorem OP {x v1} : opW C hs K ns dst (.len x) v1 e R acc=pJ (vd (ab e) x) (fun n=>dW C hs K ns dst ⟨⟩ e R acc (.int .i64 n)) ⟨⟩:=by
 show res (ab e) _ (.len x)=_
 simp only [res,pJ]
 cases vd (ab e) x <;> rfl
def pF (C : CC) (hs : Option (List Nat)) (K : Env -> Prop) (ns : List aq) (dst : Option Nat) (_ : Tag (hs,K,ns)) (e : Env) (R : List Nat) (acc : List (List Nat × List Nat)) (sz : Nat) (x i : D) : Prop:=match (generalizing:=false) x,i with
  | .sl es,.int _ j=>0 <= j /\ gj C hs K ns dst ⟨⟩ e R acc sz es j.toNat
  | .slv _ es,.int _ j=>0 <= j /\ gj C hs K ns dst ⟨⟩ e R acc sz es j.toNat
  | .rfx n sz' ds,.int _ j=>0 <= j /\ j.toNat < n /\ sz'=sz /\ dW C hs K ns dst ⟨⟩ e R acc (.ptx (ds.drop (j.toNat * sz)))
  | .ref p k n,.int _ j=>0 <= j /\ j.toNat < n /\ match (generalizing:=false) aR (ab e) p with
   | some (sz',_)=>sz'=sz /\ dW C hs K ns dst ⟨⟩ e R acc (.adr p (k + j.toNat) 0)
   | none=>False
  | _,_=>False
@[simp] theorem Jl {sz x i v1} : opW C hs K ns dst (.iadS sz x i) v1 e R acc=pF C hs K ns dst ⟨⟩ e R acc sz (vd (ab e) x) (vd (ab e) i):=_root_.id rfl
@[simp] theorem Gm {sz sz' n ds k j} : pF C hs K ns dst u e R acc sz (.rfx n sz' ds) (.int k j)=(0 <= j /\ j.toNat < n /\ sz'=sz /\ dW C hs K ns dst ⟨⟩ e R acc (.ptx (ds.drop (j.toNat * sz)))):=_root_.id rfl
@[simp] theorem KX {sz es k j} : pF C hs K ns dst u e R acc sz (.sl es) (.int k j)=(0 <= j /\ gj C hs K ns dst ⟨⟩ e R acc sz es j.toNat):=_root_.id rfl
@[simp] theorem Gn {sz q es k j} : pF C hs K ns dst u e R acc sz (.slv q es) (.int k j)=(0 <= j /\ gj C hs K ns dst ⟨⟩ e R acc sz es j.toNat):=_root_.id rfl
@[simp] theorem Gp {sz b es k j} : pF C hs K ns dst u e R acc sz (slx b es) (.int k j)=(0 <= j /\ gj C hs K ns dst ⟨⟩ e R acc sz es j.toNat):=by
 rcases eF b es with h | ⟨h,rfl⟩
 ·rw [h];rfl
 ·rw [h];simp [pF,gj]
@[simp] theorem Gl {sz p k n k' j} : pF C hs K ns dst u e R acc sz (.ref p k n) (.int k' j)=(0 <= j /\ j.toNat < n /\ match (generalizing:=false) aR (ab e) p with
   | some (sz',_)=>sz'=sz /\ dW C hs K ns dst ⟨⟩ e R acc (.adr p (k + j.toNat) 0)
   | none=>False):=_root_.id rfl
def wD (C : CC) (hs : Option (List Nat)) (K : Env -> Prop) (ns : List aq) (dst : Option Nat) (_ : Tag (hs,K,ns)) (e : Env) (R : List Nat) (acc : List (List Nat × List Nat)) (sz : Nat) (x : D) (lo hi : Option Opd) : Prop:=match (generalizing:=false) x with
  | .sl es=>(∀ e ∈ es,e.length=sz) /\ dc (ab e) hi es.length (fun h=>dc (ab e) lo 0 (fun l=>l <= h /\ h <= es.length /\ dW C hs K ns dst ⟨⟩ e R acc (.sl ((es.take h).drop l))) ⟨⟩) ⟨⟩
  | .nils=>dc (ab e) hi 0 (fun h=>dc (ab e) lo 0 (fun l=>l <= h /\ h <= 0 /\ dW C hs K ns dst ⟨⟩ e R acc (.sl [])) ⟨⟩) ⟨⟩
  | .ref p k n=>match (generalizing:=false) aR (ab e) p with
   | some (sz',_)=>sz'=sz /\ dc (ab e) hi n (fun h=>dc (ab e) lo 0 (fun l=>l <= h /\ h <= n /\ dW C hs K ns dst ⟨⟩ e R acc (.ref p (k + l) (h - l))) ⟨⟩) ⟨⟩
   | none=>False
  | _=>False
@[simp] theorem O0 {sz x lo hi v1} : opW C hs K ns dst (.slc sz x lo hi) v1 e R acc=wD C hs K ns dst ⟨⟩ e R acc sz (vd (ab e) x) lo hi:=_root_.id rfl
@[simp] theorem O4 {sz es lo hi} : wD C hs K ns dst u e R acc sz (.sl es) lo hi=((∀ e ∈ es,e.length=sz) /\ dc (ab e) hi es.length (fun h=>dc (ab e) lo 0 (fun l=>l <= h /\ h <= es.length /\ dW C hs K ns dst ⟨⟩ e R acc (.sl ((es.take h).drop l))) ⟨⟩) ⟨⟩):=_root_.id rfl
@[simp] theorem EE {sz lo hi} : wD C hs K ns dst u e R acc sz .nils lo hi=dc (ab e) hi 0 (fun h=>dc (ab e) lo 0 (fun l=>l <= h /\ h <= 0 /\ dW C hs K ns dst ⟨⟩ e R acc (.sl [])) ⟨⟩) ⟨⟩:=_root_.id rfl
@[simp] theorem JM {sz p k n lo hi} : wD C hs K ns dst u e R acc sz (.ref p k n) lo hi=(match (generalizing:=false) aR (ab e) p with
   | some (sz',_)=>sz'=sz /\ dc (ab e) hi n (fun h=>dc (ab e) lo 0 (fun l=>l <= h /\ h <= n /\ dW C hs K ns dst ⟨⟩ e R acc (.ref p (k + l) (h - l))) ⟨⟩) ⟨⟩
   | none=>False):=_root_.id rfl
@[simp] theorem En {x xs v1} : opW C hs K ns dst (.callv x xs) v1 e R acc=(match (generalizing:=false) vd (ab e) x with
  | .fn g cs=>(∀ x ∈ xs,br (ab e) (vd (ab e) x)) /\ n5 C g hs K ns dst ⟨⟩ e R acc (xs.all fun x=>isV (vd (ab e) x)) (xs.map (dpv (ab e))++cs)
  | .fnx g cs=>(∀ x ∈ xs,br (ab e) (vd (ab e) x)) /\ (∀ c ∈ cs,aK (ab e) c) /\ n5 C g hs K ns dst ⟨⟩ e R acc false (xs.map (dpv (ab e))++cs.map (dp1 (ab e)))
  | _=>False):=by
 simp only [opW,au,n5,cO,Bool.false_eq_true,or_false]
 cases vd (ab e) x <;> rfl
def mpT (x : D) (K : Nat -> Nat -> List D -> List D -> Prop) (_ : Tag K) : Prop:=match x with
 | .mp kt et ks vs=>K kt et ks vs
 | _=>False
@[simp] theorem Qt {kt et ks vs K u} : mpT (.mp kt et ks vs) K u=K kt et ks vs:=_root_.id rfl
@[simp] theorem OR {kt et t v1} : opW C hs K ns (some t) (.mkm kt et) v1 e R acc=doW C hs K ns ⟨⟩ e R acc [(t,.mrf (rt t 0)),(rt t 0,.mp kt et [] [])] [(rt t 0,true)]:=_root_.id rfl
def mlM (C : CC) (hs : Option (List Nat)) (K : Env -> Prop) (ns : List aq) (dst : Option Nat) (_ : Tag (hs,K,ns)) (e : Env) (R : List Nat) (acc : List (List Nat × List Nat)) (sh : KSh) (kt et : Nat) (ok : Bool) (z x m : D) : Prop:=match m with
 | .mrf b=>mpT (ab e b) (fun kt' et' ks vs=>kt'=kt /\ et'=et /\ cV sh x /\ match ok with
    | true=>dW C hs K ns dst ⟨⟩ e R acc (.tup [(cX ks vs x).getD z,.bool (cX ks vs x).isSome])
    | false=>dW C hs K ns dst ⟨⟩ e R acc ((cX ks vs x).getD z)) ⟨⟩
 | _=>False
@[simp] theorem Oh {sh kt et ok z x b} : mlM C hs K ns dst u e R acc sh kt et ok z x (.mrf b)=mpT (ab e b) (fun kt' et' ks vs=>kt'=kt /\ et'=et /\ cV sh x /\ match ok with
    | true=>dW C hs K ns dst ⟨⟩ e R acc (.tup [(cX ks vs x).getD z,.bool (cX ks vs x).isSome])
    | false=>dW C hs K ns dst ⟨⟩ e R acc ((cX ks vs x).getD z)) ⟨⟩:=_root_.id rfl
@[simp] theorem OU {sh kt et ok z m x v1} : opW C hs K ns dst (.mpl sh kt et ok z m x) v1 e R acc=mlM C hs K ns dst ⟨⟩ e R acc sh kt et ok z (vd (ab e) x) (vd (ab e) m):=by
 show res (ab e) _ (.mpl sh kt et ok z m x)=_
 simp only [res,mlM]
 cases vd (ab e) m <;> rfl
def muM (C : CC) (hs : Option (List Nat)) (K : Env -> Prop) (ns : List aq) (_ : Tag (hs,K,ns)) (e : Env) (R : List Nat) (acc : List (List Nat × List Nat)) (sh : KSh) (kt et : Nat) (z x v m : D) : Prop:=match m with
 | .mrf b=>mpT (ab e b) (fun kt' et' ks vs=>kt'=kt /\ et'=et /\ ks.length < maxLen /\ cV sh x /\ gC z v /\ doW C hs K ns ⟨⟩ e R acc [(b,.mp kt et (x::ks) (v::vs))] []) ⟨⟩
 | _=>False
@[simp] theorem Oi {sh kt et z x v b} : muM C hs K ns u e R acc sh kt et z x v (.mrf b)=mpT (ab e b) (fun kt' et' ks vs=>kt'=kt /\ et'=et /\ ks.length < maxLen /\ cV sh x /\ gC z v /\ doW C hs K ns ⟨⟩ e R acc [(b,.mp kt et (x::ks) (v::vs))] []) ⟨⟩:=_root_.id rfl
@[simp] theorem OV {sh kt et z m x v v1} : opW C hs K ns dst (.mpu sh kt et z m x v) v1 e R acc=(dst=none /\ muM C hs K ns ⟨⟩ e R acc sh kt et z (vd (ab e) x) (vd (ab e) v) (vd (ab e) m)):=by
 show (dst=none /\ _)=_
 congr 1
end
@[simp] theorem z6 {s} : cV .str (.str s)=(s.length <= maxLen):=_root_.id rfl
@[simp] theorem xZ {b} : cV .bool (.bool b)=True:=_root_.id rfl
@[simp] theorem zZ {q q' n} : cV (.int q) (.int q' n)=(q'=q /\ ow q n):=_root_.id rfl
@[simp] theorem x5 {q n ds} : cV (.ints q n) (.agg ds)=(ds.length=n /\ ∀ d ∈ ds,∃ x,d=.int q x /\ ow q x):=_root_.id rfl
@[simp] theorem CO {s z} : gC (.str z) (.str s)=(s.length <= maxLen):=_root_.id rfl
@[simp] theorem zz {b z} : gC (.bool z) (.bool b)=True:=_root_.id rfl
@[simp] theorem CN {q q' n z} : gC (.int q z) (.int q' n)=(q'=q /\ ow q n):=_root_.id rfl
@[simp] theorem GA {n : Int} : ow .i64 n=(-9223372036854775808 <= n /\ n <= 9223372036854775807):=by
 have e1 : IntKind.i64.min=-9223372036854775808:=rfl
 have e2 : IntKind.i64.max=9223372036854775807:=rfl
 simp [ow,Lit.wf,e1,e2]
attribute [simp] gS eK bN dJ cz bI aO dz tR okR oS kx cD
attribute [simp] vd params eu iP iQ iO lm lS ub prune jy isC gG aR QH a8 dpv bW stK bl rt chk rdS rdR frR fwR fp rdN gD wrK mnR AN ldN af gR oo wOk Pa.root cg bJ
end Go.Gv

namespace Go.Gv
section
variable {C : CC}
def AO (id : Nat) (S : Type) (G : S -> Env) (J : S -> Prop) (Q : ct -> Env -> Prop) : ct -> Env -> Prop:=fun t e=>match t with
 | .ext i=>if i=id then ∃ s,J s /\ jy e (G s) else Q (.ext i) e
 | t=>Q t e
variable {Q : ct -> Env -> Prop} {e : Env}
@[simp] theorem vz {id S G J u} : bS (AO id S G J Q) u .nrm e=bS Q ⟨⟩ .nrm e:=_root_.id rfl
@[simp] theorem vA {id S G J u} : bS (AO id S G J Q) u .ret e=bS Q ⟨⟩ .ret e:=_root_.id rfl
@[simp] theorem vy {id S G J u i} : bS (AO id S G J Q) u (.ext i) e=if i=id then ∃ s,J s /\ jy e (G s) else bS Q ⟨⟩ (.ext i) e:=_root_.id rfl
def Ai (S : Type) (G : S -> Env) (J : S -> Prop) (Q : ct -> Env -> Prop) : ct -> Env -> Prop:=fun t e=>match t with
 | .nrm=>∃ s,J s /\ jy e (G s)
 | t=>Q t e
@[simp] theorem vw {S G J u} : bS (Ai S G J Q) u .nrm e=∃ s,J s /\ jy e (G s):=_root_.id rfl
@[simp] theorem vx {S G J u} : bS (Ai S G J Q) u .ret e=bS Q ⟨⟩ .ret e:=_root_.id rfl
@[simp] theorem vu {S G J u i} : bS (Ai S G J Q) u (.ext i) e=bS Q ⟨⟩ (.ext i) e:=_root_.id rfl
end
@[simp] theorem JH {C : CC} {hs : Option (List Nat)} {K : Env -> Prop} {ns : List aq} {dst : Option Nat} {u : Tag (hs,K,ns)} {e : Env} {R : List Nat} {acc : List (List Nat × List Nat)} {α : Type} [Inhabited α] {n : Nat} {ag : Bool} {p : Pa} {xs : List α} {f : α -> List D} {i off : Nat} :
  jZ C hs K ns dst u e R acc n ag p (xs.map f) i off=(i < xs.length /\ off + n <= (f xs[i]!).length /\ match ag with
    | true=>((((f xs[i]!).drop off).take n).all isV=true -> dW C hs K ns dst ⟨⟩ e R acc (.agg (((f xs[i]!).drop off).take n))) /\
      ((((f xs[i]!).drop off).take n).all isV=false -> dW C hs K ns dst ⟨⟩ e R acc (.agx ((((f xs[i]!).drop off).take n).mapIdx fun j c=>ldc p i (off + j) c)))
    | false=>dW C hs K ns dst ⟨⟩ e R acc (ldc p i off (((f xs[i]!).drop off).headD .any))):=by
 apply propext
 constructor
 ·rintro ⟨r,h,h1,h2⟩
  rw [List.getElem?_map,Option.map_eq_some_iff] at h
  obtain ⟨x,hx,rfl⟩:=h
  obtain ⟨hi,rfl⟩:=List.getElem?_eq_some_iff.1 hx
  rw [getElem!_pos xs i hi]
  refine ⟨hi,h1,?_⟩
  cases ag <;> exact h2
 ·rintro ⟨hi,h1,h2⟩
  rw [getElem!_pos xs i hi] at h1 h2
  refine nN (r:=f xs[i]) (by rw [List.getElem?_map,List.getElem?_eq_getElem hi];rfl) h1 ?_
  cases ag <;> exact h2
@[simp] theorem DJ {b all ks n} : aM ((b,all)::ks) (.ptx n)=if n.any (aA b all) then .any else aM ks (.ptx n):=by
 have h : aM ((b,all)::ks) (.ptx n)=bif (n.any (aA b all) || az ks (.ptx n)) then .any else .ptx n:=bH ..
 rw [h,bH]
 cases n.any (aA b all) <;> rfl
@[simp] theorem DL {b all ks k sz n} : aM ((b,all)::ks) (.rfx k sz n)=if n.any (aA b all) then .any else aM ks (.rfx k sz n):=by
 have h : aM ((b,all)::ks) (.rfx k sz n)=bif (n.any (aA b all) || az ks (.rfx k sz n)) then .any else .rfx k sz n:=bH ..
 rw [h,bH]
 cases n.any (aA b all) <;> rfl
@[simp] theorem DP {b all ks n} : aM ((b,all)::ks) (.tpx n)=if n.any (aA b all) then .any else aM ks (.tpx n):=by
 have h : aM ((b,all)::ks) (.tpx n)=bif (n.any (aA b all) || az ks (.tpx n)) then .any else .tpx n:=bH ..
 rw [h,bH]
 cases n.any (aA b all) <;> rfl
@[simp] theorem D3 {b all n es} : aA b all (slx n es)=false:=by cases n <;> cases es <;> rfl
@[simp] theorem D1 {b all p k n} : aA b all (.ref p k n)=bl b all p:=_root_.id rfl
@[simp] theorem DV {b all p k n} : aA b all (.adr p k n)=bl b all p:=_root_.id rfl
@[simp] theorem DW {b all T p k n} : aA b all (.ifa T p k n)=bl b all p:=_root_.id rfl
@[simp] theorem DX {b all T n} : aA b all (.ifi T n)=false:=_root_.id rfl
@[simp] theorem D2 {b all k n} : aA b all (.slv k n)=false:=_root_.id rfl
@[simp] theorem DZ {b all c} : aA b all (.mrf c)=(all && c == b):=_root_.id rfl
@[simp] theorem DY {b all k n} : aA b all (.int k n)=false:=_root_.id rfl
@[simp] theorem Af {b all n} : aA b all (.bool n)=false:=_root_.id rfl
@[simp] theorem D4 {b all n} : aA b all (.str n)=false:=_root_.id rfl
@[simp] theorem Ah {b all} : aA b all .nils=false:=_root_.id rfl
@[simp] theorem Ag {b all} : aA b all .nilp=false:=_root_.id rfl
@[simp] theorem IA {b all n} : aA b all (.sl n)=false:=_root_.id rfl
@[simp] theorem D0 {b all n} : aA b all (.ptr n)=false:=_root_.id rfl
@[simp] theorem Iz {b all g n} : aA b all (.fn g n)=false:=_root_.id rfl
@[simp] theorem DG {b all ks c} : aM ((b,all)::ks) (.mrf c)=if (all && c == b) then .any else aM ks (.mrf c):=by
 have h : aM ((b,all)::ks) (.mrf c)=bif ((all && c == b) || az ks (.mrf c)) then .any else .mrf c:=bH ..
 rw [h,bH]
 cases all && c == b <;> rfl
end Go.Gv

namespace Go.Gv
section
variable {C : CC} {hs : Option (List Nat)} {K : Env -> Prop} {ns : List aq} {dst : Option Nat} {u : Tag (hs,K,ns)} {e : Env} {R : List Nat} {acc : List (List Nat × List Nat)}
theorem aN {sz : Nat} {es : List (List D)} {i : Nat} {c : List D} (h : es[i]? = some c) : gj C hs K ns dst u e R acc sz es i=(c.length=sz /\ dW C hs K ns dst ⟨⟩ e R acc (.ptr c)):=by
 apply propext
 unfold gj dW
 rw [h]
 exact ⟨fun ⟨_,h1,h2⟩=>by cases h1;exact h2,fun h2=>⟨c,rfl,h2⟩⟩
theorem aH {n : Nat} {ag : Bool} {p : Pa} {es : List (List D)} {i off : Nat} {r : List D} (hr : es[i]? = some r) : jZ C hs K ns dst u e R acc n ag p es i off=(off + n <= r.length /\ match ag with
    | true=>(((r.drop off).take n).all isV=true -> dW C hs K ns dst ⟨⟩ e R acc (.agg ((r.drop off).take n))) /\
      (((r.drop off).take n).all isV=false -> dW C hs K ns dst ⟨⟩ e R acc (.agx (((r.drop off).take n).mapIdx fun j c=>ldc p i (off + j) c)))
    | false=>dW C hs K ns dst ⟨⟩ e R acc (ldc p i off ((r.drop off).headD .any))):=by
 apply propext
 constructor
 ·rintro ⟨r',h,h1,h2⟩
  rw [hr] at h
  cases h
  refine ⟨h1,?_⟩
  cases ag <;> exact h2
 ·rintro ⟨h1,h2⟩
  refine nN hr h1 ?_
  cases ag <;> exact h2
@[simp] theorem Gq {sz : Nat} {c0 : List D} {es : List (List D)} : gj C hs K ns dst u e R acc sz (c0::es) 0=(c0.length=sz /\ dW C hs K ns dst ⟨⟩ e R acc (.ptr c0)):=aN rfl
theorem ue {n : Nat} {ag : Bool} {p : Pa} {off : Nat} {c0 : List D} {es : List (List D)} : jZ C hs K ns dst u e R acc n ag p (c0::es) 0 off=(off + n <= c0.length /\ match ag with
    | true=>(((c0.drop off).take n).all isV=true -> dW C hs K ns dst ⟨⟩ e R acc (.agg ((c0.drop off).take n))) /\
      (((c0.drop off).take n).all isV=false -> dW C hs K ns dst ⟨⟩ e R acc (.agx (((c0.drop off).take n).mapIdx fun j c=>ldc p 0 (off + j) c)))
    | false=>dW C hs K ns dst ⟨⟩ e R acc (ldc p 0 off ((c0.drop off).headD .any))):=aH rfl
@[simp] theorem Gr {sz : Nat} {c0 c1 : List D} {es : List (List D)} : gj C hs K ns dst u e R acc sz (c0::c1::es) 1=(c1.length=sz /\ dW C hs K ns dst ⟨⟩ e R acc (.ptr c1)):=aN rfl
theorem uf {n : Nat} {ag : Bool} {p : Pa} {off : Nat} {c0 c1 : List D} {es : List (List D)} : jZ C hs K ns dst u e R acc n ag p (c0::c1::es) 1 off=(off + n <= c1.length /\ match ag with
    | true=>(((c1.drop off).take n).all isV=true -> dW C hs K ns dst ⟨⟩ e R acc (.agg ((c1.drop off).take n))) /\
      (((c1.drop off).take n).all isV=false -> dW C hs K ns dst ⟨⟩ e R acc (.agx (((c1.drop off).take n).mapIdx fun j c=>ldc p 1 (off + j) c)))
    | false=>dW C hs K ns dst ⟨⟩ e R acc (ldc p 1 off ((c1.drop off).headD .any))):=aH rfl
@[simp] theorem Gs {sz : Nat} {c0 c1 c2 : List D} {es : List (List D)} : gj C hs K ns dst u e R acc sz (c0::c1::c2::es) 2=(c2.length=sz /\ dW C hs K ns dst ⟨⟩ e R acc (.ptr c2)):=aN rfl
theorem ug {n : Nat} {ag : Bool} {p : Pa} {off : Nat} {c0 c1 c2 : List D} {es : List (List D)} : jZ C hs K ns dst u e R acc n ag p (c0::c1::c2::es) 2 off=(off + n <= c2.length /\ match ag with
    | true=>(((c2.drop off).take n).all isV=true -> dW C hs K ns dst ⟨⟩ e R acc (.agg ((c2.drop off).take n))) /\
      (((c2.drop off).take n).all isV=false -> dW C hs K ns dst ⟨⟩ e R acc (.agx (((c2.drop off).take n).mapIdx fun j c=>ldc p 2 (off + j) c)))
    | false=>dW C hs K ns dst ⟨⟩ e R acc (ldc p 2 off ((c2.drop off).headD .any))):=aH rfl
@[simp] theorem Gt {sz : Nat} {c0 c1 c2 c3 : List D} {es : List (List D)} : gj C hs K ns dst u e R acc sz (c0::c1::c2::c3::es) 3=(c3.length=sz /\ dW C hs K ns dst ⟨⟩ e R acc (.ptr c3)):=aN rfl
theorem uh {n : Nat} {ag : Bool} {p : Pa} {off : Nat} {c0 c1 c2 c3 : List D} {es : List (List D)} : jZ C hs K ns dst u e R acc n ag p (c0::c1::c2::c3::es) 3 off=(off + n <= c3.length /\ match ag with
    | true=>(((c3.drop off).take n).all isV=true -> dW C hs K ns dst ⟨⟩ e R acc (.agg ((c3.drop off).take n))) /\
      (((c3.drop off).take n).all isV=false -> dW C hs K ns dst ⟨⟩ e R acc (.agx (((c3.drop off).take n).mapIdx fun j c=>ldc p 3 (off + j) c)))
    | false=>dW C hs K ns dst ⟨⟩ e R acc (ldc p 3 off ((c3.drop off).headD .any))):=aH rfl
@[simp] theorem Gu {sz : Nat} {c0 c1 c2 c3 c4 : List D} {es : List (List D)} : gj C hs K ns dst u e R acc sz (c0::c1::c2::c3::c4::es) 4=(c4.length=sz /\ dW C hs K ns dst ⟨⟩ e R acc (.ptr c4)):=aN rfl
theorem ui {n : Nat} {ag : Bool} {p : Pa} {off : Nat} {c0 c1 c2 c3 c4 : List D} {es : List (List D)} : jZ C hs K ns dst u e R acc n ag p (c0::c1::c2::c3::c4::es) 4 off=(off + n <= c4.length /\ match ag with
    | true=>(((c4.drop off).take n).all isV=true -> dW C hs K ns dst ⟨⟩ e R acc (.agg ((c4.drop off).take n))) /\
      (((c4.drop off).take n).all isV=false -> dW C hs K ns dst ⟨⟩ e R acc (.agx (((c4.drop off).take n).mapIdx fun j c=>ldc p 4 (off + j) c)))
    | false=>dW C hs K ns dst ⟨⟩ e R acc (ldc p 4 off ((c4.drop off).headD .any))):=aH rfl
attribute [simp] ue uf ug uh ui
end
end Go.Gv

namespace Go.Gv
section
variable {C : CC} {hs : Option (List Nat)} {K : Env -> Prop} {ns : List aq} {dst : Option Nat} {u : Tag (hs,K,ns)} {e : Env} {R : List Nat} {acc : List (List Nat × List Nat)}
@[simp] theorem Gw {sz : Nat} {c0 c1 c2 c3 c4 c5 : List D} {es : List (List D)} : gj C hs K ns dst u e R acc sz (c0::c1::c2::c3::c4::c5::es) 5=(c5.length=sz /\ dW C hs K ns dst ⟨⟩ e R acc (.ptr c5)):=aN rfl
@[simp] theorem JE {n : Nat} {ag : Bool} {p : Pa} {off : Nat} {c0 c1 c2 c3 c4 c5 : List D} {es : List (List D)} : jZ C hs K ns dst u e R acc n ag p (c0::c1::c2::c3::c4::c5::es) 5 off=(off + n <= c5.length /\ match ag with
    | true=>(((c5.drop off).take n).all isV=true -> dW C hs K ns dst ⟨⟩ e R acc (.agg ((c5.drop off).take n))) /\
      (((c5.drop off).take n).all isV=false -> dW C hs K ns dst ⟨⟩ e R acc (.agx (((c5.drop off).take n).mapIdx fun j c=>ldc p 5 (off + j) c)))
    | false=>dW C hs K ns dst ⟨⟩ e R acc (ldc p 5 off ((c5.drop off).headD .any))):=aH rfl
@[simp] theorem Gx {sz : Nat} {c0 c1 c2 c3 c4 c5 c6 : List D} {es : List (List D)} : gj C hs K ns dst u e R acc sz (c0::c1::c2::c3::c4::c5::c6::es) 6=(c6.length=sz /\ dW C hs K ns dst ⟨⟩ e R acc (.ptr c6)):=aN rfl
@[simp] theorem JF {n : Nat} {ag : Bool} {p : Pa} {off : Nat} {c0 c1 c2 c3 c4 c5 c6 : List D} {es : List (List D)} : jZ C hs K ns dst u e R acc n ag p (c0::c1::c2::c3::c4::c5::c6::es) 6 off=(off + n <= c6.length /\ match ag with
    | true=>(((c6.drop off).take n).all isV=true -> dW C hs K ns dst ⟨⟩ e R acc (.agg ((c6.drop off).take n))) /\
      (((c6.drop off).take n).all isV=false -> dW C hs K ns dst ⟨⟩ e R acc (.agx (((c6.drop off).take n).mapIdx fun j c=>ldc p 6 (off + j) c)))
    | false=>dW C hs K ns dst ⟨⟩ e R acc (ldc p 6 off ((c6.drop off).headD .any))):=aH rfl
@[simp] theorem Gy {sz : Nat} {c0 c1 c2 c3 c4 c5 c6 c7 : List D} {es : List (List D)} : gj C hs K ns dst u e R acc sz (c0::c1::c2::c3::c4::c5::c6::c7::es) 7=(c7.length=sz /\ dW C hs K ns dst ⟨⟩ e R acc (.ptr c7)):=aN rfl
@[simp] theorem JG {n : Nat} {ag : Bool} {p : Pa} {off : Nat} {c0 c1 c2 c3 c4 c5 c6 c7 : List D} {es : List (List D)} : jZ C hs K ns dst u e R acc n ag p (c0::c1::c2::c3::c4::c5::c6::c7::es) 7 off=(off + n <= c7.length /\ match ag with
    | true=>(((c7.drop off).take n).all isV=true -> dW C hs K ns dst ⟨⟩ e R acc (.agg ((c7.drop off).take n))) /\
      (((c7.drop off).take n).all isV=false -> dW C hs K ns dst ⟨⟩ e R acc (.agx (((c7.drop off).take n).mapIdx fun j c=>ldc p 7 (off + j) c)))
    | false=>dW C hs K ns dst ⟨⟩ e R acc (ldc p 7 off ((c7.drop off).headD .any))):=aH rfl
end
end Go.Gv

namespace Go.Gv
section
variable {C : CC} {hs : Option (List Nat)} {K : Env -> Prop} {ns : List aq} {e : Env} {R : List Nat} {acc : List (List Nat × List Nat)}
end
end Go.Gv

namespace Go.Gv
section
variable {C : CC} {hs : Option (List Nat)} {K : Env -> Prop} {ns : List aq} {e : Env} {R : List Nat} {acc : List (List Nat × List Nat)}
end
end Go.Gv

namespace Go.Gv
section
variable {C : CC} {hs : Option (List Nat)} {K : Env -> Prop} {ns : List aq} {dst : Option Nat} {e : Env} {R : List Nat} {acc : List (List Nat × List Nat)} {u : Tag (hs,K,ns)}
@[simp] theorem Eu : jd none=[]:=_root_.id rfl
@[simp] theorem Ev {x : Opd} : jd (some x)=[x]:=_root_.id rfl
@[simp] theorem JB {c c' k n : Nat} {q : Pa} : jl c q (.ref (.r c') k n)=if c'=c then .ref q k n else .ref (.r c') k n:=_root_.id rfl
@[simp] theorem Ey {c b i o k n : Nat} {q : Pa} : jl c q (.ref (.n b i o) k n)=.ref (.n b i o) k n:=_root_.id rfl
@[simp] theorem O3 {c : Nat} {q : Pa} {es} : jl c q (.sl es)=.sl es:=_root_.id rfl
@[simp] theorem Ex {c : Nat} {q : Pa} : jl c q .nils=.nils:=_root_.id rfl
@[simp] theorem JA {c : Nat} {q : Pa} {k n} : jl c q (.int k n)=.int k n:=_root_.id rfl
@[simp] theorem JC {c : Nat} {q : Pa} {b es} : jl c q (slx b es)=slx b es:=by cases b <;> cases es <;> rfl
@[simp] theorem zW {b c i o k n : Nat} : gN b (.ref (.n c i o) k n)=(c != b || (i == 0 && o == 1)):=_root_.id rfl
@[simp] theorem zX {b c k n : Nat} : gN b (.ref (.r c) k n)=true:=_root_.id rfl
@[simp] theorem Ia {b : Nat} {es} : gN b (.sl es)=true:=_root_.id rfl
@[simp] theorem zV {b : Nat} : gN b .nils=true:=_root_.id rfl
@[simp] theorem Ds {b : Nat} {k n} : gN b (.int k n)=true:=_root_.id rfl
@[simp] theorem Dt {b : Nat} {x es} : gN b (slx x es)=true:=by cases x <;> cases es <;> rfl
def vU (C : CC) (hs : Option (List Nat)) (K : Env -> Prop) (ns : List aq) (dst : Option Nat) (_ : Tag (hs,K,ns)) (e : Env) (R : List Nat) (acc : List (List Nat × List Nat)) (T : Nat) (d : D) : Prop:=match d with
 | .adr p i off=>dW C hs K ns dst ⟨⟩ e R acc (.ifa T p i off)
 | .int k n=>k=.i64 /\ dW C hs K ns dst ⟨⟩ e R acc (.ifi T n)
 | _=>False
@[simp] theorem OQ {T x v1} : opW C hs K ns dst (.mkI T x) v1 e R acc=vU C hs K ns dst ⟨⟩ e R acc T (vd (ab e) x):=by
 show res (ab e) _ (.mkI T x)=_
 simp only [res,vU]
 cases vd (ab e) x <;> rfl
@[simp] theorem IB {T p i off} : vU C hs K ns dst u e R acc T (.adr p i off)=dW C hs K ns dst ⟨⟩ e R acc (.ifa T p i off):=_root_.id rfl
@[simp] theorem IC {T k n} : vU C hs K ns dst u e R acc T (.int k n)=(k=.i64 /\ dW C hs K ns dst ⟨⟩ e R acc (.ifi T n)):=_root_.id rfl
def Bd (C : CC) (hs : Option (List Nat)) (K : Env -> Prop) (ns : List aq) (dst : Option Nat) (_ : Tag (hs,K,ns)) (e : Env) (R : List Nat) (acc : List (List Nat × List Nat)) (T : Nat) (d : D) : Prop:=match d with
 | .ifi T' n=>T'=T /\ dW C hs K ns dst ⟨⟩ e R acc (.int .i64 n)
 | _=>False
@[simp] theorem O1 {T x v1} : opW C hs K ns dst (.tya T x) v1 e R acc=Bd C hs K ns dst ⟨⟩ e R acc T (vd (ab e) x):=by
 show res (ab e) _ (.tya T x)=_
 simp only [res,Bd]
 cases vd (ab e) x <;> rfl
@[simp] theorem JW {T T' n} : Bd C hs K ns dst u e R acc T (.ifi T' n)=(T'=T /\ dW C hs K ns dst ⟨⟩ e R acc (.int .i64 n)):=_root_.id rfl
def pL (C : CC) (g : Nat) (hs : Option (List Nat)) (K : Env -> Prop) (ns : List aq) (dst : Option Nat) (_ : Tag (hs,K,ns)) (e : Env) (R : List Nat) (acc : List (List Nat × List Nat)) (b sz : Nat) (es : List (List D)) (W : List D) : Prop :=
 ∃ d,∃ es' : List (List D),0 < es'.length /\ C g (.blk sz es::W) d [.blk sz es',.nilp] /\ doW C hs K ns ⟨⟩ e R acc (bV dst d++[(b,.blk sz es')]) [(b,false)]
theorem b7 {g b sz : Nat} {es es' : List (List D)} {W : List D} {d : D} (h : C g (.blk sz es::W) d [.blk sz es',.nilp]) (hp : 0 < es'.length)
  (hk : doW C hs K ns ⟨⟩ e R acc (bV dst d++[(b,.blk sz es')]) [(b,false)]) : pL C g hs K ns dst u e R acc b sz es W:=⟨d,es',hp,h,hk⟩
def Fq (C : CC) (g : Nat) (hs : Option (List Nat)) (K : Env -> Prop) (ns : List aq) (dst : Option Nat) (_ : Tag (hs,K,ns)) (e : Env) (R : List Nat) (acc : List (List Nat × List Nat)) (T : Nat) (xs : List Opd) (d : D) : Prop:=match d with
 | .ifa T' (.r b) i off=>T'=T /\ i=0 /\ off=0 /\ cM (ab e b) (fun sz es=>0 < es.length /\ (∀ x ∈ xs,isV (vd (ab e) x)=true) /\ pL C g hs K ns dst ⟨⟩ e R acc b sz es (.adr (.r 10015) 0 0::xs.map (vd (ab e)))) ⟨⟩
 | _=>False
@[simp] theorem Pm {g xs T T' b i off} : Fq C g hs K ns dst u e R acc T xs (.ifa T' (.r b) i off)=(T'=T /\ i=0 /\ off=0 /\ cM (ab e b) (fun sz es=>0 < es.length /\ (∀ x ∈ xs,isV (vd (ab e) x)=true) /\ pL C g hs K ns dst ⟨⟩ e R acc b sz es (.adr (.r 10015) 0 0::xs.map (vd (ab e)))) ⟨⟩):=_root_.id rfl
@[simp] theorem Eh {g m T x xs v1} : opW C hs K ns dst (.callI g m T x xs) v1 e R acc=Fq C g hs K ns dst ⟨⟩ e R acc T xs (vd (ab e) x):=by
 unfold opW
 simp only [au]
 cases vd (ab e) x <;> first | rfl | skip
def Fr (C : CC) (g : Nat) (hs : Option (List Nat)) (K : Env -> Prop) (ns : List aq) (dst : Option Nat) (_ : Tag (hs,K,ns)) (e : Env) (R : List Nat) (acc : List (List Nat × List Nat)) (xs : List Opd) (d : D) : Prop:=match d with
 | .ifa T (.r b) i off=>i=0 /\ off=0 /\ cM (ab e b) (fun sz es=>0 < es.length /\ (∀ x ∈ xs,isV (vd (ab e) x)=true) /\ pL C g hs K ns dst ⟨⟩ e R acc b sz es (.ifa T (.r 10015) 0 0::xs.map (vd (ab e)))) ⟨⟩
 | _=>False
@[simp] theorem Po {g xs T b i off} : Fr C g hs K ns dst u e R acc xs (.ifa T (.r b) i off)=(i=0 /\ off=0 /\ cM (ab e b) (fun sz es=>0 < es.length /\ (∀ x ∈ xs,isV (vd (ab e) x)=true) /\ pL C g hs K ns dst ⟨⟩ e R acc b sz es (.ifa T (.r 10015) 0 0::xs.map (vd (ab e)))) ⟨⟩):=_root_.id rfl
@[simp] theorem Ej {g x xs v1} : opW C hs K ns dst (.callM g x xs) v1 e R acc=Fr C g hs K ns dst ⟨⟩ e R acc xs (vd (ab e) x):=by
 unfold opW
 simp only [au]
 cases vd (ab e) x <;> first | rfl | skip
def xP (C : CC) (g : Nat) (hs : Option (List Nat)) (K : Env -> Prop) (ns : List aq) (dst : Option Nat) (_ : Tag (hs,K,ns)) (e : Env) (R : List Nat) (acc : List (List Nat × List Nat)) (xs : List Opd) (d : D) : Prop:=match d with
 | .ref (.r b) k n=>k=0 /\ cM (ab e b) (fun sz es=>0 < es.length /\ es.length=n /\ (∀ x ∈ xs,isV (vd (ab e) x)=true) /\ pL C g hs K ns dst ⟨⟩ e R acc b sz es (.ref (.r 10015) 0 n::xs.map (vd (ab e)))) ⟨⟩
 | _=>False
@[simp] theorem Kg {g xs b k n} : xP C g hs K ns dst u e R acc xs (.ref (.r b) k n)=(k=0 /\ cM (ab e b) (fun sz es=>0 < es.length /\ es.length=n /\ (∀ x ∈ xs,isV (vd (ab e) x)=true) /\ pL C g hs K ns dst ⟨⟩ e R acc b sz es (.ref (.r 10015) 0 n::xs.map (vd (ab e)))) ⟨⟩):=_root_.id rfl
@[simp] theorem El {g x xs v1} : opW C hs K ns dst (.callR g x xs) v1 e R acc=xP C g hs K ns dst ⟨⟩ e R acc xs (vd (ab e) x):=by
 unfold opW
 simp only [au]
 cases vd (ab e) x <;> first | rfl | skip
theorem xb {x y : Opd} {v1 : _} {b i off n sz0 sz : Nat} {es0 es : List (List D)} {row0 : List D} (hx : vd (ab e) x=.adr (.r b) i off) (hy : vd (ab e) y=.ref (.n b i off) 0 n) (hb : ab e b=.blk sz0 es0) (h1 : es0[i]? = some row0) (h2 : row0[off]? = some (.own sz es)) (h3 : n <= es.length)
  (hk : doW C hs K ns ⟨⟩ e R acc [(b,.blk sz0 (a8 es0 i off 1 [.own sz (es.take n)]))] []) : opW C hs K ns none (.stL x y) v1 e R acc:=by
 unfold opW
 simp only [au]
 refine ⟨trivial,?_⟩
 rw [hx,hy]
 refine ⟨rfl,rfl,rfl,rfl,?_⟩
 rw [hb]
 exact ⟨row0,h1,sz,es,h2,h3,hk⟩
theorem jG {g s : Nat} {x : Opd} {xs : List Opd} {v1 : _} {T b sz sz1 sz2 : Nat} {fs sp fs' : List (List D)} {ds : List D} {d : D} (hx : vd (ab e) x=.ifa T (.r b) 0 0) (hs0 : s < 10000) (hd : dst ≠ some s) (hxs : ∀ x ∈ xs,aW (vd (ab e) x)=true)
  (hb : ab e b=.blk sz [[.own sz1 fs,.own sz2 sp]]) (hs1 : ab e s=.ptx ds) (hk1 : ds.all (gN b)=true) (f1 : ∀ e ∈ fs,∀ c ∈ e,aW c=true) (f2 : ∀ e ∈ sp,∀ c ∈ e,aW c=true) (hd1 : aW d=true \/ d=.tup []) (f3 : ∀ e ∈ fs',∀ c ∈ e,aW c=true)
  (hc : C g (.blk sz [[.own sz1 fs,.slv 0 sp]]::.ifa T (.r 10015) 0 0::xs.map (vd (ab e))) d [.blk sz [[.own sz1 fs',.slv 0 sp]],.nils])
  (hk : doW C hs K ns ⟨⟩ e R acc (bV dst d++[(b,.blk sz [[.own sz1 fs',.own sz2 sp]]),(s,.ptx ds)]) [(b,false)]) : opW C hs K ns dst (.callQ g s x xs) v1 e R acc:=by
 unfold opW
 simp only [au]
 rw [hx]
 refine ⟨rfl,rfl,hs0,hd,hxs,?_⟩
 rw [hb]
 simp only
 rw [hs1]
 exact ⟨hk1,f1,f2,d,fs',hd1,f3,hc,hk⟩
theorem sL {s t : Nat} {x : Opd} {v1 : _} {c n sz : Nat} {es : List (List D)} {ds : List D} (hs0 : s < 10000) (hst : s ≠ t) (hx : vd (ab e) x=.agx [.nils,.ref (.r c) 0 n]) (hc : c ≠ rt t 0) (hcb : ab e c=.blk sz es) (hsz : 0 < sz) (hl : es.length=n) (h1 : ∀ e ∈ es,∀ c ∈ e,aw c=true)
  (hs1 : ab e s=.ptx ds) (hm : (ds.all fun d=>!aA (rt t 0) true d)=true)
  (hk0 : n=0 -> doW C hs K ns ⟨⟩ e R acc [(t,.adr (.r (rt t 0)) 0 0),(rt t 0,.blk 2 [[.own sz [],.any]])] [(rt t 0,true)])
  (hk : 0 < n -> doW C hs K ns ⟨⟩ e R acc [(t,.adr (.r (rt t 0)) 0 0),(rt t 0,.blk 2 [[.own sz [],.own sz es]]),(c,.any),(s,.ptx (ds.map (jl c (.n (rt t 0) 0 1))))] [(rt t 0,true)]) : opW C hs K ns (some t) (.boxK s x) v1 e R acc:=by
 unfold opW
 simp only [au]
 refine ⟨hs0,hst,?_⟩
 rw [hx]
 refine ⟨rfl,hc,?_⟩
 rw [hcb]
 refine ⟨hsz,hl,h1,?_⟩
 rw [hs1]
 refine ⟨hm,?_⟩
 by_cases hn : n=0
 ·rw [if_pos hn];exact hk0 hn
 ·rw [if_neg hn];exact hk (Nat.pos_of_ne_zero hn)
end
end Go.Gv

namespace Go.Gv
def ox (c : Int) : Bool:=(97 <= c && c <= 122) || (65 <= c && c <= 90)
def vO (c : Int) : Bool:=48 <= c && c <= 57
def vP (c : UInt8) : Bool:=ox c.toNat || vO c.toNat || c.toNat == 95
def xf (s : List UInt8) : Nat:=(s.takeWhile vP).length
def kM (n : Int) : Bool:=-1125899906842624 <= n && n <= 1125899906842624
def P7 (s : List UInt8) : Bool:=s ≠ [] && s.length <= 20 && ox (s[0]!).toNat && xf s == s.length
theorem aj {n m : Int} (h : n=m) (h2 : -9223372036854775808 <= m /\ m < 9223372036854775808) : IntKind.wrap .i64 n=m:=by
 subst h
 have e1 : IntKind.i64.signed=true:=rfl
 have e2 : (2 ^ (IntKind.i64.bits - 1) : Int)=9223372036854775808:=rfl
 have e3 : (2 ^ IntKind.i64.bits : Int)=18446744073709551616:=rfl
 unfold IntKind.wrap
 simp only [e1,e2,e3,Bool.true_and,decide_eq_true_eq]
 split <;> omega
variable {C : CC} (hC : aI prog C)
include hC
end Go.Gv

namespace Go.Gv
structure SlI where
 n : Bool
 l : List Int
 deriving Inhabited
def slI (x : SlI) : D:=slx x.n (x.l.map fun n=>[.int .i64 n])
def knD (k : Int × Int) : List D:=[.int .i64 k.1,.int .i64 k.2]
structure Sec where
 name : List UInt8
 height : Int
 price : Int
 areaN : Bool
 area : List (Int × Int)
 convN : Bool
 conv : List (Int × Int)
 deriving Inhabited
def Q5 (s : Sec) : List D:=[.str s.name,.int .i64 s.height,.int .i64 s.price,slx s.areaN (s.area.map knD),slx s.convN (s.conv.map knD)]
def gM {α : Type} (p : α -> Bool) (xs : List α) : Int:=match xs.findIdx? p with
 | some i=>i
 | none=>-1
theorem dR {α : Type} {p : α -> Bool} {xs : List α} {i : Nat} (hj : ∀ (j : Nat) (h : j < xs.length),j < i -> p xs[j]=false) (hi : i < xs.length) (h : p xs[i]=true) : gM p xs=i:=by
 have : xs.findIdx? p=some i:=by
  rw [List.findIdx?_eq_some_iff_getElem]
  exact ⟨hi,h,fun j hji=>by simp [hj j (by omega) hji]⟩
 simp [gM,this]
theorem fJ {α : Type} {p : α -> Bool} {xs : List α} (hj : ∀ (j : Nat) (h : j < xs.length),p xs[j]=false) : gM p xs=-1:=by
 have : xs.findIdx? p=none:=by
  rw [List.findIdx?_eq_none_iff]
  intro x hx
  obtain ⟨j,h,rfl⟩:=List.mem_iff_getElem.1 hx
  exact hj j h
 simp [gM,this]
theorem lA {α : Type} (p : α -> Bool) (xs : List α) : decide (0 <= gM p xs)=xs.any p:=by
 unfold gM
 split
 ·rename_i i h
  rw [List.findIdx?_eq_some_iff_getElem] at h
  obtain ⟨h1,h2,_⟩:=h
  have : xs.any p=true:=List.any_eq_true.2 ⟨_,List.getElem_mem h1,h2⟩
  simp [this]
 ·rename_i h
  rw [List.findIdx?_eq_none_iff] at h
  have : xs.any p=false:=by rw [List.any_eq_false];intro x hx;simp [h x hx]
  simp [this]
variable {C : CC} (hC : aI prog C)
include hC
theorem tB {b : Bool} {xs : List Int} {g : Nat} {cs : List D} (p : Int -> Bool) (hs : xs.length < 2 ^ 62) (hp : ∀ x ∈ xs,C g (.int .i64 x::cs) (.bool (p x)) []) : C 35 [slx b (xs.map fun x=>[.int .i64 x]),.fn g cs] (.int .i64 (gM p xs)) []:=by
 refine aT hC (nf:=N35) rfl rfl ?_
 simp [N35]
 refine ay Nat (fun i=>[(0,slx b (xs.map fun x=>[.int .i64 x])),(1,.fn g cs),(7,.int .i64 xs.length),(8,.int .i64 i)]) (fun i=>i <= xs.length /\ ∀ (j : Nat) (h : j < xs.length),j < i -> p xs[j]=false) (fun i=>xs.length - i) 0 (by simp) (by simp) ?_
 rintro i ⟨hi,hj⟩
 simp
 refine am (fun h=>?_) (fun h=>?_) <;> simp [h] <;> simp at h
 ·have hw : IntKind.wrap .i64 ((i : Int) + 1)=((i + 1 : Nat) : Int):=aj (by omega) (by omega)
  have hc:=hp _ (List.getElem_mem h)
  simp [h,List.getElem_map] at hc ⊢
  refine aa hc (.inl rfl) ?_
  simp
  refine am (fun h1=>?_) (fun h1=>?_) <;> simp [h1,hw]
  ·rw [dR hj h h1]
  ·refine ⟨i + 1,⟨by omega,fun j hl hjj=>?_⟩,by omega,rfl⟩
   rcases Nat.lt_succ_iff_lt_or_eq.1 hjj with h2 | rfl
   ·exact hj j hl h2
   ·exact h1
 ·rw [fJ (fun j hl=>hj j hl (by omega))]
theorem tw {b : Bool} {xs : List Int} {g : Nat} {cs : List D} (p : Int -> Bool) (hs : xs.length < 2 ^ 62) (hp : ∀ x ∈ xs,C g (.int .i64 x::cs) (.bool (p x)) []) : C 11 [slx b (xs.map fun x=>[.int .i64 x]),.fn g cs] (.bool (xs.any p)) []:=by
 refine aT hC (nf:=N11) rfl rfl ?_
 simp [N11]
 refine aa (tB hC p hs hp) (.inl rfl) ?_
 simp [lA]
end Go.Gv

namespace Go.Gv
structure Spt where
 x : Int
 y : Int
 z : Int
 deriving Inhabited,DecidableEq
structure Fce where
 a : Int
 b : Int
 c : Int
 k : Int
 deriving Inhabited,DecidableEq
structure Msh where
 sn : Bool
 s : List Spt
 fn : Bool
 f : List Fce
def eW (s : Spt) : List D:=[.int .i64 s.x,.int .i64 s.y,.int .i64 s.z]
def bz (f : Fce) : List D:=[.int .i64 f.a,.int .i64 f.b,.int .i64 f.c,.int .i64 f.k]
def bk (m : Msh) : List D:=[slx m.sn (m.s.map eW),slx m.fn (m.f.map bz)]
theorem b8 (s : Spt) : eW s=[.int .i64 s.x,.int .i64 s.y,.int .i64 s.z]:=_root_.id rfl
theorem aD (f : Fce) : bz f=[.int .i64 f.a,.int .i64 f.b,.int .i64 f.c,.int .i64 f.k]:=_root_.id rfl
theorem ae (m : Msh) : bk m=[slx m.sn (m.s.map eW),slx m.fn (m.f.map bz)]:=_root_.id rfl
def spt (m : Msh) (i : Nat) : Spt:=m.s[i]!
def fce (m : Msh) (i : Nat) : Fce:=m.f[i]!
@[simp high] theorem QJ (m : Msh) (i : Nat) : m.s[i]! = spt m i:=_root_.id rfl
@[simp high] theorem PT (m : Msh) (i : Nat) : m.f[i]! = fce m i:=_root_.id rfl
@[simp high] theorem QK (m : Msh) (i : Nat) : m.s[i]?.getD default=spt m i:=by simp only [spt,List.getElem!_eq_getElem?_getD]
@[simp high] theorem PU (m : Msh) (i : Nat) : m.f[i]?.getD default=fce m i:=by simp only [fce,List.getElem!_eq_getElem?_getD]
@[simp] theorem QW (m : Msh) (i : Nat) (h : i < m.s.length) : m.s[i]=spt m i:=(getElem!_pos m.s i h).symm
@[simp] theorem iY (m : Msh) (i : Nat) (h : i < m.f.length) : m.f[i]=fce m i:=(getElem!_pos m.f i h).symm
abbrev Pnt:=Int × Int
def ptD (p : Pnt) : List D:=[.int .i64 p.1,.int .i64 p.2]
def ptS (s : Spt) : Pnt:=(s.x,s.y)
def okP (p : Pnt) : Bool:=-16777216 <= p.1 && p.1 <= 16777216 && -16777216 <= p.2 && p.2 <= 16777216
def aU (s : Spt) : Bool:=-16777216 <= s.x && s.x <= 16777216 && -16777216 <= s.y && s.y <= 16777216 && -4194304 <= s.z && s.z <= 4194304
theorem nG {s : Spt} (h : aU s=true) : okP (ptS s)=true:=by
 simp only [aU,Bool.and_eq_true,decide_eq_true_eq] at h
 show okP (s.x,s.y)=true
 simp [okP]
 omega
def dM (a b c : Pnt) : Int:=(b.1 - a.1) * (c.2 - a.2) - (b.2 - a.2) * (c.1 - a.1)
theorem tL {a b k l : Int} (h1 : -k <= a) (h2 : a <= k) (h3 : -l <= b) (h4 : b <= l) : -(k * l) <= a * b /\ a * b <= k * l:=by
 have hk : 0 <= k:=by omega
 have hl : 0 <= l:=by omega
 have e1:=Int.mul_nonneg (show 0 <= k - a by omega) (show 0 <= l - b by omega)
 have e2:=Int.mul_nonneg (show 0 <= k + a by omega) (show 0 <= l + b by omega)
 have e3:=Int.mul_nonneg (show 0 <= k - a by omega) (show 0 <= l + b by omega)
 have e4:=Int.mul_nonneg (show 0 <= k + a by omega) (show 0 <= l - b by omega)
 simp only [Int.sub_mul,Int.mul_sub,Int.add_mul,Int.mul_add] at e1 e2 e3 e4
 omega
theorem fu {p : Pnt} (h : okP p=true) : -16777216 <= p.1 /\ p.1 <= 16777216 /\ -16777216 <= p.2 /\ p.2 <= 16777216:=by
 simp only [okP,Bool.and_eq_true,decide_eq_true_eq] at h
 omega
theorem qK {a b c : Pnt} (ha : okP a=true) (hb : okP b=true) (hc : okP c=true) :
  (-1125899906842624 <= (b.1 - a.1) * (c.2 - a.2) /\ (b.1 - a.1) * (c.2 - a.2) <= 1125899906842624) /\ (-1125899906842624 <= (b.2 - a.2) * (c.1 - a.1) /\ (b.2 - a.2) * (c.1 - a.1) <= 1125899906842624):=by
 have:=fu ha
 have:=fu hb
 have:=fu hc
 exact ⟨tL (k:=33554432) (l:=33554432) (by omega) (by omega) (by omega) (by omega),tL (k:=33554432) (l:=33554432) (by omega) (by omega) (by omega) (by omega)⟩
abbrev Tri:=Pnt × Pnt × Pnt
def cd (t : Tri) : List D:=[.int .i64 t.1.1,.int .i64 t.1.2,.int .i64 t.2.1.1,.int .i64 t.2.1.2,.int .i64 t.2.2.1,.int .i64 t.2.2.2]
def okT (t : Tri) : Bool:=okP t.1 && okP t.2.1 && okP t.2.2
def jv (t : Tri) : Int:=dM t.1 t.2.1 t.2.2
def gY (p q : Pnt) (u : Tri) : Bool:=dM p q u.1 <= 0 && dM p q u.2.1 <= 0 && dM p q u.2.2 <= 0
def oY (t u : Tri) : Bool:=gY t.1 t.2.1 u || gY t.2.1 t.2.2 u || gY t.2.2 t.1 u
def ovT (t u : Tri) : Bool:=!oY t u && !oY u t
def aQ (m : Msh) (f : Fce) : Tri:=(ptS (spt m f.a.toNat),ptS (spt m f.b.toNat),ptS (spt m f.c.toNat))
def crn (f : Fce) : Nat -> Int
 | 0=>f.a
 | 1=>f.b
 | 2=>f.c
 | 3=>f.a
 | 4=>f.b
 | _=>f.c
def fL (n : Nat) (a : Int) : Bool:=0 <= a && a < n
def inS (m : Msh) (f : Fce) : Bool:=fL m.s.length f.a && fL m.s.length f.b && fL m.s.length f.c
theorem jP {m : Msh} {f : Fce} (h : inS m f=true) : (0 <= f.a /\ f.a.toNat < m.s.length) /\ (0 <= f.b /\ f.b.toNat < m.s.length) /\ (0 <= f.c /\ f.c.toNat < m.s.length):=by
 simp only [inS,fL,Bool.and_eq_true,decide_eq_true_eq] at h
 omega
variable {C : CC} (hC : aI prog C)
include hC
theorem tW (p : Pnt) : C 313 [.agg (ptD p)] (.bool (okP p)) []:=by
 refine aT hC (nf:=N313) rfl rfl ?_
 simp [N313,ptD,okP]
 repeat' (refine am (fun h=>?_) (fun h=>?_) <;> simp at h <;> simp [h] <;> try omega)
theorem tJ (s : Spt) : C 303 [.agg (eW s)] (.bool (aU s)) []:=by
 have k:=tW hC (s.x,s.y)
 simp [ptD,okP] at k
 refine aT hC (nf:=N303) rfl rfl ?_
 simp [N303,eW,aU]
 refine aa k (.inl rfl) ?_
 simp
 repeat' (refine am (fun h=>?_) (fun h=>?_) <;> simp at h <;> simp [h] <;> try omega)
theorem qy (s : Spt) : C 289 [.agg (eW s)] (.bool (aU s)) []:=by
 refine aT hC (nf:=N289) rfl rfl ?_
 simp [N289,eW,aU]
 repeat' (refine am (fun h=>?_) (fun h=>?_) <;> simp at h <;> simp [h] <;> try omega)
theorem ji (s : Spt) : C 291 [.agg (eW s)] (.agg (ptD (ptS s))) []:=by
 refine aT hC (nf:=N291) rfl rfl ?_
 simp [N291,eW,ptD,ptS]
theorem oD (m : Msh) : C 302 [.agg (bk m)] (.bool (decide (m.s.length <= 2000) && decide (m.f.length <= 4000))) []:=by
 refine aT hC (nf:=N302) rfl rfl ?_
 simp [N302,bk]
 refine am (fun h=>?_) (fun h=>?_) <;> simp at h <;> simp [h]
 ·rw [decide_eq_true (show m.s.length <= 2000 by omega)]
  simp
  exact Iff.intro (fun h2=>by omega) (fun h2=>by omega)
 ·omega
theorem uj (m : Msh) : C 257 [.agg (bk m)] (.bool (decide (m.s.length <= 2000) && decide (m.f.length <= 4000))) []:=by
 refine aT hC (nf:=N257) rfl rfl ?_
 simp [N257,bk]
 refine am (fun h=>?_) (fun h=>?_) <;> simp at h <;> simp [h]
 ·rw [decide_eq_true (show m.s.length <= 2000 by omega)]
  simp
  exact Iff.intro (fun h2=>by omega) (fun h2=>by omega)
 ·omega
theorem i9 (m : Msh) (i : Nat) (h : i < m.s.length) : C 304 [.agg (bk m),.int .i64 i] (.agg (ptD (ptS (spt m i)))) []:=by
 refine aT hC (nf:=N304) rfl rfl ?_
 simp [N304,bk,h,b8,ptD,ptS]
 exact al (by decide +kernel)
theorem lD (f : Fce) : C 305 [.agg (bz f)] (.agg [.int .i64 f.a,.int .i64 f.b,.int .i64 f.c]) []:=by
 refine aT hC (nf:=N305) rfl rfl ?_
 simp [N305,bz]
theorem nz (f : Fce) (k : Nat) (hk : k < 3) : C 298 [.agg (bz f),.int .i64 k] (.agg [.int .i64 (crn f k),.int .i64 (crn f (k + 1))]) []:=by
 have k1:=lD hC f
 refine aT hC (nf:=N298) rfl rfl ?_
 rw [bz] at k1 ⊢
 simp [N298]
 refine aa k1 (.inl rfl) ?_
 have w : IntKind.wrap .i64 ((k : Int) + 1)=((k + 1 : Nat) : Int):=aj (by omega) (by omega)
 have w0 : IntKind.wrap .i64 1=1:=by decide
 have w1 : IntKind.wrap .i64 2=2:=by decide
 have w2 : IntKind.wrap .i64 3=3:=by decide
 rcases (by omega : k=0 \/ k=1 \/ k=2) with rfl | rfl | rfl <;> simp [crn,w0,w1,w2] <;> exact al (by decide +kernel)
theorem qv {a b c : Pnt} (ha : okP a=true) (hb : okP b=true) (hc : okP c=true) : C 308 [.agg (ptD a),.agg (ptD b),.agg (ptD c)] (.int .i64 (dM a b c)) []:=by
 have:=fu ha
 have:=fu hb
 have:=fu hc
 have h4:=qK ha hb hc
 refine aT hC (nf:=N308) rfl rfl ?_
 have w1 : IntKind.wrap .i64 (b.1 - a.1)=b.1 - a.1:=aj rfl (by omega)
 have w2 : IntKind.wrap .i64 (c.2 - a.2)=c.2 - a.2:=aj rfl (by omega)
 have w3 : IntKind.wrap .i64 (b.2 - a.2)=b.2 - a.2:=aj rfl (by omega)
 have w4 : IntKind.wrap .i64 (c.1 - a.1)=c.1 - a.1:=aj rfl (by omega)
 have w5 : IntKind.wrap .i64 ((b.1 - a.1) * (c.2 - a.2))=(b.1 - a.1) * (c.2 - a.2):=aj rfl (by omega)
 have w6 : IntKind.wrap .i64 ((b.2 - a.2) * (c.1 - a.1))=(b.2 - a.2) * (c.1 - a.1):=aj rfl (by omega)
 have w7 : IntKind.wrap .i64 ((b.1 - a.1) * (c.2 - a.2) - (b.2 - a.2) * (c.1 - a.1))=dM a b c:=aj rfl (by rw [dM];omega)
 simp [N308,ptD,w1,w2,w3,w4,w5,w6,w7]
theorem qz {a b c : Pnt} (ha : okP a=true) (hb : okP b=true) (hc : okP c=true) : C 286 [.agg (ptD a),.agg (ptD b),.agg (ptD c)] (.int .i64 (dM a b c)) []:=by
 have:=fu ha
 have:=fu hb
 have:=fu hc
 have h4:=qK ha hb hc
 refine aT hC (nf:=N286) rfl rfl ?_
 have w1 : IntKind.wrap .i64 (b.1 - a.1)=b.1 - a.1:=aj rfl (by omega)
 have w2 : IntKind.wrap .i64 (c.2 - a.2)=c.2 - a.2:=aj rfl (by omega)
 have w3 : IntKind.wrap .i64 (b.2 - a.2)=b.2 - a.2:=aj rfl (by omega)
 have w4 : IntKind.wrap .i64 (c.1 - a.1)=c.1 - a.1:=aj rfl (by omega)
 have w5 : IntKind.wrap .i64 ((b.1 - a.1) * (c.2 - a.2))=(b.1 - a.1) * (c.2 - a.2):=aj rfl (by omega)
 have w6 : IntKind.wrap .i64 ((b.2 - a.2) * (c.1 - a.1))=(b.2 - a.2) * (c.1 - a.1):=aj rfl (by omega)
 have w7 : IntKind.wrap .i64 ((b.1 - a.1) * (c.2 - a.2) - (b.2 - a.2) * (c.1 - a.1))=dM a b c:=aj rfl (by rw [dM];omega)
 simp [N286,ptD,w1,w2,w3,w4,w5,w6,w7]
theorem AJ (m : Msh) (f : Fce) (h : inS m f=true) : C 307 [.agg (bk m),.agg (bz f)] (.agg (cd (aQ m f))) []:=by
 obtain ⟨⟨a1,a2⟩,⟨b1,b2⟩,⟨c1,c2⟩⟩:=jP h
 have ka:=i9 hC m f.a.toNat a2
 have kb:=i9 hC m f.b.toNat b2
 have kc:=i9 hC m f.c.toNat c2
 rw [Int.toNat_of_nonneg a1] at ka
 rw [Int.toNat_of_nonneg b1] at kb
 rw [Int.toNat_of_nonneg c1] at kc
 refine aT hC (nf:=N307) rfl rfl ?_
 rw [bk] at ka kb kc ⊢
 simp [N307,bz]
 simp [ptD] at ka kb kc
 refine aa ka (.inl rfl) ?_
 simp
 refine aa kb (.inl rfl) ?_
 simp
 refine aa kc (.inl rfl) ?_
 simp [cd,aQ]
 exact al (by decide +kernel)
theorem fN (f : Fce) (k : Nat) (hk : k < 4) : C 323 [.agg (bz f),.int .i64 k] (.int .i64 (crn f k)) []:=by
 refine aT hC (nf:=N323) rfl rfl ?_
 rcases (by omega : k=0 \/ k=1 \/ k=2 \/ k=3) with rfl | rfl | rfl | rfl <;> simp [N323,bz,crn] <;> (refine nN (r:=[.int .i64 _]) rfl (by simp) ?_;simp)
theorem p6 (m : Msh) (f : Fce) (h : inS m f=true) : C 285 [.agg (bk m),.agg (bz f)] (.sl [ptD (aQ m f).1,ptD (aQ m f).2.1,ptD (aQ m f).2.2]) []:=by
 obtain ⟨⟨a1,a2⟩,⟨b1,b2⟩,⟨c1,c2⟩⟩:=jP h
 have ka:=ji hC (spt m f.a.toNat)
 have kb:=ji hC (spt m f.b.toNat)
 have kc:=ji hC (spt m f.c.toNat)
 rw [eW] at ka kb kc
 refine aT hC (nf:=N285) rfl rfl ?_
 simp [N285,bz,bk,a1,a2,b8]
 refine aa ka (.inl rfl) ?_
 simp [b1,b2,b8]
 refine aa kb (.inl rfl) ?_
 simp [c1,c2,b8]
 refine aa kc (.inl rfl) ?_
 simp [aQ,ptD]
 exact al (by decide +kernel)
end Go.Gv

namespace Go.Gv
theorem bm : IntKind.wrap .i64 1=1:=by decide
theorem bv : IntKind.wrap .i64 2=2:=by decide
theorem bx : IntKind.wrap .i64 3=3:=by decide
variable {C : CC} (hC : aI prog C)
include hC
set_option maxHeartbeats 1000000 in
theorem yC {t u : Tri} (ht : okT t=true) (hu : okT u=true) : C 311 [.agg (cd t),.agg (cd u)] (.bool (oY t u)) []:=by
 simp only [okT,Bool.and_eq_true] at ht hu
 obtain ⟨⟨t1,t2⟩,t3⟩:=ht
 obtain ⟨⟨u1,u2⟩,u3⟩:=hu
 have kk:=fun (p q r : Pnt) (hp : okP p=true) (hq : okP q=true) (hr : okP r=true)=>qv hC hp hq hr
 simp only [ptD] at kk
 have E : oY t u=(gY t.1 t.2.1 u || gY t.2.1 t.2.2 u || gY t.2.2 t.1 u):=rfl
 rw [E]
 clear E
 have S : ∀ p q,gY p q u=(decide (dM p q u.1 <= 0) && decide (dM p q u.2.1 <= 0) && decide (dM p q u.2.2 <= 0)):=fun p q=>rfl
 refine aT hC (nf:=N311) rfl rfl ?_
 rw [cd,cd]
 simp [N311]
 refine ay Nat (fun i=>[(2,.ptr (cd t)),(3,.ptr (cd u)),(8,.int .i64 i)]) (fun i=>i <= 3 /\ (1 <= i -> gY t.1 t.2.1 u=false) /\ (2 <= i -> gY t.2.1 t.2.2 u=false) /\ (3 <= i -> gY t.2.2 t.1 u=false)) (fun i=>3 - i) 0 (by simp) (by simp [cd]) ?_
 rintro i ⟨hi,s1,s2,s3⟩
 rcases (by omega : i=0 \/ i=1 \/ i=2 \/ i=3) with rfl | rfl | rfl | rfl
 ·simp [cd,bm,bv,bx]
  refine ⟨al (by decide +kernel),?_⟩
  refine aa (kk t.1 t.2.1 u.1 t1 t2 u1) (.inl rfl) ?_
  simp
  refine am (fun h1=>?_) (fun h1=>?_) <;> simp at h1
  ·simp [h1]
   refine aa (kk t.1 t.2.1 u.2.1 t1 t2 u2) (.inl rfl) ?_
   simp
   refine am (fun h2=>?_) (fun h2=>?_) <;> simp at h2
   ·simp [h2]
    refine aa (kk t.1 t.2.1 u.2.2 t1 t2 u3) (.inl rfl) ?_
    simp
    refine am (fun h3=>?_) (fun h3=>?_) <;> simp at h3 <;> simp [h3]
    ·simp [S,h1,h2,h3]
    ·refine ⟨1,⟨by omega,fun _=>by simp only [S,Bool.and_eq_false_iff,decide_eq_false_iff_not];omega,fun h=>by omega,fun h=>by omega⟩,by omega,?_⟩ <;> simp [bm,bv,bx]
   ·simp [Int.not_le.2 h2]
    refine ⟨1,⟨by omega,fun _=>by simp only [S,Bool.and_eq_false_iff,decide_eq_false_iff_not];omega,fun h=>by omega,fun h=>by omega⟩,by omega,?_⟩ <;> simp [bm,bv,bx]
  ·simp [Int.not_le.2 h1]
   refine ⟨1,⟨by omega,fun _=>by simp only [S,Bool.and_eq_false_iff,decide_eq_false_iff_not];omega,fun h=>by omega,fun h=>by omega⟩,by omega,?_⟩ <;> simp [bm,bv,bx]
 ·simp [cd,bm,bv,bx]
  refine ⟨al (by decide +kernel),?_⟩
  refine aa (kk t.2.1 t.2.2 u.1 t2 t3 u1) (.inl rfl) ?_
  simp
  refine am (fun h1=>?_) (fun h1=>?_) <;> simp at h1
  ·simp [h1]
   refine aa (kk t.2.1 t.2.2 u.2.1 t2 t3 u2) (.inl rfl) ?_
   simp
   refine am (fun h2=>?_) (fun h2=>?_) <;> simp at h2
   ·simp [h2]
    refine aa (kk t.2.1 t.2.2 u.2.2 t2 t3 u3) (.inl rfl) ?_
    simp
    refine am (fun h3=>?_) (fun h3=>?_) <;> simp at h3 <;> simp [h3]
    ·simp [S,h1,h2,h3]
    ·refine ⟨2,⟨by omega,fun _=>s1 (by omega),fun _=>by simp only [S,Bool.and_eq_false_iff,decide_eq_false_iff_not];omega,fun h=>by omega⟩,by omega,?_⟩ <;> simp [bm,bv,bx]
   ·simp [Int.not_le.2 h2]
    refine ⟨2,⟨by omega,fun _=>s1 (by omega),fun _=>by simp only [S,Bool.and_eq_false_iff,decide_eq_false_iff_not];omega,fun h=>by omega⟩,by omega,?_⟩ <;> simp [bm,bv,bx]
  ·simp [Int.not_le.2 h1]
   refine ⟨2,⟨by omega,fun _=>s1 (by omega),fun _=>by simp only [S,Bool.and_eq_false_iff,decide_eq_false_iff_not];omega,fun h=>by omega⟩,by omega,?_⟩ <;> simp [bm,bv,bx]
 ·simp [cd,bm,bv,bx]
  refine ⟨al (by decide +kernel),?_⟩
  refine aa (kk t.2.2 t.1 u.1 t3 t1 u1) (.inl rfl) ?_
  simp
  refine am (fun h1=>?_) (fun h1=>?_) <;> simp at h1
  ·simp [h1]
   refine aa (kk t.2.2 t.1 u.2.1 t3 t1 u2) (.inl rfl) ?_
   simp
   refine am (fun h2=>?_) (fun h2=>?_) <;> simp at h2
   ·simp [h2]
    refine aa (kk t.2.2 t.1 u.2.2 t3 t1 u3) (.inl rfl) ?_
    simp
    refine am (fun h3=>?_) (fun h3=>?_) <;> simp at h3 <;> simp [h3]
    ·simp [S,h1,h2,h3]
    ·refine ⟨3,⟨by omega,fun _=>s1 (by omega),fun _=>s2 (by omega),fun _=>by simp only [S,Bool.and_eq_false_iff,decide_eq_false_iff_not];omega⟩,by omega,?_⟩ <;> simp [bm,bv,bx]
   ·simp [Int.not_le.2 h2]
    refine ⟨3,⟨by omega,fun _=>s1 (by omega),fun _=>s2 (by omega),fun _=>by simp only [S,Bool.and_eq_false_iff,decide_eq_false_iff_not];omega⟩,by omega,?_⟩ <;> simp [bm,bv,bx]
  ·simp [Int.not_le.2 h1]
   refine ⟨3,⟨by omega,fun _=>s1 (by omega),fun _=>s2 (by omega),fun _=>by simp only [S,Bool.and_eq_false_iff,decide_eq_false_iff_not];omega⟩,by omega,?_⟩ <;> simp [bm,bv,bx]
 ·simp [s1 (by omega),s2 (by omega),s3 (by omega)]
def mj (t : Tri) : List (List D):=[ptD t.1,ptD t.2.1,ptD t.2.2]
set_option maxHeartbeats 1000000 in
theorem oN {t u : Tri} (ht : okT t=true) (hu : okT u=true) : C 324 [.sl (mj t),.sl (mj u)] (.bool (oY t u)) []:=by
 simp only [okT,Bool.and_eq_true] at ht hu
 obtain ⟨⟨t1,t2⟩,t3⟩:=ht
 obtain ⟨⟨u1,u2⟩,u3⟩:=hu
 have kk:=fun (p q r : Pnt) (hp : okP p=true) (hq : okP q=true) (hr : okP r=true)=>qz hC hp hq hr
 simp only [ptD] at kk
 have E : oY t u=(gY t.1 t.2.1 u || gY t.2.1 t.2.2 u || gY t.2.2 t.1 u):=rfl
 rw [E]
 clear E
 have S : ∀ p q,gY p q u=(decide (dM p q u.1 <= 0) && decide (dM p q u.2.1 <= 0) && decide (dM p q u.2.2 <= 0)):=fun p q=>rfl
 refine aT hC (nf:=N324) rfl rfl ?_
 simp only [mj,ptD]
 simp [N324]
 refine ay Nat (fun i=>[(0,.sl (mj t)),(1,.sl (mj u)),(5,.int .i64 i)]) (fun i=>i <= 3 /\ (1 <= i -> gY t.1 t.2.1 u=false) /\ (2 <= i -> gY t.2.1 t.2.2 u=false) /\ (3 <= i -> gY t.2.2 t.1 u=false)) (fun i=>3 - i) 0 (by simp) (by simp [mj,ptD]) ?_
 rintro i ⟨hi,s1,s2,s3⟩
 rcases (by omega : i=0 \/ i=1 \/ i=2 \/ i=3) with rfl | rfl | rfl | rfl
 ·simp [mj,ptD,bm,bv,bx]
  refine ⟨al (by decide +kernel),?_⟩
  refine aa (kk t.1 t.2.1 u.1 t1 t2 u1) (.inl rfl) ?_
  simp
  refine am (fun h1=>?_) (fun h1=>?_) <;> simp at h1
  ·simp [h1]
   refine aa (kk t.1 t.2.1 u.2.1 t1 t2 u2) (.inl rfl) ?_
   simp
   refine am (fun h2=>?_) (fun h2=>?_) <;> simp at h2
   ·simp [h2]
    refine aa (kk t.1 t.2.1 u.2.2 t1 t2 u3) (.inl rfl) ?_
    simp
    refine ⟨al (by decide +kernel),?_⟩
    refine am (fun h3=>?_) (fun h3=>?_) <;> simp at h3 <;> simp [h3]
    ·simp [S,h1,h2,h3]
    ·refine ⟨1,⟨by omega,fun _=>by simp only [S,Bool.and_eq_false_iff,decide_eq_false_iff_not];omega,fun h=>by omega,fun h=>by omega⟩,by omega,?_⟩ <;> simp [bm,bv,bx]
   ·simp [Int.not_le.2 h2]
    refine ⟨al (by decide +kernel),?_⟩
    refine ⟨1,⟨by omega,fun _=>by simp only [S,Bool.and_eq_false_iff,decide_eq_false_iff_not];omega,fun h=>by omega,fun h=>by omega⟩,by omega,?_⟩ <;> simp [bm,bv,bx]
  ·simp [Int.not_le.2 h1]
   refine ⟨al (by decide +kernel),?_⟩
   refine ⟨1,⟨by omega,fun _=>by simp only [S,Bool.and_eq_false_iff,decide_eq_false_iff_not];omega,fun h=>by omega,fun h=>by omega⟩,by omega,?_⟩ <;> simp [bm,bv,bx]
 ·simp [mj,ptD,bm,bv,bx]
  refine ⟨al (by decide +kernel),?_⟩
  refine aa (kk t.2.1 t.2.2 u.1 t2 t3 u1) (.inl rfl) ?_
  simp
  refine am (fun h1=>?_) (fun h1=>?_) <;> simp at h1
  ·simp [h1]
   refine aa (kk t.2.1 t.2.2 u.2.1 t2 t3 u2) (.inl rfl) ?_
   simp
   refine am (fun h2=>?_) (fun h2=>?_) <;> simp at h2
   ·simp [h2]
    refine aa (kk t.2.1 t.2.2 u.2.2 t2 t3 u3) (.inl rfl) ?_
    simp
    refine ⟨al (by decide +kernel),?_⟩
    refine am (fun h3=>?_) (fun h3=>?_) <;> simp at h3 <;> simp [h3]
    ·simp [S,h1,h2,h3]
    ·refine ⟨2,⟨by omega,fun _=>s1 (by omega),fun _=>by simp only [S,Bool.and_eq_false_iff,decide_eq_false_iff_not];omega,fun h=>by omega⟩,by omega,?_⟩ <;> simp [bm,bv,bx]
   ·simp [Int.not_le.2 h2]
    refine ⟨al (by decide +kernel),?_⟩
    refine ⟨2,⟨by omega,fun _=>s1 (by omega),fun _=>by simp only [S,Bool.and_eq_false_iff,decide_eq_false_iff_not];omega,fun h=>by omega⟩,by omega,?_⟩ <;> simp [bm,bv,bx]
  ·simp [Int.not_le.2 h1]
   refine ⟨al (by decide +kernel),?_⟩
   refine ⟨2,⟨by omega,fun _=>s1 (by omega),fun _=>by simp only [S,Bool.and_eq_false_iff,decide_eq_false_iff_not];omega,fun h=>by omega⟩,by omega,?_⟩ <;> simp [bm,bv,bx]
 ·simp [mj,ptD,bm,bv,bx]
  refine ⟨al (by decide +kernel),?_⟩
  refine aa (kk t.2.2 t.1 u.1 t3 t1 u1) (.inl rfl) ?_
  simp
  refine am (fun h1=>?_) (fun h1=>?_) <;> simp at h1
  ·simp [h1]
   refine aa (kk t.2.2 t.1 u.2.1 t3 t1 u2) (.inl rfl) ?_
   simp
   refine am (fun h2=>?_) (fun h2=>?_) <;> simp at h2
   ·simp [h2]
    refine aa (kk t.2.2 t.1 u.2.2 t3 t1 u3) (.inl rfl) ?_
    simp
    refine ⟨al (by decide +kernel),?_⟩
    refine am (fun h3=>?_) (fun h3=>?_) <;> simp at h3 <;> simp [h3]
    ·simp [S,h1,h2,h3]
    ·refine ⟨3,⟨by omega,fun _=>s1 (by omega),fun _=>s2 (by omega),fun _=>by simp only [S,Bool.and_eq_false_iff,decide_eq_false_iff_not];omega⟩,by omega,?_⟩ <;> simp [bm,bv,bx]
   ·simp [Int.not_le.2 h2]
    refine ⟨al (by decide +kernel),?_⟩
    refine ⟨3,⟨by omega,fun _=>s1 (by omega),fun _=>s2 (by omega),fun _=>by simp only [S,Bool.and_eq_false_iff,decide_eq_false_iff_not];omega⟩,by omega,?_⟩ <;> simp [bm,bv,bx]
  ·simp [Int.not_le.2 h1]
   refine ⟨al (by decide +kernel),?_⟩
   refine ⟨3,⟨by omega,fun _=>s1 (by omega),fun _=>s2 (by omega),fun _=>by simp only [S,Bool.and_eq_false_iff,decide_eq_false_iff_not];omega⟩,by omega,?_⟩ <;> simp [bm,bv,bx]
 ·simp [s1 (by omega),s2 (by omega),s3 (by omega)]
end Go.Gv
