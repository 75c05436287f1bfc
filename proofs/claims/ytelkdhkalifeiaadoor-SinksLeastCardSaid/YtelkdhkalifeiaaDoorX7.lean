/-
  Texts of the proof: GvR, GvEsl, GvN, ItSD, GvU, GvW, GvX, GvX2, GvX3, GvX4, GvX5, K1, K3, H1, H2, H3, H4.
-/
import Derived.Test.YtelkdhkalifeiaaDoorX5
import Derived.SizedLaws
import Derived.ProofKit
import Derived.Test.YtelkdhkalifeiaaDoorX6
import Derived.Test.YtelkdhkalifeiaaDoorProg
import Derived.KernelRfl
import Derived.Shelf.Small.Bits
import Derived.Shelf.Strconv.Itoa0
import Derived.Shelf.Strconv.Itoa1
import Derived.Shelf.LaysM
import Derived.Shelf.Strconv.Itoa2
import Derived.Shelf.Strconv.Itoa3
import Derived.Shelf.Bits.Mul64
import Derived.Shelf.Slices.Equal
import Derived.Ground.Names2Prog
import Derived.Shelf.Slices.SearchI
import Derived.Shelf.Slices.Empties2
set_option linter.all false
namespace Go.Gv
open Go.RowKit Go.ChangeShapes Go.WideShapes Go.ChangeAt
inductive Sh where
 | int (k : IntKind)
 | bool
 | str
 | sl (row : List Sh)
mutual
def f6 : Sh -> D -> Prop
 | .int k,d=>∃ n,d=.int k n /\ (Lit.int k n).wf=true
 | .bool,d=>∃ b,d=.bool b
 | .str,d=>∃ s,d=.str s /\ s.length < 140737488355328
 | .sl row,d=>∃ es,(d=.sl es \/ (d=.nils /\ es=[])) /\ es.length < 140737488355328 /\ ∀ e ∈ es,bW row e
def bW : List Sh -> List D -> Prop
 | [],ds=>ds=[]
 | s::ss,ds=>∃ d r,ds=d::r /\ f6 s d /\ bW ss r
end
theorem bW.length : ∀ {ss : List Sh} {ds : List D},bW ss ds -> ds.length=ss.length
 | [],ds,h=>by simp only [bW] at h;simp [h]
 | s::ss,ds,h=>by
  simp only [bW] at h
  obtain ⟨d,r,rfl,_,h2⟩:=h
  simp [bW.length h2]
theorem bW.append : ∀ {ss ts : List Sh} {ds es : List D},bW ss ds -> bW ts es -> bW (ss++ts) (ds++es)
 | [],ts,ds,es,h,h'=>by simp only [bW] at h;subst h;exact h'
 | s::ss,ts,ds,es,h,h'=>by
  simp only [bW] at h
  obtain ⟨d,r,rfl,h1,h2⟩:=h
  exact ⟨d,r++es,rfl,h1,bW.append h2 h'⟩
def mP (P : Program) (rec : TypeId -> Option (List Sh)) : List Field -> Nat -> Option (List Sh)
 | [],_=>some []
 | f::fs,off=>if f.offset=off then (match rec f.type with
   | some l=>if l.length=P.cellsOf f.type then (match mP P rec fs (off + l.length) with
    | some r=>some (l++r)
    | none=>none) else none
   | none=>none) else none
def oF (P : Program) : Nat -> TypeId -> Option (List Sh)
 | 0,_=>none
 | n + 1,t=>match P.underlying t with
  | some .bool=>some [.bool]
  | some (.int k)=>some [.int k]
  | some .string=>some [.str]
  | some (.slice e)=>(match oF P n e with
   | some l=>if l.length=P.cellsOf e /\ 1 <= P.bytesOf e then some [.sl l] else none
   | none=>none)
  | some (.struct fs)=>(match mP P (oF P n) fs.toList 0 with
   | some l=>if l.length=P.cellsOf t then some l else none
   | none=>none)
  | _=>none
section
variable {H : Type} {enc : TypeId × Value -> H} {P : Program} {F : Fid} {w : World} {sp : Nat -> Bool}
abbrev nI (w : World) : Mem:=fun p=>w.cell? p
def rJ (enc : TypeId × Value -> H) (P : Program) (F : Fid) (w : World) (sp : Nat -> Bool) (n : Nat) (t : TypeId) (shs : List Sh) : Prop :=
 ∀ (cs : List Value) (d : DataW H) (ps : List MemPlace),DataW.trod enc P w 0 sp true n t cs=some (d,ps) -> (d.weights P t).all (· <= reachBytes)=true -> ∃ ds,bW shs ds /\ ap F (nI w) ds cs
theorem gA {α β : Type} {f : α -> Option β} {x : α} {l : List α} {ys : List β} (h : (x::l).mapM f=some ys) : ∃ y r,f x=some y /\ l.mapM f=some r /\ ys=y::r:=by
 rw [List.mapM_cons] at h
 cases hx : f x with
 | none=>rw [hx] at h;cases h
 | some y =>
  cases hl : l.mapM f with
  | none=>rw [hx,hl] at h;cases h
  | some r =>
   rw [hx,hl] at h
   exact ⟨y,r,rfl,rfl,by cases h;rfl⟩
theorem lu {n m : Nat} (ih : ∀ t shs,oF P m t=some shs -> rJ enc P F w sp n t shs) {cs : List Value} : ∀ (fs : List Field) (off : Nat) (xs : List (DataW H × List MemPlace)) (shs : List Sh),
  (fs.mapM fun f=>DataW.trod enc P w 0 sp true n f.type ((cs.drop f.offset).take (P.cellsOf f.type)))=some xs -> mP P (oF P m) fs off=some shs -> (DataW.weightsEach P (fs.map (·.type)) (xs.map (·.1))).all (· <= reachBytes)=true -> cs.length=off + shs.length ->
   ∃ ds,bW shs ds /\ ap F (nI w) ds (cs.drop off)
 | [],off,xs,shs,_,h2,_,h4=>by
  cases h2
  exact ⟨[],rfl,by simp only [ap];exact List.drop_of_length_le (by simpa using Nat.le_of_eq h4)⟩
 | f::fs,off,xs,shs,h1,h2,h3,h4=>by
  obtain ⟨y,r,e1,e2,rfl⟩:=gA h1
  simp only [mP] at h2
  split at h2
  case isFalse=>cases h2
  rename_i ho
  split at h2
  case h_2=>cases h2
  rename_i l hl
  split at h2
  case isFalse=>cases h2
  rename_i hlen
  split at h2
  case h_2=>cases h2
  rename_i rs hr
  cases h2
  simp only [List.map_cons,DataW.weightsEach,List.all_append,Bool.and_eq_true] at h3
  rw [List.length_append] at h4
  obtain ⟨ds1,g1,g2⟩:=ih f.type l hl _ y.1 y.2 e1 h3.1
  obtain ⟨ds2,g3,g4⟩:=lu ih fs (off + l.length) r rs e2 hr h3.2 (by omega)
  refine ⟨ds1++ds2,g1.append g3,?_⟩
  rw [ho,<- hlen] at g2
  have:=g2.append g4
  rwa [<- List.drop_drop,List.take_append_drop] at this
theorem lw {n k : Nat} {e : TypeId} {l : List Sh} {a : Addr} (hl : l.length=k) (ih : rJ enc P F w sp n e l) : ∀ (c s : Nat) (xs : List (DataW H × List MemPlace)),
  ((List.range' s c).mapM fun i=>(w.cells? 0 (a.add (i * k)) k).bind (DataW.trod enc P w 0 sp true n e))=some xs -> (DataW.weightsAll P e (xs.map (·.1))).all (· <= reachBytes)=true ->
   ∃ (es : List (List D)) (vs : List Value),es.length=c /\ xs.length=c /\ (∀ r ∈ es,bW l r) /\ aZ F (nI w) es vs /\ ∀ j v,vs[j]? = some v -> w.cell? (a.add (s * k + j))=some v
 | 0,s,xs,h,_=>by
  cases h
  exact ⟨[],[],rfl,rfl,by simp,by simp [aZ],fun j v h=>by simp at h⟩
 | c + 1,s,xs,h,hw=>by
  rw [List.range'_succ] at h
  obtain ⟨y,r,e1,e2,rfl⟩:=gA h
  rw [Option.bind_eq_some_iff] at e1
  obtain ⟨row,c1,c2⟩:=e1
  simp only [List.map_cons,DataW.weightsAll,List.all_append,Bool.and_eq_true] at hw
  obtain ⟨ds,g1,g2⟩:=ih row y.1 y.2 c2 hw.1
  obtain ⟨es,vs,h1,h2,h3,h4,h5⟩:=lw hl ih c (s + 1) r e2 hw.2
  have hrow:=World.cells?_some c1
  refine ⟨ds::es,row++vs,by simp [h1],by simp [h2],?_,⟨row,vs,rfl,g2,h4⟩,fun j v hj=>?_⟩
  ·intro x hx
   rcases List.mem_cons.1 hx with rfl | hx
   ·exact g1
   ·exact h3 x hx
  ·have hrl : row.length=k:=by rw [g2.length,g1.length,hl]
   have addadd : ∀ i j,(a.add i).add j=a.add (i + j):=fun i j=>by
    unfold Addr.add
    by_cases hi : i=0 <;> by_cases hj : j=0 <;> simp [hi,hj,Nat.add_assoc]
   by_cases hjk : j < k
   ·rw [List.getElem?_append_left (by omega)] at hj
    have:=hrow.2.2 j hjk
    rw [hj,addadd] at this
    exact this
   ·rw [List.getElem?_append_right (by omega)] at hj
    have:=h5 (j - row.length) v hj
    rw [hrl] at this
    rwa [show (s + 1) * k + (j - k)=s * k + j by rw [Nat.succ_mul];omega] at this
theorem ny : ∀ (m : Nat) (n : Nat) (t : TypeId) (shs : List Sh),oF P m t=some shs -> rJ enc P F w sp n t shs
 | 0,_,_,_,h=>by cases h
 | m + 1,0,t,shs,_=>fun cs d ps h _=>by simp [DataW.trod] at h
 | m + 1,n + 1,t,shs,h=>by
  intro cs d ps ht hw
  rw [oF] at h
  split at h
  ·rename_i hu
   cases h
   unfold DataW.trod at ht;rw [hu] at ht
   split at ht <;> try (simp_all;done)
   rename_i b _
   refine ⟨[.bool b],⟨_,_,rfl,⟨b,rfl⟩,rfl⟩,by simp [ap,ab]⟩
  ·rename_i k hu
   cases h
   unfold DataW.trod at ht;rw [hu] at ht
   split at ht <;> try (simp_all;done)
   rename_i k1 k2 x h1
   simp only [Option.some.injEq,TypeDesc.int.injEq] at h1
   subst h1
   split at ht
   ·rename_i hk
    obtain ⟨rfl,hwf⟩:=hk
    exact ⟨[.int _ x],⟨_,_,rfl,⟨x,rfl,hwf⟩,rfl⟩,by simp [ap,ab]⟩
   ·cases ht
  ·rename_i hu
   cases h
   unfold DataW.trod at ht;rw [hu] at ht
   split at ht <;> try (simp_all;done)
   rename_i s _
   split at ht
   ·rename_i hs
    simp only [Option.some.injEq,Prod.mk.injEq] at ht
    obtain ⟨rfl,rfl⟩:=ht
    simp only [DataW.weights,List.all_cons,List.all_nil,Bool.and_true,decide_eq_true_eq] at hw
    refine ⟨[.str s.data.toList],⟨_,_,rfl,⟨_,rfl,?_⟩,rfl⟩,?_⟩
    ·have:=reachBytes_lt;omega
    ·obtain ⟨s⟩:=s
     simp [ap,ab]
   ·cases ht
  ·rename_i e hu
   split at h
   case h_2=>cases h
   rename_i l hl
   split at h
   case isFalse=>cases h
   rename_i hk
   cases h
   unfold DataW.trod at ht;rw [hu] at ht
   split at ht <;> try (simp_all;done)
   ·refine ⟨[.nils],⟨_,_,rfl,⟨[],.inr ⟨rfl,rfl⟩,by simp,by simp⟩,rfl⟩,by simp [ap,ab]⟩
   ·rename_i e' a len cap h1
    simp only [Option.some.injEq,TypeDesc.slice.injEq] at h1
    subst h1
    simp only at ht
    split at ht
    case isFalse=>cases ht
    rename_i hb
    rw [Option.bind_eq_some_iff] at ht
    obtain ⟨xs,e1,e2⟩:=ht
    rw [Option.map_eq_some_iff] at e2
    obtain ⟨rest,e3,e4⟩:=e2
    simp only [Prod.mk.injEq] at e4
    obtain ⟨rfl,rfl⟩:=e4
    simp only [DataW.weights,hu,List.all_cons,List.all_append,Bool.and_eq_true,decide_eq_true_eq] at hw
    obtain ⟨w1,w2,w3⟩:=hw
    rw [List.range_eq_range'] at e1
    obtain ⟨es,vs,g1,g2,g3,g4,g5⟩:=lw (F:=F) hk.1 (ny m n e l hl) len 0 xs e1 w2
    refine ⟨[.sl es],⟨_,_,rfl,⟨es,.inl rfl,?_,g3⟩,rfl⟩,?_⟩
    ·have h5:=reachBytes_lt
     have h6 : es.length * 1 <= (xs.length + rest.length) * P.bytesOf e:=Nat.mul_le_mul (by omega) hk.2
     simp only [List.length_map] at w1
     omega
    ·simp only [ap]
     refine ⟨_,_,rfl,?_,rfl⟩
     simp only [ab]
     refine ⟨some a,cap,vs,P.cellsOf e,by rw [g1],by omega,g4,fun r hr=>by rw [(g3 r hr).length,hk.1],fun _=>⟨a,rfl,fun j v hj=>?_⟩⟩
     have:=g5 j v hj
     simpa using this
  ·rename_i fs hu
   split at h
   case h_2=>cases h
   rename_i l hl
   split at h
   case isFalse=>cases h
   rename_i hk
   cases h
   unfold DataW.trod at ht;rw [hu] at ht
   split at ht <;> try (simp_all;done)
   rename_i fs' h1
   simp only [Option.some.injEq,TypeDesc.struct.injEq] at h1
   subst h1
   split at ht
   case isFalse=>cases ht
   rename_i hc
   rw [Option.map_eq_some_iff] at ht
   obtain ⟨xs,e1,e2⟩:=ht
   simp only [Prod.mk.injEq] at e2
   obtain ⟨rfl,rfl⟩:=e2
   simp only [DataW.weights,hu] at hw
   obtain ⟨ds,g1,g2⟩:=lu (F:=F) (n:=n) (fun t shs h=>ny m n t shs h) fs.toList 0 xs _ e1 hl hw (by omega)
   exact ⟨ds,g1,by simpa using g2⟩
  ·cases h
theorem oK {t : TypeId} {fs : Array Field} {m : Nat} {shs : List Sh} {base : Nat} {v : Value} {d : DataW H} {ps : List MemPlace} (hu : P.underlying t=some (.struct fs)) (hsh : oF P m t=some shs) (hv : Value.okWide P w .any base t v) (h : DataW.Trod enc P w 0 sp true t v d ps) (hw : (d.weights P t).all (· <= reachBytes)=true) :
  ∃ ds,bW shs ds /\ ab F (nI w) (.agg ds) v:=by
 obtain ⟨cs,rfl,_⟩:=okWide_struct hu hv
 obtain ⟨n,hn⟩:=h
 obtain ⟨ds,g1,g2⟩:=ny (F:=F) m n t shs hsh _ d ps hn hw
 exact ⟨ds,g1,by simp only [ab];exact ⟨cs.toList,by simp,g2⟩⟩
end
theorem lA {α : Type} {f : α -> List D} {es : List (List D)} (h : ∀ e ∈ es,∃ x,e=f x) : ∃ xs : List α,es=xs.map f:=by
 induction es with
 | nil=>exact ⟨[],rfl⟩
 | cons e es ih =>
  obtain ⟨x,rfl⟩:=h e (by simp)
  obtain ⟨xs,rfl⟩:=ih (fun e he=>h e (by simp [he]))
  exact ⟨x::xs,rfl⟩
end Go.Gv
namespace Go.Gv
def xH (P : Program) (F : Fid) (prog : Nat -> Option bf) (tbl : List (Nat × Nat)) : Bool:=tbl.all fun p=>li P p.2 && match prog p.1 with
 | some nf=>de P F p.2 nf
 | none=>true
theorem qP {tbl : List (Nat × Nat)} {g f : Nat} (h : tbl.lookup g=some f) : (g,f) ∈ tbl:=by
 induction tbl with
 | nil=>cases h
 | cons p r ih =>
  obtain ⟨a,b⟩:=p
  rw [List.lookup_cons] at h
  cases e : g == a with
  | true=>rw [e] at h;simp at e h;subst e;subst h;simp
  | false=>rw [e] at h;simp [ih h]
theorem seat {P : Program} {tbl : List (Nat × Nat)} {ty : Nat -> TypeId} {prog : Nat -> Option bf} (hm : P.follows .mixedOrders=true) (hl : laidOutB P=true) (h : xH P ⟨P,fun g=>tbl.lookup g,ty,fun _=>.nilIface⟩ prog tbl=true) :
  bi P ⟨P,fun g=>tbl.lookup g,ty,fun _=>.nilIface⟩ (gH P ⟨P,fun g=>tbl.lookup g,ty,fun _=>.nilIface⟩) /\ aE prog (gH P ⟨P,fun g=>tbl.lookup g,ty,fun _=>.nilIface⟩):=by
 have key : ∀ g f,tbl.lookup g=some f -> li P f=true /\ ∀ nf,prog g=some nf -> de P ⟨P,fun g=>tbl.lookup g,ty,fun _=>.nilIface⟩ f nf=true:=fun g f e=>by
  have:=List.all_eq_true.1 h _ (qP e)
  simp only [Bool.and_eq_true] at this
  refine ⟨this.1,fun nf hnf=>?_⟩
  have:=this.2
  rw [hnf] at this
  exact this
 exact oB hm (fun g f e=>(key g f e).1) hl rfl (fun g f nf e hp=>(key g f e).2 nf hp)
end Go.Gv

namespace Go.Gv
open Go.Proofs
def TrydTbl : List (Nat × Nat) := [(0, 2), (209, 4), (241, 8), (242, 9), (243, 10), (244, 11), (245, 12), (19, 15), (234, 17), (221, 18), (220, 19), (248, 20), (223, 21), (279, 23), (280, 30), (273, 37), (261, 38), (253, 39), (262, 40), (11, 41), (303, 44), (314, 45), (374, 53), (329, 55), (331, 56), (332, 57), (42, 58), (315, 59), (316, 60), (317, 61), (318, 62), (302, 72), (304, 73), (305, 74), (306, 75), (307, 76), (308, 77), (298, 78), (309, 79), (310, 80), (311, 81), (127, 82), (35, 83), (313, 86), (330, 87), (333, 98), (334, 99), (335, 100), (328, 106), (91, 108), (339, 126), (340, 167), (341, 168), (342, 169), (343, 170)]
def TrydTys : List (Nat × Nat) := [(1, 4), (2, 3), (20, 103), (3, 131), (4, 114)]
set_option maxRecDepth 100000 in
theorem Tryd_all : xH Tryd.prog ⟨Tryd.prog, fun g => TrydTbl.lookup g, fun t => (TrydTys.lookup t).getD 0, fun _ => .nilIface⟩ prog TrydTbl = true := by kernel_rfl
end Go.Gv

namespace Go.Gv
open Go.RowKit
theorem pD {P : Program} {F : Fid} {g : Nat} {ds : List D} {d : D} (h : ∀ f,F g=some f -> ∀ (M : Mem) (w : World) (vs : List Value),ap F M ds vs -> ∃ v,ab F M d v /\ Calls P f vs.toArray w (fun e w'=>e=.returned v /\ w'=w)) : gH P F g ds d []:=by
 refine ⟨trivial,fun f hf M w vs hh r=>?_⟩
 obtain ⟨v,hv,hc⟩:=h f hf M w vs r
 refine hc.mono ?_
 rintro e w' ⟨rfl,rfl⟩
 exact ⟨v,M,rfl,Bel.refl _,Mem.le_refl _,fun p h1 h2=>absurd h1 h2,hh,hv⟩
end Go.Gv

namespace Go.Proofs
open Go.Shelf
def Tryd.lays171_ren : Go.Shelf.Ren := ⟨fun | 171 => 82 | 243 => 107 | 246 => 127 | 283 => 137 | 284 => 138 | 285 => 139 | 286 => 140 | 129 => 125 | 317 => 145 | 318 => 146 | 319 => 147 | 320 => 148 | 337 => 149 | 338 => 150 | n => n, fun | 3 => 3 | 9 => 9 | 2 => 2 | 4 => 4 | 171 => 196 | 0 => 0 | 53 => 143 | 37 => 162 | 5 => 5 | 173 => 198 | 212 => 206 | 51 => 182 | 20 => 20 | 213 => 207 | 46 => 153 | 232 => 208 | 233 => 209 | n => n, fun | 17 => 2 | 18 => 3 | 19 => 4 | n => n⟩
theorem Tryd.lays171 : Go.Proofs.Lays.n171 Tryd.prog Tryd.lays171_ren := {
 mixed := by kernel_rfl
 f129 := Tryd.func125.trans (congrArg some (by kernel_rfl))
 f171 := Tryd.func82.trans (congrArg some (by kernel_rfl))
 f243 := Tryd.func107.trans (congrArg some (by kernel_rfl))
 f246 := Tryd.func127.trans (congrArg some (by kernel_rfl))
 f283 := Tryd.func137.trans (congrArg some (by kernel_rfl))
 f284 := Tryd.func138.trans (congrArg some (by kernel_rfl))
 f285 := Tryd.func139.trans (congrArg some (by kernel_rfl))
 f286 := Tryd.func140.trans (congrArg some (by kernel_rfl))
 f317 := Tryd.func145.trans (congrArg some (by kernel_rfl))
 f318 := Tryd.func146.trans (congrArg some (by kernel_rfl))
 f319 := Tryd.func147.trans (congrArg some (by kernel_rfl))
 f320 := Tryd.func148.trans (congrArg some (by kernel_rfl))
 f337 := Tryd.func149.trans (congrArg some (by kernel_rfl))
 f338 := Tryd.func150.trans (congrArg some (by kernel_rfl))
 t0 := Tryd.underlying0
 a0 := Tryd.isAgg0
 z0 := Tryd.sizeOf0
 v0 := Tryd.zeroValue0
 t2 := Tryd.underlying2
 a2 := Tryd.isAgg2
 z2 := Tryd.sizeOf2
 v2 := Tryd.zeroValue2
 t3 := Tryd.underlying3
 a3 := Tryd.isAgg3
 z3 := Tryd.sizeOf3
 v3 := Tryd.zeroValue3
 t4 := Tryd.underlying4
 a4 := Tryd.isAgg4
 z4 := Tryd.sizeOf4
 v4 := Tryd.zeroValue4
 t5 := Tryd.underlying5
 a5 := Tryd.isAgg5
 z5 := Tryd.sizeOf5
 v5 := Tryd.zeroValue5
 t9 := Tryd.underlying9
 a9 := Tryd.isAgg9
 z9 := Tryd.sizeOf9
 v9 := Tryd.zeroValue9
 t20 := Tryd.underlying20
 a20 := Tryd.isAgg20
 z20 := Tryd.sizeOf20
 v20 := Tryd.zeroValue20
 t37 := Tryd.underlying162
 a37 := Tryd.isAgg162
 z37 := Tryd.sizeOf162
 v37 := Tryd.zeroValue162
 t46 := Tryd.underlying153
 a46 := Tryd.isAgg153
 z46 := Tryd.sizeOf153
 v46 := Tryd.zeroValue153
 t51 := Tryd.underlying182
 a51 := Tryd.isAgg182
 z51 := Tryd.sizeOf182
 v51 := Tryd.zeroValue182
 t53 := Tryd.underlying143
 a53 := Tryd.isAgg143
 z53 := Tryd.sizeOf143
 v53 := Tryd.zeroValue143
 t171 := Tryd.underlying196
 a171 := Tryd.isAgg196
 z171 := Tryd.sizeOf196
 v171 := Tryd.zeroValue196
 t173 := Tryd.underlying198
 a173 := Tryd.isAgg198
 z173 := Tryd.sizeOf198
 v173 := Tryd.zeroValue198
 t212 := Tryd.underlying206
 a212 := Tryd.isAgg206
 z212 := Tryd.sizeOf206
 v212 := Tryd.zeroValue206
 t213 := Tryd.underlying207
 a213 := Tryd.isAgg207
 z213 := Tryd.sizeOf207
 t232 := Tryd.underlying208
 a232 := Tryd.isAgg208
 z232 := Tryd.sizeOf208
 v232 := Tryd.zeroValue208
 t233 := Tryd.underlying209
 a233 := Tryd.isAgg209
 z233 := Tryd.sizeOf209
 v233 := Tryd.zeroValue209
 g17 := by kernel_rfl
 g18 := by kernel_rfl
 g19 := by kernel_rfl }
open Go.RowKit Go.Sort Go.Lib in
theorem Tryd.strconv_Itoa_small (i : Nat) (hi : i < 100) (w : World) :
  Calls Tryd.prog 82 #[.int .i64 i] w fun e w' => e = .returned (.string ⟨(Lib.decDigits i).toArray⟩) /\ w' = w := Any.strconv_Itoa_small Tryd.lays171 i hi w
end Go.Proofs

namespace Go.Gv
structure Tag {α : Type _} (x : α) : Type where
@[simp] theorem MD : isV (.any)=true:=_root_.id rfl
@[simp] theorem MJ {k n} : isV (.int k n)=true:=_root_.id rfl
@[simp] theorem G8 {b} : isV (.bool b)=true:=_root_.id rfl
@[simp] theorem MS {s} : isV (.str s)=true:=_root_.id rfl
@[simp] theorem G9 : isV (.nilp)=true:=_root_.id rfl
@[simp] theorem Ha : isV (.nils)=true:=_root_.id rfl
@[simp] theorem MB {ds} : isV (.agg ds)=true:=_root_.id rfl
@[simp] theorem MU {ds} : isV (.tup ds)=true:=_root_.id rfl
@[simp] theorem Pw {es} : isV (.sl es)=true:=_root_.id rfl
@[simp] theorem MM {ds} : isV (.ptr ds)=true:=_root_.id rfl
@[simp] theorem Pu {g ds} : isV (.fn g ds)=true:=_root_.id rfl
@[simp] theorem ML {sz es} : isV (.own sz es)=false:=_root_.id rfl
@[simp] theorem ME {sz es} : isV (.blk sz es)=false:=_root_.id rfl
@[simp] theorem Pv {kt et ks vs} : isV (.mp kt et ks vs)=false:=_root_.id rfl
@[simp] theorem MK {b} : isV (.mrf b)=false:=_root_.id rfl
@[simp] theorem MO {p k n} : isV (.ref p k n)=false:=_root_.id rfl
@[simp] theorem MA {p i off} : isV (.adr p i off)=false:=_root_.id rfl
@[simp] theorem MC {ds} : isV (.agx ds)=false:=_root_.id rfl
@[simp] theorem MT {ds} : isV (.tpx ds)=false:=_root_.id rfl
@[simp] theorem MN {ds} : isV (.ptx ds)=false:=_root_.id rfl
@[simp] theorem MP {n sz ds} : isV (.rfx n sz ds)=false:=_root_.id rfl
@[simp] theorem MF {g ds} : isV (.fnx g ds)=false:=_root_.id rfl
@[simp] theorem MH {T p i off} : isV (.ifa T p i off)=false:=_root_.id rfl
@[simp] theorem MI {T n} : isV (.ifi T n)=true:=_root_.id rfl
@[simp] theorem MQ {k es} : isV (.slv k es)=true:=_root_.id rfl
@[simp] theorem MG {g ds cs} : isV (.fny g ds cs)=false:=_root_.id rfl
@[simp] theorem K0 : isK (.any)=false:=_root_.id rfl
@[simp] theorem Le {k n} : isK (.int k n)=true:=_root_.id rfl
@[simp] theorem GW {b} : isK (.bool b)=true:=_root_.id rfl
@[simp] theorem Ln {s} : isK (.str s)=true:=_root_.id rfl
@[simp] theorem GX : isK (.nilp)=true:=_root_.id rfl
@[simp] theorem GY : isK (.nils)=true:=_root_.id rfl
@[simp] theorem KY {ds} : isK (.agg ds)=true:=_root_.id rfl
@[simp] theorem Lp {ds} : isK (.tup ds)=true:=_root_.id rfl
@[simp] theorem Pg {es} : isK (.sl es)=true:=_root_.id rfl
@[simp] theorem Lh {ds} : isK (.ptr ds)=true:=_root_.id rfl
@[simp] theorem Pe {g ds} : isK (.fn g ds)=true:=_root_.id rfl
@[simp] theorem Lg {sz es} : isK (.own sz es)=false:=_root_.id rfl
@[simp] theorem K9 {sz es} : isK (.blk sz es)=false:=_root_.id rfl
@[simp] theorem Pf {kt et ks vs} : isK (.mp kt et ks vs)=false:=_root_.id rfl
@[simp] theorem Lf {b} : isK (.mrf b)=false:=_root_.id rfl
@[simp] theorem Lj {p k n} : isK (.ref p k n)=false:=_root_.id rfl
@[simp] theorem KX {p i off} : isK (.adr p i off)=false:=_root_.id rfl
@[simp] theorem KZ {ds} : isK (.agx ds)=false:=_root_.id rfl
@[simp] theorem Lo {ds} : isK (.tpx ds)=false:=_root_.id rfl
@[simp] theorem Li {ds} : isK (.ptx ds)=false:=_root_.id rfl
@[simp] theorem Lk {n sz ds} : isK (.rfx n sz ds)=false:=_root_.id rfl
@[simp] theorem La {g ds} : isK (.fnx g ds)=false:=_root_.id rfl
@[simp] theorem Lc {T p i off} : isK (.ifa T p i off)=false:=_root_.id rfl
@[simp] theorem Ld {T n} : isK (.ifi T n)=true:=_root_.id rfl
@[simp] theorem Ll {k es} : isK (.slv k es)=true:=_root_.id rfl
@[simp] theorem Lb {g ds cs} : isK (.fny g ds cs)=false:=_root_.id rfl
@[simp] theorem LP : isP (.any)=true:=_root_.id rfl
@[simp] theorem LV {k n} : isP (.int k n)=true:=_root_.id rfl
@[simp] theorem G2 {b} : isP (.bool b)=true:=_root_.id rfl
@[simp] theorem Ma {s} : isP (.str s)=true:=_root_.id rfl
@[simp] theorem G3 : isP (.nilp)=true:=_root_.id rfl
@[simp] theorem G4 : isP (.nils)=true:=_root_.id rfl
@[simp] theorem LN {ds} : isP (.agg ds)=true:=_root_.id rfl
@[simp] theorem Mc {ds} : isP (.tup ds)=true:=_root_.id rfl
@[simp] theorem Po {es} : isP (.sl es)=true:=_root_.id rfl
@[simp] theorem LY {ds} : isP (.ptr ds)=true:=_root_.id rfl
@[simp] theorem Pm {g ds} : isP (.fn g ds)=true:=_root_.id rfl
@[simp] theorem LX {sz es} : isP (.own sz es)=false:=_root_.id rfl
@[simp] theorem LQ {sz es} : isP (.blk sz es)=false:=_root_.id rfl
@[simp] theorem Pn {kt et ks vs} : isP (.mp kt et ks vs)=false:=_root_.id rfl
@[simp] theorem LW {b} : isP (.mrf b)=true:=_root_.id rfl
@[simp] theorem L0 {p k n} : isP (.ref p k n)=true:=_root_.id rfl
@[simp] theorem LM {p i off} : isP (.adr p i off)=true:=_root_.id rfl
@[simp] theorem LO {ds} : isP (.agx ds)=false:=_root_.id rfl
@[simp] theorem Mb {ds} : isP (.tpx ds)=false:=_root_.id rfl
@[simp] theorem LZ {ds} : isP (.ptx ds)=false:=_root_.id rfl
@[simp] theorem L7 {n sz ds} : isP (.rfx n sz ds)=false:=_root_.id rfl
@[simp] theorem LR {g ds} : isP (.fnx g ds)=false:=_root_.id rfl
@[simp] theorem LT {T p i off} : isP (.ifa T p i off)=true:=_root_.id rfl
@[simp] theorem LU {T n} : isP (.ifi T n)=true:=_root_.id rfl
@[simp] theorem L8 {k es} : isP (.slv k es)=true:=_root_.id rfl
@[simp] theorem LS {g ds cs} : isP (.fny g ds cs)=false:=_root_.id rfl
@[simp] theorem Mg : isS (.any)=true:=_root_.id rfl
@[simp] theorem Pt : isV (.bb)=true:=_root_.id rfl
@[simp] theorem Pp : isS (.bb)=true:=_root_.id rfl
@[simp] theorem Pl : isP (.bb)=true:=_root_.id rfl
@[simp] theorem O6 : isB (.bb)=false:=_root_.id rfl
@[simp] theorem FI : b7 (.bb)=false:=_root_.id rfl
@[simp] theorem Dd : a8 (.bb)=[]:=_root_.id rfl
@[simp] theorem yV : az (.bb)=[]:=_root_.id rfl
@[simp] theorem Mn {k n} : isS (.int k n)=true:=_root_.id rfl
@[simp] theorem G5 {b} : isS (.bool b)=true:=_root_.id rfl
@[simp] theorem Mx {s} : isS (.str s)=true:=_root_.id rfl
@[simp] theorem G6 : isS (.nilp)=true:=_root_.id rfl
@[simp] theorem G7 : isS (.nils)=true:=_root_.id rfl
@[simp] theorem Me {ds} : isS (.agg ds)=true:=_root_.id rfl
@[simp] theorem Mz {ds} : isS (.tup ds)=true:=_root_.id rfl
@[simp] theorem Ps {es} : isS (.sl es)=true:=_root_.id rfl
@[simp] theorem Mr {ds} : isS (.ptr ds)=true:=_root_.id rfl
@[simp] theorem Pq {g ds} : isS (.fn g ds)=true:=_root_.id rfl
@[simp] theorem Mq {sz es} : isS (.own sz es)=false:=_root_.id rfl
@[simp] theorem Mh {sz es} : isS (.blk sz es)=false:=_root_.id rfl
@[simp] theorem Pr {kt et ks vs} : isS (.mp kt et ks vs)=false:=_root_.id rfl
@[simp] theorem Mo {b} : isS (.mrf b)=true:=_root_.id rfl
@[simp] theorem Mt {p k n} : isS (.ref p k n)=true:=_root_.id rfl
@[simp] theorem Md {p i off} : isS (.adr p i off)=true:=_root_.id rfl
@[simp] theorem Mf {ds} : isS (.agx ds)=ds.all isP:=_root_.id rfl
@[simp] theorem My {ds} : isS (.tpx ds)=ds.all isP:=_root_.id rfl
@[simp] theorem Ms {ds} : isS (.ptx ds)=ds.all isP:=_root_.id rfl
@[simp] theorem Mu {n sz ds} : isS (.rfx n sz ds)=ds.all isP:=_root_.id rfl
@[simp] theorem Mi {g ds} : isS (.fnx g ds)=ds.all isP:=_root_.id rfl
@[simp] theorem Ml {T p i off} : isS (.ifa T p i off)=true:=_root_.id rfl
@[simp] theorem Mm {T n} : isS (.ifi T n)=true:=_root_.id rfl
@[simp] theorem Mv {k es} : isS (.slv k es)=true:=_root_.id rfl
@[simp] theorem Mk {g ds cs} : isS (.fny g ds cs)=(ds.all isP && cs.all isP):=_root_.id rfl
@[simp] theorem zfs : au (.any)=false:=_root_.id rfl
@[simp] theorem FY {k n} : au (.int k n)=true:=_root_.id rfl
@[simp] theorem Cr {b} : au (.bool b)=true:=_root_.id rfl
@[simp] theorem Ga {s} : au (.str s)=true:=_root_.id rfl
@[simp] theorem Cs : au (.nilp)=true:=_root_.id rfl
@[simp] theorem Ct : au (.nils)=true:=_root_.id rfl
@[simp] theorem FQ {ds} : au (.agg ds)=false:=_root_.id rfl
@[simp] theorem Gc {ds} : au (.tup ds)=false:=_root_.id rfl
@[simp] theorem Ku {es} : au (.sl es)=true:=_root_.id rfl
@[simp] theorem F4 {ds} : au (.ptr ds)=true:=_root_.id rfl
@[simp] theorem Ks {g ds} : au (.fn g ds)=true:=_root_.id rfl
@[simp] theorem F0 {sz es} : au (.own sz es)=false:=_root_.id rfl
@[simp] theorem FT {sz es} : au (.blk sz es)=false:=_root_.id rfl
@[simp] theorem Kt {kt et ks vs} : au (.mp kt et ks vs)=false:=_root_.id rfl
@[simp] theorem FZ {b} : au (.mrf b)=false:=_root_.id rfl
@[simp] theorem F6 {p k n} : au (.ref p k n)=false:=_root_.id rfl
@[simp] theorem FP {p i off} : au (.adr p i off)=false:=_root_.id rfl
@[simp] theorem FR {ds} : au (.agx ds)=false:=_root_.id rfl
@[simp] theorem Gb {ds} : au (.tpx ds)=false:=_root_.id rfl
@[simp] theorem F5 {ds} : au (.ptx ds)=false:=_root_.id rfl
@[simp] theorem F7 {n sz ds} : au (.rfx n sz ds)=false:=_root_.id rfl
@[simp] theorem FU {g ds} : au (.fnx g ds)=false:=_root_.id rfl
@[simp] theorem FW {T p i off} : au (.ifa T p i off)=false:=_root_.id rfl
@[simp] theorem FX {T n} : au (.ifi T n)=false:=_root_.id rfl
@[simp] theorem F8 {k es} : au (.slv k es)=false:=_root_.id rfl
@[simp] theorem FV {g ds cs} : au (.fny g ds cs)=false:=_root_.id rfl
@[simp] theorem Lt : isO (.any)=false:=_root_.id rfl
@[simp] theorem Lz {k n} : isO (.int k n)=false:=_root_.id rfl
@[simp] theorem GZ {b} : isO (.bool b)=false:=_root_.id rfl
@[simp] theorem LI {s} : isO (.str s)=false:=_root_.id rfl
@[simp] theorem G0 : isO (.nilp)=false:=_root_.id rfl
@[simp] theorem G1 : isO (.nils)=false:=_root_.id rfl
@[simp] theorem Lr {ds} : isO (.agg ds)=false:=_root_.id rfl
@[simp] theorem LK {ds} : isO (.tup ds)=false:=_root_.id rfl
@[simp] theorem Pk {es} : isO (.sl es)=false:=_root_.id rfl
@[simp] theorem LC {ds} : isO (.ptr ds)=false:=_root_.id rfl
@[simp] theorem Pi {g ds} : isO (.fn g ds)=false:=_root_.id rfl
@[simp] theorem LB {sz es} : isO (.own sz es)=true:=_root_.id rfl
@[simp] theorem Lu {sz es} : isO (.blk sz es)=false:=_root_.id rfl
@[simp] theorem Pj {kt et ks vs} : isO (.mp kt et ks vs)=false:=_root_.id rfl
@[simp] theorem LA {b} : isO (.mrf b)=false:=_root_.id rfl
@[simp] theorem LE {p k n} : isO (.ref p k n)=false:=_root_.id rfl
@[simp] theorem Lq {p i off} : isO (.adr p i off)=false:=_root_.id rfl
@[simp] theorem Ls {ds} : isO (.agx ds)=false:=_root_.id rfl
@[simp] theorem LJ {ds} : isO (.tpx ds)=false:=_root_.id rfl
@[simp] theorem LD {ds} : isO (.ptx ds)=false:=_root_.id rfl
@[simp] theorem LF {n sz ds} : isO (.rfx n sz ds)=false:=_root_.id rfl
@[simp] theorem Lv {g ds} : isO (.fnx g ds)=false:=_root_.id rfl
@[simp] theorem Lx {T p i off} : isO (.ifa T p i off)=false:=_root_.id rfl
@[simp] theorem Ly {T n} : isO (.ifi T n)=false:=_root_.id rfl
@[simp] theorem LG {k es} : isO (.slv k es)=false:=_root_.id rfl
@[simp] theorem Lw {g ds cs} : isO (.fny g ds cs)=false:=_root_.id rfl
@[simp] theorem Gg : aP (.any)=true:=_root_.id rfl
@[simp] theorem Gm {k n} : aP (.int k n)=true:=_root_.id rfl
@[simp] theorem Cu {b} : aP (.bool b)=true:=_root_.id rfl
@[simp] theorem Gw {s} : aP (.str s)=true:=_root_.id rfl
@[simp] theorem Cv : aP (.nilp)=true:=_root_.id rfl
@[simp] theorem Cw : aP (.nils)=true:=_root_.id rfl
@[simp] theorem Ge {ds} : aP (.agg ds)=false:=_root_.id rfl
@[simp] theorem Gy {ds} : aP (.tup ds)=false:=_root_.id rfl
@[simp] theorem Kx {es} : aP (.sl es)=false:=_root_.id rfl
@[simp] theorem Gq {ds} : aP (.ptr ds)=false:=_root_.id rfl
@[simp] theorem Kv {g ds} : aP (.fn g ds)=false:=_root_.id rfl
@[simp] theorem Gp {sz es} : aP (.own sz es)=false:=_root_.id rfl
@[simp] theorem Gh {sz es} : aP (.blk sz es)=false:=_root_.id rfl
@[simp] theorem Kw {kt et ks vs} : aP (.mp kt et ks vs)=false:=_root_.id rfl
@[simp] theorem Gn {b} : aP (.mrf b)=false:=_root_.id rfl
@[simp] theorem Gs {p k n} : aP (.ref p k n)=false:=_root_.id rfl
@[simp] theorem Gd {p i off} : aP (.adr p i off)=false:=_root_.id rfl
@[simp] theorem Gf {ds} : aP (.agx ds)=false:=_root_.id rfl
@[simp] theorem Gx {ds} : aP (.tpx ds)=false:=_root_.id rfl
@[simp] theorem Gr {ds} : aP (.ptx ds)=false:=_root_.id rfl
@[simp] theorem Gt {n sz ds} : aP (.rfx n sz ds)=false:=_root_.id rfl
@[simp] theorem Gi {g ds} : aP (.fnx g ds)=false:=_root_.id rfl
@[simp] theorem Gk {T p i off} : aP (.ifa T p i off)=false:=_root_.id rfl
@[simp] theorem Gl {T n} : aP (.ifi T n)=true:=_root_.id rfl
@[simp] theorem Gu {k es} : aP (.slv k es)=false:=_root_.id rfl
@[simp] theorem Gj {g ds cs} : aP (.fny g ds cs)=false:=_root_.id rfl
@[simp] theorem GC : cU (.any)=true:=_root_.id rfl
@[simp] theorem GI {k n} : cU (.int k n)=true:=_root_.id rfl
@[simp] theorem Cx {b} : cU (.bool b)=true:=_root_.id rfl
@[simp] theorem GQ {s} : cU (.str s)=true:=_root_.id rfl
@[simp] theorem Cy : cU (.nilp)=true:=_root_.id rfl
@[simp] theorem Cz : cU (.nils)=true:=_root_.id rfl
@[simp] theorem GA {ds} : cU (.agg ds)=ds.all aP:=_root_.id rfl
@[simp] theorem GS {ds} : cU (.tup ds)=false:=_root_.id rfl
@[simp] theorem KA {es} : cU (.sl es)=false:=_root_.id rfl
@[simp] theorem GL {ds} : cU (.ptr ds)=false:=_root_.id rfl
@[simp] theorem Ky {g ds} : cU (.fn g ds)=false:=_root_.id rfl
@[simp] theorem GK {sz es} : cU (.own sz es)=false:=_root_.id rfl
@[simp] theorem GD {sz es} : cU (.blk sz es)=false:=_root_.id rfl
@[simp] theorem Kz {kt et ks vs} : cU (.mp kt et ks vs)=false:=_root_.id rfl
@[simp] theorem GJ {b} : cU (.mrf b)=false:=_root_.id rfl
@[simp] theorem GN {p k n} : cU (.ref p k n)=false:=_root_.id rfl
@[simp] theorem Gz {p i off} : cU (.adr p i off)=false:=_root_.id rfl
@[simp] theorem GB {ds} : cU (.agx ds)=false:=_root_.id rfl
@[simp] theorem GR {ds} : cU (.tpx ds)=false:=_root_.id rfl
@[simp] theorem GM {ds} : cU (.ptx ds)=false:=_root_.id rfl
@[simp] theorem GO {n sz ds} : cU (.rfx n sz ds)=false:=_root_.id rfl
@[simp] theorem GE {g ds} : cU (.fnx g ds)=false:=_root_.id rfl
@[simp] theorem GG {T p i off} : cU (.ifa T p i off)=false:=_root_.id rfl
@[simp] theorem GH {T n} : cU (.ifi T n)=true:=_root_.id rfl
@[simp] theorem GP {k es} : cU (.slv k es)=false:=_root_.id rfl
@[simp] theorem GF {g ds cs} : cU (.fny g ds cs)=false:=_root_.id rfl
@[simp] theorem KE : isF (.any)=true:=_root_.id rfl
@[simp] theorem KL {k n} : isF (.int k n)=true:=_root_.id rfl
@[simp] theorem GT {b} : isF (.bool b)=true:=_root_.id rfl
@[simp] theorem KU {s} : isF (.str s)=true:=_root_.id rfl
@[simp] theorem GU : isF (.nilp)=true:=_root_.id rfl
@[simp] theorem GV : isF (.nils)=true:=_root_.id rfl
@[simp] theorem KC {ds} : isF (.agg ds)=ds.all aP:=_root_.id rfl
@[simp] theorem KW {ds} : isF (.tup ds)=ds.all cU:=_root_.id rfl
@[simp] theorem Pd {es} : isF (.sl es)=false:=_root_.id rfl
@[simp] theorem KO {ds} : isF (.ptr ds)=false:=_root_.id rfl
@[simp] theorem Pb {g ds} : isF (.fn g ds)=false:=_root_.id rfl
@[simp] theorem KN {sz es} : isF (.own sz es)=false:=_root_.id rfl
@[simp] theorem KF {sz es} : isF (.blk sz es)=false:=_root_.id rfl
@[simp] theorem Pc {kt et ks vs} : isF (.mp kt et ks vs)=false:=_root_.id rfl
@[simp] theorem KM {b} : isF (.mrf b)=false:=_root_.id rfl
@[simp] theorem KQ {p k n} : isF (.ref p k n)=false:=_root_.id rfl
@[simp] theorem KB {p i off} : isF (.adr p i off)=false:=_root_.id rfl
@[simp] theorem KD {ds} : isF (.agx ds)=false:=_root_.id rfl
@[simp] theorem KV {ds} : isF (.tpx ds)=false:=_root_.id rfl
@[simp] theorem KP {ds} : isF (.ptx ds)=false:=_root_.id rfl
@[simp] theorem KR {n sz ds} : isF (.rfx n sz ds)=false:=_root_.id rfl
@[simp] theorem KG {g ds} : isF (.fnx g ds)=false:=_root_.id rfl
@[simp] theorem KI {T p i off} : isF (.ifa T p i off)=false:=_root_.id rfl
@[simp] theorem KJ {T n} : isF (.ifi T n)=true:=_root_.id rfl
@[simp] theorem KS {k es} : isF (.slv k es)=false:=_root_.id rfl
@[simp] theorem KH {g ds cs} : isF (.fny g ds cs)=false:=_root_.id rfl
@[simp] theorem Ka : isB (.any)=false:=_root_.id rfl
@[simp] theorem Kg {k n} : isB (.int k n)=false:=_root_.id rfl
@[simp] theorem FM {b} : isB (.bool b)=false:=_root_.id rfl
@[simp] theorem Kp {s} : isB (.str s)=false:=_root_.id rfl
@[simp] theorem FN : isB (.nilp)=false:=_root_.id rfl
@[simp] theorem FO : isB (.nils)=false:=_root_.id rfl
@[simp] theorem J8 {ds} : isB (.agg ds)=false:=_root_.id rfl
@[simp] theorem Kr {ds} : isB (.tup ds)=false:=_root_.id rfl
@[simp] theorem O9 {es} : isB (.sl es)=false:=_root_.id rfl
@[simp] theorem Kj {ds} : isB (.ptr ds)=false:=_root_.id rfl
@[simp] theorem O7 {g ds} : isB (.fn g ds)=false:=_root_.id rfl
@[simp] theorem Ki {sz es} : isB (.own sz es)=false:=_root_.id rfl
@[simp] theorem Kb {sz es} : isB (.blk sz es)=true:=_root_.id rfl
@[simp] theorem O8 {kt et ks vs} : isB (.mp kt et ks vs)=true:=_root_.id rfl
@[simp] theorem Kh {b} : isB (.mrf b)=false:=_root_.id rfl
@[simp] theorem Kl {p k n} : isB (.ref p k n)=false:=_root_.id rfl
@[simp] theorem J7 {p i off} : isB (.adr p i off)=false:=_root_.id rfl
@[simp] theorem J9 {ds} : isB (.agx ds)=false:=_root_.id rfl
@[simp] theorem Kq {ds} : isB (.tpx ds)=false:=_root_.id rfl
@[simp] theorem Kk {ds} : isB (.ptx ds)=false:=_root_.id rfl
@[simp] theorem Km {n sz ds} : isB (.rfx n sz ds)=false:=_root_.id rfl
@[simp] theorem Kc {g ds} : isB (.fnx g ds)=false:=_root_.id rfl
@[simp] theorem Ke {T p i off} : isB (.ifa T p i off)=false:=_root_.id rfl
@[simp] theorem Kf {T n} : isB (.ifi T n)=false:=_root_.id rfl
@[simp] theorem Kn {k es} : isB (.slv k es)=false:=_root_.id rfl
@[simp] theorem Kd {g ds cs} : isB (.fny g ds cs)=false:=_root_.id rfl
@[simp] theorem B7 : b7 (.any)=true:=_root_.id rfl
@[simp] theorem Cd {k n} : b7 (.int k n)=false:=_root_.id rfl
@[simp] theorem yA {b} : b7 (.bool b)=false:=_root_.id rfl
@[simp] theorem Co {s} : b7 (.str s)=false:=_root_.id rfl
@[simp] theorem yB : b7 (.nilp)=false:=_root_.id rfl
@[simp] theorem yC : b7 (.nils)=false:=_root_.id rfl
@[simp] theorem B5 {ds} : b7 (.agg ds)=false:=_root_.id rfl
@[simp] theorem Cq {ds} : b7 (.tup ds)=false:=_root_.id rfl
@[simp] theorem FL {es} : b7 (.sl es)=false:=_root_.id rfl
@[simp] theorem Cg {ds} : b7 (.ptr ds)=false:=_root_.id rfl
@[simp] theorem FJ {g ds} : b7 (.fn g ds)=false:=_root_.id rfl
@[simp] theorem Cf {sz es} : b7 (.own sz es)=false:=_root_.id rfl
@[simp] theorem B8 {sz es} : b7 (.blk sz es)=false:=_root_.id rfl
@[simp] theorem FK {kt et ks vs} : b7 (.mp kt et ks vs)=false:=_root_.id rfl
@[simp] theorem Ce {b} : b7 (.mrf b)=false:=_root_.id rfl
@[simp] theorem Cj {p k n} : b7 (.ref p k n)=false:=_root_.id rfl
@[simp] theorem B4 {p i off} : b7 (.adr p i off)=false:=_root_.id rfl
@[simp] theorem B6 {ds} : b7 (.agx ds)=false:=_root_.id rfl
@[simp] theorem Cp {ds} : b7 (.tpx ds)=false:=_root_.id rfl
@[simp] theorem Ci {ds} : b7 (.ptx ds)=false:=_root_.id rfl
@[simp] theorem Ck {n sz ds} : b7 (.rfx n sz ds)=false:=_root_.id rfl
@[simp] theorem B9 {g ds} : b7 (.fnx g ds)=false:=_root_.id rfl
@[simp] theorem Cb {T p i off} : b7 (.ifa T p i off)=false:=_root_.id rfl
@[simp] theorem Cc {T n} : b7 (.ifi T n)=false:=_root_.id rfl
@[simp] theorem Cl {k es} : b7 (.slv k es)=false:=_root_.id rfl
@[simp] theorem Ca {g ds cs} : b7 (.fny g ds cs)=false:=_root_.id rfl
@[simp] theorem wr : cellsOf (.any)=[.any]:=_root_.id rfl
@[simp] theorem wy {k n} : cellsOf (.int k n)=[.int k n]:=_root_.id rfl
@[simp] theorem uu {b} : cellsOf (.bool b)=[.bool b]:=_root_.id rfl
@[simp] theorem wH {s} : cellsOf (.str s)=[.str s]:=_root_.id rfl
@[simp] theorem uv : cellsOf (.nilp)=[.nilp]:=_root_.id rfl
@[simp] theorem uw : cellsOf (.nils)=[.nils]:=_root_.id rfl
@[simp] theorem wo {ds} : cellsOf (.agg ds)=ds:=_root_.id rfl
@[simp] theorem wJ {ds} : cellsOf (.tup ds)=[.tup ds]:=_root_.id rfl
@[simp] theorem x7 {es} : cellsOf (.sl es)=[.sl es]:=_root_.id rfl
@[simp] theorem wB {ds} : cellsOf (.ptr ds)=[.ptr ds]:=_root_.id rfl
@[simp] theorem x5 {g ds} : cellsOf (.fn g ds)=[.fn g ds]:=_root_.id rfl
@[simp] theorem wA {sz es} : cellsOf (.own sz es)=[.own sz es]:=_root_.id rfl
@[simp] theorem wt {sz es} : cellsOf (.blk sz es)=[.blk sz es]:=_root_.id rfl
@[simp] theorem x6 {kt et ks vs} : cellsOf (.mp kt et ks vs)=[.mp kt et ks vs]:=_root_.id rfl
@[simp] theorem wz {b} : cellsOf (.mrf b)=[.mrf b]:=_root_.id rfl
@[simp] theorem wD {p k n} : cellsOf (.ref p k n)=[.ref p k n]:=_root_.id rfl
@[simp] theorem wn {p i off} : cellsOf (.adr p i off)=[.adr p i off]:=_root_.id rfl
@[simp] theorem wq {ds} : cellsOf (.agx ds)=[.agx ds]:=_root_.id rfl
@[simp] theorem wI {ds} : cellsOf (.tpx ds)=[.tpx ds]:=_root_.id rfl
@[simp] theorem wC {ds} : cellsOf (.ptx ds)=[.ptx ds]:=_root_.id rfl
@[simp] theorem wE {n sz ds} : cellsOf (.rfx n sz ds)=[.rfx n sz ds]:=_root_.id rfl
@[simp] theorem wu {g ds} : cellsOf (.fnx g ds)=[.fnx g ds]:=_root_.id rfl
@[simp] theorem ww {T p i off} : cellsOf (.ifa T p i off)=[.ifa T p i off]:=_root_.id rfl
@[simp] theorem wx {T n} : cellsOf (.ifi T n)=[.ifi T n]:=_root_.id rfl
@[simp] theorem wF {k es} : cellsOf (.slv k es)=[.slv k es]:=_root_.id rfl
@[simp] theorem wv {g ds cs} : cellsOf (.fny g ds cs)=[.fny g ds cs]:=_root_.id rfl
@[simp] theorem AA : bJ (.any)=.any:=_root_.id rfl
@[simp] theorem AH {k n} : bJ (.int k n)=.int k n:=_root_.id rfl
@[simp] theorem xQ {b} : bJ (.bool b)=.bool b:=_root_.id rfl
@[simp] theorem AQ {s} : bJ (.str s)=.str s:=_root_.id rfl
@[simp] theorem xR : bJ (.nilp)=.nilp:=_root_.id rfl
@[simp] theorem xS : bJ (.nils)=.nils:=_root_.id rfl
@[simp] theorem Ay {ds} : bJ (.agg ds)=.agg ds:=_root_.id rfl
@[simp] theorem AS {ds} : bJ (.tup ds)=.tup ds:=_root_.id rfl
@[simp] theorem D4 {es} : bJ (.sl es)=.sl es:=_root_.id rfl
@[simp] theorem AK {ds} : bJ (.ptr ds)=.ptr ds:=_root_.id rfl
@[simp] theorem D2 {g ds} : bJ (.fn g ds)=.fn g ds:=_root_.id rfl
@[simp] theorem AJ {sz es} : bJ (.own sz es)=.own sz es:=_root_.id rfl
@[simp] theorem AB {sz es} : bJ (.blk sz es)=.blk sz es:=_root_.id rfl
@[simp] theorem D3 {kt et ks vs} : bJ (.mp kt et ks vs)=.mp kt et ks vs:=_root_.id rfl
@[simp] theorem AI {b} : bJ (.mrf b)=.mrf b:=_root_.id rfl
@[simp] theorem AM {p k n} : bJ (.ref p k n)=.ref p k n:=_root_.id rfl
@[simp] theorem Ax {p i off} : bJ (.adr p i off)=.adr p i off:=_root_.id rfl
@[simp] theorem Az {ds} : bJ (.agx ds)=.agg ds:=_root_.id rfl
@[simp] theorem AR {ds} : bJ (.tpx ds)=.tpx ds:=_root_.id rfl
@[simp] theorem AL {ds} : bJ (.ptx ds)=.ptx ds:=_root_.id rfl
@[simp] theorem AN {n sz ds} : bJ (.rfx n sz ds)=.rfx n sz ds:=_root_.id rfl
@[simp] theorem AC {g ds} : bJ (.fnx g ds)=.fnx g ds:=_root_.id rfl
@[simp] theorem AE {T p i off} : bJ (.ifa T p i off)=.ifa T p i off:=_root_.id rfl
@[simp] theorem AF {T n} : bJ (.ifi T n)=.ifi T n:=_root_.id rfl
@[simp] theorem AO {k es} : bJ (.slv k es)=.slv k es:=_root_.id rfl
@[simp] theorem AD {g ds cs} : bJ (.fny g ds cs)=.fny g ds cs:=_root_.id rfl
@[simp] theorem A9 : aU (.any)=.any:=_root_.id rfl
@[simp] theorem Bf {k n} : aU (.int k n)=.int k n:=_root_.id rfl
@[simp] theorem xX {b} : aU (.bool b)=.bool b:=_root_.id rfl
@[simp] theorem Bo {s} : aU (.str s)=.str s:=_root_.id rfl
@[simp] theorem xY : aU (.nilp)=.nilp:=_root_.id rfl
@[simp] theorem xZ : aU (.nils)=.nils:=_root_.id rfl
@[simp] theorem A7 {ds} : aU (.agg ds)=.agg ds:=_root_.id rfl
@[simp] theorem Bq {ds} : aU (.tup ds)=.tup ds:=_root_.id rfl
@[simp] theorem Ev {es} : aU (.sl es)=.sl es:=_root_.id rfl
@[simp] theorem Bi {ds} : aU (.ptr ds)=.ptr ds:=_root_.id rfl
@[simp] theorem Et {g ds} : aU (.fn g ds)=.fn g ds:=_root_.id rfl
@[simp] theorem Bh {sz es} : aU (.own sz es)=.sl es:=_root_.id rfl
@[simp] theorem Ba {sz es} : aU (.blk sz es)=.blk sz es:=_root_.id rfl
@[simp] theorem Eu {kt et ks vs} : aU (.mp kt et ks vs)=.mp kt et ks vs:=_root_.id rfl
@[simp] theorem Bg {b} : aU (.mrf b)=.mrf b:=_root_.id rfl
@[simp] theorem Bk {p k n} : aU (.ref p k n)=.ref p k n:=_root_.id rfl
@[simp] theorem A6 {p i off} : aU (.adr p i off)=.adr p i off:=_root_.id rfl
@[simp] theorem A8 {ds} : aU (.agx ds)=.agx ds:=_root_.id rfl
@[simp] theorem Bp {ds} : aU (.tpx ds)=.tpx ds:=_root_.id rfl
@[simp] theorem Bj {ds} : aU (.ptx ds)=.ptx ds:=_root_.id rfl
@[simp] theorem Bl {n sz ds} : aU (.rfx n sz ds)=.rfx n sz ds:=_root_.id rfl
@[simp] theorem Bb {g ds} : aU (.fnx g ds)=.fnx g ds:=_root_.id rfl
@[simp] theorem Bd {T p i off} : aU (.ifa T p i off)=.ifa T p i off:=_root_.id rfl
@[simp] theorem Be {T n} : aU (.ifi T n)=.ifi T n:=_root_.id rfl
@[simp] theorem Bm {k es} : aU (.slv k es)=.slv k es:=_root_.id rfl
@[simp] theorem Bc {g ds cs} : aU (.fny g ds cs)=.fny g ds cs:=_root_.id rfl
@[simp] theorem xb : az (.any)=[]:=_root_.id rfl
@[simp] theorem xh {k n} : az (.int k n)=[]:=_root_.id rfl
@[simp] theorem va {b} : az (.bool b)=[]:=_root_.id rfl
@[simp] theorem xr {s} : az (.str s)=[]:=_root_.id rfl
@[simp] theorem vb : az (.nilp)=[]:=_root_.id rfl
@[simp] theorem vc : az (.nils)=[]:=_root_.id rfl
@[simp] theorem w9 {ds} : az (.agg ds)=[]:=_root_.id rfl
@[simp] theorem xw {ds} : az (.tup ds)=[]:=_root_.id rfl
@[simp] theorem yY {es} : az (.sl es)=[]:=_root_.id rfl
@[simp] theorem xk {ds} : az (.ptr ds)=[]:=_root_.id rfl
@[simp] theorem yW {g ds} : az (.fn g ds)=[]:=_root_.id rfl
@[simp] theorem xj {sz es} : az (.own sz es)=[]:=_root_.id rfl
@[simp] theorem xc {sz es} : az (.blk sz es)=[]:=_root_.id rfl
@[simp] theorem yX {kt et ks vs} : az (.mp kt et ks vs)=[]:=_root_.id rfl
@[simp] theorem xi {b} : az (.mrf b)=[b]:=_root_.id rfl
@[simp] theorem xn {p k n} : az (.ref p k n)=[p.root]:=_root_.id rfl
@[simp] theorem w8 {p i off} : az (.adr p i off)=[p.root]:=_root_.id rfl
@[simp] theorem xa {ds} : az (.agx ds)=[]:=_root_.id rfl
@[simp] theorem xu {ds} : az (.tpx ds)=[]:=_root_.id rfl
@[simp] theorem xm {ds} : az (.ptx ds)=[]:=_root_.id rfl
@[simp] theorem xo {n sz ds} : az (.rfx n sz ds)=[]:=_root_.id rfl
@[simp] theorem xd {g ds} : az (.fnx g ds)=[]:=_root_.id rfl
@[simp] theorem xf {T p i off} : az (.ifa T p i off)=[p.root]:=_root_.id rfl
@[simp] theorem xg {T n} : az (.ifi T n)=[]:=_root_.id rfl
@[simp] theorem xp {k es} : az (.slv k es)=[]:=_root_.id rfl
@[simp] theorem xe {g ds cs} : az (.fny g ds cs)=[]:=_root_.id rfl
@[simp] theorem y6 : a8 (.any)=[]:=_root_.id rfl
@[simp] theorem zh {k n} : a8 (.int k n)=[]:=_root_.id rfl
@[simp] theorem xx {b} : a8 (.bool b)=[]:=_root_.id rfl
@[simp] theorem zF {s} : a8 (.str s)=[]:=_root_.id rfl
@[simp] theorem xy : a8 (.nilp)=[]:=_root_.id rfl
@[simp] theorem xz : a8 (.nils)=[]:=_root_.id rfl
@[simp] theorem y4 {ds} : a8 (.agg ds)=[]:=_root_.id rfl
@[simp] theorem zH {ds} : a8 (.tup ds)=[]:=_root_.id rfl
@[simp] theorem Dg {es} : a8 (.sl es)=[]:=_root_.id rfl
@[simp] theorem zu {ds} : a8 (.ptr ds)=[]:=_root_.id rfl
@[simp] theorem De {g ds} : a8 (.fn g ds)=[]:=_root_.id rfl
@[simp] theorem zp {sz es} : a8 (.own sz es)=[]:=_root_.id rfl
@[simp] theorem y7 {sz es} : a8 (.blk sz es)=[]:=_root_.id rfl
@[simp] theorem Df {kt et ks vs} : a8 (.mp kt et ks vs)=[]:=_root_.id rfl
@[simp] theorem zj {b} : a8 (.mrf b)=[b]:=_root_.id rfl
@[simp] theorem zA {p k n} : a8 (.ref p k n)=[p.root]:=_root_.id rfl
@[simp] theorem yZ {p i off} : a8 (.adr p i off)=[p.root]:=_root_.id rfl
@[simp] theorem y5 {ds} : a8 (.agx ds)=ds.flatMap az:=_root_.id rfl
@[simp] theorem zG {ds} : a8 (.tpx ds)=ds.flatMap az:=_root_.id rfl
@[simp] theorem zz {ds} : a8 (.ptx ds)=ds.flatMap az:=_root_.id rfl
@[simp] theorem zB {n sz ds} : a8 (.rfx n sz ds)=ds.flatMap az:=_root_.id rfl
@[simp] theorem y8 {g ds} : a8 (.fnx g ds)=ds.flatMap az:=_root_.id rfl
@[simp] theorem za {T p i off} : a8 (.ifa T p i off)=[p.root]:=_root_.id rfl
@[simp] theorem ze {T n} : a8 (.ifi T n)=[]:=_root_.id rfl
@[simp] theorem zD {k es} : a8 (.slv k es)=[]:=_root_.id rfl
@[simp] theorem y9 {g ds cs} : a8 (.fny g ds cs)=(ds.flatMap az++cs.flatMap az):=_root_.id rfl
@[simp] theorem Jt {f : Nat -> D} : dp1 f (.any)=(.any):=_root_.id rfl
@[simp] theorem Jz {f : Nat -> D} {k n} : dp1 f (.int k n)=(.int k n):=_root_.id rfl
@[simp] theorem EI {f : Nat -> D} {b} : dp1 f (.bool b)=(.bool b):=_root_.id rfl
@[simp] theorem JI {f : Nat -> D} {s} : dp1 f (.str s)=(.str s):=_root_.id rfl
@[simp] theorem EJ {f : Nat -> D} : dp1 f (.nilp)=(.nilp):=_root_.id rfl
@[simp] theorem EK {f : Nat -> D} : dp1 f (.nils)=(.nils):=_root_.id rfl
@[simp] theorem Jr {f : Nat -> D} {ds} : dp1 f (.agg ds)=(.agg ds):=_root_.id rfl
@[simp] theorem JK {f : Nat -> D} {ds} : dp1 f (.tup ds)=(.tup ds):=_root_.id rfl
@[simp] theorem OD {f : Nat -> D} {es} : dp1 f (.sl es)=(.sl es):=_root_.id rfl
@[simp] theorem JC {f : Nat -> D} {ds} : dp1 f (.ptr ds)=(.ptr ds):=_root_.id rfl
@[simp] theorem OB {f : Nat -> D} {g ds} : dp1 f (.fn g ds)=(.fn g ds):=_root_.id rfl
@[simp] theorem JB {f : Nat -> D} {sz es} : dp1 f (.own sz es)=(.own sz es):=_root_.id rfl
@[simp] theorem Ju {f : Nat -> D} {sz es} : dp1 f (.blk sz es)=(.blk sz es):=_root_.id rfl
@[simp] theorem OC {f : Nat -> D} {kt et ks vs} : dp1 f (.mp kt et ks vs)=(.mp kt et ks vs):=_root_.id rfl
@[simp] theorem JA {f : Nat -> D} {b} : dp1 f (.mrf b)=(.mrf b):=_root_.id rfl
@[simp] theorem JE {f : Nat -> D} {p k n} : dp1 f (.ref p k n)=(match aL f p with | some (_,es)=>.sl (((es.drop k).take n).map fun e=>e.map aU) | none=>.any):=_root_.id rfl
@[simp] theorem Jq {f : Nat -> D} {p i off} : dp1 f (.adr p i off)=(match aL f p with | some (_,es)=>.ptr (((es[i]?.getD []).drop off).map aU) | none=>.any):=_root_.id rfl
@[simp] theorem Js {f : Nat -> D} {ds} : dp1 f (.agx ds)=(.agx ds):=_root_.id rfl
@[simp] theorem JJ {f : Nat -> D} {ds} : dp1 f (.tpx ds)=(.tpx ds):=_root_.id rfl
@[simp] theorem JD {f : Nat -> D} {ds} : dp1 f (.ptx ds)=(.ptx ds):=_root_.id rfl
@[simp] theorem JF {f : Nat -> D} {n sz ds} : dp1 f (.rfx n sz ds)=(.rfx n sz ds):=_root_.id rfl
@[simp] theorem Jv {f : Nat -> D} {g ds} : dp1 f (.fnx g ds)=(.fnx g ds):=_root_.id rfl
@[simp] theorem Jx {f : Nat -> D} {T p i off} : dp1 f (.ifa T p i off)=(.ifa T p i off):=_root_.id rfl
@[simp] theorem Jy {f : Nat -> D} {T n} : dp1 f (.ifi T n)=(.ifi T n):=_root_.id rfl
@[simp] theorem JG {f : Nat -> D} {k es} : dp1 f (.slv k es)=(.slv k es):=_root_.id rfl
@[simp] theorem Jw {f : Nat -> D} {g ds cs} : dp1 f (.fny g ds cs)=(.fny g ds cs):=_root_.id rfl
@[simp] theorem OH {f : Nat -> D} : dp f (.any)=(.any):=_root_.id rfl
@[simp] theorem ON {f : Nat -> D} {k n} : dp f (.int k n)=(.int k n):=_root_.id rfl
@[simp] theorem JO {f : Nat -> D} {b} : dp f (.bool b)=(.bool b):=_root_.id rfl
@[simp] theorem OW {f : Nat -> D} {s} : dp f (.str s)=(.str s):=_root_.id rfl
@[simp] theorem JP {f : Nat -> D} : dp f (.nilp)=(.nilp):=_root_.id rfl
@[simp] theorem JQ {f : Nat -> D} : dp f (.nils)=(.nils):=_root_.id rfl
@[simp] theorem OF {f : Nat -> D} {ds} : dp f (.agg ds)=(.agg ds):=_root_.id rfl
@[simp] theorem OY {f : Nat -> D} {ds} : dp f (.tup ds)=(.tup ds):=_root_.id rfl
@[simp] theorem P3 {f : Nat -> D} {es} : dp f (.sl es)=(.sl es):=_root_.id rfl
@[simp] theorem OQ {f : Nat -> D} {ds} : dp f (.ptr ds)=(.ptr ds):=_root_.id rfl
@[simp] theorem P1 {f : Nat -> D} {g ds} : dp f (.fn g ds)=(.fn g ds):=_root_.id rfl
@[simp] theorem OP {f : Nat -> D} {sz es} : dp f (.own sz es)=(.own sz es):=_root_.id rfl
@[simp] theorem OI {f : Nat -> D} {sz es} : dp f (.blk sz es)=(.blk sz es):=_root_.id rfl
@[simp] theorem P2 {f : Nat -> D} {kt et ks vs} : dp f (.mp kt et ks vs)=(.mp kt et ks vs):=_root_.id rfl
@[simp] theorem OO {f : Nat -> D} {b} : dp f (.mrf b)=(.mrf b):=_root_.id rfl
@[simp] theorem OS {f : Nat -> D} {p k n} : dp f (.ref p k n)=(match aL f p with | some (_,es)=>.sl (((es.drop k).take n).map fun e=>e.map aU) | none=>.any):=_root_.id rfl
@[simp] theorem OE {f : Nat -> D} {p i off} : dp f (.adr p i off)=(match aL f p with | some (_,es)=>.ptr (((es[i]?.getD []).drop off).map aU) | none=>.any):=_root_.id rfl
@[simp] theorem OG {f : Nat -> D} {ds} : dp f (.agx ds)=(.agg (ds.map (dp1 f))):=_root_.id rfl
@[simp] theorem OX {f : Nat -> D} {ds} : dp f (.tpx ds)=(.tup (ds.map (dp1 f))):=_root_.id rfl
@[simp] theorem OR {f : Nat -> D} {ds} : dp f (.ptx ds)=(.ptr (ds.map (dp1 f))):=_root_.id rfl
@[simp] theorem OT {f : Nat -> D} {n sz ds} : dp f (.rfx n sz ds)=.rfx n sz ds:=_root_.id rfl
@[simp] theorem OJ {f : Nat -> D} {g ds} : dp f (.fnx g ds)=(.fn g (ds.map (dp1 f))):=_root_.id rfl
@[simp] theorem OL {f : Nat -> D} {T p i off} : dp f (.ifa T p i off)=(.ifa T p i off):=_root_.id rfl
@[simp] theorem OM {f : Nat -> D} {T n} : dp f (.ifi T n)=(.ifi T n):=_root_.id rfl
@[simp] theorem OU {f : Nat -> D} {k es} : dp f (.slv k es)=(.slv k es):=_root_.id rfl
@[simp] theorem OK {f : Nat -> D} {g ds cs} : dp f (.fny g ds cs)=(.fny g ds cs):=_root_.id rfl
@[simp] theorem Bw {f : Nat -> D} : aH f (.any)=(True):=_root_.id rfl
@[simp] theorem BC {f : Nat -> D} {k n} : aH f (.int k n)=(True):=_root_.id rfl
@[simp] theorem yh {f : Nat -> D} {b} : aH f (.bool b)=(True):=_root_.id rfl
@[simp] theorem BM {f : Nat -> D} {s} : aH f (.str s)=(True):=_root_.id rfl
@[simp] theorem yi {f : Nat -> D} : aH f (.nilp)=(True):=_root_.id rfl
@[simp] theorem yj {f : Nat -> D} : aH f (.nils)=(True):=_root_.id rfl
@[simp] theorem Bu {f : Nat -> D} {ds} : aH f (.agg ds)=(True):=_root_.id rfl
@[simp] theorem BO {f : Nat -> D} {ds} : aH f (.tup ds)=(True):=_root_.id rfl
@[simp] theorem EN {f : Nat -> D} {es} : aH f (.sl es)=(True):=_root_.id rfl
@[simp] theorem BF {f : Nat -> D} {ds} : aH f (.ptr ds)=(True):=_root_.id rfl
@[simp] theorem EL {f : Nat -> D} {g ds} : aH f (.fn g ds)=(True):=_root_.id rfl
@[simp] theorem BE {f : Nat -> D} {sz es} : aH f (.own sz es)=(True):=_root_.id rfl
@[simp] theorem Bx {f : Nat -> D} {sz es} : aH f (.blk sz es)=(True):=_root_.id rfl
@[simp] theorem EM {f : Nat -> D} {kt et ks vs} : aH f (.mp kt et ks vs)=(True):=_root_.id rfl
@[simp] theorem BD {f : Nat -> D} {b} : aH f (.mrf b)=(False):=_root_.id rfl
@[simp] theorem BH {f : Nat -> D} {p k n} : aH f (.ref p k n)=(match aL f p with | some (_,es)=>k + n <= es.length | none=>False):=_root_.id rfl
@[simp] theorem Bt {f : Nat -> D} {p i off} : aH f (.adr p i off)=(match aL f p with | some _=>True | none=>False):=_root_.id rfl
@[simp] theorem Bv {f : Nat -> D} {ds} : aH f (.agx ds)=(True):=_root_.id rfl
@[simp] theorem BN {f : Nat -> D} {ds} : aH f (.tpx ds)=(True):=_root_.id rfl
@[simp] theorem BG {f : Nat -> D} {ds} : aH f (.ptx ds)=(True):=_root_.id rfl
@[simp] theorem BI {f : Nat -> D} {n sz ds} : aH f (.rfx n sz ds)=(True):=_root_.id rfl
@[simp] theorem By {f : Nat -> D} {g ds} : aH f (.fnx g ds)=(True):=_root_.id rfl
@[simp] theorem BA {f : Nat -> D} {T p i off} : aH f (.ifa T p i off)=False:=_root_.id rfl
@[simp] theorem BB {f : Nat -> D} {T n} : aH f (.ifi T n)=True:=_root_.id rfl
@[simp] theorem BJ {f : Nat -> D} {k es} : aH f (.slv k es)=True:=_root_.id rfl
@[simp] theorem Bz {f : Nat -> D} {g ds cs} : aH f (.fny g ds cs)=True:=_root_.id rfl
@[simp] theorem ER {f : Nat -> D} : bk f (.any)=(True):=_root_.id rfl
@[simp] theorem EX {f : Nat -> D} {k n} : bk f (.int k n)=(True):=_root_.id rfl
@[simp] theorem BP {f : Nat -> D} {b} : bk f (.bool b)=(True):=_root_.id rfl
@[simp] theorem E8 {f : Nat -> D} {s} : bk f (.str s)=(True):=_root_.id rfl
@[simp] theorem BQ {f : Nat -> D} : bk f (.nilp)=(True):=_root_.id rfl
@[simp] theorem BR {f : Nat -> D} : bk f (.nils)=(True):=_root_.id rfl
@[simp] theorem EP {f : Nat -> D} {ds} : bk f (.agg ds)=(True):=_root_.id rfl
@[simp] theorem Fa {f : Nat -> D} {ds} : bk f (.tup ds)=(True):=_root_.id rfl
@[simp] theorem JN {f : Nat -> D} {es} : bk f (.sl es)=(True):=_root_.id rfl
@[simp] theorem E0 {f : Nat -> D} {ds} : bk f (.ptr ds)=(True):=_root_.id rfl
@[simp] theorem JL {f : Nat -> D} {g ds} : bk f (.fn g ds)=(True):=_root_.id rfl
@[simp] theorem EZ {f : Nat -> D} {sz es} : bk f (.own sz es)=(True):=_root_.id rfl
@[simp] theorem ES {f : Nat -> D} {sz es} : bk f (.blk sz es)=(True):=_root_.id rfl
@[simp] theorem JM {f : Nat -> D} {kt et ks vs} : bk f (.mp kt et ks vs)=(True):=_root_.id rfl
@[simp] theorem EY {f : Nat -> D} {b} : bk f (.mrf b)=(False):=_root_.id rfl
@[simp] theorem E4 {f : Nat -> D} {p k n} : bk f (.ref p k n)=(match aL f p with | some (_,es)=>k + n <= es.length | none=>False):=_root_.id rfl
@[simp] theorem EO {f : Nat -> D} {p i off} : bk f (.adr p i off)=(match aL f p with | some _=>True | none=>False):=_root_.id rfl
@[simp] theorem EQ {f : Nat -> D} {ds} : bk f (.agx ds)=(∀ d ∈ ds,aH f d):=_root_.id rfl
@[simp] theorem E9 {f : Nat -> D} {ds} : bk f (.tpx ds)=(∀ d ∈ ds,aH f d):=_root_.id rfl
@[simp] theorem E1 {f : Nat -> D} {ds} : bk f (.ptx ds)=(∀ d ∈ ds,aH f d):=_root_.id rfl
@[simp] theorem E5 {f : Nat -> D} {n sz ds} : bk f (.rfx n sz ds)=False:=_root_.id rfl
@[simp] theorem ET {f : Nat -> D} {g ds} : bk f (.fnx g ds)=(∀ d ∈ ds,aH f d):=_root_.id rfl
@[simp] theorem EV {f : Nat -> D} {T p i off} : bk f (.ifa T p i off)=False:=_root_.id rfl
@[simp] theorem EW {f : Nat -> D} {T n} : bk f (.ifi T n)=True:=_root_.id rfl
@[simp] theorem E6 {f : Nat -> D} {k es} : bk f (.slv k es)=True:=_root_.id rfl
@[simp] theorem EU {f : Nat -> D} {g ds cs} : bk f (.fny g ds cs)=False:=_root_.id rfl
@[simp] theorem MY {p i0 o} : ldc p i0 o (.any)=.any:=_root_.id rfl
@[simp] theorem HQ {m} : dB m (.any)=.any:=_root_.id rfl
@[simp] theorem M9 {p i0 o k n} : ldc p i0 o (.int k n)=.int k n:=_root_.id rfl
@[simp] theorem HW {m k n} : dB m (.int k n)=.int k n:=_root_.id rfl
@[simp] theorem Hh {p i0 o b} : ldc p i0 o (.bool b)=.bool b:=_root_.id rfl
@[simp] theorem Dh {m b} : dB m (.bool b)=.bool b:=_root_.id rfl
@[simp] theorem Nj {p i0 o s} : ldc p i0 o (.str s)=.str s:=_root_.id rfl
@[simp] theorem Id {m s} : dB m (.str s)=.str s:=_root_.id rfl
@[simp] theorem Hi {p i0 o} : ldc p i0 o (.nilp)=.nilp:=_root_.id rfl
@[simp] theorem Di {m} : dB m (.nilp)=.nilp:=_root_.id rfl
@[simp] theorem Hj {p i0 o} : ldc p i0 o (.nils)=.nils:=_root_.id rfl
@[simp] theorem MW {p i0 o ds} : ldc p i0 o (.agg ds)=.agg ds:=_root_.id rfl
@[simp] theorem HO {m ds} : dB m (.agg ds)=.agg ds:=_root_.id rfl
@[simp] theorem Nl {p i0 o ds} : ldc p i0 o (.tup ds)=.tup ds:=_root_.id rfl
@[simp] theorem If {m ds} : dB m (.tup ds)=.tup ds:=_root_.id rfl
@[simp] theorem PB {p i0 o es} : ldc p i0 o (.sl es)=.sl es:=_root_.id rfl
@[simp] theorem Nx {m es} : dB m (.sl es)=.sl es:=_root_.id rfl
@[simp] theorem Nc {p i0 o ds} : ldc p i0 o (.ptr ds)=.ptr ds:=_root_.id rfl
@[simp] theorem HZ {m ds} : dB m (.ptr ds)=.ptr ds:=_root_.id rfl
@[simp] theorem Pz {p i0 o g ds} : ldc p i0 o (.fn g ds)=.fn g ds:=_root_.id rfl
@[simp] theorem Nv {m g ds} : dB m (.fn g ds)=.fn g ds:=_root_.id rfl
@[simp] theorem Nb {c i o sz es} : ldc (.r c) i o (.own sz es)=.ref (.n c i o) 0 es.length:=_root_.id rfl
@[simp] theorem HY {m sz es} : dB m (.own sz es)=.own sz es:=_root_.id rfl
@[simp] theorem MZ {p i0 o sz es} : ldc p i0 o (.blk sz es)=.blk sz es:=_root_.id rfl
@[simp] theorem HR {m sz es} : dB m (.blk sz es)=.blk sz es:=_root_.id rfl
@[simp] theorem PA {p i0 o kt et ks vs} : ldc p i0 o (.mp kt et ks vs)=.mp kt et ks vs:=_root_.id rfl
@[simp] theorem Nw {m kt et ks vs} : dB m (.mp kt et ks vs)=.mp kt et ks vs:=_root_.id rfl
@[simp] theorem Na {p i0 o b} : ldc p i0 o (.mrf b)=.mrf b:=_root_.id rfl
@[simp] theorem HX {m b} : dB m (.mrf b)=.mrf b:=_root_.id rfl
@[simp] theorem Nf {p i0 o q k n} : ldc p i0 o (.ref q k n)=.ref q k n:=_root_.id rfl
@[simp] theorem Ia {m q k n} : dB m (.ref q k n)=.ref q k n:=_root_.id rfl
@[simp] theorem MV {p i0 o q i off} : ldc p i0 o (.adr q i off)=.adr q i off:=_root_.id rfl
@[simp] theorem HN {m q i off} : dB m (.adr q i off)=.adr q i off:=_root_.id rfl
@[simp] theorem MX {p i0 o ds} : ldc p i0 o (.agx ds)=.agx ds:=_root_.id rfl
@[simp] theorem HP {m ds} : dB m (.agx ds)=.agx ds:=_root_.id rfl
@[simp] theorem Nk {p i0 o ds} : ldc p i0 o (.tpx ds)=.tpx ds:=_root_.id rfl
@[simp] theorem Ie {m ds} : dB m (.tpx ds)=.tpx ds:=_root_.id rfl
@[simp] theorem Nd {p i0 o ds} : ldc p i0 o (.ptx ds)=.ptx ds:=_root_.id rfl
@[simp] theorem Ng {p i0 o n sz ds} : ldc p i0 o (.rfx n sz ds)=.rfx n sz ds:=_root_.id rfl
@[simp] theorem H0 {m ds} : dB m (.ptx ds)=.ptx ds:=_root_.id rfl
@[simp] theorem Ib {m n sz ds} : dB m (.rfx n sz ds)=.rfx n sz ds:=_root_.id rfl
@[simp] theorem M5 {p i0 o g ds} : ldc p i0 o (.fnx g ds)=.fnx g ds:=_root_.id rfl
@[simp] theorem M7 {p0 i0 o T p i off} : ldc p0 i0 o (.ifa T p i off)=.ifa T p i off:=_root_.id rfl
@[simp] theorem M8 {p0 i0 o T n} : ldc p0 i0 o (.ifi T n)=.ifi T n:=_root_.id rfl
@[simp] theorem Nh {p0 i0 o k es} : ldc p0 i0 o (.slv k es)=.slv k es:=_root_.id rfl
@[simp] theorem M6 {p0 i0 o g ds cs} : ldc p0 i0 o (.fny g ds cs)=.fny g ds cs:=_root_.id rfl
@[simp] theorem HS {m g ds} : dB m (.fnx g ds)=.fnx g ds:=_root_.id rfl
@[simp] theorem HU {m T p i off} : dB m (.ifa T p i off)=.ifa T p i off:=_root_.id rfl
@[simp] theorem HV {m T n} : dB m (.ifi T n)=.ifi T n:=_root_.id rfl
@[simp] theorem Ic {m k es} : dB m (.slv k es)=.slv k es:=_root_.id rfl
@[simp] theorem HT {m g ds cs} : dB m (.fny g ds cs)=.fny g ds cs:=_root_.id rfl
@[simp] theorem Dj {m} : dB m .nils=if m=0 then .nils else .own m []:=_root_.id rfl
def slx (b : Bool) (es : List (List D)) : D:=match b,es with
 | true,[]=>.nils
 | _,es=>.sl es
@[simp] theorem ca {es} : slx false es=.sl es:=by cases es <;> rfl
@[simp] theorem IR {b x es} : slx b (x::es)=.sl (x::es):=by cases b <;> rfl
theorem ew (b : Bool) (es : List (List D)) : slx b es=.sl es \/ (slx b es=.nils /\ es=[]):=by cases b <;> cases es <;> simp [slx]
@[simp] theorem MR {b es} : isV (slx b es)=true:=by cases b <;> cases es <;> rfl
@[simp] theorem Lm {b es} : isK (slx b es)=true:=by cases b <;> cases es <;> rfl
@[simp] theorem L9 {b es} : isP (slx b es)=true:=by cases b <;> cases es <;> rfl
@[simp] theorem Mw {b es} : isS (slx b es)=true:=by cases b <;> cases es <;> rfl
@[simp] theorem F9 {b es} : au (slx b es)=true:=by cases b <;> cases es <;> rfl
@[simp] theorem LH {b es} : isO (slx b es)=false:=by cases b <;> cases es <;> rfl
@[simp] theorem Cm {b es} : b7 (slx b es)=false:=by cases b <;> cases es <;> rfl
@[simp] theorem Ko {b es} : isB (slx b es)=false:=by cases b <;> cases es <;> rfl
@[simp] theorem wG {b es} : cellsOf (slx b es)=[slx b es]:=by cases b <;> cases es <;> rfl
@[simp] theorem AP {b es} : bJ (slx b es)=slx b es:=by cases b <;> cases es <;> rfl
@[simp] theorem Bn {b es} : aU (slx b es)=slx b es:=by cases b <;> cases es <;> rfl
@[simp] theorem xq {b es} : az (slx b es)=[]:=by cases b <;> cases es <;> rfl
@[simp] theorem zE {b es} : a8 (slx b es)=[]:=by cases b <;> cases es <;> rfl
@[simp] theorem JH {f : Nat -> D} {b es} : dp1 f (slx b es)=slx b es:=by cases b <;> cases es <;> rfl
@[simp] theorem OV {f : Nat -> D} {b es} : dp f (slx b es)=slx b es:=by cases b <;> cases es <;> rfl
@[simp] theorem BL {f : Nat -> D} {b es} : aH f (slx b es)=True:=by cases b <;> cases es <;> rfl
@[simp] theorem E7 {f : Nat -> D} {b es} : bk f (slx b es)=True:=by cases b <;> cases es <;> rfl
@[simp] theorem Ni {p i o b es} : ldc p i o (slx b es)=slx b es:=by cases b <;> cases es <;> rfl
def ph (d : D) (K : Nat -> Prop) (_ : Tag K) : Prop:=match d with
 | .sl es=>K es.length
 | .nils=>K 0
 | .ref _ _ n=>K n
 | .rfx n _ _=>K n
 | _=>False
@[simp] theorem Hu {n sz ds K u} : ph (.rfx n sz ds) K u=K n:=_root_.id rfl
@[simp] theorem Nm {es K u} : ph (.sl es) K u=K es.length:=_root_.id rfl
@[simp] theorem C1 {K u} : ph .nils K u=K 0:=_root_.id rfl
@[simp] theorem Ht {p k n K u} : ph (.ref p k n) K u=K n:=_root_.id rfl
@[simp] theorem Hv {b es K u} : ph (slx b es) K u=K es.length:=by cases b <;> cases es <;> rfl
@[simp] theorem DE {n ds} : ke true n ds=.agg (ds.take n):=_root_.id rfl
@[simp] theorem zQ {n ds} : ke false n ds=ds.headD .any:=_root_.id rfl
@[simp] theorem Hz {t} : aa [] t=.any:=rfl
def lk (b : Bool) (d : D) (r : Env) (t : Nat) : D:=match b with
 | true=>d
 | false=>aa r t
@[simp] theorem Nn {d r t} : lk true d r t=d:=rfl
@[simp] theorem Hw {d r t} : lk false d r t=aa r t:=rfl
@[simp] theorem C2 {s d r t} : aa ((s,d)::r) t=lk (s == t) d r t:=by
 by_cases h : s=t
 ·subst h;simp [aa]
 ·rw [show (s == t)=false by simp [h]];simp [aa,h]
@[simp] theorem CD {e} : n6 [] e=[]:=_root_.id rfl
@[simp] theorem yH {t ts e} : n6 (t::ts) e=(t,aa e t)::n6 ts e:=_root_.id rfl
@[simp] theorem xE : kq []=[]:=_root_.id rfl
@[simp] theorem vq {t d r} : kq ((t,d)::r)=a8 d++kq r:=_root_.id rfl
@[simp] theorem D1 {e ks} : qj e [] ks=ks:=_root_.id rfl
@[simp] theorem Aw {e r rs ks} : qj e (r::rs) ks=qj e rs (if (ks.map (·.1)).contains r then ks else ks++[(r,aa e r)]):=_root_.id rfl
def fg (f : Nat -> D) (d : D) (ns : List Nat) (K : List D -> List Nat -> Prop) (_ : Tag K) : Prop:=eA f d ns K
def eQ (f : Nat -> D) (d : D) (K : D -> List Nat -> Prop) (_ : Tag K) : Prop:=c8 f d K
def nC (f : Nat -> D) (ds : List D) (K : List D -> List Nat -> Prop) (_ : Tag K) : Prop:=jM f ds K
def rV (b n : Nat) (x : D) (K : D -> List Nat -> Prop) (_ : Tag K) : Prop:=match x with
 | .blk sz es=>es.length=n /\ (∀ e ∈ es,∀ c ∈ e,au c=true) /\ K (.own sz es) [b]
 | _=>False
@[simp] theorem DR {b n sz es K u} : rV b n (.blk sz es) K u=(es.length=n /\ (∀ e ∈ es,∀ c ∈ e,au c=true) /\ K (.own sz es) [b]):=_root_.id rfl
theorem dw {f : Nat -> D} {d : D} {K : D -> List Nat -> Prop} {u} (h : au d=true) : eQ f d K u=K d []:=by
 cases d <;> simp [au] at h <;> simp [eQ,c8,au]
@[simp] theorem Ap {f b k n K u} : eQ f (.ref (.r b) k n) K u=(k=0 /\ rV b n (f b) K ⟨⟩):=by
 simp only [eQ,c8,rV]
 cases f b <;> rfl
theorem eg {f : Nat -> D} {d : D} {K : List D -> List Nat -> Prop} {u} (h : au d=true) : fg f d [] K u=K [d] []:=by
 cases d <;> simp [au] at h <;> simp [fg,eA,c8,au,d3]
@[simp] theorem DU {f ds K u} : fg f (.agg ds) [] K u=((∀ c ∈ ds,au c=true) /\ K ds []):=by simp [fg,eA,d3]
@[simp] theorem DV {f ds K u} : fg f (.agx ds) [] K u=nC f ds (fun cs bs=>bC bs=true /\ K cs bs) ⟨⟩:=by simp [fg,nC,eA,d3]
@[simp] theorem DY {f b k n K u} : fg f (.ref (.r b) k n) [] K u=(k=0 /\ rV b n (f b) (fun c bs=>K [c] bs) ⟨⟩):=by
 simp only [fg,eA,c8,rV,d3,if_true,true_or,true_and]
 cases f b <;> rfl
@[simp] theorem As {f K u} : nC f [] K u=K [] []:=_root_.id rfl
@[simp] theorem xP {f d ds K u} : nC f (d::ds) K u=eQ f d (fun c bs=>nC f ds (fun cs bs'=>K (c::cs) (bs++bs')) ⟨⟩) ⟨⟩:=_root_.id rfl
@[simp] theorem An {f k n K u} : eQ f (.int k n) K u=K (.int k n) []:=dw rfl
@[simp] theorem DW {f k n K u} : fg f (.int k n) [] K u=K [.int k n] []:=eg rfl
@[simp] theorem xM {f n K u} : eQ f (.bool n) K u=K (.bool n) []:=dw rfl
@[simp] theorem At {f n K u} : fg f (.bool n) [] K u=K [.bool n] []:=eg rfl
@[simp] theorem Ar {f n K u} : eQ f (.str n) K u=K (.str n) []:=dw rfl
@[simp] theorem D0 {f n K u} : fg f (.str n) [] K u=K [.str n] []:=eg rfl
@[simp] theorem xN {f  K u} : eQ f .nilp K u=K .nilp []:=dw rfl
@[simp] theorem Au {f  K u} : fg f .nilp [] K u=K [.nilp] []:=eg rfl
@[simp] theorem xO {f  K u} : eQ f .nils K u=K .nils []:=dw rfl
@[simp] theorem Av {f  K u} : fg f .nils [] K u=K [.nils] []:=eg rfl
@[simp] theorem DT {f n K u} : eQ f (.sl n) K u=K (.sl n) []:=dw rfl
@[simp] theorem Jb {f n K u} : fg f (.sl n) [] K u=K [.sl n] []:=eg rfl
@[simp] theorem Ao {f n K u} : eQ f (.ptr n) K u=K (.ptr n) []:=dw rfl
@[simp] theorem DX {f n K u} : fg f (.ptr n) [] K u=K [.ptr n] []:=eg rfl
@[simp] theorem DS {f g n K u} : eQ f (.fn g n) K u=K (.fn g n) []:=dw rfl
@[simp] theorem Ja {f g n K u} : fg f (.fn g n) [] K u=K [.fn g n] []:=eg rfl
@[simp] theorem Aq {f b n K u} : eQ f (slx b n) K u=K (slx b n) []:=dw (by simp)
@[simp] theorem DZ {f b n K u} : fg f (slx b n) [] K u=K [slx b n] []:=eg (by simp)
def nh (f : Nat -> D) (sz : Nat) (ps : List (Nat × Opd)) (es : List (List D)) (bs : List Nat) (K : List (List D) -> List Nat -> Prop) (_ : Tag K) : Prop:=d6 f sz [] ps es bs K
@[simp] theorem zR {f sz es bs K u} : nh f sz [] es bs K u=K es bs:=_root_.id rfl
@[simp] theorem xB {f sz i x ps es bs K u} : nh f sz ((i,x)::ps) es bs K u=(i < es.length /\ fg f (vd f x) [] (fun cs bs'=>cs.length=sz /\ nh f sz ps (es.set i cs) (bs++bs') K ⟨⟩) ⟨⟩):=_root_.id rfl
def gD (f : Nat -> D) (mv : Bool) (d : D) (sz : Nat) (K : List (List D) -> List Nat -> Prop) (_ : Tag K) : Prop:=ef f mv d sz K
def zV (b n sz : Nat) (x : D) (K : List (List D) -> List Nat -> Prop) (_ : Tag K) : Prop:=match x with
 | .blk sz' es=>sz'=sz /\ es.length=n /\ (∀ e ∈ es,∀ c ∈ e,isC c=true) /\ K es [b]
 | _=>False
@[simp] theorem ID {b n sz sz' es K u} : zV b n sz (.blk sz' es) K u=(sz'=sz /\ es.length=n /\ (∀ e ∈ es,∀ c ∈ e,isC c=true) /\ K es [b]):=_root_.id rfl
def zW (k n sz : Nat) (x : Option (Nat × List (List D))) (K : List (List D) -> List Nat -> Prop) (_ : Tag K) : Prop:=match x with
 | some (sz',es)=>sz'=sz /\ k + n <= es.length /\ (∀ e ∈ (es.drop k).take n,∀ c ∈ e,au c=true) /\ K ((es.drop k).take n) []
 | none=>False
@[simp] theorem DH {k n sz sz' es K u} : zW k n sz (some (sz',es)) K u=(sz'=sz /\ k + n <= es.length /\ (∀ e ∈ (es.drop k).take n,∀ c ∈ e,au c=true) /\ K ((es.drop k).take n) []):=_root_.id rfl
@[simp] theorem zX {f mv sz K u} : gD f mv .nils sz K u=K [] []:=_root_.id rfl
@[simp] theorem IK {f mv es sz K u} : gD f mv (.sl es) sz K u=((∀ e ∈ es,e.length=sz /\ ∀ c ∈ e,au c=true) /\ K es []):=_root_.id rfl
@[simp] theorem DL {f mv b es sz K u} : gD f mv (slx b es) sz K u=((∀ e ∈ es,e.length=sz /\ ∀ c ∈ e,au c=true) /\ K es []):=by
 rcases ew b es with h | ⟨h,rfl⟩ <;> rw [h] <;> simp
@[simp] theorem IJ {f b k n sz K u} : gD f true (.ref (.r b) k n) sz K u=(k=0 /\ zV b n sz (f b) K ⟨⟩):=by
 simp only [gD,ef,zV]
 cases f b <;> rfl
@[simp] theorem DK {f p k n sz K u} : gD f false (.ref p k n) sz K u=zW k n sz (aL f p) K ⟨⟩:=by
 simp only [gD,ef,zW]
 cases aL f p <;> rfl
def cT (f : Nat -> D) (o : Option Opd) (dflt : Nat) (K : Nat -> Prop) (_ : Tag K) : Prop:=c9 f o dflt K
def Eh (d : D) (K : Nat -> Prop) (_ : Tag K) : Prop:=match d with
 | .int _ n=>0 <= n /\ K n.toNat
 | _=>False
@[simp] theorem Ei {k n K u} : Eh (.int k n) K u=(0 <= n /\ K n.toNat):=_root_.id rfl
@[simp] theorem wi {f n K u} : cT f none n K u=K n:=_root_.id rfl
@[simp] theorem wj {f x n K u} : cT f (some x) n K u=Eh (vd f x) K ⟨⟩:=_root_.id rfl
def fe (x : Option (List D)) (K : List D -> Prop) (_ : Tag K) : Prop:=match x with
 | some r=>K r
 | none=>False
@[simp] theorem DJ {r K u} : fe (some r) K u=K r:=_root_.id rfl
@[simp] theorem DI {K u} : fe none K u=False:=_root_.id rfl
theorem ek {x : Option (List D)} {K : List D -> Prop} {u} : fe x K u=∃ r,x=some r /\ K r:=by
 cases x <;> simp [fe]
def iw (x : Option D) (K : Nat -> List (List D) -> Prop) (_ : Tag K) : Prop:=match x with
 | some (.own sz es)=>K sz es
 | _=>False
@[simp] theorem Iy {sz es K u} : iw (some (.own sz es)) K u=K sz es:=_root_.id rfl
theorem gU {x : Option D} {K : Nat -> List (List D) -> Prop} {u} : iw x K u=∃ sz es,x=some (.own sz es) /\ K sz es:=by
 cases x with
 | none=>simp [iw]
 | some d =>
  cases d <;> simp [iw]
  exact ⟨fun h=>⟨_,_,⟨rfl,rfl⟩,h⟩,by rintro ⟨_,_,⟨rfl,rfl⟩,h⟩;exact h⟩
def ur (x : Option D) (K : D -> Prop) (_ : Tag K) : Prop:=match x with
 | some d=>K d
 | none=>False
@[simp] theorem A5 {d K u} : ur (some d) K u=K d:=_root_.id rfl
theorem ut {x : Option D} {K : D -> Prop} {u} : ur x K u=∃ d,x=some d /\ K d:=by
 cases x <;> simp [ur]
def cz (x : D) (K : Nat -> List (List D) -> Prop) (_ : Tag K) : Prop:=match x with
 | .blk sz es=>K sz es
 | _=>False
@[simp] theorem Eg {sz es K u} : cz (.blk sz es) K u=K sz es:=_root_.id rfl
abbrev CC:=Nat -> List D -> D -> List D -> Prop
abbrev KT:=List (Nat × D) -> List (Nat × Bool) -> Prop
section
variable {C : CC} {Q : cc -> Env -> Prop} {e e' : Env} {d : D}
def wN (C : CC) (c : dt) (Q : cc -> Env -> Prop) (_ : Tag (c,Q)) (e : Env) : Prop:=wpN C c Q e
def wZ (C : CC) (c : dt) (Q : cc -> Env -> Prop) (_ : Tag (c,Q)) (e : Env) : Prop:=wpN C (.loop c) Q e
def qT (C : CC) (K : Env -> Prop) (ns : List am) (_ : Tag (K,ns)) (e : Env) : Prop:=ib C K ns e
def pq (C : CC) (hs : List Nat) (K : Env -> Prop) (ns : List am) (_ : Tag (K,ns)) (e : Env) (acc : List (List Nat × List Nat)) : Prop:=jJ C hs K ns e acc
def FH (hs : List Nat) (acc : List (List Nat × List Nat)) : Prop:=iM hs acc.reverse=true
theorem aT {hs : List Nat} {acc : List (List Nat × List Nat)} (h : iM hs acc.reverse=true) : FH hs acc:=h
def wP (C : CC) (K : Env -> Prop) (ns : List am) (e : Env) : KT:=fun ws ks=>ib C K ns (ws++dg ks e)
def Ez (C : CC) (hs : List Nat) (K : Env -> Prop) (ns : List am) (e : Env) (R : List Nat) (acc : List (List Nat × List Nat)) : KT:=fun ws ks=>wOk R ws ks=true /\ jJ C hs K ns (ws++dg ks e) ((R,wrK ws ks)::acc)
def doT (C : CC) (K : Env -> Prop) (ns : List am) (_ : Tag (K,ns)) (e : Env) (ws : List (Nat × D)) (ks : List (Nat × Bool)) : Prop:=ib C K ns (ws++dg ks e)
def bL (Q : cc -> Env -> Prop) (_ : Tag Q) (t : cc) (e : Env) : Prop:=Q t e
def fin (res : List (Nat × Option (Nat × Bool))) (d : D) : cc -> Env -> Prop:=fun t e=>(match t with
   | .ext _=>False
   | _=>True) /\ ee res d e
def vz (C : CC) (y : dt) (Q : cc -> Env -> Prop) : cc -> Env -> Prop:=fun t e'=>match t with
  | .nrm=>wpN C y Q e'
  | t=>Q t e'
def mJ (id : Nat) (Q : cc -> Env -> Prop) : cc -> Env -> Prop:=fun t e'=>match t with
  | .ext i=>if i=id then Q .nrm e' else Q (.ext i) e'
  | t=>Q t e'
def vo (keep : List Nat) (Q : cc -> Env -> Prop) : Env -> Prop:=fun e'=>Q .nrm (prune keep e')
def kOf (C : CC) (hs : Option (List Nat)) (K : Env -> Prop) (ns : List am) (e : Env) (R : List Nat) (acc : List (List Nat × List Nat)) : KT :=
 match hs with
 | none=>wP C K ns e
 | some hs=>Ez C hs K ns e R acc
def doW (C : CC) (hs : Option (List Nat)) (K : Env -> Prop) (ns : List am) (_ : Tag (hs,K,ns)) (e : Env) (R : List Nat) (acc : List (List Nat × List Nat)) (ws : List (Nat × D)) (ks : List (Nat × Bool)) : Prop:=kOf C hs K ns e R acc ws ks
def opW (C : CC) (hs : Option (List Nat)) (K : Env -> Prop) (ns : List am) (dst : Option Nat) (op : NOp) (_ : Tag (hs,K,ns,dst,op)) (e : Env) (R : List Nat) (acc : List (List Nat × List Nat)) : Prop:=aq C (aa e) dst (kOf C hs K ns e R acc) op
def dW (C : CC) (hs : Option (List Nat)) (K : Env -> Prop) (ns : List am) (dst : Option Nat) (_ : Tag (hs,K,ns)) (e : Env) (R : List Nat) (acc : List (List Nat × List Nat)) (d : D) : Prop:=cA dst (kOf C hs K ns e R acc) d
def nH (C : CC) (g : Nat) (hs : Option (List Nat)) (K : Env -> Prop) (ns : List am) (dst : Option Nat) (_ : Tag (hs,K,ns)) (e : Env) (R : List Nat) (acc : List (List Nat × List Nat)) (pure : Bool) (ds : List D) : Prop :=
 ∃ d,C g ds d [] /\ (isF d=true \/ pure=true) /\ cA dst (kOf C hs K ns e R acc) d
theorem bD {prog : Nat -> Option bf} (hC : aE prog C) {g : Nat} {nf : bf} {ds : List D} (hp : prog g=some nf) (hl : ds.length=nf.np) (h : wN C nf.body (fin nf.res d) ⟨⟩ (params 0 ds)) : C g ds d []:=hC.1.1 g nf ds d hp hl h
def oU (res : List (Nat × Option (Nat × Bool))) (sz : Nat) (es : List (List D)) : cc -> Env -> Prop:=fun t e=>(match t with
   | .ext _=>False
   | _=>True) /\ iz res sz es e
theorem lI {prog : Nat -> Option bf} (hC : aE prog C) {g : Nat} {nf : bf} {ds : List D} {sz : Nat} {es : List (List D)} (hp : prog g=some nf) (hl : ds.length=nf.np) (h : wN C nf.body (oU nf.res sz es) ⟨⟩ (params 0 ds)) : C g ds .any [.own sz es]:=hC.1.2.2.1 g nf ds sz es hp hl h
def qC (res : List (Nat × Option (Nat × Bool))) (d : D) : cc -> Env -> Prop:=fun t e=>(match t with
   | .ext _=>False
   | _=>True) /\ iy res d e
def oV (res : List (Nat × Option (Nat × Bool))) (d : D) (sz : Nat) (es' : List (List D)) : cc -> Env -> Prop:=fun t e=>(match t with
   | .ext _=>False
   | _=>True) /\ (0 < es'.length /\ aa e 10015=.blk sz es') /\ ee res d ((10015,.any)::e)
theorem eM {prog : Nat -> Option bf} (hC : fI prog C) {g : Nat} {nf : bf} {W : List D} {d : D} {sz : Nat} {es es' : List (List D)} (hp : prog g=some nf) (hl : W.length=nf.np) (h : wN C nf.body (oV nf.res d sz es') ⟨⟩ (params 0 W++[(10015,.blk sz es)])) : C g (.blk sz es::W) d [.blk sz es',.nilp]:=hC.2.2.2.2.2.1 g nf W d sz es es' hp hl h
def qD (res : List (Nat × Option (Nat × Bool))) (sz : Nat) (es : List (List D)) : cc -> Env -> Prop:=fun t e=>(match t with
   | .ext _=>False
   | _=>True) /\ iA res sz es e
def qA (res : List (Nat × Option (Nat × Bool))) (R : D) : cc -> Env -> Prop:=fun t e=>(match t with
   | .ext _=>False
   | _=>True) /\ oy res R e
def xV (C : CC) (g : Nat) (hs : Option (List Nat)) (K : Env -> Prop) (ns : List am) (t : Nat) (_ : Tag (hs,K,ns)) (e : Env) (R : List Nat) (acc : List (List Nat × List Nat)) (ds : List D) : Prop :=
 (∃ d,C g ds d [] /\ cA (some t) (kOf C hs K ns e R acc) d) \/ ∃ d,okR d=true /\ C g ds d [.nils] /\ kOf C hs K ns e R acc ((t,dz t d)::aK t d) (df t d)
def xW (C : CC) (g : Nat) (hs : Option (List Nat)) (K : Env -> Prop) (ns : List am) (dst : Option Nat) (_ : Tag (hs,K,ns)) (e : Env) (R : List Nat) (acc : List (List Nat × List Nat)) (ds : List D) : Prop :=
 ∃ d,C g ds d [.nilp] /\ cA dst (kOf C hs K ns e R acc) d
def sa (C : CC) (g : Nat) (hs : Option (List Nat)) (K : Env -> Prop) (ns : List am) (t : Nat) (_ : Tag (hs,K,ns)) (e : Env) (R : List Nat) (acc : List (List Nat × List Nat)) (ds : List D) : Prop :=
 ∃ sz es,C g ds .any [.own sz es] /\ kOf C hs K ns e R acc [(t,.ref (.r (rt t 0)) 0 es.length),(rt t 0,.blk sz es)] [(rt t 0,true)]
theorem ji {g : Nat} {hs : Option (List Nat)} {K : Env -> Prop} {ns : List am} {t : Nat} {u : Tag (hs,K,ns)} {R : List Nat} {acc : List (List Nat × List Nat)} {ds : List D} {sz : Nat} {es : List (List D)} (h : C g ds .any [.own sz es]) (hk : doW C hs K ns ⟨⟩ e R acc [(t,.ref (.r (rt t 0)) 0 es.length),(rt t 0,.blk sz es)] [(rt t 0,true)]) : sa C g hs K ns t u e R acc ds:=⟨sz,es,h,hk⟩
def sb (C : CC) (g : Nat) (hs : Option (List Nat)) (K : Env -> Prop) (ns : List am) (dst : Option Nat) (_ : Tag (hs,K,ns)) (e : Env) (R : List Nat) (acc : List (List Nat × List Nat)) (b sz : Nat) (es : List (List D)) (ds : List D) (p : Bool) : Prop:=match dst with
 | none=>∃ es' : List (List D),es'.length=es.length /\ (∀ e ∈ es',e.length=sz /\ ∀ c ∈ e,au c=true) /\ (p=true \/ ∀ e ∈ es',∀ c ∈ e,aP c=true) /\ C g (.own sz es::ds) .any [.own sz es',.nilp] /\ doW C hs K ns ⟨⟩ e R acc [(b,.blk sz es')] []
 | some t=>(∃ es' : List (List D),es'.length=es.length /\ (∀ e ∈ es',e.length=sz /\ ∀ c ∈ e,au c=true) /\ (p=true \/ ∀ e ∈ es',∀ c ∈ e,aP c=true) /\ C g (.own sz es::ds) .any [.own sz es',.nilp] /\ doW C hs K ns ⟨⟩ e R acc [(t,.tup []),(b,.blk sz es')] []) \/ (b ≠ rt t 0 /\ 0 < sz /\ ∃ es' : List (List D),(∀ e ∈ es',e.length=sz /\ ∀ c ∈ e,au c=true) /\ (p=true \/ ∀ e ∈ es',∀ c ∈ e,aP c=true) /\ C g (.own sz es::ds) .any [.own sz es',.nils] /\ doW C hs K ns ⟨⟩ e R acc [(t,.ref (.r (rt t 0)) 0 es'.length),(rt t 0,.blk sz es'),(b,.any)] [(rt t 0,true)])
def Ag (C : CC) (g : Nat) (hs : Option (List Nat)) (K : Env -> Prop) (ns : List am) (dst : Option Nat) (_ : Tag (hs,K,ns)) (e : Env) (R : List Nat) (acc : List (List Nat × List Nat)) (b n : Nat) (xs : List Opd) (d : D) : Prop:=match d with
 | .blk sz es=>es.length=n /\ (∀ e ∈ es,∀ c ∈ e,au c=true) /\ (∀ x ∈ xs,bk (fbE (aa e) b) (vd (fbE (aa e) b) x)) /\ sb C g hs K ns dst ⟨⟩ e R acc b sz es (xs.map (dpv (fbE (aa e) b))) (xs.all fun y=>isV (vd (fbE (aa e) b) y))
 | _=>False
def IW (C : CC) (g : Nat) (hs : Option (List Nat)) (K : Env -> Prop) (ns : List am) (dst : Option Nat) (_ : Tag (hs,K,ns)) (e : Env) (R : List Nat) (acc : List (List Nat × List Nat)) (xs : List Opd) (d : D) : Prop:=match d with
 | .ref (.r b) k n=>k=0 /\ Ag C g hs K ns dst ⟨⟩ e R acc b n xs (aa e b)
 | _=>False
@[simp] theorem O1 {f : Nat -> D} {b t : Nat} : fbE f b t=if t=b then .any else f t:=_root_.id rfl
theorem af {g : Nat} {hs : Option (List Nat)} {K : Env -> Prop} {ns : List am} {dst : Option Nat} {u : Tag (hs,K,ns)} {R : List Nat} {acc : List (List Nat × List Nat)} {p : Bool} {ds : List D} (h : C g ds d []) (hf : isF d=true \/ p=true) (hk : dW C hs K ns dst ⟨⟩ e R acc d) : nH C g hs K ns dst u e R acc p ds:=⟨d,h,hf,hk⟩
def nv (S : Type) (G : S -> Env) (I : S -> Prop) (m : S -> Nat) (s : S) (Q : cc -> Env -> Prop) : cc -> Env -> Prop:=fun t e'=>match t with
    | .nrm=>∃ s',I s' /\ m s' < m s /\ jc e' (G s')
    | t=>Q t e'
theorem aF {c : dt} {u : Tag (c,Q)} (S : Type) (G : S -> Env) (I : S -> Prop) (m : S -> Nat) (s0 : S) (h0 : I s0) (hw : jc e (G s0))
  (h : ∀ s,I s -> wN C c (nv S G I m s Q) ⟨⟩ (G s)) : wZ C c Q u e:=⟨S,G,I,m,s0,h0,hw,h⟩
@[simp] theorem Ol {u} : wN C .skip Q u e=bL Q ⟨⟩ .nrm e:=_root_.id rfl
@[simp] theorem PY {hs keep ops u} : wN C (.reg false hs keep ops) Q u e=qT C (vo keep Q) ops ⟨⟩ e:=_root_.id rfl
@[simp] theorem Oh {hs keep ops u} : wN C (.reg true hs keep ops) Q u e=pq C hs (vo keep Q) ops ⟨⟩ e []:=_root_.id rfl
@[simp] theorem P0 {x y u} : wN C (.seq x y) Q u e=wN C x (vz C y Q) ⟨⟩ e:=_root_.id rfl
def brB (b : Bool) (X Y : Prop) (_ : Tag (X,Y)) : Prop:=(b=true -> X) /\ (b=false -> Y)
theorem av {b : Bool} {X Y : Prop} {u} (h1 : b=true -> X) (h2 : b=false -> Y) : brB b X Y u:=⟨h1,h2⟩
@[simp] theorem Ep {X Y : Prop} {u} : brB true X Y u=X:=by simp [brB]
@[simp] theorem A4 {X Y : Prop} {u} : brB false X Y u=Y:=by simp [brB]
def cdW (C : CC) (x y : dt) (Q : cc -> Env -> Prop) (_ : Tag (x,y,Q)) (e : Env) (d : D) : Prop:=match d with
 | .bool b=>brB b (wN C x Q ⟨⟩ e) (wN C y Q ⟨⟩ e) ⟨⟩
 | .bb=>wN C x Q ⟨⟩ e /\ wN C y Q ⟨⟩ e
 | _=>False
@[simp] theorem Ot {x y u} : cdW C x y Q u e .bb=(wN C x Q ⟨⟩ e /\ wN C y Q ⟨⟩ e):=_root_.id rfl
@[simp] theorem Er {x y u b} : cdW C x y Q u e (.bool b)=brB b (wN C x Q ⟨⟩ e) (wN C y Q ⟨⟩ e) ⟨⟩:=_root_.id rfl
@[simp] theorem Og {c x y u} : wN C (.cond c x y) Q u e=cdW C x y Q ⟨⟩ e (vd (aa e) c):=_root_.id rfl
@[simp] theorem I7 {id c u} : wN C (.block id c) Q u e=wN C c (mJ id Q) ⟨⟩ e:=_root_.id rfl
@[simp] theorem Oj {c u} : wN C (.loop c) Q u e=wZ C c Q ⟨⟩ e:=_root_.id rfl
@[simp] theorem Oi {id u} : wN C (.exit id) Q u e=bL Q ⟨⟩ (.ext id) e:=_root_.id rfl
@[simp] theorem PZ {u} : wN C .ret Q u e=bL Q ⟨⟩ .ret e:=_root_.id rfl
@[simp] theorem uP {y u} : bL (vz C y Q) u .nrm e=wN C y Q ⟨⟩ e:=_root_.id rfl
@[simp] theorem uO {y u i} : bL (vz C y Q) u (.ext i) e=bL Q ⟨⟩ (.ext i) e:=_root_.id rfl
@[simp] theorem uQ {y u} : bL (vz C y Q) u .ret e=bL Q ⟨⟩ .ret e:=_root_.id rfl
@[simp] theorem sx {id u} : bL (mJ id Q) u .nrm e=bL Q ⟨⟩ .nrm e:=_root_.id rfl
@[simp] theorem sw {id u i} : bL (mJ id Q) u (.ext i) e=if i=id then bL Q ⟨⟩ .nrm e else bL Q ⟨⟩ (.ext i) e:=_root_.id rfl
@[simp] theorem sy {id u} : bL (mJ id Q) u .ret e=bL Q ⟨⟩ .ret e:=_root_.id rfl
@[simp] theorem uF {r u} : bL (fin r d) u .nrm e=ee r d e:=by simp [bL,fin]
@[simp] theorem uG {r u} : bL (fin r d) u .ret e=ee r d e:=by simp [bL,fin]
@[simp] theorem uc {r d} {u : Tag (qC r d)} : bL (qC r d) u .nrm e=iy r d e:=by simp [bL,qC]
@[simp] theorem ud {r d} {u : Tag (qC r d)} : bL (qC r d) u .ret e=iy r d e:=by simp [bL,qC]
@[simp] theorem ua {r sz es} {u : Tag (oU r sz es)} : bL (oU r sz es) u .nrm e=iz r sz es e:=by simp [bL,oU]
@[simp] theorem ub {r sz es} {u : Tag (oU r sz es)} : bL (oU r sz es) u .ret e=iz r sz es e:=by simp [bL,oU]
@[simp] theorem ug {r d sz es} {u : Tag (oV r d sz es)} : bL (oV r d sz es) u .nrm e=((0 < es.length /\ aa e 10015=.blk sz es) /\ ee r d ((10015,.any)::e)):=by simp [bL,oV]
@[simp] theorem uh {r d sz es} {u : Tag (oV r d sz es)} : bL (oV r d sz es) u .ret e=((0 < es.length /\ aa e 10015=.blk sz es) /\ ee r d ((10015,.any)::e)):=by simp [bL,oV]
@[simp] theorem ue {r sz es} {u : Tag (qD r sz es)} : bL (qD r sz es) u .nrm e=iA r sz es e:=by simp [bL,qD]
@[simp] theorem uf {r sz es} {u : Tag (qD r sz es)} : bL (qD r sz es) u .ret e=iA r sz es e:=by simp [bL,qD]
@[simp] theorem t7 {r d} {u : Tag (qA r d)} : bL (qA r d) u .nrm e=oy r d e:=by simp [bL,qA]
@[simp] theorem t8 {r d} {u : Tag (qA r d)} : bL (qA r d) u .ret e=oy r d e:=by simp [bL,qA]
@[simp] theorem sB {S G I m s u} : bL (nv S G I m s Q) u .nrm e=∃ s',I s' /\ m s' < m s /\ jc e (G s'):=_root_.id rfl
@[simp] theorem sA {S G I m s u i} : bL (nv S G I m s Q) u (.ext i) e=bL Q ⟨⟩ (.ext i) e:=_root_.id rfl
@[simp] theorem sC {S G I m s u} : bL (nv S G I m s Q) u .ret e=bL Q ⟨⟩ .ret e:=_root_.id rfl
end
section
variable {C : CC} {Q : cc -> Env -> Prop} {e : Env} {K : Env -> Prop} {dst : Option Nat} {d : D} {hs : Option (List Nat)} {ns : List am} {R : List Nat} {acc : List (List Nat × List Nat)} {u : Tag (hs,K,ns)}
@[simp] theorem Iw {keep u} : qT C (vo keep Q) [] u e=bL Q ⟨⟩ .nrm (prune keep e):=_root_.id rfl
@[simp] theorem Iv {h keep u} : pq C h (vo keep Q) [] u e acc=(FH h acc /\ bL Q ⟨⟩ .nrm (prune keep e)):=_root_.id rfl
@[simp] theorem DA {dst op ns u} : qT C K (⟨dst,op,none⟩::ns) u e=opW C none K ns dst op ⟨⟩ e [] []:=_root_.id rfl
@[simp] theorem Dy {h dst op ns u} : pq C h K (⟨dst,op,none⟩::ns) u e acc=(chk (aa e) ⟨dst,op,none⟩=true /\ opW C (some h) K ns dst op ⟨⟩ e (gj (aa e) ⟨dst,op,none⟩) acc):=_root_.id rfl
def lF (C : CC) (h : List Nat) (K : Env -> Prop) (ns : List am) (_ : Tag (h,K,ns)) (e : Env) (dst : Option Nat) (R : List Nat) (acc : List (List Nat × List Nat)) : Prop:=ic e dst fun e'=>jJ C h K ns e' ((R,qw dst)::acc)
@[simp] theorem zZ {h t ns u} : lF C h K ns u e (some t) R acc=pq C h K ns ⟨⟩ ((t,.tup [])::e) ((R,[4 * t])::acc):=_root_.id rfl
@[simp] theorem zY {h ns u} : lF C h K ns u e none R acc=pq C h K ns ⟨⟩ e ((R,[])::acc):=_root_.id rfl
def gdT (C : CC) (K : Env -> Prop) (ns : List am) (dst : Option Nat) (op : NOp) (s : Nat) (want : Bool) (_ : Tag (K,ns)) (e : Env) (d : D) : Prop:=match d with
 | .bool b=>(b=want -> opW C none K ns dst op ⟨⟩ ((s,.bool want)::e) [] []) /\ (b=!want -> dW C none K ns dst ⟨⟩ ((s,.bool !want)::e) [] [] (.tup []))
 | .tup []=>dW C none K ns dst ⟨⟩ e [] [] (.tup [])
 | _=>False
@[simp] theorem Fp {op s b u} : gdT C K ns dst op s true u e (.bool b)=brB b (opW C none K ns dst op ⟨⟩ ((s,.bool true)::e) [] []) (dW C none K ns dst ⟨⟩ ((s,.bool false)::e) [] [] (.tup [])) ⟨⟩:=_root_.id rfl
@[simp] theorem BX {op s b u} : gdT C K ns dst op s false u e (.bool b)=brB b (dW C none K ns dst ⟨⟩ ((s,.bool true)::e) [] [] (.tup [])) (opW C none K ns dst op ⟨⟩ ((s,.bool false)::e) [] []) ⟨⟩:=by
 simp only [gdT,brB,Bool.not_false];exact propext ⟨fun h=>⟨h.2,h.1⟩,fun h=>⟨h.2,h.1⟩⟩
@[simp] theorem Fn {op s want u} : gdT C K ns dst op s want u e (.tup [])=dW C none K ns dst ⟨⟩ e [] [] (.tup []):=_root_.id rfl
@[simp] theorem DB {dst op s want ns u} : qT C K (⟨dst,op,some (s,want)⟩::ns) u e=gdT C K ns dst op s want ⟨⟩ e (aa e s):=by
 simp only [qT,ib,opW,oH,ic,gdT,dW,cA,kOf,wP,dg]
 cases aa e s <;> cases dst <;> (first | rfl | (rename_i x _ ;cases x <;> rfl) | (rename_i x;cases x <;> rfl))
def gdD (C : CC) (h : List Nat) (K : Env -> Prop) (ns : List am) (dst : Option Nat) (op : NOp) (want : Bool) (_ : Tag (K,ns)) (e : Env) (R : List Nat) (acc : List (List Nat × List Nat)) (d : D) : Prop:=match d with
 | .bool b=>(b=want -> opW C (some h) K ns dst op ⟨⟩ e R acc) /\ (b=!want -> lF C h K ns ⟨⟩ e dst R acc)
 | .tup []=>lF C h K ns ⟨⟩ e dst R acc
 | _=>False
@[simp] theorem Fm {h op b u} : gdD C h K ns dst op true u e R acc (.bool b)=brB b (opW C (some h) K ns dst op ⟨⟩ e R acc) (lF C h K ns ⟨⟩ e dst R acc) ⟨⟩:=_root_.id rfl
@[simp] theorem BW {h op b u} : gdD C h K ns dst op false u e R acc (.bool b)=brB b (lF C h K ns ⟨⟩ e dst R acc) (opW C (some h) K ns dst op ⟨⟩ e R acc) ⟨⟩:=by
 simp only [gdD,brB,Bool.not_false];exact propext ⟨fun h=>⟨h.2,h.1⟩,fun h=>⟨h.2,h.1⟩⟩
@[simp] theorem Fk {h op want u} : gdD C h K ns dst op want u e R acc (.tup [])=lF C h K ns ⟨⟩ e dst R acc:=_root_.id rfl
@[simp] theorem Dz {h dst op s want ns u} : pq C h K (⟨dst,op,some (s,want)⟩::ns) u e acc=(chk (aa e) ⟨dst,op,some (s,want)⟩=true /\ gdD C h K ns dst op want ⟨⟩ e (gj (aa e) ⟨dst,op,some (s,want)⟩) acc (aa e s)):=_root_.id rfl
@[simp] theorem EH {K ns u ws ks} : doW C none K ns u e R acc ws ks=qT C K ns ⟨⟩ (ws++dg ks e):=_root_.id rfl
@[simp] theorem EG {h K ns u ws ks} : doW C (some h) K ns u e R acc ws ks=(wOk R ws ks=true /\ pq C h K ns ⟨⟩ (ws++dg ks e) ((R,wrK ws ks)::acc)):=_root_.id rfl
@[simp] theorem Jp {t} : dW C hs K ns (some t) u e R acc d=doW C hs K ns ⟨⟩ e R acc [(t,d)] []:=_root_.id rfl
@[simp] theorem Jo : dW C hs K ns none u e R acc d=doW C hs K ns ⟨⟩ e R acc [] []:=_root_.id rfl
def aJ (ks : List (Nat × Bool)) (d : D) : D:=if aw ks d then .any else d
theorem bA (ks : List (Nat × Bool)) (d : D) : aJ ks d=bif aw ks d then .any else d:=by
 unfold aJ;cases aw ks d <;> rfl
@[simp] theorem C0 : dg [] e=e:=_root_.id rfl
@[simp] theorem CZ {k ks} : dg (k::ks) []=[]:=_root_.id rfl
@[simp] theorem yN {k ks s d} : dg (k::ks) ((s,d)::e)=(s,aJ (k::ks) d)::dg (k::ks) e:=_root_.id rfl
@[simp] theorem CH {ks} : aJ ks .any=.any:=by simp [aJ]
@[simp] theorem CN {ks k n} : aJ ks (.int k n)=.int k n:=by simp [aJ,aw,co,ay]
@[simp] theorem yK {ks n} : aJ ks (.bool n)=.bool n:=by simp [aJ,aw,co,ay]
@[simp] theorem CW {ks n} : aJ ks (.str n)=.str n:=by simp [aJ,aw,co,ay]
@[simp] theorem Hd {ks} : aJ ks .bb=.bb:=by simp [aJ,aw,co,ay]
@[simp] theorem yL {ks} : aJ ks .nilp=.nilp:=by simp [aJ,aw,co,ay]
@[simp] theorem yM {ks} : aJ ks .nils=.nils:=by simp [aJ,aw,co,ay]
@[simp] theorem CF {ks n} : aJ ks (.agg n)=.agg n:=by simp [aJ,aw,co,ay]
@[simp] theorem CY {ks n} : aJ ks (.tup n)=.tup n:=by simp [aJ,aw,co,ay]
@[simp] theorem Hg {ks n} : aJ ks (.sl n)=.sl n:=by simp [aJ,aw,co,ay]
@[simp] theorem CQ {ks n} : aJ ks (.ptr n)=.ptr n:=by simp [aJ,aw,co,ay]
@[simp] theorem He {ks g n} : aJ ks (.fn g n)=.fn g n:=by simp [aJ,aw,co,ay]
@[simp] theorem CI {ks g n} : aJ ks (.blk g n)=.blk g n:=by simp [aJ,aw,co,ay]
@[simp] theorem Hf {ks kt et xs vs} : aJ ks (.mp kt et xs vs)=.mp kt et xs vs:=by simp [aJ,aw,co,ay]
@[simp] theorem CS {b all ks p k n} : aJ ((b,all)::ks) (.ref p k n)=if bg b all p then .any else aJ ks (.ref p k n):=by
 have h : aJ ((b,all)::ks) (.ref p k n)=bif (bg b all p || aw ks (.ref p k n)) then .any else .ref p k n:=bA ..
 rw [h,bA]
 cases bg b all p <;> rfl
@[simp] theorem CE {b all ks p k n} : aJ ((b,all)::ks) (.adr p k n)=if bg b all p then .any else aJ ks (.adr p k n):=by
 have h : aJ ((b,all)::ks) (.adr p k n)=bif (bg b all p || aw ks (.adr p k n)) then .any else .adr p k n:=bA ..
 rw [h,bA]
 cases bg b all p <;> rfl
@[simp] theorem CG {b all ks n} : aJ ((b,all)::ks) (.agx n)=if n.any (ay b all) then .any else aJ ks (.agx n):=by
 have h : aJ ((b,all)::ks) (.agx n)=bif (n.any (ay b all) || aw ks (.agx n)) then .any else .agx n:=bA ..
 rw [h,bA]
 cases n.any (ay b all) <;> rfl
@[simp] theorem CJ {b all ks g n} : aJ ((b,all)::ks) (.fnx g n)=if n.any (ay b all) then .any else aJ ks (.fnx g n):=by
 have h : aJ ((b,all)::ks) (.fnx g n)=bif (n.any (ay b all) || aw ks (.fnx g n)) then .any else .fnx g n:=bA ..
 rw [h,bA]
 cases n.any (ay b all) <;> rfl
@[simp] theorem CM {ks T n} : aJ ks (.ifi T n)=.ifi T n:=by simp [aJ,aw,co,ay]
@[simp] theorem CU {ks q n} : aJ ks (.slv q n)=.slv q n:=by simp [aJ,aw,co,ay]
@[simp] theorem CL {b all ks T p k n} : aJ ((b,all)::ks) (.ifa T p k n)=if bg b all p then .any else aJ ks (.ifa T p k n):=by
 have h : aJ ((b,all)::ks) (.ifa T p k n)=bif (bg b all p || aw ks (.ifa T p k n)) then .any else .ifa T p k n:=bA ..
 rw [h,bA]
 cases bg b all p <;> rfl
@[simp] theorem CK {b all ks g ds cs} : aJ ((b,all)::ks) (.fny g ds cs)=if ds.any (ay b all) || cs.any (ay b all) then .any else aJ ks (.fny g ds cs):=by
 have h : aJ ((b,all)::ks) (.fny g ds cs)=bif ((ds.any (ay b all) || cs.any (ay b all)) || aw ks (.fny g ds cs)) then .any else .fny g ds cs:=bA ..
 rw [h,bA]
 cases ds.any (ay b all) <;> cases cs.any (ay b all) <;> rfl
@[simp] theorem CP {d} : aJ [] d=d:=by simp [aJ,aw]
@[simp] theorem CV {ks b es} : aJ ks (slx b es)=slx b es:=by cases b <;> cases es <;> simp [slx]
def fZ (C : CC) (hs : Option (List Nat)) (K : Env -> Prop) (ns : List am) (dst : Option Nat) (_ : Tag (hs,K,ns)) (e : Env) (R : List Nat) (acc : List (List Nat × List Nat)) (sz : Nat) (es : List (List D)) (i : Nat) : Prop :=
 ∃ c,es[i]? = some c /\ c.length=sz /\ cA dst (kOf C hs K ns e R acc) (.ptr c)
@[simp] theorem FF {α : Type} [Inhabited α] {sz : Nat} {xs : List α} {f : α -> List D} {i : Nat} : fZ C hs K ns dst u e R acc sz (xs.map f) i=(i < xs.length /\ (f xs[i]!).length=sz /\ dW C hs K ns dst ⟨⟩ e R acc (.ptr (f xs[i]!))):=by
 apply propext
 unfold fZ dW
 constructor
 ·rintro ⟨c,h,h1,h2⟩
  rw [List.getElem?_map,Option.map_eq_some_iff] at h
  obtain ⟨x,hx,rfl⟩:=h
  obtain ⟨hi,rfl⟩:=List.getElem?_eq_some_iff.1 hx
  rw [getElem!_pos xs i hi]
  exact ⟨hi,h1,h2⟩
 ·rintro ⟨hi,h1,h2⟩
  rw [getElem!_pos xs i hi] at h1 h2
  exact ⟨_,by rw [List.getElem?_map,List.getElem?_eq_getElem hi];rfl,h1,h2⟩
def xU (C : CC) (hs : Option (List Nat)) (K : Env -> Prop) (ns : List am) (dst : Option Nat) (_ : Tag (hs,K,ns)) (e : Env) (R : List Nat) (acc : List (List Nat × List Nat)) (s : List UInt8) (i : Nat) : Prop :=
 ∃ b,s[i]? = some b /\ cA dst (kOf C hs K ns e R acc) (.int .u8 b.toNat)
@[simp] theorem Jk {s : List UInt8} {i : Nat} : xU C hs K ns dst u e R acc s i=(i < s.length /\ dW C hs K ns dst ⟨⟩ e R acc (.int .u8 (s[i]!).toNat)):=by
 apply propext
 unfold xU dW
 constructor
 ·rintro ⟨b,h,h2⟩
  obtain ⟨hi,rfl⟩:=List.getElem?_eq_some_iff.1 h
  rw [getElem!_pos s i hi]
  exact ⟨hi,h2⟩
 ·rintro ⟨hi,h2⟩
  rw [getElem!_pos s i hi] at h2
  exact ⟨_,List.getElem?_eq_getElem hi,h2⟩
def jD (C : CC) (hs : Option (List Nat)) (K : Env -> Prop) (ns : List am) (dst : Option Nat) (_ : Tag (hs,K,ns)) (e : Env) (R : List Nat) (acc : List (List Nat × List Nat)) (n : Nat) (ag : Bool) (p : Pa) (es : List (List D)) (i off : Nat) : Prop :=
 ∃ r,es[i]? = some r /\ off + n <= r.length /\ match ag with
    | true=>(((r.drop off).take n).all isV=true -> cA dst (kOf C hs K ns e R acc) (.agg ((r.drop off).take n))) /\
      (((r.drop off).take n).all isV=false -> cA dst (kOf C hs K ns e R acc) (.agx (((r.drop off).take n).mapIdx fun j c=>ldc p i (off + j) c)))
    | false=>cA dst (kOf C hs K ns e R acc) (ldc p i off ((r.drop off).headD .any))
theorem p8 {n : Nat} {ag : Bool} {p : Pa} {es : List (List D)} {i off : Nat} {r : List D} (hr : es[i]? = some r) (hl : off + n <= r.length) (hk : match ag with
    | true=>(((r.drop off).take n).all isV=true -> dW C hs K ns dst ⟨⟩ e R acc (.agg ((r.drop off).take n))) /\
      (((r.drop off).take n).all isV=false -> dW C hs K ns dst ⟨⟩ e R acc (.agx (((r.drop off).take n).mapIdx fun j c=>ldc p i (off + j) c)))
    | false=>dW C hs K ns dst ⟨⟩ e R acc (ldc p i off ((r.drop off).headD .any))) : jD C hs K ns dst u e R acc n ag p es i off:=by
 refine ⟨r,hr,hl,?_⟩
 cases ag <;> exact hk
@[simp] theorem II {n : Nat} {ag : Bool} {p : Pa} {r : List D} {off : Nat} : jD C hs K ns dst u e R acc n ag p [r] 0 off=(off + n <= r.length /\ match ag with
    | true=>(((r.drop off).take n).all isV=true -> dW C hs K ns dst ⟨⟩ e R acc (.agg ((r.drop off).take n))) /\
      (((r.drop off).take n).all isV=false -> dW C hs K ns dst ⟨⟩ e R acc (.agx (((r.drop off).take n).mapIdx fun j c=>ldc p 0 (off + j) c)))
    | false=>dW C hs K ns dst ⟨⟩ e R acc (ldc p 0 off ((r.drop off).headD .any))):=by
 apply propext
 constructor
 ·rintro ⟨r',h1,h2,h3⟩
  simp at h1;subst h1
  refine ⟨h2,?_⟩
  cases ag <;> exact h3
 ·rintro ⟨h2,h3⟩
  refine ⟨r,rfl,h2,?_⟩
  cases ag <;> exact h3
end
section
variable {C : CC} {Q : cc -> Env -> Prop} {e : Env} {K : Env -> Prop} {dst : Option Nat} {hs : Option (List Nat)} {ns : List am} {R : List Nat} {acc : List (List Nat × List Nat)} {u : Tag (hs,K,ns)}
@[simp] theorem NX {x v1} : opW C hs K ns dst (.mov x) v1 e R acc=(isS (vd (aa e) x)=true /\ dW C hs K ns dst ⟨⟩ e R acc (vd (aa e) x)):=_root_.id rfl
@[simp] theorem N0 {x v1} : opW C hs K ns dst (.nck x) v1 e R acc=(match (generalizing:=false) vd (aa e) x with
  | .ptr ds=>dW C hs K ns dst ⟨⟩ e R acc (.ptr ds)
  | .adr p i off=>dW C hs K ns dst ⟨⟩ e R acc (.adr p i off)
  | .ptx ds=>dW C hs K ns dst ⟨⟩ e R acc (.ptx ds)
  | _=>False):=_root_.id rfl
@[simp] theorem Iu {c a b v1} : opW C hs K ns dst (.pick c a b) v1 e R acc=(match (generalizing:=false) vd (aa e) c with
  | .bool v=>(v=true -> isS (vd (aa e) a)=true /\ dW C hs K ns dst ⟨⟩ e R acc (vd (aa e) a)) /\ (v=false -> isS (vd (aa e) b)=true /\ dW C hs K ns dst ⟨⟩ e R acc (vd (aa e) b))
  | _=>False):=_root_.id rfl
@[simp] theorem NF {op x y v1} : opW C hs K ns dst (.bin op x y) v1 e R acc=(match (generalizing:=false) vd (aa e) x,vd (aa e) y with
  | .int k a,.int k' b=>match (generalizing:=false) op with
   | .add=>k=k' /\ dW C hs K ns dst ⟨⟩ e R acc (.int k (k.wrap (a + b)))
   | .sub=>k=k' /\ dW C hs K ns dst ⟨⟩ e R acc (.int k (k.wrap (a - b)))
   | .mul=>k=k' /\ dW C hs K ns dst ⟨⟩ e R acc (.int k (k.wrap (a * b)))
   | .quo=>k=k' /\ b ≠ 0 /\ dW C hs K ns dst ⟨⟩ e R acc (.int k (k.wrap (a.tdiv b)))
   | .rem=>k=k' /\ b ≠ 0 /\ dW C hs K ns dst ⟨⟩ e R acc (.int k (a.tmod b))
   | .and=>k=k' /\ dW C hs K ns dst ⟨⟩ e R acc (.int k (bits .and k a b))
   | .or=>k=k' /\ dW C hs K ns dst ⟨⟩ e R acc (.int k (bits .or k a b))
   | .xor=>k=k' /\ dW C hs K ns dst ⟨⟩ e R acc (.int k (bits .xor k a b))
   | .andNot=>k=k' /\ dW C hs K ns dst ⟨⟩ e R acc (.int k (bits .andNot k a b))
   | .shl=>0 <= b /\ dW C hs K ns dst ⟨⟩ e R acc (.int k (k.wrap (a * 2 ^ (min b.toNat k.bits))))
   | .shr=>0 <= b /\ dW C hs K ns dst ⟨⟩ e R acc (.int k (a.fdiv (2 ^ (min b.toNat k.bits))))
   | .eql=>k=k' /\ dW C hs K ns dst ⟨⟩ e R acc (.bool (decide (a=b)))
   | .neq=>k=k' /\ dW C hs K ns dst ⟨⟩ e R acc (.bool (!decide (a=b)))
   | .lss=>k=k' /\ dW C hs K ns dst ⟨⟩ e R acc (.bool (decide (a < b)))
   | .leq=>k=k' /\ dW C hs K ns dst ⟨⟩ e R acc (.bool (decide (a <= b)))
   | .gtr=>k=k' /\ dW C hs K ns dst ⟨⟩ e R acc (.bool (decide (b < a)))
   | .geq=>k=k' /\ dW C hs K ns dst ⟨⟩ e R acc (.bool (decide (b <= a)))
  | .str a,.str b=>match (generalizing:=false) op with
   | .eql=>dW C hs K ns dst ⟨⟩ e R acc (.bool (decide (a=b)))
   | .neq=>dW C hs K ns dst ⟨⟩ e R acc (.bool (!decide (a=b)))
   | .add=>((a++b).length : Int) <= 9223372036854775807 /\ dW C hs K ns dst ⟨⟩ e R acc (.str (a++b))
   | .lss=>dW C hs K ns dst ⟨⟩ e R acc (.bool (Op.bytesLess a b))
   | .leq=>dW C hs K ns dst ⟨⟩ e R acc (.bool (Op.bytesLess a b || a == b))
   | .gtr=>dW C hs K ns dst ⟨⟩ e R acc (.bool !(Op.bytesLess a b || a == b))
   | .geq=>dW C hs K ns dst ⟨⟩ e R acc (.bool !(Op.bytesLess a b))
   | _=>False
  | _,_=>False):=_root_.id rfl
@[simp] theorem PO {op x v1} : opW C hs K ns dst (.un op x) v1 e R acc=(match (generalizing:=false) vd (aa e) x with
  | .bool b=>match (generalizing:=false) op with
   | .not=>dW C hs K ns dst ⟨⟩ e R acc (.bool (!b))
   | _=>False
  | .int k n=>match (generalizing:=false) op with
   | .neg=>dW C hs K ns dst ⟨⟩ e R acc (.int k (k.wrap (0 - n)))
   | _=>False
  | _=>False):=_root_.id rfl
@[simp] theorem In {k x v1} : opW C hs K ns dst (.conv k x) v1 e R acc=(match (generalizing:=false) vd (aa e) x with
  | .int _ n=>dW C hs K ns dst ⟨⟩ e R acc (.int k (k.wrap n))
  | _=>False):=_root_.id rfl
@[simp] theorem NE {neg ks x y v1} : opW C hs K ns dst (.beq neg ks x y) v1 e R acc=(match (generalizing:=false) vd (aa e) x,vd (aa e) y with
  | .bool a,.bool b=>ks=[] /\ dW C hs K ns dst ⟨⟩ e R acc (.bool ((a == b) != neg))
  | .agg a,.agg b=>ks ≠ [] /\ match (generalizing:=false) b0 ks a b with
   | some r=>dW C hs K ns dst ⟨⟩ e R acc (.bool (r != neg))
   | none=>False
  | .nils,.nils=>ks=[9] /\ dW C hs K ns dst ⟨⟩ e R acc (.bool (!neg))
  | .sl es,.nils=>ks=[9] /\ (0 < es.length -> dW C hs K ns dst ⟨⟩ e R acc (.bool neg)) /\ (es.length=0 -> dW C hs K ns dst ⟨⟩ e R acc .bb)
  | .nilp,.nilp=>ks=[8] /\ dW C hs K ns dst ⟨⟩ e R acc (.bool (!neg))
  | .ptr _,.nilp=>ks=[8] /\ dW C hs K ns dst ⟨⟩ e R acc (.bool neg)
  | _,_=>False):=_root_.id rfl
@[simp] theorem NO {off n ag x v1} : opW C hs K ns dst (.fld off n ag x) v1 e R acc=(match (generalizing:=false) vd (aa e) x with
  | .agg ds=>off + n <= ds.length /\ dW C hs K ns dst ⟨⟩ e R acc (ke ag n (ds.drop off))
  | .agx ds=>off + n <= ds.length /\ match (generalizing:=false) ag with
   | true=>dW C hs K ns dst ⟨⟩ e R acc (.agx ((ds.drop off).take n))
   | false=>dW C hs K ns dst ⟨⟩ e R acc ((ds.drop off).headD .any)
  | _=>False):=_root_.id rfl
@[simp] theorem Iq {len sz ag x i v1} : opW C hs K ns dst (.idxA len sz ag x i) v1 e R acc=(match (generalizing:=false) vd (aa e) x,vd (aa e) i with
  | .agg ds,.int _ j=>0 <= j /\ j < len /\ j.toNat * sz + sz <= ds.length /\ dW C hs K ns dst ⟨⟩ e R acc (ke ag sz (ds.drop (j.toNat * sz)))
  | .agx ds,.int _ j=>0 <= j /\ j < len /\ j.toNat * sz + sz <= ds.length /\ match (generalizing:=false) ag with
   | true=>dW C hs K ns dst ⟨⟩ e R acc (.agx ((ds.drop (j.toNat * sz)).take sz))
   | false=>dW C hs K ns dst ⟨⟩ e R acc ((ds.drop (j.toNat * sz)).headD .any)
  | _,_=>False):=_root_.id rfl
@[simp] theorem N1 {len sz x v1} : opW C hs K ns dst (.slA len sz x) v1 e R acc=(match (generalizing:=false) vd (aa e) x with
  | .ptr ds=>0 < len /\ 0 < sz /\ len * sz <= ds.length /\ dW C hs K ns dst ⟨⟩ e R acc (.sl (bK sz len ds))
  | _=>False):=_root_.id rfl
@[simp] theorem NL {x v1} : opW C hs K ns dst (.cvS x) v1 e R acc=(match (generalizing:=false) vd (aa e) x with
  | .sl es=>0 < es.length /\ (∀ r ∈ es,∃ n : Nat,r=[.int .u8 n] /\ n < 256) /\ dW C hs K ns dst ⟨⟩ e R acc (.str (es.map ij))
  | _=>False):=_root_.id rfl
@[simp] theorem Ir {x i v1} : opW C hs K ns dst (.idxS x i) v1 e R acc=(match (generalizing:=false) vd (aa e) x,vd (aa e) i with
  | .str s,.int _ j=>0 <= j /\ xU C hs K ns dst ⟨⟩ e R acc s j.toNat
  | _,_=>False):=_root_.id rfl
@[simp] theorem NM {i x v1} : opW C hs K ns dst (.ext i x) v1 e R acc=(match (generalizing:=false) vd (aa e) x with
  | .tup ds=>∃ d,ds[i]? = some d /\ dW C hs K ns dst ⟨⟩ e R acc d
  | .tpx ds=>∃ d,ds[i]? = some d /\ dW C hs K ns dst ⟨⟩ e R acc d
  | _=>False):=_root_.id rfl
@[simp] theorem NN {off x v1} : opW C hs K ns dst (.fad off x) v1 e R acc=(match (generalizing:=false) vd (aa e) x with
  | .adr p i o=>dW C hs K ns dst ⟨⟩ e R acc (.adr p i (o + off))
  | .ptr ds=>dW C hs K ns dst ⟨⟩ e R acc (.ptr (ds.drop off))
  | .ptx ds=>dW C hs K ns dst ⟨⟩ e R acc (.ptx (ds.drop off))
  | _=>False):=_root_.id rfl
@[simp] theorem Io {len sz x i v1} : opW C hs K ns dst (.iadA len sz x i) v1 e R acc=(match (generalizing:=false) vd (aa e) x,vd (aa e) i with
  | .adr p r o,.int _ j=>0 <= j /\ j < len /\ dW C hs K ns dst ⟨⟩ e R acc (.adr p r (o + j.toNat * sz))
  | .ptr ds,.int _ j=>0 <= j /\ j < len /\ dW C hs K ns dst ⟨⟩ e R acc (.ptr (ds.drop (j.toNat * sz)))
  | _,_=>False):=_root_.id rfl
@[simp] theorem PJ {n ag x v1} : opW C hs K ns dst (.ld n ag x) v1 e R acc=(match (generalizing:=false) vd (aa e) x with
  | .adr p i off=>match (generalizing:=false) aL (aa e) p with
   | some (_,es)=>jD C hs K ns dst ⟨⟩ e R acc n ag p es i off
   | none=>False
  | .ptr ds=>n <= ds.length /\ dW C hs K ns dst ⟨⟩ e R acc (ke ag n ds)
  | .ptx ds=>n <= ds.length /\ match (generalizing:=false) ag with
   | true=>((ds.take n).all isV=true -> dW C hs K ns dst ⟨⟩ e R acc (.agg (ds.take n))) /\ ((ds.take n).all isV=false -> dW C hs K ns dst ⟨⟩ e R acc (.agx (ds.take n)))
   | false=>0 < n /\ dW C hs K ns dst ⟨⟩ e R acc (ds.headD .any)
  | _=>False):=_root_.id rfl
@[simp] theorem NG {zs parts v1} : opW C hs K ns dst (.bld zs parts) v1 e R acc=((∀ p ∈ parts,isS (vd (aa e) p.2.2)=true /\ p.1 + p.2.1 <= zs.length /\ match (generalizing:=false) vd (aa e) p.2.2 with
    | .agg ds=>ds.length=p.2.1
    | .agx ds=>ds.length=p.2.1
    | .any=>False
    | .tpx _=>False
    | .ptx _=>False
    | .rfx _ _ _=>False
    | .fny _ _ _=>False
    | .fnx _ _=>False
    | _=>p.2.1=1) /\
   ((parts.all fun p=>isV (vd (aa e) p.2.2))=true -> dW C hs K ns dst ⟨⟩ e R acc (.agg (gk zs (parts.map fun p=>(p.1,p.2.1,vd (aa e) p.2.2))))) /\
   ((parts.all fun p=>isV (vd (aa e) p.2.2))=false -> dW C hs K ns dst ⟨⟩ e R acc (.agx (gk zs (parts.map fun p=>(p.1,p.2.1,bJ (vd (aa e) p.2.2))))))):=_root_.id rfl
@[simp] theorem Is {x v1} : opW C hs K ns dst (.lens x) v1 e R acc=(match (generalizing:=false) vd (aa e) x with
  | .str s=>dW C hs K ns dst ⟨⟩ e R acc (.int .i64 s.length)
  | _=>False):=_root_.id rfl
@[simp] theorem PK {g xs v1} : opW C hs K ns dst (.mk g xs) v1 e R acc=((∀ x ∈ xs,isP (vd (aa e) x)=true) /\ ((xs.all fun x=>isV (vd (aa e) x))=true -> dW C hs K ns dst ⟨⟩ e R acc (.fn g (xs.map (vd (aa e))))) /\ ((xs.all fun x=>isV (vd (aa e) x))=false -> dW C hs K ns dst ⟨⟩ e R acc (.fnx g (xs.map (vd (aa e)))))):=_root_.id rfl
@[simp] theorem N3 {x lo hi v1} : opW C hs K ns dst (.slS x lo hi) v1 e R acc=(match (generalizing:=false) vd (aa e) x with
  | .str s=>cT (aa e) hi s.length (fun h=>cT (aa e) lo 0 (fun l=>l <= h /\ h <= s.length /\ dW C hs K ns dst ⟨⟩ e R acc (.str ((s.take h).drop l))) ⟨⟩) ⟨⟩
  | _=>False):=_root_.id rfl
@[simp] theorem PL {x y v1} : opW C hs K ns dst (.mn x y) v1 e R acc=(match (generalizing:=false) vd (aa e) x,vd (aa e) y with
  | .int k a,.int k' b=>k=k' /\ dW C hs K ns dst ⟨⟩ e R acc (.int k (if b < a then b else a))
  | _,_=>False):=_root_.id rfl
@[simp] theorem PM {x y v1} : opW C hs K ns dst (.mx x y) v1 e R acc=(match (generalizing:=false) vd (aa e) x,vd (aa e) y with
  | .int k a,.int k' b=>k=k' /\ dW C hs K ns dst ⟨⟩ e R acc (.int k (if a < b then b else a))
  | _,_=>False):=_root_.id rfl
@[simp] theorem Dk {x y c v1} : opW C hs K ns dst (.add64 x y c) v1 e R acc=(match (generalizing:=false) vd (aa e) x,vd (aa e) y,vd (aa e) c with
  | .int .u64 a,.int .u64 b,.int .u64 k=>0 <= a /\ a < 18446744073709551616 /\ 0 <= b /\ b < 18446744073709551616 /\ 0 <= k /\ k <= 1 /\
    dW C hs K ns dst ⟨⟩ e R acc (.tup [.int .u64 ((a + b + k) % 18446744073709551616),.int .u64 ((a + b + k) / 18446744073709551616)])
  | _,_,_=>False):=_root_.id rfl
@[simp] theorem Dx {x y c v1} : opW C hs K ns dst (.sub64 x y c) v1 e R acc=(match (generalizing:=false) vd (aa e) x,vd (aa e) y,vd (aa e) c with
  | .int .u64 a,.int .u64 b,.int .u64 k=>0 <= a /\ a < 18446744073709551616 /\ 0 <= b /\ b < 18446744073709551616 /\ 0 <= k /\ k <= 1 /\
    dW C hs K ns dst ⟨⟩ e R acc (.tup [.int .u64 ((a - b - k) % 18446744073709551616),.int .u64 (if a < b + k then 1 else 0)])
  | _,_,_=>False):=_root_.id rfl
@[simp] theorem It {sz v1} : opW C hs K ns dst (.nilo sz) v1 e R acc=(match (generalizing:=false) dst with
  | some t=>0 < sz /\ doW C hs K ns ⟨⟩ e R acc [(t,.ref (.r (rt t 0)) 0 0),(rt t 0,.blk sz [])] [(rt t 0,true)]
  | none=>False):=_root_.id rfl
@[simp] theorem NI {x t v1} : opW C hs K ns (some t) (.box [] x) v1 e R acc=fg (aa e) (vd (aa e) x) [] (fun cs bs=>bs.contains (rt t 0)=false /\ doW C hs K ns ⟨⟩ e R acc ((t,.adr (.r (rt t 0)) 0 0)::(rt t 0,.blk cs.length [cs])::bO bs) [(rt t 0,true)]) ⟨⟩:=_root_.id rfl
@[simp] theorem NB {zs v1} : opW C hs K ns dst (.alc zs) v1 e R acc=(match (generalizing:=false) dst with
  | some t=>doW C hs K ns ⟨⟩ e R acc [(t,.adr (.r (rt t 0)) 0 0),(rt t 0,.blk zs.length [zs])] [(rt t 0,true)]
  | none=>False):=_root_.id rfl
@[simp] theorem NH {sz len zs parts t v1} : opW C hs K ns (some t) (.bls sz len zs [] parts) v1 e R acc=nh (aa e) sz parts (List.replicate len zs) [] (fun es bs=>bC bs=true /\ bs.contains (rt t 0)=false /\ doW C hs K ns ⟨⟩ e R acc ((t,.ref (.r (rt t 0)) 0 len)::(rt t 0,.blk sz es)::bO bs) [(rt t 0,true)]) ⟨⟩:=_root_.id rfl
@[simp] theorem NW {sz by_ zs n c v1} : opW C hs K ns dst (.mks sz by_ zs n c) v1 e R acc=(match (generalizing:=false) dst with
  | some t=>match (generalizing:=false) vd (aa e) n,vd (aa e) c with
   | .int _ n,.int _ c=>0 <= n /\ n <= c /\ c * by_ <= 140737488355328 /\ doW C hs K ns ⟨⟩ e R acc [(t,.ref (.r (rt t 0)) 0 n.toNat),(rt t 0,.blk sz (List.replicate c.toNat zs))] [(rt t 0,true)]
   | _,_=>False
  | none=>False):=_root_.id rfl
def stM (C : CC) (hs : Option (List Nat)) (K : Env -> Prop) (ns : List am) (_ : Tag (hs,K,ns)) (e : Env) (R : List Nat) (acc : List (List Nat × List Nat)) (n : Nat) (v : D) (cs : List D) (bs : List Nat) (a : D) : Prop:=match a with
 | .adr (.r b) i off=>bs.contains b=false /\ cz (aa e b) (fun sz es=>fe es[i]? (fun r=>off + n <= r.length /\ doW C hs K ns ⟨⟩ e R acc ((b,.blk sz (aW es i off n cs))::bO bs) (stK v [] b)) ⟨⟩) ⟨⟩
 | .adr (.n b i0 o0) i off=>bs=[] /\ (∀ c ∈ cs,au c=true) /\ cz (aa e b) (fun sz0 es0=>fe es0[i0]? (fun row0=>iw row0[o0]? (fun sz es=>fe es[i]? (fun r=>off + n <= r.length /\ doW C hs K ns ⟨⟩ e R acc [(b,.blk sz0 (aW es0 i0 o0 1 [.own sz (aW es i off n cs)]))] []) ⟨⟩) ⟨⟩) ⟨⟩) ⟨⟩
 | _=>False
@[simp] theorem P8 {n v cs bs b i off} : stM C hs K ns u e R acc n v cs bs (.adr (.r b) i off)=(bs.contains b=false /\ cz (aa e b) (fun sz es=>fe es[i]? (fun r=>off + n <= r.length /\ doW C hs K ns ⟨⟩ e R acc ((b,.blk sz (aW es i off n cs))::bO bs) (stK v [] b)) ⟨⟩) ⟨⟩):=_root_.id rfl
@[simp] theorem P7 {n v cs bs b i0 o0 i off} : stM C hs K ns u e R acc n v cs bs (.adr (.n b i0 o0) i off)=(bs=[] /\ (∀ c ∈ cs,au c=true) /\ cz (aa e b) (fun sz0 es0=>fe es0[i0]? (fun row0=>iw row0[o0]? (fun sz es=>fe es[i]? (fun r=>off + n <= r.length /\ doW C hs K ns ⟨⟩ e R acc [(b,.blk sz0 (aW es0 i0 o0 1 [.own sz (aW es i off n cs)]))] []) ⟨⟩) ⟨⟩) ⟨⟩) ⟨⟩):=_root_.id rfl
@[simp] theorem PN {n a v v1} : opW C hs K ns dst (.st n [] a v) v1 e R acc=(dst=none /\ fg (aa e) (vd (aa e) v) [] (fun cs bs=>cs.length=n /\ stM C hs K ns ⟨⟩ e R acc n (vd (aa e) v) cs bs (vd (aa e) a)) ⟨⟩):=by
 show (dst=none /\ eA (aa e) (vd (aa e) v) [] _)=(dst=none /\ eA (aa e) (vd (aa e) v) [] _)
 congr 1
 congr 1
 funext cs bs
 cases vd (aa e) a <;> try rfl
 rename_i p i off
 cases p with
 | r b =>
  simp only [stM,cz,ek]
  cases aa e b <;> rfl
 | n b i0 o0 =>
  simp only [stM,cz,ek,gU]
  cases aa e b <;> rfl
def qm (C : CC) (hs : Option (List Nat)) (K : Env -> Prop) (ns : List am) (_ : Tag (hs,K,ns)) (e : Env) (R : List Nat) (acc : List (List Nat × List Nat)) (t sz by_ : Nat) (rowsY : List (List D)) (bs : List Nat) (x : D) : Prop:=match x with
 | .nils=>rowsY.length * by_ <= 140737488355328 /\ doW C hs K ns ⟨⟩ e R acc ((t,.ref (.r (rt t 0)) 0 rowsY.length)::(rt t 0,.blk sz rowsY)::bO bs) [(rt t 0,true)]
 | .ref (.r c) k n=>c ≠ rt t 0 /\ bs.contains c=false /\ cz (aa e c) (fun sz' es=>sz'=sz /\ k + n <= es.length /\ (n + rowsY.length) * by_ <= 140737488355328 /\
      doW C hs K ns ⟨⟩ e R acc ((t,.ref (.r (rt t 0)) 0 (n + rowsY.length))::(rt t 0,.blk sz ((es.drop k).take n++rowsY))::(c,.any)::bO bs) [(rt t 0,true)]) ⟨⟩
 | .ref (.n c i o) k n=>c ≠ rt t 0 /\ bs.contains c=false /\ cz (aa e c) (fun sz0 es0=>fe es0[i]? (fun row0=>iw row0[o]? (fun sz' es=>sz'=sz /\ k + n <= es.length /\ (n + rowsY.length) * by_ <= 140737488355328 /\
      doW C hs K ns ⟨⟩ e R acc ((t,.ref (.r (rt t 0)) 0 (n + rowsY.length))::(rt t 0,.blk sz ((es.drop k).take n++rowsY))::(c,.blk sz0 (aW es0 i o 1 [.any]))::bO bs) [(rt t 0,true)]) ⟨⟩) ⟨⟩) ⟨⟩
 | _=>False
@[simp] theorem AU {t sz by_ rowsY bs} : qm C hs K ns u e R acc t sz by_ rowsY bs .nils=(rowsY.length * by_ <= 140737488355328 /\ doW C hs K ns ⟨⟩ e R acc ((t,.ref (.r (rt t 0)) 0 rowsY.length)::(rt t 0,.blk sz rowsY)::bO bs) [(rt t 0,true)]):=_root_.id rfl
@[simp] theorem Oq {t sz by_ rowsY bs c k n} : qm C hs K ns u e R acc t sz by_ rowsY bs (.ref (.r c) k n)=(c ≠ rt t 0 /\ bs.contains c=false /\ cz (aa e c) (fun sz' es=>sz'=sz /\ k + n <= es.length /\ (n + rowsY.length) * by_ <= 140737488355328 /\
      doW C hs K ns ⟨⟩ e R acc ((t,.ref (.r (rt t 0)) 0 (n + rowsY.length))::(rt t 0,.blk sz ((es.drop k).take n++rowsY))::(c,.any)::bO bs) [(rt t 0,true)]) ⟨⟩):=_root_.id rfl
@[simp] theorem Oo {t sz by_ rowsY bs c i o k n} : qm C hs K ns u e R acc t sz by_ rowsY bs (.ref (.n c i o) k n)=(c ≠ rt t 0 /\ bs.contains c=false /\ cz (aa e c) (fun sz0 es0=>fe es0[i]? (fun row0=>iw row0[o]? (fun sz' es=>sz'=sz /\ k + n <= es.length /\ (n + rowsY.length) * by_ <= 140737488355328 /\
      doW C hs K ns ⟨⟩ e R acc ((t,.ref (.r (rt t 0)) 0 (n + rowsY.length))::(rt t 0,.blk sz ((es.drop k).take n++rowsY))::(c,.blk sz0 (aW es0 i o 1 [.any]))::bO bs) [(rt t 0,true)]) ⟨⟩) ⟨⟩) ⟨⟩):=_root_.id rfl
@[simp] theorem NC {sz by_ mv x y t v1} : opW C hs K ns (some t) (.app sz by_ mv x y) v1 e R acc=gD (aa e) mv (vd (aa e) y) sz (fun rowsY bs=>bs.contains (rt t 0)=false /\ qm C hs K ns ⟨⟩ e R acc t sz by_ rowsY bs (vd (aa e) x)) ⟨⟩:=by
 unfold opW gD
 simp only [aq]
 congr 1
 funext rowsY bs
 congr 1
 cases vd (aa e) x <;> try rfl
 rename_i p k n
 cases p with
 | r c =>
  simp only [qm,cz]
  cases aa e c <;> rfl
 | n c i o =>
  simp only [qm,cz,ek,gU]
  cases hl : aa e c <;> try rfl
  rename_i sz0 es0
  refine congrArg _ (congrArg _ (propext ⟨?_,?_⟩))
  ·rintro ⟨row0,h1,es,h2,h3⟩
   exact ⟨row0,h1,sz,es,h2,rfl,h3⟩
  ·rintro ⟨row0,h1,sz',es,h2,rfl,h3⟩
   exact ⟨row0,h1,es,h2,h3⟩
@[simp] theorem IV {g b n xs sz es} : Ag C g hs K ns dst u e R acc b n xs (.blk sz es)=(es.length=n /\ (∀ e ∈ es,∀ c ∈ e,au c=true) /\ (∀ x ∈ xs,bk (fbE (aa e) b) (vd (fbE (aa e) b) x)) /\ sb C g hs K ns dst ⟨⟩ e R acc b sz es (xs.map (dpv (fbE (aa e) b))) (xs.all fun y=>isV (vd (fbE (aa e) b) y))):=_root_.id rfl
@[simp] theorem IX {g xs b k n} : IW C g hs K ns dst u e R acc xs (.ref (.r b) k n)=(k=0 /\ Ag C g hs K ns dst ⟨⟩ e R acc b n xs (aa e b)):=_root_.id rfl
@[simp] theorem Du {g x xs v1} : opW C hs K ns dst (.callS g x xs) v1 e R acc=(IW C g hs K ns dst ⟨⟩ e R acc xs (vd (aa e) x)):=by
 cases dst <;> rfl
def uq (n : Nat) (d : D) : Prop:=match d with
 | .blk _ es=>es.length=n /\ ∀ e ∈ es,∀ c ∈ e,aP c=true
 | _=>False
def nE (f : Nat -> D) (b : Nat) (d : D) : Prop:=match d with
 | .ref (.r c) k n=>k=0 /\ c ≠ b /\ uq n (f c)
 | d=>isV d=true
def vh (d : D) : D:=match d with
 | .blk sz es=>.own sz es
 | _=>.any
def pK (f : Nat -> D) (d : D) : D:=match d with
 | .ref (.r c) _ _=>vh (f c)
 | d=>d
@[simp] theorem Ea {n sz es} : uq n (.blk sz es)=(es.length=n /\ ∀ e ∈ es,∀ c ∈ e,aP c=true):=_root_.id rfl
@[simp] theorem Ix {sz es} : vh (.blk sz es)=.own sz es:=_root_.id rfl
@[simp] theorem Jc {f : Nat -> D} {b : Nat} {x : Opd} : j9 f b x=nE f b (vd f x):=by
 unfold j9 nE uq
 cases vd f x <;> rfl
@[simp] theorem Jd {f : Nat -> D} {x : Opd} : jg f x=pK f (vd f x):=by
 unfold jg pK vh
 cases vd f x <;> rfl
@[simp] theorem AW {f : Nat -> D} {b c k n} : nE f b (.ref (.r c) k n)=(k=0 /\ c ≠ b /\ uq n (f c)):=_root_.id rfl
@[simp] theorem AY {f : Nat -> D} {c k n} : pK f (.ref (.r c) k n)=vh (f c):=_root_.id rfl
@[simp] theorem AV {f : Nat -> D} {b k n} : nE f b (.int k n)=True:=by simp [nE,isV]
@[simp] theorem AX {f : Nat -> D} {k n} : pK f (.int k n)=.int k n:=_root_.id rfl
def uD (C : CC) (g : Nat) (hs : Option (List Nat)) (K : Env -> Prop) (ns : List am) (t : Nat) (_ : Tag (hs,K,ns)) (e : Env) (R : List Nat) (acc : List (List Nat × List Nat)) (sz : Nat) (W : List (List D)) (ds : List D) (q : Nat × D) : Prop :=
 ∃ es' : List (List D),(∀ e ∈ es',e.length=sz /\ ∀ c ∈ e,aP c=true) /\ C g (.own sz W::ds) .any [.own sz es',.nils,.nils] /\ doW C hs K ns ⟨⟩ e R acc [(t,.ref (.r (rt t 0)) 0 es'.length),(rt t 0,.blk sz es'),q] [(rt t 0,true)]
def su (C : CC) (g : Nat) (hs : Option (List Nat)) (K : Env -> Prop) (ns : List am) (t : Nat) (_ : Tag (hs,K,ns)) (e : Env) (R : List Nat) (acc : List (List Nat × List Nat)) (xs : List Opd) (d : D) : Prop:=match d with
 | .ref (.r b) k n=>cz (aa e b) (fun sz es=>k + n <= es.length /\ b ≠ rt t 0 /\ 0 < sz /\ (∀ e ∈ (es.drop k).take n,∀ c ∈ e,aP c=true) /\ (∀ x ∈ xs,j9 (aa e) b x) /\ uD C g hs K ns t ⟨⟩ e R acc sz ((es.drop k).take n) (xs.map (jg (aa e))) (b,.any)) ⟨⟩
 | .ref (.n b i o) k n=>cz (aa e b) (fun sz0 es0=>fe es0[i]? (fun row0=>iw row0[o]? (fun sz es=>k + n <= es.length /\ b ≠ rt t 0 /\ 0 < sz /\ (∀ e ∈ (es.drop k).take n,∀ c ∈ e,aP c=true) /\ (∀ x ∈ xs,j9 (aa e) b x) /\
   uD C g hs K ns t ⟨⟩ e R acc sz ((es.drop k).take n) (xs.map (jg (aa e))) (b,.blk sz0 (aW es0 i o 1 [.any]))) ⟨⟩) ⟨⟩) ⟨⟩
 | _=>False
@[simp] theorem O0 {g xs t b k n} : su C g hs K ns t u e R acc xs (.ref (.r b) k n)=cz (aa e b) (fun sz es=>k + n <= es.length /\ b ≠ rt t 0 /\ 0 < sz /\ (∀ e ∈ (es.drop k).take n,∀ c ∈ e,aP c=true) /\ (∀ x ∈ xs,j9 (aa e) b x) /\ uD C g hs K ns t ⟨⟩ e R acc sz ((es.drop k).take n) (xs.map (jg (aa e))) (b,.any)) ⟨⟩:=_root_.id rfl
@[simp] theorem OZ {g xs t b i o k n} : su C g hs K ns t u e R acc xs (.ref (.n b i o) k n)=cz (aa e b) (fun sz0 es0=>fe es0[i]? (fun row0=>iw row0[o]? (fun sz es=>k + n <= es.length /\ b ≠ rt t 0 /\ 0 < sz /\ (∀ e ∈ (es.drop k).take n,∀ c ∈ e,aP c=true) /\ (∀ x ∈ xs,j9 (aa e) b x) /\
   uD C g hs K ns t ⟨⟩ e R acc sz ((es.drop k).take n) (xs.map (jg (aa e))) (b,.blk sz0 (aW es0 i o 1 [.any]))) ⟨⟩) ⟨⟩) ⟨⟩:=_root_.id rfl
@[simp] theorem Dm {g x xs t v1} : opW C hs K ns (some t) (.callE g x xs) v1 e R acc=su C g hs K ns t ⟨⟩ e R acc xs (vd (aa e) x):=by
 unfold opW
 simp only [aq]
 cases vd (aa e) x <;> try rfl
 rename_i p k n
 cases p with
 | r b =>
  simp only [su,cz,aL,Pa.root,cF]
  cases aa e b <;> rfl
 | n b i o =>
  simp only [su,cz,ek,gU,aL,Pa.root,cF]
  cases hl : aa e b <;> try rfl
  rename_i sz0 es0
  simp only
  cases hi : es0[i]? with
  | none=>simp
  | some row0 =>
   simp only [Option.getD_some,Option.some.injEq,exists_eq_left']
   cases ho : row0[o]? with
   | none=>simp
   | some d =>
    cases d
    case own sz es=>exact propext ⟨fun h=>⟨sz,es,rfl,h⟩,fun ⟨sz',es',h0,h⟩=>by cases h0;exact h⟩
    all_goals simp
@[simp] theorem B2 {f : Nat -> D} {b k n sz es} : bT f (.ref (.r b) k n) (.own sz es)=(k=0 /\ n=es.length /\ f b=.blk sz es):=_root_.id rfl
@[simp] theorem BZ {f : Nat -> D} {b k n sz es} : bT f (.adr (.r b) k n) (.blk sz es)=(k=0 /\ n=0 /\ f b=.blk sz es):=_root_.id rfl
@[simp] theorem B1 {f : Nat -> D} {k n r} : bT f (.int k n) r=(r=.int k n):=by simp [bT]
@[simp] theorem yx {f : Nat -> D} {n r} : bT f (.bool n) r=(r=.bool n):=by simp [bT]
@[simp] theorem B3 {f : Nat -> D} {n r} : bT f (.str n) r=(r=.str n):=by simp [bT]
@[simp] theorem yz {f : Nat -> D} {r} : bT f .nils r=(r=.nils):=by simp [bT]
@[simp] theorem yy {f : Nat -> D} {r} : bT f .nilp r=(r=.nilp):=by simp [bT]
@[simp] theorem Fs {f : Nat -> D} {n r} : bT f (.sl n) r=(r=.sl n):=by simp [bT]
@[simp] theorem BY {f : Nat -> D} {n r} : bT f (.agg n) r=(r=.agg n):=by simp [bT]
@[simp] theorem DO {t d} : bN (some t) d=[(t,d)]:=_root_.id rfl
@[simp] theorem DN {d} : bN none d=[]:=_root_.id rfl
@[simp] theorem Al {t} : cS (some t)=[(t,.tup [])]:=_root_.id rfl
@[simp] theorem Ak : cS none=[]:=_root_.id rfl
def Hy (C : CC) (g : Nat) (hs : Option (List Nat)) (K : Env -> Prop) (ns : List am) (dst : Option Nat) (_ : Tag (hs,K,ns)) (e : Env) (R : List Nat) (acc : List (List Nat × List Nat)) (b sz : Nat) (es : List (List D)) (ds : List D) : Prop :=
 ∃ d,∃ es' : List (List D),0 < es'.length /\ C g (.blk sz es::ds) d [.blk sz es'] /\ doW C hs K ns ⟨⟩ e R acc (bN dst d++[(b,.blk sz es')]) [(b,false)]
def Hx (C : CC) (g : Nat) (hs : Option (List Nat)) (K : Env -> Prop) (ns : List am) (dst : Option Nat) (_ : Tag (hs,K,ns)) (e : Env) (R : List Nat) (acc : List (List Nat × List Nat)) (xs : List Opd) (d : D) : Prop:=match d with
 | .adr (.r b) i off=>i=0 /\ off=0 /\ cz (aa e b) (fun sz es=>0 < es.length /\ (∀ x ∈ xs,isV (vd (aa e) x)=true) /\ Hy C g hs K ns dst ⟨⟩ e R acc b sz es (xs.map (vd (aa e)))) ⟨⟩
 | _=>False
@[simp] theorem PC {g xs b i off} : Hx C g hs K ns dst u e R acc xs (.adr (.r b) i off)=(i=0 /\ off=0 /\ cz (aa e b) (fun sz es=>0 < es.length /\ (∀ x ∈ xs,isV (vd (aa e) x)=true) /\ Hy C g hs K ns dst ⟨⟩ e R acc b sz es (xs.map (vd (aa e)))) ⟨⟩):=_root_.id rfl
@[simp] theorem Dq {g x xs v1} : opW C hs K ns dst (.callL g x xs) v1 e R acc=Hx C g hs K ns dst ⟨⟩ e R acc xs (vd (aa e) x):=by
 unfold opW
 simp only [aq]
 cases vd (aa e) x <;> first | rfl | skip
def qq (C : CC) (hs : Option (List Nat)) (K : Env -> Prop) (ns : List am) (dst : Option Nat) (_ : Tag (hs,K,ns)) (e : Env) (R : List Nat) (acc : List (List Nat × List Nat)) (zs : List D) (d : D) : Prop:=match d with
 | .nils=>doW C hs K ns ⟨⟩ e R acc (cS dst) []
 | .ref (.r b) k n=>cz (aa e b) (fun sz es=>k + n <= es.length /\ zs.length=sz /\ (∀ e ∈ es,∀ c ∈ e,au c=true) /\ (∀ c ∈ zs,au c=true) /\ doW C hs K ns ⟨⟩ e R acc (cS dst++[(b,.blk sz (dl es k n zs))]) []) ⟨⟩
 | .ref (.n b i o) k n=>cz (aa e b) (fun sz0 es0=>fe es0[i]? (fun row0=>iw row0[o]? (fun sz es=>k + n <= es.length /\ zs.length=sz /\ (∀ c ∈ zs,au c=true) /\ doW C hs K ns ⟨⟩ e R acc (cS dst++[(b,.blk sz0 (aW es0 i o 1 [.own sz (dl es k n zs)]))]) []) ⟨⟩) ⟨⟩) ⟨⟩
 | _=>False
@[simp] theorem Oy {zs b k n} : qq C hs K ns dst u e R acc zs (.ref (.r b) k n)=cz (aa e b) (fun sz es=>k + n <= es.length /\ zs.length=sz /\ (∀ e ∈ es,∀ c ∈ e,au c=true) /\ (∀ c ∈ zs,au c=true) /\ doW C hs K ns ⟨⟩ e R acc (cS dst++[(b,.blk sz (dl es k n zs))]) []) ⟨⟩:=_root_.id rfl
@[simp] theorem Ox {zs b i o k n} : qq C hs K ns dst u e R acc zs (.ref (.n b i o) k n)=cz (aa e b) (fun sz0 es0=>fe es0[i]? (fun row0=>iw row0[o]? (fun sz es=>k + n <= es.length /\ zs.length=sz /\ (∀ c ∈ zs,au c=true) /\ doW C hs K ns ⟨⟩ e R acc (cS dst++[(b,.blk sz0 (aW es0 i o 1 [.own sz (dl es k n zs)]))]) []) ⟨⟩) ⟨⟩) ⟨⟩:=_root_.id rfl
@[simp] theorem Bs {zs} : qq C hs K ns dst u e R acc zs .nils=doW C hs K ns ⟨⟩ e R acc (cS dst) []:=_root_.id rfl
@[simp] theorem NJ {zs x v1} : opW C hs K ns dst (.clr zs x) v1 e R acc=qq C hs K ns dst ⟨⟩ e R acc zs (vd (aa e) x):=by
 unfold opW
 simp only [aq]
 cases vd (aa e) x <;> try rfl
 rename_i p k n
 cases p with
 | r b =>
  simp only [qq,cz]
  cases aa e b <;> rfl
 | n b i o =>
  simp only [qq,cz,ek,gU]
  cases aa e b <;> rfl
def wm (C : CC) (g : Nat) (hs : Option (List Nat)) (K : Env -> Prop) (ns : List am) (dst : Option Nat) (_ : Tag (hs,K,ns)) (e : Env) (R : List Nat) (acc : List (List Nat × List Nat)) (b i o sz0 sz : Nat) (es0 es : List (List D)) (ds : List D) : Prop :=
 ∃ es' : List (List D),es'.length=es.length /\ (∀ e ∈ es',e.length=sz /\ ∀ c ∈ e,au c=true) /\ C g (.own sz es::ds) .any [.own sz es',.nilp] /\ doW C hs K ns ⟨⟩ e R acc (cS dst++[(b,.blk sz0 (aW es0 i o 1 [.own sz es']))]) []
def yc (C : CC) (g : Nat) (hs : Option (List Nat)) (K : Env -> Prop) (ns : List am) (dst : Option Nat) (_ : Tag (hs,K,ns)) (e : Env) (R : List Nat) (acc : List (List Nat × List Nat)) (xs : List Opd) (d : D) : Prop:=match d with
 | .ref (.n b i o) k n=>k=0 /\ cz (aa e b) (fun sz0 es0=>fe es0[i]? (fun row0=>iw row0[o]? (fun sz es=>es.length=n /\ (∀ x ∈ xs,isV (vd (aa e) x)=true) /\ wm C g hs K ns dst ⟨⟩ e R acc b i o sz0 sz es0 es (xs.map (vd (aa e)))) ⟨⟩) ⟨⟩) ⟨⟩
 | _=>False
@[simp] theorem Ov {g xs b i o k n} : yc C g hs K ns dst u e R acc xs (.ref (.n b i o) k n)=(k=0 /\ cz (aa e b) (fun sz0 es0=>fe es0[i]? (fun row0=>iw row0[o]? (fun sz es=>es.length=n /\ (∀ x ∈ xs,isV (vd (aa e) x)=true) /\ wm C g hs K ns dst ⟨⟩ e R acc b i o sz0 sz es0 es (xs.map (vd (aa e)))) ⟨⟩) ⟨⟩) ⟨⟩):=_root_.id rfl
@[simp] theorem Ds {g x xs v1} : opW C hs K ns dst (.callN g x xs) v1 e R acc=yc C g hs K ns dst ⟨⟩ e R acc xs (vd (aa e) x):=by
 unfold opW
 simp only [aq]
 cases vd (aa e) x <;> try rfl
 rename_i p k n
 cases p with
 | r b=>rfl
 | n b i o =>
  simp only [yc,cz,ek,gU]
  cases aa e b <;> rfl
@[simp] theorem Do {g xs v1} : opW C hs K ns dst (.callG g xs) v1 e R acc=((∀ x ∈ xs,bk (aa e) (vd (aa e) x)) /\ xW C g hs K ns dst ⟨⟩ e R acc (xs.map (dpv (aa e)))):=_root_.id rfl
@[simp] theorem Dl {g xs t v1} : opW C hs K ns (some t) (.callA g xs) v1 e R acc=((∀ x ∈ xs,isV (vd (aa e) x)=true) /\ xV C g hs K ns t ⟨⟩ e R acc (xs.map (vd (aa e)))):=_root_.id rfl
@[simp] theorem Dn {g xs t v1} : opW C hs K ns (some t) (.callF g xs) v1 e R acc=((∀ x ∈ xs,bk (aa e) (vd (aa e) x)) /\ sa C g hs K ns t ⟨⟩ e R acc (xs.map (dpv (aa e)))):=_root_.id rfl
@[simp] theorem Im {g xs x0 v1} : opW C hs K ns dst (.call g xs x0) v1 e R acc=((∀ x ∈ xs,bk (aa e) (vd (aa e) x)) /\ nH C g hs K ns dst ⟨⟩ e R acc (xs.all fun x=>isV (vd (aa e) x)) (xs.map (dpv (aa e)))):=_root_.id rfl
def jh (C : CC) (hs : Option (List Nat)) (K : Env -> Prop) (ns : List am) (t : Nat) (_ : Tag (hs,K,ns)) (e : Env) (R : List Nat) (acc : List (List Nat × List Nat)) (d : D) : Prop:=match d with
 | .ref (.r c) k n=>if c=rt t 0 then doW C hs K ns ⟨⟩ e R acc [(t,.ref (.r c) k n)] [] else match aa e c with
  | .blk sz es=>doW C hs K ns ⟨⟩ e R acc [(t,.ref (.r (rt t 0)) k n),(rt t 0,.blk sz es),(c,.any)] [(rt t 0,true)]
  | _=>False
 | d=>isS d=true /\ doW C hs K ns ⟨⟩ e R acc [(t,d)] []
@[simp] theorem ND {t x v1} : opW C hs K ns (some t) (.asg x) v1 e R acc=jh C hs K ns t ⟨⟩ e R acc (vd (aa e) x):=_root_.id rfl
@[simp] theorem Ec {t c k n} : jh C hs K ns t u e R acc (.ref (.r c) k n)=(if c=rt t 0 then doW C hs K ns ⟨⟩ e R acc [(t,.ref (.r c) k n)] [] else match aa e c with
  | .blk sz es=>doW C hs K ns ⟨⟩ e R acc [(t,.ref (.r (rt t 0)) k n),(rt t 0,.blk sz es),(c,.any)] [(rt t 0,true)]
  | _=>False):=_root_.id rfl
@[simp] theorem A0 {t b i o k n} : jh C hs K ns t u e R acc (.ref (.n b i o) k n)=doW C hs K ns ⟨⟩ e R acc [(t,.ref (.n b i o) k n)] []:=by simp [jh]
@[simp] theorem AZ {t} : jh C hs K ns t u e R acc .nils=doW C hs K ns ⟨⟩ e R acc [(t,.nils)] []:=by simp [jh]
@[simp] theorem Je {t es} : jh C hs K ns t u e R acc (.sl es)=doW C hs K ns ⟨⟩ e R acc [(t,.sl es)] []:=by simp [jh]
@[simp] theorem Ed {t b es} : jh C hs K ns t u e R acc (slx b es)=doW C hs K ns ⟨⟩ e R acc [(t,slx b es)] []:=by
 rcases ew b es with h | ⟨h,_⟩ <;> rw [h] <;> simp
@[simp] theorem Eb {t} : jh C hs K ns t u e R acc .any=doW C hs K ns ⟨⟩ e R acc [(t,.any)] []:=by simp [jh]
@[simp] theorem Ee {t ds} : jh C hs K ns t u e R acc (.tup ds)=doW C hs K ns ⟨⟩ e R acc [(t,.tup ds)] []:=by simp [jh]
def o4 (C : CC) (hs : Option (List Nat)) (K : Env -> Prop) (ns : List am) (t : Nat) (_ : Tag (hs,K,ns)) (e : Env) (R : List Nat) (acc : List (List Nat × List Nat)) (d : D) : Prop:=match d with
 | .ref (.r c) k n=>aH (aa e) (.ref (.r c) k n) /\ doW C hs K ns ⟨⟩ e R acc [(t,dp1 (aa e) (.ref (.r c) k n)),(c,.any)] []
 | d=>isS d=true /\ doW C hs K ns ⟨⟩ e R acc [(t,d)] []
@[simp] theorem NP {t x v1} : opW C hs K ns (some t) (.frz x) v1 e R acc=o4 C hs K ns t ⟨⟩ e R acc (vd (aa e) x):=_root_.id rfl
@[simp] theorem Fh {t c k n} : o4 C hs K ns t u e R acc (.ref (.r c) k n)=(aH (aa e) (.ref (.r c) k n) /\ doW C hs K ns ⟨⟩ e R acc [(t,dp1 (aa e) (.ref (.r c) k n)),(c,.any)] []):=_root_.id rfl
@[simp] theorem BV {t} : o4 C hs K ns t u e R acc .nils=doW C hs K ns ⟨⟩ e R acc [(t,.nils)] []:=by simp [o4]
@[simp] theorem JZ {t es} : o4 C hs K ns t u e R acc (.sl es)=doW C hs K ns ⟨⟩ e R acc [(t,.sl es)] []:=by simp [o4]
@[simp] theorem Fi {t b es} : o4 C hs K ns t u e R acc (slx b es)=doW C hs K ns ⟨⟩ e R acc [(t,slx b es)] []:=by
 rcases ew b es with h | ⟨h,_⟩ <;> rw [h] <;> simp
def u7 (C : CC) (hs : Option (List Nat)) (K : Env -> Prop) (ns : List am) (dst : Option Nat) (_ : Tag (hs,K,ns)) (e : Env) (R : List Nat) (acc : List (List Nat × List Nat)) (c i off : Nat) (d : D) : Prop:=match d with
 | .blk _ es=>∃ r,es[i]? = some r /\ ∃ d,r[off]? = some d /\ cA dst (kOf C hs K ns e R acc) (ldc (.r c) i off d)
 | _=>False
@[simp] theorem Hq {c i off sz es} : u7 C hs K ns dst u e R acc c i off (.blk sz es)=fe es[i]? (fun r=>ur r[off]? (fun d=>dW C hs K ns dst ⟨⟩ e R acc (ldc (.r c) i off d)) ⟨⟩) ⟨⟩:=by
 simp only [u7,ek,ut];rfl
def Hr (C : CC) (hs : Option (List Nat)) (K : Env -> Prop) (ns : List am) (dst : Option Nat) (_ : Tag (hs,K,ns)) (e : Env) (R : List Nat) (acc : List (List Nat × List Nat)) (q : Nat) (d : D) : Prop:=match d with
 | .adr (.r c) i off=>off=q /\ u7 C hs K ns dst ⟨⟩ e R acc c i off (aa e c)
 | _=>False
@[simp] theorem Hs {q c i off} : Hr C hs K ns dst u e R acc q (.adr (.r c) i off)=(off=q /\ u7 C hs K ns dst ⟨⟩ e R acc c i off (aa e c)):=_root_.id rfl
@[simp] theorem NS {q x v1} : opW C hs K ns dst (.ldQ q x) v1 e R acc=Hr C hs K ns dst ⟨⟩ e R acc q (vd (aa e) x):=_root_.id rfl
def uo (C : CC) (hs : Option (List Nat)) (K : Env -> Prop) (ns : List am) (t : Nat) (_ : Tag (hs,K,ns)) (e : Env) (R : List Nat) (acc : List (List Nat × List Nat)) (sz by_ : Nat) (rowsY : List (List D)) (c i o k n : Nat) (d : D) : Prop:=match d with
 | .blk sz0 es0=>∃ row0,es0[i]? = some row0 /\ ∃ es,row0[o]? = some (.own sz es) /\ k + n <= es.length /\ (n + rowsY.length) * by_ <= 140737488355328 /\
   kOf C hs K ns e R acc [(t,.ref (.r (rt t 0)) 0 (n + rowsY.length)),(rt t 0,.blk sz ((es.drop k).take n++rowsY)),(c,.blk sz0 (aW es0 i o 1 [.any]))] [(rt t 0,true)]
 | _=>False
@[simp] theorem D7 {t sz by_ rowsY c i o k n sz0 es0} : uo C hs K ns t u e R acc sz by_ rowsY c i o k n (.blk sz0 es0)=fe es0[i]? (fun row0=>iw row0[o]? (fun sz' es=>sz'=sz /\ k + n <= es.length /\ (n + rowsY.length) * by_ <= 140737488355328 /\
   doW C hs K ns ⟨⟩ e R acc [(t,.ref (.r (rt t 0)) 0 (n + rowsY.length)),(rt t 0,.blk sz ((es.drop k).take n++rowsY)),(c,.blk sz0 (aW es0 i o 1 [.any]))] [(rt t 0,true)]) ⟨⟩) ⟨⟩:=by
 simp only [uo,ek,gU]
 refine propext ⟨?_,?_⟩
 ·rintro ⟨row0,h1,es,h2,h3,h4,h5⟩
  exact ⟨row0,h1,sz,es,h2,rfl,h3,h4,h5⟩
 ·rintro ⟨row0,h1,sz',es,h2,rfl,h3,h4,h5⟩
  exact ⟨row0,h1,es,h2,h3,h4,h5⟩
def D8 (C : CC) (hs : Option (List Nat)) (K : Env -> Prop) (ns : List am) (t : Nat) (_ : Tag (hs,K,ns)) (e : Env) (R : List Nat) (acc : List (List Nat × List Nat)) (q sz by_ : Nat) (yd : D) (d : D) : Prop:=match d with
 | .ref (.n c i o') k n=>o'=q /\ ef (aa e) false yd sz fun rowsY bs=>bs=[] /\ c ≠ rt t 0 /\ uo C hs K ns t ⟨⟩ e R acc sz by_ rowsY c i o' k n (aa e c)
 | _=>False
@[simp] theorem D9 {t q sz by_ yd c i o k n} : D8 C hs K ns t u e R acc q sz by_ yd (.ref (.n c i o) k n)=(o=q /\ gD (aa e) false yd sz (fun rowsY bs=>bs=[] /\ c ≠ rt t 0 /\ uo C hs K ns t ⟨⟩ e R acc sz by_ rowsY c i o k n (aa e c)) ⟨⟩):=_root_.id rfl
@[simp] theorem Ii {t q sz by_ x y v1} : opW C hs K ns (some t) (.appQ q sz by_ x y) v1 e R acc=D8 C hs K ns t ⟨⟩ e R acc q sz by_ (vd (aa e) y) (vd (aa e) x):=_root_.id rfl
def yf (C : CC) (hs : Option (List Nat)) (K : Env -> Prop) (ns : List am) (t : Nat) (_ : Tag (hs,K,ns)) (e : Env) (R : List Nat) (acc : List (List Nat × List Nat)) (sz : Nat) (rows : List (List D)) (b k n : Nat) (d : D) : Prop:=match d with
 | .blk sz' es=>sz'=sz /\ k + n <= es.length /\ (∀ e ∈ es,∀ c ∈ e,au c=true) /\ (∀ e ∈ rows,∀ c ∈ e,au c=true) /\ kOf C hs K ns e R acc [(t,.int .i64 (min rows.length n : Nat)),(b,.blk sz (gf es k (rows.take n)))] []
 | _=>False
@[simp] theorem EA {t sz rows b k n sz' es} : yf C hs K ns t u e R acc sz rows b k n (.blk sz' es)=(sz'=sz /\ k + n <= es.length /\ (∀ e ∈ es,∀ c ∈ e,au c=true) /\ (∀ e ∈ rows,∀ c ∈ e,au c=true) /\ doW C hs K ns ⟨⟩ e R acc [(t,.int .i64 (min rows.length n : Nat)),(b,.blk sz (gf es k (rows.take n)))] []):=_root_.id rfl
def EB (C : CC) (hs : Option (List Nat)) (K : Env -> Prop) (ns : List am) (t : Nat) (_ : Tag (hs,K,ns)) (e : Env) (R : List Nat) (acc : List (List Nat × List Nat)) (sz : Nat) (rows : List (List D)) (d : D) : Prop:=match d with
 | .ref (.r b) k n=>(n=0 -> kOf C hs K ns e R acc [(t,.int .i64 0)] []) /\ (0 < n -> yf C hs K ns t ⟨⟩ e R acc sz rows b k n (aa e b))
 | _=>False
@[simp] theorem EC {t sz rows b k n} : EB C hs K ns t u e R acc sz rows (.ref (.r b) k n)=((n=0 -> doW C hs K ns ⟨⟩ e R acc [(t,.int .i64 0)] []) /\ (0 < n -> yf C hs K ns t ⟨⟩ e R acc sz rows b k n (aa e b))):=_root_.id rfl
@[simp] theorem NK {t sz x y v1} : opW C hs K ns (some t) (.cpy sz x y) v1 e R acc=gD (aa e) false (vd (aa e) y) sz (fun rows bs=>bs=[] /\ 0 < rows.length /\ EB C hs K ns t ⟨⟩ e R acc sz rows (vd (aa e) x)) ⟨⟩:=_root_.id rfl
def yP (C : CC) (hs : Option (List Nat)) (K : Env -> Prop) (ns : List am) (t : Nat) (_ : Tag (hs,K,ns)) (e : Env) (R : List Nat) (acc : List (List Nat × List Nat)) (n c : Nat) (d : D) : Prop:=match d with
 | .blk _ [row]=>row.length=n /\ okR (.agg row)=true /\ (aK t (.agg row)).all (fun p=>p.1 != c)=true /\ doW C hs K ns ⟨⟩ e R acc ((t,dz t (.agg row))::(c,.any)::aK t (.agg row)) (df t (.agg row))
 | _=>False
@[simp] theorem Hn {t n c sz row} : yP C hs K ns t u e R acc n c (.blk sz [row])=(row.length=n /\ okR (.agg row)=true /\ (aK t (.agg row)).all (fun p=>p.1 != c)=true /\ doW C hs K ns ⟨⟩ e R acc ((t,dz t (.agg row))::(c,.any)::aK t (.agg row)) (df t (.agg row))):=_root_.id rfl
def Ho (C : CC) (hs : Option (List Nat)) (K : Env -> Prop) (ns : List am) (t : Nat) (_ : Tag (hs,K,ns)) (e : Env) (R : List Nat) (acc : List (List Nat × List Nat)) (n : Nat) (d : D) : Prop:=match d with
 | .adr (.r c) i off=>i=0 /\ off=0 /\ yP C hs K ns t ⟨⟩ e R acc n c (aa e c)
 | _=>False
@[simp] theorem Hp {t n c i off} : Ho C hs K ns t u e R acc n (.adr (.r c) i off)=(i=0 /\ off=0 /\ yP C hs K ns t ⟨⟩ e R acc n c (aa e c)):=_root_.id rfl
@[simp] theorem NR {t n x v1} : opW C hs K ns (some t) (.ldM n x) v1 e R acc=Ho C hs K ns t ⟨⟩ e R acc n (vd (aa e) x):=_root_.id rfl
def u6 (C : CC) (hs : Option (List Nat)) (K : Env -> Prop) (ns : List am) (t : Nat) (_ : Tag (hs,K,ns)) (e : Env) (R : List Nat) (acc : List (List Nat × List Nat)) (n c i off : Nat) (d : D) : Prop:=match d with
 | .blk _ es=>∃ r,es[i]? = some r /\ off + n <= r.length /\ doW C hs K ns ⟨⟩ e R acc [(t,.agg (((r.drop off).take n).map aU)),(c,.any)] []
 | _=>False
@[simp] theorem Hk {t n c i off sz es} : u6 C hs K ns t u e R acc n c i off (.blk sz es)=fe es[i]? (fun r=>off + n <= r.length /\ doW C hs K ns ⟨⟩ e R acc [(t,.agg (((r.drop off).take n).map aU)),(c,.any)] []) ⟨⟩:=by
 simp only [u6,ek]
def Hl (C : CC) (hs : Option (List Nat)) (K : Env -> Prop) (ns : List am) (t : Nat) (_ : Tag (hs,K,ns)) (e : Env) (R : List Nat) (acc : List (List Nat × List Nat)) (n : Nat) (d : D) : Prop:=match d with
 | .adr (.r c) i off=>u6 C hs K ns t ⟨⟩ e R acc n c i off (aa e c)
 | _=>False
@[simp] theorem Hm {t n c i off} : Hl C hs K ns t u e R acc n (.adr (.r c) i off)=u6 C hs K ns t ⟨⟩ e R acc n c i off (aa e c):=_root_.id rfl
@[simp] theorem NQ {t n x v1} : opW C hs K ns (some t) (.ldF n x) v1 e R acc=Hl C hs K ns t ⟨⟩ e R acc n (vd (aa e) x):=_root_.id rfl
def z6 (C : CC) (hs : Option (List Nat)) (K : Env -> Prop) (ns : List am) (t : Nat) (_ : Tag (hs,K,ns)) (e : Env) (R : List Nat) (acc : List (List Nat × List Nat)) (len sz c : Nat) (d : D) : Prop:=match d with
 | .blk _ [row]=>0 < len /\ 0 < sz /\ row.length=len * sz /\ (∀ d ∈ row,au d=true) /\ doW C hs K ns ⟨⟩ e R acc [(t,.ref (.r (rt t 0)) 0 len),(rt t 0,.blk sz (bK sz len row)),(c,.any)] [(rt t 0,true)]
 | _=>False
@[simp] theorem zio {t len sz c sz0 row} : z6 C hs K ns t u e R acc len sz c (.blk sz0 [row])=(0 < len /\ 0 < sz /\ row.length=len * sz /\ (∀ d ∈ row,au d=true) /\ doW C hs K ns ⟨⟩ e R acc [(t,.ref (.r (rt t 0)) 0 len),(rt t 0,.blk sz (bK sz len row)),(c,.any)] [(rt t 0,true)]):=_root_.id rfl
def IP (C : CC) (hs : Option (List Nat)) (K : Env -> Prop) (ns : List am) (t : Nat) (_ : Tag (hs,K,ns)) (e : Env) (R : List Nat) (acc : List (List Nat × List Nat)) (len sz : Nat) (d : D) : Prop:=match d with
 | .adr (.r c) i off=>i=0 /\ off=0 /\ c ≠ rt t 0 /\ z6 C hs K ns t ⟨⟩ e R acc len sz c (aa e c)
 | _=>False
@[simp] theorem IQ {t len sz c i off} : IP C hs K ns t u e R acc len sz (.adr (.r c) i off)=(i=0 /\ off=0 /\ c ≠ rt t 0 /\ z6 C hs K ns t ⟨⟩ e R acc len sz c (aa e c)):=_root_.id rfl
@[simp] theorem N2 {len sz x t v1} : opW C hs K ns (some t) (.slM len sz x) v1 e R acc=IP C hs K ns t ⟨⟩ e R acc len sz (vd (aa e) x):=_root_.id rfl
def fY (C : CC) (hs : Option (List Nat)) (K : Env -> Prop) (ns : List am) (dst : Option Nat) (_ : Tag (hs,K,ns)) (e : Env) (R : List Nat) (acc : List (List Nat × List Nat)) (d : D) : Prop:=match d with
 | .agx ds=>dW C hs K ns dst ⟨⟩ e R acc (.ptx ds)
 | .agg ds=>dW C hs K ns dst ⟨⟩ e R acc (.ptr ds)
 | d=>au d=true /\ dW C hs K ns dst ⟨⟩ e R acc (.ptr [d])
@[simp] theorem x8 {ds : List D} : cW (.agg ds)=ds:=_root_.id rfl
@[simp] theorem x9 {k n} : cW (.int k n)=[.int k n]:=_root_.id rfl
@[simp] theorem ya {n} : cW (.str n)=[.str n]:=_root_.id rfl
@[simp] theorem wK {n} : cW (.bool n)=[.bool n]:=_root_.id rfl
@[simp] theorem Br {n} : cW (.sl n)=[.sl n]:=_root_.id rfl
@[simp] theorem BU {f : Nat -> D} {es} : fm f [] es=es:=_root_.id rfl
@[simp] theorem yq {f : Nat -> D} {p ps es} : fm f (p::ps) es=fm f ps (es.set p.1 (cW (vd f p.2))):=_root_.id rfl
@[simp] theorem Ij {sz len zs parts v1} : opW C hs K ns dst (.blsF sz len zs parts) v1 e R acc=((∀ p ∈ parts,p.1 < len /\ (cW (vd (aa e) p.2)).length=sz /\ ∀ c ∈ cW (vd (aa e) p.2),au c=true) /\ 0 < len /\
   (∀ r ∈ fm (aa e) parts (List.replicate len zs),∀ c ∈ r,au c=true) /\ dW C hs K ns dst ⟨⟩ e R acc (.sl (fm (aa e) parts (List.replicate len zs)))):=_root_.id rfl
@[simp] theorem Ik {sz len zs parts v1} : opW C hs K ns dst (.blsX sz len zs parts) v1 e R acc=(zs.all au=true /\ (∀ p ∈ parts,p.1 < len /\ match (generalizing:=false) vd (aa e) p.2 with
    | .agg ds=>ds.length=sz
    | .agx ds=>ds.length=sz
    | _=>False) /\ dW C hs K ns dst ⟨⟩ e R acc (.rfx len sz (ik (aa e) sz len zs parts))):=_root_.id rfl
attribute [simp] ik
@[simp] theorem Il {x v1} : opW C hs K ns dst (.boxF x) v1 e R acc=fY C hs K ns dst ⟨⟩ e R acc (vd (aa e) x):=_root_.id rfl
@[simp] theorem Ek {ds} : fY C hs K ns dst u e R acc (.agx ds)=dW C hs K ns dst ⟨⟩ e R acc (.ptx ds):=_root_.id rfl
@[simp] theorem Ej {ds} : fY C hs K ns dst u e R acc (.agg ds)=dW C hs K ns dst ⟨⟩ e R acc (.ptr ds):=_root_.id rfl
@[simp] theorem El {k n} : fY C hs K ns dst u e R acc (.int k n)=dW C hs K ns dst ⟨⟩ e R acc (.ptr [.int k n]):=by simp [fY]
@[simp] theorem A1 {n} : fY C hs K ns dst u e R acc (.bool n)=dW C hs K ns dst ⟨⟩ e R acc (.ptr [.bool n]):=by simp [fY]
@[simp] theorem Eo {n} : fY C hs K ns dst u e R acc (.str n)=dW C hs K ns dst ⟨⟩ e R acc (.ptr [.str n]):=by simp [fY]
@[simp] theorem A3 : fY C hs K ns dst u e R acc .nils=dW C hs K ns dst ⟨⟩ e R acc (.ptr [.nils]):=by simp [fY]
@[simp] theorem Jj {es} : fY C hs K ns dst u e R acc (.sl es)=dW C hs K ns dst ⟨⟩ e R acc (.ptr [.sl es]):=by simp [fY]
@[simp] theorem En {b es} : fY C hs K ns dst u e R acc (slx b es)=dW C hs K ns dst ⟨⟩ e R acc (.ptr [slx b es]):=by
 rcases ew b es with h | ⟨h,_⟩ <;> rw [h] <;> simp
@[simp] theorem Em {es} : fY C hs K ns dst u e R acc (.ptr es)=dW C hs K ns dst ⟨⟩ e R acc (.ptr [.ptr es]):=by simp [fY]
@[simp] theorem Ji {g es} : fY C hs K ns dst u e R acc (.fn g es)=dW C hs K ns dst ⟨⟩ e R acc (.ptr [.fn g es]):=by simp [fY]
@[simp] theorem NT {x v1} : opW C hs K ns dst (.len x) v1 e R acc=ph (vd (aa e) x) (fun n=>dW C hs K ns dst ⟨⟩ e R acc (.int .i64 n)) ⟨⟩:=by
 show res (aa e) _ (.len x)=_
 simp only [res,ph]
 cases vd (aa e) x <;> rfl
def pc (C : CC) (hs : Option (List Nat)) (K : Env -> Prop) (ns : List am) (dst : Option Nat) (_ : Tag (hs,K,ns)) (e : Env) (R : List Nat) (acc : List (List Nat × List Nat)) (sz : Nat) (x i : D) : Prop:=match (generalizing:=false) x,i with
  | .sl es,.int _ j=>0 <= j /\ fZ C hs K ns dst ⟨⟩ e R acc sz es j.toNat
  | .slv _ es,.int _ j=>0 <= j /\ fZ C hs K ns dst ⟨⟩ e R acc sz es j.toNat
  | .rfx n sz' ds,.int _ j=>0 <= j /\ j.toNat < n /\ sz'=sz /\ dW C hs K ns dst ⟨⟩ e R acc (.ptx (ds.drop (j.toNat * sz)))
  | .ref p k n,.int _ j=>0 <= j /\ j.toNat < n /\ match (generalizing:=false) aL (aa e) p with
   | some (sz',_)=>sz'=sz /\ dW C hs K ns dst ⟨⟩ e R acc (.adr p (k + j.toNat) 0)
   | none=>False
  | _,_=>False
@[simp] theorem Ip {sz x i v1} : opW C hs K ns dst (.iadS sz x i) v1 e R acc=pc C hs K ns dst ⟨⟩ e R acc sz (vd (aa e) x) (vd (aa e) i):=_root_.id rfl
@[simp] theorem Fu {sz sz' n ds k j} : pc C hs K ns dst u e R acc sz (.rfx n sz' ds) (.int k j)=(0 <= j /\ j.toNat < n /\ sz'=sz /\ dW C hs K ns dst ⟨⟩ e R acc (.ptx (ds.drop (j.toNat * sz)))):=_root_.id rfl
@[simp] theorem J0 {sz es k j} : pc C hs K ns dst u e R acc sz (.sl es) (.int k j)=(0 <= j /\ fZ C hs K ns dst ⟨⟩ e R acc sz es j.toNat):=_root_.id rfl
@[simp] theorem Fv {sz q es k j} : pc C hs K ns dst u e R acc sz (.slv q es) (.int k j)=(0 <= j /\ fZ C hs K ns dst ⟨⟩ e R acc sz es j.toNat):=_root_.id rfl
@[simp] theorem Fw {sz b es k j} : pc C hs K ns dst u e R acc sz (slx b es) (.int k j)=(0 <= j /\ fZ C hs K ns dst ⟨⟩ e R acc sz es j.toNat):=by
 rcases ew b es with h | ⟨h,rfl⟩
 ·rw [h];rfl
 ·rw [h];simp [pc,fZ]
@[simp] theorem Ft {sz p k n k' j} : pc C hs K ns dst u e R acc sz (.ref p k n) (.int k' j)=(0 <= j /\ j.toNat < n /\ match (generalizing:=false) aL (aa e) p with
   | some (sz',_)=>sz'=sz /\ dW C hs K ns dst ⟨⟩ e R acc (.adr p (k + j.toNat) 0)
   | none=>False):=_root_.id rfl
def vB (C : CC) (hs : Option (List Nat)) (K : Env -> Prop) (ns : List am) (dst : Option Nat) (_ : Tag (hs,K,ns)) (e : Env) (R : List Nat) (acc : List (List Nat × List Nat)) (sz : Nat) (x : D) (lo hi : Option Opd) : Prop:=match (generalizing:=false) x with
  | .sl es=>(∀ e ∈ es,e.length=sz) /\ cT (aa e) hi es.length (fun h=>cT (aa e) lo 0 (fun l=>l <= h /\ h <= es.length /\ dW C hs K ns dst ⟨⟩ e R acc (.sl ((es.take h).drop l))) ⟨⟩) ⟨⟩
  | .nils=>cT (aa e) hi 0 (fun h=>cT (aa e) lo 0 (fun l=>l <= h /\ h <= 0 /\ dW C hs K ns dst ⟨⟩ e R acc (.sl [])) ⟨⟩) ⟨⟩
  | .ref p k n=>match (generalizing:=false) aL (aa e) p with
   | some (sz',_)=>sz'=sz /\ cT (aa e) hi n (fun h=>cT (aa e) lo 0 (fun l=>l <= h /\ h <= n /\ dW C hs K ns dst ⟨⟩ e R acc (.ref p (k + l) (h - l))) ⟨⟩) ⟨⟩
   | none=>False
  | _=>False
@[simp] theorem N4 {sz x lo hi v1} : opW C hs K ns dst (.slc sz x lo hi) v1 e R acc=vB C hs K ns dst ⟨⟩ e R acc sz (vd (aa e) x) lo hi:=_root_.id rfl
@[simp] theorem N8 {sz es lo hi} : vB C hs K ns dst u e R acc sz (.sl es) lo hi=((∀ e ∈ es,e.length=sz) /\ cT (aa e) hi es.length (fun h=>cT (aa e) lo 0 (fun l=>l <= h /\ h <= es.length /\ dW C hs K ns dst ⟨⟩ e R acc (.sl ((es.take h).drop l))) ⟨⟩) ⟨⟩):=_root_.id rfl
@[simp] theorem DM {sz lo hi} : vB C hs K ns dst u e R acc sz .nils lo hi=cT (aa e) hi 0 (fun h=>cT (aa e) lo 0 (fun l=>l <= h /\ h <= 0 /\ dW C hs K ns dst ⟨⟩ e R acc (.sl [])) ⟨⟩) ⟨⟩:=_root_.id rfl
@[simp] theorem IM {sz p k n lo hi} : vB C hs K ns dst u e R acc sz (.ref p k n) lo hi=(match (generalizing:=false) aL (aa e) p with
   | some (sz',_)=>sz'=sz /\ cT (aa e) hi n (fun h=>cT (aa e) lo 0 (fun l=>l <= h /\ h <= n /\ dW C hs K ns dst ⟨⟩ e R acc (.ref p (k + l) (h - l))) ⟨⟩) ⟨⟩
   | none=>False):=_root_.id rfl
@[simp] theorem Dw {x xs v1} : opW C hs K ns dst (.callv x xs) v1 e R acc=(match (generalizing:=false) vd (aa e) x with
  | .fn g cs=>(∀ x ∈ xs,bk (aa e) (vd (aa e) x)) /\ nH C g hs K ns dst ⟨⟩ e R acc (xs.all fun x=>isV (vd (aa e) x)) (xs.map (dpv (aa e))++cs)
  | .fnx g cs=>(∀ x ∈ xs,bk (aa e) (vd (aa e) x)) /\ (∀ c ∈ cs,aH (aa e) c) /\ nH C g hs K ns dst ⟨⟩ e R acc false (xs.map (dpv (aa e))++cs.map (dp1 (aa e)))
  | _=>False):=by
 simp only [opW,aq,nH,cA,Bool.false_eq_true,or_false]
 cases vd (aa e) x <;> rfl
def mpT (x : D) (K : Nat -> Nat -> List D -> List D -> Prop) (_ : Tag K) : Prop:=match x with
 | .mp kt et ks vs=>K kt et ks vs
 | _=>False
@[simp] theorem PD {kt et ks vs K u} : mpT (.mp kt et ks vs) K u=K kt et ks vs:=_root_.id rfl
@[simp] theorem NV {kt et t v1} : opW C hs K ns (some t) (.mkm kt et) v1 e R acc=doW C hs K ns ⟨⟩ e R acc [(t,.mrf (rt t 0)),(rt t 0,.mp kt et [] [])] [(rt t 0,true)]:=_root_.id rfl
def mlM (C : CC) (hs : Option (List Nat)) (K : Env -> Prop) (ns : List am) (dst : Option Nat) (_ : Tag (hs,K,ns)) (e : Env) (R : List Nat) (acc : List (List Nat × List Nat)) (sh : KSh) (kt et : Nat) (ok : Bool) (z x m : D) : Prop:=match m with
 | .mrf b=>mpT (aa e b) (fun kt' et' ks vs=>kt'=kt /\ et'=et /\ cH sh x /\ match ok with
    | true=>dW C hs K ns dst ⟨⟩ e R acc (.tup [(cJ ks vs x).getD z,.bool (cJ ks vs x).isSome])
    | false=>dW C hs K ns dst ⟨⟩ e R acc ((cJ ks vs x).getD z)) ⟨⟩
 | _=>False
@[simp] theorem Np {sh kt et ok z x b} : mlM C hs K ns dst u e R acc sh kt et ok z x (.mrf b)=mpT (aa e b) (fun kt' et' ks vs=>kt'=kt /\ et'=et /\ cH sh x /\ match ok with
    | true=>dW C hs K ns dst ⟨⟩ e R acc (.tup [(cJ ks vs x).getD z,.bool (cJ ks vs x).isSome])
    | false=>dW C hs K ns dst ⟨⟩ e R acc ((cJ ks vs x).getD z)) ⟨⟩:=_root_.id rfl
@[simp] theorem NY {sh kt et ok z m x v1} : opW C hs K ns dst (.mpl sh kt et ok z m x) v1 e R acc=mlM C hs K ns dst ⟨⟩ e R acc sh kt et ok z (vd (aa e) x) (vd (aa e) m):=by
 show res (aa e) _ (.mpl sh kt et ok z m x)=_
 simp only [res,mlM]
 cases vd (aa e) m <;> rfl
def muM (C : CC) (hs : Option (List Nat)) (K : Env -> Prop) (ns : List am) (_ : Tag (hs,K,ns)) (e : Env) (R : List Nat) (acc : List (List Nat × List Nat)) (sh : KSh) (kt et : Nat) (z x v m : D) : Prop:=match m with
 | .mrf b=>mpT (aa e b) (fun kt' et' ks vs=>kt'=kt /\ et'=et /\ ks.length < maxLen /\ cH sh x /\ gi z v /\ doW C hs K ns ⟨⟩ e R acc [(b,.mp kt et (x::ks) (v::vs))] []) ⟨⟩
 | _=>False
@[simp] theorem Nq {sh kt et z x v b} : muM C hs K ns u e R acc sh kt et z x v (.mrf b)=mpT (aa e b) (fun kt' et' ks vs=>kt'=kt /\ et'=et /\ ks.length < maxLen /\ cH sh x /\ gi z v /\ doW C hs K ns ⟨⟩ e R acc [(b,.mp kt et (x::ks) (v::vs))] []) ⟨⟩:=_root_.id rfl
@[simp] theorem NZ {sh kt et z m x v v1} : opW C hs K ns dst (.mpu sh kt et z m x v) v1 e R acc=(dst=none /\ muM C hs K ns ⟨⟩ e R acc sh kt et z (vd (aa e) x) (vd (aa e) v) (vd (aa e) m)):=by
 show (dst=none /\ _)=_
 congr 1
end
@[simp] theorem yJ {s} : cH .str (.str s)=(s.length <= maxLen):=_root_.id rfl
@[simp] theorem wX {b} : cH .bool (.bool b)=True:=_root_.id rfl
@[simp] theorem yI {q q' n} : cH (.int q) (.int q' n)=(q'=q /\ nZ q n):=_root_.id rfl
@[simp] theorem wY {q n ds} : cH (.ints q n) (.agg ds)=(ds.length=n /\ ∀ d ∈ ds,∃ x,d=.int q x /\ nZ q x):=_root_.id rfl
@[simp] theorem BT {s z} : gi (.str z) (.str s)=(s.length <= maxLen):=_root_.id rfl
@[simp] theorem yk {b z} : gi (.bool z) (.bool b)=True:=_root_.id rfl
@[simp] theorem BS {q q' n z} : gi (.int q z) (.int q' n)=(q'=q /\ nZ q n):=_root_.id rfl
@[simp] theorem FG {n : Int} : nZ .i64 n=(-9223372036854775808 <= n /\ n <= 9223372036854775807):=by
 have e1 : IntKind.i64.min=-9223372036854775808:=rfl
 have e2 : IntKind.i64.max=9223372036854775807:=rfl
 simp [nZ,Lit.wf,e1,e2]
attribute [simp] gC eE bI dz ci bB aK df tg okR oy jS cq
attribute [simp] vd params ee iz iA iy kL ly tu prune jc isC gk aL PR aW dpv bO stK bg rt chk rdS rdR frR fwR fa rdN gj wrK mnR zO ldN ac gB nV wOk Pa.root b0 bC
end Go.Gv

namespace Go.Gv
section
variable {C : CC}
def zP (id : Nat) (S : Type) (G : S -> Env) (J : S -> Prop) (Q : cc -> Env -> Prop) : cc -> Env -> Prop:=fun t e=>match t with
 | .ext i=>if i=id then ∃ s,J s /\ jc e (G s) else Q (.ext i) e
 | t=>Q t e
variable {Q : cc -> Env -> Prop} {e : Env}
@[simp] theorem uM {id S G J u} : bL (zP id S G J Q) u .nrm e=bL Q ⟨⟩ .nrm e:=_root_.id rfl
@[simp] theorem uN {id S G J u} : bL (zP id S G J Q) u .ret e=bL Q ⟨⟩ .ret e:=_root_.id rfl
@[simp] theorem uL {id S G J u i} : bL (zP id S G J Q) u (.ext i) e=if i=id then ∃ s,J s /\ jc e (G s) else bL Q ⟨⟩ (.ext i) e:=_root_.id rfl
def yU (S : Type) (G : S -> Env) (J : S -> Prop) (Q : cc -> Env -> Prop) : cc -> Env -> Prop:=fun t e=>match t with
 | .nrm=>∃ s,J s /\ jc e (G s)
 | t=>Q t e
@[simp] theorem uJ {S G J u} : bL (yU S G J Q) u .nrm e=∃ s,J s /\ jc e (G s):=_root_.id rfl
@[simp] theorem uK {S G J u} : bL (yU S G J Q) u .ret e=bL Q ⟨⟩ .ret e:=_root_.id rfl
@[simp] theorem uI {S G J u i} : bL (yU S G J Q) u (.ext i) e=bL Q ⟨⟩ (.ext i) e:=_root_.id rfl
end
@[simp] theorem IH {C : CC} {hs : Option (List Nat)} {K : Env -> Prop} {ns : List am} {dst : Option Nat} {u : Tag (hs,K,ns)} {e : Env} {R : List Nat} {acc : List (List Nat × List Nat)} {α : Type} [Inhabited α] {n : Nat} {ag : Bool} {p : Pa} {xs : List α} {f : α -> List D} {i off : Nat} :
  jD C hs K ns dst u e R acc n ag p (xs.map f) i off=(i < xs.length /\ off + n <= (f xs[i]!).length /\ match ag with
    | true=>((((f xs[i]!).drop off).take n).all isV=true -> dW C hs K ns dst ⟨⟩ e R acc (.agg (((f xs[i]!).drop off).take n))) /\
      ((((f xs[i]!).drop off).take n).all isV=false -> dW C hs K ns dst ⟨⟩ e R acc (.agx ((((f xs[i]!).drop off).take n).mapIdx fun j c=>ldc p i (off + j) c)))
    | false=>dW C hs K ns dst ⟨⟩ e R acc (ldc p i off (((f xs[i]!).drop off).headD .any))):=by
 apply propext
 constructor
 ·rintro ⟨r,h,h1,h2⟩
  rw [List.getElem?_map,Option.map_eq_some_iff] at h
  obtain ⟨x,hx,rfl⟩:=h
  obtain ⟨hi,rfl⟩:=List.getElem?_eq_some_iff.1 hx
  rw [getElem!_pos xs i hi]
  refine ⟨hi,h1,?_⟩
  cases ag <;> exact h2
 ·rintro ⟨hi,h1,h2⟩
  rw [getElem!_pos xs i hi] at h1 h2
  refine p8 (r:=f xs[i]) (by rw [List.getElem?_map,List.getElem?_eq_getElem hi];rfl) h1 ?_
  cases ag <;> exact h2
@[simp] theorem CR {b all ks n} : aJ ((b,all)::ks) (.ptx n)=if n.any (ay b all) then .any else aJ ks (.ptx n):=by
 have h : aJ ((b,all)::ks) (.ptx n)=bif (n.any (ay b all) || aw ks (.ptx n)) then .any else .ptx n:=bA ..
 rw [h,bA]
 cases n.any (ay b all) <;> rfl
@[simp] theorem CT {b all ks k sz n} : aJ ((b,all)::ks) (.rfx k sz n)=if n.any (ay b all) then .any else aJ ks (.rfx k sz n):=by
 have h : aJ ((b,all)::ks) (.rfx k sz n)=bif (n.any (ay b all) || aw ks (.rfx k sz n)) then .any else .rfx k sz n:=bA ..
 rw [h,bA]
 cases n.any (ay b all) <;> rfl
@[simp] theorem CX {b all ks n} : aJ ((b,all)::ks) (.tpx n)=if n.any (ay b all) then .any else aJ ks (.tpx n):=by
 have h : aJ ((b,all)::ks) (.tpx n)=bif (n.any (ay b all) || aw ks (.tpx n)) then .any else .tpx n:=bA ..
 rw [h,bA]
 cases n.any (ay b all) <;> rfl
@[simp] theorem Db {b all n es} : ay b all (slx n es)=false:=by cases n <;> cases es <;> rfl
@[simp] theorem C9 {b all p k n} : ay b all (.ref p k n)=bg b all p:=_root_.id rfl
@[simp] theorem C3 {b all p k n} : ay b all (.adr p k n)=bg b all p:=_root_.id rfl
@[simp] theorem C4 {b all T p k n} : ay b all (.ifa T p k n)=bg b all p:=_root_.id rfl
@[simp] theorem C5 {b all T n} : ay b all (.ifi T n)=false:=_root_.id rfl
@[simp] theorem Da {b all k n} : ay b all (.slv k n)=false:=_root_.id rfl
@[simp] theorem C7 {b all c} : ay b all (.mrf c)=(all && c == b):=_root_.id rfl
@[simp] theorem C6 {b all k n} : ay b all (.int k n)=false:=_root_.id rfl
@[simp] theorem yR {b all n} : ay b all (.bool n)=false:=_root_.id rfl
@[simp] theorem Dc {b all n} : ay b all (.str n)=false:=_root_.id rfl
@[simp] theorem yT {b all} : ay b all .nils=false:=_root_.id rfl
@[simp] theorem yS {b all} : ay b all .nilp=false:=_root_.id rfl
@[simp] theorem HC {b all n} : ay b all (.sl n)=false:=_root_.id rfl
@[simp] theorem C8 {b all n} : ay b all (.ptr n)=false:=_root_.id rfl
@[simp] theorem HB {b all g n} : ay b all (.fn g n)=false:=_root_.id rfl
@[simp] theorem CO {b all ks c} : aJ ((b,all)::ks) (.mrf c)=if (all && c == b) then .any else aJ ks (.mrf c):=by
 have h : aJ ((b,all)::ks) (.mrf c)=bif ((all && c == b) || aw ks (.mrf c)) then .any else .mrf c:=bA ..
 rw [h,bA]
 cases all && c == b <;> rfl
end Go.Gv

namespace Go.Gv
section
variable {C : CC} {hs : Option (List Nat)} {K : Env -> Prop} {ns : List am} {dst : Option Nat} {u : Tag (hs,K,ns)} {e : Env} {R : List Nat} {acc : List (List Nat × List Nat)}
theorem ar {sz : Nat} {es : List (List D)} {i : Nat} {c : List D} (h : es[i]? = some c) : fZ C hs K ns dst u e R acc sz es i=(c.length=sz /\ dW C hs K ns dst ⟨⟩ e R acc (.ptr c)):=by
 apply propext
 unfold fZ dW
 rw [h]
 exact ⟨fun ⟨_,h1,h2⟩=>by cases h1;exact h2,fun h2=>⟨c,rfl,h2⟩⟩
theorem aX {n : Nat} {ag : Bool} {p : Pa} {es : List (List D)} {i off : Nat} {r : List D} (hr : es[i]? = some r) : jD C hs K ns dst u e R acc n ag p es i off=(off + n <= r.length /\ match ag with
    | true=>(((r.drop off).take n).all isV=true -> dW C hs K ns dst ⟨⟩ e R acc (.agg ((r.drop off).take n))) /\
      (((r.drop off).take n).all isV=false -> dW C hs K ns dst ⟨⟩ e R acc (.agx (((r.drop off).take n).mapIdx fun j c=>ldc p i (off + j) c)))
    | false=>dW C hs K ns dst ⟨⟩ e R acc (ldc p i off ((r.drop off).headD .any))):=by
 apply propext
 constructor
 ·rintro ⟨r',h,h1,h2⟩
  rw [hr] at h
  cases h
  refine ⟨h1,?_⟩
  cases ag <;> exact h2
 ·rintro ⟨h1,h2⟩
  refine p8 hr h1 ?_
  cases ag <;> exact h2
@[simp] theorem Fx {sz : Nat} {c0 : List D} {es : List (List D)} : fZ C hs K ns dst u e R acc sz (c0::es) 0=(c0.length=sz /\ dW C hs K ns dst ⟨⟩ e R acc (.ptr c0)):=ar rfl
theorem tw {n : Nat} {ag : Bool} {p : Pa} {off : Nat} {c0 : List D} {es : List (List D)} : jD C hs K ns dst u e R acc n ag p (c0::es) 0 off=(off + n <= c0.length /\ match ag with
    | true=>(((c0.drop off).take n).all isV=true -> dW C hs K ns dst ⟨⟩ e R acc (.agg ((c0.drop off).take n))) /\
      (((c0.drop off).take n).all isV=false -> dW C hs K ns dst ⟨⟩ e R acc (.agx (((c0.drop off).take n).mapIdx fun j c=>ldc p 0 (off + j) c)))
    | false=>dW C hs K ns dst ⟨⟩ e R acc (ldc p 0 off ((c0.drop off).headD .any))):=aX rfl
@[simp] theorem Fy {sz : Nat} {c0 c1 : List D} {es : List (List D)} : fZ C hs K ns dst u e R acc sz (c0::c1::es) 1=(c1.length=sz /\ dW C hs K ns dst ⟨⟩ e R acc (.ptr c1)):=ar rfl
theorem tx {n : Nat} {ag : Bool} {p : Pa} {off : Nat} {c0 c1 : List D} {es : List (List D)} : jD C hs K ns dst u e R acc n ag p (c0::c1::es) 1 off=(off + n <= c1.length /\ match ag with
    | true=>(((c1.drop off).take n).all isV=true -> dW C hs K ns dst ⟨⟩ e R acc (.agg ((c1.drop off).take n))) /\
      (((c1.drop off).take n).all isV=false -> dW C hs K ns dst ⟨⟩ e R acc (.agx (((c1.drop off).take n).mapIdx fun j c=>ldc p 1 (off + j) c)))
    | false=>dW C hs K ns dst ⟨⟩ e R acc (ldc p 1 off ((c1.drop off).headD .any))):=aX rfl
@[simp] theorem Fz {sz : Nat} {c0 c1 c2 : List D} {es : List (List D)} : fZ C hs K ns dst u e R acc sz (c0::c1::c2::es) 2=(c2.length=sz /\ dW C hs K ns dst ⟨⟩ e R acc (.ptr c2)):=ar rfl
theorem tz {n : Nat} {ag : Bool} {p : Pa} {off : Nat} {c0 c1 c2 : List D} {es : List (List D)} : jD C hs K ns dst u e R acc n ag p (c0::c1::c2::es) 2 off=(off + n <= c2.length /\ match ag with
    | true=>(((c2.drop off).take n).all isV=true -> dW C hs K ns dst ⟨⟩ e R acc (.agg ((c2.drop off).take n))) /\
      (((c2.drop off).take n).all isV=false -> dW C hs K ns dst ⟨⟩ e R acc (.agx (((c2.drop off).take n).mapIdx fun j c=>ldc p 2 (off + j) c)))
    | false=>dW C hs K ns dst ⟨⟩ e R acc (ldc p 2 off ((c2.drop off).headD .any))):=aX rfl
@[simp] theorem FA {sz : Nat} {c0 c1 c2 c3 : List D} {es : List (List D)} : fZ C hs K ns dst u e R acc sz (c0::c1::c2::c3::es) 3=(c3.length=sz /\ dW C hs K ns dst ⟨⟩ e R acc (.ptr c3)):=ar rfl
theorem tA {n : Nat} {ag : Bool} {p : Pa} {off : Nat} {c0 c1 c2 c3 : List D} {es : List (List D)} : jD C hs K ns dst u e R acc n ag p (c0::c1::c2::c3::es) 3 off=(off + n <= c3.length /\ match ag with
    | true=>(((c3.drop off).take n).all isV=true -> dW C hs K ns dst ⟨⟩ e R acc (.agg ((c3.drop off).take n))) /\
      (((c3.drop off).take n).all isV=false -> dW C hs K ns dst ⟨⟩ e R acc (.agx (((c3.drop off).take n).mapIdx fun j c=>ldc p 3 (off + j) c)))
    | false=>dW C hs K ns dst ⟨⟩ e R acc (ldc p 3 off ((c3.drop off).headD .any))):=aX rfl
@[simp] theorem FB {sz : Nat} {c0 c1 c2 c3 c4 : List D} {es : List (List D)} : fZ C hs K ns dst u e R acc sz (c0::c1::c2::c3::c4::es) 4=(c4.length=sz /\ dW C hs K ns dst ⟨⟩ e R acc (.ptr c4)):=ar rfl
theorem tB {n : Nat} {ag : Bool} {p : Pa} {off : Nat} {c0 c1 c2 c3 c4 : List D} {es : List (List D)} : jD C hs K ns dst u e R acc n ag p (c0::c1::c2::c3::c4::es) 4 off=(off + n <= c4.length /\ match ag with
    | true=>(((c4.drop off).take n).all isV=true -> dW C hs K ns dst ⟨⟩ e R acc (.agg ((c4.drop off).take n))) /\
      (((c4.drop off).take n).all isV=false -> dW C hs K ns dst ⟨⟩ e R acc (.agx (((c4.drop off).take n).mapIdx fun j c=>ldc p 4 (off + j) c)))
    | false=>dW C hs K ns dst ⟨⟩ e R acc (ldc p 4 off ((c4.drop off).headD .any))):=aX rfl
attribute [simp] tw tx tz tA tB
end
end Go.Gv

namespace Go.Gv
section
variable {C : CC} {hs : Option (List Nat)} {K : Env -> Prop} {ns : List am} {dst : Option Nat} {u : Tag (hs,K,ns)} {e : Env} {R : List Nat} {acc : List (List Nat × List Nat)}
@[simp] theorem FC {sz : Nat} {c0 c1 c2 c3 c4 c5 : List D} {es : List (List D)} : fZ C hs K ns dst u e R acc sz (c0::c1::c2::c3::c4::c5::es) 5=(c5.length=sz /\ dW C hs K ns dst ⟨⟩ e R acc (.ptr c5)):=ar rfl
@[simp] theorem IE {n : Nat} {ag : Bool} {p : Pa} {off : Nat} {c0 c1 c2 c3 c4 c5 : List D} {es : List (List D)} : jD C hs K ns dst u e R acc n ag p (c0::c1::c2::c3::c4::c5::es) 5 off=(off + n <= c5.length /\ match ag with
    | true=>(((c5.drop off).take n).all isV=true -> dW C hs K ns dst ⟨⟩ e R acc (.agg ((c5.drop off).take n))) /\
      (((c5.drop off).take n).all isV=false -> dW C hs K ns dst ⟨⟩ e R acc (.agx (((c5.drop off).take n).mapIdx fun j c=>ldc p 5 (off + j) c)))
    | false=>dW C hs K ns dst ⟨⟩ e R acc (ldc p 5 off ((c5.drop off).headD .any))):=aX rfl
@[simp] theorem FD {sz : Nat} {c0 c1 c2 c3 c4 c5 c6 : List D} {es : List (List D)} : fZ C hs K ns dst u e R acc sz (c0::c1::c2::c3::c4::c5::c6::es) 6=(c6.length=sz /\ dW C hs K ns dst ⟨⟩ e R acc (.ptr c6)):=ar rfl
@[simp] theorem IF {n : Nat} {ag : Bool} {p : Pa} {off : Nat} {c0 c1 c2 c3 c4 c5 c6 : List D} {es : List (List D)} : jD C hs K ns dst u e R acc n ag p (c0::c1::c2::c3::c4::c5::c6::es) 6 off=(off + n <= c6.length /\ match ag with
    | true=>(((c6.drop off).take n).all isV=true -> dW C hs K ns dst ⟨⟩ e R acc (.agg ((c6.drop off).take n))) /\
      (((c6.drop off).take n).all isV=false -> dW C hs K ns dst ⟨⟩ e R acc (.agx (((c6.drop off).take n).mapIdx fun j c=>ldc p 6 (off + j) c)))
    | false=>dW C hs K ns dst ⟨⟩ e R acc (ldc p 6 off ((c6.drop off).headD .any))):=aX rfl
@[simp] theorem FE {sz : Nat} {c0 c1 c2 c3 c4 c5 c6 c7 : List D} {es : List (List D)} : fZ C hs K ns dst u e R acc sz (c0::c1::c2::c3::c4::c5::c6::c7::es) 7=(c7.length=sz /\ dW C hs K ns dst ⟨⟩ e R acc (.ptr c7)):=ar rfl
@[simp] theorem IG {n : Nat} {ag : Bool} {p : Pa} {off : Nat} {c0 c1 c2 c3 c4 c5 c6 c7 : List D} {es : List (List D)} : jD C hs K ns dst u e R acc n ag p (c0::c1::c2::c3::c4::c5::c6::c7::es) 7 off=(off + n <= c7.length /\ match ag with
    | true=>(((c7.drop off).take n).all isV=true -> dW C hs K ns dst ⟨⟩ e R acc (.agg ((c7.drop off).take n))) /\
      (((c7.drop off).take n).all isV=false -> dW C hs K ns dst ⟨⟩ e R acc (.agx (((c7.drop off).take n).mapIdx fun j c=>ldc p 7 (off + j) c)))
    | false=>dW C hs K ns dst ⟨⟩ e R acc (ldc p 7 off ((c7.drop off).headD .any))):=aX rfl
end
end Go.Gv

namespace Go.Gv
section
variable {C : CC} {hs : Option (List Nat)} {K : Env -> Prop} {ns : List am} {e : Env} {R : List Nat} {acc : List (List Nat × List Nat)}
end
end Go.Gv

namespace Go.Gv
section
variable {C : CC} {hs : Option (List Nat)} {K : Env -> Prop} {ns : List am} {e : Env} {R : List Nat} {acc : List (List Nat × List Nat)}
end
end Go.Gv

namespace Go.Gv
section
variable {C : CC} {hs : Option (List Nat)} {K : Env -> Prop} {ns : List am} {dst : Option Nat} {e : Env} {R : List Nat} {acc : List (List Nat × List Nat)} {u : Tag (hs,K,ns)}
@[simp] theorem DC : iS none=[]:=_root_.id rfl
@[simp] theorem DD {x : Opd} : iS (some x)=[x]:=_root_.id rfl
@[simp] theorem IB {c c' k n : Nat} {q : Pa} : iY c q (.ref (.r c') k n)=if c'=c then .ref q k n else .ref (.r c') k n:=_root_.id rfl
@[simp] theorem DG {c b i o k n : Nat} {q : Pa} : iY c q (.ref (.n b i o) k n)=.ref (.n b i o) k n:=_root_.id rfl
@[simp] theorem N7 {c : Nat} {q : Pa} {es} : iY c q (.sl es)=.sl es:=_root_.id rfl
@[simp] theorem DF {c : Nat} {q : Pa} : iY c q .nils=.nils:=_root_.id rfl
@[simp] theorem IA {c : Nat} {q : Pa} {k n} : iY c q (.int k n)=.int k n:=_root_.id rfl
@[simp] theorem IC {c : Nat} {q : Pa} {b es} : iY c q (slx b es)=slx b es:=by cases b <;> cases es <;> rfl
@[simp] theorem yF {b c i o k n : Nat} : gx b (.ref (.n c i o) k n)=(c != b || (i == 0 && o == 1)):=_root_.id rfl
@[simp] theorem yG {b c k n : Nat} : gx b (.ref (.r c) k n)=true:=_root_.id rfl
@[simp] theorem Hc {b : Nat} {es} : gx b (.sl es)=true:=_root_.id rfl
@[simp] theorem yE {b : Nat} : gx b .nils=true:=_root_.id rfl
@[simp] theorem CA {b : Nat} {k n} : gx b (.int k n)=true:=_root_.id rfl
@[simp] theorem CB {b : Nat} {x es} : gx b (slx x es)=true:=by cases x <;> cases es <;> rfl
def u9 (C : CC) (hs : Option (List Nat)) (K : Env -> Prop) (ns : List am) (dst : Option Nat) (_ : Tag (hs,K,ns)) (e : Env) (R : List Nat) (acc : List (List Nat × List Nat)) (T : Nat) (d : D) : Prop:=match d with
 | .adr p i off=>dW C hs K ns dst ⟨⟩ e R acc (.ifa T p i off)
 | .int k n=>k=.i64 /\ dW C hs K ns dst ⟨⟩ e R acc (.ifi T n)
 | _=>False
@[simp] theorem NU {T x v1} : opW C hs K ns dst (.mkI T x) v1 e R acc=u9 C hs K ns dst ⟨⟩ e R acc T (vd (aa e) x):=by
 show res (aa e) _ (.mkI T x)=_
 simp only [res,u9]
 cases vd (aa e) x <;> rfl
@[simp] theorem HD {T p i off} : u9 C hs K ns dst u e R acc T (.adr p i off)=dW C hs K ns dst ⟨⟩ e R acc (.ifa T p i off):=_root_.id rfl
@[simp] theorem HE {T k n} : u9 C hs K ns dst u e R acc T (.int k n)=(k=.i64 /\ dW C hs K ns dst ⟨⟩ e R acc (.ifi T n)):=_root_.id rfl
def Aj (C : CC) (hs : Option (List Nat)) (K : Env -> Prop) (ns : List am) (dst : Option Nat) (_ : Tag (hs,K,ns)) (e : Env) (R : List Nat) (acc : List (List Nat × List Nat)) (T : Nat) (d : D) : Prop:=match d with
 | .ifi T' n=>T'=T /\ dW C hs K ns dst ⟨⟩ e R acc (.int .i64 n)
 | _=>False
@[simp] theorem N5 {T x v1} : opW C hs K ns dst (.tya T x) v1 e R acc=Aj C hs K ns dst ⟨⟩ e R acc T (vd (aa e) x):=by
 show res (aa e) _ (.tya T x)=_
 simp only [res,Aj]
 cases vd (aa e) x <;> rfl
@[simp] theorem IZ {T T' n} : Aj C hs K ns dst u e R acc T (.ifi T' n)=(T'=T /\ dW C hs K ns dst ⟨⟩ e R acc (.int .i64 n)):=_root_.id rfl
def pj (C : CC) (g : Nat) (hs : Option (List Nat)) (K : Env -> Prop) (ns : List am) (dst : Option Nat) (_ : Tag (hs,K,ns)) (e : Env) (R : List Nat) (acc : List (List Nat × List Nat)) (b sz : Nat) (es : List (List D)) (W : List D) : Prop :=
 ∃ d,∃ es' : List (List D),0 < es'.length /\ C g (.blk sz es::W) d [.blk sz es',.nilp] /\ doW C hs K ns ⟨⟩ e R acc (bN dst d++[(b,.blk sz es')]) [(b,false)]
theorem bU {g b sz : Nat} {es es' : List (List D)} {W : List D} {d : D} (h : C g (.blk sz es::W) d [.blk sz es',.nilp]) (hp : 0 < es'.length)
  (hk : doW C hs K ns ⟨⟩ e R acc (bN dst d++[(b,.blk sz es')]) [(b,false)]) : pj C g hs K ns dst u e R acc b sz es W:=⟨d,es',hp,h,hk⟩
def Ew (C : CC) (g : Nat) (hs : Option (List Nat)) (K : Env -> Prop) (ns : List am) (dst : Option Nat) (_ : Tag (hs,K,ns)) (e : Env) (R : List Nat) (acc : List (List Nat × List Nat)) (T : Nat) (xs : List Opd) (d : D) : Prop:=match d with
 | .ifa T' (.r b) i off=>T'=T /\ i=0 /\ off=0 /\ cz (aa e b) (fun sz es=>0 < es.length /\ (∀ x ∈ xs,isV (vd (aa e) x)=true) /\ pj C g hs K ns dst ⟨⟩ e R acc b sz es (.adr (.r 10015) 0 0::xs.map (vd (aa e)))) ⟨⟩
 | _=>False
@[simp] theorem Ou {g xs T T' b i off} : Ew C g hs K ns dst u e R acc T xs (.ifa T' (.r b) i off)=(T'=T /\ i=0 /\ off=0 /\ cz (aa e b) (fun sz es=>0 < es.length /\ (∀ x ∈ xs,isV (vd (aa e) x)=true) /\ pj C g hs K ns dst ⟨⟩ e R acc b sz es (.adr (.r 10015) 0 0::xs.map (vd (aa e)))) ⟨⟩):=_root_.id rfl
@[simp] theorem Dp {g m T x xs v1} : opW C hs K ns dst (.callI g m T x xs) v1 e R acc=Ew C g hs K ns dst ⟨⟩ e R acc T xs (vd (aa e) x):=by
 unfold opW
 simp only [aq]
 cases vd (aa e) x <;> first | rfl | skip
def Ex (C : CC) (g : Nat) (hs : Option (List Nat)) (K : Env -> Prop) (ns : List am) (dst : Option Nat) (_ : Tag (hs,K,ns)) (e : Env) (R : List Nat) (acc : List (List Nat × List Nat)) (xs : List Opd) (d : D) : Prop:=match d with
 | .ifa T (.r b) i off=>i=0 /\ off=0 /\ cz (aa e b) (fun sz es=>0 < es.length /\ (∀ x ∈ xs,isV (vd (aa e) x)=true) /\ pj C g hs K ns dst ⟨⟩ e R acc b sz es (.ifa T (.r 10015) 0 0::xs.map (vd (aa e)))) ⟨⟩
 | _=>False
@[simp] theorem Ow {g xs T b i off} : Ex C g hs K ns dst u e R acc xs (.ifa T (.r b) i off)=(i=0 /\ off=0 /\ cz (aa e b) (fun sz es=>0 < es.length /\ (∀ x ∈ xs,isV (vd (aa e) x)=true) /\ pj C g hs K ns dst ⟨⟩ e R acc b sz es (.ifa T (.r 10015) 0 0::xs.map (vd (aa e)))) ⟨⟩):=_root_.id rfl
@[simp] theorem Dr {g x xs v1} : opW C hs K ns dst (.callM g x xs) v1 e R acc=Ex C g hs K ns dst ⟨⟩ e R acc xs (vd (aa e) x):=by
 unfold opW
 simp only [aq]
 cases vd (aa e) x <;> first | rfl | skip
def wO (C : CC) (g : Nat) (hs : Option (List Nat)) (K : Env -> Prop) (ns : List am) (dst : Option Nat) (_ : Tag (hs,K,ns)) (e : Env) (R : List Nat) (acc : List (List Nat × List Nat)) (xs : List Opd) (d : D) : Prop:=match d with
 | .ref (.r b) k n=>k=0 /\ cz (aa e b) (fun sz es=>0 < es.length /\ es.length=n /\ (∀ x ∈ xs,isV (vd (aa e) x)=true) /\ pj C g hs K ns dst ⟨⟩ e R acc b sz es (.ref (.r 10015) 0 n::xs.map (vd (aa e)))) ⟨⟩
 | _=>False
@[simp] theorem Jl {g xs b k n} : wO C g hs K ns dst u e R acc xs (.ref (.r b) k n)=(k=0 /\ cz (aa e b) (fun sz es=>0 < es.length /\ es.length=n /\ (∀ x ∈ xs,isV (vd (aa e) x)=true) /\ pj C g hs K ns dst ⟨⟩ e R acc b sz es (.ref (.r 10015) 0 n::xs.map (vd (aa e)))) ⟨⟩):=_root_.id rfl
@[simp] theorem Dt {g x xs v1} : opW C hs K ns dst (.callR g x xs) v1 e R acc=wO C g hs K ns dst ⟨⟩ e R acc xs (vd (aa e) x):=by
 unfold opW
 simp only [aq]
 cases vd (aa e) x <;> first | rfl | skip
theorem v8 {x y : Opd} {v1 : _} {b i off n sz0 sz : Nat} {es0 es : List (List D)} {row0 : List D} (hx : vd (aa e) x=.adr (.r b) i off) (hy : vd (aa e) y=.ref (.n b i off) 0 n) (hb : aa e b=.blk sz0 es0) (h1 : es0[i]? = some row0) (h2 : row0[off]? = some (.own sz es)) (h3 : n <= es.length)
  (hk : doW C hs K ns ⟨⟩ e R acc [(b,.blk sz0 (aW es0 i off 1 [.own sz (es.take n)]))] []) : opW C hs K ns none (.stL x y) v1 e R acc:=by
 unfold opW
 simp only [aq]
 refine ⟨trivial,?_⟩
 rw [hx,hy]
 refine ⟨rfl,rfl,rfl,rfl,?_⟩
 rw [hb]
 exact ⟨row0,h1,sz,es,h2,h3,hk⟩
theorem jj {g s : Nat} {x : Opd} {xs : List Opd} {v1 : _} {T b sz sz1 sz2 : Nat} {fs sp fs' : List (List D)} {ds : List D} {d : D} (hx : vd (aa e) x=.ifa T (.r b) 0 0) (hs0 : s < 10000) (hd : dst ≠ some s) (hxs : ∀ x ∈ xs,aP (vd (aa e) x)=true)
  (hb : aa e b=.blk sz [[.own sz1 fs,.own sz2 sp]]) (hs1 : aa e s=.ptx ds) (hk1 : ds.all (gx b)=true) (f1 : ∀ e ∈ fs,∀ c ∈ e,aP c=true) (f2 : ∀ e ∈ sp,∀ c ∈ e,aP c=true) (hd1 : aP d=true \/ d=.tup []) (f3 : ∀ e ∈ fs',∀ c ∈ e,aP c=true)
  (hc : C g (.blk sz [[.own sz1 fs,.slv 0 sp]]::.ifa T (.r 10015) 0 0::xs.map (vd (aa e))) d [.blk sz [[.own sz1 fs',.slv 0 sp]],.nils])
  (hk : doW C hs K ns ⟨⟩ e R acc (bN dst d++[(b,.blk sz [[.own sz1 fs',.own sz2 sp]]),(s,.ptx ds)]) [(b,false)]) : opW C hs K ns dst (.callQ g s x xs) v1 e R acc:=by
 unfold opW
 simp only [aq]
 rw [hx]
 refine ⟨rfl,rfl,hs0,hd,hxs,?_⟩
 rw [hb]
 simp only
 rw [hs1]
 exact ⟨hk1,f1,f2,d,fs',hd1,f3,hc,hk⟩
theorem r9 {s t : Nat} {x : Opd} {v1 : _} {c n sz : Nat} {es : List (List D)} {ds : List D} (hs0 : s < 10000) (hst : s ≠ t) (hx : vd (aa e) x=.agx [.nils,.ref (.r c) 0 n]) (hc : c ≠ rt t 0) (hcb : aa e c=.blk sz es) (hsz : 0 < sz) (hl : es.length=n) (h1 : ∀ e ∈ es,∀ c ∈ e,au c=true)
  (hs1 : aa e s=.ptx ds) (hm : (ds.all fun d=>!ay (rt t 0) true d)=true)
  (hk0 : n=0 -> doW C hs K ns ⟨⟩ e R acc [(t,.adr (.r (rt t 0)) 0 0),(rt t 0,.blk 2 [[.own sz [],.any]])] [(rt t 0,true)])
  (hk : 0 < n -> doW C hs K ns ⟨⟩ e R acc [(t,.adr (.r (rt t 0)) 0 0),(rt t 0,.blk 2 [[.own sz [],.own sz es]]),(c,.any),(s,.ptx (ds.map (iY c (.n (rt t 0) 0 1))))] [(rt t 0,true)]) : opW C hs K ns (some t) (.boxK s x) v1 e R acc:=by
 unfold opW
 simp only [aq]
 refine ⟨hs0,hst,?_⟩
 rw [hx]
 refine ⟨rfl,hc,?_⟩
 rw [hcb]
 refine ⟨hsz,hl,h1,?_⟩
 rw [hs1]
 refine ⟨hm,?_⟩
 by_cases hn : n=0
 ·rw [if_pos hn];exact hk0 hn
 ·rw [if_neg hn];exact hk (Nat.pos_of_ne_zero hn)
end
end Go.Gv

namespace Go.Gv
def n5 (c : Int) : Bool:=(97 <= c && c <= 122) || (65 <= c && c <= 90)
def uZ (c : Int) : Bool:=48 <= c && c <= 57
def u4 (c : UInt8) : Bool:=n5 c.toNat || uZ c.toNat || c.toNat == 95
def we (s : List UInt8) : Nat:=(s.takeWhile u4).length
def kd (n : Int) : Bool:=-1125899906842624 <= n && n <= 1125899906842624
def Ph (s : List UInt8) : Bool:=s ≠ [] && s.length <= 20 && n5 (s[0]!).toNat && we s == s.length
theorem ao {n m : Int} (h : n=m) (h2 : -9223372036854775808 <= m /\ m < 9223372036854775808) : IntKind.wrap .i64 n=m:=by
 subst h
 have e1 : IntKind.i64.signed=true:=rfl
 have e2 : (2 ^ (IntKind.i64.bits - 1) : Int)=9223372036854775808:=rfl
 have e3 : (2 ^ IntKind.i64.bits : Int)=18446744073709551616:=rfl
 unfold IntKind.wrap
 simp only [e1,e2,e3,Bool.true_and,decide_eq_true_eq]
 split <;> omega
variable {C : CC} (hC : aE prog C)
include hC
end Go.Gv

namespace Go.Gv
structure SlI where
 n : Bool
 l : List Int
 deriving Inhabited
def slI (x : SlI) : D:=slx x.n (x.l.map fun n=>[.int .i64 n])
def knD (k : Int × Int) : List D:=[.int .i64 k.1,.int .i64 k.2]
structure Sec where
 name : List UInt8
 height : Int
 price : Int
 areaN : Bool
 area : List (Int × Int)
 convN : Bool
 conv : List (Int × Int)
 deriving Inhabited
def Qk (s : Sec) : List D:=[.str s.name,.int .i64 s.height,.int .i64 s.price,slx s.areaN (s.area.map knD),slx s.convN (s.conv.map knD)]
def gw {α : Type} (p : α -> Bool) (xs : List α) : Int:=match xs.findIdx? p with
 | some i=>i
 | none=>-1
theorem fv {α : Type} {p : α -> Bool} {xs : List α} {i : Nat} (hj : ∀ (j : Nat) (h : j < xs.length),j < i -> p xs[j]=false) (hi : i < xs.length) (h : p xs[i]=true) : gw p xs=i:=by
 have : xs.findIdx? p=some i:=by
  rw [List.findIdx?_eq_some_iff_getElem]
  exact ⟨hi,h,fun j hji=>by simp [hj j (by omega) hji]⟩
 simp [gw,this]
theorem gP {α : Type} {p : α -> Bool} {xs : List α} (hj : ∀ (j : Nat) (h : j < xs.length),p xs[j]=false) : gw p xs=-1:=by
 have : xs.findIdx? p=none:=by
  rw [List.findIdx?_eq_none_iff]
  intro x hx
  obtain ⟨j,h,rfl⟩:=List.mem_iff_getElem.1 hx
  exact hj j h
 simp [gw,this]
theorem kV {α : Type} (p : α -> Bool) (xs : List α) : decide (0 <= gw p xs)=xs.any p:=by
 unfold gw
 split
 ·rename_i i h
  rw [List.findIdx?_eq_some_iff_getElem] at h
  obtain ⟨h1,h2,_⟩:=h
  have : xs.any p=true:=List.any_eq_true.2 ⟨_,List.getElem_mem h1,h2⟩
  simp [this]
 ·rename_i h
  rw [List.findIdx?_eq_none_iff] at h
  have : xs.any p=false:=by rw [List.any_eq_false];intro x hx;simp [h x hx]
  simp [this]
variable {C : CC} (hC : aE prog C)
include hC
theorem sX {b : Bool} {xs : List Int} {g : Nat} {cs : List D} (p : Int -> Bool) (hs : xs.length < 2 ^ 62) (hp : ∀ x ∈ xs,C g (.int .i64 x::cs) (.bool (p x)) []) : C 35 [slx b (xs.map fun x=>[.int .i64 x]),.fn g cs] (.int .i64 (gw p xs)) []:=by
 refine bD hC (nf:=N35) rfl rfl ?_
 simp [N35]
 refine aF Nat (fun i=>[(0,slx b (xs.map fun x=>[.int .i64 x])),(1,.fn g cs),(7,.int .i64 xs.length),(8,.int .i64 i)]) (fun i=>i <= xs.length /\ ∀ (j : Nat) (h : j < xs.length),j < i -> p xs[j]=false) (fun i=>xs.length - i) 0 (by simp) (by simp) ?_
 rintro i ⟨hi,hj⟩
 simp
 refine av (fun h=>?_) (fun h=>?_) <;> simp [h] <;> simp at h
 ·have hw : IntKind.wrap .i64 ((i : Int) + 1)=((i + 1 : Nat) : Int):=ao (by omega) (by omega)
  have hc:=hp _ (List.getElem_mem h)
  simp [h,List.getElem_map] at hc ⊢
  refine af hc (.inl rfl) ?_
  simp
  refine av (fun h1=>?_) (fun h1=>?_) <;> simp [h1,hw]
  ·rw [fv hj h h1]
  ·refine ⟨i + 1,⟨by omega,fun j hl hjj=>?_⟩,by omega,rfl⟩
   rcases Nat.lt_succ_iff_lt_or_eq.1 hjj with h2 | rfl
   ·exact hj j hl h2
   ·exact h1
 ·rw [gP (fun j hl=>hj j hl (by omega))]
theorem sV {b : Bool} {xs : List Int} {g : Nat} {cs : List D} (p : Int -> Bool) (hs : xs.length < 2 ^ 62) (hp : ∀ x ∈ xs,C g (.int .i64 x::cs) (.bool (p x)) []) : C 11 [slx b (xs.map fun x=>[.int .i64 x]),.fn g cs] (.bool (xs.any p)) []:=by
 refine bD hC (nf:=N11) rfl rfl ?_
 simp [N11]
 refine af (sX hC p hs hp) (.inl rfl) ?_
 simp [kV]
end Go.Gv

namespace Go.Gv
structure Spt where
 x : Int
 y : Int
 z : Int
 deriving Inhabited,DecidableEq
structure Fce where
 a : Int
 b : Int
 c : Int
 k : Int
 deriving Inhabited,DecidableEq
structure Msh where
 sn : Bool
 s : List Spt
 fn : Bool
 f : List Fce
def kj (s : Spt) : List D:=[.int .i64 s.x,.int .i64 s.y,.int .i64 s.z]
def cL (f : Fce) : List D:=[.int .i64 f.a,.int .i64 f.b,.int .i64 f.c,.int .i64 f.k]
def cj (m : Msh) : List D:=[slx m.sn (m.s.map kj),slx m.fn (m.f.map cL)]
theorem ky (s : Spt) : kj s=[.int .i64 s.x,.int .i64 s.y,.int .i64 s.z]:=_root_.id rfl
theorem bq (f : Fce) : cL f=[.int .i64 f.a,.int .i64 f.b,.int .i64 f.c,.int .i64 f.k]:=_root_.id rfl
theorem ai (m : Msh) : cj m=[slx m.sn (m.s.map kj),slx m.fn (m.f.map cL)]:=_root_.id rfl
def spt (m : Msh) (i : Nat) : Spt:=m.s[i]!
def fce (m : Msh) (i : Nat) : Fce:=m.f[i]!
@[simp high] theorem PU (m : Msh) (i : Nat) : m.s[i]! = spt m i:=_root_.id rfl
@[simp high] theorem O2 (m : Msh) (i : Nat) : m.f[i]! = fce m i:=_root_.id rfl
@[simp high] theorem PV (m : Msh) (i : Nat) : m.s[i]?.getD default=spt m i:=by simp only [spt,List.getElem!_eq_getElem?_getD]
@[simp high] theorem O3 (m : Msh) (i : Nat) : m.f[i]?.getD default=fce m i:=by simp only [fce,List.getElem!_eq_getElem?_getD]
@[simp] theorem P6 (m : Msh) (i : Nat) (h : i < m.s.length) : m.s[i]=spt m i:=(getElem!_pos m.s i h).symm
@[simp] theorem l9 (m : Msh) (i : Nat) (h : i < m.f.length) : m.f[i]=fce m i:=(getElem!_pos m.f i h).symm
abbrev Pnt:=Int × Int
def ptD (p : Pnt) : List D:=[.int .i64 p.1,.int .i64 p.2]
def ptS (s : Spt) : Pnt:=(s.x,s.y)
def okP (p : Pnt) : Bool:=-16777216 <= p.1 && p.1 <= 16777216 && -16777216 <= p.2 && p.2 <= 16777216
def bm (s : Spt) : Bool:=-16777216 <= s.x && s.x <= 16777216 && -16777216 <= s.y && s.y <= 16777216 && -4194304 <= s.z && s.z <= 4194304
theorem ng {s : Spt} (h : bm s=true) : okP (ptS s)=true:=by
 simp only [bm,Bool.and_eq_true,decide_eq_true_eq] at h
 show okP (s.x,s.y)=true
 simp [okP]
 omega
def fX (a b c : Pnt) : Int:=(b.1 - a.1) * (c.2 - a.2) - (b.2 - a.2) * (c.1 - a.1)
theorem tb {a b k l : Int} (h1 : -k <= a) (h2 : a <= k) (h3 : -l <= b) (h4 : b <= l) : -(k * l) <= a * b /\ a * b <= k * l:=by
 have hk : 0 <= k:=by omega
 have hl : 0 <= l:=by omega
 have e1:=Int.mul_nonneg (show 0 <= k - a by omega) (show 0 <= l - b by omega)
 have e2:=Int.mul_nonneg (show 0 <= k + a by omega) (show 0 <= l + b by omega)
 have e3:=Int.mul_nonneg (show 0 <= k - a by omega) (show 0 <= l + b by omega)
 have e4:=Int.mul_nonneg (show 0 <= k + a by omega) (show 0 <= l - b by omega)
 simp only [Int.sub_mul,Int.mul_sub,Int.add_mul,Int.mul_add] at e1 e2 e3 e4
 omega
theorem iv {p : Pnt} (h : okP p=true) : -16777216 <= p.1 /\ p.1 <= 16777216 /\ -16777216 <= p.2 /\ p.2 <= 16777216:=by
 simp only [okP,Bool.and_eq_true,decide_eq_true_eq] at h
 omega
theorem wb {a b c : Pnt} (ha : okP a=true) (hb : okP b=true) (hc : okP c=true) :
  (-1125899906842624 <= (b.1 - a.1) * (c.2 - a.2) /\ (b.1 - a.1) * (c.2 - a.2) <= 1125899906842624) /\ (-1125899906842624 <= (b.2 - a.2) * (c.1 - a.1) /\ (b.2 - a.2) * (c.1 - a.1) <= 1125899906842624):=by
 have:=iv ha
 have:=iv hb
 have:=iv hc
 exact ⟨tb (k:=33554432) (l:=33554432) (by omega) (by omega) (by omega) (by omega),tb (k:=33554432) (l:=33554432) (by omega) (by omega) (by omega) (by omega)⟩
abbrev Tri:=Pnt × Pnt × Pnt
def bY (t : Tri) : List D:=[.int .i64 t.1.1,.int .i64 t.1.2,.int .i64 t.2.1.1,.int .i64 t.2.1.2,.int .i64 t.2.2.1,.int .i64 t.2.2.2]
def okT (t : Tri) : Bool:=okP t.1 && okP t.2.1 && okP t.2.2
def lK (t : Tri) : Int:=fX t.1 t.2.1 t.2.2
def lS (p q : Pnt) (u : Tri) : Bool:=fX p q u.1 <= 0 && fX p q u.2.1 <= 0 && fX p q u.2.2 <= 0
def tH (t u : Tri) : Bool:=lS t.1 t.2.1 u || lS t.2.1 t.2.2 u || lS t.2.2 t.1 u
def ovT (t u : Tri) : Bool:=!tH t u && !tH u t
def aY (m : Msh) (f : Fce) : Tri:=(ptS (spt m f.a.toNat),ptS (spt m f.b.toNat),ptS (spt m f.c.toNat))
def crn (f : Fce) : Nat -> Int
 | 0=>f.a
 | 1=>f.b
 | 2=>f.c
 | 3=>f.a
 | 4=>f.b
 | _=>f.c
def fy (n : Nat) (a : Int) : Bool:=0 <= a && a < n
def inS (m : Msh) (f : Fce) : Bool:=fy m.s.length f.a && fy m.s.length f.b && fy m.s.length f.c
theorem mU {m : Msh} {f : Fce} (h : inS m f=true) : (0 <= f.a /\ f.a.toNat < m.s.length) /\ (0 <= f.b /\ f.b.toNat < m.s.length) /\ (0 <= f.c /\ f.c.toNat < m.s.length):=by
 simp only [inS,fy,Bool.and_eq_true,decide_eq_true_eq] at h
 omega
variable {C : CC} (hC : aE prog C)
include hC
theorem tm (p : Pnt) : C 313 [.agg (ptD p)] (.bool (okP p)) []:=by
 refine bD hC (nf:=N313) rfl rfl ?_
 simp [N313,ptD,okP]
 repeat' (refine av (fun h=>?_) (fun h=>?_) <;> simp at h <;> simp [h] <;> try omega)
theorem s9 (s : Spt) : C 303 [.agg (kj s)] (.bool (bm s)) []:=by
 have k:=tm hC (s.x,s.y)
 simp [ptD,okP] at k
 refine bD hC (nf:=N303) rfl rfl ?_
 simp [N303,kj,bm]
 refine af k (.inl rfl) ?_
 simp
 repeat' (refine av (fun h=>?_) (fun h=>?_) <;> simp at h <;> simp [h] <;> try omega)
theorem od (m : Msh) : C 302 [.agg (cj m)] (.bool (decide (m.s.length <= 2000) && decide (m.f.length <= 4000))) []:=by
 refine bD hC (nf:=N302) rfl rfl ?_
 simp [N302,cj]
 refine av (fun h=>?_) (fun h=>?_) <;> simp at h <;> simp [h]
 ·rw [decide_eq_true (show m.s.length <= 2000 by omega)]
  simp
  exact Iff.intro (fun h2=>by omega) (fun h2=>by omega)
 ·omega
theorem iP (m : Msh) (i : Nat) (h : i < m.s.length) : C 304 [.agg (cj m),.int .i64 i] (.agg (ptD (ptS (spt m i)))) []:=by
 refine bD hC (nf:=N304) rfl rfl ?_
 simp [N304,cj,h,ky,ptD,ptS]
 exact aT (by decide +kernel)
theorem k9 (f : Fce) : C 305 [.agg (cL f)] (.agg [.int .i64 f.a,.int .i64 f.b,.int .i64 f.c]) []:=by
 refine bD hC (nf:=N305) rfl rfl ?_
 simp [N305,cL]
theorem mX (f : Fce) (k : Nat) (hk : k < 3) : C 298 [.agg (cL f),.int .i64 k] (.agg [.int .i64 (crn f k),.int .i64 (crn f (k + 1))]) []:=by
 have k1:=k9 hC f
 refine bD hC (nf:=N298) rfl rfl ?_
 rw [cL] at k1 ⊢
 simp [N298]
 refine af k1 (.inl rfl) ?_
 have w : IntKind.wrap .i64 ((k : Int) + 1)=((k + 1 : Nat) : Int):=ao (by omega) (by omega)
 have w0 : IntKind.wrap .i64 1=1:=by decide
 have w1 : IntKind.wrap .i64 2=2:=by decide
 have w2 : IntKind.wrap .i64 3=3:=by decide
 rcases (by omega : k=0 \/ k=1 \/ k=2) with rfl | rfl | rfl <;> simp [crn,w0,w1,w2] <;> exact aT (by decide +kernel)
theorem pW {a b c : Pnt} (ha : okP a=true) (hb : okP b=true) (hc : okP c=true) : C 308 [.agg (ptD a),.agg (ptD b),.agg (ptD c)] (.int .i64 (fX a b c)) []:=by
 have:=iv ha
 have:=iv hb
 have:=iv hc
 have h4:=wb ha hb hc
 refine bD hC (nf:=N308) rfl rfl ?_
 have w1 : IntKind.wrap .i64 (b.1 - a.1)=b.1 - a.1:=ao rfl (by omega)
 have w2 : IntKind.wrap .i64 (c.2 - a.2)=c.2 - a.2:=ao rfl (by omega)
 have w3 : IntKind.wrap .i64 (b.2 - a.2)=b.2 - a.2:=ao rfl (by omega)
 have w4 : IntKind.wrap .i64 (c.1 - a.1)=c.1 - a.1:=ao rfl (by omega)
 have w5 : IntKind.wrap .i64 ((b.1 - a.1) * (c.2 - a.2))=(b.1 - a.1) * (c.2 - a.2):=ao rfl (by omega)
 have w6 : IntKind.wrap .i64 ((b.2 - a.2) * (c.1 - a.1))=(b.2 - a.2) * (c.1 - a.1):=ao rfl (by omega)
 have w7 : IntKind.wrap .i64 ((b.1 - a.1) * (c.2 - a.2) - (b.2 - a.2) * (c.1 - a.1))=fX a b c:=ao rfl (by rw [fX];omega)
 simp [N308,ptD,w1,w2,w3,w4,w5,w6,w7]
theorem zJ (m : Msh) (f : Fce) (h : inS m f=true) : C 307 [.agg (cj m),.agg (cL f)] (.agg (bY (aY m f))) []:=by
 obtain ⟨⟨a1,a2⟩,⟨b1,b2⟩,⟨c1,c2⟩⟩:=mU h
 have ka:=iP hC m f.a.toNat a2
 have kb:=iP hC m f.b.toNat b2
 have kc:=iP hC m f.c.toNat c2
 rw [Int.toNat_of_nonneg a1] at ka
 rw [Int.toNat_of_nonneg b1] at kb
 rw [Int.toNat_of_nonneg c1] at kc
 refine bD hC (nf:=N307) rfl rfl ?_
 rw [cj] at ka kb kc ⊢
 simp [N307,cL]
 simp [ptD] at ka kb kc
 refine af ka (.inl rfl) ?_
 simp
 refine af kb (.inl rfl) ?_
 simp
 refine af kc (.inl rfl) ?_
 simp [bY,aY]
 exact aT (by decide +kernel)
end Go.Gv

namespace Go.Gv
theorem dj : IntKind.wrap .i64 1=1:=by decide
theorem dD : IntKind.wrap .i64 2=2:=by decide
theorem dE : IntKind.wrap .i64 3=3:=by decide
variable {C : CC} (hC : aE prog C)
include hC
set_option maxHeartbeats 1000000 in
theorem xF {t u : Tri} (ht : okT t=true) (hu : okT u=true) : C 311 [.agg (bY t),.agg (bY u)] (.bool (tH t u)) []:=by
 simp only [okT,Bool.and_eq_true] at ht hu
 obtain ⟨⟨t1,t2⟩,t3⟩:=ht
 obtain ⟨⟨u1,u2⟩,u3⟩:=hu
 have kk:=fun (p q r : Pnt) (hp : okP p=true) (hq : okP q=true) (hr : okP r=true)=>pW hC hp hq hr
 simp only [ptD] at kk
 have E : tH t u=(lS t.1 t.2.1 u || lS t.2.1 t.2.2 u || lS t.2.2 t.1 u):=rfl
 rw [E]
 clear E
 have S : ∀ p q,lS p q u=(decide (fX p q u.1 <= 0) && decide (fX p q u.2.1 <= 0) && decide (fX p q u.2.2 <= 0)):=fun p q=>rfl
 refine bD hC (nf:=N311) rfl rfl ?_
 rw [bY,bY]
 simp [N311]
 refine aF Nat (fun i=>[(2,.ptr (bY t)),(3,.ptr (bY u)),(8,.int .i64 i)]) (fun i=>i <= 3 /\ (1 <= i -> lS t.1 t.2.1 u=false) /\ (2 <= i -> lS t.2.1 t.2.2 u=false) /\ (3 <= i -> lS t.2.2 t.1 u=false)) (fun i=>3 - i) 0 (by simp) (by simp [bY]) ?_
 rintro i ⟨hi,s1,s2,s3⟩
 rcases (by omega : i=0 \/ i=1 \/ i=2 \/ i=3) with rfl | rfl | rfl | rfl
 ·simp [bY,dj,dD,dE]
  refine ⟨aT (by decide +kernel),?_⟩
  refine af (kk t.1 t.2.1 u.1 t1 t2 u1) (.inl rfl) ?_
  simp
  refine av (fun h1=>?_) (fun h1=>?_) <;> simp at h1
  ·simp [h1]
   refine af (kk t.1 t.2.1 u.2.1 t1 t2 u2) (.inl rfl) ?_
   simp
   refine av (fun h2=>?_) (fun h2=>?_) <;> simp at h2
   ·simp [h2]
    refine af (kk t.1 t.2.1 u.2.2 t1 t2 u3) (.inl rfl) ?_
    simp
    refine av (fun h3=>?_) (fun h3=>?_) <;> simp at h3 <;> simp [h3]
    ·simp [S,h1,h2,h3]
    ·refine ⟨1,⟨by omega,fun _=>by simp only [S,Bool.and_eq_false_iff,decide_eq_false_iff_not];omega,fun h=>by omega,fun h=>by omega⟩,by omega,?_⟩ <;> simp [dj,dD,dE]
   ·simp [Int.not_le.2 h2]
    refine ⟨1,⟨by omega,fun _=>by simp only [S,Bool.and_eq_false_iff,decide_eq_false_iff_not];omega,fun h=>by omega,fun h=>by omega⟩,by omega,?_⟩ <;> simp [dj,dD,dE]
  ·simp [Int.not_le.2 h1]
   refine ⟨1,⟨by omega,fun _=>by simp only [S,Bool.and_eq_false_iff,decide_eq_false_iff_not];omega,fun h=>by omega,fun h=>by omega⟩,by omega,?_⟩ <;> simp [dj,dD,dE]
 ·simp [bY,dj,dD,dE]
  refine ⟨aT (by decide +kernel),?_⟩
  refine af (kk t.2.1 t.2.2 u.1 t2 t3 u1) (.inl rfl) ?_
  simp
  refine av (fun h1=>?_) (fun h1=>?_) <;> simp at h1
  ·simp [h1]
   refine af (kk t.2.1 t.2.2 u.2.1 t2 t3 u2) (.inl rfl) ?_
   simp
   refine av (fun h2=>?_) (fun h2=>?_) <;> simp at h2
   ·simp [h2]
    refine af (kk t.2.1 t.2.2 u.2.2 t2 t3 u3) (.inl rfl) ?_
    simp
    refine av (fun h3=>?_) (fun h3=>?_) <;> simp at h3 <;> simp [h3]
    ·simp [S,h1,h2,h3]
    ·refine ⟨2,⟨by omega,fun _=>s1 (by omega),fun _=>by simp only [S,Bool.and_eq_false_iff,decide_eq_false_iff_not];omega,fun h=>by omega⟩,by omega,?_⟩ <;> simp [dj,dD,dE]
   ·simp [Int.not_le.2 h2]
    refine ⟨2,⟨by omega,fun _=>s1 (by omega),fun _=>by simp only [S,Bool.and_eq_false_iff,decide_eq_false_iff_not];omega,fun h=>by omega⟩,by omega,?_⟩ <;> simp [dj,dD,dE]
  ·simp [Int.not_le.2 h1]
   refine ⟨2,⟨by omega,fun _=>s1 (by omega),fun _=>by simp only [S,Bool.and_eq_false_iff,decide_eq_false_iff_not];omega,fun h=>by omega⟩,by omega,?_⟩ <;> simp [dj,dD,dE]
 ·simp [bY,dj,dD,dE]
  refine ⟨aT (by decide +kernel),?_⟩
  refine af (kk t.2.2 t.1 u.1 t3 t1 u1) (.inl rfl) ?_
  simp
  refine av (fun h1=>?_) (fun h1=>?_) <;> simp at h1
  ·simp [h1]
   refine af (kk t.2.2 t.1 u.2.1 t3 t1 u2) (.inl rfl) ?_
   simp
   refine av (fun h2=>?_) (fun h2=>?_) <;> simp at h2
   ·simp [h2]
    refine af (kk t.2.2 t.1 u.2.2 t3 t1 u3) (.inl rfl) ?_
    simp
    refine av (fun h3=>?_) (fun h3=>?_) <;> simp at h3 <;> simp [h3]
    ·simp [S,h1,h2,h3]
    ·refine ⟨3,⟨by omega,fun _=>s1 (by omega),fun _=>s2 (by omega),fun _=>by simp only [S,Bool.and_eq_false_iff,decide_eq_false_iff_not];omega⟩,by omega,?_⟩ <;> simp [dj,dD,dE]
   ·simp [Int.not_le.2 h2]
    refine ⟨3,⟨by omega,fun _=>s1 (by omega),fun _=>s2 (by omega),fun _=>by simp only [S,Bool.and_eq_false_iff,decide_eq_false_iff_not];omega⟩,by omega,?_⟩ <;> simp [dj,dD,dE]
  ·simp [Int.not_le.2 h1]
   refine ⟨3,⟨by omega,fun _=>s1 (by omega),fun _=>s2 (by omega),fun _=>by simp only [S,Bool.and_eq_false_iff,decide_eq_false_iff_not];omega⟩,by omega,?_⟩ <;> simp [dj,dD,dE]
 ·simp [s1 (by omega),s2 (by omega),s3 (by omega)]
def Qm (t : Tri) : List (List D):=[ptD t.1,ptD t.2.1,ptD t.2.2]
end Go.Gv

namespace Go.Gv
def okc (m : Msh) (a b : Int) : Bool:=fy m.s.length a && decide (a ≠ b) && bm (spt m a.toNat)
def okF (m : Msh) (f : Fce) : Bool:=okc m f.a f.b && okc m f.b f.c && okc m f.c f.a && decide (0 <= f.k) && decide (f.k < 16)
def mtc (f g : Fce) (i k : Nat) : Bool:=decide (crn f i=crn g k) && decide (crn f (i + 1)=crn g (k + 1))
def jF (f g : Fce) : Bool:=(List.range 3).any fun i=>(List.range 3).any fun k=>mtc f g i k
theorem ne {m : Msh} {f : Fce} (h : okF m f=true) : inS m f=true:=by
 simp only [okF,okc,Bool.and_eq_true] at h
 simp only [inS,Bool.and_eq_true]
 exact ⟨⟨h.1.1.1.1.1.1,h.1.1.1.2.1.1⟩,h.1.1.2.1.1⟩
theorem cP {m : Msh} {f : Fce} (h : okF m f=true) : okT (aY m f)=true:=by
 simp only [okF,okc,Bool.and_eq_true] at h
 simp only [okT,aY,Bool.and_eq_true]
 exact ⟨⟨ng h.1.1.1.1.2,ng h.1.1.1.2.2⟩,ng h.1.1.2.2⟩
def EF (n : Nat) : UInt8:=UInt8.ofNat (48 + n % 10)
def yg (n : Nat) (out : List UInt8) : List UInt8:=if n < 10 then EF n::out else yg (n / 10) (EF n::out)
def Qb (n : Nat) (out : List UInt8) : List UInt8:=if n=0 then out else yg n out
variable {C : CC} (hC : aE prog C)
include hC
end Go.Gv

namespace Go.Gv
def lG (m : Msh) (i : Nat) : Pnt:=ptS (spt m i)
def fil (p : Nat -> Bool) (n : Nat) : List Nat:=(List.range n).filter p
theorem nQ (p : Nat -> Bool) : fil p 0=[]:=rfl
theorem cy {p : Nat -> Bool} {n : Nat} (h : p n=true) : fil p (n + 1)=fil p n++[n]:=by
 rw [fil,List.range_succ,List.filter_append]
 simp [h,fil]
theorem oT {p : Nat -> Bool} {n : Nat} (h : p n=false) : fil p (n + 1)=fil p n:=by
 rw [fil,List.range_succ,List.filter_append]
 simp [h,fil]
theorem aM (p : Nat -> Bool) (n : Nat) : (fil p n).length <= n:=by
 have:=List.length_filter_le p (List.range n)
 rw [fil]
 simpa using this
theorem dH {p : Nat -> Bool} {n i : Nat} (h : i ∈ fil p n) : i < n /\ p i=true:=by
 rw [fil,List.mem_filter,List.mem_range] at h
 exact h
theorem km {p : Nat -> Bool} {n : Nat} : fil p n=[] ↔ ∀ i,i < n -> p i=false:=by
 rw [fil,List.filter_eq_nil_iff]
 simp
def dO (m : Msh) (i : Nat) : Bool:=!bm (spt m i)
def cR (m : Msh) (i : Nat) : Bool:=bm (spt m i) && (List.range i).any fun k=>bm (spt m k) && decide (lG m k=lG m i)
def eB (m : Msh) (i : Nat) : Bool:=!okF m (fce m i)
def dc (m : Msh) (i : Nat) : Bool:=okF m (fce m i) && decide (lK (aY m (fce m i)) <= 0)
def aB (m : Msh) (i : Nat) : Bool:=okF m (fce m i) && decide (0 < lK (aY m (fce m i)))
def cr (m : Msh) (i : Nat) : Bool:=aB m i && (List.range i).any fun k=>aB m k && jF (fce m i) (fce m k)
def a6 (m : Msh) (i : Nat) : Bool:=aB m i && (List.range i).any fun k=>aB m k && ovT (aY m (fce m i)) (aY m (fce m k))
def LL (m : Msh) : List (List Nat):=[[],fil (dO m) m.s.length,fil (cR m) m.s.length,fil (eB m) m.f.length,fil (dc m) m.f.length,fil (cr m) m.f.length,fil (a6 m) m.f.length]
def dC (dec : Nat -> List UInt8) : Nat -> List (List Nat) -> List (Int × List UInt8)
 | _,[]=>[]
 | k,l::r=>(l.map fun i=>((k : Int),dec i))++dC dec (k + 1) r
def fnD (x : Int × List UInt8) : List D:=[.int .i64 x.1,.str x.2]
def cY (m : Msh) : Bool:=decide (m.s.length <= 2000) && decide (m.f.length <= 4000)
def aC (m : Msh) : Bool:=cY m && (LL m).all fun l=>decide (l=[])
theorem ol (dec : Nat -> List UInt8) : ∀ (k : Nat) (ls : List (List Nat)),dC dec k ls=[] ↔ (ls.all fun l=>decide (l=[]))=true
 | _,[]=>by simp [dC]
 | k,l::r=>by simp [dC,ol dec (k + 1) r]
def ia (m : Msh) : Nat -> List D
 | 0=>[]
 | i + 1=>if bm (spt m i) then .agg (ptD (lG m i))::ia m i else ia m i
def jz (m : Msh) : Nat -> List D
 | 0=>[]
 | i + 1=>if bm (spt m i) then .bool true::jz m i else jz m i
theorem oo (m : Msh) : ∀ i,(ia m i).length <= i
 | 0=>by simp [ia]
 | i + 1=>by
  have:=oo m i
  rw [ia]
  split <;> simp <;> omega
theorem yl (p q : Pnt) : eqD (.agg (ptD p)) (.agg (ptD q))=decide (q=p):=by
 obtain ⟨a,b⟩:=p
 obtain ⟨c,d⟩:=q
 simp [eqD,mM,mL,ptD]
 rw [Bool.eq_iff_iff]
 simp
 exact ⟨fun h=>⟨h.1.symm,h.2.symm⟩,fun h=>⟨h.1.symm,h.2.symm⟩⟩
theorem pt (m : Msh) (p : Pnt) : ∀ i,(cJ (ia m i) (jz m i) (.agg (ptD p))).getD (.bool false)=.bool ((List.range i).any fun k=>bm (spt m k) && decide (lG m k=p))
 | 0=>rfl
 | i + 1=>by
  rw [ia,jz,List.range_succ,List.any_append]
  by_cases h : bm (spt m i)=true
  ·rw [if_pos h,if_pos h,cJ,yl]
   by_cases h2 : lG m i=p
   ·simp [h,h2]
   ·simp [h2,pt m p i]
  ·rw [if_neg h,if_neg h,pt m p i]
   simp [h]
def dV (m : Msh) (i : Nat) : List Bool:=(List.range m.s.length).map fun j=>decide (j < i) && dO m j
theorem iI (m : Msh) (i : Nat) : (dV m i).length=m.s.length:=by simp [dV]
theorem qz (m : Msh) : dV m 0=List.replicate m.s.length false:=by
 refine List.ext_getElem (by simp [dV]) fun k h1 h2=>?_
 simp [dV]
theorem sK (m : Msh) {i : Nat} (h : i < m.s.length) : (dV m i).set i (dO m i)=dV m (i + 1):=by
 refine List.ext_getElem (by simp [dV]) fun k h1 h2=>?_
 rw [List.getElem_set]
 simp only [dV,List.getElem_map,List.getElem_range]
 by_cases e : i=k
 ·subst e;simp
 ·rw [if_neg e]
  by_cases e2 : k < i
  ·simp [e2,show k < i + 1 by omega]
  ·simp [e2,show ¬ k < i + 1 by omega]
theorem sI (m : Msh) {k : Nat} (h : k < m.s.length) : (dV m m.s.length)[k]'(by rw [iI];exact h)=dO m k:=by simp [dV,h]
variable {C : CC} (hC : aE prog C)
include hC
theorem sZ {b : Bool} {xs : List Tri} {g : Nat} {cs : List D} (p : Tri -> Bool) (hs : xs.length < 2 ^ 62) (hp : ∀ x ∈ xs,C g (.agg (bY x)::cs) (.bool (p x)) []) : C 328 [slx b (xs.map bY),.fn g cs] (.int .i64 (gw p xs)) []:=by
 refine bD hC (nf:=N328) rfl rfl ?_
 simp [N328]
 refine aF Nat (fun i=>[(0,slx b (xs.map bY)),(1,.fn g cs),(7,.int .i64 xs.length),(8,.int .i64 i)]) (fun i=>i <= xs.length /\ ∀ (j : Nat) (h : j < xs.length),j < i -> p xs[j]=false) (fun i=>xs.length - i) 0 (by simp) (by simp) ?_
 rintro i ⟨hi,hj⟩
 simp
 refine av (fun h=>?_) (fun h=>?_) <;> simp [h] <;> simp at h
 ·have hw : IntKind.wrap .i64 ((i : Int) + 1)=((i + 1 : Nat) : Int):=ao (by omega) (by omega)
  have hc:=hp _ (List.getElem_mem h)
  simp [h,List.getElem_map,bY] at hc ⊢
  refine af hc (.inl rfl) ?_
  simp
  refine av (fun h1=>?_) (fun h1=>?_) <;> simp [h1,hw]
  ·rw [fv hj h h1]
  ·refine ⟨i + 1,⟨by omega,fun j hl hjj=>?_⟩,by omega,by simp [bY]⟩
   rcases Nat.lt_succ_iff_lt_or_eq.1 hjj with h2 | rfl
   ·exact hj j hl h2
   ·exact h1
 ·rw [gP (fun j hl=>hj j hl (by omega))]
theorem cw {b : Bool} {xs : List Tri} {g : Nat} {cs : List D} (p : Tri -> Bool) (hs : xs.length < 2 ^ 62) (hp : ∀ x ∈ xs,C g (.agg (bY x)::cs) (.bool (p x)) []) : C 309 [slx b (xs.map bY),.fn g cs] (.bool (xs.any p)) []:=by
 refine bD hC (nf:=N309) rfl rfl ?_
 simp [N309]
 refine af (sZ hC p hs hp) (.inl rfl) ?_
 simp [kV]
theorem yb (m : Msh) (k : Int) (hn : m.s.length < 2 ^ 40) : C 306 [.int .i64 k,.ptr (cj m),.ptr [.sl ((dV m m.s.length).map fun b=>[.bool b])]] (.bool (!(fy m.s.length k && bm (spt m k.toNat)))) []:=by
 have E : fy m.s.length k=(decide (0 <= k) && decide (k < m.s.length)):=rfl
 refine bD hC (nf:=N306) rfl rfl ?_
 simp [N306,cj]
 refine av (fun c1=>?_) (fun c1=>?_) <;> simp at c1
 ·simp [c1]
  rw [E,decide_eq_false (by omega)];simp
 ·simp [Int.not_lt.2 c1]
  refine av (fun c2=>?_) (fun c2=>?_) <;> simp at c2
  ·simp [c2]
   rw [E,decide_eq_false (show ¬ k < m.s.length by omega)];simp
  ·have c3 : k.toNat < m.s.length:=by omega
   have c4:=sI m c3
   simp [Int.not_le.2 c2,c1,c3,iI]
   rw [c4,E,decide_eq_true c1,decide_eq_true c2]
   simp [dO]
theorem dU {t o : Tri} (ht : okT t=true) (ho : okT o=true) : C 310 [.agg (bY o),.ptr (bY t)] (.bool (ovT t o)) []:=by
 have k1:=xF hC ht ho
 have k2:=xF hC ho ht
 refine bD hC (nf:=N310) rfl rfl ?_
 rw [bY,bY] at k1 k2 ⊢
 simp [N310]
 refine af k1 (.inl rfl) ?_
 simp
 cases h1 : tH t o <;> simp [ovT,h1]
 refine af k2 (.inl rfl) ?_
 simp
 exact fun _=>h1
end Go.Gv
