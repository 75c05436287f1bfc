/-
  Texts of the proof: GvR, GvEsk, GvN, ItSD, GvU, GvW, GvX, GvX2, GvX3, GvX4, GvX5, K1, K3, H1, H2, H3, H4.
-/
import Derived.Test.YtelkdhkalifeiaaDoorX5
import Derived.SizedLaws
import Derived.ProofKit
import Derived.Test.YtelkdhkalifeiaaDoorX6
import Derived.Test.YtelkdhkalifeiaaDoorProg
import Derived.KernelRfl
import Derived.Shelf.Small.Bits
import Derived.Shelf.Strconv.Itoa0
import Derived.Shelf.Strconv.Itoa1
import Derived.Shelf.LaysM
import Derived.Shelf.Strconv.Itoa2
import Derived.Shelf.Strconv.Itoa3
import Derived.Shelf.Bits.Mul64
import Derived.Shelf.Slices.Equal
import Derived.Ground.Names2Prog
import Derived.Shelf.Slices.SearchI
import Derived.Shelf.Slices.Empties2
set_option linter.all false
namespace Go.Gv
open Go.RowKit Go.ChangeShapes Go.WideShapes Go.ChangeAt
inductive Sh where
 | int (k : IntKind)
 | bool
 | str
 | sl (row : List Sh)
mutual
def ic : Sh -> D -> Prop
 | .int k,d=>∃ n,d=.int k n /\ (Lit.int k n).wf=true
 | .bool,d=>∃ b,d=.bool b
 | .str,d=>∃ s,d=.str s /\ s.length < 140737488355328
 | .sl row,d=>∃ es,(d=.sl es \/ (d=.nils /\ es=[])) /\ es.length < 140737488355328 /\ ∀ e ∈ es,b7 row e
def b7 : List Sh -> List D -> Prop
 | [],ds=>ds=[]
 | s::ss,ds=>∃ d r,ds=d::r /\ ic s d /\ b7 ss r
end
theorem b7.length : ∀ {ss : List Sh} {ds : List D},b7 ss ds -> ds.length=ss.length
 | [],ds,h=>by simp only [b7] at h;simp [h]
 | s::ss,ds,h=>by
  simp only [b7] at h
  obtain ⟨d,r,rfl,_,h2⟩:=h
  simp [b7.length h2]
theorem b7.append : ∀ {ss ts : List Sh} {ds es : List D},b7 ss ds -> b7 ts es -> b7 (ss++ts) (ds++es)
 | [],ts,ds,es,h,h'=>by simp only [b7] at h;subst h;exact h'
 | s::ss,ts,ds,es,h,h'=>by
  simp only [b7] at h
  obtain ⟨d,r,rfl,h1,h2⟩:=h
  exact ⟨d,r++es,rfl,h1,b7.append h2 h'⟩
def om (P : Program) (rec : TypeId -> Option (List Sh)) : List Field -> Nat -> Option (List Sh)
 | [],_=>some []
 | f::fs,off=>if f.offset=off then (match rec f.type with
   | some l=>if l.length=P.cellsOf f.type then (match om P rec fs (off + l.length) with
    | some r=>some (l++r)
    | none=>none) else none
   | none=>none) else none
def qj (P : Program) : Nat -> TypeId -> Option (List Sh)
 | 0,_=>none
 | n + 1,t=>match P.underlying t with
  | some .bool=>some [.bool]
  | some (.int k)=>some [.int k]
  | some .string=>some [.str]
  | some (.slice e)=>(match qj P n e with
   | some l=>if l.length=P.cellsOf e /\ 1 <= P.bytesOf e then some [.sl l] else none
   | none=>none)
  | some (.struct fs)=>(match om P (qj P n) fs.toList 0 with
   | some l=>if l.length=P.cellsOf t then some l else none
   | none=>none)
  | _=>none
section
variable {H : Type} {enc : TypeId × Value -> H} {P : Program} {F : Fid} {w : World} {sp : Nat -> Bool}
abbrev pi (w : World) : Mem:=fun p=>w.cell? p
def uc (enc : TypeId × Value -> H) (P : Program) (F : Fid) (w : World) (sp : Nat -> Bool) (n : Nat) (t : TypeId) (shs : List Sh) : Prop :=
 ∀ (cs : List Value) (d : DataW H) (ps : List MemPlace),DataW.trod enc P w 0 sp true n t cs=some (d,ps) -> (d.weights P t).all (· <= reachBytes)=true -> ∃ ds,b7 shs ds /\ aw F (pi w) ds cs
theorem iE {α β : Type} {f : α -> Option β} {x : α} {l : List α} {ys : List β} (h : (x::l).mapM f=some ys) : ∃ y r,f x=some y /\ l.mapM f=some r /\ ys=y::r:=by
 rw [List.mapM_cons] at h
 cases hx : f x with
 | none=>rw [hx] at h;cases h
 | some y =>
  cases hl : l.mapM f with
  | none=>rw [hx,hl] at h;cases h
  | some r =>
   rw [hx,hl] at h
   exact ⟨y,r,rfl,rfl,by cases h;rfl⟩
theorem mL {n m : Nat} (ih : ∀ t shs,qj P m t=some shs -> uc enc P F w sp n t shs) {cs : List Value} : ∀ (fs : List Field) (off : Nat) (xs : List (DataW H × List MemPlace)) (shs : List Sh),
  (fs.mapM fun f=>DataW.trod enc P w 0 sp true n f.type ((cs.drop f.offset).take (P.cellsOf f.type)))=some xs -> om P (qj P m) fs off=some shs -> (DataW.weightsEach P (fs.map (·.type)) (xs.map (·.1))).all (· <= reachBytes)=true -> cs.length=off + shs.length ->
   ∃ ds,b7 shs ds /\ aw F (pi w) ds (cs.drop off)
 | [],off,xs,shs,_,h2,_,h4=>by
  cases h2
  exact ⟨[],rfl,by simp only [aw];exact List.drop_of_length_le (by simpa using Nat.le_of_eq h4)⟩
 | f::fs,off,xs,shs,h1,h2,h3,h4=>by
  obtain ⟨y,r,e1,e2,rfl⟩:=iE h1
  simp only [om] at h2
  split at h2
  case isFalse=>cases h2
  rename_i ho
  split at h2
  case h_2=>cases h2
  rename_i l hl
  split at h2
  case isFalse=>cases h2
  rename_i hlen
  split at h2
  case h_2=>cases h2
  rename_i rs hr
  cases h2
  simp only [List.map_cons,DataW.weightsEach,List.all_append,Bool.and_eq_true] at h3
  rw [List.length_append] at h4
  obtain ⟨ds1,g1,g2⟩:=ih f.type l hl _ y.1 y.2 e1 h3.1
  obtain ⟨ds2,g3,g4⟩:=mL ih fs (off + l.length) r rs e2 hr h3.2 (by omega)
  refine ⟨ds1++ds2,g1.append g3,?_⟩
  rw [ho,<- hlen] at g2
  have:=g2.append g4
  rwa [<- List.drop_drop,List.take_append_drop] at this
theorem mM {n k : Nat} {e : TypeId} {l : List Sh} {a : Addr} (hl : l.length=k) (ih : uc enc P F w sp n e l) : ∀ (c s : Nat) (xs : List (DataW H × List MemPlace)),
  ((List.range' s c).mapM fun i=>(w.cells? 0 (a.add (i * k)) k).bind (DataW.trod enc P w 0 sp true n e))=some xs -> (DataW.weightsAll P e (xs.map (·.1))).all (· <= reachBytes)=true ->
   ∃ (es : List (List D)) (vs : List Value),es.length=c /\ xs.length=c /\ (∀ r ∈ es,b7 l r) /\ bf F (pi w) es vs /\ ∀ j v,vs[j]? = some v -> w.cell? (a.add (s * k + j))=some v
 | 0,s,xs,h,_=>by
  cases h
  exact ⟨[],[],rfl,rfl,by simp,by simp [bf],fun j v h=>by simp at h⟩
 | c + 1,s,xs,h,hw=>by
  rw [List.range'_succ] at h
  obtain ⟨y,r,e1,e2,rfl⟩:=iE h
  rw [Option.bind_eq_some_iff] at e1
  obtain ⟨row,c1,c2⟩:=e1
  simp only [List.map_cons,DataW.weightsAll,List.all_append,Bool.and_eq_true] at hw
  obtain ⟨ds,g1,g2⟩:=ih row y.1 y.2 c2 hw.1
  obtain ⟨es,vs,h1,h2,h3,h4,h5⟩:=mM hl ih c (s + 1) r e2 hw.2
  have hrow:=World.cells?_some c1
  refine ⟨ds::es,row++vs,by simp [h1],by simp [h2],?_,⟨row,vs,rfl,g2,h4⟩,fun j v hj=>?_⟩
  ·intro x hx
   rcases List.mem_cons.1 hx with rfl | hx
   ·exact g1
   ·exact h3 x hx
  ·have hrl : row.length=k:=by rw [g2.length,g1.length,hl]
   have addadd : ∀ i j,(a.add i).add j=a.add (i + j):=fun i j=>by
    unfold Addr.add
    by_cases hi : i=0 <;> by_cases hj : j=0 <;> simp [hi,hj,Nat.add_assoc]
   by_cases hjk : j < k
   ·rw [List.getElem?_append_left (by omega)] at hj
    have:=hrow.2.2 j hjk
    rw [hj,addadd] at this
    exact this
   ·rw [List.getElem?_append_right (by omega)] at hj
    have:=h5 (j - row.length) v hj
    rw [hrl] at this
    rwa [show (s + 1) * k + (j - k)=s * k + j by rw [Nat.succ_mul];omega] at this
theorem o4 : ∀ (m : Nat) (n : Nat) (t : TypeId) (shs : List Sh),qj P m t=some shs -> uc enc P F w sp n t shs
 | 0,_,_,_,h=>by cases h
 | m + 1,0,t,shs,_=>fun cs d ps h _=>by simp [DataW.trod] at h
 | m + 1,n + 1,t,shs,h=>by
  intro cs d ps ht hw
  rw [qj] at h
  split at h
  ·rename_i hu
   cases h
   unfold DataW.trod at ht;rw [hu] at ht
   split at ht <;> try (simp_all;done)
   rename_i b _
   refine ⟨[.bool b],⟨_,_,rfl,⟨b,rfl⟩,rfl⟩,by simp [aw,ae]⟩
  ·rename_i k hu
   cases h
   unfold DataW.trod at ht;rw [hu] at ht
   split at ht <;> try (simp_all;done)
   rename_i k1 k2 x h1
   simp only [Option.some.injEq,TypeDesc.int.injEq] at h1
   subst h1
   split at ht
   ·rename_i hk
    obtain ⟨rfl,hwf⟩:=hk
    exact ⟨[.int _ x],⟨_,_,rfl,⟨x,rfl,hwf⟩,rfl⟩,by simp [aw,ae]⟩
   ·cases ht
  ·rename_i hu
   cases h
   unfold DataW.trod at ht;rw [hu] at ht
   split at ht <;> try (simp_all;done)
   rename_i s _
   split at ht
   ·rename_i hs
    simp only [Option.some.injEq,Prod.mk.injEq] at ht
    obtain ⟨rfl,rfl⟩:=ht
    simp only [DataW.weights,List.all_cons,List.all_nil,Bool.and_true,decide_eq_true_eq] at hw
    refine ⟨[.str s.data.toList],⟨_,_,rfl,⟨_,rfl,?_⟩,rfl⟩,?_⟩
    ·have:=reachBytes_lt;omega
    ·obtain ⟨s⟩:=s
     simp [aw,ae]
   ·cases ht
  ·rename_i e hu
   split at h
   case h_2=>cases h
   rename_i l hl
   split at h
   case isFalse=>cases h
   rename_i hk
   cases h
   unfold DataW.trod at ht;rw [hu] at ht
   split at ht <;> try (simp_all;done)
   ·refine ⟨[.nils],⟨_,_,rfl,⟨[],.inr ⟨rfl,rfl⟩,by simp,by simp⟩,rfl⟩,by simp [aw,ae]⟩
   ·rename_i e' a len cap h1
    simp only [Option.some.injEq,TypeDesc.slice.injEq] at h1
    subst h1
    simp only at ht
    split at ht
    case isFalse=>cases ht
    rename_i hb
    rw [Option.bind_eq_some_iff] at ht
    obtain ⟨xs,e1,e2⟩:=ht
    rw [Option.map_eq_some_iff] at e2
    obtain ⟨rest,e3,e4⟩:=e2
    simp only [Prod.mk.injEq] at e4
    obtain ⟨rfl,rfl⟩:=e4
    simp only [DataW.weights,hu,List.all_cons,List.all_append,Bool.and_eq_true,decide_eq_true_eq] at hw
    obtain ⟨w1,w2,w3⟩:=hw
    rw [List.range_eq_range'] at e1
    obtain ⟨es,vs,g1,g2,g3,g4,g5⟩:=mM (F:=F) hk.1 (o4 m n e l hl) len 0 xs e1 w2
    refine ⟨[.sl es],⟨_,_,rfl,⟨es,.inl rfl,?_,g3⟩,rfl⟩,?_⟩
    ·have h5:=reachBytes_lt
     have h6 : es.length * 1 <= (xs.length + rest.length) * P.bytesOf e:=Nat.mul_le_mul (by omega) hk.2
     simp only [List.length_map] at w1
     omega
    ·simp only [aw]
     refine ⟨_,_,rfl,?_,rfl⟩
     simp only [ae]
     refine ⟨some a,cap,vs,P.cellsOf e,by rw [g1],by omega,g4,fun r hr=>by rw [(g3 r hr).length,hk.1],fun _=>⟨a,rfl,fun j v hj=>?_⟩⟩
     have:=g5 j v hj
     simpa using this
  ·rename_i fs hu
   split at h
   case h_2=>cases h
   rename_i l hl
   split at h
   case isFalse=>cases h
   rename_i hk
   cases h
   unfold DataW.trod at ht;rw [hu] at ht
   split at ht <;> try (simp_all;done)
   rename_i fs' h1
   simp only [Option.some.injEq,TypeDesc.struct.injEq] at h1
   subst h1
   split at ht
   case isFalse=>cases ht
   rename_i hc
   rw [Option.map_eq_some_iff] at ht
   obtain ⟨xs,e1,e2⟩:=ht
   simp only [Prod.mk.injEq] at e2
   obtain ⟨rfl,rfl⟩:=e2
   simp only [DataW.weights,hu] at hw
   obtain ⟨ds,g1,g2⟩:=mL (F:=F) (n:=n) (fun t shs h=>o4 m n t shs h) fs.toList 0 xs _ e1 hl hw (by omega)
   exact ⟨ds,g1,by simpa using g2⟩
  ·cases h
theorem qt {t : TypeId} {fs : Array Field} {m : Nat} {shs : List Sh} {base : Nat} {v : Value} {d : DataW H} {ps : List MemPlace} (hu : P.underlying t=some (.struct fs)) (hsh : qj P m t=some shs) (hv : Value.okWide P w .any base t v) (h : DataW.Trod enc P w 0 sp true t v d ps) (hw : (d.weights P t).all (· <= reachBytes)=true) :
  ∃ ds,b7 shs ds /\ ae F (pi w) (.agg ds) v:=by
 obtain ⟨cs,rfl,_⟩:=okWide_struct hu hv
 obtain ⟨n,hn⟩:=h
 obtain ⟨ds,g1,g2⟩:=o4 (F:=F) m n t shs hsh _ d ps hn hw
 exact ⟨ds,g1,by simp only [ae];exact ⟨cs.toList,by simp,g2⟩⟩
end
theorem mR {α : Type} {f : α -> List D} {es : List (List D)} (h : ∀ e ∈ es,∃ x,e=f x) : ∃ xs : List α,es=xs.map f:=by
 induction es with
 | nil=>exact ⟨[],rfl⟩
 | cons e es ih =>
  obtain ⟨x,rfl⟩:=h e (by simp)
  obtain ⟨xs,rfl⟩:=ih (fun e he=>h e (by simp [he]))
  exact ⟨x::xs,rfl⟩
end Go.Gv
namespace Go.Gv
def A5 (P : Program) (F : Fid) (prog : Nat -> Option aL) (tbl : List (Nat × Nat)) : Bool:=tbl.all fun p=>mB P p.2 && match prog p.1 with
 | some nf=>dK P F p.2 nf
 | none=>true
theorem tr {tbl : List (Nat × Nat)} {g f : Nat} (h : tbl.lookup g=some f) : (g,f) ∈ tbl:=by
 induction tbl with
 | nil=>cases h
 | cons p r ih =>
  obtain ⟨a,b⟩:=p
  rw [List.lookup_cons] at h
  cases e : g == a with
  | true=>rw [e] at h;simp at e h;subst e;subst h;simp
  | false=>rw [e] at h;simp [ih h]
theorem seat {P : Program} {tbl : List (Nat × Nat)} {ty : Nat -> TypeId} {prog : Nat -> Option aL} (hm : P.follows .mixedOrders=true) (hl : laidOutB P=true) (h : A5 P ⟨P,fun g=>tbl.lookup g,ty,fun _=>.nilIface⟩ prog tbl=true) :
  bl P ⟨P,fun g=>tbl.lookup g,ty,fun _=>.nilIface⟩ (iK P ⟨P,fun g=>tbl.lookup g,ty,fun _=>.nilIface⟩) /\ aB prog (iK P ⟨P,fun g=>tbl.lookup g,ty,fun _=>.nilIface⟩):=by
 have key : ∀ g f,tbl.lookup g=some f -> mB P f=true /\ ∀ nf,prog g=some nf -> dK P ⟨P,fun g=>tbl.lookup g,ty,fun _=>.nilIface⟩ f nf=true:=fun g f e=>by
  have:=List.all_eq_true.1 h _ (tr e)
  simp only [Bool.and_eq_true] at this
  refine ⟨this.1,fun nf hnf=>?_⟩
  have:=this.2
  rw [hnf] at this
  exact this
 exact qe hm (fun g f e=>(key g f e).1) hl rfl (fun g f nf e hp=>(key g f e).2 nf hp)
end Go.Gv

namespace Go.Gv
open Go.Proofs
def TrydTbl : List (Nat × Nat) := [(0, 2), (840, 6), (241, 8), (242, 9), (243, 10), (244, 11), (245, 12), (19, 15), (234, 17), (221, 18), (220, 19), (223, 21), (279, 23), (842, 25), (213, 26), (843, 27), (844, 28), (280, 30), (273, 37), (261, 38), (253, 39), (262, 40), (11, 41), (303, 44), (314, 45), (99, 46), (846, 47), (327, 48), (271, 49), (272, 50), (254, 51), (411, 52), (374, 53), (329, 55), (331, 56), (332, 57), (42, 58), (315, 59), (316, 60), (317, 61), (318, 62), (302, 72), (304, 73), (305, 74), (306, 75), (307, 76), (308, 77), (298, 78), (309, 79), (310, 80), (311, 81), (127, 82), (35, 83), (313, 86), (330, 87), (105, 88), (103, 89), (106, 90), (107, 91), (108, 92), (301, 93), (256, 94), (299, 95), (333, 98), (334, 99), (335, 100), (328, 106), (91, 108), (112, 109), (113, 110), (104, 113), (268, 114), (263, 115), (111, 125), (339, 126), (92, 128), (110, 129), (264, 130), (225, 131), (102, 141), (266, 142), (267, 143), (340, 167), (341, 168), (342, 169), (343, 170)]
def TrydTys : List (Nat × Nat) := [(1, 4), (2, 3), (20, 103), (3, 131), (4, 114)]
set_option maxRecDepth 100000 in
theorem Tryd_all : A5 Tryd.prog ⟨Tryd.prog, fun g => TrydTbl.lookup g, fun t => (TrydTys.lookup t).getD 0, fun _ => .nilIface⟩ prog TrydTbl = true := by kernel_rfl
end Go.Gv

namespace Go.Gv
open Go.RowKit
theorem rF {P : Program} {F : Fid} {g : Nat} {ds : List D} {d : D} (h : ∀ f,F g=some f -> ∀ (M : Mem) (w : World) (vs : List Value),aw F M ds vs -> ∃ v,ae F M d v /\ Calls P f vs.toArray w (fun e w'=>e=.returned v /\ w'=w)) : iK P F g ds d []:=by
 refine ⟨trivial,fun f hf M w vs hh r=>?_⟩
 obtain ⟨v,hv,hc⟩:=h f hf M w vs r
 refine hc.mono ?_
 rintro e w' ⟨rfl,rfl⟩
 exact ⟨v,M,rfl,Bel.refl _,Mem.le_refl _,fun p h1 h2=>absurd h1 h2,hh,hv⟩
end Go.Gv

namespace Go.Proofs
open Go.Shelf
def Tryd.lays171_ren : Go.Shelf.Ren := ⟨fun | 171 => 82 | 243 => 107 | 246 => 127 | 283 => 137 | 284 => 138 | 285 => 139 | 286 => 140 | 129 => 125 | 317 => 145 | 318 => 146 | 319 => 147 | 320 => 148 | 337 => 149 | 338 => 150 | n => n, fun | 3 => 3 | 9 => 9 | 2 => 2 | 4 => 4 | 171 => 196 | 0 => 0 | 53 => 143 | 37 => 162 | 5 => 5 | 173 => 198 | 212 => 206 | 51 => 182 | 20 => 20 | 213 => 207 | 46 => 153 | 232 => 208 | 233 => 209 | n => n, fun | 17 => 2 | 18 => 3 | 19 => 4 | n => n⟩
theorem Tryd.lays171 : Go.Proofs.Lays.n171 Tryd.prog Tryd.lays171_ren := {
 mixed := by kernel_rfl
 f129 := Tryd.func125.trans (congrArg some (by kernel_rfl))
 f171 := Tryd.func82.trans (congrArg some (by kernel_rfl))
 f243 := Tryd.func107.trans (congrArg some (by kernel_rfl))
 f246 := Tryd.func127.trans (congrArg some (by kernel_rfl))
 f283 := Tryd.func137.trans (congrArg some (by kernel_rfl))
 f284 := Tryd.func138.trans (congrArg some (by kernel_rfl))
 f285 := Tryd.func139.trans (congrArg some (by kernel_rfl))
 f286 := Tryd.func140.trans (congrArg some (by kernel_rfl))
 f317 := Tryd.func145.trans (congrArg some (by kernel_rfl))
 f318 := Tryd.func146.trans (congrArg some (by kernel_rfl))
 f319 := Tryd.func147.trans (congrArg some (by kernel_rfl))
 f320 := Tryd.func148.trans (congrArg some (by kernel_rfl))
 f337 := Tryd.func149.trans (congrArg some (by kernel_rfl))
 f338 := Tryd.func150.trans (congrArg some (by kernel_rfl))
 t0 := Tryd.underlying0
 a0 := Tryd.isAgg0
 z0 := Tryd.sizeOf0
 v0 := Tryd.zeroValue0
 t2 := Tryd.underlying2
 a2 := Tryd.isAgg2
 z2 := Tryd.sizeOf2
 v2 := Tryd.zeroValue2
 t3 := Tryd.underlying3
 a3 := Tryd.isAgg3
 z3 := Tryd.sizeOf3
 v3 := Tryd.zeroValue3
 t4 := Tryd.underlying4
 a4 := Tryd.isAgg4
 z4 := Tryd.sizeOf4
 v4 := Tryd.zeroValue4
 t5 := Tryd.underlying5
 a5 := Tryd.isAgg5
 z5 := Tryd.sizeOf5
 v5 := Tryd.zeroValue5
 t9 := Tryd.underlying9
 a9 := Tryd.isAgg9
 z9 := Tryd.sizeOf9
 v9 := Tryd.zeroValue9
 t20 := Tryd.underlying20
 a20 := Tryd.isAgg20
 z20 := Tryd.sizeOf20
 v20 := Tryd.zeroValue20
 t37 := Tryd.underlying162
 a37 := Tryd.isAgg162
 z37 := Tryd.sizeOf162
 v37 := Tryd.zeroValue162
 t46 := Tryd.underlying153
 a46 := Tryd.isAgg153
 z46 := Tryd.sizeOf153
 v46 := Tryd.zeroValue153
 t51 := Tryd.underlying182
 a51 := Tryd.isAgg182
 z51 := Tryd.sizeOf182
 v51 := Tryd.zeroValue182
 t53 := Tryd.underlying143
 a53 := Tryd.isAgg143
 z53 := Tryd.sizeOf143
 v53 := Tryd.zeroValue143
 t171 := Tryd.underlying196
 a171 := Tryd.isAgg196
 z171 := Tryd.sizeOf196
 v171 := Tryd.zeroValue196
 t173 := Tryd.underlying198
 a173 := Tryd.isAgg198
 z173 := Tryd.sizeOf198
 v173 := Tryd.zeroValue198
 t212 := Tryd.underlying206
 a212 := Tryd.isAgg206
 z212 := Tryd.sizeOf206
 v212 := Tryd.zeroValue206
 t213 := Tryd.underlying207
 a213 := Tryd.isAgg207
 z213 := Tryd.sizeOf207
 t232 := Tryd.underlying208
 a232 := Tryd.isAgg208
 z232 := Tryd.sizeOf208
 v232 := Tryd.zeroValue208
 t233 := Tryd.underlying209
 a233 := Tryd.isAgg209
 z233 := Tryd.sizeOf209
 v233 := Tryd.zeroValue209
 g17 := by kernel_rfl
 g18 := by kernel_rfl
 g19 := by kernel_rfl }
open Go.RowKit Go.Sort Go.Lib in
theorem Tryd.strconv_Itoa_small (i : Nat) (hi : i < 100) (w : World) :
  Calls Tryd.prog 82 #[.int .i64 i] w fun e w' => e = .returned (.string ⟨(Lib.decDigits i).toArray⟩) /\ w' = w := Any.strconv_Itoa_small Tryd.lays171 i hi w
end Go.Proofs

namespace Go.Gv
structure Tag {α : Type _} (x : α) : Type where
@[simp] theorem PH : isV (.any)=true:=_root_.id rfl
@[simp] theorem PN {k n} : isV (.int k n)=true:=_root_.id rfl
@[simp] theorem Ke {b} : isV (.bool b)=true:=_root_.id rfl
@[simp] theorem PW {s} : isV (.str s)=true:=_root_.id rfl
@[simp] theorem Kf : isV (.nilp)=true:=_root_.id rfl
@[simp] theorem Kg : isV (.nils)=true:=_root_.id rfl
@[simp] theorem PF {ds} : isV (.agg ds)=true:=_root_.id rfl
@[simp] theorem PY {ds} : isV (.tup ds)=true:=_root_.id rfl
@[simp] theorem Sv {es} : isV (.sl es)=true:=_root_.id rfl
@[simp] theorem PQ {ds} : isV (.ptr ds)=true:=_root_.id rfl
@[simp] theorem Ss {g ds} : isV (.fn g ds)=true:=_root_.id rfl
@[simp] theorem PP {sz es} : isV (.own sz es)=false:=_root_.id rfl
@[simp] theorem PI {sz es} : isV (.blk sz es)=false:=_root_.id rfl
@[simp] theorem Su {kt et ks vs} : isV (.mp kt et ks vs)=false:=_root_.id rfl
@[simp] theorem PO {b} : isV (.mrf b)=false:=_root_.id rfl
@[simp] theorem PS {p k n} : isV (.ref p k n)=false:=_root_.id rfl
@[simp] theorem PE {p i off} : isV (.adr p i off)=false:=_root_.id rfl
@[simp] theorem PG {ds} : isV (.agx ds)=false:=_root_.id rfl
@[simp] theorem PX {ds} : isV (.tpx ds)=false:=_root_.id rfl
@[simp] theorem PR {ds} : isV (.ptx ds)=false:=_root_.id rfl
@[simp] theorem PT {n sz ds} : isV (.rfx n sz ds)=false:=_root_.id rfl
@[simp] theorem PJ {g ds} : isV (.fnx g ds)=false:=_root_.id rfl
@[simp] theorem PL {T p i off} : isV (.ifa T p i off)=false:=_root_.id rfl
@[simp] theorem PM {T n} : isV (.ifi T n)=true:=_root_.id rfl
@[simp] theorem PU {k es} : isV (.slv k es)=true:=_root_.id rfl
@[simp] theorem PK {g ds cs} : isV (.fny g ds cs)=false:=_root_.id rfl
@[simp] theorem Og : isK (.any)=false:=_root_.id rfl
@[simp] theorem On {k n} : isK (.int k n)=true:=_root_.id rfl
@[simp] theorem JY {b} : isK (.bool b)=true:=_root_.id rfl
@[simp] theorem Oz {s} : isK (.str s)=true:=_root_.id rfl
@[simp] theorem JZ : isK (.nilp)=true:=_root_.id rfl
@[simp] theorem J0 : isK (.nils)=true:=_root_.id rfl
@[simp] theorem Od {ds} : isK (.agg ds)=true:=_root_.id rfl
@[simp] theorem OB {ds} : isK (.tup ds)=true:=_root_.id rfl
@[simp] theorem Sd {es} : isK (.sl es)=true:=_root_.id rfl
@[simp] theorem Ot {ds} : isK (.ptr ds)=true:=_root_.id rfl
@[simp] theorem Sb {g ds} : isK (.fn g ds)=true:=_root_.id rfl
@[simp] theorem Oq {sz es} : isK (.own sz es)=false:=_root_.id rfl
@[simp] theorem Oh {sz es} : isK (.blk sz es)=false:=_root_.id rfl
@[simp] theorem Sc {kt et ks vs} : isK (.mp kt et ks vs)=false:=_root_.id rfl
@[simp] theorem Oo {b} : isK (.mrf b)=false:=_root_.id rfl
@[simp] theorem Ov {p k n} : isK (.ref p k n)=false:=_root_.id rfl
@[simp] theorem Oc {p i off} : isK (.adr p i off)=false:=_root_.id rfl
@[simp] theorem Oe {ds} : isK (.agx ds)=false:=_root_.id rfl
@[simp] theorem OA {ds} : isK (.tpx ds)=false:=_root_.id rfl
@[simp] theorem Ou {ds} : isK (.ptx ds)=false:=_root_.id rfl
@[simp] theorem Ow {n sz ds} : isK (.rfx n sz ds)=false:=_root_.id rfl
@[simp] theorem Oi {g ds} : isK (.fnx g ds)=false:=_root_.id rfl
@[simp] theorem Ol {T p i off} : isK (.ifa T p i off)=false:=_root_.id rfl
@[simp] theorem Om {T n} : isK (.ifi T n)=true:=_root_.id rfl
@[simp] theorem Ox {k es} : isK (.slv k es)=true:=_root_.id rfl
@[simp] theorem Oj {g ds cs} : isK (.fny g ds cs)=false:=_root_.id rfl
@[simp] theorem O0 : isP (.any)=true:=_root_.id rfl
@[simp] theorem O6 {k n} : isP (.int k n)=true:=_root_.id rfl
@[simp] theorem J8 {b} : isP (.bool b)=true:=_root_.id rfl
@[simp] theorem Pg {s} : isP (.str s)=true:=_root_.id rfl
@[simp] theorem J9 : isP (.nilp)=true:=_root_.id rfl
@[simp] theorem Ka : isP (.nils)=true:=_root_.id rfl
@[simp] theorem OY {ds} : isP (.agg ds)=true:=_root_.id rfl
@[simp] theorem Pi {ds} : isP (.tup ds)=true:=_root_.id rfl
@[simp] theorem Sm {es} : isP (.sl es)=true:=_root_.id rfl
@[simp] theorem O9 {ds} : isP (.ptr ds)=true:=_root_.id rfl
@[simp] theorem Sk {g ds} : isP (.fn g ds)=true:=_root_.id rfl
@[simp] theorem O8 {sz es} : isP (.own sz es)=false:=_root_.id rfl
@[simp] theorem O1 {sz es} : isP (.blk sz es)=false:=_root_.id rfl
@[simp] theorem Sl {kt et ks vs} : isP (.mp kt et ks vs)=false:=_root_.id rfl
@[simp] theorem O7 {b} : isP (.mrf b)=true:=_root_.id rfl
@[simp] theorem Pc {p k n} : isP (.ref p k n)=true:=_root_.id rfl
@[simp] theorem OX {p i off} : isP (.adr p i off)=true:=_root_.id rfl
@[simp] theorem OZ {ds} : isP (.agx ds)=false:=_root_.id rfl
@[simp] theorem Ph {ds} : isP (.tpx ds)=false:=_root_.id rfl
@[simp] theorem Pb {ds} : isP (.ptx ds)=false:=_root_.id rfl
@[simp] theorem Pd {n sz ds} : isP (.rfx n sz ds)=false:=_root_.id rfl
@[simp] theorem O2 {g ds} : isP (.fnx g ds)=false:=_root_.id rfl
@[simp] theorem O4 {T p i off} : isP (.ifa T p i off)=true:=_root_.id rfl
@[simp] theorem O5 {T n} : isP (.ifi T n)=true:=_root_.id rfl
@[simp] theorem Pe {k es} : isP (.slv k es)=true:=_root_.id rfl
@[simp] theorem O3 {g ds cs} : isP (.fny g ds cs)=false:=_root_.id rfl
@[simp] theorem Pm : isS (.any)=true:=_root_.id rfl
@[simp] theorem Sr : isV (.bb)=true:=_root_.id rfl
@[simp] theorem Sn : isS (.bb)=true:=_root_.id rfl
@[simp] theorem Sj : isP (.bb)=true:=_root_.id rfl
@[simp] theorem R4 : isB (.bb)=false:=_root_.id rfl
@[simp] theorem II : cj (.bb)=false:=_root_.id rfl
@[simp] theorem F7 : bj (.bb)=[]:=_root_.id rfl
@[simp] theorem Ck : aD (.bb)=[]:=_root_.id rfl
@[simp] theorem Ps {k n} : isS (.int k n)=true:=_root_.id rfl
@[simp] theorem Kb {b} : isS (.bool b)=true:=_root_.id rfl
@[simp] theorem PB {s} : isS (.str s)=true:=_root_.id rfl
@[simp] theorem Kc : isS (.nilp)=true:=_root_.id rfl
@[simp] theorem Kd : isS (.nils)=true:=_root_.id rfl
@[simp] theorem Pk {ds} : isS (.agg ds)=true:=_root_.id rfl
@[simp] theorem PD {ds} : isS (.tup ds)=true:=_root_.id rfl
@[simp] theorem Sq {es} : isS (.sl es)=true:=_root_.id rfl
@[simp] theorem Pv {ds} : isS (.ptr ds)=true:=_root_.id rfl
@[simp] theorem So {g ds} : isS (.fn g ds)=true:=_root_.id rfl
@[simp] theorem Pu {sz es} : isS (.own sz es)=false:=_root_.id rfl
@[simp] theorem Pn {sz es} : isS (.blk sz es)=false:=_root_.id rfl
@[simp] theorem Sp {kt et ks vs} : isS (.mp kt et ks vs)=false:=_root_.id rfl
@[simp] theorem Pt {b} : isS (.mrf b)=true:=_root_.id rfl
@[simp] theorem Px {p k n} : isS (.ref p k n)=true:=_root_.id rfl
@[simp] theorem Pj {p i off} : isS (.adr p i off)=true:=_root_.id rfl
@[simp] theorem Pl {ds} : isS (.agx ds)=ds.all isP:=_root_.id rfl
@[simp] theorem PC {ds} : isS (.tpx ds)=ds.all isP:=_root_.id rfl
@[simp] theorem Pw {ds} : isS (.ptx ds)=ds.all isP:=_root_.id rfl
@[simp] theorem Py {n sz ds} : isS (.rfx n sz ds)=ds.all isP:=_root_.id rfl
@[simp] theorem Po {g ds} : isS (.fnx g ds)=ds.all isP:=_root_.id rfl
@[simp] theorem Pq {T p i off} : isS (.ifa T p i off)=true:=_root_.id rfl
@[simp] theorem Pr {T n} : isS (.ifi T n)=true:=_root_.id rfl
@[simp] theorem Pz {k es} : isS (.slv k es)=true:=_root_.id rfl
@[simp] theorem Pp {g ds cs} : isS (.fny g ds cs)=(ds.all isP && cs.all isP):=_root_.id rfl
@[simp] theorem IT : ay (.any)=false:=_root_.id rfl
@[simp] theorem IZ {k n} : ay (.int k n)=true:=_root_.id rfl
@[simp] theorem Fh {b} : ay (.bool b)=true:=_root_.id rfl
@[simp] theorem Je {s} : ay (.str s)=true:=_root_.id rfl
@[simp] theorem Fi : ay (.nilp)=true:=_root_.id rfl
@[simp] theorem Fj : ay (.nils)=true:=_root_.id rfl
@[simp] theorem IR {ds} : ay (.agg ds)=false:=_root_.id rfl
@[simp] theorem Jg {ds} : ay (.tup ds)=false:=_root_.id rfl
@[simp] theorem NL {es} : ay (.sl es)=true:=_root_.id rfl
@[simp] theorem I8 {ds} : ay (.ptr ds)=true:=_root_.id rfl
@[simp] theorem NJ {g ds} : ay (.fn g ds)=true:=_root_.id rfl
@[simp] theorem I7 {sz es} : ay (.own sz es)=false:=_root_.id rfl
@[simp] theorem IU {sz es} : ay (.blk sz es)=false:=_root_.id rfl
@[simp] theorem NK {kt et ks vs} : ay (.mp kt et ks vs)=false:=_root_.id rfl
@[simp] theorem I0 {b} : ay (.mrf b)=false:=_root_.id rfl
@[simp] theorem Ja {p k n} : ay (.ref p k n)=false:=_root_.id rfl
@[simp] theorem IQ {p i off} : ay (.adr p i off)=false:=_root_.id rfl
@[simp] theorem IS {ds} : ay (.agx ds)=false:=_root_.id rfl
@[simp] theorem Jf {ds} : ay (.tpx ds)=false:=_root_.id rfl
@[simp] theorem I9 {ds} : ay (.ptx ds)=false:=_root_.id rfl
@[simp] theorem Jb {n sz ds} : ay (.rfx n sz ds)=false:=_root_.id rfl
@[simp] theorem IV {g ds} : ay (.fnx g ds)=false:=_root_.id rfl
@[simp] theorem IX {T p i off} : ay (.ifa T p i off)=false:=_root_.id rfl
@[simp] theorem IY {T n} : ay (.ifi T n)=false:=_root_.id rfl
@[simp] theorem Jc {k es} : ay (.slv k es)=false:=_root_.id rfl
@[simp] theorem IW {g ds cs} : ay (.fny g ds cs)=false:=_root_.id rfl
@[simp] theorem OF : isO (.any)=false:=_root_.id rfl
@[simp] theorem OL {k n} : isO (.int k n)=false:=_root_.id rfl
@[simp] theorem J5 {b} : isO (.bool b)=false:=_root_.id rfl
@[simp] theorem OU {s} : isO (.str s)=false:=_root_.id rfl
@[simp] theorem J6 : isO (.nilp)=false:=_root_.id rfl
@[simp] theorem J7 : isO (.nils)=false:=_root_.id rfl
@[simp] theorem OD {ds} : isO (.agg ds)=false:=_root_.id rfl
@[simp] theorem OW {ds} : isO (.tup ds)=false:=_root_.id rfl
@[simp] theorem Si {es} : isO (.sl es)=false:=_root_.id rfl
@[simp] theorem OO {ds} : isO (.ptr ds)=false:=_root_.id rfl
@[simp] theorem Sf {g ds} : isO (.fn g ds)=false:=_root_.id rfl
@[simp] theorem ON {sz es} : isO (.own sz es)=true:=_root_.id rfl
@[simp] theorem OG {sz es} : isO (.blk sz es)=false:=_root_.id rfl
@[simp] theorem Sg {kt et ks vs} : isO (.mp kt et ks vs)=false:=_root_.id rfl
@[simp] theorem OM {b} : isO (.mrf b)=false:=_root_.id rfl
@[simp] theorem OQ {p k n} : isO (.ref p k n)=false:=_root_.id rfl
@[simp] theorem OC {p i off} : isO (.adr p i off)=false:=_root_.id rfl
@[simp] theorem OE {ds} : isO (.agx ds)=false:=_root_.id rfl
@[simp] theorem OV {ds} : isO (.tpx ds)=false:=_root_.id rfl
@[simp] theorem OP {ds} : isO (.ptx ds)=false:=_root_.id rfl
@[simp] theorem OR {n sz ds} : isO (.rfx n sz ds)=false:=_root_.id rfl
@[simp] theorem OH {g ds} : isO (.fnx g ds)=false:=_root_.id rfl
@[simp] theorem OJ {T p i off} : isO (.ifa T p i off)=false:=_root_.id rfl
@[simp] theorem OK {T n} : isO (.ifi T n)=false:=_root_.id rfl
@[simp] theorem OS {k es} : isO (.slv k es)=false:=_root_.id rfl
@[simp] theorem OI {g ds cs} : isO (.fny g ds cs)=false:=_root_.id rfl
@[simp] theorem Jk : aU (.any)=true:=_root_.id rfl
@[simp] theorem Jq {k n} : aU (.int k n)=true:=_root_.id rfl
@[simp] theorem Fk {b} : aU (.bool b)=true:=_root_.id rfl
@[simp] theorem Jy {s} : aU (.str s)=true:=_root_.id rfl
@[simp] theorem Fm : aU (.nilp)=true:=_root_.id rfl
@[simp] theorem Fn : aU (.nils)=true:=_root_.id rfl
@[simp] theorem Ji {ds} : aU (.agg ds)=false:=_root_.id rfl
@[simp] theorem JA {ds} : aU (.tup ds)=false:=_root_.id rfl
@[simp] theorem NO {es} : aU (.sl es)=false:=_root_.id rfl
@[simp] theorem Jt {ds} : aU (.ptr ds)=false:=_root_.id rfl
@[simp] theorem NM {g ds} : aU (.fn g ds)=false:=_root_.id rfl
@[simp] theorem Js {sz es} : aU (.own sz es)=false:=_root_.id rfl
@[simp] theorem Jl {sz es} : aU (.blk sz es)=false:=_root_.id rfl
@[simp] theorem NN {kt et ks vs} : aU (.mp kt et ks vs)=false:=_root_.id rfl
@[simp] theorem Jr {b} : aU (.mrf b)=false:=_root_.id rfl
@[simp] theorem Jv {p k n} : aU (.ref p k n)=false:=_root_.id rfl
@[simp] theorem Jh {p i off} : aU (.adr p i off)=false:=_root_.id rfl
@[simp] theorem Jj {ds} : aU (.agx ds)=false:=_root_.id rfl
@[simp] theorem Jz {ds} : aU (.tpx ds)=false:=_root_.id rfl
@[simp] theorem Ju {ds} : aU (.ptx ds)=false:=_root_.id rfl
@[simp] theorem Jw {n sz ds} : aU (.rfx n sz ds)=false:=_root_.id rfl
@[simp] theorem Jm {g ds} : aU (.fnx g ds)=false:=_root_.id rfl
@[simp] theorem Jo {T p i off} : aU (.ifa T p i off)=false:=_root_.id rfl
@[simp] theorem Jp {T n} : aU (.ifi T n)=true:=_root_.id rfl
@[simp] theorem Jx {k es} : aU (.slv k es)=false:=_root_.id rfl
@[simp] theorem Jn {g ds cs} : aU (.fny g ds cs)=false:=_root_.id rfl
@[simp] theorem JE : dy (.any)=true:=_root_.id rfl
@[simp] theorem JK {k n} : dy (.int k n)=true:=_root_.id rfl
@[simp] theorem Fp {b} : dy (.bool b)=true:=_root_.id rfl
@[simp] theorem JS {s} : dy (.str s)=true:=_root_.id rfl
@[simp] theorem Fq : dy (.nilp)=true:=_root_.id rfl
@[simp] theorem Fr : dy (.nils)=true:=_root_.id rfl
@[simp] theorem JC {ds} : dy (.agg ds)=ds.all aU:=_root_.id rfl
@[simp] theorem JU {ds} : dy (.tup ds)=false:=_root_.id rfl
@[simp] theorem NR {es} : dy (.sl es)=false:=_root_.id rfl
@[simp] theorem JN {ds} : dy (.ptr ds)=false:=_root_.id rfl
@[simp] theorem NP {g ds} : dy (.fn g ds)=false:=_root_.id rfl
@[simp] theorem JM {sz es} : dy (.own sz es)=false:=_root_.id rfl
@[simp] theorem JF {sz es} : dy (.blk sz es)=false:=_root_.id rfl
@[simp] theorem NQ {kt et ks vs} : dy (.mp kt et ks vs)=false:=_root_.id rfl
@[simp] theorem JL {b} : dy (.mrf b)=false:=_root_.id rfl
@[simp] theorem JP {p k n} : dy (.ref p k n)=false:=_root_.id rfl
@[simp] theorem JB {p i off} : dy (.adr p i off)=false:=_root_.id rfl
@[simp] theorem JD {ds} : dy (.agx ds)=false:=_root_.id rfl
@[simp] theorem JT {ds} : dy (.tpx ds)=false:=_root_.id rfl
@[simp] theorem JO {ds} : dy (.ptx ds)=false:=_root_.id rfl
@[simp] theorem JQ {n sz ds} : dy (.rfx n sz ds)=false:=_root_.id rfl
@[simp] theorem JG {g ds} : dy (.fnx g ds)=false:=_root_.id rfl
@[simp] theorem JI {T p i off} : dy (.ifa T p i off)=false:=_root_.id rfl
@[simp] theorem JJ {T n} : dy (.ifi T n)=true:=_root_.id rfl
@[simp] theorem JR {k es} : dy (.slv k es)=false:=_root_.id rfl
@[simp] theorem JH {g ds cs} : dy (.fny g ds cs)=false:=_root_.id rfl
@[simp] theorem NV : isF (.any)=true:=_root_.id rfl
@[simp] theorem N1 {k n} : isF (.int k n)=true:=_root_.id rfl
@[simp] theorem JV {b} : isF (.bool b)=true:=_root_.id rfl
@[simp] theorem N9 {s} : isF (.str s)=true:=_root_.id rfl
@[simp] theorem JW : isF (.nilp)=true:=_root_.id rfl
@[simp] theorem JX : isF (.nils)=true:=_root_.id rfl
@[simp] theorem NT {ds} : isF (.agg ds)=ds.all aU:=_root_.id rfl
@[simp] theorem Ob {ds} : isF (.tup ds)=ds.all dy:=_root_.id rfl
@[simp] theorem Sa {es} : isF (.sl es)=false:=_root_.id rfl
@[simp] theorem N4 {ds} : isF (.ptr ds)=false:=_root_.id rfl
@[simp] theorem R8 {g ds} : isF (.fn g ds)=false:=_root_.id rfl
@[simp] theorem N3 {sz es} : isF (.own sz es)=false:=_root_.id rfl
@[simp] theorem NW {sz es} : isF (.blk sz es)=false:=_root_.id rfl
@[simp] theorem R9 {kt et ks vs} : isF (.mp kt et ks vs)=false:=_root_.id rfl
@[simp] theorem N2 {b} : isF (.mrf b)=false:=_root_.id rfl
@[simp] theorem N6 {p k n} : isF (.ref p k n)=false:=_root_.id rfl
@[simp] theorem NS {p i off} : isF (.adr p i off)=false:=_root_.id rfl
@[simp] theorem NU {ds} : isF (.agx ds)=false:=_root_.id rfl
@[simp] theorem Oa {ds} : isF (.tpx ds)=false:=_root_.id rfl
@[simp] theorem N5 {ds} : isF (.ptx ds)=false:=_root_.id rfl
@[simp] theorem N7 {n sz ds} : isF (.rfx n sz ds)=false:=_root_.id rfl
@[simp] theorem NX {g ds} : isF (.fnx g ds)=false:=_root_.id rfl
@[simp] theorem NZ {T p i off} : isF (.ifa T p i off)=false:=_root_.id rfl
@[simp] theorem N0 {T n} : isF (.ifi T n)=true:=_root_.id rfl
@[simp] theorem N8 {k es} : isF (.slv k es)=false:=_root_.id rfl
@[simp] theorem NY {g ds cs} : isF (.fny g ds cs)=false:=_root_.id rfl
@[simp] theorem Nr : isB (.any)=false:=_root_.id rfl
@[simp] theorem Nx {k n} : isB (.int k n)=false:=_root_.id rfl
@[simp] theorem IM {b} : isB (.bool b)=false:=_root_.id rfl
@[simp] theorem NG {s} : isB (.str s)=false:=_root_.id rfl
@[simp] theorem zio : isB (.nilp)=false:=_root_.id rfl
@[simp] theorem IP : isB (.nils)=false:=_root_.id rfl
@[simp] theorem Np {ds} : isB (.agg ds)=false:=_root_.id rfl
@[simp] theorem NI {ds} : isB (.tup ds)=false:=_root_.id rfl
@[simp] theorem R7 {es} : isB (.sl es)=false:=_root_.id rfl
@[simp] theorem NA {ds} : isB (.ptr ds)=false:=_root_.id rfl
@[simp] theorem R5 {g ds} : isB (.fn g ds)=false:=_root_.id rfl
@[simp] theorem Nz {sz es} : isB (.own sz es)=false:=_root_.id rfl
@[simp] theorem Ns {sz es} : isB (.blk sz es)=true:=_root_.id rfl
@[simp] theorem R6 {kt et ks vs} : isB (.mp kt et ks vs)=true:=_root_.id rfl
@[simp] theorem Ny {b} : isB (.mrf b)=false:=_root_.id rfl
@[simp] theorem NC {p k n} : isB (.ref p k n)=false:=_root_.id rfl
@[simp] theorem Nn {p i off} : isB (.adr p i off)=false:=_root_.id rfl
@[simp] theorem Nq {ds} : isB (.agx ds)=false:=_root_.id rfl
@[simp] theorem NH {ds} : isB (.tpx ds)=false:=_root_.id rfl
@[simp] theorem NB {ds} : isB (.ptx ds)=false:=_root_.id rfl
@[simp] theorem ND {n sz ds} : isB (.rfx n sz ds)=false:=_root_.id rfl
@[simp] theorem Nt {g ds} : isB (.fnx g ds)=false:=_root_.id rfl
@[simp] theorem Nv {T p i off} : isB (.ifa T p i off)=false:=_root_.id rfl
@[simp] theorem Nw {T n} : isB (.ifi T n)=false:=_root_.id rfl
@[simp] theorem NE {k es} : isB (.slv k es)=false:=_root_.id rfl
@[simp] theorem Nu {g ds cs} : isB (.fny g ds cs)=false:=_root_.id rfl
@[simp] theorem EX : cj (.any)=true:=_root_.id rfl
@[simp] theorem E5 {k n} : cj (.int k n)=false:=_root_.id rfl
@[simp] theorem BX {b} : cj (.bool b)=false:=_root_.id rfl
@[simp] theorem Fe {s} : cj (.str s)=false:=_root_.id rfl
@[simp] theorem BY : cj (.nilp)=false:=_root_.id rfl
@[simp] theorem BZ : cj (.nils)=false:=_root_.id rfl
@[simp] theorem EV {ds} : cj (.agg ds)=false:=_root_.id rfl
@[simp] theorem Fg {ds} : cj (.tup ds)=false:=_root_.id rfl
@[simp] theorem IL {es} : cj (.sl es)=false:=_root_.id rfl
@[simp] theorem E8 {ds} : cj (.ptr ds)=false:=_root_.id rfl
@[simp] theorem IJ {g ds} : cj (.fn g ds)=false:=_root_.id rfl
@[simp] theorem E7 {sz es} : cj (.own sz es)=false:=_root_.id rfl
@[simp] theorem EY {sz es} : cj (.blk sz es)=false:=_root_.id rfl
@[simp] theorem IK {kt et ks vs} : cj (.mp kt et ks vs)=false:=_root_.id rfl
@[simp] theorem E6 {b} : cj (.mrf b)=false:=_root_.id rfl
@[simp] theorem Fa {p k n} : cj (.ref p k n)=false:=_root_.id rfl
@[simp] theorem EU {p i off} : cj (.adr p i off)=false:=_root_.id rfl
@[simp] theorem EW {ds} : cj (.agx ds)=false:=_root_.id rfl
@[simp] theorem Ff {ds} : cj (.tpx ds)=false:=_root_.id rfl
@[simp] theorem E9 {ds} : cj (.ptx ds)=false:=_root_.id rfl
@[simp] theorem Fb {n sz ds} : cj (.rfx n sz ds)=false:=_root_.id rfl
@[simp] theorem EZ {g ds} : cj (.fnx g ds)=false:=_root_.id rfl
@[simp] theorem E1 {T p i off} : cj (.ifa T p i off)=false:=_root_.id rfl
@[simp] theorem E4 {T n} : cj (.ifi T n)=false:=_root_.id rfl
@[simp] theorem Fc {k es} : cj (.slv k es)=false:=_root_.id rfl
@[simp] theorem E0 {g ds cs} : cj (.fny g ds cs)=false:=_root_.id rfl
@[simp] theorem zQ : cellsOf (.any)=[.any]:=_root_.id rfl
@[simp] theorem zW {k n} : cellsOf (.int k n)=[.int k n]:=_root_.id rfl
@[simp] theorem xr {b} : cellsOf (.bool b)=[.bool b]:=_root_.id rfl
@[simp] theorem Ac {s} : cellsOf (.str s)=[.str s]:=_root_.id rfl
@[simp] theorem xu : cellsOf (.nilp)=[.nilp]:=_root_.id rfl
@[simp] theorem xw : cellsOf (.nils)=[.nils]:=_root_.id rfl
@[simp] theorem zO {ds} : cellsOf (.agg ds)=ds:=_root_.id rfl
@[simp] theorem Ae {ds} : cellsOf (.tup ds)=[.tup ds]:=_root_.id rfl
@[simp] theorem Br {es} : cellsOf (.sl es)=[.sl es]:=_root_.id rfl
@[simp] theorem zZ {ds} : cellsOf (.ptr ds)=[.ptr ds]:=_root_.id rfl
@[simp] theorem Bp {g ds} : cellsOf (.fn g ds)=[.fn g ds]:=_root_.id rfl
@[simp] theorem zY {sz es} : cellsOf (.own sz es)=[.own sz es]:=_root_.id rfl
@[simp] theorem zR {sz es} : cellsOf (.blk sz es)=[.blk sz es]:=_root_.id rfl
@[simp] theorem Bq {kt et ks vs} : cellsOf (.mp kt et ks vs)=[.mp kt et ks vs]:=_root_.id rfl
@[simp] theorem zX {b} : cellsOf (.mrf b)=[.mrf b]:=_root_.id rfl
@[simp] theorem z7 {p k n} : cellsOf (.ref p k n)=[.ref p k n]:=_root_.id rfl
@[simp] theorem zN {p i off} : cellsOf (.adr p i off)=[.adr p i off]:=_root_.id rfl
@[simp] theorem zP {ds} : cellsOf (.agx ds)=[.agx ds]:=_root_.id rfl
@[simp] theorem Ad {ds} : cellsOf (.tpx ds)=[.tpx ds]:=_root_.id rfl
@[simp] theorem z6 {ds} : cellsOf (.ptx ds)=[.ptx ds]:=_root_.id rfl
@[simp] theorem z8 {n sz ds} : cellsOf (.rfx n sz ds)=[.rfx n sz ds]:=_root_.id rfl
@[simp] theorem zS {g ds} : cellsOf (.fnx g ds)=[.fnx g ds]:=_root_.id rfl
@[simp] theorem zU {T p i off} : cellsOf (.ifa T p i off)=[.ifa T p i off]:=_root_.id rfl
@[simp] theorem zV {T n} : cellsOf (.ifi T n)=[.ifi T n]:=_root_.id rfl
@[simp] theorem Aa {k es} : cellsOf (.slv k es)=[.slv k es]:=_root_.id rfl
@[simp] theorem zT {g ds cs} : cellsOf (.fny g ds cs)=[.fny g ds cs]:=_root_.id rfl
@[simp] theorem Dt : bR (.any)=.any:=_root_.id rfl
@[simp] theorem DA {k n} : bR (.int k n)=.int k n:=_root_.id rfl
@[simp] theorem Bg {b} : bR (.bool b)=.bool b:=_root_.id rfl
@[simp] theorem DJ {s} : bR (.str s)=.str s:=_root_.id rfl
@[simp] theorem Bh : bR (.nilp)=.nilp:=_root_.id rfl
@[simp] theorem Bi : bR (.nils)=.nils:=_root_.id rfl
@[simp] theorem Dr {ds} : bR (.agg ds)=.agg ds:=_root_.id rfl
@[simp] theorem DL {ds} : bR (.tup ds)=.tup ds:=_root_.id rfl
@[simp] theorem G1 {es} : bR (.sl es)=.sl es:=_root_.id rfl
@[simp] theorem DD {ds} : bR (.ptr ds)=.ptr ds:=_root_.id rfl
@[simp] theorem GZ {g ds} : bR (.fn g ds)=.fn g ds:=_root_.id rfl
@[simp] theorem DC {sz es} : bR (.own sz es)=.own sz es:=_root_.id rfl
@[simp] theorem Du {sz es} : bR (.blk sz es)=.blk sz es:=_root_.id rfl
@[simp] theorem G0 {kt et ks vs} : bR (.mp kt et ks vs)=.mp kt et ks vs:=_root_.id rfl
@[simp] theorem DB {b} : bR (.mrf b)=.mrf b:=_root_.id rfl
@[simp] theorem DF {p k n} : bR (.ref p k n)=.ref p k n:=_root_.id rfl
@[simp] theorem Dq {p i off} : bR (.adr p i off)=.adr p i off:=_root_.id rfl
@[simp] theorem Ds {ds} : bR (.agx ds)=.agg ds:=_root_.id rfl
@[simp] theorem DK {ds} : bR (.tpx ds)=.tpx ds:=_root_.id rfl
@[simp] theorem DE {ds} : bR (.ptx ds)=.ptx ds:=_root_.id rfl
@[simp] theorem DG {n sz ds} : bR (.rfx n sz ds)=.rfx n sz ds:=_root_.id rfl
@[simp] theorem Dw {g ds} : bR (.fnx g ds)=.fnx g ds:=_root_.id rfl
@[simp] theorem Dy {T p i off} : bR (.ifa T p i off)=.ifa T p i off:=_root_.id rfl
@[simp] theorem Dz {T n} : bR (.ifi T n)=.ifi T n:=_root_.id rfl
@[simp] theorem DH {k es} : bR (.slv k es)=.slv k es:=_root_.id rfl
@[simp] theorem Dx {g ds cs} : bR (.fny g ds cs)=.fny g ds cs:=_root_.id rfl
@[simp] theorem D0 : aW (.any)=.any:=_root_.id rfl
@[simp] theorem D6 {k n} : aW (.int k n)=.int k n:=_root_.id rfl
@[simp] theorem Bm {b} : aW (.bool b)=.bool b:=_root_.id rfl
@[simp] theorem Ef {s} : aW (.str s)=.str s:=_root_.id rfl
@[simp] theorem Bn : aW (.nilp)=.nilp:=_root_.id rfl
@[simp] theorem Bo : aW (.nils)=.nils:=_root_.id rfl
@[simp] theorem DY {ds} : aW (.agg ds)=.agg ds:=_root_.id rfl
@[simp] theorem Eh {ds} : aW (.tup ds)=.tup ds:=_root_.id rfl
@[simp] theorem Hr {es} : aW (.sl es)=.sl es:=_root_.id rfl
@[simp] theorem D9 {ds} : aW (.ptr ds)=.ptr ds:=_root_.id rfl
@[simp] theorem Hp {g ds} : aW (.fn g ds)=.fn g ds:=_root_.id rfl
@[simp] theorem D8 {sz es} : aW (.own sz es)=.sl es:=_root_.id rfl
@[simp] theorem D1 {sz es} : aW (.blk sz es)=.blk sz es:=_root_.id rfl
@[simp] theorem Hq {kt et ks vs} : aW (.mp kt et ks vs)=.mp kt et ks vs:=_root_.id rfl
@[simp] theorem D7 {b} : aW (.mrf b)=.mrf b:=_root_.id rfl
@[simp] theorem Eb {p k n} : aW (.ref p k n)=.ref p k n:=_root_.id rfl
@[simp] theorem DX {p i off} : aW (.adr p i off)=.adr p i off:=_root_.id rfl
@[simp] theorem DZ {ds} : aW (.agx ds)=.agx ds:=_root_.id rfl
@[simp] theorem Eg {ds} : aW (.tpx ds)=.tpx ds:=_root_.id rfl
@[simp] theorem Ea {ds} : aW (.ptx ds)=.ptx ds:=_root_.id rfl
@[simp] theorem Ec {n sz ds} : aW (.rfx n sz ds)=.rfx n sz ds:=_root_.id rfl
@[simp] theorem D2 {g ds} : aW (.fnx g ds)=.fnx g ds:=_root_.id rfl
@[simp] theorem D4 {T p i off} : aW (.ifa T p i off)=.ifa T p i off:=_root_.id rfl
@[simp] theorem D5 {T n} : aW (.ifi T n)=.ifi T n:=_root_.id rfl
@[simp] theorem Ed {k es} : aW (.slv k es)=.slv k es:=_root_.id rfl
@[simp] theorem D3 {g ds cs} : aW (.fny g ds cs)=.fny g ds cs:=_root_.id rfl
@[simp] theorem Aw : aD (.any)=[]:=_root_.id rfl
@[simp] theorem AC {k n} : aD (.int k n)=[]:=_root_.id rfl
@[simp] theorem yh {b} : aD (.bool b)=[]:=_root_.id rfl
@[simp] theorem AM {s} : aD (.str s)=[]:=_root_.id rfl
@[simp] theorem yi : aD (.nilp)=[]:=_root_.id rfl
@[simp] theorem yj : aD (.nils)=[]:=_root_.id rfl
@[simp] theorem Au {ds} : aD (.agg ds)=[]:=_root_.id rfl
@[simp] theorem AO {ds} : aD (.tup ds)=[]:=_root_.id rfl
@[simp] theorem Co {es} : aD (.sl es)=[]:=_root_.id rfl
@[simp] theorem AF {ds} : aD (.ptr ds)=[]:=_root_.id rfl
@[simp] theorem Cl {g ds} : aD (.fn g ds)=[]:=_root_.id rfl
@[simp] theorem AE {sz es} : aD (.own sz es)=[]:=_root_.id rfl
@[simp] theorem Ax {sz es} : aD (.blk sz es)=[]:=_root_.id rfl
@[simp] theorem Cm {kt et ks vs} : aD (.mp kt et ks vs)=[]:=_root_.id rfl
@[simp] theorem AD {b} : aD (.mrf b)=[b]:=_root_.id rfl
@[simp] theorem AI {p k n} : aD (.ref p k n)=[p.root]:=_root_.id rfl
@[simp] theorem At {p i off} : aD (.adr p i off)=[p.root]:=_root_.id rfl
@[simp] theorem Av {ds} : aD (.agx ds)=[]:=_root_.id rfl
@[simp] theorem AN {ds} : aD (.tpx ds)=[]:=_root_.id rfl
@[simp] theorem AH {ds} : aD (.ptx ds)=[]:=_root_.id rfl
@[simp] theorem AJ {n sz ds} : aD (.rfx n sz ds)=[]:=_root_.id rfl
@[simp] theorem Ay {g ds} : aD (.fnx g ds)=[]:=_root_.id rfl
@[simp] theorem AA {T p i off} : aD (.ifa T p i off)=[p.root]:=_root_.id rfl
@[simp] theorem AB {T n} : aD (.ifi T n)=[]:=_root_.id rfl
@[simp] theorem AK {k es} : aD (.slv k es)=[]:=_root_.id rfl
@[simp] theorem Az {g ds cs} : aD (.fny g ds cs)=[]:=_root_.id rfl
@[simp] theorem Cs : bj (.any)=[]:=_root_.id rfl
@[simp] theorem Cy {k n} : bj (.int k n)=[]:=_root_.id rfl
@[simp] theorem AP {b} : bj (.bool b)=[]:=_root_.id rfl
@[simp] theorem CI {s} : bj (.str s)=[]:=_root_.id rfl
@[simp] theorem AQ : bj (.nilp)=[]:=_root_.id rfl
@[simp] theorem AR : bj (.nils)=[]:=_root_.id rfl
@[simp] theorem Cq {ds} : bj (.agg ds)=[]:=_root_.id rfl
@[simp] theorem CK {ds} : bj (.tup ds)=[]:=_root_.id rfl
@[simp] theorem Ga {es} : bj (.sl es)=[]:=_root_.id rfl
@[simp] theorem CB {ds} : bj (.ptr ds)=[]:=_root_.id rfl
@[simp] theorem F8 {g ds} : bj (.fn g ds)=[]:=_root_.id rfl
@[simp] theorem CA {sz es} : bj (.own sz es)=[]:=_root_.id rfl
@[simp] theorem Ct {sz es} : bj (.blk sz es)=[]:=_root_.id rfl
@[simp] theorem F9 {kt et ks vs} : bj (.mp kt et ks vs)=[]:=_root_.id rfl
@[simp] theorem Cz {b} : bj (.mrf b)=[b]:=_root_.id rfl
@[simp] theorem CE {p k n} : bj (.ref p k n)=[p.root]:=_root_.id rfl
@[simp] theorem Cp {p i off} : bj (.adr p i off)=[p.root]:=_root_.id rfl
@[simp] theorem Cr {ds} : bj (.agx ds)=ds.flatMap aD:=_root_.id rfl
@[simp] theorem CJ {ds} : bj (.tpx ds)=ds.flatMap aD:=_root_.id rfl
@[simp] theorem CD {ds} : bj (.ptx ds)=ds.flatMap aD:=_root_.id rfl
@[simp] theorem CF {n sz ds} : bj (.rfx n sz ds)=ds.flatMap aD:=_root_.id rfl
@[simp] theorem Cu {g ds} : bj (.fnx g ds)=ds.flatMap aD:=_root_.id rfl
@[simp] theorem Cw {T p i off} : bj (.ifa T p i off)=[p.root]:=_root_.id rfl
@[simp] theorem Cx {T n} : bj (.ifi T n)=[]:=_root_.id rfl
@[simp] theorem CG {k es} : bj (.slv k es)=[]:=_root_.id rfl
@[simp] theorem Cv {g ds cs} : bj (.fny g ds cs)=(ds.flatMap aD++cs.flatMap aD):=_root_.id rfl
@[simp] theorem MH {f : Nat -> D} : dp1 f (.any)=(.any):=_root_.id rfl
@[simp] theorem MN {f : Nat -> D} {k n} : dp1 f (.int k n)=(.int k n):=_root_.id rfl
@[simp] theorem HC {f : Nat -> D} {b} : dp1 f (.bool b)=(.bool b):=_root_.id rfl
@[simp] theorem MW {f : Nat -> D} {s} : dp1 f (.str s)=(.str s):=_root_.id rfl
@[simp] theorem HD {f : Nat -> D} : dp1 f (.nilp)=(.nilp):=_root_.id rfl
@[simp] theorem HE {f : Nat -> D} : dp1 f (.nils)=(.nils):=_root_.id rfl
@[simp] theorem MF {f : Nat -> D} {ds} : dp1 f (.agg ds)=(.agg ds):=_root_.id rfl
@[simp] theorem MY {f : Nat -> D} {ds} : dp1 f (.tup ds)=(.tup ds):=_root_.id rfl
@[simp] theorem Rz {f : Nat -> D} {es} : dp1 f (.sl es)=(.sl es):=_root_.id rfl
@[simp] theorem MQ {f : Nat -> D} {ds} : dp1 f (.ptr ds)=(.ptr ds):=_root_.id rfl
@[simp] theorem Rx {f : Nat -> D} {g ds} : dp1 f (.fn g ds)=(.fn g ds):=_root_.id rfl
@[simp] theorem MP {f : Nat -> D} {sz es} : dp1 f (.own sz es)=(.own sz es):=_root_.id rfl
@[simp] theorem MI {f : Nat -> D} {sz es} : dp1 f (.blk sz es)=(.blk sz es):=_root_.id rfl
@[simp] theorem Ry {f : Nat -> D} {kt et ks vs} : dp1 f (.mp kt et ks vs)=(.mp kt et ks vs):=_root_.id rfl
@[simp] theorem MO {f : Nat -> D} {b} : dp1 f (.mrf b)=(.mrf b):=_root_.id rfl
@[simp] theorem MS {f : Nat -> D} {p k n} : dp1 f (.ref p k n)=(match aP f p with | some (_,es)=>.sl (((es.drop k).take n).map fun e=>e.map aW) | none=>.any):=_root_.id rfl
@[simp] theorem ME {f : Nat -> D} {p i off} : dp1 f (.adr p i off)=(match aP f p with | some (_,es)=>.ptr (((es[i]?.getD []).drop off).map aW) | none=>.any):=_root_.id rfl
@[simp] theorem MG {f : Nat -> D} {ds} : dp1 f (.agx ds)=(.agx ds):=_root_.id rfl
@[simp] theorem MX {f : Nat -> D} {ds} : dp1 f (.tpx ds)=(.tpx ds):=_root_.id rfl
@[simp] theorem MR {f : Nat -> D} {ds} : dp1 f (.ptx ds)=(.ptx ds):=_root_.id rfl
@[simp] theorem MT {f : Nat -> D} {n sz ds} : dp1 f (.rfx n sz ds)=(.rfx n sz ds):=_root_.id rfl
@[simp] theorem MJ {f : Nat -> D} {g ds} : dp1 f (.fnx g ds)=(.fnx g ds):=_root_.id rfl
@[simp] theorem ML {f : Nat -> D} {T p i off} : dp1 f (.ifa T p i off)=(.ifa T p i off):=_root_.id rfl
@[simp] theorem MM {f : Nat -> D} {T n} : dp1 f (.ifi T n)=(.ifi T n):=_root_.id rfl
@[simp] theorem MU {f : Nat -> D} {k es} : dp1 f (.slv k es)=(.slv k es):=_root_.id rfl
@[simp] theorem MK {f : Nat -> D} {g ds cs} : dp1 f (.fny g ds cs)=(.fny g ds cs):=_root_.id rfl
@[simp] theorem RD {f : Nat -> D} : dp f (.any)=(.any):=_root_.id rfl
@[simp] theorem RK {f : Nat -> D} {k n} : dp f (.int k n)=(.int k n):=_root_.id rfl
@[simp] theorem M7 {f : Nat -> D} {b} : dp f (.bool b)=(.bool b):=_root_.id rfl
@[simp] theorem RU {f : Nat -> D} {s} : dp f (.str s)=(.str s):=_root_.id rfl
@[simp] theorem M8 {f : Nat -> D} : dp f (.nilp)=(.nilp):=_root_.id rfl
@[simp] theorem M9 {f : Nat -> D} : dp f (.nils)=(.nils):=_root_.id rfl
@[simp] theorem RB {f : Nat -> D} {ds} : dp f (.agg ds)=(.agg ds):=_root_.id rfl
@[simp] theorem RW {f : Nat -> D} {ds} : dp f (.tup ds)=(.tup ds):=_root_.id rfl
@[simp] theorem S5 {f : Nat -> D} {es} : dp f (.sl es)=(.sl es):=_root_.id rfl
@[simp] theorem RO {f : Nat -> D} {ds} : dp f (.ptr ds)=(.ptr ds):=_root_.id rfl
@[simp] theorem S2 {f : Nat -> D} {g ds} : dp f (.fn g ds)=(.fn g ds):=_root_.id rfl
@[simp] theorem RN {f : Nat -> D} {sz es} : dp f (.own sz es)=(.own sz es):=_root_.id rfl
@[simp] theorem RE {f : Nat -> D} {sz es} : dp f (.blk sz es)=(.blk sz es):=_root_.id rfl
@[simp] theorem S4 {f : Nat -> D} {kt et ks vs} : dp f (.mp kt et ks vs)=(.mp kt et ks vs):=_root_.id rfl
@[simp] theorem RM {f : Nat -> D} {b} : dp f (.mrf b)=(.mrf b):=_root_.id rfl
@[simp] theorem RQ {f : Nat -> D} {p k n} : dp f (.ref p k n)=(match aP f p with | some (_,es)=>.sl (((es.drop k).take n).map fun e=>e.map aW) | none=>.any):=_root_.id rfl
@[simp] theorem RA {f : Nat -> D} {p i off} : dp f (.adr p i off)=(match aP f p with | some (_,es)=>.ptr (((es[i]?.getD []).drop off).map aW) | none=>.any):=_root_.id rfl
@[simp] theorem RC {f : Nat -> D} {ds} : dp f (.agx ds)=(.agg (ds.map (dp1 f))):=_root_.id rfl
@[simp] theorem RV {f : Nat -> D} {ds} : dp f (.tpx ds)=(.tup (ds.map (dp1 f))):=_root_.id rfl
@[simp] theorem RP {f : Nat -> D} {ds} : dp f (.ptx ds)=(.ptr (ds.map (dp1 f))):=_root_.id rfl
@[simp] theorem RR {f : Nat -> D} {n sz ds} : dp f (.rfx n sz ds)=.rfx n sz ds:=_root_.id rfl
@[simp] theorem RG {f : Nat -> D} {g ds} : dp f (.fnx g ds)=(.fn g (ds.map (dp1 f))):=_root_.id rfl
@[simp] theorem RI {f : Nat -> D} {T p i off} : dp f (.ifa T p i off)=(.ifa T p i off):=_root_.id rfl
@[simp] theorem RJ {f : Nat -> D} {T n} : dp f (.ifi T n)=(.ifi T n):=_root_.id rfl
@[simp] theorem RS {f : Nat -> D} {k es} : dp f (.slv k es)=(.slv k es):=_root_.id rfl
@[simp] theorem RH {f : Nat -> D} {g ds cs} : dp f (.fny g ds cs)=(.fny g ds cs):=_root_.id rfl
@[simp] theorem En {f : Nat -> D} : aK f (.any)=(True):=_root_.id rfl
@[simp] theorem Eu {f : Nat -> D} {k n} : aK f (.int k n)=(True):=_root_.id rfl
@[simp] theorem BB {f : Nat -> D} {b} : aK f (.bool b)=(True):=_root_.id rfl
@[simp] theorem ED {f : Nat -> D} {s} : aK f (.str s)=(True):=_root_.id rfl
@[simp] theorem BC {f : Nat -> D} : aK f (.nilp)=(True):=_root_.id rfl
@[simp] theorem BD {f : Nat -> D} : aK f (.nils)=(True):=_root_.id rfl
@[simp] theorem El {f : Nat -> D} {ds} : aK f (.agg ds)=(True):=_root_.id rfl
@[simp] theorem EF {f : Nat -> D} {ds} : aK f (.tup ds)=(True):=_root_.id rfl
@[simp] theorem HH {f : Nat -> D} {es} : aK f (.sl es)=(True):=_root_.id rfl
@[simp] theorem Ex {f : Nat -> D} {ds} : aK f (.ptr ds)=(True):=_root_.id rfl
@[simp] theorem HF {f : Nat -> D} {g ds} : aK f (.fn g ds)=(True):=_root_.id rfl
@[simp] theorem Ew {f : Nat -> D} {sz es} : aK f (.own sz es)=(True):=_root_.id rfl
@[simp] theorem Eo {f : Nat -> D} {sz es} : aK f (.blk sz es)=(True):=_root_.id rfl
@[simp] theorem HG {f : Nat -> D} {kt et ks vs} : aK f (.mp kt et ks vs)=(True):=_root_.id rfl
@[simp] theorem Ev {f : Nat -> D} {b} : aK f (.mrf b)=(False):=_root_.id rfl
@[simp] theorem Ez {f : Nat -> D} {p k n} : aK f (.ref p k n)=(match aP f p with | some (_,es)=>k + n <= es.length | none=>False):=_root_.id rfl
@[simp] theorem Ek {f : Nat -> D} {p i off} : aK f (.adr p i off)=(match aP f p with | some _=>True | none=>False):=_root_.id rfl
@[simp] theorem Em {f : Nat -> D} {ds} : aK f (.agx ds)=(True):=_root_.id rfl
@[simp] theorem EE {f : Nat -> D} {ds} : aK f (.tpx ds)=(True):=_root_.id rfl
@[simp] theorem Ey {f : Nat -> D} {ds} : aK f (.ptx ds)=(True):=_root_.id rfl
@[simp] theorem EA {f : Nat -> D} {n sz ds} : aK f (.rfx n sz ds)=(True):=_root_.id rfl
@[simp] theorem Ep {f : Nat -> D} {g ds} : aK f (.fnx g ds)=(True):=_root_.id rfl
@[simp] theorem Es {f : Nat -> D} {T p i off} : aK f (.ifa T p i off)=False:=_root_.id rfl
@[simp] theorem Et {f : Nat -> D} {T n} : aK f (.ifi T n)=True:=_root_.id rfl
@[simp] theorem EB {f : Nat -> D} {k es} : aK f (.slv k es)=True:=_root_.id rfl
@[simp] theorem Er {f : Nat -> D} {g ds cs} : aK f (.fny g ds cs)=True:=_root_.id rfl
@[simp] theorem HL {f : Nat -> D} : br f (.any)=(True):=_root_.id rfl
@[simp] theorem HR {f : Nat -> D} {k n} : br f (.int k n)=(True):=_root_.id rfl
@[simp] theorem EG {f : Nat -> D} {b} : br f (.bool b)=(True):=_root_.id rfl
@[simp] theorem H0 {f : Nat -> D} {s} : br f (.str s)=(True):=_root_.id rfl
@[simp] theorem EH {f : Nat -> D} : br f (.nilp)=(True):=_root_.id rfl
@[simp] theorem EI {f : Nat -> D} : br f (.nils)=(True):=_root_.id rfl
@[simp] theorem HJ {f : Nat -> D} {ds} : br f (.agg ds)=(True):=_root_.id rfl
@[simp] theorem Ib {f : Nat -> D} {ds} : br f (.tup ds)=(True):=_root_.id rfl
@[simp] theorem M6 {f : Nat -> D} {es} : br f (.sl es)=(True):=_root_.id rfl
@[simp] theorem HU {f : Nat -> D} {ds} : br f (.ptr ds)=(True):=_root_.id rfl
@[simp] theorem MZ {f : Nat -> D} {g ds} : br f (.fn g ds)=(True):=_root_.id rfl
@[simp] theorem HT {f : Nat -> D} {sz es} : br f (.own sz es)=(True):=_root_.id rfl
@[simp] theorem HM {f : Nat -> D} {sz es} : br f (.blk sz es)=(True):=_root_.id rfl
@[simp] theorem M5 {f : Nat -> D} {kt et ks vs} : br f (.mp kt et ks vs)=(True):=_root_.id rfl
@[simp] theorem HS {f : Nat -> D} {b} : br f (.mrf b)=(False):=_root_.id rfl
@[simp] theorem HW {f : Nat -> D} {p k n} : br f (.ref p k n)=(match aP f p with | some (_,es)=>k + n <= es.length | none=>False):=_root_.id rfl
@[simp] theorem HI {f : Nat -> D} {p i off} : br f (.adr p i off)=(match aP f p with | some _=>True | none=>False):=_root_.id rfl
@[simp] theorem HK {f : Nat -> D} {ds} : br f (.agx ds)=(∀ d ∈ ds,aK f d):=_root_.id rfl
@[simp] theorem Ia {f : Nat -> D} {ds} : br f (.tpx ds)=(∀ d ∈ ds,aK f d):=_root_.id rfl
@[simp] theorem HV {f : Nat -> D} {ds} : br f (.ptx ds)=(∀ d ∈ ds,aK f d):=_root_.id rfl
@[simp] theorem HX {f : Nat -> D} {n sz ds} : br f (.rfx n sz ds)=False:=_root_.id rfl
@[simp] theorem HN {f : Nat -> D} {g ds} : br f (.fnx g ds)=(∀ d ∈ ds,aK f d):=_root_.id rfl
@[simp] theorem HP {f : Nat -> D} {T p i off} : br f (.ifa T p i off)=False:=_root_.id rfl
@[simp] theorem HQ {f : Nat -> D} {T n} : br f (.ifi T n)=True:=_root_.id rfl
@[simp] theorem HY {f : Nat -> D} {k es} : br f (.slv k es)=True:=_root_.id rfl
@[simp] theorem HO {f : Nat -> D} {g ds cs} : br f (.fny g ds cs)=False:=_root_.id rfl
@[simp] theorem P2 {p i0 o} : ldc p i0 o (.any)=.any:=_root_.id rfl
@[simp] theorem KY {m} : dX m (.any)=.any:=_root_.id rfl
@[simp] theorem P9 {p i0 o k n} : ldc p i0 o (.int k n)=.int k n:=_root_.id rfl
@[simp] theorem Lc {m k n} : dX m (.int k n)=.int k n:=_root_.id rfl
@[simp] theorem Kn {p i0 o b} : ldc p i0 o (.bool b)=.bool b:=_root_.id rfl
@[simp] theorem Gb {m b} : dX m (.bool b)=.bool b:=_root_.id rfl
@[simp] theorem Qi {p i0 o s} : ldc p i0 o (.str s)=.str s:=_root_.id rfl
@[simp] theorem Lk {m s} : dX m (.str s)=.str s:=_root_.id rfl
@[simp] theorem Ko {p i0 o} : ldc p i0 o (.nilp)=.nilp:=_root_.id rfl
@[simp] theorem Gc {m} : dX m (.nilp)=.nilp:=_root_.id rfl
@[simp] theorem Kp {p i0 o} : ldc p i0 o (.nils)=.nils:=_root_.id rfl
@[simp] theorem P0 {p i0 o ds} : ldc p i0 o (.agg ds)=.agg ds:=_root_.id rfl
@[simp] theorem KW {m ds} : dX m (.agg ds)=.agg ds:=_root_.id rfl
@[simp] theorem Qk {p i0 o ds} : ldc p i0 o (.tup ds)=.tup ds:=_root_.id rfl
@[simp] theorem Lm {m ds} : dX m (.tup ds)=.tup ds:=_root_.id rfl
@[simp] theorem SA {p i0 o es} : ldc p i0 o (.sl es)=.sl es:=_root_.id rfl
@[simp] theorem Qv {m es} : dX m (.sl es)=.sl es:=_root_.id rfl
@[simp] theorem Qc {p i0 o ds} : ldc p i0 o (.ptr ds)=.ptr ds:=_root_.id rfl
@[simp] theorem Lf {m ds} : dX m (.ptr ds)=.ptr ds:=_root_.id rfl
@[simp] theorem Sy {p i0 o g ds} : ldc p i0 o (.fn g ds)=.fn g ds:=_root_.id rfl
@[simp] theorem Qt {m g ds} : dX m (.fn g ds)=.fn g ds:=_root_.id rfl
@[simp] theorem Qb {c i o sz es} : ldc (.r c) i o (.own sz es)=.ref (.n c i o) 0 es.length:=_root_.id rfl
@[simp] theorem Le {m sz es} : dX m (.own sz es)=.own sz es:=_root_.id rfl
@[simp] theorem P4 {p i0 o sz es} : ldc p i0 o (.blk sz es)=.blk sz es:=_root_.id rfl
@[simp] theorem KZ {m sz es} : dX m (.blk sz es)=.blk sz es:=_root_.id rfl
@[simp] theorem Sz {p i0 o kt et ks vs} : ldc p i0 o (.mp kt et ks vs)=.mp kt et ks vs:=_root_.id rfl
@[simp] theorem Qu {m kt et ks vs} : dX m (.mp kt et ks vs)=.mp kt et ks vs:=_root_.id rfl
@[simp] theorem Qa {p i0 o b} : ldc p i0 o (.mrf b)=.mrf b:=_root_.id rfl
@[simp] theorem Ld {m b} : dX m (.mrf b)=.mrf b:=_root_.id rfl
@[simp] theorem Qe {p i0 o q k n} : ldc p i0 o (.ref q k n)=.ref q k n:=_root_.id rfl
@[simp] theorem Lh {m q k n} : dX m (.ref q k n)=.ref q k n:=_root_.id rfl
@[simp] theorem PZ {p i0 o q i off} : ldc p i0 o (.adr q i off)=.adr q i off:=_root_.id rfl
@[simp] theorem KV {m q i off} : dX m (.adr q i off)=.adr q i off:=_root_.id rfl
@[simp] theorem P1 {p i0 o ds} : ldc p i0 o (.agx ds)=.agx ds:=_root_.id rfl
@[simp] theorem KX {m ds} : dX m (.agx ds)=.agx ds:=_root_.id rfl
@[simp] theorem Qj {p i0 o ds} : ldc p i0 o (.tpx ds)=.tpx ds:=_root_.id rfl
@[simp] theorem Ll {m ds} : dX m (.tpx ds)=.tpx ds:=_root_.id rfl
@[simp] theorem Qd {p i0 o ds} : ldc p i0 o (.ptx ds)=.ptx ds:=_root_.id rfl
@[simp] theorem Qf {p i0 o n sz ds} : ldc p i0 o (.rfx n sz ds)=.rfx n sz ds:=_root_.id rfl
@[simp] theorem Lg {m ds} : dX m (.ptx ds)=.ptx ds:=_root_.id rfl
@[simp] theorem Li {m n sz ds} : dX m (.rfx n sz ds)=.rfx n sz ds:=_root_.id rfl
@[simp] theorem P5 {p i0 o g ds} : ldc p i0 o (.fnx g ds)=.fnx g ds:=_root_.id rfl
@[simp] theorem P7 {p0 i0 o T p i off} : ldc p0 i0 o (.ifa T p i off)=.ifa T p i off:=_root_.id rfl
@[simp] theorem P8 {p0 i0 o T n} : ldc p0 i0 o (.ifi T n)=.ifi T n:=_root_.id rfl
@[simp] theorem Qg {p0 i0 o k es} : ldc p0 i0 o (.slv k es)=.slv k es:=_root_.id rfl
@[simp] theorem P6 {p0 i0 o g ds cs} : ldc p0 i0 o (.fny g ds cs)=.fny g ds cs:=_root_.id rfl
@[simp] theorem K0 {m g ds} : dX m (.fnx g ds)=.fnx g ds:=_root_.id rfl
@[simp] theorem La {m T p i off} : dX m (.ifa T p i off)=.ifa T p i off:=_root_.id rfl
@[simp] theorem Lb {m T n} : dX m (.ifi T n)=.ifi T n:=_root_.id rfl
@[simp] theorem Lj {m k es} : dX m (.slv k es)=.slv k es:=_root_.id rfl
@[simp] theorem K9 {m g ds cs} : dX m (.fny g ds cs)=.fny g ds cs:=_root_.id rfl
@[simp] theorem Gd {m} : dX m .nils=if m=0 then .nils else .own m []:=_root_.id rfl
def slx (b : Bool) (es : List (List D)) : D:=match b,es with
 | true,[]=>.nils
 | _,es=>.sl es
@[simp] theorem cq {es} : slx false es=.sl es:=by cases es <;> rfl
@[simp] theorem L8 {b x es} : slx b (x::es)=.sl (x::es):=by cases b <;> rfl
theorem ft (b : Bool) (es : List (List D)) : slx b es=.sl es \/ (slx b es=.nils /\ es=[]):=by cases b <;> cases es <;> simp [slx]
@[simp] theorem PV {b es} : isV (slx b es)=true:=by cases b <;> cases es <;> rfl
@[simp] theorem Oy {b es} : isK (slx b es)=true:=by cases b <;> cases es <;> rfl
@[simp] theorem Pf {b es} : isP (slx b es)=true:=by cases b <;> cases es <;> rfl
@[simp] theorem PA {b es} : isS (slx b es)=true:=by cases b <;> cases es <;> rfl
@[simp] theorem Jd {b es} : ay (slx b es)=true:=by cases b <;> cases es <;> rfl
@[simp] theorem OT {b es} : isO (slx b es)=false:=by cases b <;> cases es <;> rfl
@[simp] theorem Fd {b es} : cj (slx b es)=false:=by cases b <;> cases es <;> rfl
@[simp] theorem NF {b es} : isB (slx b es)=false:=by cases b <;> cases es <;> rfl
@[simp] theorem Ab {b es} : cellsOf (slx b es)=[slx b es]:=by cases b <;> cases es <;> rfl
@[simp] theorem DI {b es} : bR (slx b es)=slx b es:=by cases b <;> cases es <;> rfl
@[simp] theorem Ee {b es} : aW (slx b es)=slx b es:=by cases b <;> cases es <;> rfl
@[simp] theorem AL {b es} : aD (slx b es)=[]:=by cases b <;> cases es <;> rfl
@[simp] theorem CH {b es} : bj (slx b es)=[]:=by cases b <;> cases es <;> rfl
@[simp] theorem MV {f : Nat -> D} {b es} : dp1 f (slx b es)=slx b es:=by cases b <;> cases es <;> rfl
@[simp] theorem RT {f : Nat -> D} {b es} : dp f (slx b es)=slx b es:=by cases b <;> cases es <;> rfl
@[simp] theorem EC {f : Nat -> D} {b es} : aK f (slx b es)=True:=by cases b <;> cases es <;> rfl
@[simp] theorem HZ {f : Nat -> D} {b es} : br f (slx b es)=True:=by cases b <;> cases es <;> rfl
@[simp] theorem Qh {p i o b es} : ldc p i o (slx b es)=slx b es:=by cases b <;> cases es <;> rfl
def qX (d : D) (K : Nat -> Prop) (_ : Tag K) : Prop:=match d with
 | .sl es=>K es.length
 | .nils=>K 0
 | .ref _ _ n=>K n
 | .rfx n _ _=>K n
 | _=>False
@[simp] theorem KA {n sz ds K u} : qX (.rfx n sz ds) K u=K n:=_root_.id rfl
@[simp] theorem Ql {es K u} : qX (.sl es) K u=K es.length:=_root_.id rfl
@[simp] theorem zfs {K u} : qX .nils K u=K 0:=_root_.id rfl
@[simp] theorem Kz {p k n K u} : qX (.ref p k n) K u=K n:=_root_.id rfl
@[simp] theorem KB {b es K u} : qX (slx b es) K u=K es.length:=by cases b <;> cases es <;> rfl
@[simp] theorem Gz {n ds} : lK true n ds=.agg (ds.take n):=_root_.id rfl
@[simp] theorem CR {n ds} : lK false n ds=ds.headD .any:=_root_.id rfl
@[simp] theorem KF {t} : ac [] t=.any:=rfl
def lk (b : Bool) (d : D) (r : Env) (t : Nat) : D:=match b with
 | true=>d
 | false=>ac r t
@[simp] theorem Qm {d r t} : lk true d r t=d:=rfl
@[simp] theorem KC {d r t} : lk false d r t=ac r t:=rfl
@[simp] theorem FT {s d r t} : ac ((s,d)::r) t=lk (s == t) d r t:=by
 by_cases h : s=t
 ·subst h;simp [ac]
 ·rw [show (s == t)=false by simp [h]];simp [ac,h]
@[simp] theorem Fu {e} : pI [] e=[]:=_root_.id rfl
@[simp] theorem B5 {t ts e} : pI (t::ts) e=(t,ac e t)::pI ts e:=_root_.id rfl
@[simp] theorem AX : lP []=[]:=_root_.id rfl
@[simp] theorem yx {t d r} : lP ((t,d)::r)=bj d++lP r:=_root_.id rfl
@[simp] theorem GY {e ks} : sO e [] ks=ks:=_root_.id rfl
@[simp] theorem Dp {e r rs ks} : sO e (r::rs) ks=sO e rs (if (ks.map (·.1)).contains r then ks else ks++[(r,ac e r)]):=_root_.id rfl
def gc (f : Nat -> D) (d : D) (ns : List Nat) (K : List D -> List Nat -> Prop) (_ : Tag K) : Prop:=fv f d ns K
def fN (f : Nat -> D) (d : D) (K : D -> List Nat -> Prop) (_ : Tag K) : Prop:=dF f d K
def pa (f : Nat -> D) (ds : List D) (K : List D -> List Nat -> Prop) (_ : Tag K) : Prop:=lh f ds K
def uo (b n : Nat) (x : D) (K : D -> List Nat -> Prop) (_ : Tag K) : Prop:=match x with
 | .blk sz es=>es.length=n /\ (∀ e ∈ es,∀ c ∈ e,ay c=true) /\ K (.own sz es) [b]
 | _=>False
@[simp] theorem GN {b n sz es K u} : uo b n (.blk sz es) K u=(es.length=n /\ (∀ e ∈ es,∀ c ∈ e,ay c=true) /\ K (.own sz es) [b]):=_root_.id rfl
theorem dQ {f : Nat -> D} {d : D} {K : D -> List Nat -> Prop} {u} (h : ay d=true) : fN f d K u=K d []:=by
 cases d <;> simp [ay] at h <;> simp [fN,dF,ay]
@[simp] theorem Di {f b k n K u} : fN f (.ref (.r b) k n) K u=(k=0 /\ uo b n (f b) K ⟨⟩):=by
 simp only [fN,dF,uo]
 cases f b <;> rfl
theorem fg {f : Nat -> D} {d : D} {K : List D -> List Nat -> Prop} {u} (h : ay d=true) : gc f d [] K u=K [d] []:=by
 cases d <;> simp [ay] at h <;> simp [gc,fv,dF,ay,eP]
@[simp] theorem GQ {f ds K u} : gc f (.agg ds) [] K u=((∀ c ∈ ds,ay c=true) /\ K ds []):=by simp [gc,fv,eP]
@[simp] theorem GR {f ds K u} : gc f (.agx ds) [] K u=pa f ds (fun cs bs=>bL bs=true /\ K cs bs) ⟨⟩:=by simp [gc,pa,fv,eP]
@[simp] theorem GU {f b k n K u} : gc f (.ref (.r b) k n) [] K u=(k=0 /\ uo b n (f b) (fun c bs=>K [c] bs) ⟨⟩):=by
 simp only [gc,fv,dF,uo,eP,if_true,true_or,true_and]
 cases f b <;> rfl
@[simp] theorem Dl {f K u} : pa f [] K u=K [] []:=_root_.id rfl
@[simp] theorem Bf {f d ds K u} : pa f (d::ds) K u=fN f d (fun c bs=>pa f ds (fun cs bs'=>K (c::cs) (bs++bs')) ⟨⟩) ⟨⟩:=_root_.id rfl
@[simp] theorem Dg {f k n K u} : fN f (.int k n) K u=K (.int k n) []:=dQ rfl
@[simp] theorem GS {f k n K u} : gc f (.int k n) [] K u=K [.int k n] []:=fg rfl
@[simp] theorem Bc {f n K u} : fN f (.bool n) K u=K (.bool n) []:=dQ rfl
@[simp] theorem Dm {f n K u} : gc f (.bool n) [] K u=K [.bool n] []:=fg rfl
@[simp] theorem Dk {f n K u} : fN f (.str n) K u=K (.str n) []:=dQ rfl
@[simp] theorem GW {f n K u} : gc f (.str n) [] K u=K [.str n] []:=fg rfl
@[simp] theorem Bd {f  K u} : fN f .nilp K u=K .nilp []:=dQ rfl
@[simp] theorem Dn {f  K u} : gc f .nilp [] K u=K [.nilp] []:=fg rfl
@[simp] theorem Be {f  K u} : fN f .nils K u=K .nils []:=dQ rfl
@[simp] theorem Do {f  K u} : gc f .nils [] K u=K [.nils] []:=fg rfl
@[simp] theorem GP {f n K u} : fN f (.sl n) K u=K (.sl n) []:=dQ rfl
@[simp] theorem Mo {f n K u} : gc f (.sl n) [] K u=K [.sl n] []:=fg rfl
@[simp] theorem Dh {f n K u} : fN f (.ptr n) K u=K (.ptr n) []:=dQ rfl
@[simp] theorem GT {f n K u} : gc f (.ptr n) [] K u=K [.ptr n] []:=fg rfl
@[simp] theorem GO {f g n K u} : fN f (.fn g n) K u=K (.fn g n) []:=dQ rfl
@[simp] theorem Mn {f g n K u} : gc f (.fn g n) [] K u=K [.fn g n] []:=fg rfl
@[simp] theorem Dj {f b n K u} : fN f (slx b n) K u=K (slx b n) []:=dQ (by simp)
@[simp] theorem GV {f b n K u} : gc f (slx b n) [] K u=K [slx b n] []:=fg (by simp)
def oM (f : Nat -> D) (sz : Nat) (ps : List (Nat × Opd)) (es : List (List D)) (bs : List Nat) (K : List (List D) -> List Nat -> Prop) (_ : Tag K) : Prop:=eX f sz [] ps es bs K
@[simp] theorem CS {f sz es bs K u} : oM f sz [] es bs K u=K es bs:=_root_.id rfl
@[simp] theorem AU {f sz i x ps es bs K u} : oM f sz ((i,x)::ps) es bs K u=(i < es.length /\ gc f (vd f x) [] (fun cs bs'=>cs.length=sz /\ oM f sz ps (es.set i cs) (bs++bs') K ⟨⟩) ⟨⟩):=_root_.id rfl
def iH (f : Nat -> D) (mv : Bool) (d : D) (sz : Nat) (K : List (List D) -> List Nat -> Prop) (_ : Tag K) : Prop:=fe f mv d sz K
def CV (b n sz : Nat) (x : D) (K : List (List D) -> List Nat -> Prop) (_ : Tag K) : Prop:=match x with
 | .blk sz' es=>sz'=sz /\ es.length=n /\ (∀ e ∈ es,∀ c ∈ e,isC c=true) /\ K es [b]
 | _=>False
@[simp] theorem LN {b n sz sz' es K u} : CV b n sz (.blk sz' es) K u=(sz'=sz /\ es.length=n /\ (∀ e ∈ es,∀ c ∈ e,isC c=true) /\ K es [b]):=_root_.id rfl
def CW (k n sz : Nat) (x : Option (Nat × List (List D))) (K : List (List D) -> List Nat -> Prop) (_ : Tag K) : Prop:=match x with
 | some (sz',es)=>sz'=sz /\ k + n <= es.length /\ (∀ e ∈ (es.drop k).take n,∀ c ∈ e,ay c=true) /\ K ((es.drop k).take n) []
 | none=>False
@[simp] theorem GC {k n sz sz' es K u} : CW k n sz (some (sz',es)) K u=(sz'=sz /\ k + n <= es.length /\ (∀ e ∈ (es.drop k).take n,∀ c ∈ e,ay c=true) /\ K ((es.drop k).take n) []):=_root_.id rfl
@[simp] theorem CX {f mv sz K u} : iH f mv .nils sz K u=K [] []:=_root_.id rfl
@[simp] theorem LU {f mv es sz K u} : iH f mv (.sl es) sz K u=((∀ e ∈ es,e.length=sz /\ ∀ c ∈ e,ay c=true) /\ K es []):=_root_.id rfl
@[simp] theorem GG {f mv b es sz K u} : iH f mv (slx b es) sz K u=((∀ e ∈ es,e.length=sz /\ ∀ c ∈ e,ay c=true) /\ K es []):=by
 rcases ft b es with h | ⟨h,rfl⟩ <;> rw [h] <;> simp
@[simp] theorem LT {f b k n sz K u} : iH f true (.ref (.r b) k n) sz K u=(k=0 /\ CV b n sz (f b) K ⟨⟩):=by
 simp only [iH,fe,CV]
 cases f b <;> rfl
@[simp] theorem GF {f p k n sz K u} : iH f false (.ref p k n) sz K u=CW k n sz (aP f p) K ⟨⟩:=by
 simp only [iH,fe,CW]
 cases aP f p <;> rfl
def dt (f : Nat -> D) (o : Option Opd) (dflt : Nat) (K : Nat -> Prop) (_ : Tag K) : Prop:=dG f o dflt K
def He (d : D) (K : Nat -> Prop) (_ : Tag K) : Prop:=match d with
 | .int _ n=>0 <= n /\ K n.toNat
 | _=>False
@[simp] theorem Hf {k n K u} : He (.int k n) K u=(0 <= n /\ K n.toNat):=_root_.id rfl
@[simp] theorem zG {f n K u} : dt f none n K u=K n:=_root_.id rfl
@[simp] theorem zH {f x n K u} : dt f (some x) n K u=He (vd f x) K ⟨⟩:=_root_.id rfl
def f8 (x : Option (List D)) (K : List D -> Prop) (_ : Tag K) : Prop:=match x with
 | some r=>K r
 | none=>False
@[simp] theorem GE {r K u} : f8 (some r) K u=K r:=_root_.id rfl
@[simp] theorem GD {K u} : f8 none K u=False:=_root_.id rfl
theorem fh {x : Option (List D)} {K : List D -> Prop} {u} : f8 x K u=∃ r,x=some r /\ K r:=by
 cases x <;> simp [f8]
def jt (x : Option D) (K : Nat -> List (List D) -> Prop) (_ : Tag K) : Prop:=match x with
 | some (.own sz es)=>K sz es
 | _=>False
@[simp] theorem LF {sz es K u} : jt (some (.own sz es)) K u=K sz es:=_root_.id rfl
theorem iX {x : Option D} {K : Nat -> List (List D) -> Prop} {u} : jt x K u=∃ sz es,x=some (.own sz es) /\ K sz es:=by
 cases x with
 | none=>simp [jt]
 | some d =>
  cases d <;> simp [jt]
  exact ⟨fun h=>⟨_,_,⟨rfl,rfl⟩,h⟩,by rintro ⟨_,_,⟨rfl,rfl⟩,h⟩;exact h⟩
def xp (x : Option D) (K : D -> Prop) (_ : Tag K) : Prop:=match x with
 | some d=>K d
 | none=>False
@[simp] theorem DW {d K u} : xp (some d) K u=K d:=_root_.id rfl
theorem xq {x : Option D} {K : D -> Prop} {u} : xp x K u=∃ d,x=some d /\ K d:=by
 cases x <;> simp [xp]
def cR (x : D) (K : Nat -> List (List D) -> Prop) (_ : Tag K) : Prop:=match x with
 | .blk sz es=>K sz es
 | _=>False
@[simp] theorem Hd {sz es K u} : cR (.blk sz es) K u=K sz es:=_root_.id rfl
abbrev CC:=Nat -> List D -> D -> List D -> Prop
abbrev KT:=List (Nat × D) -> List (Nat × Bool) -> Prop
section
variable {C : CC} {Q : cg -> Env -> Prop} {e e' : Env} {d : D}
def wN (C : CC) (c : dx) (Q : cg -> Env -> Prop) (_ : Tag (c,Q)) (e : Env) : Prop:=wpN C c Q e
def sg (C : CC) (c : dx) (Q : cg -> Env -> Prop) (_ : Tag (c,Q)) (e : Env) : Prop:=wpN C (.loop c) Q e
def tz (C : CC) (K : Env -> Prop) (ns : List aq) (_ : Tag (K,ns)) (e : Env) : Prop:=gW C K ns e
def rk (C : CC) (hs : List Nat) (K : Env -> Prop) (ns : List aq) (_ : Tag (K,ns)) (e : Env) (acc : List (List Nat × List Nat)) : Prop:=je C hs K ns e acc
def IH (hs : List Nat) (acc : List (List Nat × List Nat)) : Prop:=jM hs acc.reverse=true
theorem aC {hs : List Nat} {acc : List (List Nat × List Nat)} (h : jM hs acc.reverse=true) : IH hs acc:=h
def Aj (C : CC) (K : Env -> Prop) (ns : List aq) (e : Env) : KT:=fun ws ks=>gW C K ns (ws++dM ks e)
def Hu (C : CC) (hs : List Nat) (K : Env -> Prop) (ns : List aq) (e : Env) (R : List Nat) (acc : List (List Nat × List Nat)) : KT:=fun ws ks=>wOk R ws ks=true /\ je C hs K ns (ws++dM ks e) ((R,wrK ws ks)::acc)
def doT (C : CC) (K : Env -> Prop) (ns : List aq) (_ : Tag (K,ns)) (e : Env) (ws : List (Nat × D)) (ks : List (Nat × Bool)) : Prop:=gW C K ns (ws++dM ks e)
def bQ (Q : cg -> Env -> Prop) (_ : Tag Q) (t : cg) (e : Env) : Prop:=Q t e
def fin (res : List (Nat × Option (Nat × Bool))) (d : D) : cg -> Env -> Prop:=fun t e=>(match t with
   | .ext _=>False
   | _=>True) /\ fd res d e
def yD (C : CC) (y : dx) (Q : cg -> Env -> Prop) : cg -> Env -> Prop:=fun t e'=>match t with
  | .nrm=>wpN C y Q e'
  | t=>Q t e'
def oc (id : Nat) (Q : cg -> Env -> Prop) : cg -> Env -> Prop:=fun t e'=>match t with
  | .ext i=>if i=id then Q .nrm e' else Q (.ext i) e'
  | t=>Q t e'
def yv (keep : List Nat) (Q : cg -> Env -> Prop) : Env -> Prop:=fun e'=>Q .nrm (prune keep e')
def kOf (C : CC) (hs : Option (List Nat)) (K : Env -> Prop) (ns : List aq) (e : Env) (R : List Nat) (acc : List (List Nat × List Nat)) : KT :=
 match hs with
 | none=>Aj C K ns e
 | some hs=>Hu C hs K ns e R acc
def doW (C : CC) (hs : Option (List Nat)) (K : Env -> Prop) (ns : List aq) (_ : Tag (hs,K,ns)) (e : Env) (R : List Nat) (acc : List (List Nat × List Nat)) (ws : List (Nat × D)) (ks : List (Nat × Bool)) : Prop:=kOf C hs K ns e R acc ws ks
def opW (C : CC) (hs : Option (List Nat)) (K : Env -> Prop) (ns : List aq) (dst : Option Nat) (op : NOp) (_ : Tag (hs,K,ns,dst,op)) (e : Env) (R : List Nat) (acc : List (List Nat × List Nat)) : Prop:=au C (ac e) dst (kOf C hs K ns e R acc) op
def dW (C : CC) (hs : Option (List Nat)) (K : Env -> Prop) (ns : List aq) (dst : Option Nat) (_ : Tag (hs,K,ns)) (e : Env) (R : List Nat) (acc : List (List Nat × List Nat)) (d : D) : Prop:=cS dst (kOf C hs K ns e R acc) d
def pg (C : CC) (g : Nat) (hs : Option (List Nat)) (K : Env -> Prop) (ns : List aq) (dst : Option Nat) (_ : Tag (hs,K,ns)) (e : Env) (R : List Nat) (acc : List (List Nat × List Nat)) (pure : Bool) (ds : List D) : Prop :=
 ∃ d,C g ds d [] /\ (isF d=true \/ pure=true) /\ cS dst (kOf C hs K ns e R acc) d
theorem aF {prog : Nat -> Option aL} (hC : aB prog C) {g : Nat} {nf : aL} {ds : List D} (hp : prog g=some nf) (hl : ds.length=nf.np) (h : wN C nf.body (fin nf.res d) ⟨⟩ (params 0 ds)) : C g ds d []:=hC.1.1 g nf ds d hp hl h
def qF (res : List (Nat × Option (Nat × Bool))) (sz : Nat) (es : List (List D)) : cg -> Env -> Prop:=fun t e=>(match t with
   | .ext _=>False
   | _=>True) /\ jw res sz es e
theorem mZ {prog : Nat -> Option aL} (hC : aB prog C) {g : Nat} {nf : aL} {ds : List D} {sz : Nat} {es : List (List D)} (hp : prog g=some nf) (hl : ds.length=nf.np) (h : wN C nf.body (qF nf.res sz es) ⟨⟩ (params 0 ds)) : C g ds .any [.own sz es]:=hC.1.2.2.1 g nf ds sz es hp hl h
def tc (res : List (Nat × Option (Nat × Bool))) (d : D) : cg -> Env -> Prop:=fun t e=>(match t with
   | .ext _=>False
   | _=>True) /\ jv res d e
def qG (res : List (Nat × Option (Nat × Bool))) (d : D) (sz : Nat) (es' : List (List D)) : cg -> Env -> Prop:=fun t e=>(match t with
   | .ext _=>False
   | _=>True) /\ (0 < es'.length /\ ac e 10015=.blk sz es') /\ fd res d ((10015,.any)::e)
theorem fJ {prog : Nat -> Option aL} (hC : gJ prog C) {g : Nat} {nf : aL} {W : List D} {d : D} {sz : Nat} {es es' : List (List D)} (hp : prog g=some nf) (hl : W.length=nf.np) (h : wN C nf.body (qG nf.res d sz es') ⟨⟩ (params 0 W++[(10015,.blk sz es)])) : C g (.blk sz es::W) d [.blk sz es',.nilp]:=hC.2.2.2.2.2.1 g nf W d sz es es' hp hl h
def td (res : List (Nat × Option (Nat × Bool))) (sz : Nat) (es : List (List D)) : cg -> Env -> Prop:=fun t e=>(match t with
   | .ext _=>False
   | _=>True) /\ jx res sz es e
def tb (res : List (Nat × Option (Nat × Bool))) (R : D) : cg -> Env -> Prop:=fun t e=>(match t with
   | .ext _=>False
   | _=>True) /\ qb res R e
def Bk (C : CC) (g : Nat) (hs : Option (List Nat)) (K : Env -> Prop) (ns : List aq) (t : Nat) (_ : Tag (hs,K,ns)) (e : Env) (R : List Nat) (acc : List (List Nat × List Nat)) (ds : List D) : Prop :=
 (∃ d,C g ds d [] /\ cS (some t) (kOf C hs K ns e R acc) d) \/ ∃ d,okR d=true /\ C g ds d [.nils] /\ kOf C hs K ns e R acc ((t,dU t d)::aO t d) (dL t d)
def Bl (C : CC) (g : Nat) (hs : Option (List Nat)) (K : Env -> Prop) (ns : List aq) (dst : Option Nat) (_ : Tag (hs,K,ns)) (e : Env) (R : List Nat) (acc : List (List Nat × List Nat)) (ds : List D) : Prop :=
 ∃ d,C g ds d [.nilp] /\ cS dst (kOf C hs K ns e R acc) d
def ux (C : CC) (g : Nat) (hs : Option (List Nat)) (K : Env -> Prop) (ns : List aq) (t : Nat) (_ : Tag (hs,K,ns)) (e : Env) (R : List Nat) (acc : List (List Nat × List Nat)) (ds : List D) : Prop :=
 ∃ sz es,C g ds .any [.own sz es] /\ kOf C hs K ns e R acc [(t,.ref (.r (rt t 0)) 0 es.length),(rt t 0,.blk sz es)] [(rt t 0,true)]
theorem kz {g : Nat} {hs : Option (List Nat)} {K : Env -> Prop} {ns : List aq} {t : Nat} {u : Tag (hs,K,ns)} {R : List Nat} {acc : List (List Nat × List Nat)} {ds : List D} {sz : Nat} {es : List (List D)} (h : C g ds .any [.own sz es]) (hk : doW C hs K ns ⟨⟩ e R acc [(t,.ref (.r (rt t 0)) 0 es.length),(rt t 0,.blk sz es)] [(rt t 0,true)]) : ux C g hs K ns t u e R acc ds:=⟨sz,es,h,hk⟩
def uy (C : CC) (g : Nat) (hs : Option (List Nat)) (K : Env -> Prop) (ns : List aq) (dst : Option Nat) (_ : Tag (hs,K,ns)) (e : Env) (R : List Nat) (acc : List (List Nat × List Nat)) (b sz : Nat) (es : List (List D)) (ds : List D) (p : Bool) : Prop:=match dst with
 | none=>∃ es' : List (List D),es'.length=es.length /\ (∀ e ∈ es',e.length=sz /\ ∀ c ∈ e,ay c=true) /\ (p=true \/ ∀ e ∈ es',∀ c ∈ e,aU c=true) /\ C g (.own sz es::ds) .any [.own sz es',.nilp] /\ doW C hs K ns ⟨⟩ e R acc [(b,.blk sz es')] []
 | some t=>(∃ es' : List (List D),es'.length=es.length /\ (∀ e ∈ es',e.length=sz /\ ∀ c ∈ e,ay c=true) /\ (p=true \/ ∀ e ∈ es',∀ c ∈ e,aU c=true) /\ C g (.own sz es::ds) .any [.own sz es',.nilp] /\ doW C hs K ns ⟨⟩ e R acc [(t,.tup []),(b,.blk sz es')] []) \/ (b ≠ rt t 0 /\ 0 < sz /\ ∃ es' : List (List D),(∀ e ∈ es',e.length=sz /\ ∀ c ∈ e,ay c=true) /\ (p=true \/ ∀ e ∈ es',∀ c ∈ e,aU c=true) /\ C g (.own sz es::ds) .any [.own sz es',.nils] /\ doW C hs K ns ⟨⟩ e R acc [(t,.ref (.r (rt t 0)) 0 es'.length),(rt t 0,.blk sz es'),(b,.any)] [(rt t 0,true)])
def C8 (C : CC) (g : Nat) (hs : Option (List Nat)) (K : Env -> Prop) (ns : List aq) (dst : Option Nat) (_ : Tag (hs,K,ns)) (e : Env) (R : List Nat) (acc : List (List Nat × List Nat)) (b n : Nat) (xs : List Opd) (d : D) : Prop:=match d with
 | .blk sz es=>es.length=n /\ (∀ e ∈ es,∀ c ∈ e,ay c=true) /\ (∀ x ∈ xs,br (fbE (ac e) b) (vd (fbE (ac e) b) x)) /\ uy C g hs K ns dst ⟨⟩ e R acc b sz es (xs.map (dpv (fbE (ac e) b))) (xs.all fun y=>isV (vd (fbE (ac e) b) y))
 | _=>False
def Mc (C : CC) (g : Nat) (hs : Option (List Nat)) (K : Env -> Prop) (ns : List aq) (dst : Option Nat) (_ : Tag (hs,K,ns)) (e : Env) (R : List Nat) (acc : List (List Nat × List Nat)) (xs : List Opd) (d : D) : Prop:=match d with
 | .ref (.r b) k n=>k=0 /\ C8 C g hs K ns dst ⟨⟩ e R acc b n xs (ac e b)
 | _=>False
@[simp] theorem RZ {f : Nat -> D} {b t : Nat} : fbE f b t=if t=b then .any else f t:=_root_.id rfl
theorem ab {g : Nat} {hs : Option (List Nat)} {K : Env -> Prop} {ns : List aq} {dst : Option Nat} {u : Tag (hs,K,ns)} {R : List Nat} {acc : List (List Nat × List Nat)} {p : Bool} {ds : List D} (h : C g ds d []) (hf : isF d=true \/ p=true) (hk : dW C hs K ns dst ⟨⟩ e R acc d) : pg C g hs K ns dst u e R acc p ds:=⟨d,h,hf,hk⟩
def oT (S : Type) (G : S -> Env) (I : S -> Prop) (m : S -> Nat) (s : S) (Q : cg -> Env -> Prop) : cg -> Env -> Prop:=fun t e'=>match t with
    | .nrm=>∃ s',I s' /\ m s' < m s /\ jC e' (G s')
    | t=>Q t e'
theorem aE {c : dx} {u : Tag (c,Q)} (S : Type) (G : S -> Env) (I : S -> Prop) (m : S -> Nat) (s0 : S) (h0 : I s0) (hw : jC e (G s0))
  (h : ∀ s,I s -> wN C c (oT S G I m s Q) ⟨⟩ (G s)) : sg C c Q u e:=⟨S,G,I,m,s0,h0,hw,h⟩
@[simp] theorem Rl {u} : wN C .skip Q u e=bQ Q ⟨⟩ .nrm e:=_root_.id rfl
@[simp] theorem SX {hs keep ops u} : wN C (.reg false hs keep ops) Q u e=tz C (yv keep Q) ops ⟨⟩ e:=_root_.id rfl
@[simp] theorem Ri {hs keep ops u} : wN C (.reg true hs keep ops) Q u e=rk C hs (yv keep Q) ops ⟨⟩ e []:=_root_.id rfl
@[simp] theorem SZ {x y u} : wN C (.seq x y) Q u e=wN C x (yD C y Q) ⟨⟩ e:=_root_.id rfl
def brB (b : Bool) (X Y : Prop) (_ : Tag (X,Y)) : Prop:=(b=true -> X) /\ (b=false -> Y)
theorem al {b : Bool} {X Y : Prop} {u} (h1 : b=true -> X) (h2 : b=false -> Y) : brB b X Y u:=⟨h1,h2⟩
@[simp] theorem Hm {X Y : Prop} {u} : brB true X Y u=X:=by simp [brB]
@[simp] theorem DV {X Y : Prop} {u} : brB false X Y u=Y:=by simp [brB]
def cdW (C : CC) (x y : dx) (Q : cg -> Env -> Prop) (_ : Tag (x,y,Q)) (e : Env) (d : D) : Prop:=match d with
 | .bool b=>brB b (wN C x Q ⟨⟩ e) (wN C y Q ⟨⟩ e) ⟨⟩
 | .bb=>wN C x Q ⟨⟩ e /\ wN C y Q ⟨⟩ e
 | _=>False
@[simp] theorem Rp {x y u} : cdW C x y Q u e .bb=(wN C x Q ⟨⟩ e /\ wN C y Q ⟨⟩ e):=_root_.id rfl
@[simp] theorem Hn {x y u b} : cdW C x y Q u e (.bool b)=brB b (wN C x Q ⟨⟩ e) (wN C y Q ⟨⟩ e) ⟨⟩:=_root_.id rfl
@[simp] theorem Rh {c x y u} : wN C (.cond c x y) Q u e=cdW C x y Q ⟨⟩ e (vd (ac e) c):=_root_.id rfl
@[simp] theorem Mk {id c u} : wN C (.block id c) Q u e=wN C c (oc id Q) ⟨⟩ e:=_root_.id rfl
@[simp] theorem Rk {c u} : wN C (.loop c) Q u e=sg C c Q ⟨⟩ e:=_root_.id rfl
@[simp] theorem Rj {id u} : wN C (.exit id) Q u e=bQ Q ⟨⟩ (.ext id) e:=_root_.id rfl
@[simp] theorem SY {u} : wN C .ret Q u e=bQ Q ⟨⟩ .ret e:=_root_.id rfl
@[simp] theorem xP {y u} : bQ (yD C y Q) u .nrm e=wN C y Q ⟨⟩ e:=_root_.id rfl
@[simp] theorem xO {y u i} : bQ (yD C y Q) u (.ext i) e=bQ Q ⟨⟩ (.ext i) e:=_root_.id rfl
@[simp] theorem xQ {y u} : bQ (yD C y Q) u .ret e=bQ Q ⟨⟩ .ret e:=_root_.id rfl
@[simp] theorem uQ {id u} : bQ (oc id Q) u .nrm e=bQ Q ⟨⟩ .nrm e:=_root_.id rfl
@[simp] theorem uP {id u i} : bQ (oc id Q) u (.ext i) e=if i=id then bQ Q ⟨⟩ .nrm e else bQ Q ⟨⟩ (.ext i) e:=_root_.id rfl
@[simp] theorem uR {id u} : bQ (oc id Q) u .ret e=bQ Q ⟨⟩ .ret e:=_root_.id rfl
@[simp] theorem xG {r u} : bQ (fin r d) u .nrm e=fd r d e:=by simp [bQ,fin]
@[simp] theorem xH {r u} : bQ (fin r d) u .ret e=fd r d e:=by simp [bQ,fin]
@[simp] theorem wY {r d} {u : Tag (tc r d)} : bQ (tc r d) u .nrm e=jv r d e:=by simp [bQ,tc]
@[simp] theorem wZ {r d} {u : Tag (tc r d)} : bQ (tc r d) u .ret e=jv r d e:=by simp [bQ,tc]
@[simp] theorem wW {r sz es} {u : Tag (qF r sz es)} : bQ (qF r sz es) u .nrm e=jw r sz es e:=by simp [bQ,qF]
@[simp] theorem wX {r sz es} {u : Tag (qF r sz es)} : bQ (qF r sz es) u .ret e=jw r sz es e:=by simp [bQ,qF]
@[simp] theorem xc {r d sz es} {u : Tag (qG r d sz es)} : bQ (qG r d sz es) u .nrm e=((0 < es.length /\ ac e 10015=.blk sz es) /\ fd r d ((10015,.any)::e)):=by simp [bQ,qG]
@[simp] theorem xd {r d sz es} {u : Tag (qG r d sz es)} : bQ (qG r d sz es) u .ret e=((0 < es.length /\ ac e 10015=.blk sz es) /\ fd r d ((10015,.any)::e)):=by simp [bQ,qG]
@[simp] theorem xa {r sz es} {u : Tag (td r sz es)} : bQ (td r sz es) u .nrm e=jx r sz es e:=by simp [bQ,td]
@[simp] theorem xb {r sz es} {u : Tag (td r sz es)} : bQ (td r sz es) u .ret e=jx r sz es e:=by simp [bQ,td]
@[simp] theorem wU {r d} {u : Tag (tb r d)} : bQ (tb r d) u .nrm e=qb r d e:=by simp [bQ,tb]
@[simp] theorem wV {r d} {u : Tag (tb r d)} : bQ (tb r d) u .ret e=qb r d e:=by simp [bQ,tb]
@[simp] theorem uT {S G I m s u} : bQ (oT S G I m s Q) u .nrm e=∃ s',I s' /\ m s' < m s /\ jC e (G s'):=_root_.id rfl
@[simp] theorem uS {S G I m s u i} : bQ (oT S G I m s Q) u (.ext i) e=bQ Q ⟨⟩ (.ext i) e:=_root_.id rfl
@[simp] theorem uU {S G I m s u} : bQ (oT S G I m s Q) u .ret e=bQ Q ⟨⟩ .ret e:=_root_.id rfl
end
section
variable {C : CC} {Q : cg -> Env -> Prop} {e : Env} {K : Env -> Prop} {dst : Option Nat} {d : D} {hs : Option (List Nat)} {ns : List aq} {R : List Nat} {acc : List (List Nat × List Nat)} {u : Tag (hs,K,ns)}
@[simp] theorem LC {keep u} : tz C (yv keep Q) [] u e=bQ Q ⟨⟩ .nrm (prune keep e):=_root_.id rfl
@[simp] theorem LB {h keep u} : rk C h (yv keep Q) [] u e acc=(IH h acc /\ bQ Q ⟨⟩ .nrm (prune keep e)):=_root_.id rfl
@[simp] theorem Gu {dst op ns u} : tz C K (⟨dst,op,none⟩::ns) u e=opW C none K ns dst op ⟨⟩ e [] []:=_root_.id rfl
@[simp] theorem Gs {h dst op ns u} : rk C h K (⟨dst,op,none⟩::ns) u e acc=(chk (ac e) ⟨dst,op,none⟩=true /\ opW C (some h) K ns dst op ⟨⟩ e (ir (ac e) ⟨dst,op,none⟩) acc):=_root_.id rfl
def mW (C : CC) (h : List Nat) (K : Env -> Prop) (ns : List aq) (_ : Tag (h,K,ns)) (e : Env) (dst : Option Nat) (R : List Nat) (acc : List (List Nat × List Nat)) : Prop:=gB e dst fun e'=>je C h K ns e' ((R,s7 dst)::acc)
@[simp] theorem C1 {h t ns u} : mW C h K ns u e (some t) R acc=rk C h K ns ⟨⟩ ((t,.tup [])::e) ((R,[4 * t])::acc):=_root_.id rfl
@[simp] theorem C0 {h ns u} : mW C h K ns u e none R acc=rk C h K ns ⟨⟩ e ((R,[])::acc):=_root_.id rfl
def gdT (C : CC) (K : Env -> Prop) (ns : List aq) (dst : Option Nat) (op : NOp) (s : Nat) (want : Bool) (_ : Tag (K,ns)) (e : Env) (d : D) : Prop:=match d with
 | .bool b=>(b=want -> opW C none K ns dst op ⟨⟩ ((s,.bool want)::e) [] []) /\ (b=!want -> dW C none K ns dst ⟨⟩ ((s,.bool !want)::e) [] [] (.tup []))
 | .tup []=>dW C none K ns dst ⟨⟩ e [] [] (.tup [])
 | _=>False
@[simp] theorem Ip {op s b u} : gdT C K ns dst op s true u e (.bool b)=brB b (opW C none K ns dst op ⟨⟩ ((s,.bool true)::e) [] []) (dW C none K ns dst ⟨⟩ ((s,.bool false)::e) [] [] (.tup [])) ⟨⟩:=_root_.id rfl
@[simp] theorem EO {op s b u} : gdT C K ns dst op s false u e (.bool b)=brB b (dW C none K ns dst ⟨⟩ ((s,.bool true)::e) [] [] (.tup [])) (opW C none K ns dst op ⟨⟩ ((s,.bool false)::e) [] []) ⟨⟩:=by
 simp only [gdT,brB,Bool.not_false];exact propext ⟨fun h=>⟨h.2,h.1⟩,fun h=>⟨h.2,h.1⟩⟩
@[simp] theorem Io {op s want u} : gdT C K ns dst op s want u e (.tup [])=dW C none K ns dst ⟨⟩ e [] [] (.tup []):=_root_.id rfl
@[simp] theorem Gw {dst op s want ns u} : tz C K (⟨dst,op,some (s,want)⟩::ns) u e=gdT C K ns dst op s want ⟨⟩ e (ac e s):=by
 simp only [tz,gW,opW,qm,gB,gdT,dW,cS,kOf,Aj,dM]
 cases ac e s <;> cases dst <;> (first | rfl | (rename_i x _ ;cases x <;> rfl) | (rename_i x;cases x <;> rfl))
def gdD (C : CC) (h : List Nat) (K : Env -> Prop) (ns : List aq) (dst : Option Nat) (op : NOp) (want : Bool) (_ : Tag (K,ns)) (e : Env) (R : List Nat) (acc : List (List Nat × List Nat)) (d : D) : Prop:=match d with
 | .bool b=>(b=want -> opW C (some h) K ns dst op ⟨⟩ e R acc) /\ (b=!want -> mW C h K ns ⟨⟩ e dst R acc)
 | .tup []=>mW C h K ns ⟨⟩ e dst R acc
 | _=>False
@[simp] theorem In {h op b u} : gdD C h K ns dst op true u e R acc (.bool b)=brB b (opW C (some h) K ns dst op ⟨⟩ e R acc) (mW C h K ns ⟨⟩ e dst R acc) ⟨⟩:=_root_.id rfl
@[simp] theorem EN {h op b u} : gdD C h K ns dst op false u e R acc (.bool b)=brB b (mW C h K ns ⟨⟩ e dst R acc) (opW C (some h) K ns dst op ⟨⟩ e R acc) ⟨⟩:=by
 simp only [gdD,brB,Bool.not_false];exact propext ⟨fun h=>⟨h.2,h.1⟩,fun h=>⟨h.2,h.1⟩⟩
@[simp] theorem Im {h op want u} : gdD C h K ns dst op want u e R acc (.tup [])=mW C h K ns ⟨⟩ e dst R acc:=_root_.id rfl
@[simp] theorem Gt {h dst op s want ns u} : rk C h K (⟨dst,op,some (s,want)⟩::ns) u e acc=(chk (ac e) ⟨dst,op,some (s,want)⟩=true /\ gdD C h K ns dst op want ⟨⟩ e (ir (ac e) ⟨dst,op,some (s,want)⟩) acc (ac e s)):=_root_.id rfl
@[simp] theorem HB {K ns u ws ks} : doW C none K ns u e R acc ws ks=tz C K ns ⟨⟩ (ws++dM ks e):=_root_.id rfl
@[simp] theorem HA {h K ns u ws ks} : doW C (some h) K ns u e R acc ws ks=(wOk R ws ks=true /\ rk C h K ns ⟨⟩ (ws++dM ks e) ((R,wrK ws ks)::acc)):=_root_.id rfl
@[simp] theorem MD {t} : dW C hs K ns (some t) u e R acc d=doW C hs K ns ⟨⟩ e R acc [(t,d)] []:=_root_.id rfl
@[simp] theorem MC : dW C hs K ns none u e R acc d=doW C hs K ns ⟨⟩ e R acc [] []:=_root_.id rfl
def aN (ks : List (Nat × Bool)) (d : D) : D:=if az ks d then .any else d
theorem bI (ks : List (Nat × Bool)) (d : D) : aN ks d=bif az ks d then .any else d:=by
 unfold aN;cases az ks d <;> rfl
@[simp] theorem FR : dM [] e=e:=_root_.id rfl
@[simp] theorem FQ {k ks} : dM (k::ks) []=[]:=_root_.id rfl
@[simp] theorem Cb {k ks s d} : dM (k::ks) ((s,d)::e)=(s,aN (k::ks) d)::dM (k::ks) e:=_root_.id rfl
@[simp] theorem Fy {ks} : aN ks .any=.any:=by simp [aN]
@[simp] theorem FE {ks k n} : aN ks (.int k n)=.int k n:=by simp [aN,az,cz,aA]
@[simp] theorem B8 {ks n} : aN ks (.bool n)=.bool n:=by simp [aN,az,cz,aA]
@[simp] theorem FN {ks n} : aN ks (.str n)=.str n:=by simp [aN,az,cz,aA]
@[simp] theorem Kj {ks} : aN ks .bb=.bb:=by simp [aN,az,cz,aA]
@[simp] theorem B9 {ks} : aN ks .nilp=.nilp:=by simp [aN,az,cz,aA]
@[simp] theorem Ca {ks} : aN ks .nils=.nils:=by simp [aN,az,cz,aA]
@[simp] theorem Fw {ks n} : aN ks (.agg n)=.agg n:=by simp [aN,az,cz,aA]
@[simp] theorem FP {ks n} : aN ks (.tup n)=.tup n:=by simp [aN,az,cz,aA]
@[simp] theorem Km {ks n} : aN ks (.sl n)=.sl n:=by simp [aN,az,cz,aA]
@[simp] theorem FH {ks n} : aN ks (.ptr n)=.ptr n:=by simp [aN,az,cz,aA]
@[simp] theorem Kk {ks g n} : aN ks (.fn g n)=.fn g n:=by simp [aN,az,cz,aA]
@[simp] theorem Fz {ks g n} : aN ks (.blk g n)=.blk g n:=by simp [aN,az,cz,aA]
@[simp] theorem Kl {ks kt et xs vs} : aN ks (.mp kt et xs vs)=.mp kt et xs vs:=by simp [aN,az,cz,aA]
@[simp] theorem FJ {b all ks p k n} : aN ((b,all)::ks) (.ref p k n)=if bk b all p then .any else aN ks (.ref p k n):=by
 have h : aN ((b,all)::ks) (.ref p k n)=bif (bk b all p || az ks (.ref p k n)) then .any else .ref p k n:=bI ..
 rw [h,bI]
 cases bk b all p <;> rfl
@[simp] theorem Fv {b all ks p k n} : aN ((b,all)::ks) (.adr p k n)=if bk b all p then .any else aN ks (.adr p k n):=by
 have h : aN ((b,all)::ks) (.adr p k n)=bif (bk b all p || az ks (.adr p k n)) then .any else .adr p k n:=bI ..
 rw [h,bI]
 cases bk b all p <;> rfl
@[simp] theorem Fx {b all ks n} : aN ((b,all)::ks) (.agx n)=if n.any (aA b all) then .any else aN ks (.agx n):=by
 have h : aN ((b,all)::ks) (.agx n)=bif (n.any (aA b all) || az ks (.agx n)) then .any else .agx n:=bI ..
 rw [h,bI]
 cases n.any (aA b all) <;> rfl
@[simp] theorem FA {b all ks g n} : aN ((b,all)::ks) (.fnx g n)=if n.any (aA b all) then .any else aN ks (.fnx g n):=by
 have h : aN ((b,all)::ks) (.fnx g n)=bif (n.any (aA b all) || az ks (.fnx g n)) then .any else .fnx g n:=bI ..
 rw [h,bI]
 cases n.any (aA b all) <;> rfl
@[simp] theorem FD {ks T n} : aN ks (.ifi T n)=.ifi T n:=by simp [aN,az,cz,aA]
@[simp] theorem FL {ks q n} : aN ks (.slv q n)=.slv q n:=by simp [aN,az,cz,aA]
@[simp] theorem FC {b all ks T p k n} : aN ((b,all)::ks) (.ifa T p k n)=if bk b all p then .any else aN ks (.ifa T p k n):=by
 have h : aN ((b,all)::ks) (.ifa T p k n)=bif (bk b all p || az ks (.ifa T p k n)) then .any else .ifa T p k n:=bI ..
 rw [h,bI]
 cases bk b all p <;> rfl
@[simp] theorem FB {b all ks g ds cs} : aN ((b,all)::ks) (.fny g ds cs)=if ds.any (aA b all) || cs.any (aA b all) then .any else aN ks (.fny g ds cs):=by
 have h : aN ((b,all)::ks) (.fny g ds cs)=bif ((ds.any (aA b all) || cs.any (aA b all)) || az ks (.fny g ds cs)) then .any else .fny g ds cs:=bI ..
 rw [h,bI]
 cases ds.any (aA b all) <;> cases cs.any (aA b all) <;> rfl
@[simp] theorem FG {d} : aN [] d=d:=by simp [aN,az]
@[simp] theorem FM {ks b es} : aN ks (slx b es)=slx b es:=by cases b <;> cases es <;> simp [slx]
def ia (C : CC) (hs : Option (List Nat)) (K : Env -> Prop) (ns : List aq) (dst : Option Nat) (_ : Tag (hs,K,ns)) (e : Env) (R : List Nat) (acc : List (List Nat × List Nat)) (sz : Nat) (es : List (List D)) (i : Nat) : Prop :=
 ∃ c,es[i]? = some c /\ c.length=sz /\ cS dst (kOf C hs K ns e R acc) (.ptr c)
@[simp] theorem IF {α : Type} [Inhabited α] {sz : Nat} {xs : List α} {f : α -> List D} {i : Nat} : ia C hs K ns dst u e R acc sz (xs.map f) i=(i < xs.length /\ (f xs[i]!).length=sz /\ dW C hs K ns dst ⟨⟩ e R acc (.ptr (f xs[i]!))):=by
 apply propext
 unfold ia dW
 constructor
 ·rintro ⟨c,h,h1,h2⟩
  rw [List.getElem?_map,Option.map_eq_some_iff] at h
  obtain ⟨x,hx,rfl⟩:=h
  obtain ⟨hi,rfl⟩:=List.getElem?_eq_some_iff.1 hx
  rw [getElem!_pos xs i hi]
  exact ⟨hi,h1,h2⟩
 ·rintro ⟨hi,h1,h2⟩
  rw [getElem!_pos xs i hi] at h1 h2
  exact ⟨_,by rw [List.getElem?_map,List.getElem?_eq_getElem hi];rfl,h1,h2⟩
def Bj (C : CC) (hs : Option (List Nat)) (K : Env -> Prop) (ns : List aq) (dst : Option Nat) (_ : Tag (hs,K,ns)) (e : Env) (R : List Nat) (acc : List (List Nat × List Nat)) (s : List UInt8) (i : Nat) : Prop :=
 ∃ b,s[i]? = some b /\ cS dst (kOf C hs K ns e R acc) (.int .u8 b.toNat)
@[simp] theorem My {s : List UInt8} {i : Nat} : Bj C hs K ns dst u e R acc s i=(i < s.length /\ dW C hs K ns dst ⟨⟩ e R acc (.int .u8 (s[i]!).toNat)):=by
 apply propext
 unfold Bj dW
 constructor
 ·rintro ⟨b,h,h2⟩
  obtain ⟨hi,rfl⟩:=List.getElem?_eq_some_iff.1 h
  rw [getElem!_pos s i hi]
  exact ⟨hi,h2⟩
 ·rintro ⟨hi,h2⟩
  rw [getElem!_pos s i hi] at h2
  exact ⟨_,List.getElem?_eq_getElem hi,h2⟩
def kU (C : CC) (hs : Option (List Nat)) (K : Env -> Prop) (ns : List aq) (dst : Option Nat) (_ : Tag (hs,K,ns)) (e : Env) (R : List Nat) (acc : List (List Nat × List Nat)) (n : Nat) (ag : Bool) (p : Pa) (es : List (List D)) (i off : Nat) : Prop :=
 ∃ r,es[i]? = some r /\ off + n <= r.length /\ match ag with
    | true=>(((r.drop off).take n).all isV=true -> cS dst (kOf C hs K ns e R acc) (.agg ((r.drop off).take n))) /\
      (((r.drop off).take n).all isV=false -> cS dst (kOf C hs K ns e R acc) (.agx (((r.drop off).take n).mapIdx fun j c=>ldc p i (off + j) c)))
    | false=>cS dst (kOf C hs K ns e R acc) (ldc p i off ((r.drop off).headD .any))
theorem sv {n : Nat} {ag : Bool} {p : Pa} {es : List (List D)} {i off : Nat} {r : List D} (hr : es[i]? = some r) (hl : off + n <= r.length) (hk : match ag with
    | true=>(((r.drop off).take n).all isV=true -> dW C hs K ns dst ⟨⟩ e R acc (.agg ((r.drop off).take n))) /\
      (((r.drop off).take n).all isV=false -> dW C hs K ns dst ⟨⟩ e R acc (.agx (((r.drop off).take n).mapIdx fun j c=>ldc p i (off + j) c)))
    | false=>dW C hs K ns dst ⟨⟩ e R acc (ldc p i off ((r.drop off).headD .any))) : kU C hs K ns dst u e R acc n ag p es i off:=by
 refine ⟨r,hr,hl,?_⟩
 cases ag <;> exact hk
@[simp] theorem LS {n : Nat} {ag : Bool} {p : Pa} {r : List D} {off : Nat} : kU C hs K ns dst u e R acc n ag p [r] 0 off=(off + n <= r.length /\ match ag with
    | true=>(((r.drop off).take n).all isV=true -> dW C hs K ns dst ⟨⟩ e R acc (.agg ((r.drop off).take n))) /\
      (((r.drop off).take n).all isV=false -> dW C hs K ns dst ⟨⟩ e R acc (.agx (((r.drop off).take n).mapIdx fun j c=>ldc p 0 (off + j) c)))
    | false=>dW C hs K ns dst ⟨⟩ e R acc (ldc p 0 off ((r.drop off).headD .any))):=by
 apply propext
 constructor
 ·rintro ⟨r',h1,h2,h3⟩
  simp at h1;subst h1
  refine ⟨h2,?_⟩
  cases ag <;> exact h3
 ·rintro ⟨h2,h3⟩
  refine ⟨r,rfl,h2,?_⟩
  cases ag <;> exact h3
end
section
variable {C : CC} {Q : cg -> Env -> Prop} {e : Env} {K : Env -> Prop} {dst : Option Nat} {hs : Option (List Nat)} {ns : List aq} {R : List Nat} {acc : List (List Nat × List Nat)} {u : Tag (hs,K,ns)}
@[simp] theorem QW {x v1} : opW C hs K ns dst (.mov x) v1 e R acc=(isS (vd (ac e) x)=true /\ dW C hs K ns dst ⟨⟩ e R acc (vd (ac e) x)):=_root_.id rfl
@[simp] theorem QZ {x v1} : opW C hs K ns dst (.nck x) v1 e R acc=(match (generalizing:=false) vd (ac e) x with
  | .ptr ds=>dW C hs K ns dst ⟨⟩ e R acc (.ptr ds)
  | .adr p i off=>dW C hs K ns dst ⟨⟩ e R acc (.adr p i off)
  | .ptx ds=>dW C hs K ns dst ⟨⟩ e R acc (.ptx ds)
  | _=>False):=_root_.id rfl
@[simp] theorem LA {c a b v1} : opW C hs K ns dst (.pick c a b) v1 e R acc=(match (generalizing:=false) vd (ac e) c with
  | .bool v=>(v=true -> isS (vd (ac e) a)=true /\ dW C hs K ns dst ⟨⟩ e R acc (vd (ac e) a)) /\ (v=false -> isS (vd (ac e) b)=true /\ dW C hs K ns dst ⟨⟩ e R acc (vd (ac e) b))
  | _=>False):=_root_.id rfl
@[simp] theorem QD {op x y v1} : opW C hs K ns dst (.bin op x y) v1 e R acc=(match (generalizing:=false) vd (ac e) x,vd (ac e) y with
  | .int k a,.int k' b=>match (generalizing:=false) op with
   | .add=>k=k' /\ dW C hs K ns dst ⟨⟩ e R acc (.int k (k.wrap (a + b)))
   | .sub=>k=k' /\ dW C hs K ns dst ⟨⟩ e R acc (.int k (k.wrap (a - b)))
   | .mul=>k=k' /\ dW C hs K ns dst ⟨⟩ e R acc (.int k (k.wrap (a * b)))
   | .quo=>k=k' /\ b ≠ 0 /\ dW C hs K ns dst ⟨⟩ e R acc (.int k (k.wrap (a.tdiv b)))
   | .rem=>k=k' /\ b ≠ 0 /\ dW C hs K ns dst ⟨⟩ e R acc (.int k (a.tmod b))
   | .and=>k=k' /\ dW C hs K ns dst ⟨⟩ e R acc (.int k (bits .and k a b))
   | .or=>k=k' /\ dW C hs K ns dst ⟨⟩ e R acc (.int k (bits .or k a b))
   | .xor=>k=k' /\ dW C hs K ns dst ⟨⟩ e R acc (.int k (bits .xor k a b))
   | .andNot=>k=k' /\ dW C hs K ns dst ⟨⟩ e R acc (.int k (bits .andNot k a b))
   | .shl=>0 <= b /\ dW C hs K ns dst ⟨⟩ e R acc (.int k (k.wrap (a * 2 ^ (min b.toNat k.bits))))
   | .shr=>0 <= b /\ dW C hs K ns dst ⟨⟩ e R acc (.int k (a.fdiv (2 ^ (min b.toNat k.bits))))
   | .eql=>k=k' /\ dW C hs K ns dst ⟨⟩ e R acc (.bool (decide (a=b)))
   | .neq=>k=k' /\ dW C hs K ns dst ⟨⟩ e R acc (.bool (!decide (a=b)))
   | .lss=>k=k' /\ dW C hs K ns dst ⟨⟩ e R acc (.bool (decide (a < b)))
   | .leq=>k=k' /\ dW C hs K ns dst ⟨⟩ e R acc (.bool (decide (a <= b)))
   | .gtr=>k=k' /\ dW C hs K ns dst ⟨⟩ e R acc (.bool (decide (b < a)))
   | .geq=>k=k' /\ dW C hs K ns dst ⟨⟩ e R acc (.bool (decide (b <= a)))
  | .str a,.str b=>match (generalizing:=false) op with
   | .eql=>dW C hs K ns dst ⟨⟩ e R acc (.bool (decide (a=b)))
   | .neq=>dW C hs K ns dst ⟨⟩ e R acc (.bool (!decide (a=b)))
   | .add=>((a++b).length : Int) <= 9223372036854775807 /\ dW C hs K ns dst ⟨⟩ e R acc (.str (a++b))
   | .lss=>dW C hs K ns dst ⟨⟩ e R acc (.bool (Op.bytesLess a b))
   | .leq=>dW C hs K ns dst ⟨⟩ e R acc (.bool (Op.bytesLess a b || a == b))
   | .gtr=>dW C hs K ns dst ⟨⟩ e R acc (.bool !(Op.bytesLess a b || a == b))
   | .geq=>dW C hs K ns dst ⟨⟩ e R acc (.bool !(Op.bytesLess a b))
   | _=>False
  | _,_=>False):=_root_.id rfl
@[simp] theorem SM {op x v1} : opW C hs K ns dst (.un op x) v1 e R acc=(match (generalizing:=false) vd (ac e) x with
  | .bool b=>match (generalizing:=false) op with
   | .not=>dW C hs K ns dst ⟨⟩ e R acc (.bool (!b))
   | _=>False
  | .int k n=>match (generalizing:=false) op with
   | .neg=>dW C hs K ns dst ⟨⟩ e R acc (.int k (k.wrap (0 - n)))
   | _=>False
  | _=>False):=_root_.id rfl
@[simp] theorem Lt {k x v1} : opW C hs K ns dst (.conv k x) v1 e R acc=(match (generalizing:=false) vd (ac e) x with
  | .int _ n=>dW C hs K ns dst ⟨⟩ e R acc (.int k (k.wrap n))
  | _=>False):=_root_.id rfl
@[simp] theorem QC {neg ks x y v1} : opW C hs K ns dst (.beq neg ks x y) v1 e R acc=(match (generalizing:=false) vd (ac e) x,vd (ac e) y with
  | .bool a,.bool b=>ks=[] /\ dW C hs K ns dst ⟨⟩ e R acc (.bool ((a == b) != neg))
  | .agg a,.agg b=>ks ≠ [] /\ match (generalizing:=false) cc ks a b with
   | some r=>dW C hs K ns dst ⟨⟩ e R acc (.bool (r != neg))
   | none=>False
  | .nils,.nils=>ks=[9] /\ dW C hs K ns dst ⟨⟩ e R acc (.bool (!neg))
  | .sl es,.nils=>ks=[9] /\ (0 < es.length -> dW C hs K ns dst ⟨⟩ e R acc (.bool neg)) /\ (es.length=0 -> dW C hs K ns dst ⟨⟩ e R acc .bb)
  | .nilp,.nilp=>ks=[8] /\ dW C hs K ns dst ⟨⟩ e R acc (.bool (!neg))
  | .ptr _,.nilp=>ks=[8] /\ dW C hs K ns dst ⟨⟩ e R acc (.bool neg)
  | _,_=>False):=_root_.id rfl
@[simp] theorem QN {off n ag x v1} : opW C hs K ns dst (.fld off n ag x) v1 e R acc=(match (generalizing:=false) vd (ac e) x with
  | .agg ds=>off + n <= ds.length /\ dW C hs K ns dst ⟨⟩ e R acc (lK ag n (ds.drop off))
  | .agx ds=>off + n <= ds.length /\ match (generalizing:=false) ag with
   | true=>dW C hs K ns dst ⟨⟩ e R acc (.agx ((ds.drop off).take n))
   | false=>dW C hs K ns dst ⟨⟩ e R acc ((ds.drop off).headD .any)
  | _=>False):=_root_.id rfl
@[simp] theorem Lw {len sz ag x i v1} : opW C hs K ns dst (.idxA len sz ag x i) v1 e R acc=(match (generalizing:=false) vd (ac e) x,vd (ac e) i with
  | .agg ds,.int _ j=>0 <= j /\ j < len /\ j.toNat * sz + sz <= ds.length /\ dW C hs K ns dst ⟨⟩ e R acc (lK ag sz (ds.drop (j.toNat * sz)))
  | .agx ds,.int _ j=>0 <= j /\ j < len /\ j.toNat * sz + sz <= ds.length /\ match (generalizing:=false) ag with
   | true=>dW C hs K ns dst ⟨⟩ e R acc (.agx ((ds.drop (j.toNat * sz)).take sz))
   | false=>dW C hs K ns dst ⟨⟩ e R acc ((ds.drop (j.toNat * sz)).headD .any)
  | _,_=>False):=_root_.id rfl
@[simp] theorem Q2 {len sz x v1} : opW C hs K ns dst (.slA len sz x) v1 e R acc=(match (generalizing:=false) vd (ac e) x with
  | .ptr ds=>0 < len /\ 0 < sz /\ len * sz <= ds.length /\ dW C hs K ns dst ⟨⟩ e R acc (.sl (bV sz len ds))
  | _=>False):=_root_.id rfl
@[simp] theorem QJ {x v1} : opW C hs K ns dst (.cvS x) v1 e R acc=(match (generalizing:=false) vd (ac e) x with
  | .sl es=>0 < es.length /\ (∀ r ∈ es,∃ n : Nat,r=[.int .u8 n] /\ n < 256) /\ dW C hs K ns dst ⟨⟩ e R acc (.str (es.map jh))
  | _=>False):=_root_.id rfl
@[simp] theorem Lx {x i v1} : opW C hs K ns dst (.idxS x i) v1 e R acc=(match (generalizing:=false) vd (ac e) x,vd (ac e) i with
  | .str s,.int _ j=>0 <= j /\ Bj C hs K ns dst ⟨⟩ e R acc s j.toNat
  | _,_=>False):=_root_.id rfl
@[simp] theorem QK {i x v1} : opW C hs K ns dst (.ext i x) v1 e R acc=(match (generalizing:=false) vd (ac e) x with
  | .tup ds=>∃ d,ds[i]? = some d /\ dW C hs K ns dst ⟨⟩ e R acc d
  | .tpx ds=>∃ d,ds[i]? = some d /\ dW C hs K ns dst ⟨⟩ e R acc d
  | _=>False):=_root_.id rfl
@[simp] theorem QL {off x v1} : opW C hs K ns dst (.fad off x) v1 e R acc=(match (generalizing:=false) vd (ac e) x with
  | .adr p i o=>dW C hs K ns dst ⟨⟩ e R acc (.adr p i (o + off))
  | .ptr ds=>dW C hs K ns dst ⟨⟩ e R acc (.ptr (ds.drop off))
  | .ptx ds=>dW C hs K ns dst ⟨⟩ e R acc (.ptx (ds.drop off))
  | _=>False):=_root_.id rfl
@[simp] theorem Lu {len sz x i v1} : opW C hs K ns dst (.iadA len sz x i) v1 e R acc=(match (generalizing:=false) vd (ac e) x,vd (ac e) i with
  | .adr p r o,.int _ j=>0 <= j /\ j < len /\ dW C hs K ns dst ⟨⟩ e R acc (.adr p r (o + j.toNat * sz))
  | .ptr ds,.int _ j=>0 <= j /\ j < len /\ dW C hs K ns dst ⟨⟩ e R acc (.ptr (ds.drop (j.toNat * sz)))
  | _,_=>False):=_root_.id rfl
@[simp] theorem SH {n ag x v1} : opW C hs K ns dst (.ld n ag x) v1 e R acc=(match (generalizing:=false) vd (ac e) x with
  | .adr p i off=>match (generalizing:=false) aP (ac e) p with
   | some (_,es)=>kU C hs K ns dst ⟨⟩ e R acc n ag p es i off
   | none=>False
  | .ptr ds=>n <= ds.length /\ dW C hs K ns dst ⟨⟩ e R acc (lK ag n ds)
  | .ptx ds=>n <= ds.length /\ match (generalizing:=false) ag with
   | true=>((ds.take n).all isV=true -> dW C hs K ns dst ⟨⟩ e R acc (.agg (ds.take n))) /\ ((ds.take n).all isV=false -> dW C hs K ns dst ⟨⟩ e R acc (.agx (ds.take n)))
   | false=>0 < n /\ dW C hs K ns dst ⟨⟩ e R acc (ds.headD .any)
  | _=>False):=_root_.id rfl
@[simp] theorem QE {zs parts v1} : opW C hs K ns dst (.bld zs parts) v1 e R acc=((∀ p ∈ parts,isS (vd (ac e) p.2.2)=true /\ p.1 + p.2.1 <= zs.length /\ match (generalizing:=false) vd (ac e) p.2.2 with
    | .agg ds=>ds.length=p.2.1
    | .agx ds=>ds.length=p.2.1
    | .any=>False
    | .tpx _=>False
    | .ptx _=>False
    | .rfx _ _ _=>False
    | .fny _ _ _=>False
    | .fnx _ _=>False
    | _=>p.2.1=1) /\
   ((parts.all fun p=>isV (vd (ac e) p.2.2))=true -> dW C hs K ns dst ⟨⟩ e R acc (.agg (iu zs (parts.map fun p=>(p.1,p.2.1,vd (ac e) p.2.2))))) /\
   ((parts.all fun p=>isV (vd (ac e) p.2.2))=false -> dW C hs K ns dst ⟨⟩ e R acc (.agx (iu zs (parts.map fun p=>(p.1,p.2.1,bR (vd (ac e) p.2.2))))))):=_root_.id rfl
@[simp] theorem Ly {x v1} : opW C hs K ns dst (.lens x) v1 e R acc=(match (generalizing:=false) vd (ac e) x with
  | .str s=>dW C hs K ns dst ⟨⟩ e R acc (.int .i64 s.length)
  | _=>False):=_root_.id rfl
@[simp] theorem SI {g xs v1} : opW C hs K ns dst (.mk g xs) v1 e R acc=((∀ x ∈ xs,isP (vd (ac e) x)=true) /\ ((xs.all fun x=>isV (vd (ac e) x))=true -> dW C hs K ns dst ⟨⟩ e R acc (.fn g (xs.map (vd (ac e))))) /\ ((xs.all fun x=>isV (vd (ac e) x))=false -> dW C hs K ns dst ⟨⟩ e R acc (.fnx g (xs.map (vd (ac e)))))):=_root_.id rfl
@[simp] theorem Q4 {x lo hi v1} : opW C hs K ns dst (.slS x lo hi) v1 e R acc=(match (generalizing:=false) vd (ac e) x with
  | .str s=>dt (ac e) hi s.length (fun h=>dt (ac e) lo 0 (fun l=>l <= h /\ h <= s.length /\ dW C hs K ns dst ⟨⟩ e R acc (.str ((s.take h).drop l))) ⟨⟩) ⟨⟩
  | _=>False):=_root_.id rfl
@[simp] theorem SJ {x y v1} : opW C hs K ns dst (.mn x y) v1 e R acc=(match (generalizing:=false) vd (ac e) x,vd (ac e) y with
  | .int k a,.int k' b=>k=k' /\ dW C hs K ns dst ⟨⟩ e R acc (.int k (if b < a then b else a))
  | _,_=>False):=_root_.id rfl
@[simp] theorem SK {x y v1} : opW C hs K ns dst (.mx x y) v1 e R acc=(match (generalizing:=false) vd (ac e) x,vd (ac e) y with
  | .int k a,.int k' b=>k=k' /\ dW C hs K ns dst ⟨⟩ e R acc (.int k (if a < b then b else a))
  | _,_=>False):=_root_.id rfl
@[simp] theorem Ge {x y c v1} : opW C hs K ns dst (.add64 x y c) v1 e R acc=(match (generalizing:=false) vd (ac e) x,vd (ac e) y,vd (ac e) c with
  | .int .u64 a,.int .u64 b,.int .u64 k=>0 <= a /\ a < 18446744073709551616 /\ 0 <= b /\ b < 18446744073709551616 /\ 0 <= k /\ k <= 1 /\
    dW C hs K ns dst ⟨⟩ e R acc (.tup [.int .u64 ((a + b + k) % 18446744073709551616),.int .u64 ((a + b + k) / 18446744073709551616)])
  | _,_,_=>False):=_root_.id rfl
@[simp] theorem Gr {x y c v1} : opW C hs K ns dst (.sub64 x y c) v1 e R acc=(match (generalizing:=false) vd (ac e) x,vd (ac e) y,vd (ac e) c with
  | .int .u64 a,.int .u64 b,.int .u64 k=>0 <= a /\ a < 18446744073709551616 /\ 0 <= b /\ b < 18446744073709551616 /\ 0 <= k /\ k <= 1 /\
    dW C hs K ns dst ⟨⟩ e R acc (.tup [.int .u64 ((a - b - k) % 18446744073709551616),.int .u64 (if a < b + k then 1 else 0)])
  | _,_,_=>False):=_root_.id rfl
@[simp] theorem Lz {sz v1} : opW C hs K ns dst (.nilo sz) v1 e R acc=(match (generalizing:=false) dst with
  | some t=>0 < sz /\ doW C hs K ns ⟨⟩ e R acc [(t,.ref (.r (rt t 0)) 0 0),(rt t 0,.blk sz [])] [(rt t 0,true)]
  | none=>False):=_root_.id rfl
@[simp] theorem QG {x t v1} : opW C hs K ns (some t) (.box [] x) v1 e R acc=gc (ac e) (vd (ac e) x) [] (fun cs bs=>bs.contains (rt t 0)=false /\ doW C hs K ns ⟨⟩ e R acc ((t,.adr (.r (rt t 0)) 0 0)::(rt t 0,.blk cs.length [cs])::bU bs) [(rt t 0,true)]) ⟨⟩:=_root_.id rfl
@[simp] theorem Qz {zs v1} : opW C hs K ns dst (.alc zs) v1 e R acc=(match (generalizing:=false) dst with
  | some t=>doW C hs K ns ⟨⟩ e R acc [(t,.adr (.r (rt t 0)) 0 0),(rt t 0,.blk zs.length [zs])] [(rt t 0,true)]
  | none=>False):=_root_.id rfl
@[simp] theorem QF {sz len zs parts t v1} : opW C hs K ns (some t) (.bls sz len zs [] parts) v1 e R acc=oM (ac e) sz parts (List.replicate len zs) [] (fun es bs=>bL bs=true /\ bs.contains (rt t 0)=false /\ doW C hs K ns ⟨⟩ e R acc ((t,.ref (.r (rt t 0)) 0 len)::(rt t 0,.blk sz es)::bU bs) [(rt t 0,true)]) ⟨⟩:=_root_.id rfl
@[simp] theorem QV {sz by_ zs n c v1} : opW C hs K ns dst (.mks sz by_ zs n c) v1 e R acc=(match (generalizing:=false) dst with
  | some t=>match (generalizing:=false) vd (ac e) n,vd (ac e) c with
   | .int _ n,.int _ c=>0 <= n /\ n <= c /\ c * by_ <= 140737488355328 /\ doW C hs K ns ⟨⟩ e R acc [(t,.ref (.r (rt t 0)) 0 n.toNat),(rt t 0,.blk sz (List.replicate c.toNat zs))] [(rt t 0,true)]
   | _,_=>False
  | none=>False):=_root_.id rfl
def stM (C : CC) (hs : Option (List Nat)) (K : Env -> Prop) (ns : List aq) (_ : Tag (hs,K,ns)) (e : Env) (R : List Nat) (acc : List (List Nat × List Nat)) (n : Nat) (v : D) (cs : List D) (bs : List Nat) (a : D) : Prop:=match a with
 | .adr (.r b) i off=>bs.contains b=false /\ cR (ac e b) (fun sz es=>f8 es[i]? (fun r=>off + n <= r.length /\ doW C hs K ns ⟨⟩ e R acc ((b,.blk sz (a7 es i off n cs))::bU bs) (stK v [] b)) ⟨⟩) ⟨⟩
 | .adr (.n b i0 o0) i off=>bs=[] /\ (∀ c ∈ cs,ay c=true) /\ cR (ac e b) (fun sz0 es0=>f8 es0[i0]? (fun row0=>jt row0[o0]? (fun sz es=>f8 es[i]? (fun r=>off + n <= r.length /\ doW C hs K ns ⟨⟩ e R acc [(b,.blk sz0 (a7 es0 i0 o0 1 [.own sz (a7 es i off n cs)]))] []) ⟨⟩) ⟨⟩) ⟨⟩) ⟨⟩
 | _=>False
@[simp] theorem Tb {n v cs bs b i off} : stM C hs K ns u e R acc n v cs bs (.adr (.r b) i off)=(bs.contains b=false /\ cR (ac e b) (fun sz es=>f8 es[i]? (fun r=>off + n <= r.length /\ doW C hs K ns ⟨⟩ e R acc ((b,.blk sz (a7 es i off n cs))::bU bs) (stK v [] b)) ⟨⟩) ⟨⟩):=_root_.id rfl
@[simp] theorem Ta {n v cs bs b i0 o0 i off} : stM C hs K ns u e R acc n v cs bs (.adr (.n b i0 o0) i off)=(bs=[] /\ (∀ c ∈ cs,ay c=true) /\ cR (ac e b) (fun sz0 es0=>f8 es0[i0]? (fun row0=>jt row0[o0]? (fun sz es=>f8 es[i]? (fun r=>off + n <= r.length /\ doW C hs K ns ⟨⟩ e R acc [(b,.blk sz0 (a7 es0 i0 o0 1 [.own sz (a7 es i off n cs)]))] []) ⟨⟩) ⟨⟩) ⟨⟩) ⟨⟩):=_root_.id rfl
@[simp] theorem SL {n a v v1} : opW C hs K ns dst (.st n [] a v) v1 e R acc=(dst=none /\ gc (ac e) (vd (ac e) v) [] (fun cs bs=>cs.length=n /\ stM C hs K ns ⟨⟩ e R acc n (vd (ac e) v) cs bs (vd (ac e) a)) ⟨⟩):=by
 show (dst=none /\ fv (ac e) (vd (ac e) v) [] _)=(dst=none /\ fv (ac e) (vd (ac e) v) [] _)
 congr 1
 congr 1
 funext cs bs
 cases vd (ac e) a <;> try rfl
 rename_i p i off
 cases p with
 | r b =>
  simp only [stM,cR,fh]
  cases ac e b <;> rfl
 | n b i0 o0 =>
  simp only [stM,cR,fh,iX]
  cases ac e b <;> rfl
def sR (C : CC) (hs : Option (List Nat)) (K : Env -> Prop) (ns : List aq) (_ : Tag (hs,K,ns)) (e : Env) (R : List Nat) (acc : List (List Nat × List Nat)) (t sz by_ : Nat) (rowsY : List (List D)) (bs : List Nat) (x : D) : Prop:=match x with
 | .nils=>rowsY.length * by_ <= 140737488355328 /\ doW C hs K ns ⟨⟩ e R acc ((t,.ref (.r (rt t 0)) 0 rowsY.length)::(rt t 0,.blk sz rowsY)::bU bs) [(rt t 0,true)]
 | .ref (.r c) k n=>c ≠ rt t 0 /\ bs.contains c=false /\ cR (ac e c) (fun sz' es=>sz'=sz /\ k + n <= es.length /\ (n + rowsY.length) * by_ <= 140737488355328 /\
      doW C hs K ns ⟨⟩ e R acc ((t,.ref (.r (rt t 0)) 0 (n + rowsY.length))::(rt t 0,.blk sz ((es.drop k).take n++rowsY))::(c,.any)::bU bs) [(rt t 0,true)]) ⟨⟩
 | .ref (.n c i o) k n=>c ≠ rt t 0 /\ bs.contains c=false /\ cR (ac e c) (fun sz0 es0=>f8 es0[i]? (fun row0=>jt row0[o]? (fun sz' es=>sz'=sz /\ k + n <= es.length /\ (n + rowsY.length) * by_ <= 140737488355328 /\
      doW C hs K ns ⟨⟩ e R acc ((t,.ref (.r (rt t 0)) 0 (n + rowsY.length))::(rt t 0,.blk sz ((es.drop k).take n++rowsY))::(c,.blk sz0 (a7 es0 i o 1 [.any]))::bU bs) [(rt t 0,true)]) ⟨⟩) ⟨⟩) ⟨⟩
 | _=>False
@[simp] theorem DM {t sz by_ rowsY bs} : sR C hs K ns u e R acc t sz by_ rowsY bs .nils=(rowsY.length * by_ <= 140737488355328 /\ doW C hs K ns ⟨⟩ e R acc ((t,.ref (.r (rt t 0)) 0 rowsY.length)::(rt t 0,.blk sz rowsY)::bU bs) [(rt t 0,true)]):=_root_.id rfl
@[simp] theorem Ro {t sz by_ rowsY bs c k n} : sR C hs K ns u e R acc t sz by_ rowsY bs (.ref (.r c) k n)=(c ≠ rt t 0 /\ bs.contains c=false /\ cR (ac e c) (fun sz' es=>sz'=sz /\ k + n <= es.length /\ (n + rowsY.length) * by_ <= 140737488355328 /\
      doW C hs K ns ⟨⟩ e R acc ((t,.ref (.r (rt t 0)) 0 (n + rowsY.length))::(rt t 0,.blk sz ((es.drop k).take n++rowsY))::(c,.any)::bU bs) [(rt t 0,true)]) ⟨⟩):=_root_.id rfl
@[simp] theorem Rn {t sz by_ rowsY bs c i o k n} : sR C hs K ns u e R acc t sz by_ rowsY bs (.ref (.n c i o) k n)=(c ≠ rt t 0 /\ bs.contains c=false /\ cR (ac e c) (fun sz0 es0=>f8 es0[i]? (fun row0=>jt row0[o]? (fun sz' es=>sz'=sz /\ k + n <= es.length /\ (n + rowsY.length) * by_ <= 140737488355328 /\
      doW C hs K ns ⟨⟩ e R acc ((t,.ref (.r (rt t 0)) 0 (n + rowsY.length))::(rt t 0,.blk sz ((es.drop k).take n++rowsY))::(c,.blk sz0 (a7 es0 i o 1 [.any]))::bU bs) [(rt t 0,true)]) ⟨⟩) ⟨⟩) ⟨⟩):=_root_.id rfl
@[simp] theorem QA {sz by_ mv x y t v1} : opW C hs K ns (some t) (.app sz by_ mv x y) v1 e R acc=iH (ac e) mv (vd (ac e) y) sz (fun rowsY bs=>bs.contains (rt t 0)=false /\ sR C hs K ns ⟨⟩ e R acc t sz by_ rowsY bs (vd (ac e) x)) ⟨⟩:=by
 unfold opW iH
 simp only [au]
 congr 1
 funext rowsY bs
 congr 1
 cases vd (ac e) x <;> try rfl
 rename_i p k n
 cases p with
 | r c =>
  simp only [sR,cR]
  cases ac e c <;> rfl
 | n c i o =>
  simp only [sR,cR,fh,iX]
  cases hl : ac e c <;> try rfl
  rename_i sz0 es0
  refine congrArg _ (congrArg _ (propext ⟨?_,?_⟩))
  ·rintro ⟨row0,h1,es,h2,h3⟩
   exact ⟨row0,h1,sz,es,h2,rfl,h3⟩
  ·rintro ⟨row0,h1,sz',es,h2,rfl,h3⟩
   exact ⟨row0,h1,es,h2,h3⟩
@[simp] theorem Mb {g b n xs sz es} : C8 C g hs K ns dst u e R acc b n xs (.blk sz es)=(es.length=n /\ (∀ e ∈ es,∀ c ∈ e,ay c=true) /\ (∀ x ∈ xs,br (fbE (ac e) b) (vd (fbE (ac e) b) x)) /\ uy C g hs K ns dst ⟨⟩ e R acc b sz es (xs.map (dpv (fbE (ac e) b))) (xs.all fun y=>isV (vd (fbE (ac e) b) y))):=_root_.id rfl
@[simp] theorem Md {g xs b k n} : Mc C g hs K ns dst u e R acc xs (.ref (.r b) k n)=(k=0 /\ C8 C g hs K ns dst ⟨⟩ e R acc b n xs (ac e b)):=_root_.id rfl
@[simp] theorem Gp {g x xs v1} : opW C hs K ns dst (.callS g x xs) v1 e R acc=(Mc C g hs K ns dst ⟨⟩ e R acc xs (vd (ac e) x)):=by
 cases dst <;> rfl
def xo (n : Nat) (d : D) : Prop:=match d with
 | .blk _ es=>es.length=n /\ ∀ e ∈ es,∀ c ∈ e,aU c=true
 | _=>False
def pd (f : Nat -> D) (b : Nat) (d : D) : Prop:=match d with
 | .ref (.r c) k n=>k=0 /\ c ≠ b /\ xo n (f c)
 | d=>isV d=true
def yo (d : D) : D:=match d with
 | .blk sz es=>.own sz es
 | _=>.any
def rO (f : Nat -> D) (d : D) : D:=match d with
 | .ref (.r c) _ _=>yo (f c)
 | d=>d
@[simp] theorem G7 {n sz es} : xo n (.blk sz es)=(es.length=n /\ ∀ e ∈ es,∀ c ∈ e,aU c=true):=_root_.id rfl
@[simp] theorem LE {sz es} : yo (.blk sz es)=.own sz es:=_root_.id rfl
@[simp] theorem Mq {f : Nat -> D} {b : Nat} {x : Opd} : lI f b x=pd f b (vd f x):=by
 unfold lI pd xo
 cases vd f x <;> rfl
@[simp] theorem Mr {f : Nat -> D} {x : Opd} : kx f x=rO f (vd f x):=by
 unfold kx rO yo
 cases vd f x <;> rfl
@[simp] theorem DO {f : Nat -> D} {b c k n} : pd f b (.ref (.r c) k n)=(k=0 /\ c ≠ b /\ xo n (f c)):=_root_.id rfl
@[simp] theorem DQ {f : Nat -> D} {c k n} : rO f (.ref (.r c) k n)=yo (f c):=_root_.id rfl
@[simp] theorem DN {f : Nat -> D} {b k n} : pd f b (.int k n)=True:=by simp [pd,isV]
@[simp] theorem DP {f : Nat -> D} {k n} : rO f (.int k n)=.int k n:=_root_.id rfl
def xE (C : CC) (g : Nat) (hs : Option (List Nat)) (K : Env -> Prop) (ns : List aq) (t : Nat) (_ : Tag (hs,K,ns)) (e : Env) (R : List Nat) (acc : List (List Nat × List Nat)) (sz : Nat) (W : List (List D)) (ds : List D) (q : Nat × D) : Prop :=
 ∃ es' : List (List D),(∀ e ∈ es',e.length=sz /\ ∀ c ∈ e,aU c=true) /\ C g (.own sz W::ds) .any [.own sz es',.nils,.nils] /\ doW C hs K ns ⟨⟩ e R acc [(t,.ref (.r (rt t 0)) 0 es'.length),(rt t 0,.blk sz es'),q] [(rt t 0,true)]
def uN (C : CC) (g : Nat) (hs : Option (List Nat)) (K : Env -> Prop) (ns : List aq) (t : Nat) (_ : Tag (hs,K,ns)) (e : Env) (R : List Nat) (acc : List (List Nat × List Nat)) (xs : List Opd) (d : D) : Prop:=match d with
 | .ref (.r b) k n=>cR (ac e b) (fun sz es=>k + n <= es.length /\ b ≠ rt t 0 /\ 0 < sz /\ (∀ e ∈ (es.drop k).take n,∀ c ∈ e,aU c=true) /\ (∀ x ∈ xs,lI (ac e) b x) /\ xE C g hs K ns t ⟨⟩ e R acc sz ((es.drop k).take n) (xs.map (kx (ac e))) (b,.any)) ⟨⟩
 | .ref (.n b i o) k n=>cR (ac e b) (fun sz0 es0=>f8 es0[i]? (fun row0=>jt row0[o]? (fun sz es=>k + n <= es.length /\ b ≠ rt t 0 /\ 0 < sz /\ (∀ e ∈ (es.drop k).take n,∀ c ∈ e,aU c=true) /\ (∀ x ∈ xs,lI (ac e) b x) /\
   xE C g hs K ns t ⟨⟩ e R acc sz ((es.drop k).take n) (xs.map (kx (ac e))) (b,.blk sz0 (a7 es0 i o 1 [.any]))) ⟨⟩) ⟨⟩) ⟨⟩
 | _=>False
@[simp] theorem RY {g xs t b k n} : uN C g hs K ns t u e R acc xs (.ref (.r b) k n)=cR (ac e b) (fun sz es=>k + n <= es.length /\ b ≠ rt t 0 /\ 0 < sz /\ (∀ e ∈ (es.drop k).take n,∀ c ∈ e,aU c=true) /\ (∀ x ∈ xs,lI (ac e) b x) /\ xE C g hs K ns t ⟨⟩ e R acc sz ((es.drop k).take n) (xs.map (kx (ac e))) (b,.any)) ⟨⟩:=_root_.id rfl
@[simp] theorem RX {g xs t b i o k n} : uN C g hs K ns t u e R acc xs (.ref (.n b i o) k n)=cR (ac e b) (fun sz0 es0=>f8 es0[i]? (fun row0=>jt row0[o]? (fun sz es=>k + n <= es.length /\ b ≠ rt t 0 /\ 0 < sz /\ (∀ e ∈ (es.drop k).take n,∀ c ∈ e,aU c=true) /\ (∀ x ∈ xs,lI (ac e) b x) /\
   xE C g hs K ns t ⟨⟩ e R acc sz ((es.drop k).take n) (xs.map (kx (ac e))) (b,.blk sz0 (a7 es0 i o 1 [.any]))) ⟨⟩) ⟨⟩) ⟨⟩:=_root_.id rfl
@[simp] theorem Gg {g x xs t v1} : opW C hs K ns (some t) (.callE g x xs) v1 e R acc=uN C g hs K ns t ⟨⟩ e R acc xs (vd (ac e) x):=by
 unfold opW
 simp only [au]
 cases vd (ac e) x <;> try rfl
 rename_i p k n
 cases p with
 | r b =>
  simp only [uN,cR,aP,Pa.root,cX]
  cases ac e b <;> rfl
 | n b i o =>
  simp only [uN,cR,fh,iX,aP,Pa.root,cX]
  cases hl : ac e b <;> try rfl
  rename_i sz0 es0
  simp only
  cases hi : es0[i]? with
  | none=>simp
  | some row0 =>
   simp only [Option.getD_some,Option.some.injEq,exists_eq_left']
   cases ho : row0[o]? with
   | none=>simp
   | some d =>
    cases d
    case own sz es=>exact propext ⟨fun h=>⟨sz,es,rfl,h⟩,fun ⟨sz',es',h0,h⟩=>by cases h0;exact h⟩
    all_goals simp
@[simp] theorem ES {f : Nat -> D} {b k n sz es} : b0 f (.ref (.r b) k n) (.own sz es)=(k=0 /\ n=es.length /\ f b=.blk sz es):=_root_.id rfl
@[simp] theorem EQ {f : Nat -> D} {b k n sz es} : b0 f (.adr (.r b) k n) (.blk sz es)=(k=0 /\ n=0 /\ f b=.blk sz es):=_root_.id rfl
@[simp] theorem ER {f : Nat -> D} {k n r} : b0 f (.int k n) r=(r=.int k n):=by simp [b0]
@[simp] theorem BU {f : Nat -> D} {n r} : b0 f (.bool n) r=(r=.bool n):=by simp [b0]
@[simp] theorem ET {f : Nat -> D} {n r} : b0 f (.str n) r=(r=.str n):=by simp [b0]
@[simp] theorem BW {f : Nat -> D} {r} : b0 f .nils r=(r=.nils):=by simp [b0]
@[simp] theorem BV {f : Nat -> D} {r} : b0 f .nilp r=(r=.nilp):=by simp [b0]
@[simp] theorem Is {f : Nat -> D} {n r} : b0 f (.sl n) r=(r=.sl n):=by simp [b0]
@[simp] theorem EP {f : Nat -> D} {n r} : b0 f (.agg n) r=(r=.agg n):=by simp [b0]
@[simp] theorem GJ {t d} : bT (some t) d=[(t,d)]:=_root_.id rfl
@[simp] theorem GI {d} : bT none d=[]:=_root_.id rfl
@[simp] theorem De {t} : di (some t)=[(t,.tup [])]:=_root_.id rfl
@[simp] theorem Dd : di none=[]:=_root_.id rfl
def KE (C : CC) (g : Nat) (hs : Option (List Nat)) (K : Env -> Prop) (ns : List aq) (dst : Option Nat) (_ : Tag (hs,K,ns)) (e : Env) (R : List Nat) (acc : List (List Nat × List Nat)) (b sz : Nat) (es : List (List D)) (ds : List D) : Prop :=
 ∃ d,∃ es' : List (List D),0 < es'.length /\ C g (.blk sz es::ds) d [.blk sz es'] /\ doW C hs K ns ⟨⟩ e R acc (bT dst d++[(b,.blk sz es')]) [(b,false)]
def KD (C : CC) (g : Nat) (hs : Option (List Nat)) (K : Env -> Prop) (ns : List aq) (dst : Option Nat) (_ : Tag (hs,K,ns)) (e : Env) (R : List Nat) (acc : List (List Nat × List Nat)) (xs : List Opd) (d : D) : Prop:=match d with
 | .adr (.r b) i off=>i=0 /\ off=0 /\ cR (ac e b) (fun sz es=>0 < es.length /\ (∀ x ∈ xs,isV (vd (ac e) x)=true) /\ KE C g hs K ns dst ⟨⟩ e R acc b sz es (xs.map (vd (ac e)))) ⟨⟩
 | _=>False
@[simp] theorem SB {g xs b i off} : KD C g hs K ns dst u e R acc xs (.adr (.r b) i off)=(i=0 /\ off=0 /\ cR (ac e b) (fun sz es=>0 < es.length /\ (∀ x ∈ xs,isV (vd (ac e) x)=true) /\ KE C g hs K ns dst ⟨⟩ e R acc b sz es (xs.map (vd (ac e)))) ⟨⟩):=_root_.id rfl
@[simp] theorem Gk {g x xs v1} : opW C hs K ns dst (.callL g x xs) v1 e R acc=KD C g hs K ns dst ⟨⟩ e R acc xs (vd (ac e) x):=by
 unfold opW
 simp only [au]
 cases vd (ac e) x <;> first | rfl | skip
def sV (C : CC) (hs : Option (List Nat)) (K : Env -> Prop) (ns : List aq) (dst : Option Nat) (_ : Tag (hs,K,ns)) (e : Env) (R : List Nat) (acc : List (List Nat × List Nat)) (zs : List D) (d : D) : Prop:=match d with
 | .nils=>doW C hs K ns ⟨⟩ e R acc (di dst) []
 | .ref (.r b) k n=>cR (ac e b) (fun sz es=>k + n <= es.length /\ zs.length=sz /\ (∀ e ∈ es,∀ c ∈ e,ay c=true) /\ (∀ c ∈ zs,ay c=true) /\ doW C hs K ns ⟨⟩ e R acc (di dst++[(b,.blk sz (dP es k n zs))]) []) ⟨⟩
 | .ref (.n b i o) k n=>cR (ac e b) (fun sz0 es0=>f8 es0[i]? (fun row0=>jt row0[o]? (fun sz es=>k + n <= es.length /\ zs.length=sz /\ (∀ c ∈ zs,ay c=true) /\ doW C hs K ns ⟨⟩ e R acc (di dst++[(b,.blk sz0 (a7 es0 i o 1 [.own sz (dP es k n zs)]))]) []) ⟨⟩) ⟨⟩) ⟨⟩
 | _=>False
@[simp] theorem Rv {zs b k n} : sV C hs K ns dst u e R acc zs (.ref (.r b) k n)=cR (ac e b) (fun sz es=>k + n <= es.length /\ zs.length=sz /\ (∀ e ∈ es,∀ c ∈ e,ay c=true) /\ (∀ c ∈ zs,ay c=true) /\ doW C hs K ns ⟨⟩ e R acc (di dst++[(b,.blk sz (dP es k n zs))]) []) ⟨⟩:=_root_.id rfl
@[simp] theorem Ru {zs b i o k n} : sV C hs K ns dst u e R acc zs (.ref (.n b i o) k n)=cR (ac e b) (fun sz0 es0=>f8 es0[i]? (fun row0=>jt row0[o]? (fun sz es=>k + n <= es.length /\ zs.length=sz /\ (∀ c ∈ zs,ay c=true) /\ doW C hs K ns ⟨⟩ e R acc (di dst++[(b,.blk sz0 (a7 es0 i o 1 [.own sz (dP es k n zs)]))]) []) ⟨⟩) ⟨⟩) ⟨⟩:=_root_.id rfl
@[simp] theorem Ej {zs} : sV C hs K ns dst u e R acc zs .nils=doW C hs K ns ⟨⟩ e R acc (di dst) []:=_root_.id rfl
@[simp] theorem QH {zs x v1} : opW C hs K ns dst (.clr zs x) v1 e R acc=sV C hs K ns dst ⟨⟩ e R acc zs (vd (ac e) x):=by
 unfold opW
 simp only [au]
 cases vd (ac e) x <;> try rfl
 rename_i p k n
 cases p with
 | r b =>
  simp only [sV,cR]
  cases ac e b <;> rfl
 | n b i o =>
  simp only [sV,cR,fh,iX]
  cases ac e b <;> rfl
def zM (C : CC) (g : Nat) (hs : Option (List Nat)) (K : Env -> Prop) (ns : List aq) (dst : Option Nat) (_ : Tag (hs,K,ns)) (e : Env) (R : List Nat) (acc : List (List Nat × List Nat)) (b i o sz0 sz : Nat) (es0 es : List (List D)) (ds : List D) : Prop :=
 ∃ es' : List (List D),es'.length=es.length /\ (∀ e ∈ es',e.length=sz /\ ∀ c ∈ e,ay c=true) /\ C g (.own sz es::ds) .any [.own sz es',.nilp] /\ doW C hs K ns ⟨⟩ e R acc (di dst++[(b,.blk sz0 (a7 es0 i o 1 [.own sz es']))]) []
def Bw (C : CC) (g : Nat) (hs : Option (List Nat)) (K : Env -> Prop) (ns : List aq) (dst : Option Nat) (_ : Tag (hs,K,ns)) (e : Env) (R : List Nat) (acc : List (List Nat × List Nat)) (xs : List Opd) (d : D) : Prop:=match d with
 | .ref (.n b i o) k n=>k=0 /\ cR (ac e b) (fun sz0 es0=>f8 es0[i]? (fun row0=>jt row0[o]? (fun sz es=>es.length=n /\ (∀ x ∈ xs,isV (vd (ac e) x)=true) /\ zM C g hs K ns dst ⟨⟩ e R acc b i o sz0 sz es0 es (xs.map (vd (ac e)))) ⟨⟩) ⟨⟩) ⟨⟩
 | _=>False
@[simp] theorem Rr {g xs b i o k n} : Bw C g hs K ns dst u e R acc xs (.ref (.n b i o) k n)=(k=0 /\ cR (ac e b) (fun sz0 es0=>f8 es0[i]? (fun row0=>jt row0[o]? (fun sz es=>es.length=n /\ (∀ x ∈ xs,isV (vd (ac e) x)=true) /\ zM C g hs K ns dst ⟨⟩ e R acc b i o sz0 sz es0 es (xs.map (vd (ac e)))) ⟨⟩) ⟨⟩) ⟨⟩):=_root_.id rfl
@[simp] theorem Gm {g x xs v1} : opW C hs K ns dst (.callN g x xs) v1 e R acc=Bw C g hs K ns dst ⟨⟩ e R acc xs (vd (ac e) x):=by
 unfold opW
 simp only [au]
 cases vd (ac e) x <;> try rfl
 rename_i p k n
 cases p with
 | r b=>rfl
 | n b i o =>
  simp only [Bw,cR,fh,iX]
  cases ac e b <;> rfl
@[simp] theorem Gi {g xs v1} : opW C hs K ns dst (.callG g xs) v1 e R acc=((∀ x ∈ xs,br (ac e) (vd (ac e) x)) /\ Bl C g hs K ns dst ⟨⟩ e R acc (xs.map (dpv (ac e)))):=_root_.id rfl
@[simp] theorem Gf {g xs t v1} : opW C hs K ns (some t) (.callA g xs) v1 e R acc=((∀ x ∈ xs,isV (vd (ac e) x)=true) /\ Bk C g hs K ns t ⟨⟩ e R acc (xs.map (vd (ac e)))):=_root_.id rfl
@[simp] theorem Gh {g xs t v1} : opW C hs K ns (some t) (.callF g xs) v1 e R acc=((∀ x ∈ xs,br (ac e) (vd (ac e) x)) /\ ux C g hs K ns t ⟨⟩ e R acc (xs.map (dpv (ac e)))):=_root_.id rfl
@[simp] theorem Ls {g xs x0 v1} : opW C hs K ns dst (.call g xs x0) v1 e R acc=((∀ x ∈ xs,br (ac e) (vd (ac e) x)) /\ pg C g hs K ns dst ⟨⟩ e R acc (xs.all fun x=>isV (vd (ac e) x)) (xs.map (dpv (ac e)))):=_root_.id rfl
def ky (C : CC) (hs : Option (List Nat)) (K : Env -> Prop) (ns : List aq) (t : Nat) (_ : Tag (hs,K,ns)) (e : Env) (R : List Nat) (acc : List (List Nat × List Nat)) (d : D) : Prop:=match d with
 | .ref (.r c) k n=>if c=rt t 0 then doW C hs K ns ⟨⟩ e R acc [(t,.ref (.r c) k n)] [] else match ac e c with
  | .blk sz es=>doW C hs K ns ⟨⟩ e R acc [(t,.ref (.r (rt t 0)) k n),(rt t 0,.blk sz es),(c,.any)] [(rt t 0,true)]
  | _=>False
 | d=>isS d=true /\ doW C hs K ns ⟨⟩ e R acc [(t,d)] []
@[simp] theorem QB {t x v1} : opW C hs K ns (some t) (.asg x) v1 e R acc=ky C hs K ns t ⟨⟩ e R acc (vd (ac e) x):=_root_.id rfl
@[simp] theorem G9 {t c k n} : ky C hs K ns t u e R acc (.ref (.r c) k n)=(if c=rt t 0 then doW C hs K ns ⟨⟩ e R acc [(t,.ref (.r c) k n)] [] else match ac e c with
  | .blk sz es=>doW C hs K ns ⟨⟩ e R acc [(t,.ref (.r (rt t 0)) k n),(rt t 0,.blk sz es),(c,.any)] [(rt t 0,true)]
  | _=>False):=_root_.id rfl
@[simp] theorem DS {t b i o k n} : ky C hs K ns t u e R acc (.ref (.n b i o) k n)=doW C hs K ns ⟨⟩ e R acc [(t,.ref (.n b i o) k n)] []:=by simp [ky]
@[simp] theorem DR {t} : ky C hs K ns t u e R acc .nils=doW C hs K ns ⟨⟩ e R acc [(t,.nils)] []:=by simp [ky]
@[simp] theorem Ms {t es} : ky C hs K ns t u e R acc (.sl es)=doW C hs K ns ⟨⟩ e R acc [(t,.sl es)] []:=by simp [ky]
@[simp] theorem Ha {t b es} : ky C hs K ns t u e R acc (slx b es)=doW C hs K ns ⟨⟩ e R acc [(t,slx b es)] []:=by
 rcases ft b es with h | ⟨h,_⟩ <;> rw [h] <;> simp
@[simp] theorem G8 {t} : ky C hs K ns t u e R acc .any=doW C hs K ns ⟨⟩ e R acc [(t,.any)] []:=by simp [ky]
@[simp] theorem Hb {t ds} : ky C hs K ns t u e R acc (.tup ds)=doW C hs K ns ⟨⟩ e R acc [(t,.tup ds)] []:=by simp [ky]
def qL (C : CC) (hs : Option (List Nat)) (K : Env -> Prop) (ns : List aq) (t : Nat) (_ : Tag (hs,K,ns)) (e : Env) (R : List Nat) (acc : List (List Nat × List Nat)) (d : D) : Prop:=match d with
 | .ref (.r c) k n=>aK (ac e) (.ref (.r c) k n) /\ doW C hs K ns ⟨⟩ e R acc [(t,dp1 (ac e) (.ref (.r c) k n)),(c,.any)] []
 | d=>isS d=true /\ doW C hs K ns ⟨⟩ e R acc [(t,d)] []
@[simp] theorem QO {t x v1} : opW C hs K ns (some t) (.frz x) v1 e R acc=qL C hs K ns t ⟨⟩ e R acc (vd (ac e) x):=_root_.id rfl
@[simp] theorem Ij {t c k n} : qL C hs K ns t u e R acc (.ref (.r c) k n)=(aK (ac e) (.ref (.r c) k n) /\ doW C hs K ns ⟨⟩ e R acc [(t,dp1 (ac e) (.ref (.r c) k n)),(c,.any)] []):=_root_.id rfl
@[simp] theorem EM {t} : qL C hs K ns t u e R acc .nils=doW C hs K ns ⟨⟩ e R acc [(t,.nils)] []:=by simp [qL]
@[simp] theorem Nj {t es} : qL C hs K ns t u e R acc (.sl es)=doW C hs K ns ⟨⟩ e R acc [(t,.sl es)] []:=by simp [qL]
@[simp] theorem Ik {t b es} : qL C hs K ns t u e R acc (slx b es)=doW C hs K ns ⟨⟩ e R acc [(t,slx b es)] []:=by
 rcases ft b es with h | ⟨h,_⟩ <;> rw [h] <;> simp
def yf (C : CC) (hs : Option (List Nat)) (K : Env -> Prop) (ns : List aq) (dst : Option Nat) (_ : Tag (hs,K,ns)) (e : Env) (R : List Nat) (acc : List (List Nat × List Nat)) (c i off : Nat) (d : D) : Prop:=match d with
 | .blk _ es=>∃ r,es[i]? = some r /\ ∃ d,r[off]? = some d /\ cS dst (kOf C hs K ns e R acc) (ldc (.r c) i off d)
 | _=>False
@[simp] theorem Kw {c i off sz es} : yf C hs K ns dst u e R acc c i off (.blk sz es)=f8 es[i]? (fun r=>xp r[off]? (fun d=>dW C hs K ns dst ⟨⟩ e R acc (ldc (.r c) i off d)) ⟨⟩) ⟨⟩:=by
 simp only [yf,fh,xq];rfl
def Kx (C : CC) (hs : Option (List Nat)) (K : Env -> Prop) (ns : List aq) (dst : Option Nat) (_ : Tag (hs,K,ns)) (e : Env) (R : List Nat) (acc : List (List Nat × List Nat)) (q : Nat) (d : D) : Prop:=match d with
 | .adr (.r c) i off=>off=q /\ yf C hs K ns dst ⟨⟩ e R acc c i off (ac e c)
 | _=>False
@[simp] theorem Ky {q c i off} : Kx C hs K ns dst u e R acc q (.adr (.r c) i off)=(off=q /\ yf C hs K ns dst ⟨⟩ e R acc c i off (ac e c)):=_root_.id rfl
@[simp] theorem QR {q x v1} : opW C hs K ns dst (.ldQ q x) v1 e R acc=Kx C hs K ns dst ⟨⟩ e R acc q (vd (ac e) x):=_root_.id rfl
def xn (C : CC) (hs : Option (List Nat)) (K : Env -> Prop) (ns : List aq) (t : Nat) (_ : Tag (hs,K,ns)) (e : Env) (R : List Nat) (acc : List (List Nat × List Nat)) (sz by_ : Nat) (rowsY : List (List D)) (c i o k n : Nat) (d : D) : Prop:=match d with
 | .blk sz0 es0=>∃ row0,es0[i]? = some row0 /\ ∃ es,row0[o]? = some (.own sz es) /\ k + n <= es.length /\ (n + rowsY.length) * by_ <= 140737488355328 /\
   kOf C hs K ns e R acc [(t,.ref (.r (rt t 0)) 0 (n + rowsY.length)),(rt t 0,.blk sz ((es.drop k).take n++rowsY)),(c,.blk sz0 (a7 es0 i o 1 [.any]))] [(rt t 0,true)]
 | _=>False
@[simp] theorem G4 {t sz by_ rowsY c i o k n sz0 es0} : xn C hs K ns t u e R acc sz by_ rowsY c i o k n (.blk sz0 es0)=f8 es0[i]? (fun row0=>jt row0[o]? (fun sz' es=>sz'=sz /\ k + n <= es.length /\ (n + rowsY.length) * by_ <= 140737488355328 /\
   doW C hs K ns ⟨⟩ e R acc [(t,.ref (.r (rt t 0)) 0 (n + rowsY.length)),(rt t 0,.blk sz ((es.drop k).take n++rowsY)),(c,.blk sz0 (a7 es0 i o 1 [.any]))] [(rt t 0,true)]) ⟨⟩) ⟨⟩:=by
 simp only [xn,fh,iX]
 refine propext ⟨?_,?_⟩
 ·rintro ⟨row0,h1,es,h2,h3,h4,h5⟩
  exact ⟨row0,h1,sz,es,h2,rfl,h3,h4,h5⟩
 ·rintro ⟨row0,h1,sz',es,h2,rfl,h3,h4,h5⟩
  exact ⟨row0,h1,es,h2,h3,h4,h5⟩
def G5 (C : CC) (hs : Option (List Nat)) (K : Env -> Prop) (ns : List aq) (t : Nat) (_ : Tag (hs,K,ns)) (e : Env) (R : List Nat) (acc : List (List Nat × List Nat)) (q sz by_ : Nat) (yd : D) (d : D) : Prop:=match d with
 | .ref (.n c i o') k n=>o'=q /\ fe (ac e) false yd sz fun rowsY bs=>bs=[] /\ c ≠ rt t 0 /\ xn C hs K ns t ⟨⟩ e R acc sz by_ rowsY c i o' k n (ac e c)
 | _=>False
@[simp] theorem G6 {t q sz by_ yd c i o k n} : G5 C hs K ns t u e R acc q sz by_ yd (.ref (.n c i o) k n)=(o=q /\ iH (ac e) false yd sz (fun rowsY bs=>bs=[] /\ c ≠ rt t 0 /\ xn C hs K ns t ⟨⟩ e R acc sz by_ rowsY c i o k n (ac e c)) ⟨⟩):=_root_.id rfl
@[simp] theorem Lo {t q sz by_ x y v1} : opW C hs K ns (some t) (.appQ q sz by_ x y) v1 e R acc=G5 C hs K ns t ⟨⟩ e R acc q sz by_ (vd (ac e) y) (vd (ac e) x):=_root_.id rfl
def By (C : CC) (hs : Option (List Nat)) (K : Env -> Prop) (ns : List aq) (t : Nat) (_ : Tag (hs,K,ns)) (e : Env) (R : List Nat) (acc : List (List Nat × List Nat)) (sz : Nat) (rows : List (List D)) (b k n : Nat) (d : D) : Prop:=match d with
 | .blk sz' es=>sz'=sz /\ k + n <= es.length /\ (∀ e ∈ es,∀ c ∈ e,ay c=true) /\ (∀ e ∈ rows,∀ c ∈ e,ay c=true) /\ kOf C hs K ns e R acc [(t,.int .i64 (min rows.length n : Nat)),(b,.blk sz (im es k (rows.take n)))] []
 | _=>False
@[simp] theorem Hv {t sz rows b k n sz' es} : By C hs K ns t u e R acc sz rows b k n (.blk sz' es)=(sz'=sz /\ k + n <= es.length /\ (∀ e ∈ es,∀ c ∈ e,ay c=true) /\ (∀ e ∈ rows,∀ c ∈ e,ay c=true) /\ doW C hs K ns ⟨⟩ e R acc [(t,.int .i64 (min rows.length n : Nat)),(b,.blk sz (im es k (rows.take n)))] []):=_root_.id rfl
def Hw (C : CC) (hs : Option (List Nat)) (K : Env -> Prop) (ns : List aq) (t : Nat) (_ : Tag (hs,K,ns)) (e : Env) (R : List Nat) (acc : List (List Nat × List Nat)) (sz : Nat) (rows : List (List D)) (d : D) : Prop:=match d with
 | .ref (.r b) k n=>(n=0 -> kOf C hs K ns e R acc [(t,.int .i64 0)] []) /\ (0 < n -> By C hs K ns t ⟨⟩ e R acc sz rows b k n (ac e b))
 | _=>False
@[simp] theorem Hx {t sz rows b k n} : Hw C hs K ns t u e R acc sz rows (.ref (.r b) k n)=((n=0 -> doW C hs K ns ⟨⟩ e R acc [(t,.int .i64 0)] []) /\ (0 < n -> By C hs K ns t ⟨⟩ e R acc sz rows b k n (ac e b))):=_root_.id rfl
@[simp] theorem QI {t sz x y v1} : opW C hs K ns (some t) (.cpy sz x y) v1 e R acc=iH (ac e) false (vd (ac e) y) sz (fun rows bs=>bs=[] /\ 0 < rows.length /\ Hw C hs K ns t ⟨⟩ e R acc sz rows (vd (ac e) x)) ⟨⟩:=_root_.id rfl
def Cd (C : CC) (hs : Option (List Nat)) (K : Env -> Prop) (ns : List aq) (t : Nat) (_ : Tag (hs,K,ns)) (e : Env) (R : List Nat) (acc : List (List Nat × List Nat)) (n c : Nat) (d : D) : Prop:=match d with
 | .blk _ [row]=>row.length=n /\ okR (.agg row)=true /\ (aO t (.agg row)).all (fun p=>p.1 != c)=true /\ doW C hs K ns ⟨⟩ e R acc ((t,dU t (.agg row))::(c,.any)::aO t (.agg row)) (dL t (.agg row))
 | _=>False
@[simp] theorem Kt {t n c sz row} : Cd C hs K ns t u e R acc n c (.blk sz [row])=(row.length=n /\ okR (.agg row)=true /\ (aO t (.agg row)).all (fun p=>p.1 != c)=true /\ doW C hs K ns ⟨⟩ e R acc ((t,dU t (.agg row))::(c,.any)::aO t (.agg row)) (dL t (.agg row))):=_root_.id rfl
def Ku (C : CC) (hs : Option (List Nat)) (K : Env -> Prop) (ns : List aq) (t : Nat) (_ : Tag (hs,K,ns)) (e : Env) (R : List Nat) (acc : List (List Nat × List Nat)) (n : Nat) (d : D) : Prop:=match d with
 | .adr (.r c) i off=>i=0 /\ off=0 /\ Cd C hs K ns t ⟨⟩ e R acc n c (ac e c)
 | _=>False
@[simp] theorem Kv {t n c i off} : Ku C hs K ns t u e R acc n (.adr (.r c) i off)=(i=0 /\ off=0 /\ Cd C hs K ns t ⟨⟩ e R acc n c (ac e c)):=_root_.id rfl
@[simp] theorem QQ {t n x v1} : opW C hs K ns (some t) (.ldM n x) v1 e R acc=Ku C hs K ns t ⟨⟩ e R acc n (vd (ac e) x):=_root_.id rfl
def ye (C : CC) (hs : Option (List Nat)) (K : Env -> Prop) (ns : List aq) (t : Nat) (_ : Tag (hs,K,ns)) (e : Env) (R : List Nat) (acc : List (List Nat × List Nat)) (n c i off : Nat) (d : D) : Prop:=match d with
 | .blk _ es=>∃ r,es[i]? = some r /\ off + n <= r.length /\ doW C hs K ns ⟨⟩ e R acc [(t,.agg (((r.drop off).take n).map aW)),(c,.any)] []
 | _=>False
@[simp] theorem Kq {t n c i off sz es} : ye C hs K ns t u e R acc n c i off (.blk sz es)=f8 es[i]? (fun r=>off + n <= r.length /\ doW C hs K ns ⟨⟩ e R acc [(t,.agg (((r.drop off).take n).map aW)),(c,.any)] []) ⟨⟩:=by
 simp only [ye,fh]
def Kr (C : CC) (hs : Option (List Nat)) (K : Env -> Prop) (ns : List aq) (t : Nat) (_ : Tag (hs,K,ns)) (e : Env) (R : List Nat) (acc : List (List Nat × List Nat)) (n : Nat) (d : D) : Prop:=match d with
 | .adr (.r c) i off=>ye C hs K ns t ⟨⟩ e R acc n c i off (ac e c)
 | _=>False
@[simp] theorem Ks {t n c i off} : Kr C hs K ns t u e R acc n (.adr (.r c) i off)=ye C hs K ns t ⟨⟩ e R acc n c i off (ac e c):=_root_.id rfl
@[simp] theorem QP {t n x v1} : opW C hs K ns (some t) (.ldF n x) v1 e R acc=Kr C hs K ns t ⟨⟩ e R acc n (vd (ac e) x):=_root_.id rfl
def C2 (C : CC) (hs : Option (List Nat)) (K : Env -> Prop) (ns : List aq) (t : Nat) (_ : Tag (hs,K,ns)) (e : Env) (R : List Nat) (acc : List (List Nat × List Nat)) (len sz c : Nat) (d : D) : Prop:=match d with
 | .blk _ [row]=>0 < len /\ 0 < sz /\ row.length=len * sz /\ (∀ d ∈ row,ay d=true) /\ doW C hs K ns ⟨⟩ e R acc [(t,.ref (.r (rt t 0)) 0 len),(rt t 0,.blk sz (bV sz len row)),(c,.any)] [(rt t 0,true)]
 | _=>False
@[simp] theorem LZ {t len sz c sz0 row} : C2 C hs K ns t u e R acc len sz c (.blk sz0 [row])=(0 < len /\ 0 < sz /\ row.length=len * sz /\ (∀ d ∈ row,ay d=true) /\ doW C hs K ns ⟨⟩ e R acc [(t,.ref (.r (rt t 0)) 0 len),(rt t 0,.blk sz (bV sz len row)),(c,.any)] [(rt t 0,true)]):=_root_.id rfl
def L0 (C : CC) (hs : Option (List Nat)) (K : Env -> Prop) (ns : List aq) (t : Nat) (_ : Tag (hs,K,ns)) (e : Env) (R : List Nat) (acc : List (List Nat × List Nat)) (len sz : Nat) (d : D) : Prop:=match d with
 | .adr (.r c) i off=>i=0 /\ off=0 /\ c ≠ rt t 0 /\ C2 C hs K ns t ⟨⟩ e R acc len sz c (ac e c)
 | _=>False
@[simp] theorem L7 {t len sz c i off} : L0 C hs K ns t u e R acc len sz (.adr (.r c) i off)=(i=0 /\ off=0 /\ c ≠ rt t 0 /\ C2 C hs K ns t ⟨⟩ e R acc len sz c (ac e c)):=_root_.id rfl
@[simp] theorem Q3 {len sz x t v1} : opW C hs K ns (some t) (.slM len sz x) v1 e R acc=L0 C hs K ns t ⟨⟩ e R acc len sz (vd (ac e) x):=_root_.id rfl
def hD (C : CC) (hs : Option (List Nat)) (K : Env -> Prop) (ns : List aq) (dst : Option Nat) (_ : Tag (hs,K,ns)) (e : Env) (R : List Nat) (acc : List (List Nat × List Nat)) (d : D) : Prop:=match d with
 | .agx ds=>dW C hs K ns dst ⟨⟩ e R acc (.ptx ds)
 | .agg ds=>dW C hs K ns dst ⟨⟩ e R acc (.ptr ds)
 | d=>ay d=true /\ dW C hs K ns dst ⟨⟩ e R acc (.ptr [d])
@[simp] theorem Bs {ds : List D} : dC (.agg ds)=ds:=_root_.id rfl
@[simp] theorem Bt {k n} : dC (.int k n)=[.int k n]:=_root_.id rfl
@[simp] theorem Bu {n} : dC (.str n)=[.str n]:=_root_.id rfl
@[simp] theorem Af {n} : dC (.bool n)=[.bool n]:=_root_.id rfl
@[simp] theorem Ei {n} : dC (.sl n)=[.sl n]:=_root_.id rfl
@[simp] theorem EL {f : Nat -> D} {es} : gh f [] es=es:=_root_.id rfl
@[simp] theorem BM {f : Nat -> D} {p ps es} : gh f (p::ps) es=gh f ps (es.set p.1 (dC (vd f p.2))):=_root_.id rfl
@[simp] theorem Lp {sz len zs parts v1} : opW C hs K ns dst (.blsF sz len zs parts) v1 e R acc=((∀ p ∈ parts,p.1 < len /\ (dC (vd (ac e) p.2)).length=sz /\ ∀ c ∈ dC (vd (ac e) p.2),ay c=true) /\ 0 < len /\
   (∀ r ∈ gh (ac e) parts (List.replicate len zs),∀ c ∈ r,ay c=true) /\ dW C hs K ns dst ⟨⟩ e R acc (.sl (gh (ac e) parts (List.replicate len zs)))):=_root_.id rfl
@[simp] theorem Lq {sz len zs parts v1} : opW C hs K ns dst (.blsX sz len zs parts) v1 e R acc=(zs.all ay=true /\ (∀ p ∈ parts,p.1 < len /\ match (generalizing:=false) vd (ac e) p.2 with
    | .agg ds=>ds.length=sz
    | .agx ds=>ds.length=sz
    | _=>False) /\ dW C hs K ns dst ⟨⟩ e R acc (.rfx len sz (ji (ac e) sz len zs parts))):=_root_.id rfl
attribute [simp] ji
@[simp] theorem Lr {x v1} : opW C hs K ns dst (.boxF x) v1 e R acc=hD C hs K ns dst ⟨⟩ e R acc (vd (ac e) x):=_root_.id rfl
@[simp] theorem Hh {ds} : hD C hs K ns dst u e R acc (.agx ds)=dW C hs K ns dst ⟨⟩ e R acc (.ptx ds):=_root_.id rfl
@[simp] theorem Hg {ds} : hD C hs K ns dst u e R acc (.agg ds)=dW C hs K ns dst ⟨⟩ e R acc (.ptr ds):=_root_.id rfl
@[simp] theorem Hi {k n} : hD C hs K ns dst u e R acc (.int k n)=dW C hs K ns dst ⟨⟩ e R acc (.ptr [.int k n]):=by simp [hD]
@[simp] theorem DT {n} : hD C hs K ns dst u e R acc (.bool n)=dW C hs K ns dst ⟨⟩ e R acc (.ptr [.bool n]):=by simp [hD]
@[simp] theorem Hl {n} : hD C hs K ns dst u e R acc (.str n)=dW C hs K ns dst ⟨⟩ e R acc (.ptr [.str n]):=by simp [hD]
@[simp] theorem DU : hD C hs K ns dst u e R acc .nils=dW C hs K ns dst ⟨⟩ e R acc (.ptr [.nils]):=by simp [hD]
@[simp] theorem Mx {es} : hD C hs K ns dst u e R acc (.sl es)=dW C hs K ns dst ⟨⟩ e R acc (.ptr [.sl es]):=by simp [hD]
@[simp] theorem Hk {b es} : hD C hs K ns dst u e R acc (slx b es)=dW C hs K ns dst ⟨⟩ e R acc (.ptr [slx b es]):=by
 rcases ft b es with h | ⟨h,_⟩ <;> rw [h] <;> simp
@[simp] theorem Hj {es} : hD C hs K ns dst u e R acc (.ptr es)=dW C hs K ns dst ⟨⟩ e R acc (.ptr [.ptr es]):=by simp [hD]
@[simp] theorem Mw {g es} : hD C hs K ns dst u e R acc (.fn g es)=dW C hs K ns dst ⟨⟩ e R acc (.ptr [.fn g es]):=by simp [hD]
@[simp] theorem QS {x v1} : opW C hs K ns dst (.len x) v1 e R acc=qX (vd (ac e) x) (fun n=>dW C hs K ns dst ⟨⟩ e R acc (.int .i64 n)) ⟨⟩:=by
 show res (ac e) _ (.len x)=_
 simp only [res,qX]
 cases vd (ac e) x <;> rfl
def qT (C : CC) (hs : Option (List Nat)) (K : Env -> Prop) (ns : List aq) (dst : Option Nat) (_ : Tag (hs,K,ns)) (e : Env) (R : List Nat) (acc : List (List Nat × List Nat)) (sz : Nat) (x i : D) : Prop:=match (generalizing:=false) x,i with
  | .sl es,.int _ j=>0 <= j /\ ia C hs K ns dst ⟨⟩ e R acc sz es j.toNat
  | .slv _ es,.int _ j=>0 <= j /\ ia C hs K ns dst ⟨⟩ e R acc sz es j.toNat
  | .rfx n sz' ds,.int _ j=>0 <= j /\ j.toNat < n /\ sz'=sz /\ dW C hs K ns dst ⟨⟩ e R acc (.ptx (ds.drop (j.toNat * sz)))
  | .ref p k n,.int _ j=>0 <= j /\ j.toNat < n /\ match (generalizing:=false) aP (ac e) p with
   | some (sz',_)=>sz'=sz /\ dW C hs K ns dst ⟨⟩ e R acc (.adr p (k + j.toNat) 0)
   | none=>False
  | _,_=>False
@[simp] theorem Lv {sz x i v1} : opW C hs K ns dst (.iadS sz x i) v1 e R acc=qT C hs K ns dst ⟨⟩ e R acc sz (vd (ac e) x) (vd (ac e) i):=_root_.id rfl
@[simp] theorem Iu {sz sz' n ds k j} : qT C hs K ns dst u e R acc sz (.rfx n sz' ds) (.int k j)=(0 <= j /\ j.toNat < n /\ sz'=sz /\ dW C hs K ns dst ⟨⟩ e R acc (.ptx (ds.drop (j.toNat * sz)))):=_root_.id rfl
@[simp] theorem Nk {sz es k j} : qT C hs K ns dst u e R acc sz (.sl es) (.int k j)=(0 <= j /\ ia C hs K ns dst ⟨⟩ e R acc sz es j.toNat):=_root_.id rfl
@[simp] theorem Iv {sz q es k j} : qT C hs K ns dst u e R acc sz (.slv q es) (.int k j)=(0 <= j /\ ia C hs K ns dst ⟨⟩ e R acc sz es j.toNat):=_root_.id rfl
@[simp] theorem Iw {sz b es k j} : qT C hs K ns dst u e R acc sz (slx b es) (.int k j)=(0 <= j /\ ia C hs K ns dst ⟨⟩ e R acc sz es j.toNat):=by
 rcases ft b es with h | ⟨h,rfl⟩
 ·rw [h];rfl
 ·rw [h];simp [qT,ia]
@[simp] theorem It {sz p k n k' j} : qT C hs K ns dst u e R acc sz (.ref p k n) (.int k' j)=(0 <= j /\ j.toNat < n /\ match (generalizing:=false) aP (ac e) p with
   | some (sz',_)=>sz'=sz /\ dW C hs K ns dst ⟨⟩ e R acc (.adr p (k + j.toNat) 0)
   | none=>False):=_root_.id rfl
def yG (C : CC) (hs : Option (List Nat)) (K : Env -> Prop) (ns : List aq) (dst : Option Nat) (_ : Tag (hs,K,ns)) (e : Env) (R : List Nat) (acc : List (List Nat × List Nat)) (sz : Nat) (x : D) (lo hi : Option Opd) : Prop:=match (generalizing:=false) x with
  | .sl es=>(∀ e ∈ es,e.length=sz) /\ dt (ac e) hi es.length (fun h=>dt (ac e) lo 0 (fun l=>l <= h /\ h <= es.length /\ dW C hs K ns dst ⟨⟩ e R acc (.sl ((es.take h).drop l))) ⟨⟩) ⟨⟩
  | .nils=>dt (ac e) hi 0 (fun h=>dt (ac e) lo 0 (fun l=>l <= h /\ h <= 0 /\ dW C hs K ns dst ⟨⟩ e R acc (.sl [])) ⟨⟩) ⟨⟩
  | .ref p k n=>match (generalizing:=false) aP (ac e) p with
   | some (sz',_)=>sz'=sz /\ dt (ac e) hi n (fun h=>dt (ac e) lo 0 (fun l=>l <= h /\ h <= n /\ dW C hs K ns dst ⟨⟩ e R acc (.ref p (k + l) (h - l))) ⟨⟩) ⟨⟩
   | none=>False
  | _=>False
@[simp] theorem Q5 {sz x lo hi v1} : opW C hs K ns dst (.slc sz x lo hi) v1 e R acc=yG C hs K ns dst ⟨⟩ e R acc sz (vd (ac e) x) lo hi:=_root_.id rfl
@[simp] theorem Ra {sz es lo hi} : yG C hs K ns dst u e R acc sz (.sl es) lo hi=((∀ e ∈ es,e.length=sz) /\ dt (ac e) hi es.length (fun h=>dt (ac e) lo 0 (fun l=>l <= h /\ h <= es.length /\ dW C hs K ns dst ⟨⟩ e R acc (.sl ((es.take h).drop l))) ⟨⟩) ⟨⟩):=_root_.id rfl
@[simp] theorem GH {sz lo hi} : yG C hs K ns dst u e R acc sz .nils lo hi=dt (ac e) hi 0 (fun h=>dt (ac e) lo 0 (fun l=>l <= h /\ h <= 0 /\ dW C hs K ns dst ⟨⟩ e R acc (.sl [])) ⟨⟩) ⟨⟩:=_root_.id rfl
@[simp] theorem LY {sz p k n lo hi} : yG C hs K ns dst u e R acc sz (.ref p k n) lo hi=(match (generalizing:=false) aP (ac e) p with
   | some (sz',_)=>sz'=sz /\ dt (ac e) hi n (fun h=>dt (ac e) lo 0 (fun l=>l <= h /\ h <= n /\ dW C hs K ns dst ⟨⟩ e R acc (.ref p (k + l) (h - l))) ⟨⟩) ⟨⟩
   | none=>False):=_root_.id rfl
@[simp] theorem Gq {x xs v1} : opW C hs K ns dst (.callv x xs) v1 e R acc=(match (generalizing:=false) vd (ac e) x with
  | .fn g cs=>(∀ x ∈ xs,br (ac e) (vd (ac e) x)) /\ pg C g hs K ns dst ⟨⟩ e R acc (xs.all fun x=>isV (vd (ac e) x)) (xs.map (dpv (ac e))++cs)
  | .fnx g cs=>(∀ x ∈ xs,br (ac e) (vd (ac e) x)) /\ (∀ c ∈ cs,aK (ac e) c) /\ pg C g hs K ns dst ⟨⟩ e R acc false (xs.map (dpv (ac e))++cs.map (dp1 (ac e)))
  | _=>False):=by
 simp only [opW,au,pg,cS,Bool.false_eq_true,or_false]
 cases vd (ac e) x <;> rfl
def mpT (x : D) (K : Nat -> Nat -> List D -> List D -> Prop) (_ : Tag K) : Prop:=match x with
 | .mp kt et ks vs=>K kt et ks vs
 | _=>False
@[simp] theorem SC {kt et ks vs K u} : mpT (.mp kt et ks vs) K u=K kt et ks vs:=_root_.id rfl
@[simp] theorem QU {kt et t v1} : opW C hs K ns (some t) (.mkm kt et) v1 e R acc=doW C hs K ns ⟨⟩ e R acc [(t,.mrf (rt t 0)),(rt t 0,.mp kt et [] [])] [(rt t 0,true)]:=_root_.id rfl
def mlM (C : CC) (hs : Option (List Nat)) (K : Env -> Prop) (ns : List aq) (dst : Option Nat) (_ : Tag (hs,K,ns)) (e : Env) (R : List Nat) (acc : List (List Nat × List Nat)) (sh : KSh) (kt et : Nat) (ok : Bool) (z x m : D) : Prop:=match m with
 | .mrf b=>mpT (ac e b) (fun kt' et' ks vs=>kt'=kt /\ et'=et /\ c9 sh x /\ match ok with
    | true=>dW C hs K ns dst ⟨⟩ e R acc (.tup [(db ks vs x).getD z,.bool (db ks vs x).isSome])
    | false=>dW C hs K ns dst ⟨⟩ e R acc ((db ks vs x).getD z)) ⟨⟩
 | _=>False
@[simp] theorem Qn {sh kt et ok z x b} : mlM C hs K ns dst u e R acc sh kt et ok z x (.mrf b)=mpT (ac e b) (fun kt' et' ks vs=>kt'=kt /\ et'=et /\ c9 sh x /\ match ok with
    | true=>dW C hs K ns dst ⟨⟩ e R acc (.tup [(db ks vs x).getD z,.bool (db ks vs x).isSome])
    | false=>dW C hs K ns dst ⟨⟩ e R acc ((db ks vs x).getD z)) ⟨⟩:=_root_.id rfl
@[simp] theorem QX {sh kt et ok z m x v1} : opW C hs K ns dst (.mpl sh kt et ok z m x) v1 e R acc=mlM C hs K ns dst ⟨⟩ e R acc sh kt et ok z (vd (ac e) x) (vd (ac e) m):=by
 show res (ac e) _ (.mpl sh kt et ok z m x)=_
 simp only [res,mlM]
 cases vd (ac e) m <;> rfl
def muM (C : CC) (hs : Option (List Nat)) (K : Env -> Prop) (ns : List aq) (_ : Tag (hs,K,ns)) (e : Env) (R : List Nat) (acc : List (List Nat × List Nat)) (sh : KSh) (kt et : Nat) (z x v m : D) : Prop:=match m with
 | .mrf b=>mpT (ac e b) (fun kt' et' ks vs=>kt'=kt /\ et'=et /\ ks.length < maxLen /\ c9 sh x /\ iq z v /\ doW C hs K ns ⟨⟩ e R acc [(b,.mp kt et (x::ks) (v::vs))] []) ⟨⟩
 | _=>False
@[simp] theorem Qo {sh kt et z x v b} : muM C hs K ns u e R acc sh kt et z x v (.mrf b)=mpT (ac e b) (fun kt' et' ks vs=>kt'=kt /\ et'=et /\ ks.length < maxLen /\ c9 sh x /\ iq z v /\ doW C hs K ns ⟨⟩ e R acc [(b,.mp kt et (x::ks) (v::vs))] []) ⟨⟩:=_root_.id rfl
@[simp] theorem QY {sh kt et z m x v v1} : opW C hs K ns dst (.mpu sh kt et z m x v) v1 e R acc=(dst=none /\ muM C hs K ns ⟨⟩ e R acc sh kt et z (vd (ac e) x) (vd (ac e) v) (vd (ac e) m)):=by
 show (dst=none /\ _)=_
 congr 1
end
@[simp] theorem B7 {s} : c9 .str (.str s)=(s.length <= maxLen):=_root_.id rfl
@[simp] theorem Ar {b} : c9 .bool (.bool b)=True:=_root_.id rfl
@[simp] theorem B6 {q q' n} : c9 (.int q) (.int q' n)=(q'=q /\ pG q n):=_root_.id rfl
@[simp] theorem As {q n ds} : c9 (.ints q n) (.agg ds)=(ds.length=n /\ ∀ d ∈ ds,∃ x,d=.int q x /\ pG q x):=_root_.id rfl
@[simp] theorem EK {s z} : iq (.str z) (.str s)=(s.length <= maxLen):=_root_.id rfl
@[simp] theorem BF {b z} : iq (.bool z) (.bool b)=True:=_root_.id rfl
@[simp] theorem EJ {q q' n z} : iq (.int q z) (.int q' n)=(q'=q /\ pG q n):=_root_.id rfl
@[simp] theorem IG {n : Int} : pG .i64 n=(-9223372036854775808 <= n /\ n <= 9223372036854775807):=by
 have e1 : IntKind.i64.min=-9223372036854775808:=rfl
 have e2 : IntKind.i64.max=9223372036854775807:=rfl
 simp [pG,Lit.wf,e1,e2]
attribute [simp] iG fA bP dU cx bK aO dL vK okR qb lq cB
attribute [simp] vd params fd jw jx jv mb mO vZ prune jC isC iu aP SQ a7 dpv bU stK bk rt chk rdS rdR frR fwR fX rdN ir wrK mnR CQ ldN af iF pC wOk Pa.root cc bL
end Go.Gv

namespace Go.Gv
section
variable {C : CC}
theorem iZ {f : Nat -> D} {dst : Option Nat} {K K' : KT} {o : NOp} (h : au C f dst K o) (hk : ∀ ws ks,K ws ks -> K' ws ks) : au C f dst K' o:=by
 obtain ⟨ws,ks,h1,h2⟩:=mP h
 exact h2 K' (hk ws ks h1)
theorem gT {e : Env} {dst : Option Nat} {K K' : Env -> Prop} (h : gB e dst K) (hk : ∀ e,K e -> K' e) : gB e dst K':=by
 unfold gB at h ⊢
 split at h
 ·exact hk _ h
 ·exact hk _ h
theorem gI {K K' : Env -> Prop} (hk : ∀ e,K e -> K' e) : ∀ (ns : List aq) (e : Env),gW C K ns e -> gW C K' ns e
 | [],e,h=>hk e h
 | o::os,e,h=>by
  rw [gW] at h ⊢
  split at h
  ·exact iZ h (fun ws ks h1=>gI hk os _ h1)
  ·split at h
   ·exact ⟨fun hb=>iZ (h.1 hb) (fun ws ks h1=>gI hk os _ h1),fun hb=>gT (h.2 hb) (fun e h1=>gI hk os e h1)⟩
   ·exact gT h (fun e h1=>gI hk os e h1)
   ·exact h.elim
theorem gH {hs : List Nat} {K K' : Env -> Prop} (hk : ∀ e,K e -> K' e) : ∀ (ns : List aq) (e : Env) (acc : List (List Nat × List Nat)),je C hs K ns e acc -> je C hs K' ns e acc
 | [],e,acc,h=>⟨h.1,hk e h.2⟩
 | o::os,e,acc,h=>by
  rw [je] at h ⊢
  refine ⟨h.1,?_⟩
  have h:=h.2
  split at h
  ·exact iZ h (fun ws ks h1=>⟨h1.1,gH hk os _ _ h1.2⟩)
  ·split at h
   ·exact ⟨fun hb=>iZ (h.1 hb) (fun ws ks h1=>⟨h1.1,gH hk os _ _ h1.2⟩),fun hb=>gT (h.2 hb) (fun e h1=>gH hk os e _ h1)⟩
   ·exact gT h (fun e h1=>gH hk os e _ h1)
   ·exact h.elim
theorem dZ : ∀ (c : dx) (Q Q' : cg -> Env -> Prop) (e : Env),(∀ t e,Q t e -> Q' t e) -> wpN C c Q e -> wpN C c Q' e
 | .skip,Q,Q',e,hq,h=>hq _ _ h
 | .reg dr hs keep ops,Q,Q',e,hq,h=>by
  cases dr with
  | false=>exact gI (fun e h=>hq _ _ h) ops e h
  | true=>exact gH (fun e h=>hq _ _ h) ops e [] h
 | .seq x y,Q,Q',e,hq,h=>dZ x _ _ e (fun t e h=>by
   cases t with
   | nrm=>exact dZ y Q Q' e hq h
   | ext i=>exact hq _ _ h
   | ret=>exact hq _ _ h) h
 | .cond c x y,Q,Q',e,hq,h=>by
  rw [wpN] at h ⊢
  split at h
  ·exact ⟨fun hb=>dZ x Q Q' e hq (h.1 hb),fun hb=>dZ y Q Q' e hq (h.2 hb)⟩
  ·exact ⟨dZ x Q Q' e hq h.1,dZ y Q Q' e hq h.2⟩
  ·exact h.elim
 | .block id c,Q,Q',e,hq,h=>dZ c _ _ e (fun t e h=>by
   cases t with
   | nrm=>exact hq _ _ h
   | ext i =>
    simp only at h ⊢
    split
    ·rename_i hi;rw [if_pos hi] at h;exact hq _ _ h
    ·rename_i hi;rw [if_neg hi] at h;exact hq _ _ h
   | ret=>exact hq _ _ h) h
 | .loop c,Q,Q',e,hq,h=>by
  obtain ⟨S,G,I,m,s0,h1,h2,h3⟩:=h
  refine ⟨S,G,I,m,s0,h1,h2,fun s hs=>dZ c _ _ _ (fun t e h=>?_) (h3 s hs)⟩
  cases t with
  | nrm=>exact h
  | ext i=>exact hq _ _ h
  | ret=>exact hq _ _ h
 | .exit id,Q,Q',e,hq,h=>hq _ _ h
 | .ret,Q,Q',e,hq,h=>hq _ _ h
def tA (id : Nat) (S : Type) (G : S -> Env) (J : S -> Prop) (Q : cg -> Env -> Prop) : cg -> Env -> Prop:=fun t e=>match t with
 | .ext i=>if i=id then ∃ s,J s /\ jC e (G s) else Q (.ext i) e
 | t=>Q t e
variable {Q : cg -> Env -> Prop} {e : Env}
@[simp] theorem xM {id S G J u} : bQ (tA id S G J Q) u .nrm e=bQ Q ⟨⟩ .nrm e:=_root_.id rfl
@[simp] theorem xN {id S G J u} : bQ (tA id S G J Q) u .ret e=bQ Q ⟨⟩ .ret e:=_root_.id rfl
@[simp] theorem xL {id S G J u i} : bQ (tA id S G J Q) u (.ext i) e=if i=id then ∃ s,J s /\ jC e (G s) else bQ Q ⟨⟩ (.ext i) e:=_root_.id rfl
theorem pN {c : dx} {u : Tag (c,Q)} (id : Nat) (S : Type) (G : S -> Env) (J : S -> Prop) (h : sg C c (tA id S G J Q) ⟨⟩ e) (hr : ∀ s e,J s -> jC e (G s) -> bQ Q ⟨⟩ (.ext id) e) : sg C c Q u e :=
 dZ (.loop c) (tA id S G J Q) Q e (fun t e g=>by
  cases t with
  | nrm=>exact g
  | ret=>exact g
  | ext i =>
   simp only [tA] at g
   by_cases hi : i=id
   ·rw [if_pos hi] at g
    obtain ⟨s,h1,h2⟩:=g
    rw [hi]
    exact hr s e h1 h2
   ·rw [if_neg hi] at g
    exact g) h
def Cj (S : Type) (G : S -> Env) (J : S -> Prop) (Q : cg -> Env -> Prop) : cg -> Env -> Prop:=fun t e=>match t with
 | .nrm=>∃ s,J s /\ jC e (G s)
 | t=>Q t e
@[simp] theorem xJ {S G J u} : bQ (Cj S G J Q) u .nrm e=∃ s,J s /\ jC e (G s):=_root_.id rfl
@[simp] theorem xK {S G J u} : bQ (Cj S G J Q) u .ret e=bQ Q ⟨⟩ .ret e:=_root_.id rfl
@[simp] theorem xI {S G J u i} : bQ (Cj S G J Q) u (.ext i) e=bQ Q ⟨⟩ (.ext i) e:=_root_.id rfl
end
@[simp] theorem LR {C : CC} {hs : Option (List Nat)} {K : Env -> Prop} {ns : List aq} {dst : Option Nat} {u : Tag (hs,K,ns)} {e : Env} {R : List Nat} {acc : List (List Nat × List Nat)} {α : Type} [Inhabited α] {n : Nat} {ag : Bool} {p : Pa} {xs : List α} {f : α -> List D} {i off : Nat} :
  kU C hs K ns dst u e R acc n ag p (xs.map f) i off=(i < xs.length /\ off + n <= (f xs[i]!).length /\ match ag with
    | true=>((((f xs[i]!).drop off).take n).all isV=true -> dW C hs K ns dst ⟨⟩ e R acc (.agg (((f xs[i]!).drop off).take n))) /\
      ((((f xs[i]!).drop off).take n).all isV=false -> dW C hs K ns dst ⟨⟩ e R acc (.agx ((((f xs[i]!).drop off).take n).mapIdx fun j c=>ldc p i (off + j) c)))
    | false=>dW C hs K ns dst ⟨⟩ e R acc (ldc p i off (((f xs[i]!).drop off).headD .any))):=by
 apply propext
 constructor
 ·rintro ⟨r,h,h1,h2⟩
  rw [List.getElem?_map,Option.map_eq_some_iff] at h
  obtain ⟨x,hx,rfl⟩:=h
  obtain ⟨hi,rfl⟩:=List.getElem?_eq_some_iff.1 hx
  rw [getElem!_pos xs i hi]
  refine ⟨hi,h1,?_⟩
  cases ag <;> exact h2
 ·rintro ⟨hi,h1,h2⟩
  rw [getElem!_pos xs i hi] at h1 h2
  refine sv (r:=f xs[i]) (by rw [List.getElem?_map,List.getElem?_eq_getElem hi];rfl) h1 ?_
  cases ag <;> exact h2
@[simp] theorem FI {b all ks n} : aN ((b,all)::ks) (.ptx n)=if n.any (aA b all) then .any else aN ks (.ptx n):=by
 have h : aN ((b,all)::ks) (.ptx n)=bif (n.any (aA b all) || az ks (.ptx n)) then .any else .ptx n:=bI ..
 rw [h,bI]
 cases n.any (aA b all) <;> rfl
@[simp] theorem FK {b all ks k sz n} : aN ((b,all)::ks) (.rfx k sz n)=if n.any (aA b all) then .any else aN ks (.rfx k sz n):=by
 have h : aN ((b,all)::ks) (.rfx k sz n)=bif (n.any (aA b all) || az ks (.rfx k sz n)) then .any else .rfx k sz n:=bI ..
 rw [h,bI]
 cases n.any (aA b all) <;> rfl
@[simp] theorem FO {b all ks n} : aN ((b,all)::ks) (.tpx n)=if n.any (aA b all) then .any else aN ks (.tpx n):=by
 have h : aN ((b,all)::ks) (.tpx n)=bif (n.any (aA b all) || az ks (.tpx n)) then .any else .tpx n:=bI ..
 rw [h,bI]
 cases n.any (aA b all) <;> rfl
@[simp] theorem F5 {b all n es} : aA b all (slx n es)=false:=by cases n <;> cases es <;> rfl
@[simp] theorem F0 {b all p k n} : aA b all (.ref p k n)=bk b all p:=_root_.id rfl
@[simp] theorem FU {b all p k n} : aA b all (.adr p k n)=bk b all p:=_root_.id rfl
@[simp] theorem FV {b all T p k n} : aA b all (.ifa T p k n)=bk b all p:=_root_.id rfl
@[simp] theorem FW {b all T n} : aA b all (.ifi T n)=false:=_root_.id rfl
@[simp] theorem F4 {b all k n} : aA b all (.slv k n)=false:=_root_.id rfl
@[simp] theorem FY {b all c} : aA b all (.mrf c)=(all && c == b):=_root_.id rfl
@[simp] theorem FX {b all k n} : aA b all (.int k n)=false:=_root_.id rfl
@[simp] theorem Cf {b all n} : aA b all (.bool n)=false:=_root_.id rfl
@[simp] theorem F6 {b all n} : aA b all (.str n)=false:=_root_.id rfl
@[simp] theorem Ci {b all} : aA b all .nils=false:=_root_.id rfl
@[simp] theorem Cg {b all} : aA b all .nilp=false:=_root_.id rfl
@[simp] theorem KI {b all n} : aA b all (.sl n)=false:=_root_.id rfl
@[simp] theorem FZ {b all n} : aA b all (.ptr n)=false:=_root_.id rfl
@[simp] theorem KH {b all g n} : aA b all (.fn g n)=false:=_root_.id rfl
@[simp] theorem FF {b all ks c} : aN ((b,all)::ks) (.mrf c)=if (all && c == b) then .any else aN ks (.mrf c):=by
 have h : aN ((b,all)::ks) (.mrf c)=bif ((all && c == b) || az ks (.mrf c)) then .any else .mrf c:=bI ..
 rw [h,bI]
 cases all && c == b <;> rfl
end Go.Gv

namespace Go.Gv
section
variable {C : CC} {hs : Option (List Nat)} {K : Env -> Prop} {ns : List aq} {dst : Option Nat} {u : Tag (hs,K,ns)} {e : Env} {R : List Nat} {acc : List (List Nat × List Nat)}
theorem av {sz : Nat} {es : List (List D)} {i : Nat} {c : List D} (h : es[i]? = some c) : ia C hs K ns dst u e R acc sz es i=(c.length=sz /\ dW C hs K ns dst ⟨⟩ e R acc (.ptr c)):=by
 apply propext
 unfold ia dW
 rw [h]
 exact ⟨fun ⟨_,h1,h2⟩=>by cases h1;exact h2,fun h2=>⟨c,rfl,h2⟩⟩
theorem aT {n : Nat} {ag : Bool} {p : Pa} {es : List (List D)} {i off : Nat} {r : List D} (hr : es[i]? = some r) : kU C hs K ns dst u e R acc n ag p es i off=(off + n <= r.length /\ match ag with
    | true=>(((r.drop off).take n).all isV=true -> dW C hs K ns dst ⟨⟩ e R acc (.agg ((r.drop off).take n))) /\
      (((r.drop off).take n).all isV=false -> dW C hs K ns dst ⟨⟩ e R acc (.agx (((r.drop off).take n).mapIdx fun j c=>ldc p i (off + j) c)))
    | false=>dW C hs K ns dst ⟨⟩ e R acc (ldc p i off ((r.drop off).headD .any))):=by
 apply propext
 constructor
 ·rintro ⟨r',h,h1,h2⟩
  rw [hr] at h
  cases h
  refine ⟨h1,?_⟩
  cases ag <;> exact h2
 ·rintro ⟨h1,h2⟩
  refine sv hr h1 ?_
  cases ag <;> exact h2
@[simp] theorem Ix {sz : Nat} {c0 : List D} {es : List (List D)} : ia C hs K ns dst u e R acc sz (c0::es) 0=(c0.length=sz /\ dW C hs K ns dst ⟨⟩ e R acc (.ptr c0)):=av rfl
theorem v7 {n : Nat} {ag : Bool} {p : Pa} {off : Nat} {c0 : List D} {es : List (List D)} : kU C hs K ns dst u e R acc n ag p (c0::es) 0 off=(off + n <= c0.length /\ match ag with
    | true=>(((c0.drop off).take n).all isV=true -> dW C hs K ns dst ⟨⟩ e R acc (.agg ((c0.drop off).take n))) /\
      (((c0.drop off).take n).all isV=false -> dW C hs K ns dst ⟨⟩ e R acc (.agx (((c0.drop off).take n).mapIdx fun j c=>ldc p 0 (off + j) c)))
    | false=>dW C hs K ns dst ⟨⟩ e R acc (ldc p 0 off ((c0.drop off).headD .any))):=aT rfl
@[simp] theorem Iy {sz : Nat} {c0 c1 : List D} {es : List (List D)} : ia C hs K ns dst u e R acc sz (c0::c1::es) 1=(c1.length=sz /\ dW C hs K ns dst ⟨⟩ e R acc (.ptr c1)):=av rfl
theorem v8 {n : Nat} {ag : Bool} {p : Pa} {off : Nat} {c0 c1 : List D} {es : List (List D)} : kU C hs K ns dst u e R acc n ag p (c0::c1::es) 1 off=(off + n <= c1.length /\ match ag with
    | true=>(((c1.drop off).take n).all isV=true -> dW C hs K ns dst ⟨⟩ e R acc (.agg ((c1.drop off).take n))) /\
      (((c1.drop off).take n).all isV=false -> dW C hs K ns dst ⟨⟩ e R acc (.agx (((c1.drop off).take n).mapIdx fun j c=>ldc p 1 (off + j) c)))
    | false=>dW C hs K ns dst ⟨⟩ e R acc (ldc p 1 off ((c1.drop off).headD .any))):=aT rfl
@[simp] theorem Iz {sz : Nat} {c0 c1 c2 : List D} {es : List (List D)} : ia C hs K ns dst u e R acc sz (c0::c1::c2::es) 2=(c2.length=sz /\ dW C hs K ns dst ⟨⟩ e R acc (.ptr c2)):=av rfl
theorem wa {n : Nat} {ag : Bool} {p : Pa} {off : Nat} {c0 c1 c2 : List D} {es : List (List D)} : kU C hs K ns dst u e R acc n ag p (c0::c1::c2::es) 2 off=(off + n <= c2.length /\ match ag with
    | true=>(((c2.drop off).take n).all isV=true -> dW C hs K ns dst ⟨⟩ e R acc (.agg ((c2.drop off).take n))) /\
      (((c2.drop off).take n).all isV=false -> dW C hs K ns dst ⟨⟩ e R acc (.agx (((c2.drop off).take n).mapIdx fun j c=>ldc p 2 (off + j) c)))
    | false=>dW C hs K ns dst ⟨⟩ e R acc (ldc p 2 off ((c2.drop off).headD .any))):=aT rfl
@[simp] theorem IA {sz : Nat} {c0 c1 c2 c3 : List D} {es : List (List D)} : ia C hs K ns dst u e R acc sz (c0::c1::c2::c3::es) 3=(c3.length=sz /\ dW C hs K ns dst ⟨⟩ e R acc (.ptr c3)):=av rfl
theorem wb {n : Nat} {ag : Bool} {p : Pa} {off : Nat} {c0 c1 c2 c3 : List D} {es : List (List D)} : kU C hs K ns dst u e R acc n ag p (c0::c1::c2::c3::es) 3 off=(off + n <= c3.length /\ match ag with
    | true=>(((c3.drop off).take n).all isV=true -> dW C hs K ns dst ⟨⟩ e R acc (.agg ((c3.drop off).take n))) /\
      (((c3.drop off).take n).all isV=false -> dW C hs K ns dst ⟨⟩ e R acc (.agx (((c3.drop off).take n).mapIdx fun j c=>ldc p 3 (off + j) c)))
    | false=>dW C hs K ns dst ⟨⟩ e R acc (ldc p 3 off ((c3.drop off).headD .any))):=aT rfl
@[simp] theorem IB {sz : Nat} {c0 c1 c2 c3 c4 : List D} {es : List (List D)} : ia C hs K ns dst u e R acc sz (c0::c1::c2::c3::c4::es) 4=(c4.length=sz /\ dW C hs K ns dst ⟨⟩ e R acc (.ptr c4)):=av rfl
theorem wc {n : Nat} {ag : Bool} {p : Pa} {off : Nat} {c0 c1 c2 c3 c4 : List D} {es : List (List D)} : kU C hs K ns dst u e R acc n ag p (c0::c1::c2::c3::c4::es) 4 off=(off + n <= c4.length /\ match ag with
    | true=>(((c4.drop off).take n).all isV=true -> dW C hs K ns dst ⟨⟩ e R acc (.agg ((c4.drop off).take n))) /\
      (((c4.drop off).take n).all isV=false -> dW C hs K ns dst ⟨⟩ e R acc (.agx (((c4.drop off).take n).mapIdx fun j c=>ldc p 4 (off + j) c)))
    | false=>dW C hs K ns dst ⟨⟩ e R acc (ldc p 4 off ((c4.drop off).headD .any))):=aT rfl
attribute [simp] v7 v8 wa wb wc
end
end Go.Gv

namespace Go.Gv
section
variable {C : CC} {hs : Option (List Nat)} {K : Env -> Prop} {ns : List aq} {dst : Option Nat} {u : Tag (hs,K,ns)} {e : Env} {R : List Nat} {acc : List (List Nat × List Nat)}
@[simp] theorem IC {sz : Nat} {c0 c1 c2 c3 c4 c5 : List D} {es : List (List D)} : ia C hs K ns dst u e R acc sz (c0::c1::c2::c3::c4::c5::es) 5=(c5.length=sz /\ dW C hs K ns dst ⟨⟩ e R acc (.ptr c5)):=av rfl
@[simp] theorem LO {n : Nat} {ag : Bool} {p : Pa} {off : Nat} {c0 c1 c2 c3 c4 c5 : List D} {es : List (List D)} : kU C hs K ns dst u e R acc n ag p (c0::c1::c2::c3::c4::c5::es) 5 off=(off + n <= c5.length /\ match ag with
    | true=>(((c5.drop off).take n).all isV=true -> dW C hs K ns dst ⟨⟩ e R acc (.agg ((c5.drop off).take n))) /\
      (((c5.drop off).take n).all isV=false -> dW C hs K ns dst ⟨⟩ e R acc (.agx (((c5.drop off).take n).mapIdx fun j c=>ldc p 5 (off + j) c)))
    | false=>dW C hs K ns dst ⟨⟩ e R acc (ldc p 5 off ((c5.drop off).headD .any))):=aT rfl
@[simp] theorem ID {sz : Nat} {c0 c1 c2 c3 c4 c5 c6 : List D} {es : List (List D)} : ia C hs K ns dst u e R acc sz (c0::c1::c2::c3::c4::c5::c6::es) 6=(c6.length=sz /\ dW C hs K ns dst ⟨⟩ e R acc (.ptr c6)):=av rfl
@[simp] theorem LP {n : Nat} {ag : Bool} {p : Pa} {off : Nat} {c0 c1 c2 c3 c4 c5 c6 : List D} {es : List (List D)} : kU C hs K ns dst u e R acc n ag p (c0::c1::c2::c3::c4::c5::c6::es) 6 off=(off + n <= c6.length /\ match ag with
    | true=>(((c6.drop off).take n).all isV=true -> dW C hs K ns dst ⟨⟩ e R acc (.agg ((c6.drop off).take n))) /\
      (((c6.drop off).take n).all isV=false -> dW C hs K ns dst ⟨⟩ e R acc (.agx (((c6.drop off).take n).mapIdx fun j c=>ldc p 6 (off + j) c)))
    | false=>dW C hs K ns dst ⟨⟩ e R acc (ldc p 6 off ((c6.drop off).headD .any))):=aT rfl
@[simp] theorem IE {sz : Nat} {c0 c1 c2 c3 c4 c5 c6 c7 : List D} {es : List (List D)} : ia C hs K ns dst u e R acc sz (c0::c1::c2::c3::c4::c5::c6::c7::es) 7=(c7.length=sz /\ dW C hs K ns dst ⟨⟩ e R acc (.ptr c7)):=av rfl
@[simp] theorem LQ {n : Nat} {ag : Bool} {p : Pa} {off : Nat} {c0 c1 c2 c3 c4 c5 c6 c7 : List D} {es : List (List D)} : kU C hs K ns dst u e R acc n ag p (c0::c1::c2::c3::c4::c5::c6::c7::es) 7 off=(off + n <= c7.length /\ match ag with
    | true=>(((c7.drop off).take n).all isV=true -> dW C hs K ns dst ⟨⟩ e R acc (.agg ((c7.drop off).take n))) /\
      (((c7.drop off).take n).all isV=false -> dW C hs K ns dst ⟨⟩ e R acc (.agx (((c7.drop off).take n).mapIdx fun j c=>ldc p 7 (off + j) c)))
    | false=>dW C hs K ns dst ⟨⟩ e R acc (ldc p 7 off ((c7.drop off).headD .any))):=aT rfl
end
end Go.Gv

namespace Go.Gv
section
variable {C : CC} {hs : Option (List Nat)} {K : Env -> Prop} {ns : List aq} {e : Env} {R : List Nat} {acc : List (List Nat × List Nat)}
end
end Go.Gv

namespace Go.Gv
section
variable {C : CC} {hs : Option (List Nat)} {K : Env -> Prop} {ns : List aq} {e : Env} {R : List Nat} {acc : List (List Nat × List Nat)}
end
end Go.Gv

namespace Go.Gv
section
variable {C : CC} {hs : Option (List Nat)} {K : Env -> Prop} {ns : List aq} {dst : Option Nat} {e : Env} {R : List Nat} {acc : List (List Nat × List Nat)} {u : Tag (hs,K,ns)}
@[simp] theorem Gx : jS none=[]:=_root_.id rfl
@[simp] theorem Gy {x : Opd} : jS (some x)=[x]:=_root_.id rfl
@[simp] theorem LK {c c' k n : Nat} {q : Pa} : jY c q (.ref (.r c') k n)=if c'=c then .ref q k n else .ref (.r c') k n:=_root_.id rfl
@[simp] theorem GB {c b i o k n : Nat} {q : Pa} : jY c q (.ref (.n b i o) k n)=.ref (.n b i o) k n:=_root_.id rfl
@[simp] theorem Q9 {c : Nat} {q : Pa} {es} : jY c q (.sl es)=.sl es:=_root_.id rfl
@[simp] theorem GA {c : Nat} {q : Pa} : jY c q .nils=.nils:=_root_.id rfl
@[simp] theorem LJ {c : Nat} {q : Pa} {k n} : jY c q (.int k n)=.int k n:=_root_.id rfl
@[simp] theorem LM {c : Nat} {q : Pa} {b es} : jY c q (slx b es)=slx b es:=by cases b <;> cases es <;> rfl
@[simp] theorem B3 {b c i o k n : Nat} : iB b (.ref (.n c i o) k n)=(c != b || (i == 0 && o == 1)):=_root_.id rfl
@[simp] theorem B4 {b c k n : Nat} : iB b (.ref (.r c) k n)=true:=_root_.id rfl
@[simp] theorem Ki {b : Nat} {es} : iB b (.sl es)=true:=_root_.id rfl
@[simp] theorem B2 {b : Nat} : iB b .nils=true:=_root_.id rfl
@[simp] theorem Fs {b : Nat} {k n} : iB b (.int k n)=true:=_root_.id rfl
@[simp] theorem Ft {b : Nat} {x es} : iB b (slx x es)=true:=by cases x <;> cases es <;> rfl
def yg (C : CC) (hs : Option (List Nat)) (K : Env -> Prop) (ns : List aq) (dst : Option Nat) (_ : Tag (hs,K,ns)) (e : Env) (R : List Nat) (acc : List (List Nat × List Nat)) (T : Nat) (d : D) : Prop:=match d with
 | .adr p i off=>dW C hs K ns dst ⟨⟩ e R acc (.ifa T p i off)
 | .int k n=>k=.i64 /\ dW C hs K ns dst ⟨⟩ e R acc (.ifi T n)
 | _=>False
@[simp] theorem QT {T x v1} : opW C hs K ns dst (.mkI T x) v1 e R acc=yg C hs K ns dst ⟨⟩ e R acc T (vd (ac e) x):=by
 show res (ac e) _ (.mkI T x)=_
 simp only [res,yg]
 cases vd (ac e) x <;> rfl
@[simp] theorem KJ {T p i off} : yg C hs K ns dst u e R acc T (.adr p i off)=dW C hs K ns dst ⟨⟩ e R acc (.ifa T p i off):=_root_.id rfl
@[simp] theorem KL {T k n} : yg C hs K ns dst u e R acc T (.int k n)=(k=.i64 /\ dW C hs K ns dst ⟨⟩ e R acc (.ifi T n)):=_root_.id rfl
def Dc (C : CC) (hs : Option (List Nat)) (K : Env -> Prop) (ns : List aq) (dst : Option Nat) (_ : Tag (hs,K,ns)) (e : Env) (R : List Nat) (acc : List (List Nat × List Nat)) (T : Nat) (d : D) : Prop:=match d with
 | .ifi T' n=>T'=T /\ dW C hs K ns dst ⟨⟩ e R acc (.int .i64 n)
 | _=>False
@[simp] theorem Q6 {T x v1} : opW C hs K ns dst (.tya T x) v1 e R acc=Dc C hs K ns dst ⟨⟩ e R acc T (vd (ac e) x):=by
 show res (ac e) _ (.tya T x)=_
 simp only [res,Dc]
 cases vd (ac e) x <;> rfl
@[simp] theorem Mh {T T' n} : Dc C hs K ns dst u e R acc T (.ifi T' n)=(T'=T /\ dW C hs K ns dst ⟨⟩ e R acc (.int .i64 n)):=_root_.id rfl
def qZ (C : CC) (g : Nat) (hs : Option (List Nat)) (K : Env -> Prop) (ns : List aq) (dst : Option Nat) (_ : Tag (hs,K,ns)) (e : Env) (R : List Nat) (acc : List (List Nat × List Nat)) (b sz : Nat) (es : List (List D)) (W : List D) : Prop :=
 ∃ d,∃ es' : List (List D),0 < es'.length /\ C g (.blk sz es::W) d [.blk sz es',.nilp] /\ doW C hs K ns ⟨⟩ e R acc (bT dst d++[(b,.blk sz es')]) [(b,false)]
theorem b5 {g b sz : Nat} {es es' : List (List D)} {W : List D} {d : D} (h : C g (.blk sz es::W) d [.blk sz es',.nilp]) (hp : 0 < es'.length)
  (hk : doW C hs K ns ⟨⟩ e R acc (bT dst d++[(b,.blk sz es')]) [(b,false)]) : qZ C g hs K ns dst u e R acc b sz es W:=⟨d,es',hp,h,hk⟩
def Hs (C : CC) (g : Nat) (hs : Option (List Nat)) (K : Env -> Prop) (ns : List aq) (dst : Option Nat) (_ : Tag (hs,K,ns)) (e : Env) (R : List Nat) (acc : List (List Nat × List Nat)) (T : Nat) (xs : List Opd) (d : D) : Prop:=match d with
 | .ifa T' (.r b) i off=>T'=T /\ i=0 /\ off=0 /\ cR (ac e b) (fun sz es=>0 < es.length /\ (∀ x ∈ xs,isV (vd (ac e) x)=true) /\ qZ C g hs K ns dst ⟨⟩ e R acc b sz es (.adr (.r 10015) 0 0::xs.map (vd (ac e)))) ⟨⟩
 | _=>False
@[simp] theorem Rq {g xs T T' b i off} : Hs C g hs K ns dst u e R acc T xs (.ifa T' (.r b) i off)=(T'=T /\ i=0 /\ off=0 /\ cR (ac e b) (fun sz es=>0 < es.length /\ (∀ x ∈ xs,isV (vd (ac e) x)=true) /\ qZ C g hs K ns dst ⟨⟩ e R acc b sz es (.adr (.r 10015) 0 0::xs.map (vd (ac e)))) ⟨⟩):=_root_.id rfl
@[simp] theorem Gj {g m T x xs v1} : opW C hs K ns dst (.callI g m T x xs) v1 e R acc=Hs C g hs K ns dst ⟨⟩ e R acc T xs (vd (ac e) x):=by
 unfold opW
 simp only [au]
 cases vd (ac e) x <;> first | rfl | skip
def Ht (C : CC) (g : Nat) (hs : Option (List Nat)) (K : Env -> Prop) (ns : List aq) (dst : Option Nat) (_ : Tag (hs,K,ns)) (e : Env) (R : List Nat) (acc : List (List Nat × List Nat)) (xs : List Opd) (d : D) : Prop:=match d with
 | .ifa T (.r b) i off=>i=0 /\ off=0 /\ cR (ac e b) (fun sz es=>0 < es.length /\ (∀ x ∈ xs,isV (vd (ac e) x)=true) /\ qZ C g hs K ns dst ⟨⟩ e R acc b sz es (.ifa T (.r 10015) 0 0::xs.map (vd (ac e)))) ⟨⟩
 | _=>False
@[simp] theorem Rt {g xs T b i off} : Ht C g hs K ns dst u e R acc xs (.ifa T (.r b) i off)=(i=0 /\ off=0 /\ cR (ac e b) (fun sz es=>0 < es.length /\ (∀ x ∈ xs,isV (vd (ac e) x)=true) /\ qZ C g hs K ns dst ⟨⟩ e R acc b sz es (.ifa T (.r 10015) 0 0::xs.map (vd (ac e)))) ⟨⟩):=_root_.id rfl
@[simp] theorem Gl {g x xs v1} : opW C hs K ns dst (.callM g x xs) v1 e R acc=Ht C g hs K ns dst ⟨⟩ e R acc xs (vd (ac e) x):=by
 unfold opW
 simp only [au]
 cases vd (ac e) x <;> first | rfl | skip
def Ai (C : CC) (g : Nat) (hs : Option (List Nat)) (K : Env -> Prop) (ns : List aq) (dst : Option Nat) (_ : Tag (hs,K,ns)) (e : Env) (R : List Nat) (acc : List (List Nat × List Nat)) (xs : List Opd) (d : D) : Prop:=match d with
 | .ref (.r b) k n=>k=0 /\ cR (ac e b) (fun sz es=>0 < es.length /\ es.length=n /\ (∀ x ∈ xs,isV (vd (ac e) x)=true) /\ qZ C g hs K ns dst ⟨⟩ e R acc b sz es (.ref (.r 10015) 0 n::xs.map (vd (ac e)))) ⟨⟩
 | _=>False
@[simp] theorem Mz {g xs b k n} : Ai C g hs K ns dst u e R acc xs (.ref (.r b) k n)=(k=0 /\ cR (ac e b) (fun sz es=>0 < es.length /\ es.length=n /\ (∀ x ∈ xs,isV (vd (ac e) x)=true) /\ qZ C g hs K ns dst ⟨⟩ e R acc b sz es (.ref (.r 10015) 0 n::xs.map (vd (ac e)))) ⟨⟩):=_root_.id rfl
@[simp] theorem Gn {g x xs v1} : opW C hs K ns dst (.callR g x xs) v1 e R acc=Ai C g hs K ns dst ⟨⟩ e R acc xs (vd (ac e) x):=by
 unfold opW
 simp only [au]
 cases vd (ac e) x <;> first | rfl | skip
theorem za {x y : Opd} {v1 : _} {b i off n sz0 sz : Nat} {es0 es : List (List D)} {row0 : List D} (hx : vd (ac e) x=.adr (.r b) i off) (hy : vd (ac e) y=.ref (.n b i off) 0 n) (hb : ac e b=.blk sz0 es0) (h1 : es0[i]? = some row0) (h2 : row0[off]? = some (.own sz es)) (h3 : n <= es.length)
  (hk : doW C hs K ns ⟨⟩ e R acc [(b,.blk sz0 (a7 es0 i off 1 [.own sz (es.take n)]))] []) : opW C hs K ns none (.stL x y) v1 e R acc:=by
 unfold opW
 simp only [au]
 refine ⟨trivial,?_⟩
 rw [hx,hy]
 refine ⟨rfl,rfl,rfl,rfl,?_⟩
 rw [hb]
 exact ⟨row0,h1,sz,es,h2,h3,hk⟩
theorem kA {g s : Nat} {x : Opd} {xs : List Opd} {v1 : _} {T b sz sz1 sz2 : Nat} {fs sp fs' : List (List D)} {ds : List D} {d : D} (hx : vd (ac e) x=.ifa T (.r b) 0 0) (hs0 : s < 10000) (hd : dst ≠ some s) (hxs : ∀ x ∈ xs,aU (vd (ac e) x)=true)
  (hb : ac e b=.blk sz [[.own sz1 fs,.own sz2 sp]]) (hs1 : ac e s=.ptx ds) (hk1 : ds.all (iB b)=true) (f1 : ∀ e ∈ fs,∀ c ∈ e,aU c=true) (f2 : ∀ e ∈ sp,∀ c ∈ e,aU c=true) (hd1 : aU d=true \/ d=.tup []) (f3 : ∀ e ∈ fs',∀ c ∈ e,aU c=true)
  (hc : C g (.blk sz [[.own sz1 fs,.slv 0 sp]]::.ifa T (.r 10015) 0 0::xs.map (vd (ac e))) d [.blk sz [[.own sz1 fs',.slv 0 sp]],.nils])
  (hk : doW C hs K ns ⟨⟩ e R acc (bT dst d++[(b,.blk sz [[.own sz1 fs',.own sz2 sp]]),(s,.ptx ds)]) [(b,false)]) : opW C hs K ns dst (.callQ g s x xs) v1 e R acc:=by
 unfold opW
 simp only [au]
 rw [hx]
 refine ⟨rfl,rfl,hs0,hd,hxs,?_⟩
 rw [hb]
 simp only
 rw [hs1]
 exact ⟨hk1,f1,f2,d,fs',hd1,f3,hc,hk⟩
theorem uv {s t : Nat} {x : Opd} {v1 : _} {c n sz : Nat} {es : List (List D)} {ds : List D} (hs0 : s < 10000) (hst : s ≠ t) (hx : vd (ac e) x=.agx [.nils,.ref (.r c) 0 n]) (hc : c ≠ rt t 0) (hcb : ac e c=.blk sz es) (hsz : 0 < sz) (hl : es.length=n) (h1 : ∀ e ∈ es,∀ c ∈ e,ay c=true)
  (hs1 : ac e s=.ptx ds) (hm : (ds.all fun d=>!aA (rt t 0) true d)=true)
  (hk0 : n=0 -> doW C hs K ns ⟨⟩ e R acc [(t,.adr (.r (rt t 0)) 0 0),(rt t 0,.blk 2 [[.own sz [],.any]])] [(rt t 0,true)])
  (hk : 0 < n -> doW C hs K ns ⟨⟩ e R acc [(t,.adr (.r (rt t 0)) 0 0),(rt t 0,.blk 2 [[.own sz [],.own sz es]]),(c,.any),(s,.ptx (ds.map (jY c (.n (rt t 0) 0 1))))] [(rt t 0,true)]) : opW C hs K ns (some t) (.boxK s x) v1 e R acc:=by
 unfold opW
 simp only [au]
 refine ⟨hs0,hst,?_⟩
 rw [hx]
 refine ⟨rfl,hc,?_⟩
 rw [hcb]
 refine ⟨hsz,hl,h1,?_⟩
 rw [hs1]
 refine ⟨hm,?_⟩
 by_cases hn : n=0
 ·rw [if_pos hn];exact hk0 hn
 ·rw [if_neg hn];exact hk (Nat.pos_of_ne_zero hn)
end
end Go.Gv

namespace Go.Gv
def pH (c : Int) : Bool:=(97 <= c && c <= 122) || (65 <= c && c <= 90)
def ya (c : Int) : Bool:=48 <= c && c <= 57
def yb (c : UInt8) : Bool:=pH c.toNat || ya c.toNat || c.toNat == 95
def zD (s : List UInt8) : Nat:=(s.takeWhile yb).length
def lJ (n : Int) : Bool:=-1125899906842624 <= n && n <= 1125899906842624
def Se (s : List UInt8) : Bool:=s ≠ [] && s.length <= 20 && pH (s[0]!).toNat && zD s == s.length
theorem ai {n m : Int} (h : n=m) (h2 : -9223372036854775808 <= m /\ m < 9223372036854775808) : IntKind.wrap .i64 n=m:=by
 subst h
 have e1 : IntKind.i64.signed=true:=rfl
 have e2 : (2 ^ (IntKind.i64.bits - 1) : Int)=9223372036854775808:=rfl
 have e3 : (2 ^ IntKind.i64.bits : Int)=18446744073709551616:=rfl
 unfold IntKind.wrap
 simp only [e1,e2,e3,Bool.true_and,decide_eq_true_eq]
 split <;> omega
variable {C : CC} (hC : aB prog C)
include hC
end Go.Gv

namespace Go.Gv
structure SlI where
 n : Bool
 l : List Int
 deriving Inhabited
def slI (x : SlI) : D:=slx x.n (x.l.map fun n=>[.int .i64 n])
def knD (k : Int × Int) : List D:=[.int .i64 k.1,.int .i64 k.2]
structure Sec where
 name : List UInt8
 height : Int
 price : Int
 areaN : Bool
 area : List (Int × Int)
 convN : Bool
 conv : List (Int × Int)
 deriving Inhabited
def To (s : Sec) : List D:=[.str s.name,.int .i64 s.height,.int .i64 s.price,slx s.areaN (s.area.map knD),slx s.convN (s.conv.map knD)]
def hJ {α : Type} (p : α -> Bool) (xs : List α) : Int:=match xs.findIdx? p with
 | some i=>i
 | none=>-1
theorem gn {α : Type} {p : α -> Bool} {xs : List α} {i : Nat} (hj : ∀ (j : Nat) (h : j < xs.length),j < i -> p xs[j]=false) (hi : i < xs.length) (h : p xs[i]=true) : hJ p xs=i:=by
 have : xs.findIdx? p=some i:=by
  rw [List.findIdx?_eq_some_iff_getElem]
  exact ⟨hi,h,fun j hji=>by simp [hj j (by omega) hji]⟩
 simp [hJ,this]
theorem iU {α : Type} {p : α -> Bool} {xs : List α} (hj : ∀ (j : Nat) (h : j < xs.length),p xs[j]=false) : hJ p xs=-1:=by
 have : xs.findIdx? p=none:=by
  rw [List.findIdx?_eq_none_iff]
  intro x hx
  obtain ⟨j,h,rfl⟩:=List.mem_iff_getElem.1 hx
  exact hj j h
 simp [hJ,this]
theorem mo {α : Type} (p : α -> Bool) (xs : List α) : decide (0 <= hJ p xs)=xs.any p:=by
 unfold hJ
 split
 ·rename_i i h
  rw [List.findIdx?_eq_some_iff_getElem] at h
  obtain ⟨h1,h2,_⟩:=h
  have : xs.any p=true:=List.any_eq_true.2 ⟨_,List.getElem_mem h1,h2⟩
  simp [this]
 ·rename_i h
  rw [List.findIdx?_eq_none_iff] at h
  have : xs.any p=false:=by rw [List.any_eq_false];intro x hx;simp [h x hx]
  simp [this]
variable {C : CC} (hC : aB prog C)
include hC
theorem vk {b : Bool} {xs : List Int} {g : Nat} {cs : List D} (p : Int -> Bool) (hs : xs.length < 2 ^ 62) (hp : ∀ x ∈ xs,C g (.int .i64 x::cs) (.bool (p x)) []) : C 35 [slx b (xs.map fun x=>[.int .i64 x]),.fn g cs] (.int .i64 (hJ p xs)) []:=by
 refine aF hC (nf:=N35) rfl rfl ?_
 simp [N35]
 refine aE Nat (fun i=>[(0,slx b (xs.map fun x=>[.int .i64 x])),(1,.fn g cs),(7,.int .i64 xs.length),(8,.int .i64 i)]) (fun i=>i <= xs.length /\ ∀ (j : Nat) (h : j < xs.length),j < i -> p xs[j]=false) (fun i=>xs.length - i) 0 (by simp) (by simp) ?_
 rintro i ⟨hi,hj⟩
 simp
 refine al (fun h=>?_) (fun h=>?_) <;> simp [h] <;> simp at h
 ·have hw : IntKind.wrap .i64 ((i : Int) + 1)=((i + 1 : Nat) : Int):=ai (by omega) (by omega)
  have hc:=hp _ (List.getElem_mem h)
  simp [h,List.getElem_map] at hc ⊢
  refine ab hc (.inl rfl) ?_
  simp
  refine al (fun h1=>?_) (fun h1=>?_) <;> simp [h1,hw]
  ·rw [gn hj h h1]
  ·refine ⟨i + 1,⟨by omega,fun j hl hjj=>?_⟩,by omega,rfl⟩
   rcases Nat.lt_succ_iff_lt_or_eq.1 hjj with h2 | rfl
   ·exact hj j hl h2
   ·exact h1
 ·rw [iU (fun j hl=>hj j hl (by omega))]
theorem vi {b : Bool} {xs : List Int} {g : Nat} {cs : List D} (p : Int -> Bool) (hs : xs.length < 2 ^ 62) (hp : ∀ x ∈ xs,C g (.int .i64 x::cs) (.bool (p x)) []) : C 11 [slx b (xs.map fun x=>[.int .i64 x]),.fn g cs] (.bool (xs.any p)) []:=by
 refine aF hC (nf:=N11) rfl rfl ?_
 simp [N11]
 refine ab (vk hC p hs hp) (.inl rfl) ?_
 simp [mo]
end Go.Gv

namespace Go.Gv
structure Spt where
 x : Int
 y : Int
 z : Int
 deriving Inhabited,DecidableEq
structure Fce where
 a : Int
 b : Int
 c : Int
 k : Int
 deriving Inhabited,DecidableEq
structure Msh where
 sn : Bool
 s : List Spt
 fn : Bool
 f : List Fce
def jd (s : Spt) : List D:=[.int .i64 s.x,.int .i64 s.y,.int .i64 s.z]
def cJ (f : Fce) : List D:=[.int .i64 f.a,.int .i64 f.b,.int .i64 f.c,.int .i64 f.k]
def cm (m : Msh) : List D:=[slx m.sn (m.s.map jd),slx m.fn (m.f.map cJ)]
theorem j5 (s : Spt) : jd s=[.int .i64 s.x,.int .i64 s.y,.int .i64 s.z]:=_root_.id rfl
theorem bu (f : Fce) : cJ f=[.int .i64 f.a,.int .i64 f.b,.int .i64 f.c,.int .i64 f.k]:=_root_.id rfl
theorem am (m : Msh) : cm m=[slx m.sn (m.s.map jd),slx m.fn (m.f.map cJ)]:=_root_.id rfl
def spt (m : Msh) (i : Nat) : Spt:=m.s[i]!
def fce (m : Msh) (i : Nat) : Fce:=m.f[i]!
@[simp high] theorem SU (m : Msh) (i : Nat) : m.s[i]! = spt m i:=_root_.id rfl
@[simp high] theorem R0 (m : Msh) (i : Nat) : m.f[i]! = fce m i:=_root_.id rfl
@[simp high] theorem SV (m : Msh) (i : Nat) : m.s[i]?.getD default=spt m i:=by simp only [spt,List.getElem!_eq_getElem?_getD]
@[simp high] theorem R1 (m : Msh) (i : Nat) : m.f[i]?.getD default=fce m i:=by simp only [fce,List.getElem!_eq_getElem?_getD]
@[simp] theorem S9 (m : Msh) (i : Nat) (h : i < m.s.length) : m.s[i]=spt m i:=(getElem!_pos m.s i h).symm
@[simp] theorem nD (m : Msh) (i : Nat) (h : i < m.f.length) : m.f[i]=fce m i:=(getElem!_pos m.f i h).symm
abbrev Pnt:=Int × Int
def ptD (p : Pnt) : List D:=[.int .i64 p.1,.int .i64 p.2]
def ptS (s : Spt) : Pnt:=(s.x,s.y)
def okP (p : Pnt) : Bool:=-16777216 <= p.1 && p.1 <= 16777216 && -16777216 <= p.2 && p.2 <= 16777216
def bx (s : Spt) : Bool:=-16777216 <= s.x && s.x <= 16777216 && -16777216 <= s.y && s.y <= 16777216 && -4194304 <= s.z && s.z <= 4194304
theorem oL {s : Spt} (h : bx s=true) : okP (ptS s)=true:=by
 simp only [bx,Bool.and_eq_true,decide_eq_true_eq] at h
 show okP (s.x,s.y)=true
 simp [okP]
 omega
def d5 (a b c : Pnt) : Int:=(b.1 - a.1) * (c.2 - a.2) - (b.2 - a.2) * (c.1 - a.1)
theorem jp {a b k l : Int} (h1 : -k <= a) (h2 : a <= k) (h3 : -l <= b) (h4 : b <= l) : -(k * l) <= a * b /\ a * b <= k * l:=by
 have hk : 0 <= k:=by omega
 have hl : 0 <= l:=by omega
 have e1:=Int.mul_nonneg (show 0 <= k - a by omega) (show 0 <= l - b by omega)
 have e2:=Int.mul_nonneg (show 0 <= k + a by omega) (show 0 <= l + b by omega)
 have e3:=Int.mul_nonneg (show 0 <= k - a by omega) (show 0 <= l + b by omega)
 have e4:=Int.mul_nonneg (show 0 <= k + a by omega) (show 0 <= l - b by omega)
 simp only [Int.sub_mul,Int.mul_sub,Int.add_mul,Int.mul_add] at e1 e2 e3 e4
 omega
theorem js {p : Pnt} (h : okP p=true) : -16777216 <= p.1 /\ p.1 <= 16777216 /\ -16777216 <= p.2 /\ p.2 <= 16777216:=by
 simp only [okP,Bool.and_eq_true,decide_eq_true_eq] at h
 omega
theorem sH {a b c : Pnt} (ha : okP a=true) (hb : okP b=true) (hc : okP c=true) :
  (-1125899906842624 <= (b.1 - a.1) * (c.2 - a.2) /\ (b.1 - a.1) * (c.2 - a.2) <= 1125899906842624) /\ (-1125899906842624 <= (b.2 - a.2) * (c.1 - a.1) /\ (b.2 - a.2) * (c.1 - a.1) <= 1125899906842624):=by
 have:=js ha
 have:=js hb
 have:=js hc
 exact ⟨jp (k:=33554432) (l:=33554432) (by omega) (by omega) (by omega) (by omega),jp (k:=33554432) (l:=33554432) (by omega) (by omega) (by omega) (by omega)⟩
abbrev Tri:=Pnt × Pnt × Pnt
def b9 (t : Tri) : List D:=[.int .i64 t.1.1,.int .i64 t.1.2,.int .i64 t.2.1.1,.int .i64 t.2.1.2,.int .i64 t.2.2.1,.int .i64 t.2.2.2]
def okT (t : Tri) : Bool:=okP t.1 && okP t.2.1 && okP t.2.2
def lF (t : Tri) : Int:=d5 t.1 t.2.1 t.2.2
def nk (p q : Pnt) (u : Tri) : Bool:=d5 p q u.1 <= 0 && d5 p q u.2.1 <= 0 && d5 p q u.2.2 <= 0
def wi (t u : Tri) : Bool:=nk t.1 t.2.1 u || nk t.2.1 t.2.2 u || nk t.2.2 t.1 u
def ovT (t u : Tri) : Bool:=!wi t u && !wi u t
def a8 (m : Msh) (f : Fce) : Tri:=(ptS (spt m f.a.toNat),ptS (spt m f.b.toNat),ptS (spt m f.c.toNat))
def crn (f : Fce) : Nat -> Int
 | 0=>f.a
 | 1=>f.b
 | 2=>f.c
 | 3=>f.a
 | 4=>f.b
 | _=>f.c
def f4 (n : Nat) (a : Int) : Bool:=0 <= a && a < n
def inS (m : Msh) (f : Fce) : Bool:=f4 m.s.length f.a && f4 m.s.length f.b && f4 m.s.length f.c
theorem mr {m : Msh} {f : Fce} (h : inS m f=true) : (0 <= f.a /\ f.a.toNat < m.s.length) /\ (0 <= f.b /\ f.b.toNat < m.s.length) /\ (0 <= f.c /\ f.c.toNat < m.s.length):=by
 simp only [inS,f4,Bool.and_eq_true,decide_eq_true_eq] at h
 omega
variable {C : CC} (hC : aB prog C)
include hC
theorem vP (p : Pnt) : C 313 [.agg (ptD p)] (.bool (okP p)) []:=by
 refine aF hC (nf:=N313) rfl rfl ?_
 simp [N313,ptD,okP]
 repeat' (refine al (fun h=>?_) (fun h=>?_) <;> simp at h <;> simp [h] <;> try omega)
theorem vB (s : Spt) : C 303 [.agg (jd s)] (.bool (bx s)) []:=by
 have k:=vP hC (s.x,s.y)
 simp [ptD,okP] at k
 refine aF hC (nf:=N303) rfl rfl ?_
 simp [N303,jd,bx]
 refine ab k (.inl rfl) ?_
 simp
 repeat' (refine al (fun h=>?_) (fun h=>?_) <;> simp at h <;> simp [h] <;> try omega)
theorem pQ (m : Msh) : C 302 [.agg (cm m)] (.bool (decide (m.s.length <= 2000) && decide (m.f.length <= 4000))) []:=by
 refine aF hC (nf:=N302) rfl rfl ?_
 simp [N302,cm]
 refine al (fun h=>?_) (fun h=>?_) <;> simp at h <;> simp [h]
 ·rw [decide_eq_true (show m.s.length <= 2000 by omega)]
  simp
  exact Iff.intro (fun h2=>by omega) (fun h2=>by omega)
 ·omega
theorem jP (m : Msh) (i : Nat) (h : i < m.s.length) : C 304 [.agg (cm m),.int .i64 i] (.agg (ptD (ptS (spt m i)))) []:=by
 refine aF hC (nf:=N304) rfl rfl ?_
 simp [N304,cm,h,j5,ptD,ptS]
 exact aC (by decide +kernel)
theorem mw (f : Fce) : C 305 [.agg (cJ f)] (.agg [.int .i64 f.a,.int .i64 f.b,.int .i64 f.c]) []:=by
 refine aF hC (nf:=N305) rfl rfl ?_
 simp [N305,cJ]
theorem oz (f : Fce) (k : Nat) (hk : k < 3) : C 298 [.agg (cJ f),.int .i64 k] (.agg [.int .i64 (crn f k),.int .i64 (crn f (k + 1))]) []:=by
 have k1:=mw hC f
 refine aF hC (nf:=N298) rfl rfl ?_
 rw [cJ] at k1 ⊢
 simp [N298]
 refine ab k1 (.inl rfl) ?_
 have w : IntKind.wrap .i64 ((k : Int) + 1)=((k + 1 : Nat) : Int):=ai (by omega) (by omega)
 have w0 : IntKind.wrap .i64 1=1:=by decide
 have w1 : IntKind.wrap .i64 2=2:=by decide
 have w2 : IntKind.wrap .i64 3=3:=by decide
 rcases (by omega : k=0 \/ k=1 \/ k=2) with rfl | rfl | rfl <;> simp [crn,w0,w1,w2] <;> exact aC (by decide +kernel)
theorem si {a b c : Pnt} (ha : okP a=true) (hb : okP b=true) (hc : okP c=true) : C 308 [.agg (ptD a),.agg (ptD b),.agg (ptD c)] (.int .i64 (d5 a b c)) []:=by
 have:=js ha
 have:=js hb
 have:=js hc
 have h4:=sH ha hb hc
 refine aF hC (nf:=N308) rfl rfl ?_
 have w1 : IntKind.wrap .i64 (b.1 - a.1)=b.1 - a.1:=ai rfl (by omega)
 have w2 : IntKind.wrap .i64 (c.2 - a.2)=c.2 - a.2:=ai rfl (by omega)
 have w3 : IntKind.wrap .i64 (b.2 - a.2)=b.2 - a.2:=ai rfl (by omega)
 have w4 : IntKind.wrap .i64 (c.1 - a.1)=c.1 - a.1:=ai rfl (by omega)
 have w5 : IntKind.wrap .i64 ((b.1 - a.1) * (c.2 - a.2))=(b.1 - a.1) * (c.2 - a.2):=ai rfl (by omega)
 have w6 : IntKind.wrap .i64 ((b.2 - a.2) * (c.1 - a.1))=(b.2 - a.2) * (c.1 - a.1):=ai rfl (by omega)
 have w7 : IntKind.wrap .i64 ((b.1 - a.1) * (c.2 - a.2) - (b.2 - a.2) * (c.1 - a.1))=d5 a b c:=ai rfl (by rw [d5];omega)
 simp [N308,ptD,w1,w2,w3,w4,w5,w6,w7]
theorem CL (m : Msh) (f : Fce) (h : inS m f=true) : C 307 [.agg (cm m),.agg (cJ f)] (.agg (b9 (a8 m f))) []:=by
 obtain ⟨⟨a1,a2⟩,⟨b1,b2⟩,⟨c1,c2⟩⟩:=mr h
 have ka:=jP hC m f.a.toNat a2
 have kb:=jP hC m f.b.toNat b2
 have kc:=jP hC m f.c.toNat c2
 rw [Int.toNat_of_nonneg a1] at ka
 rw [Int.toNat_of_nonneg b1] at kb
 rw [Int.toNat_of_nonneg c1] at kc
 refine aF hC (nf:=N307) rfl rfl ?_
 rw [cm] at ka kb kc ⊢
 simp [N307,cJ]
 simp [ptD] at ka kb kc
 refine ab ka (.inl rfl) ?_
 simp
 refine ab kb (.inl rfl) ?_
 simp
 refine ab kc (.inl rfl) ?_
 simp [b9,a8]
 exact aC (by decide +kernel)
end Go.Gv

namespace Go.Gv
theorem bB : IntKind.wrap .i64 1=1:=by decide
theorem bG : IntKind.wrap .i64 2=2:=by decide
theorem bH : IntKind.wrap .i64 3=3:=by decide
variable {C : CC} (hC : aB prog C)
include hC
set_option maxHeartbeats 1000000 in
theorem AY {t u : Tri} (ht : okT t=true) (hu : okT u=true) : C 311 [.agg (b9 t),.agg (b9 u)] (.bool (wi t u)) []:=by
 simp only [okT,Bool.and_eq_true] at ht hu
 obtain ⟨⟨t1,t2⟩,t3⟩:=ht
 obtain ⟨⟨u1,u2⟩,u3⟩:=hu
 have kk:=fun (p q r : Pnt) (hp : okP p=true) (hq : okP q=true) (hr : okP r=true)=>si hC hp hq hr
 simp only [ptD] at kk
 have E : wi t u=(nk t.1 t.2.1 u || nk t.2.1 t.2.2 u || nk t.2.2 t.1 u):=rfl
 rw [E]
 clear E
 have S : ∀ p q,nk p q u=(decide (d5 p q u.1 <= 0) && decide (d5 p q u.2.1 <= 0) && decide (d5 p q u.2.2 <= 0)):=fun p q=>rfl
 refine aF hC (nf:=N311) rfl rfl ?_
 rw [b9,b9]
 simp [N311]
 refine aE Nat (fun i=>[(2,.ptr (b9 t)),(3,.ptr (b9 u)),(8,.int .i64 i)]) (fun i=>i <= 3 /\ (1 <= i -> nk t.1 t.2.1 u=false) /\ (2 <= i -> nk t.2.1 t.2.2 u=false) /\ (3 <= i -> nk t.2.2 t.1 u=false)) (fun i=>3 - i) 0 (by simp) (by simp [b9]) ?_
 rintro i ⟨hi,s1,s2,s3⟩
 rcases (by omega : i=0 \/ i=1 \/ i=2 \/ i=3) with rfl | rfl | rfl | rfl
 ·simp [b9,bB,bG,bH]
  refine ⟨aC (by decide +kernel),?_⟩
  refine ab (kk t.1 t.2.1 u.1 t1 t2 u1) (.inl rfl) ?_
  simp
  refine al (fun h1=>?_) (fun h1=>?_) <;> simp at h1
  ·simp [h1]
   refine ab (kk t.1 t.2.1 u.2.1 t1 t2 u2) (.inl rfl) ?_
   simp
   refine al (fun h2=>?_) (fun h2=>?_) <;> simp at h2
   ·simp [h2]
    refine ab (kk t.1 t.2.1 u.2.2 t1 t2 u3) (.inl rfl) ?_
    simp
    refine al (fun h3=>?_) (fun h3=>?_) <;> simp at h3 <;> simp [h3]
    ·simp [S,h1,h2,h3]
    ·refine ⟨1,⟨by omega,fun _=>by simp only [S,Bool.and_eq_false_iff,decide_eq_false_iff_not];omega,fun h=>by omega,fun h=>by omega⟩,by omega,?_⟩ <;> simp [bB,bG,bH]
   ·simp [Int.not_le.2 h2]
    refine ⟨1,⟨by omega,fun _=>by simp only [S,Bool.and_eq_false_iff,decide_eq_false_iff_not];omega,fun h=>by omega,fun h=>by omega⟩,by omega,?_⟩ <;> simp [bB,bG,bH]
  ·simp [Int.not_le.2 h1]
   refine ⟨1,⟨by omega,fun _=>by simp only [S,Bool.and_eq_false_iff,decide_eq_false_iff_not];omega,fun h=>by omega,fun h=>by omega⟩,by omega,?_⟩ <;> simp [bB,bG,bH]
 ·simp [b9,bB,bG,bH]
  refine ⟨aC (by decide +kernel),?_⟩
  refine ab (kk t.2.1 t.2.2 u.1 t2 t3 u1) (.inl rfl) ?_
  simp
  refine al (fun h1=>?_) (fun h1=>?_) <;> simp at h1
  ·simp [h1]
   refine ab (kk t.2.1 t.2.2 u.2.1 t2 t3 u2) (.inl rfl) ?_
   simp
   refine al (fun h2=>?_) (fun h2=>?_) <;> simp at h2
   ·simp [h2]
    refine ab (kk t.2.1 t.2.2 u.2.2 t2 t3 u3) (.inl rfl) ?_
    simp
    refine al (fun h3=>?_) (fun h3=>?_) <;> simp at h3 <;> simp [h3]
    ·simp [S,h1,h2,h3]
    ·refine ⟨2,⟨by omega,fun _=>s1 (by omega),fun _=>by simp only [S,Bool.and_eq_false_iff,decide_eq_false_iff_not];omega,fun h=>by omega⟩,by omega,?_⟩ <;> simp [bB,bG,bH]
   ·simp [Int.not_le.2 h2]
    refine ⟨2,⟨by omega,fun _=>s1 (by omega),fun _=>by simp only [S,Bool.and_eq_false_iff,decide_eq_false_iff_not];omega,fun h=>by omega⟩,by omega,?_⟩ <;> simp [bB,bG,bH]
  ·simp [Int.not_le.2 h1]
   refine ⟨2,⟨by omega,fun _=>s1 (by omega),fun _=>by simp only [S,Bool.and_eq_false_iff,decide_eq_false_iff_not];omega,fun h=>by omega⟩,by omega,?_⟩ <;> simp [bB,bG,bH]
 ·simp [b9,bB,bG,bH]
  refine ⟨aC (by decide +kernel),?_⟩
  refine ab (kk t.2.2 t.1 u.1 t3 t1 u1) (.inl rfl) ?_
  simp
  refine al (fun h1=>?_) (fun h1=>?_) <;> simp at h1
  ·simp [h1]
   refine ab (kk t.2.2 t.1 u.2.1 t3 t1 u2) (.inl rfl) ?_
   simp
   refine al (fun h2=>?_) (fun h2=>?_) <;> simp at h2
   ·simp [h2]
    refine ab (kk t.2.2 t.1 u.2.2 t3 t1 u3) (.inl rfl) ?_
    simp
    refine al (fun h3=>?_) (fun h3=>?_) <;> simp at h3 <;> simp [h3]
    ·simp [S,h1,h2,h3]
    ·refine ⟨3,⟨by omega,fun _=>s1 (by omega),fun _=>s2 (by omega),fun _=>by simp only [S,Bool.and_eq_false_iff,decide_eq_false_iff_not];omega⟩,by omega,?_⟩ <;> simp [bB,bG,bH]
   ·simp [Int.not_le.2 h2]
    refine ⟨3,⟨by omega,fun _=>s1 (by omega),fun _=>s2 (by omega),fun _=>by simp only [S,Bool.and_eq_false_iff,decide_eq_false_iff_not];omega⟩,by omega,?_⟩ <;> simp [bB,bG,bH]
  ·simp [Int.not_le.2 h1]
   refine ⟨3,⟨by omega,fun _=>s1 (by omega),fun _=>s2 (by omega),fun _=>by simp only [S,Bool.and_eq_false_iff,decide_eq_false_iff_not];omega⟩,by omega,?_⟩ <;> simp [bB,bG,bH]
 ·simp [s1 (by omega),s2 (by omega),s3 (by omega)]
def Tq (t : Tri) : List (List D):=[ptD t.1,ptD t.2.1,ptD t.2.2]
end Go.Gv

namespace Go.Gv
def okc (m : Msh) (a b : Int) : Bool:=f4 m.s.length a && decide (a ≠ b) && bx (spt m a.toNat)
def okF (m : Msh) (f : Fce) : Bool:=okc m f.a f.b && okc m f.b f.c && okc m f.c f.a && decide (0 <= f.k) && decide (f.k < 16)
def mtc (f g : Fce) (i k : Nat) : Bool:=decide (crn f i=crn g k) && decide (crn f (i + 1)=crn g (k + 1))
def kW (f g : Fce) : Bool:=(List.range 3).any fun i=>(List.range 3).any fun k=>mtc f g i k
theorem oK {m : Msh} {f : Fce} (h : okF m f=true) : inS m f=true:=by
 simp only [okF,okc,Bool.and_eq_true] at h
 simp only [inS,Bool.and_eq_true]
 exact ⟨⟨h.1.1.1.1.1.1,h.1.1.1.2.1.1⟩,h.1.1.2.1.1⟩
theorem cQ {m : Msh} {f : Fce} (h : okF m f=true) : okT (a8 m f)=true:=by
 simp only [okF,okc,Bool.and_eq_true] at h
 simp only [okT,a8,Bool.and_eq_true]
 exact ⟨⟨oL h.1.1.1.1.2,oL h.1.1.1.2.2⟩,oL h.1.1.2.2⟩
def Hz (n : Nat) : UInt8:=UInt8.ofNat (48 + n % 10)
def BA (n : Nat) (out : List UInt8) : List UInt8:=if n < 10 then Hz n::out else BA (n / 10) (Hz n::out)
def Tf (n : Nat) (out : List UInt8) : List UInt8:=if n=0 then out else BA n out
variable {C : CC} (hC : aB prog C)
include hC
end Go.Gv

namespace Go.Gv
def mX (m : Msh) (i : Nat) : Pnt:=ptS (spt m i)
def fil (p : Nat -> Bool) (n : Nat) : List Nat:=(List.range n).filter p
theorem pv (p : Nat -> Bool) : fil p 0=[]:=rfl
theorem cP {p : Nat -> Bool} {n : Nat} (h : p n=true) : fil p (n + 1)=fil p n++[n]:=by
 rw [fil,List.range_succ,List.filter_append]
 simp [h,fil]
theorem qE {p : Nat -> Bool} {n : Nat} (h : p n=false) : fil p (n + 1)=fil p n:=by
 rw [fil,List.range_succ,List.filter_append]
 simp [h,fil]
theorem aR (p : Nat -> Bool) (n : Nat) : (fil p n).length <= n:=by
 have:=List.length_filter_le p (List.range n)
 rw [fil]
 simpa using this
theorem d8 {p : Nat -> Bool} {n i : Nat} (h : i ∈ fil p n) : i < n /\ p i=true:=by
 rw [fil,List.mem_filter,List.mem_range] at h
 exact h
theorem lN {p : Nat -> Bool} {n : Nat} : fil p n=[] ↔ ∀ i,i < n -> p i=false:=by
 rw [fil,List.filter_eq_nil_iff]
 simp
def eF (m : Msh) (i : Nat) : Bool:=!bx (spt m i)
def dg (m : Msh) (i : Nat) : Bool:=bx (spt m i) && (List.range i).any fun k=>bx (spt m k) && decide (mX m k=mX m i)
def fw (m : Msh) (i : Nat) : Bool:=!okF m (fce m i)
def dJ (m : Msh) (i : Nat) : Bool:=okF m (fce m i) && decide (lF (a8 m (fce m i)) <= 0)
def aH (m : Msh) (i : Nat) : Bool:=okF m (fce m i) && decide (0 < lF (a8 m (fce m i)))
def cC (m : Msh) (i : Nat) : Bool:=aH m i && (List.range i).any fun k=>aH m k && kW (fce m i) (fce m k)
def bg (m : Msh) (i : Nat) : Bool:=aH m i && (List.range i).any fun k=>aH m k && ovT (a8 m (fce m i)) (a8 m (fce m k))
def LL (m : Msh) : List (List Nat):=[[],fil (eF m) m.s.length,fil (dg m) m.s.length,fil (fw m) m.f.length,fil (dJ m) m.f.length,fil (cC m) m.f.length,fil (bg m) m.f.length]
def d3 (dec : Nat -> List UInt8) : Nat -> List (List Nat) -> List (Int × List UInt8)
 | _,[]=>[]
 | k,l::r=>(l.map fun i=>((k : Int),dec i))++d3 dec (k + 1) r
def fnD (x : Int × List UInt8) : List D:=[.int .i64 x.1,.str x.2]
def cO (m : Msh) : Bool:=decide (m.s.length <= 2000) && decide (m.f.length <= 4000)
def ar (m : Msh) : Bool:=cO m && (LL m).all fun l=>decide (l=[])
theorem pV (dec : Nat -> List UInt8) : ∀ (k : Nat) (ls : List (List Nat)),d3 dec k ls=[] ↔ (ls.all fun l=>decide (l=[]))=true
 | _,[]=>by simp [d3]
 | k,l::r=>by simp [d3,pV dec (k + 1) r]
def jc (m : Msh) : Nat -> List D
 | 0=>[]
 | i + 1=>if bx (spt m i) then .agg (ptD (mX m i))::jc m i else jc m i
def kQ (m : Msh) : Nat -> List D
 | 0=>[]
 | i + 1=>if bx (spt m i) then .bool true::kQ m i else kQ m i
theorem pY (m : Msh) : ∀ i,(jc m i).length <= i
 | 0=>by simp [jc]
 | i + 1=>by
  have:=pY m i
  rw [jc]
  split <;> simp <;> omega
theorem BG (p q : Pnt) : eqD (.agg (ptD p)) (.agg (ptD q))=decide (q=p):=by
 obtain ⟨a,b⟩:=p
 obtain ⟨c,d⟩:=q
 simp [eqD,oi,oh,ptD]
 rw [Bool.eq_iff_iff]
 simp
 exact ⟨fun h=>⟨h.1.symm,h.2.symm⟩,fun h=>⟨h.1.symm,h.2.symm⟩⟩
theorem ro (m : Msh) (p : Pnt) : ∀ i,(db (jc m i) (kQ m i) (.agg (ptD p))).getD (.bool false)=.bool ((List.range i).any fun k=>bx (spt m k) && decide (mX m k=p))
 | 0=>rfl
 | i + 1=>by
  rw [jc,kQ,List.range_succ,List.any_append]
  by_cases h : bx (spt m i)=true
  ·rw [if_pos h,if_pos h,db,BG]
   by_cases h2 : mX m i=p
   ·simp [h,h2]
   ·simp [h2,ro m p i]
  ·rw [if_neg h,if_neg h,ro m p i]
   simp [h]
def eN (m : Msh) (i : Nat) : List Bool:=(List.range m.s.length).map fun j=>decide (j < i) && eF m j
theorem jG (m : Msh) (i : Nat) : (eN m i).length=m.s.length:=by simp [eN]
theorem ta (m : Msh) : eN m 0=List.replicate m.s.length false:=by
 refine List.ext_getElem (by simp [eN]) fun k h1 h2=>?_
 simp [eN]
theorem u6 (m : Msh) {i : Nat} (h : i < m.s.length) : (eN m i).set i (eF m i)=eN m (i + 1):=by
 refine List.ext_getElem (by simp [eN]) fun k h1 h2=>?_
 rw [List.getElem_set]
 simp only [eN,List.getElem_map,List.getElem_range]
 by_cases e : i=k
 ·subst e;simp
 ·rw [if_neg e]
  by_cases e2 : k < i
  ·simp [e2,show k < i + 1 by omega]
  ·simp [e2,show ¬ k < i + 1 by omega]
theorem u4 (m : Msh) {k : Nat} (h : k < m.s.length) : (eN m m.s.length)[k]'(by rw [jG];exact h)=eF m k:=by simp [eN,h]
variable {C : CC} (hC : aB prog C)
include hC
theorem vn {b : Bool} {xs : List Tri} {g : Nat} {cs : List D} (p : Tri -> Bool) (hs : xs.length < 2 ^ 62) (hp : ∀ x ∈ xs,C g (.agg (b9 x)::cs) (.bool (p x)) []) : C 328 [slx b (xs.map b9),.fn g cs] (.int .i64 (hJ p xs)) []:=by
 refine aF hC (nf:=N328) rfl rfl ?_
 simp [N328]
 refine aE Nat (fun i=>[(0,slx b (xs.map b9)),(1,.fn g cs),(7,.int .i64 xs.length),(8,.int .i64 i)]) (fun i=>i <= xs.length /\ ∀ (j : Nat) (h : j < xs.length),j < i -> p xs[j]=false) (fun i=>xs.length - i) 0 (by simp) (by simp) ?_
 rintro i ⟨hi,hj⟩
 simp
 refine al (fun h=>?_) (fun h=>?_) <;> simp [h] <;> simp at h
 ·have hw : IntKind.wrap .i64 ((i : Int) + 1)=((i + 1 : Nat) : Int):=ai (by omega) (by omega)
  have hc:=hp _ (List.getElem_mem h)
  simp [h,List.getElem_map,b9] at hc ⊢
  refine ab hc (.inl rfl) ?_
  simp
  refine al (fun h1=>?_) (fun h1=>?_) <;> simp [h1,hw]
  ·rw [gn hj h h1]
  ·refine ⟨i + 1,⟨by omega,fun j hl hjj=>?_⟩,by omega,by simp [b9]⟩
   rcases Nat.lt_succ_iff_lt_or_eq.1 hjj with h2 | rfl
   ·exact hj j hl h2
   ·exact h1
 ·rw [iU (fun j hl=>hj j hl (by omega))]
theorem cK {b : Bool} {xs : List Tri} {g : Nat} {cs : List D} (p : Tri -> Bool) (hs : xs.length < 2 ^ 62) (hp : ∀ x ∈ xs,C g (.agg (b9 x)::cs) (.bool (p x)) []) : C 309 [slx b (xs.map b9),.fn g cs] (.bool (xs.any p)) []:=by
 refine aF hC (nf:=N309) rfl rfl ?_
 simp [N309]
 refine ab (vn hC p hs hp) (.inl rfl) ?_
 simp [mo]
theorem Bv (m : Msh) (k : Int) (hn : m.s.length < 2 ^ 40) : C 306 [.int .i64 k,.ptr (cm m),.ptr [.sl ((eN m m.s.length).map fun b=>[.bool b])]] (.bool (!(f4 m.s.length k && bx (spt m k.toNat)))) []:=by
 have E : f4 m.s.length k=(decide (0 <= k) && decide (k < m.s.length)):=rfl
 refine aF hC (nf:=N306) rfl rfl ?_
 simp [N306,cm]
 refine al (fun c1=>?_) (fun c1=>?_) <;> simp at c1
 ·simp [c1]
  rw [E,decide_eq_false (by omega)];simp
 ·simp [Int.not_lt.2 c1]
  refine al (fun c2=>?_) (fun c2=>?_) <;> simp at c2
  ·simp [c2]
   rw [E,decide_eq_false (show ¬ k < m.s.length by omega)];simp
  ·have c3 : k.toNat < m.s.length:=by omega
   have c4:=u4 m c3
   simp [Int.not_le.2 c2,c1,c3,jG]
   rw [c4,E,decide_eq_true c1,decide_eq_true c2]
   simp [eF]
theorem eM {t o : Tri} (ht : okT t=true) (ho : okT o=true) : C 310 [.agg (b9 o),.ptr (b9 t)] (.bool (ovT t o)) []:=by
 have k1:=AY hC ht ho
 have k2:=AY hC ho ht
 refine aF hC (nf:=N310) rfl rfl ?_
 rw [b9,b9] at k1 k2 ⊢
 simp [N310]
 refine ab k1 (.inl rfl) ?_
 simp
 cases h1 : wi t o <;> simp [ovT,h1]
 refine ab k2 (.inl rfl) ?_
 simp
 exact fun _=>h1
end Go.Gv
