/-
  Texts of the proof: GvR, GvEsm, GvN, ItSD, GvU, GvW, GvX, GvX2, GvX3, GvX4, GvX5, K1, K3, H1, H2, H3, H4.
-/
import Derived.Test.YtelkdhkalifeiaaDoorX5
import Derived.SizedLaws
import Derived.ProofKit
import Derived.Test.YtelkdhkalifeiaaDoorX6
import Derived.Test.YtelkdhkalifeiaaDoorProg
import Derived.KernelRfl
import Derived.Shelf.Small.Bits
import Derived.Shelf.Strconv.Itoa0
import Derived.Shelf.Strconv.Itoa1
import Derived.Shelf.LaysM
import Derived.Shelf.Strconv.Itoa2
import Derived.Shelf.Strconv.Itoa3
import Derived.Shelf.Bits.Mul64
import Derived.Shelf.Slices.Equal
import Derived.Ground.Names2Prog
import Derived.Shelf.Slices.SearchI
import Derived.Shelf.Slices.Empties2
set_option linter.all false
namespace Go.Gv
open Go.RowKit Go.ChangeShapes Go.WideShapes Go.ChangeAt
inductive Sh where
 | int (k : IntKind)
 | bool
 | str
 | sl (row : List Sh)
mutual
def ib : Sh -> D -> Prop
 | .int k,d=>∃ n,d=.int k n /\ (Lit.int k n).wf=true
 | .bool,d=>∃ b,d=.bool b
 | .str,d=>∃ s,d=.str s /\ s.length < 140737488355328
 | .sl row,d=>∃ es,(d=.sl es \/ (d=.nils /\ es=[])) /\ es.length < 140737488355328 /\ ∀ e ∈ es,bZ row e
def bZ : List Sh -> List D -> Prop
 | [],ds=>ds=[]
 | s::ss,ds=>∃ d r,ds=d::r /\ ib s d /\ bZ ss r
end
theorem bZ.length : ∀ {ss : List Sh} {ds : List D},bZ ss ds -> ds.length=ss.length
 | [],ds,h=>by simp only [bZ] at h;simp [h]
 | s::ss,ds,h=>by
  simp only [bZ] at h
  obtain ⟨d,r,rfl,_,h2⟩:=h
  simp [bZ.length h2]
theorem bZ.append : ∀ {ss ts : List Sh} {ds es : List D},bZ ss ds -> bZ ts es -> bZ (ss++ts) (ds++es)
 | [],ts,ds,es,h,h'=>by simp only [bZ] at h;subst h;exact h'
 | s::ss,ts,ds,es,h,h'=>by
  simp only [bZ] at h
  obtain ⟨d,r,rfl,h1,h2⟩:=h
  exact ⟨d,r++es,rfl,h1,bZ.append h2 h'⟩
def oe (P : Program) (rec : TypeId -> Option (List Sh)) : List Field -> Nat -> Option (List Sh)
 | [],_=>some []
 | f::fs,off=>if f.offset=off then (match rec f.type with
   | some l=>if l.length=P.cellsOf f.type then (match oe P rec fs (off + l.length) with
    | some r=>some (l++r)
    | none=>none) else none
   | none=>none) else none
def p8 (P : Program) : Nat -> TypeId -> Option (List Sh)
 | 0,_=>none
 | n + 1,t=>match P.underlying t with
  | some .bool=>some [.bool]
  | some (.int k)=>some [.int k]
  | some .string=>some [.str]
  | some (.slice e)=>(match p8 P n e with
   | some l=>if l.length=P.cellsOf e /\ 1 <= P.bytesOf e then some [.sl l] else none
   | none=>none)
  | some (.struct fs)=>(match oe P (p8 P n) fs.toList 0 with
   | some l=>if l.length=P.cellsOf t then some l else none
   | none=>none)
  | _=>none
section
variable {H : Type} {enc : TypeId × Value -> H} {P : Program} {F : Fid} {w : World} {sp : Nat -> Bool}
abbrev ni (w : World) : Mem:=fun p=>w.cell? p
def tU (enc : TypeId × Value -> H) (P : Program) (F : Fid) (w : World) (sp : Nat -> Bool) (n : Nat) (t : TypeId) (shs : List Sh) : Prop :=
 ∀ (cs : List Value) (d : DataW H) (ps : List MemPlace),DataW.trod enc P w 0 sp true n t cs=some (d,ps) -> (d.weights P t).all (· <= reachBytes)=true -> ∃ ds,bZ shs ds /\ ar F (ni w) ds cs
theorem iC {α β : Type} {f : α -> Option β} {x : α} {l : List α} {ys : List β} (h : (x::l).mapM f=some ys) : ∃ y r,f x=some y /\ l.mapM f=some r /\ ys=y::r:=by
 rw [List.mapM_cons] at h
 cases hx : f x with
 | none=>rw [hx] at h;cases h
 | some y =>
  cases hl : l.mapM f with
  | none=>rw [hx,hl] at h;cases h
  | some r =>
   rw [hx,hl] at h
   exact ⟨y,r,rfl,rfl,by cases h;rfl⟩
theorem mG {n m : Nat} (ih : ∀ t shs,p8 P m t=some shs -> tU enc P F w sp n t shs) {cs : List Value} : ∀ (fs : List Field) (off : Nat) (xs : List (DataW H × List MemPlace)) (shs : List Sh),
  (fs.mapM fun f=>DataW.trod enc P w 0 sp true n f.type ((cs.drop f.offset).take (P.cellsOf f.type)))=some xs -> oe P (p8 P m) fs off=some shs -> (DataW.weightsEach P (fs.map (·.type)) (xs.map (·.1))).all (· <= reachBytes)=true -> cs.length=off + shs.length ->
   ∃ ds,bZ shs ds /\ ar F (ni w) ds (cs.drop off)
 | [],off,xs,shs,_,h2,_,h4=>by
  cases h2
  exact ⟨[],rfl,by simp only [ar];exact List.drop_of_length_le (by simpa using Nat.le_of_eq h4)⟩
 | f::fs,off,xs,shs,h1,h2,h3,h4=>by
  obtain ⟨y,r,e1,e2,rfl⟩:=iC h1
  simp only [oe] at h2
  split at h2
  case isFalse=>cases h2
  rename_i ho
  split at h2
  case h_2=>cases h2
  rename_i l hl
  split at h2
  case isFalse=>cases h2
  rename_i hlen
  split at h2
  case h_2=>cases h2
  rename_i rs hr
  cases h2
  simp only [List.map_cons,DataW.weightsEach,List.all_append,Bool.and_eq_true] at h3
  rw [List.length_append] at h4
  obtain ⟨ds1,g1,g2⟩:=ih f.type l hl _ y.1 y.2 e1 h3.1
  obtain ⟨ds2,g3,g4⟩:=mG ih fs (off + l.length) r rs e2 hr h3.2 (by omega)
  refine ⟨ds1++ds2,g1.append g3,?_⟩
  rw [ho,<- hlen] at g2
  have:=g2.append g4
  rwa [<- List.drop_drop,List.take_append_drop] at this
theorem mH {n k : Nat} {e : TypeId} {l : List Sh} {a : Addr} (hl : l.length=k) (ih : tU enc P F w sp n e l) : ∀ (c s : Nat) (xs : List (DataW H × List MemPlace)),
  ((List.range' s c).mapM fun i=>(w.cells? 0 (a.add (i * k)) k).bind (DataW.trod enc P w 0 sp true n e))=some xs -> (DataW.weightsAll P e (xs.map (·.1))).all (· <= reachBytes)=true ->
   ∃ (es : List (List D)) (vs : List Value),es.length=c /\ xs.length=c /\ (∀ r ∈ es,bZ l r) /\ bf F (ni w) es vs /\ ∀ j v,vs[j]? = some v -> w.cell? (a.add (s * k + j))=some v
 | 0,s,xs,h,_=>by
  cases h
  exact ⟨[],[],rfl,rfl,by simp,by simp [bf],fun j v h=>by simp at h⟩
 | c + 1,s,xs,h,hw=>by
  rw [List.range'_succ] at h
  obtain ⟨y,r,e1,e2,rfl⟩:=iC h
  rw [Option.bind_eq_some_iff] at e1
  obtain ⟨row,c1,c2⟩:=e1
  simp only [List.map_cons,DataW.weightsAll,List.all_append,Bool.and_eq_true] at hw
  obtain ⟨ds,g1,g2⟩:=ih row y.1 y.2 c2 hw.1
  obtain ⟨es,vs,h1,h2,h3,h4,h5⟩:=mH hl ih c (s + 1) r e2 hw.2
  have hrow:=World.cells?_some c1
  refine ⟨ds::es,row++vs,by simp [h1],by simp [h2],?_,⟨row,vs,rfl,g2,h4⟩,fun j v hj=>?_⟩
  ·intro x hx
   rcases List.mem_cons.1 hx with rfl | hx
   ·exact g1
   ·exact h3 x hx
  ·have hrl : row.length=k:=by rw [g2.length,g1.length,hl]
   have addadd : ∀ i j,(a.add i).add j=a.add (i + j):=fun i j=>by
    unfold Addr.add
    by_cases hi : i=0 <;> by_cases hj : j=0 <;> simp [hi,hj,Nat.add_assoc]
   by_cases hjk : j < k
   ·rw [List.getElem?_append_left (by omega)] at hj
    have:=hrow.2.2 j hjk
    rw [hj,addadd] at this
    exact this
   ·rw [List.getElem?_append_right (by omega)] at hj
    have:=h5 (j - row.length) v hj
    rw [hrl] at this
    rwa [show (s + 1) * k + (j - k)=s * k + j by rw [Nat.succ_mul];omega] at this
theorem oM : ∀ (m : Nat) (n : Nat) (t : TypeId) (shs : List Sh),p8 P m t=some shs -> tU enc P F w sp n t shs
 | 0,_,_,_,h=>by cases h
 | m + 1,0,t,shs,_=>fun cs d ps h _=>by simp [DataW.trod] at h
 | m + 1,n + 1,t,shs,h=>by
  intro cs d ps ht hw
  rw [p8] at h
  split at h
  ·rename_i hu
   cases h
   unfold DataW.trod at ht;rw [hu] at ht
   split at ht <;> try (simp_all;done)
   rename_i b _
   refine ⟨[.bool b],⟨_,_,rfl,⟨b,rfl⟩,rfl⟩,by simp [ar,ac]⟩
  ·rename_i k hu
   cases h
   unfold DataW.trod at ht;rw [hu] at ht
   split at ht <;> try (simp_all;done)
   rename_i k1 k2 x h1
   simp only [Option.some.injEq,TypeDesc.int.injEq] at h1
   subst h1
   split at ht
   ·rename_i hk
    obtain ⟨rfl,hwf⟩:=hk
    exact ⟨[.int _ x],⟨_,_,rfl,⟨x,rfl,hwf⟩,rfl⟩,by simp [ar,ac]⟩
   ·cases ht
  ·rename_i hu
   cases h
   unfold DataW.trod at ht;rw [hu] at ht
   split at ht <;> try (simp_all;done)
   rename_i s _
   split at ht
   ·rename_i hs
    simp only [Option.some.injEq,Prod.mk.injEq] at ht
    obtain ⟨rfl,rfl⟩:=ht
    simp only [DataW.weights,List.all_cons,List.all_nil,Bool.and_true,decide_eq_true_eq] at hw
    refine ⟨[.str s.data.toList],⟨_,_,rfl,⟨_,rfl,?_⟩,rfl⟩,?_⟩
    ·have:=reachBytes_lt;omega
    ·obtain ⟨s⟩:=s
     simp [ar,ac]
   ·cases ht
  ·rename_i e hu
   split at h
   case h_2=>cases h
   rename_i l hl
   split at h
   case isFalse=>cases h
   rename_i hk
   cases h
   unfold DataW.trod at ht;rw [hu] at ht
   split at ht <;> try (simp_all;done)
   ·refine ⟨[.nils],⟨_,_,rfl,⟨[],.inr ⟨rfl,rfl⟩,by simp,by simp⟩,rfl⟩,by simp [ar,ac]⟩
   ·rename_i e' a len cap h1
    simp only [Option.some.injEq,TypeDesc.slice.injEq] at h1
    subst h1
    simp only at ht
    split at ht
    case isFalse=>cases ht
    rename_i hb
    rw [Option.bind_eq_some_iff] at ht
    obtain ⟨xs,e1,e2⟩:=ht
    rw [Option.map_eq_some_iff] at e2
    obtain ⟨rest,e3,e4⟩:=e2
    simp only [Prod.mk.injEq] at e4
    obtain ⟨rfl,rfl⟩:=e4
    simp only [DataW.weights,hu,List.all_cons,List.all_append,Bool.and_eq_true,decide_eq_true_eq] at hw
    obtain ⟨w1,w2,w3⟩:=hw
    rw [List.range_eq_range'] at e1
    obtain ⟨es,vs,g1,g2,g3,g4,g5⟩:=mH (F:=F) hk.1 (oM m n e l hl) len 0 xs e1 w2
    refine ⟨[.sl es],⟨_,_,rfl,⟨es,.inl rfl,?_,g3⟩,rfl⟩,?_⟩
    ·have h5:=reachBytes_lt
     have h6 : es.length * 1 <= (xs.length + rest.length) * P.bytesOf e:=Nat.mul_le_mul (by omega) hk.2
     simp only [List.length_map] at w1
     omega
    ·simp only [ar]
     refine ⟨_,_,rfl,?_,rfl⟩
     simp only [ac]
     refine ⟨some a,cap,vs,P.cellsOf e,by rw [g1],by omega,g4,fun r hr=>by rw [(g3 r hr).length,hk.1],fun _=>⟨a,rfl,fun j v hj=>?_⟩⟩
     have:=g5 j v hj
     simpa using this
  ·rename_i fs hu
   split at h
   case h_2=>cases h
   rename_i l hl
   split at h
   case isFalse=>cases h
   rename_i hk
   cases h
   unfold DataW.trod at ht;rw [hu] at ht
   split at ht <;> try (simp_all;done)
   rename_i fs' h1
   simp only [Option.some.injEq,TypeDesc.struct.injEq] at h1
   subst h1
   split at ht
   case isFalse=>cases ht
   rename_i hc
   rw [Option.map_eq_some_iff] at ht
   obtain ⟨xs,e1,e2⟩:=ht
   simp only [Prod.mk.injEq] at e2
   obtain ⟨rfl,rfl⟩:=e2
   simp only [DataW.weights,hu] at hw
   obtain ⟨ds,g1,g2⟩:=mG (F:=F) (n:=n) (fun t shs h=>oM m n t shs h) fs.toList 0 xs _ e1 hl hw (by omega)
   exact ⟨ds,g1,by simpa using g2⟩
  ·cases h
theorem qj {t : TypeId} {fs : Array Field} {m : Nat} {shs : List Sh} {base : Nat} {v : Value} {d : DataW H} {ps : List MemPlace} (hu : P.underlying t=some (.struct fs)) (hsh : p8 P m t=some shs) (hv : Value.okWide P w .any base t v) (h : DataW.Trod enc P w 0 sp true t v d ps) (hw : (d.weights P t).all (· <= reachBytes)=true) :
  ∃ ds,bZ shs ds /\ ac F (ni w) (.agg ds) v:=by
 obtain ⟨cs,rfl,_⟩:=okWide_struct hu hv
 obtain ⟨n,hn⟩:=h
 obtain ⟨ds,g1,g2⟩:=oM (F:=F) m n t shs hsh _ d ps hn hw
 exact ⟨ds,g1,by simp only [ac];exact ⟨cs.toList,by simp,g2⟩⟩
theorem n6 {t : TypeId} {k : IntKind} {base : Nat} {v : Value} {d : DataW H} {ps : List MemPlace} (hu : P.underlying t=some (.int k)) (hv : Value.okWide P w .any base t v) (h : DataW.Trod enc P w 0 sp true t v d ps) :
  ∃ n,(Lit.int k n).wf=true /\ ac F (ni w) (.int k n) v:=by
 obtain ⟨n,rfl,_,_,hw⟩:=open_int hu hv h
 exact ⟨n,hw,rfl⟩
end
theorem mN {α : Type} {f : α -> List D} {es : List (List D)} (h : ∀ e ∈ es,∃ x,e=f x) : ∃ xs : List α,es=xs.map f:=by
 induction es with
 | nil=>exact ⟨[],rfl⟩
 | cons e es ih =>
  obtain ⟨x,rfl⟩:=h e (by simp)
  obtain ⟨xs,rfl⟩:=ih (fun e he=>h e (by simp [he]))
  exact ⟨x::xs,rfl⟩
end Go.Gv
namespace Go.Gv
def AO (P : Program) (F : Fid) (prog : Nat -> Option aN) (tbl : List (Nat × Nat)) : Bool:=tbl.all fun p=>my P p.2 && match prog p.1 with
 | some nf=>dH P F p.2 nf
 | none=>true
theorem te {tbl : List (Nat × Nat)} {g f : Nat} (h : tbl.lookup g=some f) : (g,f) ∈ tbl:=by
 induction tbl with
 | nil=>cases h
 | cons p r ih =>
  obtain ⟨a,b⟩:=p
  rw [List.lookup_cons] at h
  cases e : g == a with
  | true=>rw [e] at h;simp at e h;subst e;subst h;simp
  | false=>rw [e] at h;simp [ih h]
theorem seat {P : Program} {tbl : List (Nat × Nat)} {ty : Nat -> TypeId} {prog : Nat -> Option aN} (hm : P.follows .mixedOrders=true) (hl : laidOutB P=true) (h : AO P ⟨P,fun g=>tbl.lookup g,ty,fun _=>.nilIface⟩ prog tbl=true) :
  bl P ⟨P,fun g=>tbl.lookup g,ty,fun _=>.nilIface⟩ (iJ P ⟨P,fun g=>tbl.lookup g,ty,fun _=>.nilIface⟩) /\ az prog (iJ P ⟨P,fun g=>tbl.lookup g,ty,fun _=>.nilIface⟩):=by
 have key : ∀ g f,tbl.lookup g=some f -> my P f=true /\ ∀ nf,prog g=some nf -> dH P ⟨P,fun g=>tbl.lookup g,ty,fun _=>.nilIface⟩ f nf=true:=fun g f e=>by
  have:=List.all_eq_true.1 h _ (te e)
  simp only [Bool.and_eq_true] at this
  refine ⟨this.1,fun nf hnf=>?_⟩
  have:=this.2
  rw [hnf] at this
  exact this
 exact pX hm (fun g f e=>(key g f e).1) hl rfl (fun g f nf e hp=>(key g f e).2 nf hp)
end Go.Gv

namespace Go.Gv
open Go.Proofs
def TrydTbl : List (Nat × Nat) := [(0, 2), (839, 5), (241, 8), (242, 9), (243, 10), (244, 11), (245, 12), (19, 15), (234, 17), (221, 18), (220, 19), (223, 21), (399, 22), (279, 23), (20, 24), (842, 25), (280, 30), (273, 37), (261, 38), (253, 39), (262, 40), (11, 41), (400, 42), (401, 43), (303, 44), (314, 45), (99, 46), (846, 47), (327, 48), (271, 49), (272, 50), (374, 53), (329, 55), (331, 56), (332, 57), (42, 58), (315, 59), (316, 60), (317, 61), (318, 62), (302, 72), (304, 73), (305, 74), (306, 75), (307, 76), (308, 77), (298, 78), (309, 79), (310, 80), (311, 81), (127, 82), (35, 83), (403, 84), (404, 85), (313, 86), (330, 87), (105, 88), (103, 89), (106, 90), (107, 91), (108, 92), (301, 93), (333, 98), (334, 99), (335, 100), (328, 106), (91, 108), (112, 109), (113, 110), (104, 113), (111, 125), (339, 126), (92, 128), (110, 129), (102, 141), (340, 167), (341, 168), (342, 169), (343, 170)]
def TrydTys : List (Nat × Nat) := [(1, 4), (2, 3), (20, 103), (3, 131), (4, 114)]
set_option maxRecDepth 100000 in
theorem Tryd_all : AO Tryd.prog ⟨Tryd.prog, fun g => TrydTbl.lookup g, fun t => (TrydTys.lookup t).getD 0, fun _ => .nilIface⟩ prog TrydTbl = true := by kernel_rfl
end Go.Gv

namespace Go.Gv
open Go.RowKit
theorem rA {P : Program} {F : Fid} {g : Nat} {ds : List D} {d : D} (h : ∀ f,F g=some f -> ∀ (M : Mem) (w : World) (vs : List Value),ar F M ds vs -> ∃ v,ac F M d v /\ Calls P f vs.toArray w (fun e w'=>e=.returned v /\ w'=w)) : iJ P F g ds d []:=by
 refine ⟨trivial,fun f hf M w vs hh r=>?_⟩
 obtain ⟨v,hv,hc⟩:=h f hf M w vs r
 refine hc.mono ?_
 rintro e w' ⟨rfl,rfl⟩
 exact ⟨v,M,rfl,Bel.refl _,Mem.le_refl _,fun p h1 h2=>absurd h1 h2,hh,hv⟩
end Go.Gv

namespace Go.Proofs
open Go.Shelf
def Tryd.lays171_ren : Go.Shelf.Ren := ⟨fun | 171 => 82 | 243 => 107 | 246 => 127 | 283 => 137 | 284 => 138 | 285 => 139 | 286 => 140 | 129 => 125 | 317 => 145 | 318 => 146 | 319 => 147 | 320 => 148 | 337 => 149 | 338 => 150 | n => n, fun | 3 => 3 | 9 => 9 | 2 => 2 | 4 => 4 | 171 => 196 | 0 => 0 | 53 => 143 | 37 => 162 | 5 => 5 | 173 => 198 | 212 => 206 | 51 => 182 | 20 => 20 | 213 => 207 | 46 => 153 | 232 => 208 | 233 => 209 | n => n, fun | 17 => 2 | 18 => 3 | 19 => 4 | n => n⟩
theorem Tryd.lays171 : Go.Proofs.Lays.n171 Tryd.prog Tryd.lays171_ren := {
 mixed := by kernel_rfl
 f129 := Tryd.func125.trans (congrArg some (by kernel_rfl))
 f171 := Tryd.func82.trans (congrArg some (by kernel_rfl))
 f243 := Tryd.func107.trans (congrArg some (by kernel_rfl))
 f246 := Tryd.func127.trans (congrArg some (by kernel_rfl))
 f283 := Tryd.func137.trans (congrArg some (by kernel_rfl))
 f284 := Tryd.func138.trans (congrArg some (by kernel_rfl))
 f285 := Tryd.func139.trans (congrArg some (by kernel_rfl))
 f286 := Tryd.func140.trans (congrArg some (by kernel_rfl))
 f317 := Tryd.func145.trans (congrArg some (by kernel_rfl))
 f318 := Tryd.func146.trans (congrArg some (by kernel_rfl))
 f319 := Tryd.func147.trans (congrArg some (by kernel_rfl))
 f320 := Tryd.func148.trans (congrArg some (by kernel_rfl))
 f337 := Tryd.func149.trans (congrArg some (by kernel_rfl))
 f338 := Tryd.func150.trans (congrArg some (by kernel_rfl))
 t0 := Tryd.underlying0
 a0 := Tryd.isAgg0
 z0 := Tryd.sizeOf0
 v0 := Tryd.zeroValue0
 t2 := Tryd.underlying2
 a2 := Tryd.isAgg2
 z2 := Tryd.sizeOf2
 v2 := Tryd.zeroValue2
 t3 := Tryd.underlying3
 a3 := Tryd.isAgg3
 z3 := Tryd.sizeOf3
 v3 := Tryd.zeroValue3
 t4 := Tryd.underlying4
 a4 := Tryd.isAgg4
 z4 := Tryd.sizeOf4
 v4 := Tryd.zeroValue4
 t5 := Tryd.underlying5
 a5 := Tryd.isAgg5
 z5 := Tryd.sizeOf5
 v5 := Tryd.zeroValue5
 t9 := Tryd.underlying9
 a9 := Tryd.isAgg9
 z9 := Tryd.sizeOf9
 v9 := Tryd.zeroValue9
 t20 := Tryd.underlying20
 a20 := Tryd.isAgg20
 z20 := Tryd.sizeOf20
 v20 := Tryd.zeroValue20
 t37 := Tryd.underlying162
 a37 := Tryd.isAgg162
 z37 := Tryd.sizeOf162
 v37 := Tryd.zeroValue162
 t46 := Tryd.underlying153
 a46 := Tryd.isAgg153
 z46 := Tryd.sizeOf153
 v46 := Tryd.zeroValue153
 t51 := Tryd.underlying182
 a51 := Tryd.isAgg182
 z51 := Tryd.sizeOf182
 v51 := Tryd.zeroValue182
 t53 := Tryd.underlying143
 a53 := Tryd.isAgg143
 z53 := Tryd.sizeOf143
 v53 := Tryd.zeroValue143
 t171 := Tryd.underlying196
 a171 := Tryd.isAgg196
 z171 := Tryd.sizeOf196
 v171 := Tryd.zeroValue196
 t173 := Tryd.underlying198
 a173 := Tryd.isAgg198
 z173 := Tryd.sizeOf198
 v173 := Tryd.zeroValue198
 t212 := Tryd.underlying206
 a212 := Tryd.isAgg206
 z212 := Tryd.sizeOf206
 v212 := Tryd.zeroValue206
 t213 := Tryd.underlying207
 a213 := Tryd.isAgg207
 z213 := Tryd.sizeOf207
 t232 := Tryd.underlying208
 a232 := Tryd.isAgg208
 z232 := Tryd.sizeOf208
 v232 := Tryd.zeroValue208
 t233 := Tryd.underlying209
 a233 := Tryd.isAgg209
 z233 := Tryd.sizeOf209
 v233 := Tryd.zeroValue209
 g17 := by kernel_rfl
 g18 := by kernel_rfl
 g19 := by kernel_rfl }
open Go.RowKit Go.Sort Go.Lib in
theorem Tryd.strconv_Itoa_small (i : Nat) (hi : i < 100) (w : World) :
  Calls Tryd.prog 82 #[.int .i64 i] w fun e w' => e = .returned (.string ⟨(Lib.decDigits i).toArray⟩) /\ w' = w := Any.strconv_Itoa_small Tryd.lays171 i hi w
end Go.Proofs

namespace Go.Gv
structure Tag {α : Type _} (x : α) : Type where
@[simp] theorem PC : isV (.any)=true:=_root_.id rfl
@[simp] theorem PI {k n} : isV (.int k n)=true:=_root_.id rfl
@[simp] theorem J5 {b} : isV (.bool b)=true:=_root_.id rfl
@[simp] theorem PR {s} : isV (.str s)=true:=_root_.id rfl
@[simp] theorem J6 : isV (.nilp)=true:=_root_.id rfl
@[simp] theorem J7 : isV (.nils)=true:=_root_.id rfl
@[simp] theorem PA {ds} : isV (.agg ds)=true:=_root_.id rfl
@[simp] theorem PT {ds} : isV (.tup ds)=true:=_root_.id rfl
@[simp] theorem Sp {es} : isV (.sl es)=true:=_root_.id rfl
@[simp] theorem PL {ds} : isV (.ptr ds)=true:=_root_.id rfl
@[simp] theorem Sn {g ds} : isV (.fn g ds)=true:=_root_.id rfl
@[simp] theorem PK {sz es} : isV (.own sz es)=false:=_root_.id rfl
@[simp] theorem PD {sz es} : isV (.blk sz es)=false:=_root_.id rfl
@[simp] theorem So {kt et ks vs} : isV (.mp kt et ks vs)=false:=_root_.id rfl
@[simp] theorem PJ {b} : isV (.mrf b)=false:=_root_.id rfl
@[simp] theorem PN {p k n} : isV (.ref p k n)=false:=_root_.id rfl
@[simp] theorem Pz {p i off} : isV (.adr p i off)=false:=_root_.id rfl
@[simp] theorem PB {ds} : isV (.agx ds)=false:=_root_.id rfl
@[simp] theorem PS {ds} : isV (.tpx ds)=false:=_root_.id rfl
@[simp] theorem PM {ds} : isV (.ptx ds)=false:=_root_.id rfl
@[simp] theorem PO {n sz ds} : isV (.rfx n sz ds)=false:=_root_.id rfl
@[simp] theorem PE {g ds} : isV (.fnx g ds)=false:=_root_.id rfl
@[simp] theorem PG {T p i off} : isV (.ifa T p i off)=false:=_root_.id rfl
@[simp] theorem PH {T n} : isV (.ifi T n)=true:=_root_.id rfl
@[simp] theorem PP {k es} : isV (.slv k es)=true:=_root_.id rfl
@[simp] theorem PF {g ds cs} : isV (.fny g ds cs)=false:=_root_.id rfl
@[simp] theorem Oa : isK (.any)=false:=_root_.id rfl
@[simp] theorem Oh {k n} : isK (.int k n)=true:=_root_.id rfl
@[simp] theorem JP {b} : isK (.bool b)=true:=_root_.id rfl
@[simp] theorem Ou {s} : isK (.str s)=true:=_root_.id rfl
@[simp] theorem JQ : isK (.nilp)=true:=_root_.id rfl
@[simp] theorem JR : isK (.nils)=true:=_root_.id rfl
@[simp] theorem N8 {ds} : isK (.agg ds)=true:=_root_.id rfl
@[simp] theorem Ow {ds} : isK (.tup ds)=true:=_root_.id rfl
@[simp] theorem R8 {es} : isK (.sl es)=true:=_root_.id rfl
@[simp] theorem Ol {ds} : isK (.ptr ds)=true:=_root_.id rfl
@[simp] theorem R6 {g ds} : isK (.fn g ds)=true:=_root_.id rfl
@[simp] theorem Oj {sz es} : isK (.own sz es)=false:=_root_.id rfl
@[simp] theorem Ob {sz es} : isK (.blk sz es)=false:=_root_.id rfl
@[simp] theorem R7 {kt et ks vs} : isK (.mp kt et ks vs)=false:=_root_.id rfl
@[simp] theorem Oi {b} : isK (.mrf b)=false:=_root_.id rfl
@[simp] theorem On {p k n} : isK (.ref p k n)=false:=_root_.id rfl
@[simp] theorem N7 {p i off} : isK (.adr p i off)=false:=_root_.id rfl
@[simp] theorem N9 {ds} : isK (.agx ds)=false:=_root_.id rfl
@[simp] theorem Ov {ds} : isK (.tpx ds)=false:=_root_.id rfl
@[simp] theorem Om {ds} : isK (.ptx ds)=false:=_root_.id rfl
@[simp] theorem Oo {n sz ds} : isK (.rfx n sz ds)=false:=_root_.id rfl
@[simp] theorem Oc {g ds} : isK (.fnx g ds)=false:=_root_.id rfl
@[simp] theorem Oe {T p i off} : isK (.ifa T p i off)=false:=_root_.id rfl
@[simp] theorem Og {T n} : isK (.ifi T n)=true:=_root_.id rfl
@[simp] theorem Oq {k es} : isK (.slv k es)=true:=_root_.id rfl
@[simp] theorem Od {g ds cs} : isK (.fny g ds cs)=false:=_root_.id rfl
@[simp] theorem OV : isP (.any)=true:=_root_.id rfl
@[simp] theorem O1 {k n} : isP (.int k n)=true:=_root_.id rfl
@[simp] theorem JV {b} : isP (.bool b)=true:=_root_.id rfl
@[simp] theorem Pb {s} : isP (.str s)=true:=_root_.id rfl
@[simp] theorem JW : isP (.nilp)=true:=_root_.id rfl
@[simp] theorem JX : isP (.nils)=true:=_root_.id rfl
@[simp] theorem OT {ds} : isP (.agg ds)=true:=_root_.id rfl
@[simp] theorem Pd {ds} : isP (.tup ds)=true:=_root_.id rfl
@[simp] theorem Sg {es} : isP (.sl es)=true:=_root_.id rfl
@[simp] theorem O4 {ds} : isP (.ptr ds)=true:=_root_.id rfl
@[simp] theorem Se {g ds} : isP (.fn g ds)=true:=_root_.id rfl
@[simp] theorem O3 {sz es} : isP (.own sz es)=false:=_root_.id rfl
@[simp] theorem OW {sz es} : isP (.blk sz es)=false:=_root_.id rfl
@[simp] theorem Sf {kt et ks vs} : isP (.mp kt et ks vs)=false:=_root_.id rfl
@[simp] theorem O2 {b} : isP (.mrf b)=true:=_root_.id rfl
@[simp] theorem O6 {p k n} : isP (.ref p k n)=true:=_root_.id rfl
@[simp] theorem OS {p i off} : isP (.adr p i off)=true:=_root_.id rfl
@[simp] theorem OU {ds} : isP (.agx ds)=false:=_root_.id rfl
@[simp] theorem Pc {ds} : isP (.tpx ds)=false:=_root_.id rfl
@[simp] theorem O5 {ds} : isP (.ptx ds)=false:=_root_.id rfl
@[simp] theorem O7 {n sz ds} : isP (.rfx n sz ds)=false:=_root_.id rfl
@[simp] theorem OX {g ds} : isP (.fnx g ds)=false:=_root_.id rfl
@[simp] theorem OZ {T p i off} : isP (.ifa T p i off)=true:=_root_.id rfl
@[simp] theorem O0 {T n} : isP (.ifi T n)=true:=_root_.id rfl
@[simp] theorem O8 {k es} : isP (.slv k es)=true:=_root_.id rfl
@[simp] theorem OY {g ds cs} : isP (.fny g ds cs)=false:=_root_.id rfl
@[simp] theorem Ph : isS (.any)=true:=_root_.id rfl
@[simp] theorem Sm : isV (.bb)=true:=_root_.id rfl
@[simp] theorem Si : isS (.bb)=true:=_root_.id rfl
@[simp] theorem Sd : isP (.bb)=true:=_root_.id rfl
@[simp] theorem RZ : isB (.bb)=false:=_root_.id rfl
@[simp] theorem Iz : cf (.bb)=false:=_root_.id rfl
@[simp] theorem FS : bi (.bb)=[]:=_root_.id rfl
@[simp] theorem B2 : aA (.bb)=[]:=_root_.id rfl
@[simp] theorem Pn {k n} : isS (.int k n)=true:=_root_.id rfl
@[simp] theorem JY {b} : isS (.bool b)=true:=_root_.id rfl
@[simp] theorem Pw {s} : isS (.str s)=true:=_root_.id rfl
@[simp] theorem JZ : isS (.nilp)=true:=_root_.id rfl
@[simp] theorem J0 : isS (.nils)=true:=_root_.id rfl
@[simp] theorem Pf {ds} : isS (.agg ds)=true:=_root_.id rfl
@[simp] theorem Py {ds} : isS (.tup ds)=true:=_root_.id rfl
@[simp] theorem Sl {es} : isS (.sl es)=true:=_root_.id rfl
@[simp] theorem Pq {ds} : isS (.ptr ds)=true:=_root_.id rfl
@[simp] theorem Sj {g ds} : isS (.fn g ds)=true:=_root_.id rfl
@[simp] theorem Pp {sz es} : isS (.own sz es)=false:=_root_.id rfl
@[simp] theorem Pi {sz es} : isS (.blk sz es)=false:=_root_.id rfl
@[simp] theorem Sk {kt et ks vs} : isS (.mp kt et ks vs)=false:=_root_.id rfl
@[simp] theorem Po {b} : isS (.mrf b)=true:=_root_.id rfl
@[simp] theorem Ps {p k n} : isS (.ref p k n)=true:=_root_.id rfl
@[simp] theorem Pe {p i off} : isS (.adr p i off)=true:=_root_.id rfl
@[simp] theorem Pg {ds} : isS (.agx ds)=ds.all isP:=_root_.id rfl
@[simp] theorem Px {ds} : isS (.tpx ds)=ds.all isP:=_root_.id rfl
@[simp] theorem Pr {ds} : isS (.ptx ds)=ds.all isP:=_root_.id rfl
@[simp] theorem Pt {n sz ds} : isS (.rfx n sz ds)=ds.all isP:=_root_.id rfl
@[simp] theorem Pj {g ds} : isS (.fnx g ds)=ds.all isP:=_root_.id rfl
@[simp] theorem Pl {T p i off} : isS (.ifa T p i off)=true:=_root_.id rfl
@[simp] theorem Pm {T n} : isS (.ifi T n)=true:=_root_.id rfl
@[simp] theorem Pu {k es} : isS (.slv k es)=true:=_root_.id rfl
@[simp] theorem Pk {g ds cs} : isS (.fny g ds cs)=(ds.all isP && cs.all isP):=_root_.id rfl
@[simp] theorem IJ : au (.any)=false:=_root_.id rfl
@[simp] theorem IQ {k n} : au (.int k n)=true:=_root_.id rfl
@[simp] theorem E4 {b} : au (.bool b)=true:=_root_.id rfl
@[simp] theorem IZ {s} : au (.str s)=true:=_root_.id rfl
@[simp] theorem E5 : au (.nilp)=true:=_root_.id rfl
@[simp] theorem E6 : au (.nils)=true:=_root_.id rfl
@[simp] theorem IH {ds} : au (.agg ds)=false:=_root_.id rfl
@[simp] theorem I7 {ds} : au (.tup ds)=false:=_root_.id rfl
@[simp] theorem NG {es} : au (.sl es)=true:=_root_.id rfl
@[simp] theorem IT {ds} : au (.ptr ds)=true:=_root_.id rfl
@[simp] theorem NE {g ds} : au (.fn g ds)=true:=_root_.id rfl
@[simp] theorem IS {sz es} : au (.own sz es)=false:=_root_.id rfl
@[simp] theorem IK {sz es} : au (.blk sz es)=false:=_root_.id rfl
@[simp] theorem NF {kt et ks vs} : au (.mp kt et ks vs)=false:=_root_.id rfl
@[simp] theorem IR {b} : au (.mrf b)=false:=_root_.id rfl
@[simp] theorem IV {p k n} : au (.ref p k n)=false:=_root_.id rfl
@[simp] theorem IG {p i off} : au (.adr p i off)=false:=_root_.id rfl
@[simp] theorem II {ds} : au (.agx ds)=false:=_root_.id rfl
@[simp] theorem I0 {ds} : au (.tpx ds)=false:=_root_.id rfl
@[simp] theorem IU {ds} : au (.ptx ds)=false:=_root_.id rfl
@[simp] theorem IW {n sz ds} : au (.rfx n sz ds)=false:=_root_.id rfl
@[simp] theorem IL {g ds} : au (.fnx g ds)=false:=_root_.id rfl
@[simp] theorem IO {T p i off} : au (.ifa T p i off)=false:=_root_.id rfl
@[simp] theorem IP {T n} : au (.ifi T n)=false:=_root_.id rfl
@[simp] theorem IX {k es} : au (.slv k es)=false:=_root_.id rfl
@[simp] theorem IM {g ds cs} : au (.fny g ds cs)=false:=_root_.id rfl
@[simp] theorem OA : isO (.any)=false:=_root_.id rfl
@[simp] theorem OG {k n} : isO (.int k n)=false:=_root_.id rfl
@[simp] theorem JS {b} : isO (.bool b)=false:=_root_.id rfl
@[simp] theorem OP {s} : isO (.str s)=false:=_root_.id rfl
@[simp] theorem JT : isO (.nilp)=false:=_root_.id rfl
@[simp] theorem JU : isO (.nils)=false:=_root_.id rfl
@[simp] theorem Oy {ds} : isO (.agg ds)=false:=_root_.id rfl
@[simp] theorem OR {ds} : isO (.tup ds)=false:=_root_.id rfl
@[simp] theorem Sc {es} : isO (.sl es)=false:=_root_.id rfl
@[simp] theorem OJ {ds} : isO (.ptr ds)=false:=_root_.id rfl
@[simp] theorem Sa {g ds} : isO (.fn g ds)=false:=_root_.id rfl
@[simp] theorem OI {sz es} : isO (.own sz es)=true:=_root_.id rfl
@[simp] theorem OB {sz es} : isO (.blk sz es)=false:=_root_.id rfl
@[simp] theorem Sb {kt et ks vs} : isO (.mp kt et ks vs)=false:=_root_.id rfl
@[simp] theorem OH {b} : isO (.mrf b)=false:=_root_.id rfl
@[simp] theorem OL {p k n} : isO (.ref p k n)=false:=_root_.id rfl
@[simp] theorem Ox {p i off} : isO (.adr p i off)=false:=_root_.id rfl
@[simp] theorem Oz {ds} : isO (.agx ds)=false:=_root_.id rfl
@[simp] theorem OQ {ds} : isO (.tpx ds)=false:=_root_.id rfl
@[simp] theorem OK {ds} : isO (.ptx ds)=false:=_root_.id rfl
@[simp] theorem OM {n sz ds} : isO (.rfx n sz ds)=false:=_root_.id rfl
@[simp] theorem OC {g ds} : isO (.fnx g ds)=false:=_root_.id rfl
@[simp] theorem OE {T p i off} : isO (.ifa T p i off)=false:=_root_.id rfl
@[simp] theorem OF {T n} : isO (.ifi T n)=false:=_root_.id rfl
@[simp] theorem ON {k es} : isO (.slv k es)=false:=_root_.id rfl
@[simp] theorem OD {g ds cs} : isO (.fny g ds cs)=false:=_root_.id rfl
@[simp] theorem Jb : aT (.any)=true:=_root_.id rfl
@[simp] theorem Jh {k n} : aT (.int k n)=true:=_root_.id rfl
@[simp] theorem E7 {b} : aT (.bool b)=true:=_root_.id rfl
@[simp] theorem Jp {s} : aT (.str s)=true:=_root_.id rfl
@[simp] theorem E8 : aT (.nilp)=true:=_root_.id rfl
@[simp] theorem E9 : aT (.nils)=true:=_root_.id rfl
@[simp] theorem I9 {ds} : aT (.agg ds)=false:=_root_.id rfl
@[simp] theorem Jr {ds} : aT (.tup ds)=false:=_root_.id rfl
@[simp] theorem NJ {es} : aT (.sl es)=false:=_root_.id rfl
@[simp] theorem Jk {ds} : aT (.ptr ds)=false:=_root_.id rfl
@[simp] theorem NH {g ds} : aT (.fn g ds)=false:=_root_.id rfl
@[simp] theorem Jj {sz es} : aT (.own sz es)=false:=_root_.id rfl
@[simp] theorem Jc {sz es} : aT (.blk sz es)=false:=_root_.id rfl
@[simp] theorem NI {kt et ks vs} : aT (.mp kt et ks vs)=false:=_root_.id rfl
@[simp] theorem Ji {b} : aT (.mrf b)=false:=_root_.id rfl
@[simp] theorem Jm {p k n} : aT (.ref p k n)=false:=_root_.id rfl
@[simp] theorem I8 {p i off} : aT (.adr p i off)=false:=_root_.id rfl
@[simp] theorem Ja {ds} : aT (.agx ds)=false:=_root_.id rfl
@[simp] theorem Jq {ds} : aT (.tpx ds)=false:=_root_.id rfl
@[simp] theorem Jl {ds} : aT (.ptx ds)=false:=_root_.id rfl
@[simp] theorem Jn {n sz ds} : aT (.rfx n sz ds)=false:=_root_.id rfl
@[simp] theorem Jd {g ds} : aT (.fnx g ds)=false:=_root_.id rfl
@[simp] theorem Jf {T p i off} : aT (.ifa T p i off)=false:=_root_.id rfl
@[simp] theorem Jg {T n} : aT (.ifi T n)=true:=_root_.id rfl
@[simp] theorem Jo {k es} : aT (.slv k es)=false:=_root_.id rfl
@[simp] theorem Je {g ds cs} : aT (.fny g ds cs)=false:=_root_.id rfl
@[simp] theorem Jv : dj (.any)=true:=_root_.id rfl
@[simp] theorem JB {k n} : dj (.int k n)=true:=_root_.id rfl
@[simp] theorem Fa {b} : dj (.bool b)=true:=_root_.id rfl
@[simp] theorem JJ {s} : dj (.str s)=true:=_root_.id rfl
@[simp] theorem Fb : dj (.nilp)=true:=_root_.id rfl
@[simp] theorem Fc : dj (.nils)=true:=_root_.id rfl
@[simp] theorem Jt {ds} : dj (.agg ds)=ds.all aT:=_root_.id rfl
@[simp] theorem JL {ds} : dj (.tup ds)=false:=_root_.id rfl
@[simp] theorem NM {es} : dj (.sl es)=false:=_root_.id rfl
@[simp] theorem JE {ds} : dj (.ptr ds)=false:=_root_.id rfl
@[simp] theorem NK {g ds} : dj (.fn g ds)=false:=_root_.id rfl
@[simp] theorem JD {sz es} : dj (.own sz es)=false:=_root_.id rfl
@[simp] theorem Jw {sz es} : dj (.blk sz es)=false:=_root_.id rfl
@[simp] theorem NL {kt et ks vs} : dj (.mp kt et ks vs)=false:=_root_.id rfl
@[simp] theorem JC {b} : dj (.mrf b)=false:=_root_.id rfl
@[simp] theorem JG {p k n} : dj (.ref p k n)=false:=_root_.id rfl
@[simp] theorem Js {p i off} : dj (.adr p i off)=false:=_root_.id rfl
@[simp] theorem Ju {ds} : dj (.agx ds)=false:=_root_.id rfl
@[simp] theorem JK {ds} : dj (.tpx ds)=false:=_root_.id rfl
@[simp] theorem JF {ds} : dj (.ptx ds)=false:=_root_.id rfl
@[simp] theorem JH {n sz ds} : dj (.rfx n sz ds)=false:=_root_.id rfl
@[simp] theorem Jx {g ds} : dj (.fnx g ds)=false:=_root_.id rfl
@[simp] theorem Jz {T p i off} : dj (.ifa T p i off)=false:=_root_.id rfl
@[simp] theorem JA {T n} : dj (.ifi T n)=true:=_root_.id rfl
@[simp] theorem JI {k es} : dj (.slv k es)=false:=_root_.id rfl
@[simp] theorem Jy {g ds cs} : dj (.fny g ds cs)=false:=_root_.id rfl
@[simp] theorem NQ : isF (.any)=true:=_root_.id rfl
@[simp] theorem NW {k n} : isF (.int k n)=true:=_root_.id rfl
@[simp] theorem JM {b} : isF (.bool b)=true:=_root_.id rfl
@[simp] theorem N4 {s} : isF (.str s)=true:=_root_.id rfl
@[simp] theorem JN : isF (.nilp)=true:=_root_.id rfl
@[simp] theorem JO : isF (.nils)=true:=_root_.id rfl
@[simp] theorem NO {ds} : isF (.agg ds)=ds.all aT:=_root_.id rfl
@[simp] theorem N6 {ds} : isF (.tup ds)=ds.all dj:=_root_.id rfl
@[simp] theorem R5 {es} : isF (.sl es)=false:=_root_.id rfl
@[simp] theorem NZ {ds} : isF (.ptr ds)=false:=_root_.id rfl
@[simp] theorem R3 {g ds} : isF (.fn g ds)=false:=_root_.id rfl
@[simp] theorem NY {sz es} : isF (.own sz es)=false:=_root_.id rfl
@[simp] theorem NR {sz es} : isF (.blk sz es)=false:=_root_.id rfl
@[simp] theorem R4 {kt et ks vs} : isF (.mp kt et ks vs)=false:=_root_.id rfl
@[simp] theorem NX {b} : isF (.mrf b)=false:=_root_.id rfl
@[simp] theorem N1 {p k n} : isF (.ref p k n)=false:=_root_.id rfl
@[simp] theorem NN {p i off} : isF (.adr p i off)=false:=_root_.id rfl
@[simp] theorem NP {ds} : isF (.agx ds)=false:=_root_.id rfl
@[simp] theorem N5 {ds} : isF (.tpx ds)=false:=_root_.id rfl
@[simp] theorem N0 {ds} : isF (.ptx ds)=false:=_root_.id rfl
@[simp] theorem N2 {n sz ds} : isF (.rfx n sz ds)=false:=_root_.id rfl
@[simp] theorem NS {g ds} : isF (.fnx g ds)=false:=_root_.id rfl
@[simp] theorem NU {T p i off} : isF (.ifa T p i off)=false:=_root_.id rfl
@[simp] theorem NV {T n} : isF (.ifi T n)=true:=_root_.id rfl
@[simp] theorem N3 {k es} : isF (.slv k es)=false:=_root_.id rfl
@[simp] theorem NT {g ds cs} : isF (.fny g ds cs)=false:=_root_.id rfl
@[simp] theorem Nl : isB (.any)=false:=_root_.id rfl
@[simp] theorem Ns {k n} : isB (.int k n)=false:=_root_.id rfl
@[simp] theorem ID {b} : isB (.bool b)=false:=_root_.id rfl
@[simp] theorem NB {s} : isB (.str s)=false:=_root_.id rfl
@[simp] theorem IE : isB (.nilp)=false:=_root_.id rfl
@[simp] theorem IF : isB (.nils)=false:=_root_.id rfl
@[simp] theorem Nj {ds} : isB (.agg ds)=false:=_root_.id rfl
@[simp] theorem ND {ds} : isB (.tup ds)=false:=_root_.id rfl
@[simp] theorem R2 {es} : isB (.sl es)=false:=_root_.id rfl
@[simp] theorem Nv {ds} : isB (.ptr ds)=false:=_root_.id rfl
@[simp] theorem R0 {g ds} : isB (.fn g ds)=false:=_root_.id rfl
@[simp] theorem Nu {sz es} : isB (.own sz es)=false:=_root_.id rfl
@[simp] theorem Nm {sz es} : isB (.blk sz es)=true:=_root_.id rfl
@[simp] theorem R1 {kt et ks vs} : isB (.mp kt et ks vs)=true:=_root_.id rfl
@[simp] theorem Nt {b} : isB (.mrf b)=false:=_root_.id rfl
@[simp] theorem Nx {p k n} : isB (.ref p k n)=false:=_root_.id rfl
@[simp] theorem Ni {p i off} : isB (.adr p i off)=false:=_root_.id rfl
@[simp] theorem Nk {ds} : isB (.agx ds)=false:=_root_.id rfl
@[simp] theorem NC {ds} : isB (.tpx ds)=false:=_root_.id rfl
@[simp] theorem Nw {ds} : isB (.ptx ds)=false:=_root_.id rfl
@[simp] theorem Ny {n sz ds} : isB (.rfx n sz ds)=false:=_root_.id rfl
@[simp] theorem Nn {g ds} : isB (.fnx g ds)=false:=_root_.id rfl
@[simp] theorem Nq {T p i off} : isB (.ifa T p i off)=false:=_root_.id rfl
@[simp] theorem Nr {T n} : isB (.ifi T n)=false:=_root_.id rfl
@[simp] theorem Nz {k es} : isB (.slv k es)=false:=_root_.id rfl
@[simp] theorem Np {g ds cs} : isB (.fny g ds cs)=false:=_root_.id rfl
@[simp] theorem EK : cf (.any)=true:=_root_.id rfl
@[simp] theorem EQ {k n} : cf (.int k n)=false:=_root_.id rfl
@[simp] theorem BF {b} : cf (.bool b)=false:=_root_.id rfl
@[simp] theorem EZ {s} : cf (.str s)=false:=_root_.id rfl
@[simp] theorem BG : cf (.nilp)=false:=_root_.id rfl
@[simp] theorem BH : cf (.nils)=false:=_root_.id rfl
@[simp] theorem EI {ds} : cf (.agg ds)=false:=_root_.id rfl
@[simp] theorem E1 {ds} : cf (.tup ds)=false:=_root_.id rfl
@[simp] theorem IC {es} : cf (.sl es)=false:=_root_.id rfl
@[simp] theorem ET {ds} : cf (.ptr ds)=false:=_root_.id rfl
@[simp] theorem IA {g ds} : cf (.fn g ds)=false:=_root_.id rfl
@[simp] theorem ES {sz es} : cf (.own sz es)=false:=_root_.id rfl
@[simp] theorem EL {sz es} : cf (.blk sz es)=false:=_root_.id rfl
@[simp] theorem IB {kt et ks vs} : cf (.mp kt et ks vs)=false:=_root_.id rfl
@[simp] theorem ER {b} : cf (.mrf b)=false:=_root_.id rfl
@[simp] theorem EV {p k n} : cf (.ref p k n)=false:=_root_.id rfl
@[simp] theorem EH {p i off} : cf (.adr p i off)=false:=_root_.id rfl
@[simp] theorem EJ {ds} : cf (.agx ds)=false:=_root_.id rfl
@[simp] theorem E0 {ds} : cf (.tpx ds)=false:=_root_.id rfl
@[simp] theorem EU {ds} : cf (.ptx ds)=false:=_root_.id rfl
@[simp] theorem EW {n sz ds} : cf (.rfx n sz ds)=false:=_root_.id rfl
@[simp] theorem EM {g ds} : cf (.fnx g ds)=false:=_root_.id rfl
@[simp] theorem EO {T p i off} : cf (.ifa T p i off)=false:=_root_.id rfl
@[simp] theorem EP {T n} : cf (.ifi T n)=false:=_root_.id rfl
@[simp] theorem EX {k es} : cf (.slv k es)=false:=_root_.id rfl
@[simp] theorem EN {g ds cs} : cf (.fny g ds cs)=false:=_root_.id rfl
@[simp] theorem zu : cellsOf (.any)=[.any]:=_root_.id rfl
@[simp] theorem zF {k n} : cellsOf (.int k n)=[.int k n]:=_root_.id rfl
@[simp] theorem w8 {b} : cellsOf (.bool b)=[.bool b]:=_root_.id rfl
@[simp] theorem zQ {s} : cellsOf (.str s)=[.str s]:=_root_.id rfl
@[simp] theorem w9 : cellsOf (.nilp)=[.nilp]:=_root_.id rfl
@[simp] theorem xa : cellsOf (.nils)=[.nils]:=_root_.id rfl
@[simp] theorem zj {ds} : cellsOf (.agg ds)=ds:=_root_.id rfl
@[simp] theorem zS {ds} : cellsOf (.tup ds)=[.tup ds]:=_root_.id rfl
@[simp] theorem Bb {es} : cellsOf (.sl es)=[.sl es]:=_root_.id rfl
@[simp] theorem zJ {ds} : cellsOf (.ptr ds)=[.ptr ds]:=_root_.id rfl
@[simp] theorem A9 {g ds} : cellsOf (.fn g ds)=[.fn g ds]:=_root_.id rfl
@[simp] theorem zH {sz es} : cellsOf (.own sz es)=[.own sz es]:=_root_.id rfl
@[simp] theorem zz {sz es} : cellsOf (.blk sz es)=[.blk sz es]:=_root_.id rfl
@[simp] theorem Ba {kt et ks vs} : cellsOf (.mp kt et ks vs)=[.mp kt et ks vs]:=_root_.id rfl
@[simp] theorem zG {b} : cellsOf (.mrf b)=[.mrf b]:=_root_.id rfl
@[simp] theorem zM {p k n} : cellsOf (.ref p k n)=[.ref p k n]:=_root_.id rfl
@[simp] theorem ze {p i off} : cellsOf (.adr p i off)=[.adr p i off]:=_root_.id rfl
@[simp] theorem zp {ds} : cellsOf (.agx ds)=[.agx ds]:=_root_.id rfl
@[simp] theorem zR {ds} : cellsOf (.tpx ds)=[.tpx ds]:=_root_.id rfl
@[simp] theorem zK {ds} : cellsOf (.ptx ds)=[.ptx ds]:=_root_.id rfl
@[simp] theorem zN {n sz ds} : cellsOf (.rfx n sz ds)=[.rfx n sz ds]:=_root_.id rfl
@[simp] theorem zA {g ds} : cellsOf (.fnx g ds)=[.fnx g ds]:=_root_.id rfl
@[simp] theorem zD {T p i off} : cellsOf (.ifa T p i off)=[.ifa T p i off]:=_root_.id rfl
@[simp] theorem zE {T n} : cellsOf (.ifi T n)=[.ifi T n]:=_root_.id rfl
@[simp] theorem zO {k es} : cellsOf (.slv k es)=[.slv k es]:=_root_.id rfl
@[simp] theorem zB {g ds cs} : cellsOf (.fny g ds cs)=[.fny g ds cs]:=_root_.id rfl
@[simp] theorem Dg : bN (.any)=.any:=_root_.id rfl
@[simp] theorem Dm {k n} : bN (.int k n)=.int k n:=_root_.id rfl
@[simp] theorem A0 {b} : bN (.bool b)=.bool b:=_root_.id rfl
@[simp] theorem Dw {s} : bN (.str s)=.str s:=_root_.id rfl
@[simp] theorem A1 : bN (.nilp)=.nilp:=_root_.id rfl
@[simp] theorem A3 : bN (.nils)=.nils:=_root_.id rfl
@[simp] theorem De {ds} : bN (.agg ds)=.agg ds:=_root_.id rfl
@[simp] theorem Dy {ds} : bN (.tup ds)=.tup ds:=_root_.id rfl
@[simp] theorem GO {es} : bN (.sl es)=.sl es:=_root_.id rfl
@[simp] theorem Dp {ds} : bN (.ptr ds)=.ptr ds:=_root_.id rfl
@[simp] theorem GM {g ds} : bN (.fn g ds)=.fn g ds:=_root_.id rfl
@[simp] theorem Do {sz es} : bN (.own sz es)=.own sz es:=_root_.id rfl
@[simp] theorem Dh {sz es} : bN (.blk sz es)=.blk sz es:=_root_.id rfl
@[simp] theorem GN {kt et ks vs} : bN (.mp kt et ks vs)=.mp kt et ks vs:=_root_.id rfl
@[simp] theorem Dn {b} : bN (.mrf b)=.mrf b:=_root_.id rfl
@[simp] theorem Dr {p k n} : bN (.ref p k n)=.ref p k n:=_root_.id rfl
@[simp] theorem Dd {p i off} : bN (.adr p i off)=.adr p i off:=_root_.id rfl
@[simp] theorem Df {ds} : bN (.agx ds)=.agg ds:=_root_.id rfl
@[simp] theorem Dx {ds} : bN (.tpx ds)=.tpx ds:=_root_.id rfl
@[simp] theorem Dq {ds} : bN (.ptx ds)=.ptx ds:=_root_.id rfl
@[simp] theorem Ds {n sz ds} : bN (.rfx n sz ds)=.rfx n sz ds:=_root_.id rfl
@[simp] theorem Di {g ds} : bN (.fnx g ds)=.fnx g ds:=_root_.id rfl
@[simp] theorem Dk {T p i off} : bN (.ifa T p i off)=.ifa T p i off:=_root_.id rfl
@[simp] theorem Dl {T n} : bN (.ifi T n)=.ifi T n:=_root_.id rfl
@[simp] theorem Dt {k es} : bN (.slv k es)=.slv k es:=_root_.id rfl
@[simp] theorem Dj {g ds cs} : bN (.fny g ds cs)=.fny g ds cs:=_root_.id rfl
@[simp] theorem DN : aR (.any)=.any:=_root_.id rfl
@[simp] theorem DT {k n} : aR (.int k n)=.int k n:=_root_.id rfl
@[simp] theorem A6 {b} : aR (.bool b)=.bool b:=_root_.id rfl
@[simp] theorem D2 {s} : aR (.str s)=.str s:=_root_.id rfl
@[simp] theorem A7 : aR (.nilp)=.nilp:=_root_.id rfl
@[simp] theorem A8 : aR (.nils)=.nils:=_root_.id rfl
@[simp] theorem DL {ds} : aR (.agg ds)=.agg ds:=_root_.id rfl
@[simp] theorem D4 {ds} : aR (.tup ds)=.tup ds:=_root_.id rfl
@[simp] theorem He {es} : aR (.sl es)=.sl es:=_root_.id rfl
@[simp] theorem DW {ds} : aR (.ptr ds)=.ptr ds:=_root_.id rfl
@[simp] theorem Hc {g ds} : aR (.fn g ds)=.fn g ds:=_root_.id rfl
@[simp] theorem DV {sz es} : aR (.own sz es)=.sl es:=_root_.id rfl
@[simp] theorem DO {sz es} : aR (.blk sz es)=.blk sz es:=_root_.id rfl
@[simp] theorem Hd {kt et ks vs} : aR (.mp kt et ks vs)=.mp kt et ks vs:=_root_.id rfl
@[simp] theorem DU {b} : aR (.mrf b)=.mrf b:=_root_.id rfl
@[simp] theorem DY {p k n} : aR (.ref p k n)=.ref p k n:=_root_.id rfl
@[simp] theorem DK {p i off} : aR (.adr p i off)=.adr p i off:=_root_.id rfl
@[simp] theorem DM {ds} : aR (.agx ds)=.agx ds:=_root_.id rfl
@[simp] theorem D3 {ds} : aR (.tpx ds)=.tpx ds:=_root_.id rfl
@[simp] theorem DX {ds} : aR (.ptx ds)=.ptx ds:=_root_.id rfl
@[simp] theorem DZ {n sz ds} : aR (.rfx n sz ds)=.rfx n sz ds:=_root_.id rfl
@[simp] theorem DP {g ds} : aR (.fnx g ds)=.fnx g ds:=_root_.id rfl
@[simp] theorem DR {T p i off} : aR (.ifa T p i off)=.ifa T p i off:=_root_.id rfl
@[simp] theorem DS {T n} : aR (.ifi T n)=.ifi T n:=_root_.id rfl
@[simp] theorem D0 {k es} : aR (.slv k es)=.slv k es:=_root_.id rfl
@[simp] theorem DQ {g ds cs} : aR (.fny g ds cs)=.fny g ds cs:=_root_.id rfl
@[simp] theorem Ah : aA (.any)=[]:=_root_.id rfl
@[simp] theorem An {k n} : aA (.int k n)=[]:=_root_.id rfl
@[simp] theorem xO {b} : aA (.bool b)=[]:=_root_.id rfl
@[simp] theorem Aw {s} : aA (.str s)=[]:=_root_.id rfl
@[simp] theorem xP : aA (.nilp)=[]:=_root_.id rfl
@[simp] theorem xQ : aA (.nils)=[]:=_root_.id rfl
@[simp] theorem Af {ds} : aA (.agg ds)=[]:=_root_.id rfl
@[simp] theorem Ay {ds} : aA (.tup ds)=[]:=_root_.id rfl
@[simp] theorem B5 {es} : aA (.sl es)=[]:=_root_.id rfl
@[simp] theorem Aq {ds} : aA (.ptr ds)=[]:=_root_.id rfl
@[simp] theorem B3 {g ds} : aA (.fn g ds)=[]:=_root_.id rfl
@[simp] theorem Ap {sz es} : aA (.own sz es)=[]:=_root_.id rfl
@[simp] theorem Ai {sz es} : aA (.blk sz es)=[]:=_root_.id rfl
@[simp] theorem B4 {kt et ks vs} : aA (.mp kt et ks vs)=[]:=_root_.id rfl
@[simp] theorem Ao {b} : aA (.mrf b)=[b]:=_root_.id rfl
@[simp] theorem As {p k n} : aA (.ref p k n)=[p.root]:=_root_.id rfl
@[simp] theorem Ae {p i off} : aA (.adr p i off)=[p.root]:=_root_.id rfl
@[simp] theorem Ag {ds} : aA (.agx ds)=[]:=_root_.id rfl
@[simp] theorem Ax {ds} : aA (.tpx ds)=[]:=_root_.id rfl
@[simp] theorem Ar {ds} : aA (.ptx ds)=[]:=_root_.id rfl
@[simp] theorem At {n sz ds} : aA (.rfx n sz ds)=[]:=_root_.id rfl
@[simp] theorem Aj {g ds} : aA (.fnx g ds)=[]:=_root_.id rfl
@[simp] theorem Al {T p i off} : aA (.ifa T p i off)=[p.root]:=_root_.id rfl
@[simp] theorem Am {T n} : aA (.ifi T n)=[]:=_root_.id rfl
@[simp] theorem Au {k es} : aA (.slv k es)=[]:=_root_.id rfl
@[simp] theorem Ak {g ds cs} : aA (.fny g ds cs)=[]:=_root_.id rfl
@[simp] theorem B9 : bi (.any)=[]:=_root_.id rfl
@[simp] theorem Cf {k n} : bi (.int k n)=[]:=_root_.id rfl
@[simp] theorem Az {b} : bi (.bool b)=[]:=_root_.id rfl
@[simp] theorem Cq {s} : bi (.str s)=[]:=_root_.id rfl
@[simp] theorem AA : bi (.nilp)=[]:=_root_.id rfl
@[simp] theorem AB : bi (.nils)=[]:=_root_.id rfl
@[simp] theorem B7 {ds} : bi (.agg ds)=[]:=_root_.id rfl
@[simp] theorem Cs {ds} : bi (.tup ds)=[]:=_root_.id rfl
@[simp] theorem FV {es} : bi (.sl es)=[]:=_root_.id rfl
@[simp] theorem Cj {ds} : bi (.ptr ds)=[]:=_root_.id rfl
@[simp] theorem FT {g ds} : bi (.fn g ds)=[]:=_root_.id rfl
@[simp] theorem Ci {sz es} : bi (.own sz es)=[]:=_root_.id rfl
@[simp] theorem Ca {sz es} : bi (.blk sz es)=[]:=_root_.id rfl
@[simp] theorem FU {kt et ks vs} : bi (.mp kt et ks vs)=[]:=_root_.id rfl
@[simp] theorem Cg {b} : bi (.mrf b)=[b]:=_root_.id rfl
@[simp] theorem Cl {p k n} : bi (.ref p k n)=[p.root]:=_root_.id rfl
@[simp] theorem B6 {p i off} : bi (.adr p i off)=[p.root]:=_root_.id rfl
@[simp] theorem B8 {ds} : bi (.agx ds)=ds.flatMap aA:=_root_.id rfl
@[simp] theorem Cr {ds} : bi (.tpx ds)=ds.flatMap aA:=_root_.id rfl
@[simp] theorem Ck {ds} : bi (.ptx ds)=ds.flatMap aA:=_root_.id rfl
@[simp] theorem Cm {n sz ds} : bi (.rfx n sz ds)=ds.flatMap aA:=_root_.id rfl
@[simp] theorem Cb {g ds} : bi (.fnx g ds)=ds.flatMap aA:=_root_.id rfl
@[simp] theorem Cd {T p i off} : bi (.ifa T p i off)=[p.root]:=_root_.id rfl
@[simp] theorem Ce {T n} : bi (.ifi T n)=[]:=_root_.id rfl
@[simp] theorem Co {k es} : bi (.slv k es)=[]:=_root_.id rfl
@[simp] theorem Cc {g ds cs} : bi (.fny g ds cs)=(ds.flatMap aA++cs.flatMap aA):=_root_.id rfl
@[simp] theorem MC {f : Nat -> D} : dp1 f (.any)=(.any):=_root_.id rfl
@[simp] theorem MI {f : Nat -> D} {k n} : dp1 f (.int k n)=(.int k n):=_root_.id rfl
@[simp] theorem Hr {f : Nat -> D} {b} : dp1 f (.bool b)=(.bool b):=_root_.id rfl
@[simp] theorem MR {f : Nat -> D} {s} : dp1 f (.str s)=(.str s):=_root_.id rfl
@[simp] theorem Hs {f : Nat -> D} : dp1 f (.nilp)=(.nilp):=_root_.id rfl
@[simp] theorem Ht {f : Nat -> D} : dp1 f (.nils)=(.nils):=_root_.id rfl
@[simp] theorem MA {f : Nat -> D} {ds} : dp1 f (.agg ds)=(.agg ds):=_root_.id rfl
@[simp] theorem MT {f : Nat -> D} {ds} : dp1 f (.tup ds)=(.tup ds):=_root_.id rfl
@[simp] theorem Ru {f : Nat -> D} {es} : dp1 f (.sl es)=(.sl es):=_root_.id rfl
@[simp] theorem ML {f : Nat -> D} {ds} : dp1 f (.ptr ds)=(.ptr ds):=_root_.id rfl
@[simp] theorem Rr {f : Nat -> D} {g ds} : dp1 f (.fn g ds)=(.fn g ds):=_root_.id rfl
@[simp] theorem MK {f : Nat -> D} {sz es} : dp1 f (.own sz es)=(.own sz es):=_root_.id rfl
@[simp] theorem MD {f : Nat -> D} {sz es} : dp1 f (.blk sz es)=(.blk sz es):=_root_.id rfl
@[simp] theorem Rt {f : Nat -> D} {kt et ks vs} : dp1 f (.mp kt et ks vs)=(.mp kt et ks vs):=_root_.id rfl
@[simp] theorem MJ {f : Nat -> D} {b} : dp1 f (.mrf b)=(.mrf b):=_root_.id rfl
@[simp] theorem MN {f : Nat -> D} {p k n} : dp1 f (.ref p k n)=(match aO f p with | some (_,es)=>.sl (((es.drop k).take n).map fun e=>e.map aR) | none=>.any):=_root_.id rfl
@[simp] theorem Mz {f : Nat -> D} {p i off} : dp1 f (.adr p i off)=(match aO f p with | some (_,es)=>.ptr (((es[i]?.getD []).drop off).map aR) | none=>.any):=_root_.id rfl
@[simp] theorem MB {f : Nat -> D} {ds} : dp1 f (.agx ds)=(.agx ds):=_root_.id rfl
@[simp] theorem MS {f : Nat -> D} {ds} : dp1 f (.tpx ds)=(.tpx ds):=_root_.id rfl
@[simp] theorem MM {f : Nat -> D} {ds} : dp1 f (.ptx ds)=(.ptx ds):=_root_.id rfl
@[simp] theorem MO {f : Nat -> D} {n sz ds} : dp1 f (.rfx n sz ds)=(.rfx n sz ds):=_root_.id rfl
@[simp] theorem ME {f : Nat -> D} {g ds} : dp1 f (.fnx g ds)=(.fnx g ds):=_root_.id rfl
@[simp] theorem MG {f : Nat -> D} {T p i off} : dp1 f (.ifa T p i off)=(.ifa T p i off):=_root_.id rfl
@[simp] theorem MH {f : Nat -> D} {T n} : dp1 f (.ifi T n)=(.ifi T n):=_root_.id rfl
@[simp] theorem MP {f : Nat -> D} {k es} : dp1 f (.slv k es)=(.slv k es):=_root_.id rfl
@[simp] theorem MF {f : Nat -> D} {g ds cs} : dp1 f (.fny g ds cs)=(.fny g ds cs):=_root_.id rfl
@[simp] theorem Ry {f : Nat -> D} : dp f (.any)=(.any):=_root_.id rfl
@[simp] theorem RE {f : Nat -> D} {k n} : dp f (.int k n)=(.int k n):=_root_.id rfl
@[simp] theorem MX {f : Nat -> D} {b} : dp f (.bool b)=(.bool b):=_root_.id rfl
@[simp] theorem RP {f : Nat -> D} {s} : dp f (.str s)=(.str s):=_root_.id rfl
@[simp] theorem MY {f : Nat -> D} : dp f (.nilp)=(.nilp):=_root_.id rfl
@[simp] theorem MZ {f : Nat -> D} : dp f (.nils)=(.nils):=_root_.id rfl
@[simp] theorem Rw {f : Nat -> D} {ds} : dp f (.agg ds)=(.agg ds):=_root_.id rfl
@[simp] theorem RR {f : Nat -> D} {ds} : dp f (.tup ds)=(.tup ds):=_root_.id rfl
@[simp] theorem SW {f : Nat -> D} {es} : dp f (.sl es)=(.sl es):=_root_.id rfl
@[simp] theorem RI {f : Nat -> D} {ds} : dp f (.ptr ds)=(.ptr ds):=_root_.id rfl
@[simp] theorem SU {f : Nat -> D} {g ds} : dp f (.fn g ds)=(.fn g ds):=_root_.id rfl
@[simp] theorem RH {f : Nat -> D} {sz es} : dp f (.own sz es)=(.own sz es):=_root_.id rfl
@[simp] theorem Rz {f : Nat -> D} {sz es} : dp f (.blk sz es)=(.blk sz es):=_root_.id rfl
@[simp] theorem SV {f : Nat -> D} {kt et ks vs} : dp f (.mp kt et ks vs)=(.mp kt et ks vs):=_root_.id rfl
@[simp] theorem RG {f : Nat -> D} {b} : dp f (.mrf b)=(.mrf b):=_root_.id rfl
@[simp] theorem RK {f : Nat -> D} {p k n} : dp f (.ref p k n)=(match aO f p with | some (_,es)=>.sl (((es.drop k).take n).map fun e=>e.map aR) | none=>.any):=_root_.id rfl
@[simp] theorem Rv {f : Nat -> D} {p i off} : dp f (.adr p i off)=(match aO f p with | some (_,es)=>.ptr (((es[i]?.getD []).drop off).map aR) | none=>.any):=_root_.id rfl
@[simp] theorem Rx {f : Nat -> D} {ds} : dp f (.agx ds)=(.agg (ds.map (dp1 f))):=_root_.id rfl
@[simp] theorem RQ {f : Nat -> D} {ds} : dp f (.tpx ds)=(.tup (ds.map (dp1 f))):=_root_.id rfl
@[simp] theorem RJ {f : Nat -> D} {ds} : dp f (.ptx ds)=(.ptr (ds.map (dp1 f))):=_root_.id rfl
@[simp] theorem RM {f : Nat -> D} {n sz ds} : dp f (.rfx n sz ds)=.rfx n sz ds:=_root_.id rfl
@[simp] theorem RA {f : Nat -> D} {g ds} : dp f (.fnx g ds)=(.fn g (ds.map (dp1 f))):=_root_.id rfl
@[simp] theorem RC {f : Nat -> D} {T p i off} : dp f (.ifa T p i off)=(.ifa T p i off):=_root_.id rfl
@[simp] theorem RD {f : Nat -> D} {T n} : dp f (.ifi T n)=(.ifi T n):=_root_.id rfl
@[simp] theorem RN {f : Nat -> D} {k es} : dp f (.slv k es)=(.slv k es):=_root_.id rfl
@[simp] theorem RB {f : Nat -> D} {g ds cs} : dp f (.fny g ds cs)=(.fny g ds cs):=_root_.id rfl
@[simp] theorem Ea {f : Nat -> D} : aI f (.any)=(True):=_root_.id rfl
@[simp] theorem Eg {f : Nat -> D} {k n} : aI f (.int k n)=(True):=_root_.id rfl
@[simp] theorem Bk {f : Nat -> D} {b} : aI f (.bool b)=(True):=_root_.id rfl
@[simp] theorem Ep {f : Nat -> D} {s} : aI f (.str s)=(True):=_root_.id rfl
@[simp] theorem Bl {f : Nat -> D} : aI f (.nilp)=(True):=_root_.id rfl
@[simp] theorem Bm {f : Nat -> D} : aI f (.nils)=(True):=_root_.id rfl
@[simp] theorem D8 {f : Nat -> D} {ds} : aI f (.agg ds)=(True):=_root_.id rfl
@[simp] theorem Es {f : Nat -> D} {ds} : aI f (.tup ds)=(True):=_root_.id rfl
@[simp] theorem Hw {f : Nat -> D} {es} : aI f (.sl es)=(True):=_root_.id rfl
@[simp] theorem Ej {f : Nat -> D} {ds} : aI f (.ptr ds)=(True):=_root_.id rfl
@[simp] theorem Hu {f : Nat -> D} {g ds} : aI f (.fn g ds)=(True):=_root_.id rfl
@[simp] theorem Ei {f : Nat -> D} {sz es} : aI f (.own sz es)=(True):=_root_.id rfl
@[simp] theorem Eb {f : Nat -> D} {sz es} : aI f (.blk sz es)=(True):=_root_.id rfl
@[simp] theorem Hv {f : Nat -> D} {kt et ks vs} : aI f (.mp kt et ks vs)=(True):=_root_.id rfl
@[simp] theorem Eh {f : Nat -> D} {b} : aI f (.mrf b)=(False):=_root_.id rfl
@[simp] theorem El {f : Nat -> D} {p k n} : aI f (.ref p k n)=(match aO f p with | some (_,es)=>k + n <= es.length | none=>False):=_root_.id rfl
@[simp] theorem D7 {f : Nat -> D} {p i off} : aI f (.adr p i off)=(match aO f p with | some _=>True | none=>False):=_root_.id rfl
@[simp] theorem D9 {f : Nat -> D} {ds} : aI f (.agx ds)=(True):=_root_.id rfl
@[simp] theorem Er {f : Nat -> D} {ds} : aI f (.tpx ds)=(True):=_root_.id rfl
@[simp] theorem Ek {f : Nat -> D} {ds} : aI f (.ptx ds)=(True):=_root_.id rfl
@[simp] theorem Em {f : Nat -> D} {n sz ds} : aI f (.rfx n sz ds)=(True):=_root_.id rfl
@[simp] theorem Ec {f : Nat -> D} {g ds} : aI f (.fnx g ds)=(True):=_root_.id rfl
@[simp] theorem Ee {f : Nat -> D} {T p i off} : aI f (.ifa T p i off)=False:=_root_.id rfl
@[simp] theorem Ef {f : Nat -> D} {T n} : aI f (.ifi T n)=True:=_root_.id rfl
@[simp] theorem En {f : Nat -> D} {k es} : aI f (.slv k es)=True:=_root_.id rfl
@[simp] theorem Ed {f : Nat -> D} {g ds cs} : aI f (.fny g ds cs)=True:=_root_.id rfl
@[simp] theorem HA {f : Nat -> D} : br f (.any)=(True):=_root_.id rfl
@[simp] theorem HG {f : Nat -> D} {k n} : br f (.int k n)=(True):=_root_.id rfl
@[simp] theorem Et {f : Nat -> D} {b} : br f (.bool b)=(True):=_root_.id rfl
@[simp] theorem HP {f : Nat -> D} {s} : br f (.str s)=(True):=_root_.id rfl
@[simp] theorem Eu {f : Nat -> D} : br f (.nilp)=(True):=_root_.id rfl
@[simp] theorem Ev {f : Nat -> D} : br f (.nils)=(True):=_root_.id rfl
@[simp] theorem Hy {f : Nat -> D} {ds} : br f (.agg ds)=(True):=_root_.id rfl
@[simp] theorem HR {f : Nat -> D} {ds} : br f (.tup ds)=(True):=_root_.id rfl
@[simp] theorem MW {f : Nat -> D} {es} : br f (.sl es)=(True):=_root_.id rfl
@[simp] theorem HJ {f : Nat -> D} {ds} : br f (.ptr ds)=(True):=_root_.id rfl
@[simp] theorem MU {f : Nat -> D} {g ds} : br f (.fn g ds)=(True):=_root_.id rfl
@[simp] theorem HI {f : Nat -> D} {sz es} : br f (.own sz es)=(True):=_root_.id rfl
@[simp] theorem HB {f : Nat -> D} {sz es} : br f (.blk sz es)=(True):=_root_.id rfl
@[simp] theorem MV {f : Nat -> D} {kt et ks vs} : br f (.mp kt et ks vs)=(True):=_root_.id rfl
@[simp] theorem HH {f : Nat -> D} {b} : br f (.mrf b)=(False):=_root_.id rfl
@[simp] theorem HL {f : Nat -> D} {p k n} : br f (.ref p k n)=(match aO f p with | some (_,es)=>k + n <= es.length | none=>False):=_root_.id rfl
@[simp] theorem Hx {f : Nat -> D} {p i off} : br f (.adr p i off)=(match aO f p with | some _=>True | none=>False):=_root_.id rfl
@[simp] theorem Hz {f : Nat -> D} {ds} : br f (.agx ds)=(∀ d ∈ ds,aI f d):=_root_.id rfl
@[simp] theorem HQ {f : Nat -> D} {ds} : br f (.tpx ds)=(∀ d ∈ ds,aI f d):=_root_.id rfl
@[simp] theorem HK {f : Nat -> D} {ds} : br f (.ptx ds)=(∀ d ∈ ds,aI f d):=_root_.id rfl
@[simp] theorem HM {f : Nat -> D} {n sz ds} : br f (.rfx n sz ds)=False:=_root_.id rfl
@[simp] theorem HC {f : Nat -> D} {g ds} : br f (.fnx g ds)=(∀ d ∈ ds,aI f d):=_root_.id rfl
@[simp] theorem HE {f : Nat -> D} {T p i off} : br f (.ifa T p i off)=False:=_root_.id rfl
@[simp] theorem HF {f : Nat -> D} {T n} : br f (.ifi T n)=True:=_root_.id rfl
@[simp] theorem HN {f : Nat -> D} {k es} : br f (.slv k es)=True:=_root_.id rfl
@[simp] theorem HD {f : Nat -> D} {g ds cs} : br f (.fny g ds cs)=False:=_root_.id rfl
@[simp] theorem PX {p i0 o} : ldc p i0 o (.any)=.any:=_root_.id rfl
@[simp] theorem KR {m} : dS m (.any)=.any:=_root_.id rfl
@[simp] theorem P4 {p i0 o k n} : ldc p i0 o (.int k n)=.int k n:=_root_.id rfl
@[simp] theorem KY {m k n} : dS m (.int k n)=.int k n:=_root_.id rfl
@[simp] theorem Ke {p i0 o b} : ldc p i0 o (.bool b)=.bool b:=_root_.id rfl
@[simp] theorem FW {m b} : dS m (.bool b)=.bool b:=_root_.id rfl
@[simp] theorem Qd {p i0 o s} : ldc p i0 o (.str s)=.str s:=_root_.id rfl
@[simp] theorem Le {m s} : dS m (.str s)=.str s:=_root_.id rfl
@[simp] theorem Kf {p i0 o} : ldc p i0 o (.nilp)=.nilp:=_root_.id rfl
@[simp] theorem FX {m} : dS m (.nilp)=.nilp:=_root_.id rfl
@[simp] theorem Kg {p i0 o} : ldc p i0 o (.nils)=.nils:=_root_.id rfl
@[simp] theorem PV {p i0 o ds} : ldc p i0 o (.agg ds)=.agg ds:=_root_.id rfl
@[simp] theorem KP {m ds} : dS m (.agg ds)=.agg ds:=_root_.id rfl
@[simp] theorem Qf {p i0 o ds} : ldc p i0 o (.tup ds)=.tup ds:=_root_.id rfl
@[simp] theorem Lg {m ds} : dS m (.tup ds)=.tup ds:=_root_.id rfl
@[simp] theorem Sv {p i0 o es} : ldc p i0 o (.sl es)=.sl es:=_root_.id rfl
@[simp] theorem Qq {m es} : dS m (.sl es)=.sl es:=_root_.id rfl
@[simp] theorem P7 {p i0 o ds} : ldc p i0 o (.ptr ds)=.ptr ds:=_root_.id rfl
@[simp] theorem K9 {m ds} : dS m (.ptr ds)=.ptr ds:=_root_.id rfl
@[simp] theorem Ss {p i0 o g ds} : ldc p i0 o (.fn g ds)=.fn g ds:=_root_.id rfl
@[simp] theorem Qo {m g ds} : dS m (.fn g ds)=.fn g ds:=_root_.id rfl
@[simp] theorem P6 {c i o sz es} : ldc (.r c) i o (.own sz es)=.ref (.n c i o) 0 es.length:=_root_.id rfl
@[simp] theorem K0 {m sz es} : dS m (.own sz es)=.own sz es:=_root_.id rfl
@[simp] theorem PY {p i0 o sz es} : ldc p i0 o (.blk sz es)=.blk sz es:=_root_.id rfl
@[simp] theorem KS {m sz es} : dS m (.blk sz es)=.blk sz es:=_root_.id rfl
@[simp] theorem Su {p i0 o kt et ks vs} : ldc p i0 o (.mp kt et ks vs)=.mp kt et ks vs:=_root_.id rfl
@[simp] theorem Qp {m kt et ks vs} : dS m (.mp kt et ks vs)=.mp kt et ks vs:=_root_.id rfl
@[simp] theorem P5 {p i0 o b} : ldc p i0 o (.mrf b)=.mrf b:=_root_.id rfl
@[simp] theorem KZ {m b} : dS m (.mrf b)=.mrf b:=_root_.id rfl
@[simp] theorem P9 {p i0 o q k n} : ldc p i0 o (.ref q k n)=.ref q k n:=_root_.id rfl
@[simp] theorem Lb {m q k n} : dS m (.ref q k n)=.ref q k n:=_root_.id rfl
@[simp] theorem PU {p i0 o q i off} : ldc p i0 o (.adr q i off)=.adr q i off:=_root_.id rfl
@[simp] theorem KO {m q i off} : dS m (.adr q i off)=.adr q i off:=_root_.id rfl
@[simp] theorem PW {p i0 o ds} : ldc p i0 o (.agx ds)=.agx ds:=_root_.id rfl
@[simp] theorem KQ {m ds} : dS m (.agx ds)=.agx ds:=_root_.id rfl
@[simp] theorem Qe {p i0 o ds} : ldc p i0 o (.tpx ds)=.tpx ds:=_root_.id rfl
@[simp] theorem Lf {m ds} : dS m (.tpx ds)=.tpx ds:=_root_.id rfl
@[simp] theorem P8 {p i0 o ds} : ldc p i0 o (.ptx ds)=.ptx ds:=_root_.id rfl
@[simp] theorem Qa {p i0 o n sz ds} : ldc p i0 o (.rfx n sz ds)=.rfx n sz ds:=_root_.id rfl
@[simp] theorem La {m ds} : dS m (.ptx ds)=.ptx ds:=_root_.id rfl
@[simp] theorem Lc {m n sz ds} : dS m (.rfx n sz ds)=.rfx n sz ds:=_root_.id rfl
@[simp] theorem PZ {p i0 o g ds} : ldc p i0 o (.fnx g ds)=.fnx g ds:=_root_.id rfl
@[simp] theorem P1 {p0 i0 o T p i off} : ldc p0 i0 o (.ifa T p i off)=.ifa T p i off:=_root_.id rfl
@[simp] theorem P2 {p0 i0 o T n} : ldc p0 i0 o (.ifi T n)=.ifi T n:=_root_.id rfl
@[simp] theorem Qb {p0 i0 o k es} : ldc p0 i0 o (.slv k es)=.slv k es:=_root_.id rfl
@[simp] theorem P0 {p0 i0 o g ds cs} : ldc p0 i0 o (.fny g ds cs)=.fny g ds cs:=_root_.id rfl
@[simp] theorem KU {m g ds} : dS m (.fnx g ds)=.fnx g ds:=_root_.id rfl
@[simp] theorem KW {m T p i off} : dS m (.ifa T p i off)=.ifa T p i off:=_root_.id rfl
@[simp] theorem KX {m T n} : dS m (.ifi T n)=.ifi T n:=_root_.id rfl
@[simp] theorem Ld {m k es} : dS m (.slv k es)=.slv k es:=_root_.id rfl
@[simp] theorem KV {m g ds cs} : dS m (.fny g ds cs)=.fny g ds cs:=_root_.id rfl
@[simp] theorem FY {m} : dS m .nils=if m=0 then .nils else .own m []:=_root_.id rfl
def slx (b : Bool) (es : List (List D)) : D:=match b,es with
 | true,[]=>.nils
 | _,es=>.sl es
@[simp] theorem ci {es} : slx false es=.sl es:=by cases es <;> rfl
@[simp] theorem LX {b x es} : slx b (x::es)=.sl (x::es):=by cases b <;> rfl
theorem fp (b : Bool) (es : List (List D)) : slx b es=.sl es \/ (slx b es=.nils /\ es=[]):=by cases b <;> cases es <;> simp [slx]
@[simp] theorem PQ {b es} : isV (slx b es)=true:=by cases b <;> cases es <;> rfl
@[simp] theorem Ot {b es} : isK (slx b es)=true:=by cases b <;> cases es <;> rfl
@[simp] theorem O9 {b es} : isP (slx b es)=true:=by cases b <;> cases es <;> rfl
@[simp] theorem Pv {b es} : isS (slx b es)=true:=by cases b <;> cases es <;> rfl
@[simp] theorem IY {b es} : au (slx b es)=true:=by cases b <;> cases es <;> rfl
@[simp] theorem OO {b es} : isO (slx b es)=false:=by cases b <;> cases es <;> rfl
@[simp] theorem EY {b es} : cf (slx b es)=false:=by cases b <;> cases es <;> rfl
@[simp] theorem NA {b es} : isB (slx b es)=false:=by cases b <;> cases es <;> rfl
@[simp] theorem zP {b es} : cellsOf (slx b es)=[slx b es]:=by cases b <;> cases es <;> rfl
@[simp] theorem Du {b es} : bN (slx b es)=slx b es:=by cases b <;> cases es <;> rfl
@[simp] theorem D1 {b es} : aR (slx b es)=slx b es:=by cases b <;> cases es <;> rfl
@[simp] theorem Av {b es} : aA (slx b es)=[]:=by cases b <;> cases es <;> rfl
@[simp] theorem Cp {b es} : bi (slx b es)=[]:=by cases b <;> cases es <;> rfl
@[simp] theorem MQ {f : Nat -> D} {b es} : dp1 f (slx b es)=slx b es:=by cases b <;> cases es <;> rfl
@[simp] theorem RO {f : Nat -> D} {b es} : dp f (slx b es)=slx b es:=by cases b <;> cases es <;> rfl
@[simp] theorem Eo {f : Nat -> D} {b es} : aI f (slx b es)=True:=by cases b <;> cases es <;> rfl
@[simp] theorem HO {f : Nat -> D} {b es} : br f (slx b es)=True:=by cases b <;> cases es <;> rfl
@[simp] theorem Qc {p i o b es} : ldc p i o (slx b es)=slx b es:=by cases b <;> cases es <;> rfl
def qR (d : D) (K : Nat -> Prop) (_ : Tag K) : Prop:=match d with
 | .sl es=>K es.length
 | .nils=>K 0
 | .ref _ _ n=>K n
 | .rfx n _ _=>K n
 | _=>False
@[simp] theorem Kr {n sz ds K u} : qR (.rfx n sz ds) K u=K n:=_root_.id rfl
@[simp] theorem Qg {es K u} : qR (.sl es) K u=K es.length:=_root_.id rfl
@[simp] theorem FG {K u} : qR .nils K u=K 0:=_root_.id rfl
@[simp] theorem Kq {p k n K u} : qR (.ref p k n) K u=K n:=_root_.id rfl
@[simp] theorem Ks {b es K u} : qR (slx b es) K u=K es.length:=by cases b <;> cases es <;> rfl
@[simp] theorem Gl {n ds} : lB true n ds=.agg (ds.take n):=_root_.id rfl
@[simp] theorem CD {n ds} : lB false n ds=ds.headD .any:=_root_.id rfl
@[simp] theorem Kw {t} : ab [] t=.any:=rfl
def lk (b : Bool) (d : D) (r : Env) (t : Nat) : D:=match b with
 | true=>d
 | false=>ab r t
@[simp] theorem Qh {d r t} : lk true d r t=d:=rfl
@[simp] theorem Kt {d r t} : lk false d r t=ab r t:=rfl
@[simp] theorem FH {s d r t} : ab ((s,d)::r) t=lk (s == t) d r t:=by
 by_cases h : s=t
 ·subst h;simp [ab]
 ·rw [show (s == t)=false by simp [h]];simp [ab,h]
@[simp] theorem Ff {e} : pt [] e=[]:=_root_.id rfl
@[simp] theorem BN {t ts e} : pt (t::ts) e=(t,ab e t)::pt ts e:=_root_.id rfl
@[simp] theorem AH : lI []=[]:=_root_.id rfl
@[simp] theorem yf {t d r} : lI ((t,d)::r)=bi d++lI r:=_root_.id rfl
@[simp] theorem GL {e ks} : sC e [] ks=ks:=_root_.id rfl
@[simp] theorem Dc {e r rs ks} : sC e (r::rs) ks=sC e rs (if (ks.map (·.1)).contains r then ks else ks++[(r,ab e r)]):=_root_.id rfl
def gc (f : Nat -> D) (d : D) (ns : List Nat) (K : List D -> List Nat -> Prop) (_ : Tag K) : Prop:=fu f d ns K
def fO (f : Nat -> D) (d : D) (K : D -> List Nat -> Prop) (_ : Tag K) : Prop:=dD f d K
def oR (f : Nat -> D) (ds : List D) (K : List D -> List Nat -> Prop) (_ : Tag K) : Prop:=kZ f ds K
def ub (b n : Nat) (x : D) (K : D -> List Nat -> Prop) (_ : Tag K) : Prop:=match x with
 | .blk sz es=>es.length=n /\ (∀ e ∈ es,∀ c ∈ e,au c=true) /\ K (.own sz es) [b]
 | _=>False
@[simp] theorem GA {b n sz es K u} : ub b n (.blk sz es) K u=(es.length=n /\ (∀ e ∈ es,∀ c ∈ e,au c=true) /\ K (.own sz es) [b]):=_root_.id rfl
theorem dO {f : Nat -> D} {d : D} {K : D -> List Nat -> Prop} {u} (h : au d=true) : fO f d K u=K d []:=by
 cases d <;> simp [au] at h <;> simp [fO,dD,au]
@[simp] theorem C5 {f b k n K u} : fO f (.ref (.r b) k n) K u=(k=0 /\ ub b n (f b) K ⟨⟩):=by
 simp only [fO,dD,ub]
 cases f b <;> rfl
theorem fe {f : Nat -> D} {d : D} {K : List D -> List Nat -> Prop} {u} (h : au d=true) : gc f d [] K u=K [d] []:=by
 cases d <;> simp [au] at h <;> simp [gc,fu,dD,au,eN]
@[simp] theorem GD {f ds K u} : gc f (.agg ds) [] K u=((∀ c ∈ ds,au c=true) /\ K ds []):=by simp [gc,fu,eN]
@[simp] theorem GE {f ds K u} : gc f (.agx ds) [] K u=oR f ds (fun cs bs=>bH bs=true /\ K cs bs) ⟨⟩:=by simp [gc,oR,fu,eN]
@[simp] theorem GH {f b k n K u} : gc f (.ref (.r b) k n) [] K u=(k=0 /\ ub b n (f b) (fun c bs=>K [c] bs) ⟨⟩):=by
 simp only [gc,fu,dD,ub,eN,if_true,true_or,true_and]
 cases f b <;> rfl
@[simp] theorem C8 {f K u} : oR f [] K u=K [] []:=_root_.id rfl
@[simp] theorem AZ {f d ds K u} : oR f (d::ds) K u=fO f d (fun c bs=>oR f ds (fun cs bs'=>K (c::cs) (bs++bs')) ⟨⟩) ⟨⟩:=_root_.id rfl
@[simp] theorem C3 {f k n K u} : fO f (.int k n) K u=K (.int k n) []:=dO rfl
@[simp] theorem GF {f k n K u} : gc f (.int k n) [] K u=K [.int k n] []:=fe rfl
@[simp] theorem AW {f n K u} : fO f (.bool n) K u=K (.bool n) []:=dO rfl
@[simp] theorem C9 {f n K u} : gc f (.bool n) [] K u=K [.bool n] []:=fe rfl
@[simp] theorem C7 {f n K u} : fO f (.str n) K u=K (.str n) []:=dO rfl
@[simp] theorem GJ {f n K u} : gc f (.str n) [] K u=K [.str n] []:=fe rfl
@[simp] theorem AX {f  K u} : fO f .nilp K u=K .nilp []:=dO rfl
@[simp] theorem Da {f  K u} : gc f .nilp [] K u=K [.nilp] []:=fe rfl
@[simp] theorem AY {f  K u} : fO f .nils K u=K .nils []:=dO rfl
@[simp] theorem Db {f  K u} : gc f .nils [] K u=K [.nils] []:=fe rfl
@[simp] theorem GC {f n K u} : fO f (.sl n) K u=K (.sl n) []:=dO rfl
@[simp] theorem Mi {f n K u} : gc f (.sl n) [] K u=K [.sl n] []:=fe rfl
@[simp] theorem C4 {f n K u} : fO f (.ptr n) K u=K (.ptr n) []:=dO rfl
@[simp] theorem GG {f n K u} : gc f (.ptr n) [] K u=K [.ptr n] []:=fe rfl
@[simp] theorem GB {f g n K u} : fO f (.fn g n) K u=K (.fn g n) []:=dO rfl
@[simp] theorem Mh {f g n K u} : gc f (.fn g n) [] K u=K [.fn g n] []:=fe rfl
@[simp] theorem C6 {f b n K u} : fO f (slx b n) K u=K (slx b n) []:=dO (by simp)
@[simp] theorem GI {f b n K u} : gc f (slx b n) [] K u=K [slx b n] []:=fe (by simp)
def oD (f : Nat -> D) (sz : Nat) (ps : List (Nat × Opd)) (es : List (List D)) (bs : List Nat) (K : List (List D) -> List Nat -> Prop) (_ : Tag K) : Prop:=eS f sz [] ps es bs K
@[simp] theorem CE {f sz es bs K u} : oD f sz [] es bs K u=K es bs:=_root_.id rfl
@[simp] theorem AD {f sz i x ps es bs K u} : oD f sz ((i,x)::ps) es bs K u=(i < es.length /\ gc f (vd f x) [] (fun cs bs'=>cs.length=sz /\ oD f sz ps (es.set i cs) (bs++bs') K ⟨⟩) ⟨⟩):=_root_.id rfl
def iG (f : Nat -> D) (mv : Bool) (d : D) (sz : Nat) (K : List (List D) -> List Nat -> Prop) (_ : Tag K) : Prop:=fc f mv d sz K
def CH (b n sz : Nat) (x : D) (K : List (List D) -> List Nat -> Prop) (_ : Tag K) : Prop:=match x with
 | .blk sz' es=>sz'=sz /\ es.length=n /\ (∀ e ∈ es,∀ c ∈ e,isC c=true) /\ K es [b]
 | _=>False
@[simp] theorem LH {b n sz sz' es K u} : CH b n sz (.blk sz' es) K u=(sz'=sz /\ es.length=n /\ (∀ e ∈ es,∀ c ∈ e,isC c=true) /\ K es [b]):=_root_.id rfl
def CI (k n sz : Nat) (x : Option (Nat × List (List D))) (K : List (List D) -> List Nat -> Prop) (_ : Tag K) : Prop:=match x with
 | some (sz',es)=>sz'=sz /\ k + n <= es.length /\ (∀ e ∈ (es.drop k).take n,∀ c ∈ e,au c=true) /\ K ((es.drop k).take n) []
 | none=>False
@[simp] theorem Gp {k n sz sz' es K u} : CI k n sz (some (sz',es)) K u=(sz'=sz /\ k + n <= es.length /\ (∀ e ∈ (es.drop k).take n,∀ c ∈ e,au c=true) /\ K ((es.drop k).take n) []):=_root_.id rfl
@[simp] theorem CJ {f mv sz K u} : iG f mv .nils sz K u=K [] []:=_root_.id rfl
@[simp] theorem LP {f mv es sz K u} : iG f mv (.sl es) sz K u=((∀ e ∈ es,e.length=sz /\ ∀ c ∈ e,au c=true) /\ K es []):=_root_.id rfl
@[simp] theorem Gt {f mv b es sz K u} : iG f mv (slx b es) sz K u=((∀ e ∈ es,e.length=sz /\ ∀ c ∈ e,au c=true) /\ K es []):=by
 rcases fp b es with h | ⟨h,rfl⟩ <;> rw [h] <;> simp
@[simp] theorem LO {f b k n sz K u} : iG f true (.ref (.r b) k n) sz K u=(k=0 /\ CH b n sz (f b) K ⟨⟩):=by
 simp only [iG,fc,CH]
 cases f b <;> rfl
@[simp] theorem Gs {f p k n sz K u} : iG f false (.ref p k n) sz K u=CI k n sz (aO f p) K ⟨⟩:=by
 simp only [iG,fc,CI]
 cases aO f p <;> rfl
def df (f : Nat -> D) (o : Option Opd) (dflt : Nat) (K : Nat -> Prop) (_ : Tag K) : Prop:=dE f o dflt K
def G1 (d : D) (K : Nat -> Prop) (_ : Tag K) : Prop:=match d with
 | .int _ n=>0 <= n /\ K n.toNat
 | _=>False
@[simp] theorem G2 {k n K u} : G1 (.int k n) K u=(0 <= n /\ K n.toNat):=_root_.id rfl
@[simp] theorem y6 {f n K u} : df f none n K u=K n:=_root_.id rfl
@[simp] theorem y7 {f x n K u} : df f (some x) n K u=G1 (vd f x) K ⟨⟩:=_root_.id rfl
def f8 (x : Option (List D)) (K : List D -> Prop) (_ : Tag K) : Prop:=match x with
 | some r=>K r
 | none=>False
@[simp] theorem Gr {r K u} : f8 (some r) K u=K r:=_root_.id rfl
@[simp] theorem Gq {K u} : f8 none K u=False:=_root_.id rfl
theorem fg {x : Option (List D)} {K : List D -> Prop} {u} : f8 x K u=∃ r,x=some r /\ K r:=by
 cases x <;> simp [f8]
def jr (x : Option D) (K : Nat -> List (List D) -> Prop) (_ : Tag K) : Prop:=match x with
 | some (.own sz es)=>K sz es
 | _=>False
@[simp] theorem LA {sz es K u} : jr (some (.own sz es)) K u=K sz es:=_root_.id rfl
theorem iU {x : Option D} {K : Nat -> List (List D) -> Prop} {u} : jr x K u=∃ sz es,x=some (.own sz es) /\ K sz es:=by
 cases x with
 | none=>simp [jr]
 | some d =>
  cases d <;> simp [jr]
  exact ⟨fun h=>⟨_,_,⟨rfl,rfl⟩,h⟩,by rintro ⟨_,_,⟨rfl,rfl⟩,h⟩;exact h⟩
def wY (x : Option D) (K : D -> Prop) (_ : Tag K) : Prop:=match x with
 | some d=>K d
 | none=>False
@[simp] theorem DJ {d K u} : wY (some d) K u=K d:=_root_.id rfl
theorem wZ {x : Option D} {K : D -> Prop} {u} : wY x K u=∃ d,x=some d /\ K d:=by
 cases x <;> simp [wY]
def cI (x : D) (K : Nat -> List (List D) -> Prop) (_ : Tag K) : Prop:=match x with
 | .blk sz es=>K sz es
 | _=>False
@[simp] theorem G0 {sz es K u} : cI (.blk sz es) K u=K sz es:=_root_.id rfl
abbrev CC:=Nat -> List D -> D -> List D -> Prop
abbrev KT:=List (Nat × D) -> List (Nat × Bool) -> Prop
section
variable {C : CC} {Q : cd -> Env -> Prop} {e e' : Env} {d : D}
def wN (C : CC) (c : dg) (Q : cd -> Env -> Prop) (_ : Tag (c,Q)) (e : Env) : Prop:=wpN C c Q e
def rU (C : CC) (c : dg) (Q : cd -> Env -> Prop) (_ : Tag (c,Q)) (e : Env) : Prop:=wpN C (.loop c) Q e
def tm (C : CC) (K : Env -> Prop) (ns : List ap) (_ : Tag (K,ns)) (e : Env) : Prop:=gV C K ns e
def rf (C : CC) (hs : List Nat) (K : Env -> Prop) (ns : List ap) (_ : Tag (K,ns)) (e : Env) (acc : List (List Nat × List Nat)) : Prop:=jb C hs K ns e acc
def Iy (hs : List Nat) (acc : List (List Nat × List Nat)) : Prop:=jJ hs acc.reverse=true
theorem aL {hs : List Nat} {acc : List (List Nat × List Nat)} (h : jJ hs acc.reverse=true) : Iy hs acc:=h
def zX (C : CC) (K : Env -> Prop) (ns : List ap) (e : Env) : KT:=fun ws ks=>gV C K ns (ws++dJ ks e)
def Hi (C : CC) (hs : List Nat) (K : Env -> Prop) (ns : List ap) (e : Env) (R : List Nat) (acc : List (List Nat × List Nat)) : KT:=fun ws ks=>wOk R ws ks=true /\ jb C hs K ns (ws++dJ ks e) ((R,wrK ws ks)::acc)
def doT (C : CC) (K : Env -> Prop) (ns : List ap) (_ : Tag (K,ns)) (e : Env) (ws : List (Nat × D)) (ks : List (Nat × Bool)) : Prop:=gV C K ns (ws++dJ ks e)
def bM (Q : cd -> Env -> Prop) (_ : Tag Q) (t : cd) (e : Env) : Prop:=Q t e
def fin (res : List (Nat × Option (Nat × Bool))) (d : D) : cd -> Env -> Prop:=fun t e=>(match t with
   | .ext _=>False
   | _=>True) /\ fb res d e
def ym (C : CC) (y : dg) (Q : cd -> Env -> Prop) : cd -> Env -> Prop:=fun t e'=>match t with
  | .nrm=>wpN C y Q e'
  | t=>Q t e'
def n7 (id : Nat) (Q : cd -> Env -> Prop) : cd -> Env -> Prop:=fun t e'=>match t with
  | .ext i=>if i=id then Q .nrm e' else Q (.ext i) e'
  | t=>Q t e'
def yc (keep : List Nat) (Q : cd -> Env -> Prop) : Env -> Prop:=fun e'=>Q .nrm (prune keep e')
def kOf (C : CC) (hs : Option (List Nat)) (K : Env -> Prop) (ns : List ap) (e : Env) (R : List Nat) (acc : List (List Nat × List Nat)) : KT :=
 match hs with
 | none=>zX C K ns e
 | some hs=>Hi C hs K ns e R acc
def doW (C : CC) (hs : Option (List Nat)) (K : Env -> Prop) (ns : List ap) (_ : Tag (hs,K,ns)) (e : Env) (R : List Nat) (acc : List (List Nat × List Nat)) (ws : List (Nat × D)) (ks : List (Nat × Bool)) : Prop:=kOf C hs K ns e R acc ws ks
def opW (C : CC) (hs : Option (List Nat)) (K : Env -> Prop) (ns : List ap) (dst : Option Nat) (op : NOp) (_ : Tag (hs,K,ns,dst,op)) (e : Env) (R : List Nat) (acc : List (List Nat × List Nat)) : Prop:=aq C (ab e) dst (kOf C hs K ns e R acc) op
def dW (C : CC) (hs : Option (List Nat)) (K : Env -> Prop) (ns : List ap) (dst : Option Nat) (_ : Tag (hs,K,ns)) (e : Env) (R : List Nat) (acc : List (List Nat × List Nat)) (d : D) : Prop:=cJ dst (kOf C hs K ns e R acc) d
def oW (C : CC) (g : Nat) (hs : Option (List Nat)) (K : Env -> Prop) (ns : List ap) (dst : Option Nat) (_ : Tag (hs,K,ns)) (e : Env) (R : List Nat) (acc : List (List Nat × List Nat)) (pure : Bool) (ds : List D) : Prop :=
 ∃ d,C g ds d [] /\ (isF d=true \/ pure=true) /\ cJ dst (kOf C hs K ns e R acc) d
theorem aF {prog : Nat -> Option aN} (hC : az prog C) {g : Nat} {nf : aN} {ds : List D} (hp : prog g=some nf) (hl : ds.length=nf.np) (h : wN C nf.body (fin nf.res d) ⟨⟩ (params 0 ds)) : C g ds d []:=hC.1.1 g nf ds d hp hl h
def qw (res : List (Nat × Option (Nat × Bool))) (sz : Nat) (es : List (List D)) : cd -> Env -> Prop:=fun t e=>(match t with
   | .ext _=>False
   | _=>True) /\ ju res sz es e
theorem jw {prog : Nat -> Option aN} (hC : az prog C) {g : Nat} {nf : aN} {ds : List D} {sz : Nat} {es : List (List D)} (hp : prog g=some nf) (hl : ds.length=nf.np) (h : wN C nf.body (qw nf.res sz es) ⟨⟩ (params 0 ds)) : C g ds .any [.own sz es]:=hC.1.2.2.1 g nf ds sz es hp hl h
def sV (res : List (Nat × Option (Nat × Bool))) (d : D) : cd -> Env -> Prop:=fun t e=>(match t with
   | .ext _=>False
   | _=>True) /\ jt res d e
def qx (res : List (Nat × Option (Nat × Bool))) (d : D) (sz : Nat) (es' : List (List D)) : cd -> Env -> Prop:=fun t e=>(match t with
   | .ext _=>False
   | _=>True) /\ (0 < es'.length /\ ab e 10015=.blk sz es') /\ fb res d ((10015,.any)::e)
theorem fJ {prog : Nat -> Option aN} (hC : gH prog C) {g : Nat} {nf : aN} {W : List D} {d : D} {sz : Nat} {es es' : List (List D)} (hp : prog g=some nf) (hl : W.length=nf.np) (h : wN C nf.body (qx nf.res d sz es') ⟨⟩ (params 0 W++[(10015,.blk sz es)])) : C g (.blk sz es::W) d [.blk sz es',.nilp]:=hC.2.2.2.2.2.1 g nf W d sz es es' hp hl h
def sW (res : List (Nat × Option (Nat × Bool))) (sz : Nat) (es : List (List D)) : cd -> Env -> Prop:=fun t e=>(match t with
   | .ext _=>False
   | _=>True) /\ jv res sz es e
def qv (res : List (Nat × Option (Nat × Bool))) (R : D) : cd -> Env -> Prop:=fun t e=>(match t with
   | .ext _=>False
   | _=>True) /\ pT res R e
theorem CV {prog : Nat -> Option aN} (hC : az prog C) {g : Nat} {nf : aN} {ds : List D} {R : D} (hp : prog g=some nf) (hl : ds.length=nf.np) (hok : okR R=true) (h : wN C nf.body (qv nf.res R) ⟨⟩ (params 0 ds)) : C g ds R [.nils]:=hC.1.2.2.2.2.2.2.2 g nf ds R hp hl hok h
def ug (C : CC) (g : Nat) (hs : Option (List Nat)) (K : Env -> Prop) (ns : List ap) (t : Nat) (_ : Tag (hs,K,ns)) (e : Env) (R : List Nat) (acc : List (List Nat × List Nat)) (ds : List D) : Prop :=
 (∃ d,C g ds d [] /\ cJ (some t) (kOf C hs K ns e R acc) d) \/ ∃ d,okR d=true /\ C g ds d [.nils] /\ kOf C hs K ns e R acc ((t,dI t d)::aM t d) (di t d)
theorem sI {g : Nat} {hs : Option (List Nat)} {K : Env -> Prop} {ns : List ap} {t : Nat} {u : Tag (hs,K,ns)} {R : List Nat} {acc : List (List Nat × List Nat)} {ds : List D} {d : D} (h : C g ds d [.nils]) (hok : okR d=true) (hk : doW C hs K ns ⟨⟩ e R acc ((t,dI t d)::aM t d) (di t d)) : ug C g hs K ns t u e R acc ds:=.inr ⟨d,hok,h,hk⟩
def A5 (C : CC) (g : Nat) (hs : Option (List Nat)) (K : Env -> Prop) (ns : List ap) (dst : Option Nat) (_ : Tag (hs,K,ns)) (e : Env) (R : List Nat) (acc : List (List Nat × List Nat)) (ds : List D) : Prop :=
 ∃ d,C g ds d [.nilp] /\ cJ dst (kOf C hs K ns e R acc) d
def uh (C : CC) (g : Nat) (hs : Option (List Nat)) (K : Env -> Prop) (ns : List ap) (t : Nat) (_ : Tag (hs,K,ns)) (e : Env) (R : List Nat) (acc : List (List Nat × List Nat)) (ds : List D) : Prop :=
 ∃ sz es,C g ds .any [.own sz es] /\ kOf C hs K ns e R acc [(t,.ref (.r (rt t 0)) 0 es.length),(rt t 0,.blk sz es)] [(rt t 0,true)]
theorem gf {g : Nat} {hs : Option (List Nat)} {K : Env -> Prop} {ns : List ap} {t : Nat} {u : Tag (hs,K,ns)} {R : List Nat} {acc : List (List Nat × List Nat)} {ds : List D} {sz : Nat} {es : List (List D)} (h : C g ds .any [.own sz es]) (hk : doW C hs K ns ⟨⟩ e R acc [(t,.ref (.r (rt t 0)) 0 es.length),(rt t 0,.blk sz es)] [(rt t 0,true)]) : uh C g hs K ns t u e R acc ds:=⟨sz,es,h,hk⟩
def ui (C : CC) (g : Nat) (hs : Option (List Nat)) (K : Env -> Prop) (ns : List ap) (dst : Option Nat) (_ : Tag (hs,K,ns)) (e : Env) (R : List Nat) (acc : List (List Nat × List Nat)) (b sz : Nat) (es : List (List D)) (ds : List D) (p : Bool) : Prop:=match dst with
 | none=>∃ es' : List (List D),es'.length=es.length /\ (∀ e ∈ es',e.length=sz /\ ∀ c ∈ e,au c=true) /\ (p=true \/ ∀ e ∈ es',∀ c ∈ e,aT c=true) /\ C g (.own sz es::ds) .any [.own sz es',.nilp] /\ doW C hs K ns ⟨⟩ e R acc [(b,.blk sz es')] []
 | some t=>(∃ es' : List (List D),es'.length=es.length /\ (∀ e ∈ es',e.length=sz /\ ∀ c ∈ e,au c=true) /\ (p=true \/ ∀ e ∈ es',∀ c ∈ e,aT c=true) /\ C g (.own sz es::ds) .any [.own sz es',.nilp] /\ doW C hs K ns ⟨⟩ e R acc [(t,.tup []),(b,.blk sz es')] []) \/ (b ≠ rt t 0 /\ 0 < sz /\ ∃ es' : List (List D),(∀ e ∈ es',e.length=sz /\ ∀ c ∈ e,au c=true) /\ (p=true \/ ∀ e ∈ es',∀ c ∈ e,aT c=true) /\ C g (.own sz es::ds) .any [.own sz es',.nils] /\ doW C hs K ns ⟨⟩ e R acc [(t,.ref (.r (rt t 0)) 0 es'.length),(rt t 0,.blk sz es'),(b,.any)] [(rt t 0,true)])
def CT (C : CC) (g : Nat) (hs : Option (List Nat)) (K : Env -> Prop) (ns : List ap) (dst : Option Nat) (_ : Tag (hs,K,ns)) (e : Env) (R : List Nat) (acc : List (List Nat × List Nat)) (b n : Nat) (xs : List Opd) (d : D) : Prop:=match d with
 | .blk sz es=>es.length=n /\ (∀ e ∈ es,∀ c ∈ e,au c=true) /\ (∀ x ∈ xs,br (fbE (ab e) b) (vd (fbE (ab e) b) x)) /\ ui C g hs K ns dst ⟨⟩ e R acc b sz es (xs.map (dpv (fbE (ab e) b))) (xs.all fun y=>isV (vd (fbE (ab e) b) y))
 | _=>False
def L7 (C : CC) (g : Nat) (hs : Option (List Nat)) (K : Env -> Prop) (ns : List ap) (dst : Option Nat) (_ : Tag (hs,K,ns)) (e : Env) (R : List Nat) (acc : List (List Nat × List Nat)) (xs : List Opd) (d : D) : Prop:=match d with
 | .ref (.r b) k n=>k=0 /\ CT C g hs K ns dst ⟨⟩ e R acc b n xs (ab e b)
 | _=>False
@[simp] theorem RU {f : Nat -> D} {b t : Nat} : fbE f b t=if t=b then .any else f t:=_root_.id rfl
theorem aa {g : Nat} {hs : Option (List Nat)} {K : Env -> Prop} {ns : List ap} {dst : Option Nat} {u : Tag (hs,K,ns)} {R : List Nat} {acc : List (List Nat × List Nat)} {p : Bool} {ds : List D} (h : C g ds d []) (hf : isF d=true \/ p=true) (hk : dW C hs K ns dst ⟨⟩ e R acc d) : oW C g hs K ns dst u e R acc p ds:=⟨d,h,hf,hk⟩
def oI (S : Type) (G : S -> Env) (I : S -> Prop) (m : S -> Nat) (s : S) (Q : cd -> Env -> Prop) : cd -> Env -> Prop:=fun t e'=>match t with
    | .nrm=>∃ s',I s' /\ m s' < m s /\ jB e' (G s')
    | t=>Q t e'
theorem aD {c : dg} {u : Tag (c,Q)} (S : Type) (G : S -> Env) (I : S -> Prop) (m : S -> Nat) (s0 : S) (h0 : I s0) (hw : jB e (G s0))
  (h : ∀ s,I s -> wN C c (oI S G I m s Q) ⟨⟩ (G s)) : rU C c Q u e:=⟨S,G,I,m,s0,h0,hw,h⟩
@[simp] theorem Rf {u} : wN C .skip Q u e=bM Q ⟨⟩ .nrm e:=_root_.id rfl
@[simp] theorem SP {hs keep ops u} : wN C (.reg false hs keep ops) Q u e=tm C (yc keep Q) ops ⟨⟩ e:=_root_.id rfl
@[simp] theorem Rc {hs keep ops u} : wN C (.reg true hs keep ops) Q u e=rf C hs (yc keep Q) ops ⟨⟩ e []:=_root_.id rfl
@[simp] theorem SS {x y u} : wN C (.seq x y) Q u e=wN C x (ym C y Q) ⟨⟩ e:=_root_.id rfl
def brB (b : Bool) (X Y : Prop) (_ : Tag (X,Y)) : Prop:=(b=true -> X) /\ (b=false -> Y)
theorem al {b : Bool} {X Y : Prop} {u} (h1 : b=true -> X) (h2 : b=false -> Y) : brB b X Y u:=⟨h1,h2⟩
@[simp] theorem G9 {X Y : Prop} {u} : brB true X Y u=X:=by simp [brB]
@[simp] theorem DI {X Y : Prop} {u} : brB false X Y u=Y:=by simp [brB]
def cdW (C : CC) (x y : dg) (Q : cd -> Env -> Prop) (_ : Tag (x,y,Q)) (e : Env) (d : D) : Prop:=match d with
 | .bool b=>brB b (wN C x Q ⟨⟩ e) (wN C y Q ⟨⟩ e) ⟨⟩
 | .bb=>wN C x Q ⟨⟩ e /\ wN C y Q ⟨⟩ e
 | _=>False
@[simp] theorem Rj {x y u} : cdW C x y Q u e .bb=(wN C x Q ⟨⟩ e /\ wN C y Q ⟨⟩ e):=_root_.id rfl
@[simp] theorem Ha {x y u b} : cdW C x y Q u e (.bool b)=brB b (wN C x Q ⟨⟩ e) (wN C y Q ⟨⟩ e) ⟨⟩:=_root_.id rfl
@[simp] theorem Rb {c x y u} : wN C (.cond c x y) Q u e=cdW C x y Q ⟨⟩ e (vd (ab e) c):=_root_.id rfl
@[simp] theorem Me {id c u} : wN C (.block id c) Q u e=wN C c (n7 id Q) ⟨⟩ e:=_root_.id rfl
@[simp] theorem Re {c u} : wN C (.loop c) Q u e=rU C c Q ⟨⟩ e:=_root_.id rfl
@[simp] theorem Rd {id u} : wN C (.exit id) Q u e=bM Q ⟨⟩ (.ext id) e:=_root_.id rfl
@[simp] theorem SQ {u} : wN C .ret Q u e=bM Q ⟨⟩ .ret e:=_root_.id rfl
@[simp] theorem xw {y u} : bM (ym C y Q) u .nrm e=wN C y Q ⟨⟩ e:=_root_.id rfl
@[simp] theorem xu {y u i} : bM (ym C y Q) u (.ext i) e=bM Q ⟨⟩ (.ext i) e:=_root_.id rfl
@[simp] theorem xx {y u} : bM (ym C y Q) u .ret e=bM Q ⟨⟩ .ret e:=_root_.id rfl
@[simp] theorem uF {id u} : bM (n7 id Q) u .nrm e=bM Q ⟨⟩ .nrm e:=_root_.id rfl
@[simp] theorem uE {id u i} : bM (n7 id Q) u (.ext i) e=if i=id then bM Q ⟨⟩ .nrm e else bM Q ⟨⟩ (.ext i) e:=_root_.id rfl
@[simp] theorem uG {id u} : bM (n7 id Q) u .ret e=bM Q ⟨⟩ .ret e:=_root_.id rfl
@[simp] theorem xj {r u} : bM (fin r d) u .nrm e=fb r d e:=by simp [bM,fin]
@[simp] theorem xk {r u} : bM (fin r d) u .ret e=fb r d e:=by simp [bM,fin]
@[simp] theorem wI {r d} {u : Tag (sV r d)} : bM (sV r d) u .nrm e=jt r d e:=by simp [bM,sV]
@[simp] theorem wJ {r d} {u : Tag (sV r d)} : bM (sV r d) u .ret e=jt r d e:=by simp [bM,sV]
@[simp] theorem wG {r sz es} {u : Tag (qw r sz es)} : bM (qw r sz es) u .nrm e=ju r sz es e:=by simp [bM,qw]
@[simp] theorem wH {r sz es} {u : Tag (qw r sz es)} : bM (qw r sz es) u .ret e=ju r sz es e:=by simp [bM,qw]
@[simp] theorem wM {r d sz es} {u : Tag (qx r d sz es)} : bM (qx r d sz es) u .nrm e=((0 < es.length /\ ab e 10015=.blk sz es) /\ fb r d ((10015,.any)::e)):=by simp [bM,qx]
@[simp] theorem wO {r d sz es} {u : Tag (qx r d sz es)} : bM (qx r d sz es) u .ret e=((0 < es.length /\ ab e 10015=.blk sz es) /\ fb r d ((10015,.any)::e)):=by simp [bM,qx]
@[simp] theorem wK {r sz es} {u : Tag (sW r sz es)} : bM (sW r sz es) u .nrm e=jv r sz es e:=by simp [bM,sW]
@[simp] theorem wL {r sz es} {u : Tag (sW r sz es)} : bM (sW r sz es) u .ret e=jv r sz es e:=by simp [bM,sW]
@[simp] theorem wE {r d} {u : Tag (qv r d)} : bM (qv r d) u .nrm e=pT r d e:=by simp [bM,qv]
@[simp] theorem wF {r d} {u : Tag (qv r d)} : bM (qv r d) u .ret e=pT r d e:=by simp [bM,qv]
@[simp] theorem uJ {S G I m s u} : bM (oI S G I m s Q) u .nrm e=∃ s',I s' /\ m s' < m s /\ jB e (G s'):=_root_.id rfl
@[simp] theorem uI {S G I m s u i} : bM (oI S G I m s Q) u (.ext i) e=bM Q ⟨⟩ (.ext i) e:=_root_.id rfl
@[simp] theorem uK {S G I m s u} : bM (oI S G I m s Q) u .ret e=bM Q ⟨⟩ .ret e:=_root_.id rfl
end
section
variable {C : CC} {Q : cd -> Env -> Prop} {e : Env} {K : Env -> Prop} {dst : Option Nat} {d : D} {hs : Option (List Nat)} {ns : List ap} {R : List Nat} {acc : List (List Nat × List Nat)} {u : Tag (hs,K,ns)}
@[simp] theorem Lx {keep u} : tm C (yc keep Q) [] u e=bM Q ⟨⟩ .nrm (prune keep e):=_root_.id rfl
@[simp] theorem Lw {h keep u} : rf C h (yc keep Q) [] u e acc=(Iy h acc /\ bM Q ⟨⟩ .nrm (prune keep e)):=_root_.id rfl
@[simp] theorem Gh {dst op ns u} : tm C K (⟨dst,op,none⟩::ns) u e=opW C none K ns dst op ⟨⟩ e [] []:=_root_.id rfl
@[simp] theorem Gf {h dst op ns u} : rf C h K (⟨dst,op,none⟩::ns) u e acc=(chk (ab e) ⟨dst,op,none⟩=true /\ opW C (some h) K ns dst op ⟨⟩ e (iq (ab e) ⟨dst,op,none⟩) acc):=_root_.id rfl
def mT (C : CC) (h : List Nat) (K : Env -> Prop) (ns : List ap) (_ : Tag (h,K,ns)) (e : Env) (dst : Option Nat) (R : List Nat) (acc : List (List Nat × List Nat)) : Prop:=gz e dst fun e'=>jb C h K ns e' ((R,sR dst)::acc)
@[simp] theorem CL {h t ns u} : mT C h K ns u e (some t) R acc=rf C h K ns ⟨⟩ ((t,.tup [])::e) ((R,[4 * t])::acc):=_root_.id rfl
@[simp] theorem CK {h ns u} : mT C h K ns u e none R acc=rf C h K ns ⟨⟩ e ((R,[])::acc):=_root_.id rfl
def gdT (C : CC) (K : Env -> Prop) (ns : List ap) (dst : Option Nat) (op : NOp) (s : Nat) (want : Bool) (_ : Tag (K,ns)) (e : Env) (d : D) : Prop:=match d with
 | .bool b=>(b=want -> opW C none K ns dst op ⟨⟩ ((s,.bool want)::e) [] []) /\ (b=!want -> dW C none K ns dst ⟨⟩ ((s,.bool !want)::e) [] [] (.tup []))
 | .tup []=>dW C none K ns dst ⟨⟩ e [] [] (.tup [])
 | _=>False
@[simp] theorem Ig {op s b u} : gdT C K ns dst op s true u e (.bool b)=brB b (opW C none K ns dst op ⟨⟩ ((s,.bool true)::e) [] []) (dW C none K ns dst ⟨⟩ ((s,.bool false)::e) [] [] (.tup [])) ⟨⟩:=_root_.id rfl
@[simp] theorem EB {op s b u} : gdT C K ns dst op s false u e (.bool b)=brB b (dW C none K ns dst ⟨⟩ ((s,.bool true)::e) [] [] (.tup [])) (opW C none K ns dst op ⟨⟩ ((s,.bool false)::e) [] []) ⟨⟩:=by
 simp only [gdT,brB,Bool.not_false];exact propext ⟨fun h=>⟨h.2,h.1⟩,fun h=>⟨h.2,h.1⟩⟩
@[simp] theorem If {op s want u} : gdT C K ns dst op s want u e (.tup [])=dW C none K ns dst ⟨⟩ e [] [] (.tup []):=_root_.id rfl
@[simp] theorem Gi {dst op s want ns u} : tm C K (⟨dst,op,some (s,want)⟩::ns) u e=gdT C K ns dst op s want ⟨⟩ e (ab e s):=by
 simp only [tm,gV,opW,qb,gz,gdT,dW,cJ,kOf,zX,dJ]
 cases ab e s <;> cases dst <;> (first | rfl | (rename_i x _ ;cases x <;> rfl) | (rename_i x;cases x <;> rfl))
def gdD (C : CC) (h : List Nat) (K : Env -> Prop) (ns : List ap) (dst : Option Nat) (op : NOp) (want : Bool) (_ : Tag (K,ns)) (e : Env) (R : List Nat) (acc : List (List Nat × List Nat)) (d : D) : Prop:=match d with
 | .bool b=>(b=want -> opW C (some h) K ns dst op ⟨⟩ e R acc) /\ (b=!want -> mT C h K ns ⟨⟩ e dst R acc)
 | .tup []=>mT C h K ns ⟨⟩ e dst R acc
 | _=>False
@[simp] theorem Ie {h op b u} : gdD C h K ns dst op true u e R acc (.bool b)=brB b (opW C (some h) K ns dst op ⟨⟩ e R acc) (mT C h K ns ⟨⟩ e dst R acc) ⟨⟩:=_root_.id rfl
@[simp] theorem EA {h op b u} : gdD C h K ns dst op false u e R acc (.bool b)=brB b (mT C h K ns ⟨⟩ e dst R acc) (opW C (some h) K ns dst op ⟨⟩ e R acc) ⟨⟩:=by
 simp only [gdD,brB,Bool.not_false];exact propext ⟨fun h=>⟨h.2,h.1⟩,fun h=>⟨h.2,h.1⟩⟩
@[simp] theorem Id {h op want u} : gdD C h K ns dst op want u e R acc (.tup [])=mT C h K ns ⟨⟩ e dst R acc:=_root_.id rfl
@[simp] theorem Gg {h dst op s want ns u} : rf C h K (⟨dst,op,some (s,want)⟩::ns) u e acc=(chk (ab e) ⟨dst,op,some (s,want)⟩=true /\ gdD C h K ns dst op want ⟨⟩ e (iq (ab e) ⟨dst,op,some (s,want)⟩) acc (ab e s)):=_root_.id rfl
@[simp] theorem Hq {K ns u ws ks} : doW C none K ns u e R acc ws ks=tm C K ns ⟨⟩ (ws++dJ ks e):=_root_.id rfl
@[simp] theorem Hp {h K ns u ws ks} : doW C (some h) K ns u e R acc ws ks=(wOk R ws ks=true /\ rf C h K ns ⟨⟩ (ws++dJ ks e) ((R,wrK ws ks)::acc)):=_root_.id rfl
@[simp] theorem My {t} : dW C hs K ns (some t) u e R acc d=doW C hs K ns ⟨⟩ e R acc [(t,d)] []:=_root_.id rfl
@[simp] theorem Mx : dW C hs K ns none u e R acc d=doW C hs K ns ⟨⟩ e R acc [] []:=_root_.id rfl
def aK (ks : List (Nat × Bool)) (d : D) : D:=if aw ks d then .any else d
theorem bF (ks : List (Nat × Bool)) (d : D) : aK ks d=bif aw ks d then .any else d:=by
 unfold aK;cases aw ks d <;> rfl
@[simp] theorem FE : dJ [] e=e:=_root_.id rfl
@[simp] theorem FD {k ks} : dJ (k::ks) []=[]:=_root_.id rfl
@[simp] theorem BT {k ks s d} : dJ (k::ks) ((s,d)::e)=(s,aK (k::ks) d)::dJ (k::ks) e:=_root_.id rfl
@[simp] theorem Fj {ks} : aK ks .any=.any:=by simp [aK]
@[simp] theorem Fr {ks k n} : aK ks (.int k n)=.int k n:=by simp [aK,aw,cw,ay]
@[simp] theorem BQ {ks n} : aK ks (.bool n)=.bool n:=by simp [aK,aw,cw,ay]
@[simp] theorem FA {ks n} : aK ks (.str n)=.str n:=by simp [aK,aw,cw,ay]
@[simp] theorem Ka {ks} : aK ks .bb=.bb:=by simp [aK,aw,cw,ay]
@[simp] theorem BR {ks} : aK ks .nilp=.nilp:=by simp [aK,aw,cw,ay]
@[simp] theorem BS {ks} : aK ks .nils=.nils:=by simp [aK,aw,cw,ay]
@[simp] theorem Fh {ks n} : aK ks (.agg n)=.agg n:=by simp [aK,aw,cw,ay]
@[simp] theorem FC {ks n} : aK ks (.tup n)=.tup n:=by simp [aK,aw,cw,ay]
@[simp] theorem Kd {ks n} : aK ks (.sl n)=.sl n:=by simp [aK,aw,cw,ay]
@[simp] theorem Fu {ks n} : aK ks (.ptr n)=.ptr n:=by simp [aK,aw,cw,ay]
@[simp] theorem Kb {ks g n} : aK ks (.fn g n)=.fn g n:=by simp [aK,aw,cw,ay]
@[simp] theorem Fk {ks g n} : aK ks (.blk g n)=.blk g n:=by simp [aK,aw,cw,ay]
@[simp] theorem Kc {ks kt et xs vs} : aK ks (.mp kt et xs vs)=.mp kt et xs vs:=by simp [aK,aw,cw,ay]
@[simp] theorem Fw {b all ks p k n} : aK ((b,all)::ks) (.ref p k n)=if bj b all p then .any else aK ks (.ref p k n):=by
 have h : aK ((b,all)::ks) (.ref p k n)=bif (bj b all p || aw ks (.ref p k n)) then .any else .ref p k n:=bF ..
 rw [h,bF]
 cases bj b all p <;> rfl
@[simp] theorem Fg {b all ks p k n} : aK ((b,all)::ks) (.adr p k n)=if bj b all p then .any else aK ks (.adr p k n):=by
 have h : aK ((b,all)::ks) (.adr p k n)=bif (bj b all p || aw ks (.adr p k n)) then .any else .adr p k n:=bF ..
 rw [h,bF]
 cases bj b all p <;> rfl
@[simp] theorem Fi {b all ks n} : aK ((b,all)::ks) (.agx n)=if n.any (ay b all) then .any else aK ks (.agx n):=by
 have h : aK ((b,all)::ks) (.agx n)=bif (n.any (ay b all) || aw ks (.agx n)) then .any else .agx n:=bF ..
 rw [h,bF]
 cases n.any (ay b all) <;> rfl
@[simp] theorem Fm {b all ks g n} : aK ((b,all)::ks) (.fnx g n)=if n.any (ay b all) then .any else aK ks (.fnx g n):=by
 have h : aK ((b,all)::ks) (.fnx g n)=bif (n.any (ay b all) || aw ks (.fnx g n)) then .any else .fnx g n:=bF ..
 rw [h,bF]
 cases n.any (ay b all) <;> rfl
@[simp] theorem Fq {ks T n} : aK ks (.ifi T n)=.ifi T n:=by simp [aK,aw,cw,ay]
@[simp] theorem Fy {ks q n} : aK ks (.slv q n)=.slv q n:=by simp [aK,aw,cw,ay]
@[simp] theorem Fp {b all ks T p k n} : aK ((b,all)::ks) (.ifa T p k n)=if bj b all p then .any else aK ks (.ifa T p k n):=by
 have h : aK ((b,all)::ks) (.ifa T p k n)=bif (bj b all p || aw ks (.ifa T p k n)) then .any else .ifa T p k n:=bF ..
 rw [h,bF]
 cases bj b all p <;> rfl
@[simp] theorem Fn {b all ks g ds cs} : aK ((b,all)::ks) (.fny g ds cs)=if ds.any (ay b all) || cs.any (ay b all) then .any else aK ks (.fny g ds cs):=by
 have h : aK ((b,all)::ks) (.fny g ds cs)=bif ((ds.any (ay b all) || cs.any (ay b all)) || aw ks (.fny g ds cs)) then .any else .fny g ds cs:=bF ..
 rw [h,bF]
 cases ds.any (ay b all) <;> cases cs.any (ay b all) <;> rfl
@[simp] theorem Ft {d} : aK [] d=d:=by simp [aK,aw]
@[simp] theorem Fz {ks b es} : aK ks (slx b es)=slx b es:=by cases b <;> cases es <;> simp [slx]
def hG (C : CC) (hs : Option (List Nat)) (K : Env -> Prop) (ns : List ap) (dst : Option Nat) (_ : Tag (hs,K,ns)) (e : Env) (R : List Nat) (acc : List (List Nat × List Nat)) (sz : Nat) (es : List (List D)) (i : Nat) : Prop :=
 ∃ c,es[i]? = some c /\ c.length=sz /\ cJ dst (kOf C hs K ns e R acc) (.ptr c)
@[simp] theorem Iw {α : Type} [Inhabited α] {sz : Nat} {xs : List α} {f : α -> List D} {i : Nat} : hG C hs K ns dst u e R acc sz (xs.map f) i=(i < xs.length /\ (f xs[i]!).length=sz /\ dW C hs K ns dst ⟨⟩ e R acc (.ptr (f xs[i]!))):=by
 apply propext
 unfold hG dW
 constructor
 ·rintro ⟨c,h,h1,h2⟩
  rw [List.getElem?_map,Option.map_eq_some_iff] at h
  obtain ⟨x,hx,rfl⟩:=h
  obtain ⟨hi,rfl⟩:=List.getElem?_eq_some_iff.1 hx
  rw [getElem!_pos xs i hi]
  exact ⟨hi,h1,h2⟩
 ·rintro ⟨hi,h1,h2⟩
  rw [getElem!_pos xs i hi] at h1 h2
  exact ⟨_,by rw [List.getElem?_map,List.getElem?_eq_getElem hi];rfl,h1,h2⟩
def A4 (C : CC) (hs : Option (List Nat)) (K : Env -> Prop) (ns : List ap) (dst : Option Nat) (_ : Tag (hs,K,ns)) (e : Env) (R : List Nat) (acc : List (List Nat × List Nat)) (s : List UInt8) (i : Nat) : Prop :=
 ∃ b,s[i]? = some b /\ cJ dst (kOf C hs K ns e R acc) (.int .u8 b.toNat)
@[simp] theorem Mt {s : List UInt8} {i : Nat} : A4 C hs K ns dst u e R acc s i=(i < s.length /\ dW C hs K ns dst ⟨⟩ e R acc (.int .u8 (s[i]!).toNat)):=by
 apply propext
 unfold A4 dW
 constructor
 ·rintro ⟨b,h,h2⟩
  obtain ⟨hi,rfl⟩:=List.getElem?_eq_some_iff.1 h
  rw [getElem!_pos s i hi]
  exact ⟨hi,h2⟩
 ·rintro ⟨hi,h2⟩
  rw [getElem!_pos s i hi] at h2
  exact ⟨_,List.getElem?_eq_getElem hi,h2⟩
def kL (C : CC) (hs : Option (List Nat)) (K : Env -> Prop) (ns : List ap) (dst : Option Nat) (_ : Tag (hs,K,ns)) (e : Env) (R : List Nat) (acc : List (List Nat × List Nat)) (n : Nat) (ag : Bool) (p : Pa) (es : List (List D)) (i off : Nat) : Prop :=
 ∃ r,es[i]? = some r /\ off + n <= r.length /\ match ag with
    | true=>(((r.drop off).take n).all isV=true -> cJ dst (kOf C hs K ns e R acc) (.agg ((r.drop off).take n))) /\
      (((r.drop off).take n).all isV=false -> cJ dst (kOf C hs K ns e R acc) (.agx (((r.drop off).take n).mapIdx fun j c=>ldc p i (off + j) c)))
    | false=>cJ dst (kOf C hs K ns e R acc) (ldc p i off ((r.drop off).headD .any))
theorem se {n : Nat} {ag : Bool} {p : Pa} {es : List (List D)} {i off : Nat} {r : List D} (hr : es[i]? = some r) (hl : off + n <= r.length) (hk : match ag with
    | true=>(((r.drop off).take n).all isV=true -> dW C hs K ns dst ⟨⟩ e R acc (.agg ((r.drop off).take n))) /\
      (((r.drop off).take n).all isV=false -> dW C hs K ns dst ⟨⟩ e R acc (.agx (((r.drop off).take n).mapIdx fun j c=>ldc p i (off + j) c)))
    | false=>dW C hs K ns dst ⟨⟩ e R acc (ldc p i off ((r.drop off).headD .any))) : kL C hs K ns dst u e R acc n ag p es i off:=by
 refine ⟨r,hr,hl,?_⟩
 cases ag <;> exact hk
@[simp] theorem LN {n : Nat} {ag : Bool} {p : Pa} {r : List D} {off : Nat} : kL C hs K ns dst u e R acc n ag p [r] 0 off=(off + n <= r.length /\ match ag with
    | true=>(((r.drop off).take n).all isV=true -> dW C hs K ns dst ⟨⟩ e R acc (.agg ((r.drop off).take n))) /\
      (((r.drop off).take n).all isV=false -> dW C hs K ns dst ⟨⟩ e R acc (.agx (((r.drop off).take n).mapIdx fun j c=>ldc p 0 (off + j) c)))
    | false=>dW C hs K ns dst ⟨⟩ e R acc (ldc p 0 off ((r.drop off).headD .any))):=by
 apply propext
 constructor
 ·rintro ⟨r',h1,h2,h3⟩
  simp at h1;subst h1
  refine ⟨h2,?_⟩
  cases ag <;> exact h3
 ·rintro ⟨h2,h3⟩
  refine ⟨r,rfl,h2,?_⟩
  cases ag <;> exact h3
end
section
variable {C : CC} {Q : cd -> Env -> Prop} {e : Env} {K : Env -> Prop} {dst : Option Nat} {hs : Option (List Nat)} {ns : List ap} {R : List Nat} {acc : List (List Nat × List Nat)} {u : Tag (hs,K,ns)}
@[simp] theorem QR {x v1} : opW C hs K ns dst (.mov x) v1 e R acc=(isS (vd (ab e) x)=true /\ dW C hs K ns dst ⟨⟩ e R acc (vd (ab e) x)):=_root_.id rfl
@[simp] theorem QU {x v1} : opW C hs K ns dst (.nck x) v1 e R acc=(match (generalizing:=false) vd (ab e) x with
  | .ptr ds=>dW C hs K ns dst ⟨⟩ e R acc (.ptr ds)
  | .adr p i off=>dW C hs K ns dst ⟨⟩ e R acc (.adr p i off)
  | .ptx ds=>dW C hs K ns dst ⟨⟩ e R acc (.ptx ds)
  | _=>False):=_root_.id rfl
@[simp] theorem Lv {c a b v1} : opW C hs K ns dst (.pick c a b) v1 e R acc=(match (generalizing:=false) vd (ab e) c with
  | .bool v=>(v=true -> isS (vd (ab e) a)=true /\ dW C hs K ns dst ⟨⟩ e R acc (vd (ab e) a)) /\ (v=false -> isS (vd (ab e) b)=true /\ dW C hs K ns dst ⟨⟩ e R acc (vd (ab e) b))
  | _=>False):=_root_.id rfl
@[simp] theorem Qy {op x y v1} : opW C hs K ns dst (.bin op x y) v1 e R acc=(match (generalizing:=false) vd (ab e) x,vd (ab e) y with
  | .int k a,.int k' b=>match (generalizing:=false) op with
   | .add=>k=k' /\ dW C hs K ns dst ⟨⟩ e R acc (.int k (k.wrap (a + b)))
   | .sub=>k=k' /\ dW C hs K ns dst ⟨⟩ e R acc (.int k (k.wrap (a - b)))
   | .mul=>k=k' /\ dW C hs K ns dst ⟨⟩ e R acc (.int k (k.wrap (a * b)))
   | .quo=>k=k' /\ b ≠ 0 /\ dW C hs K ns dst ⟨⟩ e R acc (.int k (k.wrap (a.tdiv b)))
   | .rem=>k=k' /\ b ≠ 0 /\ dW C hs K ns dst ⟨⟩ e R acc (.int k (a.tmod b))
   | .and=>k=k' /\ dW C hs K ns dst ⟨⟩ e R acc (.int k (bits .and k a b))
   | .or=>k=k' /\ dW C hs K ns dst ⟨⟩ e R acc (.int k (bits .or k a b))
   | .xor=>k=k' /\ dW C hs K ns dst ⟨⟩ e R acc (.int k (bits .xor k a b))
   | .andNot=>k=k' /\ dW C hs K ns dst ⟨⟩ e R acc (.int k (bits .andNot k a b))
   | .shl=>0 <= b /\ dW C hs K ns dst ⟨⟩ e R acc (.int k (k.wrap (a * 2 ^ (min b.toNat k.bits))))
   | .shr=>0 <= b /\ dW C hs K ns dst ⟨⟩ e R acc (.int k (a.fdiv (2 ^ (min b.toNat k.bits))))
   | .eql=>k=k' /\ dW C hs K ns dst ⟨⟩ e R acc (.bool (decide (a=b)))
   | .neq=>k=k' /\ dW C hs K ns dst ⟨⟩ e R acc (.bool (!decide (a=b)))
   | .lss=>k=k' /\ dW C hs K ns dst ⟨⟩ e R acc (.bool (decide (a < b)))
   | .leq=>k=k' /\ dW C hs K ns dst ⟨⟩ e R acc (.bool (decide (a <= b)))
   | .gtr=>k=k' /\ dW C hs K ns dst ⟨⟩ e R acc (.bool (decide (b < a)))
   | .geq=>k=k' /\ dW C hs K ns dst ⟨⟩ e R acc (.bool (decide (b <= a)))
  | .str a,.str b=>match (generalizing:=false) op with
   | .eql=>dW C hs K ns dst ⟨⟩ e R acc (.bool (decide (a=b)))
   | .neq=>dW C hs K ns dst ⟨⟩ e R acc (.bool (!decide (a=b)))
   | .add=>((a++b).length : Int) <= 9223372036854775807 /\ dW C hs K ns dst ⟨⟩ e R acc (.str (a++b))
   | .lss=>dW C hs K ns dst ⟨⟩ e R acc (.bool (Op.bytesLess a b))
   | .leq=>dW C hs K ns dst ⟨⟩ e R acc (.bool (Op.bytesLess a b || a == b))
   | .gtr=>dW C hs K ns dst ⟨⟩ e R acc (.bool !(Op.bytesLess a b || a == b))
   | .geq=>dW C hs K ns dst ⟨⟩ e R acc (.bool !(Op.bytesLess a b))
   | _=>False
  | _,_=>False):=_root_.id rfl
@[simp] theorem SF {op x v1} : opW C hs K ns dst (.un op x) v1 e R acc=(match (generalizing:=false) vd (ab e) x with
  | .bool b=>match (generalizing:=false) op with
   | .not=>dW C hs K ns dst ⟨⟩ e R acc (.bool (!b))
   | _=>False
  | .int k n=>match (generalizing:=false) op with
   | .neg=>dW C hs K ns dst ⟨⟩ e R acc (.int k (k.wrap (0 - n)))
   | _=>False
  | _=>False):=_root_.id rfl
@[simp] theorem Lo {k x v1} : opW C hs K ns dst (.conv k x) v1 e R acc=(match (generalizing:=false) vd (ab e) x with
  | .int _ n=>dW C hs K ns dst ⟨⟩ e R acc (.int k (k.wrap n))
  | _=>False):=_root_.id rfl
@[simp] theorem Qx {neg ks x y v1} : opW C hs K ns dst (.beq neg ks x y) v1 e R acc=(match (generalizing:=false) vd (ab e) x,vd (ab e) y with
  | .bool a,.bool b=>ks=[] /\ dW C hs K ns dst ⟨⟩ e R acc (.bool ((a == b) != neg))
  | .agg a,.agg b=>ks ≠ [] /\ match (generalizing:=false) b9 ks a b with
   | some r=>dW C hs K ns dst ⟨⟩ e R acc (.bool (r != neg))
   | none=>False
  | .nils,.nils=>ks=[9] /\ dW C hs K ns dst ⟨⟩ e R acc (.bool (!neg))
  | .sl es,.nils=>ks=[9] /\ (0 < es.length -> dW C hs K ns dst ⟨⟩ e R acc (.bool neg)) /\ (es.length=0 -> dW C hs K ns dst ⟨⟩ e R acc .bb)
  | .nilp,.nilp=>ks=[8] /\ dW C hs K ns dst ⟨⟩ e R acc (.bool (!neg))
  | .ptr _,.nilp=>ks=[8] /\ dW C hs K ns dst ⟨⟩ e R acc (.bool neg)
  | _,_=>False):=_root_.id rfl
@[simp] theorem QH {off n ag x v1} : opW C hs K ns dst (.fld off n ag x) v1 e R acc=(match (generalizing:=false) vd (ab e) x with
  | .agg ds=>off + n <= ds.length /\ dW C hs K ns dst ⟨⟩ e R acc (lB ag n (ds.drop off))
  | .agx ds=>off + n <= ds.length /\ match (generalizing:=false) ag with
   | true=>dW C hs K ns dst ⟨⟩ e R acc (.agx ((ds.drop off).take n))
   | false=>dW C hs K ns dst ⟨⟩ e R acc ((ds.drop off).headD .any)
  | _=>False):=_root_.id rfl
@[simp] theorem Lr {len sz ag x i v1} : opW C hs K ns dst (.idxA len sz ag x i) v1 e R acc=(match (generalizing:=false) vd (ab e) x,vd (ab e) i with
  | .agg ds,.int _ j=>0 <= j /\ j < len /\ j.toNat * sz + sz <= ds.length /\ dW C hs K ns dst ⟨⟩ e R acc (lB ag sz (ds.drop (j.toNat * sz)))
  | .agx ds,.int _ j=>0 <= j /\ j < len /\ j.toNat * sz + sz <= ds.length /\ match (generalizing:=false) ag with
   | true=>dW C hs K ns dst ⟨⟩ e R acc (.agx ((ds.drop (j.toNat * sz)).take sz))
   | false=>dW C hs K ns dst ⟨⟩ e R acc ((ds.drop (j.toNat * sz)).headD .any)
  | _,_=>False):=_root_.id rfl
@[simp] theorem QV {len sz x v1} : opW C hs K ns dst (.slA len sz x) v1 e R acc=(match (generalizing:=false) vd (ab e) x with
  | .ptr ds=>0 < len /\ 0 < sz /\ len * sz <= ds.length /\ dW C hs K ns dst ⟨⟩ e R acc (.sl (bT sz len ds))
  | _=>False):=_root_.id rfl
@[simp] theorem QE {x v1} : opW C hs K ns dst (.cvS x) v1 e R acc=(match (generalizing:=false) vd (ab e) x with
  | .sl es=>0 < es.length /\ (∀ r ∈ es,∃ n : Nat,r=[.int .u8 n] /\ n < 256) /\ dW C hs K ns dst ⟨⟩ e R acc (.str (es.map jf))
  | _=>False):=_root_.id rfl
@[simp] theorem Ls {x i v1} : opW C hs K ns dst (.idxS x i) v1 e R acc=(match (generalizing:=false) vd (ab e) x,vd (ab e) i with
  | .str s,.int _ j=>0 <= j /\ A4 C hs K ns dst ⟨⟩ e R acc s j.toNat
  | _,_=>False):=_root_.id rfl
@[simp] theorem QF {i x v1} : opW C hs K ns dst (.ext i x) v1 e R acc=(match (generalizing:=false) vd (ab e) x with
  | .tup ds=>∃ d,ds[i]? = some d /\ dW C hs K ns dst ⟨⟩ e R acc d
  | .tpx ds=>∃ d,ds[i]? = some d /\ dW C hs K ns dst ⟨⟩ e R acc d
  | _=>False):=_root_.id rfl
@[simp] theorem QG {off x v1} : opW C hs K ns dst (.fad off x) v1 e R acc=(match (generalizing:=false) vd (ab e) x with
  | .adr p i o=>dW C hs K ns dst ⟨⟩ e R acc (.adr p i (o + off))
  | .ptr ds=>dW C hs K ns dst ⟨⟩ e R acc (.ptr (ds.drop off))
  | .ptx ds=>dW C hs K ns dst ⟨⟩ e R acc (.ptx (ds.drop off))
  | _=>False):=_root_.id rfl
@[simp] theorem Lp {len sz x i v1} : opW C hs K ns dst (.iadA len sz x i) v1 e R acc=(match (generalizing:=false) vd (ab e) x,vd (ab e) i with
  | .adr p r o,.int _ j=>0 <= j /\ j < len /\ dW C hs K ns dst ⟨⟩ e R acc (.adr p r (o + j.toNat * sz))
  | .ptr ds,.int _ j=>0 <= j /\ j < len /\ dW C hs K ns dst ⟨⟩ e R acc (.ptr (ds.drop (j.toNat * sz)))
  | _,_=>False):=_root_.id rfl
@[simp] theorem SA {n ag x v1} : opW C hs K ns dst (.ld n ag x) v1 e R acc=(match (generalizing:=false) vd (ab e) x with
  | .adr p i off=>match (generalizing:=false) aO (ab e) p with
   | some (_,es)=>kL C hs K ns dst ⟨⟩ e R acc n ag p es i off
   | none=>False
  | .ptr ds=>n <= ds.length /\ dW C hs K ns dst ⟨⟩ e R acc (lB ag n ds)
  | .ptx ds=>n <= ds.length /\ match (generalizing:=false) ag with
   | true=>((ds.take n).all isV=true -> dW C hs K ns dst ⟨⟩ e R acc (.agg (ds.take n))) /\ ((ds.take n).all isV=false -> dW C hs K ns dst ⟨⟩ e R acc (.agx (ds.take n)))
   | false=>0 < n /\ dW C hs K ns dst ⟨⟩ e R acc (ds.headD .any)
  | _=>False):=_root_.id rfl
@[simp] theorem Qz {zs parts v1} : opW C hs K ns dst (.bld zs parts) v1 e R acc=((∀ p ∈ parts,isS (vd (ab e) p.2.2)=true /\ p.1 + p.2.1 <= zs.length /\ match (generalizing:=false) vd (ab e) p.2.2 with
    | .agg ds=>ds.length=p.2.1
    | .agx ds=>ds.length=p.2.1
    | .any=>False
    | .tpx _=>False
    | .ptx _=>False
    | .rfx _ _ _=>False
    | .fny _ _ _=>False
    | .fnx _ _=>False
    | _=>p.2.1=1) /\
   ((parts.all fun p=>isV (vd (ab e) p.2.2))=true -> dW C hs K ns dst ⟨⟩ e R acc (.agg (ir zs (parts.map fun p=>(p.1,p.2.1,vd (ab e) p.2.2))))) /\
   ((parts.all fun p=>isV (vd (ab e) p.2.2))=false -> dW C hs K ns dst ⟨⟩ e R acc (.agx (ir zs (parts.map fun p=>(p.1,p.2.1,bN (vd (ab e) p.2.2))))))):=_root_.id rfl
@[simp] theorem Lt {x v1} : opW C hs K ns dst (.lens x) v1 e R acc=(match (generalizing:=false) vd (ab e) x with
  | .str s=>dW C hs K ns dst ⟨⟩ e R acc (.int .i64 s.length)
  | _=>False):=_root_.id rfl
@[simp] theorem SB {g xs v1} : opW C hs K ns dst (.mk g xs) v1 e R acc=((∀ x ∈ xs,isP (vd (ab e) x)=true) /\ ((xs.all fun x=>isV (vd (ab e) x))=true -> dW C hs K ns dst ⟨⟩ e R acc (.fn g (xs.map (vd (ab e))))) /\ ((xs.all fun x=>isV (vd (ab e) x))=false -> dW C hs K ns dst ⟨⟩ e R acc (.fnx g (xs.map (vd (ab e)))))):=_root_.id rfl
@[simp] theorem QX {x lo hi v1} : opW C hs K ns dst (.slS x lo hi) v1 e R acc=(match (generalizing:=false) vd (ab e) x with
  | .str s=>df (ab e) hi s.length (fun h=>df (ab e) lo 0 (fun l=>l <= h /\ h <= s.length /\ dW C hs K ns dst ⟨⟩ e R acc (.str ((s.take h).drop l))) ⟨⟩) ⟨⟩
  | _=>False):=_root_.id rfl
@[simp] theorem SC {x y v1} : opW C hs K ns dst (.mn x y) v1 e R acc=(match (generalizing:=false) vd (ab e) x,vd (ab e) y with
  | .int k a,.int k' b=>k=k' /\ dW C hs K ns dst ⟨⟩ e R acc (.int k (if b < a then b else a))
  | _,_=>False):=_root_.id rfl
@[simp] theorem SD {x y v1} : opW C hs K ns dst (.mx x y) v1 e R acc=(match (generalizing:=false) vd (ab e) x,vd (ab e) y with
  | .int k a,.int k' b=>k=k' /\ dW C hs K ns dst ⟨⟩ e R acc (.int k (if a < b then b else a))
  | _,_=>False):=_root_.id rfl
@[simp] theorem FZ {x y c v1} : opW C hs K ns dst (.add64 x y c) v1 e R acc=(match (generalizing:=false) vd (ab e) x,vd (ab e) y,vd (ab e) c with
  | .int .u64 a,.int .u64 b,.int .u64 k=>0 <= a /\ a < 18446744073709551616 /\ 0 <= b /\ b < 18446744073709551616 /\ 0 <= k /\ k <= 1 /\
    dW C hs K ns dst ⟨⟩ e R acc (.tup [.int .u64 ((a + b + k) % 18446744073709551616),.int .u64 ((a + b + k) / 18446744073709551616)])
  | _,_,_=>False):=_root_.id rfl
@[simp] theorem Ge {x y c v1} : opW C hs K ns dst (.sub64 x y c) v1 e R acc=(match (generalizing:=false) vd (ab e) x,vd (ab e) y,vd (ab e) c with
  | .int .u64 a,.int .u64 b,.int .u64 k=>0 <= a /\ a < 18446744073709551616 /\ 0 <= b /\ b < 18446744073709551616 /\ 0 <= k /\ k <= 1 /\
    dW C hs K ns dst ⟨⟩ e R acc (.tup [.int .u64 ((a - b - k) % 18446744073709551616),.int .u64 (if a < b + k then 1 else 0)])
  | _,_,_=>False):=_root_.id rfl
@[simp] theorem Lu {sz v1} : opW C hs K ns dst (.nilo sz) v1 e R acc=(match (generalizing:=false) dst with
  | some t=>0 < sz /\ doW C hs K ns ⟨⟩ e R acc [(t,.ref (.r (rt t 0)) 0 0),(rt t 0,.blk sz [])] [(rt t 0,true)]
  | none=>False):=_root_.id rfl
@[simp] theorem QB {x t v1} : opW C hs K ns (some t) (.box [] x) v1 e R acc=gc (ab e) (vd (ab e) x) [] (fun cs bs=>bs.contains (rt t 0)=false /\ doW C hs K ns ⟨⟩ e R acc ((t,.adr (.r (rt t 0)) 0 0)::(rt t 0,.blk cs.length [cs])::bQ bs) [(rt t 0,true)]) ⟨⟩:=_root_.id rfl
@[simp] theorem Qu {zs v1} : opW C hs K ns dst (.alc zs) v1 e R acc=(match (generalizing:=false) dst with
  | some t=>doW C hs K ns ⟨⟩ e R acc [(t,.adr (.r (rt t 0)) 0 0),(rt t 0,.blk zs.length [zs])] [(rt t 0,true)]
  | none=>False):=_root_.id rfl
@[simp] theorem QA {sz len zs parts t v1} : opW C hs K ns (some t) (.bls sz len zs [] parts) v1 e R acc=oD (ab e) sz parts (List.replicate len zs) [] (fun es bs=>bH bs=true /\ bs.contains (rt t 0)=false /\ doW C hs K ns ⟨⟩ e R acc ((t,.ref (.r (rt t 0)) 0 len)::(rt t 0,.blk sz es)::bQ bs) [(rt t 0,true)]) ⟨⟩:=_root_.id rfl
@[simp] theorem QQ {sz by_ zs n c v1} : opW C hs K ns dst (.mks sz by_ zs n c) v1 e R acc=(match (generalizing:=false) dst with
  | some t=>match (generalizing:=false) vd (ab e) n,vd (ab e) c with
   | .int _ n,.int _ c=>0 <= n /\ n <= c /\ c * by_ <= 140737488355328 /\ doW C hs K ns ⟨⟩ e R acc [(t,.ref (.r (rt t 0)) 0 n.toNat),(rt t 0,.blk sz (List.replicate c.toNat zs))] [(rt t 0,true)]
   | _,_=>False
  | none=>False):=_root_.id rfl
def stM (C : CC) (hs : Option (List Nat)) (K : Env -> Prop) (ns : List ap) (_ : Tag (hs,K,ns)) (e : Env) (R : List Nat) (acc : List (List Nat × List Nat)) (n : Nat) (v : D) (cs : List D) (bs : List Nat) (a : D) : Prop:=match a with
 | .adr (.r b) i off=>bs.contains b=false /\ cI (ab e b) (fun sz es=>f8 es[i]? (fun r=>off + n <= r.length /\ doW C hs K ns ⟨⟩ e R acc ((b,.blk sz (a7 es i off n cs))::bQ bs) (stK v [] b)) ⟨⟩) ⟨⟩
 | .adr (.n b i0 o0) i off=>bs=[] /\ (∀ c ∈ cs,au c=true) /\ cI (ab e b) (fun sz0 es0=>f8 es0[i0]? (fun row0=>jr row0[o0]? (fun sz es=>f8 es[i]? (fun r=>off + n <= r.length /\ doW C hs K ns ⟨⟩ e R acc [(b,.blk sz0 (a7 es0 i0 o0 1 [.own sz (a7 es i off n cs)]))] []) ⟨⟩) ⟨⟩) ⟨⟩) ⟨⟩
 | _=>False
@[simp] theorem S6 {n v cs bs b i off} : stM C hs K ns u e R acc n v cs bs (.adr (.r b) i off)=(bs.contains b=false /\ cI (ab e b) (fun sz es=>f8 es[i]? (fun r=>off + n <= r.length /\ doW C hs K ns ⟨⟩ e R acc ((b,.blk sz (a7 es i off n cs))::bQ bs) (stK v [] b)) ⟨⟩) ⟨⟩):=_root_.id rfl
@[simp] theorem S5 {n v cs bs b i0 o0 i off} : stM C hs K ns u e R acc n v cs bs (.adr (.n b i0 o0) i off)=(bs=[] /\ (∀ c ∈ cs,au c=true) /\ cI (ab e b) (fun sz0 es0=>f8 es0[i0]? (fun row0=>jr row0[o0]? (fun sz es=>f8 es[i]? (fun r=>off + n <= r.length /\ doW C hs K ns ⟨⟩ e R acc [(b,.blk sz0 (a7 es0 i0 o0 1 [.own sz (a7 es i off n cs)]))] []) ⟨⟩) ⟨⟩) ⟨⟩) ⟨⟩):=_root_.id rfl
@[simp] theorem SE {n a v v1} : opW C hs K ns dst (.st n [] a v) v1 e R acc=(dst=none /\ gc (ab e) (vd (ab e) v) [] (fun cs bs=>cs.length=n /\ stM C hs K ns ⟨⟩ e R acc n (vd (ab e) v) cs bs (vd (ab e) a)) ⟨⟩):=by
 show (dst=none /\ fu (ab e) (vd (ab e) v) [] _)=(dst=none /\ fu (ab e) (vd (ab e) v) [] _)
 congr 1
 congr 1
 funext cs bs
 cases vd (ab e) a <;> try rfl
 rename_i p i off
 cases p with
 | r b =>
  simp only [stM,cI,fg]
  cases ab e b <;> rfl
 | n b i0 o0 =>
  simp only [stM,cI,fg,iU]
  cases ab e b <;> rfl
def sF (C : CC) (hs : Option (List Nat)) (K : Env -> Prop) (ns : List ap) (_ : Tag (hs,K,ns)) (e : Env) (R : List Nat) (acc : List (List Nat × List Nat)) (t sz by_ : Nat) (rowsY : List (List D)) (bs : List Nat) (x : D) : Prop:=match x with
 | .nils=>rowsY.length * by_ <= 140737488355328 /\ doW C hs K ns ⟨⟩ e R acc ((t,.ref (.r (rt t 0)) 0 rowsY.length)::(rt t 0,.blk sz rowsY)::bQ bs) [(rt t 0,true)]
 | .ref (.r c) k n=>c ≠ rt t 0 /\ bs.contains c=false /\ cI (ab e c) (fun sz' es=>sz'=sz /\ k + n <= es.length /\ (n + rowsY.length) * by_ <= 140737488355328 /\
      doW C hs K ns ⟨⟩ e R acc ((t,.ref (.r (rt t 0)) 0 (n + rowsY.length))::(rt t 0,.blk sz ((es.drop k).take n++rowsY))::(c,.any)::bQ bs) [(rt t 0,true)]) ⟨⟩
 | .ref (.n c i o) k n=>c ≠ rt t 0 /\ bs.contains c=false /\ cI (ab e c) (fun sz0 es0=>f8 es0[i]? (fun row0=>jr row0[o]? (fun sz' es=>sz'=sz /\ k + n <= es.length /\ (n + rowsY.length) * by_ <= 140737488355328 /\
      doW C hs K ns ⟨⟩ e R acc ((t,.ref (.r (rt t 0)) 0 (n + rowsY.length))::(rt t 0,.blk sz ((es.drop k).take n++rowsY))::(c,.blk sz0 (a7 es0 i o 1 [.any]))::bQ bs) [(rt t 0,true)]) ⟨⟩) ⟨⟩) ⟨⟩
 | _=>False
@[simp] theorem Dz {t sz by_ rowsY bs} : sF C hs K ns u e R acc t sz by_ rowsY bs .nils=(rowsY.length * by_ <= 140737488355328 /\ doW C hs K ns ⟨⟩ e R acc ((t,.ref (.r (rt t 0)) 0 rowsY.length)::(rt t 0,.blk sz rowsY)::bQ bs) [(rt t 0,true)]):=_root_.id rfl
@[simp] theorem Ri {t sz by_ rowsY bs c k n} : sF C hs K ns u e R acc t sz by_ rowsY bs (.ref (.r c) k n)=(c ≠ rt t 0 /\ bs.contains c=false /\ cI (ab e c) (fun sz' es=>sz'=sz /\ k + n <= es.length /\ (n + rowsY.length) * by_ <= 140737488355328 /\
      doW C hs K ns ⟨⟩ e R acc ((t,.ref (.r (rt t 0)) 0 (n + rowsY.length))::(rt t 0,.blk sz ((es.drop k).take n++rowsY))::(c,.any)::bQ bs) [(rt t 0,true)]) ⟨⟩):=_root_.id rfl
@[simp] theorem Rh {t sz by_ rowsY bs c i o k n} : sF C hs K ns u e R acc t sz by_ rowsY bs (.ref (.n c i o) k n)=(c ≠ rt t 0 /\ bs.contains c=false /\ cI (ab e c) (fun sz0 es0=>f8 es0[i]? (fun row0=>jr row0[o]? (fun sz' es=>sz'=sz /\ k + n <= es.length /\ (n + rowsY.length) * by_ <= 140737488355328 /\
      doW C hs K ns ⟨⟩ e R acc ((t,.ref (.r (rt t 0)) 0 (n + rowsY.length))::(rt t 0,.blk sz ((es.drop k).take n++rowsY))::(c,.blk sz0 (a7 es0 i o 1 [.any]))::bQ bs) [(rt t 0,true)]) ⟨⟩) ⟨⟩) ⟨⟩):=_root_.id rfl
@[simp] theorem Qv {sz by_ mv x y t v1} : opW C hs K ns (some t) (.app sz by_ mv x y) v1 e R acc=iG (ab e) mv (vd (ab e) y) sz (fun rowsY bs=>bs.contains (rt t 0)=false /\ sF C hs K ns ⟨⟩ e R acc t sz by_ rowsY bs (vd (ab e) x)) ⟨⟩:=by
 unfold opW iG
 simp only [aq]
 congr 1
 funext rowsY bs
 congr 1
 cases vd (ab e) x <;> try rfl
 rename_i p k n
 cases p with
 | r c =>
  simp only [sF,cI]
  cases ab e c <;> rfl
 | n c i o =>
  simp only [sF,cI,fg,iU]
  cases hl : ab e c <;> try rfl
  rename_i sz0 es0
  refine congrArg _ (congrArg _ (propext ⟨?_,?_⟩))
  ·rintro ⟨row0,h1,es,h2,h3⟩
   exact ⟨row0,h1,sz,es,h2,rfl,h3⟩
  ·rintro ⟨row0,h1,sz',es,h2,rfl,h3⟩
   exact ⟨row0,h1,es,h2,h3⟩
@[simp] theorem L0 {g b n xs sz es} : CT C g hs K ns dst u e R acc b n xs (.blk sz es)=(es.length=n /\ (∀ e ∈ es,∀ c ∈ e,au c=true) /\ (∀ x ∈ xs,br (fbE (ab e) b) (vd (fbE (ab e) b) x)) /\ ui C g hs K ns dst ⟨⟩ e R acc b sz es (xs.map (dpv (fbE (ab e) b))) (xs.all fun y=>isV (vd (fbE (ab e) b) y))):=_root_.id rfl
@[simp] theorem L8 {g xs b k n} : L7 C g hs K ns dst u e R acc xs (.ref (.r b) k n)=(k=0 /\ CT C g hs K ns dst ⟨⟩ e R acc b n xs (ab e b)):=_root_.id rfl
@[simp] theorem Gc {g x xs v1} : opW C hs K ns dst (.callS g x xs) v1 e R acc=(L7 C g hs K ns dst ⟨⟩ e R acc xs (vd (ab e) x)):=by
 cases dst <;> rfl
def wX (n : Nat) (d : D) : Prop:=match d with
 | .blk _ es=>es.length=n /\ ∀ e ∈ es,∀ c ∈ e,aT c=true
 | _=>False
def oT (f : Nat -> D) (b : Nat) (d : D) : Prop:=match d with
 | .ref (.r c) k n=>k=0 /\ c ≠ b /\ wX n (f c)
 | d=>isV d=true
def x6 (d : D) : D:=match d with
 | .blk sz es=>.own sz es
 | _=>.any
def rI (f : Nat -> D) (d : D) : D:=match d with
 | .ref (.r c) _ _=>x6 (f c)
 | d=>d
@[simp] theorem GU {n sz es} : wX n (.blk sz es)=(es.length=n /\ ∀ e ∈ es,∀ c ∈ e,aT c=true):=_root_.id rfl
@[simp] theorem Lz {sz es} : x6 (.blk sz es)=.own sz es:=_root_.id rfl
@[simp] theorem Mk {f : Nat -> D} {b : Nat} {x : Opd} : lz f b x=oT f b (vd f x):=by
 unfold lz oT wX
 cases vd f x <;> rfl
@[simp] theorem Ml {f : Nat -> D} {x : Opd} : km f x=rI f (vd f x):=by
 unfold km rI x6
 cases vd f x <;> rfl
@[simp] theorem DB {f : Nat -> D} {b c k n} : oT f b (.ref (.r c) k n)=(k=0 /\ c ≠ b /\ wX n (f c)):=_root_.id rfl
@[simp] theorem DD {f : Nat -> D} {c k n} : rI f (.ref (.r c) k n)=x6 (f c):=_root_.id rfl
@[simp] theorem DA {f : Nat -> D} {b k n} : oT f b (.int k n)=True:=by simp [oT,isV]
@[simp] theorem DC {f : Nat -> D} {k n} : rI f (.int k n)=.int k n:=_root_.id rfl
def xh (C : CC) (g : Nat) (hs : Option (List Nat)) (K : Env -> Prop) (ns : List ap) (t : Nat) (_ : Tag (hs,K,ns)) (e : Env) (R : List Nat) (acc : List (List Nat × List Nat)) (sz : Nat) (W : List (List D)) (ds : List D) (q : Nat × D) : Prop :=
 ∃ es' : List (List D),(∀ e ∈ es',e.length=sz /\ ∀ c ∈ e,aT c=true) /\ C g (.own sz W::ds) .any [.own sz es',.nils,.nils] /\ doW C hs K ns ⟨⟩ e R acc [(t,.ref (.r (rt t 0)) 0 es'.length),(rt t 0,.blk sz es'),q] [(rt t 0,true)]
def uC (C : CC) (g : Nat) (hs : Option (List Nat)) (K : Env -> Prop) (ns : List ap) (t : Nat) (_ : Tag (hs,K,ns)) (e : Env) (R : List Nat) (acc : List (List Nat × List Nat)) (xs : List Opd) (d : D) : Prop:=match d with
 | .ref (.r b) k n=>cI (ab e b) (fun sz es=>k + n <= es.length /\ b ≠ rt t 0 /\ 0 < sz /\ (∀ e ∈ (es.drop k).take n,∀ c ∈ e,aT c=true) /\ (∀ x ∈ xs,lz (ab e) b x) /\ xh C g hs K ns t ⟨⟩ e R acc sz ((es.drop k).take n) (xs.map (km (ab e))) (b,.any)) ⟨⟩
 | .ref (.n b i o) k n=>cI (ab e b) (fun sz0 es0=>f8 es0[i]? (fun row0=>jr row0[o]? (fun sz es=>k + n <= es.length /\ b ≠ rt t 0 /\ 0 < sz /\ (∀ e ∈ (es.drop k).take n,∀ c ∈ e,aT c=true) /\ (∀ x ∈ xs,lz (ab e) b x) /\
   xh C g hs K ns t ⟨⟩ e R acc sz ((es.drop k).take n) (xs.map (km (ab e))) (b,.blk sz0 (a7 es0 i o 1 [.any]))) ⟨⟩) ⟨⟩) ⟨⟩
 | _=>False
@[simp] theorem RT {g xs t b k n} : uC C g hs K ns t u e R acc xs (.ref (.r b) k n)=cI (ab e b) (fun sz es=>k + n <= es.length /\ b ≠ rt t 0 /\ 0 < sz /\ (∀ e ∈ (es.drop k).take n,∀ c ∈ e,aT c=true) /\ (∀ x ∈ xs,lz (ab e) b x) /\ xh C g hs K ns t ⟨⟩ e R acc sz ((es.drop k).take n) (xs.map (km (ab e))) (b,.any)) ⟨⟩:=_root_.id rfl
@[simp] theorem RS {g xs t b i o k n} : uC C g hs K ns t u e R acc xs (.ref (.n b i o) k n)=cI (ab e b) (fun sz0 es0=>f8 es0[i]? (fun row0=>jr row0[o]? (fun sz es=>k + n <= es.length /\ b ≠ rt t 0 /\ 0 < sz /\ (∀ e ∈ (es.drop k).take n,∀ c ∈ e,aT c=true) /\ (∀ x ∈ xs,lz (ab e) b x) /\
   xh C g hs K ns t ⟨⟩ e R acc sz ((es.drop k).take n) (xs.map (km (ab e))) (b,.blk sz0 (a7 es0 i o 1 [.any]))) ⟨⟩) ⟨⟩) ⟨⟩:=_root_.id rfl
@[simp] theorem F4 {g x xs t v1} : opW C hs K ns (some t) (.callE g x xs) v1 e R acc=uC C g hs K ns t ⟨⟩ e R acc xs (vd (ab e) x):=by
 unfold opW
 simp only [aq]
 cases vd (ab e) x <;> try rfl
 rename_i p k n
 cases p with
 | r b =>
  simp only [uC,cI,aO,Pa.root,cQ]
  cases ab e b <;> rfl
 | n b i o =>
  simp only [uC,cI,fg,iU,aO,Pa.root,cQ]
  cases hl : ab e b <;> try rfl
  rename_i sz0 es0
  simp only
  cases hi : es0[i]? with
  | none=>simp
  | some row0 =>
   simp only [Option.getD_some,Option.some.injEq,exists_eq_left']
   cases ho : row0[o]? with
   | none=>simp
   | some d =>
    cases d
    case own sz es=>exact propext ⟨fun h=>⟨sz,es,rfl,h⟩,fun ⟨sz',es',h0,h⟩=>by cases h0;exact h⟩
    all_goals simp
@[simp] theorem EF {f : Nat -> D} {b k n sz es} : bW f (.ref (.r b) k n) (.own sz es)=(k=0 /\ n=es.length /\ f b=.blk sz es):=_root_.id rfl
@[simp] theorem ED {f : Nat -> D} {b k n sz es} : bW f (.adr (.r b) k n) (.blk sz es)=(k=0 /\ n=0 /\ f b=.blk sz es):=_root_.id rfl
@[simp] theorem EE {f : Nat -> D} {k n r} : bW f (.int k n) r=(r=.int k n):=by simp [bW]
@[simp] theorem BB {f : Nat -> D} {n r} : bW f (.bool n) r=(r=.bool n):=by simp [bW]
@[simp] theorem EG {f : Nat -> D} {n r} : bW f (.str n) r=(r=.str n):=by simp [bW]
@[simp] theorem BD {f : Nat -> D} {r} : bW f .nils r=(r=.nils):=by simp [bW]
@[simp] theorem BC {f : Nat -> D} {r} : bW f .nilp r=(r=.nilp):=by simp [bW]
@[simp] theorem Ij {f : Nat -> D} {n r} : bW f (.sl n) r=(r=.sl n):=by simp [bW]
@[simp] theorem EC {f : Nat -> D} {n r} : bW f (.agg n) r=(r=.agg n):=by simp [bW]
@[simp] theorem Gx {t d} : bP (some t) d=[(t,d)]:=_root_.id rfl
@[simp] theorem Gw {d} : bP none d=[]:=_root_.id rfl
@[simp] theorem C0 {t} : dc (some t)=[(t,.tup [])]:=_root_.id rfl
@[simp] theorem CZ : dc none=[]:=_root_.id rfl
def Kv (C : CC) (g : Nat) (hs : Option (List Nat)) (K : Env -> Prop) (ns : List ap) (dst : Option Nat) (_ : Tag (hs,K,ns)) (e : Env) (R : List Nat) (acc : List (List Nat × List Nat)) (b sz : Nat) (es : List (List D)) (ds : List D) : Prop :=
 ∃ d,∃ es' : List (List D),0 < es'.length /\ C g (.blk sz es::ds) d [.blk sz es'] /\ doW C hs K ns ⟨⟩ e R acc (bP dst d++[(b,.blk sz es')]) [(b,false)]
def Ku (C : CC) (g : Nat) (hs : Option (List Nat)) (K : Env -> Prop) (ns : List ap) (dst : Option Nat) (_ : Tag (hs,K,ns)) (e : Env) (R : List Nat) (acc : List (List Nat × List Nat)) (xs : List Opd) (d : D) : Prop:=match d with
 | .adr (.r b) i off=>i=0 /\ off=0 /\ cI (ab e b) (fun sz es=>0 < es.length /\ (∀ x ∈ xs,isV (vd (ab e) x)=true) /\ Kv C g hs K ns dst ⟨⟩ e R acc b sz es (xs.map (vd (ab e)))) ⟨⟩
 | _=>False
@[simp] theorem Sw {g xs b i off} : Ku C g hs K ns dst u e R acc xs (.adr (.r b) i off)=(i=0 /\ off=0 /\ cI (ab e b) (fun sz es=>0 < es.length /\ (∀ x ∈ xs,isV (vd (ab e) x)=true) /\ Kv C g hs K ns dst ⟨⟩ e R acc b sz es (xs.map (vd (ab e)))) ⟨⟩):=_root_.id rfl
@[simp] theorem F8 {g x xs v1} : opW C hs K ns dst (.callL g x xs) v1 e R acc=Ku C g hs K ns dst ⟨⟩ e R acc xs (vd (ab e) x):=by
 unfold opW
 simp only [aq]
 cases vd (ab e) x <;> first | rfl | skip
def sM (C : CC) (hs : Option (List Nat)) (K : Env -> Prop) (ns : List ap) (dst : Option Nat) (_ : Tag (hs,K,ns)) (e : Env) (R : List Nat) (acc : List (List Nat × List Nat)) (zs : List D) (d : D) : Prop:=match d with
 | .nils=>doW C hs K ns ⟨⟩ e R acc (dc dst) []
 | .ref (.r b) k n=>cI (ab e b) (fun sz es=>k + n <= es.length /\ zs.length=sz /\ (∀ e ∈ es,∀ c ∈ e,au c=true) /\ (∀ c ∈ zs,au c=true) /\ doW C hs K ns ⟨⟩ e R acc (dc dst++[(b,.blk sz (dN es k n zs))]) []) ⟨⟩
 | .ref (.n b i o) k n=>cI (ab e b) (fun sz0 es0=>f8 es0[i]? (fun row0=>jr row0[o]? (fun sz es=>k + n <= es.length /\ zs.length=sz /\ (∀ c ∈ zs,au c=true) /\ doW C hs K ns ⟨⟩ e R acc (dc dst++[(b,.blk sz0 (a7 es0 i o 1 [.own sz (dN es k n zs)]))]) []) ⟨⟩) ⟨⟩) ⟨⟩
 | _=>False
@[simp] theorem Ro {zs b k n} : sM C hs K ns dst u e R acc zs (.ref (.r b) k n)=cI (ab e b) (fun sz es=>k + n <= es.length /\ zs.length=sz /\ (∀ e ∈ es,∀ c ∈ e,au c=true) /\ (∀ c ∈ zs,au c=true) /\ doW C hs K ns ⟨⟩ e R acc (dc dst++[(b,.blk sz (dN es k n zs))]) []) ⟨⟩:=_root_.id rfl
@[simp] theorem Rn {zs b i o k n} : sM C hs K ns dst u e R acc zs (.ref (.n b i o) k n)=cI (ab e b) (fun sz0 es0=>f8 es0[i]? (fun row0=>jr row0[o]? (fun sz es=>k + n <= es.length /\ zs.length=sz /\ (∀ c ∈ zs,au c=true) /\ doW C hs K ns ⟨⟩ e R acc (dc dst++[(b,.blk sz0 (a7 es0 i o 1 [.own sz (dN es k n zs)]))]) []) ⟨⟩) ⟨⟩) ⟨⟩:=_root_.id rfl
@[simp] theorem D6 {zs} : sM C hs K ns dst u e R acc zs .nils=doW C hs K ns ⟨⟩ e R acc (dc dst) []:=_root_.id rfl
@[simp] theorem QC {zs x v1} : opW C hs K ns dst (.clr zs x) v1 e R acc=sM C hs K ns dst ⟨⟩ e R acc zs (vd (ab e) x):=by
 unfold opW
 simp only [aq]
 cases vd (ab e) x <;> try rfl
 rename_i p k n
 cases p with
 | r b =>
  simp only [sM,cI]
  cases ab e b <;> rfl
 | n b i o =>
  simp only [sM,cI,fg,iU]
  cases ab e b <;> rfl
def za (C : CC) (g : Nat) (hs : Option (List Nat)) (K : Env -> Prop) (ns : List ap) (dst : Option Nat) (_ : Tag (hs,K,ns)) (e : Env) (R : List Nat) (acc : List (List Nat × List Nat)) (b i o sz0 sz : Nat) (es0 es : List (List D)) (ds : List D) : Prop :=
 ∃ es' : List (List D),es'.length=es.length /\ (∀ e ∈ es',e.length=sz /\ ∀ c ∈ e,au c=true) /\ C g (.own sz es::ds) .any [.own sz es',.nilp] /\ doW C hs K ns ⟨⟩ e R acc (dc dst++[(b,.blk sz0 (a7 es0 i o 1 [.own sz es']))]) []
def Bg (C : CC) (g : Nat) (hs : Option (List Nat)) (K : Env -> Prop) (ns : List ap) (dst : Option Nat) (_ : Tag (hs,K,ns)) (e : Env) (R : List Nat) (acc : List (List Nat × List Nat)) (xs : List Opd) (d : D) : Prop:=match d with
 | .ref (.n b i o) k n=>k=0 /\ cI (ab e b) (fun sz0 es0=>f8 es0[i]? (fun row0=>jr row0[o]? (fun sz es=>es.length=n /\ (∀ x ∈ xs,isV (vd (ab e) x)=true) /\ za C g hs K ns dst ⟨⟩ e R acc b i o sz0 sz es0 es (xs.map (vd (ab e)))) ⟨⟩) ⟨⟩) ⟨⟩
 | _=>False
@[simp] theorem Rl {g xs b i o k n} : Bg C g hs K ns dst u e R acc xs (.ref (.n b i o) k n)=(k=0 /\ cI (ab e b) (fun sz0 es0=>f8 es0[i]? (fun row0=>jr row0[o]? (fun sz es=>es.length=n /\ (∀ x ∈ xs,isV (vd (ab e) x)=true) /\ za C g hs K ns dst ⟨⟩ e R acc b i o sz0 sz es0 es (xs.map (vd (ab e)))) ⟨⟩) ⟨⟩) ⟨⟩):=_root_.id rfl
@[simp] theorem Ga {g x xs v1} : opW C hs K ns dst (.callN g x xs) v1 e R acc=Bg C g hs K ns dst ⟨⟩ e R acc xs (vd (ab e) x):=by
 unfold opW
 simp only [aq]
 cases vd (ab e) x <;> try rfl
 rename_i p k n
 cases p with
 | r b=>rfl
 | n b i o =>
  simp only [Bg,cI,fg,iU]
  cases ab e b <;> rfl
@[simp] theorem F6 {g xs v1} : opW C hs K ns dst (.callG g xs) v1 e R acc=((∀ x ∈ xs,br (ab e) (vd (ab e) x)) /\ A5 C g hs K ns dst ⟨⟩ e R acc (xs.map (dpv (ab e)))):=_root_.id rfl
@[simp] theorem F0 {g xs t v1} : opW C hs K ns (some t) (.callA g xs) v1 e R acc=((∀ x ∈ xs,isV (vd (ab e) x)=true) /\ ug C g hs K ns t ⟨⟩ e R acc (xs.map (vd (ab e)))):=_root_.id rfl
@[simp] theorem F5 {g xs t v1} : opW C hs K ns (some t) (.callF g xs) v1 e R acc=((∀ x ∈ xs,br (ab e) (vd (ab e) x)) /\ uh C g hs K ns t ⟨⟩ e R acc (xs.map (dpv (ab e)))):=_root_.id rfl
@[simp] theorem Ln {g xs x0 v1} : opW C hs K ns dst (.call g xs x0) v1 e R acc=((∀ x ∈ xs,br (ab e) (vd (ab e) x)) /\ oW C g hs K ns dst ⟨⟩ e R acc (xs.all fun x=>isV (vd (ab e) x)) (xs.map (dpv (ab e)))):=_root_.id rfl
def ko (C : CC) (hs : Option (List Nat)) (K : Env -> Prop) (ns : List ap) (t : Nat) (_ : Tag (hs,K,ns)) (e : Env) (R : List Nat) (acc : List (List Nat × List Nat)) (d : D) : Prop:=match d with
 | .ref (.r c) k n=>if c=rt t 0 then doW C hs K ns ⟨⟩ e R acc [(t,.ref (.r c) k n)] [] else match ab e c with
  | .blk sz es=>doW C hs K ns ⟨⟩ e R acc [(t,.ref (.r (rt t 0)) k n),(rt t 0,.blk sz es),(c,.any)] [(rt t 0,true)]
  | _=>False
 | d=>isS d=true /\ doW C hs K ns ⟨⟩ e R acc [(t,d)] []
@[simp] theorem Qw {t x v1} : opW C hs K ns (some t) (.asg x) v1 e R acc=ko C hs K ns t ⟨⟩ e R acc (vd (ab e) x):=_root_.id rfl
@[simp] theorem GW {t c k n} : ko C hs K ns t u e R acc (.ref (.r c) k n)=(if c=rt t 0 then doW C hs K ns ⟨⟩ e R acc [(t,.ref (.r c) k n)] [] else match ab e c with
  | .blk sz es=>doW C hs K ns ⟨⟩ e R acc [(t,.ref (.r (rt t 0)) k n),(rt t 0,.blk sz es),(c,.any)] [(rt t 0,true)]
  | _=>False):=_root_.id rfl
@[simp] theorem DF {t b i o k n} : ko C hs K ns t u e R acc (.ref (.n b i o) k n)=doW C hs K ns ⟨⟩ e R acc [(t,.ref (.n b i o) k n)] []:=by simp [ko]
@[simp] theorem DE {t} : ko C hs K ns t u e R acc .nils=doW C hs K ns ⟨⟩ e R acc [(t,.nils)] []:=by simp [ko]
@[simp] theorem Mm {t es} : ko C hs K ns t u e R acc (.sl es)=doW C hs K ns ⟨⟩ e R acc [(t,.sl es)] []:=by simp [ko]
@[simp] theorem GX {t b es} : ko C hs K ns t u e R acc (slx b es)=doW C hs K ns ⟨⟩ e R acc [(t,slx b es)] []:=by
 rcases fp b es with h | ⟨h,_⟩ <;> rw [h] <;> simp
@[simp] theorem GV {t} : ko C hs K ns t u e R acc .any=doW C hs K ns ⟨⟩ e R acc [(t,.any)] []:=by simp [ko]
@[simp] theorem GY {t ds} : ko C hs K ns t u e R acc (.tup ds)=doW C hs K ns ⟨⟩ e R acc [(t,.tup ds)] []:=by simp [ko]
def qD (C : CC) (hs : Option (List Nat)) (K : Env -> Prop) (ns : List ap) (t : Nat) (_ : Tag (hs,K,ns)) (e : Env) (R : List Nat) (acc : List (List Nat × List Nat)) (d : D) : Prop:=match d with
 | .ref (.r c) k n=>aI (ab e) (.ref (.r c) k n) /\ doW C hs K ns ⟨⟩ e R acc [(t,dp1 (ab e) (.ref (.r c) k n)),(c,.any)] []
 | d=>isS d=true /\ doW C hs K ns ⟨⟩ e R acc [(t,d)] []
@[simp] theorem QI {t x v1} : opW C hs K ns (some t) (.frz x) v1 e R acc=qD C hs K ns t ⟨⟩ e R acc (vd (ab e) x):=_root_.id rfl
@[simp] theorem Ia {t c k n} : qD C hs K ns t u e R acc (.ref (.r c) k n)=(aI (ab e) (.ref (.r c) k n) /\ doW C hs K ns ⟨⟩ e R acc [(t,dp1 (ab e) (.ref (.r c) k n)),(c,.any)] []):=_root_.id rfl
@[simp] theorem Ez {t} : qD C hs K ns t u e R acc .nils=doW C hs K ns ⟨⟩ e R acc [(t,.nils)] []:=by simp [qD]
@[simp] theorem Nd {t es} : qD C hs K ns t u e R acc (.sl es)=doW C hs K ns ⟨⟩ e R acc [(t,.sl es)] []:=by simp [qD]
@[simp] theorem Ib {t b es} : qD C hs K ns t u e R acc (slx b es)=doW C hs K ns ⟨⟩ e R acc [(t,slx b es)] []:=by
 rcases fp b es with h | ⟨h,_⟩ <;> rw [h] <;> simp
def xL (C : CC) (hs : Option (List Nat)) (K : Env -> Prop) (ns : List ap) (dst : Option Nat) (_ : Tag (hs,K,ns)) (e : Env) (R : List Nat) (acc : List (List Nat × List Nat)) (c i off : Nat) (d : D) : Prop:=match d with
 | .blk _ es=>∃ r,es[i]? = some r /\ ∃ d,r[off]? = some d /\ cJ dst (kOf C hs K ns e R acc) (ldc (.r c) i off d)
 | _=>False
@[simp] theorem Kn {c i off sz es} : xL C hs K ns dst u e R acc c i off (.blk sz es)=f8 es[i]? (fun r=>wY r[off]? (fun d=>dW C hs K ns dst ⟨⟩ e R acc (ldc (.r c) i off d)) ⟨⟩) ⟨⟩:=by
 simp only [xL,fg,wZ];rfl
def Ko (C : CC) (hs : Option (List Nat)) (K : Env -> Prop) (ns : List ap) (dst : Option Nat) (_ : Tag (hs,K,ns)) (e : Env) (R : List Nat) (acc : List (List Nat × List Nat)) (q : Nat) (d : D) : Prop:=match d with
 | .adr (.r c) i off=>off=q /\ xL C hs K ns dst ⟨⟩ e R acc c i off (ab e c)
 | _=>False
@[simp] theorem Kp {q c i off} : Ko C hs K ns dst u e R acc q (.adr (.r c) i off)=(off=q /\ xL C hs K ns dst ⟨⟩ e R acc c i off (ab e c)):=_root_.id rfl
@[simp] theorem QL {q x v1} : opW C hs K ns dst (.ldQ q x) v1 e R acc=Ko C hs K ns dst ⟨⟩ e R acc q (vd (ab e) x):=_root_.id rfl
def wW (C : CC) (hs : Option (List Nat)) (K : Env -> Prop) (ns : List ap) (t : Nat) (_ : Tag (hs,K,ns)) (e : Env) (R : List Nat) (acc : List (List Nat × List Nat)) (sz by_ : Nat) (rowsY : List (List D)) (c i o k n : Nat) (d : D) : Prop:=match d with
 | .blk sz0 es0=>∃ row0,es0[i]? = some row0 /\ ∃ es,row0[o]? = some (.own sz es) /\ k + n <= es.length /\ (n + rowsY.length) * by_ <= 140737488355328 /\
   kOf C hs K ns e R acc [(t,.ref (.r (rt t 0)) 0 (n + rowsY.length)),(rt t 0,.blk sz ((es.drop k).take n++rowsY)),(c,.blk sz0 (a7 es0 i o 1 [.any]))] [(rt t 0,true)]
 | _=>False
@[simp] theorem GR {t sz by_ rowsY c i o k n sz0 es0} : wW C hs K ns t u e R acc sz by_ rowsY c i o k n (.blk sz0 es0)=f8 es0[i]? (fun row0=>jr row0[o]? (fun sz' es=>sz'=sz /\ k + n <= es.length /\ (n + rowsY.length) * by_ <= 140737488355328 /\
   doW C hs K ns ⟨⟩ e R acc [(t,.ref (.r (rt t 0)) 0 (n + rowsY.length)),(rt t 0,.blk sz ((es.drop k).take n++rowsY)),(c,.blk sz0 (a7 es0 i o 1 [.any]))] [(rt t 0,true)]) ⟨⟩) ⟨⟩:=by
 simp only [wW,fg,iU]
 refine propext ⟨?_,?_⟩
 ·rintro ⟨row0,h1,es,h2,h3,h4,h5⟩
  exact ⟨row0,h1,sz,es,h2,rfl,h3,h4,h5⟩
 ·rintro ⟨row0,h1,sz',es,h2,rfl,h3,h4,h5⟩
  exact ⟨row0,h1,es,h2,h3,h4,h5⟩
def GS (C : CC) (hs : Option (List Nat)) (K : Env -> Prop) (ns : List ap) (t : Nat) (_ : Tag (hs,K,ns)) (e : Env) (R : List Nat) (acc : List (List Nat × List Nat)) (q sz by_ : Nat) (yd : D) (d : D) : Prop:=match d with
 | .ref (.n c i o') k n=>o'=q /\ fc (ab e) false yd sz fun rowsY bs=>bs=[] /\ c ≠ rt t 0 /\ wW C hs K ns t ⟨⟩ e R acc sz by_ rowsY c i o' k n (ab e c)
 | _=>False
@[simp] theorem GT {t q sz by_ yd c i o k n} : GS C hs K ns t u e R acc q sz by_ yd (.ref (.n c i o) k n)=(o=q /\ iG (ab e) false yd sz (fun rowsY bs=>bs=[] /\ c ≠ rt t 0 /\ wW C hs K ns t ⟨⟩ e R acc sz by_ rowsY c i o k n (ab e c)) ⟨⟩):=_root_.id rfl
@[simp] theorem Lj {t q sz by_ x y v1} : opW C hs K ns (some t) (.appQ q sz by_ x y) v1 e R acc=GS C hs K ns t ⟨⟩ e R acc q sz by_ (vd (ab e) y) (vd (ab e) x):=_root_.id rfl
def Bi (C : CC) (hs : Option (List Nat)) (K : Env -> Prop) (ns : List ap) (t : Nat) (_ : Tag (hs,K,ns)) (e : Env) (R : List Nat) (acc : List (List Nat × List Nat)) (sz : Nat) (rows : List (List D)) (b k n : Nat) (d : D) : Prop:=match d with
 | .blk sz' es=>sz'=sz /\ k + n <= es.length /\ (∀ e ∈ es,∀ c ∈ e,au c=true) /\ (∀ e ∈ rows,∀ c ∈ e,au c=true) /\ kOf C hs K ns e R acc [(t,.int .i64 (min rows.length n : Nat)),(b,.blk sz (il es k (rows.take n)))] []
 | _=>False
@[simp] theorem Hj {t sz rows b k n sz' es} : Bi C hs K ns t u e R acc sz rows b k n (.blk sz' es)=(sz'=sz /\ k + n <= es.length /\ (∀ e ∈ es,∀ c ∈ e,au c=true) /\ (∀ e ∈ rows,∀ c ∈ e,au c=true) /\ doW C hs K ns ⟨⟩ e R acc [(t,.int .i64 (min rows.length n : Nat)),(b,.blk sz (il es k (rows.take n)))] []):=_root_.id rfl
def Hk (C : CC) (hs : Option (List Nat)) (K : Env -> Prop) (ns : List ap) (t : Nat) (_ : Tag (hs,K,ns)) (e : Env) (R : List Nat) (acc : List (List Nat × List Nat)) (sz : Nat) (rows : List (List D)) (d : D) : Prop:=match d with
 | .ref (.r b) k n=>(n=0 -> kOf C hs K ns e R acc [(t,.int .i64 0)] []) /\ (0 < n -> Bi C hs K ns t ⟨⟩ e R acc sz rows b k n (ab e b))
 | _=>False
@[simp] theorem Hl {t sz rows b k n} : Hk C hs K ns t u e R acc sz rows (.ref (.r b) k n)=((n=0 -> doW C hs K ns ⟨⟩ e R acc [(t,.int .i64 0)] []) /\ (0 < n -> Bi C hs K ns t ⟨⟩ e R acc sz rows b k n (ab e b))):=_root_.id rfl
@[simp] theorem QD {t sz x y v1} : opW C hs K ns (some t) (.cpy sz x y) v1 e R acc=iG (ab e) false (vd (ab e) y) sz (fun rows bs=>bs=[] /\ 0 < rows.length /\ Hk C hs K ns t ⟨⟩ e R acc sz rows (vd (ab e) x)) ⟨⟩:=_root_.id rfl
def BV (C : CC) (hs : Option (List Nat)) (K : Env -> Prop) (ns : List ap) (t : Nat) (_ : Tag (hs,K,ns)) (e : Env) (R : List Nat) (acc : List (List Nat × List Nat)) (n c : Nat) (d : D) : Prop:=match d with
 | .blk _ [row]=>row.length=n /\ okR (.agg row)=true /\ (aM t (.agg row)).all (fun p=>p.1 != c)=true /\ doW C hs K ns ⟨⟩ e R acc ((t,dI t (.agg row))::(c,.any)::aM t (.agg row)) (di t (.agg row))
 | _=>False
@[simp] theorem Kk {t n c sz row} : BV C hs K ns t u e R acc n c (.blk sz [row])=(row.length=n /\ okR (.agg row)=true /\ (aM t (.agg row)).all (fun p=>p.1 != c)=true /\ doW C hs K ns ⟨⟩ e R acc ((t,dI t (.agg row))::(c,.any)::aM t (.agg row)) (di t (.agg row))):=_root_.id rfl
def Kl (C : CC) (hs : Option (List Nat)) (K : Env -> Prop) (ns : List ap) (t : Nat) (_ : Tag (hs,K,ns)) (e : Env) (R : List Nat) (acc : List (List Nat × List Nat)) (n : Nat) (d : D) : Prop:=match d with
 | .adr (.r c) i off=>i=0 /\ off=0 /\ BV C hs K ns t ⟨⟩ e R acc n c (ab e c)
 | _=>False
@[simp] theorem Km {t n c i off} : Kl C hs K ns t u e R acc n (.adr (.r c) i off)=(i=0 /\ off=0 /\ BV C hs K ns t ⟨⟩ e R acc n c (ab e c)):=_root_.id rfl
@[simp] theorem QK {t n x v1} : opW C hs K ns (some t) (.ldM n x) v1 e R acc=Kl C hs K ns t ⟨⟩ e R acc n (vd (ab e) x):=_root_.id rfl
def xK (C : CC) (hs : Option (List Nat)) (K : Env -> Prop) (ns : List ap) (t : Nat) (_ : Tag (hs,K,ns)) (e : Env) (R : List Nat) (acc : List (List Nat × List Nat)) (n c i off : Nat) (d : D) : Prop:=match d with
 | .blk _ es=>∃ r,es[i]? = some r /\ off + n <= r.length /\ doW C hs K ns ⟨⟩ e R acc [(t,.agg (((r.drop off).take n).map aR)),(c,.any)] []
 | _=>False
@[simp] theorem Kh {t n c i off sz es} : xK C hs K ns t u e R acc n c i off (.blk sz es)=f8 es[i]? (fun r=>off + n <= r.length /\ doW C hs K ns ⟨⟩ e R acc [(t,.agg (((r.drop off).take n).map aR)),(c,.any)] []) ⟨⟩:=by
 simp only [xK,fg]
def Ki (C : CC) (hs : Option (List Nat)) (K : Env -> Prop) (ns : List ap) (t : Nat) (_ : Tag (hs,K,ns)) (e : Env) (R : List Nat) (acc : List (List Nat × List Nat)) (n : Nat) (d : D) : Prop:=match d with
 | .adr (.r c) i off=>xK C hs K ns t ⟨⟩ e R acc n c i off (ab e c)
 | _=>False
@[simp] theorem Kj {t n c i off} : Ki C hs K ns t u e R acc n (.adr (.r c) i off)=xK C hs K ns t ⟨⟩ e R acc n c i off (ab e c):=_root_.id rfl
@[simp] theorem QJ {t n x v1} : opW C hs K ns (some t) (.ldF n x) v1 e R acc=Ki C hs K ns t ⟨⟩ e R acc n (vd (ab e) x):=_root_.id rfl
def CM (C : CC) (hs : Option (List Nat)) (K : Env -> Prop) (ns : List ap) (t : Nat) (_ : Tag (hs,K,ns)) (e : Env) (R : List Nat) (acc : List (List Nat × List Nat)) (len sz c : Nat) (d : D) : Prop:=match d with
 | .blk _ [row]=>0 < len /\ 0 < sz /\ row.length=len * sz /\ (∀ d ∈ row,au d=true) /\ doW C hs K ns ⟨⟩ e R acc [(t,.ref (.r (rt t 0)) 0 len),(rt t 0,.blk sz (bT sz len row)),(c,.any)] [(rt t 0,true)]
 | _=>False
@[simp] theorem LU {t len sz c sz0 row} : CM C hs K ns t u e R acc len sz c (.blk sz0 [row])=(0 < len /\ 0 < sz /\ row.length=len * sz /\ (∀ d ∈ row,au d=true) /\ doW C hs K ns ⟨⟩ e R acc [(t,.ref (.r (rt t 0)) 0 len),(rt t 0,.blk sz (bT sz len row)),(c,.any)] [(rt t 0,true)]):=_root_.id rfl
def LV (C : CC) (hs : Option (List Nat)) (K : Env -> Prop) (ns : List ap) (t : Nat) (_ : Tag (hs,K,ns)) (e : Env) (R : List Nat) (acc : List (List Nat × List Nat)) (len sz : Nat) (d : D) : Prop:=match d with
 | .adr (.r c) i off=>i=0 /\ off=0 /\ c ≠ rt t 0 /\ CM C hs K ns t ⟨⟩ e R acc len sz c (ab e c)
 | _=>False
@[simp] theorem LW {t len sz c i off} : LV C hs K ns t u e R acc len sz (.adr (.r c) i off)=(i=0 /\ off=0 /\ c ≠ rt t 0 /\ CM C hs K ns t ⟨⟩ e R acc len sz c (ab e c)):=_root_.id rfl
@[simp] theorem QW {len sz x t v1} : opW C hs K ns (some t) (.slM len sz x) v1 e R acc=LV C hs K ns t ⟨⟩ e R acc len sz (vd (ab e) x):=_root_.id rfl
def gZ (C : CC) (hs : Option (List Nat)) (K : Env -> Prop) (ns : List ap) (dst : Option Nat) (_ : Tag (hs,K,ns)) (e : Env) (R : List Nat) (acc : List (List Nat × List Nat)) (d : D) : Prop:=match d with
 | .agx ds=>dW C hs K ns dst ⟨⟩ e R acc (.ptx ds)
 | .agg ds=>dW C hs K ns dst ⟨⟩ e R acc (.ptr ds)
 | d=>au d=true /\ dW C hs K ns dst ⟨⟩ e R acc (.ptr [d])
@[simp] theorem Bc {ds : List D} : dz (.agg ds)=ds:=_root_.id rfl
@[simp] theorem Bd {k n} : dz (.int k n)=[.int k n]:=_root_.id rfl
@[simp] theorem Be {n} : dz (.str n)=[.str n]:=_root_.id rfl
@[simp] theorem zT {n} : dz (.bool n)=[.bool n]:=_root_.id rfl
@[simp] theorem D5 {n} : dz (.sl n)=[.sl n]:=_root_.id rfl
@[simp] theorem Ey {f : Nat -> D} {es} : gh f [] es=es:=_root_.id rfl
@[simp] theorem Bv {f : Nat -> D} {p ps es} : gh f (p::ps) es=gh f ps (es.set p.1 (dz (vd f p.2))):=_root_.id rfl
@[simp] theorem Lk {sz len zs parts v1} : opW C hs K ns dst (.blsF sz len zs parts) v1 e R acc=((∀ p ∈ parts,p.1 < len /\ (dz (vd (ab e) p.2)).length=sz /\ ∀ c ∈ dz (vd (ab e) p.2),au c=true) /\ 0 < len /\
   (∀ r ∈ gh (ab e) parts (List.replicate len zs),∀ c ∈ r,au c=true) /\ dW C hs K ns dst ⟨⟩ e R acc (.sl (gh (ab e) parts (List.replicate len zs)))):=_root_.id rfl
@[simp] theorem Ll {sz len zs parts v1} : opW C hs K ns dst (.blsX sz len zs parts) v1 e R acc=(zs.all au=true /\ (∀ p ∈ parts,p.1 < len /\ match (generalizing:=false) vd (ab e) p.2 with
    | .agg ds=>ds.length=sz
    | .agx ds=>ds.length=sz
    | _=>False) /\ dW C hs K ns dst ⟨⟩ e R acc (.rfx len sz (jg (ab e) sz len zs parts))):=_root_.id rfl
attribute [simp] jg
@[simp] theorem Lm {x v1} : opW C hs K ns dst (.boxF x) v1 e R acc=gZ C hs K ns dst ⟨⟩ e R acc (vd (ab e) x):=_root_.id rfl
@[simp] theorem G4 {ds} : gZ C hs K ns dst u e R acc (.agx ds)=dW C hs K ns dst ⟨⟩ e R acc (.ptx ds):=_root_.id rfl
@[simp] theorem G3 {ds} : gZ C hs K ns dst u e R acc (.agg ds)=dW C hs K ns dst ⟨⟩ e R acc (.ptr ds):=_root_.id rfl
@[simp] theorem G5 {k n} : gZ C hs K ns dst u e R acc (.int k n)=dW C hs K ns dst ⟨⟩ e R acc (.ptr [.int k n]):=by simp [gZ]
@[simp] theorem DG {n} : gZ C hs K ns dst u e R acc (.bool n)=dW C hs K ns dst ⟨⟩ e R acc (.ptr [.bool n]):=by simp [gZ]
@[simp] theorem G8 {n} : gZ C hs K ns dst u e R acc (.str n)=dW C hs K ns dst ⟨⟩ e R acc (.ptr [.str n]):=by simp [gZ]
@[simp] theorem DH : gZ C hs K ns dst u e R acc .nils=dW C hs K ns dst ⟨⟩ e R acc (.ptr [.nils]):=by simp [gZ]
@[simp] theorem Ms {es} : gZ C hs K ns dst u e R acc (.sl es)=dW C hs K ns dst ⟨⟩ e R acc (.ptr [.sl es]):=by simp [gZ]
@[simp] theorem G7 {b es} : gZ C hs K ns dst u e R acc (slx b es)=dW C hs K ns dst ⟨⟩ e R acc (.ptr [slx b es]):=by
 rcases fp b es with h | ⟨h,_⟩ <;> rw [h] <;> simp
@[simp] theorem G6 {es} : gZ C hs K ns dst u e R acc (.ptr es)=dW C hs K ns dst ⟨⟩ e R acc (.ptr [.ptr es]):=by simp [gZ]
@[simp] theorem Mr {g es} : gZ C hs K ns dst u e R acc (.fn g es)=dW C hs K ns dst ⟨⟩ e R acc (.ptr [.fn g es]):=by simp [gZ]
@[simp] theorem QN {x v1} : opW C hs K ns dst (.len x) v1 e R acc=qR (vd (ab e) x) (fun n=>dW C hs K ns dst ⟨⟩ e R acc (.int .i64 n)) ⟨⟩:=by
 show res (ab e) _ (.len x)=_
 simp only [res,qR]
 cases vd (ab e) x <;> rfl
def qK (C : CC) (hs : Option (List Nat)) (K : Env -> Prop) (ns : List ap) (dst : Option Nat) (_ : Tag (hs,K,ns)) (e : Env) (R : List Nat) (acc : List (List Nat × List Nat)) (sz : Nat) (x i : D) : Prop:=match (generalizing:=false) x,i with
  | .sl es,.int _ j=>0 <= j /\ hG C hs K ns dst ⟨⟩ e R acc sz es j.toNat
  | .slv _ es,.int _ j=>0 <= j /\ hG C hs K ns dst ⟨⟩ e R acc sz es j.toNat
  | .rfx n sz' ds,.int _ j=>0 <= j /\ j.toNat < n /\ sz'=sz /\ dW C hs K ns dst ⟨⟩ e R acc (.ptx (ds.drop (j.toNat * sz)))
  | .ref p k n,.int _ j=>0 <= j /\ j.toNat < n /\ match (generalizing:=false) aO (ab e) p with
   | some (sz',_)=>sz'=sz /\ dW C hs K ns dst ⟨⟩ e R acc (.adr p (k + j.toNat) 0)
   | none=>False
  | _,_=>False
@[simp] theorem Lq {sz x i v1} : opW C hs K ns dst (.iadS sz x i) v1 e R acc=qK C hs K ns dst ⟨⟩ e R acc sz (vd (ab e) x) (vd (ab e) i):=_root_.id rfl
@[simp] theorem Il {sz sz' n ds k j} : qK C hs K ns dst u e R acc sz (.rfx n sz' ds) (.int k j)=(0 <= j /\ j.toNat < n /\ sz'=sz /\ dW C hs K ns dst ⟨⟩ e R acc (.ptx (ds.drop (j.toNat * sz)))):=_root_.id rfl
@[simp] theorem Nf {sz es k j} : qK C hs K ns dst u e R acc sz (.sl es) (.int k j)=(0 <= j /\ hG C hs K ns dst ⟨⟩ e R acc sz es j.toNat):=_root_.id rfl
@[simp] theorem Im {sz q es k j} : qK C hs K ns dst u e R acc sz (.slv q es) (.int k j)=(0 <= j /\ hG C hs K ns dst ⟨⟩ e R acc sz es j.toNat):=_root_.id rfl
@[simp] theorem In {sz b es k j} : qK C hs K ns dst u e R acc sz (slx b es) (.int k j)=(0 <= j /\ hG C hs K ns dst ⟨⟩ e R acc sz es j.toNat):=by
 rcases fp b es with h | ⟨h,rfl⟩
 ·rw [h];rfl
 ·rw [h];simp [qK,hG]
@[simp] theorem Ik {sz p k n k' j} : qK C hs K ns dst u e R acc sz (.ref p k n) (.int k' j)=(0 <= j /\ j.toNat < n /\ match (generalizing:=false) aO (ab e) p with
   | some (sz',_)=>sz'=sz /\ dW C hs K ns dst ⟨⟩ e R acc (.adr p (k + j.toNat) 0)
   | none=>False):=_root_.id rfl
def yp (C : CC) (hs : Option (List Nat)) (K : Env -> Prop) (ns : List ap) (dst : Option Nat) (_ : Tag (hs,K,ns)) (e : Env) (R : List Nat) (acc : List (List Nat × List Nat)) (sz : Nat) (x : D) (lo hi : Option Opd) : Prop:=match (generalizing:=false) x with
  | .sl es=>(∀ e ∈ es,e.length=sz) /\ df (ab e) hi es.length (fun h=>df (ab e) lo 0 (fun l=>l <= h /\ h <= es.length /\ dW C hs K ns dst ⟨⟩ e R acc (.sl ((es.take h).drop l))) ⟨⟩) ⟨⟩
  | .nils=>df (ab e) hi 0 (fun h=>df (ab e) lo 0 (fun l=>l <= h /\ h <= 0 /\ dW C hs K ns dst ⟨⟩ e R acc (.sl [])) ⟨⟩) ⟨⟩
  | .ref p k n=>match (generalizing:=false) aO (ab e) p with
   | some (sz',_)=>sz'=sz /\ df (ab e) hi n (fun h=>df (ab e) lo 0 (fun l=>l <= h /\ h <= n /\ dW C hs K ns dst ⟨⟩ e R acc (.ref p (k + l) (h - l))) ⟨⟩) ⟨⟩
   | none=>False
  | _=>False
@[simp] theorem QY {sz x lo hi v1} : opW C hs K ns dst (.slc sz x lo hi) v1 e R acc=yp C hs K ns dst ⟨⟩ e R acc sz (vd (ab e) x) lo hi:=_root_.id rfl
@[simp] theorem Q5 {sz es lo hi} : yp C hs K ns dst u e R acc sz (.sl es) lo hi=((∀ e ∈ es,e.length=sz) /\ df (ab e) hi es.length (fun h=>df (ab e) lo 0 (fun l=>l <= h /\ h <= es.length /\ dW C hs K ns dst ⟨⟩ e R acc (.sl ((es.take h).drop l))) ⟨⟩) ⟨⟩):=_root_.id rfl
@[simp] theorem Gu {sz lo hi} : yp C hs K ns dst u e R acc sz .nils lo hi=df (ab e) hi 0 (fun h=>df (ab e) lo 0 (fun l=>l <= h /\ h <= 0 /\ dW C hs K ns dst ⟨⟩ e R acc (.sl [])) ⟨⟩) ⟨⟩:=_root_.id rfl
@[simp] theorem LT {sz p k n lo hi} : yp C hs K ns dst u e R acc sz (.ref p k n) lo hi=(match (generalizing:=false) aO (ab e) p with
   | some (sz',_)=>sz'=sz /\ df (ab e) hi n (fun h=>df (ab e) lo 0 (fun l=>l <= h /\ h <= n /\ dW C hs K ns dst ⟨⟩ e R acc (.ref p (k + l) (h - l))) ⟨⟩) ⟨⟩
   | none=>False):=_root_.id rfl
@[simp] theorem Gd {x xs v1} : opW C hs K ns dst (.callv x xs) v1 e R acc=(match (generalizing:=false) vd (ab e) x with
  | .fn g cs=>(∀ x ∈ xs,br (ab e) (vd (ab e) x)) /\ oW C g hs K ns dst ⟨⟩ e R acc (xs.all fun x=>isV (vd (ab e) x)) (xs.map (dpv (ab e))++cs)
  | .fnx g cs=>(∀ x ∈ xs,br (ab e) (vd (ab e) x)) /\ (∀ c ∈ cs,aI (ab e) c) /\ oW C g hs K ns dst ⟨⟩ e R acc false (xs.map (dpv (ab e))++cs.map (dp1 (ab e)))
  | _=>False):=by
 simp only [opW,aq,oW,cJ,Bool.false_eq_true,or_false]
 cases vd (ab e) x <;> rfl
def mpT (x : D) (K : Nat -> Nat -> List D -> List D -> Prop) (_ : Tag K) : Prop:=match x with
 | .mp kt et ks vs=>K kt et ks vs
 | _=>False
@[simp] theorem Sx {kt et ks vs K u} : mpT (.mp kt et ks vs) K u=K kt et ks vs:=_root_.id rfl
@[simp] theorem QP {kt et t v1} : opW C hs K ns (some t) (.mkm kt et) v1 e R acc=doW C hs K ns ⟨⟩ e R acc [(t,.mrf (rt t 0)),(rt t 0,.mp kt et [] [])] [(rt t 0,true)]:=_root_.id rfl
def mlM (C : CC) (hs : Option (List Nat)) (K : Env -> Prop) (ns : List ap) (dst : Option Nat) (_ : Tag (hs,K,ns)) (e : Env) (R : List Nat) (acc : List (List Nat × List Nat)) (sh : KSh) (kt et : Nat) (ok : Bool) (z x m : D) : Prop:=match m with
 | .mrf b=>mpT (ab e b) (fun kt' et' ks vs=>kt'=kt /\ et'=et /\ cS sh x /\ match ok with
    | true=>dW C hs K ns dst ⟨⟩ e R acc (.tup [(cU ks vs x).getD z,.bool (cU ks vs x).isSome])
    | false=>dW C hs K ns dst ⟨⟩ e R acc ((cU ks vs x).getD z)) ⟨⟩
 | _=>False
@[simp] theorem Qi {sh kt et ok z x b} : mlM C hs K ns dst u e R acc sh kt et ok z x (.mrf b)=mpT (ab e b) (fun kt' et' ks vs=>kt'=kt /\ et'=et /\ cS sh x /\ match ok with
    | true=>dW C hs K ns dst ⟨⟩ e R acc (.tup [(cU ks vs x).getD z,.bool (cU ks vs x).isSome])
    | false=>dW C hs K ns dst ⟨⟩ e R acc ((cU ks vs x).getD z)) ⟨⟩:=_root_.id rfl
@[simp] theorem QS {sh kt et ok z m x v1} : opW C hs K ns dst (.mpl sh kt et ok z m x) v1 e R acc=mlM C hs K ns dst ⟨⟩ e R acc sh kt et ok z (vd (ab e) x) (vd (ab e) m):=by
 show res (ab e) _ (.mpl sh kt et ok z m x)=_
 simp only [res,mlM]
 cases vd (ab e) m <;> rfl
def muM (C : CC) (hs : Option (List Nat)) (K : Env -> Prop) (ns : List ap) (_ : Tag (hs,K,ns)) (e : Env) (R : List Nat) (acc : List (List Nat × List Nat)) (sh : KSh) (kt et : Nat) (z x v m : D) : Prop:=match m with
 | .mrf b=>mpT (ab e b) (fun kt' et' ks vs=>kt'=kt /\ et'=et /\ ks.length < maxLen /\ cS sh x /\ ip z v /\ doW C hs K ns ⟨⟩ e R acc [(b,.mp kt et (x::ks) (v::vs))] []) ⟨⟩
 | _=>False
@[simp] theorem Qj {sh kt et z x v b} : muM C hs K ns u e R acc sh kt et z x v (.mrf b)=mpT (ab e b) (fun kt' et' ks vs=>kt'=kt /\ et'=et /\ ks.length < maxLen /\ cS sh x /\ ip z v /\ doW C hs K ns ⟨⟩ e R acc [(b,.mp kt et (x::ks) (v::vs))] []) ⟨⟩:=_root_.id rfl
@[simp] theorem QT {sh kt et z m x v v1} : opW C hs K ns dst (.mpu sh kt et z m x v) v1 e R acc=(dst=none /\ muM C hs K ns ⟨⟩ e R acc sh kt et z (vd (ab e) x) (vd (ab e) v) (vd (ab e) m)):=by
 show (dst=none /\ _)=_
 congr 1
end
@[simp] theorem BP {s} : cS .str (.str s)=(s.length <= maxLen):=_root_.id rfl
@[simp] theorem Ac {b} : cS .bool (.bool b)=True:=_root_.id rfl
@[simp] theorem BO {q q' n} : cS (.int q) (.int q' n)=(q'=q /\ pp q n):=_root_.id rfl
@[simp] theorem Ad {q n ds} : cS (.ints q n) (.agg ds)=(ds.length=n /\ ∀ d ∈ ds,∃ x,d=.int q x /\ pp q x):=_root_.id rfl
@[simp] theorem Ex {s z} : ip (.str z) (.str s)=(s.length <= maxLen):=_root_.id rfl
@[simp] theorem Bo {b z} : ip (.bool z) (.bool b)=True:=_root_.id rfl
@[simp] theorem Ew {q q' n z} : ip (.int q z) (.int q' n)=(q'=q /\ pp q n):=_root_.id rfl
@[simp] theorem Ix {n : Int} : pp .i64 n=(-9223372036854775808 <= n /\ n <= 9223372036854775807):=by
 have e1 : IntKind.i64.min=-9223372036854775808:=rfl
 have e2 : IntKind.i64.max=9223372036854775807:=rfl
 simp [pp,Lit.wf,e1,e2]
attribute [simp] iF fy bL dI ct bG aM di vA okR pT lg cy
attribute [simp] vd params fb ju jv jt lZ mJ vM prune jB isC ir aO SJ a7 dpv bQ stK bj rt chk rdS rdR frR fwR fZ rdN iq wrK mnR CA ldN ae iE pg wOk Pa.root b9 bH
end Go.Gv

namespace Go.Gv
section
variable {C : CC}
theorem iW {f : Nat -> D} {dst : Option Nat} {K K' : KT} {o : NOp} (h : aq C f dst K o) (hk : ∀ ws ks,K ws ks -> K' ws ks) : aq C f dst K' o:=by
 obtain ⟨ws,ks,h1,h2⟩:=mK h
 exact h2 K' (hk ws ks h1)
theorem gS {e : Env} {dst : Option Nat} {K K' : Env -> Prop} (h : gz e dst K) (hk : ∀ e,K e -> K' e) : gz e dst K':=by
 unfold gz at h ⊢
 split at h
 ·exact hk _ h
 ·exact hk _ h
theorem gG {K K' : Env -> Prop} (hk : ∀ e,K e -> K' e) : ∀ (ns : List ap) (e : Env),gV C K ns e -> gV C K' ns e
 | [],e,h=>hk e h
 | o::os,e,h=>by
  rw [gV] at h ⊢
  split at h
  ·exact iW h (fun ws ks h1=>gG hk os _ h1)
  ·split at h
   ·exact ⟨fun hb=>iW (h.1 hb) (fun ws ks h1=>gG hk os _ h1),fun hb=>gS (h.2 hb) (fun e h1=>gG hk os e h1)⟩
   ·exact gS h (fun e h1=>gG hk os e h1)
   ·exact h.elim
theorem gF {hs : List Nat} {K K' : Env -> Prop} (hk : ∀ e,K e -> K' e) : ∀ (ns : List ap) (e : Env) (acc : List (List Nat × List Nat)),jb C hs K ns e acc -> jb C hs K' ns e acc
 | [],e,acc,h=>⟨h.1,hk e h.2⟩
 | o::os,e,acc,h=>by
  rw [jb] at h ⊢
  refine ⟨h.1,?_⟩
  have h:=h.2
  split at h
  ·exact iW h (fun ws ks h1=>⟨h1.1,gF hk os _ _ h1.2⟩)
  ·split at h
   ·exact ⟨fun hb=>iW (h.1 hb) (fun ws ks h1=>⟨h1.1,gF hk os _ _ h1.2⟩),fun hb=>gS (h.2 hb) (fun e h1=>gF hk os e _ h1)⟩
   ·exact gS h (fun e h1=>gF hk os e _ h1)
   ·exact h.elim
theorem dV : ∀ (c : dg) (Q Q' : cd -> Env -> Prop) (e : Env),(∀ t e,Q t e -> Q' t e) -> wpN C c Q e -> wpN C c Q' e
 | .skip,Q,Q',e,hq,h=>hq _ _ h
 | .reg dr hs keep ops,Q,Q',e,hq,h=>by
  cases dr with
  | false=>exact gG (fun e h=>hq _ _ h) ops e h
  | true=>exact gF (fun e h=>hq _ _ h) ops e [] h
 | .seq x y,Q,Q',e,hq,h=>dV x _ _ e (fun t e h=>by
   cases t with
   | nrm=>exact dV y Q Q' e hq h
   | ext i=>exact hq _ _ h
   | ret=>exact hq _ _ h) h
 | .cond c x y,Q,Q',e,hq,h=>by
  rw [wpN] at h ⊢
  split at h
  ·exact ⟨fun hb=>dV x Q Q' e hq (h.1 hb),fun hb=>dV y Q Q' e hq (h.2 hb)⟩
  ·exact ⟨dV x Q Q' e hq h.1,dV y Q Q' e hq h.2⟩
  ·exact h.elim
 | .block id c,Q,Q',e,hq,h=>dV c _ _ e (fun t e h=>by
   cases t with
   | nrm=>exact hq _ _ h
   | ext i =>
    simp only at h ⊢
    split
    ·rename_i hi;rw [if_pos hi] at h;exact hq _ _ h
    ·rename_i hi;rw [if_neg hi] at h;exact hq _ _ h
   | ret=>exact hq _ _ h) h
 | .loop c,Q,Q',e,hq,h=>by
  obtain ⟨S,G,I,m,s0,h1,h2,h3⟩:=h
  refine ⟨S,G,I,m,s0,h1,h2,fun s hs=>dV c _ _ _ (fun t e h=>?_) (h3 s hs)⟩
  cases t with
  | nrm=>exact h
  | ext i=>exact hq _ _ h
  | ret=>exact hq _ _ h
 | .exit id,Q,Q',e,hq,h=>hq _ _ h
 | .ret,Q,Q',e,hq,h=>hq _ _ h
def tn (id : Nat) (S : Type) (G : S -> Env) (J : S -> Prop) (Q : cd -> Env -> Prop) : cd -> Env -> Prop:=fun t e=>match t with
 | .ext i=>if i=id then ∃ s,J s /\ jB e (G s) else Q (.ext i) e
 | t=>Q t e
variable {Q : cd -> Env -> Prop} {e : Env}
@[simp] theorem xq {id S G J u} : bM (tn id S G J Q) u .nrm e=bM Q ⟨⟩ .nrm e:=_root_.id rfl
@[simp] theorem xr {id S G J u} : bM (tn id S G J Q) u .ret e=bM Q ⟨⟩ .ret e:=_root_.id rfl
@[simp] theorem xp {id S G J u i} : bM (tn id S G J Q) u (.ext i) e=if i=id then ∃ s,J s /\ jB e (G s) else bM Q ⟨⟩ (.ext i) e:=_root_.id rfl
theorem pz {c : dg} {u : Tag (c,Q)} (id : Nat) (S : Type) (G : S -> Env) (J : S -> Prop) (h : rU C c (tn id S G J Q) ⟨⟩ e) (hr : ∀ s e,J s -> jB e (G s) -> bM Q ⟨⟩ (.ext id) e) : rU C c Q u e :=
 dV (.loop c) (tn id S G J Q) Q e (fun t e g=>by
  cases t with
  | nrm=>exact g
  | ret=>exact g
  | ext i =>
   simp only [tn] at g
   by_cases hi : i=id
   ·rw [if_pos hi] at g
    obtain ⟨s,h1,h2⟩:=g
    rw [hi]
    exact hr s e h1 h2
   ·rw [if_neg hi] at g
    exact g) h
def B1 (S : Type) (G : S -> Env) (J : S -> Prop) (Q : cd -> Env -> Prop) : cd -> Env -> Prop:=fun t e=>match t with
 | .nrm=>∃ s,J s /\ jB e (G s)
 | t=>Q t e
@[simp] theorem xn {S G J u} : bM (B1 S G J Q) u .nrm e=∃ s,J s /\ jB e (G s):=_root_.id rfl
@[simp] theorem xo {S G J u} : bM (B1 S G J Q) u .ret e=bM Q ⟨⟩ .ret e:=_root_.id rfl
@[simp] theorem xm {S G J u i} : bM (B1 S G J Q) u (.ext i) e=bM Q ⟨⟩ (.ext i) e:=_root_.id rfl
end
@[simp] theorem LM {C : CC} {hs : Option (List Nat)} {K : Env -> Prop} {ns : List ap} {dst : Option Nat} {u : Tag (hs,K,ns)} {e : Env} {R : List Nat} {acc : List (List Nat × List Nat)} {α : Type} [Inhabited α] {n : Nat} {ag : Bool} {p : Pa} {xs : List α} {f : α -> List D} {i off : Nat} :
  kL C hs K ns dst u e R acc n ag p (xs.map f) i off=(i < xs.length /\ off + n <= (f xs[i]!).length /\ match ag with
    | true=>((((f xs[i]!).drop off).take n).all isV=true -> dW C hs K ns dst ⟨⟩ e R acc (.agg (((f xs[i]!).drop off).take n))) /\
      ((((f xs[i]!).drop off).take n).all isV=false -> dW C hs K ns dst ⟨⟩ e R acc (.agx ((((f xs[i]!).drop off).take n).mapIdx fun j c=>ldc p i (off + j) c)))
    | false=>dW C hs K ns dst ⟨⟩ e R acc (ldc p i off (((f xs[i]!).drop off).headD .any))):=by
 apply propext
 constructor
 ·rintro ⟨r,h,h1,h2⟩
  rw [List.getElem?_map,Option.map_eq_some_iff] at h
  obtain ⟨x,hx,rfl⟩:=h
  obtain ⟨hi,rfl⟩:=List.getElem?_eq_some_iff.1 hx
  rw [getElem!_pos xs i hi]
  refine ⟨hi,h1,?_⟩
  cases ag <;> exact h2
 ·rintro ⟨hi,h1,h2⟩
  rw [getElem!_pos xs i hi] at h1 h2
  refine se (r:=f xs[i]) (by rw [List.getElem?_map,List.getElem?_eq_getElem hi];rfl) h1 ?_
  cases ag <;> exact h2
@[simp] theorem Fv {b all ks n} : aK ((b,all)::ks) (.ptx n)=if n.any (ay b all) then .any else aK ks (.ptx n):=by
 have h : aK ((b,all)::ks) (.ptx n)=bif (n.any (ay b all) || aw ks (.ptx n)) then .any else .ptx n:=bF ..
 rw [h,bF]
 cases n.any (ay b all) <;> rfl
@[simp] theorem Fx {b all ks k sz n} : aK ((b,all)::ks) (.rfx k sz n)=if n.any (ay b all) then .any else aK ks (.rfx k sz n):=by
 have h : aK ((b,all)::ks) (.rfx k sz n)=bif (n.any (ay b all) || aw ks (.rfx k sz n)) then .any else .rfx k sz n:=bF ..
 rw [h,bF]
 cases n.any (ay b all) <;> rfl
@[simp] theorem FB {b all ks n} : aK ((b,all)::ks) (.tpx n)=if n.any (ay b all) then .any else aK ks (.tpx n):=by
 have h : aK ((b,all)::ks) (.tpx n)=bif (n.any (ay b all) || aw ks (.tpx n)) then .any else .tpx n:=bF ..
 rw [h,bF]
 cases n.any (ay b all) <;> rfl
@[simp] theorem FQ {b all n es} : ay b all (slx n es)=false:=by cases n <;> cases es <;> rfl
@[simp] theorem FO {b all p k n} : ay b all (.ref p k n)=bj b all p:=_root_.id rfl
@[simp] theorem FI {b all p k n} : ay b all (.adr p k n)=bj b all p:=_root_.id rfl
@[simp] theorem FJ {b all T p k n} : ay b all (.ifa T p k n)=bj b all p:=_root_.id rfl
@[simp] theorem FK {b all T n} : ay b all (.ifi T n)=false:=_root_.id rfl
@[simp] theorem FP {b all k n} : ay b all (.slv k n)=false:=_root_.id rfl
@[simp] theorem FM {b all c} : ay b all (.mrf c)=(all && c == b):=_root_.id rfl
@[simp] theorem FL {b all k n} : ay b all (.int k n)=false:=_root_.id rfl
@[simp] theorem BX {b all n} : ay b all (.bool n)=false:=_root_.id rfl
@[simp] theorem FR {b all n} : ay b all (.str n)=false:=_root_.id rfl
@[simp] theorem BZ {b all} : ay b all .nils=false:=_root_.id rfl
@[simp] theorem BY {b all} : ay b all .nilp=false:=_root_.id rfl
@[simp] theorem Kz {b all n} : ay b all (.sl n)=false:=_root_.id rfl
@[simp] theorem FN {b all n} : ay b all (.ptr n)=false:=_root_.id rfl
@[simp] theorem Ky {b all g n} : ay b all (.fn g n)=false:=_root_.id rfl
@[simp] theorem Fs {b all ks c} : aK ((b,all)::ks) (.mrf c)=if (all && c == b) then .any else aK ks (.mrf c):=by
 have h : aK ((b,all)::ks) (.mrf c)=bif ((all && c == b) || aw ks (.mrf c)) then .any else .mrf c:=bF ..
 rw [h,bF]
 cases all && c == b <;> rfl
end Go.Gv

namespace Go.Gv
section
variable {C : CC} {hs : Option (List Nat)} {K : Env -> Prop} {ns : List ap} {dst : Option Nat} {u : Tag (hs,K,ns)} {e : Env} {R : List Nat} {acc : List (List Nat × List Nat)}
theorem aG {sz : Nat} {es : List (List D)} {i : Nat} {c : List D} (h : es[i]? = some c) : hG C hs K ns dst u e R acc sz es i=(c.length=sz /\ dW C hs K ns dst ⟨⟩ e R acc (.ptr c)):=by
 apply propext
 unfold hG dW
 rw [h]
 exact ⟨fun ⟨_,h1,h2⟩=>by cases h1;exact h2,fun h2=>⟨c,rfl,h2⟩⟩
theorem aU {n : Nat} {ag : Bool} {p : Pa} {es : List (List D)} {i off : Nat} {r : List D} (hr : es[i]? = some r) : kL C hs K ns dst u e R acc n ag p es i off=(off + n <= r.length /\ match ag with
    | true=>(((r.drop off).take n).all isV=true -> dW C hs K ns dst ⟨⟩ e R acc (.agg ((r.drop off).take n))) /\
      (((r.drop off).take n).all isV=false -> dW C hs K ns dst ⟨⟩ e R acc (.agx (((r.drop off).take n).mapIdx fun j c=>ldc p i (off + j) c)))
    | false=>dW C hs K ns dst ⟨⟩ e R acc (ldc p i off ((r.drop off).headD .any))):=by
 apply propext
 constructor
 ·rintro ⟨r',h,h1,h2⟩
  rw [hr] at h
  cases h
  refine ⟨h1,?_⟩
  cases ag <;> exact h2
 ·rintro ⟨h1,h2⟩
  refine se hr h1 ?_
  cases ag <;> exact h2
@[simp] theorem Io {sz : Nat} {c0 : List D} {es : List (List D)} : hG C hs K ns dst u e R acc sz (c0::es) 0=(c0.length=sz /\ dW C hs K ns dst ⟨⟩ e R acc (.ptr c0)):=aG rfl
theorem vO {n : Nat} {ag : Bool} {p : Pa} {off : Nat} {c0 : List D} {es : List (List D)} : kL C hs K ns dst u e R acc n ag p (c0::es) 0 off=(off + n <= c0.length /\ match ag with
    | true=>(((c0.drop off).take n).all isV=true -> dW C hs K ns dst ⟨⟩ e R acc (.agg ((c0.drop off).take n))) /\
      (((c0.drop off).take n).all isV=false -> dW C hs K ns dst ⟨⟩ e R acc (.agx (((c0.drop off).take n).mapIdx fun j c=>ldc p 0 (off + j) c)))
    | false=>dW C hs K ns dst ⟨⟩ e R acc (ldc p 0 off ((c0.drop off).headD .any))):=aU rfl
@[simp] theorem Ip {sz : Nat} {c0 c1 : List D} {es : List (List D)} : hG C hs K ns dst u e R acc sz (c0::c1::es) 1=(c1.length=sz /\ dW C hs K ns dst ⟨⟩ e R acc (.ptr c1)):=aG rfl
theorem vP {n : Nat} {ag : Bool} {p : Pa} {off : Nat} {c0 c1 : List D} {es : List (List D)} : kL C hs K ns dst u e R acc n ag p (c0::c1::es) 1 off=(off + n <= c1.length /\ match ag with
    | true=>(((c1.drop off).take n).all isV=true -> dW C hs K ns dst ⟨⟩ e R acc (.agg ((c1.drop off).take n))) /\
      (((c1.drop off).take n).all isV=false -> dW C hs K ns dst ⟨⟩ e R acc (.agx (((c1.drop off).take n).mapIdx fun j c=>ldc p 1 (off + j) c)))
    | false=>dW C hs K ns dst ⟨⟩ e R acc (ldc p 1 off ((c1.drop off).headD .any))):=aU rfl
@[simp] theorem Iq {sz : Nat} {c0 c1 c2 : List D} {es : List (List D)} : hG C hs K ns dst u e R acc sz (c0::c1::c2::es) 2=(c2.length=sz /\ dW C hs K ns dst ⟨⟩ e R acc (.ptr c2)):=aG rfl
theorem vQ {n : Nat} {ag : Bool} {p : Pa} {off : Nat} {c0 c1 c2 : List D} {es : List (List D)} : kL C hs K ns dst u e R acc n ag p (c0::c1::c2::es) 2 off=(off + n <= c2.length /\ match ag with
    | true=>(((c2.drop off).take n).all isV=true -> dW C hs K ns dst ⟨⟩ e R acc (.agg ((c2.drop off).take n))) /\
      (((c2.drop off).take n).all isV=false -> dW C hs K ns dst ⟨⟩ e R acc (.agx (((c2.drop off).take n).mapIdx fun j c=>ldc p 2 (off + j) c)))
    | false=>dW C hs K ns dst ⟨⟩ e R acc (ldc p 2 off ((c2.drop off).headD .any))):=aU rfl
@[simp] theorem Ir {sz : Nat} {c0 c1 c2 c3 : List D} {es : List (List D)} : hG C hs K ns dst u e R acc sz (c0::c1::c2::c3::es) 3=(c3.length=sz /\ dW C hs K ns dst ⟨⟩ e R acc (.ptr c3)):=aG rfl
theorem vR {n : Nat} {ag : Bool} {p : Pa} {off : Nat} {c0 c1 c2 c3 : List D} {es : List (List D)} : kL C hs K ns dst u e R acc n ag p (c0::c1::c2::c3::es) 3 off=(off + n <= c3.length /\ match ag with
    | true=>(((c3.drop off).take n).all isV=true -> dW C hs K ns dst ⟨⟩ e R acc (.agg ((c3.drop off).take n))) /\
      (((c3.drop off).take n).all isV=false -> dW C hs K ns dst ⟨⟩ e R acc (.agx (((c3.drop off).take n).mapIdx fun j c=>ldc p 3 (off + j) c)))
    | false=>dW C hs K ns dst ⟨⟩ e R acc (ldc p 3 off ((c3.drop off).headD .any))):=aU rfl
@[simp] theorem Is {sz : Nat} {c0 c1 c2 c3 c4 : List D} {es : List (List D)} : hG C hs K ns dst u e R acc sz (c0::c1::c2::c3::c4::es) 4=(c4.length=sz /\ dW C hs K ns dst ⟨⟩ e R acc (.ptr c4)):=aG rfl
theorem vT {n : Nat} {ag : Bool} {p : Pa} {off : Nat} {c0 c1 c2 c3 c4 : List D} {es : List (List D)} : kL C hs K ns dst u e R acc n ag p (c0::c1::c2::c3::c4::es) 4 off=(off + n <= c4.length /\ match ag with
    | true=>(((c4.drop off).take n).all isV=true -> dW C hs K ns dst ⟨⟩ e R acc (.agg ((c4.drop off).take n))) /\
      (((c4.drop off).take n).all isV=false -> dW C hs K ns dst ⟨⟩ e R acc (.agx (((c4.drop off).take n).mapIdx fun j c=>ldc p 4 (off + j) c)))
    | false=>dW C hs K ns dst ⟨⟩ e R acc (ldc p 4 off ((c4.drop off).headD .any))):=aU rfl
attribute [simp] vO vP vQ vR vT
end
end Go.Gv

namespace Go.Gv
section
variable {C : CC} {hs : Option (List Nat)} {K : Env -> Prop} {ns : List ap} {dst : Option Nat} {u : Tag (hs,K,ns)} {e : Env} {R : List Nat} {acc : List (List Nat × List Nat)}
@[simp] theorem It {sz : Nat} {c0 c1 c2 c3 c4 c5 : List D} {es : List (List D)} : hG C hs K ns dst u e R acc sz (c0::c1::c2::c3::c4::c5::es) 5=(c5.length=sz /\ dW C hs K ns dst ⟨⟩ e R acc (.ptr c5)):=aG rfl
@[simp] theorem LI {n : Nat} {ag : Bool} {p : Pa} {off : Nat} {c0 c1 c2 c3 c4 c5 : List D} {es : List (List D)} : kL C hs K ns dst u e R acc n ag p (c0::c1::c2::c3::c4::c5::es) 5 off=(off + n <= c5.length /\ match ag with
    | true=>(((c5.drop off).take n).all isV=true -> dW C hs K ns dst ⟨⟩ e R acc (.agg ((c5.drop off).take n))) /\
      (((c5.drop off).take n).all isV=false -> dW C hs K ns dst ⟨⟩ e R acc (.agx (((c5.drop off).take n).mapIdx fun j c=>ldc p 5 (off + j) c)))
    | false=>dW C hs K ns dst ⟨⟩ e R acc (ldc p 5 off ((c5.drop off).headD .any))):=aU rfl
@[simp] theorem Iu {sz : Nat} {c0 c1 c2 c3 c4 c5 c6 : List D} {es : List (List D)} : hG C hs K ns dst u e R acc sz (c0::c1::c2::c3::c4::c5::c6::es) 6=(c6.length=sz /\ dW C hs K ns dst ⟨⟩ e R acc (.ptr c6)):=aG rfl
@[simp] theorem LJ {n : Nat} {ag : Bool} {p : Pa} {off : Nat} {c0 c1 c2 c3 c4 c5 c6 : List D} {es : List (List D)} : kL C hs K ns dst u e R acc n ag p (c0::c1::c2::c3::c4::c5::c6::es) 6 off=(off + n <= c6.length /\ match ag with
    | true=>(((c6.drop off).take n).all isV=true -> dW C hs K ns dst ⟨⟩ e R acc (.agg ((c6.drop off).take n))) /\
      (((c6.drop off).take n).all isV=false -> dW C hs K ns dst ⟨⟩ e R acc (.agx (((c6.drop off).take n).mapIdx fun j c=>ldc p 6 (off + j) c)))
    | false=>dW C hs K ns dst ⟨⟩ e R acc (ldc p 6 off ((c6.drop off).headD .any))):=aU rfl
@[simp] theorem Iv {sz : Nat} {c0 c1 c2 c3 c4 c5 c6 c7 : List D} {es : List (List D)} : hG C hs K ns dst u e R acc sz (c0::c1::c2::c3::c4::c5::c6::c7::es) 7=(c7.length=sz /\ dW C hs K ns dst ⟨⟩ e R acc (.ptr c7)):=aG rfl
@[simp] theorem LK {n : Nat} {ag : Bool} {p : Pa} {off : Nat} {c0 c1 c2 c3 c4 c5 c6 c7 : List D} {es : List (List D)} : kL C hs K ns dst u e R acc n ag p (c0::c1::c2::c3::c4::c5::c6::c7::es) 7 off=(off + n <= c7.length /\ match ag with
    | true=>(((c7.drop off).take n).all isV=true -> dW C hs K ns dst ⟨⟩ e R acc (.agg ((c7.drop off).take n))) /\
      (((c7.drop off).take n).all isV=false -> dW C hs K ns dst ⟨⟩ e R acc (.agx (((c7.drop off).take n).mapIdx fun j c=>ldc p 7 (off + j) c)))
    | false=>dW C hs K ns dst ⟨⟩ e R acc (ldc p 7 off ((c7.drop off).headD .any))):=aU rfl
end
end Go.Gv

namespace Go.Gv
section
variable {C : CC} {hs : Option (List Nat)} {K : Env -> Prop} {ns : List ap} {e : Env} {R : List Nat} {acc : List (List Nat × List Nat)}
end
end Go.Gv

namespace Go.Gv
section
variable {C : CC} {hs : Option (List Nat)} {K : Env -> Prop} {ns : List ap} {e : Env} {R : List Nat} {acc : List (List Nat × List Nat)}
end
end Go.Gv

namespace Go.Gv
section
variable {C : CC} {hs : Option (List Nat)} {K : Env -> Prop} {ns : List ap} {dst : Option Nat} {e : Env} {R : List Nat} {acc : List (List Nat × List Nat)} {u : Tag (hs,K,ns)}
@[simp] theorem Gj : jP none=[]:=_root_.id rfl
@[simp] theorem Gk {x : Opd} : jP (some x)=[x]:=_root_.id rfl
@[simp] theorem LF {c c' k n : Nat} {q : Pa} : jU c q (.ref (.r c') k n)=if c'=c then .ref q k n else .ref (.r c') k n:=_root_.id rfl
@[simp] theorem Gn {c b i o k n : Nat} {q : Pa} : jU c q (.ref (.n b i o) k n)=.ref (.n b i o) k n:=_root_.id rfl
@[simp] theorem Q4 {c : Nat} {q : Pa} {es} : jU c q (.sl es)=.sl es:=_root_.id rfl
@[simp] theorem Gm {c : Nat} {q : Pa} : jU c q .nils=.nils:=_root_.id rfl
@[simp] theorem LE {c : Nat} {q : Pa} {k n} : jU c q (.int k n)=.int k n:=_root_.id rfl
@[simp] theorem LG {c : Nat} {q : Pa} {b es} : jU c q (slx b es)=slx b es:=by cases b <;> cases es <;> rfl
@[simp] theorem BL {b c i o k n : Nat} : iz b (.ref (.n c i o) k n)=(c != b || (i == 0 && o == 1)):=_root_.id rfl
@[simp] theorem BM {b c k n : Nat} : iz b (.ref (.r c) k n)=true:=_root_.id rfl
@[simp] theorem J9 {b : Nat} {es} : iz b (.sl es)=true:=_root_.id rfl
@[simp] theorem BJ {b : Nat} : iz b .nils=true:=_root_.id rfl
@[simp] theorem Fd {b : Nat} {k n} : iz b (.int k n)=true:=_root_.id rfl
@[simp] theorem Fe {b : Nat} {x es} : iz b (slx x es)=true:=by cases x <;> cases es <;> rfl
def xM (C : CC) (hs : Option (List Nat)) (K : Env -> Prop) (ns : List ap) (dst : Option Nat) (_ : Tag (hs,K,ns)) (e : Env) (R : List Nat) (acc : List (List Nat × List Nat)) (T : Nat) (d : D) : Prop:=match d with
 | .adr p i off=>dW C hs K ns dst ⟨⟩ e R acc (.ifa T p i off)
 | .int k n=>k=.i64 /\ dW C hs K ns dst ⟨⟩ e R acc (.ifi T n)
 | _=>False
@[simp] theorem QO {T x v1} : opW C hs K ns dst (.mkI T x) v1 e R acc=xM C hs K ns dst ⟨⟩ e R acc T (vd (ab e) x):=by
 show res (ab e) _ (.mkI T x)=_
 simp only [res,xM]
 cases vd (ab e) x <;> rfl
@[simp] theorem KA {T p i off} : xM C hs K ns dst u e R acc T (.adr p i off)=dW C hs K ns dst ⟨⟩ e R acc (.ifa T p i off):=_root_.id rfl
@[simp] theorem KB {T k n} : xM C hs K ns dst u e R acc T (.int k n)=(k=.i64 /\ dW C hs K ns dst ⟨⟩ e R acc (.ifi T n)):=_root_.id rfl
def CY (C : CC) (hs : Option (List Nat)) (K : Env -> Prop) (ns : List ap) (dst : Option Nat) (_ : Tag (hs,K,ns)) (e : Env) (R : List Nat) (acc : List (List Nat × List Nat)) (T : Nat) (d : D) : Prop:=match d with
 | .ifi T' n=>T'=T /\ dW C hs K ns dst ⟨⟩ e R acc (.int .i64 n)
 | _=>False
@[simp] theorem QZ {T x v1} : opW C hs K ns dst (.tya T x) v1 e R acc=CY C hs K ns dst ⟨⟩ e R acc T (vd (ab e) x):=by
 show res (ab e) _ (.tya T x)=_
 simp only [res,CY]
 cases vd (ab e) x <;> rfl
@[simp] theorem Mc {T T' n} : CY C hs K ns dst u e R acc T (.ifi T' n)=(T'=T /\ dW C hs K ns dst ⟨⟩ e R acc (.int .i64 n)):=_root_.id rfl
def qT (C : CC) (g : Nat) (hs : Option (List Nat)) (K : Env -> Prop) (ns : List ap) (dst : Option Nat) (_ : Tag (hs,K,ns)) (e : Env) (R : List Nat) (acc : List (List Nat × List Nat)) (b sz : Nat) (es : List (List D)) (W : List D) : Prop :=
 ∃ d,∃ es' : List (List D),0 < es'.length /\ C g (.blk sz es::W) d [.blk sz es',.nilp] /\ doW C hs K ns ⟨⟩ e R acc (bP dst d++[(b,.blk sz es')]) [(b,false)]
theorem bX {g b sz : Nat} {es es' : List (List D)} {W : List D} {d : D} (h : C g (.blk sz es::W) d [.blk sz es',.nilp]) (hp : 0 < es'.length)
  (hk : doW C hs K ns ⟨⟩ e R acc (bP dst d++[(b,.blk sz es')]) [(b,false)]) : qT C g hs K ns dst u e R acc b sz es W:=⟨d,es',hp,h,hk⟩
def Hf (C : CC) (g : Nat) (hs : Option (List Nat)) (K : Env -> Prop) (ns : List ap) (dst : Option Nat) (_ : Tag (hs,K,ns)) (e : Env) (R : List Nat) (acc : List (List Nat × List Nat)) (T : Nat) (xs : List Opd) (d : D) : Prop:=match d with
 | .ifa T' (.r b) i off=>T'=T /\ i=0 /\ off=0 /\ cI (ab e b) (fun sz es=>0 < es.length /\ (∀ x ∈ xs,isV (vd (ab e) x)=true) /\ qT C g hs K ns dst ⟨⟩ e R acc b sz es (.adr (.r 10015) 0 0::xs.map (vd (ab e)))) ⟨⟩
 | _=>False
@[simp] theorem Rk {g xs T T' b i off} : Hf C g hs K ns dst u e R acc T xs (.ifa T' (.r b) i off)=(T'=T /\ i=0 /\ off=0 /\ cI (ab e b) (fun sz es=>0 < es.length /\ (∀ x ∈ xs,isV (vd (ab e) x)=true) /\ qT C g hs K ns dst ⟨⟩ e R acc b sz es (.adr (.r 10015) 0 0::xs.map (vd (ab e)))) ⟨⟩):=_root_.id rfl
@[simp] theorem F7 {g m T x xs v1} : opW C hs K ns dst (.callI g m T x xs) v1 e R acc=Hf C g hs K ns dst ⟨⟩ e R acc T xs (vd (ab e) x):=by
 unfold opW
 simp only [aq]
 cases vd (ab e) x <;> first | rfl | skip
def Hg (C : CC) (g : Nat) (hs : Option (List Nat)) (K : Env -> Prop) (ns : List ap) (dst : Option Nat) (_ : Tag (hs,K,ns)) (e : Env) (R : List Nat) (acc : List (List Nat × List Nat)) (xs : List Opd) (d : D) : Prop:=match d with
 | .ifa T (.r b) i off=>i=0 /\ off=0 /\ cI (ab e b) (fun sz es=>0 < es.length /\ (∀ x ∈ xs,isV (vd (ab e) x)=true) /\ qT C g hs K ns dst ⟨⟩ e R acc b sz es (.ifa T (.r 10015) 0 0::xs.map (vd (ab e)))) ⟨⟩
 | _=>False
@[simp] theorem Rm {g xs T b i off} : Hg C g hs K ns dst u e R acc xs (.ifa T (.r b) i off)=(i=0 /\ off=0 /\ cI (ab e b) (fun sz es=>0 < es.length /\ (∀ x ∈ xs,isV (vd (ab e) x)=true) /\ qT C g hs K ns dst ⟨⟩ e R acc b sz es (.ifa T (.r 10015) 0 0::xs.map (vd (ab e)))) ⟨⟩):=_root_.id rfl
@[simp] theorem F9 {g x xs v1} : opW C hs K ns dst (.callM g x xs) v1 e R acc=Hg C g hs K ns dst ⟨⟩ e R acc xs (vd (ab e) x):=by
 unfold opW
 simp only [aq]
 cases vd (ab e) x <;> first | rfl | skip
def zW (C : CC) (g : Nat) (hs : Option (List Nat)) (K : Env -> Prop) (ns : List ap) (dst : Option Nat) (_ : Tag (hs,K,ns)) (e : Env) (R : List Nat) (acc : List (List Nat × List Nat)) (xs : List Opd) (d : D) : Prop:=match d with
 | .ref (.r b) k n=>k=0 /\ cI (ab e b) (fun sz es=>0 < es.length /\ es.length=n /\ (∀ x ∈ xs,isV (vd (ab e) x)=true) /\ qT C g hs K ns dst ⟨⟩ e R acc b sz es (.ref (.r 10015) 0 n::xs.map (vd (ab e)))) ⟨⟩
 | _=>False
@[simp] theorem Mu {g xs b k n} : zW C g hs K ns dst u e R acc xs (.ref (.r b) k n)=(k=0 /\ cI (ab e b) (fun sz es=>0 < es.length /\ es.length=n /\ (∀ x ∈ xs,isV (vd (ab e) x)=true) /\ qT C g hs K ns dst ⟨⟩ e R acc b sz es (.ref (.r 10015) 0 n::xs.map (vd (ab e)))) ⟨⟩):=_root_.id rfl
@[simp] theorem Gb {g x xs v1} : opW C hs K ns dst (.callR g x xs) v1 e R acc=zW C g hs K ns dst ⟨⟩ e R acc xs (vd (ab e) x):=by
 unfold opW
 simp only [aq]
 cases vd (ab e) x <;> first | rfl | skip
theorem yQ {x y : Opd} {v1 : _} {b i off n sz0 sz : Nat} {es0 es : List (List D)} {row0 : List D} (hx : vd (ab e) x=.adr (.r b) i off) (hy : vd (ab e) y=.ref (.n b i off) 0 n) (hb : ab e b=.blk sz0 es0) (h1 : es0[i]? = some row0) (h2 : row0[off]? = some (.own sz es)) (h3 : n <= es.length)
  (hk : doW C hs K ns ⟨⟩ e R acc [(b,.blk sz0 (a7 es0 i off 1 [.own sz (es.take n)]))] []) : opW C hs K ns none (.stL x y) v1 e R acc:=by
 unfold opW
 simp only [aq]
 refine ⟨trivial,?_⟩
 rw [hx,hy]
 refine ⟨rfl,rfl,rfl,rfl,?_⟩
 rw [hb]
 exact ⟨row0,h1,sz,es,h2,h3,hk⟩
theorem kq {g s : Nat} {x : Opd} {xs : List Opd} {v1 : _} {T b sz sz1 sz2 : Nat} {fs sp fs' : List (List D)} {ds : List D} {d : D} (hx : vd (ab e) x=.ifa T (.r b) 0 0) (hs0 : s < 10000) (hd : dst ≠ some s) (hxs : ∀ x ∈ xs,aT (vd (ab e) x)=true)
  (hb : ab e b=.blk sz [[.own sz1 fs,.own sz2 sp]]) (hs1 : ab e s=.ptx ds) (hk1 : ds.all (iz b)=true) (f1 : ∀ e ∈ fs,∀ c ∈ e,aT c=true) (f2 : ∀ e ∈ sp,∀ c ∈ e,aT c=true) (hd1 : aT d=true \/ d=.tup []) (f3 : ∀ e ∈ fs',∀ c ∈ e,aT c=true)
  (hc : C g (.blk sz [[.own sz1 fs,.slv 0 sp]]::.ifa T (.r 10015) 0 0::xs.map (vd (ab e))) d [.blk sz [[.own sz1 fs',.slv 0 sp]],.nils])
  (hk : doW C hs K ns ⟨⟩ e R acc (bP dst d++[(b,.blk sz [[.own sz1 fs',.own sz2 sp]]),(s,.ptx ds)]) [(b,false)]) : opW C hs K ns dst (.callQ g s x xs) v1 e R acc:=by
 unfold opW
 simp only [aq]
 rw [hx]
 refine ⟨rfl,rfl,hs0,hd,hxs,?_⟩
 rw [hb]
 simp only
 rw [hs1]
 exact ⟨hk1,f1,f2,d,fs',hd1,f3,hc,hk⟩
theorem uf {s t : Nat} {x : Opd} {v1 : _} {c n sz : Nat} {es : List (List D)} {ds : List D} (hs0 : s < 10000) (hst : s ≠ t) (hx : vd (ab e) x=.agx [.nils,.ref (.r c) 0 n]) (hc : c ≠ rt t 0) (hcb : ab e c=.blk sz es) (hsz : 0 < sz) (hl : es.length=n) (h1 : ∀ e ∈ es,∀ c ∈ e,au c=true)
  (hs1 : ab e s=.ptx ds) (hm : (ds.all fun d=>!ay (rt t 0) true d)=true)
  (hk0 : n=0 -> doW C hs K ns ⟨⟩ e R acc [(t,.adr (.r (rt t 0)) 0 0),(rt t 0,.blk 2 [[.own sz [],.any]])] [(rt t 0,true)])
  (hk : 0 < n -> doW C hs K ns ⟨⟩ e R acc [(t,.adr (.r (rt t 0)) 0 0),(rt t 0,.blk 2 [[.own sz [],.own sz es]]),(c,.any),(s,.ptx (ds.map (jU c (.n (rt t 0) 0 1))))] [(rt t 0,true)]) : opW C hs K ns (some t) (.boxK s x) v1 e R acc:=by
 unfold opW
 simp only [aq]
 refine ⟨hs0,hst,?_⟩
 rw [hx]
 refine ⟨rfl,hc,?_⟩
 rw [hcb]
 refine ⟨hsz,hl,h1,?_⟩
 rw [hs1]
 refine ⟨hm,?_⟩
 by_cases hn : n=0
 ·rw [if_pos hn];exact hk0 hn
 ·rw [if_neg hn];exact hk (Nat.pos_of_ne_zero hn)
end
end Go.Gv

namespace Go.Gv
def pq (c : Int) : Bool:=(97 <= c && c <= 122) || (65 <= c && c <= 90)
def xH (c : Int) : Bool:=48 <= c && c <= 57
def xI (c : UInt8) : Bool:=pq c.toNat || xH c.toNat || c.toNat == 95
def yZ (s : List UInt8) : Nat:=(s.takeWhile xI).length
def lA (n : Int) : Bool:=-1125899906842624 <= n && n <= 1125899906842624
def R9 (s : List UInt8) : Bool:=s ≠ [] && s.length <= 20 && pq (s[0]!).toNat && yZ s == s.length
theorem ah {n m : Int} (h : n=m) (h2 : -9223372036854775808 <= m /\ m < 9223372036854775808) : IntKind.wrap .i64 n=m:=by
 subst h
 have e1 : IntKind.i64.signed=true:=rfl
 have e2 : (2 ^ (IntKind.i64.bits - 1) : Int)=9223372036854775808:=rfl
 have e3 : (2 ^ IntKind.i64.bits : Int)=18446744073709551616:=rfl
 unfold IntKind.wrap
 simp only [e1,e2,e3,Bool.true_and,decide_eq_true_eq]
 split <;> omega
variable {C : CC} (hC : az prog C)
include hC
end Go.Gv

namespace Go.Gv
structure SlI where
 n : Bool
 l : List Int
 deriving Inhabited
def slI (x : SlI) : D:=slx x.n (x.l.map fun n=>[.int .i64 n])
def knD (k : Int × Int) : List D:=[.int .i64 k.1,.int .i64 k.2]
structure Sec where
 name : List UInt8
 height : Int
 price : Int
 areaN : Bool
 area : List (Int × Int)
 convN : Bool
 conv : List (Int × Int)
 deriving Inhabited
def Ti (s : Sec) : List D:=[.str s.name,.int .i64 s.height,.int .i64 s.price,slx s.areaN (s.area.map knD),slx s.convN (s.conv.map knD)]
def hD {α : Type} (p : α -> Bool) (xs : List α) : Int:=match xs.findIdx? p with
 | some i=>i
 | none=>-1
theorem gq {α : Type} {p : α -> Bool} {xs : List α} {i : Nat} (hj : ∀ (j : Nat) (h : j < xs.length),j < i -> p xs[j]=false) (hi : i < xs.length) (h : p xs[i]=true) : hD p xs=i:=by
 have : xs.findIdx? p=some i:=by
  rw [List.findIdx?_eq_some_iff_getElem]
  exact ⟨hi,h,fun j hji=>by simp [hj j (by omega) hji]⟩
 simp [hD,this]
theorem iR {α : Type} {p : α -> Bool} {xs : List α} (hj : ∀ (j : Nat) (h : j < xs.length),p xs[j]=false) : hD p xs=-1:=by
 have : xs.findIdx? p=none:=by
  rw [List.findIdx?_eq_none_iff]
  intro x hx
  obtain ⟨j,h,rfl⟩:=List.mem_iff_getElem.1 hx
  exact hj j h
 simp [hD,this]
theorem mf {α : Type} (p : α -> Bool) (xs : List α) : decide (0 <= hD p xs)=xs.any p:=by
 unfold hD
 split
 ·rename_i i h
  rw [List.findIdx?_eq_some_iff_getElem] at h
  obtain ⟨h1,h2,_⟩:=h
  have : xs.any p=true:=List.any_eq_true.2 ⟨_,List.getElem_mem h1,h2⟩
  simp [this]
 ·rename_i h
  rw [List.findIdx?_eq_none_iff] at h
  have : xs.any p=false:=by rw [List.any_eq_false];intro x hx;simp [h x hx]
  simp [this]
variable {C : CC} (hC : az prog C)
include hC
theorem u9 {b : Bool} {xs : List Int} {g : Nat} {cs : List D} (p : Int -> Bool) (hs : xs.length < 2 ^ 62) (hp : ∀ x ∈ xs,C g (.int .i64 x::cs) (.bool (p x)) []) : C 35 [slx b (xs.map fun x=>[.int .i64 x]),.fn g cs] (.int .i64 (hD p xs)) []:=by
 refine aF hC (nf:=N35) rfl rfl ?_
 simp [N35]
 refine aD Nat (fun i=>[(0,slx b (xs.map fun x=>[.int .i64 x])),(1,.fn g cs),(7,.int .i64 xs.length),(8,.int .i64 i)]) (fun i=>i <= xs.length /\ ∀ (j : Nat) (h : j < xs.length),j < i -> p xs[j]=false) (fun i=>xs.length - i) 0 (by simp) (by simp) ?_
 rintro i ⟨hi,hj⟩
 simp
 refine al (fun h=>?_) (fun h=>?_) <;> simp [h] <;> simp at h
 ·have hw : IntKind.wrap .i64 ((i : Int) + 1)=((i + 1 : Nat) : Int):=ah (by omega) (by omega)
  have hc:=hp _ (List.getElem_mem h)
  simp [h,List.getElem_map] at hc ⊢
  refine aa hc (.inl rfl) ?_
  simp
  refine al (fun h1=>?_) (fun h1=>?_) <;> simp [h1,hw]
  ·rw [gq hj h h1]
  ·refine ⟨i + 1,⟨by omega,fun j hl hjj=>?_⟩,by omega,rfl⟩
   rcases Nat.lt_succ_iff_lt_or_eq.1 hjj with h2 | rfl
   ·exact hj j hl h2
   ·exact h1
 ·rw [iR (fun j hl=>hj j hl (by omega))]
theorem pi {b : Bool} {xs : List Int} {g : Nat} {cs : List D} (p : Int -> Bool) (hs : xs.length < 2 ^ 62) (hp : ∀ x ∈ xs,C g (.int .i64 x::cs) (.bool (p x)) []) : C 11 [slx b (xs.map fun x=>[.int .i64 x]),.fn g cs] (.bool (xs.any p)) []:=by
 refine aF hC (nf:=N11) rfl rfl ?_
 simp [N11]
 refine aa (u9 hC p hs hp) (.inl rfl) ?_
 simp [mf]
end Go.Gv

namespace Go.Gv
structure Spt where
 x : Int
 y : Int
 z : Int
 deriving Inhabited,DecidableEq
structure Fce where
 a : Int
 b : Int
 c : Int
 k : Int
 deriving Inhabited,DecidableEq
structure Msh where
 sn : Bool
 s : List Spt
 fn : Bool
 f : List Fce
def dt (s : Spt) : List D:=[.int .i64 s.x,.int .i64 s.y,.int .i64 s.z]
def bU (f : Fce) : List D:=[.int .i64 f.a,.int .i64 f.b,.int .i64 f.c,.int .i64 f.k]
def b7 (m : Msh) : List D:=[slx m.sn (m.s.map dt),slx m.fn (m.f.map bU)]
theorem j0 (s : Spt) : dt s=[.int .i64 s.x,.int .i64 s.y,.int .i64 s.z]:=_root_.id rfl
theorem bu (f : Fce) : bU f=[.int .i64 f.a,.int .i64 f.b,.int .i64 f.c,.int .i64 f.k]:=_root_.id rfl
theorem ai (m : Msh) : b7 m=[slx m.sn (m.s.map dt),slx m.fn (m.f.map bU)]:=_root_.id rfl
def spt (m : Msh) (i : Nat) : Spt:=m.s[i]!
def fce (m : Msh) (i : Nat) : Fce:=m.f[i]!
@[simp high] theorem SL (m : Msh) (i : Nat) : m.s[i]! = spt m i:=_root_.id rfl
@[simp high] theorem RV (m : Msh) (i : Nat) : m.f[i]! = fce m i:=_root_.id rfl
@[simp high] theorem SM (m : Msh) (i : Nat) : m.s[i]?.getD default=spt m i:=by simp only [spt,List.getElem!_eq_getElem?_getD]
@[simp high] theorem RW (m : Msh) (i : Nat) : m.f[i]?.getD default=fce m i:=by simp only [fce,List.getElem!_eq_getElem?_getD]
@[simp] theorem S4 (m : Msh) (i : Nat) (h : i < m.s.length) : m.s[i]=spt m i:=(getElem!_pos m.s i h).symm
@[simp] theorem nw (m : Msh) (i : Nat) (h : i < m.f.length) : m.f[i]=fce m i:=(getElem!_pos m.f i h).symm
abbrev Pnt:=Int × Int
def ptD (p : Pnt) : List D:=[.int .i64 p.1,.int .i64 p.2]
def ptS (s : Spt) : Pnt:=(s.x,s.y)
def okP (p : Pnt) : Bool:=-16777216 <= p.1 && p.1 <= 16777216 && -16777216 <= p.2 && p.2 <= 16777216
def aV (s : Spt) : Bool:=-16777216 <= s.x && s.x <= 16777216 && -16777216 <= s.y && s.y <= 16777216 && -4194304 <= s.z && s.z <= 4194304
theorem oC {s : Spt} (h : aV s=true) : okP (ptS s)=true:=by
 simp only [aV,Bool.and_eq_true,decide_eq_true_eq] at h
 show okP (s.x,s.y)=true
 simp [okP]
 omega
def dw (a b c : Pnt) : Int:=(b.1 - a.1) * (c.2 - a.2) - (b.2 - a.2) * (c.1 - a.1)
theorem vm {a b k l : Int} (h1 : -k <= a) (h2 : a <= k) (h3 : -l <= b) (h4 : b <= l) : -(k * l) <= a * b /\ a * b <= k * l:=by
 have hk : 0 <= k:=by omega
 have hl : 0 <= l:=by omega
 have e1:=Int.mul_nonneg (show 0 <= k - a by omega) (show 0 <= l - b by omega)
 have e2:=Int.mul_nonneg (show 0 <= k + a by omega) (show 0 <= l + b by omega)
 have e3:=Int.mul_nonneg (show 0 <= k - a by omega) (show 0 <= l + b by omega)
 have e4:=Int.mul_nonneg (show 0 <= k + a by omega) (show 0 <= l - b by omega)
 simp only [Int.sub_mul,Int.mul_sub,Int.add_mul,Int.mul_add] at e1 e2 e3 e4
 omega
theorem jq {p : Pnt} (h : okP p=true) : -16777216 <= p.1 /\ p.1 <= 16777216 /\ -16777216 <= p.2 /\ p.2 <= 16777216:=by
 simp only [okP,Bool.and_eq_true,decide_eq_true_eq] at h
 omega
theorem sr {a b c : Pnt} (ha : okP a=true) (hb : okP b=true) (hc : okP c=true) :
  (-1125899906842624 <= (b.1 - a.1) * (c.2 - a.2) /\ (b.1 - a.1) * (c.2 - a.2) <= 1125899906842624) /\ (-1125899906842624 <= (b.2 - a.2) * (c.1 - a.1) /\ (b.2 - a.2) * (c.1 - a.1) <= 1125899906842624):=by
 have:=jq ha
 have:=jq hb
 have:=jq hc
 exact ⟨vm (k:=33554432) (l:=33554432) (by omega) (by omega) (by omega) (by omega),vm (k:=33554432) (l:=33554432) (by omega) (by omega) (by omega) (by omega)⟩
abbrev Tri:=Pnt × Pnt × Pnt
def b5 (t : Tri) : List D:=[.int .i64 t.1.1,.int .i64 t.1.2,.int .i64 t.2.1.1,.int .i64 t.2.1.2,.int .i64 t.2.2.1,.int .i64 t.2.2.2]
def okT (t : Tri) : Bool:=okP t.1 && okP t.2.1 && okP t.2.2
def jc (t : Tri) : Int:=dw t.1 t.2.1 t.2.2
def mR (p q : Pnt) (u : Tri) : Bool:=dw p q u.1 <= 0 && dw p q u.2.1 <= 0 && dw p q u.2.2 <= 0
def tw (t u : Tri) : Bool:=mR t.1 t.2.1 u || mR t.2.1 t.2.2 u || mR t.2.2 t.1 u
def ovT (t u : Tri) : Bool:=!tw t u && !tw u t
def aY (m : Msh) (f : Fce) : Tri:=(ptS (spt m f.a.toNat),ptS (spt m f.b.toNat),ptS (spt m f.c.toNat))
def crn (f : Fce) : Nat -> Int
 | 0=>f.a
 | 1=>f.b
 | 2=>f.c
 | 3=>f.a
 | 4=>f.b
 | _=>f.c
def fz (n : Nat) (a : Int) : Bool:=0 <= a && a < n
def inS (m : Msh) (f : Fce) : Bool:=fz m.s.length f.a && fz m.s.length f.b && fz m.s.length f.c
theorem jj {m : Msh} {f : Fce} (h : inS m f=true) : (0 <= f.a /\ f.a.toNat < m.s.length) /\ (0 <= f.b /\ f.b.toNat < m.s.length) /\ (0 <= f.c /\ f.c.toNat < m.s.length):=by
 simp only [inS,fz,Bool.and_eq_true,decide_eq_true_eq] at h
 omega
variable {C : CC} (hC : az prog C)
include hC
theorem vF (p : Pnt) : C 313 [.agg (ptD p)] (.bool (okP p)) []:=by
 refine aF hC (nf:=N313) rfl rfl ?_
 simp [N313,ptD,okP]
 repeat' (refine al (fun h=>?_) (fun h=>?_) <;> simp at h <;> simp [h] <;> try omega)
theorem pC (s : Spt) : C 303 [.agg (dt s)] (.bool (aV s)) []:=by
 have k:=vF hC (s.x,s.y)
 simp [ptD,okP] at k
 refine aF hC (nf:=N303) rfl rfl ?_
 simp [N303,dt,aV]
 refine aa k (.inl rfl) ?_
 simp
 repeat' (refine al (fun h=>?_) (fun h=>?_) <;> simp at h <;> simp [h] <;> try omega)
theorem pD (m : Msh) : C 302 [.agg (b7 m)] (.bool (decide (m.s.length <= 2000) && decide (m.f.length <= 4000))) []:=by
 refine aF hC (nf:=N302) rfl rfl ?_
 simp [N302,b7]
 refine al (fun h=>?_) (fun h=>?_) <;> simp at h <;> simp [h]
 ·rw [decide_eq_true (show m.s.length <= 2000 by omega)]
  simp
  exact Iff.intro (fun h2=>by omega) (fun h2=>by omega)
 ·omega
theorem jM (m : Msh) (i : Nat) (h : i < m.s.length) : C 304 [.agg (b7 m),.int .i64 i] (.agg (ptD (ptS (spt m i)))) []:=by
 refine aF hC (nf:=N304) rfl rfl ?_
 simp [N304,b7,h,j0,ptD,ptS]
 exact aL (by decide +kernel)
theorem mj (f : Fce) : C 305 [.agg (bU f)] (.agg [.int .i64 f.a,.int .i64 f.b,.int .i64 f.c]) []:=by
 refine aF hC (nf:=N305) rfl rfl ?_
 simp [N305,bU]
theorem om (f : Fce) (k : Nat) (hk : k < 3) : C 298 [.agg (bU f),.int .i64 k] (.agg [.int .i64 (crn f k),.int .i64 (crn f (k + 1))]) []:=by
 have k1:=mj hC f
 refine aF hC (nf:=N298) rfl rfl ?_
 rw [bU] at k1 ⊢
 simp [N298]
 refine aa k1 (.inl rfl) ?_
 have w : IntKind.wrap .i64 ((k : Int) + 1)=((k + 1 : Nat) : Int):=ah (by omega) (by omega)
 have w0 : IntKind.wrap .i64 1=1:=by decide
 have w1 : IntKind.wrap .i64 2=2:=by decide
 have w2 : IntKind.wrap .i64 3=3:=by decide
 rcases (by omega : k=0 \/ k=1 \/ k=2) with rfl | rfl | rfl <;> simp [crn,w0,w1,w2] <;> exact aL (by decide +kernel)
theorem rV {a b c : Pnt} (ha : okP a=true) (hb : okP b=true) (hc : okP c=true) : C 308 [.agg (ptD a),.agg (ptD b),.agg (ptD c)] (.int .i64 (dw a b c)) []:=by
 have:=jq ha
 have:=jq hb
 have:=jq hc
 have h4:=sr ha hb hc
 refine aF hC (nf:=N308) rfl rfl ?_
 have w1 : IntKind.wrap .i64 (b.1 - a.1)=b.1 - a.1:=ah rfl (by omega)
 have w2 : IntKind.wrap .i64 (c.2 - a.2)=c.2 - a.2:=ah rfl (by omega)
 have w3 : IntKind.wrap .i64 (b.2 - a.2)=b.2 - a.2:=ah rfl (by omega)
 have w4 : IntKind.wrap .i64 (c.1 - a.1)=c.1 - a.1:=ah rfl (by omega)
 have w5 : IntKind.wrap .i64 ((b.1 - a.1) * (c.2 - a.2))=(b.1 - a.1) * (c.2 - a.2):=ah rfl (by omega)
 have w6 : IntKind.wrap .i64 ((b.2 - a.2) * (c.1 - a.1))=(b.2 - a.2) * (c.1 - a.1):=ah rfl (by omega)
 have w7 : IntKind.wrap .i64 ((b.1 - a.1) * (c.2 - a.2) - (b.2 - a.2) * (c.1 - a.1))=dw a b c:=ah rfl (by rw [dw];omega)
 simp [N308,ptD,w1,w2,w3,w4,w5,w6,w7]
theorem Ct (m : Msh) (f : Fce) (h : inS m f=true) : C 307 [.agg (b7 m),.agg (bU f)] (.agg (b5 (aY m f))) []:=by
 obtain ⟨⟨a1,a2⟩,⟨b1,b2⟩,⟨c1,c2⟩⟩:=jj h
 have ka:=jM hC m f.a.toNat a2
 have kb:=jM hC m f.b.toNat b2
 have kc:=jM hC m f.c.toNat c2
 rw [Int.toNat_of_nonneg a1] at ka
 rw [Int.toNat_of_nonneg b1] at kb
 rw [Int.toNat_of_nonneg c1] at kc
 refine aF hC (nf:=N307) rfl rfl ?_
 rw [b7] at ka kb kc ⊢
 simp [N307,bU]
 simp [ptD] at ka kb kc
 refine aa ka (.inl rfl) ?_
 simp
 refine aa kb (.inl rfl) ?_
 simp
 refine aa kc (.inl rfl) ?_
 simp [b5,aY]
 exact aL (by decide +kernel)
end Go.Gv

namespace Go.Gv
theorem dM : IntKind.wrap .i64 1=1:=by decide
theorem d4 : IntKind.wrap .i64 2=2:=by decide
theorem d5 : IntKind.wrap .i64 3=3:=by decide
variable {C : CC} (hC : az prog C)
include hC
set_option maxHeartbeats 1000000 in
theorem AI {t u : Tri} (ht : okT t=true) (hu : okT u=true) : C 311 [.agg (b5 t),.agg (b5 u)] (.bool (tw t u)) []:=by
 simp only [okT,Bool.and_eq_true] at ht hu
 obtain ⟨⟨t1,t2⟩,t3⟩:=ht
 obtain ⟨⟨u1,u2⟩,u3⟩:=hu
 have kk:=fun (p q r : Pnt) (hp : okP p=true) (hq : okP q=true) (hr : okP r=true)=>rV hC hp hq hr
 simp only [ptD] at kk
 have E : tw t u=(mR t.1 t.2.1 u || mR t.2.1 t.2.2 u || mR t.2.2 t.1 u):=rfl
 rw [E]
 clear E
 have S : ∀ p q,mR p q u=(decide (dw p q u.1 <= 0) && decide (dw p q u.2.1 <= 0) && decide (dw p q u.2.2 <= 0)):=fun p q=>rfl
 refine aF hC (nf:=N311) rfl rfl ?_
 rw [b5,b5]
 simp [N311]
 refine aD Nat (fun i=>[(2,.ptr (b5 t)),(3,.ptr (b5 u)),(8,.int .i64 i)]) (fun i=>i <= 3 /\ (1 <= i -> mR t.1 t.2.1 u=false) /\ (2 <= i -> mR t.2.1 t.2.2 u=false) /\ (3 <= i -> mR t.2.2 t.1 u=false)) (fun i=>3 - i) 0 (by simp) (by simp [b5]) ?_
 rintro i ⟨hi,s1,s2,s3⟩
 rcases (by omega : i=0 \/ i=1 \/ i=2 \/ i=3) with rfl | rfl | rfl | rfl
 ·simp [b5,dM,d4,d5]
  refine ⟨aL (by decide +kernel),?_⟩
  refine aa (kk t.1 t.2.1 u.1 t1 t2 u1) (.inl rfl) ?_
  simp
  refine al (fun h1=>?_) (fun h1=>?_) <;> simp at h1
  ·simp [h1]
   refine aa (kk t.1 t.2.1 u.2.1 t1 t2 u2) (.inl rfl) ?_
   simp
   refine al (fun h2=>?_) (fun h2=>?_) <;> simp at h2
   ·simp [h2]
    refine aa (kk t.1 t.2.1 u.2.2 t1 t2 u3) (.inl rfl) ?_
    simp
    refine al (fun h3=>?_) (fun h3=>?_) <;> simp at h3 <;> simp [h3]
    ·simp [S,h1,h2,h3]
    ·refine ⟨1,⟨by omega,fun _=>by simp only [S,Bool.and_eq_false_iff,decide_eq_false_iff_not];omega,fun h=>by omega,fun h=>by omega⟩,by omega,?_⟩ <;> simp [dM,d4,d5]
   ·simp [Int.not_le.2 h2]
    refine ⟨1,⟨by omega,fun _=>by simp only [S,Bool.and_eq_false_iff,decide_eq_false_iff_not];omega,fun h=>by omega,fun h=>by omega⟩,by omega,?_⟩ <;> simp [dM,d4,d5]
  ·simp [Int.not_le.2 h1]
   refine ⟨1,⟨by omega,fun _=>by simp only [S,Bool.and_eq_false_iff,decide_eq_false_iff_not];omega,fun h=>by omega,fun h=>by omega⟩,by omega,?_⟩ <;> simp [dM,d4,d5]
 ·simp [b5,dM,d4,d5]
  refine ⟨aL (by decide +kernel),?_⟩
  refine aa (kk t.2.1 t.2.2 u.1 t2 t3 u1) (.inl rfl) ?_
  simp
  refine al (fun h1=>?_) (fun h1=>?_) <;> simp at h1
  ·simp [h1]
   refine aa (kk t.2.1 t.2.2 u.2.1 t2 t3 u2) (.inl rfl) ?_
   simp
   refine al (fun h2=>?_) (fun h2=>?_) <;> simp at h2
   ·simp [h2]
    refine aa (kk t.2.1 t.2.2 u.2.2 t2 t3 u3) (.inl rfl) ?_
    simp
    refine al (fun h3=>?_) (fun h3=>?_) <;> simp at h3 <;> simp [h3]
    ·simp [S,h1,h2,h3]
    ·refine ⟨2,⟨by omega,fun _=>s1 (by omega),fun _=>by simp only [S,Bool.and_eq_false_iff,decide_eq_false_iff_not];omega,fun h=>by omega⟩,by omega,?_⟩ <;> simp [dM,d4,d5]
   ·simp [Int.not_le.2 h2]
    refine ⟨2,⟨by omega,fun _=>s1 (by omega),fun _=>by simp only [S,Bool.and_eq_false_iff,decide_eq_false_iff_not];omega,fun h=>by omega⟩,by omega,?_⟩ <;> simp [dM,d4,d5]
  ·simp [Int.not_le.2 h1]
   refine ⟨2,⟨by omega,fun _=>s1 (by omega),fun _=>by simp only [S,Bool.and_eq_false_iff,decide_eq_false_iff_not];omega,fun h=>by omega⟩,by omega,?_⟩ <;> simp [dM,d4,d5]
 ·simp [b5,dM,d4,d5]
  refine ⟨aL (by decide +kernel),?_⟩
  refine aa (kk t.2.2 t.1 u.1 t3 t1 u1) (.inl rfl) ?_
  simp
  refine al (fun h1=>?_) (fun h1=>?_) <;> simp at h1
  ·simp [h1]
   refine aa (kk t.2.2 t.1 u.2.1 t3 t1 u2) (.inl rfl) ?_
   simp
   refine al (fun h2=>?_) (fun h2=>?_) <;> simp at h2
   ·simp [h2]
    refine aa (kk t.2.2 t.1 u.2.2 t3 t1 u3) (.inl rfl) ?_
    simp
    refine al (fun h3=>?_) (fun h3=>?_) <;> simp at h3 <;> simp [h3]
    ·simp [S,h1,h2,h3]
    ·refine ⟨3,⟨by omega,fun _=>s1 (by omega),fun _=>s2 (by omega),fun _=>by simp only [S,Bool.and_eq_false_iff,decide_eq_false_iff_not];omega⟩,by omega,?_⟩ <;> simp [dM,d4,d5]
   ·simp [Int.not_le.2 h2]
    refine ⟨3,⟨by omega,fun _=>s1 (by omega),fun _=>s2 (by omega),fun _=>by simp only [S,Bool.and_eq_false_iff,decide_eq_false_iff_not];omega⟩,by omega,?_⟩ <;> simp [dM,d4,d5]
  ·simp [Int.not_le.2 h1]
   refine ⟨3,⟨by omega,fun _=>s1 (by omega),fun _=>s2 (by omega),fun _=>by simp only [S,Bool.and_eq_false_iff,decide_eq_false_iff_not];omega⟩,by omega,?_⟩ <;> simp [dM,d4,d5]
 ·simp [s1 (by omega),s2 (by omega),s3 (by omega)]
def Tk (t : Tri) : List (List D):=[ptD t.1,ptD t.2.1,ptD t.2.2]
end Go.Gv

namespace Go.Gv
def okc (m : Msh) (a b : Int) : Bool:=fz m.s.length a && decide (a ≠ b) && aV (spt m a.toNat)
def okF (m : Msh) (f : Fce) : Bool:=okc m f.a f.b && okc m f.b f.c && okc m f.c f.a && decide (0 <= f.k) && decide (f.k < 16)
def mtc (f g : Fce) (i k : Nat) : Bool:=decide (crn f i=crn g k) && decide (crn f (i + 1)=crn g (k + 1))
def kO (f g : Fce) : Bool:=(List.range 3).any fun i=>(List.range 3).any fun k=>mtc f g i k
theorem lG {m : Msh} {f : Fce} (h : okF m f=true) : inS m f=true:=by
 simp only [okF,okc,Bool.and_eq_true] at h
 simp only [inS,Bool.and_eq_true]
 exact ⟨⟨h.1.1.1.1.1.1,h.1.1.1.2.1.1⟩,h.1.1.2.1.1⟩
theorem cH {m : Msh} {f : Fce} (h : okF m f=true) : okT (aY m f)=true:=by
 simp only [okF,okc,Bool.and_eq_true] at h
 simp only [okT,aY,Bool.and_eq_true]
 exact ⟨⟨oC h.1.1.1.1.2,oC h.1.1.1.2.2⟩,oC h.1.1.2.2⟩
def Ho (n : Nat) : UInt8:=UInt8.ofNat (48 + n % 10)
def Bj (n : Nat) (out : List UInt8) : List UInt8:=if n < 10 then Ho n::out else Bj (n / 10) (Ho n::out)
def Ta (n : Nat) (out : List UInt8) : List UInt8:=if n=0 then out else Bj n out
variable {C : CC} (hC : az prog C)
include hC
end Go.Gv

namespace Go.Gv
def lD (m : Msh) (i : Nat) : Pnt:=ptS (spt m i)
def fil (p : Nat -> Bool) (n : Nat) : List Nat:=(List.range n).filter p
theorem pa (p : Nat -> Bool) : fil p 0=[]:=rfl
theorem cG {p : Nat -> Bool} {n : Nat} (h : p n=true) : fil p (n + 1)=fil p n++[n]:=by
 rw [fil,List.range_succ,List.filter_append]
 simp [h,fil]
theorem qu {p : Nat -> Bool} {n : Nat} (h : p n=false) : fil p (n + 1)=fil p n:=by
 rw [fil,List.range_succ,List.filter_append]
 simp [h,fil]
theorem aP (p : Nat -> Bool) (n : Nat) : (fil p n).length <= n:=by
 have:=List.length_filter_le p (List.range n)
 rw [fil]
 simpa using this
theorem d8 {p : Nat -> Bool} {n i : Nat} (h : i ∈ fil p n) : i < n /\ p i=true:=by
 rw [fil,List.mem_filter,List.mem_range] at h
 exact h
theorem cX {p : Nat -> Bool} {n : Nat} : fil p n=[] ↔ ∀ i,i < n -> p i=false:=by
 rw [fil,List.filter_eq_nil_iff]
 simp
def dX (m : Msh) (i : Nat) : Bool:=!aV (spt m i)
def cE (m : Msh) (i : Nat) : Bool:=aV (spt m i) && (List.range i).any fun k=>aV (spt m k) && decide (lD m k=lD m i)
def eI (m : Msh) (i : Nat) : Bool:=!okF m (fce m i)
def db (m : Msh) (i : Nat) : Bool:=okF m (fce m i) && decide (jc (aY m (fce m i)) <= 0)
def aB (m : Msh) (i : Nat) : Bool:=okF m (fce m i) && decide (0 < jc (aY m (fce m i)))
def co (m : Msh) (i : Nat) : Bool:=aB m i && (List.range i).any fun k=>aB m k && kO (fce m i) (fce m k)
def a8 (m : Msh) (i : Nat) : Bool:=aB m i && (List.range i).any fun k=>aB m k && ovT (aY m (fce m i)) (aY m (fce m k))
def LL (m : Msh) : List (List Nat):=[[],fil (dX m) m.s.length,fil (cE m) m.s.length,fil (eI m) m.f.length,fil (db m) m.f.length,fil (co m) m.f.length,fil (a8 m) m.f.length]
def dY (dec : Nat -> List UInt8) : Nat -> List (List Nat) -> List (Int × List UInt8)
 | _,[]=>[]
 | k,l::r=>(l.map fun i=>((k : Int),dec i))++dY dec (k + 1) r
def fnD (x : Int × List UInt8) : List D:=[.int .i64 x.1,.str x.2]
def cg (m : Msh) : Bool:=decide (m.s.length <= 2000) && decide (m.f.length <= 4000)
def av (m : Msh) : Bool:=cg m && (LL m).all fun l=>decide (l=[])
theorem pJ (dec : Nat -> List UInt8) : ∀ (k : Nat) (ls : List (List Nat)),dY dec k ls=[] ↔ (ls.all fun l=>decide (l=[]))=true
 | _,[]=>by simp [dY]
 | k,l::r=>by simp [dY,pJ dec (k + 1) r]
def ja (m : Msh) : Nat -> List D
 | 0=>[]
 | i + 1=>if aV (spt m i) then .agg (ptD (lD m i))::ja m i else ja m i
def kI (m : Msh) : Nat -> List D
 | 0=>[]
 | i + 1=>if aV (spt m i) then .bool true::kI m i else kI m i
theorem pM (m : Msh) : ∀ i,(ja m i).length <= i
 | 0=>by simp [ja]
 | i + 1=>by
  have:=pM m i
  rw [ja]
  split <;> simp <;> omega
theorem Bp (p q : Pnt) : eqD (.agg (ptD p)) (.agg (ptD q))=decide (q=p):=by
 obtain ⟨a,b⟩:=p
 obtain ⟨c,d⟩:=q
 simp [eqD,oa,n9,ptD]
 rw [Bool.eq_iff_iff]
 simp
 exact ⟨fun h=>⟨h.1.symm,h.2.symm⟩,fun h=>⟨h.1.symm,h.2.symm⟩⟩
theorem rg (m : Msh) (p : Pnt) : ∀ i,(cU (ja m i) (kI m i) (.agg (ptD p))).getD (.bool false)=.bool ((List.range i).any fun k=>aV (spt m k) && decide (lD m k=p))
 | 0=>rfl
 | i + 1=>by
  rw [ja,kI,List.range_succ,List.any_append]
  by_cases h : aV (spt m i)=true
  ·rw [if_pos h,if_pos h,cU,Bp]
   by_cases h2 : lD m i=p
   ·simp [h,h2]
   ·simp [h2,rg m p i]
  ·rw [if_neg h,if_neg h,rg m p i]
   simp [h]
def eK (m : Msh) (i : Nat) : List Bool:=(List.range m.s.length).map fun j=>decide (j < i) && dX m j
theorem jF (m : Msh) (i : Nat) : (eK m i).length=m.s.length:=by simp [eK]
theorem sU (m : Msh) : eK m 0=List.replicate m.s.length false:=by
 refine List.ext_getElem (by simp [eK]) fun k h1 h2=>?_
 simp [eK]
theorem uR (m : Msh) {i : Nat} (h : i < m.s.length) : (eK m i).set i (dX m i)=eK m (i + 1):=by
 refine List.ext_getElem (by simp [eK]) fun k h1 h2=>?_
 rw [List.getElem_set]
 simp only [eK,List.getElem_map,List.getElem_range]
 by_cases e : i=k
 ·subst e;simp
 ·rw [if_neg e]
  by_cases e2 : k < i
  ·simp [e2,show k < i + 1 by omega]
  ·simp [e2,show ¬ k < i + 1 by omega]
theorem uP (m : Msh) {k : Nat} (h : k < m.s.length) : (eK m m.s.length)[k]'(by rw [jF];exact h)=dX m k:=by simp [eK,h]
variable {C : CC} (hC : az prog C)
include hC
theorem vb {b : Bool} {xs : List Tri} {g : Nat} {cs : List D} (p : Tri -> Bool) (hs : xs.length < 2 ^ 62) (hp : ∀ x ∈ xs,C g (.agg (b5 x)::cs) (.bool (p x)) []) : C 328 [slx b (xs.map b5),.fn g cs] (.int .i64 (hD p xs)) []:=by
 refine aF hC (nf:=N328) rfl rfl ?_
 simp [N328]
 refine aD Nat (fun i=>[(0,slx b (xs.map b5)),(1,.fn g cs),(7,.int .i64 xs.length),(8,.int .i64 i)]) (fun i=>i <= xs.length /\ ∀ (j : Nat) (h : j < xs.length),j < i -> p xs[j]=false) (fun i=>xs.length - i) 0 (by simp) (by simp) ?_
 rintro i ⟨hi,hj⟩
 simp
 refine al (fun h=>?_) (fun h=>?_) <;> simp [h] <;> simp at h
 ·have hw : IntKind.wrap .i64 ((i : Int) + 1)=((i + 1 : Nat) : Int):=ah (by omega) (by omega)
  have hc:=hp _ (List.getElem_mem h)
  simp [h,List.getElem_map,b5] at hc ⊢
  refine aa hc (.inl rfl) ?_
  simp
  refine al (fun h1=>?_) (fun h1=>?_) <;> simp [h1,hw]
  ·rw [gq hj h h1]
  ·refine ⟨i + 1,⟨by omega,fun j hl hjj=>?_⟩,by omega,by simp [b5]⟩
   rcases Nat.lt_succ_iff_lt_or_eq.1 hjj with h2 | rfl
   ·exact hj j hl h2
   ·exact h1
 ·rw [iR (fun j hl=>hj j hl (by omega))]
theorem cD {b : Bool} {xs : List Tri} {g : Nat} {cs : List D} (p : Tri -> Bool) (hs : xs.length < 2 ^ 62) (hp : ∀ x ∈ xs,C g (.agg (b5 x)::cs) (.bool (p x)) []) : C 309 [slx b (xs.map b5),.fn g cs] (.bool (xs.any p)) []:=by
 refine aF hC (nf:=N309) rfl rfl ?_
 simp [N309]
 refine aa (vb hC p hs hp) (.inl rfl) ?_
 simp [mf]
theorem Bf (m : Msh) (k : Int) (hn : m.s.length < 2 ^ 40) : C 306 [.int .i64 k,.ptr (b7 m),.ptr [.sl ((eK m m.s.length).map fun b=>[.bool b])]] (.bool (!(fz m.s.length k && aV (spt m k.toNat)))) []:=by
 have E : fz m.s.length k=(decide (0 <= k) && decide (k < m.s.length)):=rfl
 refine aF hC (nf:=N306) rfl rfl ?_
 simp [N306,b7]
 refine al (fun c1=>?_) (fun c1=>?_) <;> simp at c1
 ·simp [c1]
  rw [E,decide_eq_false (by omega)];simp
 ·simp [Int.not_lt.2 c1]
  refine al (fun c2=>?_) (fun c2=>?_) <;> simp at c2
  ·simp [c2]
   rw [E,decide_eq_false (show ¬ k < m.s.length by omega)];simp
  ·have c3 : k.toNat < m.s.length:=by omega
   have c4:=uP m c3
   simp [Int.not_le.2 c2,c1,c3,jF]
   rw [c4,E,decide_eq_true c1,decide_eq_true c2]
   simp [dX]
theorem eJ {t o : Tri} (ht : okT t=true) (ho : okT o=true) : C 310 [.agg (b5 o),.ptr (b5 t)] (.bool (ovT t o)) []:=by
 have k1:=AI hC ht ho
 have k2:=AI hC ho ht
 refine aF hC (nf:=N310) rfl rfl ?_
 rw [b5,b5] at k1 k2 ⊢
 simp [N310]
 refine aa k1 (.inl rfl) ?_
 simp
 cases h1 : tw t o <;> simp [ovT,h1]
 refine aa k2 (.inl rfl) ?_
 simp
 exact fun _=>h1
end Go.Gv
