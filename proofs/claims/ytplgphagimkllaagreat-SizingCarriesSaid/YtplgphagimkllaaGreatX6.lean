/-
  Texts of the proof: GvR, GvEsc, ItT, GvT, GvT5, GvT6, GvT4, GvU, K1, K3, Q0, Q1, GvW.
-/
import Derived.Test.YtplgphagimkllaaGreatX4
import Derived.SizedLaws
import Derived.ProofKit
import Derived.Test.YtplgphagimkllaaGreatX5
import Derived.Test.YtplgphagimkllaaGreatProg
import Derived.KernelRfl
import Derived.Shelf.Sort.Plain
import Derived.Shelf.Slices.CompactI
import Derived.Shelf.Spec.SlicesInsert
import Derived.Sort.Row
import Derived.Sort.Grow
import Derived.Shelf.SlSortCmp.WholeK
import Derived.Shelf.SlSortCmp.NoneTotal
import Derived.Shelf.Small.Strs
import Derived.Shelf.Slices.In.SortNone
import Derived.Shelf.Spec.SlicesInsertGrow
import Derived.Lib.SlicesCompact
set_option linter.all false
namespace Go.Gv
open Go.RowKit Go.ChangeShapes Go.WideShapes Go.ChangeAt
inductive Sh where
 | int (k : IntKind)
 | bool
 | str
 | sl (row : List Sh)
mutual
def dt : Sh -> D -> Prop
 | .int k,d=>∃ n,d=.int k n /\ (Lit.int k n).wf=true
 | .bool,d=>∃ b,d=.bool b
 | .str,d=>∃ s,d=.str s /\ s.length < 140737488355328
 | .sl row,d=>∃ es,(d=.sl es \/ (d=.nils /\ es=[])) /\ es.length < 140737488355328 /\ ∀ e ∈ es,bM row e
def bM : List Sh -> List D -> Prop
 | [],ds=>ds=[]
 | s::ss,ds=>∃ d r,ds=d::r /\ dt s d /\ bM ss r
end
theorem bM.length : ∀ {ss : List Sh} {ds : List D},bM ss ds -> ds.length=ss.length
 | [],ds,h=>by simp only [bM] at h;simp [h]
 | s::ss,ds,h=>by
  simp only [bM] at h
  obtain ⟨d,r,rfl,_,h2⟩:=h
  simp [bM.length h2]
theorem bM.append : ∀ {ss ts : List Sh} {ds es : List D},bM ss ds -> bM ts es -> bM (ss++ts) (ds++es)
 | [],ts,ds,es,h,h'=>by simp only [bM] at h;subst h;exact h'
 | s::ss,ts,ds,es,h,h'=>by
  simp only [bM] at h
  obtain ⟨d,r,rfl,h1,h2⟩:=h
  exact ⟨d,r++es,rfl,h1,bM.append h2 h'⟩
def ol (P : Program) (rec : TypeId -> Option (List Sh)) : List Field -> Nat -> Option (List Sh)
 | [],_=>some []
 | f::fs,off=>if f.offset=off then (match rec f.type with
   | some l=>if l.length=P.cellsOf f.type then (match ol P rec fs (off + l.length) with
    | some r=>some (l++r)
    | none=>none) else none
   | none=>none) else none
def mW (P : Program) : Nat -> TypeId -> Option (List Sh)
 | 0,_=>none
 | n + 1,t=>match P.underlying t with
  | some .bool=>some [.bool]
  | some (.int k)=>some [.int k]
  | some .string=>some [.str]
  | some (.slice e)=>(match mW P n e with
   | some l=>if l.length=P.cellsOf e /\ 1 <= P.bytesOf e then some [.sl l] else none
   | none=>none)
  | some (.struct fs)=>(match ol P (mW P n) fs.toList 0 with
   | some l=>if l.length=P.cellsOf t then some l else none
   | none=>none)
  | _=>none
section
variable {H : Type} {enc : TypeId × Value -> H} {P : Program} {F : Fid} {w : World} {sp : Nat -> Bool}
abbrev lP (w : World) : Mem:=fun p=>w.cell? p
def uD (enc : TypeId × Value -> H) (P : Program) (F : Fid) (w : World) (sp : Nat -> Bool) (n : Nat) (t : TypeId) (shs : List Sh) : Prop :=
 ∀ (cs : List Value) (d : DataW H) (ps : List MemPlace),DataW.trod enc P w 0 sp true n t cs=some (d,ps) -> (d.weights P t).all (· <= reachBytes)=true -> ∃ ds,bM shs ds /\ aq F (lP w) ds cs
theorem iy {α β : Type} {f : α -> Option β} {x : α} {l : List α} {ys : List β} (h : (x::l).mapM f=some ys) : ∃ y r,f x=some y /\ l.mapM f=some r /\ ys=y::r:=by
 rw [List.mapM_cons] at h
 cases hx : f x with
 | none=>rw [hx] at h;cases h
 | some y =>
  cases hl : l.mapM f with
  | none=>rw [hx,hl] at h;cases h
  | some r =>
   rw [hx,hl] at h
   exact ⟨y,r,rfl,rfl,by cases h;rfl⟩
theorem mE {n m : Nat} (ih : ∀ t shs,mW P m t=some shs -> uD enc P F w sp n t shs) {cs : List Value} : ∀ (fs : List Field) (off : Nat) (xs : List (DataW H × List MemPlace)) (shs : List Sh),
  (fs.mapM fun f=>DataW.trod enc P w 0 sp true n f.type ((cs.drop f.offset).take (P.cellsOf f.type)))=some xs -> ol P (mW P m) fs off=some shs -> (DataW.weightsEach P (fs.map (·.type)) (xs.map (·.1))).all (· <= reachBytes)=true -> cs.length=off + shs.length ->
   ∃ ds,bM shs ds /\ aq F (lP w) ds (cs.drop off)
 | [],off,xs,shs,_,h2,_,h4=>by
  cases h2
  exact ⟨[],rfl,by simp only [aq];exact List.drop_of_length_le (by simpa using Nat.le_of_eq h4)⟩
 | f::fs,off,xs,shs,h1,h2,h3,h4=>by
  obtain ⟨y,r,e1,e2,rfl⟩:=iy h1
  simp only [ol] at h2
  split at h2
  case isFalse=>cases h2
  rename_i ho
  split at h2
  case h_2=>cases h2
  rename_i l hl
  split at h2
  case isFalse=>cases h2
  rename_i hlen
  split at h2
  case h_2=>cases h2
  rename_i rs hr
  cases h2
  simp only [List.map_cons,DataW.weightsEach,List.all_append,Bool.and_eq_true] at h3
  rw [List.length_append] at h4
  obtain ⟨ds1,g1,g2⟩:=ih f.type l hl _ y.1 y.2 e1 h3.1
  obtain ⟨ds2,g3,g4⟩:=mE ih fs (off + l.length) r rs e2 hr h3.2 (by omega)
  refine ⟨ds1++ds2,g1.append g3,?_⟩
  rw [ho,<- hlen] at g2
  have:=g2.append g4
  rwa [<- List.drop_drop,List.take_append_drop] at this
theorem mF {n k : Nat} {e : TypeId} {l : List Sh} {a : Addr} (hl : l.length=k) (ih : uD enc P F w sp n e l) : ∀ (c s : Nat) (xs : List (DataW H × List MemPlace)),
  ((List.range' s c).mapM fun i=>(w.cells? 0 (a.add (i * k)) k).bind (DataW.trod enc P w 0 sp true n e))=some xs -> (DataW.weightsAll P e (xs.map (·.1))).all (· <= reachBytes)=true ->
   ∃ (es : List (List D)) (vs : List Value),es.length=c /\ xs.length=c /\ (∀ r ∈ es,bM l r) /\ aZ F (lP w) es vs /\ ∀ j v,vs[j]? = some v -> w.cell? (a.add (s * k + j))=some v
 | 0,s,xs,h,_=>by
  cases h
  exact ⟨[],[],rfl,rfl,by simp,by simp [aZ],fun j v h=>by simp at h⟩
 | c + 1,s,xs,h,hw=>by
  rw [List.range'_succ] at h
  obtain ⟨y,r,e1,e2,rfl⟩:=iy h
  rw [Option.bind_eq_some_iff] at e1
  obtain ⟨row,c1,c2⟩:=e1
  simp only [List.map_cons,DataW.weightsAll,List.all_append,Bool.and_eq_true] at hw
  obtain ⟨ds,g1,g2⟩:=ih row y.1 y.2 c2 hw.1
  obtain ⟨es,vs,h1,h2,h3,h4,h5⟩:=mF hl ih c (s + 1) r e2 hw.2
  have hrow:=World.cells?_some c1
  refine ⟨ds::es,row++vs,by simp [h1],by simp [h2],?_,⟨row,vs,rfl,g2,h4⟩,fun j v hj=>?_⟩
  ·intro x hx
   rcases List.mem_cons.1 hx with rfl | hx
   ·exact g1
   ·exact h3 x hx
  ·have hrl : row.length=k:=by rw [g2.length,g1.length,hl]
   have addadd : ∀ i j,(a.add i).add j=a.add (i + j):=fun i j=>by
    unfold Addr.add
    by_cases hi : i=0 <;> by_cases hj : j=0 <;> simp [hi,hj,Nat.add_assoc]
   by_cases hjk : j < k
   ·rw [List.getElem?_append_left (by omega)] at hj
    have:=hrow.2.2 j hjk
    rw [hj,addadd] at this
    exact this
   ·rw [List.getElem?_append_right (by omega)] at hj
    have:=h5 (j - row.length) v hj
    rw [hrl] at this
    rwa [show (s + 1) * k + (j - k)=s * k + j by rw [Nat.succ_mul];omega] at this
theorem lJ : ∀ (m : Nat) (n : Nat) (t : TypeId) (shs : List Sh),mW P m t=some shs -> uD enc P F w sp n t shs
 | 0,_,_,_,h=>by cases h
 | m + 1,0,t,shs,_=>fun cs d ps h _=>by simp [DataW.trod] at h
 | m + 1,n + 1,t,shs,h=>by
  intro cs d ps ht hw
  rw [mW] at h
  split at h
  ·rename_i hu
   cases h
   unfold DataW.trod at ht;rw [hu] at ht
   split at ht <;> try (simp_all;done)
   rename_i b _
   refine ⟨[.bool b],⟨_,_,rfl,⟨b,rfl⟩,rfl⟩,by simp [aq,ac]⟩
  ·rename_i k hu
   cases h
   unfold DataW.trod at ht;rw [hu] at ht
   split at ht <;> try (simp_all;done)
   rename_i k1 k2 x h1
   simp only [Option.some.injEq,TypeDesc.int.injEq] at h1
   subst h1
   split at ht
   ·rename_i hk
    obtain ⟨rfl,hwf⟩:=hk
    exact ⟨[.int _ x],⟨_,_,rfl,⟨x,rfl,hwf⟩,rfl⟩,by simp [aq,ac]⟩
   ·cases ht
  ·rename_i hu
   cases h
   unfold DataW.trod at ht;rw [hu] at ht
   split at ht <;> try (simp_all;done)
   rename_i s _
   split at ht
   ·rename_i hs
    simp only [Option.some.injEq,Prod.mk.injEq] at ht
    obtain ⟨rfl,rfl⟩:=ht
    simp only [DataW.weights,List.all_cons,List.all_nil,Bool.and_true,decide_eq_true_eq] at hw
    refine ⟨[.str s.data.toList],⟨_,_,rfl,⟨_,rfl,?_⟩,rfl⟩,?_⟩
    ·have:=reachBytes_lt;omega
    ·obtain ⟨s⟩:=s
     simp [aq,ac]
   ·cases ht
  ·rename_i e hu
   split at h
   case h_2=>cases h
   rename_i l hl
   split at h
   case isFalse=>cases h
   rename_i hk
   cases h
   unfold DataW.trod at ht;rw [hu] at ht
   split at ht <;> try (simp_all;done)
   ·refine ⟨[.nils],⟨_,_,rfl,⟨[],.inr ⟨rfl,rfl⟩,by simp,by simp⟩,rfl⟩,by simp [aq,ac]⟩
   ·rename_i e' a len cap h1
    simp only [Option.some.injEq,TypeDesc.slice.injEq] at h1
    subst h1
    simp only at ht
    split at ht
    case isFalse=>cases ht
    rename_i hb
    rw [Option.bind_eq_some_iff] at ht
    obtain ⟨xs,e1,e2⟩:=ht
    rw [Option.map_eq_some_iff] at e2
    obtain ⟨rest,e3,e4⟩:=e2
    simp only [Prod.mk.injEq] at e4
    obtain ⟨rfl,rfl⟩:=e4
    simp only [DataW.weights,hu,List.all_cons,List.all_append,Bool.and_eq_true,decide_eq_true_eq] at hw
    obtain ⟨w1,w2,w3⟩:=hw
    rw [List.range_eq_range'] at e1
    obtain ⟨es,vs,g1,g2,g3,g4,g5⟩:=mF (F:=F) hk.1 (lJ m n e l hl) len 0 xs e1 w2
    refine ⟨[.sl es],⟨_,_,rfl,⟨es,.inl rfl,?_,g3⟩,rfl⟩,?_⟩
    ·have h5:=reachBytes_lt
     have h6 : es.length * 1 <= (xs.length + rest.length) * P.bytesOf e:=Nat.mul_le_mul (by omega) hk.2
     simp only [List.length_map] at w1
     omega
    ·simp only [aq]
     refine ⟨_,_,rfl,?_,rfl⟩
     simp only [ac]
     refine ⟨some a,cap,vs,P.cellsOf e,by rw [g1],by omega,g4,fun r hr=>by rw [(g3 r hr).length,hk.1],fun _=>⟨a,rfl,fun j v hj=>?_⟩⟩
     have:=g5 j v hj
     simpa using this
  ·rename_i fs hu
   split at h
   case h_2=>cases h
   rename_i l hl
   split at h
   case isFalse=>cases h
   rename_i hk
   cases h
   unfold DataW.trod at ht;rw [hu] at ht
   split at ht <;> try (simp_all;done)
   rename_i fs' h1
   simp only [Option.some.injEq,TypeDesc.struct.injEq] at h1
   subst h1
   split at ht
   case isFalse=>cases ht
   rename_i hc
   rw [Option.map_eq_some_iff] at ht
   obtain ⟨xs,e1,e2⟩:=ht
   simp only [Prod.mk.injEq] at e2
   obtain ⟨rfl,rfl⟩:=e2
   simp only [DataW.weights,hu] at hw
   obtain ⟨ds,g1,g2⟩:=mE (F:=F) (n:=n) (fun t shs h=>lJ m n t shs h) fs.toList 0 xs _ e1 hl hw (by omega)
   exact ⟨ds,g1,by simpa using g2⟩
  ·cases h
theorem qn {t : TypeId} {fs : Array Field} {m : Nat} {shs : List Sh} {base : Nat} {v : Value} {d : DataW H} {ps : List MemPlace} (hu : P.underlying t=some (.struct fs)) (hsh : mW P m t=some shs) (hv : Value.okWide P w .any base t v) (h : DataW.Trod enc P w 0 sp true t v d ps) (hw : (d.weights P t).all (· <= reachBytes)=true) :
  ∃ ds,bM shs ds /\ ac F (lP w) (.agg ds) v:=by
 obtain ⟨cs,rfl,_⟩:=okWide_struct hu hv
 obtain ⟨n,hn⟩:=h
 obtain ⟨ds,g1,g2⟩:=lJ (F:=F) m n t shs hsh _ d ps hn hw
 exact ⟨ds,g1,by simp only [ac];exact ⟨cs.toList,by simp,g2⟩⟩
theorem na {t e : TypeId} {m : Nat} {sh : Sh} {base : Nat} {v : Value} {d : DataW H} {ps : List MemPlace} (hu : P.underlying t=some (.slice e)) (hsh : mW P m t=some [sh]) (hv : Value.okWide P w .any base t v) (h : DataW.Trod enc P w 0 sp true t v d ps) (hw : (d.weights P t).all (· <= reachBytes)=true) :
  ∃ x,dt sh x /\ ac F (lP w) x v:=by
 obtain ⟨a,len,cap,rfl⟩:=okWide_slice hu hv
 obtain ⟨n,hn⟩:=h
 obtain ⟨ds,g1,g2⟩:=lJ (F:=F) m n t [sh] hsh _ d ps hn hw
 simp only [bM] at g1
 obtain ⟨x,r,rfl,g3,rfl⟩:=g1
 simp only [Value.cells,aq] at g2
 obtain ⟨v',r',e,g4,rfl⟩:=g2
 simp at e
 exact ⟨x,g3,by rw [e];exact g4⟩
theorem xq {t : TypeId} {k : IntKind} {base : Nat} {v : Value} {d : DataW H} {ps : List MemPlace} (hu : P.underlying t=some (.int k)) (hv : Value.okWide P w .any base t v) (h : DataW.Trod enc P w 0 sp true t v d ps) :
  ∃ n,(Lit.int k n).wf=true /\ ac F (lP w) (.int k n) v:=by
 obtain ⟨n,rfl,_,_,hw⟩:=open_int hu hv h
 exact ⟨n,hw,rfl⟩
end
theorem mL {α : Type} {f : α -> List D} {es : List (List D)} (h : ∀ e ∈ es,∃ x,e=f x) : ∃ xs : List α,es=xs.map f:=by
 induction es with
 | nil=>exact ⟨[],rfl⟩
 | cons e es ih =>
  obtain ⟨x,rfl⟩:=h e (by simp)
  obtain ⟨xs,rfl⟩:=ih (fun e he=>h e (by simp [he]))
  exact ⟨x::xs,rfl⟩
end Go.Gv
namespace Go.Gv
def A4 (P : Program) (F : Fid) (prog : Nat -> Option aw) (tbl : List (Nat × Nat)) : Bool:=tbl.all fun p=>nB P p.2 && match prog p.1 with
 | some nf=>fw P F p.2 nf
 | none=>true
theorem tI {tbl : List (Nat × Nat)} {g f : Nat} (h : tbl.lookup g=some f) : (g,f) ∈ tbl:=by
 induction tbl with
 | nil=>cases h
 | cons p r ih =>
  obtain ⟨a,b⟩:=p
  rw [List.lookup_cons] at h
  cases e : g == a with
  | true=>rw [e] at h;simp at e h;subst e;subst h;simp
  | false=>rw [e] at h;simp [ih h]
theorem seat {P : Program} {tbl : List (Nat × Nat)} {ty : Nat -> TypeId} {prog : Nat -> Option aw} (hm : P.follows .mixedOrders=true) (hl : laidOutB P=true) (h : A4 P ⟨P,fun g=>tbl.lookup g,ty⟩ prog tbl=true) :
  bL P ⟨P,fun g=>tbl.lookup g,ty⟩ (fD P ⟨P,fun g=>tbl.lookup g,ty⟩) /\ aj prog (fD P ⟨P,fun g=>tbl.lookup g,ty⟩):=by
 have key : ∀ g f,tbl.lookup g=some f -> nB P f=true /\ ∀ nf,prog g=some nf -> fw P ⟨P,fun g=>tbl.lookup g,ty⟩ f nf=true:=fun g f e=>by
  have:=List.all_eq_true.1 h _ (tI e)
  simp only [Bool.and_eq_true] at this
  refine ⟨this.1,fun nf hnf=>?_⟩
  have:=this.2
  rw [hnf] at this
  exact this
 exact pY hm (fun g f e=>(key g f e).1) hl rfl (fun g f nf e hp=>(key g f e).2 nf hp)
end Go.Gv

namespace Go.Gv
open Go.Proofs
def TryzTbl : List (Nat × Nat) := [(0, 2), (534, 4), (3, 5), (564, 6), (25, 7), (565, 9), (566, 10), (567, 13), (570, 16), (15, 19), (164, 20), (441, 21), (47, 22), (23, 23), (19, 24), (24, 25), (453, 26), (603, 27), (455, 28), (604, 29), (45, 30), (46, 31), (44, 32), (605, 33), (29, 34), (11, 35), (606, 36), (471, 37), (598, 38), (607, 39), (608, 40), (120, 41), (609, 42), (614, 54), (615, 55), (30, 58), (39, 59), (32, 60), (40, 61), (168, 62), (169, 63), (170, 64), (171, 65), (52, 66), (480, 67), (53, 68), (43, 69), (175, 70), (181, 71), (51, 72), (636, 73), (315, 74), (495, 75), (35, 76), (499, 77), (184, 78), (122, 79), (637, 87), (640, 90), (31, 91), (58, 92), (172, 93), (173, 94), (174, 95), (176, 96), (177, 97), (178, 98), (72, 99), (179, 100), (180, 101), (182, 102), (60, 103), (61, 104), (59, 105), (333, 106), (511, 107), (70, 113), (71, 114), (183, 115), (89, 116), (185, 117), (73, 118), (74, 119), (75, 120), (76, 121), (77, 122), (339, 123), (91, 124), (503, 125), (504, 126), (88, 129), (90, 130), (92, 131), (514, 132), (515, 133), (516, 134), (517, 135), (518, 136), (519, 137), (96, 138), (97, 139), (98, 140), (99, 141), (100, 142), (101, 143), (102, 144), (522, 145), (366, 146), (523, 147), (411, 148), (524, 149), (103, 152), (104, 153), (105, 154), (106, 155), (107, 156), (108, 157), (109, 158), (110, 159), (111, 160), (299, 163), (112, 165), (113, 166)]
def TryzTys : List (Nat × Nat) := [(0, 9), (1, 4)]
set_option maxRecDepth 100000 in
theorem Tryz_all : A4 Tryz.prog ⟨Tryz.prog, fun g => TryzTbl.lookup g, fun t => (TryzTys.lookup t).getD 0⟩ prog TryzTbl = true := by kernel_rfl
end Go.Gv

namespace Go.Proofs
open Go.Shelf
def Tryz.lays189_ren : Go.Shelf.Ren := ⟨fun | 189 => 146 | 125 => 162 | 257 => 161 | 128 => 177 | 129 => 160 | 294 => 169 | 295 => 170 | 296 => 171 | 297 => 172 | 298 => 173 | 299 => 174 | 216 => 148 | 300 => 175 | 301 => 176 | 328 => 179 | 329 => 180 | 330 => 181 | 331 => 182 | 332 => 183 | 215 => 163 | 343 => 184 | n => n, fun | 28 => 27 | 3 => 3 | 46 => 131 | 0 => 0 | 51 => 147 | 53 => 141 | 4 => 4 | 183 => 196 | 182 => 195 | 131 => 160 | 5 => 5 | 9 => 9 | 218 => 201 | 222 => 205 | 228 => 207 | 229 => 101 | n => n, fun | n => n⟩
theorem Tryz.lays189 : Go.Proofs.Lays.n189 Tryz.prog Tryz.lays189_ren := {
 mixed := by kernel_rfl
 f125 := Tryz.func162.trans (congrArg some (by kernel_rfl))
 f128 := Tryz.func177.trans (congrArg some (by kernel_rfl))
 f129 := Tryz.func160.trans (congrArg some (by kernel_rfl))
 f189 := Tryz.func146.trans (congrArg some (by kernel_rfl))
 f215 := Tryz.func163.trans (congrArg some (by kernel_rfl))
 f216 := Tryz.func148.trans (congrArg some (by kernel_rfl))
 f257 := Tryz.func161.trans (congrArg some (by kernel_rfl))
 f294 := Tryz.func169.trans (congrArg some (by kernel_rfl))
 f295 := Tryz.func170.trans (congrArg some (by kernel_rfl))
 f296 := Tryz.func171.trans (congrArg some (by kernel_rfl))
 f297 := Tryz.func172.trans (congrArg some (by kernel_rfl))
 f298 := Tryz.func173.trans (congrArg some (by kernel_rfl))
 f299 := Tryz.func174.trans (congrArg some (by kernel_rfl))
 f300 := Tryz.func175.trans (congrArg some (by kernel_rfl))
 f301 := Tryz.func176.trans (congrArg some (by kernel_rfl))
 f328 := Tryz.func179.trans (congrArg some (by kernel_rfl))
 f329 := Tryz.func180.trans (congrArg some (by kernel_rfl))
 f330 := Tryz.func181.trans (congrArg some (by kernel_rfl))
 f331 := Tryz.func182.trans (congrArg some (by kernel_rfl))
 f332 := Tryz.func183.trans (congrArg some (by kernel_rfl))
 f343 := Tryz.func184.trans (congrArg some (by kernel_rfl))
 t0 := Tryz.underlying0
 a0 := Tryz.isAgg0
 z0 := Tryz.sizeOf0
 v0 := Tryz.zeroValue0
 t3 := Tryz.underlying3
 a3 := Tryz.isAgg3
 z3 := Tryz.sizeOf3
 v3 := Tryz.zeroValue3
 t4 := Tryz.underlying4
 a4 := Tryz.isAgg4
 z4 := Tryz.sizeOf4
 v4 := Tryz.zeroValue4
 t5 := Tryz.underlying5
 a5 := Tryz.isAgg5
 z5 := Tryz.sizeOf5
 v5 := Tryz.zeroValue5
 t9 := Tryz.underlying9
 a9 := Tryz.isAgg9
 z9 := Tryz.sizeOf9
 v9 := Tryz.zeroValue9
 t28 := Tryz.underlying27
 a28 := Tryz.isAgg27
 z28 := Tryz.sizeOf27
 v28 := Tryz.zeroValue27
 t46 := Tryz.underlying131
 a46 := Tryz.isAgg131
 z46 := Tryz.sizeOf131
 v46 := Tryz.zeroValue131
 t51 := Tryz.underlying147
 a51 := Tryz.isAgg147
 z51 := Tryz.sizeOf147
 v51 := Tryz.zeroValue147
 t53 := Tryz.underlying141
 a53 := Tryz.isAgg141
 z53 := Tryz.sizeOf141
 v53 := Tryz.zeroValue141
 t131 := Tryz.underlying160
 a131 := Tryz.isAgg160
 z131 := Tryz.sizeOf160
 v131 := Tryz.zeroValue160
 t182 := Tryz.underlying195
 a182 := Tryz.isAgg195
 z182 := Tryz.sizeOf195
 v182 := Tryz.zeroValue195
 t183 := Tryz.underlying196
 a183 := Tryz.isAgg196
 z183 := Tryz.sizeOf196
 v183 := Tryz.zeroValue196
 t218 := Tryz.underlying201
 a218 := Tryz.isAgg201
 z218 := Tryz.sizeOf201
 v218 := Tryz.zeroValue201
 t222 := Tryz.underlying205
 a222 := Tryz.isAgg205
 z222 := Tryz.sizeOf205
 v222 := Tryz.zeroValue205
 t228 := Tryz.underlying207
 a228 := Tryz.isAgg207
 z228 := Tryz.sizeOf207
 v228 := Tryz.zeroValue207
 t229 := Tryz.underlying101
 a229 := Tryz.isAgg101
 z229 := Tryz.sizeOf101
 v229 := Tryz.zeroValue101 }
def Tryz.laysNm220_ren : Go.Shelf.Ren := ⟨fun | 20 => 147 | n => n, fun | 22 => 27 | 3 => 3 | 4 => 4 | 0 => 0 | n => n, fun | n => n⟩
theorem Tryz.laysNm220 : Go.Proofs.Lays2.n20 Tryz.prog Tryz.laysNm220_ren := {
 mixed := by kernel_rfl
 f20 := Tryz.func147.trans (congrArg some (by kernel_rfl))
 t0 := Tryz.underlying0
 a0 := Tryz.isAgg0
 z0 := Tryz.sizeOf0
 v0 := Tryz.zeroValue0
 t3 := Tryz.underlying3
 a3 := Tryz.isAgg3
 z3 := Tryz.sizeOf3
 v3 := Tryz.zeroValue3
 t4 := Tryz.underlying4
 a4 := Tryz.isAgg4
 z4 := Tryz.sizeOf4
 v4 := Tryz.zeroValue4
 t22 := Tryz.underlying27
 a22 := Tryz.isAgg27
 z22 := Tryz.sizeOf27
 v22 := Tryz.zeroValue27
 i3 := by kernel_rfl }
def Tryz.laysNm221_ren : Go.Shelf.Ren := ⟨fun | 21 => 137 | 27 => 150 | 28 => 151 | 35 => 164 | 39 => 178 | n => n, fun | 22 => 27 | 3 => 3 | 4 => 4 | 0 => 0 | n => n, fun | n => n⟩
theorem Tryz.laysNm221 : Go.Proofs.Lays2.n21 Tryz.prog Tryz.laysNm221_ren := {
 mixed := by kernel_rfl
 f21 := Tryz.func137.trans (congrArg some (by kernel_rfl))
 f27 := Tryz.func150.trans (congrArg some (by kernel_rfl))
 f28 := Tryz.func151.trans (congrArg some (by kernel_rfl))
 f35 := Tryz.func164.trans (congrArg some (by kernel_rfl))
 f39 := Tryz.func178.trans (congrArg some (by kernel_rfl))
 t0 := Tryz.underlying0
 a0 := Tryz.isAgg0
 z0 := Tryz.sizeOf0
 v0 := Tryz.zeroValue0
 t3 := Tryz.underlying3
 a3 := Tryz.isAgg3
 z3 := Tryz.sizeOf3
 v3 := Tryz.zeroValue3
 t4 := Tryz.underlying4
 a4 := Tryz.isAgg4
 z4 := Tryz.sizeOf4
 v4 := Tryz.zeroValue4
 t22 := Tryz.underlying27
 a22 := Tryz.isAgg27
 z22 := Tryz.sizeOf27
 v22 := Tryz.zeroValue27
 i3 := by kernel_rfl }
end Go.Proofs

namespace Go.Gv
open Go.Sort
section
variable {P : Program} {F : Fid} {α : Type} [Inhabited α]
def jw (encD : α -> D) (d : Array α) : List (List D):=d.toList.map fun x=>[encD x]
theorem m7 {f : FuncId} (enc : α -> Value) (encD : α -> D) (hflat : ∀ M x u,ac F M (encD x) u -> u=enc x) (hrep : ∀ M x,ac F M (encD x) (enc x)) (d d' : Array α) (hsz : d'.size=d.size) (ds : List D)
  (hnone : d.size=0 -> ∀ (M : Mem) (w : World) (vs : List Value) (A : Option Addr),(∀ p v,M p=some v -> w.cell? p=some v) -> aq F M ds vs -> Calls P f (.slice A 0 0::vs).toArray w fun e w'=>e=.returned (.tuple #[]) /\ ∃ n os,w'=grow (Sort.ahead w n) os)
  (hrun : ∀ (M : Mem) (w : World) (vs : List Value) (blk off cap : Nat),(∀ p v,M p=some v -> w.cell? p=some v) -> (∀ p : Addr,p.block=blk -> M p=none) -> aq F M ds vs -> Holds enc w blk off d -> blk < w.heap.size ->
   Calls P f (.slice (some ⟨blk,off,none⟩) d.size cap::vs).toArray w fun e w'=>e=.returned (.tuple #[]) /\ ∃ n os,w'=grow (putRow enc (Sort.ahead w n) blk off d') os) : uK P F f 1 (jw encD d) ds (jw encD d'):=by
 intro M w vs hh r
 have hl : (jw encD d).length=d.size:=by simp [jw]
 refine ⟨fun e A=>?_,fun b o T us cap hM hb hcell hcap hle hu hc=>?_⟩
 ·have h0 : d.size=0:=by rw [<- hl,e];rfl
  refine (hnone h0 M w vs A hh r).mono ?_
  rintro e0 w' ⟨rfl,n,os,rfl⟩
  exact ⟨rfl,rfl,rfl,rfl,by simp [grow,Sort.ahead],fun k hk=>by simp only [grow,Sort.ahead];rw [Array.getElem?_append_left hk],Nat.le_add_right _ _⟩
 ·rw [hl] at hcap ⊢
  have hH : Holds enc w b o d:=fun j hj=>by
   obtain ⟨u,k1,k2⟩:=hc j [encD d[j]] 0 (encD d[j]) (by simp [jw,hj]) rfl
   have:=hflat _ _ _ k2
   subst this
   have e1 : d[j]! = d[j]:=getElem!_pos d j hj
   rw [e1]
   have k3 : us[o + j]? = some (enc d[j]):=by simpa using k1
   constructor
   ·simp [World.cell?,hcell,k3]
   ·simp [World.frozen?,hcell]
  refine (hrun M w vs b o cap hh hM r hH hb).mono ?_
  rintro e0 w' ⟨rfl,n,os,rfl⟩
  have hput : (grow (putRow enc (Sort.ahead w n) b o d') os).heap[b]? = some (.cells (putCells enc o d' us.toArray) T (0,0)):=by
   simp only [grow,putRow,mapBlock,Sort.ahead]
   rw [Array.getElem?_append_left (by simpa using hb),Array.getElem?_modify,if_pos rfl,hcell]
   rfl
  refine ⟨rfl,(putCells enc o d' us.toArray).toList,by rw [Array.toArray_toList];exact hput,by simp [putCells],fun i r off x hi hr=>?_,⟨rfl,rfl,rfl,by simp [grow,putRow,mapBlock,Sort.ahead],fun k hk hne=>?_,Nat.le_add_right _ _⟩⟩
  ·simp only [jw,List.getElem?_map,Option.map_eq_some_iff] at hi
   obtain ⟨y,h1,rfl⟩:=hi
   have ho : off=0:=by
    have:=(List.getElem?_eq_some_iff.1 hr).1
    simpa using this
   subst ho
   simp only [List.getElem?_cons_zero,Option.some.injEq] at hr
   subst hr
   have hi2 : i < d'.size:=by have:=(List.getElem?_eq_some_iff.1 h1).1;simpa using this
   have hy : d'[i]! = y:=by
    rw [getElem!_pos d' i hi2]
    have:=(List.getElem?_eq_some_iff.1 h1).2
    simpa using this
   refine ⟨enc y,?_,hrep _ _⟩
   have hlt : o + i < us.length:=by
    have : o + cap * 1 <= us.length:=hle
    omega
   rw [Nat.mul_one,Nat.add_zero,Array.getElem?_toList]
   simp only [putCells,Array.getElem?_mapIdx,List.getElem?_toArray]
   rw [List.getElem?_eq_getElem hlt]
   simp only [Option.map_some]
   rw [if_pos ⟨by omega,by omega⟩,show o + i - o=i by omega,hy]
  ·simp only [grow,putRow,mapBlock,Sort.ahead]
   rw [Array.getElem?_append_left (by simpa using hk),Array.getElem?_modify,if_neg (Ne.symm hne)]
end
end Go.Gv

namespace Go.Gv
open Go.Sort Go.Proofs Go.Shelf
section
variable {P : Program} {F : Fid} {α : Type} [Inhabited α]
end
end Go.Gv

namespace Go.Gv
open Go.Sort Go.Proofs Go.Shelf
section
variable {P : Program} {F : Fid} {α : Type} [Inhabited α]
end
theorem jh {P : Program} {F : Fid} {g : Nat} {ds : List D} {sz : Nat} (h : fD P F g ds .any [.own sz []]) : fD P F g ds (.sl []) []:=by
 refine ⟨trivial,fun f hf M w vs hh r=>?_⟩
 refine (h.2 f hf M w vs hh r).mono ?_
 have hold : ∀ {w' : World},Bel w w' -> ∀ p v,M p=some v -> w'.cell? p=some v:=fun hb p v hp=>(by rw [hb.cell (World.block_lt_of_cell? w p (hh p v hp))];exact hh p v hp)
 rintro e w' (⟨_,_,A,rfl,hb⟩ | ⟨b,o,T,us,cap,rfl,hb,_,_,hcap,_⟩)
 ·exact ⟨_,M,rfl,hb,fun _ _ h=>h,fun p h1 h2=>absurd h1 h2,hold hb,by simp only [ac];exact ⟨A,0,[],0,rfl,Nat.zero_le _,rfl,by simp,by simp⟩⟩
 ·exact ⟨_,M,rfl,hb,fun _ _ h=>h,fun p h1 h2=>absurd h1 h2,hold hb,by simp only [ac];exact ⟨_,cap,[],0,rfl,Nat.zero_le _,rfl,by simp,by simp⟩⟩
end Go.Gv

namespace Go.Gv
open Go.Sort Go.Proofs Go.Shelf
section
variable {P : Program} {F : Fid} {ρ : Ren}
def x7 (zs : List Int) : List (List D):=zs.map fun n=>[.int .i64 n]
theorem ir {zs : List Int} {i : Nat} {r : List D} {off : Nat} {d : D} (h1 : (x7 zs)[i]? = some r) (h2 : r[off]? = some d) : ∃ x,zs[i]? = some x /\ off=0 /\ d=.int .i64 x:=by
 simp only [x7,List.getElem?_map,Option.map_eq_some_iff] at h1
 obtain ⟨x,h1,rfl⟩:=h1
 have ho : off=0:=by have:=(List.getElem?_eq_some_iff.1 h2).1;simpa using this
 subst ho
 simp only [List.getElem?_cons_zero,Option.some.injEq] at h2
 exact ⟨x,h1,rfl,h2.symm⟩
theorem mc {M : Mem} {zs : List Int} {us : List Value} {o : Nat} (hc : ∀ i r off d,(x7 zs)[i]? = some r -> r[off]? = some d -> ∃ u,us[o + i * 1 + off]? = some u /\ ac F M d u) : ∀ j x,zs[j]? = some x -> us[o + j]? = some (.int .i64 x):=by
 intro j x hj
 obtain ⟨u,k1,k2⟩:=hc j [.int .i64 x] 0 (.int .i64 x) (by simp [x7,hj]) rfl
 simp only [ac] at k2
 subst k2
 simpa using k1
theorem mO (Ly : Lays.n189 P ρ) {g : Nat} (hg : ∀ f,F g=some f -> f=ρ.f 189) (zs : List Int) (hz : zs.length < 2 ^ 40) :
  fD P F g [.own 1 (zs.map fun n=>[.int .i64 n])] .any [.own 1 ((zs.mergeSort fun x y=>decide (x <= y)).map fun n=>[.int .i64 n]),.nilp]:=by
 refine ⟨trivial,fun f hf=>⟨rfl,?_⟩⟩
 obtain rfl:=hg f hf
 have k:=m7 (P:=P) (F:=F) (f:=ρ.f 189) (Value.int .i64) (D.int .i64) (fun M x u h=>by simpa only [ac] using h) (fun M x=>by simp only [ac]) zs.toArray (zs.mergeSort fun x y=>decide (x <= y)).toArray (by simp [List.length_mergeSort]) []
  (fun h M w vs A hh r=>by
   simp only [aq] at r
   subst r
   refine (Any.slices_Sort_int_none Ly A 0 w).mono ?_
   rintro e w' ⟨rfl,rfl⟩
   exact ⟨rfl,0,#[],by simp [grow,Sort.ahead]⟩)
  (fun M w vs blk off cap hh hM r hH hb=>by
   simp only [aq] at r
   subst r
   have:=Any.slices_Sort_int Ly blk off cap zs w hH hb (by omega)
   simpa using this)
 simpa [jw] using k
theorem m6 (L : Lays2.n20 P ρ) {g : Nat} (hg : ∀ f,F g=some f -> f=ρ.f 20) (zs : List Int) (hz : zs.length < 2 ^ 40) :
  fD P F g [.own 1 (zs.map fun n=>[.int .i64 n])] .any [.own 1 ((Lib.compact zs).map fun n=>[.int .i64 n]),.nils,.nils]:=by
 refine ⟨trivial,fun f hf=>⟨rfl,?_⟩⟩
 obtain rfl:=hg f hf
 refine nV.to ?_
 intro M w vs hh
 have nil : ∀ {b : Option Nat},kN F M w b [] vs -> vs=[]:=fun h=>List.eq_nil_of_length_eq_zero h.1.symm
 refine ⟨fun e A r=>?_,fun b o T us cap r hM hb hcell hcap hmc hle hu hc=>?_⟩
 ·rw [nil r]
  have h0 : zs=[]:=by simpa using e
  subst h0
  refine (Any.slices_Compact_int_empty L A 0 w).mono ?_
  rintro e w' ⟨rfl,rfl⟩
  exact ⟨_,rfl,Bel.refl _,.inl ⟨rfl,A,rfl⟩⟩
 ·rw [nil r]
  have hget:=mc hc
  have hl : (zs.map fun n=>[D.int .i64 n]).length=zs.length:=by simp
  rw [hl] at hcap ⊢
  have hH : Holds (Value.int .i64) w b o zs.toArray:=fun j hj=>by
   have hj2 : j < zs.length:=by simpa using hj
   have e1 : zs.toArray[j]! = zs[j]:=by rw [getElem!_pos zs.toArray j hj];simp
   have k3:=hget j zs[j] (List.getElem?_eq_getElem hj2)
   rw [e1]
   exact ⟨by simp [World.cell?,hcell,k3],by simp [World.frozen?,hcell]⟩
  obtain ⟨d',hd'⟩ : ∃ d',d'=(Lib.compact zs++List.replicate (zs.length - (Lib.compact zs).length) 0).toArray:=⟨_,rfl⟩
  have hcl : (Lib.compact zs).length <= zs.length:=by
   unfold Lib.compact Lib.compactUpTo
   rw [List.length_map]
   have:=List.length_filter_le (Lib.keeps zs.toArray) (List.range zs.length)
   simpa using this
  have hsz : d'.size=zs.length:=by rw [hd'];simp;omega
  refine (Any.slices_Compact_int L b o cap zs w hH (by omega) hcap).mono ?_
  rintro e w' ⟨rfl,q,rfl⟩
  rw [<- hd']
  have hput : (putRow (Value.int .i64) (Sort.ahead w q) b o d').heap[b]? = some (.cells (putCells (Value.int .i64) o d' us.toArray) T (0,0)):=by
   simp only [putRow,mapBlock,Sort.ahead]
   rw [Array.getElem?_modify,if_pos rfl,hcell]
   rfl
  refine ⟨_,rfl,(putCells (Value.int .i64) o d' us.toArray).toList,by rw [Array.toArray_toList];exact hput,by simp [putCells],⟨rfl,rfl,rfl,by simp [putRow,mapBlock,Sort.ahead],fun k hk hne=>?_,Nat.le_add_right _ _⟩,.inl ⟨by simp,by simp;omega,fun i r off d h1 h2=>?_⟩⟩
  ·simp only [putRow,mapBlock,Sort.ahead]
   rw [Array.getElem?_modify,if_neg (Ne.symm hne)]
  ·obtain ⟨x,h3,rfl,rfl⟩:=ir h1 h2
   have hi : i < (Lib.compact zs).length:=(List.getElem?_eq_some_iff.1 h3).1
   refine ⟨.int .i64 x,?_,by simp only [ac]⟩
   have hlt : o + i < us.length:=by omega
   have hy : d'[i]! = x:=by
    rw [getElem!_pos d' i (by omega)]
    have : d'[i]? = some x:=by rw [hd'];simp [List.getElem?_append_left hi,h3]
    exact (Array.getElem?_eq_some_iff.1 this).2
   rw [Nat.mul_one,Nat.add_zero,Array.getElem?_toList]
   simp only [putCells,Array.getElem?_mapIdx,List.getElem?_toArray]
   rw [List.getElem?_eq_getElem hlt]
   simp only [Option.map_some]
   rw [if_pos ⟨by omega,by omega⟩,show o + i - o=i by omega,hy]
theorem lC {zs : List Int} {i : Nat} (hi : i <= zs.length) (x : Int) (j : Nat) : (zs.take i++x::zs.drop i)[j]? = if j < i then zs[j]? else if j=i then some x else zs[j - 1]?:=by
 have hl : (zs.take i).length=i:=by simp;omega
 by_cases h1 : j < i
 ·rw [if_pos h1,List.getElem?_append_left (by omega),List.getElem?_take_of_lt h1]
 ·rw [if_neg h1,List.getElem?_append_right (by omega),hl]
  by_cases h2 : j=i
  ·subst h2;simp
  ·rw [if_neg h2,show j - i=(j - i - 1) + 1 by omega,List.getElem?_cons_succ,List.getElem?_drop]
   congr 1
   omega
theorem oH (L : Lays2.n21 P ρ) {g : Nat} (hg : ∀ f,F g=some f -> f=ρ.f 21) (zs : List Int) (i : Nat) (x : Int) (hi : i <= zs.length) (hz : zs.length < 2 ^ 40) :
  fD P F g [.own 1 (zs.map fun n=>[.int .i64 n]),.int .i64 i,.own 1 [[.int .i64 x]]] .any [.own 1 ((zs.take i++x::zs.drop i).map fun n=>[.int .i64 n]),.nils,.nils]:=by
 refine ⟨trivial,fun f hf=>⟨rfl,?_⟩⟩
 obtain rfl:=hg f hf
 refine nV.to ?_
 intro M w vs hh
 have args : ∀ {b : Option Nat},kN F M w b [.int .i64 i,.own 1 [[.int .i64 x]]] vs -> ∃ (B o : Nat) (T : TypeId) (us : List Value) (cap : Nat),vs=[.int .i64 i,.slice (some ⟨B,o,none⟩) 1 cap] /\ b ≠ some B /\ w.heap[B]? = some (.cells us.toArray T (0,0)) /\ us[o]? = some (.int .i64 x):=by
  rintro b ⟨h1,h2⟩
  match vs,h1 with
  | [v0,v1],_ =>
   have a:=h2 0 _ _ rfl rfl
   have c:=h2 1 _ _ rfl rfl
   simp only [Be,ac] at a
   subst a
   rcases c with ⟨e,_⟩ | ⟨B,o,T,us,cap,rfl,h3,h4,h5,h6,h7⟩
   ·cases e
   ·obtain ⟨u,k1,k2⟩:=h7 0 [.int .i64 x] 0 (.int .i64 x) rfl rfl
    simp only [ac] at k2
    subst k2
    exact ⟨B,o,T,us,cap,rfl,h3,h4,by simpa using k1⟩
 have cellOf : ∀ {w : World} {b : Nat} {us : List Value} {T : TypeId} {k : Nat} {v : Value},w.heap[b]? = some (.cells us.toArray T (0,0)) -> us[k]? = some v -> w.cell? ⟨b,k,none⟩=some v:=fun h1 h2=>by simp [World.cell?,h1,h2]
 have frz : ∀ {w : World} {b : Nat} {us : List Value} {T : TypeId} {k : Nat},w.heap[b]? = some (.cells us.toArray T (0,0)) -> w.frozen? ⟨b,k,none⟩=false:=fun h1=>by simp [World.frozen?,h1]
 have one : ∀ v ∈ [Value.int .i64 x],v.oneCell'=true:=by intro v hv;simp at hv;subst hv;rfl
 have hzc : (Value.int .i64 0).cells.size=1:=rfl
 refine ⟨fun e A r=>?_,fun b o T us cap r hM hb hcell hcap hmc hle hu hc=>?_⟩
 ·obtain ⟨B,o,T,us,cap,rfl,_,h4,h5⟩:=args r
  have h0 : zs=[]:=by simpa using e
  subst h0
  have hi0 : i=0:=by simpa using hi
  subst hi0
  refine (Any2.slices_Insert_int_end_grow L A 0 0 B o 1 cap [] [.int .i64 x] w (by omega) (by omega) (by omega) (by omega) rfl rfl (fun _=>rfl) (fun a _ j v hj=>by simp at hj) (fun j v hj=>by
   cases j with
   | zero=>simp at hj;subst hj;exact cellOf h4 (by simpa using h5)
   | succ j=>simp at hj) one).mono ?_
  rintro e w' ⟨rfl,rfl⟩
  obtain ⟨G,hG⟩ : ∃ G,G=grownCap w (0 + 1) 0 (ρ.t 3):=⟨_,rfl⟩
  have g1:=grownCap_ge w (0 + 1) 0 (ρ.t 3)
  have g2:=grownCap_le_maxLen w (0 + 1) 0 (ρ.t 3) (by decide)
  rw [<- hG] at g1 g2 ⊢
  refine ⟨_,rfl,Bel.drewAlloc _ _,.inr ⟨w.heap.size,0,ρ.t 3,(([]++[Value.int .i64 x]).toArray++Builtin.zeroCells (Value.int .i64 0).cells (G - (0 + 1))).toList,G,by simp,Nat.le_refl _,?_,by simpa using g1,⟨?_,g2⟩,fun j r' off d h1 h2=>?_⟩⟩
  ·rw [Array.toArray_toList];exact heap_alloc_new w.drew _
  ·simp [size_zeroCells,hzc];omega
  ·obtain ⟨y,h3,rfl,rfl⟩:=ir h1 h2
   cases j with
   | zero=>simp at h3;subst h3;exact ⟨.int .i64 x,by simp,by simp only [ac]⟩
   | succ j=>simp at h3
 ·obtain ⟨B,o',T',us',cap',rfl,hne,h4,h5⟩:=args r
  have hBb : B ≠ b:=fun e=>hne (by rw [e])
  have hget:=mc hc
  have hl : (zs.map fun n=>[D.int .i64 n]).length=zs.length:=by simp
  have hlr : ((zs.take i++x::zs.drop i).map fun n=>[D.int .i64 n]).length=zs.length + 1:=by simp;omega
  rw [hl] at hcap ⊢
  rw [hlr]
  have hcs : ∀ j v,(zs.map (Value.int .i64))[j]? = some v -> w.cell? ⟨b,o + j,none⟩=some v:=fun j v hj=>by
   rw [List.getElem?_map,Option.map_eq_some_iff] at hj
   obtain ⟨y,hj,rfl⟩:=hj
   exact cellOf hcell (hget j y hj)
  have hvs : ∀ j v,[Value.int .i64 x][j]? = some v -> w.cell? ⟨B,o' + j,none⟩=some v:=fun j v hj=>by
   cases j with
   | zero=>simp at hj;subst hj;exact cellOf h4 (by simpa using h5)
   | succ j=>simp at hj
  have h1c : ∀ v ∈ zs.map (Value.int .i64),v.oneCell'=true:=by
   intro v hv
   obtain ⟨y,_,rfl⟩:=List.mem_map.1 hv
   rfl
  have hus : o + cap <= us.length:=by simpa using hle
  have here : ∀ j,j < zs.length + 1 -> zs.length + 1 <= cap -> (w.cell? ⟨b,o + j,none⟩).isSome=true:=fun j hj hr=>by
   have hlt : o + j < us.length:=by omega
   rw [cellOf hcell (List.getElem?_eq_getElem hlt)];rfl
  by_cases hroom : zs.length + 1 <= cap
  ·-- in place
   have fin : ∀ (w' : World) (us2 : List Value) (n : Nat),us2.length=us.length -> w'.heap[b]? = some (.cells us2.toArray T (0,0)) -> (∀ k,k ≠ b -> w'.heap[k]? = w.heap[k]?) -> w'.heap.size=w.heap.size -> w'.os=w.os -> w'.tape=w.tape -> w'.output=w.output -> w'.drawn=w.drawn + n ->
     (∀ j y,(zs.take i++x::zs.drop i)[j]? = some y -> us2[o + j]? = some (.int .i64 y)) ->
     ∃ v,Ending.returned (Value.slice (some ⟨b,o,none⟩) (zs.length + 1) cap)=.returned v /\ ∃ us2 : List Value,w'.heap[b]? = some (.cells us2.toArray T (0,0)) /\ us2.length=us.length /\ Ch (fun k=>k=b) w w' /\
      ((v=.slice (some ⟨b,o,none⟩) (zs.length + 1) cap /\ zs.length + 1 <= cap /\ ∀ i' r off d,((zs.take i++x::zs.drop i).map fun n=>[D.int .i64 n])[i']? = some r -> r[off]? = some d -> ∃ u,us2[o + i' * 1 + off]? = some u /\ ac F M d u) \/ dH F M w w' 1 ((zs.take i++x::zs.drop i).map fun n=>[D.int .i64 n]) v):=by
    intro w' us2 n e1 e2 e3 e4 e5 e6 e7 e8 e9
    refine ⟨_,rfl,us2,e2,e1,⟨e5,e6,e7,Nat.le_of_eq e4.symm,fun k _ hk=>e3 k hk,by omega⟩,.inl ⟨rfl,hroom,fun j r' off d h1 h2=>?_⟩⟩
    obtain ⟨y,h3,rfl,rfl⟩:=ir h1 h2
    exact ⟨.int .i64 y,by simpa using e9 j y h3,by simp only [ac]⟩
   rcases Nat.lt_or_eq_of_le hi with hlt | heq
   ·refine (Any2.slices_Insert_int_shift L b o zs.length cap i B o' 1 cap' (zs.map (Value.int .i64)) [.int .i64 x] w hlt (by omega) hroom hmc hBb (by simp) rfl hcs (fun j hj=>here j hj hroom) (fun j _=>frz hcell) hvs h1c one T' T us'.length us.length
     (by simp [World.shape?,h4]) (by simp [World.shape?,hcell]) (by omega) (frz h4) (frz h4)).mono ?_
    rintro e w' ⟨rfl,rfl⟩
    have hdl : ((zs.map (Value.int .i64)).drop i).length=zs.length - i:=by simp
    obtain ⟨s1,s2,s3,s4,s5,s6,s7⟩:=bP b T ((zs.map (Value.int .i64)).drop i) (o + (i + 1)) us w.drew (by exact hcell) (by rw [hdl];omega)
    obtain ⟨us1,hu1⟩ : ∃ us1,us1=us.take (o + (i + 1))++(zs.map (Value.int .i64)).drop i++us.drop (o + (i + 1) + ((zs.map (Value.int .i64)).drop i).length):=⟨_,rfl⟩
    rw [<- hu1] at s1
    have hl1 : us1.length=us.length:=by rw [hu1];simp;omega
    obtain ⟨t1,t2,t3,t4,t5,t6,t7⟩:=bP b T [Value.int .i64 x] (o + i) us1 _ s1 (by simp;omega)
    have g1:=fun y=>ck (vs:=us) (us:=(zs.map (Value.int .i64)).drop i) (q:=o + (i + 1)) (n:=zs.length - i) (x:=y) hdl (by omega)
    have g2:=fun y=>ck (vs:=us1) (us:=[Value.int .i64 x]) (q:=o + i) (n:=1) (x:=y) rfl (by omega)
    rw [hdl] at hu1
    rw [<- hu1] at g1
    refine fin _ _ 1 (by simp;omega) t1 (fun k hk=>(t2 k hk).trans (s2 k hk)) (t3.trans s3) (t4.trans s4) (t5.trans s5) (t6.trans s6) (t7.trans s7) (fun j y hj=>?_)
    have hjl : j < zs.length + 1:=by have:=(List.getElem?_eq_some_iff.1 hj).1;simp at this;omega
    rw [lC hi] at hj
    show (us1.take (o + i)++[Value.int .i64 x]++us1.drop (o + i + 1))[o + j]? = _
    rw [g2]
    by_cases c1 : j < i
    ·rw [if_pos c1] at hj
     rw [if_neg (by omega),g1,if_neg (by omega)]
     exact hget j y hj
    ·rw [if_neg c1] at hj
     by_cases c2 : j=i
     ·subst c2
      rw [if_pos rfl] at hj
      rw [if_pos (by omega)]
      cases hj
      simp
     ·rw [if_neg c2] at hj
      rw [if_neg (by omega),g1,if_pos (by omega),List.getElem?_drop,show i + (o + j - (o + (i + 1)))=j - 1 by omega,List.getElem?_map,hj]
      rfl
   ·subst heq
    refine (Any2.slices_Insert_int_end_room L b o zs.length cap B o' 1 cap' [.int .i64 x] w (by omega) hroom hmc rfl (fun j hj=>by
     have:=here (zs.length + j) (by omega) hroom
     rwa [<- Nat.add_assoc] at this) (fun j _=>frz hcell) hvs one).mono ?_
    rintro e w' ⟨rfl,rfl⟩
    obtain ⟨t1,t2,t3,t4,t5,t6,t7⟩:=bP b T [Value.int .i64 x] (o + zs.length) us w hcell (by simp;omega)
    have g2:=fun y=>ck (vs:=us) (us:=[Value.int .i64 x]) (q:=o + zs.length) (n:=1) (x:=y) rfl (by omega)
    refine fin _ _ 0 (by simp;omega) t1 t2 t3 t4 t5 t6 t7 (fun j y hj=>?_)
    have hjl : j < zs.length + 1:=by have:=(List.getElem?_eq_some_iff.1 hj).1;simp at this;omega
    rw [lC (Nat.le_refl _)] at hj
    show (us.take (o + zs.length)++[Value.int .i64 x]++us.drop (o + zs.length + 1))[o + j]? = _
    rw [g2]
    by_cases c1 : j < zs.length
    ·rw [if_pos c1] at hj
     rw [if_neg (by omega)]
     exact hget j y hj
    ·have c2 : j=zs.length:=by omega
     rw [if_neg c1,if_pos c2] at hj
     rw [if_pos (by omega)]
     cases hj
     rw [c2]
     simp
  ·-- a new row
   have hroom' : cap < zs.length + 1:=by omega
   obtain ⟨G,hG⟩ : ∃ G,G=grownCap w (zs.length + 1) cap (ρ.t 3):=⟨_,rfl⟩
   have g1:=grownCap_ge w (zs.length + 1) cap (ρ.t 3)
   have g2:=grownCap_le_maxLen w (zs.length + 1) cap (ρ.t 3) (by unfold maxLen;omega)
   rcases Nat.lt_or_eq_of_le hi with hlt | heq
   ·refine (Any2.slices_Insert_int_grow L b o zs.length cap i B o' 1 cap' (zs.map (Value.int .i64)) [.int .i64 x] w hlt (by omega) hcap hroom' (by omega) (by simp) rfl hcs hvs h1c one).mono ?_
    rintro e w' ⟨rfl,rfl⟩
    rw [<- hG] at g1 g2 ⊢
    have hdl : ((zs.map (Value.int .i64)).drop i).length=zs.length - i:=by simp
    obtain ⟨row,hrow⟩ : ∃ row : Array Value,row=((zs.map (Value.int .i64)).take i).toArray++Builtin.zeroCells (Value.int .i64 0).cells (zs.length + 1 - i)++Builtin.zeroCells (Value.int .i64 0).cells (G - (zs.length + 1)):=⟨_,rfl⟩
    rw [<- hrow]
    have hrl : row.toList.length=G:=by rw [hrow];simp [size_zeroCells,hzc];omega
    have hnew : ((w.alloc (.cells row (ρ.t 3))).drew).heap[w.heap.size]? = some (.cells row.toList.toArray (ρ.t 3) (0,0)):=by
     rw [Array.toArray_toList];exact heap_alloc_new w _
    obtain ⟨s1,s2,s3,s4,s5,s6,s7⟩:=bP w.heap.size (ρ.t 3) [Value.int .i64 x] i row.toList ((w.alloc (.cells row (ρ.t 3))).drew) hnew (by simp only [List.length_singleton];omega)
    obtain ⟨us1,hu1⟩ : ∃ us1,us1=row.toList.take i++[Value.int .i64 x]++row.toList.drop (i + [Value.int .i64 x].length):=⟨_,rfl⟩
    rw [<- hu1] at s1
    have hl1 : us1.length=G:=by rw [hu1];simp only [List.length_append,List.length_take,List.length_drop,List.length_singleton,hrl];omega
    obtain ⟨t1,t2,t3,t4,t5,t6,t7⟩:=bP w.heap.size (ρ.t 3) ((zs.map (Value.int .i64)).drop i) (i + 1) us1 ((((w.alloc (.cells row (ρ.t 3))).drew).setCells w.heap.size i [Value.int .i64 x]).drew) s1 (by rw [hdl];omega)
    have gA:=fun y=>ck (vs:=row.toList) (us:=[Value.int .i64 x]) (q:=i) (n:=1) (x:=y) rfl (by omega)
    have gB:=fun y=>ck (vs:=us1) (us:=(zs.map (Value.int .i64)).drop i) (q:=i + 1) (n:=zs.length - i) (x:=y) hdl (by omega)
    have ex : ∀ k,k ≠ w.heap.size -> (w.alloc (.cells row (ρ.t 3))).heap[k]? = w.heap[k]?:=fun k hk=>by
     simp only [World.alloc]
     rw [Array.getElem?_push,if_neg hk]
    have exs : (w.alloc (.cells row (ρ.t 3))).heap.size=w.heap.size + 1:=by simp only [World.alloc,Array.size_push]
    have hall : ∀ k,k ≠ w.heap.size -> (((((w.alloc (.cells row (ρ.t 3))).drew).setCells w.heap.size i [Value.int .i64 x]).drew).setCells w.heap.size (i + 1) ((zs.map (Value.int .i64)).drop i)).heap[k]? = w.heap[k]?:=fun k hk=>(t2 k hk).trans ((s2 k hk).trans (ex k hk))
    refine ⟨_,rfl,us,(hall b (by omega)).trans hcell,rfl,⟨t4.trans s4,t5.trans s5,t6.trans s6,?_,fun k hk _=>hall k (by omega),?_⟩,.inr ⟨w.heap.size,0,ρ.t 3,_,G,by rw [hlr],Nat.le_refl _,t1,by rw [hlr];exact g1,⟨?_,g2⟩,fun j r' off d h1 h2=>?_⟩⟩
    ·have : ((((w.alloc (.cells row (ρ.t 3))).drew).setCells w.heap.size i [Value.int .i64 x]).drew).heap.size=w.heap.size + 1:=s3.trans exs
     rw [t3,this];omega
    ·rw [t7]
     show w.drawn <= (((w.alloc (.cells row (ρ.t 3))).drew).setCells w.heap.size i [Value.int .i64 x]).drawn + 1
     rw [s7]
     show w.drawn <= w.drawn + 1 + 1
     omega
    ·simp only [List.length_append,List.length_take,List.length_drop,hl1,List.length_map];omega
    ·obtain ⟨y,hj,rfl,rfl⟩:=ir h1 h2
     refine ⟨.int .i64 y,?_,by simp only [ac]⟩
     have hjl : j < zs.length + 1:=by have:=(List.getElem?_eq_some_iff.1 hj).1;simp at this;omega
     rw [lC hi] at hj
     rw [Nat.zero_add,Nat.mul_one,Nat.add_zero,hdl,gB]
     by_cases c1 : j < i
     ·rw [if_pos c1] at hj
      rw [if_neg (by omega),hu1]
      show (row.toList.take i++[Value.int .i64 x]++row.toList.drop (i + 1))[j]? = _
      rw [gA,if_neg (by omega),hrow]
      have hj2 : j < zs.length:=(List.getElem?_eq_some_iff.1 hj).1
      simp only [Array.toList_append,List.append_assoc]
      rw [List.getElem?_append_left (by simp;omega)]
      simp only [List.getElem?_take_of_lt c1,List.getElem?_map,hj]
      rfl
     ·rw [if_neg c1] at hj
      by_cases c2 : j=i
      ·subst c2
       rw [if_pos rfl] at hj
       rw [if_neg (by omega),hu1]
       show (row.toList.take j++[Value.int .i64 x]++row.toList.drop (j + 1))[j]? = _
       rw [gA,if_pos (by omega)]
       cases hj
       simp
      ·rw [if_neg c2] at hj
       rw [if_pos (by omega),List.getElem?_drop,show i + (j + 0 - (i + 1))=j - 1 by omega,List.getElem?_map,hj]
       rfl
   ·subst heq
    refine (Any2.slices_Insert_int_end_grow L (some ⟨b,o,none⟩) zs.length cap B o' 1 cap' (zs.map (Value.int .i64)) [.int .i64 x] w (by omega) hcap hroom' (by omega) (by simp) rfl (fun e=>by cases e) (fun a ha j v hj=>by
     cases ha
     rw [Addr.add_lit]
     exact hcs j v hj) hvs one).mono ?_
    rintro e w' ⟨rfl,rfl⟩
    rw [<- hG] at g1 g2 ⊢
    obtain ⟨row,hrow⟩ : ∃ row : Array Value,row=(zs.map (Value.int .i64)++[Value.int .i64 x]).toArray++Builtin.zeroCells (Value.int .i64 0).cells (G - (zs.length + 1)):=⟨_,rfl⟩
    rw [<- hrow]
    have hrl : row.toList.length=G:=by rw [hrow];simp [size_zeroCells,hzc];omega
    have hbel:=Bel.drewAlloc w (.cells row (ρ.t 3))
    refine ⟨_,rfl,us,(hbel.block b hb).trans hcell,rfl,Ch.of_below hbel _,.inr ⟨w.heap.size,0,ρ.t 3,row.toList,G,by rw [hlr],Nat.le_refl _,by rw [Array.toArray_toList];exact heap_alloc_new w.drew _,by rw [hlr];exact g1,⟨by omega,g2⟩,fun j r' off d h1 h2=>?_⟩⟩
    obtain ⟨y,hj,rfl,rfl⟩:=ir h1 h2
    refine ⟨.int .i64 y,?_,by simp only [ac]⟩
    have hjl : j < zs.length + 1:=by have:=(List.getElem?_eq_some_iff.1 hj).1;simp at this;omega
    rw [lC (Nat.le_refl _)] at hj
    rw [Nat.zero_add,Nat.mul_one,Nat.add_zero,hrow]
    simp only [Array.toList_append]
    rw [List.getElem?_append_left (by simp;omega)]
    by_cases c1 : j < zs.length
    ·rw [if_pos c1] at hj
     rw [List.getElem?_append_left (by simpa using c1),List.getElem?_map,hj]
     rfl
    ·have c2 : j=zs.length:=by omega
     rw [if_neg c1,if_pos c2] at hj
     cases hj
     rw [List.getElem?_append_right (by simp;omega)]
     simp [c2]
end
end Go.Gv

namespace Go.Gv
structure Tag {α : Type _} (x : α) : Type where
@[simp] theorem ND : isV (.any)=true:=_root_.id rfl
@[simp] theorem NG {k n} : isV (.int k n)=true:=_root_.id rfl
@[simp] theorem Jp {b} : isV (.bool b)=true:=_root_.id rfl
@[simp] theorem NN {s} : isV (.str s)=true:=_root_.id rfl
@[simp] theorem Jq : isV (.nilp)=true:=_root_.id rfl
@[simp] theorem Jr : isV (.nils)=true:=_root_.id rfl
@[simp] theorem NB {ds} : isV (.agg ds)=true:=_root_.id rfl
@[simp] theorem NP {ds} : isV (.tup ds)=true:=_root_.id rfl
@[simp] theorem PX {es} : isV (.sl es)=true:=_root_.id rfl
@[simp] theorem NJ {ds} : isV (.ptr ds)=true:=_root_.id rfl
@[simp] theorem PV {g ds} : isV (.fn g ds)=true:=_root_.id rfl
@[simp] theorem NI {sz es} : isV (.own sz es)=false:=_root_.id rfl
@[simp] theorem NE {sz es} : isV (.blk sz es)=false:=_root_.id rfl
@[simp] theorem PW {kt et ks vs} : isV (.mp kt et ks vs)=false:=_root_.id rfl
@[simp] theorem NH {b} : isV (.mrf b)=false:=_root_.id rfl
@[simp] theorem NL {p k n} : isV (.ref p k n)=false:=_root_.id rfl
@[simp] theorem NA {p i off} : isV (.adr p i off)=false:=_root_.id rfl
@[simp] theorem NC {ds} : isV (.agx ds)=false:=_root_.id rfl
@[simp] theorem NO {ds} : isV (.tpx ds)=false:=_root_.id rfl
@[simp] theorem NK {ds} : isV (.ptx ds)=false:=_root_.id rfl
@[simp] theorem NF {g ds} : isV (.fnx g ds)=false:=_root_.id rfl
@[simp] theorem Mt : isK (.any)=false:=_root_.id rfl
@[simp] theorem Mw {k n} : isK (.int k n)=true:=_root_.id rfl
@[simp] theorem Jd {b} : isK (.bool b)=true:=_root_.id rfl
@[simp] theorem MD {s} : isK (.str s)=true:=_root_.id rfl
@[simp] theorem Je : isK (.nilp)=true:=_root_.id rfl
@[simp] theorem Jf : isK (.nils)=true:=_root_.id rfl
@[simp] theorem Mr {ds} : isK (.agg ds)=true:=_root_.id rfl
@[simp] theorem MF {ds} : isK (.tup ds)=true:=_root_.id rfl
@[simp] theorem PI {es} : isK (.sl es)=true:=_root_.id rfl
@[simp] theorem Mz {ds} : isK (.ptr ds)=true:=_root_.id rfl
@[simp] theorem PG {g ds} : isK (.fn g ds)=true:=_root_.id rfl
@[simp] theorem My {sz es} : isK (.own sz es)=false:=_root_.id rfl
@[simp] theorem Mu {sz es} : isK (.blk sz es)=false:=_root_.id rfl
@[simp] theorem PH {kt et ks vs} : isK (.mp kt et ks vs)=false:=_root_.id rfl
@[simp] theorem Mx {b} : isK (.mrf b)=false:=_root_.id rfl
@[simp] theorem MB {p k n} : isK (.ref p k n)=false:=_root_.id rfl
@[simp] theorem Mq {p i off} : isK (.adr p i off)=false:=_root_.id rfl
@[simp] theorem Ms {ds} : isK (.agx ds)=false:=_root_.id rfl
@[simp] theorem ME {ds} : isK (.tpx ds)=false:=_root_.id rfl
@[simp] theorem MA {ds} : isK (.ptx ds)=false:=_root_.id rfl
@[simp] theorem Mv {g ds} : isK (.fnx g ds)=false:=_root_.id rfl
@[simp] theorem MZ : isP (.any)=true:=_root_.id rfl
@[simp] theorem M8 {k n} : isP (.int k n)=true:=_root_.id rfl
@[simp] theorem Jj {b} : isP (.bool b)=true:=_root_.id rfl
@[simp] theorem Ng {s} : isP (.str s)=true:=_root_.id rfl
@[simp] theorem Jk : isP (.nilp)=true:=_root_.id rfl
@[simp] theorem Jl : isP (.nils)=true:=_root_.id rfl
@[simp] theorem MX {ds} : isP (.agg ds)=true:=_root_.id rfl
@[simp] theorem Ni {ds} : isP (.tup ds)=true:=_root_.id rfl
@[simp] theorem PP {es} : isP (.sl es)=true:=_root_.id rfl
@[simp] theorem Nb {ds} : isP (.ptr ds)=true:=_root_.id rfl
@[simp] theorem PN {g ds} : isP (.fn g ds)=true:=_root_.id rfl
@[simp] theorem Na {sz es} : isP (.own sz es)=false:=_root_.id rfl
@[simp] theorem M6 {sz es} : isP (.blk sz es)=false:=_root_.id rfl
@[simp] theorem PO {kt et ks vs} : isP (.mp kt et ks vs)=false:=_root_.id rfl
@[simp] theorem M9 {b} : isP (.mrf b)=true:=_root_.id rfl
@[simp] theorem Nd {p k n} : isP (.ref p k n)=true:=_root_.id rfl
@[simp] theorem MW {p i off} : isP (.adr p i off)=true:=_root_.id rfl
@[simp] theorem MY {ds} : isP (.agx ds)=false:=_root_.id rfl
@[simp] theorem Nh {ds} : isP (.tpx ds)=false:=_root_.id rfl
@[simp] theorem Nc {ds} : isP (.ptx ds)=false:=_root_.id rfl
@[simp] theorem M7 {g ds} : isP (.fnx g ds)=false:=_root_.id rfl
@[simp] theorem Nm : isS (.any)=true:=_root_.id rfl
@[simp] theorem PU : isV (.bb)=true:=_root_.id rfl
@[simp] theorem PQ : isS (.bb)=true:=_root_.id rfl
@[simp] theorem PM : isP (.bb)=true:=_root_.id rfl
@[simp] theorem Pz : isB (.bb)=false:=_root_.id rfl
@[simp] theorem Ih : cq (.bb)=false:=_root_.id rfl
@[simp] theorem F7 : br (.bb)=[]:=_root_.id rfl
@[simp] theorem Cy : aE (.bb)=[]:=_root_.id rfl
@[simp] theorem Nq {k n} : isS (.int k n)=true:=_root_.id rfl
@[simp] theorem Jm {b} : isS (.bool b)=true:=_root_.id rfl
@[simp] theorem Nx {s} : isS (.str s)=true:=_root_.id rfl
@[simp] theorem Jn : isS (.nilp)=true:=_root_.id rfl
@[simp] theorem Jo : isS (.nils)=true:=_root_.id rfl
@[simp] theorem Nk {ds} : isS (.agg ds)=true:=_root_.id rfl
@[simp] theorem Nz {ds} : isS (.tup ds)=true:=_root_.id rfl
@[simp] theorem PT {es} : isS (.sl es)=true:=_root_.id rfl
@[simp] theorem Nt {ds} : isS (.ptr ds)=true:=_root_.id rfl
@[simp] theorem PR {g ds} : isS (.fn g ds)=true:=_root_.id rfl
@[simp] theorem Ns {sz es} : isS (.own sz es)=false:=_root_.id rfl
@[simp] theorem Nn {sz es} : isS (.blk sz es)=false:=_root_.id rfl
@[simp] theorem PS {kt et ks vs} : isS (.mp kt et ks vs)=false:=_root_.id rfl
@[simp] theorem Nr {b} : isS (.mrf b)=true:=_root_.id rfl
@[simp] theorem Nv {p k n} : isS (.ref p k n)=true:=_root_.id rfl
@[simp] theorem Nj {p i off} : isS (.adr p i off)=true:=_root_.id rfl
@[simp] theorem Nl {ds} : isS (.agx ds)=ds.all isP:=_root_.id rfl
@[simp] theorem Ny {ds} : isS (.tpx ds)=ds.all isP:=_root_.id rfl
@[simp] theorem Nu {ds} : isS (.ptx ds)=ds.all isP:=_root_.id rfl
@[simp] theorem Np {g ds} : isS (.fnx g ds)=ds.all isP:=_root_.id rfl
@[simp] theorem Is : ar (.any)=false:=_root_.id rfl
@[simp] theorem Iv {k n} : ar (.int k n)=true:=_root_.id rfl
@[simp] theorem Fj {b} : ar (.bool b)=true:=_root_.id rfl
@[simp] theorem IC {s} : ar (.str s)=true:=_root_.id rfl
@[simp] theorem Fk : ar (.nilp)=true:=_root_.id rfl
@[simp] theorem Fl : ar (.nils)=true:=_root_.id rfl
@[simp] theorem Iq {ds} : ar (.agg ds)=false:=_root_.id rfl
@[simp] theorem IE {ds} : ar (.tup ds)=false:=_root_.id rfl
@[simp] theorem L4 {es} : ar (.sl es)=true:=_root_.id rfl
@[simp] theorem Iy {ds} : ar (.ptr ds)=true:=_root_.id rfl
@[simp] theorem LZ {g ds} : ar (.fn g ds)=true:=_root_.id rfl
@[simp] theorem Ix {sz es} : ar (.own sz es)=false:=_root_.id rfl
@[simp] theorem It {sz es} : ar (.blk sz es)=false:=_root_.id rfl
@[simp] theorem L0 {kt et ks vs} : ar (.mp kt et ks vs)=false:=_root_.id rfl
@[simp] theorem Iw {b} : ar (.mrf b)=false:=_root_.id rfl
@[simp] theorem IA {p k n} : ar (.ref p k n)=false:=_root_.id rfl
@[simp] theorem Ip {p i off} : ar (.adr p i off)=false:=_root_.id rfl
@[simp] theorem Ir {ds} : ar (.agx ds)=false:=_root_.id rfl
@[simp] theorem ID {ds} : ar (.tpx ds)=false:=_root_.id rfl
@[simp] theorem Iz {ds} : ar (.ptx ds)=false:=_root_.id rfl
@[simp] theorem Iu {g ds} : ar (.fnx g ds)=false:=_root_.id rfl
@[simp] theorem MJ : isO (.any)=false:=_root_.id rfl
@[simp] theorem MM {k n} : isO (.int k n)=false:=_root_.id rfl
@[simp] theorem Jg {b} : isO (.bool b)=false:=_root_.id rfl
@[simp] theorem MT {s} : isO (.str s)=false:=_root_.id rfl
@[simp] theorem Jh : isO (.nilp)=false:=_root_.id rfl
@[simp] theorem Ji : isO (.nils)=false:=_root_.id rfl
@[simp] theorem MH {ds} : isO (.agg ds)=false:=_root_.id rfl
@[simp] theorem MV {ds} : isO (.tup ds)=false:=_root_.id rfl
@[simp] theorem PL {es} : isO (.sl es)=false:=_root_.id rfl
@[simp] theorem MP {ds} : isO (.ptr ds)=false:=_root_.id rfl
@[simp] theorem PJ {g ds} : isO (.fn g ds)=false:=_root_.id rfl
@[simp] theorem MO {sz es} : isO (.own sz es)=true:=_root_.id rfl
@[simp] theorem MK {sz es} : isO (.blk sz es)=false:=_root_.id rfl
@[simp] theorem PK {kt et ks vs} : isO (.mp kt et ks vs)=false:=_root_.id rfl
@[simp] theorem MN {b} : isO (.mrf b)=false:=_root_.id rfl
@[simp] theorem MR {p k n} : isO (.ref p k n)=false:=_root_.id rfl
@[simp] theorem MG {p i off} : isO (.adr p i off)=false:=_root_.id rfl
@[simp] theorem MI {ds} : isO (.agx ds)=false:=_root_.id rfl
@[simp] theorem MU {ds} : isO (.tpx ds)=false:=_root_.id rfl
@[simp] theorem MQ {ds} : isO (.ptx ds)=false:=_root_.id rfl
@[simp] theorem ML {g ds} : isO (.fnx g ds)=false:=_root_.id rfl
@[simp] theorem II : bi (.any)=true:=_root_.id rfl
@[simp] theorem IL {k n} : bi (.int k n)=true:=_root_.id rfl
@[simp] theorem Fm {b} : bi (.bool b)=true:=_root_.id rfl
@[simp] theorem IS {s} : bi (.str s)=true:=_root_.id rfl
@[simp] theorem Fn : bi (.nilp)=true:=_root_.id rfl
@[simp] theorem Fo : bi (.nils)=true:=_root_.id rfl
@[simp] theorem IG {ds} : bi (.agg ds)=false:=_root_.id rfl
@[simp] theorem IU {ds} : bi (.tup ds)=false:=_root_.id rfl
@[simp] theorem L7 {es} : bi (.sl es)=false:=_root_.id rfl
@[simp] theorem IP {ds} : bi (.ptr ds)=false:=_root_.id rfl
@[simp] theorem L5 {g ds} : bi (.fn g ds)=false:=_root_.id rfl
@[simp] theorem IO {sz es} : bi (.own sz es)=false:=_root_.id rfl
@[simp] theorem IJ {sz es} : bi (.blk sz es)=false:=_root_.id rfl
@[simp] theorem L6 {kt et ks vs} : bi (.mp kt et ks vs)=false:=_root_.id rfl
@[simp] theorem IM {b} : bi (.mrf b)=false:=_root_.id rfl
@[simp] theorem IR {p k n} : bi (.ref p k n)=false:=_root_.id rfl
@[simp] theorem IF {p i off} : bi (.adr p i off)=false:=_root_.id rfl
@[simp] theorem IH {ds} : bi (.agx ds)=false:=_root_.id rfl
@[simp] theorem IT {ds} : bi (.tpx ds)=false:=_root_.id rfl
@[simp] theorem IQ {ds} : bi (.ptx ds)=false:=_root_.id rfl
@[simp] theorem IK {g ds} : bi (.fnx g ds)=false:=_root_.id rfl
@[simp] theorem IY : dX (.any)=true:=_root_.id rfl
@[simp] theorem I1 {k n} : dX (.int k n)=true:=_root_.id rfl
@[simp] theorem Fp {b} : dX (.bool b)=true:=_root_.id rfl
@[simp] theorem I7 {s} : dX (.str s)=true:=_root_.id rfl
@[simp] theorem Fq : dX (.nilp)=true:=_root_.id rfl
@[simp] theorem Fr : dX (.nils)=true:=_root_.id rfl
@[simp] theorem IW {ds} : dX (.agg ds)=ds.all bi:=_root_.id rfl
@[simp] theorem I9 {ds} : dX (.tup ds)=false:=_root_.id rfl
@[simp] theorem Ma {es} : dX (.sl es)=false:=_root_.id rfl
@[simp] theorem I4 {ds} : dX (.ptr ds)=false:=_root_.id rfl
@[simp] theorem L8 {g ds} : dX (.fn g ds)=false:=_root_.id rfl
@[simp] theorem I3 {sz es} : dX (.own sz es)=false:=_root_.id rfl
@[simp] theorem IZ {sz es} : dX (.blk sz es)=false:=_root_.id rfl
@[simp] theorem L9 {kt et ks vs} : dX (.mp kt et ks vs)=false:=_root_.id rfl
@[simp] theorem I2 {b} : dX (.mrf b)=false:=_root_.id rfl
@[simp] theorem I6 {p k n} : dX (.ref p k n)=false:=_root_.id rfl
@[simp] theorem IV {p i off} : dX (.adr p i off)=false:=_root_.id rfl
@[simp] theorem IX {ds} : dX (.agx ds)=false:=_root_.id rfl
@[simp] theorem I8 {ds} : dX (.tpx ds)=false:=_root_.id rfl
@[simp] theorem I5 {ds} : dX (.ptx ds)=false:=_root_.id rfl
@[simp] theorem I0 {g ds} : dX (.fnx g ds)=false:=_root_.id rfl
@[simp] theorem Me : isF (.any)=true:=_root_.id rfl
@[simp] theorem Mh {k n} : isF (.int k n)=true:=_root_.id rfl
@[simp] theorem Ja {b} : isF (.bool b)=true:=_root_.id rfl
@[simp] theorem Mn {s} : isF (.str s)=true:=_root_.id rfl
@[simp] theorem Jb : isF (.nilp)=true:=_root_.id rfl
@[simp] theorem Jc : isF (.nils)=true:=_root_.id rfl
@[simp] theorem Mc {ds} : isF (.agg ds)=ds.all bi:=_root_.id rfl
@[simp] theorem Mp {ds} : isF (.tup ds)=ds.all dX:=_root_.id rfl
@[simp] theorem PF {es} : isF (.sl es)=false:=_root_.id rfl
@[simp] theorem Mk {ds} : isF (.ptr ds)=false:=_root_.id rfl
@[simp] theorem PD {g ds} : isF (.fn g ds)=false:=_root_.id rfl
@[simp] theorem Mj {sz es} : isF (.own sz es)=false:=_root_.id rfl
@[simp] theorem Mf {sz es} : isF (.blk sz es)=false:=_root_.id rfl
@[simp] theorem PE {kt et ks vs} : isF (.mp kt et ks vs)=false:=_root_.id rfl
@[simp] theorem Mi {b} : isF (.mrf b)=false:=_root_.id rfl
@[simp] theorem Mm {p k n} : isF (.ref p k n)=false:=_root_.id rfl
@[simp] theorem Mb {p i off} : isF (.adr p i off)=false:=_root_.id rfl
@[simp] theorem Md {ds} : isF (.agx ds)=false:=_root_.id rfl
@[simp] theorem Mo {ds} : isF (.tpx ds)=false:=_root_.id rfl
@[simp] theorem Ml {ds} : isF (.ptx ds)=false:=_root_.id rfl
@[simp] theorem Mg {g ds} : isF (.fnx g ds)=false:=_root_.id rfl
@[simp] theorem LM : isB (.any)=false:=_root_.id rfl
@[simp] theorem LP {k n} : isB (.int k n)=false:=_root_.id rfl
@[simp] theorem Il {b} : isB (.bool b)=false:=_root_.id rfl
@[simp] theorem LW {s} : isB (.str s)=false:=_root_.id rfl
@[simp] theorem Im : isB (.nilp)=false:=_root_.id rfl
@[simp] theorem Io : isB (.nils)=false:=_root_.id rfl
@[simp] theorem LK {ds} : isB (.agg ds)=false:=_root_.id rfl
@[simp] theorem LY {ds} : isB (.tup ds)=false:=_root_.id rfl
@[simp] theorem PC {es} : isB (.sl es)=false:=_root_.id rfl
@[simp] theorem LS {ds} : isB (.ptr ds)=false:=_root_.id rfl
@[simp] theorem PA {g ds} : isB (.fn g ds)=false:=_root_.id rfl
@[simp] theorem LR {sz es} : isB (.own sz es)=false:=_root_.id rfl
@[simp] theorem LN {sz es} : isB (.blk sz es)=true:=_root_.id rfl
@[simp] theorem PB {kt et ks vs} : isB (.mp kt et ks vs)=true:=_root_.id rfl
@[simp] theorem LQ {b} : isB (.mrf b)=false:=_root_.id rfl
@[simp] theorem LU {p k n} : isB (.ref p k n)=false:=_root_.id rfl
@[simp] theorem LJ {p i off} : isB (.adr p i off)=false:=_root_.id rfl
@[simp] theorem LL {ds} : isB (.agx ds)=false:=_root_.id rfl
@[simp] theorem LX {ds} : isB (.tpx ds)=false:=_root_.id rfl
@[simp] theorem LT {ds} : isB (.ptx ds)=false:=_root_.id rfl
@[simp] theorem LO {g ds} : isB (.fnx g ds)=false:=_root_.id rfl
@[simp] theorem E2 : cq (.any)=true:=_root_.id rfl
@[simp] theorem E5 {k n} : cq (.int k n)=false:=_root_.id rfl
@[simp] theorem Cb {b} : cq (.bool b)=false:=_root_.id rfl
@[simp] theorem Fc {s} : cq (.str s)=false:=_root_.id rfl
@[simp] theorem Cc : cq (.nilp)=false:=_root_.id rfl
@[simp] theorem Cd : cq (.nils)=false:=_root_.id rfl
@[simp] theorem E0 {ds} : cq (.agg ds)=false:=_root_.id rfl
@[simp] theorem Fe {ds} : cq (.tup ds)=false:=_root_.id rfl
@[simp] theorem Ik {es} : cq (.sl es)=false:=_root_.id rfl
@[simp] theorem E8 {ds} : cq (.ptr ds)=false:=_root_.id rfl
@[simp] theorem Ii {g ds} : cq (.fn g ds)=false:=_root_.id rfl
@[simp] theorem E7 {sz es} : cq (.own sz es)=false:=_root_.id rfl
@[simp] theorem E3 {sz es} : cq (.blk sz es)=false:=_root_.id rfl
@[simp] theorem Ij {kt et ks vs} : cq (.mp kt et ks vs)=false:=_root_.id rfl
@[simp] theorem E6 {b} : cq (.mrf b)=false:=_root_.id rfl
@[simp] theorem Fa {p k n} : cq (.ref p k n)=false:=_root_.id rfl
@[simp] theorem EZ {p i off} : cq (.adr p i off)=false:=_root_.id rfl
@[simp] theorem E1 {ds} : cq (.agx ds)=false:=_root_.id rfl
@[simp] theorem Fd {ds} : cq (.tpx ds)=false:=_root_.id rfl
@[simp] theorem E9 {ds} : cq (.ptx ds)=false:=_root_.id rfl
@[simp] theorem E4 {g ds} : cq (.fnx g ds)=false:=_root_.id rfl
@[simp] theorem z7 : cellsOf (.any)=[.any]:=_root_.id rfl
@[simp] theorem Ab {k n} : cellsOf (.int k n)=[.int k n]:=_root_.id rfl
@[simp] theorem xA {b} : cellsOf (.bool b)=[.bool b]:=_root_.id rfl
@[simp] theorem Ai {s} : cellsOf (.str s)=[.str s]:=_root_.id rfl
@[simp] theorem xB : cellsOf (.nilp)=[.nilp]:=_root_.id rfl
@[simp] theorem xC : cellsOf (.nils)=[.nils]:=_root_.id rfl
@[simp] theorem zZ {ds} : cellsOf (.agg ds)=ds:=_root_.id rfl
@[simp] theorem Ak {ds} : cellsOf (.tup ds)=[.tup ds]:=_root_.id rfl
@[simp] theorem BD {es} : cellsOf (.sl es)=[.sl es]:=_root_.id rfl
@[simp] theorem Ae {ds} : cellsOf (.ptr ds)=[.ptr ds]:=_root_.id rfl
@[simp] theorem BB {g ds} : cellsOf (.fn g ds)=[.fn g ds]:=_root_.id rfl
@[simp] theorem Ad {sz es} : cellsOf (.own sz es)=[.own sz es]:=_root_.id rfl
@[simp] theorem z8 {sz es} : cellsOf (.blk sz es)=[.blk sz es]:=_root_.id rfl
@[simp] theorem BC {kt et ks vs} : cellsOf (.mp kt et ks vs)=[.mp kt et ks vs]:=_root_.id rfl
@[simp] theorem Ac {b} : cellsOf (.mrf b)=[.mrf b]:=_root_.id rfl
@[simp] theorem Ag {p k n} : cellsOf (.ref p k n)=[.ref p k n]:=_root_.id rfl
@[simp] theorem zY {p i off} : cellsOf (.adr p i off)=[.adr p i off]:=_root_.id rfl
@[simp] theorem z6 {ds} : cellsOf (.agx ds)=[.agx ds]:=_root_.id rfl
@[simp] theorem Aj {ds} : cellsOf (.tpx ds)=[.tpx ds]:=_root_.id rfl
@[simp] theorem Af {ds} : cellsOf (.ptx ds)=[.ptx ds]:=_root_.id rfl
@[simp] theorem Aa {g ds} : cellsOf (.fnx g ds)=[.fnx g ds]:=_root_.id rfl
@[simp] theorem DM : bX (.any)=.any:=_root_.id rfl
@[simp] theorem DP {k n} : bX (.int k n)=.int k n:=_root_.id rfl
@[simp] theorem Bm {b} : bX (.bool b)=.bool b:=_root_.id rfl
@[simp] theorem DW {s} : bX (.str s)=.str s:=_root_.id rfl
@[simp] theorem Bn : bX (.nilp)=.nilp:=_root_.id rfl
@[simp] theorem Bo : bX (.nils)=.nils:=_root_.id rfl
@[simp] theorem DK {ds} : bX (.agg ds)=.agg ds:=_root_.id rfl
@[simp] theorem DY {ds} : bX (.tup ds)=.tup ds:=_root_.id rfl
@[simp] theorem GU {es} : bX (.sl es)=.sl es:=_root_.id rfl
@[simp] theorem DS {ds} : bX (.ptr ds)=.ptr ds:=_root_.id rfl
@[simp] theorem GS {g ds} : bX (.fn g ds)=.fn g ds:=_root_.id rfl
@[simp] theorem DR {sz es} : bX (.own sz es)=.own sz es:=_root_.id rfl
@[simp] theorem DN {sz es} : bX (.blk sz es)=.blk sz es:=_root_.id rfl
@[simp] theorem GT {kt et ks vs} : bX (.mp kt et ks vs)=.mp kt et ks vs:=_root_.id rfl
@[simp] theorem DQ {b} : bX (.mrf b)=.mrf b:=_root_.id rfl
@[simp] theorem DU {p k n} : bX (.ref p k n)=.ref p k n:=_root_.id rfl
@[simp] theorem DJ {p i off} : bX (.adr p i off)=.adr p i off:=_root_.id rfl
@[simp] theorem DL {ds} : bX (.agx ds)=.agg ds:=_root_.id rfl
@[simp] theorem DX {ds} : bX (.tpx ds)=.tpx ds:=_root_.id rfl
@[simp] theorem DT {ds} : bX (.ptx ds)=.ptx ds:=_root_.id rfl
@[simp] theorem DO {g ds} : bX (.fnx g ds)=.fnx g ds:=_root_.id rfl
@[simp] theorem Ed : aQ (.any)=.any:=_root_.id rfl
@[simp] theorem Eg {k n} : aQ (.int k n)=.int k n:=_root_.id rfl
@[simp] theorem By {b} : aQ (.bool b)=.bool b:=_root_.id rfl
@[simp] theorem En {s} : aQ (.str s)=.str s:=_root_.id rfl
@[simp] theorem Bz : aQ (.nilp)=.nilp:=_root_.id rfl
@[simp] theorem BA : aQ (.nils)=.nils:=_root_.id rfl
@[simp] theorem Eb {ds} : aQ (.agg ds)=.agg ds:=_root_.id rfl
@[simp] theorem Ep {ds} : aQ (.tup ds)=.tup ds:=_root_.id rfl
@[simp] theorem Hj {es} : aQ (.sl es)=.sl es:=_root_.id rfl
@[simp] theorem Ej {ds} : aQ (.ptr ds)=.ptr ds:=_root_.id rfl
@[simp] theorem Hh {g ds} : aQ (.fn g ds)=.fn g ds:=_root_.id rfl
@[simp] theorem Ei {sz es} : aQ (.own sz es)=.sl es:=_root_.id rfl
@[simp] theorem Ee {sz es} : aQ (.blk sz es)=.blk sz es:=_root_.id rfl
@[simp] theorem Hi {kt et ks vs} : aQ (.mp kt et ks vs)=.mp kt et ks vs:=_root_.id rfl
@[simp] theorem Eh {b} : aQ (.mrf b)=.mrf b:=_root_.id rfl
@[simp] theorem El {p k n} : aQ (.ref p k n)=.ref p k n:=_root_.id rfl
@[simp] theorem Ea {p i off} : aQ (.adr p i off)=.adr p i off:=_root_.id rfl
@[simp] theorem Ec {ds} : aQ (.agx ds)=.agx ds:=_root_.id rfl
@[simp] theorem Eo {ds} : aQ (.tpx ds)=.tpx ds:=_root_.id rfl
@[simp] theorem Ek {ds} : aQ (.ptx ds)=.ptx ds:=_root_.id rfl
@[simp] theorem Ef {g ds} : aQ (.fnx g ds)=.fnx g ds:=_root_.id rfl
@[simp] theorem AF : aE (.any)=[]:=_root_.id rfl
@[simp] theorem AI {k n} : aE (.int k n)=[]:=_root_.id rfl
@[simp] theorem yh {b} : aE (.bool b)=[]:=_root_.id rfl
@[simp] theorem AP {s} : aE (.str s)=[]:=_root_.id rfl
@[simp] theorem yi : aE (.nilp)=[]:=_root_.id rfl
@[simp] theorem yj : aE (.nils)=[]:=_root_.id rfl
@[simp] theorem AD {ds} : aE (.agg ds)=[]:=_root_.id rfl
@[simp] theorem AR {ds} : aE (.tup ds)=[]:=_root_.id rfl
@[simp] theorem CB {es} : aE (.sl es)=[]:=_root_.id rfl
@[simp] theorem AL {ds} : aE (.ptr ds)=[]:=_root_.id rfl
@[simp] theorem Cz {g ds} : aE (.fn g ds)=[]:=_root_.id rfl
@[simp] theorem AK {sz es} : aE (.own sz es)=[]:=_root_.id rfl
@[simp] theorem AG {sz es} : aE (.blk sz es)=[]:=_root_.id rfl
@[simp] theorem CA {kt et ks vs} : aE (.mp kt et ks vs)=[]:=_root_.id rfl
@[simp] theorem AJ {b} : aE (.mrf b)=[b]:=_root_.id rfl
@[simp] theorem AN {p k n} : aE (.ref p k n)=[p.root]:=_root_.id rfl
@[simp] theorem AC {p i off} : aE (.adr p i off)=[p.root]:=_root_.id rfl
@[simp] theorem AE {ds} : aE (.agx ds)=[]:=_root_.id rfl
@[simp] theorem AQ {ds} : aE (.tpx ds)=[]:=_root_.id rfl
@[simp] theorem AM {ds} : aE (.ptx ds)=[]:=_root_.id rfl
@[simp] theorem AH {g ds} : aE (.fnx g ds)=[]:=_root_.id rfl
@[simp] theorem CG : br (.any)=[]:=_root_.id rfl
@[simp] theorem CJ {k n} : br (.int k n)=[]:=_root_.id rfl
@[simp] theorem AU {b} : br (.bool b)=[]:=_root_.id rfl
@[simp] theorem CQ {s} : br (.str s)=[]:=_root_.id rfl
@[simp] theorem AV : br (.nilp)=[]:=_root_.id rfl
@[simp] theorem AW : br (.nils)=[]:=_root_.id rfl
@[simp] theorem CE {ds} : br (.agg ds)=[]:=_root_.id rfl
@[simp] theorem CS {ds} : br (.tup ds)=[]:=_root_.id rfl
@[simp] theorem Ga {es} : br (.sl es)=[]:=_root_.id rfl
@[simp] theorem CM {ds} : br (.ptr ds)=[]:=_root_.id rfl
@[simp] theorem F8 {g ds} : br (.fn g ds)=[]:=_root_.id rfl
@[simp] theorem CL {sz es} : br (.own sz es)=[]:=_root_.id rfl
@[simp] theorem CH {sz es} : br (.blk sz es)=[]:=_root_.id rfl
@[simp] theorem F9 {kt et ks vs} : br (.mp kt et ks vs)=[]:=_root_.id rfl
@[simp] theorem CK {b} : br (.mrf b)=[b]:=_root_.id rfl
@[simp] theorem CO {p k n} : br (.ref p k n)=[p.root]:=_root_.id rfl
@[simp] theorem CD {p i off} : br (.adr p i off)=[p.root]:=_root_.id rfl
@[simp] theorem CF {ds} : br (.agx ds)=ds.flatMap aE:=_root_.id rfl
@[simp] theorem CR {ds} : br (.tpx ds)=ds.flatMap aE:=_root_.id rfl
@[simp] theorem CN {ds} : br (.ptx ds)=ds.flatMap aE:=_root_.id rfl
@[simp] theorem CI {g ds} : br (.fnx g ds)=ds.flatMap aE:=_root_.id rfl
@[simp] theorem Ln {f : Nat -> D} : dp1 f (.any)=(.any):=_root_.id rfl
@[simp] theorem Lq {f : Nat -> D} {k n} : dp1 f (.int k n)=(.int k n):=_root_.id rfl
@[simp] theorem Hr {f : Nat -> D} {b} : dp1 f (.bool b)=(.bool b):=_root_.id rfl
@[simp] theorem Lx {f : Nat -> D} {s} : dp1 f (.str s)=(.str s):=_root_.id rfl
@[simp] theorem Hs {f : Nat -> D} : dp1 f (.nilp)=(.nilp):=_root_.id rfl
@[simp] theorem Ht {f : Nat -> D} : dp1 f (.nils)=(.nils):=_root_.id rfl
@[simp] theorem Ll {f : Nat -> D} {ds} : dp1 f (.agg ds)=(.agg ds):=_root_.id rfl
@[simp] theorem LA {f : Nat -> D} {ds} : dp1 f (.tup ds)=(.tup ds):=_root_.id rfl
@[simp] theorem Pe {f : Nat -> D} {es} : dp1 f (.sl es)=(.sl es):=_root_.id rfl
@[simp] theorem Lt {f : Nat -> D} {ds} : dp1 f (.ptr ds)=(.ptr ds):=_root_.id rfl
@[simp] theorem Pc {f : Nat -> D} {g ds} : dp1 f (.fn g ds)=(.fn g ds):=_root_.id rfl
@[simp] theorem Ls {f : Nat -> D} {sz es} : dp1 f (.own sz es)=(.own sz es):=_root_.id rfl
@[simp] theorem Lo {f : Nat -> D} {sz es} : dp1 f (.blk sz es)=(.blk sz es):=_root_.id rfl
@[simp] theorem Pd {f : Nat -> D} {kt et ks vs} : dp1 f (.mp kt et ks vs)=(.mp kt et ks vs):=_root_.id rfl
@[simp] theorem Lr {f : Nat -> D} {b} : dp1 f (.mrf b)=(.mrf b):=_root_.id rfl
@[simp] theorem Lv {f : Nat -> D} {p k n} : dp1 f (.ref p k n)=(match aX f p with | some (_,es)=>.sl (((es.drop k).take n).map fun e=>e.map aQ) | none=>.any):=_root_.id rfl
@[simp] theorem Lk {f : Nat -> D} {p i off} : dp1 f (.adr p i off)=(match aX f p with | some (_,es)=>.ptr (((es[i]?.getD []).drop off).map aQ) | none=>.any):=_root_.id rfl
@[simp] theorem Lm {f : Nat -> D} {ds} : dp1 f (.agx ds)=(.agx ds):=_root_.id rfl
@[simp] theorem Lz {f : Nat -> D} {ds} : dp1 f (.tpx ds)=(.tpx ds):=_root_.id rfl
@[simp] theorem Lu {f : Nat -> D} {ds} : dp1 f (.ptx ds)=(.ptx ds):=_root_.id rfl
@[simp] theorem Lp {f : Nat -> D} {g ds} : dp1 f (.fnx g ds)=(.fnx g ds):=_root_.id rfl
@[simp] theorem Pi {f : Nat -> D} : dp f (.any)=(.any):=_root_.id rfl
@[simp] theorem Pl {f : Nat -> D} {k n} : dp f (.int k n)=(.int k n):=_root_.id rfl
@[simp] theorem LE {f : Nat -> D} {b} : dp f (.bool b)=(.bool b):=_root_.id rfl
@[simp] theorem Ps {f : Nat -> D} {s} : dp f (.str s)=(.str s):=_root_.id rfl
@[simp] theorem LF {f : Nat -> D} : dp f (.nilp)=(.nilp):=_root_.id rfl
@[simp] theorem LG {f : Nat -> D} : dp f (.nils)=(.nils):=_root_.id rfl
@[simp] theorem Pg {f : Nat -> D} {ds} : dp f (.agg ds)=(.agg ds):=_root_.id rfl
@[simp] theorem Pu {f : Nat -> D} {ds} : dp f (.tup ds)=(.tup ds):=_root_.id rfl
@[simp] theorem QD {f : Nat -> D} {es} : dp f (.sl es)=(.sl es):=_root_.id rfl
@[simp] theorem Po {f : Nat -> D} {ds} : dp f (.ptr ds)=(.ptr ds):=_root_.id rfl
@[simp] theorem QB {f : Nat -> D} {g ds} : dp f (.fn g ds)=(.fn g ds):=_root_.id rfl
@[simp] theorem Pn {f : Nat -> D} {sz es} : dp f (.own sz es)=(.own sz es):=_root_.id rfl
@[simp] theorem Pj {f : Nat -> D} {sz es} : dp f (.blk sz es)=(.blk sz es):=_root_.id rfl
@[simp] theorem QC {f : Nat -> D} {kt et ks vs} : dp f (.mp kt et ks vs)=(.mp kt et ks vs):=_root_.id rfl
@[simp] theorem Pm {f : Nat -> D} {b} : dp f (.mrf b)=(.mrf b):=_root_.id rfl
@[simp] theorem Pq {f : Nat -> D} {p k n} : dp f (.ref p k n)=(match aX f p with | some (_,es)=>.sl (((es.drop k).take n).map fun e=>e.map aQ) | none=>.any):=_root_.id rfl
@[simp] theorem Pf {f : Nat -> D} {p i off} : dp f (.adr p i off)=(match aX f p with | some (_,es)=>.ptr (((es[i]?.getD []).drop off).map aQ) | none=>.any):=_root_.id rfl
@[simp] theorem Ph {f : Nat -> D} {ds} : dp f (.agx ds)=(.agg (ds.map (dp1 f))):=_root_.id rfl
@[simp] theorem Pt {f : Nat -> D} {ds} : dp f (.tpx ds)=(.tup (ds.map (dp1 f))):=_root_.id rfl
@[simp] theorem Pp {f : Nat -> D} {ds} : dp f (.ptx ds)=(.ptr (ds.map (dp1 f))):=_root_.id rfl
@[simp] theorem Pk {f : Nat -> D} {g ds} : dp f (.fnx g ds)=(.fn g (ds.map (dp1 f))):=_root_.id rfl
@[simp] theorem Ey {f : Nat -> D} : aL f (.any)=(True):=_root_.id rfl
@[simp] theorem EB {f : Nat -> D} {k n} : aL f (.int k n)=(True):=_root_.id rfl
@[simp] theorem BL {f : Nat -> D} {b} : aL f (.bool b)=(True):=_root_.id rfl
@[simp] theorem EI {f : Nat -> D} {s} : aL f (.str s)=(True):=_root_.id rfl
@[simp] theorem BM {f : Nat -> D} : aL f (.nilp)=(True):=_root_.id rfl
@[simp] theorem BN {f : Nat -> D} : aL f (.nils)=(True):=_root_.id rfl
@[simp] theorem Ew {f : Nat -> D} {ds} : aL f (.agg ds)=(True):=_root_.id rfl
@[simp] theorem EK {f : Nat -> D} {ds} : aL f (.tup ds)=(True):=_root_.id rfl
@[simp] theorem Hw {f : Nat -> D} {es} : aL f (.sl es)=(True):=_root_.id rfl
@[simp] theorem EE {f : Nat -> D} {ds} : aL f (.ptr ds)=(True):=_root_.id rfl
@[simp] theorem Hu {f : Nat -> D} {g ds} : aL f (.fn g ds)=(True):=_root_.id rfl
@[simp] theorem ED {f : Nat -> D} {sz es} : aL f (.own sz es)=(True):=_root_.id rfl
@[simp] theorem Ez {f : Nat -> D} {sz es} : aL f (.blk sz es)=(True):=_root_.id rfl
@[simp] theorem Hv {f : Nat -> D} {kt et ks vs} : aL f (.mp kt et ks vs)=(True):=_root_.id rfl
@[simp] theorem EC {f : Nat -> D} {b} : aL f (.mrf b)=(False):=_root_.id rfl
@[simp] theorem EG {f : Nat -> D} {p k n} : aL f (.ref p k n)=(match aX f p with | some (_,es)=>k + n <= es.length | none=>False):=_root_.id rfl
@[simp] theorem Ev {f : Nat -> D} {p i off} : aL f (.adr p i off)=(match aX f p with | some _=>True | none=>False):=_root_.id rfl
@[simp] theorem Ex {f : Nat -> D} {ds} : aL f (.agx ds)=(True):=_root_.id rfl
@[simp] theorem EJ {f : Nat -> D} {ds} : aL f (.tpx ds)=(True):=_root_.id rfl
@[simp] theorem EF {f : Nat -> D} {ds} : aL f (.ptx ds)=(True):=_root_.id rfl
@[simp] theorem EA {f : Nat -> D} {g ds} : aL f (.fnx g ds)=(True):=_root_.id rfl
@[simp] theorem HA {f : Nat -> D} : bq f (.any)=(True):=_root_.id rfl
@[simp] theorem HD {f : Nat -> D} {k n} : bq f (.int k n)=(True):=_root_.id rfl
@[simp] theorem EL {f : Nat -> D} {b} : bq f (.bool b)=(True):=_root_.id rfl
@[simp] theorem HK {f : Nat -> D} {s} : bq f (.str s)=(True):=_root_.id rfl
@[simp] theorem EM {f : Nat -> D} : bq f (.nilp)=(True):=_root_.id rfl
@[simp] theorem EN {f : Nat -> D} : bq f (.nils)=(True):=_root_.id rfl
@[simp] theorem Hy {f : Nat -> D} {ds} : bq f (.agg ds)=(True):=_root_.id rfl
@[simp] theorem HM {f : Nat -> D} {ds} : bq f (.tup ds)=(True):=_root_.id rfl
@[simp] theorem LD {f : Nat -> D} {es} : bq f (.sl es)=(True):=_root_.id rfl
@[simp] theorem HG {f : Nat -> D} {ds} : bq f (.ptr ds)=(True):=_root_.id rfl
@[simp] theorem LB {f : Nat -> D} {g ds} : bq f (.fn g ds)=(True):=_root_.id rfl
@[simp] theorem HF {f : Nat -> D} {sz es} : bq f (.own sz es)=(True):=_root_.id rfl
@[simp] theorem HB {f : Nat -> D} {sz es} : bq f (.blk sz es)=(True):=_root_.id rfl
@[simp] theorem LC {f : Nat -> D} {kt et ks vs} : bq f (.mp kt et ks vs)=(True):=_root_.id rfl
@[simp] theorem HE {f : Nat -> D} {b} : bq f (.mrf b)=(False):=_root_.id rfl
@[simp] theorem HI {f : Nat -> D} {p k n} : bq f (.ref p k n)=(match aX f p with | some (_,es)=>k + n <= es.length | none=>False):=_root_.id rfl
@[simp] theorem Hx {f : Nat -> D} {p i off} : bq f (.adr p i off)=(match aX f p with | some _=>True | none=>False):=_root_.id rfl
@[simp] theorem Hz {f : Nat -> D} {ds} : bq f (.agx ds)=(∀ d ∈ ds,aL f d):=_root_.id rfl
@[simp] theorem HL {f : Nat -> D} {ds} : bq f (.tpx ds)=(∀ d ∈ ds,aL f d):=_root_.id rfl
@[simp] theorem HH {f : Nat -> D} {ds} : bq f (.ptx ds)=(∀ d ∈ ds,aL f d):=_root_.id rfl
@[simp] theorem HC {f : Nat -> D} {g ds} : bq f (.fnx g ds)=(∀ d ∈ ds,aL f d):=_root_.id rfl
@[simp] theorem NV {p i0 o} : ldc p i0 o (.any)=.any:=_root_.id rfl
@[simp] theorem J1 {m} : dS m (.any)=.any:=_root_.id rfl
@[simp] theorem NY {p i0 o k n} : ldc p i0 o (.int k n)=.int k n:=_root_.id rfl
@[simp] theorem J4 {m k n} : dS m (.int k n)=.int k n:=_root_.id rfl
@[simp] theorem Jz {p i0 o b} : ldc p i0 o (.bool b)=.bool b:=_root_.id rfl
@[simp] theorem Gb {m b} : dS m (.bool b)=.bool b:=_root_.id rfl
@[simp] theorem N6 {p i0 o s} : ldc p i0 o (.str s)=.str s:=_root_.id rfl
@[simp] theorem Ka {m s} : dS m (.str s)=.str s:=_root_.id rfl
@[simp] theorem JA {p i0 o} : ldc p i0 o (.nilp)=.nilp:=_root_.id rfl
@[simp] theorem Gc {m} : dS m (.nilp)=.nilp:=_root_.id rfl
@[simp] theorem JB {p i0 o} : ldc p i0 o (.nils)=.nils:=_root_.id rfl
@[simp] theorem NT {p i0 o ds} : ldc p i0 o (.agg ds)=.agg ds:=_root_.id rfl
@[simp] theorem JZ {m ds} : dS m (.agg ds)=.agg ds:=_root_.id rfl
@[simp] theorem N8 {p i0 o ds} : ldc p i0 o (.tup ds)=.tup ds:=_root_.id rfl
@[simp] theorem Kc {m ds} : dS m (.tup ds)=.tup ds:=_root_.id rfl
@[simp] theorem P9 {p i0 o es} : ldc p i0 o (.sl es)=.sl es:=_root_.id rfl
@[simp] theorem Of {m es} : dS m (.sl es)=.sl es:=_root_.id rfl
@[simp] theorem N1 {p i0 o ds} : ldc p i0 o (.ptr ds)=.ptr ds:=_root_.id rfl
@[simp] theorem J7 {m ds} : dS m (.ptr ds)=.ptr ds:=_root_.id rfl
@[simp] theorem P0 {p i0 o g ds} : ldc p i0 o (.fn g ds)=.fn g ds:=_root_.id rfl
@[simp] theorem Od {m g ds} : dS m (.fn g ds)=.fn g ds:=_root_.id rfl
@[simp] theorem N0 {c i o sz es} : ldc (.r c) i o (.own sz es)=.ref (.n c i o) 0 es.length:=_root_.id rfl
@[simp] theorem J6 {m sz es} : dS m (.own sz es)=.own sz es:=_root_.id rfl
@[simp] theorem NW {p i0 o sz es} : ldc p i0 o (.blk sz es)=.blk sz es:=_root_.id rfl
@[simp] theorem J2 {m sz es} : dS m (.blk sz es)=.blk sz es:=_root_.id rfl
@[simp] theorem P8 {p i0 o kt et ks vs} : ldc p i0 o (.mp kt et ks vs)=.mp kt et ks vs:=_root_.id rfl
@[simp] theorem Oe {m kt et ks vs} : dS m (.mp kt et ks vs)=.mp kt et ks vs:=_root_.id rfl
@[simp] theorem NZ {p i0 o b} : ldc p i0 o (.mrf b)=.mrf b:=_root_.id rfl
@[simp] theorem J5 {m b} : dS m (.mrf b)=.mrf b:=_root_.id rfl
@[simp] theorem N4 {p i0 o q k n} : ldc p i0 o (.ref q k n)=.ref q k n:=_root_.id rfl
@[simp] theorem J9 {m q k n} : dS m (.ref q k n)=.ref q k n:=_root_.id rfl
@[simp] theorem NS {p i0 o q i off} : ldc p i0 o (.adr q i off)=.adr q i off:=_root_.id rfl
@[simp] theorem JY {m q i off} : dS m (.adr q i off)=.adr q i off:=_root_.id rfl
@[simp] theorem NU {p i0 o ds} : ldc p i0 o (.agx ds)=.agx ds:=_root_.id rfl
@[simp] theorem J0 {m ds} : dS m (.agx ds)=.agx ds:=_root_.id rfl
@[simp] theorem N7 {p i0 o ds} : ldc p i0 o (.tpx ds)=.tpx ds:=_root_.id rfl
@[simp] theorem Kb {m ds} : dS m (.tpx ds)=.tpx ds:=_root_.id rfl
@[simp] theorem N2 {p i0 o ds} : ldc p i0 o (.ptx ds)=.ptx ds:=_root_.id rfl
@[simp] theorem J8 {m ds} : dS m (.ptx ds)=.ptx ds:=_root_.id rfl
@[simp] theorem NX {p i0 o g ds} : ldc p i0 o (.fnx g ds)=.fnx g ds:=_root_.id rfl
@[simp] theorem J3 {m g ds} : dS m (.fnx g ds)=.fnx g ds:=_root_.id rfl
@[simp] theorem Gd {m} : dS m .nils=if m=0 then .nils else .own m []:=_root_.id rfl
def slx (b : Bool) (es : List (List D)) : D:=match b,es with
 | true,[]=>.nils
 | _,es=>.sl es
@[simp] theorem gr {es} : slx false es=.sl es:=by cases es <;> rfl
@[simp] theorem KH {b x es} : slx b (x::es)=.sl (x::es):=by cases b <;> rfl
theorem gq (b : Bool) (es : List (List D)) : slx b es=.sl es \/ (slx b es=.nils /\ es=[]):=by cases b <;> cases es <;> simp [slx]
@[simp] theorem NM {b es} : isV (slx b es)=true:=by cases b <;> cases es <;> rfl
@[simp] theorem MC {b es} : isK (slx b es)=true:=by cases b <;> cases es <;> rfl
@[simp] theorem Nf {b es} : isP (slx b es)=true:=by cases b <;> cases es <;> rfl
@[simp] theorem Nw {b es} : isS (slx b es)=true:=by cases b <;> cases es <;> rfl
@[simp] theorem IB {b es} : ar (slx b es)=true:=by cases b <;> cases es <;> rfl
@[simp] theorem MS {b es} : isO (slx b es)=false:=by cases b <;> cases es <;> rfl
@[simp] theorem Fb {b es} : cq (slx b es)=false:=by cases b <;> cases es <;> rfl
@[simp] theorem LV {b es} : isB (slx b es)=false:=by cases b <;> cases es <;> rfl
@[simp] theorem Ah {b es} : cellsOf (slx b es)=[slx b es]:=by cases b <;> cases es <;> rfl
@[simp] theorem DV {b es} : bX (slx b es)=slx b es:=by cases b <;> cases es <;> rfl
@[simp] theorem Em {b es} : aQ (slx b es)=slx b es:=by cases b <;> cases es <;> rfl
@[simp] theorem AO {b es} : aE (slx b es)=[]:=by cases b <;> cases es <;> rfl
@[simp] theorem CP {b es} : br (slx b es)=[]:=by cases b <;> cases es <;> rfl
@[simp] theorem Lw {f : Nat -> D} {b es} : dp1 f (slx b es)=slx b es:=by cases b <;> cases es <;> rfl
@[simp] theorem Pr {f : Nat -> D} {b es} : dp f (slx b es)=slx b es:=by cases b <;> cases es <;> rfl
@[simp] theorem EH {f : Nat -> D} {b es} : aL f (slx b es)=True:=by cases b <;> cases es <;> rfl
@[simp] theorem HJ {f : Nat -> D} {b es} : bq f (slx b es)=True:=by cases b <;> cases es <;> rfl
@[simp] theorem N5 {p i o b es} : ldc p i o (slx b es)=slx b es:=by cases b <;> cases es <;> rfl
def tE (d : D) (K : Nat -> Prop) (_ : Tag K) : Prop:=match d with
 | .sl es=>K es.length
 | .nils=>K 0
 | .ref _ _ n=>K n
 | _=>False
@[simp] theorem N9 {es K u} : tE (.sl es) K u=K es.length:=_root_.id rfl
@[simp] theorem FY {K u} : tE .nils K u=K 0:=_root_.id rfl
@[simp] theorem JL {p k n K u} : tE (.ref p k n) K u=K n:=_root_.id rfl
@[simp] theorem JM {b es K u} : tE (slx b es) K u=K es.length:=by cases b <;> cases es <;> rfl
@[simp] theorem Gt {n ds} : lr true n ds=.agg (ds.take n):=_root_.id rfl
@[simp] theorem C1 {n ds} : lr false n ds=ds.headD .any:=_root_.id rfl
@[simp] theorem JR {t} : ab [] t=.any:=rfl
def lk (b : Bool) (d : D) (r : Env) (t : Nat) : D:=match b with
 | true=>d
 | false=>ab r t
@[simp] theorem Oa {d r t} : lk true d r t=d:=rfl
@[simp] theorem JO {d r t} : lk false d r t=ab r t:=rfl
@[simp] theorem FZ {s d r t} : ab ((s,d)::r) t=lk (s == t) d r t:=by
 by_cases h : s=t
 ·subst h;simp [ab]
 ·rw [show (s == t)=false by simp [h]];simp [ab,h]
@[simp] theorem FE {e} : pp [] e=[]:=_root_.id rfl
@[simp] theorem Cj {t ts e} : pp (t::ts) e=(t,ab e t)::pp ts e:=_root_.id rfl
@[simp] theorem A0 : lG []=[]:=_root_.id rfl
@[simp] theorem yO {t d r} : lG ((t,d)::r)=br d++lG r:=_root_.id rfl
@[simp] theorem GR {e ks} : sP e [] ks=ks:=_root_.id rfl
@[simp] theorem DI {e r rs ks} : sP e (r::rs) ks=sP e rs (if (ks.map (·.1)).contains r then ks else ks++[(r,ab e r)]):=_root_.id rfl
def gb (f : Nat -> D) (d : D) (ns : List Nat) (K : List D -> List Nat -> Prop) (_ : Tag K) : Prop:=eT f d ns K
def fL (f : Nat -> D) (d : D) (K : D -> List Nat -> Prop) (_ : Tag K) : Prop:=dx f d K
def oV (f : Nat -> D) (ds : List D) (K : List D -> List Nat -> Prop) (_ : Tag K) : Prop:=je f ds K
def uQ (b n : Nat) (x : D) (K : D -> List Nat -> Prop) (_ : Tag K) : Prop:=match x with
 | .blk sz es=>es.length=n /\ (∀ e ∈ es,∀ c ∈ e,ar c=true) /\ K (.own sz es) [b]
 | _=>False
@[simp] theorem GF {b n sz es K u} : uQ b n (.blk sz es) K u=(es.length=n /\ (∀ e ∈ es,∀ c ∈ e,ar c=true) /\ K (.own sz es) [b]):=_root_.id rfl
theorem dI {f : Nat -> D} {d : D} {K : D -> List Nat -> Prop} {u} (h : ar d=true) : fL f d K u=K d []:=by
 cases d <;> simp [ar] at h <;> simp [fL,dx,ar]
@[simp] theorem DB {f b k n K u} : fL f (.ref (.r b) k n) K u=(k=0 /\ uQ b n (f b) K ⟨⟩):=by
 simp only [fL,dx,uQ]
 cases f b <;> rfl
theorem eS {f : Nat -> D} {d : D} {K : List D -> List Nat -> Prop} {u} (h : ar d=true) : gb f d [] K u=K [d] []:=by
 cases d <;> simp [ar] at h <;> simp [gb,eT,dx,ar,de]
@[simp] theorem GI {f ds K u} : gb f (.agg ds) [] K u=((∀ c ∈ ds,ar c=true) /\ K ds []):=by simp [gb,eT,de]
@[simp] theorem GJ {f ds K u} : gb f (.agx ds) [] K u=oV f ds (fun cs bs=>bz bs=true /\ K cs bs) ⟨⟩:=by simp [gb,oV,eT,de]
@[simp] theorem GM {f b k n K u} : gb f (.ref (.r b) k n) [] K u=(k=0 /\ uQ b n (f b) (fun c bs=>K [c] bs) ⟨⟩):=by
 simp only [gb,eT,dx,uQ,de,if_true,true_or,true_and]
 cases f b <;> rfl
@[simp] theorem DE {f K u} : oV f [] K u=K [] []:=_root_.id rfl
@[simp] theorem Bl {f d ds K u} : oV f (d::ds) K u=fL f d (fun c bs=>oV f ds (fun cs bs'=>K (c::cs) (bs++bs')) ⟨⟩) ⟨⟩:=_root_.id rfl
@[simp] theorem Dz {f k n K u} : fL f (.int k n) K u=K (.int k n) []:=dI rfl
@[simp] theorem GK {f k n K u} : gb f (.int k n) [] K u=K [.int k n] []:=eS rfl
@[simp] theorem Bi {f n K u} : fL f (.bool n) K u=K (.bool n) []:=dI rfl
@[simp] theorem DF {f n K u} : gb f (.bool n) [] K u=K [.bool n] []:=eS rfl
@[simp] theorem DD {f n K u} : fL f (.str n) K u=K (.str n) []:=dI rfl
@[simp] theorem GO {f n K u} : gb f (.str n) [] K u=K [.str n] []:=eS rfl
@[simp] theorem Bj {f  K u} : fL f .nilp K u=K .nilp []:=dI rfl
@[simp] theorem DG {f  K u} : gb f .nilp [] K u=K [.nilp] []:=eS rfl
@[simp] theorem Bk {f  K u} : fL f .nils K u=K .nils []:=dI rfl
@[simp] theorem DH {f  K u} : gb f .nils [] K u=K [.nils] []:=eS rfl
@[simp] theorem GH {f n K u} : fL f (.sl n) K u=K (.sl n) []:=dI rfl
@[simp] theorem Lb {f n K u} : gb f (.sl n) [] K u=K [.sl n] []:=eS rfl
@[simp] theorem DA {f n K u} : fL f (.ptr n) K u=K (.ptr n) []:=dI rfl
@[simp] theorem GL {f n K u} : gb f (.ptr n) [] K u=K [.ptr n] []:=eS rfl
@[simp] theorem GG {f g n K u} : fL f (.fn g n) K u=K (.fn g n) []:=dI rfl
@[simp] theorem La {f g n K u} : gb f (.fn g n) [] K u=K [.fn g n] []:=eS rfl
@[simp] theorem DC {f b n K u} : fL f (slx b n) K u=K (slx b n) []:=dI (by simp)
@[simp] theorem GN {f b n K u} : gb f (slx b n) [] K u=K [slx b n] []:=eS (by simp)
def oD (f : Nat -> D) (sz : Nat) (ps : List (Nat × Opd)) (es : List (List D)) (bs : List Nat) (K : List (List D) -> List Nat -> Prop) (_ : Tag K) : Prop:=eF f sz [] ps es bs K
@[simp] theorem C2 {f sz es bs K u} : oD f sz [] es bs K u=K es bs:=_root_.id rfl
@[simp] theorem AZ {f sz i x ps es bs K u} : oD f sz ((i,x)::ps) es bs K u=(i < es.length /\ gb f (vd f x) [] (fun cs bs'=>cs.length=sz /\ oD f sz ps (es.set i cs) (bs++bs') K ⟨⟩) ⟨⟩):=_root_.id rfl
def iH (f : Nat -> D) (mv : Bool) (d : D) (sz : Nat) (K : List (List D) -> List Nat -> Prop) (_ : Tag K) : Prop:=eP f mv d sz K
def Da (b n sz : Nat) (x : D) (K : List (List D) -> List Nat -> Prop) (_ : Tag K) : Prop:=match x with
 | .blk sz' es=>sz'=sz /\ es.length=n /\ (∀ e ∈ es,∀ c ∈ e,isC c=true) /\ K es [b]
 | _=>False
@[simp] theorem Kv {b n sz sz' es K u} : Da b n sz (.blk sz' es) K u=(sz'=sz /\ es.length=n /\ (∀ e ∈ es,∀ c ∈ e,isC c=true) /\ K es [b]):=_root_.id rfl
def Db (k n sz : Nat) (x : Option (Nat × List (List D))) (K : List (List D) -> List Nat -> Prop) (_ : Tag K) : Prop:=match x with
 | some (sz',es)=>sz'=sz /\ k + n <= es.length /\ (∀ e ∈ (es.drop k).take n,∀ c ∈ e,ar c=true) /\ K ((es.drop k).take n) []
 | none=>False
@[simp] theorem Gu {k n sz sz' es K u} : Db k n sz (some (sz',es)) K u=(sz'=sz /\ k + n <= es.length /\ (∀ e ∈ (es.drop k).take n,∀ c ∈ e,ar c=true) /\ K ((es.drop k).take n) []):=_root_.id rfl
@[simp] theorem Dc {f mv sz K u} : iH f mv .nils sz K u=K [] []:=_root_.id rfl
@[simp] theorem KC {f mv es sz K u} : iH f mv (.sl es) sz K u=((∀ e ∈ es,e.length=sz /\ ∀ c ∈ e,ar c=true) /\ K es []):=_root_.id rfl
@[simp] theorem Gz {f mv b es sz K u} : iH f mv (slx b es) sz K u=((∀ e ∈ es,e.length=sz /\ ∀ c ∈ e,ar c=true) /\ K es []):=by
 rcases gq b es with h | ⟨h,rfl⟩ <;> rw [h] <;> simp
@[simp] theorem KB {f b k n sz K u} : iH f true (.ref (.r b) k n) sz K u=(k=0 /\ Da b n sz (f b) K ⟨⟩):=by
 simp only [iH,eP,Da]
 cases f b <;> rfl
@[simp] theorem Gy {f p k n sz K u} : iH f false (.ref p k n) sz K u=Db k n sz (aX f p) K ⟨⟩:=by
 simp only [iH,eP,Db]
 cases aX f p <;> rfl
def cX (f : Nat -> D) (o : Option Opd) (dflt : Nat) (K : Nat -> Prop) (_ : Tag K) : Prop:=c9 f o dflt K
def G7 (d : D) (K : Nat -> Prop) (_ : Tag K) : Prop:=match d with
 | .int _ n=>0 <= n /\ K n.toNat
 | _=>False
@[simp] theorem G8 {k n K u} : G7 (.int k n) K u=(0 <= n /\ K n.toNat):=_root_.id rfl
@[simp] theorem zT {f n K u} : cX f none n K u=K n:=_root_.id rfl
@[simp] theorem zU {f x n K u} : cX f (some x) n K u=G7 (vd f x) K ⟨⟩:=_root_.id rfl
def f7 (x : Option (List D)) (K : List D -> Prop) (_ : Tag K) : Prop:=match x with
 | some r=>K r
 | none=>False
@[simp] theorem Gx {r K u} : f7 (some r) K u=K r:=_root_.id rfl
@[simp] theorem Gw {K u} : f7 none K u=False:=_root_.id rfl
theorem fb {x : Option (List D)} {K : List D -> Prop} {u} : f7 x K u=∃ r,x=some r /\ K r:=by
 cases x <;> simp [f7]
def jr (x : Option D) (K : Nat -> List (List D) -> Prop) (_ : Tag K) : Prop:=match x with
 | some (.own sz es)=>K sz es
 | _=>False
@[simp] theorem Ku {sz es K u} : jr (some (.own sz es)) K u=K sz es:=_root_.id rfl
theorem iX {x : Option D} {K : Nat -> List (List D) -> Prop} {u} : jr x K u=∃ sz es,x=some (.own sz es) /\ K sz es:=by
 cases x with
 | none=>simp [jr]
 | some d =>
  cases d <;> simp [jr]
  exact ⟨fun h=>⟨_,_,⟨rfl,rfl⟩,h⟩,by rintro ⟨_,_,⟨rfl,rfl⟩,h⟩;exact h⟩
def xy (x : Option D) (K : D -> Prop) (_ : Tag K) : Prop:=match x with
 | some d=>K d
 | none=>False
@[simp] theorem D9 {d K u} : xy (some d) K u=K d:=_root_.id rfl
theorem xz {x : Option D} {K : D -> Prop} {u} : xy x K u=∃ d,x=some d /\ K d:=by
 cases x <;> simp [xy]
def dG (x : D) (K : Nat -> List (List D) -> Prop) (_ : Tag K) : Prop:=match x with
 | .blk sz es=>K sz es
 | _=>False
@[simp] theorem G6 {sz es K u} : dG (.blk sz es) K u=K sz es:=_root_.id rfl
abbrev CC:=Nat -> List D -> D -> List D -> Prop
abbrev KT:=List (Nat × D) -> List (Nat × Bool) -> Prop
section
variable {C : CC} {Q : b9 -> Env -> Prop} {e e' : Env} {d : D}
def wN (C : CC) (c : dw) (Q : b9 -> Env -> Prop) (_ : Tag (c,Q)) (e : Env) : Prop:=wpN C c Q e
def se (C : CC) (c : dw) (Q : b9 -> Env -> Prop) (_ : Tag (c,Q)) (e : Env) : Prop:=wpN C (.loop c) Q e
def tR (C : CC) (K : Env -> Prop) (ns : List ap) (_ : Tag (K,ns)) (e : Env) : Prop:=gU C K ns e
def qZ (C : CC) (hs : List Nat) (K : Env -> Prop) (ns : List ap) (_ : Tag (K,ns)) (e : Env) (acc : List (List Nat × List Nat)) : Prop:=jb C hs K ns e acc
def Ig (hs : List Nat) (acc : List (List Nat × List Nat)) : Prop:=jL hs acc.reverse=true
theorem aA {hs : List Nat} {acc : List (List Nat × List Nat)} (h : jL hs acc.reverse=true) : Ig hs acc:=h
def Am (C : CC) (K : Env -> Prop) (ns : List ap) (e : Env) : KT:=fun ws ks=>gU C K ns (ws++dB ks e)
def Hl (C : CC) (hs : List Nat) (K : Env -> Prop) (ns : List ap) (e : Env) (R : List Nat) (acc : List (List Nat × List Nat)) : KT:=fun ws ks=>wOk R ws ks=true /\ jb C hs K ns (ws++dB ks e) ((R,wrK ws ks)::acc)
def doT (C : CC) (K : Env -> Prop) (ns : List ap) (_ : Tag (K,ns)) (e : Env) (ws : List (Nat × D)) (ks : List (Nat × Bool)) : Prop:=gU C K ns (ws++dB ks e)
def bH (Q : b9 -> Env -> Prop) (_ : Tag Q) (t : b9) (e : Env) : Prop:=Q t e
def fin (res : List (Nat × Option (Nat × Bool))) (d : D) : b9 -> Env -> Prop:=fun t e=>(match t with
   | .ext _=>False
   | _=>True) /\ fW res d e
def yS (C : CC) (y : dw) (Q : b9 -> Env -> Prop) : b9 -> Env -> Prop:=fun t e'=>match t with
  | .nrm=>wpN C y Q e'
  | t=>Q t e'
def oc (id : Nat) (Q : b9 -> Env -> Prop) : b9 -> Env -> Prop:=fun t e'=>match t with
  | .ext i=>if i=id then Q .nrm e' else Q (.ext i) e'
  | t=>Q t e'
def yM (keep : List Nat) (Q : b9 -> Env -> Prop) : Env -> Prop:=fun e'=>Q .nrm (prune keep e')
def kOf (C : CC) (hs : Option (List Nat)) (K : Env -> Prop) (ns : List ap) (e : Env) (R : List Nat) (acc : List (List Nat × List Nat)) : KT :=
 match hs with
 | none=>Am C K ns e
 | some hs=>Hl C hs K ns e R acc
def doW (C : CC) (hs : Option (List Nat)) (K : Env -> Prop) (ns : List ap) (_ : Tag (hs,K,ns)) (e : Env) (R : List Nat) (acc : List (List Nat × List Nat)) (ws : List (Nat × D)) (ks : List (Nat × Bool)) : Prop:=kOf C hs K ns e R acc ws ks
def opW (C : CC) (hs : Option (List Nat)) (K : Env -> Prop) (ns : List ap) (dst : Option Nat) (op : NOp) (_ : Tag (hs,K,ns,dst,op)) (e : Env) (R : List Nat) (acc : List (List Nat × List Nat)) : Prop:=az C (ab e) dst (kOf C hs K ns e R acc) op
def dW (C : CC) (hs : Option (List Nat)) (K : Env -> Prop) (ns : List ap) (dst : Option Nat) (_ : Tag (hs,K,ns)) (e : Env) (R : List Nat) (acc : List (List Nat × List Nat)) (d : D) : Prop:=cR dst (kOf C hs K ns e R acc) d
def oZ (C : CC) (g : Nat) (hs : Option (List Nat)) (K : Env -> Prop) (ns : List ap) (dst : Option Nat) (_ : Tag (hs,K,ns)) (e : Env) (R : List Nat) (acc : List (List Nat × List Nat)) (pure : Bool) (ds : List D) : Prop :=
 ∃ d,C g ds d [] /\ (isF d=true \/ pure=true) /\ cR dst (kOf C hs K ns e R acc) d
theorem au {prog : Nat -> Option aw} (hC : aj prog C) {g : Nat} {nf : aw} {ds : List D} (hp : prog g=some nf) (hl : ds.length=nf.np) (h : wN C nf.body (fin nf.res d) ⟨⟩ (params 0 ds)) : C g ds d []:=hC.1 g nf ds d hp hl h
def qC (res : List (Nat × Option (Nat × Bool))) (sz : Nat) (es : List (List D)) : b9 -> Env -> Prop:=fun t e=>(match t with
   | .ext _=>False
   | _=>True) /\ jt res sz es e
theorem rq {prog : Nat -> Option aw} (hC : aj prog C) {g : Nat} {nf : aw} {ds : List D} {sz : Nat} {es : List (List D)} (hp : prog g=some nf) (hl : ds.length=nf.np) (h : wN C nf.body (qC nf.res sz es) ⟨⟩ (params 0 ds)) : C g ds .any [.own sz es]:=hC.2.2.1 g nf ds sz es hp hl h
def tp (res : List (Nat × Option (Nat × Bool))) (d : D) : b9 -> Env -> Prop:=fun t e=>(match t with
   | .ext _=>False
   | _=>True) /\ js res d e
def tr (res : List (Nat × Option (Nat × Bool))) (d : D) (sz : Nat) (es' : List (List D)) : b9 -> Env -> Prop:=fun t e=>(match t with
   | .ext _=>False
   | _=>True) /\ (0 < es'.length /\ ab e 10015=.blk sz es') /\ fW res d ((10015,.any)::e)
def tq (res : List (Nat × Option (Nat × Bool))) (sz : Nat) (es : List (List D)) : b9 -> Env -> Prop:=fun t e=>(match t with
   | .ext _=>False
   | _=>True) /\ ju res sz es e
def qB (res : List (Nat × Option (Nat × Bool))) (R : D) : b9 -> Env -> Prop:=fun t e=>(match t with
   | .ext _=>False
   | _=>True) /\ pT res R e
theorem Dp {prog : Nat -> Option aw} (hC : aj prog C) {g : Nat} {nf : aw} {ds : List D} {R : D} (hp : prog g=some nf) (hl : ds.length=nf.np) (hok : okR R=true) (h : wN C nf.body (qB nf.res R) ⟨⟩ (params 0 ds)) : C g ds R [.nils]:=hC.2.2.2.2.2.2 g nf ds R hp hl hok h
def qo (C : CC) (g : Nat) (hs : Option (List Nat)) (K : Env -> Prop) (ns : List ap) (t : Nat) (_ : Tag (hs,K,ns)) (e : Env) (R : List Nat) (acc : List (List Nat × List Nat)) (ds : List D) : Prop :=
 (∃ d,C g ds d [] /\ cR (some t) (kOf C hs K ns e R acc) d) \/ ∃ d,okR d=true /\ C g ds d [.nils] /\ kOf C hs K ns e R acc ((t,dz t d)::aJ t d) (db t d)
theorem sX {g : Nat} {hs : Option (List Nat)} {K : Env -> Prop} {ns : List ap} {t : Nat} {u : Tag (hs,K,ns)} {R : List Nat} {acc : List (List Nat × List Nat)} {ds : List D} {d : D} (h : C g ds d [.nils]) (hok : okR d=true) (hk : doW C hs K ns ⟨⟩ e R acc ((t,dz t d)::aJ t d) (db t d)) : qo C g hs K ns t u e R acc ds:=.inr ⟨d,hok,h,hk⟩
theorem sW {g : Nat} {hs : Option (List Nat)} {K : Env -> Prop} {ns : List ap} {t : Nat} {u : Tag (hs,K,ns)} {R : List Nat} {acc : List (List Nat × List Nat)} {ds : List D} {d : D} (h : C g ds d []) (hk : dW C hs K ns (some t) ⟨⟩ e R acc d) : qo C g hs K ns t u e R acc ds:=.inl ⟨d,h,hk⟩
def Bw (C : CC) (g : Nat) (hs : Option (List Nat)) (K : Env -> Prop) (ns : List ap) (dst : Option Nat) (_ : Tag (hs,K,ns)) (e : Env) (R : List Nat) (acc : List (List Nat × List Nat)) (ds : List D) : Prop :=
 ∃ d,C g ds d [.nilp] /\ cR dst (kOf C hs K ns e R acc) d
def uW (C : CC) (g : Nat) (hs : Option (List Nat)) (K : Env -> Prop) (ns : List ap) (t : Nat) (_ : Tag (hs,K,ns)) (e : Env) (R : List Nat) (acc : List (List Nat × List Nat)) (ds : List D) : Prop :=
 ∃ sz es,C g ds .any [.own sz es] /\ kOf C hs K ns e R acc [(t,.ref (.r (rt t 0)) 0 es.length),(rt t 0,.blk sz es)] [(rt t 0,true)]
theorem sY {g : Nat} {hs : Option (List Nat)} {K : Env -> Prop} {ns : List ap} {t : Nat} {u : Tag (hs,K,ns)} {R : List Nat} {acc : List (List Nat × List Nat)} {ds : List D} {sz : Nat} {es : List (List D)} (h : C g ds .any [.own sz es]) (hk : doW C hs K ns ⟨⟩ e R acc [(t,.ref (.r (rt t 0)) 0 es.length),(rt t 0,.blk sz es)] [(rt t 0,true)]) : uW C g hs K ns t u e R acc ds:=⟨sz,es,h,hk⟩
def uX (C : CC) (g : Nat) (hs : Option (List Nat)) (K : Env -> Prop) (ns : List ap) (dst : Option Nat) (_ : Tag (hs,K,ns)) (e : Env) (R : List Nat) (acc : List (List Nat × List Nat)) (b sz : Nat) (es : List (List D)) (ds : List D) (p : Bool) : Prop:=match dst with
 | none=>∃ es' : List (List D),es'.length=es.length /\ (∀ e ∈ es',e.length=sz /\ ∀ c ∈ e,ar c=true) /\ (p=true \/ ∀ e ∈ es',∀ c ∈ e,bi c=true) /\ C g (.own sz es::ds) .any [.own sz es',.nilp] /\ doW C hs K ns ⟨⟩ e R acc [(b,.blk sz es')] []
 | some t=>(∃ es' : List (List D),es'.length=es.length /\ (∀ e ∈ es',e.length=sz /\ ∀ c ∈ e,ar c=true) /\ (p=true \/ ∀ e ∈ es',∀ c ∈ e,bi c=true) /\ C g (.own sz es::ds) .any [.own sz es',.nilp] /\ doW C hs K ns ⟨⟩ e R acc [(t,.tup []),(b,.blk sz es')] []) \/ (b ≠ rt t 0 /\ 0 < sz /\ ∃ es' : List (List D),(∀ e ∈ es',e.length=sz /\ ∀ c ∈ e,ar c=true) /\ (p=true \/ ∀ e ∈ es',∀ c ∈ e,bi c=true) /\ C g (.own sz es::ds) .any [.own sz es',.nils] /\ doW C hs K ns ⟨⟩ e R acc [(t,.ref (.r (rt t 0)) 0 es'.length),(rt t 0,.blk sz es'),(b,.any)] [(rt t 0,true)])
def Do (C : CC) (g : Nat) (hs : Option (List Nat)) (K : Env -> Prop) (ns : List ap) (dst : Option Nat) (_ : Tag (hs,K,ns)) (e : Env) (R : List Nat) (acc : List (List Nat × List Nat)) (b n : Nat) (xs : List Opd) (d : D) : Prop:=match d with
 | .blk sz es=>es.length=n /\ (∀ e ∈ es,∀ c ∈ e,ar c=true) /\ (∀ x ∈ xs,bq (fbE (ab e) b) (vd (fbE (ab e) b) x)) /\ uX C g hs K ns dst ⟨⟩ e R acc b sz es (xs.map (dpv (fbE (ab e) b))) (xs.all fun y=>isV (vd (fbE (ab e) b) y))
 | _=>False
def KM (C : CC) (g : Nat) (hs : Option (List Nat)) (K : Env -> Prop) (ns : List ap) (dst : Option Nat) (_ : Tag (hs,K,ns)) (e : Env) (R : List Nat) (acc : List (List Nat × List Nat)) (xs : List Opd) (d : D) : Prop:=match d with
 | .ref (.r b) k n=>k=0 /\ Do C g hs K ns dst ⟨⟩ e R acc b n xs (ab e b)
 | _=>False
@[simp] theorem Px {f : Nat -> D} {b t : Nat} : fbE f b t=if t=b then .any else f t:=_root_.id rfl
theorem aa {g : Nat} {hs : Option (List Nat)} {K : Env -> Prop} {ns : List ap} {dst : Option Nat} {u : Tag (hs,K,ns)} {R : List Nat} {acc : List (List Nat × List Nat)} {p : Bool} {ds : List D} (h : C g ds d []) (hf : isF d=true \/ p=true) (hk : dW C hs K ns dst ⟨⟩ e R acc d) : oZ C g hs K ns dst u e R acc p ds:=⟨d,h,hf,hk⟩
def oG (S : Type) (G : S -> Env) (I : S -> Prop) (m : S -> Nat) (s : S) (Q : b9 -> Env -> Prop) : b9 -> Env -> Prop:=fun t e'=>match t with
    | .nrm=>∃ s',I s' /\ m s' < m s /\ jC e' (G s')
    | t=>Q t e'
theorem ay {c : dw} {u : Tag (c,Q)} (S : Type) (G : S -> Env) (I : S -> Prop) (m : S -> Nat) (s0 : S) (h0 : I s0) (hw : jC e (G s0))
  (h : ∀ s,I s -> wN C c (oG S G I m s Q) ⟨⟩ (G s)) : se C c Q u e:=⟨S,G,I,m,s0,h0,hw,h⟩
@[simp] theorem OS {u} : wN C .skip Q u e=bH Q ⟨⟩ .nrm e:=_root_.id rfl
@[simp] theorem Qv {hs keep ops u} : wN C (.reg false hs keep ops) Q u e=tR C (yM keep Q) ops ⟨⟩ e:=_root_.id rfl
@[simp] theorem OP {hs keep ops u} : wN C (.reg true hs keep ops) Q u e=qZ C hs (yM keep Q) ops ⟨⟩ e []:=_root_.id rfl
@[simp] theorem Qx {x y u} : wN C (.seq x y) Q u e=wN C x (yS C y Q) ⟨⟩ e:=_root_.id rfl
def brB (b : Bool) (X Y : Prop) (_ : Tag (X,Y)) : Prop:=(b=true -> X) /\ (b=false -> Y)
theorem ae {b : Bool} {X Y : Prop} {u} (h1 : b=true -> X) (h2 : b=false -> Y) : brB b X Y u:=⟨h1,h2⟩
@[simp] theorem Hf {X Y : Prop} {u} : brB true X Y u=X:=by simp [brB]
@[simp] theorem D8 {X Y : Prop} {u} : brB false X Y u=Y:=by simp [brB]
def cdW (C : CC) (x y : dw) (Q : b9 -> Env -> Prop) (_ : Tag (x,y,Q)) (e : Env) (d : D) : Prop:=match d with
 | .bool b=>brB b (wN C x Q ⟨⟩ e) (wN C y Q ⟨⟩ e) ⟨⟩
 | .bb=>wN C x Q ⟨⟩ e /\ wN C y Q ⟨⟩ e
 | _=>False
@[simp] theorem O3 {x y u} : cdW C x y Q u e .bb=(wN C x Q ⟨⟩ e /\ wN C y Q ⟨⟩ e):=_root_.id rfl
@[simp] theorem Hg {x y u b} : cdW C x y Q u e (.bool b)=brB b (wN C x Q ⟨⟩ e) (wN C y Q ⟨⟩ e) ⟨⟩:=_root_.id rfl
@[simp] theorem OO {c x y u} : wN C (.cond c x y) Q u e=cdW C x y Q ⟨⟩ e (vd (ab e) c):=_root_.id rfl
@[simp] theorem KU {id c u} : wN C (.block id c) Q u e=wN C c (oc id Q) ⟨⟩ e:=_root_.id rfl
@[simp] theorem OR {c u} : wN C (.loop c) Q u e=se C c Q ⟨⟩ e:=_root_.id rfl
@[simp] theorem OQ {id u} : wN C (.exit id) Q u e=bH Q ⟨⟩ (.ext id) e:=_root_.id rfl
@[simp] theorem Qw {u} : wN C .ret Q u e=bH Q ⟨⟩ .ret e:=_root_.id rfl
@[simp] theorem xV {y u} : bH (yS C y Q) u .nrm e=wN C y Q ⟨⟩ e:=_root_.id rfl
@[simp] theorem xU {y u i} : bH (yS C y Q) u (.ext i) e=bH Q ⟨⟩ (.ext i) e:=_root_.id rfl
@[simp] theorem xW {y u} : bH (yS C y Q) u .ret e=bH Q ⟨⟩ .ret e:=_root_.id rfl
@[simp] theorem vo {id u} : bH (oc id Q) u .nrm e=bH Q ⟨⟩ .nrm e:=_root_.id rfl
@[simp] theorem vn {id u i} : bH (oc id Q) u (.ext i) e=if i=id then bH Q ⟨⟩ .nrm e else bH Q ⟨⟩ (.ext i) e:=_root_.id rfl
@[simp] theorem vp {id u} : bH (oc id Q) u .ret e=bH Q ⟨⟩ .ret e:=_root_.id rfl
@[simp] theorem xM {r u} : bH (fin r d) u .nrm e=fW r d e:=by simp [bH,fin]
@[simp] theorem xN {r u} : bH (fin r d) u .ret e=fW r d e:=by simp [bH,fin]
@[simp] theorem xb {r d} {u : Tag (tp r d)} : bH (tp r d) u .nrm e=js r d e:=by simp [bH,tp]
@[simp] theorem xc {r d} {u : Tag (tp r d)} : bH (tp r d) u .ret e=js r d e:=by simp [bH,tp]
@[simp] theorem w9 {r sz es} {u : Tag (qC r sz es)} : bH (qC r sz es) u .nrm e=jt r sz es e:=by simp [bH,qC]
@[simp] theorem xa {r sz es} {u : Tag (qC r sz es)} : bH (qC r sz es) u .ret e=jt r sz es e:=by simp [bH,qC]
@[simp] theorem xf {r d sz es} {u : Tag (tr r d sz es)} : bH (tr r d sz es) u .nrm e=((0 < es.length /\ ab e 10015=.blk sz es) /\ fW r d ((10015,.any)::e)):=by simp [bH,tr]
@[simp] theorem xg {r d sz es} {u : Tag (tr r d sz es)} : bH (tr r d sz es) u .ret e=((0 < es.length /\ ab e 10015=.blk sz es) /\ fW r d ((10015,.any)::e)):=by simp [bH,tr]
@[simp] theorem xd {r sz es} {u : Tag (tq r sz es)} : bH (tq r sz es) u .nrm e=ju r sz es e:=by simp [bH,tq]
@[simp] theorem xe {r sz es} {u : Tag (tq r sz es)} : bH (tq r sz es) u .ret e=ju r sz es e:=by simp [bH,tq]
@[simp] theorem w7 {r d} {u : Tag (qB r d)} : bH (qB r d) u .nrm e=pT r d e:=by simp [bH,qB]
@[simp] theorem w8 {r d} {u : Tag (qB r d)} : bH (qB r d) u .ret e=pT r d e:=by simp [bH,qB]
@[simp] theorem vr {S G I m s u} : bH (oG S G I m s Q) u .nrm e=∃ s',I s' /\ m s' < m s /\ jC e (G s'):=_root_.id rfl
@[simp] theorem vq {S G I m s u i} : bH (oG S G I m s Q) u (.ext i) e=bH Q ⟨⟩ (.ext i) e:=_root_.id rfl
@[simp] theorem vt {S G I m s u} : bH (oG S G I m s Q) u .ret e=bH Q ⟨⟩ .ret e:=_root_.id rfl
end
section
variable {C : CC} {Q : b9 -> Env -> Prop} {e : Env} {K : Env -> Prop} {dst : Option Nat} {d : D} {hs : Option (List Nat)} {ns : List ap} {R : List Nat} {acc : List (List Nat × List Nat)} {u : Tag (hs,K,ns)}
@[simp] theorem Ks {keep u} : tR C (yM keep Q) [] u e=bH Q ⟨⟩ .nrm (prune keep e):=_root_.id rfl
@[simp] theorem Kr {h keep u} : qZ C h (yM keep Q) [] u e acc=(Ig h acc /\ bH Q ⟨⟩ .nrm (prune keep e)):=_root_.id rfl
@[simp] theorem Gr {dst op ns u} : tR C K (⟨dst,op,none⟩::ns) u e=opW C none K ns dst op ⟨⟩ e [] []:=_root_.id rfl
@[simp] theorem Gp {h dst op ns u} : qZ C h K (⟨dst,op,none⟩::ns) u e acc=(chk (ab e) ⟨dst,op,none⟩=true /\ opW C (some h) K ns dst op ⟨⟩ e (ip (ab e) ⟨dst,op,none⟩) acc):=_root_.id rfl
def mQ (C : CC) (h : List Nat) (K : Env -> Prop) (ns : List ap) (_ : Tag (h,K,ns)) (e : Env) (dst : Option Nat) (R : List Nat) (acc : List (List Nat × List Nat)) : Prop:=go e dst fun e'=>jb C h K ns e' ((R,tm dst)::acc)
@[simp] theorem Dg {h t ns u} : mQ C h K ns u e (some t) R acc=qZ C h K ns ⟨⟩ ((t,.tup [])::e) ((R,[4 * t])::acc):=_root_.id rfl
@[simp] theorem Df {h ns u} : mQ C h K ns u e none R acc=qZ C h K ns ⟨⟩ e ((R,[])::acc):=_root_.id rfl
def gdT (C : CC) (K : Env -> Prop) (ns : List ap) (dst : Option Nat) (op : NOp) (s : Nat) (want : Bool) (_ : Tag (K,ns)) (e : Env) (d : D) : Prop:=match d with
 | .bool b=>(b=want -> opW C none K ns dst op ⟨⟩ ((s,.bool want)::e) [] []) /\ (b=!want -> dW C none K ns dst ⟨⟩ ((s,.bool !want)::e) [] [] (.tup []))
 | .tup []=>dW C none K ns dst ⟨⟩ e [] [] (.tup [])
 | _=>False
@[simp] theorem H0 {op s b u} : gdT C K ns dst op s true u e (.bool b)=brB b (opW C none K ns dst op ⟨⟩ ((s,.bool true)::e) [] []) (dW C none K ns dst ⟨⟩ ((s,.bool false)::e) [] [] (.tup [])) ⟨⟩:=_root_.id rfl
@[simp] theorem ET {op s b u} : gdT C K ns dst op s false u e (.bool b)=brB b (dW C none K ns dst ⟨⟩ ((s,.bool true)::e) [] [] (.tup [])) (opW C none K ns dst op ⟨⟩ ((s,.bool false)::e) [] []) ⟨⟩:=by
 simp only [gdT,brB,Bool.not_false];exact propext ⟨fun h=>⟨h.2,h.1⟩,fun h=>⟨h.2,h.1⟩⟩
@[simp] theorem HZ {op s want u} : gdT C K ns dst op s want u e (.tup [])=dW C none K ns dst ⟨⟩ e [] [] (.tup []):=_root_.id rfl
@[simp] theorem Gs {dst op s want ns u} : tR C K (⟨dst,op,some (s,want)⟩::ns) u e=gdT C K ns dst op s want ⟨⟩ e (ab e s):=by
 simp only [tR,gU,opW,qf,go,gdT,dW,cR,kOf,Am,dB]
 cases ab e s <;> cases dst <;> (first | rfl | (rename_i x _ ;cases x <;> rfl) | (rename_i x;cases x <;> rfl))
def gdD (C : CC) (h : List Nat) (K : Env -> Prop) (ns : List ap) (dst : Option Nat) (op : NOp) (want : Bool) (_ : Tag (K,ns)) (e : Env) (R : List Nat) (acc : List (List Nat × List Nat)) (d : D) : Prop:=match d with
 | .bool b=>(b=want -> opW C (some h) K ns dst op ⟨⟩ e R acc) /\ (b=!want -> mQ C h K ns ⟨⟩ e dst R acc)
 | .tup []=>mQ C h K ns ⟨⟩ e dst R acc
 | _=>False
@[simp] theorem HY {h op b u} : gdD C h K ns dst op true u e R acc (.bool b)=brB b (opW C (some h) K ns dst op ⟨⟩ e R acc) (mQ C h K ns ⟨⟩ e dst R acc) ⟨⟩:=_root_.id rfl
@[simp] theorem ES {h op b u} : gdD C h K ns dst op false u e R acc (.bool b)=brB b (mQ C h K ns ⟨⟩ e dst R acc) (opW C (some h) K ns dst op ⟨⟩ e R acc) ⟨⟩:=by
 simp only [gdD,brB,Bool.not_false];exact propext ⟨fun h=>⟨h.2,h.1⟩,fun h=>⟨h.2,h.1⟩⟩
@[simp] theorem HX {h op want u} : gdD C h K ns dst op want u e R acc (.tup [])=mQ C h K ns ⟨⟩ e dst R acc:=_root_.id rfl
@[simp] theorem Gq {h dst op s want ns u} : qZ C h K (⟨dst,op,some (s,want)⟩::ns) u e acc=(chk (ab e) ⟨dst,op,some (s,want)⟩=true /\ gdD C h K ns dst op want ⟨⟩ e (ip (ab e) ⟨dst,op,some (s,want)⟩) acc (ab e s)):=_root_.id rfl
@[simp] theorem Hq {K ns u ws ks} : doW C none K ns u e R acc ws ks=tR C K ns ⟨⟩ (ws++dB ks e):=_root_.id rfl
@[simp] theorem Hp {h K ns u ws ks} : doW C (some h) K ns u e R acc ws ks=(wOk R ws ks=true /\ qZ C h K ns ⟨⟩ (ws++dB ks e) ((R,wrK ws ks)::acc)):=_root_.id rfl
@[simp] theorem Lj {t} : dW C hs K ns (some t) u e R acc d=doW C hs K ns ⟨⟩ e R acc [(t,d)] []:=_root_.id rfl
@[simp] theorem Li : dW C hs K ns none u e R acc d=doW C hs K ns ⟨⟩ e R acc [] []:=_root_.id rfl
def aS (ks : List (Nat × Bool)) (d : D) : D:=if aD ks d then .any else d
theorem cg (ks : List (Nat × Bool)) (d : D) : aS ks d=bif aD ks d then .any else d:=by
 unfold aS;cases aD ks d <;> rfl
@[simp] theorem FV : dB [] e=e:=_root_.id rfl
@[simp] theorem FU {k ks} : dB (k::ks) []=[]:=_root_.id rfl
@[simp] theorem Cp {k ks s d} : dB (k::ks) ((s,d)::e)=(s,aS (k::ks) d)::dB (k::ks) e:=_root_.id rfl
@[simp] theorem FI {ks} : aS ks .any=.any:=by simp [aS]
@[simp] theorem FK {ks k n} : aS ks (.int k n)=.int k n:=by simp [aS,aD,cZ,aK]
@[simp] theorem Cm {ks n} : aS ks (.bool n)=.bool n:=by simp [aS,aD,cZ,aK]
@[simp] theorem FQ {ks n} : aS ks (.str n)=.str n:=by simp [aS,aD,cZ,aK]
@[simp] theorem Jv {ks} : aS ks .bb=.bb:=by simp [aS,aD,cZ,aK]
@[simp] theorem Cn {ks} : aS ks .nilp=.nilp:=by simp [aS,aD,cZ,aK]
@[simp] theorem Co {ks} : aS ks .nils=.nils:=by simp [aS,aD,cZ,aK]
@[simp] theorem FG {ks n} : aS ks (.agg n)=.agg n:=by simp [aS,aD,cZ,aK]
@[simp] theorem FT {ks n} : aS ks (.tup n)=.tup n:=by simp [aS,aD,cZ,aK]
@[simp] theorem vO {ks n} : aS ks (.sl n)=.sl n:=by simp [aS,aD,cZ,aK]
@[simp] theorem tD {ks n} : aS ks (.ptr n)=.ptr n:=by simp [aS,aD,cZ,aK]
@[simp] theorem Jw {ks g n} : aS ks (.fn g n)=.fn g n:=by simp [aS,aD,cZ,aK]
@[simp] theorem nw {ks g n} : aS ks (.blk g n)=.blk g n:=by simp [aS,aD,cZ,aK]
@[simp] theorem Jx {ks kt et xs vs} : aS ks (.mp kt et xs vs)=.mp kt et xs vs:=by simp [aS,aD,cZ,aK]
@[simp] theorem FO {b all ks p k n} : aS ((b,all)::ks) (.ref p k n)=if bK b all p then .any else aS ks (.ref p k n):=by
 have h : aS ((b,all)::ks) (.ref p k n)=bif (bK b all p || aD ks (.ref p k n)) then .any else .ref p k n:=cg ..
 rw [h,cg]
 cases bK b all p <;> rfl
@[simp] theorem FF {b all ks p k n} : aS ((b,all)::ks) (.adr p k n)=if bK b all p then .any else aS ks (.adr p k n):=by
 have h : aS ((b,all)::ks) (.adr p k n)=bif (bK b all p || aD ks (.adr p k n)) then .any else .adr p k n:=cg ..
 rw [h,cg]
 cases bK b all p <;> rfl
@[simp] theorem FH {b all ks n} : aS ((b,all)::ks) (.agx n)=if n.any (aK b all) then .any else aS ks (.agx n):=by
 have h : aS ((b,all)::ks) (.agx n)=bif (n.any (aK b all) || aD ks (.agx n)) then .any else .agx n:=cg ..
 rw [h,cg]
 cases n.any (aK b all) <;> rfl
@[simp] theorem FJ {b all ks g n} : aS ((b,all)::ks) (.fnx g n)=if n.any (aK b all) then .any else aS ks (.fnx g n):=by
 have h : aS ((b,all)::ks) (.fnx g n)=bif (n.any (aK b all) || aD ks (.fnx g n)) then .any else .fnx g n:=cg ..
 rw [h,cg]
 cases n.any (aK b all) <;> rfl
@[simp] theorem FM {d} : aS [] d=d:=by simp [aS,aD]
@[simp] theorem FP {ks b es} : aS ks (slx b es)=slx b es:=by cases b <;> cases es <;> simp [slx]
def i7 (C : CC) (hs : Option (List Nat)) (K : Env -> Prop) (ns : List ap) (dst : Option Nat) (_ : Tag (hs,K,ns)) (e : Env) (R : List Nat) (acc : List (List Nat × List Nat)) (sz : Nat) (es : List (List D)) (i : Nat) : Prop :=
 ∃ c,es[i]? = some c /\ c.length=sz /\ cR dst (kOf C hs K ns e R acc) (.ptr c)
@[simp] theorem Ie {α : Type} [Inhabited α] {sz : Nat} {xs : List α} {f : α -> List D} {i : Nat} : i7 C hs K ns dst u e R acc sz (xs.map f) i=(i < xs.length /\ (f xs[i]!).length=sz /\ dW C hs K ns dst ⟨⟩ e R acc (.ptr (f xs[i]!))):=by
 apply propext
 unfold i7 dW
 constructor
 ·rintro ⟨c,h,h1,h2⟩
  rw [List.getElem?_map,Option.map_eq_some_iff] at h
  obtain ⟨x,hx,rfl⟩:=h
  obtain ⟨hi,rfl⟩:=List.getElem?_eq_some_iff.1 hx
  rw [getElem!_pos xs i hi]
  exact ⟨hi,h1,h2⟩
 ·rintro ⟨hi,h1,h2⟩
  rw [getElem!_pos xs i hi] at h1 h2
  exact ⟨_,by rw [List.getElem?_map,List.getElem?_eq_getElem hi];rfl,h1,h2⟩
def Bu (C : CC) (hs : Option (List Nat)) (K : Env -> Prop) (ns : List ap) (dst : Option Nat) (_ : Tag (hs,K,ns)) (e : Env) (R : List Nat) (acc : List (List Nat × List Nat)) (s : List UInt8) (i : Nat) : Prop :=
 ∃ b,s[i]? = some b /\ cR dst (kOf C hs K ns e R acc) (.int .u8 b.toNat)
@[simp] theorem Lh {s : List UInt8} {i : Nat} : Bu C hs K ns dst u e R acc s i=(i < s.length /\ dW C hs K ns dst ⟨⟩ e R acc (.int .u8 (s[i]!).toNat)):=by
 apply propext
 unfold Bu dW
 constructor
 ·rintro ⟨b,h,h2⟩
  obtain ⟨hi,rfl⟩:=List.getElem?_eq_some_iff.1 h
  rw [getElem!_pos s i hi]
  exact ⟨hi,h2⟩
 ·rintro ⟨hi,h2⟩
  rw [getElem!_pos s i hi] at h2
  exact ⟨_,List.getElem?_eq_getElem hi,h2⟩
def kJ (C : CC) (hs : Option (List Nat)) (K : Env -> Prop) (ns : List ap) (dst : Option Nat) (_ : Tag (hs,K,ns)) (e : Env) (R : List Nat) (acc : List (List Nat × List Nat)) (n : Nat) (ag : Bool) (p : Pa) (es : List (List D)) (i off : Nat) : Prop :=
 ∃ r,es[i]? = some r /\ off + n <= r.length /\ match ag with
    | true=>(((r.drop off).take n).all isV=true -> cR dst (kOf C hs K ns e R acc) (.agg ((r.drop off).take n))) /\
      (((r.drop off).take n).all isV=false -> cR dst (kOf C hs K ns e R acc) (.agx (((r.drop off).take n).mapIdx fun j c=>ldc p i (off + j) c)))
    | false=>cR dst (kOf C hs K ns e R acc) (ldc p i off ((r.drop off).headD .any))
theorem sv {n : Nat} {ag : Bool} {p : Pa} {es : List (List D)} {i off : Nat} {r : List D} (hr : es[i]? = some r) (hl : off + n <= r.length) (hk : match ag with
    | true=>(((r.drop off).take n).all isV=true -> dW C hs K ns dst ⟨⟩ e R acc (.agg ((r.drop off).take n))) /\
      (((r.drop off).take n).all isV=false -> dW C hs K ns dst ⟨⟩ e R acc (.agx (((r.drop off).take n).mapIdx fun j c=>ldc p i (off + j) c)))
    | false=>dW C hs K ns dst ⟨⟩ e R acc (ldc p i off ((r.drop off).headD .any))) : kJ C hs K ns dst u e R acc n ag p es i off:=by
 refine ⟨r,hr,hl,?_⟩
 cases ag <;> exact hk
@[simp] theorem KA {n : Nat} {ag : Bool} {p : Pa} {r : List D} {off : Nat} : kJ C hs K ns dst u e R acc n ag p [r] 0 off=(off + n <= r.length /\ match ag with
    | true=>(((r.drop off).take n).all isV=true -> dW C hs K ns dst ⟨⟩ e R acc (.agg ((r.drop off).take n))) /\
      (((r.drop off).take n).all isV=false -> dW C hs K ns dst ⟨⟩ e R acc (.agx (((r.drop off).take n).mapIdx fun j c=>ldc p 0 (off + j) c)))
    | false=>dW C hs K ns dst ⟨⟩ e R acc (ldc p 0 off ((r.drop off).headD .any))):=by
 apply propext
 constructor
 ·rintro ⟨r',h1,h2,h3⟩
  simp at h1;subst h1
  refine ⟨h2,?_⟩
  cases ag <;> exact h3
 ·rintro ⟨h2,h3⟩
  refine ⟨r,rfl,h2,?_⟩
  cases ag <;> exact h3
end
section
variable {C : CC} {Q : b9 -> Env -> Prop} {e : Env} {K : Env -> Prop} {dst : Option Nat} {hs : Option (List Nat)} {ns : List ap} {R : List Nat} {acc : List (List Nat × List Nat)} {u : Tag (hs,K,ns)}
@[simp] theorem OF {x v1} : opW C hs K ns dst (.mov x) v1 e R acc=(isS (vd (ab e) x)=true /\ dW C hs K ns dst ⟨⟩ e R acc (vd (ab e) x)):=_root_.id rfl
@[simp] theorem OI {x v1} : opW C hs K ns dst (.nck x) v1 e R acc=(match (generalizing:=false) vd (ab e) x with
  | .ptr ds=>dW C hs K ns dst ⟨⟩ e R acc (.ptr ds)
  | .adr p i off=>dW C hs K ns dst ⟨⟩ e R acc (.adr p i off)
  | .ptx ds=>dW C hs K ns dst ⟨⟩ e R acc (.ptx ds)
  | _=>False):=_root_.id rfl
@[simp] theorem Kq {c a b v1} : opW C hs K ns dst (.pick c a b) v1 e R acc=(match (generalizing:=false) vd (ab e) c with
  | .bool v=>(v=true -> isS (vd (ab e) a)=true /\ dW C hs K ns dst ⟨⟩ e R acc (vd (ab e) a)) /\ (v=false -> isS (vd (ab e) b)=true /\ dW C hs K ns dst ⟨⟩ e R acc (vd (ab e) b))
  | _=>False):=_root_.id rfl
@[simp] theorem Ol {op x y v1} : opW C hs K ns dst (.bin op x y) v1 e R acc=(match (generalizing:=false) vd (ab e) x,vd (ab e) y with
  | .int k a,.int k' b=>match (generalizing:=false) op with
   | .add=>k=k' /\ dW C hs K ns dst ⟨⟩ e R acc (.int k (k.wrap (a + b)))
   | .sub=>k=k' /\ dW C hs K ns dst ⟨⟩ e R acc (.int k (k.wrap (a - b)))
   | .mul=>k=k' /\ dW C hs K ns dst ⟨⟩ e R acc (.int k (k.wrap (a * b)))
   | .quo=>k=k' /\ b ≠ 0 /\ dW C hs K ns dst ⟨⟩ e R acc (.int k (k.wrap (a.tdiv b)))
   | .rem=>k=k' /\ b ≠ 0 /\ dW C hs K ns dst ⟨⟩ e R acc (.int k (a.tmod b))
   | .and=>k=k' /\ dW C hs K ns dst ⟨⟩ e R acc (.int k (bits .and k a b))
   | .or=>k=k' /\ dW C hs K ns dst ⟨⟩ e R acc (.int k (bits .or k a b))
   | .xor=>k=k' /\ dW C hs K ns dst ⟨⟩ e R acc (.int k (bits .xor k a b))
   | .andNot=>k=k' /\ dW C hs K ns dst ⟨⟩ e R acc (.int k (bits .andNot k a b))
   | .shl=>0 <= b /\ dW C hs K ns dst ⟨⟩ e R acc (.int k (k.wrap (a * 2 ^ (min b.toNat k.bits))))
   | .shr=>0 <= b /\ dW C hs K ns dst ⟨⟩ e R acc (.int k (a.fdiv (2 ^ (min b.toNat k.bits))))
   | .eql=>k=k' /\ dW C hs K ns dst ⟨⟩ e R acc (.bool (decide (a=b)))
   | .neq=>k=k' /\ dW C hs K ns dst ⟨⟩ e R acc (.bool (!decide (a=b)))
   | .lss=>k=k' /\ dW C hs K ns dst ⟨⟩ e R acc (.bool (decide (a < b)))
   | .leq=>k=k' /\ dW C hs K ns dst ⟨⟩ e R acc (.bool (decide (a <= b)))
   | .gtr=>k=k' /\ dW C hs K ns dst ⟨⟩ e R acc (.bool (decide (b < a)))
   | .geq=>k=k' /\ dW C hs K ns dst ⟨⟩ e R acc (.bool (decide (b <= a)))
  | .str a,.str b=>match (generalizing:=false) op with
   | .eql=>dW C hs K ns dst ⟨⟩ e R acc (.bool (decide (a=b)))
   | .neq=>dW C hs K ns dst ⟨⟩ e R acc (.bool (!decide (a=b)))
   | .add=>((a++b).length : Int) <= 9223372036854775807 /\ dW C hs K ns dst ⟨⟩ e R acc (.str (a++b))
   | .lss=>dW C hs K ns dst ⟨⟩ e R acc (.bool (Op.bytesLess a b))
   | .leq=>dW C hs K ns dst ⟨⟩ e R acc (.bool (Op.bytesLess a b || a == b))
   | .gtr=>dW C hs K ns dst ⟨⟩ e R acc (.bool !(Op.bytesLess a b || a == b))
   | .geq=>dW C hs K ns dst ⟨⟩ e R acc (.bool !(Op.bytesLess a b))
   | _=>False
  | _,_=>False):=_root_.id rfl
@[simp] theorem Qj {op x v1} : opW C hs K ns dst (.un op x) v1 e R acc=(match (generalizing:=false) vd (ab e) x with
  | .bool b=>match (generalizing:=false) op with
   | .not=>dW C hs K ns dst ⟨⟩ e R acc (.bool (!b))
   | _=>False
  | .int k n=>match (generalizing:=false) op with
   | .neg=>dW C hs K ns dst ⟨⟩ e R acc (.int k (k.wrap (0 - n)))
   | _=>False
  | _=>False):=_root_.id rfl
@[simp] theorem Kj {k x v1} : opW C hs K ns dst (.conv k x) v1 e R acc=(match (generalizing:=false) vd (ab e) x with
  | .int _ n=>dW C hs K ns dst ⟨⟩ e R acc (.int k (k.wrap n))
  | _=>False):=_root_.id rfl
@[simp] theorem Oj {neg ks x y v1} : opW C hs K ns dst (.beq neg ks x y) v1 e R acc=(match (generalizing:=false) vd (ab e) x,vd (ab e) y with
  | .bool a,.bool b=>ks=[] /\ dW C hs K ns dst ⟨⟩ e R acc (.bool ((a == b) != neg))
  | .agg a,.agg b=>ks ≠ [] /\ match (generalizing:=false) ca ks a b with
   | some r=>dW C hs K ns dst ⟨⟩ e R acc (.bool (r != neg))
   | none=>False
  | .nils,.nils=>ks=[9] /\ dW C hs K ns dst ⟨⟩ e R acc (.bool (!neg))
  | .sl es,.nils=>ks=[9] /\ (0 < es.length -> dW C hs K ns dst ⟨⟩ e R acc (.bool neg)) /\ (es.length=0 -> dW C hs K ns dst ⟨⟩ e R acc .bb)
  | .nilp,.nilp=>ks=[8] /\ dW C hs K ns dst ⟨⟩ e R acc (.bool (!neg))
  | .ptr _,.nilp=>ks=[8] /\ dW C hs K ns dst ⟨⟩ e R acc (.bool neg)
  | _,_=>False):=_root_.id rfl
@[simp] theorem Ox {off n ag x v1} : opW C hs K ns dst (.fld off n ag x) v1 e R acc=(match (generalizing:=false) vd (ab e) x with
  | .agg ds=>off + n <= ds.length /\ dW C hs K ns dst ⟨⟩ e R acc (lr ag n (ds.drop off))
  | .agx ds=>off + n <= ds.length /\ match (generalizing:=false) ag with
   | true=>dW C hs K ns dst ⟨⟩ e R acc (.agx ((ds.drop off).take n))
   | false=>dW C hs K ns dst ⟨⟩ e R acc ((ds.drop off).headD .any)
  | _=>False):=_root_.id rfl
@[simp] theorem Km {len sz ag x i v1} : opW C hs K ns dst (.idxA len sz ag x i) v1 e R acc=(match (generalizing:=false) vd (ab e) x,vd (ab e) i with
  | .agg ds,.int _ j=>0 <= j /\ j < len /\ j.toNat * sz + sz <= ds.length /\ dW C hs K ns dst ⟨⟩ e R acc (lr ag sz (ds.drop (j.toNat * sz)))
  | .agx ds,.int _ j=>0 <= j /\ j < len /\ j.toNat * sz + sz <= ds.length /\ match (generalizing:=false) ag with
   | true=>dW C hs K ns dst ⟨⟩ e R acc (.agx ((ds.drop (j.toNat * sz)).take sz))
   | false=>dW C hs K ns dst ⟨⟩ e R acc ((ds.drop (j.toNat * sz)).headD .any)
  | _,_=>False):=_root_.id rfl
@[simp] theorem OJ {len sz x v1} : opW C hs K ns dst (.slA len sz x) v1 e R acc=(match (generalizing:=false) vd (ab e) x with
  | .ptr ds=>0 < len /\ 0 < sz /\ len * sz <= ds.length /\ dW C hs K ns dst ⟨⟩ e R acc (.sl (b6 sz len ds))
  | _=>False):=_root_.id rfl
@[simp] theorem Ou {x v1} : opW C hs K ns dst (.cvS x) v1 e R acc=(match (generalizing:=false) vd (ab e) x with
  | .sl es=>0 < es.length /\ (∀ r ∈ es,∃ n : Nat,r=[.int .u8 n] /\ n < 256) /\ dW C hs K ns dst ⟨⟩ e R acc (.str (es.map jk))
  | _=>False):=_root_.id rfl
@[simp] theorem Kn {x i v1} : opW C hs K ns dst (.idxS x i) v1 e R acc=(match (generalizing:=false) vd (ab e) x,vd (ab e) i with
  | .str s,.int _ j=>0 <= j /\ Bu C hs K ns dst ⟨⟩ e R acc s j.toNat
  | _,_=>False):=_root_.id rfl
@[simp] theorem Ov {i x v1} : opW C hs K ns dst (.ext i x) v1 e R acc=(match (generalizing:=false) vd (ab e) x with
  | .tup ds=>∃ d,ds[i]? = some d /\ dW C hs K ns dst ⟨⟩ e R acc d
  | .tpx ds=>∃ d,ds[i]? = some d /\ dW C hs K ns dst ⟨⟩ e R acc d
  | _=>False):=_root_.id rfl
@[simp] theorem Ow {off x v1} : opW C hs K ns dst (.fad off x) v1 e R acc=(match (generalizing:=false) vd (ab e) x with
  | .adr p i o=>dW C hs K ns dst ⟨⟩ e R acc (.adr p i (o + off))
  | .ptr ds=>dW C hs K ns dst ⟨⟩ e R acc (.ptr (ds.drop off))
  | .ptx ds=>dW C hs K ns dst ⟨⟩ e R acc (.ptx (ds.drop off))
  | _=>False):=_root_.id rfl
@[simp] theorem Kk {len sz x i v1} : opW C hs K ns dst (.iadA len sz x i) v1 e R acc=(match (generalizing:=false) vd (ab e) x,vd (ab e) i with
  | .adr p r o,.int _ j=>0 <= j /\ j < len /\ dW C hs K ns dst ⟨⟩ e R acc (.adr p r (o + j.toNat * sz))
  | .ptr ds,.int _ j=>0 <= j /\ j < len /\ dW C hs K ns dst ⟨⟩ e R acc (.ptr (ds.drop (j.toNat * sz)))
  | _,_=>False):=_root_.id rfl
@[simp] theorem Qe {n ag x v1} : opW C hs K ns dst (.ld n ag x) v1 e R acc=(match (generalizing:=false) vd (ab e) x with
  | .adr p i off=>match (generalizing:=false) aX (ab e) p with
   | some (_,es)=>kJ C hs K ns dst ⟨⟩ e R acc n ag p es i off
   | none=>False
  | .ptr ds=>n <= ds.length /\ dW C hs K ns dst ⟨⟩ e R acc (lr ag n ds)
  | .ptx ds=>n <= ds.length /\ match (generalizing:=false) ag with
   | true=>((ds.take n).all isV=true -> dW C hs K ns dst ⟨⟩ e R acc (.agg (ds.take n))) /\ ((ds.take n).all isV=false -> dW C hs K ns dst ⟨⟩ e R acc (.agx (ds.take n)))
   | false=>0 < n /\ dW C hs K ns dst ⟨⟩ e R acc (ds.headD .any)
  | _=>False):=_root_.id rfl
@[simp] theorem Om {zs parts v1} : opW C hs K ns dst (.bld zs parts) v1 e R acc=((∀ p ∈ parts,isS (vd (ab e) p.2.2)=true /\ p.1 + p.2.1 <= zs.length /\ match (generalizing:=false) vd (ab e) p.2.2 with
    | .agg ds=>ds.length=p.2.1
    | .agx ds=>ds.length=p.2.1
    | .any=>False
    | .tpx _=>False
    | .ptx _=>False
    | .fnx _ _=>False
    | _=>p.2.1=1) /\
   ((parts.all fun p=>isV (vd (ab e) p.2.2))=true -> dW C hs K ns dst ⟨⟩ e R acc (.agg (jf zs (parts.map fun p=>(p.1,p.2.1,vd (ab e) p.2.2))))) /\
   ((parts.all fun p=>isV (vd (ab e) p.2.2))=false -> dW C hs K ns dst ⟨⟩ e R acc (.agx (jf zs (parts.map fun p=>(p.1,p.2.1,bX (vd (ab e) p.2.2))))))):=_root_.id rfl
@[simp] theorem Ko {x v1} : opW C hs K ns dst (.lens x) v1 e R acc=(match (generalizing:=false) vd (ab e) x with
  | .str s=>dW C hs K ns dst ⟨⟩ e R acc (.int .i64 s.length)
  | _=>False):=_root_.id rfl
@[simp] theorem Qf {g xs v1} : opW C hs K ns dst (.mk g xs) v1 e R acc=((∀ x ∈ xs,isP (vd (ab e) x)=true) /\ ((xs.all fun x=>isV (vd (ab e) x))=true -> dW C hs K ns dst ⟨⟩ e R acc (.fn g (xs.map (vd (ab e))))) /\ ((xs.all fun x=>isV (vd (ab e) x))=false -> dW C hs K ns dst ⟨⟩ e R acc (.fnx g (xs.map (vd (ab e)))))):=_root_.id rfl
@[simp] theorem OL {x lo hi v1} : opW C hs K ns dst (.slS x lo hi) v1 e R acc=(match (generalizing:=false) vd (ab e) x with
  | .str s=>cX (ab e) hi s.length (fun h=>cX (ab e) lo 0 (fun l=>l <= h /\ h <= s.length /\ dW C hs K ns dst ⟨⟩ e R acc (.str ((s.take h).drop l))) ⟨⟩) ⟨⟩
  | _=>False):=_root_.id rfl
@[simp] theorem Qg {x y v1} : opW C hs K ns dst (.mn x y) v1 e R acc=(match (generalizing:=false) vd (ab e) x,vd (ab e) y with
  | .int k a,.int k' b=>k=k' /\ dW C hs K ns dst ⟨⟩ e R acc (.int k (if b < a then b else a))
  | _,_=>False):=_root_.id rfl
@[simp] theorem Qh {x y v1} : opW C hs K ns dst (.mx x y) v1 e R acc=(match (generalizing:=false) vd (ab e) x,vd (ab e) y with
  | .int k a,.int k' b=>k=k' /\ dW C hs K ns dst ⟨⟩ e R acc (.int k (if a < b then b else a))
  | _,_=>False):=_root_.id rfl
@[simp] theorem Ge {x y c v1} : opW C hs K ns dst (.add64 x y c) v1 e R acc=(match (generalizing:=false) vd (ab e) x,vd (ab e) y,vd (ab e) c with
  | .int .u64 a,.int .u64 b,.int .u64 k=>0 <= a /\ a < 18446744073709551616 /\ 0 <= b /\ b < 18446744073709551616 /\ 0 <= k /\ k <= 1 /\
    dW C hs K ns dst ⟨⟩ e R acc (.tup [.int .u64 ((a + b + k) % 18446744073709551616),.int .u64 ((a + b + k) / 18446744073709551616)])
  | _,_,_=>False):=_root_.id rfl
@[simp] theorem Gn {x y c v1} : opW C hs K ns dst (.sub64 x y c) v1 e R acc=(match (generalizing:=false) vd (ab e) x,vd (ab e) y,vd (ab e) c with
  | .int .u64 a,.int .u64 b,.int .u64 k=>0 <= a /\ a < 18446744073709551616 /\ 0 <= b /\ b < 18446744073709551616 /\ 0 <= k /\ k <= 1 /\
    dW C hs K ns dst ⟨⟩ e R acc (.tup [.int .u64 ((a - b - k) % 18446744073709551616),.int .u64 (if a < b + k then 1 else 0)])
  | _,_,_=>False):=_root_.id rfl
@[simp] theorem Kp {sz v1} : opW C hs K ns dst (.nilo sz) v1 e R acc=(match (generalizing:=false) dst with
  | some t=>0 < sz /\ doW C hs K ns ⟨⟩ e R acc [(t,.ref (.r (rt t 0)) 0 0),(rt t 0,.blk sz [])] [(rt t 0,true)]
  | none=>False):=_root_.id rfl
@[simp] theorem Oo {x t v1} : opW C hs K ns (some t) (.box [] x) v1 e R acc=gb (ab e) (vd (ab e) x) [] (fun cs bs=>bs.contains (rt t 0)=false /\ doW C hs K ns ⟨⟩ e R acc ((t,.adr (.r (rt t 0)) 0 0)::(rt t 0,.blk cs.length [cs])::cj bs) [(rt t 0,true)]) ⟨⟩:=_root_.id rfl
@[simp] theorem Og {zs v1} : opW C hs K ns dst (.alc zs) v1 e R acc=(match (generalizing:=false) dst with
  | some t=>doW C hs K ns ⟨⟩ e R acc [(t,.adr (.r (rt t 0)) 0 0),(rt t 0,.blk zs.length [zs])] [(rt t 0,true)]
  | none=>False):=_root_.id rfl
@[simp] theorem On {sz len zs parts t v1} : opW C hs K ns (some t) (.bls sz len zs [] parts) v1 e R acc=oD (ab e) sz parts (List.replicate len zs) [] (fun es bs=>bz bs=true /\ bs.contains (rt t 0)=false /\ doW C hs K ns ⟨⟩ e R acc ((t,.ref (.r (rt t 0)) 0 len)::(rt t 0,.blk sz es)::cj bs) [(rt t 0,true)]) ⟨⟩:=_root_.id rfl
@[simp] theorem OE {sz by_ zs n c v1} : opW C hs K ns dst (.mks sz by_ zs n c) v1 e R acc=(match (generalizing:=false) dst with
  | some t=>match (generalizing:=false) vd (ab e) n,vd (ab e) c with
   | .int _ n,.int _ c=>0 <= n /\ n <= c /\ c * by_ <= 140737488355328 /\ doW C hs K ns ⟨⟩ e R acc [(t,.ref (.r (rt t 0)) 0 n.toNat),(rt t 0,.blk sz (List.replicate c.toNat zs))] [(rt t 0,true)]
   | _,_=>False
  | none=>False):=_root_.id rfl
def stM (C : CC) (hs : Option (List Nat)) (K : Env -> Prop) (ns : List ap) (_ : Tag (hs,K,ns)) (e : Env) (R : List Nat) (acc : List (List Nat × List Nat)) (n : Nat) (v : D) (cs : List D) (bs : List Nat) (a : D) : Prop:=match a with
 | .adr (.r b) i off=>bs.contains b=false /\ dG (ab e b) (fun sz es=>f7 es[i]? (fun r=>off + n <= r.length /\ doW C hs K ns ⟨⟩ e R acc ((b,.blk sz (bv es i off n cs))::cj bs) (stK v [] b)) ⟨⟩) ⟨⟩
 | .adr (.n b i0 o0) i off=>bs=[] /\ (∀ c ∈ cs,ar c=true) /\ dG (ab e b) (fun sz0 es0=>f7 es0[i0]? (fun row0=>jr row0[o0]? (fun sz es=>f7 es[i]? (fun r=>off + n <= r.length /\ doW C hs K ns ⟨⟩ e R acc [(b,.blk sz0 (bv es0 i0 o0 1 [.own sz (bv es i off n cs)]))] []) ⟨⟩) ⟨⟩) ⟨⟩) ⟨⟩
 | _=>False
@[simp] theorem QP {n v cs bs b i off} : stM C hs K ns u e R acc n v cs bs (.adr (.r b) i off)=(bs.contains b=false /\ dG (ab e b) (fun sz es=>f7 es[i]? (fun r=>off + n <= r.length /\ doW C hs K ns ⟨⟩ e R acc ((b,.blk sz (bv es i off n cs))::cj bs) (stK v [] b)) ⟨⟩) ⟨⟩):=_root_.id rfl
@[simp] theorem QO {n v cs bs b i0 o0 i off} : stM C hs K ns u e R acc n v cs bs (.adr (.n b i0 o0) i off)=(bs=[] /\ (∀ c ∈ cs,ar c=true) /\ dG (ab e b) (fun sz0 es0=>f7 es0[i0]? (fun row0=>jr row0[o0]? (fun sz es=>f7 es[i]? (fun r=>off + n <= r.length /\ doW C hs K ns ⟨⟩ e R acc [(b,.blk sz0 (bv es0 i0 o0 1 [.own sz (bv es i off n cs)]))] []) ⟨⟩) ⟨⟩) ⟨⟩) ⟨⟩):=_root_.id rfl
@[simp] theorem Qi {n a v v1} : opW C hs K ns dst (.st n [] a v) v1 e R acc=(dst=none /\ gb (ab e) (vd (ab e) v) [] (fun cs bs=>cs.length=n /\ stM C hs K ns ⟨⟩ e R acc n (vd (ab e) v) cs bs (vd (ab e) a)) ⟨⟩):=by
 show (dst=none /\ eT (ab e) (vd (ab e) v) [] _)=(dst=none /\ eT (ab e) (vd (ab e) v) [] _)
 congr 1
 congr 1
 funext cs bs
 cases vd (ab e) a <;> try rfl
 rename_i p i off
 cases p with
 | r b =>
  simp only [stM,dG,fb]
  cases ab e b <;> rfl
 | n b i0 o0 =>
  simp only [stM,dG,fb,iX]
  cases ab e b <;> rfl
def sR (C : CC) (hs : Option (List Nat)) (K : Env -> Prop) (ns : List ap) (_ : Tag (hs,K,ns)) (e : Env) (R : List Nat) (acc : List (List Nat × List Nat)) (t sz by_ : Nat) (rowsY : List (List D)) (bs : List Nat) (x : D) : Prop:=match x with
 | .nils=>rowsY.length * by_ <= 140737488355328 /\ doW C hs K ns ⟨⟩ e R acc ((t,.ref (.r (rt t 0)) 0 rowsY.length)::(rt t 0,.blk sz rowsY)::cj bs) [(rt t 0,true)]
 | .ref (.r c) k n=>c ≠ rt t 0 /\ bs.contains c=false /\ dG (ab e c) (fun sz' es=>sz'=sz /\ k + n <= es.length /\ (n + rowsY.length) * by_ <= 140737488355328 /\
      doW C hs K ns ⟨⟩ e R acc ((t,.ref (.r (rt t 0)) 0 (n + rowsY.length))::(rt t 0,.blk sz ((es.drop k).take n++rowsY))::(c,.any)::cj bs) [(rt t 0,true)]) ⟨⟩
 | .ref (.n c i o) k n=>c ≠ rt t 0 /\ bs.contains c=false /\ dG (ab e c) (fun sz0 es0=>f7 es0[i]? (fun row0=>jr row0[o]? (fun sz' es=>sz'=sz /\ k + n <= es.length /\ (n + rowsY.length) * by_ <= 140737488355328 /\
      doW C hs K ns ⟨⟩ e R acc ((t,.ref (.r (rt t 0)) 0 (n + rowsY.length))::(rt t 0,.blk sz ((es.drop k).take n++rowsY))::(c,.blk sz0 (bv es0 i o 1 [.any]))::cj bs) [(rt t 0,true)]) ⟨⟩) ⟨⟩) ⟨⟩
 | _=>False
@[simp] theorem DZ {t sz by_ rowsY bs} : sR C hs K ns u e R acc t sz by_ rowsY bs .nils=(rowsY.length * by_ <= 140737488355328 /\ doW C hs K ns ⟨⟩ e R acc ((t,.ref (.r (rt t 0)) 0 rowsY.length)::(rt t 0,.blk sz rowsY)::cj bs) [(rt t 0,true)]):=_root_.id rfl
@[simp] theorem O0 {t sz by_ rowsY bs c k n} : sR C hs K ns u e R acc t sz by_ rowsY bs (.ref (.r c) k n)=(c ≠ rt t 0 /\ bs.contains c=false /\ dG (ab e c) (fun sz' es=>sz'=sz /\ k + n <= es.length /\ (n + rowsY.length) * by_ <= 140737488355328 /\
      doW C hs K ns ⟨⟩ e R acc ((t,.ref (.r (rt t 0)) 0 (n + rowsY.length))::(rt t 0,.blk sz ((es.drop k).take n++rowsY))::(c,.any)::cj bs) [(rt t 0,true)]) ⟨⟩):=_root_.id rfl
@[simp] theorem OZ {t sz by_ rowsY bs c i o k n} : sR C hs K ns u e R acc t sz by_ rowsY bs (.ref (.n c i o) k n)=(c ≠ rt t 0 /\ bs.contains c=false /\ dG (ab e c) (fun sz0 es0=>f7 es0[i]? (fun row0=>jr row0[o]? (fun sz' es=>sz'=sz /\ k + n <= es.length /\ (n + rowsY.length) * by_ <= 140737488355328 /\
      doW C hs K ns ⟨⟩ e R acc ((t,.ref (.r (rt t 0)) 0 (n + rowsY.length))::(rt t 0,.blk sz ((es.drop k).take n++rowsY))::(c,.blk sz0 (bv es0 i o 1 [.any]))::cj bs) [(rt t 0,true)]) ⟨⟩) ⟨⟩) ⟨⟩):=_root_.id rfl
@[simp] theorem Oh {sz by_ mv x y t v1} : opW C hs K ns (some t) (.app sz by_ mv x y) v1 e R acc=iH (ab e) mv (vd (ab e) y) sz (fun rowsY bs=>bs.contains (rt t 0)=false /\ sR C hs K ns ⟨⟩ e R acc t sz by_ rowsY bs (vd (ab e) x)) ⟨⟩:=by
 unfold opW iH
 simp only [az]
 congr 1
 funext rowsY bs
 congr 1
 cases vd (ab e) x <;> try rfl
 rename_i p k n
 cases p with
 | r c =>
  simp only [sR,dG]
  cases ab e c <;> rfl
 | n c i o =>
  simp only [sR,dG,fb,iX]
  cases hl : ab e c <;> try rfl
  rename_i sz0 es0
  refine congrArg _ (congrArg _ (propext ⟨?_,?_⟩))
  ·rintro ⟨row0,h1,es,h2,h3⟩
   exact ⟨row0,h1,sz,es,h2,rfl,h3⟩
  ·rintro ⟨row0,h1,sz',es,h2,rfl,h3⟩
   exact ⟨row0,h1,es,h2,h3⟩
@[simp] theorem KL {g b n xs sz es} : Do C g hs K ns dst u e R acc b n xs (.blk sz es)=(es.length=n /\ (∀ e ∈ es,∀ c ∈ e,ar c=true) /\ (∀ x ∈ xs,bq (fbE (ab e) b) (vd (fbE (ab e) b) x)) /\ uX C g hs K ns dst ⟨⟩ e R acc b sz es (xs.map (dpv (fbE (ab e) b))) (xs.all fun y=>isV (vd (fbE (ab e) b) y))):=_root_.id rfl
@[simp] theorem KN {g xs b k n} : KM C g hs K ns dst u e R acc xs (.ref (.r b) k n)=(k=0 /\ Do C g hs K ns dst ⟨⟩ e R acc b n xs (ab e b)):=_root_.id rfl
@[simp] theorem Gl {g x xs v1} : opW C hs K ns dst (.callS g x xs) v1 e R acc=(KM C g hs K ns dst ⟨⟩ e R acc xs (vd (ab e) x)):=by
 cases dst <;> rfl
def xp (n : Nat) (d : D) : Prop:=match d with
 | .blk _ es=>es.length=n /\ ∀ e ∈ es,∀ c ∈ e,bi c=true
 | _=>False
def oX (f : Nat -> D) (b : Nat) (d : D) : Prop:=match d with
 | .ref (.r c) k n=>k=0 /\ c ≠ b /\ xp n (f c)
 | d=>isV d=true
def yx (d : D) : D:=match d with
 | .blk sz es=>.own sz es
 | _=>.any
def rI (f : Nat -> D) (d : D) : D:=match d with
 | .ref (.r c) _ _=>yx (f c)
 | d=>d
@[simp] theorem GY {n sz es} : xp n (.blk sz es)=(es.length=n /\ ∀ e ∈ es,∀ c ∈ e,bi c=true):=_root_.id rfl
@[simp] theorem Kt {sz es} : yx (.blk sz es)=.own sz es:=_root_.id rfl
@[simp] theorem Lc {f : Nat -> D} {b : Nat} {x : Opd} : lm f b x=oX f b (vd f x):=by
 unfold lm oX xp
 cases vd f x <;> rfl
@[simp] theorem Ld {f : Nat -> D} {x : Opd} : kh f x=rI f (vd f x):=by
 unfold kh rI yx
 cases vd f x <;> rfl
@[simp] theorem D1 {f : Nat -> D} {b c k n} : oX f b (.ref (.r c) k n)=(k=0 /\ c ≠ b /\ xp n (f c)):=_root_.id rfl
@[simp] theorem D3 {f : Nat -> D} {c k n} : rI f (.ref (.r c) k n)=yx (f c):=_root_.id rfl
@[simp] theorem D0 {f : Nat -> D} {b k n} : oX f b (.int k n)=True:=by simp [oX,isV]
@[simp] theorem D2 {f : Nat -> D} {k n} : rI f (.int k n)=.int k n:=_root_.id rfl
def vj (C : CC) (g : Nat) (hs : Option (List Nat)) (K : Env -> Prop) (ns : List ap) (t : Nat) (_ : Tag (hs,K,ns)) (e : Env) (R : List Nat) (acc : List (List Nat × List Nat)) (sz : Nat) (W : List (List D)) (ds : List D) (q : Nat × D) : Prop :=
 ∃ es' : List (List D),(∀ e ∈ es',e.length=sz /\ ∀ c ∈ e,bi c=true) /\ C g (.own sz W::ds) .any [.own sz es',.nils,.nils] /\ doW C hs K ns ⟨⟩ e R acc [(t,.ref (.r (rt t 0)) 0 es'.length),(rt t 0,.blk sz es'),q] [(rt t 0,true)]
theorem rO {g : Nat} {hs : Option (List Nat)} {K : Env -> Prop} {ns : List ap} {t : Nat} {u : Tag (hs,K,ns)} {e : Env} {R : List Nat} {acc : List (List Nat × List Nat)} {sz : Nat} {W es' : List (List D)} {ds : List D} {q : Nat × D} (h : C g (.own sz W::ds) .any [.own sz es',.nils,.nils]) (hu : ∀ e ∈ es',e.length=sz /\ ∀ c ∈ e,bi c=true)
  (hk : doW C hs K ns ⟨⟩ e R acc [(t,.ref (.r (rt t 0)) 0 es'.length),(rt t 0,.blk sz es'),q] [(rt t 0,true)]) : vj C g hs K ns t u e R acc sz W ds q:=⟨es',hu,h,hk⟩
def vi (C : CC) (g : Nat) (hs : Option (List Nat)) (K : Env -> Prop) (ns : List ap) (t : Nat) (_ : Tag (hs,K,ns)) (e : Env) (R : List Nat) (acc : List (List Nat × List Nat)) (xs : List Opd) (d : D) : Prop:=match d with
 | .ref (.r b) k n=>dG (ab e b) (fun sz es=>k + n <= es.length /\ b ≠ rt t 0 /\ 0 < sz /\ (∀ e ∈ (es.drop k).take n,∀ c ∈ e,bi c=true) /\ (∀ x ∈ xs,lm (ab e) b x) /\ vj C g hs K ns t ⟨⟩ e R acc sz ((es.drop k).take n) (xs.map (kh (ab e))) (b,.any)) ⟨⟩
 | .ref (.n b i o) k n=>dG (ab e b) (fun sz0 es0=>f7 es0[i]? (fun row0=>jr row0[o]? (fun sz es=>k + n <= es.length /\ b ≠ rt t 0 /\ 0 < sz /\ (∀ e ∈ (es.drop k).take n,∀ c ∈ e,bi c=true) /\ (∀ x ∈ xs,lm (ab e) b x) /\
   vj C g hs K ns t ⟨⟩ e R acc sz ((es.drop k).take n) (xs.map (kh (ab e))) (b,.blk sz0 (bv es0 i o 1 [.any]))) ⟨⟩) ⟨⟩) ⟨⟩
 | _=>False
@[simp] theorem Pw {g xs t b k n} : vi C g hs K ns t u e R acc xs (.ref (.r b) k n)=dG (ab e b) (fun sz es=>k + n <= es.length /\ b ≠ rt t 0 /\ 0 < sz /\ (∀ e ∈ (es.drop k).take n,∀ c ∈ e,bi c=true) /\ (∀ x ∈ xs,lm (ab e) b x) /\ vj C g hs K ns t ⟨⟩ e R acc sz ((es.drop k).take n) (xs.map (kh (ab e))) (b,.any)) ⟨⟩:=_root_.id rfl
@[simp] theorem Pv {g xs t b i o k n} : vi C g hs K ns t u e R acc xs (.ref (.n b i o) k n)=dG (ab e b) (fun sz0 es0=>f7 es0[i]? (fun row0=>jr row0[o]? (fun sz es=>k + n <= es.length /\ b ≠ rt t 0 /\ 0 < sz /\ (∀ e ∈ (es.drop k).take n,∀ c ∈ e,bi c=true) /\ (∀ x ∈ xs,lm (ab e) b x) /\
   vj C g hs K ns t ⟨⟩ e R acc sz ((es.drop k).take n) (xs.map (kh (ab e))) (b,.blk sz0 (bv es0 i o 1 [.any]))) ⟨⟩) ⟨⟩) ⟨⟩:=_root_.id rfl
@[simp] theorem Gg {g x xs t v1} : opW C hs K ns (some t) (.callE g x xs) v1 e R acc=vi C g hs K ns t ⟨⟩ e R acc xs (vd (ab e) x):=by
 unfold opW
 simp only [az]
 cases vd (ab e) x <;> try rfl
 rename_i p k n
 cases p with
 | r b =>
  simp only [vi,dG,aX,Pa.root,cI]
  cases ab e b <;> rfl
 | n b i o =>
  simp only [vi,dG,fb,iX,aX,Pa.root,cI]
  cases hl : ab e b <;> try rfl
  rename_i sz0 es0
  simp only
  cases hi : es0[i]? with
  | none=>simp
  | some row0 =>
   simp only [Option.getD_some,Option.some.injEq,exists_eq_left']
   cases ho : row0[o]? with
   | none=>simp
   | some d =>
    cases d
    case own sz es=>exact propext ⟨fun h=>⟨sz,es,rfl,h⟩,fun ⟨sz',es',h0,h⟩=>by cases h0;exact h⟩
    all_goals simp
@[simp] theorem EX {f : Nat -> D} {b k n sz es} : bV f (.ref (.r b) k n) (.own sz es)=(k=0 /\ n=es.length /\ f b=.blk sz es):=_root_.id rfl
@[simp] theorem EV {f : Nat -> D} {b k n sz es} : bV f (.adr (.r b) k n) (.blk sz es)=(k=0 /\ n=0 /\ f b=.blk sz es):=_root_.id rfl
@[simp] theorem EW {f : Nat -> D} {k n r} : bV f (.int k n) r=(r=.int k n):=by simp [bV]
@[simp] theorem BX {f : Nat -> D} {n r} : bV f (.bool n) r=(r=.bool n):=by simp [bV]
@[simp] theorem EY {f : Nat -> D} {n r} : bV f (.str n) r=(r=.str n):=by simp [bV]
@[simp] theorem BZ {f : Nat -> D} {r} : bV f .nils r=(r=.nils):=by simp [bV]
@[simp] theorem BY {f : Nat -> D} {r} : bV f .nilp r=(r=.nilp):=by simp [bV]
@[simp] theorem H1 {f : Nat -> D} {n r} : bV f (.sl n) r=(r=.sl n):=by simp [bV]
@[simp] theorem EU {f : Nat -> D} {n r} : bV f (.agg n) r=(r=.agg n):=by simp [bV]
@[simp] theorem GC {t d} : j6 (some t) d=[(t,d)]:=_root_.id rfl
@[simp] theorem GB {d} : j6 none d=[]:=_root_.id rfl
@[simp] theorem Dt {t} : cU (some t)=[(t,.tup [])]:=_root_.id rfl
@[simp] theorem Ds : cU none=[]:=_root_.id rfl
def JQ (C : CC) (g : Nat) (hs : Option (List Nat)) (K : Env -> Prop) (ns : List ap) (dst : Option Nat) (_ : Tag (hs,K,ns)) (e : Env) (R : List Nat) (acc : List (List Nat × List Nat)) (b sz : Nat) (es : List (List D)) (ds : List D) : Prop :=
 ∃ d,∃ es' : List (List D),0 < es'.length /\ C g (.blk sz es::ds) d [.blk sz es'] /\ doW C hs K ns ⟨⟩ e R acc (j6 dst d++[(b,.blk sz es')]) [(b,false)]
def JP (C : CC) (g : Nat) (hs : Option (List Nat)) (K : Env -> Prop) (ns : List ap) (dst : Option Nat) (_ : Tag (hs,K,ns)) (e : Env) (R : List Nat) (acc : List (List Nat × List Nat)) (xs : List Opd) (d : D) : Prop:=match d with
 | .adr (.r b) i off=>i=0 /\ off=0 /\ dG (ab e b) (fun sz es=>0 < es.length /\ (∀ x ∈ xs,isV (vd (ab e) x)=true) /\ JQ C g hs K ns dst ⟨⟩ e R acc b sz es (xs.map (vd (ab e)))) ⟨⟩
 | _=>False
@[simp] theorem Qa {g xs b i off} : JP C g hs K ns dst u e R acc xs (.adr (.r b) i off)=(i=0 /\ off=0 /\ dG (ab e b) (fun sz es=>0 < es.length /\ (∀ x ∈ xs,isV (vd (ab e) x)=true) /\ JQ C g hs K ns dst ⟨⟩ e R acc b sz es (xs.map (vd (ab e)))) ⟨⟩):=_root_.id rfl
@[simp] theorem Gj {g x xs v1} : opW C hs K ns dst (.callL g x xs) v1 e R acc=JP C g hs K ns dst ⟨⟩ e R acc xs (vd (ab e) x):=by
 unfold opW
 simp only [az]
 cases vd (ab e) x <;> first | rfl | skip
def tf (C : CC) (hs : Option (List Nat)) (K : Env -> Prop) (ns : List ap) (dst : Option Nat) (_ : Tag (hs,K,ns)) (e : Env) (R : List Nat) (acc : List (List Nat × List Nat)) (zs : List D) (d : D) : Prop:=match d with
 | .nils=>doW C hs K ns ⟨⟩ e R acc (cU dst) []
 | .ref (.r b) k n=>dG (ab e b) (fun sz es=>k + n <= es.length /\ zs.length=sz /\ (∀ e ∈ es,∀ c ∈ e,ar c=true) /\ (∀ c ∈ zs,ar c=true) /\ doW C hs K ns ⟨⟩ e R acc (cU dst++[(b,.blk sz (dF es k n zs))]) []) ⟨⟩
 | .ref (.n b i o) k n=>dG (ab e b) (fun sz0 es0=>f7 es0[i]? (fun row0=>jr row0[o]? (fun sz es=>k + n <= es.length /\ zs.length=sz /\ (∀ c ∈ zs,ar c=true) /\ doW C hs K ns ⟨⟩ e R acc (cU dst++[(b,.blk sz0 (bv es0 i o 1 [.own sz (dF es k n zs)]))]) []) ⟨⟩) ⟨⟩) ⟨⟩
 | _=>False
@[simp] theorem O6 {zs b k n} : tf C hs K ns dst u e R acc zs (.ref (.r b) k n)=dG (ab e b) (fun sz es=>k + n <= es.length /\ zs.length=sz /\ (∀ e ∈ es,∀ c ∈ e,ar c=true) /\ (∀ c ∈ zs,ar c=true) /\ doW C hs K ns ⟨⟩ e R acc (cU dst++[(b,.blk sz (dF es k n zs))]) []) ⟨⟩:=_root_.id rfl
@[simp] theorem O5 {zs b i o k n} : tf C hs K ns dst u e R acc zs (.ref (.n b i o) k n)=dG (ab e b) (fun sz0 es0=>f7 es0[i]? (fun row0=>jr row0[o]? (fun sz es=>k + n <= es.length /\ zs.length=sz /\ (∀ c ∈ zs,ar c=true) /\ doW C hs K ns ⟨⟩ e R acc (cU dst++[(b,.blk sz0 (bv es0 i o 1 [.own sz (dF es k n zs)]))]) []) ⟨⟩) ⟨⟩) ⟨⟩:=_root_.id rfl
@[simp] theorem Es {zs} : tf C hs K ns dst u e R acc zs .nils=doW C hs K ns ⟨⟩ e R acc (cU dst) []:=_root_.id rfl
@[simp] theorem Oq {zs x v1} : opW C hs K ns dst (.clr zs x) v1 e R acc=tf C hs K ns dst ⟨⟩ e R acc zs (vd (ab e) x):=by
 unfold opW
 simp only [az]
 cases vd (ab e) x <;> try rfl
 rename_i p k n
 cases p with
 | r b =>
  simp only [tf,dG]
  cases ab e b <;> rfl
 | n b i o =>
  simp only [tf,dG,fb,iX]
  cases ab e b <;> rfl
def uZ (C : CC) (g : Nat) (hs : Option (List Nat)) (K : Env -> Prop) (ns : List ap) (dst : Option Nat) (_ : Tag (hs,K,ns)) (e : Env) (R : List Nat) (acc : List (List Nat × List Nat)) (b i o sz0 sz : Nat) (es0 es : List (List D)) (ds : List D) : Prop :=
 ∃ es' : List (List D),es'.length=es.length /\ (∀ e ∈ es',e.length=sz /\ ∀ c ∈ e,ar c=true) /\ C g (.own sz es::ds) .any [.own sz es',.nilp] /\ doW C hs K ns ⟨⟩ e R acc (cU dst++[(b,.blk sz0 (bv es0 i o 1 [.own sz es']))]) []
theorem u1 {g : Nat} {hs : Option (List Nat)} {K : Env -> Prop} {ns : List ap} {t : Nat} {u : Tag (hs,K,ns)} {e : Env} {R : List Nat} {acc : List (List Nat × List Nat)} {b i o sz0 sz : Nat} {es0 es es' : List (List D)} {ds : List D} (h : C g (.own sz es::ds) .any [.own sz es',.nilp]) (hl : es'.length=es.length) (hu : ∀ e ∈ es',e.length=sz /\ ∀ c ∈ e,ar c=true)
  (hk : doW C hs K ns ⟨⟩ e R acc [(t,.tup []),(b,.blk sz0 (bv es0 i o 1 [.own sz es']))] []) : uZ C g hs K ns (some t) u e R acc b i o sz0 sz es0 es ds:=⟨es',hl,hu,h,hk⟩
def BH (C : CC) (g : Nat) (hs : Option (List Nat)) (K : Env -> Prop) (ns : List ap) (dst : Option Nat) (_ : Tag (hs,K,ns)) (e : Env) (R : List Nat) (acc : List (List Nat × List Nat)) (xs : List Opd) (d : D) : Prop:=match d with
 | .ref (.n b i o) k n=>k=0 /\ dG (ab e b) (fun sz0 es0=>f7 es0[i]? (fun row0=>jr row0[o]? (fun sz es=>es.length=n /\ (∀ x ∈ xs,isV (vd (ab e) x)=true) /\ uZ C g hs K ns dst ⟨⟩ e R acc b i o sz0 sz es0 es (xs.map (vd (ab e)))) ⟨⟩) ⟨⟩) ⟨⟩
 | _=>False
@[simp] theorem O4 {g xs b i o k n} : BH C g hs K ns dst u e R acc xs (.ref (.n b i o) k n)=(k=0 /\ dG (ab e b) (fun sz0 es0=>f7 es0[i]? (fun row0=>jr row0[o]? (fun sz es=>es.length=n /\ (∀ x ∈ xs,isV (vd (ab e) x)=true) /\ uZ C g hs K ns dst ⟨⟩ e R acc b i o sz0 sz es0 es (xs.map (vd (ab e)))) ⟨⟩) ⟨⟩) ⟨⟩):=_root_.id rfl
@[simp] theorem Gk {g x xs v1} : opW C hs K ns dst (.callN g x xs) v1 e R acc=BH C g hs K ns dst ⟨⟩ e R acc xs (vd (ab e) x):=by
 unfold opW
 simp only [az]
 cases vd (ab e) x <;> try rfl
 rename_i p k n
 cases p with
 | r b=>rfl
 | n b i o =>
  simp only [BH,dG,fb,iX]
  cases ab e b <;> rfl
@[simp] theorem Gi {g xs v1} : opW C hs K ns dst (.callG g xs) v1 e R acc=((∀ x ∈ xs,bq (ab e) (vd (ab e) x)) /\ Bw C g hs K ns dst ⟨⟩ e R acc (xs.map (dpv (ab e)))):=_root_.id rfl
@[simp] theorem Gf {g xs t v1} : opW C hs K ns (some t) (.callA g xs) v1 e R acc=((∀ x ∈ xs,isV (vd (ab e) x)=true) /\ qo C g hs K ns t ⟨⟩ e R acc (xs.map (vd (ab e)))):=_root_.id rfl
@[simp] theorem Gh {g xs t v1} : opW C hs K ns (some t) (.callF g xs) v1 e R acc=((∀ x ∈ xs,bq (ab e) (vd (ab e) x)) /\ uW C g hs K ns t ⟨⟩ e R acc (xs.map (dpv (ab e)))):=_root_.id rfl
@[simp] theorem Ki {g xs x0 v1} : opW C hs K ns dst (.call g xs x0) v1 e R acc=((∀ x ∈ xs,bq (ab e) (vd (ab e) x)) /\ oZ C g hs K ns dst ⟨⟩ e R acc (xs.all fun x=>isV (vd (ab e) x)) (xs.map (dpv (ab e)))):=_root_.id rfl
def jD (C : CC) (hs : Option (List Nat)) (K : Env -> Prop) (ns : List ap) (t : Nat) (_ : Tag (hs,K,ns)) (e : Env) (R : List Nat) (acc : List (List Nat × List Nat)) (d : D) : Prop:=match d with
 | .ref (.r c) k n=>if c=rt t 0 then doW C hs K ns ⟨⟩ e R acc [(t,.ref (.r c) k n)] [] else match ab e c with
  | .blk sz es=>doW C hs K ns ⟨⟩ e R acc [(t,.ref (.r (rt t 0)) k n),(rt t 0,.blk sz es),(c,.any)] [(rt t 0,true)]
  | _=>False
 | d=>isS d=true /\ doW C hs K ns ⟨⟩ e R acc [(t,d)] []
@[simp] theorem Oi {t x v1} : opW C hs K ns (some t) (.asg x) v1 e R acc=jD C hs K ns t ⟨⟩ e R acc (vd (ab e) x):=_root_.id rfl
@[simp] theorem G0 {t c k n} : jD C hs K ns t u e R acc (.ref (.r c) k n)=(if c=rt t 0 then doW C hs K ns ⟨⟩ e R acc [(t,.ref (.r c) k n)] [] else match ab e c with
  | .blk sz es=>doW C hs K ns ⟨⟩ e R acc [(t,.ref (.r (rt t 0)) k n),(rt t 0,.blk sz es),(c,.any)] [(rt t 0,true)]
  | _=>False):=_root_.id rfl
@[simp] theorem D5 {t b i o k n} : jD C hs K ns t u e R acc (.ref (.n b i o) k n)=doW C hs K ns ⟨⟩ e R acc [(t,.ref (.n b i o) k n)] []:=by simp [jD]
@[simp] theorem D4 {t} : jD C hs K ns t u e R acc .nils=doW C hs K ns ⟨⟩ e R acc [(t,.nils)] []:=by simp [jD]
@[simp] theorem xr {t es} : jD C hs K ns t u e R acc (.sl es)=doW C hs K ns ⟨⟩ e R acc [(t,.sl es)] []:=by simp [jD]
@[simp] theorem G1 {t b es} : jD C hs K ns t u e R acc (slx b es)=doW C hs K ns ⟨⟩ e R acc [(t,slx b es)] []:=by
 rcases gq b es with h | ⟨h,_⟩ <;> rw [h] <;> simp
@[simp] theorem GZ {t} : jD C hs K ns t u e R acc .any=doW C hs K ns ⟨⟩ e R acc [(t,.any)] []:=by simp [jD]
@[simp] theorem G2 {t ds} : jD C hs K ns t u e R acc (.tup ds)=doW C hs K ns ⟨⟩ e R acc [(t,.tup ds)] []:=by simp [jD]
def qF (C : CC) (hs : Option (List Nat)) (K : Env -> Prop) (ns : List ap) (t : Nat) (_ : Tag (hs,K,ns)) (e : Env) (R : List Nat) (acc : List (List Nat × List Nat)) (d : D) : Prop:=match d with
 | .ref (.r c) k n=>aL (ab e) (.ref (.r c) k n) /\ doW C hs K ns ⟨⟩ e R acc [(t,dp1 (ab e) (.ref (.r c) k n)),(c,.any)] []
 | d=>isS d=true /\ doW C hs K ns ⟨⟩ e R acc [(t,d)] []
@[simp] theorem Oy {t x v1} : opW C hs K ns (some t) (.frz x) v1 e R acc=qF C hs K ns t ⟨⟩ e R acc (vd (ab e) x):=_root_.id rfl
@[simp] theorem HV {t c k n} : qF C hs K ns t u e R acc (.ref (.r c) k n)=(aL (ab e) (.ref (.r c) k n) /\ doW C hs K ns ⟨⟩ e R acc [(t,dp1 (ab e) (.ref (.r c) k n)),(c,.any)] []):=_root_.id rfl
@[simp] theorem ER {t} : qF C hs K ns t u e R acc .nils=doW C hs K ns ⟨⟩ e R acc [(t,.nils)] []:=by simp [qF]
@[simp] theorem LH {t es} : qF C hs K ns t u e R acc (.sl es)=doW C hs K ns ⟨⟩ e R acc [(t,.sl es)] []:=by simp [qF]
@[simp] theorem HW {t b es} : qF C hs K ns t u e R acc (slx b es)=doW C hs K ns ⟨⟩ e R acc [(t,slx b es)] []:=by
 rcases gq b es with h | ⟨h,_⟩ <;> rw [h] <;> simp
def yc (C : CC) (hs : Option (List Nat)) (K : Env -> Prop) (ns : List ap) (dst : Option Nat) (_ : Tag (hs,K,ns)) (e : Env) (R : List Nat) (acc : List (List Nat × List Nat)) (c i off : Nat) (d : D) : Prop:=match d with
 | .blk _ es=>∃ r,es[i]? = some r /\ ∃ d,r[off]? = some d /\ cR dst (kOf C hs K ns e R acc) (ldc (.r c) i off d)
 | _=>False
@[simp] theorem JI {c i off sz es} : yc C hs K ns dst u e R acc c i off (.blk sz es)=f7 es[i]? (fun r=>xy r[off]? (fun d=>dW C hs K ns dst ⟨⟩ e R acc (ldc (.r c) i off d)) ⟨⟩) ⟨⟩:=by
 simp only [yc,fb,xz];rfl
def JJ (C : CC) (hs : Option (List Nat)) (K : Env -> Prop) (ns : List ap) (dst : Option Nat) (_ : Tag (hs,K,ns)) (e : Env) (R : List Nat) (acc : List (List Nat × List Nat)) (q : Nat) (d : D) : Prop:=match d with
 | .adr (.r c) i off=>off=q /\ yc C hs K ns dst ⟨⟩ e R acc c i off (ab e c)
 | _=>False
@[simp] theorem JK {q c i off} : JJ C hs K ns dst u e R acc q (.adr (.r c) i off)=(off=q /\ yc C hs K ns dst ⟨⟩ e R acc c i off (ab e c)):=_root_.id rfl
@[simp] theorem OB {q x v1} : opW C hs K ns dst (.ldQ q x) v1 e R acc=JJ C hs K ns dst ⟨⟩ e R acc q (vd (ab e) x):=_root_.id rfl
def xo (C : CC) (hs : Option (List Nat)) (K : Env -> Prop) (ns : List ap) (t : Nat) (_ : Tag (hs,K,ns)) (e : Env) (R : List Nat) (acc : List (List Nat × List Nat)) (sz by_ : Nat) (rowsY : List (List D)) (c i o k n : Nat) (d : D) : Prop:=match d with
 | .blk sz0 es0=>∃ row0,es0[i]? = some row0 /\ ∃ es,row0[o]? = some (.own sz es) /\ k + n <= es.length /\ (n + rowsY.length) * by_ <= 140737488355328 /\
   kOf C hs K ns e R acc [(t,.ref (.r (rt t 0)) 0 (n + rowsY.length)),(rt t 0,.blk sz ((es.drop k).take n++rowsY)),(c,.blk sz0 (bv es0 i o 1 [.any]))] [(rt t 0,true)]
 | _=>False
@[simp] theorem GV {t sz by_ rowsY c i o k n sz0 es0} : xo C hs K ns t u e R acc sz by_ rowsY c i o k n (.blk sz0 es0)=f7 es0[i]? (fun row0=>jr row0[o]? (fun sz' es=>sz'=sz /\ k + n <= es.length /\ (n + rowsY.length) * by_ <= 140737488355328 /\
   doW C hs K ns ⟨⟩ e R acc [(t,.ref (.r (rt t 0)) 0 (n + rowsY.length)),(rt t 0,.blk sz ((es.drop k).take n++rowsY)),(c,.blk sz0 (bv es0 i o 1 [.any]))] [(rt t 0,true)]) ⟨⟩) ⟨⟩:=by
 simp only [xo,fb,iX]
 refine propext ⟨?_,?_⟩
 ·rintro ⟨row0,h1,es,h2,h3,h4,h5⟩
  exact ⟨row0,h1,sz,es,h2,rfl,h3,h4,h5⟩
 ·rintro ⟨row0,h1,sz',es,h2,rfl,h3,h4,h5⟩
  exact ⟨row0,h1,es,h2,h3,h4,h5⟩
def GW (C : CC) (hs : Option (List Nat)) (K : Env -> Prop) (ns : List ap) (t : Nat) (_ : Tag (hs,K,ns)) (e : Env) (R : List Nat) (acc : List (List Nat × List Nat)) (q sz by_ : Nat) (yd : D) (d : D) : Prop:=match d with
 | .ref (.n c i o') k n=>o'=q /\ eP (ab e) false yd sz fun rowsY bs=>bs=[] /\ c ≠ rt t 0 /\ xo C hs K ns t ⟨⟩ e R acc sz by_ rowsY c i o' k n (ab e c)
 | _=>False
@[simp] theorem GX {t q sz by_ yd c i o k n} : GW C hs K ns t u e R acc q sz by_ yd (.ref (.n c i o) k n)=(o=q /\ iH (ab e) false yd sz (fun rowsY bs=>bs=[] /\ c ≠ rt t 0 /\ xo C hs K ns t ⟨⟩ e R acc sz by_ rowsY c i o k n (ab e c)) ⟨⟩):=_root_.id rfl
@[simp] theorem Kf {t q sz by_ x y v1} : opW C hs K ns (some t) (.appQ q sz by_ x y) v1 e R acc=GW C hs K ns t ⟨⟩ e R acc q sz by_ (vd (ab e) y) (vd (ab e) x):=_root_.id rfl
def BJ (C : CC) (hs : Option (List Nat)) (K : Env -> Prop) (ns : List ap) (t : Nat) (_ : Tag (hs,K,ns)) (e : Env) (R : List Nat) (acc : List (List Nat × List Nat)) (sz : Nat) (rows : List (List D)) (b k n : Nat) (d : D) : Prop:=match d with
 | .blk sz' es=>sz'=sz /\ k + n <= es.length /\ (∀ e ∈ es,∀ c ∈ e,ar c=true) /\ (∀ e ∈ rows,∀ c ∈ e,ar c=true) /\ kOf C hs K ns e R acc [(t,.int .i64 (min rows.length n : Nat)),(b,.blk sz (il es k (rows.take n)))] []
 | _=>False
@[simp] theorem Hm {t sz rows b k n sz' es} : BJ C hs K ns t u e R acc sz rows b k n (.blk sz' es)=(sz'=sz /\ k + n <= es.length /\ (∀ e ∈ es,∀ c ∈ e,ar c=true) /\ (∀ e ∈ rows,∀ c ∈ e,ar c=true) /\ doW C hs K ns ⟨⟩ e R acc [(t,.int .i64 (min rows.length n : Nat)),(b,.blk sz (il es k (rows.take n)))] []):=_root_.id rfl
def Hn (C : CC) (hs : Option (List Nat)) (K : Env -> Prop) (ns : List ap) (t : Nat) (_ : Tag (hs,K,ns)) (e : Env) (R : List Nat) (acc : List (List Nat × List Nat)) (sz : Nat) (rows : List (List D)) (d : D) : Prop:=match d with
 | .ref (.r b) k n=>(n=0 -> kOf C hs K ns e R acc [(t,.int .i64 0)] []) /\ (0 < n -> BJ C hs K ns t ⟨⟩ e R acc sz rows b k n (ab e b))
 | _=>False
@[simp] theorem Ho {t sz rows b k n} : Hn C hs K ns t u e R acc sz rows (.ref (.r b) k n)=((n=0 -> doW C hs K ns ⟨⟩ e R acc [(t,.int .i64 0)] []) /\ (0 < n -> BJ C hs K ns t ⟨⟩ e R acc sz rows b k n (ab e b))):=_root_.id rfl
@[simp] theorem Ot {t sz x y v1} : opW C hs K ns (some t) (.cpy sz x y) v1 e R acc=iH (ab e) false (vd (ab e) y) sz (fun rows bs=>bs=[] /\ 0 < rows.length /\ Hn C hs K ns t ⟨⟩ e R acc sz rows (vd (ab e) x)) ⟨⟩:=_root_.id rfl
def Cr (C : CC) (hs : Option (List Nat)) (K : Env -> Prop) (ns : List ap) (t : Nat) (_ : Tag (hs,K,ns)) (e : Env) (R : List Nat) (acc : List (List Nat × List Nat)) (n c : Nat) (d : D) : Prop:=match d with
 | .blk _ [row]=>row.length=n /\ okR (.agg row)=true /\ (aJ t (.agg row)).all (fun p=>p.1 != c)=true /\ doW C hs K ns ⟨⟩ e R acc ((t,dz t (.agg row))::(c,.any)::aJ t (.agg row)) (db t (.agg row))
 | _=>False
@[simp] theorem JF {t n c sz row} : Cr C hs K ns t u e R acc n c (.blk sz [row])=(row.length=n /\ okR (.agg row)=true /\ (aJ t (.agg row)).all (fun p=>p.1 != c)=true /\ doW C hs K ns ⟨⟩ e R acc ((t,dz t (.agg row))::(c,.any)::aJ t (.agg row)) (db t (.agg row))):=_root_.id rfl
def JG (C : CC) (hs : Option (List Nat)) (K : Env -> Prop) (ns : List ap) (t : Nat) (_ : Tag (hs,K,ns)) (e : Env) (R : List Nat) (acc : List (List Nat × List Nat)) (n : Nat) (d : D) : Prop:=match d with
 | .adr (.r c) i off=>i=0 /\ off=0 /\ Cr C hs K ns t ⟨⟩ e R acc n c (ab e c)
 | _=>False
@[simp] theorem JH {t n c i off} : JG C hs K ns t u e R acc n (.adr (.r c) i off)=(i=0 /\ off=0 /\ Cr C hs K ns t ⟨⟩ e R acc n c (ab e c)):=_root_.id rfl
@[simp] theorem OA {t n x v1} : opW C hs K ns (some t) (.ldM n x) v1 e R acc=JG C hs K ns t ⟨⟩ e R acc n (vd (ab e) x):=_root_.id rfl
def yb (C : CC) (hs : Option (List Nat)) (K : Env -> Prop) (ns : List ap) (t : Nat) (_ : Tag (hs,K,ns)) (e : Env) (R : List Nat) (acc : List (List Nat × List Nat)) (n c i off : Nat) (d : D) : Prop:=match d with
 | .blk _ es=>∃ r,es[i]? = some r /\ off + n <= r.length /\ doW C hs K ns ⟨⟩ e R acc [(t,.agg (((r.drop off).take n).map aQ)),(c,.any)] []
 | _=>False
@[simp] theorem JC {t n c i off sz es} : yb C hs K ns t u e R acc n c i off (.blk sz es)=f7 es[i]? (fun r=>off + n <= r.length /\ doW C hs K ns ⟨⟩ e R acc [(t,.agg (((r.drop off).take n).map aQ)),(c,.any)] []) ⟨⟩:=by
 simp only [yb,fb]
def JD (C : CC) (hs : Option (List Nat)) (K : Env -> Prop) (ns : List ap) (t : Nat) (_ : Tag (hs,K,ns)) (e : Env) (R : List Nat) (acc : List (List Nat × List Nat)) (n : Nat) (d : D) : Prop:=match d with
 | .adr (.r c) i off=>yb C hs K ns t ⟨⟩ e R acc n c i off (ab e c)
 | _=>False
@[simp] theorem JE {t n c i off} : JD C hs K ns t u e R acc n (.adr (.r c) i off)=yb C hs K ns t ⟨⟩ e R acc n c i off (ab e c):=_root_.id rfl
@[simp] theorem Oz {t n x v1} : opW C hs K ns (some t) (.ldF n x) v1 e R acc=JD C hs K ns t ⟨⟩ e R acc n (vd (ab e) x):=_root_.id rfl
def Dh (C : CC) (hs : Option (List Nat)) (K : Env -> Prop) (ns : List ap) (t : Nat) (_ : Tag (hs,K,ns)) (e : Env) (R : List Nat) (acc : List (List Nat × List Nat)) (len sz c : Nat) (d : D) : Prop:=match d with
 | .blk _ [row]=>0 < len /\ 0 < sz /\ row.length=len * sz /\ (∀ d ∈ row,ar d=true) /\ doW C hs K ns ⟨⟩ e R acc [(t,.ref (.r (rt t 0)) 0 len),(rt t 0,.blk sz (b6 sz len row)),(c,.any)] [(rt t 0,true)]
 | _=>False
@[simp] theorem KE {t len sz c sz0 row} : Dh C hs K ns t u e R acc len sz c (.blk sz0 [row])=(0 < len /\ 0 < sz /\ row.length=len * sz /\ (∀ d ∈ row,ar d=true) /\ doW C hs K ns ⟨⟩ e R acc [(t,.ref (.r (rt t 0)) 0 len),(rt t 0,.blk sz (b6 sz len row)),(c,.any)] [(rt t 0,true)]):=_root_.id rfl
def KF (C : CC) (hs : Option (List Nat)) (K : Env -> Prop) (ns : List ap) (t : Nat) (_ : Tag (hs,K,ns)) (e : Env) (R : List Nat) (acc : List (List Nat × List Nat)) (len sz : Nat) (d : D) : Prop:=match d with
 | .adr (.r c) i off=>i=0 /\ off=0 /\ c ≠ rt t 0 /\ Dh C hs K ns t ⟨⟩ e R acc len sz c (ab e c)
 | _=>False
@[simp] theorem KG {t len sz c i off} : KF C hs K ns t u e R acc len sz (.adr (.r c) i off)=(i=0 /\ off=0 /\ c ≠ rt t 0 /\ Dh C hs K ns t ⟨⟩ e R acc len sz c (ab e c)):=_root_.id rfl
@[simp] theorem OK {len sz x t v1} : opW C hs K ns (some t) (.slM len sz x) v1 e R acc=KF C hs K ns t ⟨⟩ e R acc len sz (vd (ab e) x):=_root_.id rfl
def hD (C : CC) (hs : Option (List Nat)) (K : Env -> Prop) (ns : List ap) (dst : Option Nat) (_ : Tag (hs,K,ns)) (e : Env) (R : List Nat) (acc : List (List Nat × List Nat)) (d : D) : Prop:=match d with
 | .agx ds=>dW C hs K ns dst ⟨⟩ e R acc (.ptx ds)
 | .agg ds=>dW C hs K ns dst ⟨⟩ e R acc (.ptr ds)
 | d=>ar d=true /\ dW C hs K ns dst ⟨⟩ e R acc (.ptr [d])
@[simp] theorem BE {ds : List D} : dh (.agg ds)=ds:=_root_.id rfl
@[simp] theorem BF {k n} : dh (.int k n)=[.int k n]:=_root_.id rfl
@[simp] theorem BG {n} : dh (.str n)=[.str n]:=_root_.id rfl
@[simp] theorem Al {n} : dh (.bool n)=[.bool n]:=_root_.id rfl
@[simp] theorem Er {n} : dh (.sl n)=[.sl n]:=_root_.id rfl
@[simp] theorem EQ {f : Nat -> D} {es} : gf f [] es=es:=_root_.id rfl
@[simp] theorem BT {f : Nat -> D} {p ps es} : gf f (p::ps) es=gf f ps (es.set p.1 (dh (vd f p.2))):=_root_.id rfl
@[simp] theorem Kg {sz len zs parts v1} : opW C hs K ns dst (.blsF sz len zs parts) v1 e R acc=((∀ p ∈ parts,p.1 < len /\ (dh (vd (ab e) p.2)).length=sz /\ ∀ c ∈ dh (vd (ab e) p.2),ar c=true) /\ 0 < len /\
   (∀ r ∈ gf (ab e) parts (List.replicate len zs),∀ c ∈ r,ar c=true) /\ dW C hs K ns dst ⟨⟩ e R acc (.sl (gf (ab e) parts (List.replicate len zs)))):=_root_.id rfl
@[simp] theorem Kh {x v1} : opW C hs K ns dst (.boxF x) v1 e R acc=hD C hs K ns dst ⟨⟩ e R acc (vd (ab e) x):=_root_.id rfl
@[simp] theorem Ha {ds} : hD C hs K ns dst u e R acc (.agx ds)=dW C hs K ns dst ⟨⟩ e R acc (.ptx ds):=_root_.id rfl
@[simp] theorem G9 {ds} : hD C hs K ns dst u e R acc (.agg ds)=dW C hs K ns dst ⟨⟩ e R acc (.ptr ds):=_root_.id rfl
@[simp] theorem Hb {k n} : hD C hs K ns dst u e R acc (.int k n)=dW C hs K ns dst ⟨⟩ e R acc (.ptr [.int k n]):=by simp [hD]
@[simp] theorem D6 {n} : hD C hs K ns dst u e R acc (.bool n)=dW C hs K ns dst ⟨⟩ e R acc (.ptr [.bool n]):=by simp [hD]
@[simp] theorem He {n} : hD C hs K ns dst u e R acc (.str n)=dW C hs K ns dst ⟨⟩ e R acc (.ptr [.str n]):=by simp [hD]
@[simp] theorem D7 : hD C hs K ns dst u e R acc .nils=dW C hs K ns dst ⟨⟩ e R acc (.ptr [.nils]):=by simp [hD]
@[simp] theorem Lg {es} : hD C hs K ns dst u e R acc (.sl es)=dW C hs K ns dst ⟨⟩ e R acc (.ptr [.sl es]):=by simp [hD]
@[simp] theorem Hd {b es} : hD C hs K ns dst u e R acc (slx b es)=dW C hs K ns dst ⟨⟩ e R acc (.ptr [slx b es]):=by
 rcases gq b es with h | ⟨h,_⟩ <;> rw [h] <;> simp
@[simp] theorem Hc {es} : hD C hs K ns dst u e R acc (.ptr es)=dW C hs K ns dst ⟨⟩ e R acc (.ptr [.ptr es]):=by simp [hD]
@[simp] theorem Lf {g es} : hD C hs K ns dst u e R acc (.fn g es)=dW C hs K ns dst ⟨⟩ e R acc (.ptr [.fn g es]):=by simp [hD]
@[simp] theorem OC {x v1} : opW C hs K ns dst (.len x) v1 e R acc=tE (vd (ab e) x) (fun n=>dW C hs K ns dst ⟨⟩ e R acc (.int .i64 n)) ⟨⟩:=by
 show res (ab e) _ (.len x)=_
 simp only [res,tE]
 cases vd (ab e) x <;> rfl
def vM (C : CC) (hs : Option (List Nat)) (K : Env -> Prop) (ns : List ap) (dst : Option Nat) (_ : Tag (hs,K,ns)) (e : Env) (R : List Nat) (acc : List (List Nat × List Nat)) (sz : Nat) (x i : D) : Prop:=match (generalizing:=false) x,i with
  | .sl es,.int _ j=>0 <= j /\ i7 C hs K ns dst ⟨⟩ e R acc sz es j.toNat
  | .ref p k n,.int _ j=>0 <= j /\ j.toNat < n /\ match (generalizing:=false) aX (ab e) p with
   | some (sz',_)=>sz'=sz /\ dW C hs K ns dst ⟨⟩ e R acc (.adr p (k + j.toNat) 0)
   | none=>False
  | _,_=>False
@[simp] theorem Kl {sz x i v1} : opW C hs K ns dst (.iadS sz x i) v1 e R acc=vM C hs K ns dst ⟨⟩ e R acc sz (vd (ab e) x) (vd (ab e) i):=_root_.id rfl
@[simp] theorem LI {sz es k j} : vM C hs K ns dst u e R acc sz (.sl es) (.int k j)=(0 <= j /\ i7 C hs K ns dst ⟨⟩ e R acc sz es j.toNat):=_root_.id rfl
@[simp] theorem H5 {sz b es k j} : vM C hs K ns dst u e R acc sz (slx b es) (.int k j)=(0 <= j /\ i7 C hs K ns dst ⟨⟩ e R acc sz es j.toNat):=by
 rcases gq b es with h | ⟨h,rfl⟩
 ·rw [h];rfl
 ·rw [h];simp [vM,i7]
@[simp] theorem H4 {sz p k n k' j} : vM C hs K ns dst u e R acc sz (.ref p k n) (.int k' j)=(0 <= j /\ j.toNat < n /\ match (generalizing:=false) aX (ab e) p with
   | some (sz',_)=>sz'=sz /\ dW C hs K ns dst ⟨⟩ e R acc (.adr p (k + j.toNat) 0)
   | none=>False):=_root_.id rfl
def yW (C : CC) (hs : Option (List Nat)) (K : Env -> Prop) (ns : List ap) (dst : Option Nat) (_ : Tag (hs,K,ns)) (e : Env) (R : List Nat) (acc : List (List Nat × List Nat)) (sz : Nat) (x : D) (lo hi : Option Opd) : Prop:=match (generalizing:=false) x with
  | .sl es=>(∀ e ∈ es,e.length=sz) /\ cX (ab e) hi es.length (fun h=>cX (ab e) lo 0 (fun l=>l <= h /\ h <= es.length /\ dW C hs K ns dst ⟨⟩ e R acc (.sl ((es.take h).drop l))) ⟨⟩) ⟨⟩
  | .nils=>cX (ab e) hi 0 (fun h=>cX (ab e) lo 0 (fun l=>l <= h /\ h <= 0 /\ dW C hs K ns dst ⟨⟩ e R acc (.sl [])) ⟨⟩) ⟨⟩
  | .ref p k n=>match (generalizing:=false) aX (ab e) p with
   | some (sz',_)=>sz'=sz /\ cX (ab e) hi n (fun h=>cX (ab e) lo 0 (fun l=>l <= h /\ h <= n /\ dW C hs K ns dst ⟨⟩ e R acc (.ref p (k + l) (h - l))) ⟨⟩) ⟨⟩
   | none=>False
  | _=>False
@[simp] theorem OM {sz x lo hi v1} : opW C hs K ns dst (.slc sz x lo hi) v1 e R acc=yW C hs K ns dst ⟨⟩ e R acc sz (vd (ab e) x) lo hi:=_root_.id rfl
@[simp] theorem ON {sz es lo hi} : yW C hs K ns dst u e R acc sz (.sl es) lo hi=((∀ e ∈ es,e.length=sz) /\ cX (ab e) hi es.length (fun h=>cX (ab e) lo 0 (fun l=>l <= h /\ h <= es.length /\ dW C hs K ns dst ⟨⟩ e R acc (.sl ((es.take h).drop l))) ⟨⟩) ⟨⟩):=_root_.id rfl
@[simp] theorem GA {sz lo hi} : yW C hs K ns dst u e R acc sz .nils lo hi=cX (ab e) hi 0 (fun h=>cX (ab e) lo 0 (fun l=>l <= h /\ h <= 0 /\ dW C hs K ns dst ⟨⟩ e R acc (.sl [])) ⟨⟩) ⟨⟩:=_root_.id rfl
@[simp] theorem KD {sz p k n lo hi} : yW C hs K ns dst u e R acc sz (.ref p k n) lo hi=(match (generalizing:=false) aX (ab e) p with
   | some (sz',_)=>sz'=sz /\ cX (ab e) hi n (fun h=>cX (ab e) lo 0 (fun l=>l <= h /\ h <= n /\ dW C hs K ns dst ⟨⟩ e R acc (.ref p (k + l) (h - l))) ⟨⟩) ⟨⟩
   | none=>False):=_root_.id rfl
@[simp] theorem Gm {x xs v1} : opW C hs K ns dst (.callv x xs) v1 e R acc=(match (generalizing:=false) vd (ab e) x with
  | .fn g cs=>(∀ x ∈ xs,bq (ab e) (vd (ab e) x)) /\ oZ C g hs K ns dst ⟨⟩ e R acc (xs.all fun x=>isV (vd (ab e) x)) (xs.map (dpv (ab e))++cs)
  | .fnx g cs=>(∀ x ∈ xs,bq (ab e) (vd (ab e) x)) /\ (∀ c ∈ cs,aL (ab e) c) /\ oZ C g hs K ns dst ⟨⟩ e R acc false (xs.map (dpv (ab e))++cs.map (dp1 (ab e)))
  | _=>False):=by
 simp only [opW,az,oZ,cR,Bool.false_eq_true,or_false]
 cases vd (ab e) x <;> rfl
def mpT (x : D) (K : Nat -> Nat -> List D -> List D -> Prop) (_ : Tag K) : Prop:=match x with
 | .mp kt et ks vs=>K kt et ks vs
 | _=>False
@[simp] theorem Qd {kt et ks vs K u} : mpT (.mp kt et ks vs) K u=K kt et ks vs:=_root_.id rfl
@[simp] theorem OD {kt et t v1} : opW C hs K ns (some t) (.mkm kt et) v1 e R acc=doW C hs K ns ⟨⟩ e R acc [(t,.mrf (rt t 0)),(rt t 0,.mp kt et [] [])] [(rt t 0,true)]:=_root_.id rfl
def mlM (C : CC) (hs : Option (List Nat)) (K : Env -> Prop) (ns : List ap) (dst : Option Nat) (_ : Tag (hs,K,ns)) (e : Env) (R : List Nat) (acc : List (List Nat × List Nat)) (sh : KSh) (kt et : Nat) (ok : Bool) (z x m : D) : Prop:=match m with
 | .mrf b=>mpT (ab e b) (fun kt' et' ks vs=>kt'=kt /\ et'=et /\ cL sh x /\ match ok with
    | true=>dW C hs K ns dst ⟨⟩ e R acc (.tup [(dM ks vs x).getD z,.bool (dM ks vs x).isSome])
    | false=>dW C hs K ns dst ⟨⟩ e R acc ((dM ks vs x).getD z)) ⟨⟩
 | _=>False
@[simp] theorem Ob {sh kt et ok z x b} : mlM C hs K ns dst u e R acc sh kt et ok z x (.mrf b)=mpT (ab e b) (fun kt' et' ks vs=>kt'=kt /\ et'=et /\ cL sh x /\ match ok with
    | true=>dW C hs K ns dst ⟨⟩ e R acc (.tup [(dM ks vs x).getD z,.bool (dM ks vs x).isSome])
    | false=>dW C hs K ns dst ⟨⟩ e R acc ((dM ks vs x).getD z)) ⟨⟩:=_root_.id rfl
@[simp] theorem OG {sh kt et ok z m x v1} : opW C hs K ns dst (.mpl sh kt et ok z m x) v1 e R acc=mlM C hs K ns dst ⟨⟩ e R acc sh kt et ok z (vd (ab e) x) (vd (ab e) m):=by
 show res (ab e) _ (.mpl sh kt et ok z m x)=_
 simp only [res,mlM]
 cases vd (ab e) m <;> rfl
def muM (C : CC) (hs : Option (List Nat)) (K : Env -> Prop) (ns : List ap) (_ : Tag (hs,K,ns)) (e : Env) (R : List Nat) (acc : List (List Nat × List Nat)) (sh : KSh) (kt et : Nat) (z x v m : D) : Prop:=match m with
 | .mrf b=>mpT (ab e b) (fun kt' et' ks vs=>kt'=kt /\ et'=et /\ ks.length < maxLen /\ cL sh x /\ io z v /\ doW C hs K ns ⟨⟩ e R acc [(b,.mp kt et (x::ks) (v::vs))] []) ⟨⟩
 | _=>False
@[simp] theorem Oc {sh kt et z x v b} : muM C hs K ns u e R acc sh kt et z x v (.mrf b)=mpT (ab e b) (fun kt' et' ks vs=>kt'=kt /\ et'=et /\ ks.length < maxLen /\ cL sh x /\ io z v /\ doW C hs K ns ⟨⟩ e R acc [(b,.mp kt et (x::ks) (v::vs))] []) ⟨⟩:=_root_.id rfl
@[simp] theorem OH {sh kt et z m x v v1} : opW C hs K ns dst (.mpu sh kt et z m x v) v1 e R acc=(dst=none /\ muM C hs K ns ⟨⟩ e R acc sh kt et z (vd (ab e) x) (vd (ab e) v) (vd (ab e) m)):=by
 show (dst=none /\ _)=_
 congr 1
end
@[simp] theorem Cl {s} : cL .str (.str s)=(s.length <= maxLen):=_root_.id rfl
@[simp] theorem Av {b} : cL .bool (.bool b)=True:=_root_.id rfl
@[simp] theorem Ck {q q' n} : cL (.int q) (.int q' n)=(q'=q /\ pm q n):=_root_.id rfl
@[simp] theorem Aw {q n ds} : cL (.ints q n) (.agg ds)=(ds.length=n /\ ∀ d ∈ ds,∃ x,d=.int q x /\ pm q x):=_root_.id rfl
@[simp] theorem EP {s z} : io (.str z) (.str s)=(s.length <= maxLen):=_root_.id rfl
@[simp] theorem BR {b z} : io (.bool z) (.bool b)=True:=_root_.id rfl
@[simp] theorem EO {q q' n z} : io (.int q z) (.int q' n)=(q'=q /\ pm q n):=_root_.id rfl
@[simp] theorem If {n : Int} : pm .i64 n=(-9223372036854775808 <= n /\ n <= 9223372036854775807):=by
 have e1 : IntKind.i64.min=-9223372036854775808:=rfl
 have e2 : IntKind.i64.max=9223372036854775807:=rfl
 simp [pm,Lit.wf,e1,e2]
attribute [simp] iC fx bF dz cp bC aJ db vY okR pT kT cu
attribute [simp] vd params fW jt ju js lV mH wo prune jC isC jf aX Qo bv dpv cj stK bK rt chk rdS rdR frR fwR fY rdN ip wrK mnR CY ldN af iA pf wOk Pa.root ca bz
end Go.Gv

namespace Go.Gv
def iu (c : Int) : Bool:=(97 <= c && c <= 122) || (65 <= c && c <= 90)
def lD (c : Int) : Bool:=48 <= c && c <= 57
def fN (c : UInt8) : Bool:=iu c.toNat || lD c.toNat || c.toNat == 95
def cG (s : List UInt8) : Nat:=(s.takeWhile fN).length
def gg (n : Int) : Bool:=-1125899906842624 <= n && n <= 1125899906842624
def bN (s : List UInt8) : Bool:=s ≠ [] && s.length <= 20 && iu (s[0]!).toNat && cG s == s.length
theorem rA (s : List UInt8) : cG s <= s.length:=by unfold cG;exact (List.takeWhile_prefix _).length_le
theorem ry {α : Type} (p : α -> Bool) : ∀ (s : List α) (i : Nat) (h : i < s.length),i <= (s.takeWhile p).length -> (p s[i]=true -> i + 1 <= (s.takeWhile p).length) /\ (p s[i]=false -> i=(s.takeWhile p).length)
 | [],i,h,_=>by simp at h
 | x::s,0,h,_=>by
  constructor <;> intro h1 <;> simp at h1 <;> simp [h1]
 | x::s,i + 1,h,h2=>by
  rw [List.takeWhile_cons] at h2 ⊢
  split at h2
  ·rename_i hp
   simp only [hp,if_true,List.length_cons,List.getElem_cons_succ] at h2 ⊢
   have:=ry p s i (by simpa using h) (by omega)
   exact ⟨fun e=>by have:=this.1 e;omega,fun e=>by have:=this.2 e;omega⟩
  ·simp at h2
theorem oP {s : List UInt8} {i : Nat} (h : i < s.length) (hi : i <= cG s) : fN s[i]=true -> i + 1 <= cG s:=(ry fN s i h hi).1
theorem oQ {s : List UInt8} {i : Nat} (h : i < s.length) (hi : i <= cG s) : fN s[i]=false -> i=cG s:=(ry fN s i h hi).2
theorem ai {n m : Int} (h : n=m) (h2 : -9223372036854775808 <= m /\ m < 9223372036854775808) : IntKind.wrap .i64 n=m:=by
 subst h
 have e1 : IntKind.i64.signed=true:=rfl
 have e2 : (2 ^ (IntKind.i64.bits - 1) : Int)=9223372036854775808:=rfl
 have e3 : (2 ^ IntKind.i64.bits : Int)=18446744073709551616:=rfl
 unfold IntKind.wrap
 simp only [e1,e2,e3,Bool.true_and,decide_eq_true_eq]
 split <;> omega
variable {C : CC} (hC : aj prog C)
include hC
theorem vA (n : Int) : C 89 [.int .i64 n] (.bool (gg n)) []:=by
 refine au hC (nf:=N89) rfl rfl ?_
 simp [N89,gg]
 refine ae (fun h=>?_) (fun h=>?_) <;> simp at h <;> simp [h] <;> omega
theorem yX (n l : Int) : C 60 [.int .i64 n,.int .i64 l] (.bool (0 <= n && n <= 4194304 && 1 <= l && l <= 16777216)) []:=by
 refine au hC (nf:=N60) rfl rfl ?_
 simp [N60]
 repeat' (refine ae (fun h=>?_) (fun h=>?_) <;> simp at h <;> simp [h] <;> try omega)
theorem xF (c : Int) : C 88 [.int .u8 c] (.bool (lD c)) []:=by
 refine au hC (nf:=N88) rfl rfl ?_
 simp [N88,lD]
 refine ae (fun h=>?_) (fun h=>?_) <;> simp at h <;> simp [h] <;> omega
theorem pr (c : Int) : C 70 [.int .u8 c] (.bool (iu c)) []:=by
 refine au hC (nf:=N70) rfl rfl ?_
 simp [N70,iu]
 repeat' (refine ae (fun h=>?_) (fun h=>?_) <;> simp at h <;> simp [h] <;> try omega)
theorem Dy (s : List UInt8) (hs : s.length < 2 ^ 62) : C 71 [.str s] (.int .i64 (cG s)) []:=by
 refine au hC (nf:=N71) rfl rfl ?_
 simp [N71]
 refine ay Nat (fun i=>[(0,.str s),(3,.int .i64 i)]) (fun i=>i <= cG s) (fun i=>cG s - i) 0 (by simp) (by simp) ?_
 intro i hi
 have hle : cG s <= s.length:=rA s
 by_cases hl : i < s.length
 ·simp [hl]
  refine aa (pr hC _) (.inl rfl) ?_
  have hstep : fN s[i]=true -> i + 1 <= cG s:=oP hl hi
  have hstop : fN s[i]=false -> i=cG s:=oQ hl hi
  simp only [fN] at hstep hstop
  have hw : IntKind.wrap .i64 ((i : Int) + 1)=((i + 1 : Nat) : Int):=ai (by omega) (by omega)
  cases h1 : iu s[i].toNat with
  | true =>
   simp [h1,hw] at hstep ⊢
   exact ⟨i + 1,by omega,by omega,rfl⟩
  | false =>
   simp [h1,hl]
   refine aa (xF hC _) (.inl rfl) ?_
   cases h2 : lD s[i].toNat with
   | true =>
    simp [h1,h2,hw] at hstep ⊢
    exact ⟨i + 1,by omega,by omega,rfl⟩
   | false =>
    simp [hl]
    refine ae (fun h3=>?_) (fun h3=>?_) <;> simp at h3
    ·simp [hw,hl]
     have:=hstep (by simp [show s[i].toNat=95 by omega])
     exact ⟨i + 1,this,by omega,rfl⟩
    ·have h4 : ¬ s[i].toNat=95:=by omega
     simp [h1,h2,h4] at hstop ⊢
     omega
 ·simp [hl]
  have : i=cG s:=by omega
  omega
theorem f9 (s : List UInt8) : C 58 [.str s] (.bool (bN s)) []:=by
 refine au hC (nf:=N58) rfl rfl ?_
 simp [N58]
 refine ae (fun h=>?_) (fun h=>?_) <;> simp at h
 ·have hp : 0 < s.length:=List.length_pos_iff.2 h
  simp [h,hp]
  refine ae (fun h2=>?_) (fun h2=>?_) <;> simp at h2
  ·simp [h2,hp]
   refine aa (pr hC _) (.inl rfl) ?_
   simp
   refine ae (fun h3=>?_) (fun h3=>?_)
   ·simp [h3,h2]
    refine aa (Dy hC s (by omega)) (.inl rfl) ?_
    simp [bN,h,h3,show s.length <= 20 by omega,hp,Int.ofNat_inj]
    rw [Bool.eq_iff_iff];simp
   ·simp [bN,h,h3,hp]
  ·simp [h2,bN]
   omega
 ·subst h
  simp [bN]
end Go.Gv

namespace Go.Gv
structure SlI where
 n : Bool
 l : List Int
 deriving Inhabited
def slI (x : SlI) : D:=slx x.n (x.l.map fun n=>[.int .i64 n])
def knD (k : Int × Int) : List D:=[.int .i64 k.1,.int .i64 k.2]
structure Sec where
 name : List UInt8
 height : Int
 price : Int
 areaN : Bool
 area : List (Int × Int)
 convN : Bool
 conv : List (Int × Int)
 deriving Inhabited
def a7 (s : Sec) : List D:=[.str s.name,.int .i64 s.height,.int .i64 s.price,slx s.areaN (s.area.map knD),slx s.convN (s.conv.map knD)]
def cd {α : Type} (p : α -> Bool) (xs : List α) : Int:=match xs.findIdx? p with
 | some i=>i
 | none=>-1
theorem dA {α : Type} {p : α -> Bool} {xs : List α} {i : Nat} (hj : ∀ (j : Nat) (h : j < xs.length),j < i -> p xs[j]=false) (hi : i < xs.length) (h : p xs[i]=true) : cd p xs=i:=by
 have : xs.findIdx? p=some i:=by
  rw [List.findIdx?_eq_some_iff_getElem]
  exact ⟨hi,h,fun j hji=>by simp [hj j (by omega) hji]⟩
 simp [cd,this]
theorem fk {α : Type} {p : α -> Bool} {xs : List α} (hj : ∀ (j : Nat) (h : j < xs.length),p xs[j]=false) : cd p xs=-1:=by
 have : xs.findIdx? p=none:=by
  rw [List.findIdx?_eq_none_iff]
  intro x hx
  obtain ⟨j,h,rfl⟩:=List.mem_iff_getElem.1 hx
  exact hj j h
 simp [cd,this]
theorem gj {α : Type} (p : α -> Bool) (xs : List α) : decide (0 <= cd p xs)=xs.any p:=by
 unfold cd
 split
 ·rename_i i h
  rw [List.findIdx?_eq_some_iff_getElem] at h
  obtain ⟨h1,h2,_⟩:=h
  have : xs.any p=true:=List.any_eq_true.2 ⟨_,List.getElem_mem h1,h2⟩
  simp [this]
 ·rename_i h
  rw [List.findIdx?_eq_none_iff] at h
  have : xs.any p=false:=by rw [List.any_eq_false];intro x hx;simp [h x hx]
  simp [this]
variable {C : CC} (hC : aj prog C)
include hC
theorem vN {b : Bool} {xs : List Int} {g : Nat} {cs : List D} (p : Int -> Bool) (hs : xs.length < 2 ^ 62) (hp : ∀ x ∈ xs,C g (.int .i64 x::cs) (.bool (p x)) []) : C 35 [slx b (xs.map fun x=>[.int .i64 x]),.fn g cs] (.int .i64 (cd p xs)) []:=by
 refine au hC (nf:=N35) rfl rfl ?_
 simp [N35]
 refine ay Nat (fun i=>[(0,slx b (xs.map fun x=>[.int .i64 x])),(1,.fn g cs),(7,.int .i64 xs.length),(8,.int .i64 i)]) (fun i=>i <= xs.length /\ ∀ (j : Nat) (h : j < xs.length),j < i -> p xs[j]=false) (fun i=>xs.length - i) 0 (by simp) (by simp) ?_
 rintro i ⟨hi,hj⟩
 simp
 refine ae (fun h=>?_) (fun h=>?_) <;> simp [h] <;> simp at h
 ·have hw : IntKind.wrap .i64 ((i : Int) + 1)=((i + 1 : Nat) : Int):=ai (by omega) (by omega)
  have hc:=hp _ (List.getElem_mem h)
  simp [h,List.getElem_map] at hc ⊢
  refine aa hc (.inl rfl) ?_
  simp
  refine ae (fun h1=>?_) (fun h1=>?_) <;> simp [h1,hw]
  ·rw [dA hj h h1]
  ·refine ⟨i + 1,⟨by omega,fun j hl hjj=>?_⟩,by omega,rfl⟩
   rcases Nat.lt_succ_iff_lt_or_eq.1 hjj with h2 | rfl
   ·exact hj j hl h2
   ·exact h1
 ·rw [fk (fun j hl=>hj j hl (by omega))]
theorem lZ {b : Bool} {xs : List Int} {g : Nat} {cs : List D} (p : Int -> Bool) (hs : xs.length < 2 ^ 62) (hp : ∀ x ∈ xs,C g (.int .i64 x::cs) (.bool (p x)) []) : C 11 [slx b (xs.map fun x=>[.int .i64 x]),.fn g cs] (.bool (xs.any p)) []:=by
 refine au hC (nf:=N11) rfl rfl ?_
 simp [N11]
 refine aa (vN hC p hs hp) (.inl rfl) ?_
 simp [gj]
theorem pj {b : Bool} {xs : List Sec} {g : Nat} {cs : List D} (p : Sec -> Bool) (hs : xs.length < 2 ^ 62) (hp : ∀ x ∈ xs,C g (.agg (a7 x)::cs) (.bool (p x)) []) : C 52 [slx b (xs.map fun x=>a7 x),.fn g cs] (.int .i64 (cd p xs)) []:=by
 refine au hC (nf:=N52) rfl rfl ?_
 simp [N52]
 refine ay Nat (fun i=>[(0,slx b (xs.map fun x=>a7 x)),(1,.fn g cs),(7,.int .i64 xs.length),(8,.int .i64 i)]) (fun i=>i <= xs.length /\ ∀ (j : Nat) (h : j < xs.length),j < i -> p xs[j]=false) (fun i=>xs.length - i) 0 (by simp) (by simp) ?_
 rintro i ⟨hi,hj⟩
 simp
 refine ae (fun h=>?_) (fun h=>?_) <;> simp [h] <;> simp at h
 ·have hw : IntKind.wrap .i64 ((i : Int) + 1)=((i + 1 : Nat) : Int):=ai (by omega) (by omega)
  have hc:=hp _ (List.getElem_mem h)
  simp [h,a7] at hc ⊢
  refine aa hc (.inl rfl) ?_
  simp
  refine ae (fun h1=>?_) (fun h1=>?_) <;> simp [h1,hw]
  ·rw [dA hj h h1]
  ·refine ⟨i + 1,⟨by omega,fun j hl hjj=>?_⟩,by omega,rfl⟩
   rcases Nat.lt_succ_iff_lt_or_eq.1 hjj with h2 | rfl
   ·exact hj j hl h2
   ·exact h1
 ·rw [fk (fun j hl=>hj j hl (by omega))]
theorem vL {b : Bool} {xs : List Sec} {g : Nat} {cs : List D} (p : Sec -> Bool) (hs : xs.length < 2 ^ 62) (hp : ∀ x ∈ xs,C g (.agg (a7 x)::cs) (.bool (p x)) []) : C 45 [slx b (xs.map fun x=>a7 x),.fn g cs] (.bool (xs.any p)) []:=by
 refine au hC (nf:=N45) rfl rfl ?_
 simp [N45]
 refine aa (pj hC p hs hp) (.inl rfl) ?_
 simp [gj]
end Go.Gv

namespace Go.Gv
abbrev Edg:=Nat × Nat
def edK (e : Edg) : List D:=knD ((e.1 : Int),(e.2 : Int))
def edI (e : Edg) : Int × Int:=((e.1 : Int),(e.2 : Int))
theorem xJ (es : List Edg) : es.map edK=(es.map edI).map knD:=by simp [edK,edI]
def aV (l : List Nat) : List (List D):=l.map fun k : Nat=>[.int .i64 (k : Int)]
def inG (n : Nat) (es : List Edg) : Prop:=∀ e ∈ es,e.1 < n /\ e.2 < n
def nxt (n : Nat) (es : List Edg) (i : Nat) : List Nat:=(List.range n).filter fun k=>es.contains (i,k)
theorem fS {n : Nat} {es : List Edg} {i k : Nat} : k ∈ nxt n es i ↔ k < n /\ (i,k) ∈ es:=by simp [nxt]
theorem nE (n : Nat) (es : List Edg) (i : Nat) : (nxt n es i).Nodup:=List.Pairwise.filter _ List.nodup_range
theorem sg (n : Nat) (es : List Edg) (i : Nat) : (nxt n es i).length <= n:=by
 have:=List.length_filter_le (fun k=>es.contains (i,k)) (List.range n)
 simpa [nxt] using this
theorem mP {α : Type} {n k : Nat} {f : Nat -> α} (x : α) : ((List.range n).map f).set k x=(List.range n).map fun v=>if v=k then x else f v:=by
 apply List.ext_getElem
 ·simp
 ·intro i h1 h2
  simp only [List.getElem_set,List.getElem_map,List.getElem_range]
  by_cases e : k=i
  ·rw [if_pos e,if_pos e.symm]
  ·rw [if_neg e,if_neg (Ne.symm e)]
def tgs (es : List Edg) (i : Nat) : List Nat:=(es.filter fun e=>e.1 == i).map (·.2)
theorem yg {es : List Edg} {i k : Nat} : k ∈ tgs es i ↔ (i,k) ∈ es:=by
 unfold tgs
 simp only [List.mem_map,List.mem_filter,beq_iff_eq]
 constructor
 ·rintro ⟨⟨a,b⟩,⟨h1,h2⟩,h3⟩
  simp only at h2 h3
  subst h2 h3
  exact h1
 ·intro h
  exact ⟨(i,k),⟨h,rfl⟩,rfl⟩
theorem wQ {es : List Edg} {j : Nat} (hj : j < es.length) (v : Nat) : tgs (es.take (j + 1)) v=tgs (es.take j) v++(if es[j].1=v then [es[j].2] else []):=by
 unfold tgs
 rw [List.take_succ_eq_append_getElem hj,List.filter_append,List.map_append]
 congr 1
 by_cases h : es[j].1=v <;> simp [h]
theorem sE (es : List Edg) (i : Nat) : (tgs es i).length <= es.length:=by
 unfold tgs
 rw [List.length_map]
 exact List.length_filter_le _ _
def ja (es : List Edg) (out : List Nat) (v : Nat) : Bool:=es.all fun e=>!(e.2 == v) || out.contains e.1
theorem jV {es : List Edg} {out : List Nat} {v : Nat} : ja es out v=true ↔ ∀ u,(u,v) ∈ es -> u ∈ out:=by
 unfold ja
 simp only [List.all_eq_true,Bool.or_eq_true,Bool.not_eq_true',beq_eq_false_iff_ne,List.contains_iff_mem]
 constructor
 ·intro h u hu
  rcases h _ hu with h | h
  ·exact absurd rfl h
  ·exact h
 ·rintro h ⟨a,b⟩ he
  by_cases e : b=v
  ·subst e;exact .inr (h a he)
  ·exact .inl e
def df (n : Nat) (es : List Edg) (out : List Nat) : List Nat:=(List.range n).filter fun v=>!out.contains v && ja es out v
theorem iz {n : Nat} {es : List Edg} {out : List Nat} {v : Nat} : v ∈ df n es out ↔ v < n /\ v ∉ out /\ ∀ u,(u,v) ∈ es -> u ∈ out:=by
 simp only [df,List.mem_filter,List.mem_range,Bool.and_eq_true,Bool.not_eq_true',<- jV]
 simp
def iL (n : Nat) (es : List Edg) (out : List Nat) : List Nat:=match df n es out with
 | []=>out
 | v::_=>out++[v]
def aU (n : Nat) (es : List Edg) : Nat -> List Nat
 | 0=>[]
 | m + 1=>iL n es (aU n es m)
def cl (n : Nat) (es : List Edg) : List Nat:=aU n es n
def eu (n : Nat) (es : List Edg) (out : List Nat) (k : Nat) : Nat:=((List.range n).filter fun u=>es.contains (u,k) && !out.contains u).length
def km (es : List Edg) (i k : Nat) : Nat:=((List.range i).filter fun u=>es.contains (u,k)).length
theorem u4 (n : Nat) (es : List Edg) (k : Nat) : km es n k=eu n es [] k:=by
 unfold km eu
 congr 1
 apply List.filter_congr
 simp
theorem tg (es : List Edg) (i k : Nat) : km es (i + 1) k=km es i k + (if (i,k) ∈ es then 1 else 0):=by
 unfold km
 rw [List.range_succ,List.filter_append,List.length_append]
 by_cases h : (i,k) ∈ es <;> simp [h]
theorem xD (es : List Edg) (i k : Nat) : km es i k <= i:=by
 have:=List.length_filter_le (fun u=>es.contains (u,k)) (List.range i)
 simpa [km] using this
theorem nj {n : Nat} {es : List Edg} (hg : inG n es) {out : List Nat} {k : Nat} : eu n es out k=0 ↔ ja es out k=true:=by
 rw [jV]
 unfold eu
 rw [List.length_eq_zero_iff,List.filter_eq_nil_iff]
 constructor
 ·intro h u hu
  have:=h u (by simpa using (hg _ hu).1)
  simp at this
  exact this hu
 ·intro h u hu
  simp
  exact fun he=>h u he
theorem kq {α : Type} (l : List α) (p q : α -> Bool) : (l.filter p).length=(l.filter fun a=>p a && q a).length + (l.filter fun a=>p a && !q a).length:=by
 induction l with
 | nil=>rfl
 | cons a l ih =>
  simp only [List.filter_cons]
  cases p a <;> cases q a <;> simp <;> omega
theorem ni {n : Nat} {es : List Edg} {out : List Nat} {i : Nat} (hi : i < n) (ho : i ∉ out) (k : Nat) : eu n es out k=eu n es (out++[i]) k + (if (i,k) ∈ es then 1 else 0):=by
 unfold eu
 rw [kq (List.range n) (fun u=>es.contains (u,k) && !out.contains u) (fun u=>!(u == i))]
 congr 1
 ·congr 1
  apply List.filter_congr
  intro u _
  rw [Bool.eq_iff_iff]
  simp [and_assoc]
 ·have e : (List.range n).filter (fun a=>(es.contains (a,k) && !out.contains a) && !!(a == i))=if (i,k) ∈ es then [i] else []:=by
   have h1 : (List.range n).filter (fun a=>(es.contains (a,k) && !out.contains a) && !!(a == i))=((List.range n).filter (fun a=>a == i)).filter fun a=>es.contains (a,k) && !out.contains a:=by
    rw [List.filter_filter]
    apply List.filter_congr
    intro u _
    simp
   have h2 : (List.range n).filter (fun a=>a == i)=[i]:=by
    have : (List.range n).filter (fun a=>a == i)=List.replicate ((List.range n).count i) i:=List.filter_beq i
    rw [this,List.nodup_range.count,if_pos (by simpa using hi)]
    rfl
   rw [h1,h2]
   by_cases h : (i,k) ∈ es <;> simp [h,ho]
  rw [e]
  split <;> rfl
end Go.Gv

namespace Go.Gv
structure SlC (C : CC) : Prop where
 sort : ∀ zs : List Int,zs.length < 2 ^ 40 -> C 366 [.own 1 (zs.map fun n=>[.int .i64 n])] .any [.own 1 ((zs.mergeSort fun x y=>decide (x <= y)).map fun n=>[.int .i64 n]),.nilp]
 compact : ∀ zs : List Int,zs.length < 2 ^ 40 -> C 523 [.own 1 (zs.map fun n=>[.int .i64 n])] .any [.own 1 ((Lib.compact zs).map fun n=>[.int .i64 n]),.nils,.nils]
 insert : ∀ (zs : List Int) (i : Nat) (x : Int),i <= zs.length -> zs.length < 2 ^ 40 -> C 519 [.own 1 (zs.map fun n=>[.int .i64 n]),.int .i64 i,.own 1 [[.int .i64 x]]] .any [.own 1 ((zs.take i++x::zs.drop i).map fun n=>[.int .i64 n]),.nils,.nils]
theorem jx : ∀ {l l' : List Int},l.Pairwise (· < ·) -> l'.Pairwise (· < ·) -> (∀ x,x ∈ l ↔ x ∈ l') -> l=l'
 | [],[],_,_,_=>rfl
 | [],b::_,_,_,h=>by simpa using (h b).2 (by simp)
 | a::_,[],_,_,h=>by simpa using (h a).1 (by simp)
 | a::l,b::l',h1,h2,h=>by
  rw [List.pairwise_cons] at h1 h2
  have e : a=b:=by
   have x1:=(h a).1 (by simp)
   have x2:=(h b).2 (by simp)
   simp only [List.mem_cons] at x1 x2
   rcases x1 with x1 | x1
   ·exact x1
   ·rcases x2 with x2 | x2
    ·exact x2.symm
    ·have:=h2.1 a x1;have:=h1.1 b x2;omega
  subst e
  congr 1
  refine jx h1.2 h2.2 fun x=>?_
  have:=h x
  simp only [List.mem_cons] at this
  constructor
  ·intro hx
   have h3:=h1.1 x hx
   rcases this.1 (.inr hx) with h4 | h4
   ·omega
   ·exact h4
  ·intro hx
   have h3:=h2.1 x hx
   rcases this.2 (.inr hx) with h4 | h4
   ·omega
   ·exact h4
theorem jG {d : Array Int} (hs : ∀ j,0 < j -> j < d.size -> d[j - 1]! <= d[j]!) : ∀ m,m <= d.size -> (Lib.compactUpTo d m).Pairwise (· < ·) /\ (∀ x,x ∈ Lib.compactUpTo d m ↔ ∃ j,j < m /\ d[j]! = x) /\ ∀ x ∈ Lib.compactUpTo d m,x <= d[m - 1]!
 | 0,_=>by simp [Lib.compactUpTo]
 | m + 1,hm=>by
  obtain ⟨h1,h2,h3⟩:=jG hs m (by omega)
  rw [Lib.compactUpTo_succ]
  by_cases hk : Lib.keeps d m=true
  ·rw [if_pos hk]
   have hlt : ∀ x ∈ Lib.compactUpTo d m,x < d[m]!:=fun x hx=>by
    have h4:=h3 x hx
    simp only [Lib.keeps,decide_eq_true_eq] at hk
    rcases hk with rfl | hk
    ·obtain ⟨j,hj,_⟩:=(h2 x).1 hx;omega
    ·rcases Nat.eq_zero_or_pos m with h0 | h0
     ·subst h0;obtain ⟨j,hj,_⟩:=(h2 x).1 hx;omega
     ·have:=hs m h0 (by omega);omega
   refine ⟨List.pairwise_append.2 ⟨h1,by simp,fun a ha b hb=>by simp at hb;subst hb;exact hlt a ha⟩,fun x=>?_,fun x hx=>?_⟩
   ·simp only [List.mem_append,List.mem_singleton,h2]
    constructor
    ·rintro (⟨j,hj,rfl⟩ | rfl)
     ·exact ⟨j,by omega,rfl⟩
     ·exact ⟨m,by omega,rfl⟩
    ·rintro ⟨j,hj,rfl⟩
     by_cases e : j=m
     ·exact .inr (by rw [e])
     ·exact .inl ⟨j,by omega,rfl⟩
   ·simp only [List.mem_append,List.mem_singleton] at hx
    rcases hx with hx | hx
    ·exact Int.le_of_lt (hlt x hx)
    ·rw [hx];exact Int.le_refl _
  ·rw [if_neg hk,List.append_nil]
   have hm0 : 0 < m:=by
    rcases Nat.eq_zero_or_pos m with h | h
    ·subst h;exact absurd (Lib.keeps_lt_one d 0 (by omega)) hk
    ·exact h
   have he : d[m]! = d[m - 1]!:=by
    apply Classical.byContradiction
    intro h
    exact hk (Lib.keeps_pos h)
   refine ⟨h1,fun x=>?_,fun x hx=>?_⟩
   ·rw [h2]
    constructor
    ·rintro ⟨j,hj,rfl⟩;exact ⟨j,by omega,rfl⟩
    ·rintro ⟨j,hj,rfl⟩
     by_cases e : j=m
     ·subst e;exact ⟨j - 1,by omega,he.symm⟩
     ·exact ⟨j,by omega,rfl⟩
   ·have:=h3 x hx
    simp only [Nat.add_sub_cancel,he]
    exact this
theorem oh {n : Nat} {es : List Edg} (hg : inG n es) (i : Nat) : Lib.compact (((tgs es i).map fun k : Nat=>(k : Int)).mergeSort fun x y=>decide (x <= y))=(nxt n es i).map fun k : Nat=>(k : Int):=by
 obtain ⟨zs,hz⟩ : ∃ zs,zs=((tgs es i).map fun k : Nat=>(k : Int)).mergeSort fun x y=>decide (x <= y):=⟨_,rfl⟩
 rw [<- hz]
 have hp : zs.Pairwise (· <= ·):=by
  have h:=List.pairwise_mergeSort (le:=fun x y : Int=>decide (x <= y)) (fun a b c h1 h2=>by simp at *;omega) (fun a b=>by simp;omega) ((tgs es i).map fun k : Nat=>(k : Int))
  rw [<- hz] at h
  exact h.imp fun h=>by simpa using h
 have hm : ∀ x,x ∈ zs ↔ ∃ k : Nat,(i,k) ∈ es /\ (k : Int)=x:=fun x=>by
  rw [hz,List.mem_mergeSort,List.mem_map]
  simp only [yg]
 have hs : ∀ j,0 < j -> j < zs.toArray.size -> zs.toArray[j - 1]! <= zs.toArray[j]!:=fun j h1 h2=>by
  have h3 : j < zs.length:=by simpa using h2
  rw [getElem!_pos zs.toArray (j - 1) (by simpa using (by omega : j - 1 < zs.length)),getElem!_pos zs.toArray j h2]
  exact List.pairwise_iff_getElem.1 hp (j - 1) j (by omega) h3 (by omega)
 obtain ⟨h1,h2,_⟩:=jG hs zs.length (by simp)
 refine jx h1 ?_ fun x=>?_
 ·rw [List.pairwise_map]
  have : (nxt n es i).Pairwise (· < ·):=List.Pairwise.filter _ List.pairwise_lt_range
  exact this.imp fun h=>by omega
 ·unfold Lib.compact
  rw [h2,List.mem_map]
  constructor
  ·rintro ⟨j,hj,rfl⟩
   rw [getElem!_pos zs.toArray j (by simpa using hj)]
   obtain ⟨k,k1,k2⟩:=(hm _).1 (List.getElem_mem (l:=zs) hj)
   exact ⟨k,fS.2 ⟨(hg _ k1).2,k1⟩,by simpa using k2⟩
  ·rintro ⟨k,hk,rfl⟩
   obtain ⟨j,hj,e⟩:=List.mem_iff_getElem.1 ((hm k).2 ⟨k,(fS.1 hk).2,rfl⟩)
   exact ⟨j,hj,by rw [getElem!_pos zs.toArray j (by simpa using hj)];simpa using e⟩
variable {C : CC} (hC : aj prog C)
include hC
theorem Jt (n i : Int) : C 516 [.int .i64 n,.int .i64 i] (.bool (decide (0 <= i) && decide (i < n))) []:=by
 refine au hC (nf:=N516) rfl rfl ?_
 simp [N516]
 refine ae (fun h=>?_) (fun h=>?_) <;> simp at h <;> simp [h] <;> omega
theorem x5 {b : Bool} {xs : List (Int × Int)} {g : Nat} {cs : List D} (p : (Int × Int) -> Bool) (hs : xs.length < 2 ^ 62) (hp : ∀ x ∈ xs,C g (.agg (knD x)::cs) (.bool (p x)) []) : C 522 [slx b (xs.map fun x=>knD x),.fn g cs] (.int .i64 (cd p xs)) []:=by
 refine au hC (nf:=N522) rfl rfl ?_
 simp [N522]
 refine ay Nat (fun i=>[(0,slx b (xs.map fun x=>knD x)),(1,.fn g cs),(7,.int .i64 xs.length),(8,.int .i64 i)]) (fun i=>i <= xs.length /\ ∀ (j : Nat) (h : j < xs.length),j < i -> p xs[j]=false) (fun i=>xs.length - i) 0 (by simp) (by simp) ?_
 rintro i ⟨hi,hj⟩
 simp
 refine ae (fun h=>?_) (fun h=>?_) <;> simp [h] <;> simp at h
 ·have hw : IntKind.wrap .i64 ((i : Int) + 1)=((i + 1 : Nat) : Int):=ai (by omega) (by omega)
  have hc:=hp _ (List.getElem_mem h)
  simp [h,knD] at hc ⊢
  refine aa hc (.inl rfl) ?_
  simp
  refine ae (fun h1=>?_) (fun h1=>?_) <;> simp [h1,hw]
  ·rw [dA hj h h1]
  ·refine ⟨i + 1,⟨by omega,fun j hl hjj=>?_⟩,by omega,rfl⟩
   rcases Nat.lt_succ_iff_lt_or_eq.1 hjj with h2 | rfl
   ·exact hj j hl h2
   ·exact h1
 ·rw [fk (fun j hl=>hj j hl (by omega))]
theorem x3 {b : Bool} {xs : List (Int × Int)} {g : Nat} {cs : List D} (p : (Int × Int) -> Bool) (hs : xs.length < 2 ^ 62) (hp : ∀ x ∈ xs,C g (.agg (knD x)::cs) (.bool (p x)) []) : C 514 [slx b (xs.map fun x=>knD x),.fn g cs] (.bool (xs.any p)) []:=by
 refine au hC (nf:=N514) rfl rfl ?_
 simp [N514]
 refine aa (x5 hC p hs hp) (.inl rfl) ?_
 simp [gj]
def o6 (n : Int) (e : Int × Int) : Bool:=!((decide (0 <= e.1) && decide (e.1 < n)) && (decide (0 <= e.2) && decide (e.2 < n)))
theorem xI (n : Int) (e : Int × Int) : C 515 [.agg (knD e),.ptr [.int .i64 n]] (.bool (o6 n e)) []:=by
 refine au hC (nf:=N515) rfl rfl ?_
 simp [N515,knD]
 refine aa (Jt hC n e.1) (.inl rfl) ?_
 unfold o6
 cases h : (decide (0 <= e.1) && decide (e.1 < n))
 ·simp
 ·simp
  refine aa (Jt hC n e.2) (.inl rfl) ?_
  simp
def gOk (n : Int) (es : List (Int × Int)) : Bool:=decide (0 <= n) && decide (n <= 300) && decide (es.length <= 1000) && !es.any (o6 n)
theorem vH (b : Bool) (n : Int) (es : List (Int × Int)) (hl : es.length < 2 ^ 62) : C 503 [.int .i64 n,slx b (es.map knD)] (.bool (gOk n es)) []:=by
 have k1:=x3 hC (b:=b) (xs:=es) (g:=515) (cs:=[.ptr [.int .i64 n]]) (o6 n) hl (fun x _=>xI hC n x)
 refine au hC (nf:=N503) rfl rfl ?_
 simp [N503]
 by_cases h1 : n < 0
 ·simp [h1,gOk,show ¬ 0 <= n by omega]
 by_cases h2 : 300 < n
 ·simp [h1,h2,gOk,show ¬ n <= 300 by omega]
 by_cases h3 : (1000 : Int) < es.length
 ·simp [h1,h2,h3,gOk,show ¬ es.length <= 1000 by omega]
 simp [h1,h2,h3]
 refine aa k1 (.inl rfl) ?_
 simp [gOk,show 0 <= n by omega,show n <= 300 by omega,show es.length <= 1000 by omega]
theorem BW {n : Nat} {es : List Edg} (hn : n <= 300) (he : es.length <= 1000) (hg : inG n es) : gOk n (es.map edI)=true:=by
 unfold gOk
 simp only [Bool.and_eq_true,decide_eq_true_eq,List.length_map,Bool.not_eq_true',List.any_eq_false,List.mem_map]
 refine ⟨⟨⟨by omega,by omega⟩,he⟩,?_⟩
 rintro x ⟨e,h1,rfl⟩
 obtain ⟨h2,h3⟩:=hg e h1
 simp only [o6,edI,Bool.not_eq_true',Bool.not_eq_false',Bool.and_eq_true,decide_eq_true_eq]
 simp
 omega
end Go.Gv

namespace Go.Gv
section
variable {C : CC}
theorem iZ {f : Nat -> D} {dst : Option Nat} {K K' : KT} {o : NOp} (h : az C f dst K o) (hk : ∀ ws ks,K ws ks -> K' ws ks) : az C f dst K' o:=by
 obtain ⟨ws,ks,h1,h2⟩:=mI h
 exact h2 K' (hk ws ks h1)
theorem gR {e : Env} {dst : Option Nat} {K K' : Env -> Prop} (h : go e dst K) (hk : ∀ e,K e -> K' e) : go e dst K':=by
 unfold go at h ⊢
 split at h
 ·exact hk _ h
 ·exact hk _ h
theorem gz {K K' : Env -> Prop} (hk : ∀ e,K e -> K' e) : ∀ (ns : List ap) (e : Env),gU C K ns e -> gU C K' ns e
 | [],e,h=>hk e h
 | o::os,e,h=>by
  rw [gU] at h ⊢
  split at h
  ·exact iZ h (fun ws ks h1=>gz hk os _ h1)
  ·split at h
   ·exact ⟨fun hb=>iZ (h.1 hb) (fun ws ks h1=>gz hk os _ h1),fun hb=>gR (h.2 hb) (fun e h1=>gz hk os e h1)⟩
   ·exact gR h (fun e h1=>gz hk os e h1)
   ·exact h.elim
theorem gy {hs : List Nat} {K K' : Env -> Prop} (hk : ∀ e,K e -> K' e) : ∀ (ns : List ap) (e : Env) (acc : List (List Nat × List Nat)),jb C hs K ns e acc -> jb C hs K' ns e acc
 | [],e,acc,h=>⟨h.1,hk e h.2⟩
 | o::os,e,acc,h=>by
  rw [jb] at h ⊢
  refine ⟨h.1,?_⟩
  have h:=h.2
  split at h
  ·exact iZ h (fun ws ks h1=>⟨h1.1,gy hk os _ _ h1.2⟩)
  ·split at h
   ·exact ⟨fun hb=>iZ (h.1 hb) (fun ws ks h1=>⟨h1.1,gy hk os _ _ h1.2⟩),fun hb=>gR (h.2 hb) (fun e h1=>gy hk os e _ h1)⟩
   ·exact gR h (fun e h1=>gy hk os e _ h1)
   ·exact h.elim
theorem dR : ∀ (c : dw) (Q Q' : b9 -> Env -> Prop) (e : Env),(∀ t e,Q t e -> Q' t e) -> wpN C c Q e -> wpN C c Q' e
 | .skip,Q,Q',e,hq,h=>hq _ _ h
 | .reg dr hs keep ops,Q,Q',e,hq,h=>by
  cases dr with
  | false=>exact gz (fun e h=>hq _ _ h) ops e h
  | true=>exact gy (fun e h=>hq _ _ h) ops e [] h
 | .seq x y,Q,Q',e,hq,h=>dR x _ _ e (fun t e h=>by
   cases t with
   | nrm=>exact dR y Q Q' e hq h
   | ext i=>exact hq _ _ h
   | ret=>exact hq _ _ h) h
 | .cond c x y,Q,Q',e,hq,h=>by
  rw [wpN] at h ⊢
  split at h
  ·exact ⟨fun hb=>dR x Q Q' e hq (h.1 hb),fun hb=>dR y Q Q' e hq (h.2 hb)⟩
  ·exact ⟨dR x Q Q' e hq h.1,dR y Q Q' e hq h.2⟩
  ·exact h.elim
 | .block id c,Q,Q',e,hq,h=>dR c _ _ e (fun t e h=>by
   cases t with
   | nrm=>exact hq _ _ h
   | ext i =>
    simp only at h ⊢
    split
    ·rename_i hi;rw [if_pos hi] at h;exact hq _ _ h
    ·rename_i hi;rw [if_neg hi] at h;exact hq _ _ h
   | ret=>exact hq _ _ h) h
 | .loop c,Q,Q',e,hq,h=>by
  obtain ⟨S,G,I,m,s0,h1,h2,h3⟩:=h
  refine ⟨S,G,I,m,s0,h1,h2,fun s hs=>dR c _ _ _ (fun t e h=>?_) (h3 s hs)⟩
  cases t with
  | nrm=>exact h
  | ext i=>exact hq _ _ h
  | ret=>exact hq _ _ h
 | .exit id,Q,Q',e,hq,h=>hq _ _ h
 | .ret,Q,Q',e,hq,h=>hq _ _ h
def tU (id : Nat) (S : Type) (G : S -> Env) (J : S -> Prop) (Q : b9 -> Env -> Prop) : b9 -> Env -> Prop:=fun t e=>match t with
 | .ext i=>if i=id then ∃ s,J s /\ jC e (G s) else Q (.ext i) e
 | t=>Q t e
variable {Q : b9 -> Env -> Prop} {e : Env}
@[simp] theorem xS {id S G J u} : bH (tU id S G J Q) u .nrm e=bH Q ⟨⟩ .nrm e:=_root_.id rfl
@[simp] theorem xT {id S G J u} : bH (tU id S G J Q) u .ret e=bH Q ⟨⟩ .ret e:=_root_.id rfl
@[simp] theorem xR {id S G J u i} : bH (tU id S G J Q) u (.ext i) e=if i=id then ∃ s,J s /\ jC e (G s) else bH Q ⟨⟩ (.ext i) e:=_root_.id rfl
theorem px {c : dw} {u : Tag (c,Q)} (id : Nat) (S : Type) (G : S -> Env) (J : S -> Prop) (h : se C c (tU id S G J Q) ⟨⟩ e) (hr : ∀ s e,J s -> jC e (G s) -> bH Q ⟨⟩ (.ext id) e) : se C c Q u e :=
 dR (.loop c) (tU id S G J Q) Q e (fun t e g=>by
  cases t with
  | nrm=>exact g
  | ret=>exact g
  | ext i =>
   simp only [tU] at g
   by_cases hi : i=id
   ·rw [if_pos hi] at g
    obtain ⟨s,h1,h2⟩:=g
    rw [hi]
    exact hr s e h1 h2
   ·rw [if_neg hi] at g
    exact g) h
def Cx (S : Type) (G : S -> Env) (J : S -> Prop) (Q : b9 -> Env -> Prop) : b9 -> Env -> Prop:=fun t e=>match t with
 | .nrm=>∃ s,J s /\ jC e (G s)
 | t=>Q t e
@[simp] theorem xP {S G J u} : bH (Cx S G J Q) u .nrm e=∃ s,J s /\ jC e (G s):=_root_.id rfl
@[simp] theorem xQ {S G J u} : bH (Cx S G J Q) u .ret e=bH Q ⟨⟩ .ret e:=_root_.id rfl
@[simp] theorem xO {S G J u i} : bH (Cx S G J Q) u (.ext i) e=bH Q ⟨⟩ (.ext i) e:=_root_.id rfl
end
@[simp] theorem Kz {C : CC} {hs : Option (List Nat)} {K : Env -> Prop} {ns : List ap} {dst : Option Nat} {u : Tag (hs,K,ns)} {e : Env} {R : List Nat} {acc : List (List Nat × List Nat)} {α : Type} [Inhabited α] {n : Nat} {ag : Bool} {p : Pa} {xs : List α} {f : α -> List D} {i off : Nat} :
  kJ C hs K ns dst u e R acc n ag p (xs.map f) i off=(i < xs.length /\ off + n <= (f xs[i]!).length /\ match ag with
    | true=>((((f xs[i]!).drop off).take n).all isV=true -> dW C hs K ns dst ⟨⟩ e R acc (.agg (((f xs[i]!).drop off).take n))) /\
      ((((f xs[i]!).drop off).take n).all isV=false -> dW C hs K ns dst ⟨⟩ e R acc (.agx ((((f xs[i]!).drop off).take n).mapIdx fun j c=>ldc p i (off + j) c)))
    | false=>dW C hs K ns dst ⟨⟩ e R acc (ldc p i off (((f xs[i]!).drop off).headD .any))):=by
 apply propext
 constructor
 ·rintro ⟨r,h,h1,h2⟩
  rw [List.getElem?_map,Option.map_eq_some_iff] at h
  obtain ⟨x,hx,rfl⟩:=h
  obtain ⟨hi,rfl⟩:=List.getElem?_eq_some_iff.1 hx
  rw [getElem!_pos xs i hi]
  refine ⟨hi,h1,?_⟩
  cases ag <;> exact h2
 ·rintro ⟨hi,h1,h2⟩
  rw [getElem!_pos xs i hi] at h1 h2
  refine sv (r:=f xs[i]) (by rw [List.getElem?_map,List.getElem?_eq_getElem hi];rfl) h1 ?_
  cases ag <;> exact h2
@[simp] theorem FN {b all ks n} : aS ((b,all)::ks) (.ptx n)=if n.any (aK b all) then .any else aS ks (.ptx n):=by
 have h : aS ((b,all)::ks) (.ptx n)=bif (n.any (aK b all) || aD ks (.ptx n)) then .any else .ptx n:=cg ..
 rw [h,cg]
 cases n.any (aK b all) <;> rfl
@[simp] theorem FR {b all ks n} : aS ((b,all)::ks) (.tpx n)=if n.any (aK b all) then .any else aS ks (.tpx n):=by
 have h : aS ((b,all)::ks) (.tpx n)=bif (n.any (aK b all) || aD ks (.tpx n)) then .any else .tpx n:=cg ..
 rw [h,cg]
 cases n.any (aK b all) <;> rfl
@[simp] theorem F5 {b all n es} : aK b all (slx n es)=false:=by cases n <;> cases es <;> rfl
@[simp] theorem F4 {b all p k n} : aK b all (.ref p k n)=bK b all p:=_root_.id rfl
@[simp] theorem F0 {b all p k n} : aK b all (.adr p k n)=bK b all p:=_root_.id rfl
@[simp] theorem F2 {b all c} : aK b all (.mrf c)=(all && c == b):=_root_.id rfl
@[simp] theorem F1 {b all k n} : aK b all (.int k n)=false:=_root_.id rfl
@[simp] theorem Cu {b all n} : aK b all (.bool n)=false:=_root_.id rfl
@[simp] theorem F6 {b all n} : aK b all (.str n)=false:=_root_.id rfl
@[simp] theorem Cw {b all} : aK b all .nils=false:=_root_.id rfl
@[simp] theorem Cv {b all} : aK b all .nilp=false:=_root_.id rfl
@[simp] theorem JW {b all n} : aK b all (.sl n)=false:=_root_.id rfl
@[simp] theorem F3 {b all n} : aK b all (.ptr n)=false:=_root_.id rfl
@[simp] theorem JV {b all g n} : aK b all (.fn g n)=false:=_root_.id rfl
@[simp] theorem FL {b all ks c} : aS ((b,all)::ks) (.mrf c)=if (all && c == b) then .any else aS ks (.mrf c):=by
 have h : aS ((b,all)::ks) (.mrf c)=bif ((all && c == b) || aD ks (.mrf c)) then .any else .mrf c:=cg ..
 rw [h,cg]
 cases all && c == b <;> rfl
end Go.Gv
