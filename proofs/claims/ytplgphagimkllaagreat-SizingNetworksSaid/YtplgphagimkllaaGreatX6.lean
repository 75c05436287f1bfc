/-
  Texts of the proof: GvR, GvEsn, ItT, GvT, GvT5, GvT6, GvT4, GvU, K1, K3, Q0, Q1, GvW.
-/
import Derived.Test.YtplgphagimkllaaGreatX4
import Derived.SizedLaws
import Derived.ProofKit
import Derived.Test.YtplgphagimkllaaGreatX5
import Derived.Test.YtplgphagimkllaaGreatProg
import Derived.KernelRfl
import Derived.Shelf.Sort.Plain
import Derived.Shelf.Slices.CompactI
import Derived.Shelf.Spec.SlicesInsert
import Derived.Sort.Row
import Derived.Sort.Grow
import Derived.Shelf.SlSortCmp.WholeK
import Derived.Shelf.SlSortCmp.NoneTotal
import Derived.Shelf.Small.Strs
import Derived.Shelf.Slices.In.SortNone
import Derived.Shelf.Spec.SlicesInsertGrow
import Derived.Lib.SlicesCompact
set_option linter.all false
namespace Go.Gv
open Go.RowKit Go.ChangeShapes Go.WideShapes Go.ChangeAt
inductive Sh where
 | int (k : IntKind)
 | bool
 | str
 | sl (row : List Sh)
mutual
def dA : Sh -> D -> Prop
 | .int k,d=>∃ n,d=.int k n /\ (Lit.int k n).wf=true
 | .bool,d=>∃ b,d=.bool b
 | .str,d=>∃ s,d=.str s /\ s.length < 140737488355328
 | .sl row,d=>∃ es,(d=.sl es \/ (d=.nils /\ es=[])) /\ es.length < 140737488355328 /\ ∀ e ∈ es,bI row e
def bI : List Sh -> List D -> Prop
 | [],ds=>ds=[]
 | s::ss,ds=>∃ d r,ds=d::r /\ dA s d /\ bI ss r
end
theorem bI.length : ∀ {ss : List Sh} {ds : List D},bI ss ds -> ds.length=ss.length
 | [],ds,h=>by simp only [bI] at h;simp [h]
 | s::ss,ds,h=>by
  simp only [bI] at h
  obtain ⟨d,r,rfl,_,h2⟩:=h
  simp [bI.length h2]
theorem bI.append : ∀ {ss ts : List Sh} {ds es : List D},bI ss ds -> bI ts es -> bI (ss++ts) (ds++es)
 | [],ts,ds,es,h,h'=>by simp only [bI] at h;subst h;exact h'
 | s::ss,ts,ds,es,h,h'=>by
  simp only [bI] at h
  obtain ⟨d,r,rfl,h1,h2⟩:=h
  exact ⟨d,r++es,rfl,h1,bI.append h2 h'⟩
def oG (P : Program) (rec : TypeId -> Option (List Sh)) : List Field -> Nat -> Option (List Sh)
 | [],_=>some []
 | f::fs,off=>if f.offset=off then (match rec f.type with
   | some l=>if l.length=P.cellsOf f.type then (match oG P rec fs (off + l.length) with
    | some r=>some (l++r)
    | none=>none) else none
   | none=>none) else none
def lP (P : Program) : Nat -> TypeId -> Option (List Sh)
 | 0,_=>none
 | n + 1,t=>match P.underlying t with
  | some .bool=>some [.bool]
  | some (.int k)=>some [.int k]
  | some .string=>some [.str]
  | some (.slice e)=>(match lP P n e with
   | some l=>if l.length=P.cellsOf e /\ 1 <= P.bytesOf e then some [.sl l] else none
   | none=>none)
  | some (.struct fs)=>(match oG P (lP P n) fs.toList 0 with
   | some l=>if l.length=P.cellsOf t then some l else none
   | none=>none)
  | _=>none
section
variable {H : Type} {enc : TypeId × Value -> H} {P : Program} {F : Fid} {w : World} {sp : Nat -> Bool}
abbrev mh (w : World) : Mem:=fun p=>w.cell? p
def uW (enc : TypeId × Value -> H) (P : Program) (F : Fid) (w : World) (sp : Nat -> Bool) (n : Nat) (t : TypeId) (shs : List Sh) : Prop :=
 ∀ (cs : List Value) (d : DataW H) (ps : List MemPlace),DataW.trod enc P w 0 sp true n t cs=some (d,ps) -> (d.weights P t).all (· <= reachBytes)=true -> ∃ ds,bI shs ds /\ ay F (mh w) ds cs
theorem iJ {α β : Type} {f : α -> Option β} {x : α} {l : List α} {ys : List β} (h : (x::l).mapM f=some ys) : ∃ y r,f x=some y /\ l.mapM f=some r /\ ys=y::r:=by
 rw [List.mapM_cons] at h
 cases hx : f x with
 | none=>rw [hx] at h;cases h
 | some y =>
  cases hl : l.mapM f with
  | none=>rw [hx,hl] at h;cases h
  | some r =>
   rw [hx,hl] at h
   exact ⟨y,r,rfl,rfl,by cases h;rfl⟩
theorem mR {n m : Nat} (ih : ∀ t shs,lP P m t=some shs -> uW enc P F w sp n t shs) {cs : List Value} : ∀ (fs : List Field) (off : Nat) (xs : List (DataW H × List MemPlace)) (shs : List Sh),
  (fs.mapM fun f=>DataW.trod enc P w 0 sp true n f.type ((cs.drop f.offset).take (P.cellsOf f.type)))=some xs -> oG P (lP P m) fs off=some shs -> (DataW.weightsEach P (fs.map (·.type)) (xs.map (·.1))).all (· <= reachBytes)=true -> cs.length=off + shs.length ->
   ∃ ds,bI shs ds /\ ay F (mh w) ds (cs.drop off)
 | [],off,xs,shs,_,h2,_,h4=>by
  cases h2
  exact ⟨[],rfl,by simp only [ay];exact List.drop_of_length_le (by simpa using Nat.le_of_eq h4)⟩
 | f::fs,off,xs,shs,h1,h2,h3,h4=>by
  obtain ⟨y,r,e1,e2,rfl⟩:=iJ h1
  simp only [oG] at h2
  split at h2
  case isFalse=>cases h2
  rename_i ho
  split at h2
  case h_2=>cases h2
  rename_i l hl
  split at h2
  case isFalse=>cases h2
  rename_i hlen
  split at h2
  case h_2=>cases h2
  rename_i rs hr
  cases h2
  simp only [List.map_cons,DataW.weightsEach,List.all_append,Bool.and_eq_true] at h3
  rw [List.length_append] at h4
  obtain ⟨ds1,g1,g2⟩:=ih f.type l hl _ y.1 y.2 e1 h3.1
  obtain ⟨ds2,g3,g4⟩:=mR ih fs (off + l.length) r rs e2 hr h3.2 (by omega)
  refine ⟨ds1++ds2,g1.append g3,?_⟩
  rw [ho,<- hlen] at g2
  have:=g2.append g4
  rwa [<- List.drop_drop,List.take_append_drop] at this
theorem mS {n k : Nat} {e : TypeId} {l : List Sh} {a : Addr} (hl : l.length=k) (ih : uW enc P F w sp n e l) : ∀ (c s : Nat) (xs : List (DataW H × List MemPlace)),
  ((List.range' s c).mapM fun i=>(w.cells? 0 (a.add (i * k)) k).bind (DataW.trod enc P w 0 sp true n e))=some xs -> (DataW.weightsAll P e (xs.map (·.1))).all (· <= reachBytes)=true ->
   ∃ (es : List (List D)) (vs : List Value),es.length=c /\ xs.length=c /\ (∀ r ∈ es,bI l r) /\ bg F (mh w) es vs /\ ∀ j v,vs[j]? = some v -> w.cell? (a.add (s * k + j))=some v
 | 0,s,xs,h,_=>by
  cases h
  exact ⟨[],[],rfl,rfl,by simp,by simp [bg],fun j v h=>by simp at h⟩
 | c + 1,s,xs,h,hw=>by
  rw [List.range'_succ] at h
  obtain ⟨y,r,e1,e2,rfl⟩:=iJ h
  rw [Option.bind_eq_some_iff] at e1
  obtain ⟨row,c1,c2⟩:=e1
  simp only [List.map_cons,DataW.weightsAll,List.all_append,Bool.and_eq_true] at hw
  obtain ⟨ds,g1,g2⟩:=ih row y.1 y.2 c2 hw.1
  obtain ⟨es,vs,h1,h2,h3,h4,h5⟩:=mS hl ih c (s + 1) r e2 hw.2
  have hrow:=World.cells?_some c1
  refine ⟨ds::es,row++vs,by simp [h1],by simp [h2],?_,⟨row,vs,rfl,g2,h4⟩,fun j v hj=>?_⟩
  ·intro x hx
   rcases List.mem_cons.1 hx with rfl | hx
   ·exact g1
   ·exact h3 x hx
  ·have hrl : row.length=k:=by rw [g2.length,g1.length,hl]
   have addadd : ∀ i j,(a.add i).add j=a.add (i + j):=fun i j=>by
    unfold Addr.add
    by_cases hi : i=0 <;> by_cases hj : j=0 <;> simp [hi,hj,Nat.add_assoc]
   by_cases hjk : j < k
   ·rw [List.getElem?_append_left (by omega)] at hj
    have:=hrow.2.2 j hjk
    rw [hj,addadd] at this
    exact this
   ·rw [List.getElem?_append_right (by omega)] at hj
    have:=h5 (j - row.length) v hj
    rw [hrl] at this
    rwa [show (s + 1) * k + (j - k)=s * k + j by rw [Nat.succ_mul];omega] at this
theorem mb : ∀ (m : Nat) (n : Nat) (t : TypeId) (shs : List Sh),lP P m t=some shs -> uW enc P F w sp n t shs
 | 0,_,_,_,h=>by cases h
 | m + 1,0,t,shs,_=>fun cs d ps h _=>by simp [DataW.trod] at h
 | m + 1,n + 1,t,shs,h=>by
  intro cs d ps ht hw
  rw [lP] at h
  split at h
  ·rename_i hu
   cases h
   unfold DataW.trod at ht;rw [hu] at ht
   split at ht <;> try (simp_all;done)
   rename_i b _
   refine ⟨[.bool b],⟨_,_,rfl,⟨b,rfl⟩,rfl⟩,by simp [ay,ae]⟩
  ·rename_i k hu
   cases h
   unfold DataW.trod at ht;rw [hu] at ht
   split at ht <;> try (simp_all;done)
   rename_i k1 k2 x h1
   simp only [Option.some.injEq,TypeDesc.int.injEq] at h1
   subst h1
   split at ht
   ·rename_i hk
    obtain ⟨rfl,hwf⟩:=hk
    exact ⟨[.int _ x],⟨_,_,rfl,⟨x,rfl,hwf⟩,rfl⟩,by simp [ay,ae]⟩
   ·cases ht
  ·rename_i hu
   cases h
   unfold DataW.trod at ht;rw [hu] at ht
   split at ht <;> try (simp_all;done)
   rename_i s _
   split at ht
   ·rename_i hs
    simp only [Option.some.injEq,Prod.mk.injEq] at ht
    obtain ⟨rfl,rfl⟩:=ht
    simp only [DataW.weights,List.all_cons,List.all_nil,Bool.and_true,decide_eq_true_eq] at hw
    refine ⟨[.str s.data.toList],⟨_,_,rfl,⟨_,rfl,?_⟩,rfl⟩,?_⟩
    ·have:=reachBytes_lt;omega
    ·obtain ⟨s⟩:=s
     simp [ay,ae]
   ·cases ht
  ·rename_i e hu
   split at h
   case h_2=>cases h
   rename_i l hl
   split at h
   case isFalse=>cases h
   rename_i hk
   cases h
   unfold DataW.trod at ht;rw [hu] at ht
   split at ht <;> try (simp_all;done)
   ·refine ⟨[.nils],⟨_,_,rfl,⟨[],.inr ⟨rfl,rfl⟩,by simp,by simp⟩,rfl⟩,by simp [ay,ae]⟩
   ·rename_i e' a len cap h1
    simp only [Option.some.injEq,TypeDesc.slice.injEq] at h1
    subst h1
    simp only at ht
    split at ht
    case isFalse=>cases ht
    rename_i hb
    rw [Option.bind_eq_some_iff] at ht
    obtain ⟨xs,e1,e2⟩:=ht
    rw [Option.map_eq_some_iff] at e2
    obtain ⟨rest,e3,e4⟩:=e2
    simp only [Prod.mk.injEq] at e4
    obtain ⟨rfl,rfl⟩:=e4
    simp only [DataW.weights,hu,List.all_cons,List.all_append,Bool.and_eq_true,decide_eq_true_eq] at hw
    obtain ⟨w1,w2,w3⟩:=hw
    rw [List.range_eq_range'] at e1
    obtain ⟨es,vs,g1,g2,g3,g4,g5⟩:=mS (F:=F) hk.1 (mb m n e l hl) len 0 xs e1 w2
    refine ⟨[.sl es],⟨_,_,rfl,⟨es,.inl rfl,?_,g3⟩,rfl⟩,?_⟩
    ·have h5:=reachBytes_lt
     have h6 : es.length * 1 <= (xs.length + rest.length) * P.bytesOf e:=Nat.mul_le_mul (by omega) hk.2
     simp only [List.length_map] at w1
     omega
    ·simp only [ay]
     refine ⟨_,_,rfl,?_,rfl⟩
     simp only [ae]
     refine ⟨some a,cap,vs,P.cellsOf e,by rw [g1],by omega,g4,fun r hr=>by rw [(g3 r hr).length,hk.1],fun _=>⟨a,rfl,fun j v hj=>?_⟩⟩
     have:=g5 j v hj
     simpa using this
  ·rename_i fs hu
   split at h
   case h_2=>cases h
   rename_i l hl
   split at h
   case isFalse=>cases h
   rename_i hk
   cases h
   unfold DataW.trod at ht;rw [hu] at ht
   split at ht <;> try (simp_all;done)
   rename_i fs' h1
   simp only [Option.some.injEq,TypeDesc.struct.injEq] at h1
   subst h1
   split at ht
   case isFalse=>cases ht
   rename_i hc
   rw [Option.map_eq_some_iff] at ht
   obtain ⟨xs,e1,e2⟩:=ht
   simp only [Prod.mk.injEq] at e2
   obtain ⟨rfl,rfl⟩:=e2
   simp only [DataW.weights,hu] at hw
   obtain ⟨ds,g1,g2⟩:=mR (F:=F) (n:=n) (fun t shs h=>mb m n t shs h) fs.toList 0 xs _ e1 hl hw (by omega)
   exact ⟨ds,g1,by simpa using g2⟩
  ·cases h
theorem mg {t : TypeId} {fs : Array Field} {m : Nat} {shs : List Sh} {base : Nat} {v : Value} {d : DataW H} {ps : List MemPlace} (hu : P.underlying t=some (.struct fs)) (hsh : lP P m t=some shs) (hv : Value.okWide P w .any base t v) (h : DataW.Trod enc P w 0 sp true t v d ps) (hw : (d.weights P t).all (· <= reachBytes)=true) :
  ∃ ds,bI shs ds /\ ae F (mh w) (.agg ds) v:=by
 obtain ⟨cs,rfl,_⟩:=okWide_struct hu hv
 obtain ⟨n,hn⟩:=h
 obtain ⟨ds,g1,g2⟩:=mb (F:=F) m n t shs hsh _ d ps hn hw
 exact ⟨ds,g1,by simp only [ae];exact ⟨cs.toList,by simp,g2⟩⟩
theorem kD {t e : TypeId} {m : Nat} {sh : Sh} {base : Nat} {v : Value} {d : DataW H} {ps : List MemPlace} (hu : P.underlying t=some (.slice e)) (hsh : lP P m t=some [sh]) (hv : Value.okWide P w .any base t v) (h : DataW.Trod enc P w 0 sp true t v d ps) (hw : (d.weights P t).all (· <= reachBytes)=true) :
  ∃ x,dA sh x /\ ae F (mh w) x v:=by
 obtain ⟨a,len,cap,rfl⟩:=okWide_slice hu hv
 obtain ⟨n,hn⟩:=h
 obtain ⟨ds,g1,g2⟩:=mb (F:=F) m n t [sh] hsh _ d ps hn hw
 simp only [bI] at g1
 obtain ⟨x,r,rfl,g3,rfl⟩:=g1
 simp only [Value.cells,ay] at g2
 obtain ⟨v',r',e,g4,rfl⟩:=g2
 simp at e
 exact ⟨x,g3,by rw [e];exact g4⟩
theorem xM {t : TypeId} {k : IntKind} {base : Nat} {v : Value} {d : DataW H} {ps : List MemPlace} (hu : P.underlying t=some (.int k)) (hv : Value.okWide P w .any base t v) (h : DataW.Trod enc P w 0 sp true t v d ps) :
  ∃ n,(Lit.int k n).wf=true /\ ae F (mh w) (.int k n) v:=by
 obtain ⟨n,rfl,_,_,hw⟩:=open_int hu hv h
 exact ⟨n,hw,rfl⟩
end
theorem mY {α : Type} {f : α -> List D} {es : List (List D)} (h : ∀ e ∈ es,∃ x,e=f x) : ∃ xs : List α,es=xs.map f:=by
 induction es with
 | nil=>exact ⟨[],rfl⟩
 | cons e es ih =>
  obtain ⟨x,rfl⟩:=h e (by simp)
  obtain ⟨xs,rfl⟩:=ih (fun e he=>h e (by simp [he]))
  exact ⟨x::xs,rfl⟩
end Go.Gv
namespace Go.Gv
def Bo (P : Program) (F : Fid) (prog : Nat -> Option au) (tbl : List (Nat × Nat)) : Bool:=tbl.all fun p=>nR P p.2 && match prog p.1 with
 | some nf=>fI P F p.2 nf
 | none=>true
theorem tY {tbl : List (Nat × Nat)} {g f : Nat} (h : tbl.lookup g=some f) : (g,f) ∈ tbl:=by
 induction tbl with
 | nil=>cases h
 | cons p r ih =>
  obtain ⟨a,b⟩:=p
  rw [List.lookup_cons] at h
  cases e : g == a with
  | true=>rw [e] at h;simp at e h;subst e;subst h;simp
  | false=>rw [e] at h;simp [ih h]
theorem seat {P : Program} {tbl : List (Nat × Nat)} {ty : Nat -> TypeId} {prog : Nat -> Option au} (hm : P.follows .mixedOrders=true) (hl : laidOutB P=true) (h : Bo P ⟨P,fun g=>tbl.lookup g,ty⟩ prog tbl=true) :
  bQ P ⟨P,fun g=>tbl.lookup g,ty⟩ (fP P ⟨P,fun g=>tbl.lookup g,ty⟩) /\ am prog (fP P ⟨P,fun g=>tbl.lookup g,ty⟩):=by
 have key : ∀ g f,tbl.lookup g=some f -> nR P f=true /\ ∀ nf,prog g=some nf -> fI P ⟨P,fun g=>tbl.lookup g,ty⟩ f nf=true:=fun g f e=>by
  have:=List.all_eq_true.1 h _ (tY e)
  simp only [Bool.and_eq_true] at this
  refine ⟨this.1,fun nf hnf=>?_⟩
  have:=this.2
  rw [hnf] at this
  exact this
 exact qn hm (fun g f e=>(key g f e).1) hl rfl (fun g f nf e hp=>(key g f e).2 nf hp)
end Go.Gv

namespace Go.Gv
open Go.Proofs
def TryzTbl : List (Nat × Nat) := [(0, 2), (533, 3), (3, 5), (564, 6), (25, 7), (4, 8), (565, 9), (566, 10), (458, 11), (33, 12), (567, 13), (568, 14), (569, 15), (570, 16), (8, 17), (571, 18), (15, 19), (164, 20), (47, 22), (23, 23), (19, 24), (24, 25), (453, 26), (603, 27), (455, 28), (604, 29), (45, 30), (46, 31), (44, 32), (605, 33), (29, 34), (11, 35), (606, 36), (471, 37), (598, 38), (607, 39), (608, 40), (120, 41), (609, 42), (488, 43), (462, 44), (194, 45), (467, 46), (48, 47), (49, 48), (610, 49), (611, 50), (612, 51), (34, 52), (613, 53), (614, 54), (615, 55), (144, 56), (616, 57), (30, 58), (39, 59), (32, 60), (40, 61), (168, 62), (169, 63), (170, 64), (171, 65), (52, 66), (53, 68), (43, 69), (175, 70), (181, 71), (51, 72), (636, 73), (315, 74), (495, 75), (35, 76), (499, 77), (184, 78), (122, 79), (54, 80), (507, 81), (199, 82), (508, 83), (200, 84), (201, 85), (55, 86), (637, 87), (638, 88), (639, 89), (640, 90), (31, 91), (58, 92), (172, 93), (173, 94), (174, 95), (176, 96), (177, 97), (178, 98), (72, 99), (179, 100), (180, 101), (182, 102), (60, 103), (61, 104), (59, 105), (333, 106), (511, 107), (62, 108), (63, 109), (64, 110), (490, 111), (429, 112), (70, 113), (71, 114), (183, 115), (89, 116), (185, 117), (73, 118), (74, 119), (75, 120), (76, 121), (77, 122), (339, 123), (91, 124), (503, 125), (504, 126), (78, 127), (79, 128), (88, 129), (90, 130), (92, 131), (514, 132), (515, 133), (516, 134), (517, 135), (518, 136), (519, 137), (96, 138), (97, 139), (98, 140), (99, 141), (100, 142), (101, 143), (102, 144), (522, 145), (366, 146), (523, 147), (411, 148), (524, 149), (103, 152), (104, 153), (105, 154), (106, 155), (107, 156), (108, 157), (109, 158), (110, 159), (111, 160), (299, 163), (112, 165), (113, 166)]
def TryzTys : List (Nat × Nat) := [(0, 9), (1, 4)]
set_option maxRecDepth 100000 in
theorem Tryz_all : Bo Tryz.prog ⟨Tryz.prog, fun g => TryzTbl.lookup g, fun t => (TryzTys.lookup t).getD 0⟩ prog TryzTbl = true := by kernel_rfl
end Go.Gv

namespace Go.Proofs
open Go.Shelf
def Tryz.lays189_ren : Go.Shelf.Ren := ⟨fun | 189 => 146 | 125 => 162 | 257 => 161 | 128 => 177 | 129 => 160 | 294 => 169 | 295 => 170 | 296 => 171 | 297 => 172 | 298 => 173 | 299 => 174 | 216 => 148 | 300 => 175 | 301 => 176 | 328 => 179 | 329 => 180 | 330 => 181 | 331 => 182 | 332 => 183 | 215 => 163 | 343 => 184 | n => n, fun | 28 => 27 | 3 => 3 | 46 => 131 | 0 => 0 | 51 => 147 | 53 => 141 | 4 => 4 | 183 => 196 | 182 => 195 | 131 => 160 | 5 => 5 | 9 => 9 | 218 => 201 | 222 => 205 | 228 => 207 | 229 => 101 | n => n, fun | n => n⟩
theorem Tryz.lays189 : Go.Proofs.Lays.n189 Tryz.prog Tryz.lays189_ren := {
 mixed := by kernel_rfl
 f125 := Tryz.func162.trans (congrArg some (by kernel_rfl))
 f128 := Tryz.func177.trans (congrArg some (by kernel_rfl))
 f129 := Tryz.func160.trans (congrArg some (by kernel_rfl))
 f189 := Tryz.func146.trans (congrArg some (by kernel_rfl))
 f215 := Tryz.func163.trans (congrArg some (by kernel_rfl))
 f216 := Tryz.func148.trans (congrArg some (by kernel_rfl))
 f257 := Tryz.func161.trans (congrArg some (by kernel_rfl))
 f294 := Tryz.func169.trans (congrArg some (by kernel_rfl))
 f295 := Tryz.func170.trans (congrArg some (by kernel_rfl))
 f296 := Tryz.func171.trans (congrArg some (by kernel_rfl))
 f297 := Tryz.func172.trans (congrArg some (by kernel_rfl))
 f298 := Tryz.func173.trans (congrArg some (by kernel_rfl))
 f299 := Tryz.func174.trans (congrArg some (by kernel_rfl))
 f300 := Tryz.func175.trans (congrArg some (by kernel_rfl))
 f301 := Tryz.func176.trans (congrArg some (by kernel_rfl))
 f328 := Tryz.func179.trans (congrArg some (by kernel_rfl))
 f329 := Tryz.func180.trans (congrArg some (by kernel_rfl))
 f330 := Tryz.func181.trans (congrArg some (by kernel_rfl))
 f331 := Tryz.func182.trans (congrArg some (by kernel_rfl))
 f332 := Tryz.func183.trans (congrArg some (by kernel_rfl))
 f343 := Tryz.func184.trans (congrArg some (by kernel_rfl))
 t0 := Tryz.underlying0
 a0 := Tryz.isAgg0
 z0 := Tryz.sizeOf0
 v0 := Tryz.zeroValue0
 t3 := Tryz.underlying3
 a3 := Tryz.isAgg3
 z3 := Tryz.sizeOf3
 v3 := Tryz.zeroValue3
 t4 := Tryz.underlying4
 a4 := Tryz.isAgg4
 z4 := Tryz.sizeOf4
 v4 := Tryz.zeroValue4
 t5 := Tryz.underlying5
 a5 := Tryz.isAgg5
 z5 := Tryz.sizeOf5
 v5 := Tryz.zeroValue5
 t9 := Tryz.underlying9
 a9 := Tryz.isAgg9
 z9 := Tryz.sizeOf9
 v9 := Tryz.zeroValue9
 t28 := Tryz.underlying27
 a28 := Tryz.isAgg27
 z28 := Tryz.sizeOf27
 v28 := Tryz.zeroValue27
 t46 := Tryz.underlying131
 a46 := Tryz.isAgg131
 z46 := Tryz.sizeOf131
 v46 := Tryz.zeroValue131
 t51 := Tryz.underlying147
 a51 := Tryz.isAgg147
 z51 := Tryz.sizeOf147
 v51 := Tryz.zeroValue147
 t53 := Tryz.underlying141
 a53 := Tryz.isAgg141
 z53 := Tryz.sizeOf141
 v53 := Tryz.zeroValue141
 t131 := Tryz.underlying160
 a131 := Tryz.isAgg160
 z131 := Tryz.sizeOf160
 v131 := Tryz.zeroValue160
 t182 := Tryz.underlying195
 a182 := Tryz.isAgg195
 z182 := Tryz.sizeOf195
 v182 := Tryz.zeroValue195
 t183 := Tryz.underlying196
 a183 := Tryz.isAgg196
 z183 := Tryz.sizeOf196
 v183 := Tryz.zeroValue196
 t218 := Tryz.underlying201
 a218 := Tryz.isAgg201
 z218 := Tryz.sizeOf201
 v218 := Tryz.zeroValue201
 t222 := Tryz.underlying205
 a222 := Tryz.isAgg205
 z222 := Tryz.sizeOf205
 v222 := Tryz.zeroValue205
 t228 := Tryz.underlying207
 a228 := Tryz.isAgg207
 z228 := Tryz.sizeOf207
 v228 := Tryz.zeroValue207
 t229 := Tryz.underlying101
 a229 := Tryz.isAgg101
 z229 := Tryz.sizeOf101
 v229 := Tryz.zeroValue101 }
def Tryz.laysNm220_ren : Go.Shelf.Ren := ⟨fun | 20 => 147 | n => n, fun | 22 => 27 | 3 => 3 | 4 => 4 | 0 => 0 | n => n, fun | n => n⟩
theorem Tryz.laysNm220 : Go.Proofs.Lays2.n20 Tryz.prog Tryz.laysNm220_ren := {
 mixed := by kernel_rfl
 f20 := Tryz.func147.trans (congrArg some (by kernel_rfl))
 t0 := Tryz.underlying0
 a0 := Tryz.isAgg0
 z0 := Tryz.sizeOf0
 v0 := Tryz.zeroValue0
 t3 := Tryz.underlying3
 a3 := Tryz.isAgg3
 z3 := Tryz.sizeOf3
 v3 := Tryz.zeroValue3
 t4 := Tryz.underlying4
 a4 := Tryz.isAgg4
 z4 := Tryz.sizeOf4
 v4 := Tryz.zeroValue4
 t22 := Tryz.underlying27
 a22 := Tryz.isAgg27
 z22 := Tryz.sizeOf27
 v22 := Tryz.zeroValue27
 i3 := by kernel_rfl }
def Tryz.laysNm221_ren : Go.Shelf.Ren := ⟨fun | 21 => 137 | 27 => 150 | 28 => 151 | 35 => 164 | 39 => 178 | n => n, fun | 22 => 27 | 3 => 3 | 4 => 4 | 0 => 0 | n => n, fun | n => n⟩
theorem Tryz.laysNm221 : Go.Proofs.Lays2.n21 Tryz.prog Tryz.laysNm221_ren := {
 mixed := by kernel_rfl
 f21 := Tryz.func137.trans (congrArg some (by kernel_rfl))
 f27 := Tryz.func150.trans (congrArg some (by kernel_rfl))
 f28 := Tryz.func151.trans (congrArg some (by kernel_rfl))
 f35 := Tryz.func164.trans (congrArg some (by kernel_rfl))
 f39 := Tryz.func178.trans (congrArg some (by kernel_rfl))
 t0 := Tryz.underlying0
 a0 := Tryz.isAgg0
 z0 := Tryz.sizeOf0
 v0 := Tryz.zeroValue0
 t3 := Tryz.underlying3
 a3 := Tryz.isAgg3
 z3 := Tryz.sizeOf3
 v3 := Tryz.zeroValue3
 t4 := Tryz.underlying4
 a4 := Tryz.isAgg4
 z4 := Tryz.sizeOf4
 v4 := Tryz.zeroValue4
 t22 := Tryz.underlying27
 a22 := Tryz.isAgg27
 z22 := Tryz.sizeOf27
 v22 := Tryz.zeroValue27
 i3 := by kernel_rfl }
end Go.Proofs

namespace Go.Gv
open Go.Sort
section
variable {P : Program} {F : Fid} {α : Type} [Inhabited α]
def jG (encD : α -> D) (d : Array α) : List (List D):=d.toList.map fun x=>[encD x]
theorem nr {f : FuncId} (enc : α -> Value) (encD : α -> D) (hflat : ∀ M x u,ae F M (encD x) u -> u=enc x) (hrep : ∀ M x,ae F M (encD x) (enc x)) (d d' : Array α) (hsz : d'.size=d.size) (ds : List D)
  (hnone : d.size=0 -> ∀ (M : Mem) (w : World) (vs : List Value) (A : Option Addr),(∀ p v,M p=some v -> w.cell? p=some v) -> ay F M ds vs -> Calls P f (.slice A 0 0::vs).toArray w fun e w'=>e=.returned (.tuple #[]) /\ ∃ n os,w'=grow (Sort.ahead w n) os)
  (hrun : ∀ (M : Mem) (w : World) (vs : List Value) (blk off cap : Nat),(∀ p v,M p=some v -> w.cell? p=some v) -> (∀ p : Addr,p.block=blk -> M p=none) -> ay F M ds vs -> Holds enc w blk off d -> blk < w.heap.size ->
   Calls P f (.slice (some ⟨blk,off,none⟩) d.size cap::vs).toArray w fun e w'=>e=.returned (.tuple #[]) /\ ∃ n os,w'=grow (putRow enc (Sort.ahead w n) blk off d') os) : u3 P F f 1 (jG encD d) ds (jG encD d'):=by
 intro M w vs hh r
 have hl : (jG encD d).length=d.size:=by simp [jG]
 refine ⟨fun e A=>?_,fun b o T us cap hM hb hcell hcap hle hu hc=>?_⟩
 ·have h0 : d.size=0:=by rw [<- hl,e];rfl
  refine (hnone h0 M w vs A hh r).mono ?_
  rintro e0 w' ⟨rfl,n,os,rfl⟩
  exact ⟨rfl,rfl,rfl,rfl,by simp [grow,Sort.ahead],fun k hk=>by simp only [grow,Sort.ahead];rw [Array.getElem?_append_left hk],Nat.le_add_right _ _⟩
 ·rw [hl] at hcap ⊢
  have hH : Holds enc w b o d:=fun j hj=>by
   obtain ⟨u,k1,k2⟩:=hc j [encD d[j]] 0 (encD d[j]) (by simp [jG,hj]) rfl
   have:=hflat _ _ _ k2
   subst this
   have e1 : d[j]! = d[j]:=getElem!_pos d j hj
   rw [e1]
   have k3 : us[o + j]? = some (enc d[j]):=by simpa using k1
   constructor
   ·simp [World.cell?,hcell,k3]
   ·simp [World.frozen?,hcell]
  refine (hrun M w vs b o cap hh hM r hH hb).mono ?_
  rintro e0 w' ⟨rfl,n,os,rfl⟩
  have hput : (grow (putRow enc (Sort.ahead w n) b o d') os).heap[b]? = some (.cells (putCells enc o d' us.toArray) T (0,0)):=by
   simp only [grow,putRow,mapBlock,Sort.ahead]
   rw [Array.getElem?_append_left (by simpa using hb),Array.getElem?_modify,if_pos rfl,hcell]
   rfl
  refine ⟨rfl,(putCells enc o d' us.toArray).toList,by rw [Array.toArray_toList];exact hput,by simp [putCells],fun i r off x hi hr=>?_,⟨rfl,rfl,rfl,by simp [grow,putRow,mapBlock,Sort.ahead],fun k hk hne=>?_,Nat.le_add_right _ _⟩⟩
  ·simp only [jG,List.getElem?_map,Option.map_eq_some_iff] at hi
   obtain ⟨y,h1,rfl⟩:=hi
   have ho : off=0:=by
    have:=(List.getElem?_eq_some_iff.1 hr).1
    simpa using this
   subst ho
   simp only [List.getElem?_cons_zero,Option.some.injEq] at hr
   subst hr
   have hi2 : i < d'.size:=by have:=(List.getElem?_eq_some_iff.1 h1).1;simpa using this
   have hy : d'[i]! = y:=by
    rw [getElem!_pos d' i hi2]
    have:=(List.getElem?_eq_some_iff.1 h1).2
    simpa using this
   refine ⟨enc y,?_,hrep _ _⟩
   have hlt : o + i < us.length:=by
    have : o + cap * 1 <= us.length:=hle
    omega
   rw [Nat.mul_one,Nat.add_zero,Array.getElem?_toList]
   simp only [putCells,Array.getElem?_mapIdx,List.getElem?_toArray]
   rw [List.getElem?_eq_getElem hlt]
   simp only [Option.map_some]
   rw [if_pos ⟨by omega,by omega⟩,show o + i - o=i by omega,hy]
  ·simp only [grow,putRow,mapBlock,Sort.ahead]
   rw [Array.getElem?_append_left (by simpa using hk),Array.getElem?_modify,if_neg (Ne.symm hne)]
end
end Go.Gv

namespace Go.Gv
open Go.Sort Go.Proofs Go.Shelf
section
variable {P : Program} {F : Fid} {α : Type} [Inhabited α]
end
end Go.Gv

namespace Go.Gv
open Go.Sort Go.Proofs Go.Shelf
section
variable {P : Program} {F : Fid} {α : Type} [Inhabited α]
end
theorem jn {P : Program} {F : Fid} {g : Nat} {ds : List D} {sz : Nat} (h : fP P F g ds .any [.own sz []]) : fP P F g ds (.sl []) []:=by
 refine ⟨trivial,fun f hf M w vs hh r=>?_⟩
 refine (h.2 f hf M w vs hh r).mono ?_
 have hold : ∀ {w' : World},Bel w w' -> ∀ p v,M p=some v -> w'.cell? p=some v:=fun hb p v hp=>(by rw [hb.cell (World.block_lt_of_cell? w p (hh p v hp))];exact hh p v hp)
 rintro e w' (⟨_,_,A,rfl,hb⟩ | ⟨b,o,T,us,cap,rfl,hb,_,_,hcap,_⟩)
 ·exact ⟨_,M,rfl,hb,fun _ _ h=>h,fun p h1 h2=>absurd h1 h2,hold hb,by simp only [ae];exact ⟨A,0,[],0,rfl,Nat.zero_le _,rfl,by simp,by simp⟩⟩
 ·exact ⟨_,M,rfl,hb,fun _ _ h=>h,fun p h1 h2=>absurd h1 h2,hold hb,by simp only [ae];exact ⟨_,cap,[],0,rfl,Nat.zero_le _,rfl,by simp,by simp⟩⟩
end Go.Gv

namespace Go.Gv
open Go.Sort Go.Proofs Go.Shelf
section
variable {P : Program} {F : Fid} {ρ : Ren}
def yt (zs : List Int) : List (List D):=zs.map fun n=>[.int .i64 n]
theorem iF {zs : List Int} {i : Nat} {r : List D} {off : Nat} {d : D} (h1 : (yt zs)[i]? = some r) (h2 : r[off]? = some d) : ∃ x,zs[i]? = some x /\ off=0 /\ d=.int .i64 x:=by
 simp only [yt,List.getElem?_map,Option.map_eq_some_iff] at h1
 obtain ⟨x,h1,rfl⟩:=h1
 have ho : off=0:=by have:=(List.getElem?_eq_some_iff.1 h2).1;simpa using this
 subst ho
 simp only [List.getElem?_cons_zero,Option.some.injEq] at h2
 exact ⟨x,h1,rfl,h2.symm⟩
theorem mC {M : Mem} {zs : List Int} {us : List Value} {o : Nat} (hc : ∀ i r off d,(yt zs)[i]? = some r -> r[off]? = some d -> ∃ u,us[o + i * 1 + off]? = some u /\ ae F M d u) : ∀ j x,zs[j]? = some x -> us[o + j]? = some (.int .i64 x):=by
 intro j x hj
 obtain ⟨u,k1,k2⟩:=hc j [.int .i64 x] 0 (.int .i64 x) (by simp [yt,hj]) rfl
 simp only [ae] at k2
 subst k2
 simpa using k1
theorem m3 (Ly : Lays.n189 P ρ) {g : Nat} (hg : ∀ f,F g=some f -> f=ρ.f 189) (zs : List Int) (hz : zs.length < 2 ^ 40) :
  fP P F g [.own 1 (zs.map fun n=>[.int .i64 n])] .any [.own 1 ((zs.mergeSort fun x y=>decide (x <= y)).map fun n=>[.int .i64 n]),.nilp]:=by
 refine ⟨trivial,fun f hf=>⟨rfl,?_⟩⟩
 obtain rfl:=hg f hf
 have k:=nr (P:=P) (F:=F) (f:=ρ.f 189) (Value.int .i64) (D.int .i64) (fun M x u h=>by simpa only [ae] using h) (fun M x=>by simp only [ae]) zs.toArray (zs.mergeSort fun x y=>decide (x <= y)).toArray (by simp [List.length_mergeSort]) []
  (fun h M w vs A hh r=>by
   simp only [ay] at r
   subst r
   refine (Any.slices_Sort_int_none Ly A 0 w).mono ?_
   rintro e w' ⟨rfl,rfl⟩
   exact ⟨rfl,0,#[],by simp [grow,Sort.ahead]⟩)
  (fun M w vs blk off cap hh hM r hH hb=>by
   simp only [ay] at r
   subst r
   have:=Any.slices_Sort_int Ly blk off cap zs w hH hb (by omega)
   simpa using this)
 simpa [jG] using k
theorem nq (L : Lays2.n20 P ρ) {g : Nat} (hg : ∀ f,F g=some f -> f=ρ.f 20) (zs : List Int) (hz : zs.length < 2 ^ 40) :
  fP P F g [.own 1 (zs.map fun n=>[.int .i64 n])] .any [.own 1 ((Lib.compact zs).map fun n=>[.int .i64 n]),.nils,.nils]:=by
 refine ⟨trivial,fun f hf=>⟨rfl,?_⟩⟩
 obtain rfl:=hg f hf
 refine ov.to ?_
 intro M w vs hh
 have nil : ∀ {b : Option Nat},li F M w b [] vs -> vs=[]:=fun h=>List.eq_nil_of_length_eq_zero h.1.symm
 refine ⟨fun e A r=>?_,fun b o T us cap r hM hb hcell hcap hmc hle hu hc=>?_⟩
 ·rw [nil r]
  have h0 : zs=[]:=by simpa using e
  subst h0
  refine (Any.slices_Compact_int_empty L A 0 w).mono ?_
  rintro e w' ⟨rfl,rfl⟩
  exact ⟨_,rfl,Bel.refl _,.inl ⟨rfl,A,rfl⟩⟩
 ·rw [nil r]
  have hget:=mC hc
  have hl : (zs.map fun n=>[D.int .i64 n]).length=zs.length:=by simp
  rw [hl] at hcap ⊢
  have hH : Holds (Value.int .i64) w b o zs.toArray:=fun j hj=>by
   have hj2 : j < zs.length:=by simpa using hj
   have e1 : zs.toArray[j]! = zs[j]:=by rw [getElem!_pos zs.toArray j hj];simp
   have k3:=hget j zs[j] (List.getElem?_eq_getElem hj2)
   rw [e1]
   exact ⟨by simp [World.cell?,hcell,k3],by simp [World.frozen?,hcell]⟩
  obtain ⟨d',hd'⟩ : ∃ d',d'=(Lib.compact zs++List.replicate (zs.length - (Lib.compact zs).length) 0).toArray:=⟨_,rfl⟩
  have hcl : (Lib.compact zs).length <= zs.length:=by
   unfold Lib.compact Lib.compactUpTo
   rw [List.length_map]
   have:=List.length_filter_le (Lib.keeps zs.toArray) (List.range zs.length)
   simpa using this
  have hsz : d'.size=zs.length:=by rw [hd'];simp;omega
  refine (Any.slices_Compact_int L b o cap zs w hH (by omega) hcap).mono ?_
  rintro e w' ⟨rfl,q,rfl⟩
  rw [<- hd']
  have hput : (putRow (Value.int .i64) (Sort.ahead w q) b o d').heap[b]? = some (.cells (putCells (Value.int .i64) o d' us.toArray) T (0,0)):=by
   simp only [putRow,mapBlock,Sort.ahead]
   rw [Array.getElem?_modify,if_pos rfl,hcell]
   rfl
  refine ⟨_,rfl,(putCells (Value.int .i64) o d' us.toArray).toList,by rw [Array.toArray_toList];exact hput,by simp [putCells],⟨rfl,rfl,rfl,by simp [putRow,mapBlock,Sort.ahead],fun k hk hne=>?_,Nat.le_add_right _ _⟩,.inl ⟨by simp,by simp;omega,fun i r off d h1 h2=>?_⟩⟩
  ·simp only [putRow,mapBlock,Sort.ahead]
   rw [Array.getElem?_modify,if_neg (Ne.symm hne)]
  ·obtain ⟨x,h3,rfl,rfl⟩:=iF h1 h2
   have hi : i < (Lib.compact zs).length:=(List.getElem?_eq_some_iff.1 h3).1
   refine ⟨.int .i64 x,?_,by simp only [ae]⟩
   have hlt : o + i < us.length:=by omega
   have hy : d'[i]! = x:=by
    rw [getElem!_pos d' i (by omega)]
    have : d'[i]? = some x:=by rw [hd'];simp [List.getElem?_append_left hi,h3]
    exact (Array.getElem?_eq_some_iff.1 this).2
   rw [Nat.mul_one,Nat.add_zero,Array.getElem?_toList]
   simp only [putCells,Array.getElem?_mapIdx,List.getElem?_toArray]
   rw [List.getElem?_eq_getElem hlt]
   simp only [Option.map_some]
   rw [if_pos ⟨by omega,by omega⟩,show o + i - o=i by omega,hy]
theorem lX {zs : List Int} {i : Nat} (hi : i <= zs.length) (x : Int) (j : Nat) : (zs.take i++x::zs.drop i)[j]? = if j < i then zs[j]? else if j=i then some x else zs[j - 1]?:=by
 have hl : (zs.take i).length=i:=by simp;omega
 by_cases h1 : j < i
 ·rw [if_pos h1,List.getElem?_append_left (by omega),List.getElem?_take_of_lt h1]
 ·rw [if_neg h1,List.getElem?_append_right (by omega),hl]
  by_cases h2 : j=i
  ·subst h2;simp
  ·rw [if_neg h2,show j - i=(j - i - 1) + 1 by omega,List.getElem?_cons_succ,List.getElem?_drop]
   congr 1
   omega
theorem o4 (L : Lays2.n21 P ρ) {g : Nat} (hg : ∀ f,F g=some f -> f=ρ.f 21) (zs : List Int) (i : Nat) (x : Int) (hi : i <= zs.length) (hz : zs.length < 2 ^ 40) :
  fP P F g [.own 1 (zs.map fun n=>[.int .i64 n]),.int .i64 i,.own 1 [[.int .i64 x]]] .any [.own 1 ((zs.take i++x::zs.drop i).map fun n=>[.int .i64 n]),.nils,.nils]:=by
 refine ⟨trivial,fun f hf=>⟨rfl,?_⟩⟩
 obtain rfl:=hg f hf
 refine ov.to ?_
 intro M w vs hh
 have args : ∀ {b : Option Nat},li F M w b [.int .i64 i,.own 1 [[.int .i64 x]]] vs -> ∃ (B o : Nat) (T : TypeId) (us : List Value) (cap : Nat),vs=[.int .i64 i,.slice (some ⟨B,o,none⟩) 1 cap] /\ b ≠ some B /\ w.heap[B]? = some (.cells us.toArray T (0,0)) /\ us[o]? = some (.int .i64 x):=by
  rintro b ⟨h1,h2⟩
  match vs,h1 with
  | [v0,v1],_ =>
   have a:=h2 0 _ _ rfl rfl
   have c:=h2 1 _ _ rfl rfl
   simp only [By,ae] at a
   subst a
   rcases c with ⟨e,_⟩ | ⟨B,o,T,us,cap,rfl,h3,h4,h5,h6,h7⟩
   ·cases e
   ·obtain ⟨u,k1,k2⟩:=h7 0 [.int .i64 x] 0 (.int .i64 x) rfl rfl
    simp only [ae] at k2
    subst k2
    exact ⟨B,o,T,us,cap,rfl,h3,h4,by simpa using k1⟩
 have cellOf : ∀ {w : World} {b : Nat} {us : List Value} {T : TypeId} {k : Nat} {v : Value},w.heap[b]? = some (.cells us.toArray T (0,0)) -> us[k]? = some v -> w.cell? ⟨b,k,none⟩=some v:=fun h1 h2=>by simp [World.cell?,h1,h2]
 have frz : ∀ {w : World} {b : Nat} {us : List Value} {T : TypeId} {k : Nat},w.heap[b]? = some (.cells us.toArray T (0,0)) -> w.frozen? ⟨b,k,none⟩=false:=fun h1=>by simp [World.frozen?,h1]
 have one : ∀ v ∈ [Value.int .i64 x],v.oneCell'=true:=by intro v hv;simp at hv;subst hv;rfl
 have hzc : (Value.int .i64 0).cells.size=1:=rfl
 refine ⟨fun e A r=>?_,fun b o T us cap r hM hb hcell hcap hmc hle hu hc=>?_⟩
 ·obtain ⟨B,o,T,us,cap,rfl,_,h4,h5⟩:=args r
  have h0 : zs=[]:=by simpa using e
  subst h0
  have hi0 : i=0:=by simpa using hi
  subst hi0
  refine (Any2.slices_Insert_int_end_grow L A 0 0 B o 1 cap [] [.int .i64 x] w (by omega) (by omega) (by omega) (by omega) rfl rfl (fun _=>rfl) (fun a _ j v hj=>by simp at hj) (fun j v hj=>by
   cases j with
   | zero=>simp at hj;subst hj;exact cellOf h4 (by simpa using h5)
   | succ j=>simp at hj) one).mono ?_
  rintro e w' ⟨rfl,rfl⟩
  obtain ⟨G,hG⟩ : ∃ G,G=grownCap w (0 + 1) 0 (ρ.t 3):=⟨_,rfl⟩
  have g1:=grownCap_ge w (0 + 1) 0 (ρ.t 3)
  have g2:=grownCap_le_maxLen w (0 + 1) 0 (ρ.t 3) (by decide)
  rw [<- hG] at g1 g2 ⊢
  refine ⟨_,rfl,Bel.drewAlloc _ _,.inr ⟨w.heap.size,0,ρ.t 3,(([]++[Value.int .i64 x]).toArray++Builtin.zeroCells (Value.int .i64 0).cells (G - (0 + 1))).toList,G,by simp,Nat.le_refl _,?_,by simpa using g1,⟨?_,g2⟩,fun j r' off d h1 h2=>?_⟩⟩
  ·rw [Array.toArray_toList];exact heap_alloc_new w.drew _
  ·simp [size_zeroCells,hzc];omega
  ·obtain ⟨y,h3,rfl,rfl⟩:=iF h1 h2
   cases j with
   | zero=>simp at h3;subst h3;exact ⟨.int .i64 x,by simp,by simp only [ae]⟩
   | succ j=>simp at h3
 ·obtain ⟨B,o',T',us',cap',rfl,hne,h4,h5⟩:=args r
  have hBb : B ≠ b:=fun e=>hne (by rw [e])
  have hget:=mC hc
  have hl : (zs.map fun n=>[D.int .i64 n]).length=zs.length:=by simp
  have hlr : ((zs.take i++x::zs.drop i).map fun n=>[D.int .i64 n]).length=zs.length + 1:=by simp;omega
  rw [hl] at hcap ⊢
  rw [hlr]
  have hcs : ∀ j v,(zs.map (Value.int .i64))[j]? = some v -> w.cell? ⟨b,o + j,none⟩=some v:=fun j v hj=>by
   rw [List.getElem?_map,Option.map_eq_some_iff] at hj
   obtain ⟨y,hj,rfl⟩:=hj
   exact cellOf hcell (hget j y hj)
  have hvs : ∀ j v,[Value.int .i64 x][j]? = some v -> w.cell? ⟨B,o' + j,none⟩=some v:=fun j v hj=>by
   cases j with
   | zero=>simp at hj;subst hj;exact cellOf h4 (by simpa using h5)
   | succ j=>simp at hj
  have h1c : ∀ v ∈ zs.map (Value.int .i64),v.oneCell'=true:=by
   intro v hv
   obtain ⟨y,_,rfl⟩:=List.mem_map.1 hv
   rfl
  have hus : o + cap <= us.length:=by simpa using hle
  have here : ∀ j,j < zs.length + 1 -> zs.length + 1 <= cap -> (w.cell? ⟨b,o + j,none⟩).isSome=true:=fun j hj hr=>by
   have hlt : o + j < us.length:=by omega
   rw [cellOf hcell (List.getElem?_eq_getElem hlt)];rfl
  by_cases hroom : zs.length + 1 <= cap
  ·-- in place
   have fin : ∀ (w' : World) (us2 : List Value) (n : Nat),us2.length=us.length -> w'.heap[b]? = some (.cells us2.toArray T (0,0)) -> (∀ k,k ≠ b -> w'.heap[k]? = w.heap[k]?) -> w'.heap.size=w.heap.size -> w'.os=w.os -> w'.tape=w.tape -> w'.output=w.output -> w'.drawn=w.drawn + n ->
     (∀ j y,(zs.take i++x::zs.drop i)[j]? = some y -> us2[o + j]? = some (.int .i64 y)) ->
     ∃ v,Ending.returned (Value.slice (some ⟨b,o,none⟩) (zs.length + 1) cap)=.returned v /\ ∃ us2 : List Value,w'.heap[b]? = some (.cells us2.toArray T (0,0)) /\ us2.length=us.length /\ Ch (fun k=>k=b) w w' /\
      ((v=.slice (some ⟨b,o,none⟩) (zs.length + 1) cap /\ zs.length + 1 <= cap /\ ∀ i' r off d,((zs.take i++x::zs.drop i).map fun n=>[D.int .i64 n])[i']? = some r -> r[off]? = some d -> ∃ u,us2[o + i' * 1 + off]? = some u /\ ae F M d u) \/ dO F M w w' 1 ((zs.take i++x::zs.drop i).map fun n=>[D.int .i64 n]) v):=by
    intro w' us2 n e1 e2 e3 e4 e5 e6 e7 e8 e9
    refine ⟨_,rfl,us2,e2,e1,⟨e5,e6,e7,Nat.le_of_eq e4.symm,fun k _ hk=>e3 k hk,by omega⟩,.inl ⟨rfl,hroom,fun j r' off d h1 h2=>?_⟩⟩
    obtain ⟨y,h3,rfl,rfl⟩:=iF h1 h2
    exact ⟨.int .i64 y,by simpa using e9 j y h3,by simp only [ae]⟩
   rcases Nat.lt_or_eq_of_le hi with hlt | heq
   ·refine (Any2.slices_Insert_int_shift L b o zs.length cap i B o' 1 cap' (zs.map (Value.int .i64)) [.int .i64 x] w hlt (by omega) hroom hmc hBb (by simp) rfl hcs (fun j hj=>here j hj hroom) (fun j _=>frz hcell) hvs h1c one T' T us'.length us.length
     (by simp [World.shape?,h4]) (by simp [World.shape?,hcell]) (by omega) (frz h4) (frz h4)).mono ?_
    rintro e w' ⟨rfl,rfl⟩
    have hdl : ((zs.map (Value.int .i64)).drop i).length=zs.length - i:=by simp
    obtain ⟨s1,s2,s3,s4,s5,s6,s7⟩:=bS b T ((zs.map (Value.int .i64)).drop i) (o + (i + 1)) us w.drew (by exact hcell) (by rw [hdl];omega)
    obtain ⟨us1,hu1⟩ : ∃ us1,us1=us.take (o + (i + 1))++(zs.map (Value.int .i64)).drop i++us.drop (o + (i + 1) + ((zs.map (Value.int .i64)).drop i).length):=⟨_,rfl⟩
    rw [<- hu1] at s1
    have hl1 : us1.length=us.length:=by rw [hu1];simp;omega
    obtain ⟨t1,t2,t3,t4,t5,t6,t7⟩:=bS b T [Value.int .i64 x] (o + i) us1 _ s1 (by simp;omega)
    have g1:=fun y=>cv (vs:=us) (us:=(zs.map (Value.int .i64)).drop i) (q:=o + (i + 1)) (n:=zs.length - i) (x:=y) hdl (by omega)
    have g2:=fun y=>cv (vs:=us1) (us:=[Value.int .i64 x]) (q:=o + i) (n:=1) (x:=y) rfl (by omega)
    rw [hdl] at hu1
    rw [<- hu1] at g1
    refine fin _ _ 1 (by simp;omega) t1 (fun k hk=>(t2 k hk).trans (s2 k hk)) (t3.trans s3) (t4.trans s4) (t5.trans s5) (t6.trans s6) (t7.trans s7) (fun j y hj=>?_)
    have hjl : j < zs.length + 1:=by have:=(List.getElem?_eq_some_iff.1 hj).1;simp at this;omega
    rw [lX hi] at hj
    show (us1.take (o + i)++[Value.int .i64 x]++us1.drop (o + i + 1))[o + j]? = _
    rw [g2]
    by_cases c1 : j < i
    ·rw [if_pos c1] at hj
     rw [if_neg (by omega),g1,if_neg (by omega)]
     exact hget j y hj
    ·rw [if_neg c1] at hj
     by_cases c2 : j=i
     ·subst c2
      rw [if_pos rfl] at hj
      rw [if_pos (by omega)]
      cases hj
      simp
     ·rw [if_neg c2] at hj
      rw [if_neg (by omega),g1,if_pos (by omega),List.getElem?_drop,show i + (o + j - (o + (i + 1)))=j - 1 by omega,List.getElem?_map,hj]
      rfl
   ·subst heq
    refine (Any2.slices_Insert_int_end_room L b o zs.length cap B o' 1 cap' [.int .i64 x] w (by omega) hroom hmc rfl (fun j hj=>by
     have:=here (zs.length + j) (by omega) hroom
     rwa [<- Nat.add_assoc] at this) (fun j _=>frz hcell) hvs one).mono ?_
    rintro e w' ⟨rfl,rfl⟩
    obtain ⟨t1,t2,t3,t4,t5,t6,t7⟩:=bS b T [Value.int .i64 x] (o + zs.length) us w hcell (by simp;omega)
    have g2:=fun y=>cv (vs:=us) (us:=[Value.int .i64 x]) (q:=o + zs.length) (n:=1) (x:=y) rfl (by omega)
    refine fin _ _ 0 (by simp;omega) t1 t2 t3 t4 t5 t6 t7 (fun j y hj=>?_)
    have hjl : j < zs.length + 1:=by have:=(List.getElem?_eq_some_iff.1 hj).1;simp at this;omega
    rw [lX (Nat.le_refl _)] at hj
    show (us.take (o + zs.length)++[Value.int .i64 x]++us.drop (o + zs.length + 1))[o + j]? = _
    rw [g2]
    by_cases c1 : j < zs.length
    ·rw [if_pos c1] at hj
     rw [if_neg (by omega)]
     exact hget j y hj
    ·have c2 : j=zs.length:=by omega
     rw [if_neg c1,if_pos c2] at hj
     rw [if_pos (by omega)]
     cases hj
     rw [c2]
     simp
  ·-- a new row
   have hroom' : cap < zs.length + 1:=by omega
   obtain ⟨G,hG⟩ : ∃ G,G=grownCap w (zs.length + 1) cap (ρ.t 3):=⟨_,rfl⟩
   have g1:=grownCap_ge w (zs.length + 1) cap (ρ.t 3)
   have g2:=grownCap_le_maxLen w (zs.length + 1) cap (ρ.t 3) (by unfold maxLen;omega)
   rcases Nat.lt_or_eq_of_le hi with hlt | heq
   ·refine (Any2.slices_Insert_int_grow L b o zs.length cap i B o' 1 cap' (zs.map (Value.int .i64)) [.int .i64 x] w hlt (by omega) hcap hroom' (by omega) (by simp) rfl hcs hvs h1c one).mono ?_
    rintro e w' ⟨rfl,rfl⟩
    rw [<- hG] at g1 g2 ⊢
    have hdl : ((zs.map (Value.int .i64)).drop i).length=zs.length - i:=by simp
    obtain ⟨row,hrow⟩ : ∃ row : Array Value,row=((zs.map (Value.int .i64)).take i).toArray++Builtin.zeroCells (Value.int .i64 0).cells (zs.length + 1 - i)++Builtin.zeroCells (Value.int .i64 0).cells (G - (zs.length + 1)):=⟨_,rfl⟩
    rw [<- hrow]
    have hrl : row.toList.length=G:=by rw [hrow];simp [size_zeroCells,hzc];omega
    have hnew : ((w.alloc (.cells row (ρ.t 3))).drew).heap[w.heap.size]? = some (.cells row.toList.toArray (ρ.t 3) (0,0)):=by
     rw [Array.toArray_toList];exact heap_alloc_new w _
    obtain ⟨s1,s2,s3,s4,s5,s6,s7⟩:=bS w.heap.size (ρ.t 3) [Value.int .i64 x] i row.toList ((w.alloc (.cells row (ρ.t 3))).drew) hnew (by simp only [List.length_singleton];omega)
    obtain ⟨us1,hu1⟩ : ∃ us1,us1=row.toList.take i++[Value.int .i64 x]++row.toList.drop (i + [Value.int .i64 x].length):=⟨_,rfl⟩
    rw [<- hu1] at s1
    have hl1 : us1.length=G:=by rw [hu1];simp only [List.length_append,List.length_take,List.length_drop,List.length_singleton,hrl];omega
    obtain ⟨t1,t2,t3,t4,t5,t6,t7⟩:=bS w.heap.size (ρ.t 3) ((zs.map (Value.int .i64)).drop i) (i + 1) us1 ((((w.alloc (.cells row (ρ.t 3))).drew).setCells w.heap.size i [Value.int .i64 x]).drew) s1 (by rw [hdl];omega)
    have gA:=fun y=>cv (vs:=row.toList) (us:=[Value.int .i64 x]) (q:=i) (n:=1) (x:=y) rfl (by omega)
    have gB:=fun y=>cv (vs:=us1) (us:=(zs.map (Value.int .i64)).drop i) (q:=i + 1) (n:=zs.length - i) (x:=y) hdl (by omega)
    have ex : ∀ k,k ≠ w.heap.size -> (w.alloc (.cells row (ρ.t 3))).heap[k]? = w.heap[k]?:=fun k hk=>by
     simp only [World.alloc]
     rw [Array.getElem?_push,if_neg hk]
    have exs : (w.alloc (.cells row (ρ.t 3))).heap.size=w.heap.size + 1:=by simp only [World.alloc,Array.size_push]
    have hall : ∀ k,k ≠ w.heap.size -> (((((w.alloc (.cells row (ρ.t 3))).drew).setCells w.heap.size i [Value.int .i64 x]).drew).setCells w.heap.size (i + 1) ((zs.map (Value.int .i64)).drop i)).heap[k]? = w.heap[k]?:=fun k hk=>(t2 k hk).trans ((s2 k hk).trans (ex k hk))
    refine ⟨_,rfl,us,(hall b (by omega)).trans hcell,rfl,⟨t4.trans s4,t5.trans s5,t6.trans s6,?_,fun k hk _=>hall k (by omega),?_⟩,.inr ⟨w.heap.size,0,ρ.t 3,_,G,by rw [hlr],Nat.le_refl _,t1,by rw [hlr];exact g1,⟨?_,g2⟩,fun j r' off d h1 h2=>?_⟩⟩
    ·have : ((((w.alloc (.cells row (ρ.t 3))).drew).setCells w.heap.size i [Value.int .i64 x]).drew).heap.size=w.heap.size + 1:=s3.trans exs
     rw [t3,this];omega
    ·rw [t7]
     show w.drawn <= (((w.alloc (.cells row (ρ.t 3))).drew).setCells w.heap.size i [Value.int .i64 x]).drawn + 1
     rw [s7]
     show w.drawn <= w.drawn + 1 + 1
     omega
    ·simp only [List.length_append,List.length_take,List.length_drop,hl1,List.length_map];omega
    ·obtain ⟨y,hj,rfl,rfl⟩:=iF h1 h2
     refine ⟨.int .i64 y,?_,by simp only [ae]⟩
     have hjl : j < zs.length + 1:=by have:=(List.getElem?_eq_some_iff.1 hj).1;simp at this;omega
     rw [lX hi] at hj
     rw [Nat.zero_add,Nat.mul_one,Nat.add_zero,hdl,gB]
     by_cases c1 : j < i
     ·rw [if_pos c1] at hj
      rw [if_neg (by omega),hu1]
      show (row.toList.take i++[Value.int .i64 x]++row.toList.drop (i + 1))[j]? = _
      rw [gA,if_neg (by omega),hrow]
      have hj2 : j < zs.length:=(List.getElem?_eq_some_iff.1 hj).1
      simp only [Array.toList_append,List.append_assoc]
      rw [List.getElem?_append_left (by simp;omega)]
      simp only [List.getElem?_take_of_lt c1,List.getElem?_map,hj]
      rfl
     ·rw [if_neg c1] at hj
      by_cases c2 : j=i
      ·subst c2
       rw [if_pos rfl] at hj
       rw [if_neg (by omega),hu1]
       show (row.toList.take j++[Value.int .i64 x]++row.toList.drop (j + 1))[j]? = _
       rw [gA,if_pos (by omega)]
       cases hj
       simp
      ·rw [if_neg c2] at hj
       rw [if_pos (by omega),List.getElem?_drop,show i + (j + 0 - (i + 1))=j - 1 by omega,List.getElem?_map,hj]
       rfl
   ·subst heq
    refine (Any2.slices_Insert_int_end_grow L (some ⟨b,o,none⟩) zs.length cap B o' 1 cap' (zs.map (Value.int .i64)) [.int .i64 x] w (by omega) hcap hroom' (by omega) (by simp) rfl (fun e=>by cases e) (fun a ha j v hj=>by
     cases ha
     rw [Addr.add_lit]
     exact hcs j v hj) hvs one).mono ?_
    rintro e w' ⟨rfl,rfl⟩
    rw [<- hG] at g1 g2 ⊢
    obtain ⟨row,hrow⟩ : ∃ row : Array Value,row=(zs.map (Value.int .i64)++[Value.int .i64 x]).toArray++Builtin.zeroCells (Value.int .i64 0).cells (G - (zs.length + 1)):=⟨_,rfl⟩
    rw [<- hrow]
    have hrl : row.toList.length=G:=by rw [hrow];simp [size_zeroCells,hzc];omega
    have hbel:=Bel.drewAlloc w (.cells row (ρ.t 3))
    refine ⟨_,rfl,us,(hbel.block b hb).trans hcell,rfl,Ch.of_below hbel _,.inr ⟨w.heap.size,0,ρ.t 3,row.toList,G,by rw [hlr],Nat.le_refl _,by rw [Array.toArray_toList];exact heap_alloc_new w.drew _,by rw [hlr];exact g1,⟨by omega,g2⟩,fun j r' off d h1 h2=>?_⟩⟩
    obtain ⟨y,hj,rfl,rfl⟩:=iF h1 h2
    refine ⟨.int .i64 y,?_,by simp only [ae]⟩
    have hjl : j < zs.length + 1:=by have:=(List.getElem?_eq_some_iff.1 hj).1;simp at this;omega
    rw [lX (Nat.le_refl _)] at hj
    rw [Nat.zero_add,Nat.mul_one,Nat.add_zero,hrow]
    simp only [Array.toList_append]
    rw [List.getElem?_append_left (by simp;omega)]
    by_cases c1 : j < zs.length
    ·rw [if_pos c1] at hj
     rw [List.getElem?_append_left (by simpa using c1),List.getElem?_map,hj]
     rfl
    ·have c2 : j=zs.length:=by omega
     rw [if_neg c1,if_pos c2] at hj
     cases hj
     rw [List.getElem?_append_right (by simp;omega)]
     simp [c2]
end
end Go.Gv

namespace Go.Gv
structure Tag {α : Type _} (x : α) : Type where
@[simp] theorem NR : isV (.any)=true:=_root_.id rfl
@[simp] theorem NU {k n} : isV (.int k n)=true:=_root_.id rfl
@[simp] theorem JF {b} : isV (.bool b)=true:=_root_.id rfl
@[simp] theorem N1 {s} : isV (.str s)=true:=_root_.id rfl
@[simp] theorem JG : isV (.nilp)=true:=_root_.id rfl
@[simp] theorem JH : isV (.nils)=true:=_root_.id rfl
@[simp] theorem NP {ds} : isV (.agg ds)=true:=_root_.id rfl
@[simp] theorem N5 {ds} : isV (.tup ds)=true:=_root_.id rfl
@[simp] theorem Qk {es} : isV (.sl es)=true:=_root_.id rfl
@[simp] theorem NX {ds} : isV (.ptr ds)=true:=_root_.id rfl
@[simp] theorem Qi {g ds} : isV (.fn g ds)=true:=_root_.id rfl
@[simp] theorem NW {sz es} : isV (.own sz es)=false:=_root_.id rfl
@[simp] theorem NS {sz es} : isV (.blk sz es)=false:=_root_.id rfl
@[simp] theorem Qj {kt et ks vs} : isV (.mp kt et ks vs)=false:=_root_.id rfl
@[simp] theorem NV {b} : isV (.mrf b)=false:=_root_.id rfl
@[simp] theorem NZ {p k n} : isV (.ref p k n)=false:=_root_.id rfl
@[simp] theorem NO {p i off} : isV (.adr p i off)=false:=_root_.id rfl
@[simp] theorem NQ {ds} : isV (.agx ds)=false:=_root_.id rfl
@[simp] theorem N2 {ds} : isV (.tpx ds)=false:=_root_.id rfl
@[simp] theorem NY {ds} : isV (.ptx ds)=false:=_root_.id rfl
@[simp] theorem NT {g ds} : isV (.fnx g ds)=false:=_root_.id rfl
@[simp] theorem MH : isK (.any)=false:=_root_.id rfl
@[simp] theorem MK {k n} : isK (.int k n)=true:=_root_.id rfl
@[simp] theorem Jt {b} : isK (.bool b)=true:=_root_.id rfl
@[simp] theorem MR {s} : isK (.str s)=true:=_root_.id rfl
@[simp] theorem Ju : isK (.nilp)=true:=_root_.id rfl
@[simp] theorem Jv : isK (.nils)=true:=_root_.id rfl
@[simp] theorem MF {ds} : isK (.agg ds)=true:=_root_.id rfl
@[simp] theorem MT {ds} : isK (.tup ds)=true:=_root_.id rfl
@[simp] theorem PY {es} : isK (.sl es)=true:=_root_.id rfl
@[simp] theorem MN {ds} : isK (.ptr ds)=true:=_root_.id rfl
@[simp] theorem PW {g ds} : isK (.fn g ds)=true:=_root_.id rfl
@[simp] theorem MM {sz es} : isK (.own sz es)=false:=_root_.id rfl
@[simp] theorem MI {sz es} : isK (.blk sz es)=false:=_root_.id rfl
@[simp] theorem PX {kt et ks vs} : isK (.mp kt et ks vs)=false:=_root_.id rfl
@[simp] theorem ML {b} : isK (.mrf b)=false:=_root_.id rfl
@[simp] theorem MP {p k n} : isK (.ref p k n)=false:=_root_.id rfl
@[simp] theorem ME {p i off} : isK (.adr p i off)=false:=_root_.id rfl
@[simp] theorem MG {ds} : isK (.agx ds)=false:=_root_.id rfl
@[simp] theorem MS {ds} : isK (.tpx ds)=false:=_root_.id rfl
@[simp] theorem MO {ds} : isK (.ptx ds)=false:=_root_.id rfl
@[simp] theorem MJ {g ds} : isK (.fnx g ds)=false:=_root_.id rfl
@[simp] theorem Nk : isP (.any)=true:=_root_.id rfl
@[simp] theorem Nn {k n} : isP (.int k n)=true:=_root_.id rfl
@[simp] theorem Jz {b} : isP (.bool b)=true:=_root_.id rfl
@[simp] theorem Nv {s} : isP (.str s)=true:=_root_.id rfl
@[simp] theorem JA : isP (.nilp)=true:=_root_.id rfl
@[simp] theorem JB : isP (.nils)=true:=_root_.id rfl
@[simp] theorem Ni {ds} : isP (.agg ds)=true:=_root_.id rfl
@[simp] theorem Nx {ds} : isP (.tup ds)=true:=_root_.id rfl
@[simp] theorem Qc {es} : isP (.sl es)=true:=_root_.id rfl
@[simp] theorem Nr {ds} : isP (.ptr ds)=true:=_root_.id rfl
@[simp] theorem Qa {g ds} : isP (.fn g ds)=true:=_root_.id rfl
@[simp] theorem Nq {sz es} : isP (.own sz es)=false:=_root_.id rfl
@[simp] theorem Nl {sz es} : isP (.blk sz es)=false:=_root_.id rfl
@[simp] theorem Qb {kt et ks vs} : isP (.mp kt et ks vs)=false:=_root_.id rfl
@[simp] theorem Np {b} : isP (.mrf b)=true:=_root_.id rfl
@[simp] theorem Nt {p k n} : isP (.ref p k n)=true:=_root_.id rfl
@[simp] theorem Nh {p i off} : isP (.adr p i off)=true:=_root_.id rfl
@[simp] theorem Nj {ds} : isP (.agx ds)=false:=_root_.id rfl
@[simp] theorem Nw {ds} : isP (.tpx ds)=false:=_root_.id rfl
@[simp] theorem Ns {ds} : isP (.ptx ds)=false:=_root_.id rfl
@[simp] theorem Nm {g ds} : isP (.fnx g ds)=false:=_root_.id rfl
@[simp] theorem NB : isS (.any)=true:=_root_.id rfl
@[simp] theorem Qh : isV (.bb)=true:=_root_.id rfl
@[simp] theorem Qd : isS (.bb)=true:=_root_.id rfl
@[simp] theorem P9 : isP (.bb)=true:=_root_.id rfl
@[simp] theorem PP : isB (.bb)=false:=_root_.id rfl
@[simp] theorem Iy : cB (.bb)=false:=_root_.id rfl
@[simp] theorem Gm : bv (.bb)=[]:=_root_.id rfl
@[simp] theorem CO : aN (.bb)=[]:=_root_.id rfl
@[simp] theorem NE {k n} : isS (.int k n)=true:=_root_.id rfl
@[simp] theorem JC {b} : isS (.bool b)=true:=_root_.id rfl
@[simp] theorem NL {s} : isS (.str s)=true:=_root_.id rfl
@[simp] theorem JD : isS (.nilp)=true:=_root_.id rfl
@[simp] theorem JE : isS (.nils)=true:=_root_.id rfl
@[simp] theorem Nz {ds} : isS (.agg ds)=true:=_root_.id rfl
@[simp] theorem NN {ds} : isS (.tup ds)=true:=_root_.id rfl
@[simp] theorem Qg {es} : isS (.sl es)=true:=_root_.id rfl
@[simp] theorem NH {ds} : isS (.ptr ds)=true:=_root_.id rfl
@[simp] theorem Qe {g ds} : isS (.fn g ds)=true:=_root_.id rfl
@[simp] theorem NG {sz es} : isS (.own sz es)=false:=_root_.id rfl
@[simp] theorem NC {sz es} : isS (.blk sz es)=false:=_root_.id rfl
@[simp] theorem Qf {kt et ks vs} : isS (.mp kt et ks vs)=false:=_root_.id rfl
@[simp] theorem NF {b} : isS (.mrf b)=true:=_root_.id rfl
@[simp] theorem NJ {p k n} : isS (.ref p k n)=true:=_root_.id rfl
@[simp] theorem Ny {p i off} : isS (.adr p i off)=true:=_root_.id rfl
@[simp] theorem NA {ds} : isS (.agx ds)=ds.all isP:=_root_.id rfl
@[simp] theorem NM {ds} : isS (.tpx ds)=ds.all isP:=_root_.id rfl
@[simp] theorem NI {ds} : isS (.ptx ds)=ds.all isP:=_root_.id rfl
@[simp] theorem ND {g ds} : isS (.fnx g ds)=ds.all isP:=_root_.id rfl
@[simp] theorem II : aq (.any)=false:=_root_.id rfl
@[simp] theorem IL {k n} : aq (.int k n)=true:=_root_.id rfl
@[simp] theorem Fy {b} : aq (.bool b)=true:=_root_.id rfl
@[simp] theorem IT {s} : aq (.str s)=true:=_root_.id rfl
@[simp] theorem Fz : aq (.nilp)=true:=_root_.id rfl
@[simp] theorem FA : aq (.nils)=true:=_root_.id rfl
@[simp] theorem IG {ds} : aq (.agg ds)=false:=_root_.id rfl
@[simp] theorem IV {ds} : aq (.tup ds)=false:=_root_.id rfl
@[simp] theorem Mi {es} : aq (.sl es)=true:=_root_.id rfl
@[simp] theorem IP {ds} : aq (.ptr ds)=true:=_root_.id rfl
@[simp] theorem Mg {g ds} : aq (.fn g ds)=true:=_root_.id rfl
@[simp] theorem IO {sz es} : aq (.own sz es)=false:=_root_.id rfl
@[simp] theorem IJ {sz es} : aq (.blk sz es)=false:=_root_.id rfl
@[simp] theorem Mh {kt et ks vs} : aq (.mp kt et ks vs)=false:=_root_.id rfl
@[simp] theorem IM {b} : aq (.mrf b)=false:=_root_.id rfl
@[simp] theorem IR {p k n} : aq (.ref p k n)=false:=_root_.id rfl
@[simp] theorem IF {p i off} : aq (.adr p i off)=false:=_root_.id rfl
@[simp] theorem IH {ds} : aq (.agx ds)=false:=_root_.id rfl
@[simp] theorem IU {ds} : aq (.tpx ds)=false:=_root_.id rfl
@[simp] theorem IQ {ds} : aq (.ptx ds)=false:=_root_.id rfl
@[simp] theorem IK {g ds} : aq (.fnx g ds)=false:=_root_.id rfl
@[simp] theorem MX : isO (.any)=false:=_root_.id rfl
@[simp] theorem M6 {k n} : isO (.int k n)=false:=_root_.id rfl
@[simp] theorem Jw {b} : isO (.bool b)=false:=_root_.id rfl
@[simp] theorem Nd {s} : isO (.str s)=false:=_root_.id rfl
@[simp] theorem Jx : isO (.nilp)=false:=_root_.id rfl
@[simp] theorem Jy : isO (.nils)=false:=_root_.id rfl
@[simp] theorem MV {ds} : isO (.agg ds)=false:=_root_.id rfl
@[simp] theorem Ng {ds} : isO (.tup ds)=false:=_root_.id rfl
@[simp] theorem P8 {es} : isO (.sl es)=false:=_root_.id rfl
@[simp] theorem M9 {ds} : isO (.ptr ds)=false:=_root_.id rfl
@[simp] theorem PZ {g ds} : isO (.fn g ds)=false:=_root_.id rfl
@[simp] theorem M8 {sz es} : isO (.own sz es)=true:=_root_.id rfl
@[simp] theorem MY {sz es} : isO (.blk sz es)=false:=_root_.id rfl
@[simp] theorem P0 {kt et ks vs} : isO (.mp kt et ks vs)=false:=_root_.id rfl
@[simp] theorem M7 {b} : isO (.mrf b)=false:=_root_.id rfl
@[simp] theorem Nb {p k n} : isO (.ref p k n)=false:=_root_.id rfl
@[simp] theorem MU {p i off} : isO (.adr p i off)=false:=_root_.id rfl
@[simp] theorem MW {ds} : isO (.agx ds)=false:=_root_.id rfl
@[simp] theorem Nf {ds} : isO (.tpx ds)=false:=_root_.id rfl
@[simp] theorem Na {ds} : isO (.ptx ds)=false:=_root_.id rfl
@[simp] theorem MZ {g ds} : isO (.fnx g ds)=false:=_root_.id rfl
@[simp] theorem IZ : bj (.any)=true:=_root_.id rfl
@[simp] theorem I2 {k n} : bj (.int k n)=true:=_root_.id rfl
@[simp] theorem FB {b} : bj (.bool b)=true:=_root_.id rfl
@[simp] theorem I8 {s} : bj (.str s)=true:=_root_.id rfl
@[simp] theorem FC : bj (.nilp)=true:=_root_.id rfl
@[simp] theorem FD : bj (.nils)=true:=_root_.id rfl
@[simp] theorem IX {ds} : bj (.agg ds)=false:=_root_.id rfl
@[simp] theorem Ja {ds} : bj (.tup ds)=false:=_root_.id rfl
@[simp] theorem Ml {es} : bj (.sl es)=false:=_root_.id rfl
@[simp] theorem I5 {ds} : bj (.ptr ds)=false:=_root_.id rfl
@[simp] theorem Mj {g ds} : bj (.fn g ds)=false:=_root_.id rfl
@[simp] theorem I4 {sz es} : bj (.own sz es)=false:=_root_.id rfl
@[simp] theorem I0 {sz es} : bj (.blk sz es)=false:=_root_.id rfl
@[simp] theorem Mk {kt et ks vs} : bj (.mp kt et ks vs)=false:=_root_.id rfl
@[simp] theorem I3 {b} : bj (.mrf b)=false:=_root_.id rfl
@[simp] theorem I7 {p k n} : bj (.ref p k n)=false:=_root_.id rfl
@[simp] theorem IW {p i off} : bj (.adr p i off)=false:=_root_.id rfl
@[simp] theorem IY {ds} : bj (.agx ds)=false:=_root_.id rfl
@[simp] theorem I9 {ds} : bj (.tpx ds)=false:=_root_.id rfl
@[simp] theorem I6 {ds} : bj (.ptx ds)=false:=_root_.id rfl
@[simp] theorem I1 {g ds} : bj (.fnx g ds)=false:=_root_.id rfl
@[simp] theorem Je : eE (.any)=true:=_root_.id rfl
@[simp] theorem Jh {k n} : eE (.int k n)=true:=_root_.id rfl
@[simp] theorem FE {b} : eE (.bool b)=true:=_root_.id rfl
@[simp] theorem Jn {s} : eE (.str s)=true:=_root_.id rfl
@[simp] theorem FF : eE (.nilp)=true:=_root_.id rfl
@[simp] theorem FG : eE (.nils)=true:=_root_.id rfl
@[simp] theorem Jc {ds} : eE (.agg ds)=ds.all bj:=_root_.id rfl
@[simp] theorem Jp {ds} : eE (.tup ds)=false:=_root_.id rfl
@[simp] theorem Mo {es} : eE (.sl es)=false:=_root_.id rfl
@[simp] theorem Jk {ds} : eE (.ptr ds)=false:=_root_.id rfl
@[simp] theorem Mm {g ds} : eE (.fn g ds)=false:=_root_.id rfl
@[simp] theorem Jj {sz es} : eE (.own sz es)=false:=_root_.id rfl
@[simp] theorem Jf {sz es} : eE (.blk sz es)=false:=_root_.id rfl
@[simp] theorem Mn {kt et ks vs} : eE (.mp kt et ks vs)=false:=_root_.id rfl
@[simp] theorem Ji {b} : eE (.mrf b)=false:=_root_.id rfl
@[simp] theorem Jm {p k n} : eE (.ref p k n)=false:=_root_.id rfl
@[simp] theorem Jb {p i off} : eE (.adr p i off)=false:=_root_.id rfl
@[simp] theorem Jd {ds} : eE (.agx ds)=false:=_root_.id rfl
@[simp] theorem Jo {ds} : eE (.tpx ds)=false:=_root_.id rfl
@[simp] theorem Jl {ds} : eE (.ptx ds)=false:=_root_.id rfl
@[simp] theorem Jg {g ds} : eE (.fnx g ds)=false:=_root_.id rfl
@[simp] theorem Ms : isF (.any)=true:=_root_.id rfl
@[simp] theorem Mv {k n} : isF (.int k n)=true:=_root_.id rfl
@[simp] theorem Jq {b} : isF (.bool b)=true:=_root_.id rfl
@[simp] theorem MB {s} : isF (.str s)=true:=_root_.id rfl
@[simp] theorem Jr : isF (.nilp)=true:=_root_.id rfl
@[simp] theorem Js : isF (.nils)=true:=_root_.id rfl
@[simp] theorem Mq {ds} : isF (.agg ds)=ds.all bj:=_root_.id rfl
@[simp] theorem MD {ds} : isF (.tup ds)=ds.all eE:=_root_.id rfl
@[simp] theorem PV {es} : isF (.sl es)=false:=_root_.id rfl
@[simp] theorem My {ds} : isF (.ptr ds)=false:=_root_.id rfl
@[simp] theorem PT {g ds} : isF (.fn g ds)=false:=_root_.id rfl
@[simp] theorem Mx {sz es} : isF (.own sz es)=false:=_root_.id rfl
@[simp] theorem Mt {sz es} : isF (.blk sz es)=false:=_root_.id rfl
@[simp] theorem PU {kt et ks vs} : isF (.mp kt et ks vs)=false:=_root_.id rfl
@[simp] theorem Mw {b} : isF (.mrf b)=false:=_root_.id rfl
@[simp] theorem MA {p k n} : isF (.ref p k n)=false:=_root_.id rfl
@[simp] theorem Mp {p i off} : isF (.adr p i off)=false:=_root_.id rfl
@[simp] theorem Mr {ds} : isF (.agx ds)=false:=_root_.id rfl
@[simp] theorem MC {ds} : isF (.tpx ds)=false:=_root_.id rfl
@[simp] theorem Mz {ds} : isF (.ptx ds)=false:=_root_.id rfl
@[simp] theorem Mu {g ds} : isF (.fnx g ds)=false:=_root_.id rfl
@[simp] theorem L3 : isB (.any)=false:=_root_.id rfl
@[simp] theorem L6 {k n} : isB (.int k n)=false:=_root_.id rfl
@[simp] theorem IC {b} : isB (.bool b)=false:=_root_.id rfl
@[simp] theorem Md {s} : isB (.str s)=false:=_root_.id rfl
@[simp] theorem ID : isB (.nilp)=false:=_root_.id rfl
@[simp] theorem IE : isB (.nils)=false:=_root_.id rfl
@[simp] theorem LZ {ds} : isB (.agg ds)=false:=_root_.id rfl
@[simp] theorem Mf {ds} : isB (.tup ds)=false:=_root_.id rfl
@[simp] theorem PS {es} : isB (.sl es)=false:=_root_.id rfl
@[simp] theorem L9 {ds} : isB (.ptr ds)=false:=_root_.id rfl
@[simp] theorem PQ {g ds} : isB (.fn g ds)=false:=_root_.id rfl
@[simp] theorem L8 {sz es} : isB (.own sz es)=false:=_root_.id rfl
@[simp] theorem L4 {sz es} : isB (.blk sz es)=true:=_root_.id rfl
@[simp] theorem PR {kt et ks vs} : isB (.mp kt et ks vs)=true:=_root_.id rfl
@[simp] theorem L7 {b} : isB (.mrf b)=false:=_root_.id rfl
@[simp] theorem Mb {p k n} : isB (.ref p k n)=false:=_root_.id rfl
@[simp] theorem LY {p i off} : isB (.adr p i off)=false:=_root_.id rfl
@[simp] theorem L0 {ds} : isB (.agx ds)=false:=_root_.id rfl
@[simp] theorem Me {ds} : isB (.tpx ds)=false:=_root_.id rfl
@[simp] theorem Ma {ds} : isB (.ptx ds)=false:=_root_.id rfl
@[simp] theorem L5 {g ds} : isB (.fnx g ds)=false:=_root_.id rfl
@[simp] theorem Fh : cB (.any)=true:=_root_.id rfl
@[simp] theorem Fk {k n} : cB (.int k n)=false:=_root_.id rfl
@[simp] theorem Cs {b} : cB (.bool b)=false:=_root_.id rfl
@[simp] theorem Fr {s} : cB (.str s)=false:=_root_.id rfl
@[simp] theorem Ct : cB (.nilp)=false:=_root_.id rfl
@[simp] theorem Cu : cB (.nils)=false:=_root_.id rfl
@[simp] theorem Ff {ds} : cB (.agg ds)=false:=_root_.id rfl
@[simp] theorem Ft {ds} : cB (.tup ds)=false:=_root_.id rfl
@[simp] theorem IB {es} : cB (.sl es)=false:=_root_.id rfl
@[simp] theorem Fn {ds} : cB (.ptr ds)=false:=_root_.id rfl
@[simp] theorem Iz {g ds} : cB (.fn g ds)=false:=_root_.id rfl
@[simp] theorem Fm {sz es} : cB (.own sz es)=false:=_root_.id rfl
@[simp] theorem Fi {sz es} : cB (.blk sz es)=false:=_root_.id rfl
@[simp] theorem IA {kt et ks vs} : cB (.mp kt et ks vs)=false:=_root_.id rfl
@[simp] theorem Fl {b} : cB (.mrf b)=false:=_root_.id rfl
@[simp] theorem Fp {p k n} : cB (.ref p k n)=false:=_root_.id rfl
@[simp] theorem Fe {p i off} : cB (.adr p i off)=false:=_root_.id rfl
@[simp] theorem Fg {ds} : cB (.agx ds)=false:=_root_.id rfl
@[simp] theorem Fs {ds} : cB (.tpx ds)=false:=_root_.id rfl
@[simp] theorem Fo {ds} : cB (.ptx ds)=false:=_root_.id rfl
@[simp] theorem Fj {g ds} : cB (.fnx g ds)=false:=_root_.id rfl
@[simp] theorem As : cellsOf (.any)=[.any]:=_root_.id rfl
@[simp] theorem Av {k n} : cellsOf (.int k n)=[.int k n]:=_root_.id rfl
@[simp] theorem xT {b} : cellsOf (.bool b)=[.bool b]:=_root_.id rfl
@[simp] theorem AC {s} : cellsOf (.str s)=[.str s]:=_root_.id rfl
@[simp] theorem xU : cellsOf (.nilp)=[.nilp]:=_root_.id rfl
@[simp] theorem xV : cellsOf (.nils)=[.nils]:=_root_.id rfl
@[simp] theorem Aq {ds} : cellsOf (.agg ds)=ds:=_root_.id rfl
@[simp] theorem AE {ds} : cellsOf (.tup ds)=[.tup ds]:=_root_.id rfl
@[simp] theorem BV {es} : cellsOf (.sl es)=[.sl es]:=_root_.id rfl
@[simp] theorem Ay {ds} : cellsOf (.ptr ds)=[.ptr ds]:=_root_.id rfl
@[simp] theorem BT {g ds} : cellsOf (.fn g ds)=[.fn g ds]:=_root_.id rfl
@[simp] theorem Ax {sz es} : cellsOf (.own sz es)=[.own sz es]:=_root_.id rfl
@[simp] theorem At {sz es} : cellsOf (.blk sz es)=[.blk sz es]:=_root_.id rfl
@[simp] theorem BU {kt et ks vs} : cellsOf (.mp kt et ks vs)=[.mp kt et ks vs]:=_root_.id rfl
@[simp] theorem Aw {b} : cellsOf (.mrf b)=[.mrf b]:=_root_.id rfl
@[simp] theorem AA {p k n} : cellsOf (.ref p k n)=[.ref p k n]:=_root_.id rfl
@[simp] theorem Ap {p i off} : cellsOf (.adr p i off)=[.adr p i off]:=_root_.id rfl
@[simp] theorem Ar {ds} : cellsOf (.agx ds)=[.agx ds]:=_root_.id rfl
@[simp] theorem AD {ds} : cellsOf (.tpx ds)=[.tpx ds]:=_root_.id rfl
@[simp] theorem Az {ds} : cellsOf (.ptx ds)=[.ptx ds]:=_root_.id rfl
@[simp] theorem Au {g ds} : cellsOf (.fnx g ds)=[.fnx g ds]:=_root_.id rfl
@[simp] theorem D1 : ca (.any)=.any:=_root_.id rfl
@[simp] theorem D4 {k n} : ca (.int k n)=.int k n:=_root_.id rfl
@[simp] theorem BE {b} : ca (.bool b)=.bool b:=_root_.id rfl
@[simp] theorem Eb {s} : ca (.str s)=.str s:=_root_.id rfl
@[simp] theorem BF : ca (.nilp)=.nilp:=_root_.id rfl
@[simp] theorem BG : ca (.nils)=.nils:=_root_.id rfl
@[simp] theorem DZ {ds} : ca (.agg ds)=.agg ds:=_root_.id rfl
@[simp] theorem Ed {ds} : ca (.tup ds)=.tup ds:=_root_.id rfl
@[simp] theorem G9 {es} : ca (.sl es)=.sl es:=_root_.id rfl
@[simp] theorem D7 {ds} : ca (.ptr ds)=.ptr ds:=_root_.id rfl
@[simp] theorem G7 {g ds} : ca (.fn g ds)=.fn g ds:=_root_.id rfl
@[simp] theorem D6 {sz es} : ca (.own sz es)=.own sz es:=_root_.id rfl
@[simp] theorem D2 {sz es} : ca (.blk sz es)=.blk sz es:=_root_.id rfl
@[simp] theorem G8 {kt et ks vs} : ca (.mp kt et ks vs)=.mp kt et ks vs:=_root_.id rfl
@[simp] theorem D5 {b} : ca (.mrf b)=.mrf b:=_root_.id rfl
@[simp] theorem D9 {p k n} : ca (.ref p k n)=.ref p k n:=_root_.id rfl
@[simp] theorem DY {p i off} : ca (.adr p i off)=.adr p i off:=_root_.id rfl
@[simp] theorem D0 {ds} : ca (.agx ds)=.agg ds:=_root_.id rfl
@[simp] theorem Ec {ds} : ca (.tpx ds)=.tpx ds:=_root_.id rfl
@[simp] theorem D8 {ds} : ca (.ptx ds)=.ptx ds:=_root_.id rfl
@[simp] theorem D3 {g ds} : ca (.fnx g ds)=.fnx g ds:=_root_.id rfl
@[simp] theorem Et : aR (.any)=.any:=_root_.id rfl
@[simp] theorem Ew {k n} : aR (.int k n)=.int k n:=_root_.id rfl
@[simp] theorem BQ {b} : aR (.bool b)=.bool b:=_root_.id rfl
@[simp] theorem ED {s} : aR (.str s)=.str s:=_root_.id rfl
@[simp] theorem BR : aR (.nilp)=.nilp:=_root_.id rfl
@[simp] theorem BS : aR (.nils)=.nils:=_root_.id rfl
@[simp] theorem Er {ds} : aR (.agg ds)=.agg ds:=_root_.id rfl
@[simp] theorem EF {ds} : aR (.tup ds)=.tup ds:=_root_.id rfl
@[simp] theorem Hz {es} : aR (.sl es)=.sl es:=_root_.id rfl
@[simp] theorem Ez {ds} : aR (.ptr ds)=.ptr ds:=_root_.id rfl
@[simp] theorem Hx {g ds} : aR (.fn g ds)=.fn g ds:=_root_.id rfl
@[simp] theorem Ey {sz es} : aR (.own sz es)=.sl es:=_root_.id rfl
@[simp] theorem Eu {sz es} : aR (.blk sz es)=.blk sz es:=_root_.id rfl
@[simp] theorem Hy {kt et ks vs} : aR (.mp kt et ks vs)=.mp kt et ks vs:=_root_.id rfl
@[simp] theorem Ex {b} : aR (.mrf b)=.mrf b:=_root_.id rfl
@[simp] theorem EB {p k n} : aR (.ref p k n)=.ref p k n:=_root_.id rfl
@[simp] theorem Ep {p i off} : aR (.adr p i off)=.adr p i off:=_root_.id rfl
@[simp] theorem Es {ds} : aR (.agx ds)=.agx ds:=_root_.id rfl
@[simp] theorem EE {ds} : aR (.tpx ds)=.tpx ds:=_root_.id rfl
@[simp] theorem EA {ds} : aR (.ptx ds)=.ptx ds:=_root_.id rfl
@[simp] theorem Ev {g ds} : aR (.fnx g ds)=.fnx g ds:=_root_.id rfl
@[simp] theorem A3 : aN (.any)=[]:=_root_.id rfl
@[simp] theorem A6 {k n} : aN (.int k n)=[]:=_root_.id rfl
@[simp] theorem yC {b} : aN (.bool b)=[]:=_root_.id rfl
@[simp] theorem Bd {s} : aN (.str s)=[]:=_root_.id rfl
@[simp] theorem yD : aN (.nilp)=[]:=_root_.id rfl
@[simp] theorem yE : aN (.nils)=[]:=_root_.id rfl
@[simp] theorem A0 {ds} : aN (.agg ds)=[]:=_root_.id rfl
@[simp] theorem Bf {ds} : aN (.tup ds)=[]:=_root_.id rfl
@[simp] theorem CR {es} : aN (.sl es)=[]:=_root_.id rfl
@[simp] theorem A9 {ds} : aN (.ptr ds)=[]:=_root_.id rfl
@[simp] theorem CP {g ds} : aN (.fn g ds)=[]:=_root_.id rfl
@[simp] theorem A8 {sz es} : aN (.own sz es)=[]:=_root_.id rfl
@[simp] theorem A4 {sz es} : aN (.blk sz es)=[]:=_root_.id rfl
@[simp] theorem CQ {kt et ks vs} : aN (.mp kt et ks vs)=[]:=_root_.id rfl
@[simp] theorem A7 {b} : aN (.mrf b)=[b]:=_root_.id rfl
@[simp] theorem Bb {p k n} : aN (.ref p k n)=[p.root]:=_root_.id rfl
@[simp] theorem AZ {p i off} : aN (.adr p i off)=[p.root]:=_root_.id rfl
@[simp] theorem A1 {ds} : aN (.agx ds)=[]:=_root_.id rfl
@[simp] theorem Be {ds} : aN (.tpx ds)=[]:=_root_.id rfl
@[simp] theorem Ba {ds} : aN (.ptx ds)=[]:=_root_.id rfl
@[simp] theorem A5 {g ds} : aN (.fnx g ds)=[]:=_root_.id rfl
@[simp] theorem CV : bv (.any)=[]:=_root_.id rfl
@[simp] theorem CY {k n} : bv (.int k n)=[]:=_root_.id rfl
@[simp] theorem Bg {b} : bv (.bool b)=[]:=_root_.id rfl
@[simp] theorem C5 {s} : bv (.str s)=[]:=_root_.id rfl
@[simp] theorem Bh : bv (.nilp)=[]:=_root_.id rfl
@[simp] theorem Bi : bv (.nils)=[]:=_root_.id rfl
@[simp] theorem CT {ds} : bv (.agg ds)=[]:=_root_.id rfl
@[simp] theorem C7 {ds} : bv (.tup ds)=[]:=_root_.id rfl
@[simp] theorem Gq {es} : bv (.sl es)=[]:=_root_.id rfl
@[simp] theorem C1 {ds} : bv (.ptr ds)=[]:=_root_.id rfl
@[simp] theorem Gn {g ds} : bv (.fn g ds)=[]:=_root_.id rfl
@[simp] theorem C0 {sz es} : bv (.own sz es)=[]:=_root_.id rfl
@[simp] theorem CW {sz es} : bv (.blk sz es)=[]:=_root_.id rfl
@[simp] theorem Gp {kt et ks vs} : bv (.mp kt et ks vs)=[]:=_root_.id rfl
@[simp] theorem CZ {b} : bv (.mrf b)=[b]:=_root_.id rfl
@[simp] theorem C3 {p k n} : bv (.ref p k n)=[p.root]:=_root_.id rfl
@[simp] theorem CS {p i off} : bv (.adr p i off)=[p.root]:=_root_.id rfl
@[simp] theorem CU {ds} : bv (.agx ds)=ds.flatMap aN:=_root_.id rfl
@[simp] theorem C6 {ds} : bv (.tpx ds)=ds.flatMap aN:=_root_.id rfl
@[simp] theorem C2 {ds} : bv (.ptx ds)=ds.flatMap aN:=_root_.id rfl
@[simp] theorem CX {g ds} : bv (.fnx g ds)=ds.flatMap aN:=_root_.id rfl
@[simp] theorem LD {f : Nat -> D} : dp1 f (.any)=(.any):=_root_.id rfl
@[simp] theorem LG {f : Nat -> D} {k n} : dp1 f (.int k n)=(.int k n):=_root_.id rfl
@[simp] theorem HI {f : Nat -> D} {b} : dp1 f (.bool b)=(.bool b):=_root_.id rfl
@[simp] theorem LN {f : Nat -> D} {s} : dp1 f (.str s)=(.str s):=_root_.id rfl
@[simp] theorem HJ {f : Nat -> D} : dp1 f (.nilp)=(.nilp):=_root_.id rfl
@[simp] theorem HK {f : Nat -> D} : dp1 f (.nils)=(.nils):=_root_.id rfl
@[simp] theorem LB {f : Nat -> D} {ds} : dp1 f (.agg ds)=(.agg ds):=_root_.id rfl
@[simp] theorem LP {f : Nat -> D} {ds} : dp1 f (.tup ds)=(.tup ds):=_root_.id rfl
@[simp] theorem Pu {f : Nat -> D} {es} : dp1 f (.sl es)=(.sl es):=_root_.id rfl
@[simp] theorem LJ {f : Nat -> D} {ds} : dp1 f (.ptr ds)=(.ptr ds):=_root_.id rfl
@[simp] theorem Ps {f : Nat -> D} {g ds} : dp1 f (.fn g ds)=(.fn g ds):=_root_.id rfl
@[simp] theorem LI {f : Nat -> D} {sz es} : dp1 f (.own sz es)=(.own sz es):=_root_.id rfl
@[simp] theorem LE {f : Nat -> D} {sz es} : dp1 f (.blk sz es)=(.blk sz es):=_root_.id rfl
@[simp] theorem Pt {f : Nat -> D} {kt et ks vs} : dp1 f (.mp kt et ks vs)=(.mp kt et ks vs):=_root_.id rfl
@[simp] theorem LH {f : Nat -> D} {b} : dp1 f (.mrf b)=(.mrf b):=_root_.id rfl
@[simp] theorem LL {f : Nat -> D} {p k n} : dp1 f (.ref p k n)=(match a7 f p with | some (_,es)=>.sl (((es.drop k).take n).map fun e=>e.map aR) | none=>.any):=_root_.id rfl
@[simp] theorem LA {f : Nat -> D} {p i off} : dp1 f (.adr p i off)=(match a7 f p with | some (_,es)=>.ptr (((es[i]?.getD []).drop off).map aR) | none=>.any):=_root_.id rfl
@[simp] theorem LC {f : Nat -> D} {ds} : dp1 f (.agx ds)=(.agx ds):=_root_.id rfl
@[simp] theorem LO {f : Nat -> D} {ds} : dp1 f (.tpx ds)=(.tpx ds):=_root_.id rfl
@[simp] theorem LK {f : Nat -> D} {ds} : dp1 f (.ptx ds)=(.ptx ds):=_root_.id rfl
@[simp] theorem LF {f : Nat -> D} {g ds} : dp1 f (.fnx g ds)=(.fnx g ds):=_root_.id rfl
@[simp] theorem Py {f : Nat -> D} : dp f (.any)=(.any):=_root_.id rfl
@[simp] theorem PB {f : Nat -> D} {k n} : dp f (.int k n)=(.int k n):=_root_.id rfl
@[simp] theorem LT {f : Nat -> D} {b} : dp f (.bool b)=(.bool b):=_root_.id rfl
@[simp] theorem PI {f : Nat -> D} {s} : dp f (.str s)=(.str s):=_root_.id rfl
@[simp] theorem LU {f : Nat -> D} : dp f (.nilp)=(.nilp):=_root_.id rfl
@[simp] theorem LV {f : Nat -> D} : dp f (.nils)=(.nils):=_root_.id rfl
@[simp] theorem Pw {f : Nat -> D} {ds} : dp f (.agg ds)=(.agg ds):=_root_.id rfl
@[simp] theorem PK {f : Nat -> D} {ds} : dp f (.tup ds)=(.tup ds):=_root_.id rfl
@[simp] theorem QU {f : Nat -> D} {es} : dp f (.sl es)=(.sl es):=_root_.id rfl
@[simp] theorem PE {f : Nat -> D} {ds} : dp f (.ptr ds)=(.ptr ds):=_root_.id rfl
@[simp] theorem QS {f : Nat -> D} {g ds} : dp f (.fn g ds)=(.fn g ds):=_root_.id rfl
@[simp] theorem PD {f : Nat -> D} {sz es} : dp f (.own sz es)=(.own sz es):=_root_.id rfl
@[simp] theorem Pz {f : Nat -> D} {sz es} : dp f (.blk sz es)=(.blk sz es):=_root_.id rfl
@[simp] theorem QT {f : Nat -> D} {kt et ks vs} : dp f (.mp kt et ks vs)=(.mp kt et ks vs):=_root_.id rfl
@[simp] theorem PC {f : Nat -> D} {b} : dp f (.mrf b)=(.mrf b):=_root_.id rfl
@[simp] theorem PG {f : Nat -> D} {p k n} : dp f (.ref p k n)=(match a7 f p with | some (_,es)=>.sl (((es.drop k).take n).map fun e=>e.map aR) | none=>.any):=_root_.id rfl
@[simp] theorem Pv {f : Nat -> D} {p i off} : dp f (.adr p i off)=(match a7 f p with | some (_,es)=>.ptr (((es[i]?.getD []).drop off).map aR) | none=>.any):=_root_.id rfl
@[simp] theorem Px {f : Nat -> D} {ds} : dp f (.agx ds)=(.agg (ds.map (dp1 f))):=_root_.id rfl
@[simp] theorem PJ {f : Nat -> D} {ds} : dp f (.tpx ds)=(.tup (ds.map (dp1 f))):=_root_.id rfl
@[simp] theorem PF {f : Nat -> D} {ds} : dp f (.ptx ds)=(.ptr (ds.map (dp1 f))):=_root_.id rfl
@[simp] theorem PA {f : Nat -> D} {g ds} : dp f (.fnx g ds)=(.fn g (ds.map (dp1 f))):=_root_.id rfl
@[simp] theorem EN {f : Nat -> D} : aU f (.any)=(True):=_root_.id rfl
@[simp] theorem EQ {f : Nat -> D} {k n} : aU f (.int k n)=(True):=_root_.id rfl
@[simp] theorem Cc {f : Nat -> D} {b} : aU f (.bool b)=(True):=_root_.id rfl
@[simp] theorem EX {f : Nat -> D} {s} : aU f (.str s)=(True):=_root_.id rfl
@[simp] theorem Cd {f : Nat -> D} : aU f (.nilp)=(True):=_root_.id rfl
@[simp] theorem Ce {f : Nat -> D} : aU f (.nils)=(True):=_root_.id rfl
@[simp] theorem EL {f : Nat -> D} {ds} : aU f (.agg ds)=(True):=_root_.id rfl
@[simp] theorem EZ {f : Nat -> D} {ds} : aU f (.tup ds)=(True):=_root_.id rfl
@[simp] theorem HN {f : Nat -> D} {es} : aU f (.sl es)=(True):=_root_.id rfl
@[simp] theorem ET {f : Nat -> D} {ds} : aU f (.ptr ds)=(True):=_root_.id rfl
@[simp] theorem HL {f : Nat -> D} {g ds} : aU f (.fn g ds)=(True):=_root_.id rfl
@[simp] theorem ES {f : Nat -> D} {sz es} : aU f (.own sz es)=(True):=_root_.id rfl
@[simp] theorem EO {f : Nat -> D} {sz es} : aU f (.blk sz es)=(True):=_root_.id rfl
@[simp] theorem HM {f : Nat -> D} {kt et ks vs} : aU f (.mp kt et ks vs)=(True):=_root_.id rfl
@[simp] theorem ER {f : Nat -> D} {b} : aU f (.mrf b)=(False):=_root_.id rfl
@[simp] theorem EV {f : Nat -> D} {p k n} : aU f (.ref p k n)=(match a7 f p with | some (_,es)=>k + n <= es.length | none=>False):=_root_.id rfl
@[simp] theorem EK {f : Nat -> D} {p i off} : aU f (.adr p i off)=(match a7 f p with | some _=>True | none=>False):=_root_.id rfl
@[simp] theorem EM {f : Nat -> D} {ds} : aU f (.agx ds)=(True):=_root_.id rfl
@[simp] theorem EY {f : Nat -> D} {ds} : aU f (.tpx ds)=(True):=_root_.id rfl
@[simp] theorem EU {f : Nat -> D} {ds} : aU f (.ptx ds)=(True):=_root_.id rfl
@[simp] theorem EP {f : Nat -> D} {g ds} : aU f (.fnx g ds)=(True):=_root_.id rfl
@[simp] theorem HR {f : Nat -> D} : bu f (.any)=(True):=_root_.id rfl
@[simp] theorem HU {f : Nat -> D} {k n} : bu f (.int k n)=(True):=_root_.id rfl
@[simp] theorem E0 {f : Nat -> D} {b} : bu f (.bool b)=(True):=_root_.id rfl
@[simp] theorem H1 {f : Nat -> D} {s} : bu f (.str s)=(True):=_root_.id rfl
@[simp] theorem E1 {f : Nat -> D} : bu f (.nilp)=(True):=_root_.id rfl
@[simp] theorem E2 {f : Nat -> D} : bu f (.nils)=(True):=_root_.id rfl
@[simp] theorem HP {f : Nat -> D} {ds} : bu f (.agg ds)=(True):=_root_.id rfl
@[simp] theorem H3 {f : Nat -> D} {ds} : bu f (.tup ds)=(True):=_root_.id rfl
@[simp] theorem LS {f : Nat -> D} {es} : bu f (.sl es)=(True):=_root_.id rfl
@[simp] theorem HX {f : Nat -> D} {ds} : bu f (.ptr ds)=(True):=_root_.id rfl
@[simp] theorem LQ {f : Nat -> D} {g ds} : bu f (.fn g ds)=(True):=_root_.id rfl
@[simp] theorem HW {f : Nat -> D} {sz es} : bu f (.own sz es)=(True):=_root_.id rfl
@[simp] theorem HS {f : Nat -> D} {sz es} : bu f (.blk sz es)=(True):=_root_.id rfl
@[simp] theorem LR {f : Nat -> D} {kt et ks vs} : bu f (.mp kt et ks vs)=(True):=_root_.id rfl
@[simp] theorem HV {f : Nat -> D} {b} : bu f (.mrf b)=(False):=_root_.id rfl
@[simp] theorem HZ {f : Nat -> D} {p k n} : bu f (.ref p k n)=(match a7 f p with | some (_,es)=>k + n <= es.length | none=>False):=_root_.id rfl
@[simp] theorem HO {f : Nat -> D} {p i off} : bu f (.adr p i off)=(match a7 f p with | some _=>True | none=>False):=_root_.id rfl
@[simp] theorem HQ {f : Nat -> D} {ds} : bu f (.agx ds)=(∀ d ∈ ds,aU f d):=_root_.id rfl
@[simp] theorem H2 {f : Nat -> D} {ds} : bu f (.tpx ds)=(∀ d ∈ ds,aU f d):=_root_.id rfl
@[simp] theorem HY {f : Nat -> D} {ds} : bu f (.ptx ds)=(∀ d ∈ ds,aU f d):=_root_.id rfl
@[simp] theorem HT {f : Nat -> D} {g ds} : bu f (.fnx g ds)=(∀ d ∈ ds,aU f d):=_root_.id rfl
@[simp] theorem Oc {p i0 o} : ldc p i0 o (.any)=.any:=_root_.id rfl
@[simp] theorem Kd {m} : dY m (.any)=.any:=_root_.id rfl
@[simp] theorem Of {p i0 o k n} : ldc p i0 o (.int k n)=.int k n:=_root_.id rfl
@[simp] theorem Kg {m k n} : dY m (.int k n)=.int k n:=_root_.id rfl
@[simp] theorem JO {p i0 o b} : ldc p i0 o (.bool b)=.bool b:=_root_.id rfl
@[simp] theorem Gr {m b} : dY m (.bool b)=.bool b:=_root_.id rfl
@[simp] theorem On {p i0 o s} : ldc p i0 o (.str s)=.str s:=_root_.id rfl
@[simp] theorem Km {m s} : dY m (.str s)=.str s:=_root_.id rfl
@[simp] theorem JP {p i0 o} : ldc p i0 o (.nilp)=.nilp:=_root_.id rfl
@[simp] theorem Gs {m} : dY m (.nilp)=.nilp:=_root_.id rfl
@[simp] theorem JQ {p i0 o} : ldc p i0 o (.nils)=.nils:=_root_.id rfl
@[simp] theorem Oa {p i0 o ds} : ldc p i0 o (.agg ds)=.agg ds:=_root_.id rfl
@[simp] theorem Kb {m ds} : dY m (.agg ds)=.agg ds:=_root_.id rfl
@[simp] theorem Oq {p i0 o ds} : ldc p i0 o (.tup ds)=.tup ds:=_root_.id rfl
@[simp] theorem Ko {m ds} : dY m (.tup ds)=.tup ds:=_root_.id rfl
@[simp] theorem Qp {p i0 o es} : ldc p i0 o (.sl es)=.sl es:=_root_.id rfl
@[simp] theorem Oz {m es} : dY m (.sl es)=.sl es:=_root_.id rfl
@[simp] theorem Oi {p i0 o ds} : ldc p i0 o (.ptr ds)=.ptr ds:=_root_.id rfl
@[simp] theorem Kj {m ds} : dY m (.ptr ds)=.ptr ds:=_root_.id rfl
@[simp] theorem Qn {p i0 o g ds} : ldc p i0 o (.fn g ds)=.fn g ds:=_root_.id rfl
@[simp] theorem Ox {m g ds} : dY m (.fn g ds)=.fn g ds:=_root_.id rfl
@[simp] theorem Oh {c i o sz es} : ldc (.r c) i o (.own sz es)=.ref (.n c i o) 0 es.length:=_root_.id rfl
@[simp] theorem Ki {m sz es} : dY m (.own sz es)=.own sz es:=_root_.id rfl
@[simp] theorem Od {p i0 o sz es} : ldc p i0 o (.blk sz es)=.blk sz es:=_root_.id rfl
@[simp] theorem Ke {m sz es} : dY m (.blk sz es)=.blk sz es:=_root_.id rfl
@[simp] theorem Qo {p i0 o kt et ks vs} : ldc p i0 o (.mp kt et ks vs)=.mp kt et ks vs:=_root_.id rfl
@[simp] theorem Oy {m kt et ks vs} : dY m (.mp kt et ks vs)=.mp kt et ks vs:=_root_.id rfl
@[simp] theorem Og {p i0 o b} : ldc p i0 o (.mrf b)=.mrf b:=_root_.id rfl
@[simp] theorem Kh {m b} : dY m (.mrf b)=.mrf b:=_root_.id rfl
@[simp] theorem Ol {p i0 o q k n} : ldc p i0 o (.ref q k n)=.ref q k n:=_root_.id rfl
@[simp] theorem Kl {m q k n} : dY m (.ref q k n)=.ref q k n:=_root_.id rfl
@[simp] theorem N9 {p i0 o q i off} : ldc p i0 o (.adr q i off)=.adr q i off:=_root_.id rfl
@[simp] theorem Ka {m q i off} : dY m (.adr q i off)=.adr q i off:=_root_.id rfl
@[simp] theorem Ob {p i0 o ds} : ldc p i0 o (.agx ds)=.agx ds:=_root_.id rfl
@[simp] theorem Kc {m ds} : dY m (.agx ds)=.agx ds:=_root_.id rfl
@[simp] theorem Oo {p i0 o ds} : ldc p i0 o (.tpx ds)=.tpx ds:=_root_.id rfl
@[simp] theorem Kn {m ds} : dY m (.tpx ds)=.tpx ds:=_root_.id rfl
@[simp] theorem Oj {p i0 o ds} : ldc p i0 o (.ptx ds)=.ptx ds:=_root_.id rfl
@[simp] theorem Kk {m ds} : dY m (.ptx ds)=.ptx ds:=_root_.id rfl
@[simp] theorem Oe {p i0 o g ds} : ldc p i0 o (.fnx g ds)=.fnx g ds:=_root_.id rfl
@[simp] theorem Kf {m g ds} : dY m (.fnx g ds)=.fnx g ds:=_root_.id rfl
@[simp] theorem Gt {m} : dY m .nils=if m=0 then .nils else .own m []:=_root_.id rfl
def slx (b : Bool) (es : List (List D)) : D:=match b,es with
 | true,[]=>.nils
 | _,es=>.sl es
@[simp] theorem cE {es} : slx false es=.sl es:=by cases es <;> rfl
@[simp] theorem KY {b x es} : slx b (x::es)=.sl (x::es):=by cases b <;> rfl
theorem gK (b : Bool) (es : List (List D)) : slx b es=.sl es \/ (slx b es=.nils /\ es=[]):=by cases b <;> cases es <;> simp [slx]
@[simp] theorem N0 {b es} : isV (slx b es)=true:=by cases b <;> cases es <;> rfl
@[simp] theorem MQ {b es} : isK (slx b es)=true:=by cases b <;> cases es <;> rfl
@[simp] theorem Nu {b es} : isP (slx b es)=true:=by cases b <;> cases es <;> rfl
@[simp] theorem NK {b es} : isS (slx b es)=true:=by cases b <;> cases es <;> rfl
@[simp] theorem IS {b es} : aq (slx b es)=true:=by cases b <;> cases es <;> rfl
@[simp] theorem Nc {b es} : isO (slx b es)=false:=by cases b <;> cases es <;> rfl
@[simp] theorem Fq {b es} : cB (slx b es)=false:=by cases b <;> cases es <;> rfl
@[simp] theorem Mc {b es} : isB (slx b es)=false:=by cases b <;> cases es <;> rfl
@[simp] theorem AB {b es} : cellsOf (slx b es)=[slx b es]:=by cases b <;> cases es <;> rfl
@[simp] theorem Ea {b es} : ca (slx b es)=slx b es:=by cases b <;> cases es <;> rfl
@[simp] theorem EC {b es} : aR (slx b es)=slx b es:=by cases b <;> cases es <;> rfl
@[simp] theorem Bc {b es} : aN (slx b es)=[]:=by cases b <;> cases es <;> rfl
@[simp] theorem C4 {b es} : bv (slx b es)=[]:=by cases b <;> cases es <;> rfl
@[simp] theorem LM {f : Nat -> D} {b es} : dp1 f (slx b es)=slx b es:=by cases b <;> cases es <;> rfl
@[simp] theorem PH {f : Nat -> D} {b es} : dp f (slx b es)=slx b es:=by cases b <;> cases es <;> rfl
@[simp] theorem EW {f : Nat -> D} {b es} : aU f (slx b es)=True:=by cases b <;> cases es <;> rfl
@[simp] theorem H0 {f : Nat -> D} {b es} : bu f (slx b es)=True:=by cases b <;> cases es <;> rfl
@[simp] theorem Om {p i o b es} : ldc p i o (slx b es)=slx b es:=by cases b <;> cases es <;> rfl
def tU (d : D) (K : Nat -> Prop) (_ : Tag K) : Prop:=match d with
 | .sl es=>K es.length
 | .nils=>K 0
 | .ref _ _ n=>K n
 | _=>False
@[simp] theorem Ot {es K u} : tU (.sl es) K u=K es.length:=_root_.id rfl
@[simp] theorem Gd {K u} : tU .nils K u=K 0:=_root_.id rfl
@[simp] theorem J0 {p k n K u} : tU (.ref p k n) K u=K n:=_root_.id rfl
@[simp] theorem J1 {b es K u} : tU (slx b es) K u=K es.length:=by cases b <;> cases es <;> rfl
@[simp] theorem GJ {n ds} : lL true n ds=.agg (ds.take n):=_root_.id rfl
@[simp] theorem Di {n ds} : lL false n ds=ds.headD .any:=_root_.id rfl
@[simp] theorem J5 {t} : ac [] t=.any:=rfl
def lk (b : Bool) (d : D) (r : Env) (t : Nat) : D:=match b with
 | true=>d
 | false=>ac r t
@[simp] theorem Ou {d r t} : lk true d r t=d:=rfl
@[simp] theorem J2 {d r t} : lk false d r t=ac r t:=rfl
@[simp] theorem Ge {s d r t} : ac ((s,d)::r) t=lk (s == t) d r t:=by
 by_cases h : s=t
 ·subst h;simp [ac]
 ·rw [show (s == t)=false by simp [h]];simp [ac,h]
@[simp] theorem FU {e} : pF [] e=[]:=_root_.id rfl
@[simp] theorem Cz {t ts e} : pF (t::ts) e=(t,ac e t)::pF ts e:=_root_.id rfl
@[simp] theorem Bl : lZ []=[]:=_root_.id rfl
@[simp] theorem zh {t d r} : lZ ((t,d)::r)=bv d++lZ r:=_root_.id rfl
@[simp] theorem G6 {e ks} : tk e [] ks=ks:=_root_.id rfl
@[simp] theorem DX {e r rs ks} : tk e (r::rs) ks=tk e rs (if (ks.map (·.1)).contains r then ks else ks++[(r,ac e r)]):=_root_.id rfl
def gn (f : Nat -> D) (d : D) (ns : List Nat) (K : List D -> List Nat -> Prop) (_ : Tag K) : Prop:=fq f d ns K
def fW (f : Nat -> D) (d : D) (K : D -> List Nat -> Prop) (_ : Tag K) : Prop:=dC f d K
def pc (f : Nat -> D) (ds : List D) (K : List D -> List Nat -> Prop) (_ : Tag K) : Prop:=jj f ds K
def u7 (b n : Nat) (x : D) (K : D -> List Nat -> Prop) (_ : Tag K) : Prop:=match x with
 | .blk sz es=>es.length=n /\ (∀ e ∈ es,∀ c ∈ e,aq c=true) /\ K (.own sz es) [b]
 | _=>False
@[simp] theorem GU {b n sz es K u} : u7 b n (.blk sz es) K u=(es.length=n /\ (∀ e ∈ es,∀ c ∈ e,aq c=true) /\ K (.own sz es) [b]):=_root_.id rfl
theorem dP {f : Nat -> D} {d : D} {K : D -> List Nat -> Prop} {u} (h : aq d=true) : fW f d K u=K d []:=by
 cases d <;> simp [aq] at h <;> simp [fW,dC,aq]
@[simp] theorem DQ {f b k n K u} : fW f (.ref (.r b) k n) K u=(k=0 /\ u7 b n (f b) K ⟨⟩):=by
 simp only [fW,dC,u7]
 cases f b <;> rfl
theorem fp {f : Nat -> D} {d : D} {K : List D -> List Nat -> Prop} {u} (h : aq d=true) : gn f d [] K u=K [d] []:=by
 cases d <;> simp [aq] at h <;> simp [gn,fq,dC,aq,dh]
@[simp] theorem GX {f ds K u} : gn f (.agg ds) [] K u=((∀ c ∈ ds,aq c=true) /\ K ds []):=by simp [gn,fq,dh]
@[simp] theorem GY {f ds K u} : gn f (.agx ds) [] K u=pc f ds (fun cs bs=>bC bs=true /\ K cs bs) ⟨⟩:=by simp [gn,pc,fq,dh]
@[simp] theorem G1 {f b k n K u} : gn f (.ref (.r b) k n) [] K u=(k=0 /\ u7 b n (f b) (fun c bs=>K [c] bs) ⟨⟩):=by
 simp only [gn,fq,dC,u7,dh,if_true,true_or,true_and]
 cases f b <;> rfl
@[simp] theorem DT {f K u} : pc f [] K u=K [] []:=_root_.id rfl
@[simp] theorem BD {f d ds K u} : pc f (d::ds) K u=fW f d (fun c bs=>pc f ds (fun cs bs'=>K (c::cs) (bs++bs')) ⟨⟩) ⟨⟩:=_root_.id rfl
@[simp] theorem DO {f k n K u} : fW f (.int k n) K u=K (.int k n) []:=dP rfl
@[simp] theorem GZ {f k n K u} : gn f (.int k n) [] K u=K [.int k n] []:=fp rfl
@[simp] theorem BA {f n K u} : fW f (.bool n) K u=K (.bool n) []:=dP rfl
@[simp] theorem DU {f n K u} : gn f (.bool n) [] K u=K [.bool n] []:=fp rfl
@[simp] theorem DS {f n K u} : fW f (.str n) K u=K (.str n) []:=dP rfl
@[simp] theorem G3 {f n K u} : gn f (.str n) [] K u=K [.str n] []:=fp rfl
@[simp] theorem BB {f  K u} : fW f .nilp K u=K .nilp []:=dP rfl
@[simp] theorem DV {f  K u} : gn f .nilp [] K u=K [.nilp] []:=fp rfl
@[simp] theorem BC {f  K u} : fW f .nils K u=K .nils []:=dP rfl
@[simp] theorem DW {f  K u} : gn f .nils [] K u=K [.nils] []:=fp rfl
@[simp] theorem GW {f n K u} : fW f (.sl n) K u=K (.sl n) []:=dP rfl
@[simp] theorem Lr {f n K u} : gn f (.sl n) [] K u=K [.sl n] []:=fp rfl
@[simp] theorem DP {f n K u} : fW f (.ptr n) K u=K (.ptr n) []:=dP rfl
@[simp] theorem G0 {f n K u} : gn f (.ptr n) [] K u=K [.ptr n] []:=fp rfl
@[simp] theorem GV {f g n K u} : fW f (.fn g n) K u=K (.fn g n) []:=dP rfl
@[simp] theorem Lq {f g n K u} : gn f (.fn g n) [] K u=K [.fn g n] []:=fp rfl
@[simp] theorem DR {f b n K u} : fW f (slx b n) K u=K (slx b n) []:=dP (by simp)
@[simp] theorem G2 {f b n K u} : gn f (slx b n) [] K u=K [slx b n] []:=fp (by simp)
def oV (f : Nat -> D) (sz : Nat) (ps : List (Nat × Opd)) (es : List (List D)) (bs : List Nat) (K : List (List D) -> List Nat -> Prop) (_ : Tag K) : Prop:=fh f sz [] ps es bs K
@[simp] theorem Dj {f sz es bs K u} : oV f sz [] es bs K u=K es bs:=_root_.id rfl
@[simp] theorem Bk {f sz i x ps es bs K u} : oV f sz ((i,x)::ps) es bs K u=(i < es.length /\ gn f (vd f x) [] (fun cs bs'=>cs.length=sz /\ oV f sz ps (es.set i cs) (bs++bs') K ⟨⟩) ⟨⟩):=_root_.id rfl
def iR (f : Nat -> D) (mv : Bool) (d : D) (sz : Nat) (K : List (List D) -> List Nat -> Prop) (_ : Tag K) : Prop:=fo f mv d sz K
def Dq (b n sz : Nat) (x : D) (K : List (List D) -> List Nat -> Prop) (_ : Tag K) : Prop:=match x with
 | .blk sz' es=>sz'=sz /\ es.length=n /\ (∀ e ∈ es,∀ c ∈ e,isC c=true) /\ K es [b]
 | _=>False
@[simp] theorem KL {b n sz sz' es K u} : Dq b n sz (.blk sz' es) K u=(sz'=sz /\ es.length=n /\ (∀ e ∈ es,∀ c ∈ e,isC c=true) /\ K es [b]):=_root_.id rfl
def Dr (k n sz : Nat) (x : Option (Nat × List (List D))) (K : List (List D) -> List Nat -> Prop) (_ : Tag K) : Prop:=match x with
 | some (sz',es)=>sz'=sz /\ k + n <= es.length /\ (∀ e ∈ (es.drop k).take n,∀ c ∈ e,aq c=true) /\ K ((es.drop k).take n) []
 | none=>False
@[simp] theorem GK {k n sz sz' es K u} : Dr k n sz (some (sz',es)) K u=(sz'=sz /\ k + n <= es.length /\ (∀ e ∈ (es.drop k).take n,∀ c ∈ e,aq c=true) /\ K ((es.drop k).take n) []):=_root_.id rfl
@[simp] theorem Ds {f mv sz K u} : iR f mv .nils sz K u=K [] []:=_root_.id rfl
@[simp] theorem KS {f mv es sz K u} : iR f mv (.sl es) sz K u=((∀ e ∈ es,e.length=sz /\ ∀ c ∈ e,aq c=true) /\ K es []):=_root_.id rfl
@[simp] theorem GO {f mv b es sz K u} : iR f mv (slx b es) sz K u=((∀ e ∈ es,e.length=sz /\ ∀ c ∈ e,aq c=true) /\ K es []):=by
 rcases gK b es with h | ⟨h,rfl⟩ <;> rw [h] <;> simp
@[simp] theorem KR {f b k n sz K u} : iR f true (.ref (.r b) k n) sz K u=(k=0 /\ Dq b n sz (f b) K ⟨⟩):=by
 simp only [iR,fo,Dq]
 cases f b <;> rfl
@[simp] theorem GN {f p k n sz K u} : iR f false (.ref p k n) sz K u=Dr k n sz (a7 f p) K ⟨⟩:=by
 simp only [iR,fo,Dr]
 cases a7 f p <;> rfl
def dc (f : Nat -> D) (o : Option Opd) (dflt : Nat) (K : Nat -> Prop) (_ : Tag K) : Prop:=dj f o dflt K
def Hn (d : D) (K : Nat -> Prop) (_ : Tag K) : Prop:=match d with
 | .int _ n=>0 <= n /\ K n.toNat
 | _=>False
@[simp] theorem Ho {k n K u} : Hn (.int k n) K u=(0 <= n /\ K n.toNat):=_root_.id rfl
@[simp] theorem Ak {f n K u} : dc f none n K u=K n:=_root_.id rfl
@[simp] theorem Al {f x n K u} : dc f (some x) n K u=Hn (vd f x) K ⟨⟩:=_root_.id rfl
def gj (x : Option (List D)) (K : List D -> Prop) (_ : Tag K) : Prop:=match x with
 | some r=>K r
 | none=>False
@[simp] theorem GM {r K u} : gj (some r) K u=K r:=_root_.id rfl
@[simp] theorem GL {K u} : gj none K u=False:=_root_.id rfl
theorem fv {x : Option (List D)} {K : List D -> Prop} {u} : gj x K u=∃ r,x=some r /\ K r:=by
 cases x <;> simp [gj]
def jB (x : Option D) (K : Nat -> List (List D) -> Prop) (_ : Tag K) : Prop:=match x with
 | some (.own sz es)=>K sz es
 | _=>False
@[simp] theorem KH {sz es K u} : jB (some (.own sz es)) K u=K sz es:=_root_.id rfl
theorem i6 {x : Option D} {K : Nat -> List (List D) -> Prop} {u} : jB x K u=∃ sz es,x=some (.own sz es) /\ K sz es:=by
 cases x with
 | none=>simp [jB]
 | some d =>
  cases d <;> simp [jB]
  exact ⟨fun h=>⟨_,_,⟨rfl,rfl⟩,h⟩,by rintro ⟨_,_,⟨rfl,rfl⟩,h⟩;exact h⟩
def xR (x : Option D) (K : D -> Prop) (_ : Tag K) : Prop:=match x with
 | some d=>K d
 | none=>False
@[simp] theorem Eo {d K u} : xR (some d) K u=K d:=_root_.id rfl
theorem xS {x : Option D} {K : D -> Prop} {u} : xR x K u=∃ d,x=some d /\ K d:=by
 cases x <;> simp [xR]
def dM (x : D) (K : Nat -> List (List D) -> Prop) (_ : Tag K) : Prop:=match x with
 | .blk sz es=>K sz es
 | _=>False
@[simp] theorem Hm {sz es K u} : dM (.blk sz es) K u=K sz es:=_root_.id rfl
abbrev CC:=Nat -> List D -> D -> List D -> Prop
abbrev KT:=List (Nat × D) -> List (Nat × Bool) -> Prop
section
variable {C : CC} {Q : cj -> Env -> Prop} {e e' : Env} {d : D}
def wN (C : CC) (c : dB) (Q : cj -> Env -> Prop) (_ : Tag (c,Q)) (e : Env) : Prop:=wpN C c Q e
def sv (C : CC) (c : dB) (Q : cj -> Env -> Prop) (_ : Tag (c,Q)) (e : Env) : Prop:=wpN C (.loop c) Q e
def ue (C : CC) (K : Env -> Prop) (ns : List av) (_ : Tag (K,ns)) (e : Env) : Prop:=ij C K ns e
def rq (C : CC) (hs : List Nat) (K : Env -> Prop) (ns : List av) (_ : Tag (K,ns)) (e : Env) (acc : List (List Nat × List Nat)) : Prop:=jg C hs K ns e acc
def Ix (hs : List Nat) (acc : List (List Nat × List Nat)) : Prop:=jV hs acc.reverse=true
theorem ar {hs : List Nat} {acc : List (List Nat × List Nat)} (h : jV hs acc.reverse=true) : Ix hs acc:=h
def AG (C : CC) (K : Env -> Prop) (ns : List av) (e : Env) : KT:=fun ws ks=>ij C K ns (ws++dH ks e)
def HB (C : CC) (hs : List Nat) (K : Env -> Prop) (ns : List av) (e : Env) (R : List Nat) (acc : List (List Nat × List Nat)) : KT:=fun ws ks=>wOk R ws ks=true /\ jg C hs K ns (ws++dH ks e) ((R,wrK ws ks)::acc)
def doT (C : CC) (K : Env -> Prop) (ns : List av) (_ : Tag (K,ns)) (e : Env) (ws : List (Nat × D)) (ks : List (Nat × Bool)) : Prop:=ij C K ns (ws++dH ks e)
def bM (Q : cj -> Env -> Prop) (_ : Tag Q) (t : cj) (e : Env) : Prop:=Q t e
def fin (res : List (Nat × Option (Nat × Bool))) (d : D) : cj -> Env -> Prop:=fun t e=>(match t with
   | .ext _=>False
   | _=>True) /\ gb res d e
def zy (C : CC) (y : dB) (Q : cj -> Env -> Prop) : cj -> Env -> Prop:=fun t e'=>match t with
  | .nrm=>wpN C y Q e'
  | t=>Q t e'
def oy (id : Nat) (Q : cj -> Env -> Prop) : cj -> Env -> Prop:=fun t e'=>match t with
  | .ext i=>if i=id then Q .nrm e' else Q (.ext i) e'
  | t=>Q t e'
def za (keep : List Nat) (Q : cj -> Env -> Prop) : Env -> Prop:=fun e'=>Q .nrm (prune keep e')
def kOf (C : CC) (hs : Option (List Nat)) (K : Env -> Prop) (ns : List av) (e : Env) (R : List Nat) (acc : List (List Nat × List Nat)) : KT :=
 match hs with
 | none=>AG C K ns e
 | some hs=>HB C hs K ns e R acc
def doW (C : CC) (hs : Option (List Nat)) (K : Env -> Prop) (ns : List av) (_ : Tag (hs,K,ns)) (e : Env) (R : List Nat) (acc : List (List Nat × List Nat)) (ws : List (Nat × D)) (ks : List (Nat × Bool)) : Prop:=kOf C hs K ns e R acc ws ks
def opW (C : CC) (hs : Option (List Nat)) (K : Env -> Prop) (ns : List av) (dst : Option Nat) (op : NOp) (_ : Tag (hs,K,ns,dst,op)) (e : Env) (R : List Nat) (acc : List (List Nat × List Nat)) : Prop:=aE C (ac e) dst (kOf C hs K ns e R acc) op
def dW (C : CC) (hs : Option (List Nat)) (K : Env -> Prop) (ns : List av) (dst : Option Nat) (_ : Tag (hs,K,ns)) (e : Env) (R : List Nat) (acc : List (List Nat × List Nat)) (d : D) : Prop:=c9 dst (kOf C hs K ns e R acc) d
def pj (C : CC) (g : Nat) (hs : Option (List Nat)) (K : Env -> Prop) (ns : List av) (dst : Option Nat) (_ : Tag (hs,K,ns)) (e : Env) (R : List Nat) (acc : List (List Nat × List Nat)) (pure : Bool) (ds : List D) : Prop :=
 ∃ d,C g ds d [] /\ (isF d=true \/ pure=true) /\ c9 dst (kOf C hs K ns e R acc) d
theorem al {prog : Nat -> Option au} (hC : am prog C) {g : Nat} {nf : au} {ds : List D} (hp : prog g=some nf) (hl : ds.length=nf.np) (h : wN C nf.body (fin nf.res d) ⟨⟩ (params 0 ds)) : C g ds d []:=hC.1 g nf ds d hp hl h
def qT (res : List (Nat × Option (Nat × Bool))) (sz : Nat) (es : List (List D)) : cj -> Env -> Prop:=fun t e=>(match t with
   | .ext _=>False
   | _=>True) /\ jD res sz es e
theorem rO {prog : Nat -> Option au} (hC : am prog C) {g : Nat} {nf : au} {ds : List D} {sz : Nat} {es : List (List D)} (hp : prog g=some nf) (hl : ds.length=nf.np) (h : wN C nf.body (qT nf.res sz es) ⟨⟩ (params 0 ds)) : C g ds .any [.own sz es]:=hC.2.2.1 g nf ds sz es hp hl h
def tI (res : List (Nat × Option (Nat × Bool))) (d : D) : cj -> Env -> Prop:=fun t e=>(match t with
   | .ext _=>False
   | _=>True) /\ jC res d e
def tK (res : List (Nat × Option (Nat × Bool))) (d : D) (sz : Nat) (es' : List (List D)) : cj -> Env -> Prop:=fun t e=>(match t with
   | .ext _=>False
   | _=>True) /\ (0 < es'.length /\ ac e 10015=.blk sz es') /\ gb res d ((10015,.any)::e)
def tJ (res : List (Nat × Option (Nat × Bool))) (sz : Nat) (es : List (List D)) : cj -> Env -> Prop:=fun t e=>(match t with
   | .ext _=>False
   | _=>True) /\ jE res sz es e
def qS (res : List (Nat × Option (Nat × Bool))) (R : D) : cj -> Env -> Prop:=fun t e=>(match t with
   | .ext _=>False
   | _=>True) /\ qj res R e
theorem xf {prog : Nat -> Option au} (hC : am prog C) {g : Nat} {nf : au} {ds : List D} {R : D} (hp : prog g=some nf) (hl : ds.length=nf.np) (hok : okR R=true) (h : wN C nf.body (qS nf.res R) ⟨⟩ (params 0 ds)) : C g ds R [.nils]:=hC.2.2.2.2.2.2 g nf ds R hp hl hok h
def qI (C : CC) (g : Nat) (hs : Option (List Nat)) (K : Env -> Prop) (ns : List av) (t : Nat) (_ : Tag (hs,K,ns)) (e : Env) (R : List Nat) (acc : List (List Nat × List Nat)) (ds : List D) : Prop :=
 (∃ d,C g ds d [] /\ c9 (some t) (kOf C hs K ns e R acc) d) \/ ∃ d,okR d=true /\ C g ds d [.nils] /\ kOf C hs K ns e R acc ((t,dG t d)::aS t d) (dl t d)
theorem nx {g : Nat} {hs : Option (List Nat)} {K : Env -> Prop} {ns : List av} {t : Nat} {u : Tag (hs,K,ns)} {R : List Nat} {acc : List (List Nat × List Nat)} {ds : List D} {d : D} (h : C g ds d [.nils]) (hok : okR d=true) (hk : doW C hs K ns ⟨⟩ e R acc ((t,dG t d)::aS t d) (dl t d)) : qI C g hs K ns t u e R acc ds:=.inr ⟨d,hok,h,hk⟩
theorem tq {g : Nat} {hs : Option (List Nat)} {K : Env -> Prop} {ns : List av} {t : Nat} {u : Tag (hs,K,ns)} {R : List Nat} {acc : List (List Nat × List Nat)} {ds : List D} {d : D} (h : C g ds d []) (hk : dW C hs K ns (some t) ⟨⟩ e R acc d) : qI C g hs K ns t u e R acc ds:=.inl ⟨d,h,hk⟩
def BO (C : CC) (g : Nat) (hs : Option (List Nat)) (K : Env -> Prop) (ns : List av) (dst : Option Nat) (_ : Tag (hs,K,ns)) (e : Env) (R : List Nat) (acc : List (List Nat × List Nat)) (ds : List D) : Prop :=
 ∃ d,C g ds d [.nilp] /\ c9 dst (kOf C hs K ns e R acc) d
def vb (C : CC) (g : Nat) (hs : Option (List Nat)) (K : Env -> Prop) (ns : List av) (t : Nat) (_ : Tag (hs,K,ns)) (e : Env) (R : List Nat) (acc : List (List Nat × List Nat)) (ds : List D) : Prop :=
 ∃ sz es,C g ds .any [.own sz es] /\ kOf C hs K ns e R acc [(t,.ref (.r (rt t 0)) 0 es.length),(rt t 0,.blk sz es)] [(rt t 0,true)]
theorem tr {g : Nat} {hs : Option (List Nat)} {K : Env -> Prop} {ns : List av} {t : Nat} {u : Tag (hs,K,ns)} {R : List Nat} {acc : List (List Nat × List Nat)} {ds : List D} {sz : Nat} {es : List (List D)} (h : C g ds .any [.own sz es]) (hk : doW C hs K ns ⟨⟩ e R acc [(t,.ref (.r (rt t 0)) 0 es.length),(rt t 0,.blk sz es)] [(rt t 0,true)]) : vb C g hs K ns t u e R acc ds:=⟨sz,es,h,hk⟩
def vc (C : CC) (g : Nat) (hs : Option (List Nat)) (K : Env -> Prop) (ns : List av) (dst : Option Nat) (_ : Tag (hs,K,ns)) (e : Env) (R : List Nat) (acc : List (List Nat × List Nat)) (b sz : Nat) (es : List (List D)) (ds : List D) (p : Bool) : Prop:=match dst with
 | none=>∃ es' : List (List D),es'.length=es.length /\ (∀ e ∈ es',e.length=sz /\ ∀ c ∈ e,aq c=true) /\ (p=true \/ ∀ e ∈ es',∀ c ∈ e,bj c=true) /\ C g (.own sz es::ds) .any [.own sz es',.nilp] /\ doW C hs K ns ⟨⟩ e R acc [(b,.blk sz es')] []
 | some t=>(∃ es' : List (List D),es'.length=es.length /\ (∀ e ∈ es',e.length=sz /\ ∀ c ∈ e,aq c=true) /\ (p=true \/ ∀ e ∈ es',∀ c ∈ e,bj c=true) /\ C g (.own sz es::ds) .any [.own sz es',.nilp] /\ doW C hs K ns ⟨⟩ e R acc [(t,.tup []),(b,.blk sz es')] []) \/ (b ≠ rt t 0 /\ 0 < sz /\ ∃ es' : List (List D),(∀ e ∈ es',e.length=sz /\ ∀ c ∈ e,aq c=true) /\ (p=true \/ ∀ e ∈ es',∀ c ∈ e,bj c=true) /\ C g (.own sz es::ds) .any [.own sz es',.nils] /\ doW C hs K ns ⟨⟩ e R acc [(t,.ref (.r (rt t 0)) 0 es'.length),(rt t 0,.blk sz es'),(b,.any)] [(rt t 0,true)])
def DF (C : CC) (g : Nat) (hs : Option (List Nat)) (K : Env -> Prop) (ns : List av) (dst : Option Nat) (_ : Tag (hs,K,ns)) (e : Env) (R : List Nat) (acc : List (List Nat × List Nat)) (b n : Nat) (xs : List Opd) (d : D) : Prop:=match d with
 | .blk sz es=>es.length=n /\ (∀ e ∈ es,∀ c ∈ e,aq c=true) /\ (∀ x ∈ xs,bu (fbE (ac e) b) (vd (fbE (ac e) b) x)) /\ vc C g hs K ns dst ⟨⟩ e R acc b sz es (xs.map (dpv (fbE (ac e) b))) (xs.all fun y=>isV (vd (fbE (ac e) b) y))
 | _=>False
def Lb (C : CC) (g : Nat) (hs : Option (List Nat)) (K : Env -> Prop) (ns : List av) (dst : Option Nat) (_ : Tag (hs,K,ns)) (e : Env) (R : List Nat) (acc : List (List Nat × List Nat)) (xs : List Opd) (d : D) : Prop:=match d with
 | .ref (.r b) k n=>k=0 /\ DF C g hs K ns dst ⟨⟩ e R acc b n xs (ac e b)
 | _=>False
@[simp] theorem PN {f : Nat -> D} {b t : Nat} : fbE f b t=if t=b then .any else f t:=_root_.id rfl
theorem aa {g : Nat} {hs : Option (List Nat)} {K : Env -> Prop} {ns : List av} {dst : Option Nat} {u : Tag (hs,K,ns)} {R : List Nat} {acc : List (List Nat × List Nat)} {p : Bool} {ds : List D} (h : C g ds d []) (hf : isF d=true \/ p=true) (hk : dW C hs K ns dst ⟨⟩ e R acc d) : pj C g hs K ns dst u e R acc p ds:=⟨d,h,hf,hk⟩
def oZ (S : Type) (G : S -> Env) (I : S -> Prop) (m : S -> Nat) (s : S) (Q : cj -> Env -> Prop) : cj -> Env -> Prop:=fun t e'=>match t with
    | .nrm=>∃ s',I s' /\ m s' < m s /\ jK e' (G s')
    | t=>Q t e'
theorem aj {c : dB} {u : Tag (c,Q)} (S : Type) (G : S -> Env) (I : S -> Prop) (m : S -> Nat) (s0 : S) (h0 : I s0) (hw : jK e (G s0))
  (h : ∀ s,I s -> wN C c (oZ S G I m s Q) ⟨⟩ (G s)) : sv C c Q u e:=⟨S,G,I,m,s0,h0,hw,h⟩
@[simp] theorem O8 {u} : wN C .skip Q u e=bM Q ⟨⟩ .nrm e:=_root_.id rfl
@[simp] theorem QL {hs keep ops u} : wN C (.reg false hs keep ops) Q u e=ue C (za keep Q) ops ⟨⟩ e:=_root_.id rfl
@[simp] theorem O5 {hs keep ops u} : wN C (.reg true hs keep ops) Q u e=rq C hs (za keep Q) ops ⟨⟩ e []:=_root_.id rfl
@[simp] theorem QO {x y u} : wN C (.seq x y) Q u e=wN C x (zy C y Q) ⟨⟩ e:=_root_.id rfl
def brB (b : Bool) (X Y : Prop) (_ : Tag (X,Y)) : Prop:=(b=true -> X) /\ (b=false -> Y)
theorem ab {b : Bool} {X Y : Prop} {u} (h1 : b=true -> X) (h2 : b=false -> Y) : brB b X Y u:=⟨h1,h2⟩
@[simp] theorem Hv {X Y : Prop} {u} : brB true X Y u=X:=by simp [brB]
@[simp] theorem En {X Y : Prop} {u} : brB false X Y u=Y:=by simp [brB]
def cdW (C : CC) (x y : dB) (Q : cj -> Env -> Prop) (_ : Tag (x,y,Q)) (e : Env) (d : D) : Prop:=match d with
 | .bool b=>brB b (wN C x Q ⟨⟩ e) (wN C y Q ⟨⟩ e) ⟨⟩
 | .bb=>wN C x Q ⟨⟩ e /\ wN C y Q ⟨⟩ e
 | _=>False
@[simp] theorem Pl {x y u} : cdW C x y Q u e .bb=(wN C x Q ⟨⟩ e /\ wN C y Q ⟨⟩ e):=_root_.id rfl
@[simp] theorem Hw {x y u b} : cdW C x y Q u e (.bool b)=brB b (wN C x Q ⟨⟩ e) (wN C y Q ⟨⟩ e) ⟨⟩:=_root_.id rfl
@[simp] theorem O4 {c x y u} : wN C (.cond c x y) Q u e=cdW C x y Q ⟨⟩ e (vd (ac e) c):=_root_.id rfl
@[simp] theorem Lj {id c u} : wN C (.block id c) Q u e=wN C c (oy id Q) ⟨⟩ e:=_root_.id rfl
@[simp] theorem O7 {c u} : wN C (.loop c) Q u e=sv C c Q ⟨⟩ e:=_root_.id rfl
@[simp] theorem O6 {id u} : wN C (.exit id) Q u e=bM Q ⟨⟩ (.ext id) e:=_root_.id rfl
@[simp] theorem QN {u} : wN C .ret Q u e=bM Q ⟨⟩ .ret e:=_root_.id rfl
@[simp] theorem yk {y u} : bM (zy C y Q) u .nrm e=wN C y Q ⟨⟩ e:=_root_.id rfl
@[simp] theorem yj {y u i} : bM (zy C y Q) u (.ext i) e=bM Q ⟨⟩ (.ext i) e:=_root_.id rfl
@[simp] theorem yl {y u} : bM (zy C y Q) u .ret e=bM Q ⟨⟩ .ret e:=_root_.id rfl
@[simp] theorem vy {id u} : bM (oy id Q) u .nrm e=bM Q ⟨⟩ .nrm e:=_root_.id rfl
@[simp] theorem vx {id u i} : bM (oy id Q) u (.ext i) e=if i=id then bM Q ⟨⟩ .nrm e else bM Q ⟨⟩ (.ext i) e:=_root_.id rfl
@[simp] theorem vz {id u} : bM (oy id Q) u .ret e=bM Q ⟨⟩ .ret e:=_root_.id rfl
@[simp] theorem ya {r u} : bM (fin r d) u .nrm e=gb r d e:=by simp [bM,fin]
@[simp] theorem yb {r u} : bM (fin r d) u .ret e=gb r d e:=by simp [bM,fin]
@[simp] theorem xy {r d} {u : Tag (tI r d)} : bM (tI r d) u .nrm e=jC r d e:=by simp [bM,tI]
@[simp] theorem xz {r d} {u : Tag (tI r d)} : bM (tI r d) u .ret e=jC r d e:=by simp [bM,tI]
@[simp] theorem xw {r sz es} {u : Tag (qT r sz es)} : bM (qT r sz es) u .nrm e=jD r sz es e:=by simp [bM,qT]
@[simp] theorem xx {r sz es} {u : Tag (qT r sz es)} : bM (qT r sz es) u .ret e=jD r sz es e:=by simp [bM,qT]
@[simp] theorem xC {r d sz es} {u : Tag (tK r d sz es)} : bM (tK r d sz es) u .nrm e=((0 < es.length /\ ac e 10015=.blk sz es) /\ gb r d ((10015,.any)::e)):=by simp [bM,tK]
@[simp] theorem xD {r d sz es} {u : Tag (tK r d sz es)} : bM (tK r d sz es) u .ret e=((0 < es.length /\ ac e 10015=.blk sz es) /\ gb r d ((10015,.any)::e)):=by simp [bM,tK]
@[simp] theorem xA {r sz es} {u : Tag (tJ r sz es)} : bM (tJ r sz es) u .nrm e=jE r sz es e:=by simp [bM,tJ]
@[simp] theorem xB {r sz es} {u : Tag (tJ r sz es)} : bM (tJ r sz es) u .ret e=jE r sz es e:=by simp [bM,tJ]
@[simp] theorem xt {r d} {u : Tag (qS r d)} : bM (qS r d) u .nrm e=qj r d e:=by simp [bM,qS]
@[simp] theorem xu {r d} {u : Tag (qS r d)} : bM (qS r d) u .ret e=qj r d e:=by simp [bM,qS]
@[simp] theorem vB {S G I m s u} : bM (oZ S G I m s Q) u .nrm e=∃ s',I s' /\ m s' < m s /\ jK e (G s'):=_root_.id rfl
@[simp] theorem vA {S G I m s u i} : bM (oZ S G I m s Q) u (.ext i) e=bM Q ⟨⟩ (.ext i) e:=_root_.id rfl
@[simp] theorem vC {S G I m s u} : bM (oZ S G I m s Q) u .ret e=bM Q ⟨⟩ .ret e:=_root_.id rfl
end
section
variable {C : CC} {Q : cj -> Env -> Prop} {e : Env} {K : Env -> Prop} {dst : Option Nat} {d : D} {hs : Option (List Nat)} {ns : List av} {R : List Nat} {acc : List (List Nat × List Nat)} {u : Tag (hs,K,ns)}
@[simp] theorem KE {keep u} : ue C (za keep Q) [] u e=bM Q ⟨⟩ .nrm (prune keep e):=_root_.id rfl
@[simp] theorem KD {h keep u} : rq C h (za keep Q) [] u e acc=(Ix h acc /\ bM Q ⟨⟩ .nrm (prune keep e)):=_root_.id rfl
@[simp] theorem GH {dst op ns u} : ue C K (⟨dst,op,none⟩::ns) u e=opW C none K ns dst op ⟨⟩ e [] []:=_root_.id rfl
@[simp] theorem GF {h dst op ns u} : rq C h K (⟨dst,op,none⟩::ns) u e acc=(chk (ac e) ⟨dst,op,none⟩=true /\ opW C (some h) K ns dst op ⟨⟩ e (iC (ac e) ⟨dst,op,none⟩) acc):=_root_.id rfl
def m4 (C : CC) (h : List Nat) (K : Env -> Prop) (ns : List av) (_ : Tag (h,K,ns)) (e : Env) (dst : Option Nat) (R : List Nat) (acc : List (List Nat × List Nat)) : Prop:=gJ e dst fun e'=>jg C h K ns e' ((R,tG dst)::acc)
@[simp] theorem Dx {h t ns u} : m4 C h K ns u e (some t) R acc=rq C h K ns ⟨⟩ ((t,.tup [])::e) ((R,[4 * t])::acc):=_root_.id rfl
@[simp] theorem Dw {h ns u} : m4 C h K ns u e none R acc=rq C h K ns ⟨⟩ e ((R,[])::acc):=_root_.id rfl
def gdT (C : CC) (K : Env -> Prop) (ns : List av) (dst : Option Nat) (op : NOp) (s : Nat) (want : Bool) (_ : Tag (K,ns)) (e : Env) (d : D) : Prop:=match d with
 | .bool b=>(b=want -> opW C none K ns dst op ⟨⟩ ((s,.bool want)::e) [] []) /\ (b=!want -> dW C none K ns dst ⟨⟩ ((s,.bool !want)::e) [] [] (.tup []))
 | .tup []=>dW C none K ns dst ⟨⟩ e [] [] (.tup [])
 | _=>False
@[simp] theorem Ig {op s b u} : gdT C K ns dst op s true u e (.bool b)=brB b (opW C none K ns dst op ⟨⟩ ((s,.bool true)::e) [] []) (dW C none K ns dst ⟨⟩ ((s,.bool false)::e) [] [] (.tup [])) ⟨⟩:=_root_.id rfl
@[simp] theorem E8 {op s b u} : gdT C K ns dst op s false u e (.bool b)=brB b (dW C none K ns dst ⟨⟩ ((s,.bool true)::e) [] [] (.tup [])) (opW C none K ns dst op ⟨⟩ ((s,.bool false)::e) [] []) ⟨⟩:=by
 simp only [gdT,brB,Bool.not_false];exact propext ⟨fun h=>⟨h.2,h.1⟩,fun h=>⟨h.2,h.1⟩⟩
@[simp] theorem If {op s want u} : gdT C K ns dst op s want u e (.tup [])=dW C none K ns dst ⟨⟩ e [] [] (.tup []):=_root_.id rfl
@[simp] theorem GI {dst op s want ns u} : ue C K (⟨dst,op,some (s,want)⟩::ns) u e=gdT C K ns dst op s want ⟨⟩ e (ac e s):=by
 simp only [ue,ij,opW,qB,gJ,gdT,dW,c9,kOf,AG,dH]
 cases ac e s <;> cases dst <;> (first | rfl | (rename_i x _ ;cases x <;> rfl) | (rename_i x;cases x <;> rfl))
def gdD (C : CC) (h : List Nat) (K : Env -> Prop) (ns : List av) (dst : Option Nat) (op : NOp) (want : Bool) (_ : Tag (K,ns)) (e : Env) (R : List Nat) (acc : List (List Nat × List Nat)) (d : D) : Prop:=match d with
 | .bool b=>(b=want -> opW C (some h) K ns dst op ⟨⟩ e R acc) /\ (b=!want -> m4 C h K ns ⟨⟩ e dst R acc)
 | .tup []=>m4 C h K ns ⟨⟩ e dst R acc
 | _=>False
@[simp] theorem Ie {h op b u} : gdD C h K ns dst op true u e R acc (.bool b)=brB b (opW C (some h) K ns dst op ⟨⟩ e R acc) (m4 C h K ns ⟨⟩ e dst R acc) ⟨⟩:=_root_.id rfl
@[simp] theorem E7 {h op b u} : gdD C h K ns dst op false u e R acc (.bool b)=brB b (m4 C h K ns ⟨⟩ e dst R acc) (opW C (some h) K ns dst op ⟨⟩ e R acc) ⟨⟩:=by
 simp only [gdD,brB,Bool.not_false];exact propext ⟨fun h=>⟨h.2,h.1⟩,fun h=>⟨h.2,h.1⟩⟩
@[simp] theorem Id {h op want u} : gdD C h K ns dst op want u e R acc (.tup [])=m4 C h K ns ⟨⟩ e dst R acc:=_root_.id rfl
@[simp] theorem GG {h dst op s want ns u} : rq C h K (⟨dst,op,some (s,want)⟩::ns) u e acc=(chk (ac e) ⟨dst,op,some (s,want)⟩=true /\ gdD C h K ns dst op want ⟨⟩ e (iC (ac e) ⟨dst,op,some (s,want)⟩) acc (ac e s)):=_root_.id rfl
@[simp] theorem HH {K ns u ws ks} : doW C none K ns u e R acc ws ks=ue C K ns ⟨⟩ (ws++dH ks e):=_root_.id rfl
@[simp] theorem HG {h K ns u ws ks} : doW C (some h) K ns u e R acc ws ks=(wOk R ws ks=true /\ rq C h K ns ⟨⟩ (ws++dH ks e) ((R,wrK ws ks)::acc)):=_root_.id rfl
@[simp] theorem Lz {t} : dW C hs K ns (some t) u e R acc d=doW C hs K ns ⟨⟩ e R acc [(t,d)] []:=_root_.id rfl
@[simp] theorem Lx : dW C hs K ns none u e R acc d=doW C hs K ns ⟨⟩ e R acc [] []:=_root_.id rfl
def aY (ks : List (Nat × Bool)) (d : D) : D:=if aK ks d then .any else d
theorem cr (ks : List (Nat × Bool)) (d : D) : aY ks d=bif aK ks d then .any else d:=by
 unfold aY;cases aK ks d <;> rfl
@[simp] theorem Ga : dH [] e=e:=_root_.id rfl
@[simp] theorem F9 {k ks} : dH (k::ks) []=[]:=_root_.id rfl
@[simp] theorem CG {k ks s d} : dH (k::ks) ((s,d)::e)=(s,aY (k::ks) d)::dH (k::ks) e:=_root_.id rfl
@[simp] theorem FY {ks} : aY ks .any=.any:=by simp [aY]
@[simp] theorem F0 {ks k n} : aY ks (.int k n)=.int k n:=by simp [aY,aK,dg,aT]
@[simp] theorem CD {ks n} : aY ks (.bool n)=.bool n:=by simp [aY,aK,dg,aT]
@[simp] theorem F6 {ks n} : aY ks (.str n)=.str n:=by simp [aY,aK,dg,aT]
@[simp] theorem JL {ks} : aY ks .bb=.bb:=by simp [aY,aK,dg,aT]
@[simp] theorem CE {ks} : aY ks .nilp=.nilp:=by simp [aY,aK,dg,aT]
@[simp] theorem CF {ks} : aY ks .nils=.nils:=by simp [aY,aK,dg,aT]
@[simp] theorem FW {ks n} : aY ks (.agg n)=.agg n:=by simp [aY,aK,dg,aT]
@[simp] theorem F8 {ks n} : aY ks (.tup n)=.tup n:=by simp [aY,aK,dg,aT]
@[simp] theorem vX {ks n} : aY ks (.sl n)=.sl n:=by simp [aY,aK,dg,aT]
@[simp] theorem tT {ks n} : aY ks (.ptr n)=.ptr n:=by simp [aY,aK,dg,aT]
@[simp] theorem JM {ks g n} : aY ks (.fn g n)=.fn g n:=by simp [aY,aK,dg,aT]
@[simp] theorem nL {ks g n} : aY ks (.blk g n)=.blk g n:=by simp [aY,aK,dg,aT]
@[simp] theorem JN {ks kt et xs vs} : aY ks (.mp kt et xs vs)=.mp kt et xs vs:=by simp [aY,aK,dg,aT]
@[simp] theorem F4 {b all ks p k n} : aY ((b,all)::ks) (.ref p k n)=if bP b all p then .any else aY ks (.ref p k n):=by
 have h : aY ((b,all)::ks) (.ref p k n)=bif (bP b all p || aK ks (.ref p k n)) then .any else .ref p k n:=cr ..
 rw [h,cr]
 cases bP b all p <;> rfl
@[simp] theorem FV {b all ks p k n} : aY ((b,all)::ks) (.adr p k n)=if bP b all p then .any else aY ks (.adr p k n):=by
 have h : aY ((b,all)::ks) (.adr p k n)=bif (bP b all p || aK ks (.adr p k n)) then .any else .adr p k n:=cr ..
 rw [h,cr]
 cases bP b all p <;> rfl
@[simp] theorem FX {b all ks n} : aY ((b,all)::ks) (.agx n)=if n.any (aT b all) then .any else aY ks (.agx n):=by
 have h : aY ((b,all)::ks) (.agx n)=bif (n.any (aT b all) || aK ks (.agx n)) then .any else .agx n:=cr ..
 rw [h,cr]
 cases n.any (aT b all) <;> rfl
@[simp] theorem FZ {b all ks g n} : aY ((b,all)::ks) (.fnx g n)=if n.any (aT b all) then .any else aY ks (.fnx g n):=by
 have h : aY ((b,all)::ks) (.fnx g n)=bif (n.any (aT b all) || aK ks (.fnx g n)) then .any else .fnx g n:=cr ..
 rw [h,cr]
 cases n.any (aT b all) <;> rfl
@[simp] theorem F2 {d} : aY [] d=d:=by simp [aY,aK]
@[simp] theorem F5 {ks b es} : aY ks (slx b es)=slx b es:=by cases b <;> cases es <;> simp [slx]
def jd (C : CC) (hs : Option (List Nat)) (K : Env -> Prop) (ns : List av) (dst : Option Nat) (_ : Tag (hs,K,ns)) (e : Env) (R : List Nat) (acc : List (List Nat × List Nat)) (sz : Nat) (es : List (List D)) (i : Nat) : Prop :=
 ∃ c,es[i]? = some c /\ c.length=sz /\ c9 dst (kOf C hs K ns e R acc) (.ptr c)
@[simp] theorem Iv {α : Type} [Inhabited α] {sz : Nat} {xs : List α} {f : α -> List D} {i : Nat} : jd C hs K ns dst u e R acc sz (xs.map f) i=(i < xs.length /\ (f xs[i]!).length=sz /\ dW C hs K ns dst ⟨⟩ e R acc (.ptr (f xs[i]!))):=by
 apply propext
 unfold jd dW
 constructor
 ·rintro ⟨c,h,h1,h2⟩
  rw [List.getElem?_map,Option.map_eq_some_iff] at h
  obtain ⟨x,hx,rfl⟩:=h
  obtain ⟨hi,rfl⟩:=List.getElem?_eq_some_iff.1 hx
  rw [getElem!_pos xs i hi]
  exact ⟨hi,h1,h2⟩
 ·rintro ⟨hi,h1,h2⟩
  rw [getElem!_pos xs i hi] at h1 h2
  exact ⟨_,by rw [List.getElem?_map,List.getElem?_eq_getElem hi];rfl,h1,h2⟩
def BM (C : CC) (hs : Option (List Nat)) (K : Env -> Prop) (ns : List av) (dst : Option Nat) (_ : Tag (hs,K,ns)) (e : Env) (R : List Nat) (acc : List (List Nat × List Nat)) (s : List UInt8) (i : Nat) : Prop :=
 ∃ b,s[i]? = some b /\ c9 dst (kOf C hs K ns e R acc) (.int .u8 b.toNat)
@[simp] theorem Lw {s : List UInt8} {i : Nat} : BM C hs K ns dst u e R acc s i=(i < s.length /\ dW C hs K ns dst ⟨⟩ e R acc (.int .u8 (s[i]!).toNat)):=by
 apply propext
 unfold BM dW
 constructor
 ·rintro ⟨b,h,h2⟩
  obtain ⟨hi,rfl⟩:=List.getElem?_eq_some_iff.1 h
  rw [getElem!_pos s i hi]
  exact ⟨hi,h2⟩
 ·rintro ⟨hi,h2⟩
  rw [getElem!_pos s i hi] at h2
  exact ⟨_,List.getElem?_eq_getElem hi,h2⟩
def la (C : CC) (hs : Option (List Nat)) (K : Env -> Prop) (ns : List av) (dst : Option Nat) (_ : Tag (hs,K,ns)) (e : Env) (R : List Nat) (acc : List (List Nat × List Nat)) (n : Nat) (ag : Bool) (p : Pa) (es : List (List D)) (i off : Nat) : Prop :=
 ∃ r,es[i]? = some r /\ off + n <= r.length /\ match ag with
    | true=>(((r.drop off).take n).all isV=true -> c9 dst (kOf C hs K ns e R acc) (.agg ((r.drop off).take n))) /\
      (((r.drop off).take n).all isV=false -> c9 dst (kOf C hs K ns e R acc) (.agx (((r.drop off).take n).mapIdx fun j c=>ldc p i (off + j) c)))
    | false=>c9 dst (kOf C hs K ns e R acc) (ldc p i off ((r.drop off).headD .any))
theorem sO {n : Nat} {ag : Bool} {p : Pa} {es : List (List D)} {i off : Nat} {r : List D} (hr : es[i]? = some r) (hl : off + n <= r.length) (hk : match ag with
    | true=>(((r.drop off).take n).all isV=true -> dW C hs K ns dst ⟨⟩ e R acc (.agg ((r.drop off).take n))) /\
      (((r.drop off).take n).all isV=false -> dW C hs K ns dst ⟨⟩ e R acc (.agx (((r.drop off).take n).mapIdx fun j c=>ldc p i (off + j) c)))
    | false=>dW C hs K ns dst ⟨⟩ e R acc (ldc p i off ((r.drop off).headD .any))) : la C hs K ns dst u e R acc n ag p es i off:=by
 refine ⟨r,hr,hl,?_⟩
 cases ag <;> exact hk
@[simp] theorem KQ {n : Nat} {ag : Bool} {p : Pa} {r : List D} {off : Nat} : la C hs K ns dst u e R acc n ag p [r] 0 off=(off + n <= r.length /\ match ag with
    | true=>(((r.drop off).take n).all isV=true -> dW C hs K ns dst ⟨⟩ e R acc (.agg ((r.drop off).take n))) /\
      (((r.drop off).take n).all isV=false -> dW C hs K ns dst ⟨⟩ e R acc (.agx (((r.drop off).take n).mapIdx fun j c=>ldc p 0 (off + j) c)))
    | false=>dW C hs K ns dst ⟨⟩ e R acc (ldc p 0 off ((r.drop off).headD .any))):=by
 apply propext
 constructor
 ·rintro ⟨r',h1,h2,h3⟩
  simp at h1;subst h1
  refine ⟨h2,?_⟩
  cases ag <;> exact h3
 ·rintro ⟨h2,h3⟩
  refine ⟨r,rfl,h2,?_⟩
  cases ag <;> exact h3
end
section
variable {C : CC} {Q : cj -> Env -> Prop} {e : Env} {K : Env -> Prop} {dst : Option Nat} {hs : Option (List Nat)} {ns : List av} {R : List Nat} {acc : List (List Nat × List Nat)} {u : Tag (hs,K,ns)}
@[simp] theorem OV {x v1} : opW C hs K ns dst (.mov x) v1 e R acc=(isS (vd (ac e) x)=true /\ dW C hs K ns dst ⟨⟩ e R acc (vd (ac e) x)):=_root_.id rfl
@[simp] theorem OY {x v1} : opW C hs K ns dst (.nck x) v1 e R acc=(match (generalizing:=false) vd (ac e) x with
  | .ptr ds=>dW C hs K ns dst ⟨⟩ e R acc (.ptr ds)
  | .adr p i off=>dW C hs K ns dst ⟨⟩ e R acc (.adr p i off)
  | .ptx ds=>dW C hs K ns dst ⟨⟩ e R acc (.ptx ds)
  | _=>False):=_root_.id rfl
@[simp] theorem KC {c a b v1} : opW C hs K ns dst (.pick c a b) v1 e R acc=(match (generalizing:=false) vd (ac e) c with
  | .bool v=>(v=true -> isS (vd (ac e) a)=true /\ dW C hs K ns dst ⟨⟩ e R acc (vd (ac e) a)) /\ (v=false -> isS (vd (ac e) b)=true /\ dW C hs K ns dst ⟨⟩ e R acc (vd (ac e) b))
  | _=>False):=_root_.id rfl
@[simp] theorem OE {op x y v1} : opW C hs K ns dst (.bin op x y) v1 e R acc=(match (generalizing:=false) vd (ac e) x,vd (ac e) y with
  | .int k a,.int k' b=>match (generalizing:=false) op with
   | .add=>k=k' /\ dW C hs K ns dst ⟨⟩ e R acc (.int k (k.wrap (a + b)))
   | .sub=>k=k' /\ dW C hs K ns dst ⟨⟩ e R acc (.int k (k.wrap (a - b)))
   | .mul=>k=k' /\ dW C hs K ns dst ⟨⟩ e R acc (.int k (k.wrap (a * b)))
   | .quo=>k=k' /\ b ≠ 0 /\ dW C hs K ns dst ⟨⟩ e R acc (.int k (k.wrap (a.tdiv b)))
   | .rem=>k=k' /\ b ≠ 0 /\ dW C hs K ns dst ⟨⟩ e R acc (.int k (a.tmod b))
   | .and=>k=k' /\ dW C hs K ns dst ⟨⟩ e R acc (.int k (bits .and k a b))
   | .or=>k=k' /\ dW C hs K ns dst ⟨⟩ e R acc (.int k (bits .or k a b))
   | .xor=>k=k' /\ dW C hs K ns dst ⟨⟩ e R acc (.int k (bits .xor k a b))
   | .andNot=>k=k' /\ dW C hs K ns dst ⟨⟩ e R acc (.int k (bits .andNot k a b))
   | .shl=>0 <= b /\ dW C hs K ns dst ⟨⟩ e R acc (.int k (k.wrap (a * 2 ^ (min b.toNat k.bits))))
   | .shr=>0 <= b /\ dW C hs K ns dst ⟨⟩ e R acc (.int k (a.fdiv (2 ^ (min b.toNat k.bits))))
   | .eql=>k=k' /\ dW C hs K ns dst ⟨⟩ e R acc (.bool (decide (a=b)))
   | .neq=>k=k' /\ dW C hs K ns dst ⟨⟩ e R acc (.bool (!decide (a=b)))
   | .lss=>k=k' /\ dW C hs K ns dst ⟨⟩ e R acc (.bool (decide (a < b)))
   | .leq=>k=k' /\ dW C hs K ns dst ⟨⟩ e R acc (.bool (decide (a <= b)))
   | .gtr=>k=k' /\ dW C hs K ns dst ⟨⟩ e R acc (.bool (decide (b < a)))
   | .geq=>k=k' /\ dW C hs K ns dst ⟨⟩ e R acc (.bool (decide (b <= a)))
  | .str a,.str b=>match (generalizing:=false) op with
   | .eql=>dW C hs K ns dst ⟨⟩ e R acc (.bool (decide (a=b)))
   | .neq=>dW C hs K ns dst ⟨⟩ e R acc (.bool (!decide (a=b)))
   | .add=>((a++b).length : Int) <= 9223372036854775807 /\ dW C hs K ns dst ⟨⟩ e R acc (.str (a++b))
   | .lss=>dW C hs K ns dst ⟨⟩ e R acc (.bool (Op.bytesLess a b))
   | .leq=>dW C hs K ns dst ⟨⟩ e R acc (.bool (Op.bytesLess a b || a == b))
   | .gtr=>dW C hs K ns dst ⟨⟩ e R acc (.bool !(Op.bytesLess a b || a == b))
   | .geq=>dW C hs K ns dst ⟨⟩ e R acc (.bool !(Op.bytesLess a b))
   | _=>False
  | _,_=>False):=_root_.id rfl
@[simp] theorem Qz {op x v1} : opW C hs K ns dst (.un op x) v1 e R acc=(match (generalizing:=false) vd (ac e) x with
  | .bool b=>match (generalizing:=false) op with
   | .not=>dW C hs K ns dst ⟨⟩ e R acc (.bool (!b))
   | _=>False
  | .int k n=>match (generalizing:=false) op with
   | .neg=>dW C hs K ns dst ⟨⟩ e R acc (.int k (k.wrap (0 - n)))
   | _=>False
  | _=>False):=_root_.id rfl
@[simp] theorem Kv {k x v1} : opW C hs K ns dst (.conv k x) v1 e R acc=(match (generalizing:=false) vd (ac e) x with
  | .int _ n=>dW C hs K ns dst ⟨⟩ e R acc (.int k (k.wrap n))
  | _=>False):=_root_.id rfl
@[simp] theorem OD {neg ks x y v1} : opW C hs K ns dst (.beq neg ks x y) v1 e R acc=(match (generalizing:=false) vd (ac e) x,vd (ac e) y with
  | .bool a,.bool b=>ks=[] /\ dW C hs K ns dst ⟨⟩ e R acc (.bool ((a == b) != neg))
  | .agg a,.agg b=>ks ≠ [] /\ match (generalizing:=false) ck ks a b with
   | some r=>dW C hs K ns dst ⟨⟩ e R acc (.bool (r != neg))
   | none=>False
  | .nils,.nils=>ks=[9] /\ dW C hs K ns dst ⟨⟩ e R acc (.bool (!neg))
  | .sl es,.nils=>ks=[9] /\ (0 < es.length -> dW C hs K ns dst ⟨⟩ e R acc (.bool neg)) /\ (es.length=0 -> dW C hs K ns dst ⟨⟩ e R acc .bb)
  | .nilp,.nilp=>ks=[8] /\ dW C hs K ns dst ⟨⟩ e R acc (.bool (!neg))
  | .ptr _,.nilp=>ks=[8] /\ dW C hs K ns dst ⟨⟩ e R acc (.bool neg)
  | _,_=>False):=_root_.id rfl
@[simp] theorem ON {off n ag x v1} : opW C hs K ns dst (.fld off n ag x) v1 e R acc=(match (generalizing:=false) vd (ac e) x with
  | .agg ds=>off + n <= ds.length /\ dW C hs K ns dst ⟨⟩ e R acc (lL ag n (ds.drop off))
  | .agx ds=>off + n <= ds.length /\ match (generalizing:=false) ag with
   | true=>dW C hs K ns dst ⟨⟩ e R acc (.agx ((ds.drop off).take n))
   | false=>dW C hs K ns dst ⟨⟩ e R acc ((ds.drop off).headD .any)
  | _=>False):=_root_.id rfl
@[simp] theorem Ky {len sz ag x i v1} : opW C hs K ns dst (.idxA len sz ag x i) v1 e R acc=(match (generalizing:=false) vd (ac e) x,vd (ac e) i with
  | .agg ds,.int _ j=>0 <= j /\ j < len /\ j.toNat * sz + sz <= ds.length /\ dW C hs K ns dst ⟨⟩ e R acc (lL ag sz (ds.drop (j.toNat * sz)))
  | .agx ds,.int _ j=>0 <= j /\ j < len /\ j.toNat * sz + sz <= ds.length /\ match (generalizing:=false) ag with
   | true=>dW C hs K ns dst ⟨⟩ e R acc (.agx ((ds.drop (j.toNat * sz)).take sz))
   | false=>dW C hs K ns dst ⟨⟩ e R acc ((ds.drop (j.toNat * sz)).headD .any)
  | _,_=>False):=_root_.id rfl
@[simp] theorem OZ {len sz x v1} : opW C hs K ns dst (.slA len sz x) v1 e R acc=(match (generalizing:=false) vd (ac e) x with
  | .ptr ds=>0 < len /\ 0 < sz /\ len * sz <= ds.length /\ dW C hs K ns dst ⟨⟩ e R acc (.sl (cf sz len ds))
  | _=>False):=_root_.id rfl
@[simp] theorem OK {x v1} : opW C hs K ns dst (.cvS x) v1 e R acc=(match (generalizing:=false) vd (ac e) x with
  | .sl es=>0 < es.length /\ (∀ r ∈ es,∃ n : Nat,r=[.int .u8 n] /\ n < 256) /\ dW C hs K ns dst ⟨⟩ e R acc (.str (es.map js))
  | _=>False):=_root_.id rfl
@[simp] theorem Kz {x i v1} : opW C hs K ns dst (.idxS x i) v1 e R acc=(match (generalizing:=false) vd (ac e) x,vd (ac e) i with
  | .str s,.int _ j=>0 <= j /\ BM C hs K ns dst ⟨⟩ e R acc s j.toNat
  | _,_=>False):=_root_.id rfl
@[simp] theorem OL {i x v1} : opW C hs K ns dst (.ext i x) v1 e R acc=(match (generalizing:=false) vd (ac e) x with
  | .tup ds=>∃ d,ds[i]? = some d /\ dW C hs K ns dst ⟨⟩ e R acc d
  | .tpx ds=>∃ d,ds[i]? = some d /\ dW C hs K ns dst ⟨⟩ e R acc d
  | _=>False):=_root_.id rfl
@[simp] theorem OM {off x v1} : opW C hs K ns dst (.fad off x) v1 e R acc=(match (generalizing:=false) vd (ac e) x with
  | .adr p i o=>dW C hs K ns dst ⟨⟩ e R acc (.adr p i (o + off))
  | .ptr ds=>dW C hs K ns dst ⟨⟩ e R acc (.ptr (ds.drop off))
  | .ptx ds=>dW C hs K ns dst ⟨⟩ e R acc (.ptx (ds.drop off))
  | _=>False):=_root_.id rfl
@[simp] theorem Kw {len sz x i v1} : opW C hs K ns dst (.iadA len sz x i) v1 e R acc=(match (generalizing:=false) vd (ac e) x,vd (ac e) i with
  | .adr p r o,.int _ j=>0 <= j /\ j < len /\ dW C hs K ns dst ⟨⟩ e R acc (.adr p r (o + j.toNat * sz))
  | .ptr ds,.int _ j=>0 <= j /\ j < len /\ dW C hs K ns dst ⟨⟩ e R acc (.ptr (ds.drop (j.toNat * sz)))
  | _,_=>False):=_root_.id rfl
@[simp] theorem Qu {n ag x v1} : opW C hs K ns dst (.ld n ag x) v1 e R acc=(match (generalizing:=false) vd (ac e) x with
  | .adr p i off=>match (generalizing:=false) a7 (ac e) p with
   | some (_,es)=>la C hs K ns dst ⟨⟩ e R acc n ag p es i off
   | none=>False
  | .ptr ds=>n <= ds.length /\ dW C hs K ns dst ⟨⟩ e R acc (lL ag n ds)
  | .ptx ds=>n <= ds.length /\ match (generalizing:=false) ag with
   | true=>((ds.take n).all isV=true -> dW C hs K ns dst ⟨⟩ e R acc (.agg (ds.take n))) /\ ((ds.take n).all isV=false -> dW C hs K ns dst ⟨⟩ e R acc (.agx (ds.take n)))
   | false=>0 < n /\ dW C hs K ns dst ⟨⟩ e R acc (ds.headD .any)
  | _=>False):=_root_.id rfl
@[simp] theorem OF {zs parts v1} : opW C hs K ns dst (.bld zs parts) v1 e R acc=((∀ p ∈ parts,isS (vd (ac e) p.2.2)=true /\ p.1 + p.2.1 <= zs.length /\ match (generalizing:=false) vd (ac e) p.2.2 with
    | .agg ds=>ds.length=p.2.1
    | .agx ds=>ds.length=p.2.1
    | .any=>False
    | .tpx _=>False
    | .ptx _=>False
    | .fnx _ _=>False
    | _=>p.2.1=1) /\
   ((parts.all fun p=>isV (vd (ac e) p.2.2))=true -> dW C hs K ns dst ⟨⟩ e R acc (.agg (jk zs (parts.map fun p=>(p.1,p.2.1,vd (ac e) p.2.2))))) /\
   ((parts.all fun p=>isV (vd (ac e) p.2.2))=false -> dW C hs K ns dst ⟨⟩ e R acc (.agx (jk zs (parts.map fun p=>(p.1,p.2.1,ca (vd (ac e) p.2.2))))))):=_root_.id rfl
@[simp] theorem KA {x v1} : opW C hs K ns dst (.lens x) v1 e R acc=(match (generalizing:=false) vd (ac e) x with
  | .str s=>dW C hs K ns dst ⟨⟩ e R acc (.int .i64 s.length)
  | _=>False):=_root_.id rfl
@[simp] theorem Qv {g xs v1} : opW C hs K ns dst (.mk g xs) v1 e R acc=((∀ x ∈ xs,isP (vd (ac e) x)=true) /\ ((xs.all fun x=>isV (vd (ac e) x))=true -> dW C hs K ns dst ⟨⟩ e R acc (.fn g (xs.map (vd (ac e))))) /\ ((xs.all fun x=>isV (vd (ac e) x))=false -> dW C hs K ns dst ⟨⟩ e R acc (.fnx g (xs.map (vd (ac e)))))):=_root_.id rfl
@[simp] theorem O1 {x lo hi v1} : opW C hs K ns dst (.slS x lo hi) v1 e R acc=(match (generalizing:=false) vd (ac e) x with
  | .str s=>dc (ac e) hi s.length (fun h=>dc (ac e) lo 0 (fun l=>l <= h /\ h <= s.length /\ dW C hs K ns dst ⟨⟩ e R acc (.str ((s.take h).drop l))) ⟨⟩) ⟨⟩
  | _=>False):=_root_.id rfl
@[simp] theorem Qw {x y v1} : opW C hs K ns dst (.mn x y) v1 e R acc=(match (generalizing:=false) vd (ac e) x,vd (ac e) y with
  | .int k a,.int k' b=>k=k' /\ dW C hs K ns dst ⟨⟩ e R acc (.int k (if b < a then b else a))
  | _,_=>False):=_root_.id rfl
@[simp] theorem Qx {x y v1} : opW C hs K ns dst (.mx x y) v1 e R acc=(match (generalizing:=false) vd (ac e) x,vd (ac e) y with
  | .int k a,.int k' b=>k=k' /\ dW C hs K ns dst ⟨⟩ e R acc (.int k (if a < b then b else a))
  | _,_=>False):=_root_.id rfl
@[simp] theorem Gu {x y c v1} : opW C hs K ns dst (.add64 x y c) v1 e R acc=(match (generalizing:=false) vd (ac e) x,vd (ac e) y,vd (ac e) c with
  | .int .u64 a,.int .u64 b,.int .u64 k=>0 <= a /\ a < 18446744073709551616 /\ 0 <= b /\ b < 18446744073709551616 /\ 0 <= k /\ k <= 1 /\
    dW C hs K ns dst ⟨⟩ e R acc (.tup [.int .u64 ((a + b + k) % 18446744073709551616),.int .u64 ((a + b + k) / 18446744073709551616)])
  | _,_,_=>False):=_root_.id rfl
@[simp] theorem GE {x y c v1} : opW C hs K ns dst (.sub64 x y c) v1 e R acc=(match (generalizing:=false) vd (ac e) x,vd (ac e) y,vd (ac e) c with
  | .int .u64 a,.int .u64 b,.int .u64 k=>0 <= a /\ a < 18446744073709551616 /\ 0 <= b /\ b < 18446744073709551616 /\ 0 <= k /\ k <= 1 /\
    dW C hs K ns dst ⟨⟩ e R acc (.tup [.int .u64 ((a - b - k) % 18446744073709551616),.int .u64 (if a < b + k then 1 else 0)])
  | _,_,_=>False):=_root_.id rfl
@[simp] theorem KB {sz v1} : opW C hs K ns dst (.nilo sz) v1 e R acc=(match (generalizing:=false) dst with
  | some t=>0 < sz /\ doW C hs K ns ⟨⟩ e R acc [(t,.ref (.r (rt t 0)) 0 0),(rt t 0,.blk sz [])] [(rt t 0,true)]
  | none=>False):=_root_.id rfl
@[simp] theorem OH {x t v1} : opW C hs K ns (some t) (.box [] x) v1 e R acc=gn (ac e) (vd (ac e) x) [] (fun cs bs=>bs.contains (rt t 0)=false /\ doW C hs K ns ⟨⟩ e R acc ((t,.adr (.r (rt t 0)) 0 0)::(rt t 0,.blk cs.length [cs])::cu bs) [(rt t 0,true)]) ⟨⟩:=_root_.id rfl
@[simp] theorem OA {zs v1} : opW C hs K ns dst (.alc zs) v1 e R acc=(match (generalizing:=false) dst with
  | some t=>doW C hs K ns ⟨⟩ e R acc [(t,.adr (.r (rt t 0)) 0 0),(rt t 0,.blk zs.length [zs])] [(rt t 0,true)]
  | none=>False):=_root_.id rfl
@[simp] theorem OG {sz len zs parts t v1} : opW C hs K ns (some t) (.bls sz len zs [] parts) v1 e R acc=oV (ac e) sz parts (List.replicate len zs) [] (fun es bs=>bC bs=true /\ bs.contains (rt t 0)=false /\ doW C hs K ns ⟨⟩ e R acc ((t,.ref (.r (rt t 0)) 0 len)::(rt t 0,.blk sz es)::cu bs) [(rt t 0,true)]) ⟨⟩:=_root_.id rfl
@[simp] theorem OU {sz by_ zs n c v1} : opW C hs K ns dst (.mks sz by_ zs n c) v1 e R acc=(match (generalizing:=false) dst with
  | some t=>match (generalizing:=false) vd (ac e) n,vd (ac e) c with
   | .int _ n,.int _ c=>0 <= n /\ n <= c /\ c * by_ <= 140737488355328 /\ doW C hs K ns ⟨⟩ e R acc [(t,.ref (.r (rt t 0)) 0 n.toNat),(rt t 0,.blk sz (List.replicate c.toNat zs))] [(rt t 0,true)]
   | _,_=>False
  | none=>False):=_root_.id rfl
def stM (C : CC) (hs : Option (List Nat)) (K : Env -> Prop) (ns : List av) (_ : Tag (hs,K,ns)) (e : Env) (R : List Nat) (acc : List (List Nat × List Nat)) (n : Nat) (v : D) (cs : List D) (bs : List Nat) (a : D) : Prop:=match a with
 | .adr (.r b) i off=>bs.contains b=false /\ dM (ac e b) (fun sz es=>gj es[i]? (fun r=>off + n <= r.length /\ doW C hs K ns ⟨⟩ e R acc ((b,.blk sz (bz es i off n cs))::cu bs) (stK v [] b)) ⟨⟩) ⟨⟩
 | .adr (.n b i0 o0) i off=>bs=[] /\ (∀ c ∈ cs,aq c=true) /\ dM (ac e b) (fun sz0 es0=>gj es0[i0]? (fun row0=>jB row0[o0]? (fun sz es=>gj es[i]? (fun r=>off + n <= r.length /\ doW C hs K ns ⟨⟩ e R acc [(b,.blk sz0 (bz es0 i0 o0 1 [.own sz (bz es i off n cs)]))] []) ⟨⟩) ⟨⟩) ⟨⟩) ⟨⟩
 | _=>False
@[simp] theorem Rb {n v cs bs b i off} : stM C hs K ns u e R acc n v cs bs (.adr (.r b) i off)=(bs.contains b=false /\ dM (ac e b) (fun sz es=>gj es[i]? (fun r=>off + n <= r.length /\ doW C hs K ns ⟨⟩ e R acc ((b,.blk sz (bz es i off n cs))::cu bs) (stK v [] b)) ⟨⟩) ⟨⟩):=_root_.id rfl
@[simp] theorem Ra {n v cs bs b i0 o0 i off} : stM C hs K ns u e R acc n v cs bs (.adr (.n b i0 o0) i off)=(bs=[] /\ (∀ c ∈ cs,aq c=true) /\ dM (ac e b) (fun sz0 es0=>gj es0[i0]? (fun row0=>jB row0[o0]? (fun sz es=>gj es[i]? (fun r=>off + n <= r.length /\ doW C hs K ns ⟨⟩ e R acc [(b,.blk sz0 (bz es0 i0 o0 1 [.own sz (bz es i off n cs)]))] []) ⟨⟩) ⟨⟩) ⟨⟩) ⟨⟩):=_root_.id rfl
@[simp] theorem Qy {n a v v1} : opW C hs K ns dst (.st n [] a v) v1 e R acc=(dst=none /\ gn (ac e) (vd (ac e) v) [] (fun cs bs=>cs.length=n /\ stM C hs K ns ⟨⟩ e R acc n (vd (ac e) v) cs bs (vd (ac e) a)) ⟨⟩):=by
 show (dst=none /\ fq (ac e) (vd (ac e) v) [] _)=(dst=none /\ fq (ac e) (vd (ac e) v) [] _)
 congr 1
 congr 1
 funext cs bs
 cases vd (ac e) a <;> try rfl
 rename_i p i off
 cases p with
 | r b =>
  simp only [stM,dM,fv]
  cases ac e b <;> rfl
 | n b i0 o0 =>
  simp only [stM,dM,fv,i6]
  cases ac e b <;> rfl
def tm (C : CC) (hs : Option (List Nat)) (K : Env -> Prop) (ns : List av) (_ : Tag (hs,K,ns)) (e : Env) (R : List Nat) (acc : List (List Nat × List Nat)) (t sz by_ : Nat) (rowsY : List (List D)) (bs : List Nat) (x : D) : Prop:=match x with
 | .nils=>rowsY.length * by_ <= 140737488355328 /\ doW C hs K ns ⟨⟩ e R acc ((t,.ref (.r (rt t 0)) 0 rowsY.length)::(rt t 0,.blk sz rowsY)::cu bs) [(rt t 0,true)]
 | .ref (.r c) k n=>c ≠ rt t 0 /\ bs.contains c=false /\ dM (ac e c) (fun sz' es=>sz'=sz /\ k + n <= es.length /\ (n + rowsY.length) * by_ <= 140737488355328 /\
      doW C hs K ns ⟨⟩ e R acc ((t,.ref (.r (rt t 0)) 0 (n + rowsY.length))::(rt t 0,.blk sz ((es.drop k).take n++rowsY))::(c,.any)::cu bs) [(rt t 0,true)]) ⟨⟩
 | .ref (.n c i o) k n=>c ≠ rt t 0 /\ bs.contains c=false /\ dM (ac e c) (fun sz0 es0=>gj es0[i]? (fun row0=>jB row0[o]? (fun sz' es=>sz'=sz /\ k + n <= es.length /\ (n + rowsY.length) * by_ <= 140737488355328 /\
      doW C hs K ns ⟨⟩ e R acc ((t,.ref (.r (rt t 0)) 0 (n + rowsY.length))::(rt t 0,.blk sz ((es.drop k).take n++rowsY))::(c,.blk sz0 (bz es0 i o 1 [.any]))::cu bs) [(rt t 0,true)]) ⟨⟩) ⟨⟩) ⟨⟩
 | _=>False
@[simp] theorem Ee {t sz by_ rowsY bs} : tm C hs K ns u e R acc t sz by_ rowsY bs .nils=(rowsY.length * by_ <= 140737488355328 /\ doW C hs K ns ⟨⟩ e R acc ((t,.ref (.r (rt t 0)) 0 rowsY.length)::(rt t 0,.blk sz rowsY)::cu bs) [(rt t 0,true)]):=_root_.id rfl
@[simp] theorem Ph {t sz by_ rowsY bs c k n} : tm C hs K ns u e R acc t sz by_ rowsY bs (.ref (.r c) k n)=(c ≠ rt t 0 /\ bs.contains c=false /\ dM (ac e c) (fun sz' es=>sz'=sz /\ k + n <= es.length /\ (n + rowsY.length) * by_ <= 140737488355328 /\
      doW C hs K ns ⟨⟩ e R acc ((t,.ref (.r (rt t 0)) 0 (n + rowsY.length))::(rt t 0,.blk sz ((es.drop k).take n++rowsY))::(c,.any)::cu bs) [(rt t 0,true)]) ⟨⟩):=_root_.id rfl
@[simp] theorem Pg {t sz by_ rowsY bs c i o k n} : tm C hs K ns u e R acc t sz by_ rowsY bs (.ref (.n c i o) k n)=(c ≠ rt t 0 /\ bs.contains c=false /\ dM (ac e c) (fun sz0 es0=>gj es0[i]? (fun row0=>jB row0[o]? (fun sz' es=>sz'=sz /\ k + n <= es.length /\ (n + rowsY.length) * by_ <= 140737488355328 /\
      doW C hs K ns ⟨⟩ e R acc ((t,.ref (.r (rt t 0)) 0 (n + rowsY.length))::(rt t 0,.blk sz ((es.drop k).take n++rowsY))::(c,.blk sz0 (bz es0 i o 1 [.any]))::cu bs) [(rt t 0,true)]) ⟨⟩) ⟨⟩) ⟨⟩):=_root_.id rfl
@[simp] theorem OB {sz by_ mv x y t v1} : opW C hs K ns (some t) (.app sz by_ mv x y) v1 e R acc=iR (ac e) mv (vd (ac e) y) sz (fun rowsY bs=>bs.contains (rt t 0)=false /\ tm C hs K ns ⟨⟩ e R acc t sz by_ rowsY bs (vd (ac e) x)) ⟨⟩:=by
 unfold opW iR
 simp only [aE]
 congr 1
 funext rowsY bs
 congr 1
 cases vd (ac e) x <;> try rfl
 rename_i p k n
 cases p with
 | r c =>
  simp only [tm,dM]
  cases ac e c <;> rfl
 | n c i o =>
  simp only [tm,dM,fv,i6]
  cases hl : ac e c <;> try rfl
  rename_i sz0 es0
  refine congrArg _ (congrArg _ (propext ⟨?_,?_⟩))
  ·rintro ⟨row0,h1,es,h2,h3⟩
   exact ⟨row0,h1,sz,es,h2,rfl,h3⟩
  ·rintro ⟨row0,h1,sz',es,h2,rfl,h3⟩
   exact ⟨row0,h1,es,h2,h3⟩
@[simp] theorem La {g b n xs sz es} : DF C g hs K ns dst u e R acc b n xs (.blk sz es)=(es.length=n /\ (∀ e ∈ es,∀ c ∈ e,aq c=true) /\ (∀ x ∈ xs,bu (fbE (ac e) b) (vd (fbE (ac e) b) x)) /\ vc C g hs K ns dst ⟨⟩ e R acc b sz es (xs.map (dpv (fbE (ac e) b))) (xs.all fun y=>isV (vd (fbE (ac e) b) y))):=_root_.id rfl
@[simp] theorem Lc {g xs b k n} : Lb C g hs K ns dst u e R acc xs (.ref (.r b) k n)=(k=0 /\ DF C g hs K ns dst ⟨⟩ e R acc b n xs (ac e b)):=_root_.id rfl
@[simp] theorem GC {g x xs v1} : opW C hs K ns dst (.callS g x xs) v1 e R acc=(Lb C g hs K ns dst ⟨⟩ e R acc xs (vd (ac e) x)):=by
 cases dst <;> rfl
def xL (n : Nat) (d : D) : Prop:=match d with
 | .blk _ es=>es.length=n /\ ∀ e ∈ es,∀ c ∈ e,bj c=true
 | _=>False
def pe (f : Nat -> D) (b : Nat) (d : D) : Prop:=match d with
 | .ref (.r c) k n=>k=0 /\ c ≠ b /\ xL n (f c)
 | d=>isV d=true
def yP (d : D) : D:=match d with
 | .blk sz es=>.own sz es
 | _=>.any
def rX (f : Nat -> D) (d : D) : D:=match d with
 | .ref (.r c) _ _=>yP (f c)
 | d=>d
@[simp] theorem He {n sz es} : xL n (.blk sz es)=(es.length=n /\ ∀ e ∈ es,∀ c ∈ e,bj c=true):=_root_.id rfl
@[simp] theorem KG {sz es} : yP (.blk sz es)=.own sz es:=_root_.id rfl
@[simp] theorem Ls {f : Nat -> D} {b : Nat} {x : Opd} : lJ f b x=pe f b (vd f x):=by
 unfold lJ pe xL
 cases vd f x <;> rfl
@[simp] theorem Lt {f : Nat -> D} {x : Opd} : kC f x=rX f (vd f x):=by
 unfold kC rX yP
 cases vd f x <;> rfl
@[simp] theorem Eg {f : Nat -> D} {b c k n} : pe f b (.ref (.r c) k n)=(k=0 /\ c ≠ b /\ xL n (f c)):=_root_.id rfl
@[simp] theorem Ei {f : Nat -> D} {c k n} : rX f (.ref (.r c) k n)=yP (f c):=_root_.id rfl
@[simp] theorem Ef {f : Nat -> D} {b k n} : pe f b (.int k n)=True:=by simp [pe,isV]
@[simp] theorem Eh {f : Nat -> D} {k n} : rX f (.int k n)=.int k n:=_root_.id rfl
def vu (C : CC) (g : Nat) (hs : Option (List Nat)) (K : Env -> Prop) (ns : List av) (t : Nat) (_ : Tag (hs,K,ns)) (e : Env) (R : List Nat) (acc : List (List Nat × List Nat)) (sz : Nat) (W : List (List D)) (ds : List D) (q : Nat × D) : Prop :=
 ∃ es' : List (List D),(∀ e ∈ es',e.length=sz /\ ∀ c ∈ e,bj c=true) /\ C g (.own sz W::ds) .any [.own sz es',.nils,.nils] /\ doW C hs K ns ⟨⟩ e R acc [(t,.ref (.r (rt t 0)) 0 es'.length),(rt t 0,.blk sz es'),q] [(rt t 0,true)]
theorem sc {g : Nat} {hs : Option (List Nat)} {K : Env -> Prop} {ns : List av} {t : Nat} {u : Tag (hs,K,ns)} {e : Env} {R : List Nat} {acc : List (List Nat × List Nat)} {sz : Nat} {W es' : List (List D)} {ds : List D} {q : Nat × D} (h : C g (.own sz W::ds) .any [.own sz es',.nils,.nils]) (hu : ∀ e ∈ es',e.length=sz /\ ∀ c ∈ e,bj c=true)
  (hk : doW C hs K ns ⟨⟩ e R acc [(t,.ref (.r (rt t 0)) 0 es'.length),(rt t 0,.blk sz es'),q] [(rt t 0,true)]) : vu C g hs K ns t u e R acc sz W ds q:=⟨es',hu,h,hk⟩
def vt (C : CC) (g : Nat) (hs : Option (List Nat)) (K : Env -> Prop) (ns : List av) (t : Nat) (_ : Tag (hs,K,ns)) (e : Env) (R : List Nat) (acc : List (List Nat × List Nat)) (xs : List Opd) (d : D) : Prop:=match d with
 | .ref (.r b) k n=>dM (ac e b) (fun sz es=>k + n <= es.length /\ b ≠ rt t 0 /\ 0 < sz /\ (∀ e ∈ (es.drop k).take n,∀ c ∈ e,bj c=true) /\ (∀ x ∈ xs,lJ (ac e) b x) /\ vu C g hs K ns t ⟨⟩ e R acc sz ((es.drop k).take n) (xs.map (kC (ac e))) (b,.any)) ⟨⟩
 | .ref (.n b i o) k n=>dM (ac e b) (fun sz0 es0=>gj es0[i]? (fun row0=>jB row0[o]? (fun sz es=>k + n <= es.length /\ b ≠ rt t 0 /\ 0 < sz /\ (∀ e ∈ (es.drop k).take n,∀ c ∈ e,bj c=true) /\ (∀ x ∈ xs,lJ (ac e) b x) /\
   vu C g hs K ns t ⟨⟩ e R acc sz ((es.drop k).take n) (xs.map (kC (ac e))) (b,.blk sz0 (bz es0 i o 1 [.any]))) ⟨⟩) ⟨⟩) ⟨⟩
 | _=>False
@[simp] theorem PM {g xs t b k n} : vt C g hs K ns t u e R acc xs (.ref (.r b) k n)=dM (ac e b) (fun sz es=>k + n <= es.length /\ b ≠ rt t 0 /\ 0 < sz /\ (∀ e ∈ (es.drop k).take n,∀ c ∈ e,bj c=true) /\ (∀ x ∈ xs,lJ (ac e) b x) /\ vu C g hs K ns t ⟨⟩ e R acc sz ((es.drop k).take n) (xs.map (kC (ac e))) (b,.any)) ⟨⟩:=_root_.id rfl
@[simp] theorem PL {g xs t b i o k n} : vt C g hs K ns t u e R acc xs (.ref (.n b i o) k n)=dM (ac e b) (fun sz0 es0=>gj es0[i]? (fun row0=>jB row0[o]? (fun sz es=>k + n <= es.length /\ b ≠ rt t 0 /\ 0 < sz /\ (∀ e ∈ (es.drop k).take n,∀ c ∈ e,bj c=true) /\ (∀ x ∈ xs,lJ (ac e) b x) /\
   vu C g hs K ns t ⟨⟩ e R acc sz ((es.drop k).take n) (xs.map (kC (ac e))) (b,.blk sz0 (bz es0 i o 1 [.any]))) ⟨⟩) ⟨⟩) ⟨⟩:=_root_.id rfl
@[simp] theorem Gx {g x xs t v1} : opW C hs K ns (some t) (.callE g x xs) v1 e R acc=vt C g hs K ns t ⟨⟩ e R acc xs (vd (ac e) x):=by
 unfold opW
 simp only [aE]
 cases vd (ac e) x <;> try rfl
 rename_i p k n
 cases p with
 | r b =>
  simp only [vt,dM,a7,Pa.root,cS]
  cases ac e b <;> rfl
 | n b i o =>
  simp only [vt,dM,fv,i6,a7,Pa.root,cS]
  cases hl : ac e b <;> try rfl
  rename_i sz0 es0
  simp only
  cases hi : es0[i]? with
  | none=>simp
  | some row0 =>
   simp only [Option.getD_some,Option.some.injEq,exists_eq_left']
   cases ho : row0[o]? with
   | none=>simp
   | some d =>
    cases d
    case own sz es=>exact propext ⟨fun h=>⟨sz,es,rfl,h⟩,fun ⟨sz',es',h0,h⟩=>by cases h0;exact h⟩
    all_goals simp
@[simp] theorem Fc {f : Nat -> D} {b k n sz es} : b8 f (.ref (.r b) k n) (.own sz es)=(k=0 /\ n=es.length /\ f b=.blk sz es):=_root_.id rfl
@[simp] theorem Fa {f : Nat -> D} {b k n sz es} : b8 f (.adr (.r b) k n) (.blk sz es)=(k=0 /\ n=0 /\ f b=.blk sz es):=_root_.id rfl
@[simp] theorem Fb {f : Nat -> D} {k n r} : b8 f (.int k n) r=(r=.int k n):=by simp [b8]
@[simp] theorem Cp {f : Nat -> D} {n r} : b8 f (.bool n) r=(r=.bool n):=by simp [b8]
@[simp] theorem Fd {f : Nat -> D} {n r} : b8 f (.str n) r=(r=.str n):=by simp [b8]
@[simp] theorem Cr {f : Nat -> D} {r} : b8 f .nils r=(r=.nils):=by simp [b8]
@[simp] theorem Cq {f : Nat -> D} {r} : b8 f .nilp r=(r=.nilp):=by simp [b8]
@[simp] theorem Ih {f : Nat -> D} {n r} : b8 f (.sl n) r=(r=.sl n):=by simp [b8]
@[simp] theorem E9 {f : Nat -> D} {n r} : b8 f (.agg n) r=(r=.agg n):=by simp [b8]
@[simp] theorem GR {t d} : kq (some t) d=[(t,d)]:=_root_.id rfl
@[simp] theorem GQ {d} : kq none d=[]:=_root_.id rfl
@[simp] theorem DJ {t} : db (some t)=[(t,.tup [])]:=_root_.id rfl
@[simp] theorem DI : db none=[]:=_root_.id rfl
def J4 (C : CC) (g : Nat) (hs : Option (List Nat)) (K : Env -> Prop) (ns : List av) (dst : Option Nat) (_ : Tag (hs,K,ns)) (e : Env) (R : List Nat) (acc : List (List Nat × List Nat)) (b sz : Nat) (es : List (List D)) (ds : List D) : Prop :=
 ∃ d,∃ es' : List (List D),0 < es'.length /\ C g (.blk sz es::ds) d [.blk sz es'] /\ doW C hs K ns ⟨⟩ e R acc (kq dst d++[(b,.blk sz es')]) [(b,false)]
def J3 (C : CC) (g : Nat) (hs : Option (List Nat)) (K : Env -> Prop) (ns : List av) (dst : Option Nat) (_ : Tag (hs,K,ns)) (e : Env) (R : List Nat) (acc : List (List Nat × List Nat)) (xs : List Opd) (d : D) : Prop:=match d with
 | .adr (.r b) i off=>i=0 /\ off=0 /\ dM (ac e b) (fun sz es=>0 < es.length /\ (∀ x ∈ xs,isV (vd (ac e) x)=true) /\ J4 C g hs K ns dst ⟨⟩ e R acc b sz es (xs.map (vd (ac e)))) ⟨⟩
 | _=>False
@[simp] theorem Qq {g xs b i off} : J3 C g hs K ns dst u e R acc xs (.adr (.r b) i off)=(i=0 /\ off=0 /\ dM (ac e b) (fun sz es=>0 < es.length /\ (∀ x ∈ xs,isV (vd (ac e) x)=true) /\ J4 C g hs K ns dst ⟨⟩ e R acc b sz es (xs.map (vd (ac e)))) ⟨⟩):=_root_.id rfl
@[simp] theorem GA {g x xs v1} : opW C hs K ns dst (.callL g x xs) v1 e R acc=J3 C g hs K ns dst ⟨⟩ e R acc xs (vd (ac e) x):=by
 unfold opW
 simp only [aE]
 cases vd (ac e) x <;> first | rfl | skip
def tz (C : CC) (hs : Option (List Nat)) (K : Env -> Prop) (ns : List av) (dst : Option Nat) (_ : Tag (hs,K,ns)) (e : Env) (R : List Nat) (acc : List (List Nat × List Nat)) (zs : List D) (d : D) : Prop:=match d with
 | .nils=>doW C hs K ns ⟨⟩ e R acc (db dst) []
 | .ref (.r b) k n=>dM (ac e b) (fun sz es=>k + n <= es.length /\ zs.length=sz /\ (∀ e ∈ es,∀ c ∈ e,aq c=true) /\ (∀ c ∈ zs,aq c=true) /\ doW C hs K ns ⟨⟩ e R acc (db dst++[(b,.blk sz (dL es k n zs))]) []) ⟨⟩
 | .ref (.n b i o) k n=>dM (ac e b) (fun sz0 es0=>gj es0[i]? (fun row0=>jB row0[o]? (fun sz es=>k + n <= es.length /\ zs.length=sz /\ (∀ c ∈ zs,aq c=true) /\ doW C hs K ns ⟨⟩ e R acc (db dst++[(b,.blk sz0 (bz es0 i o 1 [.own sz (dL es k n zs)]))]) []) ⟨⟩) ⟨⟩) ⟨⟩
 | _=>False
@[simp] theorem Po {zs b k n} : tz C hs K ns dst u e R acc zs (.ref (.r b) k n)=dM (ac e b) (fun sz es=>k + n <= es.length /\ zs.length=sz /\ (∀ e ∈ es,∀ c ∈ e,aq c=true) /\ (∀ c ∈ zs,aq c=true) /\ doW C hs K ns ⟨⟩ e R acc (db dst++[(b,.blk sz (dL es k n zs))]) []) ⟨⟩:=_root_.id rfl
@[simp] theorem Pn {zs b i o k n} : tz C hs K ns dst u e R acc zs (.ref (.n b i o) k n)=dM (ac e b) (fun sz0 es0=>gj es0[i]? (fun row0=>jB row0[o]? (fun sz es=>k + n <= es.length /\ zs.length=sz /\ (∀ c ∈ zs,aq c=true) /\ doW C hs K ns ⟨⟩ e R acc (db dst++[(b,.blk sz0 (bz es0 i o 1 [.own sz (dL es k n zs)]))]) []) ⟨⟩) ⟨⟩) ⟨⟩:=_root_.id rfl
@[simp] theorem EH {zs} : tz C hs K ns dst u e R acc zs .nils=doW C hs K ns ⟨⟩ e R acc (db dst) []:=_root_.id rfl
@[simp] theorem OI {zs x v1} : opW C hs K ns dst (.clr zs x) v1 e R acc=tz C hs K ns dst ⟨⟩ e R acc zs (vd (ac e) x):=by
 unfold opW
 simp only [aE]
 cases vd (ac e) x <;> try rfl
 rename_i p k n
 cases p with
 | r b =>
  simp only [tz,dM]
  cases ac e b <;> rfl
 | n b i o =>
  simp only [tz,dM,fv,i6]
  cases ac e b <;> rfl
def ve (C : CC) (g : Nat) (hs : Option (List Nat)) (K : Env -> Prop) (ns : List av) (dst : Option Nat) (_ : Tag (hs,K,ns)) (e : Env) (R : List Nat) (acc : List (List Nat × List Nat)) (b i o sz0 sz : Nat) (es0 es : List (List D)) (ds : List D) : Prop :=
 ∃ es' : List (List D),es'.length=es.length /\ (∀ e ∈ es',e.length=sz /\ ∀ c ∈ e,aq c=true) /\ C g (.own sz es::ds) .any [.own sz es',.nilp] /\ doW C hs K ns ⟨⟩ e R acc (db dst++[(b,.blk sz0 (bz es0 i o 1 [.own sz es']))]) []
theorem vf {g : Nat} {hs : Option (List Nat)} {K : Env -> Prop} {ns : List av} {t : Nat} {u : Tag (hs,K,ns)} {e : Env} {R : List Nat} {acc : List (List Nat × List Nat)} {b i o sz0 sz : Nat} {es0 es es' : List (List D)} {ds : List D} (h : C g (.own sz es::ds) .any [.own sz es',.nilp]) (hl : es'.length=es.length) (hu : ∀ e ∈ es',e.length=sz /\ ∀ c ∈ e,aq c=true)
  (hk : doW C hs K ns ⟨⟩ e R acc [(t,.tup []),(b,.blk sz0 (bz es0 i o 1 [.own sz es']))] []) : ve C g hs K ns (some t) u e R acc b i o sz0 sz es0 es ds:=⟨es',hl,hu,h,hk⟩
def BZ (C : CC) (g : Nat) (hs : Option (List Nat)) (K : Env -> Prop) (ns : List av) (dst : Option Nat) (_ : Tag (hs,K,ns)) (e : Env) (R : List Nat) (acc : List (List Nat × List Nat)) (xs : List Opd) (d : D) : Prop:=match d with
 | .ref (.n b i o) k n=>k=0 /\ dM (ac e b) (fun sz0 es0=>gj es0[i]? (fun row0=>jB row0[o]? (fun sz es=>es.length=n /\ (∀ x ∈ xs,isV (vd (ac e) x)=true) /\ ve C g hs K ns dst ⟨⟩ e R acc b i o sz0 sz es0 es (xs.map (vd (ac e)))) ⟨⟩) ⟨⟩) ⟨⟩
 | _=>False
@[simp] theorem Pm {g xs b i o k n} : BZ C g hs K ns dst u e R acc xs (.ref (.n b i o) k n)=(k=0 /\ dM (ac e b) (fun sz0 es0=>gj es0[i]? (fun row0=>jB row0[o]? (fun sz es=>es.length=n /\ (∀ x ∈ xs,isV (vd (ac e) x)=true) /\ ve C g hs K ns dst ⟨⟩ e R acc b i o sz0 sz es0 es (xs.map (vd (ac e)))) ⟨⟩) ⟨⟩) ⟨⟩):=_root_.id rfl
@[simp] theorem GB {g x xs v1} : opW C hs K ns dst (.callN g x xs) v1 e R acc=BZ C g hs K ns dst ⟨⟩ e R acc xs (vd (ac e) x):=by
 unfold opW
 simp only [aE]
 cases vd (ac e) x <;> try rfl
 rename_i p k n
 cases p with
 | r b=>rfl
 | n b i o =>
  simp only [BZ,dM,fv,i6]
  cases ac e b <;> rfl
@[simp] theorem Gz {g xs v1} : opW C hs K ns dst (.callG g xs) v1 e R acc=((∀ x ∈ xs,bu (ac e) (vd (ac e) x)) /\ BO C g hs K ns dst ⟨⟩ e R acc (xs.map (dpv (ac e)))):=_root_.id rfl
@[simp] theorem Gw {g xs t v1} : opW C hs K ns (some t) (.callA g xs) v1 e R acc=((∀ x ∈ xs,isV (vd (ac e) x)=true) /\ qI C g hs K ns t ⟨⟩ e R acc (xs.map (vd (ac e)))):=_root_.id rfl
@[simp] theorem Gy {g xs t v1} : opW C hs K ns (some t) (.callF g xs) v1 e R acc=((∀ x ∈ xs,bu (ac e) (vd (ac e) x)) /\ vb C g hs K ns t ⟨⟩ e R acc (xs.map (dpv (ac e)))):=_root_.id rfl
@[simp] theorem Ku {g xs x0 v1} : opW C hs K ns dst (.call g xs x0) v1 e R acc=((∀ x ∈ xs,bu (ac e) (vd (ac e) x)) /\ pj C g hs K ns dst ⟨⟩ e R acc (xs.all fun x=>isV (vd (ac e) x)) (xs.map (dpv (ac e)))):=_root_.id rfl
def jM (C : CC) (hs : Option (List Nat)) (K : Env -> Prop) (ns : List av) (t : Nat) (_ : Tag (hs,K,ns)) (e : Env) (R : List Nat) (acc : List (List Nat × List Nat)) (d : D) : Prop:=match d with
 | .ref (.r c) k n=>if c=rt t 0 then doW C hs K ns ⟨⟩ e R acc [(t,.ref (.r c) k n)] [] else match ac e c with
  | .blk sz es=>doW C hs K ns ⟨⟩ e R acc [(t,.ref (.r (rt t 0)) k n),(rt t 0,.blk sz es),(c,.any)] [(rt t 0,true)]
  | _=>False
 | d=>isS d=true /\ doW C hs K ns ⟨⟩ e R acc [(t,d)] []
@[simp] theorem OC {t x v1} : opW C hs K ns (some t) (.asg x) v1 e R acc=jM C hs K ns t ⟨⟩ e R acc (vd (ac e) x):=_root_.id rfl
@[simp] theorem Hg {t c k n} : jM C hs K ns t u e R acc (.ref (.r c) k n)=(if c=rt t 0 then doW C hs K ns ⟨⟩ e R acc [(t,.ref (.r c) k n)] [] else match ac e c with
  | .blk sz es=>doW C hs K ns ⟨⟩ e R acc [(t,.ref (.r (rt t 0)) k n),(rt t 0,.blk sz es),(c,.any)] [(rt t 0,true)]
  | _=>False):=_root_.id rfl
@[simp] theorem Ek {t b i o k n} : jM C hs K ns t u e R acc (.ref (.n b i o) k n)=doW C hs K ns ⟨⟩ e R acc [(t,.ref (.n b i o) k n)] []:=by simp [jM]
@[simp] theorem Ej {t} : jM C hs K ns t u e R acc .nils=doW C hs K ns ⟨⟩ e R acc [(t,.nils)] []:=by simp [jM]
@[simp] theorem xN {t es} : jM C hs K ns t u e R acc (.sl es)=doW C hs K ns ⟨⟩ e R acc [(t,.sl es)] []:=by simp [jM]
@[simp] theorem Hh {t b es} : jM C hs K ns t u e R acc (slx b es)=doW C hs K ns ⟨⟩ e R acc [(t,slx b es)] []:=by
 rcases gK b es with h | ⟨h,_⟩ <;> rw [h] <;> simp
@[simp] theorem Hf {t} : jM C hs K ns t u e R acc .any=doW C hs K ns ⟨⟩ e R acc [(t,.any)] []:=by simp [jM]
@[simp] theorem Hi {t ds} : jM C hs K ns t u e R acc (.tup ds)=doW C hs K ns ⟨⟩ e R acc [(t,.tup ds)] []:=by simp [jM]
def qW (C : CC) (hs : Option (List Nat)) (K : Env -> Prop) (ns : List av) (t : Nat) (_ : Tag (hs,K,ns)) (e : Env) (R : List Nat) (acc : List (List Nat × List Nat)) (d : D) : Prop:=match d with
 | .ref (.r c) k n=>aU (ac e) (.ref (.r c) k n) /\ doW C hs K ns ⟨⟩ e R acc [(t,dp1 (ac e) (.ref (.r c) k n)),(c,.any)] []
 | d=>isS d=true /\ doW C hs K ns ⟨⟩ e R acc [(t,d)] []
@[simp] theorem OO {t x v1} : opW C hs K ns (some t) (.frz x) v1 e R acc=qW C hs K ns t ⟨⟩ e R acc (vd (ac e) x):=_root_.id rfl
@[simp] theorem Ib {t c k n} : qW C hs K ns t u e R acc (.ref (.r c) k n)=(aU (ac e) (.ref (.r c) k n) /\ doW C hs K ns ⟨⟩ e R acc [(t,dp1 (ac e) (.ref (.r c) k n)),(c,.any)] []):=_root_.id rfl
@[simp] theorem E6 {t} : qW C hs K ns t u e R acc .nils=doW C hs K ns ⟨⟩ e R acc [(t,.nils)] []:=by simp [qW]
@[simp] theorem LW {t es} : qW C hs K ns t u e R acc (.sl es)=doW C hs K ns ⟨⟩ e R acc [(t,.sl es)] []:=by simp [qW]
@[simp] theorem Ic {t b es} : qW C hs K ns t u e R acc (slx b es)=doW C hs K ns ⟨⟩ e R acc [(t,slx b es)] []:=by
 rcases gK b es with h | ⟨h,_⟩ <;> rw [h] <;> simp
def yz (C : CC) (hs : Option (List Nat)) (K : Env -> Prop) (ns : List av) (dst : Option Nat) (_ : Tag (hs,K,ns)) (e : Env) (R : List Nat) (acc : List (List Nat × List Nat)) (c i off : Nat) (d : D) : Prop:=match d with
 | .blk _ es=>∃ r,es[i]? = some r /\ ∃ d,r[off]? = some d /\ c9 dst (kOf C hs K ns e R acc) (ldc (.r c) i off d)
 | _=>False
@[simp] theorem JX {c i off sz es} : yz C hs K ns dst u e R acc c i off (.blk sz es)=gj es[i]? (fun r=>xR r[off]? (fun d=>dW C hs K ns dst ⟨⟩ e R acc (ldc (.r c) i off d)) ⟨⟩) ⟨⟩:=by
 simp only [yz,fv,xS];rfl
def JY (C : CC) (hs : Option (List Nat)) (K : Env -> Prop) (ns : List av) (dst : Option Nat) (_ : Tag (hs,K,ns)) (e : Env) (R : List Nat) (acc : List (List Nat × List Nat)) (q : Nat) (d : D) : Prop:=match d with
 | .adr (.r c) i off=>off=q /\ yz C hs K ns dst ⟨⟩ e R acc c i off (ac e c)
 | _=>False
@[simp] theorem JZ {q c i off} : JY C hs K ns dst u e R acc q (.adr (.r c) i off)=(off=q /\ yz C hs K ns dst ⟨⟩ e R acc c i off (ac e c)):=_root_.id rfl
@[simp] theorem OR {q x v1} : opW C hs K ns dst (.ldQ q x) v1 e R acc=JY C hs K ns dst ⟨⟩ e R acc q (vd (ac e) x):=_root_.id rfl
def xK (C : CC) (hs : Option (List Nat)) (K : Env -> Prop) (ns : List av) (t : Nat) (_ : Tag (hs,K,ns)) (e : Env) (R : List Nat) (acc : List (List Nat × List Nat)) (sz by_ : Nat) (rowsY : List (List D)) (c i o k n : Nat) (d : D) : Prop:=match d with
 | .blk sz0 es0=>∃ row0,es0[i]? = some row0 /\ ∃ es,row0[o]? = some (.own sz es) /\ k + n <= es.length /\ (n + rowsY.length) * by_ <= 140737488355328 /\
   kOf C hs K ns e R acc [(t,.ref (.r (rt t 0)) 0 (n + rowsY.length)),(rt t 0,.blk sz ((es.drop k).take n++rowsY)),(c,.blk sz0 (bz es0 i o 1 [.any]))] [(rt t 0,true)]
 | _=>False
@[simp] theorem Hb {t sz by_ rowsY c i o k n sz0 es0} : xK C hs K ns t u e R acc sz by_ rowsY c i o k n (.blk sz0 es0)=gj es0[i]? (fun row0=>jB row0[o]? (fun sz' es=>sz'=sz /\ k + n <= es.length /\ (n + rowsY.length) * by_ <= 140737488355328 /\
   doW C hs K ns ⟨⟩ e R acc [(t,.ref (.r (rt t 0)) 0 (n + rowsY.length)),(rt t 0,.blk sz ((es.drop k).take n++rowsY)),(c,.blk sz0 (bz es0 i o 1 [.any]))] [(rt t 0,true)]) ⟨⟩) ⟨⟩:=by
 simp only [xK,fv,i6]
 refine propext ⟨?_,?_⟩
 ·rintro ⟨row0,h1,es,h2,h3,h4,h5⟩
  exact ⟨row0,h1,sz,es,h2,rfl,h3,h4,h5⟩
 ·rintro ⟨row0,h1,sz',es,h2,rfl,h3,h4,h5⟩
  exact ⟨row0,h1,es,h2,h3,h4,h5⟩
def Hc (C : CC) (hs : Option (List Nat)) (K : Env -> Prop) (ns : List av) (t : Nat) (_ : Tag (hs,K,ns)) (e : Env) (R : List Nat) (acc : List (List Nat × List Nat)) (q sz by_ : Nat) (yd : D) (d : D) : Prop:=match d with
 | .ref (.n c i o') k n=>o'=q /\ fo (ac e) false yd sz fun rowsY bs=>bs=[] /\ c ≠ rt t 0 /\ xK C hs K ns t ⟨⟩ e R acc sz by_ rowsY c i o' k n (ac e c)
 | _=>False
@[simp] theorem Hd {t q sz by_ yd c i o k n} : Hc C hs K ns t u e R acc q sz by_ yd (.ref (.n c i o) k n)=(o=q /\ iR (ac e) false yd sz (fun rowsY bs=>bs=[] /\ c ≠ rt t 0 /\ xK C hs K ns t ⟨⟩ e R acc sz by_ rowsY c i o k n (ac e c)) ⟨⟩):=_root_.id rfl
@[simp] theorem Kr {t q sz by_ x y v1} : opW C hs K ns (some t) (.appQ q sz by_ x y) v1 e R acc=Hc C hs K ns t ⟨⟩ e R acc q sz by_ (vd (ac e) y) (vd (ac e) x):=_root_.id rfl
def Cb (C : CC) (hs : Option (List Nat)) (K : Env -> Prop) (ns : List av) (t : Nat) (_ : Tag (hs,K,ns)) (e : Env) (R : List Nat) (acc : List (List Nat × List Nat)) (sz : Nat) (rows : List (List D)) (b k n : Nat) (d : D) : Prop:=match d with
 | .blk sz' es=>sz'=sz /\ k + n <= es.length /\ (∀ e ∈ es,∀ c ∈ e,aq c=true) /\ (∀ e ∈ rows,∀ c ∈ e,aq c=true) /\ kOf C hs K ns e R acc [(t,.int .i64 (min rows.length n : Nat)),(b,.blk sz (iz es k (rows.take n)))] []
 | _=>False
@[simp] theorem HD {t sz rows b k n sz' es} : Cb C hs K ns t u e R acc sz rows b k n (.blk sz' es)=(sz'=sz /\ k + n <= es.length /\ (∀ e ∈ es,∀ c ∈ e,aq c=true) /\ (∀ e ∈ rows,∀ c ∈ e,aq c=true) /\ doW C hs K ns ⟨⟩ e R acc [(t,.int .i64 (min rows.length n : Nat)),(b,.blk sz (iz es k (rows.take n)))] []):=_root_.id rfl
def HE (C : CC) (hs : Option (List Nat)) (K : Env -> Prop) (ns : List av) (t : Nat) (_ : Tag (hs,K,ns)) (e : Env) (R : List Nat) (acc : List (List Nat × List Nat)) (sz : Nat) (rows : List (List D)) (d : D) : Prop:=match d with
 | .ref (.r b) k n=>(n=0 -> kOf C hs K ns e R acc [(t,.int .i64 0)] []) /\ (0 < n -> Cb C hs K ns t ⟨⟩ e R acc sz rows b k n (ac e b))
 | _=>False
@[simp] theorem HF {t sz rows b k n} : HE C hs K ns t u e R acc sz rows (.ref (.r b) k n)=((n=0 -> doW C hs K ns ⟨⟩ e R acc [(t,.int .i64 0)] []) /\ (0 < n -> Cb C hs K ns t ⟨⟩ e R acc sz rows b k n (ac e b))):=_root_.id rfl
@[simp] theorem OJ {t sz x y v1} : opW C hs K ns (some t) (.cpy sz x y) v1 e R acc=iR (ac e) false (vd (ac e) y) sz (fun rows bs=>bs=[] /\ 0 < rows.length /\ HE C hs K ns t ⟨⟩ e R acc sz rows (vd (ac e) x)) ⟨⟩:=_root_.id rfl
def CI (C : CC) (hs : Option (List Nat)) (K : Env -> Prop) (ns : List av) (t : Nat) (_ : Tag (hs,K,ns)) (e : Env) (R : List Nat) (acc : List (List Nat × List Nat)) (n c : Nat) (d : D) : Prop:=match d with
 | .blk _ [row]=>row.length=n /\ okR (.agg row)=true /\ (aS t (.agg row)).all (fun p=>p.1 != c)=true /\ doW C hs K ns ⟨⟩ e R acc ((t,dG t (.agg row))::(c,.any)::aS t (.agg row)) (dl t (.agg row))
 | _=>False
@[simp] theorem JU {t n c sz row} : CI C hs K ns t u e R acc n c (.blk sz [row])=(row.length=n /\ okR (.agg row)=true /\ (aS t (.agg row)).all (fun p=>p.1 != c)=true /\ doW C hs K ns ⟨⟩ e R acc ((t,dG t (.agg row))::(c,.any)::aS t (.agg row)) (dl t (.agg row))):=_root_.id rfl
def JV (C : CC) (hs : Option (List Nat)) (K : Env -> Prop) (ns : List av) (t : Nat) (_ : Tag (hs,K,ns)) (e : Env) (R : List Nat) (acc : List (List Nat × List Nat)) (n : Nat) (d : D) : Prop:=match d with
 | .adr (.r c) i off=>i=0 /\ off=0 /\ CI C hs K ns t ⟨⟩ e R acc n c (ac e c)
 | _=>False
@[simp] theorem JW {t n c i off} : JV C hs K ns t u e R acc n (.adr (.r c) i off)=(i=0 /\ off=0 /\ CI C hs K ns t ⟨⟩ e R acc n c (ac e c)):=_root_.id rfl
@[simp] theorem OQ {t n x v1} : opW C hs K ns (some t) (.ldM n x) v1 e R acc=JV C hs K ns t ⟨⟩ e R acc n (vd (ac e) x):=_root_.id rfl
def yy (C : CC) (hs : Option (List Nat)) (K : Env -> Prop) (ns : List av) (t : Nat) (_ : Tag (hs,K,ns)) (e : Env) (R : List Nat) (acc : List (List Nat × List Nat)) (n c i off : Nat) (d : D) : Prop:=match d with
 | .blk _ es=>∃ r,es[i]? = some r /\ off + n <= r.length /\ doW C hs K ns ⟨⟩ e R acc [(t,.agg (((r.drop off).take n).map aR)),(c,.any)] []
 | _=>False
@[simp] theorem JR {t n c i off sz es} : yy C hs K ns t u e R acc n c i off (.blk sz es)=gj es[i]? (fun r=>off + n <= r.length /\ doW C hs K ns ⟨⟩ e R acc [(t,.agg (((r.drop off).take n).map aR)),(c,.any)] []) ⟨⟩:=by
 simp only [yy,fv]
def JS (C : CC) (hs : Option (List Nat)) (K : Env -> Prop) (ns : List av) (t : Nat) (_ : Tag (hs,K,ns)) (e : Env) (R : List Nat) (acc : List (List Nat × List Nat)) (n : Nat) (d : D) : Prop:=match d with
 | .adr (.r c) i off=>yy C hs K ns t ⟨⟩ e R acc n c i off (ac e c)
 | _=>False
@[simp] theorem JT {t n c i off} : JS C hs K ns t u e R acc n (.adr (.r c) i off)=yy C hs K ns t ⟨⟩ e R acc n c i off (ac e c):=_root_.id rfl
@[simp] theorem OP {t n x v1} : opW C hs K ns (some t) (.ldF n x) v1 e R acc=JS C hs K ns t ⟨⟩ e R acc n (vd (ac e) x):=_root_.id rfl
def Dy (C : CC) (hs : Option (List Nat)) (K : Env -> Prop) (ns : List av) (t : Nat) (_ : Tag (hs,K,ns)) (e : Env) (R : List Nat) (acc : List (List Nat × List Nat)) (len sz c : Nat) (d : D) : Prop:=match d with
 | .blk _ [row]=>0 < len /\ 0 < sz /\ row.length=len * sz /\ (∀ d ∈ row,aq d=true) /\ doW C hs K ns ⟨⟩ e R acc [(t,.ref (.r (rt t 0)) 0 len),(rt t 0,.blk sz (cf sz len row)),(c,.any)] [(rt t 0,true)]
 | _=>False
@[simp] theorem KV {t len sz c sz0 row} : Dy C hs K ns t u e R acc len sz c (.blk sz0 [row])=(0 < len /\ 0 < sz /\ row.length=len * sz /\ (∀ d ∈ row,aq d=true) /\ doW C hs K ns ⟨⟩ e R acc [(t,.ref (.r (rt t 0)) 0 len),(rt t 0,.blk sz (cf sz len row)),(c,.any)] [(rt t 0,true)]):=_root_.id rfl
def KW (C : CC) (hs : Option (List Nat)) (K : Env -> Prop) (ns : List av) (t : Nat) (_ : Tag (hs,K,ns)) (e : Env) (R : List Nat) (acc : List (List Nat × List Nat)) (len sz : Nat) (d : D) : Prop:=match d with
 | .adr (.r c) i off=>i=0 /\ off=0 /\ c ≠ rt t 0 /\ Dy C hs K ns t ⟨⟩ e R acc len sz c (ac e c)
 | _=>False
@[simp] theorem KX {t len sz c i off} : KW C hs K ns t u e R acc len sz (.adr (.r c) i off)=(i=0 /\ off=0 /\ c ≠ rt t 0 /\ Dy C hs K ns t ⟨⟩ e R acc len sz c (ac e c)):=_root_.id rfl
@[simp] theorem O0 {len sz x t v1} : opW C hs K ns (some t) (.slM len sz x) v1 e R acc=KW C hs K ns t ⟨⟩ e R acc len sz (vd (ac e) x):=_root_.id rfl
def iu (C : CC) (hs : Option (List Nat)) (K : Env -> Prop) (ns : List av) (dst : Option Nat) (_ : Tag (hs,K,ns)) (e : Env) (R : List Nat) (acc : List (List Nat × List Nat)) (d : D) : Prop:=match d with
 | .agx ds=>dW C hs K ns dst ⟨⟩ e R acc (.ptx ds)
 | .agg ds=>dW C hs K ns dst ⟨⟩ e R acc (.ptr ds)
 | d=>aq d=true /\ dW C hs K ns dst ⟨⟩ e R acc (.ptr [d])
@[simp] theorem BW {ds : List D} : dw (.agg ds)=ds:=_root_.id rfl
@[simp] theorem BX {k n} : dw (.int k n)=[.int k n]:=_root_.id rfl
@[simp] theorem BY {n} : dw (.str n)=[.str n]:=_root_.id rfl
@[simp] theorem AF {n} : dw (.bool n)=[.bool n]:=_root_.id rfl
@[simp] theorem EG {n} : dw (.sl n)=[.sl n]:=_root_.id rfl
@[simp] theorem E5 {f : Nat -> D} {es} : gw f [] es=es:=_root_.id rfl
@[simp] theorem Cl {f : Nat -> D} {p ps es} : gw f (p::ps) es=gw f ps (es.set p.1 (dw (vd f p.2))):=_root_.id rfl
@[simp] theorem Ks {sz len zs parts v1} : opW C hs K ns dst (.blsF sz len zs parts) v1 e R acc=((∀ p ∈ parts,p.1 < len /\ (dw (vd (ac e) p.2)).length=sz /\ ∀ c ∈ dw (vd (ac e) p.2),aq c=true) /\ 0 < len /\
   (∀ r ∈ gw (ac e) parts (List.replicate len zs),∀ c ∈ r,aq c=true) /\ dW C hs K ns dst ⟨⟩ e R acc (.sl (gw (ac e) parts (List.replicate len zs)))):=_root_.id rfl
@[simp] theorem Kt {x v1} : opW C hs K ns dst (.boxF x) v1 e R acc=iu C hs K ns dst ⟨⟩ e R acc (vd (ac e) x):=_root_.id rfl
@[simp] theorem Hq {ds} : iu C hs K ns dst u e R acc (.agx ds)=dW C hs K ns dst ⟨⟩ e R acc (.ptx ds):=_root_.id rfl
@[simp] theorem Hp {ds} : iu C hs K ns dst u e R acc (.agg ds)=dW C hs K ns dst ⟨⟩ e R acc (.ptr ds):=_root_.id rfl
@[simp] theorem Hr {k n} : iu C hs K ns dst u e R acc (.int k n)=dW C hs K ns dst ⟨⟩ e R acc (.ptr [.int k n]):=by simp [iu]
@[simp] theorem El {n} : iu C hs K ns dst u e R acc (.bool n)=dW C hs K ns dst ⟨⟩ e R acc (.ptr [.bool n]):=by simp [iu]
@[simp] theorem Hu {n} : iu C hs K ns dst u e R acc (.str n)=dW C hs K ns dst ⟨⟩ e R acc (.ptr [.str n]):=by simp [iu]
@[simp] theorem Em : iu C hs K ns dst u e R acc .nils=dW C hs K ns dst ⟨⟩ e R acc (.ptr [.nils]):=by simp [iu]
@[simp] theorem Lv {es} : iu C hs K ns dst u e R acc (.sl es)=dW C hs K ns dst ⟨⟩ e R acc (.ptr [.sl es]):=by simp [iu]
@[simp] theorem Ht {b es} : iu C hs K ns dst u e R acc (slx b es)=dW C hs K ns dst ⟨⟩ e R acc (.ptr [slx b es]):=by
 rcases gK b es with h | ⟨h,_⟩ <;> rw [h] <;> simp
@[simp] theorem Hs {es} : iu C hs K ns dst u e R acc (.ptr es)=dW C hs K ns dst ⟨⟩ e R acc (.ptr [.ptr es]):=by simp [iu]
@[simp] theorem Lu {g es} : iu C hs K ns dst u e R acc (.fn g es)=dW C hs K ns dst ⟨⟩ e R acc (.ptr [.fn g es]):=by simp [iu]
@[simp] theorem OS {x v1} : opW C hs K ns dst (.len x) v1 e R acc=tU (vd (ac e) x) (fun n=>dW C hs K ns dst ⟨⟩ e R acc (.int .i64 n)) ⟨⟩:=by
 show res (ac e) _ (.len x)=_
 simp only [res,tU]
 cases vd (ac e) x <;> rfl
def vU (C : CC) (hs : Option (List Nat)) (K : Env -> Prop) (ns : List av) (dst : Option Nat) (_ : Tag (hs,K,ns)) (e : Env) (R : List Nat) (acc : List (List Nat × List Nat)) (sz : Nat) (x i : D) : Prop:=match (generalizing:=false) x,i with
  | .sl es,.int _ j=>0 <= j /\ jd C hs K ns dst ⟨⟩ e R acc sz es j.toNat
  | .ref p k n,.int _ j=>0 <= j /\ j.toNat < n /\ match (generalizing:=false) a7 (ac e) p with
   | some (sz',_)=>sz'=sz /\ dW C hs K ns dst ⟨⟩ e R acc (.adr p (k + j.toNat) 0)
   | none=>False
  | _,_=>False
@[simp] theorem Kx {sz x i v1} : opW C hs K ns dst (.iadS sz x i) v1 e R acc=vU C hs K ns dst ⟨⟩ e R acc sz (vd (ac e) x) (vd (ac e) i):=_root_.id rfl
@[simp] theorem LX {sz es k j} : vU C hs K ns dst u e R acc sz (.sl es) (.int k j)=(0 <= j /\ jd C hs K ns dst ⟨⟩ e R acc sz es j.toNat):=_root_.id rfl
@[simp] theorem Il {sz b es k j} : vU C hs K ns dst u e R acc sz (slx b es) (.int k j)=(0 <= j /\ jd C hs K ns dst ⟨⟩ e R acc sz es j.toNat):=by
 rcases gK b es with h | ⟨h,rfl⟩
 ·rw [h];rfl
 ·rw [h];simp [vU,jd]
@[simp] theorem Ik {sz p k n k' j} : vU C hs K ns dst u e R acc sz (.ref p k n) (.int k' j)=(0 <= j /\ j.toNat < n /\ match (generalizing:=false) a7 (ac e) p with
   | some (sz',_)=>sz'=sz /\ dW C hs K ns dst ⟨⟩ e R acc (.adr p (k + j.toNat) 0)
   | none=>False):=_root_.id rfl
def zD (C : CC) (hs : Option (List Nat)) (K : Env -> Prop) (ns : List av) (dst : Option Nat) (_ : Tag (hs,K,ns)) (e : Env) (R : List Nat) (acc : List (List Nat × List Nat)) (sz : Nat) (x : D) (lo hi : Option Opd) : Prop:=match (generalizing:=false) x with
  | .sl es=>(∀ e ∈ es,e.length=sz) /\ dc (ac e) hi es.length (fun h=>dc (ac e) lo 0 (fun l=>l <= h /\ h <= es.length /\ dW C hs K ns dst ⟨⟩ e R acc (.sl ((es.take h).drop l))) ⟨⟩) ⟨⟩
  | .nils=>dc (ac e) hi 0 (fun h=>dc (ac e) lo 0 (fun l=>l <= h /\ h <= 0 /\ dW C hs K ns dst ⟨⟩ e R acc (.sl [])) ⟨⟩) ⟨⟩
  | .ref p k n=>match (generalizing:=false) a7 (ac e) p with
   | some (sz',_)=>sz'=sz /\ dc (ac e) hi n (fun h=>dc (ac e) lo 0 (fun l=>l <= h /\ h <= n /\ dW C hs K ns dst ⟨⟩ e R acc (.ref p (k + l) (h - l))) ⟨⟩) ⟨⟩
   | none=>False
  | _=>False
@[simp] theorem O2 {sz x lo hi v1} : opW C hs K ns dst (.slc sz x lo hi) v1 e R acc=zD C hs K ns dst ⟨⟩ e R acc sz (vd (ac e) x) lo hi:=_root_.id rfl
@[simp] theorem O3 {sz es lo hi} : zD C hs K ns dst u e R acc sz (.sl es) lo hi=((∀ e ∈ es,e.length=sz) /\ dc (ac e) hi es.length (fun h=>dc (ac e) lo 0 (fun l=>l <= h /\ h <= es.length /\ dW C hs K ns dst ⟨⟩ e R acc (.sl ((es.take h).drop l))) ⟨⟩) ⟨⟩):=_root_.id rfl
@[simp] theorem GP {sz lo hi} : zD C hs K ns dst u e R acc sz .nils lo hi=dc (ac e) hi 0 (fun h=>dc (ac e) lo 0 (fun l=>l <= h /\ h <= 0 /\ dW C hs K ns dst ⟨⟩ e R acc (.sl [])) ⟨⟩) ⟨⟩:=_root_.id rfl
@[simp] theorem KU {sz p k n lo hi} : zD C hs K ns dst u e R acc sz (.ref p k n) lo hi=(match (generalizing:=false) a7 (ac e) p with
   | some (sz',_)=>sz'=sz /\ dc (ac e) hi n (fun h=>dc (ac e) lo 0 (fun l=>l <= h /\ h <= n /\ dW C hs K ns dst ⟨⟩ e R acc (.ref p (k + l) (h - l))) ⟨⟩) ⟨⟩
   | none=>False):=_root_.id rfl
@[simp] theorem GD {x xs v1} : opW C hs K ns dst (.callv x xs) v1 e R acc=(match (generalizing:=false) vd (ac e) x with
  | .fn g cs=>(∀ x ∈ xs,bu (ac e) (vd (ac e) x)) /\ pj C g hs K ns dst ⟨⟩ e R acc (xs.all fun x=>isV (vd (ac e) x)) (xs.map (dpv (ac e))++cs)
  | .fnx g cs=>(∀ x ∈ xs,bu (ac e) (vd (ac e) x)) /\ (∀ c ∈ cs,aU (ac e) c) /\ pj C g hs K ns dst ⟨⟩ e R acc false (xs.map (dpv (ac e))++cs.map (dp1 (ac e)))
  | _=>False):=by
 simp only [opW,aE,pj,c9,Bool.false_eq_true,or_false]
 cases vd (ac e) x <;> rfl
def mpT (x : D) (K : Nat -> Nat -> List D -> List D -> Prop) (_ : Tag K) : Prop:=match x with
 | .mp kt et ks vs=>K kt et ks vs
 | _=>False
@[simp] theorem Qt {kt et ks vs K u} : mpT (.mp kt et ks vs) K u=K kt et ks vs:=_root_.id rfl
@[simp] theorem OT {kt et t v1} : opW C hs K ns (some t) (.mkm kt et) v1 e R acc=doW C hs K ns ⟨⟩ e R acc [(t,.mrf (rt t 0)),(rt t 0,.mp kt et [] [])] [(rt t 0,true)]:=_root_.id rfl
def mlM (C : CC) (hs : Option (List Nat)) (K : Env -> Prop) (ns : List av) (dst : Option Nat) (_ : Tag (hs,K,ns)) (e : Env) (R : List Nat) (acc : List (List Nat × List Nat)) (sh : KSh) (kt et : Nat) (ok : Bool) (z x m : D) : Prop:=match m with
 | .mrf b=>mpT (ac e b) (fun kt' et' ks vs=>kt'=kt /\ et'=et /\ cU sh x /\ match ok with
    | true=>dW C hs K ns dst ⟨⟩ e R acc (.tup [(dV ks vs x).getD z,.bool (dV ks vs x).isSome])
    | false=>dW C hs K ns dst ⟨⟩ e R acc ((dV ks vs x).getD z)) ⟨⟩
 | _=>False
@[simp] theorem Ov {sh kt et ok z x b} : mlM C hs K ns dst u e R acc sh kt et ok z x (.mrf b)=mpT (ac e b) (fun kt' et' ks vs=>kt'=kt /\ et'=et /\ cU sh x /\ match ok with
    | true=>dW C hs K ns dst ⟨⟩ e R acc (.tup [(dV ks vs x).getD z,.bool (dV ks vs x).isSome])
    | false=>dW C hs K ns dst ⟨⟩ e R acc ((dV ks vs x).getD z)) ⟨⟩:=_root_.id rfl
@[simp] theorem OW {sh kt et ok z m x v1} : opW C hs K ns dst (.mpl sh kt et ok z m x) v1 e R acc=mlM C hs K ns dst ⟨⟩ e R acc sh kt et ok z (vd (ac e) x) (vd (ac e) m):=by
 show res (ac e) _ (.mpl sh kt et ok z m x)=_
 simp only [res,mlM]
 cases vd (ac e) m <;> rfl
def muM (C : CC) (hs : Option (List Nat)) (K : Env -> Prop) (ns : List av) (_ : Tag (hs,K,ns)) (e : Env) (R : List Nat) (acc : List (List Nat × List Nat)) (sh : KSh) (kt et : Nat) (z x v m : D) : Prop:=match m with
 | .mrf b=>mpT (ac e b) (fun kt' et' ks vs=>kt'=kt /\ et'=et /\ ks.length < maxLen /\ cU sh x /\ iB z v /\ doW C hs K ns ⟨⟩ e R acc [(b,.mp kt et (x::ks) (v::vs))] []) ⟨⟩
 | _=>False
@[simp] theorem Ow {sh kt et z x v b} : muM C hs K ns u e R acc sh kt et z x v (.mrf b)=mpT (ac e b) (fun kt' et' ks vs=>kt'=kt /\ et'=et /\ ks.length < maxLen /\ cU sh x /\ iB z v /\ doW C hs K ns ⟨⟩ e R acc [(b,.mp kt et (x::ks) (v::vs))] []) ⟨⟩:=_root_.id rfl
@[simp] theorem OX {sh kt et z m x v v1} : opW C hs K ns dst (.mpu sh kt et z m x v) v1 e R acc=(dst=none /\ muM C hs K ns ⟨⟩ e R acc sh kt et z (vd (ac e) x) (vd (ac e) v) (vd (ac e) m)):=by
 show (dst=none /\ _)=_
 congr 1
end
@[simp] theorem CB {s} : cU .str (.str s)=(s.length <= maxLen):=_root_.id rfl
@[simp] theorem AR {b} : cU .bool (.bool b)=True:=_root_.id rfl
@[simp] theorem CA {q q' n} : cU (.int q) (.int q' n)=(q'=q /\ pD q n):=_root_.id rfl
@[simp] theorem AU {q n ds} : cU (.ints q n) (.agg ds)=(ds.length=n /\ ∀ d ∈ ds,∃ x,d=.int q x /\ pD q x):=_root_.id rfl
@[simp] theorem E4 {s z} : iB (.str z) (.str s)=(s.length <= maxLen):=_root_.id rfl
@[simp] theorem Cj {b z} : iB (.bool z) (.bool b)=True:=_root_.id rfl
@[simp] theorem E3 {q q' n z} : iB (.int q z) (.int q' n)=(q'=q /\ pD q n):=_root_.id rfl
@[simp] theorem Iw {n : Int} : pD .i64 n=(-9223372036854775808 <= n /\ n <= 9223372036854775807):=by
 have e1 : IntKind.i64.min=-9223372036854775808:=rfl
 have e2 : IntKind.i64.max=9223372036854775807:=rfl
 simp [pD,Lit.wf,e1,e2]
attribute [simp] iN fJ bK dG cy bF aS dl wj okR qj lr cH
attribute [simp] vd params gb jD jE jC mq mU wI prune jK isC jk a7 QF bz dpv cu stK bP rt chk rdS rdR frR fwR gd rdN iC wrK mnR De ldN ah iL pz wOk Pa.root ck bC
end Go.Gv

namespace Go.Gv
def dT (c : Int) : Bool:=(97 <= c && c <= 122) || (65 <= c && c <= 90)
def gV (c : Int) : Bool:=48 <= c && c <= 57
def dU (c : UInt8) : Bool:=dT c.toNat || gV c.toNat || c.toNat == 95
def bW (s : List UInt8) : Nat:=(s.takeWhile dU).length
def ft (n : Int) : Bool:=-1125899906842624 <= n && n <= 1125899906842624
def bk (s : List UInt8) : Bool:=s ≠ [] && s.length <= 20 && dT (s[0]!).toNat && bW s == s.length
theorem ng (s : List UInt8) : bW s <= s.length:=by unfold bW;exact (List.takeWhile_prefix _).length_le
theorem rP {α : Type} (p : α -> Bool) : ∀ (s : List α) (i : Nat) (h : i < s.length),i <= (s.takeWhile p).length -> (p s[i]=true -> i + 1 <= (s.takeWhile p).length) /\ (p s[i]=false -> i=(s.takeWhile p).length)
 | [],i,h,_=>by simp at h
 | x::s,0,h,_=>by
  constructor <;> intro h1 <;> simp at h1 <;> simp [h1]
 | x::s,i + 1,h,h2=>by
  rw [List.takeWhile_cons] at h2 ⊢
  split at h2
  ·rename_i hp
   simp only [hp,if_true,List.length_cons,List.getElem_cons_succ] at h2 ⊢
   have:=rP p s i (by simpa using h) (by omega)
   exact ⟨fun e=>by have:=this.1 e;omega,fun e=>by have:=this.2 e;omega⟩
  ·simp at h2
theorem kw {s : List UInt8} {i : Nat} (h : i < s.length) (hi : i <= bW s) : dU s[i]=true -> i + 1 <= bW s:=(rP dU s i h hi).1
theorem kx {s : List UInt8} {i : Nat} (h : i < s.length) (hi : i <= bW s) : dU s[i]=false -> i=bW s:=(rP dU s i h hi).2
theorem af {n m : Int} (h : n=m) (h2 : -9223372036854775808 <= m /\ m < 9223372036854775808) : IntKind.wrap .i64 n=m:=by
 subst h
 have e1 : IntKind.i64.signed=true:=rfl
 have e2 : (2 ^ (IntKind.i64.bits - 1) : Int)=9223372036854775808:=rfl
 have e3 : (2 ^ IntKind.i64.bits : Int)=18446744073709551616:=rfl
 unfold IntKind.wrap
 simp only [e1,e2,e3,Bool.true_and,decide_eq_true_eq]
 split <;> omega
variable {C : CC} (hC : am prog C)
include hC
theorem vI (n : Int) : C 89 [.int .i64 n] (.bool (ft n)) []:=by
 refine al hC (nf:=N89) rfl rfl ?_
 simp [N89,ft]
 refine ab (fun h=>?_) (fun h=>?_) <;> simp at h <;> simp [h] <;> omega
theorem zE (n l : Int) : C 60 [.int .i64 n,.int .i64 l] (.bool (0 <= n && n <= 4194304 && 1 <= l && l <= 16777216)) []:=by
 refine al hC (nf:=N60) rfl rfl ?_
 simp [N60]
 repeat' (refine ab (fun h=>?_) (fun h=>?_) <;> simp at h <;> simp [h] <;> try omega)
theorem xY (c : Int) : C 88 [.int .u8 c] (.bool (gV c)) []:=by
 refine al hC (nf:=N88) rfl rfl ?_
 simp [N88,gV]
 refine ab (fun h=>?_) (fun h=>?_) <;> simp at h <;> simp [h] <;> omega
theorem pH (c : Int) : C 70 [.int .u8 c] (.bool (dT c)) []:=by
 refine al hC (nf:=N70) rfl rfl ?_
 simp [N70,dT]
 repeat' (refine ab (fun h=>?_) (fun h=>?_) <;> simp at h <;> simp [h] <;> try omega)
theorem DN (s : List UInt8) (hs : s.length < 2 ^ 62) : C 71 [.str s] (.int .i64 (bW s)) []:=by
 refine al hC (nf:=N71) rfl rfl ?_
 simp [N71]
 refine aj Nat (fun i=>[(0,.str s),(3,.int .i64 i)]) (fun i=>i <= bW s) (fun i=>bW s - i) 0 (by simp) (by simp) ?_
 intro i hi
 have hle : bW s <= s.length:=ng s
 by_cases hl : i < s.length
 ·simp [hl]
  refine aa (pH hC _) (.inl rfl) ?_
  have hstep : dU s[i]=true -> i + 1 <= bW s:=kw hl hi
  have hstop : dU s[i]=false -> i=bW s:=kx hl hi
  simp only [dU] at hstep hstop
  have hw : IntKind.wrap .i64 ((i : Int) + 1)=((i + 1 : Nat) : Int):=af (by omega) (by omega)
  cases h1 : dT s[i].toNat with
  | true =>
   simp [h1,hw] at hstep ⊢
   exact ⟨i + 1,by omega,by omega,rfl⟩
  | false =>
   simp [h1,hl]
   refine aa (xY hC _) (.inl rfl) ?_
   cases h2 : gV s[i].toNat with
   | true =>
    simp [h1,h2,hw] at hstep ⊢
    exact ⟨i + 1,by omega,by omega,rfl⟩
   | false =>
    simp [hl]
    refine ab (fun h3=>?_) (fun h3=>?_) <;> simp at h3
    ·simp [hw,hl]
     have:=hstep (by simp [show s[i].toNat=95 by omega])
     exact ⟨i + 1,this,by omega,rfl⟩
    ·have h4 : ¬ s[i].toNat=95:=by omega
     simp [h1,h2,h4] at hstop ⊢
     omega
 ·simp [hl]
  have : i=bW s:=by omega
  omega
theorem gl (s : List UInt8) : C 58 [.str s] (.bool (bk s)) []:=by
 refine al hC (nf:=N58) rfl rfl ?_
 simp [N58]
 refine ab (fun h=>?_) (fun h=>?_) <;> simp at h
 ·have hp : 0 < s.length:=List.length_pos_iff.2 h
  simp [h,hp]
  refine ab (fun h2=>?_) (fun h2=>?_) <;> simp at h2
  ·simp [h2,hp]
   refine aa (pH hC _) (.inl rfl) ?_
   simp
   refine ab (fun h3=>?_) (fun h3=>?_)
   ·simp [h3,h2]
    refine aa (DN hC s (by omega)) (.inl rfl) ?_
    simp [bk,h,h3,show s.length <= 20 by omega,hp,Int.ofNat_inj]
    rw [Bool.eq_iff_iff];simp
   ·simp [bk,h,h3,hp]
  ·simp [h2,bk]
   omega
 ·subst h
  simp [bk]
end Go.Gv

namespace Go.Gv
structure SlI where
 n : Bool
 l : List Int
 deriving Inhabited
def slI (x : SlI) : D:=slx x.n (x.l.map fun n=>[.int .i64 n])
def knD (k : Int × Int) : List D:=[.int .i64 k.1,.int .i64 k.2]
structure Sec where
 name : List UInt8
 height : Int
 price : Int
 areaN : Bool
 area : List (Int × Int)
 convN : Bool
 conv : List (Int × Int)
 deriving Inhabited
def aW (s : Sec) : List D:=[.str s.name,.int .i64 s.height,.int .i64 s.price,slx s.areaN (s.area.map knD),slx s.convN (s.conv.map knD)]
def bB {α : Type} (p : α -> Bool) (xs : List α) : Int:=match xs.findIdx? p with
 | some i=>i
 | none=>-1
theorem cz {α : Type} {p : α -> Bool} {xs : List α} {i : Nat} (hj : ∀ (j : Nat) (h : j < xs.length),j < i -> p xs[j]=false) (hi : i < xs.length) (h : p xs[i]=true) : bB p xs=i:=by
 have : xs.findIdx? p=some i:=by
  rw [List.findIdx?_eq_some_iff_getElem]
  exact ⟨hi,h,fun j hji=>by simp [hj j (by omega) hji]⟩
 simp [bB,this]
theorem cN {α : Type} {p : α -> Bool} {xs : List α} (hj : ∀ (j : Nat) (h : j < xs.length),p xs[j]=false) : bB p xs=-1:=by
 have : xs.findIdx? p=none:=by
  rw [List.findIdx?_eq_none_iff]
  intro x hx
  obtain ⟨j,h,rfl⟩:=List.mem_iff_getElem.1 hx
  exact hj j h
 simp [bB,this]
theorem gz {α : Type} (p : α -> Bool) (xs : List α) : decide (0 <= bB p xs)=xs.any p:=by
 unfold bB
 split
 ·rename_i i h
  rw [List.findIdx?_eq_some_iff_getElem] at h
  obtain ⟨h1,h2,_⟩:=h
  have : xs.any p=true:=List.any_eq_true.2 ⟨_,List.getElem_mem h1,h2⟩
  simp [this]
 ·rename_i h
  rw [List.findIdx?_eq_none_iff] at h
  have : xs.any p=false:=by rw [List.any_eq_false];intro x hx;simp [h x hx]
  simp [this]
variable {C : CC} (hC : am prog C)
include hC
theorem vV {b : Bool} {xs : List Int} {g : Nat} {cs : List D} (p : Int -> Bool) (hs : xs.length < 2 ^ 62) (hp : ∀ x ∈ xs,C g (.int .i64 x::cs) (.bool (p x)) []) : C 35 [slx b (xs.map fun x=>[.int .i64 x]),.fn g cs] (.int .i64 (bB p xs)) []:=by
 refine al hC (nf:=N35) rfl rfl ?_
 simp [N35]
 refine aj Nat (fun i=>[(0,slx b (xs.map fun x=>[.int .i64 x])),(1,.fn g cs),(7,.int .i64 xs.length),(8,.int .i64 i)]) (fun i=>i <= xs.length /\ ∀ (j : Nat) (h : j < xs.length),j < i -> p xs[j]=false) (fun i=>xs.length - i) 0 (by simp) (by simp) ?_
 rintro i ⟨hi,hj⟩
 simp
 refine ab (fun h=>?_) (fun h=>?_) <;> simp [h] <;> simp at h
 ·have hw : IntKind.wrap .i64 ((i : Int) + 1)=((i + 1 : Nat) : Int):=af (by omega) (by omega)
  have hc:=hp _ (List.getElem_mem h)
  simp [h,List.getElem_map] at hc ⊢
  refine aa hc (.inl rfl) ?_
  simp
  refine ab (fun h1=>?_) (fun h1=>?_) <;> simp [h1,hw]
  ·rw [cz hj h h1]
  ·refine ⟨i + 1,⟨by omega,fun j hl hjj=>?_⟩,by omega,rfl⟩
   rcases Nat.lt_succ_iff_lt_or_eq.1 hjj with h2 | rfl
   ·exact hj j hl h2
   ·exact h1
 ·rw [cN (fun j hl=>hj j hl (by omega))]
theorem mw {b : Bool} {xs : List Int} {g : Nat} {cs : List D} (p : Int -> Bool) (hs : xs.length < 2 ^ 62) (hp : ∀ x ∈ xs,C g (.int .i64 x::cs) (.bool (p x)) []) : C 11 [slx b (xs.map fun x=>[.int .i64 x]),.fn g cs] (.bool (xs.any p)) []:=by
 refine al hC (nf:=N11) rfl rfl ?_
 simp [N11]
 refine aa (vV hC p hs hp) (.inl rfl) ?_
 simp [gz]
theorem vW {b : Bool} {xs : List Sec} {g : Nat} {cs : List D} (p : Sec -> Bool) (hs : xs.length < 2 ^ 62) (hp : ∀ x ∈ xs,C g (.agg (aW x)::cs) (.bool (p x)) []) : C 52 [slx b (xs.map fun x=>aW x),.fn g cs] (.int .i64 (bB p xs)) []:=by
 refine al hC (nf:=N52) rfl rfl ?_
 simp [N52]
 refine aj Nat (fun i=>[(0,slx b (xs.map fun x=>aW x)),(1,.fn g cs),(7,.int .i64 xs.length),(8,.int .i64 i)]) (fun i=>i <= xs.length /\ ∀ (j : Nat) (h : j < xs.length),j < i -> p xs[j]=false) (fun i=>xs.length - i) 0 (by simp) (by simp) ?_
 rintro i ⟨hi,hj⟩
 simp
 refine ab (fun h=>?_) (fun h=>?_) <;> simp [h] <;> simp at h
 ·have hw : IntKind.wrap .i64 ((i : Int) + 1)=((i + 1 : Nat) : Int):=af (by omega) (by omega)
  have hc:=hp _ (List.getElem_mem h)
  simp [h,aW] at hc ⊢
  refine aa hc (.inl rfl) ?_
  simp
  refine ab (fun h1=>?_) (fun h1=>?_) <;> simp [h1,hw]
  ·rw [cz hj h h1]
  ·refine ⟨i + 1,⟨by omega,fun j hl hjj=>?_⟩,by omega,rfl⟩
   rcases Nat.lt_succ_iff_lt_or_eq.1 hjj with h2 | rfl
   ·exact hj j hl h2
   ·exact h1
 ·rw [cN (fun j hl=>hj j hl (by omega))]
theorem vT {b : Bool} {xs : List Sec} {g : Nat} {cs : List D} (p : Sec -> Bool) (hs : xs.length < 2 ^ 62) (hp : ∀ x ∈ xs,C g (.agg (aW x)::cs) (.bool (p x)) []) : C 45 [slx b (xs.map fun x=>aW x),.fn g cs] (.bool (xs.any p)) []:=by
 refine al hC (nf:=N45) rfl rfl ?_
 simp [N45]
 refine aa (vW hC p hs hp) (.inl rfl) ?_
 simp [gz]
end Go.Gv

namespace Go.Gv
abbrev Edg:=Nat × Nat
def edK (e : Edg) : List D:=knD ((e.1 : Int),(e.2 : Int))
def edI (e : Edg) : Int × Int:=((e.1 : Int),(e.2 : Int))
theorem x8 (es : List Edg) : es.map edK=(es.map edI).map knD:=by simp [edK,edI]
def aG (l : List Nat) : List (List D):=l.map fun k : Nat=>[.int .i64 (k : Int)]
def inG (n : Nat) (es : List Edg) : Prop:=∀ e ∈ es,e.1 < n /\ e.2 < n
def nxt (n : Nat) (es : List Edg) (i : Nat) : List Nat:=(List.range n).filter fun k=>es.contains (i,k)
theorem f7 {n : Nat} {es : List Edg} {i k : Nat} : k ∈ nxt n es i ↔ k < n /\ (i,k) ∈ es:=by simp [nxt]
theorem nV (n : Nat) (es : List Edg) (i : Nat) : (nxt n es i).Nodup:=List.Pairwise.filter _ List.nodup_range
theorem sD (n : Nat) (es : List Edg) (i : Nat) : (nxt n es i).length <= n:=by
 have:=List.length_filter_le (fun k=>es.contains (i,k)) (List.range n)
 simpa [nxt] using this
theorem lb {α : Type} {n k : Nat} {f : Nat -> α} (x : α) : ((List.range n).map f).set k x=(List.range n).map fun v=>if v=k then x else f v:=by
 apply List.ext_getElem
 ·simp
 ·intro i h1 h2
  simp only [List.getElem_set,List.getElem_map,List.getElem_range]
  by_cases e : k=i
  ·rw [if_pos e,if_pos e.symm]
  ·rw [if_neg e,if_neg (Ne.symm e)]
def tgs (es : List Edg) (i : Nat) : List Nat:=(es.filter fun e=>e.1 == i).map (·.2)
theorem yB {es : List Edg} {i k : Nat} : k ∈ tgs es i ↔ (i,k) ∈ es:=by
 unfold tgs
 simp only [List.mem_map,List.mem_filter,beq_iff_eq]
 constructor
 ·rintro ⟨⟨a,b⟩,⟨h1,h2⟩,h3⟩
  simp only at h2 h3
  subst h2 h3
  exact h1
 ·intro h
  exact ⟨(i,k),⟨h,rfl⟩,rfl⟩
theorem xg {es : List Edg} {j : Nat} (hj : j < es.length) (v : Nat) : tgs (es.take (j + 1)) v=tgs (es.take j) v++(if es[j].1=v then [es[j].2] else []):=by
 unfold tgs
 rw [List.take_succ_eq_append_getElem hj,List.filter_append,List.map_append]
 congr 1
 by_cases h : es[j].1=v <;> simp [h]
theorem s9 (es : List Edg) (i : Nat) : (tgs es i).length <= es.length:=by
 unfold tgs
 rw [List.length_map]
 exact List.length_filter_le _ _
def fN (es : List Edg) (out : List Nat) (v : Nat) : Bool:=es.all fun e=>!(e.2 == v) || out.contains e.1
theorem j5 {es : List Edg} {out : List Nat} {v : Nat} : fN es out v=true ↔ ∀ u,(u,v) ∈ es -> u ∈ out:=by
 unfold fN
 simp only [List.all_eq_true,Bool.or_eq_true,Bool.not_eq_true',beq_eq_false_iff_ne,List.contains_iff_mem]
 constructor
 ·intro h u hu
  rcases h _ hu with h | h
  ·exact absurd rfl h
  ·exact h
 ·rintro h ⟨a,b⟩ he
  by_cases e : b=v
  ·subst e;exact .inr (h a he)
  ·exact .inl e
def cQ (n : Nat) (es : List Edg) (out : List Nat) : List Nat:=(List.range n).filter fun v=>!out.contains v && fN es out v
theorem jW {n : Nat} {es : List Edg} {out : List Nat} {v : Nat} : v ∈ cQ n es out ↔ v < n /\ v ∉ out /\ ∀ u,(u,v) ∈ es -> u ∈ out:=by
 simp only [cQ,List.mem_filter,List.mem_range,Bool.and_eq_true,Bool.not_eq_true',<- j5]
 simp
def m7 (n : Nat) (es : List Edg) (out : List Nat) : List Nat:=match cQ n es out with
 | []=>out
 | v::_=>out++[v]
def aI (n : Nat) (es : List Edg) : Nat -> List Nat
 | 0=>[]
 | m + 1=>m7 n es (aI n es m)
def dn (n : Nat) (es : List Edg) : List Nat:=aI n es n
def eT (n : Nat) (es : List Edg) (out : List Nat) (k : Nat) : Nat:=((List.range n).filter fun u=>es.contains (u,k) && !out.contains u).length
def kG (es : List Edg) (i k : Nat) : Nat:=((List.range i).filter fun u=>es.contains (u,k)).length
theorem vi (n : Nat) (es : List Edg) (k : Nat) : kG es n k=eT n es [] k:=by
 unfold kG eT
 congr 1
 apply List.filter_congr
 simp
theorem tA (es : List Edg) (i k : Nat) : kG es (i + 1) k=kG es i k + (if (i,k) ∈ es then 1 else 0):=by
 unfold kG
 rw [List.range_succ,List.filter_append,List.length_append]
 by_cases h : (i,k) ∈ es <;> simp [h]
theorem xW (es : List Edg) (i k : Nat) : kG es i k <= i:=by
 have:=List.length_filter_le (fun u=>es.contains (u,k)) (List.range i)
 simpa [kG] using this
theorem nD {n : Nat} {es : List Edg} (hg : inG n es) {out : List Nat} {k : Nat} : eT n es out k=0 ↔ fN es out k=true:=by
 rw [j5]
 unfold eT
 rw [List.length_eq_zero_iff,List.filter_eq_nil_iff]
 constructor
 ·intro h u hu
  have:=h u (by simpa using (hg _ hu).1)
  simp at this
  exact this hu
 ·intro h u hu
  simp
  exact fun he=>h u he
theorem kL {α : Type} (l : List α) (p q : α -> Bool) : (l.filter p).length=(l.filter fun a=>p a && q a).length + (l.filter fun a=>p a && !q a).length:=by
 induction l with
 | nil=>rfl
 | cons a l ih =>
  simp only [List.filter_cons]
  cases p a <;> cases q a <;> simp <;> omega
theorem nC {n : Nat} {es : List Edg} {out : List Nat} {i : Nat} (hi : i < n) (ho : i ∉ out) (k : Nat) : eT n es out k=eT n es (out++[i]) k + (if (i,k) ∈ es then 1 else 0):=by
 unfold eT
 rw [kL (List.range n) (fun u=>es.contains (u,k) && !out.contains u) (fun u=>!(u == i))]
 congr 1
 ·congr 1
  apply List.filter_congr
  intro u _
  rw [Bool.eq_iff_iff]
  simp [and_assoc]
 ·have e : (List.range n).filter (fun a=>(es.contains (a,k) && !out.contains a) && !!(a == i))=if (i,k) ∈ es then [i] else []:=by
   have h1 : (List.range n).filter (fun a=>(es.contains (a,k) && !out.contains a) && !!(a == i))=((List.range n).filter (fun a=>a == i)).filter fun a=>es.contains (a,k) && !out.contains a:=by
    rw [List.filter_filter]
    apply List.filter_congr
    intro u _
    simp
   have h2 : (List.range n).filter (fun a=>a == i)=[i]:=by
    have : (List.range n).filter (fun a=>a == i)=List.replicate ((List.range n).count i) i:=List.filter_beq i
    rw [this,List.nodup_range.count,if_pos (by simpa using hi)]
    rfl
   rw [h1,h2]
   by_cases h : (i,k) ∈ es <;> simp [h,ho]
  rw [e]
  split <;> rfl
end Go.Gv

namespace Go.Gv
structure SlC (C : CC) : Prop where
 sort : ∀ zs : List Int,zs.length < 2 ^ 40 -> C 366 [.own 1 (zs.map fun n=>[.int .i64 n])] .any [.own 1 ((zs.mergeSort fun x y=>decide (x <= y)).map fun n=>[.int .i64 n]),.nilp]
 compact : ∀ zs : List Int,zs.length < 2 ^ 40 -> C 523 [.own 1 (zs.map fun n=>[.int .i64 n])] .any [.own 1 ((Lib.compact zs).map fun n=>[.int .i64 n]),.nils,.nils]
 insert : ∀ (zs : List Int) (i : Nat) (x : Int),i <= zs.length -> zs.length < 2 ^ 40 -> C 519 [.own 1 (zs.map fun n=>[.int .i64 n]),.int .i64 i,.own 1 [[.int .i64 x]]] .any [.own 1 ((zs.take i++x::zs.drop i).map fun n=>[.int .i64 n]),.nils,.nils]
theorem jH : ∀ {l l' : List Int},l.Pairwise (· < ·) -> l'.Pairwise (· < ·) -> (∀ x,x ∈ l ↔ x ∈ l') -> l=l'
 | [],[],_,_,_=>rfl
 | [],b::_,_,_,h=>by simpa using (h b).2 (by simp)
 | a::_,[],_,_,h=>by simpa using (h a).1 (by simp)
 | a::l,b::l',h1,h2,h=>by
  rw [List.pairwise_cons] at h1 h2
  have e : a=b:=by
   have x1:=(h a).1 (by simp)
   have x2:=(h b).2 (by simp)
   simp only [List.mem_cons] at x1 x2
   rcases x1 with x1 | x1
   ·exact x1
   ·rcases x2 with x2 | x2
    ·exact x2.symm
    ·have:=h2.1 a x1;have:=h1.1 b x2;omega
  subst e
  congr 1
  refine jH h1.2 h2.2 fun x=>?_
  have:=h x
  simp only [List.mem_cons] at this
  constructor
  ·intro hx
   have h3:=h1.1 x hx
   rcases this.1 (.inr hx) with h4 | h4
   ·omega
   ·exact h4
  ·intro hx
   have h3:=h2.1 x hx
   rcases this.2 (.inr hx) with h4 | h4
   ·omega
   ·exact h4
theorem jP {d : Array Int} (hs : ∀ j,0 < j -> j < d.size -> d[j - 1]! <= d[j]!) : ∀ m,m <= d.size -> (Lib.compactUpTo d m).Pairwise (· < ·) /\ (∀ x,x ∈ Lib.compactUpTo d m ↔ ∃ j,j < m /\ d[j]! = x) /\ ∀ x ∈ Lib.compactUpTo d m,x <= d[m - 1]!
 | 0,_=>by simp [Lib.compactUpTo]
 | m + 1,hm=>by
  obtain ⟨h1,h2,h3⟩:=jP hs m (by omega)
  rw [Lib.compactUpTo_succ]
  by_cases hk : Lib.keeps d m=true
  ·rw [if_pos hk]
   have hlt : ∀ x ∈ Lib.compactUpTo d m,x < d[m]!:=fun x hx=>by
    have h4:=h3 x hx
    simp only [Lib.keeps,decide_eq_true_eq] at hk
    rcases hk with rfl | hk
    ·obtain ⟨j,hj,_⟩:=(h2 x).1 hx;omega
    ·rcases Nat.eq_zero_or_pos m with h0 | h0
     ·subst h0;obtain ⟨j,hj,_⟩:=(h2 x).1 hx;omega
     ·have:=hs m h0 (by omega);omega
   refine ⟨List.pairwise_append.2 ⟨h1,by simp,fun a ha b hb=>by simp at hb;subst hb;exact hlt a ha⟩,fun x=>?_,fun x hx=>?_⟩
   ·simp only [List.mem_append,List.mem_singleton,h2]
    constructor
    ·rintro (⟨j,hj,rfl⟩ | rfl)
     ·exact ⟨j,by omega,rfl⟩
     ·exact ⟨m,by omega,rfl⟩
    ·rintro ⟨j,hj,rfl⟩
     by_cases e : j=m
     ·exact .inr (by rw [e])
     ·exact .inl ⟨j,by omega,rfl⟩
   ·simp only [List.mem_append,List.mem_singleton] at hx
    rcases hx with hx | hx
    ·exact Int.le_of_lt (hlt x hx)
    ·rw [hx];exact Int.le_refl _
  ·rw [if_neg hk,List.append_nil]
   have hm0 : 0 < m:=by
    rcases Nat.eq_zero_or_pos m with h | h
    ·subst h;exact absurd (Lib.keeps_lt_one d 0 (by omega)) hk
    ·exact h
   have he : d[m]! = d[m - 1]!:=by
    apply Classical.byContradiction
    intro h
    exact hk (Lib.keeps_pos h)
   refine ⟨h1,fun x=>?_,fun x hx=>?_⟩
   ·rw [h2]
    constructor
    ·rintro ⟨j,hj,rfl⟩;exact ⟨j,by omega,rfl⟩
    ·rintro ⟨j,hj,rfl⟩
     by_cases e : j=m
     ·subst e;exact ⟨j - 1,by omega,he.symm⟩
     ·exact ⟨j,by omega,rfl⟩
   ·have:=h3 x hx
    simp only [Nat.add_sub_cancel,he]
    exact this
theorem oB {n : Nat} {es : List Edg} (hg : inG n es) (i : Nat) : Lib.compact (((tgs es i).map fun k : Nat=>(k : Int)).mergeSort fun x y=>decide (x <= y))=(nxt n es i).map fun k : Nat=>(k : Int):=by
 obtain ⟨zs,hz⟩ : ∃ zs,zs=((tgs es i).map fun k : Nat=>(k : Int)).mergeSort fun x y=>decide (x <= y):=⟨_,rfl⟩
 rw [<- hz]
 have hp : zs.Pairwise (· <= ·):=by
  have h:=List.pairwise_mergeSort (le:=fun x y : Int=>decide (x <= y)) (fun a b c h1 h2=>by simp at *;omega) (fun a b=>by simp;omega) ((tgs es i).map fun k : Nat=>(k : Int))
  rw [<- hz] at h
  exact h.imp fun h=>by simpa using h
 have hm : ∀ x,x ∈ zs ↔ ∃ k : Nat,(i,k) ∈ es /\ (k : Int)=x:=fun x=>by
  rw [hz,List.mem_mergeSort,List.mem_map]
  simp only [yB]
 have hs : ∀ j,0 < j -> j < zs.toArray.size -> zs.toArray[j - 1]! <= zs.toArray[j]!:=fun j h1 h2=>by
  have h3 : j < zs.length:=by simpa using h2
  rw [getElem!_pos zs.toArray (j - 1) (by simpa using (by omega : j - 1 < zs.length)),getElem!_pos zs.toArray j h2]
  exact List.pairwise_iff_getElem.1 hp (j - 1) j (by omega) h3 (by omega)
 obtain ⟨h1,h2,_⟩:=jP hs zs.length (by simp)
 refine jH h1 ?_ fun x=>?_
 ·rw [List.pairwise_map]
  have : (nxt n es i).Pairwise (· < ·):=List.Pairwise.filter _ List.pairwise_lt_range
  exact this.imp fun h=>by omega
 ·unfold Lib.compact
  rw [h2,List.mem_map]
  constructor
  ·rintro ⟨j,hj,rfl⟩
   rw [getElem!_pos zs.toArray j (by simpa using hj)]
   obtain ⟨k,k1,k2⟩:=(hm _).1 (List.getElem_mem (l:=zs) hj)
   exact ⟨k,f7.2 ⟨(hg _ k1).2,k1⟩,by simpa using k2⟩
  ·rintro ⟨k,hk,rfl⟩
   obtain ⟨j,hj,e⟩:=List.mem_iff_getElem.1 ((hm k).2 ⟨k,(f7.1 hk).2,rfl⟩)
   exact ⟨j,hj,by rw [getElem!_pos zs.toArray j (by simpa using hj)];simpa using e⟩
variable {C : CC} (hC : am prog C)
include hC
theorem JJ (n i : Int) : C 516 [.int .i64 n,.int .i64 i] (.bool (decide (0 <= i) && decide (i < n))) []:=by
 refine al hC (nf:=N516) rfl rfl ?_
 simp [N516]
 refine ab (fun h=>?_) (fun h=>?_) <;> simp at h <;> simp [h] <;> omega
theorem yq {b : Bool} {xs : List (Int × Int)} {g : Nat} {cs : List D} (p : (Int × Int) -> Bool) (hs : xs.length < 2 ^ 62) (hp : ∀ x ∈ xs,C g (.agg (knD x)::cs) (.bool (p x)) []) : C 522 [slx b (xs.map fun x=>knD x),.fn g cs] (.int .i64 (bB p xs)) []:=by
 refine al hC (nf:=N522) rfl rfl ?_
 simp [N522]
 refine aj Nat (fun i=>[(0,slx b (xs.map fun x=>knD x)),(1,.fn g cs),(7,.int .i64 xs.length),(8,.int .i64 i)]) (fun i=>i <= xs.length /\ ∀ (j : Nat) (h : j < xs.length),j < i -> p xs[j]=false) (fun i=>xs.length - i) 0 (by simp) (by simp) ?_
 rintro i ⟨hi,hj⟩
 simp
 refine ab (fun h=>?_) (fun h=>?_) <;> simp [h] <;> simp at h
 ·have hw : IntKind.wrap .i64 ((i : Int) + 1)=((i + 1 : Nat) : Int):=af (by omega) (by omega)
  have hc:=hp _ (List.getElem_mem h)
  simp [h,knD] at hc ⊢
  refine aa hc (.inl rfl) ?_
  simp
  refine ab (fun h1=>?_) (fun h1=>?_) <;> simp [h1,hw]
  ·rw [cz hj h h1]
  ·refine ⟨i + 1,⟨by omega,fun j hl hjj=>?_⟩,by omega,rfl⟩
   rcases Nat.lt_succ_iff_lt_or_eq.1 hjj with h2 | rfl
   ·exact hj j hl h2
   ·exact h1
 ·rw [cN (fun j hl=>hj j hl (by omega))]
theorem yo {b : Bool} {xs : List (Int × Int)} {g : Nat} {cs : List D} (p : (Int × Int) -> Bool) (hs : xs.length < 2 ^ 62) (hp : ∀ x ∈ xs,C g (.agg (knD x)::cs) (.bool (p x)) []) : C 514 [slx b (xs.map fun x=>knD x),.fn g cs] (.bool (xs.any p)) []:=by
 refine al hC (nf:=N514) rfl rfl ?_
 simp [N514]
 refine aa (yq hC p hs hp) (.inl rfl) ?_
 simp [gz]
def pq (n : Int) (e : Int × Int) : Bool:=!((decide (0 <= e.1) && decide (e.1 < n)) && (decide (0 <= e.2) && decide (e.2 < n)))
theorem x7 (n : Int) (e : Int × Int) : C 515 [.agg (knD e),.ptr [.int .i64 n]] (.bool (pq n e)) []:=by
 refine al hC (nf:=N515) rfl rfl ?_
 simp [N515,knD]
 refine aa (JJ hC n e.1) (.inl rfl) ?_
 unfold pq
 cases h : (decide (0 <= e.1) && decide (e.1 < n))
 ·simp
 ·simp
  refine aa (JJ hC n e.2) (.inl rfl) ?_
  simp
def gOk (n : Int) (es : List (Int × Int)) : Bool:=decide (0 <= n) && decide (n <= 300) && decide (es.length <= 1000) && !es.any (pq n)
theorem vP (b : Bool) (n : Int) (es : List (Int × Int)) (hl : es.length < 2 ^ 62) : C 503 [.int .i64 n,slx b (es.map knD)] (.bool (gOk n es)) []:=by
 have k1:=yo hC (b:=b) (xs:=es) (g:=515) (cs:=[.ptr [.int .i64 n]]) (pq n) hl (fun x _=>x7 hC n x)
 refine al hC (nf:=N503) rfl rfl ?_
 simp [N503]
 by_cases h1 : n < 0
 ·simp [h1,gOk,show ¬ 0 <= n by omega]
 by_cases h2 : 300 < n
 ·simp [h1,h2,gOk,show ¬ n <= 300 by omega]
 by_cases h3 : (1000 : Int) < es.length
 ·simp [h1,h2,h3,gOk,show ¬ es.length <= 1000 by omega]
 simp [h1,h2,h3]
 refine aa k1 (.inl rfl) ?_
 simp [gOk,show 0 <= n by omega,show n <= 300 by omega,show es.length <= 1000 by omega]
theorem Co {n : Nat} {es : List Edg} (hn : n <= 300) (he : es.length <= 1000) (hg : inG n es) : gOk n (es.map edI)=true:=by
 unfold gOk
 simp only [Bool.and_eq_true,decide_eq_true_eq,List.length_map,Bool.not_eq_true',List.any_eq_false,List.mem_map]
 refine ⟨⟨⟨by omega,by omega⟩,he⟩,?_⟩
 rintro x ⟨e,h1,rfl⟩
 obtain ⟨h2,h3⟩:=hg e h1
 simp only [pq,edI,Bool.not_eq_true',Bool.not_eq_false',Bool.and_eq_true,decide_eq_true_eq]
 simp
 omega
end Go.Gv

namespace Go.Gv
section
variable {C : CC}
theorem i8 {f : Nat -> D} {dst : Option Nat} {K K' : KT} {o : NOp} (h : aE C f dst K o) (hk : ∀ ws ks,K ws ks -> K' ws ks) : aE C f dst K' o:=by
 obtain ⟨ws,ks,h1,h2⟩:=mV h
 exact h2 K' (hk ws ks h1)
theorem ic {e : Env} {dst : Option Nat} {K K' : Env -> Prop} (h : gJ e dst K) (hk : ∀ e,K e -> K' e) : gJ e dst K':=by
 unfold gJ at h ⊢
 split at h
 ·exact hk _ h
 ·exact hk _ h
theorem gO {K K' : Env -> Prop} (hk : ∀ e,K e -> K' e) : ∀ (ns : List av) (e : Env),ij C K ns e -> ij C K' ns e
 | [],e,h=>hk e h
 | o::os,e,h=>by
  rw [ij] at h ⊢
  split at h
  ·exact i8 h (fun ws ks h1=>gO hk os _ h1)
  ·split at h
   ·exact ⟨fun hb=>i8 (h.1 hb) (fun ws ks h1=>gO hk os _ h1),fun hb=>ic (h.2 hb) (fun e h1=>gO hk os e h1)⟩
   ·exact ic h (fun e h1=>gO hk os e h1)
   ·exact h.elim
theorem gN {hs : List Nat} {K K' : Env -> Prop} (hk : ∀ e,K e -> K' e) : ∀ (ns : List av) (e : Env) (acc : List (List Nat × List Nat)),jg C hs K ns e acc -> jg C hs K' ns e acc
 | [],e,acc,h=>⟨h.1,hk e h.2⟩
 | o::os,e,acc,h=>by
  rw [jg] at h ⊢
  refine ⟨h.1,?_⟩
  have h:=h.2
  split at h
  ·exact i8 h (fun ws ks h1=>⟨h1.1,gN hk os _ _ h1.2⟩)
  ·split at h
   ·exact ⟨fun hb=>i8 (h.1 hb) (fun ws ks h1=>⟨h1.1,gN hk os _ _ h1.2⟩),fun hb=>ic (h.2 hb) (fun e h1=>gN hk os e _ h1)⟩
   ·exact ic h (fun e h1=>gN hk os e _ h1)
   ·exact h.elim
theorem eq : ∀ (c : dB) (Q Q' : cj -> Env -> Prop) (e : Env),(∀ t e,Q t e -> Q' t e) -> wpN C c Q e -> wpN C c Q' e
 | .skip,Q,Q',e,hq,h=>hq _ _ h
 | .reg dr hs keep ops,Q,Q',e,hq,h=>by
  cases dr with
  | false=>exact gO (fun e h=>hq _ _ h) ops e h
  | true=>exact gN (fun e h=>hq _ _ h) ops e [] h
 | .seq x y,Q,Q',e,hq,h=>eq x _ _ e (fun t e h=>by
   cases t with
   | nrm=>exact eq y Q Q' e hq h
   | ext i=>exact hq _ _ h
   | ret=>exact hq _ _ h) h
 | .cond c x y,Q,Q',e,hq,h=>by
  rw [wpN] at h ⊢
  split at h
  ·exact ⟨fun hb=>eq x Q Q' e hq (h.1 hb),fun hb=>eq y Q Q' e hq (h.2 hb)⟩
  ·exact ⟨eq x Q Q' e hq h.1,eq y Q Q' e hq h.2⟩
  ·exact h.elim
 | .block id c,Q,Q',e,hq,h=>eq c _ _ e (fun t e h=>by
   cases t with
   | nrm=>exact hq _ _ h
   | ext i =>
    simp only at h ⊢
    split
    ·rename_i hi;rw [if_pos hi] at h;exact hq _ _ h
    ·rename_i hi;rw [if_neg hi] at h;exact hq _ _ h
   | ret=>exact hq _ _ h) h
 | .loop c,Q,Q',e,hq,h=>by
  obtain ⟨S,G,I,m,s0,h1,h2,h3⟩:=h
  refine ⟨S,G,I,m,s0,h1,h2,fun s hs=>eq c _ _ _ (fun t e h=>?_) (h3 s hs)⟩
  cases t with
  | nrm=>exact h
  | ext i=>exact hq _ _ h
  | ret=>exact hq _ _ h
 | .exit id,Q,Q',e,hq,h=>hq _ _ h
 | .ret,Q,Q',e,hq,h=>hq _ _ h
def ui (id : Nat) (S : Type) (G : S -> Env) (J : S -> Prop) (Q : cj -> Env -> Prop) : cj -> Env -> Prop:=fun t e=>match t with
 | .ext i=>if i=id then ∃ s,J s /\ jK e (G s) else Q (.ext i) e
 | t=>Q t e
variable {Q : cj -> Env -> Prop} {e : Env}
@[simp] theorem yh {id S G J u} : bM (ui id S G J Q) u .nrm e=bM Q ⟨⟩ .nrm e:=_root_.id rfl
@[simp] theorem yi {id S G J u} : bM (ui id S G J Q) u .ret e=bM Q ⟨⟩ .ret e:=_root_.id rfl
@[simp] theorem yg {id S G J u i} : bM (ui id S G J Q) u (.ext i) e=if i=id then ∃ s,J s /\ jK e (G s) else bM Q ⟨⟩ (.ext i) e:=_root_.id rfl
theorem pL {c : dB} {u : Tag (c,Q)} (id : Nat) (S : Type) (G : S -> Env) (J : S -> Prop) (h : sv C c (ui id S G J Q) ⟨⟩ e) (hr : ∀ s e,J s -> jK e (G s) -> bM Q ⟨⟩ (.ext id) e) : sv C c Q u e :=
 eq (.loop c) (ui id S G J Q) Q e (fun t e g=>by
  cases t with
  | nrm=>exact g
  | ret=>exact g
  | ext i =>
   simp only [ui] at g
   by_cases hi : i=id
   ·rw [if_pos hi] at g
    obtain ⟨s,h1,h2⟩:=g
    rw [hi]
    exact hr s e h1 h2
   ·rw [if_neg hi] at g
    exact g) h
def CN (S : Type) (G : S -> Env) (J : S -> Prop) (Q : cj -> Env -> Prop) : cj -> Env -> Prop:=fun t e=>match t with
 | .nrm=>∃ s,J s /\ jK e (G s)
 | t=>Q t e
@[simp] theorem ye {S G J u} : bM (CN S G J Q) u .nrm e=∃ s,J s /\ jK e (G s):=_root_.id rfl
@[simp] theorem yf {S G J u} : bM (CN S G J Q) u .ret e=bM Q ⟨⟩ .ret e:=_root_.id rfl
@[simp] theorem yc {S G J u i} : bM (CN S G J Q) u (.ext i) e=bM Q ⟨⟩ (.ext i) e:=_root_.id rfl
end
@[simp] theorem KP {C : CC} {hs : Option (List Nat)} {K : Env -> Prop} {ns : List av} {dst : Option Nat} {u : Tag (hs,K,ns)} {e : Env} {R : List Nat} {acc : List (List Nat × List Nat)} {α : Type} [Inhabited α] {n : Nat} {ag : Bool} {p : Pa} {xs : List α} {f : α -> List D} {i off : Nat} :
  la C hs K ns dst u e R acc n ag p (xs.map f) i off=(i < xs.length /\ off + n <= (f xs[i]!).length /\ match ag with
    | true=>((((f xs[i]!).drop off).take n).all isV=true -> dW C hs K ns dst ⟨⟩ e R acc (.agg (((f xs[i]!).drop off).take n))) /\
      ((((f xs[i]!).drop off).take n).all isV=false -> dW C hs K ns dst ⟨⟩ e R acc (.agx ((((f xs[i]!).drop off).take n).mapIdx fun j c=>ldc p i (off + j) c)))
    | false=>dW C hs K ns dst ⟨⟩ e R acc (ldc p i off (((f xs[i]!).drop off).headD .any))):=by
 apply propext
 constructor
 ·rintro ⟨r,h,h1,h2⟩
  rw [List.getElem?_map,Option.map_eq_some_iff] at h
  obtain ⟨x,hx,rfl⟩:=h
  obtain ⟨hi,rfl⟩:=List.getElem?_eq_some_iff.1 hx
  rw [getElem!_pos xs i hi]
  refine ⟨hi,h1,?_⟩
  cases ag <;> exact h2
 ·rintro ⟨hi,h1,h2⟩
  rw [getElem!_pos xs i hi] at h1 h2
  refine sO (r:=f xs[i]) (by rw [List.getElem?_map,List.getElem?_eq_getElem hi];rfl) h1 ?_
  cases ag <;> exact h2
@[simp] theorem F3 {b all ks n} : aY ((b,all)::ks) (.ptx n)=if n.any (aT b all) then .any else aY ks (.ptx n):=by
 have h : aY ((b,all)::ks) (.ptx n)=bif (n.any (aT b all) || aK ks (.ptx n)) then .any else .ptx n:=cr ..
 rw [h,cr]
 cases n.any (aT b all) <;> rfl
@[simp] theorem F7 {b all ks n} : aY ((b,all)::ks) (.tpx n)=if n.any (aT b all) then .any else aY ks (.tpx n):=by
 have h : aY ((b,all)::ks) (.tpx n)=bif (n.any (aT b all) || aK ks (.tpx n)) then .any else .tpx n:=cr ..
 rw [h,cr]
 cases n.any (aT b all) <;> rfl
@[simp] theorem Gk {b all n es} : aT b all (slx n es)=false:=by cases n <;> cases es <;> rfl
@[simp] theorem Gj {b all p k n} : aT b all (.ref p k n)=bP b all p:=_root_.id rfl
@[simp] theorem Gf {b all p k n} : aT b all (.adr p k n)=bP b all p:=_root_.id rfl
@[simp] theorem Gh {b all c} : aT b all (.mrf c)=(all && c == b):=_root_.id rfl
@[simp] theorem Gg {b all k n} : aT b all (.int k n)=false:=_root_.id rfl
@[simp] theorem CK {b all n} : aT b all (.bool n)=false:=_root_.id rfl
@[simp] theorem Gl {b all n} : aT b all (.str n)=false:=_root_.id rfl
@[simp] theorem CM {b all} : aT b all .nils=false:=_root_.id rfl
@[simp] theorem CL {b all} : aT b all .nilp=false:=_root_.id rfl
@[simp] theorem J9 {b all n} : aT b all (.sl n)=false:=_root_.id rfl
@[simp] theorem Gi {b all n} : aT b all (.ptr n)=false:=_root_.id rfl
@[simp] theorem J8 {b all g n} : aT b all (.fn g n)=false:=_root_.id rfl
@[simp] theorem F1 {b all ks c} : aY ((b,all)::ks) (.mrf c)=if (all && c == b) then .any else aY ks (.mrf c):=by
 have h : aY ((b,all)::ks) (.mrf c)=bif ((all && c == b) || aK ks (.mrf c)) then .any else .mrf c:=cr ..
 rw [h,cr]
 cases all && c == b <;> rfl
end Go.Gv
