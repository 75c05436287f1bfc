/-
  Texts of the proof: GvR, GvEbt, ItB, GvT, GvT4, GvU, K1, K4, K5, K6, GvW, K7, K8, M0, M3.
-/
import Derived.Test.YtabkicbiibfnbaaGreatX4
import Derived.SizedLaws
import Derived.ProofKit
import Derived.Test.YtabkicbiibfnbaaGreatX5
import Derived.Test.YtabkicbiibfnbaaGreatProg
import Derived.KernelRfl
import Derived.Shelf.Sort.Plain
import Derived.Shelf.Slices.CompactI
import Derived.Shelf.Spec.SlicesInsert
import Derived.Sort.Row
import Derived.Sort.Grow
import Derived.Shelf.Slices.In.SortNone
import Derived.Shelf.Spec.SlicesInsertGrow
import Derived.Lib.Mul64
import Derived.Laws.Bits64b
import Derived.Laws.MathBits
set_option linter.all false
namespace Go.Gv
open Go.RowKit Go.ChangeShapes Go.WideShapes Go.ChangeAt
inductive Sh where
 | int (k : IntKind)
 | bool
 | str
 | sl (row : List Sh)
mutual
def dx : Sh -> D -> Prop
 | .int k,d=>∃ n,d=.int k n /\ (Lit.int k n).wf=true
 | .bool,d=>∃ b,d=.bool b
 | .str,d=>∃ s,d=.str s /\ s.length < 140737488355328
 | .sl row,d=>∃ es,(d=.sl es \/ (d=.nils /\ es=[])) /\ es.length < 140737488355328 /\ ∀ e ∈ es,bQ row e
def bQ : List Sh -> List D -> Prop
 | [],ds=>ds=[]
 | s::ss,ds=>∃ d r,ds=d::r /\ dx s d /\ bQ ss r
end
theorem bQ.length : ∀ {ss : List Sh} {ds : List D},bQ ss ds -> ds.length=ss.length
 | [],ds,h=>by simp only [bQ] at h;simp [h]
 | s::ss,ds,h=>by
  simp only [bQ] at h
  obtain ⟨d,r,rfl,_,h2⟩:=h
  simp [bQ.length h2]
theorem bQ.append : ∀ {ss ts : List Sh} {ds es : List D},bQ ss ds -> bQ ts es -> bQ (ss++ts) (ds++es)
 | [],ts,ds,es,h,h'=>by simp only [bQ] at h;subst h;exact h'
 | s::ss,ts,ds,es,h,h'=>by
  simp only [bQ] at h
  obtain ⟨d,r,rfl,h1,h2⟩:=h
  exact ⟨d,r++es,rfl,h1,bQ.append h2 h'⟩
def pS (P : Program) (rec : TypeId -> Option (List Sh)) : List Field -> Nat -> Option (List Sh)
 | [],_=>some []
 | f::fs,off=>if f.offset=off then (match rec f.type with
   | some l=>if l.length=P.cellsOf f.type then (match pS P rec fs (off + l.length) with
    | some r=>some (l++r)
    | none=>none) else none
   | none=>none) else none
def mL (P : Program) : Nat -> TypeId -> Option (List Sh)
 | 0,_=>none
 | n + 1,t=>match P.underlying t with
  | some .bool=>some [.bool]
  | some (.int k)=>some [.int k]
  | some .string=>some [.str]
  | some (.slice e)=>(match mL P n e with
   | some l=>if l.length=P.cellsOf e /\ 1 <= P.bytesOf e then some [.sl l] else none
   | none=>none)
  | some (.struct fs)=>(match pS P (mL P n) fs.toList 0 with
   | some l=>if l.length=P.cellsOf t then some l else none
   | none=>none)
  | _=>none
section
variable {H : Type} {enc : TypeId × Value -> H} {P : Program} {F : Fid} {w : World} {sp : Nat -> Bool}
abbrev oN (w : World) : Mem:=fun p=>w.cell? p
def wC (enc : TypeId × Value -> H) (P : Program) (F : Fid) (w : World) (sp : Nat -> Bool) (n : Nat) (t : TypeId) (shs : List Sh) : Prop :=
 ∀ (cs : List Value) (d : DataW H) (ps : List MemPlace),DataW.trod enc P w 0 sp true n t cs=some (d,ps) -> (d.weights P t).all (· <= reachBytes)=true -> ∃ ds,bQ shs ds /\ aB F (oN w) ds cs
theorem jg {α β : Type} {f : α -> Option β} {x : α} {l : List α} {ys : List β} (h : (x::l).mapM f=some ys) : ∃ y r,f x=some y /\ l.mapM f=some r /\ ys=y::r:=by
 rw [List.mapM_cons] at h
 cases hx : f x with
 | none=>rw [hx] at h;cases h
 | some y =>
  cases hl : l.mapM f with
  | none=>rw [hx,hl] at h;cases h
  | some r =>
   rw [hx,hl] at h
   exact ⟨y,r,rfl,rfl,by cases h;rfl⟩
theorem nT {n m : Nat} (ih : ∀ t shs,mL P m t=some shs -> wC enc P F w sp n t shs) {cs : List Value} : ∀ (fs : List Field) (off : Nat) (xs : List (DataW H × List MemPlace)) (shs : List Sh),
  (fs.mapM fun f=>DataW.trod enc P w 0 sp true n f.type ((cs.drop f.offset).take (P.cellsOf f.type)))=some xs -> pS P (mL P m) fs off=some shs -> (DataW.weightsEach P (fs.map (·.type)) (xs.map (·.1))).all (· <= reachBytes)=true -> cs.length=off + shs.length ->
   ∃ ds,bQ shs ds /\ aB F (oN w) ds (cs.drop off)
 | [],off,xs,shs,_,h2,_,h4=>by
  cases h2
  exact ⟨[],rfl,by simp only [aB];exact List.drop_of_length_le (by simpa using Nat.le_of_eq h4)⟩
 | f::fs,off,xs,shs,h1,h2,h3,h4=>by
  obtain ⟨y,r,e1,e2,rfl⟩:=jg h1
  simp only [pS] at h2
  split at h2
  case isFalse=>cases h2
  rename_i ho
  split at h2
  case h_2=>cases h2
  rename_i l hl
  split at h2
  case isFalse=>cases h2
  rename_i hlen
  split at h2
  case h_2=>cases h2
  rename_i rs hr
  cases h2
  simp only [x0J,DataW.weightsEach,List.all_append,x0a] at h3
  rw [x0T] at h4
  obtain ⟨ds1,g1,g2⟩:=ih f.type l hl _ y.1 y.2 e1 h3.1
  obtain ⟨ds2,g3,g4⟩:=nT ih fs (off + l.length) r rs e2 hr h3.2 (by omega)
  refine ⟨ds1++ds2,g1.append g3,?_⟩
  rw [ho,<- hlen] at g2
  have:=g2.append g4
  rwa [<- List.drop_drop,List.take_append_drop] at this
theorem nU {n k : Nat} {e : TypeId} {l : List Sh} {a : Addr} (hl : l.length=k) (ih : wC enc P F w sp n e l) : ∀ (c s : Nat) (xs : List (DataW H × List MemPlace)),
  ((List.range' s c).mapM fun i=>(w.cells? 0 (a.add (i * k)) k).bind (DataW.trod enc P w 0 sp true n e))=some xs -> (DataW.weightsAll P e (xs.map (·.1))).all (· <= reachBytes)=true ->
   ∃ (es : List (List D)) (vs : List Value),es.length=c /\ xs.length=c /\ (∀ r ∈ es,bQ l r) /\ bv F (oN w) es vs /\ ∀ j v,vs[j]? = some v -> w.cell? (a.add (s * k + j))=some v
 | 0,s,xs,h,_=>by
  cases h
  exact ⟨[],[],rfl,rfl,by simp,by simp [bv],fun j v h=>by simp at h⟩
 | c + 1,s,xs,h,hw=>by
  rw [List.range'_succ] at h
  obtain ⟨y,r,e1,e2,rfl⟩:=jg h
  rw [Option.bind_eq_some_iff] at e1
  obtain ⟨row,c1,c2⟩:=e1
  simp only [x0J,DataW.weightsAll,List.all_append,x0a] at hw
  obtain ⟨ds,g1,g2⟩:=ih row y.1 y.2 c2 hw.1
  obtain ⟨es,vs,h1,h2,h3,h4,h5⟩:=nU hl ih c (s + 1) r e2 hw.2
  have hrow:=World.cells?_some c1
  refine ⟨ds::es,row++vs,by simp [h1],by simp [h2],?_,⟨row,vs,rfl,g2,h4⟩,fun j v hj=>?_⟩
  ·intro x hx
   rcases x0N.1 hx with rfl | hx
   ·exact g1
   ·exact h3 x hx
  ·have hrl : row.length=k:=by rw [g2.length,g1.length,hl]
   have addadd : ∀ i j,(a.add i).add j=a.add (i + j):=fun i j=>by
    unfold Addr.add
    by_cases hi : i=0 <;> by_cases hj : j=0 <;> simp [hi,hj,x0L]
   by_cases hjk : j < k
   ·rw [x0y (by omega)] at hj
    have:=hrow.2.2 j hjk
    rw [hj,addadd] at this
    exact this
   ·rw [x0z (by omega)] at hj
    have:=h5 (j - row.length) v hj
    rw [hrl] at this
    rwa [show (s + 1) * k + (j - k)=s * k + j by rw [x04];omega] at this
theorem m0 : ∀ (m : Nat) (n : Nat) (t : TypeId) (shs : List Sh),mL P m t=some shs -> wC enc P F w sp n t shs
 | 0,_,_,_,h=>by cases h
 | m + 1,0,t,shs,_=>fun cs d ps h _=>by simp [DataW.trod] at h
 | m + 1,n + 1,t,shs,h=>by
  intro cs d ps ht hw
  rw [mL] at h
  split at h
  ·rename_i hu
   cases h
   unfold DataW.trod at ht;rw [hu] at ht
   split at ht <;> try (simp_all;done)
   rename_i b _
   refine ⟨[.bool b],⟨_,_,rfl,⟨b,rfl⟩,rfl⟩,by simp [aB,af]⟩
  ·rename_i k hu
   cases h
   unfold DataW.trod at ht;rw [hu] at ht
   split at ht <;> try (simp_all;done)
   rename_i k1 k2 x h1
   simp only [x0r,TypeDesc.int.injEq] at h1
   subst h1
   split at ht
   ·rename_i hk
    obtain ⟨rfl,hwf⟩:=hk
    exact ⟨[.int _ x],⟨_,_,rfl,⟨x,rfl,hwf⟩,rfl⟩,by simp [aB,af]⟩
   ·cases ht
  ·rename_i hu
   cases h
   unfold DataW.trod at ht;rw [hu] at ht
   split at ht <;> try (simp_all;done)
   rename_i s _
   split at ht
   ·rename_i hs
    simp only [x0r,Prod.mk.injEq] at ht
    obtain ⟨rfl,rfl⟩:=ht
    simp only [DataW.weights,List.all_cons,List.all_nil,Bool.and_true,x0b] at hw
    refine ⟨[.str s.data.toList],⟨_,_,rfl,⟨_,rfl,?_⟩,rfl⟩,?_⟩
    ·have:=reachBytes_lt;omega
    ·obtain ⟨s⟩:=s
     simp [aB,af]
   ·cases ht
  ·rename_i e hu
   split at h
   case h_2=>cases h
   rename_i l hl
   split at h
   case isFalse=>cases h
   rename_i hk
   cases h
   unfold DataW.trod at ht;rw [hu] at ht
   split at ht <;> try (simp_all;done)
   ·refine ⟨[.nils],⟨_,_,rfl,⟨[],.inr ⟨rfl,rfl⟩,by simp,by simp⟩,rfl⟩,by simp [aB,af]⟩
   ·rename_i e' a len cap h1
    simp only [x0r,TypeDesc.slice.injEq] at h1
    subst h1
    simp only at ht
    split at ht
    case isFalse=>cases ht
    rename_i hb
    rw [Option.bind_eq_some_iff] at ht
    obtain ⟨xs,e1,e2⟩:=ht
    rw [x0m] at e2
    obtain ⟨rest,e3,e4⟩:=e2
    simp only [Prod.mk.injEq] at e4
    obtain ⟨rfl,rfl⟩:=e4
    simp only [DataW.weights,hu,List.all_cons,List.all_append,x0a,x0b] at hw
    obtain ⟨w1,w2,w3⟩:=hw
    rw [List.range_eq_range'] at e1
    obtain ⟨es,vs,g1,g2,g3,g4,g5⟩:=nU (F:=F) hk.1 (m0 m n e l hl) len 0 xs e1 w2
    refine ⟨[.sl es],⟨_,_,rfl,⟨es,.inl rfl,?_,g3⟩,rfl⟩,?_⟩
    ·have h5:=reachBytes_lt
     have h6 : es.length * 1 <= (xs.length + rest.length) * P.bytesOf e:=x0O (by omega) hk.2
     simp only [x1n] at w1
     omega
    ·simp only [aB]
     refine ⟨_,_,rfl,?_,rfl⟩
     simp only [af]
     refine ⟨some a,cap,vs,P.cellsOf e,by rw [g1],by omega,g4,fun r hr=>by rw [(g3 r hr).length,hk.1],fun _=>⟨a,rfl,fun j v hj=>?_⟩⟩
     have:=g5 j v hj
     simpa using this
  ·rename_i fs hu
   split at h
   case h_2=>cases h
   rename_i l hl
   split at h
   case isFalse=>cases h
   rename_i hk
   cases h
   unfold DataW.trod at ht;rw [hu] at ht
   split at ht <;> try (simp_all;done)
   rename_i fs' h1
   simp only [x0r,TypeDesc.struct.injEq] at h1
   subst h1
   split at ht
   case isFalse=>cases ht
   rename_i hc
   rw [x0m] at ht
   obtain ⟨xs,e1,e2⟩:=ht
   simp only [Prod.mk.injEq] at e2
   obtain ⟨rfl,rfl⟩:=e2
   simp only [DataW.weights,hu] at hw
   obtain ⟨ds,g1,g2⟩:=nT (F:=F) (n:=n) (fun t shs h=>m0 m n t shs h) fs.toList 0 xs _ e1 hl hw (by omega)
   exact ⟨ds,g1,by simpa using g2⟩
  ·cases h
theorem m8 {t : TypeId} {fs : Array Field} {m : Nat} {shs : List Sh} {base : Nat} {v : Value} {d : DataW H} {ps : List MemPlace} (hu : P.underlying t=some (.struct fs)) (hsh : mL P m t=some shs) (hv : Value.okWide P w .any base t v) (h : DataW.Trod enc P w 0 sp true t v d ps) (hw : (d.weights P t).all (· <= reachBytes)=true) :
  ∃ ds,bQ shs ds /\ af F (oN w) (.agg ds) v:=by
 obtain ⟨cs,rfl,_⟩:=okWide_struct hu hv
 obtain ⟨n,hn⟩:=h
 obtain ⟨ds,g1,g2⟩:=m0 (F:=F) m n t shs hsh _ d ps hn hw
 exact ⟨ds,g1,by simp only [af];exact ⟨cs.toList,by simp,g2⟩⟩
theorem oL {t e : TypeId} {m : Nat} {sh : Sh} {base : Nat} {v : Value} {d : DataW H} {ps : List MemPlace} (hu : P.underlying t=some (.slice e)) (hsh : mL P m t=some [sh]) (hv : Value.okWide P w .any base t v) (h : DataW.Trod enc P w 0 sp true t v d ps) (hw : (d.weights P t).all (· <= reachBytes)=true) :
  ∃ x,dx sh x /\ af F (oN w) x v:=by
 obtain ⟨a,len,cap,rfl⟩:=okWide_slice hu hv
 obtain ⟨n,hn⟩:=h
 obtain ⟨ds,g1,g2⟩:=m0 (F:=F) m n t [sh] hsh _ d ps hn hw
 simp only [bQ] at g1
 obtain ⟨x,r,rfl,g3,rfl⟩:=g1
 simp only [Value.cells,aB] at g2
 obtain ⟨v',r',e,g4,rfl⟩:=g2
 simp at e
 exact ⟨x,g3,by rw [e];exact g4⟩
end
theorem oa {α : Type} {f : α -> List D} {es : List (List D)} (h : ∀ e ∈ es,∃ x,e=f x) : ∃ xs : List α,es=xs.map f:=by
 induction es with
 | nil=>exact ⟨[],rfl⟩
 | cons e es ih =>
  obtain ⟨x,rfl⟩:=h e (by simp)
  obtain ⟨xs,rfl⟩:=ih (fun e he=>h e (by simp [he]))
  exact ⟨x::xs,rfl⟩
end Go.Gv
namespace Go.Gv
def Dg (P : Program) (F : Fid) (prog : Nat -> Option ar) (tbl : List (Nat × Nat)) : Bool:=tbl.all fun p=>pd P p.2 && match prog p.1 with
 | some nf=>fV P F p.2 nf
 | none=>true
theorem vC {tbl : List (Nat × Nat)} {g f : Nat} (h : tbl.lookup g=some f) : (g,f) ∈ tbl:=by
 induction tbl with
 | nil=>cases h
 | cons p r ih =>
  obtain ⟨a,b⟩:=p
  rw [x0l] at h
  cases e : g == a with
  | true=>rw [e] at h;simp at e h;subst e;subst h;simp
  | false=>rw [e] at h;simp [ih h]
theorem seat {P : Program} {tbl : List (Nat × Nat)} {ty : Nat -> TypeId} {prog : Nat -> Option ar} (hm : P.follows .mixedOrders=true) (hl : laidOutB P=true) (h : Dg P ⟨P,fun g=>tbl.lookup g,ty⟩ prog tbl=true) :
  ck P ⟨P,fun g=>tbl.lookup g,ty⟩ (jp P ⟨P,fun g=>tbl.lookup g,ty⟩) /\ aw prog (jp P ⟨P,fun g=>tbl.lookup g,ty⟩):=by
 have key : ∀ g f,tbl.lookup g=some f -> pd P f=true /\ ∀ nf,prog g=some nf -> fV P ⟨P,fun g=>tbl.lookup g,ty⟩ f nf=true:=fun g f e=>by
  have:=x0g.1 h _ (vC e)
  simp only [x0a] at this
  refine ⟨this.1,fun nf hnf=>?_⟩
  have:=this.2
  rw [hnf] at this
  exact this
 exact rX hm (fun g f e=>(key g f e).1) hl rfl (fun g f nf e hp=>(key g f e).2 nf hp)
end Go.Gv

namespace Go.Gv
open Go.Proofs
def TryzTbl : List (Nat × Nat) := [(0, 2), (535, 3), (153, 8), (572, 9), (155, 10), (573, 11), (574, 12), (575, 13), (576, 14), (434, 15), (435, 16), (181, 23), (49, 27), (156, 28), (158, 29), (157, 30), (453, 31), (617, 32), (455, 33), (154, 34), (45, 35), (159, 36), (618, 37), (619, 38), (620, 39), (621, 40), (164, 42), (491, 43), (493, 45), (175, 48), (458, 51), (501, 52), (462, 54), (499, 56), (169, 59), (160, 60), (161, 61), (162, 62), (163, 63), (52, 64), (433, 65), (44, 66), (641, 67), (642, 68), (315, 69), (643, 70), (644, 71), (471, 72), (428, 73), (440, 74), (645, 75), (431, 76), (191, 77), (646, 78), (198, 79), (193, 80), (168, 81), (170, 82), (171, 83), (509, 84), (510, 85), (488, 86), (194, 87), (467, 88), (176, 90), (47, 91), (165, 92), (166, 93), (167, 94), (470, 95), (472, 96), (51, 97), (333, 98), (460, 99), (461, 100), (427, 101), (33, 102), (465, 103), (479, 104), (466, 105), (195, 106), (85, 107), (82, 108), (83, 109), (196, 110), (197, 111), (58, 112), (172, 113), (173, 114), (174, 115), (177, 116), (178, 117), (72, 118), (179, 119), (180, 120), (182, 121), (54, 122), (507, 123), (199, 124), (508, 125), (200, 126), (201, 127), (503, 128), (11, 129), (516, 131), (517, 133), (53, 134), (60, 135), (61, 136), (91, 137), (504, 138), (59, 139), (339, 140), (492, 141), (494, 142), (495, 143), (496, 144), (497, 145), (459, 146), (429, 147), (48, 148), (468, 149), (94, 150), (87, 151), (95, 152), (202, 153), (50, 154), (70, 155), (71, 156), (183, 157), (184, 158), (89, 159), (185, 160), (62, 161), (63, 162), (64, 163), (514, 164), (515, 165), (35, 166), (366, 168), (523, 169), (73, 170), (74, 171), (75, 172), (76, 173), (77, 174), (518, 175), (519, 176), (511, 177), (489, 178), (490, 179), (55, 180), (502, 181), (56, 182), (57, 183), (88, 184), (78, 185), (79, 186), (522, 187), (90, 190), (92, 191), (411, 192), (524, 193), (513, 196), (65, 197), (66, 198), (67, 199), (68, 200), (69, 201), (111, 211), (96, 212), (97, 213), (98, 214), (99, 215), (100, 216), (101, 217), (102, 218), (299, 219), (80, 221), (81, 222), (84, 223), (86, 224), (103, 230), (104, 231), (105, 232), (106, 233), (107, 234), (108, 235), (109, 236), (110, 237), (93, 239), (112, 241), (113, 242)]
def TryzTys : List (Nat × Nat) := [(0, 9), (1, 4)]
set_option maxRecDepth 100000 in
theorem Tryz_all : Dg Tryz.prog ⟨Tryz.prog, fun g => TryzTbl.lookup g, fun t => (TryzTys.lookup t).getD 0⟩ prog TryzTbl = true := by kernel_rfl
end Go.Gv

namespace Go.Proofs
open Go.Shelf
def Tryz.lays189_ren : Go.Shelf.Ren := ⟨fun | 189 => 168 | 125 => 189 | 257 => 188 | 128 => 210 | 129 => 211 | 294 => 202 | 295 => 203 | 296 => 204 | 297 => 205 | 298 => 206 | 299 => 207 | 216 => 192 | 300 => 208 | 301 => 209 | 328 => 225 | 329 => 226 | 330 => 227 | 331 => 228 | 332 => 229 | 215 => 219 | 343 => 240 | n => n, fun | 28 => 76 | 3 => 3 | 46 => 135 | 0 => 0 | 51 => 63 | 53 => 130 | 4 => 4 | 183 => 218 | 182 => 217 | 131 => 192 | 5 => 5 | 9 => 9 | 218 => 239 | 222 => 116 | 228 => 255 | 229 => 60 | n => n, fun | n => n⟩
theorem Tryz.lays189 : Go.Proofs.Lays.n189 Tryz.prog Tryz.lays189_ren := {
 mixed := by kernel_rfl
 f125 := Tryz.func189.trans (congrArg some (by kernel_rfl))
 f128 := Tryz.func210.trans (congrArg some (by kernel_rfl))
 f129 := Tryz.func211.trans (congrArg some (by kernel_rfl))
 f189 := Tryz.func168.trans (congrArg some (by kernel_rfl))
 f215 := Tryz.func219.trans (congrArg some (by kernel_rfl))
 f216 := Tryz.func192.trans (congrArg some (by kernel_rfl))
 f257 := Tryz.func188.trans (congrArg some (by kernel_rfl))
 f294 := Tryz.func202.trans (congrArg some (by kernel_rfl))
 f295 := Tryz.func203.trans (congrArg some (by kernel_rfl))
 f296 := Tryz.func204.trans (congrArg some (by kernel_rfl))
 f297 := Tryz.func205.trans (congrArg some (by kernel_rfl))
 f298 := Tryz.func206.trans (congrArg some (by kernel_rfl))
 f299 := Tryz.func207.trans (congrArg some (by kernel_rfl))
 f300 := Tryz.func208.trans (congrArg some (by kernel_rfl))
 f301 := Tryz.func209.trans (congrArg some (by kernel_rfl))
 f328 := Tryz.func225.trans (congrArg some (by kernel_rfl))
 f329 := Tryz.func226.trans (congrArg some (by kernel_rfl))
 f330 := Tryz.func227.trans (congrArg some (by kernel_rfl))
 f331 := Tryz.func228.trans (congrArg some (by kernel_rfl))
 f332 := Tryz.func229.trans (congrArg some (by kernel_rfl))
 f343 := Tryz.func240.trans (congrArg some (by kernel_rfl))
 t0 := Tryz.underlying0
 a0 := Tryz.isAgg0
 z0 := Tryz.sizeOf0
 v0 := Tryz.zeroValue0
 t3 := Tryz.underlying3
 a3 := Tryz.isAgg3
 z3 := Tryz.sizeOf3
 v3 := Tryz.zeroValue3
 t4 := Tryz.underlying4
 a4 := Tryz.isAgg4
 z4 := Tryz.sizeOf4
 v4 := Tryz.zeroValue4
 t5 := Tryz.underlying5
 a5 := Tryz.isAgg5
 z5 := Tryz.sizeOf5
 v5 := Tryz.zeroValue5
 t9 := Tryz.underlying9
 a9 := Tryz.isAgg9
 z9 := Tryz.sizeOf9
 v9 := Tryz.zeroValue9
 t28 := Tryz.underlying76
 a28 := Tryz.isAgg76
 z28 := Tryz.sizeOf76
 v28 := Tryz.zeroValue76
 t46 := Tryz.underlying135
 a46 := Tryz.isAgg135
 z46 := Tryz.sizeOf135
 v46 := Tryz.zeroValue135
 t51 := Tryz.underlying63
 a51 := Tryz.isAgg63
 z51 := Tryz.sizeOf63
 v51 := Tryz.zeroValue63
 t53 := Tryz.underlying130
 a53 := Tryz.isAgg130
 z53 := Tryz.sizeOf130
 v53 := Tryz.zeroValue130
 t131 := Tryz.underlying192
 a131 := Tryz.isAgg192
 z131 := Tryz.sizeOf192
 v131 := Tryz.zeroValue192
 t182 := Tryz.underlying217
 a182 := Tryz.isAgg217
 z182 := Tryz.sizeOf217
 v182 := Tryz.zeroValue217
 t183 := Tryz.underlying218
 a183 := Tryz.isAgg218
 z183 := Tryz.sizeOf218
 v183 := Tryz.zeroValue218
 t218 := Tryz.underlying239
 a218 := Tryz.isAgg239
 z218 := Tryz.sizeOf239
 v218 := Tryz.zeroValue239
 t222 := Tryz.underlying116
 a222 := Tryz.isAgg116
 z222 := Tryz.sizeOf116
 v222 := Tryz.zeroValue116
 t228 := Tryz.underlying255
 a228 := Tryz.isAgg255
 z228 := Tryz.sizeOf255
 v228 := Tryz.zeroValue255
 t229 := Tryz.underlying60
 a229 := Tryz.isAgg60
 z229 := Tryz.sizeOf60
 v229 := Tryz.zeroValue60 }
def Tryz.laysNm220_ren : Go.Shelf.Ren := ⟨fun | 20 => 169 | n => n, fun | 22 => 76 | 3 => 3 | 4 => 4 | 0 => 0 | n => n, fun | n => n⟩
theorem Tryz.laysNm220 : Go.Proofs.Lays2.n20 Tryz.prog Tryz.laysNm220_ren := {
 mixed := by kernel_rfl
 f20 := Tryz.func169.trans (congrArg some (by kernel_rfl))
 t0 := Tryz.underlying0
 a0 := Tryz.isAgg0
 z0 := Tryz.sizeOf0
 v0 := Tryz.zeroValue0
 t3 := Tryz.underlying3
 a3 := Tryz.isAgg3
 z3 := Tryz.sizeOf3
 v3 := Tryz.zeroValue3
 t4 := Tryz.underlying4
 a4 := Tryz.isAgg4
 z4 := Tryz.sizeOf4
 v4 := Tryz.zeroValue4
 t22 := Tryz.underlying76
 a22 := Tryz.isAgg76
 z22 := Tryz.sizeOf76
 v22 := Tryz.zeroValue76
 i3 := by kernel_rfl }
def Tryz.laysNm221_ren : Go.Shelf.Ren := ⟨fun | 21 => 176 | 27 => 194 | 28 => 195 | 35 => 220 | 39 => 238 | n => n, fun | 22 => 76 | 3 => 3 | 4 => 4 | 0 => 0 | n => n, fun | n => n⟩
theorem Tryz.laysNm221 : Go.Proofs.Lays2.n21 Tryz.prog Tryz.laysNm221_ren := {
 mixed := by kernel_rfl
 f21 := Tryz.func176.trans (congrArg some (by kernel_rfl))
 f27 := Tryz.func194.trans (congrArg some (by kernel_rfl))
 f28 := Tryz.func195.trans (congrArg some (by kernel_rfl))
 f35 := Tryz.func220.trans (congrArg some (by kernel_rfl))
 f39 := Tryz.func238.trans (congrArg some (by kernel_rfl))
 t0 := Tryz.underlying0
 a0 := Tryz.isAgg0
 z0 := Tryz.sizeOf0
 v0 := Tryz.zeroValue0
 t3 := Tryz.underlying3
 a3 := Tryz.isAgg3
 z3 := Tryz.sizeOf3
 v3 := Tryz.zeroValue3
 t4 := Tryz.underlying4
 a4 := Tryz.isAgg4
 z4 := Tryz.sizeOf4
 v4 := Tryz.zeroValue4
 t22 := Tryz.underlying76
 a22 := Tryz.isAgg76
 z22 := Tryz.sizeOf76
 v22 := Tryz.zeroValue76
 i3 := by kernel_rfl }
end Go.Proofs

namespace Go.Gv
open Go.Sort
section
variable {P : Program} {F : Fid} {α : Type} [Inhabited α]
def kp (encD : α -> D) (d : Array α) : List (List D):=d.toList.map fun x=>[encD x]
theorem oI {f : FuncId} (enc : α -> Value) (encD : α -> D) (hflat : ∀ M x u,af F M (encD x) u -> u=enc x) (hrep : ∀ M x,af F M (encD x) (enc x)) (d d' : Array α) (hsz : d'.size=d.size) (ds : List D)
  (hnone : d.size=0 -> ∀ (M : Mem) (w : World) (vs : List Value) (A : Option Addr),(∀ p v,M p=some v -> w.cell? p=some v) -> aB F M ds vs -> Calls P f (.slice A 0 0::vs).toArray w fun e w'=>e=.returned (.tuple #[]) /\ ∃ n os,w'=grow (Sort.ahead w n) os)
  (hrun : ∀ (M : Mem) (w : World) (vs : List Value) (blk off cap : Nat),(∀ p v,M p=some v -> w.cell? p=some v) -> (∀ p : Addr,p.block=blk -> M p=none) -> aB F M ds vs -> Holds enc w blk off d -> blk < w.heap.size ->
   Calls P f (.slice (some ⟨blk,off,none⟩) d.size cap::vs).toArray w fun e w'=>e=.returned (.tuple #[]) /\ ∃ n os,w'=grow (putRow enc (Sort.ahead w n) blk off d') os) : wI P F f 1 (kp encD d) ds (kp encD d'):=by
 intro M w vs hh r
 have hl : (kp encD d).length=d.size:=by simp [kp]
 refine ⟨fun e A=>?_,fun b o T us cap hM hb hcell hcap hle hu hc=>?_⟩
 ·have h0 : d.size=0:=by rw [<- hl,e];rfl
  refine (hnone h0 M w vs A hh r).mono ?_
  rintro e0 w' ⟨rfl,n,os,rfl⟩
  exact ⟨rfl,rfl,rfl,rfl,by simp [grow,Sort.ahead],fun k hk=>by simp only [grow,Sort.ahead];rw [Array.getElem?_append_left hk],Nat.le_add_right _ _⟩
 ·rw [hl] at hcap ⊢
  have hH : Holds enc w b o d:=fun j hj=>by
   obtain ⟨u,k1,k2⟩:=hc j [encD d[j]] 0 (encD d[j]) (by simp [kp,hj]) rfl
   have:=hflat _ _ _ k2
   subst this
   have e1 : d[j]! = d[j]:=x0f d j hj
   rw [e1]
   have k3 : us[o + j]? = some (enc d[j]):=by simpa using k1
   constructor
   ·simp [World.cell?,hcell,k3]
   ·simp [World.frozen?,hcell]
  refine (hrun M w vs b o cap hh hM r hH hb).mono ?_
  rintro e0 w' ⟨rfl,n,os,rfl⟩
  have hput : (grow (putRow enc (Sort.ahead w n) b o d') os).heap[b]? = some (.cells (putCells enc o d' us.toArray) T (0,0)):=by
   simp only [grow,putRow,mapBlock,Sort.ahead]
   rw [Array.getElem?_append_left (by simpa using hb),x1O,if_pos rfl,hcell]
   rfl
  refine ⟨rfl,(putCells enc o d' us.toArray).toList,by rw [x0Q];exact hput,by simp [putCells],fun i r off x hi hr=>?_,⟨rfl,rfl,rfl,by simp [grow,putRow,mapBlock,Sort.ahead],fun k hk hne=>?_,Nat.le_add_right _ _⟩⟩
  ·simp only [kp,x0B,x0m] at hi
   obtain ⟨y,h1,rfl⟩:=hi
   have ho : off=0:=by
    have:=(x0c.1 hr).1
    simpa using this
   subst ho
   simp only [x09,x0r] at hr
   subst hr
   have hi2 : i < d'.size:=by have:=(x0c.1 h1).1;simpa using this
   have hy : d'[i]! = y:=by
    rw [x0f d' i hi2]
    have:=(x0c.1 h1).2
    simpa using this
   refine ⟨enc y,?_,hrep _ _⟩
   have hlt : o + i < us.length:=by
    have : o + cap * 1 <= us.length:=hle
    omega
   rw [Nat.mul_one,x0W,Array.getElem?_toList]
   simp only [putCells,Array.getElem?_mapIdx,x1l]
   rw [x0e hlt]
   simp only [x1m]
   rw [if_pos ⟨by omega,by omega⟩,show o + i - o=i by omega,hy]
  ·simp only [grow,putRow,mapBlock,Sort.ahead]
   rw [Array.getElem?_append_left (by simpa using hk),x1O,if_neg (Ne.symm hne)]
end
end Go.Gv

namespace Go.Gv
open Go.Sort Go.Proofs Go.Shelf
section
variable {P : Program} {F : Fid} {ρ : Ren}
def AY (zs : List Int) : List (List D):=zs.map fun n=>[.int .i64 n]
theorem ja {zs : List Int} {i : Nat} {r : List D} {off : Nat} {d : D} (h1 : (AY zs)[i]? = some r) (h2 : r[off]? = some d) : ∃ x,zs[i]? = some x /\ off=0 /\ d=.int .i64 x:=by
 simp only [AY,x0B,x0m] at h1
 obtain ⟨x,h1,rfl⟩:=h1
 have ho : off=0:=by have:=(x0c.1 h2).1;simpa using this
 subst ho
 simp only [x09,x0r] at h2
 exact ⟨x,h1,rfl,h2.symm⟩
theorem nB {M : Mem} {zs : List Int} {us : List Value} {o : Nat} (hc : ∀ i r off d,(AY zs)[i]? = some r -> r[off]? = some d -> ∃ u,us[o + i * 1 + off]? = some u /\ af F M d u) : ∀ j x,zs[j]? = some x -> us[o + j]? = some (.int .i64 x):=by
 intro j x hj
 obtain ⟨u,k1,k2⟩:=hc j [.int .i64 x] 0 (.int .i64 x) (by simp [AY,hj]) rfl
 simp only [af] at k2
 subst k2
 simpa using k1
theorem og (Ly : Lays.n189 P ρ) {g : Nat} (hg : ∀ f,F g=some f -> f=ρ.f 189) (zs : List Int) (hz : zs.length < 2 ^ 40) :
  jp P F g [.own 1 (zs.map fun n=>[.int .i64 n])] .any [.own 1 ((zs.mergeSort fun x y=>decide (x <= y)).map fun n=>[.int .i64 n]),.nilp]:=by
 refine ⟨trivial,fun f hf=>⟨rfl,?_⟩⟩
 obtain rfl:=hg f hf
 have k:=oI (P:=P) (F:=F) (f:=ρ.f 189) (Value.int .i64) (D.int .i64) (fun M x u h=>by simpa only [af] using h) (fun M x=>by simp only [af]) zs.toArray (zs.mergeSort fun x y=>decide (x <= y)).toArray (by simp [List.length_mergeSort]) []
  (fun h M w vs A hh r=>by
   simp only [aB] at r
   subst r
   refine (Any.slices_Sort_int_none Ly A 0 w).mono ?_
   rintro e w' ⟨rfl,rfl⟩
   exact ⟨rfl,0,#[],by simp [grow,Sort.ahead]⟩)
  (fun M w vs blk off cap hh hM r hH hb=>by
   simp only [aB] at r
   subst r
   have:=Any.slices_Sort_int Ly blk off cap zs w hH hb (by omega)
   simpa using this)
 simpa [kp] using k
theorem oH (L : Lays2.n20 P ρ) {g : Nat} (hg : ∀ f,F g=some f -> f=ρ.f 20) (zs : List Int) (hz : zs.length < 2 ^ 40) :
  jp P F g [.own 1 (zs.map fun n=>[.int .i64 n])] .any [.own 1 ((Lib.compact zs).map fun n=>[.int .i64 n]),.nils,.nils]:=by
 refine ⟨trivial,fun f hf=>⟨rfl,?_⟩⟩
 obtain rfl:=hg f hf
 refine pD.to ?_
 intro M w vs hh
 have nil : ∀ {b : Option Nat},mc F M w b [] vs -> vs=[]:=fun h=>x0M h.1.symm
 refine ⟨fun e A r=>?_,fun b o T us cap r hM hb hcell hcap hmc hle hu hc=>?_⟩
 ·rw [nil r]
  have h0 : zs=[]:=by simpa using e
  subst h0
  refine (Any.slices_Compact_int_empty L A 0 w).mono ?_
  rintro e w' ⟨rfl,rfl⟩
  exact ⟨_,rfl,Bel.refl _,.inl ⟨rfl,A,rfl⟩⟩
 ·rw [nil r]
  have hget:=nB hc
  have hl : (zs.map fun n=>[D.int .i64 n]).length=zs.length:=by simp
  rw [hl] at hcap ⊢
  have hH : Holds (Value.int .i64) w b o zs.toArray:=fun j hj=>by
   have hj2 : j < zs.length:=by simpa using hj
   have e1 : zs.toArray[j]! = zs[j]:=by rw [x0f zs.toArray j hj];simp
   have k3:=hget j zs[j] (x0e hj2)
   rw [e1]
   exact ⟨by simp [World.cell?,hcell,k3],by simp [World.frozen?,hcell]⟩
  obtain ⟨d',hd'⟩ : ∃ d',d'=(Lib.compact zs++List.replicate (zs.length - (Lib.compact zs).length) 0).toArray:=⟨_,rfl⟩
  have hcl : (Lib.compact zs).length <= zs.length:=by
   unfold Lib.compact Lib.compactUpTo
   rw [x1n]
   have:=x03 (Lib.keeps zs.toArray) (List.range zs.length)
   simpa using this
  have hsz : d'.size=zs.length:=by rw [hd'];simp;omega
  refine (Any.slices_Compact_int L b o cap zs w hH (by omega) hcap).mono ?_
  rintro e w' ⟨rfl,q,rfl⟩
  rw [<- hd']
  have hput : (putRow (Value.int .i64) (Sort.ahead w q) b o d').heap[b]? = some (.cells (putCells (Value.int .i64) o d' us.toArray) T (0,0)):=by
   simp only [putRow,mapBlock,Sort.ahead]
   rw [x1O,if_pos rfl,hcell]
   rfl
  refine ⟨_,rfl,(putCells (Value.int .i64) o d' us.toArray).toList,by rw [x0Q];exact hput,by simp [putCells],⟨rfl,rfl,rfl,by simp [putRow,mapBlock,Sort.ahead],fun k hk hne=>?_,Nat.le_add_right _ _⟩,.inl ⟨by simp,by simp;omega,fun i r off d h1 h2=>?_⟩⟩
  ·simp only [putRow,mapBlock,Sort.ahead]
   rw [x1O,if_neg (Ne.symm hne)]
  ·obtain ⟨x,h3,rfl,rfl⟩:=ja h1 h2
   have hi : i < (Lib.compact zs).length:=(x0c.1 h3).1
   refine ⟨.int .i64 x,?_,by simp only [af]⟩
   have hlt : o + i < us.length:=by omega
   have hy : d'[i]! = x:=by
    rw [x0f d' i (by omega)]
    have : d'[i]? = some x:=by rw [hd'];simp [x0y hi,h3]
    exact (Array.getElem?_eq_some_iff.1 this).2
   rw [Nat.mul_one,x0W,Array.getElem?_toList]
   simp only [putCells,Array.getElem?_mapIdx,x1l]
   rw [x0e hlt]
   simp only [x1m]
   rw [if_pos ⟨by omega,by omega⟩,show o + i - o=i by omega,hy]
theorem mR {zs : List Int} {i : Nat} (hi : i <= zs.length) (x : Int) (j : Nat) : (zs.take i++x::zs.drop i)[j]? = if j < i then zs[j]? else if j=i then some x else zs[j - 1]?:=by
 have hl : (zs.take i).length=i:=by simp;omega
 by_cases h1 : j < i
 ·rw [if_pos h1,x0y (by omega),x0D h1]
 ·rw [if_neg h1,x0z (by omega),hl]
  by_cases h2 : j=i
  ·subst h2;simp
  ·rw [if_neg h2,show j - i=(j - i - 1) + 1 by omega,List.getElem?_cons_succ,x0w]
   congr 1
   omega
theorem qo (L : Lays2.n21 P ρ) {g : Nat} (hg : ∀ f,F g=some f -> f=ρ.f 21) (zs : List Int) (i : Nat) (x : Int) (hi : i <= zs.length) (hz : zs.length < 2 ^ 40) :
  jp P F g [.own 1 (zs.map fun n=>[.int .i64 n]),.int .i64 i,.own 1 [[.int .i64 x]]] .any [.own 1 ((zs.take i++x::zs.drop i).map fun n=>[.int .i64 n]),.nils,.nils]:=by
 refine ⟨trivial,fun f hf=>⟨rfl,?_⟩⟩
 obtain rfl:=hg f hf
 refine pD.to ?_
 intro M w vs hh
 have args : ∀ {b : Option Nat},mc F M w b [.int .i64 i,.own 1 [[.int .i64 x]]] vs -> ∃ (B o : Nat) (T : TypeId) (us : List Value) (cap : Nat),vs=[.int .i64 i,.slice (some ⟨B,o,none⟩) 1 cap] /\ b ≠ some B /\ w.heap[B]? = some (.cells us.toArray T (0,0)) /\ us[o]? = some (.int .i64 x):=by
  rintro b ⟨h1,h2⟩
  match vs,h1 with
  | [v0,v1],_ =>
   have a:=h2 0 _ _ rfl rfl
   have c:=h2 1 _ _ rfl rfl
   simp only [Dm,af] at a
   subst a
   rcases c with ⟨e,_⟩ | ⟨B,o,T,us,cap,rfl,h3,h4,h5,h6,h7⟩
   ·cases e
   ·obtain ⟨u,k1,k2⟩:=h7 0 [.int .i64 x] 0 (.int .i64 x) rfl rfl
    simp only [af] at k2
    subst k2
    exact ⟨B,o,T,us,cap,rfl,h3,h4,by simpa using k1⟩
 have cellOf : ∀ {w : World} {b : Nat} {us : List Value} {T : TypeId} {k : Nat} {v : Value},w.heap[b]? = some (.cells us.toArray T (0,0)) -> us[k]? = some v -> w.cell? ⟨b,k,none⟩=some v:=fun h1 h2=>by simp [World.cell?,h1,h2]
 have frz : ∀ {w : World} {b : Nat} {us : List Value} {T : TypeId} {k : Nat},w.heap[b]? = some (.cells us.toArray T (0,0)) -> w.frozen? ⟨b,k,none⟩=false:=fun h1=>by simp [World.frozen?,h1]
 have one : ∀ v ∈ [Value.int .i64 x],v.oneCell'=true:=by intro v hv;simp at hv;subst hv;rfl
 have hzc : (Value.int .i64 0).cells.size=1:=rfl
 refine ⟨fun e A r=>?_,fun b o T us cap r hM hb hcell hcap hmc hle hu hc=>?_⟩
 ·obtain ⟨B,o,T,us,cap,rfl,_,h4,h5⟩:=args r
  have h0 : zs=[]:=by simpa using e
  subst h0
  have hi0 : i=0:=by simpa using hi
  subst hi0
  refine (Any2.slices_Insert_int_end_grow L A 0 0 B o 1 cap [] [.int .i64 x] w (by omega) (by omega) (by omega) (by omega) rfl rfl (fun _=>rfl) (fun a _ j v hj=>by simp at hj) (fun j v hj=>by
   cases j with
   | zero=>simp at hj;subst hj;exact cellOf h4 (by simpa using h5)
   | succ j=>simp at hj) one).mono ?_
  rintro e w' ⟨rfl,rfl⟩
  obtain ⟨G,hG⟩ : ∃ G,G=grownCap w (0 + 1) 0 (ρ.t 3):=⟨_,rfl⟩
  have g1:=grownCap_ge w (0 + 1) 0 (ρ.t 3)
  have g2:=grownCap_le_maxLen w (0 + 1) 0 (ρ.t 3) (by decide)
  rw [<- hG] at g1 g2 ⊢
  refine ⟨_,rfl,Bel.drewAlloc _ _,.inr ⟨w.heap.size,0,ρ.t 3,(([]++[Value.int .i64 x]).toArray++Builtin.zeroCells (Value.int .i64 0).cells (G - (0 + 1))).toList,G,by simp,x0p _,?_,by simpa using g1,⟨?_,g2⟩,fun j r' off d h1 h2=>?_⟩⟩
  ·rw [x0Q];exact heap_alloc_new w.drew _
  ·simp [size_zeroCells,hzc];omega
  ·obtain ⟨y,h3,rfl,rfl⟩:=ja h1 h2
   cases j with
   | zero=>simp at h3;subst h3;exact ⟨.int .i64 x,by simp,by simp only [af]⟩
   | succ j=>simp at h3
 ·obtain ⟨B,o',T',us',cap',rfl,hne,h4,h5⟩:=args r
  have hBb : B ≠ b:=fun e=>hne (by rw [e])
  have hget:=nB hc
  have hl : (zs.map fun n=>[D.int .i64 n]).length=zs.length:=by simp
  have hlr : ((zs.take i++x::zs.drop i).map fun n=>[D.int .i64 n]).length=zs.length + 1:=by simp;omega
  rw [hl] at hcap ⊢
  rw [hlr]
  have hcs : ∀ j v,(zs.map (Value.int .i64))[j]? = some v -> w.cell? ⟨b,o + j,none⟩=some v:=fun j v hj=>by
   rw [x0B,x0m] at hj
   obtain ⟨y,hj,rfl⟩:=hj
   exact cellOf hcell (hget j y hj)
  have hvs : ∀ j v,[Value.int .i64 x][j]? = some v -> w.cell? ⟨B,o' + j,none⟩=some v:=fun j v hj=>by
   cases j with
   | zero=>simp at hj;subst hj;exact cellOf h4 (by simpa using h5)
   | succ j=>simp at hj
  have h1c : ∀ v ∈ zs.map (Value.int .i64),v.oneCell'=true:=by
   intro v hv
   obtain ⟨y,_,rfl⟩:=x0u.1 hv
   rfl
  have hus : o + cap <= us.length:=by simpa using hle
  have here : ∀ j,j < zs.length + 1 -> zs.length + 1 <= cap -> (w.cell? ⟨b,o + j,none⟩).isSome=true:=fun j hj hr=>by
   have hlt : o + j < us.length:=by omega
   rw [cellOf hcell (x0e hlt)];rfl
  by_cases hroom : zs.length + 1 <= cap
  ·-- in place
   have fin : ∀ (w' : World) (us2 : List Value) (n : Nat),us2.length=us.length -> w'.heap[b]? = some (.cells us2.toArray T (0,0)) -> (∀ k,k ≠ b -> w'.heap[k]? = w.heap[k]?) -> w'.heap.size=w.heap.size -> w'.os=w.os -> w'.tape=w.tape -> w'.output=w.output -> w'.drawn=w.drawn + n ->
     (∀ j y,(zs.take i++x::zs.drop i)[j]? = some y -> us2[o + j]? = some (.int .i64 y)) ->
     ∃ v,Ending.returned (Value.slice (some ⟨b,o,none⟩) (zs.length + 1) cap)=.returned v /\ ∃ us2 : List Value,w'.heap[b]? = some (.cells us2.toArray T (0,0)) /\ us2.length=us.length /\ Ch (fun k=>k=b) w w' /\
      ((v=.slice (some ⟨b,o,none⟩) (zs.length + 1) cap /\ zs.length + 1 <= cap /\ ∀ i' r off d,((zs.take i++x::zs.drop i).map fun n=>[D.int .i64 n])[i']? = some r -> r[off]? = some d -> ∃ u,us2[o + i' * 1 + off]? = some u /\ af F M d u) \/ gz F M w w' 1 ((zs.take i++x::zs.drop i).map fun n=>[D.int .i64 n]) v):=by
    intro w' us2 n e1 e2 e3 e4 e5 e6 e7 e8 e9
    refine ⟨_,rfl,us2,e2,e1,⟨e5,e6,e7,Nat.le_of_eq e4.symm,fun k _ hk=>e3 k hk,by omega⟩,.inl ⟨rfl,hroom,fun j r' off d h1 h2=>?_⟩⟩
    obtain ⟨y,h3,rfl,rfl⟩:=ja h1 h2
    exact ⟨.int .i64 y,by simpa using e9 j y h3,by simp only [af]⟩
   rcases Nat.lt_or_eq_of_le hi with hlt | heq
   ·refine (Any2.slices_Insert_int_shift L b o zs.length cap i B o' 1 cap' (zs.map (Value.int .i64)) [.int .i64 x] w hlt (by omega) hroom hmc hBb (by simp) rfl hcs (fun j hj=>here j hj hroom) (fun j _=>frz hcell) hvs h1c one T' T us'.length us.length
     (by simp [World.shape?,h4]) (by simp [World.shape?,hcell]) (by omega) (frz h4) (frz h4)).mono ?_
    rintro e w' ⟨rfl,rfl⟩
    have hdl : ((zs.map (Value.int .i64)).drop i).length=zs.length - i:=by simp
    obtain ⟨s1,s2,s3,s4,s5,s6,s7⟩:=b6 b T ((zs.map (Value.int .i64)).drop i) (o + (i + 1)) us w.drew (by exact hcell) (by rw [hdl];omega)
    obtain ⟨us1,hu1⟩ : ∃ us1,us1=us.take (o + (i + 1))++(zs.map (Value.int .i64)).drop i++us.drop (o + (i + 1) + ((zs.map (Value.int .i64)).drop i).length):=⟨_,rfl⟩
    rw [<- hu1] at s1
    have hl1 : us1.length=us.length:=by rw [hu1];simp;omega
    obtain ⟨t1,t2,t3,t4,t5,t6,t7⟩:=b6 b T [Value.int .i64 x] (o + i) us1 _ s1 (by simp;omega)
    have g1:=fun y=>cP (vs:=us) (us:=(zs.map (Value.int .i64)).drop i) (q:=o + (i + 1)) (n:=zs.length - i) (x:=y) hdl (by omega)
    have g2:=fun y=>cP (vs:=us1) (us:=[Value.int .i64 x]) (q:=o + i) (n:=1) (x:=y) rfl (by omega)
    rw [hdl] at hu1
    rw [<- hu1] at g1
    refine fin _ _ 1 (by simp;omega) t1 (fun k hk=>(t2 k hk).trans (s2 k hk)) (t3.trans s3) (t4.trans s4) (t5.trans s5) (t6.trans s6) (t7.trans s7) (fun j y hj=>?_)
    have hjl : j < zs.length + 1:=by have:=(x0c.1 hj).1;simp at this;omega
    rw [mR hi] at hj
    show (us1.take (o + i)++[Value.int .i64 x]++us1.drop (o + i + 1))[o + j]? = _
    rw [g2]
    by_cases c1 : j < i
    ·rw [if_pos c1] at hj
     rw [if_neg (by omega),g1,if_neg (by omega)]
     exact hget j y hj
    ·rw [if_neg c1] at hj
     by_cases c2 : j=i
     ·subst c2
      rw [if_pos rfl] at hj
      rw [if_pos (by omega)]
      cases hj
      simp
     ·rw [if_neg c2] at hj
      rw [if_neg (by omega),g1,if_pos (by omega),x0w,show i + (o + j - (o + (i + 1)))=j - 1 by omega,x0B,hj]
      rfl
   ·subst heq
    refine (Any2.slices_Insert_int_end_room L b o zs.length cap B o' 1 cap' [.int .i64 x] w (by omega) hroom hmc rfl (fun j hj=>by
     have:=here (zs.length + j) (by omega) hroom
     rwa [<- x0L] at this) (fun j _=>frz hcell) hvs one).mono ?_
    rintro e w' ⟨rfl,rfl⟩
    obtain ⟨t1,t2,t3,t4,t5,t6,t7⟩:=b6 b T [Value.int .i64 x] (o + zs.length) us w hcell (by simp;omega)
    have g2:=fun y=>cP (vs:=us) (us:=[Value.int .i64 x]) (q:=o + zs.length) (n:=1) (x:=y) rfl (by omega)
    refine fin _ _ 0 (by simp;omega) t1 t2 t3 t4 t5 t6 t7 (fun j y hj=>?_)
    have hjl : j < zs.length + 1:=by have:=(x0c.1 hj).1;simp at this;omega
    rw [mR (x0p _)] at hj
    show (us.take (o + zs.length)++[Value.int .i64 x]++us.drop (o + zs.length + 1))[o + j]? = _
    rw [g2]
    by_cases c1 : j < zs.length
    ·rw [if_pos c1] at hj
     rw [if_neg (by omega)]
     exact hget j y hj
    ·have c2 : j=zs.length:=by omega
     rw [if_neg c1,if_pos c2] at hj
     rw [if_pos (by omega)]
     cases hj
     rw [c2]
     simp
  ·-- a new row
   have hroom' : cap < zs.length + 1:=by omega
   obtain ⟨G,hG⟩ : ∃ G,G=grownCap w (zs.length + 1) cap (ρ.t 3):=⟨_,rfl⟩
   have g1:=grownCap_ge w (zs.length + 1) cap (ρ.t 3)
   have g2:=grownCap_le_maxLen w (zs.length + 1) cap (ρ.t 3) (by unfold maxLen;omega)
   rcases Nat.lt_or_eq_of_le hi with hlt | heq
   ·refine (Any2.slices_Insert_int_grow L b o zs.length cap i B o' 1 cap' (zs.map (Value.int .i64)) [.int .i64 x] w hlt (by omega) hcap hroom' (by omega) (by simp) rfl hcs hvs h1c one).mono ?_
    rintro e w' ⟨rfl,rfl⟩
    rw [<- hG] at g1 g2 ⊢
    have hdl : ((zs.map (Value.int .i64)).drop i).length=zs.length - i:=by simp
    obtain ⟨row,hrow⟩ : ∃ row : Array Value,row=((zs.map (Value.int .i64)).take i).toArray++Builtin.zeroCells (Value.int .i64 0).cells (zs.length + 1 - i)++Builtin.zeroCells (Value.int .i64 0).cells (G - (zs.length + 1)):=⟨_,rfl⟩
    rw [<- hrow]
    have hrl : row.toList.length=G:=by rw [hrow];simp [size_zeroCells,hzc];omega
    have hnew : ((w.alloc (.cells row (ρ.t 3))).drew).heap[w.heap.size]? = some (.cells row.toList.toArray (ρ.t 3) (0,0)):=by
     rw [x0Q];exact heap_alloc_new w _
    obtain ⟨s1,s2,s3,s4,s5,s6,s7⟩:=b6 w.heap.size (ρ.t 3) [Value.int .i64 x] i row.toList ((w.alloc (.cells row (ρ.t 3))).drew) hnew (by simp only [List.length_singleton];omega)
    obtain ⟨us1,hu1⟩ : ∃ us1,us1=row.toList.take i++[Value.int .i64 x]++row.toList.drop (i + [Value.int .i64 x].length):=⟨_,rfl⟩
    rw [<- hu1] at s1
    have hl1 : us1.length=G:=by rw [hu1];simp only [x0T,x07,x1J,List.length_singleton,hrl];omega
    obtain ⟨t1,t2,t3,t4,t5,t6,t7⟩:=b6 w.heap.size (ρ.t 3) ((zs.map (Value.int .i64)).drop i) (i + 1) us1 ((((w.alloc (.cells row (ρ.t 3))).drew).setCells w.heap.size i [Value.int .i64 x]).drew) s1 (by rw [hdl];omega)
    have gA:=fun y=>cP (vs:=row.toList) (us:=[Value.int .i64 x]) (q:=i) (n:=1) (x:=y) rfl (by omega)
    have gB:=fun y=>cP (vs:=us1) (us:=(zs.map (Value.int .i64)).drop i) (q:=i + 1) (n:=zs.length - i) (x:=y) hdl (by omega)
    have ex : ∀ k,k ≠ w.heap.size -> (w.alloc (.cells row (ρ.t 3))).heap[k]? = w.heap[k]?:=fun k hk=>by
     simp only [World.alloc]
     rw [Array.getElem?_push,if_neg hk]
    have exs : (w.alloc (.cells row (ρ.t 3))).heap.size=w.heap.size + 1:=by simp only [World.alloc,Array.size_push]
    have hall : ∀ k,k ≠ w.heap.size -> (((((w.alloc (.cells row (ρ.t 3))).drew).setCells w.heap.size i [Value.int .i64 x]).drew).setCells w.heap.size (i + 1) ((zs.map (Value.int .i64)).drop i)).heap[k]? = w.heap[k]?:=fun k hk=>(t2 k hk).trans ((s2 k hk).trans (ex k hk))
    refine ⟨_,rfl,us,(hall b (by omega)).trans hcell,rfl,⟨t4.trans s4,t5.trans s5,t6.trans s6,?_,fun k hk _=>hall k (by omega),?_⟩,.inr ⟨w.heap.size,0,ρ.t 3,_,G,by rw [hlr],x0p _,t1,by rw [hlr];exact g1,⟨?_,g2⟩,fun j r' off d h1 h2=>?_⟩⟩
    ·have : ((((w.alloc (.cells row (ρ.t 3))).drew).setCells w.heap.size i [Value.int .i64 x]).drew).heap.size=w.heap.size + 1:=s3.trans exs
     rw [t3,this];omega
    ·rw [t7]
     show w.drawn <= (((w.alloc (.cells row (ρ.t 3))).drew).setCells w.heap.size i [Value.int .i64 x]).drawn + 1
     rw [s7]
     show w.drawn <= w.drawn + 1 + 1
     omega
    ·simp only [x0T,x07,x1J,hl1,x1n];omega
    ·obtain ⟨y,hj,rfl,rfl⟩:=ja h1 h2
     refine ⟨.int .i64 y,?_,by simp only [af]⟩
     have hjl : j < zs.length + 1:=by have:=(x0c.1 hj).1;simp at this;omega
     rw [mR hi] at hj
     rw [x05,Nat.mul_one,x0W,hdl,gB]
     by_cases c1 : j < i
     ·rw [if_pos c1] at hj
      rw [if_neg (by omega),hu1]
      show (row.toList.take i++[Value.int .i64 x]++row.toList.drop (i + 1))[j]? = _
      rw [gA,if_neg (by omega),hrow]
      have hj2 : j < zs.length:=(x0c.1 hj).1
      simp only [Array.toList_append,x1V]
      rw [x0y (by simp;omega)]
      simp only [x0D c1,x0B,hj]
      rfl
     ·rw [if_neg c1] at hj
      by_cases c2 : j=i
      ·subst c2
       rw [if_pos rfl] at hj
       rw [if_neg (by omega),hu1]
       show (row.toList.take j++[Value.int .i64 x]++row.toList.drop (j + 1))[j]? = _
       rw [gA,if_pos (by omega)]
       cases hj
       simp
      ·rw [if_neg c2] at hj
       rw [if_pos (by omega),x0w,show i + (j + 0 - (i + 1))=j - 1 by omega,x0B,hj]
       rfl
   ·subst heq
    refine (Any2.slices_Insert_int_end_grow L (some ⟨b,o,none⟩) zs.length cap B o' 1 cap' (zs.map (Value.int .i64)) [.int .i64 x] w (by omega) hcap hroom' (by omega) (by simp) rfl (fun e=>by cases e) (fun a ha j v hj=>by
     cases ha
     rw [Addr.add_lit]
     exact hcs j v hj) hvs one).mono ?_
    rintro e w' ⟨rfl,rfl⟩
    rw [<- hG] at g1 g2 ⊢
    obtain ⟨row,hrow⟩ : ∃ row : Array Value,row=(zs.map (Value.int .i64)++[Value.int .i64 x]).toArray++Builtin.zeroCells (Value.int .i64 0).cells (G - (zs.length + 1)):=⟨_,rfl⟩
    rw [<- hrow]
    have hrl : row.toList.length=G:=by rw [hrow];simp [size_zeroCells,hzc];omega
    have hbel:=Bel.drewAlloc w (.cells row (ρ.t 3))
    refine ⟨_,rfl,us,(hbel.block b hb).trans hcell,rfl,Ch.of_below hbel _,.inr ⟨w.heap.size,0,ρ.t 3,row.toList,G,by rw [hlr],x0p _,by rw [x0Q];exact heap_alloc_new w.drew _,by rw [hlr];exact g1,⟨by omega,g2⟩,fun j r' off d h1 h2=>?_⟩⟩
    obtain ⟨y,hj,rfl,rfl⟩:=ja h1 h2
    refine ⟨.int .i64 y,?_,by simp only [af]⟩
    have hjl : j < zs.length + 1:=by have:=(x0c.1 hj).1;simp at this;omega
    rw [mR (x0p _)] at hj
    rw [x05,Nat.mul_one,x0W,hrow]
    simp only [Array.toList_append]
    rw [x0y (by simp;omega)]
    by_cases c1 : j < zs.length
    ·rw [if_pos c1] at hj
     rw [x0y (by simpa using c1),x0B,hj]
     rfl
    ·have c2 : j=zs.length:=by omega
     rw [if_neg c1,if_pos c2] at hj
     cases hj
     rw [x0z (by simp;omega)]
     simp [c2]
end
end Go.Gv

namespace Go.Gv
structure Tag {α : Type _} (x : α) : Type where
@[simp] theorem OG : isV (.any)=true:=zR
@[simp] theorem OJ {k n} : isV (.int k n)=true:=zR
@[simp] theorem KD {b} : isV (.bool b)=true:=zR
@[simp] theorem OR {s} : isV (.str s)=true:=zR
@[simp] theorem KE : isV (.nilp)=true:=zR
@[simp] theorem KF : isV (.nils)=true:=zR
@[simp] theorem OE {ds} : isV (.agg ds)=true:=zR
@[simp] theorem OT {ds} : isV (.tup ds)=true:=zR
@[simp] theorem QJ {es} : isV (.sl es)=true:=zR
@[simp] theorem OM {ds} : isV (.ptr ds)=true:=zR
@[simp] theorem QH {g ds} : isV (.fn g ds)=true:=zR
@[simp] theorem OL {sz es} : isV (.own sz es)=false:=zR
@[simp] theorem OH {sz es} : isV (.blk sz es)=false:=zR
@[simp] theorem QI {kt et ks vs} : isV (.mp kt et ks vs)=false:=zR
@[simp] theorem OK {b} : isV (.mrf b)=false:=zR
@[simp] theorem OO {p k n} : isV (.ref p k n)=false:=zR
@[simp] theorem OD {p i off} : isV (.adr p i off)=false:=zR
@[simp] theorem OF {ds} : isV (.agx ds)=false:=zR
@[simp] theorem OS {ds} : isV (.tpx ds)=false:=zR
@[simp] theorem ON {ds} : isV (.ptx ds)=false:=zR
@[simp] theorem OP {n sz ds} : isV (.rfx n sz ds)=false:=zR
@[simp] theorem OI {g ds} : isV (.fnx g ds)=false:=zR
@[simp] theorem Nw : isK (.any)=false:=zR
@[simp] theorem Nz {k n} : isK (.int k n)=true:=zR
@[simp] theorem Kr {b} : isK (.bool b)=true:=zR
@[simp] theorem NH {s} : isK (.str s)=true:=zR
@[simp] theorem Ks : isK (.nilp)=true:=zR
@[simp] theorem Kt : isK (.nils)=true:=zR
@[simp] theorem Nu {ds} : isK (.agg ds)=true:=zR
@[simp] theorem NJ {ds} : isK (.tup ds)=true:=zR
@[simp] theorem Qu {es} : isK (.sl es)=true:=zR
@[simp] theorem NC {ds} : isK (.ptr ds)=true:=zR
@[simp] theorem Qs {g ds} : isK (.fn g ds)=true:=zR
@[simp] theorem NB {sz es} : isK (.own sz es)=false:=zR
@[simp] theorem Nx {sz es} : isK (.blk sz es)=false:=zR
@[simp] theorem Qt {kt et ks vs} : isK (.mp kt et ks vs)=false:=zR
@[simp] theorem NA {b} : isK (.mrf b)=false:=zR
@[simp] theorem NE {p k n} : isK (.ref p k n)=false:=zR
@[simp] theorem Nt {p i off} : isK (.adr p i off)=false:=zR
@[simp] theorem Nv {ds} : isK (.agx ds)=false:=zR
@[simp] theorem NI {ds} : isK (.tpx ds)=false:=zR
@[simp] theorem ND {ds} : isK (.ptx ds)=false:=zR
@[simp] theorem NF {n sz ds} : isK (.rfx n sz ds)=false:=zR
@[simp] theorem Ny {g ds} : isK (.fnx g ds)=false:=zR
@[simp] theorem N4 : isP (.any)=true:=zR
@[simp] theorem N7 {k n} : isP (.int k n)=true:=zR
@[simp] theorem Kx {b} : isP (.bool b)=true:=zR
@[simp] theorem Of {s} : isP (.str s)=true:=zR
@[simp] theorem Ky : isP (.nilp)=true:=zR
@[simp] theorem Kz : isP (.nils)=true:=zR
@[simp] theorem N2 {ds} : isP (.agg ds)=true:=zR
@[simp] theorem Oh {ds} : isP (.tup ds)=true:=zR
@[simp] theorem QB {es} : isP (.sl es)=true:=zR
@[simp] theorem Oa {ds} : isP (.ptr ds)=true:=zR
@[simp] theorem Qz {g ds} : isP (.fn g ds)=true:=zR
@[simp] theorem N9 {sz es} : isP (.own sz es)=false:=zR
@[simp] theorem N5 {sz es} : isP (.blk sz es)=false:=zR
@[simp] theorem QA {kt et ks vs} : isP (.mp kt et ks vs)=false:=zR
@[simp] theorem N8 {b} : isP (.mrf b)=true:=zR
@[simp] theorem Oc {p k n} : isP (.ref p k n)=true:=zR
@[simp] theorem N1 {p i off} : isP (.adr p i off)=true:=zR
@[simp] theorem N3 {ds} : isP (.agx ds)=false:=zR
@[simp] theorem Og {ds} : isP (.tpx ds)=false:=zR
@[simp] theorem Ob {ds} : isP (.ptx ds)=false:=zR
@[simp] theorem Od {n sz ds} : isP (.rfx n sz ds)=false:=zR
@[simp] theorem N6 {g ds} : isP (.fnx g ds)=false:=zR
@[simp] theorem Om : isS (.any)=true:=zR
@[simp] theorem QG : isV (.bb)=true:=zR
@[simp] theorem QC : isS (.bb)=true:=zR
@[simp] theorem Qy : isP (.bb)=true:=zR
@[simp] theorem Ql : isB (.bb)=false:=zR
@[simp] theorem Ju : cM (.bb)=false:=zR
@[simp] theorem Hx : bH (.bb)=[]:=zR
@[simp] theorem Eh : aM (.bb)=[]:=zR
@[simp] theorem Oq {k n} : isS (.int k n)=true:=zR
@[simp] theorem KA {b} : isS (.bool b)=true:=zR
@[simp] theorem OA {s} : isS (.str s)=true:=zR
@[simp] theorem KB : isS (.nilp)=true:=zR
@[simp] theorem KC : isS (.nils)=true:=zR
@[simp] theorem Oj {ds} : isS (.agg ds)=true:=zR
@[simp] theorem OC {ds} : isS (.tup ds)=true:=zR
@[simp] theorem QF {es} : isS (.sl es)=true:=zR
@[simp] theorem Ov {ds} : isS (.ptr ds)=true:=zR
@[simp] theorem QD {g ds} : isS (.fn g ds)=true:=zR
@[simp] theorem Ou {sz es} : isS (.own sz es)=false:=zR
@[simp] theorem On {sz es} : isS (.blk sz es)=false:=zR
@[simp] theorem QE {kt et ks vs} : isS (.mp kt et ks vs)=false:=zR
@[simp] theorem Ot {b} : isS (.mrf b)=true:=zR
@[simp] theorem Ox {p k n} : isS (.ref p k n)=true:=zR
@[simp] theorem Oi {p i off} : isS (.adr p i off)=true:=zR
@[simp] theorem Ol {ds} : isS (.agx ds)=ds.all isP:=zR
@[simp] theorem OB {ds} : isS (.tpx ds)=ds.all isP:=zR
@[simp] theorem Ow {ds} : isS (.ptx ds)=ds.all isP:=zR
@[simp] theorem Oy {n sz ds} : isS (.rfx n sz ds)=ds.all isP:=zR
@[simp] theorem Oo {g ds} : isS (.fnx g ds)=ds.all isP:=zR
@[simp] theorem JE : aK (.any)=false:=zR
@[simp] theorem JH {k n} : aK (.int k n)=true:=zR
@[simp] theorem GV {b} : aK (.bool b)=true:=zR
@[simp] theorem JP {s} : aK (.str s)=true:=zR
@[simp] theorem GW : aK (.nilp)=true:=zR
@[simp] theorem GX : aK (.nils)=true:=zR
@[simp] theorem JC {ds} : aK (.agg ds)=false:=zR
@[simp] theorem JR {ds} : aK (.tup ds)=false:=zR
@[simp] theorem MY {es} : aK (.sl es)=true:=zR
@[simp] theorem JK {ds} : aK (.ptr ds)=true:=zR
@[simp] theorem MW {g ds} : aK (.fn g ds)=true:=zR
@[simp] theorem JJ {sz es} : aK (.own sz es)=false:=zR
@[simp] theorem JF {sz es} : aK (.blk sz es)=false:=zR
@[simp] theorem MX {kt et ks vs} : aK (.mp kt et ks vs)=false:=zR
@[simp] theorem JI {b} : aK (.mrf b)=false:=zR
@[simp] theorem JM {p k n} : aK (.ref p k n)=false:=zR
@[simp] theorem JB {p i off} : aK (.adr p i off)=false:=zR
@[simp] theorem JD {ds} : aK (.agx ds)=false:=zR
@[simp] theorem JQ {ds} : aK (.tpx ds)=false:=zR
@[simp] theorem JL {ds} : aK (.ptx ds)=false:=zR
@[simp] theorem JN {n sz ds} : aK (.rfx n sz ds)=false:=zR
@[simp] theorem JG {g ds} : aK (.fnx g ds)=false:=zR
@[simp] theorem NN : isO (.any)=false:=zR
@[simp] theorem NQ {k n} : isO (.int k n)=false:=zR
@[simp] theorem Ku {b} : isO (.bool b)=false:=zR
@[simp] theorem NY {s} : isO (.str s)=false:=zR
@[simp] theorem Kv : isO (.nilp)=false:=zR
@[simp] theorem Kw : isO (.nils)=false:=zR
@[simp] theorem NL {ds} : isO (.agg ds)=false:=zR
@[simp] theorem N0 {ds} : isO (.tup ds)=false:=zR
@[simp] theorem Qx {es} : isO (.sl es)=false:=zR
@[simp] theorem NT {ds} : isO (.ptr ds)=false:=zR
@[simp] theorem Qv {g ds} : isO (.fn g ds)=false:=zR
@[simp] theorem NS {sz es} : isO (.own sz es)=true:=zR
@[simp] theorem NO {sz es} : isO (.blk sz es)=false:=zR
@[simp] theorem Qw {kt et ks vs} : isO (.mp kt et ks vs)=false:=zR
@[simp] theorem NR {b} : isO (.mrf b)=false:=zR
@[simp] theorem NV {p k n} : isO (.ref p k n)=false:=zR
@[simp] theorem NK {p i off} : isO (.adr p i off)=false:=zR
@[simp] theorem NM {ds} : isO (.agx ds)=false:=zR
@[simp] theorem NZ {ds} : isO (.tpx ds)=false:=zR
@[simp] theorem NU {ds} : isO (.ptx ds)=false:=zR
@[simp] theorem NW {n sz ds} : isO (.rfx n sz ds)=false:=zR
@[simp] theorem NP {g ds} : isO (.fnx g ds)=false:=zR
@[simp] theorem JV : bG (.any)=true:=zR
@[simp] theorem JY {k n} : bG (.int k n)=true:=zR
@[simp] theorem GY {b} : bG (.bool b)=true:=zR
@[simp] theorem J5 {s} : bG (.str s)=true:=zR
@[simp] theorem GZ : bG (.nilp)=true:=zR
@[simp] theorem G0 : bG (.nils)=true:=zR
@[simp] theorem JT {ds} : bG (.agg ds)=false:=zR
@[simp] theorem J7 {ds} : bG (.tup ds)=false:=zR
@[simp] theorem M7 {es} : bG (.sl es)=false:=zR
@[simp] theorem J1 {ds} : bG (.ptr ds)=false:=zR
@[simp] theorem MZ {g ds} : bG (.fn g ds)=false:=zR
@[simp] theorem J0 {sz es} : bG (.own sz es)=false:=zR
@[simp] theorem JW {sz es} : bG (.blk sz es)=false:=zR
@[simp] theorem M6 {kt et ks vs} : bG (.mp kt et ks vs)=false:=zR
@[simp] theorem JZ {b} : bG (.mrf b)=false:=zR
@[simp] theorem J3 {p k n} : bG (.ref p k n)=false:=zR
@[simp] theorem JS {p i off} : bG (.adr p i off)=false:=zR
@[simp] theorem JU {ds} : bG (.agx ds)=false:=zR
@[simp] theorem J6 {ds} : bG (.tpx ds)=false:=zR
@[simp] theorem J2 {ds} : bG (.ptx ds)=false:=zR
@[simp] theorem J4 {n sz ds} : bG (.rfx n sz ds)=false:=zR
@[simp] theorem JX {g ds} : bG (.fnx g ds)=false:=zR
@[simp] theorem Kb : ef (.any)=true:=zR
@[simp] theorem Ke {k n} : ef (.int k n)=true:=zR
@[simp] theorem G1 {b} : ef (.bool b)=true:=zR
@[simp] theorem Kl {s} : ef (.str s)=true:=zR
@[simp] theorem G2 : ef (.nilp)=true:=zR
@[simp] theorem G3 : ef (.nils)=true:=zR
@[simp] theorem J9 {ds} : ef (.agg ds)=ds.all bG:=zR
@[simp] theorem Kn {ds} : ef (.tup ds)=false:=zR
@[simp] theorem Na {es} : ef (.sl es)=false:=zR
@[simp] theorem Kh {ds} : ef (.ptr ds)=false:=zR
@[simp] theorem M8 {g ds} : ef (.fn g ds)=false:=zR
@[simp] theorem Kg {sz es} : ef (.own sz es)=false:=zR
@[simp] theorem Kc {sz es} : ef (.blk sz es)=false:=zR
@[simp] theorem M9 {kt et ks vs} : ef (.mp kt et ks vs)=false:=zR
@[simp] theorem Kf {b} : ef (.mrf b)=false:=zR
@[simp] theorem Kj {p k n} : ef (.ref p k n)=false:=zR
@[simp] theorem J8 {p i off} : ef (.adr p i off)=false:=zR
@[simp] theorem Ka {ds} : ef (.agx ds)=false:=zR
@[simp] theorem Km {ds} : ef (.tpx ds)=false:=zR
@[simp] theorem Ki {ds} : ef (.ptx ds)=false:=zR
@[simp] theorem Kk {n sz ds} : ef (.rfx n sz ds)=false:=zR
@[simp] theorem Kd {g ds} : ef (.fnx g ds)=false:=zR
@[simp] theorem Nf : isF (.any)=true:=zR
@[simp] theorem Ni {k n} : isF (.int k n)=true:=zR
@[simp] theorem Ko {b} : isF (.bool b)=true:=zR
@[simp] theorem Nq {s} : isF (.str s)=true:=zR
@[simp] theorem Kp : isF (.nilp)=true:=zR
@[simp] theorem Kq : isF (.nils)=true:=zR
@[simp] theorem Nc {ds} : isF (.agg ds)=ds.all bG:=zR
@[simp] theorem Ns {ds} : isF (.tup ds)=ds.all ef:=zR
@[simp] theorem Qr {es} : isF (.sl es)=false:=zR
@[simp] theorem Nl {ds} : isF (.ptr ds)=false:=zR
@[simp] theorem Qp {g ds} : isF (.fn g ds)=false:=zR
@[simp] theorem Nk {sz es} : isF (.own sz es)=false:=zR
@[simp] theorem Ng {sz es} : isF (.blk sz es)=false:=zR
@[simp] theorem Qq {kt et ks vs} : isF (.mp kt et ks vs)=false:=zR
@[simp] theorem Nj {b} : isF (.mrf b)=false:=zR
@[simp] theorem Nn {p k n} : isF (.ref p k n)=false:=zR
@[simp] theorem Nb {p i off} : isF (.adr p i off)=false:=zR
@[simp] theorem Nd {ds} : isF (.agx ds)=false:=zR
@[simp] theorem Nr {ds} : isF (.tpx ds)=false:=zR
@[simp] theorem Nm {ds} : isF (.ptx ds)=false:=zR
@[simp] theorem Np {n sz ds} : isF (.rfx n sz ds)=false:=zR
@[simp] theorem Nh {g ds} : isF (.fnx g ds)=false:=zR
@[simp] theorem MI : isB (.any)=false:=zR
@[simp] theorem ML {k n} : isB (.int k n)=false:=zR
@[simp] theorem Jy {b} : isB (.bool b)=false:=zR
@[simp] theorem MT {s} : isB (.str s)=false:=zR
@[simp] theorem Jz : isB (.nilp)=false:=zR
@[simp] theorem JA : isB (.nils)=false:=zR
@[simp] theorem MG {ds} : isB (.agg ds)=false:=zR
@[simp] theorem MV {ds} : isB (.tup ds)=false:=zR
@[simp] theorem Qo {es} : isB (.sl es)=false:=zR
@[simp] theorem MO {ds} : isB (.ptr ds)=false:=zR
@[simp] theorem Qm {g ds} : isB (.fn g ds)=false:=zR
@[simp] theorem MN {sz es} : isB (.own sz es)=false:=zR
@[simp] theorem MJ {sz es} : isB (.blk sz es)=true:=zR
@[simp] theorem Qn {kt et ks vs} : isB (.mp kt et ks vs)=true:=zR
@[simp] theorem MM {b} : isB (.mrf b)=false:=zR
@[simp] theorem MQ {p k n} : isB (.ref p k n)=false:=zR
@[simp] theorem MF {p i off} : isB (.adr p i off)=false:=zR
@[simp] theorem MH {ds} : isB (.agx ds)=false:=zR
@[simp] theorem MU {ds} : isB (.tpx ds)=false:=zR
@[simp] theorem MP {ds} : isB (.ptx ds)=false:=zR
@[simp] theorem MR {n sz ds} : isB (.rfx n sz ds)=false:=zR
@[simp] theorem MK {g ds} : isB (.fnx g ds)=false:=zR
@[simp] theorem GH : cM (.any)=true:=zR
@[simp] theorem GK {k n} : cM (.int k n)=false:=zR
@[simp] theorem DZ {b} : cM (.bool b)=false:=zR
@[simp] theorem GS {s} : cM (.str s)=false:=zR
@[simp] theorem D0 : cM (.nilp)=false:=zR
@[simp] theorem D1 : cM (.nils)=false:=zR
@[simp] theorem GF {ds} : cM (.agg ds)=false:=zR
@[simp] theorem GU {ds} : cM (.tup ds)=false:=zR
@[simp] theorem Jx {es} : cM (.sl es)=false:=zR
@[simp] theorem GN {ds} : cM (.ptr ds)=false:=zR
@[simp] theorem Jv {g ds} : cM (.fn g ds)=false:=zR
@[simp] theorem GM {sz es} : cM (.own sz es)=false:=zR
@[simp] theorem GI {sz es} : cM (.blk sz es)=false:=zR
@[simp] theorem Jw {kt et ks vs} : cM (.mp kt et ks vs)=false:=zR
@[simp] theorem GL {b} : cM (.mrf b)=false:=zR
@[simp] theorem GP {p k n} : cM (.ref p k n)=false:=zR
@[simp] theorem GE {p i off} : cM (.adr p i off)=false:=zR
@[simp] theorem GG {ds} : cM (.agx ds)=false:=zR
@[simp] theorem GT {ds} : cM (.tpx ds)=false:=zR
@[simp] theorem GO {ds} : cM (.ptx ds)=false:=zR
@[simp] theorem GQ {n sz ds} : cM (.rfx n sz ds)=false:=zR
@[simp] theorem GJ {g ds} : cM (.fnx g ds)=false:=zR
@[simp] theorem Cq : cellsOf (.any)=[.any]:=zR
@[simp] theorem Ct {k n} : cellsOf (.int k n)=[.int k n]:=zR
@[simp] theorem As {b} : cellsOf (.bool b)=[.bool b]:=zR
@[simp] theorem CB {s} : cellsOf (.str s)=[.str s]:=zR
@[simp] theorem At : cellsOf (.nilp)=[.nilp]:=zR
@[simp] theorem Au : cellsOf (.nils)=[.nils]:=zR
@[simp] theorem Co {ds} : cellsOf (.agg ds)=ds:=zR
@[simp] theorem CE {ds} : cellsOf (.tup ds)=[.tup ds]:=zR
@[simp] theorem DC {es} : cellsOf (.sl es)=[.sl es]:=zR
@[simp] theorem Cw {ds} : cellsOf (.ptr ds)=[.ptr ds]:=zR
@[simp] theorem DA {g ds} : cellsOf (.fn g ds)=[.fn g ds]:=zR
@[simp] theorem Cv {sz es} : cellsOf (.own sz es)=[.own sz es]:=zR
@[simp] theorem Cr {sz es} : cellsOf (.blk sz es)=[.blk sz es]:=zR
@[simp] theorem DB {kt et ks vs} : cellsOf (.mp kt et ks vs)=[.mp kt et ks vs]:=zR
@[simp] theorem Cu {b} : cellsOf (.mrf b)=[.mrf b]:=zR
@[simp] theorem Cy {p k n} : cellsOf (.ref p k n)=[.ref p k n]:=zR
@[simp] theorem Cn {p i off} : cellsOf (.adr p i off)=[.adr p i off]:=zR
@[simp] theorem Cp {ds} : cellsOf (.agx ds)=[.agx ds]:=zR
@[simp] theorem CD {ds} : cellsOf (.tpx ds)=[.tpx ds]:=zR
@[simp] theorem Cx {ds} : cellsOf (.ptx ds)=[.ptx ds]:=zR
@[simp] theorem Cz {n sz ds} : cellsOf (.rfx n sz ds)=[.rfx n sz ds]:=zR
@[simp] theorem Cs {g ds} : cellsOf (.fnx g ds)=[.fnx g ds]:=zR
@[simp] theorem Fq : cf (.any)=.any:=zR
@[simp] theorem Ft {k n} : cf (.int k n)=.int k n:=zR
@[simp] theorem Dr {b} : cf (.bool b)=.bool b:=zR
@[simp] theorem FB {s} : cf (.str s)=.str s:=zR
@[simp] theorem Ds : cf (.nilp)=.nilp:=zR
@[simp] theorem Dt : cf (.nils)=.nils:=zR
@[simp] theorem Fo {ds} : cf (.agg ds)=.agg ds:=zR
@[simp] theorem FD {ds} : cf (.tup ds)=.tup ds:=zR
@[simp] theorem Ig {es} : cf (.sl es)=.sl es:=zR
@[simp] theorem Fw {ds} : cf (.ptr ds)=.ptr ds:=zR
@[simp] theorem Ie {g ds} : cf (.fn g ds)=.fn g ds:=zR
@[simp] theorem Fv {sz es} : cf (.own sz es)=.own sz es:=zR
@[simp] theorem Fr {sz es} : cf (.blk sz es)=.blk sz es:=zR
@[simp] theorem If {kt et ks vs} : cf (.mp kt et ks vs)=.mp kt et ks vs:=zR
@[simp] theorem Fu {b} : cf (.mrf b)=.mrf b:=zR
@[simp] theorem Fy {p k n} : cf (.ref p k n)=.ref p k n:=zR
@[simp] theorem Fn {p i off} : cf (.adr p i off)=.adr p i off:=zR
@[simp] theorem Fp {ds} : cf (.agx ds)=.agg ds:=zR
@[simp] theorem FC {ds} : cf (.tpx ds)=.tpx ds:=zR
@[simp] theorem Fx {ds} : cf (.ptx ds)=.ptx ds:=zR
@[simp] theorem Fz {n sz ds} : cf (.rfx n sz ds)=.rfx n sz ds:=zR
@[simp] theorem Fs {g ds} : cf (.fnx g ds)=.fnx g ds:=zR
@[simp] theorem FS : aS (.any)=.any:=zR
@[simp] theorem FV {k n} : aS (.int k n)=.int k n:=zR
@[simp] theorem Dx {b} : aS (.bool b)=.bool b:=zR
@[simp] theorem F3 {s} : aS (.str s)=.str s:=zR
@[simp] theorem Dy : aS (.nilp)=.nilp:=zR
@[simp] theorem Dz : aS (.nils)=.nils:=zR
@[simp] theorem FQ {ds} : aS (.agg ds)=.agg ds:=zR
@[simp] theorem F5 {ds} : aS (.tup ds)=.tup ds:=zR
@[simp] theorem ID {es} : aS (.sl es)=.sl es:=zR
@[simp] theorem FY {ds} : aS (.ptr ds)=.ptr ds:=zR
@[simp] theorem IB {g ds} : aS (.fn g ds)=.fn g ds:=zR
@[simp] theorem FX {sz es} : aS (.own sz es)=.sl es:=zR
@[simp] theorem FT {sz es} : aS (.blk sz es)=.blk sz es:=zR
@[simp] theorem IC {kt et ks vs} : aS (.mp kt et ks vs)=.mp kt et ks vs:=zR
@[simp] theorem FW {b} : aS (.mrf b)=.mrf b:=zR
@[simp] theorem F0 {p k n} : aS (.ref p k n)=.ref p k n:=zR
@[simp] theorem FP {p i off} : aS (.adr p i off)=.adr p i off:=zR
@[simp] theorem FR {ds} : aS (.agx ds)=.agx ds:=zR
@[simp] theorem F4 {ds} : aS (.tpx ds)=.tpx ds:=zR
@[simp] theorem FZ {ds} : aS (.ptx ds)=.ptx ds:=zR
@[simp] theorem F1 {n sz ds} : aS (.rfx n sz ds)=.rfx n sz ds:=zR
@[simp] theorem FU {g ds} : aS (.fnx g ds)=.fnx g ds:=zR
@[simp] theorem CS : aM (.any)=[]:=zR
@[simp] theorem CV {k n} : aM (.int k n)=[]:=zR
@[simp] theorem A7 {b} : aM (.bool b)=[]:=zR
@[simp] theorem C3 {s} : aM (.str s)=[]:=zR
@[simp] theorem A8 : aM (.nilp)=[]:=zR
@[simp] theorem A9 : aM (.nils)=[]:=zR
@[simp] theorem CQ {ds} : aM (.agg ds)=[]:=zR
@[simp] theorem C5 {ds} : aM (.tup ds)=[]:=zR
@[simp] theorem Ek {es} : aM (.sl es)=[]:=zR
@[simp] theorem CY {ds} : aM (.ptr ds)=[]:=zR
@[simp] theorem Ei {g ds} : aM (.fn g ds)=[]:=zR
@[simp] theorem CX {sz es} : aM (.own sz es)=[]:=zR
@[simp] theorem CT {sz es} : aM (.blk sz es)=[]:=zR
@[simp] theorem Ej {kt et ks vs} : aM (.mp kt et ks vs)=[]:=zR
@[simp] theorem CW {b} : aM (.mrf b)=[b]:=zR
@[simp] theorem C0 {p k n} : aM (.ref p k n)=[p.root]:=zR
@[simp] theorem CP {p i off} : aM (.adr p i off)=[p.root]:=zR
@[simp] theorem CR {ds} : aM (.agx ds)=[]:=zR
@[simp] theorem C4 {ds} : aM (.tpx ds)=[]:=zR
@[simp] theorem CZ {ds} : aM (.ptx ds)=[]:=zR
@[simp] theorem C1 {n sz ds} : aM (.rfx n sz ds)=[]:=zR
@[simp] theorem CU {g ds} : aM (.fnx g ds)=[]:=zR
@[simp] theorem Eo : bH (.any)=[]:=zR
@[simp] theorem Es {k n} : bH (.int k n)=[]:=zR
@[simp] theorem C6 {b} : bH (.bool b)=[]:=zR
@[simp] theorem EA {s} : bH (.str s)=[]:=zR
@[simp] theorem C7 : bH (.nilp)=[]:=zR
@[simp] theorem C8 : bH (.nils)=[]:=zR
@[simp] theorem Em {ds} : bH (.agg ds)=[]:=zR
@[simp] theorem EC {ds} : bH (.tup ds)=[]:=zR
@[simp] theorem HA {es} : bH (.sl es)=[]:=zR
@[simp] theorem Ev {ds} : bH (.ptr ds)=[]:=zR
@[simp] theorem Hy {g ds} : bH (.fn g ds)=[]:=zR
@[simp] theorem Eu {sz es} : bH (.own sz es)=[]:=zR
@[simp] theorem Ep {sz es} : bH (.blk sz es)=[]:=zR
@[simp] theorem Hz {kt et ks vs} : bH (.mp kt et ks vs)=[]:=zR
@[simp] theorem Et {b} : bH (.mrf b)=[b]:=zR
@[simp] theorem Ex {p k n} : bH (.ref p k n)=[p.root]:=zR
@[simp] theorem El {p i off} : bH (.adr p i off)=[p.root]:=zR
@[simp] theorem En {ds} : bH (.agx ds)=ds.flatMap aM:=zR
@[simp] theorem EB {ds} : bH (.tpx ds)=ds.flatMap aM:=zR
@[simp] theorem Ew {ds} : bH (.ptx ds)=ds.flatMap aM:=zR
@[simp] theorem Ey {n sz ds} : bH (.rfx n sz ds)=ds.flatMap aM:=zR
@[simp] theorem Er {g ds} : bH (.fnx g ds)=ds.flatMap aM:=zR
@[simp] theorem Mj {f : Nat -> D} : dp1 f (.any)=(.any):=zR
@[simp] theorem Mm {f : Nat -> D} {k n} : dp1 f (.int k n)=(.int k n):=zR
@[simp] theorem IK {f : Nat -> D} {b} : dp1 f (.bool b)=(.bool b):=zR
@[simp] theorem Mu {f : Nat -> D} {s} : dp1 f (.str s)=(.str s):=zR
@[simp] theorem IL {f : Nat -> D} : dp1 f (.nilp)=(.nilp):=zR
@[simp] theorem IM {f : Nat -> D} : dp1 f (.nils)=(.nils):=zR
@[simp] theorem Mh {f : Nat -> D} {ds} : dp1 f (.agg ds)=(.agg ds):=zR
@[simp] theorem Mw {f : Nat -> D} {ds} : dp1 f (.tup ds)=(.tup ds):=zR
@[simp] theorem PT {f : Nat -> D} {es} : dp1 f (.sl es)=(.sl es):=zR
@[simp] theorem Mp {f : Nat -> D} {ds} : dp1 f (.ptr ds)=(.ptr ds):=zR
@[simp] theorem PR {f : Nat -> D} {g ds} : dp1 f (.fn g ds)=(.fn g ds):=zR
@[simp] theorem Mo {f : Nat -> D} {sz es} : dp1 f (.own sz es)=(.own sz es):=zR
@[simp] theorem Mk {f : Nat -> D} {sz es} : dp1 f (.blk sz es)=(.blk sz es):=zR
@[simp] theorem PS {f : Nat -> D} {kt et ks vs} : dp1 f (.mp kt et ks vs)=(.mp kt et ks vs):=zR
@[simp] theorem Mn {f : Nat -> D} {b} : dp1 f (.mrf b)=(.mrf b):=zR
@[simp] theorem Mr {f : Nat -> D} {p k n} : dp1 f (.ref p k n)=(match a8 f p with | some (_,es)=>.sl (((es.drop k).take n).map fun e=>e.map aS) | none=>.any):=zR
@[simp] theorem Mg {f : Nat -> D} {p i off} : dp1 f (.adr p i off)=(match a8 f p with | some (_,es)=>.ptr (((es[i]?.getD []).drop off).map aS) | none=>.any):=zR
@[simp] theorem Mi {f : Nat -> D} {ds} : dp1 f (.agx ds)=(.agx ds):=zR
@[simp] theorem Mv {f : Nat -> D} {ds} : dp1 f (.tpx ds)=(.tpx ds):=zR
@[simp] theorem Mq {f : Nat -> D} {ds} : dp1 f (.ptx ds)=(.ptx ds):=zR
@[simp] theorem Ms {f : Nat -> D} {n sz ds} : dp1 f (.rfx n sz ds)=(.rfx n sz ds):=zR
@[simp] theorem Ml {f : Nat -> D} {g ds} : dp1 f (.fnx g ds)=(.fnx g ds):=zR
@[simp] theorem PX {f : Nat -> D} : dp f (.any)=(.any):=zR
@[simp] theorem P0 {f : Nat -> D} {k n} : dp f (.int k n)=(.int k n):=zR
@[simp] theorem MA {f : Nat -> D} {b} : dp f (.bool b)=(.bool b):=zR
@[simp] theorem Qf {f : Nat -> D} {s} : dp f (.str s)=(.str s):=zR
@[simp] theorem MB {f : Nat -> D} : dp f (.nilp)=(.nilp):=zR
@[simp] theorem MC {f : Nat -> D} : dp f (.nils)=(.nils):=zR
@[simp] theorem PV {f : Nat -> D} {ds} : dp f (.agg ds)=(.agg ds):=zR
@[simp] theorem Qh {f : Nat -> D} {ds} : dp f (.tup ds)=(.tup ds):=zR
@[simp] theorem Rk {f : Nat -> D} {es} : dp f (.sl es)=(.sl es):=zR
@[simp] theorem Qa {f : Nat -> D} {ds} : dp f (.ptr ds)=(.ptr ds):=zR
@[simp] theorem Ri {f : Nat -> D} {g ds} : dp f (.fn g ds)=(.fn g ds):=zR
@[simp] theorem P9 {f : Nat -> D} {sz es} : dp f (.own sz es)=(.own sz es):=zR
@[simp] theorem PY {f : Nat -> D} {sz es} : dp f (.blk sz es)=(.blk sz es):=zR
@[simp] theorem Rj {f : Nat -> D} {kt et ks vs} : dp f (.mp kt et ks vs)=(.mp kt et ks vs):=zR
@[simp] theorem P8 {f : Nat -> D} {b} : dp f (.mrf b)=(.mrf b):=zR
@[simp] theorem Qc {f : Nat -> D} {p k n} : dp f (.ref p k n)=(match a8 f p with | some (_,es)=>.sl (((es.drop k).take n).map fun e=>e.map aS) | none=>.any):=zR
@[simp] theorem PU {f : Nat -> D} {p i off} : dp f (.adr p i off)=(match a8 f p with | some (_,es)=>.ptr (((es[i]?.getD []).drop off).map aS) | none=>.any):=zR
@[simp] theorem PW {f : Nat -> D} {ds} : dp f (.agx ds)=(.agg (ds.map (dp1 f))):=zR
@[simp] theorem Qg {f : Nat -> D} {ds} : dp f (.tpx ds)=(.tup (ds.map (dp1 f))):=zR
@[simp] theorem Qb {f : Nat -> D} {ds} : dp f (.ptx ds)=(.ptr (ds.map (dp1 f))):=zR
@[simp] theorem Qd {f : Nat -> D} {n sz ds} : dp f (.rfx n sz ds)=.rfx n sz ds:=zR
@[simp] theorem PZ {f : Nat -> D} {g ds} : dp f (.fnx g ds)=(.fn g (ds.map (dp1 f))):=zR
@[simp] theorem Ga {f : Nat -> D} : aR f (.any)=(True):=zR
@[simp] theorem Gd {f : Nat -> D} {k n} : aR f (.int k n)=(True):=zR
@[simp] theorem DJ {f : Nat -> D} {b} : aR f (.bool b)=(True):=zR
@[simp] theorem Gl {f : Nat -> D} {s} : aR f (.str s)=(True):=zR
@[simp] theorem DK {f : Nat -> D} : aR f (.nilp)=(True):=zR
@[simp] theorem DL {f : Nat -> D} : aR f (.nils)=(True):=zR
@[simp] theorem F8 {f : Nat -> D} {ds} : aR f (.agg ds)=(True):=zR
@[simp] theorem Gn {f : Nat -> D} {ds} : aR f (.tup ds)=(True):=zR
@[simp] theorem IQ {f : Nat -> D} {es} : aR f (.sl es)=(True):=zR
@[simp] theorem Gg {f : Nat -> D} {ds} : aR f (.ptr ds)=(True):=zR
@[simp] theorem IO {f : Nat -> D} {g ds} : aR f (.fn g ds)=(True):=zR
@[simp] theorem Gf {f : Nat -> D} {sz es} : aR f (.own sz es)=(True):=zR
@[simp] theorem Gb {f : Nat -> D} {sz es} : aR f (.blk sz es)=(True):=zR
@[simp] theorem IP {f : Nat -> D} {kt et ks vs} : aR f (.mp kt et ks vs)=(True):=zR
@[simp] theorem Ge {f : Nat -> D} {b} : aR f (.mrf b)=(False):=zR
@[simp] theorem Gi {f : Nat -> D} {p k n} : aR f (.ref p k n)=(match a8 f p with | some (_,es)=>k + n <= es.length | none=>False):=zR
@[simp] theorem F7 {f : Nat -> D} {p i off} : aR f (.adr p i off)=(match a8 f p with | some _=>True | none=>False):=zR
@[simp] theorem F9 {f : Nat -> D} {ds} : aR f (.agx ds)=(True):=zR
@[simp] theorem Gm {f : Nat -> D} {ds} : aR f (.tpx ds)=(True):=zR
@[simp] theorem Gh {f : Nat -> D} {ds} : aR f (.ptx ds)=(True):=zR
@[simp] theorem Gj {f : Nat -> D} {n sz ds} : aR f (.rfx n sz ds)=(True):=zR
@[simp] theorem Gc {f : Nat -> D} {g ds} : aR f (.fnx g ds)=(True):=zR
@[simp] theorem IU {f : Nat -> D} : bY f (.any)=(True):=zR
@[simp] theorem IX {f : Nat -> D} {k n} : bY f (.int k n)=(True):=zR
@[simp] theorem Gp {f : Nat -> D} {b} : bY f (.bool b)=(True):=zR
@[simp] theorem I5 {f : Nat -> D} {s} : bY f (.str s)=(True):=zR
@[simp] theorem Gq {f : Nat -> D} : bY f (.nilp)=(True):=zR
@[simp] theorem Gr {f : Nat -> D} : bY f (.nils)=(True):=zR
@[simp] theorem IS {f : Nat -> D} {ds} : bY f (.agg ds)=(True):=zR
@[simp] theorem I7 {f : Nat -> D} {ds} : bY f (.tup ds)=(True):=zR
@[simp] theorem Mz {f : Nat -> D} {es} : bY f (.sl es)=(True):=zR
@[simp] theorem I0 {f : Nat -> D} {ds} : bY f (.ptr ds)=(True):=zR
@[simp] theorem Mx {f : Nat -> D} {g ds} : bY f (.fn g ds)=(True):=zR
@[simp] theorem IZ {f : Nat -> D} {sz es} : bY f (.own sz es)=(True):=zR
@[simp] theorem IV {f : Nat -> D} {sz es} : bY f (.blk sz es)=(True):=zR
@[simp] theorem My {f : Nat -> D} {kt et ks vs} : bY f (.mp kt et ks vs)=(True):=zR
@[simp] theorem IY {f : Nat -> D} {b} : bY f (.mrf b)=(False):=zR
@[simp] theorem I2 {f : Nat -> D} {p k n} : bY f (.ref p k n)=(match a8 f p with | some (_,es)=>k + n <= es.length | none=>False):=zR
@[simp] theorem IR {f : Nat -> D} {p i off} : bY f (.adr p i off)=(match a8 f p with | some _=>True | none=>False):=zR
@[simp] theorem IT {f : Nat -> D} {ds} : bY f (.agx ds)=(∀ d ∈ ds,aR f d):=zR
@[simp] theorem I6 {f : Nat -> D} {ds} : bY f (.tpx ds)=(∀ d ∈ ds,aR f d):=zR
@[simp] theorem I1 {f : Nat -> D} {ds} : bY f (.ptx ds)=(∀ d ∈ ds,aR f d):=zR
@[simp] theorem I3 {f : Nat -> D} {n sz ds} : bY f (.rfx n sz ds)=False:=zR
@[simp] theorem IW {f : Nat -> D} {g ds} : bY f (.fnx g ds)=(∀ d ∈ ds,aR f d):=zR
@[simp] theorem OX {p i0 o} : ldc p i0 o (.any)=.any:=zR
@[simp] theorem Le {m} : en m (.any)=.any:=zR
@[simp] theorem O0 {p i0 o k n} : ldc p i0 o (.int k n)=.int k n:=zR
@[simp] theorem Lh {m k n} : en m (.int k n)=.int k n:=zR
@[simp] theorem KN {p i0 o b} : ldc p i0 o (.bool b)=.bool b:=zR
@[simp] theorem HB {m b} : en m (.bool b)=.bool b:=zR
@[simp] theorem O9 {p i0 o s} : ldc p i0 o (.str s)=.str s:=zR
@[simp] theorem Lo {m s} : en m (.str s)=.str s:=zR
@[simp] theorem KO {p i0 o} : ldc p i0 o (.nilp)=.nilp:=zR
@[simp] theorem HC {m} : en m (.nilp)=.nilp:=zR
@[simp] theorem KP {p i0 o} : ldc p i0 o (.nils)=.nils:=zR
@[simp] theorem OV {p i0 o ds} : ldc p i0 o (.agg ds)=.agg ds:=zR
@[simp] theorem Lc {m ds} : en m (.agg ds)=.agg ds:=zR
@[simp] theorem Pc {p i0 o ds} : ldc p i0 o (.tup ds)=.tup ds:=zR
@[simp] theorem Lq {m ds} : en m (.tup ds)=.tup ds:=zR
@[simp] theorem QN {p i0 o es} : ldc p i0 o (.sl es)=.sl es:=zR
@[simp] theorem Pj {m es} : en m (.sl es)=.sl es:=zR
@[simp] theorem O4 {p i0 o ds} : ldc p i0 o (.ptr ds)=.ptr ds:=zR
@[simp] theorem Lk {m ds} : en m (.ptr ds)=.ptr ds:=zR
@[simp] theorem QK {p i0 o g ds} : ldc p i0 o (.fn g ds)=.fn g ds:=zR
@[simp] theorem Ph {m g ds} : en m (.fn g ds)=.fn g ds:=zR
@[simp] theorem O3 {c i o sz es} : ldc (.r c) i o (.own sz es)=.ref (.n c i o) 0 es.length:=zR
@[simp] theorem Lj {m sz es} : en m (.own sz es)=.own sz es:=zR
@[simp] theorem OY {p i0 o sz es} : ldc p i0 o (.blk sz es)=.blk sz es:=zR
@[simp] theorem Lf {m sz es} : en m (.blk sz es)=.blk sz es:=zR
@[simp] theorem QL {p i0 o kt et ks vs} : ldc p i0 o (.mp kt et ks vs)=.mp kt et ks vs:=zR
@[simp] theorem Pi {m kt et ks vs} : en m (.mp kt et ks vs)=.mp kt et ks vs:=zR
@[simp] theorem O1 {p i0 o b} : ldc p i0 o (.mrf b)=.mrf b:=zR
@[simp] theorem Li {m b} : en m (.mrf b)=.mrf b:=zR
@[simp] theorem O6 {p i0 o q k n} : ldc p i0 o (.ref q k n)=.ref q k n:=zR
@[simp] theorem Lm {m q k n} : en m (.ref q k n)=.ref q k n:=zR
@[simp] theorem OU {p i0 o q i off} : ldc p i0 o (.adr q i off)=.adr q i off:=zR
@[simp] theorem Lb {m q i off} : en m (.adr q i off)=.adr q i off:=zR
@[simp] theorem OW {p i0 o ds} : ldc p i0 o (.agx ds)=.agx ds:=zR
@[simp] theorem Ld {m ds} : en m (.agx ds)=.agx ds:=zR
@[simp] theorem Pb {p i0 o ds} : ldc p i0 o (.tpx ds)=.tpx ds:=zR
@[simp] theorem Lp {m ds} : en m (.tpx ds)=.tpx ds:=zR
@[simp] theorem O5 {p i0 o ds} : ldc p i0 o (.ptx ds)=.ptx ds:=zR
@[simp] theorem O7 {p i0 o n sz ds} : ldc p i0 o (.rfx n sz ds)=.rfx n sz ds:=zR
@[simp] theorem Ll {m ds} : en m (.ptx ds)=.ptx ds:=zR
@[simp] theorem Ln {m n sz ds} : en m (.rfx n sz ds)=.rfx n sz ds:=zR
@[simp] theorem OZ {p i0 o g ds} : ldc p i0 o (.fnx g ds)=.fnx g ds:=zR
@[simp] theorem Lg {m g ds} : en m (.fnx g ds)=.fnx g ds:=zR
@[simp] theorem HD {m} : en m .nils=if m=0 then .nils else .own m []:=zR
def slx (b : Bool) (es : List (List D)) : D:=match b,es with
 | true,[]=>.nils
 | _,es=>.sl es
@[simp] theorem ii {es} : slx false es=.sl es:=by cases es <;> rfl
@[simp] theorem LW {b x es} : slx b (x::es)=.sl (x::es):=by cases b <;> rfl
theorem eT (b : Bool) (es : List (List D)) : slx b es=.sl es \/ (slx b es=.nils /\ es=[]):=by cases b <;> cases es <;> simp [slx]
@[simp] theorem OQ {b es} : isV (slx b es)=true:=by cases b <;> cases es <;> rfl
@[simp] theorem NG {b es} : isK (slx b es)=true:=by cases b <;> cases es <;> rfl
@[simp] theorem Oe {b es} : isP (slx b es)=true:=by cases b <;> cases es <;> rfl
@[simp] theorem Oz {b es} : isS (slx b es)=true:=by cases b <;> cases es <;> rfl
@[simp] theorem JO {b es} : aK (slx b es)=true:=by cases b <;> cases es <;> rfl
@[simp] theorem NX {b es} : isO (slx b es)=false:=by cases b <;> cases es <;> rfl
@[simp] theorem GR {b es} : cM (slx b es)=false:=by cases b <;> cases es <;> rfl
@[simp] theorem MS {b es} : isB (slx b es)=false:=by cases b <;> cases es <;> rfl
@[simp] theorem CA {b es} : cellsOf (slx b es)=[slx b es]:=by cases b <;> cases es <;> rfl
@[simp] theorem FA {b es} : cf (slx b es)=slx b es:=by cases b <;> cases es <;> rfl
@[simp] theorem F2 {b es} : aS (slx b es)=slx b es:=by cases b <;> cases es <;> rfl
@[simp] theorem C2 {b es} : aM (slx b es)=[]:=by cases b <;> cases es <;> rfl
@[simp] theorem Ez {b es} : bH (slx b es)=[]:=by cases b <;> cases es <;> rfl
@[simp] theorem Mt {f : Nat -> D} {b es} : dp1 f (slx b es)=slx b es:=by cases b <;> cases es <;> rfl
@[simp] theorem Qe {f : Nat -> D} {b es} : dp f (slx b es)=slx b es:=by cases b <;> cases es <;> rfl
@[simp] theorem Gk {f : Nat -> D} {b es} : aR f (slx b es)=True:=by cases b <;> cases es <;> rfl
@[simp] theorem I4 {f : Nat -> D} {b es} : bY f (slx b es)=True:=by cases b <;> cases es <;> rfl
@[simp] theorem O8 {p i o b es} : ldc p i o (slx b es)=slx b es:=by cases b <;> cases es <;> rfl
def sY (d : D) (K : Nat -> Prop) (_ : Tag K) : Prop:=match d with
 | .sl es=>K es.length
 | .nils=>K 0
 | .ref _ _ n=>K n
 | .rfx n _ _=>K n
 | _=>False
@[simp] theorem KV {n sz ds K u} : sY (.rfx n sz ds) K u=K n:=zR
@[simp] theorem Pd {es K u} : sY (.sl es) K u=K es.length:=zR
@[simp] theorem Ho {K u} : sY .nils K u=K 0:=zR
@[simp] theorem KU {p k n K u} : sY (.ref p k n) K u=K n:=zR
@[simp] theorem KW {b es K u} : sY (slx b es) K u=K es.length:=by cases b <;> cases es <;> rfl
@[simp] theorem HQ {n ds} : oF true n ds=.agg (ds.take n):=zR
@[simp] theorem EM {n ds} : oF false n ds=ds.headD .any:=zR
@[simp] theorem KZ {t} : ae [] t=.any:=rfl
def lk (b : Bool) (d : D) (r : Env) (t : Nat) : D:=match b with
 | true=>d
 | false=>ae r t
@[simp] theorem Pe {d r t} : lk true d r t=d:=rfl
@[simp] theorem KX {d r t} : lk false d r t=ae r t:=rfl
@[simp] theorem Hp {s d r t} : ae ((s,d)::r) t=lk (s == t) d r t:=by
 by_cases h : s=t
 ·subst h;simp [ae]
 ·rw [show (s == t)=false by simp [h]];simp [ae,h]
@[simp] theorem G4 {e} : qU [] e=[]:=zR
@[simp] theorem D2 {t ts e} : qU (t::ts) e=(t,ae e t)::qU ts e:=zR
@[simp] theorem Db : mU []=[]:=zR
@[simp] theorem Bx {t d r} : mU ((t,d)::r)=bH d++mU r:=zR
@[simp] theorem Id {e ks} : uZ e [] ks=ks:=zR
@[simp] theorem Fm {e r rs ks} : uZ e (r::rs) ks=uZ e rs (if (ks.map (·.1)).contains r then ks else ks++[(r,ae e r)]):=zR
def gM (f : Nat -> D) (d : D) (ns : List Nat) (K : List D -> List Nat -> Prop) (_ : Tag K) : Prop:=fD f d ns K
def gh (f : Nat -> D) (d : D) (K : D -> List Nat -> Prop) (_ : Tag K) : Prop:=df f d K
def qA (f : Nat -> D) (ds : List D) (K : List D -> List Nat -> Prop) (_ : Tag K) : Prop:=iT f ds K
def wM (b n : Nat) (x : D) (K : D -> List Nat -> Prop) (_ : Tag K) : Prop:=match x with
 | .blk sz es=>es.length=n /\ (∀ e ∈ es,∀ c ∈ e,aK c=true) /\ K (.own sz es) [b]
 | _=>False
@[simp] theorem H3 {b n sz es K u} : wM b n (.blk sz es) K u=(es.length=n /\ (∀ e ∈ es,∀ c ∈ e,aK c=true) /\ K (.own sz es) [b]):=zR
theorem dP {f : Nat -> D} {d : D} {K : D -> List Nat -> Prop} {u} (h : aK d=true) : gh f d K u=K d []:=by
 cases d <;> simp [aK] at h <;> simp [gh,df,aK]
@[simp] theorem Ff {f b k n K u} : gh f (.ref (.r b) k n) K u=(k=0 /\ wM b n (f b) K ⟨⟩):=by
 simp only [gh,df,wM]
 cases f b <;> rfl
theorem fC {f : Nat -> D} {d : D} {K : List D -> List Nat -> Prop} {u} (h : aK d=true) : gM f d [] K u=K [d] []:=by
 cases d <;> simp [aK] at h <;> simp [gM,fD,df,aK,eu]
@[simp] theorem H6 {f ds K u} : gM f (.agg ds) [] K u=((∀ c ∈ ds,aK c=true) /\ K ds []):=by simp [gM,fD,eu]
@[simp] theorem H7 {f ds K u} : gM f (.agx ds) [] K u=qA f ds (fun cs bs=>bL bs=true /\ K cs bs) ⟨⟩:=by simp [gM,qA,fD,eu]
@[simp] theorem Ia {f b k n K u} : gM f (.ref (.r b) k n) [] K u=(k=0 /\ wM b n (f b) (fun c bs=>K [c] bs) ⟨⟩):=by
 simp only [gM,fD,df,wM,eu,if_true,true_or,true_and]
 cases f b <;> rfl
@[simp] theorem Fi {f K u} : qA f [] K u=K [] []:=zR
@[simp] theorem Dq {f d ds K u} : qA f (d::ds) K u=gh f d (fun c bs=>qA f ds (fun cs bs'=>K (c::cs) (bs++bs')) ⟨⟩) ⟨⟩:=zR
@[simp] theorem Fd {f k n K u} : gh f (.int k n) K u=K (.int k n) []:=dP rfl
@[simp] theorem H8 {f k n K u} : gM f (.int k n) [] K u=K [.int k n] []:=fC rfl
@[simp] theorem Dn {f n K u} : gh f (.bool n) K u=K (.bool n) []:=dP rfl
@[simp] theorem Fj {f n K u} : gM f (.bool n) [] K u=K [.bool n] []:=fC rfl
@[simp] theorem Fh {f n K u} : gh f (.str n) K u=K (.str n) []:=dP rfl
@[simp] theorem Ic {f n K u} : gM f (.str n) [] K u=K [.str n] []:=fC rfl
@[simp] theorem Do {f  K u} : gh f .nilp K u=K .nilp []:=dP rfl
@[simp] theorem Fk {f  K u} : gM f .nilp [] K u=K [.nilp] []:=fC rfl
@[simp] theorem Dp {f  K u} : gh f .nils K u=K .nils []:=dP rfl
@[simp] theorem Fl {f  K u} : gM f .nils [] K u=K [.nils] []:=fC rfl
@[simp] theorem H5 {f n K u} : gh f (.sl n) K u=K (.sl n) []:=dP rfl
@[simp] theorem L7 {f n K u} : gM f (.sl n) [] K u=K [.sl n] []:=fC rfl
@[simp] theorem Fe {f n K u} : gh f (.ptr n) K u=K (.ptr n) []:=dP rfl
@[simp] theorem H9 {f n K u} : gM f (.ptr n) [] K u=K [.ptr n] []:=fC rfl
@[simp] theorem H4 {f g n K u} : gh f (.fn g n) K u=K (.fn g n) []:=dP rfl
@[simp] theorem L6 {f g n K u} : gM f (.fn g n) [] K u=K [.fn g n] []:=fC rfl
@[simp] theorem Fg {f b n K u} : gh f (slx b n) K u=K (slx b n) []:=dP (by simp)
@[simp] theorem Ib {f b n K u} : gM f (slx b n) [] K u=K [slx b n] []:=fC (by simp)
def qc (f : Nat -> D) (sz : Nat) (ps : List (Nat × Opd)) (es : List (List D)) (bs : List Nat) (K : List (List D) -> List Nat -> Prop) (_ : Tag K) : Prop:=fw f sz [] ps es bs K
@[simp] theorem EN {f sz es bs K u} : qc f sz [] es bs K u=K es bs:=zR
@[simp] theorem Da {f sz i x ps es bs K u} : qc f sz ((i,x)::ps) es bs K u=(i < es.length /\ gM f (vd f x) [] (fun cs bs'=>cs.length=sz /\ qc f sz ps (es.set i cs) (bs++bs') K ⟨⟩) ⟨⟩):=zR
def jl (f : Nat -> D) (mv : Bool) (d : D) (sz : Nat) (K : List (List D) -> List Nat -> Prop) (_ : Tag K) : Prop:=fA f mv d sz K
def ER (b n sz : Nat) (x : D) (K : List (List D) -> List Nat -> Prop) (_ : Tag K) : Prop:=match x with
 | .blk sz' es=>sz'=sz /\ es.length=n /\ (∀ e ∈ es,∀ c ∈ e,isC c=true) /\ K es [b]
 | _=>False
@[simp] theorem LJ {b n sz sz' es K u} : ER b n sz (.blk sz' es) K u=(sz'=sz /\ es.length=n /\ (∀ e ∈ es,∀ c ∈ e,isC c=true) /\ K es [b]):=zR
def ES (k n sz : Nat) (x : Option (Nat × List (List D))) (K : List (List D) -> List Nat -> Prop) (_ : Tag K) : Prop:=match x with
 | some (sz',es)=>sz'=sz /\ k + n <= es.length /\ (∀ e ∈ (es.drop k).take n,∀ c ∈ e,aK c=true) /\ K ((es.drop k).take n) []
 | none=>False
@[simp] theorem HR {k n sz sz' es K u} : ES k n sz (some (sz',es)) K u=(sz'=sz /\ k + n <= es.length /\ (∀ e ∈ (es.drop k).take n,∀ c ∈ e,aK c=true) /\ K ((es.drop k).take n) []):=zR
@[simp] theorem ET {f mv sz K u} : jl f mv .nils sz K u=K [] []:=zR
@[simp] theorem LQ {f mv es sz K u} : jl f mv (.sl es) sz K u=((∀ e ∈ es,e.length=sz /\ ∀ c ∈ e,aK c=true) /\ K es []):=zR
@[simp] theorem HV {f mv b es sz K u} : jl f mv (slx b es) sz K u=((∀ e ∈ es,e.length=sz /\ ∀ c ∈ e,aK c=true) /\ K es []):=by
 rcases eT b es with h | ⟨h,rfl⟩ <;> rw [h] <;> simp
@[simp] theorem LP {f b k n sz K u} : jl f true (.ref (.r b) k n) sz K u=(k=0 /\ ER b n sz (f b) K ⟨⟩):=by
 simp only [jl,fA,ER]
 cases f b <;> rfl
@[simp] theorem HU {f p k n sz K u} : jl f false (.ref p k n) sz K u=ES k n sz (a8 f p) K ⟨⟩:=by
 simp only [jl,fA,ES]
 cases a8 f p <;> rfl
def dQ (f : Nat -> D) (o : Option Opd) (dflt : Nat) (K : Nat -> Prop) (_ : Tag K) : Prop:=eA f o dflt K
def Ir (d : D) (K : Nat -> Prop) (_ : Tag K) : Prop:=match d with
 | .int _ n=>0 <= n /\ K n.toNat
 | _=>False
@[simp] theorem Is {k n K u} : Ir (.int k n) K u=(0 <= n /\ K n.toNat):=zR
@[simp] theorem Cl {f n K u} : dQ f none n K u=K n:=zR
@[simp] theorem Cm {f x n K u} : dQ f (some x) n K u=Ir (vd f x) K ⟨⟩:=zR
def iN (x : Option (List D)) (K : List D -> Prop) (_ : Tag K) : Prop:=match x with
 | some r=>K r
 | none=>False
@[simp] theorem HT {r K u} : iN (some r) K u=K r:=zR
@[simp] theorem HS {K u} : iN none K u=False:=zR
theorem iF {x : Option (List D)} {K : List D -> Prop} {u} : iN x K u=∃ r,x=some r /\ K r:=by
 cases x <;> simp [iN]
def lW (x : Option D) (K : Nat -> List (List D) -> Prop) (_ : Tag K) : Prop:=match x with
 | some (.own sz es)=>K sz es
 | _=>False
@[simp] theorem LI {sz es K u} : lW (some (.own sz es)) K u=K sz es:=zR
theorem kW {x : Option D} {K : Nat -> List (List D) -> Prop} {u} : lW x K u=∃ sz es,x=some (.own sz es) /\ K sz es:=by
 cases x with
 | none=>simp [lW]
 | some d =>
  cases d <;> simp [lW]
  exact ⟨fun h=>⟨_,_,⟨rfl,rfl⟩,h⟩,by rintro ⟨_,_,⟨rfl,rfl⟩,h⟩;exact h⟩
def Aq (x : Option D) (K : D -> Prop) (_ : Tag K) : Prop:=match x with
 | some d=>K d
 | none=>False
@[simp] theorem FO {d K u} : Aq (some d) K u=K d:=zR
theorem Ar {x : Option D} {K : D -> Prop} {u} : Aq x K u=∃ d,x=some d /\ K d:=by
 cases x <;> simp [Aq]
def fF (x : D) (K : Nat -> List (List D) -> Prop) (_ : Tag K) : Prop:=match x with
 | .blk sz es=>K sz es
 | _=>False
@[simp] theorem Iq {sz es K u} : fF (.blk sz es) K u=K sz es:=zR
abbrev CC:=Nat -> List D -> D -> List D -> Prop
abbrev KT:=List (Nat × D) -> List (Nat × Bool) -> Prop
section
variable {C : CC} {Q : cr -> Env -> Prop} {e e' : Env} {d : D}
def wN (C : CC) (c : dJ) (Q : cr -> Env -> Prop) (_ : Tag (c,Q)) (e : Env) : Prop:=wpN C c Q e
def tZ (C : CC) (c : dJ) (Q : cr -> Env -> Prop) (_ : Tag (c,Q)) (e : Env) : Prop:=wpN C (.loop c) Q e
def vL (C : CC) (K : Env -> Prop) (ns : List az) (_ : Tag (K,ns)) (e : Env) : Prop:=iQ C K ns e
def ti (C : CC) (hs : List Nat) (K : Env -> Prop) (ns : List az) (_ : Tag (K,ns)) (e : Env) (acc : List (List Nat × List Nat)) : Prop:=jT C hs K ns e acc
def Jt (hs : List Nat) (acc : List (List Nat × List Nat)) : Prop:=kO hs acc.reverse=true
theorem am {hs : List Nat} {acc : List (List Nat × List Nat)} (h : kO hs acc.reverse=true) : Jt hs acc:=h
def CG (C : CC) (K : Env -> Prop) (ns : List az) (e : Env) : KT:=fun ws ks=>iQ C K ns (ws++dU ks e)
def IE (C : CC) (hs : List Nat) (K : Env -> Prop) (ns : List az) (e : Env) (R : List Nat) (acc : List (List Nat × List Nat)) : KT:=fun ws ks=>wOk R ws ks=true /\ jT C hs K ns (ws++dU ks e) ((R,wrK ws ks)::acc)
def bF (Q : cr -> Env -> Prop) (_ : Tag Q) (t : cr) (e : Env) : Prop:=Q t e
def fin (res : List (Nat × Option (Nat × Bool))) (d : D) : cr -> Env -> Prop:=fun t e=>(match t with
   | .ext _=>False
   | _=>True) /\ gx res d e
def BD (C : CC) (y : dJ) (Q : cr -> Env -> Prop) : cr -> Env -> Prop:=fun t e'=>match t with
  | .nrm=>wpN C y Q e'
  | t=>Q t e'
def pJ (id : Nat) (Q : cr -> Env -> Prop) : cr -> Env -> Prop:=fun t e'=>match t with
  | .ext i=>if i=id then Q .nrm e' else Q (.ext i) e'
  | t=>Q t e'
def Bv (keep : List Nat) (Q : cr -> Env -> Prop) : Env -> Prop:=fun e'=>Q .nrm (prune keep e')
def kOf (C : CC) (hs : Option (List Nat)) (K : Env -> Prop) (ns : List az) (e : Env) (R : List Nat) (acc : List (List Nat × List Nat)) : KT :=
 match hs with
 | none=>CG C K ns e
 | some hs=>IE C hs K ns e R acc
def doW (C : CC) (hs : Option (List Nat)) (K : Env -> Prop) (ns : List az) (_ : Tag (hs,K,ns)) (e : Env) (R : List Nat) (acc : List (List Nat × List Nat)) (ws : List (Nat × D)) (ks : List (Nat × Bool)) : Prop:=kOf C hs K ns e R acc ws ks
def opW (C : CC) (hs : Option (List Nat)) (K : Env -> Prop) (ns : List az) (dst : Option Nat) (op : NOp) (_ : Tag (hs,K,ns,dst,op)) (e : Env) (R : List Nat) (acc : List (List Nat × List Nat)) : Prop:=aJ C (ae e) dst (kOf C hs K ns e R acc) op
def dW (C : CC) (hs : Option (List Nat)) (K : Env -> Prop) (ns : List az) (dst : Option Nat) (_ : Tag (hs,K,ns)) (e : Env) (R : List Nat) (acc : List (List Nat × List Nat)) (d : D) : Prop:=dC dst (kOf C hs K ns e R acc) d
def qF (C : CC) (g : Nat) (hs : Option (List Nat)) (K : Env -> Prop) (ns : List az) (dst : Option Nat) (_ : Tag (hs,K,ns)) (e : Env) (R : List Nat) (acc : List (List Nat × List Nat)) (pure : Bool) (ds : List D) : Prop :=
 ∃ d,C g ds d [] /\ (isF d=true \/ pure=true) /\ dC dst (kOf C hs K ns e R acc) d
theorem ai {prog : Nat -> Option ar} (hC : aw prog C) {g : Nat} {nf : ar} {ds : List D} (hp : prog g=some nf) (hl : ds.length=nf.np) (h : wN C nf.body (fin nf.res d) ⟨⟩ (params 0 ds)) : C g ds d []:=hC.1 g nf ds d hp hl h
def sI (res : List (Nat × Option (Nat × Bool))) (sz : Nat) (es : List (List D)) : cr -> Env -> Prop:=fun t e=>(match t with
   | .ext _=>False
   | _=>True) /\ kj res sz es e
theorem kq {prog : Nat -> Option ar} (hC : aw prog C) {g : Nat} {nf : ar} {ds : List D} {sz : Nat} {es : List (List D)} (hp : prog g=some nf) (hl : ds.length=nf.np) (h : wN C nf.body (sI nf.res sz es) ⟨⟩ (params 0 ds)) : C g ds .any [.own sz es]:=hC.2.2.1 g nf ds sz es hp hl h
def vp (res : List (Nat × Option (Nat × Bool))) (d : D) : cr -> Env -> Prop:=fun t e=>(match t with
   | .ext _=>False
   | _=>True) /\ ki res d e
def sJ (res : List (Nat × Option (Nat × Bool))) (d : D) (sz : Nat) (es' : List (List D)) : cr -> Env -> Prop:=fun t e=>(match t with
   | .ext _=>False
   | _=>True) /\ (0 < es'.length /\ ae e 10015=.blk sz es') /\ gx res d ((10015,.any)::e)
theorem tw {prog : Nat -> Option ar} (hC : aw prog C) {g : Nat} {nf : ar} {ds : List D} {d : D} {sz : Nat} {es es' : List (List D)} (hp : prog g=some nf) (hl : ds.length + 1=nf.np) (h : wN C nf.body (sJ nf.res d sz es') ⟨⟩ ((0,.adr (.r 10015) 0 0)::(params 1 ds++[(10015,.blk sz es)]))) : C g (.blk sz es::ds) d [.blk sz es']:=hC.2.2.2.2.1 g nf ds d sz es es' hp hl h
def vq (res : List (Nat × Option (Nat × Bool))) (sz : Nat) (es : List (List D)) : cr -> Env -> Prop:=fun t e=>(match t with
   | .ext _=>False
   | _=>True) /\ km res sz es e
def sH (res : List (Nat × Option (Nat × Bool))) (R : D) : cr -> Env -> Prop:=fun t e=>(match t with
   | .ext _=>False
   | _=>True) /\ rT res R e
theorem E5 {prog : Nat -> Option ar} (hC : aw prog C) {g : Nat} {nf : ar} {ds : List D} {R : D} (hp : prog g=some nf) (hl : ds.length=nf.np) (hok : okR R=true) (h : wN C nf.body (sH nf.res R) ⟨⟩ (params 0 ds)) : C g ds R [.nils]:=hC.2.2.2.2.2.2 g nf ds R hp hl hok h
def sx (C : CC) (g : Nat) (hs : Option (List Nat)) (K : Env -> Prop) (ns : List az) (t : Nat) (_ : Tag (hs,K,ns)) (e : Env) (R : List Nat) (acc : List (List Nat × List Nat)) (ds : List D) : Prop :=
 (∃ d,C g ds d [] /\ dC (some t) (kOf C hs K ns e R acc) d) \/ ∃ d,okR d=true /\ C g ds d [.nils] /\ kOf C hs K ns e R acc ((t,fz t d)::aY t d) (fj t d)
theorem vc {g : Nat} {hs : Option (List Nat)} {K : Env -> Prop} {ns : List az} {t : Nat} {u : Tag (hs,K,ns)} {R : List Nat} {acc : List (List Nat × List Nat)} {ds : List D} {d : D} (h : C g ds d [.nils]) (hok : okR d=true) (hk : doW C hs K ns ⟨⟩ e R acc ((t,fz t d)::aY t d) (fj t d)) : sx C g hs K ns t u e R acc ds:=.inr ⟨d,hok,h,hk⟩
theorem vb {g : Nat} {hs : Option (List Nat)} {K : Env -> Prop} {ns : List az} {t : Nat} {u : Tag (hs,K,ns)} {R : List Nat} {acc : List (List Nat × List Nat)} {ds : List D} {d : D} (h : C g ds d []) (hk : dW C hs K ns (some t) ⟨⟩ e R acc d) : sx C g hs K ns t u e R acc ds:=.inl ⟨d,h,hk⟩
def wU (C : CC) (g : Nat) (hs : Option (List Nat)) (K : Env -> Prop) (ns : List az) (t : Nat) (_ : Tag (hs,K,ns)) (e : Env) (R : List Nat) (acc : List (List Nat × List Nat)) (ds : List D) : Prop :=
 ∃ sz es,C g ds .any [.own sz es] /\ kOf C hs K ns e R acc [(t,.ref (.r (rt t 0)) 0 es.length),(rt t 0,.blk sz es)] [(rt t 0,true)]
theorem gP {g : Nat} {hs : Option (List Nat)} {K : Env -> Prop} {ns : List az} {t : Nat} {u : Tag (hs,K,ns)} {R : List Nat} {acc : List (List Nat × List Nat)} {ds : List D} {sz : Nat} {es : List (List D)} (h : C g ds .any [.own sz es]) (hk : doW C hs K ns ⟨⟩ e R acc [(t,.ref (.r (rt t 0)) 0 es.length),(rt t 0,.blk sz es)] [(rt t 0,true)]) : wU C g hs K ns t u e R acc ds:=⟨sz,es,h,hk⟩
@[simp] theorem Qk {f : Nat -> D} {b t : Nat} : fbE f b t=if t=b then .any else f t:=zR
theorem aa {g : Nat} {hs : Option (List Nat)} {K : Env -> Prop} {ns : List az} {dst : Option Nat} {u : Tag (hs,K,ns)} {R : List Nat} {acc : List (List Nat × List Nat)} {p : Bool} {ds : List D} (h : C g ds d []) (hf : isF d=true \/ p=true) (hk : dW C hs K ns dst ⟨⟩ e R acc d) : qF C g hs K ns dst u e R acc p ds:=⟨d,h,hf,hk⟩
def qn (S : Type) (G : S -> Env) (I : S -> Prop) (m : S -> Nat) (s : S) (Q : cr -> Env -> Prop) : cr -> Env -> Prop:=fun t e'=>match t with
    | .nrm=>∃ s',I s' /\ m s' < m s /\ kA e' (G s')
    | t=>Q t e'
theorem au {c : dJ} {u : Tag (c,Q)} (S : Type) (G : S -> Env) (I : S -> Prop) (m : S -> Nat) (s0 : S) (h0 : I s0) (hw : kA e (G s0))
  (h : ∀ s,I s -> wN C c (qn S G I m s Q) ⟨⟩ (G s)) : tZ C c Q u e:=⟨S,G,I,m,s0,h0,hw,h⟩
@[simp] theorem PL {u} : wN C .skip Q u e=bF Q ⟨⟩ .nrm e:=zR
@[simp] theorem Rc {hs keep ops u} : wN C (.reg false hs keep ops) Q u e=vL C (Bv keep Q) ops ⟨⟩ e:=zR
@[simp] theorem PI {hs keep ops u} : wN C (.reg true hs keep ops) Q u e=ti C hs (Bv keep Q) ops ⟨⟩ e []:=zR
@[simp] theorem Re {x y u} : wN C (.seq x y) Q u e=wN C x (BD C y Q) ⟨⟩ e:=zR
def brB (b : Bool) (X Y : Prop) (_ : Tag (X,Y)) : Prop:=(b=true -> X) /\ (b=false -> Y)
theorem ac {b : Bool} {X Y : Prop} {u} (h1 : b=true -> X) (h2 : b=false -> Y) : brB b X Y u:=⟨h1,h2⟩
@[simp] theorem Iz {X Y : Prop} {u} : brB true X Y u=X:=by simp [brB]
@[simp] theorem FN {X Y : Prop} {u} : brB false X Y u=Y:=by simp [brB]
def cdW (C : CC) (x y : dJ) (Q : cr -> Env -> Prop) (_ : Tag (x,y,Q)) (e : Env) (d : D) : Prop:=match d with
 | .bool b=>brB b (wN C x Q ⟨⟩ e) (wN C y Q ⟨⟩ e) ⟨⟩
 | .bb=>wN C x Q ⟨⟩ e /\ wN C y Q ⟨⟩ e
 | _=>False
@[simp] theorem PP {x y u} : cdW C x y Q u e .bb=(wN C x Q ⟨⟩ e /\ wN C y Q ⟨⟩ e):=zR
@[simp] theorem IA {x y u b} : cdW C x y Q u e (.bool b)=brB b (wN C x Q ⟨⟩ e) (wN C y Q ⟨⟩ e) ⟨⟩:=zR
@[simp] theorem PH {c x y u} : wN C (.cond c x y) Q u e=cdW C x y Q ⟨⟩ e (vd (ae e) c):=zR
@[simp] theorem L4 {id c u} : wN C (.block id c) Q u e=wN C c (pJ id Q) ⟨⟩ e:=zR
@[simp] theorem PK {c u} : wN C (.loop c) Q u e=tZ C c Q ⟨⟩ e:=zR
@[simp] theorem PJ {id u} : wN C (.exit id) Q u e=bF Q ⟨⟩ (.ext id) e:=zR
@[simp] theorem Rd {u} : wN C .ret Q u e=bF Q ⟨⟩ .ret e:=zR
@[simp] theorem AK {y u} : bF (BD C y Q) u .nrm e=wN C y Q ⟨⟩ e:=zR
@[simp] theorem AJ {y u i} : bF (BD C y Q) u (.ext i) e=bF Q ⟨⟩ (.ext i) e:=zR
@[simp] theorem AL {y u} : bF (BD C y Q) u .ret e=bF Q ⟨⟩ .ret e:=zR
@[simp] theorem xj {id u} : bF (pJ id Q) u .nrm e=bF Q ⟨⟩ .nrm e:=zR
@[simp] theorem xi {id u i} : bF (pJ id Q) u (.ext i) e=if i=id then bF Q ⟨⟩ .nrm e else bF Q ⟨⟩ (.ext i) e:=zR
@[simp] theorem xk {id u} : bF (pJ id Q) u .ret e=bF Q ⟨⟩ .ret e:=zR
@[simp] theorem AB {r u} : bF (fin r d) u .nrm e=gx r d e:=by simp [bF,fin]
@[simp] theorem AC {r u} : bF (fin r d) u .ret e=gx r d e:=by simp [bF,fin]
@[simp] theorem z6 {r d} {u : Tag (vp r d)} : bF (vp r d) u .nrm e=ki r d e:=by simp [bF,vp]
@[simp] theorem z7 {r d} {u : Tag (vp r d)} : bF (vp r d) u .ret e=ki r d e:=by simp [bF,vp]
@[simp] theorem zY {r sz es} {u : Tag (sI r sz es)} : bF (sI r sz es) u .nrm e=kj r sz es e:=by simp [bF,sI]
@[simp] theorem zZ {r sz es} {u : Tag (sI r sz es)} : bF (sI r sz es) u .ret e=kj r sz es e:=by simp [bF,sI]
@[simp] theorem Ab {r d sz es} {u : Tag (sJ r d sz es)} : bF (sJ r d sz es) u .nrm e=((0 < es.length /\ ae e 10015=.blk sz es) /\ gx r d ((10015,.any)::e)):=by simp [bF,sJ]
@[simp] theorem Ac {r d sz es} {u : Tag (sJ r d sz es)} : bF (sJ r d sz es) u .ret e=((0 < es.length /\ ae e 10015=.blk sz es) /\ gx r d ((10015,.any)::e)):=by simp [bF,sJ]
@[simp] theorem z8 {r sz es} {u : Tag (vq r sz es)} : bF (vq r sz es) u .nrm e=km r sz es e:=by simp [bF,vq]
@[simp] theorem Aa {r sz es} {u : Tag (vq r sz es)} : bF (vq r sz es) u .ret e=km r sz es e:=by simp [bF,vq]
@[simp] theorem zW {r d} {u : Tag (sH r d)} : bF (sH r d) u .nrm e=rT r d e:=by simp [bF,sH]
@[simp] theorem zX {r d} {u : Tag (sH r d)} : bF (sH r d) u .ret e=rT r d e:=by simp [bF,sH]
@[simp] theorem xn {S G I m s u} : bF (qn S G I m s Q) u .nrm e=∃ s',I s' /\ m s' < m s /\ kA e (G s'):=zR
@[simp] theorem xm {S G I m s u i} : bF (qn S G I m s Q) u (.ext i) e=bF Q ⟨⟩ (.ext i) e:=zR
@[simp] theorem xo {S G I m s u} : bF (qn S G I m s Q) u .ret e=bF Q ⟨⟩ .ret e:=zR
end
section
variable {C : CC} {Q : cr -> Env -> Prop} {e : Env} {K : Env -> Prop} {dst : Option Nat} {d : D} {hs : Option (List Nat)} {ns : List az} {R : List Nat} {acc : List (List Nat × List Nat)} {u : Tag (hs,K,ns)}
@[simp] theorem LG {keep u} : vL C (Bv keep Q) [] u e=bF Q ⟨⟩ .nrm (prune keep e):=zR
@[simp] theorem LF {h keep u} : ti C h (Bv keep Q) [] u e acc=(Jt h acc /\ bF Q ⟨⟩ .nrm (prune keep e)):=zR
@[simp] theorem HO {dst op ns u} : vL C K (⟨dst,op,none⟩::ns) u e=opW C none K ns dst op ⟨⟩ e [] []:=zR
@[simp] theorem HM {h dst op ns u} : ti C h K (⟨dst,op,none⟩::ns) u e acc=(chk (ae e) ⟨dst,op,none⟩=true /\ opW C (some h) K ns dst op ⟨⟩ e (i5 (ae e) ⟨dst,op,none⟩) acc):=zR
def oj (C : CC) (h : List Nat) (K : Env -> Prop) (ns : List az) (_ : Tag (h,K,ns)) (e : Env) (dst : Option Nat) (R : List Nat) (acc : List (List Nat × List Nat)) : Prop:=ig e dst fun e'=>jT C h K ns e' ((R,vn dst)::acc)
@[simp] theorem EX {h t ns u} : oj C h K ns u e (some t) R acc=ti C h K ns ⟨⟩ ((t,.tup [])::e) ((R,[4 * t])::acc):=zR
@[simp] theorem EW {h ns u} : oj C h K ns u e none R acc=ti C h K ns ⟨⟩ e ((R,[])::acc):=zR
def gdT (C : CC) (K : Env -> Prop) (ns : List az) (dst : Option Nat) (op : NOp) (s : Nat) (want : Bool) (_ : Tag (K,ns)) (e : Env) (d : D) : Prop:=match d with
 | .bool b=>(b=want -> opW C none K ns dst op ⟨⟩ ((s,.bool want)::e) [] []) /\ (b=!want -> dW C none K ns dst ⟨⟩ ((s,.bool !want)::e) [] [] (.tup []))
 | .tup []=>dW C none K ns dst ⟨⟩ e [] [] (.tup [])
 | _=>False
@[simp] theorem Je {op s b u} : gdT C K ns dst op s true u e (.bool b)=brB b (opW C none K ns dst op ⟨⟩ ((s,.bool true)::e) [] []) (dW C none K ns dst ⟨⟩ ((s,.bool false)::e) [] [] (.tup [])) ⟨⟩:=zR
@[simp] theorem Gy {op s b u} : gdT C K ns dst op s false u e (.bool b)=brB b (dW C none K ns dst ⟨⟩ ((s,.bool true)::e) [] [] (.tup [])) (opW C none K ns dst op ⟨⟩ ((s,.bool false)::e) [] []) ⟨⟩:=by
 simp only [gdT,brB,Bool.not_false];exact propext ⟨fun h=>⟨h.2,h.1⟩,fun h=>⟨h.2,h.1⟩⟩
@[simp] theorem Jd {op s want u} : gdT C K ns dst op s want u e (.tup [])=dW C none K ns dst ⟨⟩ e [] [] (.tup []):=zR
@[simp] theorem HP {dst op s want ns u} : vL C K (⟨dst,op,some (s,want)⟩::ns) u e=gdT C K ns dst op s want ⟨⟩ e (ae e s):=by
 simp only [vL,iQ,opW,sn,ig,gdT,dW,dC,kOf,CG,dU]
 cases ae e s <;> cases dst <;> (first | rfl | (rename_i x _ ;cases x <;> rfl) | (rename_i x;cases x <;> rfl))
def gdD (C : CC) (h : List Nat) (K : Env -> Prop) (ns : List az) (dst : Option Nat) (op : NOp) (want : Bool) (_ : Tag (K,ns)) (e : Env) (R : List Nat) (acc : List (List Nat × List Nat)) (d : D) : Prop:=match d with
 | .bool b=>(b=want -> opW C (some h) K ns dst op ⟨⟩ e R acc) /\ (b=!want -> oj C h K ns ⟨⟩ e dst R acc)
 | .tup []=>oj C h K ns ⟨⟩ e dst R acc
 | _=>False
@[simp] theorem Jc {h op b u} : gdD C h K ns dst op true u e R acc (.bool b)=brB b (opW C (some h) K ns dst op ⟨⟩ e R acc) (oj C h K ns ⟨⟩ e dst R acc) ⟨⟩:=zR
@[simp] theorem Gx {h op b u} : gdD C h K ns dst op false u e R acc (.bool b)=brB b (oj C h K ns ⟨⟩ e dst R acc) (opW C (some h) K ns dst op ⟨⟩ e R acc) ⟨⟩:=by
 simp only [gdD,brB,Bool.not_false];exact propext ⟨fun h=>⟨h.2,h.1⟩,fun h=>⟨h.2,h.1⟩⟩
@[simp] theorem Jb {h op want u} : gdD C h K ns dst op want u e R acc (.tup [])=oj C h K ns ⟨⟩ e dst R acc:=zR
@[simp] theorem HN {h dst op s want ns u} : ti C h K (⟨dst,op,some (s,want)⟩::ns) u e acc=(chk (ae e) ⟨dst,op,some (s,want)⟩=true /\ gdD C h K ns dst op want ⟨⟩ e (i5 (ae e) ⟨dst,op,some (s,want)⟩) acc (ae e s)):=zR
@[simp] theorem IJ {K ns u ws ks} : doW C none K ns u e R acc ws ks=vL C K ns ⟨⟩ (ws++dU ks e):=zR
@[simp] theorem II {h K ns u ws ks} : doW C (some h) K ns u e R acc ws ks=(wOk R ws ks=true /\ ti C h K ns ⟨⟩ (ws++dU ks e) ((R,wrK ws ks)::acc)):=zR
@[simp] theorem Mf {t} : dW C hs K ns (some t) u e R acc d=doW C hs K ns ⟨⟩ e R acc [(t,d)] []:=zR
@[simp] theorem Me : dW C hs K ns none u e R acc d=doW C hs K ns ⟨⟩ e R acc [] []:=zR
def aW (ks : List (Nat × Bool)) (d : D) : D:=if aL ks d then .any else d
theorem cn (ks : List (Nat × Bool)) (d : D) : aW ks d=bif aL ks d then .any else d:=by
 unfold aW;cases aL ks d <;> rfl
@[simp] theorem Hn : dU [] e=e:=zR
@[simp] theorem Hm {k ks} : dU (k::ks) []=[]:=zR
@[simp] theorem D8 {k ks s d} : dU (k::ks) ((s,d)::e)=(s,aW (k::ks) d)::dU (k::ks) e:=zR
@[simp] theorem G8 {ks} : aW ks .any=.any:=by simp [aW]
@[simp] theorem Hb {ks k n} : aW ks (.int k n)=.int k n:=by simp [aW,aL,dz,aN]
@[simp] theorem D5 {ks n} : aW ks (.bool n)=.bool n:=by simp [aW,aL,dz,aN]
@[simp] theorem Hj {ks n} : aW ks (.str n)=.str n:=by simp [aW,aL,dz,aN]
@[simp] theorem KI {ks} : aW ks .bb=.bb:=by simp [aW,aL,dz,aN]
@[simp] theorem D6 {ks} : aW ks .nilp=.nilp:=by simp [aW,aL,dz,aN]
@[simp] theorem D7 {ks} : aW ks .nils=.nils:=by simp [aW,aL,dz,aN]
@[simp] theorem G6 {ks n} : aW ks (.agg n)=.agg n:=by simp [aW,aL,dz,aN]
@[simp] theorem Hl {ks n} : aW ks (.tup n)=.tup n:=by simp [aW,aL,dz,aN]
@[simp] theorem KM {ks n} : aW ks (.sl n)=.sl n:=by simp [aW,aL,dz,aN]
@[simp] theorem He {ks n} : aW ks (.ptr n)=.ptr n:=by simp [aW,aL,dz,aN]
@[simp] theorem KJ {ks g n} : aW ks (.fn g n)=.fn g n:=by simp [aW,aL,dz,aN]
@[simp] theorem G9 {ks g n} : aW ks (.blk g n)=.blk g n:=by simp [aW,aL,dz,aN]
@[simp] theorem KL {ks kt et xs vs} : aW ks (.mp kt et xs vs)=.mp kt et xs vs:=by simp [aW,aL,dz,aN]
@[simp] theorem Hg {b all ks p k n} : aW ((b,all)::ks) (.ref p k n)=if ce b all p then .any else aW ks (.ref p k n):=by
 have h : aW ((b,all)::ks) (.ref p k n)=bif (ce b all p || aL ks (.ref p k n)) then .any else .ref p k n:=cn ..
 rw [h,cn]
 cases ce b all p <;> rfl
@[simp] theorem G5 {b all ks p k n} : aW ((b,all)::ks) (.adr p k n)=if ce b all p then .any else aW ks (.adr p k n):=by
 have h : aW ((b,all)::ks) (.adr p k n)=bif (ce b all p || aL ks (.adr p k n)) then .any else .adr p k n:=cn ..
 rw [h,cn]
 cases ce b all p <;> rfl
@[simp] theorem G7 {b all ks n} : aW ((b,all)::ks) (.agx n)=if n.any (aN b all) then .any else aW ks (.agx n):=by
 have h : aW ((b,all)::ks) (.agx n)=bif (n.any (aN b all) || aL ks (.agx n)) then .any else .agx n:=cn ..
 rw [h,cn]
 cases n.any (aN b all) <;> rfl
@[simp] theorem Ha {b all ks g n} : aW ((b,all)::ks) (.fnx g n)=if n.any (aN b all) then .any else aW ks (.fnx g n):=by
 have h : aW ((b,all)::ks) (.fnx g n)=bif (n.any (aN b all) || aL ks (.fnx g n)) then .any else .fnx g n:=cn ..
 rw [h,cn]
 cases n.any (aN b all) <;> rfl
@[simp] theorem Hd {d} : aW [] d=d:=by simp [aW,aL]
@[simp] theorem Hi {ks b es} : aW ks (slx b es)=slx b es:=by cases b <;> cases es <;> simp [slx]
def jP (C : CC) (hs : Option (List Nat)) (K : Env -> Prop) (ns : List az) (dst : Option Nat) (_ : Tag (hs,K,ns)) (e : Env) (R : List Nat) (acc : List (List Nat × List Nat)) (sz : Nat) (es : List (List D)) (i : Nat) : Prop :=
 ∃ c,es[i]? = some c /\ c.length=sz /\ dC dst (kOf C hs K ns e R acc) (.ptr c)
@[simp] theorem Jr {α : Type} [Inhabited α] {sz : Nat} {xs : List α} {f : α -> List D} {i : Nat} : jP C hs K ns dst u e R acc sz (xs.map f) i=(i < xs.length /\ (f xs[i]!).length=sz /\ dW C hs K ns dst ⟨⟩ e R acc (.ptr (f xs[i]!))):=by
 apply propext
 unfold jP dW
 constructor
 ·rintro ⟨c,h,h1,h2⟩
  rw [x0B,x0m] at h
  obtain ⟨x,hx,rfl⟩:=h
  obtain ⟨hi,rfl⟩:=x0c.1 hx
  rw [x0f xs i hi]
  exact ⟨hi,h1,h2⟩
 ·rintro ⟨hi,h1,h2⟩
  rw [x0f xs i hi] at h1 h2
  exact ⟨_,by rw [x0B,x0e hi];rfl,h1,h2⟩
def Du (C : CC) (hs : Option (List Nat)) (K : Env -> Prop) (ns : List az) (dst : Option Nat) (_ : Tag (hs,K,ns)) (e : Env) (R : List Nat) (acc : List (List Nat × List Nat)) (s : List UInt8) (i : Nat) : Prop :=
 ∃ b,s[i]? = some b /\ dC dst (kOf C hs K ns e R acc) (.int .u8 b.toNat)
@[simp] theorem Md {s : List UInt8} {i : Nat} : Du C hs K ns dst u e R acc s i=(i < s.length /\ dW C hs K ns dst ⟨⟩ e R acc (.int .u8 (s[i]!).toNat)):=by
 apply propext
 unfold Du dW
 constructor
 ·rintro ⟨b,h,h2⟩
  obtain ⟨hi,rfl⟩:=x0c.1 h
  rw [x0f s i hi]
  exact ⟨hi,h2⟩
 ·rintro ⟨hi,h2⟩
  rw [x0f s i hi] at h2
  exact ⟨_,x0e hi,h2⟩
def lY (C : CC) (hs : Option (List Nat)) (K : Env -> Prop) (ns : List az) (dst : Option Nat) (_ : Tag (hs,K,ns)) (e : Env) (R : List Nat) (acc : List (List Nat × List Nat)) (n : Nat) (ag : Bool) (p : Pa) (es : List (List D)) (i off : Nat) : Prop :=
 ∃ r,es[i]? = some r /\ off + n <= r.length /\ match ag with
    | true=>(((r.drop off).take n).all isV=true -> dC dst (kOf C hs K ns e R acc) (.agg ((r.drop off).take n))) /\
      (((r.drop off).take n).all isV=false -> dC dst (kOf C hs K ns e R acc) (.agx (((r.drop off).take n).mapIdx fun j c=>ldc p i (off + j) c)))
    | false=>dC dst (kOf C hs K ns e R acc) (ldc p i off ((r.drop off).headD .any))
theorem uv {n : Nat} {ag : Bool} {p : Pa} {es : List (List D)} {i off : Nat} {r : List D} (hr : es[i]? = some r) (hl : off + n <= r.length) (hk : match ag with
    | true=>(((r.drop off).take n).all isV=true -> dW C hs K ns dst ⟨⟩ e R acc (.agg ((r.drop off).take n))) /\
      (((r.drop off).take n).all isV=false -> dW C hs K ns dst ⟨⟩ e R acc (.agx (((r.drop off).take n).mapIdx fun j c=>ldc p i (off + j) c)))
    | false=>dW C hs K ns dst ⟨⟩ e R acc (ldc p i off ((r.drop off).headD .any))) : lY C hs K ns dst u e R acc n ag p es i off:=by
 refine ⟨r,hr,hl,?_⟩
 cases ag <;> exact hk
@[simp] theorem LO {n : Nat} {ag : Bool} {p : Pa} {r : List D} {off : Nat} : lY C hs K ns dst u e R acc n ag p [r] 0 off=(off + n <= r.length /\ match ag with
    | true=>(((r.drop off).take n).all isV=true -> dW C hs K ns dst ⟨⟩ e R acc (.agg ((r.drop off).take n))) /\
      (((r.drop off).take n).all isV=false -> dW C hs K ns dst ⟨⟩ e R acc (.agx (((r.drop off).take n).mapIdx fun j c=>ldc p 0 (off + j) c)))
    | false=>dW C hs K ns dst ⟨⟩ e R acc (ldc p 0 off ((r.drop off).headD .any))):=by
 apply propext
 constructor
 ·rintro ⟨r',h1,h2,h3⟩
  simp at h1;subst h1
  refine ⟨h2,?_⟩
  cases ag <;> exact h3
 ·rintro ⟨h2,h3⟩
  refine ⟨r,rfl,h2,?_⟩
  cases ag <;> exact h3
end
section
variable {C : CC} {Q : cr -> Env -> Prop} {e : Env} {K : Env -> Prop} {dst : Option Nat} {hs : Option (List Nat)} {ns : List az} {R : List Nat} {acc : List (List Nat × List Nat)} {u : Tag (hs,K,ns)}
@[simp] theorem PA {x v1} : opW C hs K ns dst (.mov x) v1 e R acc=(isS (vd (ae e) x)=true /\ dW C hs K ns dst ⟨⟩ e R acc (vd (ae e) x)):=zR
@[simp] theorem PD {x v1} : opW C hs K ns dst (.nck x) v1 e R acc=(match (generalizing:=false) vd (ae e) x with
  | .ptr ds=>dW C hs K ns dst ⟨⟩ e R acc (.ptr ds)
  | .adr p i off=>dW C hs K ns dst ⟨⟩ e R acc (.adr p i off)
  | .ptx ds=>dW C hs K ns dst ⟨⟩ e R acc (.ptx ds)
  | _=>False):=zR
@[simp] theorem LE {c a b v1} : opW C hs K ns dst (.pick c a b) v1 e R acc=(match (generalizing:=false) vd (ae e) c with
  | .bool v=>(v=true -> isS (vd (ae e) a)=true /\ dW C hs K ns dst ⟨⟩ e R acc (vd (ae e) a)) /\ (v=false -> isS (vd (ae e) b)=true /\ dW C hs K ns dst ⟨⟩ e R acc (vd (ae e) b))
  | _=>False):=zR
@[simp] theorem Po {op x y v1} : opW C hs K ns dst (.bin op x y) v1 e R acc=(match (generalizing:=false) vd (ae e) x,vd (ae e) y with
  | .int k a,.int k' b=>match (generalizing:=false) op with
   | .add=>k=k' /\ dW C hs K ns dst ⟨⟩ e R acc (.int k (k.wrap (a + b)))
   | .sub=>k=k' /\ dW C hs K ns dst ⟨⟩ e R acc (.int k (k.wrap (a - b)))
   | .mul=>k=k' /\ dW C hs K ns dst ⟨⟩ e R acc (.int k (k.wrap (a * b)))
   | .quo=>k=k' /\ b ≠ 0 /\ dW C hs K ns dst ⟨⟩ e R acc (.int k (k.wrap (a.tdiv b)))
   | .rem=>k=k' /\ b ≠ 0 /\ dW C hs K ns dst ⟨⟩ e R acc (.int k (a.tmod b))
   | .and=>k=k' /\ dW C hs K ns dst ⟨⟩ e R acc (.int k (bits .and k a b))
   | .or=>k=k' /\ dW C hs K ns dst ⟨⟩ e R acc (.int k (bits .or k a b))
   | .xor=>k=k' /\ dW C hs K ns dst ⟨⟩ e R acc (.int k (bits .xor k a b))
   | .andNot=>k=k' /\ dW C hs K ns dst ⟨⟩ e R acc (.int k (bits .andNot k a b))
   | .shl=>0 <= b /\ dW C hs K ns dst ⟨⟩ e R acc (.int k (k.wrap (a * 2 ^ (min b.toNat k.bits))))
   | .shr=>0 <= b /\ dW C hs K ns dst ⟨⟩ e R acc (.int k (a.fdiv (2 ^ (min b.toNat k.bits))))
   | .eql=>k=k' /\ dW C hs K ns dst ⟨⟩ e R acc (.bool (decide (a=b)))
   | .neq=>k=k' /\ dW C hs K ns dst ⟨⟩ e R acc (.bool (!decide (a=b)))
   | .lss=>k=k' /\ dW C hs K ns dst ⟨⟩ e R acc (.bool (decide (a < b)))
   | .leq=>k=k' /\ dW C hs K ns dst ⟨⟩ e R acc (.bool (decide (a <= b)))
   | .gtr=>k=k' /\ dW C hs K ns dst ⟨⟩ e R acc (.bool (decide (b < a)))
   | .geq=>k=k' /\ dW C hs K ns dst ⟨⟩ e R acc (.bool (decide (b <= a)))
  | .str a,.str b=>match (generalizing:=false) op with
   | .eql=>dW C hs K ns dst ⟨⟩ e R acc (.bool (decide (a=b)))
   | .neq=>dW C hs K ns dst ⟨⟩ e R acc (.bool (!decide (a=b)))
   | .add=>((a++b).length : Int) <= 9223372036854775807 /\ dW C hs K ns dst ⟨⟩ e R acc (.str (a++b))
   | .lss=>dW C hs K ns dst ⟨⟩ e R acc (.bool (Op.bytesLess a b))
   | .leq=>dW C hs K ns dst ⟨⟩ e R acc (.bool (Op.bytesLess a b || a == b))
   | .gtr=>dW C hs K ns dst ⟨⟩ e R acc (.bool !(Op.bytesLess a b || a == b))
   | .geq=>dW C hs K ns dst ⟨⟩ e R acc (.bool !(Op.bytesLess a b))
   | _=>False
  | _,_=>False):=zR
@[simp] theorem QV {op x v1} : opW C hs K ns dst (.un op x) v1 e R acc=(match (generalizing:=false) vd (ae e) x with
  | .bool b=>match (generalizing:=false) op with
   | .not=>dW C hs K ns dst ⟨⟩ e R acc (.bool (!b))
   | _=>False
  | .int k n=>match (generalizing:=false) op with
   | .neg=>dW C hs K ns dst ⟨⟩ e R acc (.int k (k.wrap (0 - n)))
   | _=>False
  | _=>False):=zR
@[simp] theorem Lw {k x v1} : opW C hs K ns dst (.conv k x) v1 e R acc=(match (generalizing:=false) vd (ae e) x with
  | .int _ n=>dW C hs K ns dst ⟨⟩ e R acc (.int k (k.wrap n))
  | _=>False):=zR
@[simp] theorem Pn {neg ks x y v1} : opW C hs K ns dst (.beq neg ks x y) v1 e R acc=(match (generalizing:=false) vd (ae e) x,vd (ae e) y with
  | .bool a,.bool b=>ks=[] /\ dW C hs K ns dst ⟨⟩ e R acc (.bool ((a == b) != neg))
  | .agg a,.agg b=>ks ≠ [] /\ match (generalizing:=false) ct ks a b with
   | some r=>dW C hs K ns dst ⟨⟩ e R acc (.bool (r != neg))
   | none=>False
  | .nils,.nils=>ks=[9] /\ dW C hs K ns dst ⟨⟩ e R acc (.bool (!neg))
  | .sl es,.nils=>ks=[9] /\ (0 < es.length -> dW C hs K ns dst ⟨⟩ e R acc (.bool neg)) /\ (es.length=0 -> dW C hs K ns dst ⟨⟩ e R acc .bb)
  | .nilp,.nilp=>ks=[8] /\ dW C hs K ns dst ⟨⟩ e R acc (.bool (!neg))
  | .ptr _,.nilp=>ks=[8] /\ dW C hs K ns dst ⟨⟩ e R acc (.bool neg)
  | _,_=>False):=zR
@[simp] theorem LA {len sz ag x i v1} : opW C hs K ns dst (.idxA len sz ag x i) v1 e R acc=(match (generalizing:=false) vd (ae e) x,vd (ae e) i with
  | .agg ds,.int _ j=>0 <= j /\ j < len /\ j.toNat * sz + sz <= ds.length /\ dW C hs K ns dst ⟨⟩ e R acc (oF ag sz (ds.drop (j.toNat * sz)))
  | .agx ds,.int _ j=>0 <= j /\ j < len /\ j.toNat * sz + sz <= ds.length /\ match (generalizing:=false) ag with
   | true=>dW C hs K ns dst ⟨⟩ e R acc (.agx ((ds.drop (j.toNat * sz)).take sz))
   | false=>dW C hs K ns dst ⟨⟩ e R acc ((ds.drop (j.toNat * sz)).headD .any)
  | _,_=>False):=zR
@[simp] theorem LB {x i v1} : opW C hs K ns dst (.idxS x i) v1 e R acc=(match (generalizing:=false) vd (ae e) x,vd (ae e) i with
  | .str s,.int _ j=>0 <= j /\ Du C hs K ns dst ⟨⟩ e R acc s j.toNat
  | _,_=>False):=zR
@[simp] theorem Pt {i x v1} : opW C hs K ns dst (.ext i x) v1 e R acc=(match (generalizing:=false) vd (ae e) x with
  | .tup ds=>∃ d,ds[i]? = some d /\ dW C hs K ns dst ⟨⟩ e R acc d
  | .tpx ds=>∃ d,ds[i]? = some d /\ dW C hs K ns dst ⟨⟩ e R acc d
  | _=>False):=zR
@[simp] theorem Pu {off x v1} : opW C hs K ns dst (.fad off x) v1 e R acc=(match (generalizing:=false) vd (ae e) x with
  | .adr p i o=>dW C hs K ns dst ⟨⟩ e R acc (.adr p i (o + off))
  | .ptr ds=>dW C hs K ns dst ⟨⟩ e R acc (.ptr (ds.drop off))
  | .ptx ds=>dW C hs K ns dst ⟨⟩ e R acc (.ptx (ds.drop off))
  | _=>False):=zR
@[simp] theorem Lx {len sz x i v1} : opW C hs K ns dst (.iadA len sz x i) v1 e R acc=(match (generalizing:=false) vd (ae e) x,vd (ae e) i with
  | .adr p r o,.int _ j=>0 <= j /\ j < len /\ dW C hs K ns dst ⟨⟩ e R acc (.adr p r (o + j.toNat * sz))
  | .ptr ds,.int _ j=>0 <= j /\ j < len /\ dW C hs K ns dst ⟨⟩ e R acc (.ptr (ds.drop (j.toNat * sz)))
  | _,_=>False):=zR
@[simp] theorem QQ {n ag x v1} : opW C hs K ns dst (.ld n ag x) v1 e R acc=(match (generalizing:=false) vd (ae e) x with
  | .adr p i off=>match (generalizing:=false) a8 (ae e) p with
   | some (_,es)=>lY C hs K ns dst ⟨⟩ e R acc n ag p es i off
   | none=>False
  | .ptr ds=>n <= ds.length /\ dW C hs K ns dst ⟨⟩ e R acc (oF ag n ds)
  | .ptx ds=>n <= ds.length /\ match (generalizing:=false) ag with
   | true=>((ds.take n).all isV=true -> dW C hs K ns dst ⟨⟩ e R acc (.agg (ds.take n))) /\ ((ds.take n).all isV=false -> dW C hs K ns dst ⟨⟩ e R acc (.agx (ds.take n)))
   | false=>0 < n /\ dW C hs K ns dst ⟨⟩ e R acc (ds.headD .any)
  | _=>False):=zR
@[simp] theorem Pp {zs parts v1} : opW C hs K ns dst (.bld zs parts) v1 e R acc=((∀ p ∈ parts,isS (vd (ae e) p.2.2)=true /\ p.1 + p.2.1 <= zs.length /\ match (generalizing:=false) vd (ae e) p.2.2 with
    | .agg ds=>ds.length=p.2.1
    | .agx ds=>ds.length=p.2.1
    | .any=>False
    | .tpx _=>False
    | .ptx _=>False
    | .rfx _ _ _=>False
    | .fnx _ _=>False
    | _=>p.2.1=1) /\
   ((parts.all fun p=>isV (vd (ae e) p.2.2))=true -> dW C hs K ns dst ⟨⟩ e R acc (.agg (i6 zs (parts.map fun p=>(p.1,p.2.1,vd (ae e) p.2.2))))) /\
   ((parts.all fun p=>isV (vd (ae e) p.2.2))=false -> dW C hs K ns dst ⟨⟩ e R acc (.agx (i6 zs (parts.map fun p=>(p.1,p.2.1,cf (vd (ae e) p.2.2))))))):=zR
@[simp] theorem LC {x v1} : opW C hs K ns dst (.lens x) v1 e R acc=(match (generalizing:=false) vd (ae e) x with
  | .str s=>dW C hs K ns dst ⟨⟩ e R acc (.int .i64 s.length)
  | _=>False):=zR
@[simp] theorem QR {g xs v1} : opW C hs K ns dst (.mk g xs) v1 e R acc=((∀ x ∈ xs,isP (vd (ae e) x)=true) /\ ((xs.all fun x=>isV (vd (ae e) x))=true -> dW C hs K ns dst ⟨⟩ e R acc (.fn g (xs.map (vd (ae e))))) /\ ((xs.all fun x=>isV (vd (ae e) x))=false -> dW C hs K ns dst ⟨⟩ e R acc (.fnx g (xs.map (vd (ae e)))))):=zR
@[simp] theorem QS {x y v1} : opW C hs K ns dst (.mn x y) v1 e R acc=(match (generalizing:=false) vd (ae e) x,vd (ae e) y with
  | .int k a,.int k' b=>k=k' /\ dW C hs K ns dst ⟨⟩ e R acc (.int k (if b < a then b else a))
  | _,_=>False):=zR
@[simp] theorem QT {x y v1} : opW C hs K ns dst (.mx x y) v1 e R acc=(match (generalizing:=false) vd (ae e) x,vd (ae e) y with
  | .int k a,.int k' b=>k=k' /\ dW C hs K ns dst ⟨⟩ e R acc (.int k (if a < b then b else a))
  | _,_=>False):=zR
@[simp] theorem HE {x y c v1} : opW C hs K ns dst (.add64 x y c) v1 e R acc=(match (generalizing:=false) vd (ae e) x,vd (ae e) y,vd (ae e) c with
  | .int .u64 a,.int .u64 b,.int .u64 k=>0 <= a /\ a < 18446744073709551616 /\ 0 <= b /\ b < 18446744073709551616 /\ 0 <= k /\ k <= 1 /\
    dW C hs K ns dst ⟨⟩ e R acc (.tup [.int .u64 ((a + b + k) % 18446744073709551616),.int .u64 ((a + b + k) / 18446744073709551616)])
  | _,_,_=>False):=zR
@[simp] theorem HL {x y c v1} : opW C hs K ns dst (.sub64 x y c) v1 e R acc=(match (generalizing:=false) vd (ae e) x,vd (ae e) y,vd (ae e) c with
  | .int .u64 a,.int .u64 b,.int .u64 k=>0 <= a /\ a < 18446744073709551616 /\ 0 <= b /\ b < 18446744073709551616 /\ 0 <= k /\ k <= 1 /\
    dW C hs K ns dst ⟨⟩ e R acc (.tup [.int .u64 ((a - b - k) % 18446744073709551616),.int .u64 (if a < b + k then 1 else 0)])
  | _,_,_=>False):=zR
@[simp] theorem LD {sz v1} : opW C hs K ns dst (.nilo sz) v1 e R acc=(match (generalizing:=false) dst with
  | some t=>0 < sz /\ doW C hs K ns ⟨⟩ e R acc [(t,.ref (.r (rt t 0)) 0 0),(rt t 0,.blk sz [])] [(rt t 0,true)]
  | none=>False):=zR
@[simp] theorem Pr {x t v1} : opW C hs K ns (some t) (.box [] x) v1 e R acc=gM (ae e) (vd (ae e) x) [] (fun cs bs=>bs.contains (rt t 0)=false /\ doW C hs K ns ⟨⟩ e R acc ((t,.adr (.r (rt t 0)) 0 0)::(rt t 0,.blk cs.length [cs])::cl bs) [(rt t 0,true)]) ⟨⟩:=zR
@[simp] theorem Pk {zs v1} : opW C hs K ns dst (.alc zs) v1 e R acc=(match (generalizing:=false) dst with
  | some t=>doW C hs K ns ⟨⟩ e R acc [(t,.adr (.r (rt t 0)) 0 0),(rt t 0,.blk zs.length [zs])] [(rt t 0,true)]
  | none=>False):=zR
@[simp] theorem Pq {sz len zs parts t v1} : opW C hs K ns (some t) (.bls sz len zs [] parts) v1 e R acc=qc (ae e) sz parts (List.replicate len zs) [] (fun es bs=>bL bs=true /\ bs.contains (rt t 0)=false /\ doW C hs K ns ⟨⟩ e R acc ((t,.ref (.r (rt t 0)) 0 len)::(rt t 0,.blk sz es)::cl bs) [(rt t 0,true)]) ⟨⟩:=zR
@[simp] theorem Pz {sz by_ zs n c v1} : opW C hs K ns dst (.mks sz by_ zs n c) v1 e R acc=(match (generalizing:=false) dst with
  | some t=>match (generalizing:=false) vd (ae e) n,vd (ae e) c with
   | .int _ n,.int _ c=>0 <= n /\ n <= c /\ c * by_ <= 140737488355328 /\ doW C hs K ns ⟨⟩ e R acc [(t,.ref (.r (rt t 0)) 0 n.toNat),(rt t 0,.blk sz (List.replicate c.toNat zs))] [(rt t 0,true)]
   | _,_=>False
  | none=>False):=zR
def stM (C : CC) (hs : Option (List Nat)) (K : Env -> Prop) (ns : List az) (_ : Tag (hs,K,ns)) (e : Env) (R : List Nat) (acc : List (List Nat × List Nat)) (n : Nat) (v : D) (cs : List D) (bs : List Nat) (a : D) : Prop:=match a with
 | .adr (.r b) i off=>bs.contains b=false /\ fF (ae e b) (fun sz es=>iN es[i]? (fun r=>off + n <= r.length /\ doW C hs K ns ⟨⟩ e R acc ((b,.blk sz (br es i off n cs))::cl bs) (stK v [] b)) ⟨⟩) ⟨⟩
 | .adr (.n b i0 o0) i off=>bs=[] /\ (∀ c ∈ cs,aK c=true) /\ fF (ae e b) (fun sz0 es0=>iN es0[i0]? (fun row0=>lW row0[o0]? (fun sz es=>iN es[i]? (fun r=>off + n <= r.length /\ doW C hs K ns ⟨⟩ e R acc [(b,.blk sz0 (br es0 i0 o0 1 [.own sz (br es i off n cs)]))] []) ⟨⟩) ⟨⟩) ⟨⟩) ⟨⟩
 | _=>False
@[simp] theorem Ro {n v cs bs b i off} : stM C hs K ns u e R acc n v cs bs (.adr (.r b) i off)=(bs.contains b=false /\ fF (ae e b) (fun sz es=>iN es[i]? (fun r=>off + n <= r.length /\ doW C hs K ns ⟨⟩ e R acc ((b,.blk sz (br es i off n cs))::cl bs) (stK v [] b)) ⟨⟩) ⟨⟩):=zR
@[simp] theorem Rn {n v cs bs b i0 o0 i off} : stM C hs K ns u e R acc n v cs bs (.adr (.n b i0 o0) i off)=(bs=[] /\ (∀ c ∈ cs,aK c=true) /\ fF (ae e b) (fun sz0 es0=>iN es0[i0]? (fun row0=>lW row0[o0]? (fun sz es=>iN es[i]? (fun r=>off + n <= r.length /\ doW C hs K ns ⟨⟩ e R acc [(b,.blk sz0 (br es0 i0 o0 1 [.own sz (br es i off n cs)]))] []) ⟨⟩) ⟨⟩) ⟨⟩) ⟨⟩):=zR
@[simp] theorem QU {n a v v1} : opW C hs K ns dst (.st n [] a v) v1 e R acc=(dst=none /\ gM (ae e) (vd (ae e) v) [] (fun cs bs=>cs.length=n /\ stM C hs K ns ⟨⟩ e R acc n (vd (ae e) v) cs bs (vd (ae e) a)) ⟨⟩):=by
 show (dst=none /\ fD (ae e) (vd (ae e) v) [] _)=(dst=none /\ fD (ae e) (vd (ae e) v) [] _)
 congr 1
 congr 1
 funext cs bs
 cases vd (ae e) a <;> try rfl
 rename_i p i off
 cases p with
 | r b =>
  simp only [stM,fF,iF]
  cases ae e b <;> rfl
 | n b i0 o0 =>
  simp only [stM,fF,iF,kW]
  cases ae e b <;> rfl
def u2 (C : CC) (hs : Option (List Nat)) (K : Env -> Prop) (ns : List az) (_ : Tag (hs,K,ns)) (e : Env) (R : List Nat) (acc : List (List Nat × List Nat)) (t sz by_ : Nat) (rowsY : List (List D)) (bs : List Nat) (x : D) : Prop:=match x with
 | .nils=>rowsY.length * by_ <= 140737488355328 /\ doW C hs K ns ⟨⟩ e R acc ((t,.ref (.r (rt t 0)) 0 rowsY.length)::(rt t 0,.blk sz rowsY)::cl bs) [(rt t 0,true)]
 | .ref (.r c) k n=>c ≠ rt t 0 /\ bs.contains c=false /\ fF (ae e c) (fun sz' es=>sz'=sz /\ k + n <= es.length /\ (n + rowsY.length) * by_ <= 140737488355328 /\
      doW C hs K ns ⟨⟩ e R acc ((t,.ref (.r (rt t 0)) 0 (n + rowsY.length))::(rt t 0,.blk sz ((es.drop k).take n++rowsY))::(c,.any)::cl bs) [(rt t 0,true)]) ⟨⟩
 | .ref (.n c i o) k n=>c ≠ rt t 0 /\ bs.contains c=false /\ fF (ae e c) (fun sz0 es0=>iN es0[i]? (fun row0=>lW row0[o]? (fun sz' es=>sz'=sz /\ k + n <= es.length /\ (n + rowsY.length) * by_ <= 140737488355328 /\
      doW C hs K ns ⟨⟩ e R acc ((t,.ref (.r (rt t 0)) 0 (n + rowsY.length))::(rt t 0,.blk sz ((es.drop k).take n++rowsY))::(c,.blk sz0 (br es0 i o 1 [.any]))::cl bs) [(rt t 0,true)]) ⟨⟩) ⟨⟩) ⟨⟩
 | _=>False
@[simp] theorem FE {t sz by_ rowsY bs} : u2 C hs K ns u e R acc t sz by_ rowsY bs .nils=(rowsY.length * by_ <= 140737488355328 /\ doW C hs K ns ⟨⟩ e R acc ((t,.ref (.r (rt t 0)) 0 rowsY.length)::(rt t 0,.blk sz rowsY)::cl bs) [(rt t 0,true)]):=zR
@[simp] theorem PO {t sz by_ rowsY bs c k n} : u2 C hs K ns u e R acc t sz by_ rowsY bs (.ref (.r c) k n)=(c ≠ rt t 0 /\ bs.contains c=false /\ fF (ae e c) (fun sz' es=>sz'=sz /\ k + n <= es.length /\ (n + rowsY.length) * by_ <= 140737488355328 /\
      doW C hs K ns ⟨⟩ e R acc ((t,.ref (.r (rt t 0)) 0 (n + rowsY.length))::(rt t 0,.blk sz ((es.drop k).take n++rowsY))::(c,.any)::cl bs) [(rt t 0,true)]) ⟨⟩):=zR
@[simp] theorem PN {t sz by_ rowsY bs c i o k n} : u2 C hs K ns u e R acc t sz by_ rowsY bs (.ref (.n c i o) k n)=(c ≠ rt t 0 /\ bs.contains c=false /\ fF (ae e c) (fun sz0 es0=>iN es0[i]? (fun row0=>lW row0[o]? (fun sz' es=>sz'=sz /\ k + n <= es.length /\ (n + rowsY.length) * by_ <= 140737488355328 /\
      doW C hs K ns ⟨⟩ e R acc ((t,.ref (.r (rt t 0)) 0 (n + rowsY.length))::(rt t 0,.blk sz ((es.drop k).take n++rowsY))::(c,.blk sz0 (br es0 i o 1 [.any]))::cl bs) [(rt t 0,true)]) ⟨⟩) ⟨⟩) ⟨⟩):=zR
@[simp] theorem Pl {sz by_ mv x y t v1} : opW C hs K ns (some t) (.app sz by_ mv x y) v1 e R acc=jl (ae e) mv (vd (ae e) y) sz (fun rowsY bs=>bs.contains (rt t 0)=false /\ u2 C hs K ns ⟨⟩ e R acc t sz by_ rowsY bs (vd (ae e) x)) ⟨⟩:=by
 unfold opW jl
 simp only [aJ]
 congr 1
 funext rowsY bs
 congr 1
 cases vd (ae e) x <;> try rfl
 rename_i p k n
 cases p with
 | r c =>
  simp only [u2,fF]
  cases ae e c <;> rfl
 | n c i o =>
  simp only [u2,fF,iF,kW]
  cases hl : ae e c <;> try rfl
  rename_i sz0 es0
  refine congrArg _ (congrArg _ (propext ⟨?_,?_⟩))
  ·rintro ⟨row0,h1,es,h2,h3⟩
   exact ⟨row0,h1,sz,es,h2,rfl,h3⟩
  ·rintro ⟨row0,h1,sz',es,h2,rfl,h3⟩
   exact ⟨row0,h1,es,h2,h3⟩
def Ak (n : Nat) (d : D) : Prop:=match d with
 | .blk _ es=>es.length=n /\ ∀ e ∈ es,∀ c ∈ e,bG c=true
 | _=>False
def qC (f : Nat -> D) (b : Nat) (d : D) : Prop:=match d with
 | .ref (.r c) k n=>k=0 /\ c ≠ b /\ Ak n (f c)
 | d=>isV d=true
def Be (d : D) : D:=match d with
 | .blk sz es=>.own sz es
 | _=>.any
def tF (f : Nat -> D) (d : D) : D:=match d with
 | .ref (.r c) _ _=>Be (f c)
 | d=>d
@[simp] theorem Ik {n sz es} : Ak n (.blk sz es)=(es.length=n /\ ∀ e ∈ es,∀ c ∈ e,bG c=true):=zR
@[simp] theorem LH {sz es} : Be (.blk sz es)=.own sz es:=zR
@[simp] theorem L8 {f : Nat -> D} {b : Nat} {x : Opd} : mG f b x=qC f b (vd f x):=by
 unfold mG qC Ak
 cases vd f x <;> rfl
@[simp] theorem L9 {f : Nat -> D} {x : Opd} : lA f x=tF f (vd f x):=by
 unfold lA tF Be
 cases vd f x <;> rfl
@[simp] theorem FG {f : Nat -> D} {b c k n} : qC f b (.ref (.r c) k n)=(k=0 /\ c ≠ b /\ Ak n (f c)):=zR
@[simp] theorem FI {f : Nat -> D} {c k n} : tF f (.ref (.r c) k n)=Be (f c):=zR
@[simp] theorem FF {f : Nat -> D} {b k n} : qC f b (.int k n)=True:=by simp [qC,isV]
@[simp] theorem FH {f : Nat -> D} {k n} : tF f (.int k n)=.int k n:=zR
def xe (C : CC) (g : Nat) (hs : Option (List Nat)) (K : Env -> Prop) (ns : List az) (t : Nat) (_ : Tag (hs,K,ns)) (e : Env) (R : List Nat) (acc : List (List Nat × List Nat)) (sz : Nat) (W : List (List D)) (ds : List D) (q : Nat × D) : Prop :=
 ∃ es' : List (List D),(∀ e ∈ es',e.length=sz /\ ∀ c ∈ e,bG c=true) /\ C g (.own sz W::ds) .any [.own sz es',.nils,.nils] /\ doW C hs K ns ⟨⟩ e R acc [(t,.ref (.r (rt t 0)) 0 es'.length),(rt t 0,.blk sz es'),q] [(rt t 0,true)]
theorem tK {g : Nat} {hs : Option (List Nat)} {K : Env -> Prop} {ns : List az} {t : Nat} {u : Tag (hs,K,ns)} {e : Env} {R : List Nat} {acc : List (List Nat × List Nat)} {sz : Nat} {W es' : List (List D)} {ds : List D} {q : Nat × D} (h : C g (.own sz W::ds) .any [.own sz es',.nils,.nils]) (hu : ∀ e ∈ es',e.length=sz /\ ∀ c ∈ e,bG c=true)
  (hk : doW C hs K ns ⟨⟩ e R acc [(t,.ref (.r (rt t 0)) 0 es'.length),(rt t 0,.blk sz es'),q] [(rt t 0,true)]) : xe C g hs K ns t u e R acc sz W ds q:=⟨es',hu,h,hk⟩
def xd (C : CC) (g : Nat) (hs : Option (List Nat)) (K : Env -> Prop) (ns : List az) (t : Nat) (_ : Tag (hs,K,ns)) (e : Env) (R : List Nat) (acc : List (List Nat × List Nat)) (xs : List Opd) (d : D) : Prop:=match d with
 | .ref (.r b) k n=>fF (ae e b) (fun sz es=>k + n <= es.length /\ b ≠ rt t 0 /\ 0 < sz /\ (∀ e ∈ (es.drop k).take n,∀ c ∈ e,bG c=true) /\ (∀ x ∈ xs,mG (ae e) b x) /\ xe C g hs K ns t ⟨⟩ e R acc sz ((es.drop k).take n) (xs.map (lA (ae e))) (b,.any)) ⟨⟩
 | .ref (.n b i o) k n=>fF (ae e b) (fun sz0 es0=>iN es0[i]? (fun row0=>lW row0[o]? (fun sz es=>k + n <= es.length /\ b ≠ rt t 0 /\ 0 < sz /\ (∀ e ∈ (es.drop k).take n,∀ c ∈ e,bG c=true) /\ (∀ x ∈ xs,mG (ae e) b x) /\
   xe C g hs K ns t ⟨⟩ e R acc sz ((es.drop k).take n) (xs.map (lA (ae e))) (b,.blk sz0 (br es0 i o 1 [.any]))) ⟨⟩) ⟨⟩) ⟨⟩
 | _=>False
@[simp] theorem Qj {g xs t b k n} : xd C g hs K ns t u e R acc xs (.ref (.r b) k n)=fF (ae e b) (fun sz es=>k + n <= es.length /\ b ≠ rt t 0 /\ 0 < sz /\ (∀ e ∈ (es.drop k).take n,∀ c ∈ e,bG c=true) /\ (∀ x ∈ xs,mG (ae e) b x) /\ xe C g hs K ns t ⟨⟩ e R acc sz ((es.drop k).take n) (xs.map (lA (ae e))) (b,.any)) ⟨⟩:=zR
@[simp] theorem Qi {g xs t b i o k n} : xd C g hs K ns t u e R acc xs (.ref (.n b i o) k n)=fF (ae e b) (fun sz0 es0=>iN es0[i]? (fun row0=>lW row0[o]? (fun sz es=>k + n <= es.length /\ b ≠ rt t 0 /\ 0 < sz /\ (∀ e ∈ (es.drop k).take n,∀ c ∈ e,bG c=true) /\ (∀ x ∈ xs,mG (ae e) b x) /\
   xe C g hs K ns t ⟨⟩ e R acc sz ((es.drop k).take n) (xs.map (lA (ae e))) (b,.blk sz0 (br es0 i o 1 [.any]))) ⟨⟩) ⟨⟩) ⟨⟩:=zR
@[simp] theorem HG {g x xs t v1} : opW C hs K ns (some t) (.callE g x xs) v1 e R acc=xd C g hs K ns t ⟨⟩ e R acc xs (vd (ae e) x):=by
 unfold opW
 simp only [aJ]
 cases vd (ae e) x <;> try rfl
 rename_i p k n
 cases p with
 | r b =>
  simp only [xd,fF,a8,Pa.root,cU]
  cases ae e b <;> rfl
 | n b i o =>
  simp only [xd,fF,iF,kW,a8,Pa.root,cU]
  cases hl : ae e b <;> try rfl
  rename_i sz0 es0
  simp only
  cases hi : es0[i]? with
  | none=>simp
  | some row0 =>
   simp only [x1y,x0r,exists_eq_left']
   cases ho : row0[o]? with
   | none=>simp
   | some d =>
    cases d
    case own sz es=>exact propext ⟨fun h=>⟨sz,es,rfl,h⟩,fun ⟨sz',es',h0,h⟩=>by cases h0;exact h⟩
    all_goals simp
@[simp] theorem GC {f : Nat -> D} {b k n sz es} : cg f (.ref (.r b) k n) (.own sz es)=(k=0 /\ n=es.length /\ f b=.blk sz es):=zR
@[simp] theorem GA {f : Nat -> D} {b k n sz es} : cg f (.adr (.r b) k n) (.blk sz es)=(k=0 /\ n=0 /\ f b=.blk sz es):=zR
@[simp] theorem GB {f : Nat -> D} {k n r} : cg f (.int k n) r=(r=.int k n):=by simp [cg]
@[simp] theorem DV {f : Nat -> D} {n r} : cg f (.bool n) r=(r=.bool n):=by simp [cg]
@[simp] theorem GD {f : Nat -> D} {n r} : cg f (.str n) r=(r=.str n):=by simp [cg]
@[simp] theorem DX {f : Nat -> D} {r} : cg f .nils r=(r=.nils):=by simp [cg]
@[simp] theorem DW {f : Nat -> D} {r} : cg f .nilp r=(r=.nilp):=by simp [cg]
@[simp] theorem Jf {f : Nat -> D} {n r} : cg f (.sl n) r=(r=.sl n):=by simp [cg]
@[simp] theorem Gz {f : Nat -> D} {n r} : cg f (.agg n) r=(r=.agg n):=by simp [cg]
@[simp] theorem HY {t d} : kx (some t) d=[(t,d)]:=zR
@[simp] theorem HX {d} : kx none d=[]:=zR
@[simp] theorem E8 {t} : mD (some t)=[(t,.tup [])]:=zR
@[simp] theorem E7 : mD none=[]:=zR
def Eb (C : CC) (g : Nat) (hs : Option (List Nat)) (K : Env -> Prop) (ns : List az) (dst : Option Nat) (_ : Tag (hs,K,ns)) (e : Env) (R : List Nat) (acc : List (List Nat × List Nat)) (b sz : Nat) (es : List (List D)) (ds : List D) : Prop :=
 ∃ d,∃ es' : List (List D),0 < es'.length /\ C g (.blk sz es::ds) d [.blk sz es'] /\ doW C hs K ns ⟨⟩ e R acc (kx dst d++[(b,.blk sz es')]) [(b,false)]
theorem tX {g : Nat} {hs : Option (List Nat)} {K : Env -> Prop} {ns : List az} {dst : Option Nat} {u : Tag (hs,K,ns)} {e : Env} {R : List Nat} {acc : List (List Nat × List Nat)} {b sz : Nat} {es es' : List (List D)} {ds : List D} {d : D} (h : C g (.blk sz es::ds) d [.blk sz es']) (hp : 0 < es'.length)
  (hk : doW C hs K ns ⟨⟩ e R acc (kx dst d++[(b,.blk sz es')]) [(b,false)]) : Eb C g hs K ns dst u e R acc b sz es ds:=⟨d,es',hp,h,hk⟩
def KY (C : CC) (g : Nat) (hs : Option (List Nat)) (K : Env -> Prop) (ns : List az) (dst : Option Nat) (_ : Tag (hs,K,ns)) (e : Env) (R : List Nat) (acc : List (List Nat × List Nat)) (xs : List Opd) (d : D) : Prop:=match d with
 | .adr (.r b) i off=>i=0 /\ off=0 /\ fF (ae e b) (fun sz es=>0 < es.length /\ (∀ x ∈ xs,isV (vd (ae e) x)=true) /\ Eb C g hs K ns dst ⟨⟩ e R acc b sz es (xs.map (vd (ae e)))) ⟨⟩
 | _=>False
@[simp] theorem QO {g xs b i off} : KY C g hs K ns dst u e R acc xs (.adr (.r b) i off)=(i=0 /\ off=0 /\ fF (ae e b) (fun sz es=>0 < es.length /\ (∀ x ∈ xs,isV (vd (ae e) x)=true) /\ Eb C g hs K ns dst ⟨⟩ e R acc b sz es (xs.map (vd (ae e)))) ⟨⟩):=zR
@[simp] theorem HI {g x xs v1} : opW C hs K ns dst (.callL g x xs) v1 e R acc=KY C g hs K ns dst ⟨⟩ e R acc xs (vd (ae e) x):=by
 unfold opW
 simp only [aJ]
 cases vd (ae e) x <;> first | rfl | skip
def wY (C : CC) (g : Nat) (hs : Option (List Nat)) (K : Env -> Prop) (ns : List az) (dst : Option Nat) (_ : Tag (hs,K,ns)) (e : Env) (R : List Nat) (acc : List (List Nat × List Nat)) (b i o sz0 sz : Nat) (es0 es : List (List D)) (ds : List D) : Prop :=
 ∃ es' : List (List D),es'.length=es.length /\ (∀ e ∈ es',e.length=sz /\ ∀ c ∈ e,aK c=true) /\ C g (.own sz es::ds) .any [.own sz es',.nilp] /\ doW C hs K ns ⟨⟩ e R acc (mD dst++[(b,.blk sz0 (br es0 i o 1 [.own sz es']))]) []
theorem wZ {g : Nat} {hs : Option (List Nat)} {K : Env -> Prop} {ns : List az} {t : Nat} {u : Tag (hs,K,ns)} {e : Env} {R : List Nat} {acc : List (List Nat × List Nat)} {b i o sz0 sz : Nat} {es0 es es' : List (List D)} {ds : List D} (h : C g (.own sz es::ds) .any [.own sz es',.nilp]) (hl : es'.length=es.length) (hu : ∀ e ∈ es',e.length=sz /\ ∀ c ∈ e,aK c=true)
  (hk : doW C hs K ns ⟨⟩ e R acc [(t,.tup []),(b,.blk sz0 (br es0 i o 1 [.own sz es']))] []) : wY C g hs K ns (some t) u e R acc b i o sz0 sz es0 es ds:=⟨es',hl,hu,h,hk⟩
def DG (C : CC) (g : Nat) (hs : Option (List Nat)) (K : Env -> Prop) (ns : List az) (dst : Option Nat) (_ : Tag (hs,K,ns)) (e : Env) (R : List Nat) (acc : List (List Nat × List Nat)) (xs : List Opd) (d : D) : Prop:=match d with
 | .ref (.n b i o) k n=>k=0 /\ fF (ae e b) (fun sz0 es0=>iN es0[i]? (fun row0=>lW row0[o]? (fun sz es=>es.length=n /\ (∀ x ∈ xs,isV (vd (ae e) x)=true) /\ wY C g hs K ns dst ⟨⟩ e R acc b i o sz0 sz es0 es (xs.map (vd (ae e)))) ⟨⟩) ⟨⟩) ⟨⟩
 | _=>False
@[simp] theorem PQ {g xs b i o k n} : DG C g hs K ns dst u e R acc xs (.ref (.n b i o) k n)=(k=0 /\ fF (ae e b) (fun sz0 es0=>iN es0[i]? (fun row0=>lW row0[o]? (fun sz es=>es.length=n /\ (∀ x ∈ xs,isV (vd (ae e) x)=true) /\ wY C g hs K ns dst ⟨⟩ e R acc b i o sz0 sz es0 es (xs.map (vd (ae e)))) ⟨⟩) ⟨⟩) ⟨⟩):=zR
@[simp] theorem HJ {g x xs v1} : opW C hs K ns dst (.callN g x xs) v1 e R acc=DG C g hs K ns dst ⟨⟩ e R acc xs (vd (ae e) x):=by
 unfold opW
 simp only [aJ]
 cases vd (ae e) x <;> try rfl
 rename_i p k n
 cases p with
 | r b=>rfl
 | n b i o =>
  simp only [DG,fF,iF,kW]
  cases ae e b <;> rfl
@[simp] theorem HF {g xs t v1} : opW C hs K ns (some t) (.callA g xs) v1 e R acc=((∀ x ∈ xs,isV (vd (ae e) x)=true) /\ sx C g hs K ns t ⟨⟩ e R acc (xs.map (vd (ae e)))):=zR
@[simp] theorem HH {g xs t v1} : opW C hs K ns (some t) (.callF g xs) v1 e R acc=((∀ x ∈ xs,bY (ae e) (vd (ae e) x)) /\ wU C g hs K ns t ⟨⟩ e R acc (xs.map (dpv (ae e)))):=zR
@[simp] theorem Lv {g xs x0 v1} : opW C hs K ns dst (.call g xs x0) v1 e R acc=((∀ x ∈ xs,bY (ae e) (vd (ae e) x)) /\ qF C g hs K ns dst ⟨⟩ e R acc (xs.all fun x=>isV (vd (ae e) x)) (xs.map (dpv (ae e)))):=zR
def lB (C : CC) (hs : Option (List Nat)) (K : Env -> Prop) (ns : List az) (t : Nat) (_ : Tag (hs,K,ns)) (e : Env) (R : List Nat) (acc : List (List Nat × List Nat)) (d : D) : Prop:=match d with
 | .ref (.r c) k n=>if c=rt t 0 then doW C hs K ns ⟨⟩ e R acc [(t,.ref (.r c) k n)] [] else match ae e c with
  | .blk sz es=>doW C hs K ns ⟨⟩ e R acc [(t,.ref (.r (rt t 0)) k n),(rt t 0,.blk sz es),(c,.any)] [(rt t 0,true)]
  | _=>False
 | d=>isS d=true /\ doW C hs K ns ⟨⟩ e R acc [(t,d)] []
@[simp] theorem Pm {t x v1} : opW C hs K ns (some t) (.asg x) v1 e R acc=lB C hs K ns t ⟨⟩ e R acc (vd (ae e) x):=zR
@[simp] theorem Im {t c k n} : lB C hs K ns t u e R acc (.ref (.r c) k n)=(if c=rt t 0 then doW C hs K ns ⟨⟩ e R acc [(t,.ref (.r c) k n)] [] else match ae e c with
  | .blk sz es=>doW C hs K ns ⟨⟩ e R acc [(t,.ref (.r (rt t 0)) k n),(rt t 0,.blk sz es),(c,.any)] [(rt t 0,true)]
  | _=>False):=zR
@[simp] theorem FK {t b i o k n} : lB C hs K ns t u e R acc (.ref (.n b i o) k n)=doW C hs K ns ⟨⟩ e R acc [(t,.ref (.n b i o) k n)] []:=by simp [lB]
@[simp] theorem FJ {t} : lB C hs K ns t u e R acc .nils=doW C hs K ns ⟨⟩ e R acc [(t,.nils)] []:=by simp [lB]
@[simp] theorem Ma {t es} : lB C hs K ns t u e R acc (.sl es)=doW C hs K ns ⟨⟩ e R acc [(t,.sl es)] []:=by simp [lB]
@[simp] theorem Io {t b es} : lB C hs K ns t u e R acc (slx b es)=doW C hs K ns ⟨⟩ e R acc [(t,slx b es)] []:=by
 rcases eT b es with h | ⟨h,_⟩ <;> rw [h] <;> simp
@[simp] theorem Il {t} : lB C hs K ns t u e R acc .any=doW C hs K ns ⟨⟩ e R acc [(t,.any)] []:=by simp [lB]
@[simp] theorem Ip {t ds} : lB C hs K ns t u e R acc (.tup ds)=doW C hs K ns ⟨⟩ e R acc [(t,.tup ds)] []:=by simp [lB]
def sN (C : CC) (hs : Option (List Nat)) (K : Env -> Prop) (ns : List az) (t : Nat) (_ : Tag (hs,K,ns)) (e : Env) (R : List Nat) (acc : List (List Nat × List Nat)) (d : D) : Prop:=match d with
 | .ref (.r c) k n=>aR (ae e) (.ref (.r c) k n) /\ doW C hs K ns ⟨⟩ e R acc [(t,dp1 (ae e) (.ref (.r c) k n)),(c,.any)] []
 | d=>isS d=true /\ doW C hs K ns ⟨⟩ e R acc [(t,d)] []
@[simp] theorem Pv {t x v1} : opW C hs K ns (some t) (.frz x) v1 e R acc=sN C hs K ns t ⟨⟩ e R acc (vd (ae e) x):=zR
@[simp] theorem I9 {t c k n} : sN C hs K ns t u e R acc (.ref (.r c) k n)=(aR (ae e) (.ref (.r c) k n) /\ doW C hs K ns ⟨⟩ e R acc [(t,dp1 (ae e) (.ref (.r c) k n)),(c,.any)] []):=zR
@[simp] theorem Gw {t} : sN C hs K ns t u e R acc .nils=doW C hs K ns ⟨⟩ e R acc [(t,.nils)] []:=by simp [sN]
@[simp] theorem MD {t es} : sN C hs K ns t u e R acc (.sl es)=doW C hs K ns ⟨⟩ e R acc [(t,.sl es)] []:=by simp [sN]
@[simp] theorem Ja {t b es} : sN C hs K ns t u e R acc (slx b es)=doW C hs K ns ⟨⟩ e R acc [(t,slx b es)] []:=by
 rcases eT b es with h | ⟨h,_⟩ <;> rw [h] <;> simp
def A3 (C : CC) (hs : Option (List Nat)) (K : Env -> Prop) (ns : List az) (dst : Option Nat) (_ : Tag (hs,K,ns)) (e : Env) (R : List Nat) (acc : List (List Nat × List Nat)) (c i off : Nat) (d : D) : Prop:=match d with
 | .blk _ es=>∃ r,es[i]? = some r /\ ∃ d,r[off]? = some d /\ dC dst (kOf C hs K ns e R acc) (ldc (.r c) i off d)
 | _=>False
@[simp] theorem KQ {c i off sz es} : A3 C hs K ns dst u e R acc c i off (.blk sz es)=iN es[i]? (fun r=>Aq r[off]? (fun d=>dW C hs K ns dst ⟨⟩ e R acc (ldc (.r c) i off d)) ⟨⟩) ⟨⟩:=by
 simp only [A3,iF,Ar];rfl
def KR (C : CC) (hs : Option (List Nat)) (K : Env -> Prop) (ns : List az) (dst : Option Nat) (_ : Tag (hs,K,ns)) (e : Env) (R : List Nat) (acc : List (List Nat × List Nat)) (q : Nat) (d : D) : Prop:=match d with
 | .adr (.r c) i off=>off=q /\ A3 C hs K ns dst ⟨⟩ e R acc c i off (ae e c)
 | _=>False
@[simp] theorem KS {q c i off} : KR C hs K ns dst u e R acc q (.adr (.r c) i off)=(off=q /\ A3 C hs K ns dst ⟨⟩ e R acc c i off (ae e c)):=zR
@[simp] theorem Pw {q x v1} : opW C hs K ns dst (.ldQ q x) v1 e R acc=KR C hs K ns dst ⟨⟩ e R acc q (vd (ae e) x):=zR
def Aj (C : CC) (hs : Option (List Nat)) (K : Env -> Prop) (ns : List az) (t : Nat) (_ : Tag (hs,K,ns)) (e : Env) (R : List Nat) (acc : List (List Nat × List Nat)) (sz by_ : Nat) (rowsY : List (List D)) (c i o k n : Nat) (d : D) : Prop:=match d with
 | .blk sz0 es0=>∃ row0,es0[i]? = some row0 /\ ∃ es,row0[o]? = some (.own sz es) /\ k + n <= es.length /\ (n + rowsY.length) * by_ <= 140737488355328 /\
   kOf C hs K ns e R acc [(t,.ref (.r (rt t 0)) 0 (n + rowsY.length)),(rt t 0,.blk sz ((es.drop k).take n++rowsY)),(c,.blk sz0 (br es0 i o 1 [.any]))] [(rt t 0,true)]
 | _=>False
@[simp] theorem Ih {t sz by_ rowsY c i o k n sz0 es0} : Aj C hs K ns t u e R acc sz by_ rowsY c i o k n (.blk sz0 es0)=iN es0[i]? (fun row0=>lW row0[o]? (fun sz' es=>sz'=sz /\ k + n <= es.length /\ (n + rowsY.length) * by_ <= 140737488355328 /\
   doW C hs K ns ⟨⟩ e R acc [(t,.ref (.r (rt t 0)) 0 (n + rowsY.length)),(rt t 0,.blk sz ((es.drop k).take n++rowsY)),(c,.blk sz0 (br es0 i o 1 [.any]))] [(rt t 0,true)]) ⟨⟩) ⟨⟩:=by
 simp only [Aj,iF,kW]
 refine propext ⟨?_,?_⟩
 ·rintro ⟨row0,h1,es,h2,h3,h4,h5⟩
  exact ⟨row0,h1,sz,es,h2,rfl,h3,h4,h5⟩
 ·rintro ⟨row0,h1,sz',es,h2,rfl,h3,h4,h5⟩
  exact ⟨row0,h1,es,h2,h3,h4,h5⟩
def Ii (C : CC) (hs : Option (List Nat)) (K : Env -> Prop) (ns : List az) (t : Nat) (_ : Tag (hs,K,ns)) (e : Env) (R : List Nat) (acc : List (List Nat × List Nat)) (q sz by_ : Nat) (yd : D) (d : D) : Prop:=match d with
 | .ref (.n c i o') k n=>o'=q /\ fA (ae e) false yd sz fun rowsY bs=>bs=[] /\ c ≠ rt t 0 /\ Aj C hs K ns t ⟨⟩ e R acc sz by_ rowsY c i o' k n (ae e c)
 | _=>False
@[simp] theorem Ij {t q sz by_ yd c i o k n} : Ii C hs K ns t u e R acc q sz by_ yd (.ref (.n c i o) k n)=(o=q /\ jl (ae e) false yd sz (fun rowsY bs=>bs=[] /\ c ≠ rt t 0 /\ Aj C hs K ns t ⟨⟩ e R acc sz by_ rowsY c i o k n (ae e c)) ⟨⟩):=zR
@[simp] theorem Lr {t q sz by_ x y v1} : opW C hs K ns (some t) (.appQ q sz by_ x y) v1 e R acc=Ii C hs K ns t ⟨⟩ e R acc q sz by_ (vd (ae e) y) (vd (ae e) x):=zR
def DH (C : CC) (hs : Option (List Nat)) (K : Env -> Prop) (ns : List az) (t : Nat) (_ : Tag (hs,K,ns)) (e : Env) (R : List Nat) (acc : List (List Nat × List Nat)) (sz : Nat) (rows : List (List D)) (b k n : Nat) (d : D) : Prop:=match d with
 | .blk sz' es=>sz'=sz /\ k + n <= es.length /\ (∀ e ∈ es,∀ c ∈ e,aK c=true) /\ (∀ e ∈ rows,∀ c ∈ e,aK c=true) /\ kOf C hs K ns e R acc [(t,.int .i64 (min rows.length n : Nat)),(b,.blk sz (iY es k (rows.take n)))] []
 | _=>False
@[simp] theorem IF {t sz rows b k n sz' es} : DH C hs K ns t u e R acc sz rows b k n (.blk sz' es)=(sz'=sz /\ k + n <= es.length /\ (∀ e ∈ es,∀ c ∈ e,aK c=true) /\ (∀ e ∈ rows,∀ c ∈ e,aK c=true) /\ doW C hs K ns ⟨⟩ e R acc [(t,.int .i64 (min rows.length n : Nat)),(b,.blk sz (iY es k (rows.take n)))] []):=zR
def IG (C : CC) (hs : Option (List Nat)) (K : Env -> Prop) (ns : List az) (t : Nat) (_ : Tag (hs,K,ns)) (e : Env) (R : List Nat) (acc : List (List Nat × List Nat)) (sz : Nat) (rows : List (List D)) (d : D) : Prop:=match d with
 | .ref (.r b) k n=>(n=0 -> kOf C hs K ns e R acc [(t,.int .i64 0)] []) /\ (0 < n -> DH C hs K ns t ⟨⟩ e R acc sz rows b k n (ae e b))
 | _=>False
@[simp] theorem IH {t sz rows b k n} : IG C hs K ns t u e R acc sz rows (.ref (.r b) k n)=((n=0 -> doW C hs K ns ⟨⟩ e R acc [(t,.int .i64 0)] []) /\ (0 < n -> DH C hs K ns t ⟨⟩ e R acc sz rows b k n (ae e b))):=zR
@[simp] theorem Ps {t sz x y v1} : opW C hs K ns (some t) (.cpy sz x y) v1 e R acc=jl (ae e) false (vd (ae e) y) sz (fun rows bs=>bs=[] /\ 0 < rows.length /\ IG C hs K ns t ⟨⟩ e R acc sz rows (vd (ae e) x)) ⟨⟩:=zR
def iL (C : CC) (hs : Option (List Nat)) (K : Env -> Prop) (ns : List az) (dst : Option Nat) (_ : Tag (hs,K,ns)) (e : Env) (R : List Nat) (acc : List (List Nat × List Nat)) (d : D) : Prop:=match d with
 | .agx ds=>dW C hs K ns dst ⟨⟩ e R acc (.ptx ds)
 | .agg ds=>dW C hs K ns dst ⟨⟩ e R acc (.ptr ds)
 | d=>aK d=true /\ dW C hs K ns dst ⟨⟩ e R acc (.ptr [d])
@[simp] theorem DD {ds : List D} : dB (.agg ds)=ds:=zR
@[simp] theorem DE {k n} : dB (.int k n)=[.int k n]:=zR
@[simp] theorem DF {n} : dB (.str n)=[.str n]:=zR
@[simp] theorem CF {n} : dB (.bool n)=[.bool n]:=zR
@[simp] theorem F6 {n} : dB (.sl n)=[.sl n]:=zR
@[simp] theorem Gu {f : Nat -> D} {es} : gQ f [] es=es:=zR
@[simp] theorem DR {f : Nat -> D} {p ps es} : gQ f (p::ps) es=gQ f ps (es.set p.1 (dB (vd f p.2))):=zR
@[simp] theorem Ls {sz len zs parts v1} : opW C hs K ns dst (.blsF sz len zs parts) v1 e R acc=((∀ p ∈ parts,p.1 < len /\ (dB (vd (ae e) p.2)).length=sz /\ ∀ c ∈ dB (vd (ae e) p.2),aK c=true) /\ 0 < len /\
   (∀ r ∈ gQ (ae e) parts (List.replicate len zs),∀ c ∈ r,aK c=true) /\ dW C hs K ns dst ⟨⟩ e R acc (.sl (gQ (ae e) parts (List.replicate len zs)))):=zR
@[simp] theorem Lt {sz len zs parts v1} : opW C hs K ns dst (.blsX sz len zs parts) v1 e R acc=(zs.all aK=true /\ (∀ p ∈ parts,p.1 < len /\ match (generalizing:=false) vd (ae e) p.2 with
    | .agg ds=>ds.length=sz
    | .agx ds=>ds.length=sz
    | _=>False) /\ dW C hs K ns dst ⟨⟩ e R acc (.rfx len sz (jZ (ae e) sz len zs parts))):=zR
attribute [simp] jZ
@[simp] theorem Lu {x v1} : opW C hs K ns dst (.boxF x) v1 e R acc=iL C hs K ns dst ⟨⟩ e R acc (vd (ae e) x):=zR
@[simp] theorem Iu {ds} : iL C hs K ns dst u e R acc (.agx ds)=dW C hs K ns dst ⟨⟩ e R acc (.ptx ds):=zR
@[simp] theorem It {ds} : iL C hs K ns dst u e R acc (.agg ds)=dW C hs K ns dst ⟨⟩ e R acc (.ptr ds):=zR
@[simp] theorem Iv {k n} : iL C hs K ns dst u e R acc (.int k n)=dW C hs K ns dst ⟨⟩ e R acc (.ptr [.int k n]):=by simp [iL]
@[simp] theorem FL {n} : iL C hs K ns dst u e R acc (.bool n)=dW C hs K ns dst ⟨⟩ e R acc (.ptr [.bool n]):=by simp [iL]
@[simp] theorem Iy {n} : iL C hs K ns dst u e R acc (.str n)=dW C hs K ns dst ⟨⟩ e R acc (.ptr [.str n]):=by simp [iL]
@[simp] theorem FM : iL C hs K ns dst u e R acc .nils=dW C hs K ns dst ⟨⟩ e R acc (.ptr [.nils]):=by simp [iL]
@[simp] theorem Mc {es} : iL C hs K ns dst u e R acc (.sl es)=dW C hs K ns dst ⟨⟩ e R acc (.ptr [.sl es]):=by simp [iL]
@[simp] theorem Ix {b es} : iL C hs K ns dst u e R acc (slx b es)=dW C hs K ns dst ⟨⟩ e R acc (.ptr [slx b es]):=by
 rcases eT b es with h | ⟨h,_⟩ <;> rw [h] <;> simp
@[simp] theorem Iw {es} : iL C hs K ns dst u e R acc (.ptr es)=dW C hs K ns dst ⟨⟩ e R acc (.ptr [.ptr es]):=by simp [iL]
@[simp] theorem Mb {g es} : iL C hs K ns dst u e R acc (.fn g es)=dW C hs K ns dst ⟨⟩ e R acc (.ptr [.fn g es]):=by simp [iL]
@[simp] theorem Px {x v1} : opW C hs K ns dst (.len x) v1 e R acc=sY (vd (ae e) x) (fun n=>dW C hs K ns dst ⟨⟩ e R acc (.int .i64 n)) ⟨⟩:=by
 show res (ae e) _ (.len x)=_
 simp only [res,sY]
 cases vd (ae e) x <;> rfl
def vy (C : CC) (hs : Option (List Nat)) (K : Env -> Prop) (ns : List az) (dst : Option Nat) (_ : Tag (hs,K,ns)) (e : Env) (R : List Nat) (acc : List (List Nat × List Nat)) (sz : Nat) (x i : D) : Prop:=match (generalizing:=false) x,i with
  | .sl es,.int _ j=>0 <= j /\ jP C hs K ns dst ⟨⟩ e R acc sz es j.toNat
  | .rfx n sz' ds,.int _ j=>0 <= j /\ j.toNat < n /\ sz'=sz /\ dW C hs K ns dst ⟨⟩ e R acc (.ptx (ds.drop (j.toNat * sz)))
  | .ref p k n,.int _ j=>0 <= j /\ j.toNat < n /\ match (generalizing:=false) a8 (ae e) p with
   | some (sz',_)=>sz'=sz /\ dW C hs K ns dst ⟨⟩ e R acc (.adr p (k + j.toNat) 0)
   | none=>False
  | _,_=>False
@[simp] theorem Lz {sz x i v1} : opW C hs K ns dst (.iadS sz x i) v1 e R acc=vy C hs K ns dst ⟨⟩ e R acc sz (vd (ae e) x) (vd (ae e) i):=zR
@[simp] theorem Jh {sz sz' n ds k j} : vy C hs K ns dst u e R acc sz (.rfx n sz' ds) (.int k j)=(0 <= j /\ j.toNat < n /\ sz'=sz /\ dW C hs K ns dst ⟨⟩ e R acc (.ptx (ds.drop (j.toNat * sz)))):=zR
@[simp] theorem ME {sz es k j} : vy C hs K ns dst u e R acc sz (.sl es) (.int k j)=(0 <= j /\ jP C hs K ns dst ⟨⟩ e R acc sz es j.toNat):=zR
@[simp] theorem Ji {sz b es k j} : vy C hs K ns dst u e R acc sz (slx b es) (.int k j)=(0 <= j /\ jP C hs K ns dst ⟨⟩ e R acc sz es j.toNat):=by
 rcases eT b es with h | ⟨h,rfl⟩
 ·rw [h];rfl
 ·rw [h];simp [vy,jP]
@[simp] theorem Jg {sz p k n k' j} : vy C hs K ns dst u e R acc sz (.ref p k n) (.int k' j)=(0 <= j /\ j.toNat < n /\ match (generalizing:=false) a8 (ae e) p with
   | some (sz',_)=>sz'=sz /\ dW C hs K ns dst ⟨⟩ e R acc (.adr p (k + j.toNat) 0)
   | none=>False):=zR
def BH (C : CC) (hs : Option (List Nat)) (K : Env -> Prop) (ns : List az) (dst : Option Nat) (_ : Tag (hs,K,ns)) (e : Env) (R : List Nat) (acc : List (List Nat × List Nat)) (sz : Nat) (x : D) (lo hi : Option Opd) : Prop:=match (generalizing:=false) x with
  | .sl es=>(∀ e ∈ es,e.length=sz) /\ dQ (ae e) hi es.length (fun h=>dQ (ae e) lo 0 (fun l=>l <= h /\ h <= es.length /\ dW C hs K ns dst ⟨⟩ e R acc (.sl ((es.take h).drop l))) ⟨⟩) ⟨⟩
  | .nils=>dQ (ae e) hi 0 (fun h=>dQ (ae e) lo 0 (fun l=>l <= h /\ h <= 0 /\ dW C hs K ns dst ⟨⟩ e R acc (.sl [])) ⟨⟩) ⟨⟩
  | .ref p k n=>match (generalizing:=false) a8 (ae e) p with
   | some (sz',_)=>sz'=sz /\ dQ (ae e) hi n (fun h=>dQ (ae e) lo 0 (fun l=>l <= h /\ h <= n /\ dW C hs K ns dst ⟨⟩ e R acc (.ref p (k + l) (h - l))) ⟨⟩) ⟨⟩
   | none=>False
  | _=>False
@[simp] theorem PE {sz x lo hi v1} : opW C hs K ns dst (.slc sz x lo hi) v1 e R acc=BH C hs K ns dst ⟨⟩ e R acc sz (vd (ae e) x) lo hi:=zR
@[simp] theorem PG {sz es lo hi} : BH C hs K ns dst u e R acc sz (.sl es) lo hi=((∀ e ∈ es,e.length=sz) /\ dQ (ae e) hi es.length (fun h=>dQ (ae e) lo 0 (fun l=>l <= h /\ h <= es.length /\ dW C hs K ns dst ⟨⟩ e R acc (.sl ((es.take h).drop l))) ⟨⟩) ⟨⟩):=zR
@[simp] theorem HW {sz lo hi} : BH C hs K ns dst u e R acc sz .nils lo hi=dQ (ae e) hi 0 (fun h=>dQ (ae e) lo 0 (fun l=>l <= h /\ h <= 0 /\ dW C hs K ns dst ⟨⟩ e R acc (.sl [])) ⟨⟩) ⟨⟩:=zR
@[simp] theorem LV {sz p k n lo hi} : BH C hs K ns dst u e R acc sz (.ref p k n) lo hi=(match (generalizing:=false) a8 (ae e) p with
   | some (sz',_)=>sz'=sz /\ dQ (ae e) hi n (fun h=>dQ (ae e) lo 0 (fun l=>l <= h /\ h <= n /\ dW C hs K ns dst ⟨⟩ e R acc (.ref p (k + l) (h - l))) ⟨⟩) ⟨⟩
   | none=>False):=zR
@[simp] theorem HK {x xs v1} : opW C hs K ns dst (.callv x xs) v1 e R acc=(match (generalizing:=false) vd (ae e) x with
  | .fn g cs=>(∀ x ∈ xs,bY (ae e) (vd (ae e) x)) /\ qF C g hs K ns dst ⟨⟩ e R acc (xs.all fun x=>isV (vd (ae e) x)) (xs.map (dpv (ae e))++cs)
  | .fnx g cs=>(∀ x ∈ xs,bY (ae e) (vd (ae e) x)) /\ (∀ c ∈ cs,aR (ae e) c) /\ qF C g hs K ns dst ⟨⟩ e R acc false (xs.map (dpv (ae e))++cs.map (dp1 (ae e)))
  | _=>False):=by
 simp only [opW,aJ,qF,dC,x0k,or_false]
 cases vd (ae e) x <;> rfl
def mpT (x : D) (K : Nat -> Nat -> List D -> List D -> Prop) (_ : Tag K) : Prop:=match x with
 | .mp kt et ks vs=>K kt et ks vs
 | _=>False
@[simp] theorem QP {kt et ks vs K u} : mpT (.mp kt et ks vs) K u=K kt et ks vs:=zR
@[simp] theorem Py {kt et t v1} : opW C hs K ns (some t) (.mkm kt et) v1 e R acc=doW C hs K ns ⟨⟩ e R acc [(t,.mrf (rt t 0)),(rt t 0,.mp kt et [] [])] [(rt t 0,true)]:=zR
def mlM (C : CC) (hs : Option (List Nat)) (K : Env -> Prop) (ns : List az) (dst : Option Nat) (_ : Tag (hs,K,ns)) (e : Env) (R : List Nat) (acc : List (List Nat × List Nat)) (sh : KSh) (kt et : Nat) (ok : Bool) (z x m : D) : Prop:=match m with
 | .mrf b=>mpT (ae e b) (fun kt' et' ks vs=>kt'=kt /\ et'=et /\ cX sh x /\ match ok with
    | true=>dW C hs K ns dst ⟨⟩ e R acc (.tup [(dV ks vs x).getD z,.bool (dV ks vs x).isSome])
    | false=>dW C hs K ns dst ⟨⟩ e R acc ((dV ks vs x).getD z)) ⟨⟩
 | _=>False
@[simp] theorem Pf {sh kt et ok z x b} : mlM C hs K ns dst u e R acc sh kt et ok z x (.mrf b)=mpT (ae e b) (fun kt' et' ks vs=>kt'=kt /\ et'=et /\ cX sh x /\ match ok with
    | true=>dW C hs K ns dst ⟨⟩ e R acc (.tup [(dV ks vs x).getD z,.bool (dV ks vs x).isSome])
    | false=>dW C hs K ns dst ⟨⟩ e R acc ((dV ks vs x).getD z)) ⟨⟩:=zR
@[simp] theorem PB {sh kt et ok z m x v1} : opW C hs K ns dst (.mpl sh kt et ok z m x) v1 e R acc=mlM C hs K ns dst ⟨⟩ e R acc sh kt et ok z (vd (ae e) x) (vd (ae e) m):=by
 show res (ae e) _ (.mpl sh kt et ok z m x)=_
 simp only [res,mlM]
 cases vd (ae e) m <;> rfl
def muM (C : CC) (hs : Option (List Nat)) (K : Env -> Prop) (ns : List az) (_ : Tag (hs,K,ns)) (e : Env) (R : List Nat) (acc : List (List Nat × List Nat)) (sh : KSh) (kt et : Nat) (z x v m : D) : Prop:=match m with
 | .mrf b=>mpT (ae e b) (fun kt' et' ks vs=>kt'=kt /\ et'=et /\ ks.length < maxLen /\ cX sh x /\ iZ z v /\ doW C hs K ns ⟨⟩ e R acc [(b,.mp kt et (x::ks) (v::vs))] []) ⟨⟩
 | _=>False
@[simp] theorem Pg {sh kt et z x v b} : muM C hs K ns u e R acc sh kt et z x v (.mrf b)=mpT (ae e b) (fun kt' et' ks vs=>kt'=kt /\ et'=et /\ ks.length < maxLen /\ cX sh x /\ iZ z v /\ doW C hs K ns ⟨⟩ e R acc [(b,.mp kt et (x::ks) (v::vs))] []) ⟨⟩:=zR
@[simp] theorem PC {sh kt et z m x v v1} : opW C hs K ns dst (.mpu sh kt et z m x v) v1 e R acc=(dst=none /\ muM C hs K ns ⟨⟩ e R acc sh kt et z (vd (ae e) x) (vd (ae e) v) (vd (ae e) m)):=by
 show (dst=none /\ _)=_
 congr 1
end
@[simp] theorem D4 {s} : cX .str (.str s)=(s.length <= maxLen):=zR
@[simp] theorem CL {b} : cX .bool (.bool b)=True:=zR
@[simp] theorem D3 {q q' n} : cX (.int q) (.int q' n)=(q'=q /\ qS q n):=zR
@[simp] theorem CM {q n ds} : cX (.ints q n) (.agg ds)=(ds.length=n /\ ∀ d ∈ ds,∃ x,d=.int q x /\ qS q x):=zR
@[simp] theorem Gt {s z} : iZ (.str z) (.str s)=(s.length <= maxLen):=zR
@[simp] theorem DN {b z} : iZ (.bool z) (.bool b)=True:=zR
@[simp] theorem Gs {q q' n z} : iZ (.int q z) (.int q' n)=(q'=q /\ qS q n):=zR
@[simp] theorem Js {n : Int} : qS .i64 n=(-9223372036854775808 <= n /\ n <= 9223372036854775807):=by
 have e1 : IntKind.i64.min=-9223372036854775808:=rfl
 have e2 : IntKind.i64.max=9223372036854775807:=rfl
 simp [qS,Lit.wf,e1,e2]
attribute [simp] ji fW bT fz cG bO aY fj xZ okR rT mi cL
attribute [simp] vd params gx kj km ki nq nW yC prune kA isC i6 a8 QY br dpv cl stK ce rt chk rdS rdR frR fwR gC rdN i5 wrK mnR EL ldN aj jh qN wOk Pa.root ct bL
end Go.Gv

namespace Go.Gv
def dS (c : Int) : Bool:=(97 <= c && c <= 122) || (65 <= c && c <= 90)
def iw (c : Int) : Bool:=48 <= c && c <= 57
def dT (c : UInt8) : Bool:=dS c.toNat || iw c.toNat || c.toNat == 95
def cb (s : List UInt8) : Nat:=(s.takeWhile dT).length
def fg (n : Int) : Bool:=-1125899906842624 <= n && n <= 1125899906842624
def bz (s : List UInt8) : Bool:=s ≠ [] && s.length <= 20 && dS (s[0]!).toNat && cb s == s.length
theorem ow (s : List UInt8) : cb s <= s.length:=by unfold cb;exact (List.takeWhile_prefix _).length_le
theorem tz {α : Type} (p : α -> Bool) : ∀ (s : List α) (i : Nat) (h : i < s.length),i <= (s.takeWhile p).length -> (p s[i]=true -> i + 1 <= (s.takeWhile p).length) /\ (p s[i]=false -> i=(s.takeWhile p).length)
 | [],i,h,_=>by simp at h
 | x::s,0,h,_=>by
  constructor <;> intro h1 <;> simp at h1 <;> simp [h1]
 | x::s,i + 1,h,h2=>by
  rw [List.takeWhile_cons] at h2 ⊢
  split at h2
  ·rename_i hp
   simp only [hp,if_true,x1q,List.getElem_cons_succ] at h2 ⊢
   have:=tz p s i (by simpa using h) (by omega)
   exact ⟨fun e=>by have:=this.1 e;omega,fun e=>by have:=this.2 e;omega⟩
  ·simp at h2
theorem lq {s : List UInt8} {i : Nat} (h : i < s.length) (hi : i <= cb s) : dT s[i]=true -> i + 1 <= cb s:=(tz dT s i h hi).1
theorem lr {s : List UInt8} {i : Nat} (h : i < s.length) (hi : i <= cb s) : dT s[i]=false -> i=cb s:=(tz dT s i h hi).2
theorem wrap_i64 {n m : Int} (h : n=m) (h2 : -9223372036854775808 <= m /\ m < 9223372036854775808) : IntKind.wrap .i64 n=m:=by
 subst h
 have e1 : IntKind.i64.signed=true:=rfl
 have e2 : (2 ^ (IntKind.i64.bits - 1) : Int)=9223372036854775808:=rfl
 have e3 : (2 ^ IntKind.i64.bits : Int)=18446744073709551616:=rfl
 unfold IntKind.wrap
 simp only [e1,e2,e3,x0Z,x0b]
 split <;> omega
variable {C : CC} (hC : aw prog C)
include hC
theorem xx (n : Int) : C 89 [.int .i64 n] (.bool (fg n)) []:=by
 refine ai hC (nf:=N89) rfl rfl ?_
 simp [N89,fg]
 refine ac (fun h=>?_) (fun h=>?_) <;> simp at h <;> simp [h] <;> omega
theorem uz (n l : Int) : C 60 [.int .i64 n,.int .i64 l] (.bool (0 <= n && n <= 4194304 && 1 <= l && l <= 16777216)) []:=by
 refine ai hC (nf:=N60) rfl rfl ?_
 simp [N60]
 repeat' (refine ac (fun h=>?_) (fun h=>?_) <;> simp at h <;> simp [h] <;> try omega)
theorem Aw (c : Int) : C 88 [.int .u8 c] (.bool (iw c)) []:=by
 refine ai hC (nf:=N88) rfl rfl ?_
 simp [N88,iw]
 refine ac (fun h=>?_) (fun h=>?_) <;> simp at h <;> simp [h] <;> omega
theorem qX (c : Int) : C 70 [.int .u8 c] (.bool (dS c)) []:=by
 refine ai hC (nf:=N70) rfl rfl ?_
 simp [N70,dS]
 repeat' (refine ac (fun h=>?_) (fun h=>?_) <;> simp at h <;> simp [h] <;> try omega)
theorem Fc (s : List UInt8) (hs : s.length < 2 ^ 62) : C 71 [.str s] (.int .i64 (cb s)) []:=by
 refine ai hC (nf:=N71) rfl rfl ?_
 simp [N71]
 refine au Nat (fun i=>[(0,.str s),(3,.int .i64 i)]) (fun i=>i <= cb s) (fun i=>cb s - i) 0 (by simp) (by simp) ?_
 intro i hi
 have hle : cb s <= s.length:=ow s
 by_cases hl : i < s.length
 ·simp [hl]
  refine aa (qX hC _) (.inl rfl) ?_
  have hstep : dT s[i]=true -> i + 1 <= cb s:=lq hl hi
  have hstop : dT s[i]=false -> i=cb s:=lr hl hi
  simp only [dT] at hstep hstop
  have hw : IntKind.wrap .i64 ((i : Int) + 1)=((i + 1 : Nat) : Int):=wrap_i64 (by omega) (by omega)
  cases h1 : dS s[i].toNat with
  | true =>
   simp [h1,hw] at hstep ⊢
   exact ⟨i + 1,by omega,by omega,rfl⟩
  | false =>
   simp [h1,hl]
   refine aa (Aw hC _) (.inl rfl) ?_
   cases h2 : iw s[i].toNat with
   | true =>
    simp [h1,h2,hw] at hstep ⊢
    exact ⟨i + 1,by omega,by omega,rfl⟩
   | false =>
    simp [hl]
    refine ac (fun h3=>?_) (fun h3=>?_) <;> simp at h3
    ·simp [hw,hl]
     have:=hstep (by simp [show s[i].toNat=95 by omega])
     exact ⟨i + 1,this,by omega,rfl⟩
    ·have h4 : ¬ s[i].toNat=95:=by omega
     simp [h1,h2,h4] at hstop ⊢
     omega
 ·simp [hl]
  have : i=cb s:=by omega
  omega
theorem gK (s : List UInt8) : C 58 [.str s] (.bool (bz s)) []:=by
 refine ai hC (nf:=N58) rfl rfl ?_
 simp [N58]
 refine ac (fun h=>?_) (fun h=>?_) <;> simp at h
 ·have hp : 0 < s.length:=List.length_pos_iff.2 h
  simp [h,hp]
  refine ac (fun h2=>?_) (fun h2=>?_) <;> simp at h2
  ·simp [h2,hp]
   refine aa (qX hC _) (.inl rfl) ?_
   simp
   refine ac (fun h3=>?_) (fun h3=>?_)
   ·simp [h3,h2]
    refine aa (Fc hC s (by omega)) (.inl rfl) ?_
    simp [bz,h,h3,show s.length <= 20 by omega,hp,Int.ofNat_inj]
    rw [x0x];simp
   ·simp [bz,h,h3,hp]
  ·simp [h2,bz]
   omega
 ·subst h
  simp [bz]
end Go.Gv

namespace Go.Gv
open Go.Lib
theorem kQ (a : Nat) (ha : a < 18446744073709551616) : bits .and .u64 (a : Int) 4294967295=((a % 4294967296 : Nat) : Int):=by
 have h:=bits_and_u64_nat a 4294967295 ha (by omega)
 have e : a &&& 4294967295=a % 4294967296:=Nat.and_two_pow_sub_one_eq_mod a 32
 rw [e] at h
 exact h
theorem mK (a k : Nat) : Int.fdiv (a : Int) (2 ^ k)=((a / 2 ^ k : Nat) : Int):=by
 rw [Int.fdiv_eq_ediv_of_nonneg _ (by exact Int.pow_nonneg (by omega))]
 norm_cast
theorem oi (a : Nat) : Int.fdiv (a : Int) (2 ^ min 32 IntKind.u64.bits)=((a / 4294967296 : Nat) : Int):=mK a 32
theorem p8 (a b : Nat) : (a : Int) * (b : Int)=((a * b : Nat) : Int):=(Int.natCast_mul a b).symm
theorem sv (a b : Nat) : (a : Int) + (b : Int)=((a + b : Nat) : Int):=(Int.natCast_add a b).symm
theorem bu (a : Nat) (ha : a < 18446744073709551616) : IntKind.u64.wrap (a : Int)=(a : Int):=by
 have e1 : IntKind.u64.signed=false:=rfl
 have e3 : (2 ^ IntKind.u64.bits : Int)=18446744073709551616:=rfl
 unfold IntKind.wrap
 simp only [e1,e3,Bool.false_and]
 simp
 omega
theorem zO (a : Nat) : IntKind.u64.wrap (a : Int)=((a % 18446744073709551616 : Nat) : Int):=by
 have e1 : IntKind.u64.signed=false:=rfl
 have e3 : (2 ^ IntKind.u64.bits : Int)=18446744073709551616:=rfl
 unfold IntKind.wrap
 simp only [e1,e3,Bool.false_and]
 simp
variable {C : CC} (hC : aw prog C)
include hC
theorem iu (x y : Nat) (hx : x < 18446744073709551616) (hy : y < 18446744073709551616) : C 91 [.int .u64 x,.int .u64 y] (.tup [.int .u64 ((x * y / 18446744073709551616 : Nat) : Int),.int .u64 ((x * y % 18446744073709551616 : Nat) : Int)]) []:=by
 refine ai hC (nf:=N91) rfl rfl ?_
 obtain ⟨bd,bt,bw,hhi⟩:=Lib.mul64_hi x y hx hy
 have ba:=Lib.half_mul_le (a:=x / 4294967296) (b:=y / 4294967296) (by omega) (by omega)
 have bb:=Lib.half_mul_le (a:=x / 4294967296) (b:=y % 4294967296) (by omega) (by omega)
 have bc:=Lib.half_mul_le (a:=x % 4294967296) (b:=y / 4294967296) (by omega) (by omega)
 have ba' : x / 4294967296 * (y / 4294967296) < 18446744073709551616:=by omega
 have bb' : x / 4294967296 * (y % 4294967296) < 18446744073709551616:=by omega
 have bc' : x % 4294967296 * (y / 4294967296) < 18446744073709551616:=by omega
 have bh1 : x / 4294967296 * (y / 4294967296) + (x / 4294967296 * (y % 4294967296) + x % 4294967296 * (y % 4294967296) / 4294967296) / 4294967296 < 18446744073709551616:=by omega
 have bh : x / 4294967296 * (y / 4294967296) + (x / 4294967296 * (y % 4294967296) + x % 4294967296 * (y % 4294967296) / 4294967296) / 4294967296 + ((x / 4294967296 * (y % 4294967296) + x % 4294967296 * (y % 4294967296) / 4294967296) % 4294967296 + x % 4294967296 * (y / 4294967296)) / 4294967296 < 18446744073709551616:=by omega
 simp [N91]
 simp only [kQ x hx,kQ y hy,oi,p8,sv,bu _ bd,bu _ bb',bu _ bt,kQ _ bt,bu _ bc',bu _ bw,bu _ ba',bu _ bh1,bu _ bh,zO (x * y)]
 rw [hhi]
 exact ⟨by omega,by omega⟩
end Go.Gv

namespace Go.Gv
theorem Dc (a : Nat) : Int.fdiv (a : Int) (2 ^ min 16 IntKind.u64.bits)=((a / 65536 : Nat) : Int):=mK a 16
theorem BG (a : Nat) : Int.fdiv (a : Int) (2 ^ min 8 IntKind.u64.bits)=((a / 256 : Nat) : Int):=mK a 8
theorem L5 (a : Nat) (h : a < 256) : IntKind.u8.wrap (a : Int)=(a : Int):=by
 have e1 : IntKind.u8.signed=false:=rfl
 have e3 : (2 ^ IntKind.u8.bits : Int)=256:=rfl
 unfold IntKind.wrap
 simp only [e1,e3,Bool.false_and]
 simp
 omega
theorem sX : S1.length=256 /\ ∀ n : Fin 256,S1[n.val]?.getD 0=UInt8.ofNat (bitLen n.val) /\ bitLen n.val <= 8:=by decide +kernel
theorem fm {x n z : Nat} {m : Int} (hz : z < 256) (hm : m=n) (hn : n <= 56) (h : n + bitLen z=bitLen x) : 0 <= IntKind.u8.wrap (z : Int) /\ (IntKind.u8.wrap (z : Int)).toNat < S1.length /\ IntKind.i64.wrap (m + IntKind.i64.wrap ↑(S1[(IntKind.u8.wrap (z : Int)).toNat]?.getD default).toNat)=(bitLen x : Int):=by
 rw [L5 z hz]
 obtain ⟨h1,h2⟩:=sX
 obtain ⟨h3,h4⟩:=h2 ⟨z,hz⟩
 have e : (S1[(z : Int).toNat]?.getD default).toNat=bitLen z:=by
  show (S1[z]?.getD 0).toNat=bitLen z
  simp only at h3 h4
  rw [h3,UInt8.toNat_ofNat']
  omega
 simp only at h4
 rw [e]
 have e2 : IntKind.i64.wrap (bitLen z : Int)=(bitLen z : Int):=wrap_i64 rfl (by omega)
 refine ⟨by omega,by omega,?_⟩
 rw [e2,hm]
 exact wrap_i64 (by omega) (by omega)
variable {C : CC} (hC : aw prog C)
include hC
theorem Ag (x : Nat) (hx : x < 18446744073709551616) : C 111 [.int .u64 x] (.int .i64 (bitLen x)) []:=by
 refine ai hC (nf:=N111) rfl rfl ?_
 have key : ∀ (b z : Nat),2 ^ b <= z -> bitLen z=b + bitLen (z / 2 ^ b):=fun b z h=>bitLen_shift z b (by
  have:=Nat.div_pos h (x1v b)
  omega)
 simp [N111]
 refine ac (fun h1=>?_) (fun h1=>?_) <;> simp at h1
 ·obtain ⟨y,hy⟩ : ∃ y : Nat,y=x / 4294967296:=⟨_,rfl⟩
  have e1 : Int.fdiv (x : Int) (2 ^ min 32 IntKind.u64.bits)=(y : Int):=by rw [oi,hy]
  have k1:=key 32 x (by omega)
  simp [e1]
  refine ac (fun h2=>?_) (fun h2=>?_) <;> simp at h2
  ·obtain ⟨z,hz⟩ : ∃ z : Nat,z=y / 65536:=⟨_,rfl⟩
   have e2 : Int.fdiv (y : Int) (2 ^ min 16 IntKind.u64.bits)=(z : Int):=by rw [Dc,hz]
   have k2:=key 16 y (by omega)
   simp [e2]
   refine ac (fun h3=>?_) (fun h3=>?_) <;> simp at h3
   ·obtain ⟨v,hv⟩ : ∃ v : Nat,v=z / 256:=⟨_,rfl⟩
    have e3 : Int.fdiv (z : Int) (2 ^ min 8 IntKind.u64.bits)=(v : Int):=by rw [BG,hv]
    have k3:=key 8 z (by omega)
    simp [e3]
    refine fm (n:=56) (by omega) ?_ (by omega) ?_
    ·decide
    ·simp only [Nat.reducePow] at k1 k2 k3
     rw [<- hy] at k1;rw [<- hz] at k2;rw [<- hv] at k3;omega
   ·simp
    refine fm (n:=48) (by omega) ?_ (by omega) ?_
    ·decide
    ·simp only [Nat.reducePow] at k1 k2
     rw [<- hy] at k1;rw [<- hz] at k2;omega
  ·simp
   refine ac (fun h3=>?_) (fun h3=>?_) <;> simp at h3
   ·obtain ⟨v,hv⟩ : ∃ v : Nat,v=y / 256:=⟨_,rfl⟩
    have e3 : Int.fdiv (y : Int) (2 ^ min 8 IntKind.u64.bits)=(v : Int):=by rw [BG,hv]
    have k3:=key 8 y (by omega)
    simp [e3]
    refine fm (n:=40) (by omega) ?_ (by omega) ?_
    ·decide
    ·simp only [Nat.reducePow] at k1 k3
     rw [<- hy] at k1;rw [<- hv] at k3;omega
   ·simp
    refine fm (n:=32) (by omega) ?_ (by omega) ?_
    ·decide
    ·simp only [Nat.reducePow] at k1
     rw [<- hy] at k1;omega
 ·simp
  refine ac (fun h2=>?_) (fun h2=>?_) <;> simp at h2
  ·obtain ⟨z,hz⟩ : ∃ z : Nat,z=x / 65536:=⟨_,rfl⟩
   have e2 : Int.fdiv (x : Int) (2 ^ min 16 IntKind.u64.bits)=(z : Int):=by rw [Dc,hz]
   have k2:=key 16 x (by omega)
   simp [e2]
   refine ac (fun h3=>?_) (fun h3=>?_) <;> simp at h3
   ·obtain ⟨v,hv⟩ : ∃ v : Nat,v=z / 256:=⟨_,rfl⟩
    have e3 : Int.fdiv (z : Int) (2 ^ min 8 IntKind.u64.bits)=(v : Int):=by rw [BG,hv]
    have k3:=key 8 z (by omega)
    simp [e3]
    refine fm (n:=24) (by omega) ?_ (by omega) ?_
    ·decide
    ·simp only [Nat.reducePow] at k2 k3
     rw [<- hz] at k2;rw [<- hv] at k3;omega
   ·simp
    refine fm (n:=16) (by omega) ?_ (by omega) ?_
    ·decide
    ·simp only [Nat.reducePow] at k2
     rw [<- hz] at k2;omega
  ·simp
   refine ac (fun h3=>?_) (fun h3=>?_) <;> simp at h3
   ·obtain ⟨v,hv⟩ : ∃ v : Nat,v=x / 256:=⟨_,rfl⟩
    have e3 : Int.fdiv (x : Int) (2 ^ min 8 IntKind.u64.bits)=(v : Int):=by rw [BG,hv]
    have k3:=key 8 x (by omega)
    simp [e3]
    refine fm (n:=8) (by omega) ?_ (by omega) ?_
    ·decide
    ·simp only [Nat.reducePow] at k3
     rw [<- hv] at k3;omega
   ·simp
    have:=fm (x:=x) (n:=0) (m:=0) (z:=x) (by omega) rfl (by omega) (by omega)
    simpa using this
theorem lw (x : Nat) (hx : x < 18446744073709551616) : C 102 [.int .u64 x] (.int .i64 ((64 - bitLen x : Nat) : Int)) []:=by
 have hb : bitLen x <= 64:=by
  unfold bitLen
  split
  ·omega
  ·rename_i h
   have:=(Nat.log2_lt h).2 (show x < 2 ^ 64 by omega)
   omega
 refine ai hC (nf:=N102) rfl rfl ?_
 simp [N102]
 refine aa (Ag hC x hx) (.inl rfl) ?_
 have e : IntKind.wrap .i64 (64 - (bitLen x : Int))=((64 - bitLen x : Nat) : Int):=wrap_i64 (by omega) (by omega)
 simp [e]
end Go.Gv

namespace Go.Gv
structure DvI (u d a b q r : Nat) : Prop where
 sum : q * a + r=u
 ge : (u * 4294967296 + d) / (a * 4294967296 + b) <= q
 rlt : r < 4294967296
 qle : q <= 4294967297
section
variable {u d a b q r : Nat}
theorem Dv.mul (h : q * a + r=u) : q * (a * 4294967296 + b) + r * 4294967296=u * 4294967296 + q * b:=by
 subst h
 rw [x1G,<- x1a,x0C]
 omega
theorem Dv.lt (_ : 0 < a) (hu : u < a * 4294967296 + b) (hd : d < 4294967296) : (u * 4294967296 + d) / (a * 4294967296 + b) < 4294967296:=by
 rw [x1x (by omega)]
 have : (u + 1) * 4294967296 <= (a * 4294967296 + b) * 4294967296:=x0s _ hu
 omega
theorem DvI.first (ha : 2147483648 <= a) (ha2 : a < 4294967296) (hb : b < 4294967296) (hu : u < a * 4294967296 + b) (hd : d < 4294967296) : DvI u d a b (u / a) (u % a) where
 sum:=by rw [x0U];exact x06 u a
 rlt:=by have:=x1b u (show 0 < a by omega);omega
 ge:=by
  rw [Nat.le_div_iff_mul_le (by omega)]
  have h:=Nat.div_mul_le_self (u * 4294967296 + d) (a * 4294967296 + b)
  generalize (u * 4294967296 + d) / (a * 4294967296 + b)=Q at *
  rw [x1G,<- x1a] at h
  generalize Q * b=z at *
  generalize Q * a=x at *
  omega
 qle:=by
  have : u / a < 4294967298:=by
   rw [x1x (by omega)]
   omega
  omega
theorem DvI.more (h : DvI u d a b q r) (ha : 0 < a) (hu : u < a * 4294967296 + b) (hd : d < 4294967296) (hc : 4294967296 <= q \/ 4294967296 * r + d < q * b) : (u * 4294967296 + d) / (a * 4294967296 + b) + 1 <= q:=by
 rcases hc with hc | hc
 ·have:=Dv.lt (d:=d) ha hu hd
  omega
 ·have h1:=Dv.mul (b:=b) h.sum
  have : (u * 4294967296 + d) / (a * 4294967296 + b) < q:=by
   rw [x1x (by omega)]
   generalize q * (a * 4294967296 + b)=z at *
   generalize q * b=x at *
   omega
  omega
theorem DvI.done (h : DvI u d a b q r) (ha : 0 < a) (hc : q * b <= 4294967296 * r + d) : q=(u * 4294967296 + d) / (a * 4294967296 + b):=by
 have h1:=Dv.mul (b:=b) h.sum
 have h2:=h.ge
 have : q <= (u * 4294967296 + d) / (a * 4294967296 + b):=by
  rw [Nat.le_div_iff_mul_le (by omega)]
  generalize q * (a * 4294967296 + b)=z at *
  generalize q * b=x at *
  omega
 omega
theorem DvI.next (h : DvI u d a b q r) (ha : 0 < a) (hu : u < a * 4294967296 + b) (hd : d < 4294967296) (hc : 4294967296 <= q \/ 4294967296 * r + d < q * b) :
  1 <= q /\ (q - 1) * a + (r + a)=u /\ (u * 4294967296 + d) / (a * 4294967296 + b) <= q - 1 /\ q - 1 <= 4294967296:=by
 have h1:=h.more ha hu hd hc
 have h2:=h.qle
 have h3:=h.sum
 generalize (u * 4294967296 + d) / (a * 4294967296 + b)=Q at *
 obtain ⟨q',rfl⟩ : ∃ q',q=q' + 1:=⟨q - 1,by omega⟩
 refine ⟨by omega,?_,by omega,by omega⟩
 rw [x0C] at h3
 simp only [Nat.add_sub_cancel]
 omega
theorem Dv.stop (hs : q * a + r=u) (hg : (u * 4294967296 + d) / (a * 4294967296 + b) <= q) (hq : q <= 4294967296) (ha : 0 < a) (hb : b < 4294967296) (hr : 4294967296 <= r) : q=(u * 4294967296 + d) / (a * 4294967296 + b):=by
 have h1:=Dv.mul (b:=b) hs
 have h3 : q * b <= 4294967296 * 4294967295:=x0O hq (by omega)
 have : q <= (u * 4294967296 + d) / (a * 4294967296 + b):=by
  rw [Nat.le_div_iff_mul_le (by omega)]
  generalize q * (a * 4294967296 + b)=z at *
  generalize q * b=x at *
  omega
 omega
theorem DvI.bnd (h : DvI u d a b q r) (hb : b < 4294967296) : q * b < 18446744073709551616:=by
 have:=x0O h.qle (show b <= 4294967295 by omega)
 omega
end
theorem DM {N y S A K un0 y' : Nat} (hy : 0 < y) (hs : 0 < S) (hy' : y'=y * S) (hn : N * S=A * K + un0) :
  A / y' * K + (A % y' * K + un0) / y'=N / y /\ (A % y' * K + un0) % y' / S=N % y:=by
 have hyp : 0 < y':=by rw [hy'];exact Nat.mul_pos hy hs
 have e1:=x06 A y'
 have e2:=x06 (A % y' * K + un0) y'
 have l2:=x1b (A % y' * K + un0) hyp
 have tot : y' * (A / y' * K + (A % y' * K + un0) / y') + (A % y' * K + un0) % y'=N * S:=by
  rw [hn,x1G,x0L,e2,<- x1a,<- x0L,<- x0C,e1]
 have hq : N * S / y'=A / y' * K + (A % y' * K + un0) / y':=by
  rw [<- tot,Nat.mul_add_div hyp,Nat.div_eq_of_lt l2,x0W]
 have hr : N * S % y'=(A % y' * K + un0) % y':=by
  rw [<- tot,Nat.mul_add_mod,Nat.mod_eq_of_lt l2]
 rw [hy',Nat.mul_div_mul_right _ _ hs] at hq
 rw [hy',Nat.mul_mod_mul_right] at hr
 rw [hy'] at *
 exact ⟨hq.symm,by rw [<- hr,Nat.mul_div_cancel _ hs]⟩
end Go.Gv

namespace Go.Gv
section
variable {C : CC}
theorem jH {f : Nat -> D} {dst : Option Nat} {K K' : KT} {o : NOp} (h : aJ C f dst K o) (hk : ∀ ws ks,K ws ks -> K' ws ks) : aJ C f dst K' o:=by
 obtain ⟨ws,ks,h1,h2⟩:=nX h
 exact h2 K' (hk ws ks h1)
theorem iI {e : Env} {dst : Option Nat} {K K' : Env -> Prop} (h : ig e dst K) (hk : ∀ e,K e -> K' e) : ig e dst K':=by
 unfold ig at h ⊢
 split at h
 ·exact hk _ h
 ·exact hk _ h
theorem ip {K K' : Env -> Prop} (hk : ∀ e,K e -> K' e) : ∀ (ns : List az) (e : Env),iQ C K ns e -> iQ C K' ns e
 | [],e,h=>hk e h
 | o::os,e,h=>by
  rw [iQ] at h ⊢
  split at h
  ·exact jH h (fun ws ks h1=>ip hk os _ h1)
  ·split at h
   ·exact ⟨fun hb=>jH (h.1 hb) (fun ws ks h1=>ip hk os _ h1),fun hb=>iI (h.2 hb) (fun e h1=>ip hk os e h1)⟩
   ·exact iI h (fun e h1=>ip hk os e h1)
   ·exact h.elim
theorem io {hs : List Nat} {K K' : Env -> Prop} (hk : ∀ e,K e -> K' e) : ∀ (ns : List az) (e : Env) (acc : List (List Nat × List Nat)),jT C hs K ns e acc -> jT C hs K' ns e acc
 | [],e,acc,h=>⟨h.1,hk e h.2⟩
 | o::os,e,acc,h=>by
  rw [jT] at h ⊢
  refine ⟨h.1,?_⟩
  have h:=h.2
  split at h
  ·exact jH h (fun ws ks h1=>⟨h1.1,io hk os _ _ h1.2⟩)
  ·split at h
   ·exact ⟨fun hb=>jH (h.1 hb) (fun ws ks h1=>⟨h1.1,io hk os _ _ h1.2⟩),fun hb=>iI (h.2 hb) (fun e h1=>io hk os e _ h1)⟩
   ·exact iI h (fun e h1=>io hk os e _ h1)
   ·exact h.elim
theorem eb : ∀ (c : dJ) (Q Q' : cr -> Env -> Prop) (e : Env),(∀ t e,Q t e -> Q' t e) -> wpN C c Q e -> wpN C c Q' e
 | .skip,Q,Q',e,hq,h=>hq _ _ h
 | .reg dr hs keep ops,Q,Q',e,hq,h=>by
  cases dr with
  | false=>exact ip (fun e h=>hq _ _ h) ops e h
  | true=>exact io (fun e h=>hq _ _ h) ops e [] h
 | .seq x y,Q,Q',e,hq,h=>eb x _ _ e (fun t e h=>by
   cases t with
   | nrm=>exact eb y Q Q' e hq h
   | ext i=>exact hq _ _ h
   | ret=>exact hq _ _ h) h
 | .cond c x y,Q,Q',e,hq,h=>by
  rw [wpN] at h ⊢
  split at h
  ·exact ⟨fun hb=>eb x Q Q' e hq (h.1 hb),fun hb=>eb y Q Q' e hq (h.2 hb)⟩
  ·exact ⟨eb x Q Q' e hq h.1,eb y Q Q' e hq h.2⟩
  ·exact h.elim
 | .block id c,Q,Q',e,hq,h=>eb c _ _ e (fun t e h=>by
   cases t with
   | nrm=>exact hq _ _ h
   | ext i =>
    simp only at h ⊢
    split
    ·rename_i hi;rw [if_pos hi] at h;exact hq _ _ h
    ·rename_i hi;rw [if_neg hi] at h;exact hq _ _ h
   | ret=>exact hq _ _ h) h
 | .loop c,Q,Q',e,hq,h=>by
  obtain ⟨S,G,I,m,s0,h1,h2,h3⟩:=h
  refine ⟨S,G,I,m,s0,h1,h2,fun s hs=>eb c _ _ _ (fun t e h=>?_) (h3 s hs)⟩
  cases t with
  | nrm=>exact h
  | ext i=>exact hq _ _ h
  | ret=>exact hq _ _ h
 | .exit id,Q,Q',e,hq,h=>hq _ _ h
 | .ret,Q,Q',e,hq,h=>hq _ _ h
def vM (id : Nat) (S : Type) (G : S -> Env) (J : S -> Prop) (Q : cr -> Env -> Prop) : cr -> Env -> Prop:=fun t e=>match t with
 | .ext i=>if i=id then ∃ s,J s /\ kA e (G s) else Q (.ext i) e
 | t=>Q t e
variable {Q : cr -> Env -> Prop} {e : Env}
@[simp] theorem AH {id S G J u} : bF (vM id S G J Q) u .nrm e=bF Q ⟨⟩ .nrm e:=zR
@[simp] theorem AI {id S G J u} : bF (vM id S G J Q) u .ret e=bF Q ⟨⟩ .ret e:=zR
@[simp] theorem AG {id S G J u i} : bF (vM id S G J Q) u (.ext i) e=if i=id then ∃ s,J s /\ kA e (G s) else bF Q ⟨⟩ (.ext i) e:=zR
theorem rg {c : dJ} {u : Tag (c,Q)} (id : Nat) (S : Type) (G : S -> Env) (J : S -> Prop) (h : tZ C c (vM id S G J Q) ⟨⟩ e) (hr : ∀ s e,J s -> kA e (G s) -> bF Q ⟨⟩ (.ext id) e) : tZ C c Q u e :=
 eb (.loop c) (vM id S G J Q) Q e (fun t e g=>by
  cases t with
  | nrm=>exact g
  | ret=>exact g
  | ext i =>
   simp only [vM] at g
   by_cases hi : i=id
   ·rw [if_pos hi] at g
    obtain ⟨s,h1,h2⟩:=g
    rw [hi]
    exact hr s e h1 h2
   ·rw [if_neg hi] at g
    exact g) h
def Eg (S : Type) (G : S -> Env) (J : S -> Prop) (Q : cr -> Env -> Prop) : cr -> Env -> Prop:=fun t e=>match t with
 | .nrm=>∃ s,J s /\ kA e (G s)
 | t=>Q t e
@[simp] theorem AE {S G J u} : bF (Eg S G J Q) u .nrm e=∃ s,J s /\ kA e (G s):=zR
@[simp] theorem AF {S G J u} : bF (Eg S G J Q) u .ret e=bF Q ⟨⟩ .ret e:=zR
@[simp] theorem AD {S G J u i} : bF (Eg S G J Q) u (.ext i) e=bF Q ⟨⟩ (.ext i) e:=zR
end
@[simp] theorem LN {C : CC} {hs : Option (List Nat)} {K : Env -> Prop} {ns : List az} {dst : Option Nat} {u : Tag (hs,K,ns)} {e : Env} {R : List Nat} {acc : List (List Nat × List Nat)} {α : Type} [Inhabited α] {n : Nat} {ag : Bool} {p : Pa} {xs : List α} {f : α -> List D} {i off : Nat} :
  lY C hs K ns dst u e R acc n ag p (xs.map f) i off=(i < xs.length /\ off + n <= (f xs[i]!).length /\ match ag with
    | true=>((((f xs[i]!).drop off).take n).all isV=true -> dW C hs K ns dst ⟨⟩ e R acc (.agg (((f xs[i]!).drop off).take n))) /\
      ((((f xs[i]!).drop off).take n).all isV=false -> dW C hs K ns dst ⟨⟩ e R acc (.agx ((((f xs[i]!).drop off).take n).mapIdx fun j c=>ldc p i (off + j) c)))
    | false=>dW C hs K ns dst ⟨⟩ e R acc (ldc p i off (((f xs[i]!).drop off).headD .any))):=by
 apply propext
 constructor
 ·rintro ⟨r,h,h1,h2⟩
  rw [x0B,x0m] at h
  obtain ⟨x,hx,rfl⟩:=h
  obtain ⟨hi,rfl⟩:=x0c.1 hx
  rw [x0f xs i hi]
  refine ⟨hi,h1,?_⟩
  cases ag <;> exact h2
 ·rintro ⟨hi,h1,h2⟩
  rw [x0f xs i hi] at h1 h2
  refine uv (r:=f xs[i]) (by rw [x0B,x0e hi];rfl) h1 ?_
  cases ag <;> exact h2
@[simp] theorem Hf {b all ks n} : aW ((b,all)::ks) (.ptx n)=if n.any (aN b all) then .any else aW ks (.ptx n):=by
 have h : aW ((b,all)::ks) (.ptx n)=bif (n.any (aN b all) || aL ks (.ptx n)) then .any else .ptx n:=cn ..
 rw [h,cn]
 cases n.any (aN b all) <;> rfl
@[simp] theorem Hh {b all ks k sz n} : aW ((b,all)::ks) (.rfx k sz n)=if n.any (aN b all) then .any else aW ks (.rfx k sz n):=by
 have h : aW ((b,all)::ks) (.rfx k sz n)=bif (n.any (aN b all) || aL ks (.rfx k sz n)) then .any else .rfx k sz n:=cn ..
 rw [h,cn]
 cases n.any (aN b all) <;> rfl
@[simp] theorem Hk {b all ks n} : aW ((b,all)::ks) (.tpx n)=if n.any (aN b all) then .any else aW ks (.tpx n):=by
 have h : aW ((b,all)::ks) (.tpx n)=bif (n.any (aN b all) || aL ks (.tpx n)) then .any else .tpx n:=cn ..
 rw [h,cn]
 cases n.any (aN b all) <;> rfl
@[simp] theorem Hv {b all n es} : aN b all (slx n es)=false:=by cases n <;> cases es <;> rfl
@[simp] theorem Hu {b all p k n} : aN b all (.ref p k n)=ce b all p:=zR
@[simp] theorem Hq {b all p k n} : aN b all (.adr p k n)=ce b all p:=zR
@[simp] theorem Hs {b all c} : aN b all (.mrf c)=(all && c == b):=zR
@[simp] theorem Hr {b all k n} : aN b all (.int k n)=false:=zR
@[simp] theorem Ed {b all n} : aN b all (.bool n)=false:=zR
@[simp] theorem Hw {b all n} : aN b all (.str n)=false:=zR
@[simp] theorem Ef {b all} : aN b all .nils=false:=zR
@[simp] theorem Ee {b all} : aN b all .nilp=false:=zR
@[simp] theorem La {b all n} : aN b all (.sl n)=false:=zR
@[simp] theorem Ht {b all n} : aN b all (.ptr n)=false:=zR
@[simp] theorem K0 {b all g n} : aN b all (.fn g n)=false:=zR
@[simp] theorem Hc {b all ks c} : aW ((b,all)::ks) (.mrf c)=if (all && c == b) then .any else aW ks (.mrf c):=by
 have h : aW ((b,all)::ks) (.mrf c)=bif ((all && c == b) || aL ks (.mrf c)) then .any else .mrf c:=cn ..
 rw [h,cn]
 cases all && c == b <;> rfl
end Go.Gv

namespace Go.Gv
theorem ou (a b : Nat) : Int.tdiv (a : Int) (b : Int)=((a / b : Nat) : Int):=by
 rw [Int.tdiv_eq_ediv_of_nonneg (by omega)];norm_cast
theorem Dh (a b : Nat) : Int.tmod (a : Int) (b : Int)=((a % b : Nat) : Int):=by
 rw [Int.tmod_eq_emod_of_nonneg (by omega)];norm_cast
theorem ft (a : Int) : IntKind.u64.wrap a=a % 18446744073709551616:=by
 have e1 : IntKind.u64.signed=false:=rfl
 have e3 : (2 ^ IntKind.u64.bits : Int)=18446744073709551616:=rfl
 unfold IntKind.wrap
 simp only [e1,e3,Bool.false_and]
 simp
theorem orN (a b i : Nat) (hb : b < 2 ^ i) (h : a * 2 ^ i + b < 18446744073709551616) : bits .or .u64 ((a * 2 ^ i : Nat) : Int) (b : Int)=((a * 2 ^ i + b : Nat) : Int):=by
 rw [bits_or_u64_nat _ _ (by omega) (by omega),x0U a,Nat.two_pow_add_eq_or_of_lt hb]
theorem vG (a m b s : Nat) : (a * m + b) * s=a * s * m + b * s:=by rw [x0C,Nat.mul_right_comm]
theorem L0 {H B W U d1 d0 : Nat} (hU : U=H + B) (h1 : d1=W / 4294967296) (h0 : d0=W % 4294967296) : H * 18446744073709551616 + (B * 18446744073709551616 + W)=(U * 4294967296 + d1) * 4294967296 + d0:=by omega
theorem EI {y s : Nat} (h0 : y ≠ 0) (hy : y < 18446744073709551616) (hs : s=64 - bitLen y) : s <= 63 /\ 9223372036854775808 <= y * 2 ^ s /\ y * 2 ^ s < 18446744073709551616:=by
 obtain ⟨h1,h2⟩:=bitLen_spec y
 have h3:=h2 h0
 have hb : bitLen y <= 64:=by
  unfold bitLen
  rw [if_neg h0]
  have:=(Nat.log2_lt h0).2 (show y < 2 ^ 64 by omega)
  omega
 have hb1 : 1 <= bitLen y:=by unfold bitLen;rw [if_neg h0];omega
 have e : bitLen y + s=64:=by omega
 refine ⟨by omega,?_,?_⟩
 ·have:=x0s (2 ^ s) h3
  rw [<- Nat.pow_add,show bitLen y - 1 + s=63 by omega] at this
  omega
 ·have:=Nat.mul_lt_mul_of_pos_right h1 (x1v s)
  rw [<- Nat.pow_add,e] at this
  omega
variable {C : CC} (hC : aw prog C)
include hC
theorem tC (hi lo y : Nat) (h : hi < y) (hy : y < 18446744073709551616) (hl : lo < 18446744073709551616) :
  C 92 [.int .u64 hi,.int .u64 lo,.int .u64 y] (.tup [.int .u64 (((hi * 18446744073709551616 + lo) / y : Nat) : Int),.int .u64 (((hi * 18446744073709551616 + lo) % y : Nat) : Int)]) []:=by
 refine ai hC (nf:=N92) rfl rfl ?_
 have h1 : ¬ y=0:=by omega
 have h2 : ¬ y <= hi:=by omega
 generalize hres : D.tup [D.int .u64 (((hi * 18446744073709551616 + lo) / y : Nat) : Int),.int .u64 (((hi * 18446744073709551616 + lo) % y : Nat) : Int)]=res
 simp [N92]
 refine ac (fun h=>?_) (fun _=>?_)
 ·simp at h;omega
 simp
 refine ac (fun h=>?_) (fun _=>?_)
 ·simp at h;omega
 simp
 refine ac (fun h=>?_) (fun h3=>?_)
 ·simp at h
  have : hi=0:=by omega
  subst this
  have hq : lo / y < 18446744073709551616:=by have:=Nat.div_le_self lo y;omega
  obtain ⟨q,hq'⟩ : ∃ q,q=lo / y:=⟨_,rfl⟩
  obtain ⟨r,hr'⟩ : ∃ r,r=lo % y:=⟨_,rfl⟩
  have e1 : Int.tdiv (lo : Int) (y : Int)=(q : Int):=by rw [ou,hq']
  have e2 : Int.tmod (lo : Int) (y : Int)=(r : Int):=by rw [Dh,hr']
  simp [h1,e1,e2,bu q (by omega)]
  refine ⟨am (by decide +kernel),?_⟩
  rw [<- hres,hq',hr',x1A,x05]
 simp
 refine aa (lw hC y hy) (.inl rfl) ?_
 generalize hs : 64 - bitLen y=s
 obtain ⟨s1,s2,s3⟩:=EI h1 hy hs.symm
 have w1 : IntKind.u64.wrap (s : Int)=(s : Int):=bu _ (by omega)
 have w2 : IntKind.u64.wrap (64 - (s : Int))=((64 - s : Nat) : Int):=by rw [ft];omega
 have m1 : min s IntKind.u64.bits=s:=by show min s 64=s;omega
 have m2 : min (64 - s) IntKind.u64.bits=64 - s:=by show min (64 - s) 64=64 - s;omega
 obtain ⟨Y,hY⟩ : ∃ Y,Y=y * 2 ^ s:=⟨_,rfl⟩
 obtain ⟨H,hH⟩ : ∃ H,H=hi * 2 ^ s:=⟨_,rfl⟩
 obtain ⟨W,hW⟩ : ∃ W,W=lo * 2 ^ s % 18446744073709551616:=⟨_,rfl⟩
 obtain ⟨B,hB⟩ : ∃ B,B=lo / 2 ^ (64 - s):=⟨_,rfl⟩
 rw [<- hY] at s2 s3
 have hHY : H + 2 ^ s <= Y:=by
  have:=x0s (2 ^ s) h
  rw [hH,hY]
  rw [x04] at this
  exact this
 have hBs : B < 2 ^ s:=by
  rw [hB,x1x (x1v _),<- Nat.pow_add,show s + (64 - s)=64 by omega]
  exact hl
 obtain ⟨U,hU⟩ : ∃ U,U=H + B:=⟨_,rfl⟩
 have hUY : U < Y:=by omega
 have eY : IntKind.u64.wrap ((y : Int) * 2 ^ s)=(Y : Int):=by
  rw [show (y : Int) * 2 ^ s=(Y : Int) by rw [hY];norm_cast];exact bu _ s3
 have eH : IntKind.u64.wrap ((hi : Int) * 2 ^ s)=(H : Int):=by
  rw [show (hi : Int) * 2 ^ s=(H : Int) by rw [hH];norm_cast];exact bu _ (by omega)
 have eW : IntKind.u64.wrap ((lo : Int) * 2 ^ s)=(W : Int):=by
  rw [show (lo : Int) * 2 ^ s=((lo * 2 ^ s : Nat) : Int) by norm_cast,zO,hW]
 have eB : Int.fdiv (lo : Int) (2 ^ (64 - s))=(B : Int):=by rw [mK,hB]
 have eU : bits .or .u64 (H : Int) (B : Int)=(U : Int):=by
  rw [hU,hH];exact orN hi B s hBs (by omega)
 obtain ⟨Y1,hY1⟩ : ∃ Y1,Y1=Y / 4294967296:=⟨_,rfl⟩
 obtain ⟨Y0,hY0⟩ : ∃ Y0,Y0=Y % 4294967296:=⟨_,rfl⟩
 obtain ⟨d1,hd1⟩ : ∃ d1,d1=W / 4294967296:=⟨_,rfl⟩
 obtain ⟨d0,hd0⟩ : ∃ d0,d0=W % 4294967296:=⟨_,rfl⟩
 have eY1 : Int.fdiv (Y : Int) (2 ^ min 32 IntKind.u64.bits)=(Y1 : Int):=by rw [oi,hY1]
 have eY0 : bits .and .u64 (Y : Int) 4294967295=(Y0 : Int):=by rw [kQ _ s3,hY0]
 have hW64 : W < 18446744073709551616:=by rw [hW];exact x1b _ (by omega)
 have ed1 : Int.fdiv (W : Int) (2 ^ min 32 IntKind.u64.bits)=(d1 : Int):=by rw [oi,hd1]
 have ed0 : bits .and .u64 (W : Int) 4294967295=(d0 : Int):=by rw [kQ _ hW64,hd0]
 have hY1a : 2147483648 <= Y1:=by omega
 have hY1b : Y1 < 4294967296:=by omega
 have hY0b : Y0 < 4294967296:=by omega
 have hd1b : d1 < 4294967296:=by omega
 have hd0b : d0 < 4294967296:=by omega
 have hYs : Y1 * 4294967296 + Y0=Y:=by omega
 have nz : ¬ Y1=0:=by omega
 have inv1:=DvI.first hY1a hY1b hY0b (u:=U) (d:=d1) (by omega) hd1b
 obtain ⟨q,hq⟩ : ∃ q,q=U / Y1:=⟨_,rfl⟩
 obtain ⟨r,hr⟩ : ∃ r,r=U % Y1:=⟨_,rfl⟩
 rw [<- hq,<- hr] at inv1
 have eq1 : Int.tdiv (U : Int) (Y1 : Int)=(q : Int):=by rw [ou,hq]
 have eq2 : IntKind.u64.wrap (q : Int)=(q : Int):=bu _ (by have:=inv1.qle;omega)
 have sub1 : ∀ (u a q r : Nat),q * a + r=u -> u < 18446744073709551616 -> IntKind.u64.wrap ((u : Int) - IntKind.u64.wrap ((q : Int) * (a : Int)))=(r : Int):=fun u a q r e hu=>by
  rw [p8,ft,ft]
  generalize q * a=z at *
  omega
 have er : IntKind.u64.wrap ((U : Int) - IntKind.u64.wrap ((q : Int) * (Y1 : Int)))=(r : Int):=sub1 _ _ _ _ inv1.sum (by omega)
 simp [w1,w2,m1,m2,eY,eH,eW,eB,eU,eY1,eY0,ed1,ed0,eq1,eq2,er,nz]
 have bm : ∀ {u d q r : Nat},DvI u d Y1 Y0 q r -> IntKind.u64.wrap ((q : Int) * (Y0 : Int))=((q * Y0 : Nat) : Int):=fun i=>by rw [p8];exact bu _ (i.bnd hY0b)
 have bp : ∀ {u d q r : Nat},d < 4294967296 -> DvI u d Y1 Y0 q r -> IntKind.u64.wrap (IntKind.u64.wrap (4294967296 * (r : Int)) + (d : Int))=((4294967296 * r + d : Nat) : Int):=fun {u d q r} hd i=>by
  have:=i.rlt
  rw [show (4294967296 : Int) * (r : Int)=((4294967296 * r : Nat) : Int) by omega,bu (4294967296 * r) (by omega),sv]
  exact bu _ (by omega)
 obtain ⟨Q1,hQ1⟩ : ∃ Q1,Q1=(U * 4294967296 + d1) / (Y1 * 4294967296 + Y0):=⟨_,rfl⟩
 refine rg 0 Nat (fun x=>[(2,.int .u64 Y),(8,.int .u64 s),(9,.int .u64 Y1),(10,.int .u64 Y0),(11,.int .u64 U),(13,.int .u64 d1),(14,.int .u64 d0),(15,.int .u64 x)]) (fun x=>x=Q1) ?_ ?_
 ·refine au (Nat × Nat) (fun x=>[(2,.int .u64 Y),(8,.int .u64 s),(9,.int .u64 Y1),(10,.int .u64 Y0),(11,.int .u64 U),(13,.int .u64 d1),(14,.int .u64 d0),(15,.int .u64 x.1),(16,.int .u64 x.2)]) (fun x=>DvI U d1 Y1 Y0 x.1 x.2) (fun x=>4294967296 - x.2) (q,r) inv1 (by simp) ?_
  rintro ⟨a,c⟩ inv
  simp only at inv
  have b1:=bm inv
  have b2:=bp hd1b inv
  have b3:=inv.rlt
  have b4:=inv.qle
  have fin : (4294967296 <= a \/ 4294967296 * c + d1 < a * Y0) -> ∃ a' c' : Nat,IntKind.u64.wrap ((a : Int) - 1)=(a' : Int) /\ IntKind.u64.wrap ((c : Int) + (Y1 : Int))=(c' : Int) /\ c'=c + Y1 /\ (4294967296 <= c' -> a'=Q1) /\ (c' < 4294967296 -> DvI U d1 Y1 Y0 a' c'):=fun hc=>by
   obtain ⟨n1,n2,n3,n4⟩:=inv.next (by omega) (by rw [hYs];exact hUY) hd1b hc
   refine ⟨a - 1,c + Y1,by rw [ft];omega,by rw [ft];omega,rfl,fun hc=>(Dv.stop n2 n3 n4 (by omega) hY0b hc).trans hQ1.symm,fun hc=>⟨n2,n3,hc,by omega⟩⟩
  simp
  refine ac (fun c1=>?_) (fun c1=>?_) <;> simp [c1] <;> simp at c1
  ·obtain ⟨a',c',k1,k2,k3,k4,k5⟩:=fin (.inl (by omega))
   simp [k1,k2]
   refine ac (fun c2=>?_) (fun c2=>?_) <;> simp [c2,k1,k2] <;> simp at c2
   ·rw [k4 (by omega)]
   ·exact ⟨_,_,k5 (by omega),by omega,rfl,rfl⟩
  ·simp [b1,b2]
   refine ac (fun c3=>?_) (fun c3=>?_) <;> simp [c3] <;> simp at c3
   ·obtain ⟨a',c',k1,k2,k3,k4,k5⟩:=fin (.inr (by omega))
    simp [k1,k2]
    refine ac (fun c2=>?_) (fun c2=>?_) <;> simp [c2,k1,k2] <;> simp at c2
    ·rw [k4 (by omega)]
    ·exact ⟨_,_,k5 (by omega),by omega,rfl,rfl⟩
   ·rw [(inv.done (by omega) (by omega)).trans hQ1.symm]
 intro q1 e hq1 hw
 subst hq1
 simp at hw
 obtain ⟨g2,g8,g9,g10,g11,g13,g14,g15⟩:=hw
 obtain ⟨V,hV⟩ : ∃ V,V=(U * 4294967296 + d1) % (Y1 * 4294967296 + Y0):=⟨_,rfl⟩
 have hVY : V < Y:=by rw [hV,hYs];exact x1b _ (by omega)
 have sum1 : q1 * Y + V=U * 4294967296 + d1:=by rw [hQ1,hV,hYs,x0U];exact x06 _ _
 have eV : IntKind.u64.wrap (IntKind.u64.wrap (IntKind.u64.wrap ((U : Int) * 4294967296) + (d1 : Int)) - IntKind.u64.wrap ((q1 : Int) * (Y : Int)))=(V : Int):=by
  rw [p8 q1 Y]
  simp only [ft]
  generalize q1 * Y=z at *
  omega
 have inv2:=DvI.first hY1a hY1b hY0b (u:=V) (d:=d0) (by omega) hd0b
 obtain ⟨q2,hq2⟩ : ∃ q,q=V / Y1:=⟨_,rfl⟩
 obtain ⟨r2,hr2⟩ : ∃ r,r=V % Y1:=⟨_,rfl⟩
 rw [<- hq2,<- hr2] at inv2
 have eq3 : Int.tdiv (V : Int) (Y1 : Int)=(q2 : Int):=by rw [ou,hq2]
 have eq4 : IntKind.u64.wrap (q2 : Int)=(q2 : Int):=bu _ (by have:=inv2.qle;omega)
 have er2 : IntKind.u64.wrap ((V : Int) - IntKind.u64.wrap ((q2 : Int) * (Y1 : Int)))=(r2 : Int):=sub1 _ _ _ _ inv2.sum (by omega)
 simp [g2,g8,g9,g10,g11,g13,g14,g15,eV,eq3,eq4,er2,nz]
 obtain ⟨Q0,hQ0⟩ : ∃ Q0,Q0=(V * 4294967296 + d0) / (Y1 * 4294967296 + Y0):=⟨_,rfl⟩
 refine rg 2 Nat (fun x=>[(2,.int .u64 Y),(8,.int .u64 s),(14,.int .u64 d0),(15,.int .u64 q1),(17,.int .u64 V),(18,.int .u64 x)]) (fun x=>x=Q0) ?_ ?_
 ·refine au (Nat × Nat) (fun x=>[(2,.int .u64 Y),(8,.int .u64 s),(9,.int .u64 Y1),(10,.int .u64 Y0),(14,.int .u64 d0),(15,.int .u64 q1),(16,.int .u64 x.2),(17,.int .u64 V),(18,.int .u64 x.1)]) (fun x=>DvI V d0 Y1 Y0 x.1 x.2) (fun x=>4294967296 - x.2) (q2,r2) inv2 (by simp) ?_
  rintro ⟨a,c⟩ inv
  simp only at inv
  have b1:=bm inv
  have b2:=bp hd0b inv
  have b3:=inv.rlt
  have b4:=inv.qle
  have fin : (4294967296 <= a \/ 4294967296 * c + d0 < a * Y0) -> ∃ a' c' : Nat,IntKind.u64.wrap ((a : Int) - 1)=(a' : Int) /\ IntKind.u64.wrap ((c : Int) + (Y1 : Int))=(c' : Int) /\ c'=c + Y1 /\ (4294967296 <= c' -> a'=Q0) /\ (c' < 4294967296 -> DvI V d0 Y1 Y0 a' c'):=fun hc=>by
   obtain ⟨n1,n2,n3,n4⟩:=inv.next (by omega) (by rw [hYs];exact hVY) hd0b hc
   refine ⟨a - 1,c + Y1,by rw [ft];omega,by rw [ft];omega,rfl,fun hc=>(Dv.stop n2 n3 n4 (by omega) hY0b hc).trans hQ0.symm,fun hc=>⟨n2,n3,hc,by omega⟩⟩
  simp
  refine ac (fun c1=>?_) (fun c1=>?_) <;> simp [c1] <;> simp at c1
  ·obtain ⟨a',c',k1,k2,k3,k4,k5⟩:=fin (.inl (by omega))
   simp [k1,k2]
   refine ac (fun c2=>?_) (fun c2=>?_) <;> simp [c2,k1,k2] <;> simp at c2
   ·rw [k4 (by omega)]
   ·exact ⟨_,_,k5 (by omega),by omega,rfl,rfl⟩
  ·simp [b1,b2]
   refine ac (fun c3=>?_) (fun c3=>?_) <;> simp [c3] <;> simp at c3
   ·obtain ⟨a',c',k1,k2,k3,k4,k5⟩:=fin (.inr (by omega))
    simp [k1,k2]
    refine ac (fun c2=>?_) (fun c2=>?_) <;> simp [c2,k1,k2] <;> simp at c2
    ·rw [k4 (by omega)]
    ·exact ⟨_,_,k5 (by omega),by omega,rfl,rfl⟩
   ·rw [(inv.done (by omega) (by omega)).trans hQ0.symm]
 intro q0 e hq0 hw
 subst hq0
 simp at hw
 obtain ⟨g2,g8,g14,g15,g17,g18⟩:=hw
 have l1 : q1 < 4294967296:=by rw [hQ1];exact Dv.lt (by omega) (by omega) hd1b
 have l0 : q0 < 4294967296:=by rw [hQ0];exact Dv.lt (by omega) (by omega) hd0b
 obtain ⟨R,hR⟩ : ∃ R,R=(V * 4294967296 + d0) % (Y1 * 4294967296 + Y0):=⟨_,rfl⟩
 have hRY : R < Y:=by rw [hR,hYs];exact x1b _ (by omega)
 have sum0 : q0 * Y + R=V * 4294967296 + d0:=by rw [hQ0,hR,hYs,x0U];exact x06 _ _
 have eR : IntKind.u64.wrap (IntKind.u64.wrap (IntKind.u64.wrap ((V : Int) * 4294967296) + (d0 : Int)) - IntKind.u64.wrap ((q0 : Int) * (Y : Int)))=(R : Int):=by
  rw [p8 q0 Y]
  simp only [ft]
  generalize q0 * Y=z at *
  omega
 obtain ⟨Z,hZ⟩ : ∃ Z,Z=R / 2 ^ s:=⟨_,rfl⟩
 have eZ : Int.fdiv (R : Int) (2 ^ s)=(Z : Int):=by rw [mK,hZ]
 have eQ : IntKind.u64.wrap (IntKind.u64.wrap ((q1 : Int) * 4294967296) + (q0 : Int))=((q1 * 4294967296 + q0 : Nat) : Int):=by
  simp only [ft]
  omega
 obtain ⟨T,hT⟩ : ∃ T,T=q1 * 4294967296 + q0:=⟨_,rfl⟩
 rw [<- hT] at eQ
 simp [g2,g8,g14,g15,g17,g18,w1,m1,eR,eZ,eQ]
 have hW2 : lo * 2 ^ s=B * 18446744073709551616 + W:=by
  have e1 : lo * 2 ^ s / 18446744073709551616=B:=by
   rw [hB,show (18446744073709551616 : Nat)=2 ^ (64 - s) * 2 ^ s by rw [<- Nat.pow_add,show 64 - s + s=64 by omega],Nat.mul_div_mul_right _ _ (x1v s)]
  have e2:=x06 (lo * 2 ^ s) 18446744073709551616
  omega
 have tot : (hi * 18446744073709551616 + lo) * 2 ^ s=(U * 4294967296 + d1) * 4294967296 + d0:=by
  rw [vG,hW2,<- hH]
  exact L0 hU hd1 hd0
 obtain ⟨f1,f2⟩:=DM (N:=hi * 18446744073709551616 + lo) (y:=y) (S:=2 ^ s) (A:=U * 4294967296 + d1) (K:=4294967296) (un0:=d0) (y':=Y1 * 4294967296 + Y0) (by omega) (x1v s) (by rw [hYs,hY]) tot
 rw [<- hV,<- hQ1,<- hQ0,<- hT] at f1
 rw [<- hV,<- hR,<- hZ] at f2
 rw [<- hres,f1,f2]
end Go.Gv

namespace Go.Gv
def bq (n : Nat) : D:=.agg [.int .u64 ((n / 18446744073709551616 : Nat) : Int),.int .u64 ((n % 18446744073709551616 : Nat) : Int)]
def ga (x : Nat) : Nat -> Nat -> Nat
 | 0,r=>r
 | i + 1,r=>ga x i (if (r + 2 ^ i) * (r + 2 ^ i) <= x then r + 2 ^ i else r)
def di (x : Nat) : Nat:=ga x 63 0
theorem p9 {x k : Nat} : x * k=(x / 18446744073709551616 * k + x % 18446744073709551616 * k / 18446744073709551616) * 18446744073709551616 + x % 18446744073709551616 * k % 18446744073709551616:=by
 have e1:=x06 x 18446744073709551616
 have e2:=x06 (x % 18446744073709551616 * k) 18446744073709551616
 have e3 : x * k=(18446744073709551616 * (x / 18446744073709551616) + x % 18446744073709551616) * k:=by rw [e1]
 rw [x0C,x1a] at e3
 generalize x / 18446744073709551616 * k=A at *
 generalize x % 18446744073709551616 * k=B at *
 omega
theorem Ax {x n : Nat} (hn : 0 < n) : x / n=(x / 18446744073709551616 / n) * 18446744073709551616 + (x / 18446744073709551616 % n * 18446744073709551616 + x % 18446744073709551616) / n /\ (x / 18446744073709551616 % n * 18446744073709551616 + x % 18446744073709551616) / n < 18446744073709551616:=by
 obtain ⟨H,hH⟩ : ∃ H,H=x / 18446744073709551616:=⟨_,rfl⟩
 obtain ⟨L,hL⟩ : ∃ L,L=x % 18446744073709551616:=⟨_,rfl⟩
 rw [<- hH,<- hL]
 have hx : x=H * 18446744073709551616 + L:=by omega
 have hl : L < 18446744073709551616:=by omega
 have e1:=x06 H n
 have l1:=x1b H hn
 generalize H / n=a at *
 generalize H % n=b at *
 constructor
 ·rw [hx,<- e1,show (n * a + b) * 18446744073709551616 + L=n * (a * 18446744073709551616) + (b * 18446744073709551616 + L) by rw [x0C,x1a,x0L],Nat.mul_add_div hn]
 ·rw [x1x hn]
  have : (b + 1) * 18446744073709551616 <= n * 18446744073709551616:=x0s _ l1
  rw [x0U n] at this
  omega
theorem iE (x i r : Nat) : ga x (i + 1) r=ga x i (if (r + 2 ^ i) * (r + 2 ^ i) <= x then r + 2 ^ i else r):=rfl
variable {C : CC} (hC : aw prog C)
include hC
theorem pp (a b : Nat) (ha : a < 9223372036854775808) (hb : b < 9223372036854775808) : C 74 [.int .i64 a,.int .i64 b] (bq (a * b)) []:=by
 refine ai hC (nf:=N74) rfl rfl ?_
 simp [N74,bu a (by omega),bu b (by omega)]
 refine aa (iu hC a b (by omega) (by omega)) (.inl rfl) ?_
 obtain ⟨h,hh⟩ : ∃ h,h=a * b / 18446744073709551616:=⟨_,rfl⟩
 obtain ⟨l,hl⟩ : ∃ l,l=a * b % 18446744073709551616:=⟨_,rfl⟩
 rw [<- hh,<- hl,bq,<- hh,<- hl]
 simp
theorem uL (x k : Nat) (hk : k < 9223372036854775808) (hx : x < 340282366920938463463374607431768211456) (hxk : x * k < 340282366920938463463374607431768211456) : C 75 [bq x,.int .i64 k] (bq (x * k)) []:=by
 have e:=p9 (x:=x) (k:=k)
 obtain ⟨h,hh⟩ : ∃ h,h=x / 18446744073709551616:=⟨_,rfl⟩
 obtain ⟨l,hl⟩ : ∃ l,l=x % 18446744073709551616:=⟨_,rfl⟩
 have hh' : h < 18446744073709551616:=by omega
 have hl' : l < 18446744073709551616:=by omega
 rw [<- hh,<- hl] at e
 obtain ⟨p,hp⟩ : ∃ p,p=l * k / 18446744073709551616:=⟨_,rfl⟩
 obtain ⟨q,hq⟩ : ∃ q,q=l * k % 18446744073709551616:=⟨_,rfl⟩
 rw [<- hp,<- hq] at e
 have hq' : q < 18446744073709551616:=by omega
 obtain ⟨z,hz⟩ : ∃ z,z=h * k:=⟨_,rfl⟩
 obtain ⟨y,hy⟩ : ∃ y,y=x * k:=⟨_,rfl⟩
 rw [<- hz,<- hy] at e
 rw [<- hy] at hxk
 obtain ⟨t,ht⟩ : ∃ t,t=z + p:=⟨_,rfl⟩
 rw [<- ht] at e
 have e1 : y / 18446744073709551616=t:=by omega
 have e2 : y % 18446744073709551616=q:=by omega
 have ht' : t < 18446744073709551616:=by omega
 have et : IntKind.u64.wrap ((p : Int) + IntKind.u64.wrap ((h : Int) * (k : Int)))=(t : Int):=by
  rw [p8 h k,<- hz,ft,ft]
  clear hxk hx e e1 e2 hq hp hl hh hy hz
  omega
 have r1 : bq (x * k)=.agg [.int .u64 (t : Int),.int .u64 (q : Int)]:=by rw [bq,<- hy,e1,e2]
 have r2 : bq x=.agg [.int .u64 (h : Int),.int .u64 (l : Int)]:=by rw [bq,<- hh,<- hl]
 rw [r1,r2]
 clear r1 r2 e1 e2 e hh hl hx hxk
 refine ai hC (nf:=N75) rfl rfl ?_
 simp [N75,bu k (by omega)]
 refine aa (iu hC l k hl' (by omega)) (.inl rfl) ?_
 rw [<- hp,<- hq]
 simp [et,bu k (by omega)]
theorem x8 (x n : Nat) (hn : 0 < n) (hn2 : n < 9223372036854775808) (hx : x < 340282366920938463463374607431768211456) : C 76 [bq x,.int .i64 n] (bq (x / n)) []:=by
 obtain ⟨e,e0⟩:=Ax (x:=x) hn
 obtain ⟨h,hh⟩ : ∃ h,h=x / 18446744073709551616:=⟨_,rfl⟩
 obtain ⟨l,hl⟩ : ∃ l,l=x % 18446744073709551616:=⟨_,rfl⟩
 have hh' : h < 18446744073709551616:=by omega
 have hl' : l < 18446744073709551616:=by omega
 rw [<- hh,<- hl] at e e0
 obtain ⟨p,hp⟩ : ∃ p,p=h / n:=⟨_,rfl⟩
 obtain ⟨r,hr⟩ : ∃ r,r=h % n:=⟨_,rfl⟩
 rw [<- hp,<- hr] at e
 rw [<- hr] at e0
 obtain ⟨q,hq⟩ : ∃ q,q=(r * 18446744073709551616 + l) / n:=⟨_,rfl⟩
 rw [<- hq] at e e0
 have hrn : r < n:=by rw [hr];exact x1b _ hn
 have e1 : x / n / 18446744073709551616=p:=by omega
 have e2 : x / n % 18446744073709551616=q:=by omega
 have hpl : p < 18446744073709551616:=by rw [hp];have:=Nat.div_le_self h n;omega
 have ep : Int.tdiv (h : Int) (n : Int)=(p : Int):=by rw [ou,hp]
 have er : Int.tmod (h : Int) (n : Int)=(r : Int):=by rw [Dh,hr]
 have r1 : bq (x / n)=.agg [.int .u64 (p : Int),.int .u64 (q : Int)]:=by rw [bq,e1,e2]
 have r2 : bq x=.agg [.int .u64 (h : Int),.int .u64 (l : Int)]:=by rw [bq,<- hh,<- hl]
 rw [r1,r2]
 clear r1 r2 e1 e2 e hh hl hx
 refine ai hC (nf:=N76) rfl rfl ?_
 have hn0 : ¬ n=0:=by omega
 simp [N76,bu n (by omega),hn0,ep,er,bu p hpl]
 refine ⟨am (by decide +kernel),?_⟩
 refine aa (tC hC r l n hrn (by omega) hl') (.inl rfl) ?_
 rw [<- hq]
 simp
theorem yF (x : Nat) : C 77 [bq x] (.int .i64 (di x)) []:=by
 obtain ⟨h,hh⟩ : ∃ h,h=x / 18446744073709551616:=⟨_,rfl⟩
 obtain ⟨l,hl⟩ : ∃ l,l=x % 18446744073709551616:=⟨_,rfl⟩
 have r2 : bq x=.agg [.int .u64 (h : Int),.int .u64 (l : Int)]:=by rw [bq,<- hh,<- hl]
 rw [r2]
 obtain ⟨N,hN⟩ : ∃ N,N=di x:=⟨_,rfl⟩
 rw [<- hN]
 refine ai hC (nf:=N77) rfl rfl ?_
 simp [N77]
 refine au (Nat × Nat × Nat) (fun s=>[(1,.ptr [.int .u64 (h : Int),.int .u64 (l : Int)]),(3,.int .u64 s.2.1),(4,.int .u64 s.2.2)])
  (fun s=>s.1 <= 63 /\ (∃ a,s.2.1=a * 2 ^ s.1) /\ s.2.1 + 2 ^ s.1 <= 9223372036854775808 /\ s.2.2=(if s.1=0 then 0 else 2 ^ (s.1 - 1)) /\ ga x s.1 s.2.1=N) (fun s=>s.1) (63,0,4611686018427387904) ⟨by omega,⟨0,by simp⟩,by decide,by decide,by rw [hN];rfl⟩ (by simp) ?_
 rintro ⟨i,r,b⟩ ⟨h1,⟨a,h2⟩,h3,h4,h5⟩
 simp only at h1 h2 h3 h4 h5
 simp
 refine ac (fun c=>?_) (fun c=>?_) <;> simp [c] <;> simp at c
 ·obtain ⟨j,rfl⟩ : ∃ j,i=j + 1:=by
   cases i with
   | zero=>simp at h4;omega
   | succ j=>exact ⟨j,rfl⟩
  simp at h4
  have hb2 : 2 * b=2 ^ (j + 1):=by rw [h4,x1S];omega
  rw [<- hb2] at h3 h2
  have hor : bits .or .u64 (r : Int) (b : Int)=((r + b : Nat) : Int):=by
   rw [h2,show a * (2 * b)=a * 2 ^ (j + 1) by rw [hb2]]
   exact orN a b (j + 1) (by rw [<- hb2];omega) (by rw [<- hb2,<- h2];omega)
  obtain ⟨y,hy⟩ : ∃ y,y=r + b:=⟨_,rfl⟩
  rw [<- hy] at hor
  have hsh : Int.fdiv (b : Int) (2 ^ min 1 IntKind.u64.bits)=((b / 2 : Nat) : Int):=mK b 1
  obtain ⟨b',hb'⟩ : ∃ b',b'=b / 2:=⟨_,rfl⟩
  rw [<- hb'] at hsh
  simp [hor]
  refine aa (iu hC y y (by omega) (by omega)) (.inl rfl) ?_
  obtain ⟨p,hp⟩ : ∃ p,p=y * y / 18446744073709551616:=⟨_,rfl⟩
  obtain ⟨q,hq⟩ : ∃ q,q=y * y % 18446744073709551616:=⟨_,rfl⟩
  rw [<- hp,<- hq]
  have h6 : ga x j (if y * y <= x then y else r)=N:=by rw [<- h5,iE,hy,h4]
  have hb1 : b'=if j=0 then 0 else 2 ^ (j - 1):=by
   rw [hb',h4]
   cases j with
   | zero=>rfl
   | succ j=>simp [x1S]
  have yes : y * y <= x -> (j <= 63 /\ (∃ a,y=a * 2 ^ j) /\ y + 2 ^ j <= 9223372036854775808 /\ b'=(if j=0 then 0 else 2 ^ (j - 1)) /\ ga x j y=N):=fun hc=>by
   rw [if_pos hc] at h6
   refine ⟨by omega,⟨2 * a + 1,?_⟩,by omega,hb1,h6⟩
   rw [hy,h2,<- h4,x0C,x0U 2 a,x1a]
   omega
  have no : ¬ y * y <= x -> (j <= 63 /\ (∃ a,r=a * 2 ^ j) /\ r + 2 ^ j <= 9223372036854775808 /\ b'=(if j=0 then 0 else 2 ^ (j - 1)) /\ ga x j r=N):=fun hc=>by
   rw [if_neg hc] at h6
   refine ⟨by omega,⟨2 * a,?_⟩,by omega,hb1,h6⟩
   rw [h2,<- h4,x0U 2 a,x1a]
  simp
  generalize y * y=Z at *
  refine ac (fun c1=>?_) (fun c1=>?_) <;> simp [c1,hor,hsh] <;> simp at c1
  ·exact ⟨j,y,b',yes (by omega),by omega,rfl,rfl⟩
  ·refine ac (fun c2=>?_) (fun c2=>?_) <;> simp [c2,hor,hsh] <;> simp at c2
   ·refine ac (fun c3=>?_) (fun c3=>?_) <;> simp [c3,hor,hsh] <;> simp at c3
    ·exact ⟨j,y,b',yes (by omega),by omega,rfl,rfl⟩
    ·exact ⟨j,r,b',no (by omega),by omega,rfl,rfl⟩
   ·exact ⟨j,r,b',no (by omega),by omega,rfl,rfl⟩
 ·have hi : i=0:=by
   cases i with
   | zero=>rfl
   | succ j =>
    simp at h4
    have:=x1v j
    omega
  subst hi
  have : r=N:=h5
  simp at h3
  have e1 : IntKind.wrap .i64 (r : Int)=(r : Int):=wrap_i64 rfl (by omega)
  rw [<- this,e1]
end Go.Gv

namespace Go.Gv
open Go.Lib
theorem BF (a k m : Nat) (hm : m=a * 2 ^ k % 18446744073709551616) : IntKind.u64.wrap ((a : Int) * 2 ^ k)=(m : Int):=by
 have e : (a : Int) * 2 ^ k=((a * 2 ^ k : Nat) : Int):=by push_cast;rfl
 rw [e,zO,hm]
theorem LR (a m : Nat) (hm : m=a * 2 % 18446744073709551616) : IntKind.u64.wrap ((a : Int) * 2 ^ min 1 IntKind.u64.bits)=(m : Int):=BF a 1 m hm
theorem LS (a m : Nat) (hm : m=a * 4294967296 % 18446744073709551616) : IntKind.u64.wrap ((a : Int) * 2 ^ min 32 IntKind.u64.bits)=(m : Int):=BF a 32 m hm
theorem sa (a : Nat) : Int.fdiv (a : Int) (2 ^ min 63 IntKind.u64.bits)=((a / 9223372036854775808 : Nat) : Int):=mK a 63
theorem uw {n : Int} {m : Nat} (h : n=m \/ n=m + 18446744073709551616 \/ n=m - 18446744073709551616) (hm : m < 18446744073709551616) : IntKind.u64.wrap n=(m : Int):=by
 rw [ft];omega
end Go.Gv

namespace Go.Gv
open Go.Lib
variable {C : CC} (hC : aw prog C)
include hC
theorem qk (n : Nat) (h : n < 9223372036854775808) : C 86 [.int .i64 n] (.int .u64 (n : Int)) []:=by
 refine ai hC (nf:=N86) rfl rfl ?_
 simp [N86,bu n (by omega)]
 refine ac (fun h1=>?_) (fun h1=>?_) <;> simp at h1 <;> simp [h1,bu n (by omega)]
 omega
theorem qi (a b c d : Nat) : C 87 [.agg [.int .u64 a,.int .u64 b],.agg [.int .u64 c,.int .u64 d]] (.bool (decide (a < c \/ (a=c /\ b < d)))) []:=by
 refine ai hC (nf:=N87) rfl rfl ?_
 simp [N87]
 refine ac (fun h=>?_) (fun h=>?_) <;> simp at h <;> simp [h]
 have h3 : ¬ a < c:=by omega
 refine ac (fun h2=>?_) (fun h2=>?_) <;> simp at h2 <;> simp [h2,h3]
 ·have h4 : a=c:=by omega
  simp [h4]
 ·omega
theorem rH (a b c d p q : Nat) (ha : a < 18446744073709551616) (hb : b < 18446744073709551616) (hd : d < 18446744073709551616) (hq : q < 18446744073709551616) (h : p * 18446744073709551616 + q + (c * 18446744073709551616 + d)=a * 18446744073709551616 + b) : C 95 [.agg [.int .u64 a,.int .u64 b],.agg [.int .u64 c,.int .u64 d]] (.agg [.int .u64 p,.int .u64 q]) []:=by
 refine ai hC (nf:=N95) rfl rfl ?_
 simp [N95]
 have e3 : IntKind.u64.wrap ((b : Int) - (d : Int))=(q : Int):=uw (by omega) hq
 refine ac (fun h1=>?_) (fun h1=>?_) <;> simp at h1 <;> simp [h1,e3]
 ·have e1 : IntKind.u64.wrap ((a : Int) - (c : Int))=((p + 1 : Nat) : Int):=uw (by omega) (by omega)
  rw [e1]
  exact uw (by omega) (by omega)
 ·exact uw (by omega) (by omega)
theorem ib (a b w t p q : Nat) (hb : b < 18446744073709551616) (hw : w <= 1) (hp : p < 18446744073709551616) (hq : q < 18446744073709551616) (ht : (a * 18446744073709551616 + b) * 2 + w=(t * 18446744073709551616 + p) * 18446744073709551616 + q) : C 94 [.agg [.int .u64 a,.int .u64 b],.int .u64 w] (.agg [.int .u64 p,.int .u64 q]) []:=by
 refine ai hC (nf:=N94) rfl rfl ?_
 simp [N94]
 obtain ⟨a2,ha2⟩ : ∃ a2,a2=a * 2 % 18446744073709551616:=⟨_,rfl⟩
 obtain ⟨b2,hb2⟩ : ∃ b2,b2=b * 2 % 18446744073709551616:=⟨_,rfl⟩
 obtain ⟨c,hc⟩ : ∃ c,c=b / 9223372036854775808:=⟨_,rfl⟩
 rw [sa,LR a a2 ha2,LR b b2 hb2,<- hc]
 exact ⟨uw (by omega) hp,uw (by omega) hq⟩
theorem nQ (x y : Nat) (hx : x < 18446744073709551616) (hy : y < 18446744073709551616) : C 85 [.int .u64 x,.int .u64 y] (bq (x * y)) []:=by
 refine ai hC (nf:=N85) rfl rfl ?_
 obtain ⟨bd,bt,bw,hhi⟩:=Lib.mul64_hi x y hx hy
 have ba:=Lib.half_mul_le (a:=x / 4294967296) (b:=y / 4294967296) (by omega) (by omega)
 have bb:=Lib.half_mul_le (a:=x / 4294967296) (b:=y % 4294967296) (by omega) (by omega)
 have bc:=Lib.half_mul_le (a:=x % 4294967296) (b:=y / 4294967296) (by omega) (by omega)
 have hxy : x * y=x / 4294967296 * (y / 4294967296) * 18446744073709551616 + (x / 4294967296 * (y % 4294967296) + x % 4294967296 * (y / 4294967296)) * 4294967296 + x % 4294967296 * (y % 4294967296):=by
  have e1 : x=x / 4294967296 * 4294967296 + x % 4294967296:=by omega
  have e2 : y=y / 4294967296 * 4294967296 + y % 4294967296:=by omega
  generalize x / 4294967296=ah at *
  generalize x % 4294967296=al at *
  generalize y / 4294967296=bh at *
  generalize y % 4294967296=bl at *
  rw [e1,e2,x0C,x1G,x1G,x0C]
  rw [show ah * 4294967296 * (bh * 4294967296)=ah * bh * 18446744073709551616 by rw [x1a,Nat.mul_left_comm 4294967296,<- x1a]]
  rw [show ah * 4294967296 * bl=ah * bl * 4294967296 by rw [Nat.mul_right_comm],show al * (bh * 4294967296)=al * bh * 4294967296 by rw [x1a]]
  omega
 obtain ⟨P,hP⟩ : ∃ P,P=x / 4294967296 * (y / 4294967296):=⟨_,rfl⟩
 obtain ⟨Q,hQ⟩ : ∃ Q,Q=x / 4294967296 * (y % 4294967296):=⟨_,rfl⟩
 obtain ⟨R,hR⟩ : ∃ R,R=x % 4294967296 * (y / 4294967296):=⟨_,rfl⟩
 obtain ⟨L,hL⟩ : ∃ L,L=x % 4294967296 * (y % 4294967296):=⟨_,rfl⟩
 obtain ⟨Z,hZ⟩ : ∃ Z,Z=x * y:=⟨_,rfl⟩
 rw [<- hP,<- hQ,<- hR,<- hL,<- hZ] at hxy
 rw [<- hP] at ba
 rw [<- hQ] at bb
 rw [<- hR] at bc
 rw [<- hL] at bd
 obtain ⟨zh,hzh⟩ : ∃ zh,zh=Z / 18446744073709551616:=⟨_,rfl⟩
 obtain ⟨zl,hzl⟩ : ∃ zl,zl=Z % 18446744073709551616:=⟨_,rfl⟩
 rw [<- hZ,bq,<- hzh,<- hzl]
 simp [N85]
 simp only [kQ x hx,kQ y hy,oi,p8,<- hP,<- hQ,<- hR,<- hL,bu L bd,bu P (by omega),bu Q (by omega),bu R (by omega),sv]
 obtain ⟨M,hM⟩ : ∃ M,M=Q + L / 4294967296:=⟨_,rfl⟩
 have hM1 : M < 18446744073709551616:=by omega
 rw [<- hM,bu M hM1,oi,kQ M hM1,kQ L bd,sv]
 obtain ⟨O,hO⟩ : ∃ O,O=R + M % 4294967296:=⟨_,rfl⟩
 have hO1 : O < 18446744073709551616:=by omega
 obtain ⟨O2,hO2⟩ : ∃ O2,O2=O * 4294967296 % 18446744073709551616:=⟨_,rfl⟩
 simp only [sv R,<- hO,bu O hO1,oi,LS O O2 hO2]
 rw [bu (P + M / 4294967296) (by omega),sv,sv,bu _ (by omega),bu _ (by omega)]
 clear hP hQ hR hL hZ bt bw hhi
 exact ⟨by omega,by omega⟩
end Go.Gv
