/-
  Texts of the proof: GvR, GvEbk, ItB, GvT, GvT4, GvU, K1, K4, K5, K6, GvW, K7, K8, M0, M3, M4, P3.
-/
import Derived.Test.YtabkicbiibfnbaaGreatX4
import Derived.SizedLaws
import Derived.ProofKit
import Derived.Test.YtabkicbiibfnbaaGreatX5
import Derived.Test.YtabkicbiibfnbaaGreatProg
import Derived.KernelRfl
import Derived.Shelf.Sort.Plain
import Derived.Shelf.Slices.CompactI
import Derived.Shelf.Spec.SlicesInsert
import Derived.Sort.Row
import Derived.Sort.Grow
import Derived.Shelf.Slices.In.SortNone
import Derived.Shelf.Spec.SlicesInsertGrow
import Derived.Lib.Mul64
import Derived.Laws.Bits64b
import Derived.Laws.MathBits
set_option linter.all false
namespace Go.Gv
open Go.RowKit Go.ChangeShapes Go.WideShapes Go.ChangeAt
inductive Sh where
 | int (k : IntKind)
 | bool
 | str
 | sl (row : List Sh)
mutual
def bG : Sh -> D -> Prop
 | .int k,d=>∃ n,d=.int k n /\ (Lit.int k n).wf=true
 | .bool,d=>∃ b,d=.bool b
 | .str,d=>∃ s,d=.str s /\ s.length < 140737488355328
 | .sl row,d=>∃ es,(d=.sl es \/ (d=.nils /\ es=[])) /\ es.length < 140737488355328 /\ ∀ e ∈ es,bj row e
def bj : List Sh -> List D -> Prop
 | [],ds=>ds=[]
 | s::ss,ds=>∃ d r,ds=d::r /\ bG s d /\ bj ss r
end
theorem bj.length : ∀ {ss : List Sh} {ds : List D},bj ss ds -> ds.length=ss.length
 | [],ds,h=>by simp only [bj] at h;simp [h]
 | s::ss,ds,h=>by
  simp only [bj] at h
  obtain ⟨d,r,rfl,_,h2⟩:=h
  simp [bj.length h2]
theorem bj.append : ∀ {ss ts : List Sh} {ds es : List D},bj ss ds -> bj ts es -> bj (ss++ts) (ds++es)
 | [],ts,ds,es,h,h'=>by simp only [bj] at h;subst h;exact h'
 | s::ss,ts,ds,es,h,h'=>by
  simp only [bj] at h
  obtain ⟨d,r,rfl,h1,h2⟩:=h
  exact ⟨d,r++es,rfl,h1,bj.append h2 h'⟩
def pw (P : Program) (rec : TypeId -> Option (List Sh)) : List Field -> Nat -> Option (List Sh)
 | [],_=>some []
 | f::fs,off=>if f.offset=off then (match rec f.type with
   | some l=>if l.length=P.cellsOf f.type then (match pw P rec fs (off + l.length) with
    | some r=>some (l++r)
    | none=>none) else none
   | none=>none) else none
def jv (P : Program) : Nat -> TypeId -> Option (List Sh)
 | 0,_=>none
 | n + 1,t=>match P.underlying t with
  | some .bool=>some [.bool]
  | some (.int k)=>some [.int k]
  | some .string=>some [.str]
  | some (.slice e)=>(match jv P n e with
   | some l=>if l.length=P.cellsOf e /\ 1 <= P.bytesOf e then some [.sl l] else none
   | none=>none)
  | some (.struct fs)=>(match pw P (jv P n) fs.toList 0 with
   | some l=>if l.length=P.cellsOf t then some l else none
   | none=>none)
  | _=>none
section
variable {H : Type} {enc : TypeId × Value -> H} {P : Program} {F : Fid} {w : World} {sp : Nat -> Bool}
abbrev lV (w : World) : Mem:=fun p=>w.cell? p
def vK (enc : TypeId × Value -> H) (P : Program) (F : Fid) (w : World) (sp : Nat -> Bool) (n : Nat) (t : TypeId) (shs : List Sh) : Prop :=
 ∀ (cs : List Value) (d : DataW H) (ps : List MemPlace),DataW.trod enc P w 0 sp true n t cs=some (d,ps) -> (d.weights P t).all (· <= reachBytes)=true -> ∃ ds,bj shs ds /\ aq F (lV w) ds cs
theorem iF {α β : Type} {f : α -> Option β} {x : α} {l : List α} {ys : List β} (h : (x::l).mapM f=some ys) : ∃ y r,f x=some y /\ l.mapM f=some r /\ ys=y::r:=by
 rw [List.mapM_cons] at h
 cases hx : f x with
 | none=>rw [hx] at h;cases h
 | some y =>
  cases hl : l.mapM f with
  | none=>rw [hx,hl] at h;cases h
  | some r =>
   rw [hx,hl] at h
   exact ⟨y,r,rfl,rfl,by cases h;rfl⟩
theorem nC {n m : Nat} (ih : ∀ t shs,jv P m t=some shs -> vK enc P F w sp n t shs) {cs : List Value} : ∀ (fs : List Field) (off : Nat) (xs : List (DataW H × List MemPlace)) (shs : List Sh),
  (fs.mapM fun f=>DataW.trod enc P w 0 sp true n f.type ((cs.drop f.offset).take (P.cellsOf f.type)))=some xs -> pw P (jv P m) fs off=some shs -> (DataW.weightsEach P (fs.map (·.type)) (xs.map (·.1))).all (· <= reachBytes)=true -> cs.length=off + shs.length ->
   ∃ ds,bj shs ds /\ aq F (lV w) ds (cs.drop off)
 | [],off,xs,shs,_,h2,_,h4=>by
  cases h2
  exact ⟨[],rfl,by simp only [aq];exact List.drop_of_length_le (by simpa using Nat.le_of_eq h4)⟩
 | f::fs,off,xs,shs,h1,h2,h3,h4=>by
  obtain ⟨y,r,e1,e2,rfl⟩:=iF h1
  simp only [pw] at h2
  split at h2
  case isFalse=>cases h2
  rename_i ho
  split at h2
  case h_2=>cases h2
  rename_i l hl
  split at h2
  case isFalse=>cases h2
  rename_i hlen
  split at h2
  case h_2=>cases h2
  rename_i rs hr
  cases h2
  simp only [x0G,DataW.weightsEach,List.all_append,x0a] at h3
  rw [x0I] at h4
  obtain ⟨ds1,g1,g2⟩:=ih f.type l hl _ y.1 y.2 e1 h3.1
  obtain ⟨ds2,g3,g4⟩:=nC ih fs (off + l.length) r rs e2 hr h3.2 (by omega)
  refine ⟨ds1++ds2,g1.append g3,?_⟩
  rw [ho,<- hlen] at g2
  have:=g2.append g4
  rwa [<- List.drop_drop,List.take_append_drop] at this
theorem nD {n k : Nat} {e : TypeId} {l : List Sh} {a : Addr} (hl : l.length=k) (ih : vK enc P F w sp n e l) : ∀ (c s : Nat) (xs : List (DataW H × List MemPlace)),
  ((List.range' s c).mapM fun i=>(w.cells? 0 (a.add (i * k)) k).bind (DataW.trod enc P w 0 sp true n e))=some xs -> (DataW.weightsAll P e (xs.map (·.1))).all (· <= reachBytes)=true ->
   ∃ (es : List (List D)) (vs : List Value),es.length=c /\ xs.length=c /\ (∀ r ∈ es,bj l r) /\ bi F (lV w) es vs /\ ∀ j v,vs[j]? = some v -> w.cell? (a.add (s * k + j))=some v
 | 0,s,xs,h,_=>by
  cases h
  exact ⟨[],[],rfl,rfl,by simp,by simp [bi],fun j v h=>by simp at h⟩
 | c + 1,s,xs,h,hw=>by
  rw [List.range'_succ] at h
  obtain ⟨y,r,e1,e2,rfl⟩:=iF h
  rw [Option.bind_eq_some_iff] at e1
  obtain ⟨row,c1,c2⟩:=e1
  simp only [x0G,DataW.weightsAll,List.all_append,x0a] at hw
  obtain ⟨ds,g1,g2⟩:=ih row y.1 y.2 c2 hw.1
  obtain ⟨es,vs,h1,h2,h3,h4,h5⟩:=nD hl ih c (s + 1) r e2 hw.2
  have hrow:=World.cells?_some c1
  refine ⟨ds::es,row++vs,by simp [h1],by simp [h2],?_,⟨row,vs,rfl,g2,h4⟩,fun j v hj=>?_⟩
  ·intro x hx
   rcases x0O.1 hx with rfl | hx
   ·exact g1
   ·exact h3 x hx
  ·have hrl : row.length=k:=by rw [g2.length,g1.length,hl]
   have addadd : ∀ i j,(a.add i).add j=a.add (i + j):=fun i j=>by
    unfold Addr.add
    by_cases hi : i=0 <;> by_cases hj : j=0 <;> simp [hi,hj,x0P]
   by_cases hjk : j < k
   ·rw [x0w (by omega)] at hj
    have:=hrow.2.2 j hjk
    rw [hj,addadd] at this
    exact this
   ·rw [x0z (by omega)] at hj
    have:=h5 (j - row.length) v hj
    rw [hrl] at this
    rwa [show (s + 1) * k + (j - k)=s * k + j by rw [x04];omega] at this
theorem mL : ∀ (m : Nat) (n : Nat) (t : TypeId) (shs : List Sh),jv P m t=some shs -> vK enc P F w sp n t shs
 | 0,_,_,_,h=>by cases h
 | m + 1,0,t,shs,_=>fun cs d ps h _=>by simp [DataW.trod] at h
 | m + 1,n + 1,t,shs,h=>by
  intro cs d ps ht hw
  rw [jv] at h
  split at h
  ·rename_i hu
   cases h
   unfold DataW.trod at ht;rw [hu] at ht
   split at ht <;> try (simp_all;done)
   rename_i b _
   refine ⟨[.bool b],⟨_,_,rfl,⟨b,rfl⟩,rfl⟩,by simp [aq,af]⟩
  ·rename_i k hu
   cases h
   unfold DataW.trod at ht;rw [hu] at ht
   split at ht <;> try (simp_all;done)
   rename_i k1 k2 x h1
   simp only [x0r,TypeDesc.int.injEq] at h1
   subst h1
   split at ht
   ·rename_i hk
    obtain ⟨rfl,hwf⟩:=hk
    exact ⟨[.int _ x],⟨_,_,rfl,⟨x,rfl,hwf⟩,rfl⟩,by simp [aq,af]⟩
   ·cases ht
  ·rename_i hu
   cases h
   unfold DataW.trod at ht;rw [hu] at ht
   split at ht <;> try (simp_all;done)
   rename_i s _
   split at ht
   ·rename_i hs
    simp only [x0r,Prod.mk.injEq] at ht
    obtain ⟨rfl,rfl⟩:=ht
    simp only [DataW.weights,List.all_cons,List.all_nil,Bool.and_true,x0c] at hw
    refine ⟨[.str s.data.toList],⟨_,_,rfl,⟨_,rfl,?_⟩,rfl⟩,?_⟩
    ·have:=reachBytes_lt;omega
    ·obtain ⟨s⟩:=s
     simp [aq,af]
   ·cases ht
  ·rename_i e hu
   split at h
   case h_2=>cases h
   rename_i l hl
   split at h
   case isFalse=>cases h
   rename_i hk
   cases h
   unfold DataW.trod at ht;rw [hu] at ht
   split at ht <;> try (simp_all;done)
   ·refine ⟨[.nils],⟨_,_,rfl,⟨[],.inr ⟨rfl,rfl⟩,by simp,by simp⟩,rfl⟩,by simp [aq,af]⟩
   ·rename_i e' a len cap h1
    simp only [x0r,TypeDesc.slice.injEq] at h1
    subst h1
    simp only at ht
    split at ht
    case isFalse=>cases ht
    rename_i hb
    rw [Option.bind_eq_some_iff] at ht
    obtain ⟨xs,e1,e2⟩:=ht
    rw [x0n] at e2
    obtain ⟨rest,e3,e4⟩:=e2
    simp only [Prod.mk.injEq] at e4
    obtain ⟨rfl,rfl⟩:=e4
    simp only [DataW.weights,hu,List.all_cons,List.all_append,x0a,x0c] at hw
    obtain ⟨w1,w2,w3⟩:=hw
    rw [List.range_eq_range'] at e1
    obtain ⟨es,vs,g1,g2,g3,g4,g5⟩:=nD (F:=F) hk.1 (mL m n e l hl) len 0 xs e1 w2
    refine ⟨[.sl es],⟨_,_,rfl,⟨es,.inl rfl,?_,g3⟩,rfl⟩,?_⟩
    ·have h5:=reachBytes_lt
     have h6 : es.length * 1 <= (xs.length + rest.length) * P.bytesOf e:=x01 (by omega) hk.2
     simp only [x1a] at w1
     omega
    ·simp only [aq]
     refine ⟨_,_,rfl,?_,rfl⟩
     simp only [af]
     refine ⟨some a,cap,vs,P.cellsOf e,by rw [g1],by omega,g4,fun r hr=>by rw [(g3 r hr).length,hk.1],fun _=>⟨a,rfl,fun j v hj=>?_⟩⟩
     have:=g5 j v hj
     simpa using this
  ·rename_i fs hu
   split at h
   case h_2=>cases h
   rename_i l hl
   split at h
   case isFalse=>cases h
   rename_i hk
   cases h
   unfold DataW.trod at ht;rw [hu] at ht
   split at ht <;> try (simp_all;done)
   rename_i fs' h1
   simp only [x0r,TypeDesc.struct.injEq] at h1
   subst h1
   split at ht
   case isFalse=>cases ht
   rename_i hc
   rw [x0n] at ht
   obtain ⟨xs,e1,e2⟩:=ht
   simp only [Prod.mk.injEq] at e2
   obtain ⟨rfl,rfl⟩:=e2
   simp only [DataW.weights,hu] at hw
   obtain ⟨ds,g1,g2⟩:=nC (F:=F) (n:=n) (fun t shs h=>mL m n t shs h) fs.toList 0 xs _ e1 hl hw (by omega)
   exact ⟨ds,g1,by simpa using g2⟩
  ·cases h
theorem jB {t : TypeId} {fs : Array Field} {m : Nat} {shs : List Sh} {base : Nat} {v : Value} {d : DataW H} {ps : List MemPlace} (hu : P.underlying t=some (.struct fs)) (hsh : jv P m t=some shs) (hv : Value.okWide P w .any base t v) (h : DataW.Trod enc P w 0 sp true t v d ps) (hw : (d.weights P t).all (· <= reachBytes)=true) :
  ∃ ds,bj shs ds /\ af F (lV w) (.agg ds) v:=by
 obtain ⟨cs,rfl,_⟩:=okWide_struct hu hv
 obtain ⟨n,hn⟩:=h
 obtain ⟨ds,g1,g2⟩:=mL (F:=F) m n t shs hsh _ d ps hn hw
 exact ⟨ds,g1,by simp only [af];exact ⟨cs.toList,by simp,g2⟩⟩
theorem gl {t e : TypeId} {m : Nat} {sh : Sh} {base : Nat} {v : Value} {d : DataW H} {ps : List MemPlace} (hu : P.underlying t=some (.slice e)) (hsh : jv P m t=some [sh]) (hv : Value.okWide P w .any base t v) (h : DataW.Trod enc P w 0 sp true t v d ps) (hw : (d.weights P t).all (· <= reachBytes)=true) :
  ∃ x,bG sh x /\ af F (lV w) x v:=by
 obtain ⟨a,len,cap,rfl⟩:=okWide_slice hu hv
 obtain ⟨n,hn⟩:=h
 obtain ⟨ds,g1,g2⟩:=mL (F:=F) m n t [sh] hsh _ d ps hn hw
 simp only [bj] at g1
 obtain ⟨x,r,rfl,g3,rfl⟩:=g1
 simp only [Value.cells,aq] at g2
 obtain ⟨v',r',e,g4,rfl⟩:=g2
 simp at e
 exact ⟨x,g3,by rw [e];exact g4⟩
theorem yC {t : TypeId} {k : IntKind} {base : Nat} {v : Value} {d : DataW H} {ps : List MemPlace} (hu : P.underlying t=some (.int k)) (hv : Value.okWide P w .any base t v) (h : DataW.Trod enc P w 0 sp true t v d ps) :
  ∃ n,(Lit.int k n).wf=true /\ af F (lV w) (.int k n) v:=by
 obtain ⟨n,rfl,_,_,hw⟩:=open_int hu hv h
 exact ⟨n,hw,rfl⟩
end
theorem gD {α : Type} {f : α -> List D} {es : List (List D)} (h : ∀ e ∈ es,∃ x,e=f x) : ∃ xs : List α,es=xs.map f:=by
 induction es with
 | nil=>exact ⟨[],rfl⟩
 | cons e es ih =>
  obtain ⟨x,rfl⟩:=h e (by simp)
  obtain ⟨xs,rfl⟩:=ih (fun e he=>h e (by simp [he]))
  exact ⟨x::xs,rfl⟩
end Go.Gv
namespace Go.Gv
def Cc (P : Program) (F : Fid) (prog : Nat -> Option ao) (tbl : List (Nat × Nat)) : Bool:=tbl.all fun p=>oP P p.2 && match prog p.1 with
 | some nf=>fz P F p.2 nf
 | none=>true
theorem u1 {tbl : List (Nat × Nat)} {g f : Nat} (h : tbl.lookup g=some f) : (g,f) ∈ tbl:=by
 induction tbl with
 | nil=>cases h
 | cons p r ih =>
  obtain ⟨a,b⟩:=p
  rw [x0m] at h
  cases e : g == a with
  | true=>rw [e] at h;simp at e h;subst e;subst h;simp
  | false=>rw [e] at h;simp [ih h]
theorem seat {P : Program} {tbl : List (Nat × Nat)} {ty : Nat -> TypeId} {prog : Nat -> Option ao} (hm : P.follows .mixedOrders=true) (hl : laidOutB P=true) (h : Cc P ⟨P,fun g=>tbl.lookup g,ty⟩ prog tbl=true) :
  bL P ⟨P,fun g=>tbl.lookup g,ty⟩ (fX P ⟨P,fun g=>tbl.lookup g,ty⟩) /\ al prog (fX P ⟨P,fun g=>tbl.lookup g,ty⟩):=by
 have key : ∀ g f,tbl.lookup g=some f -> oP P f=true /\ ∀ nf,prog g=some nf -> fz P ⟨P,fun g=>tbl.lookup g,ty⟩ f nf=true:=fun g f e=>by
  have:=x0f.1 h _ (u1 e)
  simp only [x0a] at this
  refine ⟨this.1,fun nf hnf=>?_⟩
  have:=this.2
  rw [hnf] at this
  exact this
 exact re hm (fun g f e=>(key g f e).1) hl rfl (fun g f nf e hp=>(key g f e).2 nf hp)
end Go.Gv

namespace Go.Gv
open Go.Proofs
def TryzTbl : List (Nat × Nat) := [(0, 2), (536, 4), (538, 6), (153, 8), (572, 9), (155, 10), (573, 11), (574, 12), (435, 16), (577, 17), (450, 18), (181, 23), (582, 24), (464, 25), (482, 26), (49, 27), (156, 28), (158, 29), (157, 30), (453, 31), (617, 32), (455, 33), (154, 34), (45, 35), (159, 36), (618, 37), (619, 38), (485, 41), (164, 42), (491, 43), (493, 45), (175, 48), (499, 56), (500, 57), (498, 58), (169, 59), (160, 60), (161, 61), (162, 62), (163, 63), (52, 64), (433, 65), (44, 66), (641, 67), (642, 68), (315, 69), (643, 70), (644, 71), (471, 72), (428, 73), (168, 81), (170, 82), (171, 83), (509, 84), (510, 85), (512, 89), (176, 90), (47, 91), (165, 92), (166, 93), (167, 94), (470, 95), (472, 96), (51, 97), (333, 98), (460, 99), (461, 100), (58, 112), (172, 113), (173, 114), (174, 115), (177, 116), (178, 117), (72, 118), (179, 119), (180, 120), (182, 121), (503, 128), (11, 129), (520, 130), (516, 131), (521, 132), (517, 133), (53, 134), (60, 135), (61, 136), (91, 137), (504, 138), (59, 139), (339, 140), (492, 141), (494, 142), (495, 143), (496, 144), (497, 145), (70, 155), (71, 156), (183, 157), (184, 158), (89, 159), (185, 160), (514, 164), (515, 165), (35, 166), (42, 167), (366, 168), (523, 169), (73, 170), (74, 171), (75, 172), (76, 173), (77, 174), (518, 175), (519, 176), (511, 177), (88, 184), (522, 187), (90, 190), (92, 191), (411, 192), (524, 193), (111, 211), (96, 212), (97, 213), (98, 214), (99, 215), (100, 216), (101, 217), (102, 218), (299, 219), (103, 230), (104, 231), (105, 232), (106, 233), (107, 234), (108, 235), (109, 236), (110, 237), (112, 241), (113, 242)]
def TryzTys : List (Nat × Nat) := [(0, 9), (1, 4)]
set_option maxRecDepth 100000 in
theorem Tryz_all : Cc Tryz.prog ⟨Tryz.prog, fun g => TryzTbl.lookup g, fun t => (TryzTys.lookup t).getD 0⟩ prog TryzTbl = true := by kernel_rfl
end Go.Gv

namespace Go.Proofs
open Go.Shelf
def Tryz.lays189_ren : Go.Shelf.Ren := ⟨fun | 189 => 168 | 125 => 189 | 257 => 188 | 128 => 210 | 129 => 211 | 294 => 202 | 295 => 203 | 296 => 204 | 297 => 205 | 298 => 206 | 299 => 207 | 216 => 192 | 300 => 208 | 301 => 209 | 328 => 225 | 329 => 226 | 330 => 227 | 331 => 228 | 332 => 229 | 215 => 219 | 343 => 240 | n => n, fun | 28 => 76 | 3 => 3 | 46 => 135 | 0 => 0 | 51 => 63 | 53 => 130 | 4 => 4 | 183 => 218 | 182 => 217 | 131 => 192 | 5 => 5 | 9 => 9 | 218 => 239 | 222 => 116 | 228 => 255 | 229 => 60 | n => n, fun | n => n⟩
theorem Tryz.lays189 : Go.Proofs.Lays.n189 Tryz.prog Tryz.lays189_ren := {
 mixed := by kernel_rfl
 f125 := Tryz.func189.trans (congrArg some (by kernel_rfl))
 f128 := Tryz.func210.trans (congrArg some (by kernel_rfl))
 f129 := Tryz.func211.trans (congrArg some (by kernel_rfl))
 f189 := Tryz.func168.trans (congrArg some (by kernel_rfl))
 f215 := Tryz.func219.trans (congrArg some (by kernel_rfl))
 f216 := Tryz.func192.trans (congrArg some (by kernel_rfl))
 f257 := Tryz.func188.trans (congrArg some (by kernel_rfl))
 f294 := Tryz.func202.trans (congrArg some (by kernel_rfl))
 f295 := Tryz.func203.trans (congrArg some (by kernel_rfl))
 f296 := Tryz.func204.trans (congrArg some (by kernel_rfl))
 f297 := Tryz.func205.trans (congrArg some (by kernel_rfl))
 f298 := Tryz.func206.trans (congrArg some (by kernel_rfl))
 f299 := Tryz.func207.trans (congrArg some (by kernel_rfl))
 f300 := Tryz.func208.trans (congrArg some (by kernel_rfl))
 f301 := Tryz.func209.trans (congrArg some (by kernel_rfl))
 f328 := Tryz.func225.trans (congrArg some (by kernel_rfl))
 f329 := Tryz.func226.trans (congrArg some (by kernel_rfl))
 f330 := Tryz.func227.trans (congrArg some (by kernel_rfl))
 f331 := Tryz.func228.trans (congrArg some (by kernel_rfl))
 f332 := Tryz.func229.trans (congrArg some (by kernel_rfl))
 f343 := Tryz.func240.trans (congrArg some (by kernel_rfl))
 t0 := Tryz.underlying0
 a0 := Tryz.isAgg0
 z0 := Tryz.sizeOf0
 v0 := Tryz.zeroValue0
 t3 := Tryz.underlying3
 a3 := Tryz.isAgg3
 z3 := Tryz.sizeOf3
 v3 := Tryz.zeroValue3
 t4 := Tryz.underlying4
 a4 := Tryz.isAgg4
 z4 := Tryz.sizeOf4
 v4 := Tryz.zeroValue4
 t5 := Tryz.underlying5
 a5 := Tryz.isAgg5
 z5 := Tryz.sizeOf5
 v5 := Tryz.zeroValue5
 t9 := Tryz.underlying9
 a9 := Tryz.isAgg9
 z9 := Tryz.sizeOf9
 v9 := Tryz.zeroValue9
 t28 := Tryz.underlying76
 a28 := Tryz.isAgg76
 z28 := Tryz.sizeOf76
 v28 := Tryz.zeroValue76
 t46 := Tryz.underlying135
 a46 := Tryz.isAgg135
 z46 := Tryz.sizeOf135
 v46 := Tryz.zeroValue135
 t51 := Tryz.underlying63
 a51 := Tryz.isAgg63
 z51 := Tryz.sizeOf63
 v51 := Tryz.zeroValue63
 t53 := Tryz.underlying130
 a53 := Tryz.isAgg130
 z53 := Tryz.sizeOf130
 v53 := Tryz.zeroValue130
 t131 := Tryz.underlying192
 a131 := Tryz.isAgg192
 z131 := Tryz.sizeOf192
 v131 := Tryz.zeroValue192
 t182 := Tryz.underlying217
 a182 := Tryz.isAgg217
 z182 := Tryz.sizeOf217
 v182 := Tryz.zeroValue217
 t183 := Tryz.underlying218
 a183 := Tryz.isAgg218
 z183 := Tryz.sizeOf218
 v183 := Tryz.zeroValue218
 t218 := Tryz.underlying239
 a218 := Tryz.isAgg239
 z218 := Tryz.sizeOf239
 v218 := Tryz.zeroValue239
 t222 := Tryz.underlying116
 a222 := Tryz.isAgg116
 z222 := Tryz.sizeOf116
 v222 := Tryz.zeroValue116
 t228 := Tryz.underlying255
 a228 := Tryz.isAgg255
 z228 := Tryz.sizeOf255
 v228 := Tryz.zeroValue255
 t229 := Tryz.underlying60
 a229 := Tryz.isAgg60
 z229 := Tryz.sizeOf60
 v229 := Tryz.zeroValue60 }
def Tryz.laysNm220_ren : Go.Shelf.Ren := ⟨fun | 20 => 169 | n => n, fun | 22 => 76 | 3 => 3 | 4 => 4 | 0 => 0 | n => n, fun | n => n⟩
theorem Tryz.laysNm220 : Go.Proofs.Lays2.n20 Tryz.prog Tryz.laysNm220_ren := {
 mixed := by kernel_rfl
 f20 := Tryz.func169.trans (congrArg some (by kernel_rfl))
 t0 := Tryz.underlying0
 a0 := Tryz.isAgg0
 z0 := Tryz.sizeOf0
 v0 := Tryz.zeroValue0
 t3 := Tryz.underlying3
 a3 := Tryz.isAgg3
 z3 := Tryz.sizeOf3
 v3 := Tryz.zeroValue3
 t4 := Tryz.underlying4
 a4 := Tryz.isAgg4
 z4 := Tryz.sizeOf4
 v4 := Tryz.zeroValue4
 t22 := Tryz.underlying76
 a22 := Tryz.isAgg76
 z22 := Tryz.sizeOf76
 v22 := Tryz.zeroValue76
 i3 := by kernel_rfl }
def Tryz.laysNm221_ren : Go.Shelf.Ren := ⟨fun | 21 => 176 | 27 => 194 | 28 => 195 | 35 => 220 | 39 => 238 | n => n, fun | 22 => 76 | 3 => 3 | 4 => 4 | 0 => 0 | n => n, fun | n => n⟩
theorem Tryz.laysNm221 : Go.Proofs.Lays2.n21 Tryz.prog Tryz.laysNm221_ren := {
 mixed := by kernel_rfl
 f21 := Tryz.func176.trans (congrArg some (by kernel_rfl))
 f27 := Tryz.func194.trans (congrArg some (by kernel_rfl))
 f28 := Tryz.func195.trans (congrArg some (by kernel_rfl))
 f35 := Tryz.func220.trans (congrArg some (by kernel_rfl))
 f39 := Tryz.func238.trans (congrArg some (by kernel_rfl))
 t0 := Tryz.underlying0
 a0 := Tryz.isAgg0
 z0 := Tryz.sizeOf0
 v0 := Tryz.zeroValue0
 t3 := Tryz.underlying3
 a3 := Tryz.isAgg3
 z3 := Tryz.sizeOf3
 v3 := Tryz.zeroValue3
 t4 := Tryz.underlying4
 a4 := Tryz.isAgg4
 z4 := Tryz.sizeOf4
 v4 := Tryz.zeroValue4
 t22 := Tryz.underlying76
 a22 := Tryz.isAgg76
 z22 := Tryz.sizeOf76
 v22 := Tryz.zeroValue76
 i3 := by kernel_rfl }
end Go.Proofs

namespace Go.Gv
open Go.Sort
section
variable {P : Program} {F : Fid} {α : Type} [Inhabited α]
def jW (encD : α -> D) (d : Array α) : List (List D):=d.toList.map fun x=>[encD x]
theorem ol {f : FuncId} (enc : α -> Value) (encD : α -> D) (hflat : ∀ M x u,af F M (encD x) u -> u=enc x) (hrep : ∀ M x,af F M (encD x) (enc x)) (d d' : Array α) (hsz : d'.size=d.size) (ds : List D)
  (hnone : d.size=0 -> ∀ (M : Mem) (w : World) (vs : List Value) (A : Option Addr),(∀ p v,M p=some v -> w.cell? p=some v) -> aq F M ds vs -> Calls P f (.slice A 0 0::vs).toArray w fun e w'=>e=.returned (.tuple #[]) /\ ∃ n os,w'=grow (Sort.ahead w n) os)
  (hrun : ∀ (M : Mem) (w : World) (vs : List Value) (blk off cap : Nat),(∀ p v,M p=some v -> w.cell? p=some v) -> (∀ p : Addr,p.block=blk -> M p=none) -> aq F M ds vs -> Holds enc w blk off d -> blk < w.heap.size ->
   Calls P f (.slice (some ⟨blk,off,none⟩) d.size cap::vs).toArray w fun e w'=>e=.returned (.tuple #[]) /\ ∃ n os,w'=grow (putRow enc (Sort.ahead w n) blk off d') os) : vQ P F f 1 (jW encD d) ds (jW encD d'):=by
 intro M w vs hh r
 have hl : (jW encD d).length=d.size:=by simp [jW]
 refine ⟨fun e A=>?_,fun b o T us cap hM hb hcell hcap hle hu hc=>?_⟩
 ·have h0 : d.size=0:=by rw [<- hl,e];rfl
  refine (hnone h0 M w vs A hh r).mono ?_
  rintro e0 w' ⟨rfl,n,os,rfl⟩
  exact ⟨rfl,rfl,rfl,rfl,by simp [grow,Sort.ahead],fun k hk=>by simp only [grow,Sort.ahead];rw [Array.getElem?_append_left hk],Nat.le_add_right _ _⟩
 ·rw [hl] at hcap ⊢
  have hH : Holds enc w b o d:=fun j hj=>by
   obtain ⟨u,k1,k2⟩:=hc j [encD d[j]] 0 (encD d[j]) (by simp [jW,hj]) rfl
   have:=hflat _ _ _ k2
   subst this
   have e1 : d[j]! = d[j]:=x0g d j hj
   rw [e1]
   have k3 : us[o + j]? = some (enc d[j]):=by simpa using k1
   constructor
   ·simp [World.cell?,hcell,k3]
   ·simp [World.frozen?,hcell]
  refine (hrun M w vs b o cap hh hM r hH hb).mono ?_
  rintro e0 w' ⟨rfl,n,os,rfl⟩
  have hput : (grow (putRow enc (Sort.ahead w n) b o d') os).heap[b]? = some (.cells (putCells enc o d' us.toArray) T (0,0)):=by
   simp only [grow,putRow,mapBlock,Sort.ahead]
   rw [Array.getElem?_append_left (by simpa using hb),x1D,if_pos rfl,hcell]
   rfl
  refine ⟨rfl,(putCells enc o d' us.toArray).toList,by rw [x0R];exact hput,by simp [putCells],fun i r off x hi hr=>?_,⟨rfl,rfl,rfl,by simp [grow,putRow,mapBlock,Sort.ahead],fun k hk hne=>?_,Nat.le_add_right _ _⟩⟩
  ·simp only [jW,x0A,x0n] at hi
   obtain ⟨y,h1,rfl⟩:=hi
   have ho : off=0:=by
    have:=(x0b.1 hr).1
    simpa using this
   subst ho
   simp only [x06,x0r] at hr
   subst hr
   have hi2 : i < d'.size:=by have:=(x0b.1 h1).1;simpa using this
   have hy : d'[i]! = y:=by
    rw [x0g d' i hi2]
    have:=(x0b.1 h1).2
    simpa using this
   refine ⟨enc y,?_,hrep _ _⟩
   have hlt : o + i < us.length:=by
    have : o + cap * 1 <= us.length:=hle
    omega
   rw [Nat.mul_one,x0W,Array.getElem?_toList]
   simp only [putCells,Array.getElem?_mapIdx,x1g]
   rw [x0e hlt]
   simp only [x1h]
   rw [if_pos ⟨by omega,by omega⟩,show o + i - o=i by omega,hy]
  ·simp only [grow,putRow,mapBlock,Sort.ahead]
   rw [Array.getElem?_append_left (by simpa using hk),x1D,if_neg (Ne.symm hne)]
end
end Go.Gv

namespace Go.Gv
open Go.Sort Go.Proofs Go.Shelf
section
variable {P : Program} {F : Fid} {ρ : Ren}
def zJ (zs : List Int) : List (List D):=zs.map fun n=>[.int .i64 n]
theorem iA {zs : List Int} {i : Nat} {r : List D} {off : Nat} {d : D} (h1 : (zJ zs)[i]? = some r) (h2 : r[off]? = some d) : ∃ x,zs[i]? = some x /\ off=0 /\ d=.int .i64 x:=by
 simp only [zJ,x0A,x0n] at h1
 obtain ⟨x,h1,rfl⟩:=h1
 have ho : off=0:=by have:=(x0b.1 h2).1;simpa using this
 subst ho
 simp only [x06,x0r] at h2
 exact ⟨x,h1,rfl,h2.symm⟩
theorem nh {M : Mem} {zs : List Int} {us : List Value} {o : Nat} (hc : ∀ i r off d,(zJ zs)[i]? = some r -> r[off]? = some d -> ∃ u,us[o + i * 1 + off]? = some u /\ af F M d u) : ∀ j x,zs[j]? = some x -> us[o + j]? = some (.int .i64 x):=by
 intro j x hj
 obtain ⟨u,k1,k2⟩:=hc j [.int .i64 x] 0 (.int .i64 x) (by simp [zJ,hj]) rfl
 simp only [af] at k2
 subst k2
 simpa using k1
theorem iN (Ly : Lays.n189 P ρ) {g : Nat} (hg : ∀ f,F g=some f -> f=ρ.f 189) (zs : List Int) (hz : zs.length < 2 ^ 40) :
  fX P F g [.own 1 (zs.map fun n=>[.int .i64 n])] .any [.own 1 ((zs.mergeSort fun x y=>decide (x <= y)).map fun n=>[.int .i64 n]),.nilp]:=by
 refine ⟨trivial,fun f hf=>⟨rfl,?_⟩⟩
 obtain rfl:=hg f hf
 have k:=ol (P:=P) (F:=F) (f:=ρ.f 189) (Value.int .i64) (D.int .i64) (fun M x u h=>by simpa only [af] using h) (fun M x=>by simp only [af]) zs.toArray (zs.mergeSort fun x y=>decide (x <= y)).toArray (by simp [List.length_mergeSort]) []
  (fun h M w vs A hh r=>by
   simp only [aq] at r
   subst r
   refine (Any.slices_Sort_int_none Ly A 0 w).mono ?_
   rintro e w' ⟨rfl,rfl⟩
   exact ⟨rfl,0,#[],by simp [grow,Sort.ahead]⟩)
  (fun M w vs blk off cap hh hM r hH hb=>by
   simp only [aq] at r
   subst r
   have:=Any.slices_Sort_int Ly blk off cap zs w hH hb (by omega)
   simpa using this)
 simpa [jW] using k
theorem jy (L : Lays2.n20 P ρ) {g : Nat} (hg : ∀ f,F g=some f -> f=ρ.f 20) (zs : List Int) (hz : zs.length < 2 ^ 40) :
  fX P F g [.own 1 (zs.map fun n=>[.int .i64 n])] .any [.own 1 ((Lib.compact zs).map fun n=>[.int .i64 n]),.nils,.nils]:=by
 refine ⟨trivial,fun f hf=>⟨rfl,?_⟩⟩
 obtain rfl:=hg f hf
 refine pc.to ?_
 intro M w vs hh
 have nil : ∀ {b : Option Nat},lS F M w b [] vs -> vs=[]:=fun h=>x0N h.1.symm
 refine ⟨fun e A r=>?_,fun b o T us cap r hM hb hcell hcap hmc hle hu hc=>?_⟩
 ·rw [nil r]
  have h0 : zs=[]:=by simpa using e
  subst h0
  refine (Any.slices_Compact_int_empty L A 0 w).mono ?_
  rintro e w' ⟨rfl,rfl⟩
  exact ⟨_,rfl,Bel.refl _,.inl ⟨rfl,A,rfl⟩⟩
 ·rw [nil r]
  have hget:=nh hc
  have hl : (zs.map fun n=>[D.int .i64 n]).length=zs.length:=by simp
  rw [hl] at hcap ⊢
  have hH : Holds (Value.int .i64) w b o zs.toArray:=fun j hj=>by
   have hj2 : j < zs.length:=by simpa using hj
   have e1 : zs.toArray[j]! = zs[j]:=by rw [x0g zs.toArray j hj];simp
   have k3:=hget j zs[j] (x0e hj2)
   rw [e1]
   exact ⟨by simp [World.cell?,hcell,k3],by simp [World.frozen?,hcell]⟩
  obtain ⟨d',hd'⟩ : ∃ d',d'=(Lib.compact zs++List.replicate (zs.length - (Lib.compact zs).length) 0).toArray:=⟨_,rfl⟩
  have hcl : (Lib.compact zs).length <= zs.length:=by
   unfold Lib.compact Lib.compactUpTo
   rw [x1a]
   have:=x02 (Lib.keeps zs.toArray) (List.range zs.length)
   simpa using this
  have hsz : d'.size=zs.length:=by rw [hd'];simp;omega
  refine (Any.slices_Compact_int L b o cap zs w hH (by omega) hcap).mono ?_
  rintro e w' ⟨rfl,q,rfl⟩
  rw [<- hd']
  have hput : (putRow (Value.int .i64) (Sort.ahead w q) b o d').heap[b]? = some (.cells (putCells (Value.int .i64) o d' us.toArray) T (0,0)):=by
   simp only [putRow,mapBlock,Sort.ahead]
   rw [x1D,if_pos rfl,hcell]
   rfl
  refine ⟨_,rfl,(putCells (Value.int .i64) o d' us.toArray).toList,by rw [x0R];exact hput,by simp [putCells],⟨rfl,rfl,rfl,by simp [putRow,mapBlock,Sort.ahead],fun k hk hne=>?_,Nat.le_add_right _ _⟩,.inl ⟨by simp,by simp;omega,fun i r off d h1 h2=>?_⟩⟩
  ·simp only [putRow,mapBlock,Sort.ahead]
   rw [x1D,if_neg (Ne.symm hne)]
  ·obtain ⟨x,h3,rfl,rfl⟩:=iA h1 h2
   have hi : i < (Lib.compact zs).length:=(x0b.1 h3).1
   refine ⟨.int .i64 x,?_,by simp only [af]⟩
   have hlt : o + i < us.length:=by omega
   have hy : d'[i]! = x:=by
    rw [x0g d' i (by omega)]
    have : d'[i]? = some x:=by rw [hd'];simp [x0w hi,h3]
    exact (Array.getElem?_eq_some_iff.1 this).2
   rw [Nat.mul_one,x0W,Array.getElem?_toList]
   simp only [putCells,Array.getElem?_mapIdx,x1g]
   rw [x0e hlt]
   simp only [x1h]
   rw [if_pos ⟨by omega,by omega⟩,show o + i - o=i by omega,hy]
theorem mA {zs : List Int} {i : Nat} (hi : i <= zs.length) (x : Int) (j : Nat) : (zs.take i++x::zs.drop i)[j]? = if j < i then zs[j]? else if j=i then some x else zs[j - 1]?:=by
 have hl : (zs.take i).length=i:=by simp;omega
 by_cases h1 : j < i
 ·rw [if_pos h1,x0w (by omega),x0D h1]
 ·rw [if_neg h1,x0z (by omega),hl]
  by_cases h2 : j=i
  ·subst h2;simp
  ·rw [if_neg h2,show j - i=(j - i - 1) + 1 by omega,List.getElem?_cons_succ,x0v]
   congr 1
   omega
theorem kW (L : Lays2.n21 P ρ) {g : Nat} (hg : ∀ f,F g=some f -> f=ρ.f 21) (zs : List Int) (i : Nat) (x : Int) (hi : i <= zs.length) (hz : zs.length < 2 ^ 40) :
  fX P F g [.own 1 (zs.map fun n=>[.int .i64 n]),.int .i64 i,.own 1 [[.int .i64 x]]] .any [.own 1 ((zs.take i++x::zs.drop i).map fun n=>[.int .i64 n]),.nils,.nils]:=by
 refine ⟨trivial,fun f hf=>⟨rfl,?_⟩⟩
 obtain rfl:=hg f hf
 refine pc.to ?_
 intro M w vs hh
 have args : ∀ {b : Option Nat},lS F M w b [.int .i64 i,.own 1 [[.int .i64 x]]] vs -> ∃ (B o : Nat) (T : TypeId) (us : List Value) (cap : Nat),vs=[.int .i64 i,.slice (some ⟨B,o,none⟩) 1 cap] /\ b ≠ some B /\ w.heap[B]? = some (.cells us.toArray T (0,0)) /\ us[o]? = some (.int .i64 x):=by
  rintro b ⟨h1,h2⟩
  match vs,h1 with
  | [v0,v1],_ =>
   have a:=h2 0 _ _ rfl rfl
   have c:=h2 1 _ _ rfl rfl
   simp only [Ck,af] at a
   subst a
   rcases c with ⟨e,_⟩ | ⟨B,o,T,us,cap,rfl,h3,h4,h5,h6,h7⟩
   ·cases e
   ·obtain ⟨u,k1,k2⟩:=h7 0 [.int .i64 x] 0 (.int .i64 x) rfl rfl
    simp only [af] at k2
    subst k2
    exact ⟨B,o,T,us,cap,rfl,h3,h4,by simpa using k1⟩
 have cellOf : ∀ {w : World} {b : Nat} {us : List Value} {T : TypeId} {k : Nat} {v : Value},w.heap[b]? = some (.cells us.toArray T (0,0)) -> us[k]? = some v -> w.cell? ⟨b,k,none⟩=some v:=fun h1 h2=>by simp [World.cell?,h1,h2]
 have frz : ∀ {w : World} {b : Nat} {us : List Value} {T : TypeId} {k : Nat},w.heap[b]? = some (.cells us.toArray T (0,0)) -> w.frozen? ⟨b,k,none⟩=false:=fun h1=>by simp [World.frozen?,h1]
 have one : ∀ v ∈ [Value.int .i64 x],v.oneCell'=true:=by intro v hv;simp at hv;subst hv;rfl
 have hzc : (Value.int .i64 0).cells.size=1:=rfl
 refine ⟨fun e A r=>?_,fun b o T us cap r hM hb hcell hcap hmc hle hu hc=>?_⟩
 ·obtain ⟨B,o,T,us,cap,rfl,_,h4,h5⟩:=args r
  have h0 : zs=[]:=by simpa using e
  subst h0
  have hi0 : i=0:=by simpa using hi
  subst hi0
  refine (Any2.slices_Insert_int_end_grow L A 0 0 B o 1 cap [] [.int .i64 x] w (by omega) (by omega) (by omega) (by omega) rfl rfl (fun _=>rfl) (fun a _ j v hj=>by simp at hj) (fun j v hj=>by
   cases j with
   | zero=>simp at hj;subst hj;exact cellOf h4 (by simpa using h5)
   | succ j=>simp at hj) one).mono ?_
  rintro e w' ⟨rfl,rfl⟩
  obtain ⟨G,hG⟩ : ∃ G,G=grownCap w (0 + 1) 0 (ρ.t 3):=⟨_,rfl⟩
  have g1:=grownCap_ge w (0 + 1) 0 (ρ.t 3)
  have g2:=grownCap_le_maxLen w (0 + 1) 0 (ρ.t 3) (by decide)
  rw [<- hG] at g1 g2 ⊢
  refine ⟨_,rfl,Bel.drewAlloc _ _,.inr ⟨w.heap.size,0,ρ.t 3,(([]++[Value.int .i64 x]).toArray++Builtin.zeroCells (Value.int .i64 0).cells (G - (0 + 1))).toList,G,by simp,x0k _,?_,by simpa using g1,⟨?_,g2⟩,fun j r' off d h1 h2=>?_⟩⟩
  ·rw [x0R];exact heap_alloc_new w.drew _
  ·simp [size_zeroCells,hzc];omega
  ·obtain ⟨y,h3,rfl,rfl⟩:=iA h1 h2
   cases j with
   | zero=>simp at h3;subst h3;exact ⟨.int .i64 x,by simp,by simp only [af]⟩
   | succ j=>simp at h3
 ·obtain ⟨B,o',T',us',cap',rfl,hne,h4,h5⟩:=args r
  have hBb : B ≠ b:=fun e=>hne (by rw [e])
  have hget:=nh hc
  have hl : (zs.map fun n=>[D.int .i64 n]).length=zs.length:=by simp
  have hlr : ((zs.take i++x::zs.drop i).map fun n=>[D.int .i64 n]).length=zs.length + 1:=by simp;omega
  rw [hl] at hcap ⊢
  rw [hlr]
  have hcs : ∀ j v,(zs.map (Value.int .i64))[j]? = some v -> w.cell? ⟨b,o + j,none⟩=some v:=fun j v hj=>by
   rw [x0A,x0n] at hj
   obtain ⟨y,hj,rfl⟩:=hj
   exact cellOf hcell (hget j y hj)
  have hvs : ∀ j v,[Value.int .i64 x][j]? = some v -> w.cell? ⟨B,o' + j,none⟩=some v:=fun j v hj=>by
   cases j with
   | zero=>simp at hj;subst hj;exact cellOf h4 (by simpa using h5)
   | succ j=>simp at hj
  have h1c : ∀ v ∈ zs.map (Value.int .i64),v.oneCell'=true:=by
   intro v hv
   obtain ⟨y,_,rfl⟩:=x0t.1 hv
   rfl
  have hus : o + cap <= us.length:=by simpa using hle
  have here : ∀ j,j < zs.length + 1 -> zs.length + 1 <= cap -> (w.cell? ⟨b,o + j,none⟩).isSome=true:=fun j hj hr=>by
   have hlt : o + j < us.length:=by omega
   rw [cellOf hcell (x0e hlt)];rfl
  by_cases hroom : zs.length + 1 <= cap
  ·-- in place
   have fin : ∀ (w' : World) (us2 : List Value) (n : Nat),us2.length=us.length -> w'.heap[b]? = some (.cells us2.toArray T (0,0)) -> (∀ k,k ≠ b -> w'.heap[k]? = w.heap[k]?) -> w'.heap.size=w.heap.size -> w'.os=w.os -> w'.tape=w.tape -> w'.output=w.output -> w'.drawn=w.drawn + n ->
     (∀ j y,(zs.take i++x::zs.drop i)[j]? = some y -> us2[o + j]? = some (.int .i64 y)) ->
     ∃ v,Ending.returned (Value.slice (some ⟨b,o,none⟩) (zs.length + 1) cap)=.returned v /\ ∃ us2 : List Value,w'.heap[b]? = some (.cells us2.toArray T (0,0)) /\ us2.length=us.length /\ Ch (fun k=>k=b) w w' /\
      ((v=.slice (some ⟨b,o,none⟩) (zs.length + 1) cap /\ zs.length + 1 <= cap /\ ∀ i' r off d,((zs.take i++x::zs.drop i).map fun n=>[D.int .i64 n])[i']? = some r -> r[off]? = some d -> ∃ u,us2[o + i' * 1 + off]? = some u /\ af F M d u) \/ fZ F M w w' 1 ((zs.take i++x::zs.drop i).map fun n=>[D.int .i64 n]) v):=by
    intro w' us2 n e1 e2 e3 e4 e5 e6 e7 e8 e9
    refine ⟨_,rfl,us2,e2,e1,⟨e5,e6,e7,Nat.le_of_eq e4.symm,fun k _ hk=>e3 k hk,by omega⟩,.inl ⟨rfl,hroom,fun j r' off d h1 h2=>?_⟩⟩
    obtain ⟨y,h3,rfl,rfl⟩:=iA h1 h2
    exact ⟨.int .i64 y,by simpa using e9 j y h3,by simp only [af]⟩
   rcases Nat.lt_or_eq_of_le hi with hlt | heq
   ·refine (Any2.slices_Insert_int_shift L b o zs.length cap i B o' 1 cap' (zs.map (Value.int .i64)) [.int .i64 x] w hlt (by omega) hroom hmc hBb (by simp) rfl hcs (fun j hj=>here j hj hroom) (fun j _=>frz hcell) hvs h1c one T' T us'.length us.length
     (by simp [World.shape?,h4]) (by simp [World.shape?,hcell]) (by omega) (frz h4) (frz h4)).mono ?_
    rintro e w' ⟨rfl,rfl⟩
    have hdl : ((zs.map (Value.int .i64)).drop i).length=zs.length - i:=by simp
    obtain ⟨s1,s2,s3,s4,s5,s6,s7⟩:=bM b T ((zs.map (Value.int .i64)).drop i) (o + (i + 1)) us w.drew (by exact hcell) (by rw [hdl];omega)
    obtain ⟨us1,hu1⟩ : ∃ us1,us1=us.take (o + (i + 1))++(zs.map (Value.int .i64)).drop i++us.drop (o + (i + 1) + ((zs.map (Value.int .i64)).drop i).length):=⟨_,rfl⟩
    rw [<- hu1] at s1
    have hl1 : us1.length=us.length:=by rw [hu1];simp;omega
    obtain ⟨t1,t2,t3,t4,t5,t6,t7⟩:=bM b T [Value.int .i64 x] (o + i) us1 _ s1 (by simp;omega)
    have g1:=fun y=>cG (vs:=us) (us:=(zs.map (Value.int .i64)).drop i) (q:=o + (i + 1)) (n:=zs.length - i) (x:=y) hdl (by omega)
    have g2:=fun y=>cG (vs:=us1) (us:=[Value.int .i64 x]) (q:=o + i) (n:=1) (x:=y) rfl (by omega)
    rw [hdl] at hu1
    rw [<- hu1] at g1
    refine fin _ _ 1 (by simp;omega) t1 (fun k hk=>(t2 k hk).trans (s2 k hk)) (t3.trans s3) (t4.trans s4) (t5.trans s5) (t6.trans s6) (t7.trans s7) (fun j y hj=>?_)
    have hjl : j < zs.length + 1:=by have:=(x0b.1 hj).1;simp at this;omega
    rw [mA hi] at hj
    show (us1.take (o + i)++[Value.int .i64 x]++us1.drop (o + i + 1))[o + j]? = _
    rw [g2]
    by_cases c1 : j < i
    ·rw [if_pos c1] at hj
     rw [if_neg (by omega),g1,if_neg (by omega)]
     exact hget j y hj
    ·rw [if_neg c1] at hj
     by_cases c2 : j=i
     ·subst c2
      rw [if_pos rfl] at hj
      rw [if_pos (by omega)]
      cases hj
      simp
     ·rw [if_neg c2] at hj
      rw [if_neg (by omega),g1,if_pos (by omega),x0v,show i + (o + j - (o + (i + 1)))=j - 1 by omega,x0A,hj]
      rfl
   ·subst heq
    refine (Any2.slices_Insert_int_end_room L b o zs.length cap B o' 1 cap' [.int .i64 x] w (by omega) hroom hmc rfl (fun j hj=>by
     have:=here (zs.length + j) (by omega) hroom
     rwa [<- x0P] at this) (fun j _=>frz hcell) hvs one).mono ?_
    rintro e w' ⟨rfl,rfl⟩
    obtain ⟨t1,t2,t3,t4,t5,t6,t7⟩:=bM b T [Value.int .i64 x] (o + zs.length) us w hcell (by simp;omega)
    have g2:=fun y=>cG (vs:=us) (us:=[Value.int .i64 x]) (q:=o + zs.length) (n:=1) (x:=y) rfl (by omega)
    refine fin _ _ 0 (by simp;omega) t1 t2 t3 t4 t5 t6 t7 (fun j y hj=>?_)
    have hjl : j < zs.length + 1:=by have:=(x0b.1 hj).1;simp at this;omega
    rw [mA (x0k _)] at hj
    show (us.take (o + zs.length)++[Value.int .i64 x]++us.drop (o + zs.length + 1))[o + j]? = _
    rw [g2]
    by_cases c1 : j < zs.length
    ·rw [if_pos c1] at hj
     rw [if_neg (by omega)]
     exact hget j y hj
    ·have c2 : j=zs.length:=by omega
     rw [if_neg c1,if_pos c2] at hj
     rw [if_pos (by omega)]
     cases hj
     rw [c2]
     simp
  ·-- a new row
   have hroom' : cap < zs.length + 1:=by omega
   obtain ⟨G,hG⟩ : ∃ G,G=grownCap w (zs.length + 1) cap (ρ.t 3):=⟨_,rfl⟩
   have g1:=grownCap_ge w (zs.length + 1) cap (ρ.t 3)
   have g2:=grownCap_le_maxLen w (zs.length + 1) cap (ρ.t 3) (by unfold maxLen;omega)
   rcases Nat.lt_or_eq_of_le hi with hlt | heq
   ·refine (Any2.slices_Insert_int_grow L b o zs.length cap i B o' 1 cap' (zs.map (Value.int .i64)) [.int .i64 x] w hlt (by omega) hcap hroom' (by omega) (by simp) rfl hcs hvs h1c one).mono ?_
    rintro e w' ⟨rfl,rfl⟩
    rw [<- hG] at g1 g2 ⊢
    have hdl : ((zs.map (Value.int .i64)).drop i).length=zs.length - i:=by simp
    obtain ⟨row,hrow⟩ : ∃ row : Array Value,row=((zs.map (Value.int .i64)).take i).toArray++Builtin.zeroCells (Value.int .i64 0).cells (zs.length + 1 - i)++Builtin.zeroCells (Value.int .i64 0).cells (G - (zs.length + 1)):=⟨_,rfl⟩
    rw [<- hrow]
    have hrl : row.toList.length=G:=by rw [hrow];simp [size_zeroCells,hzc];omega
    have hnew : ((w.alloc (.cells row (ρ.t 3))).drew).heap[w.heap.size]? = some (.cells row.toList.toArray (ρ.t 3) (0,0)):=by
     rw [x0R];exact heap_alloc_new w _
    obtain ⟨s1,s2,s3,s4,s5,s6,s7⟩:=bM w.heap.size (ρ.t 3) [Value.int .i64 x] i row.toList ((w.alloc (.cells row (ρ.t 3))).drew) hnew (by simp only [List.length_singleton];omega)
    obtain ⟨us1,hu1⟩ : ∃ us1,us1=row.toList.take i++[Value.int .i64 x]++row.toList.drop (i + [Value.int .i64 x].length):=⟨_,rfl⟩
    rw [<- hu1] at s1
    have hl1 : us1.length=G:=by rw [hu1];simp only [x0I,x03,x1A,List.length_singleton,hrl];omega
    obtain ⟨t1,t2,t3,t4,t5,t6,t7⟩:=bM w.heap.size (ρ.t 3) ((zs.map (Value.int .i64)).drop i) (i + 1) us1 ((((w.alloc (.cells row (ρ.t 3))).drew).setCells w.heap.size i [Value.int .i64 x]).drew) s1 (by rw [hdl];omega)
    have gA:=fun y=>cG (vs:=row.toList) (us:=[Value.int .i64 x]) (q:=i) (n:=1) (x:=y) rfl (by omega)
    have gB:=fun y=>cG (vs:=us1) (us:=(zs.map (Value.int .i64)).drop i) (q:=i + 1) (n:=zs.length - i) (x:=y) hdl (by omega)
    have ex : ∀ k,k ≠ w.heap.size -> (w.alloc (.cells row (ρ.t 3))).heap[k]? = w.heap[k]?:=fun k hk=>by
     simp only [World.alloc]
     rw [Array.getElem?_push,if_neg hk]
    have exs : (w.alloc (.cells row (ρ.t 3))).heap.size=w.heap.size + 1:=by simp only [World.alloc,Array.size_push]
    have hall : ∀ k,k ≠ w.heap.size -> (((((w.alloc (.cells row (ρ.t 3))).drew).setCells w.heap.size i [Value.int .i64 x]).drew).setCells w.heap.size (i + 1) ((zs.map (Value.int .i64)).drop i)).heap[k]? = w.heap[k]?:=fun k hk=>(t2 k hk).trans ((s2 k hk).trans (ex k hk))
    refine ⟨_,rfl,us,(hall b (by omega)).trans hcell,rfl,⟨t4.trans s4,t5.trans s5,t6.trans s6,?_,fun k hk _=>hall k (by omega),?_⟩,.inr ⟨w.heap.size,0,ρ.t 3,_,G,by rw [hlr],x0k _,t1,by rw [hlr];exact g1,⟨?_,g2⟩,fun j r' off d h1 h2=>?_⟩⟩
    ·have : ((((w.alloc (.cells row (ρ.t 3))).drew).setCells w.heap.size i [Value.int .i64 x]).drew).heap.size=w.heap.size + 1:=s3.trans exs
     rw [t3,this];omega
    ·rw [t7]
     show w.drawn <= (((w.alloc (.cells row (ρ.t 3))).drew).setCells w.heap.size i [Value.int .i64 x]).drawn + 1
     rw [s7]
     show w.drawn <= w.drawn + 1 + 1
     omega
    ·simp only [x0I,x03,x1A,hl1,x1a];omega
    ·obtain ⟨y,hj,rfl,rfl⟩:=iA h1 h2
     refine ⟨.int .i64 y,?_,by simp only [af]⟩
     have hjl : j < zs.length + 1:=by have:=(x0b.1 hj).1;simp at this;omega
     rw [mA hi] at hj
     rw [x05,Nat.mul_one,x0W,hdl,gB]
     by_cases c1 : j < i
     ·rw [if_pos c1] at hj
      rw [if_neg (by omega),hu1]
      show (row.toList.take i++[Value.int .i64 x]++row.toList.drop (i + 1))[j]? = _
      rw [gA,if_neg (by omega),hrow]
      have hj2 : j < zs.length:=(x0b.1 hj).1
      simp only [Array.toList_append,x1I]
      rw [x0w (by simp;omega)]
      simp only [x0D c1,x0A,hj]
      rfl
     ·rw [if_neg c1] at hj
      by_cases c2 : j=i
      ·subst c2
       rw [if_pos rfl] at hj
       rw [if_neg (by omega),hu1]
       show (row.toList.take j++[Value.int .i64 x]++row.toList.drop (j + 1))[j]? = _
       rw [gA,if_pos (by omega)]
       cases hj
       simp
      ·rw [if_neg c2] at hj
       rw [if_pos (by omega),x0v,show i + (j + 0 - (i + 1))=j - 1 by omega,x0A,hj]
       rfl
   ·subst heq
    refine (Any2.slices_Insert_int_end_grow L (some ⟨b,o,none⟩) zs.length cap B o' 1 cap' (zs.map (Value.int .i64)) [.int .i64 x] w (by omega) hcap hroom' (by omega) (by simp) rfl (fun e=>by cases e) (fun a ha j v hj=>by
     cases ha
     rw [Addr.add_lit]
     exact hcs j v hj) hvs one).mono ?_
    rintro e w' ⟨rfl,rfl⟩
    rw [<- hG] at g1 g2 ⊢
    obtain ⟨row,hrow⟩ : ∃ row : Array Value,row=(zs.map (Value.int .i64)++[Value.int .i64 x]).toArray++Builtin.zeroCells (Value.int .i64 0).cells (G - (zs.length + 1)):=⟨_,rfl⟩
    rw [<- hrow]
    have hrl : row.toList.length=G:=by rw [hrow];simp [size_zeroCells,hzc];omega
    have hbel:=Bel.drewAlloc w (.cells row (ρ.t 3))
    refine ⟨_,rfl,us,(hbel.block b hb).trans hcell,rfl,Ch.of_below hbel _,.inr ⟨w.heap.size,0,ρ.t 3,row.toList,G,by rw [hlr],x0k _,by rw [x0R];exact heap_alloc_new w.drew _,by rw [hlr];exact g1,⟨by omega,g2⟩,fun j r' off d h1 h2=>?_⟩⟩
    obtain ⟨y,hj,rfl,rfl⟩:=iA h1 h2
    refine ⟨.int .i64 y,?_,by simp only [af]⟩
    have hjl : j < zs.length + 1:=by have:=(x0b.1 hj).1;simp at this;omega
    rw [mA (x0k _)] at hj
    rw [x05,Nat.mul_one,x0W,hrow]
    simp only [Array.toList_append]
    rw [x0w (by simp;omega)]
    by_cases c1 : j < zs.length
    ·rw [if_pos c1] at hj
     rw [x0w (by simpa using c1),x0A,hj]
     rfl
    ·have c2 : j=zs.length:=by omega
     rw [if_neg c1,if_pos c2] at hj
     cases hj
     rw [x0z (by simp;omega)]
     simp [c2]
end
end Go.Gv

namespace Go.Gv
structure Tag {α : Type _} (x : α) : Type where
@[simp] theorem NJ : isV (.any)=true:=zR
@[simp] theorem NM {k n} : isV (.int k n)=true:=zR
@[simp] theorem JL {b} : isV (.bool b)=true:=zR
@[simp] theorem NU {s} : isV (.str s)=true:=zR
@[simp] theorem JM : isV (.nilp)=true:=zR
@[simp] theorem JN : isV (.nils)=true:=zR
@[simp] theorem NH {ds} : isV (.agg ds)=true:=zR
@[simp] theorem NW {ds} : isV (.tup ds)=true:=zR
@[simp] theorem PJ {es} : isV (.sl es)=true:=zR
@[simp] theorem NP {ds} : isV (.ptr ds)=true:=zR
@[simp] theorem PH {g ds} : isV (.fn g ds)=true:=zR
@[simp] theorem NO {sz es} : isV (.own sz es)=false:=zR
@[simp] theorem NK {sz es} : isV (.blk sz es)=false:=zR
@[simp] theorem PI {kt et ks vs} : isV (.mp kt et ks vs)=false:=zR
@[simp] theorem NN {b} : isV (.mrf b)=false:=zR
@[simp] theorem NR {p k n} : isV (.ref p k n)=false:=zR
@[simp] theorem NG {p i off} : isV (.adr p i off)=false:=zR
@[simp] theorem NI {ds} : isV (.agx ds)=false:=zR
@[simp] theorem NV {ds} : isV (.tpx ds)=false:=zR
@[simp] theorem NQ {ds} : isV (.ptx ds)=false:=zR
@[simp] theorem NS {n sz ds} : isV (.rfx n sz ds)=false:=zR
@[simp] theorem NL {g ds} : isV (.fnx g ds)=false:=zR
@[simp] theorem Mv : isK (.any)=false:=zR
@[simp] theorem My {k n} : isK (.int k n)=true:=zR
@[simp] theorem Jz {b} : isK (.bool b)=true:=zR
@[simp] theorem MG {s} : isK (.str s)=true:=zR
@[simp] theorem JA : isK (.nilp)=true:=zR
@[simp] theorem JB : isK (.nils)=true:=zR
@[simp] theorem Mt {ds} : isK (.agg ds)=true:=zR
@[simp] theorem MI {ds} : isK (.tup ds)=true:=zR
@[simp] theorem Pu {es} : isK (.sl es)=true:=zR
@[simp] theorem MB {ds} : isK (.ptr ds)=true:=zR
@[simp] theorem Ps {g ds} : isK (.fn g ds)=true:=zR
@[simp] theorem MA {sz es} : isK (.own sz es)=false:=zR
@[simp] theorem Mw {sz es} : isK (.blk sz es)=false:=zR
@[simp] theorem Pt {kt et ks vs} : isK (.mp kt et ks vs)=false:=zR
@[simp] theorem Mz {b} : isK (.mrf b)=false:=zR
@[simp] theorem MD {p k n} : isK (.ref p k n)=false:=zR
@[simp] theorem Ms {p i off} : isK (.adr p i off)=false:=zR
@[simp] theorem Mu {ds} : isK (.agx ds)=false:=zR
@[simp] theorem MH {ds} : isK (.tpx ds)=false:=zR
@[simp] theorem MC {ds} : isK (.ptx ds)=false:=zR
@[simp] theorem ME {n sz ds} : isK (.rfx n sz ds)=false:=zR
@[simp] theorem Mx {g ds} : isK (.fnx g ds)=false:=zR
@[simp] theorem M9 : isP (.any)=true:=zR
@[simp] theorem Nc {k n} : isP (.int k n)=true:=zR
@[simp] theorem JF {b} : isP (.bool b)=true:=zR
@[simp] theorem Nl {s} : isP (.str s)=true:=zR
@[simp] theorem JG : isP (.nilp)=true:=zR
@[simp] theorem JH : isP (.nils)=true:=zR
@[simp] theorem M7 {ds} : isP (.agg ds)=true:=zR
@[simp] theorem Nn {ds} : isP (.tup ds)=true:=zR
@[simp] theorem PB {es} : isP (.sl es)=true:=zR
@[simp] theorem Ng {ds} : isP (.ptr ds)=true:=zR
@[simp] theorem Pz {g ds} : isP (.fn g ds)=true:=zR
@[simp] theorem Nf {sz es} : isP (.own sz es)=false:=zR
@[simp] theorem Na {sz es} : isP (.blk sz es)=false:=zR
@[simp] theorem PA {kt et ks vs} : isP (.mp kt et ks vs)=false:=zR
@[simp] theorem Nd {b} : isP (.mrf b)=true:=zR
@[simp] theorem Ni {p k n} : isP (.ref p k n)=true:=zR
@[simp] theorem M6 {p i off} : isP (.adr p i off)=true:=zR
@[simp] theorem M8 {ds} : isP (.agx ds)=false:=zR
@[simp] theorem Nm {ds} : isP (.tpx ds)=false:=zR
@[simp] theorem Nh {ds} : isP (.ptx ds)=false:=zR
@[simp] theorem Nj {n sz ds} : isP (.rfx n sz ds)=false:=zR
@[simp] theorem Nb {g ds} : isP (.fnx g ds)=false:=zR
@[simp] theorem Ns : isS (.any)=true:=zR
@[simp] theorem PG : isV (.bb)=true:=zR
@[simp] theorem PC : isS (.bb)=true:=zR
@[simp] theorem Py : isP (.bb)=true:=zR
@[simp] theorem Pl : isB (.bb)=false:=zR
@[simp] theorem IB : cE (.bb)=false:=zR
@[simp] theorem GB : bx (.bb)=[]:=zR
@[simp] theorem Dh : aH (.bb)=[]:=zR
@[simp] theorem Nv {k n} : isS (.int k n)=true:=zR
@[simp] theorem JI {b} : isS (.bool b)=true:=zR
@[simp] theorem ND {s} : isS (.str s)=true:=zR
@[simp] theorem JJ : isS (.nilp)=true:=zR
@[simp] theorem JK : isS (.nils)=true:=zR
@[simp] theorem Nq {ds} : isS (.agg ds)=true:=zR
@[simp] theorem NF {ds} : isS (.tup ds)=true:=zR
@[simp] theorem PF {es} : isS (.sl es)=true:=zR
@[simp] theorem Ny {ds} : isS (.ptr ds)=true:=zR
@[simp] theorem PD {g ds} : isS (.fn g ds)=true:=zR
@[simp] theorem Nx {sz es} : isS (.own sz es)=false:=zR
@[simp] theorem Nt {sz es} : isS (.blk sz es)=false:=zR
@[simp] theorem PE {kt et ks vs} : isS (.mp kt et ks vs)=false:=zR
@[simp] theorem Nw {b} : isS (.mrf b)=true:=zR
@[simp] theorem NA {p k n} : isS (.ref p k n)=true:=zR
@[simp] theorem Np {p i off} : isS (.adr p i off)=true:=zR
@[simp] theorem Nr {ds} : isS (.agx ds)=ds.all isP:=zR
@[simp] theorem NE {ds} : isS (.tpx ds)=ds.all isP:=zR
@[simp] theorem Nz {ds} : isS (.ptx ds)=ds.all isP:=zR
@[simp] theorem NB {n sz ds} : isS (.rfx n sz ds)=ds.all isP:=zR
@[simp] theorem Nu {g ds} : isS (.fnx g ds)=ds.all isP:=zR
@[simp] theorem IL : aE (.any)=false:=zR
@[simp] theorem IP {k n} : aE (.int k n)=true:=zR
@[simp] theorem FX {b} : aE (.bool b)=true:=zR
@[simp] theorem IX {s} : aE (.str s)=true:=zR
@[simp] theorem FY : aE (.nilp)=true:=zR
@[simp] theorem FZ : aE (.nils)=true:=zR
@[simp] theorem IJ {ds} : aE (.agg ds)=false:=zR
@[simp] theorem IZ {ds} : aE (.tup ds)=false:=zR
@[simp] theorem L5 {es} : aE (.sl es)=true:=zR
@[simp] theorem IS {ds} : aE (.ptr ds)=true:=zR
@[simp] theorem L3 {g ds} : aE (.fn g ds)=true:=zR
@[simp] theorem IR {sz es} : aE (.own sz es)=false:=zR
@[simp] theorem IM {sz es} : aE (.blk sz es)=false:=zR
@[simp] theorem L4 {kt et ks vs} : aE (.mp kt et ks vs)=false:=zR
@[simp] theorem IQ {b} : aE (.mrf b)=false:=zR
@[simp] theorem IU {p k n} : aE (.ref p k n)=false:=zR
@[simp] theorem II {p i off} : aE (.adr p i off)=false:=zR
@[simp] theorem IK {ds} : aE (.agx ds)=false:=zR
@[simp] theorem IY {ds} : aE (.tpx ds)=false:=zR
@[simp] theorem IT {ds} : aE (.ptx ds)=false:=zR
@[simp] theorem IV {n sz ds} : aE (.rfx n sz ds)=false:=zR
@[simp] theorem IO {g ds} : aE (.fnx g ds)=false:=zR
@[simp] theorem MM : isO (.any)=false:=zR
@[simp] theorem MP {k n} : isO (.int k n)=false:=zR
@[simp] theorem JC {b} : isO (.bool b)=false:=zR
@[simp] theorem MX {s} : isO (.str s)=false:=zR
@[simp] theorem JD : isO (.nilp)=false:=zR
@[simp] theorem JE : isO (.nils)=false:=zR
@[simp] theorem MK {ds} : isO (.agg ds)=false:=zR
@[simp] theorem MZ {ds} : isO (.tup ds)=false:=zR
@[simp] theorem Px {es} : isO (.sl es)=false:=zR
@[simp] theorem MS {ds} : isO (.ptr ds)=false:=zR
@[simp] theorem Pv {g ds} : isO (.fn g ds)=false:=zR
@[simp] theorem MR {sz es} : isO (.own sz es)=true:=zR
@[simp] theorem MN {sz es} : isO (.blk sz es)=false:=zR
@[simp] theorem Pw {kt et ks vs} : isO (.mp kt et ks vs)=false:=zR
@[simp] theorem MQ {b} : isO (.mrf b)=false:=zR
@[simp] theorem MU {p k n} : isO (.ref p k n)=false:=zR
@[simp] theorem MJ {p i off} : isO (.adr p i off)=false:=zR
@[simp] theorem ML {ds} : isO (.agx ds)=false:=zR
@[simp] theorem MY {ds} : isO (.tpx ds)=false:=zR
@[simp] theorem MT {ds} : isO (.ptx ds)=false:=zR
@[simp] theorem MV {n sz ds} : isO (.rfx n sz ds)=false:=zR
@[simp] theorem MO {g ds} : isO (.fnx g ds)=false:=zR
@[simp] theorem I3 : bv (.any)=true:=zR
@[simp] theorem I6 {k n} : bv (.int k n)=true:=zR
@[simp] theorem F0 {b} : bv (.bool b)=true:=zR
@[simp] theorem Jd {s} : bv (.str s)=true:=zR
@[simp] theorem F1 : bv (.nilp)=true:=zR
@[simp] theorem F2 : bv (.nils)=true:=zR
@[simp] theorem I1 {ds} : bv (.agg ds)=false:=zR
@[simp] theorem Jf {ds} : bv (.tup ds)=false:=zR
@[simp] theorem L8 {es} : bv (.sl es)=false:=zR
@[simp] theorem I9 {ds} : bv (.ptr ds)=false:=zR
@[simp] theorem L6 {g ds} : bv (.fn g ds)=false:=zR
@[simp] theorem I8 {sz es} : bv (.own sz es)=false:=zR
@[simp] theorem I4 {sz es} : bv (.blk sz es)=false:=zR
@[simp] theorem L7 {kt et ks vs} : bv (.mp kt et ks vs)=false:=zR
@[simp] theorem I7 {b} : bv (.mrf b)=false:=zR
@[simp] theorem Jb {p k n} : bv (.ref p k n)=false:=zR
@[simp] theorem I0 {p i off} : bv (.adr p i off)=false:=zR
@[simp] theorem I2 {ds} : bv (.agx ds)=false:=zR
@[simp] theorem Je {ds} : bv (.tpx ds)=false:=zR
@[simp] theorem Ja {ds} : bv (.ptx ds)=false:=zR
@[simp] theorem Jc {n sz ds} : bv (.rfx n sz ds)=false:=zR
@[simp] theorem I5 {g ds} : bv (.fnx g ds)=false:=zR
@[simp] theorem Jj : dL (.any)=true:=zR
@[simp] theorem Jm {k n} : dL (.int k n)=true:=zR
@[simp] theorem F3 {b} : dL (.bool b)=true:=zR
@[simp] theorem Jt {s} : dL (.str s)=true:=zR
@[simp] theorem F4 : dL (.nilp)=true:=zR
@[simp] theorem F5 : dL (.nils)=true:=zR
@[simp] theorem Jh {ds} : dL (.agg ds)=ds.all bv:=zR
@[simp] theorem Jv {ds} : dL (.tup ds)=false:=zR
@[simp] theorem Mb {es} : dL (.sl es)=false:=zR
@[simp] theorem Jp {ds} : dL (.ptr ds)=false:=zR
@[simp] theorem L9 {g ds} : dL (.fn g ds)=false:=zR
@[simp] theorem Jo {sz es} : dL (.own sz es)=false:=zR
@[simp] theorem Jk {sz es} : dL (.blk sz es)=false:=zR
@[simp] theorem Ma {kt et ks vs} : dL (.mp kt et ks vs)=false:=zR
@[simp] theorem Jn {b} : dL (.mrf b)=false:=zR
@[simp] theorem Jr {p k n} : dL (.ref p k n)=false:=zR
@[simp] theorem Jg {p i off} : dL (.adr p i off)=false:=zR
@[simp] theorem Ji {ds} : dL (.agx ds)=false:=zR
@[simp] theorem Ju {ds} : dL (.tpx ds)=false:=zR
@[simp] theorem Jq {ds} : dL (.ptx ds)=false:=zR
@[simp] theorem Js {n sz ds} : dL (.rfx n sz ds)=false:=zR
@[simp] theorem Jl {g ds} : dL (.fnx g ds)=false:=zR
@[simp] theorem Mf : isF (.any)=true:=zR
@[simp] theorem Mi {k n} : isF (.int k n)=true:=zR
@[simp] theorem Jw {b} : isF (.bool b)=true:=zR
@[simp] theorem Mp {s} : isF (.str s)=true:=zR
@[simp] theorem Jx : isF (.nilp)=true:=zR
@[simp] theorem Jy : isF (.nils)=true:=zR
@[simp] theorem Md {ds} : isF (.agg ds)=ds.all bv:=zR
@[simp] theorem Mr {ds} : isF (.tup ds)=ds.all dL:=zR
@[simp] theorem Pr {es} : isF (.sl es)=false:=zR
@[simp] theorem Ml {ds} : isF (.ptr ds)=false:=zR
@[simp] theorem Pp {g ds} : isF (.fn g ds)=false:=zR
@[simp] theorem Mk {sz es} : isF (.own sz es)=false:=zR
@[simp] theorem Mg {sz es} : isF (.blk sz es)=false:=zR
@[simp] theorem Pq {kt et ks vs} : isF (.mp kt et ks vs)=false:=zR
@[simp] theorem Mj {b} : isF (.mrf b)=false:=zR
@[simp] theorem Mn {p k n} : isF (.ref p k n)=false:=zR
@[simp] theorem Mc {p i off} : isF (.adr p i off)=false:=zR
@[simp] theorem Me {ds} : isF (.agx ds)=false:=zR
@[simp] theorem Mq {ds} : isF (.tpx ds)=false:=zR
@[simp] theorem Mm {ds} : isF (.ptx ds)=false:=zR
@[simp] theorem Mo {n sz ds} : isF (.rfx n sz ds)=false:=zR
@[simp] theorem Mh {g ds} : isF (.fnx g ds)=false:=zR
@[simp] theorem LP : isB (.any)=false:=zR
@[simp] theorem LS {k n} : isB (.int k n)=false:=zR
@[simp] theorem IF {b} : isB (.bool b)=false:=zR
@[simp] theorem L0 {s} : isB (.str s)=false:=zR
@[simp] theorem IG : isB (.nilp)=false:=zR
@[simp] theorem IH : isB (.nils)=false:=zR
@[simp] theorem LN {ds} : isB (.agg ds)=false:=zR
@[simp] theorem L2 {ds} : isB (.tup ds)=false:=zR
@[simp] theorem Po {es} : isB (.sl es)=false:=zR
@[simp] theorem LV {ds} : isB (.ptr ds)=false:=zR
@[simp] theorem Pm {g ds} : isB (.fn g ds)=false:=zR
@[simp] theorem LU {sz es} : isB (.own sz es)=false:=zR
@[simp] theorem LQ {sz es} : isB (.blk sz es)=true:=zR
@[simp] theorem Pn {kt et ks vs} : isB (.mp kt et ks vs)=true:=zR
@[simp] theorem LT {b} : isB (.mrf b)=false:=zR
@[simp] theorem LX {p k n} : isB (.ref p k n)=false:=zR
@[simp] theorem LM {p i off} : isB (.adr p i off)=false:=zR
@[simp] theorem LO {ds} : isB (.agx ds)=false:=zR
@[simp] theorem L1 {ds} : isB (.tpx ds)=false:=zR
@[simp] theorem LW {ds} : isB (.ptx ds)=false:=zR
@[simp] theorem LY {n sz ds} : isB (.rfx n sz ds)=false:=zR
@[simp] theorem LR {g ds} : isB (.fnx g ds)=false:=zR
@[simp] theorem FJ : cE (.any)=true:=zR
@[simp] theorem FM {k n} : cE (.int k n)=false:=zR
@[simp] theorem CX {b} : cE (.bool b)=false:=zR
@[simp] theorem FU {s} : cE (.str s)=false:=zR
@[simp] theorem CY : cE (.nilp)=false:=zR
@[simp] theorem CZ : cE (.nils)=false:=zR
@[simp] theorem FH {ds} : cE (.agg ds)=false:=zR
@[simp] theorem FW {ds} : cE (.tup ds)=false:=zR
@[simp] theorem IE {es} : cE (.sl es)=false:=zR
@[simp] theorem FP {ds} : cE (.ptr ds)=false:=zR
@[simp] theorem IC {g ds} : cE (.fn g ds)=false:=zR
@[simp] theorem FO {sz es} : cE (.own sz es)=false:=zR
@[simp] theorem FK {sz es} : cE (.blk sz es)=false:=zR
@[simp] theorem ID {kt et ks vs} : cE (.mp kt et ks vs)=false:=zR
@[simp] theorem FN {b} : cE (.mrf b)=false:=zR
@[simp] theorem FR {p k n} : cE (.ref p k n)=false:=zR
@[simp] theorem FG {p i off} : cE (.adr p i off)=false:=zR
@[simp] theorem FI {ds} : cE (.agx ds)=false:=zR
@[simp] theorem FV {ds} : cE (.tpx ds)=false:=zR
@[simp] theorem FQ {ds} : cE (.ptx ds)=false:=zR
@[simp] theorem FS {n sz ds} : cE (.rfx n sz ds)=false:=zR
@[simp] theorem FL {g ds} : cE (.fnx g ds)=false:=zR
@[simp] theorem Be : cellsOf (.any)=[.any]:=zR
@[simp] theorem Bh {k n} : cellsOf (.int k n)=[.int k n]:=zR
@[simp] theorem yM {b} : cellsOf (.bool b)=[.bool b]:=zR
@[simp] theorem Bp {s} : cellsOf (.str s)=[.str s]:=zR
@[simp] theorem yN : cellsOf (.nilp)=[.nilp]:=zR
@[simp] theorem yO : cellsOf (.nils)=[.nils]:=zR
@[simp] theorem Bc {ds} : cellsOf (.agg ds)=ds:=zR
@[simp] theorem Br {ds} : cellsOf (.tup ds)=[.tup ds]:=zR
@[simp] theorem CB {es} : cellsOf (.sl es)=[.sl es]:=zR
@[simp] theorem Bk {ds} : cellsOf (.ptr ds)=[.ptr ds]:=zR
@[simp] theorem Cz {g ds} : cellsOf (.fn g ds)=[.fn g ds]:=zR
@[simp] theorem Bj {sz es} : cellsOf (.own sz es)=[.own sz es]:=zR
@[simp] theorem Bf {sz es} : cellsOf (.blk sz es)=[.blk sz es]:=zR
@[simp] theorem CA {kt et ks vs} : cellsOf (.mp kt et ks vs)=[.mp kt et ks vs]:=zR
@[simp] theorem Bi {b} : cellsOf (.mrf b)=[.mrf b]:=zR
@[simp] theorem Bm {p k n} : cellsOf (.ref p k n)=[.ref p k n]:=zR
@[simp] theorem Bb {p i off} : cellsOf (.adr p i off)=[.adr p i off]:=zR
@[simp] theorem Bd {ds} : cellsOf (.agx ds)=[.agx ds]:=zR
@[simp] theorem Bq {ds} : cellsOf (.tpx ds)=[.tpx ds]:=zR
@[simp] theorem Bl {ds} : cellsOf (.ptx ds)=[.ptx ds]:=zR
@[simp] theorem Bn {n sz ds} : cellsOf (.rfx n sz ds)=[.rfx n sz ds]:=zR
@[simp] theorem Bg {g ds} : cellsOf (.fnx g ds)=[.fnx g ds]:=zR
@[simp] theorem Eu : bS (.any)=.any:=zR
@[simp] theorem Ex {k n} : bS (.int k n)=.int k n:=zR
@[simp] theorem Cp {b} : bS (.bool b)=.bool b:=zR
@[simp] theorem EF {s} : bS (.str s)=.str s:=zR
@[simp] theorem Cq : bS (.nilp)=.nilp:=zR
@[simp] theorem Cr : bS (.nils)=.nils:=zR
@[simp] theorem Es {ds} : bS (.agg ds)=.agg ds:=zR
@[simp] theorem EH {ds} : bS (.tup ds)=.tup ds:=zR
@[simp] theorem Hm {es} : bS (.sl es)=.sl es:=zR
@[simp] theorem EA {ds} : bS (.ptr ds)=.ptr ds:=zR
@[simp] theorem Hk {g ds} : bS (.fn g ds)=.fn g ds:=zR
@[simp] theorem Ez {sz es} : bS (.own sz es)=.own sz es:=zR
@[simp] theorem Ev {sz es} : bS (.blk sz es)=.blk sz es:=zR
@[simp] theorem Hl {kt et ks vs} : bS (.mp kt et ks vs)=.mp kt et ks vs:=zR
@[simp] theorem Ey {b} : bS (.mrf b)=.mrf b:=zR
@[simp] theorem EC {p k n} : bS (.ref p k n)=.ref p k n:=zR
@[simp] theorem Er {p i off} : bS (.adr p i off)=.adr p i off:=zR
@[simp] theorem Et {ds} : bS (.agx ds)=.agg ds:=zR
@[simp] theorem EG {ds} : bS (.tpx ds)=.tpx ds:=zR
@[simp] theorem EB {ds} : bS (.ptx ds)=.ptx ds:=zR
@[simp] theorem ED {n sz ds} : bS (.rfx n sz ds)=.rfx n sz ds:=zR
@[simp] theorem Ew {g ds} : bS (.fnx g ds)=.fnx g ds:=zR
@[simp] theorem EW : aL (.any)=.any:=zR
@[simp] theorem EZ {k n} : aL (.int k n)=.int k n:=zR
@[simp] theorem Cw {b} : aL (.bool b)=.bool b:=zR
@[simp] theorem E7 {s} : aL (.str s)=.str s:=zR
@[simp] theorem Cx : aL (.nilp)=.nilp:=zR
@[simp] theorem Cy : aL (.nils)=.nils:=zR
@[simp] theorem EU {ds} : aL (.agg ds)=.agg ds:=zR
@[simp] theorem E9 {ds} : aL (.tup ds)=.tup ds:=zR
@[simp] theorem HI {es} : aL (.sl es)=.sl es:=zR
@[simp] theorem E2 {ds} : aL (.ptr ds)=.ptr ds:=zR
@[simp] theorem HG {g ds} : aL (.fn g ds)=.fn g ds:=zR
@[simp] theorem E1 {sz es} : aL (.own sz es)=.sl es:=zR
@[simp] theorem EX {sz es} : aL (.blk sz es)=.blk sz es:=zR
@[simp] theorem HH {kt et ks vs} : aL (.mp kt et ks vs)=.mp kt et ks vs:=zR
@[simp] theorem E0 {b} : aL (.mrf b)=.mrf b:=zR
@[simp] theorem E4 {p k n} : aL (.ref p k n)=.ref p k n:=zR
@[simp] theorem ET {p i off} : aL (.adr p i off)=.adr p i off:=zR
@[simp] theorem EV {ds} : aL (.agx ds)=.agx ds:=zR
@[simp] theorem E8 {ds} : aL (.tpx ds)=.tpx ds:=zR
@[simp] theorem E3 {ds} : aL (.ptx ds)=.ptx ds:=zR
@[simp] theorem E5 {n sz ds} : aL (.rfx n sz ds)=.rfx n sz ds:=zR
@[simp] theorem EY {g ds} : aL (.fnx g ds)=.fnx g ds:=zR
@[simp] theorem BD : aH (.any)=[]:=zR
@[simp] theorem BG {k n} : aH (.int k n)=[]:=zR
@[simp] theorem zV {b} : aH (.bool b)=[]:=zR
@[simp] theorem BO {s} : aH (.str s)=[]:=zR
@[simp] theorem zW : aH (.nilp)=[]:=zR
@[simp] theorem zX : aH (.nils)=[]:=zR
@[simp] theorem BB {ds} : aH (.agg ds)=[]:=zR
@[simp] theorem BQ {ds} : aH (.tup ds)=[]:=zR
@[simp] theorem Dk {es} : aH (.sl es)=[]:=zR
@[simp] theorem BJ {ds} : aH (.ptr ds)=[]:=zR
@[simp] theorem Di {g ds} : aH (.fn g ds)=[]:=zR
@[simp] theorem BI {sz es} : aH (.own sz es)=[]:=zR
@[simp] theorem BE {sz es} : aH (.blk sz es)=[]:=zR
@[simp] theorem Dj {kt et ks vs} : aH (.mp kt et ks vs)=[]:=zR
@[simp] theorem BH {b} : aH (.mrf b)=[b]:=zR
@[simp] theorem BL {p k n} : aH (.ref p k n)=[p.root]:=zR
@[simp] theorem BA {p i off} : aH (.adr p i off)=[p.root]:=zR
@[simp] theorem BC {ds} : aH (.agx ds)=[]:=zR
@[simp] theorem BP {ds} : aH (.tpx ds)=[]:=zR
@[simp] theorem BK {ds} : aH (.ptx ds)=[]:=zR
@[simp] theorem BM {n sz ds} : aH (.rfx n sz ds)=[]:=zR
@[simp] theorem BF {g ds} : aH (.fnx g ds)=[]:=zR
@[simp] theorem Do : bx (.any)=[]:=zR
@[simp] theorem Dr {k n} : bx (.int k n)=[]:=zR
@[simp] theorem BR {b} : bx (.bool b)=[]:=zR
@[simp] theorem DA {s} : bx (.str s)=[]:=zR
@[simp] theorem BS : bx (.nilp)=[]:=zR
@[simp] theorem BT : bx (.nils)=[]:=zR
@[simp] theorem Dm {ds} : bx (.agg ds)=[]:=zR
@[simp] theorem DC {ds} : bx (.tup ds)=[]:=zR
@[simp] theorem GE {es} : bx (.sl es)=[]:=zR
@[simp] theorem Du {ds} : bx (.ptr ds)=[]:=zR
@[simp] theorem GC {g ds} : bx (.fn g ds)=[]:=zR
@[simp] theorem Dt {sz es} : bx (.own sz es)=[]:=zR
@[simp] theorem Dp {sz es} : bx (.blk sz es)=[]:=zR
@[simp] theorem GD {kt et ks vs} : bx (.mp kt et ks vs)=[]:=zR
@[simp] theorem Ds {b} : bx (.mrf b)=[b]:=zR
@[simp] theorem Dx {p k n} : bx (.ref p k n)=[p.root]:=zR
@[simp] theorem Dl {p i off} : bx (.adr p i off)=[p.root]:=zR
@[simp] theorem Dn {ds} : bx (.agx ds)=ds.flatMap aH:=zR
@[simp] theorem DB {ds} : bx (.tpx ds)=ds.flatMap aH:=zR
@[simp] theorem Dw {ds} : bx (.ptx ds)=ds.flatMap aH:=zR
@[simp] theorem Dy {n sz ds} : bx (.rfx n sz ds)=ds.flatMap aH:=zR
@[simp] theorem Dq {g ds} : bx (.fnx g ds)=ds.flatMap aH:=zR
@[simp] theorem Lp {f : Nat -> D} : dp1 f (.any)=(.any):=zR
@[simp] theorem Ls {f : Nat -> D} {k n} : dp1 f (.int k n)=(.int k n):=zR
@[simp] theorem HP {f : Nat -> D} {b} : dp1 f (.bool b)=(.bool b):=zR
@[simp] theorem LB {f : Nat -> D} {s} : dp1 f (.str s)=(.str s):=zR
@[simp] theorem HQ {f : Nat -> D} : dp1 f (.nilp)=(.nilp):=zR
@[simp] theorem HR {f : Nat -> D} : dp1 f (.nils)=(.nils):=zR
@[simp] theorem Ln {f : Nat -> D} {ds} : dp1 f (.agg ds)=(.agg ds):=zR
@[simp] theorem LD {f : Nat -> D} {ds} : dp1 f (.tup ds)=(.tup ds):=zR
@[simp] theorem OY {f : Nat -> D} {es} : dp1 f (.sl es)=(.sl es):=zR
@[simp] theorem Lv {f : Nat -> D} {ds} : dp1 f (.ptr ds)=(.ptr ds):=zR
@[simp] theorem OW {f : Nat -> D} {g ds} : dp1 f (.fn g ds)=(.fn g ds):=zR
@[simp] theorem Lu {f : Nat -> D} {sz es} : dp1 f (.own sz es)=(.own sz es):=zR
@[simp] theorem Lq {f : Nat -> D} {sz es} : dp1 f (.blk sz es)=(.blk sz es):=zR
@[simp] theorem OX {f : Nat -> D} {kt et ks vs} : dp1 f (.mp kt et ks vs)=(.mp kt et ks vs):=zR
@[simp] theorem Lt {f : Nat -> D} {b} : dp1 f (.mrf b)=(.mrf b):=zR
@[simp] theorem Lx {f : Nat -> D} {p k n} : dp1 f (.ref p k n)=(match aU f p with | some (_,es)=>.sl (((es.drop k).take n).map fun e=>e.map aL) | none=>.any):=zR
@[simp] theorem Lm {f : Nat -> D} {p i off} : dp1 f (.adr p i off)=(match aU f p with | some (_,es)=>.ptr (((es[i]?.getD []).drop off).map aL) | none=>.any):=zR
@[simp] theorem Lo {f : Nat -> D} {ds} : dp1 f (.agx ds)=(.agx ds):=zR
@[simp] theorem LC {f : Nat -> D} {ds} : dp1 f (.tpx ds)=(.tpx ds):=zR
@[simp] theorem Lw {f : Nat -> D} {ds} : dp1 f (.ptx ds)=(.ptx ds):=zR
@[simp] theorem Lz {f : Nat -> D} {n sz ds} : dp1 f (.rfx n sz ds)=(.rfx n sz ds):=zR
@[simp] theorem Lr {f : Nat -> D} {g ds} : dp1 f (.fnx g ds)=(.fnx g ds):=zR
@[simp] theorem O2 {f : Nat -> D} : dp f (.any)=(.any):=zR
@[simp] theorem O5 {f : Nat -> D} {k n} : dp f (.int k n)=(.int k n):=zR
@[simp] theorem LH {f : Nat -> D} {b} : dp f (.bool b)=(.bool b):=zR
@[simp] theorem Pe {f : Nat -> D} {s} : dp f (.str s)=(.str s):=zR
@[simp] theorem LI {f : Nat -> D} : dp f (.nilp)=(.nilp):=zR
@[simp] theorem LJ {f : Nat -> D} : dp f (.nils)=(.nils):=zR
@[simp] theorem O0 {f : Nat -> D} {ds} : dp f (.agg ds)=(.agg ds):=zR
@[simp] theorem Pg {f : Nat -> D} {ds} : dp f (.tup ds)=(.tup ds):=zR
@[simp] theorem Qf {f : Nat -> D} {es} : dp f (.sl es)=(.sl es):=zR
@[simp] theorem O8 {f : Nat -> D} {ds} : dp f (.ptr ds)=(.ptr ds):=zR
@[simp] theorem Qd {f : Nat -> D} {g ds} : dp f (.fn g ds)=(.fn g ds):=zR
@[simp] theorem O7 {f : Nat -> D} {sz es} : dp f (.own sz es)=(.own sz es):=zR
@[simp] theorem O3 {f : Nat -> D} {sz es} : dp f (.blk sz es)=(.blk sz es):=zR
@[simp] theorem Qe {f : Nat -> D} {kt et ks vs} : dp f (.mp kt et ks vs)=(.mp kt et ks vs):=zR
@[simp] theorem O6 {f : Nat -> D} {b} : dp f (.mrf b)=(.mrf b):=zR
@[simp] theorem Pb {f : Nat -> D} {p k n} : dp f (.ref p k n)=(match aU f p with | some (_,es)=>.sl (((es.drop k).take n).map fun e=>e.map aL) | none=>.any):=zR
@[simp] theorem OZ {f : Nat -> D} {p i off} : dp f (.adr p i off)=(match aU f p with | some (_,es)=>.ptr (((es[i]?.getD []).drop off).map aL) | none=>.any):=zR
@[simp] theorem O1 {f : Nat -> D} {ds} : dp f (.agx ds)=(.agg (ds.map (dp1 f))):=zR
@[simp] theorem Pf {f : Nat -> D} {ds} : dp f (.tpx ds)=(.tup (ds.map (dp1 f))):=zR
@[simp] theorem O9 {f : Nat -> D} {ds} : dp f (.ptx ds)=(.ptr (ds.map (dp1 f))):=zR
@[simp] theorem Pc {f : Nat -> D} {n sz ds} : dp f (.rfx n sz ds)=.rfx n sz ds:=zR
@[simp] theorem O4 {f : Nat -> D} {g ds} : dp f (.fnx g ds)=(.fn g (ds.map (dp1 f))):=zR
@[simp] theorem Fe {f : Nat -> D} : aK f (.any)=(True):=zR
@[simp] theorem Fh {f : Nat -> D} {k n} : aK f (.int k n)=(True):=zR
@[simp] theorem CJ {f : Nat -> D} {b} : aK f (.bool b)=(True):=zR
@[simp] theorem Fp {f : Nat -> D} {s} : aK f (.str s)=(True):=zR
@[simp] theorem CK {f : Nat -> D} : aK f (.nilp)=(True):=zR
@[simp] theorem CL {f : Nat -> D} : aK f (.nils)=(True):=zR
@[simp] theorem Fc {f : Nat -> D} {ds} : aK f (.agg ds)=(True):=zR
@[simp] theorem Fr {f : Nat -> D} {ds} : aK f (.tup ds)=(True):=zR
@[simp] theorem HU {f : Nat -> D} {es} : aK f (.sl es)=(True):=zR
@[simp] theorem Fk {f : Nat -> D} {ds} : aK f (.ptr ds)=(True):=zR
@[simp] theorem HS {f : Nat -> D} {g ds} : aK f (.fn g ds)=(True):=zR
@[simp] theorem Fj {f : Nat -> D} {sz es} : aK f (.own sz es)=(True):=zR
@[simp] theorem Ff {f : Nat -> D} {sz es} : aK f (.blk sz es)=(True):=zR
@[simp] theorem HT {f : Nat -> D} {kt et ks vs} : aK f (.mp kt et ks vs)=(True):=zR
@[simp] theorem Fi {f : Nat -> D} {b} : aK f (.mrf b)=(False):=zR
@[simp] theorem Fm {f : Nat -> D} {p k n} : aK f (.ref p k n)=(match aU f p with | some (_,es)=>k + n <= es.length | none=>False):=zR
@[simp] theorem Fb {f : Nat -> D} {p i off} : aK f (.adr p i off)=(match aU f p with | some _=>True | none=>False):=zR
@[simp] theorem Fd {f : Nat -> D} {ds} : aK f (.agx ds)=(True):=zR
@[simp] theorem Fq {f : Nat -> D} {ds} : aK f (.tpx ds)=(True):=zR
@[simp] theorem Fl {f : Nat -> D} {ds} : aK f (.ptx ds)=(True):=zR
@[simp] theorem Fn {f : Nat -> D} {n sz ds} : aK f (.rfx n sz ds)=(True):=zR
@[simp] theorem Fg {f : Nat -> D} {g ds} : aK f (.fnx g ds)=(True):=zR
@[simp] theorem HY {f : Nat -> D} : bF f (.any)=(True):=zR
@[simp] theorem H1 {f : Nat -> D} {k n} : bF f (.int k n)=(True):=zR
@[simp] theorem Fs {f : Nat -> D} {b} : bF f (.bool b)=(True):=zR
@[simp] theorem H9 {f : Nat -> D} {s} : bF f (.str s)=(True):=zR
@[simp] theorem Ft {f : Nat -> D} : bF f (.nilp)=(True):=zR
@[simp] theorem Fu {f : Nat -> D} : bF f (.nils)=(True):=zR
@[simp] theorem HW {f : Nat -> D} {ds} : bF f (.agg ds)=(True):=zR
@[simp] theorem Ib {f : Nat -> D} {ds} : bF f (.tup ds)=(True):=zR
@[simp] theorem LG {f : Nat -> D} {es} : bF f (.sl es)=(True):=zR
@[simp] theorem H4 {f : Nat -> D} {ds} : bF f (.ptr ds)=(True):=zR
@[simp] theorem LE {f : Nat -> D} {g ds} : bF f (.fn g ds)=(True):=zR
@[simp] theorem H3 {f : Nat -> D} {sz es} : bF f (.own sz es)=(True):=zR
@[simp] theorem HZ {f : Nat -> D} {sz es} : bF f (.blk sz es)=(True):=zR
@[simp] theorem LF {f : Nat -> D} {kt et ks vs} : bF f (.mp kt et ks vs)=(True):=zR
@[simp] theorem H2 {f : Nat -> D} {b} : bF f (.mrf b)=(False):=zR
@[simp] theorem H6 {f : Nat -> D} {p k n} : bF f (.ref p k n)=(match aU f p with | some (_,es)=>k + n <= es.length | none=>False):=zR
@[simp] theorem HV {f : Nat -> D} {p i off} : bF f (.adr p i off)=(match aU f p with | some _=>True | none=>False):=zR
@[simp] theorem HX {f : Nat -> D} {ds} : bF f (.agx ds)=(∀ d ∈ ds,aK f d):=zR
@[simp] theorem Ia {f : Nat -> D} {ds} : bF f (.tpx ds)=(∀ d ∈ ds,aK f d):=zR
@[simp] theorem H5 {f : Nat -> D} {ds} : bF f (.ptx ds)=(∀ d ∈ ds,aK f d):=zR
@[simp] theorem H7 {f : Nat -> D} {n sz ds} : bF f (.rfx n sz ds)=False:=zR
@[simp] theorem H0 {f : Nat -> D} {g ds} : bF f (.fnx g ds)=(∀ d ∈ ds,aK f d):=zR
@[simp] theorem N0 {p i0 o} : ldc p i0 o (.any)=.any:=zR
@[simp] theorem Kb {m} : dM m (.any)=.any:=zR
@[simp] theorem N3 {p i0 o k n} : ldc p i0 o (.int k n)=.int k n:=zR
@[simp] theorem Ke {m k n} : dM m (.int k n)=.int k n:=zR
@[simp] theorem JT {p i0 o b} : ldc p i0 o (.bool b)=.bool b:=zR
@[simp] theorem GF {m b} : dM m (.bool b)=.bool b:=zR
@[simp] theorem Ob {p i0 o s} : ldc p i0 o (.str s)=.str s:=zR
@[simp] theorem Kl {m s} : dM m (.str s)=.str s:=zR
@[simp] theorem JU {p i0 o} : ldc p i0 o (.nilp)=.nilp:=zR
@[simp] theorem GG {m} : dM m (.nilp)=.nilp:=zR
@[simp] theorem JV {p i0 o} : ldc p i0 o (.nils)=.nils:=zR
@[simp] theorem NY {p i0 o ds} : ldc p i0 o (.agg ds)=.agg ds:=zR
@[simp] theorem J9 {m ds} : dM m (.agg ds)=.agg ds:=zR
@[simp] theorem Od {p i0 o ds} : ldc p i0 o (.tup ds)=.tup ds:=zR
@[simp] theorem Kn {m ds} : dM m (.tup ds)=.tup ds:=zR
@[simp] theorem PM {p i0 o es} : ldc p i0 o (.sl es)=.sl es:=zR
@[simp] theorem Ol {m es} : dM m (.sl es)=.sl es:=zR
@[simp] theorem N6 {p i0 o ds} : ldc p i0 o (.ptr ds)=.ptr ds:=zR
@[simp] theorem Kh {m ds} : dM m (.ptr ds)=.ptr ds:=zR
@[simp] theorem PK {p i0 o g ds} : ldc p i0 o (.fn g ds)=.fn g ds:=zR
@[simp] theorem Oi {m g ds} : dM m (.fn g ds)=.fn g ds:=zR
@[simp] theorem N5 {c i o sz es} : ldc (.r c) i o (.own sz es)=.ref (.n c i o) 0 es.length:=zR
@[simp] theorem Kg {m sz es} : dM m (.own sz es)=.own sz es:=zR
@[simp] theorem N1 {p i0 o sz es} : ldc p i0 o (.blk sz es)=.blk sz es:=zR
@[simp] theorem Kc {m sz es} : dM m (.blk sz es)=.blk sz es:=zR
@[simp] theorem PL {p i0 o kt et ks vs} : ldc p i0 o (.mp kt et ks vs)=.mp kt et ks vs:=zR
@[simp] theorem Oj {m kt et ks vs} : dM m (.mp kt et ks vs)=.mp kt et ks vs:=zR
@[simp] theorem N4 {p i0 o b} : ldc p i0 o (.mrf b)=.mrf b:=zR
@[simp] theorem Kf {m b} : dM m (.mrf b)=.mrf b:=zR
@[simp] theorem N8 {p i0 o q k n} : ldc p i0 o (.ref q k n)=.ref q k n:=zR
@[simp] theorem Kj {m q k n} : dM m (.ref q k n)=.ref q k n:=zR
@[simp] theorem NX {p i0 o q i off} : ldc p i0 o (.adr q i off)=.adr q i off:=zR
@[simp] theorem J8 {m q i off} : dM m (.adr q i off)=.adr q i off:=zR
@[simp] theorem NZ {p i0 o ds} : ldc p i0 o (.agx ds)=.agx ds:=zR
@[simp] theorem Ka {m ds} : dM m (.agx ds)=.agx ds:=zR
@[simp] theorem Oc {p i0 o ds} : ldc p i0 o (.tpx ds)=.tpx ds:=zR
@[simp] theorem Km {m ds} : dM m (.tpx ds)=.tpx ds:=zR
@[simp] theorem N7 {p i0 o ds} : ldc p i0 o (.ptx ds)=.ptx ds:=zR
@[simp] theorem N9 {p i0 o n sz ds} : ldc p i0 o (.rfx n sz ds)=.rfx n sz ds:=zR
@[simp] theorem Ki {m ds} : dM m (.ptx ds)=.ptx ds:=zR
@[simp] theorem Kk {m n sz ds} : dM m (.rfx n sz ds)=.rfx n sz ds:=zR
@[simp] theorem N2 {p i0 o g ds} : ldc p i0 o (.fnx g ds)=.fnx g ds:=zR
@[simp] theorem Kd {m g ds} : dM m (.fnx g ds)=.fnx g ds:=zR
@[simp] theorem GH {m} : dM m .nils=if m=0 then .nils else .own m []:=zR
def slx (b : Bool) (es : List (List D)) : D:=match b,es with
 | true,[]=>.nils
 | _,es=>.sl es
@[simp] theorem dz {es} : slx false es=.sl es:=by cases es <;> rfl
@[simp] theorem KS {b x es} : slx b (x::es)=.sl (x::es):=by cases b <;> rfl
theorem dY (b : Bool) (es : List (List D)) : slx b es=.sl es \/ (slx b es=.nils /\ es=[]):=by cases b <;> cases es <;> simp [slx]
@[simp] theorem NT {b es} : isV (slx b es)=true:=by cases b <;> cases es <;> rfl
@[simp] theorem MF {b es} : isK (slx b es)=true:=by cases b <;> cases es <;> rfl
@[simp] theorem Nk {b es} : isP (slx b es)=true:=by cases b <;> cases es <;> rfl
@[simp] theorem NC {b es} : isS (slx b es)=true:=by cases b <;> cases es <;> rfl
@[simp] theorem IW {b es} : aE (slx b es)=true:=by cases b <;> cases es <;> rfl
@[simp] theorem MW {b es} : isO (slx b es)=false:=by cases b <;> cases es <;> rfl
@[simp] theorem FT {b es} : cE (slx b es)=false:=by cases b <;> cases es <;> rfl
@[simp] theorem LZ {b es} : isB (slx b es)=false:=by cases b <;> cases es <;> rfl
@[simp] theorem Bo {b es} : cellsOf (slx b es)=[slx b es]:=by cases b <;> cases es <;> rfl
@[simp] theorem EE {b es} : bS (slx b es)=slx b es:=by cases b <;> cases es <;> rfl
@[simp] theorem E6 {b es} : aL (slx b es)=slx b es:=by cases b <;> cases es <;> rfl
@[simp] theorem BN {b es} : aH (slx b es)=[]:=by cases b <;> cases es <;> rfl
@[simp] theorem Dz {b es} : bx (slx b es)=[]:=by cases b <;> cases es <;> rfl
@[simp] theorem LA {f : Nat -> D} {b es} : dp1 f (slx b es)=slx b es:=by cases b <;> cases es <;> rfl
@[simp] theorem Pd {f : Nat -> D} {b es} : dp f (slx b es)=slx b es:=by cases b <;> cases es <;> rfl
@[simp] theorem Fo {f : Nat -> D} {b es} : aK f (slx b es)=True:=by cases b <;> cases es <;> rfl
@[simp] theorem H8 {f : Nat -> D} {b es} : bF f (slx b es)=True:=by cases b <;> cases es <;> rfl
@[simp] theorem Oa {p i o b es} : ldc p i o (slx b es)=slx b es:=by cases b <;> cases es <;> rfl
def sr (d : D) (K : Nat -> Prop) (_ : Tag K) : Prop:=match d with
 | .sl es=>K es.length
 | .nils=>K 0
 | .ref _ _ n=>K n
 | .rfx n _ _=>K n
 | _=>False
@[simp] theorem J0 {n sz ds K u} : sr (.rfx n sz ds) K u=K n:=zR
@[simp] theorem Oe {es K u} : sr (.sl es) K u=K es.length:=zR
@[simp] theorem Gr {K u} : sr .nils K u=K 0:=zR
@[simp] theorem JZ {p k n K u} : sr (.ref p k n) K u=K n:=zR
@[simp] theorem J1 {b es K u} : sr (slx b es) K u=K es.length:=by cases b <;> cases es <;> rfl
@[simp] theorem GV {n ds} : oj true n ds=.agg (ds.take n):=zR
@[simp] theorem DL {n ds} : oj false n ds=ds.headD .any:=zR
@[simp] theorem J4 {t} : ae [] t=.any:=rfl
def lk (b : Bool) (d : D) (r : Env) (t : Nat) : D:=match b with
 | true=>d
 | false=>ae r t
@[simp] theorem Of {d r t} : lk true d r t=d:=rfl
@[simp] theorem J2 {d r t} : lk false d r t=ae r t:=rfl
@[simp] theorem Gs {s d r t} : ae ((s,d)::r) t=lk (s == t) d r t:=by
 by_cases h : s=t
 ·subst h;simp [ae]
 ·rw [show (s == t)=false by simp [h]];simp [ae,h]
@[simp] theorem F6 {e} : qt [] e=[]:=zR
@[simp] theorem C1 {t ts e} : qt (t::ts) e=(t,ae e t)::qt ts e:=zR
@[simp] theorem BW : mE []=[]:=zR
@[simp] theorem Ar {t d r} : mE ((t,d)::r)=bx d++mE r:=zR
@[simp] theorem Hj {e ks} : uq e [] ks=ks:=zR
@[simp] theorem Ep {e r rs ks} : uq e (r::rs) ks=uq e rs (if (ks.map (·.1)).contains r then ks else ks++[(r,ae e r)]):=zR
def gi (f : Nat -> D) (d : D) (ns : List Nat) (K : List D -> List Nat -> Prop) (_ : Tag K) : Prop:=eX f d ns K
def fK (f : Nat -> D) (d : D) (K : D -> List Nat -> Prop) (_ : Tag K) : Prop:=cY f d K
def p5 (f : Nat -> D) (ds : List D) (K : List D -> List Nat -> Prop) (_ : Tag K) : Prop:=ip f ds K
def vU (b n : Nat) (x : D) (K : D -> List Nat -> Prop) (_ : Tag K) : Prop:=match x with
 | .blk sz es=>es.length=n /\ (∀ e ∈ es,∀ c ∈ e,aE c=true) /\ K (.own sz es) [b]
 | _=>False
@[simp] theorem G8 {b n sz es K u} : vU b n (.blk sz es) K u=(es.length=n /\ (∀ e ∈ es,∀ c ∈ e,aE c=true) /\ K (.own sz es) [b]):=zR
theorem dD {f : Nat -> D} {d : D} {K : D -> List Nat -> Prop} {u} (h : aE d=true) : fK f d K u=K d []:=by
 cases d <;> simp [aE] at h <;> simp [fK,cY,aE]
@[simp] theorem Ei {f b k n K u} : fK f (.ref (.r b) k n) K u=(k=0 /\ vU b n (f b) K ⟨⟩):=by
 simp only [fK,cY,vU]
 cases f b <;> rfl
theorem eT {f : Nat -> D} {d : D} {K : List D -> List Nat -> Prop} {u} (h : aE d=true) : gi f d [] K u=K [d] []:=by
 cases d <;> simp [aE] at h <;> simp [gi,eX,cY,aE,dN]
@[simp] theorem Hb {f ds K u} : gi f (.agg ds) [] K u=((∀ c ∈ ds,aE c=true) /\ K ds []):=by simp [gi,eX,dN]
@[simp] theorem Hc {f ds K u} : gi f (.agx ds) [] K u=p5 f ds (fun cs bs=>bA bs=true /\ K cs bs) ⟨⟩:=by simp [gi,p5,eX,dN]
@[simp] theorem Hf {f b k n K u} : gi f (.ref (.r b) k n) [] K u=(k=0 /\ vU b n (f b) (fun c bs=>K [c] bs) ⟨⟩):=by
 simp only [gi,eX,cY,vU,dN,if_true,true_or,true_and]
 cases f b <;> rfl
@[simp] theorem El {f K u} : p5 f [] K u=K [] []:=zR
@[simp] theorem Co {f d ds K u} : p5 f (d::ds) K u=fK f d (fun c bs=>p5 f ds (fun cs bs'=>K (c::cs) (bs++bs')) ⟨⟩) ⟨⟩:=zR
@[simp] theorem Eg {f k n K u} : fK f (.int k n) K u=K (.int k n) []:=dD rfl
@[simp] theorem Hd {f k n K u} : gi f (.int k n) [] K u=K [.int k n] []:=eT rfl
@[simp] theorem Cl {f n K u} : fK f (.bool n) K u=K (.bool n) []:=dD rfl
@[simp] theorem Em {f n K u} : gi f (.bool n) [] K u=K [.bool n] []:=eT rfl
@[simp] theorem Ek {f n K u} : fK f (.str n) K u=K (.str n) []:=dD rfl
@[simp] theorem Hh {f n K u} : gi f (.str n) [] K u=K [.str n] []:=eT rfl
@[simp] theorem Cm {f  K u} : fK f .nilp K u=K .nilp []:=dD rfl
@[simp] theorem En {f  K u} : gi f .nilp [] K u=K [.nilp] []:=eT rfl
@[simp] theorem Cn {f  K u} : fK f .nils K u=K .nils []:=dD rfl
@[simp] theorem Eo {f  K u} : gi f .nils [] K u=K [.nils] []:=eT rfl
@[simp] theorem Ha {f n K u} : fK f (.sl n) K u=K (.sl n) []:=dD rfl
@[simp] theorem Ld {f n K u} : gi f (.sl n) [] K u=K [.sl n] []:=eT rfl
@[simp] theorem Eh {f n K u} : fK f (.ptr n) K u=K (.ptr n) []:=dD rfl
@[simp] theorem He {f n K u} : gi f (.ptr n) [] K u=K [.ptr n] []:=eT rfl
@[simp] theorem G9 {f g n K u} : fK f (.fn g n) K u=K (.fn g n) []:=dD rfl
@[simp] theorem Lc {f g n K u} : gi f (.fn g n) [] K u=K [.fn g n] []:=eT rfl
@[simp] theorem Ej {f b n K u} : fK f (slx b n) K u=K (slx b n) []:=dD (by simp)
@[simp] theorem Hg {f b n K u} : gi f (slx b n) [] K u=K [slx b n] []:=eT (by simp)
def pJ (f : Nat -> D) (sz : Nat) (ps : List (Nat × Opd)) (es : List (List D)) (bs : List Nat) (K : List (List D) -> List Nat -> Prop) (_ : Tag K) : Prop:=eJ f sz [] ps es bs K
@[simp] theorem DM {f sz es bs K u} : pJ f sz [] es bs K u=K es bs:=zR
@[simp] theorem BV {f sz i x ps es bs K u} : pJ f sz ((i,x)::ps) es bs K u=(i < es.length /\ gi f (vd f x) [] (fun cs bs'=>cs.length=sz /\ pJ f sz ps (es.set i cs) (bs++bs') K ⟨⟩) ⟨⟩):=zR
def iJ (f : Nat -> D) (mv : Bool) (d : D) (sz : Nat) (K : List (List D) -> List Nat -> Prop) (_ : Tag K) : Prop:=eS f mv d sz K
def DO (b n sz : Nat) (x : D) (K : List (List D) -> List Nat -> Prop) (_ : Tag K) : Prop:=match x with
 | .blk sz' es=>sz'=sz /\ es.length=n /\ (∀ e ∈ es,∀ c ∈ e,isC c=true) /\ K es [b]
 | _=>False
@[simp] theorem KF {b n sz sz' es K u} : DO b n sz (.blk sz' es) K u=(sz'=sz /\ es.length=n /\ (∀ e ∈ es,∀ c ∈ e,isC c=true) /\ K es [b]):=zR
def DP (k n sz : Nat) (x : Option (Nat × List (List D))) (K : List (List D) -> List Nat -> Prop) (_ : Tag K) : Prop:=match x with
 | some (sz',es)=>sz'=sz /\ k + n <= es.length /\ (∀ e ∈ (es.drop k).take n,∀ c ∈ e,aE c=true) /\ K ((es.drop k).take n) []
 | none=>False
@[simp] theorem GW {k n sz sz' es K u} : DP k n sz (some (sz',es)) K u=(sz'=sz /\ k + n <= es.length /\ (∀ e ∈ (es.drop k).take n,∀ c ∈ e,aE c=true) /\ K ((es.drop k).take n) []):=zR
@[simp] theorem DQ {f mv sz K u} : iJ f mv .nils sz K u=K [] []:=zR
@[simp] theorem KN {f mv es sz K u} : iJ f mv (.sl es) sz K u=((∀ e ∈ es,e.length=sz /\ ∀ c ∈ e,aE c=true) /\ K es []):=zR
@[simp] theorem G0 {f mv b es sz K u} : iJ f mv (slx b es) sz K u=((∀ e ∈ es,e.length=sz /\ ∀ c ∈ e,aE c=true) /\ K es []):=by
 rcases dY b es with h | ⟨h,rfl⟩ <;> rw [h] <;> simp
@[simp] theorem KM {f b k n sz K u} : iJ f true (.ref (.r b) k n) sz K u=(k=0 /\ DO b n sz (f b) K ⟨⟩):=by
 simp only [iJ,eS,DO]
 cases f b <;> rfl
@[simp] theorem GZ {f p k n sz K u} : iJ f false (.ref p k n) sz K u=DP k n sz (aU f p) K ⟨⟩:=by
 simp only [iJ,eS,DP]
 cases aU f p <;> rfl
def dE (f : Nat -> D) (o : Option Opd) (dflt : Nat) (K : Nat -> Prop) (_ : Tag K) : Prop:=dO f o dflt K
def Hw (d : D) (K : Nat -> Prop) (_ : Tag K) : Prop:=match d with
 | .int _ n=>0 <= n /\ K n.toNat
 | _=>False
@[simp] theorem Hx {k n K u} : Hw (.int k n) K u=(0 <= n /\ K n.toNat):=zR
@[simp] theorem A9 {f n K u} : dE f none n K u=K n:=zR
@[simp] theorem Ba {f x n K u} : dE f (some x) n K u=Hw (vd f x) K ⟨⟩:=zR
def ii (x : Option (List D)) (K : List D -> Prop) (_ : Tag K) : Prop:=match x with
 | some r=>K r
 | none=>False
@[simp] theorem GY {r K u} : ii (some r) K u=K r:=zR
@[simp] theorem GX {K u} : ii none K u=False:=zR
theorem gW {x : Option (List D)} {K : List D -> Prop} {u} : ii x K u=∃ r,x=some r /\ K r:=by
 cases x <;> simp [ii]
def lJ (x : Option D) (K : Nat -> List (List D) -> Prop) (_ : Tag K) : Prop:=match x with
 | some (.own sz es)=>K sz es
 | _=>False
@[simp] theorem KE {sz es K u} : lJ (some (.own sz es)) K u=K sz es:=zR
theorem kO {x : Option D} {K : Nat -> List (List D) -> Prop} {u} : lJ x K u=∃ sz es,x=some (.own sz es) /\ K sz es:=by
 cases x with
 | none=>simp [lJ]
 | some d =>
  cases d <;> simp [lJ]
  exact ⟨fun h=>⟨_,_,⟨rfl,rfl⟩,h⟩,by rintro ⟨_,_,⟨rfl,rfl⟩,h⟩;exact h⟩
def yK (x : Option D) (K : D -> Prop) (_ : Tag K) : Prop:=match x with
 | some d=>K d
 | none=>False
@[simp] theorem ES {d K u} : yK (some d) K u=K d:=zR
theorem yL {x : Option D} {K : D -> Prop} {u} : yK x K u=∃ d,x=some d /\ K d:=by
 cases x <;> simp [yK]
def fb (x : D) (K : Nat -> List (List D) -> Prop) (_ : Tag K) : Prop:=match x with
 | .blk sz es=>K sz es
 | _=>False
@[simp] theorem Hv {sz es K u} : fb (.blk sz es) K u=K sz es:=zR
abbrev CC:=Nat -> List D -> D -> List D -> Prop
abbrev KT:=List (Nat × D) -> List (Nat × Bool) -> Prop
section
variable {C : CC} {Q : cc -> Env -> Prop} {e e' : Env} {d : D}
def wN (C : CC) (c : dt) (Q : cc -> Env -> Prop) (_ : Tag (c,Q)) (e : Env) : Prop:=wpN C c Q e
def tz (C : CC) (c : dt) (Q : cc -> Env -> Prop) (_ : Tag (c,Q)) (e : Env) : Prop:=wpN C (.loop c) Q e
def va (C : CC) (K : Env -> Prop) (ns : List am) (_ : Tag (K,ns)) (e : Env) : Prop:=ik C K ns e
def sF (C : CC) (hs : List Nat) (K : Env -> Prop) (ns : List am) (_ : Tag (K,ns)) (e : Env) (acc : List (List Nat × List Nat)) : Prop:=jw C hs K ns e acc
def IA (hs : List Nat) (acc : List (List Nat × List Nat)) : Prop:=kz hs acc.reverse=true
theorem ar {hs : List Nat} {acc : List (List Nat × List Nat)} (h : kz hs acc.reverse=true) : IA hs acc:=h
def Bt (C : CC) (K : Env -> Prop) (ns : List am) (e : Env) : KT:=fun ws ks=>ik C K ns (ws++dG ks e)
def HJ (C : CC) (hs : List Nat) (K : Env -> Prop) (ns : List am) (e : Env) (R : List Nat) (acc : List (List Nat × List Nat)) : KT:=fun ws ks=>wOk R ws ks=true /\ jw C hs K ns (ws++dG ks e) ((R,wrK ws ks)::acc)
def bu (Q : cc -> Env -> Prop) (_ : Tag Q) (t : cc) (e : Env) : Prop:=Q t e
def fin (res : List (Nat × Option (Nat × Bool))) (d : D) : cc -> Env -> Prop:=fun t e=>(match t with
   | .ext _=>False
   | _=>True) /\ fV res d e
def Aw (C : CC) (y : dt) (Q : cc -> Env -> Prop) : cc -> Env -> Prop:=fun t e'=>match t with
  | .nrm=>wpN C y Q e'
  | t=>Q t e'
def pj (id : Nat) (Q : cc -> Env -> Prop) : cc -> Env -> Prop:=fun t e'=>match t with
  | .ext i=>if i=id then Q .nrm e' else Q (.ext i) e'
  | t=>Q t e'
def Ap (keep : List Nat) (Q : cc -> Env -> Prop) : Env -> Prop:=fun e'=>Q .nrm (prune keep e')
def kOf (C : CC) (hs : Option (List Nat)) (K : Env -> Prop) (ns : List am) (e : Env) (R : List Nat) (acc : List (List Nat × List Nat)) : KT :=
 match hs with
 | none=>Bt C K ns e
 | some hs=>HJ C hs K ns e R acc
def doW (C : CC) (hs : Option (List Nat)) (K : Env -> Prop) (ns : List am) (_ : Tag (hs,K,ns)) (e : Env) (R : List Nat) (acc : List (List Nat × List Nat)) (ws : List (Nat × D)) (ks : List (Nat × Bool)) : Prop:=kOf C hs K ns e R acc ws ks
def opW (C : CC) (hs : Option (List Nat)) (K : Env -> Prop) (ns : List am) (dst : Option Nat) (op : NOp) (_ : Tag (hs,K,ns,dst,op)) (e : Env) (R : List Nat) (acc : List (List Nat × List Nat)) : Prop:=aD C (ae e) dst (kOf C hs K ns e R acc) op
def dW (C : CC) (hs : Option (List Nat)) (K : Env -> Prop) (ns : List am) (dst : Option Nat) (_ : Tag (hs,K,ns)) (e : Env) (R : List Nat) (acc : List (List Nat × List Nat)) (d : D) : Prop:=cV dst (kOf C hs K ns e R acc) d
def qc (C : CC) (g : Nat) (hs : Option (List Nat)) (K : Env -> Prop) (ns : List am) (dst : Option Nat) (_ : Tag (hs,K,ns)) (e : Env) (R : List Nat) (acc : List (List Nat × List Nat)) (pure : Bool) (ds : List D) : Prop :=
 ∃ d,C g ds d [] /\ (isF d=true \/ pure=true) /\ cV dst (kOf C hs K ns e R acc) d
theorem aj {prog : Nat -> Option ao} (hC : al prog C) {g : Nat} {nf : ao} {ds : List D} (hp : prog g=some nf) (hl : ds.length=nf.np) (h : wN C nf.body (fin nf.res d) ⟨⟩ (params 0 ds)) : C g ds d []:=hC.1 g nf ds d hp hl h
def rV (res : List (Nat × Option (Nat × Bool))) (sz : Nat) (es : List (List D)) : cc -> Env -> Prop:=fun t e=>(match t with
   | .ext _=>False
   | _=>True) /\ jT res sz es e
theorem iS {prog : Nat -> Option ao} (hC : al prog C) {g : Nat} {nf : ao} {ds : List D} {sz : Nat} {es : List (List D)} (hp : prog g=some nf) (hl : ds.length=nf.np) (h : wN C nf.body (rV nf.res sz es) ⟨⟩ (params 0 ds)) : C g ds .any [.own sz es]:=hC.2.2.1 g nf ds sz es hp hl h
def rW (res : List (Nat × Option (Nat × Bool))) (d : D) : cc -> Env -> Prop:=fun t e=>(match t with
   | .ext _=>False
   | _=>True) /\ jS res d e
theorem D4 {prog : Nat -> Option ao} (hC : al prog C) {g : Nat} {nf : ao} {ds : List D} {d : D} (hp : prog g=some nf) (hl : ds.length=nf.np) (h : wN C nf.body (rW nf.res d) ⟨⟩ (params 0 ds)) : C g ds d [.nilp]:=hC.2.2.2.1 g nf ds d hp hl h
def rX (res : List (Nat × Option (Nat × Bool))) (d : D) (sz : Nat) (es' : List (List D)) : cc -> Env -> Prop:=fun t e=>(match t with
   | .ext _=>False
   | _=>True) /\ (0 < es'.length /\ ae e 10015=.blk sz es') /\ fV res d ((10015,.any)::e)
theorem sR {prog : Nat -> Option ao} (hC : al prog C) {g : Nat} {nf : ao} {ds : List D} {d : D} {sz : Nat} {es es' : List (List D)} (hp : prog g=some nf) (hl : ds.length + 1=nf.np) (h : wN C nf.body (rX nf.res d sz es') ⟨⟩ ((0,.adr (.r 10015) 0 0)::(params 1 ds++[(10015,.blk sz es)]))) : C g (.blk sz es::ds) d [.blk sz es']:=hC.2.2.2.2.1 g nf ds d sz es es' hp hl h
def uP (res : List (Nat × Option (Nat × Bool))) (sz : Nat) (es : List (List D)) : cc -> Env -> Prop:=fun t e=>(match t with
   | .ext _=>False
   | _=>True) /\ jU res sz es e
def rU (res : List (Nat × Option (Nat × Bool))) (R : D) : cc -> Env -> Prop:=fun t e=>(match t with
   | .ext _=>False
   | _=>True) /\ qZ res R e
theorem D3 {prog : Nat -> Option ao} (hC : al prog C) {g : Nat} {nf : ao} {ds : List D} {R : D} (hp : prog g=some nf) (hl : ds.length=nf.np) (hok : okR R=true) (h : wN C nf.body (rU nf.res R) ⟨⟩ (params 0 ds)) : C g ds R [.nils]:=hC.2.2.2.2.2.2 g nf ds R hp hl hok h
def rJ (C : CC) (g : Nat) (hs : Option (List Nat)) (K : Env -> Prop) (ns : List am) (t : Nat) (_ : Tag (hs,K,ns)) (e : Env) (R : List Nat) (acc : List (List Nat × List Nat)) (ds : List D) : Prop :=
 (∃ d,C g ds d [] /\ cV (some t) (kOf C hs K ns e R acc) d) \/ ∃ d,okR d=true /\ C g ds d [.nils] /\ kOf C hs K ns e R acc ((t,eO t d)::aS t d) (eu t d)
theorem uB {g : Nat} {hs : Option (List Nat)} {K : Env -> Prop} {ns : List am} {t : Nat} {u : Tag (hs,K,ns)} {R : List Nat} {acc : List (List Nat × List Nat)} {ds : List D} {d : D} (h : C g ds d [.nils]) (hok : okR d=true) (hk : doW C hs K ns ⟨⟩ e R acc ((t,eO t d)::aS t d) (eu t d)) : rJ C g hs K ns t u e R acc ds:=.inr ⟨d,hok,h,hk⟩
theorem uA {g : Nat} {hs : Option (List Nat)} {K : Env -> Prop} {ns : List am} {t : Nat} {u : Tag (hs,K,ns)} {R : List Nat} {acc : List (List Nat × List Nat)} {ds : List D} {d : D} (h : C g ds d []) (hk : dW C hs K ns (some t) ⟨⟩ e R acc d) : rJ C g hs K ns t u e R acc ds:=.inl ⟨d,h,hk⟩
def v7 (C : CC) (g : Nat) (hs : Option (List Nat)) (K : Env -> Prop) (ns : List am) (dst : Option Nat) (_ : Tag (hs,K,ns)) (e : Env) (R : List Nat) (acc : List (List Nat × List Nat)) (ds : List D) : Prop :=
 ∃ d,C g ds d [.nilp] /\ cV dst (kOf C hs K ns e R acc) d
theorem uC {g : Nat} {hs : Option (List Nat)} {K : Env -> Prop} {ns : List am} {dst : Option Nat} {u : Tag (hs,K,ns)} {R : List Nat} {acc : List (List Nat × List Nat)} {ds : List D} {d : D} (h : C g ds d [.nilp]) (hk : dW C hs K ns dst ⟨⟩ e R acc d) : v7 C g hs K ns dst u e R acc ds:=⟨d,h,hk⟩
def vZ (C : CC) (g : Nat) (hs : Option (List Nat)) (K : Env -> Prop) (ns : List am) (t : Nat) (_ : Tag (hs,K,ns)) (e : Env) (R : List Nat) (acc : List (List Nat × List Nat)) (ds : List D) : Prop :=
 ∃ sz es,C g ds .any [.own sz es] /\ kOf C hs K ns e R acc [(t,.ref (.r (rt t 0)) 0 es.length),(rt t 0,.blk sz es)] [(rt t 0,true)]
theorem i9 {g : Nat} {hs : Option (List Nat)} {K : Env -> Prop} {ns : List am} {t : Nat} {u : Tag (hs,K,ns)} {R : List Nat} {acc : List (List Nat × List Nat)} {ds : List D} {sz : Nat} {es : List (List D)} (h : C g ds .any [.own sz es]) (hk : doW C hs K ns ⟨⟩ e R acc [(t,.ref (.r (rt t 0)) 0 es.length),(rt t 0,.blk sz es)] [(rt t 0,true)]) : vZ C g hs K ns t u e R acc ds:=⟨sz,es,h,hk⟩
@[simp] theorem Pj {f : Nat -> D} {b t : Nat} : fbE f b t=if t=b then .any else f t:=zR
theorem aa {g : Nat} {hs : Option (List Nat)} {K : Env -> Prop} {ns : List am} {dst : Option Nat} {u : Tag (hs,K,ns)} {R : List Nat} {acc : List (List Nat × List Nat)} {p : Bool} {ds : List D} (h : C g ds d []) (hf : isF d=true \/ p=true) (hk : dW C hs K ns dst ⟨⟩ e R acc d) : qc C g hs K ns dst u e R acc p ds:=⟨d,h,hf,hk⟩
def pP (S : Type) (G : S -> Env) (I : S -> Prop) (m : S -> Nat) (s : S) (Q : cc -> Env -> Prop) : cc -> Env -> Prop:=fun t e'=>match t with
    | .nrm=>∃ s',I s' /\ m s' < m s /\ j8 e' (G s')
    | t=>Q t e'
theorem az {c : dt} {u : Tag (c,Q)} (S : Type) (G : S -> Env) (I : S -> Prop) (m : S -> Nat) (s0 : S) (h0 : I s0) (hw : j8 e (G s0))
  (h : ∀ s,I s -> wN C c (pP S G I m s Q) ⟨⟩ (G s)) : tz C c Q u e:=⟨S,G,I,m,s0,h0,hw,h⟩
@[simp] theorem OQ {u} : wN C .skip Q u e=bu Q ⟨⟩ .nrm e:=zR
@[simp] theorem P8 {hs keep ops u} : wN C (.reg false hs keep ops) Q u e=va C (Ap keep Q) ops ⟨⟩ e:=zR
@[simp] theorem ON {hs keep ops u} : wN C (.reg true hs keep ops) Q u e=sF C hs (Ap keep Q) ops ⟨⟩ e []:=zR
@[simp] theorem Qa {x y u} : wN C (.seq x y) Q u e=wN C x (Aw C y Q) ⟨⟩ e:=zR
def brB (b : Bool) (X Y : Prop) (_ : Tag (X,Y)) : Prop:=(b=true -> X) /\ (b=false -> Y)
theorem ac {b : Bool} {X Y : Prop} {u} (h1 : b=true -> X) (h2 : b=false -> Y) : brB b X Y u:=⟨h1,h2⟩
@[simp] theorem HE {X Y : Prop} {u} : brB true X Y u=X:=by simp [brB]
@[simp] theorem ER {X Y : Prop} {u} : brB false X Y u=Y:=by simp [brB]
def cdW (C : CC) (x y : dt) (Q : cc -> Env -> Prop) (_ : Tag (x,y,Q)) (e : Env) (d : D) : Prop:=match d with
 | .bool b=>brB b (wN C x Q ⟨⟩ e) (wN C y Q ⟨⟩ e) ⟨⟩
 | .bb=>wN C x Q ⟨⟩ e /\ wN C y Q ⟨⟩ e
 | _=>False
@[simp] theorem OU {x y u} : cdW C x y Q u e .bb=(wN C x Q ⟨⟩ e /\ wN C y Q ⟨⟩ e):=zR
@[simp] theorem HF {x y u b} : cdW C x y Q u e (.bool b)=brB b (wN C x Q ⟨⟩ e) (wN C y Q ⟨⟩ e) ⟨⟩:=zR
@[simp] theorem OM {c x y u} : wN C (.cond c x y) Q u e=cdW C x y Q ⟨⟩ e (vd (ae e) c):=zR
@[simp] theorem La {id c u} : wN C (.block id c) Q u e=wN C c (pj id Q) ⟨⟩ e:=zR
@[simp] theorem OP {c u} : wN C (.loop c) Q u e=tz C c Q ⟨⟩ e:=zR
@[simp] theorem OO {id u} : wN C (.exit id) Q u e=bu Q ⟨⟩ (.ext id) e:=zR
@[simp] theorem P9 {u} : wN C .ret Q u e=bu Q ⟨⟩ .ret e:=zR
@[simp] theorem y8 {y u} : bu (Aw C y Q) u .nrm e=wN C y Q ⟨⟩ e:=zR
@[simp] theorem y7 {y u i} : bu (Aw C y Q) u (.ext i) e=bu Q ⟨⟩ (.ext i) e:=zR
@[simp] theorem y9 {y u} : bu (Aw C y Q) u .ret e=bu Q ⟨⟩ .ret e:=zR
@[simp] theorem wq {id u} : bu (pj id Q) u .nrm e=bu Q ⟨⟩ .nrm e:=zR
@[simp] theorem wo {id u i} : bu (pj id Q) u (.ext i) e=if i=id then bu Q ⟨⟩ .nrm e else bu Q ⟨⟩ (.ext i) e:=zR
@[simp] theorem wr {id u} : bu (pj id Q) u .ret e=bu Q ⟨⟩ .ret e:=zR
@[simp] theorem yV {r u} : bu (fin r d) u .nrm e=fV r d e:=by simp [bu,fin]
@[simp] theorem yW {r u} : bu (fin r d) u .ret e=fV r d e:=by simp [bu,fin]
@[simp] theorem yl {r d} {u : Tag (rW r d)} : bu (rW r d) u .nrm e=jS r d e:=by simp [bu,rW]
@[simp] theorem ym {r d} {u : Tag (rW r d)} : bu (rW r d) u .ret e=jS r d e:=by simp [bu,rW]
@[simp] theorem yj {r sz es} {u : Tag (rV r sz es)} : bu (rV r sz es) u .nrm e=jT r sz es e:=by simp [bu,rV]
@[simp] theorem yk {r sz es} {u : Tag (rV r sz es)} : bu (rV r sz es) u .ret e=jT r sz es e:=by simp [bu,rV]
@[simp] theorem yp {r d sz es} {u : Tag (rX r d sz es)} : bu (rX r d sz es) u .nrm e=((0 < es.length /\ ae e 10015=.blk sz es) /\ fV r d ((10015,.any)::e)):=by simp [bu,rX]
@[simp] theorem yq {r d sz es} {u : Tag (rX r d sz es)} : bu (rX r d sz es) u .ret e=((0 < es.length /\ ae e 10015=.blk sz es) /\ fV r d ((10015,.any)::e)):=by simp [bu,rX]
@[simp] theorem yn {r sz es} {u : Tag (uP r sz es)} : bu (uP r sz es) u .nrm e=jU r sz es e:=by simp [bu,uP]
@[simp] theorem yo {r sz es} {u : Tag (uP r sz es)} : bu (uP r sz es) u .ret e=jU r sz es e:=by simp [bu,uP]
@[simp] theorem yh {r d} {u : Tag (rU r d)} : bu (rU r d) u .nrm e=qZ r d e:=by simp [bu,rU]
@[simp] theorem yi {r d} {u : Tag (rU r d)} : bu (rU r d) u .ret e=qZ r d e:=by simp [bu,rU]
@[simp] theorem wu {S G I m s u} : bu (pP S G I m s Q) u .nrm e=∃ s',I s' /\ m s' < m s /\ j8 e (G s'):=zR
@[simp] theorem wt {S G I m s u i} : bu (pP S G I m s Q) u (.ext i) e=bu Q ⟨⟩ (.ext i) e:=zR
@[simp] theorem wv {S G I m s u} : bu (pP S G I m s Q) u .ret e=bu Q ⟨⟩ .ret e:=zR
end
section
variable {C : CC} {Q : cc -> Env -> Prop} {e : Env} {K : Env -> Prop} {dst : Option Nat} {d : D} {hs : Option (List Nat)} {ns : List am} {R : List Nat} {acc : List (List Nat × List Nat)} {u : Tag (hs,K,ns)}
@[simp] theorem KC {keep u} : va C (Ap keep Q) [] u e=bu Q ⟨⟩ .nrm (prune keep e):=zR
@[simp] theorem KB {h keep u} : sF C h (Ap keep Q) [] u e acc=(IA h acc /\ bu Q ⟨⟩ .nrm (prune keep e)):=zR
@[simp] theorem GT {dst op ns u} : va C K (⟨dst,op,none⟩::ns) u e=opW C none K ns dst op ⟨⟩ e [] []:=zR
@[simp] theorem GR {h dst op ns u} : sF C h K (⟨dst,op,none⟩::ns) u e acc=(chk (ae e) ⟨dst,op,none⟩=true /\ opW C (some h) K ns dst op ⟨⟩ e (iw (ae e) ⟨dst,op,none⟩) acc):=zR
def nP (C : CC) (h : List Nat) (K : Env -> Prop) (ns : List am) (_ : Tag (h,K,ns)) (e : Env) (dst : Option Nat) (R : List Nat) (acc : List (List Nat × List Nat)) : Prop:=gF e dst fun e'=>jw C h K ns e' ((R,uN dst)::acc)
@[simp] theorem DU {h t ns u} : nP C h K ns u e (some t) R acc=sF C h K ns ⟨⟩ ((t,.tup [])::e) ((R,[4 * t])::acc):=zR
@[simp] theorem DT {h ns u} : nP C h K ns u e none R acc=sF C h K ns ⟨⟩ e ((R,[])::acc):=zR
def gdT (C : CC) (K : Env -> Prop) (ns : List am) (dst : Option Nat) (op : NOp) (s : Nat) (want : Bool) (_ : Tag (K,ns)) (e : Env) (d : D) : Prop:=match d with
 | .bool b=>(b=want -> opW C none K ns dst op ⟨⟩ ((s,.bool want)::e) [] []) /\ (b=!want -> dW C none K ns dst ⟨⟩ ((s,.bool !want)::e) [] [] (.tup []))
 | .tup []=>dW C none K ns dst ⟨⟩ e [] [] (.tup [])
 | _=>False
@[simp] theorem Ij {op s b u} : gdT C K ns dst op s true u e (.bool b)=brB b (opW C none K ns dst op ⟨⟩ ((s,.bool true)::e) [] []) (dW C none K ns dst ⟨⟩ ((s,.bool false)::e) [] [] (.tup [])) ⟨⟩:=zR
@[simp] theorem FA {op s b u} : gdT C K ns dst op s false u e (.bool b)=brB b (dW C none K ns dst ⟨⟩ ((s,.bool true)::e) [] [] (.tup [])) (opW C none K ns dst op ⟨⟩ ((s,.bool false)::e) [] []) ⟨⟩:=by
 simp only [gdT,brB,Bool.not_false];exact propext ⟨fun h=>⟨h.2,h.1⟩,fun h=>⟨h.2,h.1⟩⟩
@[simp] theorem Ii {op s want u} : gdT C K ns dst op s want u e (.tup [])=dW C none K ns dst ⟨⟩ e [] [] (.tup []):=zR
@[simp] theorem GU {dst op s want ns u} : va C K (⟨dst,op,some (s,want)⟩::ns) u e=gdT C K ns dst op s want ⟨⟩ e (ae e s):=by
 simp only [va,ik,opW,rA,gF,gdT,dW,cV,kOf,Bt,dG]
 cases ae e s <;> cases dst <;> (first | rfl | (rename_i x _ ;cases x <;> rfl) | (rename_i x;cases x <;> rfl))
def gdD (C : CC) (h : List Nat) (K : Env -> Prop) (ns : List am) (dst : Option Nat) (op : NOp) (want : Bool) (_ : Tag (K,ns)) (e : Env) (R : List Nat) (acc : List (List Nat × List Nat)) (d : D) : Prop:=match d with
 | .bool b=>(b=want -> opW C (some h) K ns dst op ⟨⟩ e R acc) /\ (b=!want -> nP C h K ns ⟨⟩ e dst R acc)
 | .tup []=>nP C h K ns ⟨⟩ e dst R acc
 | _=>False
@[simp] theorem Ih {h op b u} : gdD C h K ns dst op true u e R acc (.bool b)=brB b (opW C (some h) K ns dst op ⟨⟩ e R acc) (nP C h K ns ⟨⟩ e dst R acc) ⟨⟩:=zR
@[simp] theorem Fz {h op b u} : gdD C h K ns dst op false u e R acc (.bool b)=brB b (nP C h K ns ⟨⟩ e dst R acc) (opW C (some h) K ns dst op ⟨⟩ e R acc) ⟨⟩:=by
 simp only [gdD,brB,Bool.not_false];exact propext ⟨fun h=>⟨h.2,h.1⟩,fun h=>⟨h.2,h.1⟩⟩
@[simp] theorem Ig {h op want u} : gdD C h K ns dst op want u e R acc (.tup [])=nP C h K ns ⟨⟩ e dst R acc:=zR
@[simp] theorem GS {h dst op s want ns u} : sF C h K (⟨dst,op,some (s,want)⟩::ns) u e acc=(chk (ae e) ⟨dst,op,some (s,want)⟩=true /\ gdD C h K ns dst op want ⟨⟩ e (iw (ae e) ⟨dst,op,some (s,want)⟩) acc (ae e s)):=zR
@[simp] theorem HO {K ns u ws ks} : doW C none K ns u e R acc ws ks=va C K ns ⟨⟩ (ws++dG ks e):=zR
@[simp] theorem HN {h K ns u ws ks} : doW C (some h) K ns u e R acc ws ks=(wOk R ws ks=true /\ sF C h K ns ⟨⟩ (ws++dG ks e) ((R,wrK ws ks)::acc)):=zR
@[simp] theorem Ll {t} : dW C hs K ns (some t) u e R acc d=doW C hs K ns ⟨⟩ e R acc [(t,d)] []:=zR
@[simp] theorem Lk : dW C hs K ns none u e R acc d=doW C hs K ns ⟨⟩ e R acc [] []:=zR
def aP (ks : List (Nat × Bool)) (d : D) : D:=if aG ks d then .any else d
theorem b6 (ks : List (Nat × Bool)) (d : D) : aP ks d=bif aG ks d then .any else d:=by
 unfold aP;cases aG ks d <;> rfl
@[simp] theorem Gq : dG [] e=e:=zR
@[simp] theorem Gp {k ks} : dG (k::ks) []=[]:=zR
@[simp] theorem C7 {k ks s d} : dG (k::ks) ((s,d)::e)=(s,aP (k::ks) d)::dG (k::ks) e:=zR
@[simp] theorem Ga {ks} : aP ks .any=.any:=by simp [aP]
@[simp] theorem Gd {ks k n} : aP ks (.int k n)=.int k n:=by simp [aP,aG,da,aI]
@[simp] theorem C4 {ks n} : aP ks (.bool n)=.bool n:=by simp [aP,aG,da,aI]
@[simp] theorem Gl {ks n} : aP ks (.str n)=.str n:=by simp [aP,aG,da,aI]
@[simp] theorem JP {ks} : aP ks .bb=.bb:=by simp [aP,aG,da,aI]
@[simp] theorem C5 {ks} : aP ks .nilp=.nilp:=by simp [aP,aG,da,aI]
@[simp] theorem C6 {ks} : aP ks .nils=.nils:=by simp [aP,aG,da,aI]
@[simp] theorem F8 {ks n} : aP ks (.agg n)=.agg n:=by simp [aP,aG,da,aI]
@[simp] theorem Gn {ks n} : aP ks (.tup n)=.tup n:=by simp [aP,aG,da,aI]
@[simp] theorem JS {ks n} : aP ks (.sl n)=.sl n:=by simp [aP,aG,da,aI]
@[simp] theorem Gg {ks n} : aP ks (.ptr n)=.ptr n:=by simp [aP,aG,da,aI]
@[simp] theorem JQ {ks g n} : aP ks (.fn g n)=.fn g n:=by simp [aP,aG,da,aI]
@[simp] theorem Gb {ks g n} : aP ks (.blk g n)=.blk g n:=by simp [aP,aG,da,aI]
@[simp] theorem JR {ks kt et xs vs} : aP ks (.mp kt et xs vs)=.mp kt et xs vs:=by simp [aP,aG,da,aI]
@[simp] theorem Gi {b all ks p k n} : aP ((b,all)::ks) (.ref p k n)=if bR b all p then .any else aP ks (.ref p k n):=by
 have h : aP ((b,all)::ks) (.ref p k n)=bif (bR b all p || aG ks (.ref p k n)) then .any else .ref p k n:=b6 ..
 rw [h,b6]
 cases bR b all p <;> rfl
@[simp] theorem F7 {b all ks p k n} : aP ((b,all)::ks) (.adr p k n)=if bR b all p then .any else aP ks (.adr p k n):=by
 have h : aP ((b,all)::ks) (.adr p k n)=bif (bR b all p || aG ks (.adr p k n)) then .any else .adr p k n:=b6 ..
 rw [h,b6]
 cases bR b all p <;> rfl
@[simp] theorem F9 {b all ks n} : aP ((b,all)::ks) (.agx n)=if n.any (aI b all) then .any else aP ks (.agx n):=by
 have h : aP ((b,all)::ks) (.agx n)=bif (n.any (aI b all) || aG ks (.agx n)) then .any else .agx n:=b6 ..
 rw [h,b6]
 cases n.any (aI b all) <;> rfl
@[simp] theorem Gc {b all ks g n} : aP ((b,all)::ks) (.fnx g n)=if n.any (aI b all) then .any else aP ks (.fnx g n):=by
 have h : aP ((b,all)::ks) (.fnx g n)=bif (n.any (aI b all) || aG ks (.fnx g n)) then .any else .fnx g n:=b6 ..
 rw [h,b6]
 cases n.any (aI b all) <;> rfl
@[simp] theorem Gf {d} : aP [] d=d:=by simp [aP,aG]
@[simp] theorem Gk {ks b es} : aP ks (slx b es)=slx b es:=by cases b <;> cases es <;> simp [slx]
def jq (C : CC) (hs : Option (List Nat)) (K : Env -> Prop) (ns : List am) (dst : Option Nat) (_ : Tag (hs,K,ns)) (e : Env) (R : List Nat) (acc : List (List Nat × List Nat)) (sz : Nat) (es : List (List D)) (i : Nat) : Prop :=
 ∃ c,es[i]? = some c /\ c.length=sz /\ cV dst (kOf C hs K ns e R acc) (.ptr c)
@[simp] theorem Ix {α : Type} [Inhabited α] {sz : Nat} {xs : List α} {f : α -> List D} {i : Nat} : jq C hs K ns dst u e R acc sz (xs.map f) i=(i < xs.length /\ (f xs[i]!).length=sz /\ dW C hs K ns dst ⟨⟩ e R acc (.ptr (f xs[i]!))):=by
 apply propext
 unfold jq dW
 constructor
 ·rintro ⟨c,h,h1,h2⟩
  rw [x0A,x0n] at h
  obtain ⟨x,hx,rfl⟩:=h
  obtain ⟨hi,rfl⟩:=x0b.1 hx
  rw [x0g xs i hi]
  exact ⟨hi,h1,h2⟩
 ·rintro ⟨hi,h1,h2⟩
  rw [x0g xs i hi] at h1 h2
  exact ⟨_,by rw [x0A,x0e hi];rfl,h1,h2⟩
def Ct (C : CC) (hs : Option (List Nat)) (K : Env -> Prop) (ns : List am) (dst : Option Nat) (_ : Tag (hs,K,ns)) (e : Env) (R : List Nat) (acc : List (List Nat × List Nat)) (s : List UInt8) (i : Nat) : Prop :=
 ∃ b,s[i]? = some b /\ cV dst (kOf C hs K ns e R acc) (.int .u8 b.toNat)
@[simp] theorem Lj {s : List UInt8} {i : Nat} : Ct C hs K ns dst u e R acc s i=(i < s.length /\ dW C hs K ns dst ⟨⟩ e R acc (.int .u8 (s[i]!).toNat)):=by
 apply propext
 unfold Ct dW
 constructor
 ·rintro ⟨b,h,h2⟩
  obtain ⟨hi,rfl⟩:=x0b.1 h
  rw [x0g s i hi]
  exact ⟨hi,h2⟩
 ·rintro ⟨hi,h2⟩
  rw [x0g s i hi] at h2
  exact ⟨_,x0e hi,h2⟩
def lL (C : CC) (hs : Option (List Nat)) (K : Env -> Prop) (ns : List am) (dst : Option Nat) (_ : Tag (hs,K,ns)) (e : Env) (R : List Nat) (acc : List (List Nat × List Nat)) (n : Nat) (ag : Bool) (p : Pa) (es : List (List D)) (i off : Nat) : Prop :=
 ∃ r,es[i]? = some r /\ off + n <= r.length /\ match ag with
    | true=>(((r.drop off).take n).all isV=true -> cV dst (kOf C hs K ns e R acc) (.agg ((r.drop off).take n))) /\
      (((r.drop off).take n).all isV=false -> cV dst (kOf C hs K ns e R acc) (.agx (((r.drop off).take n).mapIdx fun j c=>ldc p i (off + j) c)))
    | false=>cV dst (kOf C hs K ns e R acc) (ldc p i off ((r.drop off).headD .any))
theorem tO {n : Nat} {ag : Bool} {p : Pa} {es : List (List D)} {i off : Nat} {r : List D} (hr : es[i]? = some r) (hl : off + n <= r.length) (hk : match ag with
    | true=>(((r.drop off).take n).all isV=true -> dW C hs K ns dst ⟨⟩ e R acc (.agg ((r.drop off).take n))) /\
      (((r.drop off).take n).all isV=false -> dW C hs K ns dst ⟨⟩ e R acc (.agx (((r.drop off).take n).mapIdx fun j c=>ldc p i (off + j) c)))
    | false=>dW C hs K ns dst ⟨⟩ e R acc (ldc p i off ((r.drop off).headD .any))) : lL C hs K ns dst u e R acc n ag p es i off:=by
 refine ⟨r,hr,hl,?_⟩
 cases ag <;> exact hk
@[simp] theorem KL {n : Nat} {ag : Bool} {p : Pa} {r : List D} {off : Nat} : lL C hs K ns dst u e R acc n ag p [r] 0 off=(off + n <= r.length /\ match ag with
    | true=>(((r.drop off).take n).all isV=true -> dW C hs K ns dst ⟨⟩ e R acc (.agg ((r.drop off).take n))) /\
      (((r.drop off).take n).all isV=false -> dW C hs K ns dst ⟨⟩ e R acc (.agx (((r.drop off).take n).mapIdx fun j c=>ldc p 0 (off + j) c)))
    | false=>dW C hs K ns dst ⟨⟩ e R acc (ldc p 0 off ((r.drop off).headD .any))):=by
 apply propext
 constructor
 ·rintro ⟨r',h1,h2,h3⟩
  simp at h1;subst h1
  refine ⟨h2,?_⟩
  cases ag <;> exact h3
 ·rintro ⟨h2,h3⟩
  refine ⟨r,rfl,h2,?_⟩
  cases ag <;> exact h3
end
section
variable {C : CC} {Q : cc -> Env -> Prop} {e : Env} {K : Env -> Prop} {dst : Option Nat} {hs : Option (List Nat)} {ns : List am} {R : List Nat} {acc : List (List Nat × List Nat)} {u : Tag (hs,K,ns)}
@[simp] theorem OF {x v1} : opW C hs K ns dst (.mov x) v1 e R acc=(isS (vd (ae e) x)=true /\ dW C hs K ns dst ⟨⟩ e R acc (vd (ae e) x)):=zR
@[simp] theorem OI {x v1} : opW C hs K ns dst (.nck x) v1 e R acc=(match (generalizing:=false) vd (ae e) x with
  | .ptr ds=>dW C hs K ns dst ⟨⟩ e R acc (.ptr ds)
  | .adr p i off=>dW C hs K ns dst ⟨⟩ e R acc (.adr p i off)
  | .ptx ds=>dW C hs K ns dst ⟨⟩ e R acc (.ptx ds)
  | _=>False):=zR
@[simp] theorem KA {c a b v1} : opW C hs K ns dst (.pick c a b) v1 e R acc=(match (generalizing:=false) vd (ae e) c with
  | .bool v=>(v=true -> isS (vd (ae e) a)=true /\ dW C hs K ns dst ⟨⟩ e R acc (vd (ae e) a)) /\ (v=false -> isS (vd (ae e) b)=true /\ dW C hs K ns dst ⟨⟩ e R acc (vd (ae e) b))
  | _=>False):=zR
@[simp] theorem Ot {op x y v1} : opW C hs K ns dst (.bin op x y) v1 e R acc=(match (generalizing:=false) vd (ae e) x,vd (ae e) y with
  | .int k a,.int k' b=>match (generalizing:=false) op with
   | .add=>k=k' /\ dW C hs K ns dst ⟨⟩ e R acc (.int k (k.wrap (a + b)))
   | .sub=>k=k' /\ dW C hs K ns dst ⟨⟩ e R acc (.int k (k.wrap (a - b)))
   | .mul=>k=k' /\ dW C hs K ns dst ⟨⟩ e R acc (.int k (k.wrap (a * b)))
   | .quo=>k=k' /\ b ≠ 0 /\ dW C hs K ns dst ⟨⟩ e R acc (.int k (k.wrap (a.tdiv b)))
   | .rem=>k=k' /\ b ≠ 0 /\ dW C hs K ns dst ⟨⟩ e R acc (.int k (a.tmod b))
   | .and=>k=k' /\ dW C hs K ns dst ⟨⟩ e R acc (.int k (bits .and k a b))
   | .or=>k=k' /\ dW C hs K ns dst ⟨⟩ e R acc (.int k (bits .or k a b))
   | .xor=>k=k' /\ dW C hs K ns dst ⟨⟩ e R acc (.int k (bits .xor k a b))
   | .andNot=>k=k' /\ dW C hs K ns dst ⟨⟩ e R acc (.int k (bits .andNot k a b))
   | .shl=>0 <= b /\ dW C hs K ns dst ⟨⟩ e R acc (.int k (k.wrap (a * 2 ^ (min b.toNat k.bits))))
   | .shr=>0 <= b /\ dW C hs K ns dst ⟨⟩ e R acc (.int k (a.fdiv (2 ^ (min b.toNat k.bits))))
   | .eql=>k=k' /\ dW C hs K ns dst ⟨⟩ e R acc (.bool (decide (a=b)))
   | .neq=>k=k' /\ dW C hs K ns dst ⟨⟩ e R acc (.bool (!decide (a=b)))
   | .lss=>k=k' /\ dW C hs K ns dst ⟨⟩ e R acc (.bool (decide (a < b)))
   | .leq=>k=k' /\ dW C hs K ns dst ⟨⟩ e R acc (.bool (decide (a <= b)))
   | .gtr=>k=k' /\ dW C hs K ns dst ⟨⟩ e R acc (.bool (decide (b < a)))
   | .geq=>k=k' /\ dW C hs K ns dst ⟨⟩ e R acc (.bool (decide (b <= a)))
  | .str a,.str b=>match (generalizing:=false) op with
   | .eql=>dW C hs K ns dst ⟨⟩ e R acc (.bool (decide (a=b)))
   | .neq=>dW C hs K ns dst ⟨⟩ e R acc (.bool (!decide (a=b)))
   | .add=>((a++b).length : Int) <= 9223372036854775807 /\ dW C hs K ns dst ⟨⟩ e R acc (.str (a++b))
   | .lss=>dW C hs K ns dst ⟨⟩ e R acc (.bool (Op.bytesLess a b))
   | .leq=>dW C hs K ns dst ⟨⟩ e R acc (.bool (Op.bytesLess a b || a == b))
   | .gtr=>dW C hs K ns dst ⟨⟩ e R acc (.bool !(Op.bytesLess a b || a == b))
   | .geq=>dW C hs K ns dst ⟨⟩ e R acc (.bool !(Op.bytesLess a b))
   | _=>False
  | _,_=>False):=zR
@[simp] theorem PU {op x v1} : opW C hs K ns dst (.un op x) v1 e R acc=(match (generalizing:=false) vd (ae e) x with
  | .bool b=>match (generalizing:=false) op with
   | .not=>dW C hs K ns dst ⟨⟩ e R acc (.bool (!b))
   | _=>False
  | .int k n=>match (generalizing:=false) op with
   | .neg=>dW C hs K ns dst ⟨⟩ e R acc (.int k (k.wrap (0 - n)))
   | _=>False
  | _=>False):=zR
@[simp] theorem Kt {k x v1} : opW C hs K ns dst (.conv k x) v1 e R acc=(match (generalizing:=false) vd (ae e) x with
  | .int _ n=>dW C hs K ns dst ⟨⟩ e R acc (.int k (k.wrap n))
  | _=>False):=zR
@[simp] theorem Oq {neg ks x y v1} : opW C hs K ns dst (.beq neg ks x y) v1 e R acc=(match (generalizing:=false) vd (ae e) x,vd (ae e) y with
  | .bool a,.bool b=>ks=[] /\ dW C hs K ns dst ⟨⟩ e R acc (.bool ((a == b) != neg))
  | .agg a,.agg b=>ks ≠ [] /\ match (generalizing:=false) cg ks a b with
   | some r=>dW C hs K ns dst ⟨⟩ e R acc (.bool (r != neg))
   | none=>False
  | .nils,.nils=>ks=[9] /\ dW C hs K ns dst ⟨⟩ e R acc (.bool (!neg))
  | .sl es,.nils=>ks=[9] /\ (0 < es.length -> dW C hs K ns dst ⟨⟩ e R acc (.bool neg)) /\ (es.length=0 -> dW C hs K ns dst ⟨⟩ e R acc .bb)
  | .nilp,.nilp=>ks=[8] /\ dW C hs K ns dst ⟨⟩ e R acc (.bool (!neg))
  | .ptr _,.nilp=>ks=[8] /\ dW C hs K ns dst ⟨⟩ e R acc (.bool neg)
  | _,_=>False):=zR
@[simp] theorem Kw {len sz ag x i v1} : opW C hs K ns dst (.idxA len sz ag x i) v1 e R acc=(match (generalizing:=false) vd (ae e) x,vd (ae e) i with
  | .agg ds,.int _ j=>0 <= j /\ j < len /\ j.toNat * sz + sz <= ds.length /\ dW C hs K ns dst ⟨⟩ e R acc (oj ag sz (ds.drop (j.toNat * sz)))
  | .agx ds,.int _ j=>0 <= j /\ j < len /\ j.toNat * sz + sz <= ds.length /\ match (generalizing:=false) ag with
   | true=>dW C hs K ns dst ⟨⟩ e R acc (.agx ((ds.drop (j.toNat * sz)).take sz))
   | false=>dW C hs K ns dst ⟨⟩ e R acc ((ds.drop (j.toNat * sz)).headD .any)
  | _,_=>False):=zR
@[simp] theorem Kx {x i v1} : opW C hs K ns dst (.idxS x i) v1 e R acc=(match (generalizing:=false) vd (ae e) x,vd (ae e) i with
  | .str s,.int _ j=>0 <= j /\ Ct C hs K ns dst ⟨⟩ e R acc s j.toNat
  | _,_=>False):=zR
@[simp] theorem Oy {i x v1} : opW C hs K ns dst (.ext i x) v1 e R acc=(match (generalizing:=false) vd (ae e) x with
  | .tup ds=>∃ d,ds[i]? = some d /\ dW C hs K ns dst ⟨⟩ e R acc d
  | .tpx ds=>∃ d,ds[i]? = some d /\ dW C hs K ns dst ⟨⟩ e R acc d
  | _=>False):=zR
@[simp] theorem Oz {off x v1} : opW C hs K ns dst (.fad off x) v1 e R acc=(match (generalizing:=false) vd (ae e) x with
  | .adr p i o=>dW C hs K ns dst ⟨⟩ e R acc (.adr p i (o + off))
  | .ptr ds=>dW C hs K ns dst ⟨⟩ e R acc (.ptr (ds.drop off))
  | .ptx ds=>dW C hs K ns dst ⟨⟩ e R acc (.ptx (ds.drop off))
  | _=>False):=zR
@[simp] theorem Ku {len sz x i v1} : opW C hs K ns dst (.iadA len sz x i) v1 e R acc=(match (generalizing:=false) vd (ae e) x,vd (ae e) i with
  | .adr p r o,.int _ j=>0 <= j /\ j < len /\ dW C hs K ns dst ⟨⟩ e R acc (.adr p r (o + j.toNat * sz))
  | .ptr ds,.int _ j=>0 <= j /\ j < len /\ dW C hs K ns dst ⟨⟩ e R acc (.ptr (ds.drop (j.toNat * sz)))
  | _,_=>False):=zR
@[simp] theorem PP {n ag x v1} : opW C hs K ns dst (.ld n ag x) v1 e R acc=(match (generalizing:=false) vd (ae e) x with
  | .adr p i off=>match (generalizing:=false) aU (ae e) p with
   | some (_,es)=>lL C hs K ns dst ⟨⟩ e R acc n ag p es i off
   | none=>False
  | .ptr ds=>n <= ds.length /\ dW C hs K ns dst ⟨⟩ e R acc (oj ag n ds)
  | .ptx ds=>n <= ds.length /\ match (generalizing:=false) ag with
   | true=>((ds.take n).all isV=true -> dW C hs K ns dst ⟨⟩ e R acc (.agg (ds.take n))) /\ ((ds.take n).all isV=false -> dW C hs K ns dst ⟨⟩ e R acc (.agx (ds.take n)))
   | false=>0 < n /\ dW C hs K ns dst ⟨⟩ e R acc (ds.headD .any)
  | _=>False):=zR
@[simp] theorem Ou {zs parts v1} : opW C hs K ns dst (.bld zs parts) v1 e R acc=((∀ p ∈ parts,isS (vd (ae e) p.2.2)=true /\ p.1 + p.2.1 <= zs.length /\ match (generalizing:=false) vd (ae e) p.2.2 with
    | .agg ds=>ds.length=p.2.1
    | .agx ds=>ds.length=p.2.1
    | .any=>False
    | .tpx _=>False
    | .ptx _=>False
    | .rfx _ _ _=>False
    | .fnx _ _=>False
    | _=>p.2.1=1) /\
   ((parts.all fun p=>isV (vd (ae e) p.2.2))=true -> dW C hs K ns dst ⟨⟩ e R acc (.agg (ix zs (parts.map fun p=>(p.1,p.2.1,vd (ae e) p.2.2))))) /\
   ((parts.all fun p=>isV (vd (ae e) p.2.2))=false -> dW C hs K ns dst ⟨⟩ e R acc (.agx (ix zs (parts.map fun p=>(p.1,p.2.1,bS (vd (ae e) p.2.2))))))):=zR
@[simp] theorem Ky {x v1} : opW C hs K ns dst (.lens x) v1 e R acc=(match (generalizing:=false) vd (ae e) x with
  | .str s=>dW C hs K ns dst ⟨⟩ e R acc (.int .i64 s.length)
  | _=>False):=zR
@[simp] theorem PQ {g xs v1} : opW C hs K ns dst (.mk g xs) v1 e R acc=((∀ x ∈ xs,isP (vd (ae e) x)=true) /\ ((xs.all fun x=>isV (vd (ae e) x))=true -> dW C hs K ns dst ⟨⟩ e R acc (.fn g (xs.map (vd (ae e))))) /\ ((xs.all fun x=>isV (vd (ae e) x))=false -> dW C hs K ns dst ⟨⟩ e R acc (.fnx g (xs.map (vd (ae e)))))):=zR
@[simp] theorem PR {x y v1} : opW C hs K ns dst (.mn x y) v1 e R acc=(match (generalizing:=false) vd (ae e) x,vd (ae e) y with
  | .int k a,.int k' b=>k=k' /\ dW C hs K ns dst ⟨⟩ e R acc (.int k (if b < a then b else a))
  | _,_=>False):=zR
@[simp] theorem PS {x y v1} : opW C hs K ns dst (.mx x y) v1 e R acc=(match (generalizing:=false) vd (ae e) x,vd (ae e) y with
  | .int k a,.int k' b=>k=k' /\ dW C hs K ns dst ⟨⟩ e R acc (.int k (if a < b then b else a))
  | _,_=>False):=zR
@[simp] theorem GI {x y c v1} : opW C hs K ns dst (.add64 x y c) v1 e R acc=(match (generalizing:=false) vd (ae e) x,vd (ae e) y,vd (ae e) c with
  | .int .u64 a,.int .u64 b,.int .u64 k=>0 <= a /\ a < 18446744073709551616 /\ 0 <= b /\ b < 18446744073709551616 /\ 0 <= k /\ k <= 1 /\
    dW C hs K ns dst ⟨⟩ e R acc (.tup [.int .u64 ((a + b + k) % 18446744073709551616),.int .u64 ((a + b + k) / 18446744073709551616)])
  | _,_,_=>False):=zR
@[simp] theorem GQ {x y c v1} : opW C hs K ns dst (.sub64 x y c) v1 e R acc=(match (generalizing:=false) vd (ae e) x,vd (ae e) y,vd (ae e) c with
  | .int .u64 a,.int .u64 b,.int .u64 k=>0 <= a /\ a < 18446744073709551616 /\ 0 <= b /\ b < 18446744073709551616 /\ 0 <= k /\ k <= 1 /\
    dW C hs K ns dst ⟨⟩ e R acc (.tup [.int .u64 ((a - b - k) % 18446744073709551616),.int .u64 (if a < b + k then 1 else 0)])
  | _,_,_=>False):=zR
@[simp] theorem Kz {sz v1} : opW C hs K ns dst (.nilo sz) v1 e R acc=(match (generalizing:=false) dst with
  | some t=>0 < sz /\ doW C hs K ns ⟨⟩ e R acc [(t,.ref (.r (rt t 0)) 0 0),(rt t 0,.blk sz [])] [(rt t 0,true)]
  | none=>False):=zR
@[simp] theorem Ow {x t v1} : opW C hs K ns (some t) (.box [] x) v1 e R acc=gi (ae e) (vd (ae e) x) [] (fun cs bs=>bs.contains (rt t 0)=false /\ doW C hs K ns ⟨⟩ e R acc ((t,.adr (.r (rt t 0)) 0 0)::(rt t 0,.blk cs.length [cs])::bY bs) [(rt t 0,true)]) ⟨⟩:=zR
@[simp] theorem Om {zs v1} : opW C hs K ns dst (.alc zs) v1 e R acc=(match (generalizing:=false) dst with
  | some t=>doW C hs K ns ⟨⟩ e R acc [(t,.adr (.r (rt t 0)) 0 0),(rt t 0,.blk zs.length [zs])] [(rt t 0,true)]
  | none=>False):=zR
@[simp] theorem Ov {sz len zs parts t v1} : opW C hs K ns (some t) (.bls sz len zs [] parts) v1 e R acc=pJ (ae e) sz parts (List.replicate len zs) [] (fun es bs=>bA bs=true /\ bs.contains (rt t 0)=false /\ doW C hs K ns ⟨⟩ e R acc ((t,.ref (.r (rt t 0)) 0 len)::(rt t 0,.blk sz es)::bY bs) [(rt t 0,true)]) ⟨⟩:=zR
@[simp] theorem OE {sz by_ zs n c v1} : opW C hs K ns dst (.mks sz by_ zs n c) v1 e R acc=(match (generalizing:=false) dst with
  | some t=>match (generalizing:=false) vd (ae e) n,vd (ae e) c with
   | .int _ n,.int _ c=>0 <= n /\ n <= c /\ c * by_ <= 140737488355328 /\ doW C hs K ns ⟨⟩ e R acc [(t,.ref (.r (rt t 0)) 0 n.toNat),(rt t 0,.blk sz (List.replicate c.toNat zs))] [(rt t 0,true)]
   | _,_=>False
  | none=>False):=zR
def stM (C : CC) (hs : Option (List Nat)) (K : Env -> Prop) (ns : List am) (_ : Tag (hs,K,ns)) (e : Env) (R : List Nat) (acc : List (List Nat × List Nat)) (n : Nat) (v : D) (cs : List D) (bs : List Nat) (a : D) : Prop:=match a with
 | .adr (.r b) i off=>bs.contains b=false /\ fb (ae e b) (fun sz es=>ii es[i]? (fun r=>off + n <= r.length /\ doW C hs K ns ⟨⟩ e R acc ((b,.blk sz (bg es i off n cs))::bY bs) (stK v [] b)) ⟨⟩) ⟨⟩
 | .adr (.n b i0 o0) i off=>bs=[] /\ (∀ c ∈ cs,aE c=true) /\ fb (ae e b) (fun sz0 es0=>ii es0[i0]? (fun row0=>lJ row0[o0]? (fun sz es=>ii es[i]? (fun r=>off + n <= r.length /\ doW C hs K ns ⟨⟩ e R acc [(b,.blk sz0 (bg es0 i0 o0 1 [.own sz (bg es i off n cs)]))] []) ⟨⟩) ⟨⟩) ⟨⟩) ⟨⟩
 | _=>False
@[simp] theorem Qi {n v cs bs b i off} : stM C hs K ns u e R acc n v cs bs (.adr (.r b) i off)=(bs.contains b=false /\ fb (ae e b) (fun sz es=>ii es[i]? (fun r=>off + n <= r.length /\ doW C hs K ns ⟨⟩ e R acc ((b,.blk sz (bg es i off n cs))::bY bs) (stK v [] b)) ⟨⟩) ⟨⟩):=zR
@[simp] theorem Qh {n v cs bs b i0 o0 i off} : stM C hs K ns u e R acc n v cs bs (.adr (.n b i0 o0) i off)=(bs=[] /\ (∀ c ∈ cs,aE c=true) /\ fb (ae e b) (fun sz0 es0=>ii es0[i0]? (fun row0=>lJ row0[o0]? (fun sz es=>ii es[i]? (fun r=>off + n <= r.length /\ doW C hs K ns ⟨⟩ e R acc [(b,.blk sz0 (bg es0 i0 o0 1 [.own sz (bg es i off n cs)]))] []) ⟨⟩) ⟨⟩) ⟨⟩) ⟨⟩):=zR
@[simp] theorem PT {n a v v1} : opW C hs K ns dst (.st n [] a v) v1 e R acc=(dst=none /\ gi (ae e) (vd (ae e) v) [] (fun cs bs=>cs.length=n /\ stM C hs K ns ⟨⟩ e R acc n (vd (ae e) v) cs bs (vd (ae e) a)) ⟨⟩):=by
 show (dst=none /\ eX (ae e) (vd (ae e) v) [] _)=(dst=none /\ eX (ae e) (vd (ae e) v) [] _)
 congr 1
 congr 1
 funext cs bs
 cases vd (ae e) a <;> try rfl
 rename_i p i off
 cases p with
 | r b =>
  simp only [stM,fb,gW]
  cases ae e b <;> rfl
 | n b i0 o0 =>
  simp only [stM,fb,gW,kO]
  cases ae e b <;> rfl
def ut (C : CC) (hs : Option (List Nat)) (K : Env -> Prop) (ns : List am) (_ : Tag (hs,K,ns)) (e : Env) (R : List Nat) (acc : List (List Nat × List Nat)) (t sz by_ : Nat) (rowsY : List (List D)) (bs : List Nat) (x : D) : Prop:=match x with
 | .nils=>rowsY.length * by_ <= 140737488355328 /\ doW C hs K ns ⟨⟩ e R acc ((t,.ref (.r (rt t 0)) 0 rowsY.length)::(rt t 0,.blk sz rowsY)::bY bs) [(rt t 0,true)]
 | .ref (.r c) k n=>c ≠ rt t 0 /\ bs.contains c=false /\ fb (ae e c) (fun sz' es=>sz'=sz /\ k + n <= es.length /\ (n + rowsY.length) * by_ <= 140737488355328 /\
      doW C hs K ns ⟨⟩ e R acc ((t,.ref (.r (rt t 0)) 0 (n + rowsY.length))::(rt t 0,.blk sz ((es.drop k).take n++rowsY))::(c,.any)::bY bs) [(rt t 0,true)]) ⟨⟩
 | .ref (.n c i o) k n=>c ≠ rt t 0 /\ bs.contains c=false /\ fb (ae e c) (fun sz0 es0=>ii es0[i]? (fun row0=>lJ row0[o]? (fun sz' es=>sz'=sz /\ k + n <= es.length /\ (n + rowsY.length) * by_ <= 140737488355328 /\
      doW C hs K ns ⟨⟩ e R acc ((t,.ref (.r (rt t 0)) 0 (n + rowsY.length))::(rt t 0,.blk sz ((es.drop k).take n++rowsY))::(c,.blk sz0 (bg es0 i o 1 [.any]))::bY bs) [(rt t 0,true)]) ⟨⟩) ⟨⟩) ⟨⟩
 | _=>False
@[simp] theorem EI {t sz by_ rowsY bs} : ut C hs K ns u e R acc t sz by_ rowsY bs .nils=(rowsY.length * by_ <= 140737488355328 /\ doW C hs K ns ⟨⟩ e R acc ((t,.ref (.r (rt t 0)) 0 rowsY.length)::(rt t 0,.blk sz rowsY)::bY bs) [(rt t 0,true)]):=zR
@[simp] theorem OT {t sz by_ rowsY bs c k n} : ut C hs K ns u e R acc t sz by_ rowsY bs (.ref (.r c) k n)=(c ≠ rt t 0 /\ bs.contains c=false /\ fb (ae e c) (fun sz' es=>sz'=sz /\ k + n <= es.length /\ (n + rowsY.length) * by_ <= 140737488355328 /\
      doW C hs K ns ⟨⟩ e R acc ((t,.ref (.r (rt t 0)) 0 (n + rowsY.length))::(rt t 0,.blk sz ((es.drop k).take n++rowsY))::(c,.any)::bY bs) [(rt t 0,true)]) ⟨⟩):=zR
@[simp] theorem OS {t sz by_ rowsY bs c i o k n} : ut C hs K ns u e R acc t sz by_ rowsY bs (.ref (.n c i o) k n)=(c ≠ rt t 0 /\ bs.contains c=false /\ fb (ae e c) (fun sz0 es0=>ii es0[i]? (fun row0=>lJ row0[o]? (fun sz' es=>sz'=sz /\ k + n <= es.length /\ (n + rowsY.length) * by_ <= 140737488355328 /\
      doW C hs K ns ⟨⟩ e R acc ((t,.ref (.r (rt t 0)) 0 (n + rowsY.length))::(rt t 0,.blk sz ((es.drop k).take n++rowsY))::(c,.blk sz0 (bg es0 i o 1 [.any]))::bY bs) [(rt t 0,true)]) ⟨⟩) ⟨⟩) ⟨⟩):=zR
@[simp] theorem On {sz by_ mv x y t v1} : opW C hs K ns (some t) (.app sz by_ mv x y) v1 e R acc=iJ (ae e) mv (vd (ae e) y) sz (fun rowsY bs=>bs.contains (rt t 0)=false /\ ut C hs K ns ⟨⟩ e R acc t sz by_ rowsY bs (vd (ae e) x)) ⟨⟩:=by
 unfold opW iJ
 simp only [aD]
 congr 1
 funext rowsY bs
 congr 1
 cases vd (ae e) x <;> try rfl
 rename_i p k n
 cases p with
 | r c =>
  simp only [ut,fb]
  cases ae e c <;> rfl
 | n c i o =>
  simp only [ut,fb,gW,kO]
  cases hl : ae e c <;> try rfl
  rename_i sz0 es0
  refine congrArg _ (congrArg _ (propext ⟨?_,?_⟩))
  ·rintro ⟨row0,h1,es,h2,h3⟩
   exact ⟨row0,h1,sz,es,h2,rfl,h3⟩
  ·rintro ⟨row0,h1,sz',es,h2,rfl,h3⟩
   exact ⟨row0,h1,es,h2,h3⟩
def yB (n : Nat) (d : D) : Prop:=match d with
 | .blk _ es=>es.length=n /\ ∀ e ∈ es,∀ c ∈ e,bv c=true
 | _=>False
def p7 (f : Nat -> D) (b : Nat) (d : D) : Prop:=match d with
 | .ref (.r c) k n=>k=0 /\ c ≠ b /\ yB n (f c)
 | d=>isV d=true
def Ab (d : D) : D:=match d with
 | .blk sz es=>.own sz es
 | _=>.any
def tc (f : Nat -> D) (d : D) : D:=match d with
 | .ref (.r c) _ _=>Ab (f c)
 | d=>d
@[simp] theorem Hq {n sz es} : yB n (.blk sz es)=(es.length=n /\ ∀ e ∈ es,∀ c ∈ e,bv c=true):=zR
@[simp] theorem KD {sz es} : Ab (.blk sz es)=.own sz es:=zR
@[simp] theorem Le {f : Nat -> D} {b : Nat} {x : Opd} : ml f b x=p7 f b (vd f x):=by
 unfold ml p7 yB
 cases vd f x <;> rfl
@[simp] theorem Lf {f : Nat -> D} {x : Opd} : ll f x=tc f (vd f x):=by
 unfold ll tc Ab
 cases vd f x <;> rfl
@[simp] theorem EK {f : Nat -> D} {b c k n} : p7 f b (.ref (.r c) k n)=(k=0 /\ c ≠ b /\ yB n (f c)):=zR
@[simp] theorem EM {f : Nat -> D} {c k n} : tc f (.ref (.r c) k n)=Ab (f c):=zR
@[simp] theorem EJ {f : Nat -> D} {b k n} : p7 f b (.int k n)=True:=by simp [p7,isV]
@[simp] theorem EL {f : Nat -> D} {k n} : tc f (.int k n)=.int k n:=zR
def wl (C : CC) (g : Nat) (hs : Option (List Nat)) (K : Env -> Prop) (ns : List am) (t : Nat) (_ : Tag (hs,K,ns)) (e : Env) (R : List Nat) (acc : List (List Nat × List Nat)) (sz : Nat) (W : List (List D)) (ds : List D) (q : Nat × D) : Prop :=
 ∃ es' : List (List D),(∀ e ∈ es',e.length=sz /\ ∀ c ∈ e,bv c=true) /\ C g (.own sz W::ds) .any [.own sz es',.nils,.nils] /\ doW C hs K ns ⟨⟩ e R acc [(t,.ref (.r (rt t 0)) 0 es'.length),(rt t 0,.blk sz es'),q] [(rt t 0,true)]
theorem th {g : Nat} {hs : Option (List Nat)} {K : Env -> Prop} {ns : List am} {t : Nat} {u : Tag (hs,K,ns)} {e : Env} {R : List Nat} {acc : List (List Nat × List Nat)} {sz : Nat} {W es' : List (List D)} {ds : List D} {q : Nat × D} (h : C g (.own sz W::ds) .any [.own sz es',.nils,.nils]) (hu : ∀ e ∈ es',e.length=sz /\ ∀ c ∈ e,bv c=true)
  (hk : doW C hs K ns ⟨⟩ e R acc [(t,.ref (.r (rt t 0)) 0 es'.length),(rt t 0,.blk sz es'),q] [(rt t 0,true)]) : wl C g hs K ns t u e R acc sz W ds q:=⟨es',hu,h,hk⟩
def wk (C : CC) (g : Nat) (hs : Option (List Nat)) (K : Env -> Prop) (ns : List am) (t : Nat) (_ : Tag (hs,K,ns)) (e : Env) (R : List Nat) (acc : List (List Nat × List Nat)) (xs : List Opd) (d : D) : Prop:=match d with
 | .ref (.r b) k n=>fb (ae e b) (fun sz es=>k + n <= es.length /\ b ≠ rt t 0 /\ 0 < sz /\ (∀ e ∈ (es.drop k).take n,∀ c ∈ e,bv c=true) /\ (∀ x ∈ xs,ml (ae e) b x) /\ wl C g hs K ns t ⟨⟩ e R acc sz ((es.drop k).take n) (xs.map (ll (ae e))) (b,.any)) ⟨⟩
 | .ref (.n b i o) k n=>fb (ae e b) (fun sz0 es0=>ii es0[i]? (fun row0=>lJ row0[o]? (fun sz es=>k + n <= es.length /\ b ≠ rt t 0 /\ 0 < sz /\ (∀ e ∈ (es.drop k).take n,∀ c ∈ e,bv c=true) /\ (∀ x ∈ xs,ml (ae e) b x) /\
   wl C g hs K ns t ⟨⟩ e R acc sz ((es.drop k).take n) (xs.map (ll (ae e))) (b,.blk sz0 (bg es0 i o 1 [.any]))) ⟨⟩) ⟨⟩) ⟨⟩
 | _=>False
@[simp] theorem Pi {g xs t b k n} : wk C g hs K ns t u e R acc xs (.ref (.r b) k n)=fb (ae e b) (fun sz es=>k + n <= es.length /\ b ≠ rt t 0 /\ 0 < sz /\ (∀ e ∈ (es.drop k).take n,∀ c ∈ e,bv c=true) /\ (∀ x ∈ xs,ml (ae e) b x) /\ wl C g hs K ns t ⟨⟩ e R acc sz ((es.drop k).take n) (xs.map (ll (ae e))) (b,.any)) ⟨⟩:=zR
@[simp] theorem Ph {g xs t b i o k n} : wk C g hs K ns t u e R acc xs (.ref (.n b i o) k n)=fb (ae e b) (fun sz0 es0=>ii es0[i]? (fun row0=>lJ row0[o]? (fun sz es=>k + n <= es.length /\ b ≠ rt t 0 /\ 0 < sz /\ (∀ e ∈ (es.drop k).take n,∀ c ∈ e,bv c=true) /\ (∀ x ∈ xs,ml (ae e) b x) /\
   wl C g hs K ns t ⟨⟩ e R acc sz ((es.drop k).take n) (xs.map (ll (ae e))) (b,.blk sz0 (bg es0 i o 1 [.any]))) ⟨⟩) ⟨⟩) ⟨⟩:=zR
@[simp] theorem GK {g x xs t v1} : opW C hs K ns (some t) (.callE g x xs) v1 e R acc=wk C g hs K ns t ⟨⟩ e R acc xs (vd (ae e) x):=by
 unfold opW
 simp only [aD]
 cases vd (ae e) x <;> try rfl
 rename_i p k n
 cases p with
 | r b =>
  simp only [wk,fb,aU,Pa.root,cN]
  cases ae e b <;> rfl
 | n b i o =>
  simp only [wk,fb,gW,kO,aU,Pa.root,cN]
  cases hl : ae e b <;> try rfl
  rename_i sz0 es0
  simp only
  cases hi : es0[i]? with
  | none=>simp
  | some row0 =>
   simp only [x1r,x0r,exists_eq_left']
   cases ho : row0[o]? with
   | none=>simp
   | some d =>
    cases d
    case own sz es=>exact propext ⟨fun h=>⟨sz,es,rfl,h⟩,fun ⟨sz',es',h0,h⟩=>by cases h0;exact h⟩
    all_goals simp
@[simp] theorem FE {f : Nat -> D} {b k n sz es} : bT f (.ref (.r b) k n) (.own sz es)=(k=0 /\ n=es.length /\ f b=.blk sz es):=zR
@[simp] theorem FC {f : Nat -> D} {b k n sz es} : bT f (.adr (.r b) k n) (.blk sz es)=(k=0 /\ n=0 /\ f b=.blk sz es):=zR
@[simp] theorem FD {f : Nat -> D} {k n r} : bT f (.int k n) r=(r=.int k n):=by simp [bT]
@[simp] theorem CU {f : Nat -> D} {n r} : bT f (.bool n) r=(r=.bool n):=by simp [bT]
@[simp] theorem FF {f : Nat -> D} {n r} : bT f (.str n) r=(r=.str n):=by simp [bT]
@[simp] theorem CW {f : Nat -> D} {r} : bT f .nils r=(r=.nils):=by simp [bT]
@[simp] theorem CV {f : Nat -> D} {r} : bT f .nilp r=(r=.nilp):=by simp [bT]
@[simp] theorem Ik {f : Nat -> D} {n r} : bT f (.sl n) r=(r=.sl n):=by simp [bT]
@[simp] theorem FB {f : Nat -> D} {n r} : bT f (.agg n) r=(r=.agg n):=by simp [bT]
@[simp] theorem G3 {t d} : j5 (some t) d=[(t,d)]:=zR
@[simp] theorem G2 {d} : j5 none d=[]:=zR
@[simp] theorem D9 {t} : mh (some t)=[(t,.tup [])]:=zR
@[simp] theorem D8 : mh none=[]:=zR
def Da (C : CC) (g : Nat) (hs : Option (List Nat)) (K : Env -> Prop) (ns : List am) (dst : Option Nat) (_ : Tag (hs,K,ns)) (e : Env) (R : List Nat) (acc : List (List Nat × List Nat)) (b sz : Nat) (es : List (List D)) (ds : List D) : Prop :=
 ∃ d,∃ es' : List (List D),0 < es'.length /\ C g (.blk sz es::ds) d [.blk sz es'] /\ doW C hs K ns ⟨⟩ e R acc (j5 dst d++[(b,.blk sz es')]) [(b,false)]
theorem tw {g : Nat} {hs : Option (List Nat)} {K : Env -> Prop} {ns : List am} {dst : Option Nat} {u : Tag (hs,K,ns)} {e : Env} {R : List Nat} {acc : List (List Nat × List Nat)} {b sz : Nat} {es es' : List (List D)} {ds : List D} {d : D} (h : C g (.blk sz es::ds) d [.blk sz es']) (hp : 0 < es'.length)
  (hk : doW C hs K ns ⟨⟩ e R acc (j5 dst d++[(b,.blk sz es')]) [(b,false)]) : Da C g hs K ns dst u e R acc b sz es ds:=⟨d,es',hp,h,hk⟩
def J3 (C : CC) (g : Nat) (hs : Option (List Nat)) (K : Env -> Prop) (ns : List am) (dst : Option Nat) (_ : Tag (hs,K,ns)) (e : Env) (R : List Nat) (acc : List (List Nat × List Nat)) (xs : List Opd) (d : D) : Prop:=match d with
 | .adr (.r b) i off=>i=0 /\ off=0 /\ fb (ae e b) (fun sz es=>0 < es.length /\ (∀ x ∈ xs,isV (vd (ae e) x)=true) /\ Da C g hs K ns dst ⟨⟩ e R acc b sz es (xs.map (vd (ae e)))) ⟨⟩
 | _=>False
@[simp] theorem PN {g xs b i off} : J3 C g hs K ns dst u e R acc xs (.adr (.r b) i off)=(i=0 /\ off=0 /\ fb (ae e b) (fun sz es=>0 < es.length /\ (∀ x ∈ xs,isV (vd (ae e) x)=true) /\ Da C g hs K ns dst ⟨⟩ e R acc b sz es (xs.map (vd (ae e)))) ⟨⟩):=zR
@[simp] theorem GN {g x xs v1} : opW C hs K ns dst (.callL g x xs) v1 e R acc=J3 C g hs K ns dst ⟨⟩ e R acc xs (vd (ae e) x):=by
 unfold opW
 simp only [aD]
 cases vd (ae e) x <;> first | rfl | skip
def wa (C : CC) (g : Nat) (hs : Option (List Nat)) (K : Env -> Prop) (ns : List am) (dst : Option Nat) (_ : Tag (hs,K,ns)) (e : Env) (R : List Nat) (acc : List (List Nat × List Nat)) (b i o sz0 sz : Nat) (es0 es : List (List D)) (ds : List D) : Prop :=
 ∃ es' : List (List D),es'.length=es.length /\ (∀ e ∈ es',e.length=sz /\ ∀ c ∈ e,aE c=true) /\ C g (.own sz es::ds) .any [.own sz es',.nilp] /\ doW C hs K ns ⟨⟩ e R acc (mh dst++[(b,.blk sz0 (bg es0 i o 1 [.own sz es']))]) []
theorem wb {g : Nat} {hs : Option (List Nat)} {K : Env -> Prop} {ns : List am} {t : Nat} {u : Tag (hs,K,ns)} {e : Env} {R : List Nat} {acc : List (List Nat × List Nat)} {b i o sz0 sz : Nat} {es0 es es' : List (List D)} {ds : List D} (h : C g (.own sz es::ds) .any [.own sz es',.nilp]) (hl : es'.length=es.length) (hu : ∀ e ∈ es',e.length=sz /\ ∀ c ∈ e,aE c=true)
  (hk : doW C hs K ns ⟨⟩ e R acc [(t,.tup []),(b,.blk sz0 (bg es0 i o 1 [.own sz es']))] []) : wa C g hs K ns (some t) u e R acc b i o sz0 sz es0 es ds:=⟨es',hl,hu,h,hk⟩
def CG (C : CC) (g : Nat) (hs : Option (List Nat)) (K : Env -> Prop) (ns : List am) (dst : Option Nat) (_ : Tag (hs,K,ns)) (e : Env) (R : List Nat) (acc : List (List Nat × List Nat)) (xs : List Opd) (d : D) : Prop:=match d with
 | .ref (.n b i o) k n=>k=0 /\ fb (ae e b) (fun sz0 es0=>ii es0[i]? (fun row0=>lJ row0[o]? (fun sz es=>es.length=n /\ (∀ x ∈ xs,isV (vd (ae e) x)=true) /\ wa C g hs K ns dst ⟨⟩ e R acc b i o sz0 sz es0 es (xs.map (vd (ae e)))) ⟨⟩) ⟨⟩) ⟨⟩
 | _=>False
@[simp] theorem OV {g xs b i o k n} : CG C g hs K ns dst u e R acc xs (.ref (.n b i o) k n)=(k=0 /\ fb (ae e b) (fun sz0 es0=>ii es0[i]? (fun row0=>lJ row0[o]? (fun sz es=>es.length=n /\ (∀ x ∈ xs,isV (vd (ae e) x)=true) /\ wa C g hs K ns dst ⟨⟩ e R acc b i o sz0 sz es0 es (xs.map (vd (ae e)))) ⟨⟩) ⟨⟩) ⟨⟩):=zR
@[simp] theorem GO {g x xs v1} : opW C hs K ns dst (.callN g x xs) v1 e R acc=CG C g hs K ns dst ⟨⟩ e R acc xs (vd (ae e) x):=by
 unfold opW
 simp only [aD]
 cases vd (ae e) x <;> try rfl
 rename_i p k n
 cases p with
 | r b=>rfl
 | n b i o =>
  simp only [CG,fb,gW,kO]
  cases ae e b <;> rfl
@[simp] theorem GM {g xs v1} : opW C hs K ns dst (.callG g xs) v1 e R acc=((∀ x ∈ xs,bF (ae e) (vd (ae e) x)) /\ v7 C g hs K ns dst ⟨⟩ e R acc (xs.map (dpv (ae e)))):=zR
@[simp] theorem GJ {g xs t v1} : opW C hs K ns (some t) (.callA g xs) v1 e R acc=((∀ x ∈ xs,isV (vd (ae e) x)=true) /\ rJ C g hs K ns t ⟨⟩ e R acc (xs.map (vd (ae e)))):=zR
@[simp] theorem GL {g xs t v1} : opW C hs K ns (some t) (.callF g xs) v1 e R acc=((∀ x ∈ xs,bF (ae e) (vd (ae e) x)) /\ vZ C g hs K ns t ⟨⟩ e R acc (xs.map (dpv (ae e)))):=zR
@[simp] theorem Ks {g xs x0 v1} : opW C hs K ns dst (.call g xs x0) v1 e R acc=((∀ x ∈ xs,bF (ae e) (vd (ae e) x)) /\ qc C g hs K ns dst ⟨⟩ e R acc (xs.all fun x=>isV (vd (ae e) x)) (xs.map (dpv (ae e)))):=zR
def lm (C : CC) (hs : Option (List Nat)) (K : Env -> Prop) (ns : List am) (t : Nat) (_ : Tag (hs,K,ns)) (e : Env) (R : List Nat) (acc : List (List Nat × List Nat)) (d : D) : Prop:=match d with
 | .ref (.r c) k n=>if c=rt t 0 then doW C hs K ns ⟨⟩ e R acc [(t,.ref (.r c) k n)] [] else match ae e c with
  | .blk sz es=>doW C hs K ns ⟨⟩ e R acc [(t,.ref (.r (rt t 0)) k n),(rt t 0,.blk sz es),(c,.any)] [(rt t 0,true)]
  | _=>False
 | d=>isS d=true /\ doW C hs K ns ⟨⟩ e R acc [(t,d)] []
@[simp] theorem Oo {t x v1} : opW C hs K ns (some t) (.asg x) v1 e R acc=lm C hs K ns t ⟨⟩ e R acc (vd (ae e) x):=zR
@[simp] theorem Hs {t c k n} : lm C hs K ns t u e R acc (.ref (.r c) k n)=(if c=rt t 0 then doW C hs K ns ⟨⟩ e R acc [(t,.ref (.r c) k n)] [] else match ae e c with
  | .blk sz es=>doW C hs K ns ⟨⟩ e R acc [(t,.ref (.r (rt t 0)) k n),(rt t 0,.blk sz es),(c,.any)] [(rt t 0,true)]
  | _=>False):=zR
@[simp] theorem EO {t b i o k n} : lm C hs K ns t u e R acc (.ref (.n b i o) k n)=doW C hs K ns ⟨⟩ e R acc [(t,.ref (.n b i o) k n)] []:=by simp [lm]
@[simp] theorem EN {t} : lm C hs K ns t u e R acc .nils=doW C hs K ns ⟨⟩ e R acc [(t,.nils)] []:=by simp [lm]
@[simp] theorem Lg {t es} : lm C hs K ns t u e R acc (.sl es)=doW C hs K ns ⟨⟩ e R acc [(t,.sl es)] []:=by simp [lm]
@[simp] theorem Ht {t b es} : lm C hs K ns t u e R acc (slx b es)=doW C hs K ns ⟨⟩ e R acc [(t,slx b es)] []:=by
 rcases dY b es with h | ⟨h,_⟩ <;> rw [h] <;> simp
@[simp] theorem Hr {t} : lm C hs K ns t u e R acc .any=doW C hs K ns ⟨⟩ e R acc [(t,.any)] []:=by simp [lm]
@[simp] theorem Hu {t ds} : lm C hs K ns t u e R acc (.tup ds)=doW C hs K ns ⟨⟩ e R acc [(t,.tup ds)] []:=by simp [lm]
def sc (C : CC) (hs : Option (List Nat)) (K : Env -> Prop) (ns : List am) (t : Nat) (_ : Tag (hs,K,ns)) (e : Env) (R : List Nat) (acc : List (List Nat × List Nat)) (d : D) : Prop:=match d with
 | .ref (.r c) k n=>aK (ae e) (.ref (.r c) k n) /\ doW C hs K ns ⟨⟩ e R acc [(t,dp1 (ae e) (.ref (.r c) k n)),(c,.any)] []
 | d=>isS d=true /\ doW C hs K ns ⟨⟩ e R acc [(t,d)] []
@[simp] theorem OA {t x v1} : opW C hs K ns (some t) (.frz x) v1 e R acc=sc C hs K ns t ⟨⟩ e R acc (vd (ae e) x):=zR
@[simp] theorem Ie {t c k n} : sc C hs K ns t u e R acc (.ref (.r c) k n)=(aK (ae e) (.ref (.r c) k n) /\ doW C hs K ns ⟨⟩ e R acc [(t,dp1 (ae e) (.ref (.r c) k n)),(c,.any)] []):=zR
@[simp] theorem Fy {t} : sc C hs K ns t u e R acc .nils=doW C hs K ns ⟨⟩ e R acc [(t,.nils)] []:=by simp [sc]
@[simp] theorem LK {t es} : sc C hs K ns t u e R acc (.sl es)=doW C hs K ns ⟨⟩ e R acc [(t,.sl es)] []:=by simp [sc]
@[simp] theorem If {t b es} : sc C hs K ns t u e R acc (slx b es)=doW C hs K ns ⟨⟩ e R acc [(t,slx b es)] []:=by
 rcases dY b es with h | ⟨h,_⟩ <;> rw [h] <;> simp
def zO (C : CC) (hs : Option (List Nat)) (K : Env -> Prop) (ns : List am) (dst : Option Nat) (_ : Tag (hs,K,ns)) (e : Env) (R : List Nat) (acc : List (List Nat × List Nat)) (c i off : Nat) (d : D) : Prop:=match d with
 | .blk _ es=>∃ r,es[i]? = some r /\ ∃ d,r[off]? = some d /\ cV dst (kOf C hs K ns e R acc) (ldc (.r c) i off d)
 | _=>False
@[simp] theorem JW {c i off sz es} : zO C hs K ns dst u e R acc c i off (.blk sz es)=ii es[i]? (fun r=>yK r[off]? (fun d=>dW C hs K ns dst ⟨⟩ e R acc (ldc (.r c) i off d)) ⟨⟩) ⟨⟩:=by
 simp only [zO,gW,yL];rfl
def JX (C : CC) (hs : Option (List Nat)) (K : Env -> Prop) (ns : List am) (dst : Option Nat) (_ : Tag (hs,K,ns)) (e : Env) (R : List Nat) (acc : List (List Nat × List Nat)) (q : Nat) (d : D) : Prop:=match d with
 | .adr (.r c) i off=>off=q /\ zO C hs K ns dst ⟨⟩ e R acc c i off (ae e c)
 | _=>False
@[simp] theorem JY {q c i off} : JX C hs K ns dst u e R acc q (.adr (.r c) i off)=(off=q /\ zO C hs K ns dst ⟨⟩ e R acc c i off (ae e c)):=zR
@[simp] theorem OB {q x v1} : opW C hs K ns dst (.ldQ q x) v1 e R acc=JX C hs K ns dst ⟨⟩ e R acc q (vd (ae e) x):=zR
def yA (C : CC) (hs : Option (List Nat)) (K : Env -> Prop) (ns : List am) (t : Nat) (_ : Tag (hs,K,ns)) (e : Env) (R : List Nat) (acc : List (List Nat × List Nat)) (sz by_ : Nat) (rowsY : List (List D)) (c i o k n : Nat) (d : D) : Prop:=match d with
 | .blk sz0 es0=>∃ row0,es0[i]? = some row0 /\ ∃ es,row0[o]? = some (.own sz es) /\ k + n <= es.length /\ (n + rowsY.length) * by_ <= 140737488355328 /\
   kOf C hs K ns e R acc [(t,.ref (.r (rt t 0)) 0 (n + rowsY.length)),(rt t 0,.blk sz ((es.drop k).take n++rowsY)),(c,.blk sz0 (bg es0 i o 1 [.any]))] [(rt t 0,true)]
 | _=>False
@[simp] theorem Hn {t sz by_ rowsY c i o k n sz0 es0} : yA C hs K ns t u e R acc sz by_ rowsY c i o k n (.blk sz0 es0)=ii es0[i]? (fun row0=>lJ row0[o]? (fun sz' es=>sz'=sz /\ k + n <= es.length /\ (n + rowsY.length) * by_ <= 140737488355328 /\
   doW C hs K ns ⟨⟩ e R acc [(t,.ref (.r (rt t 0)) 0 (n + rowsY.length)),(rt t 0,.blk sz ((es.drop k).take n++rowsY)),(c,.blk sz0 (bg es0 i o 1 [.any]))] [(rt t 0,true)]) ⟨⟩) ⟨⟩:=by
 simp only [yA,gW,kO]
 refine propext ⟨?_,?_⟩
 ·rintro ⟨row0,h1,es,h2,h3,h4,h5⟩
  exact ⟨row0,h1,sz,es,h2,rfl,h3,h4,h5⟩
 ·rintro ⟨row0,h1,sz',es,h2,rfl,h3,h4,h5⟩
  exact ⟨row0,h1,es,h2,h3,h4,h5⟩
def Ho (C : CC) (hs : Option (List Nat)) (K : Env -> Prop) (ns : List am) (t : Nat) (_ : Tag (hs,K,ns)) (e : Env) (R : List Nat) (acc : List (List Nat × List Nat)) (q sz by_ : Nat) (yd : D) (d : D) : Prop:=match d with
 | .ref (.n c i o') k n=>o'=q /\ eS (ae e) false yd sz fun rowsY bs=>bs=[] /\ c ≠ rt t 0 /\ yA C hs K ns t ⟨⟩ e R acc sz by_ rowsY c i o' k n (ae e c)
 | _=>False
@[simp] theorem Hp {t q sz by_ yd c i o k n} : Ho C hs K ns t u e R acc q sz by_ yd (.ref (.n c i o) k n)=(o=q /\ iJ (ae e) false yd sz (fun rowsY bs=>bs=[] /\ c ≠ rt t 0 /\ yA C hs K ns t ⟨⟩ e R acc sz by_ rowsY c i o k n (ae e c)) ⟨⟩):=zR
@[simp] theorem Ko {t q sz by_ x y v1} : opW C hs K ns (some t) (.appQ q sz by_ x y) v1 e R acc=Ho C hs K ns t ⟨⟩ e R acc q sz by_ (vd (ae e) y) (vd (ae e) x):=zR
def CH (C : CC) (hs : Option (List Nat)) (K : Env -> Prop) (ns : List am) (t : Nat) (_ : Tag (hs,K,ns)) (e : Env) (R : List Nat) (acc : List (List Nat × List Nat)) (sz : Nat) (rows : List (List D)) (b k n : Nat) (d : D) : Prop:=match d with
 | .blk sz' es=>sz'=sz /\ k + n <= es.length /\ (∀ e ∈ es,∀ c ∈ e,aE c=true) /\ (∀ e ∈ rows,∀ c ∈ e,aE c=true) /\ kOf C hs K ns e R acc [(t,.int .i64 (min rows.length n : Nat)),(b,.blk sz (iu es k (rows.take n)))] []
 | _=>False
@[simp] theorem HK {t sz rows b k n sz' es} : CH C hs K ns t u e R acc sz rows b k n (.blk sz' es)=(sz'=sz /\ k + n <= es.length /\ (∀ e ∈ es,∀ c ∈ e,aE c=true) /\ (∀ e ∈ rows,∀ c ∈ e,aE c=true) /\ doW C hs K ns ⟨⟩ e R acc [(t,.int .i64 (min rows.length n : Nat)),(b,.blk sz (iu es k (rows.take n)))] []):=zR
def HL (C : CC) (hs : Option (List Nat)) (K : Env -> Prop) (ns : List am) (t : Nat) (_ : Tag (hs,K,ns)) (e : Env) (R : List Nat) (acc : List (List Nat × List Nat)) (sz : Nat) (rows : List (List D)) (d : D) : Prop:=match d with
 | .ref (.r b) k n=>(n=0 -> kOf C hs K ns e R acc [(t,.int .i64 0)] []) /\ (0 < n -> CH C hs K ns t ⟨⟩ e R acc sz rows b k n (ae e b))
 | _=>False
@[simp] theorem HM {t sz rows b k n} : HL C hs K ns t u e R acc sz rows (.ref (.r b) k n)=((n=0 -> doW C hs K ns ⟨⟩ e R acc [(t,.int .i64 0)] []) /\ (0 < n -> CH C hs K ns t ⟨⟩ e R acc sz rows b k n (ae e b))):=zR
@[simp] theorem Ox {t sz x y v1} : opW C hs K ns (some t) (.cpy sz x y) v1 e R acc=iJ (ae e) false (vd (ae e) y) sz (fun rows bs=>bs=[] /\ 0 < rows.length /\ HL C hs K ns t ⟨⟩ e R acc sz rows (vd (ae e) x)) ⟨⟩:=zR
def ig (C : CC) (hs : Option (List Nat)) (K : Env -> Prop) (ns : List am) (dst : Option Nat) (_ : Tag (hs,K,ns)) (e : Env) (R : List Nat) (acc : List (List Nat × List Nat)) (d : D) : Prop:=match d with
 | .agx ds=>dW C hs K ns dst ⟨⟩ e R acc (.ptx ds)
 | .agg ds=>dW C hs K ns dst ⟨⟩ e R acc (.ptr ds)
 | d=>aE d=true /\ dW C hs K ns dst ⟨⟩ e R acc (.ptr [d])
@[simp] theorem CD {ds : List D} : dc (.agg ds)=ds:=zR
@[simp] theorem CE {k n} : dc (.int k n)=[.int k n]:=zR
@[simp] theorem CF {n} : dc (.str n)=[.str n]:=zR
@[simp] theorem Bs {n} : dc (.bool n)=[.bool n]:=zR
@[simp] theorem Fa {n} : dc (.sl n)=[.sl n]:=zR
@[simp] theorem Fx {f : Nat -> D} {es} : gm f [] es=es:=zR
@[simp] theorem CQ {f : Nat -> D} {p ps es} : gm f (p::ps) es=gm f ps (es.set p.1 (dc (vd f p.2))):=zR
@[simp] theorem Kp {sz len zs parts v1} : opW C hs K ns dst (.blsF sz len zs parts) v1 e R acc=((∀ p ∈ parts,p.1 < len /\ (dc (vd (ae e) p.2)).length=sz /\ ∀ c ∈ dc (vd (ae e) p.2),aE c=true) /\ 0 < len /\
   (∀ r ∈ gm (ae e) parts (List.replicate len zs),∀ c ∈ r,aE c=true) /\ dW C hs K ns dst ⟨⟩ e R acc (.sl (gm (ae e) parts (List.replicate len zs)))):=zR
@[simp] theorem Kq {sz len zs parts v1} : opW C hs K ns dst (.blsX sz len zs parts) v1 e R acc=(zs.all aE=true /\ (∀ p ∈ parts,p.1 < len /\ match (generalizing:=false) vd (ae e) p.2 with
    | .agg ds=>ds.length=sz
    | .agx ds=>ds.length=sz
    | _=>False) /\ dW C hs K ns dst ⟨⟩ e R acc (.rfx len sz (jE (ae e) sz len zs parts))):=zR
attribute [simp] jE
@[simp] theorem Kr {x v1} : opW C hs K ns dst (.boxF x) v1 e R acc=ig C hs K ns dst ⟨⟩ e R acc (vd (ae e) x):=zR
@[simp] theorem Hz {ds} : ig C hs K ns dst u e R acc (.agx ds)=dW C hs K ns dst ⟨⟩ e R acc (.ptx ds):=zR
@[simp] theorem Hy {ds} : ig C hs K ns dst u e R acc (.agg ds)=dW C hs K ns dst ⟨⟩ e R acc (.ptr ds):=zR
@[simp] theorem HA {k n} : ig C hs K ns dst u e R acc (.int k n)=dW C hs K ns dst ⟨⟩ e R acc (.ptr [.int k n]):=by simp [ig]
@[simp] theorem EP {n} : ig C hs K ns dst u e R acc (.bool n)=dW C hs K ns dst ⟨⟩ e R acc (.ptr [.bool n]):=by simp [ig]
@[simp] theorem HD {n} : ig C hs K ns dst u e R acc (.str n)=dW C hs K ns dst ⟨⟩ e R acc (.ptr [.str n]):=by simp [ig]
@[simp] theorem EQ : ig C hs K ns dst u e R acc .nils=dW C hs K ns dst ⟨⟩ e R acc (.ptr [.nils]):=by simp [ig]
@[simp] theorem Li {es} : ig C hs K ns dst u e R acc (.sl es)=dW C hs K ns dst ⟨⟩ e R acc (.ptr [.sl es]):=by simp [ig]
@[simp] theorem HC {b es} : ig C hs K ns dst u e R acc (slx b es)=dW C hs K ns dst ⟨⟩ e R acc (.ptr [slx b es]):=by
 rcases dY b es with h | ⟨h,_⟩ <;> rw [h] <;> simp
@[simp] theorem HB {es} : ig C hs K ns dst u e R acc (.ptr es)=dW C hs K ns dst ⟨⟩ e R acc (.ptr [.ptr es]):=by simp [ig]
@[simp] theorem Lh {g es} : ig C hs K ns dst u e R acc (.fn g es)=dW C hs K ns dst ⟨⟩ e R acc (.ptr [.fn g es]):=by simp [ig]
@[simp] theorem OC {x v1} : opW C hs K ns dst (.len x) v1 e R acc=sr (vd (ae e) x) (fun n=>dW C hs K ns dst ⟨⟩ e R acc (.int .i64 n)) ⟨⟩:=by
 show res (ae e) _ (.len x)=_
 simp only [res,sr]
 cases vd (ae e) x <;> rfl
def uU (C : CC) (hs : Option (List Nat)) (K : Env -> Prop) (ns : List am) (dst : Option Nat) (_ : Tag (hs,K,ns)) (e : Env) (R : List Nat) (acc : List (List Nat × List Nat)) (sz : Nat) (x i : D) : Prop:=match (generalizing:=false) x,i with
  | .sl es,.int _ j=>0 <= j /\ jq C hs K ns dst ⟨⟩ e R acc sz es j.toNat
  | .rfx n sz' ds,.int _ j=>0 <= j /\ j.toNat < n /\ sz'=sz /\ dW C hs K ns dst ⟨⟩ e R acc (.ptx (ds.drop (j.toNat * sz)))
  | .ref p k n,.int _ j=>0 <= j /\ j.toNat < n /\ match (generalizing:=false) aU (ae e) p with
   | some (sz',_)=>sz'=sz /\ dW C hs K ns dst ⟨⟩ e R acc (.adr p (k + j.toNat) 0)
   | none=>False
  | _,_=>False
@[simp] theorem Kv {sz x i v1} : opW C hs K ns dst (.iadS sz x i) v1 e R acc=uU C hs K ns dst ⟨⟩ e R acc sz (vd (ae e) x) (vd (ae e) i):=zR
@[simp] theorem Im {sz sz' n ds k j} : uU C hs K ns dst u e R acc sz (.rfx n sz' ds) (.int k j)=(0 <= j /\ j.toNat < n /\ sz'=sz /\ dW C hs K ns dst ⟨⟩ e R acc (.ptx (ds.drop (j.toNat * sz)))):=zR
@[simp] theorem LL {sz es k j} : uU C hs K ns dst u e R acc sz (.sl es) (.int k j)=(0 <= j /\ jq C hs K ns dst ⟨⟩ e R acc sz es j.toNat):=zR
@[simp] theorem Io {sz b es k j} : uU C hs K ns dst u e R acc sz (slx b es) (.int k j)=(0 <= j /\ jq C hs K ns dst ⟨⟩ e R acc sz es j.toNat):=by
 rcases dY b es with h | ⟨h,rfl⟩
 ·rw [h];rfl
 ·rw [h];simp [uU,jq]
@[simp] theorem Il {sz p k n k' j} : uU C hs K ns dst u e R acc sz (.ref p k n) (.int k' j)=(0 <= j /\ j.toNat < n /\ match (generalizing:=false) aU (ae e) p with
   | some (sz',_)=>sz'=sz /\ dW C hs K ns dst ⟨⟩ e R acc (.adr p (k + j.toNat) 0)
   | none=>False):=zR
def Az (C : CC) (hs : Option (List Nat)) (K : Env -> Prop) (ns : List am) (dst : Option Nat) (_ : Tag (hs,K,ns)) (e : Env) (R : List Nat) (acc : List (List Nat × List Nat)) (sz : Nat) (x : D) (lo hi : Option Opd) : Prop:=match (generalizing:=false) x with
  | .sl es=>(∀ e ∈ es,e.length=sz) /\ dE (ae e) hi es.length (fun h=>dE (ae e) lo 0 (fun l=>l <= h /\ h <= es.length /\ dW C hs K ns dst ⟨⟩ e R acc (.sl ((es.take h).drop l))) ⟨⟩) ⟨⟩
  | .nils=>dE (ae e) hi 0 (fun h=>dE (ae e) lo 0 (fun l=>l <= h /\ h <= 0 /\ dW C hs K ns dst ⟨⟩ e R acc (.sl [])) ⟨⟩) ⟨⟩
  | .ref p k n=>match (generalizing:=false) aU (ae e) p with
   | some (sz',_)=>sz'=sz /\ dE (ae e) hi n (fun h=>dE (ae e) lo 0 (fun l=>l <= h /\ h <= n /\ dW C hs K ns dst ⟨⟩ e R acc (.ref p (k + l) (h - l))) ⟨⟩) ⟨⟩
   | none=>False
  | _=>False
@[simp] theorem OJ {sz x lo hi v1} : opW C hs K ns dst (.slc sz x lo hi) v1 e R acc=Az C hs K ns dst ⟨⟩ e R acc sz (vd (ae e) x) lo hi:=zR
@[simp] theorem OL {sz es lo hi} : Az C hs K ns dst u e R acc sz (.sl es) lo hi=((∀ e ∈ es,e.length=sz) /\ dE (ae e) hi es.length (fun h=>dE (ae e) lo 0 (fun l=>l <= h /\ h <= es.length /\ dW C hs K ns dst ⟨⟩ e R acc (.sl ((es.take h).drop l))) ⟨⟩) ⟨⟩):=zR
@[simp] theorem G1 {sz lo hi} : Az C hs K ns dst u e R acc sz .nils lo hi=dE (ae e) hi 0 (fun h=>dE (ae e) lo 0 (fun l=>l <= h /\ h <= 0 /\ dW C hs K ns dst ⟨⟩ e R acc (.sl [])) ⟨⟩) ⟨⟩:=zR
@[simp] theorem KR {sz p k n lo hi} : Az C hs K ns dst u e R acc sz (.ref p k n) lo hi=(match (generalizing:=false) aU (ae e) p with
   | some (sz',_)=>sz'=sz /\ dE (ae e) hi n (fun h=>dE (ae e) lo 0 (fun l=>l <= h /\ h <= n /\ dW C hs K ns dst ⟨⟩ e R acc (.ref p (k + l) (h - l))) ⟨⟩) ⟨⟩
   | none=>False):=zR
@[simp] theorem GP {x xs v1} : opW C hs K ns dst (.callv x xs) v1 e R acc=(match (generalizing:=false) vd (ae e) x with
  | .fn g cs=>(∀ x ∈ xs,bF (ae e) (vd (ae e) x)) /\ qc C g hs K ns dst ⟨⟩ e R acc (xs.all fun x=>isV (vd (ae e) x)) (xs.map (dpv (ae e))++cs)
  | .fnx g cs=>(∀ x ∈ xs,bF (ae e) (vd (ae e) x)) /\ (∀ c ∈ cs,aK (ae e) c) /\ qc C g hs K ns dst ⟨⟩ e R acc false (xs.map (dpv (ae e))++cs.map (dp1 (ae e)))
  | _=>False):=by
 simp only [opW,aD,qc,cV,x0l,or_false]
 cases vd (ae e) x <;> rfl
def mpT (x : D) (K : Nat -> Nat -> List D -> List D -> Prop) (_ : Tag K) : Prop:=match x with
 | .mp kt et ks vs=>K kt et ks vs
 | _=>False
@[simp] theorem PO {kt et ks vs K u} : mpT (.mp kt et ks vs) K u=K kt et ks vs:=zR
@[simp] theorem OD {kt et t v1} : opW C hs K ns (some t) (.mkm kt et) v1 e R acc=doW C hs K ns ⟨⟩ e R acc [(t,.mrf (rt t 0)),(rt t 0,.mp kt et [] [])] [(rt t 0,true)]:=zR
def mlM (C : CC) (hs : Option (List Nat)) (K : Env -> Prop) (ns : List am) (dst : Option Nat) (_ : Tag (hs,K,ns)) (e : Env) (R : List Nat) (acc : List (List Nat × List Nat)) (sh : KSh) (kt et : Nat) (ok : Bool) (z x m : D) : Prop:=match m with
 | .mrf b=>mpT (ae e b) (fun kt' et' ks vs=>kt'=kt /\ et'=et /\ cQ sh x /\ match ok with
    | true=>dW C hs K ns dst ⟨⟩ e R acc (.tup [(dH ks vs x).getD z,.bool (dH ks vs x).isSome])
    | false=>dW C hs K ns dst ⟨⟩ e R acc ((dH ks vs x).getD z)) ⟨⟩
 | _=>False
@[simp] theorem Og {sh kt et ok z x b} : mlM C hs K ns dst u e R acc sh kt et ok z x (.mrf b)=mpT (ae e b) (fun kt' et' ks vs=>kt'=kt /\ et'=et /\ cQ sh x /\ match ok with
    | true=>dW C hs K ns dst ⟨⟩ e R acc (.tup [(dH ks vs x).getD z,.bool (dH ks vs x).isSome])
    | false=>dW C hs K ns dst ⟨⟩ e R acc ((dH ks vs x).getD z)) ⟨⟩:=zR
@[simp] theorem OG {sh kt et ok z m x v1} : opW C hs K ns dst (.mpl sh kt et ok z m x) v1 e R acc=mlM C hs K ns dst ⟨⟩ e R acc sh kt et ok z (vd (ae e) x) (vd (ae e) m):=by
 show res (ae e) _ (.mpl sh kt et ok z m x)=_
 simp only [res,mlM]
 cases vd (ae e) m <;> rfl
def muM (C : CC) (hs : Option (List Nat)) (K : Env -> Prop) (ns : List am) (_ : Tag (hs,K,ns)) (e : Env) (R : List Nat) (acc : List (List Nat × List Nat)) (sh : KSh) (kt et : Nat) (z x v m : D) : Prop:=match m with
 | .mrf b=>mpT (ae e b) (fun kt' et' ks vs=>kt'=kt /\ et'=et /\ ks.length < maxLen /\ cQ sh x /\ iv z v /\ doW C hs K ns ⟨⟩ e R acc [(b,.mp kt et (x::ks) (v::vs))] []) ⟨⟩
 | _=>False
@[simp] theorem Oh {sh kt et z x v b} : muM C hs K ns u e R acc sh kt et z x v (.mrf b)=mpT (ae e b) (fun kt' et' ks vs=>kt'=kt /\ et'=et /\ ks.length < maxLen /\ cQ sh x /\ iv z v /\ doW C hs K ns ⟨⟩ e R acc [(b,.mp kt et (x::ks) (v::vs))] []) ⟨⟩:=zR
@[simp] theorem OH {sh kt et z m x v v1} : opW C hs K ns dst (.mpu sh kt et z m x v) v1 e R acc=(dst=none /\ muM C hs K ns ⟨⟩ e R acc sh kt et z (vd (ae e) x) (vd (ae e) v) (vd (ae e) m)):=by
 show (dst=none /\ _)=_
 congr 1
end
@[simp] theorem C3 {s} : cQ .str (.str s)=(s.length <= maxLen):=zR
@[simp] theorem Bx {b} : cQ .bool (.bool b)=True:=zR
@[simp] theorem C2 {q q' n} : cQ (.int q) (.int q' n)=(q'=q /\ qp q n):=zR
@[simp] theorem By {q n ds} : cQ (.ints q n) (.agg ds)=(ds.length=n /\ ∀ d ∈ ds,∃ x,d=.int q x /\ qp q x):=zR
@[simp] theorem Fw {s z} : iv (.str z) (.str s)=(s.length <= maxLen):=zR
@[simp] theorem CN {b z} : iv (.bool z) (.bool b)=True:=zR
@[simp] theorem Fv {q q' n z} : iv (.int q z) (.int q' n)=(q'=q /\ qp q n):=zR
@[simp] theorem Iz {n : Int} : qp .i64 n=(-9223372036854775808 <= n /\ n <= 9223372036854775807):=by
 have e1 : IntKind.i64.min=-9223372036854775808:=rfl
 have e2 : IntKind.i64.max=9223372036854775807:=rfl
 simp [qp,Lit.wf,e1,e2]
attribute [simp] iI fA bH eO cA bE aS eu w8 okR qZ lY cD
attribute [simp] vd params fV jT jU jS m0 nF xp prune j8 isC ix aU PX bg dpv bY stK bR rt chk rdS rdR frR fwR f8 rdN iw wrK mnR DK ldN ah iH qk wOk Pa.root cg bA
end Go.Gv

namespace Go.Gv
def iB (c : Int) : Bool:=(97 <= c && c <= 122) || (65 <= c && c <= 90)
def mB (c : Int) : Bool:=48 <= c && c <= 57
def fN (c : UInt8) : Bool:=iB c.toNat || mB c.toNat || c.toNat == 95
def cL (s : List UInt8) : Nat:=(s.takeWhile fN).length
def f9 (n : Int) : Bool:=-1125899906842624 <= n && n <= 1125899906842624
def ct (s : List UInt8) : Bool:=s ≠ [] && s.length <= 20 && iB (s[0]!).toNat && cL s == s.length
theorem sX (s : List UInt8) : cL s <= s.length:=by unfold cL;exact (List.takeWhile_prefix _).length_le
theorem sU {α : Type} (p : α -> Bool) : ∀ (s : List α) (i : Nat) (h : i < s.length),i <= (s.takeWhile p).length -> (p s[i]=true -> i + 1 <= (s.takeWhile p).length) /\ (p s[i]=false -> i=(s.takeWhile p).length)
 | [],i,h,_=>by simp at h
 | x::s,0,h,_=>by
  constructor <;> intro h1 <;> simp at h1 <;> simp [h1]
 | x::s,i + 1,h,h2=>by
  rw [List.takeWhile_cons] at h2 ⊢
  split at h2
  ·rename_i hp
   simp only [hp,if_true,x1k,List.getElem_cons_succ] at h2 ⊢
   have:=sU p s i (by simpa using h) (by omega)
   exact ⟨fun e=>by have:=this.1 e;omega,fun e=>by have:=this.2 e;omega⟩
  ·simp at h2
theorem pW {s : List UInt8} {i : Nat} (h : i < s.length) (hi : i <= cL s) : fN s[i]=true -> i + 1 <= cL s:=(sU fN s i h hi).1
theorem pX {s : List UInt8} {i : Nat} (h : i < s.length) (hi : i <= cL s) : fN s[i]=false -> i=cL s:=(sU fN s i h hi).2
theorem wrap_i64 {n m : Int} (h : n=m) (h2 : -9223372036854775808 <= m /\ m < 9223372036854775808) : IntKind.wrap .i64 n=m:=by
 subst h
 have e1 : IntKind.i64.signed=true:=rfl
 have e2 : (2 ^ (IntKind.i64.bits - 1) : Int)=9223372036854775808:=rfl
 have e3 : (2 ^ IntKind.i64.bits : Int)=18446744073709551616:=rfl
 unfold IntKind.wrap
 simp only [e1,e2,e3,Bool.true_and,x0c]
 split <;> omega
variable {C : CC} (hC : al prog C)
include hC
theorem wC (n : Int) : C 89 [.int .i64 n] (.bool (f9 n)) []:=by
 refine aj hC (nf:=N89) rfl rfl ?_
 simp [N89,f9]
 refine ac (fun h=>?_) (fun h=>?_) <;> simp at h <;> simp [h] <;> omega
theorem tS (n l : Int) : C 60 [.int .i64 n,.int .i64 l] (.bool (0 <= n && n <= 4194304 && 1 <= l && l <= 16777216)) []:=by
 refine aj hC (nf:=N60) rfl rfl ?_
 simp [N60]
 repeat' (refine ac (fun h=>?_) (fun h=>?_) <;> simp at h <;> simp [h] <;> try omega)
theorem yQ (c : Int) : C 88 [.int .u8 c] (.bool (mB c)) []:=by
 refine aj hC (nf:=N88) rfl rfl ?_
 simp [N88,mB]
 refine ac (fun h=>?_) (fun h=>?_) <;> simp at h <;> simp [h] <;> omega
theorem qw (c : Int) : C 70 [.int .u8 c] (.bool (iB c)) []:=by
 refine aj hC (nf:=N70) rfl rfl ?_
 simp [N70,iB]
 repeat' (refine ac (fun h=>?_) (fun h=>?_) <;> simp at h <;> simp [h] <;> try omega)
theorem Ed (s : List UInt8) (hs : s.length < 2 ^ 62) : C 71 [.str s] (.int .i64 (cL s)) []:=by
 refine aj hC (nf:=N71) rfl rfl ?_
 simp [N71]
 refine az Nat (fun i=>[(0,.str s),(3,.int .i64 i)]) (fun i=>i <= cL s) (fun i=>cL s - i) 0 (by simp) (by simp) ?_
 intro i hi
 have hle : cL s <= s.length:=sX s
 by_cases hl : i < s.length
 ·simp [hl]
  refine aa (qw hC _) (.inl rfl) ?_
  have hstep : fN s[i]=true -> i + 1 <= cL s:=pW hl hi
  have hstop : fN s[i]=false -> i=cL s:=pX hl hi
  simp only [fN] at hstep hstop
  have hw : IntKind.wrap .i64 ((i : Int) + 1)=((i + 1 : Nat) : Int):=wrap_i64 (by omega) (by omega)
  cases h1 : iB s[i].toNat with
  | true =>
   simp [h1,hw] at hstep ⊢
   exact ⟨i + 1,by omega,by omega,rfl⟩
  | false =>
   simp [h1,hl]
   refine aa (yQ hC _) (.inl rfl) ?_
   cases h2 : mB s[i].toNat with
   | true =>
    simp [h1,h2,hw] at hstep ⊢
    exact ⟨i + 1,by omega,by omega,rfl⟩
   | false =>
    simp [hl]
    refine ac (fun h3=>?_) (fun h3=>?_) <;> simp at h3
    ·simp [hw,hl]
     have:=hstep (by simp [show s[i].toNat=95 by omega])
     exact ⟨i + 1,this,by omega,rfl⟩
    ·have h4 : ¬ s[i].toNat=95:=by omega
     simp [h1,h2,h4] at hstop ⊢
     omega
 ·simp [hl]
  have : i=cL s:=by omega
  omega
theorem gg (s : List UInt8) : C 58 [.str s] (.bool (ct s)) []:=by
 refine aj hC (nf:=N58) rfl rfl ?_
 simp [N58]
 refine ac (fun h=>?_) (fun h=>?_) <;> simp at h
 ·have hp : 0 < s.length:=List.length_pos_iff.2 h
  simp [h,hp]
  refine ac (fun h2=>?_) (fun h2=>?_) <;> simp at h2
  ·simp [h2,hp]
   refine aa (qw hC _) (.inl rfl) ?_
   simp
   refine ac (fun h3=>?_) (fun h3=>?_)
   ·simp [h3,h2]
    refine aa (Ed hC s (by omega)) (.inl rfl) ?_
    simp [ct,h,h3,show s.length <= 20 by omega,hp,Int.ofNat_inj]
    rw [x0x];simp
   ·simp [ct,h,h3,hp]
  ·simp [h2,ct]
   omega
 ·subst h
  simp [ct]
end Go.Gv

namespace Go.Gv
open Go.Lib
theorem qF (a : Nat) (ha : a < 18446744073709551616) : bits .and .u64 (a : Int) 4294967295=((a % 4294967296 : Nat) : Int):=by
 have h:=bits_and_u64_nat a 4294967295 ha (by omega)
 have e : a &&& 4294967295=a % 4294967296:=Nat.and_two_pow_sub_one_eq_mod a 32
 rw [e] at h
 exact h
theorem nO (a k : Nat) : Int.fdiv (a : Int) (2 ^ k)=((a / 2 ^ k : Nat) : Int):=by
 rw [Int.fdiv_eq_ediv_of_nonneg _ (by exact Int.pow_nonneg (by omega))]
 norm_cast
theorem tR (a : Nat) : Int.fdiv (a : Int) (2 ^ min 32 IntKind.u64.bits)=((a / 4294967296 : Nat) : Int):=nO a 32
theorem sC (a b : Nat) : (a : Int) * (b : Int)=((a * b : Nat) : Int):=(Int.natCast_mul a b).symm
theorem Hi (a b : Nat) : (a : Int) + (b : Int)=((a + b : Nat) : Int):=(Int.natCast_add a b).symm
theorem bX (a : Nat) (ha : a < 18446744073709551616) : IntKind.u64.wrap (a : Int)=(a : Int):=by
 have e1 : IntKind.u64.signed=false:=rfl
 have e3 : (2 ^ IntKind.u64.bits : Int)=18446744073709551616:=rfl
 unfold IntKind.wrap
 simp only [e1,e3,Bool.false_and]
 simp
 omega
theorem yb (a : Nat) : IntKind.u64.wrap (a : Int)=((a % 18446744073709551616 : Nat) : Int):=by
 have e1 : IntKind.u64.signed=false:=rfl
 have e3 : (2 ^ IntKind.u64.bits : Int)=18446744073709551616:=rfl
 unfold IntKind.wrap
 simp only [e1,e3,Bool.false_and]
 simp
variable {C : CC} (hC : al prog C)
include hC
theorem gM (x y : Nat) (hx : x < 18446744073709551616) (hy : y < 18446744073709551616) : C 91 [.int .u64 x,.int .u64 y] (.tup [.int .u64 ((x * y / 18446744073709551616 : Nat) : Int),.int .u64 ((x * y % 18446744073709551616 : Nat) : Int)]) []:=by
 refine aj hC (nf:=N91) rfl rfl ?_
 obtain ⟨bd,bt,bw,hhi⟩:=Lib.mul64_hi x y hx hy
 have ba:=Lib.half_mul_le (a:=x / 4294967296) (b:=y / 4294967296) (by omega) (by omega)
 have bb:=Lib.half_mul_le (a:=x / 4294967296) (b:=y % 4294967296) (by omega) (by omega)
 have bc:=Lib.half_mul_le (a:=x % 4294967296) (b:=y / 4294967296) (by omega) (by omega)
 have ba' : x / 4294967296 * (y / 4294967296) < 18446744073709551616:=by omega
 have bb' : x / 4294967296 * (y % 4294967296) < 18446744073709551616:=by omega
 have bc' : x % 4294967296 * (y / 4294967296) < 18446744073709551616:=by omega
 have bh1 : x / 4294967296 * (y / 4294967296) + (x / 4294967296 * (y % 4294967296) + x % 4294967296 * (y % 4294967296) / 4294967296) / 4294967296 < 18446744073709551616:=by omega
 have bh : x / 4294967296 * (y / 4294967296) + (x / 4294967296 * (y % 4294967296) + x % 4294967296 * (y % 4294967296) / 4294967296) / 4294967296 + ((x / 4294967296 * (y % 4294967296) + x % 4294967296 * (y % 4294967296) / 4294967296) % 4294967296 + x % 4294967296 * (y / 4294967296)) / 4294967296 < 18446744073709551616:=by omega
 simp [N91]
 simp only [qF x hx,qF y hy,tR,sC,Hi,bX _ bd,bX _ bb',bX _ bt,qF _ bt,bX _ bc',bX _ bw,bX _ ba',bX _ bh1,bX _ bh,yb (x * y)]
 rw [hhi]
 exact ⟨by omega,by omega⟩
end Go.Gv

namespace Go.Gv
theorem BX (a : Nat) : Int.fdiv (a : Int) (2 ^ min 16 IntKind.u64.bits)=((a / 65536 : Nat) : Int):=nO a 16
theorem Ay (a : Nat) : Int.fdiv (a : Int) (2 ^ min 8 IntKind.u64.bits)=((a / 256 : Nat) : Int):=nO a 8
theorem Lb (a : Nat) (h : a < 256) : IntKind.u8.wrap (a : Int)=(a : Int):=by
 have e1 : IntKind.u8.signed=false:=rfl
 have e3 : (2 ^ IntKind.u8.bits : Int)=256:=rfl
 unfold IntKind.wrap
 simp only [e1,e3,Bool.false_and]
 simp
 omega
theorem sq : S1.length=256 /\ ∀ n : Fin 256,S1[n.val]?.getD 0=UInt8.ofNat (bitLen n.val) /\ bitLen n.val <= 8:=by decide +kernel
theorem eC {x n z : Nat} {m : Int} (hz : z < 256) (hm : m=n) (hn : n <= 56) (h : n + bitLen z=bitLen x) : 0 <= IntKind.u8.wrap (z : Int) /\ (IntKind.u8.wrap (z : Int)).toNat < S1.length /\ IntKind.i64.wrap (m + IntKind.i64.wrap ↑(S1[(IntKind.u8.wrap (z : Int)).toNat]?.getD default).toNat)=(bitLen x : Int):=by
 rw [Lb z hz]
 obtain ⟨h1,h2⟩:=sq
 obtain ⟨h3,h4⟩:=h2 ⟨z,hz⟩
 have e : (S1[(z : Int).toNat]?.getD default).toNat=bitLen z:=by
  show (S1[z]?.getD 0).toNat=bitLen z
  simp only at h3 h4
  rw [h3,UInt8.toNat_ofNat']
  omega
 simp only at h4
 rw [e]
 have e2 : IntKind.i64.wrap (bitLen z : Int)=(bitLen z : Int):=wrap_i64 rfl (by omega)
 refine ⟨by omega,by omega,?_⟩
 rw [e2,hm]
 exact wrap_i64 (by omega) (by omega)
variable {C : CC} (hC : al prog C)
include hC
theorem yx (x : Nat) (hx : x < 18446744073709551616) : C 111 [.int .u64 x] (.int .i64 (bitLen x)) []:=by
 refine aj hC (nf:=N111) rfl rfl ?_
 have key : ∀ (b z : Nat),2 ^ b <= z -> bitLen z=b + bitLen (z / 2 ^ b):=fun b z h=>bitLen_shift z b (by
  have:=Nat.div_pos h (x1H b)
  omega)
 simp [N111]
 refine ac (fun h1=>?_) (fun h1=>?_) <;> simp at h1
 ·obtain ⟨y,hy⟩ : ∃ y : Nat,y=x / 4294967296:=⟨_,rfl⟩
  have e1 : Int.fdiv (x : Int) (2 ^ min 32 IntKind.u64.bits)=(y : Int):=by rw [tR,hy]
  have k1:=key 32 x (by omega)
  simp [e1]
  refine ac (fun h2=>?_) (fun h2=>?_) <;> simp at h2
  ·obtain ⟨z,hz⟩ : ∃ z : Nat,z=y / 65536:=⟨_,rfl⟩
   have e2 : Int.fdiv (y : Int) (2 ^ min 16 IntKind.u64.bits)=(z : Int):=by rw [BX,hz]
   have k2:=key 16 y (by omega)
   simp [e2]
   refine ac (fun h3=>?_) (fun h3=>?_) <;> simp at h3
   ·obtain ⟨v,hv⟩ : ∃ v : Nat,v=z / 256:=⟨_,rfl⟩
    have e3 : Int.fdiv (z : Int) (2 ^ min 8 IntKind.u64.bits)=(v : Int):=by rw [Ay,hv]
    have k3:=key 8 z (by omega)
    simp [e3]
    refine eC (n:=56) (by omega) ?_ (by omega) ?_
    ·decide
    ·simp only [Nat.reducePow] at k1 k2 k3
     rw [<- hy] at k1;rw [<- hz] at k2;rw [<- hv] at k3;omega
   ·simp
    refine eC (n:=48) (by omega) ?_ (by omega) ?_
    ·decide
    ·simp only [Nat.reducePow] at k1 k2
     rw [<- hy] at k1;rw [<- hz] at k2;omega
  ·simp
   refine ac (fun h3=>?_) (fun h3=>?_) <;> simp at h3
   ·obtain ⟨v,hv⟩ : ∃ v : Nat,v=y / 256:=⟨_,rfl⟩
    have e3 : Int.fdiv (y : Int) (2 ^ min 8 IntKind.u64.bits)=(v : Int):=by rw [Ay,hv]
    have k3:=key 8 y (by omega)
    simp [e3]
    refine eC (n:=40) (by omega) ?_ (by omega) ?_
    ·decide
    ·simp only [Nat.reducePow] at k1 k3
     rw [<- hy] at k1;rw [<- hv] at k3;omega
   ·simp
    refine eC (n:=32) (by omega) ?_ (by omega) ?_
    ·decide
    ·simp only [Nat.reducePow] at k1
     rw [<- hy] at k1;omega
 ·simp
  refine ac (fun h2=>?_) (fun h2=>?_) <;> simp at h2
  ·obtain ⟨z,hz⟩ : ∃ z : Nat,z=x / 65536:=⟨_,rfl⟩
   have e2 : Int.fdiv (x : Int) (2 ^ min 16 IntKind.u64.bits)=(z : Int):=by rw [BX,hz]
   have k2:=key 16 x (by omega)
   simp [e2]
   refine ac (fun h3=>?_) (fun h3=>?_) <;> simp at h3
   ·obtain ⟨v,hv⟩ : ∃ v : Nat,v=z / 256:=⟨_,rfl⟩
    have e3 : Int.fdiv (z : Int) (2 ^ min 8 IntKind.u64.bits)=(v : Int):=by rw [Ay,hv]
    have k3:=key 8 z (by omega)
    simp [e3]
    refine eC (n:=24) (by omega) ?_ (by omega) ?_
    ·decide
    ·simp only [Nat.reducePow] at k2 k3
     rw [<- hz] at k2;rw [<- hv] at k3;omega
   ·simp
    refine eC (n:=16) (by omega) ?_ (by omega) ?_
    ·decide
    ·simp only [Nat.reducePow] at k2
     rw [<- hz] at k2;omega
  ·simp
   refine ac (fun h3=>?_) (fun h3=>?_) <;> simp at h3
   ·obtain ⟨v,hv⟩ : ∃ v : Nat,v=x / 256:=⟨_,rfl⟩
    have e3 : Int.fdiv (x : Int) (2 ^ min 8 IntKind.u64.bits)=(v : Int):=by rw [Ay,hv]
    have k3:=key 8 x (by omega)
    simp [e3]
    refine eC (n:=8) (by omega) ?_ (by omega) ?_
    ·decide
    ·simp only [Nat.reducePow] at k3
     rw [<- hv] at k3;omega
   ·simp
    have:=eC (x:=x) (n:=0) (m:=0) (z:=x) (by omega) rfl (by omega) (by omega)
    simpa using this
theorem lg (x : Nat) (hx : x < 18446744073709551616) : C 102 [.int .u64 x] (.int .i64 ((64 - bitLen x : Nat) : Int)) []:=by
 have hb : bitLen x <= 64:=by
  unfold bitLen
  split
  ·omega
  ·rename_i h
   have:=(Nat.log2_lt h).2 (show x < 2 ^ 64 by omega)
   omega
 refine aj hC (nf:=N102) rfl rfl ?_
 simp [N102]
 refine aa (yx hC x hx) (.inl rfl) ?_
 have e : IntKind.wrap .i64 (64 - (bitLen x : Int))=((64 - bitLen x : Nat) : Int):=wrap_i64 (by omega) (by omega)
 simp [e]
end Go.Gv

namespace Go.Gv
structure DvI (u d a b q r : Nat) : Prop where
 sum : q * a + r=u
 ge : (u * 4294967296 + d) / (a * 4294967296 + b) <= q
 rlt : r < 4294967296
 qle : q <= 4294967297
section
variable {u d a b q r : Nat}
theorem Dv.mul (h : q * a + r=u) : q * (a * 4294967296 + b) + r * 4294967296=u * 4294967296 + q * b:=by
 subst h
 rw [Nat.mul_add,<- x1y,x0C]
 omega
theorem Dv.lt (_ : 0 < a) (hu : u < a * 4294967296 + b) (hd : d < 4294967296) : (u * 4294967296 + d) / (a * 4294967296 + b) < 4294967296:=by
 rw [x1q (by omega)]
 have : (u + 1) * 4294967296 <= (a * 4294967296 + b) * 4294967296:=x0s _ hu
 omega
theorem DvI.first (ha : 2147483648 <= a) (ha2 : a < 4294967296) (hb : b < 4294967296) (hu : u < a * 4294967296 + b) (hd : d < 4294967296) : DvI u d a b (u / a) (u % a) where
 sum:=by rw [x0T];exact x09 u a
 rlt:=by have:=x1x u (show 0 < a by omega);omega
 ge:=by
  rw [Nat.le_div_iff_mul_le (by omega)]
  have h:=Nat.div_mul_le_self (u * 4294967296 + d) (a * 4294967296 + b)
  generalize (u * 4294967296 + d) / (a * 4294967296 + b)=Q at *
  rw [Nat.mul_add,<- x1y] at h
  generalize Q * b=z at *
  generalize Q * a=x at *
  omega
 qle:=by
  have : u / a < 4294967298:=by
   rw [x1q (by omega)]
   omega
  omega
theorem DvI.more (h : DvI u d a b q r) (ha : 0 < a) (hu : u < a * 4294967296 + b) (hd : d < 4294967296) (hc : 4294967296 <= q \/ 4294967296 * r + d < q * b) : (u * 4294967296 + d) / (a * 4294967296 + b) + 1 <= q:=by
 rcases hc with hc | hc
 ·have:=Dv.lt (d:=d) ha hu hd
  omega
 ·have h1:=Dv.mul (b:=b) h.sum
  have : (u * 4294967296 + d) / (a * 4294967296 + b) < q:=by
   rw [x1q (by omega)]
   generalize q * (a * 4294967296 + b)=z at *
   generalize q * b=x at *
   omega
  omega
theorem DvI.done (h : DvI u d a b q r) (ha : 0 < a) (hc : q * b <= 4294967296 * r + d) : q=(u * 4294967296 + d) / (a * 4294967296 + b):=by
 have h1:=Dv.mul (b:=b) h.sum
 have h2:=h.ge
 have : q <= (u * 4294967296 + d) / (a * 4294967296 + b):=by
  rw [Nat.le_div_iff_mul_le (by omega)]
  generalize q * (a * 4294967296 + b)=z at *
  generalize q * b=x at *
  omega
 omega
theorem DvI.next (h : DvI u d a b q r) (ha : 0 < a) (hu : u < a * 4294967296 + b) (hd : d < 4294967296) (hc : 4294967296 <= q \/ 4294967296 * r + d < q * b) :
  1 <= q /\ (q - 1) * a + (r + a)=u /\ (u * 4294967296 + d) / (a * 4294967296 + b) <= q - 1 /\ q - 1 <= 4294967296:=by
 have h1:=h.more ha hu hd hc
 have h2:=h.qle
 have h3:=h.sum
 generalize (u * 4294967296 + d) / (a * 4294967296 + b)=Q at *
 obtain ⟨q',rfl⟩ : ∃ q',q=q' + 1:=⟨q - 1,by omega⟩
 refine ⟨by omega,?_,by omega,by omega⟩
 rw [x0C] at h3
 simp only [Nat.add_sub_cancel]
 omega
theorem Dv.stop (hs : q * a + r=u) (hg : (u * 4294967296 + d) / (a * 4294967296 + b) <= q) (hq : q <= 4294967296) (ha : 0 < a) (hb : b < 4294967296) (hr : 4294967296 <= r) : q=(u * 4294967296 + d) / (a * 4294967296 + b):=by
 have h1:=Dv.mul (b:=b) hs
 have h3 : q * b <= 4294967296 * 4294967295:=x01 hq (by omega)
 have : q <= (u * 4294967296 + d) / (a * 4294967296 + b):=by
  rw [Nat.le_div_iff_mul_le (by omega)]
  generalize q * (a * 4294967296 + b)=z at *
  generalize q * b=x at *
  omega
 omega
theorem DvI.bnd (h : DvI u d a b q r) (hb : b < 4294967296) : q * b < 18446744073709551616:=by
 have:=x01 h.qle (show b <= 4294967295 by omega)
 omega
end
theorem CM {N y S A K un0 y' : Nat} (hy : 0 < y) (hs : 0 < S) (hy' : y'=y * S) (hn : N * S=A * K + un0) :
  A / y' * K + (A % y' * K + un0) / y'=N / y /\ (A % y' * K + un0) % y' / S=N % y:=by
 have hyp : 0 < y':=by rw [hy'];exact Nat.mul_pos hy hs
 have e1:=x09 A y'
 have e2:=x09 (A % y' * K + un0) y'
 have l2:=x1x (A % y' * K + un0) hyp
 have tot : y' * (A / y' * K + (A % y' * K + un0) / y') + (A % y' * K + un0) % y'=N * S:=by
  rw [hn,Nat.mul_add,x0P,e2,<- x1y,<- x0P,<- x0C,e1]
 have hq : N * S / y'=A / y' * K + (A % y' * K + un0) / y':=by
  rw [<- tot,Nat.mul_add_div hyp,Nat.div_eq_of_lt l2,x0W]
 have hr : N * S % y'=(A % y' * K + un0) % y':=by
  rw [<- tot,Nat.mul_add_mod,Nat.mod_eq_of_lt l2]
 rw [hy',Nat.mul_div_mul_right _ _ hs] at hq
 rw [hy',Nat.mul_mod_mul_right] at hr
 rw [hy'] at *
 exact ⟨hq.symm,by rw [<- hr,Nat.mul_div_cancel _ hs]⟩
end Go.Gv

namespace Go.Gv
section
variable {C : CC}
theorem ji {f : Nat -> D} {dst : Option Nat} {K K' : KT} {o : NOp} (h : aD C f dst K o) (hk : ∀ ws ks,K ws ks -> K' ws ks) : aD C f dst K' o:=by
 obtain ⟨ws,ks,h1,h2⟩:=nG h
 exact h2 K' (hk ws ks h1)
theorem gY {e : Env} {dst : Option Nat} {K K' : Env -> Prop} (h : gF e dst K) (hk : ∀ e,K e -> K' e) : gF e dst K':=by
 unfold gF at h ⊢
 split at h
 ·exact hk _ h
 ·exact hk _ h
theorem gK {K K' : Env -> Prop} (hk : ∀ e,K e -> K' e) : ∀ (ns : List am) (e : Env),ik C K ns e -> ik C K' ns e
 | [],e,h=>hk e h
 | o::os,e,h=>by
  rw [ik] at h ⊢
  split at h
  ·exact ji h (fun ws ks h1=>gK hk os _ h1)
  ·split at h
   ·exact ⟨fun hb=>ji (h.1 hb) (fun ws ks h1=>gK hk os _ h1),fun hb=>gY (h.2 hb) (fun e h1=>gK hk os e h1)⟩
   ·exact gY h (fun e h1=>gK hk os e h1)
   ·exact h.elim
theorem gJ {hs : List Nat} {K K' : Env -> Prop} (hk : ∀ e,K e -> K' e) : ∀ (ns : List am) (e : Env) (acc : List (List Nat × List Nat)),jw C hs K ns e acc -> jw C hs K' ns e acc
 | [],e,acc,h=>⟨h.1,hk e h.2⟩
 | o::os,e,acc,h=>by
  rw [jw] at h ⊢
  refine ⟨h.1,?_⟩
  have h:=h.2
  split at h
  ·exact ji h (fun ws ks h1=>⟨h1.1,gJ hk os _ _ h1.2⟩)
  ·split at h
   ·exact ⟨fun hb=>ji (h.1 hb) (fun ws ks h1=>⟨h1.1,gJ hk os _ _ h1.2⟩),fun hb=>gY (h.2 hb) (fun e h1=>gJ hk os e _ h1)⟩
   ·exact gY h (fun e h1=>gJ hk os e _ h1)
   ·exact h.elim
theorem dK : ∀ (c : dt) (Q Q' : cc -> Env -> Prop) (e : Env),(∀ t e,Q t e -> Q' t e) -> wpN C c Q e -> wpN C c Q' e
 | .skip,Q,Q',e,hq,h=>hq _ _ h
 | .reg dr hs keep ops,Q,Q',e,hq,h=>by
  cases dr with
  | false=>exact gK (fun e h=>hq _ _ h) ops e h
  | true=>exact gJ (fun e h=>hq _ _ h) ops e [] h
 | .seq x y,Q,Q',e,hq,h=>dK x _ _ e (fun t e h=>by
   cases t with
   | nrm=>exact dK y Q Q' e hq h
   | ext i=>exact hq _ _ h
   | ret=>exact hq _ _ h) h
 | .cond c x y,Q,Q',e,hq,h=>by
  rw [wpN] at h ⊢
  split at h
  ·exact ⟨fun hb=>dK x Q Q' e hq (h.1 hb),fun hb=>dK y Q Q' e hq (h.2 hb)⟩
  ·exact ⟨dK x Q Q' e hq h.1,dK y Q Q' e hq h.2⟩
  ·exact h.elim
 | .block id c,Q,Q',e,hq,h=>dK c _ _ e (fun t e h=>by
   cases t with
   | nrm=>exact hq _ _ h
   | ext i =>
    simp only at h ⊢
    split
    ·rename_i hi;rw [if_pos hi] at h;exact hq _ _ h
    ·rename_i hi;rw [if_neg hi] at h;exact hq _ _ h
   | ret=>exact hq _ _ h) h
 | .loop c,Q,Q',e,hq,h=>by
  obtain ⟨S,G,I,m,s0,h1,h2,h3⟩:=h
  refine ⟨S,G,I,m,s0,h1,h2,fun s hs=>dK c _ _ _ (fun t e h=>?_) (h3 s hs)⟩
  cases t with
  | nrm=>exact h
  | ext i=>exact hq _ _ h
  | ret=>exact hq _ _ h
 | .exit id,Q,Q',e,hq,h=>hq _ _ h
 | .ret,Q,Q',e,hq,h=>hq _ _ h
def vb (id : Nat) (S : Type) (G : S -> Env) (J : S -> Prop) (Q : cc -> Env -> Prop) : cc -> Env -> Prop:=fun t e=>match t with
 | .ext i=>if i=id then ∃ s,J s /\ j8 e (G s) else Q (.ext i) e
 | t=>Q t e
variable {Q : cc -> Env -> Prop} {e : Env}
@[simp] theorem y5 {id S G J u} : bu (vb id S G J Q) u .nrm e=bu Q ⟨⟩ .nrm e:=zR
@[simp] theorem y6 {id S G J u} : bu (vb id S G J Q) u .ret e=bu Q ⟨⟩ .ret e:=zR
@[simp] theorem y4 {id S G J u i} : bu (vb id S G J Q) u (.ext i) e=if i=id then ∃ s,J s /\ j8 e (G s) else bu Q ⟨⟩ (.ext i) e:=zR
theorem qB {c : dt} {u : Tag (c,Q)} (id : Nat) (S : Type) (G : S -> Env) (J : S -> Prop) (h : tz C c (vb id S G J Q) ⟨⟩ e) (hr : ∀ s e,J s -> j8 e (G s) -> bu Q ⟨⟩ (.ext id) e) : tz C c Q u e :=
 dK (.loop c) (vb id S G J Q) Q e (fun t e g=>by
  cases t with
  | nrm=>exact g
  | ret=>exact g
  | ext i =>
   simp only [vb] at g
   by_cases hi : i=id
   ·rw [if_pos hi] at g
    obtain ⟨s,h1,h2⟩:=g
    rw [hi]
    exact hr s e h1 h2
   ·rw [if_neg hi] at g
    exact g) h
def Dg (S : Type) (G : S -> Env) (J : S -> Prop) (Q : cc -> Env -> Prop) : cc -> Env -> Prop:=fun t e=>match t with
 | .nrm=>∃ s,J s /\ j8 e (G s)
 | t=>Q t e
@[simp] theorem yY {S G J u} : bu (Dg S G J Q) u .nrm e=∃ s,J s /\ j8 e (G s):=zR
@[simp] theorem yZ {S G J u} : bu (Dg S G J Q) u .ret e=bu Q ⟨⟩ .ret e:=zR
@[simp] theorem yX {S G J u i} : bu (Dg S G J Q) u (.ext i) e=bu Q ⟨⟩ (.ext i) e:=zR
end
@[simp] theorem KJ {C : CC} {hs : Option (List Nat)} {K : Env -> Prop} {ns : List am} {dst : Option Nat} {u : Tag (hs,K,ns)} {e : Env} {R : List Nat} {acc : List (List Nat × List Nat)} {α : Type} [Inhabited α] {n : Nat} {ag : Bool} {p : Pa} {xs : List α} {f : α -> List D} {i off : Nat} :
  lL C hs K ns dst u e R acc n ag p (xs.map f) i off=(i < xs.length /\ off + n <= (f xs[i]!).length /\ match ag with
    | true=>((((f xs[i]!).drop off).take n).all isV=true -> dW C hs K ns dst ⟨⟩ e R acc (.agg (((f xs[i]!).drop off).take n))) /\
      ((((f xs[i]!).drop off).take n).all isV=false -> dW C hs K ns dst ⟨⟩ e R acc (.agx ((((f xs[i]!).drop off).take n).mapIdx fun j c=>ldc p i (off + j) c)))
    | false=>dW C hs K ns dst ⟨⟩ e R acc (ldc p i off (((f xs[i]!).drop off).headD .any))):=by
 apply propext
 constructor
 ·rintro ⟨r,h,h1,h2⟩
  rw [x0A,x0n] at h
  obtain ⟨x,hx,rfl⟩:=h
  obtain ⟨hi,rfl⟩:=x0b.1 hx
  rw [x0g xs i hi]
  refine ⟨hi,h1,?_⟩
  cases ag <;> exact h2
 ·rintro ⟨hi,h1,h2⟩
  rw [x0g xs i hi] at h1 h2
  refine tO (r:=f xs[i]) (by rw [x0A,x0e hi];rfl) h1 ?_
  cases ag <;> exact h2
@[simp] theorem Gh {b all ks n} : aP ((b,all)::ks) (.ptx n)=if n.any (aI b all) then .any else aP ks (.ptx n):=by
 have h : aP ((b,all)::ks) (.ptx n)=bif (n.any (aI b all) || aG ks (.ptx n)) then .any else .ptx n:=b6 ..
 rw [h,b6]
 cases n.any (aI b all) <;> rfl
@[simp] theorem Gj {b all ks k sz n} : aP ((b,all)::ks) (.rfx k sz n)=if n.any (aI b all) then .any else aP ks (.rfx k sz n):=by
 have h : aP ((b,all)::ks) (.rfx k sz n)=bif (n.any (aI b all) || aG ks (.rfx k sz n)) then .any else .rfx k sz n:=b6 ..
 rw [h,b6]
 cases n.any (aI b all) <;> rfl
@[simp] theorem Gm {b all ks n} : aP ((b,all)::ks) (.tpx n)=if n.any (aI b all) then .any else aP ks (.tpx n):=by
 have h : aP ((b,all)::ks) (.tpx n)=bif (n.any (aI b all) || aG ks (.tpx n)) then .any else .tpx n:=b6 ..
 rw [h,b6]
 cases n.any (aI b all) <;> rfl
@[simp] theorem Gz {b all n es} : aI b all (slx n es)=false:=by cases n <;> cases es <;> rfl
@[simp] theorem Gy {b all p k n} : aI b all (.ref p k n)=bR b all p:=zR
@[simp] theorem Gt {b all p k n} : aI b all (.adr p k n)=bR b all p:=zR
@[simp] theorem Gw {b all c} : aI b all (.mrf c)=(all && c == b):=zR
@[simp] theorem Gu {b all k n} : aI b all (.int k n)=false:=zR
@[simp] theorem Dd {b all n} : aI b all (.bool n)=false:=zR
@[simp] theorem GA {b all n} : aI b all (.str n)=false:=zR
@[simp] theorem Df {b all} : aI b all .nils=false:=zR
@[simp] theorem De {b all} : aI b all .nilp=false:=zR
@[simp] theorem J7 {b all n} : aI b all (.sl n)=false:=zR
@[simp] theorem Gx {b all n} : aI b all (.ptr n)=false:=zR
@[simp] theorem J6 {b all g n} : aI b all (.fn g n)=false:=zR
@[simp] theorem Ge {b all ks c} : aP ((b,all)::ks) (.mrf c)=if (all && c == b) then .any else aP ks (.mrf c):=by
 have h : aP ((b,all)::ks) (.mrf c)=bif ((all && c == b) || aG ks (.mrf c)) then .any else .mrf c:=b6 ..
 rw [h,b6]
 cases all && c == b <;> rfl
end Go.Gv

namespace Go.Gv
theorem o8 (a b : Nat) : Int.tdiv (a : Int) (b : Int)=((a / b : Nat) : Int):=by
 rw [Int.tdiv_eq_ediv_of_nonneg (by omega)];norm_cast
theorem Cd (a b : Nat) : Int.tmod (a : Int) (b : Int)=((a % b : Nat) : Int):=by
 rw [Int.tmod_eq_emod_of_nonneg (by omega)];norm_cast
theorem fH (a : Int) : IntKind.u64.wrap a=a % 18446744073709551616:=by
 have e1 : IntKind.u64.signed=false:=rfl
 have e3 : (2 ^ IntKind.u64.bits : Int)=18446744073709551616:=rfl
 unfold IntKind.wrap
 simp only [e1,e3,Bool.false_and]
 simp
theorem orN (a b i : Nat) (hb : b < 2 ^ i) (h : a * 2 ^ i + b < 18446744073709551616) : bits .or .u64 ((a * 2 ^ i : Nat) : Int) (b : Int)=((a * 2 ^ i + b : Nat) : Int):=by
 rw [bits_or_u64_nat _ _ (by omega) (by omega),x0T a,Nat.two_pow_add_eq_or_of_lt hb]
theorem u3 (a m b s : Nat) : (a * m + b) * s=a * s * m + b * s:=by rw [x0C,Nat.mul_right_comm]
theorem KX {H B W U d1 d0 : Nat} (hU : U=H + B) (h1 : d1=W / 4294967296) (h0 : d0=W % 4294967296) : H * 18446744073709551616 + (B * 18446744073709551616 + W)=(U * 4294967296 + d1) * 4294967296 + d0:=by omega
theorem DG {y s : Nat} (h0 : y ≠ 0) (hy : y < 18446744073709551616) (hs : s=64 - bitLen y) : s <= 63 /\ 9223372036854775808 <= y * 2 ^ s /\ y * 2 ^ s < 18446744073709551616:=by
 obtain ⟨h1,h2⟩:=bitLen_spec y
 have h3:=h2 h0
 have hb : bitLen y <= 64:=by
  unfold bitLen
  rw [if_neg h0]
  have:=(Nat.log2_lt h0).2 (show y < 2 ^ 64 by omega)
  omega
 have hb1 : 1 <= bitLen y:=by unfold bitLen;rw [if_neg h0];omega
 have e : bitLen y + s=64:=by omega
 refine ⟨by omega,?_,?_⟩
 ·have:=x0s (2 ^ s) h3
  rw [<- Nat.pow_add,show bitLen y - 1 + s=63 by omega] at this
  omega
 ·have:=Nat.mul_lt_mul_of_pos_right h1 (x1H s)
  rw [<- Nat.pow_add,e] at this
  omega
variable {C : CC} (hC : al prog C)
include hC
theorem s9 (hi lo y : Nat) (h : hi < y) (hy : y < 18446744073709551616) (hl : lo < 18446744073709551616) :
  C 92 [.int .u64 hi,.int .u64 lo,.int .u64 y] (.tup [.int .u64 (((hi * 18446744073709551616 + lo) / y : Nat) : Int),.int .u64 (((hi * 18446744073709551616 + lo) % y : Nat) : Int)]) []:=by
 refine aj hC (nf:=N92) rfl rfl ?_
 have h1 : ¬ y=0:=by omega
 have h2 : ¬ y <= hi:=by omega
 generalize hres : D.tup [D.int .u64 (((hi * 18446744073709551616 + lo) / y : Nat) : Int),.int .u64 (((hi * 18446744073709551616 + lo) % y : Nat) : Int)]=res
 simp [N92]
 refine ac (fun h=>?_) (fun _=>?_)
 ·simp at h;omega
 simp
 refine ac (fun h=>?_) (fun _=>?_)
 ·simp at h;omega
 simp
 refine ac (fun h=>?_) (fun h3=>?_)
 ·simp at h
  have : hi=0:=by omega
  subst this
  have hq : lo / y < 18446744073709551616:=by have:=Nat.div_le_self lo y;omega
  obtain ⟨q,hq'⟩ : ∃ q,q=lo / y:=⟨_,rfl⟩
  obtain ⟨r,hr'⟩ : ∃ r,r=lo % y:=⟨_,rfl⟩
  have e1 : Int.tdiv (lo : Int) (y : Int)=(q : Int):=by rw [o8,hq']
  have e2 : Int.tmod (lo : Int) (y : Int)=(r : Int):=by rw [Cd,hr']
  simp [h1,e1,e2,bX q (by omega)]
  refine ⟨ar (by decide +kernel),?_⟩
  rw [<- hres,hq',hr',x1s,x05]
 simp
 refine aa (lg hC y hy) (.inl rfl) ?_
 generalize hs : 64 - bitLen y=s
 obtain ⟨s1,s2,s3⟩:=DG h1 hy hs.symm
 have w1 : IntKind.u64.wrap (s : Int)=(s : Int):=bX _ (by omega)
 have w2 : IntKind.u64.wrap (64 - (s : Int))=((64 - s : Nat) : Int):=by rw [fH];omega
 have m1 : min s IntKind.u64.bits=s:=by show min s 64=s;omega
 have m2 : min (64 - s) IntKind.u64.bits=64 - s:=by show min (64 - s) 64=64 - s;omega
 obtain ⟨Y,hY⟩ : ∃ Y,Y=y * 2 ^ s:=⟨_,rfl⟩
 obtain ⟨H,hH⟩ : ∃ H,H=hi * 2 ^ s:=⟨_,rfl⟩
 obtain ⟨W,hW⟩ : ∃ W,W=lo * 2 ^ s % 18446744073709551616:=⟨_,rfl⟩
 obtain ⟨B,hB⟩ : ∃ B,B=lo / 2 ^ (64 - s):=⟨_,rfl⟩
 rw [<- hY] at s2 s3
 have hHY : H + 2 ^ s <= Y:=by
  have:=x0s (2 ^ s) h
  rw [hH,hY]
  rw [x04] at this
  exact this
 have hBs : B < 2 ^ s:=by
  rw [hB,x1q (x1H _),<- Nat.pow_add,show s + (64 - s)=64 by omega]
  exact hl
 obtain ⟨U,hU⟩ : ∃ U,U=H + B:=⟨_,rfl⟩
 have hUY : U < Y:=by omega
 have eY : IntKind.u64.wrap ((y : Int) * 2 ^ s)=(Y : Int):=by
  rw [show (y : Int) * 2 ^ s=(Y : Int) by rw [hY];norm_cast];exact bX _ s3
 have eH : IntKind.u64.wrap ((hi : Int) * 2 ^ s)=(H : Int):=by
  rw [show (hi : Int) * 2 ^ s=(H : Int) by rw [hH];norm_cast];exact bX _ (by omega)
 have eW : IntKind.u64.wrap ((lo : Int) * 2 ^ s)=(W : Int):=by
  rw [show (lo : Int) * 2 ^ s=((lo * 2 ^ s : Nat) : Int) by norm_cast,yb,hW]
 have eB : Int.fdiv (lo : Int) (2 ^ (64 - s))=(B : Int):=by rw [nO,hB]
 have eU : bits .or .u64 (H : Int) (B : Int)=(U : Int):=by
  rw [hU,hH];exact orN hi B s hBs (by omega)
 obtain ⟨Y1,hY1⟩ : ∃ Y1,Y1=Y / 4294967296:=⟨_,rfl⟩
 obtain ⟨Y0,hY0⟩ : ∃ Y0,Y0=Y % 4294967296:=⟨_,rfl⟩
 obtain ⟨d1,hd1⟩ : ∃ d1,d1=W / 4294967296:=⟨_,rfl⟩
 obtain ⟨d0,hd0⟩ : ∃ d0,d0=W % 4294967296:=⟨_,rfl⟩
 have eY1 : Int.fdiv (Y : Int) (2 ^ min 32 IntKind.u64.bits)=(Y1 : Int):=by rw [tR,hY1]
 have eY0 : bits .and .u64 (Y : Int) 4294967295=(Y0 : Int):=by rw [qF _ s3,hY0]
 have hW64 : W < 18446744073709551616:=by rw [hW];exact x1x _ (by omega)
 have ed1 : Int.fdiv (W : Int) (2 ^ min 32 IntKind.u64.bits)=(d1 : Int):=by rw [tR,hd1]
 have ed0 : bits .and .u64 (W : Int) 4294967295=(d0 : Int):=by rw [qF _ hW64,hd0]
 have hY1a : 2147483648 <= Y1:=by omega
 have hY1b : Y1 < 4294967296:=by omega
 have hY0b : Y0 < 4294967296:=by omega
 have hd1b : d1 < 4294967296:=by omega
 have hd0b : d0 < 4294967296:=by omega
 have hYs : Y1 * 4294967296 + Y0=Y:=by omega
 have nz : ¬ Y1=0:=by omega
 have inv1:=DvI.first hY1a hY1b hY0b (u:=U) (d:=d1) (by omega) hd1b
 obtain ⟨q,hq⟩ : ∃ q,q=U / Y1:=⟨_,rfl⟩
 obtain ⟨r,hr⟩ : ∃ r,r=U % Y1:=⟨_,rfl⟩
 rw [<- hq,<- hr] at inv1
 have eq1 : Int.tdiv (U : Int) (Y1 : Int)=(q : Int):=by rw [o8,hq]
 have eq2 : IntKind.u64.wrap (q : Int)=(q : Int):=bX _ (by have:=inv1.qle;omega)
 have sub1 : ∀ (u a q r : Nat),q * a + r=u -> u < 18446744073709551616 -> IntKind.u64.wrap ((u : Int) - IntKind.u64.wrap ((q : Int) * (a : Int)))=(r : Int):=fun u a q r e hu=>by
  rw [sC,fH,fH]
  generalize q * a=z at *
  omega
 have er : IntKind.u64.wrap ((U : Int) - IntKind.u64.wrap ((q : Int) * (Y1 : Int)))=(r : Int):=sub1 _ _ _ _ inv1.sum (by omega)
 simp [w1,w2,m1,m2,eY,eH,eW,eB,eU,eY1,eY0,ed1,ed0,eq1,eq2,er,nz]
 have bm : ∀ {u d q r : Nat},DvI u d Y1 Y0 q r -> IntKind.u64.wrap ((q : Int) * (Y0 : Int))=((q * Y0 : Nat) : Int):=fun i=>by rw [sC];exact bX _ (i.bnd hY0b)
 have bp : ∀ {u d q r : Nat},d < 4294967296 -> DvI u d Y1 Y0 q r -> IntKind.u64.wrap (IntKind.u64.wrap (4294967296 * (r : Int)) + (d : Int))=((4294967296 * r + d : Nat) : Int):=fun {u d q r} hd i=>by
  have:=i.rlt
  rw [show (4294967296 : Int) * (r : Int)=((4294967296 * r : Nat) : Int) by omega,bX (4294967296 * r) (by omega),Hi]
  exact bX _ (by omega)
 obtain ⟨Q1,hQ1⟩ : ∃ Q1,Q1=(U * 4294967296 + d1) / (Y1 * 4294967296 + Y0):=⟨_,rfl⟩
 refine qB 0 Nat (fun x=>[(2,.int .u64 Y),(8,.int .u64 s),(9,.int .u64 Y1),(10,.int .u64 Y0),(11,.int .u64 U),(13,.int .u64 d1),(14,.int .u64 d0),(15,.int .u64 x)]) (fun x=>x=Q1) ?_ ?_
 ·refine az (Nat × Nat) (fun x=>[(2,.int .u64 Y),(8,.int .u64 s),(9,.int .u64 Y1),(10,.int .u64 Y0),(11,.int .u64 U),(13,.int .u64 d1),(14,.int .u64 d0),(15,.int .u64 x.1),(16,.int .u64 x.2)]) (fun x=>DvI U d1 Y1 Y0 x.1 x.2) (fun x=>4294967296 - x.2) (q,r) inv1 (by simp) ?_
  rintro ⟨a,c⟩ inv
  simp only at inv
  have b1:=bm inv
  have b2:=bp hd1b inv
  have b3:=inv.rlt
  have b4:=inv.qle
  have fin : (4294967296 <= a \/ 4294967296 * c + d1 < a * Y0) -> ∃ a' c' : Nat,IntKind.u64.wrap ((a : Int) - 1)=(a' : Int) /\ IntKind.u64.wrap ((c : Int) + (Y1 : Int))=(c' : Int) /\ c'=c + Y1 /\ (4294967296 <= c' -> a'=Q1) /\ (c' < 4294967296 -> DvI U d1 Y1 Y0 a' c'):=fun hc=>by
   obtain ⟨n1,n2,n3,n4⟩:=inv.next (by omega) (by rw [hYs];exact hUY) hd1b hc
   refine ⟨a - 1,c + Y1,by rw [fH];omega,by rw [fH];omega,rfl,fun hc=>(Dv.stop n2 n3 n4 (by omega) hY0b hc).trans hQ1.symm,fun hc=>⟨n2,n3,hc,by omega⟩⟩
  simp
  refine ac (fun c1=>?_) (fun c1=>?_) <;> simp [c1] <;> simp at c1
  ·obtain ⟨a',c',k1,k2,k3,k4,k5⟩:=fin (.inl (by omega))
   simp [k1,k2]
   refine ac (fun c2=>?_) (fun c2=>?_) <;> simp [c2,k1,k2] <;> simp at c2
   ·rw [k4 (by omega)]
   ·exact ⟨_,_,k5 (by omega),by omega,rfl,rfl⟩
  ·simp [b1,b2]
   refine ac (fun c3=>?_) (fun c3=>?_) <;> simp [c3] <;> simp at c3
   ·obtain ⟨a',c',k1,k2,k3,k4,k5⟩:=fin (.inr (by omega))
    simp [k1,k2]
    refine ac (fun c2=>?_) (fun c2=>?_) <;> simp [c2,k1,k2] <;> simp at c2
    ·rw [k4 (by omega)]
    ·exact ⟨_,_,k5 (by omega),by omega,rfl,rfl⟩
   ·rw [(inv.done (by omega) (by omega)).trans hQ1.symm]
 intro q1 e hq1 hw
 subst hq1
 simp at hw
 obtain ⟨g2,g8,g9,g10,g11,g13,g14,g15⟩:=hw
 obtain ⟨V,hV⟩ : ∃ V,V=(U * 4294967296 + d1) % (Y1 * 4294967296 + Y0):=⟨_,rfl⟩
 have hVY : V < Y:=by rw [hV,hYs];exact x1x _ (by omega)
 have sum1 : q1 * Y + V=U * 4294967296 + d1:=by rw [hQ1,hV,hYs,x0T];exact x09 _ _
 have eV : IntKind.u64.wrap (IntKind.u64.wrap (IntKind.u64.wrap ((U : Int) * 4294967296) + (d1 : Int)) - IntKind.u64.wrap ((q1 : Int) * (Y : Int)))=(V : Int):=by
  rw [sC q1 Y]
  simp only [fH]
  generalize q1 * Y=z at *
  omega
 have inv2:=DvI.first hY1a hY1b hY0b (u:=V) (d:=d0) (by omega) hd0b
 obtain ⟨q2,hq2⟩ : ∃ q,q=V / Y1:=⟨_,rfl⟩
 obtain ⟨r2,hr2⟩ : ∃ r,r=V % Y1:=⟨_,rfl⟩
 rw [<- hq2,<- hr2] at inv2
 have eq3 : Int.tdiv (V : Int) (Y1 : Int)=(q2 : Int):=by rw [o8,hq2]
 have eq4 : IntKind.u64.wrap (q2 : Int)=(q2 : Int):=bX _ (by have:=inv2.qle;omega)
 have er2 : IntKind.u64.wrap ((V : Int) - IntKind.u64.wrap ((q2 : Int) * (Y1 : Int)))=(r2 : Int):=sub1 _ _ _ _ inv2.sum (by omega)
 simp [g2,g8,g9,g10,g11,g13,g14,g15,eV,eq3,eq4,er2,nz]
 obtain ⟨Q0,hQ0⟩ : ∃ Q0,Q0=(V * 4294967296 + d0) / (Y1 * 4294967296 + Y0):=⟨_,rfl⟩
 refine qB 2 Nat (fun x=>[(2,.int .u64 Y),(8,.int .u64 s),(14,.int .u64 d0),(15,.int .u64 q1),(17,.int .u64 V),(18,.int .u64 x)]) (fun x=>x=Q0) ?_ ?_
 ·refine az (Nat × Nat) (fun x=>[(2,.int .u64 Y),(8,.int .u64 s),(9,.int .u64 Y1),(10,.int .u64 Y0),(14,.int .u64 d0),(15,.int .u64 q1),(16,.int .u64 x.2),(17,.int .u64 V),(18,.int .u64 x.1)]) (fun x=>DvI V d0 Y1 Y0 x.1 x.2) (fun x=>4294967296 - x.2) (q2,r2) inv2 (by simp) ?_
  rintro ⟨a,c⟩ inv
  simp only at inv
  have b1:=bm inv
  have b2:=bp hd0b inv
  have b3:=inv.rlt
  have b4:=inv.qle
  have fin : (4294967296 <= a \/ 4294967296 * c + d0 < a * Y0) -> ∃ a' c' : Nat,IntKind.u64.wrap ((a : Int) - 1)=(a' : Int) /\ IntKind.u64.wrap ((c : Int) + (Y1 : Int))=(c' : Int) /\ c'=c + Y1 /\ (4294967296 <= c' -> a'=Q0) /\ (c' < 4294967296 -> DvI V d0 Y1 Y0 a' c'):=fun hc=>by
   obtain ⟨n1,n2,n3,n4⟩:=inv.next (by omega) (by rw [hYs];exact hVY) hd0b hc
   refine ⟨a - 1,c + Y1,by rw [fH];omega,by rw [fH];omega,rfl,fun hc=>(Dv.stop n2 n3 n4 (by omega) hY0b hc).trans hQ0.symm,fun hc=>⟨n2,n3,hc,by omega⟩⟩
  simp
  refine ac (fun c1=>?_) (fun c1=>?_) <;> simp [c1] <;> simp at c1
  ·obtain ⟨a',c',k1,k2,k3,k4,k5⟩:=fin (.inl (by omega))
   simp [k1,k2]
   refine ac (fun c2=>?_) (fun c2=>?_) <;> simp [c2,k1,k2] <;> simp at c2
   ·rw [k4 (by omega)]
   ·exact ⟨_,_,k5 (by omega),by omega,rfl,rfl⟩
  ·simp [b1,b2]
   refine ac (fun c3=>?_) (fun c3=>?_) <;> simp [c3] <;> simp at c3
   ·obtain ⟨a',c',k1,k2,k3,k4,k5⟩:=fin (.inr (by omega))
    simp [k1,k2]
    refine ac (fun c2=>?_) (fun c2=>?_) <;> simp [c2,k1,k2] <;> simp at c2
    ·rw [k4 (by omega)]
    ·exact ⟨_,_,k5 (by omega),by omega,rfl,rfl⟩
   ·rw [(inv.done (by omega) (by omega)).trans hQ0.symm]
 intro q0 e hq0 hw
 subst hq0
 simp at hw
 obtain ⟨g2,g8,g14,g15,g17,g18⟩:=hw
 have l1 : q1 < 4294967296:=by rw [hQ1];exact Dv.lt (by omega) (by omega) hd1b
 have l0 : q0 < 4294967296:=by rw [hQ0];exact Dv.lt (by omega) (by omega) hd0b
 obtain ⟨R,hR⟩ : ∃ R,R=(V * 4294967296 + d0) % (Y1 * 4294967296 + Y0):=⟨_,rfl⟩
 have hRY : R < Y:=by rw [hR,hYs];exact x1x _ (by omega)
 have sum0 : q0 * Y + R=V * 4294967296 + d0:=by rw [hQ0,hR,hYs,x0T];exact x09 _ _
 have eR : IntKind.u64.wrap (IntKind.u64.wrap (IntKind.u64.wrap ((V : Int) * 4294967296) + (d0 : Int)) - IntKind.u64.wrap ((q0 : Int) * (Y : Int)))=(R : Int):=by
  rw [sC q0 Y]
  simp only [fH]
  generalize q0 * Y=z at *
  omega
 obtain ⟨Z,hZ⟩ : ∃ Z,Z=R / 2 ^ s:=⟨_,rfl⟩
 have eZ : Int.fdiv (R : Int) (2 ^ s)=(Z : Int):=by rw [nO,hZ]
 have eQ : IntKind.u64.wrap (IntKind.u64.wrap ((q1 : Int) * 4294967296) + (q0 : Int))=((q1 * 4294967296 + q0 : Nat) : Int):=by
  simp only [fH]
  omega
 obtain ⟨T,hT⟩ : ∃ T,T=q1 * 4294967296 + q0:=⟨_,rfl⟩
 rw [<- hT] at eQ
 simp [g2,g8,g14,g15,g17,g18,w1,m1,eR,eZ,eQ]
 have hW2 : lo * 2 ^ s=B * 18446744073709551616 + W:=by
  have e1 : lo * 2 ^ s / 18446744073709551616=B:=by
   rw [hB,show (18446744073709551616 : Nat)=2 ^ (64 - s) * 2 ^ s by rw [<- Nat.pow_add,show 64 - s + s=64 by omega],Nat.mul_div_mul_right _ _ (x1H s)]
  have e2:=x09 (lo * 2 ^ s) 18446744073709551616
  omega
 have tot : (hi * 18446744073709551616 + lo) * 2 ^ s=(U * 4294967296 + d1) * 4294967296 + d0:=by
  rw [u3,hW2,<- hH]
  exact KX hU hd1 hd0
 obtain ⟨f1,f2⟩:=CM (N:=hi * 18446744073709551616 + lo) (y:=y) (S:=2 ^ s) (A:=U * 4294967296 + d1) (K:=4294967296) (un0:=d0) (y':=Y1 * 4294967296 + Y0) (by omega) (x1H s) (by rw [hYs,hY]) tot
 rw [<- hV,<- hQ1,<- hQ0,<- hT] at f1
 rw [<- hV,<- hR,<- hZ] at f2
 rw [<- hres,f1,f2]
end Go.Gv

namespace Go.Gv
def cj (n : Nat) : D:=.agg [.int .u64 ((n / 18446744073709551616 : Nat) : Int),.int .u64 ((n % 18446744073709551616 : Nat) : Int)]
def ia (x : Nat) : Nat -> Nat -> Nat
 | 0,r=>r
 | i + 1,r=>ia x i (if (r + 2 ^ i) * (r + 2 ^ i) <= x then r + 2 ^ i else r)
def eP (x : Nat) : Nat:=ia x 63 0
theorem tE {x k : Nat} : x * k=(x / 18446744073709551616 * k + x % 18446744073709551616 * k / 18446744073709551616) * 18446744073709551616 + x % 18446744073709551616 * k % 18446744073709551616:=by
 have e1:=x09 x 18446744073709551616
 have e2:=x09 (x % 18446744073709551616 * k) 18446744073709551616
 have e3 : x * k=(18446744073709551616 * (x / 18446744073709551616) + x % 18446744073709551616) * k:=by rw [e1]
 rw [x0C,x1y] at e3
 generalize x / 18446744073709551616 * k=A at *
 generalize x % 18446744073709551616 * k=B at *
 omega
theorem yR {x n : Nat} (hn : 0 < n) : x / n=(x / 18446744073709551616 / n) * 18446744073709551616 + (x / 18446744073709551616 % n * 18446744073709551616 + x % 18446744073709551616) / n /\ (x / 18446744073709551616 % n * 18446744073709551616 + x % 18446744073709551616) / n < 18446744073709551616:=by
 obtain ⟨H,hH⟩ : ∃ H,H=x / 18446744073709551616:=⟨_,rfl⟩
 obtain ⟨L,hL⟩ : ∃ L,L=x % 18446744073709551616:=⟨_,rfl⟩
 rw [<- hH,<- hL]
 have hx : x=H * 18446744073709551616 + L:=by omega
 have hl : L < 18446744073709551616:=by omega
 have e1:=x09 H n
 have l1:=x1x H hn
 generalize H / n=a at *
 generalize H % n=b at *
 constructor
 ·rw [hx,<- e1,show (n * a + b) * 18446744073709551616 + L=n * (a * 18446744073709551616) + (b * 18446744073709551616 + L) by rw [x0C,x1y,x0P],Nat.mul_add_div hn]
 ·rw [x1q hn]
  have : (b + 1) * 18446744073709551616 <= n * 18446744073709551616:=x0s _ l1
  rw [x0T n] at this
  omega
theorem nH (x i r : Nat) : ia x (i + 1) r=ia x i (if (r + 2 ^ i) * (r + 2 ^ i) <= x then r + 2 ^ i else r):=rfl
variable {C : CC} (hC : al prog C)
include hC
theorem oX (a b : Nat) (ha : a < 9223372036854775808) (hb : b < 9223372036854775808) : C 74 [.int .i64 a,.int .i64 b] (cj (a * b)) []:=by
 refine aj hC (nf:=N74) rfl rfl ?_
 simp [N74,bX a (by omega),bX b (by omega)]
 refine aa (gM hC a b (by omega) (by omega)) (.inl rfl) ?_
 obtain ⟨h,hh⟩ : ∃ h,h=a * b / 18446744073709551616:=⟨_,rfl⟩
 obtain ⟨l,hl⟩ : ∃ l,l=a * b % 18446744073709551616:=⟨_,rfl⟩
 rw [<- hh,<- hl,cj,<- hh,<- hl]
 simp
theorem ub (x k : Nat) (hk : k < 9223372036854775808) (hx : x < 340282366920938463463374607431768211456) (hxk : x * k < 340282366920938463463374607431768211456) : C 75 [cj x,.int .i64 k] (cj (x * k)) []:=by
 have e:=tE (x:=x) (k:=k)
 obtain ⟨h,hh⟩ : ∃ h,h=x / 18446744073709551616:=⟨_,rfl⟩
 obtain ⟨l,hl⟩ : ∃ l,l=x % 18446744073709551616:=⟨_,rfl⟩
 have hh' : h < 18446744073709551616:=by omega
 have hl' : l < 18446744073709551616:=by omega
 rw [<- hh,<- hl] at e
 obtain ⟨p,hp⟩ : ∃ p,p=l * k / 18446744073709551616:=⟨_,rfl⟩
 obtain ⟨q,hq⟩ : ∃ q,q=l * k % 18446744073709551616:=⟨_,rfl⟩
 rw [<- hp,<- hq] at e
 have hq' : q < 18446744073709551616:=by omega
 obtain ⟨z,hz⟩ : ∃ z,z=h * k:=⟨_,rfl⟩
 obtain ⟨y,hy⟩ : ∃ y,y=x * k:=⟨_,rfl⟩
 rw [<- hz,<- hy] at e
 rw [<- hy] at hxk
 obtain ⟨t,ht⟩ : ∃ t,t=z + p:=⟨_,rfl⟩
 rw [<- ht] at e
 have e1 : y / 18446744073709551616=t:=by omega
 have e2 : y % 18446744073709551616=q:=by omega
 have ht' : t < 18446744073709551616:=by omega
 have et : IntKind.u64.wrap ((p : Int) + IntKind.u64.wrap ((h : Int) * (k : Int)))=(t : Int):=by
  rw [sC h k,<- hz,fH,fH]
  clear hxk hx e e1 e2 hq hp hl hh hy hz
  omega
 have r1 : cj (x * k)=.agg [.int .u64 (t : Int),.int .u64 (q : Int)]:=by rw [cj,<- hy,e1,e2]
 have r2 : cj x=.agg [.int .u64 (h : Int),.int .u64 (l : Int)]:=by rw [cj,<- hh,<- hl]
 rw [r1,r2]
 clear r1 r2 e1 e2 e hh hl hx hxk
 refine aj hC (nf:=N75) rfl rfl ?_
 simp [N75,bX k (by omega)]
 refine aa (gM hC l k hl' (by omega)) (.inl rfl) ?_
 rw [<- hp,<- hq]
 simp [et,bX k (by omega)]
theorem xg (x n : Nat) (hn : 0 < n) (hn2 : n < 9223372036854775808) (hx : x < 340282366920938463463374607431768211456) : C 76 [cj x,.int .i64 n] (cj (x / n)) []:=by
 obtain ⟨e,e0⟩:=yR (x:=x) hn
 obtain ⟨h,hh⟩ : ∃ h,h=x / 18446744073709551616:=⟨_,rfl⟩
 obtain ⟨l,hl⟩ : ∃ l,l=x % 18446744073709551616:=⟨_,rfl⟩
 have hh' : h < 18446744073709551616:=by omega
 have hl' : l < 18446744073709551616:=by omega
 rw [<- hh,<- hl] at e e0
 obtain ⟨p,hp⟩ : ∃ p,p=h / n:=⟨_,rfl⟩
 obtain ⟨r,hr⟩ : ∃ r,r=h % n:=⟨_,rfl⟩
 rw [<- hp,<- hr] at e
 rw [<- hr] at e0
 obtain ⟨q,hq⟩ : ∃ q,q=(r * 18446744073709551616 + l) / n:=⟨_,rfl⟩
 rw [<- hq] at e e0
 have hrn : r < n:=by rw [hr];exact x1x _ hn
 have e1 : x / n / 18446744073709551616=p:=by omega
 have e2 : x / n % 18446744073709551616=q:=by omega
 have hpl : p < 18446744073709551616:=by rw [hp];have:=Nat.div_le_self h n;omega
 have ep : Int.tdiv (h : Int) (n : Int)=(p : Int):=by rw [o8,hp]
 have er : Int.tmod (h : Int) (n : Int)=(r : Int):=by rw [Cd,hr]
 have r1 : cj (x / n)=.agg [.int .u64 (p : Int),.int .u64 (q : Int)]:=by rw [cj,e1,e2]
 have r2 : cj x=.agg [.int .u64 (h : Int),.int .u64 (l : Int)]:=by rw [cj,<- hh,<- hl]
 rw [r1,r2]
 clear r1 r2 e1 e2 e hh hl hx
 refine aj hC (nf:=N76) rfl rfl ?_
 have hn0 : ¬ n=0:=by omega
 simp [N76,bX n (by omega),hn0,ep,er,bX p hpl]
 refine ⟨ar (by decide +kernel),?_⟩
 refine aa (s9 hC r l n hrn (by omega) hl') (.inl rfl) ?_
 rw [<- hq]
 simp
theorem xr (x : Nat) : C 77 [cj x] (.int .i64 (eP x)) []:=by
 obtain ⟨h,hh⟩ : ∃ h,h=x / 18446744073709551616:=⟨_,rfl⟩
 obtain ⟨l,hl⟩ : ∃ l,l=x % 18446744073709551616:=⟨_,rfl⟩
 have r2 : cj x=.agg [.int .u64 (h : Int),.int .u64 (l : Int)]:=by rw [cj,<- hh,<- hl]
 rw [r2]
 obtain ⟨N,hN⟩ : ∃ N,N=eP x:=⟨_,rfl⟩
 rw [<- hN]
 refine aj hC (nf:=N77) rfl rfl ?_
 simp [N77]
 refine az (Nat × Nat × Nat) (fun s=>[(1,.ptr [.int .u64 (h : Int),.int .u64 (l : Int)]),(3,.int .u64 s.2.1),(4,.int .u64 s.2.2)])
  (fun s=>s.1 <= 63 /\ (∃ a,s.2.1=a * 2 ^ s.1) /\ s.2.1 + 2 ^ s.1 <= 9223372036854775808 /\ s.2.2=(if s.1=0 then 0 else 2 ^ (s.1 - 1)) /\ ia x s.1 s.2.1=N) (fun s=>s.1) (63,0,4611686018427387904) ⟨by omega,⟨0,by simp⟩,by decide,by decide,by rw [hN];rfl⟩ (by simp) ?_
 rintro ⟨i,r,b⟩ ⟨h1,⟨a,h2⟩,h3,h4,h5⟩
 simp only at h1 h2 h3 h4 h5
 simp
 refine ac (fun c=>?_) (fun c=>?_) <;> simp [c] <;> simp at c
 ·obtain ⟨j,rfl⟩ : ∃ j,i=j + 1:=by
   cases i with
   | zero=>simp at h4;omega
   | succ j=>exact ⟨j,rfl⟩
  simp at h4
  have hb2 : 2 * b=2 ^ (j + 1):=by rw [h4,Nat.pow_succ];omega
  rw [<- hb2] at h3 h2
  have hor : bits .or .u64 (r : Int) (b : Int)=((r + b : Nat) : Int):=by
   rw [h2,show a * (2 * b)=a * 2 ^ (j + 1) by rw [hb2]]
   exact orN a b (j + 1) (by rw [<- hb2];omega) (by rw [<- hb2,<- h2];omega)
  obtain ⟨y,hy⟩ : ∃ y,y=r + b:=⟨_,rfl⟩
  rw [<- hy] at hor
  have hsh : Int.fdiv (b : Int) (2 ^ min 1 IntKind.u64.bits)=((b / 2 : Nat) : Int):=nO b 1
  obtain ⟨b',hb'⟩ : ∃ b',b'=b / 2:=⟨_,rfl⟩
  rw [<- hb'] at hsh
  simp [hor]
  refine aa (gM hC y y (by omega) (by omega)) (.inl rfl) ?_
  obtain ⟨p,hp⟩ : ∃ p,p=y * y / 18446744073709551616:=⟨_,rfl⟩
  obtain ⟨q,hq⟩ : ∃ q,q=y * y % 18446744073709551616:=⟨_,rfl⟩
  rw [<- hp,<- hq]
  have h6 : ia x j (if y * y <= x then y else r)=N:=by rw [<- h5,nH,hy,h4]
  have hb1 : b'=if j=0 then 0 else 2 ^ (j - 1):=by
   rw [hb',h4]
   cases j with
   | zero=>rfl
   | succ j=>simp [Nat.pow_succ]
  have yes : y * y <= x -> (j <= 63 /\ (∃ a,y=a * 2 ^ j) /\ y + 2 ^ j <= 9223372036854775808 /\ b'=(if j=0 then 0 else 2 ^ (j - 1)) /\ ia x j y=N):=fun hc=>by
   rw [if_pos hc] at h6
   refine ⟨by omega,⟨2 * a + 1,?_⟩,by omega,hb1,h6⟩
   rw [hy,h2,<- h4,x0C,x0T 2 a,x1y]
   omega
  have no : ¬ y * y <= x -> (j <= 63 /\ (∃ a,r=a * 2 ^ j) /\ r + 2 ^ j <= 9223372036854775808 /\ b'=(if j=0 then 0 else 2 ^ (j - 1)) /\ ia x j r=N):=fun hc=>by
   rw [if_neg hc] at h6
   refine ⟨by omega,⟨2 * a,?_⟩,by omega,hb1,h6⟩
   rw [h2,<- h4,x0T 2 a,x1y]
  simp
  generalize y * y=Z at *
  refine ac (fun c1=>?_) (fun c1=>?_) <;> simp [c1,hor,hsh] <;> simp at c1
  ·exact ⟨j,y,b',yes (by omega),by omega,rfl,rfl⟩
  ·refine ac (fun c2=>?_) (fun c2=>?_) <;> simp [c2,hor,hsh] <;> simp at c2
   ·refine ac (fun c3=>?_) (fun c3=>?_) <;> simp [c3,hor,hsh] <;> simp at c3
    ·exact ⟨j,y,b',yes (by omega),by omega,rfl,rfl⟩
    ·exact ⟨j,r,b',no (by omega),by omega,rfl,rfl⟩
   ·exact ⟨j,r,b',no (by omega),by omega,rfl,rfl⟩
 ·have hi : i=0:=by
   cases i with
   | zero=>rfl
   | succ j =>
    simp at h4
    have:=x1H j
    omega
  subst hi
  have : r=N:=h5
  simp at h3
  have e1 : IntKind.wrap .i64 (r : Int)=(r : Int):=wrap_i64 rfl (by omega)
  rw [<- this,e1]
end Go.Gv

namespace Go.Gv
open Go.Lib
theorem KP (a k m : Nat) (hm : m=a * 2 ^ k % 18446744073709551616) : IntKind.u64.wrap ((a : Int) * 2 ^ k)=(m : Int):=by
 have e : (a : Int) * 2 ^ k=((a * 2 ^ k : Nat) : Int):=by push_cast;rfl
 rw [e,yb,hm]
theorem uw {n : Int} {m : Nat} (h : n=m \/ n=m + 18446744073709551616 \/ n=m - 18446744073709551616) (hm : m < 18446744073709551616) : IntKind.u64.wrap n=(m : Int):=by
 rw [fH];omega
end Go.Gv

namespace Go.Gv
open Go.Lib
variable {C : CC} (hC : al prog C)
include hC
end Go.Gv

namespace Go.Gv
def DvS (x b i a q r : Nat) : Prop:=i <= 128 /\ r < b /\ ∃ c,a=c * 2 ^ i /\ c < 2 ^ (128 - i) /\ (q * b + r) * 2 ^ (128 - i) + c=x
theorem DvS.step {x b i a q r : Nat} (h : DvS x b i a q r) (hi : i < 128) (hb : 0 < b) :
  a < 340282366920938463463374607431768211456 /\ 2 * q <= x /\
  ∀ w r' a',2 * r + a / 170141183460469231731687303715884105728=w * b + r' -> r' < b -> a'=2 * a % 340282366920938463463374607431768211456 -> DvS x b (i + 1) a' (2 * q + w) r' /\ 2 * q + w <= x:=by
 obtain ⟨_,hr,c,h1,h2,h3⟩:=h
 obtain ⟨m,hm⟩ : ∃ m,m + 1=128 - i:=⟨127 - i,by omega⟩
 have hm2 : m=128 - (i + 1):=by omega
 rw [<- hm,Nat.pow_succ] at h2 h3
 obtain ⟨V,hV⟩ : ∃ V,V=2 ^ m:=⟨_,rfl⟩
 obtain ⟨W,hW⟩ : ∃ W,W=2 ^ i:=⟨_,rfl⟩
 have hVW : V * W=170141183460469231731687303715884105728:=by
  rw [hV,hW,<- Nat.pow_add,show m + i=127 by omega]
 have hVp : 0 < V:=by rw [hV];exact x1H m
 rw [<- hV] at h2 h3
 rw [<- hW] at h1
 obtain ⟨t,ht⟩ : ∃ t,t=c / V:=⟨_,rfl⟩
 obtain ⟨d,hd⟩ : ∃ d,d=c % V:=⟨_,rfl⟩
 have hc : c=t * V + d:=by rw [ht,hd,x0T];exact (x09 c V).symm
 have hdV : d < V:=by rw [hd];exact x1x _ hVp
 have ht1 : t <= 1:=by
  have : t < 2:=by rw [ht,x1q hVp];omega
  omega
 have ha : a=t * 170141183460469231731687303715884105728 + d * W:=by
  rw [h1,hc,x0C,x1y,hVW]
 have hdW : d * W < 170141183460469231731687303715884105728:=by
  have : (d + 1) * W <= V * W:=x0s _ hdV
  rw [hVW,x0C] at this
  have hWp : 0 < W:=by rw [hW];exact x1H i
  omega
 have hbit : a / 170141183460469231731687303715884105728=t:=by
  rw [ha];generalize d * W=z at *;omega
 have fin : ∀ w r',2 * r + t=w * b + r' -> ((2 * q + w) * b + r') * V + d=x:=fun w r' e=>by
  have e1 : (2 * q + w) * b + r'=2 * (q * b + r) + t:=by
   rw [x0C,x1y]
   generalize q * b=z at *
   generalize w * b=z' at *
   omega
  rw [e1,<- h3,hc,x0C,x0T V 2,<- x1y,x0T (q * b + r) 2]
  omega
 have big : ∀ w r',2 * r + t=w * b + r' -> 2 * q + w <= x:=fun w r' e=>by
  have e1:=fin w r' e
  have e2 : 2 * q + w <= (2 * q + w) * b:=Nat.le_mul_of_pos_right _ hb
  have e3 : (2 * q + w) * b + r' <= ((2 * q + w) * b + r') * V:=Nat.le_mul_of_pos_right _ hVp
  omega
 refine ⟨?_,?_,?_⟩
 ·rw [ha];generalize d * W=z at *;omega
 ·exact x07 (Nat.le_add_right _ _) (big _ _ (Nat.div_add_mod' (2 * r + t) b).symm)
 ·intro w r' a' e hr' ha'
  rw [hbit] at e
  refine ⟨⟨by omega,hr',d,?_,?_,?_⟩,big w r' e⟩
  ·rw [ha',ha,Nat.pow_succ,<- hW,x0T W 2,Nat.mul_left_comm]
   generalize d * W=z at *
   omega
  ·rw [<- hm2,<- hV];exact hdV
  ·rw [<- hm2,<- hV];exact fin w r' e
theorem DvS.last {x b a q r : Nat} (h : DvS x b 128 a q r) : q=x / b /\ r=x % b:=by
 obtain ⟨_,hr,c,h1,h2,h3⟩:=h
 simp at h2 h3
 subst h2
 simp at h3
 subst h3
 have hb : 0 < b:=by omega
 rw [x0T,Nat.mul_add_div hb,Nat.div_eq_of_lt hr,Nat.mul_add_mod,Nat.mod_eq_of_lt hr]
 exact ⟨rfl,rfl⟩
variable {C : CC} (hC : al prog C)
include hC
end Go.Gv

namespace Go.Gv
variable {C : CC} (hC : al prog C)
include hC
end Go.Gv
