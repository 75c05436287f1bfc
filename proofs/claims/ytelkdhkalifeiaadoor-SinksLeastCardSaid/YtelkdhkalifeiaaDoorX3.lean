/-
  Texts of the proof: GvF5, GvG0, GvF6, GvF7, GvF8, GvF9, GvF10, GvF11, GvF12, GvF13, GvF14, GvF15.
-/
import Derived.Test.YtelkdhkalifeiaaDoorX2
import Derived.Laws.Externs
import Derived.Laws.StructEq
import Derived.Test.YtelkdhkalifeiaaDoorX1
set_option linter.all false
namespace Go.Gv
open Go.RowKit
section
variable {P : Program} {F : Fid} {nt : Nat} {S : Nat -> Prop} {L : Nat -> Option Loc} {w0 : World} {M0 : Mem} {f : Nat -> D} {M : Mem} {a : Act} {w : World} {o : Oper} {d : D} {Q : Exit -> Act -> World -> Prop}
def fS (P : Program) (c t : Nat) : Bool:=tyS P t 1 false && match P.underlying t with
 | some (.int _)=>c == 0
 | some .bool=>c == 1
 | some .string=>c == 2
 | _=>false
def nU (P : Program) : Nat -> List Nat -> List Field -> Bool
 | _,[],[]=>true
 | i,c::cs,fl::fs=>fl.offset == i && !(fl.name == "_") && fS P c fl.type && nU P (i + 1) cs fs
 | _,_,_=>false
theorem vx {P : Program} {t : Nat} : fS P 9 t=false:=by
 unfold fS
 split <;> simp
theorem sO {P : Program} {i : Nat} {fs : List Field} : nU P i [9] fs=false:=by
 cases fs <;> simp [nU,vx]
theorem tG {P : Program} {t : Nat} : fS P 8 t=false:=by
 unfold fS
 split <;> simp
theorem wW {P : Program} {i : Nat} {fs : List Field} : nU P i [8] fs=false:=by
 cases fs <;> simp [nU,tG]
def mN (P : Program) (t : Nat) (ks : List Nat) : Bool:=match P.underlying t with
 | some .bool=>ks == []
 | some (.slice _)=>ks == [9]
 | some (.pointer _)=>ks == [8]
 | some (.struct fs)=>!(ks == []) && !P.stoodInHeld t && !P.eqGuardType P.depth t && nU P 0 ks fs.toList
 | _=>false
theorem nS {c : Nat} {ks : List Nat} {x y : D} {xs ys : List D} {r : Bool} (h : b0 (c::ks) (x::xs) (y::ys)=some r) : ∃ r1 r2,b0 [c] [x] [y]=some r1 /\ b0 ks xs ys=some r2 /\ r=(r1 && r2):=by
 unfold b0 at h
 split at h
 ·rename_i e _ _;cases e
 ·rename_i ks' k a xs' k' b ys' e0 e1 e2
  simp only [List.cons.injEq] at e0 e1 e2
  obtain ⟨rfl,rfl⟩:=e0;obtain ⟨rfl,rfl⟩:=e1;obtain ⟨rfl,rfl⟩:=e2
  split at h
  ·rename_i hk
   subst hk
   rw [Option.map_eq_some_iff] at h
   obtain ⟨r2,h1,rfl⟩:=h
   exact ⟨decide (a=b),r2,by simp [b0],h1,rfl⟩
  ·cases h
 ·rename_i ks' a xs' b ys' e0 e1 e2
  simp only [List.cons.injEq] at e0 e1 e2
  obtain ⟨rfl,rfl⟩:=e0;obtain ⟨rfl,rfl⟩:=e1;obtain ⟨rfl,rfl⟩:=e2
  rw [Option.map_eq_some_iff] at h
  obtain ⟨r2,h1,rfl⟩:=h
  exact ⟨a == b,r2,by simp [b0],h1,rfl⟩
 ·rename_i ks' a xs' b ys' e0 e1 e2
  simp only [List.cons.injEq] at e0 e1 e2
  obtain ⟨rfl,rfl⟩:=e0;obtain ⟨rfl,rfl⟩:=e1;obtain ⟨rfl,rfl⟩:=e2
  rw [Option.map_eq_some_iff] at h
  obtain ⟨r2,h1,rfl⟩:=h
  exact ⟨decide (a=b),r2,by simp [b0],h1,rfl⟩
 ·cases h
theorem qo (a b : List UInt8) : ((⟨a.toArray⟩ : ByteArray) == ⟨b.toArray⟩)=decide (a=b):=by
 have e : ((⟨a.toArray⟩ : ByteArray) == ⟨b.toArray⟩)=(a.toArray == b.toArray):=rfl
 rw [e,Bool.eq_iff_iff];simp
theorem tF {t c : Nat} (hk : fS P c t=true) {x y : D} {u v : Value} (hu : ab F M x u) (hv : ab F M y v) {r : Bool} (he : b0 [c] [x] [y]=some r) (n : Nat) : (Op.equalIn (n + 1) t u v).run P w=.ok r w:=by
 simp only [fS,Bool.and_eq_true] at hk
 obtain ⟨_,hk⟩:=hk
 split at hk
 ·rename_i k e
  simp only [beq_iff_eq] at hk
  subst hk
  cases x <;> cases y <;> simp only [b0,reduceCtorEq] at he
  split at he
  ·rename_i hkk
   subst hkk
   simp only [ab] at hu hv
   subst hu;subst hv
   simp only [Option.map_some,Bool.and_true,Option.some.injEq] at he
   subst he
   simp only [Op.equalIn,Sem.run_bind,run_underlying e,Result.andThen_ok,if_true,Sem.run_pure]
   congr 1
  ·cases he
 ·rename_i e
  simp only [beq_iff_eq] at hk
  subst hk
  cases x <;> cases y <;> simp only [b0,reduceCtorEq] at he
  simp only [ab] at hu hv
  subst hu;subst hv
  simp only [Option.map_some,Bool.and_true,Option.some.injEq] at he
  subst he
  simp only [Op.equalIn,Sem.run_bind,run_underlying e,Result.andThen_ok,Sem.run_pure]
 ·rename_i e
  simp only [beq_iff_eq] at hk
  subst hk
  cases x <;> cases y <;> simp only [b0,reduceCtorEq] at he
  simp only [ab] at hu hv
  subst hu;subst hv
  simp only [Option.map_some,Bool.and_true,Option.some.injEq] at he
  subst he
  simp only [Op.equalIn,Sem.run_bind,run_underlying e,Result.andThen_ok,Sem.run_pure]
  congr 1
  exact qo _ _
 ·cases hk
theorem mt {t c : Nat} (hk : fS P c t=true) {vs : List Value} {j : Nat} {v : Value} (hv : vs[j]? = some v) : (part t vs.toArray j).run P w=.ok v w:=by
 simp only [fS,Bool.and_eq_true] at hk
 have hlt:=(List.getElem?_eq_some_iff.1 hv).1
 have:=i3 (P:=P) (w:=w) hk.1 (vs:=vs) (off:=j) (by omega)
 rw [this]
 simp only [Bool.false_eq_true,if_false]
 congr 1
 rw [List.drop_eq_getElem_cons hlt]
 simp only [List.headD_cons]
 exact (List.getElem?_eq_some_iff.1 hv).2
def oS (n : Nat) (us vs : Array Value) : Field -> Option Bool × Unit -> Sem (ForInStep (Option Bool × Unit)):=fun f _ =>
       if f.name ≠ "_" then do
        let __do_lift <- part f.type us f.offset
        let __do_lift_1 <- part f.type vs f.offset
        let __do_lift <- Op.equalIn n f.type __do_lift __do_lift_1
        if (!__do_lift)=true then pure (ForInStep.done (some false,()))
         else pure (ForInStep.yield (none,()))
       else pure (ForInStep.yield (none,()))
theorem oz : ∀ (ks : List Nat) (fs : List Field) (j n : Nat) (xs ys : List D) (us vs : List Value),nU P j ks fs=true -> ap F M xs (us.drop j) -> ap F M ys (vs.drop j) -> ∀ {r : Bool},b0 ks xs ys=some r ->
  (forIn fs (none,()) (oS (n + 1) us.toArray vs.toArray)).run P w=.ok (if r then none else some false,()) w
 | [],[],j,n,xs,ys,us,vs,_,_,_,r,he=>by
  cases xs <;> cases ys <;> simp [b0] at he
  subst he
  rfl
 | c::ks,fl::fs,j,n,xs,ys,us,vs,hk,hx,hy,r,he=>by
  simp only [nU,Bool.and_eq_true,beq_iff_eq,Bool.not_eq_true',beq_eq_false_iff_ne] at hk
  obtain ⟨⟨⟨rfl,hn⟩,hs⟩,hk⟩:=hk
  cases xs with
  | nil=>cases ys <;> cases c <;> simp [b0] at he
  | cons x xs =>
   cases ys with
   | nil=>cases x <;> (rcases c with _ | _ | _ | c <;> simp [b0] at he)
   | cons y ys =>
    obtain ⟨r1,r2,h1,h2,rfl⟩:=nS he
    simp only [ap] at hx hy
    obtain ⟨u,us',e1,ru,rus⟩:=hx
    obtain ⟨v,vs',e2,rv,rvs⟩:=hy
    have gu : us[fl.offset]? = some u:=by
     have:=congrArg (fun l=>l[0]?) e1
     simpa using this
    have gv : vs[fl.offset]? = some v:=by
     have:=congrArg (fun l=>l[0]?) e2
     simpa using this
    have du : us.drop (fl.offset + 1)=us':=by rw [<- List.drop_drop,e1];rfl
    have dv : vs.drop (fl.offset + 1)=vs':=by rw [<- List.drop_drop,e2];rfl
    rw [List.forIn_cons]
    simp only [oS,ne_eq,hn,not_false_eq_true,if_true,Sem.run_bind,mt hs gu,mt hs gv,Result.andThen_ok,tF hs ru rv h1]
    cases r1 with
    | false=>simp
    | true =>
     simp only [Bool.not_true,Bool.false_eq_true,if_false,Sem.run_pure,Result.andThen_ok,Bool.true_and]
     exact oz ks fs (fl.offset + 1) n xs ys us vs hk (by rw [du];exact rus) (by rw [dv];exact rvs) h2
theorem cX (t : TypeId) (u v : Value) : ∃ m n,m=n + 1 /\ Op.equal t u v=Op.equalIn (m + 1) t u v:=⟨9999,9998,rfl,rfl⟩
theorem vD (h : SR F nt S L w0 M0 f M a w) (hp : br nt f o.dst) {neg : Bool} {ks : List Nat} {x y : Opd} {x' y' : Operand} {t t' : TypeId} (ho : o.op=.binOp (if neg then .neq else .eql) t x' y' t') (hx : ae F x x'=true) (hy : ae F y y'=true) (hk : mN P t ks=true)
  (hr : res f (·=d) (.beq neg ks x y)) : o.wp P a w (bz F nt S L w0 M0 f o.dst d) Q:=by
 simp only [res] at hr
 have fin : ∀ (u v : Value) (r : Bool),a.eval x'=u -> a.eval y'=v -> (eqGuard (if neg then .neq else .eql) t x' y' u v).run P w=.ok () w -> (binOp (if neg then .neq else .eql) t u v).run P w=.ok (.bool (r != neg)) w -> d=.bool (r != neg) -> o.wp P a w (bz F nt S L w0 M0 f o.dst d) Q:=by
  rintro u v r e1 e2 hg h3 rfl
  refine aD h hp (v:=.bool (r != neg)) rfl ?_
  simp only [execOp,ho,e1,e2,hg,Sem.run_bind,Sem.run_pure,Result.andThen_ok,h3]
 split at hr
 ·rename_i b c ex ey
  obtain ⟨rfl,hr⟩:=hr
  have h1:=h.opd hx (by simp [ex,isV])
  rw [ex] at h1
  have h2:=h.opd hy (by simp [ey,isV])
  rw [ey] at h2
  simp only [ab] at h1 h2
  unfold mN at hk
  split at hk
  ·rename_i e
   refine fin _ _ (b == c) h1 h2 (by cases neg <;> simp [eqGuard]) ?_ hr.symm
   have h3 : (Op.equal t (.bool b) (.bool c)).run P w=.ok (b == c) w:=by
    obtain ⟨m,n,hm,this⟩:=cX t (.bool b) (.bool c)
    rw [this]
    simp only [Op.equalIn,Sem.run_bind,run_underlying e,Result.andThen_ok,Sem.run_pure]
   cases neg <;> simp [binOp,h3]
  ·simp at hk
  ·simp at hk
  ·simp at hk
  ·cases hk
 ·rename_i xs ys ex ey
  obtain ⟨hks,hr⟩:=hr
  split at hr
  ·rename_i r he
   have h1:=h.opd hx (by simp [ex,isV])
   rw [ex] at h1
   have h2:=h.opd hy (by simp [ey,isV])
   rw [ey] at h2
   simp only [ab] at h1 h2
   obtain ⟨us,e1,r1⟩:=h1
   obtain ⟨vs,e2,r2⟩:=h2
   unfold mN at hk
   split at hk
   ·simp only [beq_iff_eq] at hk
    exact absurd hk hks
   ·simp only [beq_iff_eq] at hk
    subst hk
    cases xs <;> cases ys <;> simp [b0] at he
   ·simp only [beq_iff_eq] at hk
    subst hk
    cases xs <;> cases ys <;> simp [b0] at he
   ·rename_i fs e
    simp only [Bool.and_eq_true,Bool.not_eq_true'] at hk
    obtain ⟨⟨⟨_,hst⟩,hgu⟩,hk⟩:=hk
    refine fin _ _ r e1 e2 (run_eqGuard_agg _ _ t x' y' _ _ hgu) ?_ hr.symm
    have key:=fun n=>oz (P:=P) (w:=w) ks fs.toList 0 n xs ys us vs hk (by simpa using r1) (by simpa using r2) he
    have h3 : (Op.equal t (.agg us.toArray) (.agg vs.toArray)).run P w=.ok r w:=by
     obtain ⟨m,n,hm,this⟩:=cX t (.agg us.toArray) (.agg vs.toArray)
     have key:=key n
     rw [<- hm] at key
     rw [this]
     simp only [Op.equalIn,Sem.run_bind,run_underlying e,Result.andThen_ok,run_program,hst,Bool.false_eq_true,if_false]
     rw [<- Array.forIn_toList]
     unfold oS at key
     erw [key]
     cases r <;> simp
    cases neg <;> simp [binOp,h3]
   ·cases hk
  ·exact hr.elim
 ·rename_i ex ey
  obtain ⟨rfl,hr⟩:=hr
  have h1:=h.opd hx (by simp [ex,isV])
  rw [ex] at h1
  have h2:=h.opd hy (by simp [ey,isV])
  rw [ey] at h2
  simp only [ab] at h1 h2
  unfold mN at hk
  split at hk
  ·simp at hk
  ·rename_i e
   refine fin _ _ true h1 h2 (by cases neg <;> simp [eqGuard]) ?_ (by rw [<- hr];cases neg <;> rfl)
   have h3 : (Op.equal t (.slice none 0 0) (.slice none 0 0)).run P w=.ok true w:=by
    obtain ⟨m,n,hm,this⟩:=cX t (.slice none 0 0) (.slice none 0 0)
    rw [this]
    simp only [Op.equalIn,Sem.run_bind,run_underlying e,Result.andThen_ok,Sem.run_pure]
    rfl
   cases neg <;> simp [binOp,h3]
  ·simp at hk
  ·simp [sO] at hk
  ·cases hk
 ·rename_i es ex ey
  obtain ⟨rfl,hr1,hr2⟩:=hr
  have h1:=h.opd hx (by simp [ex,isV])
  rw [ex] at h1
  have h2:=h.opd hy (by simp [ey,isV])
  rw [ey] at h2
  simp only [ab] at h1 h2
  obtain ⟨A,cap,vs,sz,e1,_,_,_,hA⟩:=h1
  rcases Nat.eq_zero_or_pos es.length with h0 | hpos
  ·have hd:=hr2 h0
   subst hd
   unfold mN at hk
   split at hk
   ·simp at hk
   ·rename_i e
    obtain ⟨r,hrr⟩ : ∃ r,(Op.equal t (.slice A es.length cap) (.slice none 0 0)).run P w=.ok r w:=by
     obtain ⟨m,n,hm,this⟩:=cX t (.slice A es.length cap) (.slice none 0 0)
     rw [this]
     cases A <;> simp only [Op.equalIn,Sem.run_bind,run_underlying e,Result.andThen_ok,Sem.run_pure]
     ·exact ⟨_,rfl⟩
     ·exact ⟨_,rfl⟩
    refine aD h hp (v:=.bool (r != neg)) (by simp only [ab];exact ⟨_,rfl⟩) ?_
    have hg : (eqGuard (if neg then .neq else .eql) t x' y' (.slice A es.length cap) (.slice none 0 0)).run P w=.ok () w:=by cases neg <;> simp [eqGuard]
    have hbn : (binOp (if neg then .neq else .eql) t (.slice A es.length cap) (.slice none 0 0)).run P w=.ok (.bool (r != neg)) w:=by cases neg <;> simp [binOp,hrr]
    simp only [execOp,ho,e1,h2,hg,Sem.run_bind,Sem.run_pure,Result.andThen_ok,hbn]
   ·simp at hk
   ·simp [sO] at hk
   ·cases hk
  have hr:=hr1 hpos
  obtain ⟨ad,rfl,_⟩:=hA hpos
  unfold mN at hk
  split at hk
  ·simp at hk
  ·rename_i e
   refine fin _ _ false e1 h2 (by cases neg <;> simp [eqGuard]) ?_ (by rw [<- hr];cases neg <;> rfl)
   have h3 : (Op.equal t (.slice (some ad) es.length cap) (.slice none 0 0)).run P w=.ok false w:=by
    obtain ⟨m,n,hm,this⟩:=cX t (.slice (some ad) es.length cap) (.slice none 0 0)
    rw [this]
    simp only [Op.equalIn,Sem.run_bind,run_underlying e,Result.andThen_ok,Sem.run_pure]
   cases neg <;> simp [binOp,h3]
  ·simp at hk
  ·simp [sO] at hk
  ·cases hk
 ·rename_i ex ey
  obtain ⟨rfl,hr⟩:=hr
  have h1:=h.opd hx (by simp [ex,isV])
  rw [ex] at h1
  have h2:=h.opd hy (by simp [ey,isV])
  rw [ey] at h2
  simp only [ab] at h1 h2
  unfold mN at hk
  split at hk
  ·simp at hk
  ·simp at hk
  ·rename_i e
   refine fin _ _ true h1 h2 (by cases neg <;> simp [eqGuard]) ?_ (by rw [<- hr];cases neg <;> rfl)
   have h3 : (Op.equal t (.pointer none) (.pointer none)).run P w=.ok true w:=by
    obtain ⟨m,n,hm,this⟩:=cX t (.pointer none) (.pointer none)
    rw [this]
    simp only [Op.equalIn,Sem.run_bind,run_underlying e,Result.andThen_ok,Sem.run_pure]
    rfl
   cases neg <;> simp [binOp,h3]
  ·simp [wW] at hk
  ·cases hk
 ·rename_i ds ex ey
  obtain ⟨rfl,hr⟩:=hr
  have h1:=h.opd hx (by simp [ex,isV])
  rw [ex] at h1
  have h2:=h.opd hy (by simp [ey,isV])
  rw [ey] at h2
  simp only [ab] at h1 h2
  obtain ⟨ad,vs,e1,_,_⟩:=h1
  unfold mN at hk
  split at hk
  ·simp at hk
  ·simp at hk
  ·rename_i e
   refine fin _ _ false e1 h2 (by cases neg <;> simp [eqGuard]) ?_ (by rw [<- hr];cases neg <;> rfl)
   have h3 : (Op.equal t (.pointer (some ad)) (.pointer none)).run P w=.ok false w:=by
    obtain ⟨m,n,hm,this⟩:=cX t (.pointer (some ad)) (.pointer none)
    rw [this]
    simp only [Op.equalIn,Sem.run_bind,run_underlying e,Result.andThen_ok,Sem.run_pure]
   cases neg <;> simp [binOp,h3]
  ·simp [wW] at hk
  ·cases hk
 ·exact hr.elim
def mj (P : Program) (fi : Nat) (nm : String) : Bool:=match P.funcs[fi]? with
 | some fn=>fn.name == nm && fn.body.isNone && (Extern.allNextRows.lookup fn.origin).isNone
 | none=>false
theorem ml {fi : Nat} {nm : String} {e : Array Value -> Sem Value} (hk : mj P fi nm=true) (h0 : (nm == "runtime.NumGoroutine")=false) (h1 : Extern.allNextRows.lookup nm=none)
  (h2 : ∀ fn : Func,fn.name=nm -> Extern.find fn=some e) (args : Array Value) (w : World) : (callFunc fi args).run P w=((e args).run P w).andThen fun v w'=>.ok (.value v) w':=by
 unfold mj at hk
 split at hk
 ·rename_i fn hf
  simp only [Bool.and_eq_true,beq_iff_eq] at hk
  obtain ⟨⟨h3,h4⟩,h5⟩:=hk
  subst h3
  refine run_callFunc_extern hf h0 h4 ?_ (h2 fn rfl) args w
  have h6 : Extern.allNextRows.lookup fn.origin=none:=by simpa using h5
  simp [Extern.findNext,h1,h6]
 ·cases hk
theorem sL (fn : Func) (h : fn.name= "math/bits.Add64") : Extern.find fn=some add64Entry:=by
 have h1 : Extern.allGenericRows.lookup "math/bits.Add64"=none:=by kernel_rfl
 have h2 : Extern.allTypedRows.lookup "math/bits.Add64"=none:=by kernel_rfl
 have h3 : Extern.allRows.lookup "math/bits.Add64"=some add64Entry:=by kernel_rfl
 simp [Extern.find,h,h1,h2,h3]
def nw : Array Value -> Sem Value:=fun args=>do
 let (x,y,b) <- Extern.MathBitsCarry.three "Sub64" args
 pure (Extern.MathBitsCarry.pair ((x + Extern.MathBitsCarry.m64 - y - b) % Extern.MathBitsCarry.m64) (if x < y + b then 1 else 0))
theorem sM (fn : Func) (h : fn.name= "math/bits.Sub64") : Extern.find fn=some nw:=by
 have h1 : Extern.allGenericRows.lookup "math/bits.Sub64"=none:=by kernel_rfl
 have h2 : Extern.allTypedRows.lookup "math/bits.Sub64"=none:=by kernel_rfl
 have h3 : Extern.allRows.lookup "math/bits.Sub64"=some nw:=by kernel_rfl
 simp [Extern.find,h,h1,h2,h3]
theorem pC (x y c : Int) (hx : 0 <= x) (hx2 : x < 18446744073709551616) (hy : 0 <= y) (hy2 : y < 18446744073709551616) (hc0 : 0 <= c) (hc : c <= 1) (w : World) :
  (nw #[.int .u64 x,.int .u64 y,.int .u64 c]).run P w=.ok (.tuple #[.int .u64 ((x - y - c) % 18446744073709551616),.int .u64 (if x < y + c then 1 else 0)]) w:=by
 have key : ∀ k : Nat,k <= 1 -> (nw #[.int .u64 x,.int .u64 y,.int .u64 (k : Int)]).run P w =
   .ok (Extern.MathBitsCarry.pair ((x.toNat + Extern.MathBitsCarry.m64 - y.toNat - k) % Extern.MathBitsCarry.m64) (if x.toNat < y.toNat + k then 1 else 0)) w:=by
  intro k hk
  have : k=0 \/ k=1:=by omega
  rcases this with rfl | rfl <;> rfl
 obtain ⟨k,rfl⟩:=Int.eq_ofNat_of_zero_le hc0
 rw [key k (by omega)]
 obtain ⟨X,rfl⟩:=Int.eq_ofNat_of_zero_le hx
 obtain ⟨Y,rfl⟩:=Int.eq_ofNat_of_zero_le hy
 have e1 : (((X + 18446744073709551616 - Y - k) % 18446744073709551616 : Nat) : Int)=((X : Int) - Y - k) % 18446744073709551616:=by omega
 have e2 : ((if X < Y + k then 1 else 0 : Nat) : Int)=if (X : Int) < Y + k then 1 else 0:=by split <;> split <;> omega
 simp only [Extern.MathBitsCarry.pair,Extern.MathBitsCarry.m64,Int.toNat_natCast]
 rw [<- e1,<- e2]
 rfl
theorem rf (h : SR F nt S L w0 M0 f M a w) (hp : br nt f o.dst) {x y c : Opd} {x' y' c' : Operand} {fi : Nat} {ts : Array TypeId} (ho : o.op=.call { callee:=.value (.func fi),args:=#[x',y',c'],argTypes:=ts }) (hn : mj P fi "math/bits.Add64"=true)
  (hx : ae F x x'=true) (hy : ae F y y'=true) (hc : ae F c c'=true) (hr : res f (·=d) (.add64 x y c)) : o.wp P a w (bz F nt S L w0 M0 f o.dst d) Q:=by
 simp only [res] at hr
 split at hr
 ·rename_i a1 b1 k1 ex ey ec
  obtain ⟨h1,h2,h3,h4,h5,h6,rfl⟩:=hr
  have e1:=h.opd hx (by simp [ex,isV])
  have e2:=h.opd hy (by simp [ey,isV])
  have e3:=h.opd hc (by simp [ec,isV])
  rw [ex] at e1;rw [ey] at e2;rw [ec] at e3
  simp only [ab] at e1 e2 e3
  refine aD h hp (v:=.tuple #[.int .u64 ((a1 + b1 + k1) % 18446744073709551616),.int .u64 ((a1 + b1 + k1) / 18446744073709551616)]) ?_ ?_
  ·simp only [ab]
   exact ⟨[_,_],rfl,by simp [ap,ab]⟩
  ·have hrun:=ml hn (by decide) (by kernel_rfl) (fun fn=>sL fn) #[.int .u64 a1,.int .u64 b1,.int .u64 k1] w
   rw [run_add64 a1 b1 k1 h1 h3 h5 h6] at hrun
   simp only [execOp,ho,resolve,Act.eval,Deferred.ofValue,Sem.run_bind,Sem.run_pure,Result.andThen_ok,invoke]
   rw [show (#[]++Array.map a.eval #[x',y',c']++#[])=#[.int .u64 a1,.int .u64 b1,.int .u64 k1] from by simp [e1,e2,e3]]
   exact hrun
 ·exact hr.elim
theorem rB (h : SR F nt S L w0 M0 f M a w) (hp : br nt f o.dst) {x y c : Opd} {x' y' c' : Operand} {fi : Nat} {ts : Array TypeId} (ho : o.op=.call { callee:=.value (.func fi),args:=#[x',y',c'],argTypes:=ts }) (hn : mj P fi "math/bits.Sub64"=true)
  (hx : ae F x x'=true) (hy : ae F y y'=true) (hc : ae F c c'=true) (hr : res f (·=d) (.sub64 x y c)) : o.wp P a w (bz F nt S L w0 M0 f o.dst d) Q:=by
 simp only [res] at hr
 split at hr
 ·rename_i a1 b1 k1 ex ey ec
  obtain ⟨h1,h2,h3,h4,h5,h6,rfl⟩:=hr
  have e1:=h.opd hx (by simp [ex,isV])
  have e2:=h.opd hy (by simp [ey,isV])
  have e3:=h.opd hc (by simp [ec,isV])
  rw [ex] at e1;rw [ey] at e2;rw [ec] at e3
  simp only [ab] at e1 e2 e3
  refine aD h hp (v:=.tuple #[.int .u64 ((a1 - b1 - k1) % 18446744073709551616),.int .u64 (if a1 < b1 + k1 then 1 else 0)]) ?_ ?_
  ·simp only [ab]
   exact ⟨[_,_],rfl,by simp [ap,ab]⟩
  ·have hrun:=ml hn (by decide) (by kernel_rfl) (fun fn=>sM fn) #[.int .u64 a1,.int .u64 b1,.int .u64 k1] w
   rw [pC a1 b1 k1 h1 h2 h3 h4 h5 h6] at hrun
   simp only [execOp,ho,resolve,Act.eval,Deferred.ofValue,Sem.run_bind,Sem.run_pure,Result.andThen_ok,invoke]
   rw [show (#[]++Array.map a.eval #[x',y',c']++#[])=#[.int .u64 a1,.int .u64 b1,.int .u64 k1] from by simp [e1,e2,e3]]
   exact hrun
 ·exact hr.elim
theorem qi {f : Nat -> D} {d : D} {K : List D -> List Nat -> Prop} (h : ∀ c ∈ cW d,au c=true) (hk : K (cW d) []) : eA f d [] K:=by
 cases d <;> first
  | (simp only [eA,d3,c8,if_true,true_or,true_and];exact ⟨h,hk⟩)
  | (have h0:=h _ (List.mem_singleton.2 rfl);simp [au] at h0;done)
  | (have h0:=h _ (List.mem_singleton.2 rfl);simp only [eA,d3,c8,if_true,true_or,true_and];exact ⟨h0,hk⟩)
theorem jZ {f : Nat -> D} {sz len : Nat} : ∀ (ps : List (Nat × Opd)) (es : List (List D)) (bs : List Nat),es.length=len -> (∀ p ∈ ps,p.1 < len /\ (cW (vd f p.2)).length=sz /\ ∀ c ∈ cW (vd f p.2),au c=true) ->
  d6 f sz [] ps es bs (fun es' bs'=>es'=fm f ps es /\ bs'=bs)
 | [],es,bs,_,_=>⟨rfl,rfl⟩
 | (i,x)::ps,es,bs,hl,h=>by
  obtain ⟨h1,h2,h3⟩:=h (i,x) (by simp)
  simp only [d6]
  refine ⟨by omega,qi h3 ⟨h2,?_⟩⟩
  simp only [List.append_nil,fm]
  exact jZ ps _ bs (by simpa using hl) fun p hp=>h p (by simp [hp])
section
variable {P : Program} {F : Fid} {nt : Nat} {S : Nat -> Prop} {L : Nat -> Option Loc} {w0 : World} {M0 : Mem} {f : Nat -> D} {M : Mem} {a : Act} {w : World} {o : Oper} {d : D} {Q : Exit -> Act -> World -> Prop}
theorem tL (h : SR F nt S L w0 M0 f M a w) (hp : br nt f o.dst) {sz len : Nat} {zs : List D} {parts : List (Nat × Opd)} {parts' : Array (Nat × Operand)} {T : TypeId} (ho : o.op=.buildSlice T len parts')
  (hk : blsOk P F T sz len zs parts parts'.toList=true) (hr : res f (·=d) (.blsF sz len zs parts)) : o.wp P a w (bz F nt S L w0 M0 f o.dst d) Q:=by
 simp only [res] at hr
 obtain ⟨hr1,hr0,hr2,rfl⟩:=hr
 unfold blsOk at hk
 split at hk
 ·rename_i e hu
  simp only [Bool.and_eq_true,beq_iff_eq,List.all_eq_true,decide_eq_true_eq] at hk
  obtain ⟨⟨⟨⟨⟨⟨h1,h2⟩,h3⟩,h4⟩,h5⟩,h6⟩,h7⟩:=hk
  obtain ⟨z,i,hi,hiz,hz,hzs,hzc⟩:=zeroOk_z h3
  obtain ⟨ρ0,ω0,ho0⟩:=h.own
  have hzl : z.cells.toList.length=sz:=by simp [hzs,h2]
  let c0 : Array Value:=(Array.range (len * sz)).map ((if len * sz=0 then #[] else z.cells)[· % (if len * sz=0 then #[] else z.cells).size]!)
  have hc0 : c0.toList=(List.replicate len z.cells.toList).flatten:=by
   by_cases hl : len * sz=0
   ·have : len=0:=by rcases Nat.mul_eq_zero.1 hl with h | h;exact h;omega
    subst this
    simp [c0]
   ·simp only [c0,if_neg hl]
    exact range_cells z.cells len sz (by omega)
  have hA : AbsRows F L (lM S w0) f M a w sz len (List.replicate len zs) [] c0.toList (fun _ _=>none):=by
   refine ⟨by simp,by rw [hc0];simp only [List.length_flatten,List.map_replicate,hzl,List.sum_replicate_nat],fun e he=>by rw [(List.mem_replicate.1 he).2,h2],fun i' r off c' hi' hr=>?_,fun i off c e=>(by cases e),fun _ i off i' off' c e=>(by cases e)⟩
   obtain ⟨hlt,hr⟩:=rep_rows hi' hr
   have hof : off < sz:=by have:=(List.getElem?_eq_some_iff.1 hr).1;omega
   obtain ⟨u0,hu'⟩ : ∃ u0,z.cells.toList[off]? = some u0:=⟨_,List.getElem?_eq_getElem (by omega)⟩
   refine ⟨_,?_,hzc off c' _ hr hu'⟩
   rw [hc0,flatten_get _ _ _ (by rw [hzl];exact d8 hlt hof),hzl,Nat.mul_comm i' sz,Nat.mul_add_mod,Nat.mod_eq_of_lt hof]
   exact hu'
  have hpw:=jZ (f:=f) (sz:=sz) (len:=len) parts (List.replicate len zs) [] (by simp) hr1
  obtain ⟨esF,bsF,cellsF,srcF,⟨rfl,rfl⟩,g4,g5⟩:=fill_parts ho0 parts parts'.toList _ _ c0 _ _ h6 (fun p hp=>h7 p hp) hA hpw
  have hrun : (Instr.buildSlice T len (parts'.map fun (i,x)=>(i,a.eval x))).run P w=.ok (.slice (some ⟨w.heap.size,0,none⟩) len len) (w.alloc (.cells cellsF.toList.toArray e)):=by
   have hsm : ¬ len * sz > 2 ^ 24:=by omega
   have g4' : Instr.fill (fun i=>some (i * sz,sz)) c0 (parts'.map fun (i,x)=>(i,a.eval x)).toList=some cellsF:=by
    rw [Array.toList_map];exact g4
   simp only [Instr.buildSlice,Sem.run_bind,run_underlying hu,Result.andThen_ok,b5 h1,hsm,if_false]
   by_cases hl : len * sz=0
   ·simp only [c0,hl,if_true] at g4'
    simp only [hl,if_true,Sem.run_bind,Sem.run_pure,Result.andThen_ok,g4',newRow,run_newObj,World.alloc_eq,Array.toArray_toList]
   ·simp only [c0,hl,if_false] at g4'
    simp only [hl,if_false,Sem.run_bind,Sem.run_pure,hz,Result.andThen_ok,g4',newRow,run_newObj,World.alloc_eq,Array.toArray_toList]
  have hle:=(alloc_holds h.holds cellsF.toList e).2.1
  refine after_new (T:=e) h (vs:=cellsF.toList) hp (v:=.slice (some ⟨w.heap.size,0,none⟩) len len) (fun ρ ω hO=>?_) (by simp only [execOp,ho,Sem.run_bind,hrun,Result.andThen_ok,Sem.run_pure])
  refine aV.of_pure ?_
  simp only [ab,g5.n]
  refine ⟨_,_,cellsF.toList,sz,rfl,Nat.le_refl _,aZ.of_rows g5.u (by rw [g5.vl,g5.n]) (fun i' r off c' e1 e2=>?_),g5.u,fun _=>⟨_,rfl,by simpa using Mem.put_at M w.heap.size 0 cellsF.toList⟩⟩
  obtain ⟨u,k1,k2⟩:=g5.cells i' r off c' e1 e2
  refine ⟨u,k1,?_⟩
  have hc1:=hr2 r (List.mem_of_getElem? e1) c' (List.mem_of_getElem? e2)
  rcases k2 with ⟨_,k2⟩ | ⟨n,rfl,_⟩ | ⟨_,_,_,_,rfl,_⟩
  ·exact ab.mono hle _ _ k2
  ·simp [au] at hc1
  ·simp [au] at hc1
 ·cases hk
theorem tM (h : SR F nt S L w0 M0 f M a w) (hp : br nt f o.dst) {sz len : Nat} {zs : List D} {parts : List (Nat × Opd)} {parts' : Array (Nat × Operand)} {T : TypeId} (ho : o.op=.buildSlice T len parts')
  (hk : blsOk P F T sz len zs parts parts'.toList=true) (hr : res f (·=d) (.blsX sz len zs parts)) : o.wp P a w (bz F nt S L w0 M0 f o.dst d) Q:=by
 simp only [res] at hr
 obtain ⟨hr0,hr1,rfl⟩:=hr
 unfold blsOk at hk
 split at hk
 ·rename_i e hu
  simp only [Bool.and_eq_true,beq_iff_eq,List.all_eq_true,decide_eq_true_eq] at hk
  obtain ⟨⟨⟨⟨⟨⟨h1,h2⟩,h3⟩,h4⟩,h5⟩,h6⟩,h7⟩:=hk
  obtain ⟨z,i,hi,hiz,hz,hzs,hzc⟩:=zeroOk_z h3
  obtain ⟨ρ0,ω0,ho0⟩:=h.own
  have hzl : z.cells.toList.length=sz:=by simp [hzs,h2]
  let c0 : Array Value:=(Array.range (len * sz)).map ((if len * sz=0 then #[] else z.cells)[· % (if len * sz=0 then #[] else z.cells).size]!)
  have hc0 : c0.toList=(List.replicate len z.cells.toList).flatten:=by
   by_cases hl : len * sz=0
   ·have : len=0:=by rcases Nat.mul_eq_zero.1 hl with h | h;exact h;omega
    subst this
    simp [c0]
   ·simp only [c0,if_neg hl]
    exact range_cells z.cells len sz (by omega)
  have hzlen : (List.replicate len zs).flatten.length=len * sz:=by simp only [List.length_flatten,List.map_replicate,h2,List.sum_replicate_nat]
  have zero : RL (ab F M) zs z.cells.toList:=by
   refine ⟨by rw [hzl,h2],fun j c u k1 k2=>?_⟩
   have k3:=hzc j c u k1 k2 (F:=F) (L:=L) (New:=lM S w0) (f:=f) (M:=M) (a:=a) (w:=w)
   have hc1:=List.all_eq_true.1 hr0 c (List.mem_of_getElem? k1)
   rcases k3 with ⟨_,k3⟩ | ⟨n,rfl,_⟩ | ⟨_,_,_,_,rfl,_⟩
   ·exact k3
   ·simp [au] at hc1
   ·simp [au] at hc1
  have fillOne : ∀ (M' : Mem) (ρ : Pa -> Loc),M.le M' -> (∀ p ∈ parts,∀ y,ae F p.2 y=true -> aV F M' ρ (vd f p.2) (a.eval y)) ->
    ∃ cells,Instr.fill (fun i=>some (i * sz,sz)) c0 (parts'.map fun (i,x)=>(i,a.eval x)).toList=some cells /\ RL (al F M' ρ) (ik f sz len zs parts) cells.toList:=by
   intro M' ρ hle hv
   have hzz : RL (al F M' ρ) (List.replicate len zs).flatten c0.toList:=by
    rw [hc0]
    refine ⟨by rw [hzlen];simp only [List.length_flatten,List.map_replicate,hzl,List.sum_replicate_nat],fun j c u k1 k2=>?_⟩
    have hj : j < len * sz:=by rw [<- hzlen];exact (List.getElem?_eq_some_iff.1 k1).1
    rw [flatten_get _ _ _ (by rw [h2];exact hj),h2] at k1
    rw [flatten_get _ _ _ (by rw [hzl];exact hj),hzl] at k2
    exact al.of_pure (ab.mono hle _ _ (zero.2 _ c u k1 k2))
   refine kJ (fun i=>some (i * sz,sz)) (parts'.map fun (i,x)=>(i,a.eval x)).toList (parts.map fun p=>(p.1 * sz,sz,bJ (vd f p.2))) c0 _ hzz (by simpa using h6.symm) (fun p hp=>?_)
   rw [Array.toList_map,List.zip_map,List.mem_map] at hp
   obtain ⟨⟨q',q⟩,hq,rfl⟩:=hp
   have hq' : (q,q') ∈ parts.zip parts'.toList:=by
    obtain ⟨n,hn,e⟩:=List.mem_iff_getElem.1 hq
    simp only [List.length_zip] at hn
    rw [List.getElem_zip] at e
    simp only [Prod.mk.injEq] at e
    rw [List.mem_iff_getElem]
    exact ⟨n,by rw [List.length_zip];omega,by rw [List.getElem_zip,e.1,e.2]⟩
   obtain ⟨g1,g2⟩:=h7 _ hq'
   obtain ⟨g3,g4⟩:=hr1 q (List.of_mem_zip hq').1
   have hV:=hv q (List.of_mem_zip hq').1 q'.2 g1
   have hle2 : q.1 * sz + sz <= (List.replicate len zs).flatten.length:=by
    rw [hzlen,<- Nat.succ_mul];exact Nat.mul_le_mul_right _ g3
   simp only at g2
   refine ⟨by simp [g2],?_,?_,hle2⟩
   ·simp only [Prod.map]
    split at g4
    ·rename_i ds ex
     rw [ex] at hV ⊢
     have hV2:=hV.pure rfl
     have:=ix hV2 (fun e'=>by cases e')
     exact ⟨this.1,fun i d v h1 h2=>al.of_pure (this.2 i d v h1 h2)⟩
    ·rename_i ds ex
     rw [ex] at hV ⊢
     obtain ⟨vs,e2,r⟩:=hV
     rw [e2]
     exact r
    ·exact g4.elim
   ·simp only [Prod.map]
    split at g4
    ·rename_i ds ex;rw [ex];exact g4
    ·rename_i ds ex;rw [ex];exact g4
    ·exact g4.elim
  obtain ⟨cells,g4,_⟩:=fillOne M ρ0 (Mem.le_refl _) (fun p hp y hy=>ho0.opd hy)
  have hrun : (Instr.buildSlice T len (parts'.map fun (i,x)=>(i,a.eval x))).run P w=.ok (.slice (some ⟨w.heap.size,0,none⟩) len len) (w.alloc (.cells cells.toList.toArray e)):=by
   have hsm : ¬ len * sz > 2 ^ 24:=by omega
   simp only [Instr.buildSlice,Sem.run_bind,run_underlying hu,Result.andThen_ok,b5 h1,hsm,if_false]
   by_cases hl : len * sz=0
   ·simp only [c0,hl,if_true] at g4
    simp only [hl,if_true,Sem.run_bind,Sem.run_pure,Result.andThen_ok,g4,newRow,run_newObj,World.alloc_eq,Array.toArray_toList]
   ·simp only [c0,hl,if_false] at g4
    simp only [hl,if_false,Sem.run_bind,Sem.run_pure,hz,Result.andThen_ok,g4,newRow,run_newObj,World.alloc_eq,Array.toArray_toList]
  have hle:=(alloc_holds h.holds cells.toList e).2.1
  refine after_new (T:=e) h (vs:=cells.toList) hp (v:=.slice (some ⟨w.heap.size,0,none⟩) len len) (fun ρ ω hO=>?_) (by simp only [execOp,ho,Sem.run_bind,hrun,Result.andThen_ok,Sem.run_pure])
  obtain ⟨cells',g6,g7⟩:=fillOne _ ρ hle (fun p hp y hy=>hO.opd hy)
  rw [g4] at g6
  cases g6
  exact ⟨_,_,cells.toList,rfl,⟨g7.1,g7.2⟩,by simpa using Mem.put_at M w.heap.size 0 cells.toList⟩
 ·cases hk
end
def oj (P : Program) (F : Fid) : NOp -> Op -> Bool
 | .mov x,.move y=>ae F x y
 | .mov x,.assign y=>ae F x y
 | .nck x,.nilCheck y=>ae F x y
 | .pick c x y,.pick c' x' y'=>ae F c c' && ae F x x' && ae F y y'
 | .bin op x y,.binOp op' _ x' y' _=>op == op' && ae F x x' && ae F y y'
 | .un op x,.unOp op' _ x'=>op == op' && ae F x x'
 | .conv k x,.convert src dst x'=>oO P k src dst && ae F x x'
 | .fld off n ag x,.field t x' i=>pR P t i off n ag && ae F x x'
 | .idxA len sz ag x i,.index t x' i'=>mT P t len sz ag && ae F x x' && ae F i i'
 | .idxS x i,.index t x' i'=>i7 P t && ae F x x' && ae F i i'
 | .ext i x,.extract x' i'=>i == i' && ae F x x'
 | .fad off x,.fieldAddr t x' i=>pO P t i off && ae F x x'
 | .iadS sz x i,.indexAddr t x' i'=>pd P t sz && ae F x x' && ae F i i'
 | .iadA len sz x i,.indexAddr t x' i'=>fc P t len sz && ae F x x' && ae F i i'
 | .ld n ag x,.load t x'=>tyS P t n ag && ae F x x'
 | .boxF x,.box _ x'=>ae F x x'
 | .blsF sz len zs ps,.buildSlice t len' ps'=>len == len' && blsOk P F t sz len zs ps ps'.toList
 | .blsX sz len zs ps,.buildSlice t len' ps'=>len == len' && blsOk P F t sz len zs ps ps'.toList
 | .bld zs ps,.build t ps'=>nF P F t zs ps ps'.toList
 | .len x,.call { callee:=.builtin .len,args:=⟨[x']⟩,argTypes:=⟨[t]⟩ }=>kx P t && ae F x x'
 | .lens x,.call { callee:=.builtin .len,args:=⟨[x']⟩,argTypes:=⟨[t]⟩ }=>i7 P t && ae F x x'
 | .mk g xs,.makeFunc (.func fi) first ys=>F g == some fi && first.isEmpty && a7 F xs ys.toList
 | .slc sz x lo hi,.slice t x' lo' hi' none=>tK P t sz && ae F x x' && eJ F lo lo' && eJ F hi hi'
 | .slS x lo hi,.slice t x' lo' hi' none=>i7 P t && ae F x x' && eJ F lo lo' && eJ F hi hi'
 | .slA len sz x,.slice t x' none none none=>fc P t len sz && ae F x x'
 | .cvS x,.convert src dst x'=>sj P src dst && ae F x x'
 | .mn x y,.call { callee:=.builtin .min,args:=⟨[x',y']⟩,argTypes:=_ }=>ae F x x' && ae F y y'
 | .mx x y,.call { callee:=.builtin .max,args:=⟨[x',y']⟩,argTypes:=_ }=>ae F x x' && ae F y y'
 | .beq neg ks x y,.binOp op t x' y' _=>op == (if neg then .neq else .eql) && mN P t ks && ae F x x' && ae F y y'
 | .add64 x y c,.call { callee:=.value (.func fi),args:=⟨[x',y',c']⟩,argTypes:=_ }=>mj P fi "math/bits.Add64" && ae F x x' && ae F y y' && ae F c c'
 | .sub64 x y c,.call { callee:=.value (.func fi),args:=⟨[x',y',c']⟩,argTypes:=_ }=>mj P fi "math/bits.Sub64" && ae F x x' && ae F y y' && ae F c c'
 | .mpl sh kt et ok z m x,.lookup t m' x' ok'=>ok == ok' && mapOk F t kt et sh z && ae F m m' && ae F x x'
 | _,_=>false
end
end Go.Gv

namespace Go.Gv
open Go.RowKit
section
variable {C : Nat -> List D -> D -> List D -> Prop} {f : Nat -> D}
theorem fM {K K' : Nat -> Prop} {x : Option Opd} {n : Nat} (h : c9 f x n K) (hk : ∀ m,K m -> K' m) : c9 f x n K':=by
 unfold c9 at h ⊢
 split at h
 ·exact hk _ h
 ·split at h
  ·exact ⟨h.1,hk _ h.2⟩
  ·exact h.elim
theorem da {K : Nat -> Prop} {x : Option Opd} {n : Nat} (h : c9 f x n K) : ∃ m,K m /\ ∀ K',K' m -> c9 f x n K':=by
 unfold c9 at h ⊢
 split at h
 ·exact ⟨_,h,fun K' hk=>hk⟩
 ·split at h
  ·exact ⟨_,h.2,fun K' hk=>⟨h.1,hk⟩⟩
  ·exact h.elim
theorem iZ {K : D -> Prop} {o : NOp} (h : res f K o) : ∃ d,K d /\ ∀ K' : D -> Prop,K' d -> res f K' o:=by
 cases o with
 | mov x=>simp only [res] at h ⊢;exact ⟨_,h.2,fun K' hk=>⟨h.1,hk⟩⟩
 | nck x =>
  simp only [res] at h ⊢
  split at h
  ·exact ⟨_,h,fun K' hk=>hk⟩
  ·exact ⟨_,h,fun K' hk=>hk⟩
  ·exact ⟨_,h,fun K' hk=>hk⟩
  ·exact h.elim
 | pick c a b =>
  simp only [res] at h ⊢
  split at h
  ·rename_i v _
   cases v
   ·obtain ⟨h1,h2⟩:=h.2 rfl;exact ⟨_,h2,fun K' hk=>⟨fun e=>(by cases e),fun _=>⟨h1,hk⟩⟩⟩
   ·obtain ⟨h1,h2⟩:=h.1 rfl;exact ⟨_,h2,fun K' hk=>⟨fun _=>⟨h1,hk⟩,fun e=>(by cases e)⟩⟩
  ·exact h.elim
 | bin op x y =>
  simp only [res] at h ⊢
  split at h
  ·cases op <;> simp only [] at h ⊢ <;> first | exact ⟨_,h.2,fun K' hk=>⟨h.1,hk⟩⟩ | exact ⟨_,h.2.2,fun K' hk=>⟨h.1,h.2.1,hk⟩⟩
  ·cases op <;> simp only [] at h ⊢ <;> first | exact h.elim | exact ⟨_,h,fun K' hk=>hk⟩ | exact ⟨_,h.2,fun K' hk=>⟨h.1,hk⟩⟩
  ·exact h.elim
 | beq neg ks x y =>
  simp only [res] at h ⊢
  split at h
  ·exact ⟨_,h.2,fun K' hk=>⟨h.1,hk⟩⟩
  ·obtain ⟨h0,h⟩:=h
   split at h
   ·exact ⟨_,h,fun K' hk=>⟨h0,hk⟩⟩
   ·exact h.elim
  ·exact ⟨_,h.2,fun K' hk=>⟨h.1,hk⟩⟩
  ·rename_i es _ _
   rcases Nat.eq_zero_or_pos es.length with h0 | h0
   ·exact ⟨_,h.2.2 h0,fun K' hk=>⟨h.1,fun h1=>absurd h1 (by omega),fun _=>hk⟩⟩
   ·exact ⟨_,h.2.1 h0,fun K' hk=>⟨h.1,fun _=>hk,fun h1=>absurd h1 (by omega)⟩⟩
  ·exact ⟨_,h.2,fun K' hk=>⟨h.1,hk⟩⟩
  ·exact ⟨_,h.2,fun K' hk=>⟨h.1,hk⟩⟩
  ·exact h.elim
 | un op x =>
  simp only [res] at h ⊢
  split at h
  ·cases op <;> simp only [] at h ⊢ <;> first | exact h.elim | exact ⟨_,h,fun K' hk=>hk⟩
  ·cases op <;> simp only [] at h ⊢ <;> first | exact h.elim | exact ⟨_,h,fun K' hk=>hk⟩
  ·exact h.elim
 | conv k x =>
  simp only [res] at h ⊢
  split at h
  ·exact ⟨_,h,fun K' hk=>hk⟩
  ·exact h.elim
 | fld off n ag x =>
  simp only [res] at h ⊢
  split at h
  ·exact ⟨_,h.2,fun K' hk=>⟨h.1,hk⟩⟩
  ·cases ag <;> exact ⟨_,h.2,fun K' hk=>⟨h.1,hk⟩⟩
  ·exact h.elim
 | idxA len sz ag x i =>
  simp only [res] at h ⊢
  split at h
  ·exact ⟨_,h.2.2.2,fun K' hk=>⟨h.1,h.2.1,h.2.2.1,hk⟩⟩
  ·cases ag <;> exact ⟨_,h.2.2.2,fun K' hk=>⟨h.1,h.2.1,h.2.2.1,hk⟩⟩
  ·exact h.elim
 | slA len sz x =>
  simp only [res] at h ⊢
  split at h
  ·exact ⟨_,h.2.2.2,fun K' hk=>⟨h.1,h.2.1,h.2.2.1,hk⟩⟩
  ·exact h.elim
 | cvS x =>
  simp only [res] at h ⊢
  split at h
  ·exact ⟨_,h.2.2,fun K' hk=>⟨h.1,h.2.1,hk⟩⟩
  ·exact h.elim
 | idxS x i =>
  simp only [res] at h ⊢
  split at h
  ·obtain ⟨h0,b,h1,h2⟩:=h;exact ⟨_,h2,fun K' hk=>⟨h0,b,h1,hk⟩⟩
  ·exact h.elim
 | ext i x =>
  simp only [res] at h ⊢
  split at h
  ·obtain ⟨d,h1,h3⟩:=h;exact ⟨d,h3,fun K' hk=>⟨d,h1,hk⟩⟩
  ·obtain ⟨d,h1,h3⟩:=h;exact ⟨d,h3,fun K' hk=>⟨d,h1,hk⟩⟩
  ·exact h.elim
 | mkI T x =>
  simp only [res] at h ⊢
  split at h
  ·exact ⟨_,h,fun K' hk=>hk⟩
  ·exact ⟨_,h.2,fun K' hk=>⟨h.1,hk⟩⟩
  ·exact h.elim
 | tya T x =>
  simp only [res] at h ⊢
  split at h
  ·exact ⟨_,h.2,fun K' hk=>⟨h.1,hk⟩⟩
  ·exact h.elim
 | fad off x =>
  simp only [res] at h ⊢
  split at h
  ·exact ⟨_,h,fun K' hk=>hk⟩
  ·exact ⟨_,h,fun K' hk=>hk⟩
  ·exact ⟨_,h,fun K' hk=>hk⟩
  ·exact h.elim
 | iadS sz x i =>
  simp only [res] at h ⊢
  split at h
  ·obtain ⟨h0,e,h1,h2,h3⟩:=h;exact ⟨_,h3,fun K' hk=>⟨h0,e,h1,h2,hk⟩⟩
  ·obtain ⟨h0,e,h1,h2,h3⟩:=h;exact ⟨_,h3,fun K' hk=>⟨h0,e,h1,h2,hk⟩⟩
  ·obtain ⟨h0,h1,h2,h3⟩:=h;exact ⟨_,h3,fun K' hk=>⟨h0,h1,h2,hk⟩⟩
  ·obtain ⟨h0,h1,h2⟩:=h
   split at h2
   ·exact ⟨_,h2.2,fun K' hk=>⟨h0,h1,h2.1,hk⟩⟩
   ·exact h2.elim
  ·exact h.elim
 | iadA len sz x i =>
  simp only [res] at h ⊢
  split at h
  ·exact ⟨_,h.2.2,fun K' hk=>⟨h.1,h.2.1,hk⟩⟩
  ·exact ⟨_,h.2.2,fun K' hk=>⟨h.1,h.2.1,hk⟩⟩
  ·exact h.elim
 | ld n ag x =>
  simp only [res] at h ⊢
  split at h
  ·rename_i p i off ex
   split at h
   ·obtain ⟨r,h1,h2,h3⟩:=h
    cases ag with
    | false=>exact ⟨_,h3,fun K' hk=>⟨r,h1,h2,hk⟩⟩
    | true =>
     cases hall : (((r.drop off).take n).all isV) with
     | true=>exact ⟨_,h3.1 hall,fun K' hk=>⟨r,h1,h2,fun _=>hk,fun e=>(by rw [hall] at e;cases e)⟩⟩
     | false=>exact ⟨_,h3.2 hall,fun K' hk=>⟨r,h1,h2,fun e=>(by rw [hall] at e;cases e),fun _=>hk⟩⟩
   ·exact h.elim
  ·exact ⟨_,h.2,fun K' hk=>⟨h.1,hk⟩⟩
  ·rename_i ds ex
   obtain ⟨h0,h⟩:=h
   cases ag with
   | false=>exact ⟨_,h.2,fun K' hk=>⟨h0,h.1,hk⟩⟩
   | true =>
    cases hall : (ds.take n).all isV with
    | true=>exact ⟨_,h.1 hall,fun K' hk=>⟨h0,fun _=>hk,fun e=>(by cases e)⟩⟩
    | false=>exact ⟨_,h.2 hall,fun K' hk=>⟨h0,fun e=>(by cases e),fun _=>hk⟩⟩
  ·exact h.elim
 | blsF sz len zs parts =>
  simp only [res] at h ⊢
  exact ⟨_,h.2.2.2,fun K' hk=>⟨h.1,h.2.1,h.2.2.1,hk⟩⟩
 | blsX sz len zs parts =>
  simp only [res] at h ⊢
  exact ⟨_,h.2.2,fun K' hk=>⟨h.1,h.2.1,hk⟩⟩
 | boxF x =>
  simp only [res] at h ⊢
  split at h
  ·exact ⟨_,h,fun K' hk=>hk⟩
  ·exact ⟨_,h,fun K' hk=>hk⟩
  ·exact ⟨_,h.2,fun K' hk=>⟨h.1,hk⟩⟩
 | bld zs parts =>
  simp only [res] at h ⊢
  obtain ⟨h1,h2,h3⟩:=h
  cases hall : (parts.all fun p=>isV (vd f p.2.2)) with
  | true=>exact ⟨_,h2 hall,fun K' hk=>⟨h1,fun _=>hk,fun e=>(by cases e)⟩⟩
  | false=>exact ⟨_,h3 hall,fun K' hk=>⟨h1,fun e=>(by cases e),fun _=>hk⟩⟩
 | len x =>
  simp only [res] at h ⊢
  split at h
  ·exact ⟨_,h,fun K' hk=>hk⟩
  ·exact ⟨_,h,fun K' hk=>hk⟩
  ·exact ⟨_,h,fun K' hk=>hk⟩
  ·exact ⟨_,h,fun K' hk=>hk⟩
  ·exact h.elim
 | lens x =>
  simp only [res] at h ⊢
  split at h
  ·exact ⟨_,h,fun K' hk=>hk⟩
  ·exact h.elim
 | mk g xs =>
  simp only [res] at h ⊢
  obtain ⟨h1,h2,h3⟩:=h
  cases hall : (xs.all fun x=>isV (vd f x)) with
  | true=>exact ⟨_,h2 hall,fun K' hk=>⟨h1,fun _=>hk,fun e=>(by cases e)⟩⟩
  | false=>exact ⟨_,h3 hall,fun K' hk=>⟨h1,fun e=>(by cases e),fun _=>hk⟩⟩
 | slc sz x lo hi =>
  simp only [res] at h ⊢
  split at h
  ·obtain ⟨hz,h⟩:=h
   obtain ⟨m,h1,h2⟩:=da h
   obtain ⟨l,⟨h3,h4,h5⟩,h6⟩:=da h1
   exact ⟨_,h5,fun K' hk=>⟨hz,h2 _ (h6 _ ⟨h3,h4,hk⟩)⟩⟩
  ·obtain ⟨m,h1,h2⟩:=da h
   obtain ⟨l,⟨h3,h4,h5⟩,h6⟩:=da h1
   exact ⟨_,h5,fun K' hk=>h2 _ (h6 _ ⟨h3,h4,hk⟩)⟩
  ·split at h
   ·obtain ⟨hz,h⟩:=h
    obtain ⟨m,h1,h2⟩:=da h
    obtain ⟨l,⟨h3,h4,h5⟩,h6⟩:=da h1
    exact ⟨_,h5,fun K' hk=>⟨hz,h2 _ (h6 _ ⟨h3,h4,hk⟩)⟩⟩
   ·exact h.elim
  ·exact h.elim
 | slS x lo hi =>
  simp only [res] at h ⊢
  split at h
  ·obtain ⟨m,h1,h2⟩:=da h
   obtain ⟨l,⟨h3,h4,h5⟩,h6⟩:=da h1
   exact ⟨_,h5,fun K' hk=>h2 _ (h6 _ ⟨h3,h4,hk⟩)⟩
  ·exact h.elim
 | mn x y =>
  simp only [res] at h ⊢
  split at h
  ·exact ⟨_,h.2,fun K' hk=>⟨h.1,hk⟩⟩
  ·exact h.elim
 | mx x y =>
  simp only [res] at h ⊢
  split at h
  ·exact ⟨_,h.2,fun K' hk=>⟨h.1,hk⟩⟩
  ·exact h.elim
 | add64 x y c =>
  simp only [res] at h ⊢
  split at h
  ·obtain ⟨h1,h2,h3,h4,h5,h6,h7⟩:=h;exact ⟨_,h7,fun K' hk=>⟨h1,h2,h3,h4,h5,h6,hk⟩⟩
  ·exact h.elim
 | sub64 x y c =>
  simp only [res] at h ⊢
  split at h
  ·obtain ⟨h1,h2,h3,h4,h5,h6,h7⟩:=h;exact ⟨_,h7,fun K' hk=>⟨h1,h2,h3,h4,h5,h6,hk⟩⟩
  ·exact h.elim
 | mpl sh kt et ok z m x =>
  simp only [res] at h ⊢
  split at h
  ·split at h
   ·obtain ⟨h1,h2,h3,h⟩:=h
    cases ok <;> exact ⟨_,h,fun K' hk=>⟨h1,h2,h3,hk⟩⟩
   ·exact h.elim
  ·exact h.elim
 | _=>simp only [res] at h
theorem jd {d : D} {K : D -> List Nat -> Prop} (h : c8 f d K) : ∃ c bs,K c bs /\ ∀ K',K' c bs -> c8 f d K':=by
 unfold c8 at h ⊢
 split at h
 ·obtain ⟨h0,h⟩:=h
  split at h
  ·exact ⟨_,_,h.2.2,fun K' hk=>⟨h0,h.1,h.2.1,hk⟩⟩
  ·exact h.elim
 ·exact ⟨_,_,h.2,fun K' hk=>⟨h.1,hk⟩⟩
theorem je : ∀ {ds : List D} {K : List D -> List Nat -> Prop},jM f ds K -> ∃ cs bs,K cs bs /\ ∀ K',K' cs bs -> jM f ds K'
 | [],K,h=>⟨_,_,h,fun K' hk=>hk⟩
 | d::ds,K,h=>by
  obtain ⟨c,bs,h1,h2⟩:=jd h
  obtain ⟨cs,bs',h3,h4⟩:=je h1
  exact ⟨_,_,h3,fun K' hk=>h2 _ (h4 _ hk)⟩
theorem f9 {d : D} {ns : List Nat} {K : List D -> List Nat -> Prop} (h : eA f d ns K) : ∃ cs bs,K cs bs /\ ∀ K',K' cs bs -> eA f d ns K':=by
 unfold eA at h ⊢
 split at h
 ·exact ⟨_,_,h.2.2,fun K' hk=>⟨h.1,h.2.1,hk⟩⟩
 ·obtain ⟨cs,bs,h1,h2⟩:=je h.2
  exact ⟨_,_,h1.2,fun K' hk=>⟨h.1,h2 _ ⟨h1.1,hk⟩⟩⟩
 ·obtain ⟨c,bs,h1,h2⟩:=jd h.2
  exact ⟨_,_,h1,fun K' hk=>⟨h.1,h2 _ hk⟩⟩
theorem lp {sz : Nat} {ns : List Nat} : ∀ {ps : List (Nat × Opd)} {es : List (List D)} {bs : List Nat} {K : List (List D) -> List Nat -> Prop},d6 f sz ns ps es bs K -> ∃ es' bs',K es' bs' /\ ∀ K',K' es' bs' -> d6 f sz ns ps es bs K'
 | [],es,bs,K,h=>⟨_,_,h,fun K' hk=>hk⟩
 | (i,x)::ps,es,bs,K,h=>by
  obtain ⟨h0,h⟩:=h
  obtain ⟨cs,b1,⟨h1,h1'⟩,h2⟩:=f9 h
  obtain ⟨es',bs',h3,h4⟩:=lp h1'
  exact ⟨_,_,h3,fun K' hk=>⟨h0,h2 _ ⟨h1,h4 _ hk⟩⟩⟩
theorem dh {mv : Bool} {d : D} {sz : Nat} {K : List (List D) -> List Nat -> Prop} (h : ef f mv d sz K) : ∃ es bs,K es bs /\ ∀ K',K' es bs -> ef f mv d sz K':=by
 unfold ef at h ⊢
 split at h
 ·exact ⟨_,_,h,fun K' hk=>hk⟩
 ·exact ⟨_,_,h.2,fun K' hk=>⟨h.1,hk⟩⟩
 ·cases mv with
  | true =>
   obtain ⟨h0,h⟩:=h
   split at h
   ·split at h
    ·exact ⟨_,_,h.2.2.2,fun K' hk=>⟨h0,h.1,h.2.1,h.2.2.1,hk⟩⟩
    ·exact h.elim
   ·exact h.elim
  | false =>
   simp only at h ⊢
   split at h
   ·exact ⟨_,_,h.2.2.2,fun K' hk=>⟨h.1,h.2.1,h.2.2.1,hk⟩⟩
   ·exact h.elim
 ·exact h.elim
theorem ox {dst : Option Nat} {K : List (Nat × D) -> List (Nat × Bool) -> Prop} {o : NOp} (h : aq C f dst K o) : ∃ ws ks,K ws ks /\ ∀ K' : List (Nat × D) -> List (Nat × Bool) -> Prop,K' ws ks -> aq C f dst K' o:=by
 have dk : ∀ {d : D},cA dst K d -> ∃ ws ks,K ws ks /\ ∀ K' : List (Nat × D) -> List (Nat × Bool) -> Prop,K' ws ks -> cA dst K' d:=fun {d} h=>by
  unfold cA at h ⊢
  split at h
  ·exact ⟨_,_,h,fun K' hk=>hk⟩
  ·exact ⟨_,_,h,fun K' hk=>hk⟩
 have gen : ∀ (o : NOp),res f (cA dst K) o -> ∃ ws ks,K ws ks /\ ∀ K' : List (Nat × D) -> List (Nat × Bool) -> Prop,K' ws ks -> res f (cA dst K') o:=by
  intro o h
  obtain ⟨d,h1,h2⟩:=iZ h
  obtain ⟨ws,ks,h3,h4⟩:=dk h1
  exact ⟨ws,ks,h3,fun K' hk=>h2 _ (h4 K' hk)⟩
 cases o with
 | frz x =>
  clear gen dk
  cases dst with
  | none=>exact h.elim
  | some t =>
   simp only [aq] at h ⊢
   split at h
   ·exact ⟨_,_,h.2,fun K' hk=>⟨h.1,hk⟩⟩
   ·exact ⟨_,_,h.2,fun K' hk=>⟨h.1,hk⟩⟩
 | ldQ q x =>
  clear gen
  simp only [aq] at h ⊢
  split at h
  ·obtain ⟨h1,h⟩:=h
   split at h
   ·obtain ⟨r,h2,d,h3,h⟩:=h
    obtain ⟨ws,ks,h4,h5⟩:=dk h
    exact ⟨ws,ks,h4,fun K' hk=>⟨h1,r,h2,d,h3,h5 K' hk⟩⟩
   ·exact h.elim
  ·exact h.elim
 | appQ q sz by_ x y =>
  clear gen dk
  cases dst with
  | none=>exact h.elim
  | some t =>
   simp only [aq] at h ⊢
   split at h
   ·obtain ⟨h0,h⟩:=h
    obtain ⟨rows,bs,⟨h1,h2,h⟩,hg⟩:=dh h
    split at h
    ·obtain ⟨row0,h3,es,h4,h5,h6,h7⟩:=h
     exact ⟨_,_,h7,fun K' hk=>⟨h0,hg _ ⟨h1,h2,row0,h3,es,h4,h5,h6,hk⟩⟩⟩
    ·exact h.elim
   ·exact h.elim
 | cpy sz x y =>
  clear gen dk
  cases dst with
  | none=>exact h.elim
  | some t =>
   simp only [aq] at h ⊢
   obtain ⟨rows,bs,⟨h1,h2,h⟩,hg⟩:=dh h
   split at h
   ·rename_i b k n _
    rcases Nat.eq_zero_or_pos n with hn | hn
    ·exact ⟨_,_,h.1 hn,fun K' hk=>hg _ ⟨h1,h2,fun _=>hk,fun h3=>absurd hn (by omega)⟩⟩
    ·have h:=h.2 hn
     split at h
     ·obtain ⟨h3,h5,h6,h7,h8⟩:=h
      exact ⟨_,_,h8,fun K' hk=>hg _ ⟨h1,h2,fun h4=>absurd h4 (by omega),fun _=>⟨h3,h5,h6,h7,hk⟩⟩⟩
     ·exact h.elim
   ·exact h.elim
 | ldM n x =>
  clear gen dk
  cases dst with
  | none=>exact h.elim
  | some t =>
   simp only [aq] at h ⊢
   split at h
   ·obtain ⟨h1,h2,h⟩:=h
    split at h
    ·obtain ⟨h3,h4,h5,h6⟩:=h
     exact ⟨_,_,h6,fun K' hk=>⟨h1,h2,h3,h4,h5,hk⟩⟩
    ·exact h.elim
   ·exact h.elim
 | stL x y =>
  clear gen dk
  simp only [aq] at h ⊢
  obtain ⟨h0,h⟩:=h
  split at h
  ·obtain ⟨h1,h2,h3,h4,h⟩:=h
   split at h
   ·obtain ⟨row0,h5,sz,es,h6,h7,h8⟩:=h
    exact ⟨_,_,h8,fun K' hk=>⟨h0,h1,h2,h3,h4,row0,h5,sz,es,h6,h7,hk⟩⟩
   ·exact h.elim
  ·exact h.elim
 | stF n x y =>
  clear gen dk
  simp only [aq] at h ⊢
  obtain ⟨h0,h⟩:=h
  split at h
  ·obtain ⟨h1,h⟩:=h
   split at h
   ·obtain ⟨h2,h3,h⟩:=h
    split at h
    ·obtain ⟨h4,ds,h5,h6,h7,h8⟩:=h
     exact ⟨_,_,h8,fun K' hk=>⟨h0,h1,h2,h3,h4,ds,h5,h6,h7,hk⟩⟩
    ·exact h.elim
   ·exact h.elim
  ·exact h.elim
 | stP x y =>
  clear gen dk
  simp only [aq] at h ⊢
  obtain ⟨h0,h⟩:=h
  split at h
  ·obtain ⟨h1,h⟩:=h
   split at h
   ·obtain ⟨h2,h3,h⟩:=h
    split at h
    ·obtain ⟨h4,h⟩:=h
     split at h
     ·obtain ⟨h5,h⟩:=h
      split at h
      ·obtain ⟨row0,h6,sz1,es,h7,r,h8,h9,h10⟩:=h
       exact ⟨_,_,h10,fun K' hk=>⟨h0,h1,h2,h3,h4,h5,row0,h6,sz1,es,h7,r,h8,h9,hk⟩⟩
      ·exact h.elim
     ·exact h.elim
    ·exact h.elim
   ·exact h.elim
  ·exact h.elim
 | ldF n x =>
  clear gen dk
  cases dst with
  | none=>exact h.elim
  | some t =>
   simp only [aq] at h ⊢
   split at h
   ·split at h
    ·obtain ⟨r,h1,h2,h3⟩:=h
     exact ⟨_,_,h3,fun K' hk=>⟨r,h1,h2,hk⟩⟩
    ·exact h.elim
   ·exact h.elim
 | asg x =>
  clear gen dk
  cases dst with
  | none=>exact h.elim
  | some t =>
   simp only [aq] at h ⊢
   split at h
   ·split at h
    ·rename_i e
     exact ⟨_,_,h,fun K' hk=>by rw [if_pos e];exact hk⟩
    ·rename_i e
     split at h
     ·exact ⟨_,_,h,fun K' hk=>by rw [if_neg e];exact hk⟩
     ·exact h.elim
   ·exact ⟨_,_,h.2,fun K' hk=>⟨h.1,hk⟩⟩
 | nilo sz =>
  clear gen dk
  simp only [aq] at h ⊢
  split at h
  ·exact ⟨_,_,h.2,fun K' hk=>⟨h.1,hk⟩⟩
  ·exact h.elim
 | box ns x =>
  clear gen dk
  simp only [aq] at h ⊢
  split at h
  ·obtain ⟨cs,bs,⟨h1,h2⟩,h3⟩:=f9 h
   exact ⟨_,_,h2,fun K' hk=>h3 _ ⟨h1,hk⟩⟩
  ·exact h.elim
 | alc zs =>
  clear gen dk
  simp only [aq] at h ⊢
  split at h
  ·exact ⟨_,_,h,fun K' hk=>hk⟩
  ·exact h.elim
 | mkm kt et =>
  clear gen dk
  simp only [aq] at h ⊢
  split at h
  ·exact ⟨_,_,h,fun K' hk=>hk⟩
  ·exact h.elim
 | slM len sz x =>
  clear gen dk
  simp only [aq] at h ⊢
  split at h
  ·split at h
   ·obtain ⟨h1,h2,h3,h⟩:=h
    split at h
    ·obtain ⟨h4,h5,h6,h7,h⟩:=h
     exact ⟨_,_,h,fun K' hk=>⟨h1,h2,h3,h4,h5,h6,h7,hk⟩⟩
    ·exact h.elim
   ·exact h.elim
  ·exact h.elim
 | mpu sh kt et z m x v =>
  clear gen dk
  simp only [aq] at h ⊢
  obtain ⟨h0,h⟩:=h
  split at h
  ·split at h
   ·obtain ⟨h1,h2,h3,h4,h5,h⟩:=h
    exact ⟨_,_,h,fun K' hk=>⟨h0,h1,h2,h3,h4,h5,hk⟩⟩
   ·exact h.elim
  ·exact h.elim
 | callS g x xs =>
  clear gen dk
  simp only [aq] at h ⊢
  split at h
  ·obtain ⟨h2,h⟩:=h
   split at h
   ·obtain ⟨h3,h4,h9,h⟩:=h
    split at h
    ·obtain ⟨es',h5,h6,h8,h7,h⟩:=h
     exact ⟨_,_,h,fun K' hk=>⟨h2,h3,h4,h9,es',h5,h6,h8,h7,hk⟩⟩
    ·rcases h with ⟨es',h5,h6,h8,h7,h⟩ | ⟨hb,hz,es',h6,h8,h7,h⟩
     ·exact ⟨_,_,h,fun K' hk=>⟨h2,h3,h4,h9,.inl ⟨es',h5,h6,h8,h7,hk⟩⟩⟩
     ·exact ⟨_,_,h,fun K' hk=>⟨h2,h3,h4,h9,.inr ⟨hb,hz,es',h6,h8,h7,hk⟩⟩⟩
   ·exact h.elim
  ·exact h.elim
 | callN g x xs =>
  clear gen dk
  simp only [aq] at h ⊢
  split at h
  ·obtain ⟨h2,h⟩:=h
   split at h
   ·obtain ⟨row0,h3,sz,es,h4,h5,h6,es',h7,h8,h9,h⟩:=h
    exact ⟨_,_,h,fun K' hk=>⟨h2,row0,h3,sz,es,h4,h5,h6,es',h7,h8,h9,hk⟩⟩
   ·exact h.elim
  ·exact h.elim
 | callE g x xs =>
  clear gen dk
  simp only [aq] at h ⊢
  split at h
  ·split at h
   ·split at h
    ·obtain ⟨h1,h2,h3,h4,h5,es',h6,h7,h⟩:=h
     exact ⟨_,_,h,fun K' hk=>⟨h1,h2,h3,h4,h5,es',h6,h7,hk⟩⟩
    ·exact h.elim
   ·exact h.elim
  ·exact h.elim
 | callA g xs =>
  clear gen dk
  simp only [aq] at h ⊢
  obtain ⟨h0,h⟩:=h
  rcases h with ⟨d,h1,h⟩ | h
  ·unfold cA at h ⊢
   split at h
   ·exact ⟨_,_,h,fun K' hk=>⟨h0,.inl ⟨d,h1,hk⟩⟩⟩
   ·exact ⟨_,_,h,fun K' hk=>⟨h0,.inl ⟨d,h1,hk⟩⟩⟩
  ·split at h
   ·obtain ⟨R,h1,h2,h⟩:=h
    exact ⟨_,_,h,fun K' hk=>⟨h0,.inr ⟨R,h1,h2,hk⟩⟩⟩
   ·exact h.elim
 | callI g m T x xs =>
  clear gen dk
  simp only [aq] at h ⊢
  split at h
  ·obtain ⟨h0,h1,h2,h⟩:=h
   split at h
   ·obtain ⟨h3,h4,d,es',h5,h6,h⟩:=h
    exact ⟨_,_,h,fun K' hk=>⟨h0,h1,h2,h3,h4,d,es',h5,h6,hk⟩⟩
   ·exact h.elim
  ·exact h.elim
 | callM g x xs =>
  clear gen dk
  simp only [aq] at h ⊢
  split at h
  ·obtain ⟨h1,h2,h⟩:=h
   split at h
   ·obtain ⟨h3,h4,d,es',h5,h6,h⟩:=h
    exact ⟨_,_,h,fun K' hk=>⟨h1,h2,h3,h4,d,es',h5,h6,hk⟩⟩
   ·exact h.elim
  ·exact h.elim
 | callR g x xs =>
  clear gen dk
  simp only [aq] at h ⊢
  split at h
  ·obtain ⟨h1,h⟩:=h
   split at h
   ·obtain ⟨h3,h3',h4,d,es',h5,h6,h⟩:=h
    exact ⟨_,_,h,fun K' hk=>⟨h1,h3,h3',h4,d,es',h5,h6,hk⟩⟩
   ·exact h.elim
  ·exact h.elim
 | callQ g s x xs =>
  clear gen dk
  simp only [aq] at h ⊢
  split at h
  ·obtain ⟨h1,h2,h3,h4,h5,h⟩:=h
   split at h
   ·split at h
    ·obtain ⟨h6,h7,h8,d,fs',h9,h10,h11,h⟩:=h
     exact ⟨_,_,h,fun K' hk=>⟨h1,h2,h3,h4,h5,h6,h7,h8,d,fs',h9,h10,h11,hk⟩⟩
    ·exact h.elim
   ·exact h.elim
  ·exact h.elim
 | boxK s x =>
  clear gen dk
  cases dst with
  | none=>exact h.elim
  | some t =>
   simp only [aq] at h ⊢
   obtain ⟨h1,h2,h⟩:=h
   split at h
   ·rename_i c k n _
    obtain ⟨h3,h4,h⟩:=h
    split at h
    ·obtain ⟨h6,h7,h8,h⟩:=h
     split at h
     ·obtain ⟨h9,h⟩:=h
      by_cases hn : n=0
      ·rw [if_pos hn] at h
       exact ⟨_,_,h,fun K' hk=>⟨h1,h2,h3,h4,h6,h7,h8,h9,by rw [if_pos hn];exact hk⟩⟩
      ·rw [if_neg hn] at h
       exact ⟨_,_,h,fun K' hk=>⟨h1,h2,h3,h4,h6,h7,h8,h9,by rw [if_neg hn];exact hk⟩⟩
     ·exact h.elim
    ·exact h.elim
   ·exact h.elim
 | callL g x xs =>
  clear gen dk
  simp only [aq] at h ⊢
  split at h
  ·obtain ⟨h1,h2,h⟩:=h
   split at h
   ·obtain ⟨h3,h4,d,es',h5,h6,h⟩:=h
    exact ⟨_,_,h,fun K' hk=>⟨h1,h2,h3,h4,d,es',h5,h6,hk⟩⟩
   ·exact h.elim
  ·exact h.elim
 | clr zs x =>
  clear gen dk
  simp only [aq] at h ⊢
  split at h
  ·exact ⟨_,_,h,fun K' hk=>hk⟩
  ·split at h
   ·obtain ⟨h1,h2,h3,h4,h⟩:=h
    exact ⟨_,_,h,fun K' hk=>⟨h1,h2,h3,h4,hk⟩⟩
   ·exact h.elim
  ·split at h
   ·obtain ⟨row0,h1,sz,es,h2,h3,h4,h5,h⟩:=h
    exact ⟨_,_,h,fun K' hk=>⟨row0,h1,sz,es,h2,h3,h4,h5,hk⟩⟩
   ·exact h.elim
  ·exact h.elim
 | callF g xs =>
  clear gen dk
  simp only [aq] at h ⊢
  obtain ⟨h0,h⟩:=h
  split at h
  ·obtain ⟨sz,es,h1,h2⟩:=h
   exact ⟨_,_,h2,fun K' hk=>⟨h0,sz,es,h1,hk⟩⟩
  ·exact h.elim
 | bls sz len zs ns parts =>
  clear gen dk
  simp only [aq] at h ⊢
  split at h
  ·obtain ⟨es,bs,⟨h1,h2,h3⟩,h4⟩:=lp h
   exact ⟨_,_,h3,fun K' hk=>h4 _ ⟨h1,h2,hk⟩⟩
  ·exact h.elim
 | mks sz by_ zs n c =>
  clear gen dk
  simp only [aq] at h ⊢
  split at h
  ·split at h
   ·exact ⟨_,_,h.2.2.2,fun K' hk=>⟨h.1,h.2.1,h.2.2.1,hk⟩⟩
   ·exact h.elim
  ·exact h.elim
 | st n ns a v =>
  simp only [aq] at h ⊢
  obtain ⟨h0,h⟩:=h
  obtain ⟨cs,bs,⟨h1,h2⟩,h3⟩:=f9 h
  split at h2
  ·obtain ⟨h4,h2⟩:=h2
   split at h2
   ·rename_i hf
    obtain ⟨r,h5,h6,h7⟩:=h2
    exact ⟨_,_,h7,fun K' hk=>⟨h0,h3 _ ⟨h1,h4,⟨r,h5,h6,hk⟩⟩⟩⟩
   ·exact h2.elim
  ·obtain ⟨h4,h4',h2⟩:=h2
   split at h2
   ·rename_i hf
    obtain ⟨row0,h5,sz,es,h6,r,h7,h8,h9⟩:=h2
    exact ⟨_,_,h9,fun K' hk=>⟨h0,h3 _ ⟨h1,h4,h4',⟨row0,h5,sz,es,h6,r,h7,h8,hk⟩⟩⟩⟩
   ·exact h2.elim
  ·exact h2.elim
 | app sz by_ mv x y =>
  clear gen dk
  simp only [aq] at h ⊢
  split at h
  ·obtain ⟨rows,bs,⟨h1,h2⟩,h3⟩:=dh h
   split at h2
   ·exact ⟨_,_,h2.2,fun K' hk=>h3 _ ⟨h1,h2.1,hk⟩⟩
   ·obtain ⟨h4,h5,h2⟩:=h2
    split at h2
    ·rename_i hf
     obtain ⟨h6,h7,h8,h9⟩:=h2
     exact ⟨_,_,h9,fun K' hk=>h3 _ ⟨h1,h4,h5,⟨h6,h7,h8,hk⟩⟩⟩
    ·exact h2.elim
   ·obtain ⟨h4,h5,h2⟩:=h2
    split at h2
    ·rename_i hf
     obtain ⟨row0,h6,es,h7,h8,h9,h10⟩:=h2
     exact ⟨_,_,h10,fun K' hk=>h3 _ ⟨h1,h4,h5,⟨row0,h6,es,h7,h8,h9,hk⟩⟩⟩
    ·exact h2.elim
   ·exact h2.elim
  ·exact h.elim
 | callG g xs =>
  simp only [aq] at h ⊢
  obtain ⟨h0,d,h1,h3⟩:=h
  obtain ⟨ws,ks,h4,h5⟩:=dk h3
  exact ⟨ws,ks,h4,fun K' hk=>⟨h0,d,h1,h5 K' hk⟩⟩
 | call g xs ms =>
  simp only [aq] at h ⊢
  obtain ⟨h0,d,h1,h2,h3⟩:=h
  obtain ⟨ws,ks,h4,h5⟩:=dk h3
  exact ⟨ws,ks,h4,fun K' hk=>⟨h0,d,h1,h2,h5 K' hk⟩⟩
 | callv x xs =>
  simp only [aq] at h ⊢
  split at h
  ·obtain ⟨h0,d,h1,h2,h3⟩:=h
   obtain ⟨ws,ks,h4,h5⟩:=dk h3
   exact ⟨ws,ks,h4,fun K' hk=>⟨h0,d,h1,h2,h5 K' hk⟩⟩
  ·obtain ⟨h0,h0',d,h1,h2,h3⟩:=h
   obtain ⟨ws,ks,h4,h5⟩:=dk h3
   exact ⟨ws,ks,h4,fun K' hk=>⟨h0,h0',d,h1,h2,h5 K' hk⟩⟩
  ·exact h.elim
 | _=>(simp only [aq] at h ⊢;exact gen _ h)
end
end Go.Gv

namespace Go.Gv
open Go.RowKit
section
variable {P : Program} {F : Fid} {C : Nat -> List D -> D -> List D -> Prop} {nt : Nat} {S : Nat -> Prop} {L : Nat -> Option Loc} {w0 : World} {M0 : Mem} {f : Nat -> D} {M : Mem} {a : Act} {w w' : World} {o : Oper} {d : D} {Q : Exit -> Act -> World -> Prop} {ρ : Pa -> Loc} {ω : Nat -> Option Pa} {New : Nat -> Prop} {K : List (Nat × D) -> List (Nat × Bool) -> Prop}
theorem iH {t b : Nat} {d x : D} {q : Nat × D} (hq : isB q.2=true \/ q.2=.any) : eff [(t,d),(b,x)] [(b,true)] (eff [q] [] f)=eff [(t,d),(b,x),q] [(b,true)] f:=by
 funext s
 obtain ⟨c,y⟩:=q
 unfold eff
 by_cases e1 : s=t
 ·subst e1;simp
 ·have h1 : (s == t)=false:=by simpa using e1
  by_cases e2 : s=b
  ·subst e2;simp [List.lookup_cons,h1]
  ·have h2 : (s == b)=false:=by simpa using e2
   by_cases e3 : s=c
   ·subst e3
    simp only [List.lookup_cons,h1,h2,List.lookup_nil,beq_self_eq_true]
    rcases hq with hq | hq
    ·rw [mi hq];rfl
    ·simp only at hq
     subst hq
     simp [aw,co,ay]
   ·have h3 : (s == c)=false:=by simpa using e3
    simp only [List.lookup_cons,h1,h2,h3,List.lookup_nil,jw,Bool.false_eq_true,if_false]
theorem l7 (p : Pa) : (cF f p).1=p.root:=by
 cases p with
 | r c=>rfl
 | n c i o =>
  simp only [cF,Pa.root]
  split <;> rfl
theorem qu (p : Pa) : isB (cF f p).2=true \/ (cF f p).2=.any:=by
 cases p with
 | r c=>exact .inr rfl
 | n c i o =>
  simp only [cF]
  split
  ·exact .inl rfl
  ·exact .inr rfl
theorem sT {b i off sz : Nat} {es : List (List D)} (hg : aL f (.n b i off)=some (sz,es)) : ∃ sz0 es0 row0,f b=.blk sz0 es0 /\ es0[i]? = some row0 /\ row0[off]? = some (.own sz es):=by
 simp only [aL] at hg
 split at hg
 ·rename_i sz' es' e
  split at hg
  ·rename_i sz2 r hr
   simp only [Option.some.injEq,Prod.mk.injEq] at hg
   obtain ⟨rfl,rfl⟩:=hg
   cases hi : es'[i]? with
   | none=>rw [hi] at hr;simp at hr
   | some row =>
    rw [hi] at hr
    exact ⟨sz',es',row,e,hi,by simpa using hr⟩
  ·cases hg
 ·cases hg
theorem SR.leave (h : SR F nt S L w0 M0 f M a w) (ho : Own F L (fun k=>S k \/ w0.heap.size <= k) f M a w ρ ω) {p : Pa} {sz : Nat} {es : List (List D)} (hg : aL f p=some (sz,es)) (hch : Ch S w0 w') (hsz : w.heap.size <= w'.heap.size) (hholds : ∀ p v,M p=some v -> w'.cell? p=some v)
  (hk : ∀ k q,ω k=some q -> q ≠ p -> w'.heap[k]? = w.heap[k]?) : SR F nt S L w0 M0 (eff [cF f p] [] f) M a w' where
 hnt:=h.hnt
 size:=h.size
 defers:=h.defers
 ch:=hch
 holds:=hholds
 ext:=h.ext
 fresh:=h.fresh
 own:=by
  have hp:=bH ho hg
  obtain ⟨sz0,es0,hf⟩:=(ho.get hp hg).2
  have hlk : ∀ s,s ≠ p.root -> [cF f p].lookup s=none:=fun s hs=>by
   have:=ct (b:=(cF f p).1) (d:=(cF f p).2) (s:=s) (by rw [l7];exact hs)
   exact this
  refine ⟨ρ,ω,ho.step (ks:=[]) (fun p hp=>absurd rfl hp) (Mem.le_refl _) hsz (fun t ht=>.inl ?_) (fun c hc=>?_) (fun k q e=>.inl ⟨q,e⟩) ho.apart (fun c l hc hl hB=>⟨rfl,?_⟩)⟩
  ·rcases bl (f:=f) (ks:=[]) (hlk t (by omega)) with h2 | h2
   ·exact .inl h2
   ·exact .inr ⟨h2.1,rfl,h2.2⟩
  ·by_cases e : c=p.root
   ·cases p with
    | r b =>
     left;left
     have e : c=b:=e
     subst e
     rw [aA (d:=.any) (by simp [cF])];rfl
    | n b i off =>
     have e : c=b:=e
     subst e
     right
     obtain ⟨sz1,es1,row0,hf1,hi0,ho0⟩:=sT hg
     have hf1' : f c=.blk sz0 es0:=hf
     rw [hf1'] at hf1
     cases hf1
     have hdd : cF f (.n c i off)=(c,.blk sz0 (aW es0 i off 1 [.any])):=by simp only [cF,hf1']
     have hlt : off < row0.length:=(List.getElem?_eq_some_iff.1 ho0).1
     refine .inl ⟨sz0,aW es0 i off 1 [.any],aA (by rw [hdd];simp),?_⟩
     rcases ho.roots c sz0 es0 hc hf1' with ⟨e0,_⟩ | ⟨hω,h0,vs,T,h1,h2,h3,h4,h5⟩
     ·rw [e0] at hi0;simp at hi0
     ·refine .inr ⟨hω,h0,vs,T,(hk _ _ hω (by simp)).trans h1,h2,by rw [dR];exact h3,en h4 hi0 (by omega) rfl,fun i' r off' d hi hr=>?_⟩
      rcases gW hi0 (show off + 1 <= row0.length by omega) rfl hi hr with ⟨rfl,g1,g2,g3⟩ | ⟨g1,r0,g2,g3⟩
      ·have : off'=off:=by omega
       subst this
       simp at g3
       subst g3
       obtain ⟨v,k1,k2⟩:=h5 i' row0 off' _ hi0 ho0
       exact ⟨v,k1,by simp [bF,ab]⟩
      ·obtain ⟨v,k1,k2⟩:=h5 i' r0 off' d g2 g3
       exact ⟨v,k1,bF.frame k2 (Mem.le_refl _) ⟨rfl,fun e=>⟨e,hk _ _ e (by
        intro h;cases h
        exact g1 ⟨rfl,by omega,by omega⟩)⟩⟩⟩
   ·left
    rcases bx (f:=f) (ks:=[]) (hlk c e) with h1 | h1
    ·exact .inl h1
    ·exact .inr ⟨h1,fun q hq=>⟨rfl,fun e'=>⟨e',hk _ _ e' (by rintro rfl;exact e hq.symm)⟩⟩⟩
  ·by_cases e : c=p.root
   ·rw [e,hf];rfl
   ·rcases bx (f:=f) (ks:=[]) (hlk c e) with h1 | h1
    ·rw [hB] at h1;cases h1
    ·rw [<- h1];exact hB
theorem SR.newRow0 (h : SR F nt S L w0 M0 f M a w) {sz : Nat} {es' : List (List D)} {v : Value} (hu : ∀ e ∈ es',e.length=sz /\ ∀ c ∈ e,aP c=true) (hb : Bel w w') (hn : dF F M w w' sz es' v) {t b' : Nat} (ht : t < nt) (hb0 : 10000 <= b') (hL : L b'=none) :
  SR F nt S L w0 M0 (eff [(t,.ref (.r b') 0 es'.length),(b',.blk sz es')] [(b',true)] f) M (a.put (some t) v) w':=by
 obtain ⟨B,o,T,us,cap,rfl,hB,hh,hcap,⟨hlen,hmc⟩,hrep⟩:=hn
 have hle : o + es'.length * sz <= us.length:=by
  have:=Nat.mul_le_mul_right sz hcap
  omega
 exact h.makeAt (t:=t) (b:=b') (B:=B) (o:=o) (bs:=[]) (es:=es') (sz:=sz) (src:=fun _ _=>none) (vs:=us) (T:=T) (d:=.ref (.r b') 0 es'.length) (v:=.slice (some ⟨B,o,none⟩) es'.length cap) ht hb0 hL hb hB hh hle (fun e he=>(hu e he).1)
  (fun i r off c hi hr=>by
   obtain ⟨u,k1,k2⟩:=hrep i r off c hi hr
   exact ⟨u,k1,.inl ⟨dA ((hu r (List.mem_of_getElem? hi)).2 c (List.mem_of_getElem? hr)),k2⟩⟩) (fun _ _ _ _ _ e=>(by cases e)) (fun _ _ _ e=>(by cases e))
  (fun ρ M e=>by
   rw [ah rfl]
   simp only [al,e]
   exact .inr ⟨cap,by simp,hcap,by simpa using hlen,hmc⟩)
theorem p6 {b : Option Nat} {v : Value} (h : isO d=false) : DP F M w b d v ↔ ab F M d v:=by
 cases d <;> first | exact Iff.rfl | (simp [isO] at h)
theorem pU (h : isV d=true) : isO d=false:=by
 cases d <;> first | rfl | (simp [isV] at h)
theorem fq (hO : Own F L New f M a w ρ ω) {p : Pa} {k n sz : Nat} {es : List (List D)} {v : Value} (hg : aL f p=some (sz,es)) (hkn : k + n <= es.length) (hv : al F M ρ (.ref p k n) v) (hfl : ∀ e ∈ (es.drop k).take n,∀ c ∈ e,isO c=false) :
  (∃ A,v=.slice A 0 0 /\ n=0) \/ ∃ (cap : Nat) (us : List Value) (T : TypeId),v=.slice (some ⟨(ρ p).blk,(ρ p).base + k * sz,none⟩) n cap /\ (n <= cap /\ cap <= 9223372036854775807) /\ (ρ p).base + k * sz + cap * sz <= (ρ p).len /\ ω (ρ p).blk=some p /\ (ρ p).sz=sz /\
   w.heap[(ρ p).blk]? = some (.cells us.toArray T (0,0)) /\ us.length=(ρ p).len /\ (∀ e ∈ es,e.length=sz) /\
   (∀ i r off d,((es.drop k).take n)[i]? = some r -> r[off]? = some d -> ∃ u,us[(ρ p).base + k * sz + i * sz + off]? = some u /\ ab F M d u):=by
 have hp:=bH hO hg
 obtain ⟨hpath,_⟩:=hO.get hp hg
 simp only [al] at hv
 rcases hv with ⟨h0,A,hv⟩ | ⟨cap,hv,hcap,hcl,hmc⟩
 ·exact .inl ⟨A,hv,h0⟩
 ·rcases hpath with ⟨e0,e1,e2,e3⟩ | ⟨hω,g0,us,T,g1,g2,g3,g4,g5⟩
  ·have hn0 : n=0:=by rw [e0] at hkn;simp at hkn;omega
   have hc0 : cap=0:=by
    rw [e1,e2] at hcl
    rcases Nat.eq_zero_or_pos cap with h | h
    ·exact h
    ·have:=Nat.mul_pos (show 0 < k + cap by omega) e3;omega
   subst hc0
   exact .inl ⟨_,by rw [hv,hn0],hn0⟩
  ·have e1 : (k + cap) * sz=k * sz + cap * sz:=Nat.add_mul _ _ _
   rw [g0,e1] at hcl
   refine .inr ⟨cap,us,T,by rw [hv,g0],⟨hcap,hmc⟩,by omega,hω,g0,g1,g2,g4,fun i r off d h1 h2=>?_⟩
   have hin : i < n:=by have:=(List.getElem?_eq_some_iff.1 h1).1;simp at this;omega
   have hO':=hfl r (List.mem_of_getElem? h1) d (List.mem_of_getElem? h2)
   rw [List.getElem?_take_of_lt hin,List.getElem?_drop] at h1
   obtain ⟨u,k1,k2⟩:=g5 (k + i) r off d h1 h2
   refine ⟨u,?_,?_⟩
   ·rw [<- k1,Nat.add_mul];congr 1;omega
   ·cases p with
    | r b =>
     have k2' : bF F M ω ρ w b (k + i) off d u:=k2
     rwa [aR hO'] at k2'
    | n b i' o'=>exact k2
theorem SR.fillN (h : SR F nt S L w0 M0 f M a w) (ho : Own F L (fun k=>S k \/ w0.heap.size <= k) f M a w ρ ω) {b sz0 i0 o0 sz : Nat} {es0 es es' : List (List D)} {row0 : List D} (hf : f b=.blk sz0 es0) (hi0 : es0[i0]? = some row0) (ho0 : row0[o0]? = some (.own sz es)) (hlen : es'.length=es.length)
  (hch : Ch S w0 w') (hsz : w.heap.size <= w'.heap.size) (hholds : ∀ p v,M p=some v -> w'.cell? p=some v) (hnew : bG ω ρ w' (.n b i0 o0) sz es' (fun _ _ d v=>ab F M d v)) (hk : ∀ k q,ω k=some q -> q ≠ .n b i0 o0 -> w'.heap[k]? = w.heap[k]?) :
  SR F nt S L w0 M0 (eff [(b,.blk sz0 (aW es0 i0 o0 1 [.own sz es']))] [] f) M a w' where
 hnt:=h.hnt
 size:=h.size
 defers:=h.defers
 ch:=hch
 holds:=hholds
 ext:=h.ext
 fresh:=h.fresh
 own:=⟨ρ,ω,ho.setN hf hi0 ho0 hlen hsz (Mem.le_refl _) ho.apart hnew hk⟩
theorem nP {dst : Option Nat} {b : Nat} {x : D} : (match dst with | some t=>eff [(t,D.tup [])] [] (eff [(b,x)] [] f) | none=>eff [(b,x)] [] f)=eff (cS dst++[(b,x)]) [] f:=by
 cases dst with
 | none=>rfl
 | some t =>
  funext s
  unfold eff
  by_cases q : s=t
  ·subst q
   simp [cS,List.lookup_cons]
  ·have q1 : (s == t)=false:=by simpa using q
   simp only [cS,List.cons_append,List.nil_append,List.lookup_cons,q1,List.lookup_nil,aw,List.any_nil,Bool.false_eq_true,if_false]
theorem ro {dst : Option Nat} (hC : bi P F C) (h : SR F nt S L w0 M0 f M a w) (hp : ∀ t,o.dst=some t -> t < nt) {g fi : Nat} {x : Opd} {xs : List Opd} {y : Operand} {ys : List Operand} {ts : Array TypeId} (ho : o.op=.call { callee:=.value (.func fi),args:=⟨y::ys⟩,argTypes:=ts }) (hx0 : ae F x y=true) (hx : a7 F xs ys=true)
  (hg : F g=some fi) (hr : match vd f x with
  | .ref (.n b i o) k n=>k=0 /\ match f b with
   | .blk sz0 es0=>∃ row0,es0[i]? = some row0 /\ ∃ sz es,row0[o]? = some (.own sz es) /\ es.length=n /\ (∀ x ∈ xs,isV (vd f x)=true) /\ ∃ es' : List (List D),es'.length=es.length /\ (∀ e ∈ es',e.length=sz /\ ∀ c ∈ e,au c=true) /\
     C g (.own sz es::xs.map (vd f)) .any [.own sz es',.nilp] /\ K (cS dst++[(b,.blk sz0 (aW es0 i o 1 [.own sz es']))]) []
   | _=>False
  | _=>False) (hdst : dst=o.dst:=by rfl) : o.wp P a w (PostX F nt S L w0 M0 f K) Q:=by
 split at hr
 ·rename_i b i0 o0 k n hvx
  obtain ⟨rfl,hr⟩:=hr
  split at hr
  ·rename_i sz0 es0 hf
   obtain ⟨row0,hi0,sz,es,ho0,rfl,hxs,es',hl,hu,hc,hK⟩:=hr
   have hrun : (execOp a.eval o).run P w=(callFunc fi (a.eval y::ys.map a.eval).toArray).run P w:=by
    simp only [execOp,ho,resolve,Act.eval,Deferred.ofValue,Sem.run_bind,Sem.run_pure,Result.andThen_ok,invoke]
    congr 2
    rw [Array.append_empty,Array.empty_append]
    apply Array.ext'
    simp
    cases y <;> simp [Act.eval]
   obtain ⟨ρ,ω,hO⟩:=h.own
   have hb:=hO.big hf
   have hv:=hO.opd hx0
   rw [hvx,ah rfl] at hv
   have hgp : aL f (.n b i0 o0)=some (sz,es):=by simp [aL,hf,hi0,ho0]
   have hpath : bG ω ρ w (.n b i0 o0) sz es (fun _ _ d v=>ab F M d v):=(hO.get (p:=.n b i0 o0) hb hgp).1
   have hnoO : ∀ e ∈ (es.drop 0).take es.length,∀ c ∈ e,isO c=false:=by
    intro e he c hc'
    rw [List.drop_zero,List.take_length] at he
    rcases hpath with ⟨e0,_⟩ | ⟨_,_,vs,T,_,_,_,_,h5⟩
    ·rw [e0] at he;cases he
    ·obtain ⟨i,hi⟩:=List.mem_iff_getElem?.1 he
     obtain ⟨j,hj⟩:=List.mem_iff_getElem?.1 hc'
     obtain ⟨u,_,h6⟩:=h5 i e j c hi hj
     cases c <;> first | rfl | (simp [ab] at h6)
   have hrep : ap F M (xs.map (vd f)) (ys.map a.eval):=by
    have h1:=cx h hx (by rw [List.all_eq_true];exact hxs)
    rwa [List.map_congr_left (g:=vd f) fun x hx'=>by unfold dpv;exact (dJ (hxs x hx')).1] at h1
   have hS:=hC.runsS g fi sz es _ es' hg hc M w _ h.holds hrep
   have fin : ∀ w',SR F nt S L w0 M0 (eff [(b,.blk sz0 (aW es0 i0 o0 1 [.own sz es']))] [] f) M a w' -> PostX F nt S L w0 M0 f K (a.put o.dst (.tuple #[])) w':=fun w' hs=>by
    refine ⟨_,_,M,hK,?_⟩
    rw [<- nP,hdst]
    cases hd : o.dst with
    | none=>simpa [Act.put] using hs
    | some t=>exact hs.put (hp t hd) fun _ _ _=>by rw [ah rfl];simp [al,ab,ap]
   unfold Oper.wp
   rw [hrun,bu (hC.body g fi hg),Oper.upon_enter]
   rcases fq hO hgp (by omega) hv hnoO with ⟨A,hv,hn0⟩ | ⟨cap,us,T,hv,⟨hcap,hmc⟩,hcl,hω,g0,g1,g2,g4,g5⟩
   ·have e : es=[]:=List.eq_nil_of_length_eq_zero hn0
    have e' : es'=[]:=List.eq_nil_of_length_eq_zero (by rw [hl,e];rfl)
    rw [hv]
    refine (hS.1 e A).mono ?_
    rintro e0 w' ⟨rfl,hw⟩
    have h2:=h.grow hw
    refine fin w' (h.fillN hO hf hi0 ho0 hl h2.ch hw.size h2.holds ?_ (fun k q hk _=>hw.block k (hO.lt _ _ hk)))
    rw [e']
    rw [e] at hpath
    exact hpath.frame (ω':=ω) rfl (fun e'=>⟨e',hw.block _ (hO.lt _ _ e')⟩) (fun _ _ _ _ _ _ _ x=>x)
   ·rw [hv]
    simp only [List.drop_zero,List.take_length,Nat.zero_mul,Nat.add_zero] at g5 hcl ⊢
    have hMb : ∀ p : Addr,p.block=(ρ (.n b i0 o0)).blk -> M p=none:=fun p hp=>hO.apart p (.n b i0 o0) (by rw [hp];exact hω)
    refine (hS.2 (ρ (.n b i0 o0)).blk (ρ (.n b i0 o0)).base T us cap hMb (hO.lt _ _ hω) g1 hcap (by rw [g2];exact hcl) g4 g5).mono ?_
    rintro e0 w' ⟨rfl,us',q1,q2,q3,q4⟩
    have hnew:=hO.new _ _ hω
    have hh : ∀ p v,M p=some v -> w'.cell? p=some v:=fun p v hp=>by
     have hne : p.block ≠ (ρ (.n b i0 o0)).blk:=fun e=>by rw [hMb p e] at hp;cases hp
     have h8:=h.holds p v hp
     rw [World.cell?_of_block (q4.block _ (World.block_lt_of_cell? w p h8) hne)]
     exact h8
    refine fin w' (h.fillN hO hf hi0 ho0 hl (h.ch.trans q4 (fun k hk e=>by rcases hnew with h7 | h7;rw [e];exact h7;omega)) q4.size hh (.inr ⟨hω,g0,us',T,q1,by rw [q2,g2],?_,fun e he=>(hu e he).1,fun i r off d h1 h2=>q3 i r off d h1 h2⟩) (fun k q hk hq=>q4.block k (hO.lt _ _ hk) (by rintro rfl;rw [hω] at hk;cases hk;exact hq rfl)))
    rw [hl]
    have:=Nat.mul_le_mul_right sz hcap
    omega
  ·exact hr.elim
 ·exact hr.elim
theorem rh (hC : bi P F C) (h : SR F nt S L w0 M0 f M a w) {t : Nat} (hd : o.dst=some t) (ht : t < nt) (hL : L (rt t 0)=none) {g fi : Nat} {x : Opd} {xs : List Opd} {y : Operand} {ys : List Operand} {ts : Array TypeId} (ho : o.op=.call { callee:=.value (.func fi),args:=⟨y::ys⟩,argTypes:=ts }) (hx0 : ae F x y=true) (hx : a7 F xs ys=true)
  (hg : F g=some fi) (hr : match vd f x with
   | .ref p k n=>match aL f p with
    | some (sz,es)=>k + n <= es.length /\ p.root ≠ rt t 0 /\ 0 < sz /\ (∀ e ∈ (es.drop k).take n,∀ c ∈ e,aP c=true) /\ (∀ x ∈ xs,j9 f p.root x) /\ ∃ es' : List (List D),(∀ e ∈ es',e.length=sz /\ ∀ c ∈ e,aP c=true) /\
      C g (.own sz ((es.drop k).take n)::xs.map (jg f)) .any [.own sz es',.nils,.nils] /\ K [(t,.ref (.r (rt t 0)) 0 es'.length),(rt t 0,.blk sz es'),cF f p] [(rt t 0,true)]
    | none=>False
   | _=>False) : o.wp P a w (PostX F nt S L w0 M0 f K) Q:=by
 split at hr
 ·rename_i p k n hvx
  split at hr
  ·rename_i sz es hgp
   obtain ⟨hkn,hpt,hsz,hfl,harg,es',hu,hc,hK⟩:=hr
   have hrun : (execOp a.eval o).run P w=(callFunc fi (a.eval y::ys.map a.eval).toArray).run P w:=by
    simp only [execOp,ho,resolve,Act.eval,Deferred.ofValue,Sem.run_bind,Sem.run_pure,Result.andThen_ok,invoke]
    congr 2
    rw [Array.append_empty,Array.empty_append]
    apply Array.ext'
    simp
    cases y <;> simp [Act.eval]
   obtain ⟨ρ,ω,hO⟩:=h.own
   have hp:=bH hO hgp
   have hv:=hO.opd hx0
   rw [hvx,ah rfl] at hv
   have hargs : ∀ b : Option Nat,(∀ B,b=some B -> ω B=some p) -> lW F M w b (xs.map (jg f)) (ys.map a.eval):=by
    intro bo hbo
    have hx':=hx
    simp only [a7,Bool.and_eq_true,beq_iff_eq,List.all_eq_true] at hx'
    refine ⟨by simpa using hx'.1,fun i d v h1 h2=>?_⟩
    rw [List.getElem?_map,Option.map_eq_some_iff] at h1 h2
    obtain ⟨x1,h1,rfl⟩:=h1
    obtain ⟨y1,h2,rfl⟩:=h2
    have hok : ae F x1 y1=true:=hx'.2 (x1,y1) (List.mem_iff_getElem?.2 ⟨i,by rw [List.getElem?_zip_eq_some];exact ⟨h1,h2⟩⟩)
    have hE:=harg x1 (List.mem_of_getElem? h1)
    have hV:=hO.opd hok
    have hP:=fun hh=>h.opd hok hh
    unfold j9 at hE
    unfold jg
    revert hE hV hP
    generalize vd f x1=d1
    intro hE hV hP
    cases d1 <;> first | exact (p6 (pU hE)).2 (hP hE) | skip
    rename_i q k1 n1
    cases q with
    | n c i o=>simp [isV] at hE
    | r c =>
     simp only at hE ⊢
     obtain ⟨rfl,hcb,hE⟩:=hE
     split at hE
     ·rename_i sz1 es1 hfc
      obtain ⟨rfl,hfl1⟩:=hE
      have hg1 : aL f (.r c)=some (sz1,es1):=by simp [aL,hfc]
      have hq:=fq hO hg1 (by omega) hV (fun e he c hc=>by
       rw [List.drop_zero,List.take_length] at he
       exact dA (hfl1 e he c hc))
      show _ \/ _
      rcases hq with ⟨A,q1,q2⟩ | ⟨cap,us,T,q1,⟨q2,_⟩,q3,q4,q5,q6,q7,q8,q9⟩
      ·exact .inl ⟨List.eq_nil_of_length_eq_zero q2,A,q1⟩
      ·simp only [List.drop_zero,List.take_length,Nat.zero_mul,Nat.add_zero] at q1 q3 q9
       refine .inr ⟨_,_,T,us,cap,q1,fun e=>?_,q6,q2,by rw [q7];exact q3,q9⟩
       have:=hbo _ e
       rw [q4] at this
       cases this
       exact hcb rfl
     ·exact hE.elim
   have hI:=hC.runsI g fi sz _ _ es' hg hc M w (ys.map a.eval) h.holds
   unfold Oper.wp
   rw [hrun,bu (hC.body g fi hg),Oper.upon_enter]
   have hWn : ((es.drop k).take n).length=n:=by simp;omega
   have hfst:=l7 (f:=f) p
   have hsnd:=qu (f:=f) p
   rw [hd]
   rcases fq hO hgp hkn hv (fun e he c hc=>dA (hfl e he c hc)) with ⟨A,hv,hn0⟩ | ⟨cap,us,T,hv,⟨hcap,hmc⟩,hcl,hω,g0,g1,g2,g4,g5⟩
   ·have e : (es.drop k).take n=[]:=List.eq_nil_of_length_eq_zero (by omega)
    have h0:=h.leave hO hgp h.ch (Nat.le_refl _) h.holds (fun _ _ _ _=>rfl)
    rw [hv]
    refine (hI.1 e A (hargs none (fun B e=>by cases e))).mono ?_
    rintro e0 w' ⟨v,rfl,hw,⟨e',A',rfl⟩ | hn⟩
    ·refine ⟨_,_,M,hK,?_⟩
     subst e'
     rw [<- iH hsnd]
     exact (h0.grow hw).nilA ht hL hsz A'
    ·refine ⟨_,_,M,hK,?_⟩
     rw [<- iH hsnd]
     exact h0.newRow0 hu hw hn ht (rt_big t 0) hL
   ·rw [hv]
    have hMb : ∀ q : Addr,q.block=(ρ p).blk -> M q=none:=fun q hq=>hO.apart q p (by rw [hq];exact hω)
    have hnew:=hO.new _ _ hω
    have hblt:=hO.lt _ _ hω
    have hrun2:=hI.2 (ρ p).blk ((ρ p).base + k * sz) T us cap (hargs (some (ρ p).blk) (fun B e=>by cases e;exact hω)) hMb hblt g1 (by rw [hWn];exact hcap) hmc (by rw [g2];exact hcl) (fun e he=>g4 e (List.mem_of_mem_drop (List.mem_of_mem_take he))) g5
    rw [hWn] at hrun2
    refine hrun2.mono ?_
    have away : ∀ w' : World,Ch (fun k=>k=(ρ p).blk) w w' -> ∃ w2 : World,Bel w2 w' /\ w2.heap.size=w.heap.size /\ SR F nt S L w0 M0 (eff [cF f p] [] f) M a w2:=by
     intro w' q4
     obtain ⟨B0,hB0⟩ : ∃ B0,B0=(ρ p).blk:=⟨_,rfl⟩
     rw [<- hB0] at q4 hblt
     obtain ⟨ob,q1⟩ : ∃ ob,w'.heap[B0]? = some ob:=⟨_,Array.getElem?_eq_getElem (Nat.lt_of_lt_of_le hblt q4.size)⟩
     obtain ⟨w2,hw2⟩ : ∃ w2 : World,w2={ w with heap:=w.heap.setIfInBounds B0 ob }:=⟨_,rfl⟩
     have y1 : ∀ k,k ≠ B0 -> w2.heap[k]? = w.heap[k]?:=fun k hk=>by
      rw [hw2];simp only [Array.getElem?_setIfInBounds];rw [if_neg (Ne.symm hk)]
     have y2 : w2.heap[B0]? = some ob:=by
      rw [hw2];simp only [Array.getElem?_setIfInBounds];simp [hblt]
     have y3 : w2.heap.size=w.heap.size:=by rw [hw2];simp
     have c2 : Ch (fun k=>k=B0) w w2:=⟨by rw [hw2],by rw [hw2],by rw [hw2],Nat.le_of_eq y3.symm,fun k _ hk=>y1 k hk,by rw [hw2];exact Nat.le_refl _⟩
     have hb2 : Bel w2 w':=⟨by rw [q4.os,hw2],by rw [q4.tape,hw2],by rw [q4.output,hw2],by rw [y3];exact q4.size,fun k hk=>by
      by_cases e : k=B0
      ·subst e;rw [y2,q1]
      ·rw [y1 k e];exact q4.block k (by rw [<- y3];exact hk) e,by have:=q4.drawn;rw [hw2];exact this⟩
     have hch2 : Ch S w0 w2:=h.ch.trans c2 (fun k hk e=>by rw [e,hB0];rw [e,hB0] at hk;rcases hnew with h7 | h7;exact h7;omega)
     have hh2 : ∀ p v,M p=some v -> w2.cell? p=some v:=fun q v hq=>by
      have hne : q.block ≠ B0:=fun e=>by rw [hMb q (by rw [e,hB0])] at hq;cases hq
      rw [World.cell?_of_block (y1 _ hne)]
      exact h.holds q v hq
     exact ⟨w2,hb2,y3,h.leave (w':=w2) hO hgp hch2 (Nat.le_of_eq y3.symm) hh2 (fun k' q hk' hq=>y1 k' (by rintro rfl;rw [hB0,hω] at hk';cases hk';exact hq rfl))⟩
    rintro e0 w' ⟨v,rfl,q4,⟨e',A',rfl⟩ | ⟨o2,cap2,T2,us',rfl,q1,hl,hmc2,hcl2,q3⟩ | hn⟩
    ·obtain ⟨w2,hb2,_,h0⟩:=away w' q4
     refine ⟨_,_,M,hK,?_⟩
     subst e'
     rw [<- iH hsnd]
     exact (h0.grow hb2).nilA ht hL hsz A'
    ·have hchS : Ch S w0 w':=h.ch.trans q4 (fun k hk e=>by rcases hnew with h7 | h7;rw [e];exact h7;omega)
     have hh : ∀ p v,M p=some v -> w'.cell? p=some v:=fun q v hq=>by
      have hne : q.block ≠ (ρ p).blk:=fun e=>by rw [hMb q e] at hq;cases hq
      have h8:=h.holds q v hq
      rw [World.cell?_of_block (q4.block _ (World.block_lt_of_cell? w q h8) hne)]
      exact h8
     have ht10 : t < 10000:=Nat.lt_of_lt_of_le ht h.hnt
     have hrb : 10000 <= rt t 0:=rt_big t 0
     have hpr : p.root ≠ t:=by omega
     have hrt : rt t 0 ≠ t:=by omega
     obtain ⟨dq,hdq⟩ : ∃ dq,dq=cF f p:=⟨_,rfl⟩
     rw [<- hdq] at hfst hsnd
     have lk : ∀ s,s ≠ t -> s ≠ rt t 0 -> s ≠ p.root -> [(t,D.ref (.r (rt t 0)) 0 es'.length),(rt t 0,.blk sz es'),dq].lookup s=none:=fun s s1 s2 s3=>by
      have e1 : (s == t)=false:=by simpa using s1
      have e2 : (s == rt t 0)=false:=by simpa using s2
      obtain ⟨c,y⟩:=dq
      simp only at hfst
      have e3 : (s == c)=false:=by rw [hfst];simpa using s3
      simp only [List.lookup_cons,e1,e2,e3,List.lookup_nil]
     have lkp : [(t,D.ref (.r (rt t 0)) 0 es'.length),(rt t 0,.blk sz es'),dq].lookup p.root=some dq.2:=by
      have e1 : (p.root == t)=false:=by simpa using hpr
      have e2 : (p.root == rt t 0)=false:=by simpa using hpt
      obtain ⟨c,y⟩:=dq
      simp only at hfst
      subst hfst
      simp only [List.lookup_cons,e1,e2,beq_self_eq_true]
     have key:=h.app_core hO (f':=eff [(t,.ref (.r (rt t 0)) 0 es'.length),(rt t 0,.blk sz es'),dq] [(rt t 0,true)] f) (w':=w') (t:=t) (b:=rt t 0) (sz:=sz) (n:=es'.length) (m:=0) (rows:=es') (rowsY:=[]) (src:=some (p,k)) (inp:=true) (c2:=none)
      (l:=⟨(ρ p).blk,o2,sz,us'.length⟩) (nb:=none) (v:=.slice (some ⟨(ρ p).blk,o2,none⟩) es'.length cap2) ht hL rfl rfl (by simpa [aI] using hpt) (by simp) (fun c e=>by cases e)
      (aA (by simp)) (by
       rw [List.append_nil]
       refine aA ?_
       have e1 : (rt t 0 == t)=false:=by simpa using hrt
       simp [List.lookup_cons,e1])
      (fun s hs hst=>bl (lk s hst (by omega) (by omega)))
      (fun c hc hcb hcs _=>bx (lk c (by omega) hcb (by simpa [aI] using fun e : c=p.root=>hcs (by simp [aI,e]))))
      (fun c e=>by cases e)
      (fun c k' e=>by
       cases e
       have:=aA (f:=f) (ks:=[(rt t 0,true)]) lkp
       rw [hdq] at this ⊢
       exact this ▸ rfl)
      (fun c i o k' e=>by
       cases e
       obtain ⟨sz0,es0,row0,z1,z2,z3⟩:=sT hgp
       refine ⟨sz0,es0,z1,?_,row0,z2,(List.getElem?_eq_some_iff.1 z3).1⟩
       have:=aA (f:=f) (ks:=[(rt t 0,true)]) lkp
       rw [hdq] at this
       simp only [cF,z1] at this
       rw [hdq]
       simp only [cF,z1]
       exact this)
      (fun k e=>by cases e) q4.size hchS hh
      (fun k' q hk' hq=>q4.block k' (hO.lt _ _ hk') (by rintro rfl;rw [hω] at hk';cases hk';exact hq rfl rfl))
      (by simp only [al,if_true];exact .inr ⟨cap2,by simp,by simpa using hl,by simpa using hcl2,hmc2⟩)
      (.inr ⟨.inr ⟨rfl,p,k,rfl,hω,rfl⟩,rfl,us',T2,q1,rfl,(by
       have:=Nat.mul_le_mul_right sz hl
       simp only [Nat.add_zero]
       omega),fun e he=>(hu e (by simpa using he)).1,fun i r off d h1 h2=>by
        obtain ⟨u,k1,k2⟩:=q3 i r off d h1 h2
        refine ⟨u,k1,?_⟩
        have hO':=dA ((hu r (List.mem_of_getElem? h1)).2 d (List.mem_of_getElem? h2))
        cases p with
        | r c=>show bF F M ω ρ w c _ off d u;rw [aR hO'];exact k2
        | n c i' o'=>exact ⟨hO',k2⟩,fun i r off d h1 _=>by simp at h1⟩)
     refine ⟨_,_,M,hK,?_⟩
     rw [hdq] at key
     exact key
    ·obtain ⟨w2,hb2,y3,h0⟩:=away w' q4
     have hn2 : dF F M w2 w' sz es' v:=by
      obtain ⟨B,o,T,us,cap,z1,z2,z3⟩:=hn
      exact ⟨B,o,T,us,cap,z1,by rw [y3];exact z2,z3⟩
     refine ⟨_,_,M,hK,?_⟩
     rw [<- iH hsnd]
     exact h0.newRow0 hu hb2 hn2 ht (rt_big t 0) hL
  ·exact hr.elim
 ·exact hr.elim
end
end Go.Gv

namespace Go.Gv
section
variable {P : Program} {F : Fid} {C : Nat -> List D -> D -> List D -> Prop} {nt : Nat} {S : Nat -> Prop} {L : Nat -> Option Loc} {w0 : World} {M0 : Mem} {f : Nat -> D} {M : Mem} {a : Act} {w : World} {o : Oper} {d : D} {Q : Exit -> Act -> World -> Prop} {ρ : Pa -> Loc} {ω : Nat -> Option Pa} {New : Nat -> Prop} {K : List (Nat × D) -> List (Nat × Bool) -> Prop}
def b4 (ω : Nat -> Option Pa) (c : Nat) : Nat -> Option Pa:=fun k=>match ω k with
 | some p=>if p.root=c then some p else none
 | none=>none
theorem cf {c k : Nat} {p : Pa} (h : b4 ω c k=some p) : ω k=some p /\ p.root=c:=by
 unfold b4 at h
 split at h
 ·rename_i q hq
  split at h
  ·cases h
   exact ⟨hq,by assumption⟩
  ·cases h
 ·cases h
theorem lj {c k : Nat} {p : Pa} (h : ω k=some p) (hp : p.root=c) : b4 ω c k=some p:=by
 simp only [b4,h,if_pos hp]
def fcE (f : Nat -> D) (c : Nat) : Nat -> D:=fun t=>if t=c then f t else .any
theorem Own.only (h : Own F L New f M a w ρ ω) {c : Nat} (hc : 10000 <= c) : Own F L New (fcE f c) M a w ρ (b4 ω c):=by
 have hne : ∀ {t : Nat},t ≠ c -> fcE f c t=.any:=fun {t} ht=>by simp only [fcE,if_neg ht]
 have hcc : fcE f c c=f c:=by simp [fcE]
 refine h.step (ks:=[]) (fun p hp=>absurd rfl hp) (Mem.le_refl _) (Nat.le_refl _) (fun t ht=>.inl (.inl (hne (by omega)))) (fun b hb=>?_) (fun k p e=>.inl ⟨p,(cf e).1⟩) (fun p q e=>h.apart p q (cf e).1) (fun b l hb hl hB=>?_)
 ·by_cases e : b=c
  ·subst e
   exact .inl (.inr ⟨hcc,fun p hp=>⟨rfl,fun hw=>⟨lj hw hp,rfl⟩⟩⟩)
  ·exact .inl (.inl (by rw [hne e];rfl))
 ·by_cases e : b=c
  ·subst e
   rw [hcc] at hB
   exact ⟨rfl,hB⟩
  ·rw [hne e] at hB;cases hB
theorem md {c : Nat} (_ : Nat) : aL (fcE f c) (.r c)=aL f (.r c):=by simp [aL,fcE]
theorem SR.frz (h : SR F nt S L w0 M0 f M a w) {t : Nat} (ht : t < nt) {c k n : Nat} (hc : 10000 <= c) {v : Value} (hv : ∀ ρ ω,Own F L (fun k=>S k \/ w0.heap.size <= k) f M a w ρ ω -> al F M ρ (.ref (.r c) k n) v) (hk : aH f (.ref (.r c) k n)) :
  ∃ M',SR F nt S L w0 M0 (eff [(t,dp1 f (.ref (.r c) k n)),(c,.any)] [] f) M' (a.put (some t) v) w:=by
 obtain ⟨ρ,ω,hO⟩:=h.own
 have hnt:=h.hnt
 have hsz:=h.size
 have hO1:=hO.only hc
 have e1 : aL (fcE f c) (.r c)=aL f (.r c):=md 0
 have hk1 : aH (fcE f c) (.ref (.r c) k n):=by simp only [aH,e1] at hk ⊢;exact hk
 have ed : dp1 (fcE f c) (.ref (.r c) k n)=dp1 f (.ref (.r c) k n):=by simp only [dp1,e1]
 have hr:=gg hO1 (hv ρ ω hO) hk1
 rw [ed] at hr
 have hle : M.le (aQ (b4 ω c) M w):=bQ hO1
 have hE:=hO.erase hc
 have hpure : isX (dp1 f (.ref (.r c) k n))=false /\ isB (dp1 f (.ref (.r c) k n))=false /\ ∀ ρ',al F (aQ (b4 ω c) M w) ρ' (dp1 f (.ref (.r c) k n)) v:=by
  simp only [dp1] at hr ⊢
  split
  ·rename_i e
   rw [e] at hr
   exact ⟨rfl,rfl,fun _=>hr⟩
  ·rename_i e
   rw [e] at hr
   exact ⟨rfl,rfl,fun _=>hr⟩
 generalize dp1 f (.ref (.r c) k n)=x at *
 have hf' : ∀ s,eff [(t,x),(c,.any)] [] f s=if s=t then x else fbE f c s:=fun s=>by
  unfold eff fbE
  by_cases e : s=t
  ·subst e;simp
  ·have b1 : (s == t)=false:=by simpa using e
   by_cases e2 : s=c
   ·subst e2
    simp only [List.lookup,b1,beq_self_eq_true,if_neg e,if_true]
   ·have b2 : (s == c)=false:=by simpa using e2
    simp only [List.lookup,b1,b2,if_neg e,if_neg e2]
    simp [aw]
 refine ⟨aQ (b4 ω c) M w,⟨hnt,by simp [Act.put,hsz],by simp [Act.put,h.defers],h.ch,bp h.holds,Mem.le_trans h.ext hle,fun p h1 h2=>?_,ρ,fb ω c,?_⟩⟩
 ·by_cases e : M p=none
  ·unfold aQ at h2
   split at h2
   ·rename_i q hq
    exact hO.new _ _ (cf hq).1
   ·exact absurd e h2
  ·exact h.fresh p h1 e
 ·refine hE.step (ks:=[]) (fun p hp=>absurd rfl hp) hle (Nat.le_refl _) (fun s hs=>?_) (fun b hb=>?_) (fun k p e=>.inl ⟨p,e⟩) (fun p q e=>?_) (fun b l hb hl hB=>?_)
  ·rw [hf']
   by_cases e : s=t
   ·subst e
    rw [if_pos rfl]
    refine .inr (.inr ⟨v,by simp [Act.put,hsz,ht],?_⟩)
    rw [hf',if_pos rfl,ah hpure.1]
    exact hpure.2.2 ρ
   ·rw [if_neg e]
    refine .inl (.inr ⟨rfl,?_,by simp [aw]⟩)
    simp [Act.put,Array.getElem?_setIfInBounds,Ne.symm e]
  ·have : b ≠ t:=by omega
   rw [hf',if_neg this]
   exact .inl (.inr ⟨rfl,fun p hp=>⟨rfl,fun hw=>⟨hw,rfl⟩⟩⟩)
  ·obtain ⟨e2,e3⟩:=db e
   have e4 : b4 ω c p.block=none:=by
    simp only [b4,e2,if_neg e3]
   simp only [aQ,e4]
   exact hO.apart p q e2
  ·have : b ≠ t:=by omega
   rw [hf',if_neg this] at hB
   exact ⟨rfl,hB⟩
theorem qd (h : SR F nt S L w0 M0 f M a w) {t : Nat} (hd : o.dst=some t) (ht : t < nt) {x : Opd} {x' : Operand} (ho : o.op=.move x' \/ o.op=.assign x') (hx : ae F x x'=true)
  (hr : match vd f x with
   | .ref (.r c) k n=>aH f (.ref (.r c) k n) /\ K [(t,dp1 f (.ref (.r c) k n)),(c,.any)] []
   | d=>isS d=true /\ K [(t,d)] []) : o.wp P a w (PostX F nt S L w0 M0 f K) Q:=by
 have hrun : (execOp a.eval o).run P w=.ok (.value (a.eval x')) w:=by rcases ho with ho | ho <;> simp [execOp,ho]
 split at hr
 ·rename_i c k n ex
  have hc : 10000 <= c:=by
   obtain ⟨ρ,ω,hO⟩:=h.own
   have h1:=hr.1
   simp only [aH] at h1
   split at h1
   ·rename_i e;exact bH hO e
   ·exact h1.elim
  obtain ⟨M',hs⟩:=h.frz ht hc (v:=a.eval x') (fun ρ ω hO=>by have:=hO.opd hx;rwa [ex,ah rfl] at this) hr.1
  exact ce hrun (by rw [hd];exact ⟨_,_,M',hr.2,hs⟩)
 ·exact postX_val hd hrun hr.2 (h.put ht (fun ρ ω hO=>hO.opd hx))
end
end Go.Gv

namespace Go.Gv
section
variable {P : Program} {F : Fid} {C : Nat -> List D -> D -> List D -> Prop} {nt : Nat} {S : Nat -> Prop} {L : Nat -> Option Loc} {w0 : World} {M0 : Mem} {f : Nat -> D} {M : Mem} {a : Act} {w : World} {o : Oper} {d : D} {Q : Exit -> Act -> World -> Prop} {ρ : Pa -> Loc} {ω : Nat -> Option Pa} {New : Nat -> Prop} {K : List (Nat × D) -> List (Nat × Bool) -> Prop}
theorem rj (hC : bi P F C) (h : SR F nt S L w0 M0 f M a w) (hp : br nt f o.dst) {g fi : Nat} {xs : List Opd} {ys : Array Operand} {ts : Array TypeId} (ho : o.op=.call { callee:=.value (.func fi),args:=ys,argTypes:=ts }) (hx : a7 F xs ys.toList=true)
  (hg : F g=some fi) (hr : (∀ x ∈ xs,bk f (vd f x)) /\ ∃ d,C g (xs.map (dpv f)) d [.nilp] /\ cA o.dst K d) : o.wp P a w (PostX F nt S L w0 M0 f K) Q:=by
 obtain ⟨h0,d,h1,hK⟩:=hr
 have hrun : (execOp a.eval o).run P w=(callFunc fi (ys.toList.map a.eval).toArray).run P w:=by
  simp only [execOp,ho,resolve,Act.eval,Deferred.ofValue,Sem.run_bind,Sem.run_pure,Result.andThen_ok,invoke]
  congr 2
  rw [Array.append_empty,Array.empty_append]
  apply Array.ext'
  simp
 obtain ⟨ρ,ω,hO⟩:=h.own
 unfold Oper.wp
 rw [hrun,bu (hC.body g fi hg),Oper.upon_enter]
 refine (hC.runsG g fi _ d hg h1 (aQ ω M w) w _ (bp h.holds) (gT hO hx h0)).mono ?_
 rintro e w' ⟨v,M2,rfl,hb,hf,hh,rv⟩
 have hnone : ∀ p,w.heap.size <= p.block -> M p=none:=fun p hp=>by
  cases e : M p with
  | none=>rfl
  | some u =>
   have:=World.block_lt_of_cell? w p (h.holds p u e)
   omega
 have hM : M.le (fun p=>match M p with | some v=>some v | none=>M2 p):=fun p u e=>by simp only [e]
 have hM2 : M2.le (fun p=>match M p with | some v=>some v | none=>M2 p):=fun p u e=>by
  simp only [hnone p (hf p (by rw [e];simp)),e]
 have h' : SR F nt S L w0 M0 f (fun p=>match M p with | some v=>some v | none=>M2 p) a w':=h.world hb hM (fun p e e'=>by
  simp only [e] at e'
  exact hf p e') (fun p u e=>by
  cases e1 : M p with
  | none=>simp only [e1] at e;exact hh p u e
  | some u' =>
   simp only [e1] at e
   cases e
   have h1:=h.holds p _ e1
   rw [hb.cell (World.block_lt_of_cell? w p h1)]
   exact h1)
 have rv2:=ab.mono hM2 _ _ rv
 generalize o.dst=t at hp hK ⊢
 cases t with
 | none=>exact ⟨[],[],_,hK,by simpa [Act.put,gL] using h'⟩
 | some t=>exact ⟨_,_,_,hK,h'.put hp (fun _ _ _=>aV.of_pure rv2)⟩
def kL : D -> Prop
 | .any=>True
 | .nils=>True
 | .ref _ _ _=>True
 | .blk _ es=>∀ r ∈ es,∀ c ∈ r,aP c=true
 | d=>aP d=true
theorem qE {d : D} {v : Value} {M' : Mem} (hf : kL d) (hn : d ≠ .any) (hb : isB d=false) (h : aV F M ρ d v) : aV F M' ρ d v:=by
 cases d <;> simp only [kL] at hf <;> first | exact h | (simp [aP] at hf;done) | (simp [isB] at hb;done) | (rw [ah rfl] at h ⊢;simp only [al] at h ⊢;exact ep hf h) | exact absurd rfl hn
theorem SR.flat (h : SR F nt S L w0 M0 f M a w) (hf : ∀ t,kL (f t)) (hsl : ∀ t,t < 10000 -> isB (f t)=false) : SR F nt S L w0 (fun _=>none) f (fun _=>none) a w where
 hnt:=h.hnt
 size:=h.size
 defers:=h.defers
 ch:=h.ch
 holds p v e:=by cases e
 ext:=Mem.le_refl _
 fresh p _ e:=absurd rfl e
 own:=by
  obtain ⟨ρ,ω,hO⟩:=h.own
  refine ⟨ρ,ω,⟨fun t ht=>?_,fun b sz es hb e=>?_,fun b kt et ks vs hb e=>?_,hO.lt,hO.new,fun _ _ _=>rfl,hO.lent⟩⟩
  ·rcases hO.slots t ht with h1 | ⟨v,h1,h2⟩
   ·exact .inl h1
   ·by_cases e : f t=.any
    ·exact .inl e
    ·exact .inr ⟨v,h1,qE (hf t) e (hsl t ht) h2⟩
  ·have h1:=hO.roots b sz es hb e
   have h2:=hf b
   rw [e] at h2
   simp only [kL] at h2
   unfold cC bG at h1 ⊢
   rcases h1 with h1 | ⟨h1,h3,vs,T,g1,g2,g3,g4,g5⟩
   ·exact .inl h1
   ·refine .inr ⟨h1,h3,vs,T,g1,g2,g3,g4,fun i r off d e1 e2=>?_⟩
    obtain ⟨v,k1,k2⟩:=g5 i r off d e1 e2
    have hf1:=h2 r (List.mem_of_getElem? e1) d (List.mem_of_getElem? e2)
    have k3 : bF F M ω ρ w b i off d v:=k2
    rw [aR (dA hf1)] at k3
    refine ⟨v,k1,?_⟩
    show bF F (fun _=>none) ω ρ w b i off d v
    rw [aR (dA hf1)]
    exact ep hf1 k3
  ·have h2:=hf b
   rw [e] at h2
   simp [kL,aP] at h2
end
end Go.Gv

namespace Go.Gv
open Go.RowKit
section
variable {P : Program} {F : Fid} {C : Nat -> List D -> D -> List D -> Prop} {nt : Nat} {S : Nat -> Prop} {L : Nat -> Option Loc} {w0 : World} {M0 : Mem} {f : Nat -> D} {M M' : Mem} {a : Act} {w w' : World} {o : Oper} {d : D} {Q : Exit -> Act -> World -> Prop} {ρ ρ' : Pa -> Loc} {ω ω' : Nat -> Option Pa} {New : Nat -> Prop} {K : List (Nat × D) -> List (Nat × Bool) -> Prop}
def Pa.to (c : Nat) : Pa -> Pa
 | .r _=>.r c
 | .n _ i o=>.n c i o
theorem Pa.to_root (c : Nat) (p : Pa) : (p.to c).root=c:=by cases p <;> rfl
theorem Pa.to_to (b c : Nat) (p : Pa) (h : p.root=b) : (p.to c).to b=p:=by cases p <;> simp only [Pa.root] at h <;> subst h <;> rfl
theorem cC.carry {b c sz : Nat} {es : List (List D)} (h : cC F M ω ρ w b sz es) (hM : M.le M') (hs : ∀ p : Pa,p.root=b -> ρ' (p.to c)=ρ p /\ (ω (ρ p).blk=some p -> ω' (ρ p).blk=some (p.to c) /\ w'.heap[(ρ p).blk]? = w.heap[(ρ p).blk]?)) : cC F M' ω' ρ' w' c sz es:=by
 have path : ∀ (p : Pa) (sz : Nat) (es : List (List D)) (R R' : Nat -> Nat -> D -> Value -> Prop),p.root=b -> bG ω ρ w p sz es R -> (∀ i r off d v,es[i]? = some r -> r[off]? = some d -> R i off d v -> R' i off d v) -> bG ω' ρ' w' (p.to c) sz es R':=by
  intro p sz es R R' hp h hR
  obtain ⟨e1,e2⟩:=hs p hp
  unfold bG at h ⊢
  rw [e1]
  rcases h with h | ⟨h1,h2⟩
  ·exact .inl h
  ·obtain ⟨g1,g2⟩:=e2 h1
   exact .inr ⟨g1,h2.frame g2 hR⟩
 unfold cC at h ⊢
 refine path (.r b) sz es _ _ rfl h (fun i r off d v k1 k2 hr=>?_)
 cases d
 case own sz2 es2 =>
  obtain ⟨h1,h2⟩:=hr
  refine ⟨?_,path (.n b i off) sz2 es2 _ _ rfl h2 (fun _ _ _ d v _ _ hr=>ab.mono hM d v hr)⟩
  have:=(hs (.n b i off) rfl).1
  simp only [al,Pa.to] at h1 this ⊢
  rw [this]
  exact h1
 all_goals exact ab.mono hM _ _ hr
theorem SR.lendX (h : SR F nt S L w0 M0 f M a w) (hO : Own F L (fun k=>S k \/ w0.heap.size <= k) f M a w ρ ω) {b sz : Nat} {es es' : List (List D)} (hf : f b=.blk sz es) (hb : 10000 <= b) (hω : ω (ρ (.r b)).blk=some (.r b)) {ρ1 : Pa -> Loc} {ω1 : Nat -> Option Pa}
  (hρ1 : ∀ p : Pa,p.root=b -> ρ1 (p.to aj)=ρ p) (hω1 : ∀ k q,ω1 k=some q ↔ ∃ p : Pa,ω k=some p /\ p.root=b /\ q=p.to aj)
  (hch : Ch (fun k=>∃ p,ω1 k=some p) w w') (hM : M.le M') (hfr : ∀ p,M p=none -> M' p ≠ none -> (∃ q,ω1 p.block=some q) \/ w.heap.size <= p.block) (hh : ∀ p v,M' p=some v -> w'.cell? p=some v)
  (hρ' : ρ' (.r aj)=ρ1 (.r aj)) (hl : kE F M' w' ρ' ω' aj sz es') (hnew : ∀ k p,ω' k=some p -> (∃ q,ω1 k=some q) \/ w.heap.size <= k)
  {dst : Option Nat} (ht : ∀ t,dst=some t -> t < nt) {v : Value} (hv : ab F M' d v) :
  ∃ ρ2 ω2,(∀ p : Pa,p.root=b -> ρ2 p=ρ' (p.to aj)) /\ (∀ p : Pa,p.root ≠ b -> ρ2 p=ρ p) /\ Own F L (fun k=>S k \/ w0.heap.size <= k) (eff (bN dst d++[(b,.blk sz es')]) [(b,false)] f) M' (a.put dst v) w' ρ2 ω2 /\ SR F nt S L w0 M0 (eff (bN dst d++[(b,.blk sz es')]) [(b,false)] f) M' (a.put dst v) w':=by
 have hS1 : ∀ k q,ω1 k=some q -> ∃ p,ω k=some p /\ p.root=b:=fun k q e=>by
  obtain ⟨p,h1,h2,_⟩:=(hω1 k q).1 e
  exact ⟨p,h1,h2⟩
 have other : ∀ k p,ω k=some p -> p.root ≠ b -> (∀ q,ω1 k ≠ some q) /\ ω' k=none /\ w'.heap[k]? = w.heap[k]?:=fun k p e hp=>by
  have h1 : ∀ q,ω1 k ≠ some q:=fun q e1=>by
   obtain ⟨p',h1,h2⟩:=hS1 k q e1
   rw [e] at h1;cases h1;exact hp h2
  refine ⟨h1,?_,hch.block k (hO.lt _ _ e) (fun ⟨q,e1⟩=>h1 q e1)⟩
  cases e2 : ω' k with
  | none=>rfl
  | some q =>
   rcases hnew k q e2 with ⟨q,e1⟩ | h2
   ·exact absurd e1 (h1 q)
   ·have:=hO.lt _ _ e;omega
 obtain ⟨ρ2,hρ2⟩ : ∃ ρ2 : Pa -> Loc,ρ2=fun p=>if p.root=b then ρ' (p.to aj) else ρ p:=⟨_,rfl⟩
 obtain ⟨ω2,hω2⟩ : ∃ ω2 : Nat -> Option Pa,ω2=fun k=>match ω' k with
  | some q=>some (q.to b)
  | none=>match ω k with
   | some p=>if p.root=b then none else some p
   | none=>none:=⟨_,rfl⟩
 have r1 : ∀ p : Pa,p.root=b -> ρ2 p=ρ' (p.to aj):=fun p hp=>by rw [hρ2];simp only [if_pos hp]
 have r2 : ∀ p : Pa,p.root ≠ b -> ρ2 p=ρ p:=fun p hp=>by rw [hρ2];simp only [if_neg hp]
 have o1 : ∀ k q,ω' k=some q -> ω2 k=some (q.to b):=fun k q e=>by rw [hω2];simp only [e]
 have o2 : ∀ k p,ω k=some p -> p.root ≠ b -> ω2 k=some p:=fun k p e hp=>by rw [hω2];simp only [(other k p e hp).2.1,e,if_neg hp]
 have o3 : ∀ k p,ω2 k=some p -> (∃ q,ω' k=some q /\ p=q.to b) \/ (ω k=some p /\ p.root ≠ b):=fun k p e=>by
  rw [hω2] at e
  simp only at e
  cases e1 : ω' k with
  | some q=>rw [e1] at e;cases e;exact .inl ⟨q,rfl,rfl⟩
  | none =>
   rw [e1] at e
   simp only at e
   cases e2 : ω k with
   | none=>rw [e2] at e;cases e
   | some p' =>
    rw [e2] at e
    simp only at e
    split at e
    ·cases e
    ·cases e;exact .inr ⟨rfl,by assumption⟩
 have hrb : ρ2 (.r b)=ρ (.r b):=by
  rw [r1 (.r b) rfl]
  show ρ' (.r aj)=_
  rw [hρ',<- hρ1 (.r b) rfl]
  rfl
 have hfb : eff (bN dst d++[(b,.blk sz es')]) [(b,false)] f b=.blk sz es':=aA (by
  cases dst with
  | none=>simp [bN]
  | some t =>
   have : (b == t)=false:=by have:=ht t rfl;have:=h.hnt;simp;omega
   simp [bN,List.lookup_cons,this])
 have lk : ∀ s,s ≠ b -> dst ≠ some s -> (bN dst d++[(b,D.blk sz es')]).lookup s=none:=fun s h1 h2=>by
  have e1 : (s == b)=false:=by simpa using h1
  cases dst with
  | none=>simp only [bN,List.nil_append,List.lookup_cons,e1,List.lookup_nil]
  | some t =>
   have e2 : (s == t)=false:=by simp;rintro rfl;exact h2 rfl
   simp only [bN,List.cons_append,List.nil_append,List.lookup_cons,e1,e2,List.lookup_nil]
 have hsize : (a.put dst v).tmps.size=nt:=by cases dst <;> simp [Act.put,h.size]
 have main : Own F L (fun k=>S k \/ w0.heap.size <= k) (eff (bN dst d++[(b,.blk sz es')]) [(b,false)] f) M' (a.put dst v) w' ρ2 ω2 -> SR F nt S L w0 M0 (eff (bN dst d++[(b,.blk sz es')]) [(b,false)] f) M' (a.put dst v) w':=fun own =>
  ⟨h.hnt,hsize,by cases dst <;> simp [Act.put,h.defers],h.ch.trans hch (fun k hk ⟨q,e⟩=>by
   obtain ⟨p,e1,_⟩:=hS1 k q e
   rcases hO.new _ _ e1 with h3 | h3
   ·exact h3
   ·omega),hh,Mem.le_trans h.ext hM,fun p h1 h2=>by
   by_cases e : M p=none
   ·rcases hfr p e h2 with ⟨q,e1⟩ | h3
    ·obtain ⟨p',e2,_⟩:=hS1 _ q e1
     exact hO.new _ _ e2
    ·exact .inr (Nat.le_trans h.ch.size h3)
   ·exact h.fresh p h1 e,ρ2,ω2,own⟩
 refine ⟨ρ2,ω2,r1,r2,(fun x=>⟨x,main x⟩) ?_⟩
 ·refine hO.step (ks:=[(b,false)]) (fun p hp=>?_) hM hch.size (fun s hs=>?_) (fun c hc=>?_) (fun k p e=>?_) (fun p q e=>?_) (fun c l hc hl' hB=>?_)
  ·refine ⟨(b,false),by simp,?_⟩
   by_cases e : p.root=b
   ·cases p with
    | r x =>
     simp only [Pa.root] at e
     subst e
     exact absurd hrb hp
    | n x i off =>
     simp only [Pa.root] at e
     subst e
     simp [bg]
   ·exact absurd (r2 p e) hp
  ·by_cases e : dst=some s
   ·right
    have hst:=ht s e
    subst e
    have e1 : eff (bN (some s) d++[(b,.blk sz es')]) [(b,false)] f s=d:=aA (by simp [bN])
    refine .inr ⟨v,getElem?_put_same (by rw [h.size];exact hst),?_⟩
    rw [e1]
    exact aV.of_pure hv
   ·left
    rcases bl (f:=f) (ks:=[(b,false)]) (lk s (by omega) e) with h1 | h1
    ·exact .inl h1
    ·refine .inr ⟨h1.1,?_,h1.2⟩
     cases dst with
     | none=>rfl
     | some t=>exact getElem?_put (fun x=>e (by rw [x]))
  ·by_cases e : c=b
   ·subst e
    right
    refine .inl ⟨sz,es',hfb,hl.rows.carry (Mem.le_refl _) (fun p hp=>?_)⟩
    have e1 : ρ2 (p.to c)=ρ' p:=by rw [r1 _ (Pa.to_root _ _),Pa.to_to aj c p hp]
    exact ⟨e1,fun e2=>⟨o1 _ _ e2,rfl⟩⟩
   ·left
    rcases bx (f:=f) (ks:=[(b,false)]) (lk c e (fun x=>by have:=ht c x;have:=h.hnt;omega)) with h1 | h1
    ·exact .inl h1
    ·refine .inr ⟨h1,fun p hp=>?_⟩
     have hpb : p.root ≠ b:=by rw [hp];exact e
     exact ⟨r2 p hpb,fun hw=>⟨o2 _ _ hw hpb,(other _ _ hw hpb).2.2⟩⟩
  ·rcases o3 k p e with ⟨q,e1,_⟩ | ⟨e1,_⟩
   ·rcases hnew k q e1 with ⟨q',e2⟩ | h2
    ·obtain ⟨p',e3,_⟩:=hS1 k q' e2
     exact .inl ⟨p',e3⟩
    ·exact .inr ⟨hl.lt k q e1,.inr (Nat.le_trans h.ch.size h2)⟩
   ·exact .inl ⟨p,e1⟩
  ·rcases o3 _ q e with ⟨q',e1,_⟩ | ⟨e1,e2⟩
   ·exact hl.apart p q' e1
   ·have h1:=hO.apart p q e1
    cases e3 : M' p with
    | none=>rfl
    | some u =>
     rcases hfr p h1 (by rw [e3];simp) with ⟨q',e4⟩ | h4
     ·exact absurd e4 ((other _ _ e1 e2).1 q')
     ·have:=hO.lt _ _ e1;omega
  ·by_cases e : c=b
   ·subst e
    exact ⟨hrb,by rw [hf];rfl⟩
   ·have hcb : (Pa.r c).root ≠ b:=e
    refine ⟨r2 _ hcb,?_⟩
    rcases bx (f:=f) (ks:=[(b,false)]) (lk c e (fun x=>by have:=ht c x;have:=h.hnt;omega)) with h1 | h1
    ·rw [hB] at h1;cases h1
    ·rw [<- h1];exact hB
theorem SR.lend (h : SR F nt S L w0 M0 f M a w) (hO : Own F L (fun k=>S k \/ w0.heap.size <= k) f M a w ρ ω) {b sz : Nat} {es es' : List (List D)} (hf : f b=.blk sz es) (hb : 10000 <= b) (hω : ω (ρ (.r b)).blk=some (.r b)) {ρ1 : Pa -> Loc} {ω1 : Nat -> Option Pa}
  (hρ1 : ∀ p : Pa,p.root=b -> ρ1 (p.to aj)=ρ p) (hω1 : ∀ k q,ω1 k=some q ↔ ∃ p : Pa,ω k=some p /\ p.root=b /\ q=p.to aj)
  (hch : Ch (fun k=>∃ p,ω1 k=some p) w w') (hM : M.le M') (hfr : ∀ p,M p=none -> M' p ≠ none -> (∃ q,ω1 p.block=some q) \/ w.heap.size <= p.block) (hh : ∀ p v,M' p=some v -> w'.cell? p=some v)
  (hρ' : ρ' (.r aj)=ρ1 (.r aj)) (hl : kE F M' w' ρ' ω' aj sz es') (hnew : ∀ k p,ω' k=some p -> (∃ q,ω1 k=some q) \/ w.heap.size <= k)
  {dst : Option Nat} (ht : ∀ t,dst=some t -> t < nt) {v : Value} (hv : ab F M' d v) :
  SR F nt S L w0 M0 (eff (bN dst d++[(b,.blk sz es')]) [(b,false)] f) M' (a.put dst v) w':=by
 obtain ⟨_,_,_,_,_,hs⟩:=h.lendX hO hf hb hω hρ1 hω1 hch hM hfr hh hρ' hl hnew ht hv
 exact hs
theorem rl (hC : bi P F C) (h : SR F nt S L w0 M0 f M a w) (hp : ∀ t,o.dst=some t -> t < nt) {g fi : Nat} {x : Opd} {xs : List Opd} {y : Operand} {ys : List Operand} {ts : Array TypeId} (ho : o.op=.call { callee:=.value (.func fi),args:=⟨y::ys⟩,argTypes:=ts }) (hx0 : ae F x y=true) (hx : a7 F xs ys=true)
  (hg : F g=some fi) (hr : match vd f x with
  | .adr (.r b) i off=>i=0 /\ off=0 /\ match f b with
   | .blk sz es=>0 < es.length /\ (∀ x ∈ xs,isV (vd f x)=true) /\ ∃ d,∃ es' : List (List D),0 < es'.length /\ C g (.blk sz es::xs.map (vd f)) d [.blk sz es'] /\ K (bN o.dst d++[(b,.blk sz es')]) [(b,false)]
   | _=>False
  | _=>False) : o.wp P a w (PostX F nt S L w0 M0 f K) Q:=by
 split at hr
 ·rename_i b i off hvx
  obtain ⟨rfl,rfl,hr⟩:=hr
  split at hr
  ·rename_i sz es hf
   obtain ⟨hpos,hxs,d,es',hpos',hc,hK⟩:=hr
   have hrun : (execOp a.eval o).run P w=(callFunc fi (a.eval y::ys.map a.eval).toArray).run P w:=by
    simp only [execOp,ho,resolve,Act.eval,Deferred.ofValue,Sem.run_bind,Sem.run_pure,Result.andThen_ok,invoke]
    congr 2
    rw [Array.append_empty,Array.empty_append]
    apply Array.ext'
    simp
    cases y <;> simp [Act.eval]
   obtain ⟨ρ,ω,hO⟩:=h.own
   have hb:=hO.big hf
   have hv:=hO.opd hx0
   rw [hvx,ah rfl] at hv
   simp only [al,Nat.zero_mul,Nat.add_zero] at hv
   have hroot:=hO.roots b sz es hb hf
   have hω : ω (ρ (.r b)).blk=some (.r b):=by
    rcases hroot with ⟨e0,_⟩ | ⟨hω,_⟩
    ·rw [e0] at hpos;simp at hpos
    ·exact hω
   have hrep : ap F M (xs.map (vd f)) (ys.map a.eval):=by
    have h1:=cx h hx (by rw [List.all_eq_true];exact hxs)
    rwa [List.map_congr_left (g:=vd f) fun x hx'=>by unfold dpv;exact (dJ (hxs x hx')).1] at h1
   obtain ⟨ρ1,hρ1⟩ : ∃ ρ1 : Pa -> Loc,ρ1=fun p=>ρ (p.to b):=⟨_,rfl⟩
   obtain ⟨ω1,hω1⟩ : ∃ ω1 : Nat -> Option Pa,ω1=fun k=>match ω k with
    | some p=>if p.root=b then some (p.to aj) else none
    | none=>none:=⟨_,rfl⟩
   have w1 : ∀ k q,ω1 k=some q ↔ ∃ p : Pa,ω k=some p /\ p.root=b /\ q=p.to aj:=fun k q=>by
    rw [hω1]
    simp only
    constructor
    ·intro e
     split at e
     ·rename_i p hp
      split at e
      ·cases e;exact ⟨p,hp,by assumption,rfl⟩
      ·cases e
     ·cases e
    ·rintro ⟨p,e1,e2,rfl⟩
     simp only [e1,if_pos e2]
   have p1 : ∀ p : Pa,p.root=b -> ρ1 (p.to aj)=ρ p:=fun p hp=>by
    rw [hρ1]
    simp only
    rw [Pa.to_to b aj p hp]
   have lent : kE F M w ρ1 ω1 aj sz es:=by
    refine ⟨(w1 _ _).2 ⟨.r b,?_,rfl,rfl⟩,cC.carry hroot (Mem.le_refl _) (fun p hp=>⟨p1 p hp,fun e=>⟨(w1 _ _).2 ⟨p,e,hp,rfl⟩,rfl⟩⟩),fun k p e=>?_,fun k p e=>?_,fun p q e=>?_⟩
    ·have:=p1 (.r b) rfl
     simp only [Pa.to] at this
     rw [this];exact hω
    ·obtain ⟨p',e1,_⟩:=(w1 _ _).1 e
     exact hO.lt _ _ e1
    ·obtain ⟨p',_,_,rfl⟩:=(w1 _ _).1 e
     exact Pa.to_root _ _
    ·obtain ⟨p',e1,_⟩:=(w1 _ _).1 e
     exact hO.apart p p' e1
   have hL:=hC.runsL g fi sz es _ d es' hg hc M w _ ρ1 ω1 h.holds hrep lent
   have e1 : ρ1 (.r aj)=ρ (.r b):=p1 (.r b) rfl
   rw [e1,<- hv] at hL
   unfold Oper.wp
   rw [hrun,bu (hC.body g fi hg),Oper.upon_enter]
   refine hL.mono ?_
   rintro e0 w' ⟨v,M',ρ',ω',rfl,q1,q2,q3,q4,q5,q6,q7,q8⟩
   exact ⟨_,_,M',hK,h.lend hO hf hb hω p1 w1 q1 q2 q3 q4 (by rw [q6,e1]) q7 q8 hp q5⟩
  ·exact hr.elim
 ·exact hr.elim
theorem jK {es : List (List D)} {k n : Nat} {zs : List D} (h : k + n <= es.length) : (dl es k n zs).length=es.length:=by
 simp [dl];omega
theorem rG {es : List (List D)} {k n : Nat} {zs : List D} (h : k + n <= es.length) (i : Nat) : (dl es k n zs)[i]? = if k <= i /\ i < k + n then some zs else es[i]?:=by
 unfold dl
 rw [List.append_assoc]
 have hl : (es.take k).length=k:=by simp;omega
 by_cases h1 : i < k
 ·rw [List.getElem?_append_left (by omega),List.getElem?_take_of_lt h1,if_neg (by omega)]
 ·rw [List.getElem?_append_right (by omega),hl]
  by_cases h2 : i < k + n
  ·rw [List.getElem?_append_left (by simp;omega),if_pos (by omega),List.getElem?_replicate,if_pos (by omega)]
  ·rw [List.getElem?_append_right (by simp;omega),List.length_replicate,List.getElem?_drop,if_neg (by omega)]
   congr 1
   omega
theorem mF {es : List (List D)} {k n : Nat} {zs e : List D} (he : e ∈ dl es k n zs) : e=zs \/ e ∈ es:=by
 simp only [dl,List.mem_append] at he
 rcases he with (h | h) | h
 ·exact .inr (List.mem_of_mem_take h)
 ·exact .inl (List.mem_replicate.1 h).2
 ·exact .inr (List.mem_of_mem_drop h)
def nN (P : Program) (T : Nat) (zs : List D) : Bool:=match P.underlying T with
 | some (.slice e)=>zeroOk P e zs
 | _=>false
theorem lT {z : Array Value} {n i off : Nat} {u : Value} (hi : i < n) (ho : z.toList[off]? = some u) : (Builtin.zeroCells z n).toList[i * z.size + off]? = some u:=by
 have h1 : off < z.size:=by have:=(List.getElem?_eq_some_iff.1 ho).1;simpa using this
 have h2 : i * z.size + z.size <= n * z.size:=by rw [<- Nat.succ_mul];exact Nat.mul_le_mul_right _ hi
 have h3 : (i * z.size + off) % z.size=off:=by
  rw [Nat.mul_comm,Nat.mul_add_mod,Nat.mod_eq_of_lt h1]
 unfold Builtin.zeroCells
 rw [Array.toList_map,List.getElem?_map]
 rw [Array.toList_range,List.getElem?_range (show i * z.size + off < n * z.size by omega),Option.map_some,h3]
 rw [getElem!_pos z off h1]
 have:=(List.getElem?_eq_some_iff.1 ho).2
 rw [<- this];simp
theorem mD {T : Nat} {ty : TypeId} {zs : List D} (hk : nN P T zs=true) (hz1 : ∀ c ∈ zs,au c=true) {g o n cap : Nat} {cur : List Value} {T0 : TypeId} (hn : n ≠ 0) (hg : w.heap[g]? = some (.cells cur.toArray T0 (0,0))) (hgl : g < w.heap.size) (hl : o + n * zs.length <= cur.length) :
  ∃ (w' : World) (Z : List Value),(Builtin.clear_ #[T] ty #[.slice (some ⟨g,o,none⟩) n cap]).run P w=.ok (.tuple #[]) w' /\ w'.heap[g]? = some (.cells (cur.take o++Z++cur.drop (o + n * zs.length)).toArray T0 (0,0)) /\ Z.length=n * zs.length /\
   (∀ i off c,i < n -> zs[off]? = some c -> ∃ u,Z[i * zs.length + off]? = some u /\ ∀ (F : Fid) (M : Mem),ab F M c u) /\ Ch (fun k=>k=g) w w':=by
 unfold nN at hk
 split at hk
 ·rename_i e hu
  obtain ⟨z,i,hi,hiz,hz,hzs,hzc⟩:=zeroOk_z hk
  have hcell : ∀ (off : Nat) (c : D),zs[off]? = some c -> ∃ u,z.cells.toList[off]? = some u /\ u.oneCell'=true /\ ∀ (F : Fid) (M : Mem),ab F M c u:=fun off c hc=>by
   have h1 : off < z.cells.toList.length:=by have:=(List.getElem?_eq_some_iff.1 hc).1;simp;omega
   have h2 : ∀ (F : Fid) (M : Mem),ab F M c (z.cells.toList[off]):=fun F M=>by
    rcases hzc off c _ hc (List.getElem?_eq_getElem h1) (F:=F) (L:=fun _=>none) (New:=fun _=>True) (f:=fun _=>.any) (M:=M) (a:={ tmps:=#[],defers:=[] }) (w:=w) with ⟨_,h3⟩ | ⟨n,rfl,_⟩ | ⟨_,_,_,h3,_⟩
    ·exact h3
    ·have:=hz1 _ (List.mem_of_getElem? hc);simp [au] at this
    ·cases h3
   exact ⟨_,List.getElem?_eq_getElem h1,oneCell_of (h2 ⟨P,fun _=>none,fun _=>0,fun _=>.nilIface⟩ (fun _=>none)) (hz1 _ (List.mem_of_getElem? hc)),h2⟩
  have hone : ∀ v ∈ (Builtin.zeroCells z.cells n).toList,v.oneCell'=true:=fun v hv=>by
   simp only [Builtin.zeroCells,Array.toList_map,List.mem_map] at hv
   obtain ⟨x,hx,rfl⟩:=hv
   have hx' : x < n * z.cells.size:=by simpa using hx
   have hpos : 0 < z.cells.size:=by
    rcases Nat.eq_zero_or_pos z.cells.size with h | h
    ·rw [h] at hx';simp at hx'
    ·exact h
   have hlt:=Nat.mod_lt x hpos
   obtain ⟨u,k1,k2,_⟩:=hcell (x % z.cells.size) (zs[x % z.cells.size]'(by rw [<- hzs];exact hlt)) (List.getElem?_eq_getElem _)
   rw [getElem!_pos z.cells _ hlt]
   have : z.cells[x % z.cells.size]=u:=by
    have:=(List.getElem?_eq_some_iff.1 k1).2
    simpa using this
   rw [this];exact k2
  have hZ : (Builtin.zeroCells z.cells n).toList.length=n * zs.length:=by
   simp [Builtin.zeroCells,hzs]
  obtain ⟨w',e1,e2,e3,e4,e5,e6,e7,e8⟩:=cu (P:=P) g T0 o (Builtin.zeroCells z.cells n).toList 0 cur w hg (by rw [hZ];simpa using hl) hone
  refine ⟨w',(Builtin.zeroCells z.cells n).toList,?_,?_,hZ,fun i off c hin hc=>?_,⟨e5,e6,e7,by omega,fun k _ hk=>e3 k hk,by omega⟩⟩
  ·have hu' : (underlying T).run P w=.ok (.slice e) w:=run_underlying hu w
   unfold Builtin.clear_
   simp only [List.getElem?_toArray,List.getElem?_cons_zero,Sem.run_bind,hu',Result.andThen_ok]
   cases n with
   | zero=>exact absurd rfl hn
   | succ n=>simp only [hz,Result.andThen_ok,e1,Sem.run_pure]
  ·rw [e2];simp only [Nat.add_zero,hZ]
  ·obtain ⟨u,k1,_,k3⟩:=hcell off c hc
   exact ⟨u,by rw [<- hzs];exact lT hin k1,k3⟩
 ·cases hk
theorem lY {base k n sz : Nat} {es : List (List D)} {zs : List D} {us Z : List Value} {R : D -> Value -> Prop} (hkn : k + n <= es.length) (hzs : zs.length=sz) (hes : ∀ e ∈ es,e.length=sz) (hlen : base + es.length * sz <= us.length) (hZl : Z.length=n * sz) (hZ : ∀ i off c,i < n -> zs[off]? = some c -> ∃ u,Z[i * sz + off]? = some u /\ R c u)
  (hold : ∀ i r off d,es[i]? = some r -> r[off]? = some d -> ∃ u,us[base + i * sz + off]? = some u /\ R d u) : ∀ i r off d,(dl es k n zs)[i]? = some r -> r[off]? = some d -> ∃ u,(us.take (base + k * sz)++Z++us.drop (base + k * sz + n * sz))[base + i * sz + off]? = some u /\ R d u:=by
 intro i r off d h1 h2
 have hle : k * sz + n * sz <= es.length * sz:=by rw [<- Nat.add_mul];exact Nat.mul_le_mul_right _ hkn
 have hget:=fun x=>eL (vs:=us) (us:=Z) (q:=base + k * sz) (n:=n * sz) (x:=x) hZl (by omega)
 rw [rG hkn] at h1
 split at h1
 ·rename_i hi
  cases h1
  have ho : off < sz:=by have:=(List.getElem?_eq_some_iff.1 h2).1;omega
  obtain ⟨u,k1,k2⟩:=hZ (i - k) off d (by omega) h2
  refine ⟨u,?_,k2⟩
  have e1 : i * sz=k * sz + (i - k) * sz:=by rw [<- Nat.add_mul];congr 1;omega
  have e2 : (i - k) * sz + sz <= n * sz:=by rw [<- Nat.succ_mul];exact Nat.mul_le_mul_right _ (by omega)
  rw [hget,if_pos (by omega),<- k1]
  congr 1
  omega
 ·rename_i hi
  have ho : off < sz:=by have:=(List.getElem?_eq_some_iff.1 h2).1;have:=hes r (List.mem_of_getElem? h1);omega
  obtain ⟨u,k1,k2⟩:=hold i r off d h1 h2
  refine ⟨u,?_,k2⟩
  rw [hget,if_neg,k1]
  intro hx
  by_cases hik : i < k
  ·have : i * sz + sz <= k * sz:=by rw [<- Nat.succ_mul];exact Nat.mul_le_mul_right _ hik
   omega
  ·have : k * sz + n * sz <= i * sz:=by rw [<- Nat.add_mul];exact Nat.mul_le_mul_right _ (by omega)
   omega
theorem sv {b : Nat} {x : D} (h : f b=x) (hx : isB x=true) : eff [(b,x)] [] f=f:=by
 funext s
 unfold eff
 by_cases e : s=b
 ·subst e;simp [h]
 ·have e1 : (s == b)=false:=by simpa using e
  simp [List.lookup_cons,e1,aw]
theorem vG (h : SR F nt S L w0 M0 f M a w) (hp : ∀ t,o.dst=some t -> t < nt) {zs : List D} {x : Opd} {y : Operand} {T : TypeId} (ho : o.op=.call { callee:=.builtin .clear,args:=#[y],argTypes:=#[T] }) (hx : ae F x y=true) (hk : nN P T zs=true)
  (hr : match vd f x with
  | .nils=>K (cS o.dst) []
  | .ref (.r b) k n=>match f b with
   | .blk sz es=>k + n <= es.length /\ zs.length=sz /\ (∀ e ∈ es,∀ c ∈ e,au c=true) /\ (∀ c ∈ zs,au c=true) /\ K (cS o.dst++[(b,.blk sz (dl es k n zs))]) []
   | _=>False
  | .ref (.n b i o') k n=>match f b with
   | .blk sz0 es0=>∃ row0,es0[i]? = some row0 /\ ∃ sz es,row0[o']? = some (.own sz es) /\ k + n <= es.length /\ zs.length=sz /\ (∀ c ∈ zs,au c=true) /\ K (cS o.dst++[(b,.blk sz0 (aW es0 i o' 1 [.own sz (dl es k n zs)]))]) []
   | _=>False
  | _=>False) : o.wp P a w (PostX F nt S L w0 M0 f K) Q:=by
 obtain ⟨ρ,ω,hO⟩:=h.own
 have hv:=hO.opd hx
 have exec : ∀ v w',(Builtin.clear_ #[T] o.type #[a.eval y]).run P w=.ok v w' -> (execOp a.eval o).run P w=.ok (.value v) w':=fun v w' e=>by
  simp only [execOp,ho,resolve,invoke,builtin,List.map_toArray,List.map_cons,List.map_nil,Sem.run_bind,Sem.run_pure,Result.andThen_ok,e]
 have noop : ∀ v : Value,(v=.slice none 0 0 \/ ∃ A cap,v=.slice A 0 cap) -> a.eval y=v -> (underlying T).run P w=.ok (match P.underlying T with | some u=>u | none=>default) w -> (execOp a.eval o).run P w=.ok (.value (.tuple #[])) w:=by
  intro v hv' e hu
  refine exec _ _ ?_
  rw [e]
  unfold Builtin.clear_
  simp only [List.getElem?_toArray,List.getElem?_cons_zero,Sem.run_bind,hu,Result.andThen_ok]
  rcases hv' with rfl | ⟨A,cap,rfl⟩
  ·simp
  ·cases A <;> simp
 have hu : (underlying T).run P w=.ok (match P.underlying T with | some u=>u | none=>default) w:=by
  unfold nN at hk
  split at hk
  ·rename_i e hu
   rw [run_underlying hu w,hu]
  ·cases hk
 have unit : ∀ (b : Nat) (x : D) (M' : Mem) (w' : World),SR F nt S L w0 M0 (eff [(b,x)] [] f) M' a w' -> SR F nt S L w0 M0 (eff (cS o.dst++[(b,x)]) [] f) M' (a.put o.dst (.tuple #[])) w':=fun b x M' w' hs=>by
  rw [<- nP]
  cases hd : o.dst with
  | none=>simpa [Act.put] using hs
  | some t=>exact hs.put (hp t hd) fun _ _ _=>by rw [ah rfl];simp [al,ab,ap]
 split at hr
 ·rename_i hvx
  rw [hvx,ah rfl] at hv
  simp only [al,ab] at hv
  refine ce (noop _ (.inl rfl) hv hu) ⟨_,_,M,hr,?_⟩
  cases hd : o.dst with
  | none=>simpa [Act.put,cS,gL] using h
  | some t=>exact h.put (hp t hd) fun _ _ _=>by rw [ah rfl];simp [al,ab,ap]
 ·rename_i b k n hvx
  rw [hvx,ah rfl] at hv
  split at hr
  ·rename_i sz es hf
   obtain ⟨hkn,hzs,hes1,hz1,hK⟩:=hr
   have hb:=hO.big hf
   have hgp : aL f (.r b)=some (sz,es):=by simp [aL,hf]
   by_cases hn : n=0
   ·subst hn
    have e0 : dl es k 0 zs=es:=by simp [dl]
    rw [e0] at hK
    have hv' : ∃ A cap,a.eval y=.slice A 0 cap:=by
     simp only [al] at hv
     rcases hv with ⟨_,A,e⟩ | ⟨cap,e,_⟩
     ·exact ⟨A,0,e⟩
     ·exact ⟨_,cap,e⟩
    refine ce (noop _ (.inr hv') rfl hu) ⟨_,_,M,hK,unit b _ M w ?_⟩
    rw [sv hf rfl];exact h
   ·rcases fq hO hgp hkn hv (fun e he c hc=>bX (hes1 e (List.mem_of_mem_drop (List.mem_of_mem_take he)) c hc)) with ⟨A,hv,hn0⟩ | ⟨cap,us,T0,hv,⟨hcap,hmc⟩,hcl,hω,g0,g1,g2,g4,g5⟩
    ·exact absurd hn0 hn
    ·have hrows : dT w (ρ (.r b)) sz es (fun i off d v=>bF F M ω ρ w b i off d v):=by
      rcases hO.roots b sz es hb hf with ⟨e0,_⟩ | ⟨_,hr⟩
      ·rw [e0] at hkn;simp at hkn;omega
      ·exact hr
     obtain ⟨q0,us0,T1,q1,q2,q3,q4,q5⟩:=id hrows
     rw [g1] at q1
     simp only [Option.some.injEq,Obj.cells.injEq,and_true] at q1
     obtain ⟨q1,rfl⟩:=q1
     obtain rfl : us=us0:=by simpa using congrArg Array.toList q1
     have hle : k * sz + n * sz <= es.length * sz:=by rw [<- Nat.add_mul];exact Nat.mul_le_mul_right _ hkn
     obtain ⟨w',Z,e1,e2,e3,e4,e5⟩:=mD (P:=P) (w:=w) (ty:=o.type) hk hz1 hn (cap:=cap) g1 (hO.lt _ _ hω) (o:=(ρ (.r b)).base + k * sz) (by rw [hzs,g2];omega)
     rw [hzs] at e2 e3 e4
     have hfill:=h.fill hO hf hω hrows (es':=dl es k n zs) (us:=us.take ((ρ (.r b)).base + k * sz)++Z++us.drop ((ρ (.r b)).base + k * sz + n * sz)) (w':=w') (Nat.le_of_eq (jK hkn)) (fun e he=>by
      rcases mF he with rfl | he
      ·exact ⟨hzs,hz1⟩
      ·exact ⟨g4 e he,hes1 e he⟩) e5 e2 (by simp;omega) (lY (R:=fun d v=>ab F M d v) hkn hzs g4 (by rw [g2];exact q3) e3 (fun i off c hi hc=>by
       obtain ⟨u,k1,k2⟩:=e4 i off c hi hc
       exact ⟨u,k1,k2 F M⟩) (fun i r off d h1 h2=>by
       obtain ⟨u,k1,k2⟩:=q5 i r off d h1 h2
       rw [aR (bX (hes1 r (List.mem_of_getElem? h1) d (List.mem_of_getElem? h2)))] at k2
       exact ⟨u,k1,k2⟩))
     obtain ⟨_,_,_,_,hs⟩:=hfill
     refine ce (exec _ _ (by rw [hv];exact e1)) ⟨_,_,M,hK,unit b _ M w' hs⟩
  ·exact hr.elim
 ·rename_i b i0 o0 k n hvx
  rw [hvx,ah rfl] at hv
  split at hr
  ·rename_i sz0 es0 hf
   obtain ⟨row0,hi0,sz,es,ho0,hkn,hzs,hz1,hK⟩:=hr
   have hb:=hO.big hf
   have hgp : aL f (.n b i0 o0)=some (sz,es):=by simp [aL,hf,hi0,ho0]
   have hpath : bG ω ρ w (.n b i0 o0) sz es (fun _ _ d v=>ab F M d v):=(hO.get (p:=.n b i0 o0) hb hgp).1
   have hnoO : ∀ e ∈ (es.drop k).take n,∀ c ∈ e,isO c=false:=by
    intro e he c hc'
    have he:=List.mem_of_mem_drop (List.mem_of_mem_take he)
    rcases hpath with ⟨e0,_⟩ | ⟨_,_,vs,T,_,_,_,_,h5⟩
    ·rw [e0] at he;cases he
    ·obtain ⟨i,hi⟩:=List.mem_iff_getElem?.1 he
     obtain ⟨j,hj⟩:=List.mem_iff_getElem?.1 hc'
     obtain ⟨u,_,h6⟩:=h5 i e j c hi hj
     cases c <;> first | rfl | (simp [ab] at h6)
   by_cases hn : n=0
   ·subst hn
    have e0 : dl es k 0 zs=es:=by simp [dl]
    rw [e0] at hK
    have hv' : ∃ A cap,a.eval y=.slice A 0 cap:=by
     simp only [al] at hv
     rcases hv with ⟨_,A,e⟩ | ⟨cap,e,_⟩
     ·exact ⟨A,0,e⟩
     ·exact ⟨_,cap,e⟩
    refine ce (noop _ (.inr hv') rfl hu) ⟨_,_,M,hK,unit b _ M w (h.fillN hO hf hi0 ho0 rfl h.ch (Nat.le_refl _) h.holds hpath (fun _ _ _ _=>rfl))⟩
   ·rcases fq hO hgp hkn hv hnoO with ⟨A,hv,hn0⟩ | ⟨cap,us,T0,hv,⟨hcap,hmc⟩,hcl,hω,g0,g1,g2,g4,g5⟩
    ·exact absurd hn0 hn
    ·have hrows : dT w (ρ (.n b i0 o0)) sz es (fun _ _ d v=>ab F M d v):=by
      rcases hpath with ⟨e0,_⟩ | ⟨_,hr⟩
      ·rw [e0] at hkn;simp at hkn;omega
      ·exact hr
     obtain ⟨q0,us0,T1,q1,q2,q3,q4,q5⟩:=id hrows
     rw [g1] at q1
     simp only [Option.some.injEq,Obj.cells.injEq,and_true] at q1
     obtain ⟨q1,rfl⟩:=q1
     obtain rfl : us=us0:=by simpa using congrArg Array.toList q1
     have hle : k * sz + n * sz <= es.length * sz:=by rw [<- Nat.add_mul];exact Nat.mul_le_mul_right _ hkn
     obtain ⟨w',Z,e1,e2,e3,e4,e5⟩:=mD (P:=P) (w:=w) (ty:=o.type) hk hz1 hn (cap:=cap) g1 (hO.lt _ _ hω) (o:=(ρ (.n b i0 o0)).base + k * sz) (by rw [hzs,g2];omega)
     rw [hzs] at e2 e3 e4
     have hnew:=hO.new _ _ hω
     have hMb : ∀ p : Addr,p.block=(ρ (.n b i0 o0)).blk -> M p=none:=fun p hp=>hO.apart p (.n b i0 o0) (by rw [hp];exact hω)
     have hh : ∀ p v,M p=some v -> w'.cell? p=some v:=fun p v hp=>by
      have hne : p.block ≠ (ρ (.n b i0 o0)).blk:=fun e=>by rw [hMb p e] at hp;cases hp
      have h8:=h.holds p v hp
      rw [World.cell?_of_block (e5.block _ (World.block_lt_of_cell? w p h8) hne)]
      exact h8
     refine ce (exec _ _ (by rw [hv];exact e1)) ⟨_,_,M,hK,unit b _ M w' (h.fillN hO hf hi0 ho0 (jK hkn) (h.ch.trans e5 (fun k hk e=>by rcases hnew with h7 | h7;rw [e];exact h7;omega)) e5.size hh (.inr ⟨hω,g0,_,T0,e2,by simp;omega,by rw [jK hkn];exact q3,fun e he=>by
      rcases mF he with rfl | he
      ·exact hzs
      ·exact g4 e he,lY (R:=fun d v=>ab F M d v) hkn hzs g4 (by rw [g2];exact q3) e3 (fun i off c hi hc=>by
       obtain ⟨u,k1,k2⟩:=e4 i off c hi hc
       exact ⟨u,k1,k2 F M⟩) q5⟩) (fun k q hk hq=>e5.block k (hO.lt _ _ hk) (by rintro rfl;rw [hω] at hk;cases hk;exact hq rfl)))⟩
  ·exact hr.elim
 ·exact hr.elim
end
end Go.Gv

namespace Go.Gv
open Go.RowKit
section
variable {P : Program} {F : Fid} {C : Nat -> List D -> D -> List D -> Prop} {nt : Nat} {S : Nat -> Prop} {L : Nat -> Option Loc} {w0 : World} {M0 : Mem} {f : Nat -> D} {M M' : Mem} {a : Act} {w w' : World} {o : Oper} {d : D} {Q : Exit -> Act -> World -> Prop} {ρ ρ' : Pa -> Loc} {ω ω' : Nat -> Option Pa} {New : Nat -> Prop} {K : List (Nat × D) -> List (Nat × Bool) -> Prop}
theorem jW (p : Pa) : bg p.root true p=true:=by cases p <;> simp [bg,Pa.root]
theorem im {t i b : Nat} {x d : D} (h : (b,x) ∈ ci t i d) : b=rt t i /\ ∃ sz es,x=.blk sz es /\ ∀ t',(rt t' i,x) ∈ ci t' i d:=by
 cases d <;> simp only [ci,List.mem_cons,List.not_mem_nil,or_false,Prod.mk.injEq] at h
 all_goals exact ⟨h.1,_,_,h.2,fun t'=>by rw [h.2];simp [ci]⟩
theorem io {t b : Nat} {x : D} : ∀ {ds : List D} {i : Nat},(b,x) ∈ bB t i ds -> ∃ j,i <= j /\ j < i + ds.length /\ b=rt t j /\ ∃ sz es,x=.blk sz es /\ ∀ t',(rt t' j,x) ∈ bB t' i ds
 | [],_,h=>by simp [bB] at h
 | d::ds,i,h=>by
  simp only [bB,List.mem_append] at h
  rcases h with h | h
  ·obtain ⟨e,sz,es,e2,h2⟩:=im h
   exact ⟨i,Nat.le_refl _,by simp,e,sz,es,e2,fun t'=>by simp only [bB,List.mem_append];exact .inl (h2 t')⟩
  ·obtain ⟨j,h1,h2,e,sz,es,e2,h3⟩:=io h
   exact ⟨j,by omega,by simp;omega,e,sz,es,e2,fun t'=>by simp only [bB,List.mem_append];exact .inr (h3 t')⟩
theorem eR {t b : Nat} {x y : D} : ∀ {ds : List D} {i : Nat},(b,x) ∈ bB t i ds -> (b,y) ∈ bB t i ds -> x=y
 | [],_,h,_=>by simp [bB] at h
 | d::ds,i,h,h'=>by
  simp only [bB,List.mem_append] at h h'
  have far : ∀ {z : D},(b,z) ∈ bB t (i + 1) ds -> b ≠ rt t i:=fun hz e=>by
   obtain ⟨j,h1,_,e2,_⟩:=io hz
   rw [e] at e2
   unfold rt at e2
   omega
  rcases h with h | h <;> rcases h' with h' | h'
  ·cases d <;> simp only [ci,List.mem_cons,List.not_mem_nil,or_false,Prod.mk.injEq] at h h'
   all_goals rw [h.2,h'.2]
  ·exact absurd (im h).1 (far h')
  ·exact absurd (im h').1 (far h)
  ·exact eR h h'
theorem pV {b : Nat} {x : D} : ∀ {l : List (Nat × D)},(∀ y,(b,y) ∈ l -> y=x) -> (b,x) ∈ l -> l.lookup b=some x
 | [],_,h=>by simp at h
 | (c,y)::l,hu,h=>by
  by_cases e : b=c
  ·subst e
   rw [hu y (by simp)]
   simp
  ·have e1 : (b == c)=false:=by simpa using e
   simp only [List.lookup_cons,e1]
   refine pV (fun y hy=>hu y (by simp [hy])) ?_
   rcases List.mem_cons.1 h with h | h
   ·cases h;exact absurd rfl e
   ·exact h
theorem pi {b : Nat} : ∀ {l : List (Nat × D)},(∀ y,(b,y) ∉ l) -> l.lookup b=none
 | [],_=>rfl
 | (c,y)::l,h=>by
  have e : b ≠ c:=fun e=>h y (by simp [e])
  have e1 : (b == c)=false:=by simpa using e
  simp only [List.lookup_cons,e1]
  exact pi fun y hy=>h y (by simp [hy])
theorem qI {t i : Nat} {d : D} {v : Value} (h : al F M ρ (eE 0 i d) v) (he : ∀ x,(rt 0 i,x) ∈ ci 0 i d -> ρ' (.r (rt t i))=ρ (.r (rt 0 i))) (hp : ∀ p k n,d ≠ .ref p k n) (hp2 : ∀ p k n,d ≠ .adr p k n) (hp3 : ∀ b,d ≠ .mrf b) (hp4 : ∀ T p k n,d ≠ .ifa T p k n) : al F M ρ' (eE t i d) v:=by
 cases d
 case own sz es =>
  have e:=he (.blk sz es) (by simp [ci])
  simp only [eE,al] at h ⊢
  rw [e];exact h
 case blk sz es =>
  have e:=he (.blk sz es) (by simp [ci])
  simp only [eE,al] at h ⊢
  rw [e];exact h
 case ref p k n=>exact absurd rfl (hp p k n)
 case adr p k n=>exact absurd rfl (hp2 p k n)
 case mrf b=>exact absurd rfl (hp3 b)
 case ifa T p k n=>exact absurd rfl (hp4 T p k n)
 all_goals exact h
theorem gO {t : Nat} : ∀ {ds : List D} {i : Nat} {vs : List Value},b6 F M ρ (bI 0 i ds) vs -> (∀ j x,(rt 0 j,x) ∈ bB 0 i ds -> ρ' (.r (rt t j))=ρ (.r (rt 0 j))) -> (∀ d ∈ ds,tg d=true) -> b6 F M ρ' (bI t i ds) vs
 | [],i,vs,h,_,_=>⟨by simpa [bI] using h.1,fun j d v h1=>by simp [bI] at h1⟩
 | d::ds,i,[],h,_,_=>by have:=h.1;simp [bI] at this
 | d::ds,i,v::vs,h,he,hk=>by
  have hd:=hk d (by simp)
  have ih:=gO (t:=t) (ds:=ds) (i:=i + 1) (vs:=vs) ⟨by have:=h.1;simpa [bI] using this,fun j d' v' h1 h2=>h.2 (j + 1) d' v' (by simpa [bI] using h1) (by simpa using h2)⟩ (fun j x hx=>he j x (by simp only [bB,List.mem_append];exact .inr hx)) (fun d' hd'=>hk d' (by simp [hd']))
  refine ⟨by have:=ih.1;simp [bI,this],fun j d' v' h1 h2=>?_⟩
  cases j with
  | zero =>
   simp only [bI,List.getElem?_cons_zero,Option.some.injEq] at h1 h2
   subst h1 h2
   exact qI (h.2 0 _ _ (by simp [bI]) rfl) (fun x hx=>he i x (by simp only [bB,List.mem_append];exact .inl hx)) (fun p k n e=>by rw [e] at hd;cases hd) (fun p k n e=>by rw [e] at hd;cases hd) (fun b e=>by rw [e] at hd;cases hd) (fun T p k n e=>by rw [e] at hd;cases hd)
  | succ j=>exact ih.2 j d' v' (by simpa [bI] using h1) (by simpa using h2)
theorem fu {t b : Nat} {x R : D} (hok : okR R=true) (h : (b,x) ∈ aK t R) : ∃ j,1 <= j /\ j <= 14 /\ b=rt t j /\ ∃ sz es,x=.blk sz es /\ ∀ t',(rt t' j,x) ∈ aK t' R:=by
 obtain ⟨j,h1,h2,h3,h4⟩:=io h
 refine ⟨j,h1,?_,h3,h4⟩
 have : (gC R).length <= 14:=by
  cases R <;> simp only [okR,Bool.and_eq_true,decide_eq_true_eq,Bool.false_eq_true] at hok <;> first | exact hok.1 | simp [gC]
 omega
theorem qR {R : D} (hok : okR R=true) : ∀ d ∈ gC R,tg d=true:=by
 cases R <;> simp only [okR,Bool.and_eq_true,Bool.false_eq_true,List.all_eq_true] at hok <;> first | exact hok.2 | (intro d hd;simp only [gC,List.mem_cons,List.not_mem_nil,or_false] at hd;subst hd;rfl)
theorem rg (hC : bi P F C) (h : SR F nt S L w0 M0 f M a w) (hL : ∀ t i,i < 15 -> L (rt t i)=none) {t : Nat} (hd : o.dst=some t) (ht : t < nt) {g fi : Nat} {xs : List Opd} {ys : Array Operand} {ts : Array TypeId} (ho : o.op=.call { callee:=.value (.func fi),args:=ys,argTypes:=ts }) (hx : a7 F xs ys.toList=true)
  (hg : F g=some fi) (hr : (∀ x ∈ xs,isV (vd f x)=true) /\ ∃ R,okR R=true /\ C g (xs.map (vd f)) R [.nils] /\ K ((t,dz t R)::aK t R) (df t R)) : o.wp P a w (PostX F nt S L w0 M0 f K) Q:=by
 obtain ⟨hxs,R,hok,hc,hK⟩:=hr
 have hrun : (execOp a.eval o).run P w=(callFunc fi (ys.toList.map a.eval).toArray).run P w:=by
  simp only [execOp,ho,resolve,Act.eval,Deferred.ofValue,Sem.run_bind,Sem.run_pure,Result.andThen_ok,invoke]
  congr 2
  rw [Array.append_empty,Array.empty_append]
  apply Array.ext'
  simp
 have hrep : ap F M (xs.map (vd f)) (ys.toList.map a.eval):=by
  have h1:=cx h hx (by rw [List.all_eq_true];exact hxs)
  rwa [List.map_congr_left (g:=vd f) fun x hx'=>by unfold dpv;exact (dJ (hxs x hx')).1] at h1
 obtain ⟨ρ,ω,hO⟩:=h.own
 have ht10 : t < 10000:=Nat.lt_of_lt_of_le ht h.hnt
 unfold Oper.wp
 rw [hrun,bu (hC.body g fi hg),Oper.upon_enter]
 refine (hC.runsA g fi _ R hg hc M w _ h.holds hrep).mono ?_
 rintro e w' ⟨v,M',ρ',ω',us,rfl,hb,hM,hfr,hh,hsh,hrl,hroot,hω',hap'⟩
 rw [hd]
 refine ⟨_,_,M',hK,?_⟩
 have mem : ∀ b,((aK t R).any fun q=>q.1 == b)=true ↔ ∃ x,(b,x) ∈ aK t R:=fun b=>by
  simp only [List.any_eq_true,beq_iff_eq]
  constructor
  ·rintro ⟨⟨c,x⟩,h1,rfl⟩;exact ⟨x,h1⟩
  ·rintro ⟨x,h1⟩;exact ⟨(b,x),h1,rfl⟩
 obtain ⟨ρ2,hρ2⟩ : ∃ ρ2 : Pa -> Loc,ρ2=fun p=>if ((aK t R).any fun q=>q.1 == p.root)=true then ρ' (p.to (p.root - 16 * t)) else ρ p:=⟨_,rfl⟩
 obtain ⟨ω2,hω2⟩ : ∃ ω2 : Nat -> Option Pa,ω2=fun k=>match ω' k with
  | some q=>some (q.to (q.root + 16 * t))
  | none=>match ω k with
   | some p=>if ((aK t R).any fun q=>q.1 == p.root)=true then none else some p
   | none=>none:=⟨_,rfl⟩
 have r1 : ∀ p : Pa,(∃ x,(p.root,x) ∈ aK t R) -> ρ2 p=ρ' (p.to (p.root - 16 * t)):=fun p hp=>by rw [hρ2];simp only [(mem _).2 hp,if_true]
 have r2 : ∀ p : Pa,¬ (∃ x,(p.root,x) ∈ aK t R) -> ρ2 p=ρ p:=fun p hp=>by
  rw [hρ2]
  have : ¬ ((aK t R).any fun q=>q.1 == p.root)=true:=fun e=>hp ((mem _).1 e)
  simp only [if_neg this]
 have o1 : ∀ k q,ω' k=some q -> ω2 k=some (q.to (q.root + 16 * t)):=fun k q e=>by rw [hω2];simp only [e]
 have oldnew : ∀ k p q,ω k=some p -> ω' k ≠ some q:=fun k p q e e'=>by
  have:=hO.lt k p e
  have:=(hω' k q e').1
  omega
 have o2 : ∀ k p,ω k=some p -> ¬ (∃ x,(p.root,x) ∈ aK t R) -> ω2 k=some p:=fun k p e hp=>by
  have e1 : ω' k=none:=by
   cases e2 : ω' k with
   | none=>rfl
   | some q=>exact absurd e2 (oldnew k p q e)
  have : ¬ ((aK t R).any fun q=>q.1 == p.root)=true:=fun e=>hp ((mem _).1 e)
  rw [hω2];simp only [e1,e,if_neg this]
 have o3 : ∀ k p,ω2 k=some p -> (∃ q,ω' k=some q) \/ ω k=some p:=fun k p e=>by
  rw [hω2] at e
  simp only at e
  cases e1 : ω' k with
  | some q=>exact .inl ⟨q,rfl⟩
  | none =>
   rw [e1] at e
   simp only at e
   cases e2 : ω k with
   | none=>rw [e2] at e;cases e
   | some p' =>
    rw [e2] at e
    simp only at e
    split at e
    ·cases e
    ·cases e;exact .inr rfl
 have hshift : ∀ j x,(rt 0 j,x) ∈ aK 0 R -> ρ2 (.r (rt t j))=ρ' (.r (rt 0 j)):=fun j x hx=>by
  obtain ⟨j',h1,h2,h3,sz,es,h4,h5⟩:=fu hok hx
  have ej : j=j':=by unfold rt at h3;omega
  subst ej
  rw [r1 (.r (rt t j)) ⟨x,h5 t⟩]
  show ρ' (.r (rt t j - 16 * t))=_
  have : rt t j - 16 * t=rt 0 j:=by unfold rt;omega
  rw [this]
 have lkn : ∀ s,s ≠ t -> ¬ (∃ x,(s,x) ∈ aK t R) -> ((t,dz t R)::aK t R).lookup s=none:=fun s h1 h2=>by
  have e1 : (s == t)=false:=by simpa using h1
  simp only [List.lookup_cons,e1]
  exact pi fun y hy=>h2 ⟨y,hy⟩
 have small : ∀ s,s < 10000 -> ¬ (∃ x,(s,x) ∈ aK t R):=fun s hs ⟨x,hx⟩=>by
  obtain ⟨j,_,_,h3,_⟩:=fu hok hx
  unfold rt at h3;omega
 refine ⟨h.hnt,by simp [Act.put,h.size],by simp [Act.put,h.defers],h.ch.trans (Ch.of_below hb (fun _=>False)) (fun _ _ e=>e.elim),hh,Mem.le_trans h.ext hM,fun p h1 h2=>?_,ρ2,ω2,hO.step (ks:=df t R) (fun p hp=>?_) hM hb.size (fun s hs=>?_) (fun c hc=>?_) (fun k p e=>?_) (fun p q e=>?_) (fun c l hc hl hB=>?_)⟩
 ·by_cases e : M p=none
  ·exact .inr (Nat.le_trans h.ch.size (hfr p e h2))
  ·exact h.fresh p h1 e
 ·by_cases e : ∃ x,(p.root,x) ∈ aK t R
  ·obtain ⟨x,hx⟩:=e
   exact ⟨(p.root,true),List.mem_map.2 ⟨_,hx,rfl⟩,jW p⟩
  ·exact absurd (r2 p e) hp
 ·by_cases e : s=t
  ·right
   subst e
   have e1 : eff ((s,dz s R)::aK s R) (df s R) f s=dz s R:=aA (by simp)
   refine .inr ⟨v,getElem?_put_same (by rw [h.size];exact ht),?_⟩
   rw [e1]
   have hp:=qR hok
   cases R <;> simp only [okR,Bool.false_eq_true] at hok
   case agg ds=>exact ⟨us,hsh,gO hrl (fun j x hx=>hshift j x hx) hp⟩
   case tup ds=>exact ⟨us,hsh,gO hrl (fun j x hx=>hshift j x hx) hp⟩
   all_goals
    have h3:=gO (t:=s) hrl (fun j x hx=>hshift j x hx) hp
    simp only [pE] at hsh
    subst hsh
    have h4:=h3.2 0 _ v rfl rfl
    exact h4
  ·left
   rcases bl (f:=f) (ks:=df t R) (lkn s e (small s hs)) with h1 | h1
   ·exact .inl h1
   ·exact .inr ⟨h1.1,getElem?_put e,h1.2⟩
 ·by_cases e : ∃ x,(c,x) ∈ aK t R
  ·obtain ⟨x,hx⟩:=e
   obtain ⟨j,h1,h2,h3,sz,es,rfl,h5⟩:=fu hok hx
   right
   have hct : (c == t)=false:=by simp;omega
   have hlk : ((t,dz t R)::aK t R).lookup c=some (.blk sz es):=by
    simp only [List.lookup_cons,hct]
    exact pV (fun y hy=>(eR hx hy).symm) hx
   have ec : c - 16 * t=rt 0 j:=by rw [h3];unfold rt;omega
   have ec2 : rt 0 j + 16 * t=c:=by rw [h3];unfold rt;omega
   refine .inl ⟨sz,es,aA hlk,(hroot (rt 0 j) sz es (h5 0)).carry (Mem.le_refl _) (fun p hp=>?_)⟩
   refine ⟨?_,fun e2=>⟨?_,rfl⟩⟩
   ·rw [r1 _ ⟨_,by rw [Pa.to_root];exact hx⟩,Pa.to_root,ec,Pa.to_to (rt 0 j) c p hp]
   ·rw [o1 _ _ e2,hp,ec2]
  ·left
   rcases bx (f:=f) (ks:=df t R) (lkn c (by omega) e) with h1 | h1
   ·exact .inl h1
   ·refine .inr ⟨h1,fun p hp=>?_⟩
    have hpe : ¬ (∃ x,(p.root,x) ∈ aK t R):=by rw [hp];exact e
    exact ⟨r2 p hpe,fun hw=>⟨o2 _ _ hw hpe,hb.block _ (hO.lt _ _ hw)⟩⟩
 ·rcases o3 k p e with ⟨q,e1⟩ | e1
  ·exact .inr ⟨(hω' k q e1).2.1,.inr (Nat.le_trans h.ch.size (hω' k q e1).1)⟩
  ·exact .inl ⟨p,e1⟩
 ·rcases o3 _ q e with ⟨q',e1⟩ | e1
  ·exact hap' p q' e1
  ·cases e3 : M' p with
   | none=>rfl
   | some u =>
    have h1:=hfr p (hO.apart p q e1) (by rw [e3];simp)
    have:=hO.lt _ _ e1
    omega
 ·by_cases e : ∃ x,(c,x) ∈ aK t R
  ·obtain ⟨x,hx⟩:=e
   obtain ⟨j,h1,h2,h3,_⟩:=fu hok hx
   rw [h3,hL t j (by omega)] at hl;cases hl
  ·have hpe : ¬ (∃ x,((Pa.r c).root,x) ∈ aK t R):=e
   refine ⟨r2 _ hpe,?_⟩
   rcases bx (f:=f) (ks:=df t R) (lkn c (by omega) e) with h1 | h1
   ·rw [hB] at h1;cases h1
   ·rw [<- h1];exact hB
end
end Go.Gv

namespace Go.Gv
section
variable {P : Program} {F : Fid} {C : Nat -> List D -> D -> List D -> Prop} {nt : Nat} {S : Nat -> Prop} {L : Nat -> Option Loc} {w0 : World} {M0 : Mem} {f : Nat -> D} {M : Mem} {a : Act} {w : World} {o : Oper} {d : D} {Q : Exit -> Act -> World -> Prop} {ρ : Pa -> Loc} {ω : Nat -> Option Pa} {New : Nat -> Prop} {K : List (Nat × D) -> List (Nat × Bool) -> Prop}
theorem SR.frzS (h : SR F nt S L w0 M0 f M a w) {t : Nat} (ht : t < nt) {c : Nat} (hc : 10000 <= c) {cs : List D} {v : Value}
  (hv : ∀ ρ ω,Own F L (fun k=>S k \/ w0.heap.size <= k) f M a w ρ ω -> ab F (aQ (b4 ω c) M w) (.agg cs) v) :
  ∃ M',SR F nt S L w0 M0 (eff [(t,.agg cs),(c,.any)] [] f) M' (a.put (some t) v) w:=by
 obtain ⟨ρ,ω,hO⟩:=h.own
 have hnt:=h.hnt
 have hsz:=h.size
 have hO1:=hO.only hc
 have hr:=hv ρ ω hO
 have hle : M.le (aQ (b4 ω c) M w):=bQ hO1
 have hE:=hO.erase hc
 have hf' : ∀ s,eff [(t,.agg cs),(c,.any)] [] f s=if s=t then .agg cs else fbE f c s:=fun s=>by
  unfold eff fbE
  by_cases e : s=t
  ·subst e;simp
  ·have b1 : (s == t)=false:=by simpa using e
   by_cases e2 : s=c
   ·subst e2
    simp only [List.lookup,b1,beq_self_eq_true,if_neg e,if_true]
   ·have b2 : (s == c)=false:=by simpa using e2
    simp only [List.lookup,b1,b2,if_neg e,if_neg e2]
    simp [aw]
 refine ⟨aQ (b4 ω c) M w,⟨hnt,by simp [Act.put,hsz],by simp [Act.put,h.defers],h.ch,bp h.holds,Mem.le_trans h.ext hle,fun p h1 h2=>?_,ρ,fb ω c,?_⟩⟩
 ·by_cases e : M p=none
  ·unfold aQ at h2
   split at h2
   ·rename_i q hq
    exact hO.new _ _ (cf hq).1
   ·exact absurd e h2
  ·exact h.fresh p h1 e
 ·refine hE.step (ks:=[]) (fun p hp=>absurd rfl hp) hle (Nat.le_refl _) (fun s hs=>?_) (fun b hb=>?_) (fun k p e=>.inl ⟨p,e⟩) (fun p q e=>?_) (fun b l hb hl hB=>?_)
  ·rw [hf']
   by_cases e : s=t
   ·subst e
    rw [if_pos rfl]
    refine .inr (.inr ⟨v,by simp [Act.put,hsz,ht],?_⟩)
    rw [hf',if_pos rfl,ah rfl]
    exact hr
   ·rw [if_neg e]
    refine .inl (.inr ⟨rfl,?_,by simp [aw]⟩)
    simp [Act.put,Array.getElem?_setIfInBounds,Ne.symm e]
  ·have : b ≠ t:=by omega
   rw [hf',if_neg this]
   exact .inl (.inr ⟨rfl,fun p hp=>⟨rfl,fun hw=>⟨hw,rfl⟩⟩⟩)
  ·obtain ⟨e2,e3⟩:=db e
   have e4 : b4 ω c p.block=none:=by
    simp only [b4,e2,if_neg e3]
   simp only [aQ,e4]
   exact hO.apart p q e2
  ·have : b ≠ t:=by omega
   rw [hf',if_neg this] at hB
   exact ⟨rfl,hB⟩
theorem oN {v : Value} (h : ab F M d v) : aU d=d:=by
 cases d <;> first | rfl | (simp [ab] at h)
theorem qp (hO : Own F L New f M a w ρ ω) {c : Nat} (hc : 10000 <= c) {sz : Nat} {es : List (List D)} (hg : f c=.blk sz es) {i : Nat} {r : List D} (hi : es[i]? = some r) {off : Nat} (ho : r[off]? = some d) {v : Value} (h : bF F M ω ρ w c i off d v) : ab F (aQ (b4 ω c) M w) (aU d) v:=by
 have hO1:=hO.only hc
 cases d
 case own sz' rr =>
  obtain ⟨h1,h2⟩:=h
  have hcc : fcE f c c=f c:=by simp [fcE]
  have e1 : aL (fcE f c) (.n c i off)=some (sz',rr):=by simp only [aL,hcc,hg,hi,Option.getD_some,ho]
  have h3:=gg hO1 h1 (by simp only [aH,e1];omega)
  simp only [dp1,e1,List.drop_zero,List.take_length] at h3
  have h4 : rr.map (fun e=>e.map aU)=rr:=by
   rcases h2 with ⟨h2,_⟩ | ⟨_,_,vs,T,_,_,_,_,h5⟩
   ·rw [h2];rfl
   ·conv=>rhs;rw [<- List.map_id rr]
    refine List.map_congr_left fun e he=>?_
    conv=>rhs;rw [id_eq,<- List.map_id e]
    refine List.map_congr_left fun x hx=>?_
    obtain ⟨i',hi'⟩:=List.getElem?_of_mem he
    obtain ⟨o',ho'⟩:=List.getElem?_of_mem hx
    obtain ⟨u,_,hu⟩:=h5 i' e o' x hi' ho'
    exact oN hu
  rw [h4] at h3
  exact h3
 all_goals exact ab.mono (bQ hO1) _ _ h
theorem vM (h : SR F nt S L w0 M0 f M a w) {t0 : Nat} (hd : o.dst=some t0) (ht : t0 < nt) {n : Nat} {x : Opd} {x' : Operand} {t : TypeId} (ho : o.op=.load t x') (hx : ae F x x'=true) (hk : tyS P t n true=true)
  (hr : match vd f x with
   | .adr (.r c) i off=>match f c with
    | .blk _ es=>∃ r,es[i]? = some r /\ off + n <= r.length /\ K [(t0,.agg (((r.drop off).take n).map aU)),(c,.any)] []
    | _=>False
   | _=>False) : o.wp P a w (PostX F nt S L w0 M0 f K) Q:=by
 split at hr
 ·rename_i c i off ex
  split at hr
  ·rename_i sz es hg
   obtain ⟨r,hi,hn,hK⟩:=hr
   have gp : aL f (.r c)=some (sz,es):=by simp only [aL,hg]
   obtain ⟨ρ0,ω0,hO0⟩:=h.own
   have hc : 10000 <= c:=bH hO0 gp
   have run : ∃ v,(execOp a.eval o).run P w=.ok (.value v) w /\ ∀ ρ ω,Own F L (fun k=>S k \/ w0.heap.size <= k) f M a w ρ ω -> ab F (aQ (b4 ω c) M w) (.agg (((r.drop off).take n).map aU)) v:=by
    have one : ∀ ρ ω,Own F L (fun k=>S k \/ w0.heap.size <= k) f M a w ρ ω -> ∃ v,(execOp a.eval o).run P w=.ok (.value v) w /\ ab F (aQ (b4 ω c) M w) (.agg (((r.drop off).take n).map aU)) v:=by
     intro ρ ω hO
     have g1:=hO.opd hx
     rw [ex,ah rfl] at g1
     simp only [al] at g1
     obtain ⟨vs,T,hω,h0,hl,h1,h2,h3,h4⟩:=hO.row (p:=.r c) hc gp hi
     rw [h0] at g1
     have hcells : ∀ j v,(vs.drop ((ρ (.r c)).base + i * sz + off))[j]? = some v -> w.cell? ((⟨(ρ (.r c)).blk,(ρ (.r c)).base + i * sz + off,none⟩ : Addr).add j)=some v:=by
      intro j v hj
      rw [cg]
      rw [List.getElem?_drop] at hj
      simp [World.cell?,h1,hj]
     refine ⟨.agg ((vs.drop ((ρ (.r c)).base + i * sz + off)).take n).toArray,by simp only [execOp,ho,g1,Sem.run_bind,cK hk hcells (by simp;omega),Result.andThen_ok,Sem.run_pure,if_true],?_⟩
     simp only [ab]
     refine ⟨_,rfl,ap.of_forall' (by simp only [List.length_map,List.length_take,List.length_drop];omega) (fun j d v k1 k2=>?_)⟩
     rw [List.getElem?_map,Option.map_eq_some_iff] at k1
     obtain ⟨d',k1,rfl⟩:=k1
     have hj : j < n:=by
      have:=(List.getElem?_eq_some_iff.1 k1).1
      simp only [List.length_take] at this;omega
     rw [List.getElem?_take_of_lt hj,List.getElem?_drop] at k1 k2
     obtain ⟨v',k3,k4⟩:=h4 _ _ k1
     rw [Nat.add_assoc,k3] at k2
     cases k2
     exact qp hO hc hg hi k1 k4
    obtain ⟨v,hv,_⟩:=one ρ0 ω0 hO0
    refine ⟨v,hv,fun ρ ω hO=>?_⟩
    obtain ⟨v',hv',h2⟩:=one ρ ω hO
    rw [hv] at hv'
    cases hv'
    exact h2
   obtain ⟨v,hv,hrep⟩:=run
   obtain ⟨M',hs⟩:=h.frzS ht hc hrep
   exact ce hv (by rw [hd];exact ⟨_,_,M',hK,hs⟩)
  ·exact hr.elim
 ·exact hr.elim
end
end Go.Gv
namespace Go.Gv
section
variable {P : Program} {F : Fid} {C : Nat -> List D -> D -> List D -> Prop} {nt : Nat} {S : Nat -> Prop} {L : Nat -> Option Loc} {w0 : World} {M0 : Mem} {f : Nat -> D} {M : Mem} {a : Act} {w : World} {o : Oper} {d : D} {Q : Exit -> Act -> World -> Prop} {ρ : Pa -> Loc} {ω : Nat -> Option Pa} {New : Nat -> Prop} {K : List (Nat × D) -> List (Nat × Bool) -> Prop}
theorem kQ {t : Nat} : ∀ {ds : List D} {i j : Nat},(bI t i ds)[j]? = (ds[j]?).map (eE t (i + j))
 | [],i,j=>by simp [bI]
 | d::ds,i,j=>by
  cases j with
  | zero=>simp [bI]
  | succ j =>
   simp only [bI,List.getElem?_cons_succ]
   rw [kQ,show i + 1 + j=i + (j + 1) by omega]
theorem kR {t : Nat} : ∀ {ds : List D} {i : Nat},(bI t i ds).length=ds.length
 | [],i=>rfl
 | d::ds,i=>by simp [bI,kR]
theorem jT {t b : Nat} {x : D} : ∀ {ds : List D} {i : Nat},(b,x) ∈ bB t i ds -> ∃ j d,ds[j]? = some d /\ (b,x) ∈ ci t (i + j) d
 | [],i,h=>by simp [bB] at h
 | d::ds,i,h=>by
  simp only [bB,List.mem_append] at h
  rcases h with h | h
  ·exact ⟨0,d,by simp,h⟩
  ·obtain ⟨j,d',h1,h2⟩:=jT h
   exact ⟨j + 1,d',by simpa using h1,by rwa [show i + (j + 1)=i + 1 + j by omega]⟩
theorem jU {t b : Nat} {x : D} : ∀ {ds : List D} {i j : Nat} {d : D},ds[j]? = some d -> (b,x) ∈ ci t (i + j) d -> (b,x) ∈ bB t i ds
 | [],i,j,d,h,_=>by simp at h
 | d0::ds,i,j,d,h,hx=>by
  simp only [bB,List.mem_append]
  cases j with
  | zero=>simp at h;subst h;exact .inl hx
  | succ j=>exact .inr (jU (j:=j) (by simpa using h) (by rwa [show i + (j + 1)=i + 1 + j by omega] at hx))
theorem kU {t j sz : Nat} {ds : List D} {es : List (List D)} (h : ds[j]? = some (.own sz es)) : (rt t (1 + j),D.blk sz es) ∈ bB t 1 ds:=jU h (by simp [ci])
theorem SR.unpack (h : SR F nt S L w0 M0 f M a w) (hL : ∀ t i,i < 15 -> L (rt t i)=none) {t : Nat} (ht : t < nt) {c sz : Nat} {row : List D} (hg : f c=.blk sz [row]) (hok : okR (.agg row)=true) (hcn : ∀ x,(c,x) ∉ aK t (.agg row)) {v : Value}
  (hv : ∀ ρ ω,Own F L (fun k=>S k \/ w0.heap.size <= k) f M a w ρ ω -> ∃ vs : List Value,v=.agg vs.toArray /\ vs.length=row.length /\ ∀ (j : Nat) (d : D) (u : Value),row[j]? = some d -> vs[j]? = some u -> bF F M ω ρ w c 0 j d u) :
  SR F nt S L w0 M0 (eff ((t,dz t (.agg row))::(c,.any)::aK t (.agg row)) (df t (.agg row)) f) M (a.put (some t) v) w:=by
 obtain ⟨ρ,ω,hO⟩:=h.own
 obtain ⟨vs,hv1,hv2,hv3⟩:=hv ρ ω hO
 have hc10 : 10000 <= c:=hO.big hg
 have ht10 : t < 10000:=Nat.lt_of_lt_of_le ht h.hnt
 have hct0 : c ≠ t:=by omega
 obtain ⟨R,hR⟩ : ∃ R,R=D.agg row:=⟨_,rfl⟩
 rw [<- hR] at hok hcn ⊢
 have mem : ∀ b,((aK t R).any fun q=>q.1 == b)=true ↔ ∃ x,(b,x) ∈ aK t R:=fun b=>by
  simp only [List.any_eq_true,beq_iff_eq]
  constructor
  ·rintro ⟨⟨c,x⟩,h1,rfl⟩;exact ⟨x,h1⟩
  ·rintro ⟨x,h1⟩;exact ⟨(b,x),h1,rfl⟩
 have inR : ∀ j sz es,row[j]? = some (.own sz es) -> (rt t (1 + j),D.blk sz es) ∈ aK t R:=fun j sz es hj=>by
  rw [hR];exact kU hj
 have ofR : ∀ b x,(b,x) ∈ aK t R -> ∃ j sz es,b=rt t (1 + j) /\ row[j]? = some (.own sz es) /\ x=.blk sz es:=fun b x hx=>by
  rw [hR] at hx
  obtain ⟨j,d,hj,hd⟩:=jT hx
  have hj' : j < vs.length:=by rw [hv2];exact (List.getElem?_eq_some_iff.1 hj).1
  have hcell:=hv3 j d _ hj (List.getElem?_eq_getElem hj')
  cases d <;> simp only [ci,List.mem_cons,List.not_mem_nil,or_false,Prod.mk.injEq] at hd
  case own sz es=>exact ⟨j,sz,es,hd.1,hj,hd.2⟩
  case blk sz es=>simp [bF,ab] at hcell
 obtain ⟨ρ2,hρ2⟩ : ∃ ρ2 : Pa -> Loc,ρ2=fun p=>match p with
  | .r b=>if ((aK t R).any fun q=>q.1 == b)=true then ρ (.n c 0 (b - rt t 1)) else ρ p
  | .n _ _ _=>ρ p:=⟨_,rfl⟩
 obtain ⟨ω2,hω2⟩ : ∃ ω2 : Nat -> Option Pa,ω2=fun k=>match ω k with
  | some p=>if p.root=c then (match p with
    | .n _ i o=>if i=0 /\ ((aK t R).any fun q=>q.1 == rt t (1 + o))=true then some (.r (rt t (1 + o))) else none
    | .r _=>none) else if ((aK t R).any fun q=>q.1 == p.root)=true then none else some p
  | none=>none:=⟨_,rfl⟩
 have r1 : ∀ j x,(rt t (1 + j),x) ∈ aK t R -> ρ2 (.r (rt t (1 + j)))=ρ (.n c 0 j):=fun j x hx=>by
  rw [hρ2];simp only [(mem _).2 ⟨x,hx⟩,if_true]
  have : rt t (1 + j) - rt t 1=j:=by unfold rt;omega
  rw [this]
 have r2 : ∀ p : Pa,¬ (∃ x,(p.root,x) ∈ aK t R) -> ρ2 p=ρ p:=fun p hp=>by
  rw [hρ2]
  cases p with
  | r b =>
   have : ¬ ((aK t R).any fun q=>q.1 == b)=true:=fun e=>hp ((mem _).1 e)
   simp only [if_neg this]
  | n b i o=>rfl
 have o1 : ∀ k j x,ω k=some (.n c 0 j) -> (rt t (1 + j),x) ∈ aK t R -> ω2 k=some (.r (rt t (1 + j))):=fun k j x e hx=>by
  rw [hω2];simp only [e,Pa.root,if_true,(mem _).2 ⟨x,hx⟩,and_self]
 have o2 : ∀ k p,ω k=some p -> p.root ≠ c -> ¬ (∃ x,(p.root,x) ∈ aK t R) -> ω2 k=some p:=fun k p e hpc hp=>by
  have : ¬ ((aK t R).any fun q=>q.1 == p.root)=true:=fun e=>hp ((mem _).1 e)
  rw [hω2];simp only [e,if_neg hpc,if_neg this]
 have o3 : ∀ k p,ω2 k=some p -> ∃ q,ω k=some q:=fun k p e=>by
  rw [hω2] at e
  simp only at e
  cases e1 : ω k with
  | some q=>exact ⟨q,rfl⟩
  | none=>rw [e1] at e;cases e
 have lkn : ∀ s,s ≠ t -> s ≠ c -> ¬ (∃ x,(s,x) ∈ aK t R) -> ((t,dz t R)::(c,D.any)::aK t R).lookup s=none:=fun s h1 h2 h3=>by
  have e1 : (s == t)=false:=by simpa using h1
  have e2 : (s == c)=false:=by simpa using h2
  simp only [List.lookup_cons,e1,e2]
  exact pi fun y hy=>h3 ⟨y,hy⟩
 have small : ∀ s,s < 10000 -> ¬ (∃ x,(s,x) ∈ aK t R):=fun s hs ⟨x,hx⟩=>by
  obtain ⟨j,_,_,h3,_⟩:=ofR s x hx
  unfold rt at h3;omega
 refine ⟨h.hnt,by simp [Act.put,h.size],by simp [Act.put,h.defers],h.ch,h.holds,h.ext,h.fresh,ρ2,ω2,hO.step (ks:=df t R) (fun p hp=>?_) (Mem.le_refl _) (Nat.le_refl _) (fun s hs=>?_) (fun b hb=>?_) (fun k p e=>.inl (o3 k p e)) (fun p q e=>?_) (fun b l hb hl hB=>?_)⟩
 ·by_cases e : ∃ x,(p.root,x) ∈ aK t R
  ·obtain ⟨x,hx⟩:=e
   exact ⟨(p.root,true),List.mem_map.2 ⟨_,hx,rfl⟩,jW p⟩
  ·exact absurd (r2 p e) hp
 ·by_cases e : s=t
  ·right
   subst e
   have e1 : eff ((s,dz s R)::(c,D.any)::aK s R) (df s R) f s=dz s R:=aA (by simp)
   refine .inr ⟨v,getElem?_put_same (by rw [h.size];exact ht),?_⟩
   rw [e1,hR]
   refine ⟨vs,hv1,by rw [kR];exact hv2.symm,fun j d u h1 h2=>?_⟩
   rw [kQ,Option.map_eq_some_iff] at h1
   obtain ⟨d',h1,rfl⟩:=h1
   have hcell:=hv3 j d' u h1 h2
   cases d'
   case own sz' es' =>
    simp only [eE,al]
    rw [r1 j _ (inR j _ _ h1)]
    exact hcell.1
   all_goals first | exact al.of_pure hcell | (simp [bF,ab] at hcell;done)
  ·left
   rcases bl (f:=f) (ks:=df t R) (lkn s e (by omega) (small s hs)) with h1 | h1
   ·exact .inl h1
   ·exact .inr ⟨h1.1,getElem?_put e,h1.2⟩
 ·by_cases e : ∃ x,(b,x) ∈ aK t R
  ·obtain ⟨x,hx⟩:=e
   obtain ⟨j,sz',es',h3,h4,rfl⟩:=ofR b x hx
   right
   have hct : (b == t)=false:=by simp;omega
   have hbc : b ≠ c:=fun e=>hcn _ (e ▸ hx)
   have hct2 : (b == c)=false:=by simpa using hbc
   have hlk : ((t,dz t R)::(c,D.any)::aK t R).lookup b=some (.blk sz' es'):=by
    simp only [List.lookup_cons,hct,hct2]
    exact pV (fun y hy=>(eR hx hy).symm) hx
   refine .inl ⟨sz',es',aA hlk,?_⟩
   have hj' : j < vs.length:=by rw [hv2];exact (List.getElem?_eq_some_iff.1 h4).1
   have hcell:=hv3 j _ _ h4 (List.getElem?_eq_getElem hj')
   subst h3
   have e1:=r1 j _ hx
   unfold cC bG
   rw [e1]
   rcases hcell.2 with h5 | ⟨h5,h6,us,T,g1,g2,g3,g4,g5⟩
   ·exact .inl h5
   ·refine .inr ⟨o1 _ j _ h5 hx,h6,us,T,g1,g2,g3,g4,fun i r off d k1 k2=>?_⟩
    obtain ⟨u,k3,k4⟩:=g5 i r off d k1 k2
    refine ⟨u,k3,?_⟩
    cases d
    case own=>simp [ab] at k4
    all_goals exact k4
  ·by_cases ebc : b=c
   ·subst ebc
    refine .inl (.inl ?_)
    have hct : (b == t)=false:=by simp;omega
    rw [aA (d:=.any) (by simp [List.lookup_cons,hct])]
    rfl
   ·left
    rcases bx (f:=f) (ks:=df t R) (lkn b (by omega) ebc e) with h1 | h1
    ·exact .inl h1
    ·refine .inr ⟨h1,fun p hp=>?_⟩
     have hpe : ¬ (∃ x,(p.root,x) ∈ aK t R):=by rw [hp];exact e
     exact ⟨r2 p hpe,fun hw=>⟨o2 _ _ hw (by rw [hp];exact ebc) hpe,rfl⟩⟩
 ·obtain ⟨q',e1⟩:=o3 _ q e
  exact hO.apart p q' e1
 ·by_cases e : ∃ x,(b,x) ∈ aK t R
  ·obtain ⟨x,hx⟩:=e
   obtain ⟨j,h1,h2,h3,_⟩:=fu hok hx
   rw [h3,hL t j (by omega)] at hl;cases hl
  ·have hct : (b == t)=false:=by simp;omega
   by_cases ebc : b=c
   ·subst ebc
    rw [aA (d:=.any) (by simp [List.lookup_cons,hct])] at hB;cases hB
   ·refine ⟨r2 _ e,?_⟩
    rcases bx (f:=f) (ks:=df t R) (lkn b (by omega) ebc e) with h1 | h1
    ·rw [hB] at h1;cases h1
    ·rw [<- h1];exact hB
theorem vN (h : SR F nt S L w0 M0 f M a w) (hL : ∀ t i,i < 15 -> L (rt t i)=none) {t0 : Nat} (hd : o.dst=some t0) (ht : t0 < nt) {n : Nat} {x : Opd} {x' : Operand} {t : TypeId} (ho : o.op=.load t x') (hx : ae F x x'=true) (hk : tyS P t n true=true)
  (hr : match vd f x with
   | .adr (.r c) i off=>i=0 /\ off=0 /\ match f c with
    | .blk _ [row]=>row.length=n /\ okR (.agg row)=true /\ (aK t0 (.agg row)).all (fun p=>p.1 != c)=true /\ K ((t0,dz t0 (.agg row))::(c,.any)::aK t0 (.agg row)) (df t0 (.agg row))
    | _=>False
   | _=>False) : o.wp P a w (PostX F nt S L w0 M0 f K) Q:=by
 split at hr
 ·rename_i c i off ex
  obtain ⟨rfl,rfl,hr⟩:=hr
  split at hr
  ·rename_i sz row hg
   obtain ⟨hn,hok,hcn,hK⟩:=hr
   have gp : aL f (.r c)=some (sz,[row]):=by simp only [aL,hg]
   obtain ⟨ρ0,ω0,hO0⟩:=h.own
   have hc : 10000 <= c:=bH hO0 gp
   have run : ∃ v,(execOp a.eval o).run P w=.ok (.value v) w /\ ∀ ρ ω,Own F L (fun k=>S k \/ w0.heap.size <= k) f M a w ρ ω -> ∃ vs : List Value,v=.agg vs.toArray /\ vs.length=row.length /\ ∀ (j : Nat) (d : D) (u : Value),row[j]? = some d -> vs[j]? = some u -> bF F M ω ρ w c 0 j d u:=by
    have one : ∀ ρ ω,Own F L (fun k=>S k \/ w0.heap.size <= k) f M a w ρ ω -> ∃ v,(execOp a.eval o).run P w=.ok (.value v) w /\ ∃ vs : List Value,v=.agg vs.toArray /\ vs.length=row.length /\ ∀ (j : Nat) (d : D) (u : Value),row[j]? = some d -> vs[j]? = some u -> bF F M ω ρ w c 0 j d u:=by
     intro ρ ω hO
     have g1:=hO.opd hx
     rw [ex,ah rfl] at g1
     simp only [al] at g1
     obtain ⟨vs,T,hω,h0,hl,h1,h2,h3,h4⟩:=hO.row (p:=.r c) hc gp (i:=0) (r:=row) rfl
     rw [h0] at g1
     have hcells : ∀ j v,(vs.drop ((ρ (.r c)).base + 0 * sz + 0))[j]? = some v -> w.cell? ((⟨(ρ (.r c)).blk,(ρ (.r c)).base + 0 * sz + 0,none⟩ : Addr).add j)=some v:=by
      intro j v hj
      rw [cg]
      rw [List.getElem?_drop] at hj
      simp only [Nat.zero_mul,Nat.add_zero] at hj
      simp [World.cell?,h1,hj]
     refine ⟨.agg ((vs.drop ((ρ (.r c)).base + 0 * sz + 0)).take n).toArray,by simp only [execOp,ho,g1,Sem.run_bind,cK hk hcells (by simp;omega),Result.andThen_ok,Sem.run_pure,if_true],_,rfl,by rw [List.length_take,List.length_drop];omega,fun j d u k1 k2=>?_⟩
     have hj : j < n:=by
      have:=(List.getElem?_eq_some_iff.1 k2).1
      simp only [List.length_take] at this;omega
     rw [List.getElem?_take_of_lt hj,List.getElem?_drop] at k2
     obtain ⟨v',k3,k4⟩:=h4 j d k1
     rw [show (ρ (.r c)).base + 0 * sz + 0 + j=(ρ (.r c)).base + 0 * sz + j by omega,k3] at k2
     cases k2
     exact k4
    obtain ⟨v,hv,_⟩:=one ρ0 ω0 hO0
    refine ⟨v,hv,fun ρ ω hO=>?_⟩
    obtain ⟨v',hv',h2⟩:=one ρ ω hO
    rw [hv] at hv'
    cases hv'
    exact h2
   obtain ⟨v,hv,hrep⟩:=run
   have hs:=h.unpack hL ht hg hok (fun x hx=>by
    have:=List.all_eq_true.1 hcn _ hx
    simp at this) hrep
   exact ce hv (by rw [hd];exact ⟨_,_,M,hK,hs⟩)
  ·exact hr.elim
 ·exact hr.elim
end
end Go.Gv

namespace Go.Gv
section
variable {P : Program} {F : Fid} {C : Nat -> List D -> D -> List D -> Prop} {nt : Nat} {S : Nat -> Prop} {L : Nat -> Option Loc} {w0 : World} {M0 : Mem} {f : Nat -> D} {M : Mem} {a : Act} {w : World} {o : Oper} {d : D} {Q : Exit -> Act -> World -> Prop} {ρ : Pa -> Loc} {ω : Nat -> Option Pa} {New : Nat -> Prop} {K : List (Nat × D) -> List (Nat × Bool) -> Prop}
theorem sg {es rs : List (List D)} {k : Nat} (h : k + rs.length <= es.length) : (gf es k rs).length=es.length:=by
 simp only [gf,List.length_append,List.length_take,List.length_drop];omega
theorem sf {es rs : List (List D)} {k i : Nat} (h : k + rs.length <= es.length) : (gf es k rs)[i]? = if k <= i /\ i < k + rs.length then rs[i - k]? else es[i]?:=by
 unfold gf
 have hl : (es.take k).length=k:=by simp;omega
 by_cases h1 : i < k
 ·rw [if_neg (by omega),List.append_assoc,List.getElem?_append_left (by omega),List.getElem?_take_of_lt h1]
 ·by_cases h2 : i < k + rs.length
  ·rw [if_pos (by omega),List.append_assoc,List.getElem?_append_right (by omega),hl,List.getElem?_append_left (by omega)]
  ·rw [if_neg (by omega),List.getElem?_append_right (by rw [List.length_append,hl];omega),List.length_append,hl,List.getElem?_drop]
   congr 1;omega
theorem si {es rs : List (List D)} {k : Nat} {e : List D} (he : e ∈ gf es k rs) : e ∈ rs \/ e ∈ es:=by
 unfold gf at he
 rcases List.mem_append.1 he with he | he
 ·rcases List.mem_append.1 he with he | he
  ·exact .inr (List.mem_of_mem_take he)
  ·exact .inl he
 ·exact .inr (List.mem_of_mem_drop he)
def l6 (P : Program) (t sz : Nat) : Bool:=match P.underlying t with
 | some (.slice e)=>(match P.info? e with
  | some i=>i.size == sz
  | none=>false)
 | _=>false
theorem tD {T T2 sz : Nat} {ty : TypeId} (hk : l6 P T sz=true) {g o n m cap cap2 : Nat} {ad : Addr} {cur news : List Value} {T0 : TypeId} (hg : w.heap[g]? = some (.cells cur.toArray T0 (0,0))) (hl : o + min m n * sz <= cur.length)
  (hnl : news.length=m * sz) (hnews : ∀ j u,news[j]? = some u -> w.cell? (ad.add j)=some u) (hone : ∀ u ∈ news,u.oneCell'=true) :
  ∃ w',(Builtin.copy_ #[T,T2] ty #[.slice (some ⟨g,o,none⟩) n cap,.slice (some ad) m cap2]).run P w=.ok (.int .i64 (min m n : Nat)) w' /\ w'.heap[g]? = some (.cells (cur.take o++news.take (min m n * sz)++cur.drop (o + min m n * sz)).toArray T0 (0,0)) /\ Ch (fun k=>k=g) w w':=by
 unfold l6 at hk
 split at hk
 ·rename_i e hu
  split at hk
  ·rename_i i hi
   have hsz : i.size=sz:=by simpa using hk
   have hle : min m n * sz <= m * sz:=Nat.mul_le_mul_right _ (Nat.min_le_left _ _)
   have hnl2 : (news.take (min m n * sz)).length=min m n * sz:=by rw [List.length_take];omega
   obtain ⟨w',e1,e2,e3,e4,e5,e6,e7,e8⟩:=cu (P:=P) g T0 o (news.take (min m n * sz)) 0 cur w hg (by rw [hnl2];omega) (fun v hv=>hone v (List.mem_of_mem_take hv))
   refine ⟨w',?_,by rw [e2];simp only [Nat.add_zero,hnl2],⟨e5,e6,e7,by omega,fun k _ hk=>e3 k hk,by omega⟩⟩
   have hld:=run_loadCells_list (P:=P) w ad (news.take (min m n * sz)) (fun j v hj=>hnews j v (by rw [List.getElem?_take] at hj;split at hj;exact hj;cases hj))
   rw [hnl2] at hld
   have hmn : Nat.min m n=min m n:=rfl
   simp [Builtin.copy_,run_underlying hu,sizeOf,typeInfo,hi,Builtin.lenOf,Builtin.firstCells,hsz,hmn,hld,e1,goInt]
  ·cases hk
 ·cases hk
theorem qZ {T T2 sz : Nat} {ty : TypeId} (hk : l6 P T sz=true) (A : Option Addr) (cap : Nat) (ad : Addr) (m cap2 : Nat) : (Builtin.copy_ #[T,T2] ty #[.slice A 0 cap,.slice (some ad) m cap2]).run P w=.ok (.int .i64 0) w:=by
 unfold l6 at hk
 split at hk
 ·rename_i e hu
  split at hk
  ·rename_i i hi
   have hmn : Nat.min m 0=0:=Nat.min_zero m
   cases A <;> simp [Builtin.copy_,run_underlying hu,sizeOf,typeInfo,hi,Builtin.lenOf,Builtin.firstCells,hmn,loadCells,loadCellsFrom,storeCells,goInt]
  ·cases hk
 ·cases hk
theorem vH (h : SR F nt S L w0 M0 f M a w) {t : Nat} (hd : o.dst=some t) (ht : t < nt) {sz : Nat} {x y : Opd} {x' y' : Operand} {T T2 : TypeId} (ho : o.op=.call { callee:=.builtin .copy,args:=#[x',y'],argTypes:=#[T,T2] }) (hx : ae F x x'=true) (hy : ae F y y'=true) (hk : l6 P T sz=true)
  (hr : ef f false (vd f y) sz fun rows bs=>bs=[] /\ 0 < rows.length /\ match vd f x with
   | .ref (.r b) k n=>(n=0 -> K [(t,.int .i64 0)] []) /\ (0 < n -> match f b with
    | .blk sz' es=>sz'=sz /\ k + n <= es.length /\ (∀ e ∈ es,∀ c ∈ e,au c=true) /\ (∀ e ∈ rows,∀ c ∈ e,au c=true) /\ K [(t,.int .i64 (min rows.length n : Nat)),(b,.blk sz (gf es k (rows.take n)))] []
    | _=>False)
   | _=>False) : o.wp P a w (PostX F nt S L w0 M0 f K) Q:=by
 obtain ⟨ρ,ω,hO⟩:=h.own
 obtain ⟨rows,bs,c2,⟨hbs0,hrl,hr⟩,hbs,_,huY,A2,m,cap2,news,ey,hm,hnl,hA2,hone,hY⟩:=lz h hO hy hr
 have hc2 : c2=none:=by
  rw [hbs0] at hbs
  cases c2 with
  | none=>rfl
  | some c=>simp at hbs
 subst hc2
 have hv:=hO.opd hx
 split at hr
 ·rename_i b k n hvx
  rw [hvx,ah rfl] at hv
  obtain ⟨ad0,hA0,_⟩:=hA2 (by omega)
  rcases Nat.eq_zero_or_pos n with hn | hn
  ·have hK:=hr.1 hn
   subst hn
   have hv0 : ∃ A cap,a.eval x'=.slice A 0 cap:=by
    simp only [al] at hv
    rcases hv with ⟨_,A,e⟩ | ⟨cap,e,_⟩
    ·exact ⟨A,0,e⟩
    ·exact ⟨_,cap,e⟩
   obtain ⟨A,cap,hv0⟩:=hv0
   refine postX_val hd (v:=.int .i64 0) (w':=w) ?_ hK (h.put ht (fun ρ ω _=>by rw [ah rfl];simp only [al,ab]))
   subst hA0
   have e1:=qZ (P:=P) (w:=w) (T2:=T2) (ty:=o.type) hk A cap ad0 m cap2
   simp only [execOp,ho,resolve,invoke,builtin,List.map_toArray,List.map_cons,List.map_nil,Sem.run_bind,Sem.run_pure,Result.andThen_ok,hv0,ey,e1]
  have hr:=hr.2 hn
  split at hr
  ·rename_i sz' es hf
   obtain ⟨rfl,hkn,hes1,hrow1,hK⟩:=hr
   have hb:=hO.big hf
   have hgp : aL f (.r b)=some (sz',es):=by simp [aL,hf]
   obtain ⟨ad,rfl,hnews⟩:=hA2 (by omega)
   rcases fq hO hgp hkn hv (fun e he c hc=>bX (hes1 e (List.mem_of_mem_drop (List.mem_of_mem_take he)) c hc)) with ⟨A,hv,hn0⟩ | ⟨cap,us,T0,hv,⟨hcap,hmc⟩,hcl,hω,g0,g1,g2,g4,g5⟩
   ·omega
   ·have hrows : dT w (ρ (.r b)) sz' es (fun i off d v=>bF F M ω ρ w b i off d v):=by
     rcases hO.roots b sz' es hb hf with ⟨e0,_⟩ | ⟨_,hr⟩
     ·rw [e0] at hkn;simp at hkn;omega
     ·exact hr
    obtain ⟨q0,us0,T1,q1,q2,q3,q4,q5⟩:=id hrows
    rw [g1] at q1
    simp only [Option.some.injEq,Obj.cells.injEq,and_true] at q1
    obtain ⟨q1,rfl⟩:=q1
    obtain rfl : us=us0:=by simpa using congrArg Array.toList q1
    have hle : k * sz' + n * sz' <= es.length * sz':=by rw [<- Nat.add_mul];exact Nat.mul_le_mul_right _ hkn
    have hmn : min m n * sz' <= n * sz':=Nat.mul_le_mul_right _ (Nat.min_le_right _ _)
    obtain ⟨w',e1,e2,e3⟩:=tD (P:=P) (w:=w) (T2:=T2) (ty:=o.type) hk (m:=m) (n:=n) (cap:=cap) (cap2:=cap2) (o:=(ρ (.r b)).base + k * sz') g1 (by rw [g2];omega) hnl hnews hone
    have hmin : (rows.take n).length=min m n:=by rw [List.length_take,hm,Nat.min_comm]
    have hfit : k + (rows.take n).length <= es.length:=by rw [hmin];omega
    have hml : min m n * sz' <= m * sz':=Nat.mul_le_mul_right _ (Nat.min_le_left _ _)
    have hN : (news.take (min m n * sz')).length=min m n * sz':=by rw [List.length_take];omega
    have hfill:=h.fill hO hf hω hrows (es':=gf es k (rows.take n)) (us:=us.take ((ρ (.r b)).base + k * sz')++news.take (min m n * sz')++us.drop ((ρ (.r b)).base + k * sz' + min m n * sz')) (w':=w') (Nat.le_of_eq (sg hfit)) (fun e he=>by
     rcases si he with he | he
     ·have he:=List.mem_of_mem_take he
      exact ⟨huY e he,hrow1 e he⟩
     ·exact ⟨g4 e he,hes1 e he⟩) e3 e2 (by simp only [List.length_append,List.length_take,List.length_drop] at hN ⊢;omega) (fun i r off d h1 h2=>by
     have hget:=fun x=>eL (vs:=us) (us:=news.take (min m n * sz')) (q:=(ρ (.r b)).base + k * sz') (n:=min m n * sz') (x:=x) hN (by omega)
     rw [sf hfit,hmin] at h1
     split at h1
     ·rename_i hi
      have hil : i - k < (rows.take n).length:=by rw [hmin];omega
      have hin : i - k < n:=by rw [hmin] at hil;omega
      rw [List.getElem?_take_of_lt hin] at h1
      obtain ⟨u,k1,k2⟩:=hY (i - k) r off d h1 h2
      have hof : off < sz':=by rw [<- huY r (List.mem_of_getElem? h1)];exact (List.getElem?_eq_some_iff.1 h2).1
      have h3:=d8 (sz:=sz') (show i - k < min m n by omega) hof
      have h4 : (i - k) * sz' + k * sz'=i * sz':=by rw [<- Nat.add_mul];congr 1;omega
      refine ⟨u,?_,k2.2⟩
      rw [hget,if_pos (by omega),show (ρ (.r b)).base + i * sz' + off - ((ρ (.r b)).base + k * sz')=(i - k) * sz' + off by omega,List.getElem?_take_of_lt h3]
      exact k1
     ·rename_i hi
      obtain ⟨u,k1,k2⟩:=q5 i r off d h1 h2
      have hof : off < sz':=by rw [<- g4 r (List.mem_of_getElem? h1)];exact (List.getElem?_eq_some_iff.1 h2).1
      rw [aR (bX (hes1 r (List.mem_of_getElem? h1) d (List.mem_of_getElem? h2)))] at k2
      refine ⟨u,?_,k2⟩
      have h5 : ¬ ((ρ (.r b)).base + k * sz' <= (ρ (.r b)).base + i * sz' + off /\ (ρ (.r b)).base + i * sz' + off < (ρ (.r b)).base + k * sz' + min m n * sz'):=by
       rintro ⟨h6,h7⟩
       rcases Nat.lt_or_ge i k with h8 | h8
       ·have:=d8 (sz:=sz') h8 hof;omega
       ·have h9 : (k + min m n) * sz' <= i * sz':=Nat.mul_le_mul_right _ (by omega)
        rw [Nat.add_mul] at h9;omega
      rw [hget,if_neg h5]
      exact k1)
    obtain ⟨_,_,_,_,hs⟩:=hfill
    have hs2:=hs.put (t:=t) (d:=.int .i64 (min rows.length n : Nat)) (v:=.int .i64 (min m n : Nat)) ht (fun _ _ _=>by rw [ah rfl,hm];simp only [al,ab])
    refine ce (v:=.int .i64 (min m n : Nat)) (w':=w') ?_ ?_
    ·simp only [execOp,ho,resolve,invoke,builtin,List.map_toArray,List.map_cons,List.map_nil,Sem.run_bind,Sem.run_pure,Result.andThen_ok,hv,ey,e1]
    ·rw [hd]
     refine ⟨_,_,M,hK,?_⟩
     have : eff [(t,D.int .i64 (min rows.length n : Nat)),(b,D.blk sz' (gf es k (rows.take n)))] [] f=eff [(t,.int .i64 (min rows.length n : Nat))] [] (eff [(b,.blk sz' (gf es k (rows.take n)))] [] f):=by
      funext s
      unfold eff
      by_cases h1 : s=t
      ·subst h1;simp
      ·have e1 : (s == t)=false:=by simpa using h1
       simp only [List.lookup_cons,e1,List.lookup_nil,aw,List.any_nil,Bool.false_eq_true,if_false]
     rw [this]
     exact hs2
  ·exact hr.elim
 ·exact hr.elim
end
end Go.Gv

namespace Go.Gv
section
variable {P : Program} {F : Fid} {C : Nat -> List D -> D -> List D -> Prop} {nt : Nat} {S : Nat -> Prop} {L : Nat -> Option Loc} {w0 : World} {M0 : Mem} {f : Nat -> D} {M : Mem} {a : Act} {w : World} {o : Oper} {d : D} {Q : Exit -> Act -> World -> Prop} {ρ : Pa -> Loc} {ω : Nat -> Option Pa} {New : Nat -> Prop} {K : List (Nat × D) -> List (Nat × Bool) -> Prop}
theorem sd {d : D} (h : au d=true) : aU d=d:=by cases d <;> first | rfl | (simp [au] at h)
theorem SR.frzA (h : SR F nt S L w0 M0 f M a w) {t : Nat} (ht : t < 10000) {c sz : Nat} {row : List D} (hft : f t=.adr (.r c) 0 0) (hfc : f c=.blk sz [row]) (hrow : ∀ d ∈ row,au d=true) :
  ∃ M',SR F nt S L w0 M0 (eff [(t,.ptr row),(c,.any)] [] f) M' a w:=by
 obtain ⟨ρ,ω,hO⟩:=h.own
 have gp : aL f (.r c)=some (sz,[row]):=by simp only [aL,hfc]
 have hc : 10000 <= c:=bH hO gp
 have hO1:=hO.only hc
 have e1 : aL (fcE f c) (.r c)=aL f (.r c):=md 0
 obtain ⟨v,hv1,hv2⟩ : ∃ v,a.tmps[t]? = some v /\ aV F M ρ (f t) v:=by
  rcases hO.slots t ht with g | g
  ·rw [hft] at g;cases g
  ·exact g
 rw [hft,ah rfl] at hv2
 have hr:=gg hO1 hv2 (by simp only [aH,e1,gp])
 have ed : dp1 (fcE f c) (.adr (.r c) 0 0)=.ptr row:=by
  simp only [dp1,e1,gp,List.getElem?_cons_zero,Option.getD_some,List.drop_zero]
  congr 1
  conv=>rhs;rw [<- List.map_id row]
  exact List.map_congr_left fun d hd=>sd (hrow d hd)
 rw [ed] at hr
 have hle : M.le (aQ (b4 ω c) M w):=bQ hO1
 have hE:=hO.erase hc
 have hf' : ∀ s,eff [(t,.ptr row),(c,.any)] [] f s=if s=t then .ptr row else fbE f c s:=fun s=>by
  unfold eff fbE
  by_cases e : s=t
  ·subst e;simp
  ·have b1 : (s == t)=false:=by simpa using e
   by_cases e2 : s=c
   ·subst e2
    simp only [List.lookup,b1,beq_self_eq_true,if_neg e,if_true]
   ·have b2 : (s == c)=false:=by simpa using e2
    simp only [List.lookup,b1,b2,if_neg e,if_neg e2]
    simp [aw]
 refine ⟨aQ (b4 ω c) M w,⟨h.hnt,h.size,h.defers,h.ch,bp h.holds,Mem.le_trans h.ext hle,fun p h1 h2=>?_,ρ,fb ω c,?_⟩⟩
 ·by_cases e : M p=none
  ·unfold aQ at h2
   split at h2
   ·rename_i q hq
    exact hO.new _ _ (cf hq).1
   ·exact absurd e h2
  ·exact h.fresh p h1 e
 ·refine hE.step (ks:=[]) (fun p hp=>absurd rfl hp) hle (Nat.le_refl _) (fun s hs=>?_) (fun b hb=>?_) (fun k p e=>.inl ⟨p,e⟩) (fun p q e=>?_) (fun b l hb hl hB=>?_)
  ·rw [hf']
   by_cases e : s=t
   ·subst e
    rw [if_pos rfl]
    refine .inr (.inr ⟨v,hv1,?_⟩)
    rw [hf',if_pos rfl,ah rfl]
    exact hr
   ·rw [if_neg e]
    exact .inl (.inr ⟨rfl,rfl,by simp [aw]⟩)
  ·have : b ≠ t:=by omega
   rw [hf',if_neg this]
   exact .inl (.inr ⟨rfl,fun p hp=>⟨rfl,fun hw=>⟨hw,rfl⟩⟩⟩)
  ·obtain ⟨e2,e3⟩:=db e
   have e4 : b4 ω c p.block=none:=by
    simp only [b4,e2,if_neg e3]
   simp only [aQ,e4]
   exact hO.apart p q e2
  ·have : b ≠ t:=by omega
   rw [hf',if_neg this] at hB
   exact ⟨rfl,hB⟩
theorem vY (h : SR F nt S L w0 M0 f M a w) {x y : Opd} {x' y' : Operand} {t : TypeId} (ho : o.op=.store t x' y') (hx : ae F x x'=true) (hy : ae F y y'=true) (hk : fG P t 1=true)
  (hr : aq C f o.dst K (.stP x y)) : o.wp P a w (PostX F nt S L w0 M0 f K) Q:=by
 simp only [aq] at hr
 obtain ⟨hd,hr⟩:=hr
 split at hr
 ·rename_i s
  obtain ⟨hs,hr⟩:=hr
  split at hr
  ·rename_i c i0 o0 hfs
   obtain ⟨rfl,rfl,hr⟩:=hr
   split at hr
   ·rename_i sz row hfc
    obtain ⟨hrow,hr⟩:=hr
    split at hr
    ·rename_i b i1 o1 i off ex
     obtain ⟨hbc,hr⟩:=hr
     split at hr
     ·rename_i sz0 es0 hb
      obtain ⟨row0,h1,sz1,es,h2,r,h3,h4,hK⟩:=hr
      obtain ⟨ρ,ω,hO⟩:=h.own
      have hc : 10000 <= c:=bH hO (show aL f (.r c)=some (sz,[row]) by simp only [aL,hfc])
      have hb0 : 10000 <= b:=bH hO (show aL f (.r b)=some (sz0,es0) by simp only [aL,hb])
      obtain ⟨M',h'⟩:=h.frzA hs hfs hfc hrow
      have look1 : eff [(s,.ptr row),(c,.any)] [] f s=.ptr row:=by simp [eff]
      have lookb : eff [(s,.ptr row),(c,.any)] [] f b=f b:=by
       have b1 : (b == s)=false:=by simp;omega
       have b2 : (b == c)=false:=by simpa using hbc
       simp [eff,List.lookup,b1,b2,aw]
      have lookx : vd (eff [(s,.ptr row),(c,.any)] [] f) x=.adr (.n b i1 o1) i off:=by
       cases x with
       | c d=>exact ex
       | t q =>
        simp only [vd] at ex ⊢
        have q1 : q ≠ s:=fun e=>by rw [e,hfs] at ex;cases ex
        have q2 : q ≠ c:=fun e=>by rw [e,hfc] at ex;cases ex
        have b1 : (q == s)=false:=by simpa using q1
        have b2 : (q == c)=false:=by simpa using q2
        simp [eff,List.lookup,b1,b2,aw,ex]
      refine Oper.wp_mono ?_ (tV (C:=C) (K:=fun ws ks=>ws=[(b,.blk sz0 (aW es0 i1 o1 1 [.own sz1 (aW es i off 1 [.ptr row])]))] /\ ks=[]) (n:=1) (ns:=[]) h' hd ho hx hy hk ?_)
      ·rintro a' w' ⟨ws,ks,M2,⟨rfl,rfl⟩,h2⟩
       refine ⟨_,_,M2,hK,?_⟩
       have e : eff [(b,.blk sz0 (aW es0 i1 o1 1 [.own sz1 (aW es i off 1 [.ptr row])]))] [] (eff [(s,.ptr row),(c,.any)] [] f)=eff [(b,.blk sz0 (aW es0 i1 o1 1 [.own sz1 (aW es i off 1 [.ptr row])])),(s,.ptr row),(c,.any)] [] f:=by
        funext q
        unfold eff
        simp only [List.lookup]
        cases e1 : q == b <;> simp [aw]
       rw [<- e]
       exact h2
      ·have look2 : vd (eff [(s,.ptr row),(c,.any)] [] f) (.t s)=.ptr row:=look1
       simp only [aq,look2,lookx,eA,c8,d3,if_true,true_or,true_and]
       refine ⟨rfl,rfl,?_⟩
       refine ⟨by simp [au],?_⟩
       rw [lookb,hb]
       exact ⟨row0,h1,sz1,es,h2,r,h3,h4,rfl,trivial⟩
     ·exact hr.elim
    ·exact hr.elim
   ·exact hr.elim
  ·exact hr.elim
 ·exact hr.elim
end
end Go.Gv

namespace Go.Gv
section
variable {P : Program} {F : Fid} {C : Nat -> List D -> D -> List D -> Prop} {nt : Nat} {S : Nat -> Prop} {L : Nat -> Option Loc} {w0 : World} {M0 : Mem} {f : Nat -> D} {M : Mem} {a : Act} {w : World} {o : Oper} {Q : Exit -> Act -> World -> Prop} {K : List (Nat × D) -> List (Nat × Bool) -> Prop}
theorem SR.frzX (h : SR F nt S L w0 M0 f M a w) {t : Nat} (ht : t < 10000) {c sz : Nat} {row ds : List D} {vs : List Value} (hft : f t=.adr (.r c) 0 0) (hfc : f c=.blk sz [row])
  (hrep : ∀ ρ ω,Own F L (fun k=>S k \/ w0.heap.size <= k) f M a w ρ ω -> b6 F M ρ ds vs)
  (hcells : ∀ ρ ω,Own F L (fun k=>S k \/ w0.heap.size <= k) f M a w ρ ω -> ∃ (us : List Value) (T : TypeId),w.heap[(ρ (.r c)).blk]? = some (.cells us.toArray T (0,0)) /\ ∀ j v,vs[j]? = some v -> us[(ρ (.r c)).base + j]? = some v) :
  ∃ M',SR F nt S L w0 M0 (eff [(t,.ptx ds),(c,.any)] [] f) M' a w:=by
 obtain ⟨ρ,ω,hO⟩:=h.own
 have gp : aL f (.r c)=some (sz,[row]):=by simp only [aL,hfc]
 have hc : 10000 <= c:=bH hO gp
 have hO1:=hO.only hc
 obtain ⟨v,hv1,hv2⟩ : ∃ v,a.tmps[t]? = some v /\ aV F M ρ (f t) v:=by
  rcases hO.slots t ht with g | g
  ·rw [hft] at g;cases g
  ·exact g
 rw [hft,ah rfl] at hv2
 simp only [al,Nat.zero_mul,Nat.add_zero] at hv2
 have hω : ω (ρ (.r c)).blk=some (.r c):=by
  rcases hO.roots c sz [row] hc hfc with ⟨e0,_⟩ | ⟨h1,_⟩
  ·cases e0
  ·exact h1
 have hω1 : b4 ω c (ρ (.r c)).blk=some (.r c):=by simp [b4,hω,Pa.root]
 have hle : M.le (aQ (b4 ω c) M w):=bQ hO1
 have hr : aV F (aQ (b4 ω c) M w) ρ (.ptx ds) v:=by
  obtain ⟨us,T,h1,h2⟩:=hcells ρ ω hO
  have hL:=hrep ρ ω hO
  refine ⟨_,vs,hv2,⟨hL.1,fun i d v e1 e2=>(hL.2 i d v e1 e2).mono hle⟩,fun j u hj=>?_⟩
  have:=f7 (M:=M) (ω:=b4 ω c) (o:=(ρ (.r c)).base) hω1 h1
  refine this j u ?_
  rw [List.getElem?_drop]
  exact h2 j u hj
 have hE:=hO.erase hc
 have hf' : ∀ s,eff [(t,.ptx ds),(c,.any)] [] f s=if s=t then .ptx ds else fbE f c s:=fun s=>by
  unfold eff fbE
  by_cases e : s=t
  ·subst e;simp
  ·have b1 : (s == t)=false:=by simpa using e
   by_cases e2 : s=c
   ·subst e2
    simp only [List.lookup,b1,beq_self_eq_true,if_neg e,if_true]
   ·have b2 : (s == c)=false:=by simpa using e2
    simp only [List.lookup,b1,b2,if_neg e,if_neg e2]
    simp [aw]
 refine ⟨aQ (b4 ω c) M w,⟨h.hnt,h.size,h.defers,h.ch,bp h.holds,Mem.le_trans h.ext hle,fun p h1 h2=>?_,ρ,fb ω c,?_⟩⟩
 ·by_cases e : M p=none
  ·unfold aQ at h2
   split at h2
   ·rename_i q hq
    exact hO.new _ _ (cf hq).1
   ·exact absurd e h2
  ·exact h.fresh p h1 e
 ·refine hE.step (ks:=[]) (fun p hp=>absurd rfl hp) hle (Nat.le_refl _) (fun s hs=>?_) (fun b hb=>?_) (fun k p e=>.inl ⟨p,e⟩) (fun p q e=>?_) (fun b l hb hl hB=>?_)
  ·rw [hf']
   by_cases e : s=t
   ·subst e
    rw [if_pos rfl]
    refine .inr (.inr ⟨v,hv1,?_⟩)
    rw [hf',if_pos rfl]
    exact hr
   ·rw [if_neg e]
    exact .inl (.inr ⟨rfl,rfl,by simp [aw]⟩)
  ·have : b ≠ t:=by omega
   rw [hf',if_neg this]
   exact .inl (.inr ⟨rfl,fun p hp=>⟨rfl,fun hw=>⟨hw,rfl⟩⟩⟩)
  ·obtain ⟨e2,e3⟩:=db e
   have e4 : b4 ω c p.block=none:=by
    simp only [b4,e2,if_neg e3]
   simp only [aQ,e4]
   exact hO.apart p q e2
  ·have : b ≠ t:=by omega
   rw [hf',if_neg this] at hB
   exact ⟨rfl,hB⟩
theorem lr {M : Mem} {ρ : Pa -> Loc} {d : D} {ds : List D} {v : Value} (h : oq d=some ds) (hr : aV F M ρ d v) (h1 : ds.all s5=true) : b6 F M ρ ds v.cells.toList /\ ∀ u ∈ v.cells.toList,u.oneCell'=true:=by
 have one : ∀ {x : D} {u : Value},s5 x=true -> al F M ρ x u -> u.oneCell'=true:=fun {x u} hx hu=>by
  cases x
  case ref p k n =>
   simp only [al] at hu
   rcases hu with ⟨_,A,rfl⟩ | ⟨cap,rfl,_⟩ <;> rfl
  case adr p i off =>
   simp only [al] at hu
   subst hu
   rfl
  all_goals first
   | (simp [s5,au] at hx;done)
   | exact oneCell_of hu (by simpa [s5] using hx)
 cases d
 case agx xs =>
  simp only [oq,Option.some.injEq] at h
  subst h
  obtain ⟨vs,rfl,hL⟩:=hr
  refine ⟨by simpa [Value.cells] using hL,fun u hu=>?_⟩
  have hu' : u ∈ vs:=by simpa [Value.cells] using hu
  obtain ⟨j,hj,e⟩:=List.mem_iff_getElem.1 hu'
  have hj' : j < xs.length:=by rw [hL.1];exact hj
  exact one (List.all_eq_true.1 h1 _ (List.getElem_mem hj')) (hL.2 j _ u (List.getElem?_eq_getElem hj') (by rw [<- e];exact List.getElem?_eq_getElem hj))
 case adr p i off =>
  simp only [oq,Option.some.injEq] at h
  subst h
  rw [ah rfl] at hr
  have hv : v.cells.toList=[v]:=by
   simp only [al] at hr
   subst hr
   rfl
  rw [hv]
  refine ⟨⟨rfl,fun j d u e1 e2=>?_⟩,fun u hu=>?_⟩
  ·cases j with
   | zero=>simp at e1 e2;subst e1;subst e2;exact hr
   | succ j=>simp at e1
  ·simp at hu
   subst hu
   exact one rfl hr
 all_goals cases h
theorem vW (h : SR F nt S L w0 M0 f M a w) {n : Nat} {x y : Opd} {x' y' : Operand} {t : TypeId} (ho : o.op=.store t x' y') (hx : ae F x x'=true) (hy : ae F y y'=true) (hk : fG P t n=true)
  (hr : aq C f o.dst K (.stF n x y)) : o.wp P a w (PostX F nt S L w0 M0 f K) Q:=by
 simp only [aq] at hr
 obtain ⟨hd,hr⟩:=hr
 split at hr
 ·rename_i s
  obtain ⟨hs,hr⟩:=hr
  split at hr
  ·rename_i c i0 o0 hfs
   obtain ⟨rfl,rfl,hr⟩:=hr
   split at hr
   ·rename_i sz row hfc
    obtain ⟨hrow,ds,hds,hdl,hd1,hK⟩:=hr
    obtain ⟨ρ,ω,hO⟩:=h.own
    have hc : 10000 <= c:=bH hO (show aL f (.r c)=some (sz,[row]) by simp only [aL,hfc])
    have hxv:=hO.opd hx
    have hyv:=hO.opd hy
    obtain ⟨hL,hone⟩:=lr hds hyv hd1
    have hus : (a.eval y').cells.toList.length=n:=by rw [<- hL.1,hdl]
    have hus' : (a.eval y').cells.size=n:=by simpa using hus
    simp only [vd] at hxv
    rw [hfs,ah rfl] at hxv
    simp only [al] at hxv
    obtain ⟨vs,T,hω,h0,hl,g1,g2,g3,g4⟩:=hO.row (p:=.r c) hc (show aL f (.r c)=some (sz,[row]) by simp [aL,hfc]) (i:=0) rfl
    rw [h0] at hxv
    obtain ⟨w',k1,k2,k3,k4,k5,k6,k7⟩:=eZ (P:=P) (off:=(ρ (.r c)).base + 0 * sz + 0) hk g1 hus' (by omega) hone
    have hst:=h.store hO (b:=c) (i:=0) (off:=0) (n:=n) (cs:=List.replicate n .any) (bs:=[]) (src:=fun _=>none) (ks:=[]) hfc rfl (by omega) (by simp) hus (gX g1 k2 k3 k4 k5 k6 k7)
     (fun j c u e1 e2=>.inl (by
      have : c=.any:=by
       rw [List.getElem?_replicate] at e1
       split at e1
       ·simpa using e1.symm
       ·cases e1
      subst this
      exact ⟨rfl,by simp [ab]⟩)) (fun j j' c e=>by cases e) (fun j c e=>by cases e) (by simp) (fun e=>by
      rw [List.any_eq_true] at e
      obtain ⟨x,hx,e⟩:=e
      rw [List.eq_of_mem_replicate hx] at e
      cases e)
    have look1 : eff ((c,.blk sz (aW [row] 0 0 n (List.replicate n .any)))::bO []) [] f s=f s:=by
     have b1 : (s == c)=false:=by simp;omega
     simp [eff,bO,List.lookup,b1,aw]
    have lookc : eff ((c,.blk sz (aW [row] 0 0 n (List.replicate n .any)))::bO []) [] f c=.blk sz (aW [row] 0 0 n (List.replicate n .any)):=by
     simp [eff,bO]
    obtain ⟨row1,hrow1⟩ : ∃ row1,aW [row] 0 0 n (List.replicate n .any)=[row1]:=by simp [aW]
    have hyok : vd (eff ((c,.blk sz (aW [row] 0 0 n (List.replicate n .any)))::bO []) [] f) y=vd f y:=by
     cases y with
     | c d=>rfl
     | t q =>
      simp only [vd]
      have q2 : q ≠ c:=fun e=>by
       subst e
       simp only [vd,hfc,oq] at hds
       cases hds
      have b2 : (q == c)=false:=by simpa using q2
      simp [eff,bO,List.lookup,b2,aw]
    have hrun : (execOp a.eval o).run P w=.ok .skip w':=by
     simp only [execOp,ho,hxv,Sem.run_bind,k1,Result.andThen_ok,Sem.run_pure]
    obtain ⟨M',h'⟩:=hst.frzX (t:=s) hs (c:=c) (sz:=sz) (row:=row1) (ds:=ds) (vs:=(a.eval y').cells.toList) (by rw [look1,hfs]) (by rw [lookc,hrow1])
     (fun ρ' ω' hO'=>(lr hds (by rw [<- hyok];exact hO'.opd hy) hd1).1)
     (fun ρ' ω' hO'=>by
      have e1:=hO'.opd hx
      simp only [vd] at e1
      rw [look1,hfs,ah rfl] at e1
      simp only [al,Nat.zero_mul,Nat.add_zero] at e1
      rw [hxv] at e1
      simp only [Nat.zero_mul,Nat.add_zero,Value.pointer.injEq,Option.some.injEq,Addr.mk.injEq] at e1
      refine ⟨_,T,by rw [<- e1.1];exact k2,fun j v hj=>?_⟩
      rw [<- e1.2.1]
      simp only [Nat.zero_mul,Nat.add_zero]
      have hj' : j < n:=by rw [<- hus];exact (List.getElem?_eq_some_iff.1 hj).1
      have hb : (ρ (.r c)).base <= vs.length:=by omega
      rw [List.append_assoc,List.getElem?_append_right (by simp;omega),List.getElem?_append_left (by simp;omega)]
      rw [<- hj]
      congr 1
      simp;omega)
    refine iC hrun ?_
    rw [hd]
    refine ⟨_,_,M',hK,?_⟩
    have e : eff [(s,.ptx ds),(c,.any)] [] (eff ((c,.blk sz (aW [row] 0 0 n (List.replicate n .any)))::bO []) [] f)=eff [(s,.ptx ds),(c,.any)] [] f:=by
     funext q
     unfold eff
     simp only [List.lookup,bO,List.map_nil]
     cases e1 : q == s <;> cases e2 : q == c <;> simp [aw]
    rw [e] at h'
    simpa [Act.put] using h'
   ·exact hr.elim
  ·exact hr.elim
 ·exact hr.elim
end
end Go.Gv

namespace Go.Gv
open Go.RowKit
section
variable {P : Program} {F : Fid} {C : Nat -> List D -> D -> List D -> Prop} {nt : Nat} {S : Nat -> Prop} {L : Nat -> Option Loc} {w0 : World} {M0 : Mem} {f : Nat -> D} {M M' : Mem} {a : Act} {w w' : World} {o : Oper} {d : D} {Q : Exit -> Act -> World -> Prop} {ρ ρ' : Pa -> Loc} {ω ω' : Nat -> Option Pa} {New : Nat -> Prop} {K : List (Nat × D) -> List (Nat × Bool) -> Prop}
def jP (P : Program) (T : Nat) : Bool:=match P.underlying T with
 | some (.interface _)=>false
 | some _=>true
 | none=>false
theorem vu {T : Nat} (hk : jP P T=true) (v : Value) : (Instr.makeInterface T v).run P w=.ok (.iface T v) w:=by
 unfold jP at hk
 split at hk
 ·cases hk
 ·rename_i u hu hn
  unfold Instr.makeInterface
  simp only [Sem.run_bind,run_underlying hn w,Result.andThen_ok]
  rfl
 ·cases hk
theorem vw {T xT : Nat} (hk : jP P T=true) (v : Value) : (Instr.typeAssert (.iface T v) xT T false).run P w=.ok v w:=by
 unfold jP at hk
 split at hk
 ·cases hk
 ·rename_i u hu hn
  unfold Instr.typeAssert
  simp only [Sem.run_bind,run_underlying hn w,Result.andThen_ok]
  cases u <;> first | (exact absurd hn (hu _)) | simp
 ·cases hk
theorem vP (h : SR F nt S L w0 M0 f M a w) (hp : br nt f o.dst) {T : Nat} {x : Opd} {x' : Operand} {t : TypeId} (ho : o.op=.makeInterface t x') (hT : F.ty T=t) (hk : jP P t=true) (hx : ae F x x'=true)
  (hr : res f (·=d) (.mkI T x)) : o.wp P a w (bz F nt S L w0 M0 f o.dst d) Q:=by
 subst hT
 simp only [res] at hr
 have run : (execOp a.eval o).run P w=.ok (.value (.iface (F.ty T) (a.eval x'))) w:=by
  simp only [execOp,ho,Sem.run_bind,vu hk,Result.andThen_ok,Sem.run_pure]
 split at hr
 ·rename_i p i off e
  subst hr
  refine bj h hp (fun ρ ω hO=>⟨_,?_,run⟩)
  have h1:=hO.opd hx
  rw [e,ah rfl] at h1
  rw [ah rfl]
  simp only [al] at h1 ⊢
  rw [h1]
 ·rename_i k n e
  obtain ⟨rfl,rfl⟩:=hr
  have h1:=h.opd hx (by simp [e,isV])
  rw [e] at h1
  simp only [ab] at h1
  exact aD h hp (by simp only [ab];rw [h1]) run
 ·exact hr.elim
theorem vZ (h : SR F nt S L w0 M0 f M a w) (hp : br nt f o.dst) {T : Nat} {x : Opd} {x' : Operand} {t xt : TypeId} (ho : o.op=.typeAssert x' xt t false) (hT : F.ty T=t) (hk : jP P t=true) (hx : ae F x x'=true)
  (hr : res f (·=d) (.tya T x)) : o.wp P a w (bz F nt S L w0 M0 f o.dst d) Q:=by
 subst hT
 simp only [res] at hr
 split at hr
 ·rename_i T' n e
  obtain ⟨rfl,rfl⟩:=hr
  have h1:=h.opd hx (by simp [e,isV])
  rw [e] at h1
  simp only [ab] at h1
  refine aD h hp (v:=.int .i64 n) (by simp only [ab]) ?_
  simp only [execOp,ho,h1,Sem.run_bind,vw hk,Result.andThen_ok,Sem.run_pure]
 ·exact hr.elim
theorem jG (hC : bi P F C) (h : SR F nt S L w0 M0 f M a w) (hp : ∀ t,o.dst=some t -> t < nt) {g fi : Nat} (hg : F g=some fi) (hO : Own F L (fun k=>S k \/ w0.heap.size <= k) f M a w ρ ω) {b sz : Nat} {es es' : List (List D)} {W : List D} {vs : List Value}
  (hf : f b=.blk sz es) (hpos : 0 < es.length) (hc : C g (.blk sz es::W) d [.blk sz es',.nilp]) (hlen : vs.length=W.length)
  (hrep : ∀ ρ1 : Pa -> Loc,ρ1 (.r aj)=ρ (.r b) -> ∀ (i : Nat) (d : D) (v : Value),W[i]? = some d -> vs[i]? = some v -> aV F M ρ1 d v)
  (hrun : (execOp a.eval o).run P w=(callFunc fi vs.toArray).run P w) (hK : K (bN o.dst d++[(b,.blk sz es')]) [(b,false)]) : o.wp P a w (PostX F nt S L w0 M0 f K) Q:=by
 have hb:=hO.big hf
 have hroot:=hO.roots b sz es hb hf
 have hω : ω (ρ (.r b)).blk=some (.r b):=by
  rcases hroot with ⟨e0,_⟩ | ⟨hω,_⟩
  ·rw [e0] at hpos;simp at hpos
  ·exact hω
 obtain ⟨ρ1,hρ1⟩ : ∃ ρ1 : Pa -> Loc,ρ1=fun p=>ρ (p.to b):=⟨_,rfl⟩
 obtain ⟨ω1,hω1⟩ : ∃ ω1 : Nat -> Option Pa,ω1=fun k=>match ω k with
  | some p=>if p.root=b then some (p.to aj) else none
  | none=>none:=⟨_,rfl⟩
 have w1 : ∀ k q,ω1 k=some q ↔ ∃ p : Pa,ω k=some p /\ p.root=b /\ q=p.to aj:=fun k q=>by
  rw [hω1]
  simp only
  constructor
  ·intro e
   split at e
   ·rename_i p hp
    split at e
    ·cases e;exact ⟨p,hp,by assumption,rfl⟩
    ·cases e
   ·cases e
  ·rintro ⟨p,e1,e2,rfl⟩
   simp only [e1,if_pos e2]
 have p1 : ∀ p : Pa,p.root=b -> ρ1 (p.to aj)=ρ p:=fun p hp=>by
  rw [hρ1]
  simp only
  rw [Pa.to_to b aj p hp]
 have lent : kE F M w ρ1 ω1 aj sz es:=by
  refine ⟨(w1 _ _).2 ⟨.r b,?_,rfl,rfl⟩,cC.carry hroot (Mem.le_refl _) (fun p hp=>⟨p1 p hp,fun e=>⟨(w1 _ _).2 ⟨p,e,hp,rfl⟩,rfl⟩⟩),fun k p e=>?_,fun k p e=>?_,fun p q e=>?_⟩
  ·have:=p1 (.r b) rfl
   simp only [Pa.to] at this
   rw [this];exact hω
  ·obtain ⟨p',e1,_⟩:=(w1 _ _).1 e
   exact hO.lt _ _ e1
  ·obtain ⟨p',_,_,rfl⟩:=(w1 _ _).1 e
   exact Pa.to_root _ _
  ·obtain ⟨p',e1,_⟩:=(w1 _ _).1 e
   exact hO.apart p p' e1
 have e1 : ρ1 (.r aj)=ρ (.r b):=p1 (.r b) rfl
 have hM:=hC.runsM g fi sz es _ d es' hg hc M w vs ρ1 ω1 h.holds hlen (hrep ρ1 e1) lent
 unfold Oper.wp
 rw [hrun,bu (hC.body g fi hg),Oper.upon_enter]
 refine hM.mono ?_
 rintro e0 w' ⟨v,M',ρ',ω',rfl,q1,q2,q3,q4,q5,q6,q7,q8⟩
 exact ⟨_,_,M',hK,h.lend hO hf hb hω p1 w1 q1 q2 q3 q4 (by rw [q6,e1]) q7 q8 hp q5⟩
def mW (P : Program) (T : Nat) (m : String) (fi : Nat) : Bool:=match P.info? T,P.underlying T with
 | some i,some (.pointer _)=>match i.methods.find? (·.name == m) with
  | some mm=>mm.path.isEmpty && (match mm.func with
   | some (f,true)=>f == fi
   | _=>false)
  | none=>false
 | _,_=>false
theorem tE {t : TypeId} {i : TypeInfo} (h : P.info? t=some i) : (typeInfo t).run P w=.ok i w:=by
 unfold typeInfo
 simp only [Sem.run_bind,run_program,Result.andThen_ok,h,Sem.run_pure]
theorem pB {T fi : Nat} {m : String} (hk : mW P T m fi=true) (a : Addr) (args : Array Value) : (callMethod (.iface T (.pointer (some a))) m args).run P w=(callFunc fi (#[.pointer (some a)]++args)).run P w:=by
 unfold mW at hk
 split at hk
 ·rename_i i el hi hu
  split at hk
  ·rename_i mm hm
   simp only [Bool.and_eq_true] at hk
   obtain ⟨h1,h2⟩:=hk
   split at h2
   ·rename_i f hf
    obtain rfl : f=fi:=by simpa using h2
    have hmd : 0 < Made.depth:=by decide
    obtain ⟨n,hn⟩ : ∃ n,P.types.size + Made.depth=n + 1:=⟨P.types.size + Made.depth - 1,by omega⟩
    have hp : mm.path.toList=[]:=by
     have : mm.path=#[]:=by simpa using h1
     rw [this]
    unfold callMethod
    simp only [Sem.run_bind,run_program,Result.andThen_ok,hn]
    unfold method
    simp only [Sem.run_bind,tE hi,Result.andThen_ok,hm,hp,follow,Sem.run_pure,hf,h1,if_true,receiverAt,run_underlying hu w,Place.get]
   ·cases h2
  ·cases hk
 ·cases hk
theorem rk (hC : bi P F C) (h : SR F nt S L w0 M0 f M a w) (hp : ∀ t,o.dst=some t -> t < nt) {g fi T : Nat} {m : String} {x : Opd} {xs : List Opd} {y : Operand} {ys : Array Operand} {ts : Array TypeId} (ho : o.op=.call { callee:=.invoke y m,args:=ys,argTypes:=ts }) (hx0 : ae F x y=true) (hx : a7 F xs ys.toList=true)
  (hg : F g=some fi) (hk : mW P (F.ty T) m fi=true) (hr : match vd f x with
  | .ifa T' (.r b) i off=>T'=T /\ i=0 /\ off=0 /\ match f b with
   | .blk sz es=>0 < es.length /\ (∀ x ∈ xs,isV (vd f x)=true) /\ ∃ d,∃ es' : List (List D),0 < es'.length /\ C g (.blk sz es::.adr (.r 10015) 0 0::xs.map (vd f)) d [.blk sz es',.nilp] /\ K (bN o.dst d++[(b,.blk sz es')]) [(b,false)]
   | _=>False
  | _=>False) : o.wp P a w (PostX F nt S L w0 M0 f K) Q:=by
 split at hr
 ·rename_i T' b i off hvx
  obtain ⟨rfl,rfl,rfl,hr⟩:=hr
  split at hr
  ·rename_i sz es hf
   obtain ⟨hpos,hxs,d,es',hpos',hc,hK⟩:=hr
   obtain ⟨ρ,ω,hO⟩:=h.own
   have hv:=hO.opd hx0
   rw [hvx,ah rfl] at hv
   simp only [al,Nat.zero_mul,Nat.add_zero] at hv
   have hrep : ap F M (xs.map (vd f)) (ys.toList.map a.eval):=by
    have h1:=cx h hx (by rw [List.all_eq_true];exact hxs)
    rwa [List.map_congr_left (g:=vd f) fun x hx'=>by unfold dpv;exact (dJ (hxs x hx')).1] at h1
   refine jG hC h hp hg hO hf hpos hc (vs:=.pointer (some ⟨(ρ (.r b)).blk,(ρ (.r b)).base,none⟩)::ys.toList.map a.eval) (by simp [hrep.length]) (fun ρ1 e1 i d v k1 k2=>?_) ?_ hK
   ·cases i with
    | zero =>
     simp at k1 k2
     subst k1;subst k2
     rw [ah rfl]
     simp [al,<- e1,aj]
    | succ i =>
     simp only [List.getElem?_cons_succ] at k1 k2
     obtain ⟨v',hv',rv⟩:=hrep.get k1
     rw [k2] at hv'
     cases hv'
     exact aV.of_pure rv
   ·simp only [execOp,ho,resolve,Sem.run_bind,Sem.run_pure,Result.andThen_ok,invoke,hv]
    have e0 : (#[Value.iface (F.ty T') (.pointer (some ⟨(ρ (.r b)).blk,(ρ (.r b)).base,none⟩))]++ys.map a.eval)[0]? = some (Value.iface (F.ty T') (.pointer (some ⟨(ρ (.r b)).blk,(ρ (.r b)).base,none⟩))):=by
     rw [Array.getElem?_append_left (by simp)];rfl
    simp only [e0,pB hk]
    congr 2
    apply Array.ext'
    simp
    exact List.take_of_length_le (by simp)
  ·exact hr.elim
 ·exact hr.elim
theorem rn (hC : bi P F C) (h : SR F nt S L w0 M0 f M a w) (hp : ∀ t,o.dst=some t -> t < nt) {g fi : Nat} {x : Opd} {xs : List Opd} {y : Operand} {ys : List Operand} {ts : Array TypeId} (ho : o.op=.call { callee:=.value (.func fi),args:=⟨y::ys⟩,argTypes:=ts }) (hx0 : ae F x y=true) (hx : a7 F xs ys=true)
  (hg : F g=some fi) (hr : match vd f x with
  | .ifa T (.r b) i off=>i=0 /\ off=0 /\ match f b with
   | .blk sz es=>0 < es.length /\ (∀ x ∈ xs,isV (vd f x)=true) /\ ∃ d,∃ es' : List (List D),0 < es'.length /\ C g (.blk sz es::.ifa T (.r 10015) 0 0::xs.map (vd f)) d [.blk sz es',.nilp] /\ K (bN o.dst d++[(b,.blk sz es')]) [(b,false)]
   | _=>False
  | _=>False) : o.wp P a w (PostX F nt S L w0 M0 f K) Q:=by
 split at hr
 ·rename_i T b i off hvx
  obtain ⟨rfl,rfl,hr⟩:=hr
  split at hr
  ·rename_i sz es hf
   obtain ⟨hpos,hxs,d,es',hpos',hc,hK⟩:=hr
   obtain ⟨ρ,ω,hO⟩:=h.own
   have hv:=hO.opd hx0
   rw [hvx,ah rfl] at hv
   simp only [al,Nat.zero_mul,Nat.add_zero] at hv
   have hrep : ap F M (xs.map (vd f)) (ys.map a.eval):=by
    have h1:=cx h hx (by rw [List.all_eq_true];exact hxs)
    rwa [List.map_congr_left (g:=vd f) fun x hx'=>by unfold dpv;exact (dJ (hxs x hx')).1] at h1
   refine jG hC h hp hg hO hf hpos hc (vs:=a.eval y::ys.map a.eval) (by simp [hrep.length]) (fun ρ1 e1 i d v k1 k2=>?_) ?_ hK
   ·cases i with
    | zero =>
     simp at k1 k2
     subst k1;subst k2
     rw [ah rfl,hv]
     simp [al,<- e1,aj]
    | succ i =>
     simp only [List.getElem?_cons_succ] at k1 k2
     obtain ⟨v',hv',rv⟩:=hrep.get k1
     rw [k2] at hv'
     cases hv'
     exact aV.of_pure rv
   ·simp only [execOp,ho,resolve,Act.eval,Deferred.ofValue,Sem.run_bind,Sem.run_pure,Result.andThen_ok,invoke]
    congr 2
    rw [Array.append_empty,Array.empty_append]
    apply Array.ext'
    simp
    cases y <;> simp [Act.eval]
  ·exact hr.elim
 ·exact hr.elim
theorem rq (hC : bi P F C) (h : SR F nt S L w0 M0 f M a w) (hp : ∀ t,o.dst=some t -> t < nt) {g fi : Nat} {x : Opd} {xs : List Opd} {y : Operand} {ys : List Operand} {ts : Array TypeId} (ho : o.op=.call { callee:=.value (.func fi),args:=⟨y::ys⟩,argTypes:=ts }) (hx0 : ae F x y=true) (hx : a7 F xs ys=true)
  (hg : F g=some fi) (hr : match vd f x with
  | .ref (.r b) k n=>k=0 /\ match f b with
   | .blk sz es=>0 < es.length /\ es.length=n /\ (∀ x ∈ xs,isV (vd f x)=true) /\ ∃ d,∃ es' : List (List D),0 < es'.length /\ C g (.blk sz es::.ref (.r 10015) 0 n::xs.map (vd f)) d [.blk sz es',.nilp] /\ K (bN o.dst d++[(b,.blk sz es')]) [(b,false)]
   | _=>False
  | _=>False) : o.wp P a w (PostX F nt S L w0 M0 f K) Q:=by
 split at hr
 ·rename_i b k n hvx
  obtain ⟨rfl,hr⟩:=hr
  split at hr
  ·rename_i sz es hf
   obtain ⟨hpos,hln,hxs,d,es',hpos',hc,hK⟩:=hr
   obtain ⟨ρ,ω,hO⟩:=h.own
   have hv:=hO.opd hx0
   rw [hvx,ah rfl] at hv
   have hrep : ap F M (xs.map (vd f)) (ys.map a.eval):=by
    have h1:=cx h hx (by rw [List.all_eq_true];exact hxs)
    rwa [List.map_congr_left (g:=vd f) fun x hx'=>by unfold dpv;exact (dJ (hxs x hx')).1] at h1
   refine jG hC h hp hg hO hf hpos hc (vs:=a.eval y::ys.map a.eval) (by simp [hrep.length]) (fun ρ1 e1 i d v k1 k2=>?_) ?_ hK
   ·cases i with
    | zero =>
     simp at k1 k2
     subst k1;subst k2
     rw [ah rfl]
     simp only [al] at hv ⊢
     rw [show (10015 : Nat)=aj from rfl,e1]
     exact hv
    | succ i =>
     simp only [List.getElem?_cons_succ] at k1 k2
     obtain ⟨v',hv',rv⟩:=hrep.get k1
     rw [k2] at hv'
     cases hv'
     exact aV.of_pure rv
   ·simp only [execOp,ho,resolve,Act.eval,Deferred.ofValue,Sem.run_bind,Sem.run_pure,Result.andThen_ok,invoke]
    congr 2
    rw [Array.append_empty,Array.empty_append]
    apply Array.ext'
    simp
    cases y <;> simp [Act.eval]
  ·exact hr.elim
 ·exact hr.elim
theorem SR.cutN (h : SR F nt S L w0 M0 f M a w) (ho : Own F L (fun k=>S k \/ w0.heap.size <= k) f M a w ρ ω) {b sz0 i0 o0 sz n : Nat} {es0 es : List (List D)} {row0 : List D} (hf : f b=.blk sz0 es0) (hi0 : es0[i0]? = some row0) (ho0 : row0[o0]? = some (.own sz es)) (hn : n <= es.length)
  {v : Value} (hv : al F M ρ (.ref (.n b i0 o0) 0 n) v) (hω : ω (ρ (.r b)).blk=some (.r b)) (hw : mH w (ρ (.r b)).blk ((ρ (.r b)).base + i0 * sz0 + o0) 1 [v] w') :
  SR F nt S L w0 M0 (eff [(b,.blk sz0 (aW es0 i0 o0 1 [.own sz (es.take n)]))] [] f) M a w':=by
 have hb:=ho.big hf
 have hlt : o0 < row0.length:=(List.getElem?_eq_some_iff.1 ho0).1
 rcases ho.roots b sz0 es0 hb hf with ⟨e0,_⟩ | ⟨_,hrows⟩
 ·rw [e0] at hi0;simp at hi0
 obtain ⟨h0,vs,T,h1,h2,h3,h4,h5⟩:=id hrows
 have hnew:=ho.new _ _ hω
 have hMb : ∀ p : Addr,p.block=(ρ (.r b)).blk -> M p=none:=fun p hp=>ho.apart p (.r b) (by rw [hp];exact hω)
 have rest : ∀ (p : Pa),p ≠ .r b -> ω (ρ p).blk=some p -> w'.heap[(ρ p).blk]? = w.heap[(ρ p).blk]?:=fun p hp e=>hw.rest _ (by
  intro e2
  rw [e2,hω] at e
  cases e;exact hp rfl)
 have hfb : eff [(b,.blk sz0 (aW es0 i0 o0 1 [.own sz (es.take n)]))] [] f b=.blk sz0 (aW es0 i0 o0 1 [.own sz (es.take n)]):=aA (by simp)
 refine { hnt:=h.hnt,size:=h.size,defers:=h.defers,ch:=kF h.ch hnew hw.rest hw.size hw.os hw.tape hw.output (Nat.le_of_eq hw.drawn.symm),holds:=fun p v hp=>?_,ext:=h.ext,fresh:=h.fresh,own:=⟨ρ,ω,?_⟩ }
 ·have hne : p.block ≠ (ρ (.r b)).blk:=fun e=>by rw [hMb p e] at hp;cases hp
  rw [World.cell?_of_block (hw.rest _ hne)]
  exact h.holds p v hp
 ·refine ho.step (ks:=[]) (fun p hp=>absurd rfl hp) (Mem.le_refl _) (Nat.le_of_eq hw.size.symm) (fun t ht=>.inl ?_) (fun c hc=>?_) (fun k p e=>.inl ⟨p,e⟩) ho.apart (fun c l hc hl hB=>⟨rfl,?_⟩)
  ·rcases bl (f:=f) (ks:=[]) (ct (d:=.blk sz0 (aW es0 i0 o0 1 [.own sz (es.take n)])) (show t ≠ b by omega)) with h2 | h2
   ·exact .inl h2
   ·exact .inr ⟨h2.1,rfl,h2.2⟩
  ·by_cases e : c=b
   ·subst e
    right
    refine .inl ⟨sz0,_,hfb,.inr ⟨hω,?_⟩⟩
    refine hrows.set hi0 (show o0 + 1 <= row0.length by omega) rfl h1 rfl (hw.cells _ _ h1) (fun i' r' off' d v' k1 k2 k3 k4=>bF.frame k4 (Mem.le_refl _) ⟨rfl,fun e=>⟨e,rest _ (by simp) e⟩⟩) (fun j d u k1 k2=>?_)
    cases j with
    | succ j=>simp at k1
    | zero =>
     simp at k1 k2
     subst k1;subst k2
     obtain ⟨v',_,_,k4⟩:=h5 i0 row0 o0 _ hi0 ho0
     have hl : (es.take n).length=n:=by simp;omega
     refine ⟨by rw [hl];exact hv,?_⟩
     rcases k4 with ⟨rfl,k5⟩ | ⟨k5,k6⟩
     ·exact .inl ⟨by simp,k5⟩
     ·refine .inr ⟨k5,?_⟩
      obtain ⟨g0,us,T',g1,g2,g3,g4,g5⟩:=k6
      refine ⟨g0,us,T',(rest _ (by simp) k5).trans g1,g2,?_,fun e he=>g4 e (List.mem_of_mem_take he),fun i r off d hi hr=>?_⟩
      ·rw [hl]
       have : n * sz <= es.length * sz:=Nat.mul_le_mul_right _ hn
       show (ρ (.n c i0 o0)).base + n * sz <= (ρ (.n c i0 o0)).len
       omega
      ·have hin : i < n:=by have:=(List.getElem?_eq_some_iff.1 hi).1;omega
       rw [List.getElem?_take_of_lt hin] at hi
       exact g5 i r off d hi hr
   ·left
    have hl:=ct (s:=c) (b:=b) (d:=.blk sz0 (aW es0 i0 o0 1 [.own sz (es.take n)])) e
    rcases bx (f:=f) (ks:=[]) hl with h1 | h1
    ·exact .inl h1
    ·exact .inr ⟨h1,fun p hp=>⟨rfl,fun e'=>⟨e',rest _ (by rintro rfl;exact e hp.symm) e'⟩⟩⟩
  ·by_cases e : c=b
   ·subst e;rw [hf];rfl
   ·rcases bx (f:=f) (ks:=[]) (ct (s:=c) (b:=b) (d:=.blk sz0 (aW es0 i0 o0 1 [.own sz (es.take n)])) e) with h1 | h1
    ·rw [hB] at h1;cases h1
    ·rw [<- h1];exact hB
theorem vX (h : SR F nt S L w0 M0 f M a w) {x v : Opd} {x' v' : Operand} {t : TypeId} (ho : o.op=.store t x' v') (hx : ae F x x'=true) (hv : ae F v v'=true) (hk : fG P t 1=true)
  (hr : aq C f o.dst K (.stL x v)) : o.wp P a w (PostX F nt S L w0 M0 f K) Q:=by
 simp only [aq] at hr
 obtain ⟨hd,hr⟩:=hr
 obtain ⟨ρ,ω,hO⟩:=h.own
 split at hr
 ·rename_i b i off b' i' o' k n ex ev
  obtain ⟨rfl,rfl,rfl,rfl,hr⟩:=hr
  split at hr
  ·rename_i sz0 es0 hf
   obtain ⟨row0,hi0,sz,es,ho0,hn,hK⟩:=hr
   have hxv:=hO.opd hx
   have hvv:=hO.opd hv
   rw [ex,ah rfl] at hxv
   rw [ev,ah rfl] at hvv
   obtain ⟨vs,T,hω,h0,hl,g1,g2,g3,g4⟩:=hO.row (p:=.r b') (hO.big hf) (show aL f (.r b')=some (sz0,es0) by simp [aL,hf]) hi0
   have hlt : o' < row0.length:=(List.getElem?_eq_some_iff.1 ho0).1
   have h1 : (a.eval v').cells=#[a.eval v'] /\ (a.eval v').oneCell'=true:=by
    simp only [al] at hvv
    rcases hvv with ⟨_,A,e⟩ | ⟨cap,e,_⟩ <;> rw [e] <;> exact ⟨rfl,rfl⟩
   simp only [al] at hxv
   rw [h0] at hxv
   obtain ⟨w',k1,k2,k3,k4,k5,k6,k7⟩:=eZ (P:=P) (off:=(ρ (.r b')).base + i' * sz0 + o') hk g1 (by rw [h1.1];rfl) (by omega) (v:=a.eval v') (fun u hu=>by rw [h1.1] at hu;simp at hu;subst hu;exact h1.2)
   rw [h1.1] at k2
   refine iC (w':=w') (by simp only [execOp,ho,hxv,Sem.run_bind,k1,Result.andThen_ok,Sem.run_pure]) ?_
   rw [hd]
   exact ⟨_,_,M,hK,by simpa [Act.put] using h.cutN hO hf hi0 ho0 hn hvv hω (gX g1 k2 k3 k4 k5 k6 k7)⟩
  ·exact hr.elim
 ·exact hr.elim
end
end Go.Gv
