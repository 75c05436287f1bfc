/-
  Texts of the proof: GvF, GvC8, GvC9, GvF2, GvF3, GvF4, GvE5, GvF5, GvG0, GvF6, GvF7.
-/
import Derived.Test.YtlipihhhgpnjmaaGreatX1
import Derived.Lib.ConvBytes
import Derived.Laws.AppendOwn
import Derived.Carry
import Derived.DeepKeys4
import Derived.Laws.Externs
import Derived.Laws.StructEq
set_option linter.all false
namespace Go.Gv
variable[Drw]
open Go.RowKit
section
variable{P:Program}{F:Fid}{nt:Nat}{S:Nat->Prop}{L:Ln}{w0:World}{M0:Mem}{f:Nat->D}{M:Mem}{a:Act}{w:World}{o:Oper}{d:D}{Q:Exit->Act->World->Prop}{ρ:Pa->Loc}{ω:Nat->Option Pa}{New:Nat->Prop}{K:List (Nat×D)->List (Nat×Bool)->Prop}
def RL(R:D->Value->Prop)(ds:List D)(vs:List Value):Prop:=ds.length=vs.length/\∀(i:Nat) (d:D) (v:Value),ds[i]? = some d->vs[i]? = some v->R d v
theorem RL.take{R:D->Value->Prop}{ds:List D}{vs:List Value}(h:RL R ds vs)(n:Nat):RL R (ds.take n) (vs.take n) :=
 ⟨by simp[h.1],fun i d v h1 h2=>by
  rw[x1g]at h1 h2
  split at h1
  ·rename_i hi
   rw[if_pos hi]at h2
   exact h.2 i d v h1 h2
  ·cases h1⟩
theorem RL.drop{R:D->Value->Prop}{ds:List D}{vs:List Value}(h:RL R ds vs)(n:Nat):RL R (ds.drop n) (vs.drop n) :=
 ⟨by simp[h.1],fun i d v h1 h2=>h.2 (n+i) d v (by simpa using h1) (by simpa using h2)⟩
theorem RL.append{R:D->Value->Prop}{ds es:List D}{vs us:List Value}(h:RL R ds vs)(g:RL R es us):RL R (ds++es) (vs++us) :=
 ⟨by simp[h.1,g.1],fun i d v h1 h2=>by
  by_cases hi:i<ds.length
  ·rw[x0A hi]at h1
   rw[x0A (by rw[<- h.1];exact hi)]at h2
   exact h.2 i d v h1 h2
  ·rw[x0B (by omega)]at h1
   rw[x0B (by rw[<- h.1];omega),<- h.1]at h2
   exact g.2 _ d v h1 h2⟩
theorem RL.toL{ds:List D}{vs:List Value}(h:RL (ae F M) ds vs):av F M ds vs:=av.of_forall' h.1 h.2
theorem av.toRL{ds:List D}{vs:List Value}(h:av F M ds vs):RL (ae F M) ds vs :=
 ⟨h.length.symm,fun i d v h1 h2=>by obtain⟨u,h3,h4⟩:=h.get h1;rw[h2]at h3;cases h3;exact h4⟩
theorem uS{R:D->Value->Prop}(place:Nat->Option (Nat×Nat)):∀(ps:List (Nat×Value)) (qs:List (Nat×Nat×D)) (cells:Array Value) (ds:List D),RL R ds cells.toList->ps.length=qs.length ->
  (∀p∈ps.zip qs,place p.1.1=some (p.2.1,p.2.2.1)/\RL R (cellsOf p.2.2.2) p.1.2.cells.toList/\(cellsOf p.2.2.2).length=p.2.2.1/\p.2.1+p.2.2.1<=ds.length) ->
  ∃cells',Instr.fill place cells ps=some cells'/\RL R (iQ ds qs) cells'.toList
 | [],[],cells,ds,r,_,_=>⟨cells,rfl,by simpa[iQ]using r⟩
 | (i,v)::ps,(off,n,d)::qs,cells,ds,r,hl,h=>by
  obtain⟨h1,rc,h4,h5⟩:=h ((i,v),(off,n,d)) (by simp)
  simp only at h1 rc h4 h5
  have hn:v.cells.size=n:=by have:=rc.1;simpa[h4]using this.symm
  have hcl:cells.size=ds.length:=by simpa using r.1.symm
  have hs:=fill_step off v.cells cells (by omega)
  have hno:¬(v.cells.size≠n\/off+v.cells.size > cells.size):=by rintro(h'|h')<;>omega
  simp only[Instr.fill,h1]
  rw[if_neg (by rw[x0u,x0b,x0b];exact hno)]
  have r':RL R (ds.take off++(cellsOf d).take n++ds.drop (off+n)) (v.cells.zipIdx.foldl (fun cs (p:Value×Nat)=>cs.setIfInBounds (off+p.2) p.1) cells).toList:=by
   rw[hs,hn,show(cellsOf d).take n=cellsOf d from x0i (by omega)]
   exact((r.take off).append rc).append (r.drop (off+n))
  exact uS place ps qs _ _ r' (by simpa using hl) (fun p hp=>by
   obtain⟨g1,g2,g3,g4⟩:=h p (by simp[hp])
   refine⟨g1,g2,g3,?_⟩
   have:(ds.take off++(cellsOf d).take n++ds.drop (off+n)).length=ds.length:=by simp;omega
   omega)
theorem zY{R:D->Value->Prop}(hR:∀d v,ae F M d v->R d v){zs:List D}{vs:List Value}(h:av F M zs vs):RL R zs vs :=
 ⟨h.length.symm,fun i d v h1 h2=>by obtain⟨u,h3,h4⟩:=h.get h1;rw[h2]at h3;cases h3;exact hR _ _ h4⟩
def ix(P:Program)(t i:Nat):Option (Nat×Nat):=match P.underlying t with
 | some (.array _ e)=>(P.info? e).map fun ie=>(i*ie.size,ie.size)
 | some (.struct fs)=>match fs[i]? with
  | some fl=>(P.info? fl.type).map fun j=>(fl.offset,j.size)
  | none=>none
 | _=>none
def qN(P:Program)(t:Nat):Bool:=match P.underlying t with
 | some (.array _ e)=>(P.info? e).isSome
 | some (.struct fs)=>fs.toList.all fun fl=>(P.info? fl.type).isSome
 | _=>false
def ux(P:Program)(F:Fid)(t:Nat)(zs:List D)(parts:List (Nat×Nat×Opd))(parts':List (Nat×Operand)):Bool :=
 alcOk P t zs&&qN P t&&parts.length==parts'.length&&(parts.zip parts').all fun p=>ao F p.1.2.2 p.2.2&&ix P t p.2.1==some (p.1.1,p.1.2.1)
theorem oD:∀(fs:List Field),(∀fl∈fs,(P.info? fl.type).isSome=true) ->
  ∃places,fs.mapM (fun f=>(P.info? f.type).map fun i=>(f.offset,i.size))=some places/\∀i:Nat,places[i]? =(fs[i]?).bind fun fl=>(P.info? fl.type).map fun j=>(fl.offset,j.size)
 | [],_=>⟨[],rfl,by simp⟩
 | fl::fs,h=>by
  obtain⟨j,hj⟩:=Option.isSome_iff_exists.1 (h fl (by simp))
  obtain⟨pl,h1,h2⟩:=oD fs (fun x hx=>h x (by simp[hx]))
  refine⟨(fl.offset,j.size)::pl,by simp[List.mapM_cons,hj,h1],fun i=>?_⟩
  cases i with
  | zero=>simp[hj]
  | succ i=>simpa using h2 i
theorem xw{t:Nat}{z:Value}(hz:∀w,(zeroValue t).run P w=.ok z w)(hs:qN P t=true)(parts:Array (Nat×Value))(cells:Array Value)(hf:∀place:Nat->Option (Nat×Nat),(∀i x,ix P t i=some x->place i=some x)->Instr.fill place z.cells parts.toList=some cells)(w:World) :
  (Instr.build t parts).run P w=.ok (.agg cells) w:=by
 unfold qN at hs
 split at hs
 ·rename_i n e hu
  obtain⟨ie,hie⟩:=Option.isSome_iff_exists.1 hs
  have h1:=hf (fun i=>some (i*ie.size,ie.size)) (fun i x hx=>by simpa[ix,hu,hie]using hx)
  simp only[Instr.build,Sem.run_bind,hz,Result.andThen_ok,run_underlying hu,dC (show ng P e ie.size=true by simp[ng,hie]),h1]
  rfl
 ·rename_i fs hu
  simp only[x0f]at hs
  obtain⟨pl,h1,h2⟩:=oD fs.toList hs
  have h3:=hf (fun i=>pl.toArray[i]?) (fun i x hx=>by
   rw[x1j,h2 i]
   unfold ix at hx
   rw[hu]at hx
   simp only at hx
   split at hx
   ·rename_i fl hfl
    simp[hfl,hx]
   ·cases hx)
  have h4:=run_places (P:=P) w fs.toList pl h1
  simp only[x1j]at h3
  simp[Instr.build,hz,run_underlying hu,x03,h4,h3]
 ·cases hs
theorem xR{t:TypeId}{zs:List D}{parts:List (Nat×Nat×Opd)}{parts':Array (Nat×Operand)}(hk:ux P F t zs parts parts'.toList=true){R:D->Value->Prop}(hR:∀d v,ae F M d v->R d v){g:Opd->D}
  (hc:∀p∈parts,(cellsOf (g p.2.2)).length=p.2.1/\p.1+p.2.1<=zs.length) (hv:∀x y,ao F x y=true->(∃p∈parts,p.2.2=x)->RL R (cellsOf (g x)) (a.eval y).cells.toList) :
  ∃cells,(Instr.build t (parts'.map fun(i,x)=>(i,a.eval x))).run P w=.ok (.agg cells) w/\RL R (iQ zs (parts.map fun p=>(p.1,p.2.1,g p.2.2))) cells.toList:=by
 simp only[ux,x0a,x0r,x0f]at hk
 obtain⟨⟨⟨h1,h2⟩,h3⟩,h4⟩:=hk
 obtain⟨z,hz,rz⟩:=alcOk_z h1
 have hfill:∀place:Nat->Option (Nat×Nat),(∀i x,ix P t i=some x->place i=some x) ->
   ∃cells,Instr.fill place z.cells (parts'.map fun(i,x)=>(i,a.eval x)).toList=some cells/\RL R (iQ zs (parts.map fun p=>(p.1,p.2.1,g p.2.2))) cells.toList:=by
  intro place hpl
  refine uS place _ _ z.cells zs (zY hR (rz F M)) (by simpa using h3.symm) (fun p hp=>?_)
  rw[Array.toList_map,List.zip_map,x0w]at hp
  obtain⟨⟨q',q⟩,hq,rfl⟩:=hp
  have hq':(q,q')∈parts.zip parts'.toList:=by
   obtain⟨n,hn,e⟩:=x0K.1 hq
   simp only[List.length_zip]at hn
   rw[List.getElem_zip]at e
   simp only[Prod.mk.injEq]at e
   rw[x0K]
   exact⟨n,by rw[List.length_zip];omega,by rw[List.getElem_zip,e.1,e.2]⟩
  obtain⟨g1,g2⟩:=h4 _ hq'
  obtain⟨g4,g5⟩:=hc q (List.of_mem_zip hq').1
  exact⟨hpl _ _ (by simpa using g2),hv _ _ g1 ⟨q,(List.of_mem_zip hq').1,rfl⟩,g4,g5⟩
 obtain⟨cells,hc1,hc2⟩:=hfill (ix P t) (fun _ _ e=>e)
 refine⟨cells,?_,hc2⟩
 exact xw (P:=P) (t:=t) hz h2 (parts'.map fun(i,x)=>(i,a.eval x)) cells (fun place hpl=>by
  have key:∀(ps:List (Nat×Value)) (c:Array Value),(∀p∈ps,∃x,ix P t p.1=some x)->Instr.fill place c ps=Instr.fill (ix P t) c ps:=by
   intro ps
   induction ps with
   | nil=>intro c _;rfl
   | cons p ps ih =>
    intro c hps
    obtain⟨i,v⟩:=p
    obtain⟨x,hx⟩:=hps (i,v) (by simp)
    simp only at hx
    simp only[Instr.fill,hx,hpl i x hx]
    split
    ·rfl
    ·exact ih _ (fun p hp=>hps p (by simp[hp]))
  rw[key _ _ (fun p hp=>by
   rw[Array.toList_map,x0w]at hp
   obtain⟨q',hq',rfl⟩:=hp
   obtain⟨n,hn,e⟩:=x0K.1 hq'
   have hmem:(parts[n]'(by omega),q')∈parts.zip parts'.toList:=by
    rw[x0K]
    exact⟨n,by rw[List.length_zip];omega,by simp[<- e]⟩
   obtain⟨_,g2⟩:=h4 _ hmem
   exact⟨_,by simpa using g2⟩)]
  exact hc1) w
theorem qt{v:Value}(h:ae F M d v)(hn:d≠.any):RL (ae F M) (cellsOf d) v.cells.toList:=by
 have one:v.cells=#[v]->RL (ae F M) [d] v.cells.toList:=fun e=>by
  rw[e]
  exact⟨rfl,fun i d' v' h1 h2=>by
   cases i with
   | zero=>simp at h1 h2;subst h1;subst h2;exact h
   | succ i=>simp at h1⟩
 cases d
 case any=>exact absurd rfl hn
 case agg ds=>obtain⟨vs,rfl,r⟩:=(show ∃vs:List Value,v=.agg vs.toArray/\av F M ds vs from by simpa only[ae]using h);exact r.toRL
 case sl es=>exact one (by simp only[ae]at h;obtain⟨A,cap,vs,sz,rfl,_⟩:=h;rfl)
 case slv k es=>exact one (by simp only[ae]at h;obtain⟨_,A,cap,vs,sz,e,_⟩:=h;rw[e];rfl)
 case bb=>exact one (by simp only[ae]at h;obtain⟨b,rfl⟩:=h;rfl)
 case tup ds=>exact one (by simp only[ae]at h;obtain⟨vs,rfl,_⟩:=h;rfl)
 case ptr ds=>exact one (by simp only[ae]at h;obtain⟨p,vs,rfl,_⟩:=h;rfl)
 case fn g cs=>exact one (by simp only[ae]at h;obtain⟨p,vs,_,rfl,_⟩:=h;rfl)
 all_goals first|(exact one (by simp only[ae]at h;subst h;rfl))|(simp[ae]at h)
theorem Gt(h:SR F nt S L w0 M0 f M a w)(hp:cd nt f o.dst){zs:List D}{parts:List (Nat×Nat×Opd)}{parts':Array (Nat×Operand)}{t:TypeId}(ho:o.op=.build t parts')(hk:ux P F t zs parts parts'.toList=true)
  (hr:res f (·=d) (.bld zs parts)):o.wp P a w (co F nt S L w0 M0 f o.dst d) Q:=by
 simp only[res]at hr
 obtain⟨hc,hr1,hr2⟩:=hr
 have run:∀cells,(Instr.build t (parts'.map fun(i,x)=>(i,a.eval x))).run P w=.ok (.agg cells) w->(execOp a.eval o).run P w=.ok (.value (.agg cells)) w:=fun cells hrun=>by
  simp only[execOp,ho,Sem.run_bind,hrun,Result.andThen_ok,Sem.run_pure]
 cases hall:(parts.all fun p=>isV (vd f p.2.2)) with
 | true =>
  obtain rfl:=hr1 hall
  rw[x0f]at hall
  suffices hb:_/\_ by
   obtain⟨cells,h1,h2⟩:=xR (P:=P) (F:=F) (M:=M) (a:=a) (w:=w) hk (R:=ae F M) (fun _ _ h=>h) (g:=vd f) hb.1 hb.2
   refine aR h hp (v:=.agg cells) ?_ (run cells h1)
   simp only[ae]
   exact⟨cells.toList,by simp,h2.toL⟩
  refine⟨fun p hp=>?_,fun x y hx ⟨p,hp,e⟩=>?_⟩
  ·obtain⟨_,g1,g2⟩:=hc p hp
   refine⟨?_,g1⟩
   have hv:=hall p hp
   cases e:vd f p.2.2<;>rw[e]at g2 hv<;>simp only[isV,x0o]at hv<;>simp only[cellsOf]<;>first|exact g2|exact g2.symm|exact g2.elim
  ·have hv:=hall p hp
   rw[e]at hv
   refine qt (h.opd hx hv) (fun e'=>?_)
   have:=(hc p hp).2.2
   rw[e,e']at this
   exact this
 | false =>
  obtain rfl:=hr2 hall
  refine bN h hp (fun ρ ω hO=>?_)
  suffices hb:_/\_ by
   obtain⟨cells,h1,h2⟩:=xR (P:=P) (F:=F) (M:=M) (a:=a) (w:=w) hk (R:=aC F M ρ) (fun _ _ h=>aC.of_pure h) (g:=fun x=>fw (vd f x)) hb.1 hb.2
   exact⟨.agg cells,⟨cells.toList,by simp,h2.1,h2.2⟩,run cells h1⟩
  refine⟨fun p hp=>?_,fun x y hx ⟨p,hp,e⟩=>?_⟩
  ·obtain⟨_,g1,g2⟩:=hc p hp
   refine⟨?_,g1⟩
   cases e:vd f p.2.2<;>rw[e]at g2<;>simp only[cellsOf,fw]<;>first|exact g2|exact g2.symm|exact g2.elim
  ·have hv:=hO.opd hx
   have hne:=(hc p hp).2.2
   rw[e]at hne
   have single:∀v,aC F M ρ (vd f x) v->v.cells=#[v]->RL (aC F M ρ) [vd f x] v.cells.toList:=fun v hv e=>by
    rw[e]
    exact⟨rfl,fun i d' v' h1 h2=>by
     cases i with
     | zero=>simp at h1 h2;subst h1;subst h2;exact hv
     | succ i=>simp at h1⟩
   have pur:isV (vd f x)=true->RL (aC F M ρ) (cellsOf (vd f x)) (a.eval y).cells.toList:=fun hpv=>by
    have:=qt (hv.pure hpv) (fun e'=>by rw[e']at hne;exact hne)
    exact⟨this.1,fun i d v h1 h2=>aC.of_pure (this.2 i d v h1 h2)⟩
   cases e1:vd f x<;>rw[e1]at hv hne pur single<;>simp only[fw]<;>try exact pur rfl
   case agx ds=>obtain⟨vs,e2,r⟩:=hv;rw[e2];exact r
   case ref p k n =>
    rw[az rfl]at hv
    refine single _ hv ?_
    simp only[aC]at hv
    rcases hv with ⟨_,A,e3⟩|⟨cap,e3,_⟩<;>rw[e3]<;>rfl
   case adr p i off=>rw[az rfl]at hv;refine single _ hv ?_;simp only[aC]at hv;rw[hv];rfl
   case mrf b=>rw[az rfl]at hv;refine single _ hv ?_;simp only[aC]at hv;rw[hv];rfl
   case tpx ds=>exact hne.elim
   case ptx ds=>exact hne.elim
   case rfx n sz ds=>exact hne.elim
   case fny g ds cs=>exact hne.elim
   case ifa T p i off=>rw[az rfl]at hv;refine single _ hv ?_;simp only[aC]at hv;rw[hv];rfl
   case fnx g cs=>exact hne.elim
   all_goals (simp[bC,aC,ae]at hv)
def bY(F:Fid)(xs:List Opd)(ys:List Operand):Bool:=xs.length==ys.length&&(xs.zip ys).all fun p=>ao F p.1 p.2
theorem Jh(h:SR F nt S L w0 M0 f M a w)(hp:cd nt f o.dst){g fi:Nat}{xs:List Opd}{first ys:Array Operand}(ho:o.op=.makeFunc (.func fi) first ys)(hf:first.isEmpty=true)(hx:bY F xs ys.toList=true)
  (hg:F g=some fi) (hr:res f (·=d) (.mk g xs)):o.wp P a w (co F nt S L w0 M0 f o.dst d) Q:=by
 simp only[res]at hr
 obtain⟨h0,hr1,hr2⟩:=hr
 have hf':first=#[]:=by simpa using hf
 simp only[bY,x0a,x0r,x0f]at hx
 refine bN h hp (fun ρ ω hO=>⟨.func (.func fi) #[] (ys.toList.map a.eval).toArray,?_,?_⟩)
 ·have parts:∀(i:Nat) (d:D) (v:Value),(xs.map (vd f))[i]? = some d->(ys.toList.map a.eval)[i]? = some v->∃x y,d=vd f x/\x∈xs/\v=a.eval y/\ao F x y=true:=fun i d v h1 h2=>by
   rw[x0z,x0p]at h1 h2
   obtain⟨x,h1,rfl⟩:=h1
   obtain⟨y,h2,rfl⟩:=h2
   refine⟨x,y,rfl,x0g h1,rfl,hx.2 (x,y) (x1i.2 ⟨i,by rw[x1D];exact⟨h1,h2⟩⟩)⟩
  cases hall:(xs.all fun x=>isV (vd f x)) with
  | true =>
   obtain rfl:=hr1 hall
   rw[x0f]at hall
   refine bC.of_pure ?_
   simp only[ae]
   refine⟨fi,_,hg,rfl,av.of_forall' (by simpa using hx.1) (fun i d v h1 h2=>?_)⟩
   obtain⟨x,y,rfl,h3,rfl,h5⟩:=parts i d v h1 h2
   exact(hO.opd h5).pure (hall x h3)
  | false =>
   obtain rfl:=hr2 hall
   refine⟨fi,_,hg,rfl,by simpa using hx.1,fun i d v h1 h2=>?_⟩
   obtain⟨x,y,rfl,h3,rfl,h5⟩:=parts i d v h1 h2
   have:=hO.opd h5
   rwa[az (by have:=h0 x h3;cases e:vd f x<;>rw[e]at this<;>first|rfl|(simp[isP]at this))]at this
 ·simp only[execOp,ho,hf',Instr.makeFunc,Sem.run_bind,Sem.run_pure,Result.andThen_ok]
  rw[show ys.map a.eval=(ys.toList.map a.eval).toArray from by apply Array.ext';simp]
  simp
def pj(P:Program)(t:Nat):Bool:=match P.underlying t with
 | some (.slice _)=>true
 | _=>false
theorem AZ{t:Nat}(h:pj P t=true):∃e,P.underlying t=some (.slice e):=by
 unfold pj at h
 split at h
 ·exact⟨_,by assumption⟩
 ·cases h
theorem GB(h:SR F nt S L w0 M0 f M a w)(hp:cd nt f o.dst){x:Opd}{x':Operand}{t:TypeId}(ho:o.op=.call { callee:=.builtin .len,args:=#[x'],argTypes:=#[t] })(hx:ao F x x'=true)(hk:pj P t=true)
  (hr:res f (·=d) (.len x)):o.wp P a w (co F nt S L w0 M0 f o.dst d) Q:=by
 obtain⟨e,he⟩:=AZ hk
 have key:∀A n c,a.eval x'=.slice A n c->(execOp a.eval o).run P w=.ok (.value (.int .i64 n)) w:=by
  intro A n c e1
  simp only[execOp,ho,resolve,invoke,builtin,Builtin.len_,goInt,x1Q,x0F,x02,e1,Sem.run_bind,Sem.run_pure,Result.andThen_ok,x1j,x1k,run_underlying he]
 simp only[res]at hr
 split at hr
 ·rename_i es ex
  have h1:=h.opd hx (by simp[ex,isV])
  rw[ex]at h1
  simp only[ae]at h1
  obtain⟨A,cap,vs,sz,e1,_⟩:=h1
  subst hr
  exact aR h hp (v:=.int .i64 es.length) rfl (key _ _ _ e1)
 ·rename_i ex
  have h1:=h.opd hx (by simp[ex,isV])
  rw[ex]at h1
  simp only[ae]at h1
  subst hr
  exact aR h hp (v:=.int .i64 0) rfl (by simpa using key _ _ _ h1)
 ·rename_i p k n ex
  subst hr
  refine bN h hp (fun ρ ω hO=>⟨.int .i64 n,bC.of_pure rfl,?_⟩)
  have h1:=hO.opd hx
  rw[ex,az rfl]at h1
  simp only[aC]at h1
  rcases h1 with ⟨rfl,A,h1⟩|⟨cap,h1,_⟩
  ·simpa using key _ _ _ h1
  ·exact key _ _ _ h1
 ·rename_i n sz ds ex
  subst hr
  refine bN h hp (fun ρ ω hO=>⟨.int .i64 n,bC.of_pure rfl,?_⟩)
  have h1:=hO.opd hx
  rw[ex]at h1
  obtain⟨p,cap,vs,e1,_⟩:=h1
  exact key _ _ _ e1
 ·exact hr.elim
theorem D7(h:SR F nt S L w0 M0 f M a w)(hp:cd nt f o.dst){x:Opd}{x':Operand}{t:TypeId}(ho:o.op=.call { callee:=.builtin .len,args:=#[x'],argTypes:=#[t] })(hx:ao F x x'=true)(hk:sw P t=true)
  (hr:res f (·=d) (.lens x)):o.wp P a w (co F nt S L w0 M0 f o.dst d) Q:=by
 simp only[res]at hr
 split at hr
 ·rename_i s ex
  have h1:=h.opd hx (by simp[ex,isV])
  rw[ex]at h1
  simp only[ae]at h1
  subst hr
  refine aR h hp (v:=.int .i64 s.length) rfl ?_
  simp only[execOp,ho,resolve,invoke,builtin,Builtin.len_,goInt,x1Q,x0F,x02,h1,Sem.run_bind,Sem.run_pure,Result.andThen_ok,x1j,x1k,run_underlying (yO hk)]
  rfl
 ·exact hr.elim
def oz(P:Program)(f:FuncId):Bool:=match P.funcs[f]? with
 | some fn=>fn.body.isSome && !(fn.name == "runtime.NumGoroutine")
 | none=>false
theorem cx{fi:Nat}(h:oz P fi=true)(args:Array Value)(w:World):(callFunc fi args).run P w=.ok (.enter fi args) w:=by
 unfold oz at h
 split at h
 ·rename_i fn hfn
  simp only[x0a,x0t]at h
  obtain⟨h1,h2⟩:=h
  have h3:fn.body.isNone=false:=by cases hb:fn.body<;>simp_all
  simp only[callFunc,Sem.run_bind,run_program,Result.andThen_ok,hfn,h2,h3]
  rfl
 ·cases h
def jZ(F:Fid):Option Opd->Option Operand->Bool
 | none,none=>true
 | some x,some y=>ao F x y
 | _,_=>false
theorem gK(h:SR F nt S L w0 M0 f M a w){lo:Option Opd}{lo':Option Operand}(ho:jZ F lo lo'=true){dflt:Nat}{K:Nat->Prop}(hb:eD f lo dflt K) :
  ∃n,K n/\((lo'=none/\lo=none/\n=dflt)\/∃y k m,lo'=some y/\a.eval y=.int k m/\0<=m/\n=m.toNat):=by
 unfold eD at hb
 split at hb
 ·cases lo' with
  | none=>exact⟨dflt,hb,.inl ⟨rfl,rfl,rfl⟩⟩
  | some y=>simp[jZ]at ho
 ·rename_i x
  cases lo' with
  | none=>simp[jZ]at ho
  | some y =>
   simp only[jZ]at ho
   split at hb
   ·rename_i k m ex
    have h1:=h.opd ho (by simp[ex,isV])
    rw[ex]at h1
    simp only[ae]at h1
    exact⟨_,hb.2,.inr ⟨y,k,m,rfl,h1,hb.1,rfl⟩⟩
   ·exact hb.elim
theorem nW{isS:Bool}{len cap l h:Nat}{lo hi:Option Value}(hl:(lo=none/\l=0)\/∃k m,lo=some (.int k m)/\0<=m/\l=m.toNat)(hh:(hi=none/\h=len)\/∃k m,hi=some (.int k m)/\0<=m/\h=m.toNat)
  (h1:l<=h) (h2:h<=cap) (w:World):(Instr.sliceBounds isS len cap lo hi none).run P w=.ok (l,h,cap) w:=by
 rcases hl with ⟨e1,e2⟩|⟨k,m,e1,g1,e2⟩<;>rcases hh with ⟨e1',e2'⟩|⟨k',m',e1',g1',e2'⟩
 ·simp[Instr.sliceBounds,e1,e1',e2,e2']
 ·have e:m'<=(cap:Int):=by omega
  simp[Instr.sliceBounds,Instr.sliceBound,asIntOf,e1,e1',e2,e2',g1',e]
 ·have e:m<=(len:Int):=by omega
  simp[Instr.sliceBounds,Instr.sliceBound,asIntOf,e1,e1',e2,e2',g1,e]
 ·have e:m'<=(cap:Int):=by omega
  have e'':m<=max m' 0:=by omega
  simp[Instr.sliceBounds,Instr.sliceBound,asIntOf,e1,e1',e2,e2',g1',e,g1,e'']
def D0(P:Program)(t sz:Nat):Bool:=match P.underlying t with
 | some (.slice e)=>ng P e sz
 | _=>false
theorem GD(h:SR F nt S L w0 M0 f M a w)(hp:cd nt f o.dst){sz:Nat}{x:Opd}{x':Operand}{lo hi:Option Opd}{lo' hi':Option Operand}{t:TypeId}(ho:o.op=.slice t x' lo' hi' none)(hx:ao F x x'=true)
  (hlo:jZ F lo lo'=true) (hhi:jZ F hi hi'=true) (hk:D0 P t sz=true) (hr:res f (·=d) (.slc sz x lo hi)):o.wp P a w (co F nt S L w0 M0 f o.dst d) Q:=by
 simp only[res]at hr
 have run:∀(A:Option Addr) (n cap ln hn:Nat),a.eval x'=.slice A n cap->n<=cap->ln<=hn->hn<=n->((lo'=none/\lo=none/\ln=0)\/∃y k m,lo'=some y/\a.eval y=.int k m/\0<=m/\ln=m.toNat)->((hi'=none/\hi=none/\hn=n)\/∃y k m,hi'=some y/\a.eval y=.int k m/\0<=m/\hn=m.toNat) ->
   (execOp a.eval o).run P w=.ok (.value (.slice (if cap=ln then A else A.map (·.add (ln*sz))) (hn-ln) (cap-ln))) w:=by
  intro A n cap ln hn e1 hcap g1 g2 el eh
  have hbounds:(Instr.sliceBounds true n cap (lo'.map a.eval) (hi'.map a.eval) none).run P w=.ok (ln,hn,cap) w:=by
   refine nW ?_ ?_ g1 (by omega) w
   ·rcases el with ⟨rfl,_,rfl⟩|⟨y,k,m,rfl,e2,e3,rfl⟩
    ·exact .inl ⟨rfl,rfl⟩
    ·exact .inr ⟨k,m,by simp[e2],e3,rfl⟩
   ·rcases eh with ⟨rfl,_,rfl⟩|⟨y,k,m,rfl,e2,e3,rfl⟩
    ·exact .inl ⟨rfl,rfl⟩
    ·exact .inr ⟨k,m,by simp[e2],e3,rfl⟩
  unfold D0 at hk
  split at hk
  ·rename_i e hu
   simp only[execOp,ho,e1,Instr.sliceAt,Sem.run_bind,run_underlying hu,Result.andThen_ok,Instr.slice,Option.map_none,hbounds,dC hk,Sem.run_pure]
  ·cases hk
 split at hr
 ·rename_i es ex
  have h1:=h.opd hx (by simp[ex,isV])
  rw[ex]at h1
  simp only[ae]at h1
  obtain⟨A,cap,vs,sz',e1,hcap,r,hs,ha⟩:=h1
  obtain⟨hz,hr⟩:=hr
  obtain⟨hn,hb,eh⟩:=gK h hhi hr
  obtain⟨ln,⟨g1,g2,rfl⟩,el⟩:=gK h hlo hb
  refine aR h hp ?_ (run A _ cap ln hn e1 hcap g1 g2 el eh)
  simp only[ae]
  have hlen:((es.take hn).drop ln).length=hn-ln:=by simp;omega
  refine⟨_,cap-ln,(vs.take (hn*sz')).drop (ln*sz'),sz',by rw[hlen],by omega,(r.take hn hs).drop ln (fun e he=>hs e (x0O he)),fun e he=>hs e (x0O (x1f he)),fun hpos=>?_⟩
  obtain⟨p,rfl,c⟩:=ha (by omega)
  have hne:cap≠ln:=by omega
  have he0:es[0]'(by omega)∈es:=x0h _
  obtain rfl:sz'=sz:=(hs _ he0).symm.trans (hz _ he0)
  rw[if_neg hne]
  exact⟨p.add (ln*sz'),rfl,(c.take _).drop _⟩
 ·rename_i ex
  have h1:=h.opd hx (by simp[ex,isV])
  rw[ex]at h1
  simp only[ae]at h1
  obtain⟨hn,hb,eh⟩:=gK h hhi hr
  obtain⟨ln,⟨g1,g2,rfl⟩,el⟩:=gK h hlo hb
  refine aR h hp ?_ (run none 0 0 ln hn h1 (x0k _) g1 g2 el eh)
  simp only[ae]
  have e1:hn=0:=by omega
  have e2:ln=0:=by omega
  subst e1;subst e2
  exact⟨none,0,[],0,rfl,by simp,rfl,fun e he=>(by cases he),fun hpos=>absurd hpos (by simp)⟩
 ·rename_i p k n ex
  split at hr
  ·rename_i sz' es hg
   obtain⟨rfl,hr⟩:=hr
   obtain⟨hn,hb,eh⟩:=gK h hhi hr
   obtain⟨ln,⟨g1,g2,rfl⟩,el⟩:=gK h hlo hb
   refine bN h hp (fun ρ ω hO=>?_)
   have h1:=hO.opd hx
   rw[ex,az rfl]at h1
   simp only[aC]at h1
   obtain⟨hP,_⟩:=hO.get (cY hO hg) hg
   have hsz:(ρ p).sz=sz':=by
    rcases hP with ⟨_,_,h3,_⟩|⟨_,h3,_⟩<;>exact h3
   rcases h1 with ⟨rfl,A,h1⟩|⟨cap,h1,hcap,hfit,hmc⟩
   ·refine⟨_,bC.ofR ?_,run A 0 0 ln hn h1 (x0k _) g1 g2 el eh⟩
    simp only[aC]
    exact .inl ⟨by omega,_,by rw[show hn-ln=0 from by omega,Nat.zero_sub]⟩
   ·refine⟨_,bC.ofR ?_,run _ n cap ln hn h1 hcap g1 g2 el eh⟩
    simp only[aC]
    by_cases hc:cap=ln
    ·exact .inl ⟨by omega,_,by rw[show hn-ln=0 from by omega,show cap-ln=0 from by omega]⟩
    ·refine .inr ⟨cap-ln,?_,by omega,?_,by omega⟩
     ·rw[if_neg hc]
      simp only[x1m,dy,hsz,x0I,x0Y]
     ·rw[show k+ln+(cap-ln)=k+cap from by omega]
      exact hfit
  ·exact hr.elim
 ·exact hr.elim
def Cg(P:Program)(src dst:Nat):Bool:=(P.underlying src).isSome&&match P.underlying dst with
 | some (.slice e)=>(match P.underlying e with
  | some (.int .u8)=>true
  | _=>false)
 | _=>false
theorem rB{M':Mem}:∀s:List UInt8,aZ F M' (s.map fun(b:UInt8)=>[D.int .u8 (b.toNat:Int)]) (s.map fun(b:UInt8)=>Value.int .u8 (b.toNat:Int))
 | []=>by simp[aZ]
 | b::s=>by
  simp only[x0F,aZ]
  exact⟨[_],_,rfl,⟨_,[],rfl,by simp only[ae],rfl⟩,rB s⟩
theorem Gx(h:SR F nt S L w0 M0 f M a w)(hp:cd nt f o.dst){x:Opd}{x':Operand}{src dst:TypeId}(ho:o.op=.convert src dst x')(hx:ao F x x'=true)
  (hk:Cg P src dst=true) (hr:res f (·=d) (.cvB x)):o.wp P a w (co F nt S L w0 M0 f o.dst d) Q:=by
 simp only[res]at hr
 split at hr
 ·rename_i s ex
  subst hr
  have h1:=h.opd hx (by simp[ex,isV])
  rw[ex]at h1
  simp only[ae]at h1
  unfold Cg at hk
  rw[x0a]at hk
  obtain⟨u,hs⟩:=Option.isSome_iff_exists.1 hk.1
  have hk:=hk.2
  split at hk
  ·rename_i e hd
   split at hk
   ·rename_i he
    have hrun:=Lib.run_convert_string_bytes (P:=P) w src dst e ⟨s.toArray⟩ hs hd he
    obtain⟨vs,hvs⟩:∃vs:List Value,vs=s.map fun(b:UInt8)=>Value.int .u8 (b.toNat:Int):=⟨_,rfl⟩
    have hvl:vs.length=s.length:=by rw[hvs];simp
    obtain⟨w',hw'⟩:∃w',w'=Lib.bytesWorld w e ⟨s.toArray⟩:=⟨_,rfl⟩
    rw[<- hw']at hrun
    have hB:Bel w w':=by
     rw[hw']
     refine⟨?_,?_,?_,by rw[Lib.bytesWorld_size];omega,fun k hk=>Lib.bytesWorld_at_old w e _ k hk,.of ?_⟩<;>simp[Lib.bytesWorld,World.freeze,World.alloc,World.drew,-World.alloc_eq,-World.drew_eq]
    have hH:∀p v,(M.put w.heap.size vs) p=some v->w'.cell? p=some v:=fun p v hp=>by
     unfold Mem.put at hp
     split at hp
     ·rename_i hb
      split at hp
      ·rename_i hsp
       obtain⟨pb,po,ps⟩:=p
       simp only at hb hsp hp
       subst hb;subst hsp
       obtain⟨hlt,hv⟩:=x0d.1 hp
       have hlt':po<s.length:=by omega
       rw[hw',Lib.bytesWorld_cell w e ⟨s.toArray⟩ po (by simpa[ByteArray.size]using hlt')]
       rw[<- hv]
       simp[hvs,hlt']
      ·cases hp
     ·rename_i hb
      have hlt:=World.block_lt_of_cell? w p (h.holds p v hp)
      rw[hw',Lib.bytesWorld_old w e _ p hlt]
      exact h.holds p v hp
    have hle:M.le (M.put w.heap.size vs):=fun p v hp=>by
     have:=World.block_lt_of_cell? w p (h.holds p v hp)
     unfold Mem.put
     rw[if_neg (by omega)]
     exact hp
    have hnew:∀p,M p=none->(M.put w.heap.size vs) p≠none->w.heap.size<=p.block:=fun p hp hq=>by
     unfold Mem.put at hq
     split at hq
     ·omega
     ·exact absurd hp hq
    have h':=h.world hB hle hnew hH
    have hrun2:(execOp a.eval o).run P w=.ok (.value (.slice (some ⟨w.heap.size,0,none⟩) (⟨s.toArray⟩:ByteArray).size (grownCap w (⟨s.toArray⟩:ByteArray).size 0 e))) w':=by simp only[execOp,ho,h1,Sem.run_bind,hrun,Result.andThen_ok,Sem.run_pure]
    refine dD hrun2 ⟨M.put w.heap.size vs,?_⟩
    have hrep:ae F (M.put w.heap.size vs) (.sl (s.map fun(b:UInt8)=>[.int .u8 (b.toNat:Int)])) (.slice (some ⟨w.heap.size,0,none⟩) (⟨s.toArray⟩:ByteArray).size (grownCap w (⟨s.toArray⟩:ByteArray).size 0 e)):=by
     simp only[ae]
     refine⟨some ⟨w.heap.size,0,none⟩,grownCap w (⟨s.toArray⟩:ByteArray).size 0 e,vs,1,by simp[ByteArray.size],?_,?_,by simp,fun _=>⟨_,rfl,by simpa using Mem.put_at M w.heap.size 0 vs⟩⟩
     ·have:=grownCap_ge w (⟨s.toArray⟩:ByteArray).size 0 e
      simpa[ByteArray.size]using this
     ·rw[hvs]
      exact rB s
    generalize o.dst=t at hp ⊢
    cases t with
    | none=>simpa[Act.put,GO]using h'
    | some t=>exact h'.put hp (fun _ _ _=>bC.of_pure hrep)
   ·cases hk
  ·cases hk
 ·exact hr.elim
theorem Ji(h:SR F nt S L w0 M0 f M a w)(hp:cd nt f o.dst){x y:Opd}{x' y':Operand}{ts:Array TypeId}(ho:o.op=.call { callee:=.builtin .min,args:=#[x',y'],argTypes:=ts })(hx:ao F x x'=true)(hy:ao F y y'=true)
  (hr:res f (·=d) (.mn x y)):o.wp P a w (co F nt S L w0 M0 f o.dst d) Q:=by
 simp only[res]at hr
 split at hr
 ·rename_i k n k' m ex ey
  have h1:=h.opd hx (by simp[ex,isV])
  rw[ex]at h1
  have h2:=h.opd hy (by simp[ey,isV])
  rw[ey]at h2
  simp only[ae]at h1 h2
  obtain⟨rfl,rfl⟩:=hr
  refine aR h hp (v:=.int k (if m<n then m else n)) rfl ?_
  simp only[execOp,ho,resolve,invoke,builtin,x1Q,x0F,x02,h1,h2,Sem.run_bind,Sem.run_pure,Result.andThen_ok,run_min_int2]
 ·exact hr.elim
theorem Jj(h:SR F nt S L w0 M0 f M a w)(hp:cd nt f o.dst){x y:Opd}{x' y':Operand}{ts:Array TypeId}(ho:o.op=.call { callee:=.builtin .max,args:=#[x',y'],argTypes:=ts })(hx:ao F x x'=true)(hy:ao F y y'=true)
  (hr:res f (·=d) (.mx x y)):o.wp P a w (co F nt S L w0 M0 f o.dst d) Q:=by
 simp only[res]at hr
 split at hr
 ·rename_i k n k' m ex ey
  have h1:=h.opd hx (by simp[ex,isV])
  rw[ex]at h1
  have h2:=h.opd hy (by simp[ey,isV])
  rw[ey]at h2
  simp only[ae]at h1 h2
  obtain⟨rfl,rfl⟩:=hr
  refine aR h hp (v:=.int k (if n<m then m else n)) rfl ?_
  simp only[execOp,ho,resolve,invoke,builtin,x1Q,x0F,x02,h1,h2,Sem.run_bind,Sem.run_pure,Result.andThen_ok,run_max_int2]
 ·exact hr.elim
end
end Go.Gv

namespace Go.Gv
variable[Drw]
open Go.RowKit
section
variable{F:Fid}{M:Mem}{ρ:Pa->Loc}{ω:Nat->Option Pa}{w w':World}{f:Nat->D}{a:Act}{L:Ln}{nt:Nat}{S:Nat->Prop}{w0:World}{M0:Mem}
theorem SR.fill(h:SR F nt S L w0 M0 f M a w)(ho:Own F L (fun k=>S k\/w0.heap.size<=k) f M a w ρ ω){b sz:Nat}{es es':List (List D)}{us:List Value}{T:TypeId}(hf:f b=.blk sz es)(hω:ω (ρ (.r b)).blk=some (.r b))(hrows:fU w (ρ (.r b)) sz es (fun i off d v=>cE F M ω ρ w b i off d v))(hl:es'.length<=es.length)(hu:∀e∈es',e.length=sz/\∀c∈e,aA c=true)
  (hch:Ch (fun k=>k=(ρ (.r b)).blk) w w') (hcell:w'.heap[(ρ (.r b)).blk]? = some (.cells us.toArray T (0,0))) (hus:us.length=(ρ (.r b)).len)
  (hrep:∀i r off d,es'[i]? = some r->r[off]? = some d->∃u,us[(ρ (.r b)).base+i*sz+off]? = some u/\ae F M d u) :
  ∃ρ' ω',Own F L (fun k=>S k\/w0.heap.size<=k) (eff [(b,.blk sz es')] [] f) M a w' ρ' ω'/\ρ'=ρ/\SR F nt S L w0 M0 (eff [(b,.blk sz es')] [] f) M a w':=by
 have hb:=ho.big hf
 obtain⟨g0,vs,T0,h1,h2,h3,h4,h5⟩:=id hrows
 have hnew:=ho.new _ _ hω
 have hfb:eff [(b,.blk sz es')] [] f b=.blk sz es':=aP (by simp)
 have lk:∀s,s≠b->[(b,D.blk sz es')].lookup s=none:=fun s h1=>by
  have e1:(s==b)=false:=by simpa using h1
  simp only[x0l,e1,x0V]
 have hMb:∀p:Addr,p.block=(ρ (.r b)).blk->M p=none:=fun p hp=>ho.apart p (.r b) (by rw[hp];exact hω)
 have hinj:∀p p' q:Pa,(fun p:Pa=>if p=.r b then some (Pa.r b) else none) p=some q->(fun p:Pa=>if p=.r b then some (Pa.r b) else none) p'=some q->p=p':=fun p p' q e1 e2=>by
  dsimp only at e1 e2
  split at e1
  ·split at e2
   ·simp_all
   ·cases e2
  ·cases e1
 have hm:mvρ b ρ ρ=ρ:=by funext p;unfold mvρ;split<;>rfl
 have key:Own F L (fun k=>S k\/w0.heap.size<=k) (eff [(b,.blk sz es')] [] f) M a w' (mvρ b ρ ρ) (mvω b none (fun p=>if p=.r b then some (.r b) else none) ω):=ho.move (b:=b) (nb:=none) (π:=fun p=>if p=.r b then some (.r b) else none) (ρb:=ρ) (ks:=[]) hinj (fun p q hq=>?_) (fun k e=>(by cases e)) hch.size (fun p hp hne=>absurd rfl hne) (Mem.le_refl _) ho.apart (fun s hs=>?_) (fun k q hk hqb _=>hch.block k (ho.lt _ _ hk) (by rintro rfl;rw[hω]at hk;cases hk;exact hqb rfl)) (fun c hc hcb=>?_) (fun _ _=>.inl ⟨sz,_,hfb,?_⟩) (fun l' e _=>⟨rfl,by rw[hf];rfl⟩)
 rotate_left
 ·split at hq
  ·cases hq;exact .inl rfl
  ·cases hq
 ·left
  rcases bO (f:=f) (ks:=[]) (lk s (by omega))with h2|h2
  ·exact .inl h2
  ·exact .inr ⟨h2.1,rfl,h2.2⟩
 ·exact ca (lk c hcb)
 ·have hnn:∀k:Nat,(none:Option Nat)≠some k:=fun k e=>by cases e
  have hρb:mvρ b ρ ρ (.r b)=ρ (.r b):=by simp[mvρ,Pa.root]
  have hωb:mvω b none (fun p=>if p=.r b then some (.r b) else none) ω (ρ (.r b)).blk=some (.r b):=gy (hnn _) hω (by simp) hinj
  refine .inr ⟨by rw[hρb];exact hωb,?_⟩
  rw[hρb]
  have h6:es'.length*sz<=es.length*sz:=x0q _ hl
  refine⟨g0,_,T,hcell,hus,by omega,fun e he=>(hu e he).1,fun i r off d hi hr=>?_⟩
  ·obtain⟨u,k1,k2⟩:=hrep i r off d hi hr
   exact⟨u,k1,by show cE _ _ _ _ _ _ _ _ d u;rw[bx (cQ ((hu r (x0g hi)).2 d (x0g hr)))];exact k2⟩
 rw[hm]at key
 refine⟨_,_,key,rfl,{ hnt:=h.hnt,size:=h.size,defers:=h.defers,ch:=h.ch.trans hch (fun k hk e=>by rcases hnew with h7|h7;rw[e];exact h7;omega),holds:=fun p v hp=>?_,ext:=h.ext,fresh:=h.fresh,own:=⟨_,_,key⟩ }⟩
 have hne:p.block≠(ρ (.r b)).blk:=fun e=>by rw[hMb p e]at hp;cases hp
 have h8:=h.holds p v hp
 rw[World.cell?_of_block (hch.block _ (World.block_lt_of_cell? w p h8) hne)]
 exact h8
theorem SR.putW(h:SR F nt S L w0 M0 f M a w)(ho:Own F L (fun k=>S k\/w0.heap.size<=k) f M a w ρ ω){t:Nat}(ht:t<nt){d:D}{v:Value}(r:bC F M ρ d v):SR F nt S L w0 M0 (eff [(t,d)] [] f) M (a.put (some t) v) w where
 hnt:=h.hnt
 size:=by simp[Act.put,h.size]
 defers:=by simp[Act.put,h.defers]
 ch:=h.ch
 holds:=h.holds
 ext:=h.ext
 fresh:=h.fresh
 own:=⟨ρ,ω,ho.put (by rw[h.size];exact ht) (by have:=h.hnt;omega) r⟩
end
end Go.Gv

namespace Go.Gv
variable[Drw]
open Go.RowKit
section
variable{F:Fid}{M:Mem}{ρ:Pa->Loc}{ω:Nat->Option Pa}{w w':World}{f:Nat->D}{a:Act}{L:Ln}{nt:Nat}{S:Nat->Prop}{w0:World}{M0:Mem}
theorem F6(a:Act)(t:Nat)(v:Value):(a.put (some t) v).put (some t) v=a.put (some t) v:=by
 simp[Act.put]
theorem Mi{t b c:Nat}{d x:D}{g:Nat->D}(hg:∀s,s≠t->s≠b->s≠c->g s=f s):eff [(t,d),(b,x),(c,.any)] [(b,true)] g=eff [(t,d),(b,x),(c,.any)] [(b,true)] f:=by
 funext s
 unfold eff
 by_cases e1:s=t
 ·subst e1;simp
 ·by_cases e2:s=b
  ·subst e2
   have:(s==t)=false:=by simpa using e1
   simp[x0l,this]
  ·by_cases e3:s=c
   ·subst e3
    have h1:(s==t)=false:=by simpa using e1
    have h2:(s==b)=false:=by simpa using e2
    simp[x0l,h1,h2]
   ·have h1:(s==t)=false:=by simpa using e1
    have h2:(s==b)=false:=by simpa using e2
    have h3:(s==c)=false:=by simpa using e3
    simp only[x0l,h1,h2,h3,x0V]
    rw[hg s e1 e2 e3]
theorem SR.eatSame(h:SR F nt S L w0 M0 f M a w)(ho:Own F L (fun k=>S k\/w0.heap.size<=k) f M a w ρ ω){b sz:Nat}{es es':List (List D)}{us:List Value}{T:TypeId}(hf:f b=.blk sz es)(hω:ω (ρ (.r b)).blk=some (.r b))(hrows:fU w (ρ (.r b)) sz es (fun i off d v=>cE F M ω ρ w b i off d v))(hl:es'.length<=es.length)(hu:∀e∈es',e.length=sz/\∀c∈e,aA c=true)
  (hch:Ch (fun k=>k=(ρ (.r b)).blk) w w') (hcell:w'.heap[(ρ (.r b)).blk]? = some (.cells us.toArray T (0,0))) (hus:us.length=(ρ (.r b)).len)
  (hrep:∀i r off d,es'[i]? = some r->r[off]? = some d->∃u,us[(ρ (.r b)).base+i*sz+off]? = some u/\ae F M d u)
  {t b':Nat} (ht:t<nt) (hb0:10000<=b') (hL:L b'=none) (hbc:b'≠b) {v:Value} (hv:aC F M ρ (.ref (.r b) 0 es'.length) v) :
  SR F nt S L w0 M0 (eff [(t,.ref (.r b') 0 es'.length),(b',.blk sz es'),(b,.any)] [(b',true)] f) M (a.put (some t) v) w':=by
 obtain⟨ρ',ω',hO',rfl,hs⟩:=h.fill ho hf hω hrows hl hu hch hcell hus hrep
 have h1:=hs.putW hO' ht (d:=.ref (.r b) 0 es'.length) (v:=v) (by rw[az rfl];exact hv)
 have hb:=ho.big hf
 have ht10:t<10000:=by have:=h.hnt;omega
 have hbt:b≠t:=by omega
 have e1:(b==t)=false:=by simpa using hbt
 have hf1:eff [(t,D.ref (.r b) 0 es'.length)] [] (eff [(b,.blk sz es')] [] f) b=.blk sz es':=by
  simp[eff,x0l,e1,aN]
 have h2:=h1.asg ht hb0 hL hbc hf1 (k:=0) (n:=es'.length) (v:=v) (fun ρ2 ω2 hO2=>by
  have h3:=hO2.slots t ht10
  have e2:eff [(t,D.ref (.r b) 0 es'.length)] [] (eff [(b,.blk sz es')] [] f) t=.ref (.r b) 0 es'.length:=aP (by simp)
  rcases h3 with h3|⟨v2,h3,h4⟩
  ·rw[e2]at h3;cases h3
  ·rw[getElem?_put_same (by rw[h.size];exact ht)]at h3
   cases h3
   rw[e2,az rfl]at h4
   exact h4)
 rw[F6]at h2
 rwa[Mi (f:=f) (fun s s1 s2 s3=>by
  have e3:(s==t)=false:=by simpa using s1
  have e4:(s==b)=false:=by simpa using s3
  simp[eff,x0l,e3,e4,aN])]at h2
def fu(F:Fid)(M:Mem)(w w':World)(sz:Nat)(es:List (List D))(v:Value):Prop :=
 ∃(B o:Nat) (T:TypeId) (us:List Value) (cap:Nat),v=.slice (some ⟨B,o,none⟩) es.length cap/\w.heap.size<=B/\w'.heap[B]? = some (.cells us.toArray T (0,0))/\es.length<=cap/\(o+cap*sz<=us.length/\cap<=9223372036854775807) /\
  ∀i r off d,es[i]? = some r->r[off]? = some d->∃u,us[o+i*sz+off]? = some u/\ae F M d u
theorem SR.newRow(h:SR F nt S L w0 M0 f M a w){b sz:Nat}{es':List (List D)}{v:Value}(hu:∀e∈es',e.length=sz/\∀c∈e,aA c=true)(hb:Bel w w')(hn:fu F M w w' sz es' v){t b':Nat}(ht:t<nt)(hb0:10000<=b')(hL:L b'=none)(hbc:b'≠b)(hb1:10000<=b) :
  SR F nt S L w0 M0 (eff [(t,.ref (.r b') 0 es'.length),(b',.blk sz es'),(b,.any)] [(b',true)] f) M (a.put (some t) v) w':=by
 obtain⟨B,o,T,us,cap,rfl,hB,hh,hcap,⟨hlen,hmc⟩,hrep⟩:=hn
 have hle:o+es'.length*sz<=us.length:=by
  have:=x0q sz hcap
  omega
 have h1:=h.makeAt (t:=t) (b:=b') (B:=B) (o:=o) (bs:=[]) (es:=es') (sz:=sz) (src:=fun _ _=>none) (vs:=us) (T:=T) (d:=.ref (.r b') 0 es'.length) (v:=.slice (some ⟨B,o,none⟩) es'.length cap) ht hb0 hL hb hB hh hle (fun e he=>(hu e he).1)
  (fun i r off c hi hr=>by
   obtain⟨u,k1,k2⟩:=hrep i r off c hi hr
   exact⟨u,k1,.inl ⟨cQ ((hu r (x0g hi)).2 c (x0g hr)),k2⟩⟩) (fun _ _ _ _ _ e=>(by cases e)) (fun _ _ _ e=>(by cases e))
  (fun ρ M e=>by
   rw[az rfl]
   simp only[aC,e]
   exact .inr ⟨cap,by simp,hcap,by simpa using hlen,hmc⟩)
 have ht10:t<10000:=by have:=h.hnt;omega
 refine h1.weak (fun s=>?_)
 by_cases e3:s=b
 ·left
  subst e3
  have q1:(s==t)=false:=by simp;omega
  have q2:(s==b')=false:=by simpa using Ne.symm hbc
  simp[eff,x0l,q1,q2]
 ·right
  have q3:(s==b)=false:=by simpa using e3
  unfold eff
  simp only[cM,x02,x0l,q3,x0V]
theorem SR.eatNew(h:SR F nt S L w0 M0 f M a w)(ho:Own F L (fun k=>S k\/w0.heap.size<=k) f M a w ρ ω){b sz:Nat}{es es':List (List D)}{us:List Value}{T:TypeId}(hf:f b=.blk sz es)(hω:ω (ρ (.r b)).blk=some (.r b))(hrows:fU w (ρ (.r b)) sz es (fun i off d v=>cE F M ω ρ w b i off d v))(hu:∀e∈es',e.length=sz/\∀c∈e,aA c=true)
  (hch:Ch (fun k=>k=(ρ (.r b)).blk) w w') (hcell:w'.heap[(ρ (.r b)).blk]? = some (.cells us.toArray T (0,0))) (hus:us.length=(ρ (.r b)).len)
  {v:Value} (hn:fu F M w w' sz es' v) {t b':Nat} (ht:t<nt) (hb0:10000<=b') (hL:L b'=none) (hbc:b'≠b) :
  SR F nt S L w0 M0 (eff [(t,.ref (.r b') 0 es'.length),(b',.blk sz es'),(b,.any)] [(b',true)] f) M (a.put (some t) v) w':=by
 have hlt:=ho.lt _ _ hω
 obtain⟨B0,hB0⟩:∃B0,B0=(ρ (.r b)).blk:=⟨_,rfl⟩
 rw[<- hB0]at hch hcell hlt
 obtain⟨w2,hw2⟩:∃w2:World,w2={ w with heap:=w.heap.setIfInBounds B0 (.cells us.toArray T (0,0)) }:=⟨_,rfl⟩
 have g1:∀k,k≠B0->w2.heap[k]? = w.heap[k]?:=fun k hk=>by
  rw[hw2];simp only[x1l];rw[if_neg (Ne.symm hk)]
 have g2:w2.heap[B0]? = some (.cells us.toArray T (0,0)):=by
  rw[hw2];simp only[x1l];simp[hlt]
 have g3:w2.heap.size=w.heap.size:=by rw[hw2];simp
 have c2:Ch (fun k=>k=B0) w w2:=⟨by rw[hw2],by rw[hw2],by rw[hw2],Nat.le_of_eq g3.symm,fun k _ hk=>g1 k hk,by rw[hw2];exact .of (x0k _)⟩
 have hb2:Bel w2 w':=⟨by rw[hch.os,hw2],by rw[hch.tape,hw2],by rw[hch.output,hw2],by rw[g3];exact hch.size,fun k hk=>by
  by_cases e:k=B0
  ·subst e;rw[g2,hcell]
  ·rw[g1 k e];exact hch.block k (by rw[<- g3];exact hk) e,by have:=hch.drawn;rw[hw2];exact this⟩
 rw[hB0]at c2 g2
 obtain⟨ρ',ω',hO',rfl,hs⟩:=h.fill ho hf hω hrows (es':=[]) (by simp) (fun e he=>by cases he) c2 g2 hus (fun i r off d hi=>by simp at hi)
 have hn2:fu F M w2 w' sz es' v:=by
  obtain⟨B,o,T,us,cap,q1,q2,q3⟩:=hn
  exact⟨B,o,T,us,cap,q1,by rw[g3];exact q2,q3⟩
 have h1:=hs.newRow (b:=b) hu hb2 hn2 ht hb0 hL hbc (ho.big hf)
 rwa[Mi (f:=f) (fun s s1 s2 s3=>by
  have e4:(s==b)=false:=by simpa using s3
  simp[eff,x0l,e4,aN])]at h1
end
end Go.Gv

namespace Go.Gv
variable[Drw]
open Go.RowKit
def Bw(P:Program)(F:Fid)(f:FuncId)(ds:List D)(d:D):Prop :=
 ∀(M:Mem) (w:World) (vs:List Value),(∀p v,M p=some v->w.cell? p=some v)->av F M ds vs ->
  Calls P f vs.toArray w (fun e w'=>∃v M',e=.returned v/\Bel w w'/\M.le M'/\(∀p,M p=none->M' p≠none->w.heap.size<=p.block) /\
   (∀p v,M' p=some v->w'.cell? p=some v)/\ae F M' d v)
def By(P:Program)(F:Fid)(f:FuncId)(ds:List D)(d:D):Prop :=
 ∀(M:Mem) (w:World) (vs:List Value),(∀p v,M p=some v->w.cell? p=some v)->av F M ds vs ->
  Calls P f vs.toArray w (fun e w'=>∃v M2,e=.returned v/\Bel w w'/\(∀p,M2 p≠none->w.heap.size<=p.block) /\
   (∀p v,M2 p=some v->w'.cell? p=some v)/\ae F M2 d v)
def Bx(P:Program)(F:Fid)(f:FuncId)(ds:List D)(sz:Nat)(es:List (List D)):Prop :=
 ∀(M:Mem) (w:World) (vs:List Value),(∀p v,M p=some v->w.cell? p=some v)->av F M ds vs ->
  Calls P f vs.toArray w (fun e w'=>(es=[]/\0<sz/\∃A:Option Addr,e=.returned (.slice A 0 0)/\Bel w w')\/∃(b o:Nat) (T:TypeId) (us:List Value) (cap:Nat),e=.returned (.slice (some ⟨b,o,none⟩) es.length cap)/\Bel w w'/\w.heap.size<=b /\
   w'.heap[b]? = some (.cells us.toArray T (0,0))/\es.length<=cap/\(o+cap*sz<=us.length/\cap<=9223372036854775807)/\(∀e∈es,e.length=sz) /\
   ∀i r off d,es[i]? = some r->r[off]? = some d->bP d=true/\∃u,us[o+i*sz+off]? = some u/\ae F M d u)
def xK(P:Program)(F:Fid)(f:FuncId)(sz:Nat)(es:List (List D))(ds:List D)(es':List (List D)):Prop :=
 ∀(M:Mem) (w:World) (vs:List Value),(∀p v,M p=some v->w.cell? p=some v)->av F M ds vs ->
  (es=[]->∀(A:Option Addr),Calls P f (.slice A 0 0::vs).toArray w (fun e w'=>e=.returned (.tuple #[])/\Bel w w')) /\
  ∀(b o:Nat) (T:TypeId) (us:List Value) (cap:Nat),(∀p:Addr,p.block=b->M p=none)->b<w.heap.size->w.heap[b]? = some (.cells us.toArray T (0,0))->es.length<=cap->o+cap*sz<=us.length->(∀e∈es,e.length=sz) ->
   (∀i r off d,es[i]? = some r->r[off]? = some d->∃u,us[o+i*sz+off]? = some u/\ae F M d u) ->
   Calls P f (.slice (some ⟨b,o,none⟩) es.length cap::vs).toArray w (fun e w'=>e=.returned (.tuple #[])/\∃us':List Value,w'.heap[b]? = some (.cells us'.toArray T (0,0))/\us'.length=us.length /\
    (∀i r off d,es'[i]? = some r->r[off]? = some d->∃u,us'[o+i*sz+off]? = some u/\ae F M d u)/\Ch (fun k=>k=b) w w')
def GV(P:Program)(F:Fid)(f:FuncId)(sz:Nat)(es:List (List D))(ds:List D)(es':List (List D)):Prop :=
 ∀(M:Mem) (w:World) (vs:List Value),(∀p v,M p=some v->w.cell? p=some v)->av F M ds vs ->
  (es=[]->∀(A:Option Addr),Calls P f (.slice A 0 0::vs).toArray w (fun e w'=>∃v,e=.returned v/\Bel w w'/\((es'=[]/\∃A,v=.slice A 0 0)\/fu F M w w' sz es' v))) /\
  ∀(b o:Nat) (T:TypeId) (us:List Value) (cap:Nat),(∀p:Addr,p.block=b->M p=none)->b<w.heap.size->w.heap[b]? = some (.cells us.toArray T (0,0))->es.length<=cap->o+cap*sz<=us.length->(∀e∈es,e.length=sz) ->
   (∀i r off d,es[i]? = some r->r[off]? = some d->∃u,us[o+i*sz+off]? = some u/\ae F M d u) ->
   Calls P f (.slice (some ⟨b,o,none⟩) es.length cap::vs).toArray w (fun e w'=>∃v,e=.returned v/\∃us':List Value,w'.heap[b]? = some (.cells us'.toArray T (0,0))/\us'.length=us.length/\Ch (fun k=>k=b) w w' /\
    ((v=.slice (some ⟨b,o,none⟩) es'.length cap/\es'.length<=es.length/\∀i r off d,es'[i]? = some r->r[off]? = some d->∃u,us'[o+i*sz+off]? = some u/\ae F M d u)\/fu F M w w' sz es' v))
def HK(F:Fid)(M:Mem)(w:World)(b:Option Nat):D->Value->Prop
 | .own sz es,v=>(es=[]/\∃A,v=.slice A 0 0)\/∃(B o:Nat) (T:TypeId) (us:List Value) (cap:Nat),v=.slice (some ⟨B,o,none⟩) es.length cap/\b≠some B/\w.heap[B]? = some (.cells us.toArray T (0,0))/\es.length<=cap/\o+cap*sz<=us.length /\
   ∀i r off d,es[i]? = some r->r[off]? = some d->∃u,us[o+i*sz+off]? = some u/\ae F M d u
 | d,v=>ae F M d v
def og(F:Fid)(M:Mem)(w:World)(b:Option Nat)(ds:List D)(vs:List Value):Prop :=
 ds.length=vs.length/\∀(i:Nat) (d:D) (v:Value),ds[i]? = some d->vs[i]? = some v->HK F M w b d v
def Lk(F:Fid)(M:Mem)(w w':World)(sz:Nat)(es':List (List D))(b:Nat)(v:Value):Prop :=
 (es'=[]/\∃A,v=.slice A 0 0)\/(∃(o2 cap2:Nat) (T2:TypeId) (us2:List Value),v=.slice (some ⟨b,o2,none⟩) es'.length cap2/\w'.heap[b]? = some (.cells us2.toArray T2 (0,0))/\es'.length<=cap2/\cap2<=9223372036854775807/\o2+cap2*sz<=us2.length /\
  ∀i r off d,es'[i]? = some r->r[off]? = some d->∃u,us2[o2+i*sz+off]? = some u/\ae F M d u)\/fu F M w w' sz es' v
def xJ(P:Program)(F:Fid)(f:FuncId)(sz:Nat)(es:List (List D))(ds:List D)(es':List (List D)):Prop :=
 ∀(M:Mem) (w:World) (vs:List Value),(∀p v,M p=some v->w.cell? p=some v) ->
  (es=[]->∀(A:Option Addr),og F M w none ds vs->Calls P f (.slice A 0 0::vs).toArray w (fun e w'=>∃v,e=.returned v/\Bel w w'/\((es'=[]/\∃A,v=.slice A 0 0)\/fu F M w w' sz es' v))) /\
  ∀(b o:Nat) (T:TypeId) (us:List Value) (cap:Nat),og F M w (some b) ds vs->(∀p:Addr,p.block=b->M p=none)->b<w.heap.size->w.heap[b]? = some (.cells us.toArray T (0,0))->es.length<=cap->cap<=9223372036854775807->o+cap*sz<=us.length->(∀e∈es,e.length=sz) ->
   (∀i r off d,es[i]? = some r->r[off]? = some d->∃u,us[o+i*sz+off]? = some u/\ae F M d u) ->
   Calls P f (.slice (some ⟨b,o,none⟩) es.length cap::vs).toArray w (fun e w'=>∃v,e=.returned v/\Ch (fun k=>k=b) w w'/\Lk F M w w' sz es' b v)
def sF(P:Program)(F:Fid)(f:FuncId)(sz:Nat)(es:List (List D))(ds:List D)(es':List (List D)):Prop :=
 ∀(M:Mem) (w:World) (vs:List Value),(∀p v,M p=some v->w.cell? p=some v) ->
  (es=[]->∀(A:Option Addr),og F M w none ds vs->Calls P f (.slice A 0 0::vs).toArray w (fun e w'=>∃v,e=.returned v/\Bel w w'/\((es'=[]/\∃A,v=.slice A 0 0)\/fu F M w w' sz es' v))) /\
  ∀(b o:Nat) (T:TypeId) (us:List Value) (cap:Nat),og F M w (some b) ds vs->(∀p:Addr,p.block=b->M p=none)->b<w.heap.size->w.heap[b]? = some (.cells us.toArray T (0,0))->es.length<=cap->cap<=9223372036854775807->o+cap*sz<=us.length->(∀e∈es,e.length=sz) ->
   (∀i r off d,es[i]? = some r->r[off]? = some d->∃u,us[o+i*sz+off]? = some u/\ae F M d u) ->
   Calls P f (.slice (some ⟨b,o,none⟩) es.length cap::vs).toArray w (fun e w'=>∃v,e=.returned v/\∃us':List Value,w'.heap[b]? = some (.cells us'.toArray T (0,0))/\us'.length=us.length/\Ch (fun k=>k=b) w w' /\
    ((v=.slice (some ⟨b,o,none⟩) es'.length cap/\es'.length<=cap/\∀i r off d,es'[i]? = some r->r[off]? = some d->∃u,us'[o+i*sz+off]? = some u/\ae F M d u)\/fu F M w w' sz es' v))
theorem sF.to{P:Program}{F:Fid}{f:FuncId}{sz:Nat}{es:List (List D)}{ds:List D}{es':List (List D)}(h:sF P F f sz es ds es'):xJ P F f sz es ds es':=by
 intro M w vs hh
 refine⟨(h M w vs hh).1,fun b o T us cap r hM hb hcell hcap hmc hle hu hc=>((h M w vs hh).2 b o T us cap r hM hb hcell hcap hmc hle hu hc).mono ?_⟩
 rintro e w' ⟨v,rfl,us',h1,h2,h3,⟨rfl,h4,h5⟩|h4⟩
 ·exact⟨_,rfl,h3,.inr (.inl ⟨o,cap,T,us',rfl,h1,h4,hmc,by rw[h2];exact hle,h5⟩)⟩
 ·exact⟨_,rfl,h3,.inr (.inr h4)⟩
structure ui (F:Fid) (M:Mem) (w:World) (ρ:Pa->Loc) (ω:Nat->Option Pa) (b sz:Nat) (es:List (List D)):Prop where
 own:ω (ρ (.r b)).blk=some (.r b)
 rows:dg F M ω ρ w b sz es
 lt:∀k p,ω k=some p->k<w.heap.size
 root:∀k p,ω k=some p->p.root=b
 apart:∀(p:Addr) (q:Pa),ω p.block=some q->M p=none
def ap:Nat:=10015
def Bz(P:Program)(F:Fid)(f:FuncId)(sz:Nat)(es:List (List D))(ds:List D)(d:D)(es':List (List D)):Prop :=
 ∀(M:Mem) (w:World) (vs:List Value) (ρ:Pa->Loc) (ω:Nat->Option Pa),(∀p v,M p=some v->w.cell? p=some v)->av F M ds vs->ui F M w ρ ω ap sz es ->
  Calls P f (.pointer (some ⟨(ρ (.r ap)).blk,(ρ (.r ap)).base,none⟩)::vs).toArray w (fun e w'=>∃v M' ρ' ω',e=.returned v/\Ch (fun k=>∃p,ω k=some p) w w'/\M.le M'/\(∀p,M p=none->M' p≠none->(∃q,ω p.block=some q)\/w.heap.size<=p.block) /\
   (∀p v,M' p=some v->w'.cell? p=some v)/\ae F M' d v/\ρ' (.r ap)=ρ (.r ap)/\ui F M' w' ρ' ω' ap sz es'/\∀k p,ω' k=some p->(∃q,ω k=some q)\/w.heap.size<=k)
def ul(P:Program)(F:Fid)(f:FuncId)(sz:Nat)(es:List (List D))(W:List D)(d:D)(es':List (List D)):Prop :=
 ∀(M:Mem) (w:World) (vs:List Value) (ρ:Pa->Loc) (ω:Nat->Option Pa),(∀p v,M p=some v->w.cell? p=some v)->vs.length=W.length->(∀(i:Nat) (d:D) (v:Value),W[i]? = some d->vs[i]? = some v->bC F M ρ d v)->ui F M w ρ ω ap sz es ->
  Calls P f vs.toArray w (fun e w'=>∃v M' ρ' ω',e=.returned v/\Ch (fun k=>∃p,ω k=some p) w w'/\M.le M'/\(∀p,M p=none->M' p≠none->(∃q,ω p.block=some q)\/w.heap.size<=p.block) /\
   (∀p v,M' p=some v->w'.cell? p=some v)/\ae F M' d v/\ρ' (.r ap)=ρ (.r ap)/\ui F M' w' ρ' ω' ap sz es'/\∀k p,ω' k=some p->(∃q,ω k=some q)\/w.heap.size<=k)
structure xI (F:Fid) (M:Mem) (w:World) (ρ:Pa->Loc) (ω:Nat->Option Pa) (b sz1:Nat) (es1:List (List D)) (c sz2:Nat) (es2:List (List D)):Prop where
 own1:ω (ρ (.r b)).blk=some (.r b)
 own2:ω (ρ (.r c)).blk=some (.r c)
 rows1:dg F M ω ρ w b sz1 es1
 rows2:dg F M ω ρ w c sz2 es2
 lt:∀k p,ω k=some p->k<w.heap.size
 root:∀k p,ω k=some p->p.root=b\/p.root=c
 apart:∀(p:Addr) (q:Pa),ω p.block=some q->M p=none
def br:Nat:=10031
def BB(P:Program)(F:Fid)(f:FuncId)(sz1:Nat)(es1:List (List D))(sz2:Nat)(es2:List (List D))(W:List D)(d:D)(es1' es2':List (List D)):Prop :=
 ∀(M:Mem) (w:World) (vs:List Value) (ρ:Pa->Loc) (ω:Nat->Option Pa),(∀p v,M p=some v->w.cell? p=some v)->vs.length=W.length->(∀(i:Nat) (d:D) (v:Value),W[i]? = some d->vs[i]? = some v->bC F M ρ d v)->xI F M w ρ ω ap sz1 es1 br sz2 es2 ->
  Calls P f vs.toArray w (fun e w'=>∃v M' ρ' ω',e=.returned v/\Ch (fun k=>∃p,ω k=some p) w w'/\M.le M'/\(∀p,M p=none->M' p≠none->(∃q,ω p.block=some q)\/w.heap.size<=p.block) /\
   (∀p v,M' p=some v->w'.cell? p=some v)/\ae F M' d v/\ρ' (.r ap)=ρ (.r ap)/\ρ' (.r br)=ρ (.r br)/\xI F M' w' ρ' ω' ap sz1 es1' br sz2 es2'/\∀k p,ω' k=some p->(∃q,ω k=some q)\/w.heap.size<=k)
def xA:D->List Value->Value->Prop
 | .agg _,vs,v=>v=.agg vs.toArray
 | .tup _,vs,v=>v=.tuple vs.toArray
 | _,vs,v=>vs=[v]
def Bv(P:Program)(F:Fid)(f:FuncId)(ds:List D)(R:D):Prop :=
 ∀(M:Mem) (w:World) (vs:List Value),(∀p v,M p=some v->w.cell? p=some v)->av F M ds vs ->
  Calls P f vs.toArray w (fun e w'=>∃v M' ρ ω us,e=.returned v/\Bel w w'/\M.le M'/\(∀p,M p=none->M' p≠none->w.heap.size<=p.block)/\(∀p v,M' p=some v->w'.cell? p=some v) /\
   xA R us v/\df F M' ρ (bU 0 1 (j7 R)) us/\(∀b sz es,(b,D.blk sz es)∈aS 0 R->dg F M' ω ρ w' b sz es)/\(∀k p,ω k=some p->w.heap.size<=k/\k<w'.heap.size/\∃x,(p.root,x)∈aS 0 R)/\(∀(p:Addr) (q:Pa),ω p.block=some q->M' p=none))
structure bQ (P:Program) (F:Fid) (C:Nat->List D->D->List D->Prop):Prop where
 runs:∀g f ds d,F g=some f->C g ds d []->Bw P F f ds d
 runsF:∀g f ds sz es,F g=some f->C g ds .any [.own sz es]->Bx P F f ds sz es
 runsS:∀g f sz es ds es',F g=some f->C g (.own sz es::ds) .any [.own sz es',.nilp]->xK P F f sz es ds es'
 runsR:∀g f sz es ds es',F g=some f->C g (.own sz es::ds) .any [.own sz es',.nils]->GV P F f sz es ds es'
 runsI:∀g f sz es ds es',F g=some f->C g (.own sz es::ds) .any [.own sz es',.nils,.nils]->xJ P F f sz es ds es'
 runsG:∀g f ds d,F g=some f->C g ds d [.nilp]->By P F f ds d
 runsA:∀g f ds R,F g=some f->C g ds R [.nils]->Bv P F f ds R
 runsL:∀g f sz es ds d es',F g=some f->C g (.blk sz es::ds) d [.blk sz es']->Bz P F f sz es ds d es'
 runsM:∀g f sz es W d es',F g=some f->C g (.blk sz es::W) d [.blk sz es',.nilp]->ul P F f sz es W d es'
 runsX:∀g f sz1 es1 sz2 es2 W d es1' es2',F g=some f->C g (.blk sz1 es1::.blk sz2 es2::W) d [.blk sz1 es1',.blk sz2 es2',.nilp]->BB P F f sz1 es1 sz2 es2 W d es1' es2'
 runsQ:∀g f sz es W d es',F g=some f->C g (.blk sz es::W) d [.blk sz es',.nils]->∀vals:Nat->Value,ul P { F with vals:=vals } f sz es W d es'
 body:∀g f,F g=some f->oz P f=true
 laid:laidOutB F.P=true
 prog:P=F.P
def bB(ω:Nat->Option Pa)(M:Mem)(w:World):Mem:=fun p=>match ω p.block with
 | some _=>w.cell? p
 | none=>M p
section
variable{P:Program}{F:Fid}{C:Nat->List D->D->List D->Prop}{nt:Nat}{S:Nat->Prop}{L:Ln}{w0:World}{M0:Mem}{f:Nat->D}{M:Mem}{a:Act}{w:World}{o:Oper}{d:D}{Q:Exit->Act->World->Prop}{ρ:Pa->Loc}{ω:Nat->Option Pa}{New:Nat->Prop}{K:List (Nat×D)->List (Nat×Bool)->Prop}
theorem cF(ho:Own F L New f M a w ρ ω):M.le (bB ω M w):=by
 intro p v hp
 unfold bB
 split
 ·rename_i q hq
  rw[ho.apart p q hq]at hp;cases hp
 ·exact hp
theorem cw(hh:∀p v,M p=some v->w.cell? p=some v):∀p v,bB ω M w p=some v->w.cell? p=some v:=by
 intro p v hp
 unfold bB at hp
 split at hp
 ·exact hp
 ·exact hh p v hp
theorem oe{q:Pa}{b o:Nat}{vs:List Value}{T:TypeId}(hb:ω b=some q)(hw:w.heap[b]? = some (.cells vs.toArray T (0,0))):cI (bB ω M w) ⟨b,o,none⟩ (vs.drop o):=by
 intro j v hj
 rw[dy]
 unfold bB
 simp only[hb]
 rw[x0v]at hj
 simp[World.cell?,hw,hj]
theorem aZ.of_rows{sz:Nat}:∀{es:List (List D)} {vs:List Value},(∀e∈es,e.length=sz)->vs.length=es.length*sz->(∀(i:Nat) (r:List D) (off:Nat) (d:D),es[i]? = some r->r[off]? = some d->∃u,vs[i*sz+off]? = some u/\ae F M d u)->aZ F M es vs
 | [],vs,_,hl,_=>by simp only[aZ];exact x0G (by simpa using hl)
 | e::es,vs,hu,hl,h=>by
  have he:=hu e (by simp)
  simp only[x0T,x04]at hl
  simp only[aZ]
  refine⟨vs.take sz,vs.drop sz,(List.take_append_drop _ _).symm,av.of_forall' (by simp;omega) (fun i d v h1 h2=>?_),aZ.of_rows (fun x hx=>hu x (by simp[hx])) (by simp;omega) (fun i r off d h1 h2=>?_)⟩
  ·obtain⟨u,k1,k2⟩:=h 0 e i d rfl h1
   rw[x1g]at h2
   split at h2
   ·simp at k1;rw[h2]at k1;cases k1;exact k2
   ·cases h2
  ·obtain⟨u,k1,k2⟩:=h (i+1) r off d (by simpa using h1) h2
   refine⟨u,?_,k2⟩
   rw[x0v,<- k1]
   congr 1
   rw[x04];omega
theorem sq{p:Pa}{sz:Nat}{es:List (List D)}{R:Nat->Nat->D->Value->Prop}(h:cB ω ρ w p sz es R)(g:D->D)(hg:∀i r off d v,es[i]? = some r->r[off]? = some d->R i off d v->ae F (bB ω M w) (g d) v){k n:Nat}(hkn:k+n<=es.length){v:Value}(hv:aC F M ρ (.ref p k n) v) :
  ae F (bB ω M w) (.sl (((es.drop k).take n).map fun e=>e.map g)) v:=by
 have hlen:(((es.drop k).take n).map fun e=>e.map g).length=n:=by simp;omega
 simp only[ae,hlen]
 have nil:∀A,n=0->v=.slice A 0 0->∃(A:Option Addr) (cap:Nat) (vs:List Value) (sz:Nat),v=.slice A n cap/\n<=cap/\aZ F (bB ω M w) (((es.drop k).take n).map fun e=>e.map g) vs /\
   (∀e∈((es.drop k).take n).map fun e=>e.map g,e.length=sz)/\(0<n->∃a,A=some a/\cI (bB ω M w) a vs):=by
  rintro A rfl rfl
  exact⟨A,0,[],0,rfl,x0k _,by simp[aZ],by simp,fun h=>absurd h (by omega)⟩
 simp only[aC]at hv
 rcases hv with ⟨hn,A,hv⟩|⟨cap,hv,hcap,hfit,hmc⟩
 ·exact nil A hn hv
 ·rcases h with ⟨he,_⟩|⟨hω,h0,vs,T,h1,h2,h3,h4,h5⟩
  ·have:n=0:=by rw[he]at hkn;simp at hkn;omega
   subst this
   exact⟨_,cap,[],0,hv,hcap,by simp[aZ],by simp,fun h=>absurd h (by omega)⟩
  ·rw[h0]at hfit hv
   have e1:(k+cap)*sz=k*sz+cap*sz:=x0I _ _ _
   have e2:n*sz<=cap*sz:=x0q _ hcap
   refine⟨_,cap,(vs.drop ((ρ p).base+k*sz)).take (n*sz),sz,hv,hcap,aZ.of_rows (sz:=sz) (fun e he=>?_) (by rw[hlen];simp;omega) (fun i r off d hi hr=>?_),fun e he=>?_,fun _=>⟨_,rfl,(oe hω h1).take _⟩⟩
   ·obtain⟨e',he',rfl⟩:=x0w.1 he
    simpa using h4 e' (x1f (x0O he'))
   ·rw[x0z,x0p]at hi
    obtain⟨r',hi,rfl⟩:=hi
    rw[x0z,x0p]at hr
    obtain⟨d',hr,rfl⟩:=hr
    have hin:i<n:=by have:=(x0d.1 hi).1;simp at this;omega
    rw[x0D hin,x0v]at hi
    obtain⟨u,k1,k2⟩:=h5 (k+i) r' off d' hi hr
    have hof:off<sz:=by rw[<- h4 r' (x0g hi)];exact(x0d.1 hr).1
    refine⟨u,?_,hg _ _ _ _ _ hi hr k2⟩
    rw[getElem?_slice (gl hin hof),<- k1,x0I]
    congr 1
    omega
   ·obtain⟨e',he',rfl⟩:=x0w.1 he
    simpa using h4 e' (x1f (x0O he'))
theorem wu(h:isO d=false):bq d=d:=by cases d<;>first|rfl|(simp[isO]at h)
theorem nx(ho:Own F L New f M a w ρ ω){p:Pa}{i off:Nat}{v:Value}(h:pu F M ω ρ w p i off d v):ae F (bB ω M w) (bq d) v:=by
 cases p with
 | r b =>
  cases d
  case own sz es =>
   obtain⟨h1,h2⟩:=h
   have:=sq (F:=F) (M:=M) h2 (fun d=>d) (fun _ _ _ d v _ _ hr=>ae.mono (cF ho) d v hr) (k:=0) (n:=es.length) (by omega) h1
   simpa[bq]using this
  all_goals exact ae.mono (cF ho) _ _ h
 | n b i' o' =>
  have h':ae F M d v:=h
  rw[wu (by cases d<;>first|rfl|(simp[ae]at h'))]
  exact ae.mono (cF ho) _ _ h'
theorem EY(ho:Own F L New f M a w ρ ω){v:Value}(h:aC F M ρ d v)(hk:bA f d)(hp:∀p,(∃k n,d=.ref p k n)\/(∃i off,d=.adr p i off)->10000<=p.root):ae F (bB ω M w) (dp1 f d) v:=by
 cases d
 case ref p k n =>
  simp only[bA]at hk
  split at hk
  ·rename_i sz es hg
   simp only[dp1,hg]
   exact sq (ho.get (hp p (.inl ⟨k,n,rfl⟩)) hg).1 bq (fun i r off d v _ _ hr=>nx ho hr) hk h
  ·exact hk.elim
 case adr p i off =>
  simp only[bA]at hk
  split at hk
  ·rename_i x hg
   obtain⟨sz,es⟩:=x
   simp only[dp1,hg]
   simp only[aC]at h
   simp only[ae]
   cases hi:es[i]? with
   | none=>exact⟨_,[],h,by simp[av],by intro j v hj;simp at hj⟩
   | some r =>
    obtain⟨vs,T,hω,h0,hl,h1,h2,h3,h4⟩:=ho.row (hp p (.inr ⟨i,off,rfl⟩)) hg hi
    rw[h0]at h
    refine⟨_,(vs.drop ((ρ p).base+i*sz+off)).take (sz-off),h,av.of_forall' ?_ (fun j d v e1 e2=>?_),(oe hω h1).take _⟩
    ·simp;omega
    ·simp only[x1p]at e1
     rw[x0z,x0p]at e1
     obtain⟨d',e1,rfl⟩:=e1
     rw[x0v]at e1
     obtain⟨u,k1,k2⟩:=h4 _ _ e1
     rw[x1g]at e2
     split at e2
     ·rw[x0v,x0Y]at e2
      rw[x0Y]at k1
      rw[x0Y]at e2
      rw[k1]at e2;cases e2
      exact nx ho k2
     ·cases e2
  ·exact hk.elim
 case mrf b=>exact hk.elim
 case ifa T p i off=>exact hk.elim
 all_goals first|exact ae.mono (cF ho) _ _ h|(simp[aC,ae]at h)
theorem ma(ho:Own F L New f M a w ρ ω){v:Value}(h:aC F M ρ d v)(hk:bA f d):ae F (bB ω M w) (dp1 f d) v:=by
 refine EY ho h hk ?_
 rintro p (⟨k,n,rfl⟩|⟨i,off,rfl⟩)
 ·simp only[bA]at hk
  split at hk
  ·rename_i e;exact cY ho e
  ·exact hk.elim
 ·simp only[bA]at hk
  split at hk
  ·rename_i e;exact cY ho e
  ·exact hk.elim
theorem mc(ho:Own F L New f M a w ρ ω){ds:List D}{vs:List Value}(h:df F M ρ ds vs)(hk:∀d∈ds,bA f d):av F (bB ω M w) (ds.map (dp1 f)) vs :=
 av.of_forall' (by simpa using h.1) (fun i d v h1 h2=>by
  rw[x0z,x0p]at h1
  obtain⟨d',h1,rfl⟩:=h1
  exact ma ho (h.2 i d' v h1 h2) (hk d' (x0g h1)))
theorem Ck(ho:Own F L New f M a w ρ ω){v:Value}(h:bC F M ρ d v)(hk:bW f d):ae F (bB ω M w) (dp f d) v:=by
 cases d
 case agx ds =>
  obtain⟨vs,rfl,r⟩:=h
  simp only[dp,ae]
  exact⟨vs,rfl,mc ho r hk⟩
 case tpx ds =>
  obtain⟨vs,rfl,r⟩:=h
  simp only[dp,ae]
  exact⟨vs,rfl,mc ho r hk⟩
 case ptx ds =>
  obtain⟨a,vs,rfl,r,c⟩:=h
  simp only[dp,ae]
  exact⟨a,vs,rfl,mc ho r hk,c.mono (cF ho)⟩
 case rfx n sz ds=>exact hk.elim
 case fny g ds cs=>exact hk.elim
 case fnx g cs =>
  obtain⟨fi,vs,hg,rfl,r⟩:=h
  simp only[dp,ae]
  exact⟨fi,vs,hg,rfl,mc ho r hk⟩
 all_goals (rw[az rfl]at h;exact ma ho h hk)
theorem kN(h:isV d=true):dp f d=d/\bW f d:=by
 cases d<;>first|exact⟨rfl,trivial⟩|(simp[isV]at h)
theorem CN{M':Mem}{v:Value}(h:ae F M' d v)(hf:isF d=true):ae F M d v:=by
 have one:∀(d:D) (v:Value),bP d=true->ae F M' d v->ae F M d v:=fun d v h1 h2=>by
  cases d<;>simp only[bP,x0o]at h1<;>first|(simp only[ae];done)|simpa only[ae]using h2
 have list:∀(ds:List D) (vs:List Value),ds.all bP=true->av F M' ds vs->av F M ds vs:=fun ds vs h1 h2=>by
  rw[x0f]at h1
  exact av.of_forall' h2.length.symm (fun i d v e1 e2=>by
   obtain⟨u,k1,k2⟩:=h2.get e1
   rw[e2]at k1;cases k1
   exact one d v (h1 d (x0g e1)) k2)
 have one2:∀(d:D) (v:Value),C2 d=true->ae F M' d v->ae F M d v:=fun d v h1 h2=>by
  cases d
  case agg ds=>simp only[ae]at h2 ⊢;obtain⟨vs,e,r⟩:=h2;exact⟨vs,e,list ds vs h1 r⟩
  all_goals first|exact one _ _ h1 h2|(simp[C2,bP]at h1)
 have list2:∀(ds:List D) (vs:List Value),ds.all C2=true->av F M' ds vs->av F M ds vs:=fun ds vs h1 h2=>by
  rw[x0f]at h1
  exact av.of_forall' h2.length.symm (fun i d v e1 e2=>by
   obtain⟨u,k1,k2⟩:=h2.get e1
   rw[e2]at k1;cases k1
   exact one2 d v (h1 d (x0g e1)) k2)
 cases d
 case tup ds=>simp only[ae]at h ⊢;obtain⟨vs,e,r⟩:=h;exact⟨vs,e,list2 ds vs hf r⟩
 case agg ds=>simp only[ae]at h ⊢;obtain⟨vs,e,r⟩:=h;exact⟨vs,e,list ds vs hf r⟩
 all_goals first|exact one _ _ hf h|(simp[isF,bP]at hf)
theorem iZ(hC:bQ P F C)(h:SR F nt S L w0 M0 f M a w)(hp:cd nt f o.dst){g fi:Nat}(hg:F g=some fi){ds:List D}{vs:List Value}{M1:Mem}(hM:M.le M1)(hh:∀p v,M1 p=some v->w.cell? p=some v)(r:av F M1 ds vs)(hc:C g ds d [])(hcase:isF d=true\/M1=M)
  (hrun:(execOp a.eval o).run P w=(callFunc fi vs.toArray).run P w) (hK:en o.dst K d):o.wp P a w (PostX F nt S L w0 M0 f K) Q:=by
 unfold Oper.wp
 rw[hrun,cx (hC.body g fi hg),Oper.upon_enter]
 refine(hC.runs g fi ds d hg hc M1 w vs hh r).mono ?_
 rintro e w' ⟨v,M',rfl,hb,hM',hf,hh',rv⟩
 have h':∃M2,SR F nt S L w0 M0 f M2 a w'/\ae F M2 d v:=by
  rcases hcase with hfl|rfl
  ·exact⟨M,h.grow hb,CN rv hfl⟩
  ·exact⟨M',h.world hb hM' hf hh',rv⟩
 obtain⟨M2,h2,rv2⟩:=h'
 generalize o.dst=t at hp hK ⊢
 cases t with
 | none=>exact⟨[],[],M2,hK,by simpa[Act.put,mg]using h2⟩
 | some t=>exact⟨_,_,M2,hK,h2.put hp (fun _ _ _=>bC.of_pure rv2)⟩
theorem mM(ho:Own F L New f M a w ρ ω):∀{xs:List Opd} {ys:List Operand},bY F xs ys=true->(∀x∈xs,bW f (vd f x))->av F (bB ω M w) (xs.map (dpv f)) (ys.map a.eval):=by
 intro xs ys hx hk
 simp only[bY,x0a,x0r,x0f]at hx
 refine av.of_forall' (by simpa using hx.1) (fun i d v h1 h2=>?_)
 rw[x0z,x0p]at h1 h2
 obtain⟨x,h1,rfl⟩:=h1
 obtain⟨y,h2,rfl⟩:=h2
 exact Ck ho (ho.opd (hx.2 (x,y) (x1i.2 ⟨i,by rw[x1D];exact⟨h1,h2⟩⟩))) (hk x (x0g h1))
theorem gJ(h:SR F nt S L w0 M0 f M a w):∀{xs:List Opd} {ys:List Operand},bY F xs ys=true->(xs.all fun x=>isV (vd f x))=true->av F M (xs.map (dpv f)) (ys.map a.eval):=by
 intro xs ys hx hk
 simp only[bY,x0a,x0r,x0f]at hx
 rw[x0f]at hk
 refine av.of_forall' (by simpa using hx.1) (fun i d v h1 h2=>?_)
 rw[x0z,x0p]at h1 h2
 obtain⟨x,h1,rfl⟩:=h1
 obtain⟨y,h2,rfl⟩:=h2
 have hv:=hk x (x0g h1)
 unfold dpv
 rw[(kN hv).1]
 exact h.opd (hx.2 (x,y) (x1i.2 ⟨i,by rw[x1D];exact⟨h1,h2⟩⟩)) hv
theorem vP(hC:bQ P F C)(h:SR F nt S L w0 M0 f M a w)(hp:cd nt f o.dst){g fi:Nat}{xs:List Opd}{ys:Array Operand}{ts:Array TypeId}(ho:o.op=.call { callee:=.value (.func fi),args:=ys,argTypes:=ts })(hx:bY F xs ys.toList=true)
  (hg:F g=some fi) (hr:(∀x∈xs,bW f (vd f x))/\∃d,C g (xs.map (dpv f)) d []/\(isF d=true\/(xs.all fun x=>isV (vd f x))=true)/\en o.dst K d):o.wp P a w (PostX F nt S L w0 M0 f K) Q:=by
 obtain⟨h0,d,h1,h2,hK⟩:=hr
 have hrun:(execOp a.eval o).run P w=(callFunc fi (ys.toList.map a.eval).toArray).run P w:=by
  simp only[execOp,ho,resolve,Act.eval,Deferred.ofValue,Sem.run_bind,Sem.run_pure,Result.andThen_ok,invoke]
  congr 2
  rw[x1R,x1y]
  apply Array.ext'
  simp
 rcases h2 with h2|h2
 ·obtain⟨ρ,ω,hO⟩:=h.own
  exact iZ hC h hp hg (cF hO) (cw h.holds) (mM hO hx h0) h1 (.inl h2) hrun hK
 ·exact iZ hC h hp hg (Mem.le_refl _) h.holds (gJ h hx h2) h1 (.inr rfl) hrun hK
theorem gH{M':Mem}{d:D}{v:Value}(h1:bP d=true)(h2:ae F M' d v):ae F M d v:=by
 cases d<;>simp only[bP,x0o]at h1<;>first|(simp only[ae];done)|simpa only[ae]using h2
theorem fy{d:D}(h:bP d=true):isO d=false:=by
 cases d<;>first|rfl|(simp[bP]at h)
theorem SR.nilA(h:SR F nt S L w0 M0 f M a w){t sz:Nat}(ht:t<nt)(hL:L (rt t 0)=none)(hsz:0<sz)(A:Option Addr):SR F nt S L w0 M0 (eff [(t,.ref (.r (rt t 0)) 0 0),(rt t 0,.blk sz [])] [(rt t 0,true)] f) M (a.put (some t) (.slice A 0 0)) w where
 hnt:=h.hnt
 size:=by simp[Act.put,h.size]
 defers:=by simp[Act.put,h.defers]
 ch:=h.ch
 holds:=h.holds
 ext:=h.ext
 fresh:=h.fresh
 own:=by
  obtain⟨ρ,ω,ho⟩:=h.own
  have hb0:=rt_big t 0
  generalize rt t 0=b at *
  have ht10:t<10000:=by have:=h.hnt;omega
  have lk:∀s,s≠t->s≠b->[(t,D.ref (.r b) 0 0),(b,.blk sz [])].lookup s=none:=fun s h1 h2=>by
   have e1:(s==t)=false:=by simpa using h1
   have e2:(s==b)=false:=by simpa using h2
   simp only[x0l,e1,e2,x0V]
  have lkb:[(t,D.ref (.r b) 0 0),(b,.blk sz [])].lookup b=some (.blk sz []):=by
   have e1:(b==t)=false:=by simp;omega
   simp only[x0l,e1,beq_self_eq_true]
  refine⟨_,_,ho.move (b:=b) (nb:=none) (π:=fun _=>none) (ρb:=fun p=>match p with|.r _=>⟨0,0,sz,0⟩|.n _ _ _=>ρ p) (ks:=[(b,true)]) (fun p p' q h1=>by cases h1) (fun p q h1=>by cases h1) (fun k e=>(by cases e)) (x0k _) (fun p hp hne=>⟨(b,true),by simp,?_⟩) (Mem.le_refl _) ho.apart (fun s hs=>?_) (fun _ _ _ _ _=>rfl)
   (fun x hx hxb=>?_) (fun _ _=>.inl ⟨sz,[],aP lkb,.inl ⟨rfl,?_⟩⟩) (fun l' e _=>by rw[hL]at e;cases e)⟩
  ·cases p with
   | r x=>simp only[Pa.root]at hp;simp[cy,hp]
   | n x i off=>simp only[Pa.root]at hp;simp[cy,hp]
  ·by_cases e:s=t
   ·subst e
    refine .inr (.inr ⟨_,getElem?_put_same (by rw[h.size];exact ht),?_⟩)
    rw[aP (d:=.ref (.r b) 0 0) (by simp),az rfl]
    exact Or.inl ⟨rfl,_,rfl⟩
   ·left
    rcases bO (f:=f) (ks:=[(b,true)]) (lk s e (by omega))with h2|h2
    ·exact .inl h2
    ·exact .inr ⟨h2.1,getElem?_put e,h2.2⟩
  ·exact ca (lk x (by omega) hxb)
  ·simp[mvρ,Pa.root,hsz]
def fp(ω:Nat->Option Pa)(b:Nat):Nat->Option Pa:=fun k=>match ω k with
 | some p=>if p.root=b then none else some p
 | none=>none
theorem s9{b k:Nat}{p:Pa}(h:ω k=some p)(hp:p.root≠b):fp ω b k=some p:=by
 simp only[fp,h,if_neg hp]
theorem fg{b k:Nat}{p:Pa}(h:fp ω b k=some p):ω k=some p/\p.root≠b:=by
 unfold fp at h
 split at h
 ·rename_i q hq
  split at h
  ·cases h
  ·cases h
   exact⟨hq,by assumption⟩
 ·cases h
theorem cB.ers{b:Nat}{p:Pa}(hp:p.root≠b){sz:Nat}{es:List (List D)}{R R':Nat->Nat->D->Value->Prop}(hR:∀i off d v,R i off d v->R' i off d v)(h:cB ω ρ w p sz es R):cB (fp ω b) ρ w p sz es R':=by
 rcases h with h|⟨h,h1,vs,T,h2,h3,h4,h5,h6⟩
 ·exact .inl h
 ·exact .inr ⟨s9 h hp,h1,vs,T,h2,h3,h4,h5,fun i r off d e1 e2=>by
   obtain⟨v,q1,q2⟩:=h6 i r off d e1 e2
   exact⟨v,q1,hR _ _ _ _ q2⟩⟩
theorem Own.erase(h:Own F L New f M a w ρ ω){b:Nat}(hb:10000<=b):Own F L New (fbE f b) M a w ρ (fp ω b):=by
 have hne:∀{t:Nat},t≠b->fbE f b t=f t:=fun{t} ht=>by
  simp only[fbE,if_neg ht]
 have hbb:fbE f b b=.any:=by simp[fbE]
 refine⟨fun t ht=>?_,fun c sz es hc hf=>?_,fun c kt et ks vs hc hf=>?_,fun k p hk=>h.lt k p (fg hk).1,fun k p hk=>h.new k p (fg hk).1,fun p q hk=>h.apart p q (fg hk).1,fun c l hc hl hB=>?_⟩
 ·have:=h.slots t ht
  unfold wd at this ⊢
  rw[hne (by omega)]
  exact this
 ·by_cases e:c=b
  ·subst e;rw[hbb]at hf;cases hf
  ·rw[hne e]at hf
   refine cB.ers (p:=.r c) e (fun i off d v hd=>?_) (h.roots c sz es hc hf)
   cases d
   case own=>exact⟨hd.1,cB.ers (p:=.n c i off) e (fun _ _ _ _ h=>h) hd.2⟩
   all_goals exact hd
 ·by_cases e:c=b
  ·subst e;rw[hbb]at hf;cases hf
  ·rw[hne e]at hf
   have:=h.maps c kt et ks vs hc hf
   exact⟨s9 this.1 e,this.2⟩
 ·by_cases e:c=b
  ·subst e;rw[hbb]at hB;cases hB
  ·rw[hne e]at hB
   exact h.lent c l hc hl hB
theorem Aa(h:Own F L New f M a w ρ ω){b:Nat}{k:Nat}(hk:ω k=some (.r b))(p:Addr)(hp:p.block=k):bB (fp ω b) M w p=none:=by
 have e:fp ω b p.block=none:=by
  rw[hp]
  simp only[fp,hk,Pa.root,if_true]
 unfold bB
 rw[e]
 exact h.apart p (.r b) (by rw[hp];exact hk)
theorem Dl(h:Own F L New f M a w ρ ω){b:Nat}(hb:10000<=b){xs:List Opd}{ys:List Operand}(hx:bY F xs ys=true)(hk:∀x∈xs,bW (fbE f b) (vd (fbE f b) x)):av F (bB (fp ω b) M w) (xs.map (dpv (fbE f b))) (ys.map a.eval) :=
 mM (h.erase hb) hx hk
theorem Bf(hC:bQ P F C)(h:SR F nt S L w0 M0 f M a w)(hL:∀t,L (rt t 0)=none)(hp:∀t,o.dst=some t->t<nt){g fi:Nat}{x:Opd}{xs:List Opd}{y:Operand}{ys:List Operand}{ts:Array TypeId}(ho:o.op=.call { callee:=.value (.func fi),args:=⟨y::ys⟩,argTypes:=ts })(hx0:ao F x y=true)(hx:bY F xs ys=true)
  (hg:F g=some fi) (hr:match vd f x with
  | .ref (.r b) k n=>k=0/\match f b with
   | .blk sz es=>es.length=n/\(∀e∈es,∀c∈e,aA c=true)/\(∀x∈xs,bW (fbE f b) (vd (fbE f b) x))/\match o.dst with
    | none=>∃es':List (List D),es'.length=es.length/\(∀e∈es',e.length=sz/\∀c∈e,aA c=true)/\rb (fbE f b) xs es'/\C g (.own sz es::xs.map (dpv (fbE f b))) .any [.own sz es',.nilp]/\K [(b,.blk sz es')] []
    | some t=>(∃es':List (List D),es'.length=es.length/\(∀e∈es',e.length=sz/\∀c∈e,aA c=true)/\rb (fbE f b) xs es'/\C g (.own sz es::xs.map (dpv (fbE f b))) .any [.own sz es',.nilp]/\K [(t,.tup []),(b,.blk sz es')] [])\/(b≠rt t 0/\0<sz/\∃es':List (List D),(∀e∈es',e.length=sz/\∀c∈e,aA c=true)/\rb (fbE f b) xs es'/\C g (.own sz es::xs.map (dpv (fbE f b))) .any [.own sz es',.nils]/\K [(t,.ref (.r (rt t 0)) 0 es'.length),(rt t 0,.blk sz es'),(b,.any)] [(rt t 0,true)])
   | _=>False
  | _=>False):o.wp P a w (PostX F nt S L w0 M0 f K) Q:=by
 split at hr
 ·rename_i b k n hvx
  obtain⟨rfl,hr⟩:=hr
  split at hr
  ·rename_i sz es hf
   obtain⟨rfl,hc1,hdp,hr⟩:=hr
   have hrun:(execOp a.eval o).run P w=(callFunc fi (a.eval y::ys.map a.eval).toArray).run P w:=by
    simp only[execOp,ho,resolve,Act.eval,Deferred.ofValue,Sem.run_bind,Sem.run_pure,Result.andThen_ok,invoke]
    congr 2
    rw[x1R,x1y]
    apply Array.ext'
    simp
    cases y<;>simp[Act.eval]
   obtain⟨ρ,ω,hO⟩:=h.own
   have hb:=hO.big hf
   have hv:=hO.opd hx0
   rw[hvx,az rfl]at hv
   simp only[aC]at hv
   have hroot:=hO.roots b sz es hb hf
   have hcases:(∃A,a.eval y=.slice A 0 0/\es=[])\/∃(cap:Nat) (us:List Value) (T:TypeId),a.eval y=.slice (some ⟨(ρ (.r b)).blk,(ρ (.r b)).base,none⟩) es.length cap/\(es.length<=cap/\cap<=9223372036854775807)/\(ρ (.r b)).base+cap*sz<=(ρ (.r b)).len/\ω (ρ (.r b)).blk=some (.r b) /\
     fU w (ρ (.r b)) sz es (fun i off d v=>cE F M ω ρ w b i off d v)/\w.heap[(ρ (.r b)).blk]? = some (.cells us.toArray T (0,0))/\us.length=(ρ (.r b)).len/\(∀e∈es,e.length=sz) /\
     (∀i r off d,es[i]? = some r->r[off]? = some d->∃u,us[(ρ (.r b)).base+i*sz+off]? = some u/\ae F M d u):=by
    rcases hv with ⟨h0,A,hv⟩|⟨cap,hv,hcap,hcl,hmc⟩
    ·exact .inl ⟨A,hv,x0G h0⟩
    ·rcases hroot with ⟨e0,e1,e2,e3⟩|⟨hω,hrows⟩
     ·have hc0:cap=0:=by
       rw[e1,e2,x1a]at hcl
       rcases x0X cap with h|h
       ·exact h
       ·have:=Nat.mul_pos h e3;omega
      subst hc0
      exact .inl ⟨_,by rw[hv,e0];rfl,e0⟩
     ·obtain⟨g0,us,T,g1,g2,g3,g4,g5⟩:=id hrows
      refine .inr ⟨cap,us,T,by rw[hv];simp,⟨hcap,hmc⟩,by rw[<- g0];simpa using hcl,hω,hrows,g1,g2,g4,fun i r off d e1 e2=>?_⟩
      obtain⟨u,k1,k2⟩:=g5 i r off d e1 e2
      exact⟨u,k1,by rwa[bx (cQ (hc1 r (x0g e1) d (x0g e2)))]at k2⟩
   have hview:∀es':List (List D),rb (fbE f b) xs es'->∃N:Mem,M.le N/\(∀p v,N p=some v->w.cell? p=some v)/\(∀k,ω k=some (.r b)->∀p:Addr,p.block=k->N p=none)/\av F N (xs.map (dpv (fbE f b))) (ys.map a.eval)/\(N=M\/∀e∈es',∀c∈e,bP c=true):=by
    intro es' ho
    have hE:=hO.erase hb
    rcases ho with ho|ho
    ·exact⟨M,Mem.le_refl _,h.holds,fun k hk p hp=>hO.apart p (.r b) (by rw[hp];exact hk),gJ (h.weak (g:=fbE f b) (fun t=>by by_cases e:t=b<;>simp[fbE,e])) hx ho,.inl rfl⟩
    ·exact⟨bB (fp ω b) M w,cF hE,cw h.holds,fun k hk p hp=>Aa hO hk p hp,Dl hO hb hx hdp,.inr ho⟩
   have back:∀(N:Mem) (es':List (List D)),(N=M\/∀e∈es',∀c∈e,bP c=true)->∀(i:Nat) (r:List D) (off:Nat) (d:D) (u:Value),es'[i]? = some r->r[off]? = some d->ae F N d u->ae F M d u:=by
    rintro N es' (rfl|hfl) i r off d u e1 e2 hr
    ·exact hr
    ·exact gH (hfl r (x0g e1) d (x0g e2)) hr
   have nback:∀(N:Mem) (es':List (List D)),(N=M\/∀e∈es',∀c∈e,bP c=true)->∀{w':World} {v:Value},fu F N w w' sz es' v->fu F M w w' sz es' v:=by
    intro N es' hfl w' v hn
    have hb2:=back N es' hfl
    obtain⟨bn,on,Tn,un,cn,p1,p2,p3,p4,p5,p7⟩:=hn
    exact⟨bn,on,Tn,un,cn,p1,p2,p3,p4,p5,fun i r off d e1 e2=>(p7 i r off d e1 e2).imp fun u k=>⟨k.1,hb2 _ _ _ _ _ e1 e2 k.2⟩⟩
   unfold Oper.wp
   rw[hrun,cx (hC.body g fi hg),Oper.upon_enter]
   split at hr
   ·rename_i hd
    obtain⟨es',hl,hu,hof,hc,hK⟩:=hr
    obtain⟨N,hMN,hhN,hap,hrep0,hfl⟩:=hview es' hof
    have hback:=back N es' hfl
    have hS:=hC.runsS g fi sz es _ es' hg hc N w _ hhN hrep0
    rw[hd]
    rcases hcases with ⟨A,hv,e⟩|⟨cap,us,T,hv,⟨hcap,hmc⟩,hcl,hω,hrows,g1,g2,g4,g5⟩
    ·have e':es'=[]:=x0G (by rw[hl,e];rfl)
     have e1:eff [(b,D.blk sz es')] [] f=f:=by
      funext t
      by_cases e2:t=b
      ·subst e2
       rw[aP (d:=.blk sz es') (by simp),hf,e,e']
      ·unfold eff
       have e3:(t==b)=false:=by simpa using e2
       simp only[x0l,e3,x0V,aN,List.any_nil,x0o,if_false]
     rw[hv]
     refine(hS.1 e A).mono ?_
     rintro e0 w' ⟨rfl,hw⟩
     exact⟨_,_,M,hK,by rw[e1];simpa[Act.put]using h.grow hw⟩
    ·rw[hv]
     have hMb:∀p:Addr,p.block=(ρ (.r b)).blk->N p=none:=hap _ hω
     have g5:∀i r off d,es[i]? = some r->r[off]? = some d->∃u,us[(ρ (.r b)).base+i*sz+off]? = some u/\ae F N d u:=fun i r off d e1 e2=>by
      obtain⟨u,k1,k2⟩:=g5 i r off d e1 e2
      exact⟨u,k1,ae.mono hMN _ _ k2⟩
     refine(hS.2 (ρ (.r b)).blk (ρ (.r b)).base T us cap hMb (hO.lt _ _ hω) g1 hcap (by rw[g2];exact hcl) g4 g5).mono ?_
     rintro e0 w' ⟨rfl,us',q1,q2,q3,q4⟩
     obtain⟨ρ',ω',hO',rfl,hs'⟩:=h.fill hO hf hω hrows (Nat.le_of_eq hl) hu q4 q1 (by rw[q2,g2]) (fun i r off d e1 e2=>(q3 i r off d e1 e2).imp fun u k=>⟨k.1,hback _ _ _ _ _ e1 e2 k.2⟩)
     exact⟨_,_,M,hK,by simpa[Act.put]using hs'⟩
   ·rename_i t hd
    rcases hr with ⟨es',hl,hu,hof,hc,hK⟩|⟨hbt,hsz,es',hu,hof,hc,hK⟩
    ·obtain⟨N,hMN,hhN,hap,hrep0,hfl⟩:=hview es' hof
     have hback:=back N es' hfl
     have hS:=hC.runsS g fi sz es _ es' hg hc N w _ hhN hrep0
     have ht:=hp t hd
     have ht10:t<10000:=x1H ht h.hnt
     have e2:∀ff:Nat->D,eff [(t,D.tup [])] [] (eff [(b,D.blk sz es')] [] ff)=eff [(t,D.tup []),(b,D.blk sz es')] [] ff:=by
      intro ff
      funext s
      unfold eff
      by_cases q:s=t
      ·subst q
       simp[x0l]
      ·have q1:(s==t)=false:=by simpa using q
       simp only[x0l,q1,x0V,aN,List.any_nil,x0o,if_false]
     rw[hd]
     rcases hcases with ⟨A,hv,e⟩|⟨cap,us,T,hv,⟨hcap,hmc⟩,hcl,hω,hrows,g1,g2,g4,g5⟩
     ·have e':es'=[]:=x0G (by rw[hl,e];rfl)
      have e1:eff [(b,D.blk sz es')] [] f=f:=by
       funext s
       by_cases e2:s=b
       ·subst e2
        rw[aP (d:=.blk sz es') (by simp),hf,e,e']
       ·unfold eff
        have e3:(s==b)=false:=by simpa using e2
        simp only[x0l,e3,x0V,aN,List.any_nil,x0o,if_false]
      rw[hv]
      refine(hS.1 e A).mono ?_
      rintro e0 w' ⟨rfl,hw⟩
      refine⟨_,_,M,hK,?_⟩
      rw[<- e2,e1]
      exact(h.grow hw).put ht fun _ _ _=>by rw[az rfl];simp[aC,ae,av]
     ·rw[hv]
      have hMb:∀p:Addr,p.block=(ρ (.r b)).blk->N p=none:=hap _ hω
      have g5:∀i r off d,es[i]? = some r->r[off]? = some d->∃u,us[(ρ (.r b)).base+i*sz+off]? = some u/\ae F N d u:=fun i r off d e1 e2=>by
       obtain⟨u,k1,k2⟩:=g5 i r off d e1 e2
       exact⟨u,k1,ae.mono hMN _ _ k2⟩
      refine(hS.2 (ρ (.r b)).blk (ρ (.r b)).base T us cap hMb (hO.lt _ _ hω) g1 hcap (by rw[g2];exact hcl) g4 g5).mono ?_
      rintro e0 w' ⟨rfl,us',q1,q2,q3,q4⟩
      obtain⟨ρ',ω',hO',rfl,hs'⟩:=h.fill hO hf hω hrows (Nat.le_of_eq hl) hu q4 q1 (by rw[q2,g2]) (fun i r off d e1 e2=>(q3 i r off d e1 e2).imp fun u k=>⟨k.1,hback _ _ _ _ _ e1 e2 k.2⟩)
      refine⟨_,_,M,hK,?_⟩
      rw[<- e2]
      exact hs'.put ht fun _ _ _=>by rw[az rfl];simp[aC,ae,av]
    obtain⟨N,hMN,hhN,hap,hrep0,hfl⟩:=hview es' hof
    have hback:=back N es' hfl
    have hE:=hC.runsR g fi sz es _ es' hg hc N w _ hhN hrep0
    have ht:=hp t hd
    have hLt:=hL t
    rw[hd]
    rcases hcases with ⟨A,hv,e⟩|⟨cap,us,T,hv,⟨hcap,hmc⟩,hcl,hω,hrows,g1,g2,g4,g5⟩
    ·rw[hv]
     refine(hE.1 e A).mono ?_
     rintro e0 w' ⟨v,rfl,hw,⟨e',A',rfl⟩|hn⟩
     ·refine⟨_,_,M,hK,?_⟩
      subst e'
      have h1:=(h.grow hw).nilA ht hLt hsz A'
      refine h1.weak (fun s=>?_)
      have ht10:t<10000:=x1H ht h.hnt
      by_cases e3:s=b
      ·left
       subst e3
       have q1:(s==t)=false:=by
        have:s≠t:=fun e=>by rw[e]at hb;exact absurd ht10 (Nat.not_lt.2 hb)
        simpa using this
       have q2:(s==rt t 0)=false:=by simpa using hbt
       simp[eff,x0l,q1,q2]
      ·right
       have q3:(s==b)=false:=by simpa using e3
       unfold eff
       simp only[x0l,q3,x0V,x1E]
     ·exact⟨_,_,M,hK,h.newRow (b:=b) hu hw (nback N es' hfl hn) ht (rt_big t 0) hLt (Ne.symm hbt) hb⟩
    ·rw[hv]
     have hMb:∀p:Addr,p.block=(ρ (.r b)).blk->N p=none:=hap _ hω
     have g5:∀i r off d,es[i]? = some r->r[off]? = some d->∃u,us[(ρ (.r b)).base+i*sz+off]? = some u/\ae F N d u:=fun i r off d e1 e2=>by
      obtain⟨u,k1,k2⟩:=g5 i r off d e1 e2
      exact⟨u,k1,ae.mono hMN _ _ k2⟩
     refine(hE.2 (ρ (.r b)).blk (ρ (.r b)).base T us cap hMb (hO.lt _ _ hω) g1 hcap (by rw[g2];exact hcl) g4 g5).mono ?_
     rintro e0 w' ⟨v,rfl,us',q1,q2,q4,⟨rfl,hl,q3⟩|hn⟩
     ·refine⟨_,_,M,hK,h.eatSame hO hf hω hrows hl hu q4 q1 (by rw[q2,g2]) (fun i r off d e1 e2=>(q3 i r off d e1 e2).imp fun u k=>⟨k.1,hback _ _ _ _ _ e1 e2 k.2⟩) ht (rt_big t 0) hLt (Ne.symm hbt) ?_⟩
      simp only[aC]
      obtain⟨g0,_⟩:=hrows
      exact .inr ⟨cap,by simp,by omega,by rw[g0,x1a];exact hcl,hmc⟩
     ·exact⟨_,_,M,hK,h.eatNew hO hf hω hrows hu q4 q1 (by rw[q2,g2]) (nback N es' hfl hn) ht (rt_big t 0) hLt (Ne.symm hbt)⟩
  ·exact hr.elim
 ·exact hr.elim
theorem Bc(hC:bQ P F C)(h:SR F nt S L w0 M0 f M a w){t:Nat}(hd:o.dst=some t)(ht:t<nt)(hL:L (rt t 0)=none){g fi:Nat}{xs:List Opd}{ys:Array Operand}{ts:Array TypeId}(ho:o.op=.call { callee:=.value (.func fi),args:=ys,argTypes:=ts })(hx:bY F xs ys.toList=true)
  (hg:F g=some fi) (hr:(∀x∈xs,bW f (vd f x))/\∃sz es,C g (xs.map (dpv f)) .any [.own sz es]/\K [(t,.ref (.r (rt t 0)) 0 es.length),(rt t 0,.blk sz es)] [(rt t 0,true)]):o.wp P a w (PostX F nt S L w0 M0 f K) Q:=by
 obtain⟨h0,sz,es,h1,hK⟩:=hr
 have hrun:(execOp a.eval o).run P w=(callFunc fi (ys.toList.map a.eval).toArray).run P w:=by
  simp only[execOp,ho,resolve,Act.eval,Deferred.ofValue,Sem.run_bind,Sem.run_pure,Result.andThen_ok,invoke]
  congr 2
  rw[x1R,x1y]
  apply Array.ext'
  simp
 obtain⟨ρ,ω,hO⟩:=h.own
 unfold Oper.wp
 rw[hrun,cx (hC.body g fi hg),Oper.upon_enter]
 refine(hC.runsF g fi _ sz es hg h1 (bB ω M w) w _ (cw h.holds) (mM hO hx h0)).mono ?_
 rintro e w' (⟨rfl,hsz,A,rfl,hb⟩|⟨b,o',T,us,cap,rfl,hb,hbn,hh,hcap,⟨hlen,hmc⟩,hu,hcell⟩)
 ·rw[hd]
  exact⟨_,_,M,hK,(h.grow hb).nilA ht hL hsz A⟩
 rw[hd]
 have hes:o'+es.length*sz<=us.length:=by
  have:=x0q sz hcap
  omega
 refine⟨_,_,M,hK,h.makeAt (B:=b) (o:=o') (bs:=[]) (es:=es) (sz:=sz) (src:=fun _ _=>none) (vs:=us) (T:=T) ht (by unfold rt;omega) hL hb hbn hh hes hu (fun i r off c hi hr=>?_) (fun _ _ _ _ _ e=>(by cases e)) (fun _ _ _ e=>(by cases e)) (fun ρ M e=>?_)⟩
 ·obtain⟨k1,u,k2,k3⟩:=hcell i r off c hi hr
  exact⟨u,k2,.inl ⟨fy k1,gH k1 k3⟩⟩
 ·rw[az rfl]
  simp only[aC]
  refine .inr ⟨cap,by simp[e],hcap,?_,hmc⟩
  rw[e]
  simpa using hlen
theorem Bg(hC:bQ P F C)(h:SR F nt S L w0 M0 f M a w)(hp:cd nt f o.dst){x:Opd}{x':Operand}{xs:List Opd}{ys:Array Operand}{ts:Array TypeId}(ho:o.op=.call { callee:=.value x',args:=ys,argTypes:=ts })
  (hx0:ao F x x'=true) (hx:bY F xs ys.toList=true) (hr:aG C f o.dst K (.callv x xs)):o.wp P a w (PostX F nt S L w0 M0 f K) Q:=by
 simp only[aG]at hr
 have run:∀(fi:Nat) (us:List Value),a.eval x'=.func (.func fi) #[] us.toArray->(execOp a.eval o).run P w=(callFunc fi (ys.toList.map a.eval++us).toArray).run P w:=by
  intro fi us e1
  simp only[execOp,ho,resolve,e1,Deferred.ofValue,Sem.run_bind,Sem.run_pure,Result.andThen_ok,invoke]
  congr 2
  rw[x1y]
  apply Array.ext'
  simp
 split at hr
 ·rename_i g cs ex
  have e0:=h.opd hx0 (by simp[ex,isV])
  rw[ex]at e0
  simp only[ae]at e0
  obtain⟨fi,us,hg,e1,r1⟩:=e0
  obtain⟨h0,d',h1,h2,hK⟩:=hr
  rcases h2 with h2|h2
  ·obtain⟨ρ,ω,hO⟩:=h.own
   exact iZ hC h hp hg (cF hO) (cw h.holds) ((mM hO hx h0).append (av.mono (cF hO) _ _ r1)) h1 (.inl h2) (run fi us e1) hK
  ·exact iZ hC h hp hg (Mem.le_refl _) h.holds ((gJ h hx h2).append r1) h1 (.inr rfl) (run fi us e1) hK
 ·rename_i g cs ex
  obtain⟨ρ,ω,hO⟩:=h.own
  have e0:=hO.opd hx0
  rw[ex]at e0
  obtain⟨fi,us,hg,e1,r1⟩:=e0
  obtain⟨h0,h0',d',h1,h2,hK⟩:=hr
  exact iZ hC h hp hg (cF hO) (cw h.holds) ((mM hO hx h0).append (mc hO r1 h0')) h1 (.inl h2) (run fi us e1) hK
 ·exact hr.elim
end
end Go.Gv

namespace Go.Gv
variable[Drw]
open Go.RowKit
section
variable{P:Program}{F:Fid}{C:Nat->List D->D->List D->Prop}{nt:Nat}{S:Nat->Prop}{L:Ln}{w0:World}{M0:Mem}{f:Nat->D}{M:Mem}{a:Act}{w:World}{o:Oper}{d:D}{Q:Exit->Act->World->Prop}{ρ:Pa->Loc}{ω:Nat->Option Pa}{New:Nat->Prop}{K:List (Nat×D)->List (Nat×Bool)->Prop}
theorem dt(g:Nat)(T:TypeId)(off:Nat):∀(vs:List Value) (i:Nat) (cur:List Value) (w:World),w.heap[g]? = some (.cells cur.toArray T (0,0))->off+i+vs.length<=cur.length->(∀v∈vs,v.oneCell'=true) ->
  ∃w',(storeCells ⟨g,off,none⟩ vs i).run P w=.ok () w'/\w'.heap[g]? = some (.cells (cur.take (off+i)++vs++cur.drop (off+i+vs.length)).toArray T (0,0)) /\
   (∀k,k≠g->w'.heap[k]? = w.heap[k]?)/\w'.heap.size=w.heap.size/\w'.os=w.os/\w'.tape=w.tape/\w'.output=w.output/\w'.drawn=w.drawn
 | [],i,cur,w,hg,_,_=>⟨w,by simp[storeCells],by simpa using hg,fun _ _=>rfl,rfl,rfl,rfl,rfl,rfl⟩
 | v::rest,i,cur,w,hg,hl,h1=>by
  simp only[x0T]at hl
  have hi:off+i<cur.length:=by omega
  have hadd:(⟨g,off,none⟩:Addr).add i=⟨g,off+i,none⟩:=dy g i off
  have hcell:w.cell? ⟨g,off+i,none⟩=some (cur[off+i]):=by simp[World.cell?,hg,hi]
  have hfro:w.frozen? ⟨g,off+i,none⟩=false:=by simp[World.frozen?,hg]
  have hst:(store ((⟨g,off,none⟩:Addr).add i) v).run P w=.ok () (w.setCell ⟨g,off+i,none⟩ v):=by
   rw[hadd,run_store P w _ v _ (h1 v (by simp)),hcell]
   simp[hfro]
  have hg':(w.setCell ⟨g,off+i,none⟩ v).heap[g]? = some (.cells (cur.set (off+i) v).toArray T (0,0)):=by
   simp[World.setCell,x1s,hg]
  obtain⟨w',e1,e2,e3,e4,e5,e6,e7,e8⟩:=dt g T off rest (i+1) (cur.set (off+i) v) (w.setCell ⟨g,off+i,none⟩ v) hg' (by simp;omega) (fun x hx=>h1 x (by simp[hx]))
  refine⟨w',by simp only[storeCells,Sem.run_bind,hst,Result.andThen_ok,e1],?_,fun k hk=>(e3 k hk).trans (Below.heap_setCell w _ _ _ hk),e4.trans (by simp[World.setCell]),e5,e6,e7,e8⟩
  rw[e2]
  congr 3
  have h3:(cur.set (off+i) v).take (off+(i+1))=cur.take (off+i)++[v]:=by
   rw[<- x0Y,x0m (by simp;omega),List.take_set_of_le (by omega)]
   simp
  have h4:(cur.set (off+i) v).drop (off+(i+1)+rest.length)=cur.drop (off+i+(v::rest).length):=by
   rw[List.drop_set_of_lt (by omega)]
   congr 1
   simp;omega
  rw[h3,h4]
  simp
theorem oG{t n g off:Nat}(hk:ng P t n=true){cur:List Value}{T:TypeId}{w:World}(hg:w.heap[g]? = some (.cells cur.toArray T (0,0))){v:Value}(hn:v.cells.size=n)(hl:off+n<=cur.length)(h1:∀u∈v.cells.toList,u.oneCell'=true) :
  ∃w',(Instr.storeAt t (.pointer (some ⟨g,off,none⟩)) v).run P w=.ok () w'/\w'.heap[g]? = some (.cells (cur.take off++v.cells.toList++cur.drop (off+n)).toArray T (0,0)) /\
   (∀k,k≠g->w'.heap[k]? = w.heap[k]?)/\w'.heap.size=w.heap.size/\w'.os=w.os/\w'.tape=w.tape/\w'.output=w.output/\w'.drawn=w.drawn:=by
 obtain⟨w',e1,e2,e3⟩:=dt (P:=P) g T off v.cells.toList 0 cur w hg (by simp;omega) h1
 refine⟨w',?_,?_,e3⟩
 ·simp only[Instr.storeAt,Instr.sureAddr,Sem.run_bind,Sem.run_pure,Result.andThen_ok,storeVar,dC hk,hn,ne_eq,not_true,if_false,e1]
 ·have:v.cells.toList.length=n:=by simpa using hn
  simpa[this]using e2
theorem xF{K:Act->World->Prop}{w':World}(h:(execOp a.eval o).run P w=.ok .skip w')(hk:K (a.put o.dst undef) w'):o.wp P a w K Q:=by
 unfold Oper.wp
 rw[h]
 exact hk
theorem sv{g:Nat}{cur us:List Value}{T:TypeId}{w':World}{q n:Nat}(hg:w.heap[g]? = some (.cells cur.toArray T (0,0)))(h2:w'.heap[g]? = some (.cells (cur.take q++us++cur.drop (q+n)).toArray T (0,0)))
  (h3:∀k,k≠g->w'.heap[k]? = w.heap[k]?) (h4:w'.heap.size=w.heap.size) (h5:w'.os=w.os) (h6:w'.tape=w.tape) (h7:w'.output=w.output/\w'.drawn=w.drawn):we w g q n us w' where
 cells vs T' e:=by
  rw[hg]at e
  simp only[x0s,Obj.cells.injEq,and_true]at e
  obtain⟨rfl,rfl⟩:=e
  exact h2
 rest:=h3
 size:=h4
 os:=h5
 tape:=h6
 output:=h7.1
 drawn:=h7.2
theorem Jk(h:SR F nt S L w0 M0 f M a w)(hd:o.dst=none){n:Nat}{ns:List Nat}{x v:Opd}{x' v':Operand}{t:TypeId}(ho:o.op=.store t x' v')(hx:ao F x x'=true)(hv:ao F v v'=true)(hk:ng P t n=true)
  (hr:aG C f none K (.st n ns x v)):o.wp P a w (PostX F nt S L w0 M0 f K) Q:=by
 simp only[aG,true_and]at hr
 obtain⟨ρ,ω,hO⟩:=h.own
 obtain⟨cs,bs,src,⟨h1,h2⟩,h3,h4⟩:=absW_spec hO hr (v:=a.eval v') (fun ρ ω hO=>hO.opd hv)
 have hus:(a.eval v').cells.toList.length=n:=by simp[h3.len,h1]
 have hus':(a.eval v').cells.size=n:=by rw[h3.len,h1]
 have hone:∀u∈(a.eval v').cells.toList,u.oneCell'=true:=fun u hu=>by
  obtain⟨j,hj,e⟩:=x0K.1 hu
  have hj':j<cs.length:=by omega
  exact(h3.cells j _ u (x0e hj') (by rw[<- e];exact x0e hj)).2
 have fin:∀{ws ks w'},(execOp a.eval o).run P w=.ok .skip w'->K ws ks->SR F nt S L w0 M0 (eff ws ks f) M a w'->o.wp P a w (PostX F nt S L w0 M0 f K) Q:=fun hrun hK hs=>xF hrun (by rw[hd];exact⟨_,_,M,hK,by simpa[Act.put]using hs⟩)
 have hxv:=hO.opd hx
 split at h2
 ·rename_i b i off ex
  obtain⟨hb,h2⟩:=h2
  split at h2
  ·rename_i sz es hf
   obtain⟨r,hi,hn,hK⟩:=h2
   rw[ex,az rfl]at hxv
   simp only[aC]at hxv
   obtain⟨vs,T,hω,h0,hl,g1,g2,g3,g4⟩:=hO.row (p:=.r b) (hO.big hf) (show aX f (.r b)=some (sz,es) by simp[aX,hf]) hi
   rw[h0]at hxv
   obtain⟨w',k1,k2,k3,k4,k5,k6,k7⟩:=oG (P:=P) (off:=(ρ (.r b)).base+i*sz+off) hk g1 hus' (by omega) hone
   refine fin (w':=w') (by simp only[execOp,ho,hxv,Sem.run_bind,k1,Result.andThen_ok,Sem.run_pure]) hK (h.store hO hf hi hn h1 hus (sv g1 k2 k3 k4 k5 k6 k7) (fun j c u e1 e2=>(h3.cells j c u e1 e2).1) h3.inj h3.srcs (fun hb'=>?_) (fun e=>h4 e b))
   have:=x0R.2 hb'
   rw[hb]at this;cases this
  ·exact h2.elim
 ·rename_i b i0 o0 i off ex
  obtain⟨hbs,hC1,h2⟩:=h2
  split at h2
  ·rename_i sz0 es0 hf
   obtain⟨row0,hi0,sz,es,ho0,r,hi,hn,hK⟩:=h2
   rw[ex,az rfl]at hxv
   simp only[aC]at hxv
   have hg:aX f (.n b i0 o0)=some (sz,es):=by simp[aX,hf,hi0,ho0]
   obtain⟨vs,T,hω,h0,hl,g1,g2,g3,g4⟩:=hO.row (p:=.n b i0 o0) (hO.big hf) hg hi
   rw[h0]at hxv
   obtain⟨w',k1,k2,k3,k4,k5,k6,k7⟩:=oG (P:=P) (off:=(ρ (.n b i0 o0)).base+i*sz+off) hk g1 hus' (by omega) hone
   refine fin (w':=w') (by simp only[execOp,ho,hxv,Sem.run_bind,k1,Result.andThen_ok,Sem.run_pure]) hK (h.storeN hO hf hi0 ho0 hi hn h1 hus (sv g1 k2 k3 k4 k5 k6 k7) (fun j c u e1 e2=>?_))
   rcases(h3.cells j c u e1 e2).1 with ⟨_,h6⟩|⟨n',rfl,_⟩|⟨sz',es',b',_,rfl,_⟩
   ·exact h6
   ·have:=hC1 _ (x0g e1);simp[aA]at this
   ·have:=hC1 _ (x0g e1);simp[aA]at this
  ·exact h2.elim
 ·exact h2.elim
theorem yJ(h:SR F nt S L w0 M0 f M a w){t:Nat}(hd:o.dst=some t)(ht:t<nt)(hL:L (rt t 0)=none){x:Opd}{x':Operand}(ho:o.op=.move x'\/o.op=.assign x')(hx:ao F x x'=true)
  (hr:aG C f (some t) K (.asg x)):o.wp P a w (PostX F nt S L w0 M0 f K) Q:=by
 simp only[aG]at hr
 have hrun:(execOp a.eval o).run P w=.ok (.value (a.eval x')) w:=by rcases ho with ho|ho<;>simp[execOp,ho]
 split at hr
 ·rename_i c k n ex
  split at hr
  ·exact postX_val hd hrun hr (h.put ht (fun ρ ω hO=>by have:=hO.opd hx;rwa[ex]at this))
  ·rename_i hne
   split at hr
   ·rename_i sz es hf
    exact postX_val hd hrun hr (h.asg ht (rt_big t 0) hL (Ne.symm hne) hf (fun ρ ω hO=>by have:=hO.opd hx;rwa[ex,az rfl]at this))
   ·exact hr.elim
 ·exact postX_val hd hrun hr.2 (h.put ht (fun ρ ω hO=>hO.opd hx))
theorem SR.nilo(h:SR F nt S L w0 M0 f M a w){t sz:Nat}(ht:t<nt)(hL:L (rt t 0)=none)(hsz:0<sz):SR F nt S L w0 M0 (eff [(t,.ref (.r (rt t 0)) 0 0),(rt t 0,.blk sz [])] [(rt t 0,true)] f) M (a.put (some t) (.slice none 0 0)) w:=h.nilA ht hL hsz none
theorem vQ(h:SR F nt S L w0 M0 f M a w){t:Nat}(hd:o.dst=some t)(ht:t<nt)(hL:L (rt t 0)=none){sz:Nat}{x':Operand}(ho:o.op=.move x'\/o.op=.assign x')(hx:ao F (.c .nils) x'=true)
  (hr:aG C f (some t) K (.nilo sz)):o.wp P a w (PostX F nt S L w0 M0 f K) Q:=by
 simp only[aG]at hr
 have hv:=h.opd hx (by simp[vd,isV])
 simp only[vd,ae]at hv
 have hrun:(execOp a.eval o).run P w=.ok (.value (.slice none 0 0)) w:=by rcases ho with ho|ho<;>simp[execOp,ho,hv]
 exact postX_val hd hrun hr.2 (h.nilo ht hL hr.1)
def xN(P:Program)(t sz by_:Nat):Bool:=match P.underlying t with
 | some (.slice e)=>(match P.info? e with
  | some i=>i.size==sz&&i.bytes==by_&&decide (0<by_)&&decide (0<sz)&&(match i.zero with
   | some z=>z.cells.size==sz
   | none=>false)
  | none=>false)
 | _=>false
theorem qD(h:SR F nt S L w0 M0 f M a w)(hO:Own F L (qW S w0) f M a w ρ ω){mv:Bool}{y:Opd}{y':Operand}(hy:ao F y y'=true){sz:Nat}{K:List (List D)->List Nat->Prop}(hr:fH f mv (vd f y) sz K) :
  ∃rowsY bs c2,K rowsY bs/\bs=Option.toList c2/\(∀c,c2=some c->∃sz' es,f c=.blk sz' es)/\(∀r∈rowsY,r.length=sz)/\∃(A:Option Addr) (m cap:Nat) (news:List Value),a.eval y'=.slice A m cap/\rowsY.length=m/\news.length=m*sz /\
   (0<m->∃ad,A=some ad/\∀j u,news[j]? = some u->w.cell? (ad.add j)=some u)/\(∀u∈news,u.oneCell'=true) /\
   (∀(i:Nat) (r:List D) (off:Nat) (d:D),rowsY[i]? = some r->r[off]? = some d->∃u,news[i*sz+off]? = some u/\gL F M ω ρ w c2 i off d u):=by
 have hyv:=hO.opd hy
 unfold fH at hr
 split at hr
 ·rename_i ey
  rw[ey]at hyv
  simp only[bC,aC,ae]at hyv
  exact⟨[],[],none,hr,rfl,fun c e=>(by cases e),by simp,none,0,0,[],hyv,rfl,by simp,fun h=>absurd h (by omega),by simp,fun i r off d h=>by simp at h⟩
 ·rename_i es ey
  rw[ey]at hyv
  have hyv':ae F M (.sl es) (a.eval y'):=hyv
  simp only[ae]at hyv'
  obtain⟨A,cap,vs,sz',e1,hcap,r,hs,ha⟩:=hyv'
  obtain⟨hu,hK⟩:=hr
  have hrl:=aZ.flat.1 r
  have hfl:es.flatten.length=es.length*sz:=by
   rw[List.length_flatten]
   have:es.map List.length=List.replicate es.length sz:=by
    rw[List.eq_replicate_iff]
    exact⟨by simp,fun x hx=>by obtain⟨e,he,rfl⟩:=x0w.1 hx;exact(hu e he).1⟩
   rw[this];simp
  refine⟨es,[],none,hK,rfl,fun c e=>(by cases e),fun r hr=>(hu r hr).1,A,es.length,cap,vs,e1,rfl,by rw[hrl.length,hfl],fun hm=>?_,fun u hu'=>?_,fun i r off d hi hr=>?_⟩
  ·obtain⟨ad,rfl,c⟩:=ha hm
   exact⟨ad,rfl,fun j u hj=>h.holds _ _ (c j u hj)⟩
  ·obtain⟨j,hj,e⟩:=x0K.1 hu'
   have hj2:j<es.flatten.length:=by rw[<- hrl.length];exact hj
   obtain⟨u',k1,k2⟩:=hrl.get (x0e hj2)
   have:u'=u:=by rw[x0e hj]at k1;simp at k1;rw[<- k1];exact e
   subst this
   obtain⟨e',he',hc⟩:=List.mem_flatten.1 (x0h hj2)
   exact oneCell_of k2 ((hu e' he').2 _ hc)
  ·have hsz:sz'=sz:=(hs r (x0g hi)).symm.trans (hu r (x0g hi)).1
   subst hsz
   have h1:=r |> fun _=>aZ.at_ (F:=F) (M:=M) ‹aZ F M es vs› hs hi
   obtain⟨u,k1,k2⟩:=h1.get hr
   rw[x1g]at k1
   split at k1
   ·rw[x0v]at k1
    exact⟨u,k1,cQ ((hu r (x0g hi)).2 d (x0g hr)),k2⟩
   ·cases k1
 ·rename_i p k n ey
  rw[ey,az rfl]at hyv
  simp only[aC]at hyv
  have real:∀{sz':Nat} {es:List (List D)},aX f p=some (sz',es)->sz'=sz->k+n<=es.length->(∀e∈(es.drop k).take n,∀c∈e,isC c=true) ->
    ∃(A:Option Addr) (cap:Nat) (news:List Value),a.eval y'=.slice A n cap/\news.length=n*sz/\(0<n->∃ad,A=some ad/\∀j u,news[j]? = some u->w.cell? (ad.add j)=some u)/\(∀u∈news,u.oneCell'=true)/\(∀r∈(es.drop k).take n,r.length=sz) /\
     (∀(i:Nat) (r:List D) (off:Nat) (d:D),((es.drop k).take n)[i]? = some r->r[off]? = some d->∃u,news[i*sz+off]? = some u/\pu F M ω ρ w p (k+i) off d u):=by
   rintro sz' es hg rfl hkn hC
   obtain⟨hP,_⟩:=hO.get (cY hO hg) hg
   have nil:n=0->∀A cap,a.eval y'=.slice A n cap->∃(A:Option Addr) (cap:Nat) (news:List Value),a.eval y'=.slice A n cap/\news.length=n*sz'/\(0<n->∃ad,A=some ad/\∀j u,news[j]? = some u->w.cell? (ad.add j)=some u)/\(∀u∈news,u.oneCell'=true)/\(∀r∈(es.drop k).take n,r.length=sz') /\
     (∀(i:Nat) (r:List D) (off:Nat) (d:D),((es.drop k).take n)[i]? = some r->r[off]? = some d->∃u,news[i*sz'+off]? = some u/\pu F M ω ρ w p (k+i) off d u):=by
    rintro rfl A cap e
    exact⟨A,cap,[],e,by simp,fun h=>absurd h (by omega),by simp,by simp,fun i r off d h=>by simp at h⟩
   rcases hyv with ⟨hn0,A,e1⟩|⟨cap,e1,hcap,hfit,hmc⟩
   ·exact nil hn0 A 0 (by rw[e1,hn0])
   ·rcases hP with ⟨he,_⟩|⟨hω,h0,vs,T,h1,h2,h3,h4,h5⟩
    ·exact nil (by rw[he]at hkn;simp at hkn;omega) _ cap e1
    ·rw[h0]at hfit e1
     have e3:(k+cap)*sz'=k*sz'+cap*sz':=x0I _ _ _
     have e4:n*sz'<=cap*sz':=x0q _ hcap
     have hvl:((vs.drop ((ρ p).base+k*sz')).take (n*sz')).length=n*sz':=by
      simp only[x06,x1I];omega
     have huR:∀r∈(es.drop k).take n,r.length=sz':=fun r hr=>h4 r (x1f (x0O hr))
     have cell:∀(i:Nat) (r:List D) (off:Nat) (d:D),((es.drop k).take n)[i]? = some r->r[off]? = some d->∃u,((vs.drop ((ρ p).base+k*sz')).take (n*sz'))[i*sz'+off]? = some u/\pu F M ω ρ w p (k+i) off d u:=by
      intro i r off d hi hr
      have hin:i<n:=by have:=(x0d.1 hi).1;simp at this;omega
      have hof:off<sz':=by rw[<- huR r (x0g hi)];exact(x0d.1 hr).1
      rw[x0D hin,x0v]at hi
      obtain⟨u,z1,z2⟩:=h5 (k+i) r off d hi hr
      refine⟨u,?_,z2⟩
      rw[getElem?_slice (gl hin hof),<- z1,x0I]
      congr 1
      omega
     refine⟨_,cap,_,e1,hvl,fun _=>⟨_,rfl,fun j u hj=>?_⟩,fun u hu=>?_,huR,cell⟩
     ·have hjl:j<n*sz':=by rw[<- hvl];exact(x0d.1 hj).1
      rw[getElem?_slice hjl]at hj
      rw[dy]
      simp[World.cell?,h1,hj]
     ·obtain⟨j,hj,e⟩:=x0K.1 hu
      have hjn:j<n*sz':=by omega
      have hz:0<sz':=by
       rcases x0X sz' with h|h
       ·subst h;simp at hjn
       ·exact h
      have hi:j/sz'<n:=(x1G hz).2 hjn
      have ho:j%sz'<sz':=x1P _ hz
      have hl:((es.drop k).take n).length=n:=by simp;omega
      have hr1:((es.drop k).take n)[j/sz']? = some (((es.drop k).take n)[j/sz']'(by omega)):=x0e _
      have hr2:=huR _ (x0g hr1)
      obtain⟨u',z1,z2⟩:=cell _ _ (j%sz') _ hr1 (x0e (by omega))
      rw[show j/sz'*sz'+j%sz'=j from by rw[x1b];exact x1u _ _]at z1
      rw[x0e hj]at z1
      simp only[x0s]at z1
      rw[<- e,z1]
      have hc:=hC _ (x0g hr1) _ (x0g (x0e (show j%sz'<(((es.drop k).take n)[j/sz']'(by omega)).length by omega)))
      cases p with
      | r b =>
       generalize (((es.drop k).take n)[j/sz']'(by omega))[j%sz']'(by omega)=dd at z2 hc
       by_cases hdo:isO dd=true
       ·cases dd<;>simp only[isO,x0o]at hdo
        obtain⟨z3,_⟩:=z2
        simp only[aC]at z3
        rcases z3 with ⟨_,A,rfl⟩|⟨cap,rfl,_⟩<;>rfl
       ·have hdo':isO dd=false:=by simpa using hdo
        have z4:cE F M ω ρ w b (k+j/sz') (j%sz') dd u':=z2
        rw[bx hdo']at z4
        exact oneCell_of z4 (by simpa[isC,hdo']using hc)
      | n b i0 o0 =>
       generalize (((es.drop k).take n)[j/sz']'(by omega))[j%sz']'(by omega)=dd at z2 hc
       have z4:ae F M dd u':=z2
       have hdo':isO dd=false:=by cases dd<;>first|rfl|(simp[ae]at z4)
       exact oneCell_of z4 (by simpa[isC,hdo']using hc)
  split at hr
  ·obtain⟨rfl,hr⟩:=hr
   split at hr
   ·rename_i b
    split at hr
    ·rename_i sz' es hf
     obtain⟨e2,e3,hC,hK⟩:=hr
     have hg:aX f (.r b)=some (sz',es):=by simp[aX,hf]
     have htake:(es.drop 0).take n=es:=by rw[List.drop_zero];exact x0i (by omega)
     obtain⟨A,cap,news,k1,k2,k3,k4,k5,k6⟩:=real hg e2 (by omega) (by rw[htake];exact hC)
     rw[htake]at k5 k6
     refine⟨es,[b],some b,hK,rfl,fun c e=>(by cases e;exact⟨_,_,hf⟩),k5,A,n,cap,news,k1,e3,k2,k3,k4,fun i r off d hi hr=>?_⟩
     obtain⟨u,z1,z2⟩:=k6 i r off d hi hr
     rw[x1a]at z2
     exact⟨u,z1,z2⟩
    ·exact hr.elim
   ·exact hr.elim
  ·split at hr
   ·rename_i sz' es hg
    obtain⟨e2,hkn,hC,hK⟩:=hr
    obtain⟨A,cap,news,k1,k2,k3,k4,k5,k6⟩:=real hg e2 hkn (fun e he c hc=>by simp[isC,hC e he c hc])
    refine⟨_,[],none,hK,rfl,fun c e=>(by cases e),k5,A,n,cap,news,k1,by simp;omega,k2,k3,k4,fun i r off d hi hr=>?_⟩
    obtain⟨u,z1,z2⟩:=k6 i r off d hi hr
    have hdo:=cQ (hC r (x0g hi) d (x0g hr))
    refine⟨u,z1,hdo,?_⟩
    cases p with
    | r b=>exact(bx hdo)▸(show cE F M ω ρ w b (k+i) off d u from z2)
    | n b i0 o0=>exact z2
   ·exact hr.elim
 ·exact hr.elim
end
end Go.Gv

namespace Go.Gv
variable[Drw]
open Go.RowKit
section
variable{P:Program}{F:Fid}{C:Nat->List D->D->List D->Prop}{nt:Nat}{S:Nat->Prop}{L:Ln}{w0:World}{M0:Mem}{f:Nat->D}{M:Mem}{a:Act}{w:World}{o:Oper}{d:D}{Q:Exit->Act->World->Prop}{ρ:Pa->Loc}{ω:Nat->Option Pa}{New:Nat->Prop}{K:List (Nat×D)->List (Nat×Bool)->Prop}
theorem w5{x y:List (Nat×D)}{s:Nat}:(x++y).lookup s=match x.lookup s with
  | some d=>some d
  | none=>y.lookup s:=by
 induction x with
 | nil=>rfl
 | cons p x ih =>
  obtain⟨k,d⟩:=p
  simp only[x1o,x0l]
  cases s==k with
  | true=>rfl
  | false=>exact ih
theorem Au{c2:Option Nat}{s:Nat}:(cM c2.toList).lookup s=if c2=some s then some .any else none:=by
 cases c2 with
 | none=>rfl
 | some c =>
  simp only[cM,Option.toList_some,x0F,x02,x0l,x0V]
  by_cases e:s=c
  ·subst e;simp
  ·have e1:(s==c)=false:=by simpa using e
   rw[e1,if_neg (fun h=>e (Option.some.inj h).symm)]
theorem sL{t b sz n m:Nat}{rows rowsY:List (List D)}{src:Option (Pa×Nat)}{c2:Option Nat}{wsS:List (Nat×D)}(hn:rows.length=n)(hm:rowsY.length=m)(ht:t<10000)(hb:10000<=b)(hbs:aO src≠some b)(hb2:c2≠some b)(h2:∀c,c2=some c->aO src≠some c)
  (hc2:∀c,c2=some c->10000<=c) (hcs:∀c,aO src=some c->10000<=c) (hS:∀s,aO src≠some s->wsS.lookup s=none) (hSr:∀c k,src=some (.r c,k)->wsS.lookup c=some .any)
  (hSn:∀c i o k,src=some (.n c i o,k)->∃sz0 es0,f c=.blk sz0 es0/\wsS.lookup c=some (.blk sz0 (bK es0 i o 1 [.any]))/\∃row0,es0[i]? = some row0/\o<row0.length) :
  HG f (eff ((t,.ref (.r b) 0 (n+m))::(b,.blk sz (rows++rowsY))::(wsS++cM c2.toList)) [(b,true)] f) t b sz n m rows rowsY src c2:=by
 have lk:∀s,s≠t->s≠b->((t,D.ref (.r b) 0 (n+m))::(b,.blk sz (rows++rowsY))::(wsS++cM c2.toList)).lookup s=match wsS.lookup s with
   | some d=>some d
   | none=>if c2=some s then some .any else none:=fun s h1 h2=>by
  have e1:(s==t)=false:=by simpa using h1
  have e2:(s==b)=false:=by simpa using h2
  simp only[x0l,e1,e2]
  rw[w5,Au]
 refine⟨hn,hm,hbs,hb2,h2,aP (by simp),aP ?_,fun s hs hst=>?_,fun c hc hcb h3 h4=>?_,fun c hc=>?_,fun c k hs=>?_,fun c i o k hs=>?_⟩
 ·have e1:(b==t)=false:=by simp;omega
  simp only[x0l,e1,beq_self_eq_true]
 ·refine bO ?_
  rw[lk s hst (by omega),hS s (fun e=>by have:=hcs s e;omega),if_neg (fun e=>by have:=hc2 s e;omega)]
 ·refine ca ?_
  rw[lk c (by omega) hcb,hS c h3,if_neg h4]
 ·rw[aP (d:=.any)]
  ·rfl
  ·have:=hc2 c hc
   rw[lk c (by omega) (fun e=>hb2 (by rw[hc,e])),hS c (h2 c hc),if_pos hc]
 ·have h5:aO src=some c:=by rw[hs];rfl
  have:=hcs c h5
  rw[aP (d:=.any)]
  ·rfl
  ·rw[lk c (by omega) (fun e=>hbs (by rw[h5,e])),hSr c k hs]
 ·have h5:aO src=some c:=by rw[hs];rfl
  have:=hcs c h5
  obtain⟨sz0,es0,h6,h7,h8⟩:=hSn c i o k hs
  refine⟨sz0,es0,h6,aP ?_,h8⟩
  rw[lk c (by omega) (fun e=>hbs (by rw[h5,e])),h7]
theorem yI(h:SR F nt S L w0 M0 f M a w){t:Nat}(hd:o.dst=some t)(ht:t<nt)(hL:L (rt t 0)=none){sz by_:Nat}{mv:Bool}{x y:Opd}{x' y':Operand}{T ty:TypeId}(ho:o.op=.call { callee:=.builtin .append,args:=#[x',y'],argTypes:=#[T,T] })(hty:o.type=ty)(hx:ao F x x'=true)(hy:ao F y y'=true)
  (hk:xN P T sz by_=true) (hr:aG C f (some t) K (.app sz by_ mv x y)):o.wp P a w (PostX F nt S L w0 M0 f K) Q:=by
 simp only[aG]at hr
 obtain⟨ρ,ω,hO⟩:=h.own
 have ht10:t<10000:=by have:=h.hnt;omega
 obtain⟨rowsY,bs,c2,⟨hbs,hK⟩,rfl,hc2,huY,A2,m,cap2,news,ey,hm,hnl,hA2,hone,hY⟩:=qD h hO hy hr
 have hb2:c2≠some (rt t 0):=by
  rintro rfl
  simp at hbs
 have hc2b:∀c,c2=some c->10000<=c:=fun c e=>by obtain⟨_,_,e2⟩:=hc2 c e;exact hO.big e2
 unfold xN at hk
 split at hk
 ·rename_i e hu
  split at hk
  ·rename_i i hi
   simp only[x0a,x0r,x0b]at hk
   obtain⟨⟨⟨⟨hs,hby⟩,hb0⟩,hs0⟩,hz⟩:=hk
   split at hz
   ·rename_i z hzero
    simp only[x0r]at hz
    subst hs
    subst hby
    subst hm
    have fin:∀{n:Nat} {rows:List (List D)} {src:Option (Pa×Nat)} {wsS:List (Nat×D)},(n+rowsY.length)*i.bytes<=140737488355328->HG f (eff ((t,.ref (.r (rt t 0)) 0 (n+rowsY.length))::(rt t 0,.blk i.size (rows++rowsY))::(wsS++cM c2.toList)) [(rt t 0,true)] f) t (rt t 0) i.size n rowsY.length rows rowsY src c2 ->
      BE f i.size n rows (vd f x) src->(∀p k,src=some (p,k)->10000<=p.root)->isX (vd f x)=false->K ((t,.ref (.r (rt t 0)) 0 (n+rowsY.length))::(rt t 0,.blk i.size (rows++rowsY))::(wsS++cM c2.toList)) [(rt t 0,true)]->o.wp P a w (PostX F nt S L w0 M0 f K) Q:=by
     intro n rows src wsS hbytes hF hsrc hp0 hX hK
     have r0:=hO.opd hx
     rw[az hX]at r0
     obtain⟨A,cap,olds,g1,g2,g3,g4,g5,g6,g7⟩:=h.app hO (e:=e) ht hL hs0 hF hsrc hp0 r0 huY hnl hY
     have h63:n+rowsY.length<=9223372036854775807:=by
      have:(n+rowsY.length)*1<=(n+rowsY.length)*i.bytes:=Nat.mul_le_mul_left _ hb0
      omega
     obtain⟨v',w',k1,k2⟩:=qE (P:=P) (w:=w) T ty e i z hu hi hzero hz A n cap olds g2 g3 g4 g5 A2 rowsY.length cap2 news hnl hA2 hone g6 hbytes h63
     refine postX_val hd (v:=v') (w':=w') ?_ hK (g7 v' w' k2)
     simp only[execOp,ho,hty,resolve,invoke,builtin,x1Q,x0F,x02,g1,ey,Sem.run_bind,Sem.run_pure,Result.andThen_ok,k1]
    split at hK
    ·rename_i ex
     obtain⟨hbytes,hK⟩:=hK
     refine fin (n:=0) (rows:=[]) (src:=none) (wsS:=[]) (by simpa using hbytes) (sL rfl rfl ht10 (rt_big t 0) (by simp[aO]) hb2 (by simp[aO]) hc2b (by simp[aO]) (by simp) (by simp) (by simp)) (by rw[ex];exact⟨rfl,rfl,rfl⟩) (by simp) (by rw[ex];rfl) (by simpa using hK)
    ·rename_i c k n ex
     obtain⟨hcb,hcbs,hK⟩:=hK
     split at hK
     ·rename_i sz' es hf
      obtain⟨rfl,hkn,hbytes,hK⟩:=hK
      have hcbig:=hO.big hf
      have hl:((es.drop k).take n).length=n:=by simp;omega
      refine fin (n:=n) (rows:=(es.drop k).take n) (src:=some (.r c,k)) (wsS:=[(c,.any)]) hbytes (sL hl rfl ht10 (rt_big t 0) (by simpa[aO,Pa.root]using hcb) hb2 (fun c' e'=>?_) hc2b (fun c' e'=>?_) (fun s hs=>fN (fun e'=>hs (by rw[e'];rfl))) (fun c' k' e'=>?_) (by simp)) (by rw[ex];exact⟨rfl,rfl,es,by simp[aX,hf],hkn,rfl⟩) (fun p k' e'=>by cases e';exact hcbig) (by rw[ex];rfl) hK
      ·simp only[aO,Pa.root,ne_eq,x0s]
       rintro rfl
       rw[e']at hcbs;simp at hcbs
      ·simp only[aO,Pa.root,x0s]at e';omega
      ·cases e';simp
     ·exact hK.elim
    ·rename_i c i0 o0 k n ex
     obtain⟨hcb,hcbs,hK⟩:=hK
     split at hK
     ·rename_i sz0 es0 hf
      obtain⟨row0,hi0,es,ho0,hkn,hbytes,hK⟩:=hK
      have hcbig:=hO.big hf
      have hl:((es.drop k).take n).length=n:=by simp;omega
      refine fin (n:=n) (rows:=(es.drop k).take n) (src:=some (.n c i0 o0,k)) (wsS:=[(c,.blk sz0 (bK es0 i0 o0 1 [.any]))]) hbytes (sL hl rfl ht10 (rt_big t 0) (by simpa[aO,Pa.root]using hcb) hb2 (fun c' e'=>?_) hc2b (fun c' e'=>?_) (fun s hs=>fN (fun e'=>hs (by rw[e'];rfl))) (by simp) (fun c' i' o' k' e'=>?_)) (by rw[ex];exact⟨rfl,rfl,es,by simp[aX,hf,hi0,ho0],hkn,rfl⟩) (fun p k' e'=>by cases e';exact hcbig) (by rw[ex];rfl) hK
      ·simp only[aO,Pa.root,ne_eq,x0s]
       rintro rfl
       rw[e']at hcbs;simp at hcbs
      ·simp only[aO,Pa.root,x0s]at e';omega
      ·cases e'
       exact⟨sz0,es0,hf,by simp,row0,hi0,(x0d.1 ho0).1⟩
     ·exact hK.elim
    ·exact hK.elim
   ·cases hz
  ·cases hk
 ·cases hk
end
end Go.Gv

namespace Go.Gv
variable [Drw]
open Go.RowKit
open Go.Maps (Keyed IsMap)
def intTy (P : Program) (q : IntKind) (t : TypeId) : Bool := match P.underlying t with
 | some (.int q') => q' == q
 | _ => false
def shOk (P : Program) (k : TypeId) : KSh -> Bool
 | .int q => intTy P q k
 | .str => match P.underlying k with
  | some .string => true
  | _ => false
 | .bool => match P.underlying k with
  | some .bool => true
  | _ => false
 | .ints q n => P.keyType k && decide (k < P.types.size) && P.keyTypeAt 3 k && P.cellsOf k == n && match P.underlying k with
  | some (.array n' e) => n' == n && intTy P q e && P.cellsOf e == 1
  | some (.struct fs) => fs.size == n && fs.toList.zipIdx.all fun p => p.1.offset == p.2 && intTy P q p.1.type && P.cellsOf p.1.type == 1 && p.1.name != "_"
  | _ => false
theorem intTy_u {P : Program} {q : IntKind} {t : TypeId} (h : intTy P q t = true) : P.underlying t = some (.int q) := by
 unfold intTy at h
 split at h
 ·rename_i q' e; simp only [x0r] at h; rw [e, h]
 ·cases h
theorem sh_keyed {P : Program} {k : TypeId} {sh : KSh} (hl : laidOutB P = true) (h : shOk P k sh = true) : Keyed P k := by
 cases sh with
 | int q => exact Maps.int_keyed (intTy_u h)
 | str =>
  simp only [shOk] at h
  split at h
  ·rename_i e; exact Maps.string_keyed e
  ·cases h
 | bool =>
  simp only [shOk] at h
  split at h
  ·rename_i e; exact Maps.bool_keyed e
  ·cases h
 | ints q n =>
  simp only [shOk, x0a, x0b] at h
  obtain ⟨⟨⟨⟨h1, h2⟩, h3⟩, h4⟩, h5⟩ := h
  refine Keyed.of_law (deep_law_laid hl (m := 3) (by omega) h2 h3 ?_)
  split at h5
  ·rename_i e; rw [e]
  ·rename_i e; rw [e]
  ·cases h5
theorem mapM_isSome {α β : Type} {f : α -> Option β} : ∀ (l : List α), (∀ x ∈ l, ∃ y, f x = some y) -> ∃ ys, l.mapM f = some ys
 | [], _ => ⟨[], rfl⟩
 | x :: l, h => by
  obtain ⟨y, hy⟩ := h x (by simp)
  obtain ⟨ys, hys⟩ := mapM_isSome l (fun y hy => h y (by simp [hy]))
  exact ⟨y :: ys, by rw [List.mapM_cons, hy, hys]; rfl⟩
theorem sh_key {P : Program} {F : Fid} {M : Mem} {k : TypeId} {sh : KSh} {d : D} {v : Value} (h : shOk P k sh = true) (hd : eS sh d) (r : ae F M d v) : ∃ kl, keyOf P k v = some kl := by
 cases sh with
 | int q =>
  cases d <;> simp only [eS] at hd
  obtain ⟨rfl, hw⟩ := hd
  simp only [ae] at r
  subst r
  exact ⟨_, Maps.keyOf_int_mk (intTy_u h) hw⟩
 | str =>
  cases d <;> simp only [eS] at hd
  simp only [ae] at r
  subst r
  simp only [shOk] at h
  split at h
  ·rename_i e; exact ⟨_, by rw [keyOf, e]; simp only [mapKey, e]; rw [if_pos (by simpa [ByteArray.size] using hd)]⟩
  ·cases h
 | bool =>
  cases d <;> simp only [eS] at hd
  simp only [ae] at r
  subst r
  simp only [shOk] at h
  split at h
  ·rename_i e; exact ⟨_, Maps.keyOf_bool_mk e _⟩
  ·cases h
 | ints q n =>
  cases d <;> simp only [eS] at hd
  rename_i ds
  obtain ⟨hn, hd⟩ := hd
  simp only [ae] at r
  obtain ⟨vs, rfl, r⟩ := r
  simp only [shOk, x0a, x0b, x0r] at h
  obtain ⟨⟨⟨⟨h1, h2⟩, h3⟩, h4⟩, h5⟩ := h
  have hl : vs.length = n := by rw [r.length, hn]
  have one : ∀ (e : TypeId) (i : Nat), intTy P q e = true -> i < n -> P.keyLits P.types.size e ((vs.drop i).take 1) = none -> False := by
   intro e i he hi hnone
   have hi' : i < ds.length := by omega
   obtain ⟨v, hv, rv⟩ := r.get (x0e hi')
   obtain ⟨x, hx, hw⟩ := hd _ (x0h hi')
   rw [hx] at rv
   simp only [ae] at rv
   have ht : (vs.drop i).take 1 = [v] := by
    obtain ⟨hlt, e1⟩ := x0d.1 hv
    rw [List.drop_eq_getElem_cons hlt, e1]
    simp
   rw [ht, rv] at hnone
   obtain ⟨m, hm⟩ : ∃ m, P.types.size = m + 1 := ⟨P.types.size - 1, by have : 0 < P.types.size := Nat.lt_of_le_of_lt (Nat.zero_le k) h2; omega⟩
   rw [hm] at hnone
   simp only [Program.keyLits, intTy_u he] at hnone
   rw [if_pos (by exact ⟨trivial, hw⟩)] at hnone
   cases hnone
  have one' : ∀ (e : TypeId) (i : Nat), intTy P q e = true -> i < n -> ∃ y, P.keyLits P.types.size e ((vs.drop i).take 1) = some y := fun e i he hi => by
   cases hk : P.keyLits P.types.size e ((vs.drop i).take 1) with
   | none => exact (one e i he hi hk).elim
   | some y => exact ⟨y, rfl⟩
  have lits : ∃ ls, P.keyLits (P.types.size + 1) k vs = some ls := by
   unfold Program.keyLits
   split at h5
   ·rename_i n' e hu
    simp only [x0a, x0r] at h5
    obtain ⟨⟨rfl, he⟩, hc⟩ := h5
    rw [hu]
    simp only
    rw [if_pos (by rw [h4, hl])]
    obtain ⟨ys, hys⟩ := mapM_isSome (f := fun i => P.keyLits P.types.size e ((vs.drop (i * P.cellsOf e)).take (P.cellsOf e))) (List.range n') (fun i hi => by
     rw [hc, Nat.mul_one]; exact one' e i he (by simpa using hi))
    rw [hys]
    exact ⟨_, rfl⟩
   ·rename_i fs hu
    simp only [x0a, x0r, x0f] at h5
    obtain ⟨hs, hf⟩ := h5
    have fld : ∀ f ∈ fs.toList, ∃ i, i < n /\ f.offset = i /\ intTy P q f.type = true /\ P.cellsOf f.type = 1 /\ (f.name != "_") = true := fun f hfm => by
     obtain ⟨i, hi, e⟩ := x0K.1 hfm
     have := hf (f, i) (List.mem_zipIdx_iff_getElem?.2 (by rw [x0e hi, e]))
     simp only at this
     exact ⟨i, by simpa [hs] using hi, this.1.1.1, this.1.1.2, this.1.2, this.2⟩
    rw [hu]
    simp only
    have hall : (fs.all fun x => x.name != "_") = true := by
     rw [<- Array.all_toList, x0f]
     intro f hfm
     obtain ⟨_, _, _, _, _, h⟩ := fld f hfm
     exact h
    rw [if_pos ⟨by rw [h4, hl], hall⟩]
    obtain ⟨ys, hys⟩ := mapM_isSome (f := fun f : Field => P.keyLits P.types.size f.type ((vs.drop f.offset).take (P.cellsOf f.type))) fs.toList (fun f hfm => by
     obtain ⟨i, hi, e1, e2, e3, _⟩ := fld f hfm
     rw [e1, e3]; exact one' _ i e2 hi)
    rw [hys]
    exact ⟨_, rfl⟩
   ·cases h5
  obtain ⟨ls, hls⟩ := lits
  have hform : (Value.agg vs.toArray).formed P k = true := by
   unfold Value.formed
   split at h5
   ·rename_i e; simp only [e]; simp [h4, hl]
   ·rename_i e; simp only [e]; simp [h4, hl]
   ·cases h5
  refine ⟨.string (keyBytes ls), ?_⟩
  unfold keyOf
  split at h5
  ·rename_i e
   rw [e]
   simp only [h1, hform, Bool.and_self, if_true, Value.cells, List.toList_toArray, hls]
   rfl
  ·rename_i e
   rw [e]
   simp only [h1, hform, Bool.and_self, if_true, Value.cells, List.toList_toArray, hls]
   rfl
  ·cases h5
theorem keyOk_fl {sh : KSh} {d : D} (h : eS sh d) : jU d = true := by
 cases sh <;> cases d <;> simp only [eS] at h <;> try rfl
 rename_i ds
 simp only [jU, x0f]
 intro x hx
 obtain ⟨y, rfl, _⟩ := h.2 x hx
 rfl
theorem eqD1_iff {F : Fid} {M M' : Mem} {x k : D} {u v : Value} (hx : fl1 x = true) (hk : fl1 k = true) (ru : ae F M x u) (rv : ae F M' k v) : uO x k = true ↔ u = v := by
 cases x <;> simp only [fl1, x0o] at hx <;> cases k <;> simp only [fl1, x0o] at hk <;> simp only [ae] at ru rv <;> subst ru <;> subst rv <;> simp [uO]
theorem eqDs_iff {F : Fid} {M M' : Mem} : ∀ {xs ks : List D} {us vs : List Value}, xs.all fl1 = true -> ks.all fl1 = true -> av F M xs us -> av F M' ks vs -> (wB xs ks = true ↔ us = vs)
 | [], [], us, vs, _, _, ru, rv => by simp only [av] at ru rv; subst ru; subst rv; simp [wB]
 | [], k :: ks, us, vs, _, _, ru, rv => by
  simp only [av] at ru rv
  obtain ⟨v, r, rfl, _⟩ := rv
  subst ru
  simp [wB]
 | x :: xs, [], us, vs, _, _, ru, rv => by
  simp only [av] at ru rv
  obtain ⟨v, r, rfl, _⟩ := ru
  subst rv
  simp [wB]
 | x :: xs, k :: ks, us, vs, hx, hk, ru, rv => by
  simp only [av] at ru rv
  obtain ⟨u, us', rfl, r1, r2⟩ := ru
  obtain ⟨v, vs', rfl, r3, r4⟩ := rv
  simp only [List.all_cons, x0a] at hx hk
  simp only [wB, x0a, List.cons.injEq]
  rw [eqD1_iff hx.1 hk.1 r1 r3, eqDs_iff hx.2 hk.2 r2 r4]
theorem eqD_iff {F : Fid} {M M' : Mem} {x k : D} {u v : Value} (hx : jU x = true) (hk : jU k = true) (ru : ae F M x u) (rv : ae F M' k v) : eqD x k = true ↔ u = v := by
 have pl : ∀ {d : D} {w : Value} {M : Mem}, fl1 d = true -> ae F M d w -> ∀ vs, w ≠ .agg vs := fun {d w M} h r vs e => by
  cases d <;> simp only [fl1, x0o] at h <;> simp only [ae] at r <;> rw [r] at e <;> cases e
 by_cases ax : ∃ xs, x = .agg xs
 ·obtain ⟨xs, rfl⟩ := ax
  simp only [ae] at ru
  obtain ⟨us, rfl, ru⟩ := ru
  by_cases ak : ∃ ks, k = .agg ks
  ·obtain ⟨ks, rfl⟩ := ak
   simp only [ae] at rv
   obtain ⟨vs, rfl, rv⟩ := rv
   simp only [jU] at hx hk
   have := eqDs_iff hx hk ru rv
   simp only [eqD]
   rw [this]
   constructor
   ·rintro rfl; rfl
   ·intro h
    injection h with h
    simpa using h
  ·have hk1 : fl1 k = true := by
    cases k <;> first | exact hk | (exact absurd ⟨_, rfl⟩ ak)
   have e1 : eqD (.agg xs) k = uO (.agg xs) k := by
    cases k <;> first | rfl | (exact absurd ⟨_, rfl⟩ ak)
   have e2 : uO (.agg xs) k = false := by cases k <;> rfl
   rw [e1, e2]
   exact ⟨fun h => absurd h (by simp), fun h => absurd h.symm (pl hk1 rv _)⟩
 ·have hx1 : fl1 x = true := by
   cases x <;> first | exact hx | (exact absurd ⟨_, rfl⟩ ax)
  by_cases ak : ∃ ks, k = .agg ks
  ·obtain ⟨ks, rfl⟩ := ak
   simp only [ae] at rv
   obtain ⟨vs, rfl, rv⟩ := rv
   have e1 : eqD x (.agg ks) = false := by
    cases x <;> first | rfl | (exact absurd ⟨_, rfl⟩ ax)
   rw [e1]
   exact ⟨fun h => absurd h (by simp), fun h => absurd h (pl hx1 ru _)⟩
  ·have hk1 : fl1 k = true := by
    cases k <;> first | exact hk | (exact absurd ⟨_, rfl⟩ ak)
   have e1 : eqD x k = uO x k := by
    cases x <;> first | rfl | (exact absurd ⟨_, rfl⟩ ax)
   rw [e1]
   exact eqD1_iff hx1 hk1 ru rv
section
variable {F : Fid} {kt et : Nat}
theorem oJ.isMap : ∀ {ks vs : List D} {d : DataW Empty}, oJ F kt et ks vs d -> IsMap d
 | [], [], d, h => ⟨[], h⟩
 | [], _ :: _, d, h => h.elim
 | _ :: _, [], d, h => h.elim
 | k :: ks, v :: vs, d, h => by
  obtain ⟨d', kv, kl, vv, vd, h1, rfl, _⟩ := h
  exact (oJ.isMap h1).put _ _
theorem oJ.at_ (K : Keyed F.P (F.ty kt)) {M : Mem} {x : D} {xv : Value} {xl : Lit} (hx : jU x = true) (rx : ae F M x xv) (hk : keyOf F.P (F.ty kt) xv = some xl) : ∀ {ks vs : List D} {d : DataW Empty}, oJ F kt et ks vs d -> (∀ k ∈ ks, jU k = true) ->
  (ee ks vs x = none /\ Maps.has d xl = false) \/ ∃ v vv vd, ee ks vs x = some v /\ Maps.has d xl = true /\ ae F (fun _ => none) v vv /\ plainElem F.P (F.ty et) vv = some (vd, []) /\ ∀ z, d.atKey xl z = vd
 | [], [], d, h, _ => by
  simp only [oJ] at h
  subst h
  exact .inl ⟨rfl, rfl⟩
 | [], _ :: _, d, h, _ => h.elim
 | _ :: _, [], d, h, _ => h.elim
 | k :: ks, v :: vs, d, h, hf => by
  obtain ⟨d', kv, kl, vv, vd, h1, rfl, h3, h4, h5, h6⟩ := h
  have he := eqD_iff hx (hf k (by simp)) rx h3
  simp only [ee]
  cases hb : eqD x k with
  | true =>
   have e1 : xv = kv := he.1 hb
   subst e1
   rw [hk] at h4
   cases h4
   right
   exact ⟨v, vv, vd, rfl, Maps.has_put_same (oJ.isMap h1) (K.key hk) _, h5, h6, fun z => Maps.atKey_put_same (oJ.isMap h1) (K.key hk) _ z⟩
  | false =>
   have hne : xl ≠ kl := fun e => by
    subst e
    have := K.inj hk h4
    rw [he.2 this] at hb
    cases hb
   simp only [x0o, if_false]
   rw [Maps.has_put_other hne]
   rcases oJ.at_ K hx rx hk h1 (fun k hk => hf k (by simp [hk])) with h7 | ⟨v', vv', vd', g1, g2, g3, g4, g5⟩
   ·exact .inl h7
   ·exact .inr ⟨v', vv', vd', g1, g2, g3, g4, fun z => (Maps.atKey_put_other hne _ z).trans (g5 z)⟩
end
def mapOk (F : Fid) (t kt et : Nat) (sh : KSh) (z : D) : Bool := shOk F.P (F.ty kt) sh && (match F.P.underlying t with
  | some (.map k e) => k == F.ty kt && e == F.ty et
  | _ => false) && match F.P.info? (F.ty et), F.P.underlying (F.ty et), z with
   | some i, some (.int q), .int q' n => q == q' && n == 0 && (match i.zero with
    | some (.int q'' n'') => q'' == q && n'' == 0
    | _ => false)
   | some i, some .bool, .bool b => b == false && (match i.zero with
    | some (.bool b) => b == false
    | _ => false)
   | some i, some .string, .str s => s.isEmpty && (match i.zero with
    | some (.string s) => s.data.toList.isEmpty
    | _ => false)
   | _, _, _ => false
section
variable {P : Program} {F : Fid} {nt : Nat} {S : Nat -> Prop} {L : Ln} {w0 : World} {M0 : Mem} {f : Nat -> D} {M : Mem} {a : Act} {w : World} {o : Oper} {d : D} {Q : Exit -> Act -> World -> Prop} {ρ : Pa -> Loc} {ω : Nat -> Option Pa} {New : Nat -> Prop} {C : Nat -> List D -> D -> List D -> Prop} {K : List (Nat × D) -> List (Nat × Bool) -> Prop}
theorem wp_skip_map {K : Act -> World -> Prop} {w' : World} (h : (execOp a.eval o).run P w = .ok .skip w') (hk : K (a.put o.dst undef) w') : o.wp P a w K Q := by
 unfold Oper.wp
 rw [h]
 exact hk
theorem plain_inj {e : TypeId} {u v : Value} {d : DataW Empty} {ps qs : List MemPlace} (hu : plainElem P e u = some (d, ps)) (hv : plainElem P e v = some (d, qs)) : u = v := by
 unfold plainElem at hu hv
 split at hu
 ·rename_i he
  rw [he] at hv
  cases v <;> simp only [reduceCtorEq] at hv
  simp only [x0s, Prod.mk.injEq] at hu hv
  have := hu.1.trans hv.1.symm
  cases this
  rfl
 ·rename_i he
  split at hu
  ·rename_i h1
   rw [he] at hv
   cases v <;> simp only [reduceCtorEq] at hv
   split at hv
   ·rename_i h2
    simp only [x0s, Prod.mk.injEq] at hu hv
    have := hu.1.trans hv.1.symm
    obtain ⟨rfl, _⟩ := h1
    obtain ⟨rfl, _⟩ := h2
    cases this
    rfl
   ·cases hv
  ·cases hu
 ·rename_i he
  split at hu
  ·rw [he] at hv
   cases v <;> simp only [reduceCtorEq] at hv
   split at hv
   ·rename_i s1 _ s2 _
    simp only [x0s, Prod.mk.injEq] at hu hv
    have := hu.1.trans hv.1.symm
    injection this with this
    injection this with this
    obtain ⟨s1⟩ := s1
    obtain ⟨s2⟩ := s2
    simp only at this
    rw [Array.ext' this.symm]
   ·cases hv
  ·cases hu
 ·cases hu
theorem Own.bigM (h : Own F L New f M a w ρ ω) {b kt et : Nat} {ks vs : List D} (e : f b = .mp kt et ks vs) : 10000 <= b := by
 rcases x1q b 10000 with hb | hb
 ·rcases h.slots b hb with h1 | ⟨v, _, h1⟩
  ·rw [e] at h1; cases h1
  ·rw [e] at h1; simp [bC, aC, ae] at h1
 ·exact hb
theorem snd_mkm (h : SR F nt S L w0 M0 f M a w) {t : Nat} (hd : o.dst = some t) (ht : t < nt) (hL : L (rt t 0) = none) {kt et : Nat} {T : TypeId} (ho : o.op = .makeMap T none)
  (hr : K [(t, .mrf (rt t 0)), (rt t 0, .mp kt et [] [])] [(rt t 0, true)]) : o.wp P a w (PostX F nt S L w0 M0 f K) Q := by
 have hrun : (execOp a.eval o).run P w = .ok (.value (.map (some w.heap.size))) (w.alloc (.map #[] 0)) := by
  simp only [execOp, ho, Option.map_none, Sem.run_bind, run_makeMap, Result.andThen_ok, Sem.run_pure]
 refine postX_val (M := M) hd hrun hr ?_
 have hbw := alloc_below w (.map #[] 0)
 have hs : (w.alloc (.map #[] 0)).heap.size = w.heap.size + 1 := by simp
 have hb0 := rt_big t 0
 generalize hb : rt t 0 = b at *
 refine { hnt := h.hnt, size := by simp [Act.put, h.size], defers := by simp [Act.put, h.defers], ch := h.ch.trans (Ch.of_below hbw (fun _ => False)) (fun _ _ e => e.elim), holds := fun p v hp => ?_, ext := h.ext, fresh := h.fresh, own := ?_ }
 ·have h1 := h.holds p v hp
  rw [hbw.cell (World.block_lt_of_cell? w p h1)]
  exact h1
 ·obtain ⟨ρ, ω, hO⟩ := h.own
  have ht10 : t < 10000 := by have := h.hnt; omega
  have lk : ∀ s, s ≠ t -> s ≠ b -> [(t, D.mrf b), (b, .mp kt et [] [])].lookup s = none := fun s h1 h2 => by
   have e1 : (s == t) = false := by simpa using h1
   have e2 : (s == b) = false := by simpa using h2
   simp only [x0l, e1, e2, x0V]
  have lkb : [(t, D.mrf b), (b, .mp kt et [] [])].lookup b = some (.mp kt et [] []) := by
   have e1 : (b == t) = false := by simp; omega
   simp only [x0l, e1, beq_self_eq_true]
  have hMn : ∀ p : Addr, p.block = w.heap.size -> M p = none := fun p hp => by
   rcases hq : M p with _ | u
   ·rfl
   ·have := World.block_lt_of_cell? w p (h.holds p u hq); omega
  refine ⟨_, _, hO.move (b := b) (nb := some w.heap.size) (π := fun _ => none) (ρb := fun p => match p with | .r _ => ⟨w.heap.size, 0, 0, 0⟩ | .n _ _ _ => ρ p) (ks := [(b, true)]) (fun p p' q e => (by cases e)) (fun p q e => (by cases e)) (fun k e => ?_) hbw.size (fun p hp hne => ⟨(b, true), by simp, ?_⟩) (Mem.le_refl _) hO.apart (fun s hs' => ?_) (fun k q hk _ _ => hbw.block k (hO.lt k q hk))
   (fun c hc hcb => ?_) (fun _ _ => .inr ⟨kt, et, [], [], aP lkb, ?_⟩) (fun l' e _ => by rw [hL] at e; cases e)⟩
  ·cases e
   exact ⟨x0k _, by omega, .inr h.ch.size, hMn⟩
  ·cases p with
   | r c => simp only [Pa.root] at hp; simp [cy, hp]
   | n c i off => exact absurd rfl hne
  ·by_cases e : s = t
   ·subst e
    refine .inr (.inr ⟨_, getElem?_put_same (by rw [h.size]; exact ht), ?_⟩)
    rw [aP (d := .mrf b) (by simp), az rfl]
    simp [aC, mvρ, Pa.root]
   ·left
    rcases bO (f := f) (ks := [(b, true)]) (lk s e (by omega)) with h2 | h2
    ·exact .inl h2
    ·exact .inr ⟨h2.1, getElem?_put e, h2.2⟩
  ·exact ca (lk c (by omega) hcb)
  ·have e1 : mvρ b (fun p => match p with | .r _ => (⟨w.heap.size, 0, 0, 0⟩ : Loc) | .n _ _ _ => ρ p) ρ (.r b) = ⟨w.heap.size, 0, 0, 0⟩ := by simp [mvρ, Pa.root]
   refine ⟨by rw [e1]; exact tw rfl, ?_⟩
   rw [e1]
   exact ⟨0, .map [], x0k _, World.ownsMap_made w _ _ _, by simp, rfl⟩
theorem SR.mapPut (h : SR F nt S L w0 M0 f M a w) (hO : Own F L (qW S w0) f M a w ρ ω) {b kt et : Nat} {ks vs ks' vs' : List D} (hf : f b = .mp kt et ks vs) {w' : World} {es : Array MapEntry} {clock : Nat} (hw : w' = ChangeMaps.setBlock w (ρ (.r b)).blk (.map es clock)) (hm : HJ F w' (ρ (.r b)).blk kt et ks' vs') :
  SR F nt S L w0 M0 (eff [(b, .mp kt et ks' vs')] [] f) M a w' := by
 have hb := hO.bigM hf
 have hroot := hO.maps b kt et ks vs hb hf
 obtain ⟨hω, n0, d0, hn0, hown, hfl, hmd⟩ := hroot
 have hlt := hown.lt
 obtain ⟨es0, cl0, hb0, _⟩ := hown
 have rest : ∀ k, k ≠ (ρ (.r b)).blk -> w'.heap[k]? = w.heap[k]? := fun k hk => by rw [hw]; exact ChangeMaps.heap_setBlock_other hb0 _ hk
 have hsz : w'.heap.size = w.heap.size := by rw [hw]; simp [ChangeMaps.setBlock]
 have hMb : ∀ p : Addr, p.block = (ρ (.r b)).blk -> M p = none := fun p hp => hO.apart p (.r b) (by rw [hp]; exact hω)
 have hfb : eff [(b, .mp kt et ks' vs')] [] f b = .mp kt et ks' vs' := aP (by simp)
 have lk : ∀ s, s ≠ b -> [(b, D.mp kt et ks' vs')].lookup s = none := fun s h1 => by
  have e1 : (s == b) = false := by simpa using h1
  simp only [x0l, e1, x0V]
 refine { hnt := h.hnt, size := h.size, defers := h.defers, ch := sR h.ch (hO.new _ _ hω) rest hsz (by rw [hw]; rfl) (by rw [hw]; rfl) (by rw [hw]; rfl) (by rw [hw]; exact .of (x0k _)), holds := fun p v hp => ?_, ext := h.ext, fresh := h.fresh, own := ⟨ρ, ω, ?_⟩ }
 ·have hne : p.block ≠ (ρ (.r b)).blk := fun e => by rw [hMb p e] at hp; cases hp
  rw [World.cell?_of_block (rest _ hne)]
  exact h.holds p v hp
 ·refine hO.step (ks := []) (fun p hp => absurd rfl hp) (Mem.le_refl _) (Nat.le_of_eq hsz.symm) (fun t ht => .inl ?_) (fun c hc => ?_) (fun k p e => .inl ⟨p, e⟩) hO.apart (fun c l hc hl hB => ⟨rfl, ?_⟩)
  ·rcases bO (f := f) (ks := []) (lk t (by omega)) with h2 | h2
   ·exact .inl h2
   ·exact .inr ⟨h2.1, rfl, h2.2⟩
  ·by_cases e : c = b
   ·subst e
    exact .inr (.inr ⟨kt, et, ks', vs', hfb, hω, hm⟩)
   ·rcases bO (f := f) (ks := []) (lk c e) with h2 | h2
    ·exact .inl (.inl (by rw [h2]; rfl))
    ·exact .inl (.inr ⟨h2.1, fun p hp => ⟨rfl, fun ho => ⟨ho, rest _ (fun e' => by
      rw [e', hω] at ho
      cases ho
      exact e hp.symm)⟩⟩⟩)
  ·by_cases e : c = b
   ·subst e; rw [hf]; rfl
   ·rcases bO (f := f) (ks := []) (lk c e) with h2 | h2
    ·rw [h2] at hB; cases hB
    ·rw [<- h2.1]; exact hB
theorem mapOk_ty {t kt et : Nat} {sh : KSh} {z : D} (h : mapOk F t kt et sh z = true) : shOk F.P (F.ty kt) sh = true /\ F.P.underlying t = some (.map (F.ty kt) (F.ty et)) /\ ∃ zv zd, (∀ w, (zeroValue (F.ty et)).run F.P w = .ok zv w) /\ ae F (fun _ => none) z zv /\ plainElem (H := Empty) F.P (F.ty et) zv = some (zd, []) /\
  ∀ (M : Mem) (v : D) (vv : Value), ll z v -> ae F M v vv -> ae F (fun _ => none) v vv /\ ∃ vd, plainElem (H := Empty) F.P (F.ty et) vv = some (vd, []) := by
 unfold mapOk at h
 simp only [x0a] at h
 obtain ⟨⟨h1, h2⟩, h3⟩ := h
 refine ⟨h1, ?_, ?_⟩
 ·split at h2
  ·rename_i e; simp only [x0a, x0r] at h2; rw [e, h2.1, h2.2]
  ·cases h2
 ·split at h3
  ·rename_i i q q' n hi hu
   simp only [x0a, x0r] at h3
   obtain ⟨⟨rfl, rfl⟩, h3⟩ := h3
   split at h3
   ·rename_i q'' n'' hz
    simp only [x0a, x0r] at h3
    obtain ⟨rfl, rfl⟩ := h3
    exact ⟨.int q'' 0, _, fun w => by simp [zeroValue, typeInfo, hi, hz], rfl, plainElem_int hu (by cases q'' <;> decide), fun M v vv hv r => by
     cases v <;> simp only [ll] at hv
     obtain ⟨rfl, hv⟩ := hv
     refine ⟨r, ?_⟩
     simp only [ae] at r
     subst r
     exact ⟨_, plainElem_int hu hv⟩⟩
   ·cases h3
  ·rename_i i b hi hu
   simp only [x0a, x0r] at h3
   obtain ⟨rfl, h3⟩ := h3
   split at h3
   ·rename_i b hz
    simp only [x0r] at h3
    subst h3
    exact ⟨.bool false, _, fun w => by simp [zeroValue, typeInfo, hi, hz], rfl, plainElem_bool hu _, fun M v vv hv r => by
     cases v <;> simp only [ll] at hv
     refine ⟨r, ?_⟩
     simp only [ae] at r
     subst r
     exact ⟨_, plainElem_bool hu _⟩⟩
   ·cases h3
  ·rename_i i s hi hu
   simp only [x0a, List.isEmpty_iff] at h3
   obtain ⟨rfl, h3⟩ := h3
   split at h3
   ·rename_i s hz
    simp only [List.isEmpty_iff] at h3
    obtain ⟨s⟩ := s
    simp only at h3
    have hs : s = #[] := by simpa using h3
    subst hs
    exact ⟨.string ⟨#[]⟩, _, fun w => by simp [zeroValue, typeInfo, hi, hz], rfl, plainElem_string hu (by decide), fun M v vv hv r => by
     cases v <;> simp only [ll] at hv
     refine ⟨r, ?_⟩
     simp only [ae] at r
     subst r
     exact ⟨_, plainElem_string hu (by simpa [ByteArray.size] using hv)⟩⟩
   ·cases h3
  ·cases h3
theorem ae.noMem {d : D} {v : Value} (h : ae F (fun _ => none) d v) : ae F M d v := ae.mono (fun _ _ e => by cases e) _ _ h
theorem key_flat {d : D} {v : Value} (hd : jU d = true) (h : ae F M d v) : ae F (fun _ => none) d v := by
 have one : ∀ {d : D} {v : Value}, fl1 d = true -> ae F M d v -> ae F (fun _ => none) d v := fun {d v} hd h => by
  cases d <;> simp only [fl1, x0o] at hd <;> exact h
 have lst : ∀ {ds : List D} {vs : List Value}, ds.all fl1 = true -> av F M ds vs -> av F (fun _ => none) ds vs := by
  intro ds
  induction ds with
  | nil => intro vs _ h; exact h
  | cons d ds ih =>
   intro vs hd h
   simp only [List.all_cons, x0a] at hd
   obtain ⟨v, r, e, h1, h2⟩ := h
   exact ⟨v, r, e, one hd.1 h1, ih hd.2 h2⟩
 cases d
 case agg ds =>
  simp only [ae] at h ⊢
  obtain ⟨vs, e, h⟩ := h
  exact ⟨vs, e, lst hd h⟩
 all_goals exact one hd h
theorem snd_mpl (hl : laidOutB F.P = true) (h : SR F nt S L w0 M0 f M a w) (hp : cd nt f o.dst) {sh : KSh} {kt et : Nat} {ok : Bool} {z : D} {m x : Opd} {m' x' : Operand} {t : TypeId} (ho : o.op = .lookup t m' x' ok) (hm : ao F m m' = true) (hx : ao F x x' = true)
  (hk : mapOk F t kt et sh z = true) (hP : P = F.P) (hr : res f (· = d) (.mpl sh kt et ok z m x)) : o.wp P a w (co F nt S L w0 M0 f o.dst d) Q := by
 subst hP
 obtain ⟨k1, k2, zv, zd, k3, k4, k5, _⟩ := mapOk_ty hk
 have KK := sh_keyed hl k1
 simp only [res] at hr
 split at hr
 ·rename_i b em
  split at hr
  ·rename_i kt' et' ks vs hf
   obtain ⟨rfl, rfl, hkey, hr⟩ := hr
   have hfl := keyOk_fl hkey
   have rx := h.opd hx (by cases hd : vd f x <;> rw [hd] at hfl <;> first | rfl | (simp [jU, fl1] at hfl))
   obtain ⟨xl, hxl⟩ := sh_key k1 hkey rx
   refine bN h hp (fun ρ ω hO => ?_)
   have rm := hO.opd hm
   rw [em, az rfl] at rm
   simp only [aC] at rm
   obtain ⟨hω, n, dm, hn, hown, hks, hmd⟩ := hO.maps b _ _ ks vs (hO.bigM hf) hf
   have hat := oJ.at_ KK hfl rx hxl hmd hks
   have got : ∃ gv, ae F (fun _ => none) ((ee ks vs (vd f x)).getD z) gv /\ Maps.has dm xl = (ee ks vs (vd f x)).isSome /\ ∃ ps, plainElem F.P (F.ty et') gv = some (dm.atKey xl zd, ps) := by
    rcases hat with ⟨g1, g2⟩ | ⟨v, vv, vd', g1, g2, g3, g4, g5⟩
    ·rw [g1, g2]
     exact ⟨zv, k4, rfl, [], by rw [Maps.atKey_of_not_has g2]; exact k5⟩
    ·rw [g1, g2]
     exact ⟨vv, g3, rfl, [], by rw [g5]; exact g4⟩
   obtain ⟨gv, q1, q2, ps, q3⟩ := got
   cases ok with
   | false =>
    simp only at hr
    subst hr
    obtain ⟨v, ps', hrun, hv⟩ := hown.lookup KK k2 (k3 w) k5 hxl
    have := plain_inj hv q3
    subst this
    refine ⟨v, bC.of_pure q1.noMem, ?_⟩
    simp only [execOp, ho, rm, Sem.run_bind, hrun, Result.andThen_ok, Sem.run_pure]
   | true =>
    simp only at hr
    subst hr
    obtain ⟨v, ps', hrun, hv⟩ := hown.look_ok KK k2 (k3 w) k5 hxl
    have := plain_inj hv q3
    subst this
    rw [q2] at hrun
    refine ⟨.tuple #[v, .bool (ee ks vs (vd f x)).isSome], bC.of_pure ?_, ?_⟩
    ·simp only [ae]
     exact ⟨[_, _], rfl, by simp only [av, ae]; exact ⟨_, _, rfl, q1.noMem, _, _, rfl, rfl, rfl⟩⟩
    ·simp only [execOp, ho, rm, Sem.run_bind, hrun, Result.andThen_ok, Sem.run_pure]
  ·exact hr.elim
 ·exact hr.elim
theorem snd_mpu (hl : laidOutB F.P = true) (h : SR F nt S L w0 M0 f M a w) (hd : o.dst = none) {sh : KSh} {kt et : Nat} {z : D} {m x v : Opd} {m' x' v' : Operand} {t : TypeId} (ho : o.op = .mapUpdate t m' x' v') (hm : ao F m m' = true) (hx : ao F x x' = true) (hv : ao F v v' = true)
  (hk : mapOk F t kt et sh z = true) (hP : P = F.P) (hr : aG C f none K (.mpu sh kt et z m x v)) : o.wp P a w (PostX F nt S L w0 M0 f K) Q := by
 subst hP
 obtain ⟨k1, k2, _, _, _, _, _, k6⟩ := mapOk_ty hk
 have KK := sh_keyed hl k1
 simp only [aG] at hr
 obtain ⟨_, hr⟩ := hr
 split at hr
 ·rename_i b em
  split at hr
  ·rename_i kt' et' ks vs hf
   obtain ⟨rfl, rfl, hroom, hkey, hel, hr⟩ := hr
   have hfl := keyOk_fl hkey
   have rx := h.opd hx (by cases hd : vd f x <;> rw [hd] at hfl <;> first | rfl | (simp [jU, fl1] at hfl))
   have rv := h.opd hv (by cases hd : vd f v <;> rw [hd] at hel <;> first | rfl | (cases z <;> simp [ll] at hel))
   obtain ⟨xl, hxl⟩ := sh_key k1 hkey rx
   obtain ⟨rv0, vdt, hvd⟩ := k6 M _ _ hel rv
   obtain ⟨ρ, ω, hO⟩ := h.own
   have rm := hO.opd hm
   rw [em, az rfl] at rm
   simp only [aC] at rm
   obtain ⟨hω, n, dm, hn, hown, hks, hmd⟩ := hO.maps b _ _ ks vs (hO.bigM hf) hf
   obtain ⟨w', hrun, hown', es, clock, es', clock', hbk, hw'⟩ := hown.store KK k2 (Nat.lt_of_le_of_lt hn hroom) hxl hvd
   refine wp_skip_map ?_ ?_ (w' := w')
   ·simp only [execOp, ho, rm, Sem.run_bind, hrun, Result.andThen_ok, Sem.run_pure]
   ·rw [hd]
    refine ⟨_, _, M, hr, ?_⟩
    refine h.mapPut hO hf hw' ⟨n + 1, _, by simp; omega, hown', ?_, dm, _, xl, _, vdt, hmd, rfl, key_flat hfl rx, hxl, rv0, hvd⟩
    intro k hk
    rcases x0H.1 hk with rfl | hk
    ·exact hfl
    ·exact hks k hk
  ·exact hr.elim
 ·exact hr.elim
end
end Go.Gv

namespace Go.Gv
variable[Drw]
open Go.RowKit
section
variable{P:Program}{F:Fid}{nt:Nat}{S:Nat->Prop}{L:Ln}{w0:World}{M0:Mem}{f:Nat->D}{M:Mem}{a:Act}{w:World}{o:Oper}{d:D}{Q:Exit->Act->World->Prop}
def jn(P:Program)(c t:Nat):Bool:=tyS P t 1 false&&match P.underlying t with
 | some (.int _)=>c==0
 | some .bool=>c==1
 | some .string=>c==2
 | _=>false
def uV(P:Program):Nat->List Nat->List Field->Bool
 | _,[],[]=>true
 | i,c::cs,fl::fs=>fl.offset == i && !(fl.name == "_") && jn P c fl.type && uV P (i + 1) cs fs
 | _,_,_=>false
theorem Gl{P:Program}{t:Nat}:jn P 9 t=false:=by
 unfold jn
 split<;>simp
theorem CO{P:Program}{i:Nat}{fs:List Field}:uV P i [9] fs=false:=by
 cases fs<;>simp[uV,Gl]
theorem DP{P:Program}{t:Nat}:jn P 8 t=false:=by
 unfold jn
 split<;>simp
theorem Hb{P:Program}{i:Nat}{fs:List Field}:uV P i [8] fs=false:=by
 cases fs<;>simp[uV,DP]
def sZ(P:Program)(t:Nat)(ks:List Nat):Bool:=match P.underlying t with
 | some .bool=>ks==[]
 | some (.slice _)=>ks==[9]
 | some (.pointer _)=>ks==[8]
 | some (.struct fs)=>!(ks==[])&&!P.stoodInHeld t&&!P.eqGuardType P.depth t&&uV P 0 ks fs.toList
 | _=>false
theorem uU{c:Nat}{ks:List Nat}{x y:D}{xs ys:List D}{r:Bool}(h:cJ (c::ks) (x::xs) (y::ys)=some r):∃r1 r2,cJ [c] [x] [y]=some r1/\cJ ks xs ys=some r2/\r=(r1&&r2):=by
 unfold cJ at h
 split at h
 ·rename_i e _ _;cases e
 ·rename_i ks' k a xs' k' b ys' e0 e1 e2
  simp only[List.cons.injEq]at e0 e1 e2
  obtain⟨rfl,rfl⟩:=e0;obtain⟨rfl,rfl⟩:=e1;obtain⟨rfl,rfl⟩:=e2
  split at h
  ·rename_i hk
   subst hk
   rw[x0p]at h
   obtain⟨r2,h1,rfl⟩:=h
   exact⟨decide (a=b),r2,by simp[cJ],h1,rfl⟩
  ·cases h
 ·rename_i ks' a xs' b ys' e0 e1 e2
  simp only[List.cons.injEq]at e0 e1 e2
  obtain⟨rfl,rfl⟩:=e0;obtain⟨rfl,rfl⟩:=e1;obtain⟨rfl,rfl⟩:=e2
  rw[x0p]at h
  obtain⟨r2,h1,rfl⟩:=h
  exact⟨a==b,r2,by simp[cJ],h1,rfl⟩
 ·rename_i ks' a xs' b ys' e0 e1 e2
  simp only[List.cons.injEq]at e0 e1 e2
  obtain⟨rfl,rfl⟩:=e0;obtain⟨rfl,rfl⟩:=e1;obtain⟨rfl,rfl⟩:=e2
  rw[x0p]at h
  obtain⟨r2,h1,rfl⟩:=h
  exact⟨decide (a=b),r2,by simp[cJ],h1,rfl⟩
 ·cases h
theorem zJ(a b:List UInt8):((⟨a.toArray⟩:ByteArray)==⟨b.toArray⟩)=decide (a=b):=by
 have e:((⟨a.toArray⟩:ByteArray)==⟨b.toArray⟩)=(a.toArray==b.toArray):=rfl
 rw[e,x0J];simp
theorem DO{t c:Nat}(hk:jn P c t=true){x y:D}{u v:Value}(hu:ae F M x u)(hv:ae F M y v){r:Bool}(he:cJ [c] [x] [y]=some r)(n:Nat):(Op.equalIn (n+1) t u v).run P w=.ok r w:=by
 simp only[jn,x0a]at hk
 obtain⟨_,hk⟩:=hk
 split at hk
 ·rename_i k e
  simp only[x0r]at hk
  subst hk
  cases x<;>cases y<;>simp only[cJ,reduceCtorEq]at he
  split at he
  ·rename_i hkk
   subst hkk
   simp only[ae]at hu hv
   subst hu;subst hv
   simp only[x1m,Bool.and_true,x0s]at he
   subst he
   simp only[Op.equalIn,Sem.run_bind,run_underlying e,Result.andThen_ok,if_true,Sem.run_pure]
   congr 1
  ·cases he
 ·rename_i e
  simp only[x0r]at hk
  subst hk
  cases x<;>cases y<;>simp only[cJ,reduceCtorEq]at he
  simp only[ae]at hu hv
  subst hu;subst hv
  simp only[x1m,Bool.and_true,x0s]at he
  subst he
  simp only[Op.equalIn,Sem.run_bind,run_underlying e,Result.andThen_ok,Sem.run_pure]
 ·rename_i e
  simp only[x0r]at hk
  subst hk
  cases x<;>cases y<;>simp only[cJ,reduceCtorEq]at he
  simp only[ae]at hu hv
  subst hu;subst hv
  simp only[x1m,Bool.and_true,x0s]at he
  subst he
  simp only[Op.equalIn,Sem.run_bind,run_underlying e,Result.andThen_ok,Sem.run_pure]
  congr 1
  exact zJ _ _
 ·cases hk
theorem se{t c:Nat}(hk:jn P c t=true){vs:List Value}{j:Nat}{v:Value}(hv:vs[j]? = some v):(part t vs.toArray j).run P w=.ok v w:=by
 simp only[jn,x0a]at hk
 have hlt:=(x0d.1 hv).1
 have:=qG (P:=P) (w:=w) hk.1 (vs:=vs) (off:=j) (by omega)
 rw[this]
 simp only[x0o,if_false]
 congr 1
 rw[List.drop_eq_getElem_cons hlt]
 simp only[List.headD_cons]
 exact(x0d.1 hv).2
def wA(n:Nat)(us vs:Array Value):Field->Option Bool×Unit->Sem (ForInStep (Option Bool×Unit)):=fun f _ =>
       if f.name ≠ "_" then do
        let __do_lift <- part f.type us f.offset
        let __do_lift_1 <- part f.type vs f.offset
        let __do_lift <- Op.equalIn n f.type __do_lift __do_lift_1
        if (!__do_lift)=true then pure (ForInStep.done (some false,()))
         else pure (ForInStep.yield (none,()))
       else pure (ForInStep.yield (none,()))
theorem vH:∀(ks:List Nat) (fs:List Field) (j n:Nat) (xs ys:List D) (us vs:List Value),uV P j ks fs=true->av F M xs (us.drop j)->av F M ys (vs.drop j)->∀{r:Bool},cJ ks xs ys=some r ->
  (forIn fs (none,()) (wA (n+1) us.toArray vs.toArray)).run P w=.ok (if r then none else some false,()) w
 | [],[],j,n,xs,ys,us,vs,_,_,_,r,he=>by
  cases xs<;>cases ys<;>simp[cJ]at he
  subst he
  rfl
 | c::ks,fl::fs,j,n,xs,ys,us,vs,hk,hx,hy,r,he=>by
  simp only[uV,x0a,x0r,x0t,beq_eq_false_iff_ne]at hk
  obtain⟨⟨⟨rfl,hn⟩,hs⟩,hk⟩:=hk
  cases xs with
  | nil=>cases ys<;>cases c<;>simp[cJ]at he
  | cons x xs =>
   cases ys with
   | nil=>cases x<;>(rcases c with _|_|_|c<;>simp[cJ]at he)
   | cons y ys =>
    obtain⟨r1,r2,h1,h2,rfl⟩:=uU he
    simp only[av]at hx hy
    obtain⟨u,us',e1,ru,rus⟩:=hx
    obtain⟨v,vs',e2,rv,rvs⟩:=hy
    have gu:us[fl.offset]? = some u:=by
     have:=congrArg (fun l=>l[0]?) e1
     simpa using this
    have gv:vs[fl.offset]? = some v:=by
     have:=congrArg (fun l=>l[0]?) e2
     simpa using this
    have du:us.drop (fl.offset+1)=us':=by rw[<- List.drop_drop,e1];rfl
    have dv:vs.drop (fl.offset+1)=vs':=by rw[<- List.drop_drop,e2];rfl
    rw[List.forIn_cons]
    simp only[wA,ne_eq,hn,not_false_eq_true,if_true,Sem.run_bind,se hs gu,se hs gv,Result.andThen_ok,DO hs ru rv h1]
    cases r1 with
    | false=>simp
    | true =>
     simp only[Bool.not_true,x0o,if_false,Sem.run_pure,Result.andThen_ok,x1T]
     exact vH ks fs (fl.offset+1) n xs ys us vs hk (by rw[du];exact rus) (by rw[dv];exact rvs) h2
theorem eP(t:TypeId)(u v:Value):∃m n,m=n+1/\Op.equal t u v=Op.equalIn (m+1) t u v:=⟨9999,9998,rfl,rfl⟩
theorem Gr(h:SR F nt S L w0 M0 f M a w)(hp:cd nt f o.dst){neg:Bool}{ks:List Nat}{x y:Opd}{x' y':Operand}{t t':TypeId}(ho:o.op=.binOp (if neg then .neq else .eql) t x' y' t')(hx:ao F x x'=true)(hy:ao F y y'=true)(hk:sZ P t ks=true)
  (hr:res f (·=d) (.beq neg ks x y)):o.wp P a w (co F nt S L w0 M0 f o.dst d) Q:=by
 simp only[res]at hr
 have fin:∀(u v:Value) (r:Bool),a.eval x'=u->a.eval y'=v->(eqGuard (if neg then .neq else .eql) t x' y' u v).run P w=.ok () w->(binOp (if neg then .neq else .eql) t u v).run P w=.ok (.bool (r != neg)) w->d=.bool (r != neg)->o.wp P a w (co F nt S L w0 M0 f o.dst d) Q:=by
  rintro u v r e1 e2 hg h3 rfl
  refine aR h hp (v:=.bool (r != neg)) rfl ?_
  simp only[execOp,ho,e1,e2,hg,Sem.run_bind,Sem.run_pure,Result.andThen_ok,h3]
 split at hr
 ·rename_i b c ex ey
  obtain⟨rfl,hr⟩:=hr
  have h1:=h.opd hx (by simp[ex,isV])
  rw[ex]at h1
  have h2:=h.opd hy (by simp[ey,isV])
  rw[ey]at h2
  simp only[ae]at h1 h2
  unfold sZ at hk
  split at hk
  ·rename_i e
   refine fin _ _ (b==c) h1 h2 (by cases neg<;>simp[eqGuard]) ?_ hr.symm
   have h3:(Op.equal t (.bool b) (.bool c)).run P w=.ok (b==c) w:=by
    obtain⟨m,n,hm,this⟩:=eP t (.bool b) (.bool c)
    rw[this]
    simp only[Op.equalIn,Sem.run_bind,run_underlying e,Result.andThen_ok,Sem.run_pure]
   cases neg<;>simp[binOp,h3]
  ·simp at hk
  ·simp at hk
  ·simp at hk
  ·cases hk
 ·rename_i xs ys ex ey
  obtain⟨hks,hr⟩:=hr
  split at hr
  ·rename_i r he
   have h1:=h.opd hx (by simp[ex,isV])
   rw[ex]at h1
   have h2:=h.opd hy (by simp[ey,isV])
   rw[ey]at h2
   simp only[ae]at h1 h2
   obtain⟨us,e1,r1⟩:=h1
   obtain⟨vs,e2,r2⟩:=h2
   unfold sZ at hk
   split at hk
   ·simp only[x0r]at hk
    exact absurd hk hks
   ·simp only[x0r]at hk
    subst hk
    cases xs<;>cases ys<;>simp[cJ]at he
   ·simp only[x0r]at hk
    subst hk
    cases xs<;>cases ys<;>simp[cJ]at he
   ·rename_i fs e
    simp only[x0a,x0t]at hk
    obtain⟨⟨⟨_,hst⟩,hgu⟩,hk⟩:=hk
    refine fin _ _ r e1 e2 (run_eqGuard_agg _ _ t x' y' _ _ hgu) ?_ hr.symm
    have key:=fun n=>vH (P:=P) (w:=w) ks fs.toList 0 n xs ys us vs hk (by simpa using r1) (by simpa using r2) he
    have h3:(Op.equal t (.agg us.toArray) (.agg vs.toArray)).run P w=.ok r w:=by
     obtain⟨m,n,hm,this⟩:=eP t (.agg us.toArray) (.agg vs.toArray)
     have key:=key n
     rw[<- hm]at key
     rw[this]
     simp only[Op.equalIn,Sem.run_bind,run_underlying e,Result.andThen_ok,run_program,hst,x0o,if_false]
     rw[<- Array.forIn_toList]
     unfold wA at key
     erw [key]
     cases r<;>simp
    cases neg<;>simp[binOp,h3]
   ·cases hk
  ·exact hr.elim
 ·rename_i ex ey
  obtain⟨rfl,hr⟩:=hr
  have h1:=h.opd hx (by simp[ex,isV])
  rw[ex]at h1
  have h2:=h.opd hy (by simp[ey,isV])
  rw[ey]at h2
  simp only[ae]at h1 h2
  unfold sZ at hk
  split at hk
  ·simp at hk
  ·rename_i e
   refine fin _ _ true h1 h2 (by cases neg<;>simp[eqGuard]) ?_ (by rw[<- hr];cases neg<;>rfl)
   have h3:(Op.equal t (.slice none 0 0) (.slice none 0 0)).run P w=.ok true w:=by
    obtain⟨m,n,hm,this⟩:=eP t (.slice none 0 0) (.slice none 0 0)
    rw[this]
    simp only[Op.equalIn,Sem.run_bind,run_underlying e,Result.andThen_ok,Sem.run_pure]
    rfl
   cases neg<;>simp[binOp,h3]
  ·simp at hk
  ·simp[CO]at hk
  ·cases hk
 ·rename_i es ex ey
  obtain⟨rfl,hr1,hr2⟩:=hr
  have h1:=h.opd hx (by simp[ex,isV])
  rw[ex]at h1
  have h2:=h.opd hy (by simp[ey,isV])
  rw[ey]at h2
  simp only[ae]at h1 h2
  obtain⟨A,cap,vs,sz,e1,_,_,_,hA⟩:=h1
  rcases x0X es.length with h0|hpos
  ·have hd:=hr2 h0
   subst hd
   unfold sZ at hk
   split at hk
   ·simp at hk
   ·rename_i e
    obtain⟨r,hrr⟩:∃r,(Op.equal t (.slice A es.length cap) (.slice none 0 0)).run P w=.ok r w:=by
     obtain⟨m,n,hm,this⟩:=eP t (.slice A es.length cap) (.slice none 0 0)
     rw[this]
     cases A<;>simp only[Op.equalIn,Sem.run_bind,run_underlying e,Result.andThen_ok,Sem.run_pure]
     ·exact⟨_,rfl⟩
     ·exact⟨_,rfl⟩
    refine aR h hp (v:=.bool (r != neg)) (by simp only[ae];exact⟨_,rfl⟩) ?_
    have hg:(eqGuard (if neg then .neq else .eql) t x' y' (.slice A es.length cap) (.slice none 0 0)).run P w=.ok () w:=by cases neg<;>simp[eqGuard]
    have hbn:(binOp (if neg then .neq else .eql) t (.slice A es.length cap) (.slice none 0 0)).run P w=.ok (.bool (r != neg)) w:=by cases neg<;>simp[binOp,hrr]
    simp only[execOp,ho,e1,h2,hg,Sem.run_bind,Sem.run_pure,Result.andThen_ok,hbn]
   ·simp at hk
   ·simp[CO]at hk
   ·cases hk
  have hr:=hr1 hpos
  obtain⟨ad,rfl,_⟩:=hA hpos
  unfold sZ at hk
  split at hk
  ·simp at hk
  ·rename_i e
   refine fin _ _ false e1 h2 (by cases neg<;>simp[eqGuard]) ?_ (by rw[<- hr];cases neg<;>rfl)
   have h3:(Op.equal t (.slice (some ad) es.length cap) (.slice none 0 0)).run P w=.ok false w:=by
    obtain⟨m,n,hm,this⟩:=eP t (.slice (some ad) es.length cap) (.slice none 0 0)
    rw[this]
    simp only[Op.equalIn,Sem.run_bind,run_underlying e,Result.andThen_ok,Sem.run_pure]
   cases neg<;>simp[binOp,h3]
  ·simp at hk
  ·simp[CO]at hk
  ·cases hk
 ·rename_i ex ey
  obtain⟨rfl,hr⟩:=hr
  have h1:=h.opd hx (by simp[ex,isV])
  rw[ex]at h1
  have h2:=h.opd hy (by simp[ey,isV])
  rw[ey]at h2
  simp only[ae]at h1 h2
  unfold sZ at hk
  split at hk
  ·simp at hk
  ·simp at hk
  ·rename_i e
   refine fin _ _ true h1 h2 (by cases neg<;>simp[eqGuard]) ?_ (by rw[<- hr];cases neg<;>rfl)
   have h3:(Op.equal t (.pointer none) (.pointer none)).run P w=.ok true w:=by
    obtain⟨m,n,hm,this⟩:=eP t (.pointer none) (.pointer none)
    rw[this]
    simp only[Op.equalIn,Sem.run_bind,run_underlying e,Result.andThen_ok,Sem.run_pure]
    rfl
   cases neg<;>simp[binOp,h3]
  ·simp[Hb]at hk
  ·cases hk
 ·rename_i ds ex ey
  obtain⟨rfl,hr⟩:=hr
  have h1:=h.opd hx (by simp[ex,isV])
  rw[ex]at h1
  have h2:=h.opd hy (by simp[ey,isV])
  rw[ey]at h2
  simp only[ae]at h1 h2
  obtain⟨ad,vs,e1,_,_⟩:=h1
  unfold sZ at hk
  split at hk
  ·simp at hk
  ·simp at hk
  ·rename_i e
   refine fin _ _ false e1 h2 (by cases neg<;>simp[eqGuard]) ?_ (by rw[<- hr];cases neg<;>rfl)
   have h3:(Op.equal t (.pointer (some ad)) (.pointer none)).run P w=.ok false w:=by
    obtain⟨m,n,hm,this⟩:=eP t (.pointer (some ad)) (.pointer none)
    rw[this]
    simp only[Op.equalIn,Sem.run_bind,run_underlying e,Result.andThen_ok,Sem.run_pure]
   cases neg<;>simp[binOp,h3]
  ·simp[Hb]at hk
  ·cases hk
 ·exact hr.elim
def rX(P:Program)(fi:Nat)(nm:String):Bool:=match P.funcs[fi]? with
 | some fn=>fn.name==nm&&fn.body.isNone&&(Extern.allNextRows.lookup fn.origin).isNone
 | none=>false
theorem rY {fi : Nat} {nm : String} {e : Array Value -> Sem Value} (hk : rX P fi nm=true) (h0 : (nm == "runtime.NumGoroutine")=false) (h1 : Extern.allNextRows.lookup nm=none)
  (h2:∀fn:Func,fn.name=nm->Extern.find fn=some e) (args:Array Value) (w:World):(callFunc fi args).run P w=((e args).run P w).andThen fun v w'=>.ok (.value v) w':=by
 unfold rX at hk
 split at hk
 ·rename_i fn hf
  simp only[x0a,x0r]at hk
  obtain⟨⟨h3,h4⟩,h5⟩:=hk
  subst h3
  refine run_callFunc_extern hf h0 h4 ?_ (h2 fn rfl) args w
  have h6:Extern.allNextRows.lookup fn.origin=none:=by simpa using h5
  simp[Extern.findNext,h1,h6]
 ·cases hk
theorem CH (fn : Func) (h : fn.name= "math/bits.Add64") : Extern.find fn=some add64Entry:=by
 have h1 : Extern.allGenericRows.lookup "math/bits.Add64"=none:=by kernel_rfl
 have h2 : Extern.allTypedRows.lookup "math/bits.Add64"=none:=by kernel_rfl
 have h3 : Extern.allRows.lookup "math/bits.Add64"=some add64Entry:=by kernel_rfl
 simp[Extern.find,h,h1,h2,h3]
def tV:Array Value->Sem Value:=fun args=>do
 let (x,y,b) <- Extern.MathBitsCarry.three "Sub64" args
 pure (Extern.MathBitsCarry.pair ((x+Extern.MathBitsCarry.m64-y-b)%Extern.MathBitsCarry.m64) (if x<y+b then 1 else 0))
theorem CI (fn : Func) (h : fn.name= "math/bits.Sub64") : Extern.find fn=some tV:=by
 have h1 : Extern.allGenericRows.lookup "math/bits.Sub64"=none:=by kernel_rfl
 have h2 : Extern.allTypedRows.lookup "math/bits.Sub64"=none:=by kernel_rfl
 have h3 : Extern.allRows.lookup "math/bits.Sub64"=some tV:=by kernel_rfl
 simp[Extern.find,h,h1,h2,h3]
theorem xx(x y c:Int)(hx:0<=x)(hx2:x<18446744073709551616)(hy:0<=y)(hy2:y<18446744073709551616)(hc0:0<=c)(hc:c<=1)(w:World) :
  (tV #[.int .u64 x,.int .u64 y,.int .u64 c]).run P w=.ok (.tuple #[.int .u64 ((x-y-c)%18446744073709551616),.int .u64 (if x<y+c then 1 else 0)]) w:=by
 have key:∀k:Nat,k<=1->(tV #[.int .u64 x,.int .u64 y,.int .u64 (k:Int)]).run P w =
   .ok (Extern.MathBitsCarry.pair ((x.toNat+Extern.MathBitsCarry.m64-y.toNat-k)%Extern.MathBitsCarry.m64) (if x.toNat<y.toNat+k then 1 else 0)) w:=by
  intro k hk
  have:k=0\/k=1:=by omega
  rcases this with rfl|rfl<;>rfl
 obtain⟨k,rfl⟩:=Int.eq_ofNat_of_zero_le hc0
 rw[key k (by omega)]
 obtain⟨X,rfl⟩:=Int.eq_ofNat_of_zero_le hx
 obtain⟨Y,rfl⟩:=Int.eq_ofNat_of_zero_le hy
 have e1:(((X+18446744073709551616-Y-k)%18446744073709551616:Nat):Int)=((X:Int)-Y-k)%18446744073709551616:=by omega
 have e2:((if X<Y+k then 1 else 0:Nat):Int)=if (X:Int)<Y+k then 1 else 0:=by split<;>split<;>omega
 simp only[Extern.MathBitsCarry.pair,Extern.MathBitsCarry.m64,x1S]
 rw[<- e1,<- e2]
 rfl
theorem A0 (h : SR F nt S L w0 M0 f M a w) (hp : cd nt f o.dst) {x y c : Opd} {x' y' c' : Operand} {fi : Nat} {ts : Array TypeId} (ho : o.op=.call { callee:=.value (.func fi),args:=#[x',y',c'],argTypes:=ts }) (hn : rX P fi "math/bits.Add64"=true)
  (hx:ao F x x'=true) (hy:ao F y y'=true) (hc:ao F c c'=true) (hr:res f (·=d) (.add64 x y c)):o.wp P a w (co F nt S L w0 M0 f o.dst d) Q:=by
 simp only[res]at hr
 split at hr
 ·rename_i a1 b1 k1 ex ey ec
  obtain⟨h1,h2,h3,h4,h5,h6,rfl⟩:=hr
  have e1:=h.opd hx (by simp[ex,isV])
  have e2:=h.opd hy (by simp[ey,isV])
  have e3:=h.opd hc (by simp[ec,isV])
  rw[ex]at e1;rw[ey]at e2;rw[ec]at e3
  simp only[ae]at e1 e2 e3
  refine aR h hp (v:=.tuple #[.int .u64 ((a1+b1+k1)%18446744073709551616),.int .u64 ((a1+b1+k1)/18446744073709551616)]) ?_ ?_
  ·simp only[ae]
   exact⟨[_,_],rfl,by simp[av,ae]⟩
  ·have hrun:=rY hn (by decide) (by kernel_rfl) (fun fn=>CH fn) #[.int .u64 a1,.int .u64 b1,.int .u64 k1] w
   rw[run_add64 a1 b1 k1 h1 h3 h5 h6]at hrun
   simp only[execOp,ho,resolve,Act.eval,Deferred.ofValue,Sem.run_bind,Sem.run_pure,Result.andThen_ok,invoke]
   rw[show(#[]++Array.map a.eval #[x',y',c']++#[])=#[.int .u64 a1,.int .u64 b1,.int .u64 k1]from by simp[e1,e2,e3]]
   exact hrun
 ·exact hr.elim
theorem Bh (h : SR F nt S L w0 M0 f M a w) (hp : cd nt f o.dst) {x y c : Opd} {x' y' c' : Operand} {fi : Nat} {ts : Array TypeId} (ho : o.op=.call { callee:=.value (.func fi),args:=#[x',y',c'],argTypes:=ts }) (hn : rX P fi "math/bits.Sub64"=true)
  (hx:ao F x x'=true) (hy:ao F y y'=true) (hc:ao F c c'=true) (hr:res f (·=d) (.sub64 x y c)):o.wp P a w (co F nt S L w0 M0 f o.dst d) Q:=by
 simp only[res]at hr
 split at hr
 ·rename_i a1 b1 k1 ex ey ec
  obtain⟨h1,h2,h3,h4,h5,h6,rfl⟩:=hr
  have e1:=h.opd hx (by simp[ex,isV])
  have e2:=h.opd hy (by simp[ey,isV])
  have e3:=h.opd hc (by simp[ec,isV])
  rw[ex]at e1;rw[ey]at e2;rw[ec]at e3
  simp only[ae]at e1 e2 e3
  refine aR h hp (v:=.tuple #[.int .u64 ((a1-b1-k1)%18446744073709551616),.int .u64 (if a1<b1+k1 then 1 else 0)]) ?_ ?_
  ·simp only[ae]
   exact⟨[_,_],rfl,by simp[av,ae]⟩
  ·have hrun:=rY hn (by decide) (by kernel_rfl) (fun fn=>CI fn) #[.int .u64 a1,.int .u64 b1,.int .u64 k1] w
   rw[xx a1 b1 k1 h1 h2 h3 h4 h5 h6]at hrun
   simp only[execOp,ho,resolve,Act.eval,Deferred.ofValue,Sem.run_bind,Sem.run_pure,Result.andThen_ok,invoke]
   rw[show(#[]++Array.map a.eval #[x',y',c']++#[])=#[.int .u64 a1,.int .u64 b1,.int .u64 k1]from by simp[e1,e2,e3]]
   exact hrun
 ·exact hr.elim
theorem y9{f:Nat->D}{d:D}{K:List D->List Nat->Prop}(h:∀c∈fJ d,aA c=true)(hk:K (fJ d) []):fV f d [] K:=by
 cases d<;>first
  | (simp only[fV,dQ,eC,if_true,true_or,true_and];exact⟨h,hk⟩)
  | (have h0:=h _ (x1h.2 rfl);simp[aA]at h0;done)
  | (have h0:=h _ (x1h.2 rfl);simp only[fV,dQ,eC,if_true,true_or,true_and];exact⟨h0,hk⟩)
theorem oC{f:Nat->D}{sz len:Nat}:∀(ps:List (Nat×Opd)) (es:List (List D)) (bs:List Nat),es.length=len->(∀p∈ps,p.1<len/\(fJ (vd f p.2)).length=sz/\∀c∈fJ (vd f p.2),aA c=true) ->
  fP f sz [] ps es bs (fun es' bs'=>es'=gT f ps es/\bs'=bs)
 | [],es,bs,_,_=>⟨rfl,rfl⟩
 | (i,x)::ps,es,bs,hl,h=>by
  obtain⟨h1,h2,h3⟩:=h (i,x) (by simp)
  simp only[fP]
  refine⟨by omega,y9 h3 ⟨h2,?_⟩⟩
  simp only[x1M,gT]
  exact oC ps _ bs (by simpa using hl) fun p hp=>h p (by simp[hp])
section
variable{P:Program}{F:Fid}{nt:Nat}{S:Nat->Prop}{L:Ln}{w0:World}{M0:Mem}{f:Nat->D}{M:Mem}{a:Act}{w:World}{o:Oper}{d:D}{Q:Exit->Act->World->Prop}
theorem D1(h:SR F nt S L w0 M0 f M a w)(hp:cd nt f o.dst){sz len:Nat}{zs:List D}{parts:List (Nat×Opd)}{parts':Array (Nat×Operand)}{T:TypeId}(ho:o.op=.buildSlice T len parts')
  (hk:blsOk P F T sz len zs parts parts'.toList=true) (hr:res f (·=d) (.blsF sz len zs parts)):o.wp P a w (co F nt S L w0 M0 f o.dst d) Q:=by
 simp only[res]at hr
 obtain⟨hr1,hr0,hr2,rfl⟩:=hr
 unfold blsOk at hk
 split at hk
 ·rename_i e hu
  simp only[x0a,x0r,x0f,x0b]at hk
  obtain⟨⟨⟨⟨⟨⟨h1,h2⟩,h3⟩,h4⟩,h5⟩,h6⟩,h7⟩:=hk
  obtain⟨z,i,hi,hiz,hz,hzs,hzc⟩:=zeroOk_z h3
  obtain⟨ρ0,ω0,ho0⟩:=h.own
  have hzl:z.cells.toList.length=sz:=by simp[hzs,h2]
  let c0:Array Value:=(Array.range (len*sz)).map ((if len*sz=0 then #[] else z.cells)[·%(if len*sz=0 then #[] else z.cells).size]!)
  have hc0:c0.toList=(List.replicate len z.cells.toList).flatten:=by
   by_cases hl:len*sz=0
   ·have:len=0:=by rcases Nat.mul_eq_zero.1 hl with h|h;exact h;omega
    subst this
    simp[c0]
   ·simp only[c0,if_neg hl]
    exact range_cells z.cells len sz (by omega)
  have hA:AbsRows F L (qW S w0) f M a w sz len (List.replicate len zs) [] c0.toList (fun _ _=>none):=by
   refine⟨by simp,by rw[hc0];simp only[List.length_flatten,List.map_replicate,hzl,List.sum_replicate_nat],fun e he=>by rw[(List.mem_replicate.1 he).2,h2],fun i' r off c' hi' hr=>?_,fun i off c e=>(by cases e),fun _ i off i' off' c e=>(by cases e)⟩
   obtain⟨hlt,hr⟩:=rep_rows hi' hr
   have hof:off<sz:=by have:=(x0d.1 hr).1;omega
   obtain⟨u0,hu'⟩:∃u0,z.cells.toList[off]? = some u0:=⟨_,x0e (by omega)⟩
   refine⟨_,?_,hzc off c' _ hr hu'⟩
   rw[hc0,flatten_get _ _ _ (by rw[hzl];exact gl hlt hof),hzl,x1b i' sz,Nat.mul_add_mod,Nat.mod_eq_of_lt hof]
   exact hu'
  have hpw:=oC (f:=f) (sz:=sz) (len:=len) parts (List.replicate len zs) [] (by simp) hr1
  obtain⟨esF,bsF,cellsF,srcF,⟨rfl,rfl⟩,g4,g5⟩:=fill_parts ho0 parts parts'.toList _ _ c0 _ _ h6 (fun p hp=>h7 p hp) hA hpw
  have hrun:(Instr.buildSlice T len (parts'.map fun(i,x)=>(i,a.eval x))).run P w=.ok (.slice (some ⟨w.heap.size,0,none⟩) len len) (w.alloc (.cells cellsF.toList.toArray e)):=by
   have hsm:¬len*sz > 2^24:=by omega
   have g4':Instr.fill (fun i=>some (i*sz,sz)) c0 (parts'.map fun(i,x)=>(i,a.eval x)).toList=some cellsF:=by
    rw[Array.toList_map];exact g4
   simp only[Instr.buildSlice,Sem.run_bind,run_underlying hu,Result.andThen_ok,dC h1,hsm,if_false]
   by_cases hl:len*sz=0
   ·simp only[c0,hl,if_true]at g4'
    simp only[hl,if_true,Sem.run_bind,Sem.run_pure,Result.andThen_ok,g4',newRow,run_newObj,World.alloc_eq,x05]
   ·simp only[c0,hl,if_false]at g4'
    simp only[hl,if_false,Sem.run_bind,Sem.run_pure,hz,Result.andThen_ok,g4',newRow,run_newObj,World.alloc_eq,x05]
  have hle:=(alloc_holds h.holds cellsF.toList e).2.1
  refine after_new (T:=e) h (vs:=cellsF.toList) hp (v:=.slice (some ⟨w.heap.size,0,none⟩) len len) (fun ρ ω hO=>?_) (by simp only[execOp,ho,Sem.run_bind,hrun,Result.andThen_ok,Sem.run_pure])
  refine bC.of_pure ?_
  simp only[ae,g5.n]
  refine⟨_,_,cellsF.toList,sz,rfl,x0k _,aZ.of_rows g5.u (by rw[g5.vl,g5.n]) (fun i' r off c' e1 e2=>?_),g5.u,fun _=>⟨_,rfl,by simpa using Mem.put_at M w.heap.size 0 cellsF.toList⟩⟩
  obtain⟨u,k1,k2⟩:=g5.cells i' r off c' e1 e2
  refine⟨u,k1,?_⟩
  have hc1:=hr2 r (x0g e1) c' (x0g e2)
  rcases k2 with ⟨_,k2⟩|⟨n,rfl,_⟩|⟨_,_,_,_,rfl,_⟩
  ·exact ae.mono hle _ _ k2
  ·simp[aA]at hc1
  ·simp[aA]at hc1
 ·cases hk
end
def vq(P:Program)(F:Fid):NOp->Op->Bool
 | .mov x,.move y=>ao F x y
 | .mov x,.assign y=>ao F x y
 | .nck x,.nilCheck y=>ao F x y
 | .pick c x y,.pick c' x' y'=>ao F c c'&&ao F x x'&&ao F y y'
 | .bin op x y,.binOp op' _ x' y' _=>op==op'&&ao F x x'&&ao F y y'
 | .un op x,.unOp op' _ x'=>op==op'&&ao F x x'
 | .conv k x,.convert src dst x'=>ww P k src dst&&ao F x x'
 | .idxA len sz ag x i,.index t x' i'=>tm P t len sz ag&&ao F x x'&&ao F i i'
 | .idxS x i,.index t x' i'=>sw P t&&ao F x x'&&ao F i i'
 | .ext i x,.extract x' i'=>i==i'&&ao F x x'
 | .fad off x,.fieldAddr t x' i=>x7 P t i off&&ao F x x'
 | .iadS sz x i,.indexAddr t x' i'=>wR P t sz&&ao F x x'&&ao F i i'
 | .iadA len sz x i,.indexAddr t x' i'=>tl P t len sz&&ao F x x'&&ao F i i'
 | .ld n ag x,.load t x'=>tyS P t n ag&&ao F x x'
 | .boxF x,.box _ x'=>ao F x x'
 | .blsF sz len zs ps,.buildSlice t len' ps'=>len==len'&&blsOk P F t sz len zs ps ps'.toList
 | .bld zs ps,.build t ps'=>ux P F t zs ps ps'.toList
 | .len x,.call { callee:=.builtin .len,args:=⟨[x']⟩,argTypes:=⟨[t]⟩ }=>pj P t&&ao F x x'
 | .lens x,.call { callee:=.builtin .len,args:=⟨[x']⟩,argTypes:=⟨[t]⟩ }=>sw P t&&ao F x x'
 | .mk g xs,.makeFunc (.func fi) first ys=>F g==some fi&&first.isEmpty&&bY F xs ys.toList
 | .slc sz x lo hi,.slice t x' lo' hi' none=>D0 P t sz&&ao F x x'&&jZ F lo lo'&&jZ F hi hi'
 | .cvB x,.convert src dst x'=>Cg P src dst&&ao F x x'
 | .mn x y,.call { callee:=.builtin .min,args:=⟨[x',y']⟩,argTypes:=_ }=>ao F x x'&&ao F y y'
 | .mx x y,.call { callee:=.builtin .max,args:=⟨[x',y']⟩,argTypes:=_ }=>ao F x x'&&ao F y y'
 | .beq neg ks x y,.binOp op t x' y' _=>op==(if neg then .neq else .eql)&&sZ P t ks&&ao F x x'&&ao F y y'
 | .add64 x y c,.call { callee:=.value (.func fi),args:=⟨[x',y',c']⟩,argTypes:=_ }=>rX P fi "math/bits.Add64" && ao F x x' && ao F y y' && ao F c c'
 | .sub64 x y c,.call { callee:=.value (.func fi),args:=⟨[x',y',c']⟩,argTypes:=_ }=>rX P fi "math/bits.Sub64" && ao F x x' && ao F y y' && ao F c c'
 | .mpl sh kt et ok z m x,.lookup t m' x' ok'=>ok==ok'&&mapOk F t kt et sh z&&ao F m m'&&ao F x x'
 | _,_=>false
end
end Go.Gv

namespace Go.Gv
variable[Drw]
open Go.RowKit
section
variable{C:Nat->List D->D->List D->Prop}{f:Nat->D}
theorem ly{K K':Nat->Prop}{x:Option Opd}{n:Nat}(h:eD f x n K)(hk:∀m,K m->K' m):eD f x n K':=by
 unfold eD at h ⊢
 split at h
 ·exact hk _ h
 ·split at h
  ·exact⟨h.1,hk _ h.2⟩
  ·exact h.elim
theorem gG{K:Nat->Prop}{x:Option Opd}{n:Nat}(h:eD f x n K):∃m,K m/\∀K',K' m->eD f x n K':=by
 unfold eD at h ⊢
 split at h
 ·exact⟨_,h,fun K' hk=>hk⟩
 ·split at h
  ·exact⟨_,h.2,fun K' hk=>⟨h.1,hk⟩⟩
  ·exact h.elim
theorem tN{K:D->Prop}{o:NOp}(h:res f K o):∃d,K d/\∀K':D->Prop,K' d->res f K' o:=by
 cases o with
 | mov x=>simp only[res]at h ⊢;exact⟨_,h.2,fun K' hk=>⟨h.1,hk⟩⟩
 | nck x =>
  simp only[res]at h ⊢
  split at h
  ·exact⟨_,h,fun K' hk=>hk⟩
  ·exact⟨_,h,fun K' hk=>hk⟩
  ·exact⟨_,h,fun K' hk=>hk⟩
  ·exact h.elim
 | pick c a b =>
  simp only[res]at h ⊢
  split at h
  ·rename_i v _
   cases v
   ·obtain⟨h1,h2⟩:=h.2 rfl;exact⟨_,h2,fun K' hk=>⟨fun e=>(by cases e),fun _=>⟨h1,hk⟩⟩⟩
   ·obtain⟨h1,h2⟩:=h.1 rfl;exact⟨_,h2,fun K' hk=>⟨fun _=>⟨h1,hk⟩,fun e=>(by cases e)⟩⟩
  ·exact h.elim
 | bin op x y =>
  simp only[res]at h ⊢
  split at h
  ·cases op<;>simp only[]at h ⊢<;>first|exact⟨_,h.2,fun K' hk=>⟨h.1,hk⟩⟩|exact⟨_,h.2.2,fun K' hk=>⟨h.1,h.2.1,hk⟩⟩
  ·cases op<;>simp only[]at h ⊢<;>first|exact h.elim|exact⟨_,h,fun K' hk=>hk⟩|exact⟨_,h.2,fun K' hk=>⟨h.1,hk⟩⟩
  ·exact h.elim
 | beq neg ks x y =>
  simp only[res]at h ⊢
  split at h
  ·exact⟨_,h.2,fun K' hk=>⟨h.1,hk⟩⟩
  ·obtain⟨h0,h⟩:=h
   split at h
   ·exact⟨_,h,fun K' hk=>⟨h0,hk⟩⟩
   ·exact h.elim
  ·exact⟨_,h.2,fun K' hk=>⟨h.1,hk⟩⟩
  ·rename_i es _ _
   rcases x0X es.length with h0|h0
   ·exact⟨_,h.2.2 h0,fun K' hk=>⟨h.1,fun h1=>absurd h1 (by omega),fun _=>hk⟩⟩
   ·exact⟨_,h.2.1 h0,fun K' hk=>⟨h.1,fun _=>hk,fun h1=>absurd h1 (by omega)⟩⟩
  ·exact⟨_,h.2,fun K' hk=>⟨h.1,hk⟩⟩
  ·exact⟨_,h.2,fun K' hk=>⟨h.1,hk⟩⟩
  ·exact h.elim
 | un op x =>
  simp only[res]at h ⊢
  split at h
  ·cases op<;>simp only[]at h ⊢<;>first|exact h.elim|exact⟨_,h,fun K' hk=>hk⟩
  ·cases op<;>simp only[]at h ⊢<;>first|exact h.elim|exact⟨_,h,fun K' hk=>hk⟩
  ·exact h.elim
 | conv k x =>
  simp only[res]at h ⊢
  split at h
  ·exact⟨_,h,fun K' hk=>hk⟩
  ·exact h.elim
 | idxA len sz ag x i =>
  simp only[res]at h ⊢
  split at h
  ·exact⟨_,h.2.2.2,fun K' hk=>⟨h.1,h.2.1,h.2.2.1,hk⟩⟩
  ·cases ag<;>exact⟨_,h.2.2.2,fun K' hk=>⟨h.1,h.2.1,h.2.2.1,hk⟩⟩
  ·exact h.elim
 | cvB x =>
  simp only[res]at h ⊢
  split at h
  ·exact⟨_,h,fun K' hk=>hk⟩
  ·exact h.elim
 | idxS x i =>
  simp only[res]at h ⊢
  split at h
  ·obtain⟨h0,b,h1,h2⟩:=h;exact⟨_,h2,fun K' hk=>⟨h0,b,h1,hk⟩⟩
  ·exact h.elim
 | ext i x =>
  simp only[res]at h ⊢
  split at h
  ·obtain⟨d,h1,h3⟩:=h;exact⟨d,h3,fun K' hk=>⟨d,h1,hk⟩⟩
  ·obtain⟨d,h1,h3⟩:=h;exact⟨d,h3,fun K' hk=>⟨d,h1,hk⟩⟩
  ·exact h.elim
 | fad off x =>
  simp only[res]at h ⊢
  split at h
  ·exact⟨_,h,fun K' hk=>hk⟩
  ·exact⟨_,h,fun K' hk=>hk⟩
  ·exact⟨_,h,fun K' hk=>hk⟩
  ·exact h.elim
 | iadS sz x i =>
  simp only[res]at h ⊢
  split at h
  ·obtain⟨h0,e,h1,h2,h3⟩:=h;exact⟨_,h3,fun K' hk=>⟨h0,e,h1,h2,hk⟩⟩
  ·obtain⟨h0,e,h1,h2,h3⟩:=h;exact⟨_,h3,fun K' hk=>⟨h0,e,h1,h2,hk⟩⟩
  ·obtain⟨h0,h1,h2,h3⟩:=h;exact⟨_,h3,fun K' hk=>⟨h0,h1,h2,hk⟩⟩
  ·obtain⟨h0,h1,h2⟩:=h
   split at h2
   ·exact⟨_,h2.2,fun K' hk=>⟨h0,h1,h2.1,hk⟩⟩
   ·exact h2.elim
  ·exact h.elim
 | iadA len sz x i =>
  simp only[res]at h ⊢
  split at h
  ·exact⟨_,h.2.2,fun K' hk=>⟨h.1,h.2.1,hk⟩⟩
  ·exact⟨_,h.2.2,fun K' hk=>⟨h.1,h.2.1,hk⟩⟩
  ·exact h.elim
 | ld n ag x =>
  simp only[res]at h ⊢
  split at h
  ·rename_i p i off ex
   split at h
   ·obtain⟨r,h1,h2,h3⟩:=h
    cases ag with
    | false=>exact⟨_,h3,fun K' hk=>⟨r,h1,h2,hk⟩⟩
    | true =>
     cases hall:(((r.drop off).take n).all isV) with
     | true=>exact⟨_,h3.1 hall,fun K' hk=>⟨r,h1,h2,fun _=>hk,fun e=>(by rw[hall]at e;cases e)⟩⟩
     | false=>exact⟨_,h3.2 hall,fun K' hk=>⟨r,h1,h2,fun e=>(by rw[hall]at e;cases e),fun _=>hk⟩⟩
   ·exact h.elim
  ·exact⟨_,h.2,fun K' hk=>⟨h.1,hk⟩⟩
  ·rename_i ds ex
   obtain⟨h0,h⟩:=h
   cases ag with
   | false=>exact⟨_,h.2,fun K' hk=>⟨h0,h.1,hk⟩⟩
   | true =>
    cases hall:(ds.take n).all isV with
    | true=>exact⟨_,h.1 hall,fun K' hk=>⟨h0,fun _=>hk,fun e=>(by cases e)⟩⟩
    | false=>exact⟨_,h.2 hall,fun K' hk=>⟨h0,fun e=>(by cases e),fun _=>hk⟩⟩
  ·exact h.elim
 | blsF sz len zs parts =>
  simp only[res]at h ⊢
  exact⟨_,h.2.2.2,fun K' hk=>⟨h.1,h.2.1,h.2.2.1,hk⟩⟩
 | boxF x =>
  simp only[res]at h ⊢
  split at h
  ·exact⟨_,h,fun K' hk=>hk⟩
  ·exact⟨_,h,fun K' hk=>hk⟩
  ·exact⟨_,h.2,fun K' hk=>⟨h.1,hk⟩⟩
 | bld zs parts =>
  simp only[res]at h ⊢
  obtain⟨h1,h2,h3⟩:=h
  cases hall:(parts.all fun p=>isV (vd f p.2.2)) with
  | true=>exact⟨_,h2 hall,fun K' hk=>⟨h1,fun _=>hk,fun e=>(by cases e)⟩⟩
  | false=>exact⟨_,h3 hall,fun K' hk=>⟨h1,fun e=>(by cases e),fun _=>hk⟩⟩
 | len x =>
  simp only[res]at h ⊢
  split at h
  ·exact⟨_,h,fun K' hk=>hk⟩
  ·exact⟨_,h,fun K' hk=>hk⟩
  ·exact⟨_,h,fun K' hk=>hk⟩
  ·exact⟨_,h,fun K' hk=>hk⟩
  ·exact h.elim
 | lens x =>
  simp only[res]at h ⊢
  split at h
  ·exact⟨_,h,fun K' hk=>hk⟩
  ·exact h.elim
 | mk g xs =>
  simp only[res]at h ⊢
  obtain⟨h1,h2,h3⟩:=h
  cases hall:(xs.all fun x=>isV (vd f x)) with
  | true=>exact⟨_,h2 hall,fun K' hk=>⟨h1,fun _=>hk,fun e=>(by cases e)⟩⟩
  | false=>exact⟨_,h3 hall,fun K' hk=>⟨h1,fun e=>(by cases e),fun _=>hk⟩⟩
 | slc sz x lo hi =>
  simp only[res]at h ⊢
  split at h
  ·obtain⟨hz,h⟩:=h
   obtain⟨m,h1,h2⟩:=gG h
   obtain⟨l,⟨h3,h4,h5⟩,h6⟩:=gG h1
   exact⟨_,h5,fun K' hk=>⟨hz,h2 _ (h6 _ ⟨h3,h4,hk⟩)⟩⟩
  ·obtain⟨m,h1,h2⟩:=gG h
   obtain⟨l,⟨h3,h4,h5⟩,h6⟩:=gG h1
   exact⟨_,h5,fun K' hk=>h2 _ (h6 _ ⟨h3,h4,hk⟩)⟩
  ·split at h
   ·obtain⟨hz,h⟩:=h
    obtain⟨m,h1,h2⟩:=gG h
    obtain⟨l,⟨h3,h4,h5⟩,h6⟩:=gG h1
    exact⟨_,h5,fun K' hk=>⟨hz,h2 _ (h6 _ ⟨h3,h4,hk⟩)⟩⟩
   ·exact h.elim
  ·exact h.elim
 | mn x y =>
  simp only[res]at h ⊢
  split at h
  ·exact⟨_,h.2,fun K' hk=>⟨h.1,hk⟩⟩
  ·exact h.elim
 | mx x y =>
  simp only[res]at h ⊢
  split at h
  ·exact⟨_,h.2,fun K' hk=>⟨h.1,hk⟩⟩
  ·exact h.elim
 | add64 x y c =>
  simp only[res]at h ⊢
  split at h
  ·obtain⟨h1,h2,h3,h4,h5,h6,h7⟩:=h;exact⟨_,h7,fun K' hk=>⟨h1,h2,h3,h4,h5,h6,hk⟩⟩
  ·exact h.elim
 | sub64 x y c =>
  simp only[res]at h ⊢
  split at h
  ·obtain⟨h1,h2,h3,h4,h5,h6,h7⟩:=h;exact⟨_,h7,fun K' hk=>⟨h1,h2,h3,h4,h5,h6,hk⟩⟩
  ·exact h.elim
 | mpl sh kt et ok z m x =>
  simp only[res]at h ⊢
  split at h
  ·split at h
   ·obtain⟨h1,h2,h3,h⟩:=h
    cases ok<;>exact⟨_,h,fun K' hk=>⟨h1,h2,h3,hk⟩⟩
   ·exact h.elim
  ·exact h.elim
 | _=>simp only[res]at h
theorem nl{d:D}{K:D->List Nat->Prop}(h:eC f d K):∃c bs,K c bs/\∀K',K' c bs->eC f d K':=by
 unfold eC at h ⊢
 split at h
 ·obtain⟨h0,h⟩:=h
  split at h
  ·exact⟨_,_,h.2.2,fun K' hk=>⟨h0,h.1,h.2.1,hk⟩⟩
  ·exact h.elim
 ·exact⟨_,_,h.2,fun K' hk=>⟨h.1,hk⟩⟩
theorem nq:∀{ds:List D} {K:List D->List Nat->Prop},jG f ds K->∃cs bs,K cs bs/\∀K',K' cs bs->jG f ds K'
 | [],K,h=>⟨_,_,h,fun K' hk=>hk⟩
 | d::ds,K,h=>by
  obtain⟨c,bs,h1,h2⟩:=nl h
  obtain⟨cs,bs',h3,h4⟩:=nq h1
  exact⟨_,_,h3,fun K' hk=>h2 _ (h4 _ hk)⟩
theorem jI{d:D}{ns:List Nat}{K:List D->List Nat->Prop}(h:fV f d ns K):∃cs bs,K cs bs/\∀K',K' cs bs->fV f d ns K':=by
 unfold fV at h ⊢
 split at h
 ·exact⟨_,_,h.2.2,fun K' hk=>⟨h.1,h.2.1,hk⟩⟩
 ·obtain⟨cs,bs,h1,h2⟩:=nq h.2
  exact⟨_,_,h1.2,fun K' hk=>⟨h.1,h2 _ ⟨h1.1,hk⟩⟩⟩
 ·obtain⟨c,bs,h1,h2⟩:=nl h.2
  exact⟨_,_,h1,fun K' hk=>⟨h.1,h2 _ hk⟩⟩
theorem qk{sz:Nat}{ns:List Nat}:∀{ps:List (Nat×Opd)} {es:List (List D)} {bs:List Nat} {K:List (List D)->List Nat->Prop},fP f sz ns ps es bs K->∃es' bs',K es' bs'/\∀K',K' es' bs'->fP f sz ns ps es bs K'
 | [],es,bs,K,h=>⟨_,_,h,fun K' hk=>hk⟩
 | (i,x)::ps,es,bs,K,h=>by
  obtain⟨h0,h⟩:=h
  obtain⟨cs,b1,⟨h1,h1'⟩,h2⟩:=jI h
  obtain⟨es',bs',h3,h4⟩:=qk h1'
  exact⟨_,_,h3,fun K' hk=>⟨h0,h2 _ ⟨h1,h4 _ hk⟩⟩⟩
theorem fk{mv:Bool}{d:D}{sz:Nat}{K:List (List D)->List Nat->Prop}(h:fH f mv d sz K):∃es bs,K es bs/\∀K',K' es bs->fH f mv d sz K':=by
 unfold fH at h ⊢
 split at h
 ·exact⟨_,_,h,fun K' hk=>hk⟩
 ·exact⟨_,_,h.2,fun K' hk=>⟨h.1,hk⟩⟩
 ·cases mv with
  | true =>
   obtain⟨h0,h⟩:=h
   split at h
   ·split at h
    ·exact⟨_,_,h.2.2.2,fun K' hk=>⟨h0,h.1,h.2.1,h.2.2.1,hk⟩⟩
    ·exact h.elim
   ·exact h.elim
  | false =>
   simp only at h ⊢
   split at h
   ·exact⟨_,_,h.2.2.2,fun K' hk=>⟨h.1,h.2.1,h.2.2.1,hk⟩⟩
   ·exact h.elim
 ·exact h.elim
theorem qA{dst:Option Nat}{K:List (Nat×D)->List (Nat×Bool)->Prop}{o:NOp}(h:aG C f dst K o):∃ws ks,K ws ks/\∀K':List (Nat×D)->List (Nat×Bool)->Prop,K' ws ks->aG C f dst K' o:=by
 have dk:∀{d:D},en dst K d->∃ws ks,K ws ks/\∀K':List (Nat×D)->List (Nat×Bool)->Prop,K' ws ks->en dst K' d:=fun{d} h=>by
  unfold en at h ⊢
  split at h
  ·exact⟨_,_,h,fun K' hk=>hk⟩
  ·exact⟨_,_,h,fun K' hk=>hk⟩
 have gen:∀(o:NOp),res f (en dst K) o->∃ws ks,K ws ks/\∀K':List (Nat×D)->List (Nat×Bool)->Prop,K' ws ks->res f (en dst K') o:=by
  intro o h
  obtain⟨d,h1,h2⟩:=tN h
  obtain⟨ws,ks,h3,h4⟩:=dk h1
  exact⟨ws,ks,h3,fun K' hk=>h2 _ (h4 K' hk)⟩
 cases o with
 | frz x =>
  clear gen dk
  cases dst with
  | none=>exact h.elim
  | some t =>
   simp only[aG]at h ⊢
   split at h
   ·exact⟨_,_,h.2,fun K' hk=>⟨h.1,hk⟩⟩
   ·exact⟨_,_,h.2,fun K' hk=>⟨h.1,hk⟩⟩
 | ldQ q x =>
  clear gen
  simp only[aG]at h ⊢
  split at h
  ·obtain⟨h1,h⟩:=h
   split at h
   ·obtain⟨r,h2,d,h3,h⟩:=h
    obtain⟨ws,ks,h4,h5⟩:=dk h
    exact⟨ws,ks,h4,fun K' hk=>⟨h1,r,h2,d,h3,h5 K' hk⟩⟩
   ·exact h.elim
  ·exact h.elim
 | appQ q sz by_ x y =>
  clear gen dk
  cases dst with
  | none=>exact h.elim
  | some t =>
   simp only[aG]at h ⊢
   split at h
   ·obtain⟨h0,h⟩:=h
    obtain⟨rows,bs,⟨h1,h2,h⟩,hg⟩:=fk h
    split at h
    ·obtain⟨row0,h3,es,h4,h5,h6,h7⟩:=h
     exact⟨_,_,h7,fun K' hk=>⟨h0,hg _ ⟨h1,h2,row0,h3,es,h4,h5,h6,hk⟩⟩⟩
    ·exact h.elim
   ·exact h.elim
 | cpy sz x y =>
  clear gen dk
  cases dst with
  | none=>exact h.elim
  | some t =>
   simp only[aG]at h ⊢
   obtain⟨rows,bs,⟨h1,h2,h⟩,hg⟩:=fk h
   split at h
   ·rename_i b k n _
    rcases x0X n with hn|hn
    ·exact⟨_,_,h.1 hn,fun K' hk=>hg _ ⟨h1,h2,fun _=>hk,fun h3=>absurd hn (by omega)⟩⟩
    ·have h:=h.2 hn
     split at h
     ·obtain⟨h3,h5,h6,h7,h8⟩:=h
      exact⟨_,_,h8,fun K' hk=>hg _ ⟨h1,h2,fun h4=>absurd h4 (by omega),fun _=>⟨h3,h5,h6,h7,hk⟩⟩⟩
     ·exact h.elim
   ·exact h.elim
 | ldF n x =>
  clear gen dk
  cases dst with
  | none=>exact h.elim
  | some t =>
   simp only[aG]at h ⊢
   split at h
   ·split at h
    ·obtain⟨r,h1,h2,h3⟩:=h
     exact⟨_,_,h3,fun K' hk=>⟨r,h1,h2,hk⟩⟩
    ·exact h.elim
   ·exact h.elim
 | asg x =>
  clear gen dk
  cases dst with
  | none=>exact h.elim
  | some t =>
   simp only[aG]at h ⊢
   split at h
   ·split at h
    ·rename_i e
     exact⟨_,_,h,fun K' hk=>by rw[if_pos e];exact hk⟩
    ·rename_i e
     split at h
     ·exact⟨_,_,h,fun K' hk=>by rw[if_neg e];exact hk⟩
     ·exact h.elim
   ·exact⟨_,_,h.2,fun K' hk=>⟨h.1,hk⟩⟩
 | nilo sz =>
  clear gen dk
  simp only[aG]at h ⊢
  split at h
  ·exact⟨_,_,h.2,fun K' hk=>⟨h.1,hk⟩⟩
  ·exact h.elim
 | box ns x =>
  clear gen dk
  simp only[aG]at h ⊢
  split at h
  ·obtain⟨cs,bs,⟨h1,h2⟩,h3⟩:=jI h
   exact⟨_,_,h2,fun K' hk=>h3 _ ⟨h1,hk⟩⟩
  ·exact h.elim
 | alc zs =>
  clear gen dk
  simp only[aG]at h ⊢
  split at h
  ·exact⟨_,_,h,fun K' hk=>hk⟩
  ·exact h.elim
 | mkm kt et =>
  clear gen dk
  simp only[aG]at h ⊢
  split at h
  ·exact⟨_,_,h,fun K' hk=>hk⟩
  ·exact h.elim
 | mpu sh kt et z m x v =>
  clear gen dk
  simp only[aG]at h ⊢
  obtain⟨h0,h⟩:=h
  split at h
  ·split at h
   ·obtain⟨h1,h2,h3,h4,h5,h⟩:=h
    exact⟨_,_,h,fun K' hk=>⟨h0,h1,h2,h3,h4,h5,hk⟩⟩
   ·exact h.elim
  ·exact h.elim
 | callS g x xs =>
  clear gen dk
  simp only[aG]at h ⊢
  split at h
  ·obtain⟨h2,h⟩:=h
   split at h
   ·obtain⟨h3,h4,h9,h⟩:=h
    split at h
    ·obtain⟨es',h5,h6,h8,h7,h⟩:=h
     exact⟨_,_,h,fun K' hk=>⟨h2,h3,h4,h9,es',h5,h6,h8,h7,hk⟩⟩
    ·rcases h with ⟨es',h5,h6,h8,h7,h⟩|⟨hb,hz,es',h6,h8,h7,h⟩
     ·exact⟨_,_,h,fun K' hk=>⟨h2,h3,h4,h9,.inl ⟨es',h5,h6,h8,h7,hk⟩⟩⟩
     ·exact⟨_,_,h,fun K' hk=>⟨h2,h3,h4,h9,.inr ⟨hb,hz,es',h6,h8,h7,hk⟩⟩⟩
   ·exact h.elim
  ·exact h.elim
 | callN g x xs =>
  clear gen dk
  simp only[aG]at h ⊢
  split at h
  ·obtain⟨h2,h⟩:=h
   split at h
   ·obtain⟨row0,h3,sz,es,h4,h5,h6,es',h7,h8,h9,h⟩:=h
    exact⟨_,_,h,fun K' hk=>⟨h2,row0,h3,sz,es,h4,h5,h6,es',h7,h8,h9,hk⟩⟩
   ·exact h.elim
  ·exact h.elim
 | callE g x xs =>
  clear gen dk
  simp only[aG]at h ⊢
  split at h
  ·split at h
   ·split at h
    ·obtain⟨h1,h2,h3,h4,h5,es',h6,h7,h⟩:=h
     exact⟨_,_,h,fun K' hk=>⟨h1,h2,h3,h4,h5,es',h6,h7,hk⟩⟩
    ·exact h.elim
   ·exact h.elim
  ·exact h.elim
 | callA g xs =>
  clear gen dk
  simp only[aG]at h ⊢
  obtain⟨h0,h⟩:=h
  rcases h with ⟨d,h1,h⟩|h
  ·unfold en at h ⊢
   split at h
   ·exact⟨_,_,h,fun K' hk=>⟨h0,.inl ⟨d,h1,hk⟩⟩⟩
   ·exact⟨_,_,h,fun K' hk=>⟨h0,.inl ⟨d,h1,hk⟩⟩⟩
  ·split at h
   ·obtain⟨R,h1,h2,h⟩:=h
    exact⟨_,_,h,fun K' hk=>⟨h0,.inr ⟨R,h1,h2,hk⟩⟩⟩
   ·exact h.elim
 | callL g x xs =>
  clear gen dk
  simp only[aG]at h ⊢
  split at h
  ·obtain⟨h1,h2,h⟩:=h
   split at h
   ·obtain⟨h3,h4,d,es',h5,h6,h⟩:=h
    exact⟨_,_,h,fun K' hk=>⟨h1,h2,h3,h4,d,es',h5,h6,hk⟩⟩
   ·exact h.elim
  ·exact h.elim
 | clr zs x =>
  clear gen dk
  simp only[aG]at h ⊢
  split at h
  ·exact⟨_,_,h,fun K' hk=>hk⟩
  ·split at h
   ·obtain⟨h1,h2,h3,h4,h⟩:=h
    exact⟨_,_,h,fun K' hk=>⟨h1,h2,h3,h4,hk⟩⟩
   ·exact h.elim
  ·split at h
   ·obtain⟨row0,h1,sz,es,h2,h3,h4,h5,h⟩:=h
    exact⟨_,_,h,fun K' hk=>⟨row0,h1,sz,es,h2,h3,h4,h5,hk⟩⟩
   ·exact h.elim
  ·exact h.elim
 | callF g xs =>
  clear gen dk
  simp only[aG]at h ⊢
  obtain⟨h0,h⟩:=h
  split at h
  ·obtain⟨sz,es,h1,h2⟩:=h
   exact⟨_,_,h2,fun K' hk=>⟨h0,sz,es,h1,hk⟩⟩
  ·exact h.elim
 | bls sz len zs ns parts =>
  clear gen dk
  simp only[aG]at h ⊢
  split at h
  ·obtain⟨es,bs,⟨h1,h2,h3⟩,h4⟩:=qk h
   exact⟨_,_,h3,fun K' hk=>h4 _ ⟨h1,h2,hk⟩⟩
  ·exact h.elim
 | mks sz by_ zs n c =>
  clear gen dk
  simp only[aG]at h ⊢
  split at h
  ·split at h
   ·exact⟨_,_,h.2.2.2,fun K' hk=>⟨h.1,h.2.1,h.2.2.1,hk⟩⟩
   ·exact h.elim
  ·exact h.elim
 | st n ns a v =>
  simp only[aG]at h ⊢
  obtain⟨h0,h⟩:=h
  obtain⟨cs,bs,⟨h1,h2⟩,h3⟩:=jI h
  split at h2
  ·obtain⟨h4,h2⟩:=h2
   split at h2
   ·rename_i hf
    obtain⟨r,h5,h6,h7⟩:=h2
    exact⟨_,_,h7,fun K' hk=>⟨h0,h3 _ ⟨h1,h4,⟨r,h5,h6,hk⟩⟩⟩⟩
   ·exact h2.elim
  ·obtain⟨h4,h4',h2⟩:=h2
   split at h2
   ·rename_i hf
    obtain⟨row0,h5,sz,es,h6,r,h7,h8,h9⟩:=h2
    exact⟨_,_,h9,fun K' hk=>⟨h0,h3 _ ⟨h1,h4,h4',⟨row0,h5,sz,es,h6,r,h7,h8,hk⟩⟩⟩⟩
   ·exact h2.elim
  ·exact h2.elim
 | app sz by_ mv x y =>
  clear gen dk
  simp only[aG]at h ⊢
  split at h
  ·obtain⟨rows,bs,⟨h1,h2⟩,h3⟩:=fk h
   split at h2
   ·exact⟨_,_,h2.2,fun K' hk=>h3 _ ⟨h1,h2.1,hk⟩⟩
   ·obtain⟨h4,h5,h2⟩:=h2
    split at h2
    ·rename_i hf
     obtain⟨h6,h7,h8,h9⟩:=h2
     exact⟨_,_,h9,fun K' hk=>h3 _ ⟨h1,h4,h5,⟨h6,h7,h8,hk⟩⟩⟩
    ·exact h2.elim
   ·obtain⟨h4,h5,h2⟩:=h2
    split at h2
    ·rename_i hf
     obtain⟨row0,h6,es,h7,h8,h9,h10⟩:=h2
     exact⟨_,_,h10,fun K' hk=>h3 _ ⟨h1,h4,h5,⟨row0,h6,es,h7,h8,h9,hk⟩⟩⟩
    ·exact h2.elim
   ·exact h2.elim
  ·exact h.elim
 | call g xs ms =>
  simp only[aG]at h ⊢
  obtain⟨h0,d,h1,h2,h3⟩:=h
  obtain⟨ws,ks,h4,h5⟩:=dk h3
  exact⟨ws,ks,h4,fun K' hk=>⟨h0,d,h1,h2,h5 K' hk⟩⟩
 | callv x xs =>
  simp only[aG]at h ⊢
  split at h
  ·obtain⟨h0,d,h1,h2,h3⟩:=h
   obtain⟨ws,ks,h4,h5⟩:=dk h3
   exact⟨ws,ks,h4,fun K' hk=>⟨h0,d,h1,h2,h5 K' hk⟩⟩
  ·obtain⟨h0,h0',d,h1,h2,h3⟩:=h
   obtain⟨ws,ks,h4,h5⟩:=dk h3
   exact⟨ws,ks,h4,fun K' hk=>⟨h0,h0',d,h1,h2,h5 K' hk⟩⟩
  ·exact h.elim
 | _=>(simp only[aG]at h ⊢;exact gen _ h)
end
end Go.Gv

namespace Go.Gv
variable[Drw]
open Go.RowKit
section
variable{P:Program}{F:Fid}{C:Nat->List D->D->List D->Prop}{nt:Nat}{S:Nat->Prop}{L:Ln}{w0:World}{M0:Mem}{f:Nat->D}{M:Mem}{a:Act}{w w':World}{o:Oper}{d:D}{Q:Exit->Act->World->Prop}{ρ:Pa->Loc}{ω:Nat->Option Pa}{New:Nat->Prop}{K:List (Nat×D)->List (Nat×Bool)->Prop}
theorem mf{t b:Nat}{d x:D}{q:Nat×D}(hq:isB q.2=true\/q.2=.any):eff [(t,d),(b,x)] [(b,true)] (eff [q] [] f)=eff [(t,d),(b,x),q] [(b,true)] f:=by
 funext s
 obtain⟨c,y⟩:=q
 unfold eff
 by_cases e1:s=t
 ·subst e1;simp
 ·have h1:(s==t)=false:=by simpa using e1
  by_cases e2:s=b
  ·subst e2;simp[x0l,h1]
  ·have h2:(s==b)=false:=by simpa using e2
   by_cases e3:s=c
   ·subst e3
    simp only[x0l,h1,h2,x0V,beq_self_eq_true]
    rcases hq with hq|hq
    ·rw[rW hq];rfl
    ·simp only at hq
     subst hq
     simp[aN,dP,aT]
   ·have h3:(s==c)=false:=by simpa using e3
    simp only[x0l,h1,h2,h3,x0V,nN,x0o,if_false]
theorem rI(p:Pa):(dL f p).1=p.root:=by
 cases p with
 | r c=>rfl
 | n c i o =>
  simp only[dL,Pa.root]
  split<;>rfl
theorem zZ(p:Pa):isB (dL f p).2=true\/(dL f p).2=.any:=by
 cases p with
 | r c=>exact .inr rfl
 | n c i o =>
  simp only[dL]
  split
  ·exact .inl rfl
  ·exact .inr rfl
theorem CW{b i off sz:Nat}{es:List (List D)}(hg:aX f (.n b i off)=some (sz,es)):∃sz0 es0 row0,f b=.blk sz0 es0/\es0[i]? = some row0/\row0[off]? = some (.own sz es):=by
 simp only[aX]at hg
 split at hg
 ·rename_i sz' es' e
  split at hg
  ·rename_i sz2 r hr
   simp only[x0s,Prod.mk.injEq]at hg
   obtain⟨rfl,rfl⟩:=hg
   cases hi:es'[i]? with
   | none=>rw[hi]at hr;simp at hr
   | some row =>
    rw[hi]at hr
    exact⟨sz',es',row,e,hi,by simpa using hr⟩
  ·cases hg
 ·cases hg
theorem SR.leave(h:SR F nt S L w0 M0 f M a w)(ho:Own F L (fun k=>S k\/w0.heap.size<=k) f M a w ρ ω){p:Pa}{sz:Nat}{es:List (List D)}(hg:aX f p=some (sz,es))(hch:Ch S w0 w')(hsz:w.heap.size<=w'.heap.size)(hholds:∀p v,M p=some v->w'.cell? p=some v)
  (hk:∀k q,ω k=some q->q≠p->w'.heap[k]? = w.heap[k]?):SR F nt S L w0 M0 (eff [dL f p] [] f) M a w' where
 hnt:=h.hnt
 size:=h.size
 defers:=h.defers
 ch:=hch
 holds:=hholds
 ext:=h.ext
 fresh:=h.fresh
 own:=by
  have hp:=cY ho hg
  obtain⟨sz0,es0,hf⟩:=(ho.get hp hg).2
  have hlk:∀s,s≠p.root->[dL f p].lookup s=none:=fun s hs=>by
   have:=fN (b:=(dL f p).1) (d:=(dL f p).2) (s:=s) (by rw[rI];exact hs)
   exact this
  refine⟨ρ,ω,ho.step (ks:=[]) (fun p hp=>absurd rfl hp) (Mem.le_refl _) hsz (fun t ht=>.inl ?_) (fun c hc=>?_) (fun k q e=>.inl ⟨q,e⟩) ho.apart (fun c l hc hl hB=>⟨rfl,?_⟩)⟩
  ·rcases bO (f:=f) (ks:=[]) (hlk t (by omega))with h2|h2
   ·exact .inl h2
   ·exact .inr ⟨h2.1,rfl,h2.2⟩
  ·by_cases e:c=p.root
   ·cases p with
    | r b =>
     left;left
     have e:c=b:=e
     subst e
     rw[aP (d:=.any) (by simp[dL])];rfl
    | n b i off =>
     have e:c=b:=e
     subst e
     right
     obtain⟨sz1,es1,row0,hf1,hi0,ho0⟩:=CW hg
     have hf1':f c=.blk sz0 es0:=hf
     rw[hf1']at hf1
     cases hf1
     have hdd:dL f (.n c i off)=(c,.blk sz0 (bK es0 i off 1 [.any])):=by simp only[dL,hf1']
     have hlt:off<row0.length:=(x0d.1 ho0).1
     refine .inl ⟨sz0,bK es0 i off 1 [.any],aP (by rw[hdd];simp),?_⟩
     rcases ho.roots c sz0 es0 hc hf1' with ⟨e0,_⟩|⟨hω,h0,vs,T,h1,h2,h3,h4,h5⟩
     ·rw[e0]at hi0;simp at hi0
     ·refine .inr ⟨hω,h0,vs,T,(hk _ _ hω (by simp)).trans h1,h2,by rw[gh];exact h3,gE h4 hi0 (by omega) rfl,fun i' r off' d hi hr=>?_⟩
      rcases kY hi0 (show off+1<=row0.length by omega) rfl hi hr with ⟨rfl,g1,g2,g3⟩|⟨g1,r0,g2,g3⟩
      ·have:off'=off:=by omega
       subst this
       simp at g3
       subst g3
       obtain⟨v,k1,k2⟩:=h5 i' row0 off' _ hi0 ho0
       exact⟨v,k1,by simp[cE,ae]⟩
      ·obtain⟨v,k1,k2⟩:=h5 i' r0 off' d g2 g3
       exact⟨v,k1,cE.frame k2 (Mem.le_refl _) ⟨rfl,fun e=>⟨e,hk _ _ e (by
        intro h;cases h
        exact g1 ⟨rfl,by omega,by omega⟩)⟩⟩⟩
   ·left
    rcases ca (f:=f) (ks:=[]) (hlk c e)with h1|h1
    ·exact .inl h1
    ·exact .inr ⟨h1,fun q hq=>⟨rfl,fun e'=>⟨e',hk _ _ e' (by rintro rfl;exact e hq.symm)⟩⟩⟩
  ·by_cases e:c=p.root
   ·rw[e,hf];rfl
   ·rcases ca (f:=f) (ks:=[]) (hlk c e)with h1|h1
    ·rw[hB]at h1;cases h1
    ·rw[<- h1];exact hB
theorem SR.newRow0(h:SR F nt S L w0 M0 f M a w){sz:Nat}{es':List (List D)}{v:Value}(hu:∀e∈es',e.length=sz/\∀c∈e,bP c=true)(hb:Bel w w')(hn:fu F M w w' sz es' v){t b':Nat}(ht:t<nt)(hb0:10000<=b')(hL:L b'=none) :
  SR F nt S L w0 M0 (eff [(t,.ref (.r b') 0 es'.length),(b',.blk sz es')] [(b',true)] f) M (a.put (some t) v) w':=by
 obtain⟨B,o,T,us,cap,rfl,hB,hh,hcap,⟨hlen,hmc⟩,hrep⟩:=hn
 have hle:o+es'.length*sz<=us.length:=by
  have:=x0q sz hcap
  omega
 exact h.makeAt (t:=t) (b:=b') (B:=B) (o:=o) (bs:=[]) (es:=es') (sz:=sz) (src:=fun _ _=>none) (vs:=us) (T:=T) (d:=.ref (.r b') 0 es'.length) (v:=.slice (some ⟨B,o,none⟩) es'.length cap) ht hb0 hL hb hB hh hle (fun e he=>(hu e he).1)
  (fun i r off c hi hr=>by
   obtain⟨u,k1,k2⟩:=hrep i r off c hi hr
   exact⟨u,k1,.inl ⟨fy ((hu r (x0g hi)).2 c (x0g hr)),k2⟩⟩) (fun _ _ _ _ _ e=>(by cases e)) (fun _ _ _ e=>(by cases e))
  (fun ρ M e=>by
   rw[az rfl]
   simp only[aC,e]
   exact .inr ⟨cap,by simp,hcap,by simpa using hlen,hmc⟩)
theorem yz{b:Option Nat}{v:Value}(h:isO d=false):HK F M w b d v↔ae F M d v:=by
 cases d<;>first|exact Iff.rfl|(simp[isO]at h)
theorem yf(h:isV d=true):isO d=false:=by
 cases d<;>first|rfl|(simp[isV]at h)
theorem ip(hO:Own F L New f M a w ρ ω){p:Pa}{k n sz:Nat}{es:List (List D)}{v:Value}(hg:aX f p=some (sz,es))(hkn:k+n<=es.length)(hv:aC F M ρ (.ref p k n) v)(hfl:∀e∈(es.drop k).take n,∀c∈e,isO c=false) :
  (∃A,v=.slice A 0 0/\n=0)\/∃(cap:Nat) (us:List Value) (T:TypeId),v=.slice (some ⟨(ρ p).blk,(ρ p).base+k*sz,none⟩) n cap/\(n<=cap/\cap<=9223372036854775807)/\(ρ p).base+k*sz+cap*sz<=(ρ p).len/\ω (ρ p).blk=some p/\(ρ p).sz=sz /\
   w.heap[(ρ p).blk]? = some (.cells us.toArray T (0,0))/\us.length=(ρ p).len/\(∀e∈es,e.length=sz) /\
   (∀i r off d,((es.drop k).take n)[i]? = some r->r[off]? = some d->∃u,us[(ρ p).base+k*sz+i*sz+off]? = some u/\ae F M d u):=by
 have hp:=cY hO hg
 obtain⟨hpath,_⟩:=hO.get hp hg
 simp only[aC]at hv
 rcases hv with ⟨h0,A,hv⟩|⟨cap,hv,hcap,hcl,hmc⟩
 ·exact .inl ⟨A,hv,h0⟩
 ·rcases hpath with ⟨e0,e1,e2,e3⟩|⟨hω,g0,us,T,g1,g2,g3,g4,g5⟩
  ·have hn0:n=0:=by rw[e0]at hkn;simp at hkn;omega
   have hc0:cap=0:=by
    rw[e1,e2]at hcl
    rcases x0X cap with h|h
    ·exact h
    ·have:=Nat.mul_pos (show 0<k+cap by omega) e3;omega
   subst hc0
   exact .inl ⟨_,by rw[hv,hn0],hn0⟩
  ·have e1:(k+cap)*sz=k*sz+cap*sz:=x0I _ _ _
   rw[g0,e1]at hcl
   refine .inr ⟨cap,us,T,by rw[hv,g0],⟨hcap,hmc⟩,by omega,hω,g0,g1,g2,g4,fun i r off d h1 h2=>?_⟩
   have hin:i<n:=by have:=(x0d.1 h1).1;simp at this;omega
   have hO':=hfl r (x0g h1) d (x0g h2)
   rw[x0D hin,x0v]at h1
   obtain⟨u,k1,k2⟩:=g5 (k+i) r off d h1 h2
   refine⟨u,?_,?_⟩
   ·rw[<- k1,x0I];congr 1;omega
   ·cases p with
    | r b =>
     have k2':cE F M ω ρ w b (k+i) off d u:=k2
     rwa[bx hO']at k2'
    | n b i' o'=>exact k2
theorem SR.fillN(h:SR F nt S L w0 M0 f M a w)(ho:Own F L (fun k=>S k\/w0.heap.size<=k) f M a w ρ ω){b sz0 i0 o0 sz:Nat}{es0 es es':List (List D)}{row0:List D}(hf:f b=.blk sz0 es0)(hi0:es0[i0]? = some row0)(ho0:row0[o0]? = some (.own sz es))(hlen:es'.length=es.length)
  (hch:Ch S w0 w') (hsz:w.heap.size<=w'.heap.size) (hholds:∀p v,M p=some v->w'.cell? p=some v) (hnew:cB ω ρ w' (.n b i0 o0) sz es' (fun _ _ d v=>ae F M d v)) (hk:∀k q,ω k=some q->q≠.n b i0 o0->w'.heap[k]? = w.heap[k]?) :
  SR F nt S L w0 M0 (eff [(b,.blk sz0 (bK es0 i0 o0 1 [.own sz es']))] [] f) M a w' where
 hnt:=h.hnt
 size:=h.size
 defers:=h.defers
 ch:=hch
 holds:=hholds
 ext:=h.ext
 fresh:=h.fresh
 own:=⟨ρ,ω,ho.setN hf hi0 ho0 hlen hsz (Mem.le_refl _) ho.apart hnew hk⟩
theorem uN{dst:Option Nat}{b:Nat}{x:D}:(match dst with|some t=>eff [(t,D.tup [])] [] (eff [(b,x)] [] f)|none=>eff [(b,x)] [] f)=eff (fC dst++[(b,x)]) [] f:=by
 cases dst with
 | none=>rfl
 | some t =>
  funext s
  unfold eff
  by_cases q:s=t
  ·subst q
   simp[fC,x0l]
  ·have q1:(s==t)=false:=by simpa using q
   simp only[fC,x1o,x1v,x0l,q1,x0V,aN,List.any_nil,x0o,if_false]
theorem Be{dst:Option Nat}(hC:bQ P F C)(h:SR F nt S L w0 M0 f M a w)(hp:∀t,o.dst=some t->t<nt){g fi:Nat}{x:Opd}{xs:List Opd}{y:Operand}{ys:List Operand}{ts:Array TypeId}(ho:o.op=.call { callee:=.value (.func fi),args:=⟨y::ys⟩,argTypes:=ts })(hx0:ao F x y=true)(hx:bY F xs ys=true)
  (hg:F g=some fi) (hr:match vd f x with
  | .ref (.n b i o) k n=>k=0/\match f b with
   | .blk sz0 es0=>∃row0,es0[i]? = some row0/\∃sz es,row0[o]? = some (.own sz es)/\es.length=n/\(∀x∈xs,isV (vd f x)=true)/\∃es':List (List D),es'.length=es.length/\(∀e∈es',e.length=sz/\∀c∈e,aA c=true) /\
     C g (.own sz es::xs.map (vd f)) .any [.own sz es',.nilp]/\K (fC dst++[(b,.blk sz0 (bK es0 i o 1 [.own sz es']))]) []
   | _=>False
  | _=>False) (hdst:dst=o.dst:=by rfl):o.wp P a w (PostX F nt S L w0 M0 f K) Q:=by
 split at hr
 ·rename_i b i0 o0 k n hvx
  obtain⟨rfl,hr⟩:=hr
  split at hr
  ·rename_i sz0 es0 hf
   obtain⟨row0,hi0,sz,es,ho0,rfl,hxs,es',hl,hu,hc,hK⟩:=hr
   have hrun:(execOp a.eval o).run P w=(callFunc fi (a.eval y::ys.map a.eval).toArray).run P w:=by
    simp only[execOp,ho,resolve,Act.eval,Deferred.ofValue,Sem.run_bind,Sem.run_pure,Result.andThen_ok,invoke]
    congr 2
    rw[x1R,x1y]
    apply Array.ext'
    simp
    cases y<;>simp[Act.eval]
   obtain⟨ρ,ω,hO⟩:=h.own
   have hb:=hO.big hf
   have hv:=hO.opd hx0
   rw[hvx,az rfl]at hv
   have hgp:aX f (.n b i0 o0)=some (sz,es):=by simp[aX,hf,hi0,ho0]
   have hpath:cB ω ρ w (.n b i0 o0) sz es (fun _ _ d v=>ae F M d v):=(hO.get (p:=.n b i0 o0) hb hgp).1
   have hnoO:∀e∈(es.drop 0).take es.length,∀c∈e,isO c=false:=by
    intro e he c hc'
    rw[List.drop_zero,x0L]at he
    rcases hpath with ⟨e0,_⟩|⟨_,_,vs,T,_,_,_,_,h5⟩
    ·rw[e0]at he;cases he
    ·obtain⟨i,hi⟩:=x1i.1 he
     obtain⟨j,hj⟩:=x1i.1 hc'
     obtain⟨u,_,h6⟩:=h5 i e j c hi hj
     cases c<;>first|rfl|(simp[ae]at h6)
   have hrep:av F M (xs.map (vd f)) (ys.map a.eval):=by
    have h1:=gJ h hx (by rw[x0f];exact hxs)
    rwa[x0j (g:=vd f) fun x hx'=>by unfold dpv;exact(kN (hxs x hx')).1]at h1
   have hS:=hC.runsS g fi sz es _ es' hg hc M w _ h.holds hrep
   have fin:∀w',SR F nt S L w0 M0 (eff [(b,.blk sz0 (bK es0 i0 o0 1 [.own sz es']))] [] f) M a w'->PostX F nt S L w0 M0 f K (a.put o.dst (.tuple #[])) w':=fun w' hs=>by
    refine⟨_,_,M,hK,?_⟩
    rw[<- uN,hdst]
    cases hd:o.dst with
    | none=>simpa[Act.put]using hs
    | some t=>exact hs.put (hp t hd) fun _ _ _=>by rw[az rfl];simp[aC,ae,av]
   unfold Oper.wp
   rw[hrun,cx (hC.body g fi hg),Oper.upon_enter]
   rcases ip hO hgp (by omega) hv hnoO with ⟨A,hv,hn0⟩|⟨cap,us,T,hv,⟨hcap,hmc⟩,hcl,hω,g0,g1,g2,g4,g5⟩
   ·have e:es=[]:=x0G hn0
    have e':es'=[]:=x0G (by rw[hl,e];rfl)
    rw[hv]
    refine(hS.1 e A).mono ?_
    rintro e0 w' ⟨rfl,hw⟩
    have h2:=h.grow hw
    refine fin w' (h.fillN hO hf hi0 ho0 hl h2.ch hw.size h2.holds ?_ (fun k q hk _=>hw.block k (hO.lt _ _ hk)))
    rw[e']
    rw[e]at hpath
    exact hpath.frame (ω':=ω) rfl (fun e'=>⟨e',hw.block _ (hO.lt _ _ e')⟩) (fun _ _ _ _ _ _ _ x=>x)
   ·rw[hv]
    simp only[List.drop_zero,x0L,Nat.zero_mul,x1r]at g5 hcl ⊢
    have hMb:∀p:Addr,p.block=(ρ (.n b i0 o0)).blk->M p=none:=fun p hp=>hO.apart p (.n b i0 o0) (by rw[hp];exact hω)
    refine(hS.2 (ρ (.n b i0 o0)).blk (ρ (.n b i0 o0)).base T us cap hMb (hO.lt _ _ hω) g1 hcap (by rw[g2];exact hcl) g4 g5).mono ?_
    rintro e0 w' ⟨rfl,us',q1,q2,q3,q4⟩
    have hnew:=hO.new _ _ hω
    have hh:∀p v,M p=some v->w'.cell? p=some v:=fun p v hp=>by
     have hne:p.block≠(ρ (.n b i0 o0)).blk:=fun e=>by rw[hMb p e]at hp;cases hp
     have h8:=h.holds p v hp
     rw[World.cell?_of_block (q4.block _ (World.block_lt_of_cell? w p h8) hne)]
     exact h8
    refine fin w' (h.fillN hO hf hi0 ho0 hl (h.ch.trans q4 (fun k hk e=>by rcases hnew with h7|h7;rw[e];exact h7;omega)) q4.size hh (.inr ⟨hω,g0,us',T,q1,by rw[q2,g2],?_,fun e he=>(hu e he).1,fun i r off d h1 h2=>q3 i r off d h1 h2⟩) (fun k q hk hq=>q4.block k (hO.lt _ _ hk) (by rintro rfl;rw[hω]at hk;cases hk;exact hq rfl)))
    rw[hl]
    have:=x0q sz hcap
    omega
  ·exact hr.elim
 ·exact hr.elim
theorem Bb(hC:bQ P F C)(h:SR F nt S L w0 M0 f M a w){t:Nat}(hd:o.dst=some t)(ht:t<nt)(hL:L (rt t 0)=none){g fi:Nat}{x:Opd}{xs:List Opd}{y:Operand}{ys:List Operand}{ts:Array TypeId}(ho:o.op=.call { callee:=.value (.func fi),args:=⟨y::ys⟩,argTypes:=ts })(hx0:ao F x y=true)(hx:bY F xs ys=true)
  (hg:F g=some fi) (hr:match vd f x with
   | .ref p k n=>match aX f p with
    | some (sz,es)=>k+n<=es.length/\p.root≠rt t 0/\0<sz/\(∀e∈(es.drop k).take n,∀c∈e,bP c=true)/\(∀x∈xs,oM f p.root x)/\∃es':List (List D),(∀e∈es',e.length=sz/\∀c∈e,bP c=true) /\
      C g (.own sz ((es.drop k).take n)::xs.map (nr f)) .any [.own sz es',.nils,.nils]/\K [(t,.ref (.r (rt t 0)) 0 es'.length),(rt t 0,.blk sz es'),dL f p] [(rt t 0,true)]
    | none=>False
   | _=>False):o.wp P a w (PostX F nt S L w0 M0 f K) Q:=by
 split at hr
 ·rename_i p k n hvx
  split at hr
  ·rename_i sz es hgp
   obtain⟨hkn,hpt,hsz,hfl,harg,es',hu,hc,hK⟩:=hr
   have hrun:(execOp a.eval o).run P w=(callFunc fi (a.eval y::ys.map a.eval).toArray).run P w:=by
    simp only[execOp,ho,resolve,Act.eval,Deferred.ofValue,Sem.run_bind,Sem.run_pure,Result.andThen_ok,invoke]
    congr 2
    rw[x1R,x1y]
    apply Array.ext'
    simp
    cases y<;>simp[Act.eval]
   obtain⟨ρ,ω,hO⟩:=h.own
   have hp:=cY hO hgp
   have hv:=hO.opd hx0
   rw[hvx,az rfl]at hv
   have hargs:∀b:Option Nat,(∀B,b=some B->ω B=some p)->og F M w b (xs.map (nr f)) (ys.map a.eval):=by
    intro bo hbo
    have hx':=hx
    simp only[bY,x0a,x0r,x0f]at hx'
    refine⟨by simpa using hx'.1,fun i d v h1 h2=>?_⟩
    rw[x0z,x0p]at h1 h2
    obtain⟨x1,h1,rfl⟩:=h1
    obtain⟨y1,h2,rfl⟩:=h2
    have hok:ao F x1 y1=true:=hx'.2 (x1,y1) (x1i.2 ⟨i,by rw[x1D];exact⟨h1,h2⟩⟩)
    have hE:=harg x1 (x0g h1)
    have hV:=hO.opd hok
    have hP:=fun hh=>h.opd hok hh
    unfold oM at hE
    unfold nr
    revert hE hV hP
    generalize vd f x1=d1
    intro hE hV hP
    cases d1<;>first|exact(yz (yf hE)).2 (hP hE)|skip
    rename_i q k1 n1
    cases q with
    | n c i o=>simp[isV]at hE
    | r c =>
     simp only at hE ⊢
     obtain⟨rfl,hcb,hE⟩:=hE
     split at hE
     ·rename_i sz1 es1 hfc
      obtain⟨rfl,hfl1⟩:=hE
      have hg1:aX f (.r c)=some (sz1,es1):=by simp[aX,hfc]
      have hq:=ip hO hg1 (by omega) hV (fun e he c hc=>by
       rw[List.drop_zero,x0L]at he
       exact fy (hfl1 e he c hc))
      show _\/_
      rcases hq with ⟨A,q1,q2⟩|⟨cap,us,T,q1,⟨q2,_⟩,q3,q4,q5,q6,q7,q8,q9⟩
      ·exact .inl ⟨x0G q2,A,q1⟩
      ·simp only[List.drop_zero,x0L,Nat.zero_mul,x1r]at q1 q3 q9
       refine .inr ⟨_,_,T,us,cap,q1,fun e=>?_,q6,q2,by rw[q7];exact q3,q9⟩
       have:=hbo _ e
       rw[q4]at this
       cases this
       exact hcb rfl
     ·exact hE.elim
   have hI:=hC.runsI g fi sz _ _ es' hg hc M w (ys.map a.eval) h.holds
   unfold Oper.wp
   rw[hrun,cx (hC.body g fi hg),Oper.upon_enter]
   have hWn:((es.drop k).take n).length=n:=by simp;omega
   have hfst:=rI (f:=f) p
   have hsnd:=zZ (f:=f) p
   rw[hd]
   rcases ip hO hgp hkn hv (fun e he c hc=>fy (hfl e he c hc))with ⟨A,hv,hn0⟩|⟨cap,us,T,hv,⟨hcap,hmc⟩,hcl,hω,g0,g1,g2,g4,g5⟩
   ·have e:(es.drop k).take n=[]:=x0G (by omega)
    have h0:=h.leave hO hgp h.ch (x0k _) h.holds (fun _ _ _ _=>rfl)
    rw[hv]
    refine(hI.1 e A (hargs none (fun B e=>by cases e))).mono ?_
    rintro e0 w' ⟨v,rfl,hw,⟨e',A',rfl⟩|hn⟩
    ·refine⟨_,_,M,hK,?_⟩
     subst e'
     rw[<- mf hsnd]
     exact(h0.grow hw).nilA ht hL hsz A'
    ·refine⟨_,_,M,hK,?_⟩
     rw[<- mf hsnd]
     exact h0.newRow0 hu hw hn ht (rt_big t 0) hL
   ·rw[hv]
    have hMb:∀q:Addr,q.block=(ρ p).blk->M q=none:=fun q hq=>hO.apart q p (by rw[hq];exact hω)
    have hnew:=hO.new _ _ hω
    have hblt:=hO.lt _ _ hω
    have hrun2:=hI.2 (ρ p).blk ((ρ p).base+k*sz) T us cap (hargs (some (ρ p).blk) (fun B e=>by cases e;exact hω)) hMb hblt g1 (by rw[hWn];exact hcap) hmc (by rw[g2];exact hcl) (fun e he=>g4 e (x1f (x0O he))) g5
    rw[hWn]at hrun2
    refine hrun2.mono ?_
    have away:∀w':World,Ch (fun k=>k=(ρ p).blk) w w'->∃w2:World,Bel w2 w'/\w2.heap.size=w.heap.size/\SR F nt S L w0 M0 (eff [dL f p] [] f) M a w2:=by
     intro w' q4
     obtain⟨B0,hB0⟩:∃B0,B0=(ρ p).blk:=⟨_,rfl⟩
     rw[<- hB0]at q4 hblt
     obtain⟨ob,q1⟩:∃ob,w'.heap[B0]? = some ob:=⟨_,x1c (x1H hblt q4.size)⟩
     obtain⟨w2,hw2⟩:∃w2:World,w2={ w with heap:=w.heap.setIfInBounds B0 ob }:=⟨_,rfl⟩
     have y1:∀k,k≠B0->w2.heap[k]? = w.heap[k]?:=fun k hk=>by
      rw[hw2];simp only[x1l];rw[if_neg (Ne.symm hk)]
     have y2:w2.heap[B0]? = some ob:=by
      rw[hw2];simp only[x1l];simp[hblt]
     have y3:w2.heap.size=w.heap.size:=by rw[hw2];simp
     have c2:Ch (fun k=>k=B0) w w2:=⟨by rw[hw2],by rw[hw2],by rw[hw2],Nat.le_of_eq y3.symm,fun k _ hk=>y1 k hk,by rw[hw2];exact .of (x0k _)⟩
     have hb2:Bel w2 w':=⟨by rw[q4.os,hw2],by rw[q4.tape,hw2],by rw[q4.output,hw2],by rw[y3];exact q4.size,fun k hk=>by
      by_cases e:k=B0
      ·subst e;rw[y2,q1]
      ·rw[y1 k e];exact q4.block k (by rw[<- y3];exact hk) e,by have:=q4.drawn;rw[hw2];exact this⟩
     have hch2:Ch S w0 w2:=h.ch.trans c2 (fun k hk e=>by rw[e,hB0];rw[e,hB0]at hk;rcases hnew with h7|h7;exact h7;omega)
     have hh2:∀p v,M p=some v->w2.cell? p=some v:=fun q v hq=>by
      have hne:q.block≠B0:=fun e=>by rw[hMb q (by rw[e,hB0])]at hq;cases hq
      rw[World.cell?_of_block (y1 _ hne)]
      exact h.holds q v hq
     exact⟨w2,hb2,y3,h.leave (w':=w2) hO hgp hch2 (Nat.le_of_eq y3.symm) hh2 (fun k' q hk' hq=>y1 k' (by rintro rfl;rw[hB0,hω]at hk';cases hk';exact hq rfl))⟩
    rintro e0 w' ⟨v,rfl,q4,⟨e',A',rfl⟩|⟨o2,cap2,T2,us',rfl,q1,hl,hmc2,hcl2,q3⟩|hn⟩
    ·obtain⟨w2,hb2,_,h0⟩:=away w' q4
     refine⟨_,_,M,hK,?_⟩
     subst e'
     rw[<- mf hsnd]
     exact(h0.grow hb2).nilA ht hL hsz A'
    ·have hchS:Ch S w0 w':=h.ch.trans q4 (fun k hk e=>by rcases hnew with h7|h7;rw[e];exact h7;omega)
     have hh:∀p v,M p=some v->w'.cell? p=some v:=fun q v hq=>by
      have hne:q.block≠(ρ p).blk:=fun e=>by rw[hMb q e]at hq;cases hq
      have h8:=h.holds q v hq
      rw[World.cell?_of_block (q4.block _ (World.block_lt_of_cell? w q h8) hne)]
      exact h8
     have ht10:t<10000:=x1H ht h.hnt
     have hrb:10000<=rt t 0:=rt_big t 0
     have hpr:p.root≠t:=by omega
     have hrt:rt t 0≠t:=by omega
     obtain⟨dq,hdq⟩:∃dq,dq=dL f p:=⟨_,rfl⟩
     rw[<- hdq]at hfst hsnd
     have lk:∀s,s≠t->s≠rt t 0->s≠p.root->[(t,D.ref (.r (rt t 0)) 0 es'.length),(rt t 0,.blk sz es'),dq].lookup s=none:=fun s s1 s2 s3=>by
      have e1:(s==t)=false:=by simpa using s1
      have e2:(s==rt t 0)=false:=by simpa using s2
      obtain⟨c,y⟩:=dq
      simp only at hfst
      have e3:(s==c)=false:=by rw[hfst];simpa using s3
      simp only[x0l,e1,e2,e3,x0V]
     have lkp:[(t,D.ref (.r (rt t 0)) 0 es'.length),(rt t 0,.blk sz es'),dq].lookup p.root=some dq.2:=by
      have e1:(p.root==t)=false:=by simpa using hpr
      have e2:(p.root==rt t 0)=false:=by simpa using hpt
      obtain⟨c,y⟩:=dq
      simp only at hfst
      subst hfst
      simp only[x0l,e1,e2,beq_self_eq_true]
     have key:=h.app_core hO (f':=eff [(t,.ref (.r (rt t 0)) 0 es'.length),(rt t 0,.blk sz es'),dq] [(rt t 0,true)] f) (w':=w') (t:=t) (b:=rt t 0) (sz:=sz) (n:=es'.length) (m:=0) (rows:=es') (rowsY:=[]) (src:=some (p,k)) (inp:=true) (c2:=none)
      (l:=⟨(ρ p).blk,o2,sz,us'.length⟩) (nb:=none) (v:=.slice (some ⟨(ρ p).blk,o2,none⟩) es'.length cap2) ht hL rfl rfl (by simpa[aO]using hpt) (by simp) (fun c e=>by cases e)
      (aP (by simp)) (by
       rw[x1M]
       refine aP ?_
       have e1:(rt t 0==t)=false:=by simpa using hrt
       simp[x0l,e1])
      (fun s hs hst=>bO (lk s hst (by omega) (by omega)))
      (fun c hc hcb hcs _=>ca (lk c (by omega) hcb (by simpa[aO]using fun e:c=p.root=>hcs (by simp[aO,e]))))
      (fun c e=>by cases e)
      (fun c k' e=>by
       cases e
       have:=aP (f:=f) (ks:=[(rt t 0,true)]) lkp
       rw[hdq]at this ⊢
       exact this▸rfl)
      (fun c i o k' e=>by
       cases e
       obtain⟨sz0,es0,row0,z1,z2,z3⟩:=CW hgp
       refine⟨sz0,es0,z1,?_,row0,z2,(x0d.1 z3).1⟩
       have:=aP (f:=f) (ks:=[(rt t 0,true)]) lkp
       rw[hdq]at this
       simp only[dL,z1]at this
       rw[hdq]
       simp only[dL,z1]
       exact this)
      (fun k e=>by cases e) q4.size hchS hh
      (fun k' q hk' hq=>q4.block k' (hO.lt _ _ hk') (by rintro rfl;rw[hω]at hk';cases hk';exact hq rfl rfl))
      (by simp only[aC,if_true];exact .inr ⟨cap2,by simp,by simpa using hl,by simpa using hcl2,hmc2⟩)
      (.inr ⟨.inr ⟨rfl,p,k,rfl,hω,rfl⟩,rfl,us',T2,q1,rfl,(by
       have:=x0q sz hl
       simp only[x1r]
       omega),fun e he=>(hu e (by simpa using he)).1,fun i r off d h1 h2=>by
        obtain⟨u,k1,k2⟩:=q3 i r off d h1 h2
        refine⟨u,k1,?_⟩
        have hO':=fy ((hu r (x0g h1)).2 d (x0g h2))
        cases p with
        | r c=>show cE F M ω ρ w c _ off d u;rw[bx hO'];exact k2
        | n c i' o'=>exact⟨hO',k2⟩,fun i r off d h1 _=>by simp at h1⟩)
     refine⟨_,_,M,hK,?_⟩
     rw[hdq]at key
     exact key
    ·obtain⟨w2,hb2,y3,h0⟩:=away w' q4
     have hn2:fu F M w2 w' sz es' v:=by
      obtain⟨B,o,T,us,cap,z1,z2,z3⟩:=hn
      exact⟨B,o,T,us,cap,z1,by rw[y3];exact z2,z3⟩
     refine⟨_,_,M,hK,?_⟩
     rw[<- mf hsnd]
     exact h0.newRow0 hu hb2 hn2 ht (rt_big t 0) hL
  ·exact hr.elim
 ·exact hr.elim
end
end Go.Gv

namespace Go.Gv
variable[Drw]
section
variable{P:Program}{F:Fid}{C:Nat->List D->D->List D->Prop}{nt:Nat}{S:Nat->Prop}{L:Ln}{w0:World}{M0:Mem}{f:Nat->D}{M:Mem}{a:Act}{w:World}{o:Oper}{d:D}{Q:Exit->Act->World->Prop}{ρ:Pa->Loc}{ω:Nat->Option Pa}{New:Nat->Prop}{K:List (Nat×D)->List (Nat×Bool)->Prop}
def fz(ω:Nat->Option Pa)(c:Nat):Nat->Option Pa:=fun k=>match ω k with
 | some p=>if p.root=c then some p else none
 | none=>none
theorem dR{c k:Nat}{p:Pa}(h:fz ω c k=some p):ω k=some p/\p.root=c:=by
 unfold fz at h
 split at h
 ·rename_i q hq
  split at h
  ·cases h
   exact⟨hq,by assumption⟩
  ·cases h
 ·cases h
theorem qf{c k:Nat}{p:Pa}(h:ω k=some p)(hp:p.root=c):fz ω c k=some p:=by
 simp only[fz,h,if_pos hp]
def fcE(f:Nat->D)(c:Nat):Nat->D:=fun t=>if t=c then f t else .any
theorem Own.only(h:Own F L New f M a w ρ ω){c:Nat}(hc:10000<=c):Own F L New (fcE f c) M a w ρ (fz ω c):=by
 have hne:∀{t:Nat},t≠c->fcE f c t=.any:=fun{t} ht=>by simp only[fcE,if_neg ht]
 have hcc:fcE f c c=f c:=by simp[fcE]
 refine h.step (ks:=[]) (fun p hp=>absurd rfl hp) (Mem.le_refl _) (x0k _) (fun t ht=>.inl (.inl (hne (by omega)))) (fun b hb=>?_) (fun k p e=>.inl ⟨p,(dR e).1⟩) (fun p q e=>h.apart p q (dR e).1) (fun b l hb hl hB=>?_)
 ·by_cases e:b=c
  ·subst e
   exact .inl (.inr ⟨hcc,fun p hp=>⟨rfl,fun hw=>⟨qf hw hp,rfl⟩⟩⟩)
  ·exact .inl (.inl (by rw[hne e];rfl))
 ·by_cases e:b=c
  ·subst e
   rw[hcc]at hB
   exact⟨rfl,hB⟩
  ·rw[hne e]at hB;cases hB
theorem Ag{c:Nat}(_:Nat):aX (fcE f c) (.r c)=aX f (.r c):=by simp[aX,fcE]
theorem SR.frz(h:SR F nt S L w0 M0 f M a w){t:Nat}(ht:t<nt){c k n:Nat}(hc:10000<=c){v:Value}(hv:∀ρ ω,Own F L (fun k=>S k\/w0.heap.size<=k) f M a w ρ ω->aC F M ρ (.ref (.r c) k n) v)(hk:bA f (.ref (.r c) k n)) :
  ∃M',SR F nt S L w0 M0 (eff [(t,dp1 f (.ref (.r c) k n)),(c,.any)] [] f) M' (a.put (some t) v) w:=by
 obtain⟨ρ,ω,hO⟩:=h.own
 have hnt:=h.hnt
 have hsz:=h.size
 have hO1:=hO.only hc
 have e1:aX (fcE f c) (.r c)=aX f (.r c):=Ag 0
 have hk1:bA (fcE f c) (.ref (.r c) k n):=by simp only[bA,e1]at hk ⊢;exact hk
 have ed:dp1 (fcE f c) (.ref (.r c) k n)=dp1 f (.ref (.r c) k n):=by simp only[dp1,e1]
 have hr:=ma hO1 (hv ρ ω hO) hk1
 rw[ed]at hr
 have hle:M.le (bB (fz ω c) M w):=cF hO1
 have hE:=hO.erase hc
 have hpure:isX (dp1 f (.ref (.r c) k n))=false/\isB (dp1 f (.ref (.r c) k n))=false/\∀ρ',aC F (bB (fz ω c) M w) ρ' (dp1 f (.ref (.r c) k n)) v:=by
  simp only[dp1]at hr ⊢
  split
  ·rename_i e
   rw[e]at hr
   exact⟨rfl,rfl,fun _=>hr⟩
  ·rename_i e
   rw[e]at hr
   exact⟨rfl,rfl,fun _=>hr⟩
 generalize dp1 f (.ref (.r c) k n)=x at *
 have hf':∀s,eff [(t,x),(c,.any)] [] f s=if s=t then x else fbE f c s:=fun s=>by
  unfold eff fbE
  by_cases e:s=t
  ·subst e;simp
  ·have b1:(s==t)=false:=by simpa using e
   by_cases e2:s=c
   ·subst e2
    simp only[List.lookup,b1,beq_self_eq_true,if_neg e,if_true]
   ·have b2:(s==c)=false:=by simpa using e2
    simp only[List.lookup,b1,b2,if_neg e,if_neg e2]
    simp[aN]
 refine⟨bB (fz ω c) M w,⟨hnt,by simp[Act.put,hsz],by simp[Act.put,h.defers],h.ch,cw h.holds,Mem.le_trans h.ext hle,fun p h1 h2=>?_,ρ,fp ω c,?_⟩⟩
 ·by_cases e:M p=none
  ·unfold bB at h2
   split at h2
   ·rename_i q hq
    exact hO.new _ _ (dR hq).1
   ·exact absurd e h2
  ·exact h.fresh p h1 e
 ·refine hE.step (ks:=[]) (fun p hp=>absurd rfl hp) hle (x0k _) (fun s hs=>?_) (fun b hb=>?_) (fun k p e=>.inl ⟨p,e⟩) (fun p q e=>?_) (fun b l hb hl hB=>?_)
  ·rw[hf']
   by_cases e:s=t
   ·subst e
    rw[if_pos rfl]
    refine .inr (.inr ⟨v,by simp[Act.put,hsz,ht],?_⟩)
    rw[hf',if_pos rfl,az hpure.1]
    exact hpure.2.2 ρ
   ·rw[if_neg e]
    refine .inl (.inr ⟨rfl,?_,by simp[aN]⟩)
    simp[Act.put,x1l,Ne.symm e]
  ·have:b≠t:=by omega
   rw[hf',if_neg this]
   exact .inl (.inr ⟨rfl,fun p hp=>⟨rfl,fun hw=>⟨hw,rfl⟩⟩⟩)
  ·obtain⟨e2,e3⟩:=fg e
   have e4:fz ω c p.block=none:=by
    simp only[fz,e2,if_neg e3]
   simp only[bB,e4]
   exact hO.apart p q e2
  ·have:b≠t:=by omega
   rw[hf',if_neg this]at hB
   exact⟨rfl,hB⟩
theorem yK(h:SR F nt S L w0 M0 f M a w){t:Nat}(hd:o.dst=some t)(ht:t<nt){x:Opd}{x':Operand}(ho:o.op=.move x'\/o.op=.assign x')(hx:ao F x x'=true)
  (hr:match vd f x with
   | .ref (.r c) k n=>bA f (.ref (.r c) k n)/\K [(t,dp1 f (.ref (.r c) k n)),(c,.any)] []
   | d=>isS d=true/\K [(t,d)] []):o.wp P a w (PostX F nt S L w0 M0 f K) Q:=by
 have hrun:(execOp a.eval o).run P w=.ok (.value (a.eval x')) w:=by rcases ho with ho|ho<;>simp[execOp,ho]
 split at hr
 ·rename_i c k n ex
  have hc:10000<=c:=by
   obtain⟨ρ,ω,hO⟩:=h.own
   have h1:=hr.1
   simp only[bA]at h1
   split at h1
   ·rename_i e;exact cY hO e
   ·exact h1.elim
  obtain⟨M',hs⟩:=h.frz ht hc (v:=a.eval x') (fun ρ ω hO=>by have:=hO.opd hx;rwa[ex,az rfl]at this) hr.1
  exact dD hrun (by rw[hd];exact⟨_,_,M',hr.2,hs⟩)
 ·exact postX_val hd hrun hr.2 (h.put ht (fun ρ ω hO=>hO.opd hx))
end
end Go.Gv
