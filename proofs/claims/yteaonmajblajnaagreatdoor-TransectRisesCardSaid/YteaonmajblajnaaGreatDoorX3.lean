/-
  Texts of the proof: GvG0, GvF6, GvF7, GvF8, GvF9, GvF10, GvF11, GvF12, GvF13, GvG, GvH, GvI0.
-/
import Derived.Test.YteaonmajblajnaaGreatDoorX2
import Derived.Test.YteaonmajblajnaaGreatDoorX1
set_option linter.all false
namespace Go.Gv
open Go.RowKit
section
variable {C : Nat -> List D -> D -> List D -> Prop} {f : Nat -> D}
theorem gf {K K' : Nat -> Prop} {x : Option Opd} {n : Nat} (h : dH f x n K) (hk : ∀ m,K m -> K' m) : dH f x n K':=by
 unfold dH at h ⊢
 split at h
 ·exact hk _ h
 ·split at h
  ·exact ⟨h.1,hk _ h.2⟩
  ·exact h.elim
theorem dI {K : Nat -> Prop} {x : Option Opd} {n : Nat} (h : dH f x n K) : ∃ m,K m /\ ∀ K',K' m -> dH f x n K':=by
 unfold dH at h ⊢
 split at h
 ·exact ⟨_,h,fun K' hk=>hk⟩
 ·split at h
  ·exact ⟨_,h.2,fun K' hk=>⟨h.1,hk⟩⟩
  ·exact h.elim
theorem nX {K : D -> Prop} {o : NOp} (h : res f K o) : ∃ d,K d /\ ∀ K' : D -> Prop,K' d -> res f K' o:=by
 cases o with
 | mov x=>simp only [res] at h ⊢;exact ⟨_,h.2,fun K' hk=>⟨h.1,hk⟩⟩
 | nck x =>
  simp only [res] at h ⊢
  split at h
  ·exact ⟨_,h,fun K' hk=>hk⟩
  ·exact ⟨_,h,fun K' hk=>hk⟩
  ·exact ⟨_,h,fun K' hk=>hk⟩
  ·exact h.elim
 | pick c a b =>
  simp only [res] at h ⊢
  split at h
  ·rename_i v _
   cases v
   ·obtain ⟨h1,h2⟩:=h.2 rfl;exact ⟨_,h2,fun K' hk=>⟨fun e=>(by cases e),fun _=>⟨h1,hk⟩⟩⟩
   ·obtain ⟨h1,h2⟩:=h.1 rfl;exact ⟨_,h2,fun K' hk=>⟨fun _=>⟨h1,hk⟩,fun e=>(by cases e)⟩⟩
  ·exact h.elim
 | bin op x y =>
  simp only [res] at h ⊢
  split at h
  ·cases op <;> simp only [] at h ⊢ <;> first | exact ⟨_,h.2,fun K' hk=>⟨h.1,hk⟩⟩ | exact ⟨_,h.2.2,fun K' hk=>⟨h.1,h.2.1,hk⟩⟩
  ·cases op <;> simp only [] at h ⊢ <;> first | exact h.elim | exact ⟨_,h,fun K' hk=>hk⟩ | exact ⟨_,h.2,fun K' hk=>⟨h.1,hk⟩⟩
  ·exact h.elim
 | beq neg ks x y =>
  simp only [res] at h ⊢
  split at h
  ·exact ⟨_,h.2,fun K' hk=>⟨h.1,hk⟩⟩
  ·obtain ⟨h0,h⟩:=h
   split at h
   ·exact ⟨_,h,fun K' hk=>⟨h0,hk⟩⟩
   ·exact h.elim
  ·exact ⟨_,h.2,fun K' hk=>⟨h.1,hk⟩⟩
  ·rename_i es _ _
   rcases Nat.eq_zero_or_pos es.length with h0 | h0
   ·exact ⟨_,h.2.2 h0,fun K' hk=>⟨h.1,fun h1=>absurd h1 (by omega),fun _=>hk⟩⟩
   ·exact ⟨_,h.2.1 h0,fun K' hk=>⟨h.1,fun _=>hk,fun h1=>absurd h1 (by omega)⟩⟩
  ·exact ⟨_,h.2,fun K' hk=>⟨h.1,hk⟩⟩
  ·exact ⟨_,h.2,fun K' hk=>⟨h.1,hk⟩⟩
  ·exact h.elim
 | un op x =>
  simp only [res] at h ⊢
  split at h
  ·cases op <;> simp only [] at h ⊢ <;> first | exact h.elim | exact ⟨_,h,fun K' hk=>hk⟩
  ·cases op <;> simp only [] at h ⊢ <;> first | exact h.elim | exact ⟨_,h,fun K' hk=>hk⟩
  ·exact h.elim
 | conv k x =>
  simp only [res] at h ⊢
  split at h
  ·exact ⟨_,h,fun K' hk=>hk⟩
  ·exact h.elim
 | fld off n ag x =>
  simp only [res] at h ⊢
  split at h
  ·exact ⟨_,h.2,fun K' hk=>⟨h.1,hk⟩⟩
  ·cases ag <;> exact ⟨_,h.2,fun K' hk=>⟨h.1,hk⟩⟩
  ·exact h.elim
 | idxA len sz ag x i =>
  simp only [res] at h ⊢
  split at h
  ·exact ⟨_,h.2.2.2,fun K' hk=>⟨h.1,h.2.1,h.2.2.1,hk⟩⟩
  ·cases ag <;> exact ⟨_,h.2.2.2,fun K' hk=>⟨h.1,h.2.1,h.2.2.1,hk⟩⟩
  ·exact h.elim
 | slA len sz x =>
  simp only [res] at h ⊢
  split at h
  ·exact ⟨_,h.2.2.2,fun K' hk=>⟨h.1,h.2.1,h.2.2.1,hk⟩⟩
  ·exact h.elim
 | cvS x =>
  simp only [res] at h ⊢
  split at h
  ·exact ⟨_,h.2.2,fun K' hk=>⟨h.1,h.2.1,hk⟩⟩
  ·exact h.elim
 | idxS x i =>
  simp only [res] at h ⊢
  split at h
  ·obtain ⟨h0,b,h1,h2⟩:=h;exact ⟨_,h2,fun K' hk=>⟨h0,b,h1,hk⟩⟩
  ·exact h.elim
 | ext i x =>
  simp only [res] at h ⊢
  split at h
  ·obtain ⟨d,h1,h3⟩:=h;exact ⟨d,h3,fun K' hk=>⟨d,h1,hk⟩⟩
  ·obtain ⟨d,h1,h3⟩:=h;exact ⟨d,h3,fun K' hk=>⟨d,h1,hk⟩⟩
  ·exact h.elim
 | fad off x =>
  simp only [res] at h ⊢
  split at h
  ·exact ⟨_,h,fun K' hk=>hk⟩
  ·exact ⟨_,h,fun K' hk=>hk⟩
  ·exact ⟨_,h,fun K' hk=>hk⟩
  ·exact h.elim
 | iadS sz x i =>
  simp only [res] at h ⊢
  split at h
  ·obtain ⟨h0,e,h1,h2,h3⟩:=h;exact ⟨_,h3,fun K' hk=>⟨h0,e,h1,h2,hk⟩⟩
  ·obtain ⟨h0,h1,h2,h3⟩:=h;exact ⟨_,h3,fun K' hk=>⟨h0,h1,h2,hk⟩⟩
  ·obtain ⟨h0,h1,h2⟩:=h
   split at h2
   ·exact ⟨_,h2.2,fun K' hk=>⟨h0,h1,h2.1,hk⟩⟩
   ·exact h2.elim
  ·exact h.elim
 | iadA len sz x i =>
  simp only [res] at h ⊢
  split at h
  ·exact ⟨_,h.2.2,fun K' hk=>⟨h.1,h.2.1,hk⟩⟩
  ·exact ⟨_,h.2.2,fun K' hk=>⟨h.1,h.2.1,hk⟩⟩
  ·exact h.elim
 | ld n ag x =>
  simp only [res] at h ⊢
  split at h
  ·rename_i p i off ex
   split at h
   ·obtain ⟨r,h1,h2,h3⟩:=h
    cases ag with
    | false=>exact ⟨_,h3,fun K' hk=>⟨r,h1,h2,hk⟩⟩
    | true =>
     cases hall : (((r.drop off).take n).all isV) with
     | true=>exact ⟨_,h3.1 hall,fun K' hk=>⟨r,h1,h2,fun _=>hk,fun e=>(by rw [hall] at e;cases e)⟩⟩
     | false=>exact ⟨_,h3.2 hall,fun K' hk=>⟨r,h1,h2,fun e=>(by rw [hall] at e;cases e),fun _=>hk⟩⟩
   ·exact h.elim
  ·exact ⟨_,h.2,fun K' hk=>⟨h.1,hk⟩⟩
  ·rename_i ds ex
   obtain ⟨h0,h⟩:=h
   cases ag with
   | false=>exact ⟨_,h.2,fun K' hk=>⟨h0,h.1,hk⟩⟩
   | true =>
    cases hall : (ds.take n).all isV with
    | true=>exact ⟨_,h.1 hall,fun K' hk=>⟨h0,fun _=>hk,fun e=>(by cases e)⟩⟩
    | false=>exact ⟨_,h.2 hall,fun K' hk=>⟨h0,fun e=>(by cases e),fun _=>hk⟩⟩
  ·exact h.elim
 | blsF sz len zs parts =>
  simp only [res] at h ⊢
  exact ⟨_,h.2.2.2,fun K' hk=>⟨h.1,h.2.1,h.2.2.1,hk⟩⟩
 | blsX sz len zs parts =>
  simp only [res] at h ⊢
  exact ⟨_,h.2.2,fun K' hk=>⟨h.1,h.2.1,hk⟩⟩
 | boxF x =>
  simp only [res] at h ⊢
  split at h
  ·exact ⟨_,h,fun K' hk=>hk⟩
  ·exact ⟨_,h,fun K' hk=>hk⟩
  ·exact ⟨_,h.2,fun K' hk=>⟨h.1,hk⟩⟩
 | bld zs parts =>
  simp only [res] at h ⊢
  obtain ⟨h1,h2,h3⟩:=h
  cases hall : (parts.all fun p=>isV (vd f p.2.2)) with
  | true=>exact ⟨_,h2 hall,fun K' hk=>⟨h1,fun _=>hk,fun e=>(by cases e)⟩⟩
  | false=>exact ⟨_,h3 hall,fun K' hk=>⟨h1,fun e=>(by cases e),fun _=>hk⟩⟩
 | len x =>
  simp only [res] at h ⊢
  split at h
  ·exact ⟨_,h,fun K' hk=>hk⟩
  ·exact ⟨_,h,fun K' hk=>hk⟩
  ·exact ⟨_,h,fun K' hk=>hk⟩
  ·exact ⟨_,h,fun K' hk=>hk⟩
  ·exact h.elim
 | lens x =>
  simp only [res] at h ⊢
  split at h
  ·exact ⟨_,h,fun K' hk=>hk⟩
  ·exact h.elim
 | mk g xs =>
  simp only [res] at h ⊢
  obtain ⟨h1,h2,h3⟩:=h
  cases hall : (xs.all fun x=>isV (vd f x)) with
  | true=>exact ⟨_,h2 hall,fun K' hk=>⟨h1,fun _=>hk,fun e=>(by cases e)⟩⟩
  | false=>exact ⟨_,h3 hall,fun K' hk=>⟨h1,fun e=>(by cases e),fun _=>hk⟩⟩
 | slc sz x lo hi =>
  simp only [res] at h ⊢
  split at h
  ·obtain ⟨hz,h⟩:=h
   obtain ⟨m,h1,h2⟩:=dI h
   obtain ⟨l,⟨h3,h4,h5⟩,h6⟩:=dI h1
   exact ⟨_,h5,fun K' hk=>⟨hz,h2 _ (h6 _ ⟨h3,h4,hk⟩)⟩⟩
  ·obtain ⟨m,h1,h2⟩:=dI h
   obtain ⟨l,⟨h3,h4,h5⟩,h6⟩:=dI h1
   exact ⟨_,h5,fun K' hk=>h2 _ (h6 _ ⟨h3,h4,hk⟩)⟩
  ·split at h
   ·obtain ⟨hz,h⟩:=h
    obtain ⟨m,h1,h2⟩:=dI h
    obtain ⟨l,⟨h3,h4,h5⟩,h6⟩:=dI h1
    exact ⟨_,h5,fun K' hk=>⟨hz,h2 _ (h6 _ ⟨h3,h4,hk⟩)⟩⟩
   ·exact h.elim
  ·exact h.elim
 | slS x lo hi =>
  simp only [res] at h ⊢
  split at h
  ·obtain ⟨m,h1,h2⟩:=dI h
   obtain ⟨l,⟨h3,h4,h5⟩,h6⟩:=dI h1
   exact ⟨_,h5,fun K' hk=>h2 _ (h6 _ ⟨h3,h4,hk⟩)⟩
  ·exact h.elim
 | mn x y =>
  simp only [res] at h ⊢
  split at h
  ·exact ⟨_,h.2,fun K' hk=>⟨h.1,hk⟩⟩
  ·exact h.elim
 | mx x y =>
  simp only [res] at h ⊢
  split at h
  ·exact ⟨_,h.2,fun K' hk=>⟨h.1,hk⟩⟩
  ·exact h.elim
 | add64 x y c =>
  simp only [res] at h ⊢
  split at h
  ·obtain ⟨h1,h2,h3,h4,h5,h6,h7⟩:=h;exact ⟨_,h7,fun K' hk=>⟨h1,h2,h3,h4,h5,h6,hk⟩⟩
  ·exact h.elim
 | sub64 x y c =>
  simp only [res] at h ⊢
  split at h
  ·obtain ⟨h1,h2,h3,h4,h5,h6,h7⟩:=h;exact ⟨_,h7,fun K' hk=>⟨h1,h2,h3,h4,h5,h6,hk⟩⟩
  ·exact h.elim
 | mpl sh kt et ok z m x =>
  simp only [res] at h ⊢
  split at h
  ·split at h
   ·obtain ⟨h1,h2,h3,h⟩:=h
    cases ok <;> exact ⟨_,h,fun K' hk=>⟨h1,h2,h3,hk⟩⟩
   ·exact h.elim
  ·exact h.elim
 | _=>simp only [res] at h
theorem jI {d : D} {K : D -> List Nat -> Prop} (h : dG f d K) : ∃ c bs,K c bs /\ ∀ K',K' c bs -> dG f d K':=by
 unfold dG at h ⊢
 split at h
 ·obtain ⟨h0,h⟩:=h
  split at h
  ·exact ⟨_,_,h.2.2,fun K' hk=>⟨h0,h.1,h.2.1,hk⟩⟩
  ·exact h.elim
 ·exact ⟨_,_,h.2,fun K' hk=>⟨h.1,hk⟩⟩
theorem jJ : ∀ {ds : List D} {K : List D -> List Nat -> Prop},kj f ds K -> ∃ cs bs,K cs bs /\ ∀ K',K' cs bs -> kj f ds K'
 | [],K,h=>⟨_,_,h,fun K' hk=>hk⟩
 | d::ds,K,h=>by
  obtain ⟨c,bs,h1,h2⟩:=jI h
  obtain ⟨cs,bs',h3,h4⟩:=jJ h1
  exact ⟨_,_,h3,fun K' hk=>h2 _ (h4 _ hk)⟩
theorem gJ {d : D} {ns : List Nat} {K : List D -> List Nat -> Prop} (h : fj f d ns K) : ∃ cs bs,K cs bs /\ ∀ K',K' cs bs -> fj f d ns K':=by
 unfold fj at h ⊢
 split at h
 ·exact ⟨_,_,h.2.2,fun K' hk=>⟨h.1,h.2.1,hk⟩⟩
 ·obtain ⟨cs,bs,h1,h2⟩:=jJ h.2
  exact ⟨_,_,h1.2,fun K' hk=>⟨h.1,h2 _ ⟨h1.1,hk⟩⟩⟩
 ·obtain ⟨c,bs,h1,h2⟩:=jI h.2
  exact ⟨_,_,h1,fun K' hk=>⟨h.1,h2 _ hk⟩⟩
theorem lS {sz : Nat} {ns : List Nat} : ∀ {ps : List (Nat × Opd)} {es : List (List D)} {bs : List Nat} {K : List (List D) -> List Nat -> Prop},eK f sz ns ps es bs K -> ∃ es' bs',K es' bs' /\ ∀ K',K' es' bs' -> eK f sz ns ps es bs K'
 | [],es,bs,K,h=>⟨_,_,h,fun K' hk=>hk⟩
 | (i,x)::ps,es,bs,K,h=>by
  obtain ⟨h0,h⟩:=h
  obtain ⟨cs,b1,⟨h1,h1'⟩,h2⟩:=gJ h
  obtain ⟨es',bs',h3,h4⟩:=lS h1'
  exact ⟨_,_,h3,fun K' hk=>⟨h0,h2 _ ⟨h1,h4 _ hk⟩⟩⟩
theorem dK {mv : Bool} {d : D} {sz : Nat} {K : List (List D) -> List Nat -> Prop} (h : eP f mv d sz K) : ∃ es bs,K es bs /\ ∀ K',K' es bs -> eP f mv d sz K':=by
 unfold eP at h ⊢
 split at h
 ·exact ⟨_,_,h,fun K' hk=>hk⟩
 ·exact ⟨_,_,h.2,fun K' hk=>⟨h.1,hk⟩⟩
 ·cases mv with
  | true =>
   obtain ⟨h0,h⟩:=h
   split at h
   ·split at h
    ·exact ⟨_,_,h.2.2.2,fun K' hk=>⟨h0,h.1,h.2.1,h.2.2.1,hk⟩⟩
    ·exact h.elim
   ·exact h.elim
  | false =>
   simp only at h ⊢
   split at h
   ·exact ⟨_,_,h.2.2.2,fun K' hk=>⟨h.1,h.2.1,h.2.2.1,hk⟩⟩
   ·exact h.elim
 ·exact h.elim
theorem lX {dst : Option Nat} {K : List (Nat × D) -> List (Nat × Bool) -> Prop} {o : NOp} (h : ay C f dst K o) : ∃ ws ks,K ws ks /\ ∀ K' : List (Nat × D) -> List (Nat × Bool) -> Prop,K' ws ks -> ay C f dst K' o:=by
 have dk : ∀ {d : D},dc dst K d -> ∃ ws ks,K ws ks /\ ∀ K' : List (Nat × D) -> List (Nat × Bool) -> Prop,K' ws ks -> dc dst K' d:=fun {d} h=>by
  unfold dc at h ⊢
  split at h
  ·exact ⟨_,_,h,fun K' hk=>hk⟩
  ·exact ⟨_,_,h,fun K' hk=>hk⟩
 have gen : ∀ (o : NOp),res f (dc dst K) o -> ∃ ws ks,K ws ks /\ ∀ K' : List (Nat × D) -> List (Nat × Bool) -> Prop,K' ws ks -> res f (dc dst K') o:=by
  intro o h
  obtain ⟨d,h1,h2⟩:=nX h
  obtain ⟨ws,ks,h3,h4⟩:=dk h1
  exact ⟨ws,ks,h3,fun K' hk=>h2 _ (h4 K' hk)⟩
 cases o with
 | frz x =>
  clear gen dk
  cases dst with
  | none=>exact h.elim
  | some t =>
   simp only [ay] at h ⊢
   split at h
   ·exact ⟨_,_,h.2,fun K' hk=>⟨h.1,hk⟩⟩
   ·exact ⟨_,_,h.2,fun K' hk=>⟨h.1,hk⟩⟩
 | ldQ q x =>
  clear gen
  simp only [ay] at h ⊢
  split at h
  ·obtain ⟨h1,h⟩:=h
   split at h
   ·obtain ⟨r,h2,d,h3,h⟩:=h
    obtain ⟨ws,ks,h4,h5⟩:=dk h
    exact ⟨ws,ks,h4,fun K' hk=>⟨h1,r,h2,d,h3,h5 K' hk⟩⟩
   ·exact h.elim
  ·exact h.elim
 | appQ q sz by_ x y =>
  clear gen dk
  cases dst with
  | none=>exact h.elim
  | some t =>
   simp only [ay] at h ⊢
   split at h
   ·obtain ⟨h0,h⟩:=h
    obtain ⟨rows,bs,⟨h1,h2,h⟩,hg⟩:=dK h
    split at h
    ·obtain ⟨row0,h3,es,h4,h5,h6,h7⟩:=h
     exact ⟨_,_,h7,fun K' hk=>⟨h0,hg _ ⟨h1,h2,row0,h3,es,h4,h5,h6,hk⟩⟩⟩
    ·exact h.elim
   ·exact h.elim
 | cpy sz x y =>
  clear gen dk
  cases dst with
  | none=>exact h.elim
  | some t =>
   simp only [ay] at h ⊢
   obtain ⟨rows,bs,⟨h1,h2,h⟩,hg⟩:=dK h
   split at h
   ·rename_i b k n _
    rcases Nat.eq_zero_or_pos n with hn | hn
    ·exact ⟨_,_,h.1 hn,fun K' hk=>hg _ ⟨h1,h2,fun _=>hk,fun h3=>absurd hn (by omega)⟩⟩
    ·have h:=h.2 hn
     split at h
     ·obtain ⟨h3,h5,h6,h7,h8⟩:=h
      exact ⟨_,_,h8,fun K' hk=>hg _ ⟨h1,h2,fun h4=>absurd h4 (by omega),fun _=>⟨h3,h5,h6,h7,hk⟩⟩⟩
     ·exact h.elim
   ·exact h.elim
 | ldM n x =>
  clear gen dk
  cases dst with
  | none=>exact h.elim
  | some t =>
   simp only [ay] at h ⊢
   split at h
   ·obtain ⟨h1,h2,h⟩:=h
    split at h
    ·obtain ⟨h3,h4,h5,h6⟩:=h
     exact ⟨_,_,h6,fun K' hk=>⟨h1,h2,h3,h4,h5,hk⟩⟩
    ·exact h.elim
   ·exact h.elim
 | stP x y =>
  clear gen dk
  simp only [ay] at h ⊢
  obtain ⟨h0,h⟩:=h
  split at h
  ·obtain ⟨h1,h⟩:=h
   split at h
   ·obtain ⟨h2,h3,h⟩:=h
    split at h
    ·obtain ⟨h4,h⟩:=h
     split at h
     ·obtain ⟨h5,h⟩:=h
      split at h
      ·obtain ⟨row0,h6,sz1,es,h7,r,h8,h9,h10⟩:=h
       exact ⟨_,_,h10,fun K' hk=>⟨h0,h1,h2,h3,h4,h5,row0,h6,sz1,es,h7,r,h8,h9,hk⟩⟩
      ·exact h.elim
     ·exact h.elim
    ·exact h.elim
   ·exact h.elim
  ·exact h.elim
 | ldF n x =>
  clear gen dk
  cases dst with
  | none=>exact h.elim
  | some t =>
   simp only [ay] at h ⊢
   split at h
   ·split at h
    ·obtain ⟨r,h1,h2,h3⟩:=h
     exact ⟨_,_,h3,fun K' hk=>⟨r,h1,h2,hk⟩⟩
    ·exact h.elim
   ·exact h.elim
 | asg x =>
  clear gen dk
  cases dst with
  | none=>exact h.elim
  | some t =>
   simp only [ay] at h ⊢
   split at h
   ·split at h
    ·rename_i e
     exact ⟨_,_,h,fun K' hk=>by rw [if_pos e];exact hk⟩
    ·rename_i e
     split at h
     ·exact ⟨_,_,h,fun K' hk=>by rw [if_neg e];exact hk⟩
     ·exact h.elim
   ·exact ⟨_,_,h.2,fun K' hk=>⟨h.1,hk⟩⟩
 | nilo sz =>
  clear gen dk
  simp only [ay] at h ⊢
  split at h
  ·exact ⟨_,_,h.2,fun K' hk=>⟨h.1,hk⟩⟩
  ·exact h.elim
 | box ns x =>
  clear gen dk
  simp only [ay] at h ⊢
  split at h
  ·obtain ⟨cs,bs,⟨h1,h2⟩,h3⟩:=gJ h
   exact ⟨_,_,h2,fun K' hk=>h3 _ ⟨h1,hk⟩⟩
  ·exact h.elim
 | alc zs =>
  clear gen dk
  simp only [ay] at h ⊢
  split at h
  ·exact ⟨_,_,h,fun K' hk=>hk⟩
  ·exact h.elim
 | mkm kt et =>
  clear gen dk
  simp only [ay] at h ⊢
  split at h
  ·exact ⟨_,_,h,fun K' hk=>hk⟩
  ·exact h.elim
 | slM len sz x =>
  clear gen dk
  simp only [ay] at h ⊢
  split at h
  ·split at h
   ·obtain ⟨h1,h2,h3,h⟩:=h
    split at h
    ·obtain ⟨h4,h5,h6,h7,h⟩:=h
     exact ⟨_,_,h,fun K' hk=>⟨h1,h2,h3,h4,h5,h6,h7,hk⟩⟩
    ·exact h.elim
   ·exact h.elim
  ·exact h.elim
 | mpu sh kt et z m x v =>
  clear gen dk
  simp only [ay] at h ⊢
  obtain ⟨h0,h⟩:=h
  split at h
  ·split at h
   ·obtain ⟨h1,h2,h3,h4,h5,h⟩:=h
    exact ⟨_,_,h,fun K' hk=>⟨h0,h1,h2,h3,h4,h5,hk⟩⟩
   ·exact h.elim
  ·exact h.elim
 | callS g x xs =>
  clear gen dk
  simp only [ay] at h ⊢
  split at h
  ·obtain ⟨h2,h⟩:=h
   split at h
   ·obtain ⟨h3,h4,h9,h⟩:=h
    split at h
    ·obtain ⟨es',h5,h6,h8,h7,h⟩:=h
     exact ⟨_,_,h,fun K' hk=>⟨h2,h3,h4,h9,es',h5,h6,h8,h7,hk⟩⟩
    ·rcases h with ⟨es',h5,h6,h8,h7,h⟩ | ⟨hb,hz,es',h6,h8,h7,h⟩
     ·exact ⟨_,_,h,fun K' hk=>⟨h2,h3,h4,h9,.inl ⟨es',h5,h6,h8,h7,hk⟩⟩⟩
     ·exact ⟨_,_,h,fun K' hk=>⟨h2,h3,h4,h9,.inr ⟨hb,hz,es',h6,h8,h7,hk⟩⟩⟩
   ·exact h.elim
  ·exact h.elim
 | callN g x xs =>
  clear gen dk
  simp only [ay] at h ⊢
  split at h
  ·obtain ⟨h2,h⟩:=h
   split at h
   ·obtain ⟨row0,h3,sz,es,h4,h5,h6,es',h7,h8,h9,h⟩:=h
    exact ⟨_,_,h,fun K' hk=>⟨h2,row0,h3,sz,es,h4,h5,h6,es',h7,h8,h9,hk⟩⟩
   ·exact h.elim
  ·exact h.elim
 | callE g x xs =>
  clear gen dk
  simp only [ay] at h ⊢
  split at h
  ·split at h
   ·split at h
    ·obtain ⟨h1,h2,h3,h4,h5,es',h6,h7,h⟩:=h
     exact ⟨_,_,h,fun K' hk=>⟨h1,h2,h3,h4,h5,es',h6,h7,hk⟩⟩
    ·exact h.elim
   ·exact h.elim
  ·exact h.elim
 | callA g xs =>
  clear gen dk
  simp only [ay] at h ⊢
  obtain ⟨h0,h⟩:=h
  rcases h with ⟨d,h1,h⟩ | h
  ·unfold dc at h ⊢
   split at h
   ·exact ⟨_,_,h,fun K' hk=>⟨h0,.inl ⟨d,h1,hk⟩⟩⟩
   ·exact ⟨_,_,h,fun K' hk=>⟨h0,.inl ⟨d,h1,hk⟩⟩⟩
  ·split at h
   ·obtain ⟨R,h1,h2,h⟩:=h
    exact ⟨_,_,h,fun K' hk=>⟨h0,.inr ⟨R,h1,h2,hk⟩⟩⟩
   ·exact h.elim
 | callL g x xs =>
  clear gen dk
  simp only [ay] at h ⊢
  split at h
  ·obtain ⟨h1,h2,h⟩:=h
   split at h
   ·obtain ⟨h3,h4,d,es',h5,h6,h⟩:=h
    exact ⟨_,_,h,fun K' hk=>⟨h1,h2,h3,h4,d,es',h5,h6,hk⟩⟩
   ·exact h.elim
  ·exact h.elim
 | clr zs x =>
  clear gen dk
  simp only [ay] at h ⊢
  split at h
  ·exact ⟨_,_,h,fun K' hk=>hk⟩
  ·split at h
   ·obtain ⟨h1,h2,h3,h4,h⟩:=h
    exact ⟨_,_,h,fun K' hk=>⟨h1,h2,h3,h4,hk⟩⟩
   ·exact h.elim
  ·split at h
   ·obtain ⟨row0,h1,sz,es,h2,h3,h4,h5,h⟩:=h
    exact ⟨_,_,h,fun K' hk=>⟨row0,h1,sz,es,h2,h3,h4,h5,hk⟩⟩
   ·exact h.elim
  ·exact h.elim
 | callF g xs =>
  clear gen dk
  simp only [ay] at h ⊢
  obtain ⟨h0,h⟩:=h
  split at h
  ·obtain ⟨sz,es,h1,h2⟩:=h
   exact ⟨_,_,h2,fun K' hk=>⟨h0,sz,es,h1,hk⟩⟩
  ·exact h.elim
 | bls sz len zs ns parts =>
  clear gen dk
  simp only [ay] at h ⊢
  split at h
  ·obtain ⟨es,bs,⟨h1,h2,h3⟩,h4⟩:=lS h
   exact ⟨_,_,h3,fun K' hk=>h4 _ ⟨h1,h2,hk⟩⟩
  ·exact h.elim
 | mks sz by_ zs n c =>
  clear gen dk
  simp only [ay] at h ⊢
  split at h
  ·split at h
   ·exact ⟨_,_,h.2.2.2,fun K' hk=>⟨h.1,h.2.1,h.2.2.1,hk⟩⟩
   ·exact h.elim
  ·exact h.elim
 | st n ns a v =>
  simp only [ay] at h ⊢
  obtain ⟨h0,h⟩:=h
  obtain ⟨cs,bs,⟨h1,h2⟩,h3⟩:=gJ h
  split at h2
  ·obtain ⟨h4,h2⟩:=h2
   split at h2
   ·rename_i hf
    obtain ⟨r,h5,h6,h7⟩:=h2
    exact ⟨_,_,h7,fun K' hk=>⟨h0,h3 _ ⟨h1,h4,⟨r,h5,h6,hk⟩⟩⟩⟩
   ·exact h2.elim
  ·obtain ⟨h4,h4',h2⟩:=h2
   split at h2
   ·rename_i hf
    obtain ⟨row0,h5,sz,es,h6,r,h7,h8,h9⟩:=h2
    exact ⟨_,_,h9,fun K' hk=>⟨h0,h3 _ ⟨h1,h4,h4',⟨row0,h5,sz,es,h6,r,h7,h8,hk⟩⟩⟩⟩
   ·exact h2.elim
  ·exact h2.elim
 | app sz by_ mv x y =>
  clear gen dk
  simp only [ay] at h ⊢
  split at h
  ·obtain ⟨rows,bs,⟨h1,h2⟩,h3⟩:=dK h
   split at h2
   ·exact ⟨_,_,h2.2,fun K' hk=>h3 _ ⟨h1,h2.1,hk⟩⟩
   ·obtain ⟨h4,h5,h2⟩:=h2
    split at h2
    ·rename_i hf
     obtain ⟨h6,h7,h8,h9⟩:=h2
     exact ⟨_,_,h9,fun K' hk=>h3 _ ⟨h1,h4,h5,⟨h6,h7,h8,hk⟩⟩⟩
    ·exact h2.elim
   ·obtain ⟨h4,h5,h2⟩:=h2
    split at h2
    ·rename_i hf
     obtain ⟨row0,h6,es,h7,h8,h9,h10⟩:=h2
     exact ⟨_,_,h10,fun K' hk=>h3 _ ⟨h1,h4,h5,⟨row0,h6,es,h7,h8,h9,hk⟩⟩⟩
    ·exact h2.elim
   ·exact h2.elim
  ·exact h.elim
 | callG g xs =>
  simp only [ay] at h ⊢
  obtain ⟨h0,d,h1,h3⟩:=h
  obtain ⟨ws,ks,h4,h5⟩:=dk h3
  exact ⟨ws,ks,h4,fun K' hk=>⟨h0,d,h1,h5 K' hk⟩⟩
 | call g xs ms =>
  simp only [ay] at h ⊢
  obtain ⟨h0,d,h1,h2,h3⟩:=h
  obtain ⟨ws,ks,h4,h5⟩:=dk h3
  exact ⟨ws,ks,h4,fun K' hk=>⟨h0,d,h1,h2,h5 K' hk⟩⟩
 | callv x xs =>
  simp only [ay] at h ⊢
  split at h
  ·obtain ⟨h0,d,h1,h2,h3⟩:=h
   obtain ⟨ws,ks,h4,h5⟩:=dk h3
   exact ⟨ws,ks,h4,fun K' hk=>⟨h0,d,h1,h2,h5 K' hk⟩⟩
  ·obtain ⟨h0,h0',d,h1,h2,h3⟩:=h
   obtain ⟨ws,ks,h4,h5⟩:=dk h3
   exact ⟨ws,ks,h4,fun K' hk=>⟨h0,h0',d,h1,h2,h5 K' hk⟩⟩
  ·exact h.elim
 | _=>(simp only [ay] at h ⊢;exact gen _ h)
end
end Go.Gv

namespace Go.Gv
open Go.RowKit
section
variable {P : Program} {F : Fid} {C : Nat -> List D -> D -> List D -> Prop} {nt : Nat} {S : Nat -> Prop} {L : Nat -> Option Loc} {w0 : World} {M0 : Mem} {f : Nat -> D} {M : Mem} {a : Act} {w w' : World} {o : Oper} {d : D} {Q : Exit -> Act -> World -> Prop} {ρ : Pa -> Loc} {ω : Nat -> Option Pa} {New : Nat -> Prop} {K : List (Nat × D) -> List (Nat × Bool) -> Prop}
theorem jk {t b : Nat} {d x : D} {q : Nat × D} (hq : isB q.2=true \/ q.2=.any) : eff [(t,d),(b,x)] [(b,true)] (eff [q] [] f)=eff [(t,d),(b,x),q] [(b,true)] f:=by
 funext s
 obtain ⟨c,y⟩:=q
 unfold eff
 by_cases e1 : s=t
 ·subst e1;simp
 ·have h1 : (s == t)=false:=by simpa using e1
  by_cases e2 : s=b
  ·subst e2;simp [List.lookup_cons,h1]
  ·have h2 : (s == b)=false:=by simpa using e2
   by_cases e3 : s=c
   ·subst e3
    simp only [List.lookup_cons,h1,h2,List.lookup_nil,beq_self_eq_true]
    rcases hq with hq | hq
    ·rw [m5 hq];rfl
    ·simp only at hq
     subst hq
     simp [aD,dw,aJ]
   ·have h3 : (s == c)=false:=by simpa using e3
    simp only [List.lookup_cons,h1,h2,h3,List.lookup_nil,jX,Bool.false_eq_true,if_false]
theorem mP (p : Pa) : (cV f p).1=p.root:=by
 cases p with
 | r c=>rfl
 | n c i o =>
  simp only [cV,Pa.root]
  split <;> rfl
theorem sb (p : Pa) : isB (cV f p).2=true \/ (cV f p).2=.any:=by
 cases p with
 | r c=>exact .inr rfl
 | n c i o =>
  simp only [cV]
  split
  ·exact .inl rfl
  ·exact .inr rfl
theorem uy {b i off sz : Nat} {es : List (List D)} (hg : aT f (.n b i off)=some (sz,es)) : ∃ sz0 es0 row0,f b=.blk sz0 es0 /\ es0[i]? = some row0 /\ row0[off]? = some (.own sz es):=by
 simp only [aT] at hg
 split at hg
 ·rename_i sz' es' e
  split at hg
  ·rename_i sz2 r hr
   simp only [Option.some.injEq,Prod.mk.injEq] at hg
   obtain ⟨rfl,rfl⟩:=hg
   cases hi : es'[i]? with
   | none=>rw [hi] at hr;simp at hr
   | some row =>
    rw [hi] at hr
    exact ⟨sz',es',row,e,hi,by simpa using hr⟩
  ·cases hg
 ·cases hg
theorem SR.leave (h : SR F nt S L w0 M0 f M a w) (ho : Own F L (fun k=>S k \/ w0.heap.size <= k) f M a w ρ ω) {p : Pa} {sz : Nat} {es : List (List D)} (hg : aT f p=some (sz,es)) (hch : Ch S w0 w') (hsz : w.heap.size <= w'.heap.size) (hholds : ∀ p v,M p=some v -> w'.cell? p=some v)
  (hk : ∀ k q,ω k=some q -> q ≠ p -> w'.heap[k]? = w.heap[k]?) : SR F nt S L w0 M0 (eff [cV f p] [] f) M a w' where
 hnt:=h.hnt
 size:=h.size
 defers:=h.defers
 ch:=hch
 holds:=hholds
 ext:=h.ext
 fresh:=h.fresh
 own:=by
  have hp:=bY ho hg
  obtain ⟨sz0,es0,hf⟩:=(ho.get hp hg).2
  have hlk : ∀ s,s ≠ p.root -> [cV f p].lookup s=none:=fun s hs=>by
   have:=d6 (b:=(cV f p).1) (d:=(cV f p).2) (s:=s) (by rw [mP];exact hs)
   exact this
  refine ⟨ρ,ω,ho.step (ks:=[]) (fun p hp=>absurd rfl hp) (Mem.le_refl _) hsz (fun t ht=>.inl ?_) (fun c hc=>?_) (fun k q e=>.inl ⟨q,e⟩) ho.apart (fun c l hc hl hB=>⟨rfl,?_⟩)⟩
  ·rcases bx (f:=f) (ks:=[]) (hlk t (by omega)) with h2 | h2
   ·exact .inl h2
   ·exact .inr ⟨h2.1,rfl,h2.2⟩
  ·by_cases e : c=p.root
   ·cases p with
    | r b =>
     left;left
     have e : c=b:=e
     subst e
     rw [aK (d:=.any) (by simp [cV])];rfl
    | n b i off =>
     have e : c=b:=e
     subst e
     right
     obtain ⟨sz1,es1,row0,hf1,hi0,ho0⟩:=uy hg
     have hf1' : f c=.blk sz0 es0:=hf
     rw [hf1'] at hf1
     cases hf1
     have hdd : cV f (.n c i off)=(c,.blk sz0 (bj es0 i off 1 [.any])):=by simp only [cV,hf1']
     have hlt : off < row0.length:=(List.getElem?_eq_some_iff.1 ho0).1
     refine .inl ⟨sz0,bj es0 i off 1 [.any],aK (by rw [hdd];simp),?_⟩
     rcases ho.roots c sz0 es0 hc hf1' with ⟨e0,_⟩ | ⟨hω,h0,vs,T,h1,h2,h3,h4,h5⟩
     ·rw [e0] at hi0;simp at hi0
     ·refine .inr ⟨hω,h0,vs,T,(hk _ _ hω (by simp)).trans h1,h2,by rw [eu];exact h3,fb h4 hi0 (by omega) rfl,fun i' r off' d hi hr=>?_⟩
      rcases iG hi0 (show off + 1 <= row0.length by omega) rfl hi hr with ⟨rfl,g1,g2,g3⟩ | ⟨g1,r0,g2,g3⟩
      ·have : off'=off:=by omega
       subst this
       simp at g3
       subst g3
       obtain ⟨v,k1,k2⟩:=h5 i' row0 off' _ hi0 ho0
       exact ⟨v,k1,by simp [bR,af]⟩
      ·obtain ⟨v,k1,k2⟩:=h5 i' r0 off' d g2 g3
       exact ⟨v,k1,bR.frame k2 (Mem.le_refl _) ⟨rfl,fun e=>⟨e,hk _ _ e (by
        intro h;cases h
        exact g1 ⟨rfl,by omega,by omega⟩)⟩⟩⟩
   ·left
    rcases bJ (f:=f) (ks:=[]) (hlk c e) with h1 | h1
    ·exact .inl h1
    ·exact .inr ⟨h1,fun q hq=>⟨rfl,fun e'=>⟨e',hk _ _ e' (by rintro rfl;exact e hq.symm)⟩⟩⟩
  ·by_cases e : c=p.root
   ·rw [e,hf];rfl
   ·rcases bJ (f:=f) (ks:=[]) (hlk c e) with h1 | h1
    ·rw [hB] at h1;cases h1
    ·rw [<- h1];exact hB
theorem SR.newRow0 (h : SR F nt S L w0 M0 f M a w) {sz : Nat} {es' : List (List D)} {v : Value} (hu : ∀ e ∈ es',e.length=sz /\ ∀ c ∈ e,bi c=true) (hb : Bel w w') (hn : dX F M w w' sz es' v) {t b' : Nat} (ht : t < nt) (hb0 : 10000 <= b') (hL : L b'=none) :
  SR F nt S L w0 M0 (eff [(t,.ref (.r b') 0 es'.length),(b',.blk sz es')] [(b',true)] f) M (a.put (some t) v) w':=by
 obtain ⟨B,o,T,us,cap,rfl,hB,hh,hcap,⟨hlen,hmc⟩,hrep⟩:=hn
 have hle : o + es'.length * sz <= us.length:=by
  have:=Nat.mul_le_mul_right sz hcap
  omega
 exact h.makeAt (t:=t) (b:=b') (B:=B) (o:=o) (bs:=[]) (es:=es') (sz:=sz) (src:=fun _ _=>none) (vs:=us) (T:=T) (d:=.ref (.r b') 0 es'.length) (v:=.slice (some ⟨B,o,none⟩) es'.length cap) ht hb0 hL hb hB hh hle (fun e he=>(hu e he).1)
  (fun i r off c hi hr=>by
   obtain ⟨u,k1,k2⟩:=hrep i r off c hi hr
   exact ⟨u,k1,.inl ⟨dQ ((hu r (List.mem_of_getElem? hi)).2 c (List.mem_of_getElem? hr)),k2⟩⟩) (fun _ _ _ _ _ e=>(by cases e)) (fun _ _ _ e=>(by cases e))
  (fun ρ M e=>by
   rw [am rfl]
   simp only [ar,e]
   exact .inr ⟨cap,by simp,hcap,by simpa using hlen,hmc⟩)
theorem rD {b : Option Nat} {v : Value} (h : isO d=false) : Fq F M w b d v ↔ af F M d v:=by
 cases d <;> first | exact Iff.rfl | (simp [isO] at h)
theorem rk (h : isV d=true) : isO d=false:=by
 cases d <;> first | rfl | (simp [isV] at h)
theorem gU (hO : Own F L New f M a w ρ ω) {p : Pa} {k n sz : Nat} {es : List (List D)} {v : Value} (hg : aT f p=some (sz,es)) (hkn : k + n <= es.length) (hv : ar F M ρ (.ref p k n) v) (hfl : ∀ e ∈ (es.drop k).take n,∀ c ∈ e,isO c=false) :
  (∃ A,v=.slice A 0 0 /\ n=0) \/ ∃ (cap : Nat) (us : List Value) (T : TypeId),v=.slice (some ⟨(ρ p).blk,(ρ p).base + k * sz,none⟩) n cap /\ (n <= cap /\ cap <= 9223372036854775807) /\ (ρ p).base + k * sz + cap * sz <= (ρ p).len /\ ω (ρ p).blk=some p /\ (ρ p).sz=sz /\
   w.heap[(ρ p).blk]? = some (.cells us.toArray T (0,0)) /\ us.length=(ρ p).len /\ (∀ e ∈ es,e.length=sz) /\
   (∀ i r off d,((es.drop k).take n)[i]? = some r -> r[off]? = some d -> ∃ u,us[(ρ p).base + k * sz + i * sz + off]? = some u /\ af F M d u):=by
 have hp:=bY hO hg
 obtain ⟨hpath,_⟩:=hO.get hp hg
 simp only [ar] at hv
 rcases hv with ⟨h0,A,hv⟩ | ⟨cap,hv,hcap,hcl,hmc⟩
 ·exact .inl ⟨A,hv,h0⟩
 ·rcases hpath with ⟨e0,e1,e2,e3⟩ | ⟨hω,g0,us,T,g1,g2,g3,g4,g5⟩
  ·have hn0 : n=0:=by rw [e0] at hkn;simp at hkn;omega
   have hc0 : cap=0:=by
    rw [e1,e2] at hcl
    rcases Nat.eq_zero_or_pos cap with h | h
    ·exact h
    ·have:=Nat.mul_pos (show 0 < k + cap by omega) e3;omega
   subst hc0
   exact .inl ⟨_,by rw [hv,hn0],hn0⟩
  ·have e1 : (k + cap) * sz=k * sz + cap * sz:=Nat.add_mul _ _ _
   rw [g0,e1] at hcl
   refine .inr ⟨cap,us,T,by rw [hv,g0],⟨hcap,hmc⟩,by omega,hω,g0,g1,g2,g4,fun i r off d h1 h2=>?_⟩
   have hin : i < n:=by have:=(List.getElem?_eq_some_iff.1 h1).1;simp at this;omega
   have hO':=hfl r (List.mem_of_getElem? h1) d (List.mem_of_getElem? h2)
   rw [List.getElem?_take_of_lt hin,List.getElem?_drop] at h1
   obtain ⟨u,k1,k2⟩:=g5 (k + i) r off d h1 h2
   refine ⟨u,?_,?_⟩
   ·rw [<- k1,Nat.add_mul];congr 1;omega
   ·cases p with
    | r b =>
     have k2' : bR F M ω ρ w b (k + i) off d u:=k2
     rwa [aV hO'] at k2'
    | n b i' o'=>exact k2
theorem SR.fillN (h : SR F nt S L w0 M0 f M a w) (ho : Own F L (fun k=>S k \/ w0.heap.size <= k) f M a w ρ ω) {b sz0 i0 o0 sz : Nat} {es0 es es' : List (List D)} {row0 : List D} (hf : f b=.blk sz0 es0) (hi0 : es0[i0]? = some row0) (ho0 : row0[o0]? = some (.own sz es)) (hlen : es'.length=es.length)
  (hch : Ch S w0 w') (hsz : w.heap.size <= w'.heap.size) (hholds : ∀ p v,M p=some v -> w'.cell? p=some v) (hnew : b5 ω ρ w' (.n b i0 o0) sz es' (fun _ _ d v=>af F M d v)) (hk : ∀ k q,ω k=some q -> q ≠ .n b i0 o0 -> w'.heap[k]? = w.heap[k]?) :
  SR F nt S L w0 M0 (eff [(b,.blk sz0 (bj es0 i0 o0 1 [.own sz es']))] [] f) M a w' where
 hnt:=h.hnt
 size:=h.size
 defers:=h.defers
 ch:=hch
 holds:=hholds
 ext:=h.ext
 fresh:=h.fresh
 own:=⟨ρ,ω,ho.setN hf hi0 ho0 hlen hsz (Mem.le_refl _) ho.apart hnew hk⟩
theorem oE {dst : Option Nat} {b : Nat} {x : D} : (match dst with | some t=>eff [(t,D.tup [])] [] (eff [(b,x)] [] f) | none=>eff [(b,x)] [] f)=eff (df dst++[(b,x)]) [] f:=by
 cases dst with
 | none=>rfl
 | some t =>
  funext s
  unfold eff
  by_cases q : s=t
  ·subst q
   simp [df,List.lookup_cons]
  ·have q1 : (s == t)=false:=by simpa using q
   simp only [df,List.cons_append,List.nil_append,List.lookup_cons,q1,List.lookup_nil,aD,List.any_nil,Bool.false_eq_true,if_false]
theorem sS {dst : Option Nat} (hC : bU P F C) (h : SR F nt S L w0 M0 f M a w) (hp : ∀ t,o.dst=some t -> t < nt) {g fi : Nat} {x : Opd} {xs : List Opd} {y : Operand} {ys : List Operand} {ts : Array TypeId} (ho : o.op=.call { callee:=.value (.func fi),args:=⟨y::ys⟩,argTypes:=ts }) (hx0 : aj F x y=true) (hx : bV F xs ys=true)
  (hg : F g=some fi) (hr : match vd f x with
  | .ref (.n b i o) k n=>k=0 /\ match f b with
   | .blk sz0 es0=>∃ row0,es0[i]? = some row0 /\ ∃ sz es,row0[o]? = some (.own sz es) /\ es.length=n /\ (∀ x ∈ xs,isV (vd f x)=true) /\ ∃ es' : List (List D),es'.length=es.length /\ (∀ e ∈ es',e.length=sz /\ ∀ c ∈ e,au c=true) /\
     C g (.own sz es::xs.map (vd f)) .any [.own sz es',.nilp] /\ K (df dst++[(b,.blk sz0 (bj es0 i o 1 [.own sz es']))]) []
   | _=>False
  | _=>False) (hdst : dst=o.dst:=by rfl) : o.wp P a w (PostX F nt S L w0 M0 f K) Q:=by
 split at hr
 ·rename_i b i0 o0 k n hvx
  obtain ⟨rfl,hr⟩:=hr
  split at hr
  ·rename_i sz0 es0 hf
   obtain ⟨row0,hi0,sz,es,ho0,rfl,hxs,es',hl,hu,hc,hK⟩:=hr
   have hrun : (execOp a.eval o).run P w=(callFunc fi (a.eval y::ys.map a.eval).toArray).run P w:=by
    simp only [execOp,ho,resolve,Act.eval,Deferred.ofValue,Sem.run_bind,Sem.run_pure,Result.andThen_ok,invoke]
    congr 2
    rw [Array.append_empty,Array.empty_append]
    apply Array.ext'
    simp
    cases y <;> simp [Act.eval]
   obtain ⟨ρ,ω,hO⟩:=h.own
   have hb:=hO.big hf
   have hv:=hO.opd hx0
   rw [hvx,am rfl] at hv
   have hgp : aT f (.n b i0 o0)=some (sz,es):=by simp [aT,hf,hi0,ho0]
   have hpath : b5 ω ρ w (.n b i0 o0) sz es (fun _ _ d v=>af F M d v):=(hO.get (p:=.n b i0 o0) hb hgp).1
   have hnoO : ∀ e ∈ (es.drop 0).take es.length,∀ c ∈ e,isO c=false:=by
    intro e he c hc'
    rw [List.drop_zero,List.take_length] at he
    rcases hpath with ⟨e0,_⟩ | ⟨_,_,vs,T,_,_,_,_,h5⟩
    ·rw [e0] at he;cases he
    ·obtain ⟨i,hi⟩:=List.mem_iff_getElem?.1 he
     obtain ⟨j,hj⟩:=List.mem_iff_getElem?.1 hc'
     obtain ⟨u,_,h6⟩:=h5 i e j c hi hj
     cases c <;> first | rfl | (simp [af] at h6)
   have hrep : ap F M (xs.map (vd f)) (ys.map a.eval):=by
    have h1:=fg h hx (by rw [List.all_eq_true];exact hxs)
    rwa [List.map_congr_left (g:=vd f) fun x hx'=>by unfold dpv;exact (ip (hxs x hx')).1] at h1
   have hS:=hC.runsS g fi sz es _ es' hg hc M w _ h.holds hrep
   have fin : ∀ w',SR F nt S L w0 M0 (eff [(b,.blk sz0 (bj es0 i0 o0 1 [.own sz es']))] [] f) M a w' -> PostX F nt S L w0 M0 f K (a.put o.dst (.tuple #[])) w':=fun w' hs=>by
    refine ⟨_,_,M,hK,?_⟩
    rw [<- oE,hdst]
    cases hd : o.dst with
    | none=>simpa [Act.put] using hs
    | some t=>exact hs.put (hp t hd) fun _ _ _=>by rw [am rfl];simp [ar,af,ap]
   unfold Oper.wp
   rw [hrun,bI (hC.body g fi hg),Oper.upon_enter]
   rcases gU hO hgp (by omega) hv hnoO with ⟨A,hv,hn0⟩ | ⟨cap,us,T,hv,⟨hcap,hmc⟩,hcl,hω,g0,g1,g2,g4,g5⟩
   ·have e : es=[]:=List.eq_nil_of_length_eq_zero hn0
    have e' : es'=[]:=List.eq_nil_of_length_eq_zero (by rw [hl,e];rfl)
    rw [hv]
    refine (hS.1 e A).mono ?_
    rintro e0 w' ⟨rfl,hw⟩
    have h2:=h.grow hw
    refine fin w' (h.fillN hO hf hi0 ho0 hl h2.ch hw.size h2.holds ?_ (fun k q hk _=>hw.block k (hO.lt _ _ hk)))
    rw [e']
    rw [e] at hpath
    exact hpath.frame (ω':=ω) rfl (fun e'=>⟨e',hw.block _ (hO.lt _ _ e')⟩) (fun _ _ _ _ _ _ _ x=>x)
   ·rw [hv]
    simp only [List.drop_zero,List.take_length,Nat.zero_mul,Nat.add_zero] at g5 hcl ⊢
    have hMb : ∀ p : Addr,p.block=(ρ (.n b i0 o0)).blk -> M p=none:=fun p hp=>hO.apart p (.n b i0 o0) (by rw [hp];exact hω)
    refine (hS.2 (ρ (.n b i0 o0)).blk (ρ (.n b i0 o0)).base T us cap hMb (hO.lt _ _ hω) g1 hcap (by rw [g2];exact hcl) g4 g5).mono ?_
    rintro e0 w' ⟨rfl,us',q1,q2,q3,q4⟩
    have hnew:=hO.new _ _ hω
    have hh : ∀ p v,M p=some v -> w'.cell? p=some v:=fun p v hp=>by
     have hne : p.block ≠ (ρ (.n b i0 o0)).blk:=fun e=>by rw [hMb p e] at hp;cases hp
     have h8:=h.holds p v hp
     rw [World.cell?_of_block (q4.block _ (World.block_lt_of_cell? w p h8) hne)]
     exact h8
    refine fin w' (h.fillN hO hf hi0 ho0 hl (h.ch.trans q4 (fun k hk e=>by rcases hnew with h7 | h7;rw [e];exact h7;omega)) q4.size hh (.inr ⟨hω,g0,us',T,q1,by rw [q2,g2],?_,fun e he=>(hu e he).1,fun i r off d h1 h2=>q3 i r off d h1 h2⟩) (fun k q hk hq=>q4.block k (hO.lt _ _ hk) (by rintro rfl;rw [hω] at hk;cases hk;exact hq rfl)))
    rw [hl]
    have:=Nat.mul_le_mul_right sz hcap
    omega
  ·exact hr.elim
 ·exact hr.elim
theorem sO (hC : bU P F C) (h : SR F nt S L w0 M0 f M a w) {t : Nat} (hd : o.dst=some t) (ht : t < nt) (hL : L (rt t 0)=none) {g fi : Nat} {x : Opd} {xs : List Opd} {y : Operand} {ys : List Operand} {ts : Array TypeId} (ho : o.op=.call { callee:=.value (.func fi),args:=⟨y::ys⟩,argTypes:=ts }) (hx0 : aj F x y=true) (hx : bV F xs ys=true)
  (hg : F g=some fi) (hr : match vd f x with
   | .ref p k n=>match aT f p with
    | some (sz,es)=>k + n <= es.length /\ p.root ≠ rt t 0 /\ 0 < sz /\ (∀ e ∈ (es.drop k).take n,∀ c ∈ e,bi c=true) /\ (∀ x ∈ xs,kP f p.root x) /\ ∃ es' : List (List D),(∀ e ∈ es',e.length=sz /\ ∀ c ∈ e,bi c=true) /\
      C g (.own sz ((es.drop k).take n)::xs.map (jL f)) .any [.own sz es',.nils,.nils] /\ K [(t,.ref (.r (rt t 0)) 0 es'.length),(rt t 0,.blk sz es'),cV f p] [(rt t 0,true)]
    | none=>False
   | _=>False) : o.wp P a w (PostX F nt S L w0 M0 f K) Q:=by
 split at hr
 ·rename_i p k n hvx
  split at hr
  ·rename_i sz es hgp
   obtain ⟨hkn,hpt,hsz,hfl,harg,es',hu,hc,hK⟩:=hr
   have hrun : (execOp a.eval o).run P w=(callFunc fi (a.eval y::ys.map a.eval).toArray).run P w:=by
    simp only [execOp,ho,resolve,Act.eval,Deferred.ofValue,Sem.run_bind,Sem.run_pure,Result.andThen_ok,invoke]
    congr 2
    rw [Array.append_empty,Array.empty_append]
    apply Array.ext'
    simp
    cases y <;> simp [Act.eval]
   obtain ⟨ρ,ω,hO⟩:=h.own
   have hp:=bY hO hgp
   have hv:=hO.opd hx0
   rw [hvx,am rfl] at hv
   have hargs : ∀ b : Option Nat,(∀ B,b=some B -> ω B=some p) -> mD F M w b (xs.map (jL f)) (ys.map a.eval):=by
    intro bo hbo
    have hx':=hx
    simp only [bV,Bool.and_eq_true,beq_iff_eq,List.all_eq_true] at hx'
    refine ⟨by simpa using hx'.1,fun i d v h1 h2=>?_⟩
    rw [List.getElem?_map,Option.map_eq_some_iff] at h1 h2
    obtain ⟨x1,h1,rfl⟩:=h1
    obtain ⟨y1,h2,rfl⟩:=h2
    have hok : aj F x1 y1=true:=hx'.2 (x1,y1) (List.mem_iff_getElem?.2 ⟨i,by rw [List.getElem?_zip_eq_some];exact ⟨h1,h2⟩⟩)
    have hE:=harg x1 (List.mem_of_getElem? h1)
    have hV:=hO.opd hok
    have hP:=fun hh=>h.opd hok hh
    unfold kP at hE
    unfold jL
    revert hE hV hP
    generalize vd f x1=d1
    intro hE hV hP
    cases d1 <;> first | exact (rD (rk hE)).2 (hP hE) | skip
    rename_i q k1 n1
    cases q with
    | n c i o=>simp [isV] at hE
    | r c =>
     simp only at hE ⊢
     obtain ⟨rfl,hcb,hE⟩:=hE
     split at hE
     ·rename_i sz1 es1 hfc
      obtain ⟨rfl,hfl1⟩:=hE
      have hg1 : aT f (.r c)=some (sz1,es1):=by simp [aT,hfc]
      have hq:=gU hO hg1 (by omega) hV (fun e he c hc=>by
       rw [List.drop_zero,List.take_length] at he
       exact dQ (hfl1 e he c hc))
      show _ \/ _
      rcases hq with ⟨A,q1,q2⟩ | ⟨cap,us,T,q1,⟨q2,_⟩,q3,q4,q5,q6,q7,q8,q9⟩
      ·exact .inl ⟨List.eq_nil_of_length_eq_zero q2,A,q1⟩
      ·simp only [List.drop_zero,List.take_length,Nat.zero_mul,Nat.add_zero] at q1 q3 q9
       refine .inr ⟨_,_,T,us,cap,q1,fun e=>?_,q6,q2,by rw [q7];exact q3,q9⟩
       have:=hbo _ e
       rw [q4] at this
       cases this
       exact hcb rfl
     ·exact hE.elim
   have hI:=hC.runsI g fi sz _ _ es' hg hc M w (ys.map a.eval) h.holds
   unfold Oper.wp
   rw [hrun,bI (hC.body g fi hg),Oper.upon_enter]
   have hWn : ((es.drop k).take n).length=n:=by simp;omega
   have hfst:=mP (f:=f) p
   have hsnd:=sb (f:=f) p
   rw [hd]
   rcases gU hO hgp hkn hv (fun e he c hc=>dQ (hfl e he c hc)) with ⟨A,hv,hn0⟩ | ⟨cap,us,T,hv,⟨hcap,hmc⟩,hcl,hω,g0,g1,g2,g4,g5⟩
   ·have e : (es.drop k).take n=[]:=List.eq_nil_of_length_eq_zero (by omega)
    have h0:=h.leave hO hgp h.ch (Nat.le_refl _) h.holds (fun _ _ _ _=>rfl)
    rw [hv]
    refine (hI.1 e A (hargs none (fun B e=>by cases e))).mono ?_
    rintro e0 w' ⟨v,rfl,hw,⟨e',A',rfl⟩ | hn⟩
    ·refine ⟨_,_,M,hK,?_⟩
     subst e'
     rw [<- jk hsnd]
     exact (h0.grow hw).nilA ht hL hsz A'
    ·refine ⟨_,_,M,hK,?_⟩
     rw [<- jk hsnd]
     exact h0.newRow0 hu hw hn ht (rt_big t 0) hL
   ·rw [hv]
    have hMb : ∀ q : Addr,q.block=(ρ p).blk -> M q=none:=fun q hq=>hO.apart q p (by rw [hq];exact hω)
    have hnew:=hO.new _ _ hω
    have hblt:=hO.lt _ _ hω
    have hrun2:=hI.2 (ρ p).blk ((ρ p).base + k * sz) T us cap (hargs (some (ρ p).blk) (fun B e=>by cases e;exact hω)) hMb hblt g1 (by rw [hWn];exact hcap) hmc (by rw [g2];exact hcl) (fun e he=>g4 e (List.mem_of_mem_drop (List.mem_of_mem_take he))) g5
    rw [hWn] at hrun2
    refine hrun2.mono ?_
    have away : ∀ w' : World,Ch (fun k=>k=(ρ p).blk) w w' -> ∃ w2 : World,Bel w2 w' /\ w2.heap.size=w.heap.size /\ SR F nt S L w0 M0 (eff [cV f p] [] f) M a w2:=by
     intro w' q4
     obtain ⟨B0,hB0⟩ : ∃ B0,B0=(ρ p).blk:=⟨_,rfl⟩
     rw [<- hB0] at q4 hblt
     obtain ⟨ob,q1⟩ : ∃ ob,w'.heap[B0]? = some ob:=⟨_,Array.getElem?_eq_getElem (Nat.lt_of_lt_of_le hblt q4.size)⟩
     obtain ⟨w2,hw2⟩ : ∃ w2 : World,w2={ w with heap:=w.heap.setIfInBounds B0 ob }:=⟨_,rfl⟩
     have y1 : ∀ k,k ≠ B0 -> w2.heap[k]? = w.heap[k]?:=fun k hk=>by
      rw [hw2];simp only [Array.getElem?_setIfInBounds];rw [if_neg (Ne.symm hk)]
     have y2 : w2.heap[B0]? = some ob:=by
      rw [hw2];simp only [Array.getElem?_setIfInBounds];simp [hblt]
     have y3 : w2.heap.size=w.heap.size:=by rw [hw2];simp
     have c2 : Ch (fun k=>k=B0) w w2:=⟨by rw [hw2],by rw [hw2],by rw [hw2],Nat.le_of_eq y3.symm,fun k _ hk=>y1 k hk,by rw [hw2];exact Nat.le_refl _⟩
     have hb2 : Bel w2 w':=⟨by rw [q4.os,hw2],by rw [q4.tape,hw2],by rw [q4.output,hw2],by rw [y3];exact q4.size,fun k hk=>by
      by_cases e : k=B0
      ·subst e;rw [y2,q1]
      ·rw [y1 k e];exact q4.block k (by rw [<- y3];exact hk) e,by have:=q4.drawn;rw [hw2];exact this⟩
     have hch2 : Ch S w0 w2:=h.ch.trans c2 (fun k hk e=>by rw [e,hB0];rw [e,hB0] at hk;rcases hnew with h7 | h7;exact h7;omega)
     have hh2 : ∀ p v,M p=some v -> w2.cell? p=some v:=fun q v hq=>by
      have hne : q.block ≠ B0:=fun e=>by rw [hMb q (by rw [e,hB0])] at hq;cases hq
      rw [World.cell?_of_block (y1 _ hne)]
      exact h.holds q v hq
     exact ⟨w2,hb2,y3,h.leave (w':=w2) hO hgp hch2 (Nat.le_of_eq y3.symm) hh2 (fun k' q hk' hq=>y1 k' (by rintro rfl;rw [hB0,hω] at hk';cases hk';exact hq rfl))⟩
    rintro e0 w' ⟨v,rfl,q4,⟨e',A',rfl⟩ | ⟨o2,cap2,T2,us',rfl,q1,hl,hmc2,hcl2,q3⟩ | hn⟩
    ·obtain ⟨w2,hb2,_,h0⟩:=away w' q4
     refine ⟨_,_,M,hK,?_⟩
     subst e'
     rw [<- jk hsnd]
     exact (h0.grow hb2).nilA ht hL hsz A'
    ·have hchS : Ch S w0 w':=h.ch.trans q4 (fun k hk e=>by rcases hnew with h7 | h7;rw [e];exact h7;omega)
     have hh : ∀ p v,M p=some v -> w'.cell? p=some v:=fun q v hq=>by
      have hne : q.block ≠ (ρ p).blk:=fun e=>by rw [hMb q e] at hq;cases hq
      have h8:=h.holds q v hq
      rw [World.cell?_of_block (q4.block _ (World.block_lt_of_cell? w q h8) hne)]
      exact h8
     have ht10 : t < 10000:=Nat.lt_of_lt_of_le ht h.hnt
     have hrb : 10000 <= rt t 0:=rt_big t 0
     have hpr : p.root ≠ t:=by omega
     have hrt : rt t 0 ≠ t:=by omega
     obtain ⟨dq,hdq⟩ : ∃ dq,dq=cV f p:=⟨_,rfl⟩
     rw [<- hdq] at hfst hsnd
     have lk : ∀ s,s ≠ t -> s ≠ rt t 0 -> s ≠ p.root -> [(t,D.ref (.r (rt t 0)) 0 es'.length),(rt t 0,.blk sz es'),dq].lookup s=none:=fun s s1 s2 s3=>by
      have e1 : (s == t)=false:=by simpa using s1
      have e2 : (s == rt t 0)=false:=by simpa using s2
      obtain ⟨c,y⟩:=dq
      simp only at hfst
      have e3 : (s == c)=false:=by rw [hfst];simpa using s3
      simp only [List.lookup_cons,e1,e2,e3,List.lookup_nil]
     have lkp : [(t,D.ref (.r (rt t 0)) 0 es'.length),(rt t 0,.blk sz es'),dq].lookup p.root=some dq.2:=by
      have e1 : (p.root == t)=false:=by simpa using hpr
      have e2 : (p.root == rt t 0)=false:=by simpa using hpt
      obtain ⟨c,y⟩:=dq
      simp only at hfst
      subst hfst
      simp only [List.lookup_cons,e1,e2,beq_self_eq_true]
     have key:=h.app_core hO (f':=eff [(t,.ref (.r (rt t 0)) 0 es'.length),(rt t 0,.blk sz es'),dq] [(rt t 0,true)] f) (w':=w') (t:=t) (b:=rt t 0) (sz:=sz) (n:=es'.length) (m:=0) (rows:=es') (rowsY:=[]) (src:=some (p,k)) (inp:=true) (c2:=none)
      (l:=⟨(ρ p).blk,o2,sz,us'.length⟩) (nb:=none) (v:=.slice (some ⟨(ρ p).blk,o2,none⟩) es'.length cap2) ht hL rfl rfl (by simpa [aN] using hpt) (by simp) (fun c e=>by cases e)
      (aK (by simp)) (by
       rw [List.append_nil]
       refine aK ?_
       have e1 : (rt t 0 == t)=false:=by simpa using hrt
       simp [List.lookup_cons,e1])
      (fun s hs hst=>bx (lk s hst (by omega) (by omega)))
      (fun c hc hcb hcs _=>bJ (lk c (by omega) hcb (by simpa [aN] using fun e : c=p.root=>hcs (by simp [aN,e]))))
      (fun c e=>by cases e)
      (fun c k' e=>by
       cases e
       have:=aK (f:=f) (ks:=[(rt t 0,true)]) lkp
       rw [hdq] at this ⊢
       exact this ▸ rfl)
      (fun c i o k' e=>by
       cases e
       obtain ⟨sz0,es0,row0,z1,z2,z3⟩:=uy hgp
       refine ⟨sz0,es0,z1,?_,row0,z2,(List.getElem?_eq_some_iff.1 z3).1⟩
       have:=aK (f:=f) (ks:=[(rt t 0,true)]) lkp
       rw [hdq] at this
       simp only [cV,z1] at this
       rw [hdq]
       simp only [cV,z1]
       exact this)
      (fun k e=>by cases e) q4.size hchS hh
      (fun k' q hk' hq=>q4.block k' (hO.lt _ _ hk') (by rintro rfl;rw [hω] at hk';cases hk';exact hq rfl rfl))
      (by simp only [ar,if_true];exact .inr ⟨cap2,by simp,by simpa using hl,by simpa using hcl2,hmc2⟩)
      (.inr ⟨.inr ⟨rfl,p,k,rfl,hω,rfl⟩,rfl,us',T2,q1,rfl,(by
       have:=Nat.mul_le_mul_right sz hl
       simp only [Nat.add_zero]
       omega),fun e he=>(hu e (by simpa using he)).1,fun i r off d h1 h2=>by
        obtain ⟨u,k1,k2⟩:=q3 i r off d h1 h2
        refine ⟨u,k1,?_⟩
        have hO':=dQ ((hu r (List.mem_of_getElem? h1)).2 d (List.mem_of_getElem? h2))
        cases p with
        | r c=>show bR F M ω ρ w c _ off d u;rw [aV hO'];exact k2
        | n c i' o'=>exact ⟨hO',k2⟩,fun i r off d h1 _=>by simp at h1⟩)
     refine ⟨_,_,M,hK,?_⟩
     rw [hdq] at key
     exact key
    ·obtain ⟨w2,hb2,y3,h0⟩:=away w' q4
     have hn2 : dX F M w2 w' sz es' v:=by
      obtain ⟨B,o,T,us,cap,z1,z2,z3⟩:=hn
      exact ⟨B,o,T,us,cap,z1,by rw [y3];exact z2,z3⟩
     refine ⟨_,_,M,hK,?_⟩
     rw [<- jk hsnd]
     exact h0.newRow0 hu hb2 hn2 ht (rt_big t 0) hL
  ·exact hr.elim
 ·exact hr.elim
end
end Go.Gv

namespace Go.Gv
section
variable {P : Program} {F : Fid} {C : Nat -> List D -> D -> List D -> Prop} {nt : Nat} {S : Nat -> Prop} {L : Nat -> Option Loc} {w0 : World} {M0 : Mem} {f : Nat -> D} {M : Mem} {a : Act} {w : World} {o : Oper} {d : D} {Q : Exit -> Act -> World -> Prop} {ρ : Pa -> Loc} {ω : Nat -> Option Pa} {New : Nat -> Prop} {K : List (Nat × D) -> List (Nat × Bool) -> Prop}
def cZ (ω : Nat -> Option Pa) (c : Nat) : Nat -> Option Pa:=fun k=>match ω k with
 | some p=>if p.root=c then some p else none
 | none=>none
theorem cJ {c k : Nat} {p : Pa} (h : cZ ω c k=some p) : ω k=some p /\ p.root=c:=by
 unfold cZ at h
 split at h
 ·rename_i q hq
  split at h
  ·cases h
   exact ⟨hq,by assumption⟩
  ·cases h
 ·cases h
theorem lQ {c k : Nat} {p : Pa} (h : ω k=some p) (hp : p.root=c) : cZ ω c k=some p:=by
 simp only [cZ,h,if_pos hp]
def fcE (f : Nat -> D) (c : Nat) : Nat -> D:=fun t=>if t=c then f t else .any
theorem Own.only (h : Own F L New f M a w ρ ω) {c : Nat} (hc : 10000 <= c) : Own F L New (fcE f c) M a w ρ (cZ ω c):=by
 have hne : ∀ {t : Nat},t ≠ c -> fcE f c t=.any:=fun {t} ht=>by simp only [fcE,if_neg ht]
 have hcc : fcE f c c=f c:=by simp [fcE]
 refine h.step (ks:=[]) (fun p hp=>absurd rfl hp) (Mem.le_refl _) (Nat.le_refl _) (fun t ht=>.inl (.inl (hne (by omega)))) (fun b hb=>?_) (fun k p e=>.inl ⟨p,(cJ e).1⟩) (fun p q e=>h.apart p q (cJ e).1) (fun b l hb hl hB=>?_)
 ·by_cases e : b=c
  ·subst e
   exact .inl (.inr ⟨hcc,fun p hp=>⟨rfl,fun hw=>⟨lQ hw hp,rfl⟩⟩⟩)
  ·exact .inl (.inl (by rw [hne e];rfl))
 ·by_cases e : b=c
  ·subst e
   rw [hcc] at hB
   exact ⟨rfl,hB⟩
  ·rw [hne e] at hB;cases hB
theorem mT {c : Nat} (_ : Nat) : aT (fcE f c) (.r c)=aT f (.r c):=by simp [aT,fcE]
theorem SR.frz (h : SR F nt S L w0 M0 f M a w) {t : Nat} (ht : t < nt) {c k n : Nat} (hc : 10000 <= c) {v : Value} (hv : ∀ ρ ω,Own F L (fun k=>S k \/ w0.heap.size <= k) f M a w ρ ω -> ar F M ρ (.ref (.r c) k n) v) (hk : aP f (.ref (.r c) k n)) :
  ∃ M',SR F nt S L w0 M0 (eff [(t,dp1 f (.ref (.r c) k n)),(c,.any)] [] f) M' (a.put (some t) v) w:=by
 obtain ⟨ρ,ω,hO⟩:=h.own
 have hnt:=h.hnt
 have hsz:=h.size
 have hO1:=hO.only hc
 have e1 : aT (fcE f c) (.r c)=aT f (.r c):=mT 0
 have hk1 : aP (fcE f c) (.ref (.r c) k n):=by simp only [aP,e1] at hk ⊢;exact hk
 have ed : dp1 (fcE f c) (.ref (.r c) k n)=dp1 f (.ref (.r c) k n):=by simp only [dp1,e1]
 have hr:=gN hO1 (hv ρ ω hO) hk1
 rw [ed] at hr
 have hle : M.le (bf (cZ ω c) M w):=ce hO1
 have hE:=hO.erase hc
 have hpure : isX (dp1 f (.ref (.r c) k n))=false /\ isB (dp1 f (.ref (.r c) k n))=false /\ ∀ ρ',ar F (bf (cZ ω c) M w) ρ' (dp1 f (.ref (.r c) k n)) v:=by
  simp only [dp1] at hr ⊢
  split
  ·rename_i e
   rw [e] at hr
   exact ⟨rfl,rfl,fun _=>hr⟩
  ·rename_i e
   rw [e] at hr
   exact ⟨rfl,rfl,fun _=>hr⟩
 generalize dp1 f (.ref (.r c) k n)=x at *
 have hf' : ∀ s,eff [(t,x),(c,.any)] [] f s=if s=t then x else fbE f c s:=fun s=>by
  unfold eff fbE
  by_cases e : s=t
  ·subst e;simp
  ·have b1 : (s == t)=false:=by simpa using e
   by_cases e2 : s=c
   ·subst e2
    simp only [List.lookup,b1,beq_self_eq_true,if_neg e,if_true]
   ·have b2 : (s == c)=false:=by simpa using e2
    simp only [List.lookup,b1,b2,if_neg e,if_neg e2]
    simp [aD]
 refine ⟨bf (cZ ω c) M w,⟨hnt,by simp [Act.put,hsz],by simp [Act.put,h.defers],h.ch,bQ h.holds,Mem.le_trans h.ext hle,fun p h1 h2=>?_,ρ,fT ω c,?_⟩⟩
 ·by_cases e : M p=none
  ·unfold bf at h2
   split at h2
   ·rename_i q hq
    exact hO.new _ _ (cJ hq).1
   ·exact absurd e h2
  ·exact h.fresh p h1 e
 ·refine hE.step (ks:=[]) (fun p hp=>absurd rfl hp) hle (Nat.le_refl _) (fun s hs=>?_) (fun b hb=>?_) (fun k p e=>.inl ⟨p,e⟩) (fun p q e=>?_) (fun b l hb hl hB=>?_)
  ·rw [hf']
   by_cases e : s=t
   ·subst e
    rw [if_pos rfl]
    refine .inr (.inr ⟨v,by simp [Act.put,hsz,ht],?_⟩)
    rw [hf',if_pos rfl,am hpure.1]
    exact hpure.2.2 ρ
   ·rw [if_neg e]
    refine .inl (.inr ⟨rfl,?_,by simp [aD]⟩)
    simp [Act.put,Array.getElem?_setIfInBounds,Ne.symm e]
  ·have : b ≠ t:=by omega
   rw [hf',if_neg this]
   exact .inl (.inr ⟨rfl,fun p hp=>⟨rfl,fun hw=>⟨hw,rfl⟩⟩⟩)
  ·obtain ⟨e2,e3⟩:=dZ e
   have e4 : cZ ω c p.block=none:=by
    simp only [cZ,e2,if_neg e3]
   simp only [bf,e4]
   exact hO.apart p q e2
  ·have : b ≠ t:=by omega
   rw [hf',if_neg this] at hB
   exact ⟨rfl,hB⟩
theorem rJ (h : SR F nt S L w0 M0 f M a w) {t : Nat} (hd : o.dst=some t) (ht : t < nt) {x : Opd} {x' : Operand} (ho : o.op=.move x' \/ o.op=.assign x') (hx : aj F x x'=true)
  (hr : match vd f x with
   | .ref (.r c) k n=>aP f (.ref (.r c) k n) /\ K [(t,dp1 f (.ref (.r c) k n)),(c,.any)] []
   | d=>isS d=true /\ K [(t,d)] []) : o.wp P a w (PostX F nt S L w0 M0 f K) Q:=by
 have hrun : (execOp a.eval o).run P w=.ok (.value (a.eval x')) w:=by rcases ho with ho | ho <;> simp [execOp,ho]
 split at hr
 ·rename_i c k n ex
  have hc : 10000 <= c:=by
   obtain ⟨ρ,ω,hO⟩:=h.own
   have h1:=hr.1
   simp only [aP] at h1
   split at h1
   ·rename_i e;exact bY hO e
   ·exact h1.elim
  obtain ⟨M',hs⟩:=h.frz ht hc (v:=a.eval x') (fun ρ ω hO=>by have:=hO.opd hx;rwa [ex,am rfl] at this) hr.1
  exact cO hrun (by rw [hd];exact ⟨_,_,M',hr.2,hs⟩)
 ·exact postX_val hd hrun hr.2 (h.put ht (fun ρ ω hO=>hO.opd hx))
end
end Go.Gv

namespace Go.Gv
section
variable {P : Program} {F : Fid} {C : Nat -> List D -> D -> List D -> Prop} {nt : Nat} {S : Nat -> Prop} {L : Nat -> Option Loc} {w0 : World} {M0 : Mem} {f : Nat -> D} {M : Mem} {a : Act} {w : World} {o : Oper} {d : D} {Q : Exit -> Act -> World -> Prop} {ρ : Pa -> Loc} {ω : Nat -> Option Pa} {New : Nat -> Prop} {K : List (Nat × D) -> List (Nat × Bool) -> Prop}
theorem sQ (hC : bU P F C) (h : SR F nt S L w0 M0 f M a w) (hp : bA nt f o.dst) {g fi : Nat} {xs : List Opd} {ys : Array Operand} {ts : Array TypeId} (ho : o.op=.call { callee:=.value (.func fi),args:=ys,argTypes:=ts }) (hx : bV F xs ys.toList=true)
  (hg : F g=some fi) (hr : (∀ x ∈ xs,bv f (vd f x)) /\ ∃ d,C g (xs.map (dpv f)) d [.nilp] /\ dc o.dst K d) : o.wp P a w (PostX F nt S L w0 M0 f K) Q:=by
 obtain ⟨h0,d,h1,hK⟩:=hr
 have hrun : (execOp a.eval o).run P w=(callFunc fi (ys.toList.map a.eval).toArray).run P w:=by
  simp only [execOp,ho,resolve,Act.eval,Deferred.ofValue,Sem.run_bind,Sem.run_pure,Result.andThen_ok,invoke]
  congr 2
  rw [Array.append_empty,Array.empty_append]
  apply Array.ext'
  simp
 obtain ⟨ρ,ω,hO⟩:=h.own
 unfold Oper.wp
 rw [hrun,bI (hC.body g fi hg),Oper.upon_enter]
 refine (hC.runsG g fi _ d hg h1 (bf ω M w) w _ (bQ h.holds) (iA hO hx h0)).mono ?_
 rintro e w' ⟨v,M2,rfl,hb,hf,hh,rv⟩
 have hnone : ∀ p,w.heap.size <= p.block -> M p=none:=fun p hp=>by
  cases e : M p with
  | none=>rfl
  | some u =>
   have:=World.block_lt_of_cell? w p (h.holds p u e)
   omega
 have hM : M.le (fun p=>match M p with | some v=>some v | none=>M2 p):=fun p u e=>by simp only [e]
 have hM2 : M2.le (fun p=>match M p with | some v=>some v | none=>M2 p):=fun p u e=>by
  simp only [hnone p (hf p (by rw [e];simp)),e]
 have h' : SR F nt S L w0 M0 f (fun p=>match M p with | some v=>some v | none=>M2 p) a w':=h.world hb hM (fun p e e'=>by
  simp only [e] at e'
  exact hf p e') (fun p u e=>by
  cases e1 : M p with
  | none=>simp only [e1] at e;exact hh p u e
  | some u' =>
   simp only [e1] at e
   cases e
   have h1:=h.holds p _ e1
   rw [hb.cell (World.block_lt_of_cell? w p h1)]
   exact h1)
 have rv2:=af.mono hM2 _ _ rv
 generalize o.dst=t at hp hK ⊢
 cases t with
 | none=>exact ⟨[],[],_,hK,by simpa [Act.put,iq] using h'⟩
 | some t=>exact ⟨_,_,_,hK,h'.put hp (fun _ _ _=>bg.of_pure rv2)⟩
def lx : D -> Prop
 | .any=>True
 | .nils=>True
 | .ref _ _ _=>True
 | .blk _ es=>∀ r ∈ es,∀ c ∈ r,bi c=true
 | d=>bi d=true
theorem sj {d : D} {v : Value} {M' : Mem} (hf : lx d) (hn : d ≠ .any) (hb : isB d=false) (h : bg F M ρ d v) : bg F M' ρ d v:=by
 cases d <;> simp only [lx] at hf <;> first | exact h | (simp [bi] at hf;done) | (simp [isB] at hb;done) | (rw [am rfl] at h ⊢;simp only [ar] at h ⊢;exact fc hf h) | exact absurd rfl hn
theorem SR.flat (h : SR F nt S L w0 M0 f M a w) (hf : ∀ t,lx (f t)) (hsl : ∀ t,t < 10000 -> isB (f t)=false) : SR F nt S L w0 (fun _=>none) f (fun _=>none) a w where
 hnt:=h.hnt
 size:=h.size
 defers:=h.defers
 ch:=h.ch
 holds p v e:=by cases e
 ext:=Mem.le_refl _
 fresh p _ e:=absurd rfl e
 own:=by
  obtain ⟨ρ,ω,hO⟩:=h.own
  refine ⟨ρ,ω,⟨fun t ht=>?_,fun b sz es hb e=>?_,fun b kt et ks vs hb e=>?_,hO.lt,hO.new,fun _ _ _=>rfl,hO.lent⟩⟩
  ·rcases hO.slots t ht with h1 | ⟨v,h1,h2⟩
   ·exact .inl h1
   ·by_cases e : f t=.any
    ·exact .inl e
    ·exact .inr ⟨v,h1,sj (hf t) e (hsl t ht) h2⟩
  ·have h1:=hO.roots b sz es hb e
   have h2:=hf b
   rw [e] at h2
   simp only [lx] at h2
   unfold dx b5 at h1 ⊢
   rcases h1 with h1 | ⟨h1,h3,vs,T,g1,g2,g3,g4,g5⟩
   ·exact .inl h1
   ·refine .inr ⟨h1,h3,vs,T,g1,g2,g3,g4,fun i r off d e1 e2=>?_⟩
    obtain ⟨v,k1,k2⟩:=g5 i r off d e1 e2
    have hf1:=h2 r (List.mem_of_getElem? e1) d (List.mem_of_getElem? e2)
    have k3 : bR F M ω ρ w b i off d v:=k2
    rw [aV (dQ hf1)] at k3
    refine ⟨v,k1,?_⟩
    show bR F (fun _=>none) ω ρ w b i off d v
    rw [aV (dQ hf1)]
    exact fc hf1 k3
  ·have h2:=hf b
   rw [e] at h2
   simp [lx,bi] at h2
end
end Go.Gv

namespace Go.Gv
open Go.RowKit
section
variable {P : Program} {F : Fid} {C : Nat -> List D -> D -> List D -> Prop} {nt : Nat} {S : Nat -> Prop} {L : Nat -> Option Loc} {w0 : World} {M0 : Mem} {f : Nat -> D} {M M' : Mem} {a : Act} {w w' : World} {o : Oper} {d : D} {Q : Exit -> Act -> World -> Prop} {ρ ρ' : Pa -> Loc} {ω ω' : Nat -> Option Pa} {New : Nat -> Prop} {K : List (Nat × D) -> List (Nat × Bool) -> Prop}
def Pa.to (c : Nat) : Pa -> Pa
 | .r _=>.r c
 | .n _ i o=>.n c i o
theorem Pa.to_root (c : Nat) (p : Pa) : (p.to c).root=c:=by cases p <;> rfl
theorem Pa.to_to (b c : Nat) (p : Pa) (h : p.root=b) : (p.to c).to b=p:=by cases p <;> simp only [Pa.root] at h <;> subst h <;> rfl
theorem dx.carry {b c sz : Nat} {es : List (List D)} (h : dx F M ω ρ w b sz es) (hM : M.le M') (hs : ∀ p : Pa,p.root=b -> ρ' (p.to c)=ρ p /\ (ω (ρ p).blk=some p -> ω' (ρ p).blk=some (p.to c) /\ w'.heap[(ρ p).blk]? = w.heap[(ρ p).blk]?)) : dx F M' ω' ρ' w' c sz es:=by
 have path : ∀ (p : Pa) (sz : Nat) (es : List (List D)) (R R' : Nat -> Nat -> D -> Value -> Prop),p.root=b -> b5 ω ρ w p sz es R -> (∀ i r off d v,es[i]? = some r -> r[off]? = some d -> R i off d v -> R' i off d v) -> b5 ω' ρ' w' (p.to c) sz es R':=by
  intro p sz es R R' hp h hR
  obtain ⟨e1,e2⟩:=hs p hp
  unfold b5 at h ⊢
  rw [e1]
  rcases h with h | ⟨h1,h2⟩
  ·exact .inl h
  ·obtain ⟨g1,g2⟩:=e2 h1
   exact .inr ⟨g1,h2.frame g2 hR⟩
 unfold dx at h ⊢
 refine path (.r b) sz es _ _ rfl h (fun i r off d v k1 k2 hr=>?_)
 cases d
 case own sz2 es2 =>
  obtain ⟨h1,h2⟩:=hr
  refine ⟨?_,path (.n b i off) sz2 es2 _ _ rfl h2 (fun _ _ _ d v _ _ hr=>af.mono hM d v hr)⟩
  have:=(hs (.n b i off) rfl).1
  simp only [ar,Pa.to] at h1 this ⊢
  rw [this]
  exact h1
 all_goals exact af.mono hM _ _ hr
theorem SR.lend (h : SR F nt S L w0 M0 f M a w) (hO : Own F L (fun k=>S k \/ w0.heap.size <= k) f M a w ρ ω) {b sz : Nat} {es es' : List (List D)} (hf : f b=.blk sz es) (hb : 10000 <= b) (hω : ω (ρ (.r b)).blk=some (.r b)) {ρ1 : Pa -> Loc} {ω1 : Nat -> Option Pa}
  (hρ1 : ∀ p : Pa,p.root=b -> ρ1 (p.to aB)=ρ p) (hω1 : ∀ k q,ω1 k=some q ↔ ∃ p : Pa,ω k=some p /\ p.root=b /\ q=p.to aB)
  (hch : Ch (fun k=>∃ p,ω1 k=some p) w w') (hM : M.le M') (hfr : ∀ p,M p=none -> M' p ≠ none -> (∃ q,ω1 p.block=some q) \/ w.heap.size <= p.block) (hh : ∀ p v,M' p=some v -> w'.cell? p=some v)
  (hρ' : ρ' (.r aB)=ρ1 (.r aB)) (hl : ta F M' w' ρ' ω' aB sz es') (hnew : ∀ k p,ω' k=some p -> (∃ q,ω1 k=some q) \/ w.heap.size <= k)
  {dst : Option Nat} (ht : ∀ t,dst=some t -> t < nt) {v : Value} (hv : af F M' d v) :
  SR F nt S L w0 M0 (eff (jF dst d++[(b,.blk sz es')]) [(b,false)] f) M' (a.put dst v) w':=by
 have hS1 : ∀ k q,ω1 k=some q -> ∃ p,ω k=some p /\ p.root=b:=fun k q e=>by
  obtain ⟨p,h1,h2,_⟩:=(hω1 k q).1 e
  exact ⟨p,h1,h2⟩
 have other : ∀ k p,ω k=some p -> p.root ≠ b -> (∀ q,ω1 k ≠ some q) /\ ω' k=none /\ w'.heap[k]? = w.heap[k]?:=fun k p e hp=>by
  have h1 : ∀ q,ω1 k ≠ some q:=fun q e1=>by
   obtain ⟨p',h1,h2⟩:=hS1 k q e1
   rw [e] at h1;cases h1;exact hp h2
  refine ⟨h1,?_,hch.block k (hO.lt _ _ e) (fun ⟨q,e1⟩=>h1 q e1)⟩
  cases e2 : ω' k with
  | none=>rfl
  | some q =>
   rcases hnew k q e2 with ⟨q,e1⟩ | h2
   ·exact absurd e1 (h1 q)
   ·have:=hO.lt _ _ e;omega
 obtain ⟨ρ2,hρ2⟩ : ∃ ρ2 : Pa -> Loc,ρ2=fun p=>if p.root=b then ρ' (p.to aB) else ρ p:=⟨_,rfl⟩
 obtain ⟨ω2,hω2⟩ : ∃ ω2 : Nat -> Option Pa,ω2=fun k=>match ω' k with
  | some q=>some (q.to b)
  | none=>match ω k with
   | some p=>if p.root=b then none else some p
   | none=>none:=⟨_,rfl⟩
 have r1 : ∀ p : Pa,p.root=b -> ρ2 p=ρ' (p.to aB):=fun p hp=>by rw [hρ2];simp only [if_pos hp]
 have r2 : ∀ p : Pa,p.root ≠ b -> ρ2 p=ρ p:=fun p hp=>by rw [hρ2];simp only [if_neg hp]
 have o1 : ∀ k q,ω' k=some q -> ω2 k=some (q.to b):=fun k q e=>by rw [hω2];simp only [e]
 have o2 : ∀ k p,ω k=some p -> p.root ≠ b -> ω2 k=some p:=fun k p e hp=>by rw [hω2];simp only [(other k p e hp).2.1,e,if_neg hp]
 have o3 : ∀ k p,ω2 k=some p -> (∃ q,ω' k=some q /\ p=q.to b) \/ (ω k=some p /\ p.root ≠ b):=fun k p e=>by
  rw [hω2] at e
  simp only at e
  cases e1 : ω' k with
  | some q=>rw [e1] at e;cases e;exact .inl ⟨q,rfl,rfl⟩
  | none =>
   rw [e1] at e
   simp only at e
   cases e2 : ω k with
   | none=>rw [e2] at e;cases e
   | some p' =>
    rw [e2] at e
    simp only at e
    split at e
    ·cases e
    ·cases e;exact .inr ⟨rfl,by assumption⟩
 have hrb : ρ2 (.r b)=ρ (.r b):=by
  rw [r1 (.r b) rfl]
  show ρ' (.r aB)=_
  rw [hρ',<- hρ1 (.r b) rfl]
  rfl
 have hfb : eff (jF dst d++[(b,.blk sz es')]) [(b,false)] f b=.blk sz es':=aK (by
  cases dst with
  | none=>simp [jF]
  | some t =>
   have : (b == t)=false:=by have:=ht t rfl;have:=h.hnt;simp;omega
   simp [jF,List.lookup_cons,this])
 have lk : ∀ s,s ≠ b -> dst ≠ some s -> (jF dst d++[(b,D.blk sz es')]).lookup s=none:=fun s h1 h2=>by
  have e1 : (s == b)=false:=by simpa using h1
  cases dst with
  | none=>simp only [jF,List.nil_append,List.lookup_cons,e1,List.lookup_nil]
  | some t =>
   have e2 : (s == t)=false:=by simp;rintro rfl;exact h2 rfl
   simp only [jF,List.cons_append,List.nil_append,List.lookup_cons,e1,e2,List.lookup_nil]
 have hsize : (a.put dst v).tmps.size=nt:=by cases dst <;> simp [Act.put,h.size]
 refine ⟨h.hnt,hsize,by cases dst <;> simp [Act.put,h.defers],h.ch.trans hch (fun k hk ⟨q,e⟩=>?_),hh,Mem.le_trans h.ext hM,fun p h1 h2=>?_,ρ2,ω2,?_⟩
 ·obtain ⟨p,e1,_⟩:=hS1 k q e
  rcases hO.new _ _ e1 with h3 | h3
  ·exact h3
  ·omega
 ·by_cases e : M p=none
  ·rcases hfr p e h2 with ⟨q,e1⟩ | h3
   ·obtain ⟨p',e2,_⟩:=hS1 _ q e1
    exact hO.new _ _ e2
   ·exact .inr (Nat.le_trans h.ch.size h3)
  ·exact h.fresh p h1 e
 ·refine hO.step (ks:=[(b,false)]) (fun p hp=>?_) hM hch.size (fun s hs=>?_) (fun c hc=>?_) (fun k p e=>?_) (fun p q e=>?_) (fun c l hc hl' hB=>?_)
  ·refine ⟨(b,false),by simp,?_⟩
   by_cases e : p.root=b
   ·cases p with
    | r x =>
     simp only [Pa.root] at e
     subst e
     exact absurd hrb hp
    | n x i off =>
     simp only [Pa.root] at e
     subst e
     simp [bT]
   ·exact absurd (r2 p e) hp
  ·by_cases e : dst=some s
   ·right
    have hst:=ht s e
    subst e
    have e1 : eff (jF (some s) d++[(b,.blk sz es')]) [(b,false)] f s=d:=aK (by simp [jF])
    refine .inr ⟨v,getElem?_put_same (by rw [h.size];exact hst),?_⟩
    rw [e1]
    exact bg.of_pure hv
   ·left
    rcases bx (f:=f) (ks:=[(b,false)]) (lk s (by omega) e) with h1 | h1
    ·exact .inl h1
    ·refine .inr ⟨h1.1,?_,h1.2⟩
     cases dst with
     | none=>rfl
     | some t=>exact getElem?_put (fun x=>e (by rw [x]))
  ·by_cases e : c=b
   ·subst e
    right
    refine .inl ⟨sz,es',hfb,hl.rows.carry (Mem.le_refl _) (fun p hp=>?_)⟩
    have e1 : ρ2 (p.to c)=ρ' p:=by rw [r1 _ (Pa.to_root _ _),Pa.to_to aB c p hp]
    exact ⟨e1,fun e2=>⟨o1 _ _ e2,rfl⟩⟩
   ·left
    rcases bJ (f:=f) (ks:=[(b,false)]) (lk c e (fun x=>by have:=ht c x;have:=h.hnt;omega)) with h1 | h1
    ·exact .inl h1
    ·refine .inr ⟨h1,fun p hp=>?_⟩
     have hpb : p.root ≠ b:=by rw [hp];exact e
     exact ⟨r2 p hpb,fun hw=>⟨o2 _ _ hw hpb,(other _ _ hw hpb).2.2⟩⟩
  ·rcases o3 k p e with ⟨q,e1,_⟩ | ⟨e1,_⟩
   ·rcases hnew k q e1 with ⟨q',e2⟩ | h2
    ·obtain ⟨p',e3,_⟩:=hS1 k q' e2
     exact .inl ⟨p',e3⟩
    ·exact .inr ⟨hl.lt k q e1,.inr (Nat.le_trans h.ch.size h2)⟩
   ·exact .inl ⟨p,e1⟩
  ·rcases o3 _ q e with ⟨q',e1,_⟩ | ⟨e1,e2⟩
   ·exact hl.apart p q' e1
   ·have h1:=hO.apart p q e1
    cases e3 : M' p with
    | none=>rfl
    | some u =>
     rcases hfr p h1 (by rw [e3];simp) with ⟨q',e4⟩ | h4
     ·exact absurd e4 ((other _ _ e1 e2).1 q')
     ·have:=hO.lt _ _ e1;omega
  ·by_cases e : c=b
   ·subst e
    exact ⟨hrb,by rw [hf];rfl⟩
   ·have hcb : (Pa.r c).root ≠ b:=e
    refine ⟨r2 _ hcb,?_⟩
    rcases bJ (f:=f) (ks:=[(b,false)]) (lk c e (fun x=>by have:=ht c x;have:=h.hnt;omega)) with h1 | h1
    ·rw [hB] at h1;cases h1
    ·rw [<- h1];exact hB
theorem sR (hC : bU P F C) (h : SR F nt S L w0 M0 f M a w) (hp : ∀ t,o.dst=some t -> t < nt) {g fi : Nat} {x : Opd} {xs : List Opd} {y : Operand} {ys : List Operand} {ts : Array TypeId} (ho : o.op=.call { callee:=.value (.func fi),args:=⟨y::ys⟩,argTypes:=ts }) (hx0 : aj F x y=true) (hx : bV F xs ys=true)
  (hg : F g=some fi) (hr : match vd f x with
  | .adr (.r b) i off=>i=0 /\ off=0 /\ match f b with
   | .blk sz es=>0 < es.length /\ (∀ x ∈ xs,isV (vd f x)=true) /\ ∃ d,∃ es' : List (List D),0 < es'.length /\ C g (.blk sz es::xs.map (vd f)) d [.blk sz es'] /\ K (jF o.dst d++[(b,.blk sz es')]) [(b,false)]
   | _=>False
  | _=>False) : o.wp P a w (PostX F nt S L w0 M0 f K) Q:=by
 split at hr
 ·rename_i b i off hvx
  obtain ⟨rfl,rfl,hr⟩:=hr
  split at hr
  ·rename_i sz es hf
   obtain ⟨hpos,hxs,d,es',hpos',hc,hK⟩:=hr
   have hrun : (execOp a.eval o).run P w=(callFunc fi (a.eval y::ys.map a.eval).toArray).run P w:=by
    simp only [execOp,ho,resolve,Act.eval,Deferred.ofValue,Sem.run_bind,Sem.run_pure,Result.andThen_ok,invoke]
    congr 2
    rw [Array.append_empty,Array.empty_append]
    apply Array.ext'
    simp
    cases y <;> simp [Act.eval]
   obtain ⟨ρ,ω,hO⟩:=h.own
   have hb:=hO.big hf
   have hv:=hO.opd hx0
   rw [hvx,am rfl] at hv
   simp only [ar,Nat.zero_mul,Nat.add_zero] at hv
   have hroot:=hO.roots b sz es hb hf
   have hω : ω (ρ (.r b)).blk=some (.r b):=by
    rcases hroot with ⟨e0,_⟩ | ⟨hω,_⟩
    ·rw [e0] at hpos;simp at hpos
    ·exact hω
   have hrep : ap F M (xs.map (vd f)) (ys.map a.eval):=by
    have h1:=fg h hx (by rw [List.all_eq_true];exact hxs)
    rwa [List.map_congr_left (g:=vd f) fun x hx'=>by unfold dpv;exact (ip (hxs x hx')).1] at h1
   obtain ⟨ρ1,hρ1⟩ : ∃ ρ1 : Pa -> Loc,ρ1=fun p=>ρ (p.to b):=⟨_,rfl⟩
   obtain ⟨ω1,hω1⟩ : ∃ ω1 : Nat -> Option Pa,ω1=fun k=>match ω k with
    | some p=>if p.root=b then some (p.to aB) else none
    | none=>none:=⟨_,rfl⟩
   have w1 : ∀ k q,ω1 k=some q ↔ ∃ p : Pa,ω k=some p /\ p.root=b /\ q=p.to aB:=fun k q=>by
    rw [hω1]
    simp only
    constructor
    ·intro e
     split at e
     ·rename_i p hp
      split at e
      ·cases e;exact ⟨p,hp,by assumption,rfl⟩
      ·cases e
     ·cases e
    ·rintro ⟨p,e1,e2,rfl⟩
     simp only [e1,if_pos e2]
   have p1 : ∀ p : Pa,p.root=b -> ρ1 (p.to aB)=ρ p:=fun p hp=>by
    rw [hρ1]
    simp only
    rw [Pa.to_to b aB p hp]
   have lent : ta F M w ρ1 ω1 aB sz es:=by
    refine ⟨(w1 _ _).2 ⟨.r b,?_,rfl,rfl⟩,dx.carry hroot (Mem.le_refl _) (fun p hp=>⟨p1 p hp,fun e=>⟨(w1 _ _).2 ⟨p,e,hp,rfl⟩,rfl⟩⟩),fun k p e=>?_,fun k p e=>?_,fun p q e=>?_⟩
    ·have:=p1 (.r b) rfl
     simp only [Pa.to] at this
     rw [this];exact hω
    ·obtain ⟨p',e1,_⟩:=(w1 _ _).1 e
     exact hO.lt _ _ e1
    ·obtain ⟨p',_,_,rfl⟩:=(w1 _ _).1 e
     exact Pa.to_root _ _
    ·obtain ⟨p',e1,_⟩:=(w1 _ _).1 e
     exact hO.apart p p' e1
   have hL:=hC.runsL g fi sz es _ d es' hg hc M w _ ρ1 ω1 h.holds hrep lent
   have e1 : ρ1 (.r aB)=ρ (.r b):=p1 (.r b) rfl
   rw [e1,<- hv] at hL
   unfold Oper.wp
   rw [hrun,bI (hC.body g fi hg),Oper.upon_enter]
   refine hL.mono ?_
   rintro e0 w' ⟨v,M',ρ',ω',rfl,q1,q2,q3,q4,q5,q6,q7,q8⟩
   exact ⟨_,_,M',hK,h.lend hO hf hb hω p1 w1 q1 q2 q3 q4 (by rw [q6,e1]) q7 q8 hp q5⟩
  ·exact hr.elim
 ·exact hr.elim
theorem iL {es : List (List D)} {k n : Nat} {zs : List D} (h : k + n <= es.length) : (di es k n zs).length=es.length:=by
 simp [di];omega
theorem s8 {es : List (List D)} {k n : Nat} {zs : List D} (h : k + n <= es.length) (i : Nat) : (di es k n zs)[i]? = if k <= i /\ i < k + n then some zs else es[i]?:=by
 unfold di
 rw [List.append_assoc]
 have hl : (es.take k).length=k:=by simp;omega
 by_cases h1 : i < k
 ·rw [List.getElem?_append_left (by omega),List.getElem?_take_of_lt h1,if_neg (by omega)]
 ·rw [List.getElem?_append_right (by omega),hl]
  by_cases h2 : i < k + n
  ·rw [List.getElem?_append_left (by simp;omega),if_pos (by omega),List.getElem?_replicate,if_pos (by omega)]
  ·rw [List.getElem?_append_right (by simp;omega),List.length_replicate,List.getElem?_drop,if_neg (by omega)]
   congr 1
   omega
theorem nu {es : List (List D)} {k n : Nat} {zs e : List D} (he : e ∈ di es k n zs) : e=zs \/ e ∈ es:=by
 simp only [di,List.mem_append] at he
 rcases he with (h | h) | h
 ·exact .inr (List.mem_of_mem_take h)
 ·exact .inl (List.mem_replicate.1 h).2
 ·exact .inr (List.mem_of_mem_drop h)
def ow (P : Program) (T : Nat) (zs : List D) : Bool:=match P.underlying T with
 | some (.slice e)=>zeroOk P e zs
 | _=>false
theorem mC {z : Array Value} {n i off : Nat} {u : Value} (hi : i < n) (ho : z.toList[off]? = some u) : (Builtin.zeroCells z n).toList[i * z.size + off]? = some u:=by
 have h1 : off < z.size:=by have:=(List.getElem?_eq_some_iff.1 ho).1;simpa using this
 have h2 : i * z.size + z.size <= n * z.size:=by rw [<- Nat.succ_mul];exact Nat.mul_le_mul_right _ hi
 have h3 : (i * z.size + off) % z.size=off:=by
  rw [Nat.mul_comm,Nat.mul_add_mod,Nat.mod_eq_of_lt h1]
 unfold Builtin.zeroCells
 rw [Array.toList_map,List.getElem?_map]
 rw [Array.toList_range,List.getElem?_range (show i * z.size + off < n * z.size by omega),Option.map_some,h3]
 rw [getElem!_pos z off h1]
 have:=(List.getElem?_eq_some_iff.1 ho).2
 rw [<- this];simp
theorem nk {T : Nat} {ty : TypeId} {zs : List D} (hk : ow P T zs=true) (hz1 : ∀ c ∈ zs,au c=true) {g o n cap : Nat} {cur : List Value} {T0 : TypeId} (hn : n ≠ 0) (hg : w.heap[g]? = some (.cells cur.toArray T0 (0,0))) (hgl : g < w.heap.size) (hl : o + n * zs.length <= cur.length) :
  ∃ (w' : World) (Z : List Value),(Builtin.clear_ #[T] ty #[.slice (some ⟨g,o,none⟩) n cap]).run P w=.ok (.tuple #[]) w' /\ w'.heap[g]? = some (.cells (cur.take o++Z++cur.drop (o + n * zs.length)).toArray T0 (0,0)) /\ Z.length=n * zs.length /\
   (∀ i off c,i < n -> zs[off]? = some c -> ∃ u,Z[i * zs.length + off]? = some u /\ ∀ (F : Fid) (M : Mem),af F M c u) /\ Ch (fun k=>k=g) w w':=by
 unfold ow at hk
 split at hk
 ·rename_i e hu
  obtain ⟨z,i,hi,hiz,hz,hzs,hzc⟩:=zeroOk_z hk
  have hcell : ∀ (off : Nat) (c : D),zs[off]? = some c -> ∃ u,z.cells.toList[off]? = some u /\ u.oneCell'=true /\ ∀ (F : Fid) (M : Mem),af F M c u:=fun off c hc=>by
   have h1 : off < z.cells.toList.length:=by have:=(List.getElem?_eq_some_iff.1 hc).1;simp;omega
   have h2 : ∀ (F : Fid) (M : Mem),af F M c (z.cells.toList[off]):=fun F M=>by
    rcases hzc off c _ hc (List.getElem?_eq_getElem h1) (F:=F) (L:=fun _=>none) (New:=fun _=>True) (f:=fun _=>.any) (M:=M) (a:={ tmps:=#[],defers:=[] }) (w:=w) with ⟨_,h3⟩ | ⟨n,rfl,_⟩ | ⟨_,_,_,h3,_⟩
    ·exact h3
    ·have:=hz1 _ (List.mem_of_getElem? hc);simp [au] at this
    ·cases h3
   exact ⟨_,List.getElem?_eq_getElem h1,oneCell_of (h2 ⟨P,fun _=>none,fun _=>0⟩ (fun _=>none)) (hz1 _ (List.mem_of_getElem? hc)),h2⟩
  have hone : ∀ v ∈ (Builtin.zeroCells z.cells n).toList,v.oneCell'=true:=fun v hv=>by
   simp only [Builtin.zeroCells,Array.toList_map,List.mem_map] at hv
   obtain ⟨x,hx,rfl⟩:=hv
   have hx' : x < n * z.cells.size:=by simpa using hx
   have hpos : 0 < z.cells.size:=by
    rcases Nat.eq_zero_or_pos z.cells.size with h | h
    ·rw [h] at hx';simp at hx'
    ·exact h
   have hlt:=Nat.mod_lt x hpos
   obtain ⟨u,k1,k2,_⟩:=hcell (x % z.cells.size) (zs[x % z.cells.size]'(by rw [<- hzs];exact hlt)) (List.getElem?_eq_getElem _)
   rw [getElem!_pos z.cells _ hlt]
   have : z.cells[x % z.cells.size]=u:=by
    have:=(List.getElem?_eq_some_iff.1 k1).2
    simpa using this
   rw [this];exact k2
  have hZ : (Builtin.zeroCells z.cells n).toList.length=n * zs.length:=by
   simp [Builtin.zeroCells,hzs]
  obtain ⟨w',e1,e2,e3,e4,e5,e6,e7,e8⟩:=cK (P:=P) g T0 o (Builtin.zeroCells z.cells n).toList 0 cur w hg (by rw [hZ];simpa using hl) hone
  refine ⟨w',(Builtin.zeroCells z.cells n).toList,?_,?_,hZ,fun i off c hin hc=>?_,⟨e5,e6,e7,by omega,fun k _ hk=>e3 k hk,by omega⟩⟩
  ·have hu' : (underlying T).run P w=.ok (.slice e) w:=run_underlying hu w
   unfold Builtin.clear_
   simp only [List.getElem?_toArray,List.getElem?_cons_zero,Sem.run_bind,hu',Result.andThen_ok]
   cases n with
   | zero=>exact absurd rfl hn
   | succ n=>simp only [hz,Result.andThen_ok,e1,Sem.run_pure]
  ·rw [e2];simp only [Nat.add_zero,hZ]
  ·obtain ⟨u,k1,_,k3⟩:=hcell off c hc
   exact ⟨u,by rw [<- hzs];exact mC hin k1,k3⟩
 ·cases hk
theorem mK {base k n sz : Nat} {es : List (List D)} {zs : List D} {us Z : List Value} {R : D -> Value -> Prop} (hkn : k + n <= es.length) (hzs : zs.length=sz) (hes : ∀ e ∈ es,e.length=sz) (hlen : base + es.length * sz <= us.length) (hZl : Z.length=n * sz) (hZ : ∀ i off c,i < n -> zs[off]? = some c -> ∃ u,Z[i * sz + off]? = some u /\ R c u)
  (hold : ∀ i r off d,es[i]? = some r -> r[off]? = some d -> ∃ u,us[base + i * sz + off]? = some u /\ R d u) : ∀ i r off d,(di es k n zs)[i]? = some r -> r[off]? = some d -> ∃ u,(us.take (base + k * sz)++Z++us.drop (base + k * sz + n * sz))[base + i * sz + off]? = some u /\ R d u:=by
 intro i r off d h1 h2
 have hle : k * sz + n * sz <= es.length * sz:=by rw [<- Nat.add_mul];exact Nat.mul_le_mul_right _ hkn
 have hget:=fun x=>fq (vs:=us) (us:=Z) (q:=base + k * sz) (n:=n * sz) (x:=x) hZl (by omega)
 rw [s8 hkn] at h1
 split at h1
 ·rename_i hi
  cases h1
  have ho : off < sz:=by have:=(List.getElem?_eq_some_iff.1 h2).1;omega
  obtain ⟨u,k1,k2⟩:=hZ (i - k) off d (by omega) h2
  refine ⟨u,?_,k2⟩
  have e1 : i * sz=k * sz + (i - k) * sz:=by rw [<- Nat.add_mul];congr 1;omega
  have e2 : (i - k) * sz + sz <= n * sz:=by rw [<- Nat.succ_mul];exact Nat.mul_le_mul_right _ (by omega)
  rw [hget,if_pos (by omega),<- k1]
  congr 1
  omega
 ·rename_i hi
  have ho : off < sz:=by have:=(List.getElem?_eq_some_iff.1 h2).1;have:=hes r (List.mem_of_getElem? h1);omega
  obtain ⟨u,k1,k2⟩:=hold i r off d h1 h2
  refine ⟨u,?_,k2⟩
  rw [hget,if_neg,k1]
  intro hx
  by_cases hik : i < k
  ·have : i * sz + sz <= k * sz:=by rw [<- Nat.succ_mul];exact Nat.mul_le_mul_right _ hik
   omega
  ·have : k * sz + n * sz <= i * sz:=by rw [<- Nat.add_mul];exact Nat.mul_le_mul_right _ (by omega)
   omega
theorem tX {b : Nat} {x : D} (h : f b=x) (hx : isB x=true) : eff [(b,x)] [] f=f:=by
 funext s
 unfold eff
 by_cases e : s=b
 ·subst e;simp [h]
 ·have e1 : (s == b)=false:=by simpa using e
  simp [List.lookup_cons,e1,aD]
theorem yh (h : SR F nt S L w0 M0 f M a w) (hp : ∀ t,o.dst=some t -> t < nt) {zs : List D} {x : Opd} {y : Operand} {T : TypeId} (ho : o.op=.call { callee:=.builtin .clear,args:=#[y],argTypes:=#[T] }) (hx : aj F x y=true) (hk : ow P T zs=true)
  (hr : match vd f x with
  | .nils=>K (df o.dst) []
  | .ref (.r b) k n=>match f b with
   | .blk sz es=>k + n <= es.length /\ zs.length=sz /\ (∀ e ∈ es,∀ c ∈ e,au c=true) /\ (∀ c ∈ zs,au c=true) /\ K (df o.dst++[(b,.blk sz (di es k n zs))]) []
   | _=>False
  | .ref (.n b i o') k n=>match f b with
   | .blk sz0 es0=>∃ row0,es0[i]? = some row0 /\ ∃ sz es,row0[o']? = some (.own sz es) /\ k + n <= es.length /\ zs.length=sz /\ (∀ c ∈ zs,au c=true) /\ K (df o.dst++[(b,.blk sz0 (bj es0 i o' 1 [.own sz (di es k n zs)]))]) []
   | _=>False
  | _=>False) : o.wp P a w (PostX F nt S L w0 M0 f K) Q:=by
 obtain ⟨ρ,ω,hO⟩:=h.own
 have hv:=hO.opd hx
 have exec : ∀ v w',(Builtin.clear_ #[T] o.type #[a.eval y]).run P w=.ok v w' -> (execOp a.eval o).run P w=.ok (.value v) w':=fun v w' e=>by
  simp only [execOp,ho,resolve,invoke,builtin,List.map_toArray,List.map_cons,List.map_nil,Sem.run_bind,Sem.run_pure,Result.andThen_ok,e]
 have noop : ∀ v : Value,(v=.slice none 0 0 \/ ∃ A cap,v=.slice A 0 cap) -> a.eval y=v -> (underlying T).run P w=.ok (match P.underlying T with | some u=>u | none=>default) w -> (execOp a.eval o).run P w=.ok (.value (.tuple #[])) w:=by
  intro v hv' e hu
  refine exec _ _ ?_
  rw [e]
  unfold Builtin.clear_
  simp only [List.getElem?_toArray,List.getElem?_cons_zero,Sem.run_bind,hu,Result.andThen_ok]
  rcases hv' with rfl | ⟨A,cap,rfl⟩
  ·simp
  ·cases A <;> simp
 have hu : (underlying T).run P w=.ok (match P.underlying T with | some u=>u | none=>default) w:=by
  unfold ow at hk
  split at hk
  ·rename_i e hu
   rw [run_underlying hu w,hu]
  ·cases hk
 have unit : ∀ (b : Nat) (x : D) (M' : Mem) (w' : World),SR F nt S L w0 M0 (eff [(b,x)] [] f) M' a w' -> SR F nt S L w0 M0 (eff (df o.dst++[(b,x)]) [] f) M' (a.put o.dst (.tuple #[])) w':=fun b x M' w' hs=>by
  rw [<- oE]
  cases hd : o.dst with
  | none=>simpa [Act.put] using hs
  | some t=>exact hs.put (hp t hd) fun _ _ _=>by rw [am rfl];simp [ar,af,ap]
 split at hr
 ·rename_i hvx
  rw [hvx,am rfl] at hv
  simp only [ar,af] at hv
  refine cO (noop _ (.inl rfl) hv hu) ⟨_,_,M,hr,?_⟩
  cases hd : o.dst with
  | none=>simpa [Act.put,df,iq] using h
  | some t=>exact h.put (hp t hd) fun _ _ _=>by rw [am rfl];simp [ar,af,ap]
 ·rename_i b k n hvx
  rw [hvx,am rfl] at hv
  split at hr
  ·rename_i sz es hf
   obtain ⟨hkn,hzs,hes1,hz1,hK⟩:=hr
   have hb:=hO.big hf
   have hgp : aT f (.r b)=some (sz,es):=by simp [aT,hf]
   by_cases hn : n=0
   ·subst hn
    have e0 : di es k 0 zs=es:=by simp [di]
    rw [e0] at hK
    have hv' : ∃ A cap,a.eval y=.slice A 0 cap:=by
     simp only [ar] at hv
     rcases hv with ⟨_,A,e⟩ | ⟨cap,e,_⟩
     ·exact ⟨A,0,e⟩
     ·exact ⟨_,cap,e⟩
    refine cO (noop _ (.inr hv') rfl hu) ⟨_,_,M,hK,unit b _ M w ?_⟩
    rw [tX hf rfl];exact h
   ·rcases gU hO hgp hkn hv (fun e he c hc=>ci (hes1 e (List.mem_of_mem_drop (List.mem_of_mem_take he)) c hc)) with ⟨A,hv,hn0⟩ | ⟨cap,us,T0,hv,⟨hcap,hmc⟩,hcl,hω,g0,g1,g2,g4,g5⟩
    ·exact absurd hn0 hn
    ·have hrows : eS w (ρ (.r b)) sz es (fun i off d v=>bR F M ω ρ w b i off d v):=by
      rcases hO.roots b sz es hb hf with ⟨e0,_⟩ | ⟨_,hr⟩
      ·rw [e0] at hkn;simp at hkn;omega
      ·exact hr
     obtain ⟨q0,us0,T1,q1,q2,q3,q4,q5⟩:=id hrows
     rw [g1] at q1
     simp only [Option.some.injEq,Obj.cells.injEq,and_true] at q1
     obtain ⟨q1,rfl⟩:=q1
     obtain rfl : us=us0:=by simpa using congrArg Array.toList q1
     have hle : k * sz + n * sz <= es.length * sz:=by rw [<- Nat.add_mul];exact Nat.mul_le_mul_right _ hkn
     obtain ⟨w',Z,e1,e2,e3,e4,e5⟩:=nk (P:=P) (w:=w) (ty:=o.type) hk hz1 hn (cap:=cap) g1 (hO.lt _ _ hω) (o:=(ρ (.r b)).base + k * sz) (by rw [hzs,g2];omega)
     rw [hzs] at e2 e3 e4
     have hfill:=h.fill hO hf hω hrows (es':=di es k n zs) (us:=us.take ((ρ (.r b)).base + k * sz)++Z++us.drop ((ρ (.r b)).base + k * sz + n * sz)) (w':=w') (Nat.le_of_eq (iL hkn)) (fun e he=>by
      rcases nu he with rfl | he
      ·exact ⟨hzs,hz1⟩
      ·exact ⟨g4 e he,hes1 e he⟩) e5 e2 (by simp;omega) (mK (R:=fun d v=>af F M d v) hkn hzs g4 (by rw [g2];exact q3) e3 (fun i off c hi hc=>by
       obtain ⟨u,k1,k2⟩:=e4 i off c hi hc
       exact ⟨u,k1,k2 F M⟩) (fun i r off d h1 h2=>by
       obtain ⟨u,k1,k2⟩:=q5 i r off d h1 h2
       rw [aV (ci (hes1 r (List.mem_of_getElem? h1) d (List.mem_of_getElem? h2)))] at k2
       exact ⟨u,k1,k2⟩))
     obtain ⟨_,_,_,_,hs⟩:=hfill
     refine cO (exec _ _ (by rw [hv];exact e1)) ⟨_,_,M,hK,unit b _ M w' hs⟩
  ·exact hr.elim
 ·rename_i b i0 o0 k n hvx
  rw [hvx,am rfl] at hv
  split at hr
  ·rename_i sz0 es0 hf
   obtain ⟨row0,hi0,sz,es,ho0,hkn,hzs,hz1,hK⟩:=hr
   have hb:=hO.big hf
   have hgp : aT f (.n b i0 o0)=some (sz,es):=by simp [aT,hf,hi0,ho0]
   have hpath : b5 ω ρ w (.n b i0 o0) sz es (fun _ _ d v=>af F M d v):=(hO.get (p:=.n b i0 o0) hb hgp).1
   have hnoO : ∀ e ∈ (es.drop k).take n,∀ c ∈ e,isO c=false:=by
    intro e he c hc'
    have he:=List.mem_of_mem_drop (List.mem_of_mem_take he)
    rcases hpath with ⟨e0,_⟩ | ⟨_,_,vs,T,_,_,_,_,h5⟩
    ·rw [e0] at he;cases he
    ·obtain ⟨i,hi⟩:=List.mem_iff_getElem?.1 he
     obtain ⟨j,hj⟩:=List.mem_iff_getElem?.1 hc'
     obtain ⟨u,_,h6⟩:=h5 i e j c hi hj
     cases c <;> first | rfl | (simp [af] at h6)
   by_cases hn : n=0
   ·subst hn
    have e0 : di es k 0 zs=es:=by simp [di]
    rw [e0] at hK
    have hv' : ∃ A cap,a.eval y=.slice A 0 cap:=by
     simp only [ar] at hv
     rcases hv with ⟨_,A,e⟩ | ⟨cap,e,_⟩
     ·exact ⟨A,0,e⟩
     ·exact ⟨_,cap,e⟩
    refine cO (noop _ (.inr hv') rfl hu) ⟨_,_,M,hK,unit b _ M w (h.fillN hO hf hi0 ho0 rfl h.ch (Nat.le_refl _) h.holds hpath (fun _ _ _ _=>rfl))⟩
   ·rcases gU hO hgp hkn hv hnoO with ⟨A,hv,hn0⟩ | ⟨cap,us,T0,hv,⟨hcap,hmc⟩,hcl,hω,g0,g1,g2,g4,g5⟩
    ·exact absurd hn0 hn
    ·have hrows : eS w (ρ (.n b i0 o0)) sz es (fun _ _ d v=>af F M d v):=by
      rcases hpath with ⟨e0,_⟩ | ⟨_,hr⟩
      ·rw [e0] at hkn;simp at hkn;omega
      ·exact hr
     obtain ⟨q0,us0,T1,q1,q2,q3,q4,q5⟩:=id hrows
     rw [g1] at q1
     simp only [Option.some.injEq,Obj.cells.injEq,and_true] at q1
     obtain ⟨q1,rfl⟩:=q1
     obtain rfl : us=us0:=by simpa using congrArg Array.toList q1
     have hle : k * sz + n * sz <= es.length * sz:=by rw [<- Nat.add_mul];exact Nat.mul_le_mul_right _ hkn
     obtain ⟨w',Z,e1,e2,e3,e4,e5⟩:=nk (P:=P) (w:=w) (ty:=o.type) hk hz1 hn (cap:=cap) g1 (hO.lt _ _ hω) (o:=(ρ (.n b i0 o0)).base + k * sz) (by rw [hzs,g2];omega)
     rw [hzs] at e2 e3 e4
     have hnew:=hO.new _ _ hω
     have hMb : ∀ p : Addr,p.block=(ρ (.n b i0 o0)).blk -> M p=none:=fun p hp=>hO.apart p (.n b i0 o0) (by rw [hp];exact hω)
     have hh : ∀ p v,M p=some v -> w'.cell? p=some v:=fun p v hp=>by
      have hne : p.block ≠ (ρ (.n b i0 o0)).blk:=fun e=>by rw [hMb p e] at hp;cases hp
      have h8:=h.holds p v hp
      rw [World.cell?_of_block (e5.block _ (World.block_lt_of_cell? w p h8) hne)]
      exact h8
     refine cO (exec _ _ (by rw [hv];exact e1)) ⟨_,_,M,hK,unit b _ M w' (h.fillN hO hf hi0 ho0 (iL hkn) (h.ch.trans e5 (fun k hk e=>by rcases hnew with h7 | h7;rw [e];exact h7;omega)) e5.size hh (.inr ⟨hω,g0,_,T0,e2,by simp;omega,by rw [iL hkn];exact q3,fun e he=>by
      rcases nu he with rfl | he
      ·exact hzs
      ·exact g4 e he,mK (R:=fun d v=>af F M d v) hkn hzs g4 (by rw [g2];exact q3) e3 (fun i off c hi hc=>by
       obtain ⟨u,k1,k2⟩:=e4 i off c hi hc
       exact ⟨u,k1,k2 F M⟩) q5⟩) (fun k q hk hq=>e5.block k (hO.lt _ _ hk) (by rintro rfl;rw [hω] at hk;cases hk;exact hq rfl)))⟩
  ·exact hr.elim
 ·exact hr.elim
end
end Go.Gv

namespace Go.Gv
open Go.RowKit
section
variable {P : Program} {F : Fid} {C : Nat -> List D -> D -> List D -> Prop} {nt : Nat} {S : Nat -> Prop} {L : Nat -> Option Loc} {w0 : World} {M0 : Mem} {f : Nat -> D} {M M' : Mem} {a : Act} {w w' : World} {o : Oper} {d : D} {Q : Exit -> Act -> World -> Prop} {ρ ρ' : Pa -> Loc} {ω ω' : Nat -> Option Pa} {New : Nat -> Prop} {K : List (Nat × D) -> List (Nat × Bool) -> Prop}
theorem kG (p : Pa) : bT p.root true p=true:=by cases p <;> simp [bT,Pa.root]
theorem iZ {t i b : Nat} {x d : D} (h : (b,x) ∈ cC t i d) : b=rt t i /\ ∃ sz es,x=.blk sz es /\ ∀ t',(rt t' i,x) ∈ cC t' i d:=by
 cases d <;> simp only [cC,List.mem_cons,List.not_mem_nil,or_false,Prod.mk.injEq] at h
 all_goals exact ⟨h.1,_,_,h.2,fun t'=>by rw [h.2];simp [cC]⟩
theorem i4 {t b : Nat} {x : D} : ∀ {ds : List D} {i : Nat},(b,x) ∈ bD t i ds -> ∃ j,i <= j /\ j < i + ds.length /\ b=rt t j /\ ∃ sz es,x=.blk sz es /\ ∀ t',(rt t' j,x) ∈ bD t' i ds
 | [],_,h=>by simp [bD] at h
 | d::ds,i,h=>by
  simp only [bD,List.mem_append] at h
  rcases h with h | h
  ·obtain ⟨e,sz,es,e2,h2⟩:=iZ h
   exact ⟨i,Nat.le_refl _,by simp,e,sz,es,e2,fun t'=>by simp only [bD,List.mem_append];exact .inl (h2 t')⟩
  ·obtain ⟨j,h1,h2,e,sz,es,e2,h3⟩:=i4 h
   exact ⟨j,by omega,by simp;omega,e,sz,es,e2,fun t'=>by simp only [bD,List.mem_append];exact .inr (h3 t')⟩
theorem fz {t b : Nat} {x y : D} : ∀ {ds : List D} {i : Nat},(b,x) ∈ bD t i ds -> (b,y) ∈ bD t i ds -> x=y
 | [],_,h,_=>by simp [bD] at h
 | d::ds,i,h,h'=>by
  simp only [bD,List.mem_append] at h h'
  have far : ∀ {z : D},(b,z) ∈ bD t (i + 1) ds -> b ≠ rt t i:=fun hz e=>by
   obtain ⟨j,h1,_,e2,_⟩:=i4 hz
   rw [e] at e2
   unfold rt at e2
   omega
  rcases h with h | h <;> rcases h' with h' | h'
  ·cases d <;> simp only [cC,List.mem_cons,List.not_mem_nil,or_false,Prod.mk.injEq] at h h'
   all_goals rw [h.2,h'.2]
  ·exact absurd (iZ h).1 (far h')
  ·exact absurd (iZ h').1 (far h)
  ·exact fz h h'
theorem rn {b : Nat} {x : D} : ∀ {l : List (Nat × D)},(∀ y,(b,y) ∈ l -> y=x) -> (b,x) ∈ l -> l.lookup b=some x
 | [],_,h=>by simp at h
 | (c,y)::l,hu,h=>by
  by_cases e : b=c
  ·subst e
   rw [hu y (by simp)]
   simp
  ·have e1 : (b == c)=false:=by simpa using e
   simp only [List.lookup_cons,e1]
   refine rn (fun y hy=>hu y (by simp [hy])) ?_
   rcases List.mem_cons.1 h with h | h
   ·cases h;exact absurd rfl e
   ·exact h
theorem qn {b : Nat} : ∀ {l : List (Nat × D)},(∀ y,(b,y) ∉ l) -> l.lookup b=none
 | [],_=>rfl
 | (c,y)::l,h=>by
  have e : b ≠ c:=fun e=>h y (by simp [e])
  have e1 : (b == c)=false:=by simpa using e
  simp only [List.lookup_cons,e1]
  exact qn fun y hy=>h y (by simp [hy])
theorem sq {t i : Nat} {d : D} {v : Value} (h : ar F M ρ (fm 0 i d) v) (he : ∀ x,(rt 0 i,x) ∈ cC 0 i d -> ρ' (.r (rt t i))=ρ (.r (rt 0 i))) (hp : ∀ p k n,d ≠ .ref p k n) (hp2 : ∀ p k n,d ≠ .adr p k n) (hp3 : ∀ b,d ≠ .mrf b) : ar F M ρ' (fm t i d) v:=by
 cases d
 case own sz es =>
  have e:=he (.blk sz es) (by simp [cC])
  simp only [fm,ar] at h ⊢
  rw [e];exact h
 case blk sz es =>
  have e:=he (.blk sz es) (by simp [cC])
  simp only [fm,ar] at h ⊢
  rw [e];exact h
 case ref p k n=>exact absurd rfl (hp p k n)
 case adr p k n=>exact absurd rfl (hp2 p k n)
 case mrf b=>exact absurd rfl (hp3 b)
 all_goals exact h
theorem ir {t : Nat} : ∀ {ds : List D} {i : Nat} {vs : List Value},cS F M ρ (bK 0 i ds) vs -> (∀ j x,(rt 0 j,x) ∈ bD 0 i ds -> ρ' (.r (rt t j))=ρ (.r (rt 0 j))) -> (∀ d ∈ ds,uU d=true) -> cS F M ρ' (bK t i ds) vs
 | [],i,vs,h,_,_=>⟨by simpa [bK] using h.1,fun j d v h1=>by simp [bK] at h1⟩
 | d::ds,i,[],h,_,_=>by have:=h.1;simp [bK] at this
 | d::ds,i,v::vs,h,he,hk=>by
  have hd:=hk d (by simp)
  have ih:=ir (t:=t) (ds:=ds) (i:=i + 1) (vs:=vs) ⟨by have:=h.1;simpa [bK] using this,fun j d' v' h1 h2=>h.2 (j + 1) d' v' (by simpa [bK] using h1) (by simpa using h2)⟩ (fun j x hx=>he j x (by simp only [bD,List.mem_append];exact .inr hx)) (fun d' hd'=>hk d' (by simp [hd']))
  refine ⟨by have:=ih.1;simp [bK,this],fun j d' v' h1 h2=>?_⟩
  cases j with
  | zero =>
   simp only [bK,List.getElem?_cons_zero,Option.some.injEq] at h1 h2
   subst h1 h2
   exact sq (h.2 0 _ _ (by simp [bK]) rfl) (fun x hx=>he i x (by simp only [bD,List.mem_append];exact .inl hx)) (fun p k n e=>by rw [e] at hd;cases hd) (fun p k n e=>by rw [e] at hd;cases hd) (fun b e=>by rw [e] at hd;cases hd)
  | succ j=>exact ih.2 j d' v' (by simpa [bK] using h1) (by simpa using h2)
theorem fX {t b : Nat} {x R : D} (hok : okR R=true) (h : (b,x) ∈ aO t R) : ∃ j,1 <= j /\ j <= 14 /\ b=rt t j /\ ∃ sz es,x=.blk sz es /\ ∀ t',(rt t' j,x) ∈ aO t' R:=by
 obtain ⟨j,h1,h2,h3,h4⟩:=i4 h
 refine ⟨j,h1,?_,h3,h4⟩
 have : (hG R).length <= 14:=by
  cases R <;> simp only [okR,Bool.and_eq_true,decide_eq_true_eq,Bool.false_eq_true] at hok <;> first | exact hok.1 | simp [hG]
 omega
theorem sB {R : D} (hok : okR R=true) : ∀ d ∈ hG R,uU d=true:=by
 cases R <;> simp only [okR,Bool.and_eq_true,Bool.false_eq_true,List.all_eq_true] at hok <;> first | exact hok.2 | (intro d hd;simp only [hG,List.mem_cons,List.not_mem_nil,or_false] at hd;subst hd;rfl)
theorem sN (hC : bU P F C) (h : SR F nt S L w0 M0 f M a w) (hL : ∀ t i,i < 15 -> L (rt t i)=none) {t : Nat} (hd : o.dst=some t) (ht : t < nt) {g fi : Nat} {xs : List Opd} {ys : Array Operand} {ts : Array TypeId} (ho : o.op=.call { callee:=.value (.func fi),args:=ys,argTypes:=ts }) (hx : bV F xs ys.toList=true)
  (hg : F g=some fi) (hr : (∀ x ∈ xs,isV (vd f x)=true) /\ ∃ R,okR R=true /\ C g (xs.map (vd f)) R [.nils] /\ K ((t,dy t R)::aO t R) (de t R)) : o.wp P a w (PostX F nt S L w0 M0 f K) Q:=by
 obtain ⟨hxs,R,hok,hc,hK⟩:=hr
 have hrun : (execOp a.eval o).run P w=(callFunc fi (ys.toList.map a.eval).toArray).run P w:=by
  simp only [execOp,ho,resolve,Act.eval,Deferred.ofValue,Sem.run_bind,Sem.run_pure,Result.andThen_ok,invoke]
  congr 2
  rw [Array.append_empty,Array.empty_append]
  apply Array.ext'
  simp
 have hrep : ap F M (xs.map (vd f)) (ys.toList.map a.eval):=by
  have h1:=fg h hx (by rw [List.all_eq_true];exact hxs)
  rwa [List.map_congr_left (g:=vd f) fun x hx'=>by unfold dpv;exact (ip (hxs x hx')).1] at h1
 obtain ⟨ρ,ω,hO⟩:=h.own
 have ht10 : t < 10000:=Nat.lt_of_lt_of_le ht h.hnt
 unfold Oper.wp
 rw [hrun,bI (hC.body g fi hg),Oper.upon_enter]
 refine (hC.runsA g fi _ R hg hc M w _ h.holds hrep).mono ?_
 rintro e w' ⟨v,M',ρ',ω',us,rfl,hb,hM,hfr,hh,hsh,hrl,hroot,hω',hap'⟩
 rw [hd]
 refine ⟨_,_,M',hK,?_⟩
 have mem : ∀ b,((aO t R).any fun q=>q.1 == b)=true ↔ ∃ x,(b,x) ∈ aO t R:=fun b=>by
  simp only [List.any_eq_true,beq_iff_eq]
  constructor
  ·rintro ⟨⟨c,x⟩,h1,rfl⟩;exact ⟨x,h1⟩
  ·rintro ⟨x,h1⟩;exact ⟨(b,x),h1,rfl⟩
 obtain ⟨ρ2,hρ2⟩ : ∃ ρ2 : Pa -> Loc,ρ2=fun p=>if ((aO t R).any fun q=>q.1 == p.root)=true then ρ' (p.to (p.root - 16 * t)) else ρ p:=⟨_,rfl⟩
 obtain ⟨ω2,hω2⟩ : ∃ ω2 : Nat -> Option Pa,ω2=fun k=>match ω' k with
  | some q=>some (q.to (q.root + 16 * t))
  | none=>match ω k with
   | some p=>if ((aO t R).any fun q=>q.1 == p.root)=true then none else some p
   | none=>none:=⟨_,rfl⟩
 have r1 : ∀ p : Pa,(∃ x,(p.root,x) ∈ aO t R) -> ρ2 p=ρ' (p.to (p.root - 16 * t)):=fun p hp=>by rw [hρ2];simp only [(mem _).2 hp,if_true]
 have r2 : ∀ p : Pa,¬ (∃ x,(p.root,x) ∈ aO t R) -> ρ2 p=ρ p:=fun p hp=>by
  rw [hρ2]
  have : ¬ ((aO t R).any fun q=>q.1 == p.root)=true:=fun e=>hp ((mem _).1 e)
  simp only [if_neg this]
 have o1 : ∀ k q,ω' k=some q -> ω2 k=some (q.to (q.root + 16 * t)):=fun k q e=>by rw [hω2];simp only [e]
 have oldnew : ∀ k p q,ω k=some p -> ω' k ≠ some q:=fun k p q e e'=>by
  have:=hO.lt k p e
  have:=(hω' k q e').1
  omega
 have o2 : ∀ k p,ω k=some p -> ¬ (∃ x,(p.root,x) ∈ aO t R) -> ω2 k=some p:=fun k p e hp=>by
  have e1 : ω' k=none:=by
   cases e2 : ω' k with
   | none=>rfl
   | some q=>exact absurd e2 (oldnew k p q e)
  have : ¬ ((aO t R).any fun q=>q.1 == p.root)=true:=fun e=>hp ((mem _).1 e)
  rw [hω2];simp only [e1,e,if_neg this]
 have o3 : ∀ k p,ω2 k=some p -> (∃ q,ω' k=some q) \/ ω k=some p:=fun k p e=>by
  rw [hω2] at e
  simp only at e
  cases e1 : ω' k with
  | some q=>exact .inl ⟨q,rfl⟩
  | none =>
   rw [e1] at e
   simp only at e
   cases e2 : ω k with
   | none=>rw [e2] at e;cases e
   | some p' =>
    rw [e2] at e
    simp only at e
    split at e
    ·cases e
    ·cases e;exact .inr rfl
 have hshift : ∀ j x,(rt 0 j,x) ∈ aO 0 R -> ρ2 (.r (rt t j))=ρ' (.r (rt 0 j)):=fun j x hx=>by
  obtain ⟨j',h1,h2,h3,sz,es,h4,h5⟩:=fX hok hx
  have ej : j=j':=by unfold rt at h3;omega
  subst ej
  rw [r1 (.r (rt t j)) ⟨x,h5 t⟩]
  show ρ' (.r (rt t j - 16 * t))=_
  have : rt t j - 16 * t=rt 0 j:=by unfold rt;omega
  rw [this]
 have lkn : ∀ s,s ≠ t -> ¬ (∃ x,(s,x) ∈ aO t R) -> ((t,dy t R)::aO t R).lookup s=none:=fun s h1 h2=>by
  have e1 : (s == t)=false:=by simpa using h1
  simp only [List.lookup_cons,e1]
  exact qn fun y hy=>h2 ⟨y,hy⟩
 have small : ∀ s,s < 10000 -> ¬ (∃ x,(s,x) ∈ aO t R):=fun s hs ⟨x,hx⟩=>by
  obtain ⟨j,_,_,h3,_⟩:=fX hok hx
  unfold rt at h3;omega
 refine ⟨h.hnt,by simp [Act.put,h.size],by simp [Act.put,h.defers],h.ch.trans (Ch.of_below hb (fun _=>False)) (fun _ _ e=>e.elim),hh,Mem.le_trans h.ext hM,fun p h1 h2=>?_,ρ2,ω2,hO.step (ks:=de t R) (fun p hp=>?_) hM hb.size (fun s hs=>?_) (fun c hc=>?_) (fun k p e=>?_) (fun p q e=>?_) (fun c l hc hl hB=>?_)⟩
 ·by_cases e : M p=none
  ·exact .inr (Nat.le_trans h.ch.size (hfr p e h2))
  ·exact h.fresh p h1 e
 ·by_cases e : ∃ x,(p.root,x) ∈ aO t R
  ·obtain ⟨x,hx⟩:=e
   exact ⟨(p.root,true),List.mem_map.2 ⟨_,hx,rfl⟩,kG p⟩
  ·exact absurd (r2 p e) hp
 ·by_cases e : s=t
  ·right
   subst e
   have e1 : eff ((s,dy s R)::aO s R) (de s R) f s=dy s R:=aK (by simp)
   refine .inr ⟨v,getElem?_put_same (by rw [h.size];exact ht),?_⟩
   rw [e1]
   have hp:=sB hok
   cases R <;> simp only [okR,Bool.false_eq_true] at hok
   case agg ds=>exact ⟨us,hsh,ir hrl (fun j x hx=>hshift j x hx) hp⟩
   case tup ds=>exact ⟨us,hsh,ir hrl (fun j x hx=>hshift j x hx) hp⟩
   all_goals
    have h3:=ir (t:=s) hrl (fun j x hx=>hshift j x hx) hp
    simp only [qE] at hsh
    subst hsh
    have h4:=h3.2 0 _ v rfl rfl
    exact h4
  ·left
   rcases bx (f:=f) (ks:=de t R) (lkn s e (small s hs)) with h1 | h1
   ·exact .inl h1
   ·exact .inr ⟨h1.1,getElem?_put e,h1.2⟩
 ·by_cases e : ∃ x,(c,x) ∈ aO t R
  ·obtain ⟨x,hx⟩:=e
   obtain ⟨j,h1,h2,h3,sz,es,rfl,h5⟩:=fX hok hx
   right
   have hct : (c == t)=false:=by simp;omega
   have hlk : ((t,dy t R)::aO t R).lookup c=some (.blk sz es):=by
    simp only [List.lookup_cons,hct]
    exact rn (fun y hy=>(fz hx hy).symm) hx
   have ec : c - 16 * t=rt 0 j:=by rw [h3];unfold rt;omega
   have ec2 : rt 0 j + 16 * t=c:=by rw [h3];unfold rt;omega
   refine .inl ⟨sz,es,aK hlk,(hroot (rt 0 j) sz es (h5 0)).carry (Mem.le_refl _) (fun p hp=>?_)⟩
   refine ⟨?_,fun e2=>⟨?_,rfl⟩⟩
   ·rw [r1 _ ⟨_,by rw [Pa.to_root];exact hx⟩,Pa.to_root,ec,Pa.to_to (rt 0 j) c p hp]
   ·rw [o1 _ _ e2,hp,ec2]
  ·left
   rcases bJ (f:=f) (ks:=de t R) (lkn c (by omega) e) with h1 | h1
   ·exact .inl h1
   ·refine .inr ⟨h1,fun p hp=>?_⟩
    have hpe : ¬ (∃ x,(p.root,x) ∈ aO t R):=by rw [hp];exact e
    exact ⟨r2 p hpe,fun hw=>⟨o2 _ _ hw hpe,hb.block _ (hO.lt _ _ hw)⟩⟩
 ·rcases o3 k p e with ⟨q,e1⟩ | e1
  ·exact .inr ⟨(hω' k q e1).2.1,.inr (Nat.le_trans h.ch.size (hω' k q e1).1)⟩
  ·exact .inl ⟨p,e1⟩
 ·rcases o3 _ q e with ⟨q',e1⟩ | e1
  ·exact hap' p q' e1
  ·cases e3 : M' p with
   | none=>rfl
   | some u =>
    have h1:=hfr p (hO.apart p q e1) (by rw [e3];simp)
    have:=hO.lt _ _ e1
    omega
 ·by_cases e : ∃ x,(c,x) ∈ aO t R
  ·obtain ⟨x,hx⟩:=e
   obtain ⟨j,h1,h2,h3,_⟩:=fX hok hx
   rw [h3,hL t j (by omega)] at hl;cases hl
  ·have hpe : ¬ (∃ x,((Pa.r c).root,x) ∈ aO t R):=e
   refine ⟨r2 _ hpe,?_⟩
   rcases bJ (f:=f) (ks:=de t R) (lkn c (by omega) e) with h1 | h1
   ·rw [hB] at h1;cases h1
   ·rw [<- h1];exact hB
end
end Go.Gv

namespace Go.Gv
section
variable {P : Program} {F : Fid} {C : Nat -> List D -> D -> List D -> Prop} {nt : Nat} {S : Nat -> Prop} {L : Nat -> Option Loc} {w0 : World} {M0 : Mem} {f : Nat -> D} {M : Mem} {a : Act} {w : World} {o : Oper} {d : D} {Q : Exit -> Act -> World -> Prop} {ρ : Pa -> Loc} {ω : Nat -> Option Pa} {New : Nat -> Prop} {K : List (Nat × D) -> List (Nat × Bool) -> Prop}
theorem SR.frzS (h : SR F nt S L w0 M0 f M a w) {t : Nat} (ht : t < nt) {c : Nat} (hc : 10000 <= c) {cs : List D} {v : Value}
  (hv : ∀ ρ ω,Own F L (fun k=>S k \/ w0.heap.size <= k) f M a w ρ ω -> af F (bf (cZ ω c) M w) (.agg cs) v) :
  ∃ M',SR F nt S L w0 M0 (eff [(t,.agg cs),(c,.any)] [] f) M' (a.put (some t) v) w:=by
 obtain ⟨ρ,ω,hO⟩:=h.own
 have hnt:=h.hnt
 have hsz:=h.size
 have hO1:=hO.only hc
 have hr:=hv ρ ω hO
 have hle : M.le (bf (cZ ω c) M w):=ce hO1
 have hE:=hO.erase hc
 have hf' : ∀ s,eff [(t,.agg cs),(c,.any)] [] f s=if s=t then .agg cs else fbE f c s:=fun s=>by
  unfold eff fbE
  by_cases e : s=t
  ·subst e;simp
  ·have b1 : (s == t)=false:=by simpa using e
   by_cases e2 : s=c
   ·subst e2
    simp only [List.lookup,b1,beq_self_eq_true,if_neg e,if_true]
   ·have b2 : (s == c)=false:=by simpa using e2
    simp only [List.lookup,b1,b2,if_neg e,if_neg e2]
    simp [aD]
 refine ⟨bf (cZ ω c) M w,⟨hnt,by simp [Act.put,hsz],by simp [Act.put,h.defers],h.ch,bQ h.holds,Mem.le_trans h.ext hle,fun p h1 h2=>?_,ρ,fT ω c,?_⟩⟩
 ·by_cases e : M p=none
  ·unfold bf at h2
   split at h2
   ·rename_i q hq
    exact hO.new _ _ (cJ hq).1
   ·exact absurd e h2
  ·exact h.fresh p h1 e
 ·refine hE.step (ks:=[]) (fun p hp=>absurd rfl hp) hle (Nat.le_refl _) (fun s hs=>?_) (fun b hb=>?_) (fun k p e=>.inl ⟨p,e⟩) (fun p q e=>?_) (fun b l hb hl hB=>?_)
  ·rw [hf']
   by_cases e : s=t
   ·subst e
    rw [if_pos rfl]
    refine .inr (.inr ⟨v,by simp [Act.put,hsz,ht],?_⟩)
    rw [hf',if_pos rfl,am rfl]
    exact hr
   ·rw [if_neg e]
    refine .inl (.inr ⟨rfl,?_,by simp [aD]⟩)
    simp [Act.put,Array.getElem?_setIfInBounds,Ne.symm e]
  ·have : b ≠ t:=by omega
   rw [hf',if_neg this]
   exact .inl (.inr ⟨rfl,fun p hp=>⟨rfl,fun hw=>⟨hw,rfl⟩⟩⟩)
  ·obtain ⟨e2,e3⟩:=dZ e
   have e4 : cZ ω c p.block=none:=by
    simp only [cZ,e2,if_neg e3]
   simp only [bf,e4]
   exact hO.apart p q e2
  ·have : b ≠ t:=by omega
   rw [hf',if_neg this] at hB
   exact ⟨rfl,hB⟩
theorem pR {v : Value} (h : af F M d v) : aR d=d:=by
 cases d <;> first | rfl | (simp [af] at h)
theorem rY (hO : Own F L New f M a w ρ ω) {c : Nat} (hc : 10000 <= c) {sz : Nat} {es : List (List D)} (hg : f c=.blk sz es) {i : Nat} {r : List D} (hi : es[i]? = some r) {off : Nat} (ho : r[off]? = some d) {v : Value} (h : bR F M ω ρ w c i off d v) : af F (bf (cZ ω c) M w) (aR d) v:=by
 have hO1:=hO.only hc
 cases d
 case own sz' rr =>
  obtain ⟨h1,h2⟩:=h
  have hcc : fcE f c c=f c:=by simp [fcE]
  have e1 : aT (fcE f c) (.n c i off)=some (sz',rr):=by simp only [aT,hcc,hg,hi,Option.getD_some,ho]
  have h3:=gN hO1 h1 (by simp only [aP,e1];omega)
  simp only [dp1,e1,List.drop_zero,List.take_length] at h3
  have h4 : rr.map (fun e=>e.map aR)=rr:=by
   rcases h2 with ⟨h2,_⟩ | ⟨_,_,vs,T,_,_,_,_,h5⟩
   ·rw [h2];rfl
   ·conv=>rhs;rw [<- List.map_id rr]
    refine List.map_congr_left fun e he=>?_
    conv=>rhs;rw [id_eq,<- List.map_id e]
    refine List.map_congr_left fun x hx=>?_
    obtain ⟨i',hi'⟩:=List.getElem?_of_mem he
    obtain ⟨o',ho'⟩:=List.getElem?_of_mem hx
    obtain ⟨u,_,hu⟩:=h5 i' e o' x hi' ho'
    exact pR hu
  rw [h4] at h3
  exact h3
 all_goals exact af.mono (ce hO1) _ _ h
theorem yn (h : SR F nt S L w0 M0 f M a w) {t0 : Nat} (hd : o.dst=some t0) (ht : t0 < nt) {n : Nat} {x : Opd} {x' : Operand} {t : TypeId} (ho : o.op=.load t x') (hx : aj F x x'=true) (hk : tyS P t n true=true)
  (hr : match vd f x with
   | .adr (.r c) i off=>match f c with
    | .blk _ es=>∃ r,es[i]? = some r /\ off + n <= r.length /\ K [(t0,.agg (((r.drop off).take n).map aR)),(c,.any)] []
    | _=>False
   | _=>False) : o.wp P a w (PostX F nt S L w0 M0 f K) Q:=by
 split at hr
 ·rename_i c i off ex
  split at hr
  ·rename_i sz es hg
   obtain ⟨r,hi,hn,hK⟩:=hr
   have gp : aT f (.r c)=some (sz,es):=by simp only [aT,hg]
   obtain ⟨ρ0,ω0,hO0⟩:=h.own
   have hc : 10000 <= c:=bY hO0 gp
   have run : ∃ v,(execOp a.eval o).run P w=.ok (.value v) w /\ ∀ ρ ω,Own F L (fun k=>S k \/ w0.heap.size <= k) f M a w ρ ω -> af F (bf (cZ ω c) M w) (.agg (((r.drop off).take n).map aR)) v:=by
    have one : ∀ ρ ω,Own F L (fun k=>S k \/ w0.heap.size <= k) f M a w ρ ω -> ∃ v,(execOp a.eval o).run P w=.ok (.value v) w /\ af F (bf (cZ ω c) M w) (.agg (((r.drop off).take n).map aR)) v:=by
     intro ρ ω hO
     have g1:=hO.opd hx
     rw [ex,am rfl] at g1
     simp only [ar] at g1
     obtain ⟨vs,T,hω,h0,hl,h1,h2,h3,h4⟩:=hO.row (p:=.r c) hc gp hi
     rw [h0] at g1
     have hcells : ∀ j v,(vs.drop ((ρ (.r c)).base + i * sz + off))[j]? = some v -> w.cell? ((⟨(ρ (.r c)).blk,(ρ (.r c)).base + i * sz + off,none⟩ : Addr).add j)=some v:=by
      intro j v hj
      rw [cA]
      rw [List.getElem?_drop] at hj
      simp [World.cell?,h1,hj]
     refine ⟨.agg ((vs.drop ((ρ (.r c)).base + i * sz + off)).take n).toArray,by simp only [execOp,ho,g1,Sem.run_bind,c9 hk hcells (by simp;omega),Result.andThen_ok,Sem.run_pure,if_true],?_⟩
     simp only [af]
     refine ⟨_,rfl,ap.of_forall' (by simp only [List.length_map,List.length_take,List.length_drop];omega) (fun j d v k1 k2=>?_)⟩
     rw [List.getElem?_map,Option.map_eq_some_iff] at k1
     obtain ⟨d',k1,rfl⟩:=k1
     have hj : j < n:=by
      have:=(List.getElem?_eq_some_iff.1 k1).1
      simp only [List.length_take] at this;omega
     rw [List.getElem?_take_of_lt hj,List.getElem?_drop] at k1 k2
     obtain ⟨v',k3,k4⟩:=h4 _ _ k1
     rw [Nat.add_assoc,k3] at k2
     cases k2
     exact rY hO hc hg hi k1 k4
    obtain ⟨v,hv,_⟩:=one ρ0 ω0 hO0
    refine ⟨v,hv,fun ρ ω hO=>?_⟩
    obtain ⟨v',hv',h2⟩:=one ρ ω hO
    rw [hv] at hv'
    cases hv'
    exact h2
   obtain ⟨v,hv,hrep⟩:=run
   obtain ⟨M',hs⟩:=h.frzS ht hc hrep
   exact cO hv (by rw [hd];exact ⟨_,_,M',hK,hs⟩)
  ·exact hr.elim
 ·exact hr.elim
end
end Go.Gv
namespace Go.Gv
section
variable {P : Program} {F : Fid} {C : Nat -> List D -> D -> List D -> Prop} {nt : Nat} {S : Nat -> Prop} {L : Nat -> Option Loc} {w0 : World} {M0 : Mem} {f : Nat -> D} {M : Mem} {a : Act} {w : World} {o : Oper} {d : D} {Q : Exit -> Act -> World -> Prop} {ρ : Pa -> Loc} {ω : Nat -> Option Pa} {New : Nat -> Prop} {K : List (Nat × D) -> List (Nat × Bool) -> Prop}
theorem lB {t : Nat} : ∀ {ds : List D} {i j : Nat},(bK t i ds)[j]? = (ds[j]?).map (fm t (i + j))
 | [],i,j=>by simp [bK]
 | d::ds,i,j=>by
  cases j with
  | zero=>simp [bK]
  | succ j =>
   simp only [bK,List.getElem?_cons_succ]
   rw [lB,show i + 1 + j=i + (j + 1) by omega]
theorem lC {t : Nat} : ∀ {ds : List D} {i : Nat},(bK t i ds).length=ds.length
 | [],i=>rfl
 | d::ds,i=>by simp [bK,lC]
theorem kD {t b : Nat} {x : D} : ∀ {ds : List D} {i : Nat},(b,x) ∈ bD t i ds -> ∃ j d,ds[j]? = some d /\ (b,x) ∈ cC t (i + j) d
 | [],i,h=>by simp [bD] at h
 | d::ds,i,h=>by
  simp only [bD,List.mem_append] at h
  rcases h with h | h
  ·exact ⟨0,d,by simp,h⟩
  ·obtain ⟨j,d',h1,h2⟩:=kD h
   exact ⟨j + 1,d',by simpa using h1,by rwa [show i + (j + 1)=i + 1 + j by omega]⟩
theorem kE {t b : Nat} {x : D} : ∀ {ds : List D} {i j : Nat} {d : D},ds[j]? = some d -> (b,x) ∈ cC t (i + j) d -> (b,x) ∈ bD t i ds
 | [],i,j,d,h,_=>by simp at h
 | d0::ds,i,j,d,h,hx=>by
  simp only [bD,List.mem_append]
  cases j with
  | zero=>simp at h;subst h;exact .inl hx
  | succ j=>exact .inr (kE (j:=j) (by simpa using h) (by rwa [show i + (j + 1)=i + 1 + j by omega] at hx))
theorem lE {t j sz : Nat} {ds : List D} {es : List (List D)} (h : ds[j]? = some (.own sz es)) : (rt t (1 + j),D.blk sz es) ∈ bD t 1 ds:=kE h (by simp [cC])
theorem SR.unpack (h : SR F nt S L w0 M0 f M a w) (hL : ∀ t i,i < 15 -> L (rt t i)=none) {t : Nat} (ht : t < nt) {c sz : Nat} {row : List D} (hg : f c=.blk sz [row]) (hok : okR (.agg row)=true) (hcn : ∀ x,(c,x) ∉ aO t (.agg row)) {v : Value}
  (hv : ∀ ρ ω,Own F L (fun k=>S k \/ w0.heap.size <= k) f M a w ρ ω -> ∃ vs : List Value,v=.agg vs.toArray /\ vs.length=row.length /\ ∀ (j : Nat) (d : D) (u : Value),row[j]? = some d -> vs[j]? = some u -> bR F M ω ρ w c 0 j d u) :
  SR F nt S L w0 M0 (eff ((t,dy t (.agg row))::(c,.any)::aO t (.agg row)) (de t (.agg row)) f) M (a.put (some t) v) w:=by
 obtain ⟨ρ,ω,hO⟩:=h.own
 obtain ⟨vs,hv1,hv2,hv3⟩:=hv ρ ω hO
 have hc10 : 10000 <= c:=hO.big hg
 have ht10 : t < 10000:=Nat.lt_of_lt_of_le ht h.hnt
 have hct0 : c ≠ t:=by omega
 obtain ⟨R,hR⟩ : ∃ R,R=D.agg row:=⟨_,rfl⟩
 rw [<- hR] at hok hcn ⊢
 have mem : ∀ b,((aO t R).any fun q=>q.1 == b)=true ↔ ∃ x,(b,x) ∈ aO t R:=fun b=>by
  simp only [List.any_eq_true,beq_iff_eq]
  constructor
  ·rintro ⟨⟨c,x⟩,h1,rfl⟩;exact ⟨x,h1⟩
  ·rintro ⟨x,h1⟩;exact ⟨(b,x),h1,rfl⟩
 have inR : ∀ j sz es,row[j]? = some (.own sz es) -> (rt t (1 + j),D.blk sz es) ∈ aO t R:=fun j sz es hj=>by
  rw [hR];exact lE hj
 have ofR : ∀ b x,(b,x) ∈ aO t R -> ∃ j sz es,b=rt t (1 + j) /\ row[j]? = some (.own sz es) /\ x=.blk sz es:=fun b x hx=>by
  rw [hR] at hx
  obtain ⟨j,d,hj,hd⟩:=kD hx
  have hj' : j < vs.length:=by rw [hv2];exact (List.getElem?_eq_some_iff.1 hj).1
  have hcell:=hv3 j d _ hj (List.getElem?_eq_getElem hj')
  cases d <;> simp only [cC,List.mem_cons,List.not_mem_nil,or_false,Prod.mk.injEq] at hd
  case own sz es=>exact ⟨j,sz,es,hd.1,hj,hd.2⟩
  case blk sz es=>simp [bR,af] at hcell
 obtain ⟨ρ2,hρ2⟩ : ∃ ρ2 : Pa -> Loc,ρ2=fun p=>match p with
  | .r b=>if ((aO t R).any fun q=>q.1 == b)=true then ρ (.n c 0 (b - rt t 1)) else ρ p
  | .n _ _ _=>ρ p:=⟨_,rfl⟩
 obtain ⟨ω2,hω2⟩ : ∃ ω2 : Nat -> Option Pa,ω2=fun k=>match ω k with
  | some p=>if p.root=c then (match p with
    | .n _ i o=>if i=0 /\ ((aO t R).any fun q=>q.1 == rt t (1 + o))=true then some (.r (rt t (1 + o))) else none
    | .r _=>none) else if ((aO t R).any fun q=>q.1 == p.root)=true then none else some p
  | none=>none:=⟨_,rfl⟩
 have r1 : ∀ j x,(rt t (1 + j),x) ∈ aO t R -> ρ2 (.r (rt t (1 + j)))=ρ (.n c 0 j):=fun j x hx=>by
  rw [hρ2];simp only [(mem _).2 ⟨x,hx⟩,if_true]
  have : rt t (1 + j) - rt t 1=j:=by unfold rt;omega
  rw [this]
 have r2 : ∀ p : Pa,¬ (∃ x,(p.root,x) ∈ aO t R) -> ρ2 p=ρ p:=fun p hp=>by
  rw [hρ2]
  cases p with
  | r b =>
   have : ¬ ((aO t R).any fun q=>q.1 == b)=true:=fun e=>hp ((mem _).1 e)
   simp only [if_neg this]
  | n b i o=>rfl
 have o1 : ∀ k j x,ω k=some (.n c 0 j) -> (rt t (1 + j),x) ∈ aO t R -> ω2 k=some (.r (rt t (1 + j))):=fun k j x e hx=>by
  rw [hω2];simp only [e,Pa.root,if_true,(mem _).2 ⟨x,hx⟩,and_self]
 have o2 : ∀ k p,ω k=some p -> p.root ≠ c -> ¬ (∃ x,(p.root,x) ∈ aO t R) -> ω2 k=some p:=fun k p e hpc hp=>by
  have : ¬ ((aO t R).any fun q=>q.1 == p.root)=true:=fun e=>hp ((mem _).1 e)
  rw [hω2];simp only [e,if_neg hpc,if_neg this]
 have o3 : ∀ k p,ω2 k=some p -> ∃ q,ω k=some q:=fun k p e=>by
  rw [hω2] at e
  simp only at e
  cases e1 : ω k with
  | some q=>exact ⟨q,rfl⟩
  | none=>rw [e1] at e;cases e
 have lkn : ∀ s,s ≠ t -> s ≠ c -> ¬ (∃ x,(s,x) ∈ aO t R) -> ((t,dy t R)::(c,D.any)::aO t R).lookup s=none:=fun s h1 h2 h3=>by
  have e1 : (s == t)=false:=by simpa using h1
  have e2 : (s == c)=false:=by simpa using h2
  simp only [List.lookup_cons,e1,e2]
  exact qn fun y hy=>h3 ⟨y,hy⟩
 have small : ∀ s,s < 10000 -> ¬ (∃ x,(s,x) ∈ aO t R):=fun s hs ⟨x,hx⟩=>by
  obtain ⟨j,_,_,h3,_⟩:=ofR s x hx
  unfold rt at h3;omega
 refine ⟨h.hnt,by simp [Act.put,h.size],by simp [Act.put,h.defers],h.ch,h.holds,h.ext,h.fresh,ρ2,ω2,hO.step (ks:=de t R) (fun p hp=>?_) (Mem.le_refl _) (Nat.le_refl _) (fun s hs=>?_) (fun b hb=>?_) (fun k p e=>.inl (o3 k p e)) (fun p q e=>?_) (fun b l hb hl hB=>?_)⟩
 ·by_cases e : ∃ x,(p.root,x) ∈ aO t R
  ·obtain ⟨x,hx⟩:=e
   exact ⟨(p.root,true),List.mem_map.2 ⟨_,hx,rfl⟩,kG p⟩
  ·exact absurd (r2 p e) hp
 ·by_cases e : s=t
  ·right
   subst e
   have e1 : eff ((s,dy s R)::(c,D.any)::aO s R) (de s R) f s=dy s R:=aK (by simp)
   refine .inr ⟨v,getElem?_put_same (by rw [h.size];exact ht),?_⟩
   rw [e1,hR]
   refine ⟨vs,hv1,by rw [lC];exact hv2.symm,fun j d u h1 h2=>?_⟩
   rw [lB,Option.map_eq_some_iff] at h1
   obtain ⟨d',h1,rfl⟩:=h1
   have hcell:=hv3 j d' u h1 h2
   cases d'
   case own sz' es' =>
    simp only [fm,ar]
    rw [r1 j _ (inR j _ _ h1)]
    exact hcell.1
   all_goals first | exact ar.of_pure hcell | (simp [bR,af] at hcell;done)
  ·left
   rcases bx (f:=f) (ks:=de t R) (lkn s e (by omega) (small s hs)) with h1 | h1
   ·exact .inl h1
   ·exact .inr ⟨h1.1,getElem?_put e,h1.2⟩
 ·by_cases e : ∃ x,(b,x) ∈ aO t R
  ·obtain ⟨x,hx⟩:=e
   obtain ⟨j,sz',es',h3,h4,rfl⟩:=ofR b x hx
   right
   have hct : (b == t)=false:=by simp;omega
   have hbc : b ≠ c:=fun e=>hcn _ (e ▸ hx)
   have hct2 : (b == c)=false:=by simpa using hbc
   have hlk : ((t,dy t R)::(c,D.any)::aO t R).lookup b=some (.blk sz' es'):=by
    simp only [List.lookup_cons,hct,hct2]
    exact rn (fun y hy=>(fz hx hy).symm) hx
   refine .inl ⟨sz',es',aK hlk,?_⟩
   have hj' : j < vs.length:=by rw [hv2];exact (List.getElem?_eq_some_iff.1 h4).1
   have hcell:=hv3 j _ _ h4 (List.getElem?_eq_getElem hj')
   subst h3
   have e1:=r1 j _ hx
   unfold dx b5
   rw [e1]
   rcases hcell.2 with h5 | ⟨h5,h6,us,T,g1,g2,g3,g4,g5⟩
   ·exact .inl h5
   ·refine .inr ⟨o1 _ j _ h5 hx,h6,us,T,g1,g2,g3,g4,fun i r off d k1 k2=>?_⟩
    obtain ⟨u,k3,k4⟩:=g5 i r off d k1 k2
    refine ⟨u,k3,?_⟩
    cases d
    case own=>simp [af] at k4
    all_goals exact k4
  ·by_cases ebc : b=c
   ·subst ebc
    refine .inl (.inl ?_)
    have hct : (b == t)=false:=by simp;omega
    rw [aK (d:=.any) (by simp [List.lookup_cons,hct])]
    rfl
   ·left
    rcases bJ (f:=f) (ks:=de t R) (lkn b (by omega) ebc e) with h1 | h1
    ·exact .inl h1
    ·refine .inr ⟨h1,fun p hp=>?_⟩
     have hpe : ¬ (∃ x,(p.root,x) ∈ aO t R):=by rw [hp];exact e
     exact ⟨r2 p hpe,fun hw=>⟨o2 _ _ hw (by rw [hp];exact ebc) hpe,rfl⟩⟩
 ·obtain ⟨q',e1⟩:=o3 _ q e
  exact hO.apart p q' e1
 ·by_cases e : ∃ x,(b,x) ∈ aO t R
  ·obtain ⟨x,hx⟩:=e
   obtain ⟨j,h1,h2,h3,_⟩:=fX hok hx
   rw [h3,hL t j (by omega)] at hl;cases hl
  ·have hct : (b == t)=false:=by simp;omega
   by_cases ebc : b=c
   ·subst ebc
    rw [aK (d:=.any) (by simp [List.lookup_cons,hct])] at hB;cases hB
   ·refine ⟨r2 _ e,?_⟩
    rcases bJ (f:=f) (ks:=de t R) (lkn b (by omega) ebc e) with h1 | h1
    ·rw [hB] at h1;cases h1
    ·rw [<- h1];exact hB
theorem yo (h : SR F nt S L w0 M0 f M a w) (hL : ∀ t i,i < 15 -> L (rt t i)=none) {t0 : Nat} (hd : o.dst=some t0) (ht : t0 < nt) {n : Nat} {x : Opd} {x' : Operand} {t : TypeId} (ho : o.op=.load t x') (hx : aj F x x'=true) (hk : tyS P t n true=true)
  (hr : match vd f x with
   | .adr (.r c) i off=>i=0 /\ off=0 /\ match f c with
    | .blk _ [row]=>row.length=n /\ okR (.agg row)=true /\ (aO t0 (.agg row)).all (fun p=>p.1 != c)=true /\ K ((t0,dy t0 (.agg row))::(c,.any)::aO t0 (.agg row)) (de t0 (.agg row))
    | _=>False
   | _=>False) : o.wp P a w (PostX F nt S L w0 M0 f K) Q:=by
 split at hr
 ·rename_i c i off ex
  obtain ⟨rfl,rfl,hr⟩:=hr
  split at hr
  ·rename_i sz row hg
   obtain ⟨hn,hok,hcn,hK⟩:=hr
   have gp : aT f (.r c)=some (sz,[row]):=by simp only [aT,hg]
   obtain ⟨ρ0,ω0,hO0⟩:=h.own
   have hc : 10000 <= c:=bY hO0 gp
   have run : ∃ v,(execOp a.eval o).run P w=.ok (.value v) w /\ ∀ ρ ω,Own F L (fun k=>S k \/ w0.heap.size <= k) f M a w ρ ω -> ∃ vs : List Value,v=.agg vs.toArray /\ vs.length=row.length /\ ∀ (j : Nat) (d : D) (u : Value),row[j]? = some d -> vs[j]? = some u -> bR F M ω ρ w c 0 j d u:=by
    have one : ∀ ρ ω,Own F L (fun k=>S k \/ w0.heap.size <= k) f M a w ρ ω -> ∃ v,(execOp a.eval o).run P w=.ok (.value v) w /\ ∃ vs : List Value,v=.agg vs.toArray /\ vs.length=row.length /\ ∀ (j : Nat) (d : D) (u : Value),row[j]? = some d -> vs[j]? = some u -> bR F M ω ρ w c 0 j d u:=by
     intro ρ ω hO
     have g1:=hO.opd hx
     rw [ex,am rfl] at g1
     simp only [ar] at g1
     obtain ⟨vs,T,hω,h0,hl,h1,h2,h3,h4⟩:=hO.row (p:=.r c) hc gp (i:=0) (r:=row) rfl
     rw [h0] at g1
     have hcells : ∀ j v,(vs.drop ((ρ (.r c)).base + 0 * sz + 0))[j]? = some v -> w.cell? ((⟨(ρ (.r c)).blk,(ρ (.r c)).base + 0 * sz + 0,none⟩ : Addr).add j)=some v:=by
      intro j v hj
      rw [cA]
      rw [List.getElem?_drop] at hj
      simp only [Nat.zero_mul,Nat.add_zero] at hj
      simp [World.cell?,h1,hj]
     refine ⟨.agg ((vs.drop ((ρ (.r c)).base + 0 * sz + 0)).take n).toArray,by simp only [execOp,ho,g1,Sem.run_bind,c9 hk hcells (by simp;omega),Result.andThen_ok,Sem.run_pure,if_true],_,rfl,by rw [List.length_take,List.length_drop];omega,fun j d u k1 k2=>?_⟩
     have hj : j < n:=by
      have:=(List.getElem?_eq_some_iff.1 k2).1
      simp only [List.length_take] at this;omega
     rw [List.getElem?_take_of_lt hj,List.getElem?_drop] at k2
     obtain ⟨v',k3,k4⟩:=h4 j d k1
     rw [show (ρ (.r c)).base + 0 * sz + 0 + j=(ρ (.r c)).base + 0 * sz + j by omega,k3] at k2
     cases k2
     exact k4
    obtain ⟨v,hv,_⟩:=one ρ0 ω0 hO0
    refine ⟨v,hv,fun ρ ω hO=>?_⟩
    obtain ⟨v',hv',h2⟩:=one ρ ω hO
    rw [hv] at hv'
    cases hv'
    exact h2
   obtain ⟨v,hv,hrep⟩:=run
   have hs:=h.unpack hL ht hg hok (fun x hx=>by
    have:=List.all_eq_true.1 hcn _ hx
    simp at this) hrep
   exact cO hv (by rw [hd];exact ⟨_,_,M,hK,hs⟩)
  ·exact hr.elim
 ·exact hr.elim
end
end Go.Gv

namespace Go.Gv
section
variable {P : Program} {F : Fid} {C : Nat -> List D -> D -> List D -> Prop} {nt : Nat} {S : Nat -> Prop} {L : Nat -> Option Loc} {w0 : World} {M0 : Mem} {f : Nat -> D} {M : Mem} {a : Act} {w : World} {o : Oper} {d : D} {Q : Exit -> Act -> World -> Prop} {ρ : Pa -> Loc} {ω : Nat -> Option Pa} {New : Nat -> Prop} {K : List (Nat × D) -> List (Nat × Bool) -> Prop}
theorem tH {es rs : List (List D)} {k : Nat} (h : k + rs.length <= es.length) : (jO es k rs).length=es.length:=by
 simp only [jO,List.length_append,List.length_take,List.length_drop];omega
theorem tG {es rs : List (List D)} {k i : Nat} (h : k + rs.length <= es.length) : (jO es k rs)[i]? = if k <= i /\ i < k + rs.length then rs[i - k]? else es[i]?:=by
 unfold jO
 have hl : (es.take k).length=k:=by simp;omega
 by_cases h1 : i < k
 ·rw [if_neg (by omega),List.append_assoc,List.getElem?_append_left (by omega),List.getElem?_take_of_lt h1]
 ·by_cases h2 : i < k + rs.length
  ·rw [if_pos (by omega),List.append_assoc,List.getElem?_append_right (by omega),hl,List.getElem?_append_left (by omega)]
  ·rw [if_neg (by omega),List.getElem?_append_right (by rw [List.length_append,hl];omega),List.length_append,hl,List.getElem?_drop]
   congr 1;omega
theorem tI {es rs : List (List D)} {k : Nat} {e : List D} (he : e ∈ jO es k rs) : e ∈ rs \/ e ∈ es:=by
 unfold jO at he
 rcases List.mem_append.1 he with he | he
 ·rcases List.mem_append.1 he with he | he
  ·exact .inr (List.mem_of_mem_take he)
  ·exact .inl he
 ·exact .inr (List.mem_of_mem_drop he)
def mN (P : Program) (t sz : Nat) : Bool:=match P.underlying t with
 | some (.slice e)=>(match P.info? e with
  | some i=>i.size == sz
  | none=>false)
 | _=>false
theorem vq {T T2 sz : Nat} {ty : TypeId} (hk : mN P T sz=true) {g o n m cap cap2 : Nat} {ad : Addr} {cur news : List Value} {T0 : TypeId} (hg : w.heap[g]? = some (.cells cur.toArray T0 (0,0))) (hl : o + min m n * sz <= cur.length)
  (hnl : news.length=m * sz) (hnews : ∀ j u,news[j]? = some u -> w.cell? (ad.add j)=some u) (hone : ∀ u ∈ news,u.oneCell'=true) :
  ∃ w',(Builtin.copy_ #[T,T2] ty #[.slice (some ⟨g,o,none⟩) n cap,.slice (some ad) m cap2]).run P w=.ok (.int .i64 (min m n : Nat)) w' /\ w'.heap[g]? = some (.cells (cur.take o++news.take (min m n * sz)++cur.drop (o + min m n * sz)).toArray T0 (0,0)) /\ Ch (fun k=>k=g) w w':=by
 unfold mN at hk
 split at hk
 ·rename_i e hu
  split at hk
  ·rename_i i hi
   have hsz : i.size=sz:=by simpa using hk
   have hle : min m n * sz <= m * sz:=Nat.mul_le_mul_right _ (Nat.min_le_left _ _)
   have hnl2 : (news.take (min m n * sz)).length=min m n * sz:=by rw [List.length_take];omega
   obtain ⟨w',e1,e2,e3,e4,e5,e6,e7,e8⟩:=cK (P:=P) g T0 o (news.take (min m n * sz)) 0 cur w hg (by rw [hnl2];omega) (fun v hv=>hone v (List.mem_of_mem_take hv))
   refine ⟨w',?_,by rw [e2];simp only [Nat.add_zero,hnl2],⟨e5,e6,e7,by omega,fun k _ hk=>e3 k hk,by omega⟩⟩
   have hld:=run_loadCells_list (P:=P) w ad (news.take (min m n * sz)) (fun j v hj=>hnews j v (by rw [List.getElem?_take] at hj;split at hj;exact hj;cases hj))
   rw [hnl2] at hld
   have hmn : Nat.min m n=min m n:=rfl
   simp [Builtin.copy_,run_underlying hu,sizeOf,typeInfo,hi,Builtin.lenOf,Builtin.firstCells,hsz,hmn,hld,e1,goInt]
  ·cases hk
 ·cases hk
theorem sJ {T T2 sz : Nat} {ty : TypeId} (hk : mN P T sz=true) (A : Option Addr) (cap : Nat) (ad : Addr) (m cap2 : Nat) : (Builtin.copy_ #[T,T2] ty #[.slice A 0 cap,.slice (some ad) m cap2]).run P w=.ok (.int .i64 0) w:=by
 unfold mN at hk
 split at hk
 ·rename_i e hu
  split at hk
  ·rename_i i hi
   have hmn : Nat.min m 0=0:=Nat.min_zero m
   cases A <;> simp [Builtin.copy_,run_underlying hu,sizeOf,typeInfo,hi,Builtin.lenOf,Builtin.firstCells,hmn,loadCells,loadCellsFrom,storeCells,goInt]
  ·cases hk
 ·cases hk
theorem yi (h : SR F nt S L w0 M0 f M a w) {t : Nat} (hd : o.dst=some t) (ht : t < nt) {sz : Nat} {x y : Opd} {x' y' : Operand} {T T2 : TypeId} (ho : o.op=.call { callee:=.builtin .copy,args:=#[x',y'],argTypes:=#[T,T2] }) (hx : aj F x x'=true) (hy : aj F y y'=true) (hk : mN P T sz=true)
  (hr : eP f false (vd f y) sz fun rows bs=>bs=[] /\ 0 < rows.length /\ match vd f x with
   | .ref (.r b) k n=>(n=0 -> K [(t,.int .i64 0)] []) /\ (0 < n -> match f b with
    | .blk sz' es=>sz'=sz /\ k + n <= es.length /\ (∀ e ∈ es,∀ c ∈ e,au c=true) /\ (∀ e ∈ rows,∀ c ∈ e,au c=true) /\ K [(t,.int .i64 (min rows.length n : Nat)),(b,.blk sz (jO es k (rows.take n)))] []
    | _=>False)
   | _=>False) : o.wp P a w (PostX F nt S L w0 M0 f K) Q:=by
 obtain ⟨ρ,ω,hO⟩:=h.own
 obtain ⟨rows,bs,c2,⟨hbs0,hrl,hr⟩,hbs,_,huY,A2,m,cap2,news,ey,hm,hnl,hA2,hone,hY⟩:=lY h hO hy hr
 have hc2 : c2=none:=by
  rw [hbs0] at hbs
  cases c2 with
  | none=>rfl
  | some c=>simp at hbs
 subst hc2
 have hv:=hO.opd hx
 split at hr
 ·rename_i b k n hvx
  rw [hvx,am rfl] at hv
  obtain ⟨ad0,hA0,_⟩:=hA2 (by omega)
  rcases Nat.eq_zero_or_pos n with hn | hn
  ·have hK:=hr.1 hn
   subst hn
   have hv0 : ∃ A cap,a.eval x'=.slice A 0 cap:=by
    simp only [ar] at hv
    rcases hv with ⟨_,A,e⟩ | ⟨cap,e,_⟩
    ·exact ⟨A,0,e⟩
    ·exact ⟨_,cap,e⟩
   obtain ⟨A,cap,hv0⟩:=hv0
   refine postX_val hd (v:=.int .i64 0) (w':=w) ?_ hK (h.put ht (fun ρ ω _=>by rw [am rfl];simp only [ar,af]))
   subst hA0
   have e1:=sJ (P:=P) (w:=w) (T2:=T2) (ty:=o.type) hk A cap ad0 m cap2
   simp only [execOp,ho,resolve,invoke,builtin,List.map_toArray,List.map_cons,List.map_nil,Sem.run_bind,Sem.run_pure,Result.andThen_ok,hv0,ey,e1]
  have hr:=hr.2 hn
  split at hr
  ·rename_i sz' es hf
   obtain ⟨rfl,hkn,hes1,hrow1,hK⟩:=hr
   have hb:=hO.big hf
   have hgp : aT f (.r b)=some (sz',es):=by simp [aT,hf]
   obtain ⟨ad,rfl,hnews⟩:=hA2 (by omega)
   rcases gU hO hgp hkn hv (fun e he c hc=>ci (hes1 e (List.mem_of_mem_drop (List.mem_of_mem_take he)) c hc)) with ⟨A,hv,hn0⟩ | ⟨cap,us,T0,hv,⟨hcap,hmc⟩,hcl,hω,g0,g1,g2,g4,g5⟩
   ·omega
   ·have hrows : eS w (ρ (.r b)) sz' es (fun i off d v=>bR F M ω ρ w b i off d v):=by
     rcases hO.roots b sz' es hb hf with ⟨e0,_⟩ | ⟨_,hr⟩
     ·rw [e0] at hkn;simp at hkn;omega
     ·exact hr
    obtain ⟨q0,us0,T1,q1,q2,q3,q4,q5⟩:=id hrows
    rw [g1] at q1
    simp only [Option.some.injEq,Obj.cells.injEq,and_true] at q1
    obtain ⟨q1,rfl⟩:=q1
    obtain rfl : us=us0:=by simpa using congrArg Array.toList q1
    have hle : k * sz' + n * sz' <= es.length * sz':=by rw [<- Nat.add_mul];exact Nat.mul_le_mul_right _ hkn
    have hmn : min m n * sz' <= n * sz':=Nat.mul_le_mul_right _ (Nat.min_le_right _ _)
    obtain ⟨w',e1,e2,e3⟩:=vq (P:=P) (w:=w) (T2:=T2) (ty:=o.type) hk (m:=m) (n:=n) (cap:=cap) (cap2:=cap2) (o:=(ρ (.r b)).base + k * sz') g1 (by rw [g2];omega) hnl hnews hone
    have hmin : (rows.take n).length=min m n:=by rw [List.length_take,hm,Nat.min_comm]
    have hfit : k + (rows.take n).length <= es.length:=by rw [hmin];omega
    have hml : min m n * sz' <= m * sz':=Nat.mul_le_mul_right _ (Nat.min_le_left _ _)
    have hN : (news.take (min m n * sz')).length=min m n * sz':=by rw [List.length_take];omega
    have hfill:=h.fill hO hf hω hrows (es':=jO es k (rows.take n)) (us:=us.take ((ρ (.r b)).base + k * sz')++news.take (min m n * sz')++us.drop ((ρ (.r b)).base + k * sz' + min m n * sz')) (w':=w') (Nat.le_of_eq (tH hfit)) (fun e he=>by
     rcases tI he with he | he
     ·have he:=List.mem_of_mem_take he
      exact ⟨huY e he,hrow1 e he⟩
     ·exact ⟨g4 e he,hes1 e he⟩) e3 e2 (by simp only [List.length_append,List.length_take,List.length_drop] at hN ⊢;omega) (fun i r off d h1 h2=>by
     have hget:=fun x=>fq (vs:=us) (us:=news.take (min m n * sz')) (q:=(ρ (.r b)).base + k * sz') (n:=min m n * sz') (x:=x) hN (by omega)
     rw [tG hfit,hmin] at h1
     split at h1
     ·rename_i hi
      have hil : i - k < (rows.take n).length:=by rw [hmin];omega
      have hin : i - k < n:=by rw [hmin] at hil;omega
      rw [List.getElem?_take_of_lt hin] at h1
      obtain ⟨u,k1,k2⟩:=hY (i - k) r off d h1 h2
      have hof : off < sz':=by rw [<- huY r (List.mem_of_getElem? h1)];exact (List.getElem?_eq_some_iff.1 h2).1
      have h3:=eL (sz:=sz') (show i - k < min m n by omega) hof
      have h4 : (i - k) * sz' + k * sz'=i * sz':=by rw [<- Nat.add_mul];congr 1;omega
      refine ⟨u,?_,k2.2⟩
      rw [hget,if_pos (by omega),show (ρ (.r b)).base + i * sz' + off - ((ρ (.r b)).base + k * sz')=(i - k) * sz' + off by omega,List.getElem?_take_of_lt h3]
      exact k1
     ·rename_i hi
      obtain ⟨u,k1,k2⟩:=q5 i r off d h1 h2
      have hof : off < sz':=by rw [<- g4 r (List.mem_of_getElem? h1)];exact (List.getElem?_eq_some_iff.1 h2).1
      rw [aV (ci (hes1 r (List.mem_of_getElem? h1) d (List.mem_of_getElem? h2)))] at k2
      refine ⟨u,?_,k2⟩
      have h5 : ¬ ((ρ (.r b)).base + k * sz' <= (ρ (.r b)).base + i * sz' + off /\ (ρ (.r b)).base + i * sz' + off < (ρ (.r b)).base + k * sz' + min m n * sz'):=by
       rintro ⟨h6,h7⟩
       rcases Nat.lt_or_ge i k with h8 | h8
       ·have:=eL (sz:=sz') h8 hof;omega
       ·have h9 : (k + min m n) * sz' <= i * sz':=Nat.mul_le_mul_right _ (by omega)
        rw [Nat.add_mul] at h9;omega
      rw [hget,if_neg h5]
      exact k1)
    obtain ⟨_,_,_,_,hs⟩:=hfill
    have hs2:=hs.put (t:=t) (d:=.int .i64 (min rows.length n : Nat)) (v:=.int .i64 (min m n : Nat)) ht (fun _ _ _=>by rw [am rfl,hm];simp only [ar,af])
    refine cO (v:=.int .i64 (min m n : Nat)) (w':=w') ?_ ?_
    ·simp only [execOp,ho,resolve,invoke,builtin,List.map_toArray,List.map_cons,List.map_nil,Sem.run_bind,Sem.run_pure,Result.andThen_ok,hv,ey,e1]
    ·rw [hd]
     refine ⟨_,_,M,hK,?_⟩
     have : eff [(t,D.int .i64 (min rows.length n : Nat)),(b,D.blk sz' (jO es k (rows.take n)))] [] f=eff [(t,.int .i64 (min rows.length n : Nat))] [] (eff [(b,.blk sz' (jO es k (rows.take n)))] [] f):=by
      funext s
      unfold eff
      by_cases h1 : s=t
      ·subst h1;simp
      ·have e1 : (s == t)=false:=by simpa using h1
       simp only [List.lookup_cons,e1,List.lookup_nil,aD,List.any_nil,Bool.false_eq_true,if_false]
     rw [this]
     exact hs2
  ·exact hr.elim
 ·exact hr.elim
end
end Go.Gv

namespace Go.Gv
section
variable {P : Program} {F : Fid} {C : Nat -> List D -> D -> List D -> Prop} {nt : Nat} {S : Nat -> Prop} {L : Nat -> Option Loc} {w0 : World} {M0 : Mem} {f : Nat -> D} {M : Mem} {a : Act} {w : World} {o : Oper} {d : D} {Q : Exit -> Act -> World -> Prop} {ρ : Pa -> Loc} {ω : Nat -> Option Pa} {New : Nat -> Prop} {K : List (Nat × D) -> List (Nat × Bool) -> Prop}
theorem tA {d : D} (h : au d=true) : aR d=d:=by cases d <;> first | rfl | (simp [au] at h)
theorem SR.frzA (h : SR F nt S L w0 M0 f M a w) {t : Nat} (ht : t < 10000) {c sz : Nat} {row : List D} (hft : f t=.adr (.r c) 0 0) (hfc : f c=.blk sz [row]) (hrow : ∀ d ∈ row,au d=true) :
  ∃ M',SR F nt S L w0 M0 (eff [(t,.ptr row),(c,.any)] [] f) M' a w:=by
 obtain ⟨ρ,ω,hO⟩:=h.own
 have gp : aT f (.r c)=some (sz,[row]):=by simp only [aT,hfc]
 have hc : 10000 <= c:=bY hO gp
 have hO1:=hO.only hc
 have e1 : aT (fcE f c) (.r c)=aT f (.r c):=mT 0
 obtain ⟨v,hv1,hv2⟩ : ∃ v,a.tmps[t]? = some v /\ bg F M ρ (f t) v:=by
  rcases hO.slots t ht with g | g
  ·rw [hft] at g;cases g
  ·exact g
 rw [hft,am rfl] at hv2
 have hr:=gN hO1 hv2 (by simp only [aP,e1,gp])
 have ed : dp1 (fcE f c) (.adr (.r c) 0 0)=.ptr row:=by
  simp only [dp1,e1,gp,List.getElem?_cons_zero,Option.getD_some,List.drop_zero]
  congr 1
  conv=>rhs;rw [<- List.map_id row]
  exact List.map_congr_left fun d hd=>tA (hrow d hd)
 rw [ed] at hr
 have hle : M.le (bf (cZ ω c) M w):=ce hO1
 have hE:=hO.erase hc
 have hf' : ∀ s,eff [(t,.ptr row),(c,.any)] [] f s=if s=t then .ptr row else fbE f c s:=fun s=>by
  unfold eff fbE
  by_cases e : s=t
  ·subst e;simp
  ·have b1 : (s == t)=false:=by simpa using e
   by_cases e2 : s=c
   ·subst e2
    simp only [List.lookup,b1,beq_self_eq_true,if_neg e,if_true]
   ·have b2 : (s == c)=false:=by simpa using e2
    simp only [List.lookup,b1,b2,if_neg e,if_neg e2]
    simp [aD]
 refine ⟨bf (cZ ω c) M w,⟨h.hnt,h.size,h.defers,h.ch,bQ h.holds,Mem.le_trans h.ext hle,fun p h1 h2=>?_,ρ,fT ω c,?_⟩⟩
 ·by_cases e : M p=none
  ·unfold bf at h2
   split at h2
   ·rename_i q hq
    exact hO.new _ _ (cJ hq).1
   ·exact absurd e h2
  ·exact h.fresh p h1 e
 ·refine hE.step (ks:=[]) (fun p hp=>absurd rfl hp) hle (Nat.le_refl _) (fun s hs=>?_) (fun b hb=>?_) (fun k p e=>.inl ⟨p,e⟩) (fun p q e=>?_) (fun b l hb hl hB=>?_)
  ·rw [hf']
   by_cases e : s=t
   ·subst e
    rw [if_pos rfl]
    refine .inr (.inr ⟨v,hv1,?_⟩)
    rw [hf',if_pos rfl,am rfl]
    exact hr
   ·rw [if_neg e]
    exact .inl (.inr ⟨rfl,rfl,by simp [aD]⟩)
  ·have : b ≠ t:=by omega
   rw [hf',if_neg this]
   exact .inl (.inr ⟨rfl,fun p hp=>⟨rfl,fun hw=>⟨hw,rfl⟩⟩⟩)
  ·obtain ⟨e2,e3⟩:=dZ e
   have e4 : cZ ω c p.block=none:=by
    simp only [cZ,e2,if_neg e3]
   simp only [bf,e4]
   exact hO.apart p q e2
  ·have : b ≠ t:=by omega
   rw [hf',if_neg this] at hB
   exact ⟨rfl,hB⟩
theorem yw (h : SR F nt S L w0 M0 f M a w) {x y : Opd} {x' y' : Operand} {t : TypeId} (ho : o.op=.store t x' y') (hx : aj F x x'=true) (hy : aj F y y'=true) (hk : iQ P t 1=true)
  (hr : ay C f o.dst K (.stP x y)) : o.wp P a w (PostX F nt S L w0 M0 f K) Q:=by
 simp only [ay] at hr
 obtain ⟨hd,hr⟩:=hr
 split at hr
 ·rename_i s
  obtain ⟨hs,hr⟩:=hr
  split at hr
  ·rename_i c i0 o0 hfs
   obtain ⟨rfl,rfl,hr⟩:=hr
   split at hr
   ·rename_i sz row hfc
    obtain ⟨hrow,hr⟩:=hr
    split at hr
    ·rename_i b i1 o1 i off ex
     obtain ⟨hbc,hr⟩:=hr
     split at hr
     ·rename_i sz0 es0 hb
      obtain ⟨row0,h1,sz1,es,h2,r,h3,h4,hK⟩:=hr
      obtain ⟨ρ,ω,hO⟩:=h.own
      have hc : 10000 <= c:=bY hO (show aT f (.r c)=some (sz,[row]) by simp only [aT,hfc])
      have hb0 : 10000 <= b:=bY hO (show aT f (.r b)=some (sz0,es0) by simp only [aT,hb])
      obtain ⟨M',h'⟩:=h.frzA hs hfs hfc hrow
      have look1 : eff [(s,.ptr row),(c,.any)] [] f s=.ptr row:=by simp [eff]
      have lookb : eff [(s,.ptr row),(c,.any)] [] f b=f b:=by
       have b1 : (b == s)=false:=by simp;omega
       have b2 : (b == c)=false:=by simpa using hbc
       simp [eff,List.lookup,b1,b2,aD]
      have lookx : vd (eff [(s,.ptr row),(c,.any)] [] f) x=.adr (.n b i1 o1) i off:=by
       cases x with
       | c d=>exact ex
       | t q =>
        simp only [vd] at ex ⊢
        have q1 : q ≠ s:=fun e=>by rw [e,hfs] at ex;cases ex
        have q2 : q ≠ c:=fun e=>by rw [e,hfc] at ex;cases ex
        have b1 : (q == s)=false:=by simpa using q1
        have b2 : (q == c)=false:=by simpa using q2
        simp [eff,List.lookup,b1,b2,aD,ex]
      refine Oper.wp_mono ?_ (vH (C:=C) (K:=fun ws ks=>ws=[(b,.blk sz0 (bj es0 i1 o1 1 [.own sz1 (bj es i off 1 [.ptr row])]))] /\ ks=[]) (n:=1) (ns:=[]) h' hd ho hx hy hk ?_)
      ·rintro a' w' ⟨ws,ks,M2,⟨rfl,rfl⟩,h2⟩
       refine ⟨_,_,M2,hK,?_⟩
       have e : eff [(b,.blk sz0 (bj es0 i1 o1 1 [.own sz1 (bj es i off 1 [.ptr row])]))] [] (eff [(s,.ptr row),(c,.any)] [] f)=eff [(b,.blk sz0 (bj es0 i1 o1 1 [.own sz1 (bj es i off 1 [.ptr row])])),(s,.ptr row),(c,.any)] [] f:=by
        funext q
        unfold eff
        simp only [List.lookup]
        cases e1 : q == b <;> simp [aD]
       rw [<- e]
       exact h2
      ·have look2 : vd (eff [(s,.ptr row),(c,.any)] [] f) (.t s)=.ptr row:=look1
       simp only [ay,look2,lookx,fj,dG,eF,if_true,true_or,true_and]
       refine ⟨rfl,rfl,?_⟩
       refine ⟨by simp [au],?_⟩
       rw [lookb,hb]
       exact ⟨row0,h1,sz1,es,h2,r,h3,h4,rfl,trivial⟩
     ·exact hr.elim
    ·exact hr.elim
   ·exact hr.elim
  ·exact hr.elim
 ·exact hr.elim
end
end Go.Gv

namespace Go.Gv
open Go.RowKit
abbrev Env:=List (Nat × D)
def ac : Env -> Nat -> D
 | [],_=>.any
 | (s,d)::r,t=>if s=t then d else ac r t
def dJ (ks : List (Nat × Bool)) (e : Env) : Env:=if ks=[] then e else e.map fun p=>(p.1,if aD ks p.2 then .any else p.2)
theorem uE (ws : List (Nat × D)) (e : Env) (t : Nat) : ac (ws++e) t=match ws.lookup t with
  | some d=>d
  | none=>ac e t:=by
 induction ws with
 | nil=>rfl
 | cons p ws ih =>
  obtain ⟨s,d⟩:=p
  simp only [List.cons_append,ac,List.lookup_cons]
  by_cases h : s=t
  ·subst h;simp
  ·have h1 : (t == s)=false:=by simp;exact fun e=>h e.symm
   rw [if_neg h,h1]
   exact ih
theorem su (ks : List (Nat × Bool)) : ∀ (e : Env) (t : Nat),ac (dJ ks e) t=if aD ks (ac e t) then .any else ac e t:=by
 intro e t
 unfold dJ
 by_cases hk : ks=[]
 ·subst hk;simp [jX]
 ·rw [if_neg hk]
  induction e with
  | nil =>
   show D.any=if aD ks D.any=true then D.any else D.any
   by_cases hm : aD ks D.any=true
   ·rw [if_pos hm]
   ·rw [if_neg hm]
  | cons p e ih =>
   obtain ⟨s,d⟩:=p
   by_cases h : s=t
   ·simp [ac,h]
   ·have h1 : ac ((s,d)::e) t=ac e t:=by simp [ac,h]
    rw [h1,<- ih]
    simp [ac,h]
theorem gX (ws : List (Nat × D)) (ks : List (Nat × Bool)) (e : Env) : ac (ws++dJ ks e)=eff ws ks (ac e):=by
 funext t
 rw [uE]
 unfold eff
 cases List.lookup t ws with
 | some d=>rfl
 | none=>exact su ks e t
def f6 (e : Env) (dst : Option Nat) (K : Env -> Prop) : Prop :=
 match dst with
 | none=>K e
 | some t=>K ((t,.tup [])::e)
def pG (C : Nat -> List D -> D -> List D -> Prop) (dst : Option Nat) (K : Env -> Prop) (e : Env) (op : NOp) : Prop:=ay C (ac e) dst (fun ws ks=>K (ws++dJ ks e)) op
def gB (C : Nat -> List D -> D -> List D -> Prop) (K : Env -> Prop) : List ao -> Env -> Prop
 | [],e=>K e
 | o::os,e=>match o.guard with
  | none=>pG C o.dst (gB C K os) e o.op
  | some (s,want)=>match ac e s with
   | .bool b=>(b=want -> pG C o.dst (gB C K os) ((s,.bool want)::e) o.op) /\ (b=!want -> f6 ((s,.bool !want)::e) o.dst (gB C K os))
   | .tup []=>f6 e o.dst (gB C K os)
   | _=>False
section
variable {P : Program} {F : Fid} {C : Nat -> List D -> D -> List D -> Prop} {nt : Nat} {S : Nat -> Prop} {L : Nat -> Option Loc} {w0 : World} {M0 : Mem} {f : Nat -> D} {M : Mem} {a : Act} {w : World} {o : Oper} {d : D} {Q : Exit -> Act -> World -> Prop} {ρ : Pa -> Loc} {ω : Nat -> Option Pa} {New : Nat -> Prop} {K : List (Nat × D) -> List (Nat × Bool) -> Prop}
def uW (P : Program) (F : Fid) : NOp -> Op -> Bool
 | .asg x,.move y=>aj F x y
 | .asg x,.assign y=>aj F x y
 | .frz x,.move y=>aj F x y
 | .frz x,.assign y=>aj F x y
 | .ldQ _ x,.load t x'=>tyS P t 1 false && aj F x x'
 | .appQ _ sz by_ x y,.call { callee:=.builtin .append,args:=⟨[x',y']⟩,argTypes:=⟨[t,t']⟩ }=>t == t' && qS P t sz by_ && aj F x x' && aj F y y'
 | .cpy sz x y,.call { callee:=.builtin .copy,args:=⟨[x',y']⟩,argTypes:=⟨[t,_]⟩ }=>mN P t sz && aj F x x' && aj F y y'
 | .ldM n x,.load t x'=>tyS P t n true && aj F x x'
 | .ldF n x,.load t x'=>tyS P t n true && aj F x x'
 | .stP x y,.store t x' y'=>iQ P t 1 && aj F x x' && aj F y y'
 | .slM len sz x,.slice t x' none none none=>(fN P t len sz && decide (len <= 16777216)) && aj F x x'
 | .nilo _,.move y=>aj F (.c .nils) y
 | .nilo _,.assign y=>aj F (.c .nils) y
 | .box _ x,.box _ x'=>aj F x x'
 | .alc zs,.alloc t=>zeroOk P t zs
 | .bls sz len zs _ ps,.buildSlice t len' ps'=>len == len' && blsOk P F t sz len zs ps ps'.toList
 | .mks sz by_ zs n c,.makeSlice t n' c'=>mksOk P t sz by_ zs && aj F n n' && aj F c c'
 | .call g xs _,.call { callee:=.value (.func fi),args:=ys,argTypes:=_ }=>F g == some fi && bV F xs ys.toList
 | .callF g xs,.call { callee:=.value (.func fi),args:=ys,argTypes:=_ }=>F g == some fi && bV F xs ys.toList
 | .callG g xs,.call { callee:=.value (.func fi),args:=ys,argTypes:=_ }=>F g == some fi && bV F xs ys.toList
 | .callS g x xs,.call { callee:=.value (.func fi),args:=⟨y::ys⟩,argTypes:=_ }=>F g == some fi && aj F x y && bV F xs ys
 | .callN g x xs,.call { callee:=.value (.func fi),args:=⟨y::ys⟩,argTypes:=_ }=>F g == some fi && aj F x y && bV F xs ys
 | .callE g x xs,.call { callee:=.value (.func fi),args:=⟨y::ys⟩,argTypes:=_ }=>F g == some fi && aj F x y && bV F xs ys
 | .callA g xs,.call { callee:=.value (.func fi),args:=ys,argTypes:=_ }=>F g == some fi && bV F xs ys.toList
 | .callL g x xs,.call { callee:=.value (.func fi),args:=⟨y::ys⟩,argTypes:=_ }=>F g == some fi && aj F x y && bV F xs ys
 | .clr zs x,.call { callee:=.builtin .clear,args:=⟨[y]⟩,argTypes:=⟨[t]⟩ }=>ow P t zs && aj F x y
 | .callv x xs,.call { callee:=.value x',args:=ys,argTypes:=_ }=>aj F x x' && bV F xs ys.toList
 | .st n _ x v,.store t x' v'=>iQ P t n && aj F x x' && aj F v v'
 | .app sz by_ _ x y,.call { callee:=.builtin .append,args:=⟨[x',y']⟩,argTypes:=⟨[t,t']⟩ }=>t == t' && qS P t sz by_ && aj F x x' && aj F y y'
 | .mkm _ _,.makeMap _ none=>true
 | .mpu sh kt et z m x v,.mapUpdate t m' x' v'=>mapOk F t kt et sh z && aj F m m' && aj F x x' && aj F v v'
 | .dead,_=>true
 | p,q=>uV P F p q
theorem lm {t : Option Nat} (hK : dc t K d) : ∀ a' w',bF F nt S L w0 M0 f t d a' w' -> PostX F nt S L w0 M0 f K a' w':=by
 rintro a' w' ⟨M',h⟩
 cases t with
 | none=>exact ⟨[],[],M',hK,by rw [iq];exact h⟩
 | some t=>exact ⟨_,_,M',hK,h⟩
theorem uX (hl : laidOutB F.P=true) (hP : P=F.P) (h : SR F nt S L w0 M0 f M a w) {n : NOp} {q : Op} (hp : bA nt f o.dst) (ho : o.op=q) (hk : uV P F n q=true) (hr : res f (·=d) n) : o.wp P a w (bF F nt S L w0 M0 f o.dst d) Q:=by
 unfold uV at hk
 split at hk <;> (try simp only [Bool.and_eq_true,beq_iff_eq] at hk)
 ·exact rK h hp (.inl ho) hk hr
 ·exact rK h hp (.inr ho) hk hr
 ·exact yq h hp ho hk hr
 ·exact vG h hp ho hk.1.1 hk.1.2 hk.2 hr
 ·obtain ⟨⟨rfl,h1⟩,h2⟩:=hk;exact yf h hp ho h1 h2 hr
 ·obtain ⟨rfl,h1⟩:=hk;exact Co h hp ho h1 hr
 ·exact vA h hp ho hk.2 hk.1 hr
 ·exact ym h hp ho hk.2 hk.1 hr
 ·exact vD h hp ho hk.1.2 hk.2 hk.1.1 hr
 ·exact vE h hp ho hk.1.2 hk.2 hk.1.1 hr
 ·obtain ⟨rfl,h1⟩:=hk;exact yk h hp ho h1 hr
 ·exact yl h hp ho hk.2 hk.1 hr
 ·exact vC h hp ho hk.1.2 hk.2 hk.1.1 hr
 ·exact vB h hp ho hk.1.2 hk.2 hk.1.1 hr
 ·exact Ck h hp ho hk.2 hk.1 hr
 ·exact snd_boxF h hp ho hk hr
 ·obtain ⟨rfl,h1⟩:=hk;exact vy h hp ho h1 hr
 ·obtain ⟨rfl,h1⟩:=hk;exact vz h hp ho h1 hr
 ·exact yg h hp ho hk hr
 ·exact yp h hp ho hk.2 hk.1 hr
 ·exact vF h hp ho hk.2 hk.1 hr
 ·exact Cl h hp ho hk.1.2 hk.2 hk.1.1 hr
 ·exact yv h hp ho hk.1.1.2 hk.1.2 hk.2 hk.1.1.1 hr
 ·exact yu h hp ho hk.1.1.2 hk.1.2 hk.2 hk.1.1.1 hr
 ·exact yr h hp ho hk.2 hk.1 hr
 ·exact yj h hp ho hk.2 hk.1 hr
 ·exact Cm h hp ho hk.1 hk.2 hr
 ·exact Cn h hp ho hk.1 hk.2 hr
 ·obtain ⟨⟨⟨rfl,h1⟩,h2⟩,h3⟩:=hk;exact ye h hp ho h2 h3 h1 hr
 ·exact sM h hp ho hk.1.1.1 hk.1.1.2 hk.1.2 hk.2 hr
 ·exact sV h hp ho hk.1.1.1 hk.1.1.2 hk.1.2 hk.2 hr
 ·obtain ⟨⟨⟨rfl,h1⟩,h2⟩,h3⟩:=hk;exact snd_mpl hl h hp ho h2 h3 h1 hP hr
 ·cases hk
theorem tq {t q sz by_ : Nat} {x y : Opd} (h : ay C f (some t) K (.appQ q sz by_ x y)) : ay C f (some t) K (.app sz by_ false x y):=by
 simp only [ay] at h ⊢
 split at h
 ·rename_i c i o' k n ex
  obtain ⟨rfl,h⟩:=h
  obtain ⟨rows,bs,⟨h1,h2,h⟩,hg⟩:=dK h
  refine hg _ ?_
  subst h1
  simp only [ex]
  split at h
  ·rename_i sz0 es0 hf
   obtain ⟨row0,h3,es,h4,h5,h6,h7⟩:=h
   refine ⟨rfl,h2,rfl,?_⟩
   first | (rw [hf]) | skip
   exact ⟨row0,h3,es,h4,h5,h6,h7⟩
  ·exact h.elim
 ·exact h.elim
theorem Bn {dst : Option Nat} {q : Nat} {x : Opd} (h : ay C f dst K (.ldQ q x)) : ay C f dst K (.ld 1 false x):=by
 simp only [ay,res] at h ⊢
 split at h
 ·rename_i c i off ex
  obtain ⟨rfl,h⟩:=h
  split at h
  ·rename_i sz es hf
   obtain ⟨r,h1,d,h2,h3⟩:=h
   have hl:=(List.getElem?_eq_some_iff.1 h2).1
   have gp : aT f (.r c)=some (sz,es):=by simp only [aT,hf]
   simp only [ex,gp]
   refine ⟨r,h1,by omega,?_⟩
   have : (r.drop off).headD .any=d:=by
    rw [List.headD_eq_head?_getD,List.head?_drop,h2];rfl
   rw [this]
   exact h3
  ·exact h.elim
 ·exact h.elim
theorem pO {dst : Option Nat} {xs : List Opd} {g : Nat} (h0 : ∀ x ∈ xs,isV (vd f x)=true) (hc : C g (xs.map (vd f)) d []) (hK : dc dst K d) : (∀ x ∈ xs,bv f (vd f x)) /\ ∃ d,C g (xs.map (dpv f)) d [] /\ (isF d=true \/ (xs.all fun x=>isV (vd f x))=true) /\ dc dst K d:=by
 have e : xs.map (dpv f)=xs.map (vd f):=List.map_congr_left fun x hx=>(ip (h0 x hx)).1
 exact ⟨fun x hx=>(ip (h0 x hx)).2,d,by rw [e];exact hc,.inr (List.all_eq_true.2 h0),hK⟩
def NoL (L : Nat -> Option Loc) : Prop:=∀ t i,i < 15 -> L (rt t i)=none
theorem BZ (hC : bU P F C) (hL : NoL L) (h : SR F nt S L w0 M0 f M a w) {n : NOp} {q : Op} (hd : ∀ t,o.dst=some t -> t < nt) (ho : o.op=q) (hk : uW P F n q=true) (hr : ay C f o.dst K n) : o.wp P a w (PostX F nt S L w0 M0 f K) Q:=by
 have hp : bA nt f o.dst:=by
  unfold bA
  split
  ·trivial
  ·rename_i t e;exact hd t e
 unfold uW at hk
 have dst : ∀ {n : NOp},ay C f none K n -> (∀ x,n ≠ .asg x) -> (∀ x,n ≠ .nilo x) -> True:=fun _ _ _=>trivial
 split at hk <;> (try simp only [Bool.and_eq_true,beq_iff_eq] at hk)
 ·cases hdst : o.dst with
  | none=>rw [hdst] at hr;exact hr.elim
  | some t=>rw [hdst] at hr;exact rI h hdst (hd t hdst) (hL t 0 (by decide)) (.inl ho) hk hr
 ·cases hdst : o.dst with
  | none=>rw [hdst] at hr;exact hr.elim
  | some t=>rw [hdst] at hr;exact rI h hdst (hd t hdst) (hL t 0 (by decide)) (.inr ho) hk hr
 ·simp only [ay] at hr
  cases hdst : o.dst with
  | none=>rw [hdst] at hr;exact hr.elim
  | some t=>rw [hdst] at hr;exact rJ h hdst (hd t hdst) (.inl ho) hk hr
 ·simp only [ay] at hr
  cases hdst : o.dst with
  | none=>rw [hdst] at hr;exact hr.elim
  | some t=>rw [hdst] at hr;exact rJ h hdst (hd t hdst) (.inr ho) hk hr
 ·have hr' : res f (dc o.dst K) (.ld 1 false _):=Bn hr
  obtain ⟨d,h1,h2⟩:=nX hr'
  exact Oper.wp_mono (lm h1) (uX (n:=.ld 1 false _) hC.laid hC.prog h hp ho (by simp only [uV,Bool.and_eq_true];exact hk) (h2 _ rfl))
 ·obtain ⟨⟨⟨rfl,h1⟩,h2⟩,h3⟩:=hk
  cases hdst : o.dst with
  | none=>rw [hdst] at hr;exact hr.elim
  | some t=>rw [hdst] at hr;exact rH h hdst (hd t hdst) (hL t 0 (by decide)) ho rfl h2 h3 h1 (tq hr)
 ·simp only [ay] at hr
  cases hdst : o.dst with
  | none=>rw [hdst] at hr;exact hr.elim
  | some t=>rw [hdst] at hr;exact yi h hdst (hd t hdst) ho hk.1.2 hk.2 hk.1.1 hr
 ·simp only [ay] at hr
  cases hdst : o.dst with
  | none=>rw [hdst] at hr;exact hr.elim
  | some t=>rw [hdst] at hr;exact yo h hL hdst (hd t hdst) ho hk.2 hk.1 hr
 ·simp only [ay] at hr
  cases hdst : o.dst with
  | none=>rw [hdst] at hr;exact hr.elim
  | some t=>rw [hdst] at hr;exact yn h hdst (hd t hdst) ho hk.2 hk.1 hr
 ·exact yw h ho hk.1.2 hk.2 hk.1.1 hr
 ·cases hdst : o.dst with
  | none=>rw [hdst] at hr;exact hr.elim
  | some t=>rw [hdst] at hr;exact yt h hdst (hd t hdst) (hL t 0 (by decide)) ho hk.2 hk.1.1 (of_decide_eq_true hk.1.2) hr
 ·cases hdst : o.dst with
  | none=>rw [hdst] at hr;exact hr.elim
  | some t=>rw [hdst] at hr;exact pB h hdst (hd t hdst) (hL t 0 (by decide)) (.inl ho) hk hr
 ·cases hdst : o.dst with
  | none=>rw [hdst] at hr;exact hr.elim
  | some t=>rw [hdst] at hr;exact pB h hdst (hd t hdst) (hL t 0 (by decide)) (.inr ho) hk hr
 ·cases hdst : o.dst with
  | none=>rw [hdst] at hr;exact hr.elim
  | some t=>rw [hdst] at hr;exact snd_box h hdst (hd t hdst) (hL t 0 (by decide)) ho hk hr
 ·cases hdst : o.dst with
  | none=>rw [hdst] at hr;exact hr.elim
  | some t=>rw [hdst] at hr;exact snd_alc h hdst (hd t hdst) (hL t 0 (by decide)) ho hk hr
 ·obtain ⟨rfl,hk⟩:=hk
  cases hdst : o.dst with
  | none=>rw [hdst] at hr;exact hr.elim
  | some t=>rw [hdst] at hr;exact snd_bls h hdst (hd t hdst) (hL t 0 (by decide)) ho hk hr
 ·cases hdst : o.dst with
  | none=>rw [hdst] at hr;exact hr.elim
  | some t=>rw [hdst] at hr;exact snd_mks h hdst (hd t hdst) (hL t 0 (by decide)) ho hk.1.2 hk.2 hk.1.1 hr
 ·exact pA hC h hp ho hk.2 hk.1 hr
 ·simp only [ay] at hr
  cases hdst : o.dst with
  | none=>rw [hdst] at hr;exact hr.2.elim
  | some t=>rw [hdst] at hr;exact sP hC h hdst (hd t hdst) (hL t 0 (by decide)) ho hk.2 hk.1 hr
 ·simp only [ay] at hr
  exact sQ hC h hp ho hk.2 hk.1 hr
 ·simp only [ay] at hr
  exact sT hC h (fun t=>hL t 0 (by decide)) hd ho hk.1.2 hk.2 hk.1.1 hr
 ·simp only [ay] at hr
  exact sS hC h hd ho hk.1.2 hk.2 hk.1.1 hr
 ·simp only [ay] at hr
  cases hdst : o.dst with
  | none=>rw [hdst] at hr;exact hr.elim
  | some t=>rw [hdst] at hr;exact sO hC h hdst (hd t hdst) (hL t 0 (by decide)) ho hk.1.2 hk.2 hk.1.1 hr
 ·simp only [ay] at hr
  obtain ⟨h0,hr⟩:=hr
  rcases hr with ⟨d,hc,hK⟩ | hr
  ·exact pA hC h hp ho hk.2 hk.1 (pO h0 hc hK)
  ·cases hdst : o.dst with
   | none=>rw [hdst] at hr;exact hr.elim
   | some t=>rw [hdst] at hr;exact sN hC h hL hdst (hd t hdst) ho hk.2 hk.1 ⟨h0,hr⟩
 ·simp only [ay] at hr
  exact sR hC h hd ho hk.1.2 hk.2 hk.1.1 hr
 ·simp only [ay] at hr
  exact yh h hd ho hk.2 hk.1 hr
 ·exact sU hC h hp ho hk.1 hk.2 hr
 ·have hdst : o.dst=none:=hr.1
  exact vH h hdst ho hk.1.2 hk.2 hk.1.1 (by rw [hdst] at hr;exact hr)
 ·obtain ⟨⟨⟨rfl,h1⟩,h2⟩,h3⟩:=hk
  cases hdst : o.dst with
  | none=>rw [hdst] at hr;exact hr.elim
  | some t=>rw [hdst] at hr;exact rH h hdst (hd t hdst) (hL t 0 (by decide)) ho rfl h2 h3 h1 hr
 ·cases hdst : o.dst with
  | none=>rw [hdst] at hr;exact hr.elim
  | some t=>rw [hdst] at hr;exact snd_mkm h hdst (hd t hdst) (hL t 0 (by decide)) ho hr
 ·have hdst : o.dst=none:=hr.1
  exact snd_mpu hC.laid h hdst ho hk.1.1.2 hk.1.2 hk.2 hk.1.1.1 hC.prog (by rw [hdst] at hr;exact hr)
 ·exact hr.elim
 ·have hr' : res f (dc o.dst K) n:=by
   clear dst
   cases n <;> first | exact hr | (simp [uV] at hk)
  obtain ⟨d,h1,h2⟩:=nX hr'
  exact Oper.wp_mono (lm h1) (uX hC.laid hC.prog h hp ho hk (h2 _ rfl))
def zj (nt : Nat) : Option Nat -> Bool
 | none=>true
 | some t=>decide (t < nt)
def nS (ops : Array Oper) : Option (Nat × Bool) -> Option (Nat × Bool) -> Bool
 | none,none=>true
 | some (j,b),some (s,b')=>b == b' && decide (s < 10000) && (match ops[j]? with
  | some o=>o.dst == some s
  | none=>false)
 | _,_=>false
def o9 (P : Program) (F : Fid) (nt : Nat) (ops : Array Oper) (n : ao) (o : Oper) : Bool :=
 n.dst == o.dst && zj nt n.dst && nS ops o.guard n.guard && uW P F n.op o.op
theorem qN {ops : Array Oper} {tmps : Array Value} {j s : Nat} {b : Bool} {o : Oper} (h1 : ops[j]? = some o) (h2 : o.dst=some s) (h3 : tmps[s]? = some (.bool b)) : yielded ops tmps j=some b:=by
 simp [yielded,h1,h2,h3]
theorem pI {ops : Array Oper} {tmps : Array Value} {j s : Nat} {o : Oper} (h1 : ops[j]? = some o) (h2 : o.dst=some s) {vs : Array Value} (h3 : tmps[s]? = some (.tuple vs)) : yielded ops tmps j=none:=by
 simp [yielded,h1,h2,h3]
def Skp (want : Bool) (d : D) : Prop:=d=.bool (!want) \/ d=.tup []
theorem vP {ops : Array Oper} {n : ao} {o : Oper} (h : nS ops o.guard n.guard=true) {f : Nat -> D} {M : Mem} {a : Act} {w : World} (hs : SR F nt S L w0 M0 f M a w) :
  (n.guard=none -> Region.wanted o (yielded ops a.tmps)=true) /\
  (∀ s want b,n.guard=some (s,want) -> f s=.bool b -> Region.wanted o (yielded ops a.tmps)=(b == want)) /\
  (∀ s want,n.guard=some (s,want) -> f s=.tup [] -> Region.wanted o (yielded ops a.tmps)=false):=by
 unfold nS at h
 split at h
 ·rename_i e1 e2
  exact ⟨fun _=>by simp [Region.wanted,e1],fun s want b e3=>(by rw [e2] at e3;cases e3),fun s want e3=>(by rw [e2] at e3;cases e3)⟩
 ·rename_i j b s b' e1 e2
  simp only [Bool.and_eq_true,beq_iff_eq,decide_eq_true_eq] at h
  obtain ⟨⟨rfl,hs10⟩,h⟩:=h
  split at h
  ·rename_i o' ho'
   simp only [beq_iff_eq] at h
   obtain ⟨ρ,ω,hO⟩:=hs.own
   refine ⟨fun e3=>(by rw [e2] at e3;cases e3),fun s1 want b1 e3 e4=>?_,fun s1 want e3 e4=>?_⟩
   ·rw [e2] at e3
    cases e3
    rcases hO.slots s hs10 with h5 | ⟨v,h5,h6⟩
    ·rw [e4] at h5;cases h5
    ·rw [e4] at h6
     simp only [bg,ar,af] at h6
     subst h6
     simp [Region.wanted,e1,qN ho' h h5]
   ·rw [e2] at e3
    cases e3
    rcases hO.slots s hs10 with h5 | ⟨v,h5,h6⟩
    ·rw [e4] at h5;cases h5
    ·rw [e4] at h6
     simp only [bg,ar,af] at h6
     obtain ⟨vs,rfl,_⟩:=h6
     simp [Region.wanted,e1,pI ho' h h5]
  ·cases h
 ·cases h
theorem oo {e : Env} {s : Nat} {b : Bool} (h : ac e s=.bool b) : ac ((s,.bool b)::e)=ac e:=by
 funext t
 simp only [ac]
 by_cases ht : s=t
 ·subst ht;rw [if_pos rfl,h]
 ·rw [if_neg ht]
def gI (C : Nat -> List D -> D -> List D -> Prop) (n : ao) (f : Nat -> D) (x : Option (List (Nat × D) × List (Nat × Bool))) : Prop :=
 match x with
 | some (ws,ks)=>(∀ s b,n.guard=some (s,b) -> f s=.bool b) /\ ay C f n.dst (fun ws' ks'=>ws'=ws /\ ks'=ks) n.op
 | none=>∃ s b,n.guard=some (s,b) /\ Skp b (f s)
def mt (n : ao) : Option (List (Nat × D) × List (Nat × Bool)) -> (Nat -> D) -> (Nat -> D)
 | some (ws,ks)=>eff ws ks
 | none=>match n.dst with
  | some t=>eff [(t,.tup [])] []
  | none=>fun f=>f
theorem Aj (hC : bU P F C) (hL : NoL L) {ops : Array Oper} {n : ao} (hk : o9 P F nt ops n o=true) (h : SR F nt S L w0 M0 f M a w) {x : Option (List (Nat × D) × List (Nat × Bool))} (hr : gI C n f x) {R : Act -> World -> Prop}
  (hR : ∀ M' a' w',SR F nt S L w0 M0 (mt n x f) M' a' w' -> R a' w') :
  if Region.wanted o (yielded ops a.tmps) then o.wp P a w R Q \/ (o.asks P a w /\ LetsOut Q) else R (a.put o.dst undef) w:=by
 unfold o9 at hk
 simp only [Bool.and_eq_true,beq_iff_eq] at hk
 obtain ⟨⟨⟨hd,hdo⟩,hgu⟩,hop⟩:=hk
 have hw:=vP hgu h
 have hdst : ∀ t,o.dst=some t -> t < nt:=fun t e=>by
  rw [<- hd] at e
  rw [e] at hdo
  simpa [zj] using hdo
 cases x with
 | some y =>
  obtain ⟨ws,ks⟩:=y
  obtain ⟨h1,h2⟩:=hr
  have hwant : Region.wanted o (yielded ops a.tmps)=true:=by
   cases hg : n.guard with
   | none=>exact hw.1 hg
   | some p=>obtain ⟨s,b⟩:=p;rw [hw.2.1 s b b hg (h1 s b hg)];simp
  rw [hwant,if_pos rfl]
  left
  rw [hd] at h2
  refine Oper.wp_mono ?_ (BZ hC hL h hdst rfl hop h2)
  rintro a' w' ⟨ws',ks',M',⟨rfl,rfl⟩,h'⟩
  exact hR M' a' w' h'
 | none =>
  obtain ⟨s,b,h1,h2⟩:=hr
  have hno : Region.wanted o (yielded ops a.tmps)=false:=by
   rcases h2 with h2 | h2
   ·rw [hw.2.1 s b (!b) h1 h2];cases b <;> rfl
   ·exact hw.2.2 s b h1 h2
  rw [hno,if_neg Bool.false_ne_true]
  refine hR M _ w ?_
  unfold mt
  rw [hd]
  cases hdd : o.dst with
  | none=>exact h
  | some t=>exact h.put (hdst t hdd) (fun _ _ _=>by simp [bg,ar,af,ap,undef])
theorem sZ {K : Env -> Prop} {n : ao} {ns : List ao} {e : Env} (h : gB C K (n::ns) e) : ∃ x e',gI C n (ac e) x /\ ac e'=mt n x (ac e) /\ gB C K ns e':=by
 have run : ∀ e1,ac e1=ac e -> (∀ s b,n.guard=some (s,b) -> ac e s=.bool b) -> pG C n.dst (gB C K ns) e1 n.op -> ∃ x e',gI C n (ac e) x /\ ac e'=mt n x (ac e) /\ gB C K ns e':=by
  intro e1 he hg h1
  unfold pG at h1
  obtain ⟨ws,ks,h2,h3⟩:=lX h1
  rw [he] at h3
  exact ⟨some (ws,ks),_,⟨hg,h3 _ ⟨rfl,rfl⟩⟩,by rw [gX,he];rfl,h2⟩
 rw [gB] at h
 split at h
 ·rename_i hg
  exact run e rfl (fun s b e'=>(by rw [hg] at e';cases e')) h
 ·rename_i s want hg
  split at h
  ·rename_i b hb
   by_cases hbw : b=want
   ·subst hbw
    exact run _ (oo hb) (fun s' b' e'=>(by rw [hg] at e';cases e';exact hb)) (h.1 rfl)
   ·have hb' : b=!want:=by cases b <;> cases want <;> simp_all
    have h1:=h.2 hb'
    rw [hb'] at hb
    have he:=oo hb
    refine ⟨none,?_⟩
    unfold f6 at h1
    unfold mt
    split at h1
    ·rename_i hd
     exact ⟨_,⟨s,want,hg,.inl hb⟩,by rw [hd];exact he,h1⟩
    ·rename_i t hd
     refine ⟨_,⟨s,want,hg,.inl hb⟩,?_,h1⟩
     rw [hd]
     have:=gX [(t,.tup [])] [] ((s,.bool !want)::e)
     simp only [dJ,if_true] at this
     rw [he] at this
     exact this
  ·rename_i hb
   refine ⟨none,?_⟩
   unfold f6 at h
   unfold mt
   split at h
   ·rename_i hd
    exact ⟨_,⟨s,want,hg,.inr hb⟩,by rw [hd],h⟩
   ·rename_i t hd
    refine ⟨_,⟨s,want,hg,.inr hb⟩,?_,h⟩
    rw [hd]
    have:=gX [(t,.tup [])] [] e
    simp only [dJ,if_true] at this
    exact this
  ·exact h.elim
theorem s6 (hC : bU P F C) (hL : NoL L) {ops : Array Oper} {K : Env -> Prop} (hQ : ∀ e M a w,SR F nt S L w0 M0 (ac e) M a w -> K e -> Q .normal a w) (ns : List ao) : ∀ (os : List Oper),ns.length=os.length -> (∀ p ∈ ns.zip os,o9 P F nt ops p.1 p.2=true) ->
  ∀ (e : Env) (M : Mem) (a : Act) (w : World),SR F nt S L w0 M0 (ac e) M a w -> gB C K ns e -> wpList P ops Q os a w:=by
 induction ns with
 | nil =>
  intro os hl _ e M a w h hr
  cases os with
  | nil=>exact hQ e M a w h hr
  | cons o os=>simp at hl
 | cons n ns ih =>
  intro os hl hk e M a w h hr
  cases os with
  | nil=>simp at hl
  | cons o os =>
   obtain ⟨x,e',h1,h2,h3⟩:=sZ hr
   rw [wpList]
   exact Aj hC hL (hk (n,o) (by simp)) h h1 (fun M' a' w' h'=>ih os (by simpa using hl) (fun p hp=>hk p (by simp [hp])) e' M' a' w' (by rw [h2];exact h') h3)
def pj (P : Program) (F : Fid) (nt : Nat) (ns : List ao) (ops : Array Oper) : Bool:=ns.length == ops.toList.length && (ns.zip ops.toList).all fun p=>o9 P F nt ops p.1 p.2
theorem pm (hC : bU P F C) (hL : NoL L) {ops : Array Oper} {ns : List ao} (hk : pj P F nt ns ops=true) {id : Nat} {K : Env -> Prop} {e : Env} (h : SR F nt S L w0 M0 (ac e) M a w) (hr : gB C K ns e) (hQ : ∀ e M a w,SR F nt S L w0 M0 (ac e) M a w -> K e -> Q .normal a w) :
  (Code.region id ops false).wp P Q a w:=by
 simp only [pj,Bool.and_eq_true,beq_iff_eq,List.all_eq_true] at hk
 exact wp_region_list (s6 hC hL hQ ns ops.toList hk.1 hk.2 e M a w h hr)
end
end Go.Gv

namespace Go.Gv
open Go.RowKit
def mz : Option Opd -> List Opd
 | some x=>[x]
 | none=>[]
def ah : NOp -> List Opd
 | .mov x=>[x]
 | .asg x=>[x]
 | .frz x=>[x]
 | .ldF _ x=>[x]
 | .stP x y=>[x,y]
 | .ldQ _ x=>[x]
 | .appQ _ _ _ x y=>[x,y]
 | .cpy _ x y=>[x,y]
 | .ldM _ x=>[x]
 | .nilo _=>[]
 | .nck x=>[x]
 | .boxF x=>[x]
 | .blsF _ _ _ ps=>ps.map fun p=>p.2
 | .blsX _ _ _ ps=>ps.map fun p=>p.2
 | .pick c a b=>[c,a,b]
 | .bin _ x y=>[x,y]
 | .beq _ _ x y=>[x,y]
 | .un _ x=>[x]
 | .conv _ x=>[x]
 | .fld _ _ _ x=>[x]
 | .idxA _ _ _ x i=>[x,i]
 | .idxS x i=>[x,i]
 | .ext _ x=>[x]
 | .fad _ x=>[x]
 | .iadS _ x i=>[x,i]
 | .iadA _ _ x i=>[x,i]
 | .ld _ _ x=>[x]
 | .box _ x=>[x]
 | .alc _=>[]
 | .mkm _ _=>[]
 | .mpl _ _ _ _ _ m x=>[m,x]
 | .mpu _ _ _ _ m x v=>[m,x,v]
 | .bld _ ps=>ps.map fun p=>p.2.2
 | .bls _ _ _ _ ps=>ps.map fun p=>p.2
 | .mks _ _ _ n c=>[n,c]
 | .len x=>[x]
 | .lens x=>[x]
 | .call _ xs _=>xs
 | .callv x xs=>x::xs
 | .callF _ xs=>xs
 | .callG _ xs=>xs
 | .callS _ x xs=>x::xs
 | .callN _ x xs=>x::xs
 | .callE _ x xs=>x::xs
 | .callL _ x xs=>x::xs
 | .callA _ xs=>xs
 | .clr _ x=>[x]
 | .mk _ xs=>xs
 | .slc _ x lo hi=>x::(mz lo++mz hi)
 | .slS x lo hi=>x::(mz lo++mz hi)
 | .slA _ _ x=>[x]
 | .slM _ _ x=>[x]
 | .cvS x=>[x]
 | .mn x y=>[x,y]
 | .mx x y=>[x,y]
 | .add64 x y c=>[x,y,c]
 | .sub64 x y c=>[x,y,c]
 | .st _ _ a v=>[a,v]
 | .app _ _ _ x y=>[x,y]
 | .dead=>[]
section
variable {C : Nat -> List D -> D -> List D -> Prop} {f g : Nat -> D}
def dB (f g : Nat -> D) (d : D) : Prop:=∀ b,dw b true d=true -> g b=f b
theorem gq (p : Pa) : bT p.root true p=true:=by cases p <;> simp [bT,Pa.root]
theorem cW {p : Pa} (h : g p.root=f p.root) : aT g p=aT f p:=by
 cases p <;> simp only [aT,Pa.root] at h ⊢ <;> rw [h]
theorem dB.ref {p : Pa} {k n : Nat} (h : dB f g (.ref p k n)) : g p.root=f p.root:=h _ (by simp only [dw,aJ];exact gq p)
theorem dB.adr {p : Pa} {i o : Nat} (h : dB f g (.adr p i o)) : g p.root=f p.root:=h _ (by simp only [dw,aJ];exact gq p)
theorem dB.mrf {b : Nat} (h : dB f g (.mrf b)) : g b=f b:=h _ (by simp [dw,aJ])
theorem dY {d : D} (h : ∀ b,aJ b true d=true -> g b=f b) : dp1 g d=dp1 f d /\ (aP g d ↔ aP f d):=by
 cases d <;> try exact ⟨rfl,Iff.rfl⟩
 case ref p k n =>
  have e:=cW (p:=p) (h _ (by simp only [aJ];exact gq p))
  simp only [dp1,aP,e,and_self]
 case adr p i off =>
  have e:=cW (p:=p) (h _ (by simp only [aJ];exact gq p))
  simp only [dp1,aP,e,and_self]
theorem fd {b : Nat} {ds : List D} {d : D} (h : d ∈ ds) (hm : aJ b true d=true) : ds.any (aJ b true)=true:=List.any_eq_true.2 ⟨d,h,hm⟩
theorem tT {d : D} (h : isX d=false) (ha : dB f g d) : dp g d=dp f d /\ (bv g d ↔ bv f d):=by
 have e : ∀ f : Nat -> D,dp f d=dp1 f d /\ (bv f d ↔ aP f d) /\ ∀ b,dw b true d=aJ b true d:=fun f=>by
  cases d <;> first | exact ⟨rfl,Iff.rfl,fun _=>rfl⟩ | (simp [isX] at h)
 obtain ⟨e1,e2,e3⟩:=e f
 obtain ⟨g1,g2,_⟩:=e g
 obtain ⟨h1,h2⟩:=dY (f:=f) (g:=g) (d:=d) (fun b hb=>ha b (by rw [e3];exact hb))
 exact ⟨by rw [g1,e1,h1],by rw [g2,e2];exact h2⟩
theorem gO {d : D} (h : dB f g d) : dp g d=dp f d /\ (bv g d ↔ bv f d):=by
 cases d
 case agx ds =>
  have e : ∀ d ∈ ds,dp1 g d=dp1 f d /\ (aP g d ↔ aP f d):=fun d hd=>dY fun b hb=>h b (fd hd hb)
  simp only [dp,bv]
  exact ⟨by rw [List.map_congr_left fun d hd=>(e d hd).1],⟨fun x d hd=>(e d hd).2.1 (x d hd),fun x d hd=>(e d hd).2.2 (x d hd)⟩⟩
 case tpx ds =>
  have e : ∀ d ∈ ds,dp1 g d=dp1 f d /\ (aP g d ↔ aP f d):=fun d hd=>dY fun b hb=>h b (fd hd hb)
  simp only [dp,bv]
  exact ⟨by rw [List.map_congr_left fun d hd=>(e d hd).1],⟨fun x d hd=>(e d hd).2.1 (x d hd),fun x d hd=>(e d hd).2.2 (x d hd)⟩⟩
 case ptx ds =>
  have e : ∀ d ∈ ds,dp1 g d=dp1 f d /\ (aP g d ↔ aP f d):=fun d hd=>dY fun b hb=>h b (fd hd hb)
  simp only [dp,bv]
  exact ⟨by rw [List.map_congr_left fun d hd=>(e d hd).1],⟨fun x d hd=>(e d hd).2.1 (x d hd),fun x d hd=>(e d hd).2.2 (x d hd)⟩⟩
 case rfx n sz ds=>exact ⟨rfl,Iff.rfl⟩
 case fnx k ds =>
  have e : ∀ d ∈ ds,dp1 g d=dp1 f d /\ (aP g d ↔ aP f d):=fun d hd=>dY fun b hb=>h b (fd hd hb)
  simp only [dp,bv]
  exact ⟨by rw [List.map_congr_left fun d hd=>(e d hd).1],⟨fun x d hd=>(e d hd).2.1 (x d hd),fun x d hd=>(e d hd).2.2 (x d hd)⟩⟩
 all_goals
  exact tT rfl h
theorem ki {d : D} {K : D -> List Nat -> Prop} (h : ∀ b,aJ b true d=true -> g b=f b) (hr : dG f d K) : dG g d K:=by
 unfold dG at hr ⊢
 split at hr
 ·rename_i b k n
  rw [h b (by simp [aJ,bT])]
  exact hr
 ·exact hr
theorem ku : ∀ {ds : List D} {K : List D -> List Nat -> Prop},(∀ d ∈ ds,∀ b,aJ b true d=true -> g b=f b) -> kj f ds K -> kj g ds K
 | [],K,_,hr=>hr
 | d::ds,K,h,hr=>by
  obtain ⟨c,bs,h1,h2⟩:=jI hr
  obtain ⟨cs,bs',h3,h4⟩:=jJ h1
  refine ki (h d (by simp)) (h2 _ (ku (fun d hd=>h d (by simp [hd])) (h4 _ h3)))
theorem iV {d : D} {ns : List Nat} {K : List D -> List Nat -> Prop} (h : dB f g d) (hr : fj f d ns K) : fj g d ns K:=by
 unfold fj at hr ⊢
 split at hr
 ·exact hr
 ·exact ⟨hr.1,ku (fun d hd b hb=>h b (fd hd hb)) hr.2⟩
 ·rename_i hne1 hne2
  refine ⟨hr.1,ki (fun b hb=>h b ?_) hr.2⟩
  cases d <;> first | exact hb | (exact absurd rfl (hne2 _)) | (simp [aJ] at hb)
theorem ju {sz : Nat} {ns : List Nat} : ∀ {ps : List (Nat × Opd)} {es : List (List D)} {bs : List Nat} {K : List (List D) -> List Nat -> Prop},(∀ p ∈ ps,vd g p.2=vd f p.2 /\ dB f g (vd f p.2)) -> eK f sz ns ps es bs K -> eK g sz ns ps es bs K
 | [],es,bs,K,_,hr=>hr
 | (i,x)::ps,es,bs,K,h,hr=>by
  obtain ⟨h0,hr⟩:=hr
  obtain ⟨e1,e2⟩:=h (i,x) (by simp)
  obtain ⟨cs,b1,⟨h1,h1'⟩,h2⟩:=gJ hr
  refine ⟨h0,?_⟩
  simp only at e1 e2
  rw [e1]
  exact iV e2 (h2 _ ⟨h1,ju (fun p hp=>h p (by simp [hp])) h1'⟩)
theorem ia {mv : Bool} {d : D} {sz : Nat} {K : List (List D) -> List Nat -> Prop} (h : dB f g d) (hr : eP f mv d sz K) : eP g mv d sz K:=by
 unfold eP at hr ⊢
 split at hr
 ·exact hr
 ·exact hr
 ·rename_i p k n
  cases mv with
  | true =>
   obtain ⟨h0,hr⟩:=hr
   refine ⟨h0,?_⟩
   cases p with
   | r b=>simp only at hr ⊢;rw [show g b=f b from h.ref];exact hr
   | n b i o=>exact hr
  | false=>simp only at hr ⊢;rw [cW h.ref];exact hr
 ·exact hr
theorem cE {x : Option Opd} {n : Nat} {K : Nat -> Prop} (h : ∀ y ∈ mz x,vd g y=vd f y) (hr : dH f x n K) : dH g x n K:=by
 unfold dH at hr ⊢
 split at hr
 ·exact hr
 ·rename_i y
  rw [h y (by simp [mz])]
  exact hr
theorem gT : ∀ {ps : List (Nat × Opd)} {es : List (List D)},(∀ p ∈ ps,vd g p.2=vd f p.2) -> fU g ps es=fU f ps es
 | [],_,_=>rfl
 | p::ps,es,h=>by
  simp only [fU]
  rw [h p (by simp)]
  exact gT fun q hq=>h q (by simp [hq])
theorem jh {sz len : Nat} {zs : List D} {ps : List (Nat × Opd)} (h : ∀ p ∈ ps,vd g p.2=vd f p.2) : iX g sz len zs ps=iX f sz len zs ps:=by
 unfold iX
 rw [List.map_congr_left (fun p hp=>by rw [h p hp])]
theorem sI {o : NOp} {K : D -> Prop} (hv : ∀ x ∈ ah o,vd g x=vd f x) (ha : ∀ x ∈ ah o,dB f g (vd f x)) (hr : res f K o) : res g K o:=by
 cases o with
 | ld n ag x =>
  have e:=hv x (by simp [ah]);have a:=ha x (by simp [ah])
  simp only [res,e] at hr ⊢
  split at hr
  ·rename_i ex;rw [ex] at a;rw [cW a.adr];exact hr
  ·exact hr
  ·exact hr
  ·exact hr
 | iadS sz x i =>
  have e:=hv x (by simp [ah]);have a:=ha x (by simp [ah]);have e2:=hv i (by simp [ah])
  simp only [res,e,e2] at hr ⊢
  split at hr
  ·exact hr
  ·exact hr
  ·rename_i ex _;rw [ex] at a;rw [cW a.ref];exact hr
  ·exact hr
 | slc sz x lo hi =>
  have e:=hv x (by simp [ah]);have a:=ha x (by simp [ah])
  have hlo : ∀ y ∈ mz lo,vd g y=vd f y:=fun y hy=>hv y (by simp [ah,hy])
  have hhi : ∀ y ∈ mz hi,vd g y=vd f y:=fun y hy=>hv y (by simp [ah,hy])
  simp only [res,e] at hr ⊢
  split at hr
  ·exact ⟨hr.1,cE hhi (gf hr.2 fun m h=>cE hlo h)⟩
  ·exact cE hhi (gf hr fun m h=>cE hlo h)
  ·rename_i ex
   rw [ex] at a;rw [cW a.ref]
   split at hr
   ·exact ⟨hr.1,cE hhi (gf hr.2 fun m h=>cE hlo h)⟩
   ·exact hr
  ·exact hr
 | slS x lo hi =>
  have e:=hv x (by simp [ah])
  have hlo : ∀ y ∈ mz lo,vd g y=vd f y:=fun y hy=>hv y (by simp [ah,hy])
  have hhi : ∀ y ∈ mz hi,vd g y=vd f y:=fun y hy=>hv y (by simp [ah,hy])
  simp only [res,e] at hr ⊢
  split at hr
  ·exact cE hhi (gf hr fun m h=>cE hlo h)
  ·exact hr
 | bld zs ps =>
  have e : ∀ p ∈ ps,vd g p.2.2=vd f p.2.2:=fun p hp=>hv _ (List.mem_map.2 ⟨p,hp,rfl⟩)
  simp only [res] at hr ⊢
  obtain ⟨h1,h2,h3⟩:=hr
  have e2 : (ps.all fun p=>isV (vd g p.2.2))=(ps.all fun p=>isV (vd f p.2.2)):=by
   rw [Bool.eq_iff_iff,List.all_eq_true,List.all_eq_true]
   exact ⟨fun h p hp=>by rw [<- e p hp];exact h p hp,fun h p hp=>by rw [e p hp];exact h p hp⟩
  have m1 : (ps.map fun p=>(p.1,p.2.1,vd g p.2.2))=ps.map fun p=>(p.1,p.2.1,vd f p.2.2):=List.map_congr_left fun p hp=>by rw [e p hp]
  have m2 : (ps.map fun p=>(p.1,p.2.1,b6 (vd g p.2.2)))=ps.map fun p=>(p.1,p.2.1,b6 (vd f p.2.2)):=List.map_congr_left fun p hp=>by rw [e p hp]
  rw [e2,m1,m2]
  exact ⟨fun p hp=>by rw [e p hp];exact h1 p hp,h2,h3⟩
 | mk k xs =>
  have e : ∀ x ∈ xs,vd g x=vd f x:=fun x hx=>hv x hx
  simp only [res] at hr ⊢
  obtain ⟨h1,h2,h3⟩:=hr
  have e2 : (xs.all fun x=>isV (vd g x))=(xs.all fun x=>isV (vd f x)):=by
   rw [Bool.eq_iff_iff,List.all_eq_true,List.all_eq_true]
   exact ⟨fun h p hp=>by rw [<- e p hp];exact h p hp,fun h p hp=>by rw [e p hp];exact h p hp⟩
  rw [e2,List.map_congr_left e]
  exact ⟨fun p hp=>by rw [e p hp];exact h1 p hp,h2,h3⟩
 | pick c x y=>simp only [res,hv c (by simp [ah]),hv x (by simp [ah]),hv y (by simp [ah])] at hr ⊢;exact hr
 | add64 x y c=>simp only [res,hv c (by simp [ah]),hv x (by simp [ah]),hv y (by simp [ah])] at hr ⊢;exact hr
 | sub64 x y c=>simp only [res,hv c (by simp [ah]),hv x (by simp [ah]),hv y (by simp [ah])] at hr ⊢;exact hr
 | bin op x y=>simp only [res,hv x (by simp [ah]),hv y (by simp [ah])] at hr ⊢;exact hr
 | beq op ks x y=>simp only [res,hv x (by simp [ah]),hv y (by simp [ah])] at hr ⊢;exact hr
 | idxA l s g x i=>simp only [res,hv x (by simp [ah]),hv i (by simp [ah])] at hr ⊢;exact hr
 | idxS x i=>simp only [res,hv x (by simp [ah]),hv i (by simp [ah])] at hr ⊢;exact hr
 | iadA l s x i=>simp only [res,hv x (by simp [ah]),hv i (by simp [ah])] at hr ⊢;exact hr
 | mn x y=>simp only [res,hv x (by simp [ah]),hv y (by simp [ah])] at hr ⊢;exact hr
 | mx x y=>simp only [res,hv x (by simp [ah]),hv y (by simp [ah])] at hr ⊢;exact hr
 | mov x=>simp only [res,hv x (by simp [ah])] at hr ⊢;exact hr
 | nck x=>simp only [res,hv x (by simp [ah])] at hr ⊢;exact hr
 | un op x=>simp only [res,hv x (by simp [ah])] at hr ⊢;exact hr
 | conv k x=>simp only [res,hv x (by simp [ah])] at hr ⊢;exact hr
 | slA l s x=>simp only [res,hv x (by simp [ah])] at hr ⊢;exact hr
 | cvS x=>simp only [res,hv x (by simp [ah])] at hr ⊢;exact hr
 | fld a b c x=>simp only [res,hv x (by simp [ah])] at hr ⊢;exact hr
 | ext i x=>simp only [res,hv x (by simp [ah])] at hr ⊢;exact hr
 | fad i x=>simp only [res,hv x (by simp [ah])] at hr ⊢;exact hr
 | len x=>simp only [res,hv x (by simp [ah])] at hr ⊢;exact hr
 | boxF x=>simp only [res,hv x (by simp [ah])] at hr ⊢;exact hr
 | blsF sz len zs ps =>
  have e : ∀ p ∈ ps,vd g p.2=vd f p.2:=fun p hp=>hv _ (List.mem_map.2 ⟨p,hp,rfl⟩)
  simp only [res] at hr ⊢
  rw [gT e]
  exact ⟨fun p hp=>by rw [e p hp];exact hr.1 p hp,hr.2⟩
 | blsX sz len zs ps =>
  have e : ∀ p ∈ ps,vd g p.2=vd f p.2:=fun p hp=>hv _ (List.mem_map.2 ⟨p,hp,rfl⟩)
  simp only [res] at hr ⊢
  rw [jh e]
  exact ⟨hr.1,fun p hp=>by rw [e p hp];exact hr.2.1 p hp,hr.2.2⟩
 | lens x=>simp only [res,hv x (by simp [ah])] at hr ⊢;exact hr
 | mpl sh kt et ok z m x =>
  have e:=hv m (by simp [ah]);have a:=ha m (by simp [ah]);have e2:=hv x (by simp [ah])
  simp only [res,e,e2] at hr ⊢
  split at hr
  ·rename_i b ex
   rw [ex] at a
   rw [a.mrf]
   exact hr
  ·exact hr
 | _=>simp only [res] at hr
theorem qx {o : NOp} {dst : Option Nat} {K : List (Nat × D) -> List (Nat × Bool) -> Prop} (hv : ∀ x ∈ ah o,vd g x=vd f x) (ha : ∀ x ∈ ah o,dB f g (vd f x)) (hr : ay C f dst K o) : ay C g dst K o:=by
 cases o with
 | frz x =>
  have e:=hv x (by simp [ah]);have a:=ha x (by simp [ah])
  cases dst with
  | none=>exact hr
  | some t =>
   simp only [ay,e] at hr ⊢
   split at hr
   ·rename_i c k n ex
    rw [ex] at a
    have hl:=dY (d:=.ref (.r c) k n) (f:=f) (g:=g) (fun b hb=>a b (by simp only [dw];exact hb))
    rw [hl.1]
    exact ⟨hl.2.2 hr.1,hr.2⟩
   ·exact hr
 | asg x =>
  have e:=hv x (by simp [ah]);have a:=ha x (by simp [ah])
  cases dst with
  | none=>exact hr
  | some t =>
   simp only [ay,e] at hr ⊢
   split at hr
   ·rename_i c k n ex
    rw [ex] at a
    rw [show g c=f c from a.ref]
    exact hr
   ·exact hr
 | ldQ q x =>
  have e:=hv x (by simp [ah]);have a:=ha x (by simp [ah])
  simp only [ay,e] at hr ⊢
  split at hr
  ·rename_i c i off ex
   rw [ex] at a
   rw [show g c=f c from a.adr]
   exact hr
  ·exact hr
 | appQ q sz by_ x y =>
  have e:=hv x (by simp [ah]);have a:=ha x (by simp [ah]);have e2:=hv y (by simp [ah]);have a2:=ha y (by simp [ah])
  cases dst with
  | none=>exact hr
  | some t =>
   simp only [ay,e,e2] at hr ⊢
   split at hr
   ·rename_i c i o k n ex
    rw [ex] at a
    obtain ⟨h0,hr⟩:=hr
    obtain ⟨rows,bs,⟨h1,h1',h2⟩,h3⟩:=dK hr
    refine ⟨h0,ia a2 (h3 _ ⟨h1,h1',?_⟩)⟩
    rw [show g c=f c from a.ref]
    exact h2
   ·exact hr
 | cpy sz x y =>
  have e:=hv x (by simp [ah]);have a:=ha x (by simp [ah]);have e2:=hv y (by simp [ah]);have a2:=ha y (by simp [ah])
  cases dst with
  | none=>exact hr
  | some t =>
   simp only [ay,e,e2] at hr ⊢
   obtain ⟨rows,bs,⟨h1,h1',h2⟩,h3⟩:=dK hr
   refine ia a2 (h3 _ ⟨h1,h1',?_⟩)
   split at h2
   ·rename_i c k n ex;rw [ex] at a;rw [show g c=f c from a.ref];exact h2
   ·exact h2
 | ldM n x =>
  have e:=hv x (by simp [ah]);have a:=ha x (by simp [ah])
  cases dst with
  | none=>exact hr
  | some t =>
   simp only [ay,e] at hr ⊢
   split at hr
   ·rename_i c i off ex
    rw [ex] at a
    rw [show g c=f c from a.adr]
    exact hr
   ·exact hr
 | stP x y =>
  have e:=hv x (by simp [ah]);have a:=ha x (by simp [ah]);have e2:=hv y (by simp [ah]);have a2:=ha y (by simp [ah])
  simp only [ay,e] at hr ⊢
  refine ⟨hr.1,?_⟩
  have hr:=hr.2
  split at hr
  ·rename_i s
   simp only [vd] at e2 a2
   rw [e2]
   refine ⟨hr.1,?_⟩
   have hr:=hr.2
   split at hr
   ·rename_i c i0 o0 ex
    rw [ex] at a2
    rw [show g c=f c from a2.adr]
    refine ⟨hr.1,hr.2.1,?_⟩
    have hr:=hr.2.2
    split at hr
    ·refine ⟨hr.1,?_⟩
     have hr:=hr.2
     split at hr
     ·rename_i b i1 o1 i off ex2
      rw [ex2] at a
      rw [show g b=f b from a.adr]
      exact hr
     ·exact hr
    ·exact hr
   ·exact hr
  ·exact hr
 | ldF n x =>
  have e:=hv x (by simp [ah]);have a:=ha x (by simp [ah])
  cases dst with
  | none=>exact hr
  | some t =>
   simp only [ay,e] at hr ⊢
   split at hr
   ·rename_i c i off ex
    rw [ex] at a
    rw [show g c=f c from a.adr]
    exact hr
   ·exact hr
 | slM len sz x =>
  have e:=hv x (by simp [ah]);have a:=ha x (by simp [ah])
  cases dst with
  | none=>exact hr
  | some t =>
   simp only [ay,e] at hr ⊢
   split at hr
   ·rename_i c i off ex
    rw [ex] at a
    rw [show g c=f c from a.adr]
    exact hr
   ·exact hr
 | nilo sz=>exact hr
 | alc zs=>exact hr
 | mkm kt et=>exact hr
 | mpu sh kt et z m x v =>
  have e:=hv m (by simp [ah]);have a:=ha m (by simp [ah]);have e2:=hv x (by simp [ah]);have e3:=hv v (by simp [ah])
  simp only [ay,e,e2,e3] at hr ⊢
  refine ⟨hr.1,?_⟩
  have hr:=hr.2
  split at hr
  ·rename_i b ex
   rw [ex] at a
   rw [a.mrf]
   exact hr
  ·exact hr
 | box ns x =>
  have e:=hv x (by simp [ah]);have a:=ha x (by simp [ah])
  cases dst with
  | none=>exact hr
  | some t=>simp only [ay,e] at hr ⊢;exact iV a hr
 | bls sz len zs ns ps =>
  cases dst with
  | none=>exact hr
  | some t=>simp only [ay] at hr ⊢;exact ju (fun p hp=>⟨hv _ (List.mem_map.2 ⟨p,hp,rfl⟩),ha _ (List.mem_map.2 ⟨p,hp,rfl⟩)⟩) hr
 | mks sz by_ zs n c =>
  have e:=hv n (by simp [ah]);have e2:=hv c (by simp [ah])
  cases dst with
  | none=>exact hr
  | some t=>simp only [ay,e,e2] at hr ⊢;exact hr
 | st n ns x v =>
  have e:=hv x (by simp [ah]);have a:=ha x (by simp [ah]);have e2:=hv v (by simp [ah]);have a2:=ha v (by simp [ah])
  simp only [ay,e,e2] at hr ⊢
  obtain ⟨h0,hr⟩:=hr
  refine ⟨h0,?_⟩
  obtain ⟨cs,bs,⟨h1,h2⟩,h3⟩:=gJ hr
  refine iV a2 (h3 _ ⟨h1,?_⟩)
  split at h2
  ·rename_i b i off ex;rw [ex] at a;rw [show g b=f b from a.adr];exact h2
  ·rename_i b i0 o0 i off ex;rw [ex] at a;rw [show g b=f b from a.adr];exact h2
  ·exact h2
 | app sz by_ mv x y =>
  have e:=hv x (by simp [ah]);have a:=ha x (by simp [ah]);have e2:=hv y (by simp [ah]);have a2:=ha y (by simp [ah])
  cases dst with
  | none=>exact hr
  | some t =>
   simp only [ay,e,e2] at hr ⊢
   obtain ⟨rows,bs,⟨h1,h2⟩,h3⟩:=dK hr
   refine ia a2 (h3 _ ⟨h1,?_⟩)
   split at h2
   ·exact h2
   ·rename_i c k n ex;rw [ex] at a;rw [show g c=f c from a.ref];exact h2
   ·rename_i c i o k n ex;rw [ex] at a;rw [show g c=f c from a.ref];exact h2
   ·exact h2
 | call k xs ms =>
  simp only [ay] at hr ⊢
  obtain ⟨h0,d,h1,h2,h3⟩:=hr
  have e : ∀ x ∈ xs,dpv g x=dpv f x /\ (bv g (vd g x) ↔ bv f (vd f x)):=fun x hx=>by
   have:=gO (ha x hx)
   unfold dpv
   rw [hv x hx]
   exact this
  refine ⟨fun x hx=>(e x hx).2.2 (h0 x hx),d,by rw [List.map_congr_left fun x hx=>(e x hx).1];exact h1,h2.imp id (fun h=>?_),h3⟩
  rw [List.all_eq_true] at h ⊢
  exact fun x hx=>by rw [hv x hx];exact h x hx
 | callG k xs =>
  have e : ∀ x ∈ xs,dpv g x=dpv f x /\ (bv g (vd g x) ↔ bv f (vd f x)):=fun x hx=>by
   have:=gO (ha x hx)
   unfold dpv
   rw [hv x hx]
   exact this
  simp only [ay] at hr ⊢
  rw [List.map_congr_left fun x hx=>(e x hx).1]
  exact ⟨fun x hx=>(e x hx).2.2 (hr.1 x hx),hr.2⟩
 | callF k xs =>
  have e : ∀ x ∈ xs,dpv g x=dpv f x /\ (bv g (vd g x) ↔ bv f (vd f x)):=fun x hx=>by
   have:=gO (ha x hx)
   unfold dpv
   rw [hv x hx]
   exact this
  simp only [ay] at hr ⊢
  rw [List.map_congr_left fun x hx=>(e x hx).1]
  exact ⟨fun x hx=>(e x hx).2.2 (hr.1 x hx),hr.2⟩
 | callS k x0 xs =>
  have e0:=hv x0 (by simp [ah]);have a0:=ha x0 (by simp [ah])
  have eb : ∀ b,∀ x ∈ xs,vd (fbE g b) x=vd (fbE f b) x /\ dB (fbE f b) (fbE g b) (vd (fbE f b) x):=fun b x hx=>by
   have h1:=hv x (by simp [ah,hx])
   have h2:=ha x (by simp [ah,hx])
   have hag : dB (fbE f b) (fbE g b) (vd f x):=fun c hc=>by
    unfold fbE
    split
    ·rfl
    ·exact h2 c hc
   cases x with
   | t t =>
    simp only [vd] at h1 hag ⊢
    unfold fbE
    split
    ·exact ⟨rfl,fun c hc=>by simp [dw,aJ] at hc⟩
    ·exact ⟨h1,hag⟩
   | c d=>exact ⟨rfl,hag⟩
  have ed : ∀ b,∀ x ∈ xs,dpv (fbE g b) x=dpv (fbE f b) x /\ (bv (fbE g b) (vd (fbE g b) x) ↔ bv (fbE f b) (vd (fbE f b) x)):=fun b x hx=>by
   have:=gO (eb b x hx).2
   unfold dpv
   rw [(eb b x hx).1]
   exact this
  have eo : ∀ b es',my (fbE g b) xs es' ↔ my (fbE f b) xs es':=fun b es'=>by
   unfold my
   rw [List.all_eq_true,List.all_eq_true]
   exact or_congr ⟨fun h x hx=>by rw [<- (eb b x hx).1];exact h x hx,fun h x hx=>by rw [(eb b x hx).1];exact h x hx⟩ Iff.rfl
  simp only [ay,e0] at hr ⊢
  split at hr
  ·rename_i b k n hvx
   rw [hvx] at a0
   have hb : g b=f b:=a0.ref
   rw [hb,List.map_congr_left fun x hx=>(ed b x hx).1]
   simp only [eo]
   obtain ⟨h1,hr⟩:=hr
   refine ⟨h1,?_⟩
   split at hr
   ·exact ⟨hr.1,hr.2.1,fun x hx=>(ed b x hx).2.2 (hr.2.2.1 x hx),hr.2.2.2⟩
   ·exact hr.elim
  ·exact hr.elim
 | callN k x0 xs =>
  have e0:=hv x0 (by simp [ah]);have a0:=ha x0 (by simp [ah])
  have e : ∀ x ∈ xs,vd g x=vd f x:=fun x hx=>hv x (by simp [ah,hx])
  simp only [ay,e0] at hr ⊢
  split at hr
  ·rename_i b i o k n hvx
   rw [hvx] at a0
   have hb : g b=f b:=a0.ref
   rw [hb,List.map_congr_left e]
   obtain ⟨h1,hr⟩:=hr
   refine ⟨h1,?_⟩
   split at hr
   ·obtain ⟨row0,h2,sz,es,h3,h4,h5,h6⟩:=hr
    exact ⟨row0,h2,sz,es,h3,h4,fun x hx=>by rw [e x hx];exact h5 x hx,h6⟩
   ·exact hr.elim
  ·exact hr.elim
 | callA k xs =>
  have e : ∀ x ∈ xs,vd g x=vd f x:=fun x hx=>hv x (by simp [ah,hx])
  simp only [ay] at hr ⊢
  rw [List.map_congr_left e]
  exact ⟨fun x hx=>by rw [e x hx];exact hr.1 x hx,hr.2⟩
 | callL k x0 xs =>
  have e0:=hv x0 (by simp [ah]);have a0:=ha x0 (by simp [ah])
  have e : ∀ x ∈ xs,vd g x=vd f x:=fun x hx=>hv x (by simp [ah,hx])
  simp only [ay,e0] at hr ⊢
  split at hr
  ·rename_i b i o hvx
   rw [hvx] at a0
   have hb : g b=f b:=a0.adr
   rw [hb,List.map_congr_left e]
   obtain ⟨h1,h2,hr⟩:=hr
   refine ⟨h1,h2,?_⟩
   split at hr
   ·exact ⟨hr.1,fun x hx=>by rw [e x hx];exact hr.2.1 x hx,hr.2.2⟩
   ·exact hr.elim
  ·exact hr.elim
 | clr zs x0 =>
  have e0:=hv x0 (by simp [ah]);have a0:=ha x0 (by simp [ah])
  simp only [ay,e0] at hr ⊢
  split at hr
  ·exact hr
  ·rename_i b k n hvx
   rw [hvx] at a0
   have hb : g b=f b:=a0.ref
   rw [hb]
   exact hr
  ·rename_i b i o k n hvx
   rw [hvx] at a0
   have hb : g b=f b:=a0.ref
   rw [hb]
   exact hr
  ·exact hr.elim
 | callE k x0 xs =>
  have e0:=hv x0 (by simp [ah]);have a0:=ha x0 (by simp [ah])
  have e : ∀ x ∈ xs,jL g x=jL f x /\ ∀ b,kP g b x ↔ kP f b x:=fun x hx=>by
   have h1:=hv x (by simp [ah,hx])
   have h2:=ha x (by simp [ah,hx])
   unfold jL kP
   rw [h1]
   revert h2
   generalize vd f x=d
   intro h2
   cases d <;> first | exact ⟨rfl,fun _=>Iff.rfl⟩ | skip
   rename_i p k n
   cases p with
   | r c =>
    have hb : g c=f c:=h2.ref
    exact ⟨by simp only [hb],fun _=>by simp only [hb]⟩
   | n c i o=>exact ⟨rfl,fun _=>Iff.rfl⟩
  simp only [ay,e0] at hr ⊢
  split at hr
  ·split at hr
   ·rename_i p k n hvx
    rw [hvx] at a0
    have hb : g p.root=f p.root:=a0.ref
    have hd : cV g p=cV f p:=by
     cases p with
     | r c=>rfl
     | n c i o=>simp only [cV];rw [show g c=f c from hb]
    simp only [cW hb,hd]
    rw [List.map_congr_left fun x hx=>(e x hx).1]
    split at hr
    ·obtain ⟨h1,h2,h3,h4,h5,h6⟩:=hr
     exact ⟨h1,h2,h3,h4,fun x hx=>((e x hx).2 _).2 (h5 x hx),h6⟩
    ·exact hr.elim
   ·exact hr.elim
  ·exact hr.elim
 | callv x0 xs =>
  have e0:=hv x0 (by simp [ah]);have a0:=ha x0 (by simp [ah])
  have e : ∀ x ∈ xs,dpv g x=dpv f x /\ (bv g (vd g x) ↔ bv f (vd f x)):=fun x hx=>by
   have:=gO (ha x (by simp [ah,hx]))
   unfold dpv
   rw [hv x (by simp [ah,hx])]
   exact this
  simp only [ay,e0] at hr ⊢
  split at hr
  ·obtain ⟨h0,d,h1,h2,h3⟩:=hr
   refine ⟨fun x hx=>(e x hx).2.2 (h0 x hx),d,by rw [List.map_congr_left fun x hx=>(e x hx).1];exact h1,h2.imp id (fun h=>?_),h3⟩
   rw [List.all_eq_true] at h ⊢
   exact fun x hx=>by rw [hv x (by simp [ah,hx])];exact h x hx
  ·rename_i k cs ex
   rw [ex] at a0
   obtain ⟨h0,h0',d,h1,h2,h3⟩:=hr
   have ec : ∀ c ∈ cs,dp1 g c=dp1 f c /\ (aP g c ↔ aP f c):=fun c hc=>dY fun b hb=>a0 b (fd hc hb)
   exact ⟨fun x hx=>(e x hx).2.2 (h0 x hx),fun c hc=>(ec c hc).2.2 (h0' c hc),d,by rw [List.map_congr_left fun x hx=>(e x hx).1,List.map_congr_left fun c hc=>(ec c hc).1];exact h1,h2,h3⟩
  ·exact hr
 | _=>(simp only [ay] at hr ⊢;exact sI hv ha hr)
end
end Go.Gv

namespace Go.Gv
open Go.RowKit
def aH : D -> List Nat
 | .ref p _ _=>[p.root]
 | .adr p _ _=>[p.root]
 | .mrf b=>[b]
 | _=>[]
def bz : D -> List Nat
 | .agx ds=>ds.flatMap aH
 | .tpx ds=>ds.flatMap aH
 | .ptx ds=>ds.flatMap aH
 | .rfx _ _ ds=>ds.flatMap aH
 | .fnx _ ds=>ds.flatMap aH
 | d=>aH d
theorem oY {b : Nat} {all : Bool} {p : Pa} (h : bT b all p=true) : b=p.root:=by
 cases p <;> simp [bT,Pa.root] at h ⊢ <;> simp_all
theorem kF {b : Nat} {all : Bool} {d : D} (h : aJ b all d=true) : b ∈ aH d:=by
 cases d <;> simp only [aJ,Bool.false_eq_true] at h
 case ref p k n=>simp [aH,oY h]
 case adr p i o=>simp [aH,oY h]
 case mrf c=>simp at h;simp [aH,h.2]
theorem i6 {b : Nat} {all : Bool} {d : D} (h : dw b all d=true) : b ∈ bz d:=by
 have part : ∀ ds : List D,ds.any (aJ b all)=true -> b ∈ ds.flatMap aH:=fun ds h=>by
  obtain ⟨d,h1,h2⟩:=List.any_eq_true.1 h
  exact List.mem_flatMap.2 ⟨d,h1,kF h2⟩
 cases d
 case agx ds=>exact part ds h
 case tpx ds=>exact part ds h
 case ptx ds=>exact part ds h
 case rfx n sz ds=>exact part ds h
 case fnx g ds=>exact part ds h
 all_goals (simp only [dw] at h;simp only [bz];exact kF h)
theorem jW (ks : List (Nat × Bool)) : aD ks .any=false:=by
 simp [aD,dw,aJ]
theorem lL {ks : List (Nat × Bool)} {d : D} (h : aD ks d=true) : ∃ k ∈ ks,dw k.1 k.2 d=true:=by
 simpa [aD] using h
theorem gn {ws : List (Nat × D)} {k : Nat} {d : D} (h : ws.lookup k=some d) : (k,d) ∈ ws:=by
 induction ws with
 | nil=>cases h
 | cons p ws ih =>
  obtain ⟨s,x⟩:=p
  rw [List.lookup_cons] at h
  cases e : k == s with
  | true=>rw [e] at h;simp at e h;subst e;subst h;simp
  | false=>rw [e] at h;simp [ih h]
theorem oS {ws : List (Nat × D)} {k : Nat} (h : ws.lookup k=none) : k ∉ ws.map (·.1):=by
 induction ws with
 | nil=>simp
 | cons p ws ih =>
  obtain ⟨s,x⟩:=p
  rw [List.lookup_cons] at h
  cases e : k == s with
  | true=>rw [e] at h;cases h
  | false=>rw [e] at h;simp at e;simp only [List.map_cons,List.mem_cons,not_or];exact ⟨e,ih h⟩
theorem fo {ws : List (Nat × D)} {k : Nat} (h : k ∉ ws.map (·.1)) : ws.lookup k=none:=by
 refine oT fun d hd=>h (List.mem_map.2 ⟨_,hd,rfl⟩)
structure Fam where
 n : Nat
 ws : Nat -> List (Nat × D)
 ks : Nat -> List (Nat × Bool)
 rd : Nat -> List Nat
 mn : Nat -> List Nat
 fr : Nat -> List (Nat × Nat)
 bef : Nat -> Nat -> Bool
 f0 : Nat -> D
def Fam.W (A : Fam) (i : Nat) : List Nat:=(A.ws i).map (·.1)
def Fam.E (A : Fam) (i : Nat) : (Nat -> D) -> (Nat -> D):=eff (A.ws i) (A.ks i)
def Fam.G (A : Fam) (l : Nat -> Bool) : Nat -> (Nat -> D)
 | 0=>A.f0
 | m + 1=>if l m then A.E m (A.G l m) else A.G l m
def Fam.St (A : Fam) (m : Nat) : Nat -> D:=A.G (fun _=>true) m
def fu (m : Nat) : D -> Option (List (Option D))
 | .blk _ es=>some (es.map fun r=>r[m]?)
 | _=>none
def Fam.Pres (A : Fam) (i k m : Nat) : Prop:=fu m (A.St (i + 1) k)=fu m (A.St i k)
def Fam.Apart (A : Fam) (i j : Nat) : Prop:=(∀ k ∈ A.W i,k ∉ A.rd j /\ k ∉ A.W j /\ ∀ m,(k,m) ∈ A.fr j -> A.Pres i k m) /\ ∀ k ∈ A.ks i,k.1 ∉ A.mn j
def Fam.Ind (A : Fam) (i j : Nat) : Prop:=A.Apart i j /\ A.Apart j i
structure Fam.Ok (A : Fam) : Prop where
 kills : ∀ i,i < A.n -> ∀ k ∈ A.ks i,k.1 ∈ A.W i
 vals : ∀ i,i < A.n -> ∀ p ∈ A.ws i,∀ b all,dw b all p.2=true -> b ∈ A.mn i \/ b ∈ A.W i
 closed : ∀ i,i < A.n -> ∀ k ∈ A.rd i,∀ b all,dw b all (A.St i k)=true -> b ∈ A.mn i
 fine : ∀ i,i < A.n -> ∀ p ∈ A.fr i,p.1 ∉ A.W i
 known : ∀ i,i < A.n -> ∀ k ∈ A.rd i,A.St i k ≠ .any
 pairs : ∀ i j,i < j -> j < A.n -> A.bef j i=true \/ A.Ind i j
section
variable {A : Fam}
theorem d8 {ws : List (Nat × D)} {ks : List (Nat × Bool)} {f : Nat -> D} {k : Nat} {d : D} (h : ws.lookup k=some d) : eff ws ks f k=d:=aK h
theorem cL {ws : List (Nat × D)} {ks : List (Nat × Bool)} {f : Nat -> D} {k : Nat} (h : ws.lookup k=none) : eff ws ks f k=if aD ks (f k) then .any else f k:=by
 unfold eff;rw [h]
theorem Fam.Ok.noKill (h : A.Ok) {i j : Nat} (hi : i < A.n) (hj : j < A.n) (hI : A.Apart j i) {p : Nat × D} (hp : p ∈ A.ws i) : aD (A.ks j) p.2=false:=by
 cases hm : aD (A.ks j) p.2 with
 | false=>rfl
 | true =>
  obtain ⟨k,h1,h2⟩:=lL hm
  have h3:=h.kills j hj k h1
  have h5:=(hI.1 _ h3).2.1
  have h4:=hI.2 k h1
  rcases h.vals i hi p hp _ _ h2 with h6 | h6
  ·exact absurd h6 h4
  ·exact absurd h6 h5
theorem Fam.Ok.comm (h : A.Ok) {i j : Nat} (hi : i < A.n) (hj : j < A.n) (hI : A.Ind i j) (f : Nat -> D) : A.E i (A.E j f)=A.E j (A.E i f):=by
 funext k
 unfold Fam.E
 cases h1 : (A.ws i).lookup k with
 | some d =>
  have hk : k ∈ A.W i:=List.mem_map.2 ⟨_,gn h1,rfl⟩
  have h2 : (A.ws j).lookup k=none:=fo (hI.1.1 k hk).2.1
  have h3:=h.noKill hi hj hI.2 (gn h1)
  rw [d8 h1,cL h2,d8 h1]
  simp only at h3
  rw [h3];rfl
 | none =>
  cases h2 : (A.ws j).lookup k with
  | some d =>
   have h3:=h.noKill hj hi hI.1 (gn h2)
   rw [cL h1,d8 h2,d8 h2]
   simp only at h3
   rw [h3];rfl
  | none =>
   rw [cL h1,cL h2,cL h2,cL h1]
   cases e1 : aD (A.ks i) (f k) <;> cases e2 : aD (A.ks j) (f k) <;> simp [e1,e2,jW]
def tk (A : Fam) (l : Nat -> Bool) : Prop:=∀ j,j < A.n -> l j=true -> ∀ i,i < j -> A.bef j i=true -> l i=true
open Classical in
noncomputable def cY (A : Fam) (l : Nat -> Bool) (m : Nat) (d : D) : D:=if ∃ u,u < m /\ l u=false /\ aD (A.ks u) d=true then .any else d
theorem mW (l : Nat -> Bool) (m : Nat) : cY A l m .any=.any:=by
 unfold cY;split <;> rfl
theorem z8 (h : A.Ok) {l : Nat -> Bool} (hs : tk A l) : ∀ m,m <= A.n -> ∀ k,(∀ u,u < m -> l u=false -> k ∉ A.W u) -> A.St m k=cY A l m (A.G l m k)
 | 0,_,k,_=>by
  unfold cY
  rw [if_neg (by rintro ⟨u,hu,_⟩;omega)]
  rfl
 | m + 1,hm,k,hk=>by
  have ih:=z8 h hs m (by omega) k (fun u hu=>hk u (by omega))
  have e1 : A.St (m + 1) k=A.E m (A.St m) k:=by simp [Fam.St,Fam.G]
  rw [e1]
  cases hl : l m with
  | true =>
   have e2 : A.G l (m + 1) k=A.E m (A.G l m) k:=by simp [Fam.G,hl]
   rw [e2]
   unfold Fam.E
   cases h1 : (A.ws m).lookup k with
   | some d =>
    rw [d8 h1,d8 h1]
    unfold cY
    rw [if_neg]
    rintro ⟨u,hu,hlu,hmu⟩
    have hum : u < m:=by
     rcases Nat.lt_or_ge u m with h | h
     ·exact h
     ·have : u=m:=by omega
      subst this;rw [hl] at hlu;cases hlu
    rcases h.pairs u m hum (by omega) with h2 | h2
    ·rw [hs m (by omega) hl u hum h2] at hlu;cases hlu
    ·have:=h.noKill (i:=m) (j:=u) (by omega) (by omega) h2.1 (gn h1)
     simp only at this
     rw [this] at hmu;cases hmu
   | none =>
    rw [cL h1,cL h1,ih]
    have same : ∀ d,cY A l (m + 1) d=cY A l m d:=fun d=>by
     unfold cY
     congr 1
     refine propext ⟨fun ⟨u,h3,h4,h5⟩=>⟨u,?_,h4,h5⟩,fun ⟨u,h3,h4,h5⟩=>⟨u,by omega,h4,h5⟩⟩
     rcases Nat.lt_or_ge u m with h | h
     ·exact h
     ·have : u=m:=by omega
      subst this;rw [hl] at h4;cases h4
    rw [same]
    generalize A.G l m k=g
    by_cases hc : ∃ u,u < m /\ l u=false /\ aD (A.ks u) g=true
    ·have e3 : cY A l m g=.any:=by unfold cY;rw [if_pos hc]
     rw [e3,jW]
     cases hg : aD (A.ks m) g with
     | true=>simp only [if_true];rw [mW];rfl
     | false=>simp only [Bool.false_eq_true,if_false];rw [e3]
    ·have e3 : cY A l m g=g:=by unfold cY;rw [if_neg hc]
     rw [e3]
     cases hg : aD (A.ks m) g with
     | true=>simp only [if_true];rw [mW]
     | false=>simp only [Bool.false_eq_true,if_false];rw [e3]
  | false =>
   have e2 : A.G l (m + 1) k=A.G l m k:=by simp [Fam.G,hl]
   rw [e2]
   unfold Fam.E
   rw [cL (fo (hk m (by omega) hl)),ih]
   generalize A.G l m k=g
   by_cases hc : ∃ u,u < m /\ l u=false /\ aD (A.ks u) g=true
   ·have e3 : cY A l m g=.any:=by unfold cY;rw [if_pos hc]
    have e4 : cY A l (m + 1) g=.any:=by
     unfold cY
     obtain ⟨u,h1,h2⟩:=hc
     rw [if_pos ⟨u,by omega,h2⟩]
    rw [e3,e4,jW];rfl
   ·have e3 : cY A l m g=g:=by unfold cY;rw [if_neg hc]
    rw [e3]
    cases hg : aD (A.ks m) g with
    | true =>
     have e4 : cY A l (m + 1) g=.any:=by unfold cY;exact if_pos ⟨m,by omega,hl,hg⟩
     rw [e4];rfl
    | false =>
     have e4 : cY A l (m + 1) g=g:=by
      unfold cY
      refine if_neg ?_
      rintro ⟨u,h1,h2,h3⟩
      rcases Nat.lt_or_ge u m with h | h
      ·exact hc ⟨u,h,h2,h3⟩
      ·have : u=m:=by omega
       subst this;rw [hg] at h3;cases h3
     rw [e4];rfl
theorem Fam.Ok.reads (h : A.Ok) {l : Nat -> Bool} (hs : tk A l) {j : Nat} (hj : j < A.n) (hlj : l j=false) (hb : ∀ i,i < j -> A.bef j i=true -> l i=true) : ∀ k ∈ A.rd j,A.G l A.n k=A.St j k:=by
 intro k hk
 have h1 : A.G l j k=A.St j k:=by
  have h2:=z8 h hs j (by omega) k (fun u hu hlu=>by
   rcases h.pairs u j hu hj with h3 | h3
   ·rw [hb u hu h3] at hlu;cases hlu
   ·exact fun h4=>(h3.1.1 k h4).1 hk)
  have h3:=h.known j hj k hk
  rw [h2] at h3 ⊢
  unfold cY at h3 ⊢
  split at h3
  ·exact absurd rfl h3
  ·rename_i hc;rw [if_neg hc]
 have h2 : ∀ m,j <= m -> m <= A.n -> A.G l m k=A.St j k:=by
  intro m
  induction m with
  | zero=>intro h3 _;have : j=0:=(by omega);subst this;exact h1
  | succ m ih =>
   intro h3 h4
   rcases Nat.lt_or_ge m j with h5 | h5
   ·have : j=m + 1:=by omega
    rw [<- this];exact h1
   ·have ihm:=ih h5 (by omega)
    cases hl : l m with
    | false=>simp [Fam.G,hl,ihm]
    | true =>
     have hjm : j < m:=by
      rcases Nat.lt_or_ge j m with h | h
      ·exact h
      ·have : j=m:=by omega
       subst this;rw [hl] at hlj;cases hlj
     rcases h.pairs j m hjm (by omega) with h6 | h6
     ·rw [hs m (by omega) hl j hjm h6] at hlj;cases hlj
     ·have h7 : (A.ws m).lookup k=none:=fo (fun h8=>(h6.2.1 k h8).1 hk)
      have h8 : aD (A.ks m) (A.St j k)=false:=by
       cases hm : aD (A.ks m) (A.St j k) with
       | false=>rfl
       | true =>
        obtain ⟨q,h9,h10⟩:=lL hm
        exact absurd (h.closed j hj k hk _ _ h10) (h6.2.2 q h9)
      simp only [Fam.G,hl,if_true,Fam.E]
      rw [cL h7,ihm,h8];rfl
 exact h2 A.n (by omega) (Nat.le_refl _)
theorem mL (m : Nat) (ks : List (Nat × Bool)) (d : D) : fu m (if aD ks d then .any else d)=fu m d:=by
 cases d
 case blk sz es=>rw [m5 rfl];rfl
 all_goals (split <;> rfl)
theorem ik (A : Fam) (f g : Nat -> D) (i k m : Nat) (h : k ∉ A.W i) : fu m (A.E i f k)=fu m (f k):=by
 unfold Fam.E
 rw [cL (fo h),mL]
theorem mM (A : Fam) (f g : Nat -> D) (i k : Nat) (h : k ∈ A.W i) : A.E i f k=A.E i g k:=by
 unfold Fam.E
 cases h1 : (A.ws i).lookup k with
 | none=>exact absurd h (oS h1)
 | some d=>rw [d8 h1,d8 h1]
theorem je (A : Fam) (m : Nat) : A.St (m + 1)=A.E m (A.St m):=by simp [Fam.St,Fam.G]
theorem Fam.Ok.readsC (h : A.Ok) {l : Nat -> Bool} (hs : tk A l) {j : Nat} (hj : j < A.n) (hlj : l j=false) (hb : ∀ i,i < j -> A.bef j i=true -> l i=true) : ∀ p ∈ A.fr j,fu p.2 (A.G l A.n p.1)=fu p.2 (A.St j p.1):=by
 rintro ⟨k,c⟩ hk
 simp only
 have hkj:=h.fine j hj _ hk
 simp only at hkj
 have low : ∀ m,m <= j -> fu c (A.G l m k)=fu c (A.St m k):=by
  intro m
  induction m with
  | zero=>intro _;rfl
  | succ m ih =>
   intro hm
   have ihm:=ih (by omega)
   rw [je]
   by_cases hw : k ∈ A.W m
   ·cases hl : l m with
    | true =>
     simp only [Fam.G,hl,if_true]
     rw [mM A _ (A.St m) m k hw]
    | false =>
     simp only [Fam.G,hl,Bool.false_eq_true,if_false]
     rcases h.pairs m j (by omega) hj with h1 | h1
     ·rw [hb m (by omega) h1] at hl;cases hl
     ·have h2:=(h1.1.1 k hw).2.2 c hk
      unfold Fam.Pres at h2
      rw [je] at h2
      rw [h2,ihm]
   ·rw [ik A _ (A.St m) m k c hw]
    cases hl : l m with
    | true =>
     simp only [Fam.G,hl,if_true]
     rw [ik A _ (A.St m) m k c hw,ihm]
    | false=>simp only [Fam.G,hl,Bool.false_eq_true,if_false];exact ihm
 have run : ∀ m,j <= m -> m <= A.n -> (∀ u,j < u -> u < m -> k ∈ A.W u -> A.Pres u k c) -> fu c (A.St m k)=fu c (A.St j k):=by
  intro m
  induction m with
  | zero=>intro h1 _ _;have : j=0:=(by omega);subst this;rfl
  | succ m ih =>
   intro h1 h2 h3
   rcases Nat.lt_or_ge m j with h4 | h4
   ·have : j=m + 1:=by omega
    rw [<- this]
   ·have ihm:=ih h4 (by omega) (fun u h5 h6 h7=>h3 u h5 (by omega) h7)
    by_cases hw : k ∈ A.W m
    ·have hjm : j < m:=by
      rcases Nat.lt_or_ge j m with h | h
      ·exact h
      ·have : j=m:=by omega
       subst this;exact absurd hw hkj
     have:=h3 m hjm (by omega) hw
     unfold Fam.Pres at this
     rw [this,ihm]
    ·rw [je,ik A _ (A.St m) m k c hw,ihm]
 have high : ∀ m,j <= m -> m <= A.n -> fu c (A.G l m k)=fu c (A.St j k):=by
  intro m
  induction m with
  | zero=>intro h1 _;have : j=0:=(by omega);subst this;exact low 0 (Nat.le_refl _)
  | succ m ih =>
   intro h1 h2
   rcases Nat.lt_or_ge m j with h4 | h4
   ·have : j=m + 1:=by omega
    rw [<- this];exact low j (Nat.le_refl _)
   ·have ihm:=ih h4 (by omega)
    cases hl : l m with
    | false=>simp only [Fam.G,hl,Bool.false_eq_true,if_false];exact ihm
    | true =>
     simp only [Fam.G,hl,if_true]
     by_cases hw : k ∈ A.W m
     ·have hjm : j < m:=by
       rcases Nat.lt_or_ge j m with h | h
       ·exact h
       ·have : j=m:=by omega
        subst this;rw [hl] at hlj;cases hlj
      have pres : ∀ u,j < u -> u < A.n -> k ∈ A.W u -> l u=true -> A.Pres u k c:=fun u h5 h6 h7 h8=>by
       rcases h.pairs j u h5 h6 with h9 | h9
       ·rw [hs u h6 h8 j h5 h9] at hlj;cases hlj
       ·exact (h9.2.1 k h7).2.2 c hk
      have h5:=run m h4 (by omega) (fun u h5 h6 h7=>pres u h5 (by omega) h7 (by
       rcases h.pairs u m h6 (by omega) with h9 | h9
       ·exact hs m (by omega) hl u h6 h9
       ·exact absurd hw (h9.1.1 k h7).2.1))
      have h6:=pres m hjm (by omega) hw hl
      unfold Fam.Pres at h6
      rw [mM A _ (A.St m) m k hw,<- je,h6,h5]
     ·rw [ik A _ (A.St m) m k c hw,ihm]
 exact high A.n (by omega) (Nat.le_refl _)
theorem Fam.Ok.more (h : A.Ok) {l l' : Nat -> Bool} (hs : tk A l) {j : Nat} (hj : j < A.n) (hlj : l j=false) (hj' : l' j=true) (hl' : ∀ i,i ≠ j -> l' i=l i) : A.G l' A.n=A.E j (A.G l A.n):=by
 have low : ∀ m,m <= j -> A.G l' m=A.G l m:=by
  intro m
  induction m with
  | zero=>intro _;rfl
  | succ m ih =>
   intro hm
   simp only [Fam.G]
   rw [ih (by omega),hl' m (by omega)]
 have high : ∀ m,j < m -> m <= A.n -> A.G l' m=A.E j (A.G l m):=by
  intro m
  induction m with
  | zero=>intro h1;omega
  | succ m ih =>
   intro h1 h2
   rcases Nat.lt_or_ge j m with h3 | h3
   ·have ihm:=ih h3 (by omega)
    simp only [Fam.G]
    rw [hl' m (by omega),ihm]
    cases hl : l m with
    | false=>rfl
    | true =>
     simp only [if_true]
     rcases h.pairs j m h3 (by omega) with h4 | h4
     ·rw [hs m (by omega) hl j h3 h4] at hlj;cases hlj
     ·exact (h.comm hj (by omega) h4 _).symm
   ·have : m=j:=by omega
    subst this
    simp only [Fam.G]
    rw [hj',hlj,low m (Nat.le_refl _)]
    rfl
 exact high A.n hj (Nat.le_refl _)
end
end Go.Gv
