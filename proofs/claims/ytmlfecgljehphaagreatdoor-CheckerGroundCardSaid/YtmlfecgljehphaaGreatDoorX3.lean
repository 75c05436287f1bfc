/-
  Texts of the proof: GvG0, GvF6, GvF7, GvF8, GvF9, GvF10, GvG, GvH, GvI0, GvI.
-/
import Derived.Test.YtmlfecgljehphaaGreatDoorX2
import Derived.Test.YtmlfecgljehphaaGreatDoorX1
import Derived.Orders
set_option linter.all false
namespace Go.Gv
open Go.RowKit
section
variable {C : Nat -> List D -> D -> List D -> Prop} {f : Nat -> D}
theorem ia {K K' : Nat -> Prop} {x : Option Opd} {n : Nat} (h : eD f x n K) (hk : ∀ m,K m -> K' m) : eD f x n K':=by
 unfold eD at h ⊢
 split at h
 ·exact hk _ h
 ·split at h
  ·exact ⟨h.1,hk _ h.2⟩
  ·exact h.elim
theorem eE {K : Nat -> Prop} {x : Option Opd} {n : Nat} (h : eD f x n K) : ∃ m,K m /\ ∀ K',K' m -> eD f x n K':=by
 unfold eD at h ⊢
 split at h
 ·exact ⟨_,h,fun K' hk=>hk⟩
 ·split at h
  ·exact ⟨_,h.2,fun K' hk=>⟨h.1,hk⟩⟩
  ·exact h.elim
theorem tj {K : D -> Prop} {o : NOp} (h : res f K o) : ∃ d,K d /\ ∀ K' : D -> Prop,K' d -> res f K' o:=by
 cases o with
 | mov x=>simp only [res] at h ⊢;exact ⟨_,h.2,fun K' hk=>⟨h.1,hk⟩⟩
 | nck x =>
  simp only [res] at h ⊢
  split at h
  ·exact ⟨_,h,fun K' hk=>hk⟩
  ·exact ⟨_,h,fun K' hk=>hk⟩
  ·exact ⟨_,h,fun K' hk=>hk⟩
  ·exact h.elim
 | pick c a b =>
  simp only [res] at h ⊢
  split at h
  ·rename_i v _
   cases v
   ·obtain ⟨h1,h2⟩:=h.2 rfl;exact ⟨_,h2,fun K' hk=>⟨fun e=>(by cases e),fun _=>⟨h1,hk⟩⟩⟩
   ·obtain ⟨h1,h2⟩:=h.1 rfl;exact ⟨_,h2,fun K' hk=>⟨fun _=>⟨h1,hk⟩,fun e=>(by cases e)⟩⟩
  ·exact h.elim
 | bin op x y =>
  simp only [res] at h ⊢
  split at h
  ·cases op <;> simp only [] at h ⊢ <;> first | exact ⟨_,h.2,fun K' hk=>⟨h.1,hk⟩⟩ | exact ⟨_,h.2.2,fun K' hk=>⟨h.1,h.2.1,hk⟩⟩
  ·cases op <;> simp only [] at h ⊢ <;> first | exact h.elim | exact ⟨_,h,fun K' hk=>hk⟩ | exact ⟨_,h.2,fun K' hk=>⟨h.1,hk⟩⟩
  ·exact h.elim
 | beq neg ks x y =>
  simp only [res] at h ⊢
  split at h
  ·exact ⟨_,h.2,fun K' hk=>⟨h.1,hk⟩⟩
  ·obtain ⟨h0,h⟩:=h
   split at h
   ·exact ⟨_,h,fun K' hk=>⟨h0,hk⟩⟩
   ·exact h.elim
  ·exact ⟨_,h.2,fun K' hk=>⟨h.1,hk⟩⟩
  ·rename_i es _ _
   rcases Nat.eq_zero_or_pos es.length with h0 | h0
   ·exact ⟨_,h.2.2 h0,fun K' hk=>⟨h.1,fun h1=>absurd h1 (by omega),fun _=>hk⟩⟩
   ·exact ⟨_,h.2.1 h0,fun K' hk=>⟨h.1,fun _=>hk,fun h1=>absurd h1 (by omega)⟩⟩
  ·exact h.elim
 | un op x =>
  simp only [res] at h ⊢
  split at h
  ·cases op <;> simp only [] at h ⊢ <;> first | exact h.elim | exact ⟨_,h,fun K' hk=>hk⟩
  ·cases op <;> simp only [] at h ⊢ <;> first | exact h.elim | exact ⟨_,h,fun K' hk=>hk⟩
  ·exact h.elim
 | conv k x =>
  simp only [res] at h ⊢
  split at h
  ·exact ⟨_,h,fun K' hk=>hk⟩
  ·exact h.elim
 | fld off n ag x =>
  simp only [res] at h ⊢
  split at h
  ·exact ⟨_,h.2,fun K' hk=>⟨h.1,hk⟩⟩
  ·cases ag <;> exact ⟨_,h.2,fun K' hk=>⟨h.1,hk⟩⟩
  ·exact h.elim
 | idxA len sz ag x i =>
  simp only [res] at h ⊢
  split at h
  ·exact ⟨_,h.2.2.2,fun K' hk=>⟨h.1,h.2.1,h.2.2.1,hk⟩⟩
  ·cases ag <;> exact ⟨_,h.2.2.2,fun K' hk=>⟨h.1,h.2.1,h.2.2.1,hk⟩⟩
  ·exact h.elim
 | slA len sz x =>
  simp only [res] at h ⊢
  split at h
  ·exact ⟨_,h.2.2.2,fun K' hk=>⟨h.1,h.2.1,h.2.2.1,hk⟩⟩
  ·exact h.elim
 | cvS x =>
  simp only [res] at h ⊢
  split at h
  ·exact ⟨_,h.2.2,fun K' hk=>⟨h.1,h.2.1,hk⟩⟩
  ·exact h.elim
 | idxS x i =>
  simp only [res] at h ⊢
  split at h
  ·obtain ⟨h0,b,h1,h2⟩:=h;exact ⟨_,h2,fun K' hk=>⟨h0,b,h1,hk⟩⟩
  ·exact h.elim
 | ext i x =>
  simp only [res] at h ⊢
  split at h
  ·obtain ⟨d,h1,h3⟩:=h;exact ⟨d,h3,fun K' hk=>⟨d,h1,hk⟩⟩
  ·obtain ⟨d,h1,h3⟩:=h;exact ⟨d,h3,fun K' hk=>⟨d,h1,hk⟩⟩
  ·exact h.elim
 | fad off x =>
  simp only [res] at h ⊢
  split at h
  ·exact ⟨_,h,fun K' hk=>hk⟩
  ·exact ⟨_,h,fun K' hk=>hk⟩
  ·exact ⟨_,h,fun K' hk=>hk⟩
  ·exact h.elim
 | iadS sz x i =>
  simp only [res] at h ⊢
  split at h
  ·obtain ⟨h0,e,h1,h2,h3⟩:=h;exact ⟨_,h3,fun K' hk=>⟨h0,e,h1,h2,hk⟩⟩
  ·obtain ⟨h0,h1,h2⟩:=h
   split at h2
   ·exact ⟨_,h2.2,fun K' hk=>⟨h0,h1,h2.1,hk⟩⟩
   ·exact h2.elim
  ·exact h.elim
 | iadA len sz x i =>
  simp only [res] at h ⊢
  split at h
  ·exact ⟨_,h.2.2,fun K' hk=>⟨h.1,h.2.1,hk⟩⟩
  ·exact ⟨_,h.2.2,fun K' hk=>⟨h.1,h.2.1,hk⟩⟩
  ·exact h.elim
 | ld n ag x =>
  simp only [res] at h ⊢
  split at h
  ·rename_i p i off ex
   split at h
   ·obtain ⟨r,h1,h2,h3⟩:=h
    cases ag with
    | false=>exact ⟨_,h3,fun K' hk=>⟨r,h1,h2,hk⟩⟩
    | true =>
     cases hall : (((r.drop off).take n).all isV) with
     | true=>exact ⟨_,h3.1 hall,fun K' hk=>⟨r,h1,h2,fun _=>hk,fun e=>(by rw [hall] at e;cases e)⟩⟩
     | false=>exact ⟨_,h3.2 hall,fun K' hk=>⟨r,h1,h2,fun e=>(by rw [hall] at e;cases e),fun _=>hk⟩⟩
   ·exact h.elim
  ·exact ⟨_,h.2,fun K' hk=>⟨h.1,hk⟩⟩
  ·rename_i ds ex
   obtain ⟨h0,h⟩:=h
   cases ag with
   | false=>exact ⟨_,h.2,fun K' hk=>⟨h0,h.1,hk⟩⟩
   | true =>
    cases hall : (ds.take n).all isV with
    | true=>exact ⟨_,h.1 hall,fun K' hk=>⟨h0,fun _=>hk,fun e=>(by cases e)⟩⟩
    | false=>exact ⟨_,h.2 hall,fun K' hk=>⟨h0,fun e=>(by cases e),fun _=>hk⟩⟩
  ·exact h.elim
 | blsF sz len zs parts =>
  simp only [res] at h ⊢
  exact ⟨_,h.2.2.2,fun K' hk=>⟨h.1,h.2.1,h.2.2.1,hk⟩⟩
 | boxF x =>
  simp only [res] at h ⊢
  split at h
  ·exact ⟨_,h,fun K' hk=>hk⟩
  ·exact ⟨_,h,fun K' hk=>hk⟩
  ·exact ⟨_,h.2,fun K' hk=>⟨h.1,hk⟩⟩
 | bld zs parts =>
  simp only [res] at h ⊢
  obtain ⟨h1,h2,h3⟩:=h
  cases hall : (parts.all fun p=>isV (vd f p.2.2)) with
  | true=>exact ⟨_,h2 hall,fun K' hk=>⟨h1,fun _=>hk,fun e=>(by cases e)⟩⟩
  | false=>exact ⟨_,h3 hall,fun K' hk=>⟨h1,fun e=>(by cases e),fun _=>hk⟩⟩
 | len x =>
  simp only [res] at h ⊢
  split at h
  ·exact ⟨_,h,fun K' hk=>hk⟩
  ·exact ⟨_,h,fun K' hk=>hk⟩
  ·exact ⟨_,h,fun K' hk=>hk⟩
  ·exact h.elim
 | lens x =>
  simp only [res] at h ⊢
  split at h
  ·exact ⟨_,h,fun K' hk=>hk⟩
  ·exact h.elim
 | mk g xs =>
  simp only [res] at h ⊢
  obtain ⟨h1,h2,h3⟩:=h
  cases hall : (xs.all fun x=>isV (vd f x)) with
  | true=>exact ⟨_,h2 hall,fun K' hk=>⟨h1,fun _=>hk,fun e=>(by cases e)⟩⟩
  | false=>exact ⟨_,h3 hall,fun K' hk=>⟨h1,fun e=>(by cases e),fun _=>hk⟩⟩
 | slc sz x lo hi =>
  simp only [res] at h ⊢
  split at h
  ·obtain ⟨hz,h⟩:=h
   obtain ⟨m,h1,h2⟩:=eE h
   obtain ⟨l,⟨h3,h4,h5⟩,h6⟩:=eE h1
   exact ⟨_,h5,fun K' hk=>⟨hz,h2 _ (h6 _ ⟨h3,h4,hk⟩)⟩⟩
  ·obtain ⟨m,h1,h2⟩:=eE h
   obtain ⟨l,⟨h3,h4,h5⟩,h6⟩:=eE h1
   exact ⟨_,h5,fun K' hk=>h2 _ (h6 _ ⟨h3,h4,hk⟩)⟩
  ·split at h
   ·obtain ⟨hz,h⟩:=h
    obtain ⟨m,h1,h2⟩:=eE h
    obtain ⟨l,⟨h3,h4,h5⟩,h6⟩:=eE h1
    exact ⟨_,h5,fun K' hk=>⟨hz,h2 _ (h6 _ ⟨h3,h4,hk⟩)⟩⟩
   ·exact h.elim
  ·exact h.elim
 | slS x lo hi =>
  simp only [res] at h ⊢
  split at h
  ·obtain ⟨m,h1,h2⟩:=eE h
   obtain ⟨l,⟨h3,h4,h5⟩,h6⟩:=eE h1
   exact ⟨_,h5,fun K' hk=>h2 _ (h6 _ ⟨h3,h4,hk⟩)⟩
  ·exact h.elim
 | mn x y =>
  simp only [res] at h ⊢
  split at h
  ·exact ⟨_,h.2,fun K' hk=>⟨h.1,hk⟩⟩
  ·exact h.elim
 | mx x y =>
  simp only [res] at h ⊢
  split at h
  ·exact ⟨_,h.2,fun K' hk=>⟨h.1,hk⟩⟩
  ·exact h.elim
 | add64 x y c =>
  simp only [res] at h ⊢
  split at h
  ·obtain ⟨h1,h2,h3,h4,h5,h6,h7⟩:=h;exact ⟨_,h7,fun K' hk=>⟨h1,h2,h3,h4,h5,h6,hk⟩⟩
  ·exact h.elim
 | sub64 x y c =>
  simp only [res] at h ⊢
  split at h
  ·obtain ⟨h1,h2,h3,h4,h5,h6,h7⟩:=h;exact ⟨_,h7,fun K' hk=>⟨h1,h2,h3,h4,h5,h6,hk⟩⟩
  ·exact h.elim
 | mpl sh kt et ok z m x =>
  simp only [res] at h ⊢
  split at h
  ·split at h
   ·obtain ⟨h1,h2,h3,h⟩:=h
    cases ok <;> exact ⟨_,h,fun K' hk=>⟨h1,h2,h3,hk⟩⟩
   ·exact h.elim
  ·exact h.elim
 | _=>simp only [res] at h
theorem kX {d : D} {K : D -> List Nat -> Prop} (h : eL f d K) : ∃ c bs,K c bs /\ ∀ K',K' c bs -> eL f d K':=by
 unfold eL at h ⊢
 split at h
 ·obtain ⟨h0,h⟩:=h
  split at h
  ·exact ⟨_,_,h.2.2,fun K' hk=>⟨h0,h.1,h.2.1,hk⟩⟩
  ·exact h.elim
 ·exact ⟨_,_,h.2,fun K' hk=>⟨h.1,hk⟩⟩
theorem kY : ∀ {ds : List D} {K : List D -> List Nat -> Prop},lH f ds K -> ∃ cs bs,K cs bs /\ ∀ K',K' cs bs -> lH f ds K'
 | [],K,h=>⟨_,_,h,fun K' hk=>hk⟩
 | d::ds,K,h=>by
  obtain ⟨c,bs,h1,h2⟩:=kX h
  obtain ⟨cs,bs',h3,h4⟩:=kY h1
  exact ⟨_,_,h3,fun K' hk=>h2 _ (h4 _ hk)⟩
theorem iI {d : D} {ns : List Nat} {K : List D -> List Nat -> Prop} (h : gg f d ns K) : ∃ cs bs,K cs bs /\ ∀ K',K' cs bs -> gg f d ns K':=by
 unfold gg at h ⊢
 split at h
 ·exact ⟨_,_,h.2.2,fun K' hk=>⟨h.1,h.2.1,hk⟩⟩
 ·obtain ⟨cs,bs,h1,h2⟩:=kY h.2
  exact ⟨_,_,h1.2,fun K' hk=>⟨h.1,h2 _ ⟨h1.1,hk⟩⟩⟩
 ·obtain ⟨c,bs,h1,h2⟩:=kX h.2
  exact ⟨_,_,h1,fun K' hk=>⟨h.1,h2 _ hk⟩⟩
theorem mV {sz : Nat} {ns : List Nat} : ∀ {ps : List (Nat × Opd)} {es : List (List D)} {bs : List Nat} {K : List (List D) -> List Nat -> Prop},fH f sz ns ps es bs K -> ∃ es' bs',K es' bs' /\ ∀ K',K' es' bs' -> fH f sz ns ps es bs K'
 | [],es,bs,K,h=>⟨_,_,h,fun K' hk=>hk⟩
 | (i,x)::ps,es,bs,K,h=>by
  obtain ⟨h0,h⟩:=h
  obtain ⟨cs,b1,⟨h1,h1'⟩,h2⟩:=iI h
  obtain ⟨es',bs',h3,h4⟩:=mV h1'
  exact ⟨_,_,h3,fun K' hk=>⟨h0,h2 _ ⟨h1,h4 _ hk⟩⟩⟩
theorem oC {mv : Bool} {d : D} {sz : Nat} {K : List (List D) -> List Nat -> Prop} (h : iC f mv d sz K) : ∃ es bs,K es bs /\ ∀ K',K' es bs -> iC f mv d sz K':=by
 unfold iC at h ⊢
 split at h
 ·exact ⟨_,_,h,fun K' hk=>hk⟩
 ·exact ⟨_,_,h.2,fun K' hk=>⟨h.1,hk⟩⟩
 ·cases mv with
  | true =>
   obtain ⟨h0,h⟩:=h
   split at h
   ·split at h
    ·exact ⟨_,_,h.2.2.2,fun K' hk=>⟨h0,h.1,h.2.1,h.2.2.1,hk⟩⟩
    ·exact h.elim
   ·exact h.elim
  | false =>
   simp only at h ⊢
   split at h
   ·exact ⟨_,_,h.2.2.2,fun K' hk=>⟨h.1,h.2.1,h.2.2.1,hk⟩⟩
   ·exact h.elim
 ·exact h.elim
theorem m9 {dst : Option Nat} {K : List (Nat × D) -> List (Nat × Bool) -> Prop} {o : NOp} (h : aK C f dst K o) : ∃ ws ks,K ws ks /\ ∀ K' : List (Nat × D) -> List (Nat × Bool) -> Prop,K' ws ks -> aK C f dst K' o:=by
 have dk : ∀ {d : D},fB dst K d -> ∃ ws ks,K ws ks /\ ∀ K' : List (Nat × D) -> List (Nat × Bool) -> Prop,K' ws ks -> fB dst K' d:=fun {d} h=>by
  unfold fB at h ⊢
  split at h
  ·exact ⟨_,_,h,fun K' hk=>hk⟩
  ·exact ⟨_,_,h,fun K' hk=>hk⟩
 have gen : ∀ (o : NOp),res f (fB dst K) o -> ∃ ws ks,K ws ks /\ ∀ K' : List (Nat × D) -> List (Nat × Bool) -> Prop,K' ws ks -> res f (fB dst K') o:=by
  intro o h
  obtain ⟨d,h1,h2⟩:=tj h
  obtain ⟨ws,ks,h3,h4⟩:=dk h1
  exact ⟨ws,ks,h3,fun K' hk=>h2 _ (h4 K' hk)⟩
 cases o with
 | frz x =>
  clear gen dk
  cases dst with
  | none=>exact h.elim
  | some t =>
   simp only [aK] at h ⊢
   split at h
   ·exact ⟨_,_,h.2,fun K' hk=>⟨h.1,hk⟩⟩
   ·exact ⟨_,_,h.2,fun K' hk=>⟨h.1,hk⟩⟩
 | asg x =>
  clear gen dk
  cases dst with
  | none=>exact h.elim
  | some t =>
   simp only [aK] at h ⊢
   split at h
   ·split at h
    ·rename_i e
     exact ⟨_,_,h,fun K' hk=>by rw [if_pos e];exact hk⟩
    ·rename_i e
     split at h
     ·exact ⟨_,_,h,fun K' hk=>by rw [if_neg e];exact hk⟩
     ·exact h.elim
   ·exact ⟨_,_,h.2,fun K' hk=>⟨h.1,hk⟩⟩
 | nilo sz =>
  clear gen dk
  simp only [aK] at h ⊢
  split at h
  ·exact ⟨_,_,h.2,fun K' hk=>⟨h.1,hk⟩⟩
  ·exact h.elim
 | box ns x =>
  clear gen dk
  simp only [aK] at h ⊢
  split at h
  ·obtain ⟨cs,bs,⟨h1,h2⟩,h3⟩:=iI h
   exact ⟨_,_,h2,fun K' hk=>h3 _ ⟨h1,hk⟩⟩
  ·exact h.elim
 | alc zs =>
  clear gen dk
  simp only [aK] at h ⊢
  split at h
  ·exact ⟨_,_,h,fun K' hk=>hk⟩
  ·exact h.elim
 | mkm kt et =>
  clear gen dk
  simp only [aK] at h ⊢
  split at h
  ·exact ⟨_,_,h,fun K' hk=>hk⟩
  ·exact h.elim
 | slM len sz x =>
  clear gen dk
  simp only [aK] at h ⊢
  split at h
  ·split at h
   ·obtain ⟨h1,h2,h3,h⟩:=h
    split at h
    ·obtain ⟨h4,h5,h6,h7,h⟩:=h
     exact ⟨_,_,h,fun K' hk=>⟨h1,h2,h3,h4,h5,h6,h7,hk⟩⟩
    ·exact h.elim
   ·exact h.elim
  ·exact h.elim
 | mpu sh kt et z m x v =>
  clear gen dk
  simp only [aK] at h ⊢
  obtain ⟨h0,h⟩:=h
  split at h
  ·split at h
   ·obtain ⟨h1,h2,h3,h4,h5,h⟩:=h
    exact ⟨_,_,h,fun K' hk=>⟨h0,h1,h2,h3,h4,h5,hk⟩⟩
   ·exact h.elim
  ·exact h.elim
 | callS g x xs =>
  clear gen dk
  simp only [aK] at h ⊢
  split at h
  ·obtain ⟨h2,h⟩:=h
   split at h
   ·obtain ⟨h3,h4,h9,h⟩:=h
    split at h
    ·obtain ⟨es',h5,h6,h8,h7,h⟩:=h
     exact ⟨_,_,h,fun K' hk=>⟨h2,h3,h4,h9,es',h5,h6,h8,h7,hk⟩⟩
    ·rcases h with ⟨es',h5,h6,h8,h7,h⟩ | ⟨hb,hz,es',h6,h8,h7,h⟩
     ·exact ⟨_,_,h,fun K' hk=>⟨h2,h3,h4,h9,.inl ⟨es',h5,h6,h8,h7,hk⟩⟩⟩
     ·exact ⟨_,_,h,fun K' hk=>⟨h2,h3,h4,h9,.inr ⟨hb,hz,es',h6,h8,h7,hk⟩⟩⟩
   ·exact h.elim
  ·exact h.elim
 | callN g x xs =>
  clear gen dk
  simp only [aK] at h ⊢
  split at h
  ·obtain ⟨h2,h⟩:=h
   split at h
   ·obtain ⟨row0,h3,sz,es,h4,h5,h6,es',h7,h8,h9,h⟩:=h
    exact ⟨_,_,h,fun K' hk=>⟨h2,row0,h3,sz,es,h4,h5,h6,es',h7,h8,h9,hk⟩⟩
   ·exact h.elim
  ·exact h.elim
 | callE g x xs =>
  clear gen dk
  simp only [aK] at h ⊢
  split at h
  ·split at h
   ·split at h
    ·obtain ⟨h1,h2,h3,h4,h5,es',h6,h7,h⟩:=h
     exact ⟨_,_,h,fun K' hk=>⟨h1,h2,h3,h4,h5,es',h6,h7,hk⟩⟩
    ·exact h.elim
   ·exact h.elim
  ·exact h.elim
 | callA g xs =>
  clear gen dk
  simp only [aK] at h ⊢
  obtain ⟨h0,h⟩:=h
  split at h
  ·obtain ⟨R,h1,h2,h⟩:=h
   exact ⟨_,_,h,fun K' hk=>⟨h0,R,h1,h2,hk⟩⟩
  ·exact h.elim
 | callL g x xs =>
  clear gen dk
  simp only [aK] at h ⊢
  split at h
  ·obtain ⟨h1,h2,h⟩:=h
   split at h
   ·obtain ⟨h3,h4,d,es',h5,h6,h⟩:=h
    exact ⟨_,_,h,fun K' hk=>⟨h1,h2,h3,h4,d,es',h5,h6,hk⟩⟩
   ·exact h.elim
  ·exact h.elim
 | clr zs x =>
  clear gen dk
  simp only [aK] at h ⊢
  split at h
  ·exact ⟨_,_,h,fun K' hk=>hk⟩
  ·split at h
   ·obtain ⟨h1,h2,h3,h4,h⟩:=h
    exact ⟨_,_,h,fun K' hk=>⟨h1,h2,h3,h4,hk⟩⟩
   ·exact h.elim
  ·split at h
   ·obtain ⟨row0,h1,sz,es,h2,h3,h4,h5,h⟩:=h
    exact ⟨_,_,h,fun K' hk=>⟨row0,h1,sz,es,h2,h3,h4,h5,hk⟩⟩
   ·exact h.elim
  ·exact h.elim
 | callF g xs =>
  clear gen dk
  simp only [aK] at h ⊢
  obtain ⟨h0,h⟩:=h
  split at h
  ·obtain ⟨sz,es,h1,h2⟩:=h
   exact ⟨_,_,h2,fun K' hk=>⟨h0,sz,es,h1,hk⟩⟩
  ·exact h.elim
 | bls sz len zs ns parts =>
  clear gen dk
  simp only [aK] at h ⊢
  split at h
  ·obtain ⟨es,bs,⟨h1,h2,h3⟩,h4⟩:=mV h
   exact ⟨_,_,h3,fun K' hk=>h4 _ ⟨h1,h2,hk⟩⟩
  ·exact h.elim
 | mks sz by_ zs n c =>
  clear gen dk
  simp only [aK] at h ⊢
  split at h
  ·split at h
   ·exact ⟨_,_,h.2.2.2,fun K' hk=>⟨h.1,h.2.1,h.2.2.1,hk⟩⟩
   ·exact h.elim
  ·exact h.elim
 | st n ns a v =>
  simp only [aK] at h ⊢
  obtain ⟨h0,h⟩:=h
  obtain ⟨cs,bs,⟨h1,h2⟩,h3⟩:=iI h
  split at h2
  ·obtain ⟨h4,h2⟩:=h2
   split at h2
   ·rename_i hf
    obtain ⟨r,h5,h6,h7⟩:=h2
    exact ⟨_,_,h7,fun K' hk=>⟨h0,h3 _ ⟨h1,h4,⟨r,h5,h6,hk⟩⟩⟩⟩
   ·exact h2.elim
  ·obtain ⟨h4,h4',h2⟩:=h2
   split at h2
   ·rename_i hf
    obtain ⟨row0,h5,sz,es,h6,r,h7,h8,h9⟩:=h2
    exact ⟨_,_,h9,fun K' hk=>⟨h0,h3 _ ⟨h1,h4,h4',⟨row0,h5,sz,es,h6,r,h7,h8,hk⟩⟩⟩⟩
   ·exact h2.elim
  ·exact h2.elim
 | app sz by_ mv x y =>
  clear gen dk
  simp only [aK] at h ⊢
  split at h
  ·obtain ⟨rows,bs,⟨h1,h2⟩,h3⟩:=oC h
   split at h2
   ·exact ⟨_,_,h2.2,fun K' hk=>h3 _ ⟨h1,h2.1,hk⟩⟩
   ·obtain ⟨h4,h5,h2⟩:=h2
    split at h2
    ·rename_i hf
     obtain ⟨h6,h7,h8,h9⟩:=h2
     exact ⟨_,_,h9,fun K' hk=>h3 _ ⟨h1,h4,h5,⟨h6,h7,h8,hk⟩⟩⟩
    ·exact h2.elim
   ·obtain ⟨h4,h5,h2⟩:=h2
    split at h2
    ·rename_i hf
     obtain ⟨row0,h6,es,h7,h8,h9,h10⟩:=h2
     exact ⟨_,_,h10,fun K' hk=>h3 _ ⟨h1,h4,h5,⟨row0,h6,es,h7,h8,h9,hk⟩⟩⟩
    ·exact h2.elim
   ·exact h2.elim
  ·exact h.elim
 | callG g xs =>
  simp only [aK] at h ⊢
  obtain ⟨h0,d,h1,h3⟩:=h
  obtain ⟨ws,ks,h4,h5⟩:=dk h3
  exact ⟨ws,ks,h4,fun K' hk=>⟨h0,d,h1,h5 K' hk⟩⟩
 | call g xs ms =>
  simp only [aK] at h ⊢
  obtain ⟨h0,d,h1,h2,h3⟩:=h
  obtain ⟨ws,ks,h4,h5⟩:=dk h3
  exact ⟨ws,ks,h4,fun K' hk=>⟨h0,d,h1,h2,h5 K' hk⟩⟩
 | callv x xs =>
  simp only [aK] at h ⊢
  split at h
  ·obtain ⟨h0,d,h1,h2,h3⟩:=h
   obtain ⟨ws,ks,h4,h5⟩:=dk h3
   exact ⟨ws,ks,h4,fun K' hk=>⟨h0,d,h1,h2,h5 K' hk⟩⟩
  ·obtain ⟨h0,h0',d,h1,h2,h3⟩:=h
   obtain ⟨ws,ks,h4,h5⟩:=dk h3
   exact ⟨ws,ks,h4,fun K' hk=>⟨h0,h0',d,h1,h2,h5 K' hk⟩⟩
  ·exact h.elim
 | _=>(simp only [aK] at h ⊢;exact gen _ h)
end
end Go.Gv

namespace Go.Gv
open Go.RowKit
section
variable {P : Program} {F : Fid} {C : Nat -> List D -> D -> List D -> Prop} {nt : Nat} {S : Nat -> Prop} {L : Nat -> Option Loc} {w0 : World} {M0 : Mem} {f : Nat -> D} {M : Mem} {a : Act} {w w' : World} {o : Oper} {d : D} {Q : Exit -> Act -> World -> Prop} {ρ : Pa -> Loc} {ω : Nat -> Option Pa} {New : Nat -> Prop} {K : List (Nat × D) -> List (Nat × Bool) -> Prop}
theorem j6 {t b : Nat} {d x : D} {q : Nat × D} (hq : isB q.2=true \/ q.2=.any) : eff [(t,d),(b,x)] [(b,true)] (eff [q] [] f)=eff [(t,d),(b,x),q] [(b,true)] f:=by
 funext s
 obtain ⟨c,y⟩:=q
 unfold eff
 by_cases e1 : s=t
 ·subst e1;simp
 ·have h1 : (s == t)=false:=by simpa using e1
  by_cases e2 : s=b
  ·subst e2;simp [List.lookup_cons,h1]
  ·have h2 : (s == b)=false:=by simpa using e2
   by_cases e3 : s=c
   ·subst e3
    simp only [List.lookup_cons,h1,h2,List.lookup_nil,beq_self_eq_true]
    rcases hq with hq | hq
    ·rw [uy hq];rfl
    ·simp only at hq
     subst hq
     simp [aL,dT,aQ]
   ·have h3 : (s == c)=false:=by simpa using e3
    simp only [List.lookup_cons,h1,h2,h3,List.lookup_nil,lu,Bool.false_eq_true,if_false]
theorem nU (p : Pa) : (dC f p).1=p.root:=by
 cases p with
 | r c=>rfl
 | n c i o =>
  simp only [dC,Pa.root]
  split <;> rfl
theorem tW (p : Pa) : isB (dC f p).2=true \/ (dC f p).2=.any:=by
 cases p with
 | r c=>exact .inr rfl
 | n c i o =>
  simp only [dC]
  split
  ·exact .inl rfl
  ·exact .inr rfl
theorem wC {b i off sz : Nat} {es : List (List D)} (hg : bB f (.n b i off)=some (sz,es)) : ∃ sz0 es0 row0,f b=.blk sz0 es0 /\ es0[i]? = some row0 /\ row0[off]? = some (.own sz es):=by
 simp only [bB] at hg
 split at hg
 ·rename_i sz' es' e
  split at hg
  ·rename_i sz2 r hr
   simp only [Option.some.injEq,Prod.mk.injEq] at hg
   obtain ⟨rfl,rfl⟩:=hg
   cases hi : es'[i]? with
   | none=>rw [hi] at hr;simp at hr
   | some row =>
    rw [hi] at hr
    exact ⟨sz',es',row,e,hi,by simpa using hr⟩
  ·cases hg
 ·cases hg
theorem SR.leave (h : SR F nt S L w0 M0 f M a w) (ho : Own F L (fun k=>S k \/ w0.heap.size <= k) f M a w ρ ω) {p : Pa} {sz : Nat} {es : List (List D)} (hg : bB f p=some (sz,es)) (hch : Ch S w0 w') (hsz : w.heap.size <= w'.heap.size) (hholds : ∀ p v,M p=some v -> w'.cell? p=some v)
  (hk : ∀ k q,ω k=some q -> q ≠ p -> w'.heap[k]? = w.heap[k]?) : SR F nt S L w0 M0 (eff [dC f p] [] f) M a w' where
 hnt:=h.hnt
 size:=h.size
 defers:=h.defers
 ch:=hch
 holds:=hholds
 ext:=h.ext
 fresh:=h.fresh
 own:=by
  have hp:=dE ho hg
  obtain ⟨sz0,es0,hf⟩:=(ho.get hp hg).2
  have hlk : ∀ s,s ≠ p.root -> [dC f p].lookup s=none:=fun s hs=>by
   have:=fm (b:=(dC f p).1) (d:=(dC f p).2) (s:=s) (by rw [nU];exact hs)
   exact this
  refine ⟨ρ,ω,ho.step (ks:=[]) (fun p hp=>absurd rfl hp) (Mem.le_refl _) hsz (fun t ht=>.inl ?_) (fun c hc=>?_) (fun k q e=>.inl ⟨q,e⟩) ho.apart (fun c l hc hl hB=>⟨rfl,?_⟩)⟩
  ·rcases bG (f:=f) (ks:=[]) (hlk t (by omega)) with h2 | h2
   ·exact .inl h2
   ·exact .inr ⟨h2.1,rfl,h2.2⟩
  ·by_cases e : c=p.root
   ·cases p with
    | r b =>
     left;left
     have e : c=b:=e
     subst e
     rw [aV (d:=.any) (by simp [dC])];rfl
    | n b i off =>
     have e : c=b:=e
     subst e
     right
     obtain ⟨sz1,es1,row0,hf1,hi0,ho0⟩:=wC hg
     have hf1' : f c=.blk sz0 es0:=hf
     rw [hf1'] at hf1
     cases hf1
     have hdd : dC f (.n c i off)=(c,.blk sz0 (b5 es0 i off 1 [.any])):=by simp only [dC,hf1']
     have hlt : off < row0.length:=(List.getElem?_eq_some_iff.1 ho0).1
     refine .inl ⟨sz0,b5 es0 i off 1 [.any],aV (by rw [hdd];simp),?_⟩
     rcases ho.roots c sz0 es0 hc hf1' with ⟨e0,_⟩ | ⟨hω,h0,vs,T,h1,h2,h3,h4,h5⟩
     ·rw [e0] at hi0;simp at hi0
     ·refine .inr ⟨hω,h0,vs,T,(hk _ _ hω (by simp)).trans h1,h2,by rw [fy];exact h3,fT h4 hi0 (by omega) rfl,fun i' r off' d hi hr=>?_⟩
      rcases js hi0 (show off + 1 <= row0.length by omega) rfl hi hr with ⟨rfl,g1,g2,g3⟩ | ⟨g1,r0,g2,g3⟩
      ·have : off'=off:=by omega
       subst this
       simp at g3
       subst g3
       obtain ⟨v,k1,k2⟩:=h5 i' row0 off' _ hi0 ho0
       exact ⟨v,k1,by simp [cS,af]⟩
      ·obtain ⟨v,k1,k2⟩:=h5 i' r0 off' d g2 g3
       exact ⟨v,k1,cS.frame k2 (Mem.le_refl _) ⟨rfl,fun e=>⟨e,hk _ _ e (by
        intro h;cases h
        exact g1 ⟨rfl,by omega,by omega⟩)⟩⟩⟩
   ·left
    rcases ci (f:=f) (ks:=[]) (hlk c e) with h1 | h1
    ·exact .inl h1
    ·exact .inr ⟨h1,fun q hq=>⟨rfl,fun e'=>⟨e',hk _ _ e' (by rintro rfl;exact e hq.symm)⟩⟩⟩
  ·by_cases e : c=p.root
   ·rw [e,hf];rfl
   ·rcases ci (f:=f) (ks:=[]) (hlk c e) with h1 | h1
    ·rw [hB] at h1;cases h1
    ·rw [<- h1];exact hB
theorem SR.newRow0 (h : SR F nt S L w0 M0 f M a w) {sz : Nat} {es' : List (List D)} {v : Value} (hu : ∀ e ∈ es',e.length=sz /\ ∀ c ∈ e,bx c=true) (hb : Bel w w') (hn : fd F M w w' sz es' v) {t b' : Nat} (ht : t < nt) (hb0 : 10000 <= b') (hL : L b'=none) :
  SR F nt S L w0 M0 (eff [(t,.ref (.r b') 0 es'.length),(b',.blk sz es')] [(b',true)] f) M (a.put (some t) v) w':=by
 obtain ⟨B,o,T,us,cap,rfl,hB,hh,hcap,⟨hlen,hmc⟩,hrep⟩:=hn
 have hle : o + es'.length * sz <= us.length:=by
  have:=Nat.mul_le_mul_right sz hcap
  omega
 exact h.makeAt (t:=t) (b:=b') (B:=B) (o:=o) (bs:=[]) (es:=es') (sz:=sz) (src:=fun _ _=>none) (vs:=us) (T:=T) (d:=.ref (.r b') 0 es'.length) (v:=.slice (some ⟨B,o,none⟩) es'.length cap) ht hb0 hL hb hB hh hle (fun e he=>(hu e he).1)
  (fun i r off c hi hr=>by
   obtain ⟨u,k1,k2⟩:=hrep i r off c hi hr
   exact ⟨u,k1,.inl ⟨eP ((hu r (List.mem_of_getElem? hi)).2 c (List.mem_of_getElem? hr)),k2⟩⟩) (fun _ _ _ _ _ e=>(by cases e)) (fun _ _ _ e=>(by cases e))
  (fun ρ M e=>by
   rw [aw rfl]
   simp only [aA,e]
   exact .inr ⟨cap,by simp,hcap,by simpa using hlen,hmc⟩)
theorem ti {b : Option Nat} {v : Value} (h : isO d=false) : HF F M w b d v ↔ af F M d v:=by
 cases d <;> first | exact Iff.rfl | (simp [isO] at h)
theorem sW (h : isV d=true) : isO d=false:=by
 cases d <;> first | rfl | (simp [isV] at h)
theorem jF (hO : Own F L New f M a w ρ ω) {p : Pa} {k n sz : Nat} {es : List (List D)} {v : Value} (hg : bB f p=some (sz,es)) (hkn : k + n <= es.length) (hv : aA F M ρ (.ref p k n) v) (hfl : ∀ e ∈ (es.drop k).take n,∀ c ∈ e,isO c=false) :
  (∃ A,v=.slice A 0 0 /\ n=0) \/ ∃ (cap : Nat) (us : List Value) (T : TypeId),v=.slice (some ⟨(ρ p).blk,(ρ p).base + k * sz,none⟩) n cap /\ (n <= cap /\ cap <= 9223372036854775807) /\ (ρ p).base + k * sz + cap * sz <= (ρ p).len /\ ω (ρ p).blk=some p /\ (ρ p).sz=sz /\
   w.heap[(ρ p).blk]? = some (.cells us.toArray T (0,0)) /\ us.length=(ρ p).len /\ (∀ e ∈ es,e.length=sz) /\
   (∀ i r off d,((es.drop k).take n)[i]? = some r -> r[off]? = some d -> ∃ u,us[(ρ p).base + k * sz + i * sz + off]? = some u /\ af F M d u):=by
 have hp:=dE hO hg
 obtain ⟨hpath,_⟩:=hO.get hp hg
 simp only [aA] at hv
 rcases hv with ⟨h0,A,hv⟩ | ⟨cap,hv,hcap,hcl,hmc⟩
 ·exact .inl ⟨A,hv,h0⟩
 ·rcases hpath with ⟨e0,e1,e2,e3⟩ | ⟨hω,g0,us,T,g1,g2,g3,g4,g5⟩
  ·have hn0 : n=0:=by rw [e0] at hkn;simp at hkn;omega
   have hc0 : cap=0:=by
    rw [e1,e2] at hcl
    rcases Nat.eq_zero_or_pos cap with h | h
    ·exact h
    ·have:=Nat.mul_pos (show 0 < k + cap by omega) e3;omega
   subst hc0
   exact .inl ⟨_,by rw [hv,hn0],hn0⟩
  ·have e1 : (k + cap) * sz=k * sz + cap * sz:=Nat.add_mul _ _ _
   rw [g0,e1] at hcl
   refine .inr ⟨cap,us,T,by rw [hv,g0],⟨hcap,hmc⟩,by omega,hω,g0,g1,g2,g4,fun i r off d h1 h2=>?_⟩
   have hin : i < n:=by have:=(List.getElem?_eq_some_iff.1 h1).1;simp at this;omega
   have hO':=hfl r (List.mem_of_getElem? h1) d (List.mem_of_getElem? h2)
   rw [List.getElem?_take_of_lt hin,List.getElem?_drop] at h1
   obtain ⟨u,k1,k2⟩:=g5 (k + i) r off d h1 h2
   refine ⟨u,?_,?_⟩
   ·rw [<- k1,Nat.add_mul];congr 1;omega
   ·cases p with
    | r b =>
     have k2' : cS F M ω ρ w b (k + i) off d u:=k2
     rwa [a8 hO'] at k2'
    | n b i' o'=>exact k2
theorem SR.fillN (h : SR F nt S L w0 M0 f M a w) (ho : Own F L (fun k=>S k \/ w0.heap.size <= k) f M a w ρ ω) {b sz0 i0 o0 sz : Nat} {es0 es es' : List (List D)} {row0 : List D} (hf : f b=.blk sz0 es0) (hi0 : es0[i0]? = some row0) (ho0 : row0[o0]? = some (.own sz es)) (hlen : es'.length=es.length)
  (hch : Ch S w0 w') (hsz : w.heap.size <= w'.heap.size) (hholds : ∀ p v,M p=some v -> w'.cell? p=some v) (hnew : ct ω ρ w' (.n b i0 o0) sz es' (fun _ _ d v=>af F M d v)) (hk : ∀ k q,ω k=some q -> q ≠ .n b i0 o0 -> w'.heap[k]? = w.heap[k]?) :
  SR F nt S L w0 M0 (eff [(b,.blk sz0 (b5 es0 i0 o0 1 [.own sz es']))] [] f) M a w' where
 hnt:=h.hnt
 size:=h.size
 defers:=h.defers
 ch:=hch
 holds:=hholds
 ext:=h.ext
 fresh:=h.fresh
 own:=⟨ρ,ω,ho.setN hf hi0 ho0 hlen hsz (Mem.le_refl _) ho.apart hnew hk⟩
theorem pS {dst : Option Nat} {b : Nat} {x : D} : (match dst with | some t=>eff [(t,D.tup [])] [] (eff [(b,x)] [] f) | none=>eff [(b,x)] [] f)=eff (dM dst++[(b,x)]) [] f:=by
 cases dst with
 | none=>rfl
 | some t =>
  funext s
  unfold eff
  by_cases q : s=t
  ·subst q
   simp [dM,List.lookup_cons]
  ·have q1 : (s == t)=false:=by simpa using q
   simp only [dM,List.cons_append,List.nil_append,List.lookup_cons,q1,List.lookup_nil,aL,List.any_nil,Bool.false_eq_true,if_false]
theorem u5 {dst : Option Nat} (hC : b8 P F C) (h : SR F nt S L w0 M0 f M a w) (hp : ∀ t,o.dst=some t -> t < nt) {g fi : Nat} {x : Opd} {xs : List Opd} {y : Operand} {ys : List Operand} {ts : Array TypeId} (ho : o.op=.call { callee:=.value (.func fi),args:=⟨y::ys⟩,argTypes:=ts }) (hx0 : ap F x y=true) (hx : b9 F xs ys=true)
  (hg : F g=some fi) (hr : match vd f x with
  | .ref (.n b i o) k n=>k=0 /\ match f b with
   | .blk sz0 es0=>∃ row0,es0[i]? = some row0 /\ ∃ sz es,row0[o]? = some (.own sz es) /\ es.length=n /\ (∀ x ∈ xs,isV (vd f x)=true) /\ ∃ es' : List (List D),es'.length=es.length /\ (∀ e ∈ es',e.length=sz /\ ∀ c ∈ e,aB c=true) /\
     C g (.own sz es::xs.map (vd f)) .any [.own sz es',.nilp] /\ K (dM dst++[(b,.blk sz0 (b5 es0 i o 1 [.own sz es']))]) []
   | _=>False
  | _=>False) (hdst : dst=o.dst:=by rfl) : o.wp P a w (PostX F nt S L w0 M0 f K) Q:=by
 split at hr
 ·rename_i b i0 o0 k n hvx
  obtain ⟨rfl,hr⟩:=hr
  split at hr
  ·rename_i sz0 es0 hf
   obtain ⟨row0,hi0,sz,es,ho0,rfl,hxs,es',hl,hu,hc,hK⟩:=hr
   have hrun : (execOp a.eval o).run P w=(callFunc fi (a.eval y::ys.map a.eval).toArray).run P w:=by
    simp only [execOp,ho,resolve,Act.eval,Deferred.ofValue,Sem.run_bind,Sem.run_pure,Result.andThen_ok,invoke]
    congr 2
    rw [Array.append_empty,Array.empty_append]
    apply Array.ext'
    simp
    cases y <;> simp [Act.eval]
   obtain ⟨ρ,ω,hO⟩:=h.own
   have hb:=hO.big hf
   have hv:=hO.opd hx0
   rw [hvx,aw rfl] at hv
   have hgp : bB f (.n b i0 o0)=some (sz,es):=by simp [bB,hf,hi0,ho0]
   have hpath : ct ω ρ w (.n b i0 o0) sz es (fun _ _ d v=>af F M d v):=(hO.get (p:=.n b i0 o0) hb hgp).1
   have hnoO : ∀ e ∈ (es.drop 0).take es.length,∀ c ∈ e,isO c=false:=by
    intro e he c hc'
    rw [List.drop_zero,List.take_length] at he
    rcases hpath with ⟨e0,_⟩ | ⟨_,_,vs,T,_,_,_,_,h5⟩
    ·rw [e0] at he;cases he
    ·obtain ⟨i,hi⟩:=List.mem_iff_getElem?.1 he
     obtain ⟨j,hj⟩:=List.mem_iff_getElem?.1 hc'
     obtain ⟨u,_,h6⟩:=h5 i e j c hi hj
     cases c <;> first | rfl | (simp [af] at h6)
   have hrep : au F M (xs.map (vd f)) (ys.map a.eval):=by
    have h1:=fY h hx (by rw [List.all_eq_true];exact hxs)
    rwa [List.map_congr_left (g:=vd f) fun x hx'=>by unfold dpv;exact (mc (hxs x hx')).1] at h1
   have hS:=hC.runsS g fi sz es _ es' hg hc M w _ h.holds hrep
   have fin : ∀ w',SR F nt S L w0 M0 (eff [(b,.blk sz0 (b5 es0 i0 o0 1 [.own sz es']))] [] f) M a w' -> PostX F nt S L w0 M0 f K (a.put o.dst (.tuple #[])) w':=fun w' hs=>by
    refine ⟨_,_,M,hK,?_⟩
    rw [<- pS,hdst]
    cases hd : o.dst with
    | none=>simpa [Act.put] using hs
    | some t=>exact hs.put (hp t hd) fun _ _ _=>by rw [aw rfl];simp [aA,af,au]
   unfold Oper.wp
   rw [hrun,bO (hC.body g fi hg),Oper.upon_enter]
   rcases jF hO hgp (by omega) hv hnoO with ⟨A,hv,hn0⟩ | ⟨cap,us,T,hv,⟨hcap,hmc⟩,hcl,hω,g0,g1,g2,g4,g5⟩
   ·have e : es=[]:=List.eq_nil_of_length_eq_zero hn0
    have e' : es'=[]:=List.eq_nil_of_length_eq_zero (by rw [hl,e];rfl)
    rw [hv]
    refine (hS.1 e A).mono ?_
    rintro e0 w' ⟨rfl,hw⟩
    have h2:=h.grow hw
    refine fin w' (h.fillN hO hf hi0 ho0 hl h2.ch hw.size h2.holds ?_ (fun k q hk _=>hw.block k (hO.lt _ _ hk)))
    rw [e']
    rw [e] at hpath
    exact hpath.frame (ω':=ω) rfl (fun e'=>⟨e',hw.block _ (hO.lt _ _ e')⟩) (fun _ _ _ _ _ _ _ x=>x)
   ·rw [hv]
    simp only [List.drop_zero,List.take_length,Nat.zero_mul,Nat.add_zero] at g5 hcl ⊢
    have hMb : ∀ p : Addr,p.block=(ρ (.n b i0 o0)).blk -> M p=none:=fun p hp=>hO.apart p (.n b i0 o0) (by rw [hp];exact hω)
    refine (hS.2 (ρ (.n b i0 o0)).blk (ρ (.n b i0 o0)).base T us cap hMb (hO.lt _ _ hω) g1 hcap (by rw [g2];exact hcl) g4 g5).mono ?_
    rintro e0 w' ⟨rfl,us',q1,q2,q3,q4⟩
    have hnew:=hO.new _ _ hω
    have hh : ∀ p v,M p=some v -> w'.cell? p=some v:=fun p v hp=>by
     have hne : p.block ≠ (ρ (.n b i0 o0)).blk:=fun e=>by rw [hMb p e] at hp;cases hp
     have h8:=h.holds p v hp
     rw [World.cell?_of_block (q4.block _ (World.block_lt_of_cell? w p h8) hne)]
     exact h8
    refine fin w' (h.fillN hO hf hi0 ho0 hl (h.ch.trans q4 (fun k hk e=>by rcases hnew with h7 | h7;rw [e];exact h7;omega)) q4.size hh (.inr ⟨hω,g0,us',T,q1,by rw [q2,g2],?_,fun e he=>(hu e he).1,fun i r off d h1 h2=>q3 i r off d h1 h2⟩) (fun k q hk hq=>q4.block k (hO.lt _ _ hk) (by rintro rfl;rw [hω] at hk;cases hk;exact hq rfl)))
    rw [hl]
    have:=Nat.mul_le_mul_right sz hcap
    omega
  ·exact hr.elim
 ·exact hr.elim
theorem uX (hC : b8 P F C) (h : SR F nt S L w0 M0 f M a w) {t : Nat} (hd : o.dst=some t) (ht : t < nt) (hL : L (rt t 0)=none) {g fi : Nat} {x : Opd} {xs : List Opd} {y : Operand} {ys : List Operand} {ts : Array TypeId} (ho : o.op=.call { callee:=.value (.func fi),args:=⟨y::ys⟩,argTypes:=ts }) (hx0 : ap F x y=true) (hx : b9 F xs ys=true)
  (hg : F g=some fi) (hr : match vd f x with
   | .ref p k n=>match bB f p with
    | some (sz,es)=>k + n <= es.length /\ p.root ≠ rt t 0 /\ 0 < sz /\ (∀ e ∈ (es.drop k).take n,∀ c ∈ e,bx c=true) /\ (∀ x ∈ xs,lU f p.root x) /\ ∃ es' : List (List D),(∀ e ∈ es',e.length=sz /\ ∀ c ∈ e,bx c=true) /\
      C g (.own sz ((es.drop k).take n)::xs.map (k9 f)) .any [.own sz es',.nils,.nils] /\ K [(t,.ref (.r (rt t 0)) 0 es'.length),(rt t 0,.blk sz es'),dC f p] [(rt t 0,true)]
    | none=>False
   | _=>False) : o.wp P a w (PostX F nt S L w0 M0 f K) Q:=by
 split at hr
 ·rename_i p k n hvx
  split at hr
  ·rename_i sz es hgp
   obtain ⟨hkn,hpt,hsz,hfl,harg,es',hu,hc,hK⟩:=hr
   have hrun : (execOp a.eval o).run P w=(callFunc fi (a.eval y::ys.map a.eval).toArray).run P w:=by
    simp only [execOp,ho,resolve,Act.eval,Deferred.ofValue,Sem.run_bind,Sem.run_pure,Result.andThen_ok,invoke]
    congr 2
    rw [Array.append_empty,Array.empty_append]
    apply Array.ext'
    simp
    cases y <;> simp [Act.eval]
   obtain ⟨ρ,ω,hO⟩:=h.own
   have hp:=dE hO hgp
   have hv:=hO.opd hx0
   rw [hvx,aw rfl] at hv
   have hargs : ∀ b : Option Nat,(∀ B,b=some B -> ω B=some p) -> mB F M w b (xs.map (k9 f)) (ys.map a.eval):=by
    intro bo hbo
    have hx':=hx
    simp only [b9,Bool.and_eq_true,beq_iff_eq,List.all_eq_true] at hx'
    refine ⟨by simpa using hx'.1,fun i d v h1 h2=>?_⟩
    rw [List.getElem?_map,Option.map_eq_some_iff] at h1 h2
    obtain ⟨x1,h1,rfl⟩:=h1
    obtain ⟨y1,h2,rfl⟩:=h2
    have hok : ap F x1 y1=true:=hx'.2 (x1,y1) (List.mem_iff_getElem?.2 ⟨i,by rw [List.getElem?_zip_eq_some];exact ⟨h1,h2⟩⟩)
    have hE:=harg x1 (List.mem_of_getElem? h1)
    have hV:=hO.opd hok
    have hP:=fun hh=>h.opd hok hh
    unfold lU at hE
    unfold k9
    revert hE hV hP
    generalize vd f x1=d1
    intro hE hV hP
    cases d1 <;> first | exact (ti (sW hE)).2 (hP hE) | skip
    rename_i q k1 n1
    cases q with
    | n c i o=>simp [isV] at hE
    | r c =>
     simp only at hE ⊢
     obtain ⟨rfl,hcb,hE⟩:=hE
     split at hE
     ·rename_i sz1 es1 hfc
      obtain ⟨rfl,hfl1⟩:=hE
      have hg1 : bB f (.r c)=some (sz1,es1):=by simp [bB,hfc]
      have hq:=jF hO hg1 (by omega) hV (fun e he c hc=>by
       rw [List.drop_zero,List.take_length] at he
       exact eP (hfl1 e he c hc))
      show _ \/ _
      rcases hq with ⟨A,q1,q2⟩ | ⟨cap,us,T,q1,⟨q2,_⟩,q3,q4,q5,q6,q7,q8,q9⟩
      ·exact .inl ⟨List.eq_nil_of_length_eq_zero q2,A,q1⟩
      ·simp only [List.drop_zero,List.take_length,Nat.zero_mul,Nat.add_zero] at q1 q3 q9
       refine .inr ⟨_,_,T,us,cap,q1,fun e=>?_,q6,q2,by rw [q7];exact q3,q9⟩
       have:=hbo _ e
       rw [q4] at this
       cases this
       exact hcb rfl
     ·exact hE.elim
   have hI:=hC.runsI g fi sz _ _ es' hg hc M w (ys.map a.eval) h.holds
   unfold Oper.wp
   rw [hrun,bO (hC.body g fi hg),Oper.upon_enter]
   have hWn : ((es.drop k).take n).length=n:=by simp;omega
   have hfst:=nU (f:=f) p
   have hsnd:=tW (f:=f) p
   rw [hd]
   rcases jF hO hgp hkn hv (fun e he c hc=>eP (hfl e he c hc)) with ⟨A,hv,hn0⟩ | ⟨cap,us,T,hv,⟨hcap,hmc⟩,hcl,hω,g0,g1,g2,g4,g5⟩
   ·have e : (es.drop k).take n=[]:=List.eq_nil_of_length_eq_zero (by omega)
    have h0:=h.leave hO hgp h.ch (Nat.le_refl _) h.holds (fun _ _ _ _=>rfl)
    rw [hv]
    refine (hI.1 e A (hargs none (fun B e=>by cases e))).mono ?_
    rintro e0 w' ⟨v,rfl,hw,⟨e',A',rfl⟩ | hn⟩
    ·refine ⟨_,_,M,hK,?_⟩
     subst e'
     rw [<- j6 hsnd]
     exact (h0.grow hw).nilA ht hL hsz A'
    ·refine ⟨_,_,M,hK,?_⟩
     rw [<- j6 hsnd]
     exact h0.newRow0 hu hw hn ht (rt_big t 0) hL
   ·rw [hv]
    have hMb : ∀ q : Addr,q.block=(ρ p).blk -> M q=none:=fun q hq=>hO.apart q p (by rw [hq];exact hω)
    have hnew:=hO.new _ _ hω
    have hblt:=hO.lt _ _ hω
    have hrun2:=hI.2 (ρ p).blk ((ρ p).base + k * sz) T us cap (hargs (some (ρ p).blk) (fun B e=>by cases e;exact hω)) hMb hblt g1 (by rw [hWn];exact hcap) hmc (by rw [g2];exact hcl) (fun e he=>g4 e (List.mem_of_mem_drop (List.mem_of_mem_take he))) g5
    rw [hWn] at hrun2
    refine hrun2.mono ?_
    have away : ∀ w' : World,Ch (fun k=>k=(ρ p).blk) w w' -> ∃ w2 : World,Bel w2 w' /\ w2.heap.size=w.heap.size /\ SR F nt S L w0 M0 (eff [dC f p] [] f) M a w2:=by
     intro w' q4
     obtain ⟨B0,hB0⟩ : ∃ B0,B0=(ρ p).blk:=⟨_,rfl⟩
     rw [<- hB0] at q4 hblt
     obtain ⟨ob,q1⟩ : ∃ ob,w'.heap[B0]? = some ob:=⟨_,Array.getElem?_eq_getElem (Nat.lt_of_lt_of_le hblt q4.size)⟩
     obtain ⟨w2,hw2⟩ : ∃ w2 : World,w2={ w with heap:=w.heap.setIfInBounds B0 ob }:=⟨_,rfl⟩
     have y1 : ∀ k,k ≠ B0 -> w2.heap[k]? = w.heap[k]?:=fun k hk=>by
      rw [hw2];simp only [Array.getElem?_setIfInBounds];rw [if_neg (Ne.symm hk)]
     have y2 : w2.heap[B0]? = some ob:=by
      rw [hw2];simp only [Array.getElem?_setIfInBounds];simp [hblt]
     have y3 : w2.heap.size=w.heap.size:=by rw [hw2];simp
     have c2 : Ch (fun k=>k=B0) w w2:=⟨by rw [hw2],by rw [hw2],by rw [hw2],Nat.le_of_eq y3.symm,fun k _ hk=>y1 k hk,by rw [hw2];exact Nat.le_refl _⟩
     have hb2 : Bel w2 w':=⟨by rw [q4.os,hw2],by rw [q4.tape,hw2],by rw [q4.output,hw2],by rw [y3];exact q4.size,fun k hk=>by
      by_cases e : k=B0
      ·subst e;rw [y2,q1]
      ·rw [y1 k e];exact q4.block k (by rw [<- y3];exact hk) e,by have:=q4.drawn;rw [hw2];exact this⟩
     have hch2 : Ch S w0 w2:=h.ch.trans c2 (fun k hk e=>by rw [e,hB0];rw [e,hB0] at hk;rcases hnew with h7 | h7;exact h7;omega)
     have hh2 : ∀ p v,M p=some v -> w2.cell? p=some v:=fun q v hq=>by
      have hne : q.block ≠ B0:=fun e=>by rw [hMb q (by rw [e,hB0])] at hq;cases hq
      rw [World.cell?_of_block (y1 _ hne)]
      exact h.holds q v hq
     exact ⟨w2,hb2,y3,h.leave (w':=w2) hO hgp hch2 (Nat.le_of_eq y3.symm) hh2 (fun k' q hk' hq=>y1 k' (by rintro rfl;rw [hB0,hω] at hk';cases hk';exact hq rfl))⟩
    rintro e0 w' ⟨v,rfl,q4,⟨e',A',rfl⟩ | ⟨o2,cap2,T2,us',rfl,q1,hl,hmc2,hcl2,q3⟩ | hn⟩
    ·obtain ⟨w2,hb2,_,h0⟩:=away w' q4
     refine ⟨_,_,M,hK,?_⟩
     subst e'
     rw [<- j6 hsnd]
     exact (h0.grow hb2).nilA ht hL hsz A'
    ·have hchS : Ch S w0 w':=h.ch.trans q4 (fun k hk e=>by rcases hnew with h7 | h7;rw [e];exact h7;omega)
     have hh : ∀ p v,M p=some v -> w'.cell? p=some v:=fun q v hq=>by
      have hne : q.block ≠ (ρ p).blk:=fun e=>by rw [hMb q e] at hq;cases hq
      have h8:=h.holds q v hq
      rw [World.cell?_of_block (q4.block _ (World.block_lt_of_cell? w q h8) hne)]
      exact h8
     have ht10 : t < 10000:=Nat.lt_of_lt_of_le ht h.hnt
     have hrb : 10000 <= rt t 0:=rt_big t 0
     have hpr : p.root ≠ t:=by omega
     have hrt : rt t 0 ≠ t:=by omega
     obtain ⟨dq,hdq⟩ : ∃ dq,dq=dC f p:=⟨_,rfl⟩
     rw [<- hdq] at hfst hsnd
     have lk : ∀ s,s ≠ t -> s ≠ rt t 0 -> s ≠ p.root -> [(t,D.ref (.r (rt t 0)) 0 es'.length),(rt t 0,.blk sz es'),dq].lookup s=none:=fun s s1 s2 s3=>by
      have e1 : (s == t)=false:=by simpa using s1
      have e2 : (s == rt t 0)=false:=by simpa using s2
      obtain ⟨c,y⟩:=dq
      simp only at hfst
      have e3 : (s == c)=false:=by rw [hfst];simpa using s3
      simp only [List.lookup_cons,e1,e2,e3,List.lookup_nil]
     have lkp : [(t,D.ref (.r (rt t 0)) 0 es'.length),(rt t 0,.blk sz es'),dq].lookup p.root=some dq.2:=by
      have e1 : (p.root == t)=false:=by simpa using hpr
      have e2 : (p.root == rt t 0)=false:=by simpa using hpt
      obtain ⟨c,y⟩:=dq
      simp only at hfst
      subst hfst
      simp only [List.lookup_cons,e1,e2,beq_self_eq_true]
     have key:=h.app_core hO (f':=eff [(t,.ref (.r (rt t 0)) 0 es'.length),(rt t 0,.blk sz es'),dq] [(rt t 0,true)] f) (w':=w') (t:=t) (b:=rt t 0) (sz:=sz) (n:=es'.length) (m:=0) (rows:=es') (rowsY:=[]) (src:=some (p,k)) (inp:=true) (c2:=none)
      (l:=⟨(ρ p).blk,o2,sz,us'.length⟩) (nb:=none) (v:=.slice (some ⟨(ρ p).blk,o2,none⟩) es'.length cap2) ht hL rfl rfl (by simpa [aN] using hpt) (by simp) (fun c e=>by cases e)
      (aV (by simp)) (by
       rw [List.append_nil]
       refine aV ?_
       have e1 : (rt t 0 == t)=false:=by simpa using hrt
       simp [List.lookup_cons,e1])
      (fun s hs hst=>bG (lk s hst (by omega) (by omega)))
      (fun c hc hcb hcs _=>ci (lk c (by omega) hcb (by simpa [aN] using fun e : c=p.root=>hcs (by simp [aN,e]))))
      (fun c e=>by cases e)
      (fun c k' e=>by
       cases e
       have:=aV (f:=f) (ks:=[(rt t 0,true)]) lkp
       rw [hdq] at this ⊢
       exact this ▸ rfl)
      (fun c i o k' e=>by
       cases e
       obtain ⟨sz0,es0,row0,z1,z2,z3⟩:=wC hgp
       refine ⟨sz0,es0,z1,?_,row0,z2,(List.getElem?_eq_some_iff.1 z3).1⟩
       have:=aV (f:=f) (ks:=[(rt t 0,true)]) lkp
       rw [hdq] at this
       simp only [dC,z1] at this
       rw [hdq]
       simp only [dC,z1]
       exact this)
      (fun k e=>by cases e) q4.size hchS hh
      (fun k' q hk' hq=>q4.block k' (hO.lt _ _ hk') (by rintro rfl;rw [hω] at hk';cases hk';exact hq rfl rfl))
      (by simp only [aA,if_true];exact .inr ⟨cap2,by simp,by simpa using hl,by simpa using hcl2,hmc2⟩)
      (.inr ⟨.inr ⟨rfl,p,k,rfl,hω,rfl⟩,rfl,us',T2,q1,rfl,(by
       have:=Nat.mul_le_mul_right sz hl
       simp only [Nat.add_zero]
       omega),fun e he=>(hu e (by simpa using he)).1,fun i r off d h1 h2=>by
        obtain ⟨u,k1,k2⟩:=q3 i r off d h1 h2
        refine ⟨u,k1,?_⟩
        have hO':=eP ((hu r (List.mem_of_getElem? h1)).2 d (List.mem_of_getElem? h2))
        cases p with
        | r c=>show cS F M ω ρ w c _ off d u;rw [a8 hO'];exact k2
        | n c i' o'=>exact ⟨hO',k2⟩,fun i r off d h1 _=>by simp at h1⟩)
     refine ⟨_,_,M,hK,?_⟩
     rw [hdq] at key
     exact key
    ·obtain ⟨w2,hb2,y3,h0⟩:=away w' q4
     have hn2 : fd F M w2 w' sz es' v:=by
      obtain ⟨B,o,T,us,cap,z1,z2,z3⟩:=hn
      exact ⟨B,o,T,us,cap,z1,by rw [y3];exact z2,z3⟩
     refine ⟨_,_,M,hK,?_⟩
     rw [<- j6 hsnd]
     exact h0.newRow0 hu hb2 hn2 ht (rt_big t 0) hL
  ·exact hr.elim
 ·exact hr.elim
end
end Go.Gv

namespace Go.Gv
section
variable {P : Program} {F : Fid} {C : Nat -> List D -> D -> List D -> Prop} {nt : Nat} {S : Nat -> Prop} {L : Nat -> Option Loc} {w0 : World} {M0 : Mem} {f : Nat -> D} {M : Mem} {a : Act} {w : World} {o : Oper} {d : D} {Q : Exit -> Act -> World -> Prop} {ρ : Pa -> Loc} {ω : Nat -> Option Pa} {New : Nat -> Prop} {K : List (Nat × D) -> List (Nat × Bool) -> Prop}
def iZ (ω : Nat -> Option Pa) (c : Nat) : Nat -> Option Pa:=fun k=>match ω k with
 | some p=>if p.root=c then some p else none
 | none=>none
theorem ev {c k : Nat} {p : Pa} (h : iZ ω c k=some p) : ω k=some p /\ p.root=c:=by
 unfold iZ at h
 split at h
 ·rename_i q hq
  split at h
  ·cases h
   exact ⟨hq,by assumption⟩
  ·cases h
 ·cases h
theorem mT {c k : Nat} {p : Pa} (h : ω k=some p) (hp : p.root=c) : iZ ω c k=some p:=by
 simp only [iZ,h,if_pos hp]
def fcE (f : Nat -> D) (c : Nat) : Nat -> D:=fun t=>if t=c then f t else .any
theorem Own.only (h : Own F L New f M a w ρ ω) {c : Nat} (hc : 10000 <= c) : Own F L New (fcE f c) M a w ρ (iZ ω c):=by
 have hne : ∀ {t : Nat},t ≠ c -> fcE f c t=.any:=fun {t} ht=>by simp only [fcE,if_neg ht]
 have hcc : fcE f c c=f c:=by simp [fcE]
 refine h.step (ks:=[]) (fun p hp=>absurd rfl hp) (Mem.le_refl _) (Nat.le_refl _) (fun t ht=>.inl (.inl (hne (by omega)))) (fun b hb=>?_) (fun k p e=>.inl ⟨p,(ev e).1⟩) (fun p q e=>h.apart p q (ev e).1) (fun b l hb hl hB=>?_)
 ·by_cases e : b=c
  ·subst e
   exact .inl (.inr ⟨hcc,fun p hp=>⟨rfl,fun hw=>⟨mT hw hp,rfl⟩⟩⟩)
  ·exact .inl (.inl (by rw [hne e];rfl))
 ·by_cases e : b=c
  ·subst e
   rw [hcc] at hB
   exact ⟨rfl,hB⟩
  ·rw [hne e] at hB;cases hB
theorem ue {c : Nat} (_ : Nat) : bB (fcE f c) (.r c)=bB f (.r c):=by simp [bB,fcE]
theorem SR.frz (h : SR F nt S L w0 M0 f M a w) {t : Nat} (ht : t < nt) {c k n : Nat} (hc : 10000 <= c) {v : Value} (hv : ∀ ρ ω,Own F L (fun k=>S k \/ w0.heap.size <= k) f M a w ρ ω -> aA F M ρ (.ref (.r c) k n) v) (hk : aT f (.ref (.r c) k n)) :
  ∃ M',SR F nt S L w0 M0 (eff [(t,dp1 f (.ref (.r c) k n)),(c,.any)] [] f) M' (a.put (some t) v) w:=by
 obtain ⟨ρ,ω,hO⟩:=h.own
 have hnt:=h.hnt
 have hsz:=h.size
 have hO1:=hO.only hc
 have e1 : bB (fcE f c) (.r c)=bB f (.r c):=ue 0
 have hk1 : aT (fcE f c) (.ref (.r c) k n):=by simp only [aT,e1] at hk ⊢;exact hk
 have ed : dp1 (fcE f c) (.ref (.r c) k n)=dp1 f (.ref (.r c) k n):=by simp only [dp1,e1]
 have hr:=mH hO1 (hv ρ ω hO) hk1
 rw [ed] at hr
 have hle : M.le (bW (iZ ω c) M w):=cX hO1
 have hE:=hO.erase hc
 have hpure : isX (dp1 f (.ref (.r c) k n))=false /\ isB (dp1 f (.ref (.r c) k n))=false /\ ∀ ρ',aA F (bW (iZ ω c) M w) ρ' (dp1 f (.ref (.r c) k n)) v:=by
  simp only [dp1] at hr ⊢
  split
  ·rename_i e
   rw [e] at hr
   exact ⟨rfl,rfl,fun _=>hr⟩
  ·rename_i e
   rw [e] at hr
   exact ⟨rfl,rfl,fun _=>hr⟩
 generalize dp1 f (.ref (.r c) k n)=x at *
 have hf' : ∀ s,eff [(t,x),(c,.any)] [] f s=if s=t then x else fbE f c s:=fun s=>by
  unfold eff fbE
  by_cases e : s=t
  ·subst e;simp
  ·have b1 : (s == t)=false:=by simpa using e
   by_cases e2 : s=c
   ·subst e2
    simp only [List.lookup,b1,beq_self_eq_true,if_neg e,if_true]
   ·have b2 : (s == c)=false:=by simpa using e2
    simp only [List.lookup,b1,b2,if_neg e,if_neg e2]
    simp [aL]
 refine ⟨bW (iZ ω c) M w,⟨hnt,by simp [Act.put,hsz],by simp [Act.put,h.defers],h.ch,cw h.holds,Mem.le_trans h.ext hle,fun p h1 h2=>?_,ρ,iG ω c,?_⟩⟩
 ·by_cases e : M p=none
  ·unfold bW at h2
   split at h2
   ·rename_i q hq
    exact hO.new _ _ (ev hq).1
   ·exact absurd e h2
  ·exact h.fresh p h1 e
 ·refine hE.step (ks:=[]) (fun p hp=>absurd rfl hp) hle (Nat.le_refl _) (fun s hs=>?_) (fun b hb=>?_) (fun k p e=>.inl ⟨p,e⟩) (fun p q e=>?_) (fun b l hb hl hB=>?_)
  ·rw [hf']
   by_cases e : s=t
   ·subst e
    rw [if_pos rfl]
    refine .inr (.inr ⟨v,by simp [Act.put,hsz,ht],?_⟩)
    rw [hf',if_pos rfl,aw hpure.1]
    exact hpure.2.2 ρ
   ·rw [if_neg e]
    refine .inl (.inr ⟨rfl,?_,by simp [aL]⟩)
    simp [Act.put,Array.getElem?_setIfInBounds,Ne.symm e]
  ·have : b ≠ t:=by omega
   rw [hf',if_neg this]
   exact .inl (.inr ⟨rfl,fun p hp=>⟨rfl,fun hw=>⟨hw,rfl⟩⟩⟩)
  ·obtain ⟨e2,e3⟩:=gO e
   have e4 : iZ ω c p.block=none:=by
    simp only [iZ,e2,if_neg e3]
   simp only [bW,e4]
   exact hO.apart p q e2
  ·have : b ≠ t:=by omega
   rw [hf',if_neg this] at hB
   exact ⟨rfl,hB⟩
theorem tq (h : SR F nt S L w0 M0 f M a w) {t : Nat} (hd : o.dst=some t) (ht : t < nt) {x : Opd} {x' : Operand} (ho : o.op=.move x' \/ o.op=.assign x') (hx : ap F x x'=true)
  (hr : match vd f x with
   | .ref (.r c) k n=>aT f (.ref (.r c) k n) /\ K [(t,dp1 f (.ref (.r c) k n)),(c,.any)] []
   | d=>isS d=true /\ K [(t,d)] []) : o.wp P a w (PostX F nt S L w0 M0 f K) Q:=by
 have hrun : (execOp a.eval o).run P w=.ok (.value (a.eval x')) w:=by rcases ho with ho | ho <;> simp [execOp,ho]
 split at hr
 ·rename_i c k n ex
  have hc : 10000 <= c:=by
   obtain ⟨ρ,ω,hO⟩:=h.own
   have h1:=hr.1
   simp only [aT] at h1
   split at h1
   ·rename_i e;exact dE hO e
   ·exact h1.elim
  obtain ⟨M',hs⟩:=h.frz ht hc (v:=a.eval x') (fun ρ ω hO=>by have:=hO.opd hx;rwa [ex,aw rfl] at this) hr.1
  exact fb hrun (by rw [hd];exact ⟨_,_,M',hr.2,hs⟩)
 ·exact postX_val hd hrun hr.2 (h.put ht (fun ρ ω hO=>hO.opd hx))
end
end Go.Gv

namespace Go.Gv
section
variable {P : Program} {F : Fid} {C : Nat -> List D -> D -> List D -> Prop} {nt : Nat} {S : Nat -> Prop} {L : Nat -> Option Loc} {w0 : World} {M0 : Mem} {f : Nat -> D} {M : Mem} {a : Act} {w : World} {o : Oper} {d : D} {Q : Exit -> Act -> World -> Prop} {ρ : Pa -> Loc} {ω : Nat -> Option Pa} {New : Nat -> Prop} {K : List (Nat × D) -> List (Nat × Bool) -> Prop}
theorem uZ (hC : b8 P F C) (h : SR F nt S L w0 M0 f M a w) (hp : bH nt f o.dst) {g fi : Nat} {xs : List Opd} {ys : Array Operand} {ts : Array TypeId} (ho : o.op=.call { callee:=.value (.func fi),args:=ys,argTypes:=ts }) (hx : b9 F xs ys.toList=true)
  (hg : F g=some fi) (hr : (∀ x ∈ xs,bD f (vd f x)) /\ ∃ d,C g (xs.map (dpv f)) d [.nilp] /\ fB o.dst K d) : o.wp P a w (PostX F nt S L w0 M0 f K) Q:=by
 obtain ⟨h0,d,h1,hK⟩:=hr
 have hrun : (execOp a.eval o).run P w=(callFunc fi (ys.toList.map a.eval).toArray).run P w:=by
  simp only [execOp,ho,resolve,Act.eval,Deferred.ofValue,Sem.run_bind,Sem.run_pure,Result.andThen_ok,invoke]
  congr 2
  rw [Array.append_empty,Array.empty_append]
  apply Array.ext'
  simp
 obtain ⟨ρ,ω,hO⟩:=h.own
 unfold Oper.wp
 rw [hrun,bO (hC.body g fi hg),Oper.upon_enter]
 refine (hC.runsG g fi _ d hg h1 (bW ω M w) w _ (cw h.holds) (jn hO hx h0)).mono ?_
 rintro e w' ⟨v,M2,rfl,hb,hf,hh,rv⟩
 have hnone : ∀ p,w.heap.size <= p.block -> M p=none:=fun p hp=>by
  cases e : M p with
  | none=>rfl
  | some u =>
   have:=World.block_lt_of_cell? w p (h.holds p u e)
   omega
 have hM : M.le (fun p=>match M p with | some v=>some v | none=>M2 p):=fun p u e=>by simp only [e]
 have hM2 : M2.le (fun p=>match M p with | some v=>some v | none=>M2 p):=fun p u e=>by
  simp only [hnone p (hf p (by rw [e];simp)),e]
 have h' : SR F nt S L w0 M0 f (fun p=>match M p with | some v=>some v | none=>M2 p) a w':=h.world hb hM (fun p e e'=>by
  simp only [e] at e'
  exact hf p e') (fun p u e=>by
  cases e1 : M p with
  | none=>simp only [e1] at e;exact hh p u e
  | some u' =>
   simp only [e1] at e
   cases e
   have h1:=h.holds p _ e1
   rw [hb.cell (World.block_lt_of_cell? w p h1)]
   exact h1)
 have rv2:=af.mono hM2 _ _ rv
 generalize o.dst=t at hp hK ⊢
 cases t with
 | none=>exact ⟨[],[],_,hK,by simpa [Act.put,jh] using h'⟩
 | some t=>exact ⟨_,_,_,hK,h'.put hp (fun _ _ _=>bA.of_pure rv2)⟩
def mI : D -> Prop
 | .any=>True
 | .nils=>True
 | .ref _ _ _=>True
 | .blk _ es=>∀ r ∈ es,∀ c ∈ r,bx c=true
 | d=>bx d=true
theorem ua {d : D} {v : Value} {M' : Mem} (hf : mI d) (hn : d ≠ .any) (hb : isB d=false) (h : bA F M ρ d v) : bA F M' ρ d v:=by
 cases d <;> simp only [mI] at hf <;> first | exact h | (simp [bx] at hf;done) | (simp [isB] at hb;done) | (rw [aw rfl] at h ⊢;simp only [aA] at h ⊢;exact fV hf h) | exact absurd rfl hn
theorem SR.flat (h : SR F nt S L w0 M0 f M a w) (hf : ∀ t,mI (f t)) (hsl : ∀ t,t < 10000 -> isB (f t)=false) : SR F nt S L w0 (fun _=>none) f (fun _=>none) a w where
 hnt:=h.hnt
 size:=h.size
 defers:=h.defers
 ch:=h.ch
 holds p v e:=by cases e
 ext:=Mem.le_refl _
 fresh p _ e:=absurd rfl e
 own:=by
  obtain ⟨ρ,ω,hO⟩:=h.own
  refine ⟨ρ,ω,⟨fun t ht=>?_,fun b sz es hb e=>?_,fun b kt et ks vs hb e=>?_,hO.lt,hO.new,fun _ _ _=>rfl,hO.lent⟩⟩
  ·rcases hO.slots t ht with h1 | ⟨v,h1,h2⟩
   ·exact .inl h1
   ·by_cases e : f t=.any
    ·exact .inl e
    ·exact .inr ⟨v,h1,ua (hf t) e (hsl t ht) h2⟩
  ·have h1:=hO.roots b sz es hb e
   have h2:=hf b
   rw [e] at h2
   simp only [mI] at h2
   unfold eC ct at h1 ⊢
   rcases h1 with h1 | ⟨h1,h3,vs,T,g1,g2,g3,g4,g5⟩
   ·exact .inl h1
   ·refine .inr ⟨h1,h3,vs,T,g1,g2,g3,g4,fun i r off d e1 e2=>?_⟩
    obtain ⟨v,k1,k2⟩:=g5 i r off d e1 e2
    have hf1:=h2 r (List.mem_of_getElem? e1) d (List.mem_of_getElem? e2)
    have k3 : cS F M ω ρ w b i off d v:=k2
    rw [a8 (eP hf1)] at k3
    refine ⟨v,k1,?_⟩
    show cS F (fun _=>none) ω ρ w b i off d v
    rw [a8 (eP hf1)]
    exact fV hf1 k3
  ·have h2:=hf b
   rw [e] at h2
   simp [mI,bx] at h2
end
end Go.Gv

namespace Go.Gv
open Go.RowKit
section
variable {P : Program} {F : Fid} {C : Nat -> List D -> D -> List D -> Prop} {nt : Nat} {S : Nat -> Prop} {L : Nat -> Option Loc} {w0 : World} {M0 : Mem} {f : Nat -> D} {M M' : Mem} {a : Act} {w w' : World} {o : Oper} {d : D} {Q : Exit -> Act -> World -> Prop} {ρ ρ' : Pa -> Loc} {ω ω' : Nat -> Option Pa} {New : Nat -> Prop} {K : List (Nat × D) -> List (Nat × Bool) -> Prop}
def Pa.to (c : Nat) : Pa -> Pa
 | .r _=>.r c
 | .n _ i o=>.n c i o
theorem Pa.to_root (c : Nat) (p : Pa) : (p.to c).root=c:=by cases p <;> rfl
theorem Pa.to_to (b c : Nat) (p : Pa) (h : p.root=b) : (p.to c).to b=p:=by cases p <;> simp only [Pa.root] at h <;> subst h <;> rfl
theorem eC.carry {b c sz : Nat} {es : List (List D)} (h : eC F M ω ρ w b sz es) (hM : M.le M') (hs : ∀ p : Pa,p.root=b -> ρ' (p.to c)=ρ p /\ (ω (ρ p).blk=some p -> ω' (ρ p).blk=some (p.to c) /\ w'.heap[(ρ p).blk]? = w.heap[(ρ p).blk]?)) : eC F M' ω' ρ' w' c sz es:=by
 have path : ∀ (p : Pa) (sz : Nat) (es : List (List D)) (R R' : Nat -> Nat -> D -> Value -> Prop),p.root=b -> ct ω ρ w p sz es R -> (∀ i r off d v,es[i]? = some r -> r[off]? = some d -> R i off d v -> R' i off d v) -> ct ω' ρ' w' (p.to c) sz es R':=by
  intro p sz es R R' hp h hR
  obtain ⟨e1,e2⟩:=hs p hp
  unfold ct at h ⊢
  rw [e1]
  rcases h with h | ⟨h1,h2⟩
  ·exact .inl h
  ·obtain ⟨g1,g2⟩:=e2 h1
   exact .inr ⟨g1,h2.frame g2 hR⟩
 unfold eC at h ⊢
 refine path (.r b) sz es _ _ rfl h (fun i r off d v k1 k2 hr=>?_)
 cases d
 case own sz2 es2 =>
  obtain ⟨h1,h2⟩:=hr
  refine ⟨?_,path (.n b i off) sz2 es2 _ _ rfl h2 (fun _ _ _ d v _ _ hr=>af.mono hM d v hr)⟩
  have:=(hs (.n b i off) rfl).1
  simp only [aA,Pa.to] at h1 this ⊢
  rw [this]
  exact h1
 all_goals exact af.mono hM _ _ hr
theorem SR.lend (h : SR F nt S L w0 M0 f M a w) (hO : Own F L (fun k=>S k \/ w0.heap.size <= k) f M a w ρ ω) {b sz : Nat} {es es' : List (List D)} (hf : f b=.blk sz es) (hb : 10000 <= b) (hω : ω (ρ (.r b)).blk=some (.r b)) {ρ1 : Pa -> Loc} {ω1 : Nat -> Option Pa}
  (hρ1 : ∀ p : Pa,p.root=b -> ρ1 (p.to aC)=ρ p) (hω1 : ∀ k q,ω1 k=some q ↔ ∃ p : Pa,ω k=some p /\ p.root=b /\ q=p.to aC)
  (hch : Ch (fun k=>∃ p,ω1 k=some p) w w') (hM : M.le M') (hfr : ∀ p,M p=none -> M' p ≠ none -> (∃ q,ω1 p.block=some q) \/ w.heap.size <= p.block) (hh : ∀ p v,M' p=some v -> w'.cell? p=some v)
  (hρ' : ρ' (.r aC)=ρ1 (.r aC)) (hl : vj F M' w' ρ' ω' aC sz es') (hnew : ∀ k p,ω' k=some p -> (∃ q,ω1 k=some q) \/ w.heap.size <= k)
  {dst : Option Nat} (ht : ∀ t,dst=some t -> t < nt) {v : Value} (hv : af F M' d v) :
  SR F nt S L w0 M0 (eff (j0 dst d++[(b,.blk sz es')]) [(b,false)] f) M' (a.put dst v) w':=by
 have hS1 : ∀ k q,ω1 k=some q -> ∃ p,ω k=some p /\ p.root=b:=fun k q e=>by
  obtain ⟨p,h1,h2,_⟩:=(hω1 k q).1 e
  exact ⟨p,h1,h2⟩
 have other : ∀ k p,ω k=some p -> p.root ≠ b -> (∀ q,ω1 k ≠ some q) /\ ω' k=none /\ w'.heap[k]? = w.heap[k]?:=fun k p e hp=>by
  have h1 : ∀ q,ω1 k ≠ some q:=fun q e1=>by
   obtain ⟨p',h1,h2⟩:=hS1 k q e1
   rw [e] at h1;cases h1;exact hp h2
  refine ⟨h1,?_,hch.block k (hO.lt _ _ e) (fun ⟨q,e1⟩=>h1 q e1)⟩
  cases e2 : ω' k with
  | none=>rfl
  | some q =>
   rcases hnew k q e2 with ⟨q,e1⟩ | h2
   ·exact absurd e1 (h1 q)
   ·have:=hO.lt _ _ e;omega
 obtain ⟨ρ2,hρ2⟩ : ∃ ρ2 : Pa -> Loc,ρ2=fun p=>if p.root=b then ρ' (p.to aC) else ρ p:=⟨_,rfl⟩
 obtain ⟨ω2,hω2⟩ : ∃ ω2 : Nat -> Option Pa,ω2=fun k=>match ω' k with
  | some q=>some (q.to b)
  | none=>match ω k with
   | some p=>if p.root=b then none else some p
   | none=>none:=⟨_,rfl⟩
 have r1 : ∀ p : Pa,p.root=b -> ρ2 p=ρ' (p.to aC):=fun p hp=>by rw [hρ2];simp only [if_pos hp]
 have r2 : ∀ p : Pa,p.root ≠ b -> ρ2 p=ρ p:=fun p hp=>by rw [hρ2];simp only [if_neg hp]
 have o1 : ∀ k q,ω' k=some q -> ω2 k=some (q.to b):=fun k q e=>by rw [hω2];simp only [e]
 have o2 : ∀ k p,ω k=some p -> p.root ≠ b -> ω2 k=some p:=fun k p e hp=>by rw [hω2];simp only [(other k p e hp).2.1,e,if_neg hp]
 have o3 : ∀ k p,ω2 k=some p -> (∃ q,ω' k=some q /\ p=q.to b) \/ (ω k=some p /\ p.root ≠ b):=fun k p e=>by
  rw [hω2] at e
  simp only at e
  cases e1 : ω' k with
  | some q=>rw [e1] at e;cases e;exact .inl ⟨q,rfl,rfl⟩
  | none =>
   rw [e1] at e
   simp only at e
   cases e2 : ω k with
   | none=>rw [e2] at e;cases e
   | some p' =>
    rw [e2] at e
    simp only at e
    split at e
    ·cases e
    ·cases e;exact .inr ⟨rfl,by assumption⟩
 have hrb : ρ2 (.r b)=ρ (.r b):=by
  rw [r1 (.r b) rfl]
  show ρ' (.r aC)=_
  rw [hρ',<- hρ1 (.r b) rfl]
  rfl
 have hfb : eff (j0 dst d++[(b,.blk sz es')]) [(b,false)] f b=.blk sz es':=aV (by
  cases dst with
  | none=>simp [j0]
  | some t =>
   have : (b == t)=false:=by have:=ht t rfl;have:=h.hnt;simp;omega
   simp [j0,List.lookup_cons,this])
 have lk : ∀ s,s ≠ b -> dst ≠ some s -> (j0 dst d++[(b,D.blk sz es')]).lookup s=none:=fun s h1 h2=>by
  have e1 : (s == b)=false:=by simpa using h1
  cases dst with
  | none=>simp only [j0,List.nil_append,List.lookup_cons,e1,List.lookup_nil]
  | some t =>
   have e2 : (s == t)=false:=by simp;rintro rfl;exact h2 rfl
   simp only [j0,List.cons_append,List.nil_append,List.lookup_cons,e1,e2,List.lookup_nil]
 have hsize : (a.put dst v).tmps.size=nt:=by cases dst <;> simp [Act.put,h.size]
 refine ⟨h.hnt,hsize,by cases dst <;> simp [Act.put,h.defers],h.ch.trans hch (fun k hk ⟨q,e⟩=>?_),hh,Mem.le_trans h.ext hM,fun p h1 h2=>?_,ρ2,ω2,?_⟩
 ·obtain ⟨p,e1,_⟩:=hS1 k q e
  rcases hO.new _ _ e1 with h3 | h3
  ·exact h3
  ·omega
 ·by_cases e : M p=none
  ·rcases hfr p e h2 with ⟨q,e1⟩ | h3
   ·obtain ⟨p',e2,_⟩:=hS1 _ q e1
    exact hO.new _ _ e2
   ·exact .inr (Nat.le_trans h.ch.size h3)
  ·exact h.fresh p h1 e
 ·refine hO.step (ks:=[(b,false)]) (fun p hp=>?_) hM hch.size (fun s hs=>?_) (fun c hc=>?_) (fun k p e=>?_) (fun p q e=>?_) (fun c l hc hl' hB=>?_)
  ·refine ⟨(b,false),by simp,?_⟩
   by_cases e : p.root=b
   ·cases p with
    | r x =>
     simp only [Pa.root] at e
     subst e
     exact absurd hrb hp
    | n x i off =>
     simp only [Pa.root] at e
     subst e
     simp [bY]
   ·exact absurd (r2 p e) hp
  ·by_cases e : dst=some s
   ·right
    have hst:=ht s e
    subst e
    have e1 : eff (j0 (some s) d++[(b,.blk sz es')]) [(b,false)] f s=d:=aV (by simp [j0])
    refine .inr ⟨v,getElem?_put_same (by rw [h.size];exact hst),?_⟩
    rw [e1]
    exact bA.of_pure hv
   ·left
    rcases bG (f:=f) (ks:=[(b,false)]) (lk s (by omega) e) with h1 | h1
    ·exact .inl h1
    ·refine .inr ⟨h1.1,?_,h1.2⟩
     cases dst with
     | none=>rfl
     | some t=>exact getElem?_put (fun x=>e (by rw [x]))
  ·by_cases e : c=b
   ·subst e
    right
    refine .inl ⟨sz,es',hfb,hl.rows.carry (Mem.le_refl _) (fun p hp=>?_)⟩
    have e1 : ρ2 (p.to c)=ρ' p:=by rw [r1 _ (Pa.to_root _ _),Pa.to_to aC c p hp]
    exact ⟨e1,fun e2=>⟨o1 _ _ e2,rfl⟩⟩
   ·left
    rcases ci (f:=f) (ks:=[(b,false)]) (lk c e (fun x=>by have:=ht c x;have:=h.hnt;omega)) with h1 | h1
    ·exact .inl h1
    ·refine .inr ⟨h1,fun p hp=>?_⟩
     have hpb : p.root ≠ b:=by rw [hp];exact e
     exact ⟨r2 p hpb,fun hw=>⟨o2 _ _ hw hpb,(other _ _ hw hpb).2.2⟩⟩
  ·rcases o3 k p e with ⟨q,e1,_⟩ | ⟨e1,_⟩
   ·rcases hnew k q e1 with ⟨q',e2⟩ | h2
    ·obtain ⟨p',e3,_⟩:=hS1 k q' e2
     exact .inl ⟨p',e3⟩
    ·exact .inr ⟨hl.lt k q e1,.inr (Nat.le_trans h.ch.size h2)⟩
   ·exact .inl ⟨p,e1⟩
  ·rcases o3 _ q e with ⟨q',e1,_⟩ | ⟨e1,e2⟩
   ·exact hl.apart p q' e1
   ·have h1:=hO.apart p q e1
    cases e3 : M' p with
    | none=>rfl
    | some u =>
     rcases hfr p h1 (by rw [e3];simp) with ⟨q',e4⟩ | h4
     ·exact absurd e4 ((other _ _ e1 e2).1 q')
     ·have:=hO.lt _ _ e1;omega
  ·by_cases e : c=b
   ·subst e
    exact ⟨hrb,by rw [hf];rfl⟩
   ·have hcb : (Pa.r c).root ≠ b:=e
    refine ⟨r2 _ hcb,?_⟩
    rcases ci (f:=f) (ks:=[(b,false)]) (lk c e (fun x=>by have:=ht c x;have:=h.hnt;omega)) with h1 | h1
    ·rw [hB] at h1;cases h1
    ·rw [<- h1];exact hB
theorem u4 (hC : b8 P F C) (h : SR F nt S L w0 M0 f M a w) (hp : ∀ t,o.dst=some t -> t < nt) {g fi : Nat} {x : Opd} {xs : List Opd} {y : Operand} {ys : List Operand} {ts : Array TypeId} (ho : o.op=.call { callee:=.value (.func fi),args:=⟨y::ys⟩,argTypes:=ts }) (hx0 : ap F x y=true) (hx : b9 F xs ys=true)
  (hg : F g=some fi) (hr : match vd f x with
  | .adr (.r b) i off=>i=0 /\ off=0 /\ match f b with
   | .blk sz es=>0 < es.length /\ (∀ x ∈ xs,isV (vd f x)=true) /\ ∃ d,∃ es' : List (List D),0 < es'.length /\ C g (.blk sz es::xs.map (vd f)) d [.blk sz es'] /\ K (j0 o.dst d++[(b,.blk sz es')]) [(b,false)]
   | _=>False
  | _=>False) : o.wp P a w (PostX F nt S L w0 M0 f K) Q:=by
 split at hr
 ·rename_i b i off hvx
  obtain ⟨rfl,rfl,hr⟩:=hr
  split at hr
  ·rename_i sz es hf
   obtain ⟨hpos,hxs,d,es',hpos',hc,hK⟩:=hr
   have hrun : (execOp a.eval o).run P w=(callFunc fi (a.eval y::ys.map a.eval).toArray).run P w:=by
    simp only [execOp,ho,resolve,Act.eval,Deferred.ofValue,Sem.run_bind,Sem.run_pure,Result.andThen_ok,invoke]
    congr 2
    rw [Array.append_empty,Array.empty_append]
    apply Array.ext'
    simp
    cases y <;> simp [Act.eval]
   obtain ⟨ρ,ω,hO⟩:=h.own
   have hb:=hO.big hf
   have hv:=hO.opd hx0
   rw [hvx,aw rfl] at hv
   simp only [aA,Nat.zero_mul,Nat.add_zero] at hv
   have hroot:=hO.roots b sz es hb hf
   have hω : ω (ρ (.r b)).blk=some (.r b):=by
    rcases hroot with ⟨e0,_⟩ | ⟨hω,_⟩
    ·rw [e0] at hpos;simp at hpos
    ·exact hω
   have hrep : au F M (xs.map (vd f)) (ys.map a.eval):=by
    have h1:=fY h hx (by rw [List.all_eq_true];exact hxs)
    rwa [List.map_congr_left (g:=vd f) fun x hx'=>by unfold dpv;exact (mc (hxs x hx')).1] at h1
   obtain ⟨ρ1,hρ1⟩ : ∃ ρ1 : Pa -> Loc,ρ1=fun p=>ρ (p.to b):=⟨_,rfl⟩
   obtain ⟨ω1,hω1⟩ : ∃ ω1 : Nat -> Option Pa,ω1=fun k=>match ω k with
    | some p=>if p.root=b then some (p.to aC) else none
    | none=>none:=⟨_,rfl⟩
   have w1 : ∀ k q,ω1 k=some q ↔ ∃ p : Pa,ω k=some p /\ p.root=b /\ q=p.to aC:=fun k q=>by
    rw [hω1]
    simp only
    constructor
    ·intro e
     split at e
     ·rename_i p hp
      split at e
      ·cases e;exact ⟨p,hp,by assumption,rfl⟩
      ·cases e
     ·cases e
    ·rintro ⟨p,e1,e2,rfl⟩
     simp only [e1,if_pos e2]
   have p1 : ∀ p : Pa,p.root=b -> ρ1 (p.to aC)=ρ p:=fun p hp=>by
    rw [hρ1]
    simp only
    rw [Pa.to_to b aC p hp]
   have lent : vj F M w ρ1 ω1 aC sz es:=by
    refine ⟨(w1 _ _).2 ⟨.r b,?_,rfl,rfl⟩,eC.carry hroot (Mem.le_refl _) (fun p hp=>⟨p1 p hp,fun e=>⟨(w1 _ _).2 ⟨p,e,hp,rfl⟩,rfl⟩⟩),fun k p e=>?_,fun k p e=>?_,fun p q e=>?_⟩
    ·have:=p1 (.r b) rfl
     simp only [Pa.to] at this
     rw [this];exact hω
    ·obtain ⟨p',e1,_⟩:=(w1 _ _).1 e
     exact hO.lt _ _ e1
    ·obtain ⟨p',_,_,rfl⟩:=(w1 _ _).1 e
     exact Pa.to_root _ _
    ·obtain ⟨p',e1,_⟩:=(w1 _ _).1 e
     exact hO.apart p p' e1
   have hL:=hC.runsL g fi sz es _ d es' hg hc M w _ ρ1 ω1 h.holds hrep lent
   have e1 : ρ1 (.r aC)=ρ (.r b):=p1 (.r b) rfl
   rw [e1,<- hv] at hL
   unfold Oper.wp
   rw [hrun,bO (hC.body g fi hg),Oper.upon_enter]
   refine hL.mono ?_
   rintro e0 w' ⟨v,M',ρ',ω',rfl,q1,q2,q3,q4,q5,q6,q7,q8⟩
   exact ⟨_,_,M',hK,h.lend hO hf hb hω p1 w1 q1 q2 q3 q4 (by rw [q6,e1]) q7 q8 hp q5⟩
  ·exact hr.elim
 ·exact hr.elim
theorem jw {es : List (List D)} {k n : Nat} {zs : List D} (h : k + n <= es.length) : (dN es k n zs).length=es.length:=by
 simp [dN];omega
theorem vg {es : List (List D)} {k n : Nat} {zs : List D} (h : k + n <= es.length) (i : Nat) : (dN es k n zs)[i]? = if k <= i /\ i < k + n then some zs else es[i]?:=by
 unfold dN
 rw [List.append_assoc]
 have hl : (es.take k).length=k:=by simp;omega
 by_cases h1 : i < k
 ·rw [List.getElem?_append_left (by omega),List.getElem?_take_of_lt h1,if_neg (by omega)]
 ·rw [List.getElem?_append_right (by omega),hl]
  by_cases h2 : i < k + n
  ·rw [List.getElem?_append_left (by simp;omega),if_pos (by omega),List.getElem?_replicate,if_pos (by omega)]
  ·rw [List.getElem?_append_right (by simp;omega),List.length_replicate,List.getElem?_drop,if_neg (by omega)]
   congr 1
   omega
theorem oK {es : List (List D)} {k n : Nat} {zs e : List D} (he : e ∈ dN es k n zs) : e=zs \/ e ∈ es:=by
 simp only [dN,List.mem_append] at he
 rcases he with (h | h) | h
 ·exact .inr (List.mem_of_mem_take h)
 ·exact .inl (List.mem_replicate.1 h).2
 ·exact .inr (List.mem_of_mem_drop h)
def pN (P : Program) (T : Nat) (zs : List D) : Bool:=match P.underlying T with
 | some (.slice e)=>zeroOk P e zs
 | _=>false
theorem nP {z : Array Value} {n i off : Nat} {u : Value} (hi : i < n) (ho : z.toList[off]? = some u) : (Builtin.zeroCells z n).toList[i * z.size + off]? = some u:=by
 have h1 : off < z.size:=by have:=(List.getElem?_eq_some_iff.1 ho).1;simpa using this
 have h2 : i * z.size + z.size <= n * z.size:=by rw [<- Nat.succ_mul];exact Nat.mul_le_mul_right _ hi
 have h3 : (i * z.size + off) % z.size=off:=by
  rw [Nat.mul_comm,Nat.mul_add_mod,Nat.mod_eq_of_lt h1]
 unfold Builtin.zeroCells
 rw [Array.toList_map,List.getElem?_map]
 rw [Array.toList_range,List.getElem?_range (show i * z.size + off < n * z.size by omega),Option.map_some,h3]
 rw [getElem!_pos z off h1]
 have:=(List.getElem?_eq_some_iff.1 ho).2
 rw [<- this];simp
theorem oE {T : Nat} {ty : TypeId} {zs : List D} (hk : pN P T zs=true) (hz1 : ∀ c ∈ zs,aB c=true) {g o n cap : Nat} {cur : List Value} {T0 : TypeId} (hn : n ≠ 0) (hg : w.heap[g]? = some (.cells cur.toArray T0 (0,0))) (hgl : g < w.heap.size) (hl : o + n * zs.length <= cur.length) :
  ∃ (w' : World) (Z : List Value),(Builtin.clear_ #[T] ty #[.slice (some ⟨g,o,none⟩) n cap]).run P w=.ok (.tuple #[]) w' /\ w'.heap[g]? = some (.cells (cur.take o++Z++cur.drop (o + n * zs.length)).toArray T0 (0,0)) /\ Z.length=n * zs.length /\
   (∀ i off c,i < n -> zs[off]? = some c -> ∃ u,Z[i * zs.length + off]? = some u /\ ∀ (F : Fid) (M : Mem),af F M c u) /\ Ch (fun k=>k=g) w w':=by
 unfold pN at hk
 split at hk
 ·rename_i e hu
  obtain ⟨z,i,hi,hiz,hz,hzs,hzc⟩:=zeroOk_z hk
  have hcell : ∀ (off : Nat) (c : D),zs[off]? = some c -> ∃ u,z.cells.toList[off]? = some u /\ u.oneCell'=true /\ ∀ (F : Fid) (M : Mem),af F M c u:=fun off c hc=>by
   have h1 : off < z.cells.toList.length:=by have:=(List.getElem?_eq_some_iff.1 hc).1;simp;omega
   have h2 : ∀ (F : Fid) (M : Mem),af F M c (z.cells.toList[off]):=fun F M=>by
    rcases hzc off c _ hc (List.getElem?_eq_getElem h1) (F:=F) (L:=fun _=>none) (New:=fun _=>True) (f:=fun _=>.any) (M:=M) (a:={ tmps:=#[],defers:=[] }) (w:=w) with ⟨_,h3⟩ | ⟨n,rfl,_⟩ | ⟨_,_,_,h3,_⟩
    ·exact h3
    ·have:=hz1 _ (List.mem_of_getElem? hc);simp [aB] at this
    ·cases h3
   exact ⟨_,List.getElem?_eq_getElem h1,oneCell_of (h2 ⟨P,fun _=>none,fun _=>0⟩ (fun _=>none)) (hz1 _ (List.mem_of_getElem? hc)),h2⟩
  have hone : ∀ v ∈ (Builtin.zeroCells z.cells n).toList,v.oneCell'=true:=fun v hv=>by
   simp only [Builtin.zeroCells,Array.toList_map,List.mem_map] at hv
   obtain ⟨x,hx,rfl⟩:=hv
   have hx' : x < n * z.cells.size:=by simpa using hx
   have hpos : 0 < z.cells.size:=by
    rcases Nat.eq_zero_or_pos z.cells.size with h | h
    ·rw [h] at hx';simp at hx'
    ·exact h
   have hlt:=Nat.mod_lt x hpos
   obtain ⟨u,k1,k2,_⟩:=hcell (x % z.cells.size) (zs[x % z.cells.size]'(by rw [<- hzs];exact hlt)) (List.getElem?_eq_getElem _)
   rw [getElem!_pos z.cells _ hlt]
   have : z.cells[x % z.cells.size]=u:=by
    have:=(List.getElem?_eq_some_iff.1 k1).2
    simpa using this
   rw [this];exact k2
  have hZ : (Builtin.zeroCells z.cells n).toList.length=n * zs.length:=by
   simp [Builtin.zeroCells,hzs]
  obtain ⟨w',e1,e2,e3,e4,e5,e6,e7,e8⟩:=ew (P:=P) g T0 o (Builtin.zeroCells z.cells n).toList 0 cur w hg (by rw [hZ];simpa using hl) hone
  refine ⟨w',(Builtin.zeroCells z.cells n).toList,?_,?_,hZ,fun i off c hin hc=>?_,⟨e5,e6,e7,by omega,fun k _ hk=>e3 k hk,by omega⟩⟩
  ·have hu' : (underlying T).run P w=.ok (.slice e) w:=run_underlying hu w
   unfold Builtin.clear_
   simp only [List.getElem?_toArray,List.getElem?_cons_zero,Sem.run_bind,hu',Result.andThen_ok]
   cases n with
   | zero=>exact absurd rfl hn
   | succ n=>simp only [hz,Result.andThen_ok,e1,Sem.run_pure]
  ·rw [e2];simp only [Nat.add_zero,hZ]
  ·obtain ⟨u,k1,_,k3⟩:=hcell off c hc
   exact ⟨u,by rw [<- hzs];exact nP hin k1,k3⟩
 ·cases hk
theorem nT {base k n sz : Nat} {es : List (List D)} {zs : List D} {us Z : List Value} {R : D -> Value -> Prop} (hkn : k + n <= es.length) (hzs : zs.length=sz) (hes : ∀ e ∈ es,e.length=sz) (hlen : base + es.length * sz <= us.length) (hZl : Z.length=n * sz) (hZ : ∀ i off c,i < n -> zs[off]? = some c -> ∃ u,Z[i * sz + off]? = some u /\ R c u)
  (hold : ∀ i r off d,es[i]? = some r -> r[off]? = some d -> ∃ u,us[base + i * sz + off]? = some u /\ R d u) : ∀ i r off d,(dN es k n zs)[i]? = some r -> r[off]? = some d -> ∃ u,(us.take (base + k * sz)++Z++us.drop (base + k * sz + n * sz))[base + i * sz + off]? = some u /\ R d u:=by
 intro i r off d h1 h2
 have hle : k * sz + n * sz <= es.length * sz:=by rw [<- Nat.add_mul];exact Nat.mul_le_mul_right _ hkn
 have hget:=fun x=>iq (vs:=us) (us:=Z) (q:=base + k * sz) (n:=n * sz) (x:=x) hZl (by omega)
 rw [vg hkn] at h1
 split at h1
 ·rename_i hi
  cases h1
  have ho : off < sz:=by have:=(List.getElem?_eq_some_iff.1 h2).1;omega
  obtain ⟨u,k1,k2⟩:=hZ (i - k) off d (by omega) h2
  refine ⟨u,?_,k2⟩
  have e1 : i * sz=k * sz + (i - k) * sz:=by rw [<- Nat.add_mul];congr 1;omega
  have e2 : (i - k) * sz + sz <= n * sz:=by rw [<- Nat.succ_mul];exact Nat.mul_le_mul_right _ (by omega)
  rw [hget,if_pos (by omega),<- k1]
  congr 1
  omega
 ·rename_i hi
  have ho : off < sz:=by have:=(List.getElem?_eq_some_iff.1 h2).1;have:=hes r (List.mem_of_getElem? h1);omega
  obtain ⟨u,k1,k2⟩:=hold i r off d h1 h2
  refine ⟨u,?_,k2⟩
  rw [hget,if_neg,k1]
  intro hx
  by_cases hik : i < k
  ·have : i * sz + sz <= k * sz:=by rw [<- Nat.succ_mul];exact Nat.mul_le_mul_right _ hik
   omega
  ·have : k * sz + n * sz <= i * sz:=by rw [<- Nat.add_mul];exact Nat.mul_le_mul_right _ (by omega)
   omega
theorem vV {b : Nat} {x : D} (h : f b=x) (hx : isB x=true) : eff [(b,x)] [] f=f:=by
 funext s
 unfold eff
 by_cases e : s=b
 ·subst e;simp [h]
 ·have e1 : (s == b)=false:=by simpa using e
  simp [List.lookup_cons,e1,aL]
theorem AY (h : SR F nt S L w0 M0 f M a w) (hp : ∀ t,o.dst=some t -> t < nt) {zs : List D} {x : Opd} {y : Operand} {T : TypeId} (ho : o.op=.call { callee:=.builtin .clear,args:=#[y],argTypes:=#[T] }) (hx : ap F x y=true) (hk : pN P T zs=true)
  (hr : match vd f x with
  | .nils=>K (dM o.dst) []
  | .ref (.r b) k n=>match f b with
   | .blk sz es=>k + n <= es.length /\ zs.length=sz /\ (∀ e ∈ es,∀ c ∈ e,aB c=true) /\ (∀ c ∈ zs,aB c=true) /\ K (dM o.dst++[(b,.blk sz (dN es k n zs))]) []
   | _=>False
  | .ref (.n b i o') k n=>match f b with
   | .blk sz0 es0=>∃ row0,es0[i]? = some row0 /\ ∃ sz es,row0[o']? = some (.own sz es) /\ k + n <= es.length /\ zs.length=sz /\ (∀ c ∈ zs,aB c=true) /\ K (dM o.dst++[(b,.blk sz0 (b5 es0 i o' 1 [.own sz (dN es k n zs)]))]) []
   | _=>False
  | _=>False) : o.wp P a w (PostX F nt S L w0 M0 f K) Q:=by
 obtain ⟨ρ,ω,hO⟩:=h.own
 have hv:=hO.opd hx
 have exec : ∀ v w',(Builtin.clear_ #[T] o.type #[a.eval y]).run P w=.ok v w' -> (execOp a.eval o).run P w=.ok (.value v) w':=fun v w' e=>by
  simp only [execOp,ho,resolve,invoke,builtin,List.map_toArray,List.map_cons,List.map_nil,Sem.run_bind,Sem.run_pure,Result.andThen_ok,e]
 have noop : ∀ v : Value,(v=.slice none 0 0 \/ ∃ A cap,v=.slice A 0 cap) -> a.eval y=v -> (underlying T).run P w=.ok (match P.underlying T with | some u=>u | none=>default) w -> (execOp a.eval o).run P w=.ok (.value (.tuple #[])) w:=by
  intro v hv' e hu
  refine exec _ _ ?_
  rw [e]
  unfold Builtin.clear_
  simp only [List.getElem?_toArray,List.getElem?_cons_zero,Sem.run_bind,hu,Result.andThen_ok]
  rcases hv' with rfl | ⟨A,cap,rfl⟩
  ·simp
  ·cases A <;> simp
 have hu : (underlying T).run P w=.ok (match P.underlying T with | some u=>u | none=>default) w:=by
  unfold pN at hk
  split at hk
  ·rename_i e hu
   rw [run_underlying hu w,hu]
  ·cases hk
 have unit : ∀ (b : Nat) (x : D) (M' : Mem) (w' : World),SR F nt S L w0 M0 (eff [(b,x)] [] f) M' a w' -> SR F nt S L w0 M0 (eff (dM o.dst++[(b,x)]) [] f) M' (a.put o.dst (.tuple #[])) w':=fun b x M' w' hs=>by
  rw [<- pS]
  cases hd : o.dst with
  | none=>simpa [Act.put] using hs
  | some t=>exact hs.put (hp t hd) fun _ _ _=>by rw [aw rfl];simp [aA,af,au]
 split at hr
 ·rename_i hvx
  rw [hvx,aw rfl] at hv
  simp only [aA,af] at hv
  refine fb (noop _ (.inl rfl) hv hu) ⟨_,_,M,hr,?_⟩
  cases hd : o.dst with
  | none=>simpa [Act.put,dM,jh] using h
  | some t=>exact h.put (hp t hd) fun _ _ _=>by rw [aw rfl];simp [aA,af,au]
 ·rename_i b k n hvx
  rw [hvx,aw rfl] at hv
  split at hr
  ·rename_i sz es hf
   obtain ⟨hkn,hzs,hes1,hz1,hK⟩:=hr
   have hb:=hO.big hf
   have hgp : bB f (.r b)=some (sz,es):=by simp [bB,hf]
   by_cases hn : n=0
   ·subst hn
    have e0 : dN es k 0 zs=es:=by simp [dN]
    rw [e0] at hK
    have hv' : ∃ A cap,a.eval y=.slice A 0 cap:=by
     simp only [aA] at hv
     rcases hv with ⟨_,A,e⟩ | ⟨cap,e,_⟩
     ·exact ⟨A,0,e⟩
     ·exact ⟨_,cap,e⟩
    refine fb (noop _ (.inr hv') rfl hu) ⟨_,_,M,hK,unit b _ M w ?_⟩
    rw [vV hf rfl];exact h
   ·rcases jF hO hgp hkn hv (fun e he c hc=>cO (hes1 e (List.mem_of_mem_drop (List.mem_of_mem_take he)) c hc)) with ⟨A,hv,hn0⟩ | ⟨cap,us,T0,hv,⟨hcap,hmc⟩,hcl,hω,g0,g1,g2,g4,g5⟩
    ·exact absurd hn0 hn
    ·have hrows : f7 w (ρ (.r b)) sz es (fun i off d v=>cS F M ω ρ w b i off d v):=by
      rcases hO.roots b sz es hb hf with ⟨e0,_⟩ | ⟨_,hr⟩
      ·rw [e0] at hkn;simp at hkn;omega
      ·exact hr
     obtain ⟨q0,us0,T1,q1,q2,q3,q4,q5⟩:=id hrows
     rw [g1] at q1
     simp only [Option.some.injEq,Obj.cells.injEq,and_true] at q1
     obtain ⟨q1,rfl⟩:=q1
     obtain rfl : us=us0:=by simpa using congrArg Array.toList q1
     have hle : k * sz + n * sz <= es.length * sz:=by rw [<- Nat.add_mul];exact Nat.mul_le_mul_right _ hkn
     obtain ⟨w',Z,e1,e2,e3,e4,e5⟩:=oE (P:=P) (w:=w) (ty:=o.type) hk hz1 hn (cap:=cap) g1 (hO.lt _ _ hω) (o:=(ρ (.r b)).base + k * sz) (by rw [hzs,g2];omega)
     rw [hzs] at e2 e3 e4
     have hfill:=h.fill hO hf hω hrows (es':=dN es k n zs) (us:=us.take ((ρ (.r b)).base + k * sz)++Z++us.drop ((ρ (.r b)).base + k * sz + n * sz)) (w':=w') (Nat.le_of_eq (jw hkn)) (fun e he=>by
      rcases oK he with rfl | he
      ·exact ⟨hzs,hz1⟩
      ·exact ⟨g4 e he,hes1 e he⟩) e5 e2 (by simp;omega) (nT (R:=fun d v=>af F M d v) hkn hzs g4 (by rw [g2];exact q3) e3 (fun i off c hi hc=>by
       obtain ⟨u,k1,k2⟩:=e4 i off c hi hc
       exact ⟨u,k1,k2 F M⟩) (fun i r off d h1 h2=>by
       obtain ⟨u,k1,k2⟩:=q5 i r off d h1 h2
       rw [a8 (cO (hes1 r (List.mem_of_getElem? h1) d (List.mem_of_getElem? h2)))] at k2
       exact ⟨u,k1,k2⟩))
     obtain ⟨_,_,_,_,hs⟩:=hfill
     refine fb (exec _ _ (by rw [hv];exact e1)) ⟨_,_,M,hK,unit b _ M w' hs⟩
  ·exact hr.elim
 ·rename_i b i0 o0 k n hvx
  rw [hvx,aw rfl] at hv
  split at hr
  ·rename_i sz0 es0 hf
   obtain ⟨row0,hi0,sz,es,ho0,hkn,hzs,hz1,hK⟩:=hr
   have hb:=hO.big hf
   have hgp : bB f (.n b i0 o0)=some (sz,es):=by simp [bB,hf,hi0,ho0]
   have hpath : ct ω ρ w (.n b i0 o0) sz es (fun _ _ d v=>af F M d v):=(hO.get (p:=.n b i0 o0) hb hgp).1
   have hnoO : ∀ e ∈ (es.drop k).take n,∀ c ∈ e,isO c=false:=by
    intro e he c hc'
    have he:=List.mem_of_mem_drop (List.mem_of_mem_take he)
    rcases hpath with ⟨e0,_⟩ | ⟨_,_,vs,T,_,_,_,_,h5⟩
    ·rw [e0] at he;cases he
    ·obtain ⟨i,hi⟩:=List.mem_iff_getElem?.1 he
     obtain ⟨j,hj⟩:=List.mem_iff_getElem?.1 hc'
     obtain ⟨u,_,h6⟩:=h5 i e j c hi hj
     cases c <;> first | rfl | (simp [af] at h6)
   by_cases hn : n=0
   ·subst hn
    have e0 : dN es k 0 zs=es:=by simp [dN]
    rw [e0] at hK
    have hv' : ∃ A cap,a.eval y=.slice A 0 cap:=by
     simp only [aA] at hv
     rcases hv with ⟨_,A,e⟩ | ⟨cap,e,_⟩
     ·exact ⟨A,0,e⟩
     ·exact ⟨_,cap,e⟩
    refine fb (noop _ (.inr hv') rfl hu) ⟨_,_,M,hK,unit b _ M w (h.fillN hO hf hi0 ho0 rfl h.ch (Nat.le_refl _) h.holds hpath (fun _ _ _ _=>rfl))⟩
   ·rcases jF hO hgp hkn hv hnoO with ⟨A,hv,hn0⟩ | ⟨cap,us,T0,hv,⟨hcap,hmc⟩,hcl,hω,g0,g1,g2,g4,g5⟩
    ·exact absurd hn0 hn
    ·have hrows : f7 w (ρ (.n b i0 o0)) sz es (fun _ _ d v=>af F M d v):=by
      rcases hpath with ⟨e0,_⟩ | ⟨_,hr⟩
      ·rw [e0] at hkn;simp at hkn;omega
      ·exact hr
     obtain ⟨q0,us0,T1,q1,q2,q3,q4,q5⟩:=id hrows
     rw [g1] at q1
     simp only [Option.some.injEq,Obj.cells.injEq,and_true] at q1
     obtain ⟨q1,rfl⟩:=q1
     obtain rfl : us=us0:=by simpa using congrArg Array.toList q1
     have hle : k * sz + n * sz <= es.length * sz:=by rw [<- Nat.add_mul];exact Nat.mul_le_mul_right _ hkn
     obtain ⟨w',Z,e1,e2,e3,e4,e5⟩:=oE (P:=P) (w:=w) (ty:=o.type) hk hz1 hn (cap:=cap) g1 (hO.lt _ _ hω) (o:=(ρ (.n b i0 o0)).base + k * sz) (by rw [hzs,g2];omega)
     rw [hzs] at e2 e3 e4
     have hnew:=hO.new _ _ hω
     have hMb : ∀ p : Addr,p.block=(ρ (.n b i0 o0)).blk -> M p=none:=fun p hp=>hO.apart p (.n b i0 o0) (by rw [hp];exact hω)
     have hh : ∀ p v,M p=some v -> w'.cell? p=some v:=fun p v hp=>by
      have hne : p.block ≠ (ρ (.n b i0 o0)).blk:=fun e=>by rw [hMb p e] at hp;cases hp
      have h8:=h.holds p v hp
      rw [World.cell?_of_block (e5.block _ (World.block_lt_of_cell? w p h8) hne)]
      exact h8
     refine fb (exec _ _ (by rw [hv];exact e1)) ⟨_,_,M,hK,unit b _ M w' (h.fillN hO hf hi0 ho0 (jw hkn) (h.ch.trans e5 (fun k hk e=>by rcases hnew with h7 | h7;rw [e];exact h7;omega)) e5.size hh (.inr ⟨hω,g0,_,T0,e2,by simp;omega,by rw [jw hkn];exact q3,fun e he=>by
      rcases oK he with rfl | he
      ·exact hzs
      ·exact g4 e he,nT (R:=fun d v=>af F M d v) hkn hzs g4 (by rw [g2];exact q3) e3 (fun i off c hi hc=>by
       obtain ⟨u,k1,k2⟩:=e4 i off c hi hc
       exact ⟨u,k1,k2 F M⟩) q5⟩) (fun k q hk hq=>e5.block k (hO.lt _ _ hk) (by rintro rfl;rw [hω] at hk;cases hk;exact hq rfl)))⟩
  ·exact hr.elim
 ·exact hr.elim
end
end Go.Gv

namespace Go.Gv
open Go.RowKit
section
variable {P : Program} {F : Fid} {C : Nat -> List D -> D -> List D -> Prop} {nt : Nat} {S : Nat -> Prop} {L : Nat -> Option Loc} {w0 : World} {M0 : Mem} {f : Nat -> D} {M M' : Mem} {a : Act} {w w' : World} {o : Oper} {d : D} {Q : Exit -> Act -> World -> Prop} {ρ ρ' : Pa -> Loc} {ω ω' : Nat -> Option Pa} {New : Nat -> Prop} {K : List (Nat × D) -> List (Nat × Bool) -> Prop}
theorem qo (p : Pa) : bY p.root true p=true:=by cases p <;> simp [bY,Pa.root]
theorem jM {t i b : Nat} {x d : D} (h : (b,x) ∈ dS t i d) : b=rt t i /\ ∃ sz es,x=.blk sz es /\ ∀ t',(rt t' i,x) ∈ dS t' i d:=by
 cases d <;> simp only [dS,List.mem_cons,List.not_mem_nil,or_false,Prod.mk.injEq] at h
 all_goals exact ⟨h.1,_,_,h.2,fun t'=>by rw [h.2];simp [dS]⟩
theorem jN {t b : Nat} {x : D} : ∀ {ds : List D} {i : Nat},(b,x) ∈ cv t i ds -> ∃ j,i <= j /\ j < i + ds.length /\ b=rt t j /\ ∃ sz es,x=.blk sz es /\ ∀ t',(rt t' j,x) ∈ cv t' i ds
 | [],_,h=>by simp [cv] at h
 | d::ds,i,h=>by
  simp only [cv,List.mem_append] at h
  rcases h with h | h
  ·obtain ⟨e,sz,es,e2,h2⟩:=jM h
   exact ⟨i,Nat.le_refl _,by simp,e,sz,es,e2,fun t'=>by simp only [cv,List.mem_append];exact .inl (h2 t')⟩
  ·obtain ⟨j,h1,h2,e,sz,es,e2,h3⟩:=jN h
   exact ⟨j,by omega,by simp;omega,e,sz,es,e2,fun t'=>by simp only [cv,List.mem_append];exact .inr (h3 t')⟩
theorem lM {t b : Nat} {x y : D} : ∀ {ds : List D} {i : Nat},(b,x) ∈ cv t i ds -> (b,y) ∈ cv t i ds -> x=y
 | [],_,h,_=>by simp [cv] at h
 | d::ds,i,h,h'=>by
  simp only [cv,List.mem_append] at h h'
  have far : ∀ {z : D},(b,z) ∈ cv t (i + 1) ds -> b ≠ rt t i:=fun hz e=>by
   obtain ⟨j,h1,_,e2,_⟩:=jN hz
   rw [e] at e2
   unfold rt at e2
   omega
  rcases h with h | h <;> rcases h' with h' | h'
  ·cases d <;> simp only [dS,List.mem_cons,List.not_mem_nil,or_false,Prod.mk.injEq] at h h'
   all_goals rw [h.2,h'.2]
  ·exact absurd (jM h).1 (far h')
  ·exact absurd (jM h').1 (far h)
  ·exact lM h h'
theorem BY {b : Nat} {x : D} : ∀ {l : List (Nat × D)},(∀ y,(b,y) ∈ l -> y=x) -> (b,x) ∈ l -> l.lookup b=some x
 | [],_,h=>by simp at h
 | (c,y)::l,hu,h=>by
  by_cases e : b=c
  ·subst e
   rw [hu y (by simp)]
   simp
  ·have e1 : (b == c)=false:=by simpa using e
   simp only [List.lookup_cons,e1]
   refine BY (fun y hy=>hu y (by simp [hy])) ?_
   rcases List.mem_cons.1 h with h | h
   ·cases h;exact absurd rfl e
   ·exact h
theorem xa {b : Nat} : ∀ {l : List (Nat × D)},(∀ y,(b,y) ∉ l) -> l.lookup b=none
 | [],_=>rfl
 | (c,y)::l,h=>by
  have e : b ≠ c:=fun e=>h y (by simp [e])
  have e1 : (b == c)=false:=by simpa using e
  simp only [List.lookup_cons,e1]
  exact xa fun y hy=>h y (by simp [hy])
theorem ui {t i : Nat} {d : D} {v : Value} (h : aA F M ρ (iS 0 i d) v) (he : ∀ x,(rt 0 i,x) ∈ dS 0 i d -> ρ' (.r (rt t i))=ρ (.r (rt 0 i))) (hp : ∀ p k n,d ≠ .ref p k n) (hp2 : ∀ p k n,d ≠ .adr p k n) (hp3 : ∀ b,d ≠ .mrf b) : aA F M ρ' (iS t i d) v:=by
 cases d
 case own sz es =>
  have e:=he (.blk sz es) (by simp [dS])
  simp only [iS,aA] at h ⊢
  rw [e];exact h
 case blk sz es =>
  have e:=he (.blk sz es) (by simp [dS])
  simp only [iS,aA] at h ⊢
  rw [e];exact h
 case ref p k n=>exact absurd rfl (hp p k n)
 case adr p k n=>exact absurd rfl (hp2 p k n)
 case mrf b=>exact absurd rfl (hp3 b)
 all_goals exact h
theorem jj {t : Nat} : ∀ {ds : List D} {i : Nat} {vs : List Value},dA F M ρ (dy 0 i ds) vs -> (∀ j x,(rt 0 j,x) ∈ cv 0 i ds -> ρ' (.r (rt t j))=ρ (.r (rt 0 j))) -> (∀ d ∈ ds,xu d=true) -> dA F M ρ' (dy t i ds) vs
 | [],i,vs,h,_,_=>⟨by simpa [dy] using h.1,fun j d v h1=>by simp [dy] at h1⟩
 | d::ds,i,[],h,_,_=>by have:=h.1;simp [dy] at this
 | d::ds,i,v::vs,h,he,hk=>by
  have hd:=hk d (by simp)
  have ih:=jj (t:=t) (ds:=ds) (i:=i + 1) (vs:=vs) ⟨by have:=h.1;simpa [dy] using this,fun j d' v' h1 h2=>h.2 (j + 1) d' v' (by simpa [dy] using h1) (by simpa using h2)⟩ (fun j x hx=>he j x (by simp only [cv,List.mem_append];exact .inr hx)) (fun d' hd'=>hk d' (by simp [hd']))
  refine ⟨by have:=ih.1;simp [dy,this],fun j d' v' h1 h2=>?_⟩
  cases j with
  | zero =>
   simp only [dy,List.getElem?_cons_zero,Option.some.injEq] at h1 h2
   subst h1 h2
   exact ui (h.2 0 _ _ (by simp [dy]) rfl) (fun x hx=>he i x (by simp only [cv,List.mem_append];exact .inl hx)) (fun p k n e=>by rw [e] at hd;cases hd) (fun p k n e=>by rw [e] at hd;cases hd) (fun b e=>by rw [e] at hd;cases hd)
  | succ j=>exact ih.2 j d' v' (by simpa [dy] using h1) (by simpa using h2)
theorem jk {t b : Nat} {x R : D} (hok : okR R=true) (h : (b,x) ∈ cB t R) : ∃ j,1 <= j /\ j <= 14 /\ b=rt t j /\ ∃ sz es,x=.blk sz es /\ ∀ t',(rt t' j,x) ∈ cB t' R:=by
 obtain ⟨j,h1,h2,h3,h4⟩:=jN h
 refine ⟨j,h1,?_,h3,h4⟩
 have : (i9 R).length <= 14:=by
  cases R <;> simp only [okR,Bool.and_eq_true,decide_eq_true_eq,Bool.false_eq_true] at hok <;> first | exact hok.1 | simp [i9]
 omega
theorem uG {R : D} (hok : okR R=true) : ∀ d ∈ i9 R,xu d=true:=by
 cases R <;> simp only [okR,Bool.and_eq_true,Bool.false_eq_true,List.all_eq_true] at hok <;> first | exact hok.2 | (intro d hd;simp only [i9,List.mem_cons,List.not_mem_nil,or_false] at hd;subst hd;rfl)
theorem uW (hC : b8 P F C) (h : SR F nt S L w0 M0 f M a w) (hL : ∀ t i,i < 15 -> L (rt t i)=none) {t : Nat} (hd : o.dst=some t) (ht : t < nt) {g fi : Nat} {xs : List Opd} {ys : Array Operand} {ts : Array TypeId} (ho : o.op=.call { callee:=.value (.func fi),args:=ys,argTypes:=ts }) (hx : b9 F xs ys.toList=true)
  (hg : F g=some fi) (hr : (∀ x ∈ xs,isV (vd f x)=true) /\ ∃ R,okR R=true /\ C g (xs.map (vd f)) R [.nils] /\ K ((t,lL t R)::cB t R) (ki t R)) : o.wp P a w (PostX F nt S L w0 M0 f K) Q:=by
 obtain ⟨hxs,R,hok,hc,hK⟩:=hr
 have hrun : (execOp a.eval o).run P w=(callFunc fi (ys.toList.map a.eval).toArray).run P w:=by
  simp only [execOp,ho,resolve,Act.eval,Deferred.ofValue,Sem.run_bind,Sem.run_pure,Result.andThen_ok,invoke]
  congr 2
  rw [Array.append_empty,Array.empty_append]
  apply Array.ext'
  simp
 have hrep : au F M (xs.map (vd f)) (ys.toList.map a.eval):=by
  have h1:=fY h hx (by rw [List.all_eq_true];exact hxs)
  rwa [List.map_congr_left (g:=vd f) fun x hx'=>by unfold dpv;exact (mc (hxs x hx')).1] at h1
 obtain ⟨ρ,ω,hO⟩:=h.own
 have ht10 : t < 10000:=Nat.lt_of_lt_of_le ht h.hnt
 unfold Oper.wp
 rw [hrun,bO (hC.body g fi hg),Oper.upon_enter]
 refine (hC.runsA g fi _ R hg hc M w _ h.holds hrep).mono ?_
 rintro e w' ⟨v,M',ρ',ω',us,rfl,hb,hM,hfr,hh,hsh,hrl,hroot,hω',hap'⟩
 rw [hd]
 refine ⟨_,_,M',hK,?_⟩
 have mem : ∀ b,((cB t R).any fun q=>q.1 == b)=true ↔ ∃ x,(b,x) ∈ cB t R:=fun b=>by
  simp only [List.any_eq_true,beq_iff_eq]
  constructor
  ·rintro ⟨⟨c,x⟩,h1,rfl⟩;exact ⟨x,h1⟩
  ·rintro ⟨x,h1⟩;exact ⟨(b,x),h1,rfl⟩
 obtain ⟨ρ2,hρ2⟩ : ∃ ρ2 : Pa -> Loc,ρ2=fun p=>if ((cB t R).any fun q=>q.1 == p.root)=true then ρ' (p.to (p.root - 16 * t)) else ρ p:=⟨_,rfl⟩
 obtain ⟨ω2,hω2⟩ : ∃ ω2 : Nat -> Option Pa,ω2=fun k=>match ω' k with
  | some q=>some (q.to (q.root + 16 * t))
  | none=>match ω k with
   | some p=>if ((cB t R).any fun q=>q.1 == p.root)=true then none else some p
   | none=>none:=⟨_,rfl⟩
 have r1 : ∀ p : Pa,(∃ x,(p.root,x) ∈ cB t R) -> ρ2 p=ρ' (p.to (p.root - 16 * t)):=fun p hp=>by rw [hρ2];simp only [(mem _).2 hp,if_true]
 have r2 : ∀ p : Pa,¬ (∃ x,(p.root,x) ∈ cB t R) -> ρ2 p=ρ p:=fun p hp=>by
  rw [hρ2]
  have : ¬ ((cB t R).any fun q=>q.1 == p.root)=true:=fun e=>hp ((mem _).1 e)
  simp only [if_neg this]
 have o1 : ∀ k q,ω' k=some q -> ω2 k=some (q.to (q.root + 16 * t)):=fun k q e=>by rw [hω2];simp only [e]
 have oldnew : ∀ k p q,ω k=some p -> ω' k ≠ some q:=fun k p q e e'=>by
  have:=hO.lt k p e
  have:=(hω' k q e').1
  omega
 have o2 : ∀ k p,ω k=some p -> ¬ (∃ x,(p.root,x) ∈ cB t R) -> ω2 k=some p:=fun k p e hp=>by
  have e1 : ω' k=none:=by
   cases e2 : ω' k with
   | none=>rfl
   | some q=>exact absurd e2 (oldnew k p q e)
  have : ¬ ((cB t R).any fun q=>q.1 == p.root)=true:=fun e=>hp ((mem _).1 e)
  rw [hω2];simp only [e1,e,if_neg this]
 have o3 : ∀ k p,ω2 k=some p -> (∃ q,ω' k=some q) \/ ω k=some p:=fun k p e=>by
  rw [hω2] at e
  simp only at e
  cases e1 : ω' k with
  | some q=>exact .inl ⟨q,rfl⟩
  | none =>
   rw [e1] at e
   simp only at e
   cases e2 : ω k with
   | none=>rw [e2] at e;cases e
   | some p' =>
    rw [e2] at e
    simp only at e
    split at e
    ·cases e
    ·cases e;exact .inr rfl
 have hshift : ∀ j x,(rt 0 j,x) ∈ cB 0 R -> ρ2 (.r (rt t j))=ρ' (.r (rt 0 j)):=fun j x hx=>by
  obtain ⟨j',h1,h2,h3,sz,es,h4,h5⟩:=jk hok hx
  have ej : j=j':=by unfold rt at h3;omega
  subst ej
  rw [r1 (.r (rt t j)) ⟨x,h5 t⟩]
  show ρ' (.r (rt t j - 16 * t))=_
  have : rt t j - 16 * t=rt 0 j:=by unfold rt;omega
  rw [this]
 have lkn : ∀ s,s ≠ t -> ¬ (∃ x,(s,x) ∈ cB t R) -> ((t,lL t R)::cB t R).lookup s=none:=fun s h1 h2=>by
  have e1 : (s == t)=false:=by simpa using h1
  simp only [List.lookup_cons,e1]
  exact xa fun y hy=>h2 ⟨y,hy⟩
 have small : ∀ s,s < 10000 -> ¬ (∃ x,(s,x) ∈ cB t R):=fun s hs ⟨x,hx⟩=>by
  obtain ⟨j,_,_,h3,_⟩:=jk hok hx
  unfold rt at h3;omega
 refine ⟨h.hnt,by simp [Act.put,h.size],by simp [Act.put,h.defers],h.ch.trans (Ch.of_below hb (fun _=>False)) (fun _ _ e=>e.elim),hh,Mem.le_trans h.ext hM,fun p h1 h2=>?_,ρ2,ω2,hO.step (ks:=ki t R) (fun p hp=>?_) hM hb.size (fun s hs=>?_) (fun c hc=>?_) (fun k p e=>?_) (fun p q e=>?_) (fun c l hc hl hB=>?_)⟩
 ·by_cases e : M p=none
  ·exact .inr (Nat.le_trans h.ch.size (hfr p e h2))
  ·exact h.fresh p h1 e
 ·by_cases e : ∃ x,(p.root,x) ∈ cB t R
  ·obtain ⟨x,hx⟩:=e
   exact ⟨(p.root,true),List.mem_map.2 ⟨_,hx,rfl⟩,qo p⟩
  ·exact absurd (r2 p e) hp
 ·by_cases e : s=t
  ·right
   subst e
   have e1 : eff ((s,lL s R)::cB s R) (ki s R) f s=lL s R:=aV (by simp)
   refine .inr ⟨v,getElem?_put_same (by rw [h.size];exact ht),?_⟩
   rw [e1]
   have hp:=uG hok
   cases R <;> simp only [okR,Bool.false_eq_true] at hok
   case agg ds=>exact ⟨us,hsh,jj hrl (fun j x hx=>hshift j x hx) hp⟩
   case tup ds=>exact ⟨us,hsh,jj hrl (fun j x hx=>hshift j x hx) hp⟩
   all_goals
    have h3:=jj (t:=s) hrl (fun j x hx=>hshift j x hx) hp
    simp only [so] at hsh
    subst hsh
    have h4:=h3.2 0 _ v rfl rfl
    exact h4
  ·left
   rcases bG (f:=f) (ks:=ki t R) (lkn s e (small s hs)) with h1 | h1
   ·exact .inl h1
   ·exact .inr ⟨h1.1,getElem?_put e,h1.2⟩
 ·by_cases e : ∃ x,(c,x) ∈ cB t R
  ·obtain ⟨x,hx⟩:=e
   obtain ⟨j,h1,h2,h3,sz,es,rfl,h5⟩:=jk hok hx
   right
   have hct : (c == t)=false:=by simp;omega
   have hlk : ((t,lL t R)::cB t R).lookup c=some (.blk sz es):=by
    simp only [List.lookup_cons,hct]
    exact BY (fun y hy=>(lM hx hy).symm) hx
   have ec : c - 16 * t=rt 0 j:=by rw [h3];unfold rt;omega
   have ec2 : rt 0 j + 16 * t=c:=by rw [h3];unfold rt;omega
   refine .inl ⟨sz,es,aV hlk,(hroot (rt 0 j) sz es (h5 0)).carry (Mem.le_refl _) (fun p hp=>?_)⟩
   refine ⟨?_,fun e2=>⟨?_,rfl⟩⟩
   ·rw [r1 _ ⟨_,by rw [Pa.to_root];exact hx⟩,Pa.to_root,ec,Pa.to_to (rt 0 j) c p hp]
   ·rw [o1 _ _ e2,hp,ec2]
  ·left
   rcases ci (f:=f) (ks:=ki t R) (lkn c (by omega) e) with h1 | h1
   ·exact .inl h1
   ·refine .inr ⟨h1,fun p hp=>?_⟩
    have hpe : ¬ (∃ x,(p.root,x) ∈ cB t R):=by rw [hp];exact e
    exact ⟨r2 p hpe,fun hw=>⟨o2 _ _ hw hpe,hb.block _ (hO.lt _ _ hw)⟩⟩
 ·rcases o3 k p e with ⟨q,e1⟩ | e1
  ·exact .inr ⟨(hω' k q e1).2.1,.inr (Nat.le_trans h.ch.size (hω' k q e1).1)⟩
  ·exact .inl ⟨p,e1⟩
 ·rcases o3 _ q e with ⟨q',e1⟩ | e1
  ·exact hap' p q' e1
  ·cases e3 : M' p with
   | none=>rfl
   | some u =>
    have h1:=hfr p (hO.apart p q e1) (by rw [e3];simp)
    have:=hO.lt _ _ e1
    omega
 ·by_cases e : ∃ x,(c,x) ∈ cB t R
  ·obtain ⟨x,hx⟩:=e
   obtain ⟨j,h1,h2,h3,_⟩:=jk hok hx
   rw [h3,hL t j (by omega)] at hl;cases hl
  ·have hpe : ¬ (∃ x,((Pa.r c).root,x) ∈ cB t R):=e
   refine ⟨r2 _ hpe,?_⟩
   rcases ci (f:=f) (ks:=ki t R) (lkn c (by omega) e) with h1 | h1
   ·rw [hB] at h1;cases h1
   ·rw [<- h1];exact hB
end
end Go.Gv

namespace Go.Gv
open Go.RowKit
abbrev Env:=List (Nat × D)
def ac : Env -> Nat -> D
 | [],_=>.any
 | (s,d)::r,t=>if s=t then d else ac r t
def eG (ks : List (Nat × Bool)) (e : Env) : Env:=if ks=[] then e else e.map fun p=>(p.1,if aL ks p.2 then .any else p.2)
theorem xd (ws : List (Nat × D)) (e : Env) (t : Nat) : ac (ws++e) t=match ws.lookup t with
  | some d=>d
  | none=>ac e t:=by
 induction ws with
 | nil=>rfl
 | cons p ws ih =>
  obtain ⟨s,d⟩:=p
  simp only [List.cons_append,ac,List.lookup_cons]
  by_cases h : s=t
  ·subst h;simp
  ·have h1 : (t == s)=false:=by simp;exact fun e=>h e.symm
   rw [if_neg h,h1]
   exact ih
theorem ur (ks : List (Nat × Bool)) : ∀ (e : Env) (t : Nat),ac (eG ks e) t=if aL ks (ac e t) then .any else ac e t:=by
 intro e t
 unfold eG
 by_cases hk : ks=[]
 ·subst hk;simp [lu]
 ·rw [if_neg hk]
  induction e with
  | nil =>
   show D.any=if aL ks D.any=true then D.any else D.any
   by_cases hm : aL ks D.any=true
   ·rw [if_pos hm]
   ·rw [if_neg hm]
  | cons p e ih =>
   obtain ⟨s,d⟩:=p
   by_cases h : s=t
   ·simp [ac,h]
   ·have h1 : ac ((s,d)::e) t=ac e t:=by simp [ac,h]
    rw [h1,<- ih]
    simp [ac,h]
theorem iW (ws : List (Nat × D)) (ks : List (Nat × Bool)) (e : Env) : ac (ws++eG ks e)=eff ws ks (ac e):=by
 funext t
 rw [xd]
 unfold eff
 cases List.lookup t ws with
 | some d=>rfl
 | none=>exact ur ks e t
def gW (e : Env) (dst : Option Nat) (K : Env -> Prop) : Prop :=
 match dst with
 | none=>K e
 | some t=>K ((t,.tup [])::e)
def qY (C : Nat -> List D -> D -> List D -> Prop) (dst : Option Nat) (K : Env -> Prop) (e : Env) (op : NOp) : Prop:=aK C (ac e) dst (fun ws ks=>K (ws++eG ks e)) op
def iu (C : Nat -> List D -> D -> List D -> Prop) (K : Env -> Prop) : List az -> Env -> Prop
 | [],e=>K e
 | o::os,e=>match o.guard with
  | none=>qY C o.dst (iu C K os) e o.op
  | some (s,want)=>match ac e s with
   | .bool b=>(b=want -> qY C o.dst (iu C K os) ((s,.bool want)::e) o.op) /\ (b=!want -> gW ((s,.bool !want)::e) o.dst (iu C K os))
   | .tup []=>gW e o.dst (iu C K os)
   | _=>False
section
variable {P : Program} {F : Fid} {C : Nat -> List D -> D -> List D -> Prop} {nt : Nat} {S : Nat -> Prop} {L : Nat -> Option Loc} {w0 : World} {M0 : Mem} {f : Nat -> D} {M : Mem} {a : Act} {w : World} {o : Oper} {d : D} {Q : Exit -> Act -> World -> Prop} {ρ : Pa -> Loc} {ω : Nat -> Option Pa} {New : Nat -> Prop} {K : List (Nat × D) -> List (Nat × Bool) -> Prop}
def xx (P : Program) (F : Fid) : NOp -> Op -> Bool
 | .asg x,.move y=>ap F x y
 | .asg x,.assign y=>ap F x y
 | .frz x,.move y=>ap F x y
 | .frz x,.assign y=>ap F x y
 | .slM len sz x,.slice t x' none none none=>(gA P t len sz && decide (len <= 16777216)) && ap F x x'
 | .nilo _,.move y=>ap F (.c .nils) y
 | .nilo _,.assign y=>ap F (.c .nils) y
 | .box _ x,.box _ x'=>ap F x x'
 | .alc zs,.alloc t=>zeroOk P t zs
 | .bls sz len zs _ ps,.buildSlice t len' ps'=>len == len' && blsOk P F t sz len zs ps ps'.toList
 | .mks sz by_ zs n c,.makeSlice t n' c'=>mksOk P t sz by_ zs && ap F n n' && ap F c c'
 | .call g xs _,.call { callee:=.value (.func fi),args:=ys,argTypes:=_ }=>F g == some fi && b9 F xs ys.toList
 | .callF g xs,.call { callee:=.value (.func fi),args:=ys,argTypes:=_ }=>F g == some fi && b9 F xs ys.toList
 | .callG g xs,.call { callee:=.value (.func fi),args:=ys,argTypes:=_ }=>F g == some fi && b9 F xs ys.toList
 | .callS g x xs,.call { callee:=.value (.func fi),args:=⟨y::ys⟩,argTypes:=_ }=>F g == some fi && ap F x y && b9 F xs ys
 | .callN g x xs,.call { callee:=.value (.func fi),args:=⟨y::ys⟩,argTypes:=_ }=>F g == some fi && ap F x y && b9 F xs ys
 | .callE g x xs,.call { callee:=.value (.func fi),args:=⟨y::ys⟩,argTypes:=_ }=>F g == some fi && ap F x y && b9 F xs ys
 | .callA g xs,.call { callee:=.value (.func fi),args:=ys,argTypes:=_ }=>F g == some fi && b9 F xs ys.toList
 | .callL g x xs,.call { callee:=.value (.func fi),args:=⟨y::ys⟩,argTypes:=_ }=>F g == some fi && ap F x y && b9 F xs ys
 | .clr zs x,.call { callee:=.builtin .clear,args:=⟨[y]⟩,argTypes:=⟨[t]⟩ }=>pN P t zs && ap F x y
 | .callv x xs,.call { callee:=.value x',args:=ys,argTypes:=_ }=>ap F x x' && b9 F xs ys.toList
 | .st n _ x v,.store t x' v'=>kP P t n && ap F x x' && ap F v v'
 | .app sz by_ _ x y,.call { callee:=.builtin .append,args:=⟨[x',y']⟩,argTypes:=⟨[t,t']⟩ }=>t == t' && vy P t sz by_ && ap F x x' && ap F y y'
 | .mkm _ _,.makeMap _ none=>true
 | .mpu sh kt et z m x v,.mapUpdate t m' x' v'=>mapOk F t kt et sh z && ap F m m' && ap F x x' && ap F v v'
 | .dead,_=>true
 | p,q=>Ao P F p q
theorem rk {t : Option Nat} (hK : fB t K d) : ∀ a' w',bN F nt S L w0 M0 f t d a' w' -> PostX F nt S L w0 M0 f K a' w':=by
 rintro a' w' ⟨M',h⟩
 cases t with
 | none=>exact ⟨[],[],M',hK,by rw [jh];exact h⟩
 | some t=>exact ⟨_,_,M',hK,h⟩
theorem Ek (hl : laidOutB F.P=true) (hP : P=F.P) (h : SR F nt S L w0 M0 f M a w) {n : NOp} {q : Op} (hp : bH nt f o.dst) (ho : o.op=q) (hk : Ao P F n q=true) (hr : res f (·=d) n) : o.wp P a w (bN F nt S L w0 M0 f o.dst d) Q:=by
 unfold Ao at hk
 split at hk <;> (try simp only [Bool.and_eq_true,beq_iff_eq] at hk)
 ·exact tr h hp (.inl ho) hk hr
 ·exact tr h hp (.inr ho) hk hr
 ·exact Bd h hp ho hk hr
 ·exact yi h hp ho hk.1.1 hk.1.2 hk.2 hr
 ·obtain ⟨⟨rfl,h1⟩,h2⟩:=hk;exact AW h hp ho h1 h2 hr
 ·obtain ⟨rfl,h1⟩:=hk;exact EI h hp ho h1 hr
 ·exact yb h hp ho hk.2 hk.1 hr
 ·exact Bb h hp ho hk.2 hk.1 hr
 ·exact ye h hp ho hk.1.2 hk.2 hk.1.1 hr
 ·exact yf h hp ho hk.1.2 hk.2 hk.1.1 hr
 ·obtain ⟨rfl,h1⟩:=hk;exact A0 h hp ho h1 hr
 ·exact Ba h hp ho hk.2 hk.1 hr
 ·exact yd h hp ho hk.1.2 hk.2 hk.1.1 hr
 ·exact yc h hp ho hk.1.2 hk.2 hk.1.1 hr
 ·exact ED h hp ho hk.2 hk.1 hr
 ·exact snd_boxF h hp ho hk hr
 ·obtain ⟨rfl,h1⟩:=hk;exact x9 h hp ho h1 hr
 ·exact AX h hp ho hk hr
 ·exact Bc h hp ho hk.2 hk.1 hr
 ·exact yg h hp ho hk.2 hk.1 hr
 ·exact EE h hp ho hk.1.2 hk.2 hk.1.1 hr
 ·exact Bh h hp ho hk.1.1.2 hk.1.2 hk.2 hk.1.1.1 hr
 ·exact Bg h hp ho hk.1.1.2 hk.1.2 hk.2 hk.1.1.1 hr
 ·exact Be h hp ho hk.2 hk.1 hr
 ·exact AZ h hp ho hk.2 hk.1 hr
 ·exact EF h hp ho hk.1 hk.2 hr
 ·exact EG h hp ho hk.1 hk.2 hr
 ·obtain ⟨⟨⟨rfl,h1⟩,h2⟩,h3⟩:=hk;exact AV h hp ho h2 h3 h1 hr
 ·exact uV h hp ho hk.1.1.1 hk.1.1.2 hk.1.2 hk.2 hr
 ·exact u9 h hp ho hk.1.1.1 hk.1.1.2 hk.1.2 hk.2 hr
 ·obtain ⟨⟨⟨rfl,h1⟩,h2⟩,h3⟩:=hk;exact snd_mpl hl h hp ho h2 h3 h1 hP hr
 ·cases hk
def NoL (L : Nat -> Option Loc) : Prop:=∀ t i,i < 15 -> L (rt t i)=none
theorem Ej (hC : b8 P F C) (hL : NoL L) (h : SR F nt S L w0 M0 f M a w) {n : NOp} {q : Op} (hd : ∀ t,o.dst=some t -> t < nt) (ho : o.op=q) (hk : xx P F n q=true) (hr : aK C f o.dst K n) : o.wp P a w (PostX F nt S L w0 M0 f K) Q:=by
 have hp : bH nt f o.dst:=by
  unfold bH
  split
  ·trivial
  ·rename_i t e;exact hd t e
 unfold xx at hk
 have dst : ∀ {n : NOp},aK C f none K n -> (∀ x,n ≠ .asg x) -> (∀ x,n ≠ .nilo x) -> True:=fun _ _ _=>trivial
 split at hk <;> (try simp only [Bool.and_eq_true,beq_iff_eq] at hk)
 ·cases hdst : o.dst with
  | none=>rw [hdst] at hr;exact hr.elim
  | some t=>rw [hdst] at hr;exact tp h hdst (hd t hdst) (hL t 0 (by decide)) (.inl ho) hk hr
 ·cases hdst : o.dst with
  | none=>rw [hdst] at hr;exact hr.elim
  | some t=>rw [hdst] at hr;exact tp h hdst (hd t hdst) (hL t 0 (by decide)) (.inr ho) hk hr
 ·simp only [aK] at hr
  cases hdst : o.dst with
  | none=>rw [hdst] at hr;exact hr.elim
  | some t=>rw [hdst] at hr;exact tq h hdst (hd t hdst) (.inl ho) hk hr
 ·simp only [aK] at hr
  cases hdst : o.dst with
  | none=>rw [hdst] at hr;exact hr.elim
  | some t=>rw [hdst] at hr;exact tq h hdst (hd t hdst) (.inr ho) hk hr
 ·cases hdst : o.dst with
  | none=>rw [hdst] at hr;exact hr.elim
  | some t=>rw [hdst] at hr;exact Bf h hdst (hd t hdst) (hL t 0 (by decide)) ho hk.2 hk.1.1 (of_decide_eq_true hk.1.2) hr
 ·cases hdst : o.dst with
  | none=>rw [hdst] at hr;exact hr.elim
  | some t=>rw [hdst] at hr;exact qR h hdst (hd t hdst) (hL t 0 (by decide)) (.inl ho) hk hr
 ·cases hdst : o.dst with
  | none=>rw [hdst] at hr;exact hr.elim
  | some t=>rw [hdst] at hr;exact qR h hdst (hd t hdst) (hL t 0 (by decide)) (.inr ho) hk hr
 ·cases hdst : o.dst with
  | none=>rw [hdst] at hr;exact hr.elim
  | some t=>rw [hdst] at hr;exact snd_box h hdst (hd t hdst) (hL t 0 (by decide)) ho hk hr
 ·cases hdst : o.dst with
  | none=>rw [hdst] at hr;exact hr.elim
  | some t=>rw [hdst] at hr;exact snd_alc h hdst (hd t hdst) (hL t 0 (by decide)) ho hk hr
 ·obtain ⟨rfl,hk⟩:=hk
  cases hdst : o.dst with
  | none=>rw [hdst] at hr;exact hr.elim
  | some t=>rw [hdst] at hr;exact snd_bls h hdst (hd t hdst) (hL t 0 (by decide)) ho hk hr
 ·cases hdst : o.dst with
  | none=>rw [hdst] at hr;exact hr.elim
  | some t=>rw [hdst] at hr;exact snd_mks h hdst (hd t hdst) (hL t 0 (by decide)) ho hk.1.2 hk.2 hk.1.1 hr
 ·exact ya hC h hp ho hk.2 hk.1 hr
 ·simp only [aK] at hr
  cases hdst : o.dst with
  | none=>rw [hdst] at hr;exact hr.2.elim
  | some t=>rw [hdst] at hr;exact uY hC h hdst (hd t hdst) (hL t 0 (by decide)) ho hk.2 hk.1 hr
 ·simp only [aK] at hr
  exact uZ hC h hp ho hk.2 hk.1 hr
 ·simp only [aK] at hr
  exact u6 hC h (fun t=>hL t 0 (by decide)) hd ho hk.1.2 hk.2 hk.1.1 hr
 ·simp only [aK] at hr
  exact u5 hC h hd ho hk.1.2 hk.2 hk.1.1 hr
 ·simp only [aK] at hr
  cases hdst : o.dst with
  | none=>rw [hdst] at hr;exact hr.elim
  | some t=>rw [hdst] at hr;exact uX hC h hdst (hd t hdst) (hL t 0 (by decide)) ho hk.1.2 hk.2 hk.1.1 hr
 ·simp only [aK] at hr
  cases hdst : o.dst with
  | none=>rw [hdst] at hr;exact hr.2.elim
  | some t=>rw [hdst] at hr;exact uW hC h hL hdst (hd t hdst) ho hk.2 hk.1 hr
 ·simp only [aK] at hr
  exact u4 hC h hd ho hk.1.2 hk.2 hk.1.1 hr
 ·simp only [aK] at hr
  exact AY h hd ho hk.2 hk.1 hr
 ·exact u7 hC h hp ho hk.1 hk.2 hr
 ·have hdst : o.dst=none:=hr.1
  exact EH h hdst ho hk.1.2 hk.2 hk.1.1 (by rw [hdst] at hr;exact hr)
 ·obtain ⟨⟨⟨rfl,h1⟩,h2⟩,h3⟩:=hk
  cases hdst : o.dst with
  | none=>rw [hdst] at hr;exact hr.elim
  | some t=>rw [hdst] at hr;exact AU h hdst (hd t hdst) (hL t 0 (by decide)) ho rfl h2 h3 h1 hr
 ·cases hdst : o.dst with
  | none=>rw [hdst] at hr;exact hr.elim
  | some t=>rw [hdst] at hr;exact snd_mkm h hdst (hd t hdst) (hL t 0 (by decide)) ho hr
 ·have hdst : o.dst=none:=hr.1
  exact snd_mpu hC.laid h hdst ho hk.1.1.2 hk.1.2 hk.2 hk.1.1.1 hC.prog (by rw [hdst] at hr;exact hr)
 ·exact hr.elim
 ·have hr' : res f (fB o.dst K) n:=by
   clear dst
   cases n <;> first | exact hr | (simp [Ao] at hk)
  obtain ⟨d,h1,h2⟩:=tj hr'
  exact Oper.wp_mono (rk h1) (Ek hC.laid hC.prog h hp ho hk (h2 _ rfl))
def BS (nt : Nat) : Option Nat -> Bool
 | none=>true
 | some t=>decide (t < nt)
def pc (ops : Array Oper) : Option (Nat × Bool) -> Option (Nat × Bool) -> Bool
 | none,none=>true
 | some (j,b),some (s,b')=>b == b' && decide (s < 10000) && (match ops[j]? with
  | some o=>o.dst == some s
  | none=>false)
 | _,_=>false
def qu (P : Program) (F : Fid) (nt : Nat) (ops : Array Oper) (n : az) (o : Oper) : Bool :=
 n.dst == o.dst && BS nt n.dst && pc ops o.guard n.guard && xx P F n.op o.op
theorem sx {ops : Array Oper} {tmps : Array Value} {j s : Nat} {b : Bool} {o : Oper} (h1 : ops[j]? = some o) (h2 : o.dst=some s) (h3 : tmps[s]? = some (.bool b)) : yielded ops tmps j=some b:=by
 simp [yielded,h1,h2,h3]
theorem ra {ops : Array Oper} {tmps : Array Value} {j s : Nat} {o : Oper} (h1 : ops[j]? = some o) (h2 : o.dst=some s) {vs : Array Value} (h3 : tmps[s]? = some (.tuple vs)) : yielded ops tmps j=none:=by
 simp [yielded,h1,h2,h3]
def Skp (want : Bool) (d : D) : Prop:=d=.bool (!want) \/ d=.tup []
theorem yr {ops : Array Oper} {n : az} {o : Oper} (h : pc ops o.guard n.guard=true) {f : Nat -> D} {M : Mem} {a : Act} {w : World} (hs : SR F nt S L w0 M0 f M a w) :
  (n.guard=none -> Region.wanted o (yielded ops a.tmps)=true) /\
  (∀ s want b,n.guard=some (s,want) -> f s=.bool b -> Region.wanted o (yielded ops a.tmps)=(b == want)) /\
  (∀ s want,n.guard=some (s,want) -> f s=.tup [] -> Region.wanted o (yielded ops a.tmps)=false):=by
 unfold pc at h
 split at h
 ·rename_i e1 e2
  exact ⟨fun _=>by simp [Region.wanted,e1],fun s want b e3=>(by rw [e2] at e3;cases e3),fun s want e3=>(by rw [e2] at e3;cases e3)⟩
 ·rename_i j b s b' e1 e2
  simp only [Bool.and_eq_true,beq_iff_eq,decide_eq_true_eq] at h
  obtain ⟨⟨rfl,hs10⟩,h⟩:=h
  split at h
  ·rename_i o' ho'
   simp only [beq_iff_eq] at h
   obtain ⟨ρ,ω,hO⟩:=hs.own
   refine ⟨fun e3=>(by rw [e2] at e3;cases e3),fun s1 want b1 e3 e4=>?_,fun s1 want e3 e4=>?_⟩
   ·rw [e2] at e3
    cases e3
    rcases hO.slots s hs10 with h5 | ⟨v,h5,h6⟩
    ·rw [e4] at h5;cases h5
    ·rw [e4] at h6
     simp only [bA,aA,af] at h6
     subst h6
     simp [Region.wanted,e1,sx ho' h h5]
   ·rw [e2] at e3
    cases e3
    rcases hO.slots s hs10 with h5 | ⟨v,h5,h6⟩
    ·rw [e4] at h5;cases h5
    ·rw [e4] at h6
     simp only [bA,aA,af] at h6
     obtain ⟨vs,rfl,_⟩:=h6
     simp [Region.wanted,e1,ra ho' h h5]
  ·cases h
 ·cases h
theorem pI {e : Env} {s : Nat} {b : Bool} (h : ac e s=.bool b) : ac ((s,.bool b)::e)=ac e:=by
 funext t
 simp only [ac]
 by_cases ht : s=t
 ·subst ht;rw [if_pos rfl,h]
 ·rw [if_neg ht]
def j1 (C : Nat -> List D -> D -> List D -> Prop) (n : az) (f : Nat -> D) (x : Option (List (Nat × D) × List (Nat × Bool))) : Prop :=
 match x with
 | some (ws,ks)=>(∀ s b,n.guard=some (s,b) -> f s=.bool b) /\ aK C f n.dst (fun ws' ks'=>ws'=ws /\ ks'=ks) n.op
 | none=>∃ s b,n.guard=some (s,b) /\ Skp b (f s)
def nD (n : az) : Option (List (Nat × D) × List (Nat × Bool)) -> (Nat -> D) -> (Nat -> D)
 | some (ws,ks)=>eff ws ks
 | none=>match n.dst with
  | some t=>eff [(t,.tup [])] []
  | none=>fun f=>f
theorem CE (hC : b8 P F C) (hL : NoL L) {ops : Array Oper} {n : az} (hk : qu P F nt ops n o=true) (h : SR F nt S L w0 M0 f M a w) {x : Option (List (Nat × D) × List (Nat × Bool))} (hr : j1 C n f x) {R : Act -> World -> Prop}
  (hR : ∀ M' a' w',SR F nt S L w0 M0 (nD n x f) M' a' w' -> R a' w') :
  if Region.wanted o (yielded ops a.tmps) then o.wp P a w R Q \/ (o.asks P a w /\ LetsOut Q) else R (a.put o.dst undef) w:=by
 unfold qu at hk
 simp only [Bool.and_eq_true,beq_iff_eq] at hk
 obtain ⟨⟨⟨hd,hdo⟩,hgu⟩,hop⟩:=hk
 have hw:=yr hgu h
 have hdst : ∀ t,o.dst=some t -> t < nt:=fun t e=>by
  rw [<- hd] at e
  rw [e] at hdo
  simpa [BS] using hdo
 cases x with
 | some y =>
  obtain ⟨ws,ks⟩:=y
  obtain ⟨h1,h2⟩:=hr
  have hwant : Region.wanted o (yielded ops a.tmps)=true:=by
   cases hg : n.guard with
   | none=>exact hw.1 hg
   | some p=>obtain ⟨s,b⟩:=p;rw [hw.2.1 s b b hg (h1 s b hg)];simp
  rw [hwant,if_pos rfl]
  left
  rw [hd] at h2
  refine Oper.wp_mono ?_ (Ej hC hL h hdst rfl hop h2)
  rintro a' w' ⟨ws',ks',M',⟨rfl,rfl⟩,h'⟩
  exact hR M' a' w' h'
 | none =>
  obtain ⟨s,b,h1,h2⟩:=hr
  have hno : Region.wanted o (yielded ops a.tmps)=false:=by
   rcases h2 with h2 | h2
   ·rw [hw.2.1 s b (!b) h1 h2];cases b <;> rfl
   ·exact hw.2.2 s b h1 h2
  rw [hno,if_neg Bool.false_ne_true]
  refine hR M _ w ?_
  unfold nD
  rw [hd]
  cases hdd : o.dst with
  | none=>exact h
  | some t=>exact h.put (hdst t hdd) (fun _ _ _=>by simp [bA,aA,af,au,undef])
theorem vc {K : Env -> Prop} {n : az} {ns : List az} {e : Env} (h : iu C K (n::ns) e) : ∃ x e',j1 C n (ac e) x /\ ac e'=nD n x (ac e) /\ iu C K ns e':=by
 have run : ∀ e1,ac e1=ac e -> (∀ s b,n.guard=some (s,b) -> ac e s=.bool b) -> qY C n.dst (iu C K ns) e1 n.op -> ∃ x e',j1 C n (ac e) x /\ ac e'=nD n x (ac e) /\ iu C K ns e':=by
  intro e1 he hg h1
  unfold qY at h1
  obtain ⟨ws,ks,h2,h3⟩:=m9 h1
  rw [he] at h3
  exact ⟨some (ws,ks),_,⟨hg,h3 _ ⟨rfl,rfl⟩⟩,by rw [iW,he];rfl,h2⟩
 rw [iu] at h
 split at h
 ·rename_i hg
  exact run e rfl (fun s b e'=>(by rw [hg] at e';cases e')) h
 ·rename_i s want hg
  split at h
  ·rename_i b hb
   by_cases hbw : b=want
   ·subst hbw
    exact run _ (pI hb) (fun s' b' e'=>(by rw [hg] at e';cases e';exact hb)) (h.1 rfl)
   ·have hb' : b=!want:=by cases b <;> cases want <;> simp_all
    have h1:=h.2 hb'
    rw [hb'] at hb
    have he:=pI hb
    refine ⟨none,?_⟩
    unfold gW at h1
    unfold nD
    split at h1
    ·rename_i hd
     exact ⟨_,⟨s,want,hg,.inl hb⟩,by rw [hd];exact he,h1⟩
    ·rename_i t hd
     refine ⟨_,⟨s,want,hg,.inl hb⟩,?_,h1⟩
     rw [hd]
     have:=iW [(t,.tup [])] [] ((s,.bool !want)::e)
     simp only [eG,if_true] at this
     rw [he] at this
     exact this
  ·rename_i hb
   refine ⟨none,?_⟩
   unfold gW at h
   unfold nD
   split at h
   ·rename_i hd
    exact ⟨_,⟨s,want,hg,.inr hb⟩,by rw [hd],h⟩
   ·rename_i t hd
    refine ⟨_,⟨s,want,hg,.inr hb⟩,?_,h⟩
    rw [hd]
    have:=iW [(t,.tup [])] [] e
    simp only [eG,if_true] at this
    exact this
  ·exact h.elim
theorem ve (hC : b8 P F C) (hL : NoL L) {ops : Array Oper} {K : Env -> Prop} (hQ : ∀ e M a w,SR F nt S L w0 M0 (ac e) M a w -> K e -> Q .normal a w) (ns : List az) : ∀ (os : List Oper),ns.length=os.length -> (∀ p ∈ ns.zip os,qu P F nt ops p.1 p.2=true) ->
  ∀ (e : Env) (M : Mem) (a : Act) (w : World),SR F nt S L w0 M0 (ac e) M a w -> iu C K ns e -> wpList P ops Q os a w:=by
 induction ns with
 | nil =>
  intro os hl _ e M a w h hr
  cases os with
  | nil=>exact hQ e M a w h hr
  | cons o os=>simp at hl
 | cons n ns ih =>
  intro os hl hk e M a w h hr
  cases os with
  | nil=>simp at hl
  | cons o os =>
   obtain ⟨x,e',h1,h2,h3⟩:=vc hr
   rw [wpList]
   exact CE hC hL (hk (n,o) (by simp)) h h1 (fun M' a' w' h'=>ih os (by simpa using hl) (fun p hp=>hk p (by simp [hp])) e' M' a' w' (by rw [h2];exact h') h3)
def qF (P : Program) (F : Fid) (nt : Nat) (ns : List az) (ops : Array Oper) : Bool:=ns.length == ops.toList.length && (ns.zip ops.toList).all fun p=>qu P F nt ops p.1 p.2
theorem qH (hC : b8 P F C) (hL : NoL L) {ops : Array Oper} {ns : List az} (hk : qF P F nt ns ops=true) {id : Nat} {K : Env -> Prop} {e : Env} (h : SR F nt S L w0 M0 (ac e) M a w) (hr : iu C K ns e) (hQ : ∀ e M a w,SR F nt S L w0 M0 (ac e) M a w -> K e -> Q .normal a w) :
  (Code.region id ops false).wp P Q a w:=by
 simp only [qF,Bool.and_eq_true,beq_iff_eq,List.all_eq_true] at hk
 exact wp_region_list (ve hC hL hQ ns ops.toList hk.1 hk.2 e M a w h hr)
end
end Go.Gv

namespace Go.Gv
open Go.RowKit
def nJ : Option Opd -> List Opd
 | some x=>[x]
 | none=>[]
def am : NOp -> List Opd
 | .mov x=>[x]
 | .asg x=>[x]
 | .frz x=>[x]
 | .nilo _=>[]
 | .nck x=>[x]
 | .boxF x=>[x]
 | .blsF _ _ _ ps=>ps.map fun p=>p.2
 | .pick c a b=>[c,a,b]
 | .bin _ x y=>[x,y]
 | .beq _ _ x y=>[x,y]
 | .un _ x=>[x]
 | .conv _ x=>[x]
 | .fld _ _ _ x=>[x]
 | .idxA _ _ _ x i=>[x,i]
 | .idxS x i=>[x,i]
 | .ext _ x=>[x]
 | .fad _ x=>[x]
 | .iadS _ x i=>[x,i]
 | .iadA _ _ x i=>[x,i]
 | .ld _ _ x=>[x]
 | .box _ x=>[x]
 | .alc _=>[]
 | .mkm _ _=>[]
 | .mpl _ _ _ _ _ m x=>[m,x]
 | .mpu _ _ _ _ m x v=>[m,x,v]
 | .bld _ ps=>ps.map fun p=>p.2.2
 | .bls _ _ _ _ ps=>ps.map fun p=>p.2
 | .mks _ _ _ n c=>[n,c]
 | .len x=>[x]
 | .lens x=>[x]
 | .call _ xs _=>xs
 | .callv x xs=>x::xs
 | .callF _ xs=>xs
 | .callG _ xs=>xs
 | .callS _ x xs=>x::xs
 | .callN _ x xs=>x::xs
 | .callE _ x xs=>x::xs
 | .callL _ x xs=>x::xs
 | .callA _ xs=>xs
 | .clr _ x=>[x]
 | .mk _ xs=>xs
 | .slc _ x lo hi=>x::(nJ lo++nJ hi)
 | .slS x lo hi=>x::(nJ lo++nJ hi)
 | .slA _ _ x=>[x]
 | .slM _ _ x=>[x]
 | .cvS x=>[x]
 | .mn x y=>[x,y]
 | .mx x y=>[x,y]
 | .add64 x y c=>[x,y,c]
 | .sub64 x y c=>[x,y,c]
 | .st _ _ a v=>[a,v]
 | .app _ _ _ x y=>[x,y]
 | .dead=>[]
section
variable {C : Nat -> List D -> D -> List D -> Prop} {f g : Nat -> D}
def dZ (f g : Nat -> D) (d : D) : Prop:=∀ b,dT b true d=true -> g b=f b
theorem il (p : Pa) : bY p.root true p=true:=by cases p <;> simp [bY,Pa.root]
theorem dF {p : Pa} (h : g p.root=f p.root) : bB g p=bB f p:=by
 cases p <;> simp only [bB,Pa.root] at h ⊢ <;> rw [h]
theorem dZ.ref {p : Pa} {k n : Nat} (h : dZ f g (.ref p k n)) : g p.root=f p.root:=h _ (by simp only [dT,aQ];exact il p)
theorem dZ.adr {p : Pa} {i o : Nat} (h : dZ f g (.adr p i o)) : g p.root=f p.root:=h _ (by simp only [dT,aQ];exact il p)
theorem dZ.mrf {b : Nat} (h : dZ f g (.mrf b)) : g b=f b:=h _ (by simp [dT,aQ])
theorem fe {d : D} (h : ∀ b,aQ b true d=true -> g b=f b) : dp1 g d=dp1 f d /\ (aT g d ↔ aT f d):=by
 cases d <;> try exact ⟨rfl,Iff.rfl⟩
 case ref p k n =>
  have e:=dF (p:=p) (h _ (by simp only [aQ];exact il p))
  simp only [dp1,aT,e,and_self]
 case adr p i off =>
  have e:=dF (p:=p) (h _ (by simp only [aQ];exact il p))
  simp only [dp1,aT,e,and_self]
theorem fX {b : Nat} {ds : List D} {d : D} (h : d ∈ ds) (hm : aQ b true d=true) : ds.any (aQ b true)=true:=List.any_eq_true.2 ⟨d,h,hm⟩
theorem vQ {d : D} (h : isX d=false) (ha : dZ f g d) : dp g d=dp f d /\ (bD g d ↔ bD f d):=by
 have e : ∀ f : Nat -> D,dp f d=dp1 f d /\ (bD f d ↔ aT f d) /\ ∀ b,dT b true d=aQ b true d:=fun f=>by
  cases d <;> first | exact ⟨rfl,Iff.rfl,fun _=>rfl⟩ | (simp [isX] at h)
 obtain ⟨e1,e2,e3⟩:=e f
 obtain ⟨g1,g2,_⟩:=e g
 obtain ⟨h1,h2⟩:=fe (f:=f) (g:=g) (d:=d) (fun b hb=>ha b (by rw [e3];exact hb))
 exact ⟨by rw [g1,e1,h1],by rw [g2,e2];exact h2⟩
theorem iL {d : D} (h : dZ f g d) : dp g d=dp f d /\ (bD g d ↔ bD f d):=by
 cases d
 case agx ds =>
  have e : ∀ d ∈ ds,dp1 g d=dp1 f d /\ (aT g d ↔ aT f d):=fun d hd=>fe fun b hb=>h b (fX hd hb)
  simp only [dp,bD]
  exact ⟨by rw [List.map_congr_left fun d hd=>(e d hd).1],⟨fun x d hd=>(e d hd).2.1 (x d hd),fun x d hd=>(e d hd).2.2 (x d hd)⟩⟩
 case tpx ds =>
  have e : ∀ d ∈ ds,dp1 g d=dp1 f d /\ (aT g d ↔ aT f d):=fun d hd=>fe fun b hb=>h b (fX hd hb)
  simp only [dp,bD]
  exact ⟨by rw [List.map_congr_left fun d hd=>(e d hd).1],⟨fun x d hd=>(e d hd).2.1 (x d hd),fun x d hd=>(e d hd).2.2 (x d hd)⟩⟩
 case ptx ds =>
  have e : ∀ d ∈ ds,dp1 g d=dp1 f d /\ (aT g d ↔ aT f d):=fun d hd=>fe fun b hb=>h b (fX hd hb)
  simp only [dp,bD]
  exact ⟨by rw [List.map_congr_left fun d hd=>(e d hd).1],⟨fun x d hd=>(e d hd).2.1 (x d hd),fun x d hd=>(e d hd).2.2 (x d hd)⟩⟩
 case fnx k ds =>
  have e : ∀ d ∈ ds,dp1 g d=dp1 f d /\ (aT g d ↔ aT f d):=fun d hd=>fe fun b hb=>h b (fX hd hb)
  simp only [dp,bD]
  exact ⟨by rw [List.map_congr_left fun d hd=>(e d hd).1],⟨fun x d hd=>(e d hd).2.1 (x d hd),fun x d hd=>(e d hd).2.2 (x d hd)⟩⟩
 all_goals
  exact vQ rfl h
theorem lG {d : D} {K : D -> List Nat -> Prop} (h : ∀ b,aQ b true d=true -> g b=f b) (hr : eL f d K) : eL g d K:=by
 unfold eL at hr ⊢
 split at hr
 ·rename_i b k n
  rw [h b (by simp [aQ,bY])]
  exact hr
 ·exact hr
theorem lI : ∀ {ds : List D} {K : List D -> List Nat -> Prop},(∀ d ∈ ds,∀ b,aQ b true d=true -> g b=f b) -> lH f ds K -> lH g ds K
 | [],K,_,hr=>hr
 | d::ds,K,h,hr=>by
  obtain ⟨c,bs,h1,h2⟩:=kX hr
  obtain ⟨cs,bs',h3,h4⟩:=kY h1
  refine lG (h d (by simp)) (h2 _ (lI (fun d hd=>h d (by simp [hd])) (h4 _ h3)))
theorem jK {d : D} {ns : List Nat} {K : List D -> List Nat -> Prop} (h : dZ f g d) (hr : gg f d ns K) : gg g d ns K:=by
 unfold gg at hr ⊢
 split at hr
 ·exact hr
 ·exact ⟨hr.1,lI (fun d hd b hb=>h b (fX hd hb)) hr.2⟩
 ·rename_i hne1 hne2
  refine ⟨hr.1,lG (fun b hb=>h b ?_) hr.2⟩
  cases d <;> first | exact hb | (exact absurd rfl (hne2 _)) | (simp [aQ] at hb)
theorem kF {sz : Nat} {ns : List Nat} : ∀ {ps : List (Nat × Opd)} {es : List (List D)} {bs : List Nat} {K : List (List D) -> List Nat -> Prop},(∀ p ∈ ps,vd g p.2=vd f p.2 /\ dZ f g (vd f p.2)) -> fH f sz ns ps es bs K -> fH g sz ns ps es bs K
 | [],es,bs,K,_,hr=>hr
 | (i,x)::ps,es,bs,K,h,hr=>by
  obtain ⟨h0,hr⟩:=hr
  obtain ⟨e1,e2⟩:=h (i,x) (by simp)
  obtain ⟨cs,b1,⟨h1,h1'⟩,h2⟩:=iI hr
  refine ⟨h0,?_⟩
  simp only at e1 e2
  rw [e1]
  exact jK e2 (h2 _ ⟨h1,kF (fun p hp=>h p (by simp [hp])) h1'⟩)
theorem qJ {mv : Bool} {d : D} {sz : Nat} {K : List (List D) -> List Nat -> Prop} (h : dZ f g d) (hr : iC f mv d sz K) : iC g mv d sz K:=by
 unfold iC at hr ⊢
 split at hr
 ·exact hr
 ·exact hr
 ·rename_i p k n
  cases mv with
  | true =>
   obtain ⟨h0,hr⟩:=hr
   refine ⟨h0,?_⟩
   cases p with
   | r b=>simp only at hr ⊢;rw [show g b=f b from h.ref];exact hr
   | n b i o=>exact hr
  | false=>simp only at hr ⊢;rw [dF h.ref];exact hr
 ·exact hr
theorem de {x : Option Opd} {n : Nat} {K : Nat -> Prop} (h : ∀ y ∈ nJ x,vd g y=vd f y) (hr : eD f x n K) : eD g x n K:=by
 unfold eD at hr ⊢
 split at hr
 ·exact hr
 ·rename_i y
  rw [h y (by simp [nJ])]
  exact hr
theorem iP : ∀ {ps : List (Nat × Opd)} {es : List (List D)},(∀ p ∈ ps,vd g p.2=vd f p.2) -> gR g ps es=gR f ps es
 | [],_,_=>rfl
 | p::ps,es,h=>by
  simp only [gR]
  rw [h p (by simp)]
  exact iP fun q hq=>h q (by simp [hq])
theorem uS {o : NOp} {K : D -> Prop} (hv : ∀ x ∈ am o,vd g x=vd f x) (ha : ∀ x ∈ am o,dZ f g (vd f x)) (hr : res f K o) : res g K o:=by
 cases o with
 | ld n ag x =>
  have e:=hv x (by simp [am]);have a:=ha x (by simp [am])
  simp only [res,e] at hr ⊢
  split at hr
  ·rename_i ex;rw [ex] at a;rw [dF a.adr];exact hr
  ·exact hr
  ·exact hr
  ·exact hr
 | iadS sz x i =>
  have e:=hv x (by simp [am]);have a:=ha x (by simp [am]);have e2:=hv i (by simp [am])
  simp only [res,e,e2] at hr ⊢
  split at hr
  ·exact hr
  ·rename_i ex _;rw [ex] at a;rw [dF a.ref];exact hr
  ·exact hr
 | slc sz x lo hi =>
  have e:=hv x (by simp [am]);have a:=ha x (by simp [am])
  have hlo : ∀ y ∈ nJ lo,vd g y=vd f y:=fun y hy=>hv y (by simp [am,hy])
  have hhi : ∀ y ∈ nJ hi,vd g y=vd f y:=fun y hy=>hv y (by simp [am,hy])
  simp only [res,e] at hr ⊢
  split at hr
  ·exact ⟨hr.1,de hhi (ia hr.2 fun m h=>de hlo h)⟩
  ·exact de hhi (ia hr fun m h=>de hlo h)
  ·rename_i ex
   rw [ex] at a;rw [dF a.ref]
   split at hr
   ·exact ⟨hr.1,de hhi (ia hr.2 fun m h=>de hlo h)⟩
   ·exact hr
  ·exact hr
 | slS x lo hi =>
  have e:=hv x (by simp [am])
  have hlo : ∀ y ∈ nJ lo,vd g y=vd f y:=fun y hy=>hv y (by simp [am,hy])
  have hhi : ∀ y ∈ nJ hi,vd g y=vd f y:=fun y hy=>hv y (by simp [am,hy])
  simp only [res,e] at hr ⊢
  split at hr
  ·exact de hhi (ia hr fun m h=>de hlo h)
  ·exact hr
 | bld zs ps =>
  have e : ∀ p ∈ ps,vd g p.2.2=vd f p.2.2:=fun p hp=>hv _ (List.mem_map.2 ⟨p,hp,rfl⟩)
  simp only [res] at hr ⊢
  obtain ⟨h1,h2,h3⟩:=hr
  have e2 : (ps.all fun p=>isV (vd g p.2.2))=(ps.all fun p=>isV (vd f p.2.2)):=by
   rw [Bool.eq_iff_iff,List.all_eq_true,List.all_eq_true]
   exact ⟨fun h p hp=>by rw [<- e p hp];exact h p hp,fun h p hp=>by rw [e p hp];exact h p hp⟩
  have m1 : (ps.map fun p=>(p.1,p.2.1,vd g p.2.2))=ps.map fun p=>(p.1,p.2.1,vd f p.2.2):=List.map_congr_left fun p hp=>by rw [e p hp]
  have m2 : (ps.map fun p=>(p.1,p.2.1,cA (vd g p.2.2)))=ps.map fun p=>(p.1,p.2.1,cA (vd f p.2.2)):=List.map_congr_left fun p hp=>by rw [e p hp]
  rw [e2,m1,m2]
  exact ⟨fun p hp=>by rw [e p hp];exact h1 p hp,h2,h3⟩
 | mk k xs =>
  have e : ∀ x ∈ xs,vd g x=vd f x:=fun x hx=>hv x hx
  simp only [res] at hr ⊢
  obtain ⟨h1,h2,h3⟩:=hr
  have e2 : (xs.all fun x=>isV (vd g x))=(xs.all fun x=>isV (vd f x)):=by
   rw [Bool.eq_iff_iff,List.all_eq_true,List.all_eq_true]
   exact ⟨fun h p hp=>by rw [<- e p hp];exact h p hp,fun h p hp=>by rw [e p hp];exact h p hp⟩
  rw [e2,List.map_congr_left e]
  exact ⟨fun p hp=>by rw [e p hp];exact h1 p hp,h2,h3⟩
 | pick c x y=>simp only [res,hv c (by simp [am]),hv x (by simp [am]),hv y (by simp [am])] at hr ⊢;exact hr
 | add64 x y c=>simp only [res,hv c (by simp [am]),hv x (by simp [am]),hv y (by simp [am])] at hr ⊢;exact hr
 | sub64 x y c=>simp only [res,hv c (by simp [am]),hv x (by simp [am]),hv y (by simp [am])] at hr ⊢;exact hr
 | bin op x y=>simp only [res,hv x (by simp [am]),hv y (by simp [am])] at hr ⊢;exact hr
 | beq op ks x y=>simp only [res,hv x (by simp [am]),hv y (by simp [am])] at hr ⊢;exact hr
 | idxA l s g x i=>simp only [res,hv x (by simp [am]),hv i (by simp [am])] at hr ⊢;exact hr
 | idxS x i=>simp only [res,hv x (by simp [am]),hv i (by simp [am])] at hr ⊢;exact hr
 | iadA l s x i=>simp only [res,hv x (by simp [am]),hv i (by simp [am])] at hr ⊢;exact hr
 | mn x y=>simp only [res,hv x (by simp [am]),hv y (by simp [am])] at hr ⊢;exact hr
 | mx x y=>simp only [res,hv x (by simp [am]),hv y (by simp [am])] at hr ⊢;exact hr
 | mov x=>simp only [res,hv x (by simp [am])] at hr ⊢;exact hr
 | nck x=>simp only [res,hv x (by simp [am])] at hr ⊢;exact hr
 | un op x=>simp only [res,hv x (by simp [am])] at hr ⊢;exact hr
 | conv k x=>simp only [res,hv x (by simp [am])] at hr ⊢;exact hr
 | slA l s x=>simp only [res,hv x (by simp [am])] at hr ⊢;exact hr
 | cvS x=>simp only [res,hv x (by simp [am])] at hr ⊢;exact hr
 | fld a b c x=>simp only [res,hv x (by simp [am])] at hr ⊢;exact hr
 | ext i x=>simp only [res,hv x (by simp [am])] at hr ⊢;exact hr
 | fad i x=>simp only [res,hv x (by simp [am])] at hr ⊢;exact hr
 | len x=>simp only [res,hv x (by simp [am])] at hr ⊢;exact hr
 | boxF x=>simp only [res,hv x (by simp [am])] at hr ⊢;exact hr
 | blsF sz len zs ps =>
  have e : ∀ p ∈ ps,vd g p.2=vd f p.2:=fun p hp=>hv _ (List.mem_map.2 ⟨p,hp,rfl⟩)
  simp only [res] at hr ⊢
  rw [iP e]
  exact ⟨fun p hp=>by rw [e p hp];exact hr.1 p hp,hr.2⟩
 | lens x=>simp only [res,hv x (by simp [am])] at hr ⊢;exact hr
 | mpl sh kt et ok z m x =>
  have e:=hv m (by simp [am]);have a:=ha m (by simp [am]);have e2:=hv x (by simp [am])
  simp only [res,e,e2] at hr ⊢
  split at hr
  ·rename_i b ex
   rw [ex] at a
   rw [a.mrf]
   exact hr
  ·exact hr
 | _=>simp only [res] at hr
theorem sd {o : NOp} {dst : Option Nat} {K : List (Nat × D) -> List (Nat × Bool) -> Prop} (hv : ∀ x ∈ am o,vd g x=vd f x) (ha : ∀ x ∈ am o,dZ f g (vd f x)) (hr : aK C f dst K o) : aK C g dst K o:=by
 cases o with
 | frz x =>
  have e:=hv x (by simp [am]);have a:=ha x (by simp [am])
  cases dst with
  | none=>exact hr
  | some t =>
   simp only [aK,e] at hr ⊢
   split at hr
   ·rename_i c k n ex
    rw [ex] at a
    have hl:=fe (d:=.ref (.r c) k n) (f:=f) (g:=g) (fun b hb=>a b (by simp only [dT];exact hb))
    rw [hl.1]
    exact ⟨hl.2.2 hr.1,hr.2⟩
   ·exact hr
 | asg x =>
  have e:=hv x (by simp [am]);have a:=ha x (by simp [am])
  cases dst with
  | none=>exact hr
  | some t =>
   simp only [aK,e] at hr ⊢
   split at hr
   ·rename_i c k n ex
    rw [ex] at a
    rw [show g c=f c from a.ref]
    exact hr
   ·exact hr
 | slM len sz x =>
  have e:=hv x (by simp [am]);have a:=ha x (by simp [am])
  cases dst with
  | none=>exact hr
  | some t =>
   simp only [aK,e] at hr ⊢
   split at hr
   ·rename_i c i off ex
    rw [ex] at a
    rw [show g c=f c from a.adr]
    exact hr
   ·exact hr
 | nilo sz=>exact hr
 | alc zs=>exact hr
 | mkm kt et=>exact hr
 | mpu sh kt et z m x v =>
  have e:=hv m (by simp [am]);have a:=ha m (by simp [am]);have e2:=hv x (by simp [am]);have e3:=hv v (by simp [am])
  simp only [aK,e,e2,e3] at hr ⊢
  refine ⟨hr.1,?_⟩
  have hr:=hr.2
  split at hr
  ·rename_i b ex
   rw [ex] at a
   rw [a.mrf]
   exact hr
  ·exact hr
 | box ns x =>
  have e:=hv x (by simp [am]);have a:=ha x (by simp [am])
  cases dst with
  | none=>exact hr
  | some t=>simp only [aK,e] at hr ⊢;exact jK a hr
 | bls sz len zs ns ps =>
  cases dst with
  | none=>exact hr
  | some t=>simp only [aK] at hr ⊢;exact kF (fun p hp=>⟨hv _ (List.mem_map.2 ⟨p,hp,rfl⟩),ha _ (List.mem_map.2 ⟨p,hp,rfl⟩)⟩) hr
 | mks sz by_ zs n c =>
  have e:=hv n (by simp [am]);have e2:=hv c (by simp [am])
  cases dst with
  | none=>exact hr
  | some t=>simp only [aK,e,e2] at hr ⊢;exact hr
 | st n ns x v =>
  have e:=hv x (by simp [am]);have a:=ha x (by simp [am]);have e2:=hv v (by simp [am]);have a2:=ha v (by simp [am])
  simp only [aK,e,e2] at hr ⊢
  obtain ⟨h0,hr⟩:=hr
  refine ⟨h0,?_⟩
  obtain ⟨cs,bs,⟨h1,h2⟩,h3⟩:=iI hr
  refine jK a2 (h3 _ ⟨h1,?_⟩)
  split at h2
  ·rename_i b i off ex;rw [ex] at a;rw [show g b=f b from a.adr];exact h2
  ·rename_i b i0 o0 i off ex;rw [ex] at a;rw [show g b=f b from a.adr];exact h2
  ·exact h2
 | app sz by_ mv x y =>
  have e:=hv x (by simp [am]);have a:=ha x (by simp [am]);have e2:=hv y (by simp [am]);have a2:=ha y (by simp [am])
  cases dst with
  | none=>exact hr
  | some t =>
   simp only [aK,e,e2] at hr ⊢
   obtain ⟨rows,bs,⟨h1,h2⟩,h3⟩:=oC hr
   refine qJ a2 (h3 _ ⟨h1,?_⟩)
   split at h2
   ·exact h2
   ·rename_i c k n ex;rw [ex] at a;rw [show g c=f c from a.ref];exact h2
   ·rename_i c i o k n ex;rw [ex] at a;rw [show g c=f c from a.ref];exact h2
   ·exact h2
 | call k xs ms =>
  simp only [aK] at hr ⊢
  obtain ⟨h0,d,h1,h2,h3⟩:=hr
  have e : ∀ x ∈ xs,dpv g x=dpv f x /\ (bD g (vd g x) ↔ bD f (vd f x)):=fun x hx=>by
   have:=iL (ha x hx)
   unfold dpv
   rw [hv x hx]
   exact this
  refine ⟨fun x hx=>(e x hx).2.2 (h0 x hx),d,by rw [List.map_congr_left fun x hx=>(e x hx).1];exact h1,h2.imp id (fun h=>?_),h3⟩
  rw [List.all_eq_true] at h ⊢
  exact fun x hx=>by rw [hv x hx];exact h x hx
 | callG k xs =>
  have e : ∀ x ∈ xs,dpv g x=dpv f x /\ (bD g (vd g x) ↔ bD f (vd f x)):=fun x hx=>by
   have:=iL (ha x hx)
   unfold dpv
   rw [hv x hx]
   exact this
  simp only [aK] at hr ⊢
  rw [List.map_congr_left fun x hx=>(e x hx).1]
  exact ⟨fun x hx=>(e x hx).2.2 (hr.1 x hx),hr.2⟩
 | callF k xs =>
  have e : ∀ x ∈ xs,dpv g x=dpv f x /\ (bD g (vd g x) ↔ bD f (vd f x)):=fun x hx=>by
   have:=iL (ha x hx)
   unfold dpv
   rw [hv x hx]
   exact this
  simp only [aK] at hr ⊢
  rw [List.map_congr_left fun x hx=>(e x hx).1]
  exact ⟨fun x hx=>(e x hx).2.2 (hr.1 x hx),hr.2⟩
 | callS k x0 xs =>
  have e0:=hv x0 (by simp [am]);have a0:=ha x0 (by simp [am])
  have eb : ∀ b,∀ x ∈ xs,vd (fbE g b) x=vd (fbE f b) x /\ dZ (fbE f b) (fbE g b) (vd (fbE f b) x):=fun b x hx=>by
   have h1:=hv x (by simp [am,hx])
   have h2:=ha x (by simp [am,hx])
   have hag : dZ (fbE f b) (fbE g b) (vd f x):=fun c hc=>by
    unfold fbE
    split
    ·rfl
    ·exact h2 c hc
   cases x with
   | t t =>
    simp only [vd] at h1 hag ⊢
    unfold fbE
    split
    ·exact ⟨rfl,fun c hc=>by simp [dT,aQ] at hc⟩
    ·exact ⟨h1,hag⟩
   | c d=>exact ⟨rfl,hag⟩
  have ed : ∀ b,∀ x ∈ xs,dpv (fbE g b) x=dpv (fbE f b) x /\ (bD (fbE g b) (vd (fbE g b) x) ↔ bD (fbE f b) (vd (fbE f b) x)):=fun b x hx=>by
   have:=iL (eb b x hx).2
   unfold dpv
   rw [(eb b x hx).1]
   exact this
  have eo : ∀ b es',nI (fbE g b) xs es' ↔ nI (fbE f b) xs es':=fun b es'=>by
   unfold nI
   rw [List.all_eq_true,List.all_eq_true]
   exact or_congr ⟨fun h x hx=>by rw [<- (eb b x hx).1];exact h x hx,fun h x hx=>by rw [(eb b x hx).1];exact h x hx⟩ Iff.rfl
  simp only [aK,e0] at hr ⊢
  split at hr
  ·rename_i b k n hvx
   rw [hvx] at a0
   have hb : g b=f b:=a0.ref
   rw [hb,List.map_congr_left fun x hx=>(ed b x hx).1]
   simp only [eo]
   obtain ⟨h1,hr⟩:=hr
   refine ⟨h1,?_⟩
   split at hr
   ·exact ⟨hr.1,hr.2.1,fun x hx=>(ed b x hx).2.2 (hr.2.2.1 x hx),hr.2.2.2⟩
   ·exact hr.elim
  ·exact hr.elim
 | callN k x0 xs =>
  have e0:=hv x0 (by simp [am]);have a0:=ha x0 (by simp [am])
  have e : ∀ x ∈ xs,vd g x=vd f x:=fun x hx=>hv x (by simp [am,hx])
  simp only [aK,e0] at hr ⊢
  split at hr
  ·rename_i b i o k n hvx
   rw [hvx] at a0
   have hb : g b=f b:=a0.ref
   rw [hb,List.map_congr_left e]
   obtain ⟨h1,hr⟩:=hr
   refine ⟨h1,?_⟩
   split at hr
   ·obtain ⟨row0,h2,sz,es,h3,h4,h5,h6⟩:=hr
    exact ⟨row0,h2,sz,es,h3,h4,fun x hx=>by rw [e x hx];exact h5 x hx,h6⟩
   ·exact hr.elim
  ·exact hr.elim
 | callA k xs =>
  have e : ∀ x ∈ xs,vd g x=vd f x:=fun x hx=>hv x (by simp [am,hx])
  simp only [aK] at hr ⊢
  rw [List.map_congr_left e]
  exact ⟨fun x hx=>by rw [e x hx];exact hr.1 x hx,hr.2⟩
 | callL k x0 xs =>
  have e0:=hv x0 (by simp [am]);have a0:=ha x0 (by simp [am])
  have e : ∀ x ∈ xs,vd g x=vd f x:=fun x hx=>hv x (by simp [am,hx])
  simp only [aK,e0] at hr ⊢
  split at hr
  ·rename_i b i o hvx
   rw [hvx] at a0
   have hb : g b=f b:=a0.adr
   rw [hb,List.map_congr_left e]
   obtain ⟨h1,h2,hr⟩:=hr
   refine ⟨h1,h2,?_⟩
   split at hr
   ·exact ⟨hr.1,fun x hx=>by rw [e x hx];exact hr.2.1 x hx,hr.2.2⟩
   ·exact hr.elim
  ·exact hr.elim
 | clr zs x0 =>
  have e0:=hv x0 (by simp [am]);have a0:=ha x0 (by simp [am])
  simp only [aK,e0] at hr ⊢
  split at hr
  ·exact hr
  ·rename_i b k n hvx
   rw [hvx] at a0
   have hb : g b=f b:=a0.ref
   rw [hb]
   exact hr
  ·rename_i b i o k n hvx
   rw [hvx] at a0
   have hb : g b=f b:=a0.ref
   rw [hb]
   exact hr
  ·exact hr.elim
 | callE k x0 xs =>
  have e0:=hv x0 (by simp [am]);have a0:=ha x0 (by simp [am])
  have e : ∀ x ∈ xs,k9 g x=k9 f x /\ ∀ b,lU g b x ↔ lU f b x:=fun x hx=>by
   have h1:=hv x (by simp [am,hx])
   have h2:=ha x (by simp [am,hx])
   unfold k9 lU
   rw [h1]
   revert h2
   generalize vd f x=d
   intro h2
   cases d <;> first | exact ⟨rfl,fun _=>Iff.rfl⟩ | skip
   rename_i p k n
   cases p with
   | r c =>
    have hb : g c=f c:=h2.ref
    exact ⟨by simp only [hb],fun _=>by simp only [hb]⟩
   | n c i o=>exact ⟨rfl,fun _=>Iff.rfl⟩
  simp only [aK,e0] at hr ⊢
  split at hr
  ·split at hr
   ·rename_i p k n hvx
    rw [hvx] at a0
    have hb : g p.root=f p.root:=a0.ref
    have hd : dC g p=dC f p:=by
     cases p with
     | r c=>rfl
     | n c i o=>simp only [dC];rw [show g c=f c from hb]
    simp only [dF hb,hd]
    rw [List.map_congr_left fun x hx=>(e x hx).1]
    split at hr
    ·obtain ⟨h1,h2,h3,h4,h5,h6⟩:=hr
     exact ⟨h1,h2,h3,h4,fun x hx=>((e x hx).2 _).2 (h5 x hx),h6⟩
    ·exact hr.elim
   ·exact hr.elim
  ·exact hr.elim
 | callv x0 xs =>
  have e0:=hv x0 (by simp [am]);have a0:=ha x0 (by simp [am])
  have e : ∀ x ∈ xs,dpv g x=dpv f x /\ (bD g (vd g x) ↔ bD f (vd f x)):=fun x hx=>by
   have:=iL (ha x (by simp [am,hx]))
   unfold dpv
   rw [hv x (by simp [am,hx])]
   exact this
  simp only [aK,e0] at hr ⊢
  split at hr
  ·obtain ⟨h0,d,h1,h2,h3⟩:=hr
   refine ⟨fun x hx=>(e x hx).2.2 (h0 x hx),d,by rw [List.map_congr_left fun x hx=>(e x hx).1];exact h1,h2.imp id (fun h=>?_),h3⟩
   rw [List.all_eq_true] at h ⊢
   exact fun x hx=>by rw [hv x (by simp [am,hx])];exact h x hx
  ·rename_i k cs ex
   rw [ex] at a0
   obtain ⟨h0,h0',d,h1,h2,h3⟩:=hr
   have ec : ∀ c ∈ cs,dp1 g c=dp1 f c /\ (aT g c ↔ aT f c):=fun c hc=>fe fun b hb=>a0 b (fX hc hb)
   exact ⟨fun x hx=>(e x hx).2.2 (h0 x hx),fun c hc=>(ec c hc).2.2 (h0' c hc),d,by rw [List.map_congr_left fun x hx=>(e x hx).1,List.map_congr_left fun c hc=>(ec c hc).1];exact h1,h2,h3⟩
  ·exact hr
 | _=>(simp only [aK] at hr ⊢;exact uS hv ha hr)
end
end Go.Gv

namespace Go.Gv
open Go.RowKit
def aO : D -> List Nat
 | .ref p _ _=>[p.root]
 | .adr p _ _=>[p.root]
 | .mrf b=>[b]
 | _=>[]
def bF : D -> List Nat
 | .agx ds=>ds.flatMap aO
 | .tpx ds=>ds.flatMap aO
 | .ptx ds=>ds.flatMap aO
 | .fnx _ ds=>ds.flatMap aO
 | d=>aO d
theorem qn {b : Nat} {all : Bool} {p : Pa} (h : bY b all p=true) : b=p.root:=by
 cases p <;> simp [bY,Pa.root] at h ⊢ <;> simp_all
theorem lN {b : Nat} {all : Bool} {d : D} (h : aQ b all d=true) : b ∈ aO d:=by
 cases d <;> simp only [aQ,Bool.false_eq_true] at h
 case ref p k n=>simp [aO,qn h]
 case adr p i o=>simp [aO,qn h]
 case mrf c=>simp at h;simp [aO,h.2]
theorem jR {b : Nat} {all : Bool} {d : D} (h : dT b all d=true) : b ∈ bF d:=by
 have part : ∀ ds : List D,ds.any (aQ b all)=true -> b ∈ ds.flatMap aO:=fun ds h=>by
  obtain ⟨d,h1,h2⟩:=List.any_eq_true.1 h
  exact List.mem_flatMap.2 ⟨d,h1,lN h2⟩
 cases d
 case agx ds=>exact part ds h
 case tpx ds=>exact part ds h
 case ptx ds=>exact part ds h
 case fnx g ds=>exact part ds h
 all_goals (simp only [dT] at h;simp only [bF];exact lN h)
theorem lr (ks : List (Nat × Bool)) : aL ks .any=false:=by
 simp [aL,dT,aQ]
theorem mO {ks : List (Nat × Bool)} {d : D} (h : aL ks d=true) : ∃ k ∈ ks,dT k.1 k.2 d=true:=by
 simpa [aL] using h
theorem ij {ws : List (Nat × D)} {k : Nat} {d : D} (h : ws.lookup k=some d) : (k,d) ∈ ws:=by
 induction ws with
 | nil=>cases h
 | cons p ws ih =>
  obtain ⟨s,x⟩:=p
  rw [List.lookup_cons] at h
  cases e : k == s with
  | true=>rw [e] at h;simp at e h;subst e;subst h;simp
  | false=>rw [e] at h;simp [ih h]
theorem jP {ws : List (Nat × D)} {k : Nat} (h : k ∉ ws.map (·.1)) : ws.lookup k=none:=by
 refine qf fun d hd=>h (List.mem_map.2 ⟨_,hd,rfl⟩)
structure Fam where
 n : Nat
 ws : Nat -> List (Nat × D)
 ks : Nat -> List (Nat × Bool)
 rd : Nat -> List Nat
 mn : Nat -> List Nat
 bef : Nat -> Nat -> Bool
 f0 : Nat -> D
def Fam.W (A : Fam) (i : Nat) : List Nat:=(A.ws i).map (·.1)
def Fam.E (A : Fam) (i : Nat) : (Nat -> D) -> (Nat -> D):=eff (A.ws i) (A.ks i)
def Fam.G (A : Fam) (l : Nat -> Bool) : Nat -> (Nat -> D)
 | 0=>A.f0
 | m + 1=>if l m then A.E m (A.G l m) else A.G l m
def Fam.St (A : Fam) (m : Nat) : Nat -> D:=A.G (fun _=>true) m
def Fam.Apart (A : Fam) (i j : Nat) : Prop:=(∀ k ∈ A.W i,k ∉ A.rd j /\ k ∉ A.W j) /\ ∀ k ∈ A.ks i,k.1 ∉ A.mn j
def Fam.Ind (A : Fam) (i j : Nat) : Prop:=A.Apart i j /\ A.Apart j i
structure Fam.Ok (A : Fam) : Prop where
 kills : ∀ i,i < A.n -> ∀ k ∈ A.ks i,k.1 ∈ A.W i
 vals : ∀ i,i < A.n -> ∀ p ∈ A.ws i,∀ b all,dT b all p.2=true -> b ∈ A.mn i \/ b ∈ A.W i
 closed : ∀ i,i < A.n -> ∀ k ∈ A.rd i,∀ b all,dT b all (A.St i k)=true -> b ∈ A.mn i
 known : ∀ i,i < A.n -> ∀ k ∈ A.rd i,A.St i k ≠ .any
 pairs : ∀ i j,i < j -> j < A.n -> A.bef j i=true \/ A.Ind i j
section
variable {A : Fam}
theorem gN {ws : List (Nat × D)} {ks : List (Nat × Bool)} {f : Nat -> D} {k : Nat} {d : D} (h : ws.lookup k=some d) : eff ws ks f k=d:=aV h
theorem dV {ws : List (Nat × D)} {ks : List (Nat × Bool)} {f : Nat -> D} {k : Nat} (h : ws.lookup k=none) : eff ws ks f k=if aL ks (f k) then .any else f k:=by
 unfold eff;rw [h]
theorem Fam.Ok.noKill (h : A.Ok) {i j : Nat} (hi : i < A.n) (hj : j < A.n) (hI : A.Apart j i) {p : Nat × D} (hp : p ∈ A.ws i) : aL (A.ks j) p.2=false:=by
 cases hm : aL (A.ks j) p.2 with
 | false=>rfl
 | true =>
  obtain ⟨k,h1,h2⟩:=mO hm
  have h3:=h.kills j hj k h1
  have h5:=(hI.1 _ h3).2
  have h4:=hI.2 k h1
  rcases h.vals i hi p hp _ _ h2 with h6 | h6
  ·exact absurd h6 h4
  ·exact absurd h6 h5
theorem Fam.Ok.comm (h : A.Ok) {i j : Nat} (hi : i < A.n) (hj : j < A.n) (hI : A.Ind i j) (f : Nat -> D) : A.E i (A.E j f)=A.E j (A.E i f):=by
 funext k
 unfold Fam.E
 cases h1 : (A.ws i).lookup k with
 | some d =>
  have hk : k ∈ A.W i:=List.mem_map.2 ⟨_,ij h1,rfl⟩
  have h2 : (A.ws j).lookup k=none:=jP (hI.1.1 k hk).2
  have h3:=h.noKill hi hj hI.2 (ij h1)
  rw [gN h1,dV h2,gN h1]
  simp only at h3
  rw [h3];rfl
 | none =>
  cases h2 : (A.ws j).lookup k with
  | some d =>
   have h3:=h.noKill hj hi hI.1 (ij h2)
   rw [dV h1,gN h2,gN h2]
   simp only at h3
   rw [h3];rfl
  | none =>
   rw [dV h1,dV h2,dV h2,dV h1]
   cases e1 : aL (A.ks i) (f k) <;> cases e2 : aL (A.ks j) (f k) <;> simp [e1,e2,lr]
def yQ (A : Fam) (l : Nat -> Bool) : Prop:=∀ j,j < A.n -> l j=true -> ∀ i,i < j -> A.bef j i=true -> l i=true
open Classical in
noncomputable def dH (A : Fam) (l : Nat -> Bool) (m : Nat) (d : D) : D:=if ∃ u,u < m /\ l u=false /\ aL (A.ks u) d=true then .any else d
theorem oh (l : Nat -> Bool) (m : Nat) : dH A l m .any=.any:=by
 unfold dH;split <;> rfl
theorem Ct (h : A.Ok) {l : Nat -> Bool} (hs : yQ A l) : ∀ m,m <= A.n -> ∀ k,(∀ u,u < m -> l u=false -> k ∉ A.W u) -> A.St m k=dH A l m (A.G l m k)
 | 0,_,k,_=>by
  unfold dH
  rw [if_neg (by rintro ⟨u,hu,_⟩;omega)]
  rfl
 | m + 1,hm,k,hk=>by
  have ih:=Ct h hs m (by omega) k (fun u hu=>hk u (by omega))
  have e1 : A.St (m + 1) k=A.E m (A.St m) k:=by simp [Fam.St,Fam.G]
  rw [e1]
  cases hl : l m with
  | true =>
   have e2 : A.G l (m + 1) k=A.E m (A.G l m) k:=by simp [Fam.G,hl]
   rw [e2]
   unfold Fam.E
   cases h1 : (A.ws m).lookup k with
   | some d =>
    rw [gN h1,gN h1]
    unfold dH
    rw [if_neg]
    rintro ⟨u,hu,hlu,hmu⟩
    have hum : u < m:=by
     rcases Nat.lt_or_ge u m with h | h
     ·exact h
     ·have : u=m:=by omega
      subst this;rw [hl] at hlu;cases hlu
    rcases h.pairs u m hum (by omega) with h2 | h2
    ·rw [hs m (by omega) hl u hum h2] at hlu;cases hlu
    ·have:=h.noKill (i:=m) (j:=u) (by omega) (by omega) h2.1 (ij h1)
     simp only at this
     rw [this] at hmu;cases hmu
   | none =>
    rw [dV h1,dV h1,ih]
    have same : ∀ d,dH A l (m + 1) d=dH A l m d:=fun d=>by
     unfold dH
     congr 1
     refine propext ⟨fun ⟨u,h3,h4,h5⟩=>⟨u,?_,h4,h5⟩,fun ⟨u,h3,h4,h5⟩=>⟨u,by omega,h4,h5⟩⟩
     rcases Nat.lt_or_ge u m with h | h
     ·exact h
     ·have : u=m:=by omega
      subst this;rw [hl] at h4;cases h4
    rw [same]
    generalize A.G l m k=g
    by_cases hc : ∃ u,u < m /\ l u=false /\ aL (A.ks u) g=true
    ·have e3 : dH A l m g=.any:=by unfold dH;rw [if_pos hc]
     rw [e3,lr]
     cases hg : aL (A.ks m) g with
     | true=>simp only [if_true];rw [oh];rfl
     | false=>simp only [Bool.false_eq_true,if_false];rw [e3]
    ·have e3 : dH A l m g=g:=by unfold dH;rw [if_neg hc]
     rw [e3]
     cases hg : aL (A.ks m) g with
     | true=>simp only [if_true];rw [oh]
     | false=>simp only [Bool.false_eq_true,if_false];rw [e3]
  | false =>
   have e2 : A.G l (m + 1) k=A.G l m k:=by simp [Fam.G,hl]
   rw [e2]
   unfold Fam.E
   rw [dV (jP (hk m (by omega) hl)),ih]
   generalize A.G l m k=g
   by_cases hc : ∃ u,u < m /\ l u=false /\ aL (A.ks u) g=true
   ·have e3 : dH A l m g=.any:=by unfold dH;rw [if_pos hc]
    have e4 : dH A l (m + 1) g=.any:=by
     unfold dH
     obtain ⟨u,h1,h2⟩:=hc
     rw [if_pos ⟨u,by omega,h2⟩]
    rw [e3,e4,lr];rfl
   ·have e3 : dH A l m g=g:=by unfold dH;rw [if_neg hc]
    rw [e3]
    cases hg : aL (A.ks m) g with
    | true =>
     have e4 : dH A l (m + 1) g=.any:=by unfold dH;exact if_pos ⟨m,by omega,hl,hg⟩
     rw [e4];rfl
    | false =>
     have e4 : dH A l (m + 1) g=g:=by
      unfold dH
      refine if_neg ?_
      rintro ⟨u,h1,h2,h3⟩
      rcases Nat.lt_or_ge u m with h | h
      ·exact hc ⟨u,h,h2,h3⟩
      ·have : u=m:=by omega
       subst this;rw [hg] at h3;cases h3
     rw [e4];rfl
theorem Fam.Ok.reads (h : A.Ok) {l : Nat -> Bool} (hs : yQ A l) {j : Nat} (hj : j < A.n) (hlj : l j=false) (hb : ∀ i,i < j -> A.bef j i=true -> l i=true) : ∀ k ∈ A.rd j,A.G l A.n k=A.St j k:=by
 intro k hk
 have h1 : A.G l j k=A.St j k:=by
  have h2:=Ct h hs j (by omega) k (fun u hu hlu=>by
   rcases h.pairs u j hu hj with h3 | h3
   ·rw [hb u hu h3] at hlu;cases hlu
   ·exact fun h4=>(h3.1.1 k h4).1 hk)
  have h3:=h.known j hj k hk
  rw [h2] at h3 ⊢
  unfold dH at h3 ⊢
  split at h3
  ·exact absurd rfl h3
  ·rename_i hc;rw [if_neg hc]
 have h2 : ∀ m,j <= m -> m <= A.n -> A.G l m k=A.St j k:=by
  intro m
  induction m with
  | zero=>intro h3 _;have : j=0:=(by omega);subst this;exact h1
  | succ m ih =>
   intro h3 h4
   rcases Nat.lt_or_ge m j with h5 | h5
   ·have : j=m + 1:=by omega
    rw [<- this];exact h1
   ·have ihm:=ih h5 (by omega)
    cases hl : l m with
    | false=>simp [Fam.G,hl,ihm]
    | true =>
     have hjm : j < m:=by
      rcases Nat.lt_or_ge j m with h | h
      ·exact h
      ·have : j=m:=by omega
       subst this;rw [hl] at hlj;cases hlj
     rcases h.pairs j m hjm (by omega) with h6 | h6
     ·rw [hs m (by omega) hl j hjm h6] at hlj;cases hlj
     ·have h7 : (A.ws m).lookup k=none:=jP (fun h8=>(h6.2.1 k h8).1 hk)
      have h8 : aL (A.ks m) (A.St j k)=false:=by
       cases hm : aL (A.ks m) (A.St j k) with
       | false=>rfl
       | true =>
        obtain ⟨q,h9,h10⟩:=mO hm
        exact absurd (h.closed j hj k hk _ _ h10) (h6.2.2 q h9)
      simp only [Fam.G,hl,if_true,Fam.E]
      rw [dV h7,ihm,h8];rfl
 exact h2 A.n (by omega) (Nat.le_refl _)
theorem Fam.Ok.more (h : A.Ok) {l l' : Nat -> Bool} (hs : yQ A l) {j : Nat} (hj : j < A.n) (hlj : l j=false) (hj' : l' j=true) (hl' : ∀ i,i ≠ j -> l' i=l i) : A.G l' A.n=A.E j (A.G l A.n):=by
 have low : ∀ m,m <= j -> A.G l' m=A.G l m:=by
  intro m
  induction m with
  | zero=>intro _;rfl
  | succ m ih =>
   intro hm
   simp only [Fam.G]
   rw [ih (by omega),hl' m (by omega)]
 have high : ∀ m,j < m -> m <= A.n -> A.G l' m=A.E j (A.G l m):=by
  intro m
  induction m with
  | zero=>intro h1;omega
  | succ m ih =>
   intro h1 h2
   rcases Nat.lt_or_ge j m with h3 | h3
   ·have ihm:=ih h3 (by omega)
    simp only [Fam.G]
    rw [hl' m (by omega),ihm]
    cases hl : l m with
    | false=>rfl
    | true =>
     simp only [if_true]
     rcases h.pairs j m h3 (by omega) with h4 | h4
     ·rw [hs m (by omega) hl j h3 h4] at hlj;cases hlj
     ·exact (h.comm hj (by omega) h4 _).symm
   ·have : m=j:=by omega
    subst this
    simp only [Fam.G]
    rw [hj',hlj,low m (Nat.le_refl _)]
    rfl
 exact high A.n hj (Nat.le_refl _)
end
end Go.Gv

namespace Go.Gv
open Go.RowKit
def i7 : Opd -> List Nat
 | .t s=>[s]
 | .c _=>[]
def pX : Option (Nat × Bool) -> List Nat
 | some (s,_)=>[s]
 | none=>[]
def rdS (n : az) : List Nat:=(am n.op).flatMap i7++pX n.guard
def El : NOp -> List Opd
 | .mov _=>[]
 | .nck _=>[]
 | .pick _ _ _=>[]
 | .bin _ _ _=>[]
 | .un _ _=>[]
 | .conv _ _=>[]
 | .fld _ _ _ _=>[]
 | .ext _ _=>[]
 | .fad _ _=>[]
 | .ld _ _ _=>[]
 | .mk _ _=>[]
 | .bld _ _=>[]
 | .boxF _=>[]
 | .blsF _ _ _ _=>[]
 | .len _=>[]
 | .iadA _ _ _ _=>[]
 | o=>am o
def ldN : NOp -> List Opd
 | .ld _ _ x=>[x]
 | _=>[]
def rdR (f : Nat -> D) (n : az) : List Nat:=((El n.op).flatMap fun x=>bF (vd f x))++((ldN n.op).flatMap fun x=>aO (vd f x))
def mnR (f : Nat -> D) (n : az) : List Nat:=(am n.op).flatMap fun x=>bF (vd f x)
def iN (f : Nat -> D) (n : az) : List Nat:=(rdS n++rdR f n).map (2 * ·)++(mnR f n).map (2 * · + 1)
def wrK (ws : List (Nat × D)) (ks : List (Nat × Bool)) : List Nat:=(ws.map fun p=>2 * p.1)++ks.map fun k=>2 * k.1 + 1
def dt : D -> Bool
 | .any=>true
 | _=>false
def chk (f : Nat -> D) (n : az) : Bool:=((rdS n).all fun s=>!dt (f s)) && (rdR f n).all fun b=>isB (f b)
def wOk (R : List Nat) (ws : List (Nat × D)) (ks : List (Nat × Bool)) : Bool :=
 (ks.all fun k=>(ws.map (·.1)).contains k.1) && ws.all fun p=>(bF p.2).all fun b=>R.contains (2 * b + 1) || (ws.map (·.1)).contains b
def rn (x : List Nat) (r w : List Nat) : Bool:=x.all fun k=>!r.contains k && !w.contains k
def kj (hs : List Nat) (rw : List (List Nat × List Nat)) : Bool :=
 rw.zipIdx.all fun p=>rw.zipIdx.all fun q=>!decide (p.2 < q.2) || (hs.getD q.2 0).testBit p.2 || (rn p.1.2 q.1.1 q.1.2 && rn q.1.2 p.1.1 p.1.2)
def tX : Option Nat -> List Nat
 | some t=>[2 * t]
 | none=>[]
def jC (C : Nat -> List D -> D -> List D -> Prop) (hs : List Nat) (K : Env -> Prop) : List az -> Env -> List (List Nat × List Nat) -> Prop
 | [],e,acc=>kj hs acc.reverse=true /\ K e
 | o::os,e,acc=>chk (ac e) o=true /\ match o.guard with
  | none=>aK C (ac e) o.dst (fun ws ks=>wOk (iN (ac e) o) ws ks=true /\ jC C hs K os (ws++eG ks e) ((iN (ac e) o,wrK ws ks)::acc)) o.op
  | some (s,want)=>match ac e s with
   | .bool b=>(b=want -> aK C (ac e) o.dst (fun ws ks=>wOk (iN (ac e) o) ws ks=true /\ jC C hs K os (ws++eG ks e) ((iN (ac e) o,wrK ws ks)::acc)) o.op) /\
     (b=!want -> gW e o.dst fun e'=>jC C hs K os e' ((iN (ac e) o,tX o.dst)::acc))
   | .tup []=>gW e o.dst fun e'=>jC C hs K os e' ((iN (ac e) o,tX o.dst)::acc)
   | _=>False
def fJ (n : az) : Option (List (Nat × D) × List (Nat × Bool)) -> List (Nat × D)
 | some (ws,_)=>ws
 | none=>match n.dst with
  | some t=>[(t,.tup [])]
  | none=>[]
def fD : Option (List (Nat × D) × List (Nat × Bool)) -> List (Nat × Bool)
 | some (_,ks)=>ks
 | none=>[]
theorem zp (n : az) (x : Option (List (Nat × D) × List (Nat × Bool))) (f : Nat -> D) : nD n x f=eff (fJ n x) (fD x) f:=by
 cases x with
 | some y=>rfl
 | none =>
  unfold nD fJ fD
  cases n.dst with
  | some t=>rfl
  | none=>exact (jh f).symm
abbrev gi:=az × Option (List (Nat × D) × List (Nat × Bool)) × (List Nat × List Nat)
def Tr (C : Nat -> List D -> D -> List D -> Prop) : List gi -> (Nat -> D) -> (Nat -> D) -> Prop
 | [],f,f'=>f'=f
 | (n,x,rd)::ts,f,f'=>j1 C n f x /\ chk f n=true /\ wOk (iN f n) (fJ n x) (fD x)=true /\ rd=(rdS n++rdR f n,mnR f n) /\ Tr C ts (eff (fJ n x) (fD x) f) f'
section
variable {C : Nat -> List D -> D -> List D -> Prop}
theorem CG {hs : List Nat} {K : Env -> Prop} : ∀ (ns : List az) (e : Env) (acc : List (List Nat × List Nat)),jC C hs K ns e acc -> ∃ (ts : List gi) (e' : Env),ts.map (·.1)=ns /\ Tr C ts (ac e) (ac e') /\ kj hs (acc.reverse++ts.map fun t=>(t.2.2.1.map (2 * ·)++t.2.2.2.map (2 * · + 1),wrK (fJ t.1 t.2.1) (fD t.2.1)))=true /\ K e'
 | [],e,acc,h=>⟨[],e,rfl,rfl,by simpa using h.1,h.2⟩
 | n::ns,e,acc,h=>by
  obtain ⟨h0,h⟩:=h
  have fin : ∀ (x : Option (List (Nat × D) × List (Nat × Bool))) (e1 : Env),j1 C n (ac e) x -> wOk (iN (ac e) n) (fJ n x) (fD x)=true -> ac e1=eff (fJ n x) (fD x) (ac e) -> jC C hs K ns e1 ((iN (ac e) n,wrK (fJ n x) (fD x))::acc) ->
    ∃ (ts : List gi) (e' : Env),ts.map (·.1)=n::ns /\ Tr C ts (ac e) (ac e') /\ kj hs (acc.reverse++ts.map fun t=>(t.2.2.1.map (2 * ·)++t.2.2.2.map (2 * · + 1),wrK (fJ t.1 t.2.1) (fD t.2.1)))=true /\ K e':=by
   intro x e1 h1 h2 h3 h4
   obtain ⟨ts,e',g1,g2,g3,g4⟩:=CG ns e1 _ h4
   refine ⟨(n,x,rdS n++rdR (ac e) n,mnR (ac e) n)::ts,e',by simp [g1],⟨h1,h0,h2,rfl,by rw [<- h3];exact g2⟩,?_,g4⟩
   simpa [iN] using g3
  have run : (∀ s b,n.guard=some (s,b) -> ac e s=.bool b) -> aK C (ac e) n.dst (fun ws ks=>wOk (iN (ac e) n) ws ks=true /\ jC C hs K ns (ws++eG ks e) ((iN (ac e) n,wrK ws ks)::acc)) n.op ->
    ∃ (ts : List gi) (e' : Env),ts.map (·.1)=n::ns /\ Tr C ts (ac e) (ac e') /\ kj hs (acc.reverse++ts.map fun t=>(t.2.2.1.map (2 * ·)++t.2.2.2.map (2 * · + 1),wrK (fJ t.1 t.2.1) (fD t.2.1)))=true /\ K e':=by
   intro hg h1
   obtain ⟨ws,ks,⟨h2,h3⟩,h4⟩:=m9 h1
   exact fin (some (ws,ks)) _ ⟨hg,h4 _ ⟨rfl,rfl⟩⟩ h2 (iW ws ks e) h3
  have skp : ∀ s want,n.guard=some (s,want) -> Skp want (ac e s) -> gW e n.dst (fun e'=>jC C hs K ns e' ((iN (ac e) n,tX n.dst)::acc)) ->
    ∃ (ts : List gi) (e' : Env),ts.map (·.1)=n::ns /\ Tr C ts (ac e) (ac e') /\ kj hs (acc.reverse++ts.map fun t=>(t.2.2.1.map (2 * ·)++t.2.2.2.map (2 * · + 1),wrK (fJ t.1 t.2.1) (fD t.2.1)))=true /\ K e':=by
   intro s want hg hb h1
   unfold gW at h1
   split at h1
   ·rename_i hd
    refine fin none e ⟨s,want,hg,hb⟩ (by simp [wOk,fJ,fD,hd]) (by simp [fJ,fD,hd,jh]) ?_
    simpa [fJ,fD,wrK,hd,tX] using h1
   ·rename_i t hd
    refine fin none ((t,.tup [])::e) ⟨s,want,hg,hb⟩ (by simp [wOk,fJ,fD,hd,bF,aO]) ?_ ?_
    ·have:=iW [(t,.tup [])] [] e
     simp only [eG,if_true] at this
     simpa [fJ,fD,hd] using this
    ·simpa [fJ,fD,wrK,hd,tX] using h1
  split at h
  ·rename_i hg
   exact run (fun s b e'=>(by rw [hg] at e';cases e')) h
  ·rename_i s want hg
   split at h
   ·rename_i b hb
    by_cases hbw : b=want
    ·subst hbw
     exact run (fun s' b' e'=>(by rw [hg] at e';cases e';exact hb)) (h.1 rfl)
    ·have hb' : b=!want:=by cases b <;> cases want <;> simp_all
     have h1:=h.2 hb'
     rw [hb'] at hb
     exact skp s want hg (.inl hb) h1
   ·rename_i hb
    exact skp s want hg (.inr hb) h
   ·exact h.elim
def bj (hs : List Nat) (ts : List gi) (f : Nat -> D) : Fam where
 n:=ts.length
 ws i:=match ts[i]? with
  | some t=>fJ t.1 t.2.1
  | none=>[]
 ks i:=match ts[i]? with
  | some t=>fD t.2.1
  | none=>[]
 rd i:=match ts[i]? with
  | some t=>t.2.2.1
  | none=>[]
 mn i:=match ts[i]? with
  | some t=>t.2.2.2
  | none=>[]
 bef j i:=(hs.getD j 0).testBit i
 f0:=f
theorem lc (hs : List Nat) (t : gi) (ts : List gi) (f : Nat -> D) : ∀ i,(bj hs (t::ts) f).St (i + 1)=(bj hs ts (eff (fJ t.1 t.2.1) (fD t.2.1) f)).St i
 | 0=>by simp [Fam.St,Fam.G,Fam.E,bj]
 | i + 1=>by
  have ih:=lc hs t ts f i
  have e1 : ∀ (A : Fam) (m : Nat),A.St (m + 1)=A.E m (A.St m):=fun A m=>by simp [Fam.St,Fam.G]
  rw [e1,ih,e1]
  simp [Fam.E,bj]
theorem px (hs : List Nat) : ∀ (ts : List gi) (f f' : Nat -> D),Tr C ts f f' -> f'=(bj hs ts f).St ts.length /\ ∀ (i : Nat) (t : gi),ts[i]? = some t -> j1 C t.1 ((bj hs ts f).St i) t.2.1 /\ chk ((bj hs ts f).St i) t.1=true /\ wOk (t.2.2.1.map (2 * ·)++t.2.2.2.map (2 * · + 1)) (fJ t.1 t.2.1) (fD t.2.1)=true /\ t.2.2=(rdS t.1++rdR ((bj hs ts f).St i) t.1,mnR ((bj hs ts f).St i) t.1)
 | [],f,f',h=>⟨h,fun i t h=>by simp at h⟩
 | (n,x,rd)::ts,f,f',h=>by
  obtain ⟨h1,h2,h3,rfl,h4⟩:=h
  obtain ⟨g1,g2⟩:=px hs ts _ f' h4
  refine ⟨by rw [List.length_cons,lc];exact g1,fun i t hi=>?_⟩
  cases i with
  | zero=>simp at hi;subst hi;exact ⟨h1,h2,by simpa [iN] using h3,rfl⟩
  | succ i=>rw [lc];exact g2 i t (by simpa using hi)
theorem Ds {hs : List Nat} {ts : List gi} {f f' : Nat -> D} (h : Tr C ts f f') (hi : kj hs (ts.map fun t=>(t.2.2.1.map (2 * ·)++t.2.2.2.map (2 * · + 1),wrK (fJ t.1 t.2.1) (fD t.2.1)))=true) : (bj hs ts f).Ok:=by
 obtain ⟨_,hs'⟩:=px hs ts f f' h
 have get : ∀ i,i < ts.length -> ∃ t,ts[i]? = some t:=fun i hi=>⟨_,List.getElem?_eq_getElem hi⟩
 refine ⟨fun i hn k hk=>?_,fun i hn p hp b all hb=>?_,fun i hn k hk b all hb=>?_,fun i hn k hk=>?_,fun i j hij hn=>?_⟩
 ·obtain ⟨t,ht⟩:=get i hn
  obtain ⟨_,_,h3,_⟩:=hs' i t ht
  simp only [bj,ht] at hk
  simp only [Fam.W,bj,ht]
  simp only [wOk,Bool.and_eq_true,List.all_eq_true] at h3
  exact List.contains_iff_mem.1 (h3.1 k hk)
 ·obtain ⟨t,ht⟩:=get i hn
  obtain ⟨_,_,h3,_⟩:=hs' i t ht
  simp only [bj,ht] at hp
  simp only [Fam.W,bj,ht]
  simp only [wOk,Bool.and_eq_true,List.all_eq_true,Bool.or_eq_true] at h3
  rcases h3.2 p hp b (jR hb) with h4 | h4
  ·left
   have h5:=List.contains_iff_mem.1 h4
   rcases List.mem_append.1 h5 with h5 | h5
   ·obtain ⟨x,_,h6⟩:=List.mem_map.1 h5
    omega
   ·obtain ⟨x,h7,h6⟩:=List.mem_map.1 h5
    have : x=b:=by omega
    subst this;exact h7
  ·exact .inr (List.contains_iff_mem.1 h4)
 ·obtain ⟨t,ht⟩:=get i hn
  obtain ⟨h1,h2,_,h4⟩:=hs' i t ht
  simp only [bj,ht] at hk ⊢
  rw [h4] at hk ⊢
  simp only [chk,Bool.and_eq_true,List.all_eq_true] at h2
  rcases List.mem_append.1 hk with h5 | h5
  ·simp only [rdS] at h5
   rcases List.mem_append.1 h5 with h6 | h6
   ·obtain ⟨x,h7,h8⟩:=List.mem_flatMap.1 h6
    cases x with
    | t s =>
     simp only [i7,List.mem_singleton] at h8
     subst h8
     refine List.mem_flatMap.2 ⟨_,h7,?_⟩
     exact jR hb
    | c d=>simp [i7] at h8
   ·-- the guard's slot
    have : (∃ bb,(bj hs ts f).St i k=.bool bb) \/ (bj hs ts f).St i k=.tup []:=by
     cases hg : t.1.guard with
     | none=>rw [hg] at h6;simp [pX] at h6
     | some q =>
      obtain ⟨s,want⟩:=q
      rw [hg] at h6
      simp only [pX,List.mem_singleton] at h6
      subst h6
      unfold j1 at h1
      split at h1
      ·exact .inl ⟨want,h1.1 k want hg⟩
      ·obtain ⟨s',b',h7,h8⟩:=h1
       rw [hg] at h7;cases h7
       exact h8.imp (fun h8=>⟨_,h8⟩) id
    simp only [bj] at this hb
    rcases this with ⟨bb,hbb⟩ | hbb <;> rw [hbb] at hb <;> simp [dT,aQ] at hb
  ·have h6:=h2.2 k h5
   simp only [bj] at h6 hb
   have h7 : ∀ d : D,isB d=true -> dT b all d=false:=fun d hd=>by cases d <;> first | rfl | (simp [isB] at hd)
   rw [h7 _ h6] at hb;cases hb
 ·obtain ⟨t,ht⟩:=get i hn
  obtain ⟨h1,h2,_,h4⟩:=hs' i t ht
  simp only [bj,ht] at hk ⊢
  rw [h4] at hk
  simp only [chk,Bool.and_eq_true,List.all_eq_true] at h2
  rcases List.mem_append.1 hk with h5 | h5
  ·have:=h2.1 k h5
   intro e
   simp only [bj] at this
   rw [e] at this
   simp [dt] at this
  ·have:=h2.2 k h5
   intro e
   simp only [bj] at this
   rw [e] at this
   simp [isB] at this
 ·obtain ⟨t,ht⟩:=get i (Nat.lt_trans hij hn)
  obtain ⟨u,hu⟩:=get j hn
  simp only [kj,List.all_eq_true] at hi
  have h1:=hi ((t.2.2.1.map (2 * ·)++t.2.2.2.map (2 * · + 1),wrK (fJ t.1 t.2.1) (fD t.2.1)),i) (List.mem_zipIdx_iff_getElem?.2 (by simp [ht])) ((u.2.2.1.map (2 * ·)++u.2.2.2.map (2 * · + 1),wrK (fJ u.1 u.2.1) (fD u.2.1)),j) (List.mem_zipIdx_iff_getElem?.2 (by simp [hu]))
  simp only [Bool.or_eq_true,Bool.not_eq_true',decide_eq_false_iff_not,Bool.and_eq_true] at h1
  rcases h1 with (h1 | h1) | h1
  ·exact absurd hij h1
  ·exact .inl h1
  ·right
   simp only [rn,List.all_eq_true,Bool.and_eq_true,Bool.not_eq_true'] at h1
   have nm : ∀ {l : List Nat} {k : Nat},l.contains k=false -> k ∉ l:=fun h hm=>by
    have:=List.contains_iff_mem.2 hm
    rw [h] at this;cases this
   have one : ∀ (a b : gi) (x y : Nat),ts[x]? = some a -> ts[y]? = some b -> (∀ k ∈ wrK (fJ a.1 a.2.1) (fD a.2.1),(b.2.2.1.map (2 * ·)++b.2.2.2.map (2 * · + 1)).contains k=false /\ (wrK (fJ b.1 b.2.1) (fD b.2.1)).contains k=false) -> (bj hs ts f).Apart x y:=by
    intro a b x y ha hb hab
    refine ⟨fun k hk=>?_,fun k hk hm=>?_⟩
    ·simp only [Fam.W,bj,ha] at hk
     obtain ⟨p,hp,rfl⟩:=List.mem_map.1 hk
     obtain ⟨h2,h3⟩:=hab (2 * p.1) (List.mem_append.2 (.inl (List.mem_map.2 ⟨p,hp,rfl⟩)))
     refine ⟨fun hr=>nm h2 (List.mem_append.2 (.inl (List.mem_map.2 ⟨_,?_,rfl⟩))),fun hw=>nm h3 (List.mem_append.2 (.inl ?_))⟩
     ·simp only [bj,hb] at hr;exact hr
     ·simp only [Fam.W,bj,hb] at hw
      obtain ⟨q,hq,e⟩:=List.mem_map.1 hw
      exact List.mem_map.2 ⟨q,hq,by rw [e]⟩
    ·simp only [bj,ha] at hk
     obtain ⟨h2,_⟩:=hab (2 * k.1 + 1) (List.mem_append.2 (.inr (List.mem_map.2 ⟨k,hk,rfl⟩)))
     refine nm h2 (List.mem_append.2 (.inr (List.mem_map.2 ⟨_,?_,rfl⟩)))
     simp only [bj,hb] at hm;exact hm
   exact ⟨one t u i j ht hu h1.1,one u t j i hu ht h1.2⟩
end
def uH (ops : Array Oper) (H : Array Nat) (j : Nat) : Nat:=match ops[j]? with
 | some o=>o.after.toList.foldl (fun s e=>if Region.binds .any e then s ||| 2 ^ e.on ||| H.getD e.on 0 else s) 0
 | none=>0
def sN (ops : Array Oper) (j : Nat) : Bool:=match ops[j]? with
 | some o=>o.after.toList.all fun e=>!Region.binds .any e || decide (e.on < j)
 | none=>true
theorem mK (H : Array Nat) (i : Nat) : ∀ (l : List Edge) (s : Nat),(l.foldl (fun s e=>if Region.binds .any e then s ||| 2 ^ e.on ||| H.getD e.on 0 else s) s).testBit i=true ->
  s.testBit i=true \/ ∃ e ∈ l,Region.binds .any e=true /\ (i=e.on \/ (H.getD e.on 0).testBit i=true)
 | [],s,h=>.inl h
 | e::l,s,h=>by
  simp only [List.foldl_cons] at h
  rcases mK H i l _ h with h1 | ⟨e',h1,h2⟩
  ·split at h1
   ·rename_i hb
    simp only [Nat.testBit_or,Bool.or_eq_true,Nat.testBit_two_pow,decide_eq_true_eq] at h1
    rcases h1 with (h1 | h1) | h1
    ·exact .inl h1
    ·exact .inr ⟨e,by simp,hb,.inl h1.symm⟩
    ·exact .inr ⟨e,by simp,hb,.inr h1⟩
   ·exact .inl h1
  ·exact .inr ⟨e',by simp [h1],h2⟩
theorem Bq {ops : Array Oper} {H : Array Nat} {j i : Nat} (h : (uH ops H j).testBit i=true) : ∃ o,ops[j]? = some o /\ ∃ e ∈ o.after.toList,Region.binds .any e=true /\ (i=e.on \/ (H.getD e.on 0).testBit i=true):=by
 unfold uH at h
 split at h
 ·rename_i o ho
  rcases mK H i _ 0 h with h1 | h1
  ·simp at h1
  ·exact ⟨o,ho,h1⟩
 ·simp at h
def ry (hs : List Nat) (ops : Array Oper) : Bool:=(List.range ops.size).all fun j=>hs.getD j 0 == uH ops hs.toArray j && sN ops j
def left (n : Nat) (l : Nat -> Bool) : Nat:=((List.range n).filter fun i=>!l i).length
theorem nW {p q : Nat -> Bool} {j : Nat} (hpq : ∀ i,q i=true -> p i=true) (hp : p j=true) (hq : q j=false) : ∀ (l : List Nat),j ∈ l -> (l.filter q).length < (l.filter p).length
 | [],h=>by simp at h
 | i::l,h=>by
  have hle : (l.filter q).length <= (l.filter p).length:=by
   clear h
   induction l with
   | nil=>simp
   | cons x l ih =>
    simp only [List.filter_cons]
    cases hqx : q x with
    | true=>simp [hpq x hqx,ih]
    | false=>cases p x <;> simp <;> omega
  by_cases hij : i=j
  ·subst hij
   simp [hp,hq]
   omega
  ·have:=nW hpq hp hq l (by simpa [Ne.symm hij] using h)
   simp only [List.filter_cons]
   cases hqx : q i with
   | true=>simp [hpq i hqx,this]
   | false=>cases p i <;> simp <;> omega
section
variable {P : Program} {F : Fid} {C : Nat -> List D -> D -> List D -> Prop} {nt : Nat} {S : Nat -> Prop} {L : Nat -> Option Loc} {w0 : World} {M0 : Mem} {f : Nat -> D} {M : Mem} {a : Act} {w : World} {Q : Exit -> Act -> World -> Prop}
def lst (listed : Array Bool) : Nat -> Bool:=fun i=>listed.getD i true
theorem jQ {ops : Array Oper} {listed : Array Bool} {i : Nat} : i ∈ Region.ready .any ops listed ↔ i < ops.size /\ lst listed i=false /\ ∃ o,ops[i]? = some o /\ ∀ e ∈ o.after,Region.binds .any e=true -> listed.getD e.on false=true:=by
 simp only [Region.ready,List.mem_filter,List.mem_range,Bool.and_eq_true,Bool.not_eq_true',lst]
 constructor
 ·rintro ⟨h1,h2,h3⟩
  refine ⟨h1,h2,ops[i],Array.getElem?_eq_getElem h1,fun e he hb=>?_⟩
  rw [Array.getElem?_eq_getElem h1] at h3
  simp only [Option.map_some,Option.getD_some,Array.all_eq_true_iff_forall_mem,Bool.or_eq_true,Bool.not_eq_true'] at h3
  rcases h3 e he with h4 | h4
  ·rw [hb] at h4;cases h4
  ·exact h4
 ·rintro ⟨h1,h2,o,h3,h4⟩
  refine ⟨h1,h2,?_⟩
  rw [h3]
  simp only [Option.map_some,Option.getD_some,Array.all_eq_true_iff_forall_mem,Bool.or_eq_true,Bool.not_eq_true']
  intro e he
  cases hb : Region.binds .any e with
  | false=>exact .inl rfl
  | true=>exact .inr (h4 e he hb)
theorem wB (hs : List Nat) (j : Nat) : hs.toArray.getD j 0=hs.getD j 0:=by
 simp [Array.getD_eq_getD_getElem?,List.getD_eq_getElem?_getD]
theorem uR {f g : Nat -> D} {n : az} {dst : Option Nat} {K : List (Nat × D) -> List (Nat × Bool) -> Prop} (hv : ∀ x ∈ am n.op,vd g x=vd f x) (hr : ∀ b ∈ rdR f n,g b=f b) (h : aK C f dst K n.op) : aK C g dst K n.op:=by
 obtain ⟨d0,o,g0⟩:=n
 simp only at hv h ⊢
 have full : (∀ x ∈ am o,x ∈ El o) -> aK C g dst K o:=fun hN=>sd hv (fun x hx b hb=>hr b (List.mem_append.2 (.inl (List.mem_flatMap.2 ⟨x,hN x hx,jR hb⟩)))) h
 cases o with
 | mov x=>simp only [aK,res,hv x (by simp [am])] at h ⊢;exact h
 | nck x=>simp only [aK,res,hv x (by simp [am])] at h ⊢;exact h
 | un op x=>simp only [aK,res,hv x (by simp [am])] at h ⊢;exact h
 | conv k x=>simp only [aK,res,hv x (by simp [am])] at h ⊢;exact h
 | fld a b c x=>simp only [aK,res,hv x (by simp [am])] at h ⊢;exact h
 | ext i x=>simp only [aK,res,hv x (by simp [am])] at h ⊢;exact h
 | fad i x=>simp only [aK,res,hv x (by simp [am])] at h ⊢;exact h
 | boxF x=>simp only [aK,res,hv x (by simp [am])] at h ⊢;exact h
 | blsF sz len zs ps =>
  have e : ∀ p ∈ ps,vd g p.2=vd f p.2:=fun p hp=>hv _ (List.mem_map.2 ⟨p,hp,rfl⟩)
  simp only [aK,res] at h ⊢
  rw [iP e]
  exact ⟨fun p hp=>by rw [e p hp];exact h.1 p hp,h.2⟩
 | len x=>simp only [aK,res,hv x (by simp [am])] at h ⊢;exact h
 | pick c x y=>simp only [aK,res,hv c (by simp [am]),hv x (by simp [am]),hv y (by simp [am])] at h ⊢;exact h
 | bin op x y=>simp only [aK,res,hv x (by simp [am]),hv y (by simp [am])] at h ⊢;exact h
 | iadA l s x i=>simp only [aK,res,hv x (by simp [am]),hv i (by simp [am])] at h ⊢;exact h
 | bld zs ps =>
  have e : ∀ p ∈ ps,vd g p.2.2=vd f p.2.2:=fun p hp=>hv _ (List.mem_map.2 ⟨p,hp,rfl⟩)
  simp only [aK,res] at h ⊢
  obtain ⟨h1,h2,h3⟩:=h
  have e2 : (ps.all fun p=>isV (vd g p.2.2))=(ps.all fun p=>isV (vd f p.2.2)):=by
   rw [Bool.eq_iff_iff,List.all_eq_true,List.all_eq_true]
   exact ⟨fun h p hp=>by rw [<- e p hp];exact h p hp,fun h p hp=>by rw [e p hp];exact h p hp⟩
  have m1 : (ps.map fun p=>(p.1,p.2.1,vd g p.2.2))=ps.map fun p=>(p.1,p.2.1,vd f p.2.2):=List.map_congr_left fun p hp=>by rw [e p hp]
  have m2 : (ps.map fun p=>(p.1,p.2.1,cA (vd g p.2.2)))=ps.map fun p=>(p.1,p.2.1,cA (vd f p.2.2)):=List.map_congr_left fun p hp=>by rw [e p hp]
  rw [e2,m1,m2]
  exact ⟨fun p hp=>by rw [e p hp];exact h1 p hp,h2,h3⟩
 | mk k xs =>
  have e : ∀ x ∈ xs,vd g x=vd f x:=fun x hx=>hv x hx
  simp only [aK,res] at h ⊢
  obtain ⟨h1,h2,h3⟩:=h
  have e2 : (xs.all fun x=>isV (vd g x))=(xs.all fun x=>isV (vd f x)):=by
   rw [Bool.eq_iff_iff,List.all_eq_true,List.all_eq_true]
   exact ⟨fun h p hp=>by rw [<- e p hp];exact h p hp,fun h p hp=>by rw [e p hp];exact h p hp⟩
  rw [e2,List.map_congr_left e]
  exact ⟨fun p hp=>by rw [e p hp];exact h1 p hp,h2,h3⟩
 | ld n ag x =>
  have e:=hv x (by simp [am])
  simp only [aK,res,e] at h ⊢
  split at h
  ·rename_i p i off ex
   rw [dF (p:=p) (hr _ (List.mem_append.2 (.inr (List.mem_flatMap.2 ⟨x,by simp [ldN],by rw [ex];simp [aO]⟩))))]
   exact h
  ·exact h
  ·exact h
  ·exact h
 | _=>exact full (fun x hx=>hx)
theorem tI (hC : b8 P F C) (hL : NoL L) {hs : List Nat} {ops : Array Oper} {ts : List gi} {f' : Nat -> D} (htr : Tr C ts f f') (hok : (bj hs ts f).Ok) (hlen : ts.length=ops.size) (hb : ∀ j,j < ops.size -> hs.getD j 0=uH ops hs.toArray j) (hed : ∀ (j : Nat) (o : Oper),ops[j]? = some o -> ∀ e ∈ o.after,Region.binds .any e=true -> e.on < j)
  (hk : ∀ (j : Nat) (t : gi) (o : Oper),ts[j]? = some t -> ops[j]? = some o -> qu P F nt ops t.1 o=true)
  (hQ : ∀ M a w,SR F nt S L w0 M0 f' M a w -> Q .normal a w) : ∀ (fuel : Nat) (listed : Array Bool) (M : Mem) (a : Act) (w : World),listed.size=ops.size -> left ops.size (lst listed) <= fuel ->
   (∀ j,j < ops.size -> lst listed j=true -> ∀ i,(hs.getD j 0).testBit i=true -> i < ops.size /\ lst listed i=true) -> SR F nt S L w0 M0 ((bj hs ts f).G (lst listed) ts.length) M a w -> wpAny P .any ops Q fuel listed a w:=by
 obtain ⟨hf',hsp⟩:=px hs ts f f' htr
 have hall : ∀ (listed : Array Bool),(∀ i,i < ops.size -> lst listed i=true) -> (bj hs ts f).G (lst listed) ts.length=f':=by
  intro listed h
  rw [hf']
  unfold Fam.St
  have : ∀ m,m <= ts.length -> (bj hs ts f).G (lst listed) m=(bj hs ts f).G (fun _=>true) m:=by
   intro m
   induction m with
   | zero=>intro _;rfl
   | succ m ih =>
    intro hm
    simp only [Fam.G]
    rw [h m (by omega),ih (by omega)]
    rfl
  exact this _ (Nat.le_refl _)
 intro fuel
 induction fuel with
 | zero =>
  intro listed M a w hs' hf hcl h
  have hal : ∀ i,i < ops.size -> lst listed i=true:=by
   intro i hi
   cases hl : lst listed i with
   | true=>rfl
   | false =>
    have : i ∈ (List.range ops.size).filter fun i=>!lst listed i:=by simp [hi,hl]
    have:=List.length_pos_of_mem this
    unfold left at hf
    omega
  refine ⟨?_,hQ M a w (by rw [<- hall listed hal];exact h)⟩
  rw [List.eq_nil_iff_forall_not_mem]
  intro i hi
  obtain ⟨h1,h2,_⟩:=jQ.1 hi
  rw [hal i h1] at h2
  cases h2
 | succ fuel ih =>
  intro listed M a w hs' hf hcl h
  refine ⟨fun hr=>hQ M a w ?_,fun j hj=>?_⟩
  ·have hal : ∀ i,i < ops.size -> lst listed i=true:=by
    intro i
    induction i using Nat.strongRecOn with
    | _ i ihi =>
     intro hi
     cases hl : lst listed i with
     | true=>rfl
     | false =>
      have : i ∈ Region.ready .any ops listed:=jQ.2 ⟨hi,hl,ops[i],Array.getElem?_eq_getElem hi,fun e he hb=>by
       have h1:=hed i _ (Array.getElem?_eq_getElem hi) e he hb
       have h2:=ihi e.on h1 (by omega)
       unfold lst at h2
       rw [Array.getD_eq_getD_getElem?] at h2 ⊢
       rw [Array.getElem?_eq_getElem (by omega)] at h2 ⊢
       simpa using h2⟩
      rw [hr] at this
      cases this
   rw [<- hall listed hal]
   exact h
  ·obtain ⟨h1,h2,o,h3,h4⟩:=jQ.1 hj
   obtain ⟨t,ht⟩ : ∃ t,ts[j]? = some t:=⟨ts[j]'(by omega),List.getElem?_eq_getElem (by omega)⟩
   have hanc : ∀ i,(hs.getD j 0).testBit i=true -> i < ops.size /\ lst listed i=true:=by
    intro i hi
    rw [hb j h1] at hi
    obtain ⟨o',ho',e,he,hbd,h5⟩:=Bq hi
    rw [h3] at ho'
    cases ho'
    have h6:=hed j o h3 e (by simpa using he) hbd
    have h7:=h4 e (by simpa using he) hbd
    have h8 : lst listed e.on=true:=by
     unfold lst
     rw [Array.getD_eq_getD_getElem?] at h7 ⊢
     rw [Array.getElem?_eq_getElem (by omega)] at h7 ⊢
     simpa using h7
    rcases h5 with rfl | h5
    ·exact ⟨by omega,h8⟩
    ·rw [wB] at h5
     exact hcl e.on (by omega) h8 i h5
   have hshut : yQ (bj hs ts f) (lst listed):=fun j' hj' hl' i _ hbf=>(hcl j' (by simpa [bj,hlen] using hj') hl' i hbf).2
   have hjn : j < (bj hs ts f).n:=by simp only [bj];omega
   have hreads:=hok.reads hshut hjn h2 (fun i _ hbf=>(hanc i hbf).2)
   obtain ⟨g1,g2,g3,g4⟩:=hsp j t ht
   have hrd : (bj hs ts f).rd j=t.2.2.1:=by simp [bj,ht]
   have hn : (bj hs ts f).n=ts.length:=rfl
   rw [hrd,hn,g4] at hreads
   have hstep : j1 C t.1 ((bj hs ts f).G (lst listed) ts.length) t.2.1:=by
    have hv : ∀ x ∈ am t.1.op,vd ((bj hs ts f).G (lst listed) ts.length) x=vd ((bj hs ts f).St j) x:=fun x hx=>by
     cases x with
     | t s=>exact hreads s (List.mem_append.2 (.inl (List.mem_append.2 (.inl (List.mem_flatMap.2 ⟨_,hx,by simp [i7]⟩)))))
     | c d=>rfl
    have ha : ∀ b ∈ rdR ((bj hs ts f).St j) t.1,(bj hs ts f).G (lst listed) ts.length b=(bj hs ts f).St j b:=fun b hb=>hreads b (List.mem_append.2 (.inr hb))
    have hg : ∀ s b,t.1.guard=some (s,b) -> (bj hs ts f).G (lst listed) ts.length s=(bj hs ts f).St j s:=fun s b e =>
     hreads s (List.mem_append.2 (.inl (List.mem_append.2 (.inr (by rw [e];simp [pX])))))
    unfold j1 at g1 ⊢
    split at g1
    ·exact ⟨fun s b e=>by rw [hg s b e];exact g1.1 s b e,uR hv ha g1.2⟩
    ·obtain ⟨s,b,e1,e2⟩:=g1
     exact ⟨s,b,e1,by rw [hg s b e1];exact e2⟩
   have hlst : ∀ i,lst (listed.setIfInBounds j true) i=(if i=j then true else lst listed i):=by
    intro i
    unfold lst
    rw [Array.getD_eq_getD_getElem?,Array.getD_eq_getD_getElem?,Array.getElem?_setIfInBounds]
    by_cases hij : i=j
    ·subst hij;simp [show i < listed.size from by omega]
    ·simp [hij,Ne.symm hij]
   have hlst' : ∀ i,i ≠ j -> lst (listed.setIfInBounds j true) i=lst listed i:=fun i hi=>by rw [hlst,if_neg hi]
   have hlstj : lst (listed.setIfInBounds j true) j=true:=by rw [hlst,if_pos rfl]
   have hmore : (bj hs ts f).G (lst (listed.setIfInBounds j true)) ts.length=nD t.1 t.2.1 ((bj hs ts f).G (lst listed) ts.length):=by
    rw [zp]
    have:=hok.more hshut hjn h2 hlstj hlst'
    rw [hn] at this
    rw [this]
    simp [Fam.E,bj,ht]
   have hfin : ∀ M' a' w',SR F nt S L w0 M0 (nD t.1 t.2.1 ((bj hs ts f).G (lst listed) ts.length)) M' a' w' -> wpAny P .any ops Q fuel (listed.setIfInBounds j true) a' w':=by
    intro M' a' w' h'
    refine ih _ M' a' w' (by simpa using hs') ?_ (fun j' hj' hl' i hi=>?_) (by rw [hmore];exact h')
    ·have : left ops.size (lst (listed.setIfInBounds j true)) < left ops.size (lst listed):=by
      refine nW (j:=j) (fun i hi=>?_) (by simp [h2]) (by simp [hlstj]) _ (by simpa using h1)
      by_cases hij : i=j
      ·subst hij;simp [h2]
      ·rw [hlst' i hij] at hi;exact hi
     omega
    ·by_cases hjj : j'=j
     ·subst hjj
      obtain ⟨q1,q2⟩:=hanc i hi
      refine ⟨q1,?_⟩
      rw [hlst];split
      ·rfl
      ·exact q2
     ·rw [hlst' j' hjj] at hl'
      obtain ⟨q1,q2⟩:=hcl j' hj' hl' i hi
      refine ⟨q1,?_⟩
      rw [hlst];split
      ·rfl
      ·exact q2
   have:=CE hC hL (hk j t o ht h3) h hstep (R:=wpAny P .any ops Q fuel (listed.setIfInBounds j true)) hfin (Q:=Q)
   unfold wpOp
   rw [h3]
   exact this
theorem qG (hC : b8 P F C) (hL : NoL L) (hm : P.follows .mixedOrders=true) {hs : List Nat} {ops : Array Oper} {ns : List az} (hk : qF P F nt ns ops=true) (hdr : ry hs ops=true) {id : Nat} {K : Env -> Prop} {e : Env} (h : SR F nt S L w0 M0 (ac e) M a w) (hr : jC C hs K ns e [])
  (hQ : ∀ e M a w,SR F nt S L w0 M0 (ac e) M a w -> K e -> Q .normal a w) : (Code.region id ops true).wp P Q a w:=by
 simp only [qF,Bool.and_eq_true,beq_iff_eq,List.all_eq_true] at hk
 obtain ⟨ts,e',g1,g2,g3,g4⟩:=CG ns e [] hr
 have hlen : ts.length=ops.size:=by
  have : ts.length=ns.length:=by rw [<- g1];simp
  rw [this];simpa using hk.1
 have hok:=Ds g2 (by simpa using g3)
 simp only [ry,List.all_eq_true,List.mem_range,Bool.and_eq_true,beq_iff_eq] at hdr
 refine wp_region_any hm (tI hC hL (hs:=hs) g2 hok hlen (fun j hj=>(hdr j hj).1) (fun j o ho e he hb=>?_) (fun j t o ht ho=>?_) (fun M a w hs=>hQ e' M a w hs g4) _ _ M a _ (by simp) ?_ ?_ ?_)
 ·obtain ⟨hj,_⟩:=Array.getElem?_eq_some_iff.1 ho
  have:=(hdr j hj).2
  simp only [sN,ho,List.all_eq_true,Bool.or_eq_true,Bool.not_eq_true',decide_eq_true_eq] at this
  rcases this e (by simpa using he) with h5 | h5
  ·rw [hb] at h5;cases h5
  ·exact h5
 ·refine hk.2 (t.1,o) ?_
  rw [List.mem_iff_getElem?]
  refine ⟨j,?_⟩
  rw [List.getElem?_zip_eq_some]
  refine ⟨?_,by simpa using ho⟩
  rw [<- g1]
  simp [ht]
 ·have:=List.length_filter_le (fun i=>!lst (Array.replicate ops.size false) i) (List.range ops.size)
  simpa [left] using this
 ·intro j hj hl
  simp [lst,hj] at hl
 ·have h0 : ∀ m,m <= ts.length -> (bj hs ts (ac e)).G (lst (Array.replicate ops.size false)) m=ac e:=by
   intro m
   induction m with
   | zero=>intro _;rfl
   | succ m ih =>
    intro hm
    simp only [Fam.G]
    rw [ih (by omega)]
    have : lst (Array.replicate ops.size false) m=false:=by simp [lst,show m < ops.size from by omega]
    rw [this];rfl
  rw [h0 _ (Nat.le_refl _)]
  exact h.grow (Bel.drew _)
end
end Go.Gv
