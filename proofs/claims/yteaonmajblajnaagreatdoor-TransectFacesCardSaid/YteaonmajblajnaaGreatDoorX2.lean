/-
  Texts of the proof: GvE3, GvE4, GvF, GvC8, GvC9, GvF2, GvF3, GvF4, GvE5, GvF5.
-/
import Derived.Test.YteaonmajblajnaaGreatDoorX1
import Derived.Carry
import Derived.DeepKeys4
import Derived.Laws.Externs
import Derived.Laws.StructEq
set_option linter.all false
namespace Go.Gv
open Go.RowKit
section
variable {P : Program} {F : Fid} {nt : Nat} {S : Nat -> Prop} {L : Nat -> Option Loc} {w0 : World} {M0 : Mem} {f : Nat -> D} {M : Mem} {a : Act} {w : World} {o : Oper} {d : D} {Q : Exit -> Act -> World -> Prop} {ρ : Pa -> Loc} {ω : Nat -> Option Pa} {New : Nat -> Prop} {K : List (Nat × D) -> List (Nat × Bool) -> Prop}
def mksOk (P : Program) (t sz by_ : Nat) (zs : List D) : Bool := match P.underlying t with
 | some (.slice e) => zeroOk P e zs && zs.length == sz && decide (0 < sz) && (match P.info? e with
  | some i => i.size == sz && i.bytes == by_ && decide (0 < by_)
  | none => false)
 | _ => false
theorem snd_mks (h : SR F nt S L w0 M0 f M a w) {t : Nat} (hd : o.dst = some t) (ht : t < nt) (hL : L (rt t 0) = none) {sz by_ : Nat} {zs : List D} {x y : Opd} {x' y' : Operand} {T : TypeId} (ho : o.op = .makeSlice T x' y') (hx : aj F x x' = true) (hy : aj F y y' = true) (hk : mksOk P T sz by_ zs = true)
  (hr : match vd f x, vd f y with
   | .int _ n, .int _ c => 0 <= n /\ n <= c /\ c * by_ <= 140737488355328 /\ K [(t, .ref (.r (rt t 0)) 0 n.toNat), (rt t 0, .blk sz (List.replicate c.toNat zs))] [(rt t 0, true)]
   | _, _ => False) : o.wp P a w (PostX F nt S L w0 M0 f K) Q := by
 split at hr
 ·rename_i kn n kc c ex ey
  obtain ⟨h0, h1, h2, hK⟩ := hr
  have e1 := h.opd hx (by simp [ex, isV])
  rw [ex] at e1
  have e2 := h.opd hy (by simp [ey, isV])
  rw [ey] at e2
  simp only [af] at e1 e2
  unfold mksOk at hk
  split at hk
  ·rename_i el hu
   simp only [Bool.and_eq_true, beq_iff_eq, decide_eq_true_eq] at hk
   obtain ⟨⟨⟨hz, hzl⟩, hsz⟩, hk⟩ := hk
   obtain ⟨z, i, hi, hiz, hz0, hzs, hzc⟩ := zeroOk_z hz
   rw [hi] at hk
   simp only [Bool.and_eq_true, beq_iff_eq, decide_eq_true_eq] at hk
   obtain ⟨⟨hs, hb⟩, hb0⟩ := hk
   have hc63 : c <= 140737488355328 := by
    have : c * 1 <= c * (by_ : Int) := Int.mul_le_mul_of_nonneg_left (by omega) (by omega)
    omega
   have hrun := run_make (P := P) w T el i z hu hi hiz kn kc n c h0 h1 (by rw [hb, Int.mul_comm]; omega) (by omega)
   have hcells : (madeCells z.cells (c.toNat * i.size)).toList = (List.replicate c.toNat z.cells.toList).flatten := by
    rw [hs]
    exact range_cells z.cells c.toNat sz (by rw [hzs, hzl])
   have hfl : ∀ m : Nat, ((List.replicate m z.cells.toList).flatten).length = m * sz := fun m => by simp [List.length_flatten, hzs, hzl]
   refine postX_val hd (v := .slice (some ⟨w.heap.size, 0, none⟩) n.toNat c.toNat) (w' := w.alloc (.cells (madeCells z.cells (c.toNat * i.size)).toList.toArray el)) (by simp only [execOp, ho, e1, e2, Sem.run_bind, hrun, Result.andThen_ok, Sem.run_pure, Array.toArray_toList]) hK
    (h.make (bs := []) (es := List.replicate c.toNat zs) (sz := sz) (src := fun _ _ => none) (vs := (madeCells z.cells (c.toNat * i.size)).toList) ht (rt_big t 0) hL (alloc_below _ _) (by simp) (heap_alloc_at _ _) ?_ (fun e he => by rw [(List.mem_replicate.1 he).2, hzl]) (fun i' r off c' hi' hr => ?_)
     (fun i off i' off' c e1 e2 => (by cases e1)) (fun i off c e => (by cases e)) (fun ρ M e => ?_))
   ·rw [hcells, hfl]; simp
   ·obtain ⟨hlt, hr⟩ := rep_rows hi' hr
    have hof : off < sz := by have := (List.getElem?_eq_some_iff.1 hr).1; omega
    have hlen : z.cells.toList.length = sz := by simp [hzs, hzl]
    obtain ⟨u0, hu'⟩ : ∃ u0, z.cells.toList[off]? = some u0 := ⟨_, List.getElem?_eq_getElem (by omega)⟩
    refine ⟨_, ?_, hzc off c' _ hr hu'⟩
    rw [hcells, flatten_get _ _ _ (by rw [hlen]; exact eK hlt hof), hlen, Nat.mul_comm i' sz, Nat.mul_add_mod, Nat.mod_eq_of_lt hof]
    exact hu'
   ·rw [am rfl]
    simp only [av]
    refine .inr ⟨c.toNat, by simp [e], by omega, ?_, ?_⟩
    rotate_left
    ·omega
    rw [e]
    simp only [Nat.zero_add]
    rw [hcells, hfl]
    exact Nat.le_refl _
  ·cases hk
 ·exact hr.elim
theorem foldl_set (off : Nat) : ∀ (l : List Value) (k : Nat) (cells : Array Value), off + k + l.length <= cells.size ->
  ((l.zipIdx k).foldl (fun cs (p : Value × Nat) => cs.setIfInBounds (off + p.2) p.1) cells).toList = cells.toList.take (off + k) ++ l ++ cells.toList.drop (off + k + l.length)
 | [], k, cells, _ => by simp
 | v :: l, k, cells, hl => by
  simp only [List.length_cons] at hl
  simp only [List.zipIdx_cons, List.foldl_cons]
  have ih := foldl_set off l (k + 1) (cells.setIfInBounds (off + k) v) (by simp; omega)
  simp only [Nat.add_assoc] at ih ⊢
  rw [ih]
  simp only [Array.toList_setIfInBounds, List.length_cons]
  have h1 : (cells.toList.set (off + k) v).take (off + (k + 1)) = cells.toList.take (off + k) ++ [v] := by
   rw [<- Nat.add_assoc, List.take_succ_eq_append_getElem (by simp; omega)]
   rw [List.take_set_of_le (by omega)]
   simp
  have h2 : (cells.toList.set (off + k) v).drop (off + (k + (1 + l.length))) = cells.toList.drop (off + (k + (l.length + 1))) := by
   rw [List.drop_set_of_lt (by omega)]
   congr 1; omega
  rw [h1, h2]
  simp
theorem fill_step (off : Nat) (vs cells : Array Value) (hl : off + vs.size <= cells.size) :
  (vs.zipIdx.foldl (fun cs (p : Value × Nat) => cs.setIfInBounds (off + p.2) p.1) cells).toList = cells.toList.take off ++ vs.toList ++ cells.toList.drop (off + vs.size) := by
 have := foldl_set off vs.toList 0 cells (by simpa using hl)
 rw [<- Array.foldl_toList, Array.toList_zipIdx]
 simpa using this
theorem contains_append {x : Nat} {a b : List Nat} : (a ++ b).contains x = (a.contains x || b.contains x) := by
 rw [Bool.eq_iff_iff]; simp
theorem noDupN_append : ∀ {a b : List Nat}, bE (a ++ b) = true -> bE a = true /\ ∀ x ∈ a, x ∉ b
 | [], b, h => ⟨rfl, fun x hx => by cases hx⟩
 | x :: a, b, h => by
  simp only [List.cons_append, bE, Bool.and_eq_true, Bool.not_eq_true', contains_append, Bool.or_eq_false_iff] at h
  obtain ⟨h1, h2⟩ := noDupN_append h.2
  refine ⟨by simp only [bE, h.1.1, h1]; rfl, fun y hy => ?_⟩
  rcases List.mem_cons.1 hy with rfl | hy
  ·intro hb
   have := List.contains_iff_mem.2 hb
   rw [h.1.2] at this; cases this
  ·exact h2 y hy
structure AbsRows (F : Fid) (L : Nat -> Option Loc) (New : Nat -> Prop) (f : Nat -> D) (M : Mem) (a : Act) (w : World) (sz len : Nat) (es : List (List D)) (bs : List Nat) (vs : List Value) (src : Nat -> Nat -> Option Nat) : Prop where
 n : es.length = len
 vl : vs.length = len * sz
 u : ∀ e ∈ es, e.length = sz
 cells : ∀ i r off c, es[i]? = some r -> r[off]? = some c -> ∃ u, vs[i * sz + off]? = some u /\ ja F L New f M a w (src i off) c u
 mem : ∀ i off c, src i off = some c -> c ∈ bs
 inj : bE bs = true -> ∀ i off i' off' c, src i off = some c -> src i' off' = some c -> i = i' /\ off = off'
def blsOk (P : Program) (F : Fid) (t sz len : Nat) (zs : List D) (parts : List (Nat × Opd)) (parts' : List (Nat × Operand)) : Bool := match P.underlying t with
 | some (.slice e) => i8 P e sz && zs.length == sz && zeroOk P e zs && decide (len * sz <= 16777216) && decide (0 < sz) && parts.length == parts'.length &&
   (parts.zip parts').all fun p => aj F p.1.2 p.2.2 && p.1.1 == p.2.1
 | _ => false
theorem fill_parts (ho0 : Own F L New f M a w ρ ω) {sz len : Nat} {ns : List Nat} : ∀ (parts : List (Nat × Opd)) (parts' : List (Nat × Operand)) (es : List (List D)) (bs : List Nat) (cells : Array Value) (src : Nat -> Nat -> Option Nat) (K : List (List D) -> List Nat -> Prop), parts.length = parts'.length ->
  (∀ p ∈ parts.zip parts', aj F p.1.2 p.2.2 = true /\ p.1.1 = p.2.1) -> AbsRows F L New f M a w sz len es bs cells.toList src -> eJ f sz ns parts es bs K ->
  ∃ esF bsF cellsF srcF, K esF bsF /\ Instr.fill (fun i => some (i * sz, sz)) cells (parts'.map fun p => (p.1, a.eval p.2)) = some cellsF /\ AbsRows F L New f M a w sz len esF bsF cellsF.toList srcF
 | [], [], es, bs, cells, src, K, _, _, hA, hr => ⟨es, bs, cells, src, hr, rfl, hA⟩
 | (i, x) :: ps, (i', x') :: ps', es, bs, cells, src, K, hl, hk, hA, hr => by
  obtain ⟨hx, hii⟩ := hk ((i, x), (i', x')) (by simp)
  simp only at hx hii
  subst hii
  simp only [eJ] at hr
  obtain ⟨hi, hr⟩ := hr
  obtain ⟨cs, bs', src', ⟨h1, h2⟩, h3, _⟩ := absW_spec ho0 hr (v := a.eval x') (fun ρ ω hO => hO.opd hx)
  have hin : i < len := by rw [<- hA.n]; exact hi
  have hvs : (a.eval x').cells.size = sz := by rw [h3.len, h1]
  have hle : i * sz + sz <= len * sz := by rw [<- Nat.succ_mul]; exact Nat.mul_le_mul_right _ hin
  have hcl : cells.size = len * sz := by rw [<- hA.vl]; simp
  have hs := fill_step (i * sz) (a.eval x').cells cells (by omega)
  have hvl : (a.eval x').cells.toList.length = sz := by simp [hvs]
  have hget := fun y => fq (vs := cells.toList) (us := (a.eval x').cells.toList) (q := i * sz) (n := sz) (x := y) hvl (by simp; omega)
  rw [hvs] at hs
  have hA' : AbsRows F L New f M a w sz len (es.set i cs) (bs ++ bs') ((a.eval x').cells.zipIdx.foldl (fun cs (p : Value × Nat) => cs.setIfInBounds (i * sz + p.2) p.1) cells).toList (fun j off => if j = i then src' off else src j off) := by
   refine ⟨by simp [hA.n], by rw [hs]; simp; omega, fun e he => ?_, fun j r off c hj hr' => ?_, fun j off c e => ?_, fun hn j off j' off' c e1 e2 => ?_⟩
   ·rcases List.mem_or_eq_of_mem_set he with h | rfl
    ·exact hA.u e h
    ·exact h1
   ·rw [hs, hget]
    rw [List.getElem?_set] at hj
    by_cases hji : j = i
    ·subst hji
     rw [if_pos rfl, if_pos hi] at hj
     cases hj
     have hof : off < sz := by rw [<- h1]; exact (List.getElem?_eq_some_iff.1 hr').1
     rw [if_pos (by omega), show j * sz + off - j * sz = off from by omega]
     have hlt : off < (a.eval x').cells.toList.length := by omega
     refine ⟨_, List.getElem?_eq_getElem hlt, ?_⟩
     rw [if_pos rfl]
     exact (h3.cells off c _ hr' (List.getElem?_eq_getElem hlt)).1
    ·rw [if_neg (Ne.symm hji)] at hj
     obtain ⟨u, k1, k2⟩ := hA.cells j r off c hj hr'
     have hof : off < sz := by rw [<- hA.u r (List.mem_of_getElem? hj)]; exact (List.getElem?_eq_some_iff.1 hr').1
     refine ⟨u, ?_, by rw [if_neg hji]; exact k2⟩
     rw [if_neg, k1]
     rcases Nat.lt_or_gt_of_ne hji with h | h
     ·have : j * sz + sz <= i * sz := by rw [<- Nat.succ_mul]; exact Nat.mul_le_mul_right _ h
      omega
     ·have : i * sz + sz <= j * sz := by rw [<- Nat.succ_mul]; exact Nat.mul_le_mul_right _ h
      omega
   ·split at e
    ·exact List.mem_append.2 (.inr (h3.srcs _ _ e).1)
    ·exact List.mem_append.2 (.inl (hA.mem _ _ _ e))
   ·obtain ⟨n1, n2⟩ := noDupN_append hn
    split at e1 <;> split at e2
    ·rename_i g1 g2; exact ⟨by omega, h3.inj _ _ _ e1 e2⟩
    ·exact absurd (h3.srcs _ _ e1).1 (n2 c (hA.mem _ _ _ e2))
    ·exact absurd (h3.srcs _ _ e2).1 (n2 c (hA.mem _ _ _ e1))
    ·exact hA.inj n1 _ _ _ _ _ e1 e2
  obtain ⟨esF, bsF, cellsF, srcF, g1, g2, g3⟩ := fill_parts ho0 ps ps' _ _ _ _ K (by simpa using hl) (fun p hp => hk p (by simp [hp])) hA' h2
  refine ⟨esF, bsF, cellsF, srcF, g1, ?_, g3⟩
  have hno : ¬ ((a.eval x').cells.size ≠ sz \/ i * sz + (a.eval x').cells.size > cells.size) := by rintro (h | h) <;> omega
  simp only [List.map_cons, Instr.fill]
  rw [if_neg (by rw [Bool.or_eq_true, decide_eq_true_eq, decide_eq_true_eq]; exact hno)]
  exact g2
theorem snd_bls (h : SR F nt S L w0 M0 f M a w) {t : Nat} (hd : o.dst = some t) (ht : t < nt) (hL : L (rt t 0) = none) {sz len : Nat} {zs : List D} {ns : List Nat} {parts : List (Nat × Opd)} {parts' : Array (Nat × Operand)} {T : TypeId} (ho : o.op = .buildSlice T len parts')
  (hk : blsOk P F T sz len zs parts parts'.toList = true)
  (hr : eJ f sz ns parts (List.replicate len zs) [] fun es bs => bE bs = true /\ bs.contains (rt t 0) = false /\ K ((t, .ref (.r (rt t 0)) 0 len) :: (rt t 0, .blk sz es) :: cz bs) [(rt t 0, true)]) : o.wp P a w (PostX F nt S L w0 M0 f K) Q := by
 unfold blsOk at hk
 split at hk
 ·rename_i e hu
  simp only [Bool.and_eq_true, beq_iff_eq, List.all_eq_true, decide_eq_true_eq] at hk
  obtain ⟨⟨⟨⟨⟨⟨h1, h2⟩, h3⟩, h4⟩, h5⟩, h6⟩, h7⟩ := hk
  obtain ⟨z, i, hi, hiz, hz, hzs, hzc⟩ := zeroOk_z h3
  obtain ⟨ρ0, ω0, ho0⟩ := h.own
  have hzl : z.cells.toList.length = sz := by simp [hzs, h2]
  let c0 : Array Value := (Array.range (len * sz)).map ((if len * sz = 0 then #[] else z.cells)[· % (if len * sz = 0 then #[] else z.cells).size]!)
  have hc0 : c0.toList = (List.replicate len z.cells.toList).flatten := by
   by_cases hl : len * sz = 0
   ·have : len = 0 := by rcases Nat.mul_eq_zero.1 hl with h | h; exact h; omega
    subst this
    simp [c0]
   ·simp only [c0, if_neg hl]
    exact range_cells z.cells len sz (by omega)
  have hA : AbsRows F L (mt S w0) f M a w sz len (List.replicate len zs) [] c0.toList (fun _ _ => none) := by
   refine ⟨by simp, by rw [hc0]; simp only [List.length_flatten, List.map_replicate, hzl, List.sum_replicate_nat], fun e he => by rw [(List.mem_replicate.1 he).2, h2], fun i' r off c' hi' hr => ?_, fun i off c e => (by cases e), fun _ i off i' off' c e => (by cases e)⟩
   obtain ⟨hlt, hr⟩ := rep_rows hi' hr
   have hof : off < sz := by have := (List.getElem?_eq_some_iff.1 hr).1; omega
   obtain ⟨u0, hu'⟩ : ∃ u0, z.cells.toList[off]? = some u0 := ⟨_, List.getElem?_eq_getElem (by omega)⟩
   refine ⟨_, ?_, hzc off c' _ hr hu'⟩
   rw [hc0, flatten_get _ _ _ (by rw [hzl]; exact eK hlt hof), hzl, Nat.mul_comm i' sz, Nat.mul_add_mod, Nat.mod_eq_of_lt hof]
   exact hu'
  obtain ⟨esF, bsF, cellsF, srcF, ⟨g1, g2, g3⟩, g4, g5⟩ := fill_parts ho0 parts parts'.toList _ _ c0 _ _ h6 (fun p hp => h7 p hp) hA hr
  have hrun : (Instr.buildSlice T len (parts'.map fun (i, x) => (i, a.eval x))).run P w = .ok (.slice (some ⟨w.heap.size, 0, none⟩) len len) (w.alloc (.cells cellsF.toList.toArray e)) := by
   have hsm : ¬ len * sz > 2 ^ 24 := by omega
   have g4' : Instr.fill (fun i => some (i * sz, sz)) c0 (parts'.map fun (i, x) => (i, a.eval x)).toList = some cellsF := by
    rw [Array.toList_map]; exact g4
   simp only [Instr.buildSlice, Sem.run_bind, run_underlying hu, Result.andThen_ok, cq h1, hsm, if_false]
   by_cases hl : len * sz = 0
   ·simp only [c0, hl, if_true] at g4'
    simp only [hl, if_true, Sem.run_bind, Sem.run_pure, Result.andThen_ok, g4', newRow, run_newObj, World.alloc_eq, Array.toArray_toList]
   ·simp only [c0, hl, if_false] at g4'
    simp only [hl, if_false, Sem.run_bind, Sem.run_pure, hz, Result.andThen_ok, g4', newRow, run_newObj, World.alloc_eq, Array.toArray_toList]
  refine postX_val hd (v := .slice (some ⟨w.heap.size, 0, none⟩) len len) (w' := w.alloc (.cells cellsF.toList.toArray e)) (by simp only [execOp, ho, Sem.run_bind, hrun, Result.andThen_ok, Sem.run_pure]) g3
   (h.make (bs := bsF) (es := esF) (sz := sz) (src := srcF) (vs := cellsF.toList) ht (rt_big t 0) hL (alloc_below _ _) (by simp) (heap_alloc_at _ _) (by rw [g5.n, g5.vl]; exact Nat.le_refl _) g5.u g5.cells (g5.inj g1) (fun i off c e => ⟨g5.mem _ _ _ e, ?_⟩) (fun ρ M e' => ?_))
  ·rintro rfl
   have := List.contains_iff_mem.2 (g5.mem _ _ _ e)
   rw [g2] at this; cases this
  ·rw [am rfl]
   simp only [av]
   refine .inr ⟨len, by simp [e'], Nat.le_refl _, ?_, ?_⟩
   rotate_left
   ·have := Nat.le_mul_of_pos_right len h5
    omega
   rw [e']
   simp [g5.vl]
 ·cases hk
end
end Go.Gv

namespace Go.Gv
open Go.RowKit
def Mem.put (M : Mem) (b : Nat) (vs : List Value) : Mem := fun p => if p.block = b then (if p.spot = none then vs[p.off]? else none) else M p
theorem Mem.put_at (M : Mem) (b o : Nat) (vs : List Value) : cu (M.put b vs) ⟨b, o, none⟩ (vs.drop o) := by
 intro j v hj
 rw [cB]
 rw [List.getElem?_drop] at hj
 simp [Mem.put, hj]
theorem alloc_holds {M : Mem} {w : World} (h : ∀ p v, M p = some v -> w.cell? p = some v) (vs : List Value) (T : TypeId) :
  (∀ p v, (M.put w.heap.size vs) p = some v -> (w.alloc (.cells vs.toArray T)).cell? p = some v) /\ M.le (M.put w.heap.size vs) /\
  (∀ p, M p = none -> (M.put w.heap.size vs) p ≠ none -> w.heap.size <= p.block) := by
 refine ⟨fun p v hp => ?_, fun p v hp => ?_, fun p hp hq => ?_⟩
 ·unfold Mem.put at hp
  split at hp
  ·rename_i hb
   split at hp
   ·rename_i hs
    obtain ⟨pb, po, ps⟩ := p
    simp only at hb hs hp
    subst hb; subst hs
    simp [World.cell?_alloc_new, hp]
   ·cases hp
  ·rename_i hb
   rw [World.cell?_alloc_old _ _ _ hb]
   exact h p v hp
 ·have := World.block_lt_of_cell? w p (h p v hp)
  unfold Mem.put
  rw [if_neg (by omega)]
  exact hp
 ·unfold Mem.put at hq
  split at hq
  ·omega
  ·exact absurd hp hq
section
variable {P : Program} {F : Fid} {nt : Nat} {S : Nat -> Prop} {L : Nat -> Option Loc} {w0 : World} {M0 : Mem} {f : Nat -> D} {M : Mem} {a : Act} {w : World} {o : Oper} {d : D} {Q : Exit -> Act -> World -> Prop} {ρ : Pa -> Loc} {ω : Nat -> Option Pa}
theorem after_new (h : SR F nt S L w0 M0 f M a w) {vs : List Value} {T : TypeId} (hp : bA nt f o.dst) {v : Value} (r : ∀ ρ ω, Own F L (mt S w0) f (M.put w.heap.size vs) a (w.alloc (.cells vs.toArray T)) ρ ω -> bg F (M.put w.heap.size vs) ρ d v)
  (hr : (execOp a.eval o).run P w = .ok (.value v) (w.alloc (.cells vs.toArray T))) : o.wp P a w (bF F nt S L w0 M0 f o.dst d) Q := by
 obtain ⟨h1, h2, h3⟩ := alloc_holds h.holds vs T
 have h' := h.world (Bel.alloc _ _) h2 h3 h1
 refine cQ hr ⟨M.put w.heap.size vs, ?_⟩
 generalize o.dst = t at hp ⊢
 cases t with
 | none => simpa [Act.put, BP] using h'
 | some t => exact h'.put hp r
theorem snd_boxF (h : SR F nt S L w0 M0 f M a w) (hp : bA nt f o.dst) {x : Opd} {x' : Operand} {t : TypeId} (ho : o.op = .box t x') (hx : aj F x x' = true)
  (hr : res f (· = d) (.boxF x)) : o.wp P a w (bF F nt S L w0 M0 f o.dst d) Q := by
 simp only [res] at hr
 have at_ : cu (M.put w.heap.size (a.eval x').cells.toList) ⟨w.heap.size, 0, none⟩ (a.eval x').cells.toList := by simpa using Mem.put_at M w.heap.size 0 (a.eval x').cells.toList
 refine after_new (T := t) h (vs := (a.eval x').cells.toList) hp (v := .pointer (some ⟨w.heap.size, 0, none⟩)) (fun ρ ω hO => ?_) (by simp only [execOp, ho, Instr.box, Sem.run_bind, run_newVar, Result.andThen_ok, Sem.run_pure])
 have h1 := hO.opd hx
 split at hr
 ·rename_i ds e
  subst hr
  rw [e] at h1
  obtain ⟨vs, e1, r⟩ := h1
  refine ⟨_, vs, rfl, r, ?_⟩
  rw [e1] at at_ ⊢
  simpa [Value.cells] using at_
 ·rename_i ds e
  subst hr
  rw [e] at h1
  refine bg.of_pure ?_
  have h2 := h1.pure rfl
  simp only [af] at h2 ⊢
  obtain ⟨vs, e1, r⟩ := h2
  refine ⟨_, vs, rfl, r, ?_⟩
  rw [e1] at at_ ⊢
  simpa [Value.cells] using at_
 ·rename_i d1 _ _
  obtain ⟨h2, rfl⟩ := hr
  have h3 := h1.pure (by cases hq : vd f x <;> first | rfl | (rw [hq] at h2; simp [aw] at h2))
  refine bg.of_pure ?_
  have one : (a.eval x').cells = #[a.eval x'] := by
   cases hq : vd f x <;> rw [hq] at h2 h3 <;> simp only [aw, Bool.false_eq_true] at h2 <;> simp only [af] at h3
   case sl es => obtain ⟨A, cap, vs, sz, e1, _⟩ := h3; rw [e1]; rfl
   case ptr ds => obtain ⟨p, vs, e1, _⟩ := h3; rw [e1]; rfl
   case fn g cs => obtain ⟨p, vs, _, e1, _⟩ := h3; rw [e1]; rfl
   all_goals (rw [h3]; rfl)
  simp only [af]
  refine ⟨_, [a.eval x'], rfl, ?_, by rw [one] at at_ ⊢; exact at_⟩
  simp only [ap]
  exact ⟨_, _, rfl, h3, rfl⟩
end
end Go.Gv

namespace Go.Gv
open Go.RowKit
section
variable {P : Program} {F : Fid} {nt : Nat} {S : Nat -> Prop} {L : Nat -> Option Loc} {w0 : World} {M0 : Mem} {f : Nat -> D} {M : Mem} {a : Act} {w : World} {o : Oper} {d : D} {Q : Exit -> Act -> World -> Prop} {ρ : Pa -> Loc} {ω : Nat -> Option Pa} {New : Nat -> Prop} {K : List (Nat × D) -> List (Nat × Bool) -> Prop}
def RL (R : D -> Value -> Prop) (ds : List D) (vs : List Value) : Prop:=ds.length=vs.length /\ ∀ (i : Nat) (d : D) (v : Value),ds[i]? = some d -> vs[i]? = some v -> R d v
theorem RL.take {R : D -> Value -> Prop} {ds : List D} {vs : List Value} (h : RL R ds vs) (n : Nat) : RL R (ds.take n) (vs.take n) :=
 ⟨by simp [h.1],fun i d v h1 h2=>by
  rw [List.getElem?_take] at h1 h2
  split at h1
  ·rename_i hi
   rw [if_pos hi] at h2
   exact h.2 i d v h1 h2
  ·cases h1⟩
theorem RL.drop {R : D -> Value -> Prop} {ds : List D} {vs : List Value} (h : RL R ds vs) (n : Nat) : RL R (ds.drop n) (vs.drop n) :=
 ⟨by simp [h.1],fun i d v h1 h2=>h.2 (n + i) d v (by simpa using h1) (by simpa using h2)⟩
theorem RL.append {R : D -> Value -> Prop} {ds es : List D} {vs us : List Value} (h : RL R ds vs) (g : RL R es us) : RL R (ds++es) (vs++us) :=
 ⟨by simp [h.1,g.1],fun i d v h1 h2=>by
  by_cases hi : i < ds.length
  ·rw [List.getElem?_append_left hi] at h1
   rw [List.getElem?_append_left (by rw [<- h.1];exact hi)] at h2
   exact h.2 i d v h1 h2
  ·rw [List.getElem?_append_right (by omega)] at h1
   rw [List.getElem?_append_right (by rw [<- h.1];omega),<- h.1] at h2
   exact g.2 _ d v h1 h2⟩
theorem RL.toL {ds : List D} {vs : List Value} (h : RL (af F M) ds vs) : ap F M ds vs:=ap.of_forall' h.1 h.2
theorem ap.toRL {ds : List D} {vs : List Value} (h : ap F M ds vs) : RL (af F M) ds vs :=
 ⟨h.length.symm,fun i d v h1 h2=>by obtain ⟨u,h3,h4⟩:=h.get h1;rw [h2] at h3;cases h3;exact h4⟩
theorem lH {R : D -> Value -> Prop} (place : Nat -> Option (Nat × Nat)) : ∀ (ps : List (Nat × Value)) (qs : List (Nat × Nat × D)) (cells : Array Value) (ds : List D),RL R ds cells.toList -> ps.length=qs.length ->
  (∀ p ∈ ps.zip qs,place p.1.1=some (p.2.1,p.2.2.1) /\ RL R (cellsOf p.2.2.2) p.1.2.cells.toList /\ (cellsOf p.2.2.2).length=p.2.2.1 /\ p.2.1 + p.2.2.1 <= ds.length) ->
  ∃ cells',Instr.fill place cells ps=some cells' /\ RL R (ib ds qs) cells'.toList
 | [],[],cells,ds,r,_,_=>⟨cells,rfl,by simpa [ib] using r⟩
 | (i,v)::ps,(off,n,d)::qs,cells,ds,r,hl,h=>by
  obtain ⟨h1,rc,h4,h5⟩:=h ((i,v),(off,n,d)) (by simp)
  simp only at h1 rc h4 h5
  have hn : v.cells.size=n:=by have:=rc.1;simpa [h4] using this.symm
  have hcl : cells.size=ds.length:=by simpa using r.1.symm
  have hs:=fill_step off v.cells cells (by omega)
  have hno : ¬ (v.cells.size ≠ n \/ off + v.cells.size > cells.size):=by rintro (h' | h') <;> omega
  simp only [Instr.fill,h1]
  rw [if_neg (by rw [Bool.or_eq_true,decide_eq_true_eq,decide_eq_true_eq];exact hno)]
  have r' : RL R (ds.take off++(cellsOf d).take n++ds.drop (off + n)) (v.cells.zipIdx.foldl (fun cs (p : Value × Nat)=>cs.setIfInBounds (off + p.2) p.1) cells).toList:=by
   rw [hs,hn,show (cellsOf d).take n=cellsOf d from List.take_of_length_le (by omega)]
   exact ((r.take off).append rc).append (r.drop (off + n))
  exact lH place ps qs _ _ r' (by simpa using hl) (fun p hp=>by
   obtain ⟨g1,g2,g3,g4⟩:=h p (by simp [hp])
   refine ⟨g1,g2,g3,?_⟩
   have : (ds.take off++(cellsOf d).take n++ds.drop (off + n)).length=ds.length:=by simp;omega
   omega)
theorem rW {R : D -> Value -> Prop} (hR : ∀ d v,af F M d v -> R d v) {zs : List D} {vs : List Value} (h : ap F M zs vs) : RL R zs vs :=
 ⟨h.length.symm,fun i d v h1 h2=>by obtain ⟨u,h3,h4⟩:=h.get h1;rw [h2] at h3;cases h3;exact hR _ _ h4⟩
def fG (P : Program) (t i : Nat) : Option (Nat × Nat):=match P.underlying t with
 | some (.array _ e)=>(P.info? e).map fun ie=>(i * ie.size,ie.size)
 | some (.struct fs)=>match fs[i]? with
  | some fl=>(P.info? fl.type).map fun j=>(fl.offset,j.size)
  | none=>none
 | _=>none
def mm (P : Program) (t : Nat) : Bool:=match P.underlying t with
 | some (.array _ e)=>(P.info? e).isSome
 | some (.struct fs)=>fs.toList.all fun fl=>(P.info? fl.type).isSome
 | _=>false
def qO (P : Program) (F : Fid) (t : Nat) (zs : List D) (parts : List (Nat × Nat × Opd)) (parts' : List (Nat × Operand)) : Bool :=
 alcOk P t zs && mm P t && parts.length == parts'.length && (parts.zip parts').all fun p=>aj F p.1.2.2 p.2.2 && fG P t p.2.1 == some (p.1.1,p.1.2.1)
theorem kY : ∀ (fs : List Field),(∀ fl ∈ fs,(P.info? fl.type).isSome=true) ->
  ∃ places,fs.mapM (fun f=>(P.info? f.type).map fun i=>(f.offset,i.size))=some places /\ ∀ i : Nat,places[i]? = (fs[i]?).bind fun fl=>(P.info? fl.type).map fun j=>(fl.offset,j.size)
 | [],_=>⟨[],rfl,by simp⟩
 | fl::fs,h=>by
  obtain ⟨j,hj⟩:=Option.isSome_iff_exists.1 (h fl (by simp))
  obtain ⟨pl,h1,h2⟩:=kY fs (fun x hx=>h x (by simp [hx]))
  refine ⟨(fl.offset,j.size)::pl,by simp [List.mapM_cons,hj,h1],fun i=>?_⟩
  cases i with
  | zero=>simp [hj]
  | succ i=>simpa using h2 i
theorem qx {t : Nat} {z : Value} (hz : ∀ w,(zeroValue t).run P w=.ok z w) (hs : mm P t=true) (parts : Array (Nat × Value)) (cells : Array Value) (hf : ∀ place : Nat -> Option (Nat × Nat),(∀ i x,fG P t i=some x -> place i=some x) -> Instr.fill place z.cells parts.toList=some cells) (w : World) :
  (Instr.build t parts).run P w=.ok (.agg cells) w:=by
 unfold mm at hs
 split at hs
 ·rename_i n e hu
  obtain ⟨ie,hie⟩:=Option.isSome_iff_exists.1 hs
  have h1:=hf (fun i=>some (i * ie.size,ie.size)) (fun i x hx=>by simpa [fG,hu,hie] using hx)
  simp only [Instr.build,Sem.run_bind,hz,Result.andThen_ok,run_underlying hu,cq (show i8 P e ie.size=true by simp [i8,hie]),h1]
  rfl
 ·rename_i fs hu
  simp only [List.all_eq_true] at hs
  obtain ⟨pl,h1,h2⟩:=kY fs.toList hs
  have h3:=hf (fun i=>pl.toArray[i]?) (fun i x hx=>by
   rw [List.getElem?_toArray,h2 i]
   unfold fG at hx
   rw [hu] at hx
   simp only at hx
   split at hx
   ·rename_i fl hfl
    simp [hfl,hx]
   ·cases hx)
  have h4:=run_places (P:=P) w fs.toList pl h1
  simp only [List.getElem?_toArray] at h3
  simp [Instr.build,hz,run_underlying hu,Array.mapM_eq_mapM_toList,h4,h3]
 ·cases hs
theorem qP {t : TypeId} {zs : List D} {parts : List (Nat × Nat × Opd)} {parts' : Array (Nat × Operand)} (hk : qO P F t zs parts parts'.toList=true) {R : D -> Value -> Prop} (hR : ∀ d v,af F M d v -> R d v) {g : Opd -> D}
  (hc : ∀ p ∈ parts,(cellsOf (g p.2.2)).length=p.2.1 /\ p.1 + p.2.1 <= zs.length) (hv : ∀ x y,aj F x y=true -> (∃ p ∈ parts,p.2.2=x) -> RL R (cellsOf (g x)) (a.eval y).cells.toList) :
  ∃ cells,(Instr.build t (parts'.map fun (i,x)=>(i,a.eval x))).run P w=.ok (.agg cells) w /\ RL R (ib zs (parts.map fun p=>(p.1,p.2.1,g p.2.2))) cells.toList:=by
 simp only [qO,Bool.and_eq_true,beq_iff_eq,List.all_eq_true] at hk
 obtain ⟨⟨⟨h1,h2⟩,h3⟩,h4⟩:=hk
 obtain ⟨z,hz,rz⟩:=alcOk_z h1
 have hfill : ∀ place : Nat -> Option (Nat × Nat),(∀ i x,fG P t i=some x -> place i=some x) ->
   ∃ cells,Instr.fill place z.cells (parts'.map fun (i,x)=>(i,a.eval x)).toList=some cells /\ RL R (ib zs (parts.map fun p=>(p.1,p.2.1,g p.2.2))) cells.toList:=by
  intro place hpl
  refine lH place _ _ z.cells zs (rW hR (rz F M)) (by simpa using h3.symm) (fun p hp=>?_)
  rw [Array.toList_map,List.zip_map,List.mem_map] at hp
  obtain ⟨⟨q',q⟩,hq,rfl⟩:=hp
  have hq' : (q,q') ∈ parts.zip parts'.toList:=by
   obtain ⟨n,hn,e⟩:=List.mem_iff_getElem.1 hq
   simp only [List.length_zip] at hn
   rw [List.getElem_zip] at e
   simp only [Prod.mk.injEq] at e
   rw [List.mem_iff_getElem]
   exact ⟨n,by rw [List.length_zip];omega,by rw [List.getElem_zip,e.1,e.2]⟩
  obtain ⟨g1,g2⟩:=h4 _ hq'
  obtain ⟨g4,g5⟩:=hc q (List.of_mem_zip hq').1
  exact ⟨hpl _ _ (by simpa using g2),hv _ _ g1 ⟨q,(List.of_mem_zip hq').1,rfl⟩,g4,g5⟩
 obtain ⟨cells,hc1,hc2⟩:=hfill (fG P t) (fun _ _ e=>e)
 refine ⟨cells,?_,hc2⟩
 exact qx (P:=P) (t:=t) hz h2 (parts'.map fun (i,x)=>(i,a.eval x)) cells (fun place hpl=>by
  have key : ∀ (ps : List (Nat × Value)) (c : Array Value),(∀ p ∈ ps,∃ x,fG P t p.1=some x) -> Instr.fill place c ps=Instr.fill (fG P t) c ps:=by
   intro ps
   induction ps with
   | nil=>intro c _;rfl
   | cons p ps ih =>
    intro c hps
    obtain ⟨i,v⟩:=p
    obtain ⟨x,hx⟩:=hps (i,v) (by simp)
    simp only at hx
    simp only [Instr.fill,hx,hpl i x hx]
    split
    ·rfl
    ·exact ih _ (fun p hp=>hps p (by simp [hp]))
  rw [key _ _ (fun p hp=>by
   rw [Array.toList_map,List.mem_map] at hp
   obtain ⟨q',hq',rfl⟩:=hp
   obtain ⟨n,hn,e⟩:=List.mem_iff_getElem.1 hq'
   have hmem : (parts[n]'(by omega),q') ∈ parts.zip parts'.toList:=by
    rw [List.mem_iff_getElem]
    exact ⟨n,by rw [List.length_zip];omega,by simp [<- e]⟩
   obtain ⟨_,g2⟩:=h4 _ hmem
   exact ⟨_,by simpa using g2⟩)]
  exact hc1) w
theorem jo {v : Value} (h : af F M d v) (hn : d ≠ .any) : RL (af F M) (cellsOf d) v.cells.toList:=by
 have one : v.cells=#[v] -> RL (af F M) [d] v.cells.toList:=fun e=>by
  rw [e]
  exact ⟨rfl,fun i d' v' h1 h2=>by
   cases i with
   | zero=>simp at h1 h2;subst h1;subst h2;exact h
   | succ i=>simp at h1⟩
 cases d
 case any=>exact absurd rfl hn
 case agg ds=>obtain ⟨vs,rfl,r⟩:=(show ∃ vs : List Value,v=.agg vs.toArray /\ ap F M ds vs from by simpa only [af] using h);exact r.toRL
 case sl es=>exact one (by simp only [af] at h;obtain ⟨A,cap,vs,sz,rfl,_⟩:=h;rfl)
 case bb=>exact one (by simp only [af] at h;obtain ⟨b,rfl⟩:=h;rfl)
 case tup ds=>exact one (by simp only [af] at h;obtain ⟨vs,rfl,_⟩:=h;rfl)
 case ptr ds=>exact one (by simp only [af] at h;obtain ⟨p,vs,rfl,_⟩:=h;rfl)
 case fn g cs=>exact one (by simp only [af] at h;obtain ⟨p,vs,_,rfl,_⟩:=h;rfl)
 all_goals first | (exact one (by simp only [af] at h;subst h;rfl)) | (simp [af] at h)
theorem xN (h : SR F nt S L w0 M0 f M a w) (hp : bA nt f o.dst) {zs : List D} {parts : List (Nat × Nat × Opd)} {parts' : Array (Nat × Operand)} {t : TypeId} (ho : o.op=.build t parts') (hk : qO P F t zs parts parts'.toList=true)
  (hr : res f (·=d) (.bld zs parts)) : o.wp P a w (bF F nt S L w0 M0 f o.dst d) Q:=by
 simp only [res] at hr
 obtain ⟨hc,hr1,hr2⟩:=hr
 have run : ∀ cells,(Instr.build t (parts'.map fun (i,x)=>(i,a.eval x))).run P w=.ok (.agg cells) w -> (execOp a.eval o).run P w=.ok (.value (.agg cells)) w:=fun cells hrun=>by
  simp only [execOp,ho,Sem.run_bind,hrun,Result.andThen_ok,Sem.run_pure]
 cases hall : (parts.all fun p=>isV (vd f p.2.2)) with
 | true =>
  obtain rfl:=hr1 hall
  rw [List.all_eq_true] at hall
  suffices hb : _ /\ _ by
   obtain ⟨cells,h1,h2⟩:=qP (P:=P) (F:=F) (M:=M) (a:=a) (w:=w) hk (R:=af F M) (fun _ _ h=>h) (g:=vd f) hb.1 hb.2
   refine aK h hp (v:=.agg cells) ?_ (run cells h1)
   simp only [af]
   exact ⟨cells.toList,by simp,h2.toL⟩
  refine ⟨fun p hp=>?_,fun x y hx ⟨p,hp,e⟩=>?_⟩
  ·obtain ⟨_,g1,g2⟩:=hc p hp
   refine ⟨?_,g1⟩
   have hv:=hall p hp
   cases e : vd f p.2.2 <;> rw [e] at g2 hv <;> simp only [isV,Bool.false_eq_true] at hv <;> simp only [cellsOf] <;> first | exact g2 | exact g2.symm | exact g2.elim
  ·have hv:=hall p hp
   rw [e] at hv
   refine jo (h.opd hx hv) (fun e'=>?_)
   have:=(hc p hp).2.2
   rw [e,e'] at this
   exact this
 | false =>
  obtain rfl:=hr2 hall
  refine br h hp (fun ρ ω hO=>?_)
  suffices hb : _ /\ _ by
   obtain ⟨cells,h1,h2⟩:=qP (P:=P) (F:=F) (M:=M) (a:=a) (w:=w) hk (R:=av F M ρ) (fun _ _ h=>av.of_pure h) (g:=fun x=>bZ (vd f x)) hb.1 hb.2
   exact ⟨.agg cells,⟨cells.toList,by simp,h2.1,h2.2⟩,run cells h1⟩
  refine ⟨fun p hp=>?_,fun x y hx ⟨p,hp,e⟩=>?_⟩
  ·obtain ⟨_,g1,g2⟩:=hc p hp
   refine ⟨?_,g1⟩
   cases e : vd f p.2.2 <;> rw [e] at g2 <;> simp only [cellsOf,bZ] <;> first | exact g2 | exact g2.symm | exact g2.elim
  ·have hv:=hO.opd hx
   have hne:=(hc p hp).2.2
   rw [e] at hne
   have single : ∀ v,av F M ρ (vd f x) v -> v.cells=#[v] -> RL (av F M ρ) [vd f x] v.cells.toList:=fun v hv e=>by
    rw [e]
    exact ⟨rfl,fun i d' v' h1 h2=>by
     cases i with
     | zero=>simp at h1 h2;subst h1;subst h2;exact hv
     | succ i=>simp at h1⟩
   have pur : isV (vd f x)=true -> RL (av F M ρ) (cellsOf (vd f x)) (a.eval y).cells.toList:=fun hpv=>by
    have:=jo (hv.pure hpv) (fun e'=>by rw [e'] at hne;exact hne)
    exact ⟨this.1,fun i d v h1 h2=>av.of_pure (this.2 i d v h1 h2)⟩
   cases e1 : vd f x <;> rw [e1] at hv hne pur single <;> simp only [bZ] <;> try exact pur rfl
   case agx ds=>obtain ⟨vs,e2,r⟩:=hv;rw [e2];exact r
   case ref p k n =>
    rw [am rfl] at hv
    refine single _ hv ?_
    simp only [av] at hv
    rcases hv with ⟨_,A,e3⟩ | ⟨cap,e3,_⟩ <;> rw [e3] <;> rfl
   case adr p i off=>rw [am rfl] at hv;refine single _ hv ?_;simp only [av] at hv;rw [hv];rfl
   case mrf b=>rw [am rfl] at hv;refine single _ hv ?_;simp only [av] at hv;rw [hv];rfl
   case tpx ds=>exact hne.elim
   case ptx ds=>exact hne.elim
   case rfx n sz ds=>exact hne.elim
   case fnx g cs=>exact hne.elim
   all_goals (simp [bg,av,af] at hv)
def bT (F : Fid) (xs : List Opd) (ys : List Operand) : Bool:=xs.length == ys.length && (xs.zip ys).all fun p=>aj F p.1 p.2
theorem BB (h : SR F nt S L w0 M0 f M a w) (hp : bA nt f o.dst) {g fi : Nat} {xs : List Opd} {first ys : Array Operand} (ho : o.op=.makeFunc (.func fi) first ys) (hf : first.isEmpty=true) (hx : bT F xs ys.toList=true)
  (hg : F g=some fi) (hr : res f (·=d) (.mk g xs)) : o.wp P a w (bF F nt S L w0 M0 f o.dst d) Q:=by
 simp only [res] at hr
 obtain ⟨h0,hr1,hr2⟩:=hr
 have hf' : first=#[]:=by simpa using hf
 simp only [bT,Bool.and_eq_true,beq_iff_eq,List.all_eq_true] at hx
 refine br h hp (fun ρ ω hO=>⟨.func (.func fi) #[] (ys.toList.map a.eval).toArray,?_,?_⟩)
 ·have parts : ∀ (i : Nat) (d : D) (v : Value),(xs.map (vd f))[i]? = some d -> (ys.toList.map a.eval)[i]? = some v -> ∃ x y,d=vd f x /\ x ∈ xs /\ v=a.eval y /\ aj F x y=true:=fun i d v h1 h2=>by
   rw [List.getElem?_map,Option.map_eq_some_iff] at h1 h2
   obtain ⟨x,h1,rfl⟩:=h1
   obtain ⟨y,h2,rfl⟩:=h2
   refine ⟨x,y,rfl,List.mem_of_getElem? h1,rfl,hx.2 (x,y) (List.mem_iff_getElem?.2 ⟨i,by rw [List.getElem?_zip_eq_some];exact ⟨h1,h2⟩⟩)⟩
  cases hall : (xs.all fun x=>isV (vd f x)) with
  | true =>
   obtain rfl:=hr1 hall
   rw [List.all_eq_true] at hall
   refine bg.of_pure ?_
   simp only [af]
   refine ⟨fi,_,hg,rfl,ap.of_forall' (by simpa using hx.1) (fun i d v h1 h2=>?_)⟩
   obtain ⟨x,y,rfl,h3,rfl,h5⟩:=parts i d v h1 h2
   exact (hO.opd h5).pure (hall x h3)
  | false =>
   obtain rfl:=hr2 hall
   refine ⟨fi,_,hg,rfl,by simpa using hx.1,fun i d v h1 h2=>?_⟩
   obtain ⟨x,y,rfl,h3,rfl,h5⟩:=parts i d v h1 h2
   have:=hO.opd h5
   rwa [am (by have:=h0 x h3;cases e : vd f x <;> rw [e] at this <;> first | rfl | (simp [isP] at this))] at this
 ·simp only [execOp,ho,hf',Instr.makeFunc,Sem.run_bind,Sem.run_pure,Result.andThen_ok]
  rw [show ys.map a.eval=(ys.toList.map a.eval).toArray from by apply Array.ext';simp]
  simp
def lw (P : Program) (t : Nat) : Bool:=match P.underlying t with
 | some (.slice _)=>true
 | _=>false
theorem sG {t : Nat} (h : lw P t=true) : ∃ e,P.underlying t=some (.slice e):=by
 unfold lw at h
 split at h
 ·exact ⟨_,by assumption⟩
 ·cases h
theorem xW (h : SR F nt S L w0 M0 f M a w) (hp : bA nt f o.dst) {x : Opd} {x' : Operand} {t : TypeId} (ho : o.op=.call { callee:=.builtin .len,args:=#[x'],argTypes:=#[t] }) (hx : aj F x x'=true) (hk : lw P t=true)
  (hr : res f (·=d) (.len x)) : o.wp P a w (bF F nt S L w0 M0 f o.dst d) Q:=by
 obtain ⟨e,he⟩:=sG hk
 have key : ∀ A n c,a.eval x'=.slice A n c -> (execOp a.eval o).run P w=.ok (.value (.int .i64 n)) w:=by
  intro A n c e1
  simp only [execOp,ho,resolve,invoke,builtin,Builtin.len_,goInt,List.map_toArray,List.map_cons,List.map_nil,e1,Sem.run_bind,Sem.run_pure,Result.andThen_ok,List.getElem?_toArray,List.getElem?_cons_zero,run_underlying he]
 simp only [res] at hr
 split at hr
 ·rename_i es ex
  have h1:=h.opd hx (by simp [ex,isV])
  rw [ex] at h1
  simp only [af] at h1
  obtain ⟨A,cap,vs,sz,e1,_⟩:=h1
  subst hr
  exact aK h hp (v:=.int .i64 es.length) rfl (key _ _ _ e1)
 ·rename_i ex
  have h1:=h.opd hx (by simp [ex,isV])
  rw [ex] at h1
  simp only [af] at h1
  subst hr
  exact aK h hp (v:=.int .i64 0) rfl (by simpa using key _ _ _ h1)
 ·rename_i p k n ex
  subst hr
  refine br h hp (fun ρ ω hO=>⟨.int .i64 n,bg.of_pure rfl,?_⟩)
  have h1:=hO.opd hx
  rw [ex,am rfl] at h1
  simp only [av] at h1
  rcases h1 with ⟨rfl,A,h1⟩ | ⟨cap,h1,_⟩
  ·simpa using key _ _ _ h1
  ·exact key _ _ _ h1
 ·rename_i n sz ds ex
  subst hr
  refine br h hp (fun ρ ω hO=>⟨.int .i64 n,bg.of_pure rfl,?_⟩)
  have h1:=hO.opd hx
  rw [ex] at h1
  obtain ⟨p,cap,vs,e1,_⟩:=h1
  exact key _ _ _ e1
 ·exact hr.elim
theorem vn (h : SR F nt S L w0 M0 f M a w) (hp : bA nt f o.dst) {x : Opd} {x' : Operand} {t : TypeId} (ho : o.op=.call { callee:=.builtin .len,args:=#[x'],argTypes:=#[t] }) (hx : aj F x x'=true) (hk : jQ P t=true)
  (hr : res f (·=d) (.lens x)) : o.wp P a w (bF F nt S L w0 M0 f o.dst d) Q:=by
 simp only [res] at hr
 split at hr
 ·rename_i s ex
  have h1:=h.opd hx (by simp [ex,isV])
  rw [ex] at h1
  simp only [af] at h1
  subst hr
  refine aK h hp (v:=.int .i64 s.length) rfl ?_
  simp only [execOp,ho,resolve,invoke,builtin,Builtin.len_,goInt,List.map_toArray,List.map_cons,List.map_nil,h1,Sem.run_bind,Sem.run_pure,Result.andThen_ok,List.getElem?_toArray,List.getElem?_cons_zero,run_underlying (lx hk)]
  rfl
 ·exact hr.elim
def lV (P : Program) (f : FuncId) : Bool:=match P.funcs[f]? with
 | some fn=>fn.body.isSome && !(fn.name == "runtime.NumGoroutine")
 | none=>false
theorem bH {fi : Nat} (h : lV P fi=true) (args : Array Value) (w : World) : (callFunc fi args).run P w=.ok (.enter fi args) w:=by
 unfold lV at h
 split at h
 ·rename_i fn hfn
  simp only [Bool.and_eq_true,Bool.not_eq_true'] at h
  obtain ⟨h1,h2⟩:=h
  have h3 : fn.body.isNone=false:=by cases hb : fn.body <;> simp_all
  simp only [callFunc,Sem.run_bind,run_program,Result.andThen_ok,hfn,h2,h3]
  rfl
 ·cases h
def gL (F : Fid) : Option Opd -> Option Operand -> Bool
 | none,none=>true
 | some x,some y=>aj F x y
 | _,_=>false
theorem dL (h : SR F nt S L w0 M0 f M a w) {lo : Option Opd} {lo' : Option Operand} (ho : gL F lo lo'=true) {dflt : Nat} {K : Nat -> Prop} (hb : dH f lo dflt K) :
  ∃ n,K n /\ ((lo'=none /\ lo=none /\ n=dflt) \/ ∃ y k m,lo'=some y /\ a.eval y=.int k m /\ 0 <= m /\ n=m.toNat):=by
 unfold dH at hb
 split at hb
 ·cases lo' with
  | none=>exact ⟨dflt,hb,.inl ⟨rfl,rfl,rfl⟩⟩
  | some y=>simp [gL] at ho
 ·rename_i x
  cases lo' with
  | none=>simp [gL] at ho
  | some y =>
   simp only [gL] at ho
   split at hb
   ·rename_i k m ex
    have h1:=h.opd ho (by simp [ex,isV])
    rw [ex] at h1
    simp only [af] at h1
    exact ⟨_,hb.2,.inr ⟨y,k,m,rfl,h1,hb.1,rfl⟩⟩
   ·exact hb.elim
theorem ga {isS : Bool} {len cap l h : Nat} {lo hi : Option Value} (hl : (lo=none /\ l=0) \/ ∃ k m,lo=some (.int k m) /\ 0 <= m /\ l=m.toNat) (hh : (hi=none /\ h=len) \/ ∃ k m,hi=some (.int k m) /\ 0 <= m /\ h=m.toNat)
  (h1 : l <= h) (h2 : h <= cap) (w : World) : (Instr.sliceBounds isS len cap lo hi none).run P w=.ok (l,h,cap) w:=by
 rcases hl with ⟨e1,e2⟩ | ⟨k,m,e1,g1,e2⟩ <;> rcases hh with ⟨e1',e2'⟩ | ⟨k',m',e1',g1',e2'⟩
 ·simp [Instr.sliceBounds,e1,e1',e2,e2']
 ·have e : m' <= (cap : Int):=by omega
  simp [Instr.sliceBounds,Instr.sliceBound,asIntOf,e1,e1',e2,e2',g1',e]
 ·have e : m <= (len : Int):=by omega
  simp [Instr.sliceBounds,Instr.sliceBound,asIntOf,e1,e1',e2,e2',g1,e]
 ·have e : m' <= (cap : Int):=by omega
  have e'' : m <= max m' 0:=by omega
  simp [Instr.sliceBounds,Instr.sliceBound,asIntOf,e1,e1',e2,e2',g1',e,g1,e'']
def vc (P : Program) (t sz : Nat) : Bool:=match P.underlying t with
 | some (.slice e)=>i8 P e sz
 | _=>false
theorem x4 (h : SR F nt S L w0 M0 f M a w) (hp : bA nt f o.dst) {sz : Nat} {x : Opd} {x' : Operand} {lo hi : Option Opd} {lo' hi' : Option Operand} {t : TypeId} (ho : o.op=.slice t x' lo' hi' none) (hx : aj F x x'=true)
  (hlo : gL F lo lo'=true) (hhi : gL F hi hi'=true) (hk : vc P t sz=true) (hr : res f (·=d) (.slc sz x lo hi)) : o.wp P a w (bF F nt S L w0 M0 f o.dst d) Q:=by
 simp only [res] at hr
 have run : ∀ (A : Option Addr) (n cap ln hn : Nat),a.eval x'=.slice A n cap -> n <= cap -> ln <= hn -> hn <= n -> ((lo'=none /\ lo=none /\ ln=0) \/ ∃ y k m,lo'=some y /\ a.eval y=.int k m /\ 0 <= m /\ ln=m.toNat) -> ((hi'=none /\ hi=none /\ hn=n) \/ ∃ y k m,hi'=some y /\ a.eval y=.int k m /\ 0 <= m /\ hn=m.toNat) ->
   (execOp a.eval o).run P w=.ok (.value (.slice (if cap=ln then A else A.map (·.add (ln * sz))) (hn - ln) (cap - ln))) w:=by
  intro A n cap ln hn e1 hcap g1 g2 el eh
  have hbounds : (Instr.sliceBounds true n cap (lo'.map a.eval) (hi'.map a.eval) none).run P w=.ok (ln,hn,cap) w:=by
   refine ga ?_ ?_ g1 (by omega) w
   ·rcases el with ⟨rfl,_,rfl⟩ | ⟨y,k,m,rfl,e2,e3,rfl⟩
    ·exact .inl ⟨rfl,rfl⟩
    ·exact .inr ⟨k,m,by simp [e2],e3,rfl⟩
   ·rcases eh with ⟨rfl,_,rfl⟩ | ⟨y,k,m,rfl,e2,e3,rfl⟩
    ·exact .inl ⟨rfl,rfl⟩
    ·exact .inr ⟨k,m,by simp [e2],e3,rfl⟩
  unfold vc at hk
  split at hk
  ·rename_i e hu
   simp only [execOp,ho,e1,Instr.sliceAt,Sem.run_bind,run_underlying hu,Result.andThen_ok,Instr.slice,Option.map_none,hbounds,cq hk,Sem.run_pure]
  ·cases hk
 split at hr
 ·rename_i es ex
  have h1:=h.opd hx (by simp [ex,isV])
  rw [ex] at h1
  simp only [af] at h1
  obtain ⟨A,cap,vs,sz',e1,hcap,r,hs,ha⟩:=h1
  obtain ⟨hz,hr⟩:=hr
  obtain ⟨hn,hb,eh⟩:=dL h hhi hr
  obtain ⟨ln,⟨g1,g2,rfl⟩,el⟩:=dL h hlo hb
  refine aK h hp ?_ (run A _ cap ln hn e1 hcap g1 g2 el eh)
  simp only [af]
  have hlen : ((es.take hn).drop ln).length=hn - ln:=by simp;omega
  refine ⟨_,cap - ln,(vs.take (hn * sz')).drop (ln * sz'),sz',by rw [hlen],by omega,(r.take hn hs).drop ln (fun e he=>hs e (List.mem_of_mem_take he)),fun e he=>hs e (List.mem_of_mem_take (List.mem_of_mem_drop he)),fun hpos=>?_⟩
  obtain ⟨p,rfl,c⟩:=ha (by omega)
  have hne : cap ≠ ln:=by omega
  have he0 : es[0]'(by omega) ∈ es:=List.getElem_mem _
  obtain rfl : sz'=sz:=(hs _ he0).symm.trans (hz _ he0)
  rw [if_neg hne]
  exact ⟨p.add (ln * sz'),rfl,(c.take _).drop _⟩
 ·rename_i ex
  have h1:=h.opd hx (by simp [ex,isV])
  rw [ex] at h1
  simp only [af] at h1
  obtain ⟨hn,hb,eh⟩:=dL h hhi hr
  obtain ⟨ln,⟨g1,g2,rfl⟩,el⟩:=dL h hlo hb
  refine aK h hp ?_ (run none 0 0 ln hn h1 (Nat.le_refl _) g1 g2 el eh)
  simp only [af]
  have e1 : hn=0:=by omega
  have e2 : ln=0:=by omega
  subst e1;subst e2
  exact ⟨none,0,[],0,rfl,by simp,rfl,fun e he=>(by cases he),fun hpos=>absurd hpos (by simp)⟩
 ·rename_i p k n ex
  split at hr
  ·rename_i sz' es hg
   obtain ⟨rfl,hr⟩:=hr
   obtain ⟨hn,hb,eh⟩:=dL h hhi hr
   obtain ⟨ln,⟨g1,g2,rfl⟩,el⟩:=dL h hlo hb
   refine br h hp (fun ρ ω hO=>?_)
   have h1:=hO.opd hx
   rw [ex,am rfl] at h1
   simp only [av] at h1
   obtain ⟨hP,_⟩:=hO.get (bV hO hg) hg
   have hsz : (ρ p).sz=sz':=by
    rcases hP with ⟨_,_,h3,_⟩ | ⟨_,h3,_⟩ <;> exact h3
   rcases h1 with ⟨rfl,A,h1⟩ | ⟨cap,h1,hcap,hfit,hmc⟩
   ·refine ⟨_,bg.ofR ?_,run A 0 0 ln hn h1 (Nat.le_refl _) g1 g2 el eh⟩
    simp only [av]
    exact .inl ⟨by omega,_,by rw [show hn - ln=0 from by omega,Nat.zero_sub]⟩
   ·refine ⟨_,bg.ofR ?_,run _ n cap ln hn h1 hcap g1 g2 el eh⟩
    simp only [av]
    by_cases hc : cap=ln
    ·exact .inl ⟨by omega,_,by rw [show hn - ln=0 from by omega,show cap - ln=0 from by omega]⟩
    ·refine .inr ⟨cap - ln,?_,by omega,?_,by omega⟩
     ·rw [if_neg hc]
      simp only [Option.map_some,cB,hsz,Nat.add_mul,Nat.add_assoc]
     ·rw [show k + ln + (cap - ln)=k + cap from by omega]
      exact hfit
  ·exact hr.elim
 ·exact hr.elim
theorem gn {sz : Nat} : ∀ (n : Nat) (ds : List D),(b9 sz n ds).length=n
 | 0,_=>rfl
 | n + 1,ds=>by simp [b9,gn n]
theorem kN {sz : Nat} : ∀ (n : Nat) (ds : List D),(b9 sz n ds).flatten=ds.take (n * sz)
 | 0,ds=>by simp [b9]
 | n + 1,ds=>by
  rw [b9,List.flatten_cons,kN n,Nat.succ_mul,Nat.add_comm,List.take_add]
theorem lF {sz : Nat} : ∀ (n : Nat) (ds : List D),n * sz <= ds.length -> ∀ e ∈ b9 sz n ds,e.length=sz
 | 0,ds,_,e,he=>by simp [b9] at he
 | n + 1,ds,h,e,he=>by
  rw [Nat.succ_mul] at h
  simp only [b9,List.mem_cons] at he
  rcases he with rfl | he
  ·simp;omega
  ·exact lF n _ (by simp;omega) e he
theorem xY (h : SR F nt S L w0 M0 f M a w) (hp : bA nt f o.dst) {len sz : Nat} {x : Opd} {x' : Operand} {t : TypeId} (ho : o.op=.slice t x' none none none) (hx : aj F x x'=true)
  (hk : fP P t len sz=true) (hr : res f (·=d) (.slA len sz x)) : o.wp P a w (bF F nt S L w0 M0 f o.dst d) Q:=by
 simp only [res] at hr
 split at hr
 ·rename_i ds ex
  have h1:=h.opd hx (by simp [ex,isV])
  rw [ex] at h1
  simp only [af] at h1
  obtain ⟨p,vs,e1,r,c⟩:=h1
  obtain ⟨h0,h0',hn,rfl⟩:=hr
  unfold fP at hk
  split at hk
  ·rename_i l e hu
   simp only [Bool.and_eq_true,beq_iff_eq] at hk
   obtain ⟨rfl,hz⟩:=hk
   have ha : P.arrayLen t=l:=by simp only [Program.arrayLen,hu]
   have he : P.elem t=e:=by simp only [Program.elem,hu]
   refine aK h hp (v:=.slice (some p) l l) ?_ ?_
   ·simp only [af]
    refine ⟨some p,l,vs.take (l * sz),sz,by rw [gn],by rw [gn];exact Nat.le_refl _,aZ.flat.2 (by rw [kN];exact r.take _),lF l ds hn,fun _=>⟨p,rfl,c.take _⟩⟩
   ·have hrun:=run_sliceAt_array_all (P:=P) (w:=w) (t:=t) (a:=p) (by rw [ha,he];exact hu)
    simp only [execOp,ho,e1,Option.map_none,Sem.run_bind,hrun,he,ha,cq hz,Result.andThen_ok,Sem.run_pure,slicedAt,Nat.zero_mul,Nat.sub_zero]
    rw [if_neg (by omega)]
    rfl
  ·cases hk
 ·exact hr.elim
def tH (P : Program) (src dst : Nat) : Bool:=match P.underlying src with
 | some (.slice e)=>(match P.underlying e with
  | some (.int .u8)=>jQ P dst
  | _=>false)
 | _=>false
theorem xQ (h : SR F nt S L w0 M0 f M a w) (hp : bA nt f o.dst) {x : Opd} {x' : Operand} {src dst : TypeId} (ho : o.op=.convert src dst x') (hx : aj F x x'=true)
  (hk : tH P src dst=true) (hr : res f (·=d) (.cvS x)) : o.wp P a w (bF F nt S L w0 M0 f o.dst d) Q:=by
 simp only [res] at hr
 split at hr
 ·rename_i es ex
  have h1:=h.opd hx (by simp [ex,isV])
  rw [ex] at h1
  simp only [af] at h1
  obtain ⟨A,cap,vs,sz,e1,hcap,r,hs,ha⟩:=h1
  obtain ⟨h0,hb,rfl⟩:=hr
  obtain ⟨p,rfl,c⟩:=ha h0
  unfold tH at hk
  split at hk
  ·rename_i e hu
   split at hk
   ·rename_i he
    have hd:=lx hk
    have hcell : ∀ j (hj : j < (es.map fL).length),w.cell? (p.add j)=some (.int .u8 ((es.map fL)[j].toNat : Int)):=fun j hj=>by
     rw [List.length_map] at hj
     obtain ⟨n,hn,hlt⟩:=hb _ (List.getElem_mem hj)
     have hsz : sz=1:=by rw [<- hs _ (List.getElem_mem hj),hn];rfl
     have hat:=aZ.at_ r hs (List.getElem?_eq_getElem hj)
     rw [hn,hsz,Nat.mul_one] at hat
     simp only [ap,af] at hat
     obtain ⟨v,r',g1,g2,_⟩:=hat
     have hv : vs[j]? = some v:=by
      have:=congrArg (fun l=>l[0]?) g1
      simpa using this
     rw [h.holds _ _ (c j v hv),g2,List.getElem_map,hn]
     simp only [fL,Int.toNat_natCast]
     have : (UInt8.ofNat n).toNat=n:=by simp;omega
     rw [this]
    have hrun:=run_convert_bytes_back (P:=P) w src dst e p cap (es.map fL) hu he hd hcell
    rw [List.length_map] at hrun
    refine aK h hp (v:=.string ⟨(es.map fL).toArray⟩) (by simp only [af]) ?_
    simp only [execOp,ho,e1,Sem.run_bind,hrun,Result.andThen_ok,Sem.run_pure]
   ·cases hk
  ·cases hk
 ·exact hr.elim
theorem x3 (h : SR F nt S L w0 M0 f M a w) (hp : bA nt f o.dst) {x : Opd} {x' : Operand} {lo hi : Option Opd} {lo' hi' : Option Operand} {t : TypeId} (ho : o.op=.slice t x' lo' hi' none) (hx : aj F x x'=true)
  (hlo : gL F lo lo'=true) (hhi : gL F hi hi'=true) (hk : jQ P t=true) (hr : res f (·=d) (.slS x lo hi)) : o.wp P a w (bF F nt S L w0 M0 f o.dst d) Q:=by
 simp only [res] at hr
 split at hr
 ·rename_i s ex
  have h1:=h.opd hx (by simp [ex,isV])
  rw [ex] at h1
  simp only [af] at h1
  obtain ⟨hn,hb,eh⟩:=dL h hhi hr
  obtain ⟨ln,⟨g1,g2,rfl⟩,el⟩:=dL h hlo hb
  have hsz : (⟨s.toArray⟩ : ByteArray).size=s.length:=by simp [ByteArray.size]
  have hbounds : (Instr.sliceBounds false s.length s.length (lo'.map a.eval) (hi'.map a.eval) none).run P w=.ok (ln,hn,s.length) w:=by
   refine ga ?_ ?_ g1 (by omega) w
   ·rcases el with ⟨rfl,_,rfl⟩ | ⟨y,k,m,rfl,e2,e3,rfl⟩
    ·exact .inl ⟨rfl,rfl⟩
    ·exact .inr ⟨k,m,by simp [e2],e3,rfl⟩
   ·rcases eh with ⟨rfl,_,rfl⟩ | ⟨y,k,m,rfl,e2,e3,rfl⟩
    ·exact .inl ⟨rfl,rfl⟩
    ·exact .inr ⟨k,m,by simp [e2],e3,rfl⟩
  refine aK h hp (v:=.string ⟨((s.take hn).drop ln).toArray⟩) rfl ?_
  have hext : (⟨s.toArray⟩ : ByteArray).extract ln hn=⟨((s.take hn).drop ln).toArray⟩:=by
   apply ByteArray.ext
   simp [List.drop_take]
  simp only [execOp,ho,h1,Instr.sliceAt,Sem.run_bind,run_underlying (lx hk),Result.andThen_ok,Instr.slice,Option.map_none,Option.isSome_none,Bool.false_eq_true,if_false,hsz,hbounds,Sem.run_pure,hext]
 ·exact hr.elim
theorem BC (h : SR F nt S L w0 M0 f M a w) (hp : bA nt f o.dst) {x y : Opd} {x' y' : Operand} {ts : Array TypeId} (ho : o.op=.call { callee:=.builtin .min,args:=#[x',y'],argTypes:=ts }) (hx : aj F x x'=true) (hy : aj F y y'=true)
  (hr : res f (·=d) (.mn x y)) : o.wp P a w (bF F nt S L w0 M0 f o.dst d) Q:=by
 simp only [res] at hr
 split at hr
 ·rename_i k n k' m ex ey
  have h1:=h.opd hx (by simp [ex,isV])
  rw [ex] at h1
  have h2:=h.opd hy (by simp [ey,isV])
  rw [ey] at h2
  simp only [af] at h1 h2
  obtain ⟨rfl,rfl⟩:=hr
  refine aK h hp (v:=.int k (if m < n then m else n)) rfl ?_
  simp only [execOp,ho,resolve,invoke,builtin,List.map_toArray,List.map_cons,List.map_nil,h1,h2,Sem.run_bind,Sem.run_pure,Result.andThen_ok,run_min_int2]
 ·exact hr.elim
theorem BD (h : SR F nt S L w0 M0 f M a w) (hp : bA nt f o.dst) {x y : Opd} {x' y' : Operand} {ts : Array TypeId} (ho : o.op=.call { callee:=.builtin .max,args:=#[x',y'],argTypes:=ts }) (hx : aj F x x'=true) (hy : aj F y y'=true)
  (hr : res f (·=d) (.mx x y)) : o.wp P a w (bF F nt S L w0 M0 f o.dst d) Q:=by
 simp only [res] at hr
 split at hr
 ·rename_i k n k' m ex ey
  have h1:=h.opd hx (by simp [ex,isV])
  rw [ex] at h1
  have h2:=h.opd hy (by simp [ey,isV])
  rw [ey] at h2
  simp only [af] at h1 h2
  obtain ⟨rfl,rfl⟩:=hr
  refine aK h hp (v:=.int k (if n < m then m else n)) rfl ?_
  simp only [execOp,ho,resolve,invoke,builtin,List.map_toArray,List.map_cons,List.map_nil,h1,h2,Sem.run_bind,Sem.run_pure,Result.andThen_ok,run_max_int2]
 ·exact hr.elim
end
end Go.Gv

namespace Go.Gv
open Go.RowKit
section
variable {F : Fid} {M : Mem} {ρ : Pa -> Loc} {ω : Nat -> Option Pa} {w w' : World} {f : Nat -> D} {a : Act} {L : Nat -> Option Loc} {nt : Nat} {S : Nat -> Prop} {w0 : World} {M0 : Mem}
theorem SR.fill (h : SR F nt S L w0 M0 f M a w) (ho : Own F L (fun k=>S k \/ w0.heap.size <= k) f M a w ρ ω) {b sz : Nat} {es es' : List (List D)} {us : List Value} {T : TypeId} (hf : f b=.blk sz es) (hω : ω (ρ (.r b)).blk=some (.r b)) (hrows : eO w (ρ (.r b)) sz es (fun i off d v=>bP F M ω ρ w b i off d v)) (hl : es'.length <= es.length) (hu : ∀ e ∈ es',e.length=sz /\ ∀ c ∈ e,aw c=true)
  (hch : Ch (fun k=>k=(ρ (.r b)).blk) w w') (hcell : w'.heap[(ρ (.r b)).blk]? = some (.cells us.toArray T (0,0))) (hus : us.length=(ρ (.r b)).len)
  (hrep : ∀ i r off d,es'[i]? = some r -> r[off]? = some d -> ∃ u,us[(ρ (.r b)).base + i * sz + off]? = some u /\ af F M d u) :
  ∃ ρ' ω',Own F L (fun k=>S k \/ w0.heap.size <= k) (eff [(b,.blk sz es')] [] f) M a w' ρ' ω' /\ ρ'=ρ /\ SR F nt S L w0 M0 (eff [(b,.blk sz es')] [] f) M a w':=by
 have hb:=ho.big hf
 obtain ⟨g0,vs,T0,h1,h2,h3,h4,h5⟩:=id hrows
 have hnew:=ho.new _ _ hω
 have hfb : eff [(b,.blk sz es')] [] f b=.blk sz es':=aJ (by simp)
 have lk : ∀ s,s ≠ b -> [(b,D.blk sz es')].lookup s=none:=fun s h1=>by
  have e1 : (s == b)=false:=by simpa using h1
  simp only [List.lookup_cons,e1,List.lookup_nil]
 have hMb : ∀ p : Addr,p.block=(ρ (.r b)).blk -> M p=none:=fun p hp=>ho.apart p (.r b) (by rw [hp];exact hω)
 have hinj : ∀ p p' q : Pa,(fun p : Pa=>if p=.r b then some (Pa.r b) else none) p=some q -> (fun p : Pa=>if p=.r b then some (Pa.r b) else none) p'=some q -> p=p':=fun p p' q e1 e2=>by
  dsimp only at e1 e2
  split at e1
  ·split at e2
   ·simp_all
   ·cases e2
  ·cases e1
 have hm : mvρ b ρ ρ=ρ:=by funext p;unfold mvρ;split <;> rfl
 have key : Own F L (fun k=>S k \/ w0.heap.size <= k) (eff [(b,.blk sz es')] [] f) M a w' (mvρ b ρ ρ) (mvω b none (fun p=>if p=.r b then some (.r b) else none) ω):=ho.move (b:=b) (nb:=none) (π:=fun p=>if p=.r b then some (.r b) else none) (ρb:=ρ) (ks:=[]) hinj (fun p q hq=>?_) (fun k e=>(by cases e)) hch.size (fun p hp hne=>absurd rfl hne) (Mem.le_refl _) ho.apart (fun s hs=>?_) (fun k q hk hqb _=>hch.block k (ho.lt _ _ hk) (by rintro rfl;rw [hω] at hk;cases hk;exact hqb rfl)) (fun c hc hcb=>?_) (fun _ _=>.inl ⟨sz,_,hfb,?_⟩) (fun l' e _=>⟨rfl,by rw [hf];rfl⟩)
 rotate_left
 ·split at hq
  ·cases hq;exact .inl rfl
  ·cases hq
 ·left
  rcases bv (f:=f) (ks:=[]) (lk s (by omega)) with h2 | h2
  ·exact .inl h2
  ·exact .inr ⟨h2.1,rfl,h2.2⟩
 ·exact bI (lk c hcb)
 ·have hnn : ∀ k : Nat,(none : Option Nat) ≠ some k:=fun k e=>by cases e
  have hρb : mvρ b ρ ρ (.r b)=ρ (.r b):=by simp [mvρ,Pa.root]
  have hωb : mvω b none (fun p=>if p=.r b then some (.r b) else none) ω (ρ (.r b)).blk=some (.r b):=d5 (hnn _) hω (by simp) hinj
  refine .inr ⟨by rw [hρb];exact hωb,?_⟩
  rw [hρb]
  have h6 : es'.length * sz <= es.length * sz:=Nat.mul_le_mul_right _ hl
  refine ⟨g0,_,T,hcell,hus,by omega,fun e he=>(hu e he).1,fun i r off d hi hr=>?_⟩
  ·obtain ⟨u,k1,k2⟩:=hrep i r off d hi hr
   exact ⟨u,k1,by show bP _ _ _ _ _ _ _ _ d u;rw [aV (cc ((hu r (List.mem_of_getElem? hi)).2 d (List.mem_of_getElem? hr)))];exact k2⟩
 rw [hm] at key
 refine ⟨_,_,key,rfl,{ hnt:=h.hnt,size:=h.size,defers:=h.defers,ch:=h.ch.trans hch (fun k hk e=>by rcases hnew with h7 | h7;rw [e];exact h7;omega),holds:=fun p v hp=>?_,ext:=h.ext,fresh:=h.fresh,own:=⟨_,_,key⟩ }⟩
 have hne : p.block ≠ (ρ (.r b)).blk:=fun e=>by rw [hMb p e] at hp;cases hp
 have h8:=h.holds p v hp
 rw [World.cell?_of_block (hch.block _ (World.block_lt_of_cell? w p h8) hne)]
 exact h8
theorem SR.putW (h : SR F nt S L w0 M0 f M a w) (ho : Own F L (fun k=>S k \/ w0.heap.size <= k) f M a w ρ ω) {t : Nat} (ht : t < nt) {d : D} {v : Value} (r : bg F M ρ d v) : SR F nt S L w0 M0 (eff [(t,d)] [] f) M (a.put (some t) v) w where
 hnt:=h.hnt
 size:=by simp [Act.put,h.size]
 defers:=by simp [Act.put,h.defers]
 ch:=h.ch
 holds:=h.holds
 ext:=h.ext
 fresh:=h.fresh
 own:=⟨ρ,ω,ho.put (by rw [h.size];exact ht) (by have:=h.hnt;omega) r⟩
end
end Go.Gv

namespace Go.Gv
open Go.RowKit
section
variable {F : Fid} {M : Mem} {ρ : Pa -> Loc} {ω : Nat -> Option Pa} {w w' : World} {f : Nat -> D} {a : Act} {L : Nat -> Option Loc} {nt : Nat} {S : Nat -> Prop} {w0 : World} {M0 : Mem}
theorem xr (a : Act) (t : Nat) (v : Value) : (a.put (some t) v).put (some t) v=a.put (some t) v:=by
 simp [Act.put]
theorem FY {t b c : Nat} {d x : D} {g : Nat -> D} (hg : ∀ s,s ≠ t -> s ≠ b -> s ≠ c -> g s=f s) : eff [(t,d),(b,x),(c,.any)] [(b,true)] g=eff [(t,d),(b,x),(c,.any)] [(b,true)] f:=by
 funext s
 unfold eff
 by_cases e1 : s=t
 ·subst e1;simp
 ·by_cases e2 : s=b
  ·subst e2
   have : (s == t)=false:=by simpa using e1
   simp [List.lookup_cons,this]
  ·by_cases e3 : s=c
   ·subst e3
    have h1 : (s == t)=false:=by simpa using e1
    have h2 : (s == b)=false:=by simpa using e2
    simp [List.lookup_cons,h1,h2]
   ·have h1 : (s == t)=false:=by simpa using e1
    have h2 : (s == b)=false:=by simpa using e2
    have h3 : (s == c)=false:=by simpa using e3
    simp only [List.lookup_cons,h1,h2,h3,List.lookup_nil]
    rw [hg s e1 e2 e3]
theorem SR.eatSame (h : SR F nt S L w0 M0 f M a w) (ho : Own F L (fun k=>S k \/ w0.heap.size <= k) f M a w ρ ω) {b sz : Nat} {es es' : List (List D)} {us : List Value} {T : TypeId} (hf : f b=.blk sz es) (hω : ω (ρ (.r b)).blk=some (.r b)) (hrows : eO w (ρ (.r b)) sz es (fun i off d v=>bP F M ω ρ w b i off d v)) (hl : es'.length <= es.length) (hu : ∀ e ∈ es',e.length=sz /\ ∀ c ∈ e,aw c=true)
  (hch : Ch (fun k=>k=(ρ (.r b)).blk) w w') (hcell : w'.heap[(ρ (.r b)).blk]? = some (.cells us.toArray T (0,0))) (hus : us.length=(ρ (.r b)).len)
  (hrep : ∀ i r off d,es'[i]? = some r -> r[off]? = some d -> ∃ u,us[(ρ (.r b)).base + i * sz + off]? = some u /\ af F M d u)
  {t b' : Nat} (ht : t < nt) (hb0 : 10000 <= b') (hL : L b'=none) (hbc : b' ≠ b) {v : Value} (hv : av F M ρ (.ref (.r b) 0 es'.length) v) :
  SR F nt S L w0 M0 (eff [(t,.ref (.r b') 0 es'.length),(b',.blk sz es'),(b,.any)] [(b',true)] f) M (a.put (some t) v) w':=by
 obtain ⟨ρ',ω',hO',rfl,hs⟩:=h.fill ho hf hω hrows hl hu hch hcell hus hrep
 have h1:=hs.putW hO' ht (d:=.ref (.r b) 0 es'.length) (v:=v) (by rw [am rfl];exact hv)
 have hb:=ho.big hf
 have ht10 : t < 10000:=by have:=h.hnt;omega
 have hbt : b ≠ t:=by omega
 have e1 : (b == t)=false:=by simpa using hbt
 have hf1 : eff [(t,D.ref (.r b) 0 es'.length)] [] (eff [(b,.blk sz es')] [] f) b=.blk sz es':=by
  simp [eff,List.lookup_cons,e1,aC]
 have h2:=h1.asg ht hb0 hL hbc hf1 (k:=0) (n:=es'.length) (v:=v) (fun ρ2 ω2 hO2=>by
  have h3:=hO2.slots t ht10
  have e2 : eff [(t,D.ref (.r b) 0 es'.length)] [] (eff [(b,.blk sz es')] [] f) t=.ref (.r b) 0 es'.length:=aJ (by simp)
  rcases h3 with h3 | ⟨v2,h3,h4⟩
  ·rw [e2] at h3;cases h3
  ·rw [getElem?_put_same (by rw [h.size];exact ht)] at h3
   cases h3
   rw [e2,am rfl] at h4
   exact h4)
 rw [xr] at h2
 rwa [FY (f:=f) (fun s s1 s2 s3=>by
  have e3 : (s == t)=false:=by simpa using s1
  have e4 : (s == b)=false:=by simpa using s3
  simp [eff,List.lookup_cons,e3,e4,aC])] at h2
def dV (F : Fid) (M : Mem) (w w' : World) (sz : Nat) (es : List (List D)) (v : Value) : Prop :=
 ∃ (B o : Nat) (T : TypeId) (us : List Value) (cap : Nat),v=.slice (some ⟨B,o,none⟩) es.length cap /\ w.heap.size <= B /\ w'.heap[B]? = some (.cells us.toArray T (0,0)) /\ es.length <= cap /\ (o + cap * sz <= us.length /\ cap <= 9223372036854775807) /\
  ∀ i r off d,es[i]? = some r -> r[off]? = some d -> ∃ u,us[o + i * sz + off]? = some u /\ af F M d u
theorem SR.newRow (h : SR F nt S L w0 M0 f M a w) {b sz : Nat} {es' : List (List D)} {v : Value} (hu : ∀ e ∈ es',e.length=sz /\ ∀ c ∈ e,aw c=true) (hb : Bel w w') (hn : dV F M w w' sz es' v) {t b' : Nat} (ht : t < nt) (hb0 : 10000 <= b') (hL : L b'=none) (hbc : b' ≠ b) (hb1 : 10000 <= b) :
  SR F nt S L w0 M0 (eff [(t,.ref (.r b') 0 es'.length),(b',.blk sz es'),(b,.any)] [(b',true)] f) M (a.put (some t) v) w':=by
 obtain ⟨B,o,T,us,cap,rfl,hB,hh,hcap,⟨hlen,hmc⟩,hrep⟩:=hn
 have hle : o + es'.length * sz <= us.length:=by
  have:=Nat.mul_le_mul_right sz hcap
  omega
 have h1:=h.makeAt (t:=t) (b:=b') (B:=B) (o:=o) (bs:=[]) (es:=es') (sz:=sz) (src:=fun _ _=>none) (vs:=us) (T:=T) (d:=.ref (.r b') 0 es'.length) (v:=.slice (some ⟨B,o,none⟩) es'.length cap) ht hb0 hL hb hB hh hle (fun e he=>(hu e he).1)
  (fun i r off c hi hr=>by
   obtain ⟨u,k1,k2⟩:=hrep i r off c hi hr
   exact ⟨u,k1,.inl ⟨cc ((hu r (List.mem_of_getElem? hi)).2 c (List.mem_of_getElem? hr)),k2⟩⟩) (fun _ _ _ _ _ e=>(by cases e)) (fun _ _ _ e=>(by cases e))
  (fun ρ M e=>by
   rw [am rfl]
   simp only [av,e]
   exact .inr ⟨cap,by simp,hcap,by simpa using hlen,hmc⟩)
 have ht10 : t < 10000:=by have:=h.hnt;omega
 refine h1.weak (fun s=>?_)
 by_cases e3 : s=b
 ·left
  subst e3
  have q1 : (s == t)=false:=by simp;omega
  have q2 : (s == b')=false:=by simpa using Ne.symm hbc
  simp [eff,List.lookup_cons,q1,q2]
 ·right
  have q3 : (s == b)=false:=by simpa using e3
  unfold eff
  simp only [cz,List.map_nil,List.lookup_cons,q3,List.lookup_nil]
theorem SR.eatNew (h : SR F nt S L w0 M0 f M a w) (ho : Own F L (fun k=>S k \/ w0.heap.size <= k) f M a w ρ ω) {b sz : Nat} {es es' : List (List D)} {us : List Value} {T : TypeId} (hf : f b=.blk sz es) (hω : ω (ρ (.r b)).blk=some (.r b)) (hrows : eO w (ρ (.r b)) sz es (fun i off d v=>bP F M ω ρ w b i off d v)) (hu : ∀ e ∈ es',e.length=sz /\ ∀ c ∈ e,aw c=true)
  (hch : Ch (fun k=>k=(ρ (.r b)).blk) w w') (hcell : w'.heap[(ρ (.r b)).blk]? = some (.cells us.toArray T (0,0))) (hus : us.length=(ρ (.r b)).len)
  {v : Value} (hn : dV F M w w' sz es' v) {t b' : Nat} (ht : t < nt) (hb0 : 10000 <= b') (hL : L b'=none) (hbc : b' ≠ b) :
  SR F nt S L w0 M0 (eff [(t,.ref (.r b') 0 es'.length),(b',.blk sz es'),(b,.any)] [(b',true)] f) M (a.put (some t) v) w':=by
 have hlt:=ho.lt _ _ hω
 obtain ⟨B0,hB0⟩ : ∃ B0,B0=(ρ (.r b)).blk:=⟨_,rfl⟩
 rw [<- hB0] at hch hcell hlt
 obtain ⟨w2,hw2⟩ : ∃ w2 : World,w2={ w with heap:=w.heap.setIfInBounds B0 (.cells us.toArray T (0,0)) }:=⟨_,rfl⟩
 have g1 : ∀ k,k ≠ B0 -> w2.heap[k]? = w.heap[k]?:=fun k hk=>by
  rw [hw2];simp only [Array.getElem?_setIfInBounds];rw [if_neg (Ne.symm hk)]
 have g2 : w2.heap[B0]? = some (.cells us.toArray T (0,0)):=by
  rw [hw2];simp only [Array.getElem?_setIfInBounds];simp [hlt]
 have g3 : w2.heap.size=w.heap.size:=by rw [hw2];simp
 have c2 : Ch (fun k=>k=B0) w w2:=⟨by rw [hw2],by rw [hw2],by rw [hw2],Nat.le_of_eq g3.symm,fun k _ hk=>g1 k hk,by rw [hw2];exact Nat.le_refl _⟩
 have hb2 : Bel w2 w':=⟨by rw [hch.os,hw2],by rw [hch.tape,hw2],by rw [hch.output,hw2],by rw [g3];exact hch.size,fun k hk=>by
  by_cases e : k=B0
  ·subst e;rw [g2,hcell]
  ·rw [g1 k e];exact hch.block k (by rw [<- g3];exact hk) e,by have:=hch.drawn;rw [hw2];exact this⟩
 rw [hB0] at c2 g2
 obtain ⟨ρ',ω',hO',rfl,hs⟩:=h.fill ho hf hω hrows (es':=[]) (by simp) (fun e he=>by cases he) c2 g2 hus (fun i r off d hi=>by simp at hi)
 have hn2 : dV F M w2 w' sz es' v:=by
  obtain ⟨B,o,T,us,cap,q1,q2,q3⟩:=hn
  exact ⟨B,o,T,us,cap,q1,by rw [g3];exact q2,q3⟩
 have h1:=hs.newRow (b:=b) hu hb2 hn2 ht hb0 hL hbc (ho.big hf)
 rwa [FY (f:=f) (fun s s1 s2 s3=>by
  have e4 : (s == b)=false:=by simpa using s3
  simp [eff,List.lookup_cons,e4,aC])] at h1
end
end Go.Gv

namespace Go.Gv
open Go.RowKit
def s8 (P : Program) (F : Fid) (f : FuncId) (ds : List D) (d : D) : Prop :=
 ∀ (M : Mem) (w : World) (vs : List Value),(∀ p v,M p=some v -> w.cell? p=some v) -> ap F M ds vs ->
  Calls P f vs.toArray w (fun e w'=>∃ v M',e=.returned v /\ Bel w w' /\ M.le M' /\ (∀ p,M p=none -> M' p ≠ none -> w.heap.size <= p.block) /\
   (∀ p v,M' p=some v -> w'.cell? p=some v) /\ af F M' d v)
def ta (P : Program) (F : Fid) (f : FuncId) (ds : List D) (d : D) : Prop :=
 ∀ (M : Mem) (w : World) (vs : List Value),(∀ p v,M p=some v -> w.cell? p=some v) -> ap F M ds vs ->
  Calls P f vs.toArray w (fun e w'=>∃ v M2,e=.returned v /\ Bel w w' /\ (∀ p,M2 p ≠ none -> w.heap.size <= p.block) /\
   (∀ p v,M2 p=some v -> w'.cell? p=some v) /\ af F M2 d v)
def s9 (P : Program) (F : Fid) (f : FuncId) (ds : List D) (sz : Nat) (es : List (List D)) : Prop :=
 ∀ (M : Mem) (w : World) (vs : List Value),(∀ p v,M p=some v -> w.cell? p=some v) -> ap F M ds vs ->
  Calls P f vs.toArray w (fun e w'=>(es=[] /\ 0 < sz /\ ∃ A : Option Addr,e=.returned (.slice A 0 0) /\ Bel w w') \/ ∃ (b o : Nat) (T : TypeId) (us : List Value) (cap : Nat),e=.returned (.slice (some ⟨b,o,none⟩) es.length cap) /\ Bel w w' /\ w.heap.size <= b /\
   w'.heap[b]? = some (.cells us.toArray T (0,0)) /\ es.length <= cap /\ (o + cap * sz <= us.length /\ cap <= 9223372036854775807) /\ (∀ e ∈ es,e.length=sz) /\
   ∀ i r off d,es[i]? = some r -> r[off]? = some d -> bk d=true /\ ∃ u,us[o + i * sz + off]? = some u /\ af F M d u)
def te (P : Program) (F : Fid) (f : FuncId) (sz : Nat) (es : List (List D)) (ds : List D) (es' : List (List D)) : Prop :=
 ∀ (M : Mem) (w : World) (vs : List Value),(∀ p v,M p=some v -> w.cell? p=some v) -> ap F M ds vs ->
  (es=[] -> ∀ (A : Option Addr),Calls P f (.slice A 0 0::vs).toArray w (fun e w'=>e=.returned (.tuple #[]) /\ Bel w w')) /\
  ∀ (b o : Nat) (T : TypeId) (us : List Value) (cap : Nat),(∀ p : Addr,p.block=b -> M p=none) -> b < w.heap.size -> w.heap[b]? = some (.cells us.toArray T (0,0)) -> es.length <= cap -> o + cap * sz <= us.length -> (∀ e ∈ es,e.length=sz) ->
   (∀ i r off d,es[i]? = some r -> r[off]? = some d -> ∃ u,us[o + i * sz + off]? = some u /\ af F M d u) ->
   Calls P f (.slice (some ⟨b,o,none⟩) es.length cap::vs).toArray w (fun e w'=>e=.returned (.tuple #[]) /\ ∃ us' : List Value,w'.heap[b]? = some (.cells us'.toArray T (0,0)) /\ us'.length=us.length /\
    (∀ i r off d,es'[i]? = some r -> r[off]? = some d -> ∃ u,us'[o + i * sz + off]? = some u /\ af F M d u) /\ Ch (fun k=>k=b) w w')
def yh (P : Program) (F : Fid) (f : FuncId) (sz : Nat) (es : List (List D)) (ds : List D) (es' : List (List D)) : Prop :=
 ∀ (M : Mem) (w : World) (vs : List Value),(∀ p v,M p=some v -> w.cell? p=some v) -> ap F M ds vs ->
  (es=[] -> ∀ (A : Option Addr),Calls P f (.slice A 0 0::vs).toArray w (fun e w'=>∃ v,e=.returned v /\ Bel w w' /\ ((es'=[] /\ ∃ A,v=.slice A 0 0) \/ dV F M w w' sz es' v))) /\
  ∀ (b o : Nat) (T : TypeId) (us : List Value) (cap : Nat),(∀ p : Addr,p.block=b -> M p=none) -> b < w.heap.size -> w.heap[b]? = some (.cells us.toArray T (0,0)) -> es.length <= cap -> o + cap * sz <= us.length -> (∀ e ∈ es,e.length=sz) ->
   (∀ i r off d,es[i]? = some r -> r[off]? = some d -> ∃ u,us[o + i * sz + off]? = some u /\ af F M d u) ->
   Calls P f (.slice (some ⟨b,o,none⟩) es.length cap::vs).toArray w (fun e w'=>∃ v,e=.returned v /\ ∃ us' : List Value,w'.heap[b]? = some (.cells us'.toArray T (0,0)) /\ us'.length=us.length /\ Ch (fun k=>k=b) w w' /\
    ((v=.slice (some ⟨b,o,none⟩) es'.length cap /\ es'.length <= es.length /\ ∀ i r off d,es'[i]? = some r -> r[off]? = some d -> ∃ u,us'[o + i * sz + off]? = some u /\ af F M d u) \/ dV F M w w' sz es' v))
def EJ (F : Fid) (M : Mem) (w : World) (b : Option Nat) : D -> Value -> Prop
 | .own sz es,v=>(es=[] /\ ∃ A,v=.slice A 0 0) \/ ∃ (B o : Nat) (T : TypeId) (us : List Value) (cap : Nat),v=.slice (some ⟨B,o,none⟩) es.length cap /\ b ≠ some B /\ w.heap[B]? = some (.cells us.toArray T (0,0)) /\ es.length <= cap /\ o + cap * sz <= us.length /\
   ∀ i r off d,es[i]? = some r -> r[off]? = some d -> ∃ u,us[o + i * sz + off]? = some u /\ af F M d u
 | d,v=>af F M d v
def mF (F : Fid) (M : Mem) (w : World) (b : Option Nat) (ds : List D) (vs : List Value) : Prop :=
 ds.length=vs.length /\ ∀ (i : Nat) (d : D) (v : Value),ds[i]? = some d -> vs[i]? = some v -> EJ F M w b d v
def EK (F : Fid) (M : Mem) (w w' : World) (sz : Nat) (es' : List (List D)) (b : Nat) (v : Value) : Prop :=
 (es'=[] /\ ∃ A,v=.slice A 0 0) \/ (∃ (o2 cap2 : Nat) (T2 : TypeId) (us2 : List Value),v=.slice (some ⟨b,o2,none⟩) es'.length cap2 /\ w'.heap[b]? = some (.cells us2.toArray T2 (0,0)) /\ es'.length <= cap2 /\ cap2 <= 9223372036854775807 /\ o2 + cap2 * sz <= us2.length /\
  ∀ i r off d,es'[i]? = some r -> r[off]? = some d -> ∃ u,us2[o2 + i * sz + off]? = some u /\ af F M d u) \/ dV F M w w' sz es' v
def qK (P : Program) (F : Fid) (f : FuncId) (sz : Nat) (es : List (List D)) (ds : List D) (es' : List (List D)) : Prop :=
 ∀ (M : Mem) (w : World) (vs : List Value),(∀ p v,M p=some v -> w.cell? p=some v) ->
  (es=[] -> ∀ (A : Option Addr),mF F M w none ds vs -> Calls P f (.slice A 0 0::vs).toArray w (fun e w'=>∃ v,e=.returned v /\ Bel w w' /\ ((es'=[] /\ ∃ A,v=.slice A 0 0) \/ dV F M w w' sz es' v))) /\
  ∀ (b o : Nat) (T : TypeId) (us : List Value) (cap : Nat),mF F M w (some b) ds vs -> (∀ p : Addr,p.block=b -> M p=none) -> b < w.heap.size -> w.heap[b]? = some (.cells us.toArray T (0,0)) -> es.length <= cap -> cap <= 9223372036854775807 -> o + cap * sz <= us.length -> (∀ e ∈ es,e.length=sz) ->
   (∀ i r off d,es[i]? = some r -> r[off]? = some d -> ∃ u,us[o + i * sz + off]? = some u /\ af F M d u) ->
   Calls P f (.slice (some ⟨b,o,none⟩) es.length cap::vs).toArray w (fun e w'=>∃ v,e=.returned v /\ Ch (fun k=>k=b) w w' /\ EK F M w w' sz es' b v)
def tb (P : Program) (F : Fid) (f : FuncId) (sz : Nat) (es : List (List D)) (ds : List D) (es' : List (List D)) : Prop :=
 ∀ (M : Mem) (w : World) (vs : List Value),(∀ p v,M p=some v -> w.cell? p=some v) ->
  (es=[] -> ∀ (A : Option Addr),mF F M w none ds vs -> Calls P f (.slice A 0 0::vs).toArray w (fun e w'=>∃ v,e=.returned v /\ Bel w w' /\ ((es'=[] /\ ∃ A,v=.slice A 0 0) \/ dV F M w w' sz es' v))) /\
  ∀ (b o : Nat) (T : TypeId) (us : List Value) (cap : Nat),mF F M w (some b) ds vs -> (∀ p : Addr,p.block=b -> M p=none) -> b < w.heap.size -> w.heap[b]? = some (.cells us.toArray T (0,0)) -> es.length <= cap -> cap <= 9223372036854775807 -> o + cap * sz <= us.length -> (∀ e ∈ es,e.length=sz) ->
   (∀ i r off d,es[i]? = some r -> r[off]? = some d -> ∃ u,us[o + i * sz + off]? = some u /\ af F M d u) ->
   Calls P f (.slice (some ⟨b,o,none⟩) es.length cap::vs).toArray w (fun e w'=>∃ v,e=.returned v /\ ∃ us' : List Value,w'.heap[b]? = some (.cells us'.toArray T (0,0)) /\ us'.length=us.length /\ Ch (fun k=>k=b) w w' /\
    ((v=.slice (some ⟨b,o,none⟩) es'.length cap /\ es'.length <= cap /\ ∀ i r off d,es'[i]? = some r -> r[off]? = some d -> ∃ u,us'[o + i * sz + off]? = some u /\ af F M d u) \/ dV F M w w' sz es' v))
theorem tb.to {P : Program} {F : Fid} {f : FuncId} {sz : Nat} {es : List (List D)} {ds : List D} {es' : List (List D)} (h : tb P F f sz es ds es') : qK P F f sz es ds es':=by
 intro M w vs hh
 refine ⟨(h M w vs hh).1,fun b o T us cap r hM hb hcell hcap hmc hle hu hc=>((h M w vs hh).2 b o T us cap r hM hb hcell hcap hmc hle hu hc).mono ?_⟩
 rintro e w' ⟨v,rfl,us',h1,h2,h3,⟨rfl,h4,h5⟩ | h4⟩
 ·exact ⟨_,rfl,h3,.inr (.inl ⟨o,cap,T,us',rfl,h1,h4,hmc,by rw [h2];exact hle,h5⟩)⟩
 ·exact ⟨_,rfl,h3,.inr (.inr h4)⟩
structure sZ (F : Fid) (M : Mem) (w : World) (ρ : Pa -> Loc) (ω : Nat -> Option Pa) (b sz : Nat) (es : List (List D)) : Prop where
 own : ω (ρ (.r b)).blk=some (.r b)
 rows : dw F M ω ρ w b sz es
 lt : ∀ k p,ω k=some p -> k < w.heap.size
 root : ∀ k p,ω k=some p -> p.root=b
 apart : ∀ (p : Addr) (q : Pa),ω p.block=some q -> M p=none
def aB : Nat:=10015
def tc (P : Program) (F : Fid) (f : FuncId) (sz : Nat) (es : List (List D)) (ds : List D) (d : D) (es' : List (List D)) : Prop :=
 ∀ (M : Mem) (w : World) (vs : List Value) (ρ : Pa -> Loc) (ω : Nat -> Option Pa),(∀ p v,M p=some v -> w.cell? p=some v) -> ap F M ds vs -> sZ F M w ρ ω aB sz es ->
  Calls P f (.pointer (some ⟨(ρ (.r aB)).blk,(ρ (.r aB)).base,none⟩)::vs).toArray w (fun e w'=>∃ v M' ρ' ω',e=.returned v /\ Ch (fun k=>∃ p,ω k=some p) w w' /\ M.le M' /\ (∀ p,M p=none -> M' p ≠ none -> (∃ q,ω p.block=some q) \/ w.heap.size <= p.block) /\
   (∀ p v,M' p=some v -> w'.cell? p=some v) /\ af F M' d v /\ ρ' (.r aB)=ρ (.r aB) /\ sZ F M' w' ρ' ω' aB sz es' /\ ∀ k p,ω' k=some p -> (∃ q,ω k=some q) \/ w.heap.size <= k)
def qA : D -> List Value -> Value -> Prop
 | .agg _,vs,v=>v=.agg vs.toArray
 | .tup _,vs,v=>v=.tuple vs.toArray
 | _,vs,v=>vs=[v]
def s7 (P : Program) (F : Fid) (f : FuncId) (ds : List D) (R : D) : Prop :=
 ∀ (M : Mem) (w : World) (vs : List Value),(∀ p v,M p=some v -> w.cell? p=some v) -> ap F M ds vs ->
  Calls P f vs.toArray w (fun e w'=>∃ v M' ρ ω us,e=.returned v /\ Bel w w' /\ M.le M' /\ (∀ p,M p=none -> M' p ≠ none -> w.heap.size <= p.block) /\ (∀ p v,M' p=some v -> w'.cell? p=some v) /\
   qA R us v /\ cS F M' ρ (bJ 0 1 (ip R)) us /\ (∀ b sz es,(b,D.blk sz es) ∈ aM 0 R -> dw F M' ω ρ w' b sz es) /\ (∀ k p,ω k=some p -> w.heap.size <= k /\ k < w'.heap.size /\ ∃ x,(p.root,x) ∈ aM 0 R) /\ (∀ (p : Addr) (q : Pa),ω p.block=some q -> M' p=none))
structure bS (P : Program) (F : Fid) (C : Nat -> List D -> D -> List D -> Prop) : Prop where
 runs : ∀ g f ds d,F g=some f -> C g ds d [] -> s8 P F f ds d
 runsF : ∀ g f ds sz es,F g=some f -> C g ds .any [.own sz es] -> s9 P F f ds sz es
 runsS : ∀ g f sz es ds es',F g=some f -> C g (.own sz es::ds) .any [.own sz es',.nilp] -> te P F f sz es ds es'
 runsR : ∀ g f sz es ds es',F g=some f -> C g (.own sz es::ds) .any [.own sz es',.nils] -> yh P F f sz es ds es'
 runsI : ∀ g f sz es ds es',F g=some f -> C g (.own sz es::ds) .any [.own sz es',.nils,.nils] -> qK P F f sz es ds es'
 runsG : ∀ g f ds d,F g=some f -> C g ds d [.nilp] -> ta P F f ds d
 runsA : ∀ g f ds R,F g=some f -> C g ds R [.nils] -> s7 P F f ds R
 runsL : ∀ g f sz es ds d es',F g=some f -> C g (.blk sz es::ds) d [.blk sz es'] -> tc P F f sz es ds d es'
 body : ∀ g f,F g=some f -> lV P f=true
 laid : laidOutB F.P=true
 prog : P=F.P
def a8 (ω : Nat -> Option Pa) (M : Mem) (w : World) : Mem:=fun p=>match ω p.block with
 | some _=>w.cell? p
 | none=>M p
section
variable {P : Program} {F : Fid} {C : Nat -> List D -> D -> List D -> Prop} {nt : Nat} {S : Nat -> Prop} {L : Nat -> Option Loc} {w0 : World} {M0 : Mem} {f : Nat -> D} {M : Mem} {a : Act} {w : World} {o : Oper} {d : D} {Q : Exit -> Act -> World -> Prop} {ρ : Pa -> Loc} {ω : Nat -> Option Pa} {New : Nat -> Prop} {K : List (Nat × D) -> List (Nat × Bool) -> Prop}
theorem ca (ho : Own F L New f M a w ρ ω) : M.le (a8 ω M w):=by
 intro p v hp
 unfold a8
 split
 ·rename_i q hq
  rw [ho.apart p q hq] at hp;cases hp
 ·exact hp
theorem bN (hh : ∀ p v,M p=some v -> w.cell? p=some v) : ∀ p v,a8 ω M w p=some v -> w.cell? p=some v:=by
 intro p v hp
 unfold a8 at hp
 split at hp
 ·exact hp
 ·exact hh p v hp
theorem kJ {q : Pa} {b o : Nat} {vs : List Value} {T : TypeId} (hb : ω b=some q) (hw : w.heap[b]? = some (.cells vs.toArray T (0,0))) : cu (a8 ω M w) ⟨b,o,none⟩ (vs.drop o):=by
 intro j v hj
 rw [cB]
 unfold a8
 simp only [hb]
 rw [List.getElem?_drop] at hj
 simp [World.cell?,hw,hj]
theorem aZ.of_rows {sz : Nat} : ∀ {es : List (List D)} {vs : List Value},(∀ e ∈ es,e.length=sz) -> vs.length=es.length * sz -> (∀ (i : Nat) (r : List D) (off : Nat) (d : D),es[i]? = some r -> r[off]? = some d -> ∃ u,vs[i * sz + off]? = some u /\ af F M d u) -> aZ F M es vs
 | [],vs,_,hl,_=>by simp only [aZ];exact List.eq_nil_of_length_eq_zero (by simpa using hl)
 | e::es,vs,hu,hl,h=>by
  have he:=hu e (by simp)
  simp only [List.length_cons,Nat.succ_mul] at hl
  simp only [aZ]
  refine ⟨vs.take sz,vs.drop sz,(List.take_append_drop _ _).symm,ap.of_forall' (by simp;omega) (fun i d v h1 h2=>?_),aZ.of_rows (fun x hx=>hu x (by simp [hx])) (by simp;omega) (fun i r off d h1 h2=>?_)⟩
  ·obtain ⟨u,k1,k2⟩:=h 0 e i d rfl h1
   rw [List.getElem?_take] at h2
   split at h2
   ·simp at k1;rw [h2] at k1;cases k1;exact k2
   ·cases h2
  ·obtain ⟨u,k1,k2⟩:=h (i + 1) r off d (by simpa using h1) h2
   refine ⟨u,?_,k2⟩
   rw [List.getElem?_drop,<- k1]
   congr 1
   rw [Nat.succ_mul];omega
theorem nd {p : Pa} {sz : Nat} {es : List (List D)} {R : Nat -> Nat -> D -> Value -> Prop} (h : bY ω ρ w p sz es R) (g : D -> D) (hg : ∀ i r off d v,es[i]? = some r -> r[off]? = some d -> R i off d v -> af F (a8 ω M w) (g d) v) {k n : Nat} (hkn : k + n <= es.length) {v : Value} (hv : av F M ρ (.ref p k n) v) :
  af F (a8 ω M w) (.sl (((es.drop k).take n).map fun e=>e.map g)) v:=by
 have hlen : (((es.drop k).take n).map fun e=>e.map g).length=n:=by simp;omega
 simp only [af,hlen]
 have nil : ∀ A,n=0 -> v=.slice A 0 0 -> ∃ (A : Option Addr) (cap : Nat) (vs : List Value) (sz : Nat),v=.slice A n cap /\ n <= cap /\ aZ F (a8 ω M w) (((es.drop k).take n).map fun e=>e.map g) vs /\
   (∀ e ∈ ((es.drop k).take n).map fun e=>e.map g,e.length=sz) /\ (0 < n -> ∃ a,A=some a /\ cu (a8 ω M w) a vs):=by
  rintro A rfl rfl
  exact ⟨A,0,[],0,rfl,Nat.le_refl _,by simp [aZ],by simp,fun h=>absurd h (by omega)⟩
 simp only [av] at hv
 rcases hv with ⟨hn,A,hv⟩ | ⟨cap,hv,hcap,hfit,hmc⟩
 ·exact nil A hn hv
 ·rcases h with ⟨he,_⟩ | ⟨hω,h0,vs,T,h1,h2,h3,h4,h5⟩
  ·have : n=0:=by rw [he] at hkn;simp at hkn;omega
   subst this
   exact ⟨_,cap,[],0,hv,hcap,by simp [aZ],by simp,fun h=>absurd h (by omega)⟩
  ·rw [h0] at hfit hv
   have e1 : (k + cap) * sz=k * sz + cap * sz:=Nat.add_mul _ _ _
   have e2 : n * sz <= cap * sz:=Nat.mul_le_mul_right _ hcap
   refine ⟨_,cap,(vs.drop ((ρ p).base + k * sz)).take (n * sz),sz,hv,hcap,aZ.of_rows (sz:=sz) (fun e he=>?_) (by rw [hlen];simp;omega) (fun i r off d hi hr=>?_),fun e he=>?_,fun _=>⟨_,rfl,(kJ hω h1).take _⟩⟩
   ·obtain ⟨e',he',rfl⟩:=List.mem_map.1 he
    simpa using h4 e' (List.mem_of_mem_drop (List.mem_of_mem_take he'))
   ·rw [List.getElem?_map,Option.map_eq_some_iff] at hi
    obtain ⟨r',hi,rfl⟩:=hi
    rw [List.getElem?_map,Option.map_eq_some_iff] at hr
    obtain ⟨d',hr,rfl⟩:=hr
    have hin : i < n:=by have:=(List.getElem?_eq_some_iff.1 hi).1;simp at this;omega
    rw [List.getElem?_take_of_lt hin,List.getElem?_drop] at hi
    obtain ⟨u,k1,k2⟩:=h5 (k + i) r' off d' hi hr
    have hof : off < sz:=by rw [<- h4 r' (List.mem_of_getElem? hi)];exact (List.getElem?_eq_some_iff.1 hr).1
    refine ⟨u,?_,hg _ _ _ _ _ hi hr k2⟩
    rw [getElem?_slice (eK hin hof),<- k1,Nat.add_mul]
    congr 1
    omega
   ·obtain ⟨e',he',rfl⟩:=List.mem_map.1 he
    simpa using h4 e' (List.mem_of_mem_drop (List.mem_of_mem_take he'))
theorem pO (h : isO d=false) : aR d=d:=by cases d <;> first | rfl | (simp [isO] at h)
theorem j4 (ho : Own F L New f M a w ρ ω) {p : Pa} {i off : Nat} {v : Value} (h : lB F M ω ρ w p i off d v) : af F (a8 ω M w) (aR d) v:=by
 cases p with
 | r b =>
  cases d
  case own sz es =>
   obtain ⟨h1,h2⟩:=h
   have:=nd (F:=F) (M:=M) h2 (fun d=>d) (fun _ _ _ d v _ _ hr=>af.mono (ca ho) d v hr) (k:=0) (n:=es.length) (by omega) h1
   simpa [aR] using this
  all_goals exact af.mono (ca ho) _ _ h
 | n b i' o' =>
  have h' : af F M d v:=h
  rw [pO (by cases d <;> first | rfl | (simp [af] at h'))]
  exact af.mono (ca ho) _ _ h'
theorem wv (ho : Own F L New f M a w ρ ω) {v : Value} (h : av F M ρ d v) (hk : aN f d) (hp : ∀ p,(∃ k n,d=.ref p k n) \/ (∃ i off,d=.adr p i off) -> 10000 <= p.root) : af F (a8 ω M w) (dp1 f d) v:=by
 cases d
 case ref p k n =>
  simp only [aN] at hk
  split at hk
  ·rename_i sz es hg
   simp only [dp1,hg]
   exact nd (ho.get (hp p (.inl ⟨k,n,rfl⟩)) hg).1 aR (fun i r off d v _ _ hr=>j4 ho hr) hk h
  ·exact hk.elim
 case adr p i off =>
  simp only [aN] at hk
  split at hk
  ·rename_i x hg
   obtain ⟨sz,es⟩:=x
   simp only [dp1,hg]
   simp only [av] at h
   simp only [af]
   cases hi : es[i]? with
   | none=>exact ⟨_,[],h,by simp [ap],by intro j v hj;simp at hj⟩
   | some r =>
    obtain ⟨vs,T,hω,h0,hl,h1,h2,h3,h4⟩:=ho.row (hp p (.inr ⟨i,off,rfl⟩)) hg hi
    rw [h0] at h
    refine ⟨_,(vs.drop ((ρ p).base + i * sz + off)).take (sz - off),h,ap.of_forall' ?_ (fun j d v e1 e2=>?_),(kJ hω h1).take _⟩
    ·simp;omega
    ·simp only [Option.getD_some] at e1
     rw [List.getElem?_map,Option.map_eq_some_iff] at e1
     obtain ⟨d',e1,rfl⟩:=e1
     rw [List.getElem?_drop] at e1
     obtain ⟨u,k1,k2⟩:=h4 _ _ e1
     rw [List.getElem?_take] at e2
     split at e2
     ·rw [List.getElem?_drop,Nat.add_assoc] at e2
      rw [Nat.add_assoc] at k1
      rw [Nat.add_assoc] at e2
      rw [k1] at e2;cases e2
      exact j4 ho k2
     ·cases e2
  ·exact hk.elim
 case mrf b=>exact hk.elim
 all_goals first | exact af.mono (ca ho) _ _ h | (simp [av,af] at h)
def iR : D -> Bool
 | .ref p _ _=>decide (10000 <= p.root)
 | .adr p _ _=>decide (10000 <= p.root)
 | _=>true
def Pj : D -> Bool
 | .agx ds=>ds.all iR
 | .tpx ds=>ds.all iR
 | .ptx ds=>ds.all iR
 | .rfx _ _ ds=>ds.all iR
 | .fnx _ ds=>ds.all iR
 | d=>iR d
theorem gY (ho : Own F L New f M a w ρ ω) {v : Value} (h : av F M ρ d v) (hk : aN f d) : af F (a8 ω M w) (dp1 f d) v:=by
 refine wv ho h hk ?_
 rintro p (⟨k,n,rfl⟩ | ⟨i,off,rfl⟩)
 ·simp only [aN] at hk
  split at hk
  ·rename_i e;exact bV ho e
  ·exact hk.elim
 ·simp only [aN] at hk
  split at hk
  ·rename_i e;exact bV ho e
  ·exact hk.elim
theorem jx (ho : Own F L New f M a w ρ ω) {ds : List D} {vs : List Value} (h : cS F M ρ ds vs) (hk : ∀ d ∈ ds,aN f d) : ap F (a8 ω M w) (ds.map (dp1 f)) vs :=
 ap.of_forall' (by simpa using h.1) (fun i d v h1 h2=>by
  rw [List.getElem?_map,Option.map_eq_some_iff] at h1
  obtain ⟨d',h1,rfl⟩:=h1
  exact gY ho (h.2 i d' v h1 h2) (hk d' (List.mem_of_getElem? h1)))
theorem tL (ho : Own F L New f M a w ρ ω) {v : Value} (h : bg F M ρ d v) (hk : bu f d) : af F (a8 ω M w) (dp f d) v:=by
 cases d
 case agx ds =>
  obtain ⟨vs,rfl,r⟩:=h
  simp only [dp,af]
  exact ⟨vs,rfl,jx ho r hk⟩
 case tpx ds =>
  obtain ⟨vs,rfl,r⟩:=h
  simp only [dp,af]
  exact ⟨vs,rfl,jx ho r hk⟩
 case ptx ds =>
  obtain ⟨a,vs,rfl,r,c⟩:=h
  simp only [dp,af]
  exact ⟨a,vs,rfl,jx ho r hk,c.mono (ca ho)⟩
 case rfx n sz ds=>exact hk.elim
 case fnx g cs =>
  obtain ⟨fi,vs,hg,rfl,r⟩:=h
  simp only [dp,af]
  exact ⟨fi,vs,hg,rfl,jx ho r hk⟩
 all_goals (rw [am rfl] at h;exact gY ho h hk)
theorem iF (h : isV d=true) : dp f d=d /\ bu f d:=by
 cases d <;> first | exact ⟨rfl,trivial⟩ | (simp [isV] at h)
theorem ue {M' : Mem} {v : Value} (h : af F M' d v) (hf : isF d=true) : af F M d v:=by
 have one : ∀ (d : D) (v : Value),bk d=true -> af F M' d v -> af F M d v:=fun d v h1 h2=>by
  cases d <;> simp only [bk,Bool.false_eq_true] at h1 <;> first | (simp only [af];done) | simpa only [af] using h2
 have list : ∀ (ds : List D) (vs : List Value),ds.all bk=true -> ap F M' ds vs -> ap F M ds vs:=fun ds vs h1 h2=>by
  rw [List.all_eq_true] at h1
  exact ap.of_forall' h2.length.symm (fun i d v e1 e2=>by
   obtain ⟨u,k1,k2⟩:=h2.get e1
   rw [e2] at k1;cases k1
   exact one d v (h1 d (List.mem_of_getElem? e1)) k2)
 have one2 : ∀ (d : D) (v : Value),dT d=true -> af F M' d v -> af F M d v:=fun d v h1 h2=>by
  cases d
  case agg ds=>simp only [af] at h2 ⊢;obtain ⟨vs,e,r⟩:=h2;exact ⟨vs,e,list ds vs h1 r⟩
  all_goals first | exact one _ _ h1 h2 | (simp [dT,bk] at h1)
 have list2 : ∀ (ds : List D) (vs : List Value),ds.all dT=true -> ap F M' ds vs -> ap F M ds vs:=fun ds vs h1 h2=>by
  rw [List.all_eq_true] at h1
  exact ap.of_forall' h2.length.symm (fun i d v e1 e2=>by
   obtain ⟨u,k1,k2⟩:=h2.get e1
   rw [e2] at k1;cases k1
   exact one2 d v (h1 d (List.mem_of_getElem? e1)) k2)
 cases d
 case tup ds=>simp only [af] at h ⊢;obtain ⟨vs,e,r⟩:=h;exact ⟨vs,e,list2 ds vs hf r⟩
 case agg ds=>simp only [af] at h ⊢;obtain ⟨vs,e,r⟩:=h;exact ⟨vs,e,list ds vs hf r⟩
 all_goals first | exact one _ _ hf h | (simp [isF,bk] at hf)
theorem gg (hC : bS P F C) (h : SR F nt S L w0 M0 f M a w) (hp : bA nt f o.dst) {g fi : Nat} (hg : F g=some fi) {ds : List D} {vs : List Value} {M1 : Mem} (hM : M.le M1) (hh : ∀ p v,M1 p=some v -> w.cell? p=some v) (r : ap F M1 ds vs) (hc : C g ds d []) (hcase : isF d=true \/ M1=M)
  (hrun : (execOp a.eval o).run P w=(callFunc fi vs.toArray).run P w) (hK : da o.dst K d) : o.wp P a w (PostX F nt S L w0 M0 f K) Q:=by
 unfold Oper.wp
 rw [hrun,bH (hC.body g fi hg),Oper.upon_enter]
 refine (hC.runs g fi ds d hg hc M1 w vs hh r).mono ?_
 rintro e w' ⟨v,M',rfl,hb,hM',hf,hh',rv⟩
 have h' : ∃ M2,SR F nt S L w0 M0 f M2 a w' /\ af F M2 d v:=by
  rcases hcase with hfl | rfl
  ·exact ⟨M,h.grow hb,ue rv hfl⟩
  ·exact ⟨M',h.world hb hM' hf hh',rv⟩
 obtain ⟨M2,h2,rv2⟩:=h'
 generalize o.dst=t at hp hK ⊢
 cases t with
 | none=>exact ⟨[],[],M2,hK,by simpa [Act.put,iG] using h2⟩
 | some t=>exact ⟨_,_,M2,hK,h2.put hp (fun _ _ _=>bg.of_pure rv2)⟩
theorem iO (ho : Own F L New f M a w ρ ω) : ∀ {xs : List Opd} {ys : List Operand},bT F xs ys=true -> (∀ x ∈ xs,bu f (vd f x)) -> ap F (a8 ω M w) (xs.map (dpv f)) (ys.map a.eval):=by
 intro xs ys hx hk
 simp only [bT,Bool.and_eq_true,beq_iff_eq,List.all_eq_true] at hx
 refine ap.of_forall' (by simpa using hx.1) (fun i d v h1 h2=>?_)
 rw [List.getElem?_map,Option.map_eq_some_iff] at h1 h2
 obtain ⟨x,h1,rfl⟩:=h1
 obtain ⟨y,h2,rfl⟩:=h2
 exact tL ho (ho.opd (hx.2 (x,y) (List.mem_iff_getElem?.2 ⟨i,by rw [List.getElem?_zip_eq_some];exact ⟨h1,h2⟩⟩))) (hk x (List.mem_of_getElem? h1))
theorem fe (h : SR F nt S L w0 M0 f M a w) : ∀ {xs : List Opd} {ys : List Operand},bT F xs ys=true -> (xs.all fun x=>isV (vd f x))=true -> ap F M (xs.map (dpv f)) (ys.map a.eval):=by
 intro xs ys hx hk
 simp only [bT,Bool.and_eq_true,beq_iff_eq,List.all_eq_true] at hx
 rw [List.all_eq_true] at hk
 refine ap.of_forall' (by simpa using hx.1) (fun i d v h1 h2=>?_)
 rw [List.getElem?_map,Option.map_eq_some_iff] at h1 h2
 obtain ⟨x,h1,rfl⟩:=h1
 obtain ⟨y,h2,rfl⟩:=h2
 have hv:=hk x (List.mem_of_getElem? h1)
 unfold dpv
 rw [(iF hv).1]
 exact h.opd (hx.2 (x,y) (List.mem_iff_getElem?.2 ⟨i,by rw [List.getElem?_zip_eq_some];exact ⟨h1,h2⟩⟩)) hv
theorem pu (hC : bS P F C) (h : SR F nt S L w0 M0 f M a w) (hp : bA nt f o.dst) {g fi : Nat} {xs : List Opd} {ys : Array Operand} {ts : Array TypeId} (ho : o.op=.call { callee:=.value (.func fi),args:=ys,argTypes:=ts }) (hx : bT F xs ys.toList=true)
  (hg : F g=some fi) (hr : (∀ x ∈ xs,bu f (vd f x)) /\ ∃ d,C g (xs.map (dpv f)) d [] /\ (isF d=true \/ (xs.all fun x=>isV (vd f x))=true) /\ da o.dst K d) : o.wp P a w (PostX F nt S L w0 M0 f K) Q:=by
 obtain ⟨h0,d,h1,h2,hK⟩:=hr
 have hrun : (execOp a.eval o).run P w=(callFunc fi (ys.toList.map a.eval).toArray).run P w:=by
  simp only [execOp,ho,resolve,Act.eval,Deferred.ofValue,Sem.run_bind,Sem.run_pure,Result.andThen_ok,invoke]
  congr 2
  rw [Array.append_empty,Array.empty_append]
  apply Array.ext'
  simp
 rcases h2 with h2 | h2
 ·obtain ⟨ρ,ω,hO⟩:=h.own
  exact gg hC h hp hg (ca hO) (bN h.holds) (iO hO hx h0) h1 (.inl h2) hrun hK
 ·exact gg hC h hp hg (Mem.le_refl _) h.holds (fe h hx h2) h1 (.inr rfl) hrun hK
theorem fb {M' : Mem} {d : D} {v : Value} (h1 : bk d=true) (h2 : af F M' d v) : af F M d v:=by
 cases d <;> simp only [bk,Bool.false_eq_true] at h1 <;> first | (simp only [af];done) | simpa only [af] using h2
theorem dQ {d : D} (h : bk d=true) : isO d=false:=by
 cases d <;> first | rfl | (simp [bk] at h)
theorem SR.nilA (h : SR F nt S L w0 M0 f M a w) {t sz : Nat} (ht : t < nt) (hL : L (rt t 0)=none) (hsz : 0 < sz) (A : Option Addr) : SR F nt S L w0 M0 (eff [(t,.ref (.r (rt t 0)) 0 0),(rt t 0,.blk sz [])] [(rt t 0,true)] f) M (a.put (some t) (.slice A 0 0)) w where
 hnt:=h.hnt
 size:=by simp [Act.put,h.size]
 defers:=by simp [Act.put,h.defers]
 ch:=h.ch
 holds:=h.holds
 ext:=h.ext
 fresh:=h.fresh
 own:=by
  obtain ⟨ρ,ω,ho⟩:=h.own
  have hb0:=rt_big t 0
  generalize rt t 0=b at *
  have ht10 : t < 10000:=by have:=h.hnt;omega
  have lk : ∀ s,s ≠ t -> s ≠ b -> [(t,D.ref (.r b) 0 0),(b,.blk sz [])].lookup s=none:=fun s h1 h2=>by
   have e1 : (s == t)=false:=by simpa using h1
   have e2 : (s == b)=false:=by simpa using h2
   simp only [List.lookup_cons,e1,e2,List.lookup_nil]
  have lkb : [(t,D.ref (.r b) 0 0),(b,.blk sz [])].lookup b=some (.blk sz []):=by
   have e1 : (b == t)=false:=by simp;omega
   simp only [List.lookup_cons,e1,beq_self_eq_true]
  refine ⟨_,_,ho.move (b:=b) (nb:=none) (π:=fun _=>none) (ρb:=fun p=>match p with | .r _=>⟨0,0,sz,0⟩ | .n _ _ _=>ρ p) (ks:=[(b,true)]) (fun p p' q h1=>by cases h1) (fun p q h1=>by cases h1) (fun k e=>(by cases e)) (Nat.le_refl _) (fun p hp hne=>⟨(b,true),by simp,?_⟩) (Mem.le_refl _) ho.apart (fun s hs=>?_) (fun _ _ _ _ _=>rfl)
   (fun x hx hxb=>?_) (fun _ _=>.inl ⟨sz,[],aJ lkb,.inl ⟨rfl,?_⟩⟩) (fun l' e _=>by rw [hL] at e;cases e)⟩
  ·cases p with
   | r x=>simp only [Pa.root] at hp;simp [bQ,hp]
   | n x i off=>simp only [Pa.root] at hp;simp [bQ,hp]
  ·by_cases e : s=t
   ·subst e
    refine .inr (.inr ⟨_,getElem?_put_same (by rw [h.size];exact ht),?_⟩)
    rw [aJ (d:=.ref (.r b) 0 0) (by simp),am rfl]
    exact Or.inl ⟨rfl,_,rfl⟩
   ·left
    rcases bv (f:=f) (ks:=[(b,true)]) (lk s e (by omega)) with h2 | h2
    ·exact .inl h2
    ·exact .inr ⟨h2.1,getElem?_put e,h2.2⟩
  ·exact bI (lk x (by omega) hxb)
  ·simp [mvρ,Pa.root,hsz]
def fX (ω : Nat -> Option Pa) (b : Nat) : Nat -> Option Pa:=fun k=>match ω k with
 | some p=>if p.root=b then none else some p
 | none=>none
theorem qV {b k : Nat} {p : Pa} (h : ω k=some p) (hp : p.root ≠ b) : fX ω b k=some p:=by
 simp only [fX,h,if_neg hp]
theorem dY {b k : Nat} {p : Pa} (h : fX ω b k=some p) : ω k=some p /\ p.root ≠ b:=by
 unfold fX at h
 split at h
 ·rename_i q hq
  split at h
  ·cases h
  ·cases h
   exact ⟨hq,by assumption⟩
 ·cases h
theorem bY.ers {b : Nat} {p : Pa} (hp : p.root ≠ b) {sz : Nat} {es : List (List D)} {R R' : Nat -> Nat -> D -> Value -> Prop} (hR : ∀ i off d v,R i off d v -> R' i off d v) (h : bY ω ρ w p sz es R) : bY (fX ω b) ρ w p sz es R':=by
 rcases h with h | ⟨h,h1,vs,T,h2,h3,h4,h5,h6⟩
 ·exact .inl h
 ·exact .inr ⟨qV h hp,h1,vs,T,h2,h3,h4,h5,fun i r off d e1 e2=>by
   obtain ⟨v,q1,q2⟩:=h6 i r off d e1 e2
   exact ⟨v,q1,hR _ _ _ _ q2⟩⟩
theorem Own.erase (h : Own F L New f M a w ρ ω) {b : Nat} (hb : 10000 <= b) : Own F L New (fbE f b) M a w ρ (fX ω b):=by
 have hne : ∀ {t : Nat},t ≠ b -> fbE f b t=f t:=fun {t} ht=>by
  simp only [fbE,if_neg ht]
 have hbb : fbE f b b=.any:=by simp [fbE]
 refine ⟨fun t ht=>?_,fun c sz es hc hf=>?_,fun c kt et ks vs hc hf=>?_,fun k p hk=>h.lt k p (dY hk).1,fun k p hk=>h.new k p (dY hk).1,fun p q hk=>h.apart p q (dY hk).1,fun c l hc hl hB=>?_⟩
 ·have:=h.slots t ht
  unfold rG at this ⊢
  rw [hne (by omega)]
  exact this
 ·by_cases e : c=b
  ·subst e;rw [hbb] at hf;cases hf
  ·rw [hne e] at hf
   refine bY.ers (p:=.r c) e (fun i off d v hd=>?_) (h.roots c sz es hc hf)
   cases d
   case own=>exact ⟨hd.1,bY.ers (p:=.n c i off) e (fun _ _ _ _ h=>h) hd.2⟩
   all_goals exact hd
 ·by_cases e : c=b
  ·subst e;rw [hbb] at hf;cases hf
  ·rw [hne e] at hf
   have:=h.maps c kt et ks vs hc hf
   exact ⟨qV this.1 e,this.2⟩
 ·by_cases e : c=b
  ·subst e;rw [hbb] at hB;cases hB
  ·rw [hne e] at hB
   exact h.lent c l hc hl hB
theorem r5 (h : Own F L New f M a w ρ ω) {b : Nat} {k : Nat} (hk : ω k=some (.r b)) (p : Addr) (hp : p.block=k) : a8 (fX ω b) M w p=none:=by
 have e : fX ω b p.block=none:=by
  rw [hp]
  simp only [fX,hk,Pa.root,if_true]
 unfold a8
 rw [e]
 exact h.apart p (.r b) (by rw [hp];exact hk)
theorem uL (h : Own F L New f M a w ρ ω) {b : Nat} (hb : 10000 <= b) {xs : List Opd} {ys : List Operand} (hx : bT F xs ys=true) (hk : ∀ x ∈ xs,bu (fbE f b) (vd (fbE f b) x)) : ap F (a8 (fX ω b) M w) (xs.map (dpv (fbE f b))) (ys.map a.eval) :=
 iO (h.erase hb) hx hk
theorem sO (hC : bS P F C) (h : SR F nt S L w0 M0 f M a w) (hL : ∀ t,L (rt t 0)=none) (hp : ∀ t,o.dst=some t -> t < nt) {g fi : Nat} {x : Opd} {xs : List Opd} {y : Operand} {ys : List Operand} {ts : Array TypeId} (ho : o.op=.call { callee:=.value (.func fi),args:=⟨y::ys⟩,argTypes:=ts }) (hx0 : aj F x y=true) (hx : bT F xs ys=true)
  (hg : F g=some fi) (hr : match vd f x with
  | .ref (.r b) k n=>k=0 /\ match f b with
   | .blk sz es=>es.length=n /\ (∀ e ∈ es,∀ c ∈ e,aw c=true) /\ (∀ x ∈ xs,bu (fbE f b) (vd (fbE f b) x)) /\ match o.dst with
    | none=>∃ es' : List (List D),es'.length=es.length /\ (∀ e ∈ es',e.length=sz /\ ∀ c ∈ e,aw c=true) /\ mB (fbE f b) xs es' /\ C g (.own sz es::xs.map (dpv (fbE f b))) .any [.own sz es',.nilp] /\ K [(b,.blk sz es')] []
    | some t=>(∃ es' : List (List D),es'.length=es.length /\ (∀ e ∈ es',e.length=sz /\ ∀ c ∈ e,aw c=true) /\ mB (fbE f b) xs es' /\ C g (.own sz es::xs.map (dpv (fbE f b))) .any [.own sz es',.nilp] /\ K [(t,.tup []),(b,.blk sz es')] []) \/ (b ≠ rt t 0 /\ 0 < sz /\ ∃ es' : List (List D),(∀ e ∈ es',e.length=sz /\ ∀ c ∈ e,aw c=true) /\ mB (fbE f b) xs es' /\ C g (.own sz es::xs.map (dpv (fbE f b))) .any [.own sz es',.nils] /\ K [(t,.ref (.r (rt t 0)) 0 es'.length),(rt t 0,.blk sz es'),(b,.any)] [(rt t 0,true)])
   | _=>False
  | _=>False) : o.wp P a w (PostX F nt S L w0 M0 f K) Q:=by
 split at hr
 ·rename_i b k n hvx
  obtain ⟨rfl,hr⟩:=hr
  split at hr
  ·rename_i sz es hf
   obtain ⟨rfl,hc1,hdp,hr⟩:=hr
   have hrun : (execOp a.eval o).run P w=(callFunc fi (a.eval y::ys.map a.eval).toArray).run P w:=by
    simp only [execOp,ho,resolve,Act.eval,Deferred.ofValue,Sem.run_bind,Sem.run_pure,Result.andThen_ok,invoke]
    congr 2
    rw [Array.append_empty,Array.empty_append]
    apply Array.ext'
    simp
    cases y <;> simp [Act.eval]
   obtain ⟨ρ,ω,hO⟩:=h.own
   have hb:=hO.big hf
   have hv:=hO.opd hx0
   rw [hvx,am rfl] at hv
   simp only [av] at hv
   have hroot:=hO.roots b sz es hb hf
   have hcases : (∃ A,a.eval y=.slice A 0 0 /\ es=[]) \/ ∃ (cap : Nat) (us : List Value) (T : TypeId),a.eval y=.slice (some ⟨(ρ (.r b)).blk,(ρ (.r b)).base,none⟩) es.length cap /\ (es.length <= cap /\ cap <= 9223372036854775807) /\ (ρ (.r b)).base + cap * sz <= (ρ (.r b)).len /\ ω (ρ (.r b)).blk=some (.r b) /\
     eO w (ρ (.r b)) sz es (fun i off d v=>bP F M ω ρ w b i off d v) /\ w.heap[(ρ (.r b)).blk]? = some (.cells us.toArray T (0,0)) /\ us.length=(ρ (.r b)).len /\ (∀ e ∈ es,e.length=sz) /\
     (∀ i r off d,es[i]? = some r -> r[off]? = some d -> ∃ u,us[(ρ (.r b)).base + i * sz + off]? = some u /\ af F M d u):=by
    rcases hv with ⟨h0,A,hv⟩ | ⟨cap,hv,hcap,hcl,hmc⟩
    ·exact .inl ⟨A,hv,List.eq_nil_of_length_eq_zero h0⟩
    ·rcases hroot with ⟨e0,e1,e2,e3⟩ | ⟨hω,hrows⟩
     ·have hc0 : cap=0:=by
       rw [e1,e2,Nat.zero_add] at hcl
       rcases Nat.eq_zero_or_pos cap with h | h
       ·exact h
       ·have:=Nat.mul_pos h e3;omega
      subst hc0
      exact .inl ⟨_,by rw [hv,e0];rfl,e0⟩
     ·obtain ⟨g0,us,T,g1,g2,g3,g4,g5⟩:=id hrows
      refine .inr ⟨cap,us,T,by rw [hv];simp,⟨hcap,hmc⟩,by rw [<- g0];simpa using hcl,hω,hrows,g1,g2,g4,fun i r off d e1 e2=>?_⟩
      obtain ⟨u,k1,k2⟩:=g5 i r off d e1 e2
      exact ⟨u,k1,by rwa [aV (cc (hc1 r (List.mem_of_getElem? e1) d (List.mem_of_getElem? e2)))] at k2⟩
   have hview : ∀ es' : List (List D),mB (fbE f b) xs es' -> ∃ N : Mem,M.le N /\ (∀ p v,N p=some v -> w.cell? p=some v) /\ (∀ k,ω k=some (.r b) -> ∀ p : Addr,p.block=k -> N p=none) /\ ap F N (xs.map (dpv (fbE f b))) (ys.map a.eval) /\ (N=M \/ ∀ e ∈ es',∀ c ∈ e,bk c=true):=by
    intro es' ho
    have hE:=hO.erase hb
    rcases ho with ho | ho
    ·exact ⟨M,Mem.le_refl _,h.holds,fun k hk p hp=>hO.apart p (.r b) (by rw [hp];exact hk),fe (h.weak (g:=fbE f b) (fun t=>by by_cases e : t=b <;> simp [fbE,e])) hx ho,.inl rfl⟩
    ·exact ⟨a8 (fX ω b) M w,ca hE,bN h.holds,fun k hk p hp=>r5 hO hk p hp,uL hO hb hx hdp,.inr ho⟩
   have back : ∀ (N : Mem) (es' : List (List D)),(N=M \/ ∀ e ∈ es',∀ c ∈ e,bk c=true) -> ∀ (i : Nat) (r : List D) (off : Nat) (d : D) (u : Value),es'[i]? = some r -> r[off]? = some d -> af F N d u -> af F M d u:=by
    rintro N es' (rfl | hfl) i r off d u e1 e2 hr
    ·exact hr
    ·exact fb (hfl r (List.mem_of_getElem? e1) d (List.mem_of_getElem? e2)) hr
   have nback : ∀ (N : Mem) (es' : List (List D)),(N=M \/ ∀ e ∈ es',∀ c ∈ e,bk c=true) -> ∀ {w' : World} {v : Value},dV F N w w' sz es' v -> dV F M w w' sz es' v:=by
    intro N es' hfl w' v hn
    have hb2:=back N es' hfl
    obtain ⟨bn,on,Tn,un,cn,p1,p2,p3,p4,p5,p7⟩:=hn
    exact ⟨bn,on,Tn,un,cn,p1,p2,p3,p4,p5,fun i r off d e1 e2=>(p7 i r off d e1 e2).imp fun u k=>⟨k.1,hb2 _ _ _ _ _ e1 e2 k.2⟩⟩
   unfold Oper.wp
   rw [hrun,bH (hC.body g fi hg),Oper.upon_enter]
   split at hr
   ·rename_i hd
    obtain ⟨es',hl,hu,hof,hc,hK⟩:=hr
    obtain ⟨N,hMN,hhN,hap,hrep0,hfl⟩:=hview es' hof
    have hback:=back N es' hfl
    have hS:=hC.runsS g fi sz es _ es' hg hc N w _ hhN hrep0
    rw [hd]
    rcases hcases with ⟨A,hv,e⟩ | ⟨cap,us,T,hv,⟨hcap,hmc⟩,hcl,hω,hrows,g1,g2,g4,g5⟩
    ·have e' : es'=[]:=List.eq_nil_of_length_eq_zero (by rw [hl,e];rfl)
     have e1 : eff [(b,D.blk sz es')] [] f=f:=by
      funext t
      by_cases e2 : t=b
      ·subst e2
       rw [aJ (d:=.blk sz es') (by simp),hf,e,e']
      ·unfold eff
       have e3 : (t == b)=false:=by simpa using e2
       simp only [List.lookup_cons,e3,List.lookup_nil,aC,List.any_nil,Bool.false_eq_true,if_false]
     rw [hv]
     refine (hS.1 e A).mono ?_
     rintro e0 w' ⟨rfl,hw⟩
     exact ⟨_,_,M,hK,by rw [e1];simpa [Act.put] using h.grow hw⟩
    ·rw [hv]
     have hMb : ∀ p : Addr,p.block=(ρ (.r b)).blk -> N p=none:=hap _ hω
     have g5 : ∀ i r off d,es[i]? = some r -> r[off]? = some d -> ∃ u,us[(ρ (.r b)).base + i * sz + off]? = some u /\ af F N d u:=fun i r off d e1 e2=>by
      obtain ⟨u,k1,k2⟩:=g5 i r off d e1 e2
      exact ⟨u,k1,af.mono hMN _ _ k2⟩
     refine (hS.2 (ρ (.r b)).blk (ρ (.r b)).base T us cap hMb (hO.lt _ _ hω) g1 hcap (by rw [g2];exact hcl) g4 g5).mono ?_
     rintro e0 w' ⟨rfl,us',q1,q2,q3,q4⟩
     obtain ⟨ρ',ω',hO',rfl,hs'⟩:=h.fill hO hf hω hrows (Nat.le_of_eq hl) hu q4 q1 (by rw [q2,g2]) (fun i r off d e1 e2=>(q3 i r off d e1 e2).imp fun u k=>⟨k.1,hback _ _ _ _ _ e1 e2 k.2⟩)
     exact ⟨_,_,M,hK,by simpa [Act.put] using hs'⟩
   ·rename_i t hd
    rcases hr with ⟨es',hl,hu,hof,hc,hK⟩ | ⟨hbt,hsz,es',hu,hof,hc,hK⟩
    ·obtain ⟨N,hMN,hhN,hap,hrep0,hfl⟩:=hview es' hof
     have hback:=back N es' hfl
     have hS:=hC.runsS g fi sz es _ es' hg hc N w _ hhN hrep0
     have ht:=hp t hd
     have ht10 : t < 10000:=Nat.lt_of_lt_of_le ht h.hnt
     have e2 : ∀ ff : Nat -> D,eff [(t,D.tup [])] [] (eff [(b,D.blk sz es')] [] ff)=eff [(t,D.tup []),(b,D.blk sz es')] [] ff:=by
      intro ff
      funext s
      unfold eff
      by_cases q : s=t
      ·subst q
       simp [List.lookup_cons]
      ·have q1 : (s == t)=false:=by simpa using q
       simp only [List.lookup_cons,q1,List.lookup_nil,aC,List.any_nil,Bool.false_eq_true,if_false]
     rw [hd]
     rcases hcases with ⟨A,hv,e⟩ | ⟨cap,us,T,hv,⟨hcap,hmc⟩,hcl,hω,hrows,g1,g2,g4,g5⟩
     ·have e' : es'=[]:=List.eq_nil_of_length_eq_zero (by rw [hl,e];rfl)
      have e1 : eff [(b,D.blk sz es')] [] f=f:=by
       funext s
       by_cases e2 : s=b
       ·subst e2
        rw [aJ (d:=.blk sz es') (by simp),hf,e,e']
       ·unfold eff
        have e3 : (s == b)=false:=by simpa using e2
        simp only [List.lookup_cons,e3,List.lookup_nil,aC,List.any_nil,Bool.false_eq_true,if_false]
      rw [hv]
      refine (hS.1 e A).mono ?_
      rintro e0 w' ⟨rfl,hw⟩
      refine ⟨_,_,M,hK,?_⟩
      rw [<- e2,e1]
      exact (h.grow hw).put ht fun _ _ _=>by rw [am rfl];simp [av,af,ap]
     ·rw [hv]
      have hMb : ∀ p : Addr,p.block=(ρ (.r b)).blk -> N p=none:=hap _ hω
      have g5 : ∀ i r off d,es[i]? = some r -> r[off]? = some d -> ∃ u,us[(ρ (.r b)).base + i * sz + off]? = some u /\ af F N d u:=fun i r off d e1 e2=>by
       obtain ⟨u,k1,k2⟩:=g5 i r off d e1 e2
       exact ⟨u,k1,af.mono hMN _ _ k2⟩
      refine (hS.2 (ρ (.r b)).blk (ρ (.r b)).base T us cap hMb (hO.lt _ _ hω) g1 hcap (by rw [g2];exact hcl) g4 g5).mono ?_
      rintro e0 w' ⟨rfl,us',q1,q2,q3,q4⟩
      obtain ⟨ρ',ω',hO',rfl,hs'⟩:=h.fill hO hf hω hrows (Nat.le_of_eq hl) hu q4 q1 (by rw [q2,g2]) (fun i r off d e1 e2=>(q3 i r off d e1 e2).imp fun u k=>⟨k.1,hback _ _ _ _ _ e1 e2 k.2⟩)
      refine ⟨_,_,M,hK,?_⟩
      rw [<- e2]
      exact hs'.put ht fun _ _ _=>by rw [am rfl];simp [av,af,ap]
    obtain ⟨N,hMN,hhN,hap,hrep0,hfl⟩:=hview es' hof
    have hback:=back N es' hfl
    have hE:=hC.runsR g fi sz es _ es' hg hc N w _ hhN hrep0
    have ht:=hp t hd
    have hLt:=hL t
    rw [hd]
    rcases hcases with ⟨A,hv,e⟩ | ⟨cap,us,T,hv,⟨hcap,hmc⟩,hcl,hω,hrows,g1,g2,g4,g5⟩
    ·rw [hv]
     refine (hE.1 e A).mono ?_
     rintro e0 w' ⟨v,rfl,hw,⟨e',A',rfl⟩ | hn⟩
     ·refine ⟨_,_,M,hK,?_⟩
      subst e'
      have h1:=(h.grow hw).nilA ht hLt hsz A'
      refine h1.weak (fun s=>?_)
      have ht10 : t < 10000:=Nat.lt_of_lt_of_le ht h.hnt
      by_cases e3 : s=b
      ·left
       subst e3
       have q1 : (s == t)=false:=by
        have : s ≠ t:=fun e=>by rw [e] at hb;exact absurd ht10 (Nat.not_lt.2 hb)
        simpa using this
       have q2 : (s == rt t 0)=false:=by simpa using hbt
       simp [eff,List.lookup_cons,q1,q2]
      ·right
       have q3 : (s == b)=false:=by simpa using e3
       unfold eff
       simp only [List.lookup_cons,q3,List.lookup_nil,List.length_nil]
     ·exact ⟨_,_,M,hK,h.newRow (b:=b) hu hw (nback N es' hfl hn) ht (rt_big t 0) hLt (Ne.symm hbt) hb⟩
    ·rw [hv]
     have hMb : ∀ p : Addr,p.block=(ρ (.r b)).blk -> N p=none:=hap _ hω
     have g5 : ∀ i r off d,es[i]? = some r -> r[off]? = some d -> ∃ u,us[(ρ (.r b)).base + i * sz + off]? = some u /\ af F N d u:=fun i r off d e1 e2=>by
      obtain ⟨u,k1,k2⟩:=g5 i r off d e1 e2
      exact ⟨u,k1,af.mono hMN _ _ k2⟩
     refine (hE.2 (ρ (.r b)).blk (ρ (.r b)).base T us cap hMb (hO.lt _ _ hω) g1 hcap (by rw [g2];exact hcl) g4 g5).mono ?_
     rintro e0 w' ⟨v,rfl,us',q1,q2,q4,⟨rfl,hl,q3⟩ | hn⟩
     ·refine ⟨_,_,M,hK,h.eatSame hO hf hω hrows hl hu q4 q1 (by rw [q2,g2]) (fun i r off d e1 e2=>(q3 i r off d e1 e2).imp fun u k=>⟨k.1,hback _ _ _ _ _ e1 e2 k.2⟩) ht (rt_big t 0) hLt (Ne.symm hbt) ?_⟩
      simp only [av]
      obtain ⟨g0,_⟩:=hrows
      exact .inr ⟨cap,by simp,by omega,by rw [g0,Nat.zero_add];exact hcl,hmc⟩
     ·exact ⟨_,_,M,hK,h.eatNew hO hf hω hrows hu q4 q1 (by rw [q2,g2]) (nback N es' hfl hn) ht (rt_big t 0) hLt (Ne.symm hbt)⟩
  ·exact hr.elim
 ·exact hr.elim
theorem sK (hC : bS P F C) (h : SR F nt S L w0 M0 f M a w) {t : Nat} (hd : o.dst=some t) (ht : t < nt) (hL : L (rt t 0)=none) {g fi : Nat} {xs : List Opd} {ys : Array Operand} {ts : Array TypeId} (ho : o.op=.call { callee:=.value (.func fi),args:=ys,argTypes:=ts }) (hx : bT F xs ys.toList=true)
  (hg : F g=some fi) (hr : (∀ x ∈ xs,bu f (vd f x)) /\ ∃ sz es,C g (xs.map (dpv f)) .any [.own sz es] /\ K [(t,.ref (.r (rt t 0)) 0 es.length),(rt t 0,.blk sz es)] [(rt t 0,true)]) : o.wp P a w (PostX F nt S L w0 M0 f K) Q:=by
 obtain ⟨h0,sz,es,h1,hK⟩:=hr
 have hrun : (execOp a.eval o).run P w=(callFunc fi (ys.toList.map a.eval).toArray).run P w:=by
  simp only [execOp,ho,resolve,Act.eval,Deferred.ofValue,Sem.run_bind,Sem.run_pure,Result.andThen_ok,invoke]
  congr 2
  rw [Array.append_empty,Array.empty_append]
  apply Array.ext'
  simp
 obtain ⟨ρ,ω,hO⟩:=h.own
 unfold Oper.wp
 rw [hrun,bH (hC.body g fi hg),Oper.upon_enter]
 refine (hC.runsF g fi _ sz es hg h1 (a8 ω M w) w _ (bN h.holds) (iO hO hx h0)).mono ?_
 rintro e w' (⟨rfl,hsz,A,rfl,hb⟩ | ⟨b,o',T,us,cap,rfl,hb,hbn,hh,hcap,⟨hlen,hmc⟩,hu,hcell⟩)
 ·rw [hd]
  exact ⟨_,_,M,hK,(h.grow hb).nilA ht hL hsz A⟩
 rw [hd]
 have hes : o' + es.length * sz <= us.length:=by
  have:=Nat.mul_le_mul_right sz hcap
  omega
 refine ⟨_,_,M,hK,h.makeAt (B:=b) (o:=o') (bs:=[]) (es:=es) (sz:=sz) (src:=fun _ _=>none) (vs:=us) (T:=T) ht (by unfold rt;omega) hL hb hbn hh hes hu (fun i r off c hi hr=>?_) (fun _ _ _ _ _ e=>(by cases e)) (fun _ _ _ e=>(by cases e)) (fun ρ M e=>?_)⟩
 ·obtain ⟨k1,u,k2,k3⟩:=hcell i r off c hi hr
  exact ⟨u,k2,.inl ⟨dQ k1,fb k1 k3⟩⟩
 ·rw [am rfl]
  simp only [av]
  refine .inr ⟨cap,by simp [e],hcap,?_,hmc⟩
  rw [e]
  simpa using hlen
theorem sP (hC : bS P F C) (h : SR F nt S L w0 M0 f M a w) (hp : bA nt f o.dst) {x : Opd} {x' : Operand} {xs : List Opd} {ys : Array Operand} {ts : Array TypeId} (ho : o.op=.call { callee:=.value x',args:=ys,argTypes:=ts })
  (hx0 : aj F x x'=true) (hx : bT F xs ys.toList=true) (hr : ay C f o.dst K (.callv x xs)) : o.wp P a w (PostX F nt S L w0 M0 f K) Q:=by
 simp only [ay] at hr
 have run : ∀ (fi : Nat) (us : List Value),a.eval x'=.func (.func fi) #[] us.toArray -> (execOp a.eval o).run P w=(callFunc fi (ys.toList.map a.eval++us).toArray).run P w:=by
  intro fi us e1
  simp only [execOp,ho,resolve,e1,Deferred.ofValue,Sem.run_bind,Sem.run_pure,Result.andThen_ok,invoke]
  congr 2
  rw [Array.empty_append]
  apply Array.ext'
  simp
 split at hr
 ·rename_i g cs ex
  have e0:=h.opd hx0 (by simp [ex,isV])
  rw [ex] at e0
  simp only [af] at e0
  obtain ⟨fi,us,hg,e1,r1⟩:=e0
  obtain ⟨h0,d',h1,h2,hK⟩:=hr
  rcases h2 with h2 | h2
  ·obtain ⟨ρ,ω,hO⟩:=h.own
   exact gg hC h hp hg (ca hO) (bN h.holds) ((iO hO hx h0).append (ap.mono (ca hO) _ _ r1)) h1 (.inl h2) (run fi us e1) hK
  ·exact gg hC h hp hg (Mem.le_refl _) h.holds ((fe h hx h2).append r1) h1 (.inr rfl) (run fi us e1) hK
 ·rename_i g cs ex
  obtain ⟨ρ,ω,hO⟩:=h.own
  have e0:=hO.opd hx0
  rw [ex] at e0
  obtain ⟨fi,us,hg,e1,r1⟩:=e0
  obtain ⟨h0,h0',d',h1,h2,hK⟩:=hr
  exact gg hC h hp hg (ca hO) (bN h.holds) ((iO hO hx h0).append (jx hO r1 h0')) h1 (.inl h2) (run fi us e1) hK
 ·exact hr.elim
end
end Go.Gv

namespace Go.Gv
open Go.RowKit
section
variable {P : Program} {F : Fid} {C : Nat -> List D -> D -> List D -> Prop} {nt : Nat} {S : Nat -> Prop} {L : Nat -> Option Loc} {w0 : World} {M0 : Mem} {f : Nat -> D} {M : Mem} {a : Act} {w : World} {o : Oper} {d : D} {Q : Exit -> Act -> World -> Prop} {ρ : Pa -> Loc} {ω : Nat -> Option Pa} {New : Nat -> Prop} {K : List (Nat × D) -> List (Nat × Bool) -> Prop}
theorem cL (g : Nat) (T : TypeId) (off : Nat) : ∀ (vs : List Value) (i : Nat) (cur : List Value) (w : World),w.heap[g]? = some (.cells cur.toArray T (0,0)) -> off + i + vs.length <= cur.length -> (∀ v ∈ vs,v.oneCell'=true) ->
  ∃ w',(storeCells ⟨g,off,none⟩ vs i).run P w=.ok () w' /\ w'.heap[g]? = some (.cells (cur.take (off + i)++vs++cur.drop (off + i + vs.length)).toArray T (0,0)) /\
   (∀ k,k ≠ g -> w'.heap[k]? = w.heap[k]?) /\ w'.heap.size=w.heap.size /\ w'.os=w.os /\ w'.tape=w.tape /\ w'.output=w.output /\ w'.drawn=w.drawn
 | [],i,cur,w,hg,_,_=>⟨w,by simp [storeCells],by simpa using hg,fun _ _=>rfl,rfl,rfl,rfl,rfl,rfl⟩
 | v::rest,i,cur,w,hg,hl,h1=>by
  simp only [List.length_cons] at hl
  have hi : off + i < cur.length:=by omega
  have hadd : (⟨g,off,none⟩ : Addr).add i=⟨g,off + i,none⟩:=cB g i off
  have hcell : w.cell? ⟨g,off + i,none⟩=some (cur[off + i]):=by simp [World.cell?,hg,hi]
  have hfro : w.frozen? ⟨g,off + i,none⟩=false:=by simp [World.frozen?,hg]
  have hst : (store ((⟨g,off,none⟩ : Addr).add i) v).run P w=.ok () (w.setCell ⟨g,off + i,none⟩ v):=by
   rw [hadd,run_store P w _ v _ (h1 v (by simp)),hcell]
   simp [hfro]
  have hg' : (w.setCell ⟨g,off + i,none⟩ v).heap[g]? = some (.cells (cur.set (off + i) v).toArray T (0,0)):=by
   simp [World.setCell,Array.getElem?_modify,hg]
  obtain ⟨w',e1,e2,e3,e4,e5,e6,e7,e8⟩:=cL g T off rest (i + 1) (cur.set (off + i) v) (w.setCell ⟨g,off + i,none⟩ v) hg' (by simp;omega) (fun x hx=>h1 x (by simp [hx]))
  refine ⟨w',by simp only [storeCells,Sem.run_bind,hst,Result.andThen_ok,e1],?_,fun k hk=>(e3 k hk).trans (Below.heap_setCell w _ _ _ hk),e4.trans (by simp [World.setCell]),e5,e6,e7,e8⟩
  rw [e2]
  congr 3
  have h3 : (cur.set (off + i) v).take (off + (i + 1))=cur.take (off + i)++[v]:=by
   rw [<- Nat.add_assoc,List.take_succ_eq_append_getElem (by simp;omega),List.take_set_of_le (by omega)]
   simp
  have h4 : (cur.set (off + i) v).drop (off + (i + 1) + rest.length)=cur.drop (off + i + (v::rest).length):=by
   rw [List.drop_set_of_lt (by omega)]
   congr 1
   simp;omega
  rw [h3,h4]
  simp
theorem kZ {t n g off : Nat} (hk : i8 P t n=true) {cur : List Value} {T : TypeId} {w : World} (hg : w.heap[g]? = some (.cells cur.toArray T (0,0))) {v : Value} (hn : v.cells.size=n) (hl : off + n <= cur.length) (h1 : ∀ u ∈ v.cells.toList,u.oneCell'=true) :
  ∃ w',(Instr.storeAt t (.pointer (some ⟨g,off,none⟩)) v).run P w=.ok () w' /\ w'.heap[g]? = some (.cells (cur.take off++v.cells.toList++cur.drop (off + n)).toArray T (0,0)) /\
   (∀ k,k ≠ g -> w'.heap[k]? = w.heap[k]?) /\ w'.heap.size=w.heap.size /\ w'.os=w.os /\ w'.tape=w.tape /\ w'.output=w.output /\ w'.drawn=w.drawn:=by
 obtain ⟨w',e1,e2,e3⟩:=cL (P:=P) g T off v.cells.toList 0 cur w hg (by simp;omega) h1
 refine ⟨w',?_,?_,e3⟩
 ·simp only [Instr.storeAt,Instr.sureAddr,Sem.run_bind,Sem.run_pure,Result.andThen_ok,storeVar,cq hk,hn,ne_eq,not_true,if_false,e1]
 ·have : v.cells.toList.length=n:=by simpa using hn
  simpa [this] using e2
theorem qG {K : Act -> World -> Prop} {w' : World} (h : (execOp a.eval o).run P w=.ok .skip w') (hk : K (a.put o.dst undef) w') : o.wp P a w K Q:=by
 unfold Oper.wp
 rw [h]
 exact hk
theorem nh {g : Nat} {cur us : List Value} {T : TypeId} {w' : World} {q n : Nat} (hg : w.heap[g]? = some (.cells cur.toArray T (0,0))) (h2 : w'.heap[g]? = some (.cells (cur.take q++us++cur.drop (q + n)).toArray T (0,0)))
  (h3 : ∀ k,k ≠ g -> w'.heap[k]? = w.heap[k]?) (h4 : w'.heap.size=w.heap.size) (h5 : w'.os=w.os) (h6 : w'.tape=w.tape) (h7 : w'.output=w.output /\ w'.drawn=w.drawn) : pJ w g q n us w' where
 cells vs T' e:=by
  rw [hg] at e
  simp only [Option.some.injEq,Obj.cells.injEq,and_true] at e
  obtain ⟨rfl,rfl⟩:=e
  exact h2
 rest:=h3
 size:=h4
 os:=h5
 tape:=h6
 output:=h7.1
 drawn:=h7.2
theorem vp (h : SR F nt S L w0 M0 f M a w) (hd : o.dst=none) {n : Nat} {ns : List Nat} {x v : Opd} {x' v' : Operand} {t : TypeId} (ho : o.op=.store t x' v') (hx : aj F x x'=true) (hv : aj F v v'=true) (hk : i8 P t n=true)
  (hr : ay C f none K (.st n ns x v)) : o.wp P a w (PostX F nt S L w0 M0 f K) Q:=by
 simp only [ay,true_and] at hr
 obtain ⟨ρ,ω,hO⟩:=h.own
 obtain ⟨cs,bs,src,⟨h1,h2⟩,h3,h4⟩:=absW_spec hO hr (v:=a.eval v') (fun ρ ω hO=>hO.opd hv)
 have hus : (a.eval v').cells.toList.length=n:=by simp [h3.len,h1]
 have hus' : (a.eval v').cells.size=n:=by rw [h3.len,h1]
 have hone : ∀ u ∈ (a.eval v').cells.toList,u.oneCell'=true:=fun u hu=>by
  obtain ⟨j,hj,e⟩:=List.mem_iff_getElem.1 hu
  have hj' : j < cs.length:=by omega
  exact (h3.cells j _ u (List.getElem?_eq_getElem hj') (by rw [<- e];exact List.getElem?_eq_getElem hj)).2
 have fin : ∀ {ws ks w'},(execOp a.eval o).run P w=.ok .skip w' -> K ws ks -> SR F nt S L w0 M0 (eff ws ks f) M a w' -> o.wp P a w (PostX F nt S L w0 M0 f K) Q:=fun hrun hK hs=>qG hrun (by rw [hd];exact ⟨_,_,M,hK,by simpa [Act.put] using hs⟩)
 have hxv:=hO.opd hx
 split at h2
 ·rename_i b i off ex
  obtain ⟨hb,h2⟩:=h2
  split at h2
  ·rename_i sz es hf
   obtain ⟨r,hi,hn,hK⟩:=h2
   rw [ex,am rfl] at hxv
   simp only [av] at hxv
   obtain ⟨vs,T,hω,h0,hl,g1,g2,g3,g4⟩:=hO.row (p:=.r b) (hO.big hf) (show aT f (.r b)=some (sz,es) by simp [aT,hf]) hi
   rw [h0] at hxv
   obtain ⟨w',k1,k2,k3,k4,k5,k6,k7⟩:=kZ (P:=P) (off:=(ρ (.r b)).base + i * sz + off) hk g1 hus' (by omega) hone
   refine fin (w':=w') (by simp only [execOp,ho,hxv,Sem.run_bind,k1,Result.andThen_ok,Sem.run_pure]) hK (h.store hO hf hi hn h1 hus (nh g1 k2 k3 k4 k5 k6 k7) (fun j c u e1 e2=>(h3.cells j c u e1 e2).1) h3.inj h3.srcs (fun hb'=>?_) (fun e=>h4 e b))
   have:=List.contains_iff_mem.2 hb'
   rw [hb] at this;cases this
  ·exact h2.elim
 ·rename_i b i0 o0 i off ex
  obtain ⟨hbs,hC1,h2⟩:=h2
  split at h2
  ·rename_i sz0 es0 hf
   obtain ⟨row0,hi0,sz,es,ho0,r,hi,hn,hK⟩:=h2
   rw [ex,am rfl] at hxv
   simp only [av] at hxv
   have hg : aT f (.n b i0 o0)=some (sz,es):=by simp [aT,hf,hi0,ho0]
   obtain ⟨vs,T,hω,h0,hl,g1,g2,g3,g4⟩:=hO.row (p:=.n b i0 o0) (hO.big hf) hg hi
   rw [h0] at hxv
   obtain ⟨w',k1,k2,k3,k4,k5,k6,k7⟩:=kZ (P:=P) (off:=(ρ (.n b i0 o0)).base + i * sz + off) hk g1 hus' (by omega) hone
   refine fin (w':=w') (by simp only [execOp,ho,hxv,Sem.run_bind,k1,Result.andThen_ok,Sem.run_pure]) hK (h.storeN hO hf hi0 ho0 hi hn h1 hus (nh g1 k2 k3 k4 k5 k6 k7) (fun j c u e1 e2=>?_))
   rcases (h3.cells j c u e1 e2).1 with ⟨_,h6⟩ | ⟨n',rfl,_⟩ | ⟨sz',es',b',_,rfl,_⟩
   ·exact h6
   ·have:=hC1 _ (List.mem_of_getElem? e1);simp [aw] at this
   ·have:=hC1 _ (List.mem_of_getElem? e1);simp [aw] at this
  ·exact h2.elim
 ·exact h2.elim
theorem mH {sz : Nat} : ∀ (n : Nat) (ds : List D),n * sz <= ds.length -> ∀ {i : Nat} {r : List D} {off : Nat} {d : D},(b9 sz n ds)[i]? = some r -> r[off]? = some d -> i < n /\ off < sz /\ ds[i * sz + off]? = some d
 | 0,ds,_,i,r,off,d,h,_=>by simp [b9] at h
 | n + 1,ds,hl,i,r,off,d,h,h2=>by
  rw [Nat.succ_mul] at hl
  cases i with
  | zero =>
   simp only [b9,List.getElem?_cons_zero,Option.some.injEq] at h
   subst h
   rw [List.getElem?_take] at h2
   split at h2
   ·rename_i h3
    exact ⟨by omega,h3,by simpa using h2⟩
   ·cases h2
  | succ i =>
   simp only [b9,List.getElem?_cons_succ] at h
   obtain ⟨g1,g2,g3⟩:=mH n (ds.drop sz) (by simp;omega) h h2
   refine ⟨by omega,g2,?_⟩
   rw [List.getElem?_drop] at g3
   rw [Nat.succ_mul,<- g3]
   congr 1
   omega
theorem SR.slm (h : SR F nt S L w0 M0 f M a w) {t b c sz0 sz n : Nat} {row : List D} {p : Addr} (ht : t < nt) (hb0 : 10000 <= b) (hL : L b=none) (hbc : b ≠ c) (hf : f c=.blk sz0 [row]) (hn : 0 < n) (hmc : n <= 16777216) (hsz : 0 < sz) (hrow : row.length=n * sz) (hfl : ∀ d ∈ row,aw d=true)
  (hv : ∀ ρ ω,Own F L (fun k=>S k \/ w0.heap.size <= k) f M a w ρ ω -> av F M ρ (.adr (.r c) 0 0) (.pointer (some p))) :
  SR F nt S L w0 M0 (eff [(t,.ref (.r b) 0 n),(b,.blk sz (b9 sz n row)),(c,.any)] [(b,true)] f) M (a.put (some t) (.slice (some p) n n)) w where
 hnt:=h.hnt
 size:=by simp [Act.put,h.size]
 defers:=by simp [Act.put,h.defers]
 ch:=h.ch
 holds:=h.holds
 ext:=h.ext
 fresh:=h.fresh
 own:=by
  obtain ⟨ρ,ω,ho⟩:=h.own
  have hc0:=ho.big hf
  have ht10 : t < 10000:=by have:=h.hnt;omega
  have lk : ∀ s,s ≠ t -> s ≠ b -> s ≠ c -> [(t,D.ref (.r b) 0 n),(b,.blk sz (b9 sz n row)),(c,.any)].lookup s=none:=fun s h1 h2 h3=>by
   have e1 : (s == t)=false:=by simpa using h1
   have e2 : (s == b)=false:=by simpa using h2
   have e3 : (s == c)=false:=by simpa using h3
   simp only [List.lookup_cons,e1,e2,e3,List.lookup_nil]
  have lkb : [(t,D.ref (.r b) 0 n),(b,.blk sz (b9 sz n row)),(c,.any)].lookup b=some (.blk sz (b9 sz n row)):=by
   have e1 : (b == t)=false:=by simp;omega
   simp only [List.lookup_cons,e1,beq_self_eq_true]
  have lkc : [(t,D.ref (.r b) 0 n),(b,.blk sz (b9 sz n row)),(c,.any)].lookup c=some .any:=by
   have e1 : (c == t)=false:=by simp;omega
   have e2 : (c == b)=false:=by simp;exact Ne.symm hbc
   simp only [List.lookup_cons,e1,e2,beq_self_eq_true]
  have hinj : ∀ p p' q,piR b c p=some q -> piR b c p'=some q -> p=p':=by
   intro p p' q h1 h2
   cases p <;> cases p' <;> simp only [piR] at h1 h2 <;> split at h1 <;> split at h2 <;> simp_all
   all_goals (obtain rfl:=h1;cases h2;try exact ⟨rfl,rfl⟩)
  have nn : ∀ x : Nat,(none : Option Nat) ≠ some x:=fun x e=>by cases e
  refine ⟨_,_,ho.move (b:=b) (nb:=none) (π:=piR b c) (ρb:=fun p=>match p with | .r _=>{ ρ (.r c) with sz:=sz } | .n _ i off=>ρ (.n c i off)) (ks:=[(b,true)]) hinj (fun p q hq=>?_) (fun k e=>(by cases e)) (Nat.le_refl _) (fun p hp hne=>⟨(b,true),by simp,?_⟩) (Mem.le_refl _) ho.apart (fun s hs=>?_) (fun _ _ _ _ _=>rfl)
   (fun x hx hxb=>?_) (fun _ _=>.inl ⟨sz,b9 sz n row,aJ lkb,?_⟩) (fun l' e _=>by rw [hL] at e;cases e)⟩
  ·right
   have : q.root=c:=by
    cases p <;> simp only [piR] at hq <;> split at hq <;> cases hq <;> rfl
   rw [this,aJ lkc];rfl
  ·cases p with
   | r x=>simp only [Pa.root] at hp;simp [bQ,hp]
   | n x i off=>simp only [Pa.root] at hp;simp [bQ,hp]
  ·by_cases e : s=t
   ·subst e
    refine .inr (.inr ⟨.slice (some p) n n,getElem?_put_same (by rw [h.size];exact ht),?_⟩)
    rw [aJ (d:=.ref (.r b) 0 n) (by simp),am rfl]
    have h1:=hv ρ ω ho
    simp only [av] at h1 ⊢
    simp only [mvρ,Pa.root,if_true]
    have hr5:=ho.roots c sz0 [row] hc0 hf
    rcases hr5 with ⟨e0,_⟩ | ⟨_,hr5⟩
    ·cases e0
    ·obtain ⟨hs5,vs5,T5,_,hl5,hb5,hu5,_⟩:=hr5
     have e5 : row.length=sz0:=hu5 row (by simp)
     have e6 : n * sz=sz0:=by omega
     cases h1
     refine .inr ⟨n,?_,Nat.le_refl _,?_,by omega⟩
     ·simp
     ·simp only [List.length_cons,List.length_nil,Nat.zero_add,Nat.one_mul] at hb5 ⊢
      omega
   ·left
    rcases bv (f:=f) (ks:=[(b,true)]) (lk s e (by omega) (by omega)) with h2 | h2
    ·exact .inl h2
    ·exact .inr ⟨h2.1,getElem?_put e,h2.2⟩
  ·by_cases e : x=c
   ·subst e;left;rw [aJ lkc];rfl
   ·exact bI (lk x (by omega) hxb e)
  ·have hr5:=ho.roots c sz0 [row] hc0 hf
   rcases hr5 with ⟨e0,_⟩ | ⟨hω5,hr5⟩
   ·cases e0
   ·obtain ⟨hs5,vs5,T5,hp5,hl5,hb5,hu5,hc5⟩:=hr5
    have e5 : row.length=sz0:=hu5 row (by simp)
    refine .inr ⟨?_,?_⟩
    ·simp only [mvρ,Pa.root,if_true]
     exact d5 (nn _) hω5 (by simp [piR]) hinj
    ·simp only [mvρ,Pa.root,if_true]
     refine ⟨rfl,vs5,T5,hp5,hl5,?_,lF n row (by omega),fun i r off d hi hr=>?_⟩
     ·rw [gn]
      simp only [List.length_cons,List.length_nil,Nat.zero_add,Nat.one_mul] at hb5
      show (ρ (.r c)).base + n * sz <= (ρ (.r c)).len
      omega
     ·obtain ⟨g1,g2,g3⟩:=mH n row (by omega) hi hr
      obtain ⟨v,q1,q2⟩:=hc5 0 row (i * sz + off) d rfl g3
      have hd:=hfl d (List.mem_of_getElem? g3)
      have q2 : bP F M ω ρ w c 0 (i * sz + off) d v:=q2
      rw [aV (cc hd)] at q2
      refine ⟨v,?_,by show bP _ _ _ _ _ _ _ _ _ _;rw [aV (cc hd)];exact q2⟩
      rw [show (ρ (.r c)).base + 0 * sz0 + (i * sz + off)=(ρ (.r c)).base + i * sz + off by omega] at q1
      exact q1
theorem xZ (h : SR F nt S L w0 M0 f M a w) {t : Nat} (hd : o.dst=some t) (ht : t < nt) (hL : L (rt t 0)=none) {len sz : Nat} {x : Opd} {x' : Operand} {T : TypeId} (ho : o.op=.slice T x' none none none) (hx : aj F x x'=true)
  (hk : fP P T len sz=true) (hmc : len <= 16777216) (hr : ay C f (some t) K (.slM len sz x)) : o.wp P a w (PostX F nt S L w0 M0 f K) Q:=by
 simp only [ay] at hr
 split at hr
 ·rename_i c i off ex
  obtain ⟨rfl,rfl,hne,hr⟩:=hr
  split at hr
  ·rename_i sz0 row hf
   obtain ⟨h0,h0',hrow,hfl,hK⟩:=hr
   obtain ⟨ρ,ω,hO⟩:=h.own
   have hxv:=hO.opd hx
   rw [ex,am rfl] at hxv
   have hxv2 : a.eval x'=.pointer (some ⟨(ρ (.r c)).blk,(ρ (.r c)).base + 0 * (ρ (.r c)).sz + 0,none⟩):=by simpa only [av] using hxv
   obtain ⟨p,hp⟩ : ∃ p : Addr,p=⟨(ρ (.r c)).blk,(ρ (.r c)).base + 0 * (ρ (.r c)).sz + 0,none⟩:=⟨_,rfl⟩
   rw [<- hp] at hxv2
   unfold fP at hk
   split at hk
   ·rename_i l e hu
    simp only [Bool.and_eq_true,beq_iff_eq] at hk
    obtain ⟨rfl,hz⟩:=hk
    have ha : P.arrayLen T=l:=by simp only [Program.arrayLen,hu]
    have he : P.elem T=e:=by simp only [Program.elem,hu]
    have hrun : (execOp a.eval o).run P w=.ok (.value (.slice (some p) l l)) w:=by
     have hrun:=run_sliceAt_array_all (P:=P) (w:=w) (t:=T) (a:=p) (by rw [ha,he];exact hu)
     simp only [execOp,ho,hxv2,Option.map_none,Sem.run_bind,hrun,he,ha,cq hz,Result.andThen_ok,Sem.run_pure,slicedAt,Nat.zero_mul,Nat.sub_zero]
     rw [if_neg (by omega)]
     rfl
    refine postX_val hd hrun hK (h.slm ht (rt_big t 0) hL (Ne.symm hne) hf h0 hmc h0' hrow hfl (fun ρ' ω' hO'=>?_))
    have h7:=hO'.opd hx
    rw [ex,am rfl,hxv2] at h7
    exact h7
   ·cases hk
  ·exact hr.elim
 ·exact hr.elim
theorem rA (h : SR F nt S L w0 M0 f M a w) {t : Nat} (hd : o.dst=some t) (ht : t < nt) (hL : L (rt t 0)=none) {x : Opd} {x' : Operand} (ho : o.op=.move x' \/ o.op=.assign x') (hx : aj F x x'=true)
  (hr : ay C f (some t) K (.asg x)) : o.wp P a w (PostX F nt S L w0 M0 f K) Q:=by
 simp only [ay] at hr
 have hrun : (execOp a.eval o).run P w=.ok (.value (a.eval x')) w:=by rcases ho with ho | ho <;> simp [execOp,ho]
 split at hr
 ·rename_i c k n ex
  split at hr
  ·exact postX_val hd hrun hr (h.put ht (fun ρ ω hO=>by have:=hO.opd hx;rwa [ex] at this))
  ·rename_i hne
   split at hr
   ·rename_i sz es hf
    exact postX_val hd hrun hr (h.asg ht (rt_big t 0) hL (Ne.symm hne) hf (fun ρ ω hO=>by have:=hO.opd hx;rwa [ex,am rfl] at this))
   ·exact hr.elim
 ·exact postX_val hd hrun hr.2 (h.put ht (fun ρ ω hO=>hO.opd hx))
theorem SR.nilo (h : SR F nt S L w0 M0 f M a w) {t sz : Nat} (ht : t < nt) (hL : L (rt t 0)=none) (hsz : 0 < sz) : SR F nt S L w0 M0 (eff [(t,.ref (.r (rt t 0)) 0 0),(rt t 0,.blk sz [])] [(rt t 0,true)] f) M (a.put (some t) (.slice none 0 0)) w:=h.nilA ht hL hsz none
theorem pv (h : SR F nt S L w0 M0 f M a w) {t : Nat} (hd : o.dst=some t) (ht : t < nt) (hL : L (rt t 0)=none) {sz : Nat} {x' : Operand} (ho : o.op=.move x' \/ o.op=.assign x') (hx : aj F (.c .nils) x'=true)
  (hr : ay C f (some t) K (.nilo sz)) : o.wp P a w (PostX F nt S L w0 M0 f K) Q:=by
 simp only [ay] at hr
 have hv:=h.opd hx (by simp [vd,isV])
 simp only [vd,af] at hv
 have hrun : (execOp a.eval o).run P w=.ok (.value (.slice none 0 0)) w:=by rcases ho with ho | ho <;> simp [execOp,ho,hv]
 exact postX_val hd hrun hr.2 (h.nilo ht hL hr.1)
def qM (P : Program) (t sz by_ : Nat) : Bool:=match P.underlying t with
 | some (.slice e)=>(match P.info? e with
  | some i=>i.size == sz && i.bytes == by_ && decide (0 < by_) && decide (0 < sz) && (match i.zero with
   | some z=>z.cells.size == sz
   | none=>false)
  | none=>false)
 | _=>false
theorem me (h : SR F nt S L w0 M0 f M a w) (hO : Own F L (mt S w0) f M a w ρ ω) {mv : Bool} {y : Opd} {y' : Operand} (hy : aj F y y'=true) {sz : Nat} {K : List (List D) -> List Nat -> Prop} (hr : eN f mv (vd f y) sz K) :
  ∃ rowsY bs c2,K rowsY bs /\ bs=Option.toList c2 /\ (∀ c,c2=some c -> ∃ sz' es,f c=.blk sz' es) /\ (∀ r ∈ rowsY,r.length=sz) /\ ∃ (A : Option Addr) (m cap : Nat) (news : List Value),a.eval y'=.slice A m cap /\ rowsY.length=m /\ news.length=m * sz /\
   (0 < m -> ∃ ad,A=some ad /\ ∀ j u,news[j]? = some u -> w.cell? (ad.add j)=some u) /\ (∀ u ∈ news,u.oneCell'=true) /\
   (∀ (i : Nat) (r : List D) (off : Nat) (d : D),rowsY[i]? = some r -> r[off]? = some d -> ∃ u,news[i * sz + off]? = some u /\ fg F M ω ρ w c2 i off d u):=by
 have hyv:=hO.opd hy
 unfold eN at hr
 split at hr
 ·rename_i ey
  rw [ey] at hyv
  simp only [bg,av,af] at hyv
  exact ⟨[],[],none,hr,rfl,fun c e=>(by cases e),by simp,none,0,0,[],hyv,rfl,by simp,fun h=>absurd h (by omega),by simp,fun i r off d h=>by simp at h⟩
 ·rename_i es ey
  rw [ey] at hyv
  have hyv' : af F M (.sl es) (a.eval y'):=hyv
  simp only [af] at hyv'
  obtain ⟨A,cap,vs,sz',e1,hcap,r,hs,ha⟩:=hyv'
  obtain ⟨hu,hK⟩:=hr
  have hrl:=aZ.flat.1 r
  have hfl : es.flatten.length=es.length * sz:=by
   rw [List.length_flatten]
   have : es.map List.length=List.replicate es.length sz:=by
    rw [List.eq_replicate_iff]
    exact ⟨by simp,fun x hx=>by obtain ⟨e,he,rfl⟩:=List.mem_map.1 hx;exact (hu e he).1⟩
   rw [this];simp
  refine ⟨es,[],none,hK,rfl,fun c e=>(by cases e),fun r hr=>(hu r hr).1,A,es.length,cap,vs,e1,rfl,by rw [hrl.length,hfl],fun hm=>?_,fun u hu'=>?_,fun i r off d hi hr=>?_⟩
  ·obtain ⟨ad,rfl,c⟩:=ha hm
   exact ⟨ad,rfl,fun j u hj=>h.holds _ _ (c j u hj)⟩
  ·obtain ⟨j,hj,e⟩:=List.mem_iff_getElem.1 hu'
   have hj2 : j < es.flatten.length:=by rw [<- hrl.length];exact hj
   obtain ⟨u',k1,k2⟩:=hrl.get (List.getElem?_eq_getElem hj2)
   have : u'=u:=by rw [List.getElem?_eq_getElem hj] at k1;simp at k1;rw [<- k1];exact e
   subst this
   obtain ⟨e',he',hc⟩:=List.mem_flatten.1 (List.getElem_mem hj2)
   exact oneCell_of k2 ((hu e' he').2 _ hc)
  ·have hsz : sz'=sz:=(hs r (List.mem_of_getElem? hi)).symm.trans (hu r (List.mem_of_getElem? hi)).1
   subst hsz
   have h1:=r |> fun _=>aZ.at_ (F:=F) (M:=M) ‹aZ F M es vs› hs hi
   obtain ⟨u,k1,k2⟩:=h1.get hr
   rw [List.getElem?_take] at k1
   split at k1
   ·rw [List.getElem?_drop] at k1
    exact ⟨u,k1,cc ((hu r (List.mem_of_getElem? hi)).2 d (List.mem_of_getElem? hr)),k2⟩
   ·cases k1
 ·rename_i p k n ey
  rw [ey,am rfl] at hyv
  simp only [av] at hyv
  have real : ∀ {sz' : Nat} {es : List (List D)},aT f p=some (sz',es) -> sz'=sz -> k + n <= es.length -> (∀ e ∈ (es.drop k).take n,∀ c ∈ e,isC c=true) ->
    ∃ (A : Option Addr) (cap : Nat) (news : List Value),a.eval y'=.slice A n cap /\ news.length=n * sz /\ (0 < n -> ∃ ad,A=some ad /\ ∀ j u,news[j]? = some u -> w.cell? (ad.add j)=some u) /\ (∀ u ∈ news,u.oneCell'=true) /\ (∀ r ∈ (es.drop k).take n,r.length=sz) /\
     (∀ (i : Nat) (r : List D) (off : Nat) (d : D),((es.drop k).take n)[i]? = some r -> r[off]? = some d -> ∃ u,news[i * sz + off]? = some u /\ lB F M ω ρ w p (k + i) off d u):=by
   rintro sz' es hg rfl hkn hC
   obtain ⟨hP,_⟩:=hO.get (bV hO hg) hg
   have nil : n=0 -> ∀ A cap,a.eval y'=.slice A n cap -> ∃ (A : Option Addr) (cap : Nat) (news : List Value),a.eval y'=.slice A n cap /\ news.length=n * sz' /\ (0 < n -> ∃ ad,A=some ad /\ ∀ j u,news[j]? = some u -> w.cell? (ad.add j)=some u) /\ (∀ u ∈ news,u.oneCell'=true) /\ (∀ r ∈ (es.drop k).take n,r.length=sz') /\
     (∀ (i : Nat) (r : List D) (off : Nat) (d : D),((es.drop k).take n)[i]? = some r -> r[off]? = some d -> ∃ u,news[i * sz' + off]? = some u /\ lB F M ω ρ w p (k + i) off d u):=by
    rintro rfl A cap e
    exact ⟨A,cap,[],e,by simp,fun h=>absurd h (by omega),by simp,by simp,fun i r off d h=>by simp at h⟩
   rcases hyv with ⟨hn0,A,e1⟩ | ⟨cap,e1,hcap,hfit,hmc⟩
   ·exact nil hn0 A 0 (by rw [e1,hn0])
   ·rcases hP with ⟨he,_⟩ | ⟨hω,h0,vs,T,h1,h2,h3,h4,h5⟩
    ·exact nil (by rw [he] at hkn;simp at hkn;omega) _ cap e1
    ·rw [h0] at hfit e1
     have e3 : (k + cap) * sz'=k * sz' + cap * sz':=Nat.add_mul _ _ _
     have e4 : n * sz' <= cap * sz':=Nat.mul_le_mul_right _ hcap
     have hvl : ((vs.drop ((ρ p).base + k * sz')).take (n * sz')).length=n * sz':=by
      simp only [List.length_take,List.length_drop];omega
     have huR : ∀ r ∈ (es.drop k).take n,r.length=sz':=fun r hr=>h4 r (List.mem_of_mem_drop (List.mem_of_mem_take hr))
     have cell : ∀ (i : Nat) (r : List D) (off : Nat) (d : D),((es.drop k).take n)[i]? = some r -> r[off]? = some d -> ∃ u,((vs.drop ((ρ p).base + k * sz')).take (n * sz'))[i * sz' + off]? = some u /\ lB F M ω ρ w p (k + i) off d u:=by
      intro i r off d hi hr
      have hin : i < n:=by have:=(List.getElem?_eq_some_iff.1 hi).1;simp at this;omega
      have hof : off < sz':=by rw [<- huR r (List.mem_of_getElem? hi)];exact (List.getElem?_eq_some_iff.1 hr).1
      rw [List.getElem?_take_of_lt hin,List.getElem?_drop] at hi
      obtain ⟨u,z1,z2⟩:=h5 (k + i) r off d hi hr
      refine ⟨u,?_,z2⟩
      rw [getElem?_slice (eK hin hof),<- z1,Nat.add_mul]
      congr 1
      omega
     refine ⟨_,cap,_,e1,hvl,fun _=>⟨_,rfl,fun j u hj=>?_⟩,fun u hu=>?_,huR,cell⟩
     ·have hjl : j < n * sz':=by rw [<- hvl];exact (List.getElem?_eq_some_iff.1 hj).1
      rw [getElem?_slice hjl] at hj
      rw [cB]
      simp [World.cell?,h1,hj]
     ·obtain ⟨j,hj,e⟩:=List.mem_iff_getElem.1 hu
      have hjn : j < n * sz':=by omega
      have hz : 0 < sz':=by
       rcases Nat.eq_zero_or_pos sz' with h | h
       ·subst h;simp at hjn
       ·exact h
      have hi : j / sz' < n:=(Nat.div_lt_iff_lt_mul hz).2 hjn
      have ho : j % sz' < sz':=Nat.mod_lt _ hz
      have hl : ((es.drop k).take n).length=n:=by simp;omega
      have hr1 : ((es.drop k).take n)[j / sz']? = some (((es.drop k).take n)[j / sz']'(by omega)):=List.getElem?_eq_getElem _
      have hr2:=huR _ (List.mem_of_getElem? hr1)
      obtain ⟨u',z1,z2⟩:=cell _ _ (j % sz') _ hr1 (List.getElem?_eq_getElem (by omega))
      rw [show j / sz' * sz' + j % sz'=j from by rw [Nat.mul_comm];exact Nat.div_add_mod _ _] at z1
      rw [List.getElem?_eq_getElem hj] at z1
      simp only [Option.some.injEq] at z1
      rw [<- e,z1]
      have hc:=hC _ (List.mem_of_getElem? hr1) _ (List.mem_of_getElem? (List.getElem?_eq_getElem (show j % sz' < (((es.drop k).take n)[j / sz']'(by omega)).length by omega)))
      cases p with
      | r b =>
       generalize (((es.drop k).take n)[j / sz']'(by omega))[j % sz']'(by omega)=dd at z2 hc
       by_cases hdo : isO dd=true
       ·cases dd <;> simp only [isO,Bool.false_eq_true] at hdo
        obtain ⟨z3,_⟩:=z2
        simp only [av] at z3
        rcases z3 with ⟨_,A,rfl⟩ | ⟨cap,rfl,_⟩ <;> rfl
       ·have hdo' : isO dd=false:=by simpa using hdo
        have z4 : bP F M ω ρ w b (k + j / sz') (j % sz') dd u':=z2
        rw [aV hdo'] at z4
        exact oneCell_of z4 (by simpa [isC,hdo'] using hc)
      | n b i0 o0 =>
       generalize (((es.drop k).take n)[j / sz']'(by omega))[j % sz']'(by omega)=dd at z2 hc
       have z4 : af F M dd u':=z2
       have hdo' : isO dd=false:=by cases dd <;> first | rfl | (simp [af] at z4)
       exact oneCell_of z4 (by simpa [isC,hdo'] using hc)
  split at hr
  ·obtain ⟨rfl,hr⟩:=hr
   split at hr
   ·rename_i b
    split at hr
    ·rename_i sz' es hf
     obtain ⟨e2,e3,hC,hK⟩:=hr
     have hg : aT f (.r b)=some (sz',es):=by simp [aT,hf]
     have htake : (es.drop 0).take n=es:=by rw [List.drop_zero];exact List.take_of_length_le (by omega)
     obtain ⟨A,cap,news,k1,k2,k3,k4,k5,k6⟩:=real hg e2 (by omega) (by rw [htake];exact hC)
     rw [htake] at k5 k6
     refine ⟨es,[b],some b,hK,rfl,fun c e=>(by cases e;exact ⟨_,_,hf⟩),k5,A,n,cap,news,k1,e3,k2,k3,k4,fun i r off d hi hr=>?_⟩
     obtain ⟨u,z1,z2⟩:=k6 i r off d hi hr
     rw [Nat.zero_add] at z2
     exact ⟨u,z1,z2⟩
    ·exact hr.elim
   ·exact hr.elim
  ·split at hr
   ·rename_i sz' es hg
    obtain ⟨e2,hkn,hC,hK⟩:=hr
    obtain ⟨A,cap,news,k1,k2,k3,k4,k5,k6⟩:=real hg e2 hkn (fun e he c hc=>by simp [isC,hC e he c hc])
    refine ⟨_,[],none,hK,rfl,fun c e=>(by cases e),k5,A,n,cap,news,k1,by simp;omega,k2,k3,k4,fun i r off d hi hr=>?_⟩
    obtain ⟨u,z1,z2⟩:=k6 i r off d hi hr
    have hdo:=cc (hC r (List.mem_of_getElem? hi) d (List.mem_of_getElem? hr))
    refine ⟨u,z1,hdo,?_⟩
    cases p with
    | r b=>exact (aV hdo) ▸ (show bP F M ω ρ w b (k + i) off d u from z2)
    | n b i0 o0=>exact z2
   ·exact hr.elim
 ·exact hr.elim
end
end Go.Gv

namespace Go.Gv
open Go.RowKit
section
variable {P : Program} {F : Fid} {C : Nat -> List D -> D -> List D -> Prop} {nt : Nat} {S : Nat -> Prop} {L : Nat -> Option Loc} {w0 : World} {M0 : Mem} {f : Nat -> D} {M : Mem} {a : Act} {w : World} {o : Oper} {d : D} {Q : Exit -> Act -> World -> Prop} {ρ : Pa -> Loc} {ω : Nat -> Option Pa} {New : Nat -> Prop} {K : List (Nat × D) -> List (Nat × Bool) -> Prop}
theorem qj {x y : List (Nat × D)} {s : Nat} : (x++y).lookup s=match x.lookup s with
  | some d=>some d
  | none=>y.lookup s:=by
 induction x with
 | nil=>rfl
 | cons p x ih =>
  obtain ⟨k,d⟩:=p
  simp only [List.cons_append,List.lookup_cons]
  cases s == k with
  | true=>rfl
  | false=>exact ih
theorem sm {c2 : Option Nat} {s : Nat} : (cz c2.toList).lookup s=if c2=some s then some .any else none:=by
 cases c2 with
 | none=>rfl
 | some c =>
  simp only [cz,Option.toList_some,List.map_cons,List.map_nil,List.lookup_cons,List.lookup_nil]
  by_cases e : s=c
  ·subst e;simp
  ·have e1 : (s == c)=false:=by simpa using e
   rw [e1,if_neg (fun h=>e (Option.some.inj h).symm)]
theorem nk {t b sz n m : Nat} {rows rowsY : List (List D)} {src : Option (Pa × Nat)} {c2 : Option Nat} {wsS : List (Nat × D)} (hn : rows.length=n) (hm : rowsY.length=m) (ht : t < 10000) (hb : 10000 <= b) (hbs : aL src ≠ some b) (hb2 : c2 ≠ some b) (h2 : ∀ c,c2=some c -> aL src ≠ some c)
  (hc2 : ∀ c,c2=some c -> 10000 <= c) (hcs : ∀ c,aL src=some c -> 10000 <= c) (hS : ∀ s,aL src ≠ some s -> wsS.lookup s=none) (hSr : ∀ c k,src=some (.r c,k) -> wsS.lookup c=some .any)
  (hSn : ∀ c i o k,src=some (.n c i o,k) -> ∃ sz0 es0,f c=.blk sz0 es0 /\ wsS.lookup c=some (.blk sz0 (bj es0 i o 1 [.any])) /\ ∃ row0,es0[i]? = some row0 /\ o < row0.length) :
  zO f (eff ((t,.ref (.r b) 0 (n + m))::(b,.blk sz (rows++rowsY))::(wsS++cz c2.toList)) [(b,true)] f) t b sz n m rows rowsY src c2:=by
 have lk : ∀ s,s ≠ t -> s ≠ b -> ((t,D.ref (.r b) 0 (n + m))::(b,.blk sz (rows++rowsY))::(wsS++cz c2.toList)).lookup s=match wsS.lookup s with
   | some d=>some d
   | none=>if c2=some s then some .any else none:=fun s h1 h2=>by
  have e1 : (s == t)=false:=by simpa using h1
  have e2 : (s == b)=false:=by simpa using h2
  simp only [List.lookup_cons,e1,e2]
  rw [qj,sm]
 refine ⟨hn,hm,hbs,hb2,h2,aJ (by simp),aJ ?_,fun s hs hst=>?_,fun c hc hcb h3 h4=>?_,fun c hc=>?_,fun c k hs=>?_,fun c i o k hs=>?_⟩
 ·have e1 : (b == t)=false:=by simp;omega
  simp only [List.lookup_cons,e1,beq_self_eq_true]
 ·refine bv ?_
  rw [lk s hst (by omega),hS s (fun e=>by have:=hcs s e;omega),if_neg (fun e=>by have:=hc2 s e;omega)]
 ·refine bI ?_
  rw [lk c (by omega) hcb,hS c h3,if_neg h4]
 ·rw [aJ (d:=.any)]
  ·rfl
  ·have:=hc2 c hc
   rw [lk c (by omega) (fun e=>hb2 (by rw [hc,e])),hS c (h2 c hc),if_pos hc]
 ·have h5 : aL src=some c:=by rw [hs];rfl
  have:=hcs c h5
  rw [aJ (d:=.any)]
  ·rfl
  ·rw [lk c (by omega) (fun e=>hbs (by rw [h5,e])),hSr c k hs]
 ·have h5 : aL src=some c:=by rw [hs];rfl
  have:=hcs c h5
  obtain ⟨sz0,es0,h6,h7,h8⟩:=hSn c i o k hs
  refine ⟨sz0,es0,h6,aJ ?_,h8⟩
  rw [lk c (by omega) (fun e=>hbs (by rw [h5,e])),h7]
theorem ry (h : SR F nt S L w0 M0 f M a w) {t : Nat} (hd : o.dst=some t) (ht : t < nt) (hL : L (rt t 0)=none) {sz by_ : Nat} {mv : Bool} {x y : Opd} {x' y' : Operand} {T ty : TypeId} (ho : o.op=.call { callee:=.builtin .append,args:=#[x',y'],argTypes:=#[T,T] }) (hty : o.type=ty) (hx : aj F x x'=true) (hy : aj F y y'=true)
  (hk : qM P T sz by_=true) (hr : ay C f (some t) K (.app sz by_ mv x y)) : o.wp P a w (PostX F nt S L w0 M0 f K) Q:=by
 simp only [ay] at hr
 obtain ⟨ρ,ω,hO⟩:=h.own
 have ht10 : t < 10000:=by have:=h.hnt;omega
 obtain ⟨rowsY,bs,c2,⟨hbs,hK⟩,rfl,hc2,huY,A2,m,cap2,news,ey,hm,hnl,hA2,hone,hY⟩:=me h hO hy hr
 have hb2 : c2 ≠ some (rt t 0):=by
  rintro rfl
  simp at hbs
 have hc2b : ∀ c,c2=some c -> 10000 <= c:=fun c e=>by obtain ⟨_,_,e2⟩:=hc2 c e;exact hO.big e2
 unfold qM at hk
 split at hk
 ·rename_i e hu
  split at hk
  ·rename_i i hi
   simp only [Bool.and_eq_true,beq_iff_eq,decide_eq_true_eq] at hk
   obtain ⟨⟨⟨⟨hs,hby⟩,hb0⟩,hs0⟩,hz⟩:=hk
   split at hz
   ·rename_i z hzero
    simp only [beq_iff_eq] at hz
    subst hs
    subst hby
    subst hm
    have fin : ∀ {n : Nat} {rows : List (List D)} {src : Option (Pa × Nat)} {wsS : List (Nat × D)},(n + rowsY.length) * i.bytes <= 140737488355328 -> zO f (eff ((t,.ref (.r (rt t 0)) 0 (n + rowsY.length))::(rt t 0,.blk i.size (rows++rowsY))::(wsS++cz c2.toList)) [(rt t 0,true)] f) t (rt t 0) i.size n rowsY.length rows rowsY src c2 ->
      tg f i.size n rows (vd f x) src -> (∀ p k,src=some (p,k) -> 10000 <= p.root) -> isX (vd f x)=false -> K ((t,.ref (.r (rt t 0)) 0 (n + rowsY.length))::(rt t 0,.blk i.size (rows++rowsY))::(wsS++cz c2.toList)) [(rt t 0,true)] -> o.wp P a w (PostX F nt S L w0 M0 f K) Q:=by
     intro n rows src wsS hbytes hF hsrc hp0 hX hK
     have r0:=hO.opd hx
     rw [am hX] at r0
     obtain ⟨A,cap,olds,g1,g2,g3,g4,g5,g6,g7⟩:=h.app hO (e:=e) ht hL hs0 hF hsrc hp0 r0 huY hnl hY
     have h63 : n + rowsY.length <= 9223372036854775807:=by
      have : (n + rowsY.length) * 1 <= (n + rowsY.length) * i.bytes:=Nat.mul_le_mul_left _ hb0
      omega
     obtain ⟨v',w',k1,k2⟩:=mg (P:=P) (w:=w) T ty e i z hu hi hzero hz A n cap olds g2 g3 g4 g5 A2 rowsY.length cap2 news hnl hA2 hone g6 hbytes h63
     refine postX_val hd (v:=v') (w':=w') ?_ hK (g7 v' w' k2)
     simp only [execOp,ho,hty,resolve,invoke,builtin,List.map_toArray,List.map_cons,List.map_nil,g1,ey,Sem.run_bind,Sem.run_pure,Result.andThen_ok,k1]
    split at hK
    ·rename_i ex
     obtain ⟨hbytes,hK⟩:=hK
     refine fin (n:=0) (rows:=[]) (src:=none) (wsS:=[]) (by simpa using hbytes) (nk rfl rfl ht10 (rt_big t 0) (by simp [aL]) hb2 (by simp [aL]) hc2b (by simp [aL]) (by simp) (by simp) (by simp)) (by rw [ex];exact ⟨rfl,rfl,rfl⟩) (by simp) (by rw [ex];rfl) (by simpa using hK)
    ·rename_i c k n ex
     obtain ⟨hcb,hcbs,hK⟩:=hK
     split at hK
     ·rename_i sz' es hf
      obtain ⟨rfl,hkn,hbytes,hK⟩:=hK
      have hcbig:=hO.big hf
      have hl : ((es.drop k).take n).length=n:=by simp;omega
      refine fin (n:=n) (rows:=(es.drop k).take n) (src:=some (.r c,k)) (wsS:=[(c,.any)]) hbytes (nk hl rfl ht10 (rt_big t 0) (by simpa [aL,Pa.root] using hcb) hb2 (fun c' e'=>?_) hc2b (fun c' e'=>?_) (fun s hs=>d3 (fun e'=>hs (by rw [e'];rfl))) (fun c' k' e'=>?_) (by simp)) (by rw [ex];exact ⟨rfl,rfl,es,by simp [aT,hf],hkn,rfl⟩) (fun p k' e'=>by cases e';exact hcbig) (by rw [ex];rfl) hK
      ·simp only [aL,Pa.root,ne_eq,Option.some.injEq]
       rintro rfl
       rw [e'] at hcbs;simp at hcbs
      ·simp only [aL,Pa.root,Option.some.injEq] at e';omega
      ·cases e';simp
     ·exact hK.elim
    ·rename_i c i0 o0 k n ex
     obtain ⟨hcb,hcbs,hK⟩:=hK
     split at hK
     ·rename_i sz0 es0 hf
      obtain ⟨row0,hi0,es,ho0,hkn,hbytes,hK⟩:=hK
      have hcbig:=hO.big hf
      have hl : ((es.drop k).take n).length=n:=by simp;omega
      refine fin (n:=n) (rows:=(es.drop k).take n) (src:=some (.n c i0 o0,k)) (wsS:=[(c,.blk sz0 (bj es0 i0 o0 1 [.any]))]) hbytes (nk hl rfl ht10 (rt_big t 0) (by simpa [aL,Pa.root] using hcb) hb2 (fun c' e'=>?_) hc2b (fun c' e'=>?_) (fun s hs=>d3 (fun e'=>hs (by rw [e'];rfl))) (by simp) (fun c' i' o' k' e'=>?_)) (by rw [ex];exact ⟨rfl,rfl,es,by simp [aT,hf,hi0,ho0],hkn,rfl⟩) (fun p k' e'=>by cases e';exact hcbig) (by rw [ex];rfl) hK
      ·simp only [aL,Pa.root,ne_eq,Option.some.injEq]
       rintro rfl
       rw [e'] at hcbs;simp at hcbs
      ·simp only [aL,Pa.root,Option.some.injEq] at e';omega
      ·cases e'
       exact ⟨sz0,es0,hf,by simp,row0,hi0,(List.getElem?_eq_some_iff.1 ho0).1⟩
     ·exact hK.elim
    ·exact hK.elim
   ·cases hz
  ·cases hk
 ·cases hk
end
end Go.Gv

namespace Go.Gv
open Go.RowKit
open Go.Maps (Keyed IsMap)
def intTy (P : Program) (q : IntKind) (t : TypeId) : Bool := match P.underlying t with
 | some (.int q') => q' == q
 | _ => false
def shOk (P : Program) (k : TypeId) : KSh -> Bool
 | .int q => intTy P q k
 | .str => match P.underlying k with
  | some .string => true
  | _ => false
 | .bool => match P.underlying k with
  | some .bool => true
  | _ => false
 | .ints q n => P.keyType k && decide (k < P.types.size) && P.keyTypeAt 3 k && P.cellsOf k == n && match P.underlying k with
  | some (.array n' e) => n' == n && intTy P q e && P.cellsOf e == 1
  | some (.struct fs) => fs.size == n && fs.toList.zipIdx.all fun p => p.1.offset == p.2 && intTy P q p.1.type && P.cellsOf p.1.type == 1 && p.1.name != "_"
  | _ => false
theorem intTy_u {P : Program} {q : IntKind} {t : TypeId} (h : intTy P q t = true) : P.underlying t = some (.int q) := by
 unfold intTy at h
 split at h
 ·rename_i q' e; simp only [beq_iff_eq] at h; rw [e, h]
 ·cases h
theorem sh_keyed {P : Program} {k : TypeId} {sh : KSh} (hl : laidOutB P = true) (h : shOk P k sh = true) : Keyed P k := by
 cases sh with
 | int q => exact Maps.int_keyed (intTy_u h)
 | str =>
  simp only [shOk] at h
  split at h
  ·rename_i e; exact Maps.string_keyed e
  ·cases h
 | bool =>
  simp only [shOk] at h
  split at h
  ·rename_i e; exact Maps.bool_keyed e
  ·cases h
 | ints q n =>
  simp only [shOk, Bool.and_eq_true, decide_eq_true_eq] at h
  obtain ⟨⟨⟨⟨h1, h2⟩, h3⟩, h4⟩, h5⟩ := h
  refine Keyed.of_law (deep_law_laid hl (m := 3) (by omega) h2 h3 ?_)
  split at h5
  ·rename_i e; rw [e]
  ·rename_i e; rw [e]
  ·cases h5
theorem mapM_isSome {α β : Type} {f : α -> Option β} : ∀ (l : List α), (∀ x ∈ l, ∃ y, f x = some y) -> ∃ ys, l.mapM f = some ys
 | [], _ => ⟨[], rfl⟩
 | x :: l, h => by
  obtain ⟨y, hy⟩ := h x (by simp)
  obtain ⟨ys, hys⟩ := mapM_isSome l (fun y hy => h y (by simp [hy]))
  exact ⟨y :: ys, by rw [List.mapM_cons, hy, hys]; rfl⟩
theorem sh_key {P : Program} {F : Fid} {M : Mem} {k : TypeId} {sh : KSh} {d : D} {v : Value} (h : shOk P k sh = true) (hd : cX sh d) (r : af F M d v) : ∃ kl, keyOf P k v = some kl := by
 cases sh with
 | int q =>
  cases d <;> simp only [cX] at hd
  obtain ⟨rfl, hw⟩ := hd
  simp only [af] at r
  subst r
  exact ⟨_, Maps.keyOf_int_mk (intTy_u h) hw⟩
 | str =>
  cases d <;> simp only [cX] at hd
  simp only [af] at r
  subst r
  simp only [shOk] at h
  split at h
  ·rename_i e; exact ⟨_, by rw [keyOf, e]; simp only [mapKey, e]; rw [if_pos (by simpa [ByteArray.size] using hd)]⟩
  ·cases h
 | bool =>
  cases d <;> simp only [cX] at hd
  simp only [af] at r
  subst r
  simp only [shOk] at h
  split at h
  ·rename_i e; exact ⟨_, Maps.keyOf_bool_mk e _⟩
  ·cases h
 | ints q n =>
  cases d <;> simp only [cX] at hd
  rename_i ds
  obtain ⟨hn, hd⟩ := hd
  simp only [af] at r
  obtain ⟨vs, rfl, r⟩ := r
  simp only [shOk, Bool.and_eq_true, decide_eq_true_eq, beq_iff_eq] at h
  obtain ⟨⟨⟨⟨h1, h2⟩, h3⟩, h4⟩, h5⟩ := h
  have hl : vs.length = n := by rw [r.length, hn]
  have one : ∀ (e : TypeId) (i : Nat), intTy P q e = true -> i < n -> P.keyLits P.types.size e ((vs.drop i).take 1) = none -> False := by
   intro e i he hi hnone
   have hi' : i < ds.length := by omega
   obtain ⟨v, hv, rv⟩ := r.get (List.getElem?_eq_getElem hi')
   obtain ⟨x, hx, hw⟩ := hd _ (List.getElem_mem hi')
   rw [hx] at rv
   simp only [af] at rv
   have ht : (vs.drop i).take 1 = [v] := by
    obtain ⟨hlt, e1⟩ := List.getElem?_eq_some_iff.1 hv
    rw [List.drop_eq_getElem_cons hlt, e1]
    simp
   rw [ht, rv] at hnone
   obtain ⟨m, hm⟩ : ∃ m, P.types.size = m + 1 := ⟨P.types.size - 1, by have : 0 < P.types.size := Nat.lt_of_le_of_lt (Nat.zero_le k) h2; omega⟩
   rw [hm] at hnone
   simp only [Program.keyLits, intTy_u he] at hnone
   rw [if_pos (by exact ⟨trivial, hw⟩)] at hnone
   cases hnone
  have one' : ∀ (e : TypeId) (i : Nat), intTy P q e = true -> i < n -> ∃ y, P.keyLits P.types.size e ((vs.drop i).take 1) = some y := fun e i he hi => by
   cases hk : P.keyLits P.types.size e ((vs.drop i).take 1) with
   | none => exact (one e i he hi hk).elim
   | some y => exact ⟨y, rfl⟩
  have lits : ∃ ls, P.keyLits (P.types.size + 1) k vs = some ls := by
   unfold Program.keyLits
   split at h5
   ·rename_i n' e hu
    simp only [Bool.and_eq_true, beq_iff_eq] at h5
    obtain ⟨⟨rfl, he⟩, hc⟩ := h5
    rw [hu]
    simp only
    rw [if_pos (by rw [h4, hl])]
    obtain ⟨ys, hys⟩ := mapM_isSome (f := fun i => P.keyLits P.types.size e ((vs.drop (i * P.cellsOf e)).take (P.cellsOf e))) (List.range n') (fun i hi => by
     rw [hc, Nat.mul_one]; exact one' e i he (by simpa using hi))
    rw [hys]
    exact ⟨_, rfl⟩
   ·rename_i fs hu
    simp only [Bool.and_eq_true, beq_iff_eq, List.all_eq_true] at h5
    obtain ⟨hs, hf⟩ := h5
    have fld : ∀ f ∈ fs.toList, ∃ i, i < n /\ f.offset = i /\ intTy P q f.type = true /\ P.cellsOf f.type = 1 /\ (f.name != "_") = true := fun f hfm => by
     obtain ⟨i, hi, e⟩ := List.mem_iff_getElem.1 hfm
     have := hf (f, i) (List.mem_zipIdx_iff_getElem?.2 (by rw [List.getElem?_eq_getElem hi, e]))
     simp only at this
     exact ⟨i, by simpa [hs] using hi, this.1.1.1, this.1.1.2, this.1.2, this.2⟩
    rw [hu]
    simp only
    have hall : (fs.all fun x => x.name != "_") = true := by
     rw [<- Array.all_toList, List.all_eq_true]
     intro f hfm
     obtain ⟨_, _, _, _, _, h⟩ := fld f hfm
     exact h
    rw [if_pos ⟨by rw [h4, hl], hall⟩]
    obtain ⟨ys, hys⟩ := mapM_isSome (f := fun f : Field => P.keyLits P.types.size f.type ((vs.drop f.offset).take (P.cellsOf f.type))) fs.toList (fun f hfm => by
     obtain ⟨i, hi, e1, e2, e3, _⟩ := fld f hfm
     rw [e1, e3]; exact one' _ i e2 hi)
    rw [hys]
    exact ⟨_, rfl⟩
   ·cases h5
  obtain ⟨ls, hls⟩ := lits
  have hform : (Value.agg vs.toArray).formed P k = true := by
   unfold Value.formed
   split at h5
   ·rename_i e; simp only [e]; simp [h4, hl]
   ·rename_i e; simp only [e]; simp [h4, hl]
   ·cases h5
  refine ⟨.string (keyBytes ls), ?_⟩
  unfold keyOf
  split at h5
  ·rename_i e
   rw [e]
   simp only [h1, hform, Bool.and_self, if_true, Value.cells, List.toList_toArray, hls]
   rfl
  ·rename_i e
   rw [e]
   simp only [h1, hform, Bool.and_self, if_true, Value.cells, List.toList_toArray, hls]
   rfl
  ·cases h5
theorem keyOk_fl {sh : KSh} {d : D} (h : cX sh d) : ij d = true := by
 cases sh <;> cases d <;> simp only [cX] at h <;> try rfl
 rename_i ds
 simp only [ij, List.all_eq_true]
 intro x hx
 obtain ⟨y, rfl, _⟩ := h.2 x hx
 rfl
theorem eqD1_iff {F : Fid} {M M' : Mem} {x k : D} {u v : Value} (hx : fl1 x = true) (hk : fl1 k = true) (ru : af F M x u) (rv : af F M' k v) : nA x k = true ↔ u = v := by
 cases x <;> simp only [fl1, Bool.false_eq_true] at hx <;> cases k <;> simp only [fl1, Bool.false_eq_true] at hk <;> simp only [af] at ru rv <;> subst ru <;> subst rv <;> simp [nA]
theorem eqDs_iff {F : Fid} {M M' : Mem} : ∀ {xs ks : List D} {us vs : List Value}, xs.all fl1 = true -> ks.all fl1 = true -> ap F M xs us -> ap F M' ks vs -> (nB xs ks = true ↔ us = vs)
 | [], [], us, vs, _, _, ru, rv => by simp only [ap] at ru rv; subst ru; subst rv; simp [nB]
 | [], k :: ks, us, vs, _, _, ru, rv => by
  simp only [ap] at ru rv
  obtain ⟨v, r, rfl, _⟩ := rv
  subst ru
  simp [nB]
 | x :: xs, [], us, vs, _, _, ru, rv => by
  simp only [ap] at ru rv
  obtain ⟨v, r, rfl, _⟩ := ru
  subst rv
  simp [nB]
 | x :: xs, k :: ks, us, vs, hx, hk, ru, rv => by
  simp only [ap] at ru rv
  obtain ⟨u, us', rfl, r1, r2⟩ := ru
  obtain ⟨v, vs', rfl, r3, r4⟩ := rv
  simp only [List.all_cons, Bool.and_eq_true] at hx hk
  simp only [nB, Bool.and_eq_true, List.cons.injEq]
  rw [eqD1_iff hx.1 hk.1 r1 r3, eqDs_iff hx.2 hk.2 r2 r4]
theorem eqD_iff {F : Fid} {M M' : Mem} {x k : D} {u v : Value} (hx : ij x = true) (hk : ij k = true) (ru : af F M x u) (rv : af F M' k v) : eqD x k = true ↔ u = v := by
 have pl : ∀ {d : D} {w : Value} {M : Mem}, fl1 d = true -> af F M d w -> ∀ vs, w ≠ .agg vs := fun {d w M} h r vs e => by
  cases d <;> simp only [fl1, Bool.false_eq_true] at h <;> simp only [af] at r <;> rw [r] at e <;> cases e
 by_cases ax : ∃ xs, x = .agg xs
 ·obtain ⟨xs, rfl⟩ := ax
  simp only [af] at ru
  obtain ⟨us, rfl, ru⟩ := ru
  by_cases ak : ∃ ks, k = .agg ks
  ·obtain ⟨ks, rfl⟩ := ak
   simp only [af] at rv
   obtain ⟨vs, rfl, rv⟩ := rv
   simp only [ij] at hx hk
   have := eqDs_iff hx hk ru rv
   simp only [eqD]
   rw [this]
   constructor
   ·rintro rfl; rfl
   ·intro h
    injection h with h
    simpa using h
  ·have hk1 : fl1 k = true := by
    cases k <;> first | exact hk | (exact absurd ⟨_, rfl⟩ ak)
   have e1 : eqD (.agg xs) k = nA (.agg xs) k := by
    cases k <;> first | rfl | (exact absurd ⟨_, rfl⟩ ak)
   have e2 : nA (.agg xs) k = false := by cases k <;> rfl
   rw [e1, e2]
   exact ⟨fun h => absurd h (by simp), fun h => absurd h.symm (pl hk1 rv _)⟩
 ·have hx1 : fl1 x = true := by
   cases x <;> first | exact hx | (exact absurd ⟨_, rfl⟩ ax)
  by_cases ak : ∃ ks, k = .agg ks
  ·obtain ⟨ks, rfl⟩ := ak
   simp only [af] at rv
   obtain ⟨vs, rfl, rv⟩ := rv
   have e1 : eqD x (.agg ks) = false := by
    cases x <;> first | rfl | (exact absurd ⟨_, rfl⟩ ax)
   rw [e1]
   exact ⟨fun h => absurd h (by simp), fun h => absurd h (pl hx1 ru _)⟩
  ·have hk1 : fl1 k = true := by
    cases k <;> first | exact hk | (exact absurd ⟨_, rfl⟩ ak)
   have e1 : eqD x k = nA x k := by
    cases x <;> first | rfl | (exact absurd ⟨_, rfl⟩ ax)
   rw [e1]
   exact eqD1_iff hx1 hk1 ru rv
section
variable {F : Fid} {kt et : Nat}
theorem k8.isMap : ∀ {ks vs : List D} {d : DataW Empty}, k8 F kt et ks vs d -> IsMap d
 | [], [], d, h => ⟨[], h⟩
 | [], _ :: _, d, h => h.elim
 | _ :: _, [], d, h => h.elim
 | k :: ks, v :: vs, d, h => by
  obtain ⟨d', kv, kl, vv, vd, h1, rfl, _⟩ := h
  exact (k8.isMap h1).put _ _
theorem k8.at_ (K : Keyed F.P (F.ty kt)) {M : Mem} {x : D} {xv : Value} {xl : Lit} (hx : ij x = true) (rx : af F M x xv) (hk : keyOf F.P (F.ty kt) xv = some xl) : ∀ {ks vs : List D} {d : DataW Empty}, k8 F kt et ks vs d -> (∀ k ∈ ks, ij k = true) ->
  (dz ks vs x = none /\ Maps.has d xl = false) \/ ∃ v vv vd, dz ks vs x = some v /\ Maps.has d xl = true /\ af F (fun _ => none) v vv /\ plainElem F.P (F.ty et) vv = some (vd, []) /\ ∀ z, d.atKey xl z = vd
 | [], [], d, h, _ => by
  simp only [k8] at h
  subst h
  exact .inl ⟨rfl, rfl⟩
 | [], _ :: _, d, h, _ => h.elim
 | _ :: _, [], d, h, _ => h.elim
 | k :: ks, v :: vs, d, h, hf => by
  obtain ⟨d', kv, kl, vv, vd, h1, rfl, h3, h4, h5, h6⟩ := h
  have he := eqD_iff hx (hf k (by simp)) rx h3
  simp only [dz]
  cases hb : eqD x k with
  | true =>
   have e1 : xv = kv := he.1 hb
   subst e1
   rw [hk] at h4
   cases h4
   right
   exact ⟨v, vv, vd, rfl, Maps.has_put_same (k8.isMap h1) (K.key hk) _, h5, h6, fun z => Maps.atKey_put_same (k8.isMap h1) (K.key hk) _ z⟩
  | false =>
   have hne : xl ≠ kl := fun e => by
    subst e
    have := K.inj hk h4
    rw [he.2 this] at hb
    cases hb
   simp only [Bool.false_eq_true, if_false]
   rw [Maps.has_put_other hne]
   rcases k8.at_ K hx rx hk h1 (fun k hk => hf k (by simp [hk])) with h7 | ⟨v', vv', vd', g1, g2, g3, g4, g5⟩
   ·exact .inl h7
   ·exact .inr ⟨v', vv', vd', g1, g2, g3, g4, fun z => (Maps.atKey_put_other hne _ z).trans (g5 z)⟩
end
def mapOk (F : Fid) (t kt et : Nat) (sh : KSh) (z : D) : Bool := shOk F.P (F.ty kt) sh && (match F.P.underlying t with
  | some (.map k e) => k == F.ty kt && e == F.ty et
  | _ => false) && match F.P.info? (F.ty et), F.P.underlying (F.ty et), z with
   | some i, some (.int q), .int q' n => q == q' && n == 0 && (match i.zero with
    | some (.int q'' n'') => q'' == q && n'' == 0
    | _ => false)
   | some i, some .bool, .bool b => b == false && (match i.zero with
    | some (.bool b) => b == false
    | _ => false)
   | some i, some .string, .str s => s.isEmpty && (match i.zero with
    | some (.string s) => s.data.toList.isEmpty
    | _ => false)
   | _, _, _ => false
section
variable {P : Program} {F : Fid} {nt : Nat} {S : Nat -> Prop} {L : Nat -> Option Loc} {w0 : World} {M0 : Mem} {f : Nat -> D} {M : Mem} {a : Act} {w : World} {o : Oper} {d : D} {Q : Exit -> Act -> World -> Prop} {ρ : Pa -> Loc} {ω : Nat -> Option Pa} {New : Nat -> Prop} {C : Nat -> List D -> D -> List D -> Prop} {K : List (Nat × D) -> List (Nat × Bool) -> Prop}
theorem wp_skip_map {K : Act -> World -> Prop} {w' : World} (h : (execOp a.eval o).run P w = .ok .skip w') (hk : K (a.put o.dst undef) w') : o.wp P a w K Q := by
 unfold Oper.wp
 rw [h]
 exact hk
theorem plain_inj {e : TypeId} {u v : Value} {d : DataW Empty} {ps qs : List MemPlace} (hu : plainElem P e u = some (d, ps)) (hv : plainElem P e v = some (d, qs)) : u = v := by
 unfold plainElem at hu hv
 split at hu
 ·rename_i he
  rw [he] at hv
  cases v <;> simp only [reduceCtorEq] at hv
  simp only [Option.some.injEq, Prod.mk.injEq] at hu hv
  have := hu.1.trans hv.1.symm
  cases this
  rfl
 ·rename_i he
  split at hu
  ·rename_i h1
   rw [he] at hv
   cases v <;> simp only [reduceCtorEq] at hv
   split at hv
   ·rename_i h2
    simp only [Option.some.injEq, Prod.mk.injEq] at hu hv
    have := hu.1.trans hv.1.symm
    obtain ⟨rfl, _⟩ := h1
    obtain ⟨rfl, _⟩ := h2
    cases this
    rfl
   ·cases hv
  ·cases hu
 ·rename_i he
  split at hu
  ·rw [he] at hv
   cases v <;> simp only [reduceCtorEq] at hv
   split at hv
   ·rename_i s1 _ s2 _
    simp only [Option.some.injEq, Prod.mk.injEq] at hu hv
    have := hu.1.trans hv.1.symm
    injection this with this
    injection this with this
    obtain ⟨s1⟩ := s1
    obtain ⟨s2⟩ := s2
    simp only at this
    rw [Array.ext' this.symm]
   ·cases hv
  ·cases hu
 ·cases hu
theorem Own.bigM (h : Own F L New f M a w ρ ω) {b kt et : Nat} {ks vs : List D} (e : f b = .mp kt et ks vs) : 10000 <= b := by
 rcases Nat.lt_or_ge b 10000 with hb | hb
 ·rcases h.slots b hb with h1 | ⟨v, _, h1⟩
  ·rw [e] at h1; cases h1
  ·rw [e] at h1; simp [bg, av, af] at h1
 ·exact hb
theorem snd_mkm (h : SR F nt S L w0 M0 f M a w) {t : Nat} (hd : o.dst = some t) (ht : t < nt) (hL : L (rt t 0) = none) {kt et : Nat} {T : TypeId} (ho : o.op = .makeMap T none)
  (hr : K [(t, .mrf (rt t 0)), (rt t 0, .mp kt et [] [])] [(rt t 0, true)]) : o.wp P a w (PostX F nt S L w0 M0 f K) Q := by
 have hrun : (execOp a.eval o).run P w = .ok (.value (.map (some w.heap.size))) (w.alloc (.map #[] 0)) := by
  simp only [execOp, ho, Option.map_none, Sem.run_bind, run_makeMap, Result.andThen_ok, Sem.run_pure]
 refine postX_val (M := M) hd hrun hr ?_
 have hbw := alloc_below w (.map #[] 0)
 have hs : (w.alloc (.map #[] 0)).heap.size = w.heap.size + 1 := by simp
 have hb0 := rt_big t 0
 generalize hb : rt t 0 = b at *
 refine { hnt := h.hnt, size := by simp [Act.put, h.size], defers := by simp [Act.put, h.defers], ch := h.ch.trans (Ch.of_below hbw (fun _ => False)) (fun _ _ e => e.elim), holds := fun p v hp => ?_, ext := h.ext, fresh := h.fresh, own := ?_ }
 ·have h1 := h.holds p v hp
  rw [hbw.cell (World.block_lt_of_cell? w p h1)]
  exact h1
 ·obtain ⟨ρ, ω, hO⟩ := h.own
  have ht10 : t < 10000 := by have := h.hnt; omega
  have lk : ∀ s, s ≠ t -> s ≠ b -> [(t, D.mrf b), (b, .mp kt et [] [])].lookup s = none := fun s h1 h2 => by
   have e1 : (s == t) = false := by simpa using h1
   have e2 : (s == b) = false := by simpa using h2
   simp only [List.lookup_cons, e1, e2, List.lookup_nil]
  have lkb : [(t, D.mrf b), (b, .mp kt et [] [])].lookup b = some (.mp kt et [] []) := by
   have e1 : (b == t) = false := by simp; omega
   simp only [List.lookup_cons, e1, beq_self_eq_true]
  have hMn : ∀ p : Addr, p.block = w.heap.size -> M p = none := fun p hp => by
   rcases hq : M p with _ | u
   ·rfl
   ·have := World.block_lt_of_cell? w p (h.holds p u hq); omega
  refine ⟨_, _, hO.move (b := b) (nb := some w.heap.size) (π := fun _ => none) (ρb := fun p => match p with | .r _ => ⟨w.heap.size, 0, 0, 0⟩ | .n _ _ _ => ρ p) (ks := [(b, true)]) (fun p p' q e => (by cases e)) (fun p q e => (by cases e)) (fun k e => ?_) hbw.size (fun p hp hne => ⟨(b, true), by simp, ?_⟩) (Mem.le_refl _) hO.apart (fun s hs' => ?_) (fun k q hk _ _ => hbw.block k (hO.lt k q hk))
   (fun c hc hcb => ?_) (fun _ _ => .inr ⟨kt, et, [], [], aJ lkb, ?_⟩) (fun l' e _ => by rw [hL] at e; cases e)⟩
  ·cases e
   exact ⟨Nat.le_refl _, by omega, .inr h.ch.size, hMn⟩
  ·cases p with
   | r c => simp only [Pa.root] at hp; simp [bQ, hp]
   | n c i off => exact absurd rfl hne
  ·by_cases e : s = t
   ·subst e
    refine .inr (.inr ⟨_, getElem?_put_same (by rw [h.size]; exact ht), ?_⟩)
    rw [aJ (d := .mrf b) (by simp), am rfl]
    simp [av, mvρ, Pa.root]
   ·left
    rcases bv (f := f) (ks := [(b, true)]) (lk s e (by omega)) with h2 | h2
    ·exact .inl h2
    ·exact .inr ⟨h2.1, getElem?_put e, h2.2⟩
  ·exact bI (lk c (by omega) hcb)
  ·have e1 : mvρ b (fun p => match p with | .r _ => (⟨w.heap.size, 0, 0, 0⟩ : Loc) | .n _ _ _ => ρ p) ρ (.r b) = ⟨w.heap.size, 0, 0, 0⟩ := by simp [mvρ, Pa.root]
   refine ⟨by rw [e1]; exact nN rfl, ?_⟩
   rw [e1]
   exact ⟨0, .map [], Nat.le_refl _, World.ownsMap_made w _ _ _, by simp, rfl⟩
theorem SR.mapPut (h : SR F nt S L w0 M0 f M a w) (hO : Own F L (mt S w0) f M a w ρ ω) {b kt et : Nat} {ks vs ks' vs' : List D} (hf : f b = .mp kt et ks vs) {w' : World} {es : Array MapEntry} {clock : Nat} (hw : w' = ChangeMaps.setBlock w (ρ (.r b)).blk (.map es clock)) (hm : zQ F w' (ρ (.r b)).blk kt et ks' vs') :
  SR F nt S L w0 M0 (eff [(b, .mp kt et ks' vs')] [] f) M a w' := by
 have hb := hO.bigM hf
 have hroot := hO.maps b kt et ks vs hb hf
 obtain ⟨hω, n0, d0, hn0, hown, hfl, hmd⟩ := hroot
 have hlt := hown.lt
 obtain ⟨es0, cl0, hb0, _⟩ := hown
 have rest : ∀ k, k ≠ (ρ (.r b)).blk -> w'.heap[k]? = w.heap[k]? := fun k hk => by rw [hw]; exact ChangeMaps.heap_setBlock_other hb0 _ hk
 have hsz : w'.heap.size = w.heap.size := by rw [hw]; simp [ChangeMaps.setBlock]
 have hMb : ∀ p : Addr, p.block = (ρ (.r b)).blk -> M p = none := fun p hp => hO.apart p (.r b) (by rw [hp]; exact hω)
 have hfb : eff [(b, .mp kt et ks' vs')] [] f b = .mp kt et ks' vs' := aJ (by simp)
 have lk : ∀ s, s ≠ b -> [(b, D.mp kt et ks' vs')].lookup s = none := fun s h1 => by
  have e1 : (s == b) = false := by simpa using h1
  simp only [List.lookup_cons, e1, List.lookup_nil]
 refine { hnt := h.hnt, size := h.size, defers := h.defers, ch := nu h.ch (hO.new _ _ hω) rest hsz (by rw [hw]; rfl) (by rw [hw]; rfl) (by rw [hw]; rfl) (by rw [hw]; exact Nat.le_refl _), holds := fun p v hp => ?_, ext := h.ext, fresh := h.fresh, own := ⟨ρ, ω, ?_⟩ }
 ·have hne : p.block ≠ (ρ (.r b)).blk := fun e => by rw [hMb p e] at hp; cases hp
  rw [World.cell?_of_block (rest _ hne)]
  exact h.holds p v hp
 ·refine hO.step (ks := []) (fun p hp => absurd rfl hp) (Mem.le_refl _) (Nat.le_of_eq hsz.symm) (fun t ht => .inl ?_) (fun c hc => ?_) (fun k p e => .inl ⟨p, e⟩) hO.apart (fun c l hc hl hB => ⟨rfl, ?_⟩)
  ·rcases bv (f := f) (ks := []) (lk t (by omega)) with h2 | h2
   ·exact .inl h2
   ·exact .inr ⟨h2.1, rfl, h2.2⟩
  ·by_cases e : c = b
   ·subst e
    exact .inr (.inr ⟨kt, et, ks', vs', hfb, hω, hm⟩)
   ·rcases bv (f := f) (ks := []) (lk c e) with h2 | h2
    ·exact .inl (.inl (by rw [h2]; rfl))
    ·exact .inl (.inr ⟨h2.1, fun p hp => ⟨rfl, fun ho => ⟨ho, rest _ (fun e' => by
      rw [e', hω] at ho
      cases ho
      exact e hp.symm)⟩⟩⟩)
  ·by_cases e : c = b
   ·subst e; rw [hf]; rfl
   ·rcases bv (f := f) (ks := []) (lk c e) with h2 | h2
    ·rw [h2] at hB; cases hB
    ·rw [<- h2.1]; exact hB
theorem mapOk_ty {t kt et : Nat} {sh : KSh} {z : D} (h : mapOk F t kt et sh z = true) : shOk F.P (F.ty kt) sh = true /\ F.P.underlying t = some (.map (F.ty kt) (F.ty et)) /\ ∃ zv zd, (∀ w, (zeroValue (F.ty et)).run F.P w = .ok zv w) /\ af F (fun _ => none) z zv /\ plainElem (H := Empty) F.P (F.ty et) zv = some (zd, []) /\
  ∀ (M : Mem) (v : D) (vv : Value), hG z v -> af F M v vv -> af F (fun _ => none) v vv /\ ∃ vd, plainElem (H := Empty) F.P (F.ty et) vv = some (vd, []) := by
 unfold mapOk at h
 simp only [Bool.and_eq_true] at h
 obtain ⟨⟨h1, h2⟩, h3⟩ := h
 refine ⟨h1, ?_, ?_⟩
 ·split at h2
  ·rename_i e; simp only [Bool.and_eq_true, beq_iff_eq] at h2; rw [e, h2.1, h2.2]
  ·cases h2
 ·split at h3
  ·rename_i i q q' n hi hu
   simp only [Bool.and_eq_true, beq_iff_eq] at h3
   obtain ⟨⟨rfl, rfl⟩, h3⟩ := h3
   split at h3
   ·rename_i q'' n'' hz
    simp only [Bool.and_eq_true, beq_iff_eq] at h3
    obtain ⟨rfl, rfl⟩ := h3
    exact ⟨.int q'' 0, _, fun w => by simp [zeroValue, typeInfo, hi, hz], rfl, plainElem_int hu (by cases q'' <;> decide), fun M v vv hv r => by
     cases v <;> simp only [hG] at hv
     obtain ⟨rfl, hv⟩ := hv
     refine ⟨r, ?_⟩
     simp only [af] at r
     subst r
     exact ⟨_, plainElem_int hu hv⟩⟩
   ·cases h3
  ·rename_i i b hi hu
   simp only [Bool.and_eq_true, beq_iff_eq] at h3
   obtain ⟨rfl, h3⟩ := h3
   split at h3
   ·rename_i b hz
    simp only [beq_iff_eq] at h3
    subst h3
    exact ⟨.bool false, _, fun w => by simp [zeroValue, typeInfo, hi, hz], rfl, plainElem_bool hu _, fun M v vv hv r => by
     cases v <;> simp only [hG] at hv
     refine ⟨r, ?_⟩
     simp only [af] at r
     subst r
     exact ⟨_, plainElem_bool hu _⟩⟩
   ·cases h3
  ·rename_i i s hi hu
   simp only [Bool.and_eq_true, List.isEmpty_iff] at h3
   obtain ⟨rfl, h3⟩ := h3
   split at h3
   ·rename_i s hz
    simp only [List.isEmpty_iff] at h3
    obtain ⟨s⟩ := s
    simp only at h3
    have hs : s = #[] := by simpa using h3
    subst hs
    exact ⟨.string ⟨#[]⟩, _, fun w => by simp [zeroValue, typeInfo, hi, hz], rfl, plainElem_string hu (by decide), fun M v vv hv r => by
     cases v <;> simp only [hG] at hv
     refine ⟨r, ?_⟩
     simp only [af] at r
     subst r
     exact ⟨_, plainElem_string hu (by simpa [ByteArray.size] using hv)⟩⟩
   ·cases h3
  ·cases h3
theorem af.noMem {d : D} {v : Value} (h : af F (fun _ => none) d v) : af F M d v := af.mono (fun _ _ e => by cases e) _ _ h
theorem key_flat {d : D} {v : Value} (hd : ij d = true) (h : af F M d v) : af F (fun _ => none) d v := by
 have one : ∀ {d : D} {v : Value}, fl1 d = true -> af F M d v -> af F (fun _ => none) d v := fun {d v} hd h => by
  cases d <;> simp only [fl1, Bool.false_eq_true] at hd <;> exact h
 have lst : ∀ {ds : List D} {vs : List Value}, ds.all fl1 = true -> ap F M ds vs -> ap F (fun _ => none) ds vs := by
  intro ds
  induction ds with
  | nil => intro vs _ h; exact h
  | cons d ds ih =>
   intro vs hd h
   simp only [List.all_cons, Bool.and_eq_true] at hd
   obtain ⟨v, r, e, h1, h2⟩ := h
   exact ⟨v, r, e, one hd.1 h1, ih hd.2 h2⟩
 cases d
 case agg ds =>
  simp only [af] at h ⊢
  obtain ⟨vs, e, h⟩ := h
  exact ⟨vs, e, lst hd h⟩
 all_goals exact one hd h
theorem snd_mpl (hl : laidOutB F.P = true) (h : SR F nt S L w0 M0 f M a w) (hp : bA nt f o.dst) {sh : KSh} {kt et : Nat} {ok : Bool} {z : D} {m x : Opd} {m' x' : Operand} {t : TypeId} (ho : o.op = .lookup t m' x' ok) (hm : aj F m m' = true) (hx : aj F x x' = true)
  (hk : mapOk F t kt et sh z = true) (hP : P = F.P) (hr : res f (· = d) (.mpl sh kt et ok z m x)) : o.wp P a w (bF F nt S L w0 M0 f o.dst d) Q := by
 subst hP
 obtain ⟨k1, k2, zv, zd, k3, k4, k5, _⟩ := mapOk_ty hk
 have KK := sh_keyed hl k1
 simp only [res] at hr
 split at hr
 ·rename_i b em
  split at hr
  ·rename_i kt' et' ks vs hf
   obtain ⟨rfl, rfl, hkey, hr⟩ := hr
   have hfl := keyOk_fl hkey
   have rx := h.opd hx (by cases hd : vd f x <;> rw [hd] at hfl <;> first | rfl | (simp [ij, fl1] at hfl))
   obtain ⟨xl, hxl⟩ := sh_key k1 hkey rx
   refine br h hp (fun ρ ω hO => ?_)
   have rm := hO.opd hm
   rw [em, am rfl] at rm
   simp only [av] at rm
   obtain ⟨hω, n, dm, hn, hown, hks, hmd⟩ := hO.maps b _ _ ks vs (hO.bigM hf) hf
   have hat := k8.at_ KK hfl rx hxl hmd hks
   have got : ∃ gv, af F (fun _ => none) ((dz ks vs (vd f x)).getD z) gv /\ Maps.has dm xl = (dz ks vs (vd f x)).isSome /\ ∃ ps, plainElem F.P (F.ty et') gv = some (dm.atKey xl zd, ps) := by
    rcases hat with ⟨g1, g2⟩ | ⟨v, vv, vd', g1, g2, g3, g4, g5⟩
    ·rw [g1, g2]
     exact ⟨zv, k4, rfl, [], by rw [Maps.atKey_of_not_has g2]; exact k5⟩
    ·rw [g1, g2]
     exact ⟨vv, g3, rfl, [], by rw [g5]; exact g4⟩
   obtain ⟨gv, q1, q2, ps, q3⟩ := got
   cases ok with
   | false =>
    simp only at hr
    subst hr
    obtain ⟨v, ps', hrun, hv⟩ := hown.lookup KK k2 (k3 w) k5 hxl
    have := plain_inj hv q3
    subst this
    refine ⟨v, bg.of_pure q1.noMem, ?_⟩
    simp only [execOp, ho, rm, Sem.run_bind, hrun, Result.andThen_ok, Sem.run_pure]
   | true =>
    simp only at hr
    subst hr
    obtain ⟨v, ps', hrun, hv⟩ := hown.look_ok KK k2 (k3 w) k5 hxl
    have := plain_inj hv q3
    subst this
    rw [q2] at hrun
    refine ⟨.tuple #[v, .bool (dz ks vs (vd f x)).isSome], bg.of_pure ?_, ?_⟩
    ·simp only [af]
     exact ⟨[_, _], rfl, by simp only [ap, af]; exact ⟨_, _, rfl, q1.noMem, _, _, rfl, rfl, rfl⟩⟩
    ·simp only [execOp, ho, rm, Sem.run_bind, hrun, Result.andThen_ok, Sem.run_pure]
  ·exact hr.elim
 ·exact hr.elim
theorem snd_mpu (hl : laidOutB F.P = true) (h : SR F nt S L w0 M0 f M a w) (hd : o.dst = none) {sh : KSh} {kt et : Nat} {z : D} {m x v : Opd} {m' x' v' : Operand} {t : TypeId} (ho : o.op = .mapUpdate t m' x' v') (hm : aj F m m' = true) (hx : aj F x x' = true) (hv : aj F v v' = true)
  (hk : mapOk F t kt et sh z = true) (hP : P = F.P) (hr : ay C f none K (.mpu sh kt et z m x v)) : o.wp P a w (PostX F nt S L w0 M0 f K) Q := by
 subst hP
 obtain ⟨k1, k2, _, _, _, _, _, k6⟩ := mapOk_ty hk
 have KK := sh_keyed hl k1
 simp only [ay] at hr
 obtain ⟨_, hr⟩ := hr
 split at hr
 ·rename_i b em
  split at hr
  ·rename_i kt' et' ks vs hf
   obtain ⟨rfl, rfl, hroom, hkey, hel, hr⟩ := hr
   have hfl := keyOk_fl hkey
   have rx := h.opd hx (by cases hd : vd f x <;> rw [hd] at hfl <;> first | rfl | (simp [ij, fl1] at hfl))
   have rv := h.opd hv (by cases hd : vd f v <;> rw [hd] at hel <;> first | rfl | (cases z <;> simp [hG] at hel))
   obtain ⟨xl, hxl⟩ := sh_key k1 hkey rx
   obtain ⟨rv0, vdt, hvd⟩ := k6 M _ _ hel rv
   obtain ⟨ρ, ω, hO⟩ := h.own
   have rm := hO.opd hm
   rw [em, am rfl] at rm
   simp only [av] at rm
   obtain ⟨hω, n, dm, hn, hown, hks, hmd⟩ := hO.maps b _ _ ks vs (hO.bigM hf) hf
   obtain ⟨w', hrun, hown', es, clock, es', clock', hbk, hw'⟩ := hown.store KK k2 (Nat.lt_of_le_of_lt hn hroom) hxl hvd
   refine wp_skip_map ?_ ?_ (w' := w')
   ·simp only [execOp, ho, rm, Sem.run_bind, hrun, Result.andThen_ok, Sem.run_pure]
   ·rw [hd]
    refine ⟨_, _, M, hr, ?_⟩
    refine h.mapPut hO hf hw' ⟨n + 1, _, by simp; omega, hown', ?_, dm, _, xl, _, vdt, hmd, rfl, key_flat hfl rx, hxl, rv0, hvd⟩
    intro k hk
    rcases List.mem_cons.1 hk with rfl | hk
    ·exact hfl
    ·exact hks k hk
  ·exact hr.elim
 ·exact hr.elim
end
end Go.Gv

namespace Go.Gv
open Go.RowKit
section
variable {P : Program} {F : Fid} {nt : Nat} {S : Nat -> Prop} {L : Nat -> Option Loc} {w0 : World} {M0 : Mem} {f : Nat -> D} {M : Mem} {a : Act} {w : World} {o : Oper} {d : D} {Q : Exit -> Act -> World -> Prop}
def gF (P : Program) (c t : Nat) : Bool:=tyS P t 1 false && match P.underlying t with
 | some (.int _)=>c == 0
 | some .bool=>c == 1
 | some .string=>c == 2
 | _=>false
def oG (P : Program) : Nat -> List Nat -> List Field -> Bool
 | _,[],[]=>true
 | i,c::cs,fl::fs=>fl.offset == i && !(fl.name == "_") && gF P c fl.type && oG P (i + 1) cs fs
 | _,_,_=>false
theorem xG {P : Program} {t : Nat} : gF P 9 t=false:=by
 unfold gF
 split <;> simp
theorem uf {P : Program} {i : Nat} {fs : List Field} : oG P i [9] fs=false:=by
 cases fs <;> simp [oG,xG]
theorem u7 {P : Program} {t : Nat} : gF P 8 t=false:=by
 unfold gF
 split <;> simp
theorem yM {P : Program} {i : Nat} {fs : List Field} : oG P i [8] fs=false:=by
 cases fs <;> simp [oG,u7]
def nD (P : Program) (t : Nat) (ks : List Nat) : Bool:=match P.underlying t with
 | some .bool=>ks == []
 | some (.slice _)=>ks == [9]
 | some (.pointer _)=>ks == [8]
 | some (.struct fs)=>!(ks == []) && !P.stoodInHeld t && !P.eqGuardType P.depth t && oG P 0 ks fs.toList
 | _=>false
theorem oF {c : Nat} {ks : List Nat} {x y : D} {xs ys : List D} {r : Bool} (h : cl (c::ks) (x::xs) (y::ys)=some r) : ∃ r1 r2,cl [c] [x] [y]=some r1 /\ cl ks xs ys=some r2 /\ r=(r1 && r2):=by
 unfold cl at h
 split at h
 ·rename_i e _ _;cases e
 ·rename_i ks' k a xs' k' b ys' e0 e1 e2
  simp only [List.cons.injEq] at e0 e1 e2
  obtain ⟨rfl,rfl⟩:=e0;obtain ⟨rfl,rfl⟩:=e1;obtain ⟨rfl,rfl⟩:=e2
  split at h
  ·rename_i hk
   subst hk
   rw [Option.map_eq_some_iff] at h
   obtain ⟨r2,h1,rfl⟩:=h
   exact ⟨decide (a=b),r2,by simp [cl],h1,rfl⟩
  ·cases h
 ·rename_i ks' a xs' b ys' e0 e1 e2
  simp only [List.cons.injEq] at e0 e1 e2
  obtain ⟨rfl,rfl⟩:=e0;obtain ⟨rfl,rfl⟩:=e1;obtain ⟨rfl,rfl⟩:=e2
  rw [Option.map_eq_some_iff] at h
  obtain ⟨r2,h1,rfl⟩:=h
  exact ⟨a == b,r2,by simp [cl],h1,rfl⟩
 ·rename_i ks' a xs' b ys' e0 e1 e2
  simp only [List.cons.injEq] at e0 e1 e2
  obtain ⟨rfl,rfl⟩:=e0;obtain ⟨rfl,rfl⟩:=e1;obtain ⟨rfl,rfl⟩:=e2
  rw [Option.map_eq_some_iff] at h
  obtain ⟨r2,h1,rfl⟩:=h
  exact ⟨decide (a=b),r2,by simp [cl],h1,rfl⟩
 ·cases h
theorem rM (a b : List UInt8) : ((⟨a.toArray⟩ : ByteArray) == ⟨b.toArray⟩)=decide (a=b):=by
 have e : ((⟨a.toArray⟩ : ByteArray) == ⟨b.toArray⟩)=(a.toArray == b.toArray):=rfl
 rw [e,Bool.eq_iff_iff];simp
theorem u6 {t c : Nat} (hk : gF P c t=true) {x y : D} {u v : Value} (hu : af F M x u) (hv : af F M y v) {r : Bool} (he : cl [c] [x] [y]=some r) (n : Nat) : (Op.equalIn (n + 1) t u v).run P w=.ok r w:=by
 simp only [gF,Bool.and_eq_true] at hk
 obtain ⟨_,hk⟩:=hk
 split at hk
 ·rename_i k e
  simp only [beq_iff_eq] at hk
  subst hk
  cases x <;> cases y <;> simp only [cl,reduceCtorEq] at he
  split at he
  ·rename_i hkk
   subst hkk
   simp only [af] at hu hv
   subst hu;subst hv
   simp only [Option.map_some,Bool.and_true,Option.some.injEq] at he
   subst he
   simp only [Op.equalIn,Sem.run_bind,run_underlying e,Result.andThen_ok,if_true,Sem.run_pure]
   congr 1
  ·cases he
 ·rename_i e
  simp only [beq_iff_eq] at hk
  subst hk
  cases x <;> cases y <;> simp only [cl,reduceCtorEq] at he
  simp only [af] at hu hv
  subst hu;subst hv
  simp only [Option.map_some,Bool.and_true,Option.some.injEq] at he
  subst he
  simp only [Op.equalIn,Sem.run_bind,run_underlying e,Result.andThen_ok,Sem.run_pure]
 ·rename_i e
  simp only [beq_iff_eq] at hk
  subst hk
  cases x <;> cases y <;> simp only [cl,reduceCtorEq] at he
  simp only [af] at hu hv
  subst hu;subst hv
  simp only [Option.map_some,Bool.and_true,Option.some.injEq] at he
  subst he
  simp only [Op.equalIn,Sem.run_bind,run_underlying e,Result.andThen_ok,Sem.run_pure]
  congr 1
  exact rM _ _
 ·cases hk
theorem mZ {t c : Nat} (hk : gF P c t=true) {vs : List Value} {j : Nat} {v : Value} (hv : vs[j]? = some v) : (part t vs.toArray j).run P w=.ok v w:=by
 simp only [gF,Bool.and_eq_true] at hk
 have hlt:=(List.getElem?_eq_some_iff.1 hv).1
 have:=jO (P:=P) (w:=w) hk.1 (vs:=vs) (off:=j) (by omega)
 rw [this]
 simp only [Bool.false_eq_true,if_false]
 congr 1
 rw [List.drop_eq_getElem_cons hlt]
 simp only [List.headD_cons]
 exact (List.getElem?_eq_some_iff.1 hv).2
def pV (n : Nat) (us vs : Array Value) : Field -> Option Bool × Unit -> Sem (ForInStep (Option Bool × Unit)):=fun f _ =>
       if f.name ≠ "_" then do
        let __do_lift <- part f.type us f.offset
        let __do_lift_1 <- part f.type vs f.offset
        let __do_lift <- Op.equalIn n f.type __do_lift __do_lift_1
        if (!__do_lift)=true then pure (ForInStep.done (some false,()))
         else pure (ForInStep.yield (none,()))
       else pure (ForInStep.yield (none,()))
theorem pn : ∀ (ks : List Nat) (fs : List Field) (j n : Nat) (xs ys : List D) (us vs : List Value),oG P j ks fs=true -> ap F M xs (us.drop j) -> ap F M ys (vs.drop j) -> ∀ {r : Bool},cl ks xs ys=some r ->
  (forIn fs (none,()) (pV (n + 1) us.toArray vs.toArray)).run P w=.ok (if r then none else some false,()) w
 | [],[],j,n,xs,ys,us,vs,_,_,_,r,he=>by
  cases xs <;> cases ys <;> simp [cl] at he
  subst he
  rfl
 | c::ks,fl::fs,j,n,xs,ys,us,vs,hk,hx,hy,r,he=>by
  simp only [oG,Bool.and_eq_true,beq_iff_eq,Bool.not_eq_true',beq_eq_false_iff_ne] at hk
  obtain ⟨⟨⟨rfl,hn⟩,hs⟩,hk⟩:=hk
  cases xs with
  | nil=>cases ys <;> cases c <;> simp [cl] at he
  | cons x xs =>
   cases ys with
   | nil=>cases x <;> (rcases c with _ | _ | _ | c <;> simp [cl] at he)
   | cons y ys =>
    obtain ⟨r1,r2,h1,h2,rfl⟩:=oF he
    simp only [ap] at hx hy
    obtain ⟨u,us',e1,ru,rus⟩:=hx
    obtain ⟨v,vs',e2,rv,rvs⟩:=hy
    have gu : us[fl.offset]? = some u:=by
     have:=congrArg (fun l=>l[0]?) e1
     simpa using this
    have gv : vs[fl.offset]? = some v:=by
     have:=congrArg (fun l=>l[0]?) e2
     simpa using this
    have du : us.drop (fl.offset + 1)=us':=by rw [<- List.drop_drop,e1];rfl
    have dv : vs.drop (fl.offset + 1)=vs':=by rw [<- List.drop_drop,e2];rfl
    rw [List.forIn_cons]
    simp only [pV,ne_eq,hn,not_false_eq_true,if_true,Sem.run_bind,mZ hs gu,mZ hs gv,Result.andThen_ok,u6 hs ru rv h1]
    cases r1 with
    | false=>simp
    | true =>
     simp only [Bool.not_true,Bool.false_eq_true,if_false,Sem.run_pure,Result.andThen_ok,Bool.true_and]
     exact pn ks fs (fl.offset + 1) n xs ys us vs hk (by rw [du];exact rus) (by rw [dv];exact rvs) h2
theorem dD (t : TypeId) (u v : Value) : ∃ m n,m=n + 1 /\ Op.equal t u v=Op.equalIn (m + 1) t u v:=⟨9999,9998,rfl,rfl⟩
theorem xL (h : SR F nt S L w0 M0 f M a w) (hp : bA nt f o.dst) {neg : Bool} {ks : List Nat} {x y : Opd} {x' y' : Operand} {t t' : TypeId} (ho : o.op=.binOp (if neg then .neq else .eql) t x' y' t') (hx : aj F x x'=true) (hy : aj F y y'=true) (hk : nD P t ks=true)
  (hr : res f (·=d) (.beq neg ks x y)) : o.wp P a w (bF F nt S L w0 M0 f o.dst d) Q:=by
 simp only [res] at hr
 have fin : ∀ (u v : Value) (r : Bool),a.eval x'=u -> a.eval y'=v -> (eqGuard (if neg then .neq else .eql) t x' y' u v).run P w=.ok () w -> (binOp (if neg then .neq else .eql) t u v).run P w=.ok (.bool (r != neg)) w -> d=.bool (r != neg) -> o.wp P a w (bF F nt S L w0 M0 f o.dst d) Q:=by
  rintro u v r e1 e2 hg h3 rfl
  refine aK h hp (v:=.bool (r != neg)) rfl ?_
  simp only [execOp,ho,e1,e2,hg,Sem.run_bind,Sem.run_pure,Result.andThen_ok,h3]
 split at hr
 ·rename_i b c ex ey
  obtain ⟨rfl,hr⟩:=hr
  have h1:=h.opd hx (by simp [ex,isV])
  rw [ex] at h1
  have h2:=h.opd hy (by simp [ey,isV])
  rw [ey] at h2
  simp only [af] at h1 h2
  unfold nD at hk
  split at hk
  ·rename_i e
   refine fin _ _ (b == c) h1 h2 (by cases neg <;> simp [eqGuard]) ?_ hr.symm
   have h3 : (Op.equal t (.bool b) (.bool c)).run P w=.ok (b == c) w:=by
    obtain ⟨m,n,hm,this⟩:=dD t (.bool b) (.bool c)
    rw [this]
    simp only [Op.equalIn,Sem.run_bind,run_underlying e,Result.andThen_ok,Sem.run_pure]
   cases neg <;> simp [binOp,h3]
  ·simp at hk
  ·simp at hk
  ·simp at hk
  ·cases hk
 ·rename_i xs ys ex ey
  obtain ⟨hks,hr⟩:=hr
  split at hr
  ·rename_i r he
   have h1:=h.opd hx (by simp [ex,isV])
   rw [ex] at h1
   have h2:=h.opd hy (by simp [ey,isV])
   rw [ey] at h2
   simp only [af] at h1 h2
   obtain ⟨us,e1,r1⟩:=h1
   obtain ⟨vs,e2,r2⟩:=h2
   unfold nD at hk
   split at hk
   ·simp only [beq_iff_eq] at hk
    exact absurd hk hks
   ·simp only [beq_iff_eq] at hk
    subst hk
    cases xs <;> cases ys <;> simp [cl] at he
   ·simp only [beq_iff_eq] at hk
    subst hk
    cases xs <;> cases ys <;> simp [cl] at he
   ·rename_i fs e
    simp only [Bool.and_eq_true,Bool.not_eq_true'] at hk
    obtain ⟨⟨⟨_,hst⟩,hgu⟩,hk⟩:=hk
    refine fin _ _ r e1 e2 (run_eqGuard_agg _ _ t x' y' _ _ hgu) ?_ hr.symm
    have key:=fun n=>pn (P:=P) (w:=w) ks fs.toList 0 n xs ys us vs hk (by simpa using r1) (by simpa using r2) he
    have h3 : (Op.equal t (.agg us.toArray) (.agg vs.toArray)).run P w=.ok r w:=by
     obtain ⟨m,n,hm,this⟩:=dD t (.agg us.toArray) (.agg vs.toArray)
     have key:=key n
     rw [<- hm] at key
     rw [this]
     simp only [Op.equalIn,Sem.run_bind,run_underlying e,Result.andThen_ok,run_program,hst,Bool.false_eq_true,if_false]
     rw [<- Array.forIn_toList]
     unfold pV at key
     erw [key]
     cases r <;> simp
    cases neg <;> simp [binOp,h3]
   ·cases hk
  ·exact hr.elim
 ·rename_i ex ey
  obtain ⟨rfl,hr⟩:=hr
  have h1:=h.opd hx (by simp [ex,isV])
  rw [ex] at h1
  have h2:=h.opd hy (by simp [ey,isV])
  rw [ey] at h2
  simp only [af] at h1 h2
  unfold nD at hk
  split at hk
  ·simp at hk
  ·rename_i e
   refine fin _ _ true h1 h2 (by cases neg <;> simp [eqGuard]) ?_ (by rw [<- hr];cases neg <;> rfl)
   have h3 : (Op.equal t (.slice none 0 0) (.slice none 0 0)).run P w=.ok true w:=by
    obtain ⟨m,n,hm,this⟩:=dD t (.slice none 0 0) (.slice none 0 0)
    rw [this]
    simp only [Op.equalIn,Sem.run_bind,run_underlying e,Result.andThen_ok,Sem.run_pure]
    rfl
   cases neg <;> simp [binOp,h3]
  ·simp at hk
  ·simp [uf] at hk
  ·cases hk
 ·rename_i es ex ey
  obtain ⟨rfl,hr1,hr2⟩:=hr
  have h1:=h.opd hx (by simp [ex,isV])
  rw [ex] at h1
  have h2:=h.opd hy (by simp [ey,isV])
  rw [ey] at h2
  simp only [af] at h1 h2
  obtain ⟨A,cap,vs,sz,e1,_,_,_,hA⟩:=h1
  rcases Nat.eq_zero_or_pos es.length with h0 | hpos
  ·have hd:=hr2 h0
   subst hd
   unfold nD at hk
   split at hk
   ·simp at hk
   ·rename_i e
    obtain ⟨r,hrr⟩ : ∃ r,(Op.equal t (.slice A es.length cap) (.slice none 0 0)).run P w=.ok r w:=by
     obtain ⟨m,n,hm,this⟩:=dD t (.slice A es.length cap) (.slice none 0 0)
     rw [this]
     cases A <;> simp only [Op.equalIn,Sem.run_bind,run_underlying e,Result.andThen_ok,Sem.run_pure]
     ·exact ⟨_,rfl⟩
     ·exact ⟨_,rfl⟩
    refine aK h hp (v:=.bool (r != neg)) (by simp only [af];exact ⟨_,rfl⟩) ?_
    have hg : (eqGuard (if neg then .neq else .eql) t x' y' (.slice A es.length cap) (.slice none 0 0)).run P w=.ok () w:=by cases neg <;> simp [eqGuard]
    have hbn : (binOp (if neg then .neq else .eql) t (.slice A es.length cap) (.slice none 0 0)).run P w=.ok (.bool (r != neg)) w:=by cases neg <;> simp [binOp,hrr]
    simp only [execOp,ho,e1,h2,hg,Sem.run_bind,Sem.run_pure,Result.andThen_ok,hbn]
   ·simp at hk
   ·simp [uf] at hk
   ·cases hk
  have hr:=hr1 hpos
  obtain ⟨ad,rfl,_⟩:=hA hpos
  unfold nD at hk
  split at hk
  ·simp at hk
  ·rename_i e
   refine fin _ _ false e1 h2 (by cases neg <;> simp [eqGuard]) ?_ (by rw [<- hr];cases neg <;> rfl)
   have h3 : (Op.equal t (.slice (some ad) es.length cap) (.slice none 0 0)).run P w=.ok false w:=by
    obtain ⟨m,n,hm,this⟩:=dD t (.slice (some ad) es.length cap) (.slice none 0 0)
    rw [this]
    simp only [Op.equalIn,Sem.run_bind,run_underlying e,Result.andThen_ok,Sem.run_pure]
   cases neg <;> simp [binOp,h3]
  ·simp at hk
  ·simp [uf] at hk
  ·cases hk
 ·rename_i ex ey
  obtain ⟨rfl,hr⟩:=hr
  have h1:=h.opd hx (by simp [ex,isV])
  rw [ex] at h1
  have h2:=h.opd hy (by simp [ey,isV])
  rw [ey] at h2
  simp only [af] at h1 h2
  unfold nD at hk
  split at hk
  ·simp at hk
  ·simp at hk
  ·rename_i e
   refine fin _ _ true h1 h2 (by cases neg <;> simp [eqGuard]) ?_ (by rw [<- hr];cases neg <;> rfl)
   have h3 : (Op.equal t (.pointer none) (.pointer none)).run P w=.ok true w:=by
    obtain ⟨m,n,hm,this⟩:=dD t (.pointer none) (.pointer none)
    rw [this]
    simp only [Op.equalIn,Sem.run_bind,run_underlying e,Result.andThen_ok,Sem.run_pure]
    rfl
   cases neg <;> simp [binOp,h3]
  ·simp [yM] at hk
  ·cases hk
 ·rename_i ds ex ey
  obtain ⟨rfl,hr⟩:=hr
  have h1:=h.opd hx (by simp [ex,isV])
  rw [ex] at h1
  have h2:=h.opd hy (by simp [ey,isV])
  rw [ey] at h2
  simp only [af] at h1 h2
  obtain ⟨ad,vs,e1,_,_⟩:=h1
  unfold nD at hk
  split at hk
  ·simp at hk
  ·simp at hk
  ·rename_i e
   refine fin _ _ false e1 h2 (by cases neg <;> simp [eqGuard]) ?_ (by rw [<- hr];cases neg <;> rfl)
   have h3 : (Op.equal t (.pointer (some ad)) (.pointer none)).run P w=.ok false w:=by
    obtain ⟨m,n,hm,this⟩:=dD t (.pointer (some ad)) (.pointer none)
    rw [this]
    simp only [Op.equalIn,Sem.run_bind,run_underlying e,Result.andThen_ok,Sem.run_pure]
   cases neg <;> simp [binOp,h3]
  ·simp [yM] at hk
  ·cases hk
 ·exact hr.elim
def mV (P : Program) (fi : Nat) (nm : String) : Bool:=match P.funcs[fi]? with
 | some fn=>fn.name == nm && fn.body.isNone && (Extern.allNextRows.lookup fn.origin).isNone
 | none=>false
theorem mW {fi : Nat} {nm : String} {e : Array Value -> Sem Value} (hk : mV P fi nm=true) (h0 : (nm == "runtime.NumGoroutine")=false) (h1 : Extern.allNextRows.lookup nm=none)
  (h2 : ∀ fn : Func,fn.name=nm -> Extern.find fn=some e) (args : Array Value) (w : World) : (callFunc fi args).run P w=((e args).run P w).andThen fun v w'=>.ok (.value v) w':=by
 unfold mV at hk
 split at hk
 ·rename_i fn hf
  simp only [Bool.and_eq_true,beq_iff_eq] at hk
  obtain ⟨⟨h3,h4⟩,h5⟩:=hk
  subst h3
  refine run_callFunc_extern hf h0 h4 ?_ (h2 fn rfl) args w
  have h6 : Extern.allNextRows.lookup fn.origin=none:=by simpa using h5
  simp [Extern.findNext,h1,h6]
 ·cases hk
theorem uc (fn : Func) (h : fn.name= "math/bits.Add64") : Extern.find fn=some add64Entry:=by
 have h1 : Extern.allGenericRows.lookup "math/bits.Add64"=none:=by kernel_rfl
 have h2 : Extern.allTypedRows.lookup "math/bits.Add64"=none:=by kernel_rfl
 have h3 : Extern.allRows.lookup "math/bits.Add64"=some add64Entry:=by kernel_rfl
 simp [Extern.find,h,h1,h2,h3]
def nY : Array Value -> Sem Value:=fun args=>do
 let (x,y,b) <- Extern.MathBitsCarry.three "Sub64" args
 pure (Extern.MathBitsCarry.pair ((x + Extern.MathBitsCarry.m64 - y - b) % Extern.MathBitsCarry.m64) (if x < y + b then 1 else 0))
theorem ud (fn : Func) (h : fn.name= "math/bits.Sub64") : Extern.find fn=some nY:=by
 have h1 : Extern.allGenericRows.lookup "math/bits.Sub64"=none:=by kernel_rfl
 have h2 : Extern.allTypedRows.lookup "math/bits.Sub64"=none:=by kernel_rfl
 have h3 : Extern.allRows.lookup "math/bits.Sub64"=some nY:=by kernel_rfl
 simp [Extern.find,h,h1,h2,h3]
theorem qy (x y c : Int) (hx : 0 <= x) (hx2 : x < 18446744073709551616) (hy : 0 <= y) (hy2 : y < 18446744073709551616) (hc0 : 0 <= c) (hc : c <= 1) (w : World) :
  (nY #[.int .u64 x,.int .u64 y,.int .u64 c]).run P w=.ok (.tuple #[.int .u64 ((x - y - c) % 18446744073709551616),.int .u64 (if x < y + c then 1 else 0)]) w:=by
 have key : ∀ k : Nat,k <= 1 -> (nY #[.int .u64 x,.int .u64 y,.int .u64 (k : Int)]).run P w =
   .ok (Extern.MathBitsCarry.pair ((x.toNat + Extern.MathBitsCarry.m64 - y.toNat - k) % Extern.MathBitsCarry.m64) (if x.toNat < y.toNat + k then 1 else 0)) w:=by
  intro k hk
  have : k=0 \/ k=1:=by omega
  rcases this with rfl | rfl <;> rfl
 obtain ⟨k,rfl⟩:=Int.eq_ofNat_of_zero_le hc0
 rw [key k (by omega)]
 obtain ⟨X,rfl⟩:=Int.eq_ofNat_of_zero_le hx
 obtain ⟨Y,rfl⟩:=Int.eq_ofNat_of_zero_le hy
 have e1 : (((X + 18446744073709551616 - Y - k) % 18446744073709551616 : Nat) : Int)=((X : Int) - Y - k) % 18446744073709551616:=by omega
 have e2 : ((if X < Y + k then 1 else 0 : Nat) : Int)=if (X : Int) < Y + k then 1 else 0:=by split <;> split <;> omega
 simp only [Extern.MathBitsCarry.pair,Extern.MathBitsCarry.m64,Int.toNat_natCast]
 rw [<- e1,<- e2]
 rfl
theorem sH (h : SR F nt S L w0 M0 f M a w) (hp : bA nt f o.dst) {x y c : Opd} {x' y' c' : Operand} {fi : Nat} {ts : Array TypeId} (ho : o.op=.call { callee:=.value (.func fi),args:=#[x',y',c'],argTypes:=ts }) (hn : mV P fi "math/bits.Add64"=true)
  (hx : aj F x x'=true) (hy : aj F y y'=true) (hc : aj F c c'=true) (hr : res f (·=d) (.add64 x y c)) : o.wp P a w (bF F nt S L w0 M0 f o.dst d) Q:=by
 simp only [res] at hr
 split at hr
 ·rename_i a1 b1 k1 ex ey ec
  obtain ⟨h1,h2,h3,h4,h5,h6,rfl⟩:=hr
  have e1:=h.opd hx (by simp [ex,isV])
  have e2:=h.opd hy (by simp [ey,isV])
  have e3:=h.opd hc (by simp [ec,isV])
  rw [ex] at e1;rw [ey] at e2;rw [ec] at e3
  simp only [af] at e1 e2 e3
  refine aK h hp (v:=.tuple #[.int .u64 ((a1 + b1 + k1) % 18446744073709551616),.int .u64 ((a1 + b1 + k1) / 18446744073709551616)]) ?_ ?_
  ·simp only [af]
   exact ⟨[_,_],rfl,by simp [ap,af]⟩
  ·have hrun:=mW hn (by decide) (by kernel_rfl) (fun fn=>uc fn) #[.int .u64 a1,.int .u64 b1,.int .u64 k1] w
   rw [run_add64 a1 b1 k1 h1 h3 h5 h6] at hrun
   simp only [execOp,ho,resolve,Act.eval,Deferred.ofValue,Sem.run_bind,Sem.run_pure,Result.andThen_ok,invoke]
   rw [show (#[]++Array.map a.eval #[x',y',c']++#[])=#[.int .u64 a1,.int .u64 b1,.int .u64 k1] from by simp [e1,e2,e3]]
   exact hrun
 ·exact hr.elim
theorem sQ (h : SR F nt S L w0 M0 f M a w) (hp : bA nt f o.dst) {x y c : Opd} {x' y' c' : Operand} {fi : Nat} {ts : Array TypeId} (ho : o.op=.call { callee:=.value (.func fi),args:=#[x',y',c'],argTypes:=ts }) (hn : mV P fi "math/bits.Sub64"=true)
  (hx : aj F x x'=true) (hy : aj F y y'=true) (hc : aj F c c'=true) (hr : res f (·=d) (.sub64 x y c)) : o.wp P a w (bF F nt S L w0 M0 f o.dst d) Q:=by
 simp only [res] at hr
 split at hr
 ·rename_i a1 b1 k1 ex ey ec
  obtain ⟨h1,h2,h3,h4,h5,h6,rfl⟩:=hr
  have e1:=h.opd hx (by simp [ex,isV])
  have e2:=h.opd hy (by simp [ey,isV])
  have e3:=h.opd hc (by simp [ec,isV])
  rw [ex] at e1;rw [ey] at e2;rw [ec] at e3
  simp only [af] at e1 e2 e3
  refine aK h hp (v:=.tuple #[.int .u64 ((a1 - b1 - k1) % 18446744073709551616),.int .u64 (if a1 < b1 + k1 then 1 else 0)]) ?_ ?_
  ·simp only [af]
   exact ⟨[_,_],rfl,by simp [ap,af]⟩
  ·have hrun:=mW hn (by decide) (by kernel_rfl) (fun fn=>ud fn) #[.int .u64 a1,.int .u64 b1,.int .u64 k1] w
   rw [qy a1 b1 k1 h1 h2 h3 h4 h5 h6] at hrun
   simp only [execOp,ho,resolve,Act.eval,Deferred.ofValue,Sem.run_bind,Sem.run_pure,Result.andThen_ok,invoke]
   rw [show (#[]++Array.map a.eval #[x',y',c']++#[])=#[.int .u64 a1,.int .u64 b1,.int .u64 k1] from by simp [e1,e2,e3]]
   exact hrun
 ·exact hr.elim
theorem rH {f : Nat -> D} {d : D} {K : List D -> List Nat -> Prop} (h : ∀ c ∈ dC d,aw c=true) (hk : K (dC d) []) : fh f d [] K:=by
 cases d <;> first
  | (simp only [fh,eE,dG,if_true,true_or,true_and];exact ⟨h,hk⟩)
  | (have h0:=h _ (List.mem_singleton.2 rfl);simp [aw] at h0;done)
  | (have h0:=h _ (List.mem_singleton.2 rfl);simp only [fh,eE,dG,if_true,true_or,true_and];exact ⟨h0,hk⟩)
theorem kX {f : Nat -> D} {sz len : Nat} : ∀ (ps : List (Nat × Opd)) (es : List (List D)) (bs : List Nat),es.length=len -> (∀ p ∈ ps,p.1 < len /\ (dC (vd f p.2)).length=sz /\ ∀ c ∈ dC (vd f p.2),aw c=true) ->
  eJ f sz [] ps es bs (fun es' bs'=>es'=fY f ps es /\ bs'=bs)
 | [],es,bs,_,_=>⟨rfl,rfl⟩
 | (i,x)::ps,es,bs,hl,h=>by
  obtain ⟨h1,h2,h3⟩:=h (i,x) (by simp)
  simp only [eJ]
  refine ⟨by omega,rH h3 ⟨h2,?_⟩⟩
  simp only [List.append_nil,fY]
  exact kX ps _ bs (by simpa using hl) fun p hp=>h p (by simp [hp])
section
variable {P : Program} {F : Fid} {nt : Nat} {S : Nat -> Prop} {L : Nat -> Option Loc} {w0 : World} {M0 : Mem} {f : Nat -> D} {M : Mem} {a : Act} {w : World} {o : Oper} {d : D} {Q : Exit -> Act -> World -> Prop}
theorem vf (h : SR F nt S L w0 M0 f M a w) (hp : bA nt f o.dst) {sz len : Nat} {zs : List D} {parts : List (Nat × Opd)} {parts' : Array (Nat × Operand)} {T : TypeId} (ho : o.op=.buildSlice T len parts')
  (hk : blsOk P F T sz len zs parts parts'.toList=true) (hr : res f (·=d) (.blsF sz len zs parts)) : o.wp P a w (bF F nt S L w0 M0 f o.dst d) Q:=by
 simp only [res] at hr
 obtain ⟨hr1,hr0,hr2,rfl⟩:=hr
 unfold blsOk at hk
 split at hk
 ·rename_i e hu
  simp only [Bool.and_eq_true,beq_iff_eq,List.all_eq_true,decide_eq_true_eq] at hk
  obtain ⟨⟨⟨⟨⟨⟨h1,h2⟩,h3⟩,h4⟩,h5⟩,h6⟩,h7⟩:=hk
  obtain ⟨z,i,hi,hiz,hz,hzs,hzc⟩:=zeroOk_z h3
  obtain ⟨ρ0,ω0,ho0⟩:=h.own
  have hzl : z.cells.toList.length=sz:=by simp [hzs,h2]
  let c0 : Array Value:=(Array.range (len * sz)).map ((if len * sz=0 then #[] else z.cells)[· % (if len * sz=0 then #[] else z.cells).size]!)
  have hc0 : c0.toList=(List.replicate len z.cells.toList).flatten:=by
   by_cases hl : len * sz=0
   ·have : len=0:=by rcases Nat.mul_eq_zero.1 hl with h | h;exact h;omega
    subst this
    simp [c0]
   ·simp only [c0,if_neg hl]
    exact range_cells z.cells len sz (by omega)
  have hA : AbsRows F L (mt S w0) f M a w sz len (List.replicate len zs) [] c0.toList (fun _ _=>none):=by
   refine ⟨by simp,by rw [hc0];simp only [List.length_flatten,List.map_replicate,hzl,List.sum_replicate_nat],fun e he=>by rw [(List.mem_replicate.1 he).2,h2],fun i' r off c' hi' hr=>?_,fun i off c e=>(by cases e),fun _ i off i' off' c e=>(by cases e)⟩
   obtain ⟨hlt,hr⟩:=rep_rows hi' hr
   have hof : off < sz:=by have:=(List.getElem?_eq_some_iff.1 hr).1;omega
   obtain ⟨u0,hu'⟩ : ∃ u0,z.cells.toList[off]? = some u0:=⟨_,List.getElem?_eq_getElem (by omega)⟩
   refine ⟨_,?_,hzc off c' _ hr hu'⟩
   rw [hc0,flatten_get _ _ _ (by rw [hzl];exact eK hlt hof),hzl,Nat.mul_comm i' sz,Nat.mul_add_mod,Nat.mod_eq_of_lt hof]
   exact hu'
  have hpw:=kX (f:=f) (sz:=sz) (len:=len) parts (List.replicate len zs) [] (by simp) hr1
  obtain ⟨esF,bsF,cellsF,srcF,⟨rfl,rfl⟩,g4,g5⟩:=fill_parts ho0 parts parts'.toList _ _ c0 _ _ h6 (fun p hp=>h7 p hp) hA hpw
  have hrun : (Instr.buildSlice T len (parts'.map fun (i,x)=>(i,a.eval x))).run P w=.ok (.slice (some ⟨w.heap.size,0,none⟩) len len) (w.alloc (.cells cellsF.toList.toArray e)):=by
   have hsm : ¬ len * sz > 2 ^ 24:=by omega
   have g4' : Instr.fill (fun i=>some (i * sz,sz)) c0 (parts'.map fun (i,x)=>(i,a.eval x)).toList=some cellsF:=by
    rw [Array.toList_map];exact g4
   simp only [Instr.buildSlice,Sem.run_bind,run_underlying hu,Result.andThen_ok,cq h1,hsm,if_false]
   by_cases hl : len * sz=0
   ·simp only [c0,hl,if_true] at g4'
    simp only [hl,if_true,Sem.run_bind,Sem.run_pure,Result.andThen_ok,g4',newRow,run_newObj,World.alloc_eq,Array.toArray_toList]
   ·simp only [c0,hl,if_false] at g4'
    simp only [hl,if_false,Sem.run_bind,Sem.run_pure,hz,Result.andThen_ok,g4',newRow,run_newObj,World.alloc_eq,Array.toArray_toList]
  have hle:=(alloc_holds h.holds cellsF.toList e).2.1
  refine after_new (T:=e) h (vs:=cellsF.toList) hp (v:=.slice (some ⟨w.heap.size,0,none⟩) len len) (fun ρ ω hO=>?_) (by simp only [execOp,ho,Sem.run_bind,hrun,Result.andThen_ok,Sem.run_pure])
  refine bg.of_pure ?_
  simp only [af,g5.n]
  refine ⟨_,_,cellsF.toList,sz,rfl,Nat.le_refl _,aZ.of_rows g5.u (by rw [g5.vl,g5.n]) (fun i' r off c' e1 e2=>?_),g5.u,fun _=>⟨_,rfl,by simpa using Mem.put_at M w.heap.size 0 cellsF.toList⟩⟩
  obtain ⟨u,k1,k2⟩:=g5.cells i' r off c' e1 e2
  refine ⟨u,k1,?_⟩
  have hc1:=hr2 r (List.mem_of_getElem? e1) c' (List.mem_of_getElem? e2)
  rcases k2 with ⟨_,k2⟩ | ⟨n,rfl,_⟩ | ⟨_,_,_,_,rfl,_⟩
  ·exact af.mono hle _ _ k2
  ·simp [aw] at hc1
  ·simp [aw] at hc1
 ·cases hk
theorem vg (h : SR F nt S L w0 M0 f M a w) (hp : bA nt f o.dst) {sz len : Nat} {zs : List D} {parts : List (Nat × Opd)} {parts' : Array (Nat × Operand)} {T : TypeId} (ho : o.op=.buildSlice T len parts')
  (hk : blsOk P F T sz len zs parts parts'.toList=true) (hr : res f (·=d) (.blsX sz len zs parts)) : o.wp P a w (bF F nt S L w0 M0 f o.dst d) Q:=by
 simp only [res] at hr
 obtain ⟨hr0,hr1,rfl⟩:=hr
 unfold blsOk at hk
 split at hk
 ·rename_i e hu
  simp only [Bool.and_eq_true,beq_iff_eq,List.all_eq_true,decide_eq_true_eq] at hk
  obtain ⟨⟨⟨⟨⟨⟨h1,h2⟩,h3⟩,h4⟩,h5⟩,h6⟩,h7⟩:=hk
  obtain ⟨z,i,hi,hiz,hz,hzs,hzc⟩:=zeroOk_z h3
  obtain ⟨ρ0,ω0,ho0⟩:=h.own
  have hzl : z.cells.toList.length=sz:=by simp [hzs,h2]
  let c0 : Array Value:=(Array.range (len * sz)).map ((if len * sz=0 then #[] else z.cells)[· % (if len * sz=0 then #[] else z.cells).size]!)
  have hc0 : c0.toList=(List.replicate len z.cells.toList).flatten:=by
   by_cases hl : len * sz=0
   ·have : len=0:=by rcases Nat.mul_eq_zero.1 hl with h | h;exact h;omega
    subst this
    simp [c0]
   ·simp only [c0,if_neg hl]
    exact range_cells z.cells len sz (by omega)
  have hzlen : (List.replicate len zs).flatten.length=len * sz:=by simp only [List.length_flatten,List.map_replicate,h2,List.sum_replicate_nat]
  have zero : RL (af F M) zs z.cells.toList:=by
   refine ⟨by rw [hzl,h2],fun j c u k1 k2=>?_⟩
   have k3:=hzc j c u k1 k2 (F:=F) (L:=L) (New:=mt S w0) (f:=f) (M:=M) (a:=a) (w:=w)
   have hc1:=List.all_eq_true.1 hr0 c (List.mem_of_getElem? k1)
   rcases k3 with ⟨_,k3⟩ | ⟨n,rfl,_⟩ | ⟨_,_,_,_,rfl,_⟩
   ·exact k3
   ·simp [aw] at hc1
   ·simp [aw] at hc1
  have fillOne : ∀ (M' : Mem) (ρ : Pa -> Loc),M.le M' -> (∀ p ∈ parts,∀ y,aj F p.2 y=true -> bg F M' ρ (vd f p.2) (a.eval y)) ->
    ∃ cells,Instr.fill (fun i=>some (i * sz,sz)) c0 (parts'.map fun (i,x)=>(i,a.eval x)).toList=some cells /\ RL (av F M' ρ) (je f sz len zs parts) cells.toList:=by
   intro M' ρ hle hv
   have hzz : RL (av F M' ρ) (List.replicate len zs).flatten c0.toList:=by
    rw [hc0]
    refine ⟨by rw [hzlen];simp only [List.length_flatten,List.map_replicate,hzl,List.sum_replicate_nat],fun j c u k1 k2=>?_⟩
    have hj : j < len * sz:=by rw [<- hzlen];exact (List.getElem?_eq_some_iff.1 k1).1
    rw [flatten_get _ _ _ (by rw [h2];exact hj),h2] at k1
    rw [flatten_get _ _ _ (by rw [hzl];exact hj),hzl] at k2
    exact av.of_pure (af.mono hle _ _ (zero.2 _ c u k1 k2))
   refine lH (fun i=>some (i * sz,sz)) (parts'.map fun (i,x)=>(i,a.eval x)).toList (parts.map fun p=>(p.1 * sz,sz,bZ (vd f p.2))) c0 _ hzz (by simpa using h6.symm) (fun p hp=>?_)
   rw [Array.toList_map,List.zip_map,List.mem_map] at hp
   obtain ⟨⟨q',q⟩,hq,rfl⟩:=hp
   have hq' : (q,q') ∈ parts.zip parts'.toList:=by
    obtain ⟨n,hn,e⟩:=List.mem_iff_getElem.1 hq
    simp only [List.length_zip] at hn
    rw [List.getElem_zip] at e
    simp only [Prod.mk.injEq] at e
    rw [List.mem_iff_getElem]
    exact ⟨n,by rw [List.length_zip];omega,by rw [List.getElem_zip,e.1,e.2]⟩
   obtain ⟨g1,g2⟩:=h7 _ hq'
   obtain ⟨g3,g4⟩:=hr1 q (List.of_mem_zip hq').1
   have hV:=hv q (List.of_mem_zip hq').1 q'.2 g1
   have hle2 : q.1 * sz + sz <= (List.replicate len zs).flatten.length:=by
    rw [hzlen,<- Nat.succ_mul];exact Nat.mul_le_mul_right _ g3
   simp only at g2
   refine ⟨by simp [g2],?_,?_,hle2⟩
   ·simp only [Prod.map]
    split at g4
    ·rename_i ds ex
     rw [ex] at hV ⊢
     have hV2:=hV.pure rfl
     have:=jo hV2 (fun e'=>by cases e')
     exact ⟨this.1,fun i d v h1 h2=>av.of_pure (this.2 i d v h1 h2)⟩
    ·rename_i ds ex
     rw [ex] at hV ⊢
     obtain ⟨vs,e2,r⟩:=hV
     rw [e2]
     exact r
    ·exact g4.elim
   ·simp only [Prod.map]
    split at g4
    ·rename_i ds ex;rw [ex];exact g4
    ·rename_i ds ex;rw [ex];exact g4
    ·exact g4.elim
  obtain ⟨cells,g4,_⟩:=fillOne M ρ0 (Mem.le_refl _) (fun p hp y hy=>ho0.opd hy)
  have hrun : (Instr.buildSlice T len (parts'.map fun (i,x)=>(i,a.eval x))).run P w=.ok (.slice (some ⟨w.heap.size,0,none⟩) len len) (w.alloc (.cells cells.toList.toArray e)):=by
   have hsm : ¬ len * sz > 2 ^ 24:=by omega
   simp only [Instr.buildSlice,Sem.run_bind,run_underlying hu,Result.andThen_ok,cq h1,hsm,if_false]
   by_cases hl : len * sz=0
   ·simp only [c0,hl,if_true] at g4
    simp only [hl,if_true,Sem.run_bind,Sem.run_pure,Result.andThen_ok,g4,newRow,run_newObj,World.alloc_eq,Array.toArray_toList]
   ·simp only [c0,hl,if_false] at g4
    simp only [hl,if_false,Sem.run_bind,Sem.run_pure,hz,Result.andThen_ok,g4,newRow,run_newObj,World.alloc_eq,Array.toArray_toList]
  have hle:=(alloc_holds h.holds cells.toList e).2.1
  refine after_new (T:=e) h (vs:=cells.toList) hp (v:=.slice (some ⟨w.heap.size,0,none⟩) len len) (fun ρ ω hO=>?_) (by simp only [execOp,ho,Sem.run_bind,hrun,Result.andThen_ok,Sem.run_pure])
  obtain ⟨cells',g6,g7⟩:=fillOne _ ρ hle (fun p hp y hy=>hO.opd hy)
  rw [g4] at g6
  cases g6
  exact ⟨_,_,cells.toList,rfl,⟨g7.1,g7.2⟩,by simpa using Mem.put_at M w.heap.size 0 cells.toList⟩
 ·cases hk
end
def uI (P : Program) (F : Fid) : NOp -> Op -> Bool
 | .mov x,.move y=>aj F x y
 | .mov x,.assign y=>aj F x y
 | .nck x,.nilCheck y=>aj F x y
 | .pick c x y,.pick c' x' y'=>aj F c c' && aj F x x' && aj F y y'
 | .bin op x y,.binOp op' _ x' y' _=>op == op' && aj F x x' && aj F y y'
 | .un op x,.unOp op' _ x'=>op == op' && aj F x x'
 | .conv k x,.convert src dst x'=>pR P k src dst && aj F x x'
 | .fld off n ag x,.field t x' i=>qX P t i off n ag && aj F x x'
 | .idxA len sz ag x i,.index t x' i'=>nL P t len sz ag && aj F x x' && aj F i i'
 | .idxS x i,.index t x' i'=>jQ P t && aj F x x' && aj F i i'
 | .ext i x,.extract x' i'=>i == i' && aj F x x'
 | .fad off x,.fieldAddr t x' i=>qW P t i off && aj F x x'
 | .iadS sz x i,.indexAddr t x' i'=>qe P t sz && aj F x x' && aj F i i'
 | .iadA len sz x i,.indexAddr t x' i'=>fP P t len sz && aj F x x' && aj F i i'
 | .ld n ag x,.load t x'=>tyS P t n ag && aj F x x'
 | .boxF x,.box _ x'=>aj F x x'
 | .blsF sz len zs ps,.buildSlice t len' ps'=>len == len' && blsOk P F t sz len zs ps ps'.toList
 | .blsX sz len zs ps,.buildSlice t len' ps'=>len == len' && blsOk P F t sz len zs ps ps'.toList
 | .bld zs ps,.build t ps'=>qO P F t zs ps ps'.toList
 | .len x,.call { callee:=.builtin .len,args:=⟨[x']⟩,argTypes:=⟨[t]⟩ }=>lw P t && aj F x x'
 | .lens x,.call { callee:=.builtin .len,args:=⟨[x']⟩,argTypes:=⟨[t]⟩ }=>jQ P t && aj F x x'
 | .mk g xs,.makeFunc (.func fi) first ys=>F g == some fi && first.isEmpty && bT F xs ys.toList
 | .slc sz x lo hi,.slice t x' lo' hi' none=>vc P t sz && aj F x x' && gL F lo lo' && gL F hi hi'
 | .slS x lo hi,.slice t x' lo' hi' none=>jQ P t && aj F x x' && gL F lo lo' && gL F hi hi'
 | .slA len sz x,.slice t x' none none none=>fP P t len sz && aj F x x'
 | .cvS x,.convert src dst x'=>tH P src dst && aj F x x'
 | .mn x y,.call { callee:=.builtin .min,args:=⟨[x',y']⟩,argTypes:=_ }=>aj F x x' && aj F y y'
 | .mx x y,.call { callee:=.builtin .max,args:=⟨[x',y']⟩,argTypes:=_ }=>aj F x x' && aj F y y'
 | .beq neg ks x y,.binOp op t x' y' _=>op == (if neg then .neq else .eql) && nD P t ks && aj F x x' && aj F y y'
 | .add64 x y c,.call { callee:=.value (.func fi),args:=⟨[x',y',c']⟩,argTypes:=_ }=>mV P fi "math/bits.Add64" && aj F x x' && aj F y y' && aj F c c'
 | .sub64 x y c,.call { callee:=.value (.func fi),args:=⟨[x',y',c']⟩,argTypes:=_ }=>mV P fi "math/bits.Sub64" && aj F x x' && aj F y y' && aj F c c'
 | .mpl sh kt et ok z m x,.lookup t m' x' ok'=>ok == ok' && mapOk F t kt et sh z && aj F m m' && aj F x x'
 | _,_=>false
end
end Go.Gv
